/-
 THE CONDITIONS OF A WALK AS ONE FORMULA: a function's body.
-/
import Derived.Test.YtfijlibaeahlaaaGreatDoorKb1
import Derived.ProofKit
import Derived.Laws.AppendOwn

set_option linter.unusedVariables false
set_option linter.unusedSimpArgs false
section
namespace Go.Vc
variable {ds:List Deferred}
open Go.RowKit
abbrev bS:=List (Nat × gU)
def bh.Arg(α:Type):bh->Type
 | .int _=>Int->α
 | .bool=>Bool->α
 | .str=>ByteArray->α
 | .ptr=>Option Addr->α
 | .slice=>Option Addr->Nat->Nat->α
 | .map=>Option Nat->α
 | .fn=>FuncId->Array Value->Array Value->α
 | .any=>Value->α
 | .rj=>Nat->Nat->α
def OW(α:Type):List bh->Type
 | []=>α
 | s :: r=>bh.Arg (OW α r) s
def gU.Arg(α:Type):gU->Type
 | .one s=>s.Arg α
 | .agg l=>OW α l
def bU(τ:Type):bS->Type
 | []=>τ
 | (_,s) :: r=>s.Arg (bU τ r)
def bh.app{α:Type}:(s:bh)->s.Arg α->Value->Option α
 | .int k,f,.int k' n=>if k=k' then some (f n) else none
 | .bool,f,.bool b=>some (f b)
 | .str,f,.string s=>some (f s)
 | .ptr,f,.pointer p=>some (f p)
 | .slice,f,.slice p n c=>some (f p n c)
 | .map,f,.map r=>some (f r)
 | .fn,f,.func (.func g) a c=>some (f g a c)
 | .any,f,v=>match cg v with|true=>none|false=>some (f v)
 | .rj,f,.pointer (some ⟨b,o,none⟩)=>some (f b o)
 | _,_,_=>none
def F0{α:Type}:(l:List bh)->OW α l->List Value->Option α
 | [],x,[]=>some x
 | s :: r,f,v :: vs=>match s.app f v with
  | some g=>F0 r g vs
  | none=>none
 | _,_,_=>none
def gU.app{α:Type}:(s:gU)->s.Arg α->Value->Option α
 | .one s,f,v=>s.app f v
 | .agg l,f,.agg cs=>F0 l f cs.toList
 | _,_,_=>none
def bU.app{τ:Type}:(l:bS)->bU τ l->List Value->Option τ
 | [],x,[]=>some x
 | (_,s) :: r,f,v :: vs=>match s.app f v with
  | some g=>bU.app r g vs
  | none=>none
 | _,_,_=>none
def zb(x:Option (World->Prop))(w:World):Prop:=match x with|some cr=>cr w|none=>False
def ZK(x:Option (World->Nat))(w:World):Nat:=match x with|some cr=>cr w|none=>0
def bh.all:bh->(Value->Prop)->Prop
 | .int k,K=>∀ n:Int,K (.int k n)
 | .bool,K=>∀ b:Bool,K (.bool b)
 | .str,K=>∀ s:ByteArray,K (.string s)
 | .ptr,K=>∀ p:Option Addr,K (.pointer p)
 | .slice,K=>∀ p:Option Addr,∀ n c:Nat,K (.slice p n c)
 | .map,K=>∀ r:Option Nat,K (.map r)
 | .fn,K=>∀ (f:FuncId) (a c:Array Value),K (.func (.func f) a c)
 | .any,K=>∀ v:Value,K v
 | .rj,K=>∀ b o:Nat,K (.pointer (some ⟨b,o,none⟩))
def OS:List bh->(List Value->Prop)->Prop
 | [],K=>K []
 | s :: r,K=>s.all λv=>OS r λvs=>K (v :: vs)
def gU.all:gU->(Value->Prop)->Prop
 | .one s,K=>s.all K
 | .agg l,K=>OS l λvs=>K (.agg vs.toArray)
def bS.all:bS->(List Value->Prop)->Prop
 | [],K=>K []
 | (_,s) :: r,K=>s.all λv=>bS.all r λvs=>K (v :: vs)
theorem bh.oQ{α:Type}{s:bh}{f:s.Arg α}{v:Value}{x:α}(h:s.app f v=some x){K:Value->Prop}(hK:s.all K):K v/\cg v=false:=by
  cases s
  case fn =>
    cases v
    case func g a c=>cases g<;>simp only [bh.app] at h<;>first|(cases h;done)|exact ⟨hK _ _ _,rfl⟩
    all_goals simp only [bh.app] at h;cases h
  case rj =>
    cases v
    case pointer p =>
      rcases p with _|⟨b,o,s⟩
      · simp only [bh.app] at h;cases h
      · cases s with
        | none=>exact ⟨hK _ _,rfl⟩
        | some s=>simp only [bh.app] at h;cases h
    all_goals simp only [bh.app] at h;cases h
  all_goals
   cases v<;>simp only [bh.app,cg] at h<;>first
    | (cases h;done)
    | exact ⟨hK _,rfl⟩
    | exact ⟨hK _ _ _,rfl⟩
    | (split at h
       · rename_i e;subst e;exact ⟨hK _,rfl⟩
       · cases h)
    | (split at h
       · cases h
       · rename_i hu;exact ⟨hK _,hu⟩)
theorem a4h{α:Type}:∀ {l:List bh} {f:OW α l} {vs:List Value} {x:α},F0 l f vs=some x->∀ {K:List Value->Prop},OS l K->K vs
 | [],_,[],_,_,_,hK=>hK
 | s :: r,f,v :: vs,x,h,K,hK=>by
  unfold F0 at h;split at h
  .rename_i g hg;exact a4h h (bh.oQ hg hK).1
  .cases h
 | [],_,_ :: _,_,h,_,_=>by simp [F0] at h
 | _ :: _,_,[],_,h,_,_=>by simp [F0] at h
theorem gU.oQ{α:Type}{s:gU}{f:s.Arg α}{v:Value}{x:α}(h:s.app f v=some x){K:Value->Prop}(hK:s.all K):K v/\cg v=false:=by
 unfold gU.app at h;split at h
 .exact bh.oQ h hK
 .rename_i cs;have:=a4h h hK;exact ⟨by simpa using this,rfl⟩
 .cases h
theorem bU.oQ{τ:Type}:∀ {l:bS} {f:bU τ l} {vs:List Value} {x:τ},bU.app l f vs=some x->∀ {K:List Value->Prop},bS.all l K->K vs/\vs.length=l.length/\∀ v∈vs,cg v=false
 | [],_,[],_,_,_,hK=>⟨hK,rfl,λv hv=>(by cases hv)⟩
 | (t,s) :: r,f,v :: vs,x,h,K,hK=>by
  unfold bU.app at h;split at h
  .rename_i g hg;obtain ⟨h1,h2⟩:=gU.oQ hg hK;obtain ⟨h3,h4,h5⟩:=bU.oQ h h1;refine ⟨h3,by simp [h4],λu hu=>?_⟩;rcases List.mem_cons.1 hu with rfl|hu
   .exact h2
   .exact h5 u hu
  .cases h
 | [],_,_ :: _,_,h,_,_=>by simp [bU.app] at h
 | _ :: _,_,[],_,h,_,_=>by simp [bU.app] at h
theorem bh.all_true:∀ {s:bh} {K:Value->Prop},(∀ v,K v)->s.all K:=by
 intro s K h;cases s<;>simp only [bh.all]<;>intros<;>exact h _
theorem a4f:∀ {l:List bh} {K:List Value->Prop},(∀ v,K v)->OS l K
 | [],_,h=>h _
 | _ :: _,_,h=>bh.all_true λ_=>a4f λ_=>h _
theorem gU.all_true{s:gU}{K:Value->Prop}(h:∀ v,K v):s.all K:=by
 cases s
 .exact bh.all_true h
 .exact a4f λ_=>h _
theorem bS.all_true:∀ {l:bS} {K:List Value->Prop},(∀ v,K v)->l.all K
 | [],_,h=>h _
 | _ :: _,_,h=>gU.all_true λ_=>bS.all_true λ_=>h _
theorem bU.OV{τ:Type}{l:bS}{f:bU τ l}{vs:List Value}{x:τ}(h:bU.app l f vs=some x):vs.length=l.length/\∀ v∈vs,cg v=false :=
 (bU.oQ h (K:=λ_=>True) (bS.all_true λ_=>trivial)).2
def bI{α:Type}(p:α->Prop):Prop:=∃ x,p x
theorem bK{α:Type}{p:α->Prop}(x:α)(h:p x):bI p:=⟨x,h⟩
def slotsOf(l:bS)(s:Fr):List Value:=l.map λv=>gw v.1 s.l
def DZ(l:bS)(a:Act):List Value:=l.map λv=>a.tmps.getD v.1 undef
def b9(t:Nat):List Nat->Bool
 | []=>false
 | x :: r=>match Nat.beq t x with|true=>true|false=>b9 t r
theorem p6{t:Nat}:∀ {l:List Nat},b9 t l=true ↔ t∈l
 | []=>by simp [b9]
 | x :: r=>by
  unfold b9;cases h:Nat.beq t x with
  | true=>have:=Nat.eq_of_beq_eq_true h;simp [this]
  | false=>have:=Nat.ne_of_beq_eq_false h;simp [this,p6]
def Fr.drop(s:Fr)(asg:List Nat):Fr:=⟨s.n,q2 (λt => !b9 t asg) s.l⟩
def Fr.keep(s:Fr)(k:Option (List Nat)):Fr:=match k with|none=>s|some k=>⟨s.n,q2 (λt=>b9 t k) s.l⟩
theorem VA(s:Fr)(asg:List Nat)(i:Nat):(s.drop asg).get i=if i∈asg then w9 else s.get i:=by
 simp only [Fr.drop,Fr.get,FI];by_cases h:i∈asg
 .have:b9 i asg=true:=p6.2 h;simp [h,this]
 .have:b9 i asg=false:=by cases hm:b9 i asg;rfl;exact absurd (p6.1 hm) h
  simp [h,this]
theorem LI{s:Fr}{a:Act}(h:cQ ds s a)(k:Option (List Nat)):cQ ds (s.keep k) a:=by
 cases k with
 | none=>exact h
 | some k =>
  refine ⟨h.defers,h.size,λi hi=>?_⟩;simp only [Fr.keep,Fr.get,FI] at hi ⊢;split at hi
  .rename_i hc;rw [if_pos hc];exact h.slot i hi
  .cases hi
theorem LJ{D:Nat->Prop}{s0 s:Fr}(h:aR D s0 s)(k:Option (List Nat)):aR D s0 (s.keep k):=by
 cases k with
 | none=>exact h
 | some k =>
  refine ⟨h.1,λi hi hu=>?_⟩;simp only [Fr.keep,Fr.get,FI] at hu ⊢;split at hu
  .rename_i hc;rw [if_pos hc];exact h.2 i hi hu
  .cases hu
def J2:bS->List Value->List (Nat × Value)->List (Nat × Value)
 | (t,_) :: r,v :: vs,s=>(t,v) :: J2 r vs s
 | _,_,s=>s
def AN(l:bS)(vs:List Value)(s:Fr):Fr:=⟨s.n,J2 l vs s.l⟩
theorem RG(t:Nat)(sh:gU)(r:bS)(v:Value)(vs:List Value)(s:Fr)(i:Nat):
  (AN ((t,sh) :: r) (v :: vs) s).get i=if t=i then v else (AN r vs s).get i:=by
 simp only [AN,Fr.get,J2,gw];cases hb:Nat.beq t i with
 | true=>simp [Nat.eq_of_beq_eq_true hb]
 | false=>simp [Nat.ne_of_beq_eq_false hb]
theorem aRD{D:Nat->Prop}{l:List Nat}{s:Fr}:aR D s (s.drop l) :=
 ⟨rfl,λi _ hu=>by
  rw [VA] at hu ⊢;split at hu
  .cases hu
  .rename_i hc;rw [if_neg hc]⟩
theorem aH3{D:Nat->Prop}{s0:Fr}:∀ {l:bS} {vs:List Value} {s:Fr},(∀ v∈l,D v.1)->aR D s0 s->aR D s0 (AN l vs s)
 | [],_,_,_,h=>h
 | _ :: _,[],_,_,h=>h
 | (t,sh) :: r,v :: vs,s,hl,h=>by
  have ih:=aH3 (l:=r) (vs:=vs) (λx hx=>hl x (List.mem_cons_of_mem _ hx)) h;refine ⟨ih.1,λi hi=>?_⟩;rw [RG,if_neg (by rintro rfl;exact hi (hl (t,sh) (by simp)))];exact ih.2 i hi
def meet(asg:List Nat)(l:bS)(vs:List Value)(s:Fr):Fr:=AN l vs (s.drop asg)
theorem Qq{D:Nat->Prop}{asg:List Nat}{l:bS}{vs:List Value}{s:Fr}(h2:∀ v∈l,D v.1):aR D s (meet asg l vs s) :=
 aH3 h2 aRD
theorem aH2{s:Fr}{a:Act}:∀ {l:bS} {vs:List Value},cQ ds s a->(∀ (j:Nat) t sh v,l[j]? = some (t,sh)->vs[j]? = some v->a.tmps.getD t undef=v)->cQ ds (AN l vs s) a
 | [],_,h,_=>h
 | _ :: _,[],h,_=>h
 | (t,sh) :: r,v :: vs,h,hv=>by
  have ih:=aH2 (l:=r) (vs:=vs) h (λj t' aYp v' h1 h2=>hv (j+1) t' aYp v' (by simpa using h1) (by simpa using h2));have h0:=hv 0 t sh v (by simp) (by simp);refine ⟨ih.defers,ih.size,λi hi=>?_⟩;rw [RG] at hi ⊢;split at hi
  .rename_i e;subst e;rw [if_pos rfl];exact h0
  .rename_i e;rw [if_neg e];exact ih.slot i hi
def Qi(s':Fr):List (Nat × Value)->Bool
 | []=>true
 | (t,_) :: r=>match cg (gw t s'.l) with|true=>false|false=>Qi s' r
def Qj(asg:List Nat)(s s':Fr):Bool:=Qi s' (s.drop asg).l
theorem LL{s':Fr}{i:Nat}:∀ {l:List (Nat × Value)},Qi s' l=true->cg (gw i l)=false->cg (s'.get i)=false
 | [],_,h=>by cases h
 | (t,v) :: r,hk,h=>by
  unfold Qi at hk;split at hk
  .cases hk
  .rename_i hu;unfold gw at h;split at h
   .rename_i hb;have:=Nat.eq_of_beq_eq_true hb;subst this;exact hu
   .exact LL hk h
theorem aC8{asg:List Nat}{s:Fr}{i:Nat}(h:cg ((s.drop asg).get i)=false):cg (s.get i)=false:=by
 rw [VA] at h;split at h
 .cases h
 .exact h
theorem Fy{s s':Fr}{a:Act}{asg:List Nat}{l:bS}{vs:List Value}(hs:cQ ds s' a)(hu:aR (λt=>t∈asg) s s')(hsub:∀ i,cg ((s.drop asg).get i)=false->cg (s'.get i)=false)(hvs:vs=slotsOf l s')(hk:∀ v∈vs,cg v=false):cQ ds (meet asg l vs s) a:=by
 have h1:cQ ds (s.drop asg) a:=by
  refine ⟨hs.defers,by rw [hs.size,hu.1];rfl,λi hi=>?_⟩;have hk':=hsub i hi;rw [VA] at hi ⊢;split at hi
  .cases hi
  .rename_i hm;rw [if_neg hm,hs.slot i hk'];exact hu.2 i hm hk'
 refine aH2 h1 λj t sh v h2 h3=>?_;subst hvs;simp only [slotsOf,List.getElem?_map,h2,Option.map_some,Option.some.injEq] at h3;rw [<-h3];have:cg (s'.get t)=false:=by
  show cg (gw t s'.l)=false;rw [h3];exact hk v (by rw [<-h3];exact List.mem_map.2 ⟨(t,sh),List.mem_of_getElem? h2,rfl⟩)
 exact hs.slot t this
theorem aXL{asg:List Nat}{l:bS}{vs:List Value}{s:Fr}{a:Act}(hs:cQ ds (meet asg l vs s) a)(hn:(l.map (·.1)).Nodup)(hlen:vs.length=l.length)(hk:∀ v∈vs,cg v=false)(hb:∀ v∈l,v.1<s.n):
  DZ l a=vs:=by
 have key:∀ (l:bS) (vs:List Value) (s:Fr),(l.map (·.1)).Nodup->vs.length=l.length->(∀ v∈l,v.1<s.n)->slotsOf l (AN l vs s)=vs:=by
  intro l
  induction l with
  | nil=>intro vs s _ h _;cases vs<;>simp_all [slotsOf]
  | cons x r ih =>
   obtain ⟨t,sh⟩:=x;intro vs s hn hl hb;cases vs with
   | nil=>simp at hl
   | cons v vs =>
    have a8m:=ih vs s (by simp at hn;exact hn.2) (by simpa using hl) (λv hv=>hb v (List.mem_cons_of_mem _ hv));simp only [slotsOf,List.map_cons]
    congr 1
    .show Fr.get _ t=v;rw [RG,if_pos rfl]
    .simp only [slotsOf] at a8m
     conv=>rhs;rw [<-a8m]
     apply List.map_congr_left;rintro ⟨y1,aKq⟩ hy;show Fr.get _ y1=Fr.get _ y1;rw [RG,if_neg];rintro e;cases e;simp at hn;exact hn.1 _ hy
 have h1:=key l vs (s.drop asg) hn hlen (λv hv=>hb v hv);have:DZ l a=slotsOf l (meet asg l vs s):=by
  unfold slotsOf DZ;apply List.map_congr_left;intro y hy;refine hs.slot _ (hk _ ?_);have hm:gw y.1 (meet asg l vs s).l∈slotsOf l (meet asg l vs s):=List.mem_map.2 ⟨y,hy,rfl⟩
  rwa [show slotsOf l (meet asg l vs s)=vs from h1] at hm
 rw [this];exact h1
structure Hints where
 /-- slots whose sums may wrap -/
 wrap:List Nat:=[]
 /-- regions with guards that are walked in the text's order -/
 split:List Nat:=[]
 /-- regions that are walked in the text's order,every guard said to hold -/
 sure:List Nat:=[]
 /-- regions whose calls may draw -/
 BZ:List Nat:=[]
 /-- slots that are read outside the region that writes them -/
 keep:Option (List Nat):=none
 /-- regions whose order is drawn,and that write or call: the order in which they are walked;'true': a read -/
 held:List (Nat × List (Nat × Bool)):=[]
 loops:List (Nat × bS):=[]
 F6:List (Nat × bS):=[]
def zO:Code->Nat
 | .region id _ _=>id
 | .seq a b=>zO a
 | .block _ b=>zO b
 | .loop b=>zO b
 | _=>100000
def vI(l:List Oper):List Nat:=l.filterMap (·.dst)
def asg:Code->List Nat
 | .region _ ops _=>vI ops.toList
 | .seq a b=>asg a++asg b
 | .cond _ a b=>asg a++asg b
 | .block _ b=>asg b
 | .loop b=>asg b
 | .scope b=>asg b
 | _=>[]
def guarded(l:List Oper):Bool:=l.any λo=>o.guard.isSome
def Qz:List Nat->Bool
 | []=>true
 | x :: r => !b9 x r&&Qz r
theorem aEK:∀ {l:List Nat},Qz l=true->l.Nodup
 | [],_=>List.nodup_nil
 | x :: r,h=>by
  simp only [Qz,Bool.and_eq_true,Bool.not_eq_true'] at h;refine List.nodup_cons.2 ⟨λhm=>?_,aEK h.2⟩;rw [p6.2 hm] at h;cases h.1
def Gf(asg:List Nat)(l:bS)(s:Fr):Bool:=List.all l (λv=>b9 v.1 asg&&Nat.blt v.1 s.n)&&Qz (l.map (·.1))
def R5(P:Program)(ops:Array Oper):Bool:=P.follows .mixedOrders&&Region.lexB .any ops
def aRC(P:Program)(H:Hints)(ops:Array Oper)(s:Fr)(w:World)(K:Fr->World->Prop):Prop :=
 Rk P (λt=>b9 t H.wrap) true ops s w λs' w'=>K (s'.keep H.keep) w'
def aIm(P:Program)(H:Hints)(id:Nat)(ops:Array Oper)(s:Fr)(w:World)(K:Fr->World->Prop):Prop :=
 match guarded ops.toList && !(b9 id H.split||b9 id H.sure) with
 | true=>Rk P (λt=>b9 t H.wrap) (b9 id H.BZ) ops s w λs' w'=>K (s'.keep H.keep) w'
 | false=>Dh P (λt=>b9 t H.wrap) (b9 id H.sure) ops ops.toList s w λs' w'=>K (s'.keep H.keep) w'
def a84(k:Nat):List (Nat × List (Nat × Bool))->Option (List (Nat × Bool))
 | []=>none
 | (t,l) :: r=>match Nat.beq t k with|true=>some l|false=>a84 k r
def aHM(P:Program)(H:Hints)(id:Nat)(ops:Array Oper)(draw:Bool)(s:Fr)(w:World)(K:Fr->World->Prop):Prop :=
 match draw with
 | true=>match a84 id H.held with
  | some ord=>Wc P (λt=>b9 t H.wrap) ops ord s w λs' w'=>K (s'.keep H.keep) w'
  | none=>match R5 P ops with
   | true=>aRC P H ops s w K
   | false=>False
 | false=>aIm P H id ops s w K
def Wi(k:Nat):List (Nat × bS)->Option bS
 | []=>none
 | (t,l) :: r=>match Nat.beq t k with|true=>some l|false=>Wi k r
def o9(P:Program)(H:Hints):Code->(Exit->Fr->World->Prop)->Fr->World->Prop
 | .skip,Q,s,w=>Q .normal s w
 | .region id ops draw,Q,s,w=>aHM P H id ops draw s w (Q .normal)
 | .seq x y,Q,s,w =>
  match Wi (zO y) H.F6 with
  | none=>o9 P H x (λe s' w'=>match e with | .normal=>o9 P H y Q s' w'|e=>Q e s' w') s w
  | some l =>
   match Gf (asg x) l s with
   | true =>
    ∃ J:bU (World->Prop) l,o9 P H x (λe s' w'=>match e with
      | .normal=>match Qj (asg x) s s' with|true=>zb (bU.app l J (slotsOf l s')) w'|false=>False
      | e=>Q e s' w') s w /\
     l.all λvs=>∀ w',zb (bU.app l J vs) w'->o9 P H y Q (meet (asg x) l vs s) w'
   | false=>False
 | .cond c x y,Q,s,w=>match s.eval c with
  | .bool b=>U b (o9 P H x Q s w) (o9 P H y Q s w)
  | _=>False
 | .block id b,Q,s,w=>o9 P H b (λe s' w'=>match e with | .exit n=>(match Nat.beq n id with|true=>Q .normal s' w'|false=>Q (.exit n) s' w')|e=>Q e s' w') s w
 | .loop b,Q,s,w =>
  match Wi (zO b) H.loops with
  | none=>False
  | some l =>
   match Gf (asg b) l s with
   | true =>
    ∃ (cr:bU (World->Prop) l) (m:bU (World->Nat) l),zb (bU.app l cr (slotsOf l s)) w /\
     l.all λvs=>∀ w',zb (bU.app l cr vs) w' ->
      o9 P H b (λe s' w''=>match e with
       | .normal=>match Qj (asg b) s s' with
        | true=>zb (bU.app l cr (slotsOf l s')) w''/\ZK (bU.app l m (slotsOf l s')) w''<ZK (bU.app l m vs) w'
        | false=>False
       | e=>Q e s' w'') (meet (asg b) l vs s) w'
   | false=>False
 | .exit id,Q,s,w=>Q (.exit id) s w
 | .ret,Q,s,w=>Q .ret s w
 | _,_,_,_=>False
theorem Q8{x:Option (World->Prop)}{w:World}(h:zb x w):∃ cr,x=some cr/\cr w:=by
 cases x with
 | none=>exact h.elim
 | some cr=>exact ⟨cr,rfl,h⟩
theorem aWv{s:Fr}{a:Act}{l:bS}(hs:cQ ds s a)(hk:∀ v∈slotsOf l s,cg v=false):DZ l a=slotsOf l s:=by
 unfold slotsOf DZ;apply List.map_congr_left;intro y hy;exact hs.slot _ (hk _ (List.mem_map.2 ⟨y,hy,rfl⟩))
theorem Rw{asg:List Nat}{l:bS}{s:Fr}(h:Gf asg l s=true):(∀ v∈l,v.1∈asg/\v.1<s.n)/\(l.map (·.1)).Nodup:=by
 simp only [Gf,Bool.and_eq_true] at h;refine ⟨λv hv=>?_,aEK h.2⟩;have:=List.all_eq_true.1 h.1 v hv;simp only [Bool.and_eq_true] at this;exact ⟨p6.1 this.1,by have h2:=this.2;rw [Nat.blt_eq] at h2;exact h2⟩
theorem aZq{P:Program}{H:Hints}:∀ (c:Code) {Q':Exit->Fr->World->Prop} {Q:Exit->Act->World->Prop} {s:Fr} {a:Act} {w:World},
  o9 P H c Q' s w->cQ ds s a->(∀ e s' a' w',Q' e s' w'->cQ ds s' a'->aR (λt=>t∈asg c) s s'->Q e a' w')->c.wp P Q a w:=by
 intro c
 induction c with
 | skip=>intro Q' Q s a w h hs hQ;exact wp_skip (hQ _ _ _ _ h hs (aR.refl _ _))
 | region id ops draw =>
  intro Q' Q s a w h hs hQ;have hD:∀ o∈ops.toList,∀ t,o.dst=some t->t∈vI ops.toList:=λo ho t ht=>List.mem_filterMap.2 ⟨o,ho,ht⟩;simp only [o9,aHM] at h;cases draw with
  | true =>
   simp only at h;split at h
   .exact aVj (D:=λt=>t∈vI ops.toList) (λj o t ho ht=>hD o (by simpa using Array.mem_of_getElem? ho) t ht) h hs (λs' a' w' hk hs' hu=>hQ _ _ _ _ hk (LI hs' _) (LJ hu _))
   .split at h
    .rename_i hc;simp only [R5,Bool.and_eq_true] at hc;exact aYy hc.1 hc.2 hD h hs (λs' a' w' hk hs' hu=>hQ _ _ _ _ hk (LI hs' _) (LJ hu _))
    .exact h.elim
  | false =>
   simp only [aIm] at h;split at h
   .exact aYz hD h hs (λs' a' w' hk hs' hu=>hQ _ _ _ _ hk (LI hs' _) (LJ hu _))
   .refine wp_region_list ?_;exact S0 (D:=λt=>t∈vI ops.toList) (s0:=s) (λj o t ho ht=>hD o (by simpa using Array.mem_of_getElem? ho) t ht) (λs' a' w' hk hs' hu=>hQ _ _ _ _ hk (LI hs' _) (LJ hu _)) _ _ _ _ hD h hs (aR.refl _ _)
 | seq x y u7 u9 =>
  intro Q' Q s a w h hs hQ;simp only [o9] at h;refine wp_seq ?_;split at h
  .refine u7 h hs ?_;intro e s' a' w' hq hs' hu;have aF:aR (λt=>t∈asg (.seq x y)) s s':=hu.mono λi hi=>List.mem_append.2 (.inl hi);cases e with
   | normal =>
    simp only [Exit.then];refine u9 hq hs' λe s'' UI w'' qj Wt oo=>hQ _ _ _ _ qj Wt ?_;exact aF.trans (oo.mono λi hi=>List.mem_append.2 (.inr hi))
   | exit n=>exact hQ _ _ _ _ hq hs' aF
   | goto n=>exact hQ _ _ _ _ hq hs' aF
   | ret=>exact hQ _ _ _ _ hq hs' aF
   | panic n=>exact hQ _ _ _ _ hq hs' aF
   | outgrown=>exact hQ _ _ _ _ hq hs' aF
  .rename_i l hl;split at h
   .rename_i hok;obtain ⟨hv,hn⟩:=Rw hok;obtain ⟨J,h1,h2⟩:=h;refine u7 h1 hs ?_;intro e s' a' w' hq hs' hu;have aF:aR (λt=>t∈asg (.seq x y)) s s':=hu.mono λi hi=>List.mem_append.2 (.inl hi);cases e with
    | normal =>
     simp only [Exit.then];simp only at hq;split at hq
     .rename_i hsub;obtain ⟨cr,hI,acm⟩:=Q8 hq;obtain ⟨hlen,hk⟩:=bU.OV hI;have h3:=(bU.oQ hI h2).1 w' hq;refine u9 h3 (Fy hs' hu (λi=>LL hsub) rfl hk) λe s'' UI w'' qj Wt oo=>hQ _ _ _ _ qj Wt ?_;refine aR.trans (Qq (λv nk=>List.mem_append.2 (.inl (hv v nk).1))) (oo.mono λi hi=>List.mem_append.2 (.inr hi))
     .exact hq.elim
    | exit n=>exact hQ _ _ _ _ hq hs' aF
    | goto n=>exact hQ _ _ _ _ hq hs' aF
    | ret=>exact hQ _ _ _ _ hq hs' aF
    | panic n=>exact hQ _ _ _ _ hq hs' aF
    | outgrown=>exact hQ _ _ _ _ hq hs' aF
   .exact h.elim
 | cond c x y u7 u9 =>
  intro Q' Q s a w h hs hQ;simp only [o9] at h;split at h
  .rename_i b hb;have hc:a.eval c=.bool b:=by rw [hs.eval (by rw [hb];rfl),hb]
   cases b with
   | true=>exact wp_cond_true hc (u7 h hs λe s' a' w' hq hs' hu=>hQ _ _ _ _ hq hs' (hu.mono λi hi=>List.mem_append.2 (.inl hi)))
   | false=>exact wp_cond_false hc (u9 h hs λe s' a' w' hq hs' hu=>hQ _ _ _ _ hq hs' (hu.mono λi hi=>List.mem_append.2 (.inr hi)))
  .exact h.elim
 | block id b ih =>
  intro Q' Q s a w h hs hQ;simp only [o9] at h;refine wp_block (ih h hs ?_);intro e s' a' w' hq hs' hu;cases e with
  | exit n =>
   simp only [Exit.inBlock];simp only at hq;split at hq
   .rename_i e;rw [if_pos (Nat.eq_of_beq_eq_true e)];exact hQ _ _ _ _ hq hs' hu
   .rename_i e;rw [if_neg (Nat.ne_of_beq_eq_false e)];exact hQ _ _ _ _ hq hs' hu
  | normal=>exact hQ _ _ _ _ hq hs' hu
  | goto n=>exact hQ _ _ _ _ hq hs' hu
  | ret=>exact hQ _ _ _ _ hq hs' hu
  | panic n=>exact hQ _ _ _ _ hq hs' hu
  | outgrown=>exact hQ _ _ _ _ hq hs' hu
 | loop b ih =>
  intro Q' Q s a w h hs hQ;simp only [o9] at h;split at h
  .exact h.elim
  .rename_i l hl;split at h
   .rename_i hok;obtain ⟨hv,hn⟩:=Rw hok;obtain ⟨cr,m,h0,h1⟩:=h;have start:∃ vs,zb (bU.app l cr vs) w/\cQ ds (meet (asg b) l vs s) a:=by
     obtain ⟨J,zS,_⟩:=Q8 h0;exact ⟨_,h0,Fy hs (aR.refl _ _) (λi=>aC8) rfl (bU.OV zS).2⟩
    refine wp_loop (λa' w'=>∃ vs,zb (bU.app l cr vs) w'/\cQ ds (meet (asg b) l vs s) a') (λa' w'=>ZK (bU.app l m (DZ l a')) w') start ?_;rintro a1 w1 ⟨vs,hI,hs1⟩;obtain ⟨J,zS,acn⟩:=Q8 hI;obtain ⟨hlen,hk⟩:=bU.OV zS;have h2:=(bU.oQ zS h1).1 w1 hI;have vP:DZ l a1=vs:=aXL hs1 hn hlen hk λv nk=>(hv v nk).2;refine ih h2 hs1 ?_;intro e s' a' w' hq hs' hu;have aF:aR (λt=>t∈asg b) s s':=aR.trans (Qq (λv nk=>(hv v nk).1)) hu
    cases e with
    | normal =>
     simp only [Exit.then];simp only at hq;split at hq
     .rename_i hsub;obtain ⟨hq1,js⟩:=hq;obtain ⟨acQ,aVL,_⟩:=Q8 hq1;obtain ⟨hlen',hk'⟩:=bU.OV aVL;refine ⟨⟨_,hq1,Fy hs' aF (λi=>LL hsub) rfl hk'⟩,?_⟩;rw [vP,aWv hs' hk'];exact js
     .exact hq.elim
    | exit n=>exact hQ _ _ _ _ hq hs' aF
    | goto n=>exact hQ _ _ _ _ hq hs' aF
    | ret=>exact hQ _ _ _ _ hq hs' aF
    | panic n=>exact hQ _ _ _ _ hq hs' aF
    | outgrown=>exact hQ _ _ _ _ hq hs' aF
   .exact h.elim
 | exit id=>intro Q' Q s a w h hs hQ;exact wp_exit (hQ _ _ _ _ h hs (aR.refl _ _))
 | ret=>intro Q' Q s a w h hs hQ;exact wp_ret (hQ _ _ _ _ h hs (aR.refl _ _))
 | rangeFunc f p x y=>intro Q' Q s a w h;exact h.elim
 | scope b=>intro Q' Q s a w h;exact h.elim
 | label l=>intro Q' Q s a w h;exact h.elim
 | goto l=>intro Q' Q s a w h;exact h.elim
 | refuse why=>intro Q' Q s a w h;exact h.elim
def DR(P:Program)(s:Fr)(w:World):List ResultVar->(List Value->Prop)->Prop
 | [],K=>K []
 | .tmp t :: r,K=>match cg (gw t s.l) with
  | true=>False
  | false=>DR P s w r λvs=>K (gw t s.l :: vs)
 | .cell a t :: r,K=>match gw a s.l with
  | .pointer (some ⟨b,o,none⟩)=>Dg P t w none b o λv=>DR P s w r λvs=>K (v :: vs)
  | _=>False
theorem Z1{P:Program}{s:Fr}{a:Act}{w:World}(hs:cQ ds s a):∀ {l:List ResultVar} {K:List Value->Prop},DR P s w l K ->
  ∃ vs,(l.mapM λr=>(match r with | .tmp t=>pure (a.tmps.getD t undef) | .cell x t=>(do loadVar t (<-asAddr (a.tmps.getD x undef)):Sem Value):Sem Value)).run P w=.ok vs w/\K vs
 | [],K,h=>⟨[],by simp,h⟩
 | .tmp t :: r,K,h=>by
  unfold DR at h;split at h
  .exact h.elim
  .rename_i hu;obtain ⟨vs,h1,h2⟩:=Z1 hs h;refine ⟨_,?_,h2⟩;rw [List.mapM_cons];simp only [Sem.run_bind,Sem.run_pure,Result.andThen,h1,hs.slot t hu];rfl
 | .cell x t :: r,K,h=>by
  unfold DR at h;split at h
  .rename_i b o hx;obtain ⟨v,h1,h2⟩:=Rz h;obtain ⟨vs,h3,h4⟩:=Z1 hs h2;refine ⟨_,?_,h4⟩;rw [List.mapM_cons];have hx0:s.get x=.pointer (some ⟨b,o,none⟩):=hx;have hx':a.tmps.getD x undef=.pointer (some ⟨b,o,none⟩):=by rw [hs.slot x (by rw [hx0];rfl),hx0]
   have ha:(asAddr (a.tmps.getD x undef)).run P w=.ok ⟨b,o,none⟩ w:=by rw [hx'];rfl
   simp only [Sem.run_bind,Sem.run_pure,Result.andThen,ha,h1 trivial w rfl,h3]
  .exact h.elim
def aQ9(P:Program)(fn:Func)(J:Value->World->Prop):Exit->Fr->World->Prop
 | .normal,s,w | .ret,s,w=>DR P s w fn.results.toList λvs=>J (pN vs) w
 | _,_,_=>False
def BI:Nat->List Value->List (Nat × Value)
 | _,[]=>[]
 | i,v :: r=>(i,v) :: BI (i+1) r
def FK(fn:Func)(args:Array Value):Fr:=⟨max fn.ntmps args.size,BI 0 args.toList⟩
theorem a4l(i:Nat):∀ (l:List Value) (k:Nat),gw i (BI k l)=if k<=i then l.getD (i - k) w9 else w9
 | [],k=>by simp [BI,gw]
 | v :: r,k=>by
  unfold BI gw;cases hb:Nat.beq k i with
  | true=>have:=Nat.eq_of_beq_eq_true hb;subst this;simp
  | false =>
   have hne:=Nat.ne_of_beq_eq_false hb;simp only;rw [a4l i r (k+1)];by_cases h:k<=i
   .rw [if_pos h,if_pos (by omega),show i - k=(i - (k+1))+1 by omega];simp
   .rw [if_neg h,if_neg (by omega)]
theorem a7M(fn:Func)(args:Array Value):cQ [] (FK fn args) { tmps:=args++Array.replicate (fn.ntmps - args.size) undef,defers:=[] }:=by
 refine ⟨rfl,by simp [FK];omega,λi hi=>?_⟩;simp only [FK,Fr.get,a4l] at hi ⊢;simp only [Nat.zero_le,if_true,Nat.sub_zero] at hi ⊢;by_cases h:i<args.size
 .simp [Array.getD_eq_getD_getElem?,Array.getElem?_append,h]
 .rw [List.getD_eq_getElem?_getD,List.getElem?_eq_none (by simpa using h)] at hi;cases hi
def Ry(P:Program)(H:Hints)(f:FuncId)(args:Array Value)(w:World)(J:Value->World->Prop):Prop :=
 match P.funcs[f]? with
 | some fn=>match fn.body with
  | some c=>o9 P H c (aQ9 P fn J) (FK fn args) w
  | none=>False
 | none=>False
theorem aIr{vs:List Value}:(if h:vs.toArray.size=1 then vs.toArray[0] else Value.tuple vs.toArray)=pN vs:=by
 match vs with
 | []=>rfl
 | [v]=>rfl
 | _ :: _ :: _=>rfl
theorem aJ4{P:Program}{H:Hints}{f:FuncId}{args:Array Value}{w:World}{J:Value->World->Prop}(h:Ry P H f args w J):
  Calls P f args w λe w'=>∃ v,e=.returned v/\J v w':=by
 unfold Ry at h;split at h
 .rename_i fn hf;split at h
  .rename_i c hc;refine calls_of_wp hf hc (aZq c h (a7M fn args) ?_);intro e s a w' hq hs _;have key:(DR P s w' fn.results.toList λvs=>J (pN vs) w')->bodyPost P fn (λe w'=>∃ v,e=.returned v/\J v w') .ret a w':=by
    intro hq;obtain ⟨vs,h1,h2⟩:=Z1 hs hq;refine ⟨hs.defers,pN vs,?_,pN vs,rfl,h2⟩;unfold results;rw [Array.mapM_eq_mapM_toList,map_eq_pure_bind,Sem.run_bind,Sem.run_bind];have e:∀ (r:Result (List Value)),r=.ok vs w'->(((r.andThen λa=>(pure a.toArray:Sem (Array Value)).run P).andThen λvs=>(pure (if h:vs.size=1 then vs[0] else Value.tuple vs):Sem Value).run P))=.ok (pN vs) w':=by
     intro r hr;subst hr;simp only [Result.andThen,Sem.run_pure,aIr]
    exact e _ h1
   cases e with
   | normal=>exact key hq
   | ret=>exact key hq
   | _=>exact hq.elim
  .exact h.elim
 .exact h.elim
end Go.Vc
end

section
namespace Go.Vc
open Go.RowKit
def cj(w:World)(b:Nat)(cs:List Value)(t:TypeId):Prop:=w.heap[b]? = some (.cells cs.toArray t (0,0))
theorem cj.cell{w:World}{b:Nat}{cs:List Value}{t:TypeId}(h:cj w b cs t)(i:Nat):w.cell? ⟨b,i,none⟩=cs[i]? := by
 unfold cj at h;simp [World.cell?,h]
theorem cj.Iv{w:World}{b:Nat}{cs:List Value}{t:TypeId}(h:cj w b cs t){i:Nat}{v:Value}(hv:cs[i]? = some v):w.cell? ⟨b,i,none⟩=some v:=by rw [h.cell,hv]
theorem cj.frozen{w:World}{b:Nat}{cs:List Value}{t:TypeId}(h:cj w b cs t)(i:Nat):w.frozen? ⟨b,i,none⟩=false:=by
 unfold cj at h;simp [World.frozen?,h]
theorem cj.can{w:World}{b:Nat}{cs:List Value}{t:TypeId}(h:cj w b cs t){o n:Nat}(hn:o+n<=cs.length):bJ w b o n:=by
 intro j hj;refine ⟨?_,h.frozen _⟩;rw [h.cell];simp;omega
theorem cj.row{w:World}{b:Nat}{cs:List Value}{t:TypeId}(h:cj w b cs t){o:Nat}{vs:List Value}(hv:∀ j,(hj:j<vs.length)->cs[o+j]? = some vs[j]):aQ w b o vs:=by
 intro j hj;rw [h.cell,hv j hj]
theorem cj.DS{w:World}{b:Nat}{cs:List Value}{t:TypeId}(h:cj w b cs t):aQ w b 0 cs:=h.row λj hj=>by simp
theorem cj.same{w w':World}{b:Nat}{cs:List Value}{t:TypeId}(h:cj w b cs t)(e:w'.heap[b]? = w.heap[b]?):cj w' b cs t:=e.trans h
theorem cj.aPr(w:World)(cs:List Value)(t:TypeId):cj (w.alloc (.cells cs.toArray t)) w.heap.size cs t:=by
 unfold cj;show (w.heap.push _)[w.heap.size]? = _;simp
theorem KJ(w:World)(o:Obj):(w.alloc o).heap[w.heap.size]? = some o:=by
 show (w.heap.push _)[w.heap.size]? = _;simp
theorem aW9(w:World)(o:Obj){k:Nat}(h:k<w.heap.size):(w.alloc o).heap[k]? = w.heap[k]? := Below.heap_alloc _ _ _ h
theorem a8Q(w:World)(a:Addr)(u:Value){k:Nat}(h:k≠a.block):(w.setCell a u).heap[k]? = w.heap[k]? := Below.heap_setCell _ _ _ _ h
theorem cj.set{w:World}{b:Nat}{cs:List Value}{t:TypeId}(h:cj w b cs t)(i:Nat)(v:Value):cj (w.setCell ⟨b,i,none⟩ v) b (cs.set i v) t:=by
 unfold cj at h ⊢;simp only [World.setCell,Array.getElem?_modify,h];simp
theorem a8R(b:Nat){k:Nat}(h:k≠b):∀ (vs:List Value) (o:Nat) (w:World),(w.setCells b o vs).heap[k]? = w.heap[k]?
 | [],_,_=>rfl
 | v :: r,o,w=>by
  unfold World.setCells;rw [a8R b h r,a8Q _ _ _ h]
theorem aIK(b:Nat):∀ (vs:List Value) (o:Nat) (w:World),(w.setCells b o vs).heap.size=w.heap.size
 | [],_,_=>rfl
 | v :: r,o,w=>by
  unfold World.setCells;rw [aIK b r,World.size_setCell]
def dM(cs:List Value)(o:Nat):List Value->List Value
 | []=>cs
 | v :: r=>dM (cs.set o v) (o+1) r
theorem cj.sets{b:Nat}{t:TypeId}:∀ (vs:List Value) {w:World} {cs:List Value} (o:Nat),cj w b cs t->cj (w.setCells b o vs) b (dM cs o vs) t
 | [],_,_,_,h=>h
 | v :: r,_,_,o,h=>by
  unfold World.setCells dM;exact cj.sets r (o+1) (h.set o v)
structure bD(S:List Nat)(w w':World):Prop where
 os:w'.os=w.os
 tape:w'.tape=w.tape
 output:w'.output=w.output
 size:w.heap.size<=w'.heap.size
 block:∀ k,k<w.heap.size->k ∉ S->w'.heap[k]? = w.heap[k]?
theorem bD.refl(S:List Nat)(w:World):bD S w w:=⟨rfl,rfl,rfl,Nat.le_refl _,λ_ _ _=>rfl⟩
theorem bD.trans{S T:List Nat}{a b c:World}(h:bD S a b)(k:bD T b c)(hT:∀ x∈T,x∈S\/a.heap.size<=x):bD S a c :=
 ⟨k.os.trans h.os,k.tape.trans h.tape,k.output.trans h.output,Nat.le_trans h.size k.size,λi hi hS =>
  (k.block i (Nat.lt_of_lt_of_le hi h.size) (λhm=>by rcases hT i hm with h|h;exact hS h;omega)).trans (h.block i hi hS)⟩
theorem bD.step{S:List Nat}{a b c:World}(h:bD S a b)(k:bD [] b c):bD S a c:=h.trans k (by simp)
theorem bD.mono{S T:List Nat}{a b:World}(h:bD S a b)(aVQ:∀ x∈S,x∈T):bD T a b:=⟨h.os,h.tape,h.output,h.size,λk hk hT=>h.block k hk λhm=>hT (aVQ k hm)⟩
theorem bD.alloc{S:List Nat}{a w:World}(h:bD S a w)(o:Obj):bD S a (w.alloc o) :=
 h.step ⟨rfl,rfl,rfl,by simp,λ_ hk _=>aW9 _ _ hk⟩
theorem bD.setCell{S:List Nat}{a w:World}(h:bD S a w){p:Addr}(hp:p.block∈S\/a.heap.size<=p.block)(u:Value):bD S a (w.setCell p u) :=
 h.trans (T:=[p.block]) ⟨rfl,rfl,rfl,by simp,λ_ _ hn=>a8Q _ _ _ (by simpa using hn)⟩ (by simpa using hp)
theorem Ra(b:Nat):∀ (vs:List Value) (o:Nat) (w:World),(w.setCells b o vs).os=w.os/\(w.setCells b o vs).tape=w.tape/\(w.setCells b o vs).output=w.output
 | [],_,_=>⟨rfl,rfl,rfl⟩
 | v :: r,o,w=>by unfold World.setCells;exact Ra b r (o+1) _
theorem bD.setCells{S:List Nat}{a w:World}(h:bD S a w){b:Nat}(hb:b∈S\/a.heap.size<=b)(o:Nat)(vs:List Value):bD S a (w.setCells b o vs) :=
 h.trans (T:=[b]) ⟨(Ra b vs o w).1,(Ra b vs o w).2.1,(Ra b vs o w).2.2,by rw [aIK];exact Nat.le_refl _,λ_ _ hn=>a8R b (by simpa using hn) vs o w⟩ (by simpa using hb)
theorem bD.drewN{S:List Nat}{a w:World}(h:bD S a w)(n:Nat):bD S a (w.drewN n):=⟨h.os,h.tape,h.output,h.size,h.block⟩
def r9(w:World)(b:Nat)(o:Obj):World:={ w with heap:=w.heap.setIfInBounds b o }
theorem aWA(w:World){b k:Nat}(o:Obj)(h:k≠b):(r9 w b o).heap[k]? = w.heap[k]? := by
 simp only [r9];rw [Array.getElem?_setIfInBounds_ne (by omega)]
theorem aWB(w:World){b:Nat}(o:Obj)(h:b<w.heap.size):(r9 w b o).heap[b]? = some o:=by
 simp [r9,h]
theorem aYr(w:World)(b:Nat)(o:Obj):(r9 w b o).heap.size=w.heap.size:=by simp [r9]
theorem bD.r9{S:List Nat}{a w:World}(h:bD S a w){b:Nat}(hb:b∈S\/a.heap.size<=b)(o:Obj):bD S a (r9 w b o) :=
 h.trans (T:=[b]) ⟨rfl,rfl,rfl,by rw [aYr];exact Nat.le_refl _,λ_ _ hn=>aWA _ _ (by simpa using hn)⟩ (by simpa using hb)
theorem bD.below{S:List Nat}{υ:Nat}{w w':World}(h:bD S w w')(hB:υ<=w.heap.size)(hS:∀ x∈S,υ<=x):Below υ w w' :=
 ⟨h.os,h.tape,h.output,h.size,λk hk=>h.block k (by omega) λhm=>by have:=hS k hm;omega⟩
theorem bD.cell{S:List Nat}{w w':World}(h:bD S w w'){b o:Nat}{v:Value}(hc:w.cell? ⟨b,o,none⟩=some v)(hS:b ∉ S):w'.cell? ⟨b,o,none⟩=some v:=by
 have hlt:b<w.heap.size:=by
  rcases Nat.lt_or_ge b w.heap.size with h'|h'
  .exact h'
  .simp [World.cell?,Array.getElem?_eq_none h'] at hc
 rw [World.cell?_of_block (w:=w) (h.block b hlt hS)];exact hc
theorem On{P:Program}{f:FuncId}{args:Array Value}{w:World}{J:Value->World->Prop}{R:c6}
  (h:Calls P f args w λe w'=>∃ v,e=.returned v/\J v w') (hR:∀ v w',J v w'->R (.returned v) w'):Calls P f args w R :=
 h.mono λe w' ⟨v,he,hj⟩=>by subst he;exact hR v w' hj
end Go.Vc
end

section
namespace Go.Vc
open Go.ChangeShapes Go.WideShapes Go.ChangeAt Go.RowKit
section
variable {H:Type}{enc:TypeId × Value->H}{P:Program}
theorem aIo(hl:laidOutB P=true){W W':World}(hb:Below W.heap.size W W'):
  ∀ {ts:List TypeId} {vs:List Value} {ds:List (DataW H)} {ps:List MemPlace},(ts.all λt=>P.readableRec t&&decide (t<P.types.size))=true ->
   DataW.TrodAll enc P W 0 (λ_=>true) true ts vs ds ps->(∀ x∈ps,x.block<W.heap.size) ->
   DataW.TrodAll enc P W' 0 (λb=>decide (b<W.heap.size)) true ts vs ds ps
 | [],_,_,_,_,h,_=>by
  obtain ⟨rfl,rfl,rfl⟩:=trodAll_nil h;exact trodAll_mk0
 | t :: ts,_,_,_,ht,h,hlt=>by
  obtain ⟨v,aJ7,d,lX,a,b,rfl,rfl,rfl,h1,h2⟩:=trodAll_cons h;simp only [List.all_cons,Bool.and_eq_true,decide_eq_true_eq] at ht;exact ⟨a,b,Below.trod hl ht.1.1 ht.1.2 h1 hb (λx hx=>hlt x (List.mem_append.2 (.inl hx))),aIo hl hb (by simpa using ht.2) h2 (λx hx=>hlt x (List.mem_append.2 (.inr hx))),rfl⟩
theorem aIp{w:World}{base:Nat}{spare:Nat->Bool}{held:Bool}:∀ {ts:List TypeId} {vs:List Value} {ds:List (DataW H)} {ps:List MemPlace},DataW.TrodAll enc P w base spare held ts vs ds ps->vs.length=ts.length/\ds.length=ts.length
 | [],_,_,_,h=>by
  obtain ⟨rfl,rfl,rfl⟩:=trodAll_nil h;exact ⟨rfl,rfl⟩
 | t :: ts,_,_,_,h=>by
  obtain ⟨v,aJ7,d,lX,a,b,rfl,rfl,rfl,h1,h2⟩:=trodAll_cons h;have:=aIp h2;simp [this]
end
section
variable {H:Type}{enc:TypeId × Value->H}{P:Program}{w:World}{base:Nat}{spare:Nat->Bool}{held:Bool}
def aOF(k:IntKind)(w:World)(p:Option Addr)(n:Nat):Prop :=
 ∀ j,j<n->∃ b o x,p=some ⟨b,o,none⟩/\w.cell? ⟨b,o+j,none⟩=some (.int k x)/\(Lit.int k x).wf=true
theorem a66{w:World}{a:Addr}{v:Value}(h:w.cell? a=some v):a.spot=none:=by
 unfold World.cell? at h;split at h
 .split at h
  .cases h
  .rename_i hs;simpa using hs
 .cases h
theorem QL{t e:TypeId}{k:IntKind}{p:Option Addr}{n c:Nat}{d:DataW H}{ps:List MemPlace}(ht:P.underlying t=some (.slice e))(he:P.underlying e=some (.int k))(hc:P.cellsOf e=1)
  (h:DataW.Trod enc P w base (λ_=>true) held t (.slice p n c) d ps):aOF k w p n:=by
 obtain ⟨fuel,hf⟩:=h;rcases open_ints ht he hc hf with ⟨hcs,hx⟩|⟨a,len',cap',zs,hcs,_,hl,hm,hz,hx,hcell,aWW⟩
 .simp [Value.cells] at hcs;obtain ⟨rfl,rfl,rfl⟩:=hcs;exact λj hj=>absurd hj (by omega)
 .simp [Value.cells] at hcs;obtain ⟨rfl,rfl,rfl⟩:=hcs;simp only [if_true] at hz;intro j hj;obtain ⟨b,o,s⟩:=a;have h0:=a66 (hcell 0 (by omega));have hs:s=none:=by simpa [Addr.add] using h0
  subst hs;have:=hcell j (by omega);refine ⟨b,o,zs[j]'(by omega),rfl,?_,aWW _ (List.getElem_mem _)⟩;rw [addr_add] at this;rw [this];simp [List.getD,show j<zs.length by omega]
end
end Go.Vc
end

section
namespace Go.Vc
open Go.ChangeShapes Go.WideShapes Go.RowKit
section
variable {H:Type}{enc:TypeId × Value->H}{P:Program}{w:World}{base:Nat}{spare:Nat->Bool}{held:Bool}
inductive HQ where
 | int (k:IntKind)
 | bool
 | str
 | ptr
 | slice
 | map
def HQ.fits:HQ->Value->Prop
 | .int k,v=>∃ n,v=.int k n/\(Lit.int k n).wf=true
 | .bool,v=>∃ b,v=.bool b
 | .str,v=>∃ s,v=.string s/\s.size<=maxLen
 | .ptr,v=>∃ p,v=.pointer p
 | .slice,v=>∃ p n c,v=.slice p n c/\n<=c/\c<=maxLen/\(p=none->n=0)
 | .map,v=>∃ m,v=.map m
def a78(PY:TypeId->Option (List HQ)):List Field->Nat->Option (List HQ)
 | [],_=>some []
 | f :: r,off=>match PY f.type with
  | some l=>match Nat.beq f.offset off,a78 PY r (off+l.length) with
   | true,some l'=>some (l++l')
   | _,_=>none
  | none=>none
def flat(P:Program):Nat->TypeId->Option (List HQ)
 | 0,_=>none
 | d+1,t=>match P.underlying t with
  | some .bool=>some [.bool]
  | some (.int k)=>some [.int k]
  | some .string=>some [.str]
  | some (.pointer _)=>some [.ptr]
  | some (.slice _)=>some [.slice]
  | some (.map ..)=>some [.map]
  | some (.struct fs)=>match a78 (flat P d) fs.toList 0 with
   | some l=>if l.length=P.cellsOf t/\(fs.toList.all λf=>decide ((flat P d f.type).map (·.length)=some (P.cellsOf f.type)))=true then some l else none
   | none=>none
  | _=>none
theorem aCK{α β:Type}{f:α->Option β}:∀ {l:List α} {xs:List β},l.mapM f=some xs->∀ a∈l,∃ y,f a=some y
 | [],_,_,a,ha=>by cases ha
 | b :: r,xs,h,a,ha=>by
  rw [List.mapM_cons] at h;cases hb:f b with
  | none=>simp [hb] at h
  | some y =>
   cases hr:r.mapM f with
   | none=>simp [hb,hr] at h
   | some ys =>
    rcases List.mem_cons.1 ha with rfl|ha
    .exact ⟨y,hb⟩
    .exact aCK hr a ha
end
inductive eD where
 | int (k:IntKind)|bool|str|aXw
 | slice (e:eD)
 | pair (a b:eD)
def eD.size:eD->Nat
 | .pair a b=>a.size+b.size
 | _=>1
def xI(P:Program)(f:eD->TypeId->Bool):List Field->Nat->eD->Bool
 | [],_,_=>false
 | [x],off,ty=>Nat.beq x.offset off&&f ty x.type&&Nat.beq (P.cellsOf x.type) ty.size
 | x :: y :: r,off,.pair a b=>Nat.beq x.offset off&&f a x.type&&Nat.beq (P.cellsOf x.type) a.size&&xI P f (y :: r) (off+a.size) b
 | _,_,_=>false
def eD.is(P:Program):Nat->eD->TypeId->Bool
 | 0,_,_=>false
 | d+1,.int k,t=>match P.underlying t with|some (.int k')=>decide (k'=k)|_=>false
 | d+1,.bool,t=>match P.underlying t with|some .bool=>true|_=>false
 | d+1,.str,t=>match P.underlying t with|some .string=>true|_=>false
 | d+1,.aXw,t=>match P.underlying t with|some (.slice _)=>true|_=>false
 | d+1,.slice te,t=>match P.underlying t with|some (.slice e)=>eD.is P d te e&&Nat.beq (P.cellsOf e) te.size|_=>false
 | d+1,.pair a b,t=>match P.underlying t with
  | some (.struct fs)=>Nat.beq (P.cellsOf t) (eD.pair a b).size&&xI P (eD.is P d) fs.toList 0 (.pair a b)
  | _=>false
structure Step(M M':List Nat)(w w':World):Prop where
 nY:bD M w w'
 sub:∀ b∈M',b∈M\/w.heap.size<=b
class O (Φ:List Nat->World->Prop):Prop where
 step:∀ {M M':List Nat} {w w':World},Step M M' w w'->Φ M w->Φ M' w'
structure yZ(ty:eD)(α:Type)(rep:List Nat->World->List Value->α->Prop):Prop where
 ap:∀ {H:Type} {enc:TypeId × Value->H} {P:Program} {W:World} {d fuel:Nat} {t:TypeId} {cs:List Value} {x:DataW H × List MemPlace},
  eD.is P d ty t=true->DataW.trod enc P W 0 (λ_=>true) true fuel t cs=some x->∃ y:α,rep [] W cs y
structure a2R(ty:eD)(α:Type)(rep:List Nat->World->List Value->α->Prop):Prop where
 ap:∀ {H:Type} {enc:TypeId × Value->H} {P:Program} {W:World} {d fuel:Nat} {fs:List Field} {off:Nat} {cs:List Value},
  xI P (eD.is P d) fs off ty=true->(∀ f∈fs,∃ y,DataW.trod enc P W 0 (λ_=>true) true fuel f.type ((cs.drop f.offset).take (P.cellsOf f.type))=some y) ->
   off+ty.size=cs.length->∃ y:α,rep [] W (cs.drop off) y
class ι (α:Type) where
 ty:eD
 rep:List Nat->World->List Value->α->Prop
 len:∀ {M w cs x},rep M w cs x->cs.length=ty.size
 pos:0<ty.size
 eK:∀ {M M':List Nat} {w w':World} {cs x},Step M M' w w'->rep M w cs x->rep M' w' cs x
 opens:yZ ty α rep
 AA:a2R ty α rep
theorem aEQ{ty:eD}{α:Type}{rep:List Nat->World->List Value->α->Prop}(ho:yZ ty α rep){H:Type}{enc:TypeId × Value->H}{P:Program}{W:World}{d fuel:Nat}{f:Field}{off:Nat}{cs:List Value}
  (h:xI P (eD.is P d) [f] off ty=true) (ht:∃ y,DataW.trod enc P W 0 (λ_=>true) true fuel f.type ((cs.drop f.offset).take (P.cellsOf f.type))=some y) (hl:off+ty.size=cs.length):∃ y:α,rep [] W (cs.drop off) y:=by
 simp only [xI,Bool.and_eq_true] at h;obtain ⟨⟨h1,h2⟩,h3⟩:=h;have h1:=Nat.eq_of_beq_eq_true h1;have h3:=Nat.eq_of_beq_eq_true h3;obtain ⟨y,hy⟩:=ht;rw [h1,h3,List.take_of_length_le (by simp;omega)] at hy;exact ho.ap h2 hy
theorem R6{ty:eD}{α:Type}{rep:List Nat->World->List Value->α->Prop}(hp:∀ a b,ty≠.pair a b)(ho:yZ ty α rep):a2R ty α rep:=by
 constructor;intro H enc P W d fuel fs off cs h ht hl
 match fs,h with
 | [f],h=>exact aEQ ho h (ht f (by simp)) hl
 | f :: g :: r,h =>
  cases ty
  case pair=>exact absurd rfl (hp _ _)
  all_goals simp [xI] at h
theorem a8x:yZ (.int .i64) Int (λ_ _ cs x=>cs=[.int .i64 x]/\V x):=by
 constructor;intro H enc P W d fuel t cs x h hx;cases d with
 | zero=>simp [eD.is] at h
 | succ d =>
 cases fuel with
 | zero=>simp [DataW.trod] at hx
 | succ fuel =>
 unfold eD.is at h;split at h
 .rename_i k ht;have:k=.i64:=by simpa using h
  subst this;unfold DataW.trod at hx;rw [ht] at hx;split at hx<;>simp_all;rename_i k n hk;obtain ⟨⟨rfl,hw⟩,_⟩:=hx;simp only [Lit.wf,Bool.and_eq_true,decide_eq_true_eq] at hw;subst hk;simp [IntKind.min,IntKind.max,IntKind.signed,IntKind.bits] at hw;unfold V;omega
 .cases h
instance goInt:ι Int where
 ty:=.int .i64
 rep _ _ cs x:=cs=[.int .i64 x]/\V x
 len h:=by rw [h.1];rfl
 pos:=by decide
 eK _ h:=h
 opens:=a8x
 AA:=R6 (ty:=.int .i64) (λ_ _ h=>by cases h) a8x
theorem a57:yZ .bool Bool (λ_ _ cs x=>cs=[.bool x]):=by
 constructor;intro H enc P W d fuel t cs x h hx;cases d with
 | zero=>simp [eD.is] at h
 | succ d =>
 cases fuel with
 | zero=>simp [DataW.trod] at hx
 | succ fuel =>
 unfold eD.is at h;split at h
 .rename_i ht;unfold DataW.trod at hx;rw [ht] at hx;split at hx<;>simp_all
 .cases h
instance acZ:ι Bool where
 ty:=.bool
 rep _ _ cs x:=cs=[.bool x]
 len h:=by rw [h];rfl
 pos:=by decide
 eK _ h:=h
 opens:=a57
 AA:=R6 (ty:=.bool) (λ_ _ h=>by cases h) a57
theorem aId:yZ .str ByteArray (λ_ _ cs x=>cs=[.string x]/\x.size<=maxLen):=by
 constructor;intro H enc P W d fuel t cs x h hx;cases d with
 | zero=>simp [eD.is] at h
 | succ d =>
 cases fuel with
 | zero=>simp [DataW.trod] at hx
 | succ fuel =>
 unfold eD.is at h;split at h
 .rename_i ht;unfold DataW.trod at hx;rw [ht] at hx;split at hx<;>simp_all
 .cases h
instance acf:ι ByteArray where
 ty:=.str
 rep _ _ cs x:=cs=[.string x]/\x.size<=maxLen
 len h:=by rw [h.1];rfl
 pos:=by decide
 eK _ h:=h
 opens:=aId
 AA:=R6 (ty:=.str) (λ_ _ h=>by cases h) aId
def ζ{α:Type}[ι α](M:List Nat)(w:World)(p:Option Addr)(l:List α):Prop :=
 ∀ j,(hj:j<l.length)->∃ b o cs,p=some ⟨b,o,none⟩/\b ∉ M/\aQ w b (o+j*(ι.ty α).size) cs/\ι.rep M w cs l[j]
theorem bD.row{S:List Nat}{w w':World}(h:bD S w w'){b o:Nat}{vs:List Value}(hc:aQ w b o vs)(hS:b ∉ S):aQ w' b o vs :=
 λj hj=>h.cell (hc j hj) hS
theorem aHS{w:World}{b o:Nat}{vs:List Value}(h:aQ w b o vs)(hp:0<vs.length):b<w.heap.size:=by
 have h0:=h 0 hp;rcases Nat.lt_or_ge b w.heap.size with h'|h'
 .exact h'
 .simp [World.cell?,Array.getElem?_eq_none h'] at h0
theorem ζ.eK{α:Type}[ι α]{M M':List Nat}{w w':World}{p:Option Addr}{l:List α}(hs:Step M M' w w')(h:ζ M w p l):ζ M' w' p l:=by
 intro j hj;obtain ⟨b,o,cs,h1,h2,h3,h4⟩:=h j hj;have hlt:=aHS h3 (by rw [ι.len h4];exact ι.pos);exact ⟨b,o,cs,h1,λhm=>by rcases hs.sub b hm with h|h;exact h2 h;omega,hs.nY.row h3 h2,ι.eK hs h4⟩
def aHO{α:Type}[ι α](M:List Nat)(w:World)(cs:List Value)(l:List α):Prop :=
 ∃ p c,cs=[.slice p l.length c]/\l.length<=c/\c<=maxLen/\ζ M w p l
theorem Xz{α:Type}{p:Nat->α->Prop}:∀ (n:Nat),(∀ j,j<n->∃ x,p j x)->∃ l:List α,l.length=n/\∀ j,(hj:j<l.length)->p j l[j]
 | 0,_=>⟨[],rfl,λj hj=>by simp at hj⟩
 | n+1,h=>by
  obtain ⟨l,hl,hp⟩:=Xz n λj hj=>h j (by omega);obtain ⟨x,hx⟩:=h n (by omega);refine ⟨l++[x],by simp [hl],λj hj=>?_⟩;by_cases hj':j<l.length
  .rw [List.getElem_append_left hj'];exact hp j hj'
  .have:j=n:=by simp at hj;omega
   subst this;rw [List.getElem_append_right (by omega)];simpa [hl] using hx
theorem aCD{α:Type}[ι α]:yZ (.slice (ι.ty α)) (List α) aHO:=by
 constructor;intro H enc P W d fuel t cs x h hx;cases d with
 | zero=>simp [eD.is] at h
 | succ d =>
 unfold eD.is at h;split at h
 .rename_i e ht;simp only [Bool.and_eq_true] at h;obtain ⟨h1,h2⟩:=h;have hsz:=Nat.eq_of_beq_eq_true h2;rcases DataW.trod_slice ht hx with ⟨rfl,_⟩|⟨a,len,cap,elems,rest,m,_,rfl,_,_,hl,hm,hlen,hel,_⟩
  .exact ⟨[],none,0,rfl,by simp,by simp [maxLen],λj hj=>by simp at hj⟩
  .have spot:0<len->∃ b o,a=⟨b,o,none⟩:=by
    intro aWE;have h3:=hel 0 aWE;rw [List.getElem?_eq_getElem (by omega)] at h3;cases hcs:W.cells? 0 (a.add (0*P.cellsOf e)) (P.cellsOf e) with
    | none=>rw [hcs] at h3;cases h3
    | some cs =>
     rw [hcs] at h3;obtain ⟨y,hy⟩:=(ι.opens (α:=α)).ap h1 h3;obtain ⟨_,hn,h4⟩:=World.cells?_some hcs;have hp:=ι.len hy;have hpos:0<(ι.ty α).size:=ι.pos;have h5:=h4 0 (by omega);rw [List.getElem?_eq_getElem (by omega)] at h5;have h6:=a66 h5;obtain ⟨b,o,s⟩:=a;simp [Addr.add] at h6;subst h6;exact ⟨b,o,rfl⟩
   have key:∀ j,j<len->∃ y:α,∃ b o cs,some a=some ⟨b,o,none⟩/\b ∉ ([]:List Nat)/\aQ W b (o+j*(ι.ty α).size) cs/\ι.rep [] W cs y:=by
    intro j hj;have h3:=hel j hj;rw [List.getElem?_eq_getElem (by omega)] at h3;cases hcs:W.cells? 0 (a.add (j*P.cellsOf e)) (P.cellsOf e) with
    | none=>rw [hcs] at h3;cases h3
    | some cs =>
     rw [hcs] at h3;obtain ⟨y,hy⟩:=(ι.opens (α:=α)).ap h1 h3;obtain ⟨_,hn,h4⟩:=World.cells?_some hcs;have hp:=ι.len hy;obtain ⟨b,o,rfl⟩:=spot (by omega);refine ⟨y,b,o,cs,rfl,by simp,λi hi=>?_,hy⟩;have h7:=h4 i (by omega);rw [addr_add,addr_add,hsz] at h7;rw [h7,List.getElem?_eq_getElem hi]
   obtain ⟨l,tv,oh⟩:=Xz len key;exact ⟨l,some a,cap,by rw [tv],by omega,hm,oh⟩
 .cases h
instance acd{α:Type}[ι α]:ι (List α) where
 ty:=.slice (ι.ty α)
 rep:=aHO
 len h:=by obtain ⟨p,c,rfl,_⟩:=h;rfl
 pos:=by simp [eD.size]
 eK hs h:=by obtain ⟨p,c,h1,h2,h3,h4⟩:=h;exact ⟨p,c,h1,h2,h3,h4.eK hs⟩
 opens:=aCD
 AA:=R6 (ty:=.slice (ι.ty α)) (λ_ _ h=>by cases h) aCD
def RM{α β:Type}[ι α][ι β](M:List Nat)(w:World)(cs:List Value)(x:α × β):Prop :=
 ∃ a b,cs=a++b/\ι.rep M w a x.1/\ι.rep M w b x.2
theorem aGw{α β:Type}[ι α][ι β]{H:Type}{enc:TypeId × Value->H}{P:Program}{W:World}{d fuel:Nat}{f g:Field}{r:List Field}{off:Nat}{cs:List Value}
  (h:xI P (eD.is P d) (f :: g :: r) off (.pair (ι.ty α) (ι.ty β))=true) (ht:∀ x∈f :: g :: r,∃ y,DataW.trod enc P W 0 (λ_=>true) true fuel x.type ((cs.drop x.offset).take (P.cellsOf x.type))=some y)
  (hl:off+(eD.pair (ι.ty α) (ι.ty β)).size=cs.length):∃ y:α × β,RM [] W (cs.drop off) y:=by
 simp only [xI,Bool.and_eq_true] at h;obtain ⟨⟨⟨h1,h2⟩,h3⟩,h4⟩:=h;have h1:=Nat.eq_of_beq_eq_true h1;have h3:=Nat.eq_of_beq_eq_true h3;simp only [eD.size] at hl;obtain ⟨y,hy⟩:=ht f (by simp);rw [h1,h3] at hy;obtain ⟨a,ha⟩:=(ι.opens (α:=α)).ap h2 hy;obtain ⟨b,hb⟩:=(ι.AA (α:=β)).ap h4 (λx hx=>ht x (List.mem_cons_of_mem _ hx)) (by omega);refine ⟨(a,b),_,_,?_,ha,hb⟩;rw [<-List.drop_drop,List.take_append_drop]
theorem aGx{α β:Type}[ι α][ι β]:yZ (.pair (ι.ty α) (ι.ty β)) (α × β) RM:=by
 constructor;intro H enc P W d
 induction d with
 | zero=>intro fuel t cs x h;simp [eD.is] at h
 | succ d ih =>
  intro fuel t cs x h hx;cases fuel with
  | zero=>simp [DataW.trod] at hx
  | succ fuel =>
  unfold eD.is at h;split at h
  .rename_i fs ht;simp only [Bool.and_eq_true] at h;obtain ⟨h1,h2⟩:=h;have h1:=Nat.eq_of_beq_eq_true h1;unfold DataW.trod at hx;rw [ht] at hx;simp only at hx;split at hx
   .rename_i hlen;cases hm:(fs.toList.mapM λf=>DataW.trod enc P W 0 (λ_=>true) true fuel f.type ((cs.drop f.offset).take (P.cellsOf f.type))) with
    | none=>simp [hm] at hx
    | some xs =>
     have all:=aCK hm;have key:∃ y:α × β,RM [] W (cs.drop 0) y:=by
      generalize fs.toList=l at h2 all
      match l,h2,all with
      | [f],h2,all =>
       simp only [xI,Bool.and_eq_true] at h2;obtain ⟨⟨g1,g2⟩,g3⟩:=h2;have g1:=Nat.eq_of_beq_eq_true g1;have g3:=Nat.eq_of_beq_eq_true g3;obtain ⟨y,hy⟩:=all f (by simp);rw [g1,g3,List.take_of_length_le (by simp;omega)] at hy;exact ih g2 hy
      | f :: g :: r,h2,all=>exact aGw h2 all (by omega)
     simpa using key
   .cases hx
  .cases h
instance ace{α β:Type}[ι α][ι β]:ι (α × β) where
 ty:=.pair (ι.ty α) (ι.ty β)
 rep:=RM
 len h:=by obtain ⟨a,b,rfl,h1,h2⟩:=h;simp [ι.len h1,ι.len h2,eD.size]
 pos:=by have:0<(ι.ty α).size:=ι.pos;simp only [eD.size];omega
 eK hs h:=by obtain ⟨a,b,h1,h2,h3⟩:=h;exact ⟨a,b,h1,ι.eK hs h2,ι.eK hs h3⟩
 opens:=aGx
 AA:=by
  constructor;intro H enc P W d fuel fs off cs h ht hl
  match fs,h with
  | [f],h=>exact aEQ aGx h (ht f (by simp)) hl
  | f :: g :: r,h=>exact aGw h ht hl
@[reducible] def ι.via {α β:Type} [ι β] (f:α->β) (g:β->α) (h:∀ y,f (g y)=y):ι α where
 ty:=ι.ty β
 rep M w cs x:=ι.rep M w cs (f x)
 len:=ι.len
 pos:=ι.pos (α:=β)
 eK:=ι.eK
 opens:=⟨λh1 h2=>let ⟨y,hy⟩:=(ι.opens (α:=β)).ap h1 h2;⟨g y,by simp only [h];exact hy⟩⟩
 AA:=⟨λh1 h2 h3=>let ⟨y,hy⟩:=(ι.AA (α:=β)).ap h1 h2 h3;⟨g y,by simp only [h];exact hy⟩⟩
theorem aYS{M:List Nat}{w:World}{cs:List Value}{x:Int}:ι.rep M w cs x ↔ cs=[.int .i64 x]/\V x:=Iff.rfl
theorem MN{α:Type}[ι α]{M:List Nat}{w:World}{cs:List Value}{l:List α}:ι.rep M w cs l ↔ ∃ p c,cs=[.slice p l.length c]/\l.length<=c/\c<=maxLen/\ζ M w p l:=Iff.rfl
instance adY{α:Type}[ι α](p:Option Addr)(l:List α):O (λM w=>ζ M w p l):=⟨λhs h=>h.eK hs⟩
instance adS(p:Prop):O (λ_ _=>p):=⟨λ_ h=>h⟩
instance oq(Φ Ψ:List Nat->World->Prop)[O Φ][O Ψ]:O (λM w=>Φ M w/\Ψ M w):=⟨λhs h=>⟨O.step hs h.1,O.step hs h.2⟩⟩
instance adQ{acN:Sort _}(Φ:acN->List Nat->World->Prop)[∀ i,O (Φ i)]:O (λM w=>∀ i,Φ i M w):=⟨λhs h i=>O.step hs (h i)⟩
inductive Own where
 | blk (b:Nat) (cs:List Value) (t:TypeId)
 | buf (p:Option Addr) (n c:Nat) (cs:List Value) (t:TypeId) (size:Nat)
 | obj (b:Nat) (o:Obj)
def Own.dom:Own->List Nat
 | .blk b _ _=>[b]
 | .buf (some a) _ _ _ _ _=>[a.block]
 | .buf none _ _ _ _ _=>[]
 | .obj b _=>[b]
def Own.at(w:World):Own->Prop
 | .blk b cs t=>cj w b cs t
 | .buf p n c cs t size=>w.ownsRow 0 t size (.slice p n c) n cs
 | .obj b o=>w.heap[b]? = some o
def dom(S:List Own):List Nat:=S.flatMap Own.dom
theorem Own.IZ{w w':World}{o:Own}(h:o.at w)(hk:∀ b∈o.dom,w'.heap[b]? = w.heap[b]?):o.at w':=by
 cases o with
 | blk b cs t=>exact cj.same h (hk b (by simp [Own.dom]))
 | obj b x=>exact (hk b (by simp [Own.dom])).trans h
 | buf p n c cs t size =>
  obtain ⟨h1,h2⟩:=h;refine ⟨h1,?_⟩;rcases h2 with h2|⟨g,cap,cur,e,h3,h4,h5⟩
  .exact .inl h2
  .cases e;exact .inr ⟨g,c,cur,rfl,h3,(hk g (by simp [Own.dom])).trans h4,h5⟩
theorem Own.a4p{w:World}{o:Own}(h:o.at w):∀ b∈o.dom,b<w.heap.size:=by
 have key:∀ (b:Nat) (x:Obj),w.heap[b]? = some x->b<w.heap.size:=λb x hx=>(Array.getElem?_eq_some_iff.1 hx).1;cases o with
 | blk b cs t=>intro k hk;simp [Own.dom] at hk;subst hk;exact key _ _ h
 | obj b x=>intro k hk;simp [Own.dom] at hk;subst hk;exact key _ _ h
 | buf p n c cs t size =>
  obtain ⟨_,h2⟩:=h;intro k hk;rcases h2 with ⟨h2,_⟩|⟨g,cap,cur,e,h3,h4,h5⟩
  .cases h2;simp [Own.dom] at hk
  .cases e;simp [Own.dom] at hk;subst hk;exact key _ _ h4
structure Ctx(W w:World)(S:List Own)(Φ:List Nat->World->Prop):Prop where
 nY:bD [] W w
 own:∀ o∈S,o.at w
 yB:∀ b∈dom S,W.heap.size<=b
 nodup:(dom S).Nodup
 Γ:Φ (dom S) w
section
variable {W w w':World}{S S':List Own}{Φ Ψ:List Nat->World->Prop}
theorem qv{b:Nat}{o:Own}(ho:o∈S)(hb:b∈o.dom):b∈dom S:=List.mem_flatMap.2 ⟨o,ho,hb⟩
theorem Ctx.start(W:World)(h:Φ [] W):Ctx W W [] Φ:=⟨bD.refl _ _,by simp,by simp [dom],by simp [dom],h⟩
theorem Ctx.lt(c:Ctx W w S Φ){b:Nat}(hb:b∈dom S):b<w.heap.size:=by
 obtain ⟨o,ho,hb⟩:=List.mem_flatMap.1 hb;exact Own.a4p (c.own o ho) b hb
theorem Ctx.go[O Φ](c:Ctx W w S Φ)(hs:Step (dom S) (dom S') w w')(ho:∀ o∈S',o.at w')(hn:(dom S').Nodup):Ctx W w' S' Φ:=by
 refine ⟨c.nY.trans hs.nY λb hb=>.inr (c.yB b hb),ho,λb hb=>?_,hn,O.step hs c.Γ⟩;rcases hs.sub b hb with h|h
 .exact c.yB b h
 .exact Nat.le_trans c.nY.size h
theorem Ctx.call[O Φ](c:Ctx W w S Φ)(h:bD [] w w'):Ctx W w' S Φ :=
 c.go ⟨h.mono (by simp),λb hb=>.inl hb⟩ (λo ho=>Own.IZ (c.own o ho) λb hb=>h.block b (c.lt (qv ho hb)) (by simp)) c.nodup
theorem Ctx.draw[O Φ](c:Ctx W w S Φ)(n:Nat):Ctx W (w.drewN n) S Φ:=c.call ((bD.refl _ _).drewN n)
theorem Ctx.new'[O Φ](c:Ctx W w S Φ)(o:Obj)(x:Own)(hd:x.dom=[w.heap.size])(hx:x.at (w.alloc o)):Ctx W (w.alloc o) (x :: S) Φ:=by
 have hc:bD [] w (w.alloc o):=(bD.refl _ _).alloc o;have a81:dom (x :: S)=w.heap.size :: dom S:=by simp [dom,hd]
 refine c.go ⟨hc.mono (by simp),λb hb=>?_⟩ (λy hy=>?_) ?_
 .rw [a81] at hb;rcases List.mem_cons.1 hb with rfl|hb
  .exact .inr (Nat.le_refl _)
  .exact .inl hb
 .rcases List.mem_cons.1 hy with rfl|hy
  .exact hx
  .exact Own.IZ (c.own y hy) λb hb=>hc.block b (c.lt (qv hy hb)) (by simp)
 .rw [a81];exact List.nodup_cons.2 ⟨λhm=>by have:=c.lt hm;omega,c.nodup⟩
theorem Ctx.new[O Φ](c:Ctx W w S Φ){cs:Array Value}{t:TypeId}(e:w'=w.alloc (.cells cs t)):Ctx W w' (.blk w.heap.size cs.toList t :: S) Φ:=by
 subst e;exact c.new' _ _ rfl (by have:=cj.aPr w cs.toList t;simpa [Own.at] using this)
abbrev κ(W:World)(R:List Own)(Φ:List Nat->World->Prop)(R':List Own)(Z:List Nat->World->Prop):Prop:=∀ (w:World) (F:List Own),Ctx W w (R++F) Φ->Ctx W w (R'++F) Z
abbrev η(W:World)(R:List Own)(Φ:List Nat->World->Prop)(J:Value->World->Prop)(v:Value):Prop:=∀ (w:World) (F:List Own),Ctx W w (R++F) Φ->J v w
abbrev π(W:World)(R:List Own)(Φ:List Nat->World->Prop)(k:World->Prop):Prop:=∀ (w:World) (F:List Own),Ctx W w (R++F) Φ->k w
abbrev af(W:World)(R:List Own)(Φ:List Nat->World->Prop)(n:Nat)(cr:List Own->(List Nat->World->Prop)->Nat->Prop):Prop:=∃ (R':List Own) (Z:List Nat->World->Prop) (k:Nat),O Z/\κ W R Φ R' Z/\cr R' Z k/\k<n
abbrev bT(W:World)(R:List Own)(Φ:List Nat->World->Prop)(cr:List Own->(List Nat->World->Prop)->Nat->Prop):Prop:=∃ (R':List Own) (Z:List Nat->World->Prop) (k:Nat),O Z/\κ W R Φ R' Z/\cr R' Z k
abbrev aa(n:Int)(m:Nat)(p:Option Addr)(k:Nat->Nat->Prop):Prop:=(0<=n/\n<(m:Int))/\gA none p k
theorem Ctx.newObj[O Φ](c:Ctx W w S Φ){o:Obj}(e:w'=w.alloc o):Ctx W w' (.obj w.heap.size o :: S) Φ:=by
 subst e;exact c.new' _ _ rfl (KJ w o)
theorem V9{k:Nat}{o o':Own}(hk:S[k]? = some o):dom (S.set k o')=(S.take k).flatMap Own.dom++o'.dom++(S.drop (k+1)).flatMap Own.dom:=by
 have hlt:k<S.length:=(List.getElem?_eq_some_iff.1 hk).1;rw [List.set_eq_take_append_cons_drop,if_pos hlt];simp [dom]
theorem aR7{k:Nat}{o:Own}(hk:S[k]? = some o):dom S=(S.take k).flatMap Own.dom++o.dom++(S.drop (k+1)).flatMap Own.dom:=by
 have:=V9 (S:=S) (o':=o) hk
 rwa [show S.set k o=S by
  apply List.ext_getElem?;intro i;rw [List.getElem?_set];split
  .rename_i h;subst h;split
   .exact hk.symm
   .rename_i h;exact absurd (List.getElem?_eq_some_iff.1 hk).1 h
  .rfl] at this
theorem Ctx.o8[O Φ](c:Ctx W w S Φ){k:Nat}{o o':Own}(hk:S[k]? = some o)(hc:bD o.dom w w')(hd:∀ b∈o'.dom,b∈o.dom\/w.heap.size<=b)(hn:o'.dom.Nodup)(ho:o'.at w'):Ctx W w' (S.set k o') Φ:=by
 have hmem:o∈S:=List.mem_of_getElem? hk;have e:=aR7 hk;have hnd:=c.nodup;rw [e] at hnd;have hlt:∀ b∈(S.take k).flatMap Own.dom++o.dom++(S.drop (k+1)).flatMap Own.dom,b<w.heap.size:=λb hb=>c.lt (by rw [e];exact hb);refine c.go ⟨hc.mono λx hx=>qv hmem hx,λb hb=>?_⟩ (λy hy=>?_) ?_
 .rw [V9 hk] at hb;simp only [List.mem_append] at hb;rcases hb with (hb|hb)|hb
  .left;rw [e];simp [hb]
  .rcases hd b hb with h|h
   .left;rw [e];simp [h]
   .exact .inr h
  .left;rw [e];simp [hb]
 .obtain ⟨j,hj⟩:=List.getElem?_of_mem hy;rw [List.getElem?_set] at hj;split at hj
  .split at hj
   .cases hj;exact ho
   .cases hj
  .rename_i hne;refine Own.IZ (c.own y (List.mem_of_getElem? hj)) λb hb=>hc.block b (c.lt (qv (List.mem_of_getElem? hj) hb)) λhm=>?_;simp only [List.nodup_append,List.mem_append] at hnd;obtain ⟨⟨_,_,h1⟩,_,h2⟩:=hnd;have hjl:j<S.length:=(List.getElem?_eq_some_iff.1 hj).1;by_cases og:j<k
   .have:b∈(S.take k).flatMap Own.dom:=List.mem_flatMap.2 ⟨y,List.mem_of_getElem? (i:=j) (by rw [List.getElem?_take_of_lt og];exact hj),hb⟩;exact absurd rfl (h1 b this b hm)
   .have:b∈(S.drop (k+1)).flatMap Own.dom:=List.mem_flatMap.2 ⟨y,List.mem_of_getElem? (i:=j - (k+1)) (by rw [List.getElem?_drop,show k+1+(j - (k+1))=j by omega];exact hj),hb⟩;exact absurd rfl (h2 b (.inr hm) b this)
 .rw [V9 hk];simp only [List.nodup_append,List.mem_append] at hnd ⊢;obtain ⟨⟨n1,n2,h1⟩,nA,h2⟩:=hnd;refine ⟨⟨n1,hn,λa ha b hb=>?_⟩,nA,λa ha b hb=>?_⟩
  .rcases hd b hb with h|h
   .exact h1 a ha b h
   .have:=hlt a (by simp [ha]);omega
  .rcases ha with ha|ha
   .exact h2 a (.inl ha) b hb
   .rcases hd a ha with h|h
    .exact h2 a (.inr h) b hb
    .have:=hlt b (by simp [hb]);omega
theorem Ctx.put[O Φ](c:Ctx W w S Φ)(k:Nat){b i:Nat}{cs:List Value}{t:TypeId}{v:Value}(e:w'=w.setCell ⟨b,i,none⟩ v)(hk:S[k]? = some (.blk b cs t)):Ctx W w' (S.set k (.blk b (cs.set i v) t)) Φ:=by
 subst e;exact c.o8 hk ((bD.refl _ _).setCell (by simp [Own.dom]) v) (by simp [Own.dom]) (by simp [Own.dom]) (cj.set (c.own _ (List.mem_of_getElem? hk)) i v)
theorem Ctx.RH[O Φ](c:Ctx W w S Φ)(k:Nat){b i:Nat}{cs vs:List Value}{t:TypeId}(e:w'=w.setCells b i vs)(hk:S[k]? = some (.blk b cs t)):Ctx W w' (S.set k (.blk b (dM cs i vs) t)) Φ:=by
 subst e;exact c.o8 hk ((bD.refl _ _).setCells (by simp [Own.dom]) i vs) (by simp [Own.dom]) (by simp [Own.dom]) (cj.sets vs i (c.own _ (List.mem_of_getElem? hk)))
theorem Ctx.putObj[O Φ](c:Ctx W w S Φ)(k:Nat){b:Nat}{o:Obj}(o':Obj)(hk:S[k]? = some (.obj b o)):Ctx W (r9 w b o') (S.set k (.obj b o')) Φ :=
 c.o8 hk ((bD.refl _ _).r9 (by simp [Own.dom]) o') (by simp [Own.dom]) (by simp [Own.dom]) (aWB _ _ (c.lt (qv (List.mem_of_getElem? hk) (by simp [Own.dom]))))
theorem Ctx.blk(c:Ctx W w S Φ)(k:Nat){b:Nat}{cs:List Value}{t:TypeId}(hk:S[k]? = some (.blk b cs t)):cj w b cs t:=c.own _ (List.mem_of_getElem? hk)
theorem Ctx.get(c:Ctx W w S Φ)(k:Nat){b i:Nat}{cs:List Value}{t:TypeId}{v:Value}(hk:S[k]? = some (.blk b cs t))(hv:cs[i]? = some v):w.cell? ⟨b,i,none⟩=some v:=(c.blk k hk).Iv hv
theorem Ctx.row(c:Ctx W w S Φ)(k:Nat){b o:Nat}{cs vs:List Value}{t:TypeId}(hk:S[k]? = some (.blk b cs t))(hv:∀ j,(hj:j<vs.length)->cs[o+j]? = some vs[j]):aQ w b o vs:=(c.blk k hk).row hv
theorem Ctx.DS(c:Ctx W w S Φ)(k:Nat){b:Nat}{cs:List Value}{t:TypeId}(hk:S[k]? = some (.blk b cs t)):aQ w b 0 cs:=(c.blk k hk).DS
theorem Ctx.can(c:Ctx W w S Φ)(k:Nat){b o n:Nat}{cs:List Value}{t:TypeId}(hk:S[k]? = some (.blk b cs t))(hn:o+n<=cs.length):bJ w b o n:=(c.blk k hk).can hn
theorem Ctx.add(c:Ctx W w S Φ)(h:Ψ (dom S) w):Ctx W w S (λM w=>Φ M w/\Ψ M w):=⟨c.nY,c.own,c.yB,c.nodup,c.Γ,h⟩
theorem Ctx.weak(c:Ctx W w S Φ)(h:∀ M w,Φ M w->Ψ M w):Ctx W w S Ψ:=⟨c.nY,c.own,c.yB,c.nodup,h _ _ c.Γ⟩
theorem Ctx.sub[O Φ](c:Ctx W w S Φ)(h:S'.Sublist S):Ctx W w S' Φ :=
 c.go ⟨bD.refl _ _,λb hb=>.inl (by
   obtain ⟨o,ho,hb⟩:=List.mem_flatMap.1 hb;exact qv (h.subset ho) hb)⟩ (λo ho=>c.own o (h.subset ho)) (by
  refine List.Nodup.sublist ?_ c.nodup;clear c
  induction h with
  | slnil=>exact List.Sublist.refl _
  | cons a _ ih=>exact ih.trans (List.sublist_append_right _ _)
  | cons_cons a _ ih=>exact List.Sublist.append (List.Sublist.refl _) ih)
theorem Ctx.eN[O Φ]{o:Own}(c:Ctx W w (o :: S) Φ):Ctx W w S Φ:=c.sub (List.sublist_cons_self _ _)
end
section
variable {W w:World}{S:List Own}{Φ:List Nat->World->Prop}
theorem Ctx.zF[O Φ](c:Ctx W w S Φ)(t:TypeId)(size:Nat):Ctx W w (.buf none 0 0 [] t size :: S) Φ :=
 c.go ⟨bD.refl _ _,λb hb=>.inl (by simpa [dom,Own.dom] using hb)⟩ (λo ho=>by
  rcases List.mem_cons.1 ho with rfl|ho
  .exact World.ownsRow_nil _ _ _ _
  .exact c.own o ho) (by have:=c.nodup;simpa [dom,Own.dom] using this)
theorem Ctx.aIn[O Φ](c:Ctx W w S Φ)(k:Nat){b:Nat}{cs:List Value}{t:TypeId}(n size:Nat)(hk:S[k]? = some (.blk b cs t))(hl:cs.length=n*size)(hm:n<=maxLen):
  Ctx W w (S.set k (.buf (some ⟨b,0,none⟩) n n cs t size)) Φ:=by
 refine c.o8 hk (bD.refl _ _) (by simp [Own.dom]) (by simp [Own.dom]) ?_;refine ⟨hl,.inr ⟨b,n,cs.toArray,rfl,Nat.zero_le _,c.blk k hk,Nat.le_refl _,hm,by simpa using hl,?_⟩⟩;simp only;rw [<-hl,List.take_length]
theorem Ctx.ry(c:Ctx W w S Φ)(k:Nat){p:Option Addr}{n cap:Nat}{cs:List Value}{t:TypeId}{size:Nat}(hk:S[k]? = some (.buf p n cap cs t size)):cs.length=n*size/\n<=cap/\cap<=maxLen:=by
 obtain ⟨h1,h2⟩:=c.own _ (List.mem_of_getElem? hk);refine ⟨h1,?_⟩;rcases h2 with ⟨e,rfl⟩|⟨g,cap',cur,e,_,_,h3,h4,_⟩
 .cases e;simp [maxLen]
 .cases e;exact ⟨h3,h4⟩
theorem Ctx.UN{P:Program}(c:Ctx W w S Φ)(k:Nat){p:Option Addr}{n cap:Nat}{cs:List Value}{t:TypeId}{size:Nat}(hk:S[k]? = some (.buf p n cap cs t size))
  {ts ty:TypeId} {i:TypeInfo} (ht:P.underlying ts=some (.slice t)) (hi:P.info? t=some i) (q:Option Addr) (c2:Nat) :
  (Builtin.append_ #[ts,ts] ty #[.slice p n cap,.slice q 0 c2]).run P w=.ok (.slice p n cap) w:=by
 obtain ⟨_,hn,_⟩:=c.ry k hk;have hf:(Builtin.firstCells i.size 0 (.slice q 0 c2)).run P w=.ok #[] w:=by
  cases q<;>simp [Builtin.firstCells,loadCells,loadCellsFrom]
 simp [Builtin.append_,run_underlying ht,sizeOf,typeInfo,hi,Builtin.lenOf,hn,hf,Result.andThen];cases p<;>simp [storeCells,Result.andThen]
theorem Ctx.append[O Φ]{P:Program}(c:Ctx W w S Φ)(k:Nat){p:Option Addr}{n cap:Nat}{cs:List Value}{t:TypeId}{size:Nat}(hk:S[k]? = some (.buf p n cap cs t size))
  {ts ty:TypeId} {i:TypeInfo} {z:Value} (ht:P.underlying ts=some (.slice t)) (hi:P.info? t=some i) (hz:i.zero=some z) (hs:i.size=size) (hzs:z.cells.size=size)
  {a:Addr} {m c2:Nat} {news:List Value} (hm:0<m) (hl:news.length=m*size) (hnews:∀ j u,news[j]? = some u->w.cell? (a.add j)=some u) (h1:∀ u∈news,dJ u=true)
  (hbytes:(n+m)*i.bytes<=140737488355328) (hlen:n+m<=140737488355328) :
  ∃ p' cap' w',(Builtin.append_ #[ts,ts] ty #[.slice p n cap,.slice (some a) m c2]).run P w=.ok (.slice p' (n+m) cap') w'/\Ctx W w' (S.set k (.buf p' (n+m) cap' (cs++news) t size)) Φ:=by
 subst hs;have Jo:∀ u∈news,u.oneCell'=true:=λu hu=>by have:=h1 u hu;cases u<;>simp_all [dJ,Value.oneCell']
 have hown:=c.own _ (List.mem_of_getElem? hk);obtain ⟨bp,hown⟩:=hown;have hlen':(cs++news).length=(n+m)*i.size:=by rw [List.length_append,bp,hl,Nat.add_mul]
 have grown:∀ (old:Nat),old<n+m->(∀ x∈Own.dom (.buf p n cap cs t i.size),x<w.heap.size) ->
   Ctx W (w.drew.alloc (.cells (cs.toArray++news.toArray++Builtin.zeroCells z.cells (grownCap w (n+m) old t - (n+m))) t))
    (S.set k (.buf (some ⟨w.heap.size,0,none⟩) (n+m) (grownCap w (n+m) old t) (cs++news) t i.size)) Φ:=by
  intro old ho _;have hge:=grownCap_ge w (n+m) old t;have hcm:grownCap w (n+m) old t<=maxLen:=grownCap_le_maxLen w (n+m) old t (by simp only [maxLen];omega);refine c.o8 hk (((bD.refl _ _).drewN 1).alloc _) (by simp [Own.dom]) (by simp [Own.dom]) ⟨hlen',.inr ⟨w.heap.size,_,_,rfl,Nat.zero_le _,KJ w.drew _,hge,hcm,?_,?_⟩⟩
  .simp only [Array.size_append,List.size_toArray,size_zeroCells,hzs,bp,hl,<-Nat.add_mul]
   congr 1
   omega
  .simp only [Array.toList_append,aq];rw [<-aq,<-hlen'];exact List.take_left
 rcases hown with ⟨e,rfl⟩|⟨g,cap',cur,e,_,hg,hnc,hcm,hcs,om⟩
 .cases e;have hx:cs=[]:=List.eq_nil_of_length_eq_zero (by simpa using bp);subst hx;have hr:=run_append_nil (P:=P) w ts ty t i z ht hi hz a m c2 news hl hnews hm (by omega) (by have hb:=hbytes;simp only [Nat.zero_add] at hb;omega);have C1:=grown 0 (by omega) (by simp [Own.dom]);simp only [Nat.zero_add,List.nil_append,Array.empty_append] at C1 hr ⊢;exact ⟨_,_,_,hr,C1⟩
 .cases e;by_cases hroom:n+m<=cap
  .have hfit:n*i.size+news.length<=cur.size:=by rw [hl,hcs,<-Nat.add_mul];exact Nat.mul_le_mul_right _ hroom
   have hr:=run_append_room (P:=P) w ts ty t i ht hi g n cap cur hg a m c2 news hl hnews Jo hroom hfit;refine ⟨_,_,_,hr,c.o8 hk ⟨rfl,rfl,rfl,by simp,λb _ hb=>setRow_other w g b _ (by simpa [Own.dom] using hb)⟩ (by simp [Own.dom]) (by simp [Own.dom])
    ⟨hlen',.inr ⟨g,cap,_,rfl,Nat.zero_le _,setRow_heap w g cur _ t _ hg,hroom,hcm,?_,?_⟩⟩⟩
   .simp only [List.size_toArray,List.length_append,List.length_take,List.length_drop,Array.length_toList];omega
   .rw [om,<-hlen'];exact List.take_left
  .have holds:∀ j u,cs[j]? = some u->w.cell? ((⟨g,0,none⟩:Addr).add j)=some u:=by
    intro j u hj;have hlt:j<cs.length:=(List.getElem?_eq_some_iff.1 hj).1;have h2:cur[j]? = some u:=by
     rw [<-om,List.getElem?_take_of_lt (by omega)] at hj;simpa using hj
    rw [addr_add,Nat.zero_add];simp [World.cell?,hg,h2]
   have hr:=run_append_grow (P:=P) w ts ty t i z ht hi hz ⟨g,0,none⟩ n cap cs bp holds a m c2 news hl hnews (by omega) (by omega) (growslice_fits (by omega) hbytes);have C1:=grown cap (by omega) (λx hx=>c.lt (qv (List.mem_of_getElem? hk) hx));exact ⟨_,_,_,hr,C1⟩
theorem Ctx.vD(c:Ctx W w S Φ)(k:Nat){p:Option Addr}{n cap:Nat}{cs:List Value}{t:TypeId}{size:Nat}(hk:S[k]? = some (.buf p n cap cs t size))(h0:0<cs.length):
  ∃ b,p=some ⟨b,0,none⟩/\b∈dom S/\∀ j v,cs[j]? = some v->w.cell? ⟨b,j,none⟩=some v/\w.frozen? ⟨b,j,none⟩=false:=by
 obtain ⟨h1,h2⟩:=c.own _ (List.mem_of_getElem? hk);rcases h2 with ⟨e,rfl⟩|⟨g,cap',cur,e,_,hg,hnc,hcm,hcs,om⟩
 .simp at h1;subst h1;simp at h0
 .cases e;refine ⟨g,rfl,qv (List.mem_of_getElem? hk) (by simp [Own.dom]),λj v hj=>?_⟩;have hlt:j<cs.length:=(List.getElem?_eq_some_iff.1 hj).1;have h2:cur[j]? = some v:=by
   rw [<-om,List.getElem?_take_of_lt (by omega)] at hj;simpa using hj
  exact ⟨by simp [World.cell?,hg,h2],by simp [World.frozen?,hg]⟩
def Δ{α:Type}[ι α](M:List Nat)(w:World)(cs:List Value)(l:List α):Prop :=
 cs.length=l.length*(ι.ty α).size/\∀ j,(hj:j<l.length)->ι.rep M w ((cs.drop (j*(ι.ty α).size)).take (ι.ty α).size) l[j]
theorem Δ.nil{α:Type}[ι α]{M:List Nat}{w:World}:Δ M w [] ([]:List α):=⟨by simp,λj hj=>by simp at hj⟩
theorem Δ.snoc{α:Type}[ι α]{M:List Nat}{w:World}{cs d:List Value}{l:List α}{x:α}(h:Δ M w cs l)(hx:ι.rep M w d x):Δ M w (cs++d) (l++[x]):=by
 have hd:=ι.len hx;refine ⟨by simp [h.1,hd,Nat.add_mul],λj hj=>?_⟩;simp only [List.length_append,List.length_singleton] at hj;by_cases hj':j<l.length
 .rw [List.getElem_append_left hj'];have:=h.2 j hj';have hle:(j+1)*(ι.ty α).size<=cs.length:=by rw [h.1];exact Nat.mul_le_mul_right _ hj'
  rw [Nat.add_mul,Nat.one_mul] at hle;rw [List.drop_append_of_le_length (by omega),List.take_append_of_le_length (by simp;omega)];exact this
 .have:j=l.length:=by omega
  subst this;rw [List.getElem_append_right (Nat.le_refl _),<-h.1,List.drop_left,<-hd,List.take_length];simpa using hx
theorem Δ.append{α:Type}[ι α]{M:List Nat}{w:World}{cs ds:List Value}{l:List α}(h:Δ M w cs l):∀ {r:List α},Δ M w ds r->Δ M w (cs++ds) (l++r):=by
 intro r hr;refine ⟨by simp [h.1,hr.1,Nat.add_mul],λj hj=>?_⟩;simp only [List.length_append] at hj;by_cases hj':j<l.length
 .rw [List.getElem_append_left hj'];have:=h.2 j hj';have hle:(j+1)*(ι.ty α).size<=cs.length:=by rw [h.1];exact Nat.mul_le_mul_right _ hj'
  rw [Nat.add_mul,Nat.one_mul] at hle;rw [List.drop_append_of_le_length (by omega),List.take_append_of_le_length (by simp;omega)];exact this
 .rw [List.getElem_append_right (by omega),List.drop_append,List.drop_of_length_le (by rw [h.1];exact Nat.mul_le_mul_right _ (by omega)),List.nil_append,h.1,<-Nat.sub_mul];exact hr.2 _ (by omega)
instance adU{α:Type}[ι α](cs:List Value)(l:List α):O (λM w=>Δ M w cs l):=⟨λhs h=>⟨h.1,λj hj=>ι.eK hs (h.2 j hj)⟩⟩
theorem Ctx.freeze[O Φ]{α:Type}[ι α]{p:Option Addr}{n cap:Nat}{cs:List Value}{t:TypeId}{l:List α}(c:Ctx W w (.buf p n cap cs t (ι.ty α).size :: S) Φ)
  (h:Δ (dom (.buf p n cap cs t (ι.ty α).size :: S)) w cs l):Ctx W w S Φ/\ζ (dom S) w p l/\n=l.length/\n<=cap/\cap<=maxLen:=by
 have c':=c.eN;have hl:=c.ry 0 rfl;have hpos:0<(ι.ty α).size:=ι.pos;have hn:n=l.length:=by
  have:=hl.1.symm.trans h.1;exact Nat.eq_of_mul_eq_mul_right hpos this
 refine ⟨c',λj hj=>?_,hn,hl.2⟩;have hle:(j+1)*(ι.ty α).size<=cs.length:=by rw [h.1];exact Nat.mul_le_mul_right _ hj
 rw [Nat.add_mul,Nat.one_mul] at hle;obtain ⟨b,rfl,hb,hc⟩:=c.vD 0 rfl (by omega);refine ⟨b,0,(cs.drop (j*(ι.ty α).size)).take (ι.ty α).size,rfl,?_,λi hi=>?_,?_⟩
 .have hnd:=c.nodup;simp only [dom,List.flatMap_cons,Own.dom,List.nodup_append] at hnd;exact λhm=>hnd.2.2 b (by simp) b hm rfl
 .rw [Nat.zero_add];refine (hc _ _ ?_).1;simp only [List.length_take,List.length_drop] at hi;rw [List.getElem_take,List.getElem_drop,List.getElem?_eq_getElem]
 .exact ι.eK ⟨bD.refl _ _,λb hb=>.inl (by simp only [dom,List.flatMap_cons,List.mem_append];exact .inr hb)⟩ (h.2 j hj)
end
end Go.Vc
end

section
namespace Go.Vc
open Go.RowKit
abbrev Y:=List Nat->World->Prop
inductive aj where
 | v (x:Value)
 | ptr (k o:Nat)
structure ρ where
 id:Nat
 b:Nat
 lM:Nat
 cs:List Value
 t:TypeId
def ρ.own(T:ρ):Own:=.blk T.b T.cs T.t
def bC(k:Nat):List ρ->Option ρ
 | []=>none
 | T :: r=>match Nat.beq T.id k with|true=>some T|false=>bC k r
def lJ(k:Nat)(cs:List Value):List ρ->List ρ
 | []=>[]
 | T :: r=>match Nat.beq T.id k with|true=>⟨T.id,T.b,Nat.succ T.lM,cs,T.t⟩ :: r|false=>T :: lJ k cs r
def aj.val(L:List ρ):aj->Value
 | .v x=>x
 | .ptr k o=>match bC k L with|some T=>.pointer (some ⟨T.b,o,none⟩)|none=>w9
structure Ω where
 n:Nat
 l:List (Nat × aj)
def s4(i:Nat):List (Nat × aj)->aj
 | []=>.v w9
 | (t,x) :: r=>match Nat.beq t i with|true=>x|false=>s4 i r
def hJ(L:List ρ):List (Nat × aj)->List (Nat × Value)
 | []=>[]
 | (t,x) :: r=>(t,x.val L) :: hJ L r
def Ω.fr(L:List ρ)(s:Ω):Fr:=⟨s.n,hJ L s.l⟩
def Ω.ev(s:Ω):Operand->aj
 | .tmp t=>s4 t s.l
 | .const v=>.v v
 | .global g=>.v (.pointer (some ⟨g,0,none⟩))
 | .func f=>.v (.func (.func f) #[] #[])
def Ω.val(s:Ω)(L:List ρ)(x:Operand):Value:=(s.ev x).val L
def Ω.put(s:Ω)(d:Option Tmp)(v:aj):Ω :=
 match d with
 | some t=>match Nat.blt t s.n with
  | true=>⟨s.n,(t,v) :: s.l⟩
  | false=>s
 | none=>s
theorem Pe(L:List ρ)(i:Nat):∀ l:List (Nat × aj),gw i (hJ L l)=(s4 i l).val L
 | []=>rfl
 | (t,x) :: r=>by
  simp only [hJ,gw,s4];cases Nat.beq t i with
  | true=>rfl
  | false=>exact Pe L i r
theorem vL(s:Ω)(L:List ρ)(x:Operand):(s.fr L).eval x=s.val L x:=by
 cases x with
 | tmp t=>exact Pe L t s.l
 | const v=>rfl
 | global g=>rfl
 | func f=>rfl
theorem Jm(s:Ω)(L:List ρ)(d:Option Tmp)(v:aj):(s.put d v).fr L=(s.fr L).put d (v.val L):=by
 cases d with
 | none=>rfl
 | some t =>
  simp only [Ω.put,Fr.put,Ω.fr];cases Nat.blt t s.n<;>rfl
structure Ext(L L':List ρ):Prop where
 old:∀ k T,bC k L=some T->∃ cu,bC k L'=some cu/\cu.b=T.b/\cu.t=T.t/\T.lM<=cu.lM/\(cu.lM=T.lM->cu.cs=T.cs)
 bs:(L.map ρ.b).Sublist (L'.map ρ.b)
 ids:(L.map ρ.id).Nodup->(L'.map ρ.id).Nodup
theorem Ext.refl(L:List ρ):Ext L L:=⟨λ_ T h=>⟨T,h,rfl,rfl,Nat.le_refl _,λ_=>rfl⟩,List.Sublist.refl _,id⟩
theorem Ext.trans{A υ C:List ρ}(h:Ext A υ)(h':Ext υ C):Ext A C:=⟨λk T hk=>by
 obtain ⟨T1,a1,a2,a3,a4,a5⟩:=h.old k T hk;obtain ⟨T2,b1,b2,b3,b4,BK⟩:=h'.old k T1 a1;exact ⟨T2,b1,b2.trans a2,b3.trans a3,Nat.le_trans a4 b4,λe=>by rw [BK (by omega),a5 (by omega)]⟩,h.bs.trans h'.bs,λhn=>h'.ids (h.ids hn)⟩
theorem a6x{k:Nat}{T:ρ}:∀ {L:List ρ},bC k L=some T->T.id=k/\T∈L
 | [],h=>by cases h
 | e7 :: r,h=>by
  unfold bC at h;split at h
  .rename_i hb;cases h;exact ⟨Nat.eq_of_beq_eq_true hb,by simp⟩
  .obtain ⟨h1,h2⟩:=a6x h;exact ⟨h1,List.mem_cons_of_mem _ h2⟩
theorem a6z{k:Nat}{cs:List Value}{T:ρ}(j:Nat):∀ {L:List ρ},bC k L=some T->bC j (lJ k cs L)=if j=k then some ⟨T.id,T.b,Nat.succ T.lM,cs,T.t⟩ else bC j L
 | [],h=>by cases h
 | e7 :: r,h=>by
  unfold bC at h;unfold lJ;cases hb:Nat.beq e7.id k with
  | true =>
   rw [hb] at h;cases h;have he:=Nat.eq_of_beq_eq_true hb;simp only [bC];by_cases hj:j=k
   .subst hj;rw [hb,if_pos rfl]
   .rw [if_neg hj,show Nat.beq T.id j=false by
     cases hx:Nat.beq T.id j with
     | false=>rfl
     | true=>exact absurd ((Nat.eq_of_beq_eq_true hx).symm.trans he) hj]
  | false =>
   rw [hb] at h;have ih:=a6z (cs:=cs) j h;simp only [bC];cases hx:Nat.beq e7.id j with
   | true =>
    have:=Nat.eq_of_beq_eq_true hx;rw [if_neg (λe=>by rw [this,e] at hb;exact absurd hb (by simp))]
   | false=>exact ih
theorem ZJ(k:Nat)(cs:List Value):∀ L:List ρ,(lJ k cs L).map ρ.b=L.map ρ.b/\(lJ k cs L).map ρ.id=L.map ρ.id
 | []=>⟨rfl,rfl⟩
 | T :: r=>by
  unfold lJ;cases Nat.beq T.id k with
  | true=>exact ⟨rfl,rfl⟩
  | false=>have:=ZJ k cs r;simp [this]
theorem Ext.lJ{k:Nat}{cs:List Value}{L:List ρ}{T:ρ}(h:bC k L=some T):Ext L (lJ k cs L):=by
 refine ⟨λj e7 hj=>?_,by rw [(ZJ k cs L).1];exact List.Sublist.refl _,by rw [(ZJ k cs L).2];exact id⟩;rw [a6z j h];by_cases e:j=k
 .subst e;rw [h] at hj;cases hj;rw [if_pos rfl];exact ⟨_,rfl,rfl,rfl,Nat.le_succ _,λhh=>absurd hh (Nat.succ_ne_self _)⟩
 .rw [if_neg e];exact ⟨e7,hj,rfl,rfl,Nat.le_refl _,λ_=>rfl⟩
theorem a6y{k:Nat}:∀ {L:List ρ},bC k L=none->∀ T∈L,T.id≠k
 | [],_,T,hT=>by cases hT
 | e7 :: r,h,T,hT=>by
  unfold bC at h;split at h
  .cases h
  .rename_i hb;rcases List.mem_cons.1 hT with rfl|hT
   .exact Nat.ne_of_beq_eq_false hb
   .exact a6y h T hT
theorem Ext.new{L:List ρ}{T:ρ}(h:bC T.id L=none):Ext L (T :: L):=by
 refine ⟨λj e7 hj=>?_,List.sublist_cons_self _ _,λhn=>List.nodup_cons.2 ⟨λhm=>?_,hn⟩⟩
 rotate_left
 .obtain ⟨e7,tj,e⟩:=List.mem_map.1 hm;exact a6y h e7 tj e
 unfold bC;cases hb:Nat.beq T.id j with
 | true=>have:=Nat.eq_of_beq_eq_true hb;rw [this,hj] at h;cases h
 | false=>exact ⟨e7,hj,rfl,rfl,Nat.le_refl _,λ_=>rfl⟩
theorem Ext.hJ{L L':List ρ}(h:Ext L L'):∀ {l:List (Nat × aj)},(∀ p∈l,∀ k o,p.2=aj.ptr k o->(bC k L).isSome=true)->hJ L' l=hJ L l
 | [],_=>rfl
 | (t,x) :: r,hl=>by
  have ih:=Ext.hJ h (l:=r) λp hp=>hl p (List.mem_cons_of_mem _ hp);simp only [Go.Vc.hJ,ih];cases x with
  | v x=>rfl
  | ptr k o =>
   have:=hl (t,.ptr k o) (by simp) k o rfl;obtain ⟨T,hT⟩:=Option.isSome_iff_exists.1 this;obtain ⟨cu,h1,h2,_⟩:=h.old k T hT;simp only [aj.val,hT,h1,h2]
def fX(L:List ρ)(s:Ω):Prop:=∀ p∈s.l,∀ k o,p.2=aj.ptr k o->(bC k L).isSome=true
theorem fX.ext{L L':List ρ}{s:Ω}(h:fX L s)(he:Ext L L'):fX L' s:=λp hp k o e=>by
 obtain ⟨T,hT⟩:=Option.isSome_iff_exists.1 (h p hp k o e);obtain ⟨cu,h1,_⟩:=he.old k T hT;rw [h1];rfl
theorem fX.fr{L L':List ρ}{s:Ω}(h:fX L s)(he:Ext L L'):s.fr L'=s.fr L:=by
 simp only [Ω.fr,he.hJ h]
theorem fX.put{L:List ρ}{s:Ω}(h:fX L s){d:Option Tmp}{v:aj}(hv:∀ k o,v=aj.ptr k o->(bC k L).isSome=true):fX L (s.put d v):=by
 cases d with
 | none=>exact h
 | some t =>
  unfold Ω.put;simp only;cases Nat.blt t s.n with
  | false=>exact h
  | true =>
   intro p hp k o e;rcases List.mem_cons.1 hp with rfl|hp
   .exact hv k o e
   .exact h p hp k o e
theorem fX.ev{L:List ρ}{s:Ω}(h:fX L s){x:Operand}{k o:Nat}(e:s.ev x=.ptr k o):(bC k L).isSome=true:=by
 cases x with
 | tmp t =>
  unfold Ω.ev at e;have key:∀ l:List (Nat × aj),s4 t l=.ptr k o->∃ p∈l,p.2=.ptr k o:=by
   intro l
   induction l with
   | nil=>intro h;cases h
   | cons p r ih =>
    intro h;unfold s4 at h;split at h
    .exact ⟨p,by simp,h⟩
    .obtain ⟨q,hq,qj⟩:=ih h;exact ⟨q,List.mem_cons_of_mem _ hq,qj⟩
  obtain ⟨p,hp,hp'⟩:=key _ e;exact h p hp k o hp'
 | const v=>cases e
 | global g=>cases e
 | func f=>cases e
def dP(G:List Own)(W w:World)(L:List ρ)(R:List Own)(Φ:Y):Prop:=Ctx W w (R++(L.map ρ.own++G)) Φ
def qB:Option Prop->Prop
 | some p=>p
 | none=>False
def bh.fit:bh->Value->Bool
 | .int k,.int k' _=>decide (k'=k)
 | .bool,.bool _=>true
 | .str,.string _=>true
 | .ptr,.pointer _=>true
 | .slice,.slice _ _ _=>true
 | .map,.map _=>true
 | .fn,.func (.func _) _ _=>true
 | .any,_=>true
 | .rj,.pointer (some ⟨_,_,none⟩)=>true
 | _,_=>false
def zP:List bh->List Value->Bool
 | [],[]=>true
 | s :: r,v :: vs=>match s.fit v with|true=>zP r vs|false=>false
 | _,_=>false
theorem bh.a77{s:bh}{v:Value}{K:Value->Prop}(h:s.fit v=true)(hk:K v):s.ex K:=by
 cases s
 case rj =>
  cases v
  case pointer p =>
   rcases p with _|⟨b,o,s⟩
   .simp only [bh.fit] at h;cases h
   .cases s with
    | none=>exact ⟨_,_,hk⟩
    | some s=>simp only [bh.fit] at h;cases h
  all_goals simp only [bh.fit] at h;cases h
 all_goals cases v<;>simp only [bh.fit] at h<;>first
  | (cases h;done)
  | exact ⟨_,hk⟩
  | exact ⟨_,_,_,hk⟩
  | (have:=aD h;subst this;exact ⟨_,hk⟩)
  | (rename_i f _ _;cases f<;>simp only [bh.fit] at h<;>first|(cases h;done)|exact ⟨_,_,_,hk⟩)
theorem a74:∀ {l:List bh} {vs:List Value} {K:List Value->Prop},zP l vs=true->K vs->FG l K
 | [],[],_,_,hk=>hk
 | s :: r,v :: vs,_,h,hk=>by
  unfold zP at h;split at h
  .rename_i hs;exact bh.a77 hs (a74 h hk)
  .cases h
 | [],_ :: _,_,h,_=>by cases h
 | _ :: _,[],_,h,_=>by cases h
def loadT(P:Program)(t:TypeId)(L:List ρ)(k off:Nat)(K:Value->Prop):Prop :=
 match bC k L,P.underlying t,P.info? t with
 | some T,some d,some i =>
  match tK d,i.zero.map gU.of with
  | true,some (.agg l)=>match Nat.beq l.length i.size&&zP l ((T.cs.drop off).take i.size) with
   | true=>K (.agg ((T.cs.drop off).take i.size).toArray)
   | false=>False
  | false,some (.one s)=>match T.cs[off]? with
   | some v=>match s with
    | .fn=>∃ (f:FuncId) (a c:Array Value),v=.func (.func f) a c/\K (.func (.func f) a c)
    | s=>match s.fit v with
     | true=>K v
     | false=>False
   | none=>False
  | _,_=>False
 | _,_,_=>False
def PU(P:Program)(t:TypeId)(k off f:Nat)(K:aj->Prop):Prop :=
 match P.underlying t with
 | some (.struct fs) =>
  match fs[f]? with
  | some fd =>
   match P.info? fd.type with
   | some i=>match Nat.beq i.size 0 with
    | false=>K (.ptr k (off+fd.offset))
    | true=>False
   | none=>False
  | none=>False
 | _=>False
def X5(P:Program)(t:TypeId)(k off:Nat)(i:Value)(K:aj->Prop):Prop :=
 match i,P.underlying t with
 | .int _ n,some (.array len e)=>match P.info? e with
  | some fc=>(0<=n/\n<len)/\K (.ptr k (idx off n.toNat fc.size))
  | none=>False
 | _,_=>False
def isLen(o:Oper):Bool:=match o.op with | .call c=>(match c.callee with | .builtin .len=>true|_=>false)|_=>false
def PD(P:Program)(wr:Bool)(ex:Nat->Option TypeId)(o:Oper)(τ:Operand->Value)(w:World)(K:Value->World->Prop):Prop :=
 match wr with
 | true=>P6 P ex o τ w K
 | false=>FA P ex o τ w K
section
variable (P:Program)(W:World)
def vz(wr:Bool)(o:Oper)(s:Ω)(L:List ρ)(R:List Own)(Φ:Y)(K:aj->Prop):Option Prop :=
 match o.op with
 | .move x=>some (K (s.ev x))
 | .assign x=>some (K (s.ev x))
 | .nilCheck x=>match s.ev x with
  | .ptr k off=>some (K (.ptr k off))
  | .v _=>jc P wr o (s.val L) W none λv=>K (.v v)
 | .fieldAddr t x f=>match s.ev x with
  | .ptr k off=>some (PU P t k off f K)
  | .v _=>jc P wr o (s.val L) W none λv=>K (.v v)
 | .indexAddr t x i=>match s.ev x with
  | .ptr k off=>some (X5 P t k off (s.val L i) K)
  | .v _=>jc P wr o (s.val L) W none λv=>K (.v v)
 | .load t x=>match s.ev x with
  | .ptr k off=>some (loadT P t L k off λv=>K (.v v))
  | .v _=>some (∀ w F,Ctx W w (R++F) Φ->qB (jc P wr o (s.val L) w none λv=>K (.v v)))
 | .lookup .. => some (∀ w F,Ctx W w (R++F) Φ->qB (jc P wr o (s.val L) w none λv=>K (.v v)))
 | _=>match ir P o (s.val L) λv=>K (.v v) with
  | false=>jc P wr o (s.val L) W none λv=>K (.v v)
  | true=>match isLen o with
   | true=>some (∀ w F,Ctx W w (R++F) Φ->qB (jc P wr o (s.val L) w none λv=>K (.v v)))
   | false=>none
def storeT(wr:Bool)(t:TypeId)(L:List ρ)(k off:Nat)(v:Value)(K:List ρ->Prop):Prop :=
 match bC k L,P.info? t with
 | some T,some i =>
  match wr with
  | true=>match P.underlying t with
   | some d=>match tK d with
    | true=>match v with
     | .agg cs=>match Nat.beq cs.toList.length i.size&&Nat.ble (off+i.size) T.cs.length with
      | true=>Nx cs.toList/\K (lJ k (dM T.cs off cs.toList) L)
      | false=>False
     | _=>False
    | false=>match Nat.beq i.size 1&&Nat.blt off T.cs.length with
     | true=>Nx [v]/\K (lJ k (T.cs.set off v) L)
     | false=>False
   | none=>False
  | false=>match v with
   | .agg cs=>match Nat.beq cs.toList.length i.size&&cs.toList.all dJ&&Nat.ble (off+i.size) T.cs.length with
    | true=>K (lJ k (dM T.cs off cs.toList) L)
    | false=>False
   | v=>match Nat.beq i.size 1&&dJ v&&Nat.blt off T.cs.length with
    | true=>K (lJ k (T.cs.set off v) L)
    | false=>False
 | _,_=>False
def iZ(dc:Bool)(d:Option Tmp)(cs:List Value)(t:TypeId)(L:List ρ)(R:List Own)(Φ:Y)(K:aj->List ρ->List Own->Y->Prop):Prop :=
 match dc,d with
 | true,some d=>match bC d L with
  | none=>∀ b:Nat,K (.ptr d 0) (⟨d,b,0,cs,t⟩ :: L) R Φ
  | some _=>False
 | _,_=>∀ b:Nat,K (.v (.pointer (some ⟨b,0,none⟩))) L (.blk b cs t :: R) Φ
def aIP(t:TypeId)(n:Nat)(parts:List (Nat × Value)):Option (List Value × TypeId) :=
 match P.underlying t with
 | some (.slice e) =>
  match P.info? e,zeroOf P e with
  | some i,some z =>
   match Nat.ble (n*i.size) 16777216&&Nat.beq i.size z.cells.toList.length with
   | true =>
    match tf (λj=>some (j*i.size,i.size)) (qM n z.cells.toList) parts with
    | some cells=>some (cells,e)
    | none=>none
   | false=>none
  | _,_=>none
 | _=>none
def aCJ(t:TypeId)(l c:Value)(K:Nat->Nat->List Value->TypeId->Prop):Prop :=
 match P.underlying t,l,c with
 | some (.slice e),.int .i64 l,.int .i64 c =>
  match P.info? e,zeroOf P e with
  | some i,some z =>
   (0<=l/\l<=c/\i.bytes*c<=281474976710656/\c<=9223372036854775807) /\
    (match Nat.beq i.size 1&&dJ z with
     | true=>K l.toNat c.toNat (List.replicate c.toNat z) e
     | false=>match Nat.beq i.size z.cells.toList.length && !(Nat.beq i.size 0) with
      | true=>K l.toNat c.toNat (qM c.toNat z.cells.toList) e
      | false=>False)
  | _,_=>False
 | _,_,_=>False
def xZ(wr dc:Bool)(ex:Nat->Option TypeId)(o:Oper)(s:Ω)(L:List ρ)(R:List Own)(Φ:Y)(K:aj->List ρ->List Own->Y->Prop):Prop :=
 match o.op with
 | .pick c x y=>match s.val L c with
  | .bool b=>U b (K (s.ev x) L R Φ) (K (s.ev y) L R Φ)
  | _=>False
 | _=>match A8 (s.fr L) o&&uO o with
  | true=>match vz P W wr o s L R Φ λv=>K v L R Φ with
   | some p=>p
   | none=>match o.op with
    | .store t x y=>match s.ev x with
     | .ptr k off=>storeT P wr t L k off (s.val L y) λL=>K (.v undef) L R Φ
     | .v _=>∀ w F,Ctx W w (R++F) Φ->PD P wr ex o (s.val L) w λv w'=>∃ R' Z,O Z/\Ctx W w' (R'++F) Z/\K (.v v) L R' Z
    | .box t x=>iZ dc o.dst (s.val L x).cells.toList t L R Φ K
    | .alloc t=>match zeroOf P t with
     | some z=>iZ dc o.dst z.cells.toList t L R Φ K
     | none=>False
    | .buildSlice t n parts=>match aIP P t n (parts.toList.map λp=>(p.1,s.val L p.2)) with
     | some (cells,e)=>∀ b:Nat,K (.v (.slice (some ⟨b,0,none⟩) n n)) L (.blk b cells e :: R) Φ
     | none=>False
    | .makeSlice t l c=>aCJ P t (s.val L l) (s.val L c) λl c cells e=>∀ b:Nat,K (.v (.slice (some ⟨b,0,none⟩) l c)) L (.blk b cells e :: R) Φ
    | .makeMap _ none=>∀ b:Nat,K (.v (.map (some b))) L (.obj b (.map #[] 0) :: R) Φ
    | .build t parts=>Gg P t (parts.toList.map λp=>(p.1,s.val L p.2)) λv=>K (.v v) L R Φ
    | _=>∀ w F,Ctx W w (R++F) Φ->PD P wr ex o (s.val L) w λv w'=>∃ R' Z,O Z/\Ctx W w' (R'++F) Z/\K (.v v) L R' Z
  | false=>False
end
end Go.Vc
end

section
namespace Go.Vc
variable {G:List Own}
variable {ds:List Deferred}
open Go.RowKit
theorem Ctx.perm{W w:World}{S S':List Own}{Φ:Y}[O Φ](c:Ctx W w S Φ)(h:S.Perm S'):Ctx W w S' Φ:=by
 have hd:(dom S).Perm (dom S'):=h.flatMap_right _;exact c.go ⟨bD.refl _ _,λb hb=>.inl (hd.mem_iff.2 hb)⟩ (λo ho=>c.own o (h.mem_iff.2 ho)) (hd.nodup_iff.1 c.nodup)
section
variable {P:Program}{W w:World}{L:List ρ}{R:List Own}{Φ:Y}
theorem dP.blk(c:dP G W w L R Φ){k:Nat}{T:ρ}(h:bC k L=some T):cj w T.b T.cs T.t :=
 c.own T.own (List.mem_append.2 (.inr (List.mem_append.2 (.inl (List.mem_map.2 ⟨T,(a6x h).2,rfl⟩)))))
theorem dP.new[O Φ](c:dP G W w L R Φ){cs:Array Value}{t:TypeId}(d:Nat):dP G W (w.alloc (.cells cs t)) (⟨d,w.heap.size,0,cs.toList,t⟩ :: L) R Φ:=by
 have:=Ctx.new c (w':=w.alloc (.cells cs t)) rfl;exact this.perm (by simpa [ρ.own] using List.perm_middle.symm)
theorem dP.newR[O Φ](c:dP G W w L R Φ){cs:Array Value}{t:TypeId}:dP G W (w.alloc (.cells cs t)) L (.blk w.heap.size cs.toList t :: R) Φ:=Ctx.new c rfl
theorem aCL{k:Nat}{cs:List Value}{T:ρ}:∀ {L:List ρ},bC k L=some T->∃ i,(L.map ρ.own)[i]? = some T.own/\(lJ k cs L).map ρ.own=(L.map ρ.own).set i (.blk T.b cs T.t)
 | [],h=>by cases h
 | e7 :: r,h=>by
  unfold bC at h;unfold lJ;cases hb:Nat.beq e7.id k with
  | true =>
   rw [hb] at h;cases h;exact ⟨0,rfl,rfl⟩
  | false =>
   rw [hb] at h;obtain ⟨i,h1,h2⟩:=aCL (cs:=cs) h;exact ⟨i+1,by simpa using h1,by simp [h2]⟩
theorem dP.o8[O Φ](c:dP G W w L R Φ){k:Nat}{T:ρ}{cs:List Value}{w':World}(h:bC k L=some T)(hc:bD [T.b] w w')(hb:cj w' T.b cs T.t):dP G W w' (lJ k cs L) R Φ:=by
 obtain ⟨i,h1,h2⟩:=aCL (cs:=cs) h;unfold dP at c ⊢;have hi:i<(L.map ρ.own).length:=(List.getElem?_eq_some_iff.1 h1).1;rw [h2,show R++((L.map ρ.own).set i (.blk T.b cs T.t)++G)=(R++(L.map ρ.own++G)).set (R.length+i) (.blk T.b cs T.t) by
  rw [List.set_append_right _ _ (by omega),List.set_append_left _ _ (by omega)];congr 3;omega]
 refine Ctx.o8 c (o:=T.own) (by rw [List.getElem?_append_right (by omega)];rw [show R.length+i - R.length=i by omega,List.getElem?_append_left hi];exact h1) hc (by simp [Own.dom,ρ.own]) (by simp [Own.dom]) hb
theorem Yx{wr:Bool}{o:Oper}{τ:Operand->Value}{K:Value->Prop}{p:Prop}(W w:World)(h:jc P wr o τ W none K=some p)(hf:ir P o τ K=false)(hp:p):
  ∃ v,(∀ w',(execOp τ o).run P w'=.ok (.value v) w')/\K v :=
 let ⟨v,h1,h2⟩:=Yw h hp
 ⟨v,λw'=>h1 trivial w' λe=>(by rw [hf] at e;cases e),h2⟩
theorem YN{wr:Bool}{o:Oper}{τ:Operand->Value}{K:Value->Prop}(h:qB (jc P wr o τ w none K)):∃ v,(∀ w',w'.heap=w.heap->(execOp τ o).run P w'=.ok (.value v) w')/\K v:=by
 unfold qB at h;split at h
 .rename_i p hp;obtain ⟨v,h1,h2⟩:=RI hp h;exact ⟨v,h1 trivial,h2⟩
 .exact h.elim
theorem X'{t:TypeId}{k off:Nat}{K:Value->Prop}{T:ρ}(hT:bC k L=some T)(hb:cj w T.b T.cs T.t)(h:loadT P t L k off K):
  ∃ v,(∀ w',w'.heap=w.heap->(loadVar t ⟨T.b,off,none⟩).run P w'=.ok v w')/\K v:=by
 unfold loadT at h;rw [hT] at h;split at h
 .rename_i cu d i e hd hi;cases e;have key:Dg P t w none T.b off K:=by
   unfold Dg;rw [hd,hi];simp only;split at h
   .rename_i l ha hz;split at h
    .rename_i hc;simp only [Bool.and_eq_true] at hc;simp only [ha,hz,hc.1];refine a74 hc.2 ⟨hb.row λj hj=>?_,h⟩;simp only [List.length_take,List.length_drop] at hj;rw [List.getElem_take,List.getElem_drop,List.getElem?_eq_getElem]
    .exact h.elim
   .rename_i sc ha hz;split at h
    .rename_i v hv;split at h
     .obtain ⟨f,a,c,rfl,h⟩:=h;simp only [ha,hz];exact ⟨f,a,c,hb.Iv hv,h⟩
     .split at h
      .rename_i hf;simp only [ha,hz];exact bh.a77 hf ⟨hb.Iv hv,h⟩
      .exact h.elim
    .exact h.elim
   .exact h.elim
  obtain ⟨v,h1,h2⟩:=Rz key;exact ⟨v,h1 trivial,h2⟩
 .exact h.elim
theorem PV{t:TypeId}{k off f:Nat}{K:aj->Prop}{T:ρ}(hT:bC k L=some T)(h:PU P t k off f K):
  ∃ off',(∀ w,(Instr.fieldAt t (.pointer (some ⟨T.b,off,none⟩)) f).run P w=.ok (.pointer (some ⟨T.b,off',none⟩)) w)/\K (.ptr k off'):=by
 unfold PU at h;split at h
 .rename_i fs ht;split at h
  .rename_i fd hf;split at h
   .rename_i i hi;split at h
    .rename_i hz;have hz:¬ i.size=0:=Nat.ne_of_beq_eq_false hz;refine ⟨_,λw=>?_,h⟩;simp [Instr.fieldAt,run_underlying ht,Result.andThen,hf,Instr.sureAddr,fieldPlace,run_sizeOf hi,hz,addr_add]
    .exact h.elim
   .exact h.elim
  .exact h.elim
 .exact h.elim
theorem X6{t:TypeId}{k off:Nat}{i:Value}{K:aj->Prop}{T:ρ}(hT:bC k L=some T)(h:X5 P t k off i K):
  ∃ off',(∀ w,(Instr.indexAt t (.pointer (some ⟨T.b,off,none⟩)) i).run P w=.ok (.pointer (some ⟨T.b,off',none⟩)) w)/\K (.ptr k off'):=by
 unfold X5 at h;split at h
 .rename_i kk n len e ht;split at h
  .rename_i fc hi;obtain ⟨⟨h3,h4⟩,h⟩:=h;refine ⟨_,λw=>?_,h⟩;simp [Instr.indexAt,asIntOf,run_underlying ht,Result.andThen,h3,h4,run_sizeOf hi,addr_add,Instr.sureAddr,idx_eq]
  .exact h.elim
 .exact h.elim
theorem ie{L:List ρ}{k off:Nat}{T:ρ}(h:bC k L=some T):(aj.ptr k off).val L=.pointer (some ⟨T.b,off,none⟩):=by simp [aj.val,h]
theorem aHH{wr:Bool}{o:Oper}{s:Ω}{K:aj->Prop}{p:Prop}(hwf:fX L s)(c:dP G W w L R Φ)(h:vz P W wr o s L R Φ K=some p)(hp:p):
  ∃ sv,(∀ k o,sv=aj.ptr k o->(bC k L).isSome=true)/\(∀ w',w'.heap=w.heap->(execOp (s.val L) o).run P w'=.ok (.value (sv.val L)) w')/\K sv:=by
 have oA:∀ {p:Prop},ir P o (s.val L) (λv=>K (.v v))=false->jc P wr o (s.val L) W none (λv=>K (.v v))=some p->p ->
   ∃ sv,(∀ k o,sv=aj.ptr k o->(bC k L).isSome=true)/\(∀ w',w'.heap=w.heap->(execOp (s.val L) o).run P w'=.ok (.value (sv.val L)) w')/\K sv:=by
  intro p hf hq hp;obtain ⟨v,h1,h2⟩:=Yx W w hq hf hp;exact ⟨.v v,λk o e=>(by cases e),λw' _=>h1 w',h2⟩
 have a0G:qB (jc P wr o (s.val L) w none (λv=>K (.v v))) ->
   ∃ sv,(∀ k o,sv=aj.ptr k o->(bC k L).isSome=true)/\(∀ w',w'.heap=w.heap->(execOp (s.val L) o).run P w'=.ok (.value (sv.val L)) w')/\K sv:=by
  intro hq;obtain ⟨v,h1,h2⟩:=YN hq;exact ⟨.v v,λk o e=>(by cases e),h1,h2⟩
 unfold vz at h;split at h
 .rename_i x hop;cases h;exact ⟨s.ev x,λk o e=>hwf.ev e,λw' _=>by simp [execOp,hop,Ω.val],hp⟩
 .rename_i x hop;cases h;exact ⟨s.ev x,λk o e=>hwf.ev e,λw' _=>by simp [execOp,hop,Ω.val],hp⟩
 .rename_i x hop;split at h
  .rename_i k off hx;cases h;obtain ⟨T,hT⟩:=Option.isSome_iff_exists.1 (hwf.ev hx);refine ⟨.ptr k off,λk' o' e=>by cases e;rw [hT];rfl,λw' _=>?_,hp⟩;have hv:s.val L x=.pointer (some ⟨T.b,off,none⟩):=by rw [Ω.val,hx,ie hT]
   simp [execOp,hop,hv,ie hT]
  .exact oA (by simp [ir,hop]) h hp
 .rename_i t x f hop;split at h
  .rename_i k off hx;cases h;obtain ⟨T,hT⟩:=Option.isSome_iff_exists.1 (hwf.ev hx);obtain ⟨off',h1,h2⟩:=PV hT hp;refine ⟨.ptr k off',λk' o' e=>by cases e;rw [hT];rfl,λw' _=>?_,h2⟩;have hv:s.val L x=.pointer (some ⟨T.b,off,none⟩):=by rw [Ω.val,hx,ie hT]
   simp [execOp,hop,hv,ie hT,h1 w',Result.andThen]
  .exact oA (by simp [ir,hop]) h hp
 .rename_i t x i hop;split at h
  .rename_i k off hx;cases h;obtain ⟨T,hT⟩:=Option.isSome_iff_exists.1 (hwf.ev hx);obtain ⟨off',h1,h2⟩:=X6 hT hp;refine ⟨.ptr k off',λk' o' e=>by cases e;rw [hT];rfl,λw' _=>?_,h2⟩;have hv:s.val L x=.pointer (some ⟨T.b,off,none⟩):=by rw [Ω.val,hx,ie hT]
   simp [execOp,hop,hv,ie hT,h1 w',Result.andThen]
  .exact oA (by simp [ir,hop]) h hp
 .rename_i t x hop;split at h
  .rename_i k off hx;cases h;obtain ⟨T,hT⟩:=Option.isSome_iff_exists.1 (hwf.ev hx);obtain ⟨v,h1,h2⟩:=X' hT (c.blk hT) hp;refine ⟨.v v,λk o e=>(by cases e),λw' hw=>?_,h2⟩;have hv:s.val L x=.pointer (some ⟨T.b,off,none⟩):=by rw [Ω.val,hx,ie hT]
   simp [execOp,hop,hv,Instr.loadAt,Instr.sureAddr,h1 w' hw,Result.andThen,aj.val]
  .cases h;exact a0G (hp w _ c)
 .cases h;exact a0G (hp w _ c)
 .split at h
  .rename_i hf;exact oA hf h hp
  .split at h
   .cases h;exact a0G (hp w _ c)
   .cases h
theorem a7V{K K':Value->World->Prop}(hK:∀ v w,K v w->K' v w):∀ {r},kR P K r->kR P K' r:=by
 intro r hr;cases r with
 | ok n w' =>
  cases n<;>simp only [kR] at hr ⊢ <;> try exact hr
  .exact hK _ _ hr
  .exact hK _ _ hr
  .exact hr.mono λe w'' ⟨v,he,hk⟩=>⟨v,he,hK _ _ hk⟩
 | halt x w'=>exact hr
theorem aQe{t:TypeId}{i:TypeInfo}{b off:Nat}{cs:List Value}{ty:TypeId}{vs:List Value}(hi:P.info? t=some i)(hb:cj w b cs ty)(hn:vs.length=i.size)(h1:∀ v∈vs,dJ v=true)(hl:off+i.size<=cs.length):
  (storeVar t ⟨b,off,none⟩ (.agg vs.toArray)).run P w=.ok () (w.setCells b off vs):=by
 have hcan:=hb.can (o:=off) (n:=vs.length) (by omega);have hr:=RR (P:=P) (b:=b) (o:=off) vs 0 w h1 (λj hj=>by rw [Nat.zero_add];exact hcan j hj);unfold storeVar;simp only [Value.cells,Sem.run_bind,run_sizeOf hi,Result.andThen,List.size_toArray,hn,ne_eq,not_true_eq_false,if_false];simpa using hr
theorem aZ9[O Φ]{wr:Bool}{t:TypeId}{k off:Nat}{v:Value}{K:List ρ->Prop}{T:ρ}(hT:bC k L=some T)(c:dP G W w L R Φ)(h:storeT P wr t L k off v K):
  ∃ w' L',(storeVar t ⟨T.b,off,none⟩ v).run P w=.ok () w'/\K L'/\Ext L L'/\dP G W w' L' R Φ:=by
 have hb:=c.blk hT;unfold storeT at h;rw [hT] at h;split at h
 case h_2=>exact h.elim
 rename_i cu i e hi;cases e;have agg:∀ {cs:Array Value},cs.toList.length=i.size->(∀ v∈cs.toList,dJ v=true)->off+i.size<=T.cs.length->K (lJ k (dM T.cs off cs.toList) L) ->
   ∃ w' L',(storeVar t ⟨T.b,off,none⟩ (.agg cs)).run P w=.ok () w'/\K L'/\Ext L L'/\dP G W w' L' R Φ:=by
  intro cs h1 h2 h3 h4;have hr:=aQe (P:=P) hi hb h1 h2 h3;rw [Array.toArray_toList] at hr;exact ⟨_,_,hr,h4,Ext.lJ hT,c.o8 hT ((bD.refl _ _).setCells (by simp) _ _) (hb.sets _ _)⟩
 have one:∀ {v:Value},i.size=1->dJ v=true->off<T.cs.length->K (lJ k (T.cs.set off v) L) ->
   ∃ w' L',(storeVar t ⟨T.b,off,none⟩ v).run P w=.ok () w'/\K L'/\Ext L L'/\dP G W w' L' R Φ:=by
  intro v h1 h2 h3 h4;obtain ⟨g1,g2⟩:=hb.can (o:=off) (n:=1) (by omega) 0 (by omega);exact ⟨_,_,Z5 hi h1 h2 g1 g2,h4,Ext.lJ hT,c.o8 hT ((bD.refl _ _).setCell (by simp) _) (hb.set _ _)⟩
 split at h
 .split at h
  .split at h
   .split at h
    .split at h
     .rename_i hc;simp only [Bool.and_eq_true] at hc;exact agg (Nat.eq_of_beq_eq_true hc.1) h.1 (Nat.le_of_ble_eq_true hc.2) h.2
     .exact h.elim
    .exact h.elim
   .split at h
    .rename_i hc;simp only [Bool.and_eq_true] at hc;exact one (Nat.eq_of_beq_eq_true hc.1) (h.1 _ (by simp)) (by have h2:=hc.2;rwa [Nat.blt_eq] at h2) h.2
    .exact h.elim
  .exact h.elim
 .split at h
  .split at h
   .rename_i hc;simp only [Bool.and_eq_true] at hc;exact agg (Nat.eq_of_beq_eq_true hc.1.1) (λv hv=>List.all_eq_true.1 hc.1.2 v hv) (Nat.le_of_ble_eq_true hc.2) h
   .exact h.elim
  .split at h
   .rename_i hc;simp only [Bool.and_eq_true] at hc;exact one (Nat.eq_of_beq_eq_true hc.1.1) hc.1.2 (by have h2:=hc.2;rwa [Nat.blt_eq] at h2) h
   .exact h.elim
theorem D0[O Φ]{wr dc:Bool}{ex:Nat->Option TypeId}{o:Oper}{s:Ω}{a:Act}{K:aj->List ρ->List Own->Y->Prop}{K':Value->World->Prop}
  (h:xZ P W wr dc ex o s L R Φ K) (hs:cQ ds (s.fr L) a) (hwf:fX L s) (c:dP G W w L R Φ)
  (hK:∀ sv L' R' Z v' w',K sv L' R' Z->O Z->Ext L L'->(∀ k o,sv=aj.ptr k o->(bC k L').isSome=true)->dP G W w' L' R' Z->(cg (sv.val L')=false->v'=sv.val L')->K' v' w') :
  kR P K' ((execOp a.eval o).run P w):=by
 unfold xZ at h;split at h
 .rename_i cc x y hop;split at h
  .rename_i b hc;have hev:=vL s L;have fZ:a.eval cc=.bool b:=by rw [hs.eval (by rw [hev,hc];rfl),hev,hc]
   cases b with
   | true =>
    simp only [U] at h;simp only [execOp,hop,fZ,asBool,Sem.run_bind,Sem.run_pure,Result.andThen,if_true,kR];exact hK _ _ _ _ _ _ h γ (Ext.refl _) (λk o e=>hwf.ev e) c λhu=>by rw [hs.eval (by rw [hev];exact hu),hev];rfl
   | false =>
    simp only [U] at h;simp only [execOp,hop,fZ,asBool,Sem.run_bind,Sem.run_pure,Result.andThen,kR,Bool.false_eq_true,if_false];exact hK _ _ _ _ _ _ h γ (Ext.refl _) (λk o e=>hwf.ev e) c λhu=>by rw [hs.eval (by rw [hev];exact hu),hev];rfl
  .exact h.elim
 .split at h
  case h_2=>exact h.elim
  rename_i ho;simp only [Bool.and_eq_true] at ho;rw [Bl hs ho.1 ho.2,show (s.fr L).eval=s.val L from funext (vL s L)];split at h
  .rename_i p hp;obtain ⟨sv,h1,h2,h3⟩:=aHH hwf c hp h;rw [h2 w rfl];exact hK _ _ _ _ _ _ h3 γ (Ext.refl _) h1 c λ_=>rfl
  .have gen:(∀ w F,Ctx W w (R++F) Φ->PD P wr ex o (s.val L) w λv w'=>∃ R' Z,O Z/\Ctx W w' (R'++F) Z/\K (.v v) L R' Z)->kR P K' ((execOp (s.val L) o).run P w):=by
    intro h;have h:=h w _ c;have mono:∀ v w',(∃ R' Z,O Z/\Ctx W w' (R'++(L.map ρ.own++G)) Z/\K (.v v) L R' Z)->K' v w':=by
     rintro v w' ⟨R',Z,h1,h2,h3⟩;exact hK _ _ _ _ _ _ h3 h1 (Ext.refl _) (λk o e=>by cases e) h2 λ_=>rfl
    unfold PD at h;cases wr with
    | true=>exact a7V mono (a6j h)
    | false=>exact a7V mono (PE h)
   have new:∀ {cs:Array Value} {t:TypeId},iZ dc o.dst cs.toList t L R Φ K->K' (.pointer (some ⟨w.heap.size,0,none⟩)) (w.alloc (.cells cs t)):=by
    intro cs t h;unfold iZ at h;split at h
    .rename_i d hd _;split at h
     .rename_i hn;refine hK _ _ _ _ _ _ (h w.heap.size) γ (Ext.new (T:=⟨d,w.heap.size,0,cs.toList,t⟩) hn) (λk o e=>?_) (c.new d) λ_=>?_
      .cases e;simp [bC]
      .simp [aj.val,bC]
     .exact h.elim
    .exact hK _ _ _ _ _ _ (h w.heap.size) γ (Ext.refl _) (λk o e=>by cases e) c.newR λ_=>rfl
   split at h
   .rename_i t x y hop;split at h
    .rename_i k off hx;obtain ⟨T,hT⟩:=Option.isSome_iff_exists.1 (hwf.ev hx);obtain ⟨w',L',h1,h2,h3,h4⟩:=aZ9 hT c h;have hv:s.val L x=.pointer (some ⟨T.b,off,none⟩):=by rw [Ω.val,hx,ie hT]
     simp only [execOp,hop,hv,Instr.storeAt,Instr.sureAddr,Sem.run_bind,Sem.run_pure,Result.andThen,h1];exact hK _ _ _ _ _ _ h2 γ h3 (λk o e=>by cases e) h4 λ_=>rfl
    .exact gen h
   .rename_i t x hop;simp only [execOp,hop,Instr.box,newVar,newRow,newObj,Sem.run_bind,Sem.run,Sem.run_pure,Result.andThen];exact new h
   .rename_i t hop;split at h
    .rename_i z hz;simp only [execOp,hop,Instr.alloc,newVar,newRow,newObj,Sem.run_bind,GO hz,Sem.run,Sem.run_pure,Result.andThen];exact new h
    .exact h.elim
   .rename_i t n parts hop;split at h
    .rename_i cells e hsc;have key:Mr P t n (parts.toList.map λp=>(p.1,s.val L p.2)) w λv w'=>v=.slice (some ⟨w.heap.size,0,none⟩) n n/\w'=w.alloc (.cells cells.toArray e):=by
      unfold aIP at hsc;unfold Mr;split at hsc
      .rename_i e' ht;split at hsc
       .rename_i i z hi hz;split at hsc
        .rename_i hc;split at hsc
         .rename_i cells' hf;cases hsc;simp only [ht,hi,hz,hc,hf];exact λw' hw'=>⟨by simp,hw'⟩
         .cases hsc
        .cases hsc
       .cases hsc
      .cases hsc
     rw [show (parts.toList.map λp=>(p.1,s.val L p.2))=(parts.map λ(i,x)=>(i,s.val L x)).toList by simp] at key;obtain ⟨v,w',h1,rfl,rfl⟩:=aJ1 key;simp only [execOp,hop,Sem.run_bind,h1,Sem.run_pure,Result.andThen];exact hK _ _ _ _ _ _ (h w.heap.size) γ (Ext.refl _) (λk o e=>by cases e) (by have:=c.newR (cs:=cells.toArray) (t:=e);simpa using this) λ_=>rfl
    .exact h.elim
   .rename_i t l cc hop;have key:Ms P t (s.val L l) (s.val L cc) w λv w'=>∃ n m cells e,v=.slice (some ⟨w.heap.size,0,none⟩) n m/\w'=w.alloc (.cells (List.toArray cells) e)/\∀ b:Nat,K (.v (.slice (some ⟨b,0,none⟩) n m)) L (.blk b cells e :: R) Φ:=by
     unfold aCJ at h;unfold Ms;split at h
     .rename_i e l' c' ht e1 e2;rw [ht,e1,e2];simp only;split at h
      .rename_i i z hi hz;rw [hi,hz];obtain ⟨h1,h2⟩:=h;refine ⟨h1,?_⟩;split at h2
       .rename_i hc;simp only [Bool.and_eq_true,Nat.beq_eq] at hc;rw [if_pos hc];exact λw' hw'=>⟨_,_,_,_,rfl,hw',h2⟩
       .rename_i hn;split at h2
        .rename_i hc;simp only [Bool.and_eq_true,Nat.beq_eq,Bool.not_eq_true'] at hc;rw [if_neg (by rintro ⟨q1,iL⟩;simp [q1,iL] at hn),if_pos ⟨hc.1,Nat.ne_of_beq_eq_false hc.2⟩];exact λw' hw'=>⟨_,_,_,_,rfl,hw',h2⟩
        .exact h2.elim
      .exact h.elim
     .exact h.elim
    obtain ⟨v,w',h1,n,m,cells,e,rfl,rfl,h2⟩:=aJ5 key;simp only [execOp,hop,Sem.run_bind,h1,Sem.run_pure,Result.andThen];exact hK _ _ _ _ _ _ (h2 w.heap.size) γ (Ext.refl _) (λk o e=>by cases e) (by have:=c.newR (cs:=cells.toArray) (t:=e);simpa using this) λ_=>rfl
   .rename_i t hop;simp only [execOp,hop,Option.map_none,Instr.makeMap,newObj,Sem.run_bind,Sem.run,Sem.run_pure,Result.andThen];exact hK _ _ _ _ _ _ (h w.heap.size) γ (Ext.refl _) (λk o e=>by cases e) (Ctx.newObj c rfl) λ_=>rfl
   .rename_i t parts hop;rw [show (parts.toList.map λp=>(p.1,s.val L p.2))=(parts.map λ(i,x)=>(i,s.val L x)).toList by simp] at h;obtain ⟨v,h1,h2⟩:=aJ3 (w:=w) h;simp only [execOp,hop,Sem.run_bind,h1,Sem.run_pure,Result.andThen];exact hK _ _ _ _ _ _ h2 γ (Ext.refl _) (λk o e=>by cases e) c λ_=>rfl
   .exact gen h
end
end Go.Vc
end

