/-
 THE CONDITIONS OF A WALK AS ONE FORMULA: a function's body.
-/
import Derived.Test.YtnlkemjhgdbfkaaGreatDoorCu1
import Derived.ProofKit
import Derived.Laws.AppendOwn

set_option linter.unusedVariables false
set_option linter.unusedSimpArgs false
section
namespace Go.Vc
variable {ds:List Deferred}
open Go.RowKit
abbrev gX:=List (Nat × Sh)
def Sc.Arg(α:Type):Sc->Type
 | .int _=>Int->α
 | .bool=>Bool->α
 | .str=>ByteArray->α
 | .ptr=>Option Addr->α
 | .slice=>Option Addr->Nat->Nat->α
 | .map=>Option Nat->α
 | .fn=>FuncId->Array Value->Array Value->α
 | .any=>Value->α
 | .adr=>Nat->Nat->α
def aJO(α:Type):List Sc->Type
 | []=>α
 | s :: r=>Sc.Arg (aJO α r) s
def Sh.Arg(α:Type):Sh->Type
 | .one s=>s.Arg α
 | .agg l=>aJO α l
def pQ(ρ:Type):gX->Type
 | []=>ρ
 | (_,s) :: r=>s.Arg (pQ ρ r)
def Sc.app{α:Type}:(s:Sc)->s.Arg α->Value->Option α
 | .int k,f,.int k' n=>if k=k' then some (f n) else none
 | .bool,f,.bool b=>some (f b)
 | .str,f,.string s=>some (f s)
 | .ptr,f,.pointer p=>some (f p)
 | .slice,f,.slice p n c=>some (f p n c)
 | .map,f,.map r=>some (f r)
 | .fn,f,.func (.func g) a c=>some (f g a c)
 | .any,f,v=>match vZ v with|true=>none|false=>some (f v)
 | .adr,f,.pointer (some ⟨b,o,none⟩)=>some (f b o)
 | _,_,_=>none
def aCk{α:Type}:(l:List Sc)->aJO α l->List Value->Option α
 | [],x,[]=>some x
 | s :: r,f,v :: vs=>match s.app f v with
  | some g=>aCk r g vs
  | none=>none
 | _,_,_=>none
def Sh.app{α:Type}:(s:Sh)->s.Arg α->Value->Option α
 | .one s,f,v=>s.app f v
 | .agg l,f,.agg cs=>aCk l f cs.toList
 | _,_,_=>none
def pQ.app{ρ:Type}:(l:gX)->pQ ρ l->List Value->Option ρ
 | [],x,[]=>some x
 | (_,s) :: r,f,v :: vs=>match s.app f v with
  | some g=>pQ.app r g vs
  | none=>none
 | _,_,_=>none
def zI(x:Option (World->Prop))(w:World):Prop:=match x with|some I=>I w|none=>False
def a8n(x:Option (World->Nat))(w:World):Nat:=match x with|some I=>I w|none=>0
def Sc.all:Sc->(Value->Prop)->Prop
 | .int k,K=>∀ n:Int,K (.int k n)
 | .bool,K=>∀ b:Bool,K (.bool b)
 | .str,K=>∀ s:ByteArray,K (.string s)
 | .ptr,K=>∀ p:Option Addr,K (.pointer p)
 | .slice,K=>∀ p:Option Addr,∀ n c:Nat,K (.slice p n c)
 | .map,K=>∀ r:Option Nat,K (.map r)
 | .fn,K=>∀ (f:FuncId) (a c:Array Value),K (.func (.func f) a c)
 | .any,K=>∀ v:Value,K v
 | .adr,K=>∀ b o:Nat,K (.pointer (some ⟨b,o,none⟩))
def aJP:List Sc->(List Value->Prop)->Prop
 | [],K=>K []
 | s :: r,K=>s.all λv=>aJP r λvs=>K (v :: vs)
def Sh.all:Sh->(Value->Prop)->Prop
 | .one s,K=>s.all K
 | .agg l,K=>aJP l λvs=>K (.agg vs.toArray)
def gX.all:gX->(List Value->Prop)->Prop
 | [],K=>K []
 | (_,s) :: r,K=>s.all λv=>gX.all r λvs=>K (v :: vs)
theorem Sc.lD{α}{s:Sc}{f:s.Arg α}{v x}(h:s.app f v=some x){K}(hK:s.all K):K v/\vZ v=false:=by
  cases s
  case fn =>
    cases v
    case func g a c=>cases g<;>simp only [Sc.app] at h<;>first|(cases h;done)|exact ⟨hK _ _ _,rfl⟩
    all_goals simp only [Sc.app] at h;cases h
  case adr =>
    cases v
    case pointer p =>
      rcases p with _|⟨b,o,s⟩
      · simp only [Sc.app] at h;cases h
      · cases s with
        | none=>exact ⟨hK _ _,rfl⟩
        | some s=>simp only [Sc.app] at h;cases h
    all_goals simp only [Sc.app] at h;cases h
  all_goals
   cases v<;>simp only [Sc.app,vZ] at h<;>first
    | (cases h;done)
    | exact ⟨hK _,rfl⟩
    | exact ⟨hK _ _ _,rfl⟩
    | (split at h
       · rename_i e;subst e;exact ⟨hK _,rfl⟩
       · cases h)
    | (split at h
       · cases h
       · rename_i hu;exact ⟨hK _,hu⟩)
theorem a5t{α}:∀ {l:List Sc} {f:aJO α l} {vs:List Value} {x:α},aCk l f vs=some x->∀ {K:List Value->Prop},aJP l K->K vs
 | [],_,[],_,_,_,hK=>hK
 | s :: r,f,v :: vs,x,h,K,hK=>by
  unfold aCk at h;split at h
  .rename_i g hg;exact a5t h (Sc.lD hg hK).1
  .cases h
 | [],_,_ :: _,_,h,_,_=>by simp [aCk] at h
 | _ :: _,_,[],_,h,_,_=>by simp [aCk] at h
theorem Sh.lD{α}{s:Sh}{f:s.Arg α}{v x}(h:s.app f v=some x){K}(hK:s.all K):K v/\vZ v=false:=by
 unfold Sh.app at h;split at h
 .exact Sc.lD h hK
 .rename_i cs;have:=a5t h hK;exact ⟨by simpa using this,rfl⟩
 .cases h
theorem pQ.lD{ρ}:∀ {l:gX} {f:pQ ρ l} {vs:List Value} {x:ρ},pQ.app l f vs=some x->∀ {K:List Value->Prop},gX.all l K->K vs/\vs.length=l.length/\∀ v∈vs,vZ v=false
 | [],_,[],_,_,_,hK=>⟨hK,rfl,λv hv=>(by cases hv)⟩
 | (t,s) :: r,f,v :: vs,x,h,K,hK=>by
  unfold pQ.app at h;split at h
  .rename_i g hg;obtain ⟨h1,h2⟩:=Sh.lD hg hK;obtain ⟨h3,h4,h5⟩:=pQ.lD h h1;refine ⟨h3,by simp [h4],λu hu=>?_⟩;rcases List.mem_cons.1 hu with rfl|hu
   .exact h2
   .exact h5 u hu
  .cases h
 | [],_,_ :: _,_,h,_,_=>by simp [pQ.app] at h
 | _ :: _,_,[],_,h,_,_=>by simp [pQ.app] at h
theorem Sc.all_true:∀ {s:Sc} {K:Value->Prop},(∀ v,K v)->s.all K:=by
 intro s K h;cases s<;>simp only [Sc.all]<;>intros<;>exact h _
theorem a1F:∀ {l:List Sc} {K:List Value->Prop},(∀ v,K v)->aJP l K
 | [],_,h=>h _
 | _ :: _,_,h=>Sc.all_true λ_=>a1F λ_=>h _
theorem Sh.all_true{s:Sh}{K}(h:∀ v,K v):s.all K:=by
 cases s
 .exact Sc.all_true h
 .exact a1F λ_=>h _
theorem gX.all_true:∀ {l:gX} {K:List Value->Prop},(∀ v,K v)->l.all K
 | [],_,h=>h _
 | _ :: _,_,h=>Sh.all_true λ_=>gX.all_true λ_=>h _
theorem pQ.JC{ρ l}{f:pQ ρ l}{vs x}(h:pQ.app l f vs=some x):vs.length=l.length/\∀ v∈vs,vZ v=false :=
 (pQ.lD h (K:=λ_=>True) (gX.all_true λ_=>trivial)).2
def AJ{α:Type}(p:α->Prop):Prop:=∃ x,p x
theorem dS{α p}(x:α)(h:p x):AJ p:=⟨x,h⟩
def slotsOf(l:gX)(s:Fr):List Value:=l.map λv=>sS v.1 s.l
def M3(l:gX)(a:Act):List Value:=l.map λv=>a.tmps.getD v.1 undef
def dN(t:Nat):List Nat->Bool
 | []=>false
 | x :: r=>match Nat.beq t x with|true=>true|false=>dN t r
theorem iR{t}:∀ {l:List Nat},dN t l=true ↔ t∈l
 | []=>by simp [dN]
 | x :: r=>by
  unfold dN;cases h:Nat.beq t x with
  | true=>have:=Nat.eq_of_beq_eq_true h;simp [this]
  | false=>have:=Nat.ne_of_beq_eq_false h;simp [this,iR]
def Fr.drop(s:Fr)(asg:List Nat):Fr:=⟨s.n,mL (λt => !dN t asg) s.l⟩
def Fr.keep(s:Fr)(k:Option (List Nat)):Fr:=match k with|none=>s|some k=>⟨s.n,mL (λt=>dN t k) s.l⟩
theorem X7(s:Fr)(asg i):(s.drop asg).get i=if i∈asg then unk else s.get i:=by
 simp only [Fr.drop,Fr.get,qD];by_cases h:i∈asg
 .have:dN i asg=true:=iR.2 h;simp [h,this]
 .have:dN i asg=false:=by cases hm:dN i asg;rfl;exact absurd (iR.1 hm) h
  simp [h,this]
theorem FO{s a}(h:vC ds s a)(k):vC ds (s.keep k) a:=by
 cases k with
 | none=>exact h
 | some k =>
  refine ⟨h.defers,h.size,λi hi=>?_⟩;simp only [Fr.keep,Fr.get,qD] at hi ⊢;split at hi
  .rename_i hc;rw [if_pos hc];exact h.slot i hi
  .cases hi
theorem BE{D s0 s}(h:bY D s0 s)(k):bY D s0 (s.keep k):=by
 cases k with
 | none=>exact h
 | some k =>
  refine ⟨h.1,λi hi hu=>?_⟩;simp only [Fr.keep,Fr.get,qD] at hu ⊢;split at hu
  .rename_i hc;rw [if_pos hc];exact h.2 i hi hu
  .cases hu
def O9:gX->List Value->List (Nat × Value)->List (Nat × Value)
 | (t,_) :: r,v :: vs,s=>(t,v) :: O9 r vs s
 | _,_,s=>s
def FP(l:gX)(vs:List Value)(s:Fr):Fr:=⟨s.n,O9 l vs s.l⟩
theorem zJ(t sh)(r:gX)(v vs s i):
  (FP ((t,sh) :: r) (v :: vs) s).get i=if t=i then v else (FP r vs s).get i:=by
 simp only [FP,Fr.get,O9,sS];cases hb:Nat.beq t i with
 | true=>simp [Nat.eq_of_beq_eq_true hb]
 | false=>simp [Nat.ne_of_beq_eq_false hb]
theorem aCl{D l s}:bY D s (s.drop l) :=
 ⟨rfl,λi _ hu=>by
  rw [X7] at hu ⊢;split at hu
  .cases hu
  .rename_i hc;rw [if_neg hc]⟩
theorem TX{D s0}:∀ {l:gX} {vs:List Value} {s:Fr},(∀ v∈l,D v.1)->bY D s0 s->bY D s0 (FP l vs s)
 | [],_,_,_,h=>h
 | _ :: _,[],_,_,h=>h
 | (t,sh) :: r,v :: vs,s,hl,h=>by
  have ih:=TX (l:=r) (vs:=vs) (λx hx=>hl x (List.mem_cons_of_mem _ hx)) h;refine ⟨ih.1,λi hi=>?_⟩;rw [zJ,if_neg (by rintro rfl;exact hi (hl (t,sh) (by simp)))];exact ih.2 i hi
def meet(asg:List Nat)(l:gX)(vs:List Value)(s:Fr):Fr:=FP l vs (s.drop asg)
theorem JD{D asg l vs s}(h2:∀ v∈l,D v.1):bY D s (meet asg l vs s) :=
 TX h2 aCl
theorem X8{s a}:∀ {l:gX} {vs:List Value},vC ds s a->(∀ (j:Nat) t sh v,l[j]? = some (t,sh)->vs[j]? = some v->a.tmps.getD t undef=v)->vC ds (FP l vs s) a
 | [],_,h,_=>h
 | _ :: _,[],h,_=>h
 | (t,sh) :: r,v :: vs,h,hv=>by
  have ih:=X8 (l:=r) (vs:=vs) h (λj t' sh' v' h1 h2=>hv (j+1) t' sh' v' (by simpa using h1) (by simpa using h2));have h0:=hv 0 t sh v (by simp) (by simp);refine ⟨ih.defers,ih.size,λi hi=>?_⟩;rw [zJ] at hi ⊢;split at hi
  .rename_i e;subst e;rw [if_pos rfl];exact h0
  .rename_i e;rw [if_neg e];exact ih.slot i hi
def OA(s':Fr):List (Nat × Value)->Bool
 | []=>true
 | (t,_) :: r=>match vZ (sS t s'.l) with|true=>false|false=>OA s' r
def OB(asg:List Nat)(s s':Fr):Bool:=OA s' (s.drop asg).l
theorem pF{s' i}:∀ {l:List (Nat × Value)},OA s' l=true->vZ (sS i l)=false->vZ (s'.get i)=false
 | [],_,h=>by cases h
 | (t,v) :: r,hk,h=>by
  unfold OA at hk;split at hk
  .cases hk
  .rename_i hu;unfold sS at h;split at h
   .rename_i hb;have:=Nat.eq_of_beq_eq_true hb;subst this;exact hu
   .exact pF hk h
theorem KZ{asg}{s:Fr}{i}(h:vZ ((s.drop asg).get i)=false):vZ (s.get i)=false:=by
 rw [X7] at h;split at h
 .cases h
 .exact h
theorem BF{s s' a asg l vs}(hs:vC ds s' a)(hu:bY (λt=>t∈asg) s s')(hsub:∀ i,vZ ((s.drop asg).get i)=false->vZ (s'.get i)=false)(hvs:vs=slotsOf l s')(hk:∀ v∈vs,vZ v=false):vC ds (meet asg l vs s) a:=by
 have h1:vC ds (s.drop asg) a:=by
  refine ⟨hs.defers,by rw [hs.size,hu.1];rfl,λi hi=>?_⟩;have hk':=hsub i hi;rw [X7] at hi ⊢;split at hi
  .cases hi
  .rename_i hm;rw [if_neg hm,hs.slot i hk'];exact hu.2 i hm hk'
 refine X8 h1 λj t sh v h2 h3=>?_;subst hvs;simp only [slotsOf,List.getElem?_map,h2,Option.map_some,Option.some.injEq] at h3;rw [<-h3];have:vZ (s'.get t)=false:=by
  show vZ (sS t s'.l)=false;rw [h3];exact hk v (by rw [<-h3];exact List.mem_map.2 ⟨(t,sh),List.mem_of_getElem? h2,rfl⟩)
 exact hs.slot t this
theorem a8o{asg l vs s a}(hs:vC ds (meet asg l vs s) a)(hn:(l.map (·.1)).Nodup)(hlen:vs.length=l.length)(hk:∀ v∈vs,vZ v=false)(hb:∀ v∈l,v.1<s.n):
  M3 l a=vs:=by
 have key:∀ (l:gX) (vs:List Value) (s:Fr),(l.map (·.1)).Nodup->vs.length=l.length->(∀ v∈l,v.1<s.n)->slotsOf l (FP l vs s)=vs:=by
  intro l
  induction l with
  | nil=>intro vs s _ h _;cases vs<;>simp_all [slotsOf]
  | cons x r ih =>
   obtain ⟨t,sh⟩:=x;intro vs s hn hl hb;cases vs with
   | nil=>simp at hl
   | cons v vs =>
    have ih':=ih vs s (by simp at hn;exact hn.2) (by simpa using hl) (λv hv=>hb v (List.mem_cons_of_mem _ hv));simp only [slotsOf,List.map_cons]
    congr 1
    .show Fr.get _ t=v;rw [zJ,if_pos rfl]
    .simp only [slotsOf] at ih'
     conv=>rhs;rw [<-ih']
     apply List.map_congr_left;rintro ⟨y1,y2⟩ hy;show Fr.get _ y1=Fr.get _ y1;rw [zJ,if_neg];rintro e;cases e;simp at hn;exact hn.1 _ hy
 have h1:=key l vs (s.drop asg) hn hlen (λv hv=>hb v hv);have:M3 l a=slotsOf l (meet asg l vs s):=by
  unfold slotsOf M3;apply List.map_congr_left;intro y hy;refine hs.slot _ (hk _ ?_);have hm:sS y.1 (meet asg l vs s).l∈slotsOf l (meet asg l vs s):=List.mem_map.2 ⟨y,hy,rfl⟩
  rwa [show slotsOf l (meet asg l vs s)=vs from h1] at hm
 rw [this];exact h1
structure Hints where
 /-- slots whose sums may wrap -/
 wrap:List Nat:=[]
 /-- regions with guards that are walked in the text's order -/
 split:List Nat:=[]
 /-- regions that are walked in the text's order,every guard said to hold -/
 sure:List Nat:=[]
 /-- regions whose calls may draw -/
 X9:List Nat:=[]
 /-- slots that are read outside the region that writes them -/
 keep:Option (List Nat):=none
 /-- regions whose order is drawn,and that write or call: the order in which they are walked;'true': a read -/
 held:List (Nat × List (Nat × Bool)):=[]
 loops:List (Nat × gX):=[]
 a8p:List (Nat × gX):=[]
def uJ:Code->Nat
 | .region id _ _=>id
 | .seq a b=>uJ a
 | .block _ b=>uJ b
 | .loop b=>uJ b
 | _=>100000
def a0O(l:List Oper):List Nat:=l.filterMap (·.dst)
def asg:Code->List Nat
 | .region _ ops _=>a0O ops.toList
 | .seq a b=>asg a++asg b
 | .cond _ a b=>asg a++asg b
 | .block _ b=>asg b
 | .loop b=>asg b
 | .scope b=>asg b
 | _=>[]
def guarded(l:List Oper):Bool:=l.any λo=>o.guard.isSome
def a3l:List Nat->Bool
 | []=>true
 | x :: r => !dN x r&&a3l r
theorem TY:∀ {l:List Nat},a3l l=true->l.Nodup
 | [],_=>List.nodup_nil
 | x :: r,h=>by
  simp only [a3l,Bool.and_eq_true,Bool.not_eq_true'] at h;refine List.nodup_cons.2 ⟨λhm=>?_,TY h.2⟩;rw [iR.2 hm] at h;cases h.1
def RZ(asg:List Nat)(l:gX)(s:Fr):Bool:=List.all l (λv=>dN v.1 asg&&Nat.blt v.1 s.n)&&a3l (l.map (·.1))
def a3m(P:Program)(ops:Array Oper):Bool:=P.follows .mixedOrders&&Region.lexB .any ops
def aFl(P:Program)(H:Hints)(ops:Array Oper)(s:Fr)(w:World)(K:Fr->World->Prop):Prop :=
 aAU P (λt=>dN t H.wrap) true ops s w λs' w'=>K (s'.keep H.keep) w'
def a5u(P:Program)(H:Hints)(id:Nat)(ops:Array Oper)(s:Fr)(w:World)(K:Fr->World->Prop):Prop :=
 match guarded ops.toList && !(dN id H.split||dN id H.sure) with
 | true=>aAU P (λt=>dN t H.wrap) (dN id H.X9) ops s w λs' w'=>K (s'.keep H.keep) w'
 | false=>X2 P (λt=>dN t H.wrap) (dN id H.sure) ops ops.toList s w λs' w'=>K (s'.keep H.keep) w'
def aFm(k:Nat):List (Nat × List (Nat × Bool))->Option (List (Nat × Bool))
 | []=>none
 | (t,l) :: r=>match Nat.beq t k with|true=>some l|false=>aFm k r
def aAW(P:Program)(H:Hints)(id:Nat)(ops:Array Oper)(draw:Bool)(s:Fr)(w:World)(K:Fr->World->Prop):Prop :=
 match draw with
 | true=>match aFm id H.held with
  | some ord=>aFi P (λt=>dN t H.wrap) ops ord s w λs' w'=>K (s'.keep H.keep) w'
  | none=>match a3m P ops with
   | true=>aFl P H ops s w K
   | false=>False
 | false=>a5u P H id ops s w K
def a8q(k:Nat):List (Nat × gX)->Option gX
 | []=>none
 | (t,l) :: r=>match Nat.beq t k with|true=>some l|false=>a8q k r
def vc(P:Program)(H:Hints):Code->(Exit->Fr->World->Prop)->Fr->World->Prop
 | .skip,Q,s,w=>Q .normal s w
 | .region id ops draw,Q,s,w=>aAW P H id ops draw s w (Q .normal)
 | .seq x y,Q,s,w =>
  match a8q (uJ y) H.a8p with
  | none=>vc P H x (λe s' w'=>match e with | .normal=>vc P H y Q s' w'|e=>Q e s' w') s w
  | some l =>
   match RZ (asg x) l s with
   | true =>
    ∃ J:pQ (World->Prop) l,vc P H x (λe s' w'=>match e with
      | .normal=>match OB (asg x) s s' with|true=>zI (pQ.app l J (slotsOf l s')) w'|false=>False
      | e=>Q e s' w') s w /\
     l.all λvs=>∀ w',zI (pQ.app l J vs) w'->vc P H y Q (meet (asg x) l vs s) w'
   | false=>False
 | .cond c x y,Q,s,w=>match s.eval c with
  | .bool b=>Br b (vc P H x Q s w) (vc P H y Q s w)
  | _=>False
 | .block id b,Q,s,w=>vc P H b (λe s' w'=>match e with | .exit n=>(match Nat.beq n id with|true=>Q .normal s' w'|false=>Q (.exit n) s' w')|e=>Q e s' w') s w
 | .loop b,Q,s,w =>
  match a8q (uJ b) H.loops with
  | none=>False
  | some l =>
   match RZ (asg b) l s with
   | true =>
    ∃ (I:pQ (World->Prop) l) (m:pQ (World->Nat) l),zI (pQ.app l I (slotsOf l s)) w /\
     l.all λvs=>∀ w',zI (pQ.app l I vs) w' ->
      vc P H b (λe s' w''=>match e with
       | .normal=>match OB (asg b) s s' with
        | true=>zI (pQ.app l I (slotsOf l s')) w''/\a8n (pQ.app l m (slotsOf l s')) w''<a8n (pQ.app l m vs) w'
        | false=>False
       | e=>Q e s' w'') (meet (asg b) l vs s) w'
   | false=>False
 | .exit id,Q,s,w=>Q (.exit id) s w
 | .ret,Q,s,w=>Q .ret s w
 | _,_,_,_=>False
theorem wC{x w}(h:zI x w):∃ I,x=some I/\I w:=by
 cases x with
 | none=>exact h.elim
 | some I=>exact ⟨I,rfl,h⟩
theorem a5v{s a l}(hs:vC ds s a)(hk:∀ v∈slotsOf l s,vZ v=false):M3 l a=slotsOf l s:=by
 unfold slotsOf M3;apply List.map_congr_left;intro y hy;exact hs.slot _ (hk _ (List.mem_map.2 ⟨y,hy,rfl⟩))
theorem zK{asg l s}(h:RZ asg l s=true):(∀ v∈l,v.1∈asg/\v.1<s.n)/\(l.map (·.1)).Nodup:=by
 simp only [RZ,Bool.and_eq_true] at h;refine ⟨λv hv=>?_,TY h.2⟩;have:=List.all_eq_true.1 h.1 v hv;simp only [Bool.and_eq_true] at this;exact ⟨iR.1 this.1,by have h2:=this.2;rw [Nat.blt_eq] at h2;exact h2⟩
theorem aFn{P H}:∀ (c:Code) {Q':Exit->Fr->World->Prop} {Q:Exit->Act->World->Prop} {s:Fr} {a:Act} {w:World},
  vc P H c Q' s w->vC ds s a->(∀ e s' a' w',Q' e s' w'->vC ds s' a'->bY (λt=>t∈asg c) s s'->Q e a' w')->c.wp P Q a w:=by
 intro c
 induction c with
 | skip=>intro Q' Q s a w h hs hQ;exact wp_skip (hQ _ _ _ _ h hs (bY.refl _ _))
 | region id ops draw =>
  intro Q' Q s a w h hs hQ;have hD:∀ o∈ops.toList,∀ t,o.dst=some t->t∈a0O ops.toList:=λo ho t ht=>List.mem_filterMap.2 ⟨o,ho,ht⟩;simp only [vc,aAW] at h;cases draw with
  | true =>
   simp only at h;split at h
   .exact aFj (D:=λt=>t∈a0O ops.toList) (λj o t ho ht=>hD o (by simpa using Array.mem_of_getElem? ho) t ht) h hs (λs' a' w' hk hs' hu=>hQ _ _ _ _ hk (FO hs' _) (BE hu _))
   .split at h
    .rename_i hc;simp only [a3m,Bool.and_eq_true] at hc;exact a8l hc.1 hc.2 hD h hs (λs' a' w' hk hs' hu=>hQ _ _ _ _ hk (FO hs' _) (BE hu _))
    .exact h.elim
  | false =>
   simp only [a5u] at h;split at h
   .exact aFh hD h hs (λs' a' w' hk hs' hu=>hQ _ _ _ _ hk (FO hs' _) (BE hu _))
   .refine wp_region_list ?_;exact zH (D:=λt=>t∈a0O ops.toList) (s0:=s) (λj o t ho ht=>hD o (by simpa using Array.mem_of_getElem? ho) t ht) (λs' a' w' hk hs' hu=>hQ _ _ _ _ hk (FO hs' _) (BE hu _)) _ _ _ _ hD h hs (bY.refl _ _)
 | seq x y ihx ihy =>
  intro Q' Q s a w h hs hQ;simp only [vc] at h;refine wp_seq ?_;split at h
  .refine ihx h hs ?_;intro e s' a' w' hq hs' hu;have eI:bY (λt=>t∈asg (.seq x y)) s s':=hu.mono λi hi=>List.mem_append.2 (.inl hi);cases e with
   | normal =>
    simp only [Exit.then];refine ihy hq hs' λe s'' a'' w'' hq' aNQ M4=>hQ _ _ _ _ hq' aNQ ?_;exact eI.trans (M4.mono λi hi=>List.mem_append.2 (.inr hi))
   | exit n=>exact hQ _ _ _ _ hq hs' eI
   | goto n=>exact hQ _ _ _ _ hq hs' eI
   | ret=>exact hQ _ _ _ _ hq hs' eI
   | panic n=>exact hQ _ _ _ _ hq hs' eI
   | outgrown=>exact hQ _ _ _ _ hq hs' eI
  .rename_i l hl;split at h
   .rename_i hok;obtain ⟨hv,hn⟩:=zK hok;obtain ⟨J,h1,h2⟩:=h;refine ihx h1 hs ?_;intro e s' a' w' hq hs' hu;have eI:bY (λt=>t∈asg (.seq x y)) s s':=hu.mono λi hi=>List.mem_append.2 (.inl hi);cases e with
    | normal =>
     simp only [Exit.then];simp only at hq;split at hq
     .rename_i hsub;obtain ⟨I,hI,hIw⟩:=wC hq;obtain ⟨hlen,hk⟩:=pQ.JC hI;have h3:=(pQ.lD hI h2).1 w' hq;refine ihy h3 (BF hs' hu (λi=>pF hsub) rfl hk) λe s'' a'' w'' hq' aNQ M4=>hQ _ _ _ _ hq' aNQ ?_;refine bY.trans (JD (λv RW=>List.mem_append.2 (.inl (hv v RW).1))) (M4.mono λi hi=>List.mem_append.2 (.inr hi))
     .exact hq.elim
    | exit n=>exact hQ _ _ _ _ hq hs' eI
    | goto n=>exact hQ _ _ _ _ hq hs' eI
    | ret=>exact hQ _ _ _ _ hq hs' eI
    | panic n=>exact hQ _ _ _ _ hq hs' eI
    | outgrown=>exact hQ _ _ _ _ hq hs' eI
   .exact h.elim
 | cond c x y ihx ihy =>
  intro Q' Q s a w h hs hQ;simp only [vc] at h;split at h
  .rename_i b hb;have hc:a.eval c=.bool b:=by rw [hs.eval (by rw [hb];rfl),hb]
   cases b with
   | true=>exact wp_cond_true hc (ihx h hs λe s' a' w' hq hs' hu=>hQ _ _ _ _ hq hs' (hu.mono λi hi=>List.mem_append.2 (.inl hi)))
   | false=>exact wp_cond_false hc (ihy h hs λe s' a' w' hq hs' hu=>hQ _ _ _ _ hq hs' (hu.mono λi hi=>List.mem_append.2 (.inr hi)))
  .exact h.elim
 | block id b ih =>
  intro Q' Q s a w h hs hQ;simp only [vc] at h;refine wp_block (ih h hs ?_);intro e s' a' w' hq hs' hu;cases e with
  | exit n =>
   simp only [Exit.inBlock];simp only at hq;split at hq
   .rename_i e;rw [if_pos (Nat.eq_of_beq_eq_true e)];exact hQ _ _ _ _ hq hs' hu
   .rename_i e;rw [if_neg (Nat.ne_of_beq_eq_false e)];exact hQ _ _ _ _ hq hs' hu
  | normal=>exact hQ _ _ _ _ hq hs' hu
  | goto n=>exact hQ _ _ _ _ hq hs' hu
  | ret=>exact hQ _ _ _ _ hq hs' hu
  | panic n=>exact hQ _ _ _ _ hq hs' hu
  | outgrown=>exact hQ _ _ _ _ hq hs' hu
 | loop b ih =>
  intro Q' Q s a w h hs hQ;simp only [vc] at h;split at h
  .exact h.elim
  .rename_i l hl;split at h
   .rename_i hok;obtain ⟨hv,hn⟩:=zK hok;obtain ⟨I,m,h0,h1⟩:=h;have start:∃ vs,zI (pQ.app l I vs) w/\vC ds (meet (asg b) l vs s) a:=by
     obtain ⟨J,hJ,_⟩:=wC h0;exact ⟨_,h0,BF hs (bY.refl _ _) (λi=>KZ) rfl (pQ.JC hJ).2⟩
    refine wp_loop (λa' w'=>∃ vs,zI (pQ.app l I vs) w'/\vC ds (meet (asg b) l vs s) a') (λa' w'=>a8n (pQ.app l m (M3 l a')) w') start ?_;rintro a1 w1 ⟨vs,hI,hs1⟩;obtain ⟨J,hJ,hJw⟩:=wC hI;obtain ⟨hlen,hk⟩:=pQ.JC hJ;have h2:=(pQ.lD hJ h1).1 w1 hI;have qU:M3 l a1=vs:=a8o hs1 hn hlen hk λv RW=>(hv v RW).2;refine ih h2 hs1 ?_;intro e s' a' w' hq hs' hu;have eI:bY (λt=>t∈asg b) s s':=bY.trans (JD (λv RW=>(hv v RW).1)) hu
    cases e with
    | normal =>
     simp only [Exit.then];simp only at hq;split at hq
     .rename_i hsub;obtain ⟨hq1,qZ⟩:=hq;obtain ⟨J',hJ',_⟩:=wC hq1;obtain ⟨hlen',hk'⟩:=pQ.JC hJ';refine ⟨⟨_,hq1,BF hs' eI (λi=>pF hsub) rfl hk'⟩,?_⟩;rw [qU,a5v hs' hk'];exact qZ
     .exact hq.elim
    | exit n=>exact hQ _ _ _ _ hq hs' eI
    | goto n=>exact hQ _ _ _ _ hq hs' eI
    | ret=>exact hQ _ _ _ _ hq hs' eI
    | panic n=>exact hQ _ _ _ _ hq hs' eI
    | outgrown=>exact hQ _ _ _ _ hq hs' eI
   .exact h.elim
 | exit id=>intro Q' Q s a w h hs hQ;exact wp_exit (hQ _ _ _ _ h hs (bY.refl _ _))
 | ret=>intro Q' Q s a w h hs hQ;exact wp_ret (hQ _ _ _ _ h hs (bY.refl _ _))
 | rangeFunc f p x y=>intro Q' Q s a w h;exact h.elim
 | scope b=>intro Q' Q s a w h;exact h.elim
 | label l=>intro Q' Q s a w h;exact h.elim
 | goto l=>intro Q' Q s a w h;exact h.elim
 | refuse why=>intro Q' Q s a w h;exact h.elim
def D6(P:Program)(s:Fr)(w:World):List ResultVar->(List Value->Prop)->Prop
 | [],K=>K []
 | .tmp t :: r,K=>match vZ (sS t s.l) with
  | true=>False
  | false=>D6 P s w r λvs=>K (sS t s.l :: vs)
 | .cell a t :: r,K=>match sS a s.l with
  | .pointer (some ⟨b,o,none⟩)=>D1 P t w none b o λv=>D6 P s w r λvs=>K (v :: vs)
  | _=>False
theorem AK{P:Program}{s:Fr}{a:Act}{w:World}(hs:vC ds s a):∀ {l:List ResultVar} {K:List Value->Prop},D6 P s w l K ->
  ∃ vs,(l.mapM λr=>(match r with | .tmp t=>pure (a.tmps.getD t undef) | .cell x t=>(do loadVar t (<-asAddr (a.tmps.getD x undef)):Sem Value):Sem Value)).run P w=.ok vs w/\K vs
 | [],K,h=>⟨[],by simp,h⟩
 | .tmp t :: r,K,h=>by
  unfold D6 at h;split at h
  .exact h.elim
  .rename_i hu;obtain ⟨vs,h1,h2⟩:=AK hs h;refine ⟨_,?_,h2⟩;rw [List.mapM_cons];simp only [Sem.run_bind,Sem.run_pure,Result.andThen,h1,hs.slot t hu];rfl
 | .cell x t :: r,K,h=>by
  unfold D6 at h;split at h
  .rename_i b o hx;obtain ⟨v,h1,h2⟩:=u6 h;obtain ⟨vs,h3,h4⟩:=AK hs h2;refine ⟨_,?_,h4⟩;rw [List.mapM_cons];have hx0:s.get x=.pointer (some ⟨b,o,none⟩):=hx;have hx':a.tmps.getD x undef=.pointer (some ⟨b,o,none⟩):=by rw [hs.slot x (by rw [hx0];rfl),hx0]
   have ha:(asAddr (a.tmps.getD x undef)).run P w=.ok ⟨b,o,none⟩ w:=by rw [hx'];rfl
   simp only [Sem.run_bind,Sem.run_pure,Result.andThen,ha,h1 trivial w rfl,h3]
  .exact h.elim
def aR8(P:Program)(fn:Func)(J:Value->World->Prop):Exit->Fr->World->Prop
 | .normal,s,w | .ret,s,w=>D6 P s w fn.results.toList λvs=>J (pV vs) w
 | _,_,_=>False
def xJ:Nat->List Value->List (Nat × Value)
 | _,[]=>[]
 | i,v :: r=>(i,v) :: xJ (i+1) r
def JE(fn:Func)(args:Array Value):Fr:=⟨max fn.ntmps args.size,xJ 0 args.toList⟩
theorem OC(i):∀ (l:List Value) (k:Nat),sS i (xJ k l)=if k<=i then l.getD (i - k) unk else unk
 | [],k=>by simp [xJ,sS]
 | v :: r,k=>by
  unfold xJ sS;cases hb:Nat.beq k i with
  | true=>have:=Nat.eq_of_beq_eq_true hb;subst this;simp
  | false =>
   have hne:=Nat.ne_of_beq_eq_false hb;simp only;rw [OC i r (k+1)];by_cases h:k<=i
   .rw [if_pos h,if_pos (by omega),show i - k=(i - (k+1))+1 by omega];simp
   .rw [if_neg h,if_neg (by omega)]
theorem TZ(fn args):vC [] (JE fn args) { tmps:=args++Array.replicate (fn.ntmps - args.size) undef,defers:=[] }:=by
 refine ⟨rfl,by simp [JE];omega,λi hi=>?_⟩;simp only [JE,Fr.get,OC] at hi ⊢;simp only [Nat.zero_le,if_true,Nat.sub_zero] at hi ⊢;by_cases h:i<args.size
 .simp [Array.getD_eq_getD_getElem?,Array.getElem?_append,h]
 .rw [List.getD_eq_getElem?_getD,List.getElem?_eq_none (by simpa using h)] at hi;cases hi
def vcF(P:Program)(H:Hints)(f:FuncId)(args:Array Value)(w:World)(J:Value->World->Prop):Prop :=
 match P.funcs[f]? with
 | some fn=>match fn.body with
  | some c=>vc P H c (aR8 P fn J) (JE fn args) w
  | none=>False
 | none=>False
theorem XA{vs:List Value}:(if h:vs.toArray.size=1 then vs.toArray[0] else Value.tuple vs.toArray)=pV vs:=by
 match vs with
 | []=>rfl
 | [v]=>rfl
 | _ :: _ :: _=>rfl
theorem BG{P H f args w J}(h:vcF P H f args w J):
  Calls P f args w λe w'=>∃ v,e=.returned v/\J v w':=by
 unfold vcF at h;split at h
 .rename_i fn hf;split at h
  .rename_i c hc;refine calls_of_wp hf hc (aFn c h (TZ fn args) ?_);intro e s a w' hq hs _;have key:(D6 P s w' fn.results.toList λvs=>J (pV vs) w')->bodyPost P fn (λe w'=>∃ v,e=.returned v/\J v w') .ret a w':=by
    intro hq;obtain ⟨vs,h1,h2⟩:=AK hs hq;refine ⟨hs.defers,pV vs,?_,pV vs,rfl,h2⟩;unfold results;rw [Array.mapM_eq_mapM_toList,map_eq_pure_bind,Sem.run_bind,Sem.run_bind];have e:∀ (r:Result (List Value)),r=.ok vs w'->(((r.andThen λa=>(pure a.toArray:Sem (Array Value)).run P).andThen λvs=>(pure (if h:vs.size=1 then vs[0] else Value.tuple vs):Sem Value).run P))=.ok (pV vs) w':=by
     intro r hr;subst hr;simp only [Result.andThen,Sem.run_pure,XA]
    exact e _ h1
   cases e with
   | normal=>exact key hq
   | ret=>exact key hq
   | _=>exact hq.elim
  .exact h.elim
 .exact h.elim
end Go.Vc
end

section
namespace Go.Vc
open Go.RowKit
def vT(w:World)(b:Nat)(cs:List Value)(t:TypeId):Prop:=w.heap[b]? = some (.cells cs.toArray t (0,0))
theorem vT.cell{w b cs t}(h:vT w b cs t)(i):w.cell? ⟨b,i,none⟩=cs[i]? := by
 unfold vT at h;simp [World.cell?,h]
theorem vT.D8{w b cs t}(h:vT w b cs t){i v}(hv:cs[i]? = some v):w.cell? ⟨b,i,none⟩=some v:=by rw [h.cell,hv]
theorem vT.frozen{w b cs t}(h:vT w b cs t)(i):w.frozen? ⟨b,i,none⟩=false:=by
 unfold vT at h;simp [World.frozen?,h]
theorem vT.can{w b cs t}(h:vT w b cs t){o n}(hn:o+n<=cs.length):aH w b o n:=by
 intro j hj;refine ⟨?_,h.frozen _⟩;rw [h.cell];simp;omega
theorem vT.row{w b cs t}(h:vT w b cs t){o vs}(hv:∀ j,(hj:j<vs.length)->cs[o+j]? = some vs[j]):bT w b o vs:=by
 intro j hj;rw [h.cell,hv j hj]
theorem vT.EO{w b cs t}(h:vT w b cs t):bT w b 0 cs:=h.row λj hj=>by simp
theorem vT.same{w w' b cs t}(h:vT w b cs t)(e:w'.heap[b]? = w.heap[b]?):vT w' b cs t:=e.trans h
theorem vT.aCm(w:World)(cs t):vT (w.alloc (.cells cs.toArray t)) w.heap.size cs t:=by
 unfold vT;show (w.heap.push _)[w.heap.size]? = _;simp
theorem wD(w:World)(o):(w.alloc o).heap[w.heap.size]? = some o:=by
 show (w.heap.push _)[w.heap.size]? = _;simp
theorem a3n(w:World)(o){k}(h:k<w.heap.size):(w.alloc o).heap[k]? = w.heap[k]? := Below.heap_alloc _ _ _ h
theorem XB(w:World)(a u){k}(h:k≠a.block):(w.setCell a u).heap[k]? = w.heap[k]? := Below.heap_setCell _ _ _ _ h
theorem vT.set{w b cs t}(h:vT w b cs t)(i v):vT (w.setCell ⟨b,i,none⟩ v) b (cs.set i v) t:=by
 unfold vT at h ⊢;simp only [World.setCell,Array.getElem?_modify,h];simp
theorem U0(b){k}(h:k≠b):∀ (vs:List Value) (o:Nat) (w:World),(w.setCells b o vs).heap[k]? = w.heap[k]?
 | [],_,_=>rfl
 | v :: r,o,w=>by
  unfold World.setCells;rw [U0 b h r,XB _ _ _ h]
theorem L9(b):∀ (vs:List Value) (o:Nat) (w:World),(w.setCells b o vs).heap.size=w.heap.size
 | [],_,_=>rfl
 | v :: r,o,w=>by
  unfold World.setCells;rw [L9 b r,World.size_setCell]
def mS(cs:List Value)(o:Nat):List Value->List Value
 | []=>cs
 | v :: r=>mS (cs.set o v) (o+1) r
theorem vT.sets{b t}:∀ (vs:List Value) {w:World} {cs:List Value} (o:Nat),vT w b cs t->vT (w.setCells b o vs) b (mS cs o vs) t
 | [],_,_,_,h=>h
 | v :: r,_,_,o,h=>by
  unfold World.setCells mS;exact vT.sets r (o+1) (h.set o v)
structure kT(S:List Nat)(w w':World):Prop where
 os:w'.os=w.os
 tape:w'.tape=w.tape
 output:w'.output=w.output
 size:w.heap.size<=w'.heap.size
 block:∀ k,k<w.heap.size->k ∉ S->w'.heap[k]? = w.heap[k]?
theorem kT.refl(S w):kT S w w:=⟨rfl,rfl,rfl,Nat.le_refl _,λ_ _ _=>rfl⟩
theorem kT.trans{S T a b c}(h:kT S a b)(k:kT T b c)(hT:∀ x∈T,x∈S\/a.heap.size<=x):kT S a c :=
 ⟨k.os.trans h.os,k.tape.trans h.tape,k.output.trans h.output,Nat.le_trans h.size k.size,λi hi hS =>
  (k.block i (Nat.lt_of_lt_of_le hi h.size) (λhm=>by rcases hT i hm with h|h;exact hS h;omega)).trans (h.block i hi hS)⟩
theorem kT.step{S a b c}(h:kT S a b)(k:kT [] b c):kT S a c:=h.trans k (by simp)
theorem kT.mono{S T a b}(h:kT S a b)(hST:∀ x∈S,x∈T):kT T a b:=⟨h.os,h.tape,h.output,h.size,λk hk hT=>h.block k hk λhm=>hT (hST k hm)⟩
theorem kT.alloc{S a w}(h:kT S a w)(o):kT S a (w.alloc o) :=
 h.step ⟨rfl,rfl,rfl,by simp,λ_ hk _=>a3n _ _ hk⟩
theorem kT.setCell{S a w}(h:kT S a w){p}(hp:p.block∈S\/a.heap.size<=p.block)(u):kT S a (w.setCell p u) :=
 h.trans (T:=[p.block]) ⟨rfl,rfl,rfl,by simp,λ_ _ hn=>XB _ _ _ (by simpa using hn)⟩ (by simpa using hp)
theorem rA(b):∀ (vs:List Value) (o:Nat) (w:World),(w.setCells b o vs).os=w.os/\(w.setCells b o vs).tape=w.tape/\(w.setCells b o vs).output=w.output
 | [],_,_=>⟨rfl,rfl,rfl⟩
 | v :: r,o,w=>by unfold World.setCells;exact rA b r (o+1) _
theorem kT.setCells{S a w}(h:kT S a w){b}(hb:b∈S\/a.heap.size<=b)(o vs):kT S a (w.setCells b o vs) :=
 h.trans (T:=[b]) ⟨(rA b vs o w).1,(rA b vs o w).2.1,(rA b vs o w).2.2,by rw [L9];exact Nat.le_refl _,λ_ _ hn=>U0 b (by simpa using hn) vs o w⟩ (by simpa using hb)
theorem kT.drewN{S a w}(h:kT S a w)(n):kT S a (w.drewN n):=⟨h.os,h.tape,h.output,h.size,h.block⟩
def D9(w:World)(b:Nat)(o:Obj):World:={ w with heap:=w.heap.setIfInBounds b o }
theorem aJQ(w){b k}(o)(h:k≠b):(D9 w b o).heap[k]? = w.heap[k]? := by
 simp only [D9];rw [Array.getElem?_setIfInBounds_ne (by omega)]
theorem a3o(w){b}(o)(h:b<w.heap.size):(D9 w b o).heap[b]? = some o:=by
 simp [D9,h]
theorem aCn(w b o):(D9 w b o).heap.size=w.heap.size:=by simp [D9]
theorem kT.D9{S a w}(h:kT S a w){b}(hb:b∈S\/a.heap.size<=b)(o):kT S a (D9 w b o) :=
 h.trans (T:=[b]) ⟨rfl,rfl,rfl,by rw [aCn];exact Nat.le_refl _,λ_ _ hn=>aJQ _ _ (by simpa using hn)⟩ (by simpa using hb)
theorem kT.below{S B w w'}(h:kT S w w')(hB:B<=w.heap.size)(hS:∀ x∈S,B<=x):Below B w w' :=
 ⟨h.os,h.tape,h.output,h.size,λk hk=>h.block k (by omega) λhm=>by have:=hS k hm;omega⟩
theorem kT.cell{S w w'}(h:kT S w w'){b o v}(hc:w.cell? ⟨b,o,none⟩=some v)(hS:b ∉ S):w'.cell? ⟨b,o,none⟩=some v:=by
 have hlt:b<w.heap.size:=by
  rcases Nat.lt_or_ge b w.heap.size with h'|h'
  .exact h'
  .simp [World.cell?,Array.getElem?_eq_none h'] at hc
 rw [World.cell?_of_block (w:=w) (h.block b hlt hS)];exact hc
theorem a5w{P f args w}{J:Value->World->Prop}{R}(h:Calls P f args w λe w'=>∃ v,e=.returned v/\J v w')(hR:∀ v w',J v w'->R (.returned v) w'):Calls P f args w R :=
 h.mono λe w' ⟨v,he,hj⟩=>by subst he;exact hR v w' hj
end Go.Vc
end

section
namespace Go.Vc
open Go.ChangeShapes Go.WideShapes Go.ChangeAt Go.RowKit
section
variable {H:Type}{enc:TypeId × Value->H}{P:Program}
theorem LA(hl:laidOutB P=true){W W'}(hb:Below W.heap.size W W'):
  ∀ {ts:List TypeId} {vs:List Value} {ds:List (DataW H)} {ps:List MemPlace},(ts.all λt=>P.readableRec t&&decide (t<P.types.size))=true ->
   DataW.TrodAll enc P W 0 (λ_=>true) true ts vs ds ps->(∀ x∈ps,x.block<W.heap.size) ->
   DataW.TrodAll enc P W' 0 (λb=>decide (b<W.heap.size)) true ts vs ds ps
 | [],_,_,_,_,h,_=>by
  obtain ⟨rfl,rfl,rfl⟩:=trodAll_nil h;exact trodAll_mk0
 | t :: ts,_,_,_,ht,h,hlt=>by
  obtain ⟨v,vs1,d,ds1,a,b,rfl,rfl,rfl,h1,h2⟩:=trodAll_cons h;simp only [List.all_cons,Bool.and_eq_true,decide_eq_true_eq] at ht;exact ⟨a,b,Below.trod hl ht.1.1 ht.1.2 h1 hb (λx hx=>hlt x (List.mem_append.2 (.inl hx))),LA hl hb (by simpa using ht.2) h2 (λx hx=>hlt x (List.mem_append.2 (.inr hx))),rfl⟩
theorem FQ{w base spare held}:∀ {ts:List TypeId} {vs:List Value} {ds:List (DataW H)} {ps:List MemPlace},DataW.TrodAll enc P w base spare held ts vs ds ps->vs.length=ts.length/\ds.length=ts.length
 | [],_,_,_,h=>by
  obtain ⟨rfl,rfl,rfl⟩:=trodAll_nil h;exact ⟨rfl,rfl⟩
 | t :: ts,_,_,_,h=>by
  obtain ⟨v,vs1,d,ds1,a,b,rfl,rfl,rfl,h1,h2⟩:=trodAll_cons h;have:=FQ h2;simp [this]
end
section
variable {H:Type}{enc:TypeId × Value->H}{P:Program}{w:World}{base:Nat}{spare:Nat->Bool}{held:Bool}
theorem aCo{w:World}{a v}(h:w.cell? a=some v):a.spot=none:=by
 unfold World.cell? at h;split at h
 .split at h
  .cases h
  .rename_i hs;simpa using hs
 .cases h
end
end Go.Vc
end

section
namespace Go.Vc
open Go.ChangeShapes Go.WideShapes Go.RowKit
section
variable {H:Type}{enc:TypeId × Value->H}{P:Program}{w:World}{base:Nat}{spare:Nat->Bool}{held:Bool}
inductive Ck where
 | int (k:IntKind)
 | bool
 | str
 | ptr
 | slice
 | map
def Ck.fits:Ck->Value->Prop
 | .int k,v=>∃ n,v=.int k n/\(Lit.int k n).wf=true
 | .bool,v=>∃ b,v=.bool b
 | .str,v=>∃ s,v=.string s/\s.size<=maxLen
 | .ptr,v=>∃ p,v=.pointer p
 | .slice,v=>∃ p n c,v=.slice p n c/\n<=c/\c<=maxLen/\(p=none->n=0)
 | .map,v=>∃ m,v=.map m
def Fits:List Ck->List Value->Prop
 | [],[]=>True
 | k :: r,v :: vs=>k.fits v/\Fits r vs
 | _,_=>False
def aMG(fl:TypeId->Option (List Ck)):List Field->Nat->Option (List Ck)
 | [],_=>some []
 | f :: r,off=>match fl f.type with
  | some l=>match Nat.beq f.offset off,aMG fl r (off+l.length) with
   | true,some l'=>some (l++l')
   | _,_=>none
  | none=>none
def flat(P:Program):Nat->TypeId->Option (List Ck)
 | 0,_=>none
 | d+1,t=>match P.underlying t with
  | some .bool=>some [.bool]
  | some (.int k)=>some [.int k]
  | some .string=>some [.str]
  | some (.pointer _)=>some [.ptr]
  | some (.slice _)=>some [.slice]
  | some (.map ..)=>some [.map]
  | some (.struct fs)=>match aMG (flat P d) fs.toList 0 with
   | some l=>if l.length=P.cellsOf t/\(fs.toList.all λf=>decide ((flat P d f.type).map (·.length)=some (P.cellsOf f.type)))=true then some l else none
   | none=>none
  | _=>none
theorem a5x{α β:Type}{f}:∀ {l:List α} {xs:List β},l.mapM f=some xs->∀ a∈l,∃ y,f a=some y
 | [],_,_,a,ha=>by cases ha
 | b :: r,xs,h,a,ha=>by
  rw [List.mapM_cons] at h;cases hb:f b with
  | none=>simp [hb] at h
  | some y =>
   cases hr:r.mapM f with
   | none=>simp [hb,hr] at h
   | some ys =>
    rcases List.mem_cons.1 ha with rfl|ha
    .exact ⟨y,hb⟩
    .exact a5x hr a ha
end
inductive Ty where
 | int (k:IntKind)|bool|str|opq
 | slice (e:Ty)
 | pair (a b:Ty)
def Ty.size:Ty->Nat
 | .pair a b=>a.size+b.size
 | _=>1
def a3p(P:Program)(f:Ty->TypeId->Bool):List Field->Nat->Ty->Bool
 | [],_,_=>false
 | [x],off,ty=>Nat.beq x.offset off&&f ty x.type&&Nat.beq (P.cellsOf x.type) ty.size
 | x :: y :: r,off,.pair a b=>Nat.beq x.offset off&&f a x.type&&Nat.beq (P.cellsOf x.type) a.size&&a3p P f (y :: r) (off+a.size) b
 | _,_,_=>false
def Ty.is(P:Program):Nat->Ty->TypeId->Bool
 | 0,_,_=>false
 | d+1,.int k,t=>match P.underlying t with|some (.int k')=>decide (k'=k)|_=>false
 | d+1,.bool,t=>match P.underlying t with|some .bool=>true|_=>false
 | d+1,.str,t=>match P.underlying t with|some .string=>true|_=>false
 | d+1,.opq,t=>match P.underlying t with|some (.slice _)=>true|_=>false
 | d+1,.slice te,t=>match P.underlying t with|some (.slice e)=>Ty.is P d te e&&Nat.beq (P.cellsOf e) te.size|_=>false
 | d+1,.pair a b,t=>match P.underlying t with
  | some (.struct fs)=>Nat.beq (P.cellsOf t) (Ty.pair a b).size&&a3p P (Ty.is P d) fs.toList 0 (.pair a b)
  | _=>false
structure Step(M M':List Nat)(w w':World):Prop where
 chg:kT M w w'
 sub:∀ b∈M',b∈M\/w.heap.size<=b
class aB (Φ:List Nat->World->Prop):Prop where
 step:∀ {M M':List Nat} {w w':World},Step M M' w w'->Φ M w->Φ M' w'
structure U1(ty:Ty)(α:Type)(rep:List Nat->World->List Value->α->Prop):Prop where
 ap:∀ {H:Type} {enc:TypeId × Value->H} {P:Program} {W:World} {d fuel:Nat} {t:TypeId} {cs:List Value} {x:DataW H × List MemPlace},
  Ty.is P d ty t=true->DataW.trod enc P W 0 (λ_=>true) true fuel t cs=some x->∃ y:α,rep [] W cs y
structure aAX(ty:Ty)(α:Type)(rep:List Nat->World->List Value->α->Prop):Prop where
 ap:∀ {H:Type} {enc:TypeId × Value->H} {P:Program} {W:World} {d fuel:Nat} {fs:List Field} {off:Nat} {cs:List Value},
  a3p P (Ty.is P d) fs off ty=true->(∀ f∈fs,∃ y,DataW.trod enc P W 0 (λ_=>true) true fuel f.type ((cs.drop f.offset).take (P.cellsOf f.type))=some y) ->
   off+ty.size=cs.length->∃ y:α,rep [] W (cs.drop off) y
class Gv (α:Type) where
 ty:Ty
 rep:List Nat->World->List Value->α->Prop
 len:∀ {M w cs x},rep M w cs x->cs.length=ty.size
 pos:0<ty.size
 mE:∀ {M M':List Nat} {w w':World} {cs x},Step M M' w w'->rep M w cs x->rep M' w' cs x
 opens:U1 ty α rep
 zL:aAX ty α rep
theorem U2{ty α rep}(ho:U1 ty α rep){H}{enc:TypeId × Value->H}{P W d fuel f off}{cs:List Value}(h:a3p P (Ty.is P d) [f] off ty=true)(ht:∃ y,DataW.trod enc P W 0 (λ_=>true) true fuel f.type ((cs.drop f.offset).take (P.cellsOf f.type))=some y)(hl:off+ty.size=cs.length):∃ y:α,rep [] W (cs.drop off) y:=by
 simp only [a3p,Bool.and_eq_true] at h;obtain ⟨⟨h1,h2⟩,h3⟩:=h;have h1:=Nat.eq_of_beq_eq_true h1;have h3:=Nat.eq_of_beq_eq_true h3;obtain ⟨y,hy⟩:=ht;rw [h1,h3,List.take_of_length_le (by simp;omega)] at hy;exact ho.ap h2 hy
theorem uA{ty α rep}(hp:∀ a b,ty≠.pair a b)(ho:U1 ty α rep):aAX ty α rep:=by
 constructor;intro H enc P W d fuel fs off cs h ht hl
 match fs,h with
 | [f],h=>exact U2 ho h (ht f (by simp)) hl
 | f :: g :: r,h =>
  cases ty
  case pair=>exact absurd rfl (hp _ _)
  all_goals simp [a3p] at h
theorem a1G:U1 (.int .i64) Int (λ_ _ cs x=>cs=[.int .i64 x]/\bE x):=by
 constructor;intro H enc P W d fuel t cs x h hx;cases d with
 | zero=>simp [Ty.is] at h
 | succ d =>
 cases fuel with
 | zero=>simp [DataW.trod] at hx
 | succ fuel =>
 unfold Ty.is at h;split at h
 .rename_i k ht;have:k=.i64:=by simpa using h
  subst this;unfold DataW.trod at hx;rw [ht] at hx;split at hx<;>simp_all;rename_i k n hk;obtain ⟨⟨rfl,hw⟩,_⟩:=hx;simp only [Lit.wf,Bool.and_eq_true,decide_eq_true_eq] at hw;subst hk;simp [IntKind.min,IntKind.max,IntKind.signed,IntKind.bits] at hw;unfold bE;omega
 .cases h
instance goInt:Gv Int where
 ty:=.int .i64
 rep _ _ cs x:=cs=[.int .i64 x]/\bE x
 len h:=by rw [h.1];rfl
 pos:=by decide
 mE _ h:=h
 opens:=a1G
 zL:=uA (ty:=.int .i64) (λ_ _ h=>by cases h) a1G
theorem XC:U1 .bool Bool (λ_ _ cs x=>cs=[.bool x]):=by
 constructor;intro H enc P W d fuel t cs x h hx;cases d with
 | zero=>simp [Ty.is] at h
 | succ d =>
 cases fuel with
 | zero=>simp [DataW.trod] at hx
 | succ fuel =>
 unfold Ty.is at h;split at h
 .rename_i ht;unfold DataW.trod at hx;rw [ht] at hx;split at hx<;>simp_all
 .cases h
instance aYy:Gv Bool where
 ty:=.bool
 rep _ _ cs x:=cs=[.bool x]
 len h:=by rw [h];rfl
 pos:=by decide
 mE _ h:=h
 opens:=XC
 zL:=uA (ty:=.bool) (λ_ _ h=>by cases h) XC
theorem a1H:U1 .str ByteArray (λ_ _ cs x=>cs=[.string x]/\x.size<=maxLen):=by
 constructor;intro H enc P W d fuel t cs x h hx;cases d with
 | zero=>simp [Ty.is] at h
 | succ d =>
 cases fuel with
 | zero=>simp [DataW.trod] at hx
 | succ fuel =>
 unfold Ty.is at h;split at h
 .rename_i ht;unfold DataW.trod at hx;rw [ht] at hx;split at hx<;>simp_all
 .cases h
instance b27:Gv ByteArray where
 ty:=.str
 rep _ _ cs x:=cs=[.string x]/\x.size<=maxLen
 len h:=by rw [h.1];rfl
 pos:=by decide
 mE _ h:=h
 opens:=a1H
 zL:=uA (ty:=.str) (λ_ _ h=>by cases h) a1H
def Sl{α:Type}[Gv α](M:List Nat)(w:World)(p:Option Addr)(l:List α):Prop :=
 ∀ j,(hj:j<l.length)->∃ b o cs,p=some ⟨b,o,none⟩/\b ∉ M/\bT w b (o+j*(Gv.ty α).size) cs/\Gv.rep M w cs l[j]
theorem kT.row{S w w'}(h:kT S w w'){b o vs}(hc:bT w b o vs)(hS:b ∉ S):bT w' b o vs :=
 λj hj=>h.cell (hc j hj) hS
theorem aFr{w b o vs}(h:bT w b o vs)(hp:0<vs.length):b<w.heap.size:=by
 have h0:=h 0 hp;rcases Nat.lt_or_ge b w.heap.size with h'|h'
 .exact h'
 .simp [World.cell?,Array.getElem?_eq_none h'] at h0
theorem Sl.mE{α}[Gv α]{M M' w w' p}{l:List α}(hs:Step M M' w w')(h:Sl M w p l):Sl M' w' p l:=by
 intro j hj;obtain ⟨b,o,cs,h1,h2,h3,h4⟩:=h j hj;have hlt:=aFr h3 (by rw [Gv.len h4];exact Gv.pos);exact ⟨b,o,cs,h1,λhm=>by rcases hs.sub b hm with h|h;exact h2 h;omega,hs.chg.row h3 h2,Gv.mE hs h4⟩
def aAY{α:Type}[Gv α](M:List Nat)(w:World)(cs:List Value)(l:List α):Prop :=
 ∃ p c,cs=[.slice p l.length c]/\l.length<=c/\c<=maxLen/\Sl M w p l
theorem M5{α:Type}{p:Nat->α->Prop}:∀ (n:Nat),(∀ j,j<n->∃ x,p j x)->∃ l:List α,l.length=n/\∀ j,(hj:j<l.length)->p j l[j]
 | 0,_=>⟨[],rfl,λj hj=>by simp at hj⟩
 | n+1,h=>by
  obtain ⟨l,hl,hp⟩:=M5 n λj hj=>h j (by omega);obtain ⟨x,hx⟩:=h n (by omega);refine ⟨l++[x],by simp [hl],λj hj=>?_⟩;by_cases hj':j<l.length
  .rw [List.getElem_append_left hj'];exact hp j hj'
  .have:j=n:=by simp at hj;omega
   subst this;rw [List.getElem_append_right (by omega)];simpa [hl] using hx
theorem XD{α}[Gv α]:U1 (.slice (Gv.ty α)) (List α) aAY:=by
 constructor;intro H enc P W d fuel t cs x h hx;cases d with
 | zero=>simp [Ty.is] at h
 | succ d =>
 unfold Ty.is at h;split at h
 .rename_i e ht;simp only [Bool.and_eq_true] at h;obtain ⟨h1,h2⟩:=h;have hsz:=Nat.eq_of_beq_eq_true h2;rcases DataW.trod_slice ht hx with ⟨rfl,_⟩|⟨a,len,cap,elems,rest,m,_,rfl,_,_,hl,hm,hlen,hel,_⟩
  .exact ⟨[],none,0,rfl,by simp,by simp [maxLen],λj hj=>by simp at hj⟩
  .have spot:0<len->∃ b o,a=⟨b,o,none⟩:=by
    intro aR9;have h3:=hel 0 aR9;rw [List.getElem?_eq_getElem (by omega)] at h3;cases hcs:W.cells? 0 (a.add (0*P.cellsOf e)) (P.cellsOf e) with
    | none=>rw [hcs] at h3;cases h3
    | some cs =>
     rw [hcs] at h3;obtain ⟨y,hy⟩:=(Gv.opens (α:=α)).ap h1 h3;obtain ⟨_,hn,h4⟩:=World.cells?_some hcs;have hp:=Gv.len hy;have hpos:0<(Gv.ty α).size:=Gv.pos;have h5:=h4 0 (by omega);rw [List.getElem?_eq_getElem (by omega)] at h5;have h6:=aCo h5;obtain ⟨b,o,s⟩:=a;simp [Addr.add] at h6;subst h6;exact ⟨b,o,rfl⟩
   have key:∀ j,j<len->∃ y:α,∃ b o cs,some a=some ⟨b,o,none⟩/\b ∉ ([]:List Nat)/\bT W b (o+j*(Gv.ty α).size) cs/\Gv.rep [] W cs y:=by
    intro j hj;have h3:=hel j hj;rw [List.getElem?_eq_getElem (by omega)] at h3;cases hcs:W.cells? 0 (a.add (j*P.cellsOf e)) (P.cellsOf e) with
    | none=>rw [hcs] at h3;cases h3
    | some cs =>
     rw [hcs] at h3;obtain ⟨y,hy⟩:=(Gv.opens (α:=α)).ap h1 h3;obtain ⟨_,hn,h4⟩:=World.cells?_some hcs;have hp:=Gv.len hy;obtain ⟨b,o,rfl⟩:=spot (by omega);refine ⟨y,b,o,cs,rfl,by simp,λi hi=>?_,hy⟩;have h7:=h4 i (by omega);rw [addr_add,addr_add,hsz] at h7;rw [h7,List.getElem?_eq_getElem hi]
   obtain ⟨l,hl1,hl2⟩:=M5 len key;exact ⟨l,some a,cap,by rw [hl1],by omega,hm,hl2⟩
 .cases h
instance aYz{α:Type}[Gv α]:Gv (List α) where
 ty:=.slice (Gv.ty α)
 rep:=aAY
 len h:=by obtain ⟨p,c,rfl,_⟩:=h;rfl
 pos:=by simp [Ty.size]
 mE hs h:=by obtain ⟨p,c,h1,h2,h3,h4⟩:=h;exact ⟨p,c,h1,h2,h3,h4.mE hs⟩
 opens:=XD
 zL:=uA (ty:=.slice (Gv.ty α)) (λ_ _ h=>by cases h) XD
def VZ{α β:Type}[Gv α][Gv β](M:List Nat)(w:World)(cs:List Value)(x:α × β):Prop :=
 ∃ a b,cs=a++b/\Gv.rep M w a x.1/\Gv.rep M w b x.2
theorem a1I{α β}[Gv α][Gv β]{H}{enc:TypeId × Value->H}{P W d fuel f g r off}{cs:List Value}(h:a3p P (Ty.is P d) (f :: g :: r) off (.pair (Gv.ty α) (Gv.ty β))=true)(ht:∀ x∈f :: g :: r,∃ y,DataW.trod enc P W 0 (λ_=>true) true fuel x.type ((cs.drop x.offset).take (P.cellsOf x.type))=some y)(hl:off+(Ty.pair (Gv.ty α) (Gv.ty β)).size=cs.length):∃ y:α × β,VZ [] W (cs.drop off) y:=by
 simp only [a3p,Bool.and_eq_true] at h;obtain ⟨⟨⟨h1,h2⟩,h3⟩,h4⟩:=h;have h1:=Nat.eq_of_beq_eq_true h1;have h3:=Nat.eq_of_beq_eq_true h3;simp only [Ty.size] at hl;obtain ⟨y,hy⟩:=ht f (by simp);rw [h1,h3] at hy;obtain ⟨a,ha⟩:=(Gv.opens (α:=α)).ap h2 hy;obtain ⟨b,hb⟩:=(Gv.zL (α:=β)).ap h4 (λx hx=>ht x (List.mem_cons_of_mem _ hx)) (by omega);refine ⟨(a,b),_,_,?_,ha,hb⟩;rw [<-List.drop_drop,List.take_append_drop]
theorem XE{α β}[Gv α][Gv β]:U1 (.pair (Gv.ty α) (Gv.ty β)) (α × β) VZ:=by
 constructor;intro H enc P W d
 induction d with
 | zero=>intro fuel t cs x h;simp [Ty.is] at h
 | succ d ih =>
  intro fuel t cs x h hx;cases fuel with
  | zero=>simp [DataW.trod] at hx
  | succ fuel =>
  unfold Ty.is at h;split at h
  .rename_i fs ht;simp only [Bool.and_eq_true] at h;obtain ⟨h1,h2⟩:=h;have h1:=Nat.eq_of_beq_eq_true h1;unfold DataW.trod at hx;rw [ht] at hx;simp only at hx;split at hx
   .rename_i hlen;cases hm:(fs.toList.mapM λf=>DataW.trod enc P W 0 (λ_=>true) true fuel f.type ((cs.drop f.offset).take (P.cellsOf f.type))) with
    | none=>simp [hm] at hx
    | some xs =>
     have all:=a5x hm;have key:∃ y:α × β,VZ [] W (cs.drop 0) y:=by
      generalize fs.toList=l at h2 all
      match l,h2,all with
      | [f],h2,all =>
       simp only [a3p,Bool.and_eq_true] at h2;obtain ⟨⟨g1,g2⟩,g3⟩:=h2;have g1:=Nat.eq_of_beq_eq_true g1;have g3:=Nat.eq_of_beq_eq_true g3;obtain ⟨y,hy⟩:=all f (by simp);rw [g1,g3,List.take_of_length_le (by simp;omega)] at hy;exact ih g2 hy
      | f :: g :: r,h2,all=>exact a1I h2 all (by omega)
     simpa using key
   .cases hx
  .cases h
instance aYA{α β:Type}[Gv α][Gv β]:Gv (α × β) where
 ty:=.pair (Gv.ty α) (Gv.ty β)
 rep:=VZ
 len h:=by obtain ⟨a,b,rfl,h1,h2⟩:=h;simp [Gv.len h1,Gv.len h2,Ty.size]
 pos:=by have:0<(Gv.ty α).size:=Gv.pos;simp only [Ty.size];omega
 mE hs h:=by obtain ⟨a,b,h1,h2,h3⟩:=h;exact ⟨a,b,h1,Gv.mE hs h2,Gv.mE hs h3⟩
 opens:=XE
 zL:=by
  constructor;intro H enc P W d fuel fs off cs h ht hl
  match fs,h with
  | [f],h=>exact U2 XE h (ht f (by simp)) hl
  | f :: g :: r,h=>exact a1I h ht hl
@[reducible] def Gv.via {α β:Type} [Gv β] (f:α->β) (g:β->α) (h:∀ y,f (g y)=y):Gv α where
 ty:=Gv.ty β
 rep M w cs x:=Gv.rep M w cs (f x)
 len:=Gv.len
 pos:=Gv.pos (α:=β)
 mE:=Gv.mE
 opens:=⟨λh1 h2=>let ⟨y,hy⟩:=(Gv.opens (α:=β)).ap h1 h2;⟨g y,by simp only [h];exact hy⟩⟩
 zL:=⟨λh1 h2 h3=>let ⟨y,hy⟩:=(Gv.zL (α:=β)).ap h1 h2 h3;⟨g y,by simp only [h];exact hy⟩⟩
theorem aXp{M w cs x}:Gv.rep M w cs x ↔ cs=[.int .i64 x]/\bE x:=Iff.rfl
instance aJR{α:Type}[Gv α](p:Option Addr)(l:List α):aB (λM w=>Sl M w p l):=⟨λhs h=>h.mE hs⟩
instance aEE(p:Prop):aB (λ_ _=>p):=⟨λ_ h=>h⟩
instance dD(Φ Ψ:List Nat->World->Prop)[aB Φ][aB Ψ]:aB (λM w=>Φ M w/\Ψ M w):=⟨λhs h=>⟨aB.step hs h.1,aB.step hs h.2⟩⟩
inductive Own where
 | blk (b:Nat) (cs:List Value) (t:TypeId)
 | buf (p:Option Addr) (n c:Nat) (cs:List Value) (t:TypeId) (size:Nat)
 | obj (b:Nat) (o:Obj)
def Own.dom:Own->List Nat
 | .blk b _ _=>[b]
 | .buf (some a) _ _ _ _ _=>[a.block]
 | .buf none _ _ _ _ _=>[]
 | .obj b _=>[b]
def Own.at(w:World):Own->Prop
 | .blk b cs t=>vT w b cs t
 | .buf p n c cs t size=>w.ownsRow 0 t size (.slice p n c) n cs
 | .obj b o=>w.heap[b]? = some o
def dom(S:List Own):List Nat:=S.flatMap Own.dom
theorem Own.OD{w w'}{o:Own}(h:o.at w)(hk:∀ b∈o.dom,w'.heap[b]? = w.heap[b]?):o.at w':=by
 cases o with
 | blk b cs t=>exact vT.same h (hk b (by simp [Own.dom]))
 | obj b x=>exact (hk b (by simp [Own.dom])).trans h
 | buf p n c cs t size =>
  obtain ⟨h1,h2⟩:=h;refine ⟨h1,?_⟩;rcases h2 with h2|⟨g,cap,cur,e,h3,h4,h5⟩
  .exact .inl h2
  .cases e;exact .inr ⟨g,c,cur,rfl,h3,(hk g (by simp [Own.dom])).trans h4,h5⟩
theorem Own.aFs{w}{o:Own}(h:o.at w):∀ b∈o.dom,b<w.heap.size:=by
 have key:∀ (b:Nat) (x:Obj),w.heap[b]? = some x->b<w.heap.size:=λb x hx=>(Array.getElem?_eq_some_iff.1 hx).1;cases o with
 | blk b cs t=>intro k hk;simp [Own.dom] at hk;subst hk;exact key _ _ h
 | obj b x=>intro k hk;simp [Own.dom] at hk;subst hk;exact key _ _ h
 | buf p n c cs t size =>
  obtain ⟨_,h2⟩:=h;intro k hk;rcases h2 with ⟨h2,_⟩|⟨g,cap,cur,e,h3,h4,h5⟩
  .cases h2;simp [Own.dom] at hk
  .cases e;simp [Own.dom] at hk;subst hk;exact key _ _ h4
structure Ctx(W w:World)(S:List Own)(Φ:List Nat->World->Prop):Prop where
 chg:kT [] W w
 own:∀ o∈S,o.at w
 OE:∀ b∈dom S,W.heap.size<=b
 nodup:(dom S).Nodup
 yK:Φ (dom S) w
section
variable {W w w':World}{S S':List Own}{Φ Ψ:List Nat->World->Prop}
theorem nT{b o}(ho:o∈S)(hb:b∈o.dom):b∈dom S:=List.mem_flatMap.2 ⟨o,ho,hb⟩
theorem Ctx.start(W)(h:Φ [] W):Ctx W W [] Φ:=⟨kT.refl _ _,by simp,by simp [dom],by simp [dom],h⟩
theorem Ctx.lt(c:Ctx W w S Φ){b}(hb:b∈dom S):b<w.heap.size:=by
 obtain ⟨o,ho,hb⟩:=List.mem_flatMap.1 hb;exact Own.aFs (c.own o ho) b hb
theorem Ctx.go[aB Φ](c:Ctx W w S Φ)(hs:Step (dom S) (dom S') w w')(ho:∀ o∈S',o.at w')(hn:(dom S').Nodup):Ctx W w' S' Φ:=by
 refine ⟨c.chg.trans hs.chg λb hb=>.inr (c.OE b hb),ho,λb hb=>?_,hn,aB.step hs c.yK⟩;rcases hs.sub b hb with h|h
 .exact c.OE b h
 .exact Nat.le_trans c.chg.size h
theorem Ctx.call[aB Φ](c:Ctx W w S Φ)(h:kT [] w w'):Ctx W w' S Φ :=
 c.go ⟨h.mono (by simp),λb hb=>.inl hb⟩ (λo ho=>Own.OD (c.own o ho) λb hb=>h.block b (c.lt (nT ho hb)) (by simp)) c.nodup
theorem Ctx.draw[aB Φ](c:Ctx W w S Φ)(n):Ctx W (w.drewN n) S Φ:=c.call ((kT.refl _ _).drewN n)
theorem Ctx.new'[aB Φ](c:Ctx W w S Φ)(o x)(hd:x.dom=[w.heap.size])(hx:x.at (w.alloc o)):Ctx W (w.alloc o) (x :: S) Φ:=by
 have hc:kT [] w (w.alloc o):=(kT.refl _ _).alloc o;have aSa:dom (x :: S)=w.heap.size :: dom S:=by simp [dom,hd]
 refine c.go ⟨hc.mono (by simp),λb hb=>?_⟩ (λy hy=>?_) ?_
 .rw [aSa] at hb;rcases List.mem_cons.1 hb with rfl|hb
  .exact .inr (Nat.le_refl _)
  .exact .inl hb
 .rcases List.mem_cons.1 hy with rfl|hy
  .exact hx
  .exact Own.OD (c.own y hy) λb hb=>hc.block b (c.lt (nT hy hb)) (by simp)
 .rw [aSa];exact List.nodup_cons.2 ⟨λhm=>by have:=c.lt hm;omega,c.nodup⟩
theorem Ctx.new[aB Φ](c:Ctx W w S Φ){cs t}(e:w'=w.alloc (.cells cs t)):Ctx W w' (.blk w.heap.size cs.toList t :: S) Φ:=by
 subst e;exact c.new' _ _ rfl (by have:=vT.aCm w cs.toList t;simpa [Own.at] using this)
abbrev Wk(W:World)(R:List Own)(Φ:List Nat->World->Prop)(R':List Own)(aX:List Nat->World->Prop):Prop:=∀ (w:World) (F:List Own),Ctx W w (R++F) Φ->Ctx W w (R'++F) aX
abbrev Zr(W:World)(R:List Own)(Φ:List Nat->World->Prop)(J:Value->World->Prop)(v:Value):Prop:=∀ (w:World) (F:List Own),Ctx W w (R++F) Φ->J v w
abbrev Zd(W:World)(R:List Own)(Φ:List Nat->World->Prop)(k:World->Prop):Prop:=∀ (w:World) (F:List Own),Ctx W w (R++F) Φ->k w
abbrev Zb(W:World)(R:List Own)(Φ:List Nat->World->Prop)(n:Nat)(I:List Own->(List Nat->World->Prop)->Nat->Prop):Prop:=∃ (R':List Own) (aX:List Nat->World->Prop) (k:Nat),aB aX/\Wk W R Φ R' aX/\I R' aX k/\k<n
abbrev Zs(W:World)(R:List Own)(Φ:List Nat->World->Prop)(I:List Own->(List Nat->World->Prop)->Nat->Prop):Prop:=∃ (R':List Own) (aX:List Nat->World->Prop) (k:Nat),aB aX/\Wk W R Φ R' aX/\I R' aX k
abbrev Zi(n:Int)(m:Nat)(p:Option Addr)(k:Nat->Nat->Prop):Prop:=(0<=n/\n<(m:Int))/\vX none p k
theorem Ctx.newObj[aB Φ](c:Ctx W w S Φ){o}(e:w'=w.alloc o):Ctx W w' (.obj w.heap.size o :: S) Φ:=by
 subst e;exact c.new' _ _ rfl (wD w o)
theorem a3q{k o o'}(hk:S[k]? = some o):dom (S.set k o')=(S.take k).flatMap Own.dom++o'.dom++(S.drop (k+1)).flatMap Own.dom:=by
 have hlt:k<S.length:=(List.getElem?_eq_some_iff.1 hk).1;rw [List.set_eq_take_append_cons_drop,if_pos hlt];simp [dom]
theorem aNS{k o}(hk:S[k]? = some o):dom S=(S.take k).flatMap Own.dom++o.dom++(S.drop (k+1)).flatMap Own.dom:=by
 have:=a3q (S:=S) (o':=o) hk
 rwa [show S.set k o=S by
  apply List.ext_getElem?;intro i;rw [List.getElem?_set];split
  .rename_i h;subst h;split
   .exact hk.symm
   .rename_i h;exact absurd (List.getElem?_eq_some_iff.1 hk).1 h
  .rfl] at this
theorem Ctx.upd[aB Φ](c:Ctx W w S Φ){k o o'}(hk:S[k]? = some o)(hc:kT o.dom w w')(hd:∀ b∈o'.dom,b∈o.dom\/w.heap.size<=b)(hn:o'.dom.Nodup)(ho:o'.at w'):Ctx W w' (S.set k o') Φ:=by
 have hmem:o∈S:=List.mem_of_getElem? hk;have e:=aNS hk;have hnd:=c.nodup;rw [e] at hnd;have hlt:∀ b∈(S.take k).flatMap Own.dom++o.dom++(S.drop (k+1)).flatMap Own.dom,b<w.heap.size:=λb hb=>c.lt (by rw [e];exact hb);refine c.go ⟨hc.mono λx hx=>nT hmem hx,λb hb=>?_⟩ (λy hy=>?_) ?_
 .rw [a3q hk] at hb;simp only [List.mem_append] at hb;rcases hb with (hb|hb)|hb
  .left;rw [e];simp [hb]
  .rcases hd b hb with h|h
   .left;rw [e];simp [h]
   .exact .inr h
  .left;rw [e];simp [hb]
 .obtain ⟨j,hj⟩:=List.getElem?_of_mem hy;rw [List.getElem?_set] at hj;split at hj
  .split at hj
   .cases hj;exact ho
   .cases hj
  .rename_i hne;refine Own.OD (c.own y (List.mem_of_getElem? hj)) λb hb=>hc.block b (c.lt (nT (List.mem_of_getElem? hj) hb)) λhm=>?_;simp only [List.nodup_append,List.mem_append] at hnd;obtain ⟨⟨_,_,h1⟩,_,h2⟩:=hnd;have hjl:j<S.length:=(List.getElem?_eq_some_iff.1 hj).1;by_cases hjk:j<k
   .have:b∈(S.take k).flatMap Own.dom:=List.mem_flatMap.2 ⟨y,List.mem_of_getElem? (i:=j) (by rw [List.getElem?_take_of_lt hjk];exact hj),hb⟩;exact absurd rfl (h1 b this b hm)
   .have:b∈(S.drop (k+1)).flatMap Own.dom:=List.mem_flatMap.2 ⟨y,List.mem_of_getElem? (i:=j - (k+1)) (by rw [List.getElem?_drop,show k+1+(j - (k+1))=j by omega];exact hj),hb⟩;exact absurd rfl (h2 b (.inr hm) b this)
 .rw [a3q hk];simp only [List.nodup_append,List.mem_append] at hnd ⊢;obtain ⟨⟨n1,n2,h1⟩,n3,h2⟩:=hnd;refine ⟨⟨n1,hn,λa ha b hb=>?_⟩,n3,λa ha b hb=>?_⟩
  .rcases hd b hb with h|h
   .exact h1 a ha b h
   .have:=hlt a (by simp [ha]);omega
  .rcases ha with ha|ha
   .exact h2 a (.inl ha) b hb
   .rcases hd a ha with h|h
    .exact h2 a (.inr h) b hb
    .have:=hlt b (by simp [hb]);omega
theorem Ctx.put[aB Φ](c:Ctx W w S Φ)(k){b i cs t v}(e:w'=w.setCell ⟨b,i,none⟩ v)(hk:S[k]? = some (.blk b cs t)):Ctx W w' (S.set k (.blk b (cs.set i v) t)) Φ:=by
 subst e;exact c.upd hk ((kT.refl _ _).setCell (by simp [Own.dom]) v) (by simp [Own.dom]) (by simp [Own.dom]) (vT.set (c.own _ (List.mem_of_getElem? hk)) i v)
theorem Ctx.FR[aB Φ](c:Ctx W w S Φ)(k){b i cs vs t}(e:w'=w.setCells b i vs)(hk:S[k]? = some (.blk b cs t)):Ctx W w' (S.set k (.blk b (mS cs i vs) t)) Φ:=by
 subst e;exact c.upd hk ((kT.refl _ _).setCells (by simp [Own.dom]) i vs) (by simp [Own.dom]) (by simp [Own.dom]) (vT.sets vs i (c.own _ (List.mem_of_getElem? hk)))
theorem Ctx.putObj[aB Φ](c:Ctx W w S Φ)(k){b o}(o')(hk:S[k]? = some (.obj b o)):Ctx W (D9 w b o') (S.set k (.obj b o')) Φ :=
 c.upd hk ((kT.refl _ _).D9 (by simp [Own.dom]) o') (by simp [Own.dom]) (by simp [Own.dom]) (a3o _ _ (c.lt (nT (List.mem_of_getElem? hk) (by simp [Own.dom]))))
theorem Ctx.blk(c:Ctx W w S Φ)(k:Nat){b cs t}(hk:S[k]? = some (.blk b cs t)):vT w b cs t:=c.own _ (List.mem_of_getElem? hk)
theorem Ctx.get(c:Ctx W w S Φ)(k:Nat){b i cs t v}(hk:S[k]? = some (.blk b cs t))(hv:cs[i]? = some v):w.cell? ⟨b,i,none⟩=some v:=(c.blk k hk).D8 hv
theorem Ctx.row(c:Ctx W w S Φ)(k:Nat){b o cs vs t}(hk:S[k]? = some (.blk b cs t))(hv:∀ j,(hj:j<vs.length)->cs[o+j]? = some vs[j]):bT w b o vs:=(c.blk k hk).row hv
theorem Ctx.EO(c:Ctx W w S Φ)(k:Nat){b cs t}(hk:S[k]? = some (.blk b cs t)):bT w b 0 cs:=(c.blk k hk).EO
theorem Ctx.can(c:Ctx W w S Φ)(k:Nat){b o n cs t}(hk:S[k]? = some (.blk b cs t))(hn:o+n<=cs.length):aH w b o n:=(c.blk k hk).can hn
theorem Ctx.add(c:Ctx W w S Φ)(h:Ψ (dom S) w):Ctx W w S (λM w=>Φ M w/\Ψ M w):=⟨c.chg,c.own,c.OE,c.nodup,c.yK,h⟩
theorem Ctx.weak(c:Ctx W w S Φ)(h:∀ M w,Φ M w->Ψ M w):Ctx W w S Ψ:=⟨c.chg,c.own,c.OE,c.nodup,h _ _ c.yK⟩
theorem Ctx.sub[aB Φ](c:Ctx W w S Φ)(h:S'.Sublist S):Ctx W w S' Φ :=
 c.go ⟨kT.refl _ _,λb hb=>.inl (by
   obtain ⟨o,ho,hb⟩:=List.mem_flatMap.1 hb;exact nT (h.subset ho) hb)⟩ (λo ho=>c.own o (h.subset ho)) (by
  refine List.Nodup.sublist ?_ c.nodup;clear c
  induction h with
  | slnil=>exact List.Sublist.refl _
  | cons a _ ih=>exact ih.trans (List.sublist_append_right _ _)
  | cons_cons a _ ih=>exact List.Sublist.append (List.Sublist.refl _) ih)
theorem Ctx.drop1[aB Φ]{o}(c:Ctx W w (o :: S) Φ):Ctx W w S Φ:=c.sub (List.sublist_cons_self _ _)
end
section
variable {W w:World}{S:List Own}{Φ:List Nat->World->Prop}
theorem Ctx.aCp[aB Φ](c:Ctx W w S Φ)(t size):Ctx W w (.buf none 0 0 [] t size :: S) Φ :=
 c.go ⟨kT.refl _ _,λb hb=>.inl (by simpa [dom,Own.dom] using hb)⟩ (λo ho=>by
  rcases List.mem_cons.1 ho with rfl|ho
  .exact World.ownsRow_nil _ _ _ _
  .exact c.own o ho) (by have:=c.nodup;simpa [dom,Own.dom] using this)
theorem Ctx.aMH[aB Φ](c:Ctx W w S Φ)(k){b cs t}(n size)(hk:S[k]? = some (.blk b cs t))(hl:cs.length=n*size)(hm:n<=maxLen):
  Ctx W w (S.set k (.buf (some ⟨b,0,none⟩) n n cs t size)) Φ:=by
 refine c.upd hk (kT.refl _ _) (by simp [Own.dom]) (by simp [Own.dom]) ?_;refine ⟨hl,.inr ⟨b,n,cs.toArray,rfl,Nat.zero_le _,c.blk k hk,Nat.le_refl _,hm,by simpa using hl,?_⟩⟩;simp only;rw [<-hl,List.take_length]
theorem Ctx.sU(c:Ctx W w S Φ)(k:Nat){p n cap cs t size}(hk:S[k]? = some (.buf p n cap cs t size)):cs.length=n*size/\n<=cap/\cap<=maxLen:=by
 obtain ⟨h1,h2⟩:=c.own _ (List.mem_of_getElem? hk);refine ⟨h1,?_⟩;rcases h2 with ⟨e,rfl⟩|⟨g,cap',cur,e,_,_,h3,h4,_⟩
 .cases e;simp [maxLen]
 .cases e;exact ⟨h3,h4⟩
theorem Ctx.aJS{P}(c:Ctx W w S Φ)(k:Nat){p n cap cs t size}(hk:S[k]? = some (.buf p n cap cs t size)){ts ty i}(ht:P.underlying ts=some (.slice t))(hi:P.info? t=some i)(q c2):
  (Builtin.append_ #[ts,ts] ty #[.slice p n cap,.slice q 0 c2]).run P w=.ok (.slice p n cap) w:=by
 obtain ⟨_,hn,_⟩:=c.sU k hk;have hf:(Builtin.firstCells i.size 0 (.slice q 0 c2)).run P w=.ok #[] w:=by
  cases q<;>simp [Builtin.firstCells,loadCells,loadCellsFrom]
 simp [Builtin.append_,run_underlying ht,sizeOf,typeInfo,hi,Builtin.lenOf,hn,hf,Result.andThen];cases p<;>simp [storeCells,Result.andThen]
theorem Ctx.append[aB Φ]{P}(c:Ctx W w S Φ)(k){p n cap cs t size}(hk:S[k]? = some (.buf p n cap cs t size)){ts ty i z}(ht:P.underlying ts=some (.slice t))(hi:P.info? t=some i)(hz:i.zero=some z)(hs:i.size=size)(hzs:z.cells.size=size){a m c2 news}(hm:0<m)(hl:news.length=m*size)(hnews:∀ j u,news[j]? = some u->w.cell? (a.add j)=some u)(h1:∀ u∈news,oY u=true)(hbytes:(n+m)*i.bytes<=140737488355328)(hlen:n+m<=140737488355328):
  ∃ p' cap' w',(Builtin.append_ #[ts,ts] ty #[.slice p n cap,.slice (some a) m c2]).run P w=.ok (.slice p' (n+m) cap') w'/\Ctx W w' (S.set k (.buf p' (n+m) cap' (cs++news) t size)) Φ:=by
 subst hs;have h1':∀ u∈news,u.oneCell'=true:=λu hu=>by have:=h1 u hu;cases u<;>simp_all [oY,Value.oneCell']
 have hown:=c.own _ (List.mem_of_getElem? hk);obtain ⟨uK,hown⟩:=hown;have hlen':(cs++news).length=(n+m)*i.size:=by rw [List.length_append,uK,hl,Nat.add_mul]
 have grown:∀ (old:Nat),old<n+m->(∀ x∈Own.dom (.buf p n cap cs t i.size),x<w.heap.size) ->
   Ctx W (w.drew.alloc (.cells (cs.toArray++news.toArray++Builtin.zeroCells z.cells (grownCap w (n+m) old t - (n+m))) t))
    (S.set k (.buf (some ⟨w.heap.size,0,none⟩) (n+m) (grownCap w (n+m) old t) (cs++news) t i.size)) Φ:=by
  intro old ho _;have hge:=grownCap_ge w (n+m) old t;have hcm:grownCap w (n+m) old t<=maxLen:=grownCap_le_maxLen w (n+m) old t (by simp only [maxLen];omega);refine c.upd hk (((kT.refl _ _).drewN 1).alloc _) (by simp [Own.dom]) (by simp [Own.dom]) ⟨hlen',.inr ⟨w.heap.size,_,_,rfl,Nat.zero_le _,wD w.drew _,hge,hcm,?_,?_⟩⟩
  .simp only [Array.size_append,List.size_toArray,size_zeroCells,hzs,uK,hl,<-Nat.add_mul]
   congr 1
   omega
  .simp only [Array.toList_append,bM];rw [<-bM,<-hlen'];exact List.take_left
 rcases hown with ⟨e,rfl⟩|⟨g,cap',cur,e,_,hg,hnc,hcm,hcs,uL⟩
 .cases e;have hx:cs=[]:=List.eq_nil_of_length_eq_zero (by simpa using uK);subst hx;have hr:=run_append_nil (P:=P) w ts ty t i z ht hi hz a m c2 news hl hnews hm (by omega) (by have hb:=hbytes;simp only [Nat.zero_add] at hb;omega);have hgr:=grown 0 (by omega) (by simp [Own.dom]);simp only [Nat.zero_add,List.nil_append,Array.empty_append] at hgr hr ⊢;exact ⟨_,_,_,hr,hgr⟩
 .cases e;by_cases hroom:n+m<=cap
  .have hfit:n*i.size+news.length<=cur.size:=by rw [hl,hcs,<-Nat.add_mul];exact Nat.mul_le_mul_right _ hroom
   have hr:=run_append_room (P:=P) w ts ty t i ht hi g n cap cur hg a m c2 news hl hnews h1' hroom hfit;refine ⟨_,_,_,hr,c.upd hk ⟨rfl,rfl,rfl,by simp,λb _ hb=>setRow_other w g b _ (by simpa [Own.dom] using hb)⟩ (by simp [Own.dom]) (by simp [Own.dom])
    ⟨hlen',.inr ⟨g,cap,_,rfl,Nat.zero_le _,setRow_heap w g cur _ t _ hg,hroom,hcm,?_,?_⟩⟩⟩
   .simp only [List.size_toArray,List.length_append,List.length_take,List.length_drop,Array.length_toList];omega
   .rw [uL,<-hlen'];exact List.take_left
  .have holds:∀ j u,cs[j]? = some u->w.cell? ((⟨g,0,none⟩:Addr).add j)=some u:=by
    intro j u hj;have hlt:j<cs.length:=(List.getElem?_eq_some_iff.1 hj).1;have h2:cur[j]? = some u:=by
     rw [<-uL,List.getElem?_take_of_lt (by omega)] at hj;simpa using hj
    rw [addr_add,Nat.zero_add];simp [World.cell?,hg,h2]
   have hr:=run_append_grow (P:=P) w ts ty t i z ht hi hz ⟨g,0,none⟩ n cap cs uK holds a m c2 news hl hnews (by omega) (by omega) (growslice_fits (by omega) hbytes);have hgr:=grown cap (by omega) (λx hx=>c.lt (nT (List.mem_of_getElem? hk) hx));exact ⟨_,_,_,hr,hgr⟩
theorem Ctx.nU(c:Ctx W w S Φ)(k:Nat){p n cap cs t size}(hk:S[k]? = some (.buf p n cap cs t size))(h0:0<cs.length):
  ∃ b,p=some ⟨b,0,none⟩/\b∈dom S/\∀ j v,cs[j]? = some v->w.cell? ⟨b,j,none⟩=some v/\w.frozen? ⟨b,j,none⟩=false:=by
 obtain ⟨h1,h2⟩:=c.own _ (List.mem_of_getElem? hk);rcases h2 with ⟨e,rfl⟩|⟨g,cap',cur,e,_,hg,hnc,hcm,hcs,uL⟩
 .simp at h1;subst h1;simp at h0
 .cases e;refine ⟨g,rfl,nT (List.mem_of_getElem? hk) (by simp [Own.dom]),λj v hj=>?_⟩;have hlt:j<cs.length:=(List.getElem?_eq_some_iff.1 hj).1;have h2:cur[j]? = some v:=by
   rw [<-uL,List.getElem?_take_of_lt (by omega)] at hj;simpa using hj
  exact ⟨by simp [World.cell?,hg,h2],by simp [World.frozen?,hg]⟩
def dR{α:Type}[Gv α](M:List Nat)(w:World)(cs:List Value)(l:List α):Prop :=
 cs.length=l.length*(Gv.ty α).size/\∀ j,(hj:j<l.length)->Gv.rep M w ((cs.drop (j*(Gv.ty α).size)).take (Gv.ty α).size) l[j]
theorem dR.nil{α}[Gv α]{M w}:dR M w [] ([]:List α):=⟨by simp,λj hj=>by simp at hj⟩
theorem dR.snoc{α}[Gv α]{M w cs d}{l:List α}{x}(h:dR M w cs l)(hx:Gv.rep M w d x):dR M w (cs++d) (l++[x]):=by
 have hd:=Gv.len hx;refine ⟨by simp [h.1,hd,Nat.add_mul],λj hj=>?_⟩;simp only [List.length_append,List.length_singleton] at hj;by_cases hj':j<l.length
 .rw [List.getElem_append_left hj'];have:=h.2 j hj';have hle:(j+1)*(Gv.ty α).size<=cs.length:=by rw [h.1];exact Nat.mul_le_mul_right _ hj'
  rw [Nat.add_mul,Nat.one_mul] at hle;rw [List.drop_append_of_le_length (by omega),List.take_append_of_le_length (by simp;omega)];exact this
 .have:j=l.length:=by omega
  subst this;rw [List.getElem_append_right (Nat.le_refl _),<-h.1,List.drop_left,<-hd,List.take_length];simpa using hx
instance aEF{α:Type}[Gv α](cs:List Value)(l:List α):aB (λM w=>dR M w cs l):=⟨λhs h=>⟨h.1,λj hj=>Gv.mE hs (h.2 j hj)⟩⟩
theorem Ctx.freeze[aB Φ]{α}[Gv α]{p n cap cs t}{l:List α}(c:Ctx W w (.buf p n cap cs t (Gv.ty α).size :: S) Φ)(h:dR (dom (.buf p n cap cs t (Gv.ty α).size :: S)) w cs l):Ctx W w S Φ/\Sl (dom S) w p l/\n=l.length/\n<=cap/\cap<=maxLen:=by
 have c':=c.drop1;have hl:=c.sU 0 rfl;have hpos:0<(Gv.ty α).size:=Gv.pos;have hn:n=l.length:=by
  have:=hl.1.symm.trans h.1;exact Nat.eq_of_mul_eq_mul_right hpos this
 refine ⟨c',λj hj=>?_,hn,hl.2⟩;have hle:(j+1)*(Gv.ty α).size<=cs.length:=by rw [h.1];exact Nat.mul_le_mul_right _ hj
 rw [Nat.add_mul,Nat.one_mul] at hle;obtain ⟨b,rfl,hb,hc⟩:=c.nU 0 rfl (by omega);refine ⟨b,0,(cs.drop (j*(Gv.ty α).size)).take (Gv.ty α).size,rfl,?_,λi hi=>?_,?_⟩
 .have hnd:=c.nodup;simp only [dom,List.flatMap_cons,Own.dom,List.nodup_append] at hnd;exact λhm=>hnd.2.2 b (by simp) b hm rfl
 .rw [Nat.zero_add];refine (hc _ _ ?_).1;simp only [List.length_take,List.length_drop] at hi;rw [List.getElem_take,List.getElem_drop,List.getElem?_eq_getElem]
 .exact Gv.mE ⟨kT.refl _ _,λb hb=>.inl (by simp only [dom,List.flatMap_cons,List.mem_append];exact .inr hb)⟩ (h.2 j hj)
end
end Go.Vc
end

section
namespace Go.Vc
open Go.RowKit
abbrev PW:=List Nat->World->Prop
inductive SV where
 | v (x:Value)
 | ptr (k o:Nat)
structure Tr where
 id:Nat
 b:Nat
 ver:Nat
 cs:List Value
 t:TypeId
def Tr.own(T:Tr):Own:=.blk T.b T.cs T.t
def bU(k:Nat):List Tr->Option Tr
 | []=>none
 | T :: r=>match Nat.beq T.id k with|true=>some T|false=>bU k r
def DA(k:Nat)(cs:List Value):List Tr->List Tr
 | []=>[]
 | T :: r=>match Nat.beq T.id k with|true=>⟨T.id,T.b,Nat.succ T.ver,cs,T.t⟩ :: r|false=>T :: DA k cs r
def SV.val(L:List Tr):SV->Value
 | .v x=>x
 | .ptr k o=>match bU k L with|some T=>.pointer (some ⟨T.b,o,none⟩)|none=>unk
structure fO where
 n:Nat
 l:List (Nat × SV)
def VB(i:Nat):List (Nat × SV)->SV
 | []=>.v unk
 | (t,x) :: r=>match Nat.beq t i with|true=>x|false=>VB i r
def sV(L:List Tr):List (Nat × SV)->List (Nat × Value)
 | []=>[]
 | (t,x) :: r=>(t,x.val L) :: sV L r
def fO.fr(L:List Tr)(s:fO):Fr:=⟨s.n,sV L s.l⟩
def fO.ev(s:fO):Operand->SV
 | .tmp t=>VB t s.l
 | .const v=>.v v
 | .global g=>.v (.pointer (some ⟨g,0,none⟩))
 | .func f=>.v (.func (.func f) #[] #[])
def fO.val(s:fO)(L:List Tr)(x:Operand):Value:=(s.ev x).val L
def fO.put(s:fO)(d:Option Tmp)(v:SV):fO :=
 match d with
 | some t=>match Nat.blt t s.n with
  | true=>⟨s.n,(t,v) :: s.l⟩
  | false=>s
 | none=>s
theorem OG(L i):∀ l:List (Nat × SV),sS i (sV L l)=(VB i l).val L
 | []=>rfl
 | (t,x) :: r=>by
  simp only [sV,sS,VB];cases Nat.beq t i with
  | true=>rfl
  | false=>exact OG L i r
theorem uB(s:fO)(L x):(s.fr L).eval x=s.val L x:=by
 cases x with
 | tmp t=>exact OG L t s.l
 | const v=>rfl
 | global g=>rfl
 | func f=>rfl
theorem XF(s:fO)(L d v):(s.put d v).fr L=(s.fr L).put d (v.val L):=by
 cases d with
 | none=>rfl
 | some t =>
  simp only [fO.put,Fr.put,fO.fr];cases Nat.blt t s.n<;>rfl
structure Ext(L L':List Tr):Prop where
 old:∀ k T,bU k L=some T->∃ T',bU k L'=some T'/\T'.b=T.b/\T'.t=T.t/\T.ver<=T'.ver/\(T'.ver=T.ver->T'.cs=T.cs)
 bs:(L.map Tr.b).Sublist (L'.map Tr.b)
 ids:(L.map Tr.id).Nodup->(L'.map Tr.id).Nodup
theorem Ext.refl(L):Ext L L:=⟨λ_ T h=>⟨T,h,rfl,rfl,Nat.le_refl _,λ_=>rfl⟩,List.Sublist.refl _,id⟩
theorem Ext.trans{A B C}(h:Ext A B)(h':Ext B C):Ext A C:=⟨λk T hk=>by
 obtain ⟨T1,a1,a2,a3,a4,a5⟩:=h.old k T hk;obtain ⟨T2,b1,b2,b3,b4,b5⟩:=h'.old k T1 a1;exact ⟨T2,b1,b2.trans a2,b3.trans a3,Nat.le_trans a4 b4,λe=>by rw [b5 (by omega),a5 (by omega)]⟩,h.bs.trans h'.bs,λhn=>h'.ids (h.ids hn)⟩
theorem a5y{k T}:∀ {L:List Tr},bU k L=some T->T.id=k/\T∈L
 | [],h=>by cases h
 | U :: r,h=>by
  unfold bU at h;split at h
  .rename_i hb;cases h;exact ⟨Nat.eq_of_beq_eq_true hb,by simp⟩
  .obtain ⟨h1,h2⟩:=a5y h;exact ⟨h1,List.mem_cons_of_mem _ h2⟩
theorem XG{k cs T}(j):∀ {L:List Tr},bU k L=some T->bU j (DA k cs L)=if j=k then some ⟨T.id,T.b,Nat.succ T.ver,cs,T.t⟩ else bU j L
 | [],h=>by cases h
 | U :: r,h=>by
  unfold bU at h;unfold DA;cases hb:Nat.beq U.id k with
  | true =>
   rw [hb] at h;cases h;have he:=Nat.eq_of_beq_eq_true hb;simp only [bU];by_cases hj:j=k
   .subst hj;rw [hb,if_pos rfl]
   .rw [if_neg hj,show Nat.beq T.id j=false by
     cases hx:Nat.beq T.id j with
     | false=>rfl
     | true=>exact absurd ((Nat.eq_of_beq_eq_true hx).symm.trans he) hj]
  | false =>
   rw [hb] at h;have ih:=XG (cs:=cs) j h;simp only [bU];cases hx:Nat.beq U.id j with
   | true =>
    have:=Nat.eq_of_beq_eq_true hx;rw [if_neg (λe=>by rw [this,e] at hb;exact absurd hb (by simp))]
   | false=>exact ih
theorem S0(k cs):∀ L:List Tr,(DA k cs L).map Tr.b=L.map Tr.b/\(DA k cs L).map Tr.id=L.map Tr.id
 | []=>⟨rfl,rfl⟩
 | T :: r=>by
  unfold DA;cases Nat.beq T.id k with
  | true=>exact ⟨rfl,rfl⟩
  | false=>have:=S0 k cs r;simp [this]
theorem Ext.DA{k cs L T}(h:bU k L=some T):Ext L (DA k cs L):=by
 refine ⟨λj U hj=>?_,by rw [(S0 k cs L).1];exact List.Sublist.refl _,by rw [(S0 k cs L).2];exact id⟩;rw [XG j h];by_cases e:j=k
 .subst e;rw [h] at hj;cases hj;rw [if_pos rfl];exact ⟨_,rfl,rfl,rfl,Nat.le_succ _,λhh=>absurd hh (Nat.succ_ne_self _)⟩
 .rw [if_neg e];exact ⟨U,hj,rfl,rfl,Nat.le_refl _,λ_=>rfl⟩
theorem XH{k}:∀ {L:List Tr},bU k L=none->∀ T∈L,T.id≠k
 | [],_,T,hT=>by cases hT
 | U :: r,h,T,hT=>by
  unfold bU at h;split at h
  .cases h
  .rename_i hb;rcases List.mem_cons.1 hT with rfl|hT
   .exact Nat.ne_of_beq_eq_false hb
   .exact XH h T hT
theorem Ext.new{L T}(h:bU T.id L=none):Ext L (T :: L):=by
 refine ⟨λj U hj=>?_,List.sublist_cons_self _ _,λhn=>List.nodup_cons.2 ⟨λhm=>?_,hn⟩⟩
 rotate_left
 .obtain ⟨U,hU,e⟩:=List.mem_map.1 hm;exact XH h U hU e
 unfold bU;cases hb:Nat.beq T.id j with
 | true=>have:=Nat.eq_of_beq_eq_true hb;rw [this,hj] at h;cases h
 | false=>exact ⟨U,hj,rfl,rfl,Nat.le_refl _,λ_=>rfl⟩
theorem Ext.sV{L L'}(h:Ext L L'):∀ {l:List (Nat × SV)},(∀ p∈l,∀ k o,p.2=SV.ptr k o->(bU k L).isSome=true)->sV L' l=sV L l
 | [],_=>rfl
 | (t,x) :: r,hl=>by
  have ih:=Ext.sV h (l:=r) λp hp=>hl p (List.mem_cons_of_mem _ hp);simp only [Go.Vc.sV,ih];cases x with
  | v x=>rfl
  | ptr k o =>
   have:=hl (t,.ptr k o) (by simp) k o rfl;obtain ⟨T,hT⟩:=Option.isSome_iff_exists.1 this;obtain ⟨T',h1,h2,_⟩:=h.old k T hT;simp only [SV.val,hT,h1,h2]
def M6(L:List Tr)(s:fO):Prop:=∀ p∈s.l,∀ k o,p.2=SV.ptr k o->(bU k L).isSome=true
theorem M6.ext{L L' s}(h:M6 L s)(he:Ext L L'):M6 L' s:=λp hp k o e=>by
 obtain ⟨T,hT⟩:=Option.isSome_iff_exists.1 (h p hp k o e);obtain ⟨T',h1,_⟩:=he.old k T hT;rw [h1];rfl
theorem M6.fr{L L' s}(h:M6 L s)(he:Ext L L'):s.fr L'=s.fr L:=by
 simp only [fO.fr,he.sV h]
theorem M6.put{L s}(h:M6 L s){d v}(hv:∀ k o,v=SV.ptr k o->(bU k L).isSome=true):M6 L (s.put d v):=by
 cases d with
 | none=>exact h
 | some t =>
  unfold fO.put;simp only;cases Nat.blt t s.n with
  | false=>exact h
  | true =>
   intro p hp k o e;rcases List.mem_cons.1 hp with rfl|hp
   .exact hv k o e
   .exact h p hp k o e
theorem M6.ev{L s}(h:M6 L s){x k o}(e:s.ev x=.ptr k o):(bU k L).isSome=true:=by
 cases x with
 | tmp t =>
  unfold fO.ev at e;have key:∀ l:List (Nat × SV),VB t l=.ptr k o->∃ p∈l,p.2=.ptr k o:=by
   intro l
   induction l with
   | nil=>intro h;cases h
   | cons p r ih =>
    intro h;unfold VB at h;split at h
    .exact ⟨p,by simp,h⟩
    .obtain ⟨q,hq,hq'⟩:=ih h;exact ⟨q,List.mem_cons_of_mem _ hq,hq'⟩
  obtain ⟨p,hp,hp'⟩:=key _ e;exact h p hp k o hp'
 | const v=>cases e
 | global g=>cases e
 | func f=>cases e
def jH(G:List Own)(W w:World)(L:List Tr)(R:List Own)(Φ:PW):Prop:=Ctx W w (R++(L.map Tr.own++G)) Φ
def OH:Option Prop->Prop
 | some p=>p
 | none=>False
def Sc.fit:Sc->Value->Bool
 | .int k,.int k' _=>decide (k'=k)
 | .bool,.bool _=>true
 | .str,.string _=>true
 | .ptr,.pointer _=>true
 | .slice,.slice _ _ _=>true
 | .map,.map _=>true
 | .fn,.func (.func _) _ _=>true
 | .any,_=>true
 | .adr,.pointer (some ⟨_,_,none⟩)=>true
 | _,_=>false
def a5z:List Sc->List Value->Bool
 | [],[]=>true
 | s :: r,v :: vs=>match s.fit v with|true=>a5z r vs|false=>false
 | _,_=>false
theorem Sc.aFt{s:Sc}{v K}(h:s.fit v=true)(hk:K v):s.ex K:=by
 cases s
 case adr =>
  cases v
  case pointer p =>
   rcases p with _|⟨b,o,s⟩
   .simp only [Sc.fit] at h;cases h
   .cases s with
    | none=>exact ⟨_,_,hk⟩
    | some s=>simp only [Sc.fit] at h;cases h
  all_goals simp only [Sc.fit] at h;cases h
 all_goals cases v<;>simp only [Sc.fit] at h<;>first
  | (cases h;done)
  | exact ⟨_,hk⟩
  | exact ⟨_,_,_,hk⟩
  | (have:=fV h;subst this;exact ⟨_,hk⟩)
  | (rename_i f _ _;cases f<;>simp only [Sc.fit] at h<;>first|(cases h;done)|exact ⟨_,_,_,hk⟩)
theorem aAZ:∀ {l:List Sc} {vs:List Value} {K:List Value->Prop},a5z l vs=true->K vs->exL l K
 | [],[],_,_,hk=>hk
 | s :: r,v :: vs,_,h,hk=>by
  unfold a5z at h;split at h
  .rename_i hs;exact Sc.aFt hs (aAZ h hk)
  .cases h
 | [],_ :: _,_,h,_=>by cases h
 | _ :: _,[],_,h,_=>by cases h
def loadT(P:Program)(t:TypeId)(L:List Tr)(k off:Nat)(K:Value->Prop):Prop :=
 match bU k L,P.underlying t,P.info? t with
 | some T,some d,some i =>
  match WO d,i.zero.map Sh.of with
  | true,some (.agg l)=>match Nat.beq l.length i.size&&a5z l ((T.cs.drop off).take i.size) with
   | true=>K (.agg ((T.cs.drop off).take i.size).toArray)
   | false=>False
  | false,some (.one s)=>match T.cs[off]? with
   | some v=>match s with
    | .fn=>∃ (f:FuncId) (a c:Array Value),v=.func (.func f) a c/\K (.func (.func f) a c)
    | s=>match s.fit v with
     | true=>K v
     | false=>False
   | none=>False
  | _,_=>False
 | _,_,_=>False
def a3s(P:Program)(t:TypeId)(k off f:Nat)(K:SV->Prop):Prop :=
 match P.underlying t with
 | some (.struct fs) =>
  match fs[f]? with
  | some fd =>
   match P.info? fd.type with
   | some i=>match Nat.beq i.size 0 with
    | false=>K (.ptr k (off+fd.offset))
    | true=>False
   | none=>False
  | none=>False
 | _=>False
def a8s(P:Program)(t:TypeId)(k off:Nat)(i:Value)(K:SV->Prop):Prop :=
 match i,P.underlying t with
 | .int _ n,some (.array len e)=>match P.info? e with
  | some ie=>(0<=n/\n<len)/\K (.ptr k (idx off n.toNat ie.size))
  | none=>False
 | _,_=>False
def isLen(o:Oper):Bool:=match o.op with | .call c=>(match c.callee with | .builtin .len=>true|_=>false)|_=>false
def aJT(P:Program)(wr:Bool)(ex:Nat->Option TypeId)(o:Oper)(ρ:Operand->Value)(w:World)(K:Value->World->Prop):Prop :=
 match wr with
 | true=>aJM P ex o ρ w K
 | false=>aCi P ex o ρ w K
section
variable (P:Program)(W:World)
def cZ(wr:Bool)(o:Oper)(s:fO)(L:List Tr)(R:List Own)(Φ:PW)(K:SV->Prop):Option Prop :=
 match o.op with
 | .move x=>some (K (s.ev x))
 | .assign x=>some (K (s.ev x))
 | .nilCheck x=>match s.ev x with
  | .ptr k off=>some (K (.ptr k off))
  | .v _=>iZ P wr o (s.val L) W none λv=>K (.v v)
 | .fieldAddr t x f=>match s.ev x with
  | .ptr k off=>some (a3s P t k off f K)
  | .v _=>iZ P wr o (s.val L) W none λv=>K (.v v)
 | .indexAddr t x i=>match s.ev x with
  | .ptr k off=>some (a8s P t k off (s.val L i) K)
  | .v _=>iZ P wr o (s.val L) W none λv=>K (.v v)
 | .load t x=>match s.ev x with
  | .ptr k off=>some (loadT P t L k off λv=>K (.v v))
  | .v _=>some (∀ w F,Ctx W w (R++F) Φ->OH (iZ P wr o (s.val L) w none λv=>K (.v v)))
 | .lookup .. => some (∀ w F,Ctx W w (R++F) Φ->OH (iZ P wr o (s.val L) w none λv=>K (.v v)))
 | _=>match iJ P o (s.val L) λv=>K (.v v) with
  | false=>iZ P wr o (s.val L) W none λv=>K (.v v)
  | true=>match isLen o with
   | true=>some (∀ w F,Ctx W w (R++F) Φ->OH (iZ P wr o (s.val L) w none λv=>K (.v v)))
   | false=>none
def storeT(wr:Bool)(t:TypeId)(L:List Tr)(k off:Nat)(v:Value)(K:List Tr->Prop):Prop :=
 match bU k L,P.info? t with
 | some T,some i =>
  match wr with
  | true=>match P.underlying t with
   | some d=>match WO d with
    | true=>match v with
     | .agg cs=>match Nat.beq cs.toList.length i.size&&Nat.ble (off+i.size) T.cs.length with
      | true=>a3i cs.toList/\K (DA k (mS T.cs off cs.toList) L)
      | false=>False
     | _=>False
    | false=>match Nat.beq i.size 1&&Nat.blt off T.cs.length with
     | true=>a3i [v]/\K (DA k (T.cs.set off v) L)
     | false=>False
   | none=>False
  | false=>match v with
   | .agg cs=>match Nat.beq cs.toList.length i.size&&cs.toList.all oY&&Nat.ble (off+i.size) T.cs.length with
    | true=>K (DA k (mS T.cs off cs.toList) L)
    | false=>False
   | v=>match Nat.beq i.size 1&&oY v&&Nat.blt off T.cs.length with
    | true=>K (DA k (T.cs.set off v) L)
    | false=>False
 | _,_=>False
def aJU(B7:Bool)(d:Option Tmp)(cs:List Value)(t:TypeId)(L:List Tr)(R:List Own)(Φ:PW)(K:SV->List Tr->List Own->PW->Prop):Prop :=
 match B7,d with
 | true,some d=>match bU d L with
  | none=>∀ b:Nat,K (.ptr d 0) (⟨d,b,0,cs,t⟩ :: L) R Φ
  | some _=>False
 | _,_=>∀ b:Nat,K (.v (.pointer (some ⟨b,0,none⟩))) L (.blk b cs t :: R) Φ
def XI(t:TypeId)(n:Nat)(parts:List (Nat × Value)):Option (List Value × TypeId) :=
 match P.underlying t with
 | some (.slice e) =>
  match P.info? e,zeroOf P e with
  | some i,some z =>
   match Nat.ble (n*i.size) 16777216&&Nat.beq i.size z.cells.toList.length with
   | true =>
    match FM (λj=>some (j*i.size,i.size)) (zF n z.cells.toList) parts with
    | some cells=>some (cells,e)
    | none=>none
   | false=>none
  | _,_=>none
 | _=>none
def aMI(t:TypeId)(l c:Value)(K:Nat->Nat->List Value->TypeId->Prop):Prop :=
 match P.underlying t,l,c with
 | some (.slice e),.int .i64 l,.int .i64 c =>
  match P.info? e,zeroOf P e with
  | some i,some z =>
   (0<=l/\l<=c/\i.bytes*c<=281474976710656/\c<=9223372036854775807) /\
    (match Nat.beq i.size 1&&oY z with
     | true=>K l.toNat c.toNat (List.replicate c.toNat z) e
     | false=>match Nat.beq i.size z.cells.toList.length && !(Nat.beq i.size 0) with
      | true=>K l.toNat c.toNat (zF c.toNat z.cells.toList) e
      | false=>False)
  | _,_=>False
 | _,_,_=>False
def opS(wr B7:Bool)(ex:Nat->Option TypeId)(o:Oper)(s:fO)(L:List Tr)(R:List Own)(Φ:PW)(K:SV->List Tr->List Own->PW->Prop):Prop :=
 match o.op with
 | .pick c x y=>match s.val L c with
  | .bool b=>Br b (K (s.ev x) L R Φ) (K (s.ev y) L R Φ)
  | _=>False
 | _=>match TV (s.fr L) o&&xG o with
  | true=>match cZ P W wr o s L R Φ λv=>K v L R Φ with
   | some p=>p
   | none=>match o.op with
    | .store t x y=>match s.ev x with
     | .ptr k off=>storeT P wr t L k off (s.val L y) λL=>K (.v undef) L R Φ
     | .v _=>∀ w F,Ctx W w (R++F) Φ->aJT P wr ex o (s.val L) w λv w'=>∃ R' aX,aB aX/\Ctx W w' (R'++F) aX/\K (.v v) L R' aX
    | .box t x=>aJU B7 o.dst (s.val L x).cells.toList t L R Φ K
    | .alloc t=>match zeroOf P t with
     | some z=>aJU B7 o.dst z.cells.toList t L R Φ K
     | none=>False
    | .buildSlice t n parts=>match XI P t n (parts.toList.map λp=>(p.1,s.val L p.2)) with
     | some (cells,e)=>∀ b:Nat,K (.v (.slice (some ⟨b,0,none⟩) n n)) L (.blk b cells e :: R) Φ
     | none=>False
    | .makeSlice t l c=>aMI P t (s.val L l) (s.val L c) λl c cells e=>∀ b:Nat,K (.v (.slice (some ⟨b,0,none⟩) l c)) L (.blk b cells e :: R) Φ
    | .makeMap _ none=>∀ b:Nat,K (.v (.map (some b))) L (.obj b (.map #[] 0) :: R) Φ
    | .build t parts=>JA P t (parts.toList.map λp=>(p.1,s.val L p.2)) λv=>K (.v v) L R Φ
    | _=>∀ w F,Ctx W w (R++F) Φ->aJT P wr ex o (s.val L) w λv w'=>∃ R' aX,aB aX/\Ctx W w' (R'++F) aX/\K (.v v) L R' aX
  | false=>False
end
end Go.Vc
end

section
namespace Go.Vc
variable {G:List Own}
variable {ds:List Deferred}
open Go.RowKit
theorem Ctx.perm{W w S S'}{Φ:PW}[aB Φ](c:Ctx W w S Φ)(h:S.Perm S'):Ctx W w S' Φ:=by
 have hd:(dom S).Perm (dom S'):=h.flatMap_right _;exact c.go ⟨kT.refl _ _,λb hb=>.inl (hd.mem_iff.2 hb)⟩ (λo ho=>c.own o (h.mem_iff.2 ho)) (hd.nodup_iff.1 c.nodup)
section
variable {P:Program}{W w:World}{L:List Tr}{R:List Own}{Φ:PW}
theorem jH.blk(c:jH G W w L R Φ){k T}(h:bU k L=some T):vT w T.b T.cs T.t :=
 c.own T.own (List.mem_append.2 (.inr (List.mem_append.2 (.inl (List.mem_map.2 ⟨T,(a5y h).2,rfl⟩)))))
theorem jH.new[aB Φ](c:jH G W w L R Φ){cs t}(d):jH G W (w.alloc (.cells cs t)) (⟨d,w.heap.size,0,cs.toList,t⟩ :: L) R Φ:=by
 have:=Ctx.new c (w':=w.alloc (.cells cs t)) rfl;exact this.perm (by simpa [Tr.own] using List.perm_middle.symm)
theorem jH.newR[aB Φ](c:jH G W w L R Φ){cs t}:jH G W (w.alloc (.cells cs t)) L (.blk w.heap.size cs.toList t :: R) Φ:=Ctx.new c rfl
theorem a5A{k cs T}:∀ {L:List Tr},bU k L=some T->∃ i,(L.map Tr.own)[i]? = some T.own/\(DA k cs L).map Tr.own=(L.map Tr.own).set i (.blk T.b cs T.t)
 | [],h=>by cases h
 | U :: r,h=>by
  unfold bU at h;unfold DA;cases hb:Nat.beq U.id k with
  | true =>
   rw [hb] at h;cases h;exact ⟨0,rfl,rfl⟩
  | false =>
   rw [hb] at h;obtain ⟨i,h1,h2⟩:=a5A (cs:=cs) h;exact ⟨i+1,by simpa using h1,by simp [h2]⟩
theorem jH.upd[aB Φ](c:jH G W w L R Φ){k T cs w'}(h:bU k L=some T)(hc:kT [T.b] w w')(hb:vT w' T.b cs T.t):jH G W w' (DA k cs L) R Φ:=by
 obtain ⟨i,h1,h2⟩:=a5A (cs:=cs) h;unfold jH at c ⊢;have hi:i<(L.map Tr.own).length:=(List.getElem?_eq_some_iff.1 h1).1;rw [h2,show R++((L.map Tr.own).set i (.blk T.b cs T.t)++G)=(R++(L.map Tr.own++G)).set (R.length+i) (.blk T.b cs T.t) by
  rw [List.set_append_right _ _ (by omega),List.set_append_left _ _ (by omega)];congr 3;omega]
 refine Ctx.upd c (o:=T.own) (by rw [List.getElem?_append_right (by omega)];rw [show R.length+i - R.length=i by omega,List.getElem?_append_left hi];exact h1) hc (by simp [Own.dom,Tr.own]) (by simp [Own.dom]) hb
theorem M7{wr o ρ K p}(W w:World)(h:iZ P wr o ρ W none K=some p)(hf:iJ P o ρ K=false)(hp:p):
  ∃ v,(∀ w',(execOp ρ o).run P w'=.ok (.value v) w')/\K v :=
 let ⟨v,h1,h2⟩:=AG h hp
 ⟨v,λw'=>h1 trivial w' λe=>(by rw [hf] at e;cases e),h2⟩
theorem M8{wr o ρ K}(h:OH (iZ P wr o ρ w none K)):∃ v,(∀ w',w'.heap=w.heap->(execOp ρ o).run P w'=.ok (.value v) w')/\K v:=by
 unfold OH at h;split at h
 .rename_i p hp;obtain ⟨v,h1,h2⟩:=wB hp h;exact ⟨v,h1 trivial,h2⟩
 .exact h.elim
theorem FT{t k off K T}(hT:bU k L=some T)(hb:vT w T.b T.cs T.t)(h:loadT P t L k off K):
  ∃ v,(∀ w',w'.heap=w.heap->(loadVar t ⟨T.b,off,none⟩).run P w'=.ok v w')/\K v:=by
 unfold loadT at h;rw [hT] at h;split at h
 .rename_i T' d i e hd hi;cases e;have key:D1 P t w none T.b off K:=by
   unfold D1;rw [hd,hi];simp only;split at h
   .rename_i l ha hz;split at h
    .rename_i hc;simp only [Bool.and_eq_true] at hc;simp only [ha,hz,hc.1];refine aAZ hc.2 ⟨hb.row λj hj=>?_,h⟩;simp only [List.length_take,List.length_drop] at hj;rw [List.getElem_take,List.getElem_drop,List.getElem?_eq_getElem]
    .exact h.elim
   .rename_i sc ha hz;split at h
    .rename_i v hv;split at h
     .obtain ⟨f,a,c,rfl,h⟩:=h;simp only [ha,hz];exact ⟨f,a,c,hb.D8 hv,h⟩
     .split at h
      .rename_i hf;simp only [ha,hz];exact Sc.aFt hf ⟨hb.D8 hv,h⟩
      .exact h.elim
    .exact h.elim
   .exact h.elim
  obtain ⟨v,h1,h2⟩:=u6 key;exact ⟨v,h1 trivial,h2⟩
 .exact h.elim
theorem wF{t k off f K T}(hT:bU k L=some T)(h:a3s P t k off f K):
  ∃ off',(∀ w,(Instr.fieldAt t (.pointer (some ⟨T.b,off,none⟩)) f).run P w=.ok (.pointer (some ⟨T.b,off',none⟩)) w)/\K (.ptr k off'):=by
 unfold a3s at h;split at h
 .rename_i fs ht;split at h
  .rename_i fd hf;split at h
   .rename_i i hi;split at h
    .rename_i hz;have hz:¬ i.size=0:=Nat.ne_of_beq_eq_false hz;refine ⟨_,λw=>?_,h⟩;simp [Instr.fieldAt,run_underlying ht,Result.andThen,hf,Instr.sureAddr,fieldPlace,run_sizeOf hi,hz,addr_add]
    .exact h.elim
   .exact h.elim
  .exact h.elim
 .exact h.elim
theorem DB{t k off i K T}(hT:bU k L=some T)(h:a8s P t k off i K):
  ∃ off',(∀ w,(Instr.indexAt t (.pointer (some ⟨T.b,off,none⟩)) i).run P w=.ok (.pointer (some ⟨T.b,off',none⟩)) w)/\K (.ptr k off'):=by
 unfold a8s at h;split at h
 .rename_i kk n len e ht;split at h
  .rename_i ie hi;obtain ⟨⟨h3,h4⟩,h⟩:=h;refine ⟨_,λw=>?_,h⟩;simp [Instr.indexAt,asIntOf,run_underlying ht,Result.andThen,h3,h4,run_sizeOf hi,addr_add,Instr.sureAddr,idx_eq]
  .exact h.elim
 .exact h.elim
theorem fA{L k off T}(h:bU k L=some T):(SV.ptr k off).val L=.pointer (some ⟨T.b,off,none⟩):=by simp [SV.val,h]
theorem U3{wr o s K p}(hwf:M6 L s)(c:jH G W w L R Φ)(h:cZ P W wr o s L R Φ K=some p)(hp:p):
  ∃ sv,(∀ k o,sv=SV.ptr k o->(bU k L).isSome=true)/\(∀ w',w'.heap=w.heap->(execOp (s.val L) o).run P w'=.ok (.value (sv.val L)) w')/\K sv:=by
 have K6:∀ {p:Prop},iJ P o (s.val L) (λv=>K (.v v))=false->iZ P wr o (s.val L) W none (λv=>K (.v v))=some p->p ->
   ∃ sv,(∀ k o,sv=SV.ptr k o->(bU k L).isSome=true)/\(∀ w',w'.heap=w.heap->(execOp (s.val L) o).run P w'=.ok (.value (sv.val L)) w')/\K sv:=by
  intro p hf hq hp;obtain ⟨v,h1,h2⟩:=M7 W w hq hf hp;exact ⟨.v v,λk o e=>(by cases e),λw' _=>h1 w',h2⟩
 have aNU:OH (iZ P wr o (s.val L) w none (λv=>K (.v v))) ->
   ∃ sv,(∀ k o,sv=SV.ptr k o->(bU k L).isSome=true)/\(∀ w',w'.heap=w.heap->(execOp (s.val L) o).run P w'=.ok (.value (sv.val L)) w')/\K sv:=by
  intro hq;obtain ⟨v,h1,h2⟩:=M8 hq;exact ⟨.v v,λk o e=>(by cases e),h1,h2⟩
 unfold cZ at h;split at h
 .rename_i x hop;cases h;exact ⟨s.ev x,λk o e=>hwf.ev e,λw' _=>by simp [execOp,hop,fO.val],hp⟩
 .rename_i x hop;cases h;exact ⟨s.ev x,λk o e=>hwf.ev e,λw' _=>by simp [execOp,hop,fO.val],hp⟩
 .rename_i x hop;split at h
  .rename_i k off hx;cases h;obtain ⟨T,hT⟩:=Option.isSome_iff_exists.1 (hwf.ev hx);refine ⟨.ptr k off,λk' o' e=>by cases e;rw [hT];rfl,λw' _=>?_,hp⟩;have hv:s.val L x=.pointer (some ⟨T.b,off,none⟩):=by rw [fO.val,hx,fA hT]
   simp [execOp,hop,hv,fA hT]
  .exact K6 (by simp [iJ,hop]) h hp
 .rename_i t x f hop;split at h
  .rename_i k off hx;cases h;obtain ⟨T,hT⟩:=Option.isSome_iff_exists.1 (hwf.ev hx);obtain ⟨off',h1,h2⟩:=wF hT hp;refine ⟨.ptr k off',λk' o' e=>by cases e;rw [hT];rfl,λw' _=>?_,h2⟩;have hv:s.val L x=.pointer (some ⟨T.b,off,none⟩):=by rw [fO.val,hx,fA hT]
   simp [execOp,hop,hv,fA hT,h1 w',Result.andThen]
  .exact K6 (by simp [iJ,hop]) h hp
 .rename_i t x i hop;split at h
  .rename_i k off hx;cases h;obtain ⟨T,hT⟩:=Option.isSome_iff_exists.1 (hwf.ev hx);obtain ⟨off',h1,h2⟩:=DB hT hp;refine ⟨.ptr k off',λk' o' e=>by cases e;rw [hT];rfl,λw' _=>?_,h2⟩;have hv:s.val L x=.pointer (some ⟨T.b,off,none⟩):=by rw [fO.val,hx,fA hT]
   simp [execOp,hop,hv,fA hT,h1 w',Result.andThen]
  .exact K6 (by simp [iJ,hop]) h hp
 .rename_i t x hop;split at h
  .rename_i k off hx;cases h;obtain ⟨T,hT⟩:=Option.isSome_iff_exists.1 (hwf.ev hx);obtain ⟨v,h1,h2⟩:=FT hT (c.blk hT) hp;refine ⟨.v v,λk o e=>(by cases e),λw' hw=>?_,h2⟩;have hv:s.val L x=.pointer (some ⟨T.b,off,none⟩):=by rw [fO.val,hx,fA hT]
   simp [execOp,hop,hv,Instr.loadAt,Instr.sureAddr,h1 w' hw,Result.andThen,SV.val]
  .cases h;exact aNU (hp w _ c)
 .cases h;exact aNU (hp w _ c)
 .split at h
  .rename_i hf;exact K6 hf h hp
  .split at h
   .cases h;exact aNU (hp w _ c)
   .cases h
theorem a1J{K K'}(hK:∀ v w,K v w->K' v w):∀ {r},BC P K r->BC P K' r:=by
 intro r hr;cases r with
 | ok n w' =>
  cases n<;>simp only [BC] at hr ⊢ <;> try exact hr
  .exact hK _ _ hr
  .exact hK _ _ hr
  .exact hr.mono λe w'' ⟨v,he,hk⟩=>⟨v,he,hK _ _ hk⟩
 | halt x w'=>exact hr
theorem a5B{t i b off cs ty vs}(hi:P.info? t=some i)(hb:vT w b cs ty)(hn:vs.length=i.size)(h1:∀ v∈vs,oY v=true)(hl:off+i.size<=cs.length):
  (storeVar t ⟨b,off,none⟩ (.agg vs.toArray)).run P w=.ok () (w.setCells b off vs):=by
 have hcan:=hb.can (o:=off) (n:=vs.length) (by omega);have hr:=qW (P:=P) (b:=b) (o:=off) vs 0 w h1 (λj hj=>by rw [Nat.zero_add];exact hcan j hj);unfold storeVar;simp only [Value.cells,Sem.run_bind,run_sizeOf hi,Result.andThen,List.size_toArray,hn,ne_eq,not_true_eq_false,if_false];simpa using hr
theorem a3t[aB Φ]{wr t k off v K T}(hT:bU k L=some T)(c:jH G W w L R Φ)(h:storeT P wr t L k off v K):
  ∃ w' L',(storeVar t ⟨T.b,off,none⟩ v).run P w=.ok () w'/\K L'/\Ext L L'/\jH G W w' L' R Φ:=by
 have hb:=c.blk hT;unfold storeT at h;rw [hT] at h;split at h
 case h_2=>exact h.elim
 rename_i T' i e hi;cases e;have agg:∀ {cs:Array Value},cs.toList.length=i.size->(∀ v∈cs.toList,oY v=true)->off+i.size<=T.cs.length->K (DA k (mS T.cs off cs.toList) L) ->
   ∃ w' L',(storeVar t ⟨T.b,off,none⟩ (.agg cs)).run P w=.ok () w'/\K L'/\Ext L L'/\jH G W w' L' R Φ:=by
  intro cs h1 h2 h3 h4;have hr:=a5B (P:=P) hi hb h1 h2 h3;rw [Array.toArray_toList] at hr;exact ⟨_,_,hr,h4,Ext.DA hT,c.upd hT ((kT.refl _ _).setCells (by simp) _ _) (hb.sets _ _)⟩
 have one:∀ {v:Value},i.size=1->oY v=true->off<T.cs.length->K (DA k (T.cs.set off v) L) ->
   ∃ w' L',(storeVar t ⟨T.b,off,none⟩ v).run P w=.ok () w'/\K L'/\Ext L L'/\jH G W w' L' R Φ:=by
  intro v h1 h2 h3 h4;obtain ⟨g1,g2⟩:=hb.can (o:=off) (n:=1) (by omega) 0 (by omega);exact ⟨_,_,sR hi h1 h2 g1 g2,h4,Ext.DA hT,c.upd hT ((kT.refl _ _).setCell (by simp) _) (hb.set _ _)⟩
 split at h
 .split at h
  .split at h
   .split at h
    .split at h
     .rename_i hc;simp only [Bool.and_eq_true] at hc;exact agg (Nat.eq_of_beq_eq_true hc.1) h.1 (Nat.le_of_ble_eq_true hc.2) h.2
     .exact h.elim
    .exact h.elim
   .split at h
    .rename_i hc;simp only [Bool.and_eq_true] at hc;exact one (Nat.eq_of_beq_eq_true hc.1) (h.1 _ (by simp)) (by have h2:=hc.2;rwa [Nat.blt_eq] at h2) h.2
    .exact h.elim
  .exact h.elim
 .split at h
  .split at h
   .rename_i hc;simp only [Bool.and_eq_true] at hc;exact agg (Nat.eq_of_beq_eq_true hc.1.1) (λv hv=>List.all_eq_true.1 hc.1.2 v hv) (Nat.le_of_ble_eq_true hc.2) h
   .exact h.elim
  .split at h
   .rename_i hc;simp only [Bool.and_eq_true] at hc;exact one (Nat.eq_of_beq_eq_true hc.1.1) hc.1.2 (by have h2:=hc.2;rwa [Nat.blt_eq] at h2) h
   .exact h.elim
theorem sW[aB Φ]{wr B7 ex o s a K K'}(h:opS P W wr B7 ex o s L R Φ K)(hs:vC ds (s.fr L) a)(hwf:M6 L s)(c:jH G W w L R Φ)(hK:∀ sv L' R' aX v' w',K sv L' R' aX->aB aX->Ext L L'->(∀ k o,sv=SV.ptr k o->(bU k L').isSome=true)->jH G W w' L' R' aX->(vZ (sv.val L')=false->v'=sv.val L')->K' v' w'):
  BC P K' ((execOp a.eval o).run P w):=by
 unfold opS at h;split at h
 .rename_i cc x y hop;split at h
  .rename_i b hc;have hev:=uB s L;have JB:a.eval cc=.bool b:=by rw [hs.eval (by rw [hev,hc];rfl),hev,hc]
   cases b with
   | true =>
    simp only [Br] at h;simp only [execOp,hop,JB,asBool,Sem.run_bind,Sem.run_pure,Result.andThen,if_true,BC];exact hK _ _ _ _ _ _ h aR (Ext.refl _) (λk o e=>hwf.ev e) c λhu=>by rw [hs.eval (by rw [hev];exact hu),hev];rfl
   | false =>
    simp only [Br] at h;simp only [execOp,hop,JB,asBool,Sem.run_bind,Sem.run_pure,Result.andThen,BC,Bool.false_eq_true,if_false];exact hK _ _ _ _ _ _ h aR (Ext.refl _) (λk o e=>hwf.ev e) c λhu=>by rw [hs.eval (by rw [hev];exact hu),hev];rfl
  .exact h.elim
 .split at h
  case h_2=>exact h.elim
  rename_i ho;simp only [Bool.and_eq_true] at ho;rw [xH hs ho.1 ho.2,show (s.fr L).eval=s.val L from funext (uB s L)];split at h
  .rename_i p hp;obtain ⟨sv,h1,h2,h3⟩:=U3 hwf c hp h;rw [h2 w rfl];exact hK _ _ _ _ _ _ h3 aR (Ext.refl _) h1 c λ_=>rfl
  .have gen:(∀ w F,Ctx W w (R++F) Φ->aJT P wr ex o (s.val L) w λv w'=>∃ R' aX,aB aX/\Ctx W w' (R'++F) aX/\K (.v v) L R' aX)->BC P K' ((execOp (s.val L) o).run P w):=by
    intro h;have h:=h w _ c;have mono:∀ v w',(∃ R' aX,aB aX/\Ctx W w' (R'++(L.map Tr.own++G)) aX/\K (.v v) L R' aX)->K' v w':=by
     rintro v w' ⟨R',aX,h1,h2,h3⟩;exact hK _ _ _ _ _ _ h3 h1 (Ext.refl _) (λk o e=>by cases e) h2 λ_=>rfl
    unfold aJT at h;cases wr with
    | true=>exact a1J mono (WZ h)
    | false=>exact a1J mono (D3 h)
   have new:∀ {cs:Array Value} {t:TypeId},aJU B7 o.dst cs.toList t L R Φ K->K' (.pointer (some ⟨w.heap.size,0,none⟩)) (w.alloc (.cells cs t)):=by
    intro cs t h;unfold aJU at h;split at h
    .rename_i d hd _;split at h
     .rename_i hn;refine hK _ _ _ _ _ _ (h w.heap.size) aR (Ext.new (T:=⟨d,w.heap.size,0,cs.toList,t⟩) hn) (λk o e=>?_) (c.new d) λ_=>?_
      .cases e;simp [bU]
      .simp [SV.val,bU]
     .exact h.elim
    .exact hK _ _ _ _ _ _ (h w.heap.size) aR (Ext.refl _) (λk o e=>by cases e) c.newR λ_=>rfl
   split at h
   .rename_i t x y hop;split at h
    .rename_i k off hx;obtain ⟨T,hT⟩:=Option.isSome_iff_exists.1 (hwf.ev hx);obtain ⟨w',L',h1,h2,h3,h4⟩:=a3t hT c h;have hv:s.val L x=.pointer (some ⟨T.b,off,none⟩):=by rw [fO.val,hx,fA hT]
     simp only [execOp,hop,hv,Instr.storeAt,Instr.sureAddr,Sem.run_bind,Sem.run_pure,Result.andThen,h1];exact hK _ _ _ _ _ _ h2 aR h3 (λk o e=>by cases e) h4 λ_=>rfl
    .exact gen h
   .rename_i t x hop;simp only [execOp,hop,Instr.box,newVar,newRow,newObj,Sem.run_bind,Sem.run,Sem.run_pure,Result.andThen];exact new h
   .rename_i t hop;split at h
    .rename_i z hz;simp only [execOp,hop,Instr.alloc,newVar,newRow,newObj,Sem.run_bind,BB hz,Sem.run,Sem.run_pure,Result.andThen];exact new h
    .exact h.elim
   .rename_i t n parts hop;split at h
    .rename_i cells e hsc;have key:qX P t n (parts.toList.map λp=>(p.1,s.val L p.2)) w λv w'=>v=.slice (some ⟨w.heap.size,0,none⟩) n n/\w'=w.alloc (.cells cells.toArray e):=by
      unfold XI at hsc;unfold qX;split at hsc
      .rename_i e' ht;split at hsc
       .rename_i i z hi hz;split at hsc
        .rename_i hc;split at hsc
         .rename_i cells' hf;cases hsc;simp only [ht,hi,hz,hc,hf];exact λw' hw'=>⟨by simp,hw'⟩
         .cases hsc
        .cases hsc
       .cases hsc
      .cases hsc
     rw [show (parts.toList.map λp=>(p.1,s.val L p.2))=(parts.map λ(i,x)=>(i,s.val L x)).toList by simp] at key;obtain ⟨v,w',h1,rfl,rfl⟩:=xF key;simp only [execOp,hop,Sem.run_bind,h1,Sem.run_pure,Result.andThen];exact hK _ _ _ _ _ _ (h w.heap.size) aR (Ext.refl _) (λk o e=>by cases e) (by have:=c.newR (cs:=cells.toArray) (t:=e);simpa using this) λ_=>rfl
    .exact h.elim
   .rename_i t l cc hop;have key:uI P t (s.val L l) (s.val L cc) w λv w'=>∃ n m cells e,v=.slice (some ⟨w.heap.size,0,none⟩) n m/\w'=w.alloc (.cells (List.toArray cells) e)/\∀ b:Nat,K (.v (.slice (some ⟨b,0,none⟩) n m)) L (.blk b cells e :: R) Φ:=by
     unfold aMI at h;unfold uI;split at h
     .rename_i e l' c' ht e1 e2;rw [ht,e1,e2];simp only;split at h
      .rename_i i z hi hz;rw [hi,hz];obtain ⟨h1,h2⟩:=h;refine ⟨h1,?_⟩;split at h2
       .rename_i hc;simp only [Bool.and_eq_true,Nat.beq_eq] at hc;rw [if_pos hc];exact λw' hw'=>⟨_,_,_,_,rfl,hw',h2⟩
       .rename_i hn;split at h2
        .rename_i hc;simp only [Bool.and_eq_true,Nat.beq_eq,Bool.not_eq_true'] at hc;rw [if_neg (by rintro ⟨q1,q2⟩;simp [q1,q2] at hn),if_pos ⟨hc.1,Nat.ne_of_beq_eq_false hc.2⟩];exact λw' hw'=>⟨_,_,_,_,rfl,hw',h2⟩
        .exact h2.elim
      .exact h.elim
     .exact h.elim
    obtain ⟨v,w',h1,n,m,cells,e,rfl,rfl,h2⟩:=zG key;simp only [execOp,hop,Sem.run_bind,h1,Sem.run_pure,Result.andThen];exact hK _ _ _ _ _ _ (h2 w.heap.size) aR (Ext.refl _) (λk o e=>by cases e) (by have:=c.newR (cs:=cells.toArray) (t:=e);simpa using this) λ_=>rfl
   .rename_i t hop;simp only [execOp,hop,Option.map_none,Instr.makeMap,newObj,Sem.run_bind,Sem.run,Sem.run_pure,Result.andThen];exact hK _ _ _ _ _ _ (h w.heap.size) aR (Ext.refl _) (λk o e=>by cases e) (Ctx.newObj c rfl) λ_=>rfl
   .rename_i t parts hop;rw [show (parts.toList.map λp=>(p.1,s.val L p.2))=(parts.map λ(i,x)=>(i,s.val L x)).toList by simp] at h;obtain ⟨v,h1,h2⟩:=KW (w:=w) h;simp only [execOp,hop,Sem.run_bind,h1,Sem.run_pure,Result.andThen];exact hK _ _ _ _ _ _ h2 aR (Ext.refl _) (λk o e=>by cases e) c λ_=>rfl
   .exact gen h
end
end Go.Vc
end

