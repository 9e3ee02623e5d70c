/-
 THE CONDITIONS OF A WALK OVER WHAT IT OWNS: a function's body.
-/
import Derived.Test.YtfccagphnfceiaaGreatDoorCRf3
import Derived.Test.YtfccagphnfceiaaGreatDoorRows
import Derived.WalkKit

set_option linter.unusedVariables false
set_option linter.unusedSimpArgs false
section
namespace Go.Vc
variable {G:List Own}
variable {ds:List Deferred}
open Go.RowKit
structure HS where
 /-- slots whose sums may wrap;calls of function values;0: stores of values of any kind -/
 wrap:List Nat:=[]
 /-- slots whose new blocks are known cell by cell -/
 bW:List Nat:=[]
 /-- regions with guards that are walked in the text's order -/
 split:List Nat:=[]
 /-- regions whose calls may draw -/
 XN:List Nat:=[]
 /-- slots that are read outside the region that writes them -/
 keep:Option (List Nat):=none
 /-- regions whose order is drawn,and that write or call: their stages -/
 cF:List (Nat × List Sg):=[]
 /-- of each loop the slots and the blocks that its rounds write -/
 loops:List (Nat × gO × gO):=[]
 QW:List (Nat × gO × gO):=[]
def a6H (k:Nat):List (Nat × List Sg)->Option (List Sg)
 | []=>none
 | (t,l) :: r=>match Nat.beq t k with|true=>some l|false=>a6H k r
def a6I (k:Nat):List (Nat × gO × gO)->Option (gO × gO)
 | []=>none
 | (t,l) :: r=>match Nat.beq t k with|true=>some l|false=>a6I k r
def xU (asg:List Nat) (l:gO) (vs:List Value) (s:dU):dU:=⟨s.n,cons l vs (drop s.l)⟩
where
 cons:gO->List Value->List (Nat × SV)->List (Nat × SV)
  | (t,_) :: r,v :: vs,s=>(t,.v v) :: cons r vs s
  | _,_,s=>s
 drop:List (Nat × SV)->List (Nat × SV)
  | []=>[]
  | (t,x) :: r=>match dY t asg with|true=>drop r|false=>(t,x) :: drop r
def BA (k:Option (List Nat)) (s:dU):dU:=match k with|none=>s|some k=>⟨s.n,go k s.l⟩
where go (k:List Nat):List (Nat × SV)->List (Nat × SV)
 | []=>[]
 | (t,x) :: r=>match dY t k with|true=>(t,x) :: go k r|false=>go k r
def aFr (ts:gO) (L:List Tr):Bool:=match ts with
 | []=>true
 | (k,sh) :: r=>match bL k L,sh with|some _,.agg _=>aFr r L|_,_=>false
abbrev aNT (l:gO):Type:=B3 (List Own->PW->Nat->Prop) l
abbrev aYj (l:gO):Type:=B3 (List Own->PW->Prop) l
def CN (x:Option (List Own->PW->Nat->Prop)) (R:List Own) (Φ:PW) (n:Nat):Prop:=match x with|some I=>I R Φ n|none=>False
def a4I (x:Option (List Own->PW->Prop)) (R:List Own) (Φ:PW):Prop:=match x with|some I=>I R Φ|none=>False
def a6J:List Nat->List Nat->Bool
 | [],[]=>true
 | a :: l,b :: m=>Nat.beq a b&&a6J l m
 | _,_=>false
theorem a2c:∀ {l m:List Nat},a6J l m=true->l=m
 | [],[],_=>rfl
 | a :: l,b :: m,h=>by
  simp only [a6J,Bool.and_eq_true] at h
  rw [Nat.eq_of_beq_eq_true h.1,a2c h.2]
 | [],_ :: _,h=>by cases h
 | _ :: _,[],h=>by cases h
def PT:gO->List Value->dU->dU
 | (t,_) :: r,v :: vs,s=>PT r vs (s.put (some t) (.v v))
 | _,_,s=>s
abbrev aNU (l:gO):Type:=B3 (Nat->Prop) l
def a4J (x:Option (Nat->Prop)) (k:Nat):Prop:=match x with|some I=>I k|none=>False
def aNV (l:gO) (A:aNU l) (xs:Nat->List Value) (N:Nat):Prop:=∀ k,k<N->a4J (B3.app l A (xs k)) k
section
variable (P:Program) (W:World)
def a6K (H:HS) (ops:Array Oper) (st:List Sg) (s:dU) (L:List Tr) (R:List Own) (Φ:PW) (K:dU->List Tr->List Own->PW->Prop):Prop :=
 JM P W (λt=>dY t H.wrap) (λt=>dY t H.bW) ops st s L R Φ λs=>K (BA H.keep s)
def O4 (H:HS) (d:Bool) (ops:Array Oper) (s:dU) (L:List Tr) (R:List Own) (Φ:PW) (K:dU->List Tr->List Own->PW->Prop):Prop :=
 ∀ w F,Ctx W w (R++F) Φ->qsS P (λt=>dY t H.wrap) d ops L w ops.toList [] s λs=>K (BA H.keep s) L R Φ
def a6L (H:HS) (id:Nat) (ops:Array Oper) (draw:Bool) (s:dU) (L:List Tr) (R:List Own) (Φ:PW) (K:dU->List Tr->List Own->PW->Prop):Prop :=
 match draw with
 | true=>match a6H id H.cF with
  | some st=>match P.follows .mixedOrders&&Region.noSelect ops&&JL ops st (Array.replicate ops.size false)&&Nat.beq (IU st) ops.size with
   | true=>a6K P W H ops st s L R Φ K
   | false=>False
  | none=>match aAC P ops with
   | true=>O4 P W H true ops s L R Φ K
   | false=>False
 | false=>match guarded ops.toList && !(dY id H.split) with
  | true=>O4 P W H (dY id H.XN) ops s L R Φ K
  | false=>aAI P W (λt=>dY t H.wrap) (λt=>dY t H.bW) ops ops.toList s L R Φ λs=>K (BA H.keep s)
def Y0 (H:HS):Code->(Exit->dU->List Tr->List Own->PW->Prop)->dU->List Tr->List Own->PW->Prop
 | .skip,Q,s,L,R,Φ=>Q .normal s L R Φ
 | .region id ops draw,Q,s,L,R,Φ=>a6L P W H id ops draw s L R Φ (Q .normal)
 | .seq x y,Q,s,L,R,Φ =>
  match a6I (B4 y) H.QW with
  | none=>Y0 H x (λe s' L' R' aF=>match e with | .normal=>Y0 H y Q s' L' R' aF|e=>Q e s' L' R' aF) s L R Φ
  | some (l,ts) =>
   match a0u (asg x) l (s.fr L)&&aFr ts L with
   | true =>
    ∃ J:aYj (l++ts),Y0 H x (λe s' L' R' aF=>match e with
      | .normal=>match a1Z (asg x) (s.fr L) (s'.fr L')&&xR ts L' L with
       | true=>∃ R1 bH,aA bH/\(∀ w F,Ctx W w (R'++F) aF->Ctx W w (R1++F) bH)/\a4I (B3.app (l++ts) J (slotsOf l (s'.fr L')++cellsOf ts L')) R1 bH
       | false=>False
      | e=>Q e s' L' R' aF) s L R Φ /\
     l.all λvs=>ts.all λus=>∀ R' aF,aA aF->a4I (B3.app (l++ts) J (vs++us)) R' aF->Y0 H y Q (xU (asg x) l vs s) (jG ts us L) R' aF
   | false=>False
 | .cond c x y,Q,s,L,R,Φ=>match s.val L c with
  | .bool b=>Br b (Y0 H x Q s L R Φ) (Y0 H y Q s L R Φ)
  | _=>False
 | .block id b,Q,s,L,R,Φ=>Y0 H b (λe s' L' R' aF=>match e with | .exit n=>(match Nat.beq n id with|true=>Q .normal s' L' R' aF|false=>Q (.exit n) s' L' R' aF)|e=>Q e s' L' R' aF) s L R Φ
 | .loop b,Q,s,L,R,Φ =>
  match a6I (B4 b) H.loops with
  | none=>False
  | some (l,ts) =>
   match a0u (asg b) l (s.fr L)&&aFr ts L with
   | true =>
    ∃ I:aNT (l++ts),(∃ R1 bH n1,aA bH/\(∀ w F,Ctx W w (R++F) Φ->Ctx W w (R1++F) bH)/\CN (B3.app (l++ts) I (slotsOf l (s.fr L)++cellsOf ts L)) R1 bH n1) /\
     l.all λvs=>ts.all λus=>∀ R' aF n,aA aF->CN (B3.app (l++ts) I (vs++us)) R' aF n ->
      Y0 H b (λe s' L' R'' aAR=>match e with
       | .normal=>match a1Z (asg b) (s.fr L) (s'.fr L')&&xR ts L' L with
        | true=>∃ R1 bH n1,aA bH/\(∀ w F,Ctx W w (R''++F) aAR->Ctx W w (R1++F) bH)/\CN (B3.app (l++ts) I (slotsOf l (s'.fr L')++cellsOf ts L')) R1 bH n1/\n1<n
        | false=>False
       | e=>Q e s' L' R'' aAR) (xU (asg b) l vs s) (jG ts us L) R' aF
   | false=>False
 | .exit id,Q,s,L,R,Φ=>Q (.exit id) s L R Φ
 | .label _,Q,s,L,R,Φ=>Q .normal s L R Φ
 | .scope b,Q,s,L,R,Φ=>Y0 H b (λe s' L' R' aF=>match e with | .goto _=>False|e=>Q e s' L' R' aF) s L R Φ
 | .ret,Q,s,L,R,Φ=>Q .ret s L R Φ
 | .rangeFunc g ps x y,Q,s,L,R,Φ =>
  match s.val L g with
  | .func (.func gf) cs lb =>
   match a6I (B4 y) H.loops with
   | none=>False
   | some (l,ts) =>
    match a6J (l.map (·.1)) ps.toList&&mS x&&mS y&&aFr ts L with
    | true=>cs=#[]/\qT P gf=true/\∃ (N:Nat) (xs:Nat->List Value) (X:World->Prop) (A:aNU l) (I:aNT ts),Iter P gf lb N (λk=>(xs k).toArray) X/\aNV l A xs N /\
      (∃ R1 bH,aA bH/\(∀ w F,Ctx W w (R++F) Φ->Ctx W w (R1++F) bH)/\CN (B3.app ts I (cellsOf ts L)) R1 bH 0) /\
      ts.all λus=>∀ R' aF k,aA aF->CN (B3.app ts I us) R' aF k ->
       (∀ w F,Ctx W w (R'++F) aF->X w) /\
       (k<N->l.all λvs=>a4J (B3.app l A vs) k->Y0 H x (λe s1 L1 R1 bH=>match e with
         | .normal=>Y0 H y (λe s2 L2 R2 pI=>match e with
           | .normal=>match xR ts L2 L with
            | true=>∃ R3 Φ3,aA Φ3/\(∀ w F,Ctx W w (R2++F) pI->Ctx W w (R3++F) Φ3)/\CN (B3.app ts I (cellsOf ts L2)) R3 Φ3 (k+1)
            | false=>False
           | _=>False) s1 L1 R1 bH
         | _=>False) (PT l vs s) (jG ts us L) R' aF) /\
       (k=N->Q .normal s (jG ts us L) R' aF)
    | false=>False
  | _=>False
 | _,_,_,_,_,_=>False
def a0E (s:dU) (L:List Tr) (R:List Own) (Φ:PW):List ResultVar->(List Value->Prop)->Prop
 | [],K=>K []
 | .tmp t :: r,K=>match AE ((QX t s.l).val L) with
  | true=>False
  | false=>a0E s L R Φ r λvs=>K ((QX t s.l).val L :: vs)
 | .cell a t :: r,K=>match QX a s.l with
  | .ptr k off=>loadT P t L k off λv=>a0E s L R Φ r λvs=>K (v :: vs)
  | .v (.pointer (some ⟨b,o,none⟩))=>∀ w F,Ctx W w (R++F) Φ->GO P t w none b o λv=>a0E s L R Φ r λvs=>K (v :: vs)
  | .v _=>False
def aNX (fn:Func) (J:Value->World->Prop):Exit->dU->List Tr->List Own->PW->Prop
 | .normal,s,L,R,Φ | .ret,s,L,R,Φ=>a0E P W s L R Φ fn.results.toList λvs=>∀ w F,Ctx W w (R++F) Φ->J (AB vs) w
 | _,_,_,_,_=>False
def a2d:Nat->List Value->List (Nat × SV)
 | _,[]=>[]
 | i,v :: r=>(i,.v v) :: a2d (i+1) r
def aW (H:HS) (f:FuncId) (args:Array Value) (R:List Own) (Φ:PW) (J:Value->World->Prop):Prop :=
 match P.funcs[f]? with
 | some fn=>match fn.body with
  | some c=>Y0 P W H c (aNX P W fn J) ⟨max fn.ntmps args.size,a2d 0 args.toList⟩ [] R Φ
  | none=>False
 | none=>False
end
theorem a2e (k:Option (List Nat)) (s:dU) (L:List Tr):(BA k s).fr L=(s.fr L).keep k:=by
 cases k with
 | none=>rfl
 | some k =>
  have key:∀ l:List (Nat × SV),tO L (BA.go k l)=mR (λt=>dY t k) (tO L l):=by
   intro l
   induction l with
   | nil=>rfl
   | cons p r ih =>
    obtain ⟨t,v⟩:=p
    simp only [BA.go,tO,mR]
    cases dY t k with
    | true=>simp only [tO,ih]
    | false=>exact ih
  simp only [BA,Fr.keep,dU.fr,key]
theorem aAS {k:Option (List Nat)} {s:dU} {L:List Tr} (h:JH L s):JH L (BA k s):=by
 cases k with
 | none=>exact h
 | some k =>
  have key:∀ l:List (Nat × SV),∀ p∈BA.go k l,p∈l:=by
   intro l
   induction l with
   | nil=>intro p hp;exact hp
   | cons q r ih =>
    obtain ⟨t,v⟩:=q
    intro p hp
    simp only [BA.go] at hp
    cases hb:dY t k with
    | true=>rw [hb] at hp;rcases List.mem_cons.1 hp with rfl|hp;simp;exact List.mem_cons_of_mem _ (ih p hp)
    | false=>rw [hb] at hp;exact List.mem_cons_of_mem _ (ih p hp)
  exact λp hp=>h p (key _ p hp)
theorem At.keep {W:World} {s:dU} {L:List Tr} {R:List Own} {Φ:PW} {a:Act} {w:World} (h:At ds G W s L R Φ a w) (k:Option (List Nat)):At ds G W (BA k s) L R Φ a w :=
 ⟨by rw [a2e];exact aAB h.B5 k,aAS h.wf,h.ids,h.ctx,h.st⟩
theorem M5 {asg:List Nat} {l:gO} {vs:List Value} {s:dU} {L L1:List Tr} (hwf:JH L s) (hb:∀ k T,bL k L=some T->∃ T',bL k L1=some T'/\T'.b=T.b):(xU asg l vs s).fr L1=meet asg l vs (s.fr L):=by
 have key:∀ r:List (Nat × SV),(∀ p∈r,∀ k o,p.2=SV.ptr k o->(bL k L).isSome=true)->tO L1 (xU.drop asg r)=mR (λt => !dY t asg) (tO L r):=by
  intro r
  induction r with
  | nil=>intro _;rfl
  | cons p r ih =>
   obtain ⟨t,v⟩:=p
   intro h
   have ih:=ih λq hq=>h q (List.mem_cons_of_mem _ hq)
   simp only [xU.drop,tO,mR]
   cases dY t asg with
   | true=>exact ih
   | false =>
    simp only [tO,Bool.not_false,ih]
    congr 2
    cases v with
    | v x=>rfl
    | ptr k o =>
     obtain ⟨T,hT⟩:=Option.isSome_iff_exists.1 (h (t,.ptr k o) (by simp) k o rfl)
     obtain ⟨T',h1,h2⟩:=hb k T hT
     simp only [SV.val,hT,h1,h2]
 have aJR:∀ (l:gO) (vs:List Value) (r:List (Nat × SV)),tO L1 (xU.cons l vs r)=LJ l vs (tO L1 r):=by
  intro l
  induction l with
  | nil=>intro vs r;cases vs<;>rfl
  | cons p l ih =>
   obtain ⟨t,sh⟩:=p
   intro vs r
   cases vs with
   | nil=>rfl
   | cons v vs=>simp only [xU.cons,LJ,tO,ih,SV.val]
 simp only [dU.fr,xU,meet,JF,Fr.drop,aJR,key s.l hwf]
theorem a2f {asg:List Nat} {l:gO} {vs:List Value} {s:dU} {L L1:List Tr} (hwf:JH L s) (hb:∀ k T,bL k L=some T->∃ T',bL k L1=some T'/\T'.b=T.b):JH L1 (xU asg l vs s):=by
 have key:∀ r:List (Nat × SV),∀ p∈xU.drop asg r,p∈r:=by
  intro r
  induction r with
  | nil=>intro p hp;exact hp
  | cons q r ih =>
   obtain ⟨t,v⟩:=q
   intro p hp
   simp only [xU.drop] at hp
   cases hm:dY t asg with
   | true=>rw [hm] at hp;exact List.mem_cons_of_mem _ (ih p hp)
   | false=>rw [hm] at hp;rcases List.mem_cons.1 hp with rfl|hp;simp;exact List.mem_cons_of_mem _ (ih p hp)
 have aJR:∀ (l:gO) (vs:List Value) (r:List (Nat × SV)),∀ p∈xU.cons l vs r,p∈r\/∃ v,p.2=.v v:=by
  intro l
  induction l with
  | nil=>intro vs r p hp;cases vs<;>exact .inl hp
  | cons q l ih =>
   obtain ⟨t,sh⟩:=q
   intro vs r p hp
   cases vs with
   | nil=>exact .inl hp
   | cons v vs =>
    rcases List.mem_cons.1 hp with rfl|hp
    ·exact .inr ⟨v,rfl⟩
    ·exact ih vs r p hp
 intro p hp k o e
 rcases aJR _ _ _ p hp with h|⟨v,h⟩
 ·obtain ⟨T,hT⟩:=Option.isSome_iff_exists.1 (hwf p (key _ p h) k o e)
  obtain ⟨T',h1,_⟩:=hb k T hT
  rw [h1];rfl
 ·rw [h] at e;cases e
theorem qX {x:Option (List Own->PW->Nat->Prop)} {R:List Own} {Φ:PW} {n:Nat} (h:CN x R Φ n):∃ I,x=some I:=by
 cases x with
 | none=>exact h.elim
 | some I=>exact ⟨I,rfl⟩
theorem a2g {x:Option (List Own->PW->Prop)} {R:List Own} {Φ:PW} (h:a4I x R Φ):∃ I,x=some I:=by
 cases x with
 | none=>exact h.elim
 | some I=>exact ⟨I,rfl⟩
theorem all_append {ts:gO} {us:List Value} {ρ:Type} {x:ρ}:∀ {l:gO} {vs:List Value} (_:vs.length=l.length) {K:List Value->List Value->Prop} (_:l.all λvs=>ts.all λus=>K vs us) {f:B3 ρ (l++ts)} (_:B3.app (l++ts) f (vs++us)=some x),
  K vs us/\us.length=ts.length/\(∀ v∈vs,AE v=false)/\(∀ u∈us,AE u=false):=by
 intro l
 induction l with
 | nil =>
  intro vs hl K h f hx
  cases vs with
  | nil =>
   obtain ⟨h1,h2,h3⟩:=B3.qE hx h
   exact ⟨h1,h2,λv hv=>(by cases hv),h3⟩
  | cons v vs=>simp at hl
 | cons p r ih =>
  intro vs hl K h f hx
  obtain ⟨t,s⟩:=p
  cases vs with
  | nil=>simp at hl
  | cons v vs =>
   simp only [List.cons_append] at f hx
   unfold B3.app at hx
   split at hx
   ·rename_i g hg
    obtain ⟨h1,h2⟩:=Sh.qE hg h
    obtain ⟨h3,h4,h5,h6⟩:=ih (vs:=vs) (by simpa using hl) (K:=λvs us=>K (v :: vs) us) h1 hx
    refine ⟨h3,h4,λu hu=>?_,h6⟩
    rcases List.mem_cons.1 hu with rfl|hu
    ·exact h2
    ·exact h5 u hu
   ·cases hx
theorem uM (l:gO) (s:Fr):(slotsOf l s).length=l.length:=by simp [slotsOf]
theorem aAT {p:Nat->Prop} (h:∃ n,p n):∃ n,p n/\∀ m,p m->n<=m:=by
 obtain ⟨n,hn⟩:=h
 induction n using Nat.strongRecOn with
 | _ n ih =>
  by_cases hx:∃ m,m<n/\p m
  ·obtain ⟨m,h1,h2⟩:=hx;exact ih m h1 h2
  ·exact ⟨n,hn,λm hm=>by
    rcases Nat.lt_or_ge m n with h'|h'
    ·exact absurd ⟨m,h',hm⟩ hx
    ·exact h'⟩
theorem B3.a6M {ρ:Type}:∀ {l:gO} {f:B3 ρ l} {vs:List Value} {x:ρ},B3.app l f vs=some x->vs.length=l.length
 | [],_,[],_,_=>rfl
 | (t,s) :: r,f,v :: vs,x,h=>by
  unfold B3.app at h
  split at h
  ·simp [B3.a6M h]
  ·cases h
 | [],_,_ :: _,_,h=>by cases h
 | _ :: _,_,[],_,h=>by cases h
theorem aAU {P:Program} {f:FuncId} (h:qT P f=true) (args:Array Value) (w:World):(callFunc f args).run P w=.ok (.enter f args) w:=by
 unfold qT at h
 split at h
 ·rename_i fn hfn
  simp only [Bool.and_eq_true,Bool.not_eq_true'] at h
  have hb':fn.body.isNone=false:=by cases hh:fn.body<;>simp_all
  simp only [callFunc,program,Sem.run,hfn,h.2,hb',Bool.false_eq_true,if_false,Sem.run_bind,Sem.run_pure,Result.andThen]
 ·cases h
theorem Y1 {L:List Tr}:∀ {l:gO} {vs:List Value} {s:dU} {a:Act},QU ds (s.fr L) a->JH L s ->
  QU ds ((PT l vs s).fr L) { tmps:=((l.map (·.1)).zip vs).foldl (λt p=>t.setIfInBounds p.1 p.2) a.tmps,defers:=a.defers }/\JH L (PT l vs s)
 | (t,sh) :: r,v :: vs,s,a,h,hw=>by
  have h2:QU ds ((s.put (some t) (.v v)).fr L) (a.put (some t) v):=by rw [SU];exact h.put _ (λ_=>rfl)
  have:=Y1 (l:=r) (vs:=vs) h2 (hw.put λk o e=>(by cases e))
  simpa [PT,Act.put] using this
 | [],vs,s,a,h,hw=>by
  simp only [PT,List.map_nil,List.zip_nil_left,List.foldl_nil]
  exact ⟨h,hw⟩
 | _ :: _,[],s,a,h,hw=>by
  simp only [PT,List.zip_nil_right,List.foldl_nil]
  exact ⟨h,hw⟩
theorem a8j {P:Program} {W:World} {H:HS}:∀ (c:Code) {rd:Option Nat} {Q':Exit->dU->List Tr->List Own->PW->Prop} {Q:Exit->Act->World->Prop} {s:dU} {L:List Tr} {R:List Own} {Φ:PW} {a:Act} {w:World} {ds:List Deferred} {G:List Own},
  (rd.isSome=true->mS c=true)->Y0 P W H c Q' s L R Φ->At ds G W s L R Φ a w->(∀ e s' L' R' aF a' w' ds' G',Q' e s' L' R' aF->Tie rd ds G ds' G'->At ds' G' W s' L' R' aF a' w'->Ext L L'->dR (λt=>t∈asg c) (s.fr L) (s'.fr L')->Q e a' w')->c.wpIn (kG rd) 0 P Q a w:=by
 intro c
 induction c with
 | skip=>intro rd Q' Q s L R Φ a w ds G hrd h ha hQ;exact wpIn_skip (hQ _ _ _ _ _ _ _ _ _ h (Tie.refl _ _ _) ha (Ext.refl _) (dR.refl _ _))
 | region id ops draw =>
  intro rd Q' Q s L R Φ a w ds G hrd h ha hQ
  have hD:∀ o∈ops.toList,∀ t,o.dst=some t->t∈a4y ops.toList:=λo ho t ht=>List.mem_filterMap.2 ⟨o,ho,ht⟩
  have hD':∀ (j:Nat) (o:Oper) (t:Nat),ops[j]? = some o->o.dst=some t->t∈a4y ops.toList:=λj o t ho ht=>hD o (by simpa using Array.mem_of_getElem? ho) t ht
  have hQ':∀ s' L' R' aF a' w',Q' .normal (BA H.keep s') L' R' aF->At ds G W s' L' R' aF a' w'->Ext L L'->dR (λt=>t∈a4y ops.toList) (s.fr L) (s'.fr L')->Q .normal a' w':=by
   intro s' L' R' aF a' w' hk cD he hu
   exact hQ _ _ _ _ _ _ _ _ _ hk (Tie.refl _ _ _) (cD.keep _) he (by rw [a2e];exact a77 hu _)
  have quiet:∀ (d:Bool),(∀ w F,Ctx W w (R++F) Φ->qsS P (λt=>dY t H.wrap) d ops L w ops.toList [] s λs=>Q' .normal (BA H.keep s) L R Φ)->wpQuiet P ops (XL d w) (λa'=>∀ w',XL d w w'->Q .normal a' w') ops.toList a:=by
   intro d h
   refine O3 (D:=λt=>t∈a4y ops.toList) (s0:=s.fr L) ha.st ha.ids ha.ctx (λs' a' hk hs' hwf' jH w' hw'=>?_) _ _ _ _ hD (λe he=>(by cases he)) (h w _ ha.ctx) (Rel.start ha.B5) ha.wf (dR.refl _ _)
   have VX:jR G W w' L R Φ:=by
    have:=ha.st
    cases d with
    | false=>cases hw';exact ha.ctx
    | true=>obtain ⟨n,rfl⟩:=hw';exact Ctx.draw ha.ctx n
   exact hQ' s' L R Φ a' w' hk ⟨hs',hwf',ha.ids,VX,ha.st⟩ (Ext.refl _) jH
  simp only [Y0,a6L,a6K,O4] at h
  cases draw with
  | true =>
   simp only at h
   split at h
   ·rename_i st _
    split at h
    ·rename_i hc
     simp only [Bool.and_eq_true,Nat.beq_eq] at hc
     obtain ⟨⟨⟨h1,h2⟩,h3⟩,h4⟩:=hc
     have:=ha.st
     refine a6G (λhh=>hrd hh) h1 ?_
     have h7:=qL (Q:=PR Q) (L0:=L) (s0:=s.fr L) (D:=λt=>t∈a4y ops.toList) h2 hD' (λs' L' R' aF a' w' hk cD he hu=>hQ' s' L' R' aF a' w' hk cD he hu) st _ _ _ _ _ _ (w.drewN 1) h3 h ⟨ha.B5,ha.wf,ha.ids,Ctx.draw ha.ctx 1,ha.st⟩ (Ext.refl _) (dR.refl _ _)
     rw [h4] at h7
     exact h7
    ·exact h.elim
   ·split at h
    ·rename_i hc
     simp only [aAC,Bool.and_eq_true] at hc
     have h1:=quiet true h
     exact a8h (λhh=>hrd hh) hc.1 hc.2 (by
      have e:XL true w=λw'=>∃ n,w'=w.drewN n:=rfl
      rw [e] at h1
      exact h1)
    ·exact h.elim
  | false =>
   simp only at h
   split at h
   ·have h1:=quiet (dY id H.XN) h
    refine a2b (λhh=>hrd hh) ?_
    exact vI (Q:=PR Q) (C:=XL (dY id H.XN) w) (Qa:=λa'=>∀ w',XL (dY id H.XN) w w'->Q .normal a' w') (λa' w' hw' hq=>hq w' hw') _ _ _ (by cases dY id H.XN;rfl;exact ⟨0,rfl⟩) h1
   ·refine a2b (λhh=>hrd hh) ?_
    exact JN (Q:=PR Q) (D:=λt=>t∈a4y ops.toList) (s0:=s.fr L) (L0:=L) hD' (λs' L' R' aF a' w' hk cD he hu=>hQ' s' L' R' aF a' w' hk cD he hu) _ _ _ _ _ _ _ hD h ha (Ext.refl _) (dR.refl _ _)
 | seq x y ihx ihy =>
  intro rd Q' Q s L R Φ a w ds G hrd h ha hQ
  simp only [Y0] at h
  have hrx:rd.isSome=true->mS x=true/\mS y=true:=λhh=>by have:=hrd hh;simpa only [mS,Bool.and_eq_true] using this
  refine wpIn_seq ?_
  split at h
  ·refine ihx (λhh=>(hrx hh).1) h ha ?_
   intro e s' L' R' aF a' w' ds1 G1 hq htie cD he hu
   have jH:dR (λt=>t∈asg (.seq x y)) (s.fr L) (s'.fr L'):=hu.mono λi hi=>List.mem_append.2 (.inl hi)
   cases e with
   | normal =>
    simp only [Exit.then]
    refine ihy (λhh=>(hrx hh).2) hq cD λe s'' L'' R'' aAR a'' w'' ds2 G2 KR aAV T7 he' T8=>hQ _ _ _ _ _ _ _ _ _ KR (htie.trans aAV) T7 (he.trans he') ?_
    exact jH.trans (T8.mono λi hi=>List.mem_append.2 (.inr hi))
   | exit n=>exact hQ _ _ _ _ _ _ _ _ _ hq htie cD he jH
   | goto n=>exact hQ _ _ _ _ _ _ _ _ _ hq htie cD he jH
   | ret=>exact hQ _ _ _ _ _ _ _ _ _ hq htie cD he jH
   | panic n=>exact hQ _ _ _ _ _ _ _ _ _ hq htie cD he jH
   | outgrown=>exact hQ _ _ _ _ _ _ _ _ _ hq htie cD he jH
  ·rename_i l ts hl
   split at h
   ·rename_i hok
    simp only [Bool.and_eq_true] at hok
    obtain ⟨hv,hn⟩:=PI hok.1
    obtain ⟨J,h1,h2⟩:=h
    refine ihx (λhh=>(hrx hh).1) h1 ha ?_
    intro e s' L' R' aF a' w' ds1 G1 hq htie cD he hu
    have jH:dR (λt=>t∈asg (.seq x y)) (s.fr L) (s'.fr L'):=hu.mono λi hi=>List.mem_append.2 (.inl hi)
    cases e with
    | normal =>
     simp only [Exit.then]
     simp only at hq
     split at hq
     ·rename_i hsub
      simp only [Bool.and_eq_true] at hsub
      obtain ⟨R1,bH,wR,hw1,hj⟩:=hq
      obtain ⟨I,hI⟩:=a2g hj
      obtain ⟨h3,_,hk,_⟩:=all_append (uM l _) h2 hI
      have hme:=NY ts (cellsOf ts L') L
      have hb:∀ k T,bL k L=some T->∃ T',bL k (jG ts (cellsOf ts L') L)=some T'/\T'.b=T.b:=λk T hT=>by obtain ⟨T',q1,q2,_⟩:=hme.old k T hT;exact ⟨T',q1,q2⟩
      have aJS:=SO (s:=s.fr L) cD.B5 hu (λi=>AG hsub.1) rfl hk
      have ham:At ds1 G1 W (xU (asg x) l (slotsOf l (s'.fr L')) s) (jG ts (cellsOf ts L') L) R1 bH a' w' :=
       ⟨by rw [M5 ha.wf hb];exact aJS,a2f ha.wf hb,hme.ids ha.ids,hw1 w' _ (jR.meet cD.st cD.ctx he ha.ids hsub.2),wR⟩
      refine ihy (λhh=>(hrx hh).2) (h3 R1 bH wR hj) ham λe s'' L'' R'' aAR a'' w'' ds2 G2 KR aAV T7 he' T8=>hQ _ _ _ _ _ _ _ _ _ KR (htie.trans aAV) T7 (hme.trans he') ?_
      refine dR.trans (b:=(xU (asg x) l (slotsOf l (s'.fr L')) s).fr (jG ts (cellsOf ts L') L)) ?_ (T8.mono λi hi=>List.mem_append.2 (.inr hi))
      rw [M5 ha.wf hb]
      exact XM (λv hv'=>List.mem_append.2 (.inl (hv v hv').1))
     ·exact hq.elim
    | exit n=>exact hQ _ _ _ _ _ _ _ _ _ hq htie cD he jH
    | goto n=>exact hQ _ _ _ _ _ _ _ _ _ hq htie cD he jH
    | ret=>exact hQ _ _ _ _ _ _ _ _ _ hq htie cD he jH
    | panic n=>exact hQ _ _ _ _ _ _ _ _ _ hq htie cD he jH
    | outgrown=>exact hQ _ _ _ _ _ _ _ _ _ hq htie cD he jH
   ·exact h.elim
 | cond c x y ihx ihy =>
  intro rd Q' Q s L R Φ a w ds G hrd h ha hQ
  simp only [Y0] at h
  split at h
  ·rename_i b hb
   have hc:a.eval c=.bool b:=by rw [ha.B5.eval (by rw [uH,hb];rfl),uH,hb]
   cases b with
   | true=>exact wpIn_cond_true hc (ihx (λhh=>by have:=hrd hh;simp only [mS,Bool.and_eq_true] at this;exact this.1) h ha λe s' L' R' aF a' w' ds1 G1 hq htie cD he hu=>hQ _ _ _ _ _ _ _ _ _ hq htie cD he (hu.mono λi hi=>List.mem_append.2 (.inl hi)))
   | false=>exact wpIn_cond_false hc (ihy (λhh=>by have:=hrd hh;simp only [mS,Bool.and_eq_true] at this;exact this.2) h ha λe s' L' R' aF a' w' ds1 G1 hq htie cD he hu=>hQ _ _ _ _ _ _ _ _ _ hq htie cD he (hu.mono λi hi=>List.mem_append.2 (.inr hi)))
  ·exact h.elim
 | block id b ih =>
  intro rd Q' Q s L R Φ a w ds G hrd h ha hQ
  simp only [Y0] at h
  refine wpIn_block (ih (λhh=>hrd hh) h ha ?_)
  intro e s' L' R' aF a' w' ds1 G1 hq htie cD he hu
  cases e with
  | exit n =>
   simp only [Exit.inBlock]
   simp only at hq
   split at hq
   ·rename_i e;rw [if_pos (Nat.eq_of_beq_eq_true e)];exact hQ _ _ _ _ _ _ _ _ _ hq htie cD he hu
   ·rename_i e;rw [if_neg (Nat.ne_of_beq_eq_false e)];exact hQ _ _ _ _ _ _ _ _ _ hq htie cD he hu
  | normal=>exact hQ _ _ _ _ _ _ _ _ _ hq htie cD he hu
  | goto n=>exact hQ _ _ _ _ _ _ _ _ _ hq htie cD he hu
  | ret=>exact hQ _ _ _ _ _ _ _ _ _ hq htie cD he hu
  | panic n=>exact hQ _ _ _ _ _ _ _ _ _ hq htie cD he hu
  | outgrown=>exact hQ _ _ _ _ _ _ _ _ _ hq htie cD he hu
 | loop b ih =>
  intro rd Q' Q s L R Φ a w ds G hrd h ha hQ
  simp only [Y0] at h
  split at h
  ·exact h.elim
  ·rename_i l ts hl
   split at h
   ·rename_i hok
    simp only [Bool.and_eq_true] at hok
    obtain ⟨hv,hn⟩:=PI hok.1
    obtain ⟨I,⟨R0,bZ,n0,vJ,hw0,h0⟩,h1⟩:=h
    let Rel:=λ(n:Nat) (a':Act) (w':World)=>∃ ds1 G1 vs us R' aF,Tie rd ds G ds1 G1/\vs.length=l.length/\aA aF/\CN (B3.app (l++ts) I (vs++us)) R' aF n/\QU ds1 (meet (asg b) l vs (s.fr L)) a'/\jR G1 W w' (jG ts us L) R' aF
    have hst:=ha.st
    have start:Rel n0 a w:=by
     obtain ⟨I',hI'⟩:=qX h0
     obtain ⟨_,_,hk,_⟩:=all_append (uM l _) h1 hI'
     have hm:=SO (s:=s.fr L) ha.B5 (dR.refl _ _) (λi=>WI) rfl hk (asg:=asg b) (l:=l)
     refine ⟨_,_,_,_,R0,bZ,Tie.refl _ _ _,uM l _,vJ,h0,hm,?_⟩
     have hss:xR ts L L=true:=by
      have key:∀ M:List Tr,(∀ T∈M,T∈L)->xR ts L M=true:=by
       intro M
       induction M with
       | nil=>intro _;rfl
       | cons T r ihr =>
        intro hM
        unfold xR
        cases dY T.id (ts.map (·.1)) with
        | true=>exact ihr λU hU=>hM U (List.mem_cons_of_mem _ hU)
        | false =>
         rw [GU ha.ids (hM T (by simp))]
         simp only [show Nat.beq T.ver T.ver=true by simp]
         exact ihr λU hU=>hM U (List.mem_cons_of_mem _ hU)
      exact key L λ_ h=>h
     exact jR.meet vJ (hw0 w _ ha.ctx) (Ext.refl L) ha.ids hss
    let least:=λ(a':Act) (w':World) (n:Nat)=>Rel n a' w'/\∀ m,Rel m a' w'->n<=m
    let mu:=λ(a':Act) (w':World)=>@dite _ (∃ n,least a' w' n) (Classical.propDecidable _) (λhx=>Classical.choose hx) (λ_=>0)
    have hmu:∀ a' w' n,Rel n a' w'->∃ k,least a' w' k/\mu a' w'=k/\k<=n:=by
     intro a' w' n hn
     have hx:∃ k,least a' w' k:=aAT ⟨n,hn⟩
     refine ⟨Classical.choose hx,Classical.choose_spec hx,?_,(Classical.choose_spec hx).2 n hn⟩
     show @dite _ (∃ n,least a' w' n) (Classical.propDecidable _) (λhx=>Classical.choose hx) (λ_=>0)=_
     rw [dif_pos hx]
    refine wpIn_loop (λa' w'=>∃ n,Rel n a' w') mu ⟨n0,start⟩ ?_
    rintro a1 w1 ⟨n1,hn1⟩
    obtain ⟨n,⟨⟨ds1,G1,vs,us,R',aF,aN0,hlen,wR,hI,hs1,hc1⟩,_⟩,aYl,_⟩:=hmu a1 w1 n1 hn1
    rw [aYl]
    obtain ⟨I',hI'⟩:=qX hI
    obtain ⟨h2,hlu,hk,hku⟩:=all_append hlen h1 hI'
    have hme:=NY ts us L
    have hb:∀ k T,bL k L=some T->∃ T',bL k (jG ts us L)=some T'/\T'.b=T.b:=λk T hT=>by obtain ⟨T',q1,q2,_⟩:=hme.old k T hT;exact ⟨T',q1,q2⟩
    have ham:At ds1 G1 W (xU (asg b) l vs s) (jG ts us L) R' aF a1 w1:=⟨by rw [M5 ha.wf hb];exact hs1,a2f ha.wf hb,hme.ids ha.ids,hc1,wR⟩
    refine ih (λhh=>hrd hh) (h2 R' aF n wR hI) ham ?_
    intro e s' L' R'' aAR a' w' ds2 G2 hq aAW cD he hu
    have htie:=aN0.trans aAW
    rw [M5 ha.wf hb] at hu
    have jH:dR (λt=>t∈asg b) (s.fr L) (s'.fr L'):=dR.trans (XM (λv hv'=>(hv v hv').1)) hu
    have he':Ext L L':=hme.trans he
    cases e with
    | normal =>
     simp only [Exit.then]
     simp only at hq
     split at hq
     ·rename_i hsub
      simp only [Bool.and_eq_true] at hsub
      obtain ⟨R2,pI,n2,tU,F3,hj,hlt⟩:=hq
      obtain ⟨I2,hI2⟩:=qX hj
      obtain ⟨_,_,hk2,_⟩:=all_append (uM l _) h1 hI2
      have aJS:=SO (s:=s.fr L) cD.B5 jH (λi=>AG hsub.1) rfl hk2
      have aN1:Rel n2 a' w':=⟨_,_,_,_,R2,pI,htie,uM l _,tU,hj,aJS,F3 w' _ (jR.meet cD.st cD.ctx he' ha.ids hsub.2)⟩
      obtain ⟨k,_,hmk,hkn⟩:=hmu a' w' n2 aN1
      exact ⟨⟨n2,aN1⟩,by rw [hmk];omega⟩
     ·exact hq.elim
    | exit n=>exact hQ _ _ _ _ _ _ _ _ _ hq htie cD he' jH
    | goto n=>exact hQ _ _ _ _ _ _ _ _ _ hq htie cD he' jH
    | ret=>exact hQ _ _ _ _ _ _ _ _ _ hq htie cD he' jH
    | panic n=>exact hQ _ _ _ _ _ _ _ _ _ hq htie cD he' jH
    | outgrown=>exact hQ _ _ _ _ _ _ _ _ _ hq htie cD he' jH
   ·exact h.elim
 | exit id=>intro rd Q' Q s L R Φ a w ds G hrd h ha hQ;exact wpIn_exit (hQ _ _ _ _ _ _ _ _ _ h (Tie.refl _ _ _) ha (Ext.refl _) (dR.refl _ _))
 | ret=>intro rd Q' Q s L R Φ a w ds G hrd h ha hQ;exact wpIn_ret (hQ _ _ _ _ _ _ _ _ _ h (Tie.refl _ _ _) ha (Ext.refl _) (dR.refl _ _))
 | rangeFunc g ps x y ihx ihy =>
  intro rd Q' Q s L R Φ a w ds G hrd h ha hQ
  cases rd with
  | some l=>have:=hrd rfl;cases this
  | none =>
  simp only [Y0] at h
  split at h
  ·rename_i gf cs lb hg
   split at h
   ·exact h.elim
   ·rename_i l ts hl
    split at h
    ·rename_i hok
     simp only [Bool.and_eq_true] at hok
     obtain ⟨⟨⟨hps,hrx⟩,hry⟩,hts⟩:=hok
     obtain ⟨hcs,hfn,N,xs,X,A,I,hit,hfit,⟨R0,bZ,vJ,hw0,h0⟩,h1⟩:=h
     subst hcs
     have hge:a.eval g=.func (.func gf) #[] lb:=by rw [ha.B5.eval (by rw [uH,hg];rfl),uH,hg]
     have hme:∀ us,Ext L (jG ts us L):=λus=>NY ts us L
     have hpl:=a2c hps
     have hst:=ha.st
     have hss:xR ts L L=true:=by
      have key:∀ M:List Tr,(∀ T∈M,T∈L)->xR ts L M=true:=by
       intro M
       induction M with
       | nil=>intro _;rfl
       | cons T r ihr =>
        intro hM
        unfold xR
        cases dY T.id (ts.map (·.1)) with
        | true=>exact ihr λU hU=>hM U (List.mem_cons_of_mem _ hU)
        | false =>
         rw [GU ha.ids (hM T (by simp))]
         simp only [show Nat.beq T.ver T.ver=true by simp]
         exact ihr λU hU=>hM U (List.mem_cons_of_mem _ hU)
      exact key L λ_ h=>h
     let Inv:=λ(k:Nat) (Gx:List Own) (w1:World)=>∃ us R' aF,aA aF/\CN (B3.app ts I us) R' aF k/\jR Gx W w1 (jG ts us L) R' aF
     have fits:∀ k,k<N->∃ A',B3.app l A (xs k)=some A':=λk hk=>by
      have:=hfit k hk
      unfold a4J at this
      split at this
      ·rename_i A' e;exact ⟨A',e⟩
      ·exact this.elim
     have len:∀ k,k<N->(xs k).length=l.length:=λk hk=>by
      obtain ⟨A',e⟩:=fits k hk
      exact B3.a6M e
     refine aAQ (W:=W) (G:=G) hge (aAU hfn) hit (λk hk=>by rw [List.size_toArray,len k hk,<-Array.length_toList,<-hpl,List.length_map]) Inv ?_ ?_ ?_ ?_ ?_
     ·rintro k Gx w1 ⟨us,R',aF,hs,hi,c⟩
      refine ⟨R'++(jG ts us L).map Tr.own,aF,hs,by rw [List.append_assoc];exact c,λw2 Gy c2=>⟨us,R',aF,hs,hi,by rw [List.append_assoc] at c2;exact c2⟩⟩
     ·rintro k Gx w1 ⟨us,R',aF,hs,hi,c⟩
      obtain ⟨I',hI'⟩:=qX hi
      exact ((B3.qE hI' h1).1 R' aF k hs hi).1 _ _ c
     ·exact ⟨_,R0,bZ,vJ,h0,jR.meet vJ (hw0 w _ ha.ctx) (Ext.refl L) ha.ids hss⟩
     ·rintro lp k Gx w1 hk ⟨us,R',aF,hs,hi,c⟩
      obtain ⟨I',hI'⟩:=qX hi
      obtain ⟨A',hA'⟩:=fits k hk
      have h2:=((B3.qE hI' h1).1 R' aF k hs hi).2.1 hk
      have h3:=(B3.qE hA' h2).1 (hfit k hk)
      have ham:At [] Gx W (PT l (xs k) s) (jG ts us L) R' aF { tmps:=(ps.zip (xs k).toArray).foldl (λt (p,v)=>t.setIfInBounds p v) a.tmps,defers:=[] } w1:=by
       obtain ⟨q1,q2⟩:=Y1 (L:=jG ts us L) (l:=l) (vs:=xs k) (s:=s) (a:={ a with defers:=[] }) ⟨rfl,(by rw [ha.wf.fr (hme us)];exact ha.B5.size),λi hi=>(by rw [ha.wf.fr (hme us)] at hi ⊢;exact ha.B5.slot i hi)⟩ (ha.wf.ext (hme us))
       refine ⟨?_,q2,(hme us).ids ha.ids,c,hs⟩
       rw [hpl] at q1
       rw [<-Array.foldl_toList,Array.toList_zip]
       exact q1
      refine ihx (rd:=some lp) (λ_=>hrx) h3 ham ?_
      intro e s1 L1 R1 bH a1 w2 ds1 G1 hq htie ha1 he1 _
      cases e with
      | normal =>
       obtain ⟨Z,hZ,rfl,rfl⟩:=htie
       have hZ:=hZ rfl
       subst hZ
       refine ⟨R1++L1.map Tr.own,bH,ha1.st,by rw [List.append_assoc];exact ha1.ctx,λw3 Gx3 c3=>?_⟩
       have ha3:At [] Gx3 W s1 L1 R1 bH a1 w3:=⟨ha1.B5,ha1.wf,ha1.ids,by rw [List.append_assoc] at c3;exact c3,ha1.st⟩
       refine ihy (rd:=some lp) (λ_=>hry) hq ha3 ?_
       intro e s2 L2 R2 pI a2 w4 ds2 G2 gG aAW ha2 he2 _
       cases e with
       | normal =>
        obtain ⟨Z,hZ,rfl,rfl⟩:=aAW
        have hZ:=hZ rfl
        subst hZ
        simp only at gG
        split at gG
        ·rename_i hsub
         obtain ⟨R3,Φ3,aYn,hw3,hj⟩:=gG
         exact ⟨rfl,_,R3,Φ3,aYn,hj,hw3 w4 _ (jR.meet ha2.st ha2.ctx (((hme us).trans he1).trans he2) ha.ids hsub)⟩
        ·exact gG.elim
       | _=>exact gG.elim
      | _=>exact hq.elim
     ·rintro D w' ⟨us,R',aF,hs,hi,c⟩
      obtain ⟨I',hI'⟩:=qX hi
      have h2:=((B3.qE hI' h1).1 R' aF N hs hi).2.2 rfl
      refine hQ _ _ _ _ _ _ _ (mark D :: ds) (DJ D :: G) h2 ⟨[D],λhh=>(by cases hh),rfl,rfl⟩ ⟨?_,ha.wf.ext (hme us),(hme us).ids ha.ids,c,hs⟩ (hme us) (by rw [ha.wf.fr (hme us)];exact dR.refl _ _)
      rw [ha.wf.fr (hme us)]
      exact ⟨by simp [ha.B5.defers],ha.B5.size,ha.B5.slot⟩
    ·exact h.elim
  ·exact h.elim
 | scope b ih =>
  intro rd Q' Q s L R Φ a w ds G hrd h ha hQ
  simp only [Y0] at h
  refine a4H (ih (λhh=>by have:=hrd hh;cases this) h ha ?_)
  intro e s' L' R' aF a' w' ds1 G1 hq htie cD he hu
  cases e with
  | goto n=>exact hq.elim
  | normal=>exact hQ _ _ _ _ _ _ _ _ _ hq htie cD he hu
  | exit n=>exact hQ _ _ _ _ _ _ _ _ _ hq htie cD he hu
  | ret=>exact hQ _ _ _ _ _ _ _ _ _ hq htie cD he hu
  | panic n=>exact hQ _ _ _ _ _ _ _ _ _ hq htie cD he hu
  | outgrown=>exact hQ _ _ _ _ _ _ _ _ _ hq htie cD he hu
 | label l=>intro rd Q' Q s L R Φ a w ds G hrd h ha hQ;exact wpIn_label (hQ _ _ _ _ _ _ _ _ _ h (Tie.refl _ _ _) ha (Ext.refl _) (dR.refl _ _))
 | goto l=>intro rd Q' Q s L R Φ a w ds G hrd h;exact h.elim
 | refuse why=>intro rd Q' Q s L R Φ a w ds G hrd h;exact h.elim
theorem JQ {P:Program} {W:World} {s:dU} {L:List Tr} {R:List Own} {Φ:PW} {a:Act} {w:World} (ha:At ds G W s L R Φ a w):∀ {l:List ResultVar} {K:List Value->Prop},a0E P W s L R Φ l K ->
  ∃ vs,(l.mapM λr=>(match r with | .tmp t=>pure (a.tmps.getD t undef) | .cell x t=>(do loadVar t (<-asAddr (a.tmps.getD x undef)):Sem Value):Sem Value)).run P w=.ok vs w/\K vs
 | [],K,h=>⟨[],by simp,h⟩
 | .tmp t :: r,K,h=>by
  unfold a0E at h
  split at h
  ·exact h.elim
  ·rename_i hu
   obtain ⟨vs,h1,h2⟩:=JQ ha h
   refine ⟨_,?_,h2⟩
   have e:(s.fr L).get t=(QX t s.l).val L:=LV L t s.l
   rw [List.mapM_cons]
   simp only [Sem.run_bind,Sem.run_pure,Result.andThen,h1,ha.B5.slot t (by rw [e];exact hu),e]
 | .cell x t :: r,K,h=>by
  unfold a0E at h
  have e:(s.fr L).get x=(QX x s.l).val L:=LV L x s.l
  have done:∀ {b o:Nat} {K2:Value->Prop} {v:Value},(QX x s.l).val L=.pointer (some ⟨b,o,none⟩)->(loadVar t ⟨b,o,none⟩).run P w=.ok v w->(a0E P W s L R Φ r λvs=>K (v :: vs)) ->
    ∃ vs,(((ResultVar.cell x t) :: r).mapM λr=>(match r with | .tmp t=>pure (a.tmps.getD t undef) | .cell x t=>(do loadVar t (<-asAddr (a.tmps.getD x undef)):Sem Value):Sem Value)).run P w=.ok vs w/\K vs:=by
   intro b o K2 v hv hl hk
   obtain ⟨vs,h3,h4⟩:=JQ ha hk
   refine ⟨_,?_,h4⟩
   rw [List.mapM_cons]
   have hx':a.tmps.getD x undef=.pointer (some ⟨b,o,none⟩):=by rw [ha.B5.slot x (by rw [e,hv];rfl),e,hv]
   have hra:(asAddr (a.tmps.getD x undef)).run P w=.ok ⟨b,o,none⟩ w:=by rw [hx'];rfl
   simp only [Sem.run_bind,Sem.run_pure,Result.andThen,hra,hl,h3]
  split at h
  ·rename_i k off hx
   have hw:=ha.wf
   obtain ⟨T,hT⟩:=Option.isSome_iff_exists.1 (JH.ev (x:=.tmp x) hw (show s.ev (.tmp x)=.ptr k off from hx))
   obtain ⟨v,h1,h2⟩:=EZ hT (ha.ctx.blk hT) h
   exact done (K2:=λ_=>True) (by rw [hx,fE hT]) (h1 w rfl) h2
  ·rename_i b o hx
   obtain ⟨v,h1,h2⟩:=AD (h w _ ha.ctx)
   exact done (K2:=λ_=>True) (by rw [hx];rfl) (h1 trivial w rfl) h2
  ·exact h.elim
theorem a2h (L:List Tr):∀ (l:List Value) (i:Nat),tO L (a2d i l)=xL i l
 | [],_=>rfl
 | v :: r,i=>by simp only [a2d,xL,tO,a2h L r (i+1),SV.val]
theorem aB {P:Program} {W w:World} {H:HS} {f:FuncId} {args:Array Value} {R:List Own} {Φ:PW} [hst:aA Φ] {J:Value->World->Prop} (h:aW P W H f args R Φ J) (c:Ctx W w R Φ) :
  Calls P f args w λe w'=>∃ v,e=.returned v/\J v w':=by
 unfold aW at h
 split at h
 ·rename_i fn hf
  split at h
  ·rename_i code hc
   have hwf:JH [] (⟨max fn.ntmps args.size,a2d 0 args.toList⟩:dU):=by
    have key:∀ (l:List Value) (i:Nat),∀ p∈a2d i l,∃ v,p.2=SV.v v:=by
     intro l
     induction l with
     | nil=>intro i p hp;cases hp
     | cons v r ih =>
      intro i p hp
      rcases List.mem_cons.1 hp with rfl|hp
      ·exact ⟨v,rfl⟩
      ·exact ih _ p hp
    intro p hp k o e
    obtain ⟨v,hv⟩:=key _ _ p hp
    rw [hv] at e;cases e
   have hfr:(⟨max fn.ntmps args.size,a2d 0 args.toList⟩:dU).fr []=LL fn args:=by simp only [dU.fr,LL,a2h]
   have hat:At [] [] W (⟨max fn.ntmps args.size,a2d 0 args.toList⟩:dU) [] R Φ { tmps:=args++Array.replicate (fn.ntmps - args.size) undef,defers:=[] } w :=
    ⟨by rw [hfr];exact a10 fn args,hwf,by simp,by simpa [jR] using c,hst⟩
   refine (callsIn_wide (n:=0)).1 (callsIn_of_wp_marks (F:=kG none) hf hc trivial (a8j (rd:=none) code (λhh=>(by cases hh)) h hat ?_))
   intro e s L' R' aF a w' ds' G' hq htie ha _ _
   obtain ⟨Z,_,rfl,rfl⟩:=htie
   have key:(a0E P W s L' R' aF fn.results.toList λvs=>∀ w F,Ctx W w (R'++F) aF->J (AB vs) w)->bodyPostM (kG none) 0 P fn (λe w'=>∃ v,e=.returned v/\J v w') .ret a w':=by
    intro hq
    show LeavesInM Fence.wide 0 P fn a.tmps _ a.defers .returning w'
    have:=ha.st
    rw [ha.B5.defers,List.append_nil]
    refine M4 (Φ:=aF) Z (R'++L'.map Tr.own) w' (by have:=ha.ctx;rw [List.append_nil] at this;rw [List.append_assoc];exact this) λw2 S2 c2=>?_
    rw [List.append_assoc] at c2
    have ha2:At (Z.map mark++[]) S2 W s L' R' aF a w2:=⟨ha.B5,ha.wf,ha.ids,c2,ha.st⟩
    obtain ⟨vs,h1,h2⟩:=JQ ha2 hq
    refine ⟨AB vs,?_,AB vs,rfl,h2 w2 _ c2⟩
    unfold results
    rw [Array.mapM_eq_mapM_toList,map_eq_pure_bind,Sem.run_bind,Sem.run_bind]
    have e:∀ (r:Result (List Value)),r=.ok vs w2->(((r.andThen λa=>(pure a.toArray:Sem (Array Value)).run P).andThen λvs=>(pure (if h:vs.size=1 then vs[0] else Value.tuple vs):Sem Value).run P))=.ok (AB vs) w2:=by
     intro r hr
     subst hr
     simp only [Result.andThen,Sem.run_pure,a4z]
    exact e _ h1
   cases e with
   | normal=>exact key hq
   | ret=>exact key hq
   | _=>exact hq.elim
  ·exact h.elim
 ·exact h.elim
end Go.Vc
end

section
namespace Go.Proofs.YtfccagphnfceiaaGreatDoor
set_option maxRecDepth 100000
open Go.Vc
abbrev F.kK:Nat:=5
abbrev F.mT:Nat:=8
abbrev F.M6:Nat:=11
abbrev F.F4:Nat:=12
abbrev F.nM:Nat:=13
abbrev F.aG:Nat:=18
abbrev F.bD:Nat:=19
abbrev F.rM:Nat:=20
abbrev F.bF:Nat:=21
abbrev F.fH:Nat:=22
abbrev F.dD:Nat:=23
abbrev F.aS:Nat:=24
abbrev F.fA:Nat:=25
abbrev F.j9:Nat:=28
abbrev F.qF:Nat:=29
abbrev F.qG:Nat:=35
abbrev F.BB:Nat:=36
abbrev F.kL:Nat:=37
abbrev F.pN:Nat:=38
abbrev F.jK:Nat:=39
abbrev F.oD:Nat:=40
abbrev F.gP:Nat:=41
abbrev F.eZ:Nat:=42
abbrev F.eU:Nat:=44
abbrev F.gB:Nat:=45
abbrev F.gQ:Nat:=46
abbrev F.eF:Nat:=47
abbrev F.cZ:Nat:=49
abbrev F.aD:Nat:=55
abbrev F.aH:Nat:=56
abbrev F.mU:Nat:=58
abbrev F.lI:Nat:=59
abbrev F.cI:Nat:=60
abbrev F.iW:Nat:=61
abbrev F.uJ:Nat:=62
abbrev F.zM:Nat:=63
abbrev F.oE:Nat:=65
abbrev F.tV:Nat:=66
abbrev F.F5:Nat:=67
abbrev F.nN:Nat:=68
abbrev F.gD:Nat:=69
abbrev F.jL:Nat:=70
abbrev F.lU:Nat:=71
abbrev F.zN:Nat:=72
abbrev F.dI:Nat:=73
abbrev F.eL:Nat:=74
abbrev F.jM:Nat:=75
abbrev F.fI:Nat:=76
abbrev F.mL:Nat:=77
abbrev F.iX:Nat:=78
abbrev F.dK:Nat:=81
abbrev F.mV:Nat:=82
abbrev F.mW:Nat:=83
abbrev F.kM:Nat:=84
abbrev F.gC:Nat:=85
abbrev F.eG:Nat:=86
abbrev F.nP:Nat:=87
abbrev F.lJ:Nat:=88
abbrev F.qH:Nat:=89
abbrev F.jN:Nat:=90
abbrev F.rQ:Nat:=91
abbrev F.gR:Nat:=92
abbrev F.jA:Nat:=99
abbrev F.nQ:Nat:=102
abbrev F.dF:Nat:=103
abbrev F.fJ:Nat:=104
abbrev F.kN:Nat:=105
abbrev F.jT:Nat:=106
abbrev F.kP:Nat:=107
abbrev F.nR:Nat:=108
abbrev F.nS:Nat:=109
abbrev F.mM:Nat:=110
abbrev F.oF:Nat:=111
abbrev F.BC:Nat:=112
abbrev F.bK:Nat:=113
abbrev F.fM:Nat:=114
abbrev F.jB:Nat:=115
abbrev F.kQ:Nat:=116
abbrev F.mN:Nat:=117
abbrev F.kR:Nat:=118
abbrev F.iB:Nat:=119
abbrev F.iC:Nat:=120
abbrev F.bG:Nat:=121
abbrev F.bT:Nat:=122
abbrev F.fN:Nat:=123
abbrev F.eH:Nat:=124
abbrev F.qI:Nat:=125
abbrev F.fT:Nat:=126
abbrev F.iD:Nat:=127
abbrev F.kS:Nat:=128
abbrev F.gX:Nat:=129
abbrev F.kT:Nat:=130
abbrev F.aK:Nat:=131
abbrev F.bU:Nat:=132
abbrev F.dL:Nat:=133
abbrev F.eM:Nat:=134
abbrev F.iE:Nat:=135
abbrev F.fX:Nat:=136
abbrev F.gY:Nat:=137
abbrev F.strconv_Itoa:Nat:=138
abbrev F.bM:Nat:=140
abbrev F.F6:Nat:=141
abbrev F.tW:Nat:=142
abbrev F.rR:Nat:=143
abbrev F.iO:Nat:=144
abbrev F.kU:Nat:=145
abbrev F.lV:Nat:=146
abbrev F.eI:Nat:=147
abbrev F.gH:Nat:=155
abbrev F.dV:Nat:=159
abbrev F.GV:Nat:=160
abbrev F.fO:Nat:=161
abbrev F.fP:Nat:=162
abbrev F.oG:Nat:=163
abbrev F.cM:Nat:=164
abbrev F.qM:Nat:=165
abbrev F.bJ:Nat:=166
abbrev F.qN:Nat:=167
abbrev F.fK:Nat:=168
abbrev F.bV:Nat:=169
abbrev F.mX:Nat:=170
abbrev F.CP:Nat:=171
abbrev F.kH:Nat:=172
abbrev F.gS:Nat:=173
abbrev F.fD:Nat:=174
abbrev F.eV:Nat:=175
abbrev F.b8:Nat:=176
abbrev F.gT:Nat:=177
abbrev F.lW:Nat:=178
abbrev F.oO:Nat:=180
abbrev F.zO:Nat:=181
abbrev F.cX:Nat:=188
abbrev F.qY:Nat:=189
abbrev F.zP:Nat:=190
abbrev F.wS:Nat:=191
abbrev F.oH:Nat:=192
abbrev F.gU:Nat:=193
abbrev F.cS:Nat:=194
abbrev F.strings_IndexByte:Nat:=195
abbrev F.strconv_Atoi:Nat:=196
abbrev F.strings_CutPrefix:Nat:=197
abbrev F.oI:Nat:=198
abbrev F.jO:Nat:=199
abbrev F.dJ:Nat:=203
abbrev F.GX:Nat:=204
abbrev F.CQ:Nat:=205
abbrev F.xV:Nat:=206
abbrev F.cmp_isNaN_int:Nat:=207
def j5 (sP:Option Addr) (sN sC:Nat) (W:World) (R:List Own) (Φ:PW) (J:Value->World->Prop):Prop :=
 Br sP.isNone (Zr W R Φ J (.slice none 0 0)) (∀ (k2:Nat) (w3:World) (R4:List Own),Ctx W w3 (Own.blk k2 [] 147 :: R++R4) Φ->∃ (p5:Option Addr) (k6 k7:Nat) (w8:World),Sem.run Tryz.prog (builtin Builtin.append #[29,29] 29 #[false,false] #[.slice (some (Addr.mk k2 0 none)) 0 0,.slice sP sN sC]) w3=.ok (.value (.slice p5 k6 k7)) w8/\∃ R9 uN,aA uN/\Ctx W w8 (R9++R4) uN/\Zr W R9 uN J (.slice p5 k6 k7))
theorem oJ (sP:Option Addr) (sN sC:Nat) {W w:World} {R:List Own} {Φ:PW} [aA Φ] {J:Value->World->Prop} (c:Ctx W w R Φ) (h:j5 sP sN sC W R Φ J):Calls Tryz.prog F.bT #[.slice sP sN sC] w λe w'=>∃ v,e=.returned v/\J v w' :=
 aB (H:={ keep:=some [0,2,4] }) (by rw [show aW Tryz.prog W { keep:=some [0,2,4] } F.bT #[.slice sP sN sC] R Φ J=j5 sP sN sC W R Φ J by kernel_rfl];exact h) c
def sX (rP:Option Addr) (rN rC:Nat) (W:World) (R:List Own) (Φ:PW) (J:Value->World->Prop):Prop :=
 Br (decide ((↑rN:Int)<=12)) (Zc W R Φ Tryz.prog F.lW #[.slice rP rN rC] λe2 q=>∃ c4,e2=.returned (.bool c4)/\q λR5 iQ=>Zr W R5 iQ J (.bool c4)) (Zr W R Φ J (.bool false))
theorem yT (rP:Option Addr) (rN rC:Nat) {W w:World} {R:List Own} {Φ:PW} [aA Φ] {J:Value->World->Prop} (c:Ctx W w R Φ) (h:sX rP rN rC W R Φ J):Calls Tryz.prog F.gY #[.slice rP rN rC] w λe w'=>∃ v,e=.returned v/\J v w' :=
 aB (H:={ keep:=some [0,2],split:=[1] }) (by rw [show aW Tryz.prog W { keep:=some [0,2],split:=[1] } F.gY #[.slice rP rN rC] R Φ J=sX rP rN rC W R Φ J by kernel_rfl];exact h) c
def BD (rP:Option Addr) (rN rC:Nat) (W:World) (R:List Own) (Φ:PW) (J:Value->World->Prop):Prop :=
 vZ λ(I0:Int->List Own->PW->Nat->Prop)=>(Zs W R Φ (I0 0))/\∀ n6 R7 I8 k9,aA I8->I0 n6 R7 I8 k9->Br (decide (n6<(↑rN:Int))) (Zi n6 rN rP λxD Y2=>Zd W R7 I8 λM7=>∃ EO nT s16,dH M7 xD (Y2+n6.toNat*3) [.int .i64 EO,.int .i64 nT,.string s16]/\Zc W R7 I8 Tryz.prog F.jO #[Value.agg #[.int .i64 EO,.int .i64 nT,.string s16]] λe19 q=>∃ c21,e19=.returned (.bool c21)/\q λzQ lX=>Br (!c21) (Zr W zQ lX J (.bool false)) (aR (n6+1)/\Zb W zQ lX k9 (I0 (n6+1)))) (Zr W R7 I8 J (.bool true))
theorem F7 (rP:Option Addr) (rN rC:Nat) {W w:World} {R:List Own} {Φ:PW} [aA Φ] {J:Value->World->Prop} (c:Ctx W w R Φ) (h:BD rP rN rC W R Φ J):Calls Tryz.prog F.lW #[.slice rP rN rC] w λe w'=>∃ v,e=.returned v/\J v w' :=
 aB (H:={ keep:=some [0,2,3,7,15],loops:=[(2,[(3,.one (.int .i64))],[])] }) (by rw [show aW Tryz.prog W { keep:=some [0,2,3,7,15],loops:=[(2,[(3,.one (.int .i64))],[])] } F.lW #[.slice rP rN rC] R Φ J=BD rP rN rC W R Φ J by kernel_rfl];exact h) c
def xW (v0:Int) (v1:Int) (v2:ByteArray) (W:World) (R:List Own) (Φ:PW) (J:Value->World->Prop):Prop :=
 ∀ (b:Nat),Br (decide (v0=0)) (Zr W R Φ J (.bool (decide (v2=ByteArray.mk #[])))) (Br (decide (v0=1)) (Zd W R Φ λw2=>Zr W R Φ J (.bool (decide (v1=0)&&decide ((↑v2.size:Int)<=200)))) (Zd W R Φ λw6=>Zr W R Φ J (.bool (decide (v0=2)&&(decide (v1=0)||decide (v1=1))&&decide (v2=ByteArray.mk #[])))))
theorem CR (v0:Int) (v1:Int) (v2:ByteArray) {W w:World} {R:List Own} {Φ:PW} [aA Φ] {J:Value->World->Prop} (c:Ctx W w R Φ) (h:xW v0 v1 v2 W R Φ J):Calls Tryz.prog F.jO #[.agg #[.int .i64 v0,.int .i64 v1,.string v2]] w λe w'=>∃ v,e=.returned v/\J v w' :=
 aB (H:={ keep:=some [1,2,5,11],bW:=[1] }) (by rw [show aW Tryz.prog W { keep:=some [1,2,5,11],bW:=[1] } F.jO #[.agg #[.int .i64 v0,.int .i64 v1,.string v2]] R Φ J=xW v0 v1 v2 W R Φ J by kernel_rfl];exact h) c
end Go.Proofs.YtfccagphnfceiaaGreatDoor
end

section
namespace Go.Proofs.YtfccagphnfceiaaGreatDoor
set_option maxRecDepth 100000
open Go.Vc
def Y3 (n:Int) (W:World) (R:List Own) (Φ:PW) (J:Value->World->Prop):Prop :=
 Zc W R Φ Tryz.prog F.strconv_Itoa #[.int .i64 n] λe2 q=>∃ s4,e2=.returned (.string s4)/\q λR5 iQ=>(s4.size+(ByteArray.mk #[OfNat.ofNat 59]).size).le 9223372036854775807/\Zr W R5 iQ J (.string (s4++ByteArray.mk #[OfNat.ofNat 59]))
theorem WK (n:Int) {W w:World} {R:List Own} {Φ:PW} [aA Φ] {J:Value->World->Prop} (c:Ctx W w R Φ) (h:Y3 n W R Φ J):Calls Tryz.prog F.iX #[.int .i64 n] w λe w'=>∃ v,e=.returned v/\J v w' :=
 aB (H:={ keep:=some [0,2] }) (by rw [show aW Tryz.prog W { keep:=some [0,2] } F.iX #[.int .i64 n] R Φ J=Y3 n W R Φ J by kernel_rfl];exact h) c
def TA (s:ByteArray) (W:World) (R:List Own) (Φ:PW) (J:Value->World->Prop):Prop :=
 ∀ (k0:Nat) (w1:World) (R2:List Own),Ctx W w1 (Own.blk k0 [.string s,.bool false] 186 :: R++R2) Φ->J (.pointer (some (Addr.mk k0 0 none))) w1
theorem TB (s:ByteArray) {W w:World} {R:List Own} {Φ:PW} [aA Φ] {J:Value->World->Prop} (c:Ctx W w R Φ) (h:TA s W R Φ J):Calls Tryz.prog F.BC #[.string s] w λe w'=>∃ v,e=.returned v/\J v w' :=
 aB (H:={ keep:=some [0,2] }) (by rw [show aW Tryz.prog W { keep:=some [0,2] } F.BC #[.string s] R Φ J=TA s W R Φ J by kernel_rfl];exact h) c
def BE (rB rO:Nat) (W:World) (R:List Own) (Φ:PW) (J:Value->World->Prop):Prop :=
 Zc W R Φ Tryz.prog F.fK #[.pointer (some (Addr.mk rB rO none)),.int IntKind.u8 59,.int .i64 (-9223372036854775808)] λe2 q=>∃ n4,e2=.returned (.int .i64 n4)/\q λR5 iQ=>Zr W R5 iQ J (.int .i64 n4)
theorem F8 (rB rO:Nat) {W w:World} {R:List Own} {Φ:PW} [aA Φ] {J:Value->World->Prop} (c:Ctx W w R Φ) (h:BE rB rO W R Φ J):Calls Tryz.prog F.bK #[.pointer (some ⟨rB,rO,none⟩)] w λe w'=>∃ v,e=.returned v/\J v w' :=
 aB (H:={ keep:=some [0,2] }) (by rw [show aW Tryz.prog W { keep:=some [0,2] } F.bK #[.pointer (some ⟨rB,rO,none⟩)] R Φ J=BE rB rO W R Φ J by kernel_rfl];exact h) c
def zR (rB rO:Nat) (W:World) (R:List Own) (Φ:PW) (J:Value->World->Prop):Prop :=
 Zc W R Φ Tryz.prog F.fK #[.pointer (some (Addr.mk rB rO none)),.int IntKind.u8 58,.int .i64 0] λe2 q=>∃ n4,e2=.returned (.int .i64 n4)/\q λR5 iQ=>Zd W R5 iQ λw7=>∃ s9,w7.cell? (Addr.mk rB rO none)=some (.string s9)/\Br (decide ((↑s9.size:Int)<n4)) (Zc W R5 iQ Tryz.prog F.bV #[.pointer (some (Addr.mk rB rO none))] λe12 q=>e12=.returned (Value.tuple #[])/\q λR14 M8=>Zr W R14 M8 J (.string (ByteArray.mk #[]))) (Zd W R5 iQ λw18=>∃ s20,w18.cell? (Addr.mk rB rO none)=some (.string s20)/\(0<=n4/\n4<=(↑s20.size:Int))/\Zd W R5 iQ λw21=>∃ s23,w21.cell? (Addr.mk rB rO none)=some (.string s23)/\(0<=n4/\n4<=(↑s23.size:Int)/\s23.size<=s23.size)/\∀ TC R25,Ctx W TC (R5++R25) iQ->aE TC rB rO 1/\∀ (JR:World),JR=TC.setCell (Addr.mk rB rO none) (Value.string (s23.extract n4.toNat s23.size))->∃ CS HM,aA HM/\Ctx W JR (CS++R25) HM/\Zc W CS HM Tryz.prog F.mX #[.pointer (some (Addr.mk rB rO none)),Value.string (ByteArray.mk #[OfNat.ofNat 44])] λe31 q=>e31=.returned (Value.tuple #[])/\q λAW mP=>Zd W AW mP λKS=>∃ c37,KS.cell? (Addr.mk rB (rO+1) none)=some (.bool c37)/\Br c37 (Zr W AW mP J (.string (ByteArray.mk #[]))) (Zr W AW mP J (.string (s20.extract 0 n4.toNat))))
theorem DY (rB rO:Nat) {W w:World} {R:List Own} {Φ:PW} [aA Φ] {J:Value->World->Prop} (c:Ctx W w R Φ) (h:zR rB rO W R Φ J):Calls Tryz.prog F.fM #[.pointer (some ⟨rB,rO,none⟩)] w λe w'=>∃ v,e=.returned v/\J v w' :=
 aB (H:={ keep:=some [0,2,3,4,13,36] }) (by rw [show aW Tryz.prog W { keep:=some [0,2,3,4,13,36] } F.fM #[.pointer (some ⟨rB,rO,none⟩)] R Φ J=zR rB rO W R Φ J by kernel_rfl];exact h) c
def BF (rB rO:Nat) (W:World) (R:List Own) (Φ:PW) (J:Value->World->Prop):Prop :=
 Zc W R Φ Tryz.prog F.fK #[.pointer (some (Addr.mk rB rO none)),.int IntKind.u8 59,.int .i64 0] λe2 q=>∃ n4,e2=.returned (.int .i64 n4)/\q λR5 iQ=>Zr W R5 iQ J (.int .i64 n4)
theorem F9 (rB rO:Nat) {W w:World} {R:List Own} {Φ:PW} [aA Φ] {J:Value->World->Prop} (c:Ctx W w R Φ) (h:BF rB rO W R Φ J):Calls Tryz.prog F.jB #[.pointer (some ⟨rB,rO,none⟩)] w λe w'=>∃ v,e=.returned v/\J v w' :=
 aB (H:={ keep:=some [0,2] }) (by rw [show aW Tryz.prog W { keep:=some [0,2] } F.jB #[.pointer (some ⟨rB,rO,none⟩)] R Φ J=BF rB rO W R Φ J by kernel_rfl];exact h) c
def zS (rB rO:Nat) (W:World) (R:List Own) (Φ:PW) (J:Value->World->Prop):Prop :=
 Zd W R Φ λw0=>∃ s2,w0.cell? (Addr.mk rB rO none)=some (.string s2)/\Zr W R Φ J (.int .i64 (↑s2.size:Int))
theorem DZ (rB rO:Nat) {W w:World} {R:List Own} {Φ:PW} [aA Φ] {J:Value->World->Prop} (c:Ctx W w R Φ) (h:zS rB rO W R Φ J):Calls Tryz.prog F.kQ #[.pointer (some ⟨rB,rO,none⟩)] w λe w'=>∃ v,e=.returned v/\J v w' :=
 aB (H:={ keep:=some [0,2] }) (by rw [show aW Tryz.prog W { keep:=some [0,2] } F.kQ #[.pointer (some ⟨rB,rO,none⟩)] R Φ J=zS rB rO W R Φ J by kernel_rfl];exact h) c
def FA (s:ByteArray) (W:World) (R:List Own) (Φ:PW) (J:Value->World->Prop):Prop :=
 Zc W R Φ Tryz.prog F.BC #[.string s] λe2 q=>∃ p4,e2=.returned (.pointer p4)/\q λR5 iQ=>Zc W R5 iQ Tryz.prog F.jB #[.pointer p4] λe9 q=>∃ JS,e9=.returned (.int .i64 JS)/\q λuO j3=>vZ λ(I14:Option Addr->Nat->Nat->Int->List Own->PW->Nat->Prop)=>(Zs W uO j3 (I14 none 0 0 JS))/\∀ RZ CT E0 BG xE I25 TD,aA I25->I14 RZ CT E0 BG xE I25 TD->Br (decide (0<BG)) (Zc W xE I25 Tryz.prog F.kQ #[.pointer p4] λe29 q=>∃ n31,e29=.returned (.int .i64 n31)/\q λR32 aFx=>Br (decide (n31=0)) (Zr W R32 aFx J (Value.tuple #[.slice none 0 0,.bool false])) (Zc W R32 aFx Tryz.prog F.CP #[.pointer p4] λe38 q=>∃ n40 n41 s42,e38=.returned (Value.agg #[.int .i64 n40,.int .i64 n41,.string s42])/\q λR43 aYq=>∀ (k45:Nat) (VY:World) (KT:List Own),Ctx W VY (Own.blk k45 [.int .i64 n40,.int .i64 n41,.string s42] 147 :: R43++KT) aYq->∃ (p48:Option Addr) (k49 TE:Nat) (w51:World),Sem.run Tryz.prog (builtin Builtin.append #[29,29] 29 #[false,false] #[.slice RZ CT E0,.slice (some (Addr.mk k45 0 none)) 1 1]) VY=.ok (.value (.slice p48 k49 TE)) w51/\∃ R52 JT,aA JT/\Ctx W w51 (R52++KT) JT/\aR (BG - 1)/\Zb W R52 JT TD (I14 p48 k49 TE (BG - 1)))) (Zc W xE I25 Tryz.prog F.kR #[.pointer p4] λe61 q=>∃ c63,e61=.returned (.bool c63)/\q λR64 O5=>Br (!c63) (Zr W R64 O5 J (Value.tuple #[.slice none 0 0,.bool false])) (Zr W R64 O5 J (Value.tuple #[.slice RZ CT E0,.bool true])))
theorem JU (s:ByteArray) {W w:World} {R:List Own} {Φ:PW} [aA Φ] {J:Value->World->Prop} (c:Ctx W w R Φ) (h:FA s W R Φ J):Calls Tryz.prog F.mN #[.string s] w λe w'=>∃ v,e=.returned v/\J v w' :=
 aB (H:={ keep:=some [0,2,3,4,5,6,12,17,25],loops:=[(4,[(5,.one (.slice)),(6,.one (.int .i64))],[])] }) (by rw [show aW Tryz.prog W { keep:=some [0,2,3,4,5,6,12,17,25],loops:=[(4,[(5,.one (.slice)),(6,.one (.int .i64))],[])] } F.mN #[.string s] R Φ J=FA s W R Φ J by kernel_rfl];exact h) c
def zT (rB rO:Nat) (W:World) (R:List Own) (Φ:PW) (J:Value->World->Prop):Prop :=
 Zd W R Φ λw0=>∃ c2,w0.cell? (Addr.mk rB (rO+1) none)=some (.bool c2)/\∃ (s3:ByteArray),((!c2)=true->w0.cell? (Addr.mk rB rO none)=some (.string s3))/\Zr W R Φ J (.bool (!c2&&decide (s3=ByteArray.mk #[])))
theorem E1 (rB rO:Nat) {W w:World} {R:List Own} {Φ:PW} [aA Φ] {J:Value->World->Prop} (c:Ctx W w R Φ) (h:zT rB rO W R Φ J):Calls Tryz.prog F.kR #[.pointer (some ⟨rB,rO,none⟩)] w λe w'=>∃ v,e=.returned v/\J v w' :=
 aB (H:={ keep:=some [0,2] }) (by rw [show aW Tryz.prog W { keep:=some [0,2] } F.kR #[.pointer (some ⟨rB,rO,none⟩)] R Φ J=zT rB rO W R Φ J by kernel_rfl];exact h) c
def lY (bB bO:Nat) (s:ByteArray) (W:World) (R:List Own) (Φ:PW) (J:Value->World->Prop):Prop :=
 Zc W R Φ Tryz.prog F.oO #[.pointer (some (Addr.mk bB bO none))] λe2 q=>e2=.returned (Value.tuple #[])/\q λR4 Φ5=>Zd W R4 Φ5 λw6=>∃ p8 k9 xD,w6.cell? (Addr.mk bB (bO+1) none)=some (.slice p8 k9 xD)/\∀ QY uO,Ctx W QY (R4++uO) Φ5->∃ (WL:Option Addr) (JV k15:Nat) (Y4:World),Sem.run Tryz.prog (builtin Builtin.append #[129,9] 129 #[false,false] #[.slice p8 k9 xD,.string s]) QY=.ok (.value (.slice WL JV k15)) Y4/\∃ PU xX,aA xX/\Ctx W Y4 (PU++uO) xX/\∀ PV O6,Ctx W PV (PU++O6) xX->aE PV bB (bO+1) 1/\∀ (w21:World),w21=PV.setCell (Addr.mk bB (bO+1) none) (Value.slice WL JV k15)->∃ zQ lX,aA lX/\Ctx W w21 (zQ++O6) lX/\Zr W zQ lX J (Value.tuple #[.int .i64 (↑s.size:Int),Value.nilIface])
theorem rS (bB bO:Nat) (s:ByteArray) {W w:World} {R:List Own} {Φ:PW} [aA Φ] {J:Value->World->Prop} (c:Ctx W w R Φ) (h:lY bB bO s W R Φ J):Calls Tryz.prog F.bM #[.pointer (some ⟨bB,bO,none⟩),.string s] w λe w'=>∃ v,e=.returned v/\J v w' :=
 aB (H:={ keep:=some [0,1,4,5] }) (by rw [show aW Tryz.prog W { keep:=some [0,1,4,5] } F.bM #[.pointer (some ⟨bB,bO,none⟩),.string s] R Φ J=lY bB bO s W R Φ J by kernel_rfl];exact h) c
def Y5 (n:Int) (W:World) (R:List Own) (Φ:PW) (J:Value->World->Prop):Prop :=
 Br (decide (n<0)) (Zr W R Φ J (.string (ByteArray.mk #[]))) (Zc W R Φ Tryz.prog F.iX #[.int .i64 n] λe4 q=>∃ s6,e4=.returned (.string s6)/\q λR7 E2=>Zr W R7 E2 J (.string s6))
theorem WM (n:Int) {W w:World} {R:List Own} {Φ:PW} [aA Φ] {J:Value->World->Prop} (c:Ctx W w R Φ) (h:Y5 n W R Φ J):Calls Tryz.prog F.F6 #[.int .i64 n] w λe w'=>∃ v,e=.returned v/\J v w' :=
 aB (H:={ keep:=some [0,2,4] }) (by rw [show aW Tryz.prog W { keep:=some [0,2,4] } F.F6 #[.int .i64 n] R Φ J=Y5 n W R Φ J by kernel_rfl];exact h) c
def TF (s:ByteArray) (W:World) (R:List Own) (Φ:PW) (J:Value->World->Prop):Prop :=
 Zc W R Φ Tryz.prog F.strconv_Itoa #[.int .i64 (↑s.size:Int)] λe2 q=>∃ s4,e2=.returned (.string s4)/\q λR5 iQ=>(s4.size+(ByteArray.mk #[OfNat.ofNat 58]).size).le 9223372036854775807/\((s4++ByteArray.mk #[OfNat.ofNat 58]).size+s.size).le 9223372036854775807/\((s4++ByteArray.mk #[OfNat.ofNat 58]++s).size+(ByteArray.mk #[OfNat.ofNat 44]).size).le 9223372036854775807/\Zr W R5 iQ J (.string (s4++ByteArray.mk #[OfNat.ofNat 58]++s++ByteArray.mk #[OfNat.ofNat 44]))
theorem TG (s:ByteArray) {W w:World} {R:List Own} {Φ:PW} [aA Φ] {J:Value->World->Prop} (c:Ctx W w R Φ) (h:TF s W R Φ J):Calls Tryz.prog F.tW #[.string s] w λe w'=>∃ v,e=.returned v/\J v w' :=
 aB (H:={ keep:=some [0,2] }) (by rw [show aW Tryz.prog W { keep:=some [0,2] } F.tW #[.string s] R Φ J=TF s W R Φ J by kernel_rfl];exact h) c
def DK (rP:Option Addr) (rN rC:Nat) (W:World) (R:List Own) (Φ:PW) (J:Value->World->Prop):Prop :=
 ∀ (k0:Nat) (w1:World) (R2:List Own),Ctx W w1 (Own.blk k0 [Value.pointer none,Value.slice none 0 0] 165 :: R++R2) Φ->Calls Tryz.prog F.F6 #[.int .i64 (↑rN:Int)] w1 λe3 w4=>∃ s5,e3=.returned (.string s5)/\∃ R6 Y6,aA Y6/\Ctx W w4 (R6++R2) Y6/\Zc W R6 Y6 Tryz.prog F.bM #[.pointer (some (Addr.mk k0 0 none)),.string s5] λe10 q=>∃ (n12:Int) (v13:Value),e10=.returned (Value.tuple #[.int .i64 n12,v13])/\q λR14 M8=>vZ λ(I16:Int->List Own->PW->Nat->Prop)=>(Zs W R14 M8 (I16 0))/\∀ VZ PX I24 k25,aA I24->I16 VZ PX I24 k25->Br (decide (VZ<(↑rN:Int))) (Zi VZ rN rP λTD S0=>Zd W PX I24 λHN=>∃ W0 n31 s32,dH HN TD (S0+VZ.toNat*3) [.int .i64 W0,.int .i64 n31,.string s32]/\∀ (b:Nat) (w33:World) (S1:List Own),Ctx W w33 (PX++S1) I24->Calls Tryz.prog F.zO #[Value.agg #[.int .i64 W0,.int .i64 n31,.string s32]] w33 λe35 w36=>∃ s37,e35=.returned (.string s37)/\∃ HO rF,aA rF/\Ctx W w36 (HO++S1) rF/\Zc W HO rF Tryz.prog F.bM #[.pointer (some (Addr.mk k0 0 none)),.string s37] λe42 q=>∃ (n44:Int) (v45:Value),e42=.returned (Value.tuple #[.int .i64 n44,v45])/\q λR46 CU=>aR (VZ+1)/\Zb W R46 CU k25 (I16 (VZ+1))) (∀ w53 W4,Ctx W w53 (PX++W4) I24->Calls Tryz.prog F.iO #[.pointer (some (Addr.mk k0 0 none))] w53 λe55 w56=>∃ s57,e55 = .returned (.string s57)/\∃ GY pO,aA pO/\Ctx W w56 (GY++W4) pO/\Zr W GY pO J (.string s57))
theorem HP (rP:Option Addr) (rN rC:Nat) {W w:World} {R:List Own} {Φ:PW} [aA Φ] {J:Value->World->Prop} (c:Ctx W w R Φ) (h:DK rP rN rC W R Φ J):Calls Tryz.prog F.rR #[.slice rP rN rC] w λe w'=>∃ v,e=.returned v/\J v w' :=
 aB (H:={ keep:=some [0,2,3,5,10,11,12,13],bW:=[5],loops:=[(4,[(12,.one (.int .i64))],[])] }) (by rw [show aW Tryz.prog W { keep:=some [0,2,3,5,10,11,12,13],bW:=[5],loops:=[(4,[(12,.one (.int .i64))],[])] } F.rR #[.slice rP rN rC] R Φ J=DK rP rN rC W R Φ J by kernel_rfl];exact h) c
def wB (rB rO:Nat) (nU:Int) (least:Int) (W:World) (R:List Own) (Φ:PW) (J:Value->World->Prop):Prop :=
 Zd W R Φ λw0=>∃ s2,w0.cell? (Addr.mk rB rO none)=some (.string s2)/\∃ s3,w0.cell? (Addr.mk rB rO none)=some (.string s3)/\(0<=min (↑s3.size:Int) 21/\min (↑s3.size:Int) 21<=(↑s2.size:Int))/\Zc W R Φ Tryz.prog F.strings_IndexByte #[.string (s2.extract 0 (min (↑s3.size:Int) 21).toNat),.int IntKind.u8 nU] λe6 q=>∃ n8,e6=.returned (.int .i64 n8)/\q λR9 uN=>Br (decide (n8<0)) (Zc W R9 uN Tryz.prog F.bV #[.pointer (some (Addr.mk rB rO none))] λe13 q=>e13=.returned (Value.tuple #[])/\q λNO TH=>Zr W NO TH J (.int .i64 0)) ((0<=n8/\n8<=(↑(s2.extract 0 (min (↑s3.size:Int) 21).toNat).size:Int))/\∀ PV O6,Ctx W PV (R9++O6) uN -> Calls Tryz.prog F.strconv_Atoi #[.string ((s2.extract 0 (min (↑s3.size:Int) 21).toNat).extract 0 n8.toNat)] PV λe21 w22=>(∃ BG,e21=.returned (Value.tuple #[.int .i64 BG,Value.nilIface])/\∃ xE mQ,aA mQ/\Ctx W w22 (xE++O6) mQ/\∃ R26 O7,aA O7/\Wk W xE mQ R26 O7/\∃ (c30:Bool),(∀ (w31:World),Sem.run Tryz.prog ((eqGuard BinOp.neq 167 (Operand.tmp 36) (Operand.const Value.nilIface) Value.nilIface Value.nilIface) >>= λ_=>binOp BinOp.neq 167 Value.nilIface Value.nilIface) w31=Result.ok (Value.bool c30) w31)/\Br c30 (Zc W xE mQ Tryz.prog F.bV #[.pointer (some (Addr.mk rB rO none))] λe35 q=>e35=.returned (Value.tuple #[])/\q λR37 JW=>Zr W R37 JW J (.int .i64 0)) ((0<=n8/\n8<=(↑(s2.extract 0 (min (↑s3.size : Int) 21).toNat).size:Int))/\Zc W xE mQ Tryz.prog F.strconv_Itoa #[.int .i64 BG] λe43 q=>∃ s45,e43=.returned (.string s45)/\q λR46 CU=>Wk W R46 CU R26 O7/\Br (decide (s45≠(s2.extract 0 (min (↑s3.size:Int) 21).toNat).extract 0 n8.toNat)) (Zc W R46 CU Tryz.prog F.bV #[.pointer (some (Addr.mk rB rO none))] λe52 q=>e52=.returned (Value.tuple #[])/\q λW4 AJ=>Zr W W4 AJ J (.int .i64 0)) (Br (decide (BG<least)) (Zc W R46 CU Tryz.prog F.bV #[.pointer (some (Addr.mk rB rO none))] λe60 q=>e60=.returned (Value.tuple #[])/\q λR62 aJ2=>Zr W R62 aJ2 J (.int .i64 0)) (Zd W R46 CU λw66=>∃ s68,w66.cell? (Addr.mk rB rO none)=some (.string s68)/\aR (n8+1)/\(0<=n8+1/\n8+1<=(↑s68.size:Int)/\s68.size<=s68.size)/\∀ w69 R70,Ctx W w69 (R46++R70) CU->aE w69 rB rO 1/\∀ (w71:World),w71=w69.setCell (Addr.mk rB rO none) (Value.string (s68.extract (n8+1).toNat s68.size))->∃ R72 FB,aA FB/\Ctx W w71 (R72++R70) FB/\Zr W R72 FB J (.int .i64 BG)))))\/∃ (n76:Int) (u77:TypeId) (v78:Value),e21=.returned (Value.tuple #[.int .i64 n76,Value.iface u77 v78])/\∃ R79 JX,aA JX/\Ctx W w22 (R79++O6) JX/\∃ R81 aJ3,aA aJ3/\Wk W R79 JX R81 aJ3/\∃ (c85:Bool),(∀ (w86:World),Sem.run Tryz.prog ((eqGuard BinOp.neq 167 (Operand.tmp 36) (Operand.const Value.nilIface) (Value.iface u77 v78) Value.nilIface) >>= λ_=>binOp BinOp.neq 167 (Value.iface u77 v78) Value.nilIface) w86=Result.ok (Value.bool c85) w86)/\Br c85 (Zc W R79 JX Tryz.prog F.bV #[.pointer (some (Addr.mk rB rO none))] λe90 q=>e90=.returned (Value.tuple #[])/\q λR92 aYu=>Zr W R92 aYu J (.int .i64 0)) ((0<=n8/\n8<=(↑(s2.extract 0 (min (↑s3.size:Int) 21).toNat).size:Int))/\Zc W R79 JX Tryz.prog F.strconv_Itoa #[.int .i64 n76] λe98 q=>∃ aOb,e98=.returned (.string aOb)/\q λM9 PY=>Wk W M9 PY R81 aJ3/\Br (decide (aOb≠(s2.extract 0 (min (↑s3.size:Int) 21).toNat).extract 0 n8.toNat)) (Zc W M9 PY Tryz.prog F.bV #[.pointer (some (Addr.mk rB rO none))] λaYw q=>aYw=.returned (Value.tuple #[])/\q λa4N PZ=>Zr W a4N PZ J (.int .i64 0)) (Br (decide (n76<least)) (Zc W M9 PY Tryz.prog F.bV #[.pointer (some (Addr.mk rB rO none))] λaYx q=>aYx=.returned (Value.tuple #[])/\q λaJ4 aA0=>Zr W aJ4 aA0 J (.int .i64 0)) (Zd W M9 PY λaJ5=>∃ a0H,aJ5.cell? (Addr.mk rB rO none)=some (.string a0H)/\aR (n8+1)/\(0<=n8+1/\n8+1<=(↑a0H.size:Int)/\a0H.size<=a0H.size)/\∀ a8p aA1,Ctx W a8p (M9++aA1) PY->aE a8p rB rO 1/\∀ (aOc:World),aOc=a8p.setCell (Addr.mk rB rO none) (Value.string (a0H.extract (n8+1).toNat a0H.size))->∃ aA2 Y7,aA Y7/\Ctx W aOc (aA2++aA1) Y7/\Zr W aA2 Y7 J (.int .i64 n76)))))
theorem BH (rB rO:Nat) (nU:Int) (least:Int) {W w:World} {R:List Own} {Φ:PW} [aA Φ] {J:Value->World->Prop} (c:Ctx W w R Φ) (h:wB rB rO nU least W R Φ J):Calls Tryz.prog F.fK #[.pointer (some ⟨rB,rO,none⟩),.int .u8 nU,.int .i64 least] w λe w'=>∃ v,e=.returned v/\J v w' :=
 aB (H:={ keep:=some [0,1,2,6,7,8,9,10,26,50],cF:=[(7,[.held [(0,true),(1,true),(2,true),(3,true),(5,true),(6,true),(7,true),(4,false)],.aO [8,9,10,11,12,13,14] none])] }) (by rw [show aW Tryz.prog W { keep:=some [0,1,2,6,7,8,9,10,26,50],cF:=[(7,[.held [(0,true),(1,true),(2,true),(3,true),(5,true),(6,true),(7,true),(4,false)],.aO [8,9,10,11,12,13,14] none])] } F.fK #[.pointer (some ⟨rB,rO,none⟩),.int .u8 nU,.int .i64 least] R Φ J=wB rB rO nU least W R Φ J by kernel_rfl];exact h) c
def zU (rB rO:Nat) (W:World) (R:List Own) (Φ:PW) (J:Value->World->Prop):Prop :=
 ∀ w0 R1,Ctx W w0 (R++R1) Φ->aE w0 rB rO 1/\∀ (w2:World),w2=w0.setCell (Addr.mk rB rO none) (Value.string (ByteArray.mk #[]))->∃ R3 Φ4,aA Φ4/\Ctx W w2 (R3++R1) Φ4/\∀ w5 R6,Ctx W w5 (R3++R6) Φ4->aE w5 rB (rO+1) 1/\∀ (w7:World),w7=w5.setCell (Addr.mk rB (rO+1) none) (Value.bool true)->∃ R8 CC,aA CC/\Ctx W w7 (R8++R6) CC/\Zr W R8 CC J (Value.tuple #[])
theorem E3 (rB rO:Nat) {W w:World} {R:List Own} {Φ:PW} [aA Φ] {J:Value->World->Prop} (c:Ctx W w R Φ) (h:zU rB rO W R Φ J):Calls Tryz.prog F.bV #[.pointer (some ⟨rB,rO,none⟩)] w λe w'=>∃ v,e=.returned v/\J v w' :=
 aB (H:={ keep:=some [] }) (by rw [show aW Tryz.prog W { keep:=some [] } F.bV #[.pointer (some ⟨rB,rO,none⟩)] R Φ J=zU rB rO W R Φ J by kernel_rfl];exact h) c
def xY (rB rO:Nat) (nU:ByteArray) (W:World) (R:List Own) (Φ:PW) (J:Value->World->Prop):Prop :=
 Zd W R Φ λw0=>∃ s2,w0.cell? (Addr.mk rB rO none)=some (.string s2)/\Zc W R Φ Tryz.prog F.strings_CutPrefix #[.string s2,.string nU] λe5 q=>∃ s7 c8,e5=.returned (Value.tuple #[.string s7,.bool c8])/\q λR9 uN=>∀ QY uO,Ctx W QY (R9++uO) uN->aE QY rB rO 1/\∀ (w13:World),w13=QY.setCell (Addr.mk rB rO none) (Value.string s7)->∃ R14 M8,aA M8/\Ctx W w13 (R14++uO) M8/\Br (!c8) (Zc W R14 M8 Tryz.prog F.bV #[.pointer (some (Addr.mk rB rO none))] λe18 q=>e18=.returned (Value.tuple #[])/\q λO6 HQ=>Zr W O6 HQ J (Value.tuple #[])) (Zr W R14 M8 J (Value.tuple #[]))
theorem CV (rB rO:Nat) (nU:ByteArray) {W w:World} {R:List Own} {Φ:PW} [aA Φ] {J:Value->World->Prop} (c:Ctx W w R Φ) (h:xY rB rO nU W R Φ J):Calls Tryz.prog F.mX #[.pointer (some ⟨rB,rO,none⟩),.string nU] w λe w'=>∃ v,e=.returned v/\J v w' :=
 aB (H:={ keep:=some [0,4,5,20] }) (by rw [show aW Tryz.prog W { keep:=some [0,4,5,20] } F.mX #[.pointer (some ⟨rB,rO,none⟩),.string nU] R Φ J=xY rB rO nU W R Φ J by kernel_rfl];exact h) c
def Q2 (rB rO:Nat) (W:World) (R:List Own) (Φ:PW) (J:Value->World->Prop):Prop :=
 ∀ (b:Nat) (w0:World) (R1:List Own),Ctx W w0 (R++R1) Φ->Calls Tryz.prog F.bK #[.pointer (some (Addr.mk rB rO none))] w0 λe2 w3=>∃ n4,e2=.returned (.int .i64 n4)/\∃ R5 iQ,aA iQ/\Ctx W w3 (R5++R1) iQ/\Zc W R5 iQ Tryz.prog F.bK #[.pointer (some (Addr.mk rB rO none))] λe9 q=>∃ JS,e9=.returned (.int .i64 JS)/\q λuO j3=>∀ (b:Nat) (MA:World) (NO:List Own),Ctx W MA (uO++NO) j3->Calls Tryz.prog F.fM #[.pointer (some (Addr.mk rB rO none))] MA λe16 w17=>∃ CW,e16=.returned (.string CW)/\∃ KU tX,aA tX/\Ctx W w17 (KU++NO) tX/\Zr W KU tX J (Value.agg #[.int .i64 n4,.int .i64 JS,.string CW])
theorem QZ (rB rO:Nat) {W w:World} {R:List Own} {Φ:PW} [aA Φ] {J:Value->World->Prop} (c:Ctx W w R Φ) (h:Q2 rB rO W R Φ J):Calls Tryz.prog F.CP #[.pointer (some ⟨rB,rO,none⟩)] w λe w'=>∃ v,e=.returned v/\J v w' :=
 aB (H:={ keep:=some [0,2,3],bW:=[2,3] }) (by rw [show aW Tryz.prog W { keep:=some [0,2,3],bW:=[2,3] } F.CP #[.pointer (some ⟨rB,rO,none⟩)] R Φ J=Q2 rB rO W R Φ J by kernel_rfl];exact h) c
def MB (v0:Int) (v1:Int) (v2:ByteArray) (W:World) (R:List Own) (Φ:PW) (J:Value->World->Prop):Prop :=
 ∀ (b:Nat),∃ R0 bH,aA bH/\Wk W R Φ R0 bH/\Zc W R Φ Tryz.prog F.iX #[.int .i64 v0] λe6 q=>∃ s8,e6=.returned (.string s8)/\q λR9 uN=>Wk W R9 uN R0 bH/\Zc W R9 uN Tryz.prog F.iX #[.int .i64 v1] λe15 q=>∃ s17,e15=.returned (.string s17)/\q λWN RA=>Wk W WN RA R0 bH/\(s8.size+s17.size).le 9223372036854775807/\Zc W WN RA Tryz.prog F.tW #[.string v2] λe24 q=>∃ s26,e24=.returned (.string s26)/\q λCS HM=>Wk W CS HM R0 bH/\((s8++s17).size+s26.size).le 9223372036854775807/\Zr W CS HM J (.string (s8++s17++s26))
theorem O8 (v0:Int) (v1:Int) (v2:ByteArray) {W w:World} {R:List Own} {Φ:PW} [aA Φ] {J:Value->World->Prop} (c:Ctx W w R Φ) (h:MB v0 v1 v2 W R Φ J):Calls Tryz.prog F.zO #[.agg #[.int .i64 v0,.int .i64 v1,.string v2]] w λe w'=>∃ v,e=.returned v/\J v w' :=
 aB (H:={ keep:=some [1,2],bW:=[1],cF:=[(1,[.held [(0,true),(3,true),(7,true),(1,true),(4,true),(8,true),(2,false),(5,false),(6,true),(9,false)],.aO [10,11] none])] }) (by rw [show aW Tryz.prog W { keep:=some [1,2],bW:=[1],cF:=[(1,[.held [(0,true),(3,true),(7,true),(1,true),(4,true),(8,true),(2,false),(5,false),(6,true),(9,false)],.aO [10,11] none])] } F.zO #[.agg #[.int .i64 v0,.int .i64 v1,.string v2]] R Φ J=MB v0 v1 v2 W R Φ J by kernel_rfl];exact h) c
end Go.Proofs.YtfccagphnfceiaaGreatDoor
end

section
namespace Go.Proofs.YtfccagphnfceiaaGreatDoor
set_option maxRecDepth 100000
open Go.Vc
def Y8 (kind:Int) (a2l:Option Addr) (a0J a2m:Nat) (W:World) (R:List Own) (Φ:PW) (J:Value->World->Prop):Prop :=
 Br (decide (kind<0)) (Zr W R Φ J (.pointer none)) (Br (decide (3<=kind)) (Zr W R Φ J (.pointer none)) (Br (decide (0<(↑a0J:Int))) (Br (decide (kind≠1)) (Zr W R Φ J (.pointer none)) (Zc W R Φ Tryz.prog F.lI #[.slice a2l a0J a2m] λe8 q=>∃ Q3,e8=.returned (.int .i64 Q3)/\q λEP FC=>Br (decide (Q3<0)) (Zr W EP FC J (.pointer none)) (Zc W EP FC Tryz.prog F.cI #[.slice a2l a0J a2m] λe17 q=>∃ p19 k20 CT,e17=.returned (.slice p19 k20 CT)/\q λzQ lX=>∀ (W5:Nat) (w25:World) (R26:List Own),Ctx W w25 (Own.blk W5 [.int .i64 kind,.slice p19 k20 CT, .slice none 0 0,.slice none 0 0,.int .i64 0,.slice none 0 0] 92 :: zQ++R26) lX->J (.pointer (some (Addr.mk W5 0 none))) w25))) (Zc W R Φ Tryz.prog F.cI #[.slice a2l a0J a2m] λe29 q=>∃ p31 k32 W6,e29=.returned (.slice p31 k32 W6)/\q λS1 yU=>∀ (k36:Nat) (HR:World) (HO:List Own),Ctx W HR (Own.blk k36 [.int .i64 kind,.slice p31 k32 W6,.slice none 0 0,.slice none 0 0,.int .i64 0,.slice none 0 0] 92 :: S1++HO) yU->J (.pointer (some (Addr.mk k36 0 none))) HR)))
theorem WO (kind:Int) (a2l:Option Addr) (a0J a2m:Nat) {W w:World} {R:List Own} {Φ:PW} [aA Φ] {J:Value->World->Prop} (c:Ctx W w R Φ) (h:Y8 kind a2l a0J a2m W R Φ J):Calls Tryz.prog F.M6 #[.int .i64 kind,.slice a2l a0J a2m] w λe w'=>∃ v,e=.returned v/\J v w' :=
 aB (H:={ keep:=some [0,1,4,24],split:=[1] }) (by rw [show aW Tryz.prog W { keep:=some [0,1,4,24],split:=[1] } F.M6 #[.int .i64 kind,.slice a2l a0J a2m] R Φ J=Y8 kind a2l a0J a2m W R Φ J by kernel_rfl];exact h) c
def DL (sB sO:Nat) (W:World) (R:List Own) (Φ:PW) (J:Value->World->Prop):Prop :=
 Zd W R Φ λw0=>∃ p2 k3 k4,w0.cell? (Addr.mk sB (sO+2) none)=some (.slice p2 k3 k4)/\Br (decide ((↑k3:Int)=0)) (Zr W R Φ J (.int .i64 0)) (Zd W R Φ λw7=>∃ p9 xD Y2,w7.cell? (Addr.mk sB (sO+2) none)=some (.slice p9 xD Y2)/\∃ p12 JY JV,w7.cell? (Addr.mk sB (sO+2) none)=some (.slice p12 JY JV)/\aR ((↑JY:Int) - 1)/\(0<=(↑JY:Int) - 1/\(↑JY:Int) - 1<(↑xD:Int))/\jD none p9 λk15 RB=>∃ KV,w7.cell? (Addr.mk k15 (RB+((↑JY:Int) - 1).toNat) none)=some (.int .i64 KV)/\Zr W R Φ J (.int .i64 KV))
theorem HT (sB sO:Nat) {W w:World} {R:List Own} {Φ:PW} [aA Φ] {J:Value->World->Prop} (c:Ctx W w R Φ) (h:DL sB sO W R Φ J):Calls Tryz.prog F.rM #[.pointer (some ⟨sB,sO,none⟩)] w λe w'=>∃ v,e=.returned v/\J v w' :=
 aB (H:={ keep:=some [0,2,8] }) (by rw [show aW Tryz.prog W { keep:=some [0,2,8] } F.rM #[.pointer (some ⟨sB,sO,none⟩)] R Φ J=DL sB sO W R Φ J by kernel_rfl];exact h) c
def BI (sB sO:Nat) (W:World) (R:List Own) (Φ:PW) (J:Value->World->Prop):Prop :=
 Zd W R Φ λw0=>∃ p2 k3 k4,w0.cell? (Addr.mk sB (sO+3) none)=some (.slice p2 k3 k4)/\Zr W R Φ J (.int .i64 (↑k3:Int))
theorem FD (sB sO:Nat) {W w:World} {R:List Own} {Φ:PW} [aA Φ] {J:Value->World->Prop} (c:Ctx W w R Φ) (h:BI sB sO W R Φ J):Calls Tryz.prog F.fH #[.pointer (some ⟨sB,sO,none⟩)] w λe w'=>∃ v,e=.returned v/\J v w' :=
 aB (H:={ keep:=some [0,2] }) (by rw [show aW Tryz.prog W { keep:=some [0,2] } F.fH #[.pointer (some ⟨sB,sO,none⟩)] R Φ J=BI sB sO W R Φ J by kernel_rfl];exact h) c
def rT (aP:Option Addr) (aN aC:Nat) (bP:Option Addr) (bN bC:Nat) (W:World) (R:List Own) (Φ:PW) (J:Value->World->Prop):Prop :=
 Br (decide ((↑aN:Int)≠(↑bN:Int))) (Zr W R Φ J (.bool false)) (vZ λ(I2:Int->List Own->PW->Nat->Prop)=>(Zs W R Φ (I2 0))/\∀ n8 R9 I10 Y2,aA I10->I2 n8 R9 I10 Y2->Br (decide (n8<(↑aN:Int))) (Zi n8 aN aP λk12 JY=>Zd W R9 I10 λMA=>∃ MC KV W7 p19 k20 CT VZ BG n24,dH MA k12 (JY+n8.toNat*7) [.int .i64 MC,.int .i64 KV,.int .i64 W7,.slice p19 k20 CT,.int .i64 VZ,.int .i64 BG,.int .i64 n24]/\∀ (b:Nat),Zi n8 bN bP λk25 TD=>Zd W R9 I10 λw27=>∃ WQ W0 n31 p32 W6 Y9 Q4 n36 n37,dH w27 k25 (TD+n8.toNat*7) [.int .i64 WQ,.int .i64 W0,.int .i64 n31,.slice p32 W6 Y9,.int .i64 Q4,.int .i64 n36,.int .i64 n37]/\∀ (b:Nat),Br (decide (MC ≠ WQ)) (Zr W R9 I10 J (.bool false)) (Br (decide (KV≠W0)) (Zr W R9 I10 J (.bool false)) (Br (decide (W7≠n31)) (Zr W R9 I10 J (.bool false)) (Br (decide (VZ≠Q4)) (Zr W R9 I10 J (.bool false)) (Br (decide (BG≠n36)) (Zr W R9 I10 J (.bool false)) (Br (decide (n24≠n37)) (Zr W R9 I10 J (.bool false)) (Zc W R9 I10 Tryz.prog F.oE #[.slice p19 k20 CT,.slice p32 W6 Y9] λe52 q=>∃ c54,e52=.returned (.bool c54)/\q λR55 a8r=>Br (!c54) (Zr W R55 a8r J (.bool false)) (aR (n8+1)/\Zb W R55 a8r Y2 (I2 (n8+1)))))))))) (Zr W R9 I10 J (.bool true)))
theorem xZ (aP:Option Addr) (aN aC:Nat) (bP:Option Addr) (bN bC:Nat) {W w:World} {R:List Own} {Φ:PW} [aA Φ] {J:Value->World->Prop} (c:Ctx W w R Φ) (h:rT aP aN aC bP bN bC W R Φ J):Calls Tryz.prog F.fA #[.slice aP aN aC,.slice bP bN bC] w λe w'=>∃ v,e=.returned v/\J v w' :=
 aB (H:={ keep:=some [0,1,4,5,6,7,12,16,74],bW:=[6,7],split:=[8],loops:=[(4,[(5,.one (.int .i64))],[])] }) (by rw [show aW Tryz.prog W { keep:=some [0,1,4,5,6,7,12,16,74],bW:=[6,7],split:=[8],loops:=[(4,[(5,.one (.int .i64))],[])] } F.fA #[.slice aP aN aC,.slice bP bN bC] R Φ J=rT aP aN aC bP bN bC W R Φ J by kernel_rfl];exact h) c
def yA (sB sO:Nat) (batch:Int) (cY:Option Addr) (cQ aX:Nat) (W:World) (R:List Own) (Φ:PW) (J:Value->World->Prop):Prop :=
 Zd W R Φ λw0=>∃ n2,w0.cell? (Addr.mk sB sO none)=some (.int .i64 n2)/\Br (decide (n2=0)) (Zr W R Φ J (.int .i64 7)) (Zc W R Φ Tryz.prog F.jT #[.pointer (some (Addr.mk sB sO none)),.int .i64 batch] λe7 q=>∃ c9,e7=.returned (.bool c9)/\q λpP lK=>Br c9 (Zr W pP lK J (.int .i64 0)) (Zc W pP lK Tryz.prog F.kP #[.pointer (some (Addr.mk sB sO none)),.int .i64 batch,.slice cY cQ aX] λe16 q=>∃ W7,e16=.returned (.int .i64 W7)/\q λKU tX=>Br (decide (W7≠0)) (Zr W KU tX J (.int .i64 W7)) (Zc W KU tX Tryz.prog F.tV #[.slice cY cQ aX] λe25 q=>∃ p27 k28 k29,e25=.returned (.slice p27 k28 k29)/\q λTI FE=>Zc W TI FE Tryz.prog F.nR #[.pointer (some (Addr.mk sB sO none)),.int .i64 batch,.slice p27 k28 k29] λe34 q=>e34=.returned (Value.tuple #[])/\q λKW FF=>Zr W KW FF J (.int .i64 0))))
theorem CX (sB sO:Nat) (batch:Int) (cY:Option Addr) (cQ aX:Nat) {W w:World} {R:List Own} {Φ:PW} [aA Φ] {J:Value->World->Prop} (c:Ctx W w R Φ) (h:yA sB sO batch cY cQ aX W R Φ J):Calls Tryz.prog F.mU #[.pointer (some ⟨sB,sO,none⟩),.int .i64 batch,.slice cY cQ aX] w λe w'=>∃ v,e=.returned v/\J v w' :=
 aB (H:={ keep:=some [0,1,2,6,7,8,14,23] }) (by rw [show aW Tryz.prog W { keep:=some [0,1,2,6,7,8,14,23] } F.mU #[.pointer (some ⟨sB,sO,none⟩),.int .i64 batch,.slice cY cQ aX] R Φ J=yA sB sO batch cY cQ aX W R Φ J by kernel_rfl];exact h) c
def wC (xP:Option Addr) (xN xC:Nat) (W:World) (R:List Own) (Φ:PW) (J:Value->World->Prop):Prop :=
 Br (decide ((↑xN:Int)<1)) (Zd W R Φ λw0=>False) (((0:Int)<=0/\0<(↑xN:Int))/\jD none xP λk2 k3=>Zd W R Φ λw4=>∃ n6,w4.cell? (Addr.mk k2 k3 none)=some (.int .i64 n6)/\vZ λ(I7:Int->Int->List Own->PW->Nat->Prop)=>(Zs W R Φ (I7 n6 1))/\∀ n13 EO NO I16 k17,aA I16->I7 n13 EO NO I16 k17->Br (decide (EO<(↑xN:Int))) (Zi EO xN xP λER FG=>Zd W NO I16 λW8=>∃ VZ,W8.cell? (Addr.mk ER (FG+EO.toNat) none)=some (.int .i64 VZ)/\aR (EO+1)/\Zb W NO I16 k17 (I7 (min n13 VZ) (EO+1))) (Zr W NO I16 J (.int .i64 n13)))
theorem BJ (xP:Option Addr) (xN xC:Nat) {W w:World} {R:List Own} {Φ:PW} [aA Φ] {J:Value->World->Prop} (c:Ctx W w R Φ) (h:wC xP xN xC W R Φ J):Calls Tryz.prog F.lI #[.slice xP xN xC] w λe w'=>∃ v,e=.returned v/\J v w' :=
 aB (H:={ keep:=some [0,2,3,4,7,15],loops:=[(5,[(3,.one (.int .i64)),(4,.one (.int .i64))],[])] }) (by rw [show aW Tryz.prog W { keep:=some [0,2,3,4,7,15],loops:=[(5,[(3,.one (.int .i64)),(4,.one (.int .i64))],[])] } F.lI #[.slice xP xN xC] R Φ J=wC xP xN xC W R Φ J by kernel_rfl];exact h) c
def sY (sP:Option Addr) (sN sC:Nat) (W:World) (R:List Own) (Φ:PW) (J:Value->World->Prop):Prop :=
 Br sP.isNone (Zr W R Φ J (.slice none 0 0)) (∀ (k2:Nat) (w3:World) (R4:List Own),Ctx W w3 (Own.blk k2 [] 3 :: R++R4) Φ->∃ (p5:Option Addr) (k6 k7:Nat) (w8:World),Sem.run Tryz.prog (builtin Builtin.append #[23,23] 23 #[false,false] #[.slice (some (Addr.mk k2 0 none)) 0 0,.slice sP sN sC]) w3=.ok (.value (.slice p5 k6 k7)) w8/\∃ R9 uN,aA uN/\Ctx W w8 (R9++R4) uN/\Zr W R9 uN J (.slice p5 k6 k7))
theorem oP (sP:Option Addr) (sN sC:Nat) {W w:World} {R:List Own} {Φ:PW} [aA Φ] {J:Value->World->Prop} (c:Ctx W w R Φ) (h:sY sP sN sC W R Φ J):Calls Tryz.prog F.cI #[.slice sP sN sC] w λe w'=>∃ v,e=.returned v/\J v w' :=
 aB (H:={ keep:=some [0,2,4] }) (by rw [show aW Tryz.prog W { keep:=some [0,2,4] } F.cI #[.slice sP sN sC] R Φ J=sY sP sN sC W R Φ J by kernel_rfl];exact h) c
def zV (aP:Option Addr) (aN aC:Nat) (bP:Option Addr) (bN bC:Nat) (W:World) (R:List Own) (Φ:PW) (J:Value->World->Prop):Prop :=
 Zc W R Φ Tryz.prog F.iC #[.slice aP aN aC,.slice bP bN bC] λe2 q=>∃ n4,e2=.returned (.int .i64 n4)/\q λR5 iQ=>Zr W R5 iQ J (.bool (decide (n4=0)))
theorem E4 (aP:Option Addr) (aN aC:Nat) (bP:Option Addr) (bN bC:Nat) {W w:World} {R:List Own} {Φ:PW} [aA Φ] {J:Value->World->Prop} (c:Ctx W w R Φ) (h:zV aP aN aC bP bN bC W R Φ J):Calls Tryz.prog F.oE #[.slice aP aN aC,.slice bP bN bC] w λe w'=>∃ v,e=.returned v/\J v w' :=
 aB (H:={ keep:=some [0,1,4] }) (by rw [show aW Tryz.prog W { keep:=some [0,1,4] } F.oE #[.slice aP aN aC,.slice bP bN bC] R Φ J=zV aP aN aC bP bN bC W R Φ J by kernel_rfl];exact h) c
def Q5 (lP:Option Addr) (lN lC:Nat) (W:World) (R:List Own) (Φ:PW) (J:Value->World->Prop):Prop :=
 Zc W R Φ Tryz.prog F.bG #[.slice lP lN lC] λe2 q=>∃ p4 k5 k6,e2=.returned (.slice p4 k5 k6)/\q λR7 E2=>vZ λ(I9:Int->List Own->PW->Nat->Prop)=>(Zs W R7 E2 (I9 0))/\∀ nT E5 W9 ER,aA W9->I9 nT E5 W9 ER->Br (decide (nT<(↑k5:Int))) (Zi nT k5 p4 λFG k20=>Zd W E5 W9 λw21=>∃ BG n24 n25 p26 S0 k28 WQ W0 n31,dH w21 FG (k20+nT.toNat*7) [.int .i64 BG,.int .i64 n24,.int .i64 n25,.slice p26 S0 k28,.int .i64 WQ,.int .i64 W0,.int .i64 n31]/\∀ (b:Nat) (KX:World) (AW:List Own),Ctx W KX (E5++AW) W9->Calls Tryz.prog F.bT #[.slice p26 S0 k28] KX λe34 KS=>∃ p36 k37 k38,e34=.returned (.slice p36 k37 k38)/\∃ R39 TJ,aA TJ/\Ctx W KS (R39++AW) TJ/\Zi nT k5 p4 λk41 k42=>∀ w43 R44,Ctx W w43 (R39++R44) TJ->aE w43 k41 (k42+nT.toNat*7+3) 1/\∀ (w45:World),w45=w43.setCell (Addr.mk k41 (k42+nT.toNat*7+3) none) (Value.slice p36 k37 k38)->∃ R46 CU,aA CU/\Ctx W w45 (R46++R44) CU/\aR (nT+1)/\Zb W R46 CU ER (I9 (nT+1))) (Zr W E5 W9 J (.slice p4 k5 k6))
theorem RC (lP:Option Addr) (lN lC:Nat) {W w:World} {R:List Own} {Φ:PW} [aA Φ] {J:Value->World->Prop} (c:Ctx W w R Φ) (h:Q5 lP lN lC W R Φ J):Calls Tryz.prog F.tV #[.slice lP lN lC] w λe w'=>∃ v,e=.returned v/\J v w' :=
 aB (H:={ keep:=some [0,2,3,4,5,8,9,10,11],bW:=[5],loops:=[(3,[(10,.one (.int .i64))],[])] }) (by rw [show aW Tryz.prog W { keep:=some [0,2,3,4,5,8,9,10,11],bW:=[5],loops:=[(3,[(10,.one (.int .i64))],[])] } F.tV #[.slice lP lN lC] R Φ J=Q5 lP lN lC W R Φ J by kernel_rfl];exact h) c
def DM (sB sO:Nat) (W:World) (R:List Own) (Φ:PW) (J:Value->World->Prop):Prop :=
 Zd W R Φ λw0=>∃ n2,w0.cell? (Addr.mk sB sO none)=some (.int .i64 n2)/\Zr W R Φ J (.int .i64 n2)
theorem HU (sB sO:Nat) {W w:World} {R:List Own} {Φ:PW} [aA Φ] {J:Value->World->Prop} (c:Ctx W w R Φ) (h:DM sB sO W R Φ J):Calls Tryz.prog F.kM #[.pointer (some ⟨sB,sO,none⟩)] w λe w'=>∃ v,e=.returned v/\J v w' :=
 aB (H:={ keep:=some [0,2] }) (by rw [show aW Tryz.prog W { keep:=some [0,2] } F.kM #[.pointer (some ⟨sB,sO,none⟩)] R Φ J=DM sB sO W R Φ J by kernel_rfl];exact h) c
def wD (sB sO:Nat) (W:World) (R:List Own) (Φ:PW) (J:Value->World->Prop):Prop :=
 Zd W R Φ λw0=>∃ n2,w0.cell? (Addr.mk sB (sO+4) none)=some (.int .i64 n2)/\Zr W R Φ J (.int .i64 n2)
theorem BK (sB sO:Nat) {W w:World} {R:List Own} {Φ:PW} [aA Φ] {J:Value->World->Prop} (c:Ctx W w R Φ) (h:wD sB sO W R Φ J):Calls Tryz.prog F.lJ #[.pointer (some ⟨sB,sO,none⟩)] w λe w'=>∃ v,e=.returned v/\J v w' :=
 aB (H:={ keep:=some [0,2] }) (by rw [show aW Tryz.prog W { keep:=some [0,2] } F.lJ #[.pointer (some ⟨sB,sO,none⟩)] R Φ J=wD sB sO W R Φ J by kernel_rfl];exact h) c
def BL (sB sO:Nat) (batch:Int) (W:World) (R:List Own) (Φ:PW) (J:Value->World->Prop):Prop :=
 Zd W R Φ λw0=>∃ n2,w0.cell? (Addr.mk sB sO none)=some (.int .i64 n2)/\Br (decide (n2≠0)) (Zr W R Φ J (.int .i64 7)) (Zc W R Φ Tryz.prog F.jT #[.pointer (some (Addr.mk sB sO none)),.int .i64 batch] λe7 q=>∃ c9,e7=.returned (.bool c9)/\q λpP lK=>Br c9 (Zr W pP lK J (.int .i64 7)) (Zd W pP lK λMA=>∃ (MC:Int),((!decide (batch<1))=true->MA.cell? (Addr.mk sB (sO+4) none)=some (.int .i64 MC))/\Br (decide (batch<1)||decide (batch≠MC)) (Zr W pP lK J (.int .i64 4)) (∀ PV O6,Ctx W PV (pP++O6) lK->aE PV sB (sO+4) 1/\∀ (w21:World),w21=PV.setCell (Addr.mk sB (sO+4) none) (Value.int IntKind.i64 0)->∃ zQ lX,aA lX /\ Ctx W w21 (zQ++O6) lX/\∀ TC R25,Ctx W TC (zQ++R25) lX->aE TC sB (sO+5) 1/\∀ (JR:World),JR=TC.setCell (Addr.mk sB (sO+5) none) (Value.slice none 0 0)->∃ CS HM,aA HM/\Ctx W JR (CS++R25) HM/\Zr W CS HM J (.int .i64 0))))
theorem FH (sB sO:Nat) (batch:Int) {W w:World} {R:List Own} {Φ:PW} [aA Φ] {J:Value->World->Prop} (c:Ctx W w R Φ) (h:BL sB sO batch W R Φ J):Calls Tryz.prog F.qH #[.pointer (some ⟨sB,sO,none⟩),.int .i64 batch] w λe w'=>∃ v,e=.returned v/\J v w' :=
 aB (H:={ keep:=some [0,1,4,5,16],split:=[1] }) (by rw [show aW Tryz.prog W { keep:=some [0,1,4,5,16],split:=[1] } F.qH #[.pointer (some ⟨sB,sO,none⟩),.int .i64 batch] R Φ J=BL sB sO batch W R Φ J by kernel_rfl];exact h) c
def yB (sB sO:Nat) (batch:Int) (cY:Option Addr) (cQ aX:Nat) (W:World) (R:List Own) (Φ:PW) (J:Value->World->Prop):Prop :=
 Zd W R Φ λw0=>∃ n2,w0.cell? (Addr.mk sB sO none)=some (.int .i64 n2)/\Br (decide (n2≠0)) (Zr W R Φ J (.int .i64 7)) (Zc W R Φ Tryz.prog F.jT #[.pointer (some (Addr.mk sB sO none)),.int .i64 batch] λe7 q=>∃ c9,e7=.returned (.bool c9)/\q λpP lK=>Br c9 (Zr W pP lK J (.int .i64 0)) (Zc W pP lK Tryz.prog F.kP #[.pointer (some (Addr.mk sB sO none)),.int .i64 batch,.slice cY cQ aX] λe16 q=>∃ W7,e16=.returned (.int .i64 W7)/\q λKU tX=>Br (decide (W7≠0)) (Zr W KU tX J (.int .i64 W7)) (Zc W KU tX Tryz.prog F.tV #[.slice cY cQ aX] λe25 q=>∃ p27 k28 k29,e25=.returned (.slice p27 k28 k29)/\q λTI FE=>∀ KX AW,Ctx W KX (TI++AW) FE->aE KX sB (sO+4) 1/\∀ (w34:World),w34=KX.setCell (Addr.mk sB (sO+4) none) (Value.int IntKind.i64 batch)->∃ R35 O9,aA O9/\Ctx W w34 (R35++AW) O9/\∀ HR HO,Ctx W HR (R35++HO) O9->aE HR sB (sO+5) 1/\∀ (w39:World),w39=HR.setCell (Addr.mk sB (sO+5) none) (Value.slice p27 k28 k29)->∃ R40 RD,aA RD/\Ctx W w39 (R40++HO) RD/\Zr W R40 RD J (.int .i64 0))))
theorem CY (sB sO:Nat) (batch:Int) (cY:Option Addr) (cQ aX:Nat) {W w:World} {R:List Own} {Φ:PW} [aA Φ] {J:Value->World->Prop} (c:Ctx W w R Φ) (h:yB sB sO batch cY cQ aX W R Φ J):Calls Tryz.prog F.jN #[.pointer (some ⟨sB,sO,none⟩),.int .i64 batch,.slice cY cQ aX] w λe w'=>∃ v,e=.returned v/\J v w' :=
 aB (H:={ keep:=some [0,1,2,6,7,8,14,23] }) (by rw [show aW Tryz.prog W { keep:=some [0,1,2,6,7,8,14,23] } F.jN #[.pointer (some ⟨sB,sO,none⟩),.int .i64 batch,.slice cY cQ aX] R Φ J=yB sB sO batch cY cQ aX W R Φ J by kernel_rfl];exact h) c
def DN (sB sO:Nat) (W:World) (R:List Own) (Φ:PW) (J:Value->World->Prop):Prop :=
 Zd W R Φ λw0=>∃ n2 p3 k4 k5 p6 k7 k8 p9 xD Y2 n12 WL JV k15,dH w0 sB sO [.int .i64 n2,.slice p3 k4 k5,.slice p6 k7 k8,.slice p9 xD Y2,.int .i64 n12,.slice WL JV k15]/\∀ (RB:Nat) (w17:World) (WN:List Own),Ctx W w17 (Own.blk RB [.int .i64 0,.slice none 0 0,.slice none 0 0,.slice none 0 0,.int .i64 0,.slice none 0 0] 92 :: R++WN) Φ->aE w17 RB 0 6/\∀ (PV:World),PV=w17.setCells RB 0 [.int .i64 n2,.slice p3 k4 k5,.slice p6 k7 k8,.slice p9 xD Y2,.int .i64 n12,.slice WL JV k15]->∃ O6 HQ,aA HQ/\Ctx W PV (O6++WN) HQ/\∃ zQ lX,aA lX/\Wk W O6 HQ zQ lX/\∃ (p26:Option Addr) (S0 k28:Nat),(Zd W zQ lX λw29=>∃ p31 k32 W6,w29.cell? (Addr.mk sB (sO+1) none)=some (.slice p31 k32 W6)/\Value.slice p31 k32 W6=Value.slice p26 S0 k28)/\∃ (p34:Option Addr) (k35 k36:Nat),(Zd W zQ lX λHR=>∃ p39 k40 k41,HR.cell? (Addr.mk sB (sO+2) none)=some (.slice p39 k40 k41)/\Value.slice p39 k40 k41=Value.slice p34 k35 k36)/\∃ (p42:Option Addr) (k43 k44:Nat),(Zd W zQ lX λw45=>∃ p47 k48 k49,w45.cell? (Addr.mk sB (sO+3) none)=some (.slice p47 k48 k49)/\Value.slice p47 k48 k49=Value.slice p42 k43 k44)/\∃ (p50:Option Addr) (YA k52:Nat),(Zd W zQ lX λw53=>∃ p55 k56 k57,w53.cell? (Addr.mk sB (sO+5) none)=some (.slice p55 k56 k57)/\Value.slice p55 k56 k57=Value.slice p50 YA k52)/\Zc W O6 HQ Tryz.prog F.cI #[.slice p26 S0 k28] λe60 q=>∃ p62 k63 k64,e60=.returned (.slice p62 k63 k64)/\q λR65 a8u=>Wk W R65 a8u zQ lX/\Zc W R65 a8u Tryz.prog F.cI #[.slice p34 k35 k36] λe71 q=>∃ p73 k74 k75,e71=.returned (.slice p73 k74 k75)/\q λR76 aBd=>Wk W R76 aBd zQ lX/\Zc W R76 aBd Tryz.prog F.bG #[.slice p42 k43 k44] λe82 q=>∃ p84 k85 k86,e82=.returned (.slice p84 k85 k86)/\q λR87 a0N=>Wk W R87 a0N zQ lX/\Zc W R87 a0N Tryz.prog F.bG #[.slice p50 YA k52] λe93 q=>∃ p95 k96 k97,e93=.returned (.slice p95 k96 k97)/\q λR98 aBe=>∀ a8v M9,Ctx W a8v (R98++M9) aBe->aE a8v RB 1 1/\∀ (aFE:World),aFE=a8v.setCell (Addr.mk RB 1 none) (Value.slice p62 k63 k64)->∃ a2r MD,aA MD /\ Ctx W aFE (a2r++M9) MD/\∀ a2s a4Q,Ctx W a2s (a2r++a4Q) MD->aE a2s RB 2 1/\∀ (aOp:World),aOp=a2s.setCell (Addr.mk RB 2 none) (Value.slice p73 k74 k75)->∃ aBf TK,aA TK/\Ctx W aOp (aBf++a4Q) TK/\∀ a4R aBg,Ctx W a4R (aBf++aBg) TK->aE a4R RB 3 1/\∀ (a0O:World),a0O=a4R.setCell (Addr.mk RB 3 none) (Value.slice p84 k85 k86)->∃ E6 sZ,aA sZ/\Ctx W a0O (E6++aBg) sZ/\∀ aKe aOq,Ctx W aKe (E6++aOq) sZ->aE aKe RB 5 1/\∀ (aFF:World),aFF=aKe.setCell (Addr.mk RB 5 none) (Value.slice p95 k96 k97)->∃ aOr aBh,aA aBh/\Ctx W aFF (aOr++aOq) aBh/\Zr W aOr aBh J (.pointer (some (Addr.mk RB 0 none)))
theorem HV (sB sO:Nat) {W w:World} {R:List Own} {Φ:PW} [aA Φ] {J:Value->World->Prop} (c:Ctx W w R Φ) (h:DN sB sO W R Φ J):Calls Tryz.prog F.rQ #[.pointer (some ⟨sB,sO,none⟩)] w λe w'=>∃ v,e=.returned v/\J v w' :=
 aB (H:={ keep:=some [0,2,3],cF:=[(2,[.held [(0,true),(5,true),(10,true),(15,true),(1,true),(6,true),(11,true),(16,true),(2,true),(7,true),(12,true),(17,true),(3,true),(8,true),(13,true),(18,true),(4,false),(9,false),(14,false)],.aO [] (some 19),.aO [20] (some 21),.aO [22] (some 23),.aO [24] (some 25),.aO [26] (some 27)])] }) (by rw [show aW Tryz.prog W { keep:=some [0,2,3],cF:=[(2,[.held [(0,true),(5,true),(10,true),(15,true),(1,true),(6,true),(11,true),(16,true),(2,true),(7,true),(12,true),(17,true),(3,true),(8,true),(13,true),(18,true),(4,false),(9,false),(14,false)],.aO [] (some 19),.aO [20] (some 21),.aO [22] (some 23),.aO [24] (some 25),.aO [26] (some 27)])] } F.rQ #[.pointer (some ⟨sB,sO,none⟩)] R Φ J=DN sB sO W R Φ J by kernel_rfl];exact h) c
def DO (rP:Option Addr) (rN rC:Nat) (W:World) (R:List Own) (Φ:PW) (J:Value->World->Prop):Prop :=
 Br (decide ((↑rN:Int)<=12)) (Zc W R Φ Tryz.prog F.GV #[.slice rP rN rC] λe2 q=>∃ c4,e2=.returned (.bool c4)/\q λR5 iQ=>Zr W R5 iQ J (.bool c4)) (Zr W R Φ J (.bool false))
theorem HW (rP:Option Addr) (rN rC:Nat) {W w:World} {R:List Own} {Φ:PW} [aA Φ] {J:Value->World->Prop} (c:Ctx W w R Φ) (h:DO rP rN rC W R Φ J):Calls Tryz.prog F.kN #[.slice rP rN rC] w λe w'=>∃ v,e=.returned v/\J v w' :=
 aB (H:={ keep:=some [0,2],split:=[1] }) (by rw [show aW Tryz.prog W { keep:=some [0,2],split:=[1] } F.kN #[.slice rP rN rC] R Φ J=DO rP rN rC W R Φ J by kernel_rfl];exact h) c
def FI (sB sO:Nat) (batch:Int) (W:World) (R:List Own) (Φ:PW) (J:Value->World->Prop):Prop :=
 Zd W R Φ λw0=>∃ p2 k3 k4,w0.cell? (Addr.mk sB (sO+2) none)=some (.slice p2 k3 k4)/\Zc W R Φ Tryz.prog F.fO #[.slice p2 k3 k4,.int .i64 batch] λe7 q=>∃ n9 c10,e7=.returned (Value.tuple #[.int .i64 n9,.bool c10])/\q λEP FC=>Zr W EP FC J (.bool c10)
theorem JZ (sB sO:Nat) (batch:Int) {W w:World} {R:List Own} {Φ:PW} [aA Φ] {J:Value->World->Prop} (c:Ctx W w R Φ) (h:FI sB sO batch W R Φ J):Calls Tryz.prog F.jT #[.pointer (some ⟨sB,sO,none⟩),.int .i64 batch] w λe w'=>∃ v,e=.returned v/\J v w' :=
 aB (H:={ keep:=some [0,1,4,6] }) (by rw [show aW Tryz.prog W { keep:=some [0,1,4,6] } F.jT #[.pointer (some ⟨sB,sO,none⟩),.int .i64 batch] R Φ J=FI sB sO batch W R Φ J by kernel_rfl];exact h) c
def DP (sB sO:Nat) (batch:Int) (cY:Option Addr) (cQ aX:Nat) (W:World) (R:List Own) (Φ:PW) (J:Value->World->Prop):Prop :=
 Br (decide (batch<1)) (Zr W R Φ J (.int .i64 25)) (Zc W R Φ Tryz.prog F.rM #[.pointer (some (Addr.mk sB sO none))] λe4 q=>∃ n6,e4=.returned (.int .i64 n6)/\q λR7 E2=>Br (decide (batch<=n6)) (Zr W R7 E2 J (.int .i64 25)) (vZ λ(S3:Int->List Own->PW->Nat->Prop)=>(Zs W R7 E2 (S3 0))/\∀ KV WN I19 k20,aA I19->S3 KV WN I19 k20->Br (decide (KV<(↑cQ:Int))) (Zi KV cQ cY λCT E0=>Zd W WN I19 λYB=>∃ n25 WR n27 p28 k29 k30 n31 n32 WS,dH YB CT (E0+KV.toNat*7) [.int .i64 n25,.int .i64 WR,.int .i64 n27,.slice p28 k29 k30,.int .i64 n31,.int .i64 n32,.int .i64 WS]/\∀ (Y9:Nat) (KS : World) (KW:List Own),Ctx W KS (Own.blk Y9 [.int .i64 0,.int .i64 0,.int .i64 0,.slice none 0 0,.int .i64 0,.int .i64 0,.int .i64 0] 31 :: WN++KW) I19->aE KS Y9 0 7/\∀ (HR:World),HR=KS.setCells Y9 0 [.int .i64 n25,.int .i64 WR,.int .i64 n27,.slice p28 k29 k30,.int .i64 n31,.int .i64 n32,.int .i64 WS]->∃ HO rF,aA rF/\Ctx W HR (HO++KW) rF/\Zd W HO rF λw40=>∃ p42 k43 k44,w40.cell? (Addr.mk sB (sO+1) none)=some (.slice p42 k43 k44)/\Zc W HO rF Tryz.prog F.fP #[.slice p42 k43 k44,Value.func (Fn.func 163) #[] #[.pointer (some (Addr.mk Y9 0 none))]] λe47 q=>∃ c49,e47=.returned (.bool c49)/\q λR50 WT=>Zd W R50 WT λw52=>∃ n54,w52.cell? (Addr.mk Y9 1 none)=some (.int .i64 n54)/\Br (decide (n54≠batch)) (Zr W R50 WT J (.int .i64 1)) (Zd W R50 WT λw57=>∃ n59,w57.cell? (Addr.mk Y9 4 none)=some (.int .i64 n59)/\Br (decide (n59=0)) (Zr W R50 WT J (.int .i64 1)) (Zd W R50 WT λw62=>∃ p64 k65 k66,w62.cell? (Addr.mk Y9 3 none)=some (.slice p64 k65 k66)/\Zc W R50 WT Tryz.prog F.kN #[.slice p64 k65 k66] λe69 q=>∃ c71,e69=.returned (.bool c71)/\q λR72 FB=>Br (!c71) (Zr W R72 FB J (.int .i64 1)) (Br c49 (Zr W R72 FB J (.int .i64 1)) (aR (KV+1)/\Zb W R72 FB k20 (S3 (KV+1))))))) (vZ λ(I83:Int->List Own->PW -> Nat->Prop)=>(Zs W WN I19 (I83 0))/\∀ n89 R90 I91 k92,aA I91->I83 n89 R90 I91 k92->Br (decide (n89<(↑cQ:Int))) (Zi n89 cQ cY λk93 k94=>Zd W R90 I91 λw95=>∃ n97 n98 n99 aFG aFH aYD n103 n104 n105,dH w95 k93 (k94+n89.toNat*7) [.int .i64 n97,.int .i64 n98,.int .i64 n99,.slice aFG aFH aYD,.int .i64 n103,.int .i64 n104,.int .i64 n105]/\∀ (b:Nat) (a8x:World) (aYE:List Own),Ctx W a8x (R90++aYE) I91->∃ a4S a4T aKh,a8x.cell? (Addr.mk sB (sO+3) none)=some (.slice a4S a4T aKh)/\aR ((↑a4T:Int)+1)/\aR ((↑a4T:Int)+1+n89)/\Br (decide (n97≠(↑a4T:Int)+1+n89)) (Zr W R90 I91 J (.int .i64 25)) (aR (n89+1)/\∃ E6 sZ WU,aA sZ/\Wk W R90 I91 E6 sZ /\ I83 (n89+1) E6 sZ WU/\WU<k92)) (Zr W R90 I91 J (.int .i64 0)))))
theorem HX (sB sO:Nat) (batch:Int) (cY:Option Addr) (cQ aX:Nat) {W w:World} {R:List Own} {Φ:PW} [aA Φ] {J:Value->World->Prop} (c:Ctx W w R Φ) (h:DP sB sO batch cY cQ aX W R Φ J):Calls Tryz.prog F.kP #[.pointer (some ⟨sB,sO,none⟩),.int .i64 batch,.slice cY cQ aX] w λe w'=>∃ v,e=.returned v/\J v w' :=
 aB (H:={ keep:=some [0,1,2,6,8,9,10,11,19,20,21,22,23,49,51,52,53,54,68],bW:=[11],split:=[1,7],loops:=[(11,[(53,.one (.int .i64))],[]),(4,[(22,.one (.int .i64))],[])] }) (by rw [show aW Tryz.prog W { keep:=some [0,1,2,6,8,9,10,11,19,20,21,22,23,49,51,52,53,54,68],bW:=[11],split:=[1,7],loops:=[(11,[(53,.one (.int .i64))],[]),(4,[(22,.one (.int .i64))],[])] } F.kP #[.pointer (some ⟨sB,sO,none⟩),.int .i64 batch,.slice cY cQ aX] R Φ J=DP sB sO batch cY cQ aX W R Φ J by kernel_rfl];exact h) c
def DQ (sB sO:Nat) (batch:Int) (cY:Option Addr) (cQ aX:Nat) (W:World) (R:List Own) (Φ:PW) (J:Value->World->Prop):Prop :=
 Zd W R Φ λw0=>∃ p2 k3 k4,w0.cell? (Addr.mk sB (sO+2) none)=some (.slice p2 k3 k4)/\∀ (k5:Nat) (w6:World) (R7:List Own),Ctx W w6 (Own.blk k5 [.int .i64 batch] 3 :: R++R7) Φ->∃ (p8:Option Addr) (k9 xD:Nat) (QY:World),Sem.run Tryz.prog (builtin Builtin.append #[23,23] 23 #[false,false] #[.slice p2 k3 k4,.slice (some (Addr.mk k5 0 none)) 1 1]) w6=.ok (.value (.slice p8 k9 xD)) QY/\∃ uO j3,aA j3/\Ctx W QY (uO++R7) j3/\∀ MA NO,Ctx W MA (uO++NO) j3->aE MA sB (sO+2) 1/\∀ (Y4:World),Y4=MA.setCell (Addr.mk sB (sO+2) none) (Value.slice p8 k9 xD)->∃ PU xX,aA xX/\Ctx W Y4 (PU++NO) xX/\Zd W PU xX λPV=>∃ p21 E0 k23,PV.cell? (Addr.mk sB (sO+3) none)=some (.slice p21 E0 k23)/\∀ TC R25,Ctx W TC (PU++R25) xX->∃ (p26:Option Addr) (S0 k28:Nat) (w29 : World),Sem.run Tryz.prog (builtin Builtin.append #[22,22] 22 #[false,false] #[.slice p21 E0 k23,.slice cY cQ aX]) TC=.ok (.value (.slice p26 S0 k28)) w29/\∃ TI FE,aA FE/\Ctx W w29 (TI++R25) FE/\∀ KX AW,Ctx W KX (TI++AW) FE->aE KX sB (sO+3) 1/\∀ (w34:World),w34=KX.setCell (Addr.mk sB (sO+3) none) (Value.slice p26 S0 k28)->∃ R35 O9,aA O9/\Ctx W w34 (R35++AW) O9/\Zr W R35 O9 J (Value.tuple #[])
theorem HY (sB sO:Nat) (batch:Int) (cY:Option Addr) (cQ aX:Nat) {W w:World} {R:List Own} {Φ:PW} [aA Φ] {J:Value->World->Prop} (c:Ctx W w R Φ) (h:DQ sB sO batch cY cQ aX W R Φ J):Calls Tryz.prog F.nR #[.pointer (some ⟨sB,sO,none⟩),.int .i64 batch,.slice cY cQ aX] w λe w'=>∃ v,e=.returned v/\J v w' :=
 aB (H:={ keep:=some [0,2] }) (by rw [show aW Tryz.prog W { keep:=some [0,2] } F.nR #[.pointer (some ⟨sB,sO,none⟩),.int .i64 batch,.slice cY cQ aX] R Φ J=DQ sB sO batch cY cQ aX W R Φ J by kernel_rfl];exact h) c
def pQ (aP:Option Addr) (aN aC:Nat) (bP:Option Addr) (bN bC:Nat) (W:World) (R:List Own) (Φ:PW) (J:Value->World->Prop):Prop :=
 vZ λ(I0:Int->List Own->PW->Nat->Prop)=>(Zs W R Φ (I0 0))/\∀ n6 R7 I8 k9,aA I8->I0 n6 R7 I8 k9->Zd W R7 I8 λYC=>Br (decide (n6<(↑aN:Int))&&decide (n6<(↑bN:Int))) (∃ uO j3,aA j3/\Wk W R7 I8 uO j3/\Zi n6 aN aP λRB k17=>Zi n6 bN bP λER FG=>∃ (YD TL:Int) (s22:ByteArray),(Zd W uO j3 λYB=>∃ n25 WR s27,dH YB RB (k17+n6.toNat*3) [.int .i64 n25,.int .i64 WR,.string s27]/\Value.agg #[.int .i64 n25,.int .i64 WR,.string s27]=Value.agg #[.int .i64 YD,.int .i64 TL,.string s22])/\∃ (n28 WQ:Int) (s30:ByteArray),(Zd W uO j3 λw31=>∃ WS n34 s35,dH w31 ER (FG+n6.toNat*3) [.int .i64 WS,.int .i64 n34,.string s35]/\Value.agg #[.int .i64 WS,.int .i64 n34,.string s35]=Value.agg #[.int .i64 n28,.int .i64 WQ,.string s30])/\Zc W R7 I8 Tryz.prog F.kH #[Value.agg #[.int .i64 YD,.int .i64 TL,.string s22],Value.agg #[.int .i64 n28,.int .i64 WQ,.string s30]] λe38 q=>∃ n40,e38=.returned (.int .i64 n40)/\q λKY AK=>Br (decide (n40≠0)) (Zr W KY AK J (.int .i64 n40)) (aR (n6+1)/\Zb W KY AK k9 (I0 (n6+1)))) (Br (decide ((↑aN:Int)<(↑bN:Int))) (Zr W R7 I8 J (.int .i64 (-1))) (Br (decide ((↑bN:Int)<(↑aN:Int))) (Zr W R7 I8 J (.int .i64 1)) (Zr W R7 I8 J (.int .i64 0))))
theorem vK (aP:Option Addr) (aN aC:Nat) (bP:Option Addr) (bN bC:Nat) {W w:World} {R:List Own} {Φ:PW} [aA Φ] {J:Value->World->Prop} (c:Ctx W w R Φ) (h:pQ aP aN aC bP bN bC W R Φ J):Calls Tryz.prog F.iC #[.slice aP aN aC,.slice bP bN bC] w λe w'=>∃ v,e=.returned v/\J v w' :=
 aB (H:={ keep:=some [0,1,4,5,6,16,29,35,40],cF:=[(4,[.held [(0,true),(1,true),(4,true),(5,true),(2,true),(6,true),(3,true),(7,true)],.aO [] (some 8),.aO [9] none])],loops:=[(2,[(5,.one (.int .i64))],[])] }) (by rw [show aW Tryz.prog W { keep:=some [0,1,4,5,6,16,29,35,40],cF:=[(4,[.held [(0,true),(1,true),(4,true),(5,true),(2,true),(6,true),(3,true),(7,true)],.aO [] (some 8),.aO [9] none])],loops:=[(2,[(5,.one (.int .i64))],[])] } F.iC #[.slice aP aN aC,.slice bP bN bC] R Φ J=pQ aP aN aC bP bN bC W R Φ J by kernel_rfl];exact h) c
def jZ (sP:Option Addr) (sN sC:Nat) (W:World) (R:List Own) (Φ:PW) (J:Value->World->Prop):Prop :=
 Br sP.isNone (Zr W R Φ J (.slice none 0 0)) (∀ (k2:Nat) (w3:World) (R4:List Own),Ctx W w3 (Own.blk k2 [] 31 :: R++R4) Φ->∃ (p5:Option Addr) (k6 k7:Nat) (w8:World),Sem.run Tryz.prog (builtin Builtin.append #[22,22] 22 #[false,false] #[.slice (some (Addr.mk k2 0 none)) 0 0,.slice sP sN sC]) w3=.ok (.value (.slice p5 k6 k7)) w8/\∃ R9 uN,aA uN/\Ctx W w8 (R9++R4) uN/\Zr W R9 uN J (.slice p5 k6 k7))
theorem pR (sP:Option Addr) (sN sC:Nat) {W w:World} {R:List Own} {Φ:PW} [aA Φ] {J:Value->World->Prop} (c:Ctx W w R Φ) (h:jZ sP sN sC W R Φ J):Calls Tryz.prog F.bG #[.slice sP sN sC] w λe w'=>∃ v,e=.returned v/\J v w' :=
 aB (H:={ keep:=some [0,2,4] }) (by rw [show aW Tryz.prog W { keep:=some [0,2,4] } F.bG #[.slice sP sN sC] R Φ J=jZ sP sN sC W R Φ J by kernel_rfl];exact h) c
def zW (sB sO:Nat) (batch:Int) (W:World) (R:List Own) (Φ:PW) (J:Value->World->Prop):Prop :=
 Zd W R Φ λw0=>∃ n2,w0.cell? (Addr.mk sB sO none)=some (.int .i64 n2)/\Br (decide (n2≠0)) (Zr W R Φ J (.int .i64 7)) (Zc W R Φ Tryz.prog F.jT #[.pointer (some (Addr.mk sB sO none)),.int .i64 batch] λe7 q=>∃ c9,e7=.returned (.bool c9)/\q λpP lK=>Br c9 (Zr W pP lK J (.int .i64 0)) (Zd W pP lK λMA=>∃ (MC:Int),((!decide (batch<1))=true->MA.cell? (Addr.mk sB (sO+4) none)=some (.int .i64 MC))/\Br (decide (batch<1)||decide (batch≠MC)) (Zr W pP lK J (.int .i64 4)) (Zd W pP lK λPV=>∃ p21 E0 k23,PV.cell? (Addr.mk sB (sO+5) none)=some (.slice p21 E0 k23)/\Zc W pP lK Tryz.prog F.nR #[.pointer (some (Addr.mk sB sO none)),.int .i64 batch,.slice p21 E0 k23] λe26 q=>e26=.returned (Value.tuple #[])/\q λOA sK=>∀ TM HZ,Ctx W TM (OA++HZ) sK->aE TM sB (sO+4) 1/\∀ (KX:World),KX=TM.setCell (Addr.mk sB (sO+4) none) (Value.int IntKind.i64 0)->∃ AW mP,aA mP/\Ctx W KX (AW++HZ) mP/\∀ KS KW,Ctx W KS (AW++KW) mP->aE KS sB (sO+5) 1/\∀ (HR:World),HR=KS.setCell (Addr.mk sB (sO+5) none) (Value.slice none 0 0)->∃ HO rF,aA rF/\Ctx W HR (HO++KW) rF/\Zr W HO rF J (.int .i64 0))))
theorem E7 (sB sO:Nat) (batch:Int) {W w:World} {R:List Own} {Φ:PW} [aA Φ] {J:Value->World->Prop} (c:Ctx W w R Φ) (h:zW sB sO batch W R Φ J):Calls Tryz.prog F.kU #[.pointer (some ⟨sB,sO,none⟩),.int .i64 batch] w λe w'=>∃ v,e=.returned v/\J v w' :=
 aB (H:={ keep:=some [0,1,4,5,11,15] }) (by rw [show aW Tryz.prog W { keep:=some [0,1,4,5,11,15] } F.kU #[.pointer (some ⟨sB,sO,none⟩),.int .i64 batch] R Φ J=zW sB sO batch W R Φ J by kernel_rfl];exact h) c
def TN (rP:Option Addr) (rN rC:Nat) (W:World) (R:List Own) (Φ:PW) (J:Value->World->Prop):Prop :=
 Zc W R Φ Tryz.prog F.cX #[.slice rP rN rC,Value.func (Fn.func 189) #[] #[]] λe2 q=>∃ c4,e2=.returned (.bool c4)/\q λR5 iQ=>Zr W R5 iQ J (.bool !c4)
theorem TO (rP:Option Addr) (rN rC:Nat) {W w:World} {R:List Own} {Φ:PW} [aA Φ] {J:Value->World->Prop} (c:Ctx W w R Φ) (h:TN rP rN rC W R Φ J):Calls Tryz.prog F.GV #[.slice rP rN rC] w λe w'=>∃ v,e=.returned v/\J v w' :=
 aB (H:={ keep:=some [0,2] }) (by rw [show aW Tryz.prog W { keep:=some [0,2] } F.GV #[.slice rP rN rC] R Φ J=TN rP rN rC W R Φ J by kernel_rfl];exact h) c
def lZ (xP:Option Addr) (xN xC:Nat) (target:Int) (W:World) (R:List Own) (Φ:PW) (J:Value->World->Prop):Prop :=
 vZ λ(I0:Int->Int->List Own->PW->Nat->Prop)=>(Zs W R Φ (I0 0 (↑xN:Int)))/\∀ n6 n7 R8 I9 xD,aA I9->I0 n6 n7 R8 I9 xD->Br (decide (n6<n7)) (aR (n6+n7)/\∃ (JS:Int),(∀ (M7:World),Sem.run Tryz.prog (binOp BinOp.shr 122 (Value.int IntKind.u64 (IntKind.u64.wrap (n6+n7))) (Value.int IntKind.u64 1)) M7=Result.ok (Value.int IntKind.u64 JS) M7)/\(0<=IntKind.i64.wrap JS/\IntKind.i64.wrap JS<(↑xN:Int))/\jD none xP λJY JV=>Zd W R8 I9 λME=>∃ KV,ME.cell? (Addr.mk JY (JV+(IntKind.i64.wrap JS).toNat) none)=some (.int .i64 KV)/\Zc W R8 I9 Tryz.prog F.wS #[.int .i64 KV,.int .i64 target] λe20 q=>∃ c22,e20=.returned (.bool c22)/\q λPX wT=>Br c22 (aR (IntKind.i64.wrap JS + 1)/\Zb W PX wT xD (I0 (IntKind.i64.wrap JS+1) n7)) (Zb W PX wT xD (I0 n6 (IntKind.i64.wrap JS)))) (Zd W R8 I9 λKS=>(decide (n6<(↑xN:Int))=true->0<=n6/\n6<(↑xN:Int))/\jD (some (decide (n6<(↑xN:Int)))) xP λk37 k38=>∃ (n39:Int),(decide (n6<(↑xN:Int))=true->KS.cell? (Addr.mk k37 (k38+n6.toNat) none)=some (.int .i64 n39))/\((decide (n6<(↑xN:Int)) && !decide (n39=target))=true->0<=n6/\n6<(↑xN:Int))/\jD (some (decide (n6<(↑xN:Int)) && !decide (n39=target))) xP λk40 k41=>∃ (NP:Int),((decide (n6<(↑xN:Int)) && !decide (n39=target))=true->KS.cell? (Addr.mk k40 (k41+n6.toNat) none)=some (.int .i64 NP))/\∃ (c43:Bool),((decide (n6<(↑xN:Int)) && !decide (n39 = target))=true->∀ (S4:World),S4=KS->Calls Tryz.prog F.oH #[.int .i64 NP] S4 λe45 VY=>e45=.returned (.bool c43)/\VY=KS)/\∃ (c47:Bool),((decide (n6<(↑xN:Int)) && !decide (n39=target)&&c43)=true->∀ (w48:World),w48=KS->Calls Tryz.prog F.oH #[.int .i64 target] w48 λe49 w50=>e49=.returned (.bool c47)/\w50=KS)/\Zr W R8 I9 J (Value.tuple #[.int .i64 n6,.bool (decide (n6<(↑xN:Int))&&(decide (n39=target)||c43&&c47))]))
theorem rU (xP:Option Addr) (xN xC:Nat) (target:Int) {W w:World} {R:List Own} {Φ:PW} [aA Φ] {J:Value->World->Prop} (c:Ctx W w R Φ) (h:lZ xP xN xC target W R Φ J):Calls Tryz.prog F.fO #[.slice xP xN xC,.int .i64 target] w λe w'=>∃ v,e=.returned v/\J v w' :=
 aB (H:={ keep:=some [0,1,4,5,6,7,8,9,15,27],loops:=[(3,[(7,.one (.int .i64)),(8,.one (.int .i64))],[])] }) (by rw [show aW Tryz.prog W { keep:=some [0,1,4,5,6,7,8,9,15,27],loops:=[(3,[(7,.one (.int .i64)),(8,.one (.int .i64))],[])] } F.fO #[.slice xP xN xC,.int .i64 target] R Φ J=lZ xP xN xC target W R Φ J by kernel_rfl];exact h) c
def mA (sP:Option Addr) (sN sC:Nat) (fF:FuncId) (fC:Array Value) (W:World) (R:List Own) (Φ:PW) (J:Value->World->Prop):Prop :=
 Zc W R Φ Tryz.prog F.gU #[.slice sP sN sC,Value.func (Fn.func fF) #[] fC] λe2 q=>∃ n4,e2=.returned (.int .i64 n4)/\q λR5 iQ=>Zr W R5 iQ J (.bool (decide (0<=n4)))
theorem rV (sP:Option Addr) (sN sC:Nat) (fF:FuncId) (fC:Array Value) {W w:World} {R:List Own} {Φ:PW} [aA Φ] {J:Value->World->Prop} (c:Ctx W w R Φ) (h:mA sP sN sC fF fC W R Φ J):Calls Tryz.prog F.fP #[.slice sP sN sC,.func (.func fF) #[] fC] w λe w'=>∃ v,e=.returned v/\J v w' :=
 aB (H:={ keep:=some [0,1,4] }) (by rw [show aW Tryz.prog W { keep:=some [0,1,4] } F.fP #[.slice sP sN sC,.func (.func fF) #[] fC] R Φ J=mA sP sN sC fF fC W R Φ J by kernel_rfl];exact h) c
def zX (k:Int) (kB kO:Nat) (W:World) (R:List Own) (Φ:PW) (J:Value->World->Prop):Prop :=
 Zd W R Φ λw0=>∃ p2 k3 k4,w0.cell? (Addr.mk kB (kO+3) none)=some (.slice p2 k3 k4)/\Zr W R Φ J (.bool (decide ((↑k3:Int)<=k)))
theorem E8 (k:Int) (kB kO:Nat) {W w:World} {R:List Own} {Φ:PW} [aA Φ] {J:Value->World->Prop} (c:Ctx W w R Φ) (h:zX k kB kO W R Φ J):Calls Tryz.prog F.oG #[.int .i64 k,.pointer (some ⟨kB,kO,none⟩)] w λe w'=>∃ v,e=.returned v/\J v w' :=
 aB (H:={ keep:=some [0,1,3] }) (by rw [show aW Tryz.prog W { keep:=some [0,1,3] } F.oG #[.int .i64 k,.pointer (some ⟨kB,kO,none⟩)] R Φ J=zX k kB kO W R Φ J by kernel_rfl];exact h) c
def uP (a0:Int) (a1:Int) (a2:ByteArray) (b0:Int) (b1:Int) (b2:ByteArray) (W:World) (R:List Own) (Φ:PW) (J:Value->World->Prop):Prop :=
 ∀ (b b:Nat),Br (decide (a0<b0)) (Zr W R Φ J (.int .i64 (-1))) (Br (decide (b0<a0)) (Zr W R Φ J (.int .i64 1)) (Br (decide (a1<b1)) (Zr W R Φ J (.int .i64 (-1))) (Br (decide (b1<a1)) (Zr W R Φ J (.int .i64 1)) (Br (Op.bytesLess (ByteArray.toList.loop a2 0 []) (ByteArray.toList.loop b2 0 [])) (Zr W R Φ J (.int .i64 (-1))) (∃ (c10:Bool),(∀ (QY:World),Sem.run Tryz.prog (binOp BinOp.gtr 9 (Value.string a2) (Value.string b2)) QY=Result.ok (Value.bool c10) QY)/\Br c10 (Zr W R Φ J (.int .i64 1)) (Zr W R Φ J (.int .i64 0)))))))
theorem AL (a0:Int) (a1:Int) (a2:ByteArray) (b0:Int) (b1:Int) (b2:ByteArray) {W w:World} {R:List Own} {Φ:PW} [aA Φ] {J:Value->World->Prop} (c:Ctx W w R Φ) (h:uP a0 a1 a2 b0 b1 b2 W R Φ J):Calls Tryz.prog F.kH #[.agg #[.int .i64 a0,.int .i64 a1,.string a2],.agg #[.int .i64 b0,.int .i64 b1,.string b2]] w λe w'=>∃ v,e=.returned v/\J v w' :=
 aB (H:={ keep:=some [2,3,4,9,14,19,24,29,34],bW:=[2,3] }) (by rw [show aW Tryz.prog W { keep:=some [2,3,4,9,14,19,24,29,34],bW:=[2,3] } F.kH #[.agg #[.int .i64 a0,.int .i64 a1,.string a2],.agg #[.int .i64 b0,.int .i64 b1,.string b2]] R Φ J=uP a0 a1 a2 b0 b1 b2 W R Φ J by kernel_rfl];exact h) c
def gE (sP:Option Addr) (sN sC:Nat) (fF:FuncId) (fC:Array Value) (W:World) (R:List Own) (Φ:PW) (J:Value->World->Prop):Prop :=
 Zc W R Φ Tryz.prog F.dJ #[.slice sP sN sC,Value.func (Fn.func fF) #[] fC] λe2 q=>∃ n4,e2=.returned (.int .i64 n4)/\q λR5 iQ=>Zr W R5 iQ J (.bool (decide (0<=n4)))
theorem kV (sP:Option Addr) (sN sC:Nat) (fF:FuncId) (fC:Array Value) {W w:World} {R:List Own} {Φ:PW} [aA Φ] {J:Value->World->Prop} (c:Ctx W w R Φ) (h:gE sP sN sC fF fC W R Φ J):Calls Tryz.prog F.cX #[.slice sP sN sC,.func (.func fF) #[] fC] w λe w'=>∃ v,e=.returned v/\J v w' :=
 aB (H:={ keep:=some [0,1,4] }) (by rw [show aW Tryz.prog W { keep:=some [0,1,4] } F.cX #[.slice sP sN sC,.func (.func fF) #[] fC] R Φ J=gE sP sN sC fF fC W R Φ J by kernel_rfl];exact h) c
def MF (v0:Int) (v1:Int) (v2:ByteArray) (W:World) (R:List Own) (Φ:PW) (J:Value->World->Prop):Prop :=
 ∀ (b:Nat) (w0:World) (R1:List Own),Ctx W w0 (R++R1) Φ->Calls Tryz.prog F.zP #[Value.agg #[.int .i64 v0,.int .i64 v1,.string v2]] w0 λe2 w3=>∃ c4,e2=.returned (.bool c4)/\∃ R5 iQ,aA iQ/\Ctx W w3 (R5++R1) iQ/\Zr W R5 iQ J (.bool !c4)
theorem OB (v0:Int) (v1:Int) (v2:ByteArray) {W w:World} {R:List Own} {Φ:PW} [aA Φ] {J:Value->World->Prop} (c:Ctx W w R Φ) (h:MF v0 v1 v2 W R Φ J):Calls Tryz.prog F.qY #[.agg #[.int .i64 v0,.int .i64 v1,.string v2]] w λe w'=>∃ v,e=.returned v/\J v w' :=
 aB (H:={ keep:=some [1,2],bW:=[1] }) (by rw [show aW Tryz.prog W { keep:=some [1,2],bW:=[1] } F.qY #[.agg #[.int .i64 v0,.int .i64 v1,.string v2]] R Φ J=MF v0 v1 v2 W R Φ J by kernel_rfl];exact h) c
def MG (v0:Int) (v1:Int) (v2:ByteArray) (W:World) (R:List Own) (Φ:PW) (J:Value->World->Prop):Prop :=
 ∀ (b:Nat),Br (decide (v0=0)) (∃ R0 bH,aA bH/\Wk W R Φ R0 bH/\Zc W R Φ Tryz.prog F.GX #[.int .i64 v1] λe6 q=>∃ n8 n9 s10,e6=.returned (Value.agg #[.int .i64 n8,.int .i64 n9,.string s10])/\q λEP FC=>Wk W EP FC R0 bH/\PC Tryz.prog 147=true/\Zr W EP FC J (.bool (decide (v0=n8)&&(decide (v1=n9)&&(decide (v2=s10)&&true))))) (Br (decide (v0=1)) (∃ PU xX,aA xX/\Wk W R Φ PU xX/\Zc W R Φ Tryz.prog F.CQ #[.string v2] λe23 q=>∃ n25 WR s27,e23=.returned (Value.agg #[.int .i64 n25,.int .i64 WR,.string s27])/\q λOA sK=>Wk W OA sK PU xX/\PC Tryz.prog 147=true/\Br (decide (v0=n25)&&(decide (v1=WR)&&(decide (v2 = s27)&&true))) (Zr W OA sK J (.bool (decide ((↑v2.size:Int)<=200)))) (Zr W OA sK J (.bool false))) (∃ KW FF,aA FF/\Wk W R Φ KW FF/\Zc W R Φ Tryz.prog F.xV #[.bool false] λe42 q=>∃ n44 n45 s46,e42=.returned (Value.agg #[.int .i64 n44,.int .i64 n45,.string s46])/\q λKT AM=>Wk W KT AM KW FF/\∃ R51 TP,aA TP/\Wk W KT AM R51 TP/\PC Tryz.prog 147=true/\Br (decide (v0=n44)&&(decide (v1=n45)&&(decide (v2=s46)&&true))) (Zr W KT AM J (.bool true)) (∀ w57 GY,Ctx W w57 (KT++GY) AM->Calls Tryz.prog F.xV #[.bool true] w57 λe59 w60=>∃ n61 n62 s63,e59=.returned (Value.agg #[.int .i64 n61,.int .i64 n62,.string s63])/\∃ R64 O5, aA O5/\Ctx W w60 (R64++GY) O5/\Wk W R64 O5 R51 TP/\PC Tryz.prog 147=true/\Zr W R64 O5 J (.bool (decide (v0=n61)&&(decide (v1=n62)&&(decide (v2=s63)&&true)))))))
theorem OC (v0:Int) (v1:Int) (v2:ByteArray) {W w:World} {R:List Own} {Φ:PW} [aA Φ] {J:Value->World->Prop} (c:Ctx W w R Φ) (h:MG v0 v1 v2 W R Φ J):Calls Tryz.prog F.zP #[.agg #[.int .i64 v0,.int .i64 v1,.string v2]] w λe w'=>∃ v,e=.returned v/\J v w' :=
 aB (H:={ keep:=some [1,2,4,5,12],bW:=[1],cF:=[(3,[.held [(0,true),(1,true),(2,true),(3,false)],.aO [4,5] none]),(5,[.held [(0,true),(1,true),(2,true),(3,false)],.aO [4,5,6,7,8,9,10,11] none]),(6,[.held [(0,true),(1,false)],.held [(2,true),(3,true),(4,true),(5,false)],.aO [6,7,8] none])] }) (by rw [show aW Tryz.prog W { keep:=some [1,2,4,5,12],bW:=[1],cF:=[(3,[.held [(0,true),(1,true),(2,true),(3,false)],.aO [4,5] none]),(5,[.held [(0,true),(1,true),(2,true),(3,false)],.aO [4,5,6,7,8,9,10,11] none]),(6,[.held [(0,true),(1,false)],.held [(2,true),(3,true),(4,true),(5,false)],.aO [6,7,8] none])] } F.zP #[.agg #[.int .i64 v0,.int .i64 v1,.string v2]] R Φ J=MG v0 v1 v2 W R Φ J by kernel_rfl];exact h) c
def IW (x:Int) (y:Int) (W:World) (R:List Own) (Φ:PW) (J:Value->World->Prop):Prop :=
 Zd W R Φ λw0=>∃ (c2:Bool),(∀ (w3:World),w3=w0->Calls Tryz.prog F.cmp_isNaN_int #[.int .i64 x] w3 λe4 w5=>e4=.returned (.bool c2)/\w5=w0)/\∃ (c6:Bool),(c2=true->∀ (w7:World),w7=w0->Calls Tryz.prog F.cmp_isNaN_int #[.int .i64 y] w7 λe8 w9=>e8=.returned (.bool c6)/\w9=w0)/\Zr W R Φ J (.bool (c2 && !c6||decide (x<y)))
theorem MH (x:Int) (y:Int) {W w:World} {R:List Own} {Φ:PW} [aA Φ] {J:Value->World->Prop} (c:Ctx W w R Φ) (h:IW x y W R Φ J):Calls Tryz.prog F.wS #[.int .i64 x,.int .i64 y] w λe w'=>∃ v,e=.returned v/\J v w' :=
 aB (H:={ keep:=some [0,1,4] }) (by rw [show aW Tryz.prog W { keep:=some [0,1,4] } F.wS #[.int .i64 x,.int .i64 y] R Φ J=IW x y W R Φ J by kernel_rfl];exact h) c
def oQ (sP:Option Addr) (sN sC:Nat) (fF:FuncId) (fC:Array Value) (W:World) (R:List Own) (Φ:PW) (J:Value->World->Prop):Prop :=
 vZ λ(I0:Int->List Own->PW->Nat->Prop)=>(Zs W R Φ (I0 0))/\∀ n6 R7 I8 k9,aA I8->I0 n6 R7 I8 k9->Br (decide (n6<(↑sN:Int))) (Zi n6 sN sP λxD Y2=>Zd W R7 I8 λM7=>∃ EO,M7.cell? (Addr.mk xD (Y2+n6.toNat) none)=some (.int .i64 EO)/\∀ ME E5,Ctx W ME (R7++E5) I8->qT Tryz.prog fF=true/\Calls Tryz.prog fF (Array.mk (Value.int IntKind.i64 EO :: fC.toList)) ME λe17 w18=>∃ c19,e17=.returned (.bool c19)/\∃ O6 HQ,aA HQ/\Ctx W w18 (O6++E5) HQ/\Br c19 (Zr W O6 HQ J (.int .i64 n6)) (aR (n6+1)/\Zb W O6 HQ k9 (I0 (n6+1)))) (Zr W R7 I8 J (.int .i64 (-1)))
theorem uQ (sP:Option Addr) (sN sC:Nat) (fF:FuncId) (fC:Array Value) {W w:World} {R:List Own} {Φ:PW} [aA Φ] {J:Value->World->Prop} (c:Ctx W w R Φ) (h:oQ sP sN sC fF fC W R Φ J):Calls Tryz.prog F.gU #[.slice sP sN sC,.func (.func fF) #[] fC] w λe w'=>∃ v,e=.returned v/\J v w' :=
 aB (H:={ keep:=some [0,1,4,5,7,8,9,16],wrap:=[16],loops:=[(2,[(8,.one (.int .i64))],[])] }) (by rw [show aW Tryz.prog W { keep:=some [0,1,4,5,7,8,9,16],wrap:=[16],loops:=[(2,[(8,.one (.int .i64))],[])] } F.gU #[.slice sP sN sC,.func (.func fF) #[] fC] R Φ J=oQ sP sN sC fF fC W R Φ J by kernel_rfl];exact h) c
def iF (sP:Option Addr) (sN sC:Nat) (fF:FuncId) (fC:Array Value) (W:World) (R:List Own) (Φ:PW) (J:Value->World->Prop):Prop :=
 vZ λ(I0:Int->List Own->PW->Nat->Prop)=>(Zs W R Φ (I0 0))/\∀ n6 R7 I8 k9,aA I8->I0 n6 R7 I8 k9->Br (decide (n6<(↑sN:Int))) (Zi n6 sN sP λxD Y2=>Zd W R7 I8 λM7=>∃ EO nT s16,dH M7 xD (Y2+n6.toNat*3) [.int .i64 EO,.int .i64 nT,.string s16]/\∀ w17 WN,Ctx W w17 (R7++WN) I8->qT Tryz.prog fF=true/\Calls Tryz.prog fF (Array.mk (Value.agg #[.int .i64 EO,.int .i64 nT,.string s16] :: fC.toList)) w17 λe19 W8=>∃ c21,e19=.returned (.bool c21)/\∃ zQ lX,aA lX/\Ctx W W8 (zQ++WN) lX/\Br c21 (Zr W zQ lX J (.int .i64 n6)) (aR (n6+1)/\Zb W zQ lX k9 (I0 (n6+1)))) (Zr W R7 I8 J (.int .i64 (-1)))
theorem mC (sP:Option Addr) (sN sC:Nat) (fF:FuncId) (fC:Array Value) {W w:World} {R:List Own} {Φ:PW} [aA Φ] {J:Value->World->Prop} (c:Ctx W w R Φ) (h:iF sP sN sC fF fC W R Φ J):Calls Tryz.prog F.dJ #[.slice sP sN sC,.func (.func fF) #[] fC] w λe w'=>∃ v,e=.returned v/\J v w' :=
 aB (H:={ keep:=some [0,1,4,5,7,8,9,16],wrap:=[16],loops:=[(2,[(8,.one (.int .i64))],[])] }) (by rw [show aW Tryz.prog W { keep:=some [0,1,4,5,7,8,9,16],wrap:=[16],loops:=[(2,[(8,.one (.int .i64))],[])] } F.dJ #[.slice sP sN sC,.func (.func fF) #[] fC] R Φ J=iF sP sN sC fF fC W R Φ J by kernel_rfl];exact h) c
def TQ (n:Int) (W:World) (R:List Own) (Φ:PW) (J:Value->World->Prop):Prop :=
 ∀ (b:Nat) (w0:World) (R1:List Own),Ctx W w0 (R++R1) Φ->J (Value.agg #[.int .i64 0,Value.int IntKind.i64 n,Value.string (ByteArray.mk #[])]) w0
theorem TR (n:Int) {W w:World} {R:List Own} {Φ:PW} [aA Φ] {J:Value->World->Prop} (c:Ctx W w R Φ) (h:TQ n W R Φ J):Calls Tryz.prog F.GX #[.int .i64 n] w λe w'=>∃ v,e=.returned v/\J v w' :=
 aB (H:={ keep:=some [0,2],bW:=[2] }) (by rw [show aW Tryz.prog W { keep:=some [0,2],bW:=[2] } F.GX #[.int .i64 n] R Φ J=TQ n W R Φ J by kernel_rfl];exact h) c
def Q6 (s:ByteArray) (W:World) (R:List Own) (Φ:PW) (J:Value->World->Prop):Prop :=
 ∀ (b:Nat) (w0:World) (R1:List Own),Ctx W w0 (R++R1) Φ->J (Value.agg #[.int .i64 1,.int .i64 0,.string s]) w0
theorem RE (s:ByteArray) {W w:World} {R:List Own} {Φ:PW} [aA Φ] {J:Value->World->Prop} (c:Ctx W w R Φ) (h:Q6 s W R Φ J):Calls Tryz.prog F.CQ #[.string s] w λe w'=>∃ v,e=.returned v/\J v w' :=
 aB (H:={ keep:=some [0,2],bW:=[2] }) (by rw [show aW Tryz.prog W { keep:=some [0,2],bW:=[2] } F.CQ #[.string s] R Φ J=Q6 s W R Φ J by kernel_rfl];exact h) c
def Q7 (b:Bool) (W:World) (R:List Own) (Φ:PW) (J:Value->World->Prop):Prop :=
 ∀ (b_1:Nat),Br b (Zr W R Φ J (Value.agg #[.int .i64 2,Value.int IntKind.i64 1,Value.string (ByteArray.mk #[])])) (Zr W R Φ J (Value.agg #[.int .i64 2,Value.int IntKind.i64 0,Value.string (ByteArray.mk #[])]))
theorem RF (b:Bool) {W w:World} {R:List Own} {Φ:PW} [aA Φ] {J:Value->World->Prop} (c:Ctx W w R Φ) (h:Q7 b W R Φ J):Calls Tryz.prog F.xV #[.bool b] w λe w'=>∃ v,e=.returned v/\J v w' :=
 aB (H:={ keep:=some [0,2,3],bW:=[2] }) (by rw [show aW Tryz.prog W { keep:=some [0,2,3],bW:=[2] } F.xV #[.bool b] R Φ J=Q7 b W R Φ J by kernel_rfl];exact h) c
end Go.Proofs.YtfccagphnfceiaaGreatDoor
end

section
namespace Go.Proofs.YtfccagphnfceiaaGreatDoor
open Go Go.RowKit Go.Vc
def MI (x:Int) (w:World) (J:Value->World->Prop):Prop :=
 J (Value.bool (decide (x≠x))) w
theorem E9 (x:Int) (w:World) (J:Value->World->Prop) (h:MI x w J):Calls Tryz.prog F.oH #[.int .i64 x] w λe w'=>∃ v,e=.returned v/\J v w':=by
 have h:J (Value.bool (decide (x≠x))) w:=h
 go_enter Tryz.func192,Tryz.ntmps192
 go_wp2
 all_goals go_ret
 all_goals (first|exact ⟨_,rfl,h⟩|exact ⟨_,rfl,by simpa using h⟩)
def TS (x:Int) (w:World) (J:Value->World->Prop):Prop :=
 J (Value.bool (decide (x≠x))) w
theorem K0 (x:Int) (w:World) (J:Value->World->Prop) (h:TS x w J):Calls Tryz.prog F.cmp_isNaN_int #[.int .i64 x] w λe w'=>∃ v,e=.returned v/\J v w':=by
 have h:J (Value.bool (decide (x≠x))) w:=h
 go_enter Tryz.func207,Tryz.ntmps207
 go_wp2
 all_goals go_ret
 all_goals (first|exact ⟨_,rfl,h⟩|exact ⟨_,rfl,by simpa using h⟩)
end Go.Proofs.YtfccagphnfceiaaGreatDoor
end

section
namespace Go.Vc
section
variable {P:Program} {W w:World} {S F:List Own} {Φ Ψ:PW}
structure Quiet (P:Program) (f:FuncId) (args:Array Value) (v:Value):Prop where
 go:∀ w,Calls P f args w λe w'=>e=.returned v/\w'=w
structure pS (P:Program) (f:FuncId) (args:Array Value) (v:Value):Prop where
 go:∀ (W w:World) (S:List Own) (Φ:PW),aA Φ->Ctx W w S Φ->Calls P f args w λe w'=>e=.returned v/\Ctx W w' S Φ
theorem Quiet.at {f:FuncId} {args:Array Value} {v:Value} (h:Quiet P f args v) {w w0:World} (e:w=w0):Calls P f args w λe w'=>e=.returned v/\w'=w0:=by subst e;exact h.go w
theorem Quiet.aHO {f:FuncId} {args:Array Value} {v:Value} (h:Quiet P f args v):pS P f args v :=
 ⟨λW w S Φ _ c=>(h.go w).mono λe w' ⟨h1,h2⟩=>by subst h2;exact ⟨h1,c⟩⟩
theorem pS.use {f:FuncId} {args:Array Value} {v:Value} (h:pS P f args v) [hs:aA Φ] (c:Ctx W w S Φ) {K:Ending->World->Prop} (hk:∀ w',Ctx W w' S Φ->K (.returned v) w'):Calls P f args w K :=
 (h.go W w S Φ hs c).mono λe w' ⟨he,c'⟩=>by subst he;exact hk w' c'
theorem pT {f:FuncId} {args:Array Value} {v:Value} {B:World->List Own->PW->(Value->World->Prop)->Prop}
  (run:∀ {W w:World} {R:List Own} {Φ:PW} [aA Φ] {J:Value->World->Prop},Ctx W w R Φ->B W R Φ J->Calls P f args w λe w'=>∃ v,e=.returned v/\J v w')
  (h:∀ (W:World) (R:List Own) (Φ:PW),aA Φ->B W R Φ λu w'=>u=v/\Ctx W w' R Φ):pS P f args v :=
 ⟨λW w S Φ hs c=>EW (run c (h W S Φ hs)) λu w' ⟨h1,h2⟩=>⟨by rw [h1],h2⟩⟩
structure aU (Φ:PW) (P:Program) (f:FuncId) (args:Array Value) (v:Value):Prop where
 go:∀ (W w:World) (S:List Own),Ctx W w S Φ->Calls P f args w λe w'=>e=.returned v/\Ctx W w' S Φ
theorem aU.use {f:FuncId} {args:Array Value} {v:Value} (h:aU Φ P f args v) (c:Ctx W w S Φ) {K:Ending->World->Prop} (hk:∀ w',Ctx W w' S Φ->K (.returned v) w'):Calls P f args w K :=
 (h.go W w S c).mono λe w' ⟨he,c'⟩=>by subst he;exact hk w' c'
theorem pS.in [hs:aA Φ] {f:FuncId} {args:Array Value} {v:Value} (h:pS P f args v):aU Φ P f args v:=⟨λW w S c=>h.go W w S Φ hs c⟩
theorem dS [aA Φ] {f:FuncId} {args:Array Value} {v:Value} {B:World->List Own->PW->(Value->World->Prop)->Prop}
  (run:∀ {W w:World} {R:List Own} {Φ:PW} [aA Φ] {J:Value->World->Prop},Ctx W w R Φ->B W R Φ J->Calls P f args w λe w'=>∃ v,e=.returned v/\J v w')
  (h:∀ (W:World) (R:List Own),B W R Φ λu w'=>u=v/\Ctx W w' R Φ):aU Φ P f args v :=
 ⟨λW w S c=>EW (run c (h W S)) λu w' ⟨h1,h2⟩=>⟨by rw [h1],h2⟩⟩
theorem Ctx.left [aA Φ] (c:Ctx W w (S++F) Φ):Ctx W w S Φ:=c.sub (List.sublist_append_left _ _)
theorem Ctx.right [aA Φ] (c:Ctx W w (S++F) Φ):Ctx W w F Φ:=c.sub (List.sublist_append_right _ _)
theorem Ctx.fst [aA Φ] [aA Ψ] (c:Ctx W w S (λM w=>Φ M w/\Ψ M w)):Ctx W w S Φ:=c.weak λ_ _ h=>h.1
theorem zY {cs vs:List Value} {o:Nat} (h:(cs.drop o).take vs.length=vs):∀ j,(hj:j<vs.length)->cs[o+j]? = some vs[j]:=by
 intro j hj
 have h1:((cs.drop o).take vs.length)[j]? = vs[j]? := by rw [h]
 rw [List.getElem?_take_of_lt hj,List.getElem?_drop] at h1
 rw [h1,List.getElem?_eq_getElem hj]
theorem quiet_of {f:FuncId} {args:Array Value} {v:Value} {B:World->(Value->World->Prop)->Prop}
  (run:∀ (w:World) (J:Value->World->Prop),B w J->Calls P f args w λe w'=>∃ v,e=.returned v/\J v w')
  (h:∀ w,B w λu w'=>u=v/\w'=w):Quiet P f args v :=
 ⟨λw=>EW (run w _ (h w)) λu w' ⟨h1,h2⟩=>⟨by rw [h1],h2⟩⟩
end
def Pin {α:Type} [Gv α] (b o:Nat) (cs:List (List Value)) (l:List α) (M:List Nat) (w:World):Prop :=
 ∀ j,(hj:j<l.length)->b ∉ M/\dH w b (o+j*(Gv.ty α).size) (cs.getD j [])/\Gv.rep M w (cs.getD j []) l[j]
instance aES {α:Type} [Gv α] (b o:Nat) (cs:List (List Value)) (l:List α):aA (λM w=>Pin b o cs l M w):=⟨λhs h j hj=>by
 obtain ⟨h2,h3,h4⟩:=h j hj
 have hlt:=aAE h3 (by rw [Gv.len h4];exact Gv.pos)
 exact ⟨λhm=>by rcases hs.sub b hm with h|h;exact h2 h;omega,hs.XO.row h3 h2,Gv.j6 hs h4⟩⟩
theorem Sl.pin {α:Type} [Gv α] {M:List Nat} {w:World} {p:Option Addr} {l:List α} (h:Sl M w p l):∃ b o cs,(0<l.length->p=some ⟨b,o,none⟩)/\Pin b o cs l M w:=by
 by_cases h0:0<l.length
 ·obtain ⟨b,o,_,hp,_⟩:=h 0 h0
  have key:∀ j,j<l.length->∃ cs:List Value,∀ hj:j<l.length,b ∉ M/\dH w b (o+j*(Gv.ty α).size) cs/\Gv.rep M w cs l[j]:=by
   intro j hj
   obtain ⟨b',o',cs,h1,h2,h3,h4⟩:=h j hj
   rw [hp] at h1
   cases h1
   exact ⟨cs,λ_=>⟨h2,h3,h4⟩⟩
  obtain ⟨cs,hl,hcs⟩:=JG l.length key
  refine ⟨b,o,cs,λ_=>hp,λj hj=>?_⟩
  have:=hcs j (by omega) hj
  rw [show cs.getD j []=cs[j] by simp [List.getD,show j<cs.length by omega]]
  exact this
 ·exact ⟨0,0,[],λh=>absurd h h0,λj hj=>by omega⟩
theorem Ctx.pin {W w:World} {S:List Own} {Φ:PW} (c:Ctx W w S Φ) {α:Type} [Gv α] {p:Option Addr} {l:List α} (h:Sl (dom S) w p l) :
  ∃ b o cs,(0<l.length->p=some ⟨b,o,none⟩)/\Ctx W w S (λM w=>Φ M w/\Pin b o cs l M w):=by
 obtain ⟨b,o,cs,hp,aYG⟩:=h.pin
 exact ⟨b,o,cs,hp,c.add aYG⟩
theorem aU.pinned {Φ:PW} [aA Φ] {P:Program} {f:FuncId} {args:Array Value} {v:Value} {α:Type} [Gv α] {p:Option Addr} {l:List α} (eT:∀ M w,Φ M w->Sl M w p l)
  (h:∀ b o cs,(0<l.length->p=some ⟨b,o,none⟩)->aU (λM w=>Φ M w/\Pin b o cs l M w) P f args v):aU Φ P f args v :=
 ⟨λW w S c=>by
  obtain ⟨b,o,cs,hp,c'⟩:=c.pin (eT _ _ c.gW)
  exact ((h b o cs hp).go W w S c').mono λe w' ⟨h1,h2⟩=>⟨h1,h2.fst⟩⟩
end Go.Vc
end

