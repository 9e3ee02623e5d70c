/-
 THE CONDITIONS OF A WALK OVER WHAT IT OWNS: a function's body.
-/
import Derived.Test.YtnlkemjhgdbfkaaGreatDoorCh3
import Derived.Test.YtnlkemjhgdbfkaaGreatDoorRows
open Go.Proofs.Tryz
set_option linter.unusedVariables false
set_option linter.unusedSimpArgs false
section
namespace Go.Vc
variable {G:List Own}
variable {ds:List Deferred}
open Go.RowKit
structure HS where
 /-- slots whose sums may wrap;calls of function values;0: stores of values of any kind -/
 wrap:List Nat:=[]
 /-- slots whose new blocks are known cell by cell -/
 gA:List Nat:=[]
 /-- regions with guards that are walked in the text's order -/
 split:List Nat:=[]
 /-- regions whose calls may draw -/
 XQ:List Nat:=[]
 /-- slots that are read outside the region that writes them -/
 keep:Option (List Nat):=none
 /-- regions whose order is drawn,and that write or call: their stages -/
 eF:List (Nat × List Sg):=[]
 /-- of each loop the slots and the blocks that its rounds write -/
 loops:List (Nat × gU × gU):=[]
 a5o:List (Nat × gU × gU):=[]
def aBg (k:Nat):List (Nat × List Sg)->Option (List Sg)
 | []=>none
 | (t,l) :: r=>match Nat.beq t k with|true=>some l|false=>aBg k r
def aBh (k:Nat):List (Nat × gU × gU)->Option (gU × gU)
 | []=>none
 | (t,l) :: r=>match Nat.beq t k with|true=>some l|false=>aBh k r
def xJ (asg:List Nat) (l:gU) (vs:List Value) (s:fJ):fJ:=⟨s.n,cons l vs (drop s.l)⟩
where
 cons:gU->List Value->List (Nat × SV)->List (Nat × SV)
  | (t,_) :: r,v :: vs,s=>(t,.v v) :: cons r vs s
  | _,_,s=>s
 drop:List (Nat × SV)->List (Nat × SV)
  | []=>[]
  | (t,x) :: r=>match dK t asg with|true=>drop r|false=>(t,x) :: drop r
def BX (k:Option (List Nat)) (s:fJ):fJ:=match k with|none=>s|some k=>⟨s.n,go k s.l⟩
where go (k:List Nat):List (Nat × SV)->List (Nat × SV)
 | []=>[]
 | (t,x) :: r=>match dK t k with|true=>(t,x) :: go k r|false=>go k r
def aJP (ts:gU) (L:List Tr):Bool:=match ts with
 | []=>true
 | (k,sh) :: r=>match bS k L,sh with|some _,.agg _=>aJP r L|_,_=>false
abbrev aRC (l:gU):Type:=pK (List Own->PW->Nat->Prop) l
abbrev aX4 (l:gU):Type:=pK (List Own->PW->Prop) l
def DF (x:Option (List Own->PW->Nat->Prop)) (R:List Own) (Φ:PW) (n:Nat):Prop:=match x with|some I=>I R Φ n|none=>False
def a8G (x:Option (List Own->PW->Prop)) (R:List Own) (Φ:PW):Prop:=match x with|some I=>I R Φ|none=>False
def aBi:List Nat->List Nat->Bool
 | [],[]=>true
 | a :: l,b :: m=>Nat.beq a b&&aBi l m
 | _,_=>false
theorem a5E:∀ {l m:List Nat},aBi l m=true->l=m
 | [],[],_=>rfl
 | a :: l,b :: m,h=>by
  simp only [aBi,Bool.and_eq_true] at h
  rw [Nat.eq_of_beq_eq_true h.1,a5E h.2]
 | [],_ :: _,h=>by cases h
 | _ :: _,[],h=>by cases h
def V0:gU->List Value->fJ->fJ
 | (t,_) :: r,v :: vs,s=>V0 r vs (s.put (some t) (.v v))
 | _,_,s=>s
abbrev aRD (l:gU):Type:=pK (Nat->Prop) l
def a8H (x:Option (Nat->Prop)) (k:Nat):Prop:=match x with|some I=>I k|none=>False
def aRE (l:gU) (A:aRD l) (xs:Nat->List Value) (N:Nat):Prop:=∀ k,k<N->a8H (pK.app l A (xs k)) k
section
variable (P:Program) (W:World)
def aBj (H:HS) (ops:Array Oper) (st:List Sg) (s:fJ) (L:List Tr) (R:List Own) (Φ:PW) (K:fJ->List Tr->List Own->PW->Prop):Prop :=
 MK P W (λt=>dK t H.wrap) (λt=>dK t H.gA) ops st s L R Φ λs=>K (BX H.keep s)
def SL (H:HS) (d:Bool) (ops:Array Oper) (s:fJ) (L:List Tr) (R:List Own) (Φ:PW) (K:fJ->List Tr->List Own->PW->Prop):Prop :=
 ∀ w F,Ctx W w (R++F) Φ->qsS P (λt=>dK t H.wrap) d ops L w ops.toList [] s λs=>K (BX H.keep s) L R Φ
def aBk (H:HS) (id:Nat) (ops:Array Oper) (draw:Bool) (s:fJ) (L:List Tr) (R:List Own) (Φ:PW) (K:fJ->List Tr->List Own->PW->Prop):Prop :=
 match draw with
 | true=>match aBg id H.eF with
  | some st=>match P.follows .mixedOrders&&Region.noSelect ops&&MJ ops st (Array.replicate ops.size false)&&Nat.beq (LP st) ops.size with
   | true=>aBj P W H ops st s L R Φ K
   | false=>False
  | none=>match a3w P ops with
   | true=>SL P W H true ops s L R Φ K
   | false=>False
 | false=>match guarded ops.toList && !(dK id H.split) with
  | true=>SL P W H (dK id H.XQ) ops s L R Φ K
  | false=>aFw P W (λt=>dK t H.wrap) (λt=>dK t H.gA) ops ops.toList s L R Φ λs=>K (BX H.keep s)
def vcS (H:HS):Code->(Exit->fJ->List Tr->List Own->PW->Prop)->fJ->List Tr->List Own->PW->Prop
 | .skip,Q,s,L,R,Φ=>Q .normal s L R Φ
 | .region id ops draw,Q,s,L,R,Φ=>aBk P W H id ops draw s L R Φ (Q .normal)
 | .seq x y,Q,s,L,R,Φ =>
  match aBh (uG y) H.a5o with
  | none=>vcS H x (λe s' L' R' aV=>match e with | .normal=>vcS H y Q s' L' R' aV|e=>Q e s' L' R' aV) s L R Φ
  | some (l,ts) =>
   match SC (asg x) l (s.fr L)&&aJP ts L with
   | true =>
    ∃ J:aX4 (l++ts),vcS H x (λe s' L' R' aV=>match e with
      | .normal=>match OR (asg x) (s.fr L) (s'.fr L')&&xG ts L' L with
       | true=>∃ R1 cG,aB cG/\(∀ w F,Ctx W w (R'++F) aV->Ctx W w (R1++F) cG)/\a8G (pK.app (l++ts) J (slotsOf l (s'.fr L')++cellsOf ts L')) R1 cG
       | false=>False
      | e=>Q e s' L' R' aV) s L R Φ /\
     l.all λvs=>ts.all λus=>∀ R' aV,aB aV->a8G (pK.app (l++ts) J (vs++us)) R' aV->vcS H y Q (xJ (asg x) l vs s) (j9 ts us L) R' aV
   | false=>False
 | .cond c x y,Q,s,L,R,Φ=>match s.val L c with
  | .bool b=>Br b (vcS H x Q s L R Φ) (vcS H y Q s L R Φ)
  | _=>False
 | .block id b,Q,s,L,R,Φ=>vcS H b (λe s' L' R' aV=>match e with | .exit n=>(match Nat.beq n id with|true=>Q .normal s' L' R' aV|false=>Q (.exit n) s' L' R' aV)|e=>Q e s' L' R' aV) s L R Φ
 | .loop b,Q,s,L,R,Φ =>
  match aBh (uG b) H.loops with
  | none=>False
  | some (l,ts) =>
   match SC (asg b) l (s.fr L)&&aJP ts L with
   | true =>
    ∃ I:aRC (l++ts),(∃ R1 cG n1,aB cG/\(∀ w F,Ctx W w (R++F) Φ->Ctx W w (R1++F) cG)/\DF (pK.app (l++ts) I (slotsOf l (s.fr L)++cellsOf ts L)) R1 cG n1) /\
     l.all λvs=>ts.all λus=>∀ R' aV n,aB aV->DF (pK.app (l++ts) I (vs++us)) R' aV n ->
      vcS H b (λe s' L' R'' aFD=>match e with
       | .normal=>match OR (asg b) (s.fr L) (s'.fr L')&&xG ts L' L with
        | true=>∃ R1 cG n1,aB cG/\(∀ w F,Ctx W w (R''++F) aFD->Ctx W w (R1++F) cG)/\DF (pK.app (l++ts) I (slotsOf l (s'.fr L')++cellsOf ts L')) R1 cG n1/\n1<n
        | false=>False
       | e=>Q e s' L' R'' aFD) (xJ (asg b) l vs s) (j9 ts us L) R' aV
   | false=>False
 | .exit id,Q,s,L,R,Φ=>Q (.exit id) s L R Φ
 | .label _,Q,s,L,R,Φ=>Q .normal s L R Φ
 | .scope b,Q,s,L,R,Φ=>vcS H b (λe s' L' R' aV=>match e with | .goto _=>False|e=>Q e s' L' R' aV) s L R Φ
 | .ret,Q,s,L,R,Φ=>Q .ret s L R Φ
 | .rangeFunc g ps x y,Q,s,L,R,Φ =>
  match s.val L g with
  | .func (.func gf) cs lb =>
   match aBh (uG y) H.loops with
   | none=>False
   | some (l,ts) =>
    match aBi (l.map (·.1)) ps.toList&&mP x&&mP y&&aJP ts L with
    | true=>cs=#[]/\qA P gf=true/\∃ (N:Nat) (xs:Nat->List Value) (X:World->Prop) (A:aRD l) (I:aRC ts),Iter P gf lb N (λk=>(xs k).toArray) X/\aRE l A xs N /\
      (∃ R1 cG,aB cG/\(∀ w F,Ctx W w (R++F) Φ->Ctx W w (R1++F) cG)/\DF (pK.app ts I (cellsOf ts L)) R1 cG 0) /\
      ts.all λus=>∀ R' aV k,aB aV->DF (pK.app ts I us) R' aV k ->
       (∀ w F,Ctx W w (R'++F) aV->X w) /\
       (k<N->l.all λvs=>a8H (pK.app l A vs) k->vcS H x (λe s1 L1 R1 cG=>match e with
         | .normal=>vcS H y (λe s2 L2 R2 AP=>match e with
           | .normal=>match xG ts L2 L with
            | true=>∃ R3 O6,aB O6/\(∀ w F,Ctx W w (R2++F) AP->Ctx W w (R3++F) O6)/\DF (pK.app ts I (cellsOf ts L2)) R3 O6 (k+1)
            | false=>False
           | _=>False) s1 L1 R1 cG
         | _=>False) (V0 l vs s) (j9 ts us L) R' aV) /\
       (k=N->Q .normal s (j9 ts us L) R' aV)
    | false=>False
  | _=>False
 | _,_,_,_,_,_=>False
def a3G (s:fJ) (L:List Tr) (R:List Own) (Φ:PW):List ResultVar->(List Value->Prop)->Prop
 | [],K=>K []
 | .tmp t :: r,K=>match wG ((VX t s.l).val L) with
  | true=>False
  | false=>a3G s L R Φ r λvs=>K ((VX t s.l).val L :: vs)
 | .cell a t :: r,K=>match VX a s.l with
  | .ptr k off=>loadT P t L k off λv=>a3G s L R Φ r λvs=>K (v :: vs)
  | .v (.pointer (some ⟨b,o,none⟩))=>∀ w F,Ctx W w (R++F) Φ->D5 P t w none b o λv=>a3G s L R Φ r λvs=>K (v :: vs)
  | .v _=>False
def aRG (fn:Func) (J:Value->World->Prop):Exit->fJ->List Tr->List Own->PW->Prop
 | .normal,s,L,R,Φ | .ret,s,L,R,Φ=>a3G P W s L R Φ fn.results.toList λvs=>∀ w F,Ctx W w (R++F) Φ->J (pQ vs) w
 | _,_,_,_,_=>False
def a5F:Nat->List Value->List (Nat × SV)
 | _,[]=>[]
 | i,v :: r=>(i,.v v) :: a5F (i+1) r
def aNN (H:HS) (f:FuncId) (args:Array Value) (R:List Own) (Φ:PW) (J:Value->World->Prop):Prop :=
 match P.funcs[f]? with
 | some fn=>match fn.body with
  | some c=>vcS P W H c (aRG P W fn J) ⟨max fn.ntmps args.size,a5F 0 args.toList⟩ [] R Φ
  | none=>False
 | none=>False
end
theorem a5G (k s L):(BX k s).fr L=(s.fr L).keep k:=by
 cases k with
 | none=>rfl
 | some k =>
  have key:∀ l:List (Nat × SV),sV L (BX.go k l)=mN (λt=>dK t k) (sV L l):=by
   intro l
   induction l with
   | nil=>rfl
   | cons p r ih =>
    obtain ⟨t,v⟩:=p
    simp only [BX.go,sV,mN]
    cases dK t k with
    | true=>simp only [sV,ih]
    | false=>exact ih
  simp only [BX,Fr.keep,fJ.fr,key]
theorem aFE {k s L} (h:MF L s):MF L (BX k s):=by
 cases k with
 | none=>exact h
 | some k =>
  have key:∀ l:List (Nat × SV),∀ p∈BX.go k l,p∈l:=by
   intro l
   induction l with
   | nil=>intro p hp;exact hp
   | cons q r ih =>
    obtain ⟨t,v⟩:=q
    intro p hp
    simp only [BX.go] at hp
    cases hb:dK t k with
    | true=>rw [hb] at hp;rcases List.mem_cons.1 hp with rfl|hp;simp;exact List.mem_cons_of_mem _ (ih p hp)
    | false=>rw [hb] at hp;exact List.mem_cons_of_mem _ (ih p hp)
  exact λp hp=>h p (key _ p hp)
theorem At.keep {W s L R Φ a w} (h:At ds G W s L R Φ a w) (k):At ds G W (BX k s) L R Φ a w :=
 ⟨by rw [a5G];exact GD h.BS k,aFE h.wf,h.ids,h.ctx,h.st⟩
theorem P4 {asg l vs s L L1} (hwf:MF L s) (hb:∀ k T,bS k L=some T->∃ T',bS k L1=some T'/\T'.b=T.b):(xJ asg l vs s).fr L1=meet asg l vs (s.fr L):=by
 have key:∀ r:List (Nat × SV),(∀ p∈r,∀ k o,p.2=SV.ptr k o->(bS k L).isSome=true)->sV L1 (xJ.drop asg r)=mN (λt => !dK t asg) (sV L r):=by
  intro r
  induction r with
  | nil=>intro _;rfl
  | cons p r ih =>
   obtain ⟨t,v⟩:=p
   intro h
   have ih:=ih λq hq=>h q (List.mem_cons_of_mem _ hq)
   simp only [xJ.drop,sV,mN]
   cases dK t asg with
   | true=>exact ih
   | false =>
    simp only [sV,Bool.not_false,ih]
    congr 2
    cases v with
    | v x=>rfl
    | ptr k o =>
     obtain ⟨T,hT⟩:=Option.isSome_iff_exists.1 (h (t,.ptr k o) (by simp) k o rfl)
     obtain ⟨T',h1,h2⟩:=hb k T hT
     simp only [SV.val,hT,h1,h2]
 have aNO:∀ (l:gU) (vs:List Value) (r:List (Nat × SV)),sV L1 (xJ.cons l vs r)=OP l vs (sV L1 r):=by
  intro l
  induction l with
  | nil=>intro vs r;cases vs<;>rfl
  | cons p l ih =>
   obtain ⟨t,sh⟩:=p
   intro vs r
   cases vs with
   | nil=>rfl
   | cons v vs=>simp only [xJ.cons,OP,sV,ih,SV.val]
 simp only [fJ.fr,xJ,meet,GF,Fr.drop,aNO,key s.l hwf]
theorem a5H {asg l vs s L L1} (hwf:MF L s) (hb:∀ k T,bS k L=some T->∃ T',bS k L1=some T'/\T'.b=T.b):MF L1 (xJ asg l vs s):=by
 have key:∀ r:List (Nat × SV),∀ p∈xJ.drop asg r,p∈r:=by
  intro r
  induction r with
  | nil=>intro p hp;exact hp
  | cons q r ih =>
   obtain ⟨t,v⟩:=q
   intro p hp
   simp only [xJ.drop] at hp
   cases hm:dK t asg with
   | true=>rw [hm] at hp;exact List.mem_cons_of_mem _ (ih p hp)
   | false=>rw [hm] at hp;rcases List.mem_cons.1 hp with rfl|hp;simp;exact List.mem_cons_of_mem _ (ih p hp)
 have aNO:∀ (l:gU) (vs:List Value) (r:List (Nat × SV)),∀ p∈xJ.cons l vs r,p∈r\/∃ v,p.2=.v v:=by
  intro l
  induction l with
  | nil=>intro vs r p hp;cases vs<;>exact .inl hp
  | cons q l ih =>
   obtain ⟨t,sh⟩:=q
   intro vs r p hp
   cases vs with
   | nil=>exact .inl hp
   | cons v vs =>
    rcases List.mem_cons.1 hp with rfl|hp
    .exact .inr ⟨v,rfl⟩
    .exact ih vs r p hp
 intro p hp k o e
 rcases aNO _ _ _ p hp with h|⟨v,h⟩
 .obtain ⟨T,hT⟩:=Option.isSome_iff_exists.1 (hwf p (key _ p h) k o e)
  obtain ⟨T',h1,_⟩:=hb k T hT
  rw [h1];rfl
 .rw [h] at e;cases e
theorem qD {x R Φ n} (h:DF x R Φ n):∃ I,x=some I:=by
 cases x with
 | none=>exact h.elim
 | some I=>exact ⟨I,rfl⟩
theorem a5I {x R Φ} (h:a8G x R Φ):∃ I,x=some I:=by
 cases x with
 | none=>exact h.elim
 | some I=>exact ⟨I,rfl⟩
theorem all_append {ts us ρ x}:∀ {l:gU} {vs:List Value} (_:vs.length=l.length) {K:List Value->List Value->Prop} (_:l.all λvs=>ts.all λus=>K vs us) {f:pK ρ (l++ts)} (_:pK.app (l++ts) f (vs++us)=some x),
  K vs us/\us.length=ts.length/\(∀ v∈vs,wG v=false)/\(∀ u∈us,wG u=false):=by
 intro l
 induction l with
 | nil =>
  intro vs hl K h f hx
  cases vs with
  | nil =>
   obtain ⟨h1,h2,h3⟩:=pK.lH hx h
   exact ⟨h1,h2,λv hv=>(by cases hv),h3⟩
  | cons v vs=>simp at hl
 | cons p r ih =>
  intro vs hl K h f hx
  obtain ⟨t,s⟩:=p
  cases vs with
  | nil=>simp at hl
  | cons v vs =>
   simp only [List.cons_append] at f hx
   unfold pK.app at hx
   split at hx
   .rename_i g hg
    obtain ⟨h1,h2⟩:=Sh.lH hg h
    obtain ⟨h3,h4,h5,h6⟩:=ih (vs:=vs) (by simpa using hl) (K:=λvs us=>K (v :: vs) us) h1 hx
    refine ⟨h3,h4,λu hu=>?_,h6⟩
    rcases List.mem_cons.1 hu with rfl|hu
    .exact h2
    .exact h5 u hu
   .cases hx
theorem uH (l s):(slotsOf l s).length=l.length:=by simp [slotsOf]
theorem aFF {p:Nat->Prop} (h:∃ n,p n):∃ n,p n/\∀ m,p m->n<=m:=by
 obtain ⟨n,hn⟩:=h
 induction n using Nat.strongRecOn with
 | _ n ih =>
  by_cases hx:∃ m,m<n/\p m
  .obtain ⟨m,h1,h2⟩:=hx;exact ih m h1 h2
  .exact ⟨n,hn,λm hm=>by
    rcases Nat.lt_or_ge m n with h'|h'
    .exact absurd ⟨m,h',hm⟩ hx
    .exact h'⟩
theorem pK.P5 {ρ}:∀ {l:gU} {f:pK ρ l} {vs:List Value} {x:ρ},pK.app l f vs=some x->vs.length=l.length
 | [],_,[],_,_=>rfl
 | (t,s) :: r,f,v :: vs,x,h=>by
  unfold pK.app at h
  split at h
  .simp [pK.P5 h]
  .cases h
 | [],_,_ :: _,_,h=>by cases h
 | _ :: _,_,[],_,h=>by cases h
theorem aFG {P f} (h:qA P f=true) (args w):(callFunc f args).run P w=.ok (.enter f args) w:=by
 unfold qA at h
 split at h
 .rename_i fn hfn
  simp only [Bool.and_eq_true,Bool.not_eq_true'] at h
  have hb':fn.body.isNone=false:=by cases hh:fn.body<;>simp_all
  simp only [callFunc,program,Sem.run,hfn,h.2,hb',Bool.false_eq_true,if_false,Sem.run_bind,Sem.run_pure,Result.andThen]
 .cases h
theorem a17 {L}:∀ {l:gU} {vs:List Value} {s:fJ} {a:Act},vD ds (s.fr L) a->MF L s ->
  vD ds ((V0 l vs s).fr L) { tmps:=((l.map (·.1)).zip vs).foldl (λt p=>t.setIfInBounds p.1 p.2) a.tmps,defers:=a.defers }/\MF L (V0 l vs s)
 | (t,sh) :: r,v :: vs,s,a,h,hw=>by
  have h2:vD ds ((s.put (some t) (.v v)).fr L) (a.put (some t) v):=by rw [XW];exact h.put _ (λ_=>rfl)
  have:=a17 (l:=r) (vs:=vs) h2 (hw.put λk o e=>(by cases e))
  simpa [V0,Act.put] using this
 | [],vs,s,a,h,hw=>by
  simp only [V0,List.map_nil,List.zip_nil_left,List.foldl_nil]
  exact ⟨h,hw⟩
 | _ :: _,[],s,a,h,hw=>by
  simp only [V0,List.zip_nil_right,List.foldl_nil]
  exact ⟨h,hw⟩
theorem aCF {P W H}:∀ (c:Code) {rd:Option Nat} {Q':Exit->fJ->List Tr->List Own->PW->Prop} {Q:Exit->Act->World->Prop} {s:fJ} {L:List Tr} {R:List Own} {Φ:PW} {a:Act} {w:World} {ds:List Deferred} {G:List Own},
  (rd.isSome=true->mP c=true)->vcS P W H c Q' s L R Φ->At ds G W s L R Φ a w->(∀ e s' L' R' aV a' w' ds' G',Q' e s' L' R' aV->Tie rd ds G ds' G'->At ds' G' W s' L' R' aV a' w'->Ext L L'->bU (λt=>t∈asg c) (s.fr L) (s'.fr L')->Q e a' w')->c.wpIn (jV rd) 0 P Q a w:=by
 intro c
 induction c with
 | skip=>intro rd Q' Q s L R Φ a w ds G hrd h ha hQ;exact wpIn_skip (hQ _ _ _ _ _ _ _ _ _ h (Tie.refl _ _ _) ha (Ext.refl _) (bU.refl _ _))
 | region id ops draw =>
  intro rd Q' Q s L R Φ a w ds G hrd h ha hQ
  have hD:∀ o∈ops.toList,∀ t,o.dst=some t->t∈a04 ops.toList:=λo ho t ht=>List.mem_filterMap.2 ⟨o,ho,ht⟩
  have hD':∀ (j:Nat) (o:Oper) (t:Nat),ops[j]? = some o->o.dst=some t->t∈a04 ops.toList:=λj o t ho ht=>hD o (by simpa using Array.mem_of_getElem? ho) t ht
  have hQ':∀ s' L' R' aV a' w',Q' .normal (BX H.keep s') L' R' aV->At ds G W s' L' R' aV a' w'->Ext L L'->bU (λt=>t∈a04 ops.toList) (s.fr L) (s'.fr L')->Q .normal a' w':=by
   intro s' L' R' aV a' w' hk cH he hu
   exact hQ _ _ _ _ _ _ _ _ _ hk (Tie.refl _ _ _) (cH.keep _) he (by rw [a5G];exact BP hu _)
  have quiet:∀ (d:Bool),(∀ w F,Ctx W w (R++F) Φ->qsS P (λt=>dK t H.wrap) d ops L w ops.toList [] s λs=>Q' .normal (BX H.keep s) L R Φ)->wpQuiet P ops (VW d w) (λa'=>∀ w',VW d w w'->Q .normal a' w') ops.toList a:=by
   intro d h
   refine SK (D:=λt=>t∈a04 ops.toList) (s0:=s.fr L) ha.st ha.ids ha.ctx (λs' a' hk hs' hwf' eE w' hw'=>?_) _ _ _ _ hD (λe he=>(by cases he)) (h w _ ha.ctx) (Rel.start ha.BS) ha.wf (bU.refl _ _)
   have F5:jM G W w' L R Φ:=by
    have:=ha.st
    cases d with
    | false=>cases hw';exact ha.ctx
    | true=>obtain ⟨n,rfl⟩:=hw';exact Ctx.draw ha.ctx n
   exact hQ' s' L R Φ a' w' hk ⟨hs',hwf',ha.ids,F5,ha.st⟩ (Ext.refl _) eE
  simp only [vcS,aBk,aBj,SL] at h
  cases draw with
  | true =>
   simp only at h
   split at h
   .rename_i st _
    split at h
    .rename_i hc
     simp only [Bool.and_eq_true,Nat.beq_eq] at hc
     obtain ⟨⟨⟨h1,h2⟩,h3⟩,h4⟩:=hc
     have:=ha.st
     refine aBf (λhh=>hrd hh) h1 ?_
     have h7:=pR (Q:=UZ Q) (L0:=L) (s0:=s.fr L) (D:=λt=>t∈a04 ops.toList) h2 hD' (λs' L' R' aV a' w' hk cH he hu=>hQ' s' L' R' aV a' w' hk cH he hu) st _ _ _ _ _ _ (w.drewN 1) h3 h ⟨ha.BS,ha.wf,ha.ids,Ctx.draw ha.ctx 1,ha.st⟩ (Ext.refl _) (bU.refl _ _)
     rw [h4] at h7
     exact h7
    .exact h.elim
   .split at h
    .rename_i hc
     simp only [a3w,Bool.and_eq_true] at hc
     have h1:=quiet true h
     exact aCE (λhh=>hrd hh) hc.1 hc.2 (by
      have e:VW true w=λw'=>∃ n,w'=w.drewN n:=rfl
      rw [e] at h1
      exact h1)
    .exact h.elim
  | false =>
   simp only at h
   split at h
   .have h1:=quiet (dK id H.XQ) h
    refine a5D (λhh=>hrd hh) ?_
    exact lX (Q:=UZ Q) (C:=VW (dK id H.XQ) w) (Qa:=λa'=>∀ w',VW (dK id H.XQ) w w'->Q .normal a' w') (λa' w' hw' hq=>hq w' hw') _ _ _ (by cases dK id H.XQ;rfl;exact ⟨0,rfl⟩) h1
   .refine a5D (λhh=>hrd hh) ?_
    exact ML (Q:=UZ Q) (D:=λt=>t∈a04 ops.toList) (s0:=s.fr L) (L0:=L) hD' (λs' L' R' aV a' w' hk cH he hu=>hQ' s' L' R' aV a' w' hk cH he hu) _ _ _ _ _ _ _ hD h ha (Ext.refl _) (bU.refl _ _)
 | seq x y ihx ihy =>
  intro rd Q' Q s L R Φ a w ds G hrd h ha hQ
  simp only [vcS] at h
  have hrx:rd.isSome=true->mP x=true/\mP y=true:=λhh=>by have:=hrd hh;simpa only [mP,Bool.and_eq_true] using this
  refine wpIn_seq ?_
  split at h
  .refine ihx (λhh=>(hrx hh).1) h ha ?_
   intro e s' L' R' aV a' w' ds1 G1 hq htie cH he hu
   have eE:bU (λt=>t∈asg (.seq x y)) (s.fr L) (s'.fr L'):=hu.mono λi hi=>List.mem_append.2 (.inl hi)
   cases e with
   | normal =>
    simp only [Exit.then]
    refine ihy (λhh=>(hrx hh).2) hq cH λe s'' L'' R'' aFD a'' w'' ds2 G2 hq' aFH Y5 he' MD=>hQ _ _ _ _ _ _ _ _ _ hq' (htie.trans aFH) Y5 (he.trans he') ?_
    exact eE.trans (MD.mono λi hi=>List.mem_append.2 (.inr hi))
   | exit n=>exact hQ _ _ _ _ _ _ _ _ _ hq htie cH he eE
   | goto n=>exact hQ _ _ _ _ _ _ _ _ _ hq htie cH he eE
   | ret=>exact hQ _ _ _ _ _ _ _ _ _ hq htie cH he eE
   | panic n=>exact hQ _ _ _ _ _ _ _ _ _ hq htie cH he eE
   | outgrown=>exact hQ _ _ _ _ _ _ _ _ _ hq htie cH he eE
  .rename_i l ts hl
   split at h
   .rename_i hok
    simp only [Bool.and_eq_true] at hok
    obtain ⟨hv,hn⟩:=zU hok.1
    obtain ⟨J,h1,h2⟩:=h
    refine ihx (λhh=>(hrx hh).1) h1 ha ?_
    intro e s' L' R' aV a' w' ds1 G1 hq htie cH he hu
    have eE:bU (λt=>t∈asg (.seq x y)) (s.fr L) (s'.fr L'):=hu.mono λi hi=>List.mem_append.2 (.inl hi)
    cases e with
    | normal =>
     simp only [Exit.then]
     simp only at hq
     split at hq
     .rename_i hsub
      simp only [Bool.and_eq_true] at hsub
      obtain ⟨R1,cG,a8C,hw1,hj⟩:=hq
      obtain ⟨I,hI⟩:=a5I hj
      obtain ⟨h3,_,hk,_⟩:=all_append (uH l _) h2 hI
      have hme:=SF ts (cellsOf ts L') L
      have hb:∀ k T,bS k L=some T->∃ T',bS k (j9 ts (cellsOf ts L') L)=some T'/\T'.b=T.b:=λk T hT=>by obtain ⟨T',q1,q2,_⟩:=hme.old k T hT;exact ⟨T',q1,q2⟩
      have aNP:=BQ (s:=s.fr L) cH.BS hu (λi=>oV hsub.1) rfl hk
      have ham:At ds1 G1 W (xJ (asg x) l (slotsOf l (s'.fr L')) s) (j9 ts (cellsOf ts L') L) R1 cG a' w' :=
       ⟨by rw [P4 ha.wf hb];exact aNP,a5H ha.wf hb,hme.ids ha.ids,hw1 w' _ (jM.meet cH.st cH.ctx he ha.ids hsub.2),a8C⟩
      refine ihy (λhh=>(hrx hh).2) (h3 R1 cG a8C hj) ham λe s'' L'' R'' aFD a'' w'' ds2 G2 hq' aFH Y5 he' MD=>hQ _ _ _ _ _ _ _ _ _ hq' (htie.trans aFH) Y5 (hme.trans he') ?_
      refine bU.trans (b:=(xJ (asg x) l (slotsOf l (s'.fr L')) s).fr (j9 ts (cellsOf ts L') L)) ?_ (MD.mono λi hi=>List.mem_append.2 (.inr hi))
      rw [P4 ha.wf hb]
      exact JO (λv S8=>List.mem_append.2 (.inl (hv v S8).1))
     .exact hq.elim
    | exit n=>exact hQ _ _ _ _ _ _ _ _ _ hq htie cH he eE
    | goto n=>exact hQ _ _ _ _ _ _ _ _ _ hq htie cH he eE
    | ret=>exact hQ _ _ _ _ _ _ _ _ _ hq htie cH he eE
    | panic n=>exact hQ _ _ _ _ _ _ _ _ _ hq htie cH he eE
    | outgrown=>exact hQ _ _ _ _ _ _ _ _ _ hq htie cH he eE
   .exact h.elim
 | cond c x y ihx ihy =>
  intro rd Q' Q s L R Φ a w ds G hrd h ha hQ
  simp only [vcS] at h
  split at h
  .rename_i b hb
   have hc:a.eval c=.bool b:=by rw [ha.BS.eval (by rw [tY,hb];rfl),tY,hb]
   cases b with
   | true=>exact wpIn_cond_true hc (ihx (λhh=>by have:=hrd hh;simp only [mP,Bool.and_eq_true] at this;exact this.1) h ha λe s' L' R' aV a' w' ds1 G1 hq htie cH he hu=>hQ _ _ _ _ _ _ _ _ _ hq htie cH he (hu.mono λi hi=>List.mem_append.2 (.inl hi)))
   | false=>exact wpIn_cond_false hc (ihy (λhh=>by have:=hrd hh;simp only [mP,Bool.and_eq_true] at this;exact this.2) h ha λe s' L' R' aV a' w' ds1 G1 hq htie cH he hu=>hQ _ _ _ _ _ _ _ _ _ hq htie cH he (hu.mono λi hi=>List.mem_append.2 (.inr hi)))
  .exact h.elim
 | block id b ih =>
  intro rd Q' Q s L R Φ a w ds G hrd h ha hQ
  simp only [vcS] at h
  refine wpIn_block (ih (λhh=>hrd hh) h ha ?_)
  intro e s' L' R' aV a' w' ds1 G1 hq htie cH he hu
  cases e with
  | exit n =>
   simp only [Exit.inBlock]
   simp only at hq
   split at hq
   .rename_i e;rw [if_pos (Nat.eq_of_beq_eq_true e)];exact hQ _ _ _ _ _ _ _ _ _ hq htie cH he hu
   .rename_i e;rw [if_neg (Nat.ne_of_beq_eq_false e)];exact hQ _ _ _ _ _ _ _ _ _ hq htie cH he hu
  | normal=>exact hQ _ _ _ _ _ _ _ _ _ hq htie cH he hu
  | goto n=>exact hQ _ _ _ _ _ _ _ _ _ hq htie cH he hu
  | ret=>exact hQ _ _ _ _ _ _ _ _ _ hq htie cH he hu
  | panic n=>exact hQ _ _ _ _ _ _ _ _ _ hq htie cH he hu
  | outgrown=>exact hQ _ _ _ _ _ _ _ _ _ hq htie cH he hu
 | loop b ih =>
  intro rd Q' Q s L R Φ a w ds G hrd h ha hQ
  simp only [vcS] at h
  split at h
  .exact h.elim
  .rename_i l ts hl
   split at h
   .rename_i hok
    simp only [Bool.and_eq_true] at hok
    obtain ⟨hv,hn⟩:=zU hok.1
    obtain ⟨I,⟨R0,cF,n0,xH,hw0,h0⟩,h1⟩:=h
    let Rel:=λ(n:Nat) (a':Act) (w':World)=>∃ ds1 G1 vs us R' aV,Tie rd ds G ds1 G1/\vs.length=l.length/\aB aV/\DF (pK.app (l++ts) I (vs++us)) R' aV n/\vD ds1 (meet (asg b) l vs (s.fr L)) a'/\jM G1 W w' (j9 ts us L) R' aV
    have hst:=ha.st
    have start:Rel n0 a w:=by
     obtain ⟨I',hI'⟩:=qD h0
     obtain ⟨_,_,hk,_⟩:=all_append (uH l _) h1 hI'
     have hm:=BQ (s:=s.fr L) ha.BS (bU.refl _ _) (λi=>LK) rfl hk (asg:=asg b) (l:=l)
     refine ⟨_,_,_,_,R0,cF,Tie.refl _ _ _,uH l _,xH,h0,hm,?_⟩
     have hss:xG ts L L=true:=by
      have key:∀ M:List Tr,(∀ T∈M,T∈L)->xG ts L M=true:=by
       intro M
       induction M with
       | nil=>intro _;rfl
       | cons T r ihr =>
        intro hM
        unfold xG
        cases dK T.id (ts.map (·.1)) with
        | true=>exact ihr λU hU=>hM U (List.mem_cons_of_mem _ hU)
        | false =>
         rw [JQ ha.ids (hM T (by simp))]
         simp only [show Nat.beq T.ver T.ver=true by simp]
         exact ihr λU hU=>hM U (List.mem_cons_of_mem _ hU)
      exact key L λ_ h=>h
     exact jM.meet xH (hw0 w _ ha.ctx) (Ext.refl L) ha.ids hss
    let least:=λ(a':Act) (w':World) (n:Nat)=>Rel n a' w'/\∀ m,Rel m a' w'->n<=m
    let mu:=λ(a':Act) (w':World)=>@dite _ (∃ n,least a' w' n) (Classical.propDecidable _) (λhx=>Classical.choose hx) (λ_=>0)
    have hmu:∀ a' w' n,Rel n a' w'->∃ k,least a' w' k/\mu a' w'=k/\k<=n:=by
     intro a' w' n hn
     have hx:∃ k,least a' w' k:=aFF ⟨n,hn⟩
     refine ⟨Classical.choose hx,Classical.choose_spec hx,?_,(Classical.choose_spec hx).2 n hn⟩
     show @dite _ (∃ n,least a' w' n) (Classical.propDecidable _) (λhx=>Classical.choose hx) (λ_=>0)=_
     rw [dif_pos hx]
    refine wpIn_loop (λa' w'=>∃ n,Rel n a' w') mu ⟨n0,start⟩ ?_
    rintro a1 w1 ⟨n1,hn1⟩
    obtain ⟨n,⟨⟨ds1,G1,vs,us,R',aV,aRK,hlen,a8C,hI,hs1,hc1⟩,_⟩,aX6,_⟩:=hmu a1 w1 n1 hn1
    rw [aX6]
    obtain ⟨I',hI'⟩:=qD hI
    obtain ⟨h2,hlu,hk,hku⟩:=all_append hlen h1 hI'
    have hme:=SF ts us L
    have hb:∀ k T,bS k L=some T->∃ T',bS k (j9 ts us L)=some T'/\T'.b=T.b:=λk T hT=>by obtain ⟨T',q1,q2,_⟩:=hme.old k T hT;exact ⟨T',q1,q2⟩
    have ham:At ds1 G1 W (xJ (asg b) l vs s) (j9 ts us L) R' aV a1 w1:=⟨by rw [P4 ha.wf hb];exact hs1,a5H ha.wf hb,hme.ids ha.ids,hc1,a8C⟩
    refine ih (λhh=>hrd hh) (h2 R' aV n a8C hI) ham ?_
    intro e s' L' R'' aFD a' w' ds2 G2 hq aFI cH he hu
    have htie:=aRK.trans aFI
    rw [P4 ha.wf hb] at hu
    have eE:bU (λt=>t∈asg b) (s.fr L) (s'.fr L'):=bU.trans (JO (λv S8=>(hv v S8).1)) hu
    have he':Ext L L':=hme.trans he
    cases e with
    | normal =>
     simp only [Exit.then]
     simp only at hq
     split at hq
     .rename_i hsub
      simp only [Bool.and_eq_true] at hsub
      obtain ⟨R2,AP,n2,a8I,zY,hj,hlt⟩:=hq
      obtain ⟨I2,hI2⟩:=qD hj
      obtain ⟨_,_,hk2,_⟩:=all_append (uH l _) h1 hI2
      have aNP:=BQ (s:=s.fr L) cH.BS eE (λi=>oV hsub.1) rfl hk2
      have aRL:Rel n2 a' w':=⟨_,_,_,_,R2,AP,htie,uH l _,a8I,hj,aNP,zY w' _ (jM.meet cH.st cH.ctx he' ha.ids hsub.2)⟩
      obtain ⟨k,_,hmk,hkn⟩:=hmu a' w' n2 aRL
      exact ⟨⟨n2,aRL⟩,by rw [hmk];omega⟩
     .exact hq.elim
    | exit n=>exact hQ _ _ _ _ _ _ _ _ _ hq htie cH he' eE
    | goto n=>exact hQ _ _ _ _ _ _ _ _ _ hq htie cH he' eE
    | ret=>exact hQ _ _ _ _ _ _ _ _ _ hq htie cH he' eE
    | panic n=>exact hQ _ _ _ _ _ _ _ _ _ hq htie cH he' eE
    | outgrown=>exact hQ _ _ _ _ _ _ _ _ _ hq htie cH he' eE
   .exact h.elim
 | exit id=>intro rd Q' Q s L R Φ a w ds G hrd h ha hQ;exact wpIn_exit (hQ _ _ _ _ _ _ _ _ _ h (Tie.refl _ _ _) ha (Ext.refl _) (bU.refl _ _))
 | ret=>intro rd Q' Q s L R Φ a w ds G hrd h ha hQ;exact wpIn_ret (hQ _ _ _ _ _ _ _ _ _ h (Tie.refl _ _ _) ha (Ext.refl _) (bU.refl _ _))
 | rangeFunc g ps x y ihx ihy =>
  intro rd Q' Q s L R Φ a w ds G hrd h ha hQ
  cases rd with
  | some l=>have:=hrd rfl;cases this
  | none =>
  simp only [vcS] at h
  split at h
  .rename_i gf cs lb hg
   split at h
   .exact h.elim
   .rename_i l ts hl
    split at h
    .rename_i hok
     simp only [Bool.and_eq_true] at hok
     obtain ⟨⟨⟨hps,hrx⟩,hry⟩,hts⟩:=hok
     obtain ⟨hcs,hfn,N,xs,X,A,I,hit,hfit,⟨R0,cF,xH,hw0,h0⟩,h1⟩:=h
     subst hcs
     have hge:a.eval g=.func (.func gf) #[] lb:=by rw [ha.BS.eval (by rw [tY,hg];rfl),tY,hg]
     have hme:∀ us,Ext L (j9 ts us L):=λus=>SF ts us L
     have hpl:=a5E hps
     have hst:=ha.st
     have hss:xG ts L L=true:=by
      have key:∀ M:List Tr,(∀ T∈M,T∈L)->xG ts L M=true:=by
       intro M
       induction M with
       | nil=>intro _;rfl
       | cons T r ihr =>
        intro hM
        unfold xG
        cases dK T.id (ts.map (·.1)) with
        | true=>exact ihr λU hU=>hM U (List.mem_cons_of_mem _ hU)
        | false =>
         rw [JQ ha.ids (hM T (by simp))]
         simp only [show Nat.beq T.ver T.ver=true by simp]
         exact ihr λU hU=>hM U (List.mem_cons_of_mem _ hU)
      exact key L λ_ h=>h
     let Inv:=λ(k:Nat) (Gx:List Own) (w1:World)=>∃ us R' aV,aB aV/\DF (pK.app ts I us) R' aV k/\jM Gx W w1 (j9 ts us L) R' aV
     have fits:∀ k,k<N->∃ A',pK.app l A (xs k)=some A':=λk hk=>by
      have:=hfit k hk
      unfold a8H at this
      split at this
      .rename_i A' e;exact ⟨A',e⟩
      .exact this.elim
     have len:∀ k,k<N->(xs k).length=l.length:=λk hk=>by
      obtain ⟨A',e⟩:=fits k hk
      exact pK.P5 e
     refine aFC (W:=W) (G:=G) hge (aFG hfn) hit (λk hk=>by rw [List.size_toArray,len k hk,<-Array.length_toList,<-hpl,List.length_map]) Inv ?_ ?_ ?_ ?_ ?_
     .rintro k Gx w1 ⟨us,R',aV,hs,hi,c⟩
      refine ⟨R'++(j9 ts us L).map Tr.own,aV,hs,by rw [b9];exact c,λw2 Gy c2=>⟨us,R',aV,hs,hi,by rw [b9] at c2;exact c2⟩⟩
     .rintro k Gx w1 ⟨us,R',aV,hs,hi,c⟩
      obtain ⟨I',hI'⟩:=qD hi
      exact ((pK.lH hI' h1).1 R' aV k hs hi).1 _ _ c
     .exact ⟨_,R0,cF,xH,h0,jM.meet xH (hw0 w _ ha.ctx) (Ext.refl L) ha.ids hss⟩
     .rintro lp k Gx w1 hk ⟨us,R',aV,hs,hi,c⟩
      obtain ⟨I',hI'⟩:=qD hi
      obtain ⟨A',hA'⟩:=fits k hk
      have h2:=((pK.lH hI' h1).1 R' aV k hs hi).2.1 hk
      have h3:=(pK.lH hA' h2).1 (hfit k hk)
      have ham:At [] Gx W (V0 l (xs k) s) (j9 ts us L) R' aV { tmps:=(ps.zip (xs k).toArray).foldl (λt (p,v)=>t.setIfInBounds p v) a.tmps,defers:=[] } w1:=by
       obtain ⟨q1,q2⟩:=a17 (L:=j9 ts us L) (l:=l) (vs:=xs k) (s:=s) (a:={ a with defers:=[] }) ⟨rfl,(by rw [ha.wf.fr (hme us)];exact ha.BS.size),λi hi=>(by rw [ha.wf.fr (hme us)] at hi ⊢;exact ha.BS.slot i hi)⟩ (ha.wf.ext (hme us))
       refine ⟨?_,q2,(hme us).ids ha.ids,c,hs⟩
       rw [hpl] at q1
       rw [<-Array.foldl_toList,Array.toList_zip]
       exact q1
      refine ihx (rd:=some lp) (λ_=>hrx) h3 ham ?_
      intro e s1 L1 R1 cG a1 w2 ds1 G1 hq htie ha1 D1 _
      cases e with
      | normal =>
       obtain ⟨Z,hZ,rfl,rfl⟩:=htie
       have hZ:=hZ rfl
       subst hZ
       refine ⟨R1++L1.map Tr.own,cG,ha1.st,by rw [b9];exact ha1.ctx,λw3 Gx3 c3=>?_⟩
       have ha3:At [] Gx3 W s1 L1 R1 cG a1 w3:=⟨ha1.BS,ha1.wf,ha1.ids,by rw [b9] at c3;exact c3,ha1.st⟩
       refine ihy (rd:=some lp) (λ_=>hry) hq ha3 ?_
       intro e s2 L2 R2 AP a2 w4 ds2 G2 qP aFI ha2 V1 _
       cases e with
       | normal =>
        obtain ⟨Z,hZ,rfl,rfl⟩:=aFI
        have hZ:=hZ rfl
        subst hZ
        simp only at qP
        split at qP
        .rename_i hsub
         obtain ⟨R3,O6,wL,hw3,hj⟩:=qP
         exact ⟨rfl,_,R3,O6,wL,hj,hw3 w4 _ (jM.meet ha2.st ha2.ctx (((hme us).trans D1).trans V1) ha.ids hsub)⟩
        .exact qP.elim
       | _=>exact qP.elim
      | _=>exact hq.elim
     .rintro D w' ⟨us,R',aV,hs,hi,c⟩
      obtain ⟨I',hI'⟩:=qD hi
      have h2:=((pK.lH hI' h1).1 R' aV N hs hi).2.2 rfl
      refine hQ _ _ _ _ _ _ _ (mark D :: ds) (EU D :: G) h2 ⟨[D],λhh=>(by cases hh),rfl,rfl⟩ ⟨?_,ha.wf.ext (hme us),(hme us).ids ha.ids,c,hs⟩ (hme us) (by rw [ha.wf.fr (hme us)];exact bU.refl _ _)
      rw [ha.wf.fr (hme us)]
      exact ⟨by simp [ha.BS.defers],ha.BS.size,ha.BS.slot⟩
    .exact h.elim
  .exact h.elim
 | scope b ih =>
  intro rd Q' Q s L R Φ a w ds G hrd h ha hQ
  simp only [vcS] at h
  refine a8F (ih (λhh=>by have:=hrd hh;cases this) h ha ?_)
  intro e s' L' R' aV a' w' ds1 G1 hq htie cH he hu
  cases e with
  | goto n=>exact hq.elim
  | normal=>exact hQ _ _ _ _ _ _ _ _ _ hq htie cH he hu
  | exit n=>exact hQ _ _ _ _ _ _ _ _ _ hq htie cH he hu
  | ret=>exact hQ _ _ _ _ _ _ _ _ _ hq htie cH he hu
  | panic n=>exact hQ _ _ _ _ _ _ _ _ _ hq htie cH he hu
  | outgrown=>exact hQ _ _ _ _ _ _ _ _ _ hq htie cH he hu
 | label l=>intro rd Q' Q s L R Φ a w ds G hrd h ha hQ;exact wpIn_label (hQ _ _ _ _ _ _ _ _ _ h (Tie.refl _ _ _) ha (Ext.refl _) (bU.refl _ _))
 | goto l=>intro rd Q' Q s L R Φ a w ds G hrd h;exact h.elim
 | refuse why=>intro rd Q' Q s L R Φ a w ds G hrd h;exact h.elim
theorem MO {P:Program} {W:World} {s:fJ} {L:List Tr} {R:List Own} {Φ:PW} {a:Act} {w:World} (ha:At ds G W s L R Φ a w):∀ {l:List ResultVar} {K:List Value->Prop},a3G P W s L R Φ l K ->
  ∃ vs,(l.mapM λr=>(match r with | .tmp t=>pure (a.tmps.getD t undef) | .cell x t=>(do loadVar t (<-asAddr (a.tmps.getD x undef)):Sem Value):Sem Value)).run P w=.ok vs w/\K vs
 | [],K,h=>⟨[],by simp,h⟩
 | .tmp t :: r,K,h=>by
  unfold a3G at h
  split at h
  .exact h.elim
  .rename_i hu
   obtain ⟨vs,h1,h2⟩:=MO ha h
   refine ⟨_,?_,h2⟩
   have e:(s.fr L).get t=(VX t s.l).val L:=OW L t s.l
   rw [List.mapM_cons]
   simp only [Sem.run_bind,Sem.run_pure,Result.andThen,h1,ha.BS.slot t (by rw [e];exact hu),e]
 | .cell x t :: r,K,h=>by
  unfold a3G at h
  have e:(s.fr L).get x=(VX x s.l).val L:=OW L x s.l
  have done:∀ {b o:Nat} {K2:Value->Prop} {v:Value},(VX x s.l).val L=.pointer (some ⟨b,o,none⟩)->(loadVar t ⟨b,o,none⟩).run P w=.ok v w->(a3G P W s L R Φ r λvs=>K (v :: vs)) ->
    ∃ vs,(((ResultVar.cell x t) :: r).mapM λr=>(match r with | .tmp t=>pure (a.tmps.getD t undef) | .cell x t=>(do loadVar t (<-asAddr (a.tmps.getD x undef)):Sem Value):Sem Value)).run P w=.ok vs w/\K vs:=by
   intro b o K2 v hv hl hk
   obtain ⟨vs,h3,h4⟩:=MO ha hk
   refine ⟨_,?_,h4⟩
   rw [List.mapM_cons]
   have hx':a.tmps.getD x undef=.pointer (some ⟨b,o,none⟩):=by rw [ha.BS.slot x (by rw [e,hv];rfl),e,hv]
   have hra:(asAddr (a.tmps.getD x undef)).run P w=.ok ⟨b,o,none⟩ w:=by rw [hx'];rfl
   simp only [Sem.run_bind,Sem.run_pure,Result.andThen,hra,hl,h3]
  split at h
  .rename_i k off hx
   have hw:=ha.wf
   obtain ⟨T,hT⟩:=Option.isSome_iff_exists.1 (MF.ev (x:=.tmp x) hw (show s.ev (.tmp x)=.ptr k off from hx))
   obtain ⟨v,h1,h2⟩:=GH hT (ha.ctx.blk hT) h
   exact done (K2:=λ_=>True) (by rw [hx,eY hT]) (h1 w rfl) h2
  .rename_i b o hx
   obtain ⟨v,h1,h2⟩:=tU (h w _ ha.ctx)
   exact done (K2:=λ_=>True) (by rw [hx];rfl) (h1 trivial w rfl) h2
  .exact h.elim
theorem a5J (L):∀ (l:List Value) (i:Nat),sV L (a5F i l)=xE i l
 | [],_=>rfl
 | v :: r,i=>by simp only [a5F,xE,sV,a5J L r (i+1),SV.val]
theorem a8J {P W w H f args R} {Φ:PW} [hst:aB Φ] {J} (h:aNN P W H f args R Φ J) (c:Ctx W w R Φ):
  Calls P f args w λe w'=>∃ v,e=.returned v/\J v w':=by
 unfold aNN at h
 split at h
 .rename_i fn hf
  split at h
  .rename_i code hc
   have hwf:MF [] (⟨max fn.ntmps args.size,a5F 0 args.toList⟩:fJ):=by
    have key:∀ (l:List Value) (i:Nat),∀ p∈a5F i l,∃ v,p.2=SV.v v:=by
     intro l
     induction l with
     | nil=>intro i p hp;cases hp
     | cons v r ih =>
      intro i p hp
      rcases List.mem_cons.1 hp with rfl|hp
      .exact ⟨v,rfl⟩
      .exact ih _ p hp
    intro p hp k o e
    obtain ⟨v,hv⟩:=key _ _ p hp
    rw [hv] at e;cases e
   have hfr:(⟨max fn.ntmps args.size,a5F 0 args.toList⟩:fJ).fr []=JP fn args:=by simp only [fJ.fr,JP,a5J]
   have hat:At [] [] W (⟨max fn.ntmps args.size,a5F 0 args.toList⟩:fJ) [] R Φ { tmps:=args++Array.replicate (fn.ntmps - args.size) undef,defers:=[] } w :=
    ⟨by rw [hfr];exact UP fn args,hwf,by simp,by simpa [jM] using c,hst⟩
   refine (callsIn_wide (n:=0)).1 (callsIn_of_wp_marks (F:=jV none) hf hc trivial (aCF (rd:=none) code (λhh=>(by cases hh)) h hat ?_))
   intro e s L' R' aV a w' ds' G' hq htie ha _ _
   obtain ⟨Z,_,rfl,rfl⟩:=htie
   have key:(a3G P W s L' R' aV fn.results.toList λvs=>∀ w F,Ctx W w (R'++F) aV->J (pQ vs) w)->bodyPostM (jV none) 0 P fn (λe w'=>∃ v,e=.returned v/\J v w') .ret a w':=by
    intro hq
    show LeavesInM Fence.wide 0 P fn a.tmps _ a.defers .returning w'
    have:=ha.st
    rw [ha.BS.defers,List.append_nil]
    refine P3 (Φ:=aV) Z (R'++L'.map Tr.own) w' (by have:=ha.ctx;rw [List.append_nil] at this;rw [b9];exact this) λw2 S2 c2=>?_
    rw [b9] at c2
    have ha2:At (Z.map mark++[]) S2 W s L' R' aV a w2:=⟨ha.BS,ha.wf,ha.ids,c2,ha.st⟩
    obtain ⟨vs,h1,h2⟩:=MO ha2 hq
    refine ⟨pQ vs,?_,pQ vs,rfl,h2 w2 _ c2⟩
    unfold results
    rw [Array.mapM_eq_mapM_toList,map_eq_pure_bind,Sem.run_bind,Sem.run_bind]
    have e:∀ (r:Result (List Value)),r=.ok vs w2->(((r.andThen λa=>(pure a.toArray:Sem (Array Value)).run P).andThen λvs=>(pure (if h:vs.size=1 then vs[0] else Value.tuple vs):Sem Value).run P))=.ok (pQ vs) w2:=by
     intro r hr
     subst hr
     simp only [Result.andThen,Sem.run_pure,XR]
    exact e _ h1
   cases e with
   | normal=>exact key hq
   | ret=>exact key hq
   | _=>exact hq.elim
  .exact h.elim
 .exact h.elim
end Go.Vc
end

section
namespace Go.Proofs.YtnlkemjhgdbfkaaGreatDoor
set_option maxRecDepth 100000
open Go.Vc
abbrev F.jX:Nat:=7
abbrev F.JR:Nat:=13
abbrev F.gC:Nat:=17
abbrev F.jY:Nat:=18
abbrev F.jZ:Nat:=19
abbrev F.lY:Nat:=20
abbrev F.r5:Nat:=21
abbrev F.jC:Nat:=22
abbrev F.dP:Nat:=23
abbrev F.nS:Nat:=24
abbrev F.eM:Nat:=25
abbrev F.gD:Nat:=27
abbrev F.r6:Nat:=58
abbrev F.jD:Nat:=59
abbrev F.vE:Nat:=62
abbrev F.xK:Nat:=63
abbrev F.lI:Nat:=64
abbrev F.pS:Nat:=65
abbrev F.pT:Nat:=66
abbrev F.kD:Nat:=67
abbrev F.jW:Nat:=70
abbrev F.jE:Nat:=75
abbrev F.a3H:Nat:=81
abbrev F.Y8:Nat:=82
abbrev F.mQ:Nat:=83
abbrev F.nT:Nat:=84
abbrev F.eP:Nat:=85
abbrev F.kE:Nat:=86
abbrev F.iP:Nat:=87
abbrev F.iQ:Nat:=88
abbrev F.DG:Nat:=89
abbrev F.fQ:Nat:=90
abbrev F.pU:Nat:=91
abbrev F.r7:Nat:=92
abbrev F.r8:Nat:=93
abbrev F.u0:Nat:=94
abbrev F.iR:Nat:=95
abbrev F.oG:Nat:=96
abbrev F.pL:Nat:=97
abbrev F.gL:Nat:=98
abbrev F.kF:Nat:=99
abbrev F.nC:Nat:=100
abbrev F.oW:Nat:=101
abbrev F.JS:Nat:=102
abbrev F.tC:Nat:=105
abbrev F.cC:Nat:=106
abbrev F.kH:Nat:=107
abbrev F.dV:Nat:=109
abbrev F.nD:Nat:=118
abbrev F.j6:Nat:=137
abbrev F.kK:Nat:=138
abbrev F.iH:Nat:=141
abbrev F.P6:Nat:=143
abbrev F.r9:Nat:=145
abbrev F.AQ:Nat:=153
abbrev F.oH:Nat:=154
abbrev F.gV:Nat:=155
abbrev F.xL:Nat:=156
abbrev F.j7:Nat:=157
abbrev F.wM:Nat:=158
abbrev F.u6:Nat:=159
abbrev F.nE:Nat:=160
abbrev F.AR:Nat:=174
abbrev F.oI:Nat:=181
abbrev F.jF:Nat:=182
abbrev F.zZ:Nat:=189
abbrev F.hY:Nat:=190
abbrev F.gM:Nat:=191
abbrev F.iA:Nat:=192
abbrev F.iB:Nat:=193
abbrev F.JT:Nat:=194
abbrev F.GM:Nat:=195
abbrev F.MP:Nat:=196
abbrev F.nU:Nat:=197
abbrev F.nF:Nat:=198
abbrev F.vF:Nat:=199
abbrev F.mK:Nat:=200
abbrev F.DH:Nat:=201
abbrev F.nG:Nat:=202
abbrev F.DI:Nat:=203
abbrev F.xM:Nat:=204
abbrev F.kN:Nat:=205
abbrev F.fR:Nat:=206
abbrev F.lJ:Nat:=207
abbrev F.DJ:Nat:=208
abbrev F.oX:Nat:=209
abbrev F.strconv_Itoa:Nat:=210
abbrev F.gG:Nat:=215
abbrev F.cP:Nat:=216
abbrev F.rA:Nat:=217
abbrev F.oB:Nat:=243
abbrev F.cD:Nat:=247
abbrev F.fX:Nat:=248
abbrev F.eR:Nat:=249
abbrev F.eU:Nat:=250
abbrev F.P7:Nat:=251
abbrev F.vG:Nat:=252
abbrev F.nH:Nat:=253
abbrev F.DK:Nat:=254
abbrev F.oJ:Nat:=255
abbrev F.vH:Nat:=256
abbrev F.rC:Nat:=287
abbrev F.oY:Nat:=288
abbrev F.tD:Nat:=289
abbrev F.dH:Nat:=290
abbrev F.u7:Nat:=291
abbrev F.uA:Nat:=292
abbrev F.fP:Nat:=293
abbrev F.eB:Nat:=294
abbrev F.bV:Nat:=295
abbrev F.wN:Nat:=296
abbrev F.wO:Nat:=297
abbrev F.mL:Nat:=298
abbrev F.jG:Nat:=299
abbrev F.iV:Nat:=300
abbrev F.iJ:Nat:=301
abbrev F.gI:Nat:=302
abbrev F.dQ:Nat:=303
abbrev F.fD:Nat:=304
abbrev F.uB:Nat:=305
abbrev F.kP:Nat:=306
abbrev F.fE:Nat:=307
abbrev F.oK:Nat:=308
abbrev F.oL:Nat:=309
abbrev F.fG:Nat:=310
abbrev F.lK:Nat:=311
abbrev F.DL:Nat:=312
abbrev F.strings_IndexByte:Nat:=315
abbrev F.strconv_Atoi:Nat:=316
abbrev F.strings_CutPrefix:Nat:=317
abbrev F.jH:Nat:=336
abbrev F.dS:Nat:=369
abbrev F.xN:Nat:=370
abbrev F.cK:Nat:=371
abbrev F.xO:Nat:=372
abbrev F.iZ:Nat:=373
abbrev F.jP:Nat:=374
abbrev F.eV:Nat:=375
abbrev F.eW:Nat:=376
abbrev F.kQ:Nat:=377
abbrev F.lZ:Nat:=378
abbrev F.GN:Nat:=379
abbrev F.jJ:Nat:=380
abbrev F.dW:Nat:=414
abbrev F.jQ:Nat:=415
abbrev F.vI:Nat:=416
abbrev aD (f:FuncId) (a:Array Value) (w:World) (K:EkV):Prop:=Calls prog f a w K
abbrev bE (f:FuncId) (a:Array Value) (B:World->List Own->PW->(Value->World->Prop)->Prop):Prop:=∀ {W w:World} {R:List Own} {Φ:PW} [aB Φ] {J:Value->World->Prop},Ctx W w R Φ->B W R Φ J->Calls prog f a w λe w'=>∃ v,e=.returned v/\J v w'
theorem bF {f:FuncId} {a:Array Value} {B:World->List Own->PW->(Value->World->Prop)->Prop} (H:HS) (h:∀ W R Φ J,aNN prog W H f a R Φ J=B W R Φ J):bE f a B:=λc g=>a8J (H:=H) (by rw [h];exact g) c
abbrev aR:=World->List Own->PW->(Value->World->Prop)->Prop
abbrev aH (b o:Nat):Addr:=⟨b,o,none⟩
abbrev aJ (b o:Nat):Option Addr:=some ⟨b,o,none⟩
abbrev aA (n:Int):Value:=.int .i64 n
abbrev Zc (W:World) (R:List Own) (Φ:List Nat->World->Prop) (f:FuncId) (a:Array Value) (k:Ending->((List Own->(List Nat->World->Prop)->Prop)->Prop)->Prop):Prop:=∀ (w:World) (F:List Own),Ctx W w (R++F) Φ->Calls prog f a w λe w'=>k e λq=>∃ (R':List Own) (aV:List Nat->World->Prop),aB aV/\Ctx W w' (R'++F) aV/\q R' aV
theorem fW {P:Program} {f:FuncId} {a:Array Value} {w:World} {K:Ending->World->Prop} (h:Calls P f a w λe w'=>∃ v,e=.returned v/\K (.returned v) w'):Calls P f a w K:=h.mono λe w' ⟨v,he,hj⟩=>by rw [he];exact hj
def AU (rB rO:Nat) (data:ByteArray):aR:=λW R Φ J=>
 ∀ (k0:Nat) w1 R2,Ctx W w1 (Own.blk k0 [Value.bool false,aA 0,aA 0,aA 0,Value.slice none 0 0,Value.slice none 0 0] 146 :: R++R2) Φ->∃ n3,w1.cell? (aH rB (rO+4))=some (aA n3)/\Br (decide (n3≠2)) (∀ w4 R5,Ctx W w4 (Own.blk k0 [Value.bool false,aA 0,aA 0,aA 0,Value.slice none 0 0,Value.slice none 0 0] 146 :: R++R5) Φ->aG w4 k0 0 6/\∀ w6,w6=w4.setCells k0 0 [Value.bool false,aA 0,aA 0,aA 0,Value.slice none 0 0,Value.slice none 0 0]->∃ R7 D2,aB D2/\Ctx W w6 (R7++R5) D2/\Zd W R7 D2 λw9=>∃ c11 n12 MQ S3 p15 VY uI p18 VZ k20,bL w9 k0 0 [Value.bool c11,aA n12,aA MQ,aA S3,Value.slice p15 VY uI,Value.slice p18 VZ k20]/\Zr W R7 D2 J (Value.tuple #[aA 0,aA 24,Value.agg #[.bool c11,aA n12,aA MQ,aA S3,.slice p15 VY uI,.slice p18 VZ k20]])) (Br (decide (2000<(↑data.size:Int))) (∀ w23 LR,Ctx W w23 (Own.blk k0 [Value.bool false,aA 0,aA 0,aA 0,Value.slice none 0 0,Value.slice none 0 0] 146 :: R++LR) Φ->aG w23 k0 0 6/\∀ LS,LS=w23.setCells k0 0 [Value.bool false,aA 0,aA 0,aA 0,Value.slice none 0 0,Value.slice none 0 0]->∃ LU AV,aB AV/\Ctx W LS (LU++LR) AV/\Zd W LU AV λw28=>∃ c30 n31 n32 n33 p34 k35 k36 p37 k38 k39,bL w28 k0 0 [Value.bool c30,aA n31,aA n32,aA n33,Value.slice p34 k35 k36,Value.slice p37 k38 k39]/\Zr W LU AV J (Value.tuple #[aA 0,aA 1,Value.agg #[.bool c30,aA n31,aA n32,aA n33,.slice p34 k35 k36,.slice p37 k38 k39]])) (Zd W (Own.blk k0 [Value.bool false,aA 0,aA 0,aA 0,Value.slice none 0 0,Value.slice none 0 0] 146 :: R) Φ λw42=>∃ p44 k45 k46,w42.cell? (aH rB (rO+3))=some (.slice p44 k45 k46)/\Br (decide ((↑k45:Int)=4000)) (∀ w47 R48,Ctx W w47 (Own.blk k0 [Value.bool false,aA 0,aA 0,aA 0,Value.slice none 0 0,Value.slice none 0 0] 146 :: R++R48) Φ->aG w47 k0 0 6/\∀ (w49 : World),w49=w47.setCells k0 0 [Value.bool false,aA 0,aA 0,aA 0,Value.slice none 0 0,Value.slice none 0 0]->∃ R50 a09,aB a09/\Ctx W w49 (R50++R48) a09/\Zd W R50 a09 λw52=>∃ c54 n55 n56 Y9 p58 k59 k60 p61 k62 k63,bL w52 k0 0 [Value.bool c54,aA n55,aA n56,aA Y9,Value.slice p58 k59 k60,Value.slice p61 k62 k63]/\Zr W R50 a09 J (Value.tuple #[aA 0,aA 6,Value.agg #[.bool c54,aA n55,aA n56,aA Y9,.slice p58 k59 k60,.slice p61 k62 k63]])) (Zd W (Own.blk k0 [Value.bool false,aA 0,aA 0,aA 0,Value.slice none 0 0,Value.slice none 0 0] 146 :: R) Φ λw66=>∃ n68,w66.cell? (aH rB (rO+1))=some (aA n68)/\∀ (b:Nat),∃ R69 KB,aB KB/\Wk W (Own.blk k0 [Value.bool false,aA 0,aA 0,aA 0,Value.slice none 0 0,Value.slice none 0 0] 146 :: R) Φ (R69) KB/\∃ (p73:Option Addr) (k74 k75:Nat),(Zd W R69 KB λw76=>∃ p78 k79 k80,w76.cell? (aH rB (rO+3))=some (.slice p78 k79 k80)/\Value.slice p78 k79 k80=Value.slice p73 k74 k75)/\∀ (k81:Nat),Wk W (Own.blk k81 [aA n68,.string data] 216 :: Own.blk k0 [Value.bool false,aA 0,aA 0,aA 0,Value.slice none 0 0,Value.slice none 0 0] 146 :: R) Φ (R69) KB/\∀ w84 R85,Ctx W w84 (Own.blk k81 [aA n68,.string data] 216 :: Own.blk k0 [Value.bool false,aA 0,aA 0,aA 0,Value.slice none 0 0,Value.slice none 0 0] 146 :: R++R85) Φ->∃ p86 k87 k88 w89,Sem.run prog (builtin Builtin.append #[99,99] 99 #[false,false] #[.slice p73 k74 k75,.slice (aJ k81 0) 1 1]) w84=.ok (.value (.slice p86 k87 k88)) w89/\∃ R90 aCH,aB aCH/\Ctx W w89 (R90++R85) aCH/\Wk W R90 aCH R69 KB/\∀ w94 R95,Ctx W w94 (R90++R95) aCH->aG w94 rB (rO+3) 1/\∀ w96,w96=w94.setCell (aH rB (rO+3)) (Value.slice p86 k87 k88)->∃ R97 P8,aB P8/\Ctx W w96 (R97++R95) P8/\∃ R99 A4,aB A4/\Wk W R97 P8 R99 A4/\∃ (aYa:Option Addr) (YA aCJ:Nat),(Zd W R99 A4 λaFQ=>∃ a5L P9 a3L,aFQ.cell? (aH rB (rO+3))=some (.slice a5L P9 a3L)/\Value.slice a5L P9 a3L=Value.slice aYa YA aCJ)/\∃ (aJS:Option Addr) (a1a a1b:Nat),(Zd W R99 A4 λaJT=>∃ aFR YB aFS,aJT.cell? (aH rB (rO+3))=some (.slice aFR YB aFS)/\Value.slice aFR YB aFS=Value.slice aJS a1a a1b)/\(∀ (a8K:Nat),Wk W (Own.blk a8K [aA n68,.string data] 216 :: R97) P8 (R99) A4/\(Zc W (Own.blk a8K [aA n68,.string data] 216 :: R97) P8 F.fR #[.pointer (aJ rB rO)] λaYb q=>∃ aRQ aRR aFT,aYb=.returned (.slice aRQ aRR aFT)/\q λa5M aMB=>Wk W a5M aMB R99 A4/\(∀ aNV a5N,Ctx W aNV (a5M++a5N) aMB->aG aNV k0 0 6/\∀ aJU,aJU=aNV.setCells k0 0 [Value.bool false,aA 0,aA 0,aA (↑a1a:Int),Value.slice (aJ a8K 0) 1 1,Value.slice aRQ aRR aFT]->∃ aJV a5O,aB a5O/\Ctx W aJU (aJV++a5N) a5O/\Wk W aJV a5O R99 A4/\Zd W aJV a5O λaYc=>∃ aRS n143 n144 n145 aRT aRU aFU aRV a5P aRW,bL aYc k0 0 [Value.bool aRS,aA n143,aA n144,aA n145,Value.slice aRT aRU aFU,Value.slice aRV a5P aRW]/\Zr W aJV a5O J (Value.tuple #[aA (↑YA:Int),aA 0,Value.agg #[.bool aRS,aA n143,aA n144,aA n145,.slice aRT aRU aFU,.slice aRV a5P aRW]]))/\True)/\True)/\(∀ aJW aRX,Ctx W aJW (R97++aRX) P8->aD F.fR #[.pointer (aJ rB rO)] aJW λaYd aJX=>∃ aRY aJY aRZ,aYd=.returned (.slice aRY aJY aRZ)/\∃ a3M YC,aB YC /\ Ctx W aJX (a3M++aRX) YC/\Wk W a3M YC R99 A4/\(∀ (aFV:Nat),Wk W (Own.blk aFV [aA n68,.string data] 216 :: a3M) YC (R99) A4/\(∀ a1c a1d,Ctx W a1c (Own.blk aFV [aA n68,.string data] 216 :: a3M++a1d) YC->aG a1c k0 0 6/\∀ a5Q,a5Q=a1c.setCells k0 0 [Value.bool false,aA 0,aA 0,aA (↑a1a:Int),Value.slice (aJ aFV 0) 1 1,Value.slice aRY aJY aRZ]->∃ a1e PA,aB PA/\Ctx W a5Q (a1e++a1d) PA/\Wk W a1e PA R99 A4/\Zd W a1e PA λaJZ=>∃ aR0 n178 n179 n180 aR1 aCK aR2 aR3 aR4 aR5,bL aJZ k0 0 [Value.bool aR0,aA n178,aA n179,aA n180,Value.slice aR1 aCK aR2,Value.slice aR3 aR4 aR5]/\Zr W a1e PA J (Value.tuple #[aA (↑YA:Int),aA 0,Value.agg #[.bool aR0,aA n178,aA n179,aA n180,.slice aR1 aCK aR2,.slice aR3 aR4 aR5]]))/\True)/\True)/\True)))
theorem vJ (rB rO data):bE F.kF #[.pointer (aJ rB rO),.string data] (AU rB rO data):=bF { keep:=some [0,1,4,5,6,7,8,15,20],gA:=[7],eF:=[(8,[.held [(0,true),(1,true),(5,true),(2,true),(3,true),(4,true),(6,false),(7,false)],.bD [8] none,.bD [9] (some 10)]),(9,[.tree (.rd 0 (.rd 5 (.rd 10 (.rd 12 (.rd 1 (.rd 6 (.rd 2 (.rd 7 (.rd 3 (.rd 8 (.rd 4 (.rd 9 (.alt 11 (.alt 13 (.rd 14 (.rd 15 (.rd 16 (.alt 17 (.done) (.no))))) (.no)) (.alt 13 (.rd 15 (.rd 16 (.alt 11 (.rd 14 (.alt 17 (.done) (.no))) (.no)))) (.no))))))))))))))) 18])] } λ_ _ _ _=>by kernel_rfl
def GO (rB rO:Nat):aR:=λW R Φ J=>
 Zd W R Φ λw0=>∃ p2 k3 k4,w0.cell? (aH rB (rO+3))=some (.slice p2 k3 k4)/\Zc W R Φ F.cD #[.slice p2 k3 k4] λe7 q=>∃ p9 wP FY,e7=.returned (.slice p9 wP FY)/\q λA5 qR=>Zr W A5 qR J (.slice p9 wP FY)
theorem AW (rB rO):bE F.oH #[.pointer (aJ rB rO)] (GO rB rO):=bF { keep:=some [0,2] } λ_ _ _ _=>by kernel_rfl
def F7 (rB rO:Nat):aR:=λW R Φ J=>
 ∀ (b:Nat) w0 R1,Ctx W w0 (R++R1) Φ->∃ n2 n3,bL w0 rB (rO+1) [aA n2,aA n3]/\Zr W R Φ J (Value.agg #[aA n2,aA n3])
theorem yS (rB rO):bE F.nE #[.pointer (aJ rB rO)] (F7 rB rO):=bF { keep:=some [0,2],gA:=[2] } λ_ _ _ _=>by kernel_rfl
def a3N (id:Int) (h0:Int) (h1:Int) (a1f:Option Addr) (W0 a3O:Nat):aR:=λW R Φ J=>
 ∀ (b:Nat) w0 R1,Ctx W w0 (R++R1) Φ->aD F.dH #[aA id,aA 0,aA 2] w0 λe2 w3=>∃ c4,e2=.returned (.bool c4)/\∃ R5 fA,aB fA/\Ctx W w3 (R5++R1) fA/\Br (!c4) (Zr W R5 fA J (.pointer none)) (Zc W R5 fA F.dH #[aA h0,aA 0,aA 1099511627776] λe11 q=>∃ c13,e11=.returned (.bool c13)/\q λO7 tE=>Br (!c13) (Zr W O7 tE J (.pointer none)) (Zc W O7 tE F.dH #[aA h1,aA (-1),aA 2] λe20 q=>∃ c22,e20=.returned (.bool c22)/\q λR23 PB=>Br (!c22) (Zr W R23 PB J (.pointer none)) (Br (decide (4000<(↑W0:Int))) (Zr W R23 PB J (.pointer none)) (Zc W R23 PB F.u7 #[.slice a1f W0 a3O,aA 1,aA h0] λe31 q=>∃ c33,e31=.returned (.bool c33)/\q λS4 xP=>Br (!c33) (Zr W S4 xP J (.pointer none)) (∃ V2 tF,aB tF/\Wk W S4 xP V2 tF/\Zc W S4 xP F.cD #[.slice a1f W0 a3O] λe44 q=>∃ p46 k47 k48,e44=.returned (.slice p46 k47 k48)/\q λV3 vK=>Wk W V3 vK V2 tF/\∀ (k53:Nat),Wk W (Own.blk k53 [aA id,aA h0,aA h1,.slice p46 k47 k48,aA 0,aA 0,.bool false,.bool false,.bool false, aA 0,aA 0,aA 0,aA 0,aA 0,aA 0] 278 :: V3) vK (V2) tF/\Zr W (Own.blk k53 [aA id,aA h0,aA h1,.slice p46 k47 k48,aA 0,aA 0,.bool false,.bool false,.bool false,aA 0,aA 0,aA 0,aA 0,aA 0,aA 0] 278 :: V3) vK J (.pointer (aJ k53 0)))))))
theorem SM (id h0 h1 a1f W0 a3O):bE F.GM #[.int .i64 id,.agg #[.int .i64 h0,.int .i64 h1],.slice a1f W0 a3O] (a3N id h0 h1 a1f W0 a3O):=bF { keep:=some [0,2,4,6,33],gA:=[4],eF:=[(3,[.held [(0,true),(1,true),(2,true),(3,false),(4,true),(5,false)],.bD [6] none])],split:=[1] } λ_ _ _ _=>by kernel_rfl
def F8 (rB rO:Nat):aR:=λW R Φ J=>
 ∀ (b:Nat) w0 R1,Ctx W w0 (R++R1) Φ->∃ n2,w0.cell? (aH rB (rO+4))=some (aA n2)/\Br (decide (n2=2)) (Zc W R Φ F.fR #[.pointer (aJ rB rO)] λe5 q=>∃ p7 k8 k9,e5=.returned (.slice p7 k8 k9)/\q λR10 aCL=>Zr W R10 aCL J (Value.agg #[.bool false,aA 0,aA 0,aA 0,.slice none 0 0,.slice p7 k8 k9])) (Zd W R Φ λKC=>∃ n16,KC.cell? (aH rB (rO+1))=some (aA n16)/\Br (decide (n16=1099511627776)) (Zr W R Φ J (Value.agg #[.bool false,aA 0,aA 0,aA 0,.slice none 0 0,.slice none 0 0])) (Zd W R Φ λYD=>∃ n21,YD.cell? (aH rB rO)=some (aA n21)/\Zd W R Φ λw22=>∃ n24,w22.cell? (aH rB (rO+1))=some (aA n24)/\aX (n24+1)/\∀ LS LU,Ctx W LS (R++LU) Φ->aG LS rB (rO+1) 2/\∀ w27,w27=LS.setCells rB (rO+1) [aA (n24+1),aA n21]->∃ R28 YE,aB YE/\Ctx W w27 (R28++LU) YE/\∀ w30 R31,Ctx W w30 (R28++R31) YE->aG w30 rB (rO+4) 1/\∀ w32,w32=w30.setCell (aH rB (rO+4)) (aA 1)->∃ GQ mA,aB mA/\Ctx W w32 (GQ++R31) mA/\∀ YF GR,Ctx W YF (GQ++GR) mA->aG YF rB (rO+6) 3/\∀ w37,w37=YF.setCells rB (rO+6) [Value.bool false,Value.bool false,Value.bool false]->∃ V2 tF,aB tF/\Ctx W w37 (V2++GR) tF/\∃ R40 vL,aB vL/\Wk W V2 tF R40 vL/\Zd W V2 tF λw44=>∃ n46,w44.cell? (aH rB rO)=some (aA n46)/\(0<=n46/\n46<3)/\∀ w47 R48,Ctx W w47 (V2++R48) tF->aG w47 rB (rO+6+n46.toNat) 1/\∀ w49,w49=w47.setCell (aH rB (rO+6+n46.toNat)) (Value.bool true)->∃ R50 a09,aB a09/\Ctx W w49 (R50++R48) a09/\Wk W R50 a09 R40 vL/\Zd W R50 a09 λw54=>∃ n56 Y9,bL w54 rB (rO+1) [aA n56,aA Y9]/\∀ (b:Nat) w58 R59,Ctx W w58 (R50++R59) a09->aD F.fP #[.pointer (aJ rB rO)] w58 λe60 w61=>∃ p62 k63 k64,e60=.returned (.slice p62 k63 k64)/\∃ R65 PC,aB PC/\Ctx W w61 (R65++R59) PC/\yQ λ(I67:Int->Bool->Int->Int->Int->Option Addr->Nat->Nat->Option Addr->Nat->Nat->List Own->PW->Nat->Prop)=>(Zs W R65 PC (I67 0 true n56 Y9 0 none 0 0 none 0 0))/\∀ n73 c74 n75 n76 n77 p78 k79 k80 p81 k82 k83 R84 I85 k86,aB I85->I67 n73 c74 n75 n76 n77 p78 k79 k80 p81 k82 k83 R84 I85 k86->Br (decide (n73<(↑k63:Int))) (Zi n73 k63 p62 λk87 k88=>Zd W R84 I85 λw89=>∃ n91,w89.cell? (aH k87 (k88+n73.toNat))=some (aA n91)/\Zc W R84 I85 F.eB #[.pointer (aJ rB rO),aA 0,aA n91] λe94 q=>∃ n96 n97 n98 n99 n100 n101 n102 aSc aSd aCJ aCM,e94=.returned (Value.agg #[aA n96,aA n97,aA n98,aA n99,aA n100,aA n101,aA n102,.bool aSc,.slice aSd aCJ aCM])/\q λaYl aSe=>∀ (P9:Nat) a5S aFZ,Ctx W a5S (Own.blk P9 [aA 0,aA 0,aA 0,aA 0,aA 0,aA 0,aA 0,.bool false,.slice none 0 0] 271 :: aYl++aFZ) aSe->aG a5S P9 0 9/\∀ aCN,aCN=a5S.setCells P9 0 [aA n96,aA n97,aA n98,aA n99,aA n100,aA n101,aA n102,.bool aSc,.slice aSd aCJ aCM]->∃ aCO aBr,aB aBr/\Ctx W aCN (aCO++aFZ) aBr/\∃ BZ nJ,aB nJ/\Wk W aCO aBr BZ nJ/\∃ (aYm:Option Addr) (aSf aJ3:Nat),(Zd W BZ nJ λa1g=>∃ SN a5T a5U,a1g.cell? (aH rB (rO+3))=some (.slice SN a5T a5U)/\Value.slice SN a5T a5U=Value.slice aYm aSf aJ3)/\∃ (aYn:Option Addr) (aFT aYo:Nat),(Zd W BZ nJ λa8Q=>∃ aSg aSh aF0,a8Q.cell? (aH rB (rO+3))=some (.slice aSg aSh aF0) /\ Value.slice aSg aSh aF0=Value.slice aYn aFT aYo)/\Zc W aCO aBr F.bV #[.pointer (aJ rB rO),aA (↑aFT:Int)] λaF1 q=>∃ n139,aF1=.returned (aA n139)/\q λPD EV=>Wk W PD EV BZ nJ/\∀ a8R aF2,Ctx W a8R (PD++aF2) EV->aG a8R P9 4 1/\∀ aF3,aF3=a8R.setCell (aH P9 4) (aA (↑aSf:Int))->∃ a8S PE,aB PE/\Ctx W aF3 (a8S++aF2) PE/\Wk W a8S PE BZ nJ/\∀ aF4 aJ4,Ctx W aF4 (a8S++aJ4) PE->aG aF4 P9 5 1/\∀ aSi,aSi=aF4.setCell (aH P9 5) (aA n139)->∃ MR GU,aB GU/\Ctx W aSi (MR++aJ4) GU/\Zd W MR GU λaNX=>∃ n158 n159 n160 n161 n162 n163 n164 aSj aSk aSl aSm,bL aNX P9 0 [aA n158,aA n159,aA n160,aA n161,aA n162,aA n163,aA n164,.bool aSj,.slice aSk aSl aSm]/\∀ (aSn:Nat) a5Q a1e,Ctx W a5Q (Own.blk aSn [aA n158,aA n159,aA n160,aA n161,aA n162,aA n163,aA n164,.bool aSj,.slice aSk aSl aSm] 271 :: MR++a1e) GU->∃ aSo aSp aSq aJZ,Sem.run prog (builtin Builtin.append #[144,144] 144 #[false,false] #[.slice p81 k82 k83,.slice (aJ aSn 0) 1 1]) a5Q=.ok (.value (.slice aSo aSp aSq)) aJZ/\∃ aSr aF5,aB aF5/\Ctx W aJZ (aSr++a1e) aF5/\aX (n73+1)/\Zb W aSr aF5 k86 (I67 (n73+1) c74 n75 n76 n77 p78 k79 k80 aSo aSp aSq)) (Zr W R84 I85 J (Value.agg #[.bool c74,aA n75,aA n76,aA n77,.slice p78 k79 k80,.slice p81 k82 k83]))))
theorem yT (rB rO):bE F.nF #[.pointer (aJ rB rO)] (F8 rB rO):=bF { keep:=some [0,2,3,5,6,11,20,57,58,59,60],gA:=[2,3],eF:=[(5,[.bD [0,1,7,2,8,3,9,4,10,5,6,11] none,.bD [12] none,.bD [13] (some 14)]),(7,[.late [0,1,2,3,4,7] [0,1,2,5,3,6,4,7] [(8,[])]]),(13,[.held [(0,true),(5,true),(6,true),(1,true),(7,true),(2,true),(8,true),(3,true),(9,true),(4,true),(10,true),(12,true),(11,false),(13,false)],.bD [14] (some 15)])],loops:=[(10,[(59,.one (.int .i64))],[(3,.agg [.bool,.int .i64,.int .i64,.int .i64,.slice,.slice])])] } λ_ _ _ _=>by kernel_rfl
def F9 (rB rO:Nat) (m0:Int) (m1:Int) (m2:Int) (m3:Int) (m4:Int) (m5:Int) (m6:Int) (m7:Bool) (yR:Option Addr) (qW yU:Nat):aR:=λW R Φ J=>
 ∀ (b b:Nat) w0 R1,Ctx W w0 (R++R1) Φ->aD F.mL #[.pointer (aJ rB rO),Value.agg #[aA m0,aA m1,aA m2,aA m3,aA m4,aA m5,aA m6,.bool m7,.slice yR qW yU]] w0 λe2 w3=>∃ c4,e2=.returned (.bool c4)/\∃ R5 fA,aB fA/\Ctx W w3 (R5++R1) fA/\Br (!c4) (Zr W R5 fA J (Value.agg #[.bool false,aA 0,aA 0,aA 0,.slice none 0 0,.slice none 0 0])) (Zd W R5 fA λw9=>∃ FZ n12,bL w9 rB (rO+1) [aA FZ,aA n12]/\∀ (b:Nat) w13 O7,Ctx W w13 (R5++O7) fA->∃ n15,w13.cell? (aH rB (rO+1))=some (aA n15)/\Br (decide (n15<m3)) (∀ DM pM,Ctx W DM (R5++pM) fA->aG DM rB (rO+1) 2/\∀ (JU:World),JU = DM.setCells rB (rO+1) [aA m3,aA (-1)]->∃ vZ lM,aB lM/\Ctx W JU (vZ++pM) lM/\∀ O8 SO,Ctx W O8 (vZ++SO) lM->aG O8 rB (rO+4) 1/\∀ w23,w23=O8.setCell (aH rB (rO+4)) (aA 0)->∃ LR rD,aB rD/\Ctx W w23 (LR++SO) rD/\∀ (b:Nat),Br (decide (m0=0)) (Zc W LR rD F.jG #[.pointer (aJ rB rO),Value.agg #[aA m0,aA m1,aA m2,aA m3,aA m4,aA m5,aA m6,.bool m7,.slice yR qW yU]] λe28 q=>∃ c30 n31 n32 n33 p34 k35 k36 p37 k38 k39,e28=.returned (Value.agg #[.bool c30,aA n31,aA n32,aA n33,.slice p34 k35 k36,.slice p37 k38 k39])/\q λR40 vL=>∀ w42 R43,Ctx W w42 (R40++R43) vL -> ∃ n44 n45,bL w42 rB (rO+1) [aA n44,aA n45]/\vX prog 143=true/\Br (!(decide (n44=FZ)&&(decide (n45=n12)&&true))) (∃ R46 GV,aB GV/\Wk W R40 vL R46 GV/\∃ (n50 n51:Int),(Zd W R46 GV λw52=>∃ n54 n55,bL w52 rB (rO+1) [aA n54,aA n55]/\Value.agg #[aA n54,aA n55]=Value.agg #[aA n50,aA n51])/\Wk W R40 vL R46 GV/\Wk W R40 vL R46 GV/\Zr W R40 vL J (Value.agg #[.bool true,aA n50,aA n51,aA n33,.slice p34 k35 k36,.slice p37 k38 k39])) (Zr W R40 vL J (Value.agg #[.bool c30,aA n31,aA n32,aA n33,.slice p34 k35 k36,.slice p37 k38 k39]))) (Br (decide (m0=1)) (Zc W LR rD F.iV #[.pointer (aJ rB rO),Value.agg #[aA m0,aA m1,aA m2,aA m3,aA m4,aA m5,aA m6,.bool m7,.slice yR qW yU]] λe66 q=>∃ c68 n69 n70 n71 p72 k73 k74 p75 k76 k77,e66=.returned (Value.agg #[.bool c68,aA n69,aA n70,aA n71,.slice p72 k73 k74,.slice p75 k76 k77])/\q λR78 YG=>Zd W R78 YG λw80=>∃ n82 n83,bL w80 rB (rO+1) [aA n82,aA n83]/\vX prog 143=true/\Br (!(decide (n82=FZ)&&(decide (n83=n12)&&true))) (∃ R84 aF7,aB aF7/\Wk W R78 YG R84 aF7/\∃ (n88 n89:Int),(Zd W R84 aF7 λw90=>∃ n92 n93,bL w90 rB (rO+1) [aA n92,aA n93]/\Value.agg #[aA n92,aA n93]=Value.agg #[aA n88,aA n89])/\Wk W R78 YG R84 aF7/\Wk W R78 YG R84 aF7/\Zr W R78 YG J (Value.agg #[.bool true,aA n88,aA n89,aA n71,.slice p72 k73 k74,.slice p75 k76 k77])) (Zr W R78 YG J (Value.agg #[.bool c68,aA n69,aA n70,aA n71,.slice p72 k73 k74,.slice p75 k76 k77]))) (Br (decide (m0=2)) (Zc W LR rD F.iJ #[.pointer (aJ rB rO),Value.agg #[aA m0,aA m1,aA m2,aA m3,aA m4,aA m5,aA m6,.bool m7,.slice yR qW yU]] λaN1 q=>∃ aF8 n107 n108 n109 aCT a3S a1a a3T FA SP,aN1=.returned (Value.agg #[.bool aF8,aA n107,aA n108,aA n109,.slice aCT a3S a1a,.slice a3T FA SP])/\q λa5V V4=>Zd W a5V V4 λa8T=>∃ n120 n121,bL a8T rB (rO+1) [aA n120,aA n121]/\vX prog 143=true/\Br (!(decide (n120=FZ)&&(decide (n121=n12)&&true))) (∃ a1i V5,aB V5/\Wk W a5V V4 a1i V5/\∃ (n126 n127:Int),(Zd W a1i V5 λa5W=>∃ n130 n131,bL a5W rB (rO+1) [aA n130,aA n131]/\Value.agg #[aA n130,aA n131]=Value.agg #[aA n126,aA n127])/\Wk W a5V V4 a1i V5/\Wk W a5V V4 a1i V5/\Zr W a5V V4 J (Value.agg #[.bool true,aA n126,aA n127,aA n109,.slice aCT a3S a1a,.slice a3T FA SP])) (Zr W a5V V4 J (Value.agg #[.bool aF8,aA n107,aA n108,aA n109,.slice aCT a3S a1a,.slice a3T FA SP]))) (Br (decide (m0=3)) (Zc W LR rD F.gI #[.pointer (aJ rB rO),Value.agg #[aA m0,aA m1,aA m2,aA m3,aA m4,aA m5,aA m6,.bool m7,.slice yR qW yU]] λaYs q=>∃ aSu n145 n146 n147 aN2 aF9 a5P aN3 aN4 aN5,aYs=.returned (Value.agg #[.bool aSu,aA n145,aA n146,aA n147,.slice aN2 aF9 a5P,.slice aN3 aN4 aN5])/\q λMR GU=>Zd W MR GU λaNX=>∃ n158 n159,bL aNX rB (rO+1) [aA n158,aA n159]/\vX prog 143=true/\Br (!(decide (n158=FZ)&&(decide (n159=n12)&&true))) (∃ a8U V6,aB V6/\Wk W MR GU a8U V6/\∃ (n164 n165:Int),(∀ aSv aYt,Ctx W aSv (a8U++aYt) V6 -> ∃ n168 n169,bL aSv rB (rO+1) [aA n168,aA n169]/\Value.agg #[aA n168,aA n169]=Value.agg #[aA n164,aA n165])/\Wk W MR GU a8U V6/\Wk W MR GU a8U V6/\Zr W MR GU J (Value.agg #[.bool true,aA n164,aA n165,aA n147,.slice aN2 aF9 a5P,.slice aN3 aN4 aN5])) (Zr W MR GU J (Value.agg #[.bool aSu,aA n145,aA n146,aA n147,.slice aN2 aF9 a5P,.slice aN3 aN4 aN5]))) (Zd W LR rD λaN6=>∃ n180 n181,bL aN6 rB (rO+1) [aA n180,aA n181]/\vX prog 143=true/\Br (!(decide (n180=FZ)&&(decide (n181=n12)&&true))) (∃ aJ6 a5X,aB a5X/\Wk W LR rD aJ6 a5X/\∃ (n186 n187:Int),(Zd W aJ6 a5X λaYu=>∃ n190 n191,bL aYu rB (rO+1) [aA n190,aA n191]/\Value.agg #[aA n190,aA n191]=Value.agg #[aA n186,aA n187])/\Wk W LR rD aJ6 a5X/\Wk W LR rD aJ6 a5X/\Zr W LR rD J (Value.agg #[.bool true,aA n186,aA n187,aA 0,.slice none 0 0,.slice none 0 0])) (Zr W LR rD J (Value.agg #[.bool false,aA 0,aA 0,aA 0,.slice none 0 0,.slice none 0 0]))))))) (∀ (b:Nat),Br (decide (m0=0)) (∀ aSw aSx,Ctx W aSw (R5++aSx) fA->aD F.jG #[.pointer (aJ rB rO),Value.agg #[aA m0,aA m1,aA m2,aA m3,aA m4,aA m5,aA m6,.bool m7,.slice yR qW yU]] aSw λaYv aYw=>∃ aSy n205 n206 n207 aN7 aCU aN8 aN9 aCV aCW, aYv=.returned (Value.agg #[.bool aSy,aA n205,aA n206,aA n207,.slice aN7 aCU aN8,.slice aN9 aCV aCW])/\∃ YH C4,aB C4/\Ctx W aYw (YH++aSx) C4/\Zd W YH C4 λaYx=>∃ n218 n219,bL aYx rB (rO+1) [aA n218,aA n219]/\vX prog 143=true/\Br (!(decide (n218=FZ)&&(decide (n219=n12)&&true))) (∃ aJ7 a5Y,aB a5Y/\Wk W YH C4 aJ7 a5Y/\∃ (n224 n225:Int),(Zd W aJ7 a5Y λaYy=>∃ n228 n229,bL aYy rB (rO+1) [aA n228,aA n229]/\Value.agg #[aA n228,aA n229]=Value.agg #[aA n224,aA n225])/\Wk W YH C4 aJ7 a5Y/\Wk W YH C4 aJ7 a5Y/\Zr W YH C4 J (Value.agg #[.bool true,aA n224,aA n225,aA n207,.slice aN7 aCU aN8,.slice aN9 aCV aCW])) (Zr W YH C4 J (Value.agg #[.bool aSy,aA n205,aA n206,aA n207,.slice aN7 aCU aN8,.slice aN9 aCV aCW]))) (Br (decide (m0=1)) (Zc W R5 fA F.iV #[.pointer (aJ rB rO),Value.agg #[aA m0,aA m1,aA m2,aA m3,aA m4,aA m5,aA m6,.bool m7,.slice yR qW yU]] λaYz q=>∃ aSz n243 n244 n245 aOa aOb aOc aOd aOe aOf,aYz=.returned (Value.agg #[.bool aSz,aA n243,aA n244,aA n245,.slice aOa aOb aOc,.slice aOd aOe aOf])/\q λaCX a2c=>Zd W aCX a2c λaYA=>∃ n256 n257,bL aYA rB (rO+1) [aA n256,aA n257]/\vX prog 143 = true/\Br (!(decide (n256=FZ)&&(decide (n257=n12)&&true))) (∃ aJ8 a5Z,aB a5Z/\Wk W aCX a2c aJ8 a5Z/\∃ (n262 n263:Int),(Zd W aJ8 a5Z λaJ9=>∃ n266 n267,bL aJ9 rB (rO+1) [aA n266,aA n267]/\Value.agg #[aA n266,aA n267]=Value.agg #[aA n262,aA n263])/\Wk W aCX a2c aJ8 a5Z/\Wk W aCX a2c aJ8 a5Z/\Zr W aCX a2c J (Value.agg #[.bool true,aA n262,aA n263,aA n245,.slice aOa aOb aOc,.slice aOd aOe aOf])) (Zr W aCX a2c J (Value.agg #[.bool aSz,aA n243,aA n244,aA n245,.slice aOa aOb aOc,.slice aOd aOe aOf]))) (Br (decide (m0=2)) (Zc W R5 fA F.iJ #[.pointer (aJ rB rO),Value.agg #[aA m0,aA m1,aA m2,aA m3,aA m4,aA m5,aA m6,.bool m7,.slice yR qW yU]] λaYB q=>∃ aSA n281 n282 n283 aOg aOh aOi aOj aOk aOl,aYB=.returned (Value.agg #[.bool aSA,aA n281,aA n282,aA n283,.slice aOg aOh aOi,.slice aOj aOk aOl])/\q λaCY a2d=>Zd W aCY a2d λaYC=>∃ n294 n295,bL aYC rB (rO+1) [aA n294,aA n295]/\vX prog 143=true/\Br (!(decide (n294=FZ)&&(decide (n295=n12)&&true))) (∃ a8V PF,aB PF/\Wk W aCY a2d a8V PF/\∃ (n300 n301:Int),(Zd W a8V PF λaYD=>∃ n304 n305,bL aYD rB (rO+1) [aA n304,aA n305]/\Value.agg #[aA n304,aA n305]=Value.agg #[aA n300, aA n301])/\Wk W aCY a2d a8V PF/\Wk W aCY a2d a8V PF/\Zr W aCY a2d J (Value.agg #[.bool true,aA n300,aA n301,aA n283,.slice aOg aOh aOi,.slice aOj aOk aOl])) (Zr W aCY a2d J (Value.agg #[.bool aSA,aA n281,aA n282,aA n283,.slice aOg aOh aOi,.slice aOj aOk aOl]))) (Br (decide (m0=3)) (Zc W R5 fA F.gI #[.pointer (aJ rB rO),Value.agg #[aA m0,aA m1,aA m2,aA m3,aA m4,aA m5,aA m6,.bool m7,.slice yR qW yU]] λaYE q=>∃ aSB n319 n320 n321 aOm aOn aOo aOp aOq aOr,aYE=.returned (Value.agg #[.bool aSB,aA n319,aA n320,aA n321,.slice aOm aOn aOo, .slice aOp aOq aOr])/\q λaCZ a2e=>Zd W aCZ a2e λaYF=>∃ n332 n333,bL aYF rB (rO+1) [aA n332,aA n333]/\vX prog 143=true/\Br (!(decide (n332=FZ)&&(decide (n333=n12)&&true))) (∃ aKa a50,aB a50/\Wk W aCZ a2e aKa a50/\∃ (n338 n339:Int),(Zd W aKa a50 λaYG=>∃ n342 n343,bL aYG rB (rO+1) [aA n342,aA n343]/\Value.agg #[aA n342,aA n343]=Value.agg #[aA n338,aA n339])/\Wk W aCZ a2e aKa a50/\Wk W aCZ a2e aKa a50/\Zr W aCZ a2e J (Value.agg #[.bool true,aA n338,aA n339,aA n321,.slice aOm aOn aOo,.slice aOp aOq aOr])) (Zr W aCZ a2e J (Value.agg #[.bool aSB,aA n319, aA n320,aA n321,.slice aOm aOn aOo,.slice aOp aOq aOr]))) (Zd W R5 fA λaYH=>∃ aSC aSD,bL aYH rB (rO+1) [aA aSC,aA aSD]/\vX prog 143=true/\Br (!(decide (aSC=FZ)&&(decide (aSD=n12)&&true))) (∃ aKb a52,aB a52/\Wk W R5 fA aKb a52/\∃ (aSE aSF:Int),(Zd W aKb a52 λaYI=>∃ aSG aSH,bL aYI rB (rO+1) [aA aSG,aA aSH]/\Value.agg #[aA aSG,aA aSH]=Value.agg #[aA aSE,aA aSF])/\Wk W R5 fA aKb a52/\Wk W R5 fA aKb a52/\Zr W R5 fA J (Value.agg #[.bool true,aA aSE,aA aSF,aA 0,.slice none 0 0,.slice none 0 0])) (Zr W R5 fA J (Value.agg #[.bool false,aA 0,aA 0,aA 0,.slice none 0 0,.slice none 0 0]))))))))
theorem yV (rB rO m0 m1 m2 m3 m4 m5 m6 m7 yR qW yU):bE F.nG #[.pointer (aJ rB rO),.agg #[.int .i64 m0,.int .i64 m1,.int .i64 m2,.int .i64 m3,.int .i64 m4,.int .i64 m5,.int .i64 m6,.bool m7,.slice yR qW yU]] (F9 rB rO m0 m1 m2 m3 m4 m5 m6 m7 yR qW yU):=bF { keep:=some [0,3,4,5,6,10,23,34,35,40,45,50,60],gA:=[3,4,5,6],eF:=[(17,[.late [4] [0,4,1,2,3] [(5,[6]),(7,[])]])] } λ_ _ _ _=>by kernel_rfl
def GX (rB rO:Nat):aR:=λW R Φ J=>
 Zc W R Φ F.fP #[.pointer (aJ rB rO)] λe2 q=>∃ p4 k5 k6,e2=.returned (.slice p4 k5 k6)/\q λR7 D2=>yQ λ(I9:Option Addr->Nat->Nat->Int->List Own->PW->Nat->Prop)=>(Zs W R7 D2 (I9 none 0 0 0))/\∀ p15 VY uI n18 vZ I20 k21,aB I20->I9 p15 VY uI n18 vZ I20 k21->Br (decide (n18<(↑k5:Int))) (Zi n18 k5 p4 λk22 k23=>Zd W vZ I20 λG0=>∃ n26,G0.cell? (aH k22 (k23+n18.toNat))=some (aA n26)/\Zc W vZ I20 F.fD #[.pointer (aJ rB rO),aA n26] λe29 q=>∃ n31 n32 n33 n34 n35 n36 n37 c38 p39 k40 k41,e29=.returned (Value.agg #[aA n31,aA n32,aA n33,aA n34,aA n35,aA n36,aA n37,.bool c38,.slice p39 k40 k41])/\q λR42 a54=>∀ (k44:Nat) w45 R46,Ctx W w45 (Own.blk k44 [aA n31,aA n32,aA n33,aA n34,aA n35,aA n36,aA n37,.bool c38,.slice p39 k40 k41] 271 :: R42++R46) a54->∃ p47 k48 k49 w50,Sem.run prog (builtin Builtin.append #[144,144] 144 #[false,false] #[.slice p15 VY uI,.slice (aJ k44 0) 1 1]) w45=.ok (.value (.slice p47 k48 k49)) w50/\∃ V7 DN,aB DN/\Ctx W w50 (V7++R46) DN/\aX (n18+1)/\Zb W V7 DN k21 (I9 p47 k48 k49 (n18+1))) (Zr W vZ I20 J (.slice p15 VY uI))
theorem AX (rB rO):bE F.fR #[.pointer (aJ rB rO)] (GX rB rO):=bF { keep:=some [0,2,3,5,7,8,9,10],loops:=[(3,[(3,.one (.slice)),(9,.one (.int .i64))],[])] } λ_ _ _ _=>by kernel_rfl
def uJ (sP:Option Addr) (sN sC:Nat):aR:=λW R Φ J=>
 Br sP.isNone (Zr W R Φ J (.slice none 0 0)) (∀ (k2:Nat) w3 R4,Ctx W w3 (Own.blk k2 [] 216 :: R++R4) Φ->∃ p5 k6 k7 w8,Sem.run prog (builtin Builtin.append #[99,99] 99 #[false,false] #[.slice (aJ k2 0) 0 0,.slice sP sN sC]) w3=.ok (.value (.slice p5 k6 k7)) w8/\∃ R9 j3,aB j3/\Ctx W w8 (R9++R4) j3/\Zr W R9 j3 J (.slice p5 k6 k7))
theorem qT (sP sN sC):bE F.cD #[.slice sP sN sC] (uJ sP sN sC):=bF { keep:=some [0,2,4] } λ_ _ _ _=>by kernel_rfl
def YI (lP:Option Addr) (lN lC:Nat) (least:Int) (most:Int):aR:=λW R Φ J=>
 yQ λ(I0:Int->Int->List Own->PW->Nat->Prop)=>(Zs W R Φ (I0 least 0))/\∀ n6 n7 R8 I9 wP,aB I9->I0 n6 n7 R8 I9 wP->Br (decide (n7<(↑lN:Int))) (Zi n7 lN lP λFY k12=>Zd W R8 I9 λw13=>∃ n15 s16,bL w13 FY (k12+n7.toNat*2) [aA n15,.string s16]/\∀ (b:Nat) WU SQ,Ctx W WU (R8++SQ) I9->Br (decide (n15<n6)||decide (most<n15)||decide (2000<(↑s16.size:Int))) (Zr W R8 I9 J (.bool false)) (aX (n7+1)/\Zb W R8 I9 wP (I0 n15 (n7+1)))) (Zr W R8 I9 J (.bool true))
theorem MS (lP lN lC least most):bE F.u7 #[.slice lP lN lC,.int .i64 least,.int .i64 most] (YI lP lN lC least most):=bF { keep:=some [0,1,2,6,8,9,10,11,12,30],gA:=[8],loops:=[(2,[(1,.one (.int .i64)),(11,.one (.int .i64))],[])] } λ_ _ _ _=>by kernel_rfl
def C5 (rB rO:Nat):aR:=λW R Φ J=>
 ∀ (k0 k1:Nat) w2 R3,Ctx W w2 (Own.blk k1 [aA 0,aA 1,aA 2] 3 :: Own.blk k0 [Value.pointer (aJ rB rO)] 130 :: R++R3) Φ->aD F.iZ #[.slice (aJ k1 0) 3 3,Value.func (Fn.func 374) #[] #[.pointer (aJ k0 0)]] w2 λe4 w5=>∃ p6 k7 k8,e4=.returned (.slice p6 k7 k8)/\∃ R9 j3,aB j3/\Ctx W w5 (R9++R3) j3/\Zr W R9 j3 J (.slice p6 k7 k8)
theorem wQ (rB rO):bE F.fP #[.pointer (aJ rB rO)] (C5 rB rO):=bF { keep:=some [1,2] } λ_ _ _ _=>by kernel_rfl
def AY (rB rO:Nat) (kind:Int) (to:Int):aR:=λW R Φ J=>
 ∀ (b:Nat) w0 R1,Ctx W w0 (R++R1) Φ->∃ n2,w0.cell? (aH rB rO)=some (aA n2)/\Zd W R Φ λw3=>∃ n5,w3.cell? (aH rB (rO+1))=some (aA n5)/\Zr W R Φ J (Value.agg #[aA kind,aA n2,aA to,aA n5,aA 0,aA 0,aA 0,.bool false,.slice none 0 0])
theorem vM (rB rO kind to):bE F.eB #[.pointer (aJ rB rO),.int .i64 kind,.int .i64 to] (AY rB rO kind to):=bF { keep:=some [0,1,2,6],gA:=[6],eF:=[(1,[.bD [0,1,5,6,2,7,3,8,4,9,10,11] (some 12)])] } λ_ _ _ _=>by kernel_rfl
def DO (rB rO:Nat) (m0:Int) (m1:Int) (m2:Int) (m3:Int) (m4:Int) (m5:Int) (m6:Int) (m7:Bool) (yR:Option Addr) (qW yU:Nat):aR:=λW R Φ J=>
 ∀ (b:Nat) w0 R1,Ctx W w0 (R++R1) Φ->∃ (c2:Bool),(∀ (w3:World),(∃ (k4:Nat),w3=w0.drewN k4)->aD F.dH #[aA m0,aA 0,aA 3] w3 λe5 w6=>e5=.returned (.bool c2)/\∃ (k7:Nat),w6=w0.drewN k7)/\∃ (n8:Int),((!!c2)=true->w0.cell? (aH rB rO)=some (aA n8))/\∃ (n9:Int),((!(!c2||decide (m2≠n8)))=true->w0.cell? (aH rB rO)=some (aA n9))/\∃ (c10:Bool),((!(!c2||decide (m2≠n8)||decide (m1=n9)))=true->∀ (MT:World),(∃ (k12:Nat),MT=w0.drewN k12)->aD F.dH #[aA m1,aA 0,aA 2] MT λe13 KC=>e13=.returned (.bool c10)/\∃ (DP:Nat),KC=w0.drewN DP)/\Br (!c2||decide (m2≠n8)||decide (m1=n9) || !c10) (Zr W R Φ J (.bool false)) (∀ JU vZ, Ctx W JU (R++vZ) Φ->∃ (c20:Bool),(∀ O8,O8=JU->aD F.dH #[aA m3,aA 1,aA 1099511627776] O8 λe22 w23=>e22=.returned (.bool c20)/\w23=JU)/\∃ (c24:Bool),((!!c20)=true->∀ LS,LS=JU->aD F.dH #[aA m4,aA 0,aA 4000] LS λe26 w27=>e26=.returned (.bool c24)/\w27=JU)/\∃ (c28:Bool),((!(!c20 || !c24))=true->∀ w29,w29=JU->aD F.dH #[aA m5,aA 0,aA m3] w29 λe30 w31=>e30=.returned (.bool c28)/\w31=JU)/\Br (!c20 || !c24 || !c28||decide (m4=0)&&decide (m5≠0)) (Zr W R Φ J (.bool false)) (Zc W R Φ F.dH #[aA m6,aA 0,aA 4000] λe36 q=>∃ c38,e36=.returned (.bool c38)/\q λR39 aKf=>Br c38 (Br (decide ((↑qW:Int)<=8)) (aX (m4+(↑qW:Int))/\Br (decide (m4+(↑qW:Int)<=4000)) (Zc W R39 aKf F.u7 #[.slice yR qW yU,aA (max 1 m5),aA m3] λe43 q=>∃ c45,e43=.returned (.bool c45)/\q λR46 GV=>Zr W R46 GV J (.bool c45)) (Zr W R39 aKf J (.bool false))) (Zr W R39 aKf J (.bool false))) (Zr W R39 aKf J (.bool false))))
theorem xQ (rB rO m0 m1 m2 m3 m4 m5 m6 m7 yR qW yU):bE F.mL #[.pointer (aJ rB rO),.agg #[.int .i64 m0,.int .i64 m1,.int .i64 m2,.int .i64 m3,.int .i64 m4,.int .i64 m5,.int .i64 m6,.bool m7,.slice yR qW yU]] (DO rB rO m0 m1 m2 m3 m4 m5 m6 m7 yR qW yU):=bF { keep:=some [0,3,4,5,34],gA:=[3],split:=[5] } λ_ _ _ _=>by kernel_rfl
def FB (rB rO:Nat) (m0:Int) (m1:Int) (m2:Int) (m3:Int) (m4:Int) (m5:Int) (m6:Int) (m7:Bool) (yR:Option Addr) (qW yU:Nat):aR:=λW R Φ J=>
 ∀ (b b:Nat) w0 R1,Ctx W w0 (R++R1) Φ->aD F.eB #[.pointer (aJ rB rO),aA 1,aA m1] w0 λe2 w3=>∃ n4 n5 n6 n7 n8 n9 n10 c11 p12 GY vN,e2=.returned (Value.agg #[aA n4,aA n5,aA n6,aA n7,aA n8,aA n9,aA n10,.bool c11,.slice p12 GY vN])/\∃ G3 xR,aB xR/\Ctx W w3 (G3++R1) xR/\∀ (uI:Nat) JU vZ,Ctx W JU (Own.blk uI [aA 0,aA 0,aA 0,aA 0,aA 0,aA 0,aA 0,.bool false,.slice none 0 0] 271 :: G3++vZ) xR->aG JU uI 0 9/\∀ w20,w20=JU.setCells uI 0 [aA n4,aA n5,aA n6,aA n7,aA n8,aA n9,aA n10,.bool c11,.slice p12 GY vN]->∃ O9 qU,aB qU/\Ctx W w20 (O9 ++ vZ) qU/\Zd W O9 qU λw23=>∃ p25 k26 k27,w23.cell? (aH rB (rO+3))=some (.slice p25 k26 k27)/\Zc W O9 qU F.bV #[.pointer (aJ rB rO),aA (↑k26:Int)] λe30 q=>∃ n32,e30=.returned (aA n32)/\q λGQ mA=>Zd W GQ mA λYF=>∃ (p37:Option Addr) (k38 k39:Nat),((!decide (n32<m5)&&decide (m5=n32))=true->YF.cell? (aH rB (rO+3))=some (.slice p37 k38 k39))/\Zd W GQ mA λw40=>∃ n42,w40.cell? (aH rB (rO+1))=some (aA n42)/\∃ (n43:Int),(decide (m3=n42)=true->w40.cell? (aH rB (rO+2))=some (aA n43))/\∃ (n44:Int),((decide (m3=n42) && !decide (n43 = -1))=true->w40.cell? (aH rB (rO + 2))=some (aA n44))/\Br (decide (m3=n42)&&(decide (n43 = -1)||decide (n44=m1))&&(decide (n32<m5)||decide (m5=n32)&&decide ((↑k38:Int)<=m4))) (∃ R45 MU,aB MU/\Wk W GQ mA R45 MU/\∀ w49 R50,Ctx W w49 (GQ++R50) mA->aG w49 uI 7 1/\∀ w51,w51=w49.setCell (aH uI 7) (Value.bool true)->∃ R52 a1l,aB a1l/\Ctx W w51 (R52++R50) a1l/\Wk W R52 a1l R45 MU/\∀ w56 R57,Ctx W w56 (R52++R57) a1l->aG w56 rB (rO+2) 1/\∀ w58,w58=w56.setCell (aH rB (rO+2)) (aA m1)->∃ R59 a84,aB a84/\Ctx W w58 (R59++R57) a84/\Zd W R59 a84 λw61=>∃ n63 n64 n65 n66 n67 n68 n69 c70 p71 k72 k73,bL w61 uI 0 [aA n63,aA n64,aA n65,aA n66,aA n67,aA n68,aA n69,.bool c70,.slice p71 k72 k73]/\Zc W R59 a84 F.eW #[Value.agg #[aA n63,aA n64,aA n65,aA n66,aA n67,aA n68,aA n69,.bool c70,.slice p71 k72 k73]] λe76 q=>∃ c78 n79 n80 n81 p82 k83 k84 p85 k86 k87,e76=.returned (Value.agg #[.bool c78,aA n79,aA n80,aA n81,.slice p82 k83 k84,.slice p85 k86 k87])/\q λR88 aGc=>Zr W R88 aGc J (Value.agg #[.bool c78,aA n79,aA n80,aA n81,.slice p82 k83 k84,.slice p85 k86 k87])) (Zd W GQ mA λw92=>∃ n94 n95 n96 n97 n98 n99 n100 aSP aGd a57 YA,bL w92 uI 0 [aA n94,aA n95,aA n96,aA n97,aA n98,aA n99,aA n100,.bool aSP,.slice aGd a57 YA]/\Zc W GQ mA F.eW #[Value.agg #[aA n94,aA n95,aA n96,aA n97,aA n98,aA n99,aA n100,.bool aSP,.slice aGd a57 YA]] λaOu q=>∃ c109 n110 n111 n112 a3T FA SP aFR YB aFS,aOu=.returned (Value.agg #[.bool c109,aA n110,aA n111,aA n112,.slice a3T FA SP,.slice aFR YB aFS])/\q λa88 a58=>Zr W a88 a58 J (Value.agg #[.bool c109,aA n110,aA n111,aA n112,.slice a3T FA SP,.slice aFR YB aFS]))
theorem yW (rB rO m0 m1 m2 m3 m4 m5 m6 m7 yR qW yU):bE F.jG #[.pointer (aJ rB rO),.agg #[.int .i64 m0,.int .i64 m1,.int .i64 m2,.int .i64 m3,.int .i64 m4,.int .i64 m5,.int .i64 m6,.bool m7,.slice yR qW yU]] (FB rB rO m0 m1 m2 m3 m4 m5 m6 m7 yR qW yU):=bF { keep:=some [0,3,4,5,6,7,67],gA:=[3,4],eF:=[(5,[.held [(0,true),(1,true),(3,true),(2,true),(4,false)],.bD [5] none,.bD [6] none,.bD [7] (some 8)])] } λ_ _ _ _=>by kernel_rfl
def DQ (rB rO:Nat) (m0:Int) (m1:Int) (m2:Int) (m3:Int) (m4:Int) (m5:Int) (m6:Int) (m7:Bool) (yR:Option Addr) (qW yU:Nat):aR:=λW R Φ J=>
 ∀ (b b:Nat) w0 R1,Ctx W w0 (R++R1) Φ->∃ n2,w0.cell? (aH rB (rO+4))=some (aA n2)/\∃ (n3:Int),((!decide (n2≠1))=true->w0.cell? (aH rB (rO+1))=some (aA n3))/\Br (decide (n2≠1)||decide (m3≠n3) || !m7) (Zr W R Φ J (Value.agg #[.bool false,aA 0,aA 0,aA 0,.slice none 0 0,.slice none 0 0])) (∃ R6 G4,aB G4/\Wk W R Φ R6 G4/\(0<=m1/\m1<3)/\∀ w10 S5,Ctx W w10 (R++S5) Φ->aG w10 rB (rO+6+m1.toNat) 1/\∀ G5,G5=w10.setCell (aH rB (rO+6+m1.toNat)) (Value.bool true)->∃ R13 xS,aB xS/\Ctx W G5 (R13++S5) xS/\Wk W R13 xS R6 G4/\Zd W R13 xS λWU=>∃ c19 c20 c21,bL WU rB (rO+6) [Value.bool c19,Value.bool c20,Value.bool c21]/\yQ λ(I22:Int->Int->List Own->PW -> Nat->Prop)=>(Zs W R13 xS (I22 0 0))/\∀ n28 n29 YJ I31 k32,aB I31->I22 n28 n29 YJ I31 k32->Br (decide (n29<3)) (∃ (c33:Bool),(0<=n29/\n29<3/\X9 (0+n29.toNat) [Value.bool c19,Value.bool c20,Value.bool c21]=some (.bool c33))/\Br c33 (aX (n28+1)/\aX (n29+1)/\Zb W YJ I31 k32 (I22 (n28+1) (n29+1))) (aX (n29+1)/\Zb W YJ I31 k32 (I22 n28 (n29+1)))) (Br (decide (n28<2)) (Zr W YJ I31 J (Value.agg #[.bool false,aA 0,aA 0,aA 0,.slice none 0 0,.slice none 0 0])) (∀ w46 R47,Ctx W w46 (YJ++R47) I31->aG w46 rB (rO+4) 1/\∀ w48,w48=w46.setCell (aH rB (rO+4)) (aA 2)->∃ V3 vK, aB vK/\Ctx W w48 (V3++R47) vK/\yQ λ(I51:Int->List Own->PW->Nat->Prop)=>(Zs W V3 vK (I51 0))/\∀ Y9 R58 I59 k60,aB I59->I51 Y9 R58 I59 k60->Br (decide (Y9<3)) (∃ R61 a6a,aB a6a/\Wk W R58 I59 R61 a6a/\Zd W R58 I59 λw65=>∃ p67 k68 k69,w65.cell? (aH rB (rO+3))=some (.slice p67 k68 k69)/\aX ((↑k68:Int)+1)/\(0<=Y9/\Y9<3)/\∀ w70 R71,Ctx W w70 (R58++R71) I59->aG w70 rB (rO+9+Y9.toNat) 1/\∀ w72,w72=w70.setCell (aH rB (rO+9+Y9.toNat)) (aA ((↑k68:Int)+1))->∃ R73 aKn,aB aKn/\Ctx W w72 (R73++R71) aKn/\Wk W R73 aKn R61 a6a/\(0<=Y9/\Y9<3)/\∀ w77 R78,Ctx W w77 (R73++R78) aKn->aG w77 rB (rO+12+Y9.toNat) 1/\∀ w79,w79=w77.setCell (aH rB (rO+12 + Y9.toNat)) (aA 0)->∃ R80 a3U,aB a3U/\Ctx W w79 (R80++R78) a3U/\Wk W R80 a3U R61 a6a/\aX (Y9+1)/\Zb W R80 a3U k60 (I51 (Y9+1))) (Zc W R58 I59 F.fR #[.pointer (aJ rB rO)] λe91 q=>∃ p93 k94 k95,e91=.returned (.slice p93 k94 k95)/\q λR96 aGf=>Zr W R96 aGf J (Value.agg #[.bool false,aA 0,aA 0,aA 0,.slice none 0 0,.slice p93 k94 k95])))))
theorem xU (rB rO m0 m1 m2 m3 m4 m5 m6 m7 yR qW yU):bE F.iV #[.pointer (aJ rB rO),.agg #[.int .i64 m0,.int .i64 m1,.int .i64 m2,.int .i64 m3,.int .i64 m4,.int .i64 m5,.int .i64 m6,.bool m7,.slice yR qW yU]] (DQ rB rO m0 m1 m2 m3 m4 m5 m6 m7 yR qW yU):=bF { keep:=some [0,3,4,5,7,8,28,39,40,41,43,48,53,54],gA:=[3,4],eF:=[(3,[.late [0,1,2,5] [0,1,2,3,4,5] [(6,[])]]),(17,[.late [0,1,4,5,6,7,8,9,12] [0,1,2,3,4,5,10,14,6,11,15,7,8,9,12] [(13,[16]),(17,[])]])],loops:=[(15,[(53,.one (.int .i64))],[]),(6,[(5,.one (.int .i64)),(40,.one (.int .i64))],[])] } λ_ _ _ _=>by kernel_rfl
def C6 (rB rO:Nat) (m0:Int) (m1:Int) (m2:Int) (m3:Int) (m4:Int) (m5:Int) (m6:Int) (m7:Bool) (yR:Option Addr) (qW yU:Nat):aR:=λW R Φ J=>
 ∀ (b b:Nat) w0 R1,Ctx W w0 (R++R1) Φ->aD F.eB #[.pointer (aJ rB rO),aA 3,aA m1] w0 λe2 w3=>∃ n4 n5 n6 n7 n8 n9 n10 c11 p12 GY vN,e2=.returned (Value.agg #[aA n4,aA n5,aA n6,aA n7,aA n8,aA n9,aA n10,.bool c11,.slice p12 GY vN])/\∃ G3 xR,aB xR/\Ctx W w3 (G3++R1) xR/\∀ (uI:Nat) JU vZ,Ctx W JU (Own.blk uI [aA 0,aA 0,aA 0,aA 0,aA 0,aA 0,aA 0,.bool false,.slice none 0 0] 271 :: G3++vZ) xR->aG JU uI 0 9/\∀ w20,w20=JU.setCells uI 0 [aA n4,aA n5,aA n6,aA n7,aA n8,aA n9,aA n10,.bool c11,.slice p12 GY vN]->∃ O9 qU,aB qU/\Ctx W w20 (O9 ++ vZ) qU/\Zd W O9 qU λw23=>∃ n25,w23.cell? (aH rB (rO+1))=some (aA n25)/\Br (decide (m3<n25)) (Zd W O9 qU λw26=>∃ n28 n29 n30 n31 n32 n33 n34 c35 p36 k37 k38,bL w26 uI 0 [aA n28,aA n29,aA n30,aA n31,aA n32,aA n33,aA n34,.bool c35,.slice p36 k37 k38]/\Zc W O9 qU F.eW #[Value.agg #[aA n28,aA n29,aA n30,aA n31,aA n32,aA n33,aA n34,.bool c35,.slice p36 k37 k38]] λe41 q=>∃ c43 n44 n45 n46 p47 k48 k49 p50 YK k52,e41=.returned (Value.agg #[.bool c43,aA n44,aA n45,aA n46,.slice p47 k48 k49,.slice p50 YK k52])/\q λYL rE=>Zr W YL rE J (Value.agg #[.bool c43,aA n44,aA n45,aA n46,.slice p47 k48 k49,.slice p50 YK k52])) (Zd W O9 qU λw57=>∃ n59,w57.cell? (aH rB (rO+4))=some (aA n59)/\Br (decide (n59=2)) (Zr W O9 qU J (Value.agg #[.bool false,aA 0,aA 0,aA 0,.slice none 0 0,.slice none 0 0])) (∀ w62 R63,Ctx W w62 (O9++R63) qU->aG w62 rB (rO+4) 1/\∀ w64,w64=w62.setCell (aH rB (rO+4)) (aA 0)->∃ R65 PC,aB PC/\Ctx W w64 (R65++R63) PC/\Zd W R65 PC λw67=>∃ p69 k70 k71,w67.cell? (aH rB (rO+3))=some (.slice p69 k70 k71)/\∃ (n72:Int),((!decide ((↑k70:Int)<m4))=true->∀ (w73:World),(∃ (k74:Nat),w73=w67.drewN k74)->aD F.bV #[.pointer (aJ rB rO),aA m4] w73 λe75 w76=>e75=.returned (aA n72)/\∃ (k77:Nat),w76=w67.drewN k77)/\Br (decide ((↑k70:Int)<m4)||decide (n72≠m5)) (aX (m4 - 1)/\Zd W R65 PC λw78=>∃ p80 k81 k82,w78.cell? (aH rB (rO+3))=some (.slice p80 k81 k82)/\∀ w83 R84,Ctx W w83 (R65++R84) PC->aG w83 uI 4 1/\∀ w85,w85=w83.setCell (aH uI 4) (aA (min (↑k81:Int) (m4 - 1)))->∃ R86 a9b,aB a9b/\Ctx W w85 (R86++R84) a9b/\Zd W R86 a9b λw88=>∃ n90 n91 n92 n93 n94 n95 n96 c97 p98 k99 YM,bL w88 uI 0 [aA n90,aA n91,aA n92,aA n93,aA n94,aA n95,aA n96,.bool c97,.slice p98 k99 YM]/\Zc W R86 a9b F.eW #[Value.agg #[aA n90,aA n91,aA n92,aA n93,aA n94,aA n95,aA n96,.bool c97,.slice p98 k99 YM]] λa9c q=>∃ c105 n106 n107 n108 aS0 a3L a3S a6b a1b FA,a9c=.returned (Value.agg #[.bool c105,aA n106,aA n107,aA n108,.slice aS0 a3L a3S,.slice a6b a1b FA])/\q λBZ nJ=>Zr W BZ nJ J (Value.agg #[.bool c105,aA n106,aA n107,aA n108,.slice aS0 a3L a3S,.slice a6b a1b FA])) (∀ (b:Nat),yQ λ(aOz:Int->Bool->Int->Int->Int->Option Addr->Nat->Nat->Option Addr->Nat->Nat->Bool->Int->Int->Int->Option Addr->Nat->Nat->Option Addr->Nat->Nat->List Own->PW->Nat->Prop)=>(Zs W R65 PC (aOz 0 false 0 0 0 none 0 0 none 0 0 false 0 0 0 none 0 0 none 0 0))/\∀ n125 aS1 n127 n128 n129 aS2 aGj aS3 aS4 aF0 aS5 aKq n137 n138 n139 aOA aOB aC5 aS6 aS7 aS8 PG MV aFU,aB MV->aOz n125 aS1 n127 n128 n129 aS2 aGj aS3 aS4 aF0 aS5 aKq n137 n138 n139 aOA aOB aC5 aS6 aS7 aS8 PG MV aFU->Br (decide (n125<(↑qW:Int))) (Zi n125 qW yR λaF9 a5P=>Zd W PG MV λaF4=>∃ n153 aYQ,bL aF4 aF9 (a5P+n125.toNat*2) [aA n153,.string aYQ]/\∀ (b:Nat),aX (m4+n125)/\aX (m4+n125+1)/\Zd W PG MV λaOC=>∃ aYR aOD aJY,aOC.cell? (aH rB (rO+3))=some (.slice aYR aOD aJY)/\∃ (n160:Int),(decide (m4+n125+1<=(↑aOD:Int))=true->∀ (aS9:World),(∃ (aOE:Nat),aS9=aOC.drewN aOE)->aD F.bV #[.pointer (aJ rB rO),aA (m4+n125+1)] aS9 λaOF aOG=>aOF=.returned (aA n160)/\∃ (aFV:Nat),aOG=aOC.drewN aFV)/\Br (decide (m4+n125+1<=(↑aOD:Int))&&decide (n160=n153)) (aX (n125+1)/\Zb W PG MV aFU (aOz (n125+1) aS1 n127 n128 n129 aS2 aGj aS3 aS4 aF0 aS5 aKq n137 n138 n139 aOA aOB aC5 aS6 aS7 aS8)) (Zd W PG MV λaKr=>∃ n173,aKr.cell? (aH rB (rO+5))=some (aA n173)/\Br (decide (m4+n125+1<=n173)) (Zr W PG MV J (Value.agg #[.bool false,aA 0,aA 0,aA 0,.slice none 0 0,.slice none 0 0])) ((0<=n125/\n125<=(↑qW:Int)/\qW<=yU)/\Zc W PG MV F.cD #[.slice (cJ yR 2 n125.toNat yU) (qW - n125.toNat) (yU - n125.toNat)] λaYS q=>∃ aOH aOI aCK,aYS=.returned (.slice aOH aOI aCK)/\q λaTa aML=>∃ aKs a6c,aB a6c/\Wk W aTa aML aKs a6c/\aX (m4+n125+1 - 1)/\∃ (aTb:Option Addr) (aKt aKu:Nat),(Zd W aKs a6c λaYT=>∃ aTc aTd aTe,aYT.cell? (aH rB (rO+3))=some (.slice aTc aTd aTe)/\Value.slice aTc aTd aTe=Value.slice aTb aKt aKu)/\(0<=m4+n125+1 - 1/\m4+n125+1 - 1<=(↑aKu:Int))/\Zc W aTa aML F.cD #[.slice (cJ aTb 2 0 aKu) (m4+n125+1 - 1).toNat aKu] λaYU q=>∃ aTf aTg aTh,aYU=.returned (.slice aTf aTg aTh)/\q λaGk a2g=>Wk W aGk a2g aKs a6c/\∀ aTi aTj,Ctx W aTi (aGk++aTj) a2g->∃ aTk aTl aCV aTm,Sem.run prog (builtin Builtin.append #[99,99] 99 #[false,false] #[.slice aTf aTg aTh,.slice aOH aOI aCK]) aTi=.ok (.value (.slice aTk aTl aCV)) aTm/\∃ YH C4,aB C4/\Ctx W aTm (YH++aTj) C4/\Wk W YH C4 aKs a6c/\∀ aOJ aTn,Ctx W aOJ (YH++aTn) C4->aG aOJ rB (rO+3) 1/\∀ aTo,aTo=aOJ.setCell (aH rB (rO+3)) (Value.slice aTk aTl aCV)->∃ aOK aBx,aB aBx/\Ctx W aTo (aOK++aTn) aBx/\∃ aTp aGl,aB aGl/\Wk W aOK aBx aTp aGl/\aX (m4+(↑qW:Int))/\∀ aOL aTq,Ctx W aOL (aOK++aTq) aBx->aG aOL uI 7 1/\∀ aTr,aTr=aOL.setCell (aH uI 7) (Value.bool true)->∃ aOM aBy,aB aBy/\Ctx W aTr (aOM++aTq) aBy/\Wk W aOM aBy aTp aGl/\∀ aON aGm,Ctx W aON (aOM++aGm) aBy->aG aON uI 4 1/\∀ aTs,aTs=aON.setCell (aH uI 4) (aA (m4+(↑qW:Int)))->∃ aKv a6d,aB a6d/\Ctx W aTs (aKv++aGm) a6d/\Zd W aKv a6d λaYV=>∃ n241,aYV.cell? (aH uI 4)=some (aA n241)/\Zd W aKv a6d λaYW=>∃ n244,aYW.cell? (aH rB (rO+5))=some (aA n244)/\∀ aOO aTt,Ctx W aOO (aKv++aTt) a6d->aG aOO rB (rO+5) 1/\∀ aTu,aTu=aOO.setCell (aH rB (rO+5)) (aA (max n244 (min m6 n241)))->∃ aOP aBz,aB aBz/\Ctx W aTu (aOP++aTt) aBz/\Zd W aOP aBz λaYX=>∃ n252 n253 n254 n255 n256 n257 n258 aTv aTw aTx aTy,bL aYX uI 0 [aA n252,aA n253,aA n254,aA n255,aA n256,aA n257,aA n258,.bool aTv,.slice aTw aTx aTy]/\∀ (aTz:Nat) aJ9 aYY,Ctx W aJ9 (Own.blk aTz [aA n252,aA n253,aA n254,aA n255,aA n256,aA n257,aA n258,.bool aTv,.slice aTw aTx aTy] 271 :: aOP++aYY) aBz->J (Value.agg #[.bool aKq,aA n137,aA n138,aA (m4+n125+1),.slice aOH aOI aCK,.slice (aJ aTz 0) 1 1]) aJ9))) (∃ aTA aGn,aB aGn/\Wk W PG MV aTA aGn/\aX (m4+(↑qW:Int))/\∀ aOQ aGo,Ctx W aOQ (PG++aGo) MV->aG aOQ uI 7 1/\∀ aTB,aTB=aOQ.setCell (aH uI 7) (Value.bool true)->∃ aOR aBA,aB aBA/\Ctx W aTB (aOR++aGo) aBA/\Wk W aOR aBA aTA aGn/\∀ aOS aTC,Ctx W aOS (aOR++aTC) aBA -> aG aOS uI 4 1/\∀ aTD,aTD=aOS.setCell (aH uI 4) (aA (m4+(↑qW:Int)))->∃ aKw a6e,aB a6e/\Ctx W aTD (aKw++aTC) a6e/\Zd W aKw a6e λaYZ=>∃ n284,aYZ.cell? (aH uI 4)=some (aA n284)/\Zd W aKw a6e λaY0=>∃ n287,aY0.cell? (aH rB (rO+5))=some (aA n287)/\∀ aOT aTE,Ctx W aOT (aKw++aTE) a6e->aG aOT rB (rO+5) 1/\∀ aTF,aTF=aOT.setCell (aH rB (rO+5)) (aA (max n287 (min m6 n284)))->∃ aOU aBB,aB aBB/\Ctx W aTF (aOU++aTE) aBB/\Zd W aOU aBB λaY1=>∃ n295 n296 n297 n298 n299 n300 n301 aTG aTH aTI aTJ,bL aY1 uI 0 [aA n295,aA n296,aA n297,aA n298,aA n299,aA n300,aA n301,.bool aTG,.slice aTH aTI aTJ]/\∀ (aTK:Nat) aTL aY2,Ctx W aTL (Own.blk aTK [aA n295,aA n296,aA n297,aA n298,aA n299,aA n300,aA n301,.bool aTG,.slice aTH aTI aTJ] 271 :: aOU++aY2) aBB->J (Value.agg #[.bool aKq,aA n137,aA n138,aA n139,.slice aOA aOB aC5,.slice (aJ aTK 0) 1 1]) aTL))))
theorem wR (rB rO m0 m1 m2 m3 m4 m5 m6 m7 yR qW yU):bE F.iJ #[.pointer (aJ rB rO),.agg #[.int .i64 m0,.int .i64 m1,.int .i64 m2,.int .i64 m3,.int .i64 m4,.int .i64 m5,.int .i64 m6,.bool m7,.slice yR qW yU]] (C6 rB rO m0 m1 m2 m3 m4 m5 m6 m7 yR qW yU):=bF { keep:=some [0,3,4,5,6,7,8,9,21,28,49,63,64,65,66,89,95],gA:=[3,4,6,8],eF:=[(8,[.bD [0,5,1,6,2,7,3,4,8,9] (some 10)]),(19,[.held [(0,true),(1,true),(5,true),(9,true),(2,true),(6,true),(10,true),(3,true),(4,true),(7,true),(8,false),(11,false)],.bD [12] none,.bD [13] (some 14)]),(21,[.held [(0,true),(2,true),(6,true),(1,true),(3,true),(4,true),(5,true),(7,false)],.bD [8] (some 9)]),(22,[.bD [0,1,5,7,2,6,8,3,9,4,10] none,.bD [11] none,.bD [12] (some 13)])],loops:=[(12,[(65,.one (.int .i64))],[(4,.agg [.bool,.int .i64,.int .i64,.int .i64,.slice,.slice]),(6,.agg [.bool,.int .i64,.int .i64,.int .i64,.slice,.slice])])] } λ_ _ _ _=>by kernel_rfl
def yX (rB rO:Nat) (m0:Int) (m1:Int) (m2:Int) (m3:Int) (m4:Int) (m5:Int) (m6:Int) (m7:Bool) (yR:Option Addr) (qW yU:Nat):aR:=λW R Φ J=>
 ∀ (b b:Nat) w0 R1,Ctx W w0 (R++R1) Φ->∃ n2,w0.cell? (aH rB (rO+4))=some (aA n2)/\∃ (n3:Int),((!decide (n2≠2))=true->w0.cell? (aH rB (rO+1))=some (aA n3))/\∃ (p4:Option Addr) (k5 k6:Nat),((!(decide (n2≠2)||decide (m3≠n3))&&m7)=true->w0.cell? (aH rB (rO+3))=some (.slice p4 k5 k6))/\Br (decide (n2≠2)||decide (m3≠n3)||m7&&decide ((↑k5:Int)<m4)) (Zr W R Φ J (Value.agg #[.bool false,aA 0,aA 0,aA 0,.slice none 0 0,.slice none 0 0])) (Zd W R Φ λw9=>(0<=m1/\m1<3)/\(0<=m1/\m1<3)/\Br (!m7) (Zd W R Φ λMT=>∃ MQ,MT.cell? (aH rB (rO+12+m1.toNat))=some (aA MQ)/\Zd W R Φ λKC=>∃ n16,KC.cell? (aH rB (rO+9+m1.toNat))=some (aA n16)/\aX (m4+1)/\aX (MQ+1)/\aX (n16 - 1)/\∀ WU SQ,Ctx W WU (R++SQ) Φ->aG WU rB (rO+9+m1.toNat) 1/\∀ YD,YD=WU.setCell (aH rB (rO+9+m1.toNat)) (aA (max (MQ+1) (min (n16 - 1) (m4+1))))->∃ OA AZ,aB AZ/\Ctx W YD (OA++SQ) AZ/\Zc W OA AZ F.fD #[.pointer (aJ rB rO),aA m1] λe24 q=>∃ n26 n27 n28 n29 n30 n31 n32 c33 p34 k35 k36,e24=.returned (Value.agg #[aA n26,aA n27,aA n28,aA n29,aA n30,aA n31,aA n32,.bool c33,.slice p34 k35 k36])/\q λR37 YN=>Zc W R37 YN F.eW #[Value.agg #[aA n26,aA n27,aA n28,aA n29,aA n30,aA n31,aA n32,.bool c33,.slice p34 k35 k36]] λe41 q=>∃ c43 n44 n45 n46 p47 k48 k49 p50 YK k52,e41=.returned (Value.agg #[.bool c43,aA n44,aA n45,aA n46,.slice p47 k48 k49,.slice p50 YK k52])/\q λYL rE=>Zr W YL rE J (Value.agg #[.bool c43,aA n44,aA n45,aA n46,.slice p47 k48 k49,.slice p50 YK k52])) (Zd W R Φ λw57=>∃ n59,w57.cell? (aH rB (rO+12+m1.toNat))=some (aA n59)/\∀ w60 R61,Ctx W w60 (R++R61) Φ->aG w60 rB (rO+12+m1.toNat) 1/\∀ w62,w62=w60.setCell (aH rB (rO+12+m1.toNat)) (aA (max n59 m4))->∃ R63 GZ,aB GZ/\Ctx W w62 (R63++R61) GZ/\Zd W R63 GZ λw65=>∃ n67,w65.cell? (aH rB (rO+12+m1.toNat))=some (aA n67)/\aX (n67+1)/\∀ w68 R69,Ctx W w68 (R63++R69) GZ->aG w68 rB (rO+9+m1.toNat) 1/\∀ w70,w70=w68.setCell (aH rB (rO+9+m1.toNat)) (aA (n67+1))->∃ R71 a9d,aB a9d/\Ctx W w70 (R71++R69) a9d/\Zc W R71 a9d F.kQ #[.pointer (aJ rB rO)] λe75 q=>e75=.returned (Value.tuple #[])/\q λR77 a9e=>Zd W R77 a9e λw79=>∃ n81,w79.cell? (aH rB (rO+9+m1.toNat))=some (aA n81)/\∃ p82 k83 k84,w79.cell? (aH rB (rO+3))=some (.slice p82 k83 k84)/\Br (decide (n81<=(↑k83:Int))) (Zc W R77 a9e F.fD #[.pointer (aJ rB rO),aA m1] λe87 q=>∃ n89 n90 n91 n92 n93 n94 n95 c96 p97 k98 k99,e87=.returned (Value.agg #[aA n89,aA n90,aA n91,aA n92,aA n93,aA n94,aA n95,.bool c96,.slice p97 k98 k99])/\q λa1m H6=>Zc W a1m H6 F.eW #[Value.agg #[aA n89,aA n90,aA n91,aA n92,aA n93,aA n94,aA n95,.bool c96,.slice p97 k98 k99]] λaN1 q=>∃ aF8 n107 n108 n109 aCT a3S a1a a3T FA SP,aN1=.returned (Value.agg #[.bool aF8,aA n107,aA n108,aA n109,.slice aCT a3S a1a,.slice a3T FA SP])/\q λa5V V4=>Zr W a5V V4 J (Value.agg #[.bool aF8,aA n107,aA n108,aA n109,.slice aCT a3S a1a,.slice a3T FA SP])) (Zr W R77 a9e J (Value.agg #[.bool false,aA 0,aA 0,aA 0,.slice none 0 0,.slice none 0 0]))))
theorem uK (rB rO m0 m1 m2 m3 m4 m5 m6 m7 yR qW yU):bE F.gI #[.pointer (aJ rB rO),.agg #[.int .i64 m0,.int .i64 m1,.int .i64 m2,.int .i64 m3,.int .i64 m4,.int .i64 m5,.int .i64 m6,.bool m7,.slice yR qW yU]] (yX rB rO m0 m1 m2 m3 m4 m5 m6 m7 yR qW yU):=bF { keep:=some [0,3,4,5,6,35,51,96],gA:=[3,4],eF:=[(5,[.bD [0,1,5,9,2,6,10,3,7,11,4,8,12,13,14] (some 15)]),(7,[.bD [0,1,4,2,5,3,6,7] (some 8)])] } λ_ _ _ _=>by kernel_rfl
def B0 (rB rO:Nat) (to:Int):aR:=λW R Φ J=>
 ∀ (b:Nat) w0 R1,Ctx W w0 (R++R1) Φ->aD F.eB #[.pointer (aJ rB rO),aA 2,aA to] w0 λe2 w3=>∃ n4 n5 n6 n7 n8 n9 n10 c11 p12 GY vN,e2=.returned (Value.agg #[aA n4,aA n5,aA n6,aA n7,aA n8,aA n9,aA n10,.bool c11,.slice p12 GY vN])/\∃ G3 xR,aB xR/\Ctx W w3 (G3++R1) xR/\∀ (b:Nat),(0<=to/\to<3)/\Zd W G3 xR λWU=>∃ n19,WU.cell? (aH rB (rO+9+to.toNat))=some (aA n19)/\aX (n19 - 1)/\∃ OA AZ,aB AZ/\Wk W G3 xR OA AZ/\∃ (n24:Int),(Zd W OA AZ λLS=>∃ n27,LS.cell? (aH rB (rO+5))=some (aA n27)/\aA n27=aA n24)/\Zc W G3 xR F.bV #[.pointer (aJ rB rO),aA (n19 - 1)] λe30 q=>∃ n32,e30=.returned (aA n32)/\q λGQ mA=>Wk W GQ mA OA AZ/\Wk W GQ mA OA AZ/\Wk W GQ mA OA AZ/\∃ R41 YO,aB YO/\Wk W GQ mA R41 YO/\aX (n19 - 1+8)/\∃ (p45:Option Addr) (k46 k47:Nat),(Zd W R41 YO λw48=>∃ p50 YK k52,w48.cell? (aH rB (rO+3))=some (.slice p50 YK k52)/\Value.slice p50 YK k52=Value.slice p45 k46 k47)/\∃ (p53:Option Addr) (k54 k55:Nat),(Zd W R41 YO λw56=>∃ p58 k59 k60,w56.cell? (aH rB (rO+3))=some (.slice p58 k59 k60)/\Value.slice p58 k59 k60=Value.slice p53 k54 k55)/\(0<=n19 - 1/\n19 - 1<=min (↑k54:Int) (n19 - 1+8)/\min (↑k54:Int) (n19 - 1+8)<=(↑k47:Int))/\Zc W GQ mA F.cD #[.slice (cJ p45 2 (n19 - 1).toNat k47) ((min (↑k54:Int) (n19 - 1+8)).toNat - (n19 - 1).toNat) (k47 - (n19 - 1).toNat)] λe63 q=>∃ p65 k66 k67,e63=.returned (.slice p65 k66 k67)/\q λR68 H7=>Wk W R68 H7 R41 YO/\Zr W R68 H7 J (Value.agg #[aA n4,aA n5,aA n6,aA n7,aA (n19 - 1),aA n32,aA n24,.bool c11,.slice p65 k66 k67])
theorem vO (rB rO to):bE F.fD #[.pointer (aJ rB rO),.int .i64 to] (B0 rB rO to):=bF { keep:=some [0,1,4,5],gA:=[4,5],eF:=[(3,[.late [0,2] [0,1,4,2,5,6,7] [(3,[8]),(9,[10]),(11,[])]]),(4,[.held [(0,true),(4,true),(6,true),(11,true),(1,true),(5,true),(7,true),(12,true),(2,true),(8,true),(13,true),(3,true),(9,true),(10,true),(14,true),(15,true),(16,false)],.bD [17] (some 18)])] } λ_ _ _ _=>by kernel_rfl
def xV (sP:Option Addr) (sN sC:Nat) (DR:FuncId) (KD:Array Value):aR:=λW R Φ J=>
 Zc W R Φ F.jQ #[.slice sP sN sC,Value.func (Fn.func DR) #[] KD] λe2 q=>∃ n4,e2=.returned (aA n4)/\q λR5 fA=>Br (decide (n4 = -1)) (Zr W R5 fA J (.slice sP sN sC)) (aX (n4+1)/\yQ λ(I9:Int->Int->List Own->PW->Nat->Prop)=>(Zs W R5 fA (I9 n4 (n4+1)))/\∀ n15 n16 pM I18 VZ,aB I18->I9 n15 n16 pM I18 VZ->Br (decide (n16<(↑sN:Int))) (Zi n16 sN sP λk20 k21=>Zd W pM I18 λw22=>∃ n24,w22.cell? (aH k20 (k21+n16.toNat))=some (aA n24)/\∀ LS LU,Ctx W LS (pM++LU) I18->qA prog DR=true/\Calls prog DR (Array.mk (aA n24 :: KD.toList)) LS λe27 w28 => ∃ c29,e27=.returned (.bool c29)/\∃ YJ MW,aB MW/\Ctx W w28 (YJ++LU) MW/\Br (!c29) (Zi n15 sN sP λk32 k33=>∀ w34 R35,Ctx W w34 (YJ++R35) MW->aG w34 k32 (k33+n15.toNat) 1/\∀ w36,w36=w34.setCell (aH k32 (k33+n15.toNat)) (aA n24)->∃ R37 YN,aB YN/\Ctx W w36 (R37++R35) YN/\aX (n15+1)/\aX (n16+1)/\Zb W R37 YN VZ (I9 (n15+1) (n16+1))) (aX (n16+1)/\Zb W YJ MW VZ (I9 n15 (n16+1)))) ((0<=n15/\n15<=(↑sN:Int)/\sN<=sC)/\∀ w49 R50,Ctx W w49 (pM++R50) I18->∃ (w51:World),Sem.run prog (builtin Builtin.clear #[37] 0 #[false] #[.slice (cJ sP 1 n15.toNat sC) (sN - n15.toNat) (sC - n15.toNat)]) w49=.ok (.value (Value.tuple #[])) w51/\∃ R52 a1l,aB a1l/\Ctx W w51 (R52++R50) a1l/\(0<=n15/\n15<=(↑sC:Int))/\Zr W R52 a1l J (.slice (cJ sP 1 0 sC) n15.toNat sC)))
theorem tG (sP sN sC DR KD):bE F.iZ #[.slice sP sN sC,.func (.func DR) #[] KD] (xV sP sN sC DR KD):=bF { keep:=some [0,1,4,5,6,7,12,19,29],wrap:=[28],loops:=[(5,[(5,.one (.int .i64)),(6,.one (.int .i64))],[])] } λ_ _ _ _=>by kernel_rfl
def yY (i:Int) (cB cO:Nat):aR:=λW R Φ J=>
 Zd W R Φ λw0=>∃ p2,w0.cell? (aH cB cO)=some (.pointer p2)/\vC none p2 λk3 k4=>Zd W R Φ λw5=>∃ n7,w5.cell? (aH k3 k4)=some (aA n7)/\Zr W R Φ J (.bool (decide (i=n7)))
theorem uL (i cB cO):bE F.jP #[.int .i64 i,.pointer (some (Addr.mk cB cO none))] (yY i cB cO):=bF { keep:=some [0,1,3] } λ_ _ _ _=>by kernel_rfl
def W4 (m0:Int) (m1:Int) (m2:Int) (m3:Int) (m4:Int) (m5:Int) (m6:Int) (m7:Bool) (yR:Option Addr) (qW yU:Nat):aR:=λW R Φ J=>
 ∀ (b b k0:Nat) w1 R2,Ctx W w1 (Own.blk k0 [aA m0,aA m1,aA m2,aA m3,aA m4,aA m5,aA m6,.bool m7,.slice yR qW yU] 271 :: R++R2) Φ->J (Value.agg #[.bool false,aA 0,aA 0,aA 0,.slice none 0 0,.slice (aJ k0 0) 1 1]) w1
theorem KE (m0 m1 m2 m3 m4 m5 m6 m7 yR qW yU):bE F.eW #[.agg #[.int .i64 m0,.int .i64 m1,.int .i64 m2,.int .i64 m3,.int .i64 m4,.int .i64 m5,.int .i64 m6,.bool m7,.slice yR qW yU]] (W4 m0 m1 m2 m3 m4 m5 m6 m7 yR qW yU):=bF { keep:=some [1,2],gA:=[1,2] } λ_ _ _ _=>by kernel_rfl
def B1 (rB rO:Nat):aR:=λW R Φ J=>
 Zc W R Φ F.fP #[.pointer (aJ rB rO)] λe2 q=>∃ p4 k5 k6,e2=.returned (.slice p4 k5 k6)/\q λR7 D2=>yQ λ(I9:Int->Int->List Own->PW->Nat->Prop)=>(Zs W R7 D2 (I9 0 0))/\∀ n15 n16 pM I18 VZ,aB I18->I9 n15 n16 pM I18 VZ->Br (decide (n16<(↑k5:Int))) (Zi n16 k5 p4 λk20 k21=>Zd W pM I18 λw22=>∃ n24,w22.cell? (aH k20 (k21+n16.toNat))=some (aA n24)/\(0<=n24/\n24<3)/\Zd W pM I18 λLS=>∃ n27,LS.cell? (aH rB (rO+12+n24.toNat))=some (aA n27)/\aX (n16+1)/\Zb W pM I18 VZ (I9 (max n15 n27) (n16+1))) (∀ w33 S4, Ctx W w33 (pM++S4) I18->∃ n35,w33.cell? (aH rB (rO+5))=some (aA n35)/\∃ (n36:Int),(decide (n35<n15)=true->∀ (w37:World),(∃ (k38:Nat),w37=w33.drewN k38)->aD F.bV #[.pointer (aJ rB rO),aA n15] w37 λe39 w40=>e39=.returned (aA n36)/\∃ (k41:Nat),w40=w33.drewN k41)/\∃ (n42:Int),(decide (n35<n15)=true->w33.cell? (aH rB (rO+1))=some (aA n42))/\Br (decide (n35<n15)&&decide (n36=n42)) (∀ w43 R44,Ctx W w43 (pM++R44) I18->aG w43 rB (rO+5) 1/\∀ w45,w45=w43.setCell (aH rB (rO+5)) (aA n15)->∃ R46 GV,aB GV/\Ctx W w45 (R46++R44) GV/\Zr W R46 GV J (Value.tuple #[])) (Zr W pM I18 J (Value.tuple #[])))
theorem vP (rB rO):bE F.kQ #[.pointer (aJ rB rO)] (B1 rB rO):=bF { keep:=some [0,2,4,6,7,8,9,37],loops:=[(2,[(2,.one (.int .i64)),(8,.one (.int .i64))],[])] } λ_ _ _ _=>by kernel_rfl
def yZ (sP:Option Addr) (sN sC:Nat) (fF:FuncId) (fC:Array Value):aR:=λW R Φ J=>
 yQ λ(I0:Int->List Own->PW->Nat->Prop)=>(Zs W R Φ (I0 0))/\∀ n6 R7 I8 k9,aB I8->I0 n6 R7 I8 k9->Br (decide (n6<(↑sN:Int))) (Zi n6 sN sP λwP FY=>Zd W R7 I8 λG5=>∃ S3,G5.cell? (aH wP (FY+n6.toNat))=some (aA S3)/\∀ w15 R16,Ctx W w15 (R7++R16) I8->qA prog fF=true/\Calls prog fF (Array.mk (aA S3 :: fC.toList)) w15 λe17 JU=>∃ c19,e17=.returned (.bool c19)/\∃ OA AZ,aB AZ/\Ctx W JU (OA++R16) AZ/\Br c19 (Zr W OA AZ J (aA n6)) (aX (n6+1)/\Zb W OA AZ k9 (I0 (n6+1)))) (Zr W R7 I8 J (aA (-1)))
theorem uM (sP sN sC fF fC):bE F.jQ #[.slice sP sN sC,.func (.func fF) #[] fC] (yZ sP sN sC fF fC):=bF { keep:=some [0,1,4,5,7,8,9,16],wrap:=[16],loops:=[(2,[(8,.one (.int .i64))],[])] } λ_ _ _ _=>by kernel_rfl
end Go.Proofs.YtnlkemjhgdbfkaaGreatDoor
end

