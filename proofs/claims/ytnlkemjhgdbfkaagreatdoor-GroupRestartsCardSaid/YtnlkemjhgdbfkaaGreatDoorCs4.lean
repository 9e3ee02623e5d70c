/-
 THE CONDITIONS OF A WALK OVER WHAT IT OWNS: a function's body.
-/
import Derived.Test.YtnlkemjhgdbfkaaGreatDoorCs3
import Derived.Test.YtnlkemjhgdbfkaaGreatDoorRows
open Go.Proofs.Tryz
set_option linter.unusedVariables false
set_option linter.unusedSimpArgs false
section
namespace Go.Vc
variable {G:List Own}
variable {ds:List Deferred}
open Go.RowKit
structure HS where
 /-- slots whose sums may wrap;calls of function values;0: stores of values of any kind -/
 wrap:List Nat:=[]
 /-- slots whose new blocks are known cell by cell -/
 gM:List Nat:=[]
 /-- regions with guards that are walked in the text's order -/
 split:List Nat:=[]
 /-- regions whose calls may draw -/
 YT:List Nat:=[]
 /-- slots that are read outside the region that writes them -/
 keep:Option (List Nat):=none
 /-- regions whose order is drawn,and that write or call: their stages -/
 eP:List (Nat × List Sg):=[]
 /-- of each loop the slots and the blocks that its rounds write -/
 loops:List (Nat × iF × iF):=[]
 a6o:List (Nat × iF × iF):=[]
def aCe(k:Nat):List (Nat × List Sg)->Option (List Sg)
 | []=>none
 | (t,l) :: r=>match Nat.beq t k with|true=>some l|false=>aCe k r
def aCf(k:Nat):List (Nat × iF × iF)->Option (iF × iF)
 | []=>none
 | (t,l) :: r=>match Nat.beq t k with|true=>some l|false=>aCf k r
def yA(asg:List Nat)(l:iF)(vs:List Value)(s:fP):fP:=⟨s.n,cons l vs (drop s.l)⟩
where
 cons:iF->List Value->List (Nat × SV)->List (Nat × SV)
  | (t,_) :: r,v :: vs,s=>(t,.v v) :: cons r vs s
  | _,_,s=>s
 drop:List (Nat × SV)->List (Nat × SV)
  | []=>[]
  | (t,x) :: r=>match dR t asg with|true=>drop r|false=>(t,x) :: drop r
def CQ(k:Option (List Nat))(s:fP):fP:=match k with|none=>s|some k=>⟨s.n,go k s.l⟩
where go (k:List Nat):List (Nat × SV)->List (Nat × SV)
 | []=>[]
 | (t,x) :: r=>match dR t k with|true=>(t,x) :: go k r|false=>go k r
def aK2(ts:iF)(L:List Tr):Bool:=match ts with
 | []=>true
 | (k,sh) :: r=>match bS k L,sh with|some _,.agg _=>aK2 r L|_,_=>false
abbrev aSU(l:iF):Type:=qF (List Own->PW->Nat->Prop) l
abbrev aZK(l:iF):Type:=qF (List Own->PW->Prop) l
def DZ(x:Option (List Own->PW->Nat->Prop))(R:List Own)(Φ:PW)(n:Nat):Prop:=match x with|some I=>I R Φ n|none=>False
def a9E(x:Option (List Own->PW->Prop))(R:List Own)(Φ:PW):Prop:=match x with|some I=>I R Φ|none=>False
def aCg:List Nat->List Nat->Bool
 | [],[]=>true
 | a :: l,b :: m=>Nat.beq a b&&aCg l m
 | _,_=>false
theorem a6E:∀ {l m:List Nat},aCg l m=true->l=m
 | [],[],_=>rfl
 | a :: l,b :: m,h=>by
  simp only [aCg,Bool.and_eq_true] at h;rw [Nat.eq_of_beq_eq_true h.1,a6E h.2]
 | [],_ :: _,h=>by cases h
 | _ :: _,[],h=>by cases h
def VX:iF->List Value->fP->fP
 | (t,_) :: r,v :: vs,s=>VX r vs (s.put (some t) (.v v))
 | _,_,s=>s
abbrev aSV(l:iF):Type:=qF (Nat->Prop) l
def a9F(x:Option (Nat->Prop))(k:Nat):Prop:=match x with|some I=>I k|none=>False
def aSW(l:iF)(A:aSV l)(xs:Nat->List Value)(N:Nat):Prop:=∀ k,k<N->a9F (qF.app l A (xs k)) k
section
variable (P:Program)(W:World)
def aCh(H:HS)(ops:Array Oper)(st:List Sg)(s:fP)(L:List Tr)(R:List Own)(Φ:PW)(K:fP->List Tr->List Own->PW->Prop):Prop :=
 NC P W (λt=>dR t H.wrap) (λt=>dR t H.gM) ops st s L R Φ λs=>K (CQ H.keep s)
def TO(H:HS)(d:Bool)(ops:Array Oper)(s:fP)(L:List Tr)(R:List Own)(Φ:PW)(K:fP->List Tr->List Own->PW->Prop):Prop :=
 ∀ w F,Ctx W w (R++F) Φ->qsS P (λt=>dR t H.wrap) d ops L w ops.toList [] s λs=>K (CQ H.keep s) L R Φ
def aCi(H:HS)(id:Nat)(ops:Array Oper)(draw:Bool)(s:fP)(L:List Tr)(R:List Own)(Φ:PW)(K:fP->List Tr->List Own->PW->Prop):Prop :=
 match draw with
 | true=>match aCe id H.eP with
  | some st=>match P.follows .mixedOrders&&Region.noSelect ops&&NB ops st (Array.replicate ops.size false)&&Nat.beq (MJ st) ops.size with
   | true=>aCh P W H ops st s L R Φ K
   | false=>False
  | none=>match a4r P ops with
   | true=>TO P W H true ops s L R Φ K
   | false=>False
 | false=>match guarded ops.toList && !(dR id H.split) with
  | true=>TO P W H (dR id H.YT) ops s L R Φ K
  | false=>aGH P W (λt=>dR t H.wrap) (λt=>dR t H.gM) ops ops.toList s L R Φ λs=>K (CQ H.keep s)
def vcS(H:HS):Code->(Exit->fP->List Tr->List Own->PW->Prop)->fP->List Tr->List Own->PW->Prop
 | .skip,Q,s,L,R,Φ=>Q .normal s L R Φ
 | .region id ops draw,Q,s,L,R,Φ=>aCi P W H id ops draw s L R Φ (Q .normal)
 | .seq x y,Q,s,L,R,Φ =>
  match aCf (vL y) H.a6o with
  | none=>vcS H x (λe s' L' R' aU=>match e with | .normal=>vcS H y Q s' L' R' aU|e=>Q e s' L' R' aU) s L R Φ
  | some (l,ts) =>
   match TG (asg x) l (s.fr L)&&aK2 ts L with
   | true =>
    ∃ J:aZK (l++ts),vcS H x (λe s' L' R' aU=>match e with
      | .normal=>match PN (asg x) (s.fr L) (s'.fr L')&&y8 ts L' L with
       | true=>∃ R1 cF,aB cF/\(∀ w F,Ctx W w (R'++F) aU->Ctx W w (R1++F) cF)/\a9E (qF.app (l++ts) J (slotsOf l (s'.fr L')++cellsOf ts L')) R1 cF
       | false=>False
      | e=>Q e s' L' R' aU) s L R Φ /\
     l.all λvs=>ts.all λus=>∀ R' aU,aB aU->a9E (qF.app (l++ts) J (vs++us)) R' aU->vcS H y Q (yA (asg x) l vs s) (jS ts us L) R' aU
   | false=>False
 | .cond c x y,Q,s,L,R,Φ=>match s.val L c with
  | .bool b=>Br b (vcS H x Q s L R Φ) (vcS H y Q s L R Φ)
  | _=>False
 | .block id b,Q,s,L,R,Φ=>vcS H b (λe s' L' R' aU=>match e with | .exit n=>(match Nat.beq n id with|true=>Q .normal s' L' R' aU|false=>Q (.exit n) s' L' R' aU)|e=>Q e s' L' R' aU) s L R Φ
 | .loop b,Q,s,L,R,Φ =>
  match aCf (vL b) H.loops with
  | none=>False
  | some (l,ts) =>
   match TG (asg b) l (s.fr L)&&aK2 ts L with
   | true =>
    ∃ I:aSU (l++ts),(∃ R1 cF n1,aB cF/\(∀ w F,Ctx W w (R++F) Φ->Ctx W w (R1++F) cF)/\DZ (qF.app (l++ts) I (slotsOf l (s.fr L)++cellsOf ts L)) R1 cF n1) /\
     l.all λvs=>ts.all λus=>∀ R' aU n,aB aU->DZ (qF.app (l++ts) I (vs++us)) R' aU n ->
      vcS H b (λe s' L' R'' aGO=>match e with
       | .normal=>match PN (asg b) (s.fr L) (s'.fr L')&&y8 ts L' L with
        | true=>∃ R1 cF n1,aB cF/\(∀ w F,Ctx W w (R''++F) aGO->Ctx W w (R1++F) cF)/\DZ (qF.app (l++ts) I (slotsOf l (s'.fr L')++cellsOf ts L')) R1 cF n1/\n1<n
        | false=>False
       | e=>Q e s' L' R'' aGO) (yA (asg b) l vs s) (jS ts us L) R' aU
   | false=>False
 | .exit id,Q,s,L,R,Φ=>Q (.exit id) s L R Φ
 | .label _,Q,s,L,R,Φ=>Q .normal s L R Φ
 | .scope b,Q,s,L,R,Φ=>vcS H b (λe s' L' R' aU=>match e with | .goto _=>False|e=>Q e s' L' R' aU) s L R Φ
 | .ret,Q,s,L,R,Φ=>Q .ret s L R Φ
 | .rangeFunc g ps x y,Q,s,L,R,Φ =>
  match s.val L g with
  | .func (.func gf) cs lb =>
   match aCf (vL y) H.loops with
   | none=>False
   | some (l,ts) =>
    match aCg (l.map (·.1)) ps.toList&&nG x&&nG y&&aK2 ts L with
    | true=>cs=#[]/\qZ P gf=true/\∃ (N:Nat) (xs:Nat->List Value) (X:World->Prop) (A:aSV l) (I:aSU ts),Iter P gf lb N (λk=>(xs k).toArray) X/\aSW l A xs N /\
      (∃ R1 cF,aB cF/\(∀ w F,Ctx W w (R++F) Φ->Ctx W w (R1++F) cF)/\DZ (qF.app ts I (cellsOf ts L)) R1 cF 0) /\
      ts.all λus=>∀ R' aU k,aB aU->DZ (qF.app ts I us) R' aU k ->
       (∀ w F,Ctx W w (R'++F) aU->X w) /\
       (k<N->l.all λvs=>a9F (qF.app l A vs) k->vcS H x (λe s1 L1 R1 cF=>match e with
         | .normal=>vcS H y (λe s2 L2 R2 BD=>match e with
           | .normal=>match y8 ts L2 L with
            | true=>∃ R3 XU,aB XU/\(∀ w F,Ctx W w (R2++F) BD->Ctx W w (R3++F) XU)/\DZ (qF.app ts I (cellsOf ts L2)) R3 XU (k+1)
            | false=>False
           | _=>False) s1 L1 R1 cF
         | _=>False) (VX l vs s) (jS ts us L) R' aU) /\
       (k=N->Q .normal s (jS ts us L) R' aU)
    | false=>False
  | _=>False
 | _,_,_,_,_,_=>False
def a4B(s:fP)(L:List Tr)(R:List Own)(Φ:PW):List ResultVar->(List Value->Prop)->Prop
 | [],K=>K []
 | .tmp t :: r,K=>match x8 ((X1 t s.l).val L) with
  | true=>False
  | false=>a4B s L R Φ r λvs=>K ((X1 t s.l).val L :: vs)
 | .cell a t :: r,K=>match X1 a s.l with
  | .ptr k off=>loadT P t L k off λv=>a4B s L R Φ r λvs=>K (v :: vs)
  | .v (.pointer (some ⟨b,o,none⟩))=>∀ w F,Ctx W w (R++F) Φ->DP P t w none b o λv=>a4B s L R Φ r λvs=>K (v :: vs)
  | .v _=>False
def aSY(fn:Func)(J:Value->World->Prop):Exit->fP->List Tr->List Own->PW->Prop
 | .normal,s,L,R,Φ | .ret,s,L,R,Φ=>a4B P W s L R Φ fn.results.toList λvs=>∀ w F,Ctx W w (R++F) Φ->J (qK vs) w
 | _,_,_,_,_=>False
def a6F:Nat->List Value->List (Nat × SV)
 | _,[]=>[]
 | i,v :: r=>(i,.v v) :: a6F (i+1) r
def aO0(H:HS)(f:FuncId)(args:Array Value)(R:List Own)(Φ:PW)(J:Value->World->Prop):Prop :=
 match P.funcs[f]? with
 | some fn=>match fn.body with
  | some c=>vcS P W H c (aSY P W fn J) ⟨max fn.ntmps args.size,a6F 0 args.toList⟩ [] R Φ
  | none=>False
 | none=>False
end
theorem a6G(k s L):(CQ k s).fr L=(s.fr L).keep k:=by
 cases k with
 | none=>rfl
 | some k =>
  have key:∀ l:List (Nat × SV),tU L (CQ.go k l)=nF (λt=>dR t k) (tU L l):=by
   intro l
   induction l with
   | nil=>rfl
   | cons p r ih =>
    obtain ⟨t,v⟩:=p;simp only [CQ.go,tU,nF];cases dR t k with
    | true=>simp only [tU,ih]
    | false=>exact ih
  simp only [CQ,Fr.keep,fP.fr,key]
theorem aGP{k s L}(h:N7 L s):N7 L (CQ k s):=by
 cases k with
 | none=>exact h
 | some k =>
  have key:∀ l:List (Nat × SV),∀ p∈CQ.go k l,p∈l:=by
   intro l
   induction l with
   | nil=>intro p hp;exact hp
   | cons q r ih =>
    obtain ⟨t,v⟩:=q;intro p hp;simp only [CQ.go] at hp;cases hb:dR t k with
    | true=>rw [hb] at hp;rcases List.mem_cons.1 hp with rfl|hp;simp;exact List.mem_cons_of_mem _ (ih p hp)
    | false=>rw [hb] at hp;exact List.mem_cons_of_mem _ (ih p hp)
  exact λp hp=>h p (key _ p hp)
theorem At.keep{W s L R Φ a w}(h:At ds G W s L R Φ a w)(k):At ds G W (CQ k s) L R Φ a w :=
 ⟨by rw [a6G];exact H9 h.CL k,aGP h.wf,h.ids,h.ctx,h.st⟩
theorem Q4{asg l vs s L L1}(hwf:N7 L s)(hb:∀ k T,bS k L=some T->∃ T',bS k L1=some T'/\T'.b=T.b):(yA asg l vs s).fr L1=meet asg l vs (s.fr L):=by
 have key:∀ r:List (Nat × SV),(∀ p∈r,∀ k o,p.2=SV.ptr k o->(bS k L).isSome=true)->tU L1 (yA.drop asg r)=nF (λt => !dR t asg) (tU L r):=by
  intro r
  induction r with
  | nil=>intro _;rfl
  | cons p r ih =>
   obtain ⟨t,v⟩:=p;intro h;have ih:=ih λq hq=>h q (List.mem_cons_of_mem _ hq);simp only [yA.drop,tU,nF];cases dR t asg with
   | true=>exact ih
   | false =>
    simp only [tU,Bool.not_false,ih]
    congr 2
    cases v with
    | v x=>rfl
    | ptr k o =>
     obtain ⟨T,hT⟩:=Option.isSome_iff_exists.1 (h (t,.ptr k o) (by simp) k o rfl);obtain ⟨T',h1,h2⟩:=hb k T hT;simp only [SV.val,hT,h1,h2]
 have aO1:∀ (l:iF) (vs:List Value) (r:List (Nat × SV)),tU L1 (yA.cons l vs r)=PL l vs (tU L1 r):=by
  intro l
  induction l with
  | nil=>intro vs r;cases vs<;>rfl
  | cons p l ih =>
   obtain ⟨t,sh⟩:=p;intro vs r;cases vs with
   | nil=>rfl
   | cons v vs=>simp only [yA.cons,PL,tU,ih,SV.val]
 simp only [fP.fr,yA,meet,HA,Fr.drop,aO1,key s.l hwf]
theorem a6H{asg l vs s L L1}(hwf:N7 L s)(hb:∀ k T,bS k L=some T->∃ T',bS k L1=some T'/\T'.b=T.b):N7 L1 (yA asg l vs s):=by
 have key:∀ r:List (Nat × SV),∀ p∈yA.drop asg r,p∈r:=by
  intro r
  induction r with
  | nil=>intro p hp;exact hp
  | cons q r ih =>
   obtain ⟨t,v⟩:=q;intro p hp;simp only [yA.drop] at hp;cases hm:dR t asg with
   | true=>rw [hm] at hp;exact List.mem_cons_of_mem _ (ih p hp)
   | false=>rw [hm] at hp;rcases List.mem_cons.1 hp with rfl|hp;simp;exact List.mem_cons_of_mem _ (ih p hp)
 have aO1:∀ (l:iF) (vs:List Value) (r:List (Nat × SV)),∀ p∈yA.cons l vs r,p∈r\/∃ v,p.2=.v v:=by
  intro l
  induction l with
  | nil=>intro vs r p hp;cases vs<;>exact .inl hp
  | cons q l ih =>
   obtain ⟨t,sh⟩:=q;intro vs r p hp;cases vs with
   | nil=>exact .inl hp
   | cons v vs =>
    rcases List.mem_cons.1 hp with rfl|hp
    .exact .inr ⟨v,rfl⟩
    .exact ih vs r p hp
 intro p hp k o e;rcases aO1 _ _ _ p hp with h|⟨v,h⟩
 .obtain ⟨T,hT⟩:=Option.isSome_iff_exists.1 (hwf p (key _ p h) k o e);obtain ⟨T',h1,_⟩:=hb k T hT;rw [h1];rfl
 .rw [h] at e;cases e
theorem r5{x R Φ n}(h:DZ x R Φ n):∃ I,x=some I:=by
 cases x with
 | none=>exact h.elim
 | some I=>exact ⟨I,rfl⟩
theorem a6I{x R Φ}(h:a9E x R Φ):∃ I,x=some I:=by
 cases x with
 | none=>exact h.elim
 | some I=>exact ⟨I,rfl⟩
theorem all_append{ts us ρ x}:∀ {l:iF} {vs:List Value} (_:vs.length=l.length) {K:List Value->List Value->Prop} (_:l.all λvs=>ts.all λus=>K vs us) {f:qF ρ (l++ts)} (_:qF.app (l++ts) f (vs++us)=some x),
  K vs us/\us.length=ts.length/\(∀ v∈vs,x8 v=false)/\(∀ u∈us,x8 u=false):=by
 intro l
 induction l with
 | nil =>
  intro vs hl K h f hx;cases vs with
  | nil =>
   obtain ⟨h1,h2,h3⟩:=qF.mE hx h;exact ⟨h1,h2,λv hv=>(by cases hv),h3⟩
  | cons v vs=>simp at hl
 | cons p r ih =>
  intro vs hl K h f hx;obtain ⟨t,s⟩:=p;cases vs with
  | nil=>simp at hl
  | cons v vs =>
   simp only [List.cons_append] at f hx;unfold qF.app at hx;split at hx
   .rename_i g hg;obtain ⟨h1,h2⟩:=Sh.mE hg h;obtain ⟨h3,h4,h5,h6⟩:=ih (vs:=vs) (by simpa using hl) (K:=λvs us=>K (v :: vs) us) h1 hx;refine ⟨h3,h4,λu hu=>?_,h6⟩;rcases List.mem_cons.1 hu with rfl|hu
    .exact h2
    .exact h5 u hu
   .cases hx
theorem vM(l s):(slotsOf l s).length=l.length:=by simp [slotsOf]
theorem aGQ{p:Nat->Prop}(h:∃ n,p n):∃ n,p n/\∀ m,p m->n<=m:=by
 obtain ⟨n,hn⟩:=h
 induction n using Nat.strongRecOn with
 | _ n ih =>
  by_cases hx:∃ m,m<n/\p m
  .obtain ⟨m,h1,h2⟩:=hx;exact ih m h1 h2
  .exact ⟨n,hn,λm hm=>by
    rcases Nat.lt_or_ge m n with h'|h'
    .exact absurd ⟨m,h',hm⟩ hx
    .exact h'⟩
theorem qF.Q5{ρ}:∀ {l:iF} {f:qF ρ l} {vs:List Value} {x:ρ},qF.app l f vs=some x->vs.length=l.length
 | [],_,[],_,_=>rfl
 | (t,s) :: r,f,v :: vs,x,h=>by
  unfold qF.app at h;split at h
  .simp [qF.Q5 h]
  .cases h
 | [],_,_ :: _,_,h=>by cases h
 | _ :: _,_,[],_,h=>by cases h
theorem aGR{P f}(h:qZ P f=true)(args w):(callFunc f args).run P w=.ok (.enter f args) w:=by
 unfold qZ at h;split at h
 .rename_i fn hfn;simp only [Bool.and_eq_true,Bool.not_eq_true'] at h;have hb':fn.body.isNone=false:=by cases hh:fn.body<;>simp_all
  simp only [callFunc,program,Sem.run,hfn,h.2,hb',Bool.false_eq_true,if_false,Sem.run_bind,Sem.run_pure,Result.andThen]
 .cases h
theorem a2N{L}:∀ {l:iF} {vs:List Value} {s:fP} {a:Act},wG ds (s.fr L) a->N7 L s ->
  wG ds ((VX l vs s).fr L) { tmps:=((l.map (·.1)).zip vs).foldl (λt p=>t.setIfInBounds p.1 p.2) a.tmps,defers:=a.defers }/\N7 L (VX l vs s)
 | (t,sh) :: r,v :: vs,s,a,h,hw=>by
  have h2:wG ds ((s.put (some t) (.v v)).fr L) (a.put (some t) v):=by rw [YZ];exact h.put _ (λ_=>rfl)
  have:=a2N (l:=r) (vs:=vs) h2 (hw.put λk o e=>(by cases e));simpa [VX,Act.put] using this
 | [],vs,s,a,h,hw=>by
  simp only [VX,List.map_nil,List.zip_nil_left,List.foldl_nil];exact ⟨h,hw⟩
 | _ :: _,[],s,a,h,hw=>by
  simp only [VX,List.zip_nil_right,List.foldl_nil];exact ⟨h,hw⟩
theorem aDJ{P W H}:∀ (c:Code) {rd:Option Nat} {Q':Exit->fP->List Tr->List Own->PW->Prop} {Q:Exit->Act->World->Prop} {s:fP} {L:List Tr} {R:List Own} {Φ:PW} {a:Act} {w:World} {ds:List Deferred} {G:List Own},
  (rd.isSome=true->nG c=true)->vcS P W H c Q' s L R Φ->At ds G W s L R Φ a w->(∀ e s' L' R' aU a' w' ds' G',Q' e s' L' R' aU->Tie rd ds G ds' G'->At ds' G' W s' L' R' aU a' w'->Ext L L'->cD (λt=>t∈asg c) (s.fr L) (s'.fr L')->Q e a' w')->c.wpIn (kT rd) 0 P Q a w:=by
 intro c
 induction c with
 | skip=>intro rd Q' Q s L R Φ a w ds G hrd h ha hQ;exact wpIn_skip (hQ _ _ _ _ _ _ _ _ _ h (Tie.refl _ _ _) ha (Ext.refl _) (cD.refl _ _))
 | region id ops draw =>
  intro rd Q' Q s L R Φ a w ds G hrd h ha hQ;have hD:∀ o∈ops.toList,∀ t,o.dst=some t->t∈a1J ops.toList:=λo ho t ht=>List.mem_filterMap.2 ⟨o,ho,ht⟩;have hD':∀ (j:Nat) (o:Oper) (t:Nat),ops[j]? = some o->o.dst=some t->t∈a1J ops.toList:=λj o t ho ht=>hD o (by simpa using Array.mem_of_getElem? ho) t ht;have hQ':∀ s' L' R' aU a' w',Q' .normal (CQ H.keep s') L' R' aU->At ds G W s' L' R' aU a' w'->Ext L L'->cD (λt=>t∈a1J ops.toList) (s.fr L) (s'.fr L')->Q .normal a' w':=by
   intro s' L' R' aU a' w' hk cT he hu;exact hQ _ _ _ _ _ _ _ _ _ hk (Tie.refl _ _ _) (cT.keep _) he (by rw [a6G];exact CI hu _)
  have quiet:∀ (d:Bool),(∀ w F,Ctx W w (R++F) Φ->qsS P (λt=>dR t H.wrap) d ops L w ops.toList [] s λs=>Q' .normal (CQ H.keep s) L R Φ)->wpQuiet P ops (X0 d w) (λa'=>∀ w',X0 d w w'->Q .normal a' w') ops.toList a:=by
   intro d h;refine TN (D:=λt=>t∈a1J ops.toList) (s0:=s.fr L) ha.st ha.ids ha.ctx (λs' a' hk hs' hwf' eG w' hw'=>?_) _ _ _ _ hD (λe he=>(by cases he)) (h w _ ha.ctx) (Rel.start ha.CL) ha.wf (cD.refl _ _);have KB:kD G W w' L R Φ:=by
    have:=ha.st;cases d with
    | false=>cases hw';exact ha.ctx
    | true=>obtain ⟨n,rfl⟩:=hw';exact Ctx.draw ha.ctx n
   exact hQ' s' L R Φ a' w' hk ⟨hs',hwf',ha.ids,KB,ha.st⟩ (Ext.refl _) eG
  simp only [vcS,aCi,aCh,TO] at h;cases draw with
  | true =>
   simp only at h;split at h
   .rename_i st _;split at h
    .rename_i hc;simp only [Bool.and_eq_true,Nat.beq_eq] at hc;obtain ⟨⟨⟨h1,h2⟩,h3⟩,h4⟩:=hc;have:=ha.st;refine aCd (λhh=>hrd hh) h1 ?_;have h7:=qL (Q:=VW Q) (L0:=L) (s0:=s.fr L) (D:=λt=>t∈a1J ops.toList) h2 hD' (λs' L' R' aU a' w' hk cT he hu=>hQ' s' L' R' aU a' w' hk cT he hu) st _ _ _ _ _ _ (w.drewN 1) h3 h ⟨ha.CL,ha.wf,ha.ids,Ctx.draw ha.ctx 1,ha.st⟩ (Ext.refl _) (cD.refl _ _);rw [h4] at h7;exact h7
    .exact h.elim
   .split at h
    .rename_i hc;simp only [a4r,Bool.and_eq_true] at hc;have h1:=quiet true h;exact aDI (λhh=>hrd hh) hc.1 hc.2 (by
      have e:X0 true w=λw'=>∃ n,w'=w.drewN n:=rfl;rw [e] at h1;exact h1)
    .exact h.elim
  | false =>
   simp only at h;split at h
   .have h1:=quiet (dR id H.YT) h;refine a6D (λhh=>hrd hh) ?_;exact mN (Q:=VW Q) (C:=X0 (dR id H.YT) w) (Qa:=λa'=>∀ w',X0 (dR id H.YT) w w'->Q .normal a' w') (λa' w' hw' hq=>hq w' hw') _ _ _ (by cases dR id H.YT;rfl;exact ⟨0,rfl⟩) h1
   .refine a6D (λhh=>hrd hh) ?_;exact ND (Q:=VW Q) (D:=λt=>t∈a1J ops.toList) (s0:=s.fr L) (L0:=L) hD' (λs' L' R' aU a' w' hk cT he hu=>hQ' s' L' R' aU a' w' hk cT he hu) _ _ _ _ _ _ _ hD h ha (Ext.refl _) (cD.refl _ _)
 | seq x y ihx ihy =>
  intro rd Q' Q s L R Φ a w ds G hrd h ha hQ;simp only [vcS] at h;have hrx:rd.isSome=true->nG x=true/\nG y=true:=λhh=>by have:=hrd hh;simpa only [nG,Bool.and_eq_true] using this
  refine wpIn_seq ?_;split at h
  .refine ihx (λhh=>(hrx hh).1) h ha ?_;intro e s' L' R' aU a' w' ds1 G1 hq htie cT he hu;have eG:cD (λt=>t∈asg (.seq x y)) (s.fr L) (s'.fr L'):=hu.mono λi hi=>List.mem_append.2 (.inl hi);cases e with
   | normal =>
    simp only [Exit.then];refine ihy (λhh=>(hrx hh).2) hq cT λe s'' L'' R'' aGO a'' w'' ds2 G2 hq' aGS Z8 he' N5=>hQ _ _ _ _ _ _ _ _ _ hq' (htie.trans aGS) Z8 (he.trans he') ?_;exact eG.trans (N5.mono λi hi=>List.mem_append.2 (.inr hi))
   | exit n=>exact hQ _ _ _ _ _ _ _ _ _ hq htie cT he eG
   | goto n=>exact hQ _ _ _ _ _ _ _ _ _ hq htie cT he eG
   | ret=>exact hQ _ _ _ _ _ _ _ _ _ hq htie cT he eG
   | panic n=>exact hQ _ _ _ _ _ _ _ _ _ hq htie cT he eG
   | outgrown=>exact hQ _ _ _ _ _ _ _ _ _ hq htie cT he eG
  .rename_i l ts hl;split at h
   .rename_i hok;simp only [Bool.and_eq_true] at hok;obtain ⟨hv,hn⟩:=AO hok.1;obtain ⟨J,h1,h2⟩:=h;refine ihx (λhh=>(hrx hh).1) h1 ha ?_;intro e s' L' R' aU a' w' ds1 G1 hq htie cT he hu;have eG:cD (λt=>t∈asg (.seq x y)) (s.fr L) (s'.fr L'):=hu.mono λi hi=>List.mem_append.2 (.inl hi);cases e with
    | normal =>
     simp only [Exit.then];simp only at hq;split at hq
     .rename_i hsub;simp only [Bool.and_eq_true] at hsub;obtain ⟨R1,cF,NG,hw1,hj⟩:=hq;obtain ⟨I,hI⟩:=a6I hj;obtain ⟨h3,_,hk,_⟩:=all_append (vM l _) h2 hI;have hme:=TI ts (cellsOf ts L') L;have hb:∀ k T,bS k L=some T->∃ T',bS k (jS ts (cellsOf ts L') L)=some T'/\T'.b=T.b:=λk T hT=>by obtain ⟨T',q1,q2,_⟩:=hme.old k T hT;exact ⟨T',q1,q2⟩
      have aO2:=CJ (s:=s.fr L) cT.CL hu (λi=>pP hsub.1) rfl hk;have ham:At ds1 G1 W (yA (asg x) l (slotsOf l (s'.fr L')) s) (jS ts (cellsOf ts L') L) R1 cF a' w' :=
       ⟨by rw [Q4 ha.wf hb];exact aO2,a6H ha.wf hb,hme.ids ha.ids,hw1 w' _ (kD.meet cT.st cT.ctx he ha.ids hsub.2),NG⟩
      refine ihy (λhh=>(hrx hh).2) (h3 R1 cF NG hj) ham λe s'' L'' R'' aGO a'' w'' ds2 G2 hq' aGS Z8 he' N5=>hQ _ _ _ _ _ _ _ _ _ hq' (htie.trans aGS) Z8 (hme.trans he') ?_;refine cD.trans (b:=(yA (asg x) l (slotsOf l (s'.fr L')) s).fr (jS ts (cellsOf ts L') L)) ?_ (N5.mono λi hi=>List.mem_append.2 (.inr hi));rw [Q4 ha.wf hb];exact KD (λv TD=>List.mem_append.2 (.inl (hv v TD).1))
     .exact hq.elim
    | exit n=>exact hQ _ _ _ _ _ _ _ _ _ hq htie cT he eG
    | goto n=>exact hQ _ _ _ _ _ _ _ _ _ hq htie cT he eG
    | ret=>exact hQ _ _ _ _ _ _ _ _ _ hq htie cT he eG
    | panic n=>exact hQ _ _ _ _ _ _ _ _ _ hq htie cT he eG
    | outgrown=>exact hQ _ _ _ _ _ _ _ _ _ hq htie cT he eG
   .exact h.elim
 | cond c x y ihx ihy =>
  intro rd Q' Q s L R Φ a w ds G hrd h ha hQ;simp only [vcS] at h;split at h
  .rename_i b hb;have hc:a.eval c=.bool b:=by rw [ha.CL.eval (by rw [uY,hb];rfl),uY,hb]
   cases b with
   | true=>exact wpIn_cond_true hc (ihx (λhh=>by have:=hrd hh;simp only [nG,Bool.and_eq_true] at this;exact this.1) h ha λe s' L' R' aU a' w' ds1 G1 hq htie cT he hu=>hQ _ _ _ _ _ _ _ _ _ hq htie cT he (hu.mono λi hi=>List.mem_append.2 (.inl hi)))
   | false=>exact wpIn_cond_false hc (ihy (λhh=>by have:=hrd hh;simp only [nG,Bool.and_eq_true] at this;exact this.2) h ha λe s' L' R' aU a' w' ds1 G1 hq htie cT he hu=>hQ _ _ _ _ _ _ _ _ _ hq htie cT he (hu.mono λi hi=>List.mem_append.2 (.inr hi)))
  .exact h.elim
 | block id b ih =>
  intro rd Q' Q s L R Φ a w ds G hrd h ha hQ;simp only [vcS] at h;refine wpIn_block (ih (λhh=>hrd hh) h ha ?_);intro e s' L' R' aU a' w' ds1 G1 hq htie cT he hu;cases e with
  | exit n =>
   simp only [Exit.inBlock];simp only at hq;split at hq
   .rename_i e;rw [if_pos (Nat.eq_of_beq_eq_true e)];exact hQ _ _ _ _ _ _ _ _ _ hq htie cT he hu
   .rename_i e;rw [if_neg (Nat.ne_of_beq_eq_false e)];exact hQ _ _ _ _ _ _ _ _ _ hq htie cT he hu
  | normal=>exact hQ _ _ _ _ _ _ _ _ _ hq htie cT he hu
  | goto n=>exact hQ _ _ _ _ _ _ _ _ _ hq htie cT he hu
  | ret=>exact hQ _ _ _ _ _ _ _ _ _ hq htie cT he hu
  | panic n=>exact hQ _ _ _ _ _ _ _ _ _ hq htie cT he hu
  | outgrown=>exact hQ _ _ _ _ _ _ _ _ _ hq htie cT he hu
 | loop b ih =>
  intro rd Q' Q s L R Φ a w ds G hrd h ha hQ;simp only [vcS] at h;split at h
  .exact h.elim
  .rename_i l ts hl;split at h
   .rename_i hok;simp only [Bool.and_eq_true] at hok;obtain ⟨hv,hn⟩:=AO hok.1;obtain ⟨I,⟨R0,cL,n0,tX,hw0,h0⟩,h1⟩:=h
    let Rel:=λ(n:Nat) (a':Act) (w':World)=>∃ ds1 G1 vs us R' aU,Tie rd ds G ds1 G1/\vs.length=l.length/\aB aU/\DZ (qF.app (l++ts) I (vs++us)) R' aU n/\wG ds1 (meet (asg b) l vs (s.fr L)) a'/\kD G1 W w' (jS ts us L) R' aU
    have hst:=ha.st;have start:Rel n0 a w:=by
     obtain ⟨I',hI'⟩:=r5 h0;obtain ⟨_,_,hk,_⟩:=all_append (vM l _) h1 hI';have hm:=CJ (s:=s.fr L) ha.CL (cD.refl _ _) (λi=>MF) rfl hk (asg:=asg b) (l:=l);refine ⟨_,_,_,_,R0,cL,Tie.refl _ _ _,vM l _,tX,h0,hm,?_⟩;have hss:y8 ts L L=true:=by
      have key:∀ M:List Tr,(∀ T∈M,T∈L)->y8 ts L M=true:=by
       intro M
       induction M with
       | nil=>intro _;rfl
       | cons T r ihr =>
        intro hM;unfold y8;cases dR T.id (ts.map (·.1)) with
        | true=>exact ihr λU hU=>hM U (List.mem_cons_of_mem _ hU)
        | false =>
         rw [KF ha.ids (hM T (by simp))];simp only [show Nat.beq T.ver T.ver=true by simp];exact ihr λU hU=>hM U (List.mem_cons_of_mem _ hU)
      exact key L λ_ h=>h
     exact kD.meet tX (hw0 w _ ha.ctx) (Ext.refl L) ha.ids hss
    let least:=λ(a':Act) (w':World) (n:Nat)=>Rel n a' w'/\∀ m,Rel m a' w'->n<=m
    let mu:=λ(a':Act) (w':World)=>@dite _ (∃ n,least a' w' n) (Classical.propDecidable _) (λhx=>Classical.choose hx) (λ_=>0)
    have hmu:∀ a' w' n,Rel n a' w'->∃ k,least a' w' k/\mu a' w'=k/\k<=n:=by
     intro a' w' n hn;have hx:∃ k,least a' w' k:=aGQ ⟨n,hn⟩;refine ⟨Classical.choose hx,Classical.choose_spec hx,?_,(Classical.choose_spec hx).2 n hn⟩;show @dite _ (∃ n,least a' w' n) (Classical.propDecidable _) (λhx=>Classical.choose hx) (λ_=>0)=_;rw [dif_pos hx]
    refine wpIn_loop (λa' w'=>∃ n,Rel n a' w') mu ⟨n0,start⟩ ?_;rintro a1 w1 ⟨n1,hn1⟩;obtain ⟨n,⟨⟨ds1,G1,vs,us,R',aU,aS2,hlen,NG,hI,hs1,hc1⟩,_⟩,aZM,_⟩:=hmu a1 w1 n1 hn1;rw [aZM];obtain ⟨I',hI'⟩:=r5 hI;obtain ⟨h2,hlu,hk,hku⟩:=all_append hlen h1 hI';have hme:=TI ts us L;have hb:∀ k T,bS k L=some T->∃ T',bS k (jS ts us L)=some T'/\T'.b=T.b:=λk T hT=>by obtain ⟨T',q1,q2,_⟩:=hme.old k T hT;exact ⟨T',q1,q2⟩
    have ham:At ds1 G1 W (yA (asg b) l vs s) (jS ts us L) R' aU a1 w1:=⟨by rw [Q4 ha.wf hb];exact hs1,a6H ha.wf hb,hme.ids ha.ids,hc1,NG⟩;refine ih (λhh=>hrd hh) (h2 R' aU n NG hI) ham ?_;intro e s' L' R'' aGO a' w' ds2 G2 hq aGT cT he hu;have htie:=aS2.trans aGT;rw [Q4 ha.wf hb] at hu;have eG:cD (λt=>t∈asg b) (s.fr L) (s'.fr L'):=cD.trans (KD (λv TD=>(hv v TD).1)) hu;have he':Ext L L':=hme.trans he
    cases e with
    | normal =>
     simp only [Exit.then];simp only at hq;split at hq
     .rename_i hsub;simp only [Bool.and_eq_true] at hsub;obtain ⟨R2,BD,n2,TP,zI,hj,hlt⟩:=hq;obtain ⟨I2,hI2⟩:=r5 hj;obtain ⟨_,_,hk2,_⟩:=all_append (vM l _) h1 hI2;have aO2:=CJ (s:=s.fr L) cT.CL eG (λi=>pP hsub.1) rfl hk2;have aS3:Rel n2 a' w':=⟨_,_,_,_,R2,BD,htie,vM l _,TP,hj,aO2,zI w' _ (kD.meet cT.st cT.ctx he' ha.ids hsub.2)⟩;obtain ⟨k,_,hmk,hkn⟩:=hmu a' w' n2 aS3;exact ⟨⟨n2,aS3⟩,by rw [hmk];omega⟩
     .exact hq.elim
    | exit n=>exact hQ _ _ _ _ _ _ _ _ _ hq htie cT he' eG
    | goto n=>exact hQ _ _ _ _ _ _ _ _ _ hq htie cT he' eG
    | ret=>exact hQ _ _ _ _ _ _ _ _ _ hq htie cT he' eG
    | panic n=>exact hQ _ _ _ _ _ _ _ _ _ hq htie cT he' eG
    | outgrown=>exact hQ _ _ _ _ _ _ _ _ _ hq htie cT he' eG
   .exact h.elim
 | exit id=>intro rd Q' Q s L R Φ a w ds G hrd h ha hQ;exact wpIn_exit (hQ _ _ _ _ _ _ _ _ _ h (Tie.refl _ _ _) ha (Ext.refl _) (cD.refl _ _))
 | ret=>intro rd Q' Q s L R Φ a w ds G hrd h ha hQ;exact wpIn_ret (hQ _ _ _ _ _ _ _ _ _ h (Tie.refl _ _ _) ha (Ext.refl _) (cD.refl _ _))
 | rangeFunc g ps x y ihx ihy =>
  intro rd Q' Q s L R Φ a w ds G hrd h ha hQ;cases rd with
  | some l=>have:=hrd rfl;cases this
  | none =>
  simp only [vcS] at h;split at h
  .rename_i gf cs lb hg;split at h
   .exact h.elim
   .rename_i l ts hl;split at h
    .rename_i hok;simp only [Bool.and_eq_true] at hok;obtain ⟨⟨⟨hps,hrx⟩,hry⟩,hts⟩:=hok;obtain ⟨hcs,hfn,N,xs,X,A,I,hit,hfit,⟨R0,cL,tX,hw0,h0⟩,h1⟩:=h;subst hcs;have hge:a.eval g=.func (.func gf) #[] lb:=by rw [ha.CL.eval (by rw [uY,hg];rfl),uY,hg]
     have hme:∀ us,Ext L (jS ts us L):=λus=>TI ts us L;have hpl:=a6E hps;have hst:=ha.st;have hss:y8 ts L L=true:=by
      have key:∀ M:List Tr,(∀ T∈M,T∈L)->y8 ts L M=true:=by
       intro M
       induction M with
       | nil=>intro _;rfl
       | cons T r ihr =>
        intro hM;unfold y8;cases dR T.id (ts.map (·.1)) with
        | true=>exact ihr λU hU=>hM U (List.mem_cons_of_mem _ hU)
        | false =>
         rw [KF ha.ids (hM T (by simp))];simp only [show Nat.beq T.ver T.ver=true by simp];exact ihr λU hU=>hM U (List.mem_cons_of_mem _ hU)
      exact key L λ_ h=>h
     let Inv:=λ(k:Nat) (Gx:List Own) (w1:World)=>∃ us R' aU,aB aU/\DZ (qF.app ts I us) R' aU k/\kD Gx W w1 (jS ts us L) R' aU
     have fits:∀ k,k<N->∃ A',qF.app l A (xs k)=some A':=λk hk=>by
      have:=hfit k hk;unfold a9F at this;split at this
      .rename_i A' e;exact ⟨A',e⟩
      .exact this.elim
     have len:∀ k,k<N->(xs k).length=l.length:=λk hk=>by
      obtain ⟨A',e⟩:=fits k hk;exact qF.Q5 e
     refine aGN (W:=W) (G:=G) hge (aGR hfn) hit (λk hk=>by rw [List.size_toArray,len k hk,<-Array.length_toList,<-hpl,List.length_map]) Inv ?_ ?_ ?_ ?_ ?_
     .rintro k Gx w1 ⟨us,R',aU,hs,hi,c⟩;refine ⟨R'++(jS ts us L).map Tr.own,aU,hs,by rw [aX];exact c,λw2 Gy c2=>⟨us,R',aU,hs,hi,by rw [aX] at c2;exact c2⟩⟩
     .rintro k Gx w1 ⟨us,R',aU,hs,hi,c⟩;obtain ⟨I',hI'⟩:=r5 hi;exact ((qF.mE hI' h1).1 R' aU k hs hi).1 _ _ c
     .exact ⟨_,R0,cL,tX,h0,kD.meet tX (hw0 w _ ha.ctx) (Ext.refl L) ha.ids hss⟩
     .rintro lp k Gx w1 hk ⟨us,R',aU,hs,hi,c⟩;obtain ⟨I',hI'⟩:=r5 hi;obtain ⟨A',hA'⟩:=fits k hk;have h2:=((qF.mE hI' h1).1 R' aU k hs hi).2.1 hk;have h3:=(qF.mE hA' h2).1 (hfit k hk);have ham:At [] Gx W (VX l (xs k) s) (jS ts us L) R' aU { tmps:=(ps.zip (xs k).toArray).foldl (λt (p,v)=>t.setIfInBounds p v) a.tmps,defers:=[] } w1:=by
       obtain ⟨q1,q2⟩:=a2N (L:=jS ts us L) (l:=l) (vs:=xs k) (s:=s) (a:={ a with defers:=[] }) ⟨rfl,(by rw [ha.wf.fr (hme us)];exact ha.CL.size),λi hi=>(by rw [ha.wf.fr (hme us)] at hi ⊢;exact ha.CL.slot i hi)⟩ (ha.wf.ext (hme us));refine ⟨?_,q2,(hme us).ids ha.ids,c,hs⟩;rw [hpl] at q1;rw [<-Array.foldl_toList,Array.toList_zip];exact q1
      refine ihx (rd:=some lp) (λ_=>hrx) h3 ham ?_;intro e s1 L1 R1 cF a1 w2 ds1 G1 hq htie ha1 DL _;cases e with
      | normal =>
       obtain ⟨Z,hZ,rfl,rfl⟩:=htie;have hZ:=hZ rfl;subst hZ;refine ⟨R1++L1.map Tr.own,cF,ha1.st,by rw [aX];exact ha1.ctx,λw3 Gx3 c3=>?_⟩;have ha3:At [] Gx3 W s1 L1 R1 cF a1 w3:=⟨ha1.CL,ha1.wf,ha1.ids,by rw [aX] at c3;exact c3,ha1.st⟩;refine ihy (rd:=some lp) (λ_=>hry) hq ha3 ?_;intro e s2 L2 R2 BD a2 w4 ds2 G2 rN aGT ha2 VY _;cases e with
       | normal =>
        obtain ⟨Z,hZ,rfl,rfl⟩:=aGT;have hZ:=hZ rfl;subst hZ;simp only at rN;split at rN
        .rename_i hsub;obtain ⟨R3,XU,ZB,hw3,hj⟩:=rN;exact ⟨rfl,_,R3,XU,ZB,hj,hw3 w4 _ (kD.meet ha2.st ha2.ctx (((hme us).trans DL).trans VY) ha.ids hsub)⟩
        .exact rN.elim
       | _=>exact rN.elim
      | _=>exact hq.elim
     .rintro D w' ⟨us,R',aU,hs,hi,c⟩;obtain ⟨I',hI'⟩:=r5 hi;have h2:=((qF.mE hI' h1).1 R' aU N hs hi).2.2 rfl;refine hQ _ _ _ _ _ _ _ (mark D :: ds) (FC D :: G) h2 ⟨[D],λhh=>(by cases hh),rfl,rfl⟩ ⟨?_,ha.wf.ext (hme us),(hme us).ids ha.ids,c,hs⟩ (hme us) (by rw [ha.wf.fr (hme us)];exact cD.refl _ _);rw [ha.wf.fr (hme us)];exact ⟨by simp [ha.CL.defers],ha.CL.size,ha.CL.slot⟩
    .exact h.elim
  .exact h.elim
 | scope b ih =>
  intro rd Q' Q s L R Φ a w ds G hrd h ha hQ;simp only [vcS] at h;refine a9D (ih (λhh=>by have:=hrd hh;cases this) h ha ?_);intro e s' L' R' aU a' w' ds1 G1 hq htie cT he hu;cases e with
  | goto n=>exact hq.elim
  | normal=>exact hQ _ _ _ _ _ _ _ _ _ hq htie cT he hu
  | exit n=>exact hQ _ _ _ _ _ _ _ _ _ hq htie cT he hu
  | ret=>exact hQ _ _ _ _ _ _ _ _ _ hq htie cT he hu
  | panic n=>exact hQ _ _ _ _ _ _ _ _ _ hq htie cT he hu
  | outgrown=>exact hQ _ _ _ _ _ _ _ _ _ hq htie cT he hu
 | label l=>intro rd Q' Q s L R Φ a w ds G hrd h ha hQ;exact wpIn_label (hQ _ _ _ _ _ _ _ _ _ h (Tie.refl _ _ _) ha (Ext.refl _) (cD.refl _ _))
 | goto l=>intro rd Q' Q s L R Φ a w ds G hrd h;exact h.elim
 | refuse why=>intro rd Q' Q s L R Φ a w ds G hrd h;exact h.elim
theorem NI{P:Program}{W:World}{s:fP}{L:List Tr}{R:List Own}{Φ:PW}{a:Act}{w:World}(ha:At ds G W s L R Φ a w):∀ {l:List ResultVar} {K:List Value->Prop},a4B P W s L R Φ l K ->
  ∃ vs,(l.mapM λr=>(match r with | .tmp t=>pure (a.tmps.getD t undef) | .cell x t=>(do loadVar t (<-asAddr (a.tmps.getD x undef)):Sem Value):Sem Value)).run P w=.ok vs w/\K vs
 | [],K,h=>⟨[],by simp,h⟩
 | .tmp t :: r,K,h=>by
  unfold a4B at h;split at h
  .exact h.elim
  .rename_i hu;obtain ⟨vs,h1,h2⟩:=NI ha h;refine ⟨_,?_,h2⟩;have e:(s.fr L).get t=(X1 t s.l).val L:=PT L t s.l;rw [List.mapM_cons];simp only [Sem.run_bind,Sem.run_pure,Result.andThen,h1,ha.CL.slot t (by rw [e];exact hu),e]
 | .cell x t :: r,K,h=>by
  unfold a4B at h;have e:(s.fr L).get x=(X1 x s.l).val L:=PT L x s.l;have done:∀ {b o:Nat} {K2:Value->Prop} {v:Value},(X1 x s.l).val L=.pointer (some ⟨b,o,none⟩)->(loadVar t ⟨b,o,none⟩).run P w=.ok v w->(a4B P W s L R Φ r λvs=>K (v :: vs)) ->
    ∃ vs,(((ResultVar.cell x t) :: r).mapM λr=>(match r with | .tmp t=>pure (a.tmps.getD t undef) | .cell x t=>(do loadVar t (<-asAddr (a.tmps.getD x undef)):Sem Value):Sem Value)).run P w=.ok vs w/\K vs:=by
   intro b o K2 v hv hl hk;obtain ⟨vs,h3,h4⟩:=NI ha hk;refine ⟨_,?_,h4⟩;rw [List.mapM_cons];have hx':a.tmps.getD x undef=.pointer (some ⟨b,o,none⟩):=by rw [ha.CL.slot x (by rw [e,hv];rfl),e,hv]
   have hra:(asAddr (a.tmps.getD x undef)).run P w=.ok ⟨b,o,none⟩ w:=by rw [hx'];rfl
   simp only [Sem.run_bind,Sem.run_pure,Result.andThen,hra,hl,h3]
  split at h
  .rename_i k off hx;have hw:=ha.wf;obtain ⟨T,hT⟩:=Option.isSome_iff_exists.1 (N7.ev (x:=.tmp x) hw (show s.ev (.tmp x)=.ptr k off from hx));obtain ⟨v,h1,h2⟩:=HC hT (ha.ctx.blk hT) h;exact done (K2:=λ_=>True) (by rw [hx,fG hT]) (h1 w rfl) h2
  .rename_i b o hx;obtain ⟨v,h1,h2⟩:=uU (h w _ ha.ctx);exact done (K2:=λ_=>True) (by rw [hx];rfl) (h1 trivial w rfl) h2
  .exact h.elim
theorem a6J(L):∀ (l:List Value) (i:Nat),tU L (a6F i l)=y6 i l
 | [],_=>rfl
 | v :: r,i=>by simp only [a6F,y6,tU,a6J L r (i+1),SV.val]
theorem a9G{P W w H f args R}{Φ:PW}[hst:aB Φ]{J}(h:aO0 P W H f args R Φ J)(c:Ctx W w R Φ):
  Calls P f args w λe w'=>∃ v,e=.returned v/\J v w':=by
 unfold aO0 at h;split at h
 .rename_i fn hf;split at h
  .rename_i code hc;have hwf:N7 [] (⟨max fn.ntmps args.size,a6F 0 args.toList⟩:fP):=by
    have key:∀ (l:List Value) (i:Nat),∀ p∈a6F i l,∃ v,p.2=SV.v v:=by
     intro l
     induction l with
     | nil=>intro i p hp;cases hp
     | cons v r ih =>
      intro i p hp;rcases List.mem_cons.1 hp with rfl|hp
      .exact ⟨v,rfl⟩
      .exact ih _ p hp
    intro p hp k o e;obtain ⟨v,hv⟩:=key _ _ p hp;rw [hv] at e;cases e
   have hfr:(⟨max fn.ntmps args.size,a6F 0 args.toList⟩:fP).fr []=KE fn args:=by simp only [fP.fr,KE,a6J]
   have hat:At [] [] W (⟨max fn.ntmps args.size,a6F 0 args.toList⟩:fP) [] R Φ { tmps:=args++Array.replicate (fn.ntmps - args.size) undef,defers:=[] } w :=
    ⟨by rw [hfr];exact VN fn args,hwf,by simp,by simpa [kD] using c,hst⟩
   refine (callsIn_wide (n:=0)).1 (callsIn_of_wp_marks (F:=kT none) hf hc trivial (aDJ (rd:=none) code (λhh=>(by cases hh)) h hat ?_));intro e s L' R' aU a w' ds' G' hq htie ha _ _;obtain ⟨Z,_,rfl,rfl⟩:=htie;have key:(a4B P W s L' R' aU fn.results.toList λvs=>∀ w F,Ctx W w (R'++F) aU->J (qK vs) w)->bodyPostM (kT none) 0 P fn (λe w'=>∃ v,e=.returned v/\J v w') .ret a w':=by
    intro hq;show LeavesInM Fence.wide 0 P fn a.tmps _ a.defers .returning w';have:=ha.st;rw [ha.CL.defers,List.append_nil];refine Q3 (Φ:=aU) Z (R'++L'.map Tr.own) w' (by have:=ha.ctx;rw [List.append_nil] at this;rw [aX];exact this) λw2 S2 c2=>?_;rw [aX] at c2;have ha2:At (Z.map mark++[]) S2 W s L' R' aU a w2:=⟨ha.CL,ha.wf,ha.ids,c2,ha.st⟩;obtain ⟨vs,h1,h2⟩:=NI ha2 hq;refine ⟨qK vs,?_,qK vs,rfl,h2 w2 _ c2⟩
    unfold results;rw [Array.mapM_eq_mapM_toList,map_eq_pure_bind,Sem.run_bind,Sem.run_bind];have e:∀ (r:Result (List Value)),r=.ok vs w2->(((r.andThen λa=>(pure a.toArray:Sem (Array Value)).run P).andThen λvs=>(pure (if h:vs.size=1 then vs[0] else Value.tuple vs):Sem Value).run P))=.ok (qK vs) w2:=by
     intro r hr;subst hr;simp only [Result.andThen,Sem.run_pure,YU]
    exact e _ h1
   cases e with
   | normal=>exact key hq
   | ret=>exact key hq
   | _=>exact hq.elim
  .exact h.elim
 .exact h.elim
end Go.Vc
end

section
namespace Go.Proofs.YtnlkemjhgdbfkaaGreatDoor
set_option maxRecDepth 100000
open Go.Vc
abbrev F.jF:Nat:=10
abbrev F.KG:Nat:=13
abbrev F.gN:Nat:=17
abbrev F.kY:Nat:=18
abbrev F.iY:Nat:=19
abbrev F.jM:Nat:=20
abbrev F.kZ:Nat:=21
abbrev F.iB:Nat:=22
abbrev F.dV:Nat:=23
abbrev F.oH:Nat:=24
abbrev F.eU:Nat:=25
abbrev F.gP:Nat:=27
abbrev F.rZ:Nat:=58
abbrev F.jU:Nat:=59
abbrev F.eH:Nat:=60
abbrev F.iG:Nat:=61
abbrev F.wH:Nat:=62
abbrev F.sD:Nat:=63
abbrev F.gR:Nat:=66
abbrev F.tZ:Nat:=67
abbrev F.kU:Nat:=70
abbrev F.iC:Nat:=75
abbrev F.a4C:Nat:=81
abbrev F.ZC:Nat:=82
abbrev F.nH:Nat:=83
abbrev F.oI:Nat:=84
abbrev F.eV:Nat:=85
abbrev F.l8:Nat:=86
abbrev F.j4:Nat:=87
abbrev F.j5:Nat:=88
abbrev F.E0:Nat:=89
abbrev F.fZ:Nat:=90
abbrev F.qM:Nat:=91
abbrev F.sE:Nat:=92
abbrev F.sF:Nat:=93
abbrev F.v7:Nat:=94
abbrev F.j6:Nat:=95
abbrev F.oV:Nat:=96
abbrev F.qG:Nat:=97
abbrev F.gZ:Nat:=98
abbrev F.l9:Nat:=99
abbrev F.nU:Nat:=100
abbrev F.pQ:Nat:=101
abbrev F.KH:Nat:=102
abbrev F.u0:Nat:=105
abbrev F.cN:Nat:=106
abbrev F.lA:Nat:=107
abbrev F.dZ:Nat:=109
abbrev F.nV:Nat:=118
abbrev F.jN:Nat:=137
abbrev F.lD:Nat:=138
abbrev F.iT:Nat:=141
abbrev F.Q6:Nat:=143
abbrev F.sH:Nat:=145
abbrev F.BE:Nat:=153
abbrev F.kV:Nat:=154
abbrev F.iH:Nat:=155
abbrev F.yB:Nat:=156
abbrev F.jP:Nat:=157
abbrev F.xD:Nat:=158
abbrev F.v8:Nat:=159
abbrev F.nW:Nat:=160
abbrev F.BF:Nat:=174
abbrev F.oW:Nat:=181
abbrev F.jV:Nat:=182
abbrev F.AR:Nat:=189
abbrev F.iN:Nat:=190
abbrev F.hY:Nat:=191
abbrev F.iO:Nat:=192
abbrev F.iP:Nat:=193
abbrev F.KI:Nat:=194
abbrev F.HF:Nat:=195
abbrev F.NJ:Nat:=196
abbrev F.oJ:Nat:=197
abbrev F.nX:Nat:=198
abbrev F.wI:Nat:=199
abbrev F.nA:Nat:=200
abbrev F.E1:Nat:=201
abbrev F.nY:Nat:=202
abbrev F.E2:Nat:=203
abbrev F.yC:Nat:=204
abbrev F.lE:Nat:=205
abbrev F.gA:Nat:=206
abbrev F.mG:Nat:=207
abbrev F.E3:Nat:=208
abbrev F.pR:Nat:=209
abbrev F.strconv_Itoa:Nat:=210
abbrev F.gS:Nat:=215
abbrev F.cZ:Nat:=216
abbrev F.sI:Nat:=217
abbrev F.oR:Nat:=243
abbrev F.cP:Nat:=247
abbrev F.gH:Nat:=248
abbrev F.eW:Nat:=249
abbrev F.fA:Nat:=250
abbrev F.Q7:Nat:=251
abbrev F.wJ:Nat:=252
abbrev F.nZ:Nat:=253
abbrev F.E4:Nat:=254
abbrev F.oX:Nat:=255
abbrev F.wK:Nat:=256
abbrev F.sJ:Nat:=287
abbrev F.pS:Nat:=288
abbrev F.u6:Nat:=289
abbrev F.dM:Nat:=290
abbrev F.vA:Nat:=291
abbrev F.vB:Nat:=292
abbrev F.fY:Nat:=293
abbrev F.eF:Nat:=294
abbrev F.cH:Nat:=295
abbrev F.xE:Nat:=296
abbrev F.xF:Nat:=297
abbrev F.nC:Nat:=298
abbrev F.jW:Nat:=299
abbrev F.jC:Nat:=300
abbrev F.iU:Nat:=301
abbrev F.gW:Nat:=302
abbrev F.dW:Nat:=303
abbrev F.fK:Nat:=304
abbrev F.vC:Nat:=305
abbrev F.lF:Nat:=306
abbrev F.fL:Nat:=307
abbrev F.oY:Nat:=308
abbrev F.oZ:Nat:=309
abbrev F.fM:Nat:=310
abbrev F.mH:Nat:=311
abbrev F.E5:Nat:=312
abbrev F.strings_IndexByte:Nat:=315
abbrev F.strconv_Atoi:Nat:=316
abbrev F.strings_CutPrefix:Nat:=317
abbrev F.jX:Nat:=336
abbrev F.dX:Nat:=369
abbrev F.yD:Nat:=370
abbrev F.cV:Nat:=371
abbrev F.yE:Nat:=372
abbrev F.jG:Nat:=373
abbrev F.kF:Nat:=374
abbrev F.fB:Nat:=375
abbrev F.fD:Nat:=376
abbrev F.lG:Nat:=377
abbrev F.mP:Nat:=378
abbrev F.HG:Nat:=379
abbrev F.jY:Nat:=380
abbrev F.eB:Nat:=414
abbrev F.kH:Nat:=415
abbrev F.wL:Nat:=416
abbrev aD(f:FuncId)(a:Array Value)(w:World)(K:EkV):Prop:=Calls prog f a w K
abbrev bG(f:FuncId)(a:Array Value)(B:World->List Own->PW->(Value->World->Prop)->Prop):Prop:=∀ {W w:World} {R:List Own} {Φ:PW} [aB Φ] {J:Value->World->Prop},Ctx W w R Φ->B W R Φ J->Calls prog f a w λe w'=>∃ v,e=.returned v/\J v w'
theorem bJ{f:FuncId}{a:Array Value}{B:World->List Own->PW->(Value->World->Prop)->Prop}(H:HS)(h:∀ W R Φ J,aO0 prog W H f a R Φ J=B W R Φ J):bG f a B:=λc g=>a9G (H:=H) (by rw [h];exact g) c
abbrev aR:=World->List Own->PW->(Value->World->Prop)->Prop
abbrev aJ(b o:Nat):Addr:=⟨b,o,none⟩
abbrev aK(b o:Nat):Option Addr:=some ⟨b,o,none⟩
abbrev aA(n:Int):Value:=.int .i64 n
abbrev Zc(W:World)(R:List Own)(Φ:List Nat->World->Prop)(f:FuncId)(a:Array Value)(k:Ending->((List Own->(List Nat->World->Prop)->Prop)->Prop)->Prop):Prop:=∀ (w:World) (F:List Own),Ctx W w (R++F) Φ->Calls prog f a w λe w'=>k e λq=>∃ (R':List Own) (aU:List Nat->World->Prop),aB aU/\Ctx W w' (R'++F) aU/\q R' aU
theorem gC{P:Program}{f:FuncId}{a:Array Value}{w:World}{K:Ending->World->Prop}(h:Calls P f a w λe w'=>∃ v,e=.returned v/\K (.returned v) w'):Calls P f a w K:=h.mono λe w' ⟨v,he,hj⟩=>by rw [he];exact hj
def BG(rB rO:Nat)(data:ByteArray):aR:=λW R Φ J=>
 ∀ (k0:Nat) w1 R2,Ctx W w1 (Own.blk k0 [Value.bool false,aA 0,aA 0,aA 0,Value.slice none 0 0,Value.slice none 0 0] 146 :: R++R2) Φ->∃ n3,w1.cell? (aJ rB (rO+4))=some (aA n3)/\Br (decide (n3≠2)) (∀ w4 R5,Ctx W w4 (Own.blk k0 [Value.bool false,aA 0,aA 0,aA 0,Value.slice none 0 0,Value.slice none 0 0] 146 :: R++R5) Φ->aG w4 k0 0 6/\∀ w6,w6=w4.setCells k0 0 [Value.bool false,aA 0,aA 0,aA 0,Value.slice none 0 0,Value.slice none 0 0]->∃ R7 DM,aB DM/\Ctx W w6 (R7++R5) DM/\Zd W R7 DM λw9=>∃ c11 n12 NK T9 p15 X2 vD p18 TQ k20,bM w9 k0 0 [Value.bool c11,aA n12,aA NK,aA T9,Value.slice p15 X2 vD,Value.slice p18 TQ k20]/\Zr W R7 DM J (Value.tuple #[aA 0,aA 24,Value.agg #[.bool c11,aA n12,aA NK,aA T9,.slice p15 X2 vD,.slice p18 TQ k20]])) (Br (decide (2000<(↑data.size:Int))) (∀ w23 ML,Ctx W w23 (Own.blk k0 [Value.bool false,aA 0,aA 0,aA 0,Value.slice none 0 0,Value.slice none 0 0] 146 :: R++ML) Φ->aG w23 k0 0 6/\∀ Q8,Q8=w23.setCells k0 0 [Value.bool false,aA 0,aA 0,aA 0,Value.slice none 0 0,Value.slice none 0 0]->∃ Q9 BH,aB BH/\Ctx W Q8 (Q9++ML) BH/\Zd W Q9 BH λw28=>∃ c30 n31 n32 n33 p34 k35 k36 p37 k38 k39,bM w28 k0 0 [Value.bool c30,aA n31,aA n32,aA n33,Value.slice p34 k35 k36,Value.slice p37 k38 k39]/\Zr W Q9 BH J (Value.tuple #[aA 0,aA 1,Value.agg #[.bool c30,aA n31,aA n32,aA n33,.slice p34 k35 k36,.slice p37 k38 k39]])) (Zd W (Own.blk k0 [Value.bool false,aA 0,aA 0,aA 0,Value.slice none 0 0,Value.slice none 0 0] 146 :: R) Φ λw42=>∃ p44 k45 k46,w42.cell? (aJ rB (rO+3))=some (.slice p44 k45 k46)/\Br (decide ((↑k45:Int)=4000)) (∀ w47 R48,Ctx W w47 (Own.blk k0 [Value.bool false,aA 0,aA 0,aA 0,Value.slice none 0 0,Value.slice none 0 0] 146 :: R++R48) Φ->aG w47 k0 0 6/\∀ (w49 : World),w49=w47.setCells k0 0 [Value.bool false,aA 0,aA 0,aA 0,Value.slice none 0 0,Value.slice none 0 0]->∃ R50 a1P,aB a1P/\Ctx W w49 (R50++R48) a1P/\Zd W R50 a1P λw52=>∃ c54 n55 n56 n57 p58 k59 k60 p61 k62 k63,bM w52 k0 0 [Value.bool c54,aA n55,aA n56,aA n57,Value.slice p58 k59 k60,Value.slice p61 k62 k63]/\Zr W R50 a1P J (Value.tuple #[aA 0,aA 6,Value.agg #[.bool c54,aA n55,aA n56,aA n57,.slice p58 k59 k60,.slice p61 k62 k63]])) (Zd W (Own.blk k0 [Value.bool false,aA 0,aA 0,aA 0,Value.slice none 0 0,Value.slice none 0 0] 146 :: R) Φ λw66=>∃ n68,w66.cell? (aJ rB (rO+1))=some (aA n68)/\∀ (b:Nat),∃ R69 LA,aB LA/\Wk W (Own.blk k0 [Value.bool false,aA 0,aA 0,aA 0,Value.slice none 0 0,Value.slice none 0 0] 146 :: R) Φ (R69) LA/\∃ (p73:Option Addr) (k74 k75:Nat),(Zd W R69 LA λw76=>∃ p78 k79 k80,w76.cell? (aJ rB (rO+3))=some (.slice p78 k79 k80)/\Value.slice p78 k79 k80=Value.slice p73 k74 k75)/\∀ (k81:Nat),Wk W (Own.blk k81 [aA n68,.string data] 216 :: Own.blk k0 [Value.bool false,aA 0,aA 0,aA 0,Value.slice none 0 0,Value.slice none 0 0] 146 :: R) Φ (R69) LA/\∀ w84 R85,Ctx W w84 (Own.blk k81 [aA n68,.string data] 216 :: Own.blk k0 [Value.bool false,aA 0,aA 0,aA 0,Value.slice none 0 0,Value.slice none 0 0] 146 :: R++R85) Φ->∃ p86 k87 k88 w89,Sem.run prog (builtin Builtin.append #[99,99] 99 #[false,false] #[.slice p73 k74 k75,.slice (aK k81 0) 1 1]) w84=.ok (.value (.slice p86 k87 k88)) w89/\∃ R90 aDL,aB aDL/\Ctx W w89 (R90++R85) aDL/\Wk W R90 aDL R69 LA/\∀ w94 R95,Ctx W w94 (R90++R95) aDL->aG w94 rB (rO+3) 1/\∀ w96,w96=w94.setCell (aJ rB (rO+3)) (Value.slice p86 k87 k88)->∃ R97 QA,aB QA/\Ctx W w96 (R97++R95) QA/\∃ R99 wZ,aB wZ/\Wk W R97 QA R99 wZ/\∃ (aZP:Option Addr) (ZD aDM:Nat),(Zd W R99 wZ λaG0=>∃ a6L QB a4E,aG0.cell? (aJ rB (rO+3))=some (.slice a6L QB a4E)/\Value.slice a6L QB a4E=Value.slice aZP ZD aDM)/\∃ (aK6:Option Addr) (a1Q a9J:Nat),(Zd W R99 wZ λaK7=>∃ aG1 QC aG2,aK7.cell? (aJ rB (rO+3))=some (.slice aG1 QC aG2)/\Value.slice aG1 QC aG2=Value.slice aK6 a1Q a9J)/\(∀ (a9K:Nat),Wk W (Own.blk a9K [aA n68,.string data] 216 :: R97) QA (R99) wZ/\(Zc W (Own.blk a9K [aA n68,.string data] 216 :: R97) QA F.gA #[.pointer (aK rB rO)] λaZQ q=>∃ aS8 aS9 aG3,aZQ=.returned (.slice aS8 aS9 aG3)/\q λZE a2R=>Wk W ZE a2R R99 wZ/\(∀ aO6 a6M,Ctx W aO6 (ZE++a6M) a2R->aG aO6 k0 0 6/\∀ aK8,aK8=aO6.setCells k0 0 [Value.bool false,aA 0,aA 0,aA (↑a1Q:Int),Value.slice (aK a9K 0) 1 1,Value.slice aS8 aS9 aG3]->∃ aK9 a6N,aB a6N/\Ctx W aK8 (aK9++a6M) a6N/\Wk W aK9 a6N R99 wZ/\Zd W aK9 a6N λaZR=>∃ aTa n143 n144 n145 aTb aTc aG4 aTd a6O aTe,bM aZR k0 0 [Value.bool aTa,aA n143,aA n144,aA n145,Value.slice aTb aTc aG4,Value.slice aTd a6O aTe]/\Zr W aK9 a6N J (Value.tuple #[aA (↑ZD:Int),aA 0,Value.agg #[.bool aTa,aA n143,aA n144,aA n145,.slice aTb aTc aG4,.slice aTd a6O aTe]]))/\True)/\True)/\(∀ aLa aTf,Ctx W aLa (R97++aTf) QA->aD F.gA #[.pointer (aK rB rO)] aLa λaZS aLb=>∃ aTg aLc aTh,aZS=.returned (.slice aTg aLc aTh)/\∃ a4F ZF,aB ZF /\ Ctx W aLb (a4F++aTf) ZF/\Wk W a4F ZF R99 wZ/\(∀ (aG5:Nat),Wk W (Own.blk aG5 [aA n68,.string data] 216 :: a4F) ZF (R99) wZ/\(∀ a1R a1S,Ctx W a1R (Own.blk aG5 [aA n68,.string data] 216 :: a4F++a1S) ZF->aG a1R k0 0 6/\∀ a6P,a6P=a1R.setCells k0 0 [Value.bool false,aA 0,aA 0,aA (↑a1Q:Int),Value.slice (aK aG5 0) 1 1,Value.slice aTg aLc aTh]->∃ X3 HH,aB HH/\Ctx W a6P (X3++a1S) HH/\Wk W X3 HH R99 wZ/\Zd W X3 HH λaLd=>∃ aG6 n178 n179 n180 aTi aDN aTj aTk aTl aTm,bM aLd k0 0 [Value.bool aG6,aA n178,aA n179,aA n180,Value.slice aTi aDN aTj,Value.slice aTk aTl aTm]/\Zr W X3 HH J (Value.tuple #[aA (↑ZD:Int),aA 0,Value.agg #[.bool aG6,aA n178,aA n179,aA n180,.slice aTi aDN aTj,.slice aTk aTl aTm]]))/\True)/\True)/\True)))
theorem wM(rB rO data):bG F.l9 #[.pointer (aK rB rO),.string data] (BG rB rO data):=bJ { keep:=some [0,1,4,5,6,7,8,15,20],gM:=[7],eP:=[(8,[.held [(0,true),(1,true),(5,true),(2,true),(3,true),(4,true),(6,false),(7,false)],.bF [8] none,.bF [9] (some 10)]),(9,[.tree (.rd 0 (.rd 5 (.rd 10 (.rd 12 (.rd 1 (.rd 6 (.rd 2 (.rd 7 (.rd 3 (.rd 8 (.rd 4 (.rd 9 (.alt 11 (.alt 13 (.rd 14 (.rd 15 (.rd 16 (.alt 17 (.done) (.no))))) (.no)) (.alt 13 (.rd 15 (.rd 16 (.alt 11 (.rd 14 (.alt 17 (.done) (.no))) (.no)))) (.no))))))))))))))) 18])] } λ_ _ _ _=>by kernel_rfl
def HI(rB rO:Nat):aR:=λW R Φ J=>
 Zd W R Φ λw0=>∃ p2 k3 k4,w0.cell? (aJ rB (rO+3))=some (.slice p2 k3 k4)/\Zc W R Φ F.cP #[.slice p2 k3 k4] λe7 q=>∃ p9 xG GO,e7=.returned (.slice p9 xG GO)/\q λzJ qN=>Zr W zJ qN J (.slice p9 xG GO)
theorem BI(rB rO):bG F.kV #[.pointer (aK rB rO)] (HI rB rO):=bJ { keep:=some [0,2] } λ_ _ _ _=>by kernel_rfl
def FM(rB rO:Nat):aR:=λW R Φ J=>
 ∀ (b:Nat) w0 R1,Ctx W w0 (R++R1) Φ->∃ n2 n3,bM w0 rB (rO+1) [aA n2,aA n3]/\Zr W R Φ J (Value.agg #[aA n2,aA n3])
theorem zK(rB rO):bG F.nW #[.pointer (aK rB rO)] (FM rB rO):=bJ { keep:=some [0,2],gM:=[2] } λ_ _ _ _=>by kernel_rfl
def a4G(id:Int)(h0:Int)(h1:Int)(aG7:Option Addr)(aDO aG8:Nat):aR:=λW R Φ J=>
 ∀ (b:Nat) w0 R1,Ctx W w0 (R++R1) Φ->aD F.dM #[aA id,aA 0,aA 2] w0 λe2 w3=>∃ c4,e2=.returned (.bool c4)/\∃ R5 fJ,aB fJ/\Ctx W w3 (R5++R1) fJ/\Br (!c4) (Zr W R5 fJ J (.pointer none)) (Zc W R5 fJ F.dM #[aA h0,aA 0,aA 1099511627776] λe11 q=>∃ c13,e11=.returned (.bool c13)/\q λP5 u7=>Br (!c13) (Zr W P5 u7 J (.pointer none)) (Zc W P5 u7 F.dM #[aA h1,aA (-1),aA 2] λe20 q=>∃ c22,e20=.returned (.bool c22)/\q λR23 HJ=>Br (!c22) (Zr W R23 HJ J (.pointer none)) (Br (decide (4000<(↑aDO:Int))) (Zr W R23 HJ J (.pointer none)) (Zc W R23 HJ F.vA #[.slice aG7 aDO aG8,aA 1,aA h0] λe31 q=>∃ c33,e31=.returned (.bool c33)/\q λLB yF=>Br (!c33) (Zr W LB yF J (.pointer none)) (∃ VZ uA,aB uA/\Wk W LB yF VZ uA/\Zc W LB yF F.cP #[.slice aG7 aDO aG8] λe44 q=>∃ p46 k47 k48,e44=.returned (.slice p46 k47 k48)/\q λW0 wN=>Wk W W0 wN VZ uA/\∀ (k53:Nat),Wk W (Own.blk k53 [aA id,aA h0,aA h1,.slice p46 k47 k48,aA 0,aA 0,.bool false,.bool false,.bool false, aA 0,aA 0,aA 0,aA 0,aA 0,aA 0] 278 :: W0) wN (VZ) uA/\Zr W (Own.blk k53 [aA id,aA h0,aA h1,.slice p46 k47 k48,aA 0,aA 0,.bool false,.bool false,.bool false,aA 0,aA 0,aA 0,aA 0,aA 0,aA 0] 278 :: W0) wN J (.pointer (aK k53 0)))))))
theorem TR(id h0 h1 aG7 aDO aG8):bG F.HF #[.int .i64 id,.agg #[.int .i64 h0,.int .i64 h1],.slice aG7 aDO aG8] (a4G id h0 h1 aG7 aDO aG8):=bJ { keep:=some [0,2,4,6,33],gM:=[4],eP:=[(3,[.held [(0,true),(1,true),(2,true),(3,false),(4,true),(5,false)],.bF [6] none])],split:=[1] } λ_ _ _ _=>by kernel_rfl
def FN(rB rO:Nat):aR:=λW R Φ J=>
 ∀ (b:Nat) w0 R1,Ctx W w0 (R++R1) Φ->∃ n2,w0.cell? (aJ rB (rO+4))=some (aA n2)/\Br (decide (n2=2)) (Zc W R Φ F.gA #[.pointer (aK rB rO)] λe5 q=>∃ p7 k8 k9,e5=.returned (.slice p7 k8 k9)/\q λR10 aDP=>Zr W R10 aDP J (Value.agg #[.bool false,aA 0,aA 0,aA 0,.slice none 0 0,.slice p7 k8 k9])) (Zd W R Φ λLC=>∃ n16,LC.cell? (aJ rB (rO+1))=some (aA n16)/\Br (decide (n16=1099511627776)) (Zr W R Φ J (Value.agg #[.bool false,aA 0,aA 0,aA 0,.slice none 0 0,.slice none 0 0])) (Zd W R Φ λZG=>∃ n21,ZG.cell? (aJ rB rO)=some (aA n21)/\Zd W R Φ λw22=>∃ n24,w22.cell? (aJ rB (rO+1))=some (aA n24)/\aY (n24+1)/\∀ Q8 Q9,Ctx W Q8 (R++Q9) Φ->aG Q8 rB (rO+1) 2/\∀ w27,w27=Q8.setCells rB (rO+1) [aA (n24+1),aA n21]->∃ R28 ZH,aB ZH/\Ctx W w27 (R28++Q9) ZH/\∀ w30 ZI,Ctx W w30 (R28++ZI) ZH->aG w30 rB (rO+4) 1/\∀ w32,w32=w30.setCell (aJ rB (rO+4)) (aA 1)->∃ HL mQ,aB mQ/\Ctx W w32 (HL++ZI) mQ/\∀ ZJ HM,Ctx W ZJ (HL++HM) mQ->aG ZJ rB (rO+6) 3/\∀ w37,w37=ZJ.setCells rB (rO+6) [Value.bool false,Value.bool false,Value.bool false]->∃ VZ uA,aB uA/\Ctx W w37 (VZ++HM) uA/\∃ R40 wO,aB wO/\Wk W VZ uA R40 wO/\Zd W VZ uA λw44=>∃ n46,w44.cell? (aJ rB rO)=some (aA n46)/\(0<=n46/\n46<3)/\∀ w47 R48,Ctx W w47 (VZ++R48) uA->aG w47 rB (rO+6+n46.toNat) 1/\∀ w49,w49=w47.setCell (aJ rB (rO+6+n46.toNat)) (Value.bool true)->∃ R50 a1P,aB a1P/\Ctx W w49 (R50++R48) a1P/\Wk W R50 a1P R40 wO/\Zd W R50 a1P λw54=>∃ n56 n57,bM w54 rB (rO+1) [aA n56,aA n57]/\∀ (b:Nat) w58 R59,Ctx W w58 (R50++R59) a1P->aD F.fY #[.pointer (aK rB rO)] w58 λe60 w61=>∃ p62 k63 k64,e60=.returned (.slice p62 k63 k64)/\∃ R65 QD,aB QD/\Ctx W w61 (R65++R59) QD/\zG λ(I67:Int->Bool->Int->Int->Int->Option Addr->Nat->Nat->Option Addr->Nat->Nat->List Own->PW->Nat->Prop)=>(Zs W R65 QD (I67 0 true n56 n57 0 none 0 0 none 0 0))/\∀ n73 c74 n75 FD n77 p78 k79 k80 p81 k82 k83 R84 I85 k86,aB I85->I67 n73 c74 n75 FD n77 p78 k79 k80 p81 k82 k83 R84 I85 k86->Br (decide (n73<(↑k63:Int))) (Zi n73 k63 p62 λk87 k88=>Zd W R84 I85 λw89=>∃ n91,w89.cell? (aJ k87 (k88+n73.toNat))=some (aA n91)/\Zc W R84 I85 F.eF #[.pointer (aK rB rO),aA 0,aA n91] λe94 q=>∃ n96 n97 n98 n99 n100 n101 n102 aTu aTv aDM aDR,e94=.returned (Value.agg #[aA n96,aA n97,aA n98,aA n99,aA n100,aA n101,aA n102,.bool aTu,.slice aTv aDM aDR])/\q λaZ0 aTw=>∀ (QB:Nat) a6R aHb,Ctx W a6R (Own.blk QB [aA 0,aA 0,aA 0,aA 0,aA 0,aA 0,aA 0,.bool false,.slice none 0 0] 271 :: aZ0++aHb) aTw->aG a6R QB 0 9/\∀ aDS,aDS=a6R.setCells QB 0 [aA n96,aA n97,aA n98,aA n99,aA n100,aA n101,aA n102,.bool aTu,.slice aTv aDM aDR]->∃ aDT aCp,aB aCp/\Ctx W aDS (aDT++aHb) aCp/\∃ FO pT,aB pT/\Wk W aDT aCp FO pT/\∃ (aZ1:Option Addr) (aTx aLh:Nat),(Zd W FO pT λa1T=>∃ TS a6S a6T,a1T.cell? (aJ rB (rO+3))=some (.slice TS a6S a6T)/\Value.slice TS a6S a6T=Value.slice aZ1 aTx aLh)/\∃ (aZ2:Option Addr) (aG3 aZ3:Nat),(Zd W FO pT λa9P=>∃ aTy aTz aHc,a9P.cell? (aJ rB (rO+3))=some (.slice aTy aTz aHc) /\ Value.slice aTy aTz aHc=Value.slice aZ2 aG3 aZ3)/\Zc W aDT aCp F.cH #[.pointer (aK rB rO),aA (↑aG3:Int)] λaO8 q=>∃ n139,aO8=.returned (aA n139)/\q λZK QE=>Wk W ZK QE FO pT/\∀ a9Q aHd,Ctx W a9Q (ZK++aHd) QE->aG a9Q QB 4 1/\∀ aHe,aHe=a9Q.setCell (aJ QB 4) (aA (↑aTx:Int))->∃ a9R QF,aB QF/\Ctx W aHe (a9R++aHd) QF/\Wk W a9R QF FO pT/\∀ aHf aLi,Ctx W aHf (a9R++aLi) QF->aG aHf QB 5 1/\∀ aTA,aTA=aHf.setCell (aJ QB 5) (aA n139)->∃ a1U HN,aB HN/\Ctx W aTA (a1U++aLi) HN/\Zd W a1U HN λaO9=>∃ n158 n159 n160 n161 n162 n163 n164 aTB aTC aTD aTE,bM aO9 QB 0 [aA n158,aA n159,aA n160,aA n161,aA n162,aA n163,aA n164,.bool aTB,.slice aTC aTD aTE]/\∀ (aHg:Nat) a6P X3,Ctx W a6P (Own.blk aHg [aA n158,aA n159,aA n160,aA n161,aA n162,aA n163,aA n164,.bool aTB,.slice aTC aTD aTE] 271 :: a1U++X3) HN->∃ aTF aTG aTH aLd,Sem.run prog (builtin Builtin.append #[144,144] 144 #[false,false] #[.slice p81 k82 k83,.slice (aK aHg 0) 1 1]) a6P=.ok (.value (.slice aTF aTG aTH)) aLd/\∃ aTI aHh,aB aHh/\Ctx W aLd (aTI++X3) aHh/\aY (n73+1)/\Zb W aTI aHh k86 (I67 (n73+1) c74 n75 FD n77 p78 k79 k80 aTF aTG aTH)) (Zr W R84 I85 J (Value.agg #[.bool c74,aA n75,aA FD,aA n77,.slice p78 k79 k80,.slice p81 k82 k83]))))
theorem zL(rB rO):bG F.nX #[.pointer (aK rB rO)] (FN rB rO):=bJ { keep:=some [0,2,3,5,6,11,20,57,58,59,60],gM:=[2,3],eP:=[(5,[.bF [0,1,7,2,8,3,9,4,10,5,6,11] none,.bF [12] none,.bF [13] (some 14)]),(7,[.late [0,1,2,3,4,7] [0,1,2,5,3,6,4,7] [(8,[])]]),(13,[.held [(0,true),(5,true),(6,true),(1,true),(7,true),(2,true),(8,true),(3,true),(9,true),(4,true),(10,true),(12,true),(11,false),(13,false)],.bF [14] (some 15)])],loops:=[(10,[(59,.one (.int .i64))],[(3,.agg [.bool,.int .i64,.int .i64,.int .i64,.slice,.slice])])] } λ_ _ _ _=>by kernel_rfl
def FP(rB rO:Nat)(m0:Int)(m1:Int)(m2:Int)(m3:Int)(m4:Int)(m5:Int)(m6:Int)(m7:Bool)(zH:Option Addr)(rS zM:Nat):aR:=λW R Φ J=>
 ∀ (b b:Nat) w0 R1,Ctx W w0 (R++R1) Φ->aD F.nC #[.pointer (aK rB rO),Value.agg #[aA m0,aA m1,aA m2,aA m3,aA m4,aA m5,aA m6,.bool m7,.slice zH rS zM]] w0 λe2 w3=>∃ c4,e2=.returned (.bool c4)/\∃ R5 fJ,aB fJ/\Ctx W w3 (R5++R1) fJ/\Br (!c4) (Zr W R5 fJ J (Value.agg #[.bool false,aA 0,aA 0,aA 0,.slice none 0 0,.slice none 0 0])) (Zd W R5 fJ λw9=>∃ GQ n12,bM w9 rB (rO+1) [aA GQ,aA n12]/\∀ (b:Nat) w13 P5,Ctx W w13 (R5++P5) fJ->∃ n15,w13.cell? (aJ rB (rO+1))=some (aA n15)/\Br (decide (n15<m3)) (∀ E6 qH,Ctx W E6 (R5++qH) fJ->aG E6 rB (rO+1) 2/\∀ (KJ:World),KJ = E6.setCells rB (rO+1) [aA m3,aA (-1)]->∃ wF lH,aB lH/\Ctx W KJ (wF++qH) lH/\∀ P6 TT,Ctx W P6 (wF++TT) lH->aG P6 rB (rO+4) 1/\∀ w23,w23=P6.setCell (aJ rB (rO+4)) (aA 0)->∃ ML sK,aB sK/\Ctx W w23 (ML++TT) sK/\∀ (b:Nat),Br (decide (m0=0)) (Zc W ML sK F.jW #[.pointer (aK rB rO),Value.agg #[aA m0,aA m1,aA m2,aA m3,aA m4,aA m5,aA m6,.bool m7,.slice zH rS zM]] λe28 q=>∃ c30 n31 n32 n33 p34 k35 k36 p37 k38 k39,e28=.returned (Value.agg #[.bool c30,aA n31,aA n32,aA n33,.slice p34 k35 k36,.slice p37 k38 k39])/\q λR40 wO=>∀ w42 R43,Ctx W w42 (R40++R43) wO -> ∃ n44 n45,bM w42 rB (rO+1) [aA n44,aA n45]/\tI prog 143=true/\Br (!(decide (n44=GQ)&&(decide (n45=n12)&&true))) (∃ XV HO,aB HO/\Wk W R40 wO XV HO/\∃ (n50 n51:Int),(Zd W XV HO λw52=>∃ n54 n55,bM w52 rB (rO+1) [aA n54,aA n55]/\Value.agg #[aA n54,aA n55]=Value.agg #[aA n50,aA n51])/\Wk W R40 wO XV HO/\Wk W R40 wO XV HO/\Zr W R40 wO J (Value.agg #[.bool true,aA n50,aA n51,aA n33,.slice p34 k35 k36,.slice p37 k38 k39])) (Zr W R40 wO J (Value.agg #[.bool c30,aA n31,aA n32,aA n33,.slice p34 k35 k36,.slice p37 k38 k39]))) (Br (decide (m0=1)) (Zc W ML sK F.jC #[.pointer (aK rB rO),Value.agg #[aA m0,aA m1,aA m2,aA m3,aA m4,aA m5,aA m6,.bool m7,.slice zH rS zM]] λe66 q=>∃ c68 n69 n70 n71 p72 k73 k74 p75 k76 k77,e66=.returned (Value.agg #[.bool c68,aA n69,aA n70,aA n71,.slice p72 k73 k74,.slice p75 k76 k77])/\q λR78 ZL=>Zd W R78 ZL λw80=>∃ n82 n83,bM w80 rB (rO+1) [aA n82,aA n83]/\tI prog 143=true/\Br (!(decide (n82=GQ)&&(decide (n83=n12)&&true))) (∃ R84 aHi,aB aHi/\Wk W R78 ZL R84 aHi/\∃ (n88 n89:Int),(Zd W R84 aHi λw90=>∃ n92 n93,bM w90 rB (rO+1) [aA n92,aA n93]/\Value.agg #[aA n92,aA n93]=Value.agg #[aA n88,aA n89])/\Wk W R78 ZL R84 aHi/\Wk W R78 ZL R84 aHi/\Zr W R78 ZL J (Value.agg #[.bool true,aA n88,aA n89,aA n71,.slice p72 k73 k74,.slice p75 k76 k77])) (Zr W R78 ZL J (Value.agg #[.bool c68,aA n69,aA n70,aA n71,.slice p72 k73 k74,.slice p75 k76 k77]))) (Br (decide (m0=2)) (Zc W ML sK F.iU #[.pointer (aK rB rO),Value.agg #[aA m0,aA m1,aA m2,aA m3,aA m4,aA m5,aA m6,.bool m7,.slice zH rS zM]] λaPc q=>∃ aHj n107 n108 n109 aDY a4L a1Q a4M NL TU,aPc=.returned (Value.agg #[.bool aHj,aA n107,aA n108,aA n109,.slice aDY a4L a1Q,.slice a4M NL TU])/\q λa6U W4=>Zd W a6U W4 λa9S=>∃ n120 n121,bM a9S rB (rO+1) [aA n120,aA n121]/\tI prog 143=true/\Br (!(decide (n120=GQ)&&(decide (n121=n12)&&true))) (∃ a9T a6V,aB a6V/\Wk W a6U W4 a9T a6V/\∃ (n126 n127:Int),(Zd W a9T a6V λa6W=>∃ n130 n131,bM a6W rB (rO+1) [aA n130,aA n131]/\Value.agg #[aA n130,aA n131]=Value.agg #[aA n126,aA n127])/\Wk W a6U W4 a9T a6V/\Wk W a6U W4 a9T a6V/\Zr W a6U W4 J (Value.agg #[.bool true,aA n126,aA n127,aA n109,.slice aDY a4L a1Q,.slice a4M NL TU])) (Zr W a6U W4 J (Value.agg #[.bool aHj,aA n107,aA n108,aA n109,.slice aDY a4L a1Q,.slice a4M NL TU]))) (Br (decide (m0=3)) (Zc W ML sK F.gW #[.pointer (aK rB rO),Value.agg #[aA m0,aA m1,aA m2,aA m3,aA m4,aA m5,aA m6,.bool m7,.slice zH rS zM]] λaZ7 q=>∃ aTM n145 n146 n147 aPd aHk a6O aPe aPf aPg,aZ7=.returned (Value.agg #[.bool aTM,aA n145,aA n146,aA n147,.slice aPd aHk a6O,.slice aPe aPf aPg])/\q λa1U HN=>Zd W a1U HN λaO9=>∃ n158 n159,bM aO9 rB (rO+1) [aA n158,aA n159]/\tI prog 143=true/\Br (!(decide (n158=GQ)&&(decide (n159=n12)&&true))) (∃ ZM FE,aB FE/\Wk W a1U HN ZM FE/\∃ (n164 n165:Int),(∀ aTN aZ8,Ctx W aTN (ZM++aZ8) FE -> ∃ n168 n169,bM aTN rB (rO+1) [aA n168,aA n169]/\Value.agg #[aA n168,aA n169]=Value.agg #[aA n164,aA n165])/\Wk W a1U HN ZM FE/\Wk W a1U HN ZM FE/\Zr W a1U HN J (Value.agg #[.bool true,aA n164,aA n165,aA n147,.slice aPd aHk a6O,.slice aPe aPf aPg])) (Zr W a1U HN J (Value.agg #[.bool aTM,aA n145,aA n146,aA n147,.slice aPd aHk a6O,.slice aPe aPf aPg]))) (Zd W ML sK λaZ9=>∃ n180 n181,bM aZ9 rB (rO+1) [aA n180,aA n181]/\tI prog 143=true/\Br (!(decide (n180=GQ)&&(decide (n181=n12)&&true))) (∃ aLk a6X,aB a6X/\Wk W ML sK aLk a6X/\∃ (n186 n187:Int),(Zd W aLk a6X λb0a=>∃ n190 n191,bM b0a rB (rO+1) [aA n190,aA n191]/\Value.agg #[aA n190,aA n191]=Value.agg #[aA n186,aA n187])/\Wk W ML sK aLk a6X/\Wk W ML sK aLk a6X/\Zr W ML sK J (Value.agg #[.bool true,aA n186,aA n187,aA 0,.slice none 0 0,.slice none 0 0])) (Zr W ML sK J (Value.agg #[.bool false,aA 0,aA 0,aA 0,.slice none 0 0,.slice none 0 0]))))))) (∀ (b:Nat),Br (decide (m0=0)) (∀ aTO aTP,Ctx W aTO (R5++aTP) fJ->aD F.jW #[.pointer (aK rB rO),Value.agg #[aA m0,aA m1,aA m2,aA m3,aA m4,aA m5,aA m6,.bool m7,.slice zH rS zM]] aTO λaHl aPh=>∃ aHm n205 n206 n207 aPi aPj aPk aPl aDZ aPm, aHl=.returned (Value.agg #[.bool aHm,aA n205,aA n206,aA n207,.slice aPi aPj aPk,.slice aPl aDZ aPm])/\∃ ZN CR,aB CR/\Ctx W aPh (ZN++aTP) CR/\Zd W ZN CR λb0b=>∃ n218 n219,bM b0b rB (rO+1) [aA n218,aA n219]/\tI prog 143=true/\Br (!(decide (n218=GQ)&&(decide (n219=n12)&&true))) (∃ aLl a6Y,aB a6Y/\Wk W ZN CR aLl a6Y/\∃ (n224 n225:Int),(Zd W aLl a6Y λb0c=>∃ n228 n229,bM b0c rB (rO+1) [aA n228,aA n229]/\Value.agg #[aA n228,aA n229]=Value.agg #[aA n224,aA n225])/\Wk W ZN CR aLl a6Y/\Wk W ZN CR aLl a6Y/\Zr W ZN CR J (Value.agg #[.bool true,aA n224,aA n225,aA n207,.slice aPi aPj aPk,.slice aPl aDZ aPm])) (Zr W ZN CR J (Value.agg #[.bool aHm,aA n205,aA n206,aA n207,.slice aPi aPj aPk,.slice aPl aDZ aPm]))) (Br (decide (m0=1)) (Zc W R5 fJ F.jC #[.pointer (aK rB rO),Value.agg #[aA m0,aA m1,aA m2,aA m3,aA m4,aA m5,aA m6,.bool m7,.slice zH rS zM]] λb0d q=>∃ aTQ n243 n244 n245 aPn aPo aPp aPq aPr aD0,b0d=.returned (Value.agg #[.bool aTQ,aA n243,aA n244,aA n245,.slice aPn aPo aPp,.slice aPq aPr aD0])/\q λaD1 a2T=>Zd W aD1 a2T λb0e=>∃ n256 n257,bM b0e rB (rO+1) [aA n256,aA n257]/\tI prog 143 = true/\Br (!(decide (n256=GQ)&&(decide (n257=n12)&&true))) (∃ aLm a6Z,aB a6Z/\Wk W aD1 a2T aLm a6Z/\∃ (n262 n263:Int),(Zd W aLm a6Z λaLn=>∃ n266 n267,bM aLn rB (rO+1) [aA n266,aA n267]/\Value.agg #[aA n266,aA n267]=Value.agg #[aA n262,aA n263])/\Wk W aD1 a2T aLm a6Z/\Wk W aD1 a2T aLm a6Z/\Zr W aD1 a2T J (Value.agg #[.bool true,aA n262,aA n263,aA n245,.slice aPn aPo aPp,.slice aPq aPr aD0])) (Zr W aD1 a2T J (Value.agg #[.bool aTQ,aA n243,aA n244,aA n245,.slice aPn aPo aPp,.slice aPq aPr aD0]))) (Br (decide (m0=2)) (Zc W R5 fJ F.iU #[.pointer (aK rB rO),Value.agg #[aA m0,aA m1,aA m2,aA m3,aA m4,aA m5,aA m6,.bool m7,.slice zH rS zM]] λb0f q=>∃ aTR n281 n282 n283 aPs aPt aPu aPv aPw aPx,b0f=.returned (Value.agg #[.bool aTR,aA n281,aA n282,aA n283,.slice aPs aPt aPu,.slice aPv aPw aPx])/\q λaD2 a2U=>Zd W aD2 a2U λb0g=>∃ n294 n295,bM b0g rB (rO+1) [aA n294,aA n295]/\tI prog 143=true/\Br (!(decide (n294=GQ)&&(decide (n295=n12)&&true))) (∃ a9U QG,aB QG/\Wk W aD2 a2U a9U QG/\∃ (n300 n301:Int),(Zd W a9U QG λb0h=>∃ n304 n305,bM b0h rB (rO+1) [aA n304,aA n305]/\Value.agg #[aA n304,aA n305]=Value.agg #[aA n300, aA n301])/\Wk W aD2 a2U a9U QG/\Wk W aD2 a2U a9U QG/\Zr W aD2 a2U J (Value.agg #[.bool true,aA n300,aA n301,aA n283,.slice aPs aPt aPu,.slice aPv aPw aPx])) (Zr W aD2 a2U J (Value.agg #[.bool aTR,aA n281,aA n282,aA n283,.slice aPs aPt aPu,.slice aPv aPw aPx]))) (Br (decide (m0=3)) (Zc W R5 fJ F.gW #[.pointer (aK rB rO),Value.agg #[aA m0,aA m1,aA m2,aA m3,aA m4,aA m5,aA m6,.bool m7,.slice zH rS zM]] λb0i q=>∃ aTS n319 n320 n321 aPy aPz aPA aPB aPC aPD,b0i=.returned (Value.agg #[.bool aTS,aA n319,aA n320,aA n321,.slice aPy aPz aPA, .slice aPB aPC aPD])/\q λaD3 a2V=>Zd W aD3 a2V λb0j=>∃ n332 n333,bM b0j rB (rO+1) [aA n332,aA n333]/\tI prog 143=true/\Br (!(decide (n332=GQ)&&(decide (n333=n12)&&true))) (∃ aLo a60,aB a60/\Wk W aD3 a2V aLo a60/\∃ (n338 n339:Int),(Zd W aLo a60 λb0k=>∃ n342 n343,bM b0k rB (rO+1) [aA n342,aA n343]/\Value.agg #[aA n342,aA n343]=Value.agg #[aA n338,aA n339])/\Wk W aD3 a2V aLo a60/\Wk W aD3 a2V aLo a60/\Zr W aD3 a2V J (Value.agg #[.bool true,aA n338,aA n339,aA n321,.slice aPy aPz aPA,.slice aPB aPC aPD])) (Zr W aD3 a2V J (Value.agg #[.bool aTS,aA n319, aA n320,aA n321,.slice aPy aPz aPA,.slice aPB aPC aPD]))) (Zd W R5 fJ λb0l=>∃ aTT aTU,bM b0l rB (rO+1) [aA aTT,aA aTU]/\tI prog 143=true/\Br (!(decide (aTT=GQ)&&(decide (aTU=n12)&&true))) (∃ aLp a61,aB a61/\Wk W R5 fJ aLp a61/\∃ (aTV aTW:Int),(Zd W aLp a61 λb0m=>∃ aTX aTY,bM b0m rB (rO+1) [aA aTX,aA aTY]/\Value.agg #[aA aTX,aA aTY]=Value.agg #[aA aTV,aA aTW])/\Wk W R5 fJ aLp a61/\Wk W R5 fJ aLp a61/\Zr W R5 fJ J (Value.agg #[.bool true,aA aTV,aA aTW,aA 0,.slice none 0 0,.slice none 0 0])) (Zr W R5 fJ J (Value.agg #[.bool false,aA 0,aA 0,aA 0,.slice none 0 0,.slice none 0 0]))))))))
theorem zN(rB rO m0 m1 m2 m3 m4 m5 m6 m7 zH rS zM):bG F.nY #[.pointer (aK rB rO),.agg #[.int .i64 m0,.int .i64 m1,.int .i64 m2,.int .i64 m3,.int .i64 m4,.int .i64 m5,.int .i64 m6,.bool m7,.slice zH rS zM]] (FP rB rO m0 m1 m2 m3 m4 m5 m6 m7 zH rS zM):=bJ { keep:=some [0,3,4,5,6,10,23,34,35,40,45,50,60],gM:=[3,4,5,6],eP:=[(17,[.late [4] [0,4,1,2,3] [(5,[6]),(7,[])]])] } λ_ _ _ _=>by kernel_rfl
def HP(rB rO:Nat):aR:=λW R Φ J=>
 Zc W R Φ F.fY #[.pointer (aK rB rO)] λe2 q=>∃ p4 k5 k6,e2=.returned (.slice p4 k5 k6)/\q λR7 DM=>zG λ(I9:Option Addr->Nat->Nat->Int->List Own->PW->Nat->Prop)=>(Zs W R7 DM (I9 none 0 0 0))/\∀ p15 X2 vD n18 wF I20 k21,aB I20->I9 p15 X2 vD n18 wF I20 k21->Br (decide (n18<(↑k5:Int))) (Zi n18 k5 p4 λk22 k23=>Zd W wF I20 λGR=>∃ n26,GR.cell? (aJ k22 (k23+n18.toNat))=some (aA n26)/\Zc W wF I20 F.fK #[.pointer (aK rB rO),aA n26] λe29 q=>∃ n31 n32 n33 n34 n35 n36 n37 c38 p39 k40 k41,e29=.returned (Value.agg #[aA n31,aA n32,aA n33,aA n34,aA n35,aA n36,aA n37,.bool c38,.slice p39 k40 k41])/\q λR42 a62=>∀ (k44:Nat) w45 XV,Ctx W w45 (Own.blk k44 [aA n31,aA n32,aA n33,aA n34,aA n35,aA n36,aA n37,.bool c38,.slice p39 k40 k41] 271 :: R42++XV) a62->∃ p47 k48 k49 w50,Sem.run prog (builtin Builtin.append #[144,144] 144 #[false,false] #[.slice p15 X2 vD,.slice (aK k44 0) 1 1]) w45=.ok (.value (.slice p47 k48 k49)) w50/\∃ QH yG,aB yG/\Ctx W w50 (QH++XV) yG/\aY (n18+1)/\Zb W QH yG k21 (I9 p47 k48 k49 (n18+1))) (Zr W wF I20 J (.slice p15 X2 vD))
theorem BJ(rB rO):bG F.gA #[.pointer (aK rB rO)] (HP rB rO):=bJ { keep:=some [0,2,3,5,7,8,9,10],loops:=[(3,[(3,.one (.slice)),(9,.one (.int .i64))],[])] } λ_ _ _ _=>by kernel_rfl
def vN(sP:Option Addr)(sN sC:Nat):aR:=λW R Φ J=>
 Br sP.isNone (Zr W R Φ J (.slice none 0 0)) (∀ (k2:Nat) w3 R4,Ctx W w3 (Own.blk k2 [] 216 :: R++R4) Φ->∃ p5 k6 k7 w8,Sem.run prog (builtin Builtin.append #[99,99] 99 #[false,false] #[.slice (aK k2 0) 0 0,.slice sP sN sC]) w3=.ok (.value (.slice p5 k6 k7)) w8/\∃ R9 jH,aB jH/\Ctx W w8 (R9++R4) jH/\Zr W R9 jH J (.slice p5 k6 k7))
theorem rQ(sP sN sC):bG F.cP #[.slice sP sN sC] (vN sP sN sC):=bJ { keep:=some [0,2,4] } λ_ _ _ _=>by kernel_rfl
def ZO(lP:Option Addr)(lN lC:Nat)(least:Int)(most:Int):aR:=λW R Φ J=>
 zG λ(I0:Int->Int->List Own->PW->Nat->Prop)=>(Zs W R Φ (I0 least 0))/\∀ n6 n7 R8 I9 xG,aB I9->I0 n6 n7 R8 I9 xG->Br (decide (n7<(↑lN:Int))) (Zi n7 lN lP λGO k12=>Zd W R8 I9 λw13=>∃ n15 s16,bM w13 GO (k12+n7.toNat*2) [aA n15,.string s16]/\∀ (b:Nat) XW TV,Ctx W XW (R8++TV) I9->Br (decide (n15<n6)||decide (most<n15)||decide (2000<(↑s16.size:Int))) (Zr W R8 I9 J (.bool false)) (aY (n7+1)/\Zb W R8 I9 xG (I0 n15 (n7+1)))) (Zr W R8 I9 J (.bool true))
theorem NM(lP lN lC least most):bG F.vA #[.slice lP lN lC,.int .i64 least,.int .i64 most] (ZO lP lN lC least most):=bJ { keep:=some [0,1,2,6,8,9,10,11,12,30],gM:=[8],loops:=[(2,[(1,.one (.int .i64)),(11,.one (.int .i64))],[])] } λ_ _ _ _=>by kernel_rfl
def CS(rB rO:Nat):aR:=λW R Φ J=>
 ∀ (k0 k1:Nat) w2 R3,Ctx W w2 (Own.blk k1 [aA 0,aA 1,aA 2] 3 :: Own.blk k0 [Value.pointer (aK rB rO)] 130 :: R++R3) Φ->aD F.jG #[.slice (aK k1 0) 3 3,Value.func (Fn.func 374) #[] #[.pointer (aK k0 0)]] w2 λe4 w5=>∃ p6 k7 k8,e4=.returned (.slice p6 k7 k8)/\∃ R9 jH,aB jH/\Ctx W w5 (R9++R3) jH/\Zr W R9 jH J (.slice p6 k7 k8)
theorem xH(rB rO):bG F.fY #[.pointer (aK rB rO)] (CS rB rO):=bJ { keep:=some [1,2] } λ_ _ _ _=>by kernel_rfl
def BK(rB rO:Nat)(kind:Int)(to:Int):aR:=λW R Φ J=>
 ∀ (b:Nat) w0 R1,Ctx W w0 (R++R1) Φ->∃ n2,w0.cell? (aJ rB rO)=some (aA n2)/\Zd W R Φ λw3=>∃ n5,w3.cell? (aJ rB (rO+1))=some (aA n5)/\Zr W R Φ J (Value.agg #[aA kind,aA n2,aA to,aA n5,aA 0,aA 0,aA 0,.bool false,.slice none 0 0])
theorem wP(rB rO kind to):bG F.eF #[.pointer (aK rB rO),.int .i64 kind,.int .i64 to] (BK rB rO kind to):=bJ { keep:=some [0,1,2,6],gM:=[6],eP:=[(1,[.bF [0,1,5,6,2,7,3,8,4,9,10,11] (some 12)])] } λ_ _ _ _=>by kernel_rfl
def E7(rB rO:Nat)(m0:Int)(m1:Int)(m2:Int)(m3:Int)(m4:Int)(m5:Int)(m6:Int)(m7:Bool)(zH:Option Addr)(rS zM:Nat):aR:=λW R Φ J=>
 ∀ (b:Nat) w0 R1,Ctx W w0 (R++R1) Φ->∃ (c2:Bool),(∀ (w3:World),(∃ (k4:Nat),w3=w0.drewN k4)->aD F.dM #[aA m0,aA 0,aA 3] w3 λe5 w6=>e5=.returned (.bool c2)/\∃ (k7:Nat),w6=w0.drewN k7)/\∃ (n8:Int),((!!c2)=true->w0.cell? (aJ rB rO)=some (aA n8))/\∃ (n9:Int),((!(!c2||decide (m2≠n8)))=true->w0.cell? (aJ rB rO)=some (aA n9))/\∃ (c10:Bool),((!(!c2||decide (m2≠n8)||decide (m1=n9)))=true->∀ (NN:World),(∃ (k12:Nat),NN=w0.drewN k12)->aD F.dM #[aA m1,aA 0,aA 2] NN λe13 LC=>e13=.returned (.bool c10)/\∃ (E8:Nat),LC=w0.drewN E8)/\Br (!c2||decide (m2≠n8)||decide (m1=n9) || !c10) (Zr W R Φ J (.bool false)) (∀ KJ wF, Ctx W KJ (R++wF) Φ->∃ (c20:Bool),(∀ P6,P6=KJ->aD F.dM #[aA m3,aA 1,aA 1099511627776] P6 λe22 w23=>e22=.returned (.bool c20)/\w23=KJ)/\∃ (c24:Bool),((!!c20)=true->∀ Q8,Q8=KJ->aD F.dM #[aA m4,aA 0,aA 4000] Q8 λe26 w27=>e26=.returned (.bool c24)/\w27=KJ)/\∃ (c28:Bool),((!(!c20 || !c24))=true->∀ w29,w29=KJ->aD F.dM #[aA m5,aA 0,aA m3] w29 λe30 w31=>e30=.returned (.bool c28)/\w31=KJ)/\Br (!c20 || !c24 || !c28||decide (m4=0)&&decide (m5≠0)) (Zr W R Φ J (.bool false)) (Zc W R Φ F.dM #[aA m6,aA 0,aA 4000] λe36 q=>∃ c38,e36=.returned (.bool c38)/\q λR39 aLt=>Br c38 (Br (decide ((↑rS:Int)<=8)) (aY (m4+(↑rS:Int))/\Br (decide (m4+(↑rS:Int)<=4000)) (Zc W R39 aLt F.vA #[.slice zH rS zM,aA (max 1 m5),aA m3] λe43 q=>∃ c45,e43=.returned (.bool c45)/\q λXV HO=>Zr W XV HO J (.bool c45)) (Zr W R39 aLt J (.bool false))) (Zr W R39 aLt J (.bool false))) (Zr W R39 aLt J (.bool false))))
theorem yH(rB rO m0 m1 m2 m3 m4 m5 m6 m7 zH rS zM):bG F.nC #[.pointer (aK rB rO),.agg #[.int .i64 m0,.int .i64 m1,.int .i64 m2,.int .i64 m3,.int .i64 m4,.int .i64 m5,.int .i64 m6,.bool m7,.slice zH rS zM]] (E7 rB rO m0 m1 m2 m3 m4 m5 m6 m7 zH rS zM):=bJ { keep:=some [0,3,4,5,34],gM:=[3],split:=[5] } λ_ _ _ _=>by kernel_rfl
def FQ(rB rO:Nat)(m0:Int)(m1:Int)(m2:Int)(m3:Int)(m4:Int)(m5:Int)(m6:Int)(m7:Bool)(zH:Option Addr)(rS zM:Nat):aR:=λW R Φ J=>
 ∀ (b b:Nat) w0 R1,Ctx W w0 (R++R1) Φ->aD F.eF #[.pointer (aK rB rO),aA 1,aA m1] w0 λe2 w3=>∃ n4 n5 n6 n7 n8 n9 n10 c11 p12 HQ wQ,e2=.returned (Value.agg #[aA n4,aA n5,aA n6,aA n7,aA n8,aA n9,aA n10,.bool c11,.slice p12 HQ wQ])/\∃ GU yI,aB yI/\Ctx W w3 (GU++R1) yI/\∀ (vD:Nat) KJ wF,Ctx W KJ (Own.blk vD [aA 0,aA 0,aA 0,aA 0,aA 0,aA 0,aA 0,.bool false,.slice none 0 0] 271 :: GU++wF) yI->aG KJ vD 0 9/\∀ w20,w20=KJ.setCells vD 0 [aA n4,aA n5,aA n6,aA n7,aA n8,aA n9,aA n10,.bool c11,.slice p12 HQ wQ]->∃ TW uB,aB uB/\Ctx W w20 (TW ++ wF) uB/\Zd W TW uB λw23=>∃ p25 k26 k27,w23.cell? (aJ rB (rO+3))=some (.slice p25 k26 k27)/\Zc W TW uB F.cH #[.pointer (aK rB rO),aA (↑k26:Int)] λe30 q=>∃ n32,e30=.returned (aA n32)/\q λHL mQ=>Zd W HL mQ λZJ=>∃ (p37:Option Addr) (k38 k39:Nat),((!decide (n32<m5)&&decide (m5=n32))=true->ZJ.cell? (aJ rB (rO+3))=some (.slice p37 k38 k39))/\Zd W HL mQ λw40=>∃ n42,w40.cell? (aJ rB (rO+1))=some (aA n42)/\∃ (n43:Int),(decide (m3=n42)=true->w40.cell? (aJ rB (rO+2))=some (aA n43))/\∃ (n44:Int),((decide (m3=n42) && !decide (n43 = -1))=true->w40.cell? (aJ rB (rO + 2))=some (aA n44))/\Br (decide (m3=n42)&&(decide (n43 = -1)||decide (n44=m1))&&(decide (n32<m5)||decide (m5=n32)&&decide ((↑k38:Int)<=m4))) (∃ R45 NO,aB NO/\Wk W HL mQ R45 NO/\∀ w49 R50,Ctx W w49 (HL++R50) mQ->aG w49 vD 7 1/\∀ w51,w51=w49.setCell (aJ vD 7) (Value.bool true)->∃ R52 a1X,aB a1X/\Ctx W w51 (R52++R50) a1X/\Wk W R52 a1X R45 NO/\∀ w56 R57,Ctx W w56 (R52++R57) a1X->aG w56 rB (rO+2) 1/\∀ w58,w58=w56.setCell (aJ rB (rO+2)) (aA m1)->∃ R59 a9Z,aB a9Z/\Ctx W w58 (R59++R57) a9Z/\Zd W R59 a9Z λw61=>∃ n63 n64 n65 n66 n67 n68 n69 c70 p71 k72 k73,bM w61 vD 0 [aA n63,aA n64,aA n65,aA n66,aA n67,aA n68,aA n69,.bool c70,.slice p71 k72 k73]/\Zc W R59 a9Z F.fD #[Value.agg #[aA n63,aA n64,aA n65,aA n66,aA n67,aA n68,aA n69,.bool c70,.slice p71 k72 k73]] λe76 q=>∃ c78 n79 n80 n81 p82 k83 k84 p85 k86 k87,e76=.returned (Value.agg #[.bool c78,aA n79,aA n80,aA n81,.slice p82 k83 k84,.slice p85 k86 k87])/\q λR88 aHp=>Zr W R88 aHp J (Value.agg #[.bool c78,aA n79,aA n80,aA n81,.slice p82 k83 k84,.slice p85 k86 k87])) (Zd W HL mQ λw92=>∃ n94 n95 n96 n97 n98 n99 n100 aT6 aHq a66 ZD,bM w92 vD 0 [aA n94,aA n95,aA n96,aA n97,aA n98,aA n99,aA n100,.bool aT6,.slice aHq a66 ZD]/\Zc W HL mQ F.fD #[Value.agg #[aA n94,aA n95,aA n96,aA n97,aA n98,aA n99,aA n100,.bool aT6,.slice aHq a66 ZD]] λaPF q=>∃ c109 n110 n111 n112 a4M NL TU aG1 QC aG2,aPF=.returned (Value.agg #[.bool c109,aA n110,aA n111,aA n112,.slice a4M NL TU,.slice aG1 QC aG2])/\q λa92 a67=>Zr W a92 a67 J (Value.agg #[.bool c109,aA n110,aA n111,aA n112,.slice a4M NL TU,.slice aG1 QC aG2]))
theorem zO(rB rO m0 m1 m2 m3 m4 m5 m6 m7 zH rS zM):bG F.jW #[.pointer (aK rB rO),.agg #[.int .i64 m0,.int .i64 m1,.int .i64 m2,.int .i64 m3,.int .i64 m4,.int .i64 m5,.int .i64 m6,.bool m7,.slice zH rS zM]] (FQ rB rO m0 m1 m2 m3 m4 m5 m6 m7 zH rS zM):=bJ { keep:=some [0,3,4,5,6,7,67],gM:=[3,4],eP:=[(5,[.held [(0,true),(1,true),(3,true),(2,true),(4,false)],.bF [5] none,.bF [6] none,.bF [7] (some 8)])] } λ_ _ _ _=>by kernel_rfl
def E9(rB rO:Nat)(m0:Int)(m1:Int)(m2:Int)(m3:Int)(m4:Int)(m5:Int)(m6:Int)(m7:Bool)(zH:Option Addr)(rS zM:Nat):aR:=λW R Φ J=>
 ∀ (b b:Nat) w0 R1,Ctx W w0 (R++R1) Φ->∃ n2,w0.cell? (aJ rB (rO+4))=some (aA n2)/\∃ (n3:Int),((!decide (n2≠1))=true->w0.cell? (aJ rB (rO+1))=some (aA n3))/\Br (decide (n2≠1)||decide (m3≠n3) || !m7) (Zr W R Φ J (Value.agg #[.bool false,aA 0,aA 0,aA 0,.slice none 0 0,.slice none 0 0])) (∃ R6 uC,aB uC/\Wk W R Φ R6 uC/\(0<=m1/\m1<3)/\∀ w10 TA,Ctx W w10 (R++TA) Φ->aG w10 rB (rO+6+m1.toNat) 1/\∀ GV,GV=w10.setCell (aJ rB (rO+6+m1.toNat)) (Value.bool true)->∃ R13 yJ,aB yJ/\Ctx W GV (R13++TA) yJ/\Wk W R13 yJ R6 uC/\Zd W R13 yJ λXW=>∃ c19 c20 c21,bM XW rB (rO+6) [Value.bool c19,Value.bool c20,Value.bool c21]/\zG λ(I22:Int->Int->List Own->PW -> Nat->Prop)=>(Zs W R13 yJ (I22 0 0))/\∀ n28 n29 ZP I31 k32,aB I31->I22 n28 n29 ZP I31 k32->Br (decide (n29<3)) (∃ (c33:Bool),(0<=n29/\n29<3/\YC (0+n29.toNat) [Value.bool c19,Value.bool c20,Value.bool c21]=some (.bool c33))/\Br c33 (aY (n28+1)/\aY (n29+1)/\Zb W ZP I31 k32 (I22 (n28+1) (n29+1))) (aY (n29+1)/\Zb W ZP I31 k32 (I22 n28 (n29+1)))) (Br (decide (n28<2)) (Zr W ZP I31 J (Value.agg #[.bool false,aA 0,aA 0,aA 0,.slice none 0 0,.slice none 0 0])) (∀ w46 R47,Ctx W w46 (ZP++R47) I31->aG w46 rB (rO+4) 1/\∀ w48,w48=w46.setCell (aJ rB (rO+4)) (aA 2)->∃ W0 wN, aB wN/\Ctx W w48 (W0++R47) wN/\zG λ(I51:Int->List Own->PW->Nat->Prop)=>(Zs W W0 wN (I51 0))/\∀ n57 R58 I59 k60,aB I59->I51 n57 R58 I59 k60->Br (decide (n57<3)) (∃ R61 a68,aB a68/\Wk W R58 I59 R61 a68/\Zd W R58 I59 λw65=>∃ p67 k68 k69,w65.cell? (aJ rB (rO+3))=some (.slice p67 k68 k69)/\aY ((↑k68:Int)+1)/\(0<=n57/\n57<3)/\∀ w70 R71,Ctx W w70 (R58++R71) I59->aG w70 rB (rO+9+n57.toNat) 1/\∀ w72,w72=w70.setCell (aJ rB (rO+9+n57.toNat)) (aA ((↑k68:Int)+1))->∃ R73 aLB,aB aLB/\Ctx W w72 (R73++R71) aLB/\Wk W R73 aLB R61 a68/\(0<=n57/\n57<3)/\∀ w77 R78,Ctx W w77 (R73++R78) aLB->aG w77 rB (rO+12+n57.toNat) 1/\∀ w79,w79=w77.setCell (aJ rB (rO+12 + n57.toNat)) (aA 0)->∃ R80 a4N,aB a4N/\Ctx W w79 (R80++R78) a4N/\Wk W R80 a4N R61 a68/\aY (n57+1)/\Zb W R80 a4N k60 (I51 (n57+1))) (Zc W R58 I59 F.gA #[.pointer (aK rB rO)] λe91 q=>∃ p93 k94 k95,e91=.returned (.slice p93 k94 k95)/\q λR96 aHs=>Zr W R96 aHs J (Value.agg #[.bool false,aA 0,aA 0,aA 0,.slice none 0 0,.slice p93 k94 k95])))))
theorem yK(rB rO m0 m1 m2 m3 m4 m5 m6 m7 zH rS zM):bG F.jC #[.pointer (aK rB rO),.agg #[.int .i64 m0,.int .i64 m1,.int .i64 m2,.int .i64 m3,.int .i64 m4,.int .i64 m5,.int .i64 m6,.bool m7,.slice zH rS zM]] (E9 rB rO m0 m1 m2 m3 m4 m5 m6 m7 zH rS zM):=bJ { keep:=some [0,3,4,5,7,8,28,39,40,41,43,48,53,54],gM:=[3,4],eP:=[(3,[.late [0,1,2,5] [0,1,2,3,4,5] [(6,[])]]),(17,[.late [0,1,4,5,6,7,8,9,12] [0,1,2,3,4,5,10,14,6,11,15,7,8,9,12] [(13,[16]),(17,[])]])],loops:=[(15,[(53,.one (.int .i64))],[]),(6,[(5,.one (.int .i64)),(40,.one (.int .i64))],[])] } λ_ _ _ _=>by kernel_rfl
def CT(rB rO:Nat)(m0:Int)(m1:Int)(m2:Int)(m3:Int)(m4:Int)(m5:Int)(m6:Int)(m7:Bool)(zH:Option Addr)(rS zM:Nat):aR:=λW R Φ J=>
 ∀ (b b:Nat) w0 R1,Ctx W w0 (R++R1) Φ->aD F.eF #[.pointer (aK rB rO),aA 3,aA m1] w0 λe2 w3=>∃ n4 n5 n6 n7 n8 n9 n10 c11 p12 HQ wQ,e2=.returned (Value.agg #[aA n4,aA n5,aA n6,aA n7,aA n8,aA n9,aA n10,.bool c11,.slice p12 HQ wQ])/\∃ GU yI,aB yI/\Ctx W w3 (GU++R1) yI/\∀ (vD:Nat) KJ wF,Ctx W KJ (Own.blk vD [aA 0,aA 0,aA 0,aA 0,aA 0,aA 0,aA 0,.bool false,.slice none 0 0] 271 :: GU++wF) yI->aG KJ vD 0 9/\∀ w20,w20=KJ.setCells vD 0 [aA n4,aA n5,aA n6,aA n7,aA n8,aA n9,aA n10,.bool c11,.slice p12 HQ wQ]->∃ TW uB,aB uB/\Ctx W w20 (TW ++ wF) uB/\Zd W TW uB λw23=>∃ n25,w23.cell? (aJ rB (rO+1))=some (aA n25)/\Br (decide (m3<n25)) (Zd W TW uB λw26=>∃ n28 n29 n30 n31 n32 n33 n34 c35 p36 k37 k38,bM w26 vD 0 [aA n28,aA n29,aA n30,aA n31,aA n32,aA n33,aA n34,.bool c35,.slice p36 k37 k38]/\Zc W TW uB F.fD #[Value.agg #[aA n28,aA n29,aA n30,aA n31,aA n32,aA n33,aA n34,.bool c35,.slice p36 k37 k38]] λe41 q=>∃ c43 n44 n45 n46 p47 k48 k49 p50 ZQ k52,e41=.returned (Value.agg #[.bool c43,aA n44,aA n45,aA n46,.slice p47 k48 k49,.slice p50 ZQ k52])/\q λW5 pE=>Zr W W5 pE J (Value.agg #[.bool c43,aA n44,aA n45,aA n46,.slice p47 k48 k49,.slice p50 ZQ k52])) (Zd W TW uB λw57=>∃ n59,w57.cell? (aJ rB (rO+4))=some (aA n59)/\Br (decide (n59=2)) (Zr W TW uB J (Value.agg #[.bool false,aA 0,aA 0,aA 0,.slice none 0 0,.slice none 0 0])) (∀ w62 R63,Ctx W w62 (TW++R63) uB->aG w62 rB (rO+4) 1/\∀ w64,w64=w62.setCell (aJ rB (rO+4)) (aA 0)->∃ R65 QD,aB QD/\Ctx W w64 (R65++R63) QD/\Zd W R65 QD λw67=>∃ p69 k70 k71,w67.cell? (aJ rB (rO+3))=some (.slice p69 k70 k71)/\∃ (n72:Int),((!decide ((↑k70:Int)<m4))=true->∀ (w73:World),(∃ (k74:Nat),w73=w67.drewN k74)->aD F.cH #[.pointer (aK rB rO),aA m4] w73 λe75 w76=>e75=.returned (aA n72)/\∃ (k77:Nat),w76=w67.drewN k77)/\Br (decide ((↑k70:Int)<m4)||decide (n72≠m5)) (aY (m4 - 1)/\Zd W R65 QD λw78=>∃ p80 k81 k82,w78.cell? (aJ rB (rO+3))=some (.slice p80 k81 k82)/\∀ w83 R84,Ctx W w83 (R65++R84) QD->aG w83 vD 4 1/\∀ w85,w85=w83.setCell (aJ vD 4) (aA (min (↑k81:Int) (m4 - 1)))->∃ R86 aLE,aB aLE/\Ctx W w85 (R86++R84) aLE/\Zd W R86 aLE λw88=>∃ n90 n91 n92 n93 n94 n95 n96 c97 p98 k99 aHv,bM w88 vD 0 [aA n90,aA n91,aA n92,aA n93,aA n94,aA n95,aA n96,.bool c97,.slice p98 k99 aHv]/\Zc W R86 aLE F.fD #[Value.agg #[aA n90,aA n91,aA n92,aA n93,aA n94,aA n95,aA n96,.bool c97,.slice p98 k99 aHv]] λa4O q=>∃ c105 n106 n107 n108 aUg a4E a4L aHw a9J NL,a4O=.returned (Value.agg #[.bool c105,aA n106,aA n107,aA n108,.slice aUg a4E a4L,.slice aHw a9J NL])/\q λFO pT=>Zr W FO pT J (Value.agg #[.bool c105,aA n106,aA n107,aA n108,.slice aUg a4E a4L,.slice aHw a9J NL])) (∀ (b:Nat),zG λ(aPL:Int->Bool->Int->Int->Int->Option Addr->Nat->Nat->Option Addr->Nat->Nat->Bool->Int->Int->Int->Option Addr->Nat->Nat->Option Addr->Nat->Nat->List Own->PW->Nat->Prop)=>(Zs W R65 QD (aPL 0 false 0 0 0 none 0 0 none 0 0 false 0 0 0 none 0 0 none 0 0))/\∀ n125 aUh n127 n128 n129 aUi aHx aUj aUk aHc aUl aLF n137 n138 n139 aPM aPN aD9 aUm aUn aUo QI a1Y aG4,aB a1Y->aPL n125 aUh n127 n128 n129 aUi aHx aUj aUk aHc aUl aLF n137 n138 n139 aPM aPN aD9 aUm aUn aUo QI a1Y aG4->Br (decide (n125<(↑rS:Int))) (Zi n125 rS zH λaHk a6O=>Zd W QI a1Y λaHf=>∃ n153 b0w,bM aHf aHk (a6O+n125.toNat*2) [aA n153,.string b0w]/\∀ (b:Nat),aY (m4+n125)/\aY (m4+n125+1)/\Zd W QI a1Y λaPO=>∃ b0x aPP aLc,aPO.cell? (aJ rB (rO+3))=some (.slice b0x aPP aLc)/\∃ (n160:Int),(decide (m4+n125+1<=(↑aPP:Int))=true->∀ (aUp:World),(∃ (b0y:Nat),aUp=aPO.drewN b0y)->aD F.cH #[.pointer (aK rB rO),aA (m4+n125+1)] aUp λaPQ b0z=>aPQ=.returned (aA n160)/\∃ (aG5:Nat),b0z=aPO.drewN aG5)/\Br (decide (m4+n125+1<=(↑aPP:Int))&&decide (n160=n153)) (aY (n125+1)/\Zb W QI a1Y aG4 (aPL (n125+1) aUh n127 n128 n129 aUi aHx aUj aUk aHc aUl aLF n137 n138 n139 aPM aPN aD9 aUm aUn aUo)) (Zd W QI a1Y λaLG=>∃ n173,aLG.cell? (aJ rB (rO+5))=some (aA n173)/\Br (decide (m4+n125+1<=n173)) (Zr W QI a1Y J (Value.agg #[.bool false,aA 0,aA 0,aA 0,.slice none 0 0,.slice none 0 0])) ((0<=n125/\n125<=(↑rS:Int)/\rS<=zM)/\Zc W QI a1Y F.cP #[.slice (dA zH 2 n125.toNat zM) (rS - n125.toNat) (zM - n125.toNat)] λb0A q=>∃ aPR aPS aDN,b0A=.returned (.slice aPR aPS aDN)/\q λaUq aNZ=>∃ aLH a69,aB a69/\Wk W aUq aNZ aLH a69/\aY (m4+n125+1 - 1)/\∃ (aUr:Option Addr) (b0B aLI:Nat),(Zd W aLH a69 λb0C=>∃ aUs aUt aHy,b0C.cell? (aJ rB (rO+3))=some (.slice aUs aUt aHy)/\Value.slice aUs aUt aHy=Value.slice aUr b0B aLI)/\(0<=m4+n125+1 - 1/\m4+n125+1 - 1<=(↑aLI:Int))/\Zc W aUq aNZ F.cP #[.slice (dA aUr 2 0 aLI) (m4+n125+1 - 1).toNat aLI] λb0D q=>∃ aUu aUv aUw,b0D=.returned (.slice aUu aUv aUw)/\q λaHz a2X=>Wk W aHz a2X aLH a69/\∀ aUx aUy,Ctx W aUx (aHz++aUy) a2X->∃ aUz aUA aDZ aUB,Sem.run prog (builtin Builtin.append #[99,99] 99 #[false,false] #[.slice aUu aUv aUw,.slice aPR aPS aDN]) aUx=.ok (.value (.slice aUz aUA aDZ)) aUB/\∃ ZN CR,aB CR/\Ctx W aUB (ZN++aUy) CR/\Wk W ZN CR aLH a69/\∀ aEa aHA,Ctx W aEa (ZN++aHA) CR->aG aEa rB (rO+3) 1/\∀ aUC,aUC=aEa.setCell (aJ rB (rO+3)) (Value.slice aUz aUA aDZ)->∃ aHB a2Y,aB a2Y/\Ctx W aUC (aHB++aHA) a2Y/\∃ X4 yL,aB yL/\Wk W aHB a2Y X4 yL/\aY (m4+(↑rS:Int))/\∀ aPT aUD,Ctx W aPT (aHB++aUD) a2Y->aG aPT vD 7 1/\∀ aUE,aUE=aPT.setCell (aJ vD 7) (Value.bool true)->∃ aHC a2Z,aB a2Z/\Ctx W aUE (aHC++aUD) a2Z/\Wk W aHC a2Z X4 yL/\∀ aPU aHD,Ctx W aPU (aHC++aHD) a2Z->aG aPU vD 4 1/\∀ aUF,aUF=aPU.setCell (aJ vD 4) (aA (m4+(↑rS:Int)))->∃ a7a MM,aB MM/\Ctx W aUF (a7a++aHD) MM/\Zd W a7a MM λb0E=>∃ n241,b0E.cell? (aJ vD 4)=some (aA n241)/\Zd W a7a MM λb0F=>∃ n244,b0F.cell? (aJ rB (rO+5))=some (aA n244)/\∀ aPV aUG,Ctx W aPV (a7a++aUG) MM->aG aPV rB (rO+5) 1/\∀ aUH,aUH=aPV.setCell (aJ rB (rO+5)) (aA (max n244 (min m6 n241)))->∃ aPW aCw,aB aCw/\Ctx W aUH (aPW++aUG) aCw/\Zd W aPW aCw λb0G=>∃ n252 n253 n254 n255 n256 n257 n258 aHE aUI aUJ aUK,bM b0G vD 0 [aA n252,aA n253,aA n254,aA n255,aA n256,aA n257,aA n258,.bool aHE,.slice aUI aUJ aUK]/\∀ (aUL:Nat) aLn b0H,Ctx W aLn (Own.blk aUL [aA n252,aA n253,aA n254,aA n255,aA n256,aA n257,aA n258,.bool aHE,.slice aUI aUJ aUK] 271 :: aPW++b0H) aCw->J (Value.agg #[.bool aLF,aA n137,aA n138,aA (m4+n125+1),.slice aPR aPS aDN,.slice (aK aUL 0) 1 1]) aLn))) (∃ aUM aHF,aB aHF/\Wk W QI a1Y aUM aHF/\aY (m4+(↑rS:Int))/\∀ aPX aHG,Ctx W aPX (QI++aHG) a1Y->aG aPX vD 7 1/\∀ aUN,aUN=aPX.setCell (aJ vD 7) (Value.bool true)->∃ aPY aCx,aB aCx/\Ctx W aUN (aPY++aHG) aCx/\Wk W aPY aCx aUM aHF/\∀ aPZ aUO,Ctx W aPZ (aPY++aUO) aCx -> aG aPZ vD 4 1/\∀ aUP,aUP=aPZ.setCell (aJ vD 4) (aA (m4+(↑rS:Int)))->∃ aLJ a7b,aB a7b/\Ctx W aUP (aLJ++aUO) a7b/\Zd W aLJ a7b λb0I=>∃ n284,b0I.cell? (aJ vD 4)=some (aA n284)/\Zd W aLJ a7b λb0J=>∃ n287,b0J.cell? (aJ rB (rO+5))=some (aA n287)/\∀ aP0 aUQ,Ctx W aP0 (aLJ++aUQ) a7b->aG aP0 rB (rO+5) 1/\∀ aUR,aUR=aP0.setCell (aJ rB (rO+5)) (aA (max n287 (min m6 n284)))->∃ aP1 aCy,aB aCy/\Ctx W aUR (aP1++aUQ) aCy/\Zd W aP1 aCy λb0K=>∃ n295 n296 n297 n298 n299 n300 n301 aUS aUT aUU aUV,bM b0K vD 0 [aA n295,aA n296,aA n297,aA n298,aA n299,aA n300,aA n301,.bool aUS,.slice aUT aUU aUV]/\∀ (aUW:Nat) aUX b0L,Ctx W aUX (Own.blk aUW [aA n295,aA n296,aA n297,aA n298,aA n299,aA n300,aA n301,.bool aUS,.slice aUT aUU aUV] 271 :: aP1++b0L) aCy->J (Value.agg #[.bool aLF,aA n137,aA n138,aA n139,.slice aPM aPN aD9,.slice (aK aUW 0) 1 1]) aUX))))
theorem xI(rB rO m0 m1 m2 m3 m4 m5 m6 m7 zH rS zM):bG F.iU #[.pointer (aK rB rO),.agg #[.int .i64 m0,.int .i64 m1,.int .i64 m2,.int .i64 m3,.int .i64 m4,.int .i64 m5,.int .i64 m6,.bool m7,.slice zH rS zM]] (CT rB rO m0 m1 m2 m3 m4 m5 m6 m7 zH rS zM):=bJ { keep:=some [0,3,4,5,6,7,8,9,21,28,49,63,64,65,66,89,95],gM:=[3,4,6,8],eP:=[(8,[.bF [0,5,1,6,2,7,3,4,8,9] (some 10)]),(19,[.held [(0,true),(1,true),(5,true),(9,true),(2,true),(6,true),(10,true),(3,true),(4,true),(7,true),(8,false),(11,false)],.bF [12] none,.bF [13] (some 14)]),(21,[.held [(0,true),(2,true),(6,true),(1,true),(3,true),(4,true),(5,true),(7,false)],.bF [8] (some 9)]),(22,[.bF [0,1,5,7,2,6,8,3,9,4,10] none,.bF [11] none,.bF [12] (some 13)])],loops:=[(12,[(65,.one (.int .i64))],[(4,.agg [.bool,.int .i64,.int .i64,.int .i64,.slice,.slice]),(6,.agg [.bool,.int .i64,.int .i64,.int .i64,.slice,.slice])])] } λ_ _ _ _=>by kernel_rfl
def zP(rB rO:Nat)(m0:Int)(m1:Int)(m2:Int)(m3:Int)(m4:Int)(m5:Int)(m6:Int)(m7:Bool)(zH:Option Addr)(rS zM:Nat):aR:=λW R Φ J=>
 ∀ (b b:Nat) w0 R1,Ctx W w0 (R++R1) Φ->∃ n2,w0.cell? (aJ rB (rO+4))=some (aA n2)/\∃ (n3:Int),((!decide (n2≠2))=true->w0.cell? (aJ rB (rO+1))=some (aA n3))/\∃ (p4:Option Addr) (k5 k6:Nat),((!(decide (n2≠2)||decide (m3≠n3))&&m7)=true->w0.cell? (aJ rB (rO+3))=some (.slice p4 k5 k6))/\Br (decide (n2≠2)||decide (m3≠n3)||m7&&decide ((↑k5:Int)<m4)) (Zr W R Φ J (Value.agg #[.bool false,aA 0,aA 0,aA 0,.slice none 0 0,.slice none 0 0])) (Zd W R Φ λw9=>(0<=m1/\m1<3)/\(0<=m1/\m1<3)/\Br (!m7) (Zd W R Φ λNN=>∃ NK,NN.cell? (aJ rB (rO+12+m1.toNat))=some (aA NK)/\Zd W R Φ λLC=>∃ n16,LC.cell? (aJ rB (rO+9+m1.toNat))=some (aA n16)/\aY (m4+1)/\aY (NK+1)/\aY (n16 - 1)/\∀ XW TV,Ctx W XW (R++TV) Φ->aG XW rB (rO+9+m1.toNat) 1/\∀ ZG,ZG=XW.setCell (aJ rB (rO+9+m1.toNat)) (aA (max (NK+1) (min (n16 - 1) (m4+1))))->∃ P7 BL,aB BL/\Ctx W ZG (P7++TV) BL/\Zc W P7 BL F.fK #[.pointer (aK rB rO),aA m1] λe24 q=>∃ n26 n27 n28 n29 n30 n31 n32 c33 p34 k35 k36,e24=.returned (Value.agg #[aA n26,aA n27,aA n28,aA n29,aA n30,aA n31,aA n32,.bool c33,.slice p34 k35 k36])/\q λR37 ZR=>Zc W R37 ZR F.fD #[Value.agg #[aA n26,aA n27,aA n28,aA n29,aA n30,aA n31,aA n32,.bool c33,.slice p34 k35 k36]] λe41 q=>∃ c43 n44 n45 n46 p47 k48 k49 p50 ZQ k52,e41=.returned (Value.agg #[.bool c43,aA n44,aA n45,aA n46,.slice p47 k48 k49,.slice p50 ZQ k52])/\q λW5 pE=>Zr W W5 pE J (Value.agg #[.bool c43,aA n44,aA n45,aA n46,.slice p47 k48 k49,.slice p50 ZQ k52])) (Zd W R Φ λw57=>∃ n59,w57.cell? (aJ rB (rO+12+m1.toNat))=some (aA n59)/\∀ w60 R61,Ctx W w60 (R++R61) Φ->aG w60 rB (rO+12+m1.toNat) 1/\∀ w62,w62=w60.setCell (aJ rB (rO+12+m1.toNat)) (aA (max n59 m4))->∃ R63 HR,aB HR/\Ctx W w62 (R63++R61) HR/\Zd W R63 HR λw65=>∃ n67,w65.cell? (aJ rB (rO+12+m1.toNat))=some (aA n67)/\aY (n67+1)/\∀ w68 R69,Ctx W w68 (R63++R69) HR->aG w68 rB (rO+9+m1.toNat) 1/\∀ w70,w70=w68.setCell (aJ rB (rO+9+m1.toNat)) (aA (n67+1))->∃ R71 a96,aB a96/\Ctx W w70 (R71++R69) a96/\Zc W R71 a96 F.lG #[.pointer (aK rB rO)] λe75 q=>e75=.returned (Value.tuple #[])/\q λR77 a98=>Zd W R77 a98 λw79=>∃ n81,w79.cell? (aJ rB (rO+9+m1.toNat))=some (aA n81)/\∃ p82 k83 k84,w79.cell? (aJ rB (rO+3))=some (.slice p82 k83 k84)/\Br (decide (n81<=(↑k83:Int))) (Zc W R77 a98 F.fK #[.pointer (aK rB rO),aA m1] λe87 q=>∃ n89 n90 n91 n92 n93 n94 n95 c96 p97 k98 k99,e87=.returned (Value.agg #[aA n89,aA n90,aA n91,aA n92,aA n93,aA n94,aA n95,.bool c96,.slice p97 k98 k99])/\q λa1Z HT=>Zc W a1Z HT F.fD #[Value.agg #[aA n89,aA n90,aA n91,aA n92,aA n93,aA n94,aA n95,.bool c96,.slice p97 k98 k99]] λaPc q=>∃ aHj n107 n108 n109 aDY a4L a1Q a4M NL TU,aPc=.returned (Value.agg #[.bool aHj,aA n107,aA n108,aA n109,.slice aDY a4L a1Q,.slice a4M NL TU])/\q λa6U W4=>Zr W a6U W4 J (Value.agg #[.bool aHj,aA n107,aA n108,aA n109,.slice aDY a4L a1Q,.slice a4M NL TU])) (Zr W R77 a98 J (Value.agg #[.bool false,aA 0,aA 0,aA 0,.slice none 0 0,.slice none 0 0]))))
theorem vO(rB rO m0 m1 m2 m3 m4 m5 m6 m7 zH rS zM):bG F.gW #[.pointer (aK rB rO),.agg #[.int .i64 m0,.int .i64 m1,.int .i64 m2,.int .i64 m3,.int .i64 m4,.int .i64 m5,.int .i64 m6,.bool m7,.slice zH rS zM]] (zP rB rO m0 m1 m2 m3 m4 m5 m6 m7 zH rS zM):=bJ { keep:=some [0,3,4,5,6,35,51,96],gM:=[3,4],eP:=[(5,[.bF [0,1,5,9,2,6,10,3,7,11,4,8,12,13,14] (some 15)]),(7,[.bF [0,1,4,2,5,3,6,7] (some 8)])] } λ_ _ _ _=>by kernel_rfl
def BM(rB rO:Nat)(to:Int):aR:=λW R Φ J=>
 ∀ (b:Nat) w0 R1,Ctx W w0 (R++R1) Φ->aD F.eF #[.pointer (aK rB rO),aA 2,aA to] w0 λe2 w3=>∃ n4 n5 n6 n7 n8 n9 n10 c11 p12 HQ wQ,e2=.returned (Value.agg #[aA n4,aA n5,aA n6,aA n7,aA n8,aA n9,aA n10,.bool c11,.slice p12 HQ wQ])/\∃ GU yI,aB yI/\Ctx W w3 (GU++R1) yI/\∀ (b:Nat),(0<=to/\to<3)/\Zd W GU yI λXW=>∃ n19,XW.cell? (aJ rB (rO+9+to.toNat))=some (aA n19)/\aY (n19 - 1)/\∃ P7 BL,aB BL/\Wk W GU yI P7 BL/\∃ (n24:Int),(Zd W P7 BL λQ8=>∃ n27,Q8.cell? (aJ rB (rO+5))=some (aA n27)/\aA n27=aA n24)/\Zc W GU yI F.cH #[.pointer (aK rB rO),aA (n19 - 1)] λe30 q=>∃ n32,e30=.returned (aA n32)/\q λHL mQ=>Wk W HL mQ P7 BL/\Wk W HL mQ P7 BL/\Wk W HL mQ P7 BL/\∃ R41 ZS,aB ZS/\Wk W HL mQ R41 ZS/\aY (n19 - 1+8)/\∃ (p45:Option Addr) (k46 k47:Nat),(Zd W R41 ZS λw48=>∃ p50 ZQ k52,w48.cell? (aJ rB (rO+3))=some (.slice p50 ZQ k52)/\Value.slice p50 ZQ k52=Value.slice p45 k46 k47)/\∃ (p53:Option Addr) (k54 k55:Nat),(Zd W R41 ZS λw56=>∃ p58 k59 k60,w56.cell? (aJ rB (rO+3))=some (.slice p58 k59 k60)/\Value.slice p58 k59 k60=Value.slice p53 k54 k55)/\(0<=n19 - 1/\n19 - 1<=min (↑k54:Int) (n19 - 1+8)/\min (↑k54:Int) (n19 - 1+8)<=(↑k47:Int))/\Zc W HL mQ F.cP #[.slice (dA p45 2 (n19 - 1).toNat k47) ((min (↑k54:Int) (n19 - 1+8)).toNat - (n19 - 1).toNat) (k47 - (n19 - 1).toNat)] λe63 q=>∃ p65 k66 k67,e63=.returned (.slice p65 k66 k67)/\q λR68 EA=>Wk W R68 EA R41 ZS/\Zr W R68 EA J (Value.agg #[aA n4,aA n5,aA n6,aA n7,aA (n19 - 1),aA n32,aA n24,.bool c11,.slice p65 k66 k67])
theorem wR(rB rO to):bG F.fK #[.pointer (aK rB rO),.int .i64 to] (BM rB rO to):=bJ { keep:=some [0,1,4,5],gM:=[4,5],eP:=[(3,[.late [0,2] [0,1,4,2,5,6,7] [(3,[8]),(9,[10]),(11,[])]]),(4,[.held [(0,true),(4,true),(6,true),(11,true),(1,true),(5,true),(7,true),(12,true),(2,true),(8,true),(13,true),(3,true),(9,true),(10,true),(14,true),(15,true),(16,false)],.bF [17] (some 18)])] } λ_ _ _ _=>by kernel_rfl
def yM(sP:Option Addr)(sN sC:Nat)(EB:FuncId)(LD:Array Value):aR:=λW R Φ J=>
 Zc W R Φ F.kH #[.slice sP sN sC,Value.func (Fn.func EB) #[] LD] λe2 q=>∃ n4,e2=.returned (aA n4)/\q λR5 fJ=>Br (decide (n4 = -1)) (Zr W R5 fJ J (.slice sP sN sC)) (aY (n4+1)/\zG λ(I9:Int->Int->List Own->PW->Nat->Prop)=>(Zs W R5 fJ (I9 n4 (n4+1)))/\∀ n15 n16 qH I18 TQ,aB I18->I9 n15 n16 qH I18 TQ->Br (decide (n16<(↑sN:Int))) (Zi n16 sN sP λk20 k21=>Zd W qH I18 λw22=>∃ n24,w22.cell? (aJ k20 (k21+n16.toNat))=some (aA n24)/\∀ Q8 Q9,Ctx W Q8 (qH++Q9) I18->qZ prog EB=true/\Calls prog EB (Array.mk (aA n24 :: LD.toList)) Q8 λe27 w28 => ∃ c29,e27=.returned (.bool c29)/\∃ ZP NP,aB NP/\Ctx W w28 (ZP++Q9) NP/\Br (!c29) (Zi n15 sN sP λk32 k33=>∀ w34 R35,Ctx W w34 (ZP++R35) NP->aG w34 k32 (k33+n15.toNat) 1/\∀ w36,w36=w34.setCell (aJ k32 (k33+n15.toNat)) (aA n24)->∃ R37 ZR,aB ZR/\Ctx W w36 (R37++R35) ZR/\aY (n15+1)/\aY (n16+1)/\Zb W R37 ZR TQ (I9 (n15+1) (n16+1))) (aY (n16+1)/\Zb W ZP NP TQ (I9 n15 (n16+1)))) ((0<=n15/\n15<=(↑sN:Int)/\sN<=sC)/\∀ w49 R50,Ctx W w49 (qH++R50) I18->∃ (w51:World),Sem.run prog (builtin Builtin.clear #[37] 0 #[false] #[.slice (dA sP 1 n15.toNat sC) (sN - n15.toNat) (sC - n15.toNat)]) w49=.ok (.value (Value.tuple #[])) w51/\∃ R52 a1X,aB a1X/\Ctx W w51 (R52++R50) a1X/\(0<=n15/\n15<=(↑sC:Int))/\Zr W R52 a1X J (.slice (dA sP 1 0 sC) n15.toNat sC)))
theorem uD(sP sN sC EB LD):bG F.jG #[.slice sP sN sC,.func (.func EB) #[] LD] (yM sP sN sC EB LD):=bJ { keep:=some [0,1,4,5,6,7,12,19,29],wrap:=[28],loops:=[(5,[(5,.one (.int .i64)),(6,.one (.int .i64))],[])] } λ_ _ _ _=>by kernel_rfl
def zQ(i:Int)(cB cO:Nat):aR:=λW R Φ J=>
 Zd W R Φ λw0=>∃ p2,w0.cell? (aJ cB cO)=some (.pointer p2)/\vJ none p2 λk3 k4=>Zd W R Φ λw5=>∃ n7,w5.cell? (aJ k3 k4)=some (aA n7)/\Zr W R Φ J (.bool (decide (i=n7)))
theorem vP(i cB cO):bG F.kF #[.int .i64 i,.pointer (some (Addr.mk cB cO none))] (zQ i cB cO):=bJ { keep:=some [0,1,3] } λ_ _ _ _=>by kernel_rfl
def X5(m0:Int)(m1:Int)(m2:Int)(m3:Int)(m4:Int)(m5:Int)(m6:Int)(m7:Bool)(zH:Option Addr)(rS zM:Nat):aR:=λW R Φ J=>
 ∀ (b b k0:Nat) w1 R2,Ctx W w1 (Own.blk k0 [aA m0,aA m1,aA m2,aA m3,aA m4,aA m5,aA m6,.bool m7,.slice zH rS zM] 271 :: R++R2) Φ->J (Value.agg #[.bool false,aA 0,aA 0,aA 0,.slice none 0 0,.slice (aK k0 0) 1 1]) w1
theorem LF(m0 m1 m2 m3 m4 m5 m6 m7 zH rS zM):bG F.fD #[.agg #[.int .i64 m0,.int .i64 m1,.int .i64 m2,.int .i64 m3,.int .i64 m4,.int .i64 m5,.int .i64 m6,.bool m7,.slice zH rS zM]] (X5 m0 m1 m2 m3 m4 m5 m6 m7 zH rS zM):=bJ { keep:=some [1,2],gM:=[1,2] } λ_ _ _ _=>by kernel_rfl
def BN(rB rO:Nat):aR:=λW R Φ J=>
 Zc W R Φ F.fY #[.pointer (aK rB rO)] λe2 q=>∃ p4 k5 k6,e2=.returned (.slice p4 k5 k6)/\q λR7 DM=>zG λ(I9:Int->Int->List Own->PW->Nat->Prop)=>(Zs W R7 DM (I9 0 0))/\∀ n15 n16 qH I18 TQ,aB I18->I9 n15 n16 qH I18 TQ->Br (decide (n16<(↑k5:Int))) (Zi n16 k5 p4 λk20 k21=>Zd W qH I18 λw22=>∃ n24,w22.cell? (aJ k20 (k21+n16.toNat))=some (aA n24)/\(0<=n24/\n24<3)/\Zd W qH I18 λQ8=>∃ n27,Q8.cell? (aJ rB (rO+12+n24.toNat))=some (aA n27)/\aY (n16+1)/\Zb W qH I18 TQ (I9 (max n15 n27) (n16+1))) (∀ w33 LB, Ctx W w33 (qH++LB) I18->∃ n35,w33.cell? (aJ rB (rO+5))=some (aA n35)/\∃ (n36:Int),(decide (n35<n15)=true->∀ (w37:World),(∃ (k38:Nat),w37=w33.drewN k38)->aD F.cH #[.pointer (aK rB rO),aA n15] w37 λe39 w40=>e39=.returned (aA n36)/\∃ (k41:Nat),w40=w33.drewN k41)/\∃ (n42:Int),(decide (n35<n15)=true->w33.cell? (aJ rB (rO+1))=some (aA n42))/\Br (decide (n35<n15)&&decide (n36=n42)) (∀ w43 R44,Ctx W w43 (qH++R44) I18->aG w43 rB (rO+5) 1/\∀ w45,w45=w43.setCell (aJ rB (rO+5)) (aA n15)->∃ XV HO,aB HO/\Ctx W w45 (XV++R44) HO/\Zr W XV HO J (Value.tuple #[])) (Zr W qH I18 J (Value.tuple #[])))
theorem wS(rB rO):bG F.lG #[.pointer (aK rB rO)] (BN rB rO):=bJ { keep:=some [0,2,4,6,7,8,9,37],loops:=[(2,[(2,.one (.int .i64)),(8,.one (.int .i64))],[])] } λ_ _ _ _=>by kernel_rfl
def zT(sP:Option Addr)(sN sC:Nat)(fF:FuncId)(fC:Array Value):aR:=λW R Φ J=>
 zG λ(I0:Int->List Own->PW->Nat->Prop)=>(Zs W R Φ (I0 0))/\∀ n6 R7 I8 k9,aB I8->I0 n6 R7 I8 k9->Br (decide (n6<(↑sN:Int))) (Zi n6 sN sP λxG GO=>Zd W R7 I8 λGV=>∃ T9,GV.cell? (aJ xG (GO+n6.toNat))=some (aA T9)/\∀ w15 R16,Ctx W w15 (R7++R16) I8->qZ prog fF=true/\Calls prog fF (Array.mk (aA T9 :: fC.toList)) w15 λe17 KJ=>∃ c19,e17=.returned (.bool c19)/\∃ P7 BL,aB BL/\Ctx W KJ (P7++R16) BL/\Br c19 (Zr W P7 BL J (aA n6)) (aY (n6+1)/\Zb W P7 BL k9 (I0 (n6+1)))) (Zr W R7 I8 J (aA (-1)))
theorem vQ(sP sN sC fF fC):bG F.kH #[.slice sP sN sC,.func (.func fF) #[] fC] (zT sP sN sC fF fC):=bJ { keep:=some [0,1,4,5,7,8,9,16],wrap:=[16],loops:=[(2,[(8,.one (.int .i64))],[])] } λ_ _ _ _=>by kernel_rfl
end Go.Proofs.YtnlkemjhgdbfkaaGreatDoor
end

