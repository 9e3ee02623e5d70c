/-
 THE CONDITIONS OF A WALK OVER WHAT IT OWNS: a function's body.
-/
import Derived.Test.YtfijlibaeahlaaaGreatDoorKb3
import Derived.Test.YtfijlibaeahlaaaGreatDoorRows
open Go.Proofs.Tryz
set_option linter.unusedVariables false
set_option linter.unusedSimpArgs false
section
namespace Go.Vc
variable {G:List Own}
variable {ds:List Deferred}
open Go.RowKit
structure uk where
 /-- slots whose sums may wrap;calls of function values;0: stores of values of any kind -/
 wrap:List Nat:=[]
 /-- slots whose new blocks are known cell by cell -/
 cT:List Nat:=[]
 /-- regions with guards that are walked in the text's order -/
 split:List Nat:=[]
 /-- regions whose calls may draw -/
 BZ:List Nat:=[]
 /-- slots that are read outside the region that writes them -/
 keep:Option (List Nat):=none
 /-- regions whose order is drawn,and that write or call: their stages -/
 dZ:List (Nat × List z8):=[]
 /-- of each loop the slots and the blocks that its rounds write -/
 loops:List (Nat × bS × bS):=[]
 F6:List (Nat × bS × bS):=[]
def aIW(k:Nat):List (Nat × List z8)->Option (List z8)
 | []=>none
 | (t,l) :: r=>match Nat.beq t k with|true=>some l|false=>aIW k r
def Q3(k:Nat):List (Nat × bS × bS)->Option (bS × bS)
 | []=>none
 | (t,l) :: r=>match Nat.beq t k with|true=>some l|false=>Q3 k r
def p5(asg:List Nat)(l:bS)(vs:List Value)(s:Ω):Ω:=⟨s.n,cons l vs (drop s.l)⟩
where
 cons:bS->List Value->List (Nat × aj)->List (Nat × aj)
  | (t,_) :: r,v :: vs,s=>(t,.v v) :: cons r vs s
  | _,_,s=>s
 drop:List (Nat × aj)->List (Nat × aj)
  | []=>[]
  | (t,x) :: r=>match b9 t asg with|true=>drop r|false=>(t,x) :: drop r
def jH(k:Option (List Nat))(s:Ω):Ω:=match k with|none=>s|some k=>⟨s.n,go k s.l⟩
where go (k:List Nat):List (Nat × aj)->List (Nat × aj)
 | []=>[]
 | (t,x) :: r=>match b9 t k with|true=>(t,x) :: go k r|false=>go k r
def Rs(ts:bS)(L:List ρ):Bool:=match ts with
 | []=>true
 | (k,sh) :: r=>match bC k L,sh with|some _,.agg _=>Rs r L|_,_=>false
abbrev a2H(l:bS):Type:=bU (List Own->Y->Nat->Prop) l
abbrev aO1(l:bS):Type:=bU (List Own->Y->Prop) l
def xB(x:Option (List Own->Y->Nat->Prop))(R:List Own)(Φ:Y)(n:Nat):Prop:=match x with|some cr=>cr R Φ n|none=>False
def Wp(x:Option (List Own->Y->Prop))(R:List Own)(Φ:Y):Prop:=match x with|some cr=>cr R Φ|none=>False
def RZ:List Nat->List Nat->Bool
 | [],[]=>true
 | a :: l,b :: m=>Nat.beq a b&&RZ l m
 | _,_=>false
theorem aIG:∀ {l m:List Nat},RZ l m=true->l=m
 | [],[],_=>rfl
 | a :: l,b :: m,h=>by
  simp only [RZ,Bool.and_eq_true] at h;rw [Nat.eq_of_beq_eq_true h.1,aIG h.2]
 | [],_ :: _,h=>by cases h
 | _ :: _,[],h=>by cases h
def AO:bS->List Value->Ω->Ω
 | (t,_) :: r,v :: vs,s=>AO r vs (s.put (some t) (.v v))
 | _,_,s=>s
abbrev a2G(l:bS):Type:=bU (Nat->Prop) l
def Wo(x:Option (Nat->Prop))(k:Nat):Prop:=match x with|some cr=>cr k|none=>False
def aO7(l:bS)(A:a2G l)(xs:Nat->List Value)(N:Nat):Prop:=∀ k,k<N->Wo (bU.app l A (xs k)) k
section
variable (P:Program)(W:World)
def aIb(H:uk)(ops:Array Oper)(st:List z8)(s:Ω)(L:List ρ)(R:List Own)(Φ:Y)(K:Ω->List ρ->List Own->Y->Prop):Prop :=
 pM P W (λt=>b9 t H.wrap) (λt=>b9 t H.cT) ops st s L R Φ λs=>K (jH H.keep s)
def Yu(H:uk)(d:Bool)(ops:Array Oper)(s:Ω)(L:List ρ)(R:List Own)(Φ:Y)(K:Ω->List ρ->List Own->Y->Prop):Prop :=
 ∀ w F,Ctx W w (R++F) Φ->ML P (λt=>b9 t H.wrap) d ops L w ops.toList [] s λs=>K (jH H.keep s) L R Φ
def aHN(H:uk)(id:Nat)(ops:Array Oper)(draw:Bool)(s:Ω)(L:List ρ)(R:List Own)(Φ:Y)(K:Ω->List ρ->List Own->Y->Prop):Prop :=
 match draw with
 | true=>match aIW id H.dZ with
  | some st=>match P.follows .mixedOrders&&Region.noSelect ops&&pI ops st (Array.replicate ops.size false)&&Nat.beq (w8 st) ops.size with
   | true=>aIb P W H ops st s L R Φ K
   | false=>False
  | none=>match R5 P ops with
   | true=>Yu P W H true ops s L R Φ K
   | false=>False
 | false=>match guarded ops.toList && !(b9 id H.split) with
  | true=>Yu P W H (b9 id H.BZ) ops s L R Φ K
  | false=>Lh P W (λt=>b9 t H.wrap) (λt=>b9 t H.cT) ops ops.toList s L R Φ λs=>K (jH H.keep s)
def ke(H:uk):Code->(Exit->Ω->List ρ->List Own->Y->Prop)->Ω->List ρ->List Own->Y->Prop
 | .skip,Q,s,L,R,Φ=>Q .normal s L R Φ
 | .region id ops draw,Q,s,L,R,Φ=>aHN P W H id ops draw s L R Φ (Q .normal)
 | .seq x y,Q,s,L,R,Φ =>
  match Q3 (zO y) H.F6 with
  | none=>ke H x (λe s' L' R' Z=>match e with | .normal=>ke H y Q s' L' R' Z|e=>Q e s' L' R' Z) s L R Φ
  | some (l,ts) =>
   match Gf (asg x) l (s.fr L)&&Rs ts L with
   | true =>
    ∃ J:aO1 (l++ts),ke H x (λe s' L' R' Z=>match e with
      | .normal=>match Qj (asg x) (s.fr L) (s'.fr L')&&pH ts L' L with
       | true=>∃ ν θ,O θ/\(∀ w F,Ctx W w (R'++F) Z->Ctx W w (ν++F) θ)/\Wp (bU.app (l++ts) J (slotsOf l (s'.fr L')++cellsOf ts L')) ν θ
       | false=>False
      | e=>Q e s' L' R' Z) s L R Φ /\
     l.all λvs=>ts.all λus=>∀ R' Z,O Z->Wp (bU.app (l++ts) J (vs++us)) R' Z->ke H y Q (p5 (asg x) l vs s) (gM ts us L) R' Z
   | false=>False
 | .cond c x y,Q,s,L,R,Φ=>match s.val L c with
  | .bool b=>U b (ke H x Q s L R Φ) (ke H y Q s L R Φ)
  | _=>False
 | .block id b,Q,s,L,R,Φ=>ke H b (λe s' L' R' Z=>match e with | .exit n=>(match Nat.beq n id with|true=>Q .normal s' L' R' Z|false=>Q (.exit n) s' L' R' Z)|e=>Q e s' L' R' Z) s L R Φ
 | .loop b,Q,s,L,R,Φ =>
  match Q3 (zO b) H.loops with
  | none=>False
  | some (l,ts) =>
   match Gf (asg b) l (s.fr L)&&Rs ts L with
   | true =>
    ∃ cr:a2H (l++ts),(∃ ν θ n1,O θ/\(∀ w F,Ctx W w (R++F) Φ->Ctx W w (ν++F) θ)/\xB (bU.app (l++ts) cr (slotsOf l (s.fr L)++cellsOf ts L)) ν θ n1) /\
     l.all λvs=>ts.all λus=>∀ R' Z n,O Z->xB (bU.app (l++ts) cr (vs++us)) R' Z n ->
      ke H b (λe s' L' Hj NS=>match e with
       | .normal=>match Qj (asg b) (s.fr L) (s'.fr L')&&pH ts L' L with
        | true=>∃ ν θ n1,O θ/\(∀ w F,Ctx W w (Hj++F) NS->Ctx W w (ν++F) θ)/\xB (bU.app (l++ts) cr (slotsOf l (s'.fr L')++cellsOf ts L')) ν θ n1/\n1<n
        | false=>False
       | e=>Q e s' L' Hj NS) (p5 (asg b) l vs s) (gM ts us L) R' Z
   | false=>False
 | .exit id,Q,s,L,R,Φ=>Q (.exit id) s L R Φ
 | .label _,Q,s,L,R,Φ=>Q .normal s L R Φ
 | .scope b,Q,s,L,R,Φ=>ke H b (λe s' L' R' Z=>match e with | .goto _=>False|e=>Q e s' L' R' Z) s L R Φ
 | .ret,Q,s,L,R,Φ=>Q .ret s L R Φ
 | .rangeFunc g ps x y,Q,s,L,R,Φ =>
  match s.val L g with
  | .func (.func qg) cs lb =>
   match Q3 (zO y) H.loops with
   | none=>False
   | some (l,ts) =>
    match RZ (l.map (·.1)) ps.toList&&qA x&&qA y&&Rs ts L with
    | true=>cs=#[]/\k6 P qg=true/\∃ (N:Nat) (xs:Nat->List Value) (X:World->Prop) (A:a2G l) (cr:a2H ts),Iter P qg lb N (λk=>(xs k).toArray) X/\aO7 l A xs N /\
      (∃ ν θ,O θ/\(∀ w F,Ctx W w (R++F) Φ->Ctx W w (ν++F) θ)/\xB (bU.app ts cr (cellsOf ts L)) ν θ 0) /\
      ts.all λus=>∀ R' Z k,O Z->xB (bU.app ts cr us) R' Z k ->
       (∀ w F,Ctx W w (R'++F) Z->X w) /\
       (k<N->l.all λvs=>Wo (bU.app l A vs) k->ke H x (λe s1 dQ ν θ=>match e with
         | .normal=>ke H y (λe s2 TZ ck b7=>match e with
           | .normal=>match pH ts TZ L with
            | true=>∃ eT fD,O fD/\(∀ w F,Ctx W w (ck++F) b7->Ctx W w (eT++F) fD)/\xB (bU.app ts cr (cellsOf ts TZ)) eT fD (k+1)
            | false=>False
           | _=>False) s1 dQ ν θ
         | _=>False) (AO l vs s) (gM ts us L) R' Z) /\
       (k=N->Q .normal s (gM ts us L) R' Z)
    | false=>False
  | _=>False
 | _,_,_,_,_,_=>False
def mF(s:Ω)(L:List ρ)(R:List Own)(Φ:Y):List ResultVar->(List Value->Prop)->Prop
 | [],K=>K []
 | .tmp t :: r,K=>match cg ((s4 t s.l).val L) with
  | true=>False
  | false=>mF s L R Φ r λvs=>K ((s4 t s.l).val L :: vs)
 | .cell a t :: r,K=>match s4 a s.l with
  | .ptr k off=>loadT P t L k off λv=>mF s L R Φ r λvs=>K (v :: vs)
  | .v (.pointer (some ⟨b,o,none⟩))=>∀ w F,Ctx W w (R++F) Φ->Dg P t w none b o λv=>mF s L R Φ r λvs=>K (v :: vs)
  | .v _=>False
def aQA(fn:Func)(J:Value->World->Prop):Exit->Ω->List ρ->List Own->Y->Prop
 | .normal,s,L,R,Φ | .ret,s,L,R,Φ=>mF P W s L R Φ fn.results.toList λvs=>∀ w F,Ctx W w (R++F) Φ->J (pN vs) w
 | _,_,_,_,_=>False
def zD:Nat->List Value->List (Nat × aj)
 | _,[]=>[]
 | i,v :: r=>(i,.v v) :: zD (i+1) r
def a06(H:uk)(f:FuncId)(args:Array Value)(R:List Own)(Φ:Y)(J:Value->World->Prop):Prop :=
 match P.funcs[f]? with
 | some fn=>match fn.body with
  | some c=>ke P W H c (aQA P W fn J) ⟨max fn.ntmps args.size,zD 0 args.toList⟩ [] R Φ
  | none=>False
 | none=>False
end
theorem aC6(k:Option (List Nat))(s:Ω)(L:List ρ):(jH k s).fr L=(s.fr L).keep k:=by
 cases k with
 | none=>rfl
 | some k =>
  have key:∀ l:List (Nat × aj),hJ L (jH.go k l)=q2 (λt=>b9 t k) (hJ L l):=by
   intro l
   induction l with
   | nil=>rfl
   | cons p r ih =>
    obtain ⟨t,v⟩:=p;simp only [jH.go,hJ,q2];cases b9 t k with
    | true=>simp only [hJ,ih]
    | false=>exact ih
  simp only [jH,Fr.keep,Ω.fr,key]
theorem aWt{k:Option (List Nat)}{s:Ω}{L:List ρ}(h:fX L s):fX L (jH k s):=by
 cases k with
 | none=>exact h
 | some k =>
  have key:∀ l:List (Nat × aj),∀ p∈jH.go k l,p∈l:=by
   intro l
   induction l with
   | nil=>intro p hp;exact hp
   | cons q r ih =>
    obtain ⟨t,v⟩:=q;intro p hp;simp only [jH.go] at hp;cases hb:b9 t k with
    | true=>rw [hb] at hp;rcases List.mem_cons.1 hp with rfl|hp;simp;exact List.mem_cons_of_mem _ (ih p hp)
    | false=>rw [hb] at hp;exact List.mem_cons_of_mem _ (ih p hp)
  exact λp hp=>h p (key _ p hp)
theorem bz.keep{W:World}{s:Ω}{L:List ρ}{R:List Own}{Φ:Y}{a:Act}{w:World}(h:bz ds G W s L R Φ a w)(k:Option (List Nat)):bz ds G W (jH k s) L R Φ a w :=
 ⟨by rw [aC6];exact LI h.di k,aWt h.wf,h.ids,h.ctx,h.st⟩
theorem Qp{asg:List Nat}{l:bS}{vs:List Value}{s:Ω}{L dQ:List ρ}(hwf:fX L s)(hb:∀ k T,bC k L=some T->∃ cu,bC k dQ=some cu/\cu.b=T.b):(p5 asg l vs s).fr dQ=meet asg l vs (s.fr L):=by
 have key:∀ r:List (Nat × aj),(∀ p∈r,∀ k o,p.2=aj.ptr k o->(bC k L).isSome=true)->hJ dQ (p5.drop asg r)=q2 (λt => !b9 t asg) (hJ L r):=by
  intro r
  induction r with
  | nil=>intro _;rfl
  | cons p r ih =>
   obtain ⟨t,v⟩:=p;intro h;have ih:=ih λq hq=>h q (List.mem_cons_of_mem _ hq);simp only [p5.drop,hJ,q2];cases b9 t asg with
   | true=>exact ih
   | false =>
    simp only [hJ,Bool.not_false,ih]
    congr 2
    cases v with
    | v x=>rfl
    | ptr k o =>
     obtain ⟨T,hT⟩:=Option.isSome_iff_exists.1 (h (t,.ptr k o) (by simp) k o rfl);obtain ⟨cu,h1,h2⟩:=hb k T hT;simp only [aj.val,hT,h1,h2]
 have Xr:∀ (l:bS) (vs:List Value) (r:List (Nat × aj)),hJ dQ (p5.cons l vs r)=J2 l vs (hJ dQ r):=by
  intro l
  induction l with
  | nil=>intro vs r;cases vs<;>rfl
  | cons p l ih =>
   obtain ⟨t,sh⟩:=p;intro vs r;cases vs with
   | nil=>rfl
   | cons v vs=>simp only [p5.cons,J2,hJ,ih,aj.val]
 simp only [Ω.fr,p5,meet,AN,Fr.drop,Xr,key s.l hwf]
theorem aCM{asg:List Nat}{l:bS}{vs:List Value}{s:Ω}{L dQ:List ρ}(hwf:fX L s)(hb:∀ k T,bC k L=some T->∃ cu,bC k dQ=some cu/\cu.b=T.b):fX dQ (p5 asg l vs s):=by
 have key:∀ r:List (Nat × aj),∀ p∈p5.drop asg r,p∈r:=by
  intro r
  induction r with
  | nil=>intro p hp;exact hp
  | cons q r ih =>
   obtain ⟨t,v⟩:=q;intro p hp;simp only [p5.drop] at hp;cases hm:b9 t asg with
   | true=>rw [hm] at hp;exact List.mem_cons_of_mem _ (ih p hp)
   | false=>rw [hm] at hp;rcases List.mem_cons.1 hp with rfl|hp;simp;exact List.mem_cons_of_mem _ (ih p hp)
 have Xr:∀ (l:bS) (vs:List Value) (r:List (Nat × aj)),∀ p∈p5.cons l vs r,p∈r\/∃ v,p.2=.v v:=by
  intro l
  induction l with
  | nil=>intro vs r p hp;cases vs<;>exact .inl hp
  | cons q l ih =>
   obtain ⟨t,sh⟩:=q;intro vs r p hp;cases vs with
   | nil=>exact .inl hp
   | cons v vs =>
    rcases List.mem_cons.1 hp with rfl|hp
    .exact .inr ⟨v,rfl⟩
    .exact ih vs r p hp
 intro p hp k o e;rcases Xr _ _ _ p hp with h|⟨v,h⟩
 .obtain ⟨T,hT⟩:=Option.isSome_iff_exists.1 (hwf p (key _ p h) k o e);obtain ⟨cu,h1,_⟩:=hb k T hT;rw [h1];rfl
 .rw [h] at e;cases e
theorem FY{x:Option (List Own->Y->Nat->Prop)}{R:List Own}{Φ:Y}{n:Nat}(h:xB x R Φ n):∃ cr,x=some cr:=by
 cases x with
 | none=>exact h.elim
 | some cr=>exact ⟨cr,rfl⟩
theorem aW7{x:Option (List Own->Y->Prop)}{R:List Own}{Φ:Y}(h:Wp x R Φ):∃ cr,x=some cr:=by
 cases x with
 | none=>exact h.elim
 | some cr=>exact ⟨cr,rfl⟩
theorem all_append{ts:bS}{us:List Value}{τ:Type}{x:τ}:∀ {l:bS} {vs:List Value} (_:vs.length=l.length) {K:List Value->List Value->Prop} (_:l.all λvs=>ts.all λus=>K vs us) {f:bU τ (l++ts)} (_:bU.app (l++ts) f (vs++us)=some x),
  K vs us/\us.length=ts.length/\(∀ v∈vs,cg v=false)/\(∀ u∈us,cg u=false):=by
 intro l
 induction l with
 | nil =>
  intro vs hl K h f hx;cases vs with
  | nil =>
   obtain ⟨h1,h2,h3⟩:=bU.oQ hx h;exact ⟨h1,h2,λv hv=>(by cases hv),h3⟩
  | cons v vs=>simp at hl
 | cons p r ih =>
  intro vs hl K h f hx;obtain ⟨t,s⟩:=p;cases vs with
  | nil=>simp at hl
  | cons v vs =>
   simp only [List.cons_append] at f hx;unfold bU.app at hx;split at hx
   .rename_i g hg;obtain ⟨h1,h2⟩:=gU.oQ hg h;obtain ⟨h3,h4,h5,h6⟩:=ih (vs:=vs) (by simpa using hl) (K:=λvs us=>K (v :: vs) us) h1 hx;refine ⟨h3,h4,λu hu=>?_,h6⟩;rcases List.mem_cons.1 hu with rfl|hu
    .exact h2
    .exact h5 u hu
   .cases hx
theorem Mg(l:bS)(s:Fr):(slotsOf l s).length=l.length:=by simp [slotsOf]
theorem aXF{p:Nat->Prop}(h:∃ n,p n):∃ n,p n/\∀ m,p m->n<=m:=by
 obtain ⟨n,hn⟩:=h
 induction n using Nat.strongRecOn with
 | _ n ih =>
  by_cases hx:∃ m,m<n/\p m
  .obtain ⟨m,h1,h2⟩:=hx;exact ih m h1 h2
  .exact ⟨n,hn,λm hm=>by
    rcases Nat.lt_or_ge m n with h'|h'
    .exact absurd ⟨m,h',hm⟩ hx
    .exact h'⟩
theorem bU.a4j{τ:Type}:∀ {l:bS} {f:bU τ l} {vs:List Value} {x:τ},bU.app l f vs=some x->vs.length=l.length
 | [],_,[],_,_=>rfl
 | (t,s) :: r,f,v :: vs,x,h=>by
  unfold bU.app at h;split at h
  .simp [bU.a4j h]
  .cases h
 | [],_,_ :: _,_,h=>by cases h
 | _ :: _,_,[],_,h=>by cases h
theorem aUq{P:Program}{f:FuncId}(h:k6 P f=true)(args:Array Value)(w:World):(callFunc f args).run P w=.ok (.enter f args) w:=by
 unfold k6 at h;split at h
 .rename_i fn hfn;simp only [Bool.and_eq_true,Bool.not_eq_true'] at h;have hb':fn.body.isNone=false:=by cases hh:fn.body<;>simp_all
  simp only [callFunc,program,Sem.run,hfn,h.2,hb',Bool.false_eq_true,if_false,Sem.run_bind,Sem.run_pure,Result.andThen]
 .cases h
theorem aH6{L:List ρ}:∀ {l:bS} {vs:List Value} {s:Ω} {a:Act},cQ ds (s.fr L) a->fX L s ->
  cQ ds ((AO l vs s).fr L) { tmps:=((l.map (·.1)).zip vs).foldl (λt p=>t.setIfInBounds p.1 p.2) a.tmps,defers:=a.defers }/\fX L (AO l vs s)
 | (t,sh) :: r,v :: vs,s,a,h,hw=>by
  have h2:cQ ds ((s.put (some t) (.v v)).fr L) (a.put (some t) v):=by rw [Jm];exact h.put _ (λ_=>rfl)
  have:=aH6 (l:=r) (vs:=vs) h2 (hw.put λk o e=>(by cases e));simpa [AO,Act.put] using this
 | [],vs,s,a,h,hw=>by
  simp only [AO,List.map_nil,List.zip_nil_left,List.foldl_nil];exact ⟨h,hw⟩
 | _ :: _,[],s,a,h,hw=>by
  simp only [AO,List.zip_nil_right,List.foldl_nil];exact ⟨h,hw⟩
theorem aZm{P:Program}{W:World}{H:uk}:∀ (c:Code) {rd:Option Nat} {Q':Exit->Ω->List ρ->List Own->Y->Prop} {Q:Exit->Act->World->Prop} {s:Ω} {L:List ρ} {R:List Own} {Φ:Y} {a:Act} {w:World} {ds:List Deferred} {G:List Own},
  (rd.isSome=true->qA c=true)->ke P W H c Q' s L R Φ->bz ds G W s L R Φ a w->(∀ e s' L' R' Z a' w' ds' G',Q' e s' L' R' Z->Tie rd ds G ds' G'->bz ds' G' W s' L' R' Z a' w'->Ext L L'->aR (λt=>t∈asg c) (s.fr L) (s'.fr L')->Q e a' w')->c.wpIn (nc rd) 0 P Q a w:=by
 intro c
 induction c with
 | skip=>intro rd Q' Q s L R Φ a w ds G hrd h ha hQ;exact wpIn_skip (hQ _ _ _ _ _ _ _ _ _ h (Tie.refl _ _ _) ha (Ext.refl _) (aR.refl _ _))
 | region id ops draw =>
  intro rd Q' Q s L R Φ a w ds G hrd h ha hQ;have hD:∀ o∈ops.toList,∀ t,o.dst=some t->t∈vI ops.toList:=λo ho t ht=>List.mem_filterMap.2 ⟨o,ho,ht⟩;have a7b:∀ (j:Nat) (o:Oper) (t:Nat),ops[j]? = some o->o.dst=some t->t∈vI ops.toList:=λj o t ho ht=>hD o (by simpa using Array.mem_of_getElem? ho) t ht;have Bv:∀ s' L' R' Z a' w',Q' .normal (jH H.keep s') L' R' Z->bz ds G W s' L' R' Z a' w'->Ext L L'->aR (λt=>t∈vI ops.toList) (s.fr L) (s'.fr L')->Q .normal a' w':=by
   intro s' L' R' Z a' w' hk φ he hu;exact hQ _ _ _ _ _ _ _ _ _ hk (Tie.refl _ _ _) (φ.keep _) he (by rw [aC6];exact LJ hu _)
  have quiet:∀ (d:Bool),(∀ w F,Ctx W w (R++F) Φ->ML P (λt=>b9 t H.wrap) d ops L w ops.toList [] s λs=>Q' .normal (jH H.keep s) L R Φ)->wpQuiet P ops (iS d w) (λa'=>∀ w',iS d w w'->Q .normal a' w') ops.toList a:=by
   intro d h;refine Yt (D:=λt=>t∈vI ops.toList) (s0:=s.fr L) ha.st ha.ids ha.ctx (λs' a' hk hs' hwf' aF w' hw'=>?_) _ _ _ _ hD (λe he=>(by cases he)) (h w _ ha.ctx) (Rel.start ha.di) ha.wf (aR.refl _ _);have fZ:dP G W w' L R Φ:=by
    have:=ha.st;cases d with
    | false=>cases hw';exact ha.ctx
    | true=>obtain ⟨n,rfl⟩:=hw';exact Ctx.draw ha.ctx n
   exact Bv s' L R Φ a' w' hk ⟨hs',hwf',ha.ids,fZ,ha.st⟩ (Ext.refl _) aF
  simp only [ke,aHN,aIb,Yu] at h;cases draw with
  | true =>
   simp only at h;split at h
   .rename_i st _;split at h
    .rename_i hc;simp only [Bool.and_eq_true,Nat.beq_eq] at hc;obtain ⟨⟨⟨h1,h2⟩,h3⟩,h4⟩:=hc;have:=ha.st;refine aHK (λhh=>hrd hh) h1 ?_;have h7:=Db (Q:=A9 Q) (L0:=L) (s0:=s.fr L) (D:=λt=>t∈vI ops.toList) h2 a7b (λs' L' R' Z a' w' hk φ he hu=>Bv s' L' R' Z a' w' hk φ he hu) st _ _ _ _ _ _ (w.drewN 1) h3 h ⟨ha.di,ha.wf,ha.ids,Ctx.draw ha.ctx 1,ha.st⟩ (Ext.refl _) (aR.refl _ _);rw [h4] at h7;exact h7
    .exact h.elim
   .split at h
    .rename_i hc;simp only [R5,Bool.and_eq_true] at hc;have h1:=quiet true h;exact aYR (λhh=>hrd hh) hc.1 hc.2 (by
      have e:iS true w=λw'=>∃ n,w'=w.drewN n:=rfl;rw [e] at h1;exact h1)
    .exact h.elim
  | false =>
   simp only at h;split at h
   .have h1:=quiet (b9 id H.BZ) h;refine aHL (λhh=>hrd hh) ?_;exact NQ (Q:=A9 Q) (C:=iS (b9 id H.BZ) w) (Qa:=λa'=>∀ w',iS (b9 id H.BZ) w w'->Q .normal a' w') (λa' w' hw' hq=>hq w' hw') _ _ _ (by cases b9 id H.BZ;rfl;exact ⟨0,rfl⟩) h1
   .refine aHL (λhh=>hrd hh) ?_;exact YM (Q:=A9 Q) (D:=λt=>t∈vI ops.toList) (s0:=s.fr L) (L0:=L) a7b (λs' L' R' Z a' w' hk φ he hu=>Bv s' L' R' Z a' w' hk φ he hu) _ _ _ _ _ _ _ hD h ha (Ext.refl _) (aR.refl _ _)
 | seq x y u7 u9 =>
  intro rd Q' Q s L R Φ a w ds G hrd h ha hQ;simp only [ke] at h;have FZ:rd.isSome=true->qA x=true/\qA y=true:=λhh=>by have:=hrd hh;simpa only [qA,Bool.and_eq_true] using this
  refine wpIn_seq ?_;split at h
  .refine u7 (λhh=>(FZ hh).1) h ha ?_;intro e s' L' R' Z a' w' lX oH hq htie φ he hu;have aF:aR (λt=>t∈asg (.seq x y)) (s.fr L) (s'.fr L'):=hu.mono λi hi=>List.mem_append.2 (.inl hi);cases e with
   | normal =>
    simp only [Exit.then];refine u9 (λhh=>(FZ hh).2) hq φ λe s'' aOK Hj NS UI w'' tV yQ qj Wx tq he' oo=>hQ _ _ _ _ _ _ _ _ _ qj (htie.trans Wx) tq (he.trans he') ?_;exact aF.trans (oo.mono λi hi=>List.mem_append.2 (.inr hi))
   | exit n=>exact hQ _ _ _ _ _ _ _ _ _ hq htie φ he aF
   | goto n=>exact hQ _ _ _ _ _ _ _ _ _ hq htie φ he aF
   | ret=>exact hQ _ _ _ _ _ _ _ _ _ hq htie φ he aF
   | panic n=>exact hQ _ _ _ _ _ _ _ _ _ hq htie φ he aF
   | outgrown=>exact hQ _ _ _ _ _ _ _ _ _ hq htie φ he aF
  .rename_i l ts hl;split at h
   .rename_i hok;simp only [Bool.and_eq_true] at hok;obtain ⟨hv,hn⟩:=Rw hok.1;obtain ⟨J,h1,h2⟩:=h;refine u7 (λhh=>(FZ hh).1) h1 ha ?_;intro e s' L' R' Z a' w' lX oH hq htie φ he hu;have aF:aR (λt=>t∈asg (.seq x y)) (s.fr L) (s'.fr L'):=hu.mono λi hi=>List.mem_append.2 (.inl hi);cases e with
    | normal =>
     simp only [Exit.then];simp only at hq;split at hq
     .rename_i hsub;simp only [Bool.and_eq_true] at hsub;obtain ⟨ν,θ,ze,hw1,hj⟩:=hq;obtain ⟨cr,hI⟩:=aW7 hj;obtain ⟨h3,_,hk,_⟩:=all_append (Mg l _) h2 hI;have hme:=Y2 ts (cellsOf ts L') L;have hb:∀ k T,bC k L=some T->∃ cu,bC k (gM ts (cellsOf ts L') L)=some cu/\cu.b=T.b:=λk T hT=>by obtain ⟨cu,q1,iL,_⟩:=hme.old k T hT;exact ⟨cu,q1,iL⟩
      have Wu:=Fy (s:=s.fr L) φ.di hu (λi=>LL hsub.1) rfl hk;have Jx:bz lX oH W (p5 (asg x) l (slotsOf l (s'.fr L')) s) (gM ts (cellsOf ts L') L) ν θ a' w' :=
       ⟨by rw [Qp ha.wf hb];exact Wu,aCM ha.wf hb,hme.ids ha.ids,hw1 w' _ (dP.meet φ.st φ.ctx he ha.ids hsub.2),ze⟩
      refine u9 (λhh=>(FZ hh).2) (h3 ν θ ze hj) Jx λe s'' aOK Hj NS UI w'' tV yQ qj Wx tq he' oo=>hQ _ _ _ _ _ _ _ _ _ qj (htie.trans Wx) tq (hme.trans he') ?_;refine aR.trans (b:=(p5 (asg x) l (slotsOf l (s'.fr L')) s).fr (gM ts (cellsOf ts L') L)) ?_ (oo.mono λi hi=>List.mem_append.2 (.inr hi));rw [Qp ha.wf hb];exact Qq (λv nk=>List.mem_append.2 (.inl (hv v nk).1))
     .exact hq.elim
    | exit n=>exact hQ _ _ _ _ _ _ _ _ _ hq htie φ he aF
    | goto n=>exact hQ _ _ _ _ _ _ _ _ _ hq htie φ he aF
    | ret=>exact hQ _ _ _ _ _ _ _ _ _ hq htie φ he aF
    | panic n=>exact hQ _ _ _ _ _ _ _ _ _ hq htie φ he aF
    | outgrown=>exact hQ _ _ _ _ _ _ _ _ _ hq htie φ he aF
   .exact h.elim
 | cond c x y u7 u9 =>
  intro rd Q' Q s L R Φ a w ds G hrd h ha hQ;simp only [ke] at h;split at h
  .rename_i b hb;have hc:a.eval c=.bool b:=by rw [ha.di.eval (by rw [vL,hb];rfl),vL,hb]
   cases b with
   | true=>exact wpIn_cond_true hc (u7 (λhh=>by have:=hrd hh;simp only [qA,Bool.and_eq_true] at this;exact this.1) h ha λe s' L' R' Z a' w' lX oH hq htie φ he hu=>hQ _ _ _ _ _ _ _ _ _ hq htie φ he (hu.mono λi hi=>List.mem_append.2 (.inl hi)))
   | false=>exact wpIn_cond_false hc (u9 (λhh=>by have:=hrd hh;simp only [qA,Bool.and_eq_true] at this;exact this.2) h ha λe s' L' R' Z a' w' lX oH hq htie φ he hu=>hQ _ _ _ _ _ _ _ _ _ hq htie φ he (hu.mono λi hi=>List.mem_append.2 (.inr hi)))
  .exact h.elim
 | block id b ih =>
  intro rd Q' Q s L R Φ a w ds G hrd h ha hQ;simp only [ke] at h;refine wpIn_block (ih (λhh=>hrd hh) h ha ?_);intro e s' L' R' Z a' w' lX oH hq htie φ he hu;cases e with
  | exit n =>
   simp only [Exit.inBlock];simp only at hq;split at hq
   .rename_i e;rw [if_pos (Nat.eq_of_beq_eq_true e)];exact hQ _ _ _ _ _ _ _ _ _ hq htie φ he hu
   .rename_i e;rw [if_neg (Nat.ne_of_beq_eq_false e)];exact hQ _ _ _ _ _ _ _ _ _ hq htie φ he hu
  | normal=>exact hQ _ _ _ _ _ _ _ _ _ hq htie φ he hu
  | goto n=>exact hQ _ _ _ _ _ _ _ _ _ hq htie φ he hu
  | ret=>exact hQ _ _ _ _ _ _ _ _ _ hq htie φ he hu
  | panic n=>exact hQ _ _ _ _ _ _ _ _ _ hq htie φ he hu
  | outgrown=>exact hQ _ _ _ _ _ _ _ _ _ hq htie φ he hu
 | loop b ih =>
  intro rd Q' Q s L R Φ a w ds G hrd h ha hQ;simp only [ke] at h;split at h
  .exact h.elim
  .rename_i l ts hl;split at h
   .rename_i hok;simp only [Bool.and_eq_true] at hok;obtain ⟨hv,hn⟩:=Rw hok.1;obtain ⟨cr,⟨R0,σ,n0,jA,hw0,h0⟩,h1⟩:=h
    let Rel:=λ(n:Nat) (a':Act) (w':World)=>∃ lX oH vs us R' Z,Tie rd ds G lX oH/\vs.length=l.length/\O Z/\xB (bU.app (l++ts) cr (vs++us)) R' Z n/\cQ lX (meet (asg b) l vs (s.fr L)) a'/\dP oH W w' (gM ts us L) R' Z
    have hst:=ha.st;have start:Rel n0 a w:=by
     obtain ⟨I',x6⟩:=FY h0;obtain ⟨_,_,hk,_⟩:=all_append (Mg l _) h1 x6;have hm:=Fy (s:=s.fr L) ha.di (aR.refl _ _) (λi=>aC8) rfl hk (asg:=asg b) (l:=l);refine ⟨_,_,_,_,R0,σ,Tie.refl _ _ _,Mg l _,jA,h0,hm,?_⟩;have Wv:pH ts L L=true:=by
      have key:∀ M:List ρ,(∀ T∈M,T∈L)->pH ts L M=true:=by
       intro M
       induction M with
       | nil=>intro _;rfl
       | cons T r ihr =>
        intro Bs;unfold pH;cases b9 T.id (ts.map (·.1)) with
        | true=>exact ihr λe7 tj=>Bs e7 (List.mem_cons_of_mem _ tj)
        | false =>
         rw [PX ha.ids (Bs T (by simp))];simp only [show Nat.beq T.lM T.lM=true by simp];exact ihr λe7 tj=>Bs e7 (List.mem_cons_of_mem _ tj)
      exact key L λ_ h=>h
     exact dP.meet jA (hw0 w _ ha.ctx) (Ext.refl L) ha.ids Wv
    let least:=λ(a':Act) (w':World) (n:Nat)=>Rel n a' w'/\∀ m,Rel m a' w'->n<=m
    let aCQ:=λ(a':Act) (w':World)=>@dite _ (∃ n,least a' w' n) (Classical.propDecidable _) (λhx=>Classical.choose hx) (λ_=>0)
    have a8M:∀ a' w' n,Rel n a' w'->∃ k,least a' w' k/\aCQ a' w'=k/\k<=n:=by
     intro a' w' n hn;have hx:∃ k,least a' w' k:=aXF ⟨n,hn⟩;refine ⟨Classical.choose hx,Classical.choose_spec hx,?_,(Classical.choose_spec hx).2 n hn⟩;show @dite _ (∃ n,least a' w' n) (Classical.propDecidable _) (λhx=>Classical.choose hx) (λ_=>0)=_;rw [dif_pos hx]
    refine wpIn_loop (λa' w'=>∃ n,Rel n a' w') aCQ ⟨n0,start⟩ ?_;rintro a1 w1 ⟨n1,Wm⟩;obtain ⟨n,⟨⟨lX,oH,vs,us,R',Z,aWQ,hlen,ze,hI,hs1,ey⟩,_⟩,aW0,_⟩:=a8M a1 w1 n1 Wm;rw [aW0];obtain ⟨I',x6⟩:=FY hI;obtain ⟨h2,adD,hk,adC⟩:=all_append hlen h1 x6;have hme:=Y2 ts us L;have hb:∀ k T,bC k L=some T->∃ cu,bC k (gM ts us L)=some cu/\cu.b=T.b:=λk T hT=>by obtain ⟨cu,q1,iL,_⟩:=hme.old k T hT;exact ⟨cu,q1,iL⟩
    have Jx:bz lX oH W (p5 (asg b) l vs s) (gM ts us L) R' Z a1 w1:=⟨by rw [Qp ha.wf hb];exact hs1,aCM ha.wf hb,hme.ids ha.ids,ey,ze⟩;refine ih (λhh=>hrd hh) (h2 R' Z n ze hI) Jx ?_;intro e s' L' Hj NS a' w' tV yQ hq Wy φ he hu;have htie:=aWQ.trans Wy;rw [Qp ha.wf hb] at hu;have aF:aR (λt=>t∈asg b) (s.fr L) (s'.fr L'):=aR.trans (Qq (λv nk=>(hv v nk).1)) hu;have he':Ext L L':=hme.trans he;cases e with
    | normal =>
     simp only [Exit.then];simp only at hq;split at hq
     .rename_i hsub;simp only [Bool.and_eq_true] at hsub;obtain ⟨ck,b7,n2,u6,X0,hj,hlt⟩:=hq;obtain ⟨yT,aVJ⟩:=FY hj;obtain ⟨_,_,hk2,_⟩:=all_append (Mg l _) h1 aVJ;have Wu:=Fy (s:=s.fr L) φ.di aF (λi=>LL hsub.1) rfl hk2;have a8U:Rel n2 a' w':=⟨_,_,_,_,ck,b7,htie,Mg l _,u6,hj,Wu,X0 w' _ (dP.meet φ.st φ.ctx he' ha.ids hsub.2)⟩;obtain ⟨k,_,hmk,hkn⟩:=a8M a' w' n2 a8U;exact ⟨⟨n2,a8U⟩,by rw [hmk];omega⟩
     .exact hq.elim
    | exit n=>exact hQ _ _ _ _ _ _ _ _ _ hq htie φ he' aF
    | goto n=>exact hQ _ _ _ _ _ _ _ _ _ hq htie φ he' aF
    | ret=>exact hQ _ _ _ _ _ _ _ _ _ hq htie φ he' aF
    | panic n=>exact hQ _ _ _ _ _ _ _ _ _ hq htie φ he' aF
    | outgrown=>exact hQ _ _ _ _ _ _ _ _ _ hq htie φ he' aF
   .exact h.elim
 | exit id=>intro rd Q' Q s L R Φ a w ds G hrd h ha hQ;exact wpIn_exit (hQ _ _ _ _ _ _ _ _ _ h (Tie.refl _ _ _) ha (Ext.refl _) (aR.refl _ _))
 | ret=>intro rd Q' Q s L R Φ a w ds G hrd h ha hQ;exact wpIn_ret (hQ _ _ _ _ _ _ _ _ _ h (Tie.refl _ _ _) ha (Ext.refl _) (aR.refl _ _))
 | rangeFunc g ps x y u7 u9 =>
  intro rd Q' Q s L R Φ a w ds G hrd h ha hQ;cases rd with
  | some l=>have:=hrd rfl;cases this
  | none =>
  simp only [ke] at h;split at h
  .rename_i qg cs lb hg;split at h
   .exact h.elim
   .rename_i l ts hl;split at h
    .rename_i hok;simp only [Bool.and_eq_true] at hok;obtain ⟨⟨⟨hps,FZ⟩,aWK⟩,hts⟩:=hok;obtain ⟨hcs,hfn,N,xs,X,A,cr,hit,hfit,⟨R0,σ,jA,hw0,h0⟩,h1⟩:=h;subst hcs;have hge:a.eval g=.func (.func qg) #[] lb:=by rw [ha.di.eval (by rw [vL,hg];rfl),vL,hg]
     have hme:∀ us,Ext L (gM ts us L):=λus=>Y2 ts us L;have hpl:=aIG hps;have hst:=ha.st;have Wv:pH ts L L=true:=by
      have key:∀ M:List ρ,(∀ T∈M,T∈L)->pH ts L M=true:=by
       intro M
       induction M with
       | nil=>intro _;rfl
       | cons T r ihr =>
        intro Bs;unfold pH;cases b9 T.id (ts.map (·.1)) with
        | true=>exact ihr λe7 tj=>Bs e7 (List.mem_cons_of_mem _ tj)
        | false =>
         rw [PX ha.ids (Bs T (by simp))];simp only [show Nat.beq T.lM T.lM=true by simp];exact ihr λe7 tj=>Bs e7 (List.mem_cons_of_mem _ tj)
      exact key L λ_ h=>h
     let Inv:=λ(k:Nat) (qR:List Own) (w1:World)=>∃ us R' Z,O Z/\xB (bU.app ts cr us) R' Z k/\dP qR W w1 (gM ts us L) R' Z
     have fits:∀ k,k<N->∃ HN,bU.app l A (xs k)=some HN:=λk hk=>by
      have:=hfit k hk;unfold Wo at this;split at this
      .rename_i HN e;exact ⟨HN,e⟩
      .exact this.elim
     have len:∀ k,k<N->(xs k).length=l.length:=λk hk=>by
      obtain ⟨HN,e⟩:=fits k hk;exact bU.a4j e
     refine abG (W:=W) (G:=G) hge (aUq hfn) hit (λk hk=>by rw [List.size_toArray,len k hk,<-Array.length_toList,<-hpl,List.length_map]) Inv ?_ ?_ ?_ ?_ ?_
     .rintro k qR w1 ⟨us,R',Z,hs,hi,c⟩;refine ⟨R'++(gM ts us L).map ρ.own,Z,hs,by rw [aq];exact c,λw2 TF c2=>⟨us,R',Z,hs,hi,by rw [aq] at c2;exact c2⟩⟩
     .rintro k qR w1 ⟨us,R',Z,hs,hi,c⟩;obtain ⟨I',x6⟩:=FY hi;exact ((bU.oQ x6 h1).1 R' Z k hs hi).1 _ _ c
     .exact ⟨_,R0,σ,jA,h0,dP.meet jA (hw0 w _ ha.ctx) (Ext.refl L) ha.ids Wv⟩
     .rintro lp k qR w1 hk ⟨us,R',Z,hs,hi,c⟩;obtain ⟨I',x6⟩:=FY hi;obtain ⟨HN,aVG⟩:=fits k hk;have h2:=((bU.oQ x6 h1).1 R' Z k hs hi).2.1 hk;have h3:=(bU.oQ aVG h2).1 (hfit k hk);have Jx:bz [] qR W (AO l (xs k) s) (gM ts us L) R' Z { tmps:=(ps.zip (xs k).toArray).foldl (λt (p,v)=>t.setIfInBounds p v) a.tmps,defers:=[] } w1:=by
       obtain ⟨q1,iL⟩:=aH6 (L:=gM ts us L) (l:=l) (vs:=xs k) (s:=s) (a:={ a with defers:=[] }) ⟨rfl,(by rw [ha.wf.fr (hme us)];exact ha.di.size),λi hi=>(by rw [ha.wf.fr (hme us)] at hi ⊢;exact ha.di.slot i hi)⟩ (ha.wf.ext (hme us));refine ⟨?_,iL,(hme us).ids ha.ids,c,hs⟩;rw [hpl] at q1;rw [<-Array.foldl_toList,Array.toList_zip];exact q1
      refine u7 (rd:=some lp) (λ_=>FZ) h3 Jx ?_;intro e s1 dQ ν θ a1 w2 lX oH hq htie ni K0 _;cases e with
      | normal =>
       obtain ⟨lT,hZ,rfl,rfl⟩:=htie;have hZ:=hZ rfl;subst hZ;refine ⟨ν++dQ.map ρ.own,θ,ni.st,by rw [aq];exact ni.ctx,λw3 Nq c3=>?_⟩;have Jw:bz [] Nq W s1 dQ ν θ a1 w3:=⟨ni.di,ni.wf,ni.ids,by rw [aq] at c3;exact c3,ni.st⟩;refine u9 (rd:=some lp) (λ_=>aWK) hq Jw ?_;intro e s2 TZ ck b7 a2 rG tV yQ js Wy qh mw _;cases e with
       | normal =>
        obtain ⟨lT,hZ,rfl,rfl⟩:=Wy;have hZ:=hZ rfl;subst hZ;simp only at js;split at js
        .rename_i hsub;obtain ⟨eT,fD,C5,ql,hj⟩:=js;exact ⟨rfl,_,eT,fD,C5,hj,ql rG _ (dP.meet qh.st qh.ctx (((hme us).trans K0).trans mw) ha.ids hsub)⟩
        .exact js.elim
       | _=>exact js.elim
      | _=>exact hq.elim
     .rintro D w' ⟨us,R',Z,hs,hi,c⟩;obtain ⟨I',x6⟩:=FY hi;have h2:=((bU.oQ x6 h1).1 R' Z N hs hi).2.2 rfl;refine hQ _ _ _ _ _ _ _ (mark D :: ds) (sG D :: G) h2 ⟨[D],λhh=>(by cases hh),rfl,rfl⟩ ⟨?_,ha.wf.ext (hme us),(hme us).ids ha.ids,c,hs⟩ (hme us) (by rw [ha.wf.fr (hme us)];exact aR.refl _ _);rw [ha.wf.fr (hme us)];exact ⟨by simp [ha.di.defers],ha.di.size,ha.di.slot⟩
    .exact h.elim
  .exact h.elim
 | scope b ih =>
  intro rd Q' Q s L R Φ a w ds G hrd h ha hQ;simp only [ke] at h;refine abF (ih (λhh=>by have:=hrd hh;cases this) h ha ?_);intro e s' L' R' Z a' w' lX oH hq htie φ he hu;cases e with
  | goto n=>exact hq.elim
  | normal=>exact hQ _ _ _ _ _ _ _ _ _ hq htie φ he hu
  | exit n=>exact hQ _ _ _ _ _ _ _ _ _ hq htie φ he hu
  | ret=>exact hQ _ _ _ _ _ _ _ _ _ hq htie φ he hu
  | panic n=>exact hQ _ _ _ _ _ _ _ _ _ hq htie φ he hu
  | outgrown=>exact hQ _ _ _ _ _ _ _ _ _ hq htie φ he hu
 | label l=>intro rd Q' Q s L R Φ a w ds G hrd h ha hQ;exact wpIn_label (hQ _ _ _ _ _ _ _ _ _ h (Tie.refl _ _ _) ha (Ext.refl _) (aR.refl _ _))
 | goto l=>intro rd Q' Q s L R Φ a w ds G hrd h;exact h.elim
 | refuse why=>intro rd Q' Q s L R Φ a w ds G hrd h;exact h.elim
theorem Z0{P:Program}{W:World}{s:Ω}{L:List ρ}{R:List Own}{Φ:Y}{a:Act}{w:World}(ha:bz ds G W s L R Φ a w):∀ {l:List ResultVar} {K:List Value->Prop},mF P W s L R Φ l K ->
  ∃ vs,(l.mapM λr=>(match r with | .tmp t=>pure (a.tmps.getD t undef) | .cell x t=>(do loadVar t (<-asAddr (a.tmps.getD x undef)):Sem Value):Sem Value)).run P w=.ok vs w/\K vs
 | [],K,h=>⟨[],by simp,h⟩
 | .tmp t :: r,K,h=>by
  unfold mF at h;split at h
  .exact h.elim
  .rename_i hu;obtain ⟨vs,h1,h2⟩:=Z0 ha h;refine ⟨_,?_,h2⟩;have e:(s.fr L).get t=(s4 t s.l).val L:=Pe L t s.l;rw [List.mapM_cons];simp only [Sem.run_bind,Sem.run_pure,Result.andThen,h1,ha.di.slot t (by rw [e];exact hu),e]
 | .cell x t :: r,K,h=>by
  unfold mF at h;have e:(s.fr L).get x=(s4 x s.l).val L:=Pe L x s.l;have done:∀ {b o:Nat} {K2:Value->Prop} {v:Value},(s4 x s.l).val L=.pointer (some ⟨b,o,none⟩)->(loadVar t ⟨b,o,none⟩).run P w=.ok v w->(mF P W s L R Φ r λvs=>K (v :: vs)) ->
    ∃ vs,(((ResultVar.cell x t) :: r).mapM λr=>(match r with | .tmp t=>pure (a.tmps.getD t undef) | .cell x t=>(do loadVar t (<-asAddr (a.tmps.getD x undef)):Sem Value):Sem Value)).run P w=.ok vs w/\K vs:=by
   intro b o K2 v hv hl hk;obtain ⟨vs,h3,h4⟩:=Z0 ha hk;refine ⟨_,?_,h4⟩;rw [List.mapM_cons];have hx':a.tmps.getD x undef=.pointer (some ⟨b,o,none⟩):=by rw [ha.di.slot x (by rw [e,hv];rfl),e,hv]
   have u0:(asAddr (a.tmps.getD x undef)).run P w=.ok ⟨b,o,none⟩ w:=by rw [hx'];rfl
   simp only [Sem.run_bind,Sem.run_pure,Result.andThen,u0,hl,h3]
  split at h
  .rename_i k off hx;have hw:=ha.wf;obtain ⟨T,hT⟩:=Option.isSome_iff_exists.1 (fX.ev (x:=.tmp x) hw (show s.ev (.tmp x)=.ptr k off from hx));obtain ⟨v,h1,h2⟩:=X' hT (ha.ctx.blk hT) h;exact done (K2:=λ_=>True) (by rw [hx,ie hT]) (h1 w rfl) h2
  .rename_i b o hx;obtain ⟨v,h1,h2⟩:=Rz (h w _ ha.ctx);exact done (K2:=λ_=>True) (by rw [hx];rfl) (h1 trivial w rfl) h2
  .exact h.elim
theorem a4k(L:List ρ):∀ (l:List Value) (i:Nat),hJ L (zD i l)=BI i l
 | [],_=>rfl
 | v :: r,i=>by simp only [zD,BI,hJ,a4k L r (i+1),aj.val]
theorem aZg{P:Program}{W w:World}{H:uk}{f:FuncId}{args:Array Value}{R:List Own}{Φ:Y}[hst:O Φ]{J:Value->World->Prop}(h:a06 P W H f args R Φ J)(c:Ctx W w R Φ):
  Calls P f args w λe w'=>∃ v,e=.returned v/\J v w':=by
 unfold a06 at h;split at h
 .rename_i fn hf;split at h
  .rename_i code hc;have hwf:fX [] (⟨max fn.ntmps args.size,zD 0 args.toList⟩:Ω):=by
    have key:∀ (l:List Value) (i:Nat),∀ p∈zD i l,∃ v,p.2=aj.v v:=by
     intro l
     induction l with
     | nil=>intro i p hp;cases hp
     | cons v r ih =>
      intro i p hp;rcases List.mem_cons.1 hp with rfl|hp
      .exact ⟨v,rfl⟩
      .exact ih _ p hp
    intro p hp k o e;obtain ⟨v,hv⟩:=key _ _ p hp;rw [hv] at e;cases e
   have hfr:(⟨max fn.ntmps args.size,zD 0 args.toList⟩:Ω).fr []=FK fn args:=by simp only [Ω.fr,FK,a4k]
   have FQ:bz [] [] W (⟨max fn.ntmps args.size,zD 0 args.toList⟩:Ω) [] R Φ { tmps:=args++Array.replicate (fn.ntmps - args.size) undef,defers:=[] } w :=
    ⟨by rw [hfr];exact a7M fn args,hwf,by simp,by simpa [dP] using c,hst⟩
   refine (callsIn_wide (n:=0)).1 (callsIn_of_wp_marks (F:=nc none) hf hc trivial (aZm (rd:=none) code (λhh=>(by cases hh)) h FQ ?_));intro e s L' R' Z a w' ds' G' hq htie ha _ _;obtain ⟨lT,_,rfl,rfl⟩:=htie;have key:(mF P W s L' R' Z fn.results.toList λvs=>∀ w F,Ctx W w (R'++F) Z->J (pN vs) w)->bodyPostM (nc none) 0 P fn (λe w'=>∃ v,e=.returned v/\J v w') .ret a w':=by
    intro hq;show LeavesInM Fence.wide 0 P fn a.tmps _ a.defers .returning w';have:=ha.st;rw [ha.di.defers,List.append_nil];refine aCB (Φ:=Z) lT (R'++L'.map ρ.own) w' (by have:=ha.ctx;rw [List.append_nil] at this;rw [aq];exact this) λw2 aPj c2=>?_;rw [aq] at c2;have qh:bz (lT.map mark++[]) aPj W s L' R' Z a w2:=⟨ha.di,ha.wf,ha.ids,c2,ha.st⟩;obtain ⟨vs,h1,h2⟩:=Z0 qh hq;refine ⟨pN vs,?_,pN vs,rfl,h2 w2 _ c2⟩
    unfold results;rw [Array.mapM_eq_mapM_toList,map_eq_pure_bind,Sem.run_bind,Sem.run_bind];have e:∀ (r:Result (List Value)),r=.ok vs w2->(((r.andThen λa=>(pure a.toArray:Sem (Array Value)).run P).andThen λvs=>(pure (if h:vs.size=1 then vs[0] else Value.tuple vs):Sem Value).run P))=.ok (pN vs) w2:=by
     intro r hr;subst hr;simp only [Result.andThen,Sem.run_pure,aIr]
    exact e _ h1
   cases e with
   | normal=>exact key hq
   | ret=>exact key hq
   | _=>exact hq.elim
  .exact h.elim
 .exact h.elim
end Go.Vc
end

section
namespace Go.Proofs.YtfijlibaeahlaaaGreatDoor
set_option maxRecDepth 100000
open Go.Vc
abbrev F.a6p:Nat:=3
abbrev F.Vo:Nat:=4
abbrev F.Ux:Nat:=5
abbrev F.W1:Nat:=6
abbrev F.Jb:Nat:=7
abbrev F.Uu:Nat:=8
abbrev F.W0:Nat:=9
abbrev F.Ut:Nat:=10
abbrev F.V':Nat:=11
abbrev F.Ur:Nat:=12
abbrev F.Vy:Nat:=13
abbrev F.Us:Nat:=14
abbrev F.Vz:Nat:=15
abbrev F.BQ:Nat:=16
abbrev F.Bj:Nat:=17
abbrev F.oV:Nat:=18
abbrev F.zN:Nat:=19
abbrev F.rz:Nat:=20
abbrev F.BR:Nat:=21
abbrev F.l5:Nat:=22
abbrev F.Bi:Nat:=23
abbrev F.Oq:Nat:=24
abbrev F.eu:Nat:=25
abbrev F.mq:Nat:=26
abbrev F.mu:Nat:=27
abbrev F.dy:Nat:=28
abbrev F.mH:Nat:=29
abbrev F.Vw:Nat:=30
abbrev F.Vx:Nat:=31
abbrev F.ZM:Nat:=32
abbrev F.Ou:Nat:=33
abbrev F.ZW:Nat:=34
abbrev F.Ot:Nat:=35
abbrev F.Iw:Nat:=36
abbrev F.Rh:Nat:=37
abbrev F.V5:Nat:=38
abbrev F.Vu:Nat:=39
abbrev F.aIR:Nat:=40
abbrev F.aIQ:Nat:=41
abbrev F.F7:Nat:=42
abbrev F.ZR:Nat:=43
abbrev F.FF:Nat:=44
abbrev F.PL:Nat:=45
abbrev F.PO:Nat:=46
abbrev F.Gy:Nat:=47
abbrev F.iO:Nat:=48
abbrev F.mK:Nat:=49
abbrev F.Ap:Nat:=50
abbrev F.y7:Nat:=51
abbrev F.sR:Nat:=52
abbrev F.Ov:Nat:=53
abbrev F.JA:Nat:=54
abbrev F.NO:Nat:=55
abbrev F.rB:Nat:=56
abbrev F.ki:Nat:=57
abbrev F.NN:Nat:=58
abbrev F.Ao:Nat:=59
abbrev F.y8:Nat:=60
abbrev F.Oo:Nat:=61
abbrev F.Ml:Nat:=62
abbrev F.J8:Nat:=63
abbrev F.l6:Nat:=64
abbrev F.FD:Nat:=65
abbrev F.Bg:Nat:=66
abbrev F.wz:Nat:=67
abbrev F.PN:Nat:=68
abbrev F.PK:Nat:=69
abbrev F.Uw:Nat:=70
abbrev F.Vv:Nat:=71
abbrev F.Vr:Nat:=72
abbrev F.F5:Nat:=73
abbrev F.cmp_Compare_int:Nat:=74
abbrev F.aIU:Nat:=76
abbrev F.ZN:Nat:=77
abbrev F.Rg:Nat:=78
abbrev F.Gb:Nat:=79
abbrev F.aIT:Nat:=81
abbrev F.ZO:Nat:=82
abbrev F.Jc:Nat:=83
abbrev F.ZX:Nat:=84
abbrev F.BV:Nat:=85
abbrev F.ZV:Nat:=86
abbrev F.FE:Nat:=87
abbrev F.Vt:Nat:=88
abbrev F.Ds:Nat:=89
abbrev F.a0e:Nat:=90
abbrev F.rJ:Nat:=91
abbrev F.SX:Nat:=92
abbrev F.Uo:Nat:=93
abbrev F.Mp:Nat:=94
abbrev F.J9:Nat:=95
abbrev F.aIe:Nat:=96
abbrev F.strconv_Itoa:Nat:=97
abbrev F.a0f:Nat:=98
abbrev F.a01:Nat:=99
abbrev F.Bh:Nat:=100
abbrev F.Vs:Nat:=101
abbrev F.Uv:Nat:=102
abbrev F.PG:Nat:=103
abbrev F.cmp_isNaN_int:Nat:=104
abbrev F.ZS:Nat:=107
abbrev F.Jd:Nat:=108
abbrev F.PM:Nat:=109
abbrev F.ZY:Nat:=110
abbrev F.Zy:Nat:=111
abbrev F.PI:Nat:=112
abbrev F.strings_IndexByte:Nat:=113
abbrev F.strconv_Atoi:Nat:=114
abbrev F.strings_CutPrefix:Nat:=115
abbrev F.Up:Nat:=116
abbrev F.a04:Nat:=117
abbrev F.Zx:Nat:=120
abbrev F.Vp:Nat:=121
abbrev F.PJ:Nat:=122
abbrev F.Ri:Nat:=125
abbrev F.mI:Nat:=126
abbrev F.aIS:Nat:=127
abbrev F.aJ0:Nat:=128
abbrev F.Vq:Nat:=129
abbrev F.ZP:Nat:=134
abbrev F.Uq:Nat:=135
abbrev F.a00:Nat:=136
abbrev F.Rj:Nat:=138
abbrev F.strings_Compare:Nat:=139
abbrev F.ZT:Nat:=147
abbrev F.a03:Nat:=148
abbrev F.Mf:Nat:=153
abbrev F.ZQ:Nat:=158
abbrev F.Mq:Nat:=159
abbrev F.Z':Nat:=160
abbrev F.ZU:Nat:=169
abbrev F.Zz:Nat:=170
abbrev F.a02:Nat:=171
abbrev F.Rv:Nat:=172
abbrev ω(f:FuncId)(a:Array Value)(w:World)(K:c6):Prop:=Calls prog f a w K
abbrev aH(f:FuncId)(a:Array Value)(υ:World->List Own->Y->(Value->World->Prop)->Prop):Prop:=∀ ⦃W w:World⦄ ⦃R:List Own⦄ ⦃Φ:Y⦄ [O Φ] ⦃J:Value->World->Prop⦄,Ctx W w R Φ->υ W R Φ J->Calls prog f a w λe w'=>∃ v,e=.returned v/\J v w'
abbrev hV(l:List Nat):uk:={keep:=some l}
theorem aI{f:FuncId}{a:Array Value}{υ:World->List Own->Y->(Value->World->Prop)->Prop}(H:uk)(h:∀ W R Φ J,a06 prog W H f a R Φ J=υ W R Φ J:=by intros;kernel_rfl):aH f a υ:=λ_ _ _ _ _ _ c g=>aZg (H:=H) (by rw [h];exact g) c
abbrev TE:=World->List Own->Y->(Value->World->Prop)->Prop
abbrev Ξ(b o:Nat):Addr:=⟨b,o,none⟩
abbrev dB(b o:Nat):Option Addr:=some ⟨b,o,none⟩
abbrev I(n:Int):Value:=.int .i64 n
abbrev ε(W:World)(R:List Own)(Φ:List Nat->World->Prop)(f:FuncId)(a:Array Value)(k:Ending->((List Own->(List Nat->World->Prop)->Prop)->Prop)->Prop):Prop:=∀ (w:World) (F:List Own),Ctx W w (R++F) Φ->Calls prog f a w λe w'=>k e λq=>∃ (R':List Own) (Z:List Nat->World->Prop),O Z/\Ctx W w' (R'++F) Z/\q R' Z
theorem cn{P:Program}{f:FuncId}{a:Array Value}{w:World}{K:Ending->World->Prop}(h:Calls P f a w λe w'=>∃ v,e=.returned v/\K (.returned v) w'):Calls P f a w K:=h.mono λe w' ⟨v,he,hj⟩=>by rw [he];exact hj
theorem aMB(jl:Option Addr)(gV me:Nat)(jm:Option Addr)(iB mg:Nat):aH F.V5 #[.slice jl gV me,.slice jm iB mg] λW R Φ J=>
 ∀ (k0:Nat) w1 ck,Ctx W w1 (Own.blk k0 [.slice jl gV me,.slice jm iB mg] 25 :: R++ck) Φ->ω F.ZO #[.slice (dB k0 0) 2 2] w1 λeE rG=>∃ dL bl aG,eE=.returned (.slice dL bl aG)/\∃ bV gQ,O gQ/\Ctx W rG (bV++ck) gQ/\ε W bV gQ F.F7 #[.slice dL bl aG] λwj q=>∃ ia bX bO,wj=.returned (.slice ia bX bO)/\q λhY nM=>η W hY nM J (.slice ia bX bO):=aI (hV [0,1,4])
theorem aMD(cx:Option Addr)(bL dh:Nat):aH F.F7 #[.slice cx bL dh] λW R Φ J=>
 ε W R Φ F.Rg #[.slice cx bL dh] λe2 q=>∃ aC bY bl,e2=.returned (.slice aC bY bl)/\q λaJ ig=>ε W aJ ig F.ZX #[.slice aC bY bl,Value.func (Fn.func 85) #[] #[]] λBa q=>Ba=.returned (Value.tuple #[])/\q λgr jg=>bI λ(EI:Option Addr->Nat->Nat->Option Addr->Nat->Nat->List Own->Y->Nat->Prop)=>(bT W gr jg (EI aC bY bl none 0 0))/\∀ gO cK dU qC fq eH cM um ef,O um->EI gO cK dU qC fq eH cM um ef->U (decide (0<(↑cK:Int))) (((0:Int)<=0/\0<(↑cK:Int))/\gA none gO λfS n5=>π W cM um λqK=>∃ n34 xe fu jY n38,aQ qK fS n5 [I n34,.slice xe fu jY,I n38]/\∀ (b:Nat),bI λ(TQ:Int->Int->Option Addr->Nat->Nat->Int->List Own->Y->Nat->Prop)=>(bT W cM um (TQ 1 n34 xe fu jY n38))/\∀ n45 n46 uS eI gJ gN lS oI gK,O oI->TQ n45 n46 uS eI gJ gN lS oI gK->∃ kK qO,O qO/\κ W lS oI kK qO/\U (decide (n45<(↑cK:Int))) (aa n45 cK gO λxO n8=>∃ (n60:Int) (sJ:Option Addr) (q6 sC:Nat) (n64:Int),(π W kK qO λwE=>∃ LZ aGP sE Cg Cw,aQ wE xO (n8+n45.toNat*3) [I LZ,.slice aGP sE Cg,I Cw]/\Value.agg #[I LZ,.slice aGP sE Cg,I Cw]=Value.agg #[I n60,.slice sJ q6 sC,I n64])/\∀ Ak z1,Ctx W Ak (lS++z1) oI -> ω F.BV #[Value.agg #[I n46,.slice uS eI gJ,I gN],Value.agg #[I n60,.slice sJ q6 sC,I n64]] Ak λVi Gv=>∃ qx,Vi=.returned (I qx)/\∃ z7 wK,O wK/\Ctx W Gv (z7++z1) wK/\U (decide (qx=0)) (aa n45 cK gO λow sF=>π W z7 wK λab7=>∃ aEB,ab7.cell? (Ξ ow (sF+n45.toNat*3+2))=some (I aEB)/\V (n45+1)/\af W z7 wK gK (TQ (n45+1) n46 uS eI gJ (IntKind.i64.wrap (gN+aEB)))) (U (decide (gN≠0)) (∀ qL rX,Ctx W qL (z7++rX) wK->ω F.Gb #[.slice uS eI gJ] qL λPA An=>∃ aGu uK uL,PA=.returned (.slice aGu uK uL)/\∃ II HM,O HM/\Ctx W An (II++rX) HM /\ ∀ (LH:Nat) aKm ER,Ctx W aKm (Own.blk LH [I n46,.slice aGu uK uL,I gN] 113 :: II++ER) HM->∃ aEY zi zj Mu,Sem.run prog (builtin Builtin.append #[25,25] 25 #[false,false] #[.slice qC fq eH,.slice (dB LH 0) 1 1]) aKm=.ok (.value (.slice aEY zi zj)) Mu/\∃ pY H7,O H7/\Ctx W Mu (pY++ER) H7/\(0<=n45/\n45<=(↑cK:Int)/\cK<=dU)/\af W pY H7 ef (EI (aV gO 3 n45.toNat dU) (cK - n45.toNat) (dU - n45.toNat) aEY zi zj)) ((0<=n45/\n45<=(↑cK:Int)/\cK<=dU)/\af W z7 wK ef (EI (aV gO 3 n45.toNat dU) (cK - n45.toNat) (dU - n45.toNat) qC fq eH)))) (U (decide (gN ≠ 0)) (ε W lS oI F.Gb #[.slice uS eI gJ] λaRN q=>∃ aEe QM QN,aRN=.returned (.slice aEe QM QN)/\q λN' Sd=>∀ (zn:Nat) Mx yf,Ctx W Mx (Own.blk zn [I n46,.slice aEe QM QN,I gN] 113 :: N'++yf) Sd->∃ AD uD uE My,Sem.run prog (builtin Builtin.append #[25,25] 25 #[false,false] #[.slice qC fq eH,.slice (dB zn 0) 1 1]) Mx=.ok (.value (.slice AD uD uE)) My/\∃ qS pT,O pT/\Ctx W My (qS++yf) pT/\(0<=n45/\n45<=(↑cK:Int)/\cK<=dU)/\af W qS pT ef (EI (aV gO 3 n45.toNat dU) (cK - n45.toNat) (dU - n45.toNat) AD uD uE)) ((0<=n45/\n45<=(↑cK:Int)/\cK<=dU)/\af W lS oI ef (EI (aV gO 3 n45.toNat dU) (cK - n45.toNat) (dU - n45.toNat) qC fq eH)))) (η W cM um J (.slice qC fq eH)):=aI {hV [0,2,3,4,5,6,13,29,43] with wrap:=[37],cT:=[5],dZ:=[(6,[.held [(0,true),(1,true),(2,true),(3,true),(4,true),(5,true),(6,true),(7,true),(8,true),(9,true)],.aE [] (some 10),.aE [11,12] none]),(7,[.aE [0,2,3,1,4,5,6,7,8] (some 9)])],loops:=[(6,[(6,.one (.int .i64))],[(5,.agg [.int .i64,.slice,.int .i64])]),(4,[(3,.one (.slice)),(4,.one (.slice))],[])] }
theorem aMW(nE:Option Addr)(iy qD:Nat):aH F.Vr #[.slice nE iy qD] λW R Φ J=>
 U (decide ((↑iy:Int)<=12)) (ε W R Φ F.PG #[.slice nE iy qD] λe2 q=>∃ c4,e2=.returned (.bool c4)/\q λai aX=>η W ai aX J (.bool c4)) (η W R Φ J (.bool false)):=aI {hV [0,2] with split:=[1] }
theorem aM9(aIy:Option Addr)(Zw aZd:Nat):aH F.F5 #[.slice aIy Zw aZd] λW R Φ J=>
 bI λ(aY:Int->List Own->Y->Nat->Prop)=>(bT W R Φ (aY 0))/\∀ ο aJ aM bZ,O aM->aY ο aJ aM bZ->U (decide (ο<(↑Zw:Int))) (aa ο Zw aIy λbN dA=>π W aJ aM λcP=>∃ dV,cP.cell? (Ξ bN (dA+ο.toNat))=some (I dV)/\U (decide (dV≠0)) (η W aJ aM J (I dV)) (V (ο+1)/\af W aJ aM bZ (aY (ο+1)))) (η W aJ aM J (I 0)):=aI {hV [0,2,3,5,6,7,8,9,14] with loops:=[(3,[(8,.one (.int .i64))],[])] }
theorem aM8(x:Int)(y:Int):aH F.cmp_Compare_int #[.int .i64 x,.int .i64 y] λW R Φ J=>
 ε W R Φ F.cmp_isNaN_int #[I x] λe2 q=>∃ c4,e2=.returned (.bool c4)/\q λai aX=>ε W ai aX F.cmp_isNaN_int #[I y] λlY q=>∃ Ub,lY=.returned (.bool Ub)/\q λdR eR=>U c4 (U Ub (η W dR eR J (I 0)) (η W dR eR J (I (-1)))) (U Ub (η W dR eR J (I 1)) (U (decide (x<y)) (η W dR eR J (I (-1))) (U (decide (y<x)) (η W dR eR J (I 1)) (η W dR eR J (I 0))))):=aI (hV [0,1,4,5,6,11,12,13,16,19])
theorem aMu(au:Option Addr)(ψ Θ:Nat):aH F.Rg #[.slice au ψ Θ] λW R Φ J=>
 U au.isNone (η W R Φ J (.slice none 0 0)) (∀ (k2:Nat) w3 fW,Ctx W w3 (Own.blk k2 [] 113 :: R++fW) Φ->∃ dL bl aG iN,Sem.run prog (builtin Builtin.append #[25,25] 25 #[false,false] #[.slice (dB k2 0) 0 0,.slice au ψ Θ]) w3=.ok (.value (.slice dL bl aG)) iN/\∃ aT aZ,O aZ/\Ctx W iN (aT++fW) aZ/\η W aT aZ J (.slice dL bl aG)):=aI (hV [0,2,4])
theorem aMy(au:Option Addr)(ψ Θ:Nat):aH F.Gb #[.slice au ψ Θ] λW R Φ J=>
 U au.isNone (η W R Φ J (.slice none 0 0)) (∀ (k2:Nat) w3 fW,Ctx W w3 (Own.blk k2 [] 115 :: R++fW) Φ->∃ dL bl aG iN,Sem.run prog (builtin Builtin.append #[111,111] 111 #[false,false] #[.slice (dB k2 0) 0 0,.slice au ψ Θ]) w3=.ok (.value (.slice dL bl aG)) iN/\∃ aT aZ,O aZ/\Ctx W iN (aT++fW) aZ/\η W aT aZ J (.slice dL bl aG)):=aI (hV [0,2,4])
theorem aN1(ZL:Option Addr)(Me aYu:Nat):aH F.ZO #[.slice ZL Me aYu] λW R Φ J=>
 bI λ(aY:Int->Int->List Own->Y->Nat->Prop)=>(bT W R Φ (aY 0 0))/\∀ ο cH bV bf bN,O bf->aY ο cH bV bf bN->U (decide (cH<(↑Me:Int))) (aa cH Me ZL λdA zm=>π W bV bf λAd=>∃ dX bO dO,Ad.cell? (Ξ dA (zm+cH.toNat))=some (.slice dX bO dO)/\V (ο+(↑bO:Int))/\U (decide (ο+(↑bO:Int)<0)) (π W bV bf λGk=>False) (V (cH+1)/\af W bV bf bN (aY (ο+(↑bO:Int)) (cH+1)))) (ε W bV bf F.ZS #[.slice none 0 0,I ο] λVL q=>∃ o4 fS n5,VL=.returned (.slice o4 fS n5)/\q λiA wH=>bI λ(TO : Option Addr->Nat->Nat->Int->List Own->Y->Nat->Prop)=>(bT W iA wH (TO o4 fS n5 0))/\∀ eo cv cw n43 e6 He vW,O He->TO eo cv cw n43 e6 He vW->U (decide (n43<(↑Me:Int))) (aa n43 Me ZL λgI eI=>π W e6 He λaaX=>∃ MA nw gK,aaX.cell? (Ξ gI (eI+n43.toNat))=some (.slice MA nw gK)/\∀ pR gv,Ctx W pR (e6++gv) He->∃ aG3 gf xO aKL,Sem.run prog (builtin Builtin.append #[25,25] 25 #[false,false] #[.slice eo cv cw,.slice MA nw gK]) pR=.ok (.value (.slice aG3 gf xO)) aKL/\∃ IB HJ,O HJ/\Ctx W aKL (IB++gv) HJ/\V (n43+1)/\af W IB HJ vW (TO aG3 gf xO (n43+1))) (η W e6 He J (.slice eo cv cw))):=aI {hV [0,2,3,5,6,8,9,10,11,12,20,25,26,27,28] with loops:=[(11,[(6,.one (.slice)),(27,.one (.int .i64))],[]),(3,[(3,.one (.int .i64)),(11,.one (.int .i64))],[])] }
theorem aNA(Gz:Option Addr)(yA SZ:Nat)(cI:FuncId)(dG:Array Value):aH F.ZX #[.slice Gz yA SZ,.func (.func cI) #[] dG] λW R Φ J=>
 ε W R Φ F.ZY #[.slice Gz yA SZ,I (↑yA:Int),Value.func (Fn.func cI) #[] dG] λe2 q=>e2=.returned (Value.tuple #[])/\q λfW pU=>η W fW pU J (Value.tuple #[]):=aI (hV [])
theorem aMG(a0:Int)(IP:Option Addr)(IM IL:Nat)(a2:Int)(b0:Int)(Ic:Option Addr)(Ib Ia:Nat)(b2:Int):aH F.BV #[.agg #[.int .i64 a0,.slice IP IM IL,.int .i64 a2],.agg #[.int .i64 b0,.slice Ic Ib Ia,.int .i64 b2]] λW R Φ J=>
 ∀ (b b:Nat),∃ R0 θ,O θ/\κ W R Φ R0 θ/\ε W R Φ F.cmp_Compare_int #[I a0,I b0] λfP q=>∃ cD,fP=.returned (I cD)/\q λaT aZ=>κ W aT aZ R0 θ/\ε W aT aZ F.Zy #[.slice IP IM IL,.slice Ic Ib Ia] λmo q=>∃ n17,mo=.returned (I n17)/\q λct cq=>∀ (ec:Nat) oB oL,Ctx W oB (Own.blk ec [I cD,I n17] 3 :: ct++oL) cq->ω F.F5 #[.slice (dB ec 0) 2 2] oB λBd wC=>∃ n25,Bd=.returned (I n25)/\∃ fU gm,O gm/\Ctx W wC (fU++oL) gm/\η W fU gm J (I n25):=aI {hV [2,3,4] with cT:=[2,3],dZ:=[(1,[.held [(0,true),(2,true),(5,true),(7,true),(1,true),(3,true),(6,true),(8,true),(4,false)],.aE [] (some 9),.aE [] (some 10),.aE [] (some 11),.aE [12] none])] }
theorem aMS(nE:Option Addr)(iy qD:Nat):aH F.PG #[.slice nE iy qD] λW R Φ J=>
 bI λ(aY:Int->List Own->Y->Nat->Prop)=>(bT W R Φ (aY 0))/\∀ ο aJ aM bZ,O aM->aY ο aJ aM bZ->U (decide (ο<(↑iy:Int))) (aa ο iy nE λbN dA=>π W aJ aM λcP=>∃ dV n15 AV,aQ cP bN (dA+ο.toNat*3) [I dV,I n15,.string AV]/\ε W aJ aM F.PJ #[Value.agg #[I dV,I n15,.string AV]] λBc q=>∃ c21,Bc=.returned (.bool c21)/\q λoL ue=>U (!c21) (η W oL ue J (.bool false)) (V (ο+1)/\af W oL ue bZ (aY (ο+1)))) (η W aJ aM J (.bool true)):=aI {hV [0,2,3,7,15] with loops:=[(2,[(3,.one (.int .i64))],[])] }
theorem aMA(x:Int):aH F.cmp_isNaN_int #[.int .i64 x] λW R Φ J=>
 η W R Φ J (.bool (decide (x≠x))):=aI (hV [0,2])
theorem aN5(au:Option Addr)(ψ Θ:Nat)(n:Int):aH F.ZS #[.slice au ψ Θ,.int .i64 n] λW R Φ J=>
 U (decide (n<0)) (π W R Φ λw0=>False) (V ((↑Θ:Int) - (↑ψ:Int))/\V (n - ((↑Θ:Int) - (↑ψ:Int)))/\U (decide (0<n - ((↑Θ:Int) - (↑ψ:Int)))) ((0<=(↑Θ:Int)/\(↑Θ:Int)<=(↑Θ:Int))/\∀ w2 eT,Ctx W w2 (R++eT) Φ->∃ aC bY bl gC,Sem.run prog (builtin Builtin.append #[25,3] 25 #[false,false] #[.slice (aV au 3 0 Θ) (↑Θ:Int).toNat Θ,I (n - ((↑Θ:Int) - (↑ψ:Int)))]) w2=.ok (.value (.slice aC bY bl)) gC/\∃ bV gQ,O gQ/\Ctx W gC (bV++eT) gQ/\(0<=(↑ψ:Int)/\(↑ψ:Int)<=(↑bl:Int))/\η W bV gQ J (.slice (aV aC 3 0 bl) (↑ψ:Int).toNat bl)) (η W R Φ J (.slice au ψ Θ))):=aI (hV [0,1,4,6,16])
theorem aND(cA:Option Addr)(c8 fo:Nat)(n:Int)(cI:FuncId)(dG:Array Value):aH F.ZY #[.slice cA c8 fo,.int .i64 n,.func (.func cI) #[] dG] λW R Φ J=>
 bI λ(aY:Int->Int->List Own->Y->Nat->Prop)=>(bT W R Φ (aY 0 20))/\∀ ο cH bV bf bN,O bf->aY ο cH bV bf bN->U (decide (cH<=n)) (ε W bV bf F.Ri #[.slice cA c8 fo,I ο,I cH,Value.func (Fn.func cI) #[] dG] λwk q=>wk=.returned (Value.tuple #[])/\q λfm rL=>V (cH+20)/\af W fm rL bN (aY cH (cH+20))) (∀ pP eS,Ctx W pP (bV++eS) bf->ω F.Ri #[.slice cA c8 fo,I ο,I n,Value.func (Fn.func cI) #[] dG] pP λjq qJ=>jq=.returned (Value.tuple #[])/\∃ fU gm, O gm/\Ctx W qJ (fU++eS) gm/\bI λ(um:Int->List Own->Y->Nat->Prop)=>(bT W fU gm (um 20))/\∀ n34 pq yV jY,O yV->um n34 pq yV jY->U (decide (n34<n)) (V (2*n34)/\bI λ(TP:Int->Int->List Own->Y->Nat->Prop)=>(bT W pq yV (TP 0 (2*n34)))/\∀ n44 n45 dr Hf eI,O Hf->TP n44 n45 dr Hf eI->U (decide (n45<=n)) (V (n44+n34)/\ε W dr Hf F.mI #[.slice cA c8 fo,I n44,I (n44+n34),I n45,Value.func (Fn.func cI) #[] dG] λwu q=>wu=.returned (Value.tuple #[])/\q λux E8=>V (2*n34)/\V (n45+2*n34)/\af W ux E8 eI (TP n45 (n45+2*n34))) (V (n44+n34)/\U (decide (n44+n34<n)) (ε W dr Hf F.mI #[.slice cA c8 fo,I n44,I (n44+n34),I n,Value.func (Fn.func cI) #[] dG] λVe q=>Ve=.returned (Value.tuple #[])/\q λrV rQ=>V (n34*2)/\af W rV rQ jY (um (n34*2))) (V (n34*2)/\af W dr Hf jY (um (n34*2))))) (η W pq yV J (Value.tuple #[]))):=aI {hV [0,1,2,6,7,8,9,13,30,35,54] with loops:=[(9,[(7,.one (.int .i64)),(8,.one (.int .i64))],[]),(7,[(6,.one (.int .i64))],[]),(2,[(7,.one (.int .i64)),(8,.one (.int .i64))],[])] }
theorem aNK(jl:Option Addr)(gV me:Nat)(jm:Option Addr)(iB mg:Nat):aH F.Zy #[.slice jl gV me,.slice jm iB mg] λW R Φ J=>
 ε W R Φ F.aIS #[.slice jl gV me,Value.slice jm iB mg,Value.func (Fn.func 128) #[] #[]] λe2 q=>∃ cX,e2=.returned (I cX)/\q λai aX=>η W ai aX J (I cX):=aI (hV [0,1,4])
theorem aMX(v0:Int)(v1:Int)(v2:ByteArray):aH F.PJ #[.agg #[.int .i64 v0,.int .i64 v1,.string v2]] λW R Φ J=>
 ∀ (b:Nat),U (decide (v0=0)) (η W R Φ J (.bool (decide (v2=ByteArray.mk #[])))) (U (decide (v0=1)) (π W R Φ λw2=>η W R Φ J (.bool (decide (v1=0)&&decide ((↑v2.size:Int)<=200)))) (π W R Φ λy5=>η W R Φ J (.bool (decide (v0=2)&&(decide (v1=0)||decide (v1=1))&&decide (v2=ByteArray.mk #[]))))):=aI {hV [1,2,5,11] with cT:=[1] }
theorem aNB(cA:Option Addr)(c8 fo:Nat)(a:Int)(b:Int)(cI:FuncId)(dG:Array Value):aH F.Ri #[.slice cA c8 fo,.int .i64 a,.int .i64 b,.func (.func cI) #[] dG] λW R Φ J=>
 V (a+1)/\bI λ(aY:Int->List Own->Y->Nat->Prop)=>(bT W R Φ (aY (a+1)))/\∀ ο aJ aM bZ,O aM->aY ο aJ aM bZ->U (decide (ο<b)) (bI λ(nU:Int->List Own->Y->Nat->Prop)=>(bT W aJ aM (nU ο))/\∀ n16 hY si gH,O si->nU n16 hY si gH->∃ oK HG,O HG/\κ W hY si oK HG/\U (decide (a<n16)) (aa n16 c8 cA λjW fq=>V (n16 - 1)/\∃ (n26:Int) (AG:Option Addr) (kS ef:Nat) (n30:Int),(π W oK HG λlO=>∃ n33 uQ jX fu n37,aQ lO jW (fq+n16.toNat*3) [I n33,.slice uQ jX fu,I n37]/\Value.agg #[I n33,.slice uQ jX fu,I n37]=Value.agg #[I n26,.slice AG kS ef,I n30])/\(0<=n16 - 1/\n16 - 1 < (↑c8:Int))/\gA none cA λiF n6=>∃ (n40:Int) (AJ:Option Addr) (cw n7:Nat) (n44:Int),(π W oK HG λpQ=>∃ xW vq gJ eO n51,aQ pQ iF (n6+(n16 - 1).toNat*3) [I xW,.slice vq gJ eO,I n51]/\Value.agg #[I xW,.slice vq gJ eO,I n51]=Value.agg #[I n40,.slice AJ cw n7,I n44])/\∀ aKF ux,Ctx W aKF (hY++ux) si->k6 prog cI=true/\Calls prog cI (Array.mk (Value.agg #[I n26,.slice AG kS ef,I n30] :: Value.agg #[I n40,.slice AJ cw n7,I n44] :: dG.toList)) aKF λaTA aae=>∃ q9,aTA=.returned (I q9)/\∃ mZ mR,O mR/\Ctx W aae (mZ++ux) mR/\U (decide (q9<0)) (∃ En Aw,O Aw/\κ W mZ mR En Aw/\V (n16 - 1)/\V (n16 - 1)/\(0<=n16/\n16<(↑c8:Int)) /\ gA none cA λsC n9=>(0<=n16 - 1/\n16 - 1<(↑c8:Int))/\gA none cA λja Fk=>π W mZ mR λSN=>∃ n69 aGT A0 ou nB,aQ SN sC (n9+n16.toNat*3) [I n69,.slice aGT A0 ou,I nB]/\π W mZ mR λAl=>∃ qx ME k5 ow aE6,aQ Al ja (Fk+(n16 - 1).toNat*3) [I qx,.slice ME k5 ow,I aE6]/\aa n16 c8 cA λkU kV=>∀ a0Z wR,Ctx W a0Z (mZ++wR) mR->bJ a0Z kU (kV+n16.toNat*3) 3/\∀ Dr,Dr=a0Z.setCells kU (kV+n16.toNat*3) [I qx,.slice ME k5 ow,I aE6]->∃ Et T3,O T3/\Ctx W Dr (Et++wR) T3/\κ W Et T3 En Aw/\(0<=n16 - 1/\n16 - 1<(↑c8:Int))/\gA none cA λLF q8=>∀ An BD,Ctx W An (Et++BD) T3->bJ An LF (q8+(n16 - 1).toNat*3) 3/\∀ NM,NM=An.setCells LF (q8+(n16 - 1).toNat*3) [I n69,.slice aGT A0 ou,I nB]->∃ Eu T5,O T5/\Ctx W NM (Eu++BD) T5/\κ W Eu T5 En Aw/\V (n16 - 1)/\af W Eu T5 gH (nU (n16 - 1))) (V (ο+1)/\af W mZ mR bZ (aY (ο+1)))) (V (ο+1)/\af W hY si bZ (aY (ο+1)))) (η W aJ aM J (Value.tuple #[])):=aI {hV [0,1,2,3,8,9,14,34] with wrap:=[32],dZ:=[(4,[.held [(0,true),(1,true),(2,true),(3,true),(4,true),(5,true),(6,true),(9,true),(10,true),(7,true),(11,true),(8,true),(12,true),(13,true)],.aE [] (some 14),.aE [15,16] none]),(6,[.late [0,1,5,6,7,8,13,9,14] [0,1,2,3,5,6,10,11,4,7,12,8,13,9,14] [(15,[16]),(17,[])]])],loops:=[(4,[(9,.one (.int .i64))],[]),(1,[(8,.one (.int .i64))],[])] }
theorem T9(cA:Option Addr)(c8 fo:Nat)(a:Int)(m:Int)(b:Int)(cI:FuncId)(dG:Array Value):aH F.mI #[.slice cA c8 fo,.int .i64 a,.int .i64 m,.int .i64 b,.func (.func cI) #[] dG] λW R Φ J=>
 V (m - a)/\U (decide (m - a=1)) (bI λ(aY:Int->Int->List Own->Y->Nat->Prop)=>(bT W R Φ (aY m b))/\∀ ο cH bV bf bN,O bf->aY ο cH bV bf bN->U (decide (ο<cH)) (V (ο+cH)/\∃ (fA:Int),(∀ (cP:World),Sem.run prog (binOp BinOp.shr 118 (Value.int IntKind.u64 (IntKind.u64.wrap (ο+cH))) (Value.int IntKind.u64 1)) cP=Result.ok (Value.int IntKind.u64 fA) cP)/\∃ gr jg,O jg/\κ W bV bf gr jg/\(0<=IntKind.i64.wrap fA/\IntKind.i64.wrap fA<(↑c8:Int))/\gA none cA λdO fe=>aa a c8 cA λgH ec=>∃ (n21:Int) (fh:Option Addr) (dU jW:Nat) (n25:Int),(π W gr jg λkD=>∃ n28 o4 fS n5 n32,aQ kD dO (fe+(IntKind.i64.wrap fA).toNat*3) [I n28,.slice o4 fS n5,I n32] /\ Value.agg #[I n28,.slice o4 fS n5,I n32]=Value.agg #[I n21,.slice fh dU jW,I n25])/\∃ (n33:Int) (uQ:Option Addr) (jX fu:Nat) (n37:Int),(π W gr jg λjO=>∃ n40 AJ cw n7 n44,aQ jO gH (ec+a.toNat*3) [I n40,.slice AJ cw n7,I n44]/\Value.agg #[I n40,.slice AJ cw n7,I n44]=Value.agg #[I n33,.slice uQ jX fu,I n37])/\∀ pQ dr,Ctx W pQ (bV++dr) bf->k6 prog cI=true/\Calls prog cI (Array.mk (Value.agg #[I n21,.slice fh dU jW,I n25] :: Value.agg #[I n33,.slice uQ jX fu,I n37] :: dG.toList)) pQ λaSp jf=>∃ n49,aSp=.returned (I n49)/\∃ uw rP,O rP/\Ctx W jf (uw++dr) rP/\U (decide (n49<0)) (V (IntKind.i64.wrap fA+1)/\∃ j4 gP gd, O gP/\κ W uw rP j4 gP/\aY (IntKind.i64.wrap fA+1) cH j4 gP gd/\gd<bN) (af W uw rP bN (aY ο (IntKind.i64.wrap fA)))) (bI λ(TU:Int->List Own->Y->Nat->Prop)=>(bT W bV bf (TU a))/\∀ n68 er B6 A0,O B6->TU n68 er B6 A0->V (ο - 1)/\U (decide (n68<ο - 1)) (∃ oM mS,O mS/\κ W er B6 oM mS/\V (n68+1)/\V (n68+1)/\aa n68 c8 cA λqu jb=>aa (n68+1) c8 cA λk5 ow=>π W er B6 λSR=>∃ Lc aGl uJ Cs A4,aQ SR qu (jb+n68.toNat*3) [I Lc,.slice aGl uJ Cs,I A4]/\π W er B6 λAm=>∃ Le MH q8 nx aEG,aQ Am k5 (ow+(n68+1).toNat*3) [I Le,.slice MH q8 nx,I aEG]/\aa n68 c8 cA λuK uL=>∀ a0b IJ,Ctx W a0b (er++IJ) B6->bJ a0b uK (uL+n68.toNat*3) 3/\∀ y6,y6=a0b.setCells uK (uL+n68.toNat*3) [I Le,.slice MH q8 nx,I aEG]->∃ qW yC,O yC/\Ctx W y6 (qW++IJ) yC/\κ W qW yC oM mS/\aa (n68+1) c8 cA λzj KU=>∀ a0H yb,Ctx W a0H (qW++yb) yC->bJ a0H zj (KU+(n68+1).toNat*3) 3/\∀ Di,Di=a0H.setCells zj (KU+(n68+1).toNat*3) [I Lc,.slice aGl uJ Cs,I A4]->∃ ET Sb,O Sb/\Ctx W Di (ET++yb) Sb/\κ W ET Sb oM mS/\V (n68+1)/\af W ET Sb A0 (TU (n68+1))) (η W er B6 J (Value.tuple #[])))) (V (b - m)/\U (decide (b - m=1)) (bI λ(yS:Int->Int->List Own->Y->Nat->Prop)=>(bT W R Φ (yS a m))/\∀ n125 n126 rT sg xJ,O sg->yS n125 n126 rT sg xJ->U (decide (n125<n126)) (V (n125+n126)/\∃ (n130:Int),(∀ (aJG:World),Sem.run prog (binOp BinOp.shr 118 (Value.int IntKind.u64 (IntKind.u64.wrap (n125+n126))) (Value.int IntKind.u64 1)) aJG=Result.ok (Value.int IntKind.u64 n130) aJG)/\∃ EV Dv,O Dv/\κ W rT sg EV Dv/\aa m c8 cA λsA ot=>(0<=IntKind.i64.wrap n130/\IntKind.i64.wrap n130<(↑c8:Int))/\gA none cA λCC QS=>∃ (n140:Int) (aEn:Option Addr) (Kc a9C:Nat) (n144:Int),(π W EV Dv λS2=>∃ n147 aEq Ke ju n151,aQ S2 sA (ot+m.toNat*3) [I n147,.slice aEq Ke ju,I n151]/\Value.agg #[I n147,.slice aEq Ke ju,I n151]=Value.agg #[I n140,.slice aEn Kc a9C,I n144])/\∃ (n152:Int) (Lp:Option Addr) (jw zu:Nat) (n156:Int),(π W EV Dv λN1=>∃ n159 Lq Kf Kg n163,aQ N1 CC (QS+(IntKind.i64.wrap n130).toNat*3) [I n159,.slice Lq Kf Kg,I n163]/\Value.agg #[I n159,.slice Lq Kf Kg,I n163]=Value.agg #[I n152,.slice Lp jw zu,I n156])/\∀ Af sy,Ctx W Af (rT++sy) sg->k6 prog cI=true/\Calls prog cI (Array.mk (Value.agg #[I n140,.slice aEn Kc a9C,I n144] :: Value.agg #[I n152, .slice Lp jw zu,I n156] :: dG.toList)) Af λJG N2=>∃ n168,JG=.returned (I n168)/\∃ Tg Sj,O Sj/\Ctx W N2 (Tg++sy) Sj/\U (!decide (n168<0)) (V (IntKind.i64.wrap n130+1)/\af W Tg Sj xJ (yS (IntKind.i64.wrap n130+1) n126)) (af W Tg Sj xJ (yS n125 (IntKind.i64.wrap n130)))) (bI λ(TJ:Int->List Own->Y->Nat->Prop)=>(bT W rT sg (TJ m))/\∀ n187 Eb B2 a9H,O B2->TJ n187 Eb B2 a9H->U (decide (n125<n187)) (∃ yo HF,O HF/\κ W Eb B2 yo HF/\V (n187 - 1)/\V (n187 - 1)/\aa n187 c8 cA λxM XF=>(0<=n187 - 1 /\ n187 - 1<(↑c8:Int))/\gA none cA λQX vT=>π W Eb B2 λaa0=>∃ n201 Lw Km Kn n205,aQ aa0 xM (XF+n187.toNat*3) [I n201,.slice Lw Km Kn,I n205]/\π W Eb B2 λSA=>∃ n208 aF5 a9N a9O n212,aQ SA QX (vT+(n187 - 1).toNat*3) [I n208,.slice aF5 a9N a9O,I n212]/\aa n187 c8 cA λKo zx=>∀ a0M O4,Ctx W a0M (Eb++O4) B2->bJ a0M Ko (zx+n187.toNat*3) 3/\∀ aJW,aJW=a0M.setCells Ko (zx+n187.toNat*3) [I n208,.slice aF5 a9N a9O,I n212]->∃ Tj Sm,O Sm/\Ctx W aJW (Tj++O4) Sm/\κ W Tj Sm yo HF/\(0<=n187 - 1/\n187 - 1<(↑c8:Int))/\gA none cA λCI a9R=>∀ N4 wO,Ctx W N4 (Tj ++ wO) Sm->bJ N4 CI (a9R+(n187 - 1).toNat*3) 3/\∀ aJZ,aJZ=N4.setCells CI (a9R+(n187 - 1).toNat*3) [I n201,.slice Lw Km Kn,I n205]->∃ Eh As,O As/\Ctx W aJZ (Eh++wO) As/\κ W Eh As yo HF/\V (n187 - 1)/\af W Eh As a9H (TJ (n187 - 1))) (η W Eb B2 J (Value.tuple #[])))) (V (a+b)/\∃ (n238:Int),(∀ (N5:World),Sem.run prog (binOp BinOp.shr 118 (Value.int IntKind.u64 (IntKind.u64.wrap (a+b))) (Value.int IntKind.u64 1)) N5=Result.ok (Value.int IntKind.u64 n238) N5)/\V (IntKind.i64.wrap n238+m)/\U (decide (IntKind.i64.wrap n238<m)) (V (IntKind.i64.wrap n238+m - b)/\V (IntKind.i64.wrap n238+m - 1)/\bI λ(Nr:Int->Int->List Own->Y -> Nat->Prop)=>(bT W R Φ (Nr (IntKind.i64.wrap n238+m - b) (IntKind.i64.wrap n238)))/\∀ n246 n247 qU sn xN,O sn->Nr n246 n247 qU sn xN->U (decide (n246<n247)) (V (n246+n247)/\∃ (n251:Int),(∀ (Dm:World),Sem.run prog (binOp BinOp.shr 118 (Value.int IntKind.u64 (IntKind.u64.wrap (n246+n247))) (Value.int IntKind.u64 1)) Dm=Result.ok (Value.int IntKind.u64 n251) Dm)/\∃ Tl Sn,O Sn/\κ W qU sn Tl Sn/\V (IntKind.i64.wrap n238+m - 1 - IntKind.i64.wrap n251)/\(0<=IntKind.i64.wrap n251/\IntKind.i64.wrap n251<(↑c8:Int))/\gA none cA λaWo CJ=>(0<=IntKind.i64.wrap n238+m - 1 - IntKind.i64.wrap n251/\IntKind.i64.wrap n238+m - 1 - IntKind.i64.wrap n251<(↑c8:Int))/\gA none cA λCK aWp=>∃ (n261:Int) (aFH:Option Addr) (a9f a9g:Nat) (n265:Int),(π W Tl Sn λaa9=>∃ n268 aFI a9h a9i n272,aQ aa9 aWo (CJ+(IntKind.i64.wrap n251).toNat*3) [I n268,.slice aFI a9h a9i,I n272]/\Value.agg #[I n268,.slice aFI a9h a9i,I n272]=Value.agg #[I n261,.slice aFH a9f a9g,I n265])/\∃ (n273:Int) (aFJ:Option Addr) (a9j a9k:Nat) (n277:Int),(π W Tl Sn λaaD=>∃ n280 aFL a9n a9o n284,aQ aaD CK (aWp+(IntKind.i64.wrap n238+m - 1 - IntKind.i64.wrap n251).toNat*3) [I n280,.slice aFL a9n a9o,I n284]/\Value.agg #[I n280,.slice aFL a9n a9o,I n284]=Value.agg #[I n273,.slice aFJ a9j a9k,I n277])/\∀ Ag yx,Ctx W Ag (qU++yx) sn->k6 prog cI=true/\Calls prog cI (Array.mk (Value.agg #[I n273,.slice aFJ a9j a9k,I n277] :: Value.agg #[I n261,.slice aFH a9f a9g,I n265] :: dG.toList)) Ag λBe N6=>∃ n289,Be=.returned (I n289)/\∃ pn nN,O nN/\Ctx W N6 (pn++yx) nN/\U (!decide (n289<0)) (V (IntKind.i64.wrap n251+1)/\af W pn nN xN (Nr (IntKind.i64.wrap n251+1) n247)) (af W pn nN xN (Nr n246 (IntKind.i64.wrap n251)))) (V (IntKind.i64.wrap n238+m - n246)/\π W qU sn λadi=>U (decide (n246<m)&&decide (m<IntKind.i64.wrap n238+m - n246)) (ε W qU sn F.Rj #[.slice cA c8 fo,I n246,I m,I (IntKind.i64.wrap n238+m - n246),Value.func (Fn.func cI) #[] dG] λaSE q=>aSE=.returned (Value.tuple #[])/\q λtD rM=>π W tD rM λadj=>U (decide (a<n246)&&decide (n246<IntKind.i64.wrap n238)) (ε W tD rM F.mI #[.slice cA c8 fo,I a,I n246,I (IntKind.i64.wrap n238),Value.func (Fn.func cI) #[] dG] λaSH q=>aSH=.returned (Value.tuple #[])/\q λI8 NZ=>π W I8 NZ λa0P=>U (decide (IntKind.i64.wrap n238<IntKind.i64.wrap n238+m - n246)&&decide (IntKind.i64.wrap n238+m - n246<b)) (ε W I8 NZ F.mI #[.slice cA c8 fo,I (IntKind.i64.wrap n238),I (IntKind.i64.wrap n238+m - n246),I b,Value.func (Fn.func cI) #[] dG] λaSJ q=>aSJ=.returned (Value.tuple #[])/\q λaOk abg=>η W aOk abg J (Value.tuple #[])) (η W I8 NZ J (Value.tuple #[]))) (π W tD rM λadk=>U (decide (IntKind.i64.wrap n238<IntKind.i64.wrap n238+m - n246)&&decide (IntKind.i64.wrap n238+m - n246<b)) (ε W tD rM F.mI #[.slice cA c8 fo,I (IntKind.i64.wrap n238),I (IntKind.i64.wrap n238+m - n246),I b,Value.func (Fn.func cI) #[] dG] λVQ q=>VQ=.returned (Value.tuple #[])/\q λaOn abk=>η W aOn abk J (Value.tuple #[])) (η W tD rM J (Value.tuple #[])))) (π W qU sn λadl=>U (decide (a<n246)&&decide (n246<IntKind.i64.wrap n238)) (∀ aJt a3O,Ctx W aJt (qU++a3O) sn->ω F.mI #[.slice cA c8 fo,I a,I n246,I (IntKind.i64.wrap n238),Value.func (Fn.func cI) #[] dG] aJt λaSP aaI=>aSP=.returned (Value.tuple #[])/\∃ OB Na,O Na/\Ctx W aaI (OB++a3O) Na /\ π W OB Na λadm=>U (decide (IntKind.i64.wrap n238<IntKind.i64.wrap n238+m - n246)&&decide (IntKind.i64.wrap n238+m - n246<b)) (ε W OB Na F.mI #[.slice cA c8 fo,I (IntKind.i64.wrap n238),I (IntKind.i64.wrap n238+m - n246),I b,Value.func (Fn.func cI) #[] dG] λaSR q=>aSR=.returned (Value.tuple #[])/\q λaOp abm=>η W aOp abm J (Value.tuple #[])) (η W OB Na J (Value.tuple #[]))) (π W qU sn λadn=>U (decide (IntKind.i64.wrap n238<IntKind.i64.wrap n238+m - n246)&&decide (IntKind.i64.wrap n238+m - n246<b)) (ε W qU sn F.mI #[.slice cA c8 fo,I (IntKind.i64.wrap n238),I (IntKind.i64.wrap n238+m - n246),I b,Value.func (Fn.func cI) #[] dG] λaSU q=>aSU=.returned (Value.tuple #[])/\q λaOr abo=>η W aOr abo J (Value.tuple #[])) (η W qU sn J (Value.tuple #[])))))) (V (IntKind.i64.wrap n238+m - 1)/\bI λ(Nt:Int->Int->List Own->Y->Nat->Prop)=>(bT W R Φ (Nt a m))/\∀ gh LP ur sr XN,O sr->Nt gh LP ur sr XN->U (decide (gh<LP)) (V (gh+LP)/\∃ (uM:Int),(∀ (aJy:World),Sem.run prog (binOp BinOp.shr 118 (Value.int IntKind.u64 (IntKind.u64.wrap (gh+LP))) (Value.int IntKind.u64 1)) aJy=Result.ok (Value.int IntKind.u64 uM) aJy)/\∃ Tp St,O St/\κ W ur sr Tp St/\V (IntKind.i64.wrap n238+m - 1 - IntKind.i64.wrap uM)/\(0<=IntKind.i64.wrap uM/\IntKind.i64.wrap uM<(↑c8:Int))/\gA none cA λKz L1=>(0<=IntKind.i64.wrap n238+m - 1 - IntKind.i64.wrap uM/\IntKind.i64.wrap n238+m - 1 - IntKind.i64.wrap uM<(↑c8:Int))/\gA none cA λCV Qb=>∃ (aCb:Int) (aFk:Option Addr) (aAU aAV:Nat) (aCc:Int),(π W Tp St λaaP=>∃ LQ aFl aAW zz aCd,aQ aaP Kz (L1+(IntKind.i64.wrap uM).toNat*3) [I LQ,.slice aFl aAW zz,I aCd]/\Value.agg #[I LQ,.slice aFl aAW zz,I aCd]=Value.agg #[I aCb,.slice aFk aAU aAV,I aCc])/\∃ (aCe:Int) (aFm:Option Addr) (aAX aAY:Nat) (LR:Int),(π W Tp St λaaR=>∃ aCj aFo L2 aAa aCk,aQ aaR CV (Qb+(IntKind.i64.wrap n238+m - 1 - IntKind.i64.wrap uM).toNat*3) [I aCj,.slice aFo L2 aAa,I aCk]/\Value.agg #[I aCj,.slice aFo L2 aAa,I aCk]=Value.agg #[I aCe,.slice aFm aAX aAY,I LR])/\∀ N9 I9,Ctx W N9 (ur++I9) sr->k6 prog cI=true/\Calls prog cI (Array.mk (Value.agg #[I aCe,.slice aFm aAX aAY,I LR] :: Value.agg #[I aCb,.slice aFk aAU aAV,I aCc] :: dG.toList)) N9 λVX aaS=>∃ Cu,VX=.returned (I Cu)/\∃ Ej E3,O E3/\Ctx W aaS (Ej++I9) E3/\U (!decide (Cu < 0)) (V (IntKind.i64.wrap uM+1)/\af W Ej E3 XN (Nt (IntKind.i64.wrap uM+1) LP)) (af W Ej E3 XN (Nt gh (IntKind.i64.wrap uM)))) (V (IntKind.i64.wrap n238+m - gh)/\π W ur sr λado=>U (decide (gh<m)&&decide (m<IntKind.i64.wrap n238+m - gh)) (ε W ur sr F.Rj #[.slice cA c8 fo,I gh,I m,I (IntKind.i64.wrap n238+m - gh),Value.func (Fn.func cI) #[] dG] λVY q=>VY=.returned (Value.tuple #[])/\q λBA E4=>π W BA E4 λadp=>U (decide (a<gh)&&decide (gh<IntKind.i64.wrap n238)) (ε W BA E4 F.mI #[.slice cA c8 fo,I a,I gh,I (IntKind.i64.wrap n238),Value.func (Fn.func cI) #[] dG] λaSj q=>aSj=.returned (Value.tuple #[])/\q λEk E5=>π W Ek E5 λadq=>U (decide (IntKind.i64.wrap n238<IntKind.i64.wrap n238+m - gh)&&decide (IntKind.i64.wrap n238+m - gh<b)) (ε W Ek E5 F.mI #[.slice cA c8 fo,I (IntKind.i64.wrap n238),I (IntKind.i64.wrap n238+m - gh),I b,Value.func (Fn.func cI) #[] dG] λaSl q=>aSl=.returned (Value.tuple #[])/\q λaOw abt=>η W aOw abt J (Value.tuple #[])) (η W Ek E5 J (Value.tuple #[]))) (π W BA E4 λadr=>U (decide (IntKind.i64.wrap n238<IntKind.i64.wrap n238+m - gh)&&decide (IntKind.i64.wrap n238+m - gh<b)) (ε W BA E4 F.mI #[.slice cA c8 fo,I (IntKind.i64.wrap n238),I (IntKind.i64.wrap n238+m - gh),I b,Value.func (Fn.func cI) #[] dG] λaSo q=>aSo=.returned (Value.tuple #[])/\q λaOy abv=>η W aOy abv J (Value.tuple #[])) (η W BA E4 J (Value.tuple #[])))) (π W ur sr λads=>U (decide (a<gh)&&decide (gh<IntKind.i64.wrap n238)) (ε W ur sr F.mI #[.slice cA c8 fo,I a,I gh,I (IntKind.i64.wrap n238),Value.func (Fn.func cI) #[] dG] λaSt q=>aSt=.returned (Value.tuple #[])/\q λuv wJ=>π W uv wJ λadt=>U (decide (IntKind.i64.wrap n238<IntKind.i64.wrap n238+m - gh)&&decide (IntKind.i64.wrap n238+m - gh<b)) (ε W uv wJ F.mI #[.slice cA c8 fo,I (IntKind.i64.wrap n238),I (IntKind.i64.wrap n238+m - gh),I b,Value.func (Fn.func cI) #[] dG] λaSv q=>aSv=.returned (Value.tuple #[])/\q λTv a1V=>η W Tv a1V J (Value.tuple #[])) (η W uv wJ J (Value.tuple #[]))) (π W ur sr λadu=>U (decide (IntKind.i64.wrap n238<IntKind.i64.wrap n238+m - gh)&&decide (IntKind.i64.wrap n238+m - gh<b)) (∀ aKE a3o,Ctx W aKE (ur++a3o) sr->ω F.mI #[.slice cA c8 fo,I (IntKind.i64.wrap n238),I (IntKind.i64.wrap n238+m - gh),I b,Value.func (Fn.func cI) #[] dG] aKE λaT0 aaa=>aT0 = .returned (Value.tuple #[])/\∃ a3p a1X,O a1X/\Ctx W aaa (a3p++a3o) a1X/\η W a3p a1X J (Value.tuple #[])) (η W ur sr J (Value.tuple #[])))))))):=aI {hV [0,1,2,3,4,10,11,12,13,14,15,16,17,18,19,20,21,22,23,24,28,33,50,58,80,85,103,110,140,151,171,185,199,213] with wrap:=[49,101,169],dZ:=[(5,[.held [(0,true),(1,true),(2,true),(5,true),(6,true),(3,true),(7,true),(4,true),(8,true)],.aE [] (some 9),.aE [10] none]),(11,[.late [0,1,5,6,7,8,13,9,14] [0,1,2,3,5,6,10,11,4,7,12,8,13,9,14] [(15,[16]),(17,[])]]),(17,[.held [(0,true),(1,true),(2,true),(5,true),(6,true),(3,true),(7,true),(4,true),(8,true)],.aE [] (some 9),.aE [10,11] none]),(23,[.late [0,1,5,6,7,8,13,9,14] [0,1,2,3,5,6,10,11,4,7,12,8,13,9,14] [(15,[16]),(17,[])]]),(35,[.held [(0,true),(1,true),(2,true),(3,true),(7,true),(8,true),(4,true),(9,true),(5,true),(10,true),(6,true)],.aE [] (some 11),.aE [12,13] none])],loops:=[(33,[(20,.one (.int .i64)),(21,.one (.int .i64))],[]),(21,[(17,.one (.int .i64))],[]),(15,[(14,.one (.int .i64)),(15,.one (.int .i64))],[]),(9,[(13,.one (.int .i64))],[]),(3,[(10,.one (.int .i64)),(11,.one (.int .i64))],[])] }
theorem aN0(aHe:Option Addr)(RW aYi:Nat)(aHk:Option Addr)(RX aYj:Nat)(cI:FuncId)(dG:Array Value):aH F.aIS #[.slice aHe RW aYi,.slice aHk RX aYj,.func (.func cI) #[] dG] λW R Φ J=>
 bI λ(aY:Int->List Own->Y->Nat->Prop)=>(bT W R Φ (aY 0))/\∀ ο aJ aM bZ,O aM->aY ο aJ aM bZ->U (decide (ο<(↑RW:Int))) (aa ο RW aHe λbN dA=>π W aJ aM λcP=>∃ dV n15 AV,aQ cP bN (dA+ο.toNat*3) [I dV,I n15,.string AV]/\∀ (b:Nat),U (decide ((↑RX:Int)<=ο)) (η W aJ aM J (I 1)) (aa ο RX aHk λgH ec=>π W aJ aM λoB=>∃ n23 n24 aHi,aQ oB gH (ec+ο.toNat*3) [I n23,I n24,.string aHi]/\∀ (b:Nat) kD cM,Ctx W kD (aJ++cM) aM->k6 prog cI=true/\Calls prog cI (Array.mk (Value.agg #[I dV,I n15,.string AV] :: Value.agg #[I n23, I n24,.string aHi] :: dG.toList)) kD λaS8 Ah=>∃ n30,aS8=.returned (I n30)/\∃ eU qN,O qN/\Ctx W Ah (eU++cM) qN/\U (decide (n30≠0)) (η W eU qN J (I n30)) (V (ο+1)/\af W eU qN bZ (aY (ο+1))))) (U (decide ((↑RW:Int)<(↑RX:Int))) (η W aJ aM J (I (-1))) (η W aJ aM J (I 0))):=aI {hV [0,1,2,6,7,8,9,10,11,12,13,14,21,31,38] with wrap:=[29],cT:=[8,9],loops:=[(2,[(13,.one (.int .i64))],[])] }
theorem aNL(a0:Int)(a1:Int)(a2:ByteArray)(b0:Int)(b1:Int)(b2:ByteArray):aH F.aJ0 #[.agg #[.int .i64 a0,.int .i64 a1,.string a2],.agg #[.int .i64 b0,.int .i64 b1,.string b2]] λW R Φ J=>
 ∀ (b b:Nat),∃ R0 θ,O θ/\κ W R Φ R0 θ/\ε W R Φ F.cmp_Compare_int #[I a0,I b0] λfP q=>∃ cD,fP=.returned (I cD)/\q λaT aZ=>κ W aT aZ R0 θ/\ε W aT aZ F.cmp_Compare_int #[I a1,I b1] λmo q=>∃ n17,mo=.returned (I n17)/\q λct cq=>κ W ct cq R0 θ/\ε W ct cq F.strings_Compare #[.string a2,.string b2] λjq q=>∃ n26,jq=.returned (I n26)/\q λcM dj=>∀ (ef:Nat) lN eU,Ctx W lN (Own.blk ef [I cD,I n17,I n26] 3 :: cM++eU) dj->ω F.F5 #[.slice (dB ef 0) 3 3] lN λVP jN=>∃ n34,VP=.returned (I n34)/\∃ pq Nb,O Nb/\Ctx W jN (pq++eU) Nb/\η W pq Nb J (I n34):=aI {hV [2,3,4] with cT:=[2,3],dZ:=[(1,[.held [(0,true),(2,true),(5,true),(7,true),(10,true),(12,true),(1,true),(3,true),(6,true),(8,true),(11,true),(13,true),(4,false),(9,false)],.aE [] (some 14),.aE [] (some 15),.aE [] (some 16),.aE [17] none])] }
theorem aNC(cA:Option Addr)(c8 fo:Nat)(a:Int)(m:Int)(b:Int)(cI:FuncId)(dG:Array Value):aH F.Rj #[.slice cA c8 fo,.int .i64 a,.int .i64 m,.int .i64 b,.func (.func cI) #[] dG] λW R Φ J=>
 V (m - a)/\V (b - m)/\bI λ(aY:Int->Int->List Own->Y->Nat->Prop)=>(bT W R Φ (aY (m - a) (b - m)))/\∀ ο cH bV bf bN,O bf->aY ο cH bV bf bN->U (decide (ο≠cH)) (U (decide (cH<ο)) (V (m - ο)/\ε W bV bf F.Mf #[.slice cA c8 fo,I (m - ο),I m,I cH,Value.func (Fn.func cI) #[] dG] λwk q=>wk=.returned (Value.tuple #[])/\q λfm rL=>V (ο - cH)/\af W fm rL bN (aY (ο - cH) cH)) (V (m - ο)/\V (m+cH)/\V (m+cH - ο)/\ε W bV bf F.Mf #[.slice cA c8 fo, I (m - ο),I (m+cH - ο),I ο,Value.func (Fn.func cI) #[] dG] λjq q=>jq=.returned (Value.tuple #[])/\q λfU gm=>V (cH - ο)/\af W fU gm bN (aY ο (cH - ο)))) (V (m - ο)/\ε W bV bf F.Mf #[.slice cA c8 fo,I (m - ο),I m,I ο,Value.func (Fn.func cI) #[] dG] λwo q=>wo=.returned (Value.tuple #[])/\q λlQ mQ=>η W lQ mQ J (Value.tuple #[])):=aI {hV [0,2,3,4,10,11,20,23] with loops:=[(2,[(10,.one (.int .i64)),(11,.one (.int .i64))],[])] }
theorem aNE(cA:Option Addr)(c8 fo:Nat)(a:Int)(b:Int)(n:Int)(cI:FuncId)(dG:Array Value):aH F.Mf #[.slice cA c8 fo,.int .i64 a,.int .i64 b,.int .i64 n,.func (.func cI) #[] dG] λW R Φ J=>
 bI λ(aY:Int->List Own->Y->Nat->Prop)=>(bT W R Φ (aY 0))/\∀ ο aJ aM bZ,O aM->aY ο aJ aM bZ->U (decide (ο<n)) (∃ pW rK,O rK/\κ W aJ aM pW rK/\V (a+ο)/\V (b+ο)/\V (b+ο)/\V (a+ο)/\aa (b+ο) c8 cA λiE bX=>aa (a+ο) c8 cA λbO dO=>π W aJ aM λGk=>∃ n20 gO cK dU n24,aQ Gk iE (bX+(b+ο).toNat*3) [I n20,.slice gO cK dU,I n24]/\π W aJ aM λqJ=>∃ n27 lD ef fS n31,aQ qJ bO (dO+(a+ο).toNat*3) [I n27,.slice lD ef fS,I n31]/\aa (a+ο) c8 cA λgb iX=>∀ uY pq,Ctx W uY (aJ++pq) aM->bJ uY gb (iX+(a+ο).toNat*3) 3/\∀ (nI : World),nI=uY.setCells gb (iX+(a+ο).toNat*3) [I n20,.slice gO cK dU,I n24]->∃ lQ mQ,O mQ/\Ctx W nI (lQ++pq) mQ/\κ W lQ mQ pW rK/\aa (b+ο) c8 cA λcv cw=>∀ kg e6,Ctx W kg (lQ++e6) mQ->bJ kg cv (cw+(b+ο).toNat*3) 3/\∀ pQ,pQ=kg.setCells cv (cw+(b+ο).toNat*3) [I n27,.slice lD ef fS,I n31]->∃ dr ep,O ep/\Ctx W pQ (dr++e6) ep/\κ W dr ep pW rK/\V (ο+1)/\af W dr ep bZ (aY (ο+1))) (η W aJ aM J (Value.tuple #[])):=aI {hV [0,1,2,3,10,13] with dZ:=[(3,[.late [0,1,2,8,9,10,3,11,12,13,19,20] [0,1,2,4,5,6,8,9,10,14,15,16,3,7,11,17,12,18,13,19,20] [(21,[22]),(23,[])]])],loops:=[(1,[(10,.one (.int .i64))],[])] }
end Go.Proofs.YtfijlibaeahlaaaGreatDoor
end

section
namespace Go.Proofs.YtfijlibaeahlaaaGreatDoor
set_option maxRecDepth 100000
open Go.Vc
theorem aNY(s:ByteArray):aH F.Gy #[.string s] λW R Φ J=>
 ∀ (k0:Nat) w1 ck,Ctx W w1 (Own.blk k0 [.string s,.bool false] 133 :: R++ck) Φ->J (aA k0 0) w1:=aI (hV [0,2])
theorem aNa(bA bB:Nat):aH F.iO #[aA bA bB] λW R Φ J=>
 ε W R Φ F.Ds #[aA bA bB,.int IntKind.u8 59,I (-9223372036854775808)] λe2 q=>∃ cX,e2=.returned (I cX)/\q λai aX=>η W ai aX J (I cX):=aI (hV [0,2])
theorem aNd(bA bB:Nat):aH F.mK #[aA bA bB] λW R Φ J=>
 ε W R Φ F.a0e #[aA bA bB,Value.func (Fn.func 48) #[aA bA bB] #[]] λe2 q=>∃ aC bY bl,e2=.returned (.slice aC bY bl)/\q λaJ ig=>η W aJ ig J (.slice aC bY bl):=aI (hV [0,2])
theorem aNc(bA bB:Nat):aH F.Ap #[aA bA bB] λW R Φ J=>
 ε W R Φ F.Ds #[aA bA bB,.int IntKind.u8 59,I 0] λe2 q=>∃ cX,e2=.returned (I cX)/\q λai aX=>η W ai aX J (I cX):=aI (hV [0,2])
theorem aNb(bA bB:Nat):aH F.y7 #[aA bA bB] λW R Φ J=>
 π W R Φ λw0=>∃ s2,w0.cell? (Ξ bA bB)=some (.string s2)/\η W R Φ J (I (↑s2.size:Int)):=aI (hV [0,2])
theorem aNe(bA bB:Nat):aH F.sR #[aA bA bB] λW R Φ J=>
 ε W R Φ F.Ds #[aA bA bB,.int IntKind.u8 58,I 0] λe2 q=>∃ cX,e2=.returned (I cX)/\q λai aX=>π W ai aX λgC=>∃ r8,gC.cell? (Ξ bA bB)=some (.string r8)/\U (decide ((↑r8.size:Int)<cX)) (ε W ai aX F.rJ #[aA bA bB] λwj q=>wj=.returned (Value.tuple #[])/\q λiq iP=>η W iq iP J (.string (ByteArray.mk #[]))) (π W ai aX λGk=>∃ Z8,Gk.cell? (Ξ bA bB)=some (.string Z8)/\(0<=cX/\cX<=(↑Z8.size:Int))/\π W ai aX λoB=>∃ GV,oB.cell? (Ξ bA bB)=some (.string GV)/\(0<=cX/\cX<=(↑GV.size:Int)/\GV.size<=GV.size)/\∀ wC I2,Ctx W wC (ai++I2) aX->bJ wC bA bB 1/\∀ kD,kD=wC.setCell (Ξ bA bB) (Value.string (GV.extract cX.toNat GV.size))->∃ cM dj,O dj/\Ctx W kD (cM++I2) dj/\ε W cM dj F.SX #[aA bA bB,Value.string (ByteArray.mk #[OfNat.ofNat 44])] λaSF q=>aSF=.returned (Value.tuple #[])/\q λwP wI=>π W wP wI λy2=>∃ c37,y2.cell? (Ξ bA (bB+1))=some (.bool c37)/\U c37 (η W wP wI J (.string (ByteArray.mk #[]))) (η W wP wI J (.string (Z8.extract 0 cX.toNat)))):=aI (hV [0,2,3,4,13,36])
theorem aNZ(bA bB:Nat):aH F.NO #[aA bA bB] λW R Φ J=>
 π W R Φ λw0=>∃ c2,w0.cell? (Ξ bA (bB+1))=some (.bool c2)/\∃ (fN:ByteArray),((!c2)=true->w0.cell? (Ξ bA bB)=some (.string fN))/\η W R Φ J (.bool (!c2&&decide (fN=ByteArray.mk #[]))):=aI (hV [0,2])
theorem aNF(Ie Ig:Nat)(s:ByteArray):aH F.rB #[aA Ie Ig,.string s] λW R Φ J=>
 ε W R Φ F.aIe #[aA Ie Ig] λe2 q=>e2=.returned (Value.tuple #[])/\q λfW pU=>π W fW pU λy5=>∃ RC bZ bN,y5.cell? (Ξ Ie (Ig+1))=some (.slice RC bZ bN)/\∀ nH dR,Ctx W nH (fW++dR) pU->∃ k7 iE bX pO,Sem.run prog (builtin Builtin.append #[95,9] 95 #[false,false] #[.slice RC bZ bN,.string s]) nH=.ok (.value (.slice k7 iE bX)) pO/\∃ hY nM,O nM/\Ctx W pO (hY++dR) nM/\∀ rE oK,Ctx W rE (hY++oK) nM->bJ rE Ie (Ig+1) 1/\∀ oB,oB=rE.setCell (Ξ Ie (Ig+1)) (Value.slice k7 iE bX)->∃ oL ue,O ue/\Ctx W oB (oL++oK) ue/\η W oL ue J (Value.tuple #[I (↑s.size:Int),Value.nilIface]):=aI (hV [0,1,4,5])
theorem aNV(n:Int):aH F.ki #[.int .i64 n] λW R Φ J=>
 ε W R Φ F.strconv_Itoa #[I n] λe2 q=>∃ eC,e2=.returned (.string eC)/\q λai aX=>(eC.size+(ByteArray.mk #[OfNat.ofNat 59]).size).le 9223372036854775807/\η W ai aX J (.string (eC++ByteArray.mk #[OfNat.ofNat 59])):=aI (hV [0,2])
theorem aNX(cx:Option Addr)(bL dh:Nat):aH F.NN #[.slice cx bL dh] λW R Φ J=>
 ε W R Φ F.a0f #[.slice cx bL dh,Value.func (Fn.func 57) #[] #[]] λe2 q=>∃ eC,e2=.returned (.string eC)/\q λai aX=>η W ai aX J (.string eC):=aI (hV [0,2])
theorem aNW(n:Int):aH F.Ao #[.int .i64 n] λW R Φ J=>
 U (decide (n<0)) (η W R Φ J (.string (ByteArray.mk #[]))) (ε W R Φ F.ki #[I n] λbR q=>∃ DV,bR=.returned (.string DV)/\q λaJ ig=>η W aJ ig J (.string DV)):=aI (hV [0,2,4])
theorem aNi(s:ByteArray):aH F.y8 #[.string s] λW R Φ J=>
 ε W R Φ F.strconv_Itoa #[I (↑s.size:Int)] λe2 q=>∃ eC,e2=.returned (.string eC)/\q λai aX=>(eC.size+(ByteArray.mk #[OfNat.ofNat 58]).size).le 9223372036854775807/\((eC++ByteArray.mk #[OfNat.ofNat 58]).size+s.size).le 9223372036854775807/\((eC++ByteArray.mk #[OfNat.ofNat 58]++s).size+(ByteArray.mk #[OfNat.ofNat 44]).size).le 9223372036854775807/\η W ai aX J (.string (eC++ByteArray.mk #[OfNat.ofNat 58]++s++ByteArray.mk #[OfNat.ofNat 44])):=aI (hV [0,2])
theorem aNh(bA bB:Nat)(Ja:Int)(least:Int):aH F.Ds #[aA bA bB,.int .u8 Ja,.int .i64 least] λW R Φ J=>
 π W R Φ λw0=>∃ s2,w0.cell? (Ξ bA bB)=some (.string s2)/\∃ fN,w0.cell? (Ξ bA bB)=some (.string fN)/\(0<=min (↑fN.size:Int) 21/\min (↑fN.size:Int) 21<=(↑s2.size:Int))/\ε W R Φ F.strings_IndexByte #[.string (s2.extract 0 (min (↑fN.size:Int) 21).toNat),.int IntKind.u8 Ja] λfP q=>∃ cD,fP=.returned (I cD)/\q λaT aZ=>U (decide (cD<0)) (ε W aT aZ F.rJ #[aA bA bB] λwk q=>wk=.returned (Value.tuple #[])/\q λfm rL=>η W fm rL J (I 0)) ((0<=cD/\cD<=(↑(s2.extract 0 (min (↑fN.size:Int) 21).toNat).size:Int))/\∀ rE oK,Ctx W rE (aT++oK) aZ -> ω F.strconv_Atoi #[.string ((s2.extract 0 (min (↑fN.size:Int) 21).toNat).extract 0 cD.toNat)] rE λP9 pP=>(∃ n23,P9=.returned (Value.tuple #[I n23,Value.nilIface])/\∃ cl hM,O hM/\Ctx W pP (cl++oK) hM/\∃ fU gm,O gm/\κ W cl hM fU gm/\∃ (a5M:Bool),(∀ (lO:World),Sem.run prog ((eqGuard BinOp.neq 99 (Operand.tmp 36) (Operand.const Value.nilIface) Value.nilIface Value.nilIface) >>= λ_=>binOp BinOp.neq 99 Value.nilIface Value.nilIface) lO=Result.ok (Value.bool a5M) lO)/\U a5M (ε W cl hM F.rJ #[aA bA bB] λwo q=>wo=.returned (Value.tuple #[])/\q λlQ mQ=>η W lQ mQ J (I 0)) ((0<=cD/\cD<=(↑(s2.extract 0 (min (↑fN.size : Int) 21).toNat).size:Int))/\ε W cl hM F.strconv_Itoa #[I n23] λJR q=>∃ DU,JR=.returned (.string DU)/\q λdr ep=>κ W dr ep fU gm/\U (decide (DU≠(s2.extract 0 (min (↑fN.size:Int) 21).toNat).extract 0 cD.toNat)) (ε W dr ep F.rJ #[aA bA bB] λJT q=>JT=.returned (Value.tuple #[])/\q λkK qO=>η W kK qO J (I 0)) (U (decide (n23<least)) (ε W dr ep F.rJ #[aA bA bB] λJV q=>JV=.returned (Value.tuple #[])/\q λjS oF=>η W jS oF J (I 0)) (π W dr ep λpS=>∃ GY,pS.cell? (Ξ bA bB)=some (.string GY)/\V (cD+1)/\(0<=cD+1/\cD+1<=(↑GY.size:Int)/\GY.size<=GY.size)/\∀ Dq iU,Ctx W Dq (dr++iU) ep->bJ Dq bA bB 1/\∀ Gu,Gu=Dq.setCell (Ξ bA bB) (Value.string (GY.extract (cD+1).toNat GY.size))->∃ oM mS,O mS/\Ctx W Gu (oM++iU) mS/\η W oM mS J (I n23)))))\/∃ (qx:Int) (Zq:TypeId) (Zt:Value),P9=.returned (Value.tuple #[I qx,Value.iface Zq Zt])/\∃ jk j0,O j0/\Ctx W pP (jk++oK) j0/\∃ IE a1p,O a1p/\κ W jk j0 IE a1p/\∃ (c85:Bool),(∀ (aKj:World),Sem.run prog ((eqGuard BinOp.neq 99 (Operand.tmp 36) (Operand.const Value.nilIface) (Value.iface Zq Zt) Value.nilIface) >>= λ_=>binOp BinOp.neq 99 (Value.iface Zq Zt) Value.nilIface) aKj=Result.ok (Value.bool c85) aKj)/\U c85 (ε W jk j0 F.rJ #[aA bA bB] λaUS q=>aUS=.returned (Value.tuple #[])/\q λOM Nj=>η W OM Nj J (I 0)) ((0<=cD/\cD<=(↑(s2.extract 0 (min (↑fN.size:Int) 21).toNat).size:Int))/\ε W jk j0 F.strconv_Itoa #[I qx] λaUZ q=>∃ aHY,aUZ=.returned (.string aHY)/\q λya yD=>κ W ya yD IE a1p/\U (decide (aHY≠(s2.extract 0 (min (↑fN.size:Int) 21).toNat).extract 0 cD.toNat)) (ε W ya yD F.rJ #[aA bA bB] λaRJ q=>aRJ=.returned (Value.tuple #[])/\q λmW oE=>η W mW oE J (I 0)) (U (decide (qx<least)) (ε W ya yD F.rJ #[aA bA bB] λaRL q=>aRL=.returned (Value.tuple #[])/\q λNz Sc=>η W Nz Sc J (I 0)) (π W ya yD λaZs=>∃ GR,aZs.cell? (Ξ bA bB)=some (.string GR)/\V (cD+1)/\(0<=cD+1/\cD+1<=(↑GR.size:Int)/\GR.size<=GR.size)/\∀ a0J a2X,Ctx W a0J (ya++a2X) yD->bJ a0J bA bB 1/\∀ aJE,aJE=a0J.setCell (Ξ bA bB) (Value.string (GR.extract (cD+1).toNat GR.size))->∃ rT a0s,O a0s/\Ctx W aJE (rT++a2X) a0s/\η W rT a0s J (I qx))))):=aI {hV [0,1,2,6,7,8,9,10,26,50] with dZ:=[(7,[.held [(0,true),(1,true),(2,true),(3,true),(5,true),(6,true),(7,true),(4,false)],.aE [8,9,10,11,12,13,14] none])] }
theorem aNg(bA bB:Nat):aH F.rJ #[aA bA bB] λW R Φ J=>
 ∀ w0 ν,Ctx W w0 (R++ν) Φ->bJ w0 bA bB 1/\∀ w2,w2=w0.setCell (Ξ bA bB) (Value.string (ByteArray.mk #[]))->∃ eT a1L,O a1L/\Ctx W w2 (eT++ν) a1L/\∀ ua yz,Ctx W ua (eT++yz) a1L->bJ ua bA (bB+1) 1/\∀ gC,gC=ua.setCell (Ξ bA (bB+1)) (Value.bool true)->∃ bV gQ,O gQ/\Ctx W gC (bV++yz) gQ/\η W bV gQ J (Value.tuple #[]):=aI (hV [])
theorem aNf(bA bB:Nat)(Ja:ByteArray):aH F.SX #[aA bA bB,.string Ja] λW R Φ J=>
 π W R Φ λw0=>∃ s2,w0.cell? (Ξ bA bB)=some (.string s2)/\ε W R Φ F.strings_CutPrefix #[.string s2,.string Ja] λfY q=>∃ MW Iu,fY=.returned (Value.tuple #[.string MW,.bool Iu])/\q λaT aZ=>∀ nH dR,Ctx W nH (aT++dR) aZ->bJ nH bA bB 1/\∀ Ad,Ad=nH.setCell (Ξ bA bB) (Value.string MW)->∃ iq iP,O iP/\Ctx W Ad (iq++dR) iP/\U (!Iu) (ε W iq iP F.rJ #[aA bA bB] λVD q=>VD=.returned (Value.tuple #[])/\q λoK HG=>η W oK HG J (Value.tuple #[])) (η W iq iP J (Value.tuple #[])):=aI (hV [0,4,5,20])
theorem aNN(s:ByteArray):aH F.Mp #[.string s] λW R Φ J=>
 ε W R Φ F.Gy #[.string s] λe2 q=>∃ aC,e2=.returned (.pointer aC)/\q λai aX=>ε W ai aX F.Ap #[.pointer aC] λlY q=>∃ fA,lY=.returned (I fA)/\q λdR eR=>bI λ(B1:Option Addr->Nat->Nat->Int->List Own->Y->Nat->Prop)=>(bT W dR eR (B1 none 0 0 fA))/\∀ o3 dI cK n23 cl iT eH,O iT->B1 o3 dI cK n23 cl iT eH->U (decide (0<n23)) (ε W cl iT F.y7 #[.pointer aC] λJN q=>∃ n31,JN=.returned (I n31)/\q λiA wH=>U (decide (n31=0)) (η W iA wH J (Value.tuple #[.slice none 0 0,.bool false])) (ε W iA wH F.a04 #[.pointer aC] λJQ q=>∃ n40 n41 aHr,JQ=.returned (Value.agg #[I n40,I n41,.string aHr])/\q λtE abr=>∀ (jz:Nat) y3 lR,Ctx W y3 (Own.blk jz [I n40,I n41,.string aHr] 115 :: tE++lR) abr->∃ vq gJ eO rH,Sem.run prog (builtin Builtin.append #[111,111] 111 #[false,false] #[.slice o3 dI cK,.slice (dB jz 0) 1 1]) y3=.ok (.value (.slice vq gJ eO)) rH/\∃ j4 gP,O gP/\Ctx W rH (j4++lR) gP/\V (n23 - 1)/\af W j4 gP eH (B1 vq gJ eO (n23 - 1)))) (ε W cl iT F.NO #[.pointer aC] λJW q=>∃ a5j,JW=.returned (.bool a5j)/\q λrV rQ=>U (!a5j) (η W rV rQ J (Value.tuple #[.slice none 0 0,.bool false])) (η W rV rQ J (Value.tuple #[.slice o3 dI cK,.bool true]))):=aI {hV [0,2,3,4,5,6,12,17,25] with loops:=[(4,[(5,.one (.slice)),(6,.one (.int .i64))],[])] }
theorem aNj(cx:Option Addr)(bL dh:Nat)(C':FuncId)(dJ:Array Value):aH F.a0f #[.slice cx bL dh,.func (.func C') #[] dJ] λW R Φ J=>
 ∀ (k0:Nat) w1 ck,Ctx W w1 (Own.blk k0 [Value.pointer none,Value.slice none 0 0] 97 :: R++ck) Φ->ω F.strconv_Itoa #[I (↑bL:Int)] w1 λeE rG=>∃ k9,eE=.returned (.string k9)/\∃ yz EA,O EA/\Ctx W rG (yz++ck) EA/\(k9.size+(ByteArray.mk #[OfNat.ofNat 91]).size).le 9223372036854775807/\ε W yz EA F.rB #[aA k0 0,Value.string (k9++ByteArray.mk #[OfNat.ofNat 91])] λJE q=>∃ (xV:Int) (Zs:Value),JE=.returned (Value.tuple #[I xV,Zs])/\q λiq iP=>bI λ(j3:Int->List Own->Y->Nat->Prop)=>(bT W iq iP (j3 0))/\∀ n22 eS sk fq,O sk->j3 n22 eS sk fq->U (decide (n22<(↑bL:Int))) ((0 <= n22/\n22<(↑bL:Int))/\gA none cx λeH jy=>π W eS sk λoC=>∃ n30,oC.cell? (Ξ eH (jy+n22.toNat))=some (I n30)/\∀ lO iA,Ctx W lO (eS++iA) sk->k6 prog C'=true/\Calls prog C' (Array.mk (I n30 :: dJ.toList)) lO λwm uY=>∃ jK,wm=.returned (.string jK)/\∃ kI kj,O kj/\Ctx W uY (kI++iA) kj/\ε W kI kj F.rB #[aA k0 0,.string jK] λVU q=>∃ (n42:Int) (aZS:Value),VU=.returned (Value.tuple #[I n42,aZS])/\q λe6 e5=>V (n22+1)/\af W e6 e5 fq (j3 (n22+1))) (ε W eS sk F.Ml #[aA k0 0] λVd q=>∃ ZG,Vd=.returned (.string ZG)/\q λaP5 ac2=>(ZG.size+(ByteArray.mk #[OfNat.ofNat 93]).size).le 9223372036854775807/\η W aP5 ac2 J (.string (ZG++ByteArray.mk #[OfNat.ofNat 93]))):=aI {hV [0,1,4,5,7,13,14,15,16] with wrap:=[21],loops:=[(4,[(15,.one (.int .i64))],[])] }
theorem aNQ(nE:Option Addr)(iy qD:Nat):aH F.a01 #[.slice nE iy qD] λW R Φ J=>
 ∀ (k0:Nat) w1 ck,Ctx W w1 (Own.blk k0 [Value.pointer none,Value.slice none 0 0] 97 :: R++ck) Φ->ω F.Ao #[I (↑iy:Int)] w1 λeE rG=>∃ k9,eE=.returned (.string k9)/\∃ yz EA,O EA/\Ctx W rG (yz++ck) EA/\ε W yz EA F.rB #[aA k0 0,.string k9] λJE q=>∃ (xV:Int) (Zs:Value),JE=.returned (Value.tuple #[I xV,Zs])/\q λiq iP=>bI λ(j3:Int->List Own->Y->Nat->Prop)=>(bT W iq iP (j3 0))/\∀ n22 eS sk fq,O sk->j3 n22 eS sk fq->U (decide (n22<(↑iy:Int))) (aa n22 iy nE λeH jy=>π W eS sk λoC=>∃ n30 n31 aHm,aQ oC eH (jy+n22.toNat*3) [I n30,I n31,.string aHm]/\∀ (b:Nat) jN kH,Ctx W jN (eS++kH) sk->ω F.Zx #[Value.agg #[I n30,I n31,.string aHm]] jN λwo nI=>∃ aHn,wo=.returned (.string aHn)/\∃ kJ ji,O ji/\Ctx W nI (kJ++kH) ji/\ε W kJ ji F.rB #[aA k0 0,.string aHn] λwq q=>∃ (n44:Int) (aZT:Value),wq=.returned (Value.tuple #[I n44,aZT])/\q λdr ep=>V (n22+1)/\af W dr ep fq (j3 (n22+1))) (∀ Ai kK,Ctx W Ai (eS++kK) sk->ω F.Ml #[aA k0 0] Ai λwv y4=>∃ AY,wv = .returned (.string AY)/\∃ gT hO,O hO/\Ctx W y4 (gT++kK) hO/\η W gT hO J (.string AY)):=aI {hV [0,2,3,5,10,11,12,13] with cT:=[5],loops:=[(4,[(12,.one (.int .i64))],[])] }
theorem aNU(bA bB:Nat):aH F.a04 #[aA bA bB] λW R Φ J=>
 ∀ (b:Nat) w0 ν,Ctx W w0 (R++ν) Φ->ω F.iO #[aA bA bB] w0 λe2 w3=>∃ cX,e2=.returned (I cX)/\∃ ai aX,O aX/\Ctx W w3 (ai++ν) aX/\ε W ai aX F.iO #[aA bA bB] λlY q=>∃ fA,lY=.returned (I fA)/\q λdR eR=>∀ (b:Nat) kf fm,Ctx W kf (dR++fm) eR->ω F.sR #[aA bA bB] kf λBb je=>∃ w5,Bb=.returned (.string w5)/\∃ pe sS,O sS/\Ctx W je (pe++fm) sS/\η W pe sS J (Value.agg #[I cX,I fA,.string w5]):=aI {hV [0,2,3] with cT:=[2,3] }
theorem aNJ(v0:Int)(v1:Int)(v2:ByteArray):aH F.Zx #[.agg #[.int .i64 v0,.int .i64 v1,.string v2]] λW R Φ J=>
 ∀ (b:Nat),∃ R0 θ,O θ/\κ W R Φ R0 θ/\ε W R Φ F.ki #[I v0] λfP q=>∃ fO,fP=.returned (.string fO)/\q λaT aZ=>κ W aT aZ R0 θ/\ε W aT aZ F.ki #[I v1] λmo q=>∃ fM,mo=.returned (.string fM)/\q λct cq=>κ W ct cq R0 θ/\(fO.size+fM.size).le 9223372036854775807/\ε W ct cq F.y8 #[.string v2] λjq q=>∃ gl,jq=.returned (.string gl)/\q λcM dj=>κ W cM dj R0 θ/\((fO++fM).size+gl.size).le 9223372036854775807/\η W cM dj J (.string (fO++fM++gl)):=aI {hV [1,2] with cT:=[1],dZ:=[(1,[.held [(0,true),(3,true),(7,true),(1,true),(4,true),(8,true),(2,false),(5,false),(6,true),(9,false)],.aE [10,11] none])] }
end Go.Proofs.YtfijlibaeahlaaaGreatDoor
end

