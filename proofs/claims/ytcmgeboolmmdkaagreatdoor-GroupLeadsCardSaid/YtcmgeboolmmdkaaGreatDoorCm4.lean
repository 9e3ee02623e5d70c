/-
 THE CONDITIONS OF A WALK OVER WHAT IT OWNS: a function's body.
-/
import Derived.Test.YtcmgeboolmmdkaaGreatDoorCm3
import Derived.Test.YtcmgeboolmmdkaaGreatDoorRows
open Go.Proofs.Tryz
set_option linter.unusedVariables false
set_option linter.unusedSimpArgs false
section
namespace Go.Vc
variable {G:List Own}
variable {ds:List Deferred}
open Go.RowKit
structure Dr where
 /-- slots whose sums may wrap;calls of function values;0: stores of values of any kind -/
 wrap:List Nat:=[]
 /-- slots whose new blocks are known cell by cell -/
 gO:List Nat:=[]
 /-- regions with guards that are walked in the text's order -/
 split:List Nat:=[]
 /-- regions whose calls may draw -/
 Km:List Nat:=[]
 /-- slots that are read outside the region that writes them -/
 keep:Option (List Nat):=none
 /-- regions whose order is drawn,and that write or call: their stages -/
 iC:List (Nat × List Bp):=[]
 /-- of each loop the slots and the blocks that its rounds write -/
 loops:List (Nat × fB × fB):=[]
 Kc:List (Nat × fB × fB):=[]
def aAO(k:Nat):List (Nat × List Bp)->Option (List Bp)
 | []=>none
 | (t,l) :: r=>match Nat.beq t k with|true=>some l|false=>aAO k r
def QT(k:Nat):List (Nat × fB × fB)->Option (fB × fB)
 | []=>none
 | (t,l) :: r=>match Nat.beq t k with|true=>some l|false=>QT k r
def s3(asg:List Nat)(l:fB)(vs:List Value)(s:ai):ai:=⟨s.n,cons l vs (drop s.l)⟩
where
 cons:fB->List Value->List (Nat × bk)->List (Nat × bk)
  | (t,_) :: r,v :: vs,s=>(t,.v v) :: cons r vs s
  | _,_,s=>s
 drop:List (Nat × bk)->List (Nat × bk)
  | []=>[]
  | (t,x) :: r=>match c6 t asg with|true=>drop r|false=>(t,x) :: drop r
def uy(k:Option (List Nat))(s:ai):ai:=match k with|none=>s|some k=>⟨s.n,go k s.l⟩
where go (k:List Nat):List (Nat × bk)->List (Nat × bk)
 | []=>[]
 | (t,x) :: r=>match c6 t k with|true=>(t,x) :: go k r|false=>go k r
def S9(ts:fB)(L:List aM):Bool:=match ts with
 | []=>true
 | (k,sh) :: r=>match bl k L,sh with|some _,.agg _=>S9 r L|_,_=>false
abbrev a0s(l:fB):Type:=fA (List Own->θ->Nat->Prop) l
abbrev aEg(l:fB):Type:=fA (List Own->θ->Prop) l
def AN(x:Option (List Own->θ->Nat->Prop))(R:List Own)(Φ:θ)(n:Nat):Prop:=match x with|some jD=>jD R Φ n|none=>False
def Vn(x:Option (List Own->θ->Prop))(R:List Own)(Φ:θ):Prop:=match x with|some jD=>jD R Φ|none=>False
def Rr:List Nat->List Nat->Bool
 | [],[]=>true
 | a :: l,b :: m=>Nat.beq a b&&Rr l m
 | _,_=>false
theorem aA2:∀ {l m:List Nat},Rr l m=true->l=m
 | [],[],_=>rfl
 | a :: l,b :: m,h=>by
  simp only [Rr,Bool.and_eq_true] at h;rw [Nat.eq_of_beq_eq_true h.1,aA2 h.2]
 | [],_ :: _,h=>by cases h
 | _ :: _,[],h=>by cases h
def C':fB->List Value->ai->ai
 | (t,_) :: r,v :: vs,s=>C' r vs (s.put (some t) (.v v))
 | _,_,s=>s
abbrev a0r(l:fB):Type:=fA (Nat->Prop) l
def Vm(x:Option (Nat->Prop))(k:Nat):Prop:=match x with|some jD=>jD k|none=>False
def aEm(l:fB)(A:a0r l)(xs:Nat->List Value)(N:Nat):Prop:=∀ k,k<N->Vm (fA.app l A (xs k)) k
section
variable (P:Program)(W:World)
def aAW(H:Dr)(ops:Array Oper)(st:List Bp)(s:ai)(L:List aM)(R:List Own)(Φ:θ)(K:ai->List aM->List Own->θ->Prop):Prop :=
 vL P W (λt=>c6 t H.wrap) (λt=>c6 t H.gO) ops st s L R Φ λs=>K (uy H.keep s)
def Y5(H:Dr)(d:Bool)(ops:Array Oper)(s:ai)(L:List aM)(R:List Own)(Φ:θ)(K:ai->List aM->List Own->θ->Prop):Prop :=
 ∀ w F,Ctx W w (R++F) Φ->NF P (λt=>c6 t H.wrap) d ops L w ops.toList [] s λs=>K (uy H.keep s) L R Φ
def a9P(H:Dr)(id:Nat)(ops:Array Oper)(draw:Bool)(s:ai)(L:List aM)(R:List Own)(Φ:θ)(K:ai->List aM->List Own->θ->Prop):Prop :=
 match draw with
 | true=>match aAO id H.iC with
  | some st=>match P.follows .mixedOrders&&Region.noSelect ops&&vI ops st (Array.replicate ops.size false)&&Nat.beq (DC st) ops.size with
   | true=>aAW P W H ops st s L R Φ K
   | false=>False
  | none=>match a7b P ops with
   | true=>Y5 P W H true ops s L R Φ K
   | false=>False
 | false=>match guarded ops.toList && !(c6 id H.split) with
  | true=>Y5 P W H (c6 id H.Km) ops s L R Φ K
  | false=>Mi P W (λt=>c6 t H.wrap) (λt=>c6 t H.gO) ops ops.toList s L R Φ λs=>K (uy H.keep s)
def oB(H:Dr):Code->(Exit->ai->List aM->List Own->θ->Prop)->ai->List aM->List Own->θ->Prop
 | .skip,Q,s,L,R,Φ=>Q .normal s L R Φ
 | .region id ops draw,Q,s,L,R,Φ=>a9P P W H id ops draw s L R Φ (Q .normal)
 | .seq x U,Q,s,L,R,Φ =>
  match QT (HI U) H.Kc with
  | none=>oB H x (λe s' L' R' η=>match e with | .normal=>oB H U Q s' L' R' η|e=>Q e s' L' R' η) s L R Φ
  | some (l,ts) =>
   match SE (asg x) l (s.fr L)&&S9 ts L with
   | true =>
    ∃ J:aEg (l++ts),oB H x (λe s' L' R' η=>match e with
      | .normal=>match a6f (asg x) (s.fr L) (s'.fr L')&&sH ts L' L with
       | true=>∃ aW ψ,O ψ/\(∀ w F,Ctx W w (R'++F) η->Ctx W w (aW++F) ψ)/\Vn (fA.app (l++ts) J (slotsOf l (s'.fr L')++cellsOf ts L')) aW ψ
       | false=>False
      | e=>Q e s' L' R' η) s L R Φ /\
     l.all λvs=>ts.all λus=>∀ R' η,O η->Vn (fA.app (l++ts) J (vs++us)) R' η->oB H U Q (s3 (asg x) l vs s) (jZ ts us L) R' η
   | false=>False
 | .cond c x U,Q,s,L,R,Φ=>match s.val L c with
  | .bool b=>γ b (oB H x Q s L R Φ) (oB H U Q s L R Φ)
  | _=>False
 | .block id b,Q,s,L,R,Φ=>oB H b (λe s' L' R' η=>match e with | .exit n=>(match Nat.beq n id with|true=>Q .normal s' L' R' η|false=>Q (.exit n) s' L' R' η)|e=>Q e s' L' R' η) s L R Φ
 | .loop b,Q,s,L,R,Φ =>
  match QT (HI b) H.loops with
  | none=>False
  | some (l,ts) =>
   match SE (asg b) l (s.fr L)&&S9 ts L with
   | true =>
    ∃ jD:a0s (l++ts),(∃ aW ψ n1,O ψ/\(∀ w F,Ctx W w (R++F) Φ->Ctx W w (aW++F) ψ)/\AN (fA.app (l++ts) jD (slotsOf l (s.fr L)++cellsOf ts L)) aW ψ n1) /\
     l.all λvs=>ts.all λus=>∀ R' η n,O η->AN (fA.app (l++ts) jD (vs++us)) R' η n ->
      oB H b (λe s' L' Jt O4=>match e with
       | .normal=>match a6f (asg b) (s.fr L) (s'.fr L')&&sH ts L' L with
        | true=>∃ aW ψ n1,O ψ/\(∀ w F,Ctx W w (Jt++F) O4->Ctx W w (aW++F) ψ)/\AN (fA.app (l++ts) jD (slotsOf l (s'.fr L')++cellsOf ts L')) aW ψ n1/\n1<n
        | false=>False
       | e=>Q e s' L' Jt O4) (s3 (asg b) l vs s) (jZ ts us L) R' η
   | false=>False
 | .exit id,Q,s,L,R,Φ=>Q (.exit id) s L R Φ
 | .label _,Q,s,L,R,Φ=>Q .normal s L R Φ
 | .scope b,Q,s,L,R,Φ=>oB H b (λe s' L' R' η=>match e with | .goto _=>False|e=>Q e s' L' R' η) s L R Φ
 | .ret,Q,s,L,R,Φ=>Q .ret s L R Φ
 | .rangeFunc g ps x U,Q,s,L,R,Φ =>
  match s.val L g with
  | .func (.func ud) cs lb =>
   match QT (HI U) H.loops with
   | none=>False
   | some (l,ts) =>
    match Rr (l.map (·.1)) ps.toList&&tY x&&tY U&&S9 ts L with
    | true=>cs=#[]/\nx P ud=true/\∃ (N:Nat) (xs:Nat->List Value) (X:World->Prop) (A:a0r l) (jD:a0s ts),Iter P ud lb N (λk=>(xs k).toArray) X/\aEm l A xs N /\
      (∃ aW ψ,O ψ/\(∀ w F,Ctx W w (R++F) Φ->Ctx W w (aW++F) ψ)/\AN (fA.app ts jD (cellsOf ts L)) aW ψ 0) /\
      ts.all λus=>∀ R' η k,O η->AN (fA.app ts jD us) R' η k ->
       (∀ w F,Ctx W w (R'++F) η->X w) /\
       (k<N->l.all λvs=>Vm (fA.app l A vs) k->oB H x (λe s1 az aW ψ=>match e with
         | .normal=>oB H U (λe s2 oq dM dF=>match e with
           | .normal=>match sH ts oq L with
            | true=>∃ jg hO,O hO/\(∀ w F,Ctx W w (dM++F) dF->Ctx W w (jg++F) hO)/\AN (fA.app ts jD (cellsOf ts oq)) jg hO (k+1)
            | false=>False
           | _=>False) s1 az aW ψ
         | _=>False) (C' l vs s) (jZ ts us L) R' η) /\
       (k=N->Q .normal s (jZ ts us L) R' η)
    | false=>False
  | _=>False
 | _,_,_,_,_,_=>False
def B1(s:ai)(L:List aM)(R:List Own)(Φ:θ):List ResultVar->(List Value->Prop)->Prop
 | [],K=>K []
 | .tmp t :: r,K=>match fG ((vm t s.l).val L) with
  | true=>False
  | false=>B1 s L R Φ r λvs=>K ((vm t s.l).val L :: vs)
 | .cell a t :: r,K=>match vm a s.l with
  | .ptr k off=>loadT P t L k off λv=>B1 s L R Φ r λvs=>K (v :: vs)
  | .v (.pointer (some ⟨b,o,none⟩))=>∀ w F,Ctx W w (R++F) Φ->JF P t w none b o λv=>B1 s L R Φ r λvs=>K (v :: vs)
  | .v _=>False
def aGu(fn:Func)(J:Value->World->Prop):Exit->ai->List aM->List Own->θ->Prop
 | .normal,s,L,R,Φ | .ret,s,L,R,Φ=>B1 P W s L R Φ fn.results.toList λvs=>∀ w F,Ctx W w (R++F) Φ->J (zF vs) w
 | _,_,_,_,_=>False
def Bv:Nat->List Value->List (Nat × bk)
 | _,[]=>[]
 | i,v :: r=>(i,.v v) :: Bv (i+1) r
def Ze(H:Dr)(f:FuncId)(args:Array Value)(R:List Own)(Φ:θ)(J:Value->World->Prop):Prop :=
 match P.funcs[f]? with
 | some fn=>match fn.body with
  | some c=>oB P W H c (aGu P W fn J) ⟨max fn.ntmps args.size,Bv 0 args.toList⟩ [] R Φ
  | none=>False
 | none=>False
end
theorem a6e(k s L):(uy k s).fr L=(s.fr L).keep k:=by
 cases k with
 | none=>rfl
 | some k =>
  have key:∀ l:List (Nat × bk),kF L (uy.go k l)=sx (λt=>c6 t k) (kF L l):=by
   intro l
   induction l with
   | nil=>rfl
   | cons p r ih =>
    obtain ⟨t,v⟩:=p;simp only [uy.go,kF,sx];cases c6 t k with
    | true=>simp only [kF,ih]
    | false=>exact ih
  simp only [uy,Fr.keep,ai.fr,key]
theorem aMG{k s L}(h:ij L s):ij L (uy k s):=by
 cases k with
 | none=>exact h
 | some k =>
  have key:∀ l:List (Nat × bk),∀ p∈uy.go k l,p∈l:=by
   intro l
   induction l with
   | nil=>intro p hp;exact hp
   | cons q r ih =>
    obtain ⟨t,v⟩:=q;intro p hp;simp only [uy.go] at hp;cases hb:c6 t k with
    | true=>rw [hb] at hp;rcases List.mem_cons.1 hp with rfl|hp;simp;exact List.mem_cons_of_mem _ (ih p hp)
    | false=>rw [hb] at hp;exact List.mem_cons_of_mem _ (ih p hp)
  exact λp hp=>h p (key _ p hp)
theorem dI.keep{W s L R Φ a w}(h:dI ds G W s L R Φ a w)(k):dI ds G W (uy k s) L R Φ a w :=
 ⟨by rw [a6e];exact aMJ h.fT k,aMG h.wf,h.ids,h.ctx,h.st⟩
theorem R1{asg l vs s L az}(hwf:ij L s)(hb:∀ k T,bl k L=some T->∃ e7,bl k az=some e7/\e7.b=T.b):(s3 asg l vs s).fr az=meet asg l vs (s.fr L):=by
 have key:∀ r:List (Nat × bk),(∀ p∈r,∀ k o,p.2=bk.ptr k o->(bl k L).isSome=true)->kF az (s3.drop asg r)=sx (λt => !c6 t asg) (kF L r):=by
  intro r
  induction r with
  | nil=>intro _;rfl
  | cons p r ih =>
   obtain ⟨t,v⟩:=p;intro h;have ih:=ih λq hq=>h q (List.mem_cons_of_mem _ hq);simp only [s3.drop,kF,sx];cases c6 t asg with
   | true=>exact ih
   | false =>
    simp only [kF,Bool.not_false,ih]
    congr 2
    cases v with
    | v x=>rfl
    | ptr k o =>
     obtain ⟨T,hT⟩:=Option.isSome_iff_exists.1 (h (t,.ptr k o) (by simp) k o rfl);obtain ⟨e7,h1,h2⟩:=hb k T hT;simp only [bk.val,hT,h1,h2]
 have Wi:∀ (l:fB) (vs:List Value) (r:List (Nat × bk)),kF az (s3.cons l vs r)=KZ l vs (kF az r):=by
  intro l
  induction l with
  | nil=>intro vs r;cases vs<;>rfl
  | cons p l ih =>
   obtain ⟨t,sh⟩:=p;intro vs r;cases vs with
   | nil=>rfl
   | cons v vs=>simp only [s3.cons,KZ,kF,ih,bk.val]
 simp only [ai.fr,s3,meet,Fj,Fr.drop,Wi,key s.l hwf]
theorem a6y{asg l vs s L az}(hwf:ij L s)(hb:∀ k T,bl k L=some T->∃ e7,bl k az=some e7/\e7.b=T.b):ij az (s3 asg l vs s):=by
 have key:∀ r:List (Nat × bk),∀ p∈s3.drop asg r,p∈r:=by
  intro r
  induction r with
  | nil=>intro p hp;exact hp
  | cons q r ih =>
   obtain ⟨t,v⟩:=q;intro p hp;simp only [s3.drop] at hp;cases hm:c6 t asg with
   | true=>rw [hm] at hp;exact List.mem_cons_of_mem _ (ih p hp)
   | false=>rw [hm] at hp;rcases List.mem_cons.1 hp with rfl|hp;simp;exact List.mem_cons_of_mem _ (ih p hp)
 have Wi:∀ (l:fB) (vs:List Value) (r:List (Nat × bk)),∀ p∈s3.cons l vs r,p∈r\/∃ v,p.2=.v v:=by
  intro l
  induction l with
  | nil=>intro vs r p hp;cases vs<;>exact .inl hp
  | cons q l ih =>
   obtain ⟨t,sh⟩:=q;intro vs r p hp;cases vs with
   | nil=>exact .inl hp
   | cons v vs =>
    rcases List.mem_cons.1 hp with rfl|hp
    .exact .inr ⟨v,rfl⟩
    .exact ih vs r p hp
 intro p hp k o e;rcases Wi _ _ _ p hp with h|⟨v,h⟩
 .obtain ⟨T,hT⟩:=Option.isSome_iff_exists.1 (hwf p (key _ p h) k o e);obtain ⟨e7,h1,_⟩:=hb k T hT;rw [h1];rfl
 .rw [h] at e;cases e
theorem Hp{x R Φ n}(h:AN x R Φ n):∃ jD,x=some jD:=by
 cases x with
 | none=>exact h.elim
 | some jD=>exact ⟨jD,rfl⟩
theorem aL2{x R Φ}(h:Vn x R Φ):∃ jD,x=some jD:=by
 cases x with
 | none=>exact h.elim
 | some jD=>exact ⟨jD,rfl⟩
theorem all_append{ts us χ x}:∀ {l:fB} {vs:List Value} (_:vs.length=l.length) {K:List Value->List Value->Prop} (_:l.all λvs=>ts.all λus=>K vs us) {f:fA χ (l++ts)} (_:fA.app (l++ts) f (vs++us)=some x),
  K vs us/\us.length=ts.length/\(∀ v∈vs,fG v=false)/\(∀ u∈us,fG u=false):=by
 intro l
 induction l with
 | nil =>
  intro vs hl K h f hx;cases vs with
  | nil =>
   obtain ⟨h1,h2,h3⟩:=fA.vg hx h;exact ⟨h1,h2,λv hv=>(by cases hv),h3⟩
  | cons v vs=>simp at hl
 | cons p r ih =>
  intro vs hl K h f hx;obtain ⟨t,s⟩:=p;cases vs with
  | nil=>simp at hl
  | cons v vs =>
   simp only [List.cons_append] at f hx;unfold fA.app at hx;split at hx
   .rename_i g hg;obtain ⟨h1,h2⟩:=lO.vg hg h;obtain ⟨h3,h4,h5,h6⟩:=ih (vs:=vs) (by simpa using hl) (K:=λvs us=>K (v :: vs) us) h1 hx;refine ⟨h3,h4,λu hu=>?_,h6⟩;rcases List.mem_cons.1 hu with rfl|hu
    .exact h2
    .exact h5 u hu
   .cases hx
theorem Nh(l s):(slotsOf l s).length=l.length:=by simp [slotsOf]
theorem aMl{p:Nat->Prop}(h:∃ n,p n):∃ n,p n/\∀ m,p m->n<=m:=by
 obtain ⟨n,hn⟩:=h
 induction n using Nat.strongRecOn with
 | _ n ih =>
  by_cases hx:∃ m,m<n/\p m
  .obtain ⟨m,h1,h2⟩:=hx;exact ih m h1 h2
  .exact ⟨n,hn,λm hm=>by
    rcases Nat.lt_or_ge m n with h'|h'
    .exact absurd ⟨m,h',hm⟩ hx
    .exact h'⟩
theorem fA.KI{χ}:∀ {l:fB} {f:fA χ l} {vs:List Value} {x:χ},fA.app l f vs=some x->vs.length=l.length
 | [],_,[],_,_=>rfl
 | (t,s) :: r,f,v :: vs,x,h=>by
  unfold fA.app at h;split at h
  .simp [fA.KI h]
  .cases h
 | [],_,_ :: _,_,h=>by cases h
 | _ :: _,_,[],_,h=>by cases h
theorem aJC{P f}(h:nx P f=true)(args w):(callFunc f args).run P w=.ok (.enter f args) w:=by
 unfold nx at h;split at h
 .rename_i fn hfn;simp only [Bool.and_eq_true,Bool.not_eq_true'] at h;have hb':fn.body.isNone=false:=by cases hh:fn.body<;>simp_all
  simp only [callFunc,program,Sem.run,hfn,h.2,hb',Bool.false_eq_true,if_false,Sem.run_bind,Sem.run_pure,Result.andThen]
 .cases h
theorem a95{L}:∀ {l:fB} {vs:List Value} {s:ai} {a:Act},ku ds (s.fr L) a->ij L s ->
  ku ds ((C' l vs s).fr L) { tmps:=((l.map (·.1)).zip vs).foldl (λt p=>t.setIfInBounds p.1 p.2) a.tmps,defers:=a.defers }/\ij L (C' l vs s)
 | (t,sh) :: r,v :: vs,s,a,h,hw=>by
  have h2:ku ds ((s.put (some t) (.v v)).fr L) (a.put (some t) v):=by rw [LH];exact h.put _ (λ_=>rfl)
  have:=a95 (l:=r) (vs:=vs) h2 (hw.put λk o e=>(by cases e));simpa [C',Act.put] using this
 | [],vs,s,a,h,hw=>by
  simp only [C',List.map_nil,List.zip_nil_left,List.foldl_nil];exact ⟨h,hw⟩
 | _ :: _,[],s,a,h,hw=>by
  simp only [C',List.zip_nil_right,List.foldl_nil];exact ⟨h,hw⟩
theorem aR8{P W H}:∀ (c:Code) {rd:Option Nat} {Q':Exit->ai->List aM->List Own->θ->Prop} {Q:Exit->Act->World->Prop} {s:ai} {L:List aM} {R:List Own} {Φ:θ} {a:Act} {w:World} {ds:List Deferred} {G:List Own},
  (rd.isSome=true->tY c=true)->oB P W H c Q' s L R Φ->dI ds G W s L R Φ a w->(∀ e s' L' R' η a' w' ds' G',Q' e s' L' R' η->Tie rd ds G ds' G'->dI ds' G' W s' L' R' η a' w'->Ext L L'->bn (λt=>t∈asg c) (s.fr L) (s'.fr L')->Q e a' w')->c.wpIn (qb rd) 0 P Q a w:=by
 intro c
 induction c with
 | skip=>intro rd Q' Q s L R Φ a w ds G hrd h ha hQ;exact wpIn_skip (hQ _ _ _ _ _ _ _ _ _ h (Tie.refl _ _ _) ha (Ext.refl _) (bn.refl _ _))
 | region id ops draw =>
  intro rd Q' Q s L R Φ a w ds G hrd h ha hQ;have hD:∀ o∈ops.toList,∀ t,o.dst=some t->t∈Ea ops.toList:=λo ho t ht=>List.mem_filterMap.2 ⟨o,ho,ht⟩;have vn:∀ (j:Nat) (o:Oper) (t:Nat),ops[j]? = some o->o.dst=some t->t∈Ea ops.toList:=λj o t ho ht=>hD o (by simpa using Array.mem_of_getElem? ho) t ht;have Li:∀ s' L' R' η a' w',Q' .normal (uy H.keep s') L' R' η->dI ds G W s' L' R' η a' w'->Ext L L'->bn (λt=>t∈Ea ops.toList) (s.fr L) (s'.fr L')->Q .normal a' w':=by
   intro s' L' R' η a' w' hk aC he hu;exact hQ _ _ _ _ _ _ _ _ _ hk (Tie.refl _ _ _) (aC.keep _) he (by rw [a6e];exact aMK hu _)
  have quiet:∀ (d:Bool),(∀ w F,Ctx W w (R++F) Φ->NF P (λt=>c6 t H.wrap) d ops L w ops.toList [] s λs=>Q' .normal (uy H.keep s) L R Φ)->wpQuiet P ops (nW d w) (λa'=>∀ w',nW d w w'->Q .normal a' w') ops.toList a:=by
   intro d h;refine Y4 (D:=λt=>t∈Ea ops.toList) (s0:=s.fr L) ha.st ha.ids ha.ctx (λs' a' hk hs' hwf' bF w' hw'=>?_) _ _ _ _ hD (λe he=>(by cases he)) (h w _ ha.ctx) (Rel.start ha.fT) ha.wf (bn.refl _ _);have ji:eZ G W w' L R Φ:=by
    have:=ha.st;cases d with
    | false=>cases hw';exact ha.ctx
    | true=>obtain ⟨n,rfl⟩:=hw';exact Ctx.draw ha.ctx n
   exact Li s' L R Φ a' w' hk ⟨hs',hwf',ha.ids,ji,ha.st⟩ (Ext.refl _) bF
  simp only [oB,a9P,aAW,Y5] at h;cases draw with
  | true =>
   simp only at h;split at h
   .rename_i st _;split at h
    .rename_i hc;simp only [Bool.and_eq_true,Nat.beq_eq] at hc;obtain ⟨⟨⟨h1,h2⟩,h3⟩,h4⟩:=hc;have:=ha.st;refine a9N (λhh=>hrd hh) h1 ?_;have h7:=J7 (Q:=Cm Q) (L0:=L) (s0:=s.fr L) (D:=λt=>t∈Ea ops.toList) h2 vn (λs' L' R' η a' w' hk aC he hu=>Li s' L' R' η a' w' hk aC he hu) st _ _ _ _ _ _ (w.drewN 1) h3 h ⟨ha.fT,ha.wf,ha.ids,Ctx.draw ha.ctx 1,ha.st⟩ (Ext.refl _) (bn.refl _ _);rw [h4] at h7;exact h7
    .exact h.elim
   .split at h
    .rename_i hc;simp only [a7b,Bool.and_eq_true] at hc;have h1:=quiet true h;exact aPF (λhh=>hrd hh) hc.1 hc.2 (by
      have e:nW true w=λw'=>∃ n,w'=w.drewN n:=rfl;rw [e] at h1;exact h1)
    .exact h.elim
  | false =>
   simp only at h;split at h
   .have h1:=quiet (c6 id H.Km) h;refine a9O (λhh=>hrd hh) ?_;exact a0N (Q:=Cm Q) (C:=nW (c6 id H.Km) w) (Qa:=λa'=>∀ w',nW (c6 id H.Km) w w'->Q .normal a' w') (λa' w' hw' hq=>hq w' hw') _ _ _ (by cases c6 id H.Km;rfl;exact ⟨0,rfl⟩) h1
   .refine a9O (λhh=>hrd hh) ?_;exact XY (Q:=Cm Q) (D:=λt=>t∈Ea ops.toList) (s0:=s.fr L) (L0:=L) vn (λs' L' R' η a' w' hk aC he hu=>Li s' L' R' η a' w' hk aC he hu) _ _ _ _ _ _ _ hD h ha (Ext.refl _) (bn.refl _ _)
 | seq x U Hz I0 =>
  intro rd Q' Q s L R Φ a w ds G hrd h ha hQ;simp only [oB] at h;have Ht:rd.isSome=true->tY x=true/\tY U=true:=λhh=>by have:=hrd hh;simpa only [tY,Bool.and_eq_true] using this
  refine wpIn_seq ?_;split at h
  .refine Hz (λhh=>(Ht hh).1) h ha ?_;intro e s' L' R' η a' w' p7 av hq htie aC he hu;have bF:bn (λt=>t∈asg (.seq x U)) (s.fr L) (s'.fr L'):=hu.mono λi hi=>List.mem_append.2 (.inl hi);cases e with
   | normal =>
    simp only [Exit.then];refine I0 (λhh=>(Ht hh).2) hq aC λe s'' aF4 Jt O4 aGK w'' H9 yB F3 W3 x4 he' xF=>hQ _ _ _ _ _ _ _ _ _ F3 (htie.trans W3) x4 (he.trans he') ?_;exact bF.trans (xF.mono λi hi=>List.mem_append.2 (.inr hi))
   | exit n=>exact hQ _ _ _ _ _ _ _ _ _ hq htie aC he bF
   | goto n=>exact hQ _ _ _ _ _ _ _ _ _ hq htie aC he bF
   | ret=>exact hQ _ _ _ _ _ _ _ _ _ hq htie aC he bF
   | panic n=>exact hQ _ _ _ _ _ _ _ _ _ hq htie aC he bF
   | outgrown=>exact hQ _ _ _ _ _ _ _ _ _ hq htie aC he bF
  .rename_i l ts hl;split at h
   .rename_i hok;simp only [Bool.and_eq_true] at hok;obtain ⟨hv,hn⟩:=aBI hok.1;obtain ⟨J,h1,h2⟩:=h;refine Hz (λhh=>(Ht hh).1) h1 ha ?_;intro e s' L' R' η a' w' p7 av hq htie aC he hu;have bF:bn (λt=>t∈asg (.seq x U)) (s.fr L) (s'.fr L'):=hu.mono λi hi=>List.mem_append.2 (.inl hi);cases e with
    | normal =>
     simp only [Exit.then];simp only at hq;split at hq
     .rename_i hsub;simp only [Bool.and_eq_true] at hsub;obtain ⟨aW,ψ,uq,hw1,hj⟩:=hq;obtain ⟨jD,hI⟩:=aL2 hj;obtain ⟨h3,_,hk,_⟩:=all_append (Nh l _) h2 hI;have hme:=Wx ts (cellsOf ts L') L;have hb:∀ k T,bl k L=some T->∃ e7,bl k (jZ ts (cellsOf ts L') L)=some e7/\e7.b=T.b:=λk T hT=>by obtain ⟨e7,q1,bP,_⟩:=hme.old k T hT;exact ⟨e7,q1,bP⟩
      have V':=X0 (s:=s.fr L) aC.fT hu (λi=>Wj hsub.1) rfl hk;have Lj:dI p7 av W (s3 (asg x) l (slotsOf l (s'.fr L')) s) (jZ ts (cellsOf ts L') L) aW ψ a' w' :=
       ⟨by rw [R1 ha.wf hb];exact V',a6y ha.wf hb,hme.ids ha.ids,hw1 w' _ (eZ.meet aC.st aC.ctx he ha.ids hsub.2),uq⟩
      refine I0 (λhh=>(Ht hh).2) (h3 aW ψ uq hj) Lj λe s'' aF4 Jt O4 aGK w'' H9 yB F3 W3 x4 he' xF=>hQ _ _ _ _ _ _ _ _ _ F3 (htie.trans W3) x4 (hme.trans he') ?_;refine bn.trans (b:=(s3 (asg x) l (slotsOf l (s'.fr L')) s).fr (jZ ts (cellsOf ts L') L)) ?_ (xF.mono λi hi=>List.mem_append.2 (.inr hi));rw [R1 ha.wf hb];exact a6z (λv nE=>List.mem_append.2 (.inl (hv v nE).1))
     .exact hq.elim
    | exit n=>exact hQ _ _ _ _ _ _ _ _ _ hq htie aC he bF
    | goto n=>exact hQ _ _ _ _ _ _ _ _ _ hq htie aC he bF
    | ret=>exact hQ _ _ _ _ _ _ _ _ _ hq htie aC he bF
    | panic n=>exact hQ _ _ _ _ _ _ _ _ _ hq htie aC he bF
    | outgrown=>exact hQ _ _ _ _ _ _ _ _ _ hq htie aC he bF
   .exact h.elim
 | cond c x U Hz I0 =>
  intro rd Q' Q s L R Φ a w ds G hrd h ha hQ;simp only [oB] at h;split at h
  .rename_i b hb;have hc:a.eval c=.bool b:=by rw [ha.fT.eval (by rw [ya,hb];rfl),ya,hb]
   cases b with
   | true=>exact wpIn_cond_true hc (Hz (λhh=>by have:=hrd hh;simp only [tY,Bool.and_eq_true] at this;exact this.1) h ha λe s' L' R' η a' w' p7 av hq htie aC he hu=>hQ _ _ _ _ _ _ _ _ _ hq htie aC he (hu.mono λi hi=>List.mem_append.2 (.inl hi)))
   | false=>exact wpIn_cond_false hc (I0 (λhh=>by have:=hrd hh;simp only [tY,Bool.and_eq_true] at this;exact this.2) h ha λe s' L' R' η a' w' p7 av hq htie aC he hu=>hQ _ _ _ _ _ _ _ _ _ hq htie aC he (hu.mono λi hi=>List.mem_append.2 (.inr hi)))
  .exact h.elim
 | block id b ih =>
  intro rd Q' Q s L R Φ a w ds G hrd h ha hQ;simp only [oB] at h;refine wpIn_block (ih (λhh=>hrd hh) h ha ?_);intro e s' L' R' η a' w' p7 av hq htie aC he hu;cases e with
  | exit n =>
   simp only [Exit.inBlock];simp only at hq;split at hq
   .rename_i e;rw [if_pos (Nat.eq_of_beq_eq_true e)];exact hQ _ _ _ _ _ _ _ _ _ hq htie aC he hu
   .rename_i e;rw [if_neg (Nat.ne_of_beq_eq_false e)];exact hQ _ _ _ _ _ _ _ _ _ hq htie aC he hu
  | normal=>exact hQ _ _ _ _ _ _ _ _ _ hq htie aC he hu
  | goto n=>exact hQ _ _ _ _ _ _ _ _ _ hq htie aC he hu
  | ret=>exact hQ _ _ _ _ _ _ _ _ _ hq htie aC he hu
  | panic n=>exact hQ _ _ _ _ _ _ _ _ _ hq htie aC he hu
  | outgrown=>exact hQ _ _ _ _ _ _ _ _ _ hq htie aC he hu
 | loop b ih =>
  intro rd Q' Q s L R Φ a w ds G hrd h ha hQ;simp only [oB] at h;split at h
  .exact h.elim
  .rename_i l ts hl;split at h
   .rename_i hok;simp only [Bool.and_eq_true] at hok;obtain ⟨hv,hn⟩:=aBI hok.1;obtain ⟨jD,⟨R0,aA,n0,kW,hw0,h0⟩,h1⟩:=h
    let Rel:=λ(n:Nat) (a':Act) (w':World)=>∃ p7 av vs us R' η,Tie rd ds G p7 av/\vs.length=l.length/\O η/\AN (fA.app (l++ts) jD (vs++us)) R' η n/\ku p7 (meet (asg b) l vs (s.fr L)) a'/\eZ av W w' (jZ ts us L) R' η
    have hst:=ha.st;have start:Rel n0 a w:=by
     obtain ⟨I',A9⟩:=Hp h0;obtain ⟨_,_,hk,_⟩:=all_append (Nh l _) h1 A9;have hm:=X0 (s:=s.fr L) ha.fT (bn.refl _ _) (λi=>aML) rfl hk (asg:=asg b) (l:=l);refine ⟨_,_,_,_,R0,aA,Tie.refl _ _ _,Nh l _,kW,h0,hm,?_⟩;have W2:sH ts L L=true:=by
      have key:∀ M:List aM,(∀ T∈M,T∈L)->sH ts L M=true:=by
       intro M
       induction M with
       | nil=>intro _;rfl
       | cons T r ihr =>
        intro gu;unfold sH;cases c6 T.id (ts.map (·.1)) with
        | true=>exact ihr λjh cn=>gu jh (List.mem_cons_of_mem _ cn)
        | false =>
         rw [Px ha.ids (gu T (by simp))];simp only [show Nat.beq T.oZ T.oZ=true by simp];exact ihr λjh cn=>gu jh (List.mem_cons_of_mem _ cn)
      exact key L λ_ h=>h
     exact eZ.meet kW (hw0 w _ ha.ctx) (Ext.refl L) ha.ids W2
    let least:=λ(a':Act) (w':World) (n:Nat)=>Rel n a' w'/\∀ m,Rel m a' w'->n<=m
    let X4:=λ(a':Act) (w':World)=>@dite _ (∃ n,least a' w' n) (Classical.propDecidable _) (λhx=>Classical.choose hx) (λ_=>0)
    have Lx:∀ a' w' n,Rel n a' w'->∃ k,least a' w' k/\X4 a' w'=k/\k<=n:=by
     intro a' w' n hn;have hx:∃ k,least a' w' k:=aMl ⟨n,hn⟩;refine ⟨Classical.choose hx,Classical.choose_spec hx,?_,(Classical.choose_spec hx).2 n hn⟩;show @dite _ (∃ n,least a' w' n) (Classical.propDecidable _) (λhx=>Classical.choose hx) (λ_=>0)=_;rw [dif_pos hx]
    refine wpIn_loop (λa' w'=>∃ n,Rel n a' w') X4 ⟨n0,start⟩ ?_;rintro a1 w1 ⟨n1,AM⟩;obtain ⟨n,⟨⟨p7,av,vs,us,R',η,aLQ,hlen,uq,hI,hs1,vo⟩,_⟩,aKp,_⟩:=Lx a1 w1 n1 AM;rw [aKp];obtain ⟨I',A9⟩:=Hp hI;obtain ⟨h2,aT6,hk,aT4⟩:=all_append hlen h1 A9;have hme:=Wx ts us L;have hb:∀ k T,bl k L=some T->∃ e7,bl k (jZ ts us L)=some e7/\e7.b=T.b:=λk T hT=>by obtain ⟨e7,q1,bP,_⟩:=hme.old k T hT;exact ⟨e7,q1,bP⟩
    have Lj:dI p7 av W (s3 (asg b) l vs s) (jZ ts us L) R' η a1 w1:=⟨by rw [R1 ha.wf hb];exact hs1,a6y ha.wf hb,hme.ids ha.ids,vo,uq⟩;refine ih (λhh=>hrd hh) (h2 R' η n uq hI) Lj ?_;intro e s' L' Jt O4 a' w' H9 yB hq W4 aC he hu;have htie:=aLQ.trans W4;rw [R1 ha.wf hb] at hu;have bF:bn (λt=>t∈asg b) (s.fr L) (s'.fr L'):=bn.trans (a6z (λv nE=>(hv v nE).1)) hu;have he':Ext L L':=hme.trans he;cases e with
    | normal =>
     simp only [Exit.then];simp only at hq;split at hq
     .rename_i hsub;simp only [Bool.and_eq_true] at hsub;obtain ⟨dM,dF,n2,q4,dw,hj,hlt⟩:=hq;obtain ⟨qP,aJs⟩:=Hp hj;obtain ⟨_,_,hk2,_⟩:=all_append (Nh l _) h1 aJs;have V':=X0 (s:=s.fr L) aC.fT bF (λi=>Wj hsub.1) rfl hk2;have rm:Rel n2 a' w':=⟨_,_,_,_,dM,dF,htie,Nh l _,q4,hj,V',dw w' _ (eZ.meet aC.st aC.ctx he' ha.ids hsub.2)⟩;obtain ⟨k,_,hmk,hkn⟩:=Lx a' w' n2 rm;exact ⟨⟨n2,rm⟩,by rw [hmk];omega⟩
     .exact hq.elim
    | exit n=>exact hQ _ _ _ _ _ _ _ _ _ hq htie aC he' bF
    | goto n=>exact hQ _ _ _ _ _ _ _ _ _ hq htie aC he' bF
    | ret=>exact hQ _ _ _ _ _ _ _ _ _ hq htie aC he' bF
    | panic n=>exact hQ _ _ _ _ _ _ _ _ _ hq htie aC he' bF
    | outgrown=>exact hQ _ _ _ _ _ _ _ _ _ hq htie aC he' bF
   .exact h.elim
 | exit id=>intro rd Q' Q s L R Φ a w ds G hrd h ha hQ;exact wpIn_exit (hQ _ _ _ _ _ _ _ _ _ h (Tie.refl _ _ _) ha (Ext.refl _) (bn.refl _ _))
 | ret=>intro rd Q' Q s L R Φ a w ds G hrd h ha hQ;exact wpIn_ret (hQ _ _ _ _ _ _ _ _ _ h (Tie.refl _ _ _) ha (Ext.refl _) (bn.refl _ _))
 | rangeFunc g ps x U Hz I0 =>
  intro rd Q' Q s L R Φ a w ds G hrd h ha hQ;cases rd with
  | some l=>have:=hrd rfl;cases this
  | none =>
  simp only [oB] at h;split at h
  .rename_i ud cs lb hg;split at h
   .exact h.elim
   .rename_i l ts hl;split at h
    .rename_i hok;simp only [Bool.and_eq_true] at hok;obtain ⟨⟨⟨hps,Ht⟩,aLI⟩,hts⟩:=hok;obtain ⟨hcs,hfn,N,xs,X,A,jD,hit,hfit,⟨R0,aA,kW,hw0,h0⟩,h1⟩:=h;subst hcs;have hge:a.eval g=.func (.func ud) #[] lb:=by rw [ha.fT.eval (by rw [ya,hg];rfl),ya,hg]
     have hme:∀ us,Ext L (jZ ts us L):=λus=>Wx ts us L;have hpl:=aA2 hps;have hst:=ha.st;have W2:sH ts L L=true:=by
      have key:∀ M:List aM,(∀ T∈M,T∈L)->sH ts L M=true:=by
       intro M
       induction M with
       | nil=>intro _;rfl
       | cons T r ihr =>
        intro gu;unfold sH;cases c6 T.id (ts.map (·.1)) with
        | true=>exact ihr λjh cn=>gu jh (List.mem_cons_of_mem _ cn)
        | false =>
         rw [Px ha.ids (gu T (by simp))];simp only [show Nat.beq T.oZ T.oZ=true by simp];exact ihr λjh cn=>gu jh (List.mem_cons_of_mem _ cn)
      exact key L λ_ h=>h
     let Inv:=λ(k:Nat) (uD:List Own) (w1:World)=>∃ us R' η,O η/\AN (fA.app ts jD us) R' η k/\eZ uD W w1 (jZ ts us L) R' η
     have fits:∀ k,k<N->∃ bK,fA.app l A (xs k)=some bK:=λk hk=>by
      have:=hfit k hk;unfold Vm at this;split at this
      .rename_i bK e;exact ⟨bK,e⟩
      .exact this.elim
     have len:∀ k,k<N->(xs k).length=l.length:=λk hk=>by
      obtain ⟨bK,e⟩:=fits k hk;exact fA.KI e
     refine aS2 (W:=W) (G:=G) hge (aJC hfn) hit (λk hk=>by rw [List.size_toArray,len k hk,<-Array.length_toList,<-hpl,List.length_map]) Inv ?_ ?_ ?_ ?_ ?_
     .rintro k uD w1 ⟨us,R',η,hs,hi,c⟩;refine ⟨R'++(jZ ts us L).map aM.own,η,hs,by rw [μ];exact c,λw2 St c2=>⟨us,R',η,hs,hi,by rw [μ] at c2;exact c2⟩⟩
     .rintro k uD w1 ⟨us,R',η,hs,hi,c⟩;obtain ⟨I',A9⟩:=Hp hi;exact ((fA.vg A9 h1).1 R' η k hs hi).1 _ _ c
     .exact ⟨_,R0,aA,kW,h0,eZ.meet kW (hw0 w _ ha.ctx) (Ext.refl L) ha.ids W2⟩
     .rintro lp k uD w1 hk ⟨us,R',η,hs,hi,c⟩;obtain ⟨I',A9⟩:=Hp hi;obtain ⟨bK,aJo⟩:=fits k hk;have h2:=((fA.vg A9 h1).1 R' η k hs hi).2.1 hk;have h3:=(fA.vg aJo h2).1 (hfit k hk);have Lj:dI [] uD W (C' l (xs k) s) (jZ ts us L) R' η { tmps:=(ps.zip (xs k).toArray).foldl (λt (p,v)=>t.setIfInBounds p v) a.tmps,defers:=[] } w1:=by
       obtain ⟨q1,bP⟩:=a95 (L:=jZ ts us L) (l:=l) (vs:=xs k) (s:=s) (a:={ a with defers:=[] }) ⟨rfl,(by rw [ha.wf.fr (hme us)];exact ha.fT.size),λi hi=>(by rw [ha.wf.fr (hme us)] at hi ⊢;exact ha.fT.slot i hi)⟩ (ha.wf.ext (hme us));refine ⟨?_,bP,(hme us).ids ha.ids,c,hs⟩;rw [hpl] at q1;rw [<-Array.foldl_toList,Array.toList_zip];exact q1
      refine Hz (rd:=some lp) (λ_=>Ht) h3 Lj ?_;intro e s1 az aW ψ a1 w2 p7 av hq htie C9 fP _;cases e with
      | normal =>
       obtain ⟨Z,hZ,rfl,rfl⟩:=htie;have hZ:=hZ rfl;subst hZ;refine ⟨aW++az.map aM.own,ψ,C9.st,by rw [μ];exact C9.ctx,λw3 OZ c3=>?_⟩;have VG:dI [] OZ W s1 az aW ψ a1 w3:=⟨C9.fT,C9.wf,C9.ids,by rw [μ] at c3;exact c3,C9.st⟩;refine I0 (rd:=some lp) (λ_=>aLI) hq VG ?_;intro e s2 oq dM dF a2 kG H9 yB cX W4 x5 kT _;cases e with
       | normal =>
        obtain ⟨Z,hZ,rfl,rfl⟩:=W4;have hZ:=hZ rfl;subst hZ;simp only at cX;split at cX
        .rename_i hsub;obtain ⟨jg,hO,qi,F8,hj⟩:=cX;exact ⟨rfl,_,jg,hO,qi,hj,F8 kG _ (eZ.meet x5.st x5.ctx (((hme us).trans fP).trans kT) ha.ids hsub)⟩
        .exact cX.elim
       | _=>exact cX.elim
      | _=>exact hq.elim
     .rintro D w' ⟨us,R',η,hs,hi,c⟩;obtain ⟨I',A9⟩:=Hp hi;have h2:=((fA.vg A9 h1).1 R' η N hs hi).2.2 rfl;refine hQ _ _ _ _ _ _ _ (mark D :: ds) (w7 D :: G) h2 ⟨[D],λhh=>(by cases hh),rfl,rfl⟩ ⟨?_,ha.wf.ext (hme us),(hme us).ids ha.ids,c,hs⟩ (hme us) (by rw [ha.wf.fr (hme us)];exact bn.refl _ _);rw [ha.wf.fr (hme us)];exact ⟨by simp [ha.fT.defers],ha.fT.size,ha.fT.slot⟩
    .exact h.elim
  .exact h.elim
 | scope b ih =>
  intro rd Q' Q s L R Φ a w ds G hrd h ha hQ;simp only [oB] at h;refine aS1 (ih (λhh=>by have:=hrd hh;cases this) h ha ?_);intro e s' L' R' η a' w' p7 av hq htie aC he hu;cases e with
  | goto n=>exact hq.elim
  | normal=>exact hQ _ _ _ _ _ _ _ _ _ hq htie aC he hu
  | exit n=>exact hQ _ _ _ _ _ _ _ _ _ hq htie aC he hu
  | ret=>exact hQ _ _ _ _ _ _ _ _ _ hq htie aC he hu
  | panic n=>exact hQ _ _ _ _ _ _ _ _ _ hq htie aC he hu
  | outgrown=>exact hQ _ _ _ _ _ _ _ _ _ hq htie aC he hu
 | label l=>intro rd Q' Q s L R Φ a w ds G hrd h ha hQ;exact wpIn_label (hQ _ _ _ _ _ _ _ _ _ h (Tie.refl _ _ _) ha (Ext.refl _) (bn.refl _ _))
 | goto l=>intro rd Q' Q s L R Φ a w ds G hrd h;exact h.elim
 | refuse why=>intro rd Q' Q s L R Φ a w ds G hrd h;exact h.elim
theorem YV{P:Program}{W:World}{s:ai}{L:List aM}{R:List Own}{Φ:θ}{a:Act}{w:World}(ha:dI ds G W s L R Φ a w):∀ {l:List ResultVar} {K:List Value->Prop},B1 P W s L R Φ l K ->
  ∃ vs,(l.mapM λr=>(match r with | .tmp t=>pure (a.tmps.getD t undef) | .cell x t=>(do loadVar t (<-asAddr (a.tmps.getD x undef)):Sem Value):Sem Value)).run P w=.ok vs w/\K vs
 | [],K,h=>⟨[],by simp,h⟩
 | .tmp t :: r,K,h=>by
  unfold B1 at h;split at h
  .exact h.elim
  .rename_i hu;obtain ⟨vs,h1,h2⟩:=YV ha h;refine ⟨_,?_,h2⟩;have e:(s.fr L).get t=(vm t s.l).val L:=Q1 L t s.l;rw [List.mapM_cons];simp only [Sem.run_bind,Sem.run_pure,Result.andThen,h1,ha.fT.slot t (by rw [e];exact hu),e]
 | .cell x t :: r,K,h=>by
  unfold B1 at h;have e:(s.fr L).get x=(vm x s.l).val L:=Q1 L x s.l;have done:∀ {b o:Nat} {K2:Value->Prop} {v:Value},(vm x s.l).val L=.pointer (some ⟨b,o,none⟩)->(loadVar t ⟨b,o,none⟩).run P w=.ok v w->(B1 P W s L R Φ r λvs=>K (v :: vs)) ->
    ∃ vs,(((ResultVar.cell x t) :: r).mapM λr=>(match r with | .tmp t=>pure (a.tmps.getD t undef) | .cell x t=>(do loadVar t (<-asAddr (a.tmps.getD x undef)):Sem Value):Sem Value)).run P w=.ok vs w/\K vs:=by
   intro b o K2 v hv hl hk;obtain ⟨vs,h3,h4⟩:=YV ha hk;refine ⟨_,?_,h4⟩;rw [List.mapM_cons];have hx':a.tmps.getD x undef=.pointer (some ⟨b,o,none⟩):=by rw [ha.fT.slot x (by rw [e,hv];rfl),e,hv]
   have aLB:(asAddr (a.tmps.getD x undef)).run P w=.ok ⟨b,o,none⟩ w:=by rw [hx'];rfl
   simp only [Sem.run_bind,Sem.run_pure,Result.andThen,aLB,hl,h3]
  split at h
  .rename_i k off hx;have hw:=ha.wf;obtain ⟨T,hT⟩:=Option.isSome_iff_exists.1 (ij.ev (x:=.tmp x) hw (show s.ev (.tmp x)=.ptr k off from hx));obtain ⟨v,h1,h2⟩:=Wq hT (ha.ctx.blk hT) h;exact done (K2:=λ_=>True) (by rw [hx,lF hT]) (h1 w rfl) h2
  .rename_i b o hx;obtain ⟨v,h1,h2⟩:=Zj (h w _ ha.ctx);exact done (K2:=λ_=>True) (by rw [hx];rfl) (h1 trivial w rfl) h2
  .exact h.elim
theorem a2e(L):∀ (l:List Value) (i:Nat),kF L (Bv i l)=EP i l
 | [],_=>rfl
 | v :: r,i=>by simp only [Bv,EP,kF,a2e L r (i+1),bk.val]
theorem aR2{P W w H f args R}{Φ:θ}[hst:O Φ]{J}(h:Ze P W H f args R Φ J)(c:Ctx W w R Φ):
  Calls P f args w λe w'=>∃ v,e=.returned v/\J v w':=by
 unfold Ze at h;split at h
 .rename_i fn hf;split at h
  .rename_i code hc;have hwf:ij [] (⟨max fn.ntmps args.size,Bv 0 args.toList⟩:ai):=by
    have key:∀ (l:List Value) (i:Nat),∀ p∈Bv i l,∃ v,p.2=bk.v v:=by
     intro l
     induction l with
     | nil=>intro i p hp;cases hp
     | cons v r ih =>
      intro i p hp;rcases List.mem_cons.1 hp with rfl|hp
      .exact ⟨v,rfl⟩
      .exact ih _ p hp
    intro p hp k o e;obtain ⟨v,hv⟩:=key _ _ p hp;rw [hv] at e;cases e
   have hfr:(⟨max fn.ntmps args.size,Bv 0 args.toList⟩:ai).fr []=LI fn args:=by simp only [ai.fr,LI,a2e]
   have HX:dI [] [] W (⟨max fn.ntmps args.size,Bv 0 args.toList⟩:ai) [] R Φ { tmps:=args++Array.replicate (fn.ntmps - args.size) undef,defers:=[] } w :=
    ⟨by rw [hfr];exact aJb fn args,hwf,by simp,by simpa [eZ] using c,hst⟩
   refine (callsIn_wide (n:=0)).1 (callsIn_of_wp_marks (F:=qb none) hf hc trivial (aR8 (rd:=none) code (λhh=>(by cases hh)) h HX ?_));intro e s L' R' η a w' ds' G' hq htie ha _ _;obtain ⟨Z,_,rfl,rfl⟩:=htie;have key:(B1 P W s L' R' η fn.results.toList λvs=>∀ w F,Ctx W w (R'++F) η->J (zF vs) w)->bodyPostM (qb none) 0 P fn (λe w'=>∃ v,e=.returned v/\J v w') .ret a w':=by
    intro hq;show LeavesInM Fence.wide 0 P fn a.tmps _ a.defers .returning w';have:=ha.st;rw [ha.fT.defers,List.append_nil];refine a6i (Φ:=η) Z (R'++L'.map aM.own) w' (by have:=ha.ctx;rw [List.append_nil] at this;rw [μ];exact this) λw2 P6 c2=>?_;rw [μ] at c2;have x5:dI (Z.map mark++[]) P6 W s L' R' η a w2:=⟨ha.fT,ha.wf,ha.ids,c2,ha.st⟩;obtain ⟨vs,h1,h2⟩:=YV x5 hq;refine ⟨zF vs,?_,zF vs,rfl,h2 w2 _ c2⟩
    unfold results;rw [Array.mapM_eq_mapM_toList,map_eq_pure_bind,Sem.run_bind,Sem.run_bind];have e:∀ (r:Result (List Value)),r=.ok vs w2->(((r.andThen λa=>(pure a.toArray:Sem (Array Value)).run P).andThen λvs=>(pure (if h:vs.size=1 then vs[0] else Value.tuple vs):Sem Value).run P))=.ok (zF vs) w2:=by
     intro r hr;subst hr;simp only [Result.andThen,Sem.run_pure,aQq]
    exact e _ h1
   cases e with
   | normal=>exact key hq
   | ret=>exact key hq
   | _=>exact hq.elim
  .exact h.elim
 .exact h.elim
end Go.Vc
end

section
namespace Go.Proofs.YtcmgeboolmmdkaaGreatDoor
set_option maxRecDepth 100000
open Go.Vc
abbrev F.Uh:Nat:=3
abbrev F.Uj:Nat:=4
abbrev F.Ui:Nat:=5
abbrev F.Q9:Nat:=6
abbrev F.Pp:Nat:=7
abbrev F.HN:Nat:=8
abbrev F.HO:Nat:=9
abbrev F.HM:Nat:=10
abbrev F.LV:Nat:=11
abbrev F.HP:Nat:=12
abbrev F.wo:Nat:=13
abbrev F.Q6:Nat:=14
abbrev F.C8:Nat:=15
abbrev F.Q4:Nat:=16
abbrev F.HD:Nat:=17
abbrev F.HQ:Nat:=18
abbrev F.V2:Nat:=19
abbrev F.Pq:Nat:=20
abbrev F.XJ:Nat:=21
abbrev F.T':Nat:=22
abbrev F.QC:Nat:=23
abbrev F.Ei:Nat:=24
abbrev F.Q5:Nat:=25
abbrev F.Q7:Nat:=26
abbrev F.Ep:Nat:=27
abbrev F.LS:Nat:=28
abbrev F.LR:Nat:=29
abbrev F.LU:Nat:=30
abbrev F.LQ:Nat:=31
abbrev F.XG:Nat:=32
abbrev F.HR:Nat:=33
abbrev F.V0:Nat:=34
abbrev F.Pe:Nat:=35
abbrev F.Uy:Nat:=36
abbrev F.Pd:Nat:=37
abbrev F.Er:Nat:=38
abbrev F.V1:Nat:=39
abbrev F.Pf:Nat:=40
abbrev F.Re:Nat:=41
abbrev F.YQ:Nat:=42
abbrev F.LW:Nat:=43
abbrev F.Yy:Nat:=44
abbrev F.Tx:Nat:=45
abbrev F.H8:Nat:=46
abbrev F.Qo:Nat:=47
abbrev F.QA:Nat:=48
abbrev F.YN:Nat:=49
abbrev F.QB:Nat:=50
abbrev F.LY:Nat:=51
abbrev F.Bz:Nat:=52
abbrev F.LZ:Nat:=53
abbrev F.La:Nat:=54
abbrev F.PW:Nat:=55
abbrev F.YK:Nat:=56
abbrev F.V3:Nat:=57
abbrev F.XC:Nat:=58
abbrev F.Q8:Nat:=59
abbrev F.YR:Nat:=60
abbrev F.XD:Nat:=61
abbrev F.U':Nat:=62
abbrev F.YL:Nat:=63
abbrev F.YO:Nat:=64
abbrev F.XF:Nat:=65
abbrev F.XE:Nat:=66
abbrev F.XI:Nat:=67
abbrev F.Uz:Nat:=68
abbrev F.Lb:Nat:=69
abbrev F.LX:Nat:=70
abbrev F.Yx:Nat:=71
abbrev F.Io:Nat:=72
abbrev F.QD:Nat:=73
abbrev F.XH:Nat:=74
abbrev F.NK:Nat:=75
abbrev F.a6u:Nat:=76
abbrev F.Yw:Nat:=77
abbrev F.a6t:Nat:=78
abbrev F.Pj:Nat:=79
abbrev F.WJ:Nat:=80
abbrev F.Ke:Nat:=81
abbrev F.WK:Nat:=82
abbrev F.WE:Nat:=83
abbrev F.YM:Nat:=84
abbrev F.Pg:Nat:=85
abbrev F.Kg:Nat:=86
abbrev F.Ty:Nat:=87
abbrev F.xg:Nat:=88
abbrev F.Rj:Nat:=89
abbrev F.Ft:Nat:=90
abbrev F.PU:Nat:=91
abbrev F.G7:Nat:=92
abbrev F.sP:Nat:=93
abbrev F.NN:Nat:=94
abbrev F.Ip:Nat:=95
abbrev F.z7:Nat:=96
abbrev F.R8:Nat:=97
abbrev F.R7:Nat:=98
abbrev F.JP:Nat:=99
abbrev F.O1:Nat:=100
abbrev F.O2:Nat:=101
abbrev F.zM:Nat:=102
abbrev F.YU:Nat:=103
abbrev F.Rh:Nat:=104
abbrev F.Ri:Nat:=105
abbrev F.Rf:Nat:=106
abbrev F.Rg:Nat:=107
abbrev F.Im:Nat:=108
abbrev F.YP:Nat:=109
abbrev F.NM:Nat:=110
abbrev F.PV:Nat:=111
abbrev F.zL:Nat:=112
abbrev F.NL:Nat:=113
abbrev F.HS:Nat:=114
abbrev F.WH:Nat:=115
abbrev F.WI:Nat:=116
abbrev F.HT:Nat:=117
abbrev F.WG:Nat:=118
abbrev F.IQ:Nat:=119
abbrev F.SZ:Nat:=120
abbrev F.CO:Nat:=122
abbrev F.Yz:Nat:=123
abbrev F.a3q:Nat:=124
abbrev F.Wu:Nat:=125
abbrev F.a3r:Nat:=126
abbrev F.JQ:Nat:=127
abbrev F.Z0:Nat:=128
abbrev F.YT:Nat:=129
abbrev F.Z1:Nat:=130
abbrev F.vQ:Nat:=131
abbrev F.a0L:Nat:=132
abbrev F.z8:Nat:=133
abbrev F.YS:Nat:=134
abbrev F.Kf:Nat:=135
abbrev F.Tn:Nat:=136
abbrev F.strconv_Itoa:Nat:=137
abbrev F.Sa:Nat:=138
abbrev F.Qn:Nat:=139
abbrev F.ZD:Nat:=140
abbrev F.aAd:Nat:=141
abbrev F.Z2:Nat:=142
abbrev F.strings_IndexByte:Nat:=143
abbrev F.strconv_Atoi:Nat:=144
abbrev F.Z3:Nat:=145
abbrev F.strings_CutPrefix:Nat:=146
abbrev F.Tz:Nat:=147
abbrev F.aAe:Nat:=149
abbrev Γ(f:FuncId)(a:Array Value)(w:World)(K:Dn):Prop:=Calls prog f a w K
abbrev aR(f:FuncId)(a:Array Value)(B:World->List Own->θ->(Value->World->Prop)->Prop):Prop:=∀ ⦃W w:World⦄ ⦃R:List Own⦄ ⦃Φ:θ⦄ [O Φ] ⦃J:Value->World->Prop⦄,Ctx W w R Φ->B W R Φ J->Calls prog f a w λe w'=>∃ v,e=.returned v/\J v w'
abbrev hV(l:List Nat):Dr:={keep:=some l}
theorem aT{f:FuncId}{a:Array Value}{B:World->List Own->θ->(Value->World->Prop)->Prop}(H:Dr)(h:∀ W R Φ J,Ze prog W H f a R Φ J=B W R Φ J:=by intros;kernel_rfl):aR f a B:=λ_ _ _ _ _ _ c g=>aR2 (H:=H) (by rw [h];exact g) c
abbrev OW:=World->List Own->θ->(Value->World->Prop)->Prop
abbrev ν(b o:Nat):Addr:=⟨b,o,none⟩
abbrev ie(b o:Nat):Option Addr:=some ⟨b,o,none⟩
abbrev I(n:Int):Value:=.int .i64 n
abbrev ο(W:World)(R:List Own)(Φ:List Nat->World->Prop)(f:FuncId)(a:Array Value)(k:Ending->((List Own->(List Nat->World->Prop)->Prop)->Prop)->Prop):Prop:=∀ (w:World) (F:List Own),Ctx W w (R++F) Φ->Calls prog f a w λe w'=>k e λq=>∃ (R':List Own) (η:List Nat->World->Prop),O η/\Ctx W w' (R'++F) η/\q R' η
theorem ak{P:Program}{f:FuncId}{a:Array Value}{w:World}{K:Ending->World->Prop}(h:Calls P f a w λe w'=>∃ v,e=.returned v/\K (.returned v) w'):Calls P f a w K:=h.mono λe w' ⟨v,he,hj⟩=>by rw [he];exact hj
theorem aDx(σ τ:Nat)(data:ByteArray):aR F.YQ #[ε σ τ,.string data] λW R Φ J=>
 ∀ (k0:Nat) w1 dM,Ctx W w1 (Own.blk k0 [Value.bool false,I 0,I 0,I 0,Value.slice none 0 0,Value.slice none 0 0] 70 :: R++dM) Φ->∃ cN,w1.cell? (ν σ (τ+4))=some (I cN)/\γ (decide (cN≠2)) (∀ kG ag,Ctx W kG (Own.blk k0 [Value.bool false,I 0,I 0,I 0,Value.slice none 0 0,Value.slice none 0 0] 70 :: R++ag) Φ->au kG k0 0 6/\∀ lG,lG=kG.setCells k0 0 [Value.bool false,I 0,I 0,I 0,Value.slice none 0 0,Value.slice none 0 0]->∃ cO fV,O fV/\Ctx W lG (cO++ag) fV/\π W cO fV λfJ=>∃ su nu j6 jk mz l8 dK xY l9 tN,bS fJ k0 0 [Value.bool su,I nu,I j6,I jk,Value.slice mz l8 dK,Value.slice xY l9 tN]/\ι W cO fV J (Value.tuple #[I 0,I 24,Value.agg #[.bool su,I nu,I j6,I jk,.slice mz l8 dK,.slice xY l9 tN]])) (γ (decide (2000<(↑data.size:Int))) (∀ oD iQ,Ctx W oD (Own.blk k0 [Value.bool false,I 0,I 0,I 0,Value.slice none 0 0,Value.slice none 0 0] 70 :: R++iQ) Φ->au oD k0 0 6/\∀ ja,ja=oD.setCells k0 0 [Value.bool false,I 0,I 0,I 0,Value.slice none 0 0,Value.slice none 0 0]->∃ jP nV,O nV/\Ctx W ja (jP++iQ) nV/\π W jP nV λnR=>∃ wh kX n32 kY nP qn rz Ct nJ CS,bS nR k0 0 [Value.bool wh, I kX,I n32,I kY,Value.slice nP qn rz,Value.slice Ct nJ CS]/\ι W jP nV J (Value.tuple #[I 0,I 1,Value.agg #[.bool wh,I kX,I n32,I kY,.slice nP qn rz,.slice Ct nJ CS]])) (π W (Own.blk k0 [Value.bool false,I 0,I 0,I 0,Value.slice none 0 0,Value.slice none 0 0] 70 :: R) Φ λtv=>∃ aO4 a6V I8,tv.cell? (ν σ (τ+3))=some (.slice aO4 a6V I8)/\γ (decide ((↑a6V:Int)=4000)) (∀ vP wS,Ctx W vP (Own.blk k0 [Value.bool false,I 0,I 0,I 0,Value.slice none 0 0,Value.slice none 0 0] 70 :: R++wS) Φ->au vP k0 0 6/\∀ (wJ:World),wJ = vP.setCells k0 0 [Value.bool false,I 0,I 0,I 0,Value.slice none 0 0,Value.slice none 0 0]->∃ si zR,O zR/\Ctx W wJ (si++wS) zR/\π W si zR λqH=>∃ a3H w9 Ce nv Cx tP CV a8S MK CW,bS qH k0 0 [Value.bool a3H,I w9,I Ce,I nv,Value.slice Cx tP CV,Value.slice a8S MK CW]/\ι W si zR J (Value.tuple #[I 0,I 6,Value.agg #[.bool a3H,I w9,I Ce,I nv,.slice Cx tP CV,.slice a8S MK CW]])) (π W (Own.blk k0 [Value.bool false,I 0,I 0,I 0,Value.slice none 0 0,Value.slice none 0 0] 70 :: R) Φ λxq=>∃ vA,xq.cell? (ν σ (τ+1))=some (I vA)/\∀ (b:Nat),∃ oK rD,O rD/\aE W (Own.blk k0 [Value.bool false,I 0,I 0,I 0,Value.slice none 0 0,Value.slice none 0 0] 70 :: R) Φ (oK) rD/\∃ (a8W:Option Addr) (xN a6Y:Nat),(π W oK rD λG5=>∃ IY IB Af,G5.cell? (ν σ (τ+3))=some (.slice IY IB Af)/\Value.slice IY IB Af=Value.slice a8W xN a6Y)/\∀ (IC:Nat),aE W (Own.blk IC [I vA,.string data] 76 :: Own.blk k0 [Value.bool false,I 0,I 0,I 0,Value.slice none 0 0,Value.slice none 0 0] 70 :: R) Φ (oK) rD/\∀ DY E7,Ctx W DY (Own.blk IC [I vA,.string data] 76 :: Own.blk k0 [Value.bool false,I 0,I 0,I 0,Value.slice none 0 0, Value.slice none 0 0] 70 :: R++E7) Φ->∃ N2 FK FL SR,Sem.run prog (builtin Builtin.append #[43,43] 43 #[false,false] #[.slice a8W xN a6Y,.slice (ie IC 0) 1 1]) DY=.ok (.value (.slice N2 FK FL)) SR/\∃ KA Jc,O Jc/\Ctx W SR (KA++E7) Jc/\aE W KA Jc oK rD/\∀ a09 Bm,Ctx W a09 (KA++Bm) Jc->au a09 σ (τ+3) 1/\∀ SS,SS=a09.setCell (ν σ (τ+3)) (Value.slice N2 FK FL)->∃ ve uB,O uB/\Ctx W SS (ve++Bm) uB/\∃ uO u5,O u5/\aE W ve uB uO u5/\∃ (aO0:Option Addr) (xJ I2:Nat),(π W uO u5 λNs=>∃ Cq tM AV,Ns.cell? (ν σ (τ+3))=some (.slice Cq tM AV)/\Value.slice Cq tM AV=Value.slice aO0 xJ I2)/\∃ (RI:Option Addr) (yh FC:Nat),(π W uO u5 λSI=>∃ Mn xK MA,SI.cell? (ν σ (τ+3))=some (.slice Mn xK MA)/\Value.slice Mn xK MA=Value.slice RI yh FC)/\(∀ (FD:Nat),aE W (Own.blk FD [I vA,.string data] 76 :: ve) uB (uO) u5/\(ο W (Own.blk FD [I vA,.string data] 76 :: ve) uB F.Io #[ε σ τ] λaHy q=>∃ a7v a61 MB,aHy=.returned (.slice a7v a61 MB)/\q λBi aCE=>aE W Bi aCE uO u5/\(∀ Zs Bj,Ctx W Zs (Bi++Bj) aCE->au Zs k0 0 6/\∀ SJ,SJ=Zs.setCells k0 0 [Value.bool false,I 0,I 0,I (↑yh:Int),Value.slice (ie FD 0) 1 1,Value.slice a7v a61 MB]->∃ Ow O9,O O9/\Ctx W SJ (Ow++Bj) O9/\aE W Ow O9 uO u5/\π W Ow O9 λaRR=>∃ a2w n143 n144 n145 a82 a69 ME a83 CR a6A,bS aRR k0 0 [Value.bool a2w,I n143,I n144,I n145,Value.slice a82 a69 ME,Value.slice a83 CR a6A]/\ι W Ow O9 J (Value.tuple #[I (↑xJ:Int),I 0,Value.agg #[.bool a2w,I n143,I n144,I n145,.slice a82 a69 ME,.slice a83 CR a6A]]))/\True)/\True)/\(∀ SK a1c,Ctx W SK (ve++a1c) uB->Γ F.Io #[ε σ τ] SK λUC SL=>∃ a89 Qq a6B,UC=.returned (.slice a89 Qq a6B)/\∃ zh GC,O GC/\Ctx W SL (zh++a1c) GC /\ aE W zh GC uO u5/\(∀ (MG:Nat),aE W (Own.blk MG [I vA,.string data] 76 :: zh) GC (uO) u5/\(∀ zI yG,Ctx W zI (Own.blk MG [I vA,.string data] 76 :: zh++yG) GC->au zI k0 0 6/\∀ DV,DV=zI.setCells k0 0 [Value.bool false,I 0,I 0,I (↑yh:Int),Value.slice (ie MG 0) 1 1,Value.slice a89 Qq a6B]->∃ yH BT,O BT/\Ctx W DV (yH++yG) BT/\aE W yH BT uO u5/\π W yH BT λSN=>∃ a2z n178 n179 n180 a8E I6 a6H a8F a6I a6J,bS SN k0 0 [Value.bool a2z,I n178,I n179,I n180,Value.slice a8E I6 a6H,Value.slice a8F a6I a6J]/\ι W yH BT J (Value.tuple #[I (↑xJ:Int),I 0,Value.agg #[.bool a2z,I n178,I n179,I n180,.slice a8E I6 a6H,.slice a8F a6I a6J]]))/\True)/\True)/\True))):=aT {hV [0,1,4,5,6,7,8,15,20] with gO:=[7],iC:=[(8,[.held [(0,true),(1,true),(5,true),(2,true),(3,true),(4,true),(6,false),(7,false)],.bJ [8] none,.bJ [9] (some 10)]),(9,[.tree (.rd 0 (.rd 5 (.rd 10 (.rd 12 (.rd 1 (.rd 6 (.rd 2 (.rd 7 (.rd 3 (.rd 8 (.rd 4 (.rd 9 (.alt 11 (.alt 13 (.rd 14 (.rd 15 (.rd 16 (.alt 17 (.done) (.no))))) (.no)) (.alt 13 (.rd 15 (.rd 16 (.alt 11 (.rd 14 (.alt 17 (.done) (.no))) (.no)))) (.no))))))))))))))) 18])] }
theorem aDu(σ τ:Nat):aR F.YN #[ε σ τ] λW R Φ J=>
 ∀ (b:Nat) w0 aW,Ctx W w0 (R++aW) Φ->∃ n2 cN,bS w0 σ (τ+1) [I n2,I cN]/\ι W R Φ J (Value.agg #[I n2,I cN]):=aT {hV [0,2] with gO:=[2] }
theorem aDq(id:Int)(h0:Int)(h1:Int)(IE:Option Addr)(Cb MP:Nat):aR F.YK #[.int .i64 id,.agg #[.int .i64 h0,.int .i64 h1],.slice IE Cb MP] λW R Φ J=>
 ∀ (b:Nat) w0 aW,Ctx W w0 (R++aW) Φ->Γ F.xg #[I id,I 0,I 2] w0 λe2 w3=>∃ c4,e2=.returned (.bool c4)/\∃ ag an,O an/\Ctx W w3 (ag++aW) an/\γ (!c4) (ι W ag an J (.pointer none)) (ο W ag an F.xg #[I h0,I 0,I 1099511627776] λEc q=>∃ a2u,Ec=.returned (.bool a2u)/\q λjF kH=>γ (!a2u) (ι W jF kH J (.pointer none)) (ο W jF kH F.xg #[I h1,I (-1),I 2] λKq q=>∃ a33,Kq=.returned (.bool a33)/\q λoJ qK=>γ (!a33) (ι W oJ qK J (.pointer none)) (γ (decide (4000<(↑Cb:Int))) (ι W oJ qK J (.pointer none)) (ο W oJ qK F.Rj #[.slice IE Cb MP,I 1,I h0] λKv q=>∃ yP,Kv=.returned (.bool yP)/\q λiE mT=>γ (!yP) (ι W iE mT J (.pointer none)) (∃ kM kK,O kK/\aE W iE mT kM kK/\ο W iE mT F.Ft #[.slice IE Cb MP] λL1 q=>∃ Xn xM vz,L1=.returned (.slice Xn xM vz)/\q λkN lI=>aE W kN lI kM kK/\∀ (I9:Nat),aE W (Own.blk I9 [I id,I h0,I h1,.slice Xn xM vz,I 0,I 0,.bool false,.bool false,.bool false, I 0,I 0,I 0,I 0,I 0,I 0] 112 :: kN) lI (kM) kK/\ι W (Own.blk I9 [I id,I h0,I h1,.slice Xn xM vz,I 0,I 0,.bool false,.bool false,.bool false,I 0,I 0,I 0,I 0,I 0,I 0] 112 :: kN) lI J (ε I9 0)))))):=aT {hV [0,2,4,6,33] with gO:=[4],iC:=[(3,[.held [(0,true),(1,true),(2,true),(3,false),(4,true),(5,false)],.bJ [6] none])],split:=[1] }
theorem aDy(σ τ:Nat):aR F.YR #[ε σ τ] λW R Φ J=>
 ∀ (b:Nat) w0 aW,Ctx W w0 (R++aW) Φ->∃ n2,w0.cell? (ν σ (τ+4))=some (I n2)/\γ (decide (n2=2)) (ο W R Φ F.Io #[ε σ τ] λbz q=>∃ gM pH fQ,bz=.returned (.slice gM pH fQ)/\q λpY JT=>ι W pY JT J (Value.agg #[.bool false,I 0,I 0,I 0,.slice none 0 0,.slice gM pH fQ])) (π W R Φ λiO=>∃ cq,iO.cell? (ν σ (τ+1))=some (I cq)/\γ (decide (cq=1099511627776)) (ι W R Φ J (Value.agg #[.bool false,I 0,I 0,I 0,.slice none 0 0,.slice none 0 0])) (π W R Φ λmP=>∃ nL,mP.cell? (ν σ τ)=some (I nL)/\π W R Φ λsL=>∃ dP,sL.cell? (ν σ (τ+1))=some (I dP)/\κ (dP+1)/\∀ ja jP,Ctx W ja (R++jP) Φ->au ja σ (τ+1) 2/\∀ oa,oa=ja.setCells σ (τ+1) [I (dP+1),I nL]->∃ ow y2,O y2/\Ctx W oa (ow++jP) y2/\∀ sM lq,Ctx W sM (ow++lq) y2->au sM σ (τ+4) 1/\∀ ob,ob=sM.setCell (ν σ (τ+4)) (I 1)->∃ gm gF,O gF/\Ctx W ob (gm++lq) gF/\∀ mQ gp,Ctx W mQ (gm++gp) gF->au mQ σ (τ+6) 3/\∀ oE,oE=mQ.setCells σ (τ+6) [Value.bool false,Value.bool false,Value.bool false]->∃ kM kK,O kK/\Ctx W oE (kM++gp) kK/\∃ mY lH,O lH/\aE W kM kK mY lH/\π W kM kK λsN=>∃ iK,sN.cell? (ν σ τ)=some (I iK)/\(0<=iK/\iK<3)/\∀ vP wS,Ctx W vP (kM++wS) kK->au vP σ (τ+6+iK.toNat) 1/\∀ wJ,wJ=vP.setCell (ν σ (τ+6+iK.toNat)) (Value.bool true)->∃ si zR,O zR/\Ctx W wJ (si++wS) zR/\aE W si zR mY lH/\π W si zR λBL=>∃ Ce nv,bS BL σ (τ+1) [I Ce,I nv]/\∀ (b:Nat) BM zj,Ctx W BM (si++zj) zR->Γ F.NN #[ε σ τ] BM λUO JK=>∃ My CW We,UO=.returned (.slice My CW We)/\∃ sn rC,O rC/\Ctx W JK (sn++zj) rC/\eE λ(Bb:Int->Bool->Int->Int->Int->Option Addr->Nat->Nat->Option Addr->Nat->Nat->List Own->θ->Nat->Prop)=>(iF W sn rC (Bb 0 true Ce nv 0 none 0 0 none 0 0))/\∀ mL Ti IM pJ s7 IY IB Af Xq xO tQ vc Jo w5,O Jo->Bb mL Ti IM pJ s7 IY IB Af Xq xO tQ vc Jo w5->γ (decide (mL<(↑CW:Int))) (kQ mL CW My λFK FL=>π W vc Jo λSR=>∃ xV,SR.cell? (ν FK (FL+mL.toNat))=some (I xV)/\ο W vc Jo F.Ip #[ε σ τ,I 0,I xV] λUW q=>∃ yo Mb Mc n99 n100 n101 n102 a2s a7q I2 a5x,UW=.returned (Value.agg #[I yo,I Mb,I Mc,I n99,I n100,I n101,I n102,.bool a2s,.slice a7q I2 a5x])/\q λaFh aSC=>∀ (tM:Nat) DO Jv,Ctx W DO (Own.blk tM [I 0,I 0,I 0,I 0,I 0,I 0,I 0,.bool false,.slice none 0 0] 104 :: aFh++Jv) aSC->au DO tM 0 9/\∀ JG,JG=DO.setCells tM 0 [I yo,I Mb,I Mc,I n99,I n100,I n101,I n102,.bool a2s,.slice a7q I2 a5x]->∃ Ge Sd,O Sd/\Ctx W JG (Ge++Jv) Sd/\∃ ou nT,O nT/\aE W Ge Sd ou nT/\∃ (aO1:Option Addr) (a5z Qp:Nat),(π W ou nT λzH=>∃ vF CQ xL,zH.cell? (ν σ (τ+3))=some (.slice vF CQ xL)/\Value.slice vF CQ xL=Value.slice aO1 a5z Qp)/\∃ (aO2:Option Addr) (MB aM7:Nat),(π W ou nT λFz=>∃ a7x a63 MD,Fz.cell? (ν σ (τ+3))=some (.slice a7x a63 MD) /\ Value.slice a7x a63 MD=Value.slice aO2 MB aM7)/\ο W Ge Sd F.z7 #[ε σ τ,I (↑MB:Int)] λUB q=>∃ n139,UB=.returned (I n139)/\q λwQ BR=>aE W wQ BR ou nT/\∀ G1 K0,Ctx W G1 (wQ++K0) BR->au G1 tM 4 1/\∀ Nw,Nw=G1.setCell (ν tM 4) (I (↑a5z:Int))->∃ E1 BS,O BS/\Ctx W Nw (E1++K0) BS/\aE W E1 BS ou nT/\∀ Nx Gh,Ctx W Nx (E1++Gh) BS->au Nx tM 5 1/\∀ aBd,aBd=Nx.setCell (ν tM 5) (I n139)->∃ yF xz,O xz/\Ctx W aBd (yF++Gh) xz/\π W yF xz λZw=>∃ n158 n159 n160 n161 n162 n163 n164 a2y a8A FE a6C,bS Zw tM 0 [I n158,I n159,I n160,I n161,I n162,I n163,I n164,.bool a2y,.slice a8A FE a6C]/\∀ (a6D:Nat) DV yH,Ctx W DV (Own.blk a6D [I n158,I n159,I n160,I n161,I n162,I n163,I n164,.bool a2y,.slice a8A FE a6C] 104 :: yF++yH) xz->∃ a8C a6E a6F SN,Sem.run prog (builtin Builtin.append #[68,68] 68 #[false,false] #[.slice Xq xO tQ,.slice (ie a6D 0) 1 1]) DV=.ok (.value (.slice a8C a6E a6F)) SN/\∃ a1g a0a,O a0a/\Ctx W SN (a1g++yH) a0a/\κ (mL+1)/\eD W a1g a0a w5 (Bb (mL+1) Ti IM pJ s7 IY IB Af a8C a6E a6F)) (ι W vc Jo J (Value.agg #[.bool Ti,I IM,I pJ,I s7,.slice IY IB Af,.slice Xq xO tQ])))):=aT {hV [0,2,3,5,6,11,20,57,58,59,60] with gO:=[2,3],iC:=[(5,[.bJ [0,1,7,2,8,3,9,4,10,5,6,11] none,.bJ [12] none,.bJ [13] (some 14)]),(7,[.late [0,1,2,3,4,7] [0,1,2,5,3,6,4,7] [(8,[])]]),(13,[.held [(0,true),(5,true),(6,true),(1,true),(7,true),(2,true),(8,true),(3,true),(9,true),(4,true),(10,true),(12,true),(11,false),(13,false)],.bJ [14] (some 15)])],loops:=[(10,[(59,.one (.int .i64))],[(3,.agg [.bool,.int .i64,.int .i64,.int .i64,.slice,.slice])])] }
theorem aDv(σ τ:Nat)(m0:Int)(m1:Int)(m2:Int)(m3:Int)(m4:Int)(m5:Int)(m6:Int)(m7:Bool)(jJ:Option Addr)(eY jY:Nat):aR F.YO #[ε σ τ,.agg #[.int .i64 m0,.int .i64 m1,.int .i64 m2,.int .i64 m3,.int .i64 m4,.int .i64 m5,.int .i64 m6,.bool m7,.slice jJ eY jY]] λW R Φ J=>
 ∀ (b b:Nat) w0 aW,Ctx W w0 (R++aW) Φ->Γ F.YU #[ε σ τ,Value.agg #[I m0,I m1,I m2,I m3,I m4,I m5,I m6,.bool m7,.slice jJ eY jY]] w0 λe2 w3=>∃ c4,e2=.returned (.bool c4)/\∃ ag an,O an/\Ctx W w3 (ag++aW) an/\γ (!c4) (ι W ag an J (Value.agg #[.bool false,I 0,I 0,I 0,.slice none 0 0,.slice none 0 0])) (π W ag an λfJ=>∃ gY nu,bS fJ σ (τ+1) [I gY,I nu]/\∀ (b:Nat) vN jF,Ctx W vN (ag++jF) an->∃ cx,vN.cell? (ν σ (τ+1))=some (I cx)/\γ (decide (cx<m3)) (∀ fj cK,Ctx W fj (ag++cK) an->au fj σ (τ+1) 2/\∀ (iD:World),iD = fj.setCells σ (τ+1) [I m3,I (-1)]->∃ de fm,O fm/\Ctx W iD (de++cK) fm/\∀ jM jw,Ctx W jM (de++jw) fm->au jM σ (τ+4) 1/\∀ oD,oD=jM.setCell (ν σ (τ+4)) (I 0)->∃ iQ jb,O jb/\Ctx W oD (iQ++jw) jb/\∀ (b:Nat),γ (decide (m0=0)) (ο W iQ jb F.Rh #[ε σ τ,Value.agg #[I m0,I m1,I m2,I m3,I m4,I m5,I m6,.bool m7,.slice jJ eY jY]] λEf q=>∃ wh kX n32 kY nP qn rz Ct nJ CS,Ef=.returned (Value.agg #[.bool wh,I kX,I n32,I kY,.slice nP qn rz,.slice Ct nJ CS])/\q λmY lH=>∀ tv qT,Ctx W tv (mY++qT) lH -> ∃ xU n45,bS tv σ (τ+1) [I xU,I n45]/\r0 prog 67=true/\γ (!(decide (xU=gY)&&(decide (n45=nu)&&true))) (∃ lN qL,O qL/\aE W mY lH lN qL/\∃ (v8 MV:Int),(π W lN qL λqH=>∃ MW w9,bS qH σ (τ+1) [I MW,I w9]/\Value.agg #[I MW,I w9]=Value.agg #[I v8,I MV])/\aE W mY lH lN qL/\aE W mY lH lN qL/\ι W mY lH J (Value.agg #[.bool true,I v8,I MV,I kY,.slice nP qn rz,.slice Ct nJ CS])) (ι W mY lH J (Value.agg #[.bool wh,I kX,I n32,I kY,.slice nP qn rz,.slice Ct nJ CS]))) (γ (decide (m0=1)) (ο W iQ jb F.Ri #[ε σ τ,Value.agg #[I m0,I m1,I m2,I m3,I m4,I m5,I m6,.bool m7,.slice jJ eY jY]] λL4 q=>∃ a3L vB Aq IL Xo uw xN Xp Ae CX,L4=.returned (Value.agg #[.bool a3L,I vB,I Aq,I IL,.slice Xo uw xN,.slice Xp Ae CX])/\q λuM y6=>π W uM y6 λaRr=>∃ pK a7K,bS aRr σ (τ+1) [I pK,I a7K]/\r0 prog 67=true/\γ (!(decide (pK=gY)&&(decide (a7K=nu)&&true))) (∃ vc OL,O OL/\aE W uM y6 vc OL/\∃ (IP FQ:Int),(π W vc OL λa06=>∃ Ch oT,bS a06 σ (τ+1) [I Ch,I oT]/\Value.agg #[I Ch,I oT]=Value.agg #[I IP,I FQ])/\aE W uM y6 vc OL/\aE W uM y6 vc OL/\ι W uM y6 J (Value.agg #[.bool true,I IP,I FQ,I IL,.slice Xo uw xN,.slice Xp Ae CX])) (ι W uM y6 J (Value.agg #[.bool a3L,I vB,I Aq,I IL,.slice Xo uw xN,.slice Xp Ae CX]))) (γ (decide (m0=2)) (ο W iQ jb F.Rf #[ε σ τ,Value.agg #[I m0,I m1,I m2,I m3,I m4,I m5,I m6,.bool m7,.slice jJ eY jY]] λU7 q=>∃ KR n107 n108 n109 IW AW yh Au rq uv,U7=.returned (Value.agg #[.bool KR,I n107,I n108,I n109,.slice IW AW yh,.slice Au rq uv])/\q λBg Db=>π W Bg Db λFy=>∃ n120 n121,bS Fy σ (τ+1) [I n120,I n121]/\r0 prog 67=true/\γ (!(decide (n120=gY)&&(decide (n121=nu)&&true))) (∃ Dz O8,O O8/\aE W Bg Db Dz O8/\∃ (n126 n127:Int),(π W Dz O8 λDS=>∃ n130 n131,bS DS σ (τ+1) [I n130,I n131]/\Value.agg #[I n130,I n131]=Value.agg #[I n126,I n127])/\aE W Bg Db Dz O8/\aE W Bg Db Dz O8/\ι W Bg Db J (Value.agg #[.bool true,I n126,I n127,I n109,.slice IW AW yh,.slice Au rq uv])) (ι W Bg Db J (Value.agg #[.bool KR,I n107,I n108,I n109,.slice IW AW yh,.slice Au rq uv]))) (γ (decide (m0=3)) (ο W iQ jb F.Rg #[ε σ τ,Value.agg #[I m0,I m1,I m2,I m3,I m4,I m5,I m6,.bool m7,.slice jJ eY jY]] λaI5 q=>∃ a2x n145 n146 n147 Xd MF CR Xe WM WN,aI5=.returned (Value.agg #[.bool a2x,I n145,I n146,I n147,.slice Xd MF CR,.slice Xe WM WN])/\q λyF xz=>π W yF xz λZw=>∃ n158 n159,bS Zw σ (τ+1) [I n158,I n159]/\r0 prog 67=true/\γ (!(decide (n158=gY)&&(decide (n159=nu)&&true))) (∃ E2 Dd,O Dd/\aE W yF xz E2 Dd/\∃ (n164 n165:Int),(∀ aBi aFk,Ctx W aBi (E2++aFk) Dd -> ∃ n168 n169,bS aBi σ (τ+1) [I n168,I n169]/\Value.agg #[I n168,I n169]=Value.agg #[I n164,I n165])/\aE W yF xz E2 Dd/\aE W yF xz E2 Dd/\ι W yF xz J (Value.agg #[.bool true,I n164,I n165,I n147,.slice Xd MF CR,.slice Xe WM WN])) (ι W yF xz J (Value.agg #[.bool a2x,I n145,I n146,I n147,.slice Xd MF CR,.slice Xe WM WN]))) (π W iQ jb λaRW=>∃ n180 n181,bS aRW σ (τ+1) [I n180,I n181]/\r0 prog 67=true/\γ (!(decide (n180=gY)&&(decide (n181=nu)&&true))) (∃ Gi GF,O GF/\aE W iQ jb Gi GF/\∃ (n186 n187:Int),(π W Gi GF λaRX=>∃ n190 n191,bS aRX σ (τ+1) [I n190,I n191]/\Value.agg #[I n190,I n191]=Value.agg #[I n186,I n187])/\aE W iQ jb Gi GF/\aE W iQ jb Gi GF/\ι W iQ jb J (Value.agg #[.bool true,I n186,I n187,I 0,.slice none 0 0,.slice none 0 0])) (ι W iQ jb J (Value.agg #[.bool false,I 0,I 0,I 0,.slice none 0 0,.slice none 0 0]))))))) (∀ (b:Nat),γ (decide (m0=0)) (∀ aBl a1k,Ctx W aBl (ag++a1k) an->Γ F.Rh #[ε σ τ,Value.agg #[I m0,I m1,I m2,I m3,I m4,I m5,I m6,.bool m7,.slice jJ eY jY]] aBl λUF aRa=>∃ KT n205 n206 n207 Xg WQ WR IX AX I7, UF=.returned (Value.agg #[.bool KT,I n205,I n206,I n207,.slice Xg WQ WR,.slice IX AX I7])/\∃ qS oe,O oe/\Ctx W aRa (qS++a1k) oe/\π W qS oe λSO=>∃ n218 n219,bS SO σ (τ+1) [I n218,I n219]/\r0 prog 67=true/\γ (!(decide (n218=gY)&&(decide (n219=nu)&&true))) (∃ Oy OC,O OC/\aE W qS oe Oy OC/\∃ (n224 n225:Int),(π W Oy OC λaRb=>∃ n228 n229,bS aRb σ (τ+1) [I n228,I n229]/\Value.agg #[I n228,I n229]=Value.agg #[I n224,I n225])/\aE W qS oe Oy OC/\aE W qS oe Oy OC/\ι W qS oe J (Value.agg #[.bool true,I n224,I n225,I n207,.slice Xg WQ WR,.slice IX AX I7])) (ι W qS oe J (Value.agg #[.bool KT,I n205,I n206,I n207,.slice Xg WQ WR,.slice IX AX I7]))) (γ (decide (m0=1)) (ο W ag an F.Ri #[ε σ τ,Value.agg #[I m0,I m1,I m2,I m3,I m4,I m5,I m6,.bool m7,.slice jJ eY jY]] λaIS q=>∃ a35 n243 n244 n245 Xh WS WT Xi WU WV,aIS=.returned (Value.agg #[.bool a35,I n243,I n244,I n245,.slice Xh WS WT,.slice Xi WU WV])/\q λGj JY=>π W Gj JY λaRf=>∃ n256 n257,bS aRf σ (τ+1) [I n256,I n257]/\r0 prog 67 = true/\γ (!(decide (n256=gY)&&(decide (n257=nu)&&true))) (∃ P0 OE,O OE/\aE W Gj JY P0 OE/\∃ (n262 n263:Int),(π W P0 OE λSP=>∃ n266 n267,bS SP σ (τ+1) [I n266,I n267]/\Value.agg #[I n266,I n267]=Value.agg #[I n262,I n263])/\aE W Gj JY P0 OE/\aE W Gj JY P0 OE/\ι W Gj JY J (Value.agg #[.bool true,I n262,I n263,I n245,.slice Xh WS WT,.slice Xi WU WV])) (ι W Gj JY J (Value.agg #[.bool a35,I n243,I n244,I n245,.slice Xh WS WT,.slice Xi WU WV]))) (γ (decide (m0=2)) (ο W ag an F.Rf #[ε σ τ,Value.agg #[I m0,I m1,I m2,I m3,I m4,I m5,I m6,.bool m7,.slice jJ eY jY]] λaIY q=>∃ a38 n281 n282 n283 Xj WW WX Xk WY WZ,aIY=.returned (Value.agg #[.bool a38,I n281,I n282,I n283,.slice Xj WW WX,.slice Xk WY WZ])/\q λGk JZ=>π W Gk JZ λaRj=>∃ n294 n295,bS aRj σ (τ+1) [I n294,I n295]/\r0 prog 67=true/\γ (!(decide (n294=gY)&&(decide (n295=nu)&&true))) (∃ E4 BU,O BU/\aE W Gk JZ E4 BU/\∃ (n300 n301:Int),(π W E4 BU λaRm=>∃ n304 n305,bS aRm σ (τ+1) [I n304,I n305]/\Value.agg #[I n304,I n305]=Value.agg #[I n300, I n301])/\aE W Gk JZ E4 BU/\aE W Gk JZ E4 BU/\ι W Gk JZ J (Value.agg #[.bool true,I n300,I n301,I n283,.slice Xj WW WX,.slice Xk WY WZ])) (ι W Gk JZ J (Value.agg #[.bool a38,I n281,I n282,I n283,.slice Xj WW WX,.slice Xk WY WZ]))) (γ (decide (m0=3)) (ο W ag an F.Rg #[ε σ τ,Value.agg #[I m0,I m1,I m2,I m3,I m4,I m5,I m6,.bool m7,.slice jJ eY jY]] λaId q=>∃ a3B n319 n320 n321 Xl Wa Wb Xm Wc Wd,aId=.returned (Value.agg #[.bool a3B,I n319,I n320,I n321,.slice Xl Wa Wb, .slice Xm Wc Wd])/\q λGl Ja=>π W Gl Ja λaRn=>∃ n332 n333,bS aRn σ (τ+1) [I n332,I n333]/\r0 prog 67=true/\γ (!(decide (n332=gY)&&(decide (n333=nu)&&true))) (∃ P2 OH,O OH/\aE W Gl Ja P2 OH/\∃ (n338 n339:Int),(π W P2 OH λaRo=>∃ n342 n343,bS aRo σ (τ+1) [I n342,I n343]/\Value.agg #[I n342,I n343]=Value.agg #[I n338,I n339])/\aE W Gl Ja P2 OH/\aE W Gl Ja P2 OH/\ι W Gl Ja J (Value.agg #[.bool true,I n338,I n339,I n321,.slice Xl Wa Wb,.slice Xm Wc Wd])) (ι W Gl Ja J (Value.agg #[.bool a3B,I n319, I n320,I n321,.slice Xl Wa Wb,.slice Xm Wc Wd]))) (π W ag an λaRp=>∃ a7D a7E,bS aRp σ (τ+1) [I a7D,I a7E]/\r0 prog 67=true/\γ (!(decide (a7D=gY)&&(decide (a7E=nu)&&true))) (∃ P3 OI,O OI/\aE W ag an P3 OI/\∃ (a7F a7G:Int),(π W P3 OI λaRq=>∃ a7H a7I,bS aRq σ (τ+1) [I a7H,I a7I]/\Value.agg #[I a7H,I a7I]=Value.agg #[I a7F,I a7G])/\aE W ag an P3 OI/\aE W ag an P3 OI/\ι W ag an J (Value.agg #[.bool true,I a7F,I a7G,I 0,.slice none 0 0,.slice none 0 0])) (ι W ag an J (Value.agg #[.bool false,I 0,I 0,I 0,.slice none 0 0, .slice none 0 0])))))))):=aT {hV [0,3,4,5,6,10,23,34,35,40,45,50,60] with gO:=[3,4,5,6],iC:=[(17,[.late [4] [0,4,1,2,3] [(5,[6]),(7,[])]])] }
theorem aE0(σ τ:Nat):aR F.Io #[ε σ τ] λW R Φ J=>
 ο W R Φ F.NN #[ε σ τ] λe2 q=>∃ bR gB jH,e2=.returned (.slice bR gB jH)/\q λcO fV=>eE λ(fM:Option Addr->Nat->Nat->Int->List Own->θ->Nat->Prop)=>(iF W cO fV (fM none 0 0 0))/\∀ mz l8 dK mu de qQ ql,O qQ->fM mz l8 dK mu de qQ ql->γ (decide (mu<(↑gB:Int))) (kQ mu gB bR λqm nI=>π W de qQ λgj=>∃ k6,gj.cell? (ν qm (nI+mu.toNat))=some (I k6)/\ο W de qQ F.NM #[ε σ τ,I k6] λKu q=>∃ kX n32 kY oS kZ s6 v7 KW Cu MJ vw,Ku=.returned (Value.agg #[I kX,I n32,I kY,I oS,I kZ,I s6,I v7,.bool KW,.slice Cu MJ vw])/\q λBl Df=>∀ (tO:Nat) wH lN,Ctx W wH (Own.blk tO [I kX,I n32,I kY,I oS,I kZ,I s6,I v7,.bool KW,.slice Cu MJ vw] 104 :: Bl++lN) Df->∃ td vz w4 qG,Sem.run prog (builtin Builtin.append #[68,68] 68 #[false,false] #[.slice mz l8 dK,.slice (ie tO 0) 1 1]) wH=.ok (.value (.slice td vz w4)) qG/\∃ jQ mU,O mU/\Ctx W qG (jQ++lN) mU/\κ (mu+1)/\eD W jQ mU ql (fM td vz w4 (mu+1))) (ι W de qQ J (.slice mz l8 dK)):=aT {hV [0,2,3,5,7,8,9,10] with loops:=[(3,[(3,.one (.slice)),(9,.one (.int .i64))],[])] }
theorem aEB(nt:Option Addr)(iW tT:Nat)(least:Int)(most:Int):aR F.Rj #[.slice nt iW tT,.int .i64 least,.int .i64 most] λW R Φ J=>
 eE λ(js:Int->Int->List Own->θ->Nat->Prop)=>(iF W R Φ (js least 0))/\∀ bg n7 fO fM dx,O fM->js bg n7 fO fM dx->γ (decide (n7<(↑iW:Int))) (kQ n7 iW nt λgW q6=>π W fO fM λvN=>∃ cx wD,bS vN gW (q6+n7.toNat*2) [I cx,.string wD]/\∀ (b:Nat) lY ju,Ctx W lY (fO++ju) fM->γ (decide (cx<bg)||decide (most<cx)||decide (2000<(↑wD.size:Int))) (ι W fO fM J (.bool false)) (κ (n7+1)/\eD W fO fM dx (js cx (n7+1)))) (ι W fO fM J (.bool true)):=aT {hV [0,1,2,6,8,9,10,11,12,30] with gO:=[8],loops:=[(2,[(1,.one (.int .i64)),(11,.one (.int .i64))],[])] }
theorem aEC(ey:Option Addr)(cE eT:Nat):aR F.Ft #[.slice ey cE eT] λW R Φ J=>
 γ ey.isNone (ι W R Φ J (.slice none 0 0)) (∀ (k2:Nat) w3 mX,Ctx W w3 (Own.blk k2 [] 76 :: R++mX) Φ->∃ n4 jH jI qI,Sem.run prog (builtin Builtin.append #[43,43] 43 #[false,false] #[.slice (ie k2 0) 0 0,.slice ey cE eT]) w3=.ok (.value (.slice n4 jH jI)) qI/\∃ dh eV,O eV/\Ctx W qI (dh++mX) eV/\ι W dh eV J (.slice n4 jH jI)):=aT (hV [0,2,4])
theorem aE6(σ τ:Nat):aR F.NN #[ε σ τ] λW R Φ J=>
 ∀ (k0 k1:Nat) w2 jg,Ctx W w2 (Own.blk k1 [I 0,I 1,I 2] 3 :: Own.blk k0 [ε σ τ] 52 :: R++jg) Φ->Γ F.Z0 #[.slice (ie k1 0) 3 3,Value.func (Fn.func 129) #[] #[ε k0 0]] w2 λbL eK=>∃ oV jI pH,bL=.returned (.slice oV jI pH)/\∃ dh eV,O eV/\Ctx W eK (dh++jg) eV/\ι W dh eV J (.slice oV jI pH):=aT (hV [1,2])
theorem aE4(σ τ:Nat)(kind:Int)(to:Int):aR F.Ip #[ε σ τ,.int .i64 kind,.int .i64 to] λW R Φ J=>
 ∀ (b:Nat) w0 aW,Ctx W w0 (R++aW) Φ->∃ n2,w0.cell? (ν σ τ)=some (I n2)/\π W R Φ λw3=>∃ n5,w3.cell? (ν σ (τ+1))=some (I n5)/\ι W R Φ J (Value.agg #[I kind,I n2,I to,I n5,I 0,I 0,I 0,.bool false,.slice none 0 0]):=aT {hV [0,1,2,6] with gO:=[6],iC:=[(1,[.bJ [0,1,5,6,2,7,3,8,4,9,10,11] (some 12)])] }
theorem aE7(σ τ:Nat)(m0:Int)(m1:Int)(m2:Int)(m3:Int)(m4:Int)(m5:Int)(m6:Int)(m7:Bool)(jJ:Option Addr)(eY jY:Nat):aR F.YU #[ε σ τ,.agg #[.int .i64 m0,.int .i64 m1,.int .i64 m2,.int .i64 m3,.int .i64 m4,.int .i64 m5,.int .i64 m6,.bool m7,.slice jJ eY jY]] λW R Φ J=>
 ∀ (b:Nat) w0 aW,Ctx W w0 (R++aW) Φ->∃ (c2:Bool),(∀ (w3:World),(∃ (cQ:Nat),w3=w0.drewN cQ)->Γ F.xg #[I m0,I 0,I 3] w3 λbz lG=>bz=.returned (.bool c2)/\∃ (jI:Nat),lG=w0.drewN jI)/\∃ (bt:Int),((!!c2)=true->w0.cell? (ν σ τ)=some (I bt))/\∃ (qA:Int),((!(!c2||decide (m2≠bt)))=true->w0.cell? (ν σ τ)=some (I qA))/\∃ (PR:Bool),((!(!c2||decide (m2≠bt)||decide (m1=qA)))=true->∀ (jA:World),(∃ (q6:Nat),jA=w0.drewN q6)->Γ F.xg #[I m1,I 0,I 2] jA λEd iO=>Ed=.returned (.bool PR)/\∃ (fe:Nat),iO=w0.drewN fe)/\γ (!c2||decide (m2≠bt)||decide (m1=qA) || !PR) (ι W R Φ J (.bool false)) (∀ iD de, Ctx W iD (R++de) Φ->∃ (c20:Bool),(∀ jM,jM=iD->Γ F.xg #[I m3,I 1,I 1099511627776] jM λKr oD=>Kr=.returned (.bool c20)/\oD=iD)/\∃ (c24:Bool),((!!c20)=true->∀ ja,ja=iD->Γ F.xg #[I m4,I 0,I 4000] ja λrR oa=>rR=.returned (.bool c24)/\oa=iD)/\∃ (c28:Bool),((!(!c20 || !c24))=true->∀ BI,BI=iD->Γ F.xg #[I m5,I 0,I m3] BI λuY zJ=>uY=.returned (.bool c28)/\zJ=iD)/\γ (!c20 || !c24 || !c28||decide (m4=0)&&decide (m5≠0)) (ι W R Φ J (.bool false)) (ο W R Φ F.xg #[I m6,I 0,I 4000] λUJ q=>∃ KW,UJ=.returned (.bool KW)/\q λzi Sj=>γ KW (γ (decide ((↑eY:Int)<=8)) (κ (m4+(↑eY:Int))/\γ (decide (m4+(↑eY:Int)<=4000)) (ο W zi Sj F.Rj #[.slice jJ eY jY,I (max 1 m5),I m3] λUK q=>∃ a3F,UK=.returned (.bool a3F)/\q λlN qL=>ι W lN qL J (.bool a3F)) (ι W zi Sj J (.bool false))) (ι W zi Sj J (.bool false))) (ι W zi Sj J (.bool false)))):=aT {hV [0,3,4,5,34] with gO:=[3],split:=[5] }
theorem aE8(σ τ:Nat)(m0:Int)(m1:Int)(m2:Int)(m3:Int)(m4:Int)(m5:Int)(m6:Int)(m7:Bool)(jJ:Option Addr)(eY jY:Nat):aR F.Rh #[ε σ τ,.agg #[.int .i64 m0,.int .i64 m1,.int .i64 m2,.int .i64 m3,.int .i64 m4,.int .i64 m5,.int .i64 m6,.bool m7,.slice jJ eY jY]] λW R Φ J=>
 ∀ (b b:Nat) w0 aW,Ctx W w0 (R++aW) Φ->Γ F.Ip #[ε σ τ,I 1,I m1] w0 λe2 w3=>∃ b6 n5 bg n7 bt qA pI su nO gy dW,e2=.returned (Value.agg #[I b6,I n5,I bg,I n7,I bt,I qA,I pI,.bool su,.slice nO gy dW])/\∃ gS mS,O mS/\Ctx W w3 (gS++aW) mS/\∀ (dK:Nat) iD de,Ctx W iD (Own.blk dK [I 0,I 0,I 0,I 0,I 0,I 0,I 0,.bool false,.slice none 0 0] 104 :: gS++de) mS->au iD dK 0 9/\∀ pR,pR=iD.setCells dK 0 [I b6,I n5,I bg,I n7,I bt,I qA,I pI,.bool su,.slice nO gy dW]->∃ jv kI,O kI/\Ctx W pR (jv ++ de) kI/\π W jv kI λoD=>∃ RJ MI AY,oD.cell? (ν σ (τ+3))=some (.slice RJ MI AY)/\ο W jv kI F.z7 #[ε σ τ,I (↑MI:Int)] λuY q=>∃ n32,uY=.returned (I n32)/\q λgm gF=>π W gm gF λmQ=>∃ (Ct:Option Addr) (nJ CS:Nat),((!decide (n32<m5)&&decide (m5=n32))=true->mQ.cell? (ν σ (τ+3))=some (.slice Ct nJ CS))/\π W gm gF λxp=>∃ qt,xp.cell? (ν σ (τ+1))=some (I qt)/\∃ (n43:Int),(decide (m3=qt)=true->xp.cell? (ν σ (τ+2))=some (I n43))/\∃ (xU:Int),((decide (m3=qt) && !decide (n43 = -1))=true->xp.cell? (ν σ (τ + 2))=some (I xU))/\γ (decide (m3=qt)&&(decide (n43 = -1)||decide (xU=m1))&&(decide (n32<m5)||decide (m5=n32)&&decide ((↑nJ:Int)<=m4))) (∃ rK sS,O sS/\aE W gm gF rK sS/\∀ wJ si,Ctx W wJ (gm++si) gF->au wJ dK 7 1/\∀ sO,sO=wJ.setCell (ν dK 7) (Value.bool true)->∃ wT zS,O zS/\Ctx W sO (wT++si) zS/\aE W wT zS rK sS/\∀ pS oz,Ctx W pS (wT++oz) zS->au pS σ (τ+2) 1/\∀ BM,BM=pS.setCell (ν σ (τ+2)) (I m1)->∃ zj GH,O GH/\Ctx W BM (zj++oz) GH/\π W zj GH λJK=>∃ a7J n64 Cg Ao Ap vA vB c70 N1 Ad uw,bS JK dK 0 [I a7J,I n64,I Cg,I Ao,I Ap,I vA,I vB,.bool c70,.slice N1 Ad uw]/\ο W zj GH F.z8 #[Value.agg #[I a7J,I n64,I Cg,I Ao,I Ap,I vA,I vB,.bool c70,.slice N1 Ad uw]] λL5 q=>∃ a3M qu Ar q9 RO tQ Ag a8X w5 FK,L5=.returned (Value.agg #[.bool a3M,I qu,I Ar,I q9,.slice RO tQ Ag,.slice a8X w5 FK])/\q λP5 OM=>ι W P5 OM J (Value.agg #[.bool a3M,I qu,I Ar,I q9,.slice RO tQ Ag,.slice a8X w5 FK])) (π W gm gF λa07=>∃ tV Ci yo Mb Mc n99 n100 a2r Mk CP xJ,bS a07 dK 0 [I tV,I Ci,I yo,I Mb,I Mc,I n99,I n100,.bool a2r,.slice Mk CP xJ]/\ο W gm gF F.z8 #[Value.agg #[I tV,I Ci,I yo,I Mb,I Mc,I n99,I n100,.bool a2r,.slice Mk CP xJ]] λU8 q=>∃ c109 n110 n111 n112 Au rq uv Mn xK MA,U8=.returned (Value.agg #[.bool c109,I n110,I n111,I n112,.slice Au rq uv,.slice Mn xK MA])/\q λDy O7=>ι W Dy O7 J (Value.agg #[.bool c109,I n110,I n111,I n112,.slice Au rq uv,.slice Mn xK MA])):=aT {hV [0,3,4,5,6,7,67] with gO:=[3,4],iC:=[(5,[.held [(0,true),(1,true),(3,true),(2,true),(4,false)],.bJ [5] none,.bJ [6] none,.bJ [7] (some 8)])] }
theorem aE9(σ τ:Nat)(m0:Int)(m1:Int)(m2:Int)(m3:Int)(m4:Int)(m5:Int)(m6:Int)(m7:Bool)(jJ:Option Addr)(eY jY:Nat):aR F.Ri #[ε σ τ,.agg #[.int .i64 m0,.int .i64 m1,.int .i64 m2,.int .i64 m3,.int .i64 m4,.int .i64 m5,.int .i64 m6,.bool m7,.slice jJ eY jY]] λW R Φ J=>
 ∀ (b b:Nat) w0 aW,Ctx W w0 (R++aW) Φ->∃ n2,w0.cell? (ν σ (τ+4))=some (I n2)/\∃ (cN:Int),((!decide (n2≠1))=true->w0.cell? (ν σ (τ+1))=some (I cN))/\γ (decide (n2≠1)||decide (m3≠cN) || !m7) (ι W R Φ J (Value.agg #[.bool false,I 0,I 0,I 0,.slice none 0 0,.slice none 0 0])) (∃ fX gG,O gG/\aE W R Φ fX gG/\(0<=m1/\m1<3)/\∀ tu je,Ctx W tu (R++je) Φ->au tu σ (τ+6+m1.toNat) 1/\∀ gi,gi=tu.setCell (ν σ (τ+6+m1.toNat)) (Value.bool true)->∃ mW mR,O mR/\Ctx W gi (mW++je) mR/\aE W mW mR fX gG/\π W mW mR λlY=>∃ KS c20 c21,bS lY σ (τ+6) [Value.bool KS,Value.bool c20,Value.bool c21]/\eE λ(uF:Int->Int->List Own->θ -> Nat->Prop)=>(iF W mW mR (uF 0 0))/\∀ gK iZ lf qR ru,O qR->uF gK iZ lf qR ru->γ (decide (iZ<3)) (∃ (yP:Bool),(0<=iZ/\iZ<3/\EE (0+iZ.toNat) [Value.bool KS,Value.bool c20,Value.bool c21]=some (.bool yP))/\γ yP (κ (gK+1)/\κ (iZ+1)/\eD W lf qR ru (uF (gK+1) (iZ+1))) (κ (iZ+1)/\eD W lf qR ru (uF gK (iZ+1)))) (γ (decide (gK<2)) (ι W lf qR J (Value.agg #[.bool false,I 0,I 0,I 0,.slice none 0 0,.slice none 0 0])) (∀ wI pZ,Ctx W wI (lf++pZ) qR->au wI σ (τ+4) 1/\∀ tw,tw=wI.setCell (ν σ (τ+4)) (I 2)->∃ kN lI, O lI/\Ctx W tw (kN++pZ) lI/\eE λ(T6:Int->List Own->θ->Nat->Prop)=>(iF W kN lI (T6 0))/\∀ nv rL GY CV,O GY->T6 nv rL GY CV->γ (decide (nv<3)) (∃ zk Dg,O Dg/\aE W rL GY zk Dg/\π W rL GY λG4=>∃ RM IA Qu,G4.cell? (ν σ (τ+3))=some (.slice RM IA Qu)/\κ ((↑IA:Int)+1)/\(0<=nv/\nv<3)/\∀ DW sr,Ctx W DW (rL++sr) GY->au DW σ (τ+9+nv.toNat) 1/\∀ aBz,aBz=DW.setCell (ν σ (τ+9+nv.toNat)) (I ((↑IA:Int)+1))->∃ TM Sk,O Sk/\Ctx W aBz (TM++sr) Sk/\aE W TM Sk zk Dg/\(0<=nv/\nv<3)/\∀ JN uM,Ctx W JN (TM++uM) Sk->au JN σ (τ+12+nv.toNat) 1/\∀ BO,BO=JN.setCell (ν σ (τ+12 + nv.toNat)) (I 0)->∃ uN BW,O BW/\Ctx W BO (uN++uM) BW/\aE W uN BW zk Dg/\κ (nv+1)/\eD W uN BW CV (T6 (nv+1))) (ο W rL GY F.Io #[ε σ τ] λUT q=>∃ Cy xP ux,UT=.returned (.slice Cy xP ux)/\q λE8 Di=>ι W E8 Di J (Value.agg #[.bool false,I 0,I 0,I 0,.slice none 0 0,.slice Cy xP ux]))))):=aT {hV [0,3,4,5,7,8,28,39,40,41,43,48,53,54] with gO:=[3,4],iC:=[(3,[.late [0,1,2,5] [0,1,2,3,4,5] [(6,[])]]),(17,[.late [0,1,4,5,6,7,8,9,12] [0,1,2,3,4,5,10,14,6,11,15,7,8,9,12] [(13,[16]),(17,[])]])],loops:=[(15,[(53,.one (.int .i64))],[]),(6,[(5,.one (.int .i64)),(40,.one (.int .i64))],[])] }
theorem aE1(σ τ:Nat)(m0:Int)(m1:Int)(m2:Int)(m3:Int)(m4:Int)(m5:Int)(m6:Int)(m7:Bool)(jJ:Option Addr)(eY jY:Nat):aR F.Rf #[ε σ τ,.agg #[.int .i64 m0,.int .i64 m1,.int .i64 m2,.int .i64 m3,.int .i64 m4,.int .i64 m5,.int .i64 m6,.bool m7,.slice jJ eY jY]] λW R Φ J=>
 ∀ (b b:Nat) w0 aW,Ctx W w0 (R++aW) Φ->Γ F.Ip #[ε σ τ,I 3,I m1] w0 λe2 w3=>∃ b6 n5 bg n7 bt qA pI su nO gy dW,e2=.returned (Value.agg #[I b6,I n5,I bg,I n7,I bt,I qA,I pI,.bool su,.slice nO gy dW])/\∃ gS mS,O mS/\Ctx W w3 (gS++aW) mS/\∀ (dK:Nat) iD de,Ctx W iD (Own.blk dK [I 0,I 0,I 0,I 0,I 0,I 0,I 0,.bool false,.slice none 0 0] 104 :: gS++de) mS->au iD dK 0 9/\∀ pR,pR=iD.setCells dK 0 [I b6,I n5,I bg,I n7,I bt,I qA,I pI,.bool su,.slice nO gy dW]->∃ jv kI,O kI/\Ctx W pR (jv ++ de) kI/\π W jv kI λoD=>∃ w8,oD.cell? (ν σ (τ+1))=some (I w8)/\γ (decide (m3<w8)) (π W jv kI λvO=>∃ gK iZ k7 kX n32 kY oS KV Av FI nJ,bS vO dK 0 [I gK,I iZ,I k7,I kX,I n32,I kY,I oS,.bool KV,.slice Av FI nJ]/\ο W jv kI F.z8 #[Value.agg #[I gK,I iZ,I k7,I kX,I n32,I kY,I oS,.bool KV,.slice Av FI nJ]] λKz q=>∃ KX xU n45 iK td vz w4 xd mI CT,Kz=.returned (Value.agg #[.bool KX,I xU,I n45,I iK,.slice td vz w4,.slice xd mI CT])/\q λkO iP=>ι W kO iP J (Value.agg #[.bool KX,I xU,I n45,I iK,.slice td vz w4,.slice xd mI CT])) (π W jv kI λG2=>∃ tU,G2.cell? (ν σ (τ+4))=some (I tU)/\γ (decide (tU=2)) (ι W jv kI J (Value.agg #[.bool false,I 0,I 0,I 0,.slice none 0 0,.slice none 0 0])) (∀ zK p0,Ctx W zK (jv++p0) kI->au zK σ (τ+4) 1/\∀ JL,JL=zK.setCell (ν σ (τ+4)) (I 0)->∃ sn rC,O rC/\Ctx W JL (sn++p0) rC/\π W sn rC λxu=>∃ RN Wf ML,xu.cell? (ν σ (τ+3))=some (.slice RN Wf ML)/\∃ (MY:Int),((!decide ((↑Wf:Int)<m4))=true->∀ (wK:World),(∃ (xN:Nat),wK=xu.drewN xN)->Γ F.z7 #[ε σ τ,I m4] wK λEg G5=>Eg=.returned (I MY)/\∃ (CX:Nat),G5=xu.drewN CX)/\γ (decide ((↑Wf:Int)<m4)||decide (MY≠m5)) (κ (m4 - 1)/\π W sn rC λG6=>∃ aO5 IC xO,G6.cell? (ν σ (τ+3))=some (.slice aO5 IC xO)/\∀ N' vc,Ctx W N' (sn++vc) rC->au N' dK 4 1/\∀ JO,JO=N'.setCell (ν dK 4) (I (min (↑IC:Int) (m4 - 1)))->∃ TN Sl,O Sl/\Ctx W JO (TN++vc) Sl/\π W TN Sl λa05=>∃ Ma xV Ch oT tV Ci yo a3P N4 CY M8,bS a05 dK 0 [I Ma,I xV,I Ch,I oT,I tV,I Ci,I yo,.bool a3P,.slice N4 CY M8]/\ο W TN Sl F.z8 #[Value.agg #[I Ma,I xV,I Ch,I oT,I tV,I Ci,I yo,.bool a3P,.slice N4 CY M8]] λEb q=>∃ c105 n106 n107 n108 a7s AV AW Ml FC rq,Eb=.returned (Value.agg #[.bool c105,I n106,I n107,I n108,.slice a7s AV AW,.slice Ml FC rq])/\q λou nT=>ι W ou nT J (Value.agg #[.bool c105,I n106,I n107,I n108,.slice a7s AV AW,.slice Ml FC rq])) (∀ (b:Nat),eE λ(Sw:Int->Bool->Int->Int->Int->Option Addr->Nat->Nat->Option Addr->Nat->Nat->Bool->Int->Int->Int->Option Addr->Nat->Nat->Option Addr->Nat->Nat->List Own->θ->Nat->Prop)=>(iF W sn rC (Sw 0 false 0 0 0 none 0 0 none 0 0 false 0 0 0 none 0 0 none 0 0))/\∀ n125 a2t n127 n128 n129 a7w MC a62 a7y MD a65 PS n137 n138 n139 Xc WL I3 a81 a67 a68 sg yC ME,O yC->Sw n125 a2t n127 n128 n129 a7w MC a62 a7y MD a65 PS n137 n138 n139 Xc WL I3 a81 a67 a68 sg yC ME->γ (decide (n125<(↑eY:Int))) (kQ n125 eY jJ λMF CR=>π W sg yC λNx=>∃ n153 aPZ,bS Nx MF (CR+n125.toNat*2) [I n153,.string aPZ]/\∀ (b:Nat),κ (m4+n125)/\κ (m4+n125+1)/\π W sg yC λZv=>∃ aO3 WO Qq,Zv.cell? (ν σ (τ+3))=some (.slice aO3 WO Qq)/\∃ (n160:Int),(decide (m4+n125+1<=(↑WO:Int))=true->∀ (aBf:World),(∃ (aM8:Nat),aBf=Zv.drewN aM8)->Γ F.z7 #[ε σ τ,I (m4+n125+1)] aBf λKp aRU=>Kp=.returned (I n160)/\∃ (MG:Nat),aRU=Zv.drewN MG)/\γ (decide (m4+n125+1<=(↑WO:Int))&&decide (n160=n153)) (κ (n125+1)/\eD W sg yC ME (Sw (n125+1) a2t n127 n128 n129 a7w MC a62 a7y MD a65 PS n137 n138 n139 Xc WL I3 a81 a67 a68)) (π W sg yC λSM=>∃ n173,SM.cell? (ν σ (τ+5))=some (I n173)/\γ (decide (m4+n125+1<=n173)) (ι W sg yC J (Value.agg #[.bool false,I 0,I 0,I 0,.slice none 0 0,.slice none 0 0])) ((0<=n125/\n125<=(↑eY:Int)/\eY<=jY)/\ο W sg yC F.Ft #[.slice (eB jJ 2 n125.toNat jY) (eY - n125.toNat) (jY - n125.toNat)] λaIG q=>∃ Xf I5 I6,aIG=.returned (.slice Xf I5 I6)/\q λa1h aCJ=>∃ Ox OB,O OB/\aE W a1h aCJ Ox OB/\κ (m4+n125+1 - 1)/\∃ (a8G:Option Addr) (aMB Qr:Nat),(π W Ox OB λaRY=>∃ a8H a6K MH,aRY.cell? (ν σ (τ+3))=some (.slice a8H a6K MH)/\Value.slice a8H a6K MH=Value.slice a8G aMB Qr)/\(0<=m4+n125+1 - 1/\m4+n125+1 - 1<=(↑Qr:Int))/\ο W a1h aCJ F.Ft #[.slice (eB a8G 2 0 Qr) (m4+n125+1 - 1).toNat Qr] λaIL q=>∃ a8J a6M a6N,aIL=.returned (.slice a8J a6M a6N)/\q λK3 JX=>aE W K3 JX Ox OB/\∀ aBm a1m,Ctx W aBm (K3++a1m) JX->∃ a8K a6O AX aBn,Sem.run prog (builtin Builtin.append #[43,43] 43 #[false,false] #[.slice a8J a6M a6N,.slice Xf I5 I6]) aBm=.ok (.value (.slice a8K a6O AX)) aBn/\∃ qS oe,O oe/\Ctx W aBn (qS++a1m) oe/\aE W qS oe Ox OB/\∀ Zx a1o,Ctx W Zx (qS++a1o) oe->au Zx σ (τ+3) 1/\∀ aBo,aBo=Zx.setCell (ν σ (τ+3)) (Value.slice a8K a6O AX)->∃ Bk zO,O zO/\Ctx W aBo (Bk++a1o) zO/\∃ a1p a0b,O a0b/\aE W Bk zO a1p a0b/\κ (m4+(↑eY:Int))/\∀ JI Oz,Ctx W JI (Bk++Oz) zO->au JI dK 7 1/\∀ aBp,aBp=JI.setCell (ν dK 7) (Value.bool true)->∃ TH Sf,O Sf/\Ctx W aBp (TH++Oz) Sf/\aE W TH Sf a1p a0b/\∀ Zy K4,Ctx W Zy (TH++K4) Sf->au Zy dK 4 1/\∀ aBq,aBq=Zy.setCell (ν dK 4) (I (m4+(↑eY:Int)))->∃ O' OD,O OD/\Ctx W aBq (O'++K4) OD/\π W O' OD λaRc=>∃ n241,aRc.cell? (ν dK 4)=some (I n241)/\π W O' OD λaRd=>∃ n244,aRd.cell? (ν σ (τ+5))=some (I n244)/\∀ Zz a1r,Ctx W Zz (O'++a1r) OD->au Zz σ (τ+5) 1/\∀ aBr,aBr=Zz.setCell (ν σ (τ+5)) (I (max n244 (min m6 n241)))->∃ TI Sg,O Sg/\Ctx W aBr (TI++a1r) Sg/\π W TI Sg λaRe=>∃ n252 n253 n254 n255 n256 n257 n258 a36 a8L a6P a6Q,bS aRe dK 0 [I n252,I n253,I n254,I n255,I n256,I n257,I n258,.bool a36,.slice a8L a6P a6Q]/\∀ (a6R:Nat) SP aFv,Ctx W SP (Own.blk a6R [I n252,I n253,I n254,I n255,I n256,I n257,I n258,.bool a36,.slice a8L a6P a6Q] 104 :: TI++aFv) Sg->J (Value.agg #[.bool PS,I n137,I n138,I (m4+n125+1),.slice Xf I5 I6,.slice (ie a6R 0) 1 1]) SP))) (∃ a1s a0d,O a0d/\aE W sg yC a1s a0d/\κ (m4+(↑eY:Int))/\∀ Z' K5,Ctx W Z' (sg++K5) yC->au Z' dK 7 1/\∀ aBt,aBt=Z'.setCell (ν dK 7) (Value.bool true)->∃ TJ Sh,O Sh/\Ctx W aBt (TJ++K5) Sh/\aE W TJ Sh a1s a0d/\∀ a00 a1u,Ctx W a00 (TJ++a1u) Sh -> au a00 dK 4 1/\∀ aBu,aBu=a00.setCell (ν dK 4) (I (m4+(↑eY:Int)))->∃ P1 OG,O OG/\Ctx W aBu (P1++a1u) OG/\π W P1 OG λaRh=>∃ n284,aRh.cell? (ν dK 4)=some (I n284)/\π W P1 OG λaRi=>∃ n287,aRi.cell? (ν σ (τ+5))=some (I n287)/\∀ a01 a1v,Ctx W a01 (P1++a1v) OG->au a01 σ (τ+5) 1/\∀ aBv,aBv=a01.setCell (ν σ (τ+5)) (I (max n287 (min m6 n284)))->∃ TK Si,O Si/\Ctx W aBv (TK++a1v) Si/\π W TK Si λaRk=>∃ n295 n296 n297 n298 n299 n300 n301 a3A a8O a6S a6T,bS aRk dK 0 [I n295,I n296,I n297,I n298,I n299,I n300,I n301,.bool a3A,.slice a8O a6S a6T]/\∀ (a6U:Nat) aBx aFz,Ctx W aBx (Own.blk a6U [I n295,I n296,I n297,I n298,I n299,I n300,I n301,.bool a3A,.slice a8O a6S a6T] 104 :: TK++aFz) Si->J (Value.agg #[.bool PS,I n137,I n138,I n139,.slice Xc WL I3,.slice (ie a6U 0) 1 1]) aBx)))):=aT {hV [0,3,4,5,6,7,8,9,21,28,49,63,64,65,66,89,95] with gO:=[3,4,6,8],iC:=[(8,[.bJ [0,5,1,6,2,7,3,4,8,9] (some 10)]),(19,[.held [(0,true),(1,true),(5,true),(9,true),(2,true),(6,true),(10,true),(3,true),(4,true),(7,true),(8,false),(11,false)],.bJ [12] none,.bJ [13] (some 14)]),(21,[.held [(0,true),(2,true),(6,true),(1,true),(3,true),(4,true),(5,true),(7,false)],.bJ [8] (some 9)]),(22,[.bJ [0,1,5,7,2,6,8,3,9,4,10] none,.bJ [11] none,.bJ [12] (some 13)])],loops:=[(12,[(65,.one (.int .i64))],[(4,.agg [.bool,.int .i64,.int .i64,.int .i64,.slice,.slice]),(6,.agg [.bool,.int .i64,.int .i64,.int .i64,.slice,.slice])])] }
theorem aE2(σ τ:Nat)(m0:Int)(m1:Int)(m2:Int)(m3:Int)(m4:Int)(m5:Int)(m6:Int)(m7:Bool)(jJ:Option Addr)(eY jY:Nat):aR F.Rg #[ε σ τ,.agg #[.int .i64 m0,.int .i64 m1,.int .i64 m2,.int .i64 m3,.int .i64 m4,.int .i64 m5,.int .i64 m6,.bool m7,.slice jJ eY jY]] λW R Φ J=>
 ∀ (b b:Nat) w0 aW,Ctx W w0 (R++aW) Φ->∃ n2,w0.cell? (ν σ (τ+4))=some (I n2)/\∃ (cN:Int),((!decide (n2≠2))=true->w0.cell? (ν σ (τ+1))=some (I cN))/\∃ (bR:Option Addr) (gB jH:Nat),((!(decide (n2≠2)||decide (m3≠cN))&&m7)=true->w0.cell? (ν σ (τ+3))=some (.slice bR gB jH))/\γ (decide (n2≠2)||decide (m3≠cN)||m7&&decide ((↑gB:Int)<m4)) (ι W R Φ J (Value.agg #[.bool false,I 0,I 0,I 0,.slice none 0 0,.slice none 0 0])) (π W R Φ λfJ=>(0<=m1/\m1<3)/\(0<=m1/\m1<3)/\γ (!m7) (π W R Φ λjA=>∃ j6,jA.cell? (ν σ (τ+12+m1.toNat))=some (I j6)/\π W R Φ λiO=>∃ cq,iO.cell? (ν σ (τ+9+m1.toNat))=some (I cq)/\κ (m4+1)/\κ (j6+1)/\κ (cq - 1)/\∀ lY ju,Ctx W lY (R++ju) Φ->au lY σ (τ+9+m1.toNat) 1/\∀ mP,mP=lY.setCell (ν σ (τ+9+m1.toNat)) (I (max (j6+1) (min (cq - 1) (m4+1))))->∃ jG nU,O nU/\Ctx W mP (jG++ju) nU/\ο W jG nU F.NM #[ε σ τ,I m1] λEe q=>∃ k6 mK gK iZ k7 kX n32 yP nP qn rz,Ee=.returned (Value.agg #[I k6,I mK,I gK,I iZ,I k7,I kX,I n32,.bool yP,.slice nP qn rz])/\q λwR y3=>ο W wR y3 F.z8 #[Value.agg #[I k6,I mK,I gK,I iZ,I k7,I kX,I n32,.bool yP,.slice nP qn rz]] λKz q=>∃ KX xU n45 iK td vz w4 xd mI CT,Kz=.returned (Value.agg #[.bool KX,I xU,I n45,I iK,.slice td vz w4,.slice xd mI CT])/\q λkO iP=>ι W kO iP J (Value.agg #[.bool KX,I xU,I n45,I iK,.slice td vz w4,.slice xd mI CT])) (π W R Φ λG2=>∃ tU,G2.cell? (ν σ (τ+12+m1.toNat))=some (I tU)/\∀ Nz zk,Ctx W Nz (R++zk) Φ->au Nz σ (τ+12+m1.toNat) 1/\∀ zK,zK=Nz.setCell (ν σ (τ+12+m1.toNat)) (I (max tU m4))->∃ p0 qM,O qM/\Ctx W zK (p0++zk) qM/\π W p0 qM λG4=>∃ Ap,G4.cell? (ν σ (τ+12+m1.toNat))=some (I Ap)/\κ (Ap+1)/\∀ BN oK,Ctx W BN (p0++oK) qM->au BN σ (τ+9+m1.toNat) 1/\∀ DW,DW=BN.setCell (ν σ (τ+9+m1.toNat)) (I (Ap+1))->∃ sr GJ,O GJ/\Ctx W DW (sr++oK) GJ/\ο W sr GJ F.YS #[ε σ τ] λEg q=>Eg=.returned (Value.tuple #[])/\q λyI GK=>π W yI GK λBO=>∃ q9,BO.cell? (ν σ (τ+9+m1.toNat))=some (I q9)/\∃ RO tQ Ag,BO.cell? (ν σ (τ+3))=some (.slice RO tQ Ag)/\γ (decide (q9<=(↑tQ:Int))) (ο W yI GK F.NM #[ε σ τ,I m1] λaIv q=>∃ FQ Ma xV Ch oT tV Ci a3O a8a Qv CY,aIv=.returned (Value.agg #[I FQ,I Ma,I xV,I Ch,I oT,I tV,I Ci,.bool a3O,.slice a8a Qv CY])/\q λyE xx=>ο W yE xx F.z8 #[Value.agg #[I FQ,I Ma,I xV,I Ch,I oT,I tV,I Ci,.bool a3O,.slice a8a Qv CY]] λU7 q=>∃ KR n107 n108 n109 IW AW yh Au rq uv,U7=.returned (Value.agg #[.bool KR,I n107,I n108,I n109,.slice IW AW yh,.slice Au rq uv])/\q λBg Db=>ι W Bg Db J (Value.agg #[.bool KR,I n107,I n108,I n109,.slice IW AW yh,.slice Au rq uv])) (ι W yI GK J (Value.agg #[.bool false,I 0,I 0,I 0,.slice none 0 0,.slice none 0 0])))):=aT {hV [0,3,4,5,6,35,51,96] with gO:=[3,4],iC:=[(5,[.bJ [0,1,5,9,2,6,10,3,7,11,4,8,12,13,14] (some 15)]),(7,[.bJ [0,1,4,2,5,3,6,7] (some 8)])] }
theorem aDw(σ τ:Nat):aR F.YP #[ε σ τ] λW R Φ J=>
 π W R Φ λw0=>∃ p2 b8 cQ,w0.cell? (ν σ (τ+3))=some (.slice p2 b8 cQ)/\ο W R Φ F.Ft #[.slice p2 b8 cQ] λiT q=>∃ mM dx gW,iT=.returned (.slice mM dx gW)/\q λeN jB=>ι W eN jB J (.slice mM dx gW):=aT (hV [0,2])
theorem aE3(σ τ:Nat)(to:Int):aR F.NM #[ε σ τ,.int .i64 to] λW R Φ J=>
 ∀ (b:Nat) w0 aW,Ctx W w0 (R++aW) Φ->Γ F.Ip #[ε σ τ,I 2,I to] w0 λe2 w3=>∃ b6 n5 bg n7 bt qA pI su nO gy dW,e2=.returned (Value.agg #[I b6,I n5,I bg,I n7,I bt,I qA,I pI,.bool su,.slice nO gy dW])/\∃ gS mS,O mS/\Ctx W w3 (gS++aW) mS/\∀ (b:Nat),(0<=to/\to<3)/\π W gS mS λlY=>∃ lB,lY.cell? (ν σ (τ+9+to.toNat))=some (I lB)/\κ (lB - 1)/\∃ jG nU,O nU/\aE W gS mS jG nU/\∃ (dP:Int),(π W jG nU λja=>∃ mK,ja.cell? (ν σ (τ+5))=some (I mK)/\I mK=I dP)/\ο W gS mS F.z7 #[ε σ τ,I (lB - 1)] λuY q=>∃ n32,uY=.returned (I n32)/\q λgm gF=>aE W gm gF jG nU/\aE W gm gF jG nU/\aE W gm gF jG nU/\∃ rJ y4,O y4/\aE W gm gF rJ y4/\κ (lB - 1+8)/\∃ (Mx:Option Addr) (I8 xM:Nat),(π W rJ y4 λtw=>∃ xd mI CT,tw.cell? (ν σ (τ+3))=some (.slice xd mI CT)/\Value.slice xd mI CT=Value.slice Mx I8 xM)/\∃ (RL:Option Addr) (FJ Qt:Nat),(π W rJ y4 λpS=>∃ Cx tP CV,pS.cell? (ν σ (τ+3))=some (.slice Cx tP CV)/\Value.slice Cx tP CV=Value.slice RL FJ Qt)/\(0<=lB - 1/\lB - 1<=min (↑FJ:Int) (lB - 1+8)/\min (↑FJ:Int) (lB - 1+8)<=(↑xM:Int))/\ο W gm gF F.Ft #[.slice (eB Mx 2 (lB - 1).toNat xM) ((min (↑FJ:Int) (lB - 1+8)).toNat - (lB - 1).toNat) (xM - (lB - 1).toNat)] λUQ q=>∃ a8T a6X Ac,UQ=.returned (.slice a8T a6X Ac)/\q λso qN=>aE W so qN rJ y4/\ι W so qN J (Value.agg #[I b6,I n5,I bg,I n7,I (lB - 1),I n32,I dP,.bool su,.slice a8T a6X Ac]):=aT {hV [0,1,4,5] with gO:=[4,5],iC:=[(3,[.late [0,2] [0,1,4,2,5,6,7] [(3,[8]),(9,[10]),(11,[])]]),(4,[.held [(0,true),(4,true),(6,true),(11,true),(1,true),(5,true),(7,true),(12,true),(2,true),(8,true),(13,true),(3,true),(9,true),(10,true),(14,true),(15,true),(16,false)],.bJ [17] (some 18)])] }
theorem aEH(ey:Option Addr)(cE eT:Nat)(uW:FuncId)(yS:Array Value):aR F.Z0 #[.slice ey cE eT,.func (.func uW) #[] yS] λW R Φ J=>
 ο W R Φ F.Z3 #[.slice ey cE eT,Value.func (Fn.func uW) #[] yS] λe2 q=>∃ b6,e2=.returned (I b6)/\q λag an=>γ (decide (b6 = -1)) (ι W ag an J (.slice ey cE eT)) (κ (b6+1)/\eE λ(fM:Int->Int->List Own->θ->Nat->Prop)=>(iF W ag an (fM b6 (b6+1)))/\∀ cx cq cK nX l9,O nX->fM cx cq cK nX l9->γ (decide (cq<(↑cE:Int))) (kQ cq cE ey λtN ql=>π W cK nX λsL=>∃ dP,sL.cell? (ν tN (ql+cq.toNat))=some (I dP)/\∀ ja jP,Ctx W ja (cK++jP) nX->nx prog uW=true/\Calls prog uW (Array.mk (I dP :: yS.toList)) ja λKt nR => ∃ a39,Kt=.returned (.bool a39)/\∃ lf sR,O sR/\Ctx W nR (lf++jP) sR/\γ (!a39) (kQ cx cE ey λru nr=>∀ BJ uK,Ctx W BJ (lf++uK) sR->au BJ ru (nr+cx.toNat) 1/\∀ BK,BK=BJ.setCell (ν ru (nr+cx.toNat)) (I dP)->∃ wR y3,O y3/\Ctx W BK (wR++uK) y3/\κ (cx+1)/\κ (cq+1)/\eD W wR y3 l9 (fM (cx+1) (cq+1))) (κ (cq+1)/\eD W lf sR l9 (fM cx (cq+1)))) ((0<=cx/\cx<=(↑cE:Int)/\cE<=eT)/\∀ wJ si,Ctx W wJ (cK++si) nX->∃ (sO:World),Sem.run prog (builtin Builtin.clear #[30] 0 #[false] #[.slice (eB ey 1 cx.toNat eT) (cE - cx.toNat) (eT - cx.toNat)]) wJ=.ok (.value (Value.tuple #[])) sO/\∃ wT zS,O zS/\Ctx W sO (wT++si) zS/\(0<=cx/\cx<=(↑eT:Int))/\ι W wT zS J (.slice (eB ey 1 0 eT) cx.toNat eT))):=aT {hV [0,1,4,5,6,7,12,19,29] with wrap:=[28],loops:=[(5,[(5,.one (.int .i64)),(6,.one (.int .i64))],[])] }
theorem aE5(i:Int)(gI gJ:Nat):aR F.YT #[.int .i64 i,.pointer (some (Addr.mk gI gJ none))] λW R Φ J=>
 π W R Φ λw0=>∃ p2,w0.cell? (ν gI gJ)=some (.pointer p2)/\k9 none p2 λb8 cQ=>π W R Φ λeK=>∃ n7,eK.cell? (ν b8 cQ)=some (I n7)/\ι W R Φ J (.bool (decide (i=n7))):=aT (hV [0,1,3])
theorem aEA(m0:Int)(m1:Int)(m2:Int)(m3:Int)(m4:Int)(m5:Int)(m6:Int)(m7:Bool)(jJ:Option Addr)(eY jY:Nat):aR F.z8 #[.agg #[.int .i64 m0,.int .i64 m1,.int .i64 m2,.int .i64 m3,.int .i64 m4,.int .i64 m5,.int .i64 m6,.bool m7,.slice jJ eY jY]] λW R Φ J=>
 ∀ (b b k0:Nat) w1 dM,Ctx W w1 (Own.blk k0 [I m0,I m1,I m2,I m3,I m4,I m5,I m6,.bool m7,.slice jJ eY jY] 104 :: R++dM) Φ->J (Value.agg #[.bool false,I 0,I 0,I 0,.slice none 0 0,.slice (ie k0 0) 1 1]) w1:=aT {hV [1,2] with gO:=[1,2] }
theorem aDz(σ τ:Nat):aR F.YS #[ε σ τ] λW R Φ J=>
 ο W R Φ F.NN #[ε σ τ] λe2 q=>∃ bR gB jH,e2=.returned (.slice bR gB jH)/\q λcO fV=>eE λ(fM:Int->Int->List Own->θ->Nat->Prop)=>(iF W cO fV (fM 0 0))/\∀ cx cq cK nX l9,O nX->fM cx cq cK nX l9->γ (decide (cq<(↑gB:Int))) (kQ cq gB bR λtN ql=>π W cK nX λsL=>∃ dP,sL.cell? (ν tN (ql+cq.toNat))=some (I dP)/\(0<=dP/\dP<3)/\π W cK nX λja=>∃ mK,ja.cell? (ν σ (τ+12+dP.toNat))=some (I mK)/\κ (cq+1)/\eD W cK nX l9 (fM (max cx mK) (cq+1))) (∀ oc iE, Ctx W oc (cK++iE) nX->∃ kZ,oc.cell? (ν σ (τ+5))=some (I kZ)/\∃ (s6:Int),(decide (kZ<cx)=true->∀ (oE:World),(∃ (nJ:Nat),oE=oc.drewN nJ)->Γ F.z7 #[ε σ τ,I cx] oE λzy xp=>zy=.returned (I s6)/\∃ (vw:Nat),xp=oc.drewN vw)/\∃ (qt:Int),(decide (kZ<cx)=true->oc.cell? (ν σ (τ+1))=some (I qt))/\γ (decide (kZ<cx)&&decide (s6=qt)) (∀ a03 K7,Ctx W a03 (cK++K7) nX->au a03 σ (τ+5) 1/\∀ wH,wH=a03.setCell (ν σ (τ+5)) (I cx)->∃ lN qL,O qL/\Ctx W wH (lN++K7) qL/\ι W lN qL J (Value.tuple #[])) (ι W cK nX J (Value.tuple #[]))):=aT {hV [0,2,4,6,7,8,9,37] with loops:=[(2,[(2,.one (.int .i64)),(8,.one (.int .i64))],[])] }
theorem aEK(ey:Option Addr)(cE eT:Nat)(fF:FuncId)(fC:Array Value):aR F.Z3 #[.slice ey cE eT,.func (.func fF) #[] fC] λW R Φ J=>
 eE λ(js:Int->List Own->θ->Nat->Prop)=>(iF W R Φ (js 0))/\∀ bg cO jc fQ,O jc->js bg cO jc fQ->γ (decide (bg<(↑cE:Int))) (kQ bg cE ey λdx gW=>π W cO jc λgi=>∃ jk,gi.cell? (ν dx (gW+bg.toNat))=some (I jk)/\∀ oC ov,Ctx W oC (cO++ov) jc->nx prog fF=true/\Calls prog fF (Array.mk (I jk :: fC.toList)) oC λaID iD=>∃ KS,aID=.returned (.bool KS)/\∃ jG nU,O nU/\Ctx W iD (jG++ov) nU/\γ KS (ι W jG nU J (I bg)) (κ (bg+1)/\eD W jG nU fQ (js (bg+1)))) (ι W cO jc J (I (-1))):=aT {hV [0,1,4,5,7,8,9,16] with wrap:=[16],loops:=[(2,[(8,.one (.int .i64))],[])] }
end Go.Proofs.YtcmgeboolmmdkaaGreatDoor
end

