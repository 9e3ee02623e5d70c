/-
 THE CONDITIONS OF A WALK OVER WHAT IT OWNS: a function's body.
-/
import Derived.Test.YtnlkemjhgdbfkaaGreatDoorCu3
import Derived.Test.YtnlkemjhgdbfkaaGreatDoorRows
open Go.Proofs.Tryz
set_option linter.unusedVariables false
set_option linter.unusedSimpArgs false
section
namespace Go.Vc
variable {G:List Own}
variable {ds:List Deferred}
open Go.RowKit
structure HS where
 /-- slots whose sums may wrap;calls of function values;0: stores of values of any kind -/
 wrap:List Nat:=[]
 /-- slots whose new blocks are known cell by cell -/
 gM:List Nat:=[]
 /-- regions with guards that are walked in the text's order -/
 split:List Nat:=[]
 /-- regions whose calls may draw -/
 X9:List Nat:=[]
 /-- slots that are read outside the region that writes them -/
 keep:Option (List Nat):=none
 /-- regions whose order is drawn,and that write or call: their stages -/
 gC:List (Nat × List Sg):=[]
 /-- of each loop the slots and the blocks that its rounds write -/
 loops:List (Nat × gX × gX):=[]
 a8p:List (Nat × gX × gX):=[]
def aA7(k:Nat):List (Nat × List Sg)->Option (List Sg)
 | []=>none
 | (t,l) :: r=>match Nat.beq t k with|true=>some l|false=>aA7 k r
def aA8(k:Nat):List (Nat × gX × gX)->Option (gX × gX)
 | []=>none
 | (t,l) :: r=>match Nat.beq t k with|true=>some l|false=>aA8 k r
def xP(asg:List Nat)(l:gX)(vs:List Value)(s:fO):fO:=⟨s.n,cons l vs (drop s.l)⟩
where
 cons:gX->List Value->List (Nat × SV)->List (Nat × SV)
  | (t,_) :: r,v :: vs,s=>(t,.v v) :: cons r vs s
  | _,_,s=>s
 drop:List (Nat × SV)->List (Nat × SV)
  | []=>[]
  | (t,x) :: r=>match dN t asg with|true=>drop r|false=>(t,x) :: drop r
def BM(k:Option (List Nat))(s:fO):fO:=match k with|none=>s|some k=>⟨s.n,go k s.l⟩
where go (k:List Nat):List (Nat × SV)->List (Nat × SV)
 | []=>[]
 | (t,x) :: r=>match dN t k with|true=>(t,x) :: go k r|false=>go k r
def aJ1(ts:gX)(L:List Tr):Bool:=match ts with
 | []=>true
 | (k,sh) :: r=>match bU k L,sh with|some _,.agg _=>aJ1 r L|_,_=>false
abbrev aSi(l:gX):Type:=pQ (List Own->PW->Nat->Prop) l
abbrev aYE(l:gX):Type:=pQ (List Own->PW->Prop) l
def DC(x:Option (List Own->PW->Nat->Prop))(R:List Own)(Φ:PW)(n:Nat):Prop:=match x with|some I=>I R Φ n|none=>False
def a8A(x:Option (List Own->PW->Prop))(R:List Own)(Φ:PW):Prop:=match x with|some I=>I R Φ|none=>False
def aA9:List Nat->List Nat->Bool
 | [],[]=>true
 | a :: l,b :: m=>Nat.beq a b&&aA9 l m
 | _,_=>false
theorem a5G:∀ {l m:List Nat},aA9 l m=true->l=m
 | [],[],_=>rfl
 | a :: l,b :: m,h=>by
  simp only [aA9,Bool.and_eq_true] at h;rw [Nat.eq_of_beq_eq_true h.1,a5G h.2]
 | [],_ :: _,h=>by cases h
 | _ :: _,[],h=>by cases h
def U8:gX->List Value->fO->fO
 | (t,_) :: r,v :: vs,s=>U8 r vs (s.put (some t) (.v v))
 | _,_,s=>s
abbrev aSj(l:gX):Type:=pQ (Nat->Prop) l
def a8B(x:Option (Nat->Prop))(k:Nat):Prop:=match x with|some I=>I k|none=>False
def aSk(l:gX)(A:aSj l)(xs:Nat->List Value)(N:Nat):Prop:=∀ k,k<N->a8B (pQ.app l A (xs k)) k
section
variable (P:Program)(W:World)
def aBa(H:HS)(ops:Array Oper)(st:List Sg)(s:fO)(L:List Tr)(R:List Own)(Φ:PW)(K:fO->List Tr->List Own->PW->Prop):Prop :=
 MC P W (λt=>dN t H.wrap) (λt=>dN t H.gM) ops st s L R Φ λs=>K (BM H.keep s)
def S9(H:HS)(d:Bool)(ops:Array Oper)(s:fO)(L:List Tr)(R:List Own)(Φ:PW)(K:fO->List Tr->List Own->PW->Prop):Prop :=
 ∀ w F,Ctx W w (R++F) Φ->qsS P (λt=>dN t H.wrap) d ops L w ops.toList [] s λs=>K (BM H.keep s) L R Φ
def aBb(H:HS)(id:Nat)(ops:Array Oper)(draw:Bool)(s:fO)(L:List Tr)(R:List Own)(Φ:PW)(K:fO->List Tr->List Own->PW->Prop):Prop :=
 match draw with
 | true=>match aA7 id H.gC with
  | some st=>match P.follows .mixedOrders&&Region.noSelect ops&&MA ops st (Array.replicate ops.size false)&&Nat.beq (LC st) ops.size with
   | true=>aBa P W H ops st s L R Φ K
   | false=>False
  | none=>match a3m P ops with
   | true=>S9 P W H true ops s L R Φ K
   | false=>False
 | false=>match guarded ops.toList && !(dN id H.split) with
  | true=>S9 P W H (dN id H.X9) ops s L R Φ K
  | false=>aFu P W (λt=>dN t H.wrap) (λt=>dN t H.gM) ops ops.toList s L R Φ λs=>K (BM H.keep s)
def vcS(H:HS):Code->(Exit->fO->List Tr->List Own->PW->Prop)->fO->List Tr->List Own->PW->Prop
 | .skip,Q,s,L,R,Φ=>Q .normal s L R Φ
 | .region id ops draw,Q,s,L,R,Φ=>aBb P W H id ops draw s L R Φ (Q .normal)
 | .seq x y,Q,s,L,R,Φ =>
  match aA8 (uJ y) H.a8p with
  | none=>vcS H x (λe s' L' R' aX=>match e with | .normal=>vcS H y Q s' L' R' aX|e=>Q e s' L' R' aX) s L R Φ
  | some (l,ts) =>
   match RZ (asg x) l (s.fr L)&&aJ1 ts L with
   | true =>
    ∃ J:aYE (l++ts),vcS H x (λe s' L' R' aX=>match e with
      | .normal=>match OB (asg x) (s.fr L) (s'.fr L')&&xL ts L' L with
       | true=>∃ R1 cL,aB cL/\(∀ w F,Ctx W w (R'++F) aX->Ctx W w (R1++F) cL)/\a8A (pQ.app (l++ts) J (slotsOf l (s'.fr L')++cellsOf ts L')) R1 cL
       | false=>False
      | e=>Q e s' L' R' aX) s L R Φ /\
     l.all λvs=>ts.all λus=>∀ R' aX,aB aX->a8A (pQ.app (l++ts) J (vs++us)) R' aX->vcS H y Q (xP (asg x) l vs s) (j8 ts us L) R' aX
   | false=>False
 | .cond c x y,Q,s,L,R,Φ=>match s.val L c with
  | .bool b=>Br b (vcS H x Q s L R Φ) (vcS H y Q s L R Φ)
  | _=>False
 | .block id b,Q,s,L,R,Φ=>vcS H b (λe s' L' R' aX=>match e with | .exit n=>(match Nat.beq n id with|true=>Q .normal s' L' R' aX|false=>Q (.exit n) s' L' R' aX)|e=>Q e s' L' R' aX) s L R Φ
 | .loop b,Q,s,L,R,Φ =>
  match aA8 (uJ b) H.loops with
  | none=>False
  | some (l,ts) =>
   match RZ (asg b) l (s.fr L)&&aJ1 ts L with
   | true =>
    ∃ I:aSi (l++ts),(∃ R1 cL n1,aB cL/\(∀ w F,Ctx W w (R++F) Φ->Ctx W w (R1++F) cL)/\DC (pQ.app (l++ts) I (slotsOf l (s.fr L)++cellsOf ts L)) R1 cL n1) /\
     l.all λvs=>ts.all λus=>∀ R' aX n,aB aX->DC (pQ.app (l++ts) I (vs++us)) R' aX n ->
      vcS H b (λe s' L' R'' aFC=>match e with
       | .normal=>match OB (asg b) (s.fr L) (s'.fr L')&&xL ts L' L with
        | true=>∃ R1 cL n1,aB cL/\(∀ w F,Ctx W w (R''++F) aFC->Ctx W w (R1++F) cL)/\DC (pQ.app (l++ts) I (slotsOf l (s'.fr L')++cellsOf ts L')) R1 cL n1/\n1<n
        | false=>False
       | e=>Q e s' L' R'' aFC) (xP (asg b) l vs s) (j8 ts us L) R' aX
   | false=>False
 | .exit id,Q,s,L,R,Φ=>Q (.exit id) s L R Φ
 | .label _,Q,s,L,R,Φ=>Q .normal s L R Φ
 | .scope b,Q,s,L,R,Φ=>vcS H b (λe s' L' R' aX=>match e with | .goto _=>False|e=>Q e s' L' R' aX) s L R Φ
 | .ret,Q,s,L,R,Φ=>Q .ret s L R Φ
 | .rangeFunc g ps x y,Q,s,L,R,Φ =>
  match s.val L g with
  | .func (.func gf) cs lb =>
   match aA8 (uJ y) H.loops with
   | none=>False
   | some (l,ts) =>
    match aA9 (l.map (·.1)) ps.toList&&mM x&&mM y&&aJ1 ts L with
    | true=>cs=#[]/\sI P gf=true/\∃ (N:Nat) (xs:Nat->List Value) (X:World->Prop) (A:aSj l) (I:aSi ts),Iter P gf lb N (λk=>(xs k).toArray) X/\aSk l A xs N /\
      (∃ R1 cL,aB cL/\(∀ w F,Ctx W w (R++F) Φ->Ctx W w (R1++F) cL)/\DC (pQ.app ts I (cellsOf ts L)) R1 cL 0) /\
      ts.all λus=>∀ R' aX k,aB aX->DC (pQ.app ts I us) R' aX k ->
       (∀ w F,Ctx W w (R'++F) aX->X w) /\
       (k<N->l.all λvs=>a8B (pQ.app l A vs) k->vcS H x (λe s1 L1 R1 cL=>match e with
         | .normal=>vcS H y (λe s2 L2 R2 JG=>match e with
           | .normal=>match xL ts L2 L with
            | true=>∃ R3 MH,aB MH/\(∀ w F,Ctx W w (R2++F) JG->Ctx W w (R3++F) MH)/\DC (pQ.app ts I (cellsOf ts L2)) R3 MH (k+1)
            | false=>False
           | _=>False) s1 L1 R1 cL
         | _=>False) (U8 l vs s) (j8 ts us L) R' aX) /\
       (k=N->Q .normal s (j8 ts us L) R' aX)
    | false=>False
  | _=>False
 | _,_,_,_,_,_=>False
def a3w(s:fO)(L:List Tr)(R:List Own)(Φ:PW):List ResultVar->(List Value->Prop)->Prop
 | [],K=>K []
 | .tmp t :: r,K=>match vZ ((VB t s.l).val L) with
  | true=>False
  | false=>a3w s L R Φ r λvs=>K ((VB t s.l).val L :: vs)
 | .cell a t :: r,K=>match VB a s.l with
  | .ptr k off=>loadT P t L k off λv=>a3w s L R Φ r λvs=>K (v :: vs)
  | .v (.pointer (some ⟨b,o,none⟩))=>∀ w F,Ctx W w (R++F) Φ->D1 P t w none b o λv=>a3w s L R Φ r λvs=>K (v :: vs)
  | .v _=>False
def aSm(fn:Func)(J:Value->World->Prop):Exit->fO->List Tr->List Own->PW->Prop
 | .normal,s,L,R,Φ | .ret,s,L,R,Φ=>a3w P W s L R Φ fn.results.toList λvs=>∀ w F,Ctx W w (R++F) Φ->J (pV vs) w
 | _,_,_,_,_=>False
def a5H:Nat->List Value->List (Nat × SV)
 | _,[]=>[]
 | i,v :: r=>(i,.v v) :: a5H (i+1) r
def aN5(H:HS)(f:FuncId)(args:Array Value)(R:List Own)(Φ:PW)(J:Value->World->Prop):Prop :=
 match P.funcs[f]? with
 | some fn=>match fn.body with
  | some c=>vcS P W H c (aSm P W fn J) ⟨max fn.ntmps args.size,a5H 0 args.toList⟩ [] R Φ
  | none=>False
 | none=>False
end
theorem a5I(k s L):(BM k s).fr L=(s.fr L).keep k:=by
 cases k with
 | none=>rfl
 | some k =>
  have key:∀ l:List (Nat × SV),sV L (BM.go k l)=mL (λt=>dN t k) (sV L l):=by
   intro l
   induction l with
   | nil=>rfl
   | cons p r ih =>
    obtain ⟨t,v⟩:=p;simp only [BM.go,sV,mL];cases dN t k with
    | true=>simp only [sV,ih]
    | false=>exact ih
  simp only [BM,Fr.keep,fO.fr,key]
theorem aFD{k s L}(h:M6 L s):M6 L (BM k s):=by
 cases k with
 | none=>exact h
 | some k =>
  have key:∀ l:List (Nat × SV),∀ p∈BM.go k l,p∈l:=by
   intro l
   induction l with
   | nil=>intro p hp;exact hp
   | cons q r ih =>
    obtain ⟨t,v⟩:=q;intro p hp;simp only [BM.go] at hp;cases hb:dN t k with
    | true=>rw [hb] at hp;rcases List.mem_cons.1 hp with rfl|hp;simp;exact List.mem_cons_of_mem _ (ih p hp)
    | false=>rw [hb] at hp;exact List.mem_cons_of_mem _ (ih p hp)
  exact λp hp=>h p (key _ p hp)
theorem At.keep{W s L R Φ a w}(h:At ds G W s L R Φ a w)(k):At ds G W (BM k s) L R Φ a w :=
 ⟨by rw [a5I];exact FO h.BH k,aFD h.wf,h.ids,h.ctx,h.st⟩
theorem ON{asg l vs s L L1}(hwf:M6 L s)(hb:∀ k T,bU k L=some T->∃ T',bU k L1=some T'/\T'.b=T.b):(xP asg l vs s).fr L1=meet asg l vs (s.fr L):=by
 have key:∀ r:List (Nat × SV),(∀ p∈r,∀ k o,p.2=SV.ptr k o->(bU k L).isSome=true)->sV L1 (xP.drop asg r)=mL (λt => !dN t asg) (sV L r):=by
  intro r
  induction r with
  | nil=>intro _;rfl
  | cons p r ih =>
   obtain ⟨t,v⟩:=p;intro h;have ih:=ih λq hq=>h q (List.mem_cons_of_mem _ hq);simp only [xP.drop,sV,mL];cases dN t asg with
   | true=>exact ih
   | false =>
    simp only [sV,Bool.not_false,ih]
    congr 2
    cases v with
    | v x=>rfl
    | ptr k o =>
     obtain ⟨T,hT⟩:=Option.isSome_iff_exists.1 (h (t,.ptr k o) (by simp) k o rfl);obtain ⟨T',h1,h2⟩:=hb k T hT;simp only [SV.val,hT,h1,h2]
 have aN6:∀ (l:gX) (vs:List Value) (r:List (Nat × SV)),sV L1 (xP.cons l vs r)=O9 l vs (sV L1 r):=by
  intro l
  induction l with
  | nil=>intro vs r;cases vs<;>rfl
  | cons p l ih =>
   obtain ⟨t,sh⟩:=p;intro vs r;cases vs with
   | nil=>rfl
   | cons v vs=>simp only [xP.cons,O9,sV,ih,SV.val]
 simp only [fO.fr,xP,meet,FP,Fr.drop,aN6,key s.l hwf]
theorem a5J{asg l vs s L L1}(hwf:M6 L s)(hb:∀ k T,bU k L=some T->∃ T',bU k L1=some T'/\T'.b=T.b):M6 L1 (xP asg l vs s):=by
 have key:∀ r:List (Nat × SV),∀ p∈xP.drop asg r,p∈r:=by
  intro r
  induction r with
  | nil=>intro p hp;exact hp
  | cons q r ih =>
   obtain ⟨t,v⟩:=q;intro p hp;simp only [xP.drop] at hp;cases hm:dN t asg with
   | true=>rw [hm] at hp;exact List.mem_cons_of_mem _ (ih p hp)
   | false=>rw [hm] at hp;rcases List.mem_cons.1 hp with rfl|hp;simp;exact List.mem_cons_of_mem _ (ih p hp)
 have aN6:∀ (l:gX) (vs:List Value) (r:List (Nat × SV)),∀ p∈xP.cons l vs r,p∈r\/∃ v,p.2=.v v:=by
  intro l
  induction l with
  | nil=>intro vs r p hp;cases vs<;>exact .inl hp
  | cons q l ih =>
   obtain ⟨t,sh⟩:=q;intro vs r p hp;cases vs with
   | nil=>exact .inl hp
   | cons v vs =>
    rcases List.mem_cons.1 hp with rfl|hp
    .exact .inr ⟨v,rfl⟩
    .exact ih vs r p hp
 intro p hp k o e;rcases aN6 _ _ _ p hp with h|⟨v,h⟩
 .obtain ⟨T,hT⟩:=Option.isSome_iff_exists.1 (hwf p (key _ p h) k o e);obtain ⟨T',h1,_⟩:=hb k T hT;rw [h1];rfl
 .rw [h] at e;cases e
theorem qF{x R Φ n}(h:DC x R Φ n):∃ I,x=some I:=by
 cases x with
 | none=>exact h.elim
 | some I=>exact ⟨I,rfl⟩
theorem a5K{x R Φ}(h:a8A x R Φ):∃ I,x=some I:=by
 cases x with
 | none=>exact h.elim
 | some I=>exact ⟨I,rfl⟩
theorem all_append{ts us ρ x}:∀ {l:gX} {vs:List Value} (_:vs.length=l.length) {K:List Value->List Value->Prop} (_:l.all λvs=>ts.all λus=>K vs us) {f:pQ ρ (l++ts)} (_:pQ.app (l++ts) f (vs++us)=some x),
  K vs us/\us.length=ts.length/\(∀ v∈vs,vZ v=false)/\(∀ u∈us,vZ u=false):=by
 intro l
 induction l with
 | nil =>
  intro vs hl K h f hx;cases vs with
  | nil =>
   obtain ⟨h1,h2,h3⟩:=pQ.lD hx h;exact ⟨h1,h2,λv hv=>(by cases hv),h3⟩
  | cons v vs=>simp at hl
 | cons p r ih =>
  intro vs hl K h f hx;obtain ⟨t,s⟩:=p;cases vs with
  | nil=>simp at hl
  | cons v vs =>
   simp only [List.cons_append] at f hx;unfold pQ.app at hx;split at hx
   .rename_i g hg;obtain ⟨h1,h2⟩:=Sh.lD hg h;obtain ⟨h3,h4,h5,h6⟩:=ih (vs:=vs) (by simpa using hl) (K:=λvs us=>K (v :: vs) us) h1 hx;refine ⟨h3,h4,λu hu=>?_,h6⟩;rcases List.mem_cons.1 hu with rfl|hu
    .exact h2
    .exact h5 u hu
   .cases hx
theorem uM(l s):(slotsOf l s).length=l.length:=by simp [slotsOf]
theorem aFE{p:Nat->Prop}(h:∃ n,p n):∃ n,p n/\∀ m,p m->n<=m:=by
 obtain ⟨n,hn⟩:=h
 induction n using Nat.strongRecOn with
 | _ n ih =>
  by_cases hx:∃ m,m<n/\p m
  .obtain ⟨m,h1,h2⟩:=hx;exact ih m h1 h2
  .exact ⟨n,hn,λm hm=>by
    rcases Nat.lt_or_ge m n with h'|h'
    .exact absurd ⟨m,h',hm⟩ hx
    .exact h'⟩
theorem pQ.OO{ρ}:∀ {l:gX} {f:pQ ρ l} {vs:List Value} {x:ρ},pQ.app l f vs=some x->vs.length=l.length
 | [],_,[],_,_=>rfl
 | (t,s) :: r,f,v :: vs,x,h=>by
  unfold pQ.app at h;split at h
  .simp [pQ.OO h]
  .cases h
 | [],_,_ :: _,_,h=>by cases h
 | _ :: _,_,[],_,h=>by cases h
theorem aFF{P f}(h:sI P f=true)(args w):(callFunc f args).run P w=.ok (.enter f args) w:=by
 unfold sI at h;split at h
 .rename_i fn hfn;simp only [Bool.and_eq_true,Bool.not_eq_true'] at h;have hb':fn.body.isNone=false:=by cases hh:fn.body<;>simp_all
  simp only [callFunc,program,Sem.run,hfn,h.2,hb',Bool.false_eq_true,if_false,Sem.run_bind,Sem.run_pure,Result.andThen]
 .cases h
theorem a1R{L}:∀ {l:gX} {vs:List Value} {s:fO} {a:Act},vC ds (s.fr L) a->M6 L s ->
  vC ds ((U8 l vs s).fr L) { tmps:=((l.map (·.1)).zip vs).foldl (λt p=>t.setIfInBounds p.1 p.2) a.tmps,defers:=a.defers }/\M6 L (U8 l vs s)
 | (t,sh) :: r,v :: vs,s,a,h,hw=>by
  have h2:vC ds ((s.put (some t) (.v v)).fr L) (a.put (some t) v):=by rw [XF];exact h.put _ (λ_=>rfl)
  have:=a1R (l:=r) (vs:=vs) h2 (hw.put λk o e=>(by cases e));simpa [U8,Act.put] using this
 | [],vs,s,a,h,hw=>by
  simp only [U8,List.map_nil,List.zip_nil_left,List.foldl_nil];exact ⟨h,hw⟩
 | _ :: _,[],s,a,h,hw=>by
  simp only [U8,List.zip_nil_right,List.foldl_nil];exact ⟨h,hw⟩
theorem aCw{P W H}:∀ (c:Code) {rd:Option Nat} {Q':Exit->fO->List Tr->List Own->PW->Prop} {Q:Exit->Act->World->Prop} {s:fO} {L:List Tr} {R:List Own} {Φ:PW} {a:Act} {w:World} {ds:List Deferred} {G:List Own},
  (rd.isSome=true->mM c=true)->vcS P W H c Q' s L R Φ->At ds G W s L R Φ a w->(∀ e s' L' R' aX a' w' ds' G',Q' e s' L' R' aX->Tie rd ds G ds' G'->At ds' G' W s' L' R' aX a' w'->Ext L L'->bY (λt=>t∈asg c) (s.fr L) (s'.fr L')->Q e a' w')->c.wpIn (jU rd) 0 P Q a w:=by
 intro c
 induction c with
 | skip=>intro rd Q' Q s L R Φ a w ds G hrd h ha hQ;exact wpIn_skip (hQ _ _ _ _ _ _ _ _ _ h (Tie.refl _ _ _) ha (Ext.refl _) (bY.refl _ _))
 | region id ops draw =>
  intro rd Q' Q s L R Φ a w ds G hrd h ha hQ;have hD:∀ o∈ops.toList,∀ t,o.dst=some t->t∈a0O ops.toList:=λo ho t ht=>List.mem_filterMap.2 ⟨o,ho,ht⟩;have hD':∀ (j:Nat) (o:Oper) (t:Nat),ops[j]? = some o->o.dst=some t->t∈a0O ops.toList:=λj o t ho ht=>hD o (by simpa using Array.mem_of_getElem? ho) t ht;have hQ':∀ s' L' R' aX a' w',Q' .normal (BM H.keep s') L' R' aX->At ds G W s' L' R' aX a' w'->Ext L L'->bY (λt=>t∈a0O ops.toList) (s.fr L) (s'.fr L')->Q .normal a' w':=by
   intro s' L' R' aX a' w' hk cN he hu;exact hQ _ _ _ _ _ _ _ _ _ hk (Tie.refl _ _ _) (cN.keep _) he (by rw [a5I];exact BE hu _)
  have quiet:∀ (d:Bool),(∀ w F,Ctx W w (R++F) Φ->qsS P (λt=>dN t H.wrap) d ops L w ops.toList [] s λs=>Q' .normal (BM H.keep s) L R Φ)->wpQuiet P ops (VA d w) (λa'=>∀ w',VA d w w'->Q .normal a' w') ops.toList a:=by
   intro d h;refine S7 (D:=λt=>t∈a0O ops.toList) (s0:=s.fr L) ha.st ha.ids ha.ctx (λs' a' hk hs' hwf' eI w' hw'=>?_) _ _ _ _ hD (λe he=>(by cases he)) (h w _ ha.ctx) (Rel.start ha.BH) ha.wf (bY.refl _ _);have JB:jH G W w' L R Φ:=by
    have:=ha.st;cases d with
    | false=>cases hw';exact ha.ctx
    | true=>obtain ⟨n,rfl⟩:=hw';exact Ctx.draw ha.ctx n
   exact hQ' s' L R Φ a' w' hk ⟨hs',hwf',ha.ids,JB,ha.st⟩ (Ext.refl _) eI
  simp only [vcS,aBb,aBa,S9] at h;cases draw with
  | true =>
   simp only at h;split at h
   .rename_i st _;split at h
    .rename_i hc;simp only [Bool.and_eq_true,Nat.beq_eq] at hc;obtain ⟨⟨⟨h1,h2⟩,h3⟩,h4⟩:=hc;have:=ha.st;refine aA6 (λhh=>hrd hh) h1 ?_;have h7:=pW (Q:=U7 Q) (L0:=L) (s0:=s.fr L) (D:=λt=>t∈a0O ops.toList) h2 hD' (λs' L' R' aX a' w' hk cN he hu=>hQ' s' L' R' aX a' w' hk cN he hu) st _ _ _ _ _ _ (w.drewN 1) h3 h ⟨ha.BH,ha.wf,ha.ids,Ctx.draw ha.ctx 1,ha.st⟩ (Ext.refl _) (bY.refl _ _);rw [h4] at h7;exact h7
    .exact h.elim
   .split at h
    .rename_i hc;simp only [a3m,Bool.and_eq_true] at hc;have h1:=quiet true h;exact aCv (λhh=>hrd hh) hc.1 hc.2 (by
      have e:VA true w=λw'=>∃ n,w'=w.drewN n:=rfl;rw [e] at h1;exact h1)
    .exact h.elim
  | false =>
   simp only at h;split at h
   .have h1:=quiet (dN id H.X9) h;refine a5F (λhh=>hrd hh) ?_;exact lT (Q:=U7 Q) (C:=VA (dN id H.X9) w) (Qa:=λa'=>∀ w',VA (dN id H.X9) w w'->Q .normal a' w') (λa' w' hw' hq=>hq w' hw') _ _ _ (by cases dN id H.X9;rfl;exact ⟨0,rfl⟩) h1
   .refine a5F (λhh=>hrd hh) ?_;exact MD (Q:=U7 Q) (D:=λt=>t∈a0O ops.toList) (s0:=s.fr L) (L0:=L) hD' (λs' L' R' aX a' w' hk cN he hu=>hQ' s' L' R' aX a' w' hk cN he hu) _ _ _ _ _ _ _ hD h ha (Ext.refl _) (bY.refl _ _)
 | seq x y ihx ihy =>
  intro rd Q' Q s L R Φ a w ds G hrd h ha hQ;simp only [vcS] at h;have hrx:rd.isSome=true->mM x=true/\mM y=true:=λhh=>by have:=hrd hh;simpa only [mM,Bool.and_eq_true] using this
  refine wpIn_seq ?_;split at h
  .refine ihx (λhh=>(hrx hh).1) h ha ?_;intro e s' L' R' aX a' w' ds1 G1 hq htie cN he hu;have eI:bY (λt=>t∈asg (.seq x y)) (s.fr L) (s'.fr L'):=hu.mono λi hi=>List.mem_append.2 (.inl hi);cases e with
   | normal =>
    simp only [Exit.then];refine ihy (λhh=>(hrx hh).2) hq cN λe s'' L'' R'' aFC a'' w'' ds2 G2 hq' aFG XN he' M4=>hQ _ _ _ _ _ _ _ _ _ hq' (htie.trans aFG) XN (he.trans he') ?_;exact eI.trans (M4.mono λi hi=>List.mem_append.2 (.inr hi))
   | exit n=>exact hQ _ _ _ _ _ _ _ _ _ hq htie cN he eI
   | goto n=>exact hQ _ _ _ _ _ _ _ _ _ hq htie cN he eI
   | ret=>exact hQ _ _ _ _ _ _ _ _ _ hq htie cN he eI
   | panic n=>exact hQ _ _ _ _ _ _ _ _ _ hq htie cN he eI
   | outgrown=>exact hQ _ _ _ _ _ _ _ _ _ hq htie cN he eI
  .rename_i l ts hl;split at h
   .rename_i hok;simp only [Bool.and_eq_true] at hok;obtain ⟨hv,hn⟩:=zK hok.1;obtain ⟨J,h1,h2⟩:=h;refine ihx (λhh=>(hrx hh).1) h1 ha ?_;intro e s' L' R' aX a' w' ds1 G1 hq htie cN he hu;have eI:bY (λt=>t∈asg (.seq x y)) (s.fr L) (s'.fr L'):=hu.mono λi hi=>List.mem_append.2 (.inl hi);cases e with
    | normal =>
     simp only [Exit.then];simp only at hq;split at hq
     .rename_i hsub;simp only [Bool.and_eq_true] at hsub;obtain ⟨R1,cL,aCt,hw1,hj⟩:=hq;obtain ⟨I,hI⟩:=a5K hj;obtain ⟨h3,_,hk,_⟩:=all_append (uM l _) h2 hI;have hme:=S1 ts (cellsOf ts L') L;have hb:∀ k T,bU k L=some T->∃ T',bU k (j8 ts (cellsOf ts L') L)=some T'/\T'.b=T.b:=λk T hT=>by obtain ⟨T',q1,q2,_⟩:=hme.old k T hT;exact ⟨T',q1,q2⟩
      have aN7:=BF (s:=s.fr L) cN.BH hu (λi=>pF hsub.1) rfl hk;have ham:At ds1 G1 W (xP (asg x) l (slotsOf l (s'.fr L')) s) (j8 ts (cellsOf ts L') L) R1 cL a' w' :=
       ⟨by rw [ON ha.wf hb];exact aN7,a5J ha.wf hb,hme.ids ha.ids,hw1 w' _ (jH.meet cN.st cN.ctx he ha.ids hsub.2),aCt⟩
      refine ihy (λhh=>(hrx hh).2) (h3 R1 cL aCt hj) ham λe s'' L'' R'' aFC a'' w'' ds2 G2 hq' aFG XN he' M4=>hQ _ _ _ _ _ _ _ _ _ hq' (htie.trans aFG) XN (hme.trans he') ?_;refine bY.trans (b:=(xP (asg x) l (slotsOf l (s'.fr L')) s).fr (j8 ts (cellsOf ts L') L)) ?_ (M4.mono λi hi=>List.mem_append.2 (.inr hi));rw [ON ha.wf hb];exact JD (λv RW=>List.mem_append.2 (.inl (hv v RW).1))
     .exact hq.elim
    | exit n=>exact hQ _ _ _ _ _ _ _ _ _ hq htie cN he eI
    | goto n=>exact hQ _ _ _ _ _ _ _ _ _ hq htie cN he eI
    | ret=>exact hQ _ _ _ _ _ _ _ _ _ hq htie cN he eI
    | panic n=>exact hQ _ _ _ _ _ _ _ _ _ hq htie cN he eI
    | outgrown=>exact hQ _ _ _ _ _ _ _ _ _ hq htie cN he eI
   .exact h.elim
 | cond c x y ihx ihy =>
  intro rd Q' Q s L R Φ a w ds G hrd h ha hQ;simp only [vcS] at h;split at h
  .rename_i b hb;have hc:a.eval c=.bool b:=by rw [ha.BH.eval (by rw [uB,hb];rfl),uB,hb]
   cases b with
   | true=>exact wpIn_cond_true hc (ihx (λhh=>by have:=hrd hh;simp only [mM,Bool.and_eq_true] at this;exact this.1) h ha λe s' L' R' aX a' w' ds1 G1 hq htie cN he hu=>hQ _ _ _ _ _ _ _ _ _ hq htie cN he (hu.mono λi hi=>List.mem_append.2 (.inl hi)))
   | false=>exact wpIn_cond_false hc (ihy (λhh=>by have:=hrd hh;simp only [mM,Bool.and_eq_true] at this;exact this.2) h ha λe s' L' R' aX a' w' ds1 G1 hq htie cN he hu=>hQ _ _ _ _ _ _ _ _ _ hq htie cN he (hu.mono λi hi=>List.mem_append.2 (.inr hi)))
  .exact h.elim
 | block id b ih =>
  intro rd Q' Q s L R Φ a w ds G hrd h ha hQ;simp only [vcS] at h;refine wpIn_block (ih (λhh=>hrd hh) h ha ?_);intro e s' L' R' aX a' w' ds1 G1 hq htie cN he hu;cases e with
  | exit n =>
   simp only [Exit.inBlock];simp only at hq;split at hq
   .rename_i e;rw [if_pos (Nat.eq_of_beq_eq_true e)];exact hQ _ _ _ _ _ _ _ _ _ hq htie cN he hu
   .rename_i e;rw [if_neg (Nat.ne_of_beq_eq_false e)];exact hQ _ _ _ _ _ _ _ _ _ hq htie cN he hu
  | normal=>exact hQ _ _ _ _ _ _ _ _ _ hq htie cN he hu
  | goto n=>exact hQ _ _ _ _ _ _ _ _ _ hq htie cN he hu
  | ret=>exact hQ _ _ _ _ _ _ _ _ _ hq htie cN he hu
  | panic n=>exact hQ _ _ _ _ _ _ _ _ _ hq htie cN he hu
  | outgrown=>exact hQ _ _ _ _ _ _ _ _ _ hq htie cN he hu
 | loop b ih =>
  intro rd Q' Q s L R Φ a w ds G hrd h ha hQ;simp only [vcS] at h;split at h
  .exact h.elim
  .rename_i l ts hl;split at h
   .rename_i hok;simp only [Bool.and_eq_true] at hok;obtain ⟨hv,hn⟩:=zK hok.1;obtain ⟨I,⟨R0,cJ,n0,xN,hw0,h0⟩,h1⟩:=h
    let Rel:=λ(n:Nat) (a':Act) (w':World)=>∃ ds1 G1 vs us R' aX,Tie rd ds G ds1 G1/\vs.length=l.length/\aB aX/\DC (pQ.app (l++ts) I (vs++us)) R' aX n/\vC ds1 (meet (asg b) l vs (s.fr L)) a'/\jH G1 W w' (j8 ts us L) R' aX
    have hst:=ha.st;have start:Rel n0 a w:=by
     obtain ⟨I',hI'⟩:=qF h0;obtain ⟨_,_,hk,_⟩:=all_append (uM l _) h1 hI';have hm:=BF (s:=s.fr L) ha.BH (bY.refl _ _) (λi=>KZ) rfl hk (asg:=asg b) (l:=l);refine ⟨_,_,_,_,R0,cJ,Tie.refl _ _ _,uM l _,xN,h0,hm,?_⟩;have hss:xL ts L L=true:=by
      have key:∀ M:List Tr,(∀ T∈M,T∈L)->xL ts L M=true:=by
       intro M
       induction M with
       | nil=>intro _;rfl
       | cons T r ihr =>
        intro hM;unfold xL;cases dN T.id (ts.map (·.1)) with
        | true=>exact ihr λU hU=>hM U (List.mem_cons_of_mem _ hU)
        | false =>
         rw [JF ha.ids (hM T (by simp))];simp only [show Nat.beq T.ver T.ver=true by simp];exact ihr λU hU=>hM U (List.mem_cons_of_mem _ hU)
      exact key L λ_ h=>h
     exact jH.meet xN (hw0 w _ ha.ctx) (Ext.refl L) ha.ids hss
    let least:=λ(a':Act) (w':World) (n:Nat)=>Rel n a' w'/\∀ m,Rel m a' w'->n<=m
    let mu:=λ(a':Act) (w':World)=>@dite _ (∃ n,least a' w' n) (Classical.propDecidable _) (λhx=>Classical.choose hx) (λ_=>0)
    have hmu:∀ a' w' n,Rel n a' w'->∃ k,least a' w' k/\mu a' w'=k/\k<=n:=by
     intro a' w' n hn;have hx:∃ k,least a' w' k:=aFE ⟨n,hn⟩;refine ⟨Classical.choose hx,Classical.choose_spec hx,?_,(Classical.choose_spec hx).2 n hn⟩;show @dite _ (∃ n,least a' w' n) (Classical.propDecidable _) (λhx=>Classical.choose hx) (λ_=>0)=_;rw [dif_pos hx]
    refine wpIn_loop (λa' w'=>∃ n,Rel n a' w') mu ⟨n0,start⟩ ?_;rintro a1 w1 ⟨n1,hn1⟩;obtain ⟨n,⟨⟨ds1,G1,vs,us,R',aX,aSq,hlen,aCt,hI,hs1,hc1⟩,_⟩,aYG,_⟩:=hmu a1 w1 n1 hn1;rw [aYG];obtain ⟨I',hI'⟩:=qF hI;obtain ⟨h2,hlu,hk,hku⟩:=all_append hlen h1 hI';have hme:=S1 ts us L;have hb:∀ k T,bU k L=some T->∃ T',bU k (j8 ts us L)=some T'/\T'.b=T.b:=λk T hT=>by obtain ⟨T',q1,q2,_⟩:=hme.old k T hT;exact ⟨T',q1,q2⟩
    have ham:At ds1 G1 W (xP (asg b) l vs s) (j8 ts us L) R' aX a1 w1:=⟨by rw [ON ha.wf hb];exact hs1,a5J ha.wf hb,hme.ids ha.ids,hc1,aCt⟩;refine ih (λhh=>hrd hh) (h2 R' aX n aCt hI) ham ?_;intro e s' L' R'' aFC a' w' ds2 G2 hq aFH cN he hu;have htie:=aSq.trans aFH;rw [ON ha.wf hb] at hu;have eI:bY (λt=>t∈asg b) (s.fr L) (s'.fr L'):=bY.trans (JD (λv RW=>(hv v RW).1)) hu;have he':Ext L L':=hme.trans he
    cases e with
    | normal =>
     simp only [Exit.then];simp only at hq;split at hq
     .rename_i hsub;simp only [Bool.and_eq_true] at hsub;obtain ⟨R2,JG,n2,aJ3,EP,hj,hlt⟩:=hq;obtain ⟨I2,hI2⟩:=qF hj;obtain ⟨_,_,hk2,_⟩:=all_append (uM l _) h1 hI2;have aN7:=BF (s:=s.fr L) cN.BH eI (λi=>pF hsub.1) rfl hk2;have MI:Rel n2 a' w':=⟨_,_,_,_,R2,JG,htie,uM l _,aJ3,hj,aN7,EP w' _ (jH.meet cN.st cN.ctx he' ha.ids hsub.2)⟩;obtain ⟨k,_,hmk,hkn⟩:=hmu a' w' n2 MI;exact ⟨⟨n2,MI⟩,by rw [hmk];omega⟩
     .exact hq.elim
    | exit n=>exact hQ _ _ _ _ _ _ _ _ _ hq htie cN he' eI
    | goto n=>exact hQ _ _ _ _ _ _ _ _ _ hq htie cN he' eI
    | ret=>exact hQ _ _ _ _ _ _ _ _ _ hq htie cN he' eI
    | panic n=>exact hQ _ _ _ _ _ _ _ _ _ hq htie cN he' eI
    | outgrown=>exact hQ _ _ _ _ _ _ _ _ _ hq htie cN he' eI
   .exact h.elim
 | exit id=>intro rd Q' Q s L R Φ a w ds G hrd h ha hQ;exact wpIn_exit (hQ _ _ _ _ _ _ _ _ _ h (Tie.refl _ _ _) ha (Ext.refl _) (bY.refl _ _))
 | ret=>intro rd Q' Q s L R Φ a w ds G hrd h ha hQ;exact wpIn_ret (hQ _ _ _ _ _ _ _ _ _ h (Tie.refl _ _ _) ha (Ext.refl _) (bY.refl _ _))
 | rangeFunc g ps x y ihx ihy =>
  intro rd Q' Q s L R Φ a w ds G hrd h ha hQ;cases rd with
  | some l=>have:=hrd rfl;cases this
  | none =>
  simp only [vcS] at h;split at h
  .rename_i gf cs lb hg;split at h
   .exact h.elim
   .rename_i l ts hl;split at h
    .rename_i hok;simp only [Bool.and_eq_true] at hok;obtain ⟨⟨⟨hps,hrx⟩,hry⟩,hts⟩:=hok;obtain ⟨hcs,hfn,N,xs,X,A,I,hit,hfit,⟨R0,cJ,xN,hw0,h0⟩,h1⟩:=h;subst hcs;have hge:a.eval g=.func (.func gf) #[] lb:=by rw [ha.BH.eval (by rw [uB,hg];rfl),uB,hg]
     have hme:∀ us,Ext L (j8 ts us L):=λus=>S1 ts us L;have hpl:=a5G hps;have hst:=ha.st;have hss:xL ts L L=true:=by
      have key:∀ M:List Tr,(∀ T∈M,T∈L)->xL ts L M=true:=by
       intro M
       induction M with
       | nil=>intro _;rfl
       | cons T r ihr =>
        intro hM;unfold xL;cases dN T.id (ts.map (·.1)) with
        | true=>exact ihr λU hU=>hM U (List.mem_cons_of_mem _ hU)
        | false =>
         rw [JF ha.ids (hM T (by simp))];simp only [show Nat.beq T.ver T.ver=true by simp];exact ihr λU hU=>hM U (List.mem_cons_of_mem _ hU)
      exact key L λ_ h=>h
     let Inv:=λ(k:Nat) (Gx:List Own) (w1:World)=>∃ us R' aX,aB aX/\DC (pQ.app ts I us) R' aX k/\jH Gx W w1 (j8 ts us L) R' aX
     have fits:∀ k,k<N->∃ A',pQ.app l A (xs k)=some A':=λk hk=>by
      have:=hfit k hk;unfold a8B at this;split at this
      .rename_i A' e;exact ⟨A',e⟩
      .exact this.elim
     have len:∀ k,k<N->(xs k).length=l.length:=λk hk=>by
      obtain ⟨A',e⟩:=fits k hk;exact pQ.OO e
     refine aFB (W:=W) (G:=G) hge (aFF hfn) hit (λk hk=>by rw [List.size_toArray,len k hk,<-Array.length_toList,<-hpl,List.length_map]) Inv ?_ ?_ ?_ ?_ ?_
     .rintro k Gx w1 ⟨us,R',aX,hs,hi,c⟩;refine ⟨R'++(j8 ts us L).map Tr.own,aX,hs,by rw [bM];exact c,λw2 Gy c2=>⟨us,R',aX,hs,hi,by rw [bM] at c2;exact c2⟩⟩
     .rintro k Gx w1 ⟨us,R',aX,hs,hi,c⟩;obtain ⟨I',hI'⟩:=qF hi;exact ((pQ.lD hI' h1).1 R' aX k hs hi).1 _ _ c
     .exact ⟨_,R0,cJ,xN,h0,jH.meet xN (hw0 w _ ha.ctx) (Ext.refl L) ha.ids hss⟩
     .rintro lp k Gx w1 hk ⟨us,R',aX,hs,hi,c⟩;obtain ⟨I',hI'⟩:=qF hi;obtain ⟨A',hA'⟩:=fits k hk;have h2:=((pQ.lD hI' h1).1 R' aX k hs hi).2.1 hk;have h3:=(pQ.lD hA' h2).1 (hfit k hk);have ham:At [] Gx W (U8 l (xs k) s) (j8 ts us L) R' aX { tmps:=(ps.zip (xs k).toArray).foldl (λt (p,v)=>t.setIfInBounds p v) a.tmps,defers:=[] } w1:=by
       obtain ⟨q1,q2⟩:=a1R (L:=j8 ts us L) (l:=l) (vs:=xs k) (s:=s) (a:={ a with defers:=[] }) ⟨rfl,(by rw [ha.wf.fr (hme us)];exact ha.BH.size),λi hi=>(by rw [ha.wf.fr (hme us)] at hi ⊢;exact ha.BH.slot i hi)⟩ (ha.wf.ext (hme us));refine ⟨?_,q2,(hme us).ids ha.ids,c,hs⟩;rw [hpl] at q1;rw [<-Array.foldl_toList,Array.toList_zip];exact q1
      refine ihx (rd:=some lp) (λ_=>hrx) h3 ham ?_;intro e s1 L1 R1 cL a1 w2 ds1 G1 hq htie ha1 CX _;cases e with
      | normal =>
       obtain ⟨Z,hZ,rfl,rfl⟩:=htie;have hZ:=hZ rfl;subst hZ;refine ⟨R1++L1.map Tr.own,cL,ha1.st,by rw [bM];exact ha1.ctx,λw3 Gx3 c3=>?_⟩;have ha3:At [] Gx3 W s1 L1 R1 cL a1 w3:=⟨ha1.BH,ha1.wf,ha1.ids,by rw [bM] at c3;exact c3,ha1.st⟩;refine ihy (rd:=some lp) (λ_=>hry) hq ha3 ?_;intro e s2 L2 R2 JG a2 w4 ds2 G2 qZ aFH ha2 U9 _;cases e with
       | normal =>
        obtain ⟨Z,hZ,rfl,rfl⟩:=aFH;have hZ:=hZ rfl;subst hZ;simp only at qZ;split at qZ
        .rename_i hsub;obtain ⟨R3,MH,VC,hw3,hj⟩:=qZ;exact ⟨rfl,_,R3,MH,VC,hj,hw3 w4 _ (jH.meet ha2.st ha2.ctx (((hme us).trans CX).trans U9) ha.ids hsub)⟩
        .exact qZ.elim
       | _=>exact qZ.elim
      | _=>exact hq.elim
     .rintro D w' ⟨us,R',aX,hs,hi,c⟩;obtain ⟨I',hI'⟩:=qF hi;have h2:=((pQ.lD hI' h1).1 R' aX N hs hi).2.2 rfl;refine hQ _ _ _ _ _ _ _ (mark D :: ds) (EJ D :: G) h2 ⟨[D],λhh=>(by cases hh),rfl,rfl⟩ ⟨?_,ha.wf.ext (hme us),(hme us).ids ha.ids,c,hs⟩ (hme us) (by rw [ha.wf.fr (hme us)];exact bY.refl _ _);rw [ha.wf.fr (hme us)];exact ⟨by simp [ha.BH.defers],ha.BH.size,ha.BH.slot⟩
    .exact h.elim
  .exact h.elim
 | scope b ih =>
  intro rd Q' Q s L R Φ a w ds G hrd h ha hQ;simp only [vcS] at h;refine a8z (ih (λhh=>by have:=hrd hh;cases this) h ha ?_);intro e s' L' R' aX a' w' ds1 G1 hq htie cN he hu;cases e with
  | goto n=>exact hq.elim
  | normal=>exact hQ _ _ _ _ _ _ _ _ _ hq htie cN he hu
  | exit n=>exact hQ _ _ _ _ _ _ _ _ _ hq htie cN he hu
  | ret=>exact hQ _ _ _ _ _ _ _ _ _ hq htie cN he hu
  | panic n=>exact hQ _ _ _ _ _ _ _ _ _ hq htie cN he hu
  | outgrown=>exact hQ _ _ _ _ _ _ _ _ _ hq htie cN he hu
 | label l=>intro rd Q' Q s L R Φ a w ds G hrd h ha hQ;exact wpIn_label (hQ _ _ _ _ _ _ _ _ _ h (Tie.refl _ _ _) ha (Ext.refl _) (bY.refl _ _))
 | goto l=>intro rd Q' Q s L R Φ a w ds G hrd h;exact h.elim
 | refuse why=>intro rd Q' Q s L R Φ a w ds G hrd h;exact h.elim
theorem MJ{P:Program}{W:World}{s:fO}{L:List Tr}{R:List Own}{Φ:PW}{a:Act}{w:World}(ha:At ds G W s L R Φ a w):∀ {l:List ResultVar} {K:List Value->Prop},a3w P W s L R Φ l K ->
  ∃ vs,(l.mapM λr=>(match r with | .tmp t=>pure (a.tmps.getD t undef) | .cell x t=>(do loadVar t (<-asAddr (a.tmps.getD x undef)):Sem Value):Sem Value)).run P w=.ok vs w/\K vs
 | [],K,h=>⟨[],by simp,h⟩
 | .tmp t :: r,K,h=>by
  unfold a3w at h;split at h
  .exact h.elim
  .rename_i hu;obtain ⟨vs,h1,h2⟩:=MJ ha h;refine ⟨_,?_,h2⟩;have e:(s.fr L).get t=(VB t s.l).val L:=OG L t s.l;rw [List.mapM_cons];simp only [Sem.run_bind,Sem.run_pure,Result.andThen,h1,ha.BH.slot t (by rw [e];exact hu),e]
 | .cell x t :: r,K,h=>by
  unfold a3w at h;have e:(s.fr L).get x=(VB x s.l).val L:=OG L x s.l;have done:∀ {b o:Nat} {K2:Value->Prop} {v:Value},(VB x s.l).val L=.pointer (some ⟨b,o,none⟩)->(loadVar t ⟨b,o,none⟩).run P w=.ok v w->(a3w P W s L R Φ r λvs=>K (v :: vs)) ->
    ∃ vs,(((ResultVar.cell x t) :: r).mapM λr=>(match r with | .tmp t=>pure (a.tmps.getD t undef) | .cell x t=>(do loadVar t (<-asAddr (a.tmps.getD x undef)):Sem Value):Sem Value)).run P w=.ok vs w/\K vs:=by
   intro b o K2 v hv hl hk;obtain ⟨vs,h3,h4⟩:=MJ ha hk;refine ⟨_,?_,h4⟩;rw [List.mapM_cons];have hx':a.tmps.getD x undef=.pointer (some ⟨b,o,none⟩):=by rw [ha.BH.slot x (by rw [e,hv];rfl),e,hv]
   have hra:(asAddr (a.tmps.getD x undef)).run P w=.ok ⟨b,o,none⟩ w:=by rw [hx'];rfl
   simp only [Sem.run_bind,Sem.run_pure,Result.andThen,hra,hl,h3]
  split at h
  .rename_i k off hx;have hw:=ha.wf;obtain ⟨T,hT⟩:=Option.isSome_iff_exists.1 (M6.ev (x:=.tmp x) hw (show s.ev (.tmp x)=.ptr k off from hx));obtain ⟨v,h1,h2⟩:=FT hT (ha.ctx.blk hT) h;exact done (K2:=λ_=>True) (by rw [hx,fA hT]) (h1 w rfl) h2
  .rename_i b o hx;obtain ⟨v,h1,h2⟩:=u6 (h w _ ha.ctx);exact done (K2:=λ_=>True) (by rw [hx];rfl) (h1 trivial w rfl) h2
  .exact h.elim
theorem a5L(L):∀ (l:List Value) (i:Nat),sV L (a5H i l)=xJ i l
 | [],_=>rfl
 | v :: r,i=>by simp only [a5H,xJ,sV,a5L L r (i+1),SV.val]
theorem a8C{P W w H f args R}{Φ:PW}[hst:aB Φ]{J}(h:aN5 P W H f args R Φ J)(c:Ctx W w R Φ):
  Calls P f args w λe w'=>∃ v,e=.returned v/\J v w':=by
 unfold aN5 at h;split at h
 .rename_i fn hf;split at h
  .rename_i code hc;have hwf:M6 [] (⟨max fn.ntmps args.size,a5H 0 args.toList⟩:fO):=by
    have key:∀ (l:List Value) (i:Nat),∀ p∈a5H i l,∃ v,p.2=SV.v v:=by
     intro l
     induction l with
     | nil=>intro i p hp;cases hp
     | cons v r ih =>
      intro i p hp;rcases List.mem_cons.1 hp with rfl|hp
      .exact ⟨v,rfl⟩
      .exact ih _ p hp
    intro p hp k o e;obtain ⟨v,hv⟩:=key _ _ p hp;rw [hv] at e;cases e
   have hfr:(⟨max fn.ntmps args.size,a5H 0 args.toList⟩:fO).fr []=JE fn args:=by simp only [fO.fr,JE,a5L]
   have hat:At [] [] W (⟨max fn.ntmps args.size,a5H 0 args.toList⟩:fO) [] R Φ { tmps:=args++Array.replicate (fn.ntmps - args.size) undef,defers:=[] } w :=
    ⟨by rw [hfr];exact TZ fn args,hwf,by simp,by simpa [jH] using c,hst⟩
   refine (callsIn_wide (n:=0)).1 (callsIn_of_wp_marks (F:=jU none) hf hc trivial (aCw (rd:=none) code (λhh=>(by cases hh)) h hat ?_));intro e s L' R' aX a w' ds' G' hq htie ha _ _;obtain ⟨Z,_,rfl,rfl⟩:=htie;have key:(a3w P W s L' R' aX fn.results.toList λvs=>∀ w F,Ctx W w (R'++F) aX->J (pV vs) w)->bodyPostM (jU none) 0 P fn (λe w'=>∃ v,e=.returned v/\J v w') .ret a w':=by
    intro hq;show LeavesInM Fence.wide 0 P fn a.tmps _ a.defers .returning w';have:=ha.st;rw [ha.BH.defers,List.append_nil];refine OM (Φ:=aX) Z (R'++L'.map Tr.own) w' (by have:=ha.ctx;rw [List.append_nil] at this;rw [bM];exact this) λw2 S2 c2=>?_;rw [bM] at c2;have ha2:At (Z.map mark++[]) S2 W s L' R' aX a w2:=⟨ha.BH,ha.wf,ha.ids,c2,ha.st⟩;obtain ⟨vs,h1,h2⟩:=MJ ha2 hq;refine ⟨pV vs,?_,pV vs,rfl,h2 w2 _ c2⟩
    unfold results;rw [Array.mapM_eq_mapM_toList,map_eq_pure_bind,Sem.run_bind,Sem.run_bind];have e:∀ (r:Result (List Value)),r=.ok vs w2->(((r.andThen λa=>(pure a.toArray:Sem (Array Value)).run P).andThen λvs=>(pure (if h:vs.size=1 then vs[0] else Value.tuple vs):Sem Value).run P))=.ok (pV vs) w2:=by
     intro r hr;subst hr;simp only [Result.andThen,Sem.run_pure,XA]
    exact e _ h1
   cases e with
   | normal=>exact key hq
   | ret=>exact key hq
   | _=>exact hq.elim
  .exact h.elim
 .exact h.elim
end Go.Vc
end

section
namespace Go.Proofs.YtnlkemjhgdbfkaaGreatDoor
set_option maxRecDepth 100000
open Go.Vc
abbrev F.lE:Nat:=6
abbrev F.JH:Nat:=13
abbrev F.dZ:Nat:=17
abbrev F.tC:Nat:=18
abbrev F.mW:Nat:=21
abbrev F.cF:Nat:=23
abbrev F.tD:Nat:=24
abbrev F.dK:Nat:=25
abbrev F.eU:Nat:=27
abbrev F.rD:Nat:=58
abbrev F.rE:Nat:=59
abbrev F.mX:Nat:=60
abbrev F.lU:Nat:=61
abbrev F.tE:Nat:=67
abbrev F.oJ:Nat:=70
abbrev F.a3x:Nat:=81
abbrev F.XP:Nat:=82
abbrev F.rF:Nat:=83
abbrev F.tF:Nat:=84
abbrev F.oK:Nat:=85
abbrev F.iS:Nat:=88
abbrev F.DD:Nat:=89
abbrev F.mY:Nat:=95
abbrev F.gN:Nat:=98
abbrev F.jW:Nat:=99
abbrev F.mZ:Nat:=100
abbrev F.pG:Nat:=101
abbrev F.JJ:Nat:=102
abbrev F.tG:Nat:=105
abbrev F.cH:Nat:=106
abbrev F.jX:Nat:=107
abbrev F.dY:Nat:=109
abbrev F.j5:Nat:=137
abbrev F.jY:Nat:=138
abbrev F.iK:Nat:=141
abbrev F.OP:Nat:=143
abbrev F.rG:Nat:=145
abbrev F.AM:Nat:=153
abbrev F.jV:Nat:=154
abbrev F.pR:Nat:=157
abbrev F.DE:Nat:=158
abbrev F.AN:Nat:=159
abbrev F.nA:Nat:=160
abbrev F.AO:Nat:=174
abbrev F.mN:Nat:=182
abbrev F.zN:Nat:=189
abbrev F.gZ:Nat:=190
abbrev F.gP:Nat:=191
abbrev F.hY:Nat:=192
abbrev F.iA:Nat:=193
abbrev F.JK:Nat:=194
abbrev F.FW:Nat:=195
abbrev F.MK:Nat:=196
abbrev F.nV:Nat:=197
abbrev F.nC:Nat:=198
abbrev F.vD:Nat:=199
abbrev F.mF:Nat:=200
abbrev F.DF:Nat:=201
abbrev F.nD:Nat:=202
abbrev F.nW:Nat:=205
abbrev F.fR:Nat:=206
abbrev F.lF:Nat:=207
abbrev F.DG:Nat:=208
abbrev F.pH:Nat:=209
abbrev F.strconv_Itoa:Nat:=210
abbrev F.gG:Nat:=215
abbrev F.cS:Nat:=216
abbrev F.rH:Nat:=217
abbrev F.oE:Nat:=243
abbrev F.cI:Nat:=247
abbrev F.OQ:Nat:=251
abbrev F.vE:Nat:=252
abbrev F.nE:Nat:=253
abbrev F.DH:Nat:=254
abbrev F.oL:Nat:=255
abbrev F.vF:Nat:=256
abbrev F.rI:Nat:=287
abbrev F.pI:Nat:=288
abbrev F.tH:Nat:=289
abbrev F.dL:Nat:=290
abbrev F.uD:Nat:=291
abbrev F.uE:Nat:=292
abbrev F.fQ:Nat:=293
abbrev F.eH:Nat:=294
abbrev F.cC:Nat:=295
abbrev F.DI:Nat:=296
abbrev F.wH:Nat:=297
abbrev F.mG:Nat:=298
abbrev F.jA:Nat:=299
abbrev F.iX:Nat:=300
abbrev F.iL:Nat:=301
abbrev F.gI:Nat:=302
abbrev F.dU:Nat:=303
abbrev F.fH:Nat:=304
abbrev F.uF:Nat:=305
abbrev F.jZ:Nat:=306
abbrev F.fI:Nat:=307
abbrev F.oM:Nat:=308
abbrev F.oO:Nat:=309
abbrev F.fJ:Nat:=310
abbrev F.lG:Nat:=311
abbrev F.DJ:Nat:=312
abbrev F.strings_IndexByte:Nat:=315
abbrev F.strconv_Atoi:Nat:=316
abbrev F.strings_CutPrefix:Nat:=317
abbrev F.jC:Nat:=336
abbrev F.dW:Nat:=369
abbrev F.xQ:Nat:=370
abbrev F.cQ:Nat:=371
abbrev F.xR:Nat:=372
abbrev F.j3:Nat:=373
abbrev F.jK:Nat:=374
abbrev F.eX:Nat:=375
abbrev F.eY:Nat:=376
abbrev F.kD:Nat:=377
abbrev F.lV:Nat:=378
abbrev F.FX:Nat:=379
abbrev F.jD:Nat:=380
abbrev F.eB:Nat:=414
abbrev F.jL:Nat:=415
abbrev F.vG:Nat:=416
abbrev aG(f:FuncId)(a:Array Value)(w:World)(K:EkV):Prop:=Calls prog f a w K
abbrev bZ(f:FuncId)(a:Array Value)(B:World->List Own->PW->(Value->World->Prop)->Prop):Prop:=∀ {W w:World} {R:List Own} {Φ:PW} [aB Φ] {J:Value->World->Prop},Ctx W w R Φ->B W R Φ J->Calls prog f a w λe w'=>∃ v,e=.returned v/\J v w'
theorem cA{f:FuncId}{a:Array Value}{B:World->List Own->PW->(Value->World->Prop)->Prop}(H:HS)(h:∀ W R Φ J,aN5 prog W H f a R Φ J=B W R Φ J):bZ f a B:=λc g=>a8C (H:=H) (by rw [h];exact g) c
abbrev aY:=World->List Own->PW->(Value->World->Prop)->Prop
abbrev aJ(b o:Nat):Addr:=⟨b,o,none⟩
abbrev aO(b o:Nat):Option Addr:=some ⟨b,o,none⟩
abbrev aA(n:Int):Value:=.int .i64 n
abbrev Zc(W:World)(R:List Own)(Φ:List Nat->World->Prop)(f:FuncId)(a:Array Value)(k:Ending->((List Own->(List Nat->World->Prop)->Prop)->Prop)->Prop):Prop:=∀ (w:World) (F:List Own),Ctx W w (R++F) Φ->Calls prog f a w λe w'=>k e λq=>∃ (R':List Own) (aX:List Nat->World->Prop),aB aX/\Ctx W w' (R'++F) aX/\q R' aX
theorem iO{P:Program}{f:FuncId}{a:Array Value}{w:World}{K:Ending->World->Prop}(h:Calls P f a w λe w'=>∃ v,e=.returned v/\K (.returned v) w'):Calls P f a w K:=h.mono λe w' ⟨v,he,hj⟩=>by rw [he];exact hj
def AP(rB rO:Nat)(data:ByteArray):aY:=λW R Φ J=>
 ∀ (k0:Nat) w1 R2,Ctx W w1 (Own.blk k0 [Value.bool false,aA 0,aA 0,aA 0,Value.slice none 0 0,Value.slice none 0 0] 146 :: R++R2) Φ->∃ n3,w1.cell? (aJ rB (rO+4))=some (aA n3)/\Br (decide (n3≠2)) (∀ w4 R5,Ctx W w4 (Own.blk k0 [Value.bool false,aA 0,aA 0,aA 0,Value.slice none 0 0,Value.slice none 0 0] 146 :: R++R5) Φ->aH w4 k0 0 6/\∀ w6,w6=w4.setCells k0 0 [Value.bool false,aA 0,aA 0,aA 0,Value.slice none 0 0,Value.slice none 0 0]->∃ R7 JL,aB JL/\Ctx W w6 (R7++R5) JL/\Zd W R7 JL λw9=>∃ c11 n12 RM RN DK XQ uG p18 k19 k20,bT w9 k0 0 [Value.bool c11,aA n12,aA RM,aA RN,Value.slice DK XQ uG,Value.slice p18 k19 k20]/\Zr W R7 JL J (Value.tuple #[aA 0,aA 24,Value.agg #[.bool c11,aA n12,aA RM,aA RN,.slice DK XQ uG,.slice p18 k19 k20]])) (Br (decide (2000<(↑data.size:Int))) (∀ w23 NT,Ctx W w23 (Own.blk k0 [Value.bool false,aA 0,aA 0,aA 0,Value.slice none 0 0,Value.slice none 0 0] 146 :: R++NT) Φ->aH w23 k0 0 6/\∀ OR,OR=w23.setCells k0 0 [Value.bool false,aA 0,aA 0,aA 0,Value.slice none 0 0,Value.slice none 0 0]->∃ SA DL,aB DL/\Ctx W OR (SA++NT) DL/\Zd W SA DL λw28=>∃ c30 n31 n32 n33 p34 k35 k36 p37 k38 k39,bT w28 k0 0 [Value.bool c30,aA n31,aA n32,aA n33,Value.slice p34 k35 k36,Value.slice p37 k38 k39]/\Zr W SA DL J (Value.tuple #[aA 0,aA 1,Value.agg #[.bool c30,aA n31,aA n32,aA n33,.slice p34 k35 k36,.slice p37 k38 k39]])) (Zd W (Own.blk k0 [Value.bool false,aA 0,aA 0,aA 0,Value.slice none 0 0,Value.slice none 0 0] 146 :: R) Φ λw42=>∃ p44 k45 k46,w42.cell? (aJ rB (rO+3))=some (.slice p44 k45 k46)/\Br (decide ((↑k45:Int)=4000)) (∀ w47 R48,Ctx W w47 (Own.blk k0 [Value.bool false,aA 0,aA 0,aA 0,Value.slice none 0 0,Value.slice none 0 0] 146 :: R++R48) Φ->aH w47 k0 0 6/\∀ (w49 : World),w49=w47.setCells k0 0 [Value.bool false,aA 0,aA 0,aA 0,Value.slice none 0 0,Value.slice none 0 0]->∃ R50 a0S,aB a0S/\Ctx W w49 (R50++R48) a0S/\Zd W R50 a0S λw52=>∃ c54 n55 n56 n57 p58 k59 k60 p61 k62 k63,bT w52 k0 0 [Value.bool c54,aA n55,aA n56,aA n57,Value.slice p58 k59 k60,Value.slice p61 k62 k63]/\Zr W R50 a0S J (Value.tuple #[aA 0,aA 6,Value.agg #[.bool c54,aA n55,aA n56,aA n57,.slice p58 k59 k60,.slice p61 k62 k63]])) (Zd W (Own.blk k0 [Value.bool false,aA 0,aA 0,aA 0,Value.slice none 0 0,Value.slice none 0 0] 146 :: R) Φ λw66=>∃ n68,w66.cell? (aJ rB (rO+1))=some (aA n68)/\∀ (b:Nat),∃ R69 a0T,aB a0T/\Wk W (Own.blk k0 [Value.bool false,aA 0,aA 0,aA 0,Value.slice none 0 0,Value.slice none 0 0] 146 :: R) Φ (R69) a0T/\∃ (p73:Option Addr) (k74 k75:Nat),(Zd W R69 a0T λw76=>∃ p78 k79 k80,w76.cell? (aJ rB (rO+3))=some (.slice p78 k79 k80)/\Value.slice p78 k79 k80=Value.slice p73 k74 k75)/\∀ (k81:Nat),Wk W (Own.blk k81 [aA n68,.string data] 216 :: Own.blk k0 [Value.bool false,aA 0,aA 0,aA 0,Value.slice none 0 0,Value.slice none 0 0] 146 :: R) Φ (R69) a0T/\∀ w84 R85,Ctx W w84 (Own.blk k81 [aA n68,.string data] 216 :: Own.blk k0 [Value.bool false,aA 0,aA 0,aA 0,Value.slice none 0 0,Value.slice none 0 0] 146 :: R++R85) Φ->∃ p86 k87 k88 w89,Sem.run prog (builtin Builtin.append #[99,99] 99 #[false,false] #[.slice p73 k74 k75,.slice (aO k81 0) 1 1]) w84=.ok (.value (.slice p86 k87 k88)) w89/\∃ R90 aCx,aB aCx/\Ctx W w89 (R90++R85) aCx/\Wk W R90 aCx R69 a0T/\∀ w94 R95,Ctx W w94 (R90++R95) aCx->aH w94 rB (rO+3) 1/\∀ w96,w96=w94.setCell (aJ rB (rO+3)) (Value.slice p86 k87 k88)->∃ R97 OS,aB OS/\Ctx W w96 (R97++R95) OS/\∃ R99 zO,aB zO/\Wk W R97 OS R99 zO/\∃ (aYK:Option Addr) (XR aCy:Nat),(Zd W R99 zO λaFN=>∃ a5M OU a3z,aFN.cell? (aJ rB (rO+3))=some (.slice a5M OU a3z)/\Value.slice a5M OU a3z=Value.slice aYK XR aCy)/\∃ (aJ5:Option Addr) (a0U a8E:Nat),(Zd W R99 zO λaJ6=>∃ aFO XS a3A,aJ6.cell? (aJ rB (rO+3))=some (.slice aFO XS a3A)/\Value.slice aFO XS a3A=Value.slice aJ5 a0U a8E)/\(∀ (XT:Nat),Wk W (Own.blk XT [aA n68,.string data] 216 :: R97) OS (R99) zO/\(Zc W (Own.blk XT [aA n68,.string data] 216 :: R97) OS F.fR #[.pointer (aO rB rO)] λaOc q=>∃ aSv aSw aFP,aOc=.returned (.slice aSv aSw aFP)/\q λa5N aMU=>Wk W a5N aMU R99 zO/\(∀ aOd aFQ,Ctx W aOd (a5N++aFQ) aMU->aH aOd k0 0 6/\∀ aJ7,aJ7=aOd.setCells k0 0 [Value.bool false,aA 0,aA 0,aA (↑a0U:Int),Value.slice (aO XT 0) 1 1,Value.slice aSv aSw aFP]->∃ aJ8 a5O,aB a5O/\Ctx W aJ7 (aJ8++aFQ) a5O/\Wk W aJ8 a5O R99 zO/\Zd W aJ8 a5O λaYL=>∃ aSx n143 n144 n145 aFR aFS a5P aSy a5Q aSz,bT aYL k0 0 [Value.bool aSx,aA n143,aA n144,aA n145,Value.slice aFR aFS a5P,Value.slice aSy a5Q aSz]/\Zr W aJ8 a5O J (Value.tuple #[aA (↑XR:Int),aA 0,Value.agg #[.bool aSx,aA n143,aA n144,aA n145,.slice aFR aFS a5P,.slice aSy a5Q aSz]]))/\True)/\True)/\(∀ aJ9 aSA,Ctx W aJ9 (R97++aSA) OS->aG F.fR #[.pointer (aO rB rO)] aJ9 λaYM aKa=>∃ aSB aKb aSC,aYM=.returned (.slice aSB aKb aSC)/\∃ a8F a5R,aB a5R /\ Ctx W aKa (a8F++aSA) a5R/\Wk W a8F a5R R99 zO/\(∀ (aFT:Nat),Wk W (Own.blk aFT [aA n68,.string data] 216 :: a8F) a5R (R99) zO/\(∀ a0V a0W,Ctx W a0V (Own.blk aFT [aA n68,.string data] 216 :: a8F++a0W) a5R->aH a0V k0 0 6/\∀ a5S,a5S=a0V.setCells k0 0 [Value.bool false,aA 0,aA 0,aA (↑a0U:Int),Value.slice (aO aFT 0) 1 1,Value.slice aSB aKb aSC]->∃ a0X OV,aB OV/\Ctx W a5S (a0X++a0W) OV/\Wk W a0X OV R99 zO/\Zd W a0X OV λaKc=>∃ aSD n178 n179 n180 aSE aCz aSF aFU aFV aFW,bT aKc k0 0 [Value.bool aSD,aA n178,aA n179,aA n180,Value.slice aSE aCz aSF,Value.slice aFU aFV aFW]/\Zr W a0X OV J (Value.tuple #[aA (↑XR:Int),aA 0,Value.agg #[.bool aSD,aA n178,aA n179,aA n180,.slice aSE aCz aSF,.slice aFU aFV aFW]]))/\True)/\True)/\True)))
theorem vH(rB rO data):bZ F.jW #[.pointer (aO rB rO),.string data] (AP rB rO data):=cA { keep:=some [0,1,4,5,6,7,8,15,20],gM:=[7],gC:=[(8,[.held [(0,true),(1,true),(5,true),(2,true),(3,true),(4,true),(6,false),(7,false)],.bW [8] none,.bW [9] (some 10)]),(9,[.tree (.rd 0 (.rd 5 (.rd 10 (.rd 12 (.rd 1 (.rd 6 (.rd 2 (.rd 7 (.rd 3 (.rd 8 (.rd 4 (.rd 9 (.alt 11 (.alt 13 (.rd 14 (.rd 15 (.rd 16 (.alt 17 (.done) (.no))))) (.no)) (.alt 13 (.rd 15 (.rd 16 (.alt 11 (.rd 14 (.alt 17 (.done) (.no))) (.no)))) (.no))))))))))))))) 18])] } λ_ _ _ _=>by kernel_rfl
def FY(rB rO:Nat):aY:=λW R Φ J=>
 Zd W R Φ λw0=>∃ p2 k3 k4,w0.cell? (aJ rB (rO+3))=some (.slice p2 k3 k4)/\Zc W R Φ F.cI #[.slice p2 k3 k4] λe7 q=>∃ p9 CY RO,e7=.returned (.slice p9 CY RO)/\q λFZ BN=>Zr W FZ BN J (.slice p9 CY RO)
theorem AQ(rB rO):bZ F.jV #[.pointer (aO rB rO)] (FY rB rO):=cA { keep:=some [0,2] } λ_ _ _ _=>by kernel_rfl
def ER(rB rO:Nat):aY:=λW R Φ J=>
 ∀ (b:Nat) w0 R1,Ctx W w0 (R++R1) Φ->∃ n2 n3,bT w0 rB (rO+1) [aA n2,aA n3]/\Zr W R Φ J (Value.agg #[aA n2,aA n3])
theorem yL(rB rO):bZ F.nA #[.pointer (aO rB rO)] (ER rB rO):=cA { keep:=some [0,2],gM:=[2] } λ_ _ _ _=>by kernel_rfl
def a3B(id:Int)(h0:Int)(h1:Int)(aFX:Option Addr)(aCA aFY:Nat):aY:=λW R Φ J=>
 ∀ (b:Nat) w0 R1,Ctx W w0 (R++R1) Φ->aG F.dL #[aA id,aA 0,aA 2] w0 λe2 w3=>∃ c4,e2=.returned (.bool c4)/\∃ R5 fW,aB fW/\Ctx W w3 (R5++R1) fW/\Br (!c4) (Zr W R5 fW J (.pointer none)) (Zc W R5 fW F.dL #[aA h0,aA 0,aA 1099511627776] λe11 q=>∃ c13,e11=.returned (.bool c13)/\q λR14 ML=>Br (!c13) (Zr W R14 ML J (.pointer none)) (Zc W R14 ML F.dL #[aA h1,aA (-1),aA 2] λe20 q=>∃ c22,e20=.returned (.bool c22)/\q λR23 VD=>Br (!c22) (Zr W R23 VD J (.pointer none)) (Br (decide (4000<(↑aCA:Int))) (Zr W R23 VD J (.pointer none)) (Zc W R23 VD F.uD #[.slice aFX aCA aFY,aA 1,aA h0] λe31 q=>∃ c33,e31=.returned (.bool c33)/\q λLF xS=>Br (!c33) (Zr W LF xS J (.pointer none)) (∃ UA tI,aB tI/\Wk W LF xS UA tI/\Zc W LF xS F.cI #[.slice aFX aCA aFY] λe44 q=>∃ p46 k47 k48,e44=.returned (.slice p46 k47 k48)/\q λXU yM=>Wk W XU yM UA tI/\∀ (k53:Nat),Wk W (Own.blk k53 [aA id,aA h0,aA h1,.slice p46 k47 k48,aA 0,aA 0,.bool false,.bool false,.bool false, aA 0,aA 0,aA 0,aA 0,aA 0,aA 0] 278 :: XU) yM (UA) tI/\Zr W (Own.blk k53 [aA id,aA h0,aA h1,.slice p46 k47 k48,aA 0,aA 0,.bool false,.bool false,.bool false,aA 0,aA 0,aA 0,aA 0,aA 0,aA 0] 278 :: XU) yM J (.pointer (aO k53 0)))))))
theorem SC(id h0 h1 aFX aCA aFY):bZ F.FW #[.int .i64 id,.agg #[.int .i64 h0,.int .i64 h1],.slice aFX aCA aFY] (a3B id h0 h1 aFX aCA aFY):=cA { keep:=some [0,2,4,6,33],gM:=[4],gC:=[(3,[.held [(0,true),(1,true),(2,true),(3,false),(4,true),(5,false)],.bW [6] none])],split:=[1] } λ_ _ _ _=>by kernel_rfl
def ES(rB rO:Nat):aY:=λW R Φ J=>
 ∀ (b:Nat) w0 R1,Ctx W w0 (R++R1) Φ->∃ n2,w0.cell? (aJ rB (rO+4))=some (aA n2)/\Br (decide (n2=2)) (Zc W R Φ F.fR #[.pointer (aO rB rO)] λe5 q=>∃ p7 k8 k9,e5=.returned (.slice p7 k8 k9)/\q λR10 aCB=>Zr W R10 aCB J (Value.agg #[.bool false,aA 0,aA 0,aA 0,.slice none 0 0,.slice p7 k8 k9])) (Zd W R Φ λXV=>∃ n16,XV.cell? (aJ rB (rO+1))=some (aA n16)/\Br (decide (n16=1099511627776)) (Zr W R Φ J (Value.agg #[.bool false,aA 0,aA 0,aA 0,.slice none 0 0,.slice none 0 0])) (Zd W R Φ λXW=>∃ n21,XW.cell? (aJ rB rO)=some (aA n21)/\Zd W R Φ λw22=>∃ n24,w22.cell? (aJ rB (rO+1))=some (aA n24)/\bE (n24+1)/\∀ OR SA,Ctx W OR (R++SA) Φ->aH OR rB (rO+1) 2/\∀ w27,w27=OR.setCells rB (rO+1) [aA (n24+1),aA n21]->∃ R28 XX,aB XX/\Ctx W w27 (R28++SA) XX/\∀ w30 R31,Ctx W w30 (R28++R31) XX->aH w30 rB (rO+4) 1/\∀ w32,w32=w30.setCell (aJ rB (rO+4)) (aA 1)->∃ G0 lW,aB lW/\Ctx W w32 (G0++R31) lW/\∀ XY G9,Ctx W XY (G0++G9) lW->aH XY rB (rO+6) 3/\∀ w37,w37=XY.setCells rB (rO+6) [Value.bool false,Value.bool false,Value.bool false]->∃ UA tI,aB tI/\Ctx W w37 (UA++G9) tI/\∃ R40 vI,aB vI/\Wk W UA tI R40 vI/\Zd W UA tI λw44=>∃ n46,w44.cell? (aJ rB rO)=some (aA n46)/\(0<=n46/\n46<3)/\∀ w47 R48,Ctx W w47 (UA++R48) tI->aH w47 rB (rO+6+n46.toNat) 1/\∀ w49,w49=w47.setCell (aJ rB (rO+6+n46.toNat)) (Value.bool true)->∃ R50 a0S,aB a0S/\Ctx W w49 (R50++R48) a0S/\Wk W R50 a0S R40 vI/\Zd W R50 a0S λw54=>∃ n56 n57,bT w54 rB (rO+1) [aA n56,aA n57]/\∀ (b:Nat) w58 R59,Ctx W w58 (R50++R59) a0S->aG F.fQ #[.pointer (aO rB rO)] w58 λe60 w61=>∃ p62 k63 k64,e60=.returned (.slice p62 k63 k64)/\∃ R65 OW,aB OW/\Ctx W w61 (R65++R59) OW/\AJ λ(I67:Int->Bool->Int->Int->Int->Option Addr->Nat->Nat->Option Addr->Nat->Nat->List Own->PW->Nat->Prop)=>(Zs W R65 OW (I67 0 true n56 n57 0 none 0 0 none 0 0))/\∀ n73 c74 n75 n76 n77 p78 k79 k80 p81 k82 k83 R84 I85 k86,aB I85->I67 n73 c74 n75 n76 n77 p78 k79 k80 p81 k82 k83 R84 I85 k86->Br (decide (n73<(↑k63:Int))) (Zi n73 k63 p62 λk87 k88=>Zd W R84 I85 λw89=>∃ n91,w89.cell? (aJ k87 (k88+n73.toNat))=some (aA n91)/\Zc W R84 I85 F.eH #[.pointer (aO rB rO),aA 0,aA n91] λe94 q=>∃ n96 n97 n98 n99 n100 n101 n102 aSN aSO aCy aSP,e94=.returned (Value.agg #[aA n96,aA n97,aA n98,aA n99,aA n100,aA n101,aA n102,.bool aSN,.slice aSO aCy aSP])/\q λaYV aSQ=>∀ (OU:Nat) a5T a8K,Ctx W a5T (Own.blk OU [aA 0,aA 0,aA 0,aA 0,aA 0,aA 0,aA 0,.bool false,.slice none 0 0] 271 :: aYV++a8K) aSQ->aH a5T OU 0 9/\∀ aCC,aCC=a5T.setCells OU 0 [aA n96,aA n97,aA n98,aA n99,aA n100,aA n101,aA n102,.bool aSN,.slice aSO aCy aSP]->∃ aCD aBi,aB aBi/\Ctx W aCC (aCD++a8K) aBi/\∃ ET pJ,aB pJ/\Wk W aCD aBi ET pJ/\∃ (aYW:Option Addr) (aSR aKg:Nat),(Zd W ET pJ λa0Y=>∃ SE a5U a5V,a0Y.cell? (aJ rB (rO+3))=some (.slice SE a5U a5V)/\Value.slice SE a5U a5V=Value.slice aYW aSR aKg)/\∃ (aYX:Option Addr) (aFP aYY:Nat),(Zd W ET pJ λa8L=>∃ aSS aST aF3,a8L.cell? (aJ rB (rO+3))=some (.slice aSS aST aF3) /\ Value.slice aSS aST aF3=Value.slice aYX aFP aYY)/\Zc W aCD aBi F.cC #[.pointer (aO rB rO),aA (↑aFP:Int)] λaOf q=>∃ n139,aOf=.returned (aA n139)/\q λXZ OX=>Wk W XZ OX ET pJ/\∀ a0Z a5W,Ctx W a0Z (XZ++a5W) OX->aH a0Z OU 4 1/\∀ aF4,aF4=a0Z.setCell (aJ OU 4) (aA (↑aSR:Int))->∃ a8M OY,aB OY/\Ctx W aF4 (a8M++a5W) OY/\Wk W a8M OY ET pJ/\∀ aF5 aSU,Ctx W aF5 (a8M++aSU) OY->aH aF5 OU 5 1/\∀ aSV,aSV=aF5.setCell (aJ OU 5) (aA n139)->∃ a00 GC,aB GC/\Ctx W aSV (a00++aSU) GC/\Zd W a00 GC λaOg=>∃ n158 n159 n160 n161 n162 n163 n164 aSW aSX aSY aSZ,bT aOg OU 0 [aA n158,aA n159,aA n160,aA n161,aA n162,aA n163,aA n164,.bool aSW,.slice aSX aSY aSZ]/\∀ (aS0:Nat) a5S a0X,Ctx W a5S (Own.blk aS0 [aA n158,aA n159,aA n160,aA n161,aA n162,aA n163,aA n164,.bool aSW,.slice aSX aSY aSZ] 271 :: a00++a0X) GC->∃ aS1 aS2 aS3 aKc,Sem.run prog (builtin Builtin.append #[144,144] 144 #[false,false] #[.slice p81 k82 k83,.slice (aO aS0 0) 1 1]) a5S=.ok (.value (.slice aS1 aS2 aS3)) aKc/\∃ aS4 aF6,aB aF6/\Ctx W aKc (aS4++a0X) aF6/\bE (n73+1)/\Zb W aS4 aF6 k86 (I67 (n73+1) c74 n75 n76 n77 p78 k79 k80 aS1 aS2 aS3)) (Zr W R84 I85 J (Value.agg #[.bool c74,aA n75,aA n76,aA n77,.slice p78 k79 k80,.slice p81 k82 k83]))))
theorem yN(rB rO):bZ F.nC #[.pointer (aO rB rO)] (ES rB rO):=cA { keep:=some [0,2,3,5,6,11,20,57,58,59,60],gM:=[2,3],gC:=[(5,[.bW [0,1,7,2,8,3,9,4,10,5,6,11] none,.bW [12] none,.bW [13] (some 14)]),(7,[.late [0,1,2,3,4,7] [0,1,2,5,3,6,4,7] [(8,[])]]),(13,[.held [(0,true),(5,true),(6,true),(1,true),(7,true),(2,true),(8,true),(3,true),(9,true),(4,true),(10,true),(12,true),(11,false),(13,false)],.bW [14] (some 15)])],loops:=[(10,[(59,.one (.int .i64))],[(3,.agg [.bool,.int .i64,.int .i64,.int .i64,.slice,.slice])])] } λ_ _ _ _=>by kernel_rfl
def EU(rB rO:Nat)(m0:Int)(m1:Int)(m2:Int)(m3:Int)(m4:Int)(m5:Int)(m6:Int)(m7:Bool)(yJ:Option Addr)(qV yO:Nat):aY:=λW R Φ J=>
 ∀ (b b:Nat) w0 R1,Ctx W w0 (R++R1) Φ->aG F.mG #[.pointer (aO rB rO),Value.agg #[aA m0,aA m1,aA m2,aA m3,aA m4,aA m5,aA m6,.bool m7,.slice yJ qV yO]] w0 λe2 w3=>∃ c4,e2=.returned (.bool c4)/\∃ R5 fW,aB fW/\Ctx W w3 (R5++R1) fW/\Br (!c4) (Zr W R5 fW J (Value.agg #[.bool false,aA 0,aA 0,aA 0,.slice none 0 0,.slice none 0 0])) (Zd W R5 fW λw9=>∃ FI n12,bT w9 rB (rO+1) [aA FI,aA n12]/\∀ (b:Nat) w13 R14,Ctx W w13 (R5++R14) fW->∃ n15,w13.cell? (aJ rB (rO+1))=some (aA n15)/\Br (decide (n15<m3)) (∀ K7 tJ,Ctx W K7 (R5++tJ) fW->aH K7 rB (rO+1) 2/\∀ (JM:World),JM = K7.setCells rB (rO+1) [aA m3,aA (-1)]->∃ yP oP,aB oP/\Ctx W JM (yP++tJ) oP/\∀ RP VE,Ctx W RP (yP++VE) oP->aH RP rB (rO+4) 1/\∀ w23,w23=RP.setCell (aJ rB (rO+4)) (aA 0)->∃ NT tK,aB tK/\Ctx W w23 (NT++VE) tK/\∀ (b:Nat),Br (decide (m0=0)) (Zc W NT tK F.jA #[.pointer (aO rB rO),Value.agg #[aA m0,aA m1,aA m2,aA m3,aA m4,aA m5,aA m6,.bool m7,.slice yJ qV yO]] λe28 q=>∃ c30 n31 n32 n33 p34 k35 k36 p37 k38 k39,e28=.returned (Value.agg #[.bool c30,aA n31,aA n32,aA n33,.slice p34 k35 k36,.slice p37 k38 k39])/\q λR40 vI=>∀ w42 R43,Ctx W w42 (R40++R43) vI -> ∃ n44 n45,bT w42 rB (rO+1) [aA n44,aA n45]/\sH prog 143=true/\Br (!(decide (n44=FI)&&(decide (n45=n12)&&true))) (∃ R46 GD,aB GD/\Wk W R40 vI R46 GD/\∃ (n50 n51:Int),(Zd W R46 GD λw52=>∃ n54 n55,bT w52 rB (rO+1) [aA n54,aA n55]/\Value.agg #[aA n54,aA n55]=Value.agg #[aA n50,aA n51])/\Wk W R40 vI R46 GD/\Wk W R40 vI R46 GD/\Zr W R40 vI J (Value.agg #[.bool true,aA n50,aA n51,aA n33,.slice p34 k35 k36,.slice p37 k38 k39])) (Zr W R40 vI J (Value.agg #[.bool c30,aA n31,aA n32,aA n33,.slice p34 k35 k36,.slice p37 k38 k39]))) (Br (decide (m0=1)) (Zc W NT tK F.iX #[.pointer (aO rB rO),Value.agg #[aA m0,aA m1,aA m2,aA m3,aA m4,aA m5,aA m6,.bool m7,.slice yJ qV yO]] λe66 q=>∃ c68 n69 n70 n71 p72 k73 k74 p75 k76 k77,e66=.returned (Value.agg #[.bool c68,aA n69,aA n70,aA n71,.slice p72 k73 k74,.slice p75 k76 k77])/\q λR78 Y0=>Zd W R78 Y0 λw80=>∃ n82 n83,bT w80 rB (rO+1) [aA n82,aA n83]/\sH prog 143=true/\Br (!(decide (n82=FI)&&(decide (n83=n12)&&true))) (∃ R84 aF8,aB aF8/\Wk W R78 Y0 R84 aF8/\∃ (n88 n89:Int),(Zd W R84 aF8 λw90=>∃ n92 n93,bT w90 rB (rO+1) [aA n92,aA n93]/\Value.agg #[aA n92,aA n93]=Value.agg #[aA n88,aA n89])/\Wk W R78 Y0 R84 aF8/\Wk W R78 Y0 R84 aF8/\Zr W R78 Y0 J (Value.agg #[.bool true,aA n88,aA n89,aA n71,.slice p72 k73 k74,.slice p75 k76 k77])) (Zr W R78 Y0 J (Value.agg #[.bool c68,aA n69,aA n70,aA n71,.slice p72 k73 k74,.slice p75 k76 k77]))) (Br (decide (m0=2)) (Zc W NT tK F.iL #[.pointer (aO rB rO),Value.agg #[aA m0,aA m1,aA m2,aA m3,aA m4,aA m5,aA m6,.bool m7,.slice yJ qV yO]] λaOj q=>∃ aF9 n107 n108 n109 aCG a3E a0U a3F MM SF,aOj=.returned (Value.agg #[.bool aF9,aA n107,aA n108,aA n109,.slice aCG a3E a0U,.slice a3F MM SF])/\q λa5X UB=>Zd W a5X UB λa8N=>∃ n120 n121,bT a8N rB (rO+1) [aA n120,aA n121]/\sH prog 143=true/\Br (!(decide (n120=FI)&&(decide (n121=n12)&&true))) (∃ a8O a5Y,aB a5Y/\Wk W a5X UB a8O a5Y/\∃ (n126 n127:Int),(Zd W a8O a5Y λa5Z=>∃ n130 n131,bT a5Z rB (rO+1) [aA n130,aA n131]/\Value.agg #[aA n130,aA n131]=Value.agg #[aA n126,aA n127])/\Wk W a5X UB a8O a5Y/\Wk W a5X UB a8O a5Y/\Zr W a5X UB J (Value.agg #[.bool true,aA n126,aA n127,aA n109,.slice aCG a3E a0U,.slice a3F MM SF])) (Zr W a5X UB J (Value.agg #[.bool aF9,aA n107,aA n108,aA n109,.slice aCG a3E a0U,.slice a3F MM SF]))) (Br (decide (m0=3)) (Zc W NT tK F.gI #[.pointer (aO rB rO),Value.agg #[aA m0,aA m1,aA m2,aA m3,aA m4,aA m5,aA m6,.bool m7,.slice yJ qV yO]] λaY3 q=>∃ aS7 n145 n146 n147 aOk aGa a5Q aOl aOm aOn,aY3=.returned (Value.agg #[.bool aS7,aA n145,aA n146,aA n147,.slice aOk aGa a5Q,.slice aOl aOm aOn])/\q λa00 GC=>Zd W a00 GC λaOg=>∃ n158 n159,bT aOg rB (rO+1) [aA n158,aA n159]/\sH prog 143=true/\Br (!(decide (n158=FI)&&(decide (n159=n12)&&true))) (∃ a8P UC,aB UC/\Wk W a00 GC a8P UC/\∃ (n164 n165:Int),(∀ aS8 aY4,Ctx W aS8 (a8P++aY4) UC -> ∃ n168 n169,bT aS8 rB (rO+1) [aA n168,aA n169]/\Value.agg #[aA n168,aA n169]=Value.agg #[aA n164,aA n165])/\Wk W a00 GC a8P UC/\Wk W a00 GC a8P UC/\Zr W a00 GC J (Value.agg #[.bool true,aA n164,aA n165,aA n147,.slice aOk aGa a5Q,.slice aOl aOm aOn])) (Zr W a00 GC J (Value.agg #[.bool aS7,aA n145,aA n146,aA n147,.slice aOk aGa a5Q,.slice aOl aOm aOn]))) (Zd W NT tK λaY5=>∃ n180 n181,bT aY5 rB (rO+1) [aA n180,aA n181]/\sH prog 143=true/\Br (!(decide (n180=FI)&&(decide (n181=n12)&&true))) (∃ aKi a50,aB a50/\Wk W NT tK aKi a50/\∃ (n186 n187:Int),(Zd W aKi a50 λaY6=>∃ n190 n191,bT aY6 rB (rO+1) [aA n190,aA n191]/\Value.agg #[aA n190,aA n191]=Value.agg #[aA n186,aA n187])/\Wk W NT tK aKi a50/\Wk W NT tK aKi a50/\Zr W NT tK J (Value.agg #[.bool true,aA n186,aA n187,aA 0,.slice none 0 0,.slice none 0 0])) (Zr W NT tK J (Value.agg #[.bool false,aA 0,aA 0,aA 0,.slice none 0 0,.slice none 0 0]))))))) (∀ (b:Nat),Br (decide (m0=0)) (∀ aS9 aTa,Ctx W aS9 (R5++aTa) fW->aG F.jA #[.pointer (aO rB rO),Value.agg #[aA m0,aA m1,aA m2,aA m3,aA m4,aA m5,aA m6,.bool m7,.slice yJ qV yO]] aS9 λaY7 aY8=>∃ aTb n205 n206 n207 aOo aOp aOq aOr aCH aOs, aY7=.returned (Value.agg #[.bool aTb,aA n205,aA n206,aA n207,.slice aOo aOp aOq,.slice aOr aCH aOs])/\∃ Y1 BO,aB BO/\Ctx W aY8 (Y1++aTa) BO/\Zd W Y1 BO λaY9=>∃ n218 n219,bT aY9 rB (rO+1) [aA n218,aA n219]/\sH prog 143=true/\Br (!(decide (n218=FI)&&(decide (n219=n12)&&true))) (∃ aKj a52,aB a52/\Wk W Y1 BO aKj a52/\∃ (n224 n225:Int),(Zd W aKj a52 λaZa=>∃ n228 n229,bT aZa rB (rO+1) [aA n228,aA n229]/\Value.agg #[aA n228,aA n229]=Value.agg #[aA n224,aA n225])/\Wk W Y1 BO aKj a52/\Wk W Y1 BO aKj a52/\Zr W Y1 BO J (Value.agg #[.bool true,aA n224,aA n225,aA n207,.slice aOo aOp aOq,.slice aOr aCH aOs])) (Zr W Y1 BO J (Value.agg #[.bool aTb,aA n205,aA n206,aA n207,.slice aOo aOp aOq,.slice aOr aCH aOs]))) (Br (decide (m0=1)) (Zc W R5 fW F.iX #[.pointer (aO rB rO),Value.agg #[aA m0,aA m1,aA m2,aA m3,aA m4,aA m5,aA m6,.bool m7,.slice yJ qV yO]] λaZb q=>∃ aTc n243 n244 n245 aOt aOu aOv aOw aOx aOy,aZb=.returned (Value.agg #[.bool aTc,aA n243,aA n244,aA n245,.slice aOt aOu aOv,.slice aOw aOx aOy])/\q λaCI a1Y=>Zd W aCI a1Y λaZc=>∃ n256 n257,bT aZc rB (rO+1) [aA n256,aA n257]/\sH prog 143 = true/\Br (!(decide (n256=FI)&&(decide (n257=n12)&&true))) (∃ aKk a54,aB a54/\Wk W aCI a1Y aKk a54/\∃ (n262 n263:Int),(Zd W aKk a54 λaKl=>∃ n266 n267,bT aKl rB (rO+1) [aA n266,aA n267]/\Value.agg #[aA n266,aA n267]=Value.agg #[aA n262,aA n263])/\Wk W aCI a1Y aKk a54/\Wk W aCI a1Y aKk a54/\Zr W aCI a1Y J (Value.agg #[.bool true,aA n262,aA n263,aA n245,.slice aOt aOu aOv,.slice aOw aOx aOy])) (Zr W aCI a1Y J (Value.agg #[.bool aTc,aA n243,aA n244,aA n245,.slice aOt aOu aOv,.slice aOw aOx aOy]))) (Br (decide (m0=2)) (Zc W R5 fW F.iL #[.pointer (aO rB rO),Value.agg #[aA m0,aA m1,aA m2,aA m3,aA m4,aA m5,aA m6,.bool m7,.slice yJ qV yO]] λaZd q=>∃ aTd n281 n282 n283 aOz aOA aOB aOC aOD aOE,aZd=.returned (Value.agg #[.bool aTd,aA n281,aA n282,aA n283,.slice aOz aOA aOB,.slice aOC aOD aOE])/\q λaCJ a1Z=>Zd W aCJ a1Z λaZe=>∃ n294 n295,bT aZe rB (rO+1) [aA n294,aA n295]/\sH prog 143=true/\Br (!(decide (n294=FI)&&(decide (n295=n12)&&true))) (∃ aKm a55,aB a55/\Wk W aCJ a1Z aKm a55/\∃ (n300 n301:Int),(Zd W aKm a55 λaZf=>∃ n304 n305,bT aZf rB (rO+1) [aA n304,aA n305]/\Value.agg #[aA n304,aA n305]=Value.agg #[aA n300, aA n301])/\Wk W aCJ a1Z aKm a55/\Wk W aCJ a1Z aKm a55/\Zr W aCJ a1Z J (Value.agg #[.bool true,aA n300,aA n301,aA n283,.slice aOz aOA aOB,.slice aOC aOD aOE])) (Zr W aCJ a1Z J (Value.agg #[.bool aTd,aA n281,aA n282,aA n283,.slice aOz aOA aOB,.slice aOC aOD aOE]))) (Br (decide (m0=3)) (Zc W R5 fW F.gI #[.pointer (aO rB rO),Value.agg #[aA m0,aA m1,aA m2,aA m3,aA m4,aA m5,aA m6,.bool m7,.slice yJ qV yO]] λaZg q=>∃ aTe n319 n320 n321 aOF aOG aOH aOI aOJ aOK,aZg=.returned (Value.agg #[.bool aTe,aA n319,aA n320,aA n321,.slice aOF aOG aOH, .slice aOI aOJ aOK])/\q λaCK a10=>Zd W aCK a10 λaZh=>∃ n332 n333,bT aZh rB (rO+1) [aA n332,aA n333]/\sH prog 143=true/\Br (!(decide (n332=FI)&&(decide (n333=n12)&&true))) (∃ aKn a56,aB a56/\Wk W aCK a10 aKn a56/\∃ (n338 n339:Int),(Zd W aKn a56 λaZi=>∃ n342 n343,bT aZi rB (rO+1) [aA n342,aA n343]/\Value.agg #[aA n342,aA n343]=Value.agg #[aA n338,aA n339])/\Wk W aCK a10 aKn a56/\Wk W aCK a10 aKn a56/\Zr W aCK a10 J (Value.agg #[.bool true,aA n338,aA n339,aA n321,.slice aOF aOG aOH,.slice aOI aOJ aOK])) (Zr W aCK a10 J (Value.agg #[.bool aTe,aA n319, aA n320,aA n321,.slice aOF aOG aOH,.slice aOI aOJ aOK]))) (Zd W R5 fW λaZj=>∃ aTf aTg,bT aZj rB (rO+1) [aA aTf,aA aTg]/\sH prog 143=true/\Br (!(decide (aTf=FI)&&(decide (aTg=n12)&&true))) (∃ aKo a57,aB a57/\Wk W R5 fW aKo a57/\∃ (aTh aTi:Int),(Zd W aKo a57 λaZk=>∃ aTj aTk,bT aZk rB (rO+1) [aA aTj,aA aTk]/\Value.agg #[aA aTj,aA aTk]=Value.agg #[aA aTh,aA aTi])/\Wk W R5 fW aKo a57/\Wk W R5 fW aKo a57/\Zr W R5 fW J (Value.agg #[.bool true,aA aTh,aA aTi,aA 0,.slice none 0 0,.slice none 0 0])) (Zr W R5 fW J (Value.agg #[.bool false,aA 0,aA 0,aA 0,.slice none 0 0,.slice none 0 0]))))))))
theorem yQ(rB rO m0 m1 m2 m3 m4 m5 m6 m7 yJ qV yO):bZ F.nD #[.pointer (aO rB rO),.agg #[.int .i64 m0,.int .i64 m1,.int .i64 m2,.int .i64 m3,.int .i64 m4,.int .i64 m5,.int .i64 m6,.bool m7,.slice yJ qV yO]] (EU rB rO m0 m1 m2 m3 m4 m5 m6 m7 yJ qV yO):=cA { keep:=some [0,3,4,5,6,10,23,34,35,40,45,50,60],gM:=[3,4,5,6],gC:=[(17,[.late [4] [0,4,1,2,3] [(5,[6]),(7,[])]])] } λ_ _ _ _=>by kernel_rfl
def GF(rB rO:Nat):aY:=λW R Φ J=>
 Zc W R Φ F.fQ #[.pointer (aO rB rO)] λe2 q=>∃ p4 k5 k6,e2=.returned (.slice p4 k5 k6)/\q λR7 JL=>AJ λ(I9:Option Addr->Nat->Nat->Int->List Own->PW->Nat->Prop)=>(Zs W R7 JL (I9 none 0 0 0))/\∀ DK XQ uG n18 yP I20 k21,aB I20->I9 DK XQ uG n18 yP I20 k21->Br (decide (n18<(↑k5:Int))) (Zi n18 k5 p4 λk22 k23=>Zd W yP I20 λJN=>∃ n26,JN.cell? (aJ k22 (k23+n18.toNat))=some (aA n26)/\Zc W yP I20 F.fH #[.pointer (aO rB rO),aA n26] λe29 q=>∃ n31 n32 n33 n34 n35 n36 n37 c38 p39 k40 k41,e29=.returned (Value.agg #[aA n31,aA n32,aA n33,aA n34,aA n35,aA n36,aA n37,.bool c38,.slice p39 k40 k41])/\q λR42 aCL=>∀ (k44:Nat) w45 R46,Ctx W w45 (Own.blk k44 [aA n31,aA n32,aA n33,aA n34,aA n35,aA n36,aA n37,.bool c38,.slice p39 k40 k41] 271 :: R42++R46) aCL->∃ p47 k48 k49 w50,Sem.run prog (builtin Builtin.append #[144,144] 144 #[false,false] #[.slice DK XQ uG,.slice (aO k44 0) 1 1]) w45=.ok (.value (.slice p47 k48 k49)) w50/\∃ W0 GG,aB GG/\Ctx W w50 (W0++R46) GG/\bE (n18+1)/\Zb W W0 GG k21 (I9 p47 k48 k49 (n18+1))) (Zr W yP I20 J (.slice DK XQ uG))
theorem AR(rB rO):bZ F.fR #[.pointer (aO rB rO)] (GF rB rO):=cA { keep:=some [0,2,3,5,7,8,9,10],loops:=[(3,[(3,.one (.slice)),(9,.one (.int .i64))],[])] } λ_ _ _ _=>by kernel_rfl
def uN(sP:Option Addr)(sN sC:Nat):aY:=λW R Φ J=>
 Br sP.isNone (Zr W R Φ J (.slice none 0 0)) (∀ (k2:Nat) w3 R4,Ctx W w3 (Own.blk k2 [] 216 :: R++R4) Φ->∃ p5 k6 k7 w8,Sem.run prog (builtin Builtin.append #[99,99] 99 #[false,false] #[.slice (aO k2 0) 0 0,.slice sP sN sC]) w3=.ok (.value (.slice p5 k6 k7)) w8/\∃ R9 pK,aB pK/\Ctx W w8 (R9++R4) pK/\Zr W R9 pK J (.slice p5 k6 k7))
theorem qQ(sP sN sC):bZ F.cI #[.slice sP sN sC] (uN sP sN sC):=cA { keep:=some [0,2,4] } λ_ _ _ _=>by kernel_rfl
def Y2(lP:Option Addr)(lN lC:Nat)(least:Int)(most:Int):aY:=λW R Φ J=>
 AJ λ(I0:Int->Int->List Own->PW->Nat->Prop)=>(Zs W R Φ (I0 least 0))/\∀ n6 n7 R8 I9 CY,aB I9->I0 n6 n7 R8 I9 CY->Br (decide (n7<(↑lN:Int))) (Zi n7 lN lP λRO k12=>Zd W R8 I9 λw13=>∃ n15 s16,bT w13 RO (k12+n7.toNat*2) [aA n15,.string s16]/\∀ (b:Nat) w17 VF,Ctx W w17 (R8++VF) I9->Br (decide (n15<n6)||decide (most<n15)||decide (2000<(↑s16.size:Int))) (Zr W R8 I9 J (.bool false)) (bE (n7+1)/\Zb W R8 I9 CY (I0 n15 (n7+1)))) (Zr W R8 I9 J (.bool true))
theorem MN(lP lN lC least most):bZ F.uD #[.slice lP lN lC,.int .i64 least,.int .i64 most] (Y2 lP lN lC least most):=cA { keep:=some [0,1,2,6,8,9,10,11,12,30],gM:=[8],loops:=[(2,[(1,.one (.int .i64)),(11,.one (.int .i64))],[])] } λ_ _ _ _=>by kernel_rfl
def BP(rB rO:Nat):aY:=λW R Φ J=>
 ∀ (k0 k1:Nat) w2 R3,Ctx W w2 (Own.blk k1 [aA 0,aA 1,aA 2] 3 :: Own.blk k0 [Value.pointer (aO rB rO)] 130 :: R++R3) Φ->aG F.j3 #[.slice (aO k1 0) 3 3,Value.func (Fn.func 374) #[] #[.pointer (aO k0 0)]] w2 λe4 w5=>∃ p6 k7 k8,e4=.returned (.slice p6 k7 k8)/\∃ R9 pK,aB pK/\Ctx W w5 (R9++R3) pK/\Zr W R9 pK J (.slice p6 k7 k8)
theorem wI(rB rO):bZ F.fQ #[.pointer (aO rB rO)] (BP rB rO):=cA { keep:=some [1,2] } λ_ _ _ _=>by kernel_rfl
def AU(rB rO:Nat)(kind:Int)(to:Int):aY:=λW R Φ J=>
 ∀ (b:Nat) w0 R1,Ctx W w0 (R++R1) Φ->∃ n2,w0.cell? (aJ rB rO)=some (aA n2)/\Zd W R Φ λw3=>∃ n5,w3.cell? (aJ rB (rO+1))=some (aA n5)/\Zr W R Φ J (Value.agg #[aA kind,aA n2,aA to,aA n5,aA 0,aA 0,aA 0,.bool false,.slice none 0 0])
theorem vJ(rB rO kind to):bZ F.eH #[.pointer (aO rB rO),.int .i64 kind,.int .i64 to] (AU rB rO kind to):=cA { keep:=some [0,1,2,6],gM:=[6],gC:=[(1,[.bW [0,1,5,6,2,7,3,8,4,9,10,11] (some 12)])] } λ_ _ _ _=>by kernel_rfl
def DM(rB rO:Nat)(m0:Int)(m1:Int)(m2:Int)(m3:Int)(m4:Int)(m5:Int)(m6:Int)(m7:Bool)(yJ:Option Addr)(qV yO:Nat):aY:=λW R Φ J=>
 ∀ (b:Nat) w0 R1,Ctx W w0 (R++R1) Φ->∃ (c2:Bool),(∀ (w3:World),(∃ (k4:Nat),w3=w0.drewN k4)->aG F.dL #[aA m0,aA 0,aA 3] w3 λe5 w6=>e5=.returned (.bool c2)/\∃ (k7:Nat),w6=w0.drewN k7)/\∃ (n8:Int),((!!c2)=true->w0.cell? (aJ rB rO)=some (aA n8))/\∃ (n9:Int),((!(!c2||decide (m2≠n8)))=true->w0.cell? (aJ rB rO)=some (aA n9))/\∃ (c10:Bool),((!(!c2||decide (m2≠n8)||decide (m1=n9)))=true->∀ (UD:World),(∃ (k12:Nat),UD=w0.drewN k12)->aG F.dL #[aA m1,aA 0,aA 2] UD λe13 XV=>e13=.returned (.bool c10)/\∃ (JO:Nat),XV=w0.drewN JO)/\Br (!c2||decide (m2≠n8)||decide (m1=n9) || !c10) (Zr W R Φ J (.bool false)) (∀ JM yP, Ctx W JM (R++yP) Φ->∃ (c20:Bool),(∀ RP,RP=JM->aG F.dL #[aA m3,aA 1,aA 1099511627776] RP λe22 w23=>e22=.returned (.bool c20)/\w23=JM)/\∃ (c24:Bool),((!!c20)=true->∀ OR,OR=JM->aG F.dL #[aA m4,aA 0,aA 4000] OR λe26 w27=>e26=.returned (.bool c24)/\w27=JM)/\∃ (c28:Bool),((!(!c20 || !c24))=true->∀ w29,w29=JM->aG F.dL #[aA m5,aA 0,aA m3] w29 λe30 w31=>e30=.returned (.bool c28)/\w31=JM)/\Br (!c20 || !c24 || !c28||decide (m4=0)&&decide (m5≠0)) (Zr W R Φ J (.bool false)) (Zc W R Φ F.dL #[aA m6,aA 0,aA 4000] λe36 q=>∃ c38,e36=.returned (.bool c38)/\q λR39 aKt=>Br c38 (Br (decide ((↑qV:Int)<=8)) (bE (m4+(↑qV:Int))/\Br (decide (m4+(↑qV:Int)<=4000)) (Zc W R39 aKt F.uD #[.slice yJ qV yO,aA (max 1 m5),aA m3] λe43 q=>∃ c45,e43=.returned (.bool c45)/\q λR46 GD=>Zr W R46 GD J (.bool c45)) (Zr W R39 aKt J (.bool false))) (Zr W R39 aKt J (.bool false))) (Zr W R39 aKt J (.bool false))))
theorem xU(rB rO m0 m1 m2 m3 m4 m5 m6 m7 yJ qV yO):bZ F.mG #[.pointer (aO rB rO),.agg #[.int .i64 m0,.int .i64 m1,.int .i64 m2,.int .i64 m3,.int .i64 m4,.int .i64 m5,.int .i64 m6,.bool m7,.slice yJ qV yO]] (DM rB rO m0 m1 m2 m3 m4 m5 m6 m7 yJ qV yO):=cA { keep:=some [0,3,4,5,34],gM:=[3],split:=[5] } λ_ _ _ _=>by kernel_rfl
def EV(rB rO:Nat)(m0:Int)(m1:Int)(m2:Int)(m3:Int)(m4:Int)(m5:Int)(m6:Int)(m7:Bool)(yJ:Option Addr)(qV yO:Nat):aY:=λW R Φ J=>
 ∀ (b b:Nat) w0 R1,Ctx W w0 (R++R1) Φ->aG F.eH #[.pointer (aO rB rO),aA 1,aA m1] w0 λe2 w3=>∃ n4 n5 n6 n7 n8 n9 n10 c11 p12 k13 x8,e2=.returned (Value.agg #[aA n4,aA n5,aA n6,aA n7,aA n8,aA n9,aA n10,.bool c11,.slice p12 k13 x8])/\∃ NU xV,aB xV/\Ctx W w3 (NU++R1) xV/\∀ (uG:Nat) JM yP,Ctx W JM (Own.blk uG [aA 0,aA 0,aA 0,aA 0,aA 0,aA 0,aA 0,.bool false,.slice none 0 0] 271 :: NU++yP) xV->aH JM uG 0 9/\∀ w20,w20=JM.setCells uG 0 [aA n4,aA n5,aA n6,aA n7,aA n8,aA n9,aA n10,.bool c11,.slice p12 k13 x8]->∃ SG tL,aB tL/\Ctx W w20 (SG ++ yP) tL/\Zd W SG tL λw23=>∃ p25 k26 k27,w23.cell? (aJ rB (rO+3))=some (.slice p25 k26 k27)/\Zc W SG tL F.cC #[.pointer (aO rB rO),aA (↑k26:Int)] λe30 q=>∃ n32,e30=.returned (aA n32)/\q λG0 lW=>Zd W G0 lW λXY=>∃ (p37:Option Addr) (k38 k39:Nat),((!decide (n32<m5)&&decide (m5=n32))=true->XY.cell? (aJ rB (rO+3))=some (.slice p37 k38 k39))/\Zd W G0 lW λw40=>∃ n42,w40.cell? (aJ rB (rO+1))=some (aA n42)/\∃ (n43:Int),(decide (m3=n42)=true->w40.cell? (aJ rB (rO+2))=some (aA n43))/\∃ (n44:Int),((decide (m3=n42) && !decide (n43 = -1))=true->w40.cell? (aJ rB (rO + 2))=some (aA n44))/\Br (decide (m3=n42)&&(decide (n43 = -1)||decide (n44=m1))&&(decide (n32<m5)||decide (m5=n32)&&decide ((↑k38:Int)<=m4))) (∃ R45 MO,aB MO/\Wk W G0 lW R45 MO/\∀ w49 R50,Ctx W w49 (G0++R50) lW->aH w49 uG 7 1/\∀ w51,w51=w49.setCell (aJ uG 7) (Value.bool true)->∃ R52 VG,aB VG/\Ctx W w51 (R52++R50) VG/\Wk W R52 VG R45 MO/\∀ w56 R57,Ctx W w56 (R52++R57) VG->aH w56 rB (rO+2) 1/\∀ w58,w58=w56.setCell (aJ rB (rO+2)) (aA m1)->∃ R59 a8W,aB a8W/\Ctx W w58 (R59++R57) a8W/\Zd W R59 a8W λw61=>∃ n63 n64 n65 n66 n67 n68 n69 c70 p71 k72 k73,bT w61 uG 0 [aA n63,aA n64,aA n65,aA n66,aA n67,aA n68,aA n69,.bool c70,.slice p71 k72 k73]/\Zc W R59 a8W F.eY #[Value.agg #[aA n63,aA n64,aA n65,aA n66,aA n67,aA n68,aA n69,.bool c70,.slice p71 k72 k73]] λe76 q=>∃ c78 n79 n80 n81 p82 k83 k84 p85 k86 k87,e76=.returned (Value.agg #[.bool c78,aA n79,aA n80,aA n81,.slice p82 k83 k84,.slice p85 k86 k87])/\q λR88 aGe=>Zr W R88 aGe J (Value.agg #[.bool c78,aA n79,aA n80,aA n81,.slice p82 k83 k84,.slice p85 k86 k87])) (Zd W G0 lW λw92=>∃ n94 n95 n96 n97 n98 n99 n100 aTq aGf a6a XR,bT w92 uG 0 [aA n94,aA n95,aA n96,aA n97,aA n98,aA n99,aA n100,.bool aTq,.slice aGf a6a XR]/\Zc W G0 lW F.eY #[Value.agg #[aA n94,aA n95,aA n96,aA n97,aA n98,aA n99,aA n100,.bool aTq,.slice aGf a6a XR]] λaON q=>∃ c109 n110 n111 n112 a3F MM SF aFO XS a3A,aON=.returned (Value.agg #[.bool c109,aA n110,aA n111,aA n112,.slice a3F MM SF,.slice aFO XS a3A])/\q λa8X a6b=>Zr W a8X a6b J (Value.agg #[.bool c109,aA n110,aA n111,aA n112,.slice a3F MM SF,.slice aFO XS a3A]))
theorem yR(rB rO m0 m1 m2 m3 m4 m5 m6 m7 yJ qV yO):bZ F.jA #[.pointer (aO rB rO),.agg #[.int .i64 m0,.int .i64 m1,.int .i64 m2,.int .i64 m3,.int .i64 m4,.int .i64 m5,.int .i64 m6,.bool m7,.slice yJ qV yO]] (EV rB rO m0 m1 m2 m3 m4 m5 m6 m7 yJ qV yO):=cA { keep:=some [0,3,4,5,6,7,67],gM:=[3,4],gC:=[(5,[.held [(0,true),(1,true),(3,true),(2,true),(4,false)],.bW [5] none,.bW [6] none,.bW [7] (some 8)])] } λ_ _ _ _=>by kernel_rfl
def DN(rB rO:Nat)(m0:Int)(m1:Int)(m2:Int)(m3:Int)(m4:Int)(m5:Int)(m6:Int)(m7:Bool)(yJ:Option Addr)(qV yO:Nat):aY:=λW R Φ J=>
 ∀ (b b:Nat) w0 R1,Ctx W w0 (R++R1) Φ->∃ n2,w0.cell? (aJ rB (rO+4))=some (aA n2)/\∃ (n3:Int),((!decide (n2≠1))=true->w0.cell? (aJ rB (rO+1))=some (aA n3))/\Br (decide (n2≠1)||decide (m3≠n3) || !m7) (Zr W R Φ J (Value.agg #[.bool false,aA 0,aA 0,aA 0,.slice none 0 0,.slice none 0 0])) (∃ R6 RQ,aB RQ/\Wk W R Φ R6 RQ/\(0<=m1/\m1<3)/\∀ w10 RR,Ctx W w10 (R++RR) Φ->aH w10 rB (rO+6+m1.toNat) 1/\∀ JP,JP=w10.setCell (aJ rB (rO+6+m1.toNat)) (Value.bool true)->∃ R13 xW,aB xW/\Ctx W JP (R13++RR) xW/\Wk W R13 xW R6 RQ/\Zd W R13 xW λw17=>∃ c19 c20 c21,bT w17 rB (rO+6) [Value.bool c19,Value.bool c20,Value.bool c21]/\AJ λ(I22:Int->Int->List Own->PW -> Nat->Prop)=>(Zs W R13 xW (I22 0 0))/\∀ n28 n29 Y3 I31 k32,aB I31->I22 n28 n29 Y3 I31 k32->Br (decide (n29<3)) (∃ (c33:Bool),(0<=n29/\n29<3/\WR (0+n29.toNat) [Value.bool c19,Value.bool c20,Value.bool c21]=some (.bool c33))/\Br c33 (bE (n28+1)/\bE (n29+1)/\Zb W Y3 I31 k32 (I22 (n28+1) (n29+1))) (bE (n29+1)/\Zb W Y3 I31 k32 (I22 n28 (n29+1)))) (Br (decide (n28<2)) (Zr W Y3 I31 J (Value.agg #[.bool false,aA 0,aA 0,aA 0,.slice none 0 0,.slice none 0 0])) (∀ w46 R47,Ctx W w46 (Y3++R47) I31->aH w46 rB (rO+4) 1/\∀ w48,w48=w46.setCell (aJ rB (rO+4)) (aA 2)->∃ XU yM, aB yM/\Ctx W w48 (XU++R47) yM/\AJ λ(I51:Int->List Own->PW->Nat->Prop)=>(Zs W XU yM (I51 0))/\∀ n57 R58 I59 k60,aB I59->I51 n57 R58 I59 k60->Br (decide (n57<3)) (∃ R61 a6c,aB a6c/\Wk W R58 I59 R61 a6c/\Zd W R58 I59 λw65=>∃ p67 k68 k69,w65.cell? (aJ rB (rO+3))=some (.slice p67 k68 k69)/\bE ((↑k68:Int)+1)/\(0<=n57/\n57<3)/\∀ w70 R71,Ctx W w70 (R58++R71) I59->aH w70 rB (rO+9+n57.toNat) 1/\∀ w72,w72=w70.setCell (aJ rB (rO+9+n57.toNat)) (aA ((↑k68:Int)+1))->∃ R73 aKz,aB aKz/\Ctx W w72 (R73++R71) aKz/\Wk W R73 aKz R61 a6c/\(0<=n57/\n57<3)/\∀ w77 R78,Ctx W w77 (R73++R78) aKz->aH w77 rB (rO+12+n57.toNat) 1/\∀ w79,w79=w77.setCell (aJ rB (rO+12 + n57.toNat)) (aA 0)->∃ R80 a3G,aB a3G/\Ctx W w79 (R80++R78) a3G/\Wk W R80 a3G R61 a6c/\bE (n57+1)/\Zb W R80 a3G k60 (I51 (n57+1))) (Zc W R58 I59 F.fR #[.pointer (aO rB rO)] λe91 q=>∃ p93 k94 k95,e91=.returned (.slice p93 k94 k95)/\q λR96 a8Y=>Zr W R96 a8Y J (Value.agg #[.bool false,aA 0,aA 0,aA 0,.slice none 0 0,.slice p93 k94 k95])))))
theorem xX(rB rO m0 m1 m2 m3 m4 m5 m6 m7 yJ qV yO):bZ F.iX #[.pointer (aO rB rO),.agg #[.int .i64 m0,.int .i64 m1,.int .i64 m2,.int .i64 m3,.int .i64 m4,.int .i64 m5,.int .i64 m6,.bool m7,.slice yJ qV yO]] (DN rB rO m0 m1 m2 m3 m4 m5 m6 m7 yJ qV yO):=cA { keep:=some [0,3,4,5,7,8,28,39,40,41,43,48,53,54],gM:=[3,4],gC:=[(3,[.late [0,1,2,5] [0,1,2,3,4,5] [(6,[])]]),(17,[.late [0,1,4,5,6,7,8,9,12] [0,1,2,3,4,5,10,14,6,11,15,7,8,9,12] [(13,[16]),(17,[])]])],loops:=[(15,[(53,.one (.int .i64))],[]),(6,[(5,.one (.int .i64)),(40,.one (.int .i64))],[])] } λ_ _ _ _=>by kernel_rfl
def BQ(rB rO:Nat)(m0:Int)(m1:Int)(m2:Int)(m3:Int)(m4:Int)(m5:Int)(m6:Int)(m7:Bool)(yJ:Option Addr)(qV yO:Nat):aY:=λW R Φ J=>
 ∀ (b b:Nat) w0 R1,Ctx W w0 (R++R1) Φ->aG F.eH #[.pointer (aO rB rO),aA 3,aA m1] w0 λe2 w3=>∃ n4 n5 n6 n7 n8 n9 n10 c11 p12 k13 x8,e2=.returned (Value.agg #[aA n4,aA n5,aA n6,aA n7,aA n8,aA n9,aA n10,.bool c11,.slice p12 k13 x8])/\∃ NU xV,aB xV/\Ctx W w3 (NU++R1) xV/\∀ (uG:Nat) JM yP,Ctx W JM (Own.blk uG [aA 0,aA 0,aA 0,aA 0,aA 0,aA 0,aA 0,.bool false,.slice none 0 0] 271 :: NU++yP) xV->aH JM uG 0 9/\∀ w20,w20=JM.setCells uG 0 [aA n4,aA n5,aA n6,aA n7,aA n8,aA n9,aA n10,.bool c11,.slice p12 k13 x8]->∃ SG tL,aB tL/\Ctx W w20 (SG ++ yP) tL/\Zd W SG tL λw23=>∃ n25,w23.cell? (aJ rB (rO+1))=some (aA n25)/\Br (decide (m3<n25)) (Zd W SG tL λw26=>∃ n28 n29 n30 n31 n32 n33 n34 c35 p36 k37 k38,bT w26 uG 0 [aA n28,aA n29,aA n30,aA n31,aA n32,aA n33,aA n34,.bool c35,.slice p36 k37 k38]/\Zc W SG tL F.eY #[Value.agg #[aA n28,aA n29,aA n30,aA n31,aA n32,aA n33,aA n34,.bool c35,.slice p36 k37 k38]] λe41 q=>∃ c43 n44 n45 n46 p47 k48 k49 p50 k51 k52,e41=.returned (Value.agg #[.bool c43,aA n44,aA n45,aA n46,.slice p47 k48 k49,.slice p50 k51 k52])/\q λR53 wJ=>Zr W R53 wJ J (Value.agg #[.bool c43,aA n44,aA n45,aA n46,.slice p47 k48 k49,.slice p50 k51 k52])) (Zd W SG tL λw57=>∃ n59,w57.cell? (aJ rB (rO+4))=some (aA n59)/\Br (decide (n59=2)) (Zr W SG tL J (Value.agg #[.bool false,aA 0,aA 0,aA 0,.slice none 0 0,.slice none 0 0])) (∀ w62 R63,Ctx W w62 (SG++R63) tL->aH w62 rB (rO+4) 1/\∀ w64,w64=w62.setCell (aJ rB (rO+4)) (aA 0)->∃ R65 OW,aB OW/\Ctx W w64 (R65++R63) OW/\Zd W R65 OW λw67=>∃ p69 k70 k71,w67.cell? (aJ rB (rO+3))=some (.slice p69 k70 k71)/\∃ (n72:Int),((!decide ((↑k70:Int)<m4))=true->∀ (w73:World),(∃ (k74:Nat),w73=w67.drewN k74)->aG F.cC #[.pointer (aO rB rO),aA m4] w73 λe75 w76=>e75=.returned (aA n72)/\∃ (k77:Nat),w76=w67.drewN k77)/\Br (decide ((↑k70:Int)<m4)||decide (n72≠m5)) (bE (m4 - 1)/\Zd W R65 OW λw78=>∃ p80 k81 k82,w78.cell? (aJ rB (rO+3))=some (.slice p80 k81 k82)/\∀ w83 R84,Ctx W w83 (R65++R84) OW->aH w83 uG 4 1/\∀ w85,w85=w83.setCell (aJ uG 4) (aA (min (↑k81:Int) (m4 - 1)))->∃ R86 aKD,aB aKD/\Ctx W w85 (R86++R84) aKD/\Zd W R86 aKD λw88=>∃ n90 n91 n92 n93 n94 n95 n96 c97 p98 k99 aGk,bT w88 uG 0 [aA n90,aA n91,aA n92,aA n93,aA n94,aA n95,aA n96,.bool c97,.slice p98 k99 aGk]/\Zc W R86 aKD F.eY #[Value.agg #[aA n90,aA n91,aA n92,aA n93,aA n94,aA n95,aA n96,.bool c97,.slice p98 k99 aGk]] λa8Z q=>∃ c105 n106 n107 n108 aTB a3z a3E aGl a8E MM,a8Z=.returned (Value.agg #[.bool c105,aA n106,aA n107,aA n108,.slice aTB a3z a3E,.slice aGl a8E MM])/\q λET pJ=>Zr W ET pJ J (Value.agg #[.bool c105,aA n106,aA n107,aA n108,.slice aTB a3z a3E,.slice aGl a8E MM])) (∀ (b:Nat),AJ λ(aOP:Int->Bool->Int->Int->Int->Option Addr->Nat->Nat->Option Addr->Nat->Nat->Bool->Int->Int->Int->Option Addr->Nat->Nat->Option Addr->Nat->Nat->List Own->PW->Nat->Prop)=>(Zs W R65 OW (aOP 0 false 0 0 0 none 0 0 none 0 0 false 0 0 0 none 0 0 none 0 0))/\∀ n125 aTC n127 n128 n129 aTD aGm aTE aTF aF3 aTG aKE n137 n138 n139 aOQ aOR aCS aTH aTI aTJ OZ a03 a5P,aB a03->aOP n125 aTC n127 n128 n129 aTD aGm aTE aTF aF3 aTG aKE n137 n138 n139 aOQ aOR aCS aTH aTI aTJ OZ a03 a5P->Br (decide (n125<(↑qV:Int))) (Zi n125 qV yJ λaGa a5Q=>Zd W OZ a03 λaF5=>∃ n153 aZx,bT aF5 aGa (a5Q+n125.toNat*2) [aA n153,.string aZx]/\∀ (b:Nat),bE (m4+n125)/\bE (m4+n125+1)/\Zd W OZ a03 λaOS=>∃ aZy aOT aKb,aOS.cell? (aJ rB (rO+3))=some (.slice aZy aOT aKb)/\∃ (n160:Int),(decide (m4+n125+1<=(↑aOT:Int))=true->∀ (aTK:World),(∃ (aZz:Nat),aTK=aOS.drewN aZz)->aG F.cC #[.pointer (aO rB rO),aA (m4+n125+1)] aTK λaOU aZA=>aOU=.returned (aA n160)/\∃ (aFT:Nat),aZA=aOS.drewN aFT)/\Br (decide (m4+n125+1<=(↑aOT:Int))&&decide (n160=n153)) (bE (n125+1)/\Zb W OZ a03 a5P (aOP (n125+1) aTC n127 n128 n129 aTD aGm aTE aTF aF3 aTG aKE n137 n138 n139 aOQ aOR aCS aTH aTI aTJ)) (Zd W OZ a03 λaKF=>∃ n173,aKF.cell? (aJ rB (rO+5))=some (aA n173)/\Br (decide (m4+n125+1<=n173)) (Zr W OZ a03 J (Value.agg #[.bool false,aA 0,aA 0,aA 0,.slice none 0 0,.slice none 0 0])) ((0<=n125/\n125<=(↑qV:Int)/\qV<=yO)/\Zc W OZ a03 F.cI #[.slice (cT yJ 2 n125.toNat yO) (qV - n125.toNat) (yO - n125.toNat)] λaZB q=>∃ aOV aOW aCz,aZB=.returned (.slice aOV aOW aCz)/\q λaTL aM5=>∃ aKG a6d,aB a6d/\Wk W aTL aM5 aKG a6d/\bE (m4+n125+1 - 1)/\∃ (aTM:Option Addr) (aZC aKH:Nat),(Zd W aKG a6d λaZD=>∃ aTN aTO aTP,aZD.cell? (aJ rB (rO+3))=some (.slice aTN aTO aTP)/\Value.slice aTN aTO aTP=Value.slice aTM aZC aKH)/\(0<=m4+n125+1 - 1/\m4+n125+1 - 1<=(↑aKH:Int))/\Zc W aTL aM5 F.cI #[.slice (cT aTM 2 0 aKH) (m4+n125+1 - 1).toNat aKH] λaZE q=>∃ aTQ aTR aGn,aZE=.returned (.slice aTQ aTR aGn)/\q λaTS aM6=>Wk W aTS aM6 aKG a6d/\∀ aTT aTU,Ctx W aTT (aTS++aTU) aM6->∃ aTV aTW aCH aTX,Sem.run prog (builtin Builtin.append #[99,99] 99 #[false,false] #[.slice aTQ aTR aGn,.slice aOV aOW aCz]) aTT=.ok (.value (.slice aTV aTW aCH)) aTX/\∃ Y1 BO,aB BO/\Ctx W aTX (Y1++aTU) BO/\Wk W Y1 BO aKG a6d/\∀ aOX aTY,Ctx W aOX (Y1++aTY) BO->aH aOX rB (rO+3) 1/\∀ aTZ,aTZ=aOX.setCell (aJ rB (rO+3)) (Value.slice aTV aTW aCH)->∃ aGo a14,aB a14/\Ctx W aTZ (aGo++aTY) a14/\∃ aT0 aGp,aB aGp/\Wk W aGo a14 aT0 aGp/\bE (m4+(↑qV:Int))/\∀ aOY aKI,Ctx W aOY (aGo++aKI) a14->aH aOY uG 7 1/\∀ aT1,aT1=aOY.setCell (aJ uG 7) (Value.bool true)->∃ aOZ aBl,aB aBl/\Ctx W aT1 (aOZ++aKI) aBl/\Wk W aOZ aBl aT0 aGp/\∀ aO0 aT2,Ctx W aO0 (aOZ++aT2) aBl->aH aO0 uG 4 1/\∀ aT3,aT3=aO0.setCell (aJ uG 4) (aA (m4+(↑qV:Int)))->∃ aKJ a6e,aB a6e/\Ctx W aT3 (aKJ++aT2) a6e/\Zd W aKJ a6e λaZF=>∃ n241,aZF.cell? (aJ uG 4)=some (aA n241)/\Zd W aKJ a6e λaZG=>∃ n244,aZG.cell? (aJ rB (rO+5))=some (aA n244)/\∀ aO1 aT4,Ctx W aO1 (aKJ++aT4) a6e->aH aO1 rB (rO+5) 1/\∀ aT5,aT5=aO1.setCell (aJ rB (rO+5)) (aA (max n244 (min m6 n241)))->∃ aO2 aBm,aB aBm/\Ctx W aT5 (aO2++aT4) aBm/\Zd W aO2 aBm λaZH=>∃ n252 n253 n254 n255 n256 n257 n258 aT6 aT7 aT8 aT9,bT aZH uG 0 [aA n252,aA n253,aA n254,aA n255,aA n256,aA n257,aA n258,.bool aT6,.slice aT7 aT8 aT9]/\∀ (aUa:Nat) aKl aZI,Ctx W aKl (Own.blk aUa [aA n252,aA n253,aA n254,aA n255,aA n256,aA n257,aA n258,.bool aT6,.slice aT7 aT8 aT9] 271 :: aO2++aZI) aBm->J (Value.agg #[.bool aKE,aA n137,aA n138,aA (m4+n125+1),.slice aOV aOW aCz,.slice (aO aUa 0) 1 1]) aKl))) (∃ aUb aGq,aB aGq/\Wk W OZ a03 aUb aGq/\bE (m4+(↑qV:Int))/\∀ aO3 aUc,Ctx W aO3 (OZ++aUc) a03->aH aO3 uG 7 1/\∀ aUd,aUd=aO3.setCell (aJ uG 7) (Value.bool true)->∃ aO4 aBn,aB aBn/\Ctx W aUd (aO4++aUc) aBn/\Wk W aO4 aBn aUb aGq/\∀ aO5 aUe,Ctx W aO5 (aO4++aUe) aBn -> aH aO5 uG 4 1/\∀ aUf,aUf=aO5.setCell (aJ uG 4) (aA (m4+(↑qV:Int)))->∃ aKK a6f,aB a6f/\Ctx W aUf (aKK++aUe) a6f/\Zd W aKK a6f λaZJ=>∃ n284,aZJ.cell? (aJ uG 4)=some (aA n284)/\Zd W aKK a6f λaZK=>∃ n287,aZK.cell? (aJ rB (rO+5))=some (aA n287)/\∀ aO6 aUg,Ctx W aO6 (aKK++aUg) a6f->aH aO6 rB (rO+5) 1/\∀ aUh,aUh=aO6.setCell (aJ rB (rO+5)) (aA (max n287 (min m6 n284)))->∃ aO7 aBo,aB aBo/\Ctx W aUh (aO7++aUg) aBo/\Zd W aO7 aBo λaZL=>∃ n295 n296 n297 n298 n299 n300 n301 aUi aUj aUk aUl,bT aZL uG 0 [aA n295,aA n296,aA n297,aA n298,aA n299,aA n300,aA n301,.bool aUi,.slice aUj aUk aUl]/\∀ (aUm:Nat) aUn aZM,Ctx W aUn (Own.blk aUm [aA n295,aA n296,aA n297,aA n298,aA n299,aA n300,aA n301,.bool aUi,.slice aUj aUk aUl] 271 :: aO7++aZM) aBo->J (Value.agg #[.bool aKE,aA n137,aA n138,aA n139,.slice aOQ aOR aCS,.slice (aO aUm 0) 1 1]) aUn))))
theorem wK(rB rO m0 m1 m2 m3 m4 m5 m6 m7 yJ qV yO):bZ F.iL #[.pointer (aO rB rO),.agg #[.int .i64 m0,.int .i64 m1,.int .i64 m2,.int .i64 m3,.int .i64 m4,.int .i64 m5,.int .i64 m6,.bool m7,.slice yJ qV yO]] (BQ rB rO m0 m1 m2 m3 m4 m5 m6 m7 yJ qV yO):=cA { keep:=some [0,3,4,5,6,7,8,9,21,28,49,63,64,65,66,89,95],gM:=[3,4,6,8],gC:=[(8,[.bW [0,5,1,6,2,7,3,4,8,9] (some 10)]),(19,[.held [(0,true),(1,true),(5,true),(9,true),(2,true),(6,true),(10,true),(3,true),(4,true),(7,true),(8,false),(11,false)],.bW [12] none,.bW [13] (some 14)]),(21,[.held [(0,true),(2,true),(6,true),(1,true),(3,true),(4,true),(5,true),(7,false)],.bW [8] (some 9)]),(22,[.bW [0,1,5,7,2,6,8,3,9,4,10] none,.bW [11] none,.bW [12] (some 13)])],loops:=[(12,[(65,.one (.int .i64))],[(4,.agg [.bool,.int .i64,.int .i64,.int .i64,.slice,.slice]),(6,.agg [.bool,.int .i64,.int .i64,.int .i64,.slice,.slice])])] } λ_ _ _ _=>by kernel_rfl
def yS(rB rO:Nat)(m0:Int)(m1:Int)(m2:Int)(m3:Int)(m4:Int)(m5:Int)(m6:Int)(m7:Bool)(yJ:Option Addr)(qV yO:Nat):aY:=λW R Φ J=>
 ∀ (b b:Nat) w0 R1,Ctx W w0 (R++R1) Φ->∃ n2,w0.cell? (aJ rB (rO+4))=some (aA n2)/\∃ (n3:Int),((!decide (n2≠2))=true->w0.cell? (aJ rB (rO+1))=some (aA n3))/\∃ (p4:Option Addr) (k5 k6:Nat),((!(decide (n2≠2)||decide (m3≠n3))&&m7)=true->w0.cell? (aJ rB (rO+3))=some (.slice p4 k5 k6))/\Br (decide (n2≠2)||decide (m3≠n3)||m7&&decide ((↑k5:Int)<m4)) (Zr W R Φ J (Value.agg #[.bool false,aA 0,aA 0,aA 0,.slice none 0 0,.slice none 0 0])) (Zd W R Φ λw9=>(0<=m1/\m1<3)/\(0<=m1/\m1<3)/\Br (!m7) (Zd W R Φ λUD=>∃ RM,UD.cell? (aJ rB (rO+12+m1.toNat))=some (aA RM)/\Zd W R Φ λXV=>∃ n16,XV.cell? (aJ rB (rO+9+m1.toNat))=some (aA n16)/\bE (m4+1)/\bE (RM+1)/\bE (n16 - 1)/\∀ w17 VF,Ctx W w17 (R++VF) Φ->aH w17 rB (rO+9+m1.toNat) 1/\∀ XW,XW=w17.setCell (aJ rB (rO+9+m1.toNat)) (aA (max (RM+1) (min (n16 - 1) (m4+1))))->∃ UE GH,aB GH/\Ctx W XW (UE++VF) GH/\Zc W UE GH F.fH #[.pointer (aO rB rO),aA m1] λe24 q=>∃ n26 n27 n28 n29 n30 n31 n32 c33 p34 k35 k36,e24=.returned (Value.agg #[aA n26,aA n27,aA n28,aA n29,aA n30,aA n31,aA n32,.bool c33,.slice p34 k35 k36])/\q λR37 Y4=>Zc W R37 Y4 F.eY #[Value.agg #[aA n26,aA n27,aA n28,aA n29,aA n30,aA n31,aA n32,.bool c33,.slice p34 k35 k36]] λe41 q=>∃ c43 n44 n45 n46 p47 k48 k49 p50 k51 k52,e41=.returned (Value.agg #[.bool c43,aA n44,aA n45,aA n46,.slice p47 k48 k49,.slice p50 k51 k52])/\q λR53 wJ=>Zr W R53 wJ J (Value.agg #[.bool c43,aA n44,aA n45,aA n46,.slice p47 k48 k49,.slice p50 k51 k52])) (Zd W R Φ λw57=>∃ n59,w57.cell? (aJ rB (rO+12+m1.toNat))=some (aA n59)/\∀ w60 R61,Ctx W w60 (R++R61) Φ->aH w60 rB (rO+12+m1.toNat) 1/\∀ w62,w62=w60.setCell (aJ rB (rO+12+m1.toNat)) (aA (max n59 m4))->∃ R63 GK,aB GK/\Ctx W w62 (R63++R61) GK/\Zd W R63 GK λw65=>∃ n67,w65.cell? (aJ rB (rO+12+m1.toNat))=some (aA n67)/\bE (n67+1)/\∀ w68 R69,Ctx W w68 (R63++R69) GK->aH w68 rB (rO+9+m1.toNat) 1/\∀ w70,w70=w68.setCell (aJ rB (rO+9+m1.toNat)) (aA (n67+1))->∃ R71 a81,aB a81/\Ctx W w70 (R71++R69) a81/\Zc W R71 a81 F.kD #[.pointer (aO rB rO)] λe75 q=>e75=.returned (Value.tuple #[])/\q λR77 aGr=>Zd W R77 aGr λw79=>∃ n81,w79.cell? (aJ rB (rO+9+m1.toNat))=some (aA n81)/\∃ p82 k83 k84,w79.cell? (aJ rB (rO+3))=some (.slice p82 k83 k84)/\Br (decide (n81<=(↑k83:Int))) (Zc W R77 aGr F.fH #[.pointer (aO rB rO),aA m1] λe87 q=>∃ n89 n90 n91 n92 n93 n94 n95 c96 p97 k98 k99,e87=.returned (Value.agg #[aA n89,aA n90,aA n91,aA n92,aA n93,aA n94,aA n95,.bool c96,.slice p97 k98 k99])/\q λa04 GL=>Zc W a04 GL F.eY #[Value.agg #[aA n89,aA n90,aA n91,aA n92,aA n93,aA n94,aA n95,.bool c96,.slice p97 k98 k99]] λaOj q=>∃ aF9 n107 n108 n109 aCG a3E a0U a3F MM SF,aOj=.returned (Value.agg #[.bool aF9,aA n107,aA n108,aA n109,.slice aCG a3E a0U,.slice a3F MM SF])/\q λa5X UB=>Zr W a5X UB J (Value.agg #[.bool aF9,aA n107,aA n108,aA n109,.slice aCG a3E a0U,.slice a3F MM SF])) (Zr W R77 aGr J (Value.agg #[.bool false,aA 0,aA 0,aA 0,.slice none 0 0,.slice none 0 0]))))
theorem uO(rB rO m0 m1 m2 m3 m4 m5 m6 m7 yJ qV yO):bZ F.gI #[.pointer (aO rB rO),.agg #[.int .i64 m0,.int .i64 m1,.int .i64 m2,.int .i64 m3,.int .i64 m4,.int .i64 m5,.int .i64 m6,.bool m7,.slice yJ qV yO]] (yS rB rO m0 m1 m2 m3 m4 m5 m6 m7 yJ qV yO):=cA { keep:=some [0,3,4,5,6,35,51,96],gM:=[3,4],gC:=[(5,[.bW [0,1,5,9,2,6,10,3,7,11,4,8,12,13,14] (some 15)]),(7,[.bW [0,1,4,2,5,3,6,7] (some 8)])] } λ_ _ _ _=>by kernel_rfl
def AV(rB rO:Nat)(to:Int):aY:=λW R Φ J=>
 ∀ (b:Nat) w0 R1,Ctx W w0 (R++R1) Φ->aG F.eH #[.pointer (aO rB rO),aA 2,aA to] w0 λe2 w3=>∃ n4 n5 n6 n7 n8 n9 n10 c11 p12 k13 x8,e2=.returned (Value.agg #[aA n4,aA n5,aA n6,aA n7,aA n8,aA n9,aA n10,.bool c11,.slice p12 k13 x8])/\∃ NU xV,aB xV/\Ctx W w3 (NU++R1) xV/\∀ (b:Nat),(0<=to/\to<3)/\Zd W NU xV λw17=>∃ n19,w17.cell? (aJ rB (rO+9+to.toNat))=some (aA n19)/\bE (n19 - 1)/\∃ UE GH,aB GH/\Wk W NU xV UE GH/\∃ (n24:Int),(Zd W UE GH λOR=>∃ n27,OR.cell? (aJ rB (rO+5))=some (aA n27)/\aA n27=aA n24)/\Zc W NU xV F.cC #[.pointer (aO rB rO),aA (n19 - 1)] λe30 q=>∃ n32,e30=.returned (aA n32)/\q λG0 lW=>Wk W G0 lW UE GH/\Wk W G0 lW UE GH/\Wk W G0 lW UE GH/\∃ R41 a3I,aB a3I/\Wk W G0 lW R41 a3I/\bE (n19 - 1+8)/\∃ (p45:Option Addr) (k46 k47:Nat),(Zd W R41 a3I λw48=>∃ p50 k51 k52,w48.cell? (aJ rB (rO+3))=some (.slice p50 k51 k52)/\Value.slice p50 k51 k52=Value.slice p45 k46 k47)/\∃ (p53:Option Addr) (k54 k55:Nat),(Zd W R41 a3I λw56=>∃ p58 k59 k60,w56.cell? (aJ rB (rO+3))=some (.slice p58 k59 k60)/\Value.slice p58 k59 k60=Value.slice p53 k54 k55)/\(0<=n19 - 1/\n19 - 1<=min (↑k54:Int) (n19 - 1+8)/\min (↑k54:Int) (n19 - 1+8)<=(↑k47:Int))/\Zc W G0 lW F.cI #[.slice (cT p45 2 (n19 - 1).toNat k47) ((min (↑k54:Int) (n19 - 1+8)).toNat - (n19 - 1).toNat) (k47 - (n19 - 1).toNat)] λe63 q=>∃ p65 k66 k67,e63=.returned (.slice p65 k66 k67)/\q λR68 GM=>Wk W R68 GM R41 a3I/\Zr W R68 GM J (Value.agg #[aA n4,aA n5,aA n6,aA n7,aA (n19 - 1),aA n32,aA n24,.bool c11,.slice p65 k66 k67])
theorem vK(rB rO to):bZ F.fH #[.pointer (aO rB rO),.int .i64 to] (AV rB rO to):=cA { keep:=some [0,1,4,5],gM:=[4,5],gC:=[(3,[.late [0,2] [0,1,4,2,5,6,7] [(3,[8]),(9,[10]),(11,[])]]),(4,[.held [(0,true),(4,true),(6,true),(11,true),(1,true),(5,true),(7,true),(12,true),(2,true),(8,true),(13,true),(3,true),(9,true),(10,true),(14,true),(15,true),(16,false)],.bW [17] (some 18)])] } λ_ _ _ _=>by kernel_rfl
def xY(sP:Option Addr)(sN sC:Nat)(DO:FuncId)(K8:Array Value):aY:=λW R Φ J=>
 Zc W R Φ F.jL #[.slice sP sN sC,Value.func (Fn.func DO) #[] K8] λe2 q=>∃ n4,e2=.returned (aA n4)/\q λR5 fW=>Br (decide (n4 = -1)) (Zr W R5 fW J (.slice sP sN sC)) (bE (n4+1)/\AJ λ(I9:Int->Int->List Own->PW->Nat->Prop)=>(Zs W R5 fW (I9 n4 (n4+1)))/\∀ n15 n16 tJ I18 k19,aB I18->I9 n15 n16 tJ I18 k19->Br (decide (n16<(↑sN:Int))) (Zi n16 sN sP λk20 k21=>Zd W tJ I18 λw22=>∃ n24,w22.cell? (aJ k20 (k21+n16.toNat))=some (aA n24)/\∀ OR SA,Ctx W OR (tJ++SA) I18->sI prog DO=true/\Calls prog DO (Array.mk (aA n24 :: K8.toList)) OR λe27 w28 => ∃ c29,e27=.returned (.bool c29)/\∃ Y3 MP,aB MP/\Ctx W w28 (Y3++SA) MP/\Br (!c29) (Zi n15 sN sP λk32 k33=>∀ w34 R35,Ctx W w34 (Y3++R35) MP->aH w34 k32 (k33+n15.toNat) 1/\∀ w36,w36=w34.setCell (aJ k32 (k33+n15.toNat)) (aA n24)->∃ R37 Y4,aB Y4/\Ctx W w36 (R37++R35) Y4/\bE (n15+1)/\bE (n16+1)/\Zb W R37 Y4 k19 (I9 (n15+1) (n16+1))) (bE (n16+1)/\Zb W Y3 MP k19 (I9 n15 (n16+1)))) ((0<=n15/\n15<=(↑sN:Int)/\sN<=sC)/\∀ w49 R50,Ctx W w49 (tJ++R50) I18->∃ (w51:World),Sem.run prog (builtin Builtin.clear #[37] 0 #[false] #[.slice (cT sP 1 n15.toNat sC) (sN - n15.toNat) (sC - n15.toNat)]) w49=.ok (.value (Value.tuple #[])) w51/\∃ R52 VG,aB VG/\Ctx W w51 (R52++R50) VG/\(0<=n15/\n15<=(↑sC:Int))/\Zr W R52 VG J (.slice (cT sP 1 0 sC) n15.toNat sC)))
theorem tM(sP sN sC DO K8):bZ F.j3 #[.slice sP sN sC,.func (.func DO) #[] K8] (xY sP sN sC DO K8):=cA { keep:=some [0,1,4,5,6,7,12,19,29],wrap:=[28],loops:=[(5,[(5,.one (.int .i64)),(6,.one (.int .i64))],[])] } λ_ _ _ _=>by kernel_rfl
def yT(i:Int)(cB cO:Nat):aY:=λW R Φ J=>
 Zd W R Φ λw0=>∃ p2,w0.cell? (aJ cB cO)=some (.pointer p2)/\vX none p2 λk3 k4=>Zd W R Φ λw5=>∃ n7,w5.cell? (aJ k3 k4)=some (aA n7)/\Zr W R Φ J (.bool (decide (i=n7)))
theorem uP(i cB cO):bZ F.jK #[.int .i64 i,.pointer (some (Addr.mk cB cO none))] (yT i cB cO):=cA { keep:=some [0,1,3] } λ_ _ _ _=>by kernel_rfl
def VH(m0:Int)(m1:Int)(m2:Int)(m3:Int)(m4:Int)(m5:Int)(m6:Int)(m7:Bool)(yJ:Option Addr)(qV yO:Nat):aY:=λW R Φ J=>
 ∀ (b b k0:Nat) w1 R2,Ctx W w1 (Own.blk k0 [aA m0,aA m1,aA m2,aA m3,aA m4,aA m5,aA m6,.bool m7,.slice yJ qV yO] 271 :: R++R2) Φ->J (Value.agg #[.bool false,aA 0,aA 0,aA 0,.slice none 0 0,.slice (aO k0 0) 1 1]) w1
theorem K9(m0 m1 m2 m3 m4 m5 m6 m7 yJ qV yO):bZ F.eY #[.agg #[.int .i64 m0,.int .i64 m1,.int .i64 m2,.int .i64 m3,.int .i64 m4,.int .i64 m5,.int .i64 m6,.bool m7,.slice yJ qV yO]] (VH m0 m1 m2 m3 m4 m5 m6 m7 yJ qV yO):=cA { keep:=some [1,2],gM:=[1,2] } λ_ _ _ _=>by kernel_rfl
def AW(rB rO:Nat):aY:=λW R Φ J=>
 Zc W R Φ F.fQ #[.pointer (aO rB rO)] λe2 q=>∃ p4 k5 k6,e2=.returned (.slice p4 k5 k6)/\q λR7 JL=>AJ λ(I9:Int->Int->List Own->PW->Nat->Prop)=>(Zs W R7 JL (I9 0 0))/\∀ n15 n16 tJ I18 k19,aB I18->I9 n15 n16 tJ I18 k19->Br (decide (n16<(↑k5:Int))) (Zi n16 k5 p4 λk20 k21=>Zd W tJ I18 λw22=>∃ n24,w22.cell? (aJ k20 (k21+n16.toNat))=some (aA n24)/\(0<=n24/\n24<3)/\Zd W tJ I18 λOR=>∃ n27,OR.cell? (aJ rB (rO+12+n24.toNat))=some (aA n27)/\bE (n16+1)/\Zb W tJ I18 k19 (I9 (max n15 n27) (n16+1))) (∀ w33 LF, Ctx W w33 (tJ++LF) I18->∃ n35,w33.cell? (aJ rB (rO+5))=some (aA n35)/\∃ (n36:Int),(decide (n35<n15)=true->∀ (w37:World),(∃ (k38:Nat),w37=w33.drewN k38)->aG F.cC #[.pointer (aO rB rO),aA n15] w37 λe39 w40=>e39=.returned (aA n36)/\∃ (k41:Nat),w40=w33.drewN k41)/\∃ (n42:Int),(decide (n35<n15)=true->w33.cell? (aJ rB (rO+1))=some (aA n42))/\Br (decide (n35<n15)&&decide (n36=n42)) (∀ w43 R44,Ctx W w43 (tJ++R44) I18->aH w43 rB (rO+5) 1/\∀ w45,w45=w43.setCell (aJ rB (rO+5)) (aA n15)->∃ R46 GD,aB GD/\Ctx W w45 (R46++R44) GD/\Zr W R46 GD J (Value.tuple #[])) (Zr W tJ I18 J (Value.tuple #[])))
theorem vL(rB rO):bZ F.kD #[.pointer (aO rB rO)] (AW rB rO):=cA { keep:=some [0,2,4,6,7,8,9,37],loops:=[(2,[(2,.one (.int .i64)),(8,.one (.int .i64))],[])] } λ_ _ _ _=>by kernel_rfl
def yU(sP:Option Addr)(sN sC:Nat)(fF:FuncId)(fC:Array Value):aY:=λW R Φ J=>
 AJ λ(I0:Int->List Own->PW->Nat->Prop)=>(Zs W R Φ (I0 0))/\∀ n6 R7 I8 k9,aB I8->I0 n6 R7 I8 k9->Br (decide (n6<(↑sN:Int))) (Zi n6 sN sP λCY RO=>Zd W R7 I8 λJP=>∃ RN,JP.cell? (aJ CY (RO+n6.toNat))=some (aA RN)/\∀ w15 R16,Ctx W w15 (R7++R16) I8->sI prog fF=true/\Calls prog fF (Array.mk (aA RN :: fC.toList)) w15 λe17 JM=>∃ c19,e17=.returned (.bool c19)/\∃ UE GH,aB GH/\Ctx W JM (UE++R16) GH/\Br c19 (Zr W UE GH J (aA n6)) (bE (n6+1)/\Zb W UE GH k9 (I0 (n6+1)))) (Zr W R7 I8 J (aA (-1)))
theorem uQ(sP sN sC fF fC):bZ F.jL #[.slice sP sN sC,.func (.func fF) #[] fC] (yU sP sN sC fF fC):=cA { keep:=some [0,1,4,5,7,8,9,16],wrap:=[16],loops:=[(2,[(8,.one (.int .i64))],[])] } λ_ _ _ _=>by kernel_rfl
end Go.Proofs.YtnlkemjhgdbfkaaGreatDoor
end

