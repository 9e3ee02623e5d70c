/-
  THE CONDITIONS OF A WALK OVER WHAT IT OWNS: a function's body.
-/
import Derived.Test.YtfccagphnfceiaaGreatDoorCOn3
import Derived.Test.YtfccagphnfceiaaGreatDoorRows
import Derived.WalkKit

set_option linter.unusedVariables false
set_option linter.unusedSimpArgs false
section
namespace Go.Vc
variable {G:List Own}
variable {ds:List Deferred}
open Go.RowKit
structure HS where
  /-- slots whose sums may wrap;calls of function values;0: stores of values of any kind -/
  wrap:List Nat:=[]
  /-- slots whose new blocks are known cell by cell -/
  track:List Nat:=[]
  /-- regions with guards that are walked in the text's order -/
  split:List Nat:=[]
  /-- regions whose calls may draw -/
  draws:List Nat:=[]
  /-- slots that are read outside the region that writes them -/
  keep:Option (List Nat):=none
  /-- regions whose order is drawn,and that write or call: their stages -/
  stages:List (Nat × List Sg):=[]
  /-- of each loop the slots and the blocks that its rounds write -/
  loops:List (Nat × Vars × Vars):=[]
  cuts:List (Nat × Vars × Vars):=[]
def stageAt (k:Nat):List (Nat × List Sg)→Option (List Sg)
  | []=>none
  | (t,l) :: r=>match Nat.beq t k with|true=>some l|false=>stageAt k r
def hintS (k:Nat):List (Nat × Vars × Vars)→Option (Vars × Vars)
  | []=>none
  | (t,l) :: r=>match Nat.beq t k with|true=>some l|false=>hintS k r
def meetS (asg:List Nat) (l:Vars) (vs:List Value) (s:FrS):FrS:=⟨s.n,cons l vs (drop s.l)⟩
where
  cons:Vars→List Value→List (Nat × SV)→List (Nat × SV)
    | (t,_) :: r,v :: vs,s=>(t,.v v) :: cons r vs s
    | _,_,s=>s
  drop:List (Nat × SV)→List (Nat × SV)
    | []=>[]
    | (t,x) :: r=>match memB t asg with|true=>drop r|false=>(t,x) :: drop r
def keepS (k:Option (List Nat)) (s:FrS):FrS:=match k with|none=>s|some k=>⟨s.n,go k s.l⟩
where go (k:List Nat):List (Nat × SV)→List (Nat × SV)
  | []=>[]
  | (t,x) :: r=>match memB t k with|true=>(t,x) :: go k r|false=>go k r
def tsOk (ts:Vars) (L:List Tr):Bool:=match ts with
  | []=>true
  | (k,sh) :: r=>match findT k L,sh with|some _,.agg _=>tsOk r L|_,_=>false
abbrev CurI (l:Vars):Type:=Cur (List Own→PW→Nat→Prop) l
abbrev CurJ (l:Vars):Type:=Cur (List Own→PW→Prop) l
def holdsI (x:Option (List Own→PW→Nat→Prop)) (R:List Own) (Φ:PW) (n:Nat):Prop:=match x with|some I=>I R Φ n|none=>False
def holdsJ (x:Option (List Own→PW→Prop)) (R:List Own) (Φ:PW):Prop:=match x with|some I=>I R Φ|none=>False
def sameN:List Nat→List Nat→Bool
  | [],[]=>true
  | a :: l,b :: m=>Nat.beq a b&&sameN l m
  | _,_=>false
theorem sameN_eq:∀ {l m:List Nat},sameN l m=true→l=m
  | [],[],_=>rfl
  | a :: l,b :: m,h=>by
    simp only [sameN,Bool.and_eq_true] at h
    rw [Nat.eq_of_beq_eq_true h.1,sameN_eq h.2]
  | [],_ :: _,h=>by cases h
  | _ :: _,[],h=>by cases h
def putsS:Vars→List Value→FrS→FrS
  | (t,_) :: r,v :: vs,s=>putsS r vs (s.put (some t) (.v v))
  | _,_,s=>s
abbrev CurA (l:Vars):Type:=Cur (Nat→Prop) l
def holdsA (x:Option (Nat→Prop)) (k:Nat):Prop:=match x with|some I=>I k|none=>False
def FitsR (l:Vars) (A:CurA l) (xs:Nat→List Value) (N:Nat):Prop:=∀ k,k<N→holdsA (Cur.app l A (xs k)) k
section
variable (P:Program) (W:World)
def stgBody (H:HS) (ops:Array Oper) (st:List Sg) (s:FrS) (L:List Tr) (R:List Own) (Φ:PW) (K:FrS→List Tr→List Own→PW→Prop):Prop :=
  stgS P W (fun t=>memB t H.wrap) (fun t=>memB t H.track) ops st s L R Φ fun s=>K (keepS H.keep s)
def quietBody (H:HS) (d:Bool) (ops:Array Oper) (s:FrS) (L:List Tr) (R:List Own) (Φ:PW) (K:FrS→List Tr→List Own→PW→Prop):Prop :=
  ∀ w F,Ctx W w (R++F) Φ→qsS P (fun t=>memB t H.wrap) d ops L w ops.toList [] s fun s=>K (keepS H.keep s) L R Φ
def regionS (H:HS) (id:Nat) (ops:Array Oper) (draw:Bool) (s:FrS) (L:List Tr) (R:List Own) (Φ:PW) (K:FrS→List Tr→List Own→PW→Prop):Prop :=
  match draw with
  | true=>match stageAt id H.stages with
    | some st=>match P.follows .mixedOrders&&Region.noSelect ops&&sgOk ops st (Array.replicate ops.size false)&&Nat.beq (sgLen st) ops.size with
      | true=>stgBody P W H ops st s L R Φ K
      | false=>False
    | none=>match okDraw P ops with
      | true=>quietBody P W H true ops s L R Φ K
      | false=>False
  | false=>match guarded ops.toList && !(memB id H.split) with
    | true=>quietBody P W H (memB id H.draws) ops s L R Φ K
    | false=>opsS P W (fun t=>memB t H.wrap) (fun t=>memB t H.track) ops ops.toList s L R Φ fun s=>K (keepS H.keep s)
def vcS (H:HS):Code→(Exit→FrS→List Tr→List Own→PW→Prop)→FrS→List Tr→List Own→PW→Prop
  | .skip,Q,s,L,R,Φ=>Q .normal s L R Φ
  | .region id ops draw,Q,s,L,R,Φ=>regionS P W H id ops draw s L R Φ (Q .normal)
  | .seq x y,Q,s,L,R,Φ =>
    match hintS (firstReg y) H.cuts with
    | none=>vcS H x (fun e s' L' R' Φ'=>match e with | .normal=>vcS H y Q s' L' R' Φ'|e=>Q e s' L' R' Φ') s L R Φ
    | some (l,ts) =>
      match varsOk (asg x) l (s.fr L)&&tsOk ts L with
      | true =>
        ∃ J:CurJ (l++ts),vcS H x (fun e s' L' R' Φ'=>match e with
            | .normal=>match knownSub (asg x) (s.fr L) (s'.fr L')&&sameT ts L' L with
              | true=>∃ R1 Φ1,Stable Φ1∧(∀ w F,Ctx W w (R'++F) Φ'→Ctx W w (R1++F) Φ1)∧holdsJ (Cur.app (l++ts) J (slotsOf l (s'.fr L')++cellsOf ts L')) R1 Φ1
              | false=>False
            | e=>Q e s' L' R' Φ') s L R Φ ∧
          l.all fun vs=>ts.all fun us=>∀ R' Φ',Stable Φ'→holdsJ (Cur.app (l++ts) J (vs++us)) R' Φ'→vcS H y Q (meetS (asg x) l vs s) (meetT ts us L) R' Φ'
      | false=>False
  | .cond c x y,Q,s,L,R,Φ=>match s.val L c with
    | .bool b=>Br b (vcS H x Q s L R Φ) (vcS H y Q s L R Φ)
    | _=>False
  | .block id b,Q,s,L,R,Φ=>vcS H b (fun e s' L' R' Φ'=>match e with | .exit n=>(match Nat.beq n id with|true=>Q .normal s' L' R' Φ'|false=>Q (.exit n) s' L' R' Φ')|e=>Q e s' L' R' Φ') s L R Φ
  | .loop b,Q,s,L,R,Φ =>
    match hintS (firstReg b) H.loops with
    | none=>False
    | some (l,ts) =>
      match varsOk (asg b) l (s.fr L)&&tsOk ts L with
      | true =>
        ∃ I:CurI (l++ts),(∃ R1 Φ1 n1,Stable Φ1∧(∀ w F,Ctx W w (R++F) Φ→Ctx W w (R1++F) Φ1)∧holdsI (Cur.app (l++ts) I (slotsOf l (s.fr L)++cellsOf ts L)) R1 Φ1 n1) ∧
          l.all fun vs=>ts.all fun us=>∀ R' Φ' n,Stable Φ'→holdsI (Cur.app (l++ts) I (vs++us)) R' Φ' n →
            vcS H b (fun e s' L' R'' Φ''=>match e with
              | .normal=>match knownSub (asg b) (s.fr L) (s'.fr L')&&sameT ts L' L with
                | true=>∃ R1 Φ1 n1,Stable Φ1∧(∀ w F,Ctx W w (R''++F) Φ''→Ctx W w (R1++F) Φ1)∧holdsI (Cur.app (l++ts) I (slotsOf l (s'.fr L')++cellsOf ts L')) R1 Φ1 n1∧n1<n
                | false=>False
              | e=>Q e s' L' R'' Φ'') (meetS (asg b) l vs s) (meetT ts us L) R' Φ'
      | false=>False
  | .exit id,Q,s,L,R,Φ=>Q (.exit id) s L R Φ
  | .label _,Q,s,L,R,Φ=>Q .normal s L R Φ
  | .scope b,Q,s,L,R,Φ=>vcS H b (fun e s' L' R' Φ'=>match e with | .goto _=>False|e=>Q e s' L' R' Φ') s L R Φ
  | .ret,Q,s,L,R,Φ=>Q .ret s L R Φ
  | .rangeFunc g ps x y,Q,s,L,R,Φ =>
    match s.val L g with
    | .func (.func gf) cs lb =>
      match hintS (firstReg y) H.loops with
      | none=>False
      | some (l,ts) =>
        match sameN (l.map (·.1)) ps.toList&&okRound x&&okRound y&&tsOk ts L with
        | true=>cs=#[]∧okFun P gf=true∧∃ (N:Nat) (xs:Nat→List Value) (X:World→Prop) (A:CurA l) (I:CurI ts),Iter P gf lb N (fun k=>(xs k).toArray) X∧FitsR l A xs N ∧
            (∃ R1 Φ1,Stable Φ1∧(∀ w F,Ctx W w (R++F) Φ→Ctx W w (R1++F) Φ1)∧holdsI (Cur.app ts I (cellsOf ts L)) R1 Φ1 0) ∧
            ts.all fun us=>∀ R' Φ' k,Stable Φ'→holdsI (Cur.app ts I us) R' Φ' k →
              (∀ w F,Ctx W w (R'++F) Φ'→X w) ∧
              (k<N→l.all fun vs=>holdsA (Cur.app l A vs) k→vcS H x (fun e s1 L1 R1 Φ1=>match e with
                  | .normal=>vcS H y (fun e s2 L2 R2 Φ2=>match e with
                      | .normal=>match sameT ts L2 L with
                        | true=>∃ R3 Φ3,Stable Φ3∧(∀ w F,Ctx W w (R2++F) Φ2→Ctx W w (R3++F) Φ3)∧holdsI (Cur.app ts I (cellsOf ts L2)) R3 Φ3 (k+1)
                        | false=>False
                      | _=>False) s1 L1 R1 Φ1
                  | _=>False) (putsS l vs s) (meetT ts us L) R' Φ') ∧
              (k=N→Q .normal s (meetT ts us L) R' Φ')
        | false=>False
    | _=>False
  | _,_,_,_,_,_=>False
def resS (s:FrS) (L:List Tr) (R:List Own) (Φ:PW):List ResultVar→(List Value→Prop)→Prop
  | [],K=>K []
  | .tmp t :: r,K=>match isU ((getS t s.l).val L) with
    | true=>False
    | false=>resS s L R Φ r fun vs=>K ((getS t s.l).val L :: vs)
  | .cell a t :: r,K=>match getS a s.l with
    | .ptr k off=>loadT P t L k off fun v=>resS s L R Φ r fun vs=>K (v :: vs)
    | .v (.pointer (some ⟨b,o,none⟩))=>∀ w F,Ctx W w (R++F) Φ→vcLoadG P t w none b o fun v=>resS s L R Φ r fun vs=>K (v :: vs)
    | .v _=>False
def bodyS (fn:Func) (J:Value→World→Prop):Exit→FrS→List Tr→List Own→PW→Prop
  | .normal,s,L,R,Φ | .ret,s,L,R,Φ=>resS P W s L R Φ fn.results.toList fun vs=>∀ w F,Ctx W w (R++F) Φ→J (tupled vs) w
  | _,_,_,_,_=>False
def argS:Nat→List Value→List (Nat × SV)
  | _,[]=>[]
  | i,v :: r=>(i,.v v) :: argS (i+1) r
def vcFS (H:HS) (f:FuncId) (args:Array Value) (R:List Own) (Φ:PW) (J:Value→World→Prop):Prop :=
  match P.funcs[f]? with
  | some fn=>match fn.body with
    | some c=>vcS P W H c (bodyS P W fn J) ⟨max fn.ntmps args.size,argS 0 args.toList⟩ [] R Φ
    | none=>False
  | none=>False
end
theorem keepS_fr (k:Option (List Nat)) (s:FrS) (L:List Tr):(keepS k s).fr L=(s.fr L).keep k:=by
  cases k with
  | none=>rfl
  | some k =>
    have key:∀ l:List (Nat × SV),valL L (keepS.go k l)=filterL (fun t=>memB t k) (valL L l):=by
      intro l
      induction l with
      | nil=>rfl
      | cons p r ih =>
        obtain ⟨t,v⟩:=p
        simp only [keepS.go,valL,filterL]
        cases memB t k with
        | true=>simp only [valL,ih]
        | false=>exact ih
    simp only [keepS,Fr.keep,FrS.fr,key]
theorem keepS_wf {k:Option (List Nat)} {s:FrS} {L:List Tr} (h:WfS L s):WfS L (keepS k s):=by
  cases k with
  | none=>exact h
  | some k =>
    have key:∀ l:List (Nat × SV),∀ p∈keepS.go k l,p∈l:=by
      intro l
      induction l with
      | nil=>intro p hp;exact hp
      | cons q r ih =>
        obtain ⟨t,v⟩:=q
        intro p hp
        simp only [keepS.go] at hp
        cases hb:memB t k with
        | true=>rw [hb] at hp;rcases List.mem_cons.1 hp with rfl|hp;simp;exact List.mem_cons_of_mem _ (ih p hp)
        | false=>rw [hb] at hp;exact List.mem_cons_of_mem _ (ih p hp)
    exact fun p hp=>h p (key _ p hp)
theorem At.keep {W:World} {s:FrS} {L:List Tr} {R:List Own} {Φ:PW} {a:Act} {w:World} (h:At ds G W s L R Φ a w) (k:Option (List Nat)):At ds G W (keepS k s) L R Φ a w :=
  ⟨by rw [keepS_fr];exact keep_sim h.sim k,keepS_wf h.wf,h.ids,h.ctx,h.st⟩
theorem meetS_fr {asg:List Nat} {l:Vars} {vs:List Value} {s:FrS} {L L1:List Tr} (hwf:WfS L s) (hb:∀ k T,findT k L=some T→∃ T',findT k L1=some T'∧T'.b=T.b):(meetS asg l vs s).fr L1=meet asg l vs (s.fr L):=by
  have key:∀ r:List (Nat × SV),(∀ p∈r,∀ k o,p.2=SV.ptr k o→(findT k L).isSome=true)→valL L1 (meetS.drop asg r)=filterL (fun t => !memB t asg) (valL L r):=by
    intro r
    induction r with
    | nil=>intro _;rfl
    | cons p r ih =>
      obtain ⟨t,v⟩:=p
      intro h
      have ih:=ih fun q hq=>h q (List.mem_cons_of_mem _ hq)
      simp only [meetS.drop,valL,filterL]
      cases memB t asg with
      | true=>exact ih
      | false =>
        simp only [valL,Bool.not_false,ih]
        congr 2
        cases v with
        | v x=>rfl
        | ptr k o =>
          obtain ⟨T,hT⟩:=Option.isSome_iff_exists.1 (h (t,.ptr k o) (by simp) k o rfl)
          obtain ⟨T',h1,h2⟩:=hb k T hT
          simp only [SV.val,hT,h1,h2]
  have key2:∀ (l:Vars) (vs:List Value) (r:List (Nat × SV)),valL L1 (meetS.cons l vs r)=consAll l vs (valL L1 r):=by
    intro l
    induction l with
    | nil=>intro vs r;cases vs<;>rfl
    | cons p l ih =>
      obtain ⟨t,sh⟩:=p
      intro vs r
      cases vs with
      | nil=>rfl
      | cons v vs=>simp only [meetS.cons,consAll,valL,ih,SV.val]
  simp only [FrS.fr,meetS,meet,putAll,Fr.drop,key2,key s.l hwf]
theorem meetS_wf {asg:List Nat} {l:Vars} {vs:List Value} {s:FrS} {L L1:List Tr} (hwf:WfS L s) (hb:∀ k T,findT k L=some T→∃ T',findT k L1=some T'∧T'.b=T.b):WfS L1 (meetS asg l vs s):=by
  have key:∀ r:List (Nat × SV),∀ p∈meetS.drop asg r,p∈r:=by
    intro r
    induction r with
    | nil=>intro p hp;exact hp
    | cons q r ih =>
      obtain ⟨t,v⟩:=q
      intro p hp
      simp only [meetS.drop] at hp
      cases hm:memB t asg with
      | true=>rw [hm] at hp;exact List.mem_cons_of_mem _ (ih p hp)
      | false=>rw [hm] at hp;rcases List.mem_cons.1 hp with rfl|hp;simp;exact List.mem_cons_of_mem _ (ih p hp)
  have key2:∀ (l:Vars) (vs:List Value) (r:List (Nat × SV)),∀ p∈meetS.cons l vs r,p∈r∨∃ v,p.2=.v v:=by
    intro l
    induction l with
    | nil=>intro vs r p hp;cases vs<;>exact .inl hp
    | cons q l ih =>
      obtain ⟨t,sh⟩:=q
      intro vs r p hp
      cases vs with
      | nil=>exact .inl hp
      | cons v vs =>
        rcases List.mem_cons.1 hp with rfl|hp
        · exact .inr ⟨v,rfl⟩
        · exact ih vs r p hp
  intro p hp k o e
  rcases key2 _ _ _ p hp with h|⟨v,h⟩
  · obtain ⟨T,hT⟩:=Option.isSome_iff_exists.1 (hwf p (key _ p h) k o e)
    obtain ⟨T',h1,_⟩:=hb k T hT
    rw [h1];rfl
  · rw [h] at e;cases e
theorem holdsI_some {x:Option (List Own→PW→Nat→Prop)} {R:List Own} {Φ:PW} {n:Nat} (h:holdsI x R Φ n):∃ I,x=some I:=by
  cases x with
  | none=>exact h.elim
  | some I=>exact ⟨I,rfl⟩
theorem holdsJ_some {x:Option (List Own→PW→Prop)} {R:List Own} {Φ:PW} (h:holdsJ x R Φ):∃ I,x=some I:=by
  cases x with
  | none=>exact h.elim
  | some I=>exact ⟨I,rfl⟩
theorem all_append {ts:Vars} {us:List Value} {ρ:Type} {x:ρ}:∀ {l:Vars} {vs:List Value} (_:vs.length=l.length) {K:List Value→List Value→Prop} (_:l.all fun vs=>ts.all fun us=>K vs us) {f:Cur ρ (l++ts)} (_:Cur.app (l++ts) f (vs++us)=some x),
    K vs us∧us.length=ts.length∧(∀ v∈vs,isU v=false)∧(∀ u∈us,isU u=false):=by
  intro l
  induction l with
  | nil =>
    intro vs hl K h f hx
    cases vs with
    | nil =>
      obtain ⟨h1,h2,h3⟩:=Cur.app_all hx h
      exact ⟨h1,h2,fun v hv=>(by cases hv),h3⟩
    | cons v vs=>simp at hl
  | cons p r ih =>
    intro vs hl K h f hx
    obtain ⟨t,s⟩:=p
    cases vs with
    | nil=>simp at hl
    | cons v vs =>
      simp only [List.cons_append] at f hx
      unfold Cur.app at hx
      split at hx
      · rename_i g hg
        obtain ⟨h1,h2⟩:=Sh.app_all hg h
        obtain ⟨h3,h4,h5,h6⟩:=ih (vs:=vs) (by simpa using hl) (K:=fun vs us=>K (v :: vs) us) h1 hx
        refine ⟨h3,h4,fun u hu=>?_,h6⟩
        rcases List.mem_cons.1 hu with rfl|hu
        · exact h2
        · exact h5 u hu
      · cases hx
theorem slotsOf_len (l:Vars) (s:Fr):(slotsOf l s).length=l.length:=by simp [slotsOf]
theorem least_ex {p:Nat→Prop} (h:∃ n,p n):∃ n,p n∧∀ m,p m→n≤m:=by
  obtain ⟨n,hn⟩:=h
  induction n using Nat.strongRecOn with
  | _ n ih =>
    by_cases hx:∃ m,m<n∧p m
    · obtain ⟨m,h1,h2⟩:=hx;exact ih m h1 h2
    · exact ⟨n,hn,fun m hm=>by
        rcases Nat.lt_or_ge m n with h'|h'
        · exact absurd ⟨m,h',hm⟩ hx
        · exact h'⟩
theorem Cur.app_len {ρ:Type}:∀ {l:Vars} {f:Cur ρ l} {vs:List Value} {x:ρ},Cur.app l f vs=some x→vs.length=l.length
  | [],_,[],_,_=>rfl
  | (t,s) :: r,f,v :: vs,x,h=>by
    unfold Cur.app at h
    split at h
    · simp [Cur.app_len h]
    · cases h
  | [],_,_ :: _,_,h=>by cases h
  | _ :: _,_,[],_,h=>by cases h
theorem enter_ok {P:Program} {f:FuncId} (h:okFun P f=true) (args:Array Value) (w:World):(callFunc f args).run P w=.ok (.enter f args) w:=by
  unfold okFun at h
  split at h
  · rename_i fn hfn
    simp only [Bool.and_eq_true,Bool.not_eq_true'] at h
    have hb':fn.body.isNone=false:=by cases hh:fn.body<;>simp_all
    simp only [callFunc,program,Sem.run,hfn,h.2,hb',Bool.false_eq_true,if_false,Sem.run_bind,Sem.run_pure,Result.andThen]
  · cases h
theorem putsS_sim {L:List Tr}:∀ {l:Vars} {vs:List Value} {s:FrS} {a:Act},Sim ds (s.fr L) a→WfS L s →
    Sim ds ((putsS l vs s).fr L) { tmps:=((l.map (·.1)).zip vs).foldl (fun t p=>t.setIfInBounds p.1 p.2) a.tmps,defers:=a.defers }∧WfS L (putsS l vs s)
  | (t,sh) :: r,v :: vs,s,a,h,hw=>by
    have h2:Sim ds ((s.put (some t) (.v v)).fr L) (a.put (some t) v):=by rw [fr_put];exact h.put _ (fun _=>rfl)
    have:=putsS_sim (l:=r) (vs:=vs) h2 (hw.put fun k o e=>(by cases e))
    simpa [putsS,Act.put] using this
  | [],vs,s,a,h,hw=>by
    simp only [putsS,List.map_nil,List.zip_nil_left,List.foldl_nil]
    exact ⟨h,hw⟩
  | _ :: _,[],s,a,h,hw=>by
    simp only [putsS,List.zip_nil_right,List.foldl_nil]
    exact ⟨h,hw⟩
theorem vcS_sound {P:Program} {W:World} {H:HS}:∀ (c:Code) {rd:Option Nat} {Q':Exit→FrS→List Tr→List Own→PW→Prop} {Q:Exit→Act→World→Prop} {s:FrS} {L:List Tr} {R:List Own} {Φ:PW} {a:Act} {w:World} {ds:List Deferred} {G:List Own},
    (rd.isSome=true→okRound c=true)→vcS P W H c Q' s L R Φ→At ds G W s L R Φ a w→(∀ e s' L' R' Φ' a' w' ds' G',Q' e s' L' R' Φ'→Tie rd ds G ds' G'→At ds' G' W s' L' R' Φ' a' w'→Ext L L'→Unch (fun t=>t∈asg c) (s.fr L) (s'.fr L')→Q e a' w')→c.wpIn (fenceAt rd) 0 P Q a w:=by
  intro c
  induction c with
  | skip=>intro rd Q' Q s L R Φ a w ds G hrd h ha hQ;exact wpIn_skip (hQ _ _ _ _ _ _ _ _ _ h (Tie.refl _ _ _) ha (Ext.refl _) (Unch.refl _ _))
  | region id ops draw =>
    intro rd Q' Q s L R Φ a w ds G hrd h ha hQ
    have hD:∀ o∈ops.toList,∀ t,o.dst=some t→t∈dsts ops.toList:=fun o ho t ht=>List.mem_filterMap.2 ⟨o,ho,ht⟩
    have hD':∀ (j:Nat) (o:Oper) (t:Nat),ops[j]? = some o→o.dst=some t→t∈dsts ops.toList:=fun j o t ho ht=>hD o (by simpa using Array.mem_of_getElem? ho) t ht
    have hQ':∀ s' L' R' Φ' a' w',Q' .normal (keepS H.keep s') L' R' Φ'→At ds G W s' L' R' Φ' a' w'→Ext L L'→Unch (fun t=>t∈dsts ops.toList) (s.fr L) (s'.fr L')→Q .normal a' w':=by
      intro s' L' R' Φ' a' w' hk ha' he hu
      exact hQ _ _ _ _ _ _ _ _ _ hk (Tie.refl _ _ _) (ha'.keep _) he (by rw [keepS_fr];exact keep_unch hu _)
    have quiet:∀ (d:Bool),(∀ w F,Ctx W w (R++F) Φ→qsS P (fun t=>memB t H.wrap) d ops L w ops.toList [] s fun s=>Q' .normal (keepS H.keep s) L R Φ)→wpQuiet P ops (Cls d w) (fun a'=>∀ w',Cls d w w'→Q .normal a' w') ops.toList a:=by
      intro d h
      refine qsS_sound (D:=fun t=>t∈dsts ops.toList) (s0:=s.fr L) ha.st ha.ids ha.ctx (fun s' a' hk hs' hwf' hu' w' hw'=>?_) _ _ _ _ hD (fun e he=>(by cases he)) (h w _ ha.ctx) (Rel.start ha.sim) ha.wf (Unch.refl _ _)
      have hc':CtxS G W w' L R Φ:=by
        have:=ha.st
        cases d with
        | false=>cases hw';exact ha.ctx
        | true=>obtain ⟨n,rfl⟩:=hw';exact Ctx.draw ha.ctx n
      exact hQ' s' L R Φ a' w' hk ⟨hs',hwf',ha.ids,hc',ha.st⟩ (Ext.refl _) hu'
    simp only [vcS,regionS,stgBody,quietBody] at h
    cases draw with
    | true =>
      simp only at h
      split at h
      · rename_i st _
        split at h
        · rename_i hc
          simp only [Bool.and_eq_true,Nat.beq_eq] at hc
          obtain ⟨⟨⟨h1,h2⟩,h3⟩,h4⟩:=hc
          have:=ha.st
          refine reg_any (fun hh=>hrd hh) h1 ?_
          have h7:=stgS_sound (Q:=onlyQ Q) (L0:=L) (s0:=s.fr L) (D:=fun t=>t∈dsts ops.toList) h2 hD' (fun s' L' R' Φ' a' w' hk ha' he hu=>hQ' s' L' R' Φ' a' w' hk ha' he hu) st _ _ _ _ _ _ (w.drewN 1) h3 h ⟨ha.sim,ha.wf,ha.ids,Ctx.draw ha.ctx 1,ha.st⟩ (Ext.refl _) (Unch.refl _ _)
          rw [h4] at h7
          exact h7
        · exact h.elim
      · split at h
        · rename_i hc
          simp only [okDraw,Bool.and_eq_true] at hc
          have h1:=quiet true h
          exact reg_quiet (fun hh=>hrd hh) hc.1 hc.2 (by
            have e:Cls true w=fun w'=>∃ n,w'=w.drewN n:=rfl
            rw [e] at h1
            exact h1)
        · exact h.elim
    | false =>
      simp only at h
      split at h
      · have h1:=quiet (memB id H.draws) h
        refine reg_list (fun hh=>hrd hh) ?_
        exact wpList_of_quiet (Q:=onlyQ Q) (C:=Cls (memB id H.draws) w) (Qa:=fun a'=>∀ w',Cls (memB id H.draws) w w'→Q .normal a' w') (fun a' w' hw' hq=>hq w' hw') _ _ _ (by cases memB id H.draws;rfl;exact ⟨0,rfl⟩) h1
      · refine reg_list (fun hh=>hrd hh) ?_
        exact opsS_sound (Q:=onlyQ Q) (D:=fun t=>t∈dsts ops.toList) (s0:=s.fr L) (L0:=L) hD' (fun s' L' R' Φ' a' w' hk ha' he hu=>hQ' s' L' R' Φ' a' w' hk ha' he hu) _ _ _ _ _ _ _ hD h ha (Ext.refl _) (Unch.refl _ _)
  | seq x y ihx ihy =>
    intro rd Q' Q s L R Φ a w ds G hrd h ha hQ
    simp only [vcS] at h
    have hrx:rd.isSome=true→okRound x=true∧okRound y=true:=fun hh=>by have:=hrd hh;simpa only [okRound,Bool.and_eq_true] using this
    refine wpIn_seq ?_
    split at h
    · refine ihx (fun hh=>(hrx hh).1) h ha ?_
      intro e s' L' R' Φ' a' w' ds1 G1 hq htie ha' he hu
      have hu':Unch (fun t=>t∈asg (.seq x y)) (s.fr L) (s'.fr L'):=hu.mono fun i hi=>List.mem_append.2 (.inl hi)
      cases e with
      | normal =>
        simp only [Exit.then]
        refine ihy (fun hh=>(hrx hh).2) hq ha' fun e s'' L'' R'' Φ'' a'' w'' ds2 G2 hq' htie' ha'' he' hu''=>hQ _ _ _ _ _ _ _ _ _ hq' (htie.trans htie') ha'' (he.trans he') ?_
        exact hu'.trans (hu''.mono fun i hi=>List.mem_append.2 (.inr hi))
      | exit n=>exact hQ _ _ _ _ _ _ _ _ _ hq htie ha' he hu'
      | goto n=>exact hQ _ _ _ _ _ _ _ _ _ hq htie ha' he hu'
      | ret=>exact hQ _ _ _ _ _ _ _ _ _ hq htie ha' he hu'
      | panic n=>exact hQ _ _ _ _ _ _ _ _ _ hq htie ha' he hu'
      | outgrown=>exact hQ _ _ _ _ _ _ _ _ _ hq htie ha' he hu'
    · rename_i l ts hl
      split at h
      · rename_i hok
        simp only [Bool.and_eq_true] at hok
        obtain ⟨hv,hn⟩:=varsOk_spec hok.1
        obtain ⟨J,h1,h2⟩:=h
        refine ihx (fun hh=>(hrx hh).1) h1 ha ?_
        intro e s' L' R' Φ' a' w' ds1 G1 hq htie ha' he hu
        have hu':Unch (fun t=>t∈asg (.seq x y)) (s.fr L) (s'.fr L'):=hu.mono fun i hi=>List.mem_append.2 (.inl hi)
        cases e with
        | normal =>
          simp only [Exit.then]
          simp only at hq
          split at hq
          · rename_i hsub
            simp only [Bool.and_eq_true] at hsub
            obtain ⟨R1,Φ1,hst1,hw1,hj⟩:=hq
            obtain ⟨I,hI⟩:=holdsJ_some hj
            obtain ⟨h3,_,hk,_⟩:=all_append (slotsOf_len l _) h2 hI
            have hme:=meetT_ext ts (cellsOf ts L') L
            have hb:∀ k T,findT k L=some T→∃ T',findT k (meetT ts (cellsOf ts L') L)=some T'∧T'.b=T.b:=fun k T hT=>by obtain ⟨T',q1,q2,_⟩:=hme.old k T hT;exact ⟨T',q1,q2⟩
            have hsim:=meet_sim (s:=s.fr L) ha'.sim hu (fun i=>knownAll_spec hsub.1) rfl hk
            have ham:At ds1 G1 W (meetS (asg x) l (slotsOf l (s'.fr L')) s) (meetT ts (cellsOf ts L') L) R1 Φ1 a' w' :=
              ⟨by rw [meetS_fr ha.wf hb];exact hsim,meetS_wf ha.wf hb,hme.ids ha.ids,hw1 w' _ (CtxS.meet ha'.st ha'.ctx he ha.ids hsub.2),hst1⟩
            refine ihy (fun hh=>(hrx hh).2) (h3 R1 Φ1 hst1 hj) ham fun e s'' L'' R'' Φ'' a'' w'' ds2 G2 hq' htie' ha'' he' hu''=>hQ _ _ _ _ _ _ _ _ _ hq' (htie.trans htie') ha'' (hme.trans he') ?_
            refine Unch.trans (b:=(meetS (asg x) l (slotsOf l (s'.fr L')) s).fr (meetT ts (cellsOf ts L') L)) ?_ (hu''.mono fun i hi=>List.mem_append.2 (.inr hi))
            rw [meetS_fr ha.wf hb]
            exact meet_unch (fun v hv'=>List.mem_append.2 (.inl (hv v hv').1))
          · exact hq.elim
        | exit n=>exact hQ _ _ _ _ _ _ _ _ _ hq htie ha' he hu'
        | goto n=>exact hQ _ _ _ _ _ _ _ _ _ hq htie ha' he hu'
        | ret=>exact hQ _ _ _ _ _ _ _ _ _ hq htie ha' he hu'
        | panic n=>exact hQ _ _ _ _ _ _ _ _ _ hq htie ha' he hu'
        | outgrown=>exact hQ _ _ _ _ _ _ _ _ _ hq htie ha' he hu'
      · exact h.elim
  | cond c x y ihx ihy =>
    intro rd Q' Q s L R Φ a w ds G hrd h ha hQ
    simp only [vcS] at h
    split at h
    · rename_i b hb
      have hc:a.eval c=.bool b:=by rw [ha.sim.eval (by rw [fr_eval,hb];rfl),fr_eval,hb]
      cases b with
      | true=>exact wpIn_cond_true hc (ihx (fun hh=>by have:=hrd hh;simp only [okRound,Bool.and_eq_true] at this;exact this.1) h ha fun e s' L' R' Φ' a' w' ds1 G1 hq htie ha' he hu=>hQ _ _ _ _ _ _ _ _ _ hq htie ha' he (hu.mono fun i hi=>List.mem_append.2 (.inl hi)))
      | false=>exact wpIn_cond_false hc (ihy (fun hh=>by have:=hrd hh;simp only [okRound,Bool.and_eq_true] at this;exact this.2) h ha fun e s' L' R' Φ' a' w' ds1 G1 hq htie ha' he hu=>hQ _ _ _ _ _ _ _ _ _ hq htie ha' he (hu.mono fun i hi=>List.mem_append.2 (.inr hi)))
    · exact h.elim
  | block id b ih =>
    intro rd Q' Q s L R Φ a w ds G hrd h ha hQ
    simp only [vcS] at h
    refine wpIn_block (ih (fun hh=>hrd hh) h ha ?_)
    intro e s' L' R' Φ' a' w' ds1 G1 hq htie ha' he hu
    cases e with
    | exit n =>
      simp only [Exit.inBlock]
      simp only at hq
      split at hq
      · rename_i e;rw [if_pos (Nat.eq_of_beq_eq_true e)];exact hQ _ _ _ _ _ _ _ _ _ hq htie ha' he hu
      · rename_i e;rw [if_neg (Nat.ne_of_beq_eq_false e)];exact hQ _ _ _ _ _ _ _ _ _ hq htie ha' he hu
    | normal=>exact hQ _ _ _ _ _ _ _ _ _ hq htie ha' he hu
    | goto n=>exact hQ _ _ _ _ _ _ _ _ _ hq htie ha' he hu
    | ret=>exact hQ _ _ _ _ _ _ _ _ _ hq htie ha' he hu
    | panic n=>exact hQ _ _ _ _ _ _ _ _ _ hq htie ha' he hu
    | outgrown=>exact hQ _ _ _ _ _ _ _ _ _ hq htie ha' he hu
  | loop b ih =>
    intro rd Q' Q s L R Φ a w ds G hrd h ha hQ
    simp only [vcS] at h
    split at h
    · exact h.elim
    · rename_i l ts hl
      split at h
      · rename_i hok
        simp only [Bool.and_eq_true] at hok
        obtain ⟨hv,hn⟩:=varsOk_spec hok.1
        obtain ⟨I,⟨R0,Φ0,n0,hst0,hw0,h0⟩,h1⟩:=h
        let Rel:=fun (n:Nat) (a':Act) (w':World)=>∃ ds1 G1 vs us R' Φ',Tie rd ds G ds1 G1∧vs.length=l.length∧Stable Φ'∧holdsI (Cur.app (l++ts) I (vs++us)) R' Φ' n∧Sim ds1 (meet (asg b) l vs (s.fr L)) a'∧CtxS G1 W w' (meetT ts us L) R' Φ'
        have hst:=ha.st
        have start:Rel n0 a w:=by
          obtain ⟨I',hI'⟩:=holdsI_some h0
          obtain ⟨_,_,hk,_⟩:=all_append (slotsOf_len l _) h1 hI'
          have hm:=meet_sim (s:=s.fr L) ha.sim (Unch.refl _ _) (fun i=>knownSub_refl) rfl hk (asg:=asg b) (l:=l)
          refine ⟨_,_,_,_,R0,Φ0,Tie.refl _ _ _,slotsOf_len l _,hst0,h0,hm,?_⟩
          have hss:sameT ts L L=true:=by
            have key:∀ M:List Tr,(∀ T∈M,T∈L)→sameT ts L M=true:=by
              intro M
              induction M with
              | nil=>intro _;rfl
              | cons T r ihr =>
                intro hM
                unfold sameT
                cases memB T.id (ts.map (·.1)) with
                | true=>exact ihr fun U hU=>hM U (List.mem_cons_of_mem _ hU)
                | false =>
                  rw [findT_mem ha.ids (hM T (by simp))]
                  simp only [show Nat.beq T.ver T.ver=true by simp]
                  exact ihr fun U hU=>hM U (List.mem_cons_of_mem _ hU)
            exact key L fun _ h=>h
          exact CtxS.meet hst0 (hw0 w _ ha.ctx) (Ext.refl L) ha.ids hss
        let least:=fun (a':Act) (w':World) (n:Nat)=>Rel n a' w'∧∀ m,Rel m a' w'→n≤m
        let mu:=fun (a':Act) (w':World)=>@dite _ (∃ n,least a' w' n) (Classical.propDecidable _) (fun hx=>Classical.choose hx) (fun _=>0)
        have hmu:∀ a' w' n,Rel n a' w'→∃ k,least a' w' k∧mu a' w'=k∧k≤n:=by
          intro a' w' n hn
          have hx:∃ k,least a' w' k:=least_ex ⟨n,hn⟩
          refine ⟨Classical.choose hx,Classical.choose_spec hx,?_,(Classical.choose_spec hx).2 n hn⟩
          show @dite _ (∃ n,least a' w' n) (Classical.propDecidable _) (fun hx=>Classical.choose hx) (fun _=>0)=_
          rw [dif_pos hx]
        refine wpIn_loop (fun a' w'=>∃ n,Rel n a' w') mu ⟨n0,start⟩ ?_
        rintro a1 w1 ⟨n1,hn1⟩
        obtain ⟨n,⟨⟨ds1,G1,vs,us,R',Φ',htie1,hlen,hst1,hI,hs1,hc1⟩,_⟩,hmu1,_⟩:=hmu a1 w1 n1 hn1
        rw [hmu1]
        obtain ⟨I',hI'⟩:=holdsI_some hI
        obtain ⟨h2,hlu,hk,hku⟩:=all_append hlen h1 hI'
        have hme:=meetT_ext ts us L
        have hb:∀ k T,findT k L=some T→∃ T',findT k (meetT ts us L)=some T'∧T'.b=T.b:=fun k T hT=>by obtain ⟨T',q1,q2,_⟩:=hme.old k T hT;exact ⟨T',q1,q2⟩
        have ham:At ds1 G1 W (meetS (asg b) l vs s) (meetT ts us L) R' Φ' a1 w1:=⟨by rw [meetS_fr ha.wf hb];exact hs1,meetS_wf ha.wf hb,hme.ids ha.ids,hc1,hst1⟩
        refine ih (fun hh=>hrd hh) (h2 R' Φ' n hst1 hI) ham ?_
        intro e s' L' R'' Φ'' a' w' ds2 G2 hq htie2 ha' he hu
        have htie:=htie1.trans htie2
        rw [meetS_fr ha.wf hb] at hu
        have hu':Unch (fun t=>t∈asg b) (s.fr L) (s'.fr L'):=Unch.trans (meet_unch (fun v hv'=>(hv v hv').1)) hu
        have he':Ext L L':=hme.trans he
        cases e with
        | normal =>
          simp only [Exit.then]
          simp only at hq
          split at hq
          · rename_i hsub
            simp only [Bool.and_eq_true] at hsub
            obtain ⟨R2,Φ2,n2,hst2,hw2,hj,hlt⟩:=hq
            obtain ⟨I2,hI2⟩:=holdsI_some hj
            obtain ⟨_,_,hk2,_⟩:=all_append (slotsOf_len l _) h1 hI2
            have hsim:=meet_sim (s:=s.fr L) ha'.sim hu' (fun i=>knownAll_spec hsub.1) rfl hk2
            have hrel:Rel n2 a' w':=⟨_,_,_,_,R2,Φ2,htie,slotsOf_len l _,hst2,hj,hsim,hw2 w' _ (CtxS.meet ha'.st ha'.ctx he' ha.ids hsub.2)⟩
            obtain ⟨k,_,hmk,hkn⟩:=hmu a' w' n2 hrel
            exact ⟨⟨n2,hrel⟩,by rw [hmk];omega⟩
          · exact hq.elim
        | exit n=>exact hQ _ _ _ _ _ _ _ _ _ hq htie ha' he' hu'
        | goto n=>exact hQ _ _ _ _ _ _ _ _ _ hq htie ha' he' hu'
        | ret=>exact hQ _ _ _ _ _ _ _ _ _ hq htie ha' he' hu'
        | panic n=>exact hQ _ _ _ _ _ _ _ _ _ hq htie ha' he' hu'
        | outgrown=>exact hQ _ _ _ _ _ _ _ _ _ hq htie ha' he' hu'
      · exact h.elim
  | exit id=>intro rd Q' Q s L R Φ a w ds G hrd h ha hQ;exact wpIn_exit (hQ _ _ _ _ _ _ _ _ _ h (Tie.refl _ _ _) ha (Ext.refl _) (Unch.refl _ _))
  | ret=>intro rd Q' Q s L R Φ a w ds G hrd h ha hQ;exact wpIn_ret (hQ _ _ _ _ _ _ _ _ _ h (Tie.refl _ _ _) ha (Ext.refl _) (Unch.refl _ _))
  | rangeFunc g ps x y ihx ihy =>
    intro rd Q' Q s L R Φ a w ds G hrd h ha hQ
    cases rd with
    | some l=>have:=hrd rfl;cases this
    | none =>
    simp only [vcS] at h
    split at h
    · rename_i gf cs lb hg
      split at h
      · exact h.elim
      · rename_i l ts hl
        split at h
        · rename_i hok
          simp only [Bool.and_eq_true] at hok
          obtain ⟨⟨⟨hps,hrx⟩,hry⟩,hts⟩:=hok
          obtain ⟨hcs,hfn,N,xs,X,A,I,hit,hfit,⟨R0,Φ0,hst0,hw0,h0⟩,h1⟩:=h
          subst hcs
          have hge:a.eval g=.func (.func gf) #[] lb:=by rw [ha.sim.eval (by rw [fr_eval,hg];rfl),fr_eval,hg]
          have hme:∀ us,Ext L (meetT ts us L):=fun us=>meetT_ext ts us L
          have hpl:=sameN_eq hps
          have hst:=ha.st
          have hss:sameT ts L L=true:=by
            have key:∀ M:List Tr,(∀ T∈M,T∈L)→sameT ts L M=true:=by
              intro M
              induction M with
              | nil=>intro _;rfl
              | cons T r ihr =>
                intro hM
                unfold sameT
                cases memB T.id (ts.map (·.1)) with
                | true=>exact ihr fun U hU=>hM U (List.mem_cons_of_mem _ hU)
                | false =>
                  rw [findT_mem ha.ids (hM T (by simp))]
                  simp only [show Nat.beq T.ver T.ver=true by simp]
                  exact ihr fun U hU=>hM U (List.mem_cons_of_mem _ hU)
            exact key L fun _ h=>h
          let Inv:=fun (k:Nat) (Gx:List Own) (w1:World)=>∃ us R' Φ',Stable Φ'∧holdsI (Cur.app ts I us) R' Φ' k∧CtxS Gx W w1 (meetT ts us L) R' Φ'
          have fits:∀ k,k<N→∃ A',Cur.app l A (xs k)=some A':=fun k hk=>by
            have:=hfit k hk
            unfold holdsA at this
            split at this
            · rename_i A' e;exact ⟨A',e⟩
            · exact this.elim
          have len:∀ k,k<N→(xs k).length=l.length:=fun k hk=>by
            obtain ⟨A',e⟩:=fits k hk
            exact Cur.app_len e
          refine wp_range (W:=W) (G:=G) hge (enter_ok hfn) hit (fun k hk=>by rw [List.size_toArray,len k hk,←Array.length_toList,←hpl,List.length_map]) Inv ?_ ?_ ?_ ?_ ?_
          · rintro k Gx w1 ⟨us,R',Φ',hs,hi,c⟩
            refine ⟨R'++(meetT ts us L).map Tr.own,Φ',hs,by rw [List.append_assoc];exact c,fun w2 Gy c2=>⟨us,R',Φ',hs,hi,by rw [List.append_assoc] at c2;exact c2⟩⟩
          · rintro k Gx w1 ⟨us,R',Φ',hs,hi,c⟩
            obtain ⟨I',hI'⟩:=holdsI_some hi
            exact ((Cur.app_all hI' h1).1 R' Φ' k hs hi).1 _ _ c
          · exact ⟨_,R0,Φ0,hst0,h0,CtxS.meet hst0 (hw0 w _ ha.ctx) (Ext.refl L) ha.ids hss⟩
          · rintro lp k Gx w1 hk ⟨us,R',Φ',hs,hi,c⟩
            obtain ⟨I',hI'⟩:=holdsI_some hi
            obtain ⟨A',hA'⟩:=fits k hk
            have h2:=((Cur.app_all hI' h1).1 R' Φ' k hs hi).2.1 hk
            have h3:=(Cur.app_all hA' h2).1 (hfit k hk)
            have ham:At [] Gx W (putsS l (xs k) s) (meetT ts us L) R' Φ' { tmps:=(ps.zip (xs k).toArray).foldl (fun t (p,v)=>t.setIfInBounds p v) a.tmps,defers:=[] } w1:=by
              obtain ⟨q1,q2⟩:=putsS_sim (L:=meetT ts us L) (l:=l) (vs:=xs k) (s:=s) (a:={ a with defers:=[] }) ⟨rfl,(by rw [ha.wf.fr (hme us)];exact ha.sim.size),fun i hi=>(by rw [ha.wf.fr (hme us)] at hi ⊢;exact ha.sim.slot i hi)⟩ (ha.wf.ext (hme us))
              refine ⟨?_,q2,(hme us).ids ha.ids,c,hs⟩
              rw [hpl] at q1
              rw [←Array.foldl_toList,Array.toList_zip]
              exact q1
            refine ihx (rd:=some lp) (fun _=>hrx) h3 ham ?_
            intro e s1 L1 R1 Φ1 a1 w2 ds1 G1 hq htie ha1 he1 _
            cases e with
            | normal =>
              obtain ⟨Z,hZ,rfl,rfl⟩:=htie
              have hZ:=hZ rfl
              subst hZ
              refine ⟨R1++L1.map Tr.own,Φ1,ha1.st,by rw [List.append_assoc];exact ha1.ctx,fun w3 Gx3 c3=>?_⟩
              have ha3:At [] Gx3 W s1 L1 R1 Φ1 a1 w3:=⟨ha1.sim,ha1.wf,ha1.ids,by rw [List.append_assoc] at c3;exact c3,ha1.st⟩
              refine ihy (rd:=some lp) (fun _=>hry) hq ha3 ?_
              intro e s2 L2 R2 Φ2 a2 w4 ds2 G2 hq2 htie2 ha2 he2 _
              cases e with
              | normal =>
                obtain ⟨Z,hZ,rfl,rfl⟩:=htie2
                have hZ:=hZ rfl
                subst hZ
                simp only at hq2
                split at hq2
                · rename_i hsub
                  obtain ⟨R3,Φ3,hst3,hw3,hj⟩:=hq2
                  exact ⟨rfl,_,R3,Φ3,hst3,hj,hw3 w4 _ (CtxS.meet ha2.st ha2.ctx (((hme us).trans he1).trans he2) ha.ids hsub)⟩
                · exact hq2.elim
              | _=>exact hq2.elim
            | _=>exact hq.elim
          · rintro D w' ⟨us,R',Φ',hs,hi,c⟩
            obtain ⟨I',hI'⟩:=holdsI_some hi
            have h2:=((Cur.app_all hI' h1).1 R' Φ' N hs hi).2.2 rfl
            refine hQ _ _ _ _ _ _ _ (mark D :: ds) (markO D :: G) h2 ⟨[D],fun hh=>(by cases hh),rfl,rfl⟩ ⟨?_,ha.wf.ext (hme us),(hme us).ids ha.ids,c,hs⟩ (hme us) (by rw [ha.wf.fr (hme us)];exact Unch.refl _ _)
            rw [ha.wf.fr (hme us)]
            exact ⟨by simp [ha.sim.defers],ha.sim.size,ha.sim.slot⟩
        · exact h.elim
    · exact h.elim
  | scope b ih =>
    intro rd Q' Q s L R Φ a w ds G hrd h ha hQ
    simp only [vcS] at h
    refine wpIn_scope (ih (fun hh=>by have:=hrd hh;cases this) h ha ?_)
    intro e s' L' R' Φ' a' w' ds1 G1 hq htie ha' he hu
    cases e with
    | goto n=>exact hq.elim
    | normal=>exact hQ _ _ _ _ _ _ _ _ _ hq htie ha' he hu
    | exit n=>exact hQ _ _ _ _ _ _ _ _ _ hq htie ha' he hu
    | ret=>exact hQ _ _ _ _ _ _ _ _ _ hq htie ha' he hu
    | panic n=>exact hQ _ _ _ _ _ _ _ _ _ hq htie ha' he hu
    | outgrown=>exact hQ _ _ _ _ _ _ _ _ _ hq htie ha' he hu
  | label l=>intro rd Q' Q s L R Φ a w ds G hrd h ha hQ;exact wpIn_label (hQ _ _ _ _ _ _ _ _ _ h (Tie.refl _ _ _) ha (Ext.refl _) (Unch.refl _ _))
  | goto l=>intro rd Q' Q s L R Φ a w ds G hrd h;exact h.elim
  | refuse why=>intro rd Q' Q s L R Φ a w ds G hrd h;exact h.elim
theorem resS_sound {P:Program} {W:World} {s:FrS} {L:List Tr} {R:List Own} {Φ:PW} {a:Act} {w:World} (ha:At ds G W s L R Φ a w):∀ {l:List ResultVar} {K:List Value→Prop},resS P W s L R Φ l K →
    ∃ vs,(l.mapM fun r=>(match r with | .tmp t=>pure (a.tmps.getD t undef) | .cell x t=>(do loadVar t (←asAddr (a.tmps.getD x undef)):Sem Value):Sem Value)).run P w=.ok vs w∧K vs
  | [],K,h=>⟨[],by simp,h⟩
  | .tmp t :: r,K,h=>by
    unfold resS at h
    split at h
    · exact h.elim
    · rename_i hu
      obtain ⟨vs,h1,h2⟩:=resS_sound ha h
      refine ⟨_,?_,h2⟩
      have e:(s.fr L).get t=(getS t s.l).val L:=getL_val L t s.l
      rw [List.mapM_cons]
      simp only [Sem.run_bind,Sem.run_pure,Result.andThen,h1,ha.sim.slot t (by rw [e];exact hu),e]
  | .cell x t :: r,K,h=>by
    unfold resS at h
    have e:(s.fr L).get x=(getS x s.l).val L:=getL_val L x s.l
    have done:∀ {b o:Nat} {K2:Value→Prop} {v:Value},(getS x s.l).val L=.pointer (some ⟨b,o,none⟩)→(loadVar t ⟨b,o,none⟩).run P w=.ok v w→(resS P W s L R Φ r fun vs=>K (v :: vs)) →
        ∃ vs,(((ResultVar.cell x t) :: r).mapM fun r=>(match r with | .tmp t=>pure (a.tmps.getD t undef) | .cell x t=>(do loadVar t (←asAddr (a.tmps.getD x undef)):Sem Value):Sem Value)).run P w=.ok vs w∧K vs:=by
      intro b o K2 v hv hl hk
      obtain ⟨vs,h3,h4⟩:=resS_sound ha hk
      refine ⟨_,?_,h4⟩
      rw [List.mapM_cons]
      have hx':a.tmps.getD x undef=.pointer (some ⟨b,o,none⟩):=by rw [ha.sim.slot x (by rw [e,hv];rfl),e,hv]
      have hra:(asAddr (a.tmps.getD x undef)).run P w=.ok ⟨b,o,none⟩ w:=by rw [hx'];rfl
      simp only [Sem.run_bind,Sem.run_pure,Result.andThen,hra,hl,h3]
    split at h
    · rename_i k off hx
      have hw:=ha.wf
      obtain ⟨T,hT⟩:=Option.isSome_iff_exists.1 (WfS.ev (x:=.tmp x) hw (show s.ev (.tmp x)=.ptr k off from hx))
      obtain ⟨v,h1,h2⟩:=loadT_sound hT (ha.ctx.blk hT) h
      exact done (K2:=fun _=>True) (by rw [hx,val_ptr hT]) (h1 w rfl) h2
    · rename_i b o hx
      obtain ⟨v,h1,h2⟩:=vcLoadG_sound (h w _ ha.ctx)
      exact done (K2:=fun _=>True) (by rw [hx];rfl) (h1 trivial w rfl) h2
    · exact h.elim
theorem argS_val (L:List Tr):∀ (l:List Value) (i:Nat),valL L (argS i l)=argSlots i l
  | [],_=>rfl
  | v :: r,i=>by simp only [argS,argSlots,valL,argS_val L r (i+1),SV.val]
theorem vcFS_sound {P:Program} {W w:World} {H:HS} {f:FuncId} {args:Array Value} {R:List Own} {Φ:PW} [hst:Stable Φ] {J:Value→World→Prop} (h:vcFS P W H f args R Φ J) (c:Ctx W w R Φ) :
    Calls P f args w fun e w'=>∃ v,e=.returned v∧J v w':=by
  unfold vcFS at h
  split at h
  · rename_i fn hf
    split at h
    · rename_i code hc
      have hwf:WfS [] (⟨max fn.ntmps args.size,argS 0 args.toList⟩:FrS):=by
        have key:∀ (l:List Value) (i:Nat),∀ p∈argS i l,∃ v,p.2=SV.v v:=by
          intro l
          induction l with
          | nil=>intro i p hp;cases hp
          | cons v r ih =>
            intro i p hp
            rcases List.mem_cons.1 hp with rfl|hp
            · exact ⟨v,rfl⟩
            · exact ih _ p hp
        intro p hp k o e
        obtain ⟨v,hv⟩:=key _ _ p hp
        rw [hv] at e;cases e
      have hfr:(⟨max fn.ntmps args.size,argS 0 args.toList⟩:FrS).fr []=frameOf fn args:=by simp only [FrS.fr,frameOf,argS_val]
      have hat:At [] [] W (⟨max fn.ntmps args.size,argS 0 args.toList⟩:FrS) [] R Φ { tmps:=args++Array.replicate (fn.ntmps - args.size) undef,defers:=[] } w :=
        ⟨by rw [hfr];exact frameOf_sim fn args,hwf,by simp,by simpa [CtxS] using c,hst⟩
      refine (callsIn_wide (n:=0)).1 (callsIn_of_wp_marks (F:=fenceAt none) hf hc trivial (vcS_sound (rd:=none) code (fun hh=>(by cases hh)) h hat ?_))
      intro e s L' R' Φ' a w' ds' G' hq htie ha _ _
      obtain ⟨Z,_,rfl,rfl⟩:=htie
      have key:(resS P W s L' R' Φ' fn.results.toList fun vs=>∀ w F,Ctx W w (R'++F) Φ'→J (tupled vs) w)→bodyPostM (fenceAt none) 0 P fn (fun e w'=>∃ v,e=.returned v∧J v w') .ret a w':=by
        intro hq
        show LeavesInM Fence.wide 0 P fn a.tmps _ a.defers .returning w'
        have:=ha.st
        rw [ha.sim.defers,List.append_nil]
        refine leaves_marks (Φ:=Φ') Z (R'++L'.map Tr.own) w' (by have:=ha.ctx;rw [List.append_nil] at this;rw [List.append_assoc];exact this) fun w2 S2 c2=>?_
        rw [List.append_assoc] at c2
        have ha2:At (Z.map mark++[]) S2 W s L' R' Φ' a w2:=⟨ha.sim,ha.wf,ha.ids,c2,ha.st⟩
        obtain ⟨vs,h1,h2⟩:=resS_sound ha2 hq
        refine ⟨tupled vs,?_,tupled vs,rfl,h2 w2 _ c2⟩
        unfold results
        rw [Array.mapM_eq_mapM_toList,map_eq_pure_bind,Sem.run_bind,Sem.run_bind]
        have e:∀ (r:Result (List Value)),r=.ok vs w2→(((r.andThen fun a=>(pure a.toArray:Sem (Array Value)).run P).andThen fun vs=>(pure (if h:vs.size=1 then vs[0] else Value.tuple vs):Sem Value).run P))=.ok (tupled vs) w2:=by
          intro r hr
          subst hr
          simp only [Result.andThen,Sem.run_pure,tupled_run]
        exact e _ h1
      cases e with
      | normal=>exact key hq
      | ret=>exact key hq
      | _=>exact hq.elim
    · exact h.elim
  · exact h.elim
end Go.Vc
end

section
namespace Go.Proofs.YtfccagphnfceiaaGreatDoor
set_option maxRecDepth 100000
open Go.Vc
abbrev F.erratalaw44_CommitOnce:Nat:=4
abbrev F.erratalaw44_small:Nat:=8
abbrev F.errataref44_Few:Nat:=9
abbrev F.sink_New:Nat:=11
abbrev F.disk_New:Nat:=12
abbrev F.commit_Open:Nat:=13
abbrev F.errataref44_Batch:Nat:=14
abbrev F.errataref44_Lines:Nat:=15
abbrev F.disk_Disk_Arm:Nat:=16
abbrev F.erratalaw44_does:Nat:=17
abbrev F.erratalaw44_again:Nat:=18
abbrev F.commit_Coordinator_Recover:Nat:=19
abbrev F.sink_Sink_Last:Nat:=20
abbrev F.commit_Coordinator_Last:Nat:=21
abbrev F.sink_Sink_Lines:Nat:=22
abbrev F.commit_Coordinator_Check:Nat:=23
abbrev F.commit_Coordinator_Phase:Nat:=24
abbrev F.errataref43_SameLines:Nat:=25
abbrev F.sink_Sink_List:Nat:=26
abbrev F.erratalaw44_steps:Nat:=27
abbrev F.disk_Disk_Crash:Nat:=28
abbrev F.disk_Disk_Start:Nat:=29
abbrev F.erratalaw44_disky:Nat:=30
abbrev F.disk_Disk_Lose:Nat:=31
abbrev F.erratalaw44_kindOf:Nat:=32
abbrev F.erratalaw44_story_follow:Nat:=33
abbrev F.erratalaw44_story_fits:Nat:=34
abbrev F.cell_Open:Nat:=36
abbrev F.cell_Cell_Set:Nat:=38
abbrev F.commit_Coordinator_Decide:Nat:=44
abbrev F.commit_Coordinator_Finish:Nat:=45
abbrev F.commit_Coordinator_Abort:Nat:=46
abbrev F.commit_Coordinator_Prepare:Nat:=47
abbrev F.commit_Coordinator_Begin:Nat:=55
abbrev F.erratalaw44_line:Nat:=56
abbrev F.errataref43_Few:Nat:=57
abbrev F.sink_Sink_Deliver:Nat:=58
abbrev F.slices_Min_int_int:Nat:=59
abbrev F.slices_Clone_int_int:Nat:=60
abbrev F.disk_Disk_Sync:Nat:=61
abbrev F.cell_Cell_Get:Nat:=62
abbrev F.commit_read:Nat:=63
abbrev F.errataref43_Clone:Nat:=64
abbrev F.errataref03_Same:Nat:=65
abbrev F.sink_clone:Nat:=66
abbrev F.disk_put:Nat:=67
abbrev F.disk_Disk_Read:Nat:=68
abbrev F.disk_Disk_Write:Nat:=71
abbrev F.cell_header:Nat:=72
abbrev F.commit_cloned:Nat:=77
abbrev F.wire_Int:Nat:=78
abbrev F.commit_Coordinator_step:Nat:=81
abbrev F.commit_Coordinator_Decide_1:Nat:=82
abbrev F.commit_Coordinator_Finish_1:Nat:=83
abbrev F.sink_Sink_Kind:Nat:=84
abbrev F.commit_Coordinator_commit:Nat:=85
abbrev F.commit_Coordinator_deliver:Nat:=86
abbrev F.commit_Coordinator_Abort_1:Nat:=87
abbrev F.sink_Sink_Prepared:Nat:=88
abbrev F.sink_Sink_Abort:Nat:=89
abbrev F.sink_Sink_Prepare:Nat:=90
abbrev F.sink_Sink_Copy:Nat:=91
abbrev F.commit_Coordinator_Begin_1:Nat:=102
abbrev F.slices_ContainsFunc_api_Line_api_Line:Nat:=103
abbrev F.commit_Coordinator_Begin_1_1:Nat:=104
abbrev F.value_RightRow:Nat:=105
abbrev F.sink_Sink_Has:Nat:=106
abbrev F.sink_Sink_look:Nat:=107
abbrev F.sink_Sink_take:Nat:=108
abbrev F.disk_Disk_ends:Nat:=109
abbrev F.disk_Disk_may:Nat:=110
abbrev F.disk_Disk_settle:Nat:=111
abbrev F.wire_Open:Nat:=112
abbrev F.wire_Reader_Int:Nat:=113
abbrev F.wire_Reader_Text:Nat:=114
abbrev F.wire_Reader_Num:Nat:=115
abbrev F.wire_Reader_Left:Nat:=116
abbrev F.value_ReadRow:Nat:=117
abbrev F.wire_Reader_Done:Nat:=118
abbrev F.commit_state_form:Nat:=119
abbrev F.errataref03_CompareRows:Nat:=120
abbrev F.slices_Clone_api_Line_api_Line:Nat:=121
abbrev F.slices_Clone_api_Value_api_Value:Nat:=122
abbrev F.disk_Disk_write:Nat:=125
abbrev F.strconv_Itoa:Nat:=138
abbrev F.strings_Builder_WriteString:Nat:=140
abbrev F.wire_Num:Nat:=141
abbrev F.wire_Text:Nat:=142
abbrev F.value_RowBytes:Nat:=143
abbrev F.strings_Builder_String:Nat:=144
abbrev F.sink_Sink_Commit:Nat:=145
abbrev F.slices_IndexFunc_api_Line_api_Line:Nat:=159
abbrev F.value_all:Nat:=160
abbrev F.slices_BinarySearch_int_int:Nat:=161
abbrev F.slices_ContainsFunc_int_int:Nat:=162
abbrev F.sink_Sink_look_1:Nat:=163
abbrev F.slices_DeleteFunc_disk_sector_disk_sector:Nat:=164
abbrev F.disk_Disk_settle_1:Nat:=165
abbrev F.maps_DeleteFunc_map_disk_sectorbool_disk_sector_bool:Nat:=166
abbrev F.disk_Disk_settle_2:Nat:=167
abbrev F.wire_Reader_number:Nat:=168
abbrev F.wire_Reader_fail:Nat:=169
abbrev F.wire_Reader_close:Nat:=170
abbrev F.value_take:Nat:=171
abbrev F.errataref03_Compare:Nat:=172
abbrev F.strings_Builder_copyCheck:Nat:=180
abbrev F.value_Bytes:Nat:=181
abbrev F.slices_ContainsFunc_api_Value_api_Value:Nat:=188
abbrev F.value_all_1:Nat:=189
abbrev F.value_Right:Nat:=190
abbrev F.cmp_Less_int:Nat:=191
abbrev F.slices_isNaN_int:Nat:=192
abbrev F.slices_IndexFunc_int_int:Nat:=193
abbrev F.slices_IndexFunc_disk_sector_disk_sector:Nat:=194
abbrev F.strings_IndexByte:Nat:=195
abbrev F.strconv_Atoi:Nat:=196
abbrev F.strings_CutPrefix:Nat:=197
abbrev F.slices_IndexFunc_api_Value_api_Value:Nat:=203
abbrev F.value_Int:Nat:=204
abbrev F.value_Text:Nat:=205
abbrev F.value_Bool:Nat:=206
abbrev F.cmp_isNaN_int:Nat:=207
def Bslices_Clone_api_Value_api_Value (sP:Option Addr) (sN sC:Nat) (W:World) (R:List Own) (Φ:PW) (J:Value→World→Prop):Prop :=
  Br sP.isNone (∀ w0 R1,Ctx W w0 (R++R1) Φ→J (.slice none 0 0) w0) (∀ (k2:Nat) (w3:World) (R4:List Own),Ctx W w3 (Own.blk k2 [] 147 :: R++R4) Φ→∃ (p5:Option Addr) (k6 k7:Nat) (w8:World),Sem.run Tryz.prog (builtin Builtin.append #[29,29] 29 #[false,false] #[.slice (some (Addr.mk k2 0 none)) 0 0,.slice sP sN sC]) w3=.ok (.value (.slice p5 k6 k7)) w8∧∃ R9 Φ10,Stable Φ10∧Ctx W w8 (R9++R4) Φ10∧∀ w11 R12,Ctx W w11 (R9++R12) Φ10→J (.slice p5 k6 k7) w11)
theorem Bslices_Clone_api_Value_api_Value_run (sP:Option Addr) (sN sC:Nat) {W w:World} {R:List Own} {Φ:PW} [Stable Φ] {J:Value→World→Prop} (c:Ctx W w R Φ) (h:Bslices_Clone_api_Value_api_Value sP sN sC W R Φ J):Calls Tryz.prog F.slices_Clone_api_Value_api_Value #[.slice sP sN sC] w fun e w'=>∃ v,e=.returned v∧J v w' :=
  vcFS_sound (H:={ keep:=some [0,2,4] }) (by rw [show vcFS Tryz.prog W { keep:=some [0,2,4] } F.slices_Clone_api_Value_api_Value #[.slice sP sN sC] R Φ J=Bslices_Clone_api_Value_api_Value sP sN sC W R Φ J by kernel_rfl];exact h) c
end Go.Proofs.YtfccagphnfceiaaGreatDoor
end

section
namespace Go.Proofs.YtfccagphnfceiaaGreatDoor
set_option maxRecDepth 100000
open Go.Vc
def Bwire_Int (n:Int) (W:World) (R:List Own) (Φ:PW) (J:Value→World→Prop):Prop :=
  ∀ w0 R1,Ctx W w0 (R++R1) Φ→Calls Tryz.prog F.strconv_Itoa #[.int .i64 n] w0 fun e2 w3=>∃ s4,e2=.returned (.string s4)∧∃ R5 Φ6,Stable Φ6∧Ctx W w3 (R5++R1) Φ6∧(s4.size+(ByteArray.mk #[OfNat.ofNat 59]).size).le 9223372036854775807∧∀ w7 R8,Ctx W w7 (R5++R8) Φ6→J (.string (s4++ByteArray.mk #[OfNat.ofNat 59])) w7
theorem Bwire_Int_run (n:Int) {W w:World} {R:List Own} {Φ:PW} [Stable Φ] {J:Value→World→Prop} (c:Ctx W w R Φ) (h:Bwire_Int n W R Φ J):Calls Tryz.prog F.wire_Int #[.int .i64 n] w fun e w'=>∃ v,e=.returned v∧J v w' :=
  vcFS_sound (H:={ keep:=some [0,2] }) (by rw [show vcFS Tryz.prog W { keep:=some [0,2] } F.wire_Int #[.int .i64 n] R Φ J=Bwire_Int n W R Φ J by kernel_rfl];exact h) c
def Bwire_Open (s:ByteArray) (W:World) (R:List Own) (Φ:PW) (J:Value→World→Prop):Prop :=
  ∀ (k0:Nat) (w1:World) (R2:List Own),Ctx W w1 (Own.blk k0 [.string s,.bool false] 186 :: R++R2) Φ→J (.pointer (some (Addr.mk k0 0 none))) w1
theorem Bwire_Open_run (s:ByteArray) {W w:World} {R:List Own} {Φ:PW} [Stable Φ] {J:Value→World→Prop} (c:Ctx W w R Φ) (h:Bwire_Open s W R Φ J):Calls Tryz.prog F.wire_Open #[.string s] w fun e w'=>∃ v,e=.returned v∧J v w' :=
  vcFS_sound (H:={ keep:=some [0,2] }) (by rw [show vcFS Tryz.prog W { keep:=some [0,2] } F.wire_Open #[.string s] R Φ J=Bwire_Open s W R Φ J by kernel_rfl];exact h) c
def Bwire_Reader_Int (rB rO:Nat) (W:World) (R:List Own) (Φ:PW) (J:Value→World→Prop):Prop :=
  ∀ w0 R1,Ctx W w0 (R++R1) Φ→Calls Tryz.prog F.wire_Reader_number #[.pointer (some (Addr.mk rB rO none)),.int IntKind.u8 59,.int .i64 (-9223372036854775808)] w0 fun e2 w3=>∃ n4,e2=.returned (.int .i64 n4)∧∃ R5 Φ6,Stable Φ6∧Ctx W w3 (R5++R1) Φ6∧∀ w7 R8,Ctx W w7 (R5++R8) Φ6→J (.int .i64 n4) w7
theorem Bwire_Reader_Int_run (rB rO:Nat) {W w:World} {R:List Own} {Φ:PW} [Stable Φ] {J:Value→World→Prop} (c:Ctx W w R Φ) (h:Bwire_Reader_Int rB rO W R Φ J):Calls Tryz.prog F.wire_Reader_Int #[.pointer (some ⟨rB,rO,none⟩)] w fun e w'=>∃ v,e=.returned v∧J v w' :=
  vcFS_sound (H:={ keep:=some [0,2] }) (by rw [show vcFS Tryz.prog W { keep:=some [0,2] } F.wire_Reader_Int #[.pointer (some ⟨rB,rO,none⟩)] R Φ J=Bwire_Reader_Int rB rO W R Φ J by kernel_rfl];exact h) c
def Bwire_Reader_Text (rB rO:Nat) (W:World) (R:List Own) (Φ:PW) (J:Value→World→Prop):Prop :=
  ∀ w0 R1,Ctx W w0 (R++R1) Φ→Calls Tryz.prog F.wire_Reader_number #[.pointer (some (Addr.mk rB rO none)),.int IntKind.u8 58,.int .i64 0] w0 fun e2 w3=>∃ n4,e2=.returned (.int .i64 n4)∧∃ R5 Φ6,Stable Φ6∧Ctx W w3 (R5++R1) Φ6∧∀ w7 R8,Ctx W w7 (R5++R8) Φ6→∃ s9,w7.cell? (Addr.mk rB rO none)=some (.string s9)∧Br (decide ((↑s9.size:Int)<n4)) (∀ w10 R11,Ctx W w10 (R5++R11) Φ6→Calls Tryz.prog F.wire_Reader_fail #[.pointer (some (Addr.mk rB rO none))] w10 fun e12 w13=>e12=.returned (Value.tuple #[])∧∃ R14 Φ15,Stable Φ15∧Ctx W w13 (R14++R11) Φ15∧∀ w16 R17,Ctx W w16 (R14++R17) Φ15→J (.string (ByteArray.mk #[])) w16) (∀ w18 R19,Ctx W w18 (R5++R19) Φ6→∃ s20,w18.cell? (Addr.mk rB rO none)=some (.string s20)∧(0≤n4∧n4≤(↑s20.size:Int))∧∀ w21 R22,Ctx W w21 (R5++R22) Φ6→∃ s23,w21.cell? (Addr.mk rB rO none)=some (.string
  s23)∧(0≤n4∧n4≤(↑s23.size:Int)∧s23.size≤s23.size)∧∀ w24 R25,Ctx W w24 (R5++R25) Φ6→CanWrite w24 rB rO 1∧∀ (w26:World),w26=w24.setCell (Addr.mk rB rO none) (Value.string (s23.extract n4.toNat s23.size))→∃ R27 Φ28,Stable Φ28∧Ctx W w26 (R27++R25) Φ28∧∀ w29 R30,Ctx W w29 (R27++R30) Φ28→Calls Tryz.prog F.wire_Reader_close #[.pointer (some (Addr.mk rB rO none)),Value.string (ByteArray.mk #[OfNat.ofNat 44])] w29 fun e31 w32=>e31=.returned (Value.tuple #[])∧∃ R33 Φ34,Stable Φ34∧Ctx W w32 (R33++R30) Φ34∧∀ w35 R36,Ctx W w35 (R33++R36) Φ34→∃ c37,w35.cell? (Addr.mk rB (rO+1) none)=some (.bool c37)∧Br c37 (∀ w38 R39,Ctx W w38 (R33++R39) Φ34→J (.string (ByteArray.mk #[])) w38) (∀ w40 R41,Ctx W w40 (R33++R41) Φ34→J (.string (s20.extract 0 n4.toNat)) w40))
theorem Bwire_Reader_Text_run (rB rO:Nat) {W w:World} {R:List Own} {Φ:PW} [Stable Φ] {J:Value→World→Prop} (c:Ctx W w R Φ) (h:Bwire_Reader_Text rB rO W R Φ J):Calls Tryz.prog F.wire_Reader_Text #[.pointer (some ⟨rB,rO,none⟩)] w fun e w'=>∃ v,e=.returned v∧J v w' :=
  vcFS_sound (H:={ keep:=some [0,2,3,4,13,36] }) (by rw [show vcFS Tryz.prog W { keep:=some [0,2,3,4,13,36] } F.wire_Reader_Text #[.pointer (some ⟨rB,rO,none⟩)] R Φ J=Bwire_Reader_Text rB rO W R Φ J by kernel_rfl];exact h) c
def Bwire_Reader_Num (rB rO:Nat) (W:World) (R:List Own) (Φ:PW) (J:Value→World→Prop):Prop :=
  ∀ w0 R1,Ctx W w0 (R++R1) Φ→Calls Tryz.prog F.wire_Reader_number #[.pointer (some (Addr.mk rB rO none)),.int IntKind.u8 59,.int .i64 0] w0 fun e2 w3=>∃ n4,e2=.returned (.int .i64 n4)∧∃ R5 Φ6,Stable Φ6∧Ctx W w3 (R5++R1) Φ6∧∀ w7 R8,Ctx W w7 (R5++R8) Φ6→J (.int .i64 n4) w7
theorem Bwire_Reader_Num_run (rB rO:Nat) {W w:World} {R:List Own} {Φ:PW} [Stable Φ] {J:Value→World→Prop} (c:Ctx W w R Φ) (h:Bwire_Reader_Num rB rO W R Φ J):Calls Tryz.prog F.wire_Reader_Num #[.pointer (some ⟨rB,rO,none⟩)] w fun e w'=>∃ v,e=.returned v∧J v w' :=
  vcFS_sound (H:={ keep:=some [0,2] }) (by rw [show vcFS Tryz.prog W { keep:=some [0,2] } F.wire_Reader_Num #[.pointer (some ⟨rB,rO,none⟩)] R Φ J=Bwire_Reader_Num rB rO W R Φ J by kernel_rfl];exact h) c
def Bwire_Reader_Left (rB rO:Nat) (W:World) (R:List Own) (Φ:PW) (J:Value→World→Prop):Prop :=
  ∀ w0 R1,Ctx W w0 (R++R1) Φ→∃ s2,w0.cell? (Addr.mk rB rO none)=some (.string s2)∧∀ w3 R4,Ctx W w3 (R++R4) Φ→J (.int .i64 (↑s2.size:Int)) w3
theorem Bwire_Reader_Left_run (rB rO:Nat) {W w:World} {R:List Own} {Φ:PW} [Stable Φ] {J:Value→World→Prop} (c:Ctx W w R Φ) (h:Bwire_Reader_Left rB rO W R Φ J):Calls Tryz.prog F.wire_Reader_Left #[.pointer (some ⟨rB,rO,none⟩)] w fun e w'=>∃ v,e=.returned v∧J v w' :=
  vcFS_sound (H:={ keep:=some [0,2] }) (by rw [show vcFS Tryz.prog W { keep:=some [0,2] } F.wire_Reader_Left #[.pointer (some ⟨rB,rO,none⟩)] R Φ J=Bwire_Reader_Left rB rO W R Φ J by kernel_rfl];exact h) c
def Bvalue_ReadRow (s:ByteArray) (W:World) (R:List Own) (Φ:PW) (J:Value→World→Prop):Prop :=
  ∀ w0 R1,Ctx W w0 (R++R1) Φ→Calls Tryz.prog F.wire_Open #[.string s] w0 fun e2 w3=>∃ p4,e2=.returned (.pointer p4)∧∃ R5 Φ6,Stable Φ6∧Ctx W w3 (R5++R1) Φ6∧∀ w7 R8,Ctx W w7 (R5++R8) Φ6→Calls Tryz.prog F.wire_Reader_Num #[.pointer p4] w7 fun e9 w10=>∃ n11,e9=.returned (.int .i64 n11)∧∃ R12 Φ13,Stable Φ13∧Ctx W w10 (R12++R8) Φ13∧exI fun (I14:Option Addr→Nat→Nat→Int→List Own→PW→Nat→Prop)=>(∃ R15 Φ16 k17,Stable Φ16∧Wk W R12 Φ13 R15 Φ16∧I14 none 0 0 n11 R15 Φ16 k17)∧∀ p20 k21 k22 n23 R24 I25 k26,Stable I25→I14 p20 k21 k22 n23 R24 I25 k26→Br (decide (0<n23)) (∀ w27 R28,Ctx W w27 (R24++R28) I25→Calls Tryz.prog F.wire_Reader_Left #[.pointer p4] w27 fun e29 w30=>∃ n31,e29=.returned (.int .i64 n31)∧∃ R32 Φ33,Stable Φ33∧Ctx W w30 (R32++R28) Φ33∧Br (decide (n31=0)) (∀ w34 R35,Ctx W w34 (R32++R35) Φ33→J
  (Value.tuple #[.slice none 0 0,.bool false]) w34) (∀ w36 R37,Ctx W w36 (R32++R37) Φ33→Calls Tryz.prog F.value_take #[.pointer p4] w36 fun e38 w39=>∃ n40 n41 s42,e38=.returned (Value.agg #[.int .i64 n40,.int .i64 n41,.string s42])∧∃ R43 Φ44,Stable Φ44∧Ctx W w39 (R43++R37) Φ44∧∀ (k45:Nat) (w46:World) (R47:List Own),Ctx W w46 (Own.blk k45 [.int .i64 n40,.int .i64 n41,.string s42] 147 :: R43++R47) Φ44→∃ (p48:Option Addr) (k49 k50:Nat) (w51:World),Sem.run Tryz.prog (builtin Builtin.append #[29,29] 29 #[false,false] #[.slice p20 k21 k22,.slice (some (Addr.mk k45 0 none)) 1 1]) w46=.ok (.value (.slice p48 k49 k50)) w51∧∃ R52 Φ53,Stable Φ53∧Ctx W w51 (R52++R47) Φ53∧I64 (n23 - 1)∧∃ R54 Φ55 k56,Stable Φ55∧Wk W R52 Φ53 R54 Φ55∧I14 p48 k49 k50 (n23 - 1) R54 Φ55 k56∧k56<k26)) (∀ w59 R60,Ctx W w59 (R24++R60) I25→Calls Tryz.prog
  F.wire_Reader_Done #[.pointer p4] w59 fun e61 w62=>∃ c63,e61=.returned (.bool c63)∧∃ R64 Φ65,Stable Φ65∧Ctx W w62 (R64++R60) Φ65∧Br (!c63) (∀ w66 R67,Ctx W w66 (R64++R67) Φ65→J (Value.tuple #[.slice none 0 0,.bool false]) w66) (∀ w68 R69,Ctx W w68 (R64++R69) Φ65→J (Value.tuple #[.slice p20 k21 k22,.bool true]) w68))
theorem Bvalue_ReadRow_run (s:ByteArray) {W w:World} {R:List Own} {Φ:PW} [Stable Φ] {J:Value→World→Prop} (c:Ctx W w R Φ) (h:Bvalue_ReadRow s W R Φ J):Calls Tryz.prog F.value_ReadRow #[.string s] w fun e w'=>∃ v,e=.returned v∧J v w' :=
  vcFS_sound (H:={ keep:=some [0,2,3,4,5,6,12,17,25],loops:=[(4,[(5,.one (.slice)),(6,.one (.int .i64))],[])] }) (by rw [show vcFS Tryz.prog W { keep:=some [0,2,3,4,5,6,12,17,25],loops:=[(4,[(5,.one (.slice)),(6,.one (.int .i64))],[])] } F.value_ReadRow #[.string s] R Φ J=Bvalue_ReadRow s W R Φ J by kernel_rfl];exact h) c
def Bwire_Reader_Done (rB rO:Nat) (W:World) (R:List Own) (Φ:PW) (J:Value→World→Prop):Prop :=
  ∀ w0 R1,Ctx W w0 (R++R1) Φ→∃ c2,w0.cell? (Addr.mk rB (rO+1) none)=some (.bool c2)∧∃ (s3:ByteArray),((!c2)=true→w0.cell? (Addr.mk rB rO none)=some (.string s3))∧∀ w4 R5,Ctx W w4 (R++R5) Φ→J (.bool (!c2&&decide (s3=ByteArray.mk #[]))) w4
theorem Bwire_Reader_Done_run (rB rO:Nat) {W w:World} {R:List Own} {Φ:PW} [Stable Φ] {J:Value→World→Prop} (c:Ctx W w R Φ) (h:Bwire_Reader_Done rB rO W R Φ J):Calls Tryz.prog F.wire_Reader_Done #[.pointer (some ⟨rB,rO,none⟩)] w fun e w'=>∃ v,e=.returned v∧J v w' :=
  vcFS_sound (H:={ keep:=some [0,2] }) (by rw [show vcFS Tryz.prog W { keep:=some [0,2] } F.wire_Reader_Done #[.pointer (some ⟨rB,rO,none⟩)] R Φ J=Bwire_Reader_Done rB rO W R Φ J by kernel_rfl];exact h) c
def Bstrings_Builder_WriteString (bB bO:Nat) (s:ByteArray) (W:World) (R:List Own) (Φ:PW) (J:Value→World→Prop):Prop :=
  ∀ w0 R1,Ctx W w0 (R++R1) Φ→Calls Tryz.prog F.strings_Builder_copyCheck #[.pointer (some (Addr.mk bB bO none))] w0 fun e2 w3=>e2=.returned (Value.tuple #[])∧∃ R4 Φ5,Stable Φ5∧Ctx W w3 (R4++R1) Φ5∧∀ w6 R7,Ctx W w6 (R4++R7) Φ5→∃ p8 k9 k10,w6.cell? (Addr.mk bB (bO+1) none)=some (.slice p8 k9 k10)∧∀ w11 R12,Ctx W w11 (R4++R12) Φ5→∃ (p13:Option Addr) (k14 k15:Nat) (w16:World),Sem.run Tryz.prog (builtin Builtin.append #[129,9] 129 #[false,false] #[.slice p8 k9 k10,.string s]) w11=.ok (.value (.slice p13 k14 k15)) w16∧∃ R17 Φ18,Stable Φ18∧Ctx W w16 (R17++R12) Φ18∧∀ w19 R20,Ctx W w19 (R17++R20) Φ18→CanWrite w19 bB (bO+1) 1∧∀ (w21:World),w21=w19.setCell (Addr.mk bB (bO+1) none) (Value.slice p13 k14 k15)→∃ R22 Φ23,Stable Φ23∧Ctx W w21 (R22++R20) Φ23∧∀ w24 R25,Ctx W w24 (R22++R25) Φ23→J (Value.tuple #[.int .i64
  (↑s.size:Int),Value.nilIface]) w24
theorem Bstrings_Builder_WriteString_run (bB bO:Nat) (s:ByteArray) {W w:World} {R:List Own} {Φ:PW} [Stable Φ] {J:Value→World→Prop} (c:Ctx W w R Φ) (h:Bstrings_Builder_WriteString bB bO s W R Φ J):Calls Tryz.prog F.strings_Builder_WriteString #[.pointer (some ⟨bB,bO,none⟩),.string s] w fun e w'=>∃ v,e=.returned v∧J v w' :=
  vcFS_sound (H:={ keep:=some [0,1,4,5] }) (by rw [show vcFS Tryz.prog W { keep:=some [0,1,4,5] } F.strings_Builder_WriteString #[.pointer (some ⟨bB,bO,none⟩),.string s] R Φ J=Bstrings_Builder_WriteString bB bO s W R Φ J by kernel_rfl];exact h) c
def Bwire_Num (n:Int) (W:World) (R:List Own) (Φ:PW) (J:Value→World→Prop):Prop :=
  Br (decide (n<0)) (∀ w0 R1,Ctx W w0 (R++R1) Φ→J (.string (ByteArray.mk #[])) w0) (∀ w2 R3,Ctx W w2 (R++R3) Φ→Calls Tryz.prog F.wire_Int #[.int .i64 n] w2 fun e4 w5=>∃ s6,e4=.returned (.string s6)∧∃ R7 Φ8,Stable Φ8∧Ctx W w5 (R7++R3) Φ8∧∀ w9 R10,Ctx W w9 (R7++R10) Φ8→J (.string s6) w9)
theorem Bwire_Num_run (n:Int) {W w:World} {R:List Own} {Φ:PW} [Stable Φ] {J:Value→World→Prop} (c:Ctx W w R Φ) (h:Bwire_Num n W R Φ J):Calls Tryz.prog F.wire_Num #[.int .i64 n] w fun e w'=>∃ v,e=.returned v∧J v w' :=
  vcFS_sound (H:={ keep:=some [0,2,4] }) (by rw [show vcFS Tryz.prog W { keep:=some [0,2,4] } F.wire_Num #[.int .i64 n] R Φ J=Bwire_Num n W R Φ J by kernel_rfl];exact h) c
def Bwire_Text (s:ByteArray) (W:World) (R:List Own) (Φ:PW) (J:Value→World→Prop):Prop :=
  ∀ w0 R1,Ctx W w0 (R++R1) Φ→Calls Tryz.prog F.strconv_Itoa #[.int .i64 (↑s.size:Int)] w0 fun e2 w3=>∃ s4,e2=.returned (.string s4)∧∃ R5 Φ6,Stable Φ6∧Ctx W w3 (R5++R1) Φ6∧(s4.size+(ByteArray.mk #[OfNat.ofNat 58]).size).le 9223372036854775807∧((s4++ByteArray.mk #[OfNat.ofNat 58]).size+s.size).le 9223372036854775807∧((s4++ByteArray.mk #[OfNat.ofNat 58]++s).size+(ByteArray.mk #[OfNat.ofNat 44]).size).le 9223372036854775807∧∀ w7 R8,Ctx W w7 (R5++R8) Φ6→J (.string (s4++ByteArray.mk #[OfNat.ofNat 58]++s++ByteArray.mk #[OfNat.ofNat 44])) w7
theorem Bwire_Text_run (s:ByteArray) {W w:World} {R:List Own} {Φ:PW} [Stable Φ] {J:Value→World→Prop} (c:Ctx W w R Φ) (h:Bwire_Text s W R Φ J):Calls Tryz.prog F.wire_Text #[.string s] w fun e w'=>∃ v,e=.returned v∧J v w' :=
  vcFS_sound (H:={ keep:=some [0,2] }) (by rw [show vcFS Tryz.prog W { keep:=some [0,2] } F.wire_Text #[.string s] R Φ J=Bwire_Text s W R Φ J by kernel_rfl];exact h) c
def Bvalue_RowBytes (rP:Option Addr) (rN rC:Nat) (W:World) (R:List Own) (Φ:PW) (J:Value→World→Prop):Prop :=
  ∀ (k0:Nat) (w1:World) (R2:List Own),Ctx W w1 (Own.blk k0 [Value.pointer none,Value.slice none 0 0] 165 :: R++R2) Φ→Calls Tryz.prog F.wire_Num #[.int .i64 (↑rN:Int)] w1 fun e3 w4=>∃ s5,e3=.returned (.string s5)∧∃ R6 Φ7,Stable Φ7∧Ctx W w4 (R6++R2) Φ7∧∀ w8 R9,Ctx W w8 (R6++R9) Φ7→Calls Tryz.prog F.strings_Builder_WriteString #[.pointer (some (Addr.mk k0 0 none)),.string s5] w8 fun e10 w11=>∃ (n12:Int) (v13:Value),e10=.returned (Value.tuple #[.int .i64 n12,v13])∧∃ R14 Φ15,Stable Φ15∧Ctx W w11 (R14++R9) Φ15∧exI fun (I16:Int→List Own→PW→Nat→Prop)=>(∃ R17 Φ18 k19,Stable Φ18∧Wk W R14 Φ15 R17 Φ18∧I16 0 R17 Φ18 k19)∧∀ n22 R23 I24 k25,Stable I24→I16 n22 R23 I24 k25→Br (decide (n22<(↑rN:Int))) ((0≤n22∧n22<(↑rN:Int))∧ptrK none rP fun k26 k27=>∀ w28 R29,Ctx W w28 (R23++R29) I24→∃ n30 n31 s32,RowAt w28
  k26 (k27+n22.toNat*3) [.int .i64 n30,.int .i64 n31,.string s32]∧∀ (b:Nat) (w33:World) (R34:List Own),Ctx W w33 (R23++R34) I24→Calls Tryz.prog F.value_Bytes #[Value.agg #[.int .i64 n30,.int .i64 n31,.string s32]] w33 fun e35 w36=>∃ s37,e35=.returned (.string s37)∧∃ R38 Φ39,Stable Φ39∧Ctx W w36 (R38++R34) Φ39∧∀ w40 R41,Ctx W w40 (R38++R41) Φ39→Calls Tryz.prog F.strings_Builder_WriteString #[.pointer (some (Addr.mk k0 0 none)),.string s37] w40 fun e42 w43=>∃ (n44:Int) (v45:Value),e42=.returned (Value.tuple #[.int .i64 n44,v45])∧∃ R46 Φ47,Stable Φ47∧Ctx W w43 (R46++R41) Φ47∧I64 (n22+1)∧∃ R48 Φ49 k50,Stable Φ49∧Wk W R46 Φ47 R48 Φ49∧I16 (n22+1) R48 Φ49 k50∧k50<k25) (∀ w53 R54,Ctx W w53 (R23++R54) I24→Calls Tryz.prog F.strings_Builder_String #[.pointer (some (Addr.mk k0 0 none))] w53 fun e55 w56=>∃ s57,e55 =
  .returned (.string s57)∧∃ R58 Φ59,Stable Φ59∧Ctx W w56 (R58++R54) Φ59∧∀ w60 R61,Ctx W w60 (R58++R61) Φ59→J (.string s57) w60)
theorem Bvalue_RowBytes_run (rP:Option Addr) (rN rC:Nat) {W w:World} {R:List Own} {Φ:PW} [Stable Φ] {J:Value→World→Prop} (c:Ctx W w R Φ) (h:Bvalue_RowBytes rP rN rC W R Φ J):Calls Tryz.prog F.value_RowBytes #[.slice rP rN rC] w fun e w'=>∃ v,e=.returned v∧J v w' :=
  vcFS_sound (H:={ keep:=some [0,2,3,5,10,11,12,13],track:=[5],loops:=[(4,[(12,.one (.int .i64))],[])] }) (by rw [show vcFS Tryz.prog W { keep:=some [0,2,3,5,10,11,12,13],track:=[5],loops:=[(4,[(12,.one (.int .i64))],[])] } F.value_RowBytes #[.slice rP rN rC] R Φ J=Bvalue_RowBytes rP rN rC W R Φ J by kernel_rfl];exact h) c
def Bwire_Reader_number (rB rO:Nat) (endx:Int) (least:Int) (W:World) (R:List Own) (Φ:PW) (J:Value→World→Prop):Prop :=
  ∀ w0 R1,Ctx W w0 (R++R1) Φ→∃ s2,w0.cell? (Addr.mk rB rO none)=some (.string s2)∧∃ s3,w0.cell? (Addr.mk rB rO none)=some (.string s3)∧(0≤min (↑s3.size:Int) 21∧min (↑s3.size:Int) 21≤(↑s2.size:Int))∧∀ w4 R5,Ctx W w4 (R++R5) Φ→Calls Tryz.prog F.strings_IndexByte #[.string (s2.extract 0 (min (↑s3.size:Int) 21).toNat),.int IntKind.u8 endx] w4 fun e6 w7=>∃ n8,e6=.returned (.int .i64 n8)∧∃ R9 Φ10,Stable Φ10∧Ctx W w7 (R9++R5) Φ10∧Br (decide (n8<0)) (∀ w11 R12,Ctx W w11 (R9++R12) Φ10→Calls Tryz.prog F.wire_Reader_fail #[.pointer (some (Addr.mk rB rO none))] w11 fun e13 w14=>e13=.returned (Value.tuple #[])∧∃ R15 Φ16,Stable Φ16∧Ctx W w14 (R15++R12) Φ16∧∀ w17 R18,Ctx W w17 (R15++R18) Φ16→J (.int .i64 0) w17) ((0≤n8∧n8≤(↑(s2.extract 0 (min (↑s3.size:Int) 21).toNat).size:Int))∧∀ w19 R20,Ctx W w19 (R9++R20) Φ10 →
  Calls Tryz.prog F.strconv_Atoi #[.string ((s2.extract 0 (min (↑s3.size:Int) 21).toNat).extract 0 n8.toNat)] w19 fun e21 w22=>(∃ n23,e21=.returned (Value.tuple #[.int .i64 n23,Value.nilIface])∧∃ R24 Φ25,Stable Φ25∧Ctx W w22 (R24++R20) Φ25∧∃ R26 Φ27,Stable Φ27∧Wk W R24 Φ25 R26 Φ27∧∃ (c30:Bool),(∀ (w31:World),Sem.run Tryz.prog ((eqGuard BinOp.neq 167 (Operand.tmp 36) (Operand.const Value.nilIface) Value.nilIface Value.nilIface) >>= fun _=>binOp BinOp.neq 167 Value.nilIface Value.nilIface) w31=Result.ok (Value.bool c30) w31)∧Br c30 (∀ w33 R34,Ctx W w33 (R24++R34) Φ25→Calls Tryz.prog F.wire_Reader_fail #[.pointer (some (Addr.mk rB rO none))] w33 fun e35 w36=>e35=.returned (Value.tuple #[])∧∃ R37 Φ38,Stable Φ38∧Ctx W w36 (R37++R34) Φ38∧∀ w39 R40,Ctx W w39 (R37++R40) Φ38→J (.int .i64 0) w39) ((0≤n8∧n8≤(↑(s2.extract 0 (min (↑s3.size
  : Int) 21).toNat).size:Int))∧∀ w41 R42,Ctx W w41 (R24++R42) Φ25→Calls Tryz.prog F.strconv_Itoa #[.int .i64 n23] w41 fun e43 w44=>∃ s45,e43=.returned (.string s45)∧∃ R46 Φ47,Stable Φ47∧Ctx W w44 (R46++R42) Φ47∧Wk W R46 Φ47 R26 Φ27∧Br (decide (s45≠(s2.extract 0 (min (↑s3.size:Int) 21).toNat).extract 0 n8.toNat)) (∀ w50 R51,Ctx W w50 (R46++R51) Φ47→Calls Tryz.prog F.wire_Reader_fail #[.pointer (some (Addr.mk rB rO none))] w50 fun e52 w53=>e52=.returned (Value.tuple #[])∧∃ R54 Φ55,Stable Φ55∧Ctx W w53 (R54++R51) Φ55∧∀ w56 R57,Ctx W w56 (R54++R57) Φ55→J (.int .i64 0) w56) (Br (decide (n23<least)) (∀ w58 R59,Ctx W w58 (R46++R59) Φ47→Calls Tryz.prog F.wire_Reader_fail #[.pointer (some (Addr.mk rB rO none))] w58 fun e60 w61=>e60=.returned (Value.tuple #[])∧∃ R62 Φ63,Stable Φ63∧Ctx W w61 (R62++R59) Φ63∧∀ w64 R65,Ctx W w64
  (R62++R65) Φ63→J (.int .i64 0) w64) (∀ w66 R67,Ctx W w66 (R46++R67) Φ47→∃ s68,w66.cell? (Addr.mk rB rO none)=some (.string s68)∧I64 (n8+1)∧(0≤n8+1∧n8+1≤(↑s68.size:Int)∧s68.size≤s68.size)∧∀ w69 R70,Ctx W w69 (R46++R70) Φ47→CanWrite w69 rB rO 1∧∀ (w71:World),w71=w69.setCell (Addr.mk rB rO none) (Value.string (s68.extract (n8+1).toNat s68.size))→∃ R72 Φ73,Stable Φ73∧Ctx W w71 (R72++R70) Φ73∧∀ w74 R75,Ctx W w74 (R72++R75) Φ73→J (.int .i64 n23) w74))))∨∃ (n76:Int) (u77:TypeId) (v78:Value),e21=.returned (Value.tuple #[.int .i64 n76,Value.iface u77 v78])∧∃ R79 Φ80,Stable Φ80∧Ctx W w22 (R79++R20) Φ80∧∃ R81 Φ82,Stable Φ82∧Wk W R79 Φ80 R81 Φ82∧∃ (c85:Bool),(∀ (w86:World),Sem.run Tryz.prog ((eqGuard BinOp.neq 167 (Operand.tmp 36) (Operand.const Value.nilIface) (Value.iface u77 v78) Value.nilIface) >>=
  fun _=>binOp BinOp.neq 167 (Value.iface u77 v78) Value.nilIface) w86=Result.ok (Value.bool c85) w86)∧Br c85 (∀ w88 R89,Ctx W w88 (R79++R89) Φ80→Calls Tryz.prog F.wire_Reader_fail #[.pointer (some (Addr.mk rB rO none))] w88 fun e90 w91=>e90=.returned (Value.tuple #[])∧∃ R92 Φ93,Stable Φ93∧Ctx W w91 (R92++R89) Φ93∧∀ w94 R95,Ctx W w94 (R92++R95) Φ93→J (.int .i64 0) w94) ((0≤n8∧n8≤(↑(s2.extract 0 (min (↑s3.size:Int) 21).toNat).size:Int))∧∀ w96 R97,Ctx W w96 (R79++R97) Φ80→Calls Tryz.prog F.strconv_Itoa #[.int .i64 n76] w96 fun e98 w99=>∃ s100,e98=.returned (.string s100)∧∃ R101 Φ102,Stable Φ102∧Ctx W w99 (R101++R97) Φ102∧Wk W R101 Φ102 R81 Φ82∧Br (decide (s100≠(s2.extract 0 (min (↑s3.size:Int) 21).toNat).extract 0 n8.toNat)) (∀ w105 R106,Ctx W w105 (R101++R106) Φ102→Calls Tryz.prog F.wire_Reader_fail #[.pointer (some
  (Addr.mk rB rO none))] w105 fun e107 w108=>e107=.returned (Value.tuple #[])∧∃ R109 Φ110,Stable Φ110∧Ctx W w108 (R109++R106) Φ110∧∀ w111 R112,Ctx W w111 (R109++R112) Φ110→J (.int .i64 0) w111) (Br (decide (n76<least)) (∀ w113 R114,Ctx W w113 (R101++R114) Φ102→Calls Tryz.prog F.wire_Reader_fail #[.pointer (some (Addr.mk rB rO none))] w113 fun e115 w116=>e115=.returned (Value.tuple #[])∧∃ R117 Φ118,Stable Φ118∧Ctx W w116 (R117++R114) Φ118∧∀ w119 R120,Ctx W w119 (R117++R120) Φ118→J (.int .i64 0) w119) (∀ w121 R122,Ctx W w121 (R101++R122) Φ102→∃ s123,w121.cell? (Addr.mk rB rO none)=some (.string s123)∧I64 (n8+1)∧(0≤n8+1∧n8+1≤(↑s123.size:Int)∧s123.size≤s123.size)∧∀ w124 R125,Ctx W w124 (R101++R125) Φ102→CanWrite w124 rB rO 1∧∀ (w126:World),w126=w124.setCell (Addr.mk rB rO none) (Value.string (s123.extract
  (n8+1).toNat s123.size))→∃ R127 Φ128,Stable Φ128∧Ctx W w126 (R127++R125) Φ128∧∀ w129 R130,Ctx W w129 (R127++R130) Φ128→J (.int .i64 n76) w129))))
theorem Bwire_Reader_number_run (rB rO:Nat) (endx:Int) (least:Int) {W w:World} {R:List Own} {Φ:PW} [Stable Φ] {J:Value→World→Prop} (c:Ctx W w R Φ) (h:Bwire_Reader_number rB rO endx least W R Φ J):Calls Tryz.prog F.wire_Reader_number #[.pointer (some ⟨rB,rO,none⟩),.int .u8 endx,.int .i64 least] w fun e w'=>∃ v,e=.returned v∧J v w' :=
  vcFS_sound (H:={ keep:=some [0,1,2,6,7,8,9,10,26,50],stages:=[(7,[.held [(0,true),(1,true),(2,true),(3,true),(5,true),(6,true),(7,true),(4,false)],.stage [8,9,10,11,12,13,14] none])] }) (by rw [show vcFS Tryz.prog W { keep:=some [0,1,2,6,7,8,9,10,26,50],stages:=[(7,[.held [(0,true),(1,true),(2,true),(3,true),(5,true),(6,true),(7,true),(4,false)],.stage [8,9,10,11,12,13,14] none])] } F.wire_Reader_number #[.pointer (some ⟨rB,rO,none⟩),.int .u8 endx,.int .i64 least] R Φ J=Bwire_Reader_number rB rO endx least W R Φ J by kernel_rfl];exact h) c
def Bwire_Reader_fail (rB rO:Nat) (W:World) (R:List Own) (Φ:PW) (J:Value→World→Prop):Prop :=
  ∀ w0 R1,Ctx W w0 (R++R1) Φ→CanWrite w0 rB rO 1∧∀ (w2:World),w2=w0.setCell (Addr.mk rB rO none) (Value.string (ByteArray.mk #[]))→∃ R3 Φ4,Stable Φ4∧Ctx W w2 (R3++R1) Φ4∧∀ w5 R6,Ctx W w5 (R3++R6) Φ4→CanWrite w5 rB (rO+1) 1∧∀ (w7:World),w7=w5.setCell (Addr.mk rB (rO+1) none) (Value.bool true)→∃ R8 Φ9,Stable Φ9∧Ctx W w7 (R8++R6) Φ9∧∀ w10 R11,Ctx W w10 (R8++R11) Φ9→J (Value.tuple #[]) w10
theorem Bwire_Reader_fail_run (rB rO:Nat) {W w:World} {R:List Own} {Φ:PW} [Stable Φ] {J:Value→World→Prop} (c:Ctx W w R Φ) (h:Bwire_Reader_fail rB rO W R Φ J):Calls Tryz.prog F.wire_Reader_fail #[.pointer (some ⟨rB,rO,none⟩)] w fun e w'=>∃ v,e=.returned v∧J v w' :=
  vcFS_sound (H:={ keep:=some [] }) (by rw [show vcFS Tryz.prog W { keep:=some [] } F.wire_Reader_fail #[.pointer (some ⟨rB,rO,none⟩)] R Φ J=Bwire_Reader_fail rB rO W R Φ J by kernel_rfl];exact h) c
def Bwire_Reader_close (rB rO:Nat) (endx:ByteArray) (W:World) (R:List Own) (Φ:PW) (J:Value→World→Prop):Prop :=
  ∀ w0 R1,Ctx W w0 (R++R1) Φ→∃ s2,w0.cell? (Addr.mk rB rO none)=some (.string s2)∧∀ w3 R4,Ctx W w3 (R++R4) Φ→Calls Tryz.prog F.strings_CutPrefix #[.string s2,.string endx] w3 fun e5 w6=>∃ s7 c8,e5=.returned (Value.tuple #[.string s7,.bool c8])∧∃ R9 Φ10,Stable Φ10∧Ctx W w6 (R9++R4) Φ10∧∀ w11 R12,Ctx W w11 (R9++R12) Φ10→CanWrite w11 rB rO 1∧∀ (w13:World),w13=w11.setCell (Addr.mk rB rO none) (Value.string s7)→∃ R14 Φ15,Stable Φ15∧Ctx W w13 (R14++R12) Φ15∧Br (!c8) (∀ w16 R17,Ctx W w16 (R14++R17) Φ15→Calls Tryz.prog F.wire_Reader_fail #[.pointer (some (Addr.mk rB rO none))] w16 fun e18 w19=>e18=.returned (Value.tuple #[])∧∃ R20 Φ21,Stable Φ21∧Ctx W w19 (R20++R17) Φ21∧∀ w22 R23,Ctx W w22 (R20++R23) Φ21→J (Value.tuple #[]) w22) (∀ w24 R25,Ctx W w24 (R14++R25) Φ15→J (Value.tuple #[]) w24)
theorem Bwire_Reader_close_run (rB rO:Nat) (endx:ByteArray) {W w:World} {R:List Own} {Φ:PW} [Stable Φ] {J:Value→World→Prop} (c:Ctx W w R Φ) (h:Bwire_Reader_close rB rO endx W R Φ J):Calls Tryz.prog F.wire_Reader_close #[.pointer (some ⟨rB,rO,none⟩),.string endx] w fun e w'=>∃ v,e=.returned v∧J v w' :=
  vcFS_sound (H:={ keep:=some [0,4,5,20] }) (by rw [show vcFS Tryz.prog W { keep:=some [0,4,5,20] } F.wire_Reader_close #[.pointer (some ⟨rB,rO,none⟩),.string endx] R Φ J=Bwire_Reader_close rB rO endx W R Φ J by kernel_rfl];exact h) c
def Bvalue_take (rB rO:Nat) (W:World) (R:List Own) (Φ:PW) (J:Value→World→Prop):Prop :=
  ∀ (b:Nat) (w0:World) (R1:List Own),Ctx W w0 (R++R1) Φ→Calls Tryz.prog F.wire_Reader_Int #[.pointer (some (Addr.mk rB rO none))] w0 fun e2 w3=>∃ n4,e2=.returned (.int .i64 n4)∧∃ R5 Φ6,Stable Φ6∧Ctx W w3 (R5++R1) Φ6∧∀ w7 R8,Ctx W w7 (R5++R8) Φ6→Calls Tryz.prog F.wire_Reader_Int #[.pointer (some (Addr.mk rB rO none))] w7 fun e9 w10=>∃ n11,e9=.returned (.int .i64 n11)∧∃ R12 Φ13,Stable Φ13∧Ctx W w10 (R12++R8) Φ13∧∀ (b:Nat) (w14:World) (R15:List Own),Ctx W w14 (R12++R15) Φ13→Calls Tryz.prog F.wire_Reader_Text #[.pointer (some (Addr.mk rB rO none))] w14 fun e16 w17=>∃ s18,e16=.returned (.string s18)∧∃ R19 Φ20,Stable Φ20∧Ctx W w17 (R19++R15) Φ20∧∀ w21 R22,Ctx W w21 (R19++R22) Φ20→J (Value.agg #[.int .i64 n4,.int .i64 n11,.string s18]) w21
theorem Bvalue_take_run (rB rO:Nat) {W w:World} {R:List Own} {Φ:PW} [Stable Φ] {J:Value→World→Prop} (c:Ctx W w R Φ) (h:Bvalue_take rB rO W R Φ J):Calls Tryz.prog F.value_take #[.pointer (some ⟨rB,rO,none⟩)] w fun e w'=>∃ v,e=.returned v∧J v w' :=
  vcFS_sound (H:={ keep:=some [0,2,3],track:=[2,3] }) (by rw [show vcFS Tryz.prog W { keep:=some [0,2,3],track:=[2,3] } F.value_take #[.pointer (some ⟨rB,rO,none⟩)] R Φ J=Bvalue_take rB rO W R Φ J by kernel_rfl];exact h) c
def Bvalue_Bytes (v0:Int) (v1:Int) (v2:ByteArray) (W:World) (R:List Own) (Φ:PW) (J:Value→World→Prop):Prop :=
  ∀ (b:Nat),∃ R0 Φ1,Stable Φ1∧Wk W R Φ R0 Φ1∧∀ w4 R5,Ctx W w4 (R++R5) Φ→Calls Tryz.prog F.wire_Int #[.int .i64 v0] w4 fun e6 w7=>∃ s8,e6=.returned (.string s8)∧∃ R9 Φ10,Stable Φ10∧Ctx W w7 (R9++R5) Φ10∧Wk W R9 Φ10 R0 Φ1∧∀ w13 R14,Ctx W w13 (R9++R14) Φ10→Calls Tryz.prog F.wire_Int #[.int .i64 v1] w13 fun e15 w16=>∃ s17,e15=.returned (.string s17)∧∃ R18 Φ19,Stable Φ19∧Ctx W w16 (R18++R14) Φ19∧Wk W R18 Φ19 R0 Φ1∧(s8.size+s17.size).le 9223372036854775807∧∀ w22 R23,Ctx W w22 (R18++R23) Φ19→Calls Tryz.prog F.wire_Text #[.string v2] w22 fun e24 w25=>∃ s26,e24=.returned (.string s26)∧∃ R27 Φ28,Stable Φ28∧Ctx W w25 (R27++R23) Φ28∧Wk W R27 Φ28 R0 Φ1∧((s8++s17).size+s26.size).le 9223372036854775807∧∀ w31 R32,Ctx W w31 (R27++R32) Φ28→J (.string (s8++s17++s26)) w31
theorem Bvalue_Bytes_run (v0:Int) (v1:Int) (v2:ByteArray) {W w:World} {R:List Own} {Φ:PW} [Stable Φ] {J:Value→World→Prop} (c:Ctx W w R Φ) (h:Bvalue_Bytes v0 v1 v2 W R Φ J):Calls Tryz.prog F.value_Bytes #[.agg #[.int .i64 v0,.int .i64 v1,.string v2]] w fun e w'=>∃ v,e=.returned v∧J v w' :=
  vcFS_sound (H:={ keep:=some [1,2],track:=[1],stages:=[(1,[.held [(0,true),(3,true),(7,true),(1,true),(4,true),(8,true),(2,false),(5,false),(6,true),(9,false)],.stage [10,11] none])] }) (by rw [show vcFS Tryz.prog W { keep:=some [1,2],track:=[1],stages:=[(1,[.held [(0,true),(3,true),(7,true),(1,true),(4,true),(8,true),(2,false),(5,false),(6,true),(9,false)],.stage [10,11] none])] } F.value_Bytes #[.agg #[.int .i64 v0,.int .i64 v1,.string v2]] R Φ J=Bvalue_Bytes v0 v1 v2 W R Φ J by kernel_rfl];exact h) c
end Go.Proofs.YtfccagphnfceiaaGreatDoor
end

section
namespace Go.Proofs.YtfccagphnfceiaaGreatDoor
set_option maxRecDepth 100000
open Go.Vc
def Bsink_New (kind:Int) (keyP:Option Addr) (keyN keyC:Nat) (W:World) (R:List Own) (Φ:PW) (J:Value→World→Prop):Prop :=
  Br (decide (kind<0)) (∀ w0 R1,Ctx W w0 (R++R1) Φ→J (.pointer none) w0) (Br (decide (3≤kind)) (∀ w2 R3,Ctx W w2 (R++R3) Φ→J (.pointer none) w2) (Br (decide (0<(↑keyN:Int))) (Br (decide (kind≠1)) (∀ w4 R5,Ctx W w4 (R++R5) Φ→J (.pointer none) w4) (∀ w6 R7,Ctx W w6 (R++R7) Φ→Calls Tryz.prog F.slices_Min_int_int #[.slice keyP keyN keyC] w6 fun e8 w9=>∃ n10,e8=.returned (.int .i64 n10)∧∃ R11 Φ12,Stable Φ12∧Ctx W w9 (R11++R7) Φ12∧Br (decide (n10<0)) (∀ w13 R14,Ctx W w13 (R11++R14) Φ12→J (.pointer none) w13) (∀ w15 R16,Ctx W w15 (R11++R16) Φ12→Calls Tryz.prog F.slices_Clone_int_int #[.slice keyP keyN keyC] w15 fun e17 w18=>∃ p19 k20 k21,e17=.returned (.slice p19 k20 k21)∧∃ R22 Φ23,Stable Φ23∧Ctx W w18 (R22++R16) Φ23∧∀ (k24:Nat) (w25:World) (R26:List Own),Ctx W w25 (Own.blk k24 [.int .i64 kind,.slice p19 k20 k21,
  .slice none 0 0,.slice none 0 0,.int .i64 0,.slice none 0 0] 92 :: R22++R26) Φ23→J (.pointer (some (Addr.mk k24 0 none))) w25))) (∀ w27 R28,Ctx W w27 (R++R28) Φ→Calls Tryz.prog F.slices_Clone_int_int #[.slice keyP keyN keyC] w27 fun e29 w30=>∃ p31 k32 k33,e29=.returned (.slice p31 k32 k33)∧∃ R34 Φ35,Stable Φ35∧Ctx W w30 (R34++R28) Φ35∧∀ (k36:Nat) (w37:World) (R38:List Own),Ctx W w37 (Own.blk k36 [.int .i64 kind,.slice p31 k32 k33,.slice none 0 0,.slice none 0 0,.int .i64 0,.slice none 0 0] 92 :: R34++R38) Φ35→J (.pointer (some (Addr.mk k36 0 none))) w37)))
theorem Bsink_New_run (kind:Int) (keyP:Option Addr) (keyN keyC:Nat) {W w:World} {R:List Own} {Φ:PW} [Stable Φ] {J:Value→World→Prop} (c:Ctx W w R Φ) (h:Bsink_New kind keyP keyN keyC W R Φ J):Calls Tryz.prog F.sink_New #[.int .i64 kind,.slice keyP keyN keyC] w fun e w'=>∃ v,e=.returned v∧J v w' :=
  vcFS_sound (H:={ keep:=some [0,1,4,24],split:=[1] }) (by rw [show vcFS Tryz.prog W { keep:=some [0,1,4,24],split:=[1] } F.sink_New #[.int .i64 kind,.slice keyP keyN keyC] R Φ J=Bsink_New kind keyP keyN keyC W R Φ J by kernel_rfl];exact h) c
def Bsink_Sink_Last (sB sO:Nat) (W:World) (R:List Own) (Φ:PW) (J:Value→World→Prop):Prop :=
  ∀ w0 R1,Ctx W w0 (R++R1) Φ→∃ p2 k3 k4,w0.cell? (Addr.mk sB (sO+2) none)=some (.slice p2 k3 k4)∧Br (decide ((↑k3:Int)=0)) (∀ w5 R6,Ctx W w5 (R++R6) Φ→J (.int .i64 0) w5) (∀ w7 R8,Ctx W w7 (R++R8) Φ→∃ p9 k10 k11,w7.cell? (Addr.mk sB (sO+2) none)=some (.slice p9 k10 k11)∧∃ p12 k13 k14,w7.cell? (Addr.mk sB (sO+2) none)=some (.slice p12 k13 k14)∧I64 ((↑k13:Int) - 1)∧(0≤(↑k13:Int) - 1∧(↑k13:Int) - 1<(↑k10:Int))∧ptrK none p9 fun k15 k16=>∃ n17,w7.cell? (Addr.mk k15 (k16+((↑k13:Int) - 1).toNat) none)=some (.int .i64 n17)∧∀ w18 R19,Ctx W w18 (R++R19) Φ→J (.int .i64 n17) w18)
theorem Bsink_Sink_Last_run (sB sO:Nat) {W w:World} {R:List Own} {Φ:PW} [Stable Φ] {J:Value→World→Prop} (c:Ctx W w R Φ) (h:Bsink_Sink_Last sB sO W R Φ J):Calls Tryz.prog F.sink_Sink_Last #[.pointer (some ⟨sB,sO,none⟩)] w fun e w'=>∃ v,e=.returned v∧J v w' :=
  vcFS_sound (H:={ keep:=some [0,2,8] }) (by rw [show vcFS Tryz.prog W { keep:=some [0,2,8] } F.sink_Sink_Last #[.pointer (some ⟨sB,sO,none⟩)] R Φ J=Bsink_Sink_Last sB sO W R Φ J by kernel_rfl];exact h) c
def Bsink_Sink_Lines (sB sO:Nat) (W:World) (R:List Own) (Φ:PW) (J:Value→World→Prop):Prop :=
  ∀ w0 R1,Ctx W w0 (R++R1) Φ→∃ p2 k3 k4,w0.cell? (Addr.mk sB (sO+3) none)=some (.slice p2 k3 k4)∧∀ w5 R6,Ctx W w5 (R++R6) Φ→J (.int .i64 (↑k3:Int)) w5
theorem Bsink_Sink_Lines_run (sB sO:Nat) {W w:World} {R:List Own} {Φ:PW} [Stable Φ] {J:Value→World→Prop} (c:Ctx W w R Φ) (h:Bsink_Sink_Lines sB sO W R Φ J):Calls Tryz.prog F.sink_Sink_Lines #[.pointer (some ⟨sB,sO,none⟩)] w fun e w'=>∃ v,e=.returned v∧J v w' :=
  vcFS_sound (H:={ keep:=some [0,2] }) (by rw [show vcFS Tryz.prog W { keep:=some [0,2] } F.sink_Sink_Lines #[.pointer (some ⟨sB,sO,none⟩)] R Φ J=Bsink_Sink_Lines sB sO W R Φ J by kernel_rfl];exact h) c
def Berrataref43_SameLines (aP:Option Addr) (aN aC:Nat) (bP:Option Addr) (bN bC:Nat) (W:World) (R:List Own) (Φ:PW) (J:Value→World→Prop):Prop :=
  Br (decide ((↑aN:Int)≠(↑bN:Int))) (∀ w0 R1,Ctx W w0 (R++R1) Φ→J (.bool false) w0) (exI fun (I2:Int→List Own→PW→Nat→Prop)=>(∃ R3 Φ4 k5,Stable Φ4∧Wk W R Φ R3 Φ4∧I2 0 R3 Φ4 k5)∧∀ n8 R9 I10 k11,Stable I10→I2 n8 R9 I10 k11→Br (decide (n8<(↑aN:Int))) ((0≤n8∧n8<(↑aN:Int))∧ptrK none aP fun k12 k13=>∀ w14 R15,Ctx W w14 (R9++R15) I10→∃ n16 n17 n18 p19 k20 k21 n22 n23 n24,RowAt w14 k12 (k13+n8.toNat*7) [.int .i64 n16,.int .i64 n17,.int .i64 n18,.slice p19 k20 k21,.int .i64 n22,.int .i64 n23,.int .i64 n24]∧∀ (b:Nat),(0≤n8∧n8<(↑bN:Int))∧ptrK none bP fun k25 k26=>∀ w27 R28,Ctx W w27 (R9++R28) I10→∃ n29 n30 n31 p32 k33 k34 n35 n36 n37,RowAt w27 k25 (k26+n8.toNat*7) [.int .i64 n29,.int .i64 n30,.int .i64 n31,.slice p32 k33 k34,.int .i64 n35,.int .i64 n36,.int .i64 n37]∧∀ (b:Nat),Br (decide (n16 ≠
  n29)) (∀ w38 R39,Ctx W w38 (R9++R39) I10→J (.bool false) w38) (Br (decide (n17≠n30)) (∀ w40 R41,Ctx W w40 (R9++R41) I10→J (.bool false) w40) (Br (decide (n18≠n31)) (∀ w42 R43,Ctx W w42 (R9++R43) I10→J (.bool false) w42) (Br (decide (n22≠n35)) (∀ w44 R45,Ctx W w44 (R9++R45) I10→J (.bool false) w44) (Br (decide (n23≠n36)) (∀ w46 R47,Ctx W w46 (R9++R47) I10→J (.bool false) w46) (Br (decide (n24≠n37)) (∀ w48 R49,Ctx W w48 (R9++R49) I10→J (.bool false) w48) (∀ w50 R51,Ctx W w50 (R9++R51) I10→Calls Tryz.prog F.errataref03_Same #[.slice p19 k20 k21,.slice p32 k33 k34] w50 fun e52 w53=>∃ c54,e52=.returned (.bool c54)∧∃ R55 Φ56,Stable Φ56∧Ctx W w53 (R55++R51) Φ56∧Br (!c54) (∀ w57 R58,Ctx W w57 (R55++R58) Φ56→J (.bool false) w57) (I64 (n8+1)∧∃ R59 Φ60 k61,Stable Φ60∧Wk W R55 Φ56 R59 Φ60∧I2 (n8+1) R59 Φ60 k61∧k61 <
  k11)))))))) (∀ w64 R65,Ctx W w64 (R9++R65) I10→J (.bool true) w64))
theorem Berrataref43_SameLines_run (aP:Option Addr) (aN aC:Nat) (bP:Option Addr) (bN bC:Nat) {W w:World} {R:List Own} {Φ:PW} [Stable Φ] {J:Value→World→Prop} (c:Ctx W w R Φ) (h:Berrataref43_SameLines aP aN aC bP bN bC W R Φ J):Calls Tryz.prog F.errataref43_SameLines #[.slice aP aN aC,.slice bP bN bC] w fun e w'=>∃ v,e=.returned v∧J v w' :=
  vcFS_sound (H:={ keep:=some [0,1,4,5,6,7,12,16,74],track:=[6,7],split:=[8],loops:=[(4,[(5,.one (.int .i64))],[])] }) (by rw [show vcFS Tryz.prog W { keep:=some [0,1,4,5,6,7,12,16,74],track:=[6,7],split:=[8],loops:=[(4,[(5,.one (.int .i64))],[])] } F.errataref43_SameLines #[.slice aP aN aC,.slice bP bN bC] R Φ J=Berrataref43_SameLines aP aN aC bP bN bC W R Φ J by kernel_rfl];exact h) c
def Bsink_Sink_List (sB sO:Nat) (W:World) (R:List Own) (Φ:PW) (J:Value→World→Prop):Prop :=
  ∀ w0 R1,Ctx W w0 (R++R1) Φ→∃ p2 k3 k4,w0.cell? (Addr.mk sB (sO+3) none)=some (.slice p2 k3 k4)∧∀ w5 R6,Ctx W w5 (R++R6) Φ→Calls Tryz.prog F.sink_clone #[.slice p2 k3 k4] w5 fun e7 w8=>∃ p9 k10 k11,e7=.returned (.slice p9 k10 k11)∧∃ R12 Φ13,Stable Φ13∧Ctx W w8 (R12++R6) Φ13∧∀ w14 R15,Ctx W w14 (R12++R15) Φ13→J (.slice p9 k10 k11) w14
theorem Bsink_Sink_List_run (sB sO:Nat) {W w:World} {R:List Own} {Φ:PW} [Stable Φ] {J:Value→World→Prop} (c:Ctx W w R Φ) (h:Bsink_Sink_List sB sO W R Φ J):Calls Tryz.prog F.sink_Sink_List #[.pointer (some ⟨sB,sO,none⟩)] w fun e w'=>∃ v,e=.returned v∧J v w' :=
  vcFS_sound (H:={ keep:=some [0,2] }) (by rw [show vcFS Tryz.prog W { keep:=some [0,2] } F.sink_Sink_List #[.pointer (some ⟨sB,sO,none⟩)] R Φ J=Bsink_Sink_List sB sO W R Φ J by kernel_rfl];exact h) c
def Berrataref43_Few (lP:Option Addr) (lN lC:Nat) (n:Int) (W:World) (R:List Own) (Φ:PW) (J:Value→World→Prop):Prop :=
  exI fun (I0:Int→List Own→PW→Nat→Prop)=>(∃ R1 Φ2 k3,Stable Φ2∧Wk W R Φ R1 Φ2∧I0 0 R1 Φ2 k3)∧∀ n6 R7 I8 k9,Stable I8→I0 n6 R7 I8 k9→∀ w10 R11,Ctx W w10 (R7++R11) I8→Br (decide (n6<(↑lN:Int))&&decide (n6≤n)) ((0≤n6∧n6<(↑lN:Int))∧ptrK none lP fun k12 k13=>∀ w14 R15,Ctx W w14 (R7++R15) I8→∃ p16 k17 k18,w14.cell? (Addr.mk k12 (k13+n6.toNat*7+3) none)=some (.slice p16 k17 k18)∧Br (decide (12<(↑k17:Int))) (∀ w19 R20,Ctx W w19 (R7++R20) I8→J (.bool false) w19) (exI fun (I21:Int→List Own→PW→Nat→Prop)=>(∃ R22 Φ23 k24,Stable Φ23∧Wk W R7 I8 R22 Φ23∧I21 0 R22 Φ23 k24)∧∀ n27 R28 I29 k30,Stable I29→I21 n27 R28 I29 k30→(0≤n6∧n6<(↑lN:Int))∧ptrK none lP fun k31 k32=>∀ w33 R34,Ctx W w33 (R28++R34) I29→∃ p35 k36 k37,w33.cell? (Addr.mk k31 (k32+n6.toNat*7+3) none)=some (.slice p35 k36
  k37)∧Br (decide (n27<(↑k36:Int))) ((0≤n6∧n6<(↑lN:Int))∧ptrK none lP fun k38 k39=>∀ w40 R41,Ctx W w40 (R28++R41) I29→∃ p42 k43 k44,w40.cell? (Addr.mk k38 (k39+n6.toNat*7+3) none)=some (.slice p42 k43 k44)∧(0≤n27∧n27<(↑k43:Int))∧ptrK none p42 fun k45 k46=>∀ w47 R48,Ctx W w47 (R28++R48) I29→∃ s49,w47.cell? (Addr.mk k45 (k46+n27.toNat*3+2) none)=some (.string s49)∧Br (decide (210<(↑s49.size:Int))) (∀ w50 R51,Ctx W w50 (R28++R51) I29→J (.bool false) w50) (I64 (n27+1)∧∃ R52 Φ53 k54,Stable Φ53∧Wk W R28 I29 R52 Φ53∧I21 (n27+1) R52 Φ53 k54∧k54<k30)) (I64 (n6+1)∧∃ R57 Φ58 k59,Stable Φ58∧Wk W R28 I29 R57 Φ58∧I0 (n6+1) R57 Φ58 k59∧k59<k9))) (∀ w62 R63,Ctx W w62 (R7++R63) I8→J (.bool (decide ((↑lN:Int)≤n))) w62)
theorem Berrataref43_Few_run (lP:Option Addr) (lN lC:Nat) (n:Int) {W w:World} {R:List Own} {Φ:PW} [Stable Φ] {J:Value→World→Prop} (c:Ctx W w R Φ) (h:Berrataref43_Few lP lN lC n W R Φ J):Calls Tryz.prog F.errataref43_Few #[.slice lP lN lC,.int .i64 n] w fun e w'=>∃ v,e=.returned v∧J v w' :=
  vcFS_sound (H:={ keep:=some [0,1,4,5,6,15,24,32,45],loops:=[(7,[(6,.one (.int .i64))],[]),(2,[(5,.one (.int .i64))],[])] }) (by rw [show vcFS Tryz.prog W { keep:=some [0,1,4,5,6,15,24,32,45],loops:=[(7,[(6,.one (.int .i64))],[]),(2,[(5,.one (.int .i64))],[])] } F.errataref43_Few #[.slice lP lN lC,.int .i64 n] R Φ J=Berrataref43_Few lP lN lC n W R Φ J by kernel_rfl];exact h) c
def Bsink_Sink_Deliver (sB sO:Nat) (batch:Int) (linesP:Option Addr) (linesN linesC:Nat) (W:World) (R:List Own) (Φ:PW) (J:Value→World→Prop):Prop :=
  ∀ w0 R1,Ctx W w0 (R++R1) Φ→∃ n2,w0.cell? (Addr.mk sB sO none)=some (.int .i64 n2)∧Br (decide (n2=0)) (∀ w3 R4,Ctx W w3 (R++R4) Φ→J (.int .i64 7) w3) (∀ w5 R6,Ctx W w5 (R++R6) Φ→Calls Tryz.prog F.sink_Sink_Has #[.pointer (some (Addr.mk sB sO none)),.int .i64 batch] w5 fun e7 w8=>∃ c9,e7=.returned (.bool c9)∧∃ R10 Φ11,Stable Φ11∧Ctx W w8 (R10++R6) Φ11∧Br c9 (∀ w12 R13,Ctx W w12 (R10++R13) Φ11→J (.int .i64 0) w12) (∀ w14 R15,Ctx W w14 (R10++R15) Φ11→Calls Tryz.prog F.sink_Sink_look #[.pointer (some (Addr.mk sB sO none)),.int .i64 batch,.slice linesP linesN linesC] w14 fun e16 w17=>∃ n18,e16=.returned (.int .i64 n18)∧∃ R19 Φ20,Stable Φ20∧Ctx W w17 (R19++R15) Φ20∧Br (decide (n18≠0)) (∀ w21 R22,Ctx W w21 (R19++R22) Φ20→J (.int .i64 n18) w21) (∀ w23 R24,Ctx W w23 (R19++R24) Φ20→Calls Tryz.prog F.sink_clone #[.slice
  linesP linesN linesC] w23 fun e25 w26=>∃ p27 k28 k29,e25=.returned (.slice p27 k28 k29)∧∃ R30 Φ31,Stable Φ31∧Ctx W w26 (R30++R24) Φ31∧∀ w32 R33,Ctx W w32 (R30++R33) Φ31→Calls Tryz.prog F.sink_Sink_take #[.pointer (some (Addr.mk sB sO none)),.int .i64 batch,.slice p27 k28 k29] w32 fun e34 w35=>e34=.returned (Value.tuple #[])∧∃ R36 Φ37,Stable Φ37∧Ctx W w35 (R36++R33) Φ37∧∀ w38 R39,Ctx W w38 (R36++R39) Φ37→J (.int .i64 0) w38)))
theorem Bsink_Sink_Deliver_run (sB sO:Nat) (batch:Int) (linesP:Option Addr) (linesN linesC:Nat) {W w:World} {R:List Own} {Φ:PW} [Stable Φ] {J:Value→World→Prop} (c:Ctx W w R Φ) (h:Bsink_Sink_Deliver sB sO batch linesP linesN linesC W R Φ J):Calls Tryz.prog F.sink_Sink_Deliver #[.pointer (some ⟨sB,sO,none⟩),.int .i64 batch,.slice linesP linesN linesC] w fun e w'=>∃ v,e=.returned v∧J v w' :=
  vcFS_sound (H:={ keep:=some [0,1,2,6,7,8,14,23] }) (by rw [show vcFS Tryz.prog W { keep:=some [0,1,2,6,7,8,14,23] } F.sink_Sink_Deliver #[.pointer (some ⟨sB,sO,none⟩),.int .i64 batch,.slice linesP linesN linesC] R Φ J=Bsink_Sink_Deliver sB sO batch linesP linesN linesC W R Φ J by kernel_rfl];exact h) c
def Bslices_Min_int_int (xP:Option Addr) (xN xC:Nat) (W:World) (R:List Own) (Φ:PW) (J:Value→World→Prop):Prop :=
  Br (decide ((↑xN:Int)<1)) (∀ w0 R1,Ctx W w0 (R++R1) Φ→False) (((0:Int)≤0∧0<(↑xN:Int))∧ptrK none xP fun k2 k3=>∀ w4 R5,Ctx W w4 (R++R5) Φ→∃ n6,w4.cell? (Addr.mk k2 k3 none)=some (.int .i64 n6)∧exI fun (I7:Int→Int→List Own→PW→Nat→Prop)=>(∃ R8 Φ9 k10,Stable Φ9∧Wk W R Φ R8 Φ9∧I7 n6 1 R8 Φ9 k10)∧∀ n13 n14 R15 I16 k17,Stable I16→I7 n13 n14 R15 I16 k17→Br (decide (n14<(↑xN:Int))) ((0≤n14∧n14<(↑xN:Int))∧ptrK none xP fun k18 k19=>∀ w20 R21,Ctx W w20 (R15++R21) I16→∃ n22,w20.cell? (Addr.mk k18 (k19+n14.toNat) none)=some (.int .i64 n22)∧I64 (n14+1)∧∃ R23 Φ24 k25,Stable Φ24∧Wk W R15 I16 R23 Φ24∧I7 (min n13 n22) (n14+1) R23 Φ24 k25∧k25<k17) (∀ w28 R29,Ctx W w28 (R15++R29) I16→J (.int .i64 n13) w28))
theorem Bslices_Min_int_int_run (xP:Option Addr) (xN xC:Nat) {W w:World} {R:List Own} {Φ:PW} [Stable Φ] {J:Value→World→Prop} (c:Ctx W w R Φ) (h:Bslices_Min_int_int xP xN xC W R Φ J):Calls Tryz.prog F.slices_Min_int_int #[.slice xP xN xC] w fun e w'=>∃ v,e=.returned v∧J v w' :=
  vcFS_sound (H:={ keep:=some [0,2,3,4,7,15],loops:=[(5,[(3,.one (.int .i64)),(4,.one (.int .i64))],[])] }) (by rw [show vcFS Tryz.prog W { keep:=some [0,2,3,4,7,15],loops:=[(5,[(3,.one (.int .i64)),(4,.one (.int .i64))],[])] } F.slices_Min_int_int #[.slice xP xN xC] R Φ J=Bslices_Min_int_int xP xN xC W R Φ J by kernel_rfl];exact h) c
def Bslices_Clone_int_int (sP:Option Addr) (sN sC:Nat) (W:World) (R:List Own) (Φ:PW) (J:Value→World→Prop):Prop :=
  Br sP.isNone (∀ w0 R1,Ctx W w0 (R++R1) Φ→J (.slice none 0 0) w0) (∀ (k2:Nat) (w3:World) (R4:List Own),Ctx W w3 (Own.blk k2 [] 3 :: R++R4) Φ→∃ (p5:Option Addr) (k6 k7:Nat) (w8:World),Sem.run Tryz.prog (builtin Builtin.append #[23,23] 23 #[false,false] #[.slice (some (Addr.mk k2 0 none)) 0 0,.slice sP sN sC]) w3=.ok (.value (.slice p5 k6 k7)) w8∧∃ R9 Φ10,Stable Φ10∧Ctx W w8 (R9++R4) Φ10∧∀ w11 R12,Ctx W w11 (R9++R12) Φ10→J (.slice p5 k6 k7) w11)
theorem Bslices_Clone_int_int_run (sP:Option Addr) (sN sC:Nat) {W w:World} {R:List Own} {Φ:PW} [Stable Φ] {J:Value→World→Prop} (c:Ctx W w R Φ) (h:Bslices_Clone_int_int sP sN sC W R Φ J):Calls Tryz.prog F.slices_Clone_int_int #[.slice sP sN sC] w fun e w'=>∃ v,e=.returned v∧J v w' :=
  vcFS_sound (H:={ keep:=some [0,2,4] }) (by rw [show vcFS Tryz.prog W { keep:=some [0,2,4] } F.slices_Clone_int_int #[.slice sP sN sC] R Φ J=Bslices_Clone_int_int sP sN sC W R Φ J by kernel_rfl];exact h) c
def Berrataref03_Same (aP:Option Addr) (aN aC:Nat) (bP:Option Addr) (bN bC:Nat) (W:World) (R:List Own) (Φ:PW) (J:Value→World→Prop):Prop :=
  ∀ w0 R1,Ctx W w0 (R++R1) Φ→Calls Tryz.prog F.errataref03_CompareRows #[.slice aP aN aC,.slice bP bN bC] w0 fun e2 w3=>∃ n4,e2=.returned (.int .i64 n4)∧∃ R5 Φ6,Stable Φ6∧Ctx W w3 (R5++R1) Φ6∧∀ w7 R8,Ctx W w7 (R5++R8) Φ6→J (.bool (decide (n4=0))) w7
theorem Berrataref03_Same_run (aP:Option Addr) (aN aC:Nat) (bP:Option Addr) (bN bC:Nat) {W w:World} {R:List Own} {Φ:PW} [Stable Φ] {J:Value→World→Prop} (c:Ctx W w R Φ) (h:Berrataref03_Same aP aN aC bP bN bC W R Φ J):Calls Tryz.prog F.errataref03_Same #[.slice aP aN aC,.slice bP bN bC] w fun e w'=>∃ v,e=.returned v∧J v w' :=
  vcFS_sound (H:={ keep:=some [0,1,4] }) (by rw [show vcFS Tryz.prog W { keep:=some [0,1,4] } F.errataref03_Same #[.slice aP aN aC,.slice bP bN bC] R Φ J=Berrataref03_Same aP aN aC bP bN bC W R Φ J by kernel_rfl];exact h) c
def Bsink_clone (lP:Option Addr) (lN lC:Nat) (W:World) (R:List Own) (Φ:PW) (J:Value→World→Prop):Prop :=
  ∀ w0 R1,Ctx W w0 (R++R1) Φ→Calls Tryz.prog F.slices_Clone_api_Line_api_Line #[.slice lP lN lC] w0 fun e2 w3=>∃ p4 k5 k6,e2=.returned (.slice p4 k5 k6)∧∃ R7 Φ8,Stable Φ8∧Ctx W w3 (R7++R1) Φ8∧exI fun (I9:Int→List Own→PW→Nat→Prop)=>(∃ R10 Φ11 k12,Stable Φ11∧Wk W R7 Φ8 R10 Φ11∧I9 0 R10 Φ11 k12)∧∀ n15 R16 I17 k18,Stable I17→I9 n15 R16 I17 k18→Br (decide (n15<(↑k5:Int))) ((0≤n15∧n15<(↑k5:Int))∧ptrK none p4 fun k19 k20=>∀ w21 R22,Ctx W w21 (R16++R22) I17→∃ n23 n24 n25 p26 k27 k28 n29 n30 n31,RowAt w21 k19 (k20+n15.toNat*7) [.int .i64 n23,.int .i64 n24,.int .i64 n25,.slice p26 k27 k28,.int .i64 n29,.int .i64 n30,.int .i64 n31]∧∀ (b:Nat) (w32:World) (R33:List Own),Ctx W w32 (R16++R33) I17→Calls Tryz.prog F.slices_Clone_api_Value_api_Value #[.slice p26 k27 k28] w32 fun e34 w35=>∃ p36 k37 k38,e34=.returned
  (.slice p36 k37 k38)∧∃ R39 Φ40,Stable Φ40∧Ctx W w35 (R39++R33) Φ40∧(0≤n15∧n15<(↑k5:Int))∧ptrK none p4 fun k41 k42=>∀ w43 R44,Ctx W w43 (R39++R44) Φ40→CanWrite w43 k41 (k42+n15.toNat*7+3) 1∧∀ (w45:World),w45=w43.setCell (Addr.mk k41 (k42+n15.toNat*7+3) none) (Value.slice p36 k37 k38)→∃ R46 Φ47,Stable Φ47∧Ctx W w45 (R46++R44) Φ47∧I64 (n15+1)∧∃ R48 Φ49 k50,Stable Φ49∧Wk W R46 Φ47 R48 Φ49∧I9 (n15+1) R48 Φ49 k50∧k50<k18) (∀ w53 R54,Ctx W w53 (R16++R54) I17→J (.slice p4 k5 k6) w53)
theorem Bsink_clone_run (lP:Option Addr) (lN lC:Nat) {W w:World} {R:List Own} {Φ:PW} [Stable Φ] {J:Value→World→Prop} (c:Ctx W w R Φ) (h:Bsink_clone lP lN lC W R Φ J):Calls Tryz.prog F.sink_clone #[.slice lP lN lC] w fun e w'=>∃ v,e=.returned v∧J v w' :=
  vcFS_sound (H:={ keep:=some [0,2,3,4,5,8,9,10,11],track:=[5],loops:=[(3,[(10,.one (.int .i64))],[])] }) (by rw [show vcFS Tryz.prog W { keep:=some [0,2,3,4,5,8,9,10,11],track:=[5],loops:=[(3,[(10,.one (.int .i64))],[])] } F.sink_clone #[.slice lP lN lC] R Φ J=Bsink_clone lP lN lC W R Φ J by kernel_rfl];exact h) c
def Bsink_Sink_Kind (sB sO:Nat) (W:World) (R:List Own) (Φ:PW) (J:Value→World→Prop):Prop :=
  ∀ w0 R1,Ctx W w0 (R++R1) Φ→∃ n2,w0.cell? (Addr.mk sB sO none)=some (.int .i64 n2)∧∀ w3 R4,Ctx W w3 (R++R4) Φ→J (.int .i64 n2) w3
theorem Bsink_Sink_Kind_run (sB sO:Nat) {W w:World} {R:List Own} {Φ:PW} [Stable Φ] {J:Value→World→Prop} (c:Ctx W w R Φ) (h:Bsink_Sink_Kind sB sO W R Φ J):Calls Tryz.prog F.sink_Sink_Kind #[.pointer (some ⟨sB,sO,none⟩)] w fun e w'=>∃ v,e=.returned v∧J v w' :=
  vcFS_sound (H:={ keep:=some [0,2] }) (by rw [show vcFS Tryz.prog W { keep:=some [0,2] } F.sink_Sink_Kind #[.pointer (some ⟨sB,sO,none⟩)] R Φ J=Bsink_Sink_Kind sB sO W R Φ J by kernel_rfl];exact h) c
def Bsink_Sink_Prepared (sB sO:Nat) (W:World) (R:List Own) (Φ:PW) (J:Value→World→Prop):Prop :=
  ∀ w0 R1,Ctx W w0 (R++R1) Φ→∃ n2,w0.cell? (Addr.mk sB (sO+4) none)=some (.int .i64 n2)∧∀ w3 R4,Ctx W w3 (R++R4) Φ→J (.int .i64 n2) w3
theorem Bsink_Sink_Prepared_run (sB sO:Nat) {W w:World} {R:List Own} {Φ:PW} [Stable Φ] {J:Value→World→Prop} (c:Ctx W w R Φ) (h:Bsink_Sink_Prepared sB sO W R Φ J):Calls Tryz.prog F.sink_Sink_Prepared #[.pointer (some ⟨sB,sO,none⟩)] w fun e w'=>∃ v,e=.returned v∧J v w' :=
  vcFS_sound (H:={ keep:=some [0,2] }) (by rw [show vcFS Tryz.prog W { keep:=some [0,2] } F.sink_Sink_Prepared #[.pointer (some ⟨sB,sO,none⟩)] R Φ J=Bsink_Sink_Prepared sB sO W R Φ J by kernel_rfl];exact h) c
def Bsink_Sink_Abort (sB sO:Nat) (batch:Int) (W:World) (R:List Own) (Φ:PW) (J:Value→World→Prop):Prop :=
  ∀ w0 R1,Ctx W w0 (R++R1) Φ→∃ n2,w0.cell? (Addr.mk sB sO none)=some (.int .i64 n2)∧Br (decide (n2≠0)) (∀ w3 R4,Ctx W w3 (R++R4) Φ→J (.int .i64 7) w3) (∀ w5 R6,Ctx W w5 (R++R6) Φ→Calls Tryz.prog F.sink_Sink_Has #[.pointer (some (Addr.mk sB sO none)),.int .i64 batch] w5 fun e7 w8=>∃ c9,e7=.returned (.bool c9)∧∃ R10 Φ11,Stable Φ11∧Ctx W w8 (R10++R6) Φ11∧Br c9 (∀ w12 R13,Ctx W w12 (R10++R13) Φ11→J (.int .i64 7) w12) (∀ w14 R15,Ctx W w14 (R10++R15) Φ11→∃ (n16:Int),((!decide (batch<1))=true→w14.cell? (Addr.mk sB (sO+4) none)=some (.int .i64 n16))∧Br (decide (batch<1)||decide (batch≠n16)) (∀ w17 R18,Ctx W w17 (R10++R18) Φ11→J (.int .i64 4) w17) (∀ w19 R20,Ctx W w19 (R10++R20) Φ11→CanWrite w19 sB (sO+4) 1∧∀ (w21:World),w21=w19.setCell (Addr.mk sB (sO+4) none) (Value.int IntKind.i64 0)→∃ R22 Φ23,Stable Φ23
  ∧ Ctx W w21 (R22++R20) Φ23∧∀ w24 R25,Ctx W w24 (R22++R25) Φ23→CanWrite w24 sB (sO+5) 1∧∀ (w26:World),w26=w24.setCell (Addr.mk sB (sO+5) none) (Value.slice none 0 0)→∃ R27 Φ28,Stable Φ28∧Ctx W w26 (R27++R25) Φ28∧∀ w29 R30,Ctx W w29 (R27++R30) Φ28→J (.int .i64 0) w29)))
theorem Bsink_Sink_Abort_run (sB sO:Nat) (batch:Int) {W w:World} {R:List Own} {Φ:PW} [Stable Φ] {J:Value→World→Prop} (c:Ctx W w R Φ) (h:Bsink_Sink_Abort sB sO batch W R Φ J):Calls Tryz.prog F.sink_Sink_Abort #[.pointer (some ⟨sB,sO,none⟩),.int .i64 batch] w fun e w'=>∃ v,e=.returned v∧J v w' :=
  vcFS_sound (H:={ keep:=some [0,1,4,5,16],split:=[1] }) (by rw [show vcFS Tryz.prog W { keep:=some [0,1,4,5,16],split:=[1] } F.sink_Sink_Abort #[.pointer (some ⟨sB,sO,none⟩),.int .i64 batch] R Φ J=Bsink_Sink_Abort sB sO batch W R Φ J by kernel_rfl];exact h) c
def Bsink_Sink_Prepare (sB sO:Nat) (batch:Int) (linesP:Option Addr) (linesN linesC:Nat) (W:World) (R:List Own) (Φ:PW) (J:Value→World→Prop):Prop :=
  ∀ w0 R1,Ctx W w0 (R++R1) Φ→∃ n2,w0.cell? (Addr.mk sB sO none)=some (.int .i64 n2)∧Br (decide (n2≠0)) (∀ w3 R4,Ctx W w3 (R++R4) Φ→J (.int .i64 7) w3) (∀ w5 R6,Ctx W w5 (R++R6) Φ→Calls Tryz.prog F.sink_Sink_Has #[.pointer (some (Addr.mk sB sO none)),.int .i64 batch] w5 fun e7 w8=>∃ c9,e7=.returned (.bool c9)∧∃ R10 Φ11,Stable Φ11∧Ctx W w8 (R10++R6) Φ11∧Br c9 (∀ w12 R13,Ctx W w12 (R10++R13) Φ11→J (.int .i64 0) w12) (∀ w14 R15,Ctx W w14 (R10++R15) Φ11→Calls Tryz.prog F.sink_Sink_look #[.pointer (some (Addr.mk sB sO none)),.int .i64 batch,.slice linesP linesN linesC] w14 fun e16 w17=>∃ n18,e16=.returned (.int .i64 n18)∧∃ R19 Φ20,Stable Φ20∧Ctx W w17 (R19++R15) Φ20∧Br (decide (n18≠0)) (∀ w21 R22,Ctx W w21 (R19++R22) Φ20→J (.int .i64 n18) w21) (∀ w23 R24,Ctx W w23 (R19++R24) Φ20→Calls Tryz.prog F.sink_clone #[.slice
  linesP linesN linesC] w23 fun e25 w26=>∃ p27 k28 k29,e25=.returned (.slice p27 k28 k29)∧∃ R30 Φ31,Stable Φ31∧Ctx W w26 (R30++R24) Φ31∧∀ w32 R33,Ctx W w32 (R30++R33) Φ31→CanWrite w32 sB (sO+4) 1∧∀ (w34:World),w34=w32.setCell (Addr.mk sB (sO+4) none) (Value.int IntKind.i64 batch)→∃ R35 Φ36,Stable Φ36∧Ctx W w34 (R35++R33) Φ36∧∀ w37 R38,Ctx W w37 (R35++R38) Φ36→CanWrite w37 sB (sO+5) 1∧∀ (w39:World),w39=w37.setCell (Addr.mk sB (sO+5) none) (Value.slice p27 k28 k29)→∃ R40 Φ41,Stable Φ41∧Ctx W w39 (R40++R38) Φ41∧∀ w42 R43,Ctx W w42 (R40++R43) Φ41→J (.int .i64 0) w42)))
theorem Bsink_Sink_Prepare_run (sB sO:Nat) (batch:Int) (linesP:Option Addr) (linesN linesC:Nat) {W w:World} {R:List Own} {Φ:PW} [Stable Φ] {J:Value→World→Prop} (c:Ctx W w R Φ) (h:Bsink_Sink_Prepare sB sO batch linesP linesN linesC W R Φ J):Calls Tryz.prog F.sink_Sink_Prepare #[.pointer (some ⟨sB,sO,none⟩),.int .i64 batch,.slice linesP linesN linesC] w fun e w'=>∃ v,e=.returned v∧J v w' :=
  vcFS_sound (H:={ keep:=some [0,1,2,6,7,8,14,23] }) (by rw [show vcFS Tryz.prog W { keep:=some [0,1,2,6,7,8,14,23] } F.sink_Sink_Prepare #[.pointer (some ⟨sB,sO,none⟩),.int .i64 batch,.slice linesP linesN linesC] R Φ J=Bsink_Sink_Prepare sB sO batch linesP linesN linesC W R Φ J by kernel_rfl];exact h) c
def Bsink_Sink_Copy (sB sO:Nat) (W:World) (R:List Own) (Φ:PW) (J:Value→World→Prop):Prop :=
  ∀ w0 R1,Ctx W w0 (R++R1) Φ→∃ n2 p3 k4 k5 p6 k7 k8 p9 k10 k11 n12 p13 k14 k15,RowAt w0 sB sO [.int .i64 n2,.slice p3 k4 k5,.slice p6 k7 k8,.slice p9 k10 k11,.int .i64 n12,.slice p13 k14 k15]∧∀ (k16:Nat) (w17:World) (R18:List Own),Ctx W w17 (Own.blk k16 [.int .i64 0,.slice none 0 0,.slice none 0 0,.slice none 0 0,.int .i64 0,.slice none 0 0] 92 :: R++R18) Φ→CanWrite w17 k16 0 6∧∀ (w19:World),w19=w17.setCells k16 0 [.int .i64 n2,.slice p3 k4 k5,.slice p6 k7 k8,.slice p9 k10 k11,.int .i64 n12,.slice p13 k14 k15]→∃ R20 Φ21,Stable Φ21∧Ctx W w19 (R20++R18) Φ21∧∃ R22 Φ23,Stable Φ23∧Wk W R20 Φ21 R22 Φ23∧∃ (p26:Option Addr) (k27 k28:Nat),(∀ w29 R30,Ctx W w29 (R22++R30) Φ23→∃ p31 k32 k33,w29.cell? (Addr.mk sB (sO+1) none)=some (.slice p31 k32 k33)∧Value.slice p31 k32 k33=Value.slice p26 k27 k28)∧∃ (p34:Option Addr) (k35
  k36:Nat),(∀ w37 R38,Ctx W w37 (R22++R38) Φ23→∃ p39 k40 k41,w37.cell? (Addr.mk sB (sO+2) none)=some (.slice p39 k40 k41)∧Value.slice p39 k40 k41=Value.slice p34 k35 k36)∧∃ (p42:Option Addr) (k43 k44:Nat),(∀ w45 R46,Ctx W w45 (R22++R46) Φ23→∃ p47 k48 k49,w45.cell? (Addr.mk sB (sO+3) none)=some (.slice p47 k48 k49)∧Value.slice p47 k48 k49=Value.slice p42 k43 k44)∧∃ (p50:Option Addr) (k51 k52:Nat),(∀ w53 R54,Ctx W w53 (R22++R54) Φ23→∃ p55 k56 k57,w53.cell? (Addr.mk sB (sO+5) none)=some (.slice p55 k56 k57)∧Value.slice p55 k56 k57=Value.slice p50 k51 k52)∧∀ w58 R59,Ctx W w58 (R20++R59) Φ21→Calls Tryz.prog F.slices_Clone_int_int #[.slice p26 k27 k28] w58 fun e60 w61=>∃ p62 k63 k64,e60=.returned (.slice p62 k63 k64)∧∃ R65 Φ66,Stable Φ66∧Ctx W w61 (R65++R59) Φ66∧Wk W R65 Φ66 R22 Φ23∧∀ w69 R70,Ctx W w69 (R65 ++
  R70) Φ66→Calls Tryz.prog F.slices_Clone_int_int #[.slice p34 k35 k36] w69 fun e71 w72=>∃ p73 k74 k75,e71=.returned (.slice p73 k74 k75)∧∃ R76 Φ77,Stable Φ77∧Ctx W w72 (R76++R70) Φ77∧Wk W R76 Φ77 R22 Φ23∧∀ w80 R81,Ctx W w80 (R76++R81) Φ77→Calls Tryz.prog F.slices_Clone_api_Line_api_Line #[.slice p42 k43 k44] w80 fun e82 w83=>∃ p84 k85 k86,e82=.returned (.slice p84 k85 k86)∧∃ R87 Φ88,Stable Φ88∧Ctx W w83 (R87++R81) Φ88∧Wk W R87 Φ88 R22 Φ23∧∀ w91 R92,Ctx W w91 (R87++R92) Φ88→Calls Tryz.prog F.slices_Clone_api_Line_api_Line #[.slice p50 k51 k52] w91 fun e93 w94=>∃ p95 k96 k97,e93=.returned (.slice p95 k96 k97)∧∃ R98 Φ99,Stable Φ99∧Ctx W w94 (R98++R92) Φ99∧∀ w100 R101,Ctx W w100 (R98++R101) Φ99→CanWrite w100 k16 1 1∧∀ (w102:World),w102=w100.setCell (Addr.mk k16 1 none) (Value.slice p62 k63 k64)→∃ R103 Φ104,Stable Φ104 ∧
  Ctx W w102 (R103++R101) Φ104∧∀ w105 R106,Ctx W w105 (R103++R106) Φ104→CanWrite w105 k16 2 1∧∀ (w107:World),w107=w105.setCell (Addr.mk k16 2 none) (Value.slice p73 k74 k75)→∃ R108 Φ109,Stable Φ109∧Ctx W w107 (R108++R106) Φ109∧∀ w110 R111,Ctx W w110 (R108++R111) Φ109→CanWrite w110 k16 3 1∧∀ (w112:World),w112=w110.setCell (Addr.mk k16 3 none) (Value.slice p84 k85 k86)→∃ R113 Φ114,Stable Φ114∧Ctx W w112 (R113++R111) Φ114∧∀ w115 R116,Ctx W w115 (R113++R116) Φ114→CanWrite w115 k16 5 1∧∀ (w117:World),w117=w115.setCell (Addr.mk k16 5 none) (Value.slice p95 k96 k97)→∃ R118 Φ119,Stable Φ119∧Ctx W w117 (R118++R116) Φ119∧∀ w120 R121,Ctx W w120 (R118++R121) Φ119→J (.pointer (some (Addr.mk k16 0 none))) w120
theorem Bsink_Sink_Copy_run (sB sO:Nat) {W w:World} {R:List Own} {Φ:PW} [Stable Φ] {J:Value→World→Prop} (c:Ctx W w R Φ) (h:Bsink_Sink_Copy sB sO W R Φ J):Calls Tryz.prog F.sink_Sink_Copy #[.pointer (some ⟨sB,sO,none⟩)] w fun e w'=>∃ v,e=.returned v∧J v w' :=
  vcFS_sound (H:={ keep:=some [0,2,3],stages:=[(2,[.held [(0,true),(5,true),(10,true),(15,true),(1,true),(6,true),(11,true),(16,true),(2,true),(7,true),(12,true),(17,true),(3,true),(8,true),(13,true),(18,true),(4,false),(9,false),(14,false)],.stage [] (some 19),.stage [20] (some 21),.stage [22] (some 23),.stage [24] (some 25),.stage [26] (some 27)])] }) (by rw [show vcFS Tryz.prog W { keep:=some [0,2,3],stages:=[(2,[.held [(0,true),(5,true),(10,true),(15,true),(1,true),(6,true),(11,true),(16,true),(2,true),(7,true),(12,true),(17,true),(3,true),(8,true),(13,true),(18,true),(4,false),(9,false),(14,false)],.stage [] (some 19),.stage [20] (some 21),.stage [22] (some 23),.stage [24] (some 25),.stage [26] (some 27)])] } F.sink_Sink_Copy #[.pointer (some ⟨sB,sO,none⟩)] R Φ J=Bsink_Sink_Copy sB sO W R Φ J by kernel_rfl];exact h) c
def Bvalue_RightRow (rP:Option Addr) (rN rC:Nat) (W:World) (R:List Own) (Φ:PW) (J:Value→World→Prop):Prop :=
  Br (decide ((↑rN:Int)≤12)) (∀ w0 R1,Ctx W w0 (R++R1) Φ→Calls Tryz.prog F.value_all #[.slice rP rN rC] w0 fun e2 w3=>∃ c4,e2=.returned (.bool c4)∧∃ R5 Φ6,Stable Φ6∧Ctx W w3 (R5++R1) Φ6∧∀ w7 R8,Ctx W w7 (R5++R8) Φ6→J (.bool c4) w7) (∀ w9 R10,Ctx W w9 (R++R10) Φ→J (.bool false) w9)
theorem Bvalue_RightRow_run (rP:Option Addr) (rN rC:Nat) {W w:World} {R:List Own} {Φ:PW} [Stable Φ] {J:Value→World→Prop} (c:Ctx W w R Φ) (h:Bvalue_RightRow rP rN rC W R Φ J):Calls Tryz.prog F.value_RightRow #[.slice rP rN rC] w fun e w'=>∃ v,e=.returned v∧J v w' :=
  vcFS_sound (H:={ keep:=some [0,2],split:=[1] }) (by rw [show vcFS Tryz.prog W { keep:=some [0,2],split:=[1] } F.value_RightRow #[.slice rP rN rC] R Φ J=Bvalue_RightRow rP rN rC W R Φ J by kernel_rfl];exact h) c
def Bsink_Sink_Has (sB sO:Nat) (batch:Int) (W:World) (R:List Own) (Φ:PW) (J:Value→World→Prop):Prop :=
  ∀ w0 R1,Ctx W w0 (R++R1) Φ→∃ p2 k3 k4,w0.cell? (Addr.mk sB (sO+2) none)=some (.slice p2 k3 k4)∧∀ w5 R6,Ctx W w5 (R++R6) Φ→Calls Tryz.prog F.slices_BinarySearch_int_int #[.slice p2 k3 k4,.int .i64 batch] w5 fun e7 w8=>∃ n9 c10,e7=.returned (Value.tuple #[.int .i64 n9,.bool c10])∧∃ R11 Φ12,Stable Φ12∧Ctx W w8 (R11++R6) Φ12∧∀ w13 R14,Ctx W w13 (R11++R14) Φ12→J (.bool c10) w13
theorem Bsink_Sink_Has_run (sB sO:Nat) (batch:Int) {W w:World} {R:List Own} {Φ:PW} [Stable Φ] {J:Value→World→Prop} (c:Ctx W w R Φ) (h:Bsink_Sink_Has sB sO batch W R Φ J):Calls Tryz.prog F.sink_Sink_Has #[.pointer (some ⟨sB,sO,none⟩),.int .i64 batch] w fun e w'=>∃ v,e=.returned v∧J v w' :=
  vcFS_sound (H:={ keep:=some [0,1,4,6] }) (by rw [show vcFS Tryz.prog W { keep:=some [0,1,4,6] } F.sink_Sink_Has #[.pointer (some ⟨sB,sO,none⟩),.int .i64 batch] R Φ J=Bsink_Sink_Has sB sO batch W R Φ J by kernel_rfl];exact h) c
def Bsink_Sink_look (sB sO:Nat) (batch:Int) (linesP:Option Addr) (linesN linesC:Nat) (W:World) (R:List Own) (Φ:PW) (J:Value→World→Prop):Prop :=
  Br (decide (batch<1)) (∀ w0 R1,Ctx W w0 (R++R1) Φ→J (.int .i64 25) w0) (∀ w2 R3,Ctx W w2 (R++R3) Φ→Calls Tryz.prog F.sink_Sink_Last #[.pointer (some (Addr.mk sB sO none))] w2 fun e4 w5=>∃ n6,e4=.returned (.int .i64 n6)∧∃ R7 Φ8,Stable Φ8∧Ctx W w5 (R7++R3) Φ8∧Br (decide (batch≤n6)) (∀ w9 R10,Ctx W w9 (R7++R10) Φ8→J (.int .i64 25) w9) (exI fun (I11:Int→List Own→PW→Nat→Prop)=>(∃ R12 Φ13 k14,Stable Φ13∧Wk W R7 Φ8 R12 Φ13∧I11 0 R12 Φ13 k14)∧∀ n17 R18 I19 k20,Stable I19→I11 n17 R18 I19 k20→Br (decide (n17<(↑linesN:Int))) ((0≤n17∧n17<(↑linesN:Int))∧ptrK none linesP fun k21 k22=>∀ w23 R24,Ctx W w23 (R18++R24) I19→∃ n25 n26 n27 p28 k29 k30 n31 n32 n33,RowAt w23 k21 (k22+n17.toNat*7) [.int .i64 n25,.int .i64 n26,.int .i64 n27,.slice p28 k29 k30,.int .i64 n31,.int .i64 n32,.int .i64 n33]∧∀ (k34:Nat) (w35 :
  World) (R36:List Own),Ctx W w35 (Own.blk k34 [.int .i64 0,.int .i64 0,.int .i64 0,.slice none 0 0,.int .i64 0,.int .i64 0,.int .i64 0] 31 :: R18++R36) I19→CanWrite w35 k34 0 7∧∀ (w37:World),w37=w35.setCells k34 0 [.int .i64 n25,.int .i64 n26,.int .i64 n27,.slice p28 k29 k30,.int .i64 n31,.int .i64 n32,.int .i64 n33]→∃ R38 Φ39,Stable Φ39∧Ctx W w37 (R38++R36) Φ39∧∀ w40 R41,Ctx W w40 (R38++R41) Φ39→∃ p42 k43 k44,w40.cell? (Addr.mk sB (sO+1) none)=some (.slice p42 k43 k44)∧∀ w45 R46,Ctx W w45 (R38++R46) Φ39→Calls Tryz.prog F.slices_ContainsFunc_int_int #[.slice p42 k43 k44,Value.func (Fn.func 163) #[] #[.pointer (some (Addr.mk k34 0 none))]] w45 fun e47 w48=>∃ c49,e47=.returned (.bool c49)∧∃ R50 Φ51,Stable Φ51∧Ctx W w48 (R50++R46) Φ51∧∀ w52 R53,Ctx W w52 (R50++R53) Φ51→∃ n54,w52.cell? (Addr.mk k34 1 none)=some (.int
  .i64 n54)∧Br (decide (n54≠batch)) (∀ w55 R56,Ctx W w55 (R50++R56) Φ51→J (.int .i64 1) w55) (∀ w57 R58,Ctx W w57 (R50++R58) Φ51→∃ n59,w57.cell? (Addr.mk k34 4 none)=some (.int .i64 n59)∧Br (decide (n59=0)) (∀ w60 R61,Ctx W w60 (R50++R61) Φ51→J (.int .i64 1) w60) (∀ w62 R63,Ctx W w62 (R50++R63) Φ51→∃ p64 k65 k66,w62.cell? (Addr.mk k34 3 none)=some (.slice p64 k65 k66)∧∀ w67 R68,Ctx W w67 (R50++R68) Φ51→Calls Tryz.prog F.value_RightRow #[.slice p64 k65 k66] w67 fun e69 w70=>∃ c71,e69=.returned (.bool c71)∧∃ R72 Φ73,Stable Φ73∧Ctx W w70 (R72++R68) Φ73∧Br (!c71) (∀ w74 R75,Ctx W w74 (R72++R75) Φ73→J (.int .i64 1) w74) (Br c49 (∀ w76 R77,Ctx W w76 (R72++R77) Φ73→J (.int .i64 1) w76) (I64 (n17+1)∧∃ R78 Φ79 k80,Stable Φ79∧Wk W R72 Φ73 R78 Φ79∧I11 (n17+1) R78 Φ79 k80∧k80<k20))))) (exI fun (I83:Int→List Own→PW →
  Nat→Prop)=>(∃ R84 Φ85 k86,Stable Φ85∧Wk W R18 I19 R84 Φ85∧I83 0 R84 Φ85 k86)∧∀ n89 R90 I91 k92,Stable I91→I83 n89 R90 I91 k92→Br (decide (n89<(↑linesN:Int))) ((0≤n89∧n89<(↑linesN:Int))∧ptrK none linesP fun k93 k94=>∀ w95 R96,Ctx W w95 (R90++R96) I91→∃ n97 n98 n99 p100 k101 k102 n103 n104 n105,RowAt w95 k93 (k94+n89.toNat*7) [.int .i64 n97,.int .i64 n98,.int .i64 n99,.slice p100 k101 k102,.int .i64 n103,.int .i64 n104,.int .i64 n105]∧∀ (b:Nat) (w106:World) (R107:List Own),Ctx W w106 (R90++R107) I91→∃ p108 k109 k110,w106.cell? (Addr.mk sB (sO+3) none)=some (.slice p108 k109 k110)∧I64 ((↑k109:Int)+1)∧I64 ((↑k109:Int)+1+n89)∧Br (decide (n97≠(↑k109:Int)+1+n89)) (∀ w111 R112,Ctx W w111 (R90++R112) I91→J (.int .i64 25) w111) (I64 (n89+1)∧∃ R113 Φ114 k115,Stable Φ114∧Wk W R90 I91 R113 Φ114 ∧
  I83 (n89+1) R113 Φ114 k115∧k115<k92)) (∀ w118 R119,Ctx W w118 (R90++R119) I91→J (.int .i64 0) w118))))
theorem Bsink_Sink_look_run (sB sO:Nat) (batch:Int) (linesP:Option Addr) (linesN linesC:Nat) {W w:World} {R:List Own} {Φ:PW} [Stable Φ] {J:Value→World→Prop} (c:Ctx W w R Φ) (h:Bsink_Sink_look sB sO batch linesP linesN linesC W R Φ J):Calls Tryz.prog F.sink_Sink_look #[.pointer (some ⟨sB,sO,none⟩),.int .i64 batch,.slice linesP linesN linesC] w fun e w'=>∃ v,e=.returned v∧J v w' :=
  vcFS_sound (H:={ keep:=some [0,1,2,6,8,9,10,11,19,20,21,22,23,49,51,52,53,54,68],track:=[11],split:=[1,7],loops:=[(11,[(53,.one (.int .i64))],[]),(4,[(22,.one (.int .i64))],[])] }) (by rw [show vcFS Tryz.prog W { keep:=some [0,1,2,6,8,9,10,11,19,20,21,22,23,49,51,52,53,54,68],track:=[11],split:=[1,7],loops:=[(11,[(53,.one (.int .i64))],[]),(4,[(22,.one (.int .i64))],[])] } F.sink_Sink_look #[.pointer (some ⟨sB,sO,none⟩),.int .i64 batch,.slice linesP linesN linesC] R Φ J=Bsink_Sink_look sB sO batch linesP linesN linesC W R Φ J by kernel_rfl];exact h) c
def Bsink_Sink_take (sB sO:Nat) (batch:Int) (linesP:Option Addr) (linesN linesC:Nat) (W:World) (R:List Own) (Φ:PW) (J:Value→World→Prop):Prop :=
  ∀ w0 R1,Ctx W w0 (R++R1) Φ→∃ p2 k3 k4,w0.cell? (Addr.mk sB (sO+2) none)=some (.slice p2 k3 k4)∧∀ (k5:Nat) (w6:World) (R7:List Own),Ctx W w6 (Own.blk k5 [.int .i64 batch] 3 :: R++R7) Φ→∃ (p8:Option Addr) (k9 k10:Nat) (w11:World),Sem.run Tryz.prog (builtin Builtin.append #[23,23] 23 #[false,false] #[.slice p2 k3 k4,.slice (some (Addr.mk k5 0 none)) 1 1]) w6=.ok (.value (.slice p8 k9 k10)) w11∧∃ R12 Φ13,Stable Φ13∧Ctx W w11 (R12++R7) Φ13∧∀ w14 R15,Ctx W w14 (R12++R15) Φ13→CanWrite w14 sB (sO+2) 1∧∀ (w16:World),w16=w14.setCell (Addr.mk sB (sO+2) none) (Value.slice p8 k9 k10)→∃ R17 Φ18,Stable Φ18∧Ctx W w16 (R17++R15) Φ18∧∀ w19 R20,Ctx W w19 (R17++R20) Φ18→∃ p21 k22 k23,w19.cell? (Addr.mk sB (sO+3) none)=some (.slice p21 k22 k23)∧∀ w24 R25,Ctx W w24 (R17++R25) Φ18→∃ (p26:Option Addr) (k27 k28:Nat) (w29 :
  World),Sem.run Tryz.prog (builtin Builtin.append #[22,22] 22 #[false,false] #[.slice p21 k22 k23,.slice linesP linesN linesC]) w24=.ok (.value (.slice p26 k27 k28)) w29∧∃ R30 Φ31,Stable Φ31∧Ctx W w29 (R30++R25) Φ31∧∀ w32 R33,Ctx W w32 (R30++R33) Φ31→CanWrite w32 sB (sO+3) 1∧∀ (w34:World),w34=w32.setCell (Addr.mk sB (sO+3) none) (Value.slice p26 k27 k28)→∃ R35 Φ36,Stable Φ36∧Ctx W w34 (R35++R33) Φ36∧∀ w37 R38,Ctx W w37 (R35++R38) Φ36→J (Value.tuple #[]) w37
theorem Bsink_Sink_take_run (sB sO:Nat) (batch:Int) (linesP:Option Addr) (linesN linesC:Nat) {W w:World} {R:List Own} {Φ:PW} [Stable Φ] {J:Value→World→Prop} (c:Ctx W w R Φ) (h:Bsink_Sink_take sB sO batch linesP linesN linesC W R Φ J):Calls Tryz.prog F.sink_Sink_take #[.pointer (some ⟨sB,sO,none⟩),.int .i64 batch,.slice linesP linesN linesC] w fun e w'=>∃ v,e=.returned v∧J v w' :=
  vcFS_sound (H:={ keep:=some [0,2] }) (by rw [show vcFS Tryz.prog W { keep:=some [0,2] } F.sink_Sink_take #[.pointer (some ⟨sB,sO,none⟩),.int .i64 batch,.slice linesP linesN linesC] R Φ J=Bsink_Sink_take sB sO batch linesP linesN linesC W R Φ J by kernel_rfl];exact h) c
def Berrataref03_CompareRows (aP:Option Addr) (aN aC:Nat) (bP:Option Addr) (bN bC:Nat) (W:World) (R:List Own) (Φ:PW) (J:Value→World→Prop):Prop :=
  exI fun (I0:Int→List Own→PW→Nat→Prop)=>(∃ R1 Φ2 k3,Stable Φ2∧Wk W R Φ R1 Φ2∧I0 0 R1 Φ2 k3)∧∀ n6 R7 I8 k9,Stable I8→I0 n6 R7 I8 k9→∀ w10 R11,Ctx W w10 (R7++R11) I8→Br (decide (n6<(↑aN:Int))&&decide (n6<(↑bN:Int))) (∃ R12 Φ13,Stable Φ13∧Wk W R7 I8 R12 Φ13∧(0≤n6∧n6<(↑aN:Int))∧ptrK none aP fun k16 k17=>(0≤n6∧n6<(↑bN:Int))∧ptrK none bP fun k18 k19=>∃ (n20 n21:Int) (s22:ByteArray),(∀ w23 R24,Ctx W w23 (R12++R24) Φ13→∃ n25 n26 s27,RowAt w23 k16 (k17+n6.toNat*3) [.int .i64 n25,.int .i64 n26,.string s27]∧Value.agg #[.int .i64 n25,.int .i64 n26,.string s27]=Value.agg #[.int .i64 n20,.int .i64 n21,.string s22])∧∃ (n28 n29:Int) (s30:ByteArray),(∀ w31 R32,Ctx W w31 (R12++R32) Φ13→∃ n33 n34 s35,RowAt w31 k18 (k19+n6.toNat*3) [.int .i64 n33,.int .i64 n34,.string s35]∧Value.agg #[.int .i64
  n33,.int .i64 n34,.string s35]=Value.agg #[.int .i64 n28,.int .i64 n29,.string s30])∧∀ w36 R37,Ctx W w36 (R7++R37) I8→Calls Tryz.prog F.errataref03_Compare #[Value.agg #[.int .i64 n20,.int .i64 n21,.string s22],Value.agg #[.int .i64 n28,.int .i64 n29,.string s30]] w36 fun e38 w39=>∃ n40,e38=.returned (.int .i64 n40)∧∃ R41 Φ42,Stable Φ42∧Ctx W w39 (R41++R37) Φ42∧Br (decide (n40≠0)) (∀ w43 R44,Ctx W w43 (R41++R44) Φ42→J (.int .i64 n40) w43) (I64 (n6+1)∧∃ R45 Φ46 k47,Stable Φ46∧Wk W R41 Φ42 R45 Φ46∧I0 (n6+1) R45 Φ46 k47∧k47<k9)) (Br (decide ((↑aN:Int)<(↑bN:Int))) (∀ w50 R51,Ctx W w50 (R7++R51) I8→J (.int .i64 (-1)) w50) (Br (decide ((↑bN:Int)<(↑aN:Int))) (∀ w52 R53,Ctx W w52 (R7++R53) I8→J (.int .i64 1) w52) (∀ w54 R55,Ctx W w54 (R7++R55) I8→J (.int .i64 0) w54)))
theorem Berrataref03_CompareRows_run (aP:Option Addr) (aN aC:Nat) (bP:Option Addr) (bN bC:Nat) {W w:World} {R:List Own} {Φ:PW} [Stable Φ] {J:Value→World→Prop} (c:Ctx W w R Φ) (h:Berrataref03_CompareRows aP aN aC bP bN bC W R Φ J):Calls Tryz.prog F.errataref03_CompareRows #[.slice aP aN aC,.slice bP bN bC] w fun e w'=>∃ v,e=.returned v∧J v w' :=
  vcFS_sound (H:={ keep:=some [0,1,4,5,6,16,29,35,40],stages:=[(4,[.held [(0,true),(1,true),(4,true),(5,true),(2,true),(6,true),(3,true),(7,true)],.stage [] (some 8),.stage [9] none])],loops:=[(2,[(5,.one (.int .i64))],[])] }) (by rw [show vcFS Tryz.prog W { keep:=some [0,1,4,5,6,16,29,35,40],stages:=[(4,[.held [(0,true),(1,true),(4,true),(5,true),(2,true),(6,true),(3,true),(7,true)],.stage [] (some 8),.stage [9] none])],loops:=[(2,[(5,.one (.int .i64))],[])] } F.errataref03_CompareRows #[.slice aP aN aC,.slice bP bN bC] R Φ J=Berrataref03_CompareRows aP aN aC bP bN bC W R Φ J by kernel_rfl];exact h) c
def Bslices_Clone_api_Line_api_Line (sP:Option Addr) (sN sC:Nat) (W:World) (R:List Own) (Φ:PW) (J:Value→World→Prop):Prop :=
  Br sP.isNone (∀ w0 R1,Ctx W w0 (R++R1) Φ→J (.slice none 0 0) w0) (∀ (k2:Nat) (w3:World) (R4:List Own),Ctx W w3 (Own.blk k2 [] 31 :: R++R4) Φ→∃ (p5:Option Addr) (k6 k7:Nat) (w8:World),Sem.run Tryz.prog (builtin Builtin.append #[22,22] 22 #[false,false] #[.slice (some (Addr.mk k2 0 none)) 0 0,.slice sP sN sC]) w3=.ok (.value (.slice p5 k6 k7)) w8∧∃ R9 Φ10,Stable Φ10∧Ctx W w8 (R9++R4) Φ10∧∀ w11 R12,Ctx W w11 (R9++R12) Φ10→J (.slice p5 k6 k7) w11)
theorem Bslices_Clone_api_Line_api_Line_run (sP:Option Addr) (sN sC:Nat) {W w:World} {R:List Own} {Φ:PW} [Stable Φ] {J:Value→World→Prop} (c:Ctx W w R Φ) (h:Bslices_Clone_api_Line_api_Line sP sN sC W R Φ J):Calls Tryz.prog F.slices_Clone_api_Line_api_Line #[.slice sP sN sC] w fun e w'=>∃ v,e=.returned v∧J v w' :=
  vcFS_sound (H:={ keep:=some [0,2,4] }) (by rw [show vcFS Tryz.prog W { keep:=some [0,2,4] } F.slices_Clone_api_Line_api_Line #[.slice sP sN sC] R Φ J=Bslices_Clone_api_Line_api_Line sP sN sC W R Φ J by kernel_rfl];exact h) c
def Bsink_Sink_Commit (sB sO:Nat) (batch:Int) (W:World) (R:List Own) (Φ:PW) (J:Value→World→Prop):Prop :=
  ∀ w0 R1,Ctx W w0 (R++R1) Φ→∃ n2,w0.cell? (Addr.mk sB sO none)=some (.int .i64 n2)∧Br (decide (n2≠0)) (∀ w3 R4,Ctx W w3 (R++R4) Φ→J (.int .i64 7) w3) (∀ w5 R6,Ctx W w5 (R++R6) Φ→Calls Tryz.prog F.sink_Sink_Has #[.pointer (some (Addr.mk sB sO none)),.int .i64 batch] w5 fun e7 w8=>∃ c9,e7=.returned (.bool c9)∧∃ R10 Φ11,Stable Φ11∧Ctx W w8 (R10++R6) Φ11∧Br c9 (∀ w12 R13,Ctx W w12 (R10++R13) Φ11→J (.int .i64 0) w12) (∀ w14 R15,Ctx W w14 (R10++R15) Φ11→∃ (n16:Int),((!decide (batch<1))=true→w14.cell? (Addr.mk sB (sO+4) none)=some (.int .i64 n16))∧Br (decide (batch<1)||decide (batch≠n16)) (∀ w17 R18,Ctx W w17 (R10++R18) Φ11→J (.int .i64 4) w17) (∀ w19 R20,Ctx W w19 (R10++R20) Φ11→∃ p21 k22 k23,w19.cell? (Addr.mk sB (sO+5) none)=some (.slice p21 k22 k23)∧∀ w24 R25,Ctx W w24 (R10++R25) Φ11→Calls Tryz.prog
  F.sink_Sink_take #[.pointer (some (Addr.mk sB sO none)),.int .i64 batch,.slice p21 k22 k23] w24 fun e26 w27=>e26=.returned (Value.tuple #[])∧∃ R28 Φ29,Stable Φ29∧Ctx W w27 (R28++R25) Φ29∧∀ w30 R31,Ctx W w30 (R28++R31) Φ29→CanWrite w30 sB (sO+4) 1∧∀ (w32:World),w32=w30.setCell (Addr.mk sB (sO+4) none) (Value.int IntKind.i64 0)→∃ R33 Φ34,Stable Φ34∧Ctx W w32 (R33++R31) Φ34∧∀ w35 R36,Ctx W w35 (R33++R36) Φ34→CanWrite w35 sB (sO+5) 1∧∀ (w37:World),w37=w35.setCell (Addr.mk sB (sO+5) none) (Value.slice none 0 0)→∃ R38 Φ39,Stable Φ39∧Ctx W w37 (R38++R36) Φ39∧∀ w40 R41,Ctx W w40 (R38++R41) Φ39→J (.int .i64 0) w40)))
theorem Bsink_Sink_Commit_run (sB sO:Nat) (batch:Int) {W w:World} {R:List Own} {Φ:PW} [Stable Φ] {J:Value→World→Prop} (c:Ctx W w R Φ) (h:Bsink_Sink_Commit sB sO batch W R Φ J):Calls Tryz.prog F.sink_Sink_Commit #[.pointer (some ⟨sB,sO,none⟩),.int .i64 batch] w fun e w'=>∃ v,e=.returned v∧J v w' :=
  vcFS_sound (H:={ keep:=some [0,1,4,5,11,15] }) (by rw [show vcFS Tryz.prog W { keep:=some [0,1,4,5,11,15] } F.sink_Sink_Commit #[.pointer (some ⟨sB,sO,none⟩),.int .i64 batch] R Φ J=Bsink_Sink_Commit sB sO batch W R Φ J by kernel_rfl];exact h) c
def Bvalue_all (rP:Option Addr) (rN rC:Nat) (W:World) (R:List Own) (Φ:PW) (J:Value→World→Prop):Prop :=
  ∀ w0 R1,Ctx W w0 (R++R1) Φ→Calls Tryz.prog F.slices_ContainsFunc_api_Value_api_Value #[.slice rP rN rC,Value.func (Fn.func 189) #[] #[]] w0 fun e2 w3=>∃ c4,e2=.returned (.bool c4)∧∃ R5 Φ6,Stable Φ6∧Ctx W w3 (R5++R1) Φ6∧∀ w7 R8,Ctx W w7 (R5++R8) Φ6→J (.bool !c4) w7
theorem Bvalue_all_run (rP:Option Addr) (rN rC:Nat) {W w:World} {R:List Own} {Φ:PW} [Stable Φ] {J:Value→World→Prop} (c:Ctx W w R Φ) (h:Bvalue_all rP rN rC W R Φ J):Calls Tryz.prog F.value_all #[.slice rP rN rC] w fun e w'=>∃ v,e=.returned v∧J v w' :=
  vcFS_sound (H:={ keep:=some [0,2] }) (by rw [show vcFS Tryz.prog W { keep:=some [0,2] } F.value_all #[.slice rP rN rC] R Φ J=Bvalue_all rP rN rC W R Φ J by kernel_rfl];exact h) c
def Bslices_BinarySearch_int_int (xP:Option Addr) (xN xC:Nat) (target:Int) (W:World) (R:List Own) (Φ:PW) (J:Value→World→Prop):Prop :=
  exI fun (I0:Int→Int→List Own→PW→Nat→Prop)=>(∃ R1 Φ2 k3,Stable Φ2∧Wk W R Φ R1 Φ2∧I0 0 (↑xN:Int) R1 Φ2 k3)∧∀ n6 n7 R8 I9 k10,Stable I9→I0 n6 n7 R8 I9 k10→Br (decide (n6<n7)) (I64 (n6+n7)∧∃ (n11:Int),(∀ (w12:World),Sem.run Tryz.prog (binOp BinOp.shr 122 (Value.int IntKind.u64 (IntKind.u64.wrap (n6+n7))) (Value.int IntKind.u64 1)) w12=Result.ok (Value.int IntKind.u64 n11) w12)∧(0≤IntKind.i64.wrap n11∧IntKind.i64.wrap n11<(↑xN:Int))∧ptrK none xP fun k13 k14=>∀ w15 R16,Ctx W w15 (R8++R16) I9→∃ n17,w15.cell? (Addr.mk k13 (k14+(IntKind.i64.wrap n11).toNat) none)=some (.int .i64 n17)∧∀ w18 R19,Ctx W w18 (R8++R19) I9→Calls Tryz.prog F.cmp_Less_int #[.int .i64 n17,.int .i64 target] w18 fun e20 w21=>∃ c22,e20=.returned (.bool c22)∧∃ R23 Φ24,Stable Φ24∧Ctx W w21 (R23++R19) Φ24∧Br c22 (I64 (IntKind.i64.wrap n11
  + 1)∧∃ R25 Φ26 k27,Stable Φ26∧Wk W R23 Φ24 R25 Φ26∧I0 (IntKind.i64.wrap n11+1) n7 R25 Φ26 k27∧k27<k10) (∃ R30 Φ31 k32,Stable Φ31∧Wk W R23 Φ24 R30 Φ31∧I0 n6 (IntKind.i64.wrap n11) R30 Φ31 k32∧k32<k10)) (∀ w35 R36,Ctx W w35 (R8++R36) I9→(decide (n6<(↑xN:Int))=true→0≤n6∧n6<(↑xN:Int))∧ptrK (some (decide (n6<(↑xN:Int)))) xP fun k37 k38=>∃ (n39:Int),(decide (n6<(↑xN:Int))=true→w35.cell? (Addr.mk k37 (k38+n6.toNat) none)=some (.int .i64 n39))∧((decide (n6<(↑xN:Int)) && !decide (n39=target))=true→0≤n6∧n6<(↑xN:Int))∧ptrK (some (decide (n6<(↑xN:Int)) && !decide (n39=target))) xP fun k40 k41=>∃ (n42:Int),((decide (n6<(↑xN:Int)) && !decide (n39=target))=true→w35.cell? (Addr.mk k40 (k41+n6.toNat) none)=some (.int .i64 n42))∧∃ (c43:Bool),((decide (n6<(↑xN:Int)) && !decide (n39 =
  target))=true→∀ (w44:World),w44=w35→Calls Tryz.prog F.slices_isNaN_int #[.int .i64 n42] w44 fun e45 w46=>e45=.returned (.bool c43)∧w46=w35)∧∃ (c47:Bool),((decide (n6<(↑xN:Int)) && !decide (n39=target)&&c43)=true→∀ (w48:World),w48=w35→Calls Tryz.prog F.slices_isNaN_int #[.int .i64 target] w48 fun e49 w50=>e49=.returned (.bool c47)∧w50=w35)∧∀ w51 R52,Ctx W w51 (R8++R52) I9→J (Value.tuple #[.int .i64 n6,.bool (decide (n6<(↑xN:Int))&&(decide (n39=target)||c43&&c47))]) w51)
theorem Bslices_BinarySearch_int_int_run (xP:Option Addr) (xN xC:Nat) (target:Int) {W w:World} {R:List Own} {Φ:PW} [Stable Φ] {J:Value→World→Prop} (c:Ctx W w R Φ) (h:Bslices_BinarySearch_int_int xP xN xC target W R Φ J):Calls Tryz.prog F.slices_BinarySearch_int_int #[.slice xP xN xC,.int .i64 target] w fun e w'=>∃ v,e=.returned v∧J v w' :=
  vcFS_sound (H:={ keep:=some [0,1,4,5,6,7,8,9,15,27],loops:=[(3,[(7,.one (.int .i64)),(8,.one (.int .i64))],[])] }) (by rw [show vcFS Tryz.prog W { keep:=some [0,1,4,5,6,7,8,9,15,27],loops:=[(3,[(7,.one (.int .i64)),(8,.one (.int .i64))],[])] } F.slices_BinarySearch_int_int #[.slice xP xN xC,.int .i64 target] R Φ J=Bslices_BinarySearch_int_int xP xN xC target W R Φ J by kernel_rfl];exact h) c
def Bslices_ContainsFunc_int_int (sP:Option Addr) (sN sC:Nat) (fF:FuncId) (fC:Array Value) (W:World) (R:List Own) (Φ:PW) (J:Value→World→Prop):Prop :=
  ∀ w0 R1,Ctx W w0 (R++R1) Φ→Calls Tryz.prog F.slices_IndexFunc_int_int #[.slice sP sN sC,Value.func (Fn.func fF) #[] fC] w0 fun e2 w3=>∃ n4,e2=.returned (.int .i64 n4)∧∃ R5 Φ6,Stable Φ6∧Ctx W w3 (R5++R1) Φ6∧∀ w7 R8,Ctx W w7 (R5++R8) Φ6→J (.bool (decide (0≤n4))) w7
theorem Bslices_ContainsFunc_int_int_run (sP:Option Addr) (sN sC:Nat) (fF:FuncId) (fC:Array Value) {W w:World} {R:List Own} {Φ:PW} [Stable Φ] {J:Value→World→Prop} (c:Ctx W w R Φ) (h:Bslices_ContainsFunc_int_int sP sN sC fF fC W R Φ J):Calls Tryz.prog F.slices_ContainsFunc_int_int #[.slice sP sN sC,.func (.func fF) #[] fC] w fun e w'=>∃ v,e=.returned v∧J v w' :=
  vcFS_sound (H:={ keep:=some [0,1,4] }) (by rw [show vcFS Tryz.prog W { keep:=some [0,1,4] } F.slices_ContainsFunc_int_int #[.slice sP sN sC,.func (.func fF) #[] fC] R Φ J=Bslices_ContainsFunc_int_int sP sN sC fF fC W R Φ J by kernel_rfl];exact h) c
def Bsink_Sink_look_1 (k:Int) (kB kO:Nat) (W:World) (R:List Own) (Φ:PW) (J:Value→World→Prop):Prop :=
  ∀ w0 R1,Ctx W w0 (R++R1) Φ→∃ p2 k3 k4,w0.cell? (Addr.mk kB (kO+3) none)=some (.slice p2 k3 k4)∧∀ w5 R6,Ctx W w5 (R++R6) Φ→J (.bool (decide ((↑k3:Int)≤k))) w5
theorem Bsink_Sink_look_1_run (k:Int) (kB kO:Nat) {W w:World} {R:List Own} {Φ:PW} [Stable Φ] {J:Value→World→Prop} (c:Ctx W w R Φ) (h:Bsink_Sink_look_1 k kB kO W R Φ J):Calls Tryz.prog F.sink_Sink_look_1 #[.int .i64 k,.pointer (some ⟨kB,kO,none⟩)] w fun e w'=>∃ v,e=.returned v∧J v w' :=
  vcFS_sound (H:={ keep:=some [0,1,3] }) (by rw [show vcFS Tryz.prog W { keep:=some [0,1,3] } F.sink_Sink_look_1 #[.int .i64 k,.pointer (some ⟨kB,kO,none⟩)] R Φ J=Bsink_Sink_look_1 k kB kO W R Φ J by kernel_rfl];exact h) c
def Berrataref03_Compare (a0:Int) (a1:Int) (a2:ByteArray) (b0:Int) (b1:Int) (b2:ByteArray) (W:World) (R:List Own) (Φ:PW) (J:Value→World→Prop):Prop :=
  ∀ (b b:Nat),Br (decide (a0<b0)) (∀ w0 R1,Ctx W w0 (R++R1) Φ→J (.int .i64 (-1)) w0) (Br (decide (b0<a0)) (∀ w2 R3,Ctx W w2 (R++R3) Φ→J (.int .i64 1) w2) (Br (decide (a1<b1)) (∀ w4 R5,Ctx W w4 (R++R5) Φ→J (.int .i64 (-1)) w4) (Br (decide (b1<a1)) (∀ w6 R7,Ctx W w6 (R++R7) Φ→J (.int .i64 1) w6) (Br (Op.bytesLess (ByteArray.toList.loop a2 0 []) (ByteArray.toList.loop b2 0 [])) (∀ w8 R9,Ctx W w8 (R++R9) Φ→J (.int .i64 (-1)) w8) (∃ (c10:Bool),(∀ (w11:World),Sem.run Tryz.prog (binOp BinOp.gtr 9 (Value.string a2) (Value.string b2)) w11=Result.ok (Value.bool c10) w11)∧Br c10 (∀ w12 R13,Ctx W w12 (R++R13) Φ→J (.int .i64 1) w12) (∀ w14 R15,Ctx W w14 (R++R15) Φ→J (.int .i64 0) w14))))))
theorem Berrataref03_Compare_run (a0:Int) (a1:Int) (a2:ByteArray) (b0:Int) (b1:Int) (b2:ByteArray) {W w:World} {R:List Own} {Φ:PW} [Stable Φ] {J:Value→World→Prop} (c:Ctx W w R Φ) (h:Berrataref03_Compare a0 a1 a2 b0 b1 b2 W R Φ J):Calls Tryz.prog F.errataref03_Compare #[.agg #[.int .i64 a0,.int .i64 a1,.string a2],.agg #[.int .i64 b0,.int .i64 b1,.string b2]] w fun e w'=>∃ v,e=.returned v∧J v w' :=
  vcFS_sound (H:={ keep:=some [2,3,4,9,14,19,24,29,34],track:=[2,3] }) (by rw [show vcFS Tryz.prog W { keep:=some [2,3,4,9,14,19,24,29,34],track:=[2,3] } F.errataref03_Compare #[.agg #[.int .i64 a0,.int .i64 a1,.string a2],.agg #[.int .i64 b0,.int .i64 b1,.string b2]] R Φ J=Berrataref03_Compare a0 a1 a2 b0 b1 b2 W R Φ J by kernel_rfl];exact h) c
def Bslices_ContainsFunc_api_Value_api_Value (sP:Option Addr) (sN sC:Nat) (fF:FuncId) (fC:Array Value) (W:World) (R:List Own) (Φ:PW) (J:Value→World→Prop):Prop :=
  ∀ w0 R1,Ctx W w0 (R++R1) Φ→Calls Tryz.prog F.slices_IndexFunc_api_Value_api_Value #[.slice sP sN sC,Value.func (Fn.func fF) #[] fC] w0 fun e2 w3=>∃ n4,e2=.returned (.int .i64 n4)∧∃ R5 Φ6,Stable Φ6∧Ctx W w3 (R5++R1) Φ6∧∀ w7 R8,Ctx W w7 (R5++R8) Φ6→J (.bool (decide (0≤n4))) w7
theorem Bslices_ContainsFunc_api_Value_api_Value_run (sP:Option Addr) (sN sC:Nat) (fF:FuncId) (fC:Array Value) {W w:World} {R:List Own} {Φ:PW} [Stable Φ] {J:Value→World→Prop} (c:Ctx W w R Φ) (h:Bslices_ContainsFunc_api_Value_api_Value sP sN sC fF fC W R Φ J):Calls Tryz.prog F.slices_ContainsFunc_api_Value_api_Value #[.slice sP sN sC,.func (.func fF) #[] fC] w fun e w'=>∃ v,e=.returned v∧J v w' :=
  vcFS_sound (H:={ keep:=some [0,1,4] }) (by rw [show vcFS Tryz.prog W { keep:=some [0,1,4] } F.slices_ContainsFunc_api_Value_api_Value #[.slice sP sN sC,.func (.func fF) #[] fC] R Φ J=Bslices_ContainsFunc_api_Value_api_Value sP sN sC fF fC W R Φ J by kernel_rfl];exact h) c
def Bvalue_all_1 (v0:Int) (v1:Int) (v2:ByteArray) (W:World) (R:List Own) (Φ:PW) (J:Value→World→Prop):Prop :=
  ∀ (b:Nat) (w0:World) (R1:List Own),Ctx W w0 (R++R1) Φ→Calls Tryz.prog F.value_Right #[Value.agg #[.int .i64 v0,.int .i64 v1,.string v2]] w0 fun e2 w3=>∃ c4,e2=.returned (.bool c4)∧∃ R5 Φ6,Stable Φ6∧Ctx W w3 (R5++R1) Φ6∧∀ w7 R8,Ctx W w7 (R5++R8) Φ6→J (.bool !c4) w7
theorem Bvalue_all_1_run (v0:Int) (v1:Int) (v2:ByteArray) {W w:World} {R:List Own} {Φ:PW} [Stable Φ] {J:Value→World→Prop} (c:Ctx W w R Φ) (h:Bvalue_all_1 v0 v1 v2 W R Φ J):Calls Tryz.prog F.value_all_1 #[.agg #[.int .i64 v0,.int .i64 v1,.string v2]] w fun e w'=>∃ v,e=.returned v∧J v w' :=
  vcFS_sound (H:={ keep:=some [1,2],track:=[1] }) (by rw [show vcFS Tryz.prog W { keep:=some [1,2],track:=[1] } F.value_all_1 #[.agg #[.int .i64 v0,.int .i64 v1,.string v2]] R Φ J=Bvalue_all_1 v0 v1 v2 W R Φ J by kernel_rfl];exact h) c
def Bvalue_Right (v0:Int) (v1:Int) (v2:ByteArray) (W:World) (R:List Own) (Φ:PW) (J:Value→World→Prop):Prop :=
  ∀ (b:Nat),Br (decide (v0=0)) (∃ R0 Φ1,Stable Φ1∧Wk W R Φ R0 Φ1∧∀ w4 R5,Ctx W w4 (R++R5) Φ→Calls Tryz.prog F.value_Int #[.int .i64 v1] w4 fun e6 w7=>∃ n8 n9 s10,e6=.returned (Value.agg #[.int .i64 n8,.int .i64 n9,.string s10])∧∃ R11 Φ12,Stable Φ12∧Ctx W w7 (R11++R5) Φ12∧Wk W R11 Φ12 R0 Φ1∧okAgg Tryz.prog 147=true∧∀ w15 R16,Ctx W w15 (R11++R16) Φ12→J (.bool (decide (v0=n8)&&(decide (v1=n9)&&(decide (v2=s10)&&true)))) w15) (Br (decide (v0=1)) (∃ R17 Φ18,Stable Φ18∧Wk W R Φ R17 Φ18∧∀ w21 R22,Ctx W w21 (R++R22) Φ→Calls Tryz.prog F.value_Text #[.string v2] w21 fun e23 w24=>∃ n25 n26 s27,e23=.returned (Value.agg #[.int .i64 n25,.int .i64 n26,.string s27])∧∃ R28 Φ29,Stable Φ29∧Ctx W w24 (R28++R22) Φ29∧Wk W R28 Φ29 R17 Φ18∧okAgg Tryz.prog 147=true∧Br (decide (v0=n25)&&(decide (v1=n26)&&(decide (v2 =
  s27)&&true))) (∀ w32 R33,Ctx W w32 (R28++R33) Φ29→J (.bool (decide ((↑v2.size:Int)≤200))) w32) (∀ w34 R35,Ctx W w34 (R28++R35) Φ29→J (.bool false) w34)) (∃ R36 Φ37,Stable Φ37∧Wk W R Φ R36 Φ37∧∀ w40 R41,Ctx W w40 (R++R41) Φ→Calls Tryz.prog F.value_Bool #[.bool false] w40 fun e42 w43=>∃ n44 n45 s46,e42=.returned (Value.agg #[.int .i64 n44,.int .i64 n45,.string s46])∧∃ R47 Φ48,Stable Φ48∧Ctx W w43 (R47++R41) Φ48∧Wk W R47 Φ48 R36 Φ37∧∃ R51 Φ52,Stable Φ52∧Wk W R47 Φ48 R51 Φ52∧okAgg Tryz.prog 147=true∧Br (decide (v0=n44)&&(decide (v1=n45)&&(decide (v2=s46)&&true))) (∀ w55 R56,Ctx W w55 (R47++R56) Φ48→J (.bool true) w55) (∀ w57 R58,Ctx W w57 (R47++R58) Φ48→Calls Tryz.prog F.value_Bool #[.bool true] w57 fun e59 w60=>∃ n61 n62 s63,e59=.returned (Value.agg #[.int .i64 n61,.int .i64 n62,.string s63])∧∃ R64 Φ65,
  Stable Φ65∧Ctx W w60 (R64++R58) Φ65∧Wk W R64 Φ65 R51 Φ52∧okAgg Tryz.prog 147=true∧∀ w68 R69,Ctx W w68 (R64++R69) Φ65→J (.bool (decide (v0=n61)&&(decide (v1=n62)&&(decide (v2=s63)&&true)))) w68)))
theorem Bvalue_Right_run (v0:Int) (v1:Int) (v2:ByteArray) {W w:World} {R:List Own} {Φ:PW} [Stable Φ] {J:Value→World→Prop} (c:Ctx W w R Φ) (h:Bvalue_Right v0 v1 v2 W R Φ J):Calls Tryz.prog F.value_Right #[.agg #[.int .i64 v0,.int .i64 v1,.string v2]] w fun e w'=>∃ v,e=.returned v∧J v w' :=
  vcFS_sound (H:={ keep:=some [1,2,4,5,12],track:=[1],stages:=[(3,[.held [(0,true),(1,true),(2,true),(3,false)],.stage [4,5] none]),(5,[.held [(0,true),(1,true),(2,true),(3,false)],.stage [4,5,6,7,8,9,10,11] none]),(6,[.held [(0,true),(1,false)],.held [(2,true),(3,true),(4,true),(5,false)],.stage [6,7,8] none])] }) (by rw [show vcFS Tryz.prog W { keep:=some [1,2,4,5,12],track:=[1],stages:=[(3,[.held [(0,true),(1,true),(2,true),(3,false)],.stage [4,5] none]),(5,[.held [(0,true),(1,true),(2,true),(3,false)],.stage [4,5,6,7,8,9,10,11] none]),(6,[.held [(0,true),(1,false)],.held [(2,true),(3,true),(4,true),(5,false)],.stage [6,7,8] none])] } F.value_Right #[.agg #[.int .i64 v0,.int .i64 v1,.string v2]] R Φ J=Bvalue_Right v0 v1 v2 W R Φ J by kernel_rfl];exact h) c
def Bcmp_Less_int (x:Int) (y:Int) (W:World) (R:List Own) (Φ:PW) (J:Value→World→Prop):Prop :=
  ∀ w0 R1,Ctx W w0 (R++R1) Φ→∃ (c2:Bool),(∀ (w3:World),w3=w0→Calls Tryz.prog F.cmp_isNaN_int #[.int .i64 x] w3 fun e4 w5=>e4=.returned (.bool c2)∧w5=w0)∧∃ (c6:Bool),(c2=true→∀ (w7:World),w7=w0→Calls Tryz.prog F.cmp_isNaN_int #[.int .i64 y] w7 fun e8 w9=>e8=.returned (.bool c6)∧w9=w0)∧∀ w10 R11,Ctx W w10 (R++R11) Φ→J (.bool (c2 && !c6||decide (x<y))) w10
theorem Bcmp_Less_int_run (x:Int) (y:Int) {W w:World} {R:List Own} {Φ:PW} [Stable Φ] {J:Value→World→Prop} (c:Ctx W w R Φ) (h:Bcmp_Less_int x y W R Φ J):Calls Tryz.prog F.cmp_Less_int #[.int .i64 x,.int .i64 y] w fun e w'=>∃ v,e=.returned v∧J v w' :=
  vcFS_sound (H:={ keep:=some [0,1,4] }) (by rw [show vcFS Tryz.prog W { keep:=some [0,1,4] } F.cmp_Less_int #[.int .i64 x,.int .i64 y] R Φ J=Bcmp_Less_int x y W R Φ J by kernel_rfl];exact h) c
def Bslices_IndexFunc_int_int (sP:Option Addr) (sN sC:Nat) (fF:FuncId) (fC:Array Value) (W:World) (R:List Own) (Φ:PW) (J:Value→World→Prop):Prop :=
  exI fun (I0:Int→List Own→PW→Nat→Prop)=>(∃ R1 Φ2 k3,Stable Φ2∧Wk W R Φ R1 Φ2∧I0 0 R1 Φ2 k3)∧∀ n6 R7 I8 k9,Stable I8→I0 n6 R7 I8 k9→Br (decide (n6<(↑sN:Int))) ((0≤n6∧n6<(↑sN:Int))∧ptrK none sP fun k10 k11=>∀ w12 R13,Ctx W w12 (R7++R13) I8→∃ n14,w12.cell? (Addr.mk k10 (k11+n6.toNat) none)=some (.int .i64 n14)∧∀ w15 R16,Ctx W w15 (R7++R16) I8→okFun Tryz.prog fF=true∧Calls Tryz.prog fF (Array.mk (Value.int IntKind.i64 n14 :: fC.toList)) w15 fun e17 w18=>∃ c19,e17=.returned (.bool c19)∧∃ R20 Φ21,Stable Φ21∧Ctx W w18 (R20++R16) Φ21∧Br c19 (∀ w22 R23,Ctx W w22 (R20++R23) Φ21→J (.int .i64 n6) w22) (I64 (n6+1)∧∃ R24 Φ25 k26,Stable Φ25∧Wk W R20 Φ21 R24 Φ25∧I0 (n6+1) R24 Φ25 k26∧k26<k9)) (∀ w29 R30,Ctx W w29 (R7++R30) I8→J (.int .i64 (-1)) w29)
theorem Bslices_IndexFunc_int_int_run (sP:Option Addr) (sN sC:Nat) (fF:FuncId) (fC:Array Value) {W w:World} {R:List Own} {Φ:PW} [Stable Φ] {J:Value→World→Prop} (c:Ctx W w R Φ) (h:Bslices_IndexFunc_int_int sP sN sC fF fC W R Φ J):Calls Tryz.prog F.slices_IndexFunc_int_int #[.slice sP sN sC,.func (.func fF) #[] fC] w fun e w'=>∃ v,e=.returned v∧J v w' :=
  vcFS_sound (H:={ keep:=some [0,1,4,5,7,8,9,16],wrap:=[16],loops:=[(2,[(8,.one (.int .i64))],[])] }) (by rw [show vcFS Tryz.prog W { keep:=some [0,1,4,5,7,8,9,16],wrap:=[16],loops:=[(2,[(8,.one (.int .i64))],[])] } F.slices_IndexFunc_int_int #[.slice sP sN sC,.func (.func fF) #[] fC] R Φ J=Bslices_IndexFunc_int_int sP sN sC fF fC W R Φ J by kernel_rfl];exact h) c
def Bslices_IndexFunc_api_Value_api_Value (sP:Option Addr) (sN sC:Nat) (fF:FuncId) (fC:Array Value) (W:World) (R:List Own) (Φ:PW) (J:Value→World→Prop):Prop :=
  exI fun (I0:Int→List Own→PW→Nat→Prop)=>(∃ R1 Φ2 k3,Stable Φ2∧Wk W R Φ R1 Φ2∧I0 0 R1 Φ2 k3)∧∀ n6 R7 I8 k9,Stable I8→I0 n6 R7 I8 k9→Br (decide (n6<(↑sN:Int))) ((0≤n6∧n6<(↑sN:Int))∧ptrK none sP fun k10 k11=>∀ w12 R13,Ctx W w12 (R7++R13) I8→∃ n14 n15 s16,RowAt w12 k10 (k11+n6.toNat*3) [.int .i64 n14,.int .i64 n15,.string s16]∧∀ w17 R18,Ctx W w17 (R7++R18) I8→okFun Tryz.prog fF=true∧Calls Tryz.prog fF (Array.mk (Value.agg #[.int .i64 n14,.int .i64 n15,.string s16] :: fC.toList)) w17 fun e19 w20=>∃ c21,e19=.returned (.bool c21)∧∃ R22 Φ23,Stable Φ23∧Ctx W w20 (R22++R18) Φ23∧Br c21 (∀ w24 R25,Ctx W w24 (R22++R25) Φ23→J (.int .i64 n6) w24) (I64 (n6+1)∧∃ R26 Φ27 k28,Stable Φ27∧Wk W R22 Φ23 R26 Φ27∧I0 (n6+1) R26 Φ27 k28∧k28<k9)) (∀ w31 R32,Ctx W w31 (R7++R32) I8→J (.int .i64 (-1)) w31)
theorem Bslices_IndexFunc_api_Value_api_Value_run (sP:Option Addr) (sN sC:Nat) (fF:FuncId) (fC:Array Value) {W w:World} {R:List Own} {Φ:PW} [Stable Φ] {J:Value→World→Prop} (c:Ctx W w R Φ) (h:Bslices_IndexFunc_api_Value_api_Value sP sN sC fF fC W R Φ J):Calls Tryz.prog F.slices_IndexFunc_api_Value_api_Value #[.slice sP sN sC,.func (.func fF) #[] fC] w fun e w'=>∃ v,e=.returned v∧J v w' :=
  vcFS_sound (H:={ keep:=some [0,1,4,5,7,8,9,16],wrap:=[16],loops:=[(2,[(8,.one (.int .i64))],[])] }) (by rw [show vcFS Tryz.prog W { keep:=some [0,1,4,5,7,8,9,16],wrap:=[16],loops:=[(2,[(8,.one (.int .i64))],[])] } F.slices_IndexFunc_api_Value_api_Value #[.slice sP sN sC,.func (.func fF) #[] fC] R Φ J=Bslices_IndexFunc_api_Value_api_Value sP sN sC fF fC W R Φ J by kernel_rfl];exact h) c
def Bvalue_Int (n:Int) (W:World) (R:List Own) (Φ:PW) (J:Value→World→Prop):Prop :=
  ∀ (b:Nat) (w0:World) (R1:List Own),Ctx W w0 (R++R1) Φ→J (Value.agg #[.int .i64 0,Value.int IntKind.i64 n,Value.string (ByteArray.mk #[])]) w0
theorem Bvalue_Int_run (n:Int) {W w:World} {R:List Own} {Φ:PW} [Stable Φ] {J:Value→World→Prop} (c:Ctx W w R Φ) (h:Bvalue_Int n W R Φ J):Calls Tryz.prog F.value_Int #[.int .i64 n] w fun e w'=>∃ v,e=.returned v∧J v w' :=
  vcFS_sound (H:={ keep:=some [0,2],track:=[2] }) (by rw [show vcFS Tryz.prog W { keep:=some [0,2],track:=[2] } F.value_Int #[.int .i64 n] R Φ J=Bvalue_Int n W R Φ J by kernel_rfl];exact h) c
def Bvalue_Text (s:ByteArray) (W:World) (R:List Own) (Φ:PW) (J:Value→World→Prop):Prop :=
  ∀ (b:Nat) (w0:World) (R1:List Own),Ctx W w0 (R++R1) Φ→J (Value.agg #[.int .i64 1,.int .i64 0,.string s]) w0
theorem Bvalue_Text_run (s:ByteArray) {W w:World} {R:List Own} {Φ:PW} [Stable Φ] {J:Value→World→Prop} (c:Ctx W w R Φ) (h:Bvalue_Text s W R Φ J):Calls Tryz.prog F.value_Text #[.string s] w fun e w'=>∃ v,e=.returned v∧J v w' :=
  vcFS_sound (H:={ keep:=some [0,2],track:=[2] }) (by rw [show vcFS Tryz.prog W { keep:=some [0,2],track:=[2] } F.value_Text #[.string s] R Φ J=Bvalue_Text s W R Φ J by kernel_rfl];exact h) c
def Bvalue_Bool (b:Bool) (W:World) (R:List Own) (Φ:PW) (J:Value→World→Prop):Prop :=
  ∀ (b_1:Nat),Br b (∀ w0 R1,Ctx W w0 (R++R1) Φ→J (Value.agg #[.int .i64 2,Value.int IntKind.i64 1,Value.string (ByteArray.mk #[])]) w0) (∀ w2 R3,Ctx W w2 (R++R3) Φ→J (Value.agg #[.int .i64 2,Value.int IntKind.i64 0,Value.string (ByteArray.mk #[])]) w2)
theorem Bvalue_Bool_run (b:Bool) {W w:World} {R:List Own} {Φ:PW} [Stable Φ] {J:Value→World→Prop} (c:Ctx W w R Φ) (h:Bvalue_Bool b W R Φ J):Calls Tryz.prog F.value_Bool #[.bool b] w fun e w'=>∃ v,e=.returned v∧J v w' :=
  vcFS_sound (H:={ keep:=some [0,2,3],track:=[2] }) (by rw [show vcFS Tryz.prog W { keep:=some [0,2,3],track:=[2] } F.value_Bool #[.bool b] R Φ J=Bvalue_Bool b W R Φ J by kernel_rfl];exact h) c
end Go.Proofs.YtfccagphnfceiaaGreatDoor
end

section
namespace Go.Proofs.YtfccagphnfceiaaGreatDoor
open Go Go.RowKit Go.Vc
def Qslices_isNaN_int (x:Int) (w:World) (J:Value→World→Prop):Prop :=
  J (Value.bool (decide (x≠x))) w
theorem Qslices_isNaN_int_run (x:Int) (w:World) (J:Value→World→Prop) (h:Qslices_isNaN_int x w J):Calls Tryz.prog F.slices_isNaN_int #[.int .i64 x] w fun e w'=>∃ v,e=.returned v∧J v w':=by
  have h:J (Value.bool (decide (x≠x))) w:=h
  go_enter Tryz.func192,Tryz.ntmps192
  go_wp2
  all_goals go_ret
  all_goals (first|exact ⟨_,rfl,h⟩|exact ⟨_,rfl,by simpa using h⟩)
def Qcmp_isNaN_int (x:Int) (w:World) (J:Value→World→Prop):Prop :=
  J (Value.bool (decide (x≠x))) w
theorem Qcmp_isNaN_int_run (x:Int) (w:World) (J:Value→World→Prop) (h:Qcmp_isNaN_int x w J):Calls Tryz.prog F.cmp_isNaN_int #[.int .i64 x] w fun e w'=>∃ v,e=.returned v∧J v w':=by
  have h:J (Value.bool (decide (x≠x))) w:=h
  go_enter Tryz.func207,Tryz.ntmps207
  go_wp2
  all_goals go_ret
  all_goals (first|exact ⟨_,rfl,h⟩|exact ⟨_,rfl,by simpa using h⟩)
end Go.Proofs.YtfccagphnfceiaaGreatDoor
end

section
namespace Go.Vc
section
variable {P:Program} {W w:World} {S F:List Own} {Φ Ψ:PW}
structure Quiet (P:Program) (f:FuncId) (args:Array Value) (v:Value):Prop where
  go:∀ w,Calls P f args w fun e w'=>e=.returned v∧w'=w
structure Gives (P:Program) (f:FuncId) (args:Array Value) (v:Value):Prop where
  go:∀ (W w:World) (S:List Own) (Φ:PW),Stable Φ→Ctx W w S Φ→Calls P f args w fun e w'=>e=.returned v∧Ctx W w' S Φ
theorem Quiet.at {f:FuncId} {args:Array Value} {v:Value} (h:Quiet P f args v) {w w0:World} (e:w=w0):Calls P f args w fun e w'=>e=.returned v∧w'=w0:=by subst e;exact h.go w
theorem Quiet.gives {f:FuncId} {args:Array Value} {v:Value} (h:Quiet P f args v):Gives P f args v :=
  ⟨fun W w S Φ _ c=>(h.go w).mono fun e w' ⟨h1,h2⟩=>by subst h2;exact ⟨h1,c⟩⟩
theorem Gives.use {f:FuncId} {args:Array Value} {v:Value} (h:Gives P f args v) [hs:Stable Φ] (c:Ctx W w S Φ) {K:Ending→World→Prop} (hk:∀ w',Ctx W w' S Φ→K (.returned v) w'):Calls P f args w K :=
  (h.go W w S Φ hs c).mono fun e w' ⟨he,c'⟩=>by subst he;exact hk w' c'
theorem gives_of {f:FuncId} {args:Array Value} {v:Value} {B:World→List Own→PW→(Value→World→Prop)→Prop}
    (run:∀ {W w:World} {R:List Own} {Φ:PW} [Stable Φ] {J:Value→World→Prop},Ctx W w R Φ→B W R Φ J→Calls P f args w fun e w'=>∃ v,e=.returned v∧J v w')
    (h:∀ (W:World) (R:List Own) (Φ:PW),Stable Φ→B W R Φ fun u w'=>u=v∧Ctx W w' R Φ):Gives P f args v :=
  ⟨fun W w S Φ hs c=>calls_of (run c (h W S Φ hs)) fun u w' ⟨h1,h2⟩=>⟨by rw [h1],h2⟩⟩
structure GivesIn (Φ:PW) (P:Program) (f:FuncId) (args:Array Value) (v:Value):Prop where
  go:∀ (W w:World) (S:List Own),Ctx W w S Φ→Calls P f args w fun e w'=>e=.returned v∧Ctx W w' S Φ
theorem GivesIn.use {f:FuncId} {args:Array Value} {v:Value} (h:GivesIn Φ P f args v) (c:Ctx W w S Φ) {K:Ending→World→Prop} (hk:∀ w',Ctx W w' S Φ→K (.returned v) w'):Calls P f args w K :=
  (h.go W w S c).mono fun e w' ⟨he,c'⟩=>by subst he;exact hk w' c'
theorem Gives.in [hs:Stable Φ] {f:FuncId} {args:Array Value} {v:Value} (h:Gives P f args v):GivesIn Φ P f args v:=⟨fun W w S c=>h.go W w S Φ hs c⟩
theorem gives_in [Stable Φ] {f:FuncId} {args:Array Value} {v:Value} {B:World→List Own→PW→(Value→World→Prop)→Prop}
    (run:∀ {W w:World} {R:List Own} {Φ:PW} [Stable Φ] {J:Value→World→Prop},Ctx W w R Φ→B W R Φ J→Calls P f args w fun e w'=>∃ v,e=.returned v∧J v w')
    (h:∀ (W:World) (R:List Own),B W R Φ fun u w'=>u=v∧Ctx W w' R Φ):GivesIn Φ P f args v :=
  ⟨fun W w S c=>calls_of (run c (h W S)) fun u w' ⟨h1,h2⟩=>⟨by rw [h1],h2⟩⟩
theorem Ctx.left [Stable Φ] (c:Ctx W w (S++F) Φ):Ctx W w S Φ:=c.sub (List.sublist_append_left _ _)
theorem Ctx.right [Stable Φ] (c:Ctx W w (S++F) Φ):Ctx W w F Φ:=c.sub (List.sublist_append_right _ _)
theorem Ctx.fst [Stable Φ] [Stable Ψ] (c:Ctx W w S (fun M w=>Φ M w∧Ψ M w)):Ctx W w S Φ:=c.weak fun _ _ h=>h.1
theorem rows_of {cs vs:List Value} {o:Nat} (h:(cs.drop o).take vs.length=vs):∀ j,(hj:j<vs.length)→cs[o+j]? = some vs[j]:=by
  intro j hj
  have h1:((cs.drop o).take vs.length)[j]? = vs[j]? := by rw [h]
  rw [List.getElem?_take_of_lt hj,List.getElem?_drop] at h1
  rw [h1,List.getElem?_eq_getElem hj]
theorem quiet_of {f:FuncId} {args:Array Value} {v:Value} {B:World→(Value→World→Prop)→Prop}
    (run:∀ (w:World) (J:Value→World→Prop),B w J→Calls P f args w fun e w'=>∃ v,e=.returned v∧J v w')
    (h:∀ w,B w fun u w'=>u=v∧w'=w):Quiet P f args v :=
  ⟨fun w=>calls_of (run w _ (h w)) fun u w' ⟨h1,h2⟩=>⟨by rw [h1],h2⟩⟩
end
def Pin {α:Type} [Gv α] (b o:Nat) (cs:List (List Value)) (l:List α) (M:List Nat) (w:World):Prop :=
  ∀ j,(hj:j<l.length)→b ∉ M∧RowAt w b (o+j*(Gv.ty α).size) (cs.getD j [])∧Gv.rep M w (cs.getD j []) l[j]
instance instStablePin {α:Type} [Gv α] (b o:Nat) (cs:List (List Value)) (l:List α):Stable (fun M w=>Pin b o cs l M w):=⟨fun hs h j hj=>by
  obtain ⟨h2,h3,h4⟩:=h j hj
  have hlt:=row_lt h3 (by rw [Gv.len h4];exact Gv.pos)
  exact ⟨fun hm=>by rcases hs.sub b hm with h|h;exact h2 h;omega,hs.chg.row h3 h2,Gv.stable hs h4⟩⟩
theorem Sl.pin {α:Type} [Gv α] {M:List Nat} {w:World} {p:Option Addr} {l:List α} (h:Sl M w p l):∃ b o cs,(0<l.length→p=some ⟨b,o,none⟩)∧Pin b o cs l M w:=by
  by_cases h0:0<l.length
  · obtain ⟨b,o,_,hp,_⟩:=h 0 h0
    have key:∀ j,j<l.length→∃ cs:List Value,∀ hj:j<l.length,b ∉ M∧RowAt w b (o+j*(Gv.ty α).size) cs∧Gv.rep M w cs l[j]:=by
      intro j hj
      obtain ⟨b',o',cs,h1,h2,h3,h4⟩:=h j hj
      rw [hp] at h1
      cases h1
      exact ⟨cs,fun _=>⟨h2,h3,h4⟩⟩
    obtain ⟨cs,hl,hcs⟩:=list_build l.length key
    refine ⟨b,o,cs,fun _=>hp,fun j hj=>?_⟩
    have:=hcs j (by omega) hj
    rw [show cs.getD j []=cs[j] by simp [List.getD,show j<cs.length by omega]]
    exact this
  · exact ⟨0,0,[],fun h=>absurd h h0,fun j hj=>by omega⟩
theorem Ctx.pin {W w:World} {S:List Own} {Φ:PW} (c:Ctx W w S Φ) {α:Type} [Gv α] {p:Option Addr} {l:List α} (h:Sl (dom S) w p l) :
    ∃ b o cs,(0<l.length→p=some ⟨b,o,none⟩)∧Ctx W w S (fun M w=>Φ M w∧Pin b o cs l M w):=by
  obtain ⟨b,o,cs,hp,hpin⟩:=h.pin
  exact ⟨b,o,cs,hp,c.add hpin⟩
theorem GivesIn.pinned {Φ:PW} [Stable Φ] {P:Program} {f:FuncId} {args:Array Value} {v:Value} {α:Type} [Gv α] {p:Option Addr} {l:List α} (hΦ:∀ M w,Φ M w→Sl M w p l)
    (h:∀ b o cs,(0<l.length→p=some ⟨b,o,none⟩)→GivesIn (fun M w=>Φ M w∧Pin b o cs l M w) P f args v):GivesIn Φ P f args v :=
  ⟨fun W w S c=>by
    obtain ⟨b,o,cs,hp,c'⟩:=c.pin (hΦ _ _ c.phi)
    exact ((h b o cs hp).go W w S c').mono fun e w' ⟨h1,h2⟩=>⟨h1,h2.fst⟩⟩
end Go.Vc
end

section
namespace Go.Vc
section
variable {P:Program} {W w:World} {S F:List Own} {Φ Ψ:PW}
def Parked (W:World) (o:Own) (M:List Nat) (w:World):Prop:=o.at w∧∀ b∈o.dom,b ∉ M∧W.heap.size≤b
instance instStableParked (W:World) (o:Own):Stable (fun M w=>Parked W o M w):=⟨fun hs h =>
  ⟨Own.at_keep h.1 fun b hb=>hs.chg.block b (Own.at_lt h.1 b hb) (h.2 b hb).1,fun b hb=>⟨fun hm=>by
    rcases hs.sub b hm with h1|h1
    · exact (h.2 b hb).1 h1
    · have:=Own.at_lt h.1 b hb;omega,(h.2 b hb).2⟩⟩⟩
instance instStableMore (D:List Nat) (Φ:PW) [Stable Φ]:Stable (fun M w=>Φ (D++M) w):=⟨fun {M M' w w'} hs h =>
  Stable.step (Φ:=Φ) (M:=D++M) (M':=D++M') ⟨hs.chg.mono fun x hx=>List.mem_append_right _ hx,fun b hb=>by
    rcases List.mem_append.1 hb with h|h
    · exact .inl (List.mem_append_left _ h)
    · rcases hs.sub b h with h|h
      · exact .inl (List.mem_append_right _ h)
      · exact .inr h⟩ h⟩
theorem Own.nodup (o:Own):o.dom.Nodup:=by
  cases o with
  | blk=>simp [Own.dom]
  | obj=>simp [Own.dom]
  | buf p=>cases p<;>simp [Own.dom]
theorem dom_cons (o:Own) (S:List Own):dom (o :: S)=o.dom++dom S:=rfl
theorem Ctx.park {o:Own} (c:Ctx W w (o :: S) Φ):Ctx W w S (fun M w=>Φ (o.dom++M) w∧Parked W o M w) :=
  ⟨c.chg,fun x hx=>c.own x (List.mem_cons_of_mem _ hx),fun b hb=>c.young b (by rw [dom_cons];exact List.mem_append_right _ hb),
    (by have:=c.nodup;rw [dom_cons,List.nodup_append] at this;exact this.2.1),c.phi,c.own o List.mem_cons_self,fun b hb =>
      ⟨fun hm=>by have:=c.nodup;rw [dom_cons,List.nodup_append] at this;exact this.2.2 b hb b hm rfl,c.young b (by rw [dom_cons];exact List.mem_append_left _ hb)⟩⟩
theorem Parked.sl {α:Type} [Gv α] {M D:List Nat} {p:Option Addr} {n cap:Nat} {cs:List Value} {t:TypeId} {l:List α} (h:Parked W (.buf p n cap cs t (Gv.ty α).size) M w)
    (he:Elems (D++M) w cs l):Sl M w p l:=by
  obtain ⟨⟨h1,h2⟩,h3⟩:=h
  have hpos:0<(Gv.ty α).size:=Gv.pos
  intro j hj
  have hle:(j+1)*(Gv.ty α).size≤cs.length:=by rw [he.1];exact Nat.mul_le_mul_right _ hj
  rw [Nat.add_mul,Nat.one_mul] at hle
  rcases h2 with ⟨e,rfl⟩|⟨g,cap',cur,e,_,hg,hnc,hcm,hcs,htake⟩
  · rw [Nat.zero_mul] at h1;omega
  · cases e
    refine ⟨g,0,(cs.drop (j*(Gv.ty α).size)).take (Gv.ty α).size,rfl,(h3 g (by simp [Own.dom])).1,fun i hi=>?_,?_⟩
    · rw [Nat.zero_add]
      simp only [List.length_take,List.length_drop] at hi
      rw [List.getElem_take,List.getElem_drop]
      have hlt:j*(Gv.ty α).size+i<cs.length:=by omega
      have h2:∀ k v,k<cs.length→cs[k]? = some v→cur[k]? = some v:=by
        intro k v hk hv
        rw [←htake,List.getElem?_take_of_lt (by omega)] at hv
        simpa using hv
      have h2:=h2 _ _ hlt (List.getElem?_eq_getElem hlt)
      simp [World.cell?,hg,h2]
    · exact Gv.stable ⟨Chg.refl _ _,fun b hb=>.inl (List.mem_append_right _ hb)⟩ (he.2 j hj)
def There (p:Option Addr) (n:Nat):Prop:=0<n→∃ b o,p=some ⟨b,o,none⟩
theorem Sl.there {α:Type} [Gv α] {M:List Nat} {w:World} {p:Option Addr} {l:List α} (h:Sl M w p l):There p l.length:=fun h0=>by
  obtain ⟨b,o,_,h1,_⟩:=h 0 h0
  exact ⟨b,o,h1⟩
theorem Sl.nil {α:Type} [Gv α] {M:List Nat} {w:World} {p:Option Addr}:Sl M w p ([]:List α):=fun j hj=>by simp at hj
theorem GivesIn.there {f:FuncId} {args:Array Value} {v:Value} {p:Option Addr} {n:Nat} (hΦ:∀ M w,Φ M w→There p n) (h:There p n→GivesIn Φ P f args v):GivesIn Φ P f args v :=
  ⟨fun W w S c=>(h (hΦ _ _ c.phi)).go W w S c⟩
structure GivesSl (Φ:PW) (P:Program) (f:FuncId) (args:Array Value) {α:Type} [Gv α] (l:List α) (mk:Value→Value):Prop where
  go:∀ (W w:World) (S:List Own),Ctx W w S Φ→Calls P f args w fun e w'=>∃ p cap,e=.returned (mk (.slice p l.length cap))∧l.length≤cap∧cap≤maxLen∧Ctx W w' S (fun M w=>Φ M w∧Sl M w p l)
theorem GivesSl.use {f:FuncId} {args:Array Value} {α:Type} [Gv α] {l:List α} {mk:Value→Value} (h:GivesSl Φ P f args l mk) (c:Ctx W w S Φ) {K:Ending→World→Prop}
    (hk:∀ p cap w',l.length≤cap→cap≤maxLen→Ctx W w' S (fun M w=>Φ M w∧Sl M w p l)→K (.returned (mk (.slice p l.length cap))) w'):Calls P f args w K :=
  (h.go W w S c).mono fun e w' ⟨p,cap,he,h1,h2,c'⟩=>by subst he;exact hk p cap w' h1 h2 c'
theorem GivesSl.there {f:FuncId} {args:Array Value} {α:Type} [Gv α] {l:List α} {mk:Value→Value} {p:Option Addr} {n:Nat} (hΦ:∀ M w,Φ M w→There p n) (h:There p n→GivesSl Φ P f args l mk):GivesSl Φ P f args l mk :=
  ⟨fun W w S c=>(h (hΦ _ _ c.phi)).go W w S c⟩
theorem GivesSl.pinned [Stable Φ] {f:FuncId} {args:Array Value} {β:Type} [Gv β] {r:List β} {mk:Value→Value} {α:Type} [Gv α] {p:Option Addr} {l:List α} (hΦ:∀ M w,Φ M w→Sl M w p l)
    (h:∀ b o cs,(0<l.length→p=some ⟨b,o,none⟩)→GivesSl (fun M w=>Φ M w∧Pin b o cs l M w) P f args r mk):GivesSl Φ P f args r mk :=
  ⟨fun W w S c=>by
    obtain ⟨b,o,cs,hp,c'⟩:=c.pin (hΦ _ _ c.phi)
    exact ((h b o cs hp).go W w S c').mono fun e w' ⟨p,cap,h1,h2,h3,h4⟩=>⟨p,cap,h1,h2,h3,h4.weak fun _ _ h=>⟨h.1.1,h.2⟩⟩⟩
def appB (P:Program) (ts t:TypeId) (size bytes:Nat):Bool :=
  (match P.underlying ts with|some (.slice u)=>decide (u=t)|_=>false)&&(match P.info? t with
    | some i=>(match i.zero with|some z=>decide (z.cells.size=size)|none=>false)&&decide (i.size=size)&&decide (i.bytes=bytes)
    | none=>false)
theorem appB_out {ts t:TypeId} {size bytes:Nat} (h:appB P ts t size bytes=true):∃ i z,P.underlying ts=some (.slice t)∧P.info? t=some i∧i.zero=some z∧i.size=size∧z.cells.size=size∧i.bytes=bytes:=by
  unfold appB at h
  rw [Bool.and_eq_true] at h
  obtain ⟨h1,h2⟩:=h
  split at h1
  · rename_i u hu
    have:u=t:=by simpa using h1
    subst this
    split at h2
    · rename_i i hi
      simp only [Bool.and_eq_true] at h2
      obtain ⟨⟨h2,h3⟩,h4⟩:=h2
      split at h2
      · rename_i z hz
        exact ⟨i,z,hu,hi,hz,by simpa using h3,by simpa using h2,by simpa using h4⟩
      · cases h2
    · cases h2
  · cases h1
theorem run_app {ats:Array TypeId} {ty:TypeId} {cs:Array Bool} {args:Array Value} {v:Value} {w w':World} (h:(Builtin.append_ ats ty args).run P w=.ok v w'):Sem.run P (builtin Builtin.append ats ty cs args) w=.ok (.value v) w':=by
  unfold builtin
  simp only [Sem.run_bind,h,Result.andThen,Sem.run_pure]
theorem Ctx.app1 [Stable Φ] {b:Nat} {news:List Value} {t':TypeId} {p:Option Addr} {n cap:Nat} {cs:List Value} {t:TypeId} {size bytes:Nat} (c:Ctx W w (.blk b news t' :: .buf p n cap cs t size :: S) Φ)
    {ts ty:TypeId} {kb:Array Bool} (hb:appB P ts t size bytes=true) (h0:0<size) (hl:news.length=size) (h1:(news.all fun u=>oneC u)=true) (hlen:n<100000000) (hbytes:bytes≤1000) :
    ∃ p' cap' w',Sem.run P (builtin Builtin.append #[ts,ts] ty kb #[.slice p n cap,.slice (some ⟨b,0,none⟩) 1 1]) w=.ok (.value (.slice p' (n+1) cap')) w'∧(∃ g,p'=some ⟨g,0,none⟩)∧Ctx W w' (.buf p' (n+1) cap' (cs++news) t size :: S) Φ:=by
  obtain ⟨i,z,e1,e2,e3,e4,e5,e6⟩:=appB_out hb
  have hby:(n+1)*i.bytes≤100000000*1000:=Nat.mul_le_mul (by omega) (by omega)
  obtain ⟨p',cap',w',h2,c'⟩:=c.append 1 rfl (ty:=ty) e1 e2 e3 e4 e5 (a:=⟨b,0,none⟩) (m:=1) (c2:=1) (news:=news) (by omega) (by rw [hl,Nat.one_mul]) (fun j u hj=>by rw [addr_add,Nat.zero_add];exact c.get 0 rfl hj)
    (fun u hu=>List.all_eq_true.1 h1 u hu) (by omega) (by omega)
  refine ⟨p',cap',w',run_app h2,?_,c'.drop1⟩
  obtain ⟨g,hg,_⟩:=c'.bufCell 1 rfl (by rw [List.length_append];omega)
  exact ⟨g,hg⟩
theorem Ctx.nobuf [Stable Φ] (c:Ctx W w S Φ) (t:TypeId) (size:Nat):Ctx W w (.buf none 0 0 [] t size :: S) Φ:=c.buf0 t size
theorem Sl.less {α:Type} [Gv α] {M D:List Nat} {w:World} {p:Option Addr} {l:List α} (h:Sl (D++M) w p l):Sl M w p l :=
  h.stable ⟨Chg.refl _ _,fun b hb=>.inl (List.mem_append_right _ hb)⟩
structure GivesBuf (Φ:PW) (P:Program) (f:FuncId) (args:Array Value) (n:Nat) (cells:List Value) (t:TypeId) (size:Nat) (mk:Value→Value):Prop where
  go:∀ (W w:World) (S:List Own),Ctx W w S Φ→Calls P f args w fun e w'=>∃ p cap,e=.returned (mk (.slice p n cap))∧Ctx W w' (.buf p n cap cells t size :: S) Φ
theorem GivesBuf.sl [Stable Φ] {f:FuncId} {args:Array Value} {α:Type} [Gv α] {l:List α} {cells:List Value} {t:TypeId} {mk:Value→Value} (h:GivesBuf Φ P f args l.length cells t (Gv.ty α).size mk)
    (he:∀ M w,Φ M w→Elems M w cells l):GivesSl Φ P f args l mk :=
  ⟨fun W w S c=>(h.go W w S c).mono fun e w' ⟨p,cap,h1,c'⟩=>by
    obtain ⟨c2,hs,_,h2,h3⟩:=Ctx.freeze c' (he _ _ c'.phi)
    exact ⟨p,cap,h1,h2,h3,c2.add hs⟩⟩
theorem GivesBuf.pinned [Stable Φ] {f:FuncId} {args:Array Value} {n:Nat} {cells:List Value} {t:TypeId} {size:Nat} {mk:Value→Value} {α:Type} [Gv α] {p:Option Addr} {l:List α} (hΦ:∀ M w,Φ M w→Sl M w p l)
    (h:∀ b o cs,(0<l.length→p=some ⟨b,o,none⟩)→GivesBuf (fun M w=>Φ M w∧Pin b o cs l M w) P f args n cells t size mk):GivesBuf Φ P f args n cells t size mk :=
  ⟨fun W w S c=>by
    obtain ⟨b,o,cs,hp,c'⟩:=c.pin (hΦ _ _ c.phi)
    exact ((h b o cs hp).go W w S c').mono fun e w' ⟨p,cap,h1,h4⟩=>⟨p,cap,h1,h4.fst⟩⟩
theorem Parked.blkSl {α:Type} [Gv α] {M:List Nat} {b:Nat} {cs:List Value} {t:TypeId} {l:List α} (h:Parked W (.blk b cs t) M w) (he:Elems M w cs l):Sl M w (some ⟨b,0,none⟩) l:=by
  obtain ⟨h1,h2⟩:=h
  have h1:Blk w b cs t:=h1
  intro j hj
  have hle:(j+1)*(Gv.ty α).size≤cs.length:=by rw [he.1];exact Nat.mul_le_mul_right _ hj
  rw [Nat.add_mul,Nat.one_mul] at hle
  refine ⟨b,0,(cs.drop (j*(Gv.ty α).size)).take (Gv.ty α).size,rfl,(h2 b (by simp [Own.dom])).1,fun i hi=>?_,he.2 j hj⟩
  simp only [List.length_take,List.length_drop] at hi
  rw [Nat.zero_add,List.getElem_take,List.getElem_drop]
  exact h1.cell_eq (List.getElem?_eq_getElem (by omega))
theorem Ctx.freezeBlk [Stable Φ] {α:Type} [Gv α] {b:Nat} {cs:List Value} {t:TypeId} {l:List α} (c:Ctx W w (.blk b cs t :: S) Φ) (he:Elems (dom (.blk b cs t :: S)) w cs l):Ctx W w S Φ∧Sl (dom S) w (some ⟨b,0,none⟩) l:=by
  have c':=c.park
  refine ⟨c.drop1,c'.phi.2.blkSl ⟨he.1,fun j hj=>?_⟩⟩
  exact Gv.stable ⟨Chg.refl _ _,fun b hb=>.inl (by rw [dom_cons];exact List.mem_append_right _ hb)⟩ (he.2 j hj)
theorem Elems.two {α:Type} [Gv α] {M:List Nat} {cs ds:List Value} {x y:α} (h1:Gv.rep M w cs x) (h2:Gv.rep M w ds y):Elems M w (cs++ds) [x,y]:=Elems.snoc (l:=[x]) (Elems.snoc (l:=[]) (cs:=[]) Elems.nil h1) h2
theorem Elems.one {α:Type} [Gv α] {M:List Nat} {cs:List Value} {x:α} (h1:Gv.rep M w cs x):Elems M w cs [x]:=Elems.snoc (l:=[]) (cs:=[]) Elems.nil h1
end
end Go.Vc
end

