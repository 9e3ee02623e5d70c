/-
 .. it suffices: regions,code,functions.
-/
import Derived.Test.YtfijlibaeahlaaaGreatDoorKb2
import Derived.RangeFuncRecord
import Derived.RangeFuncSeq
import Derived.OrdersIn
import Derived.TacticsIn

set_option linter.unusedVariables false
set_option linter.unusedSimpArgs false
section
namespace Go.Vc
variable {G:List Own}
variable {ds:List Deferred}
open Go.RowKit
structure bz(ds:List Deferred)(G:List Own)(W:World)(s:Ω)(L:List ρ)(R:List Own)(Φ:Y)(a:Act)(w:World):Prop where
 di:cQ ds (s.fr L) a
 wf:fX L s
 ids:(L.map ρ.id).Nodup
 ctx:dP G W w L R Φ
 st:O Φ
theorem bz.put{W:World}{s:Ω}{L L':List ρ}{R R':List Own}{Φ Z:Y}{a:Act}{w w':World}(h:bz ds G W s L R Φ a w){sv:aj}{v:Value}(d:Option Tmp)(he:Ext L L')
  (hp:∀ k o,sv=aj.ptr k o->(bC k L').isSome=true) (hc:dP G W w' L' R' Z) (hst:O Z) (hv:cg (sv.val L')=false->v=sv.val L'):bz ds G W (s.put d sv) L' R' Z (a.put d v) w' :=
 ⟨by rw [Jm,h.wf.fr he];exact h.di.put d hv,(h.wf.ext he).put hp,he.ids h.ids,hc,hst⟩
theorem aR.jJ{D:Nat->Prop}{s0:Fr}{s:Ω}{L L':List ρ}{sv:aj}{d:Option Tmp}(h:aR D s0 (s.fr L))(hwf:fX L s)(he:Ext L L')(hd:∀ t,d=some t->D t):aR D s0 ((s.put d sv).fr L'):=by
 rw [Jm,hwf.fr he];exact h.put hd _
def cellsOf:bS->List ρ->List Value
 | [],_=>[]
 | (k,_) :: r,L=>(match bC k L with|some T=>.agg T.cs.toArray|none=>w9) :: cellsOf r L
def vu(k:Nat):bS->List Value->Option (List Value)
 | (j,_) :: r,v :: vs=>match Nat.beq j k with
  | true=>some v.cells.toList
  | false=>vu k r vs
 | _,_=>none
def gM(ts:bS)(us:List Value):List ρ->List ρ
 | []=>[]
 | T :: r=>(match vu T.id ts us with
  | some cs=>⟨T.id,T.b,Nat.succ T.lM,cs,T.t⟩
  | none=>T) :: gM ts us r
def pH(ts:bS)(L':List ρ):List ρ->Bool
 | []=>true
 | T :: r=>match b9 T.id (ts.map (·.1)) with
  | true=>pH ts L' r
  | false=>match bC T.id L' with
   | some cu=>match Nat.beq cu.lM T.lM with|true=>pH ts L' r|false=>false
   | none=>false
theorem Y3{ts:bS}{us:List Value}{k:Nat}{T:ρ}:∀ {L:List ρ},bC k L=some T->∃ cu,bC k (gM ts us L)=some cu/\cu.b=T.b/\cu.t=T.t/\T.lM<=cu.lM/\(cu.lM=T.lM->cu.cs=T.cs)/\(vu k ts us=none->cu.cs=T.cs)/\(∀ cs,vu k ts us=some cs->cu.cs=cs)
 | [],h=>by cases h
 | e7 :: r,h=>by
  unfold bC at h;simp only [gM];cases hb:Nat.beq e7.id k with
  | true =>
   rw [hb] at h;cases h;have hid:=Nat.eq_of_beq_eq_true hb;unfold bC;cases hp:vu T.id ts us with
   | some cs =>
    simp only [hb];rw [hid] at hp;exact ⟨_,rfl,rfl,rfl,Nat.le_succ _,λe=>absurd e (Nat.succ_ne_self _),λe=>(by rw [hp] at e;cases e),λcs' e=>by rw [hp] at e;cases e;rfl⟩
   | none =>
    simp only [hb];rw [hid] at hp;exact ⟨_,rfl,rfl,rfl,Nat.le_refl _,λ_=>rfl,λ_=>rfl,λcs' e=>by rw [hp] at e;cases e⟩
  | false =>
   rw [hb] at h;have ih:=Y3 (ts:=ts) (us:=us) h;unfold bC;cases hp:vu e7.id ts us with
   | some cs=>simp only [hb];exact ih
   | none=>simp only [hb];exact ih
theorem Fx(ts:bS)(us:List Value):∀ L:List ρ,(gM ts us L).map ρ.b=L.map ρ.b/\(gM ts us L).map ρ.id=L.map ρ.id
 | []=>⟨rfl,rfl⟩
 | T :: r=>by
  have ih:=Fx ts us r;simp only [gM,List.map_cons,ih];cases vu T.id ts us<;>exact ⟨rfl,rfl⟩
theorem Y2(ts:bS)(us:List Value)(L:List ρ):Ext L (gM ts us L) :=
 ⟨λk T h=>by obtain ⟨cu,a,b,c,d,e,_⟩:=Y3 (ts:=ts) (us:=us) h;exact ⟨cu,a,b,c,d,e⟩,by rw [(Fx ts us L).1];exact List.Sublist.refl _,by rw [(Fx ts us L).2];exact id⟩
theorem a6i(L:List ρ):dom (L.map ρ.own)=L.map ρ.b:=by
 induction L with
 | nil=>rfl
 | cons T r ih=>simp only [List.map_cons,dom,List.flatMap_cons] at ih ⊢;rw [ih];rfl
theorem wh(A υ:List Own):dom (A++υ)=dom A++dom υ:=by simp [dom]
theorem aH4{k:Nat}{L':List ρ}:∀ {ts:bS},vu k ts (cellsOf ts L')=if b9 k (ts.map (·.1))=true then some (match bC k L' with|some T=>T.cs|none=>w9.cells.toList) else none
 | []=>rfl
 | (j,sh) :: r=>by
  simp only [cellsOf,vu,List.map_cons,b9];rw [show Nat.beq k j=Nat.beq j k by rw [Bool.eq_iff_iff,Nat.beq_eq,Nat.beq_eq];exact eq_comm];cases hb:Nat.beq j k with
  | true =>
   have:=Nat.eq_of_beq_eq_true hb;subst this;simp only [if_true];cases bC j L'<;>simp [Value.cells]
  | false=>exact aH4
theorem PX{L:List ρ}(hn:(L.map ρ.id).Nodup):∀ {T:ρ},T∈L->bC T.id L=some T:=by
 induction L with
 | nil=>intro T h;cases h
 | cons e7 r ih =>
  intro T h;simp only [List.map_cons,List.nodup_cons] at hn;unfold bC;rcases List.mem_cons.1 h with rfl|h
  .rw [show Nat.beq T.id T.id=true by simp]
  .rw [show Nat.beq e7.id T.id=false by
    cases hb:Nat.beq e7.id T.id with
    | false=>rfl
    | true=>exact absurd (List.mem_map.2 ⟨T,h,(Nat.eq_of_beq_eq_true hb).symm⟩) hn.1]
   exact ih hn.2 h
theorem dP.meet{W w:World}{L L':List ρ}{R:List Own}{Φ:Y}{ts:bS}(hst:O Φ)(c:dP G W w L' R Φ)(he:Ext L L')(FW:(L.map ρ.id).Nodup)(hs:pH ts L' L=true):dP G W w (gM ts (cellsOf ts L') L) R Φ:=by
 have hd':dom (R++(L'.map ρ.own++G))=dom R++(L'.map ρ.b++dom G):=by rw [wh,wh,a6i]
 have hd:dom (R++((gM ts (cellsOf ts L') L).map ρ.own++G))=dom R++(L.map ρ.b++dom G):=by rw [wh,wh,a6i,(Fx ts _ L).1]
 have hsub:(dom R++(L.map ρ.b++dom G)).Sublist (dom R++(L'.map ρ.b++dom G)):=List.Sublist.append (List.Sublist.refl _) (List.Sublist.append he.bs (List.Sublist.refl _));have same:∀ T∈L,b9 T.id (ts.map (·.1))=false->∃ cu,bC T.id L'=some cu/\cu.lM=T.lM:=by
  clear hd hd' hsub he FW c
  induction L with
  | nil=>intro T h;cases h
  | cons e7 r ih =>
   intro T hT hm;unfold pH at hs;cases Q6:b9 e7.id (ts.map (·.1)) with
   | true =>
    rw [Q6] at hs;rcases List.mem_cons.1 hT with rfl|hT
    .rw [hm] at Q6;cases Q6
    .exact ih hs T hT hm
   | false =>
    rw [Q6] at hs;simp only at hs;split at hs
    .rename_i cu hf;split at hs
     .rename_i hv;rcases List.mem_cons.1 hT with rfl|hT
      .exact ⟨cu,hf,Nat.eq_of_beq_eq_true hv⟩
      .exact ih hs T hT hm
     .cases hs
    .cases hs
 refine Ctx.go c ⟨bD.refl _ _,λb hb=>.inl (by rw [hd] at hb;rw [hd'];exact hsub.subset hb)⟩ (λo ho=>?_) (by rw [hd];have:=c.nodup;rw [hd'] at this;exact this.sublist hsub);rcases List.mem_append.1 ho with ho|ho
 .exact c.own o (List.mem_append.2 (.inl ho))
 rcases List.mem_append.1 ho with ho|ho
 rotate_left
 .exact c.own o (List.mem_append.2 (.inr (List.mem_append.2 (.inr ho))))
 .obtain ⟨zB,hV,rfl⟩:=List.mem_map.1 ho;have aVv:((gM ts (cellsOf ts L') L).map ρ.id).Nodup:=by rw [(Fx ts _ L).2];exact FW
  have hf:=PX aVv hV;have hex:zB.id∈L.map ρ.id:=by rw [<-(Fx ts (cellsOf ts L') L).2];exact List.mem_map.2 ⟨zB,hV,rfl⟩
  obtain ⟨T,hT,WL⟩:=List.mem_map.1 hex;have We:=PX FW hT;rw [WL] at We;obtain ⟨acS,g1,g2,g3,_,_,g6,g7⟩:=Y3 (ts:=ts) (us:=cellsOf ts L') We;rw [hf] at g1;cases g1;obtain ⟨T1,k1,k2,fR,kT,bY⟩:=he.old zB.id T We;have hb:=c.blk k1;have hcs:zB.cs=T1.cs:=by
   rw [aH4] at g6 g7;cases hm:b9 zB.id (ts.map (·.1)) with
   | true =>
    rw [if_pos hm,k1] at g7;exact g7 _ rfl
   | false =>
    rw [if_neg (by rw [hm];simp)] at g6;rw [g6 rfl];obtain ⟨T2,q1,iL⟩:=same T hT (by rw [WL];exact hm);rw [WL,k1] at q1;cases q1;exact (bY iL).symm
  show cj w zB.b zB.cs zB.t;rw [g2,<-k2,g3,<-fR,hcs];exact hb
theorem Y4:∀ L:List ρ,gM [] [] L=L
 | []=>rfl
 | T :: r=>by simp only [gM,vu,Y4 r]
def Xw(s:Fr)(d:Option Tmp):Bool :=
 match d with
 | some d=>(match gw d s.l with | .tuple vs=>(match vs.toList with | []=>Nat.blt d s.n|_=>false)|_=>false)
 | none=>false
theorem aXG{s:Fr}{a:Act}(h:cQ ds s a){d:Option Tmp}(hc:Xw s d=true):∃ k,d=some k/\k<a.tmps.size/\a.tmps.getD k undef=.tuple #[]:=by
 unfold Xw at hc;split at hc
 .rename_i k;split at hc
  .rename_i vs hv;split at hc
   .rename_i hvs;have hlt:k<s.n:=by simpa using hc
    have e:vs=#[]:=by cases vs;simp_all
    subst e;have hg:s.get k=.tuple #[]:=hv;exact ⟨k,rfl,by rw [h.size];exact hlt,by rw [h.slot k (by rw [hg];rfl),hg]⟩
   .cases hc
  .cases hc
 .cases hc
def q3(ops:Array Oper)(o:Oper)(s:Ω)(L:List ρ)(go skip:Ω->Prop):Prop :=
 match o.guard with
 | none=>go s
 | some (j,want) =>
  match Ij (s.fr L) ((ops[j]?).bind (·.dst)) with
  | some c=>U c (match true == want with
    | true=>go (s.put ((ops[j]?).bind (·.dst)) (.v (.bool true)))
    | false=>skip (s.put ((ops[j]?).bind (·.dst)) (.v (.bool true))))
   (match false == want with
    | true=>go (s.put ((ops[j]?).bind (·.dst)) (.v (.bool false)))
    | false=>skip (s.put ((ops[j]?).bind (·.dst)) (.v (.bool false))))
  | none=>match Xw (s.fr L) ((ops[j]?).bind (·.dst)) with
   | true=>skip s
   | false=>False
theorem s5{W:World}{ops:Array Oper}{o:Oper}{s:Ω}{L:List ρ}{R:List Own}{Φ:Y}{a:Act}{w:World}{go skip:Ω->Prop}{D:Nat->Prop}{s0:Fr}(hD:∀ (j:Nat) (o:Oper) (t:Nat),ops[j]? = some o->o.dst=some t->D t)
  (h:q3 ops o s L go skip) (ha:bz ds G W s L R Φ a w) (hu:aR D s0 (s.fr L)) :
  ∃ s',bz ds G W s' L R Φ a w/\aR D s0 (s'.fr L)/\((Region.wanted o (yielded ops a.tmps)=true/\go s')\/(Region.wanted o (yielded ops a.tmps)=false/\skip s')):=by
 unfold q3 at h;split at h
 .rename_i hg;exact ⟨s,ha,hu,.inl ⟨by simp [Region.wanted,hg],h⟩⟩
 .rename_i j want hg;split at h
  .rename_i c hc;obtain ⟨k,hk,hlt,hv,a8b⟩:=UU ha.di hc;have hy:yielded ops a.tmps j=some c:=by
    unfold yielded;rw [hk];simp only [Option.bind_some];rw [Array.getD_eq_getD_getElem?] at hv;simp only [hlt,getElem?_pos,Option.getD_some] at hv;simp [hlt,hv]
   have hw:Region.wanted o (yielded ops a.tmps)=(c == want):=by simp [Region.wanted,hg,hy]
   have φ:bz ds G W (s.put ((ops[j]?).bind (·.dst)) (.v (.bool c))) L R Φ a w:=by
    have:=ha.put ((ops[j]?).bind (·.dst)) (sv:=.v (.bool c)) (v:=.bool c) (Ext.refl L) (λk o e=>by cases e) ha.ctx ha.st (λ_=>rfl);rw [hk] at this ⊢
    rwa [Yo hlt hv] at this
   have aF:aR D s0 ((s.put ((ops[j]?).bind (·.dst)) (.v (.bool c))).fr L):=hu.jJ ha.wf (Ext.refl L) (by
    intro t ht;cases hj:ops[j]? with
    | none=>simp [hj] at ht
    | some oj=>rw [hj] at ht;exact hD j oj t hj ht)
   refine ⟨_,φ,aF,?_⟩;rw [hw];cases c
   .simp only [U] at h;cases oe:false == want with
    | true=>rw [oe] at h;exact .inl ⟨rfl,h⟩
    | false=>rw [oe] at h;exact .inr ⟨rfl,h⟩
   .simp only [U] at h;cases oe:true == want with
    | true=>rw [oe] at h;exact .inl ⟨rfl,h⟩
    | false=>rw [oe] at h;exact .inr ⟨rfl,h⟩
  .split at h
   .rename_i hl;obtain ⟨k,hk,hlt,hv⟩:=aXG ha.di hl;have hy:yielded ops a.tmps j=none:=by
     unfold yielded;rw [hk];simp only [Option.bind_some];rw [Array.getD_eq_getD_getElem?] at hv;simp only [hlt,getElem?_pos,Option.getD_some] at hv;simp [hlt,hv]
    exact ⟨s,ha,hu,.inr ⟨by simp [Region.wanted,hg,hy],h⟩⟩
   .exact h.elim
section
variable (P:Program)(W:World)
def Lh(wr dc:Nat->Bool)(ops:Array Oper):List Oper->Ω->List ρ->List Own->Y->(Ω->List ρ->List Own->Y->Prop)->Prop
 | [],s,L,R,Φ,K=>K s L R Φ
 | o :: rest,s,L,R,Φ,K=>q3 ops o s L
   (λs=>xZ P W (wr (o.dst.getD 0)) (dc (o.dst.getD 0)) (λi=>s3 o.dst i ops.toList) o s L R Φ λv L R Φ=>Lh wr dc ops rest (s.put o.dst v) L R Φ K)
   (λs=>Lh wr dc ops rest (s.put o.dst (.v undef)) L R Φ K)
def MM(wr:Bool)(o:Oper)(s:Ω)(L:List ρ)(R:List Own)(Φ:Y)(K:aj->Prop):Prop :=
 match o.op with
 | .pick c x y=>match s.val L c with
  | .bool b=>U b (K (s.ev x)) (K (s.ev y))
  | _=>False
 | _=>match A8 (s.fr L) o&&uO o with
  | true=>qB (vz P W wr o s L R Φ K)
  | false=>False
def AP(wr:Nat->Bool)(ops:Array Oper)(L:List ρ)(R:List Own)(Φ:Y):List Nat->Ω->(Ω->Prop)->Prop
 | [],s,K=>K s
 | i :: r,s,K=>match ops[i]? with
  | none=>False
  | some o=>q3 ops o s L (λs=>MM P W (wr (o.dst.getD 0)) o s L R Φ λv=>AP wr ops L R Φ r (s.put o.dst v) K) (λs=>AP wr ops L R Φ r (s.put o.dst (.v undef)) K)
def x9(o:Oper)(s:Ω)(L:List ρ)(K:aj->Prop):Bool :=
 match o.op with
 | .load _ x=>match s.ev x with | .ptr _ _=>false | .v _=>true
 | .move _ | .assign _ | .nilCheck _ | .fieldAddr .. | .indexAddr .. => false
 | _=>ir P o (s.val L) λv=>K (.v v)
def QC(wr:Bool)(o:Oper)(s:Ω)(L:List ρ)(χ:List Own)(σ:Y)(K:aj->Prop):Prop :=
 match o.op with
 | .pick c x y=>match s.val L c with
  | .bool b=>U b (K (s.ev x)) (K (s.ev y))
  | _=>False
 | _=>match A8 (s.fr L) o&&uO o with
  | true=>match x9 P o s L K with
   | true=>uU P o.type λv=>(∀ w S,Ctx W w (χ++S) σ->qB (jc P wr o (s.val L) w none λu=>u=v))/\K (.v v)
   | false=>qB (vz P W wr o s L [] σ K)
  | false=>False
def hS(wr:Nat->Bool)(ops:Array Oper)(L:List ρ)(χ:List Own)(σ:Y):List (Nat × Bool)->Ω->List Own->Y->(Ω->List Own->Y->Prop)->Prop
 | [],s,R,Φ,K=>K s R Φ
 | (i,still) :: r,s,R,Φ,K=>match ops[i]? with
  | none=>False
  | some o=>q3 ops o s L
    (λs=>match still with
     | true=>QC P W (wr (o.dst.getD 0)) o s L χ σ λv=>hS wr ops L χ σ r (s.put o.dst v) R Φ K
     | false=>xZ P W (wr (o.dst.getD 0)) false (λi=>s3 o.dst i ops.toList) o s L R Φ λv L' R' Z=>match v,pH [] L' L with
      | .v x,true=>(∀ w F,Ctx W w (R'++F) Z->Ctx W w (χ++F) σ)/\hS wr ops L χ σ r (s.put o.dst (.v x)) R' Z K
      | _,_=>False)
    (λs=>hS wr ops L χ σ r (s.put o.dst (.v undef)) R Φ K)
def DP(wr:Bool)(o:Oper)(s:Ω)(L:List ρ)(χ:List Own)(σ:Y)(K:aj->Prop):Prop :=
 match o.op with
 | .pick c x y=>match s.val L c with
  | .bool b=>U b (K (s.ev x)) (K (s.ev y))
  | _=>False
 | .load _ x=>match s.ev x with
  | .ptr _ _=>False
  | .v _=>match A8 (s.fr L) o&&uO o with
   | true=>uU P o.type λv=>(∀ w S,Ctx W w (χ++S) σ->qB (jc P wr o (s.val L) w none λu=>u=v))/\K (.v v)
   | false=>False
 | _=>match A8 (s.fr L) o&&uO o with
  | true=>match x9 P o s L K with
   | true=>False
   | false=>qB (vz P W wr o s L [] (λ_ _=>True) K)
  | false=>False
def Bm(wr dc:Nat->Bool)(ops:Array Oper)(χ:List Own)(σ:Y):List (Nat × Bool)->Ω->List ρ->List Own->Y->(Ω->List ρ->List Own->Y->Prop)->Prop
 | [],s,L,R,Φ,K=>K s L R Φ
 | (i,still) :: r,s,L,R,Φ,K=>match ops[i]? with
  | none=>False
  | some o=>q3 ops o s L
    (λs=>match still with
     | true=>DP P W (wr (o.dst.getD 0)) o s L χ σ λv=>Bm wr dc ops χ σ r (s.put o.dst v) L R Φ K
     | false=>xZ P W (wr (o.dst.getD 0)) (dc (o.dst.getD 0)) (λi=>s3 o.dst i ops.toList) o s L R Φ λv L R Φ=>(∀ w F,Ctx W w (R++F) Φ->Ctx W w (χ++F) σ)/\Bm wr dc ops χ σ r (s.put o.dst v) L R Φ K)
    (λs=>Bm wr dc ops χ σ r (s.put o.dst (.v undef)) L R Φ K)
def xT(wr:Nat->Bool)(ops:Array Oper)(L:List ρ)(χ:List Own)(σ:Y):List Nat->Ω->(Ω->Prop)->Prop
 | [],s,K=>K s
 | i :: r,s,K=>match ops[i]? with
  | none=>False
  | some o=>q3 ops o s L (λs=>DP P W (wr (o.dst.getD 0)) o s L χ σ λv=>xT wr ops L χ σ r (s.put o.dst v) K) (λs=>xT wr ops L χ σ r (s.put o.dst (.v undef)) K)
def C9(wr:Nat->Bool)(ops:Array Oper)(L:List ρ)(R:List Own)(Φ:Y)(χ:List Own)(σ:Y)(υ:List Nat):List Nat->Ω->(Ω->Prop)->Prop
 | [],s,K=>K s
 | i :: r,s,K=>match ops[i]? with
  | none=>False
  | some o=>q3 ops o s L (λs=>match b9 i υ with
    | true=>MM P W (wr (o.dst.getD 0)) o s L R Φ λv=>C9 wr ops L R Φ χ σ υ r (s.put o.dst v) K
    | false=>DP P W (wr (o.dst.getD 0)) o s L χ σ λv=>C9 wr ops L R Φ χ σ υ r (s.put o.dst v) K) (λs=>C9 wr ops L R Φ χ σ υ r (s.put o.dst (.v undef)) K)
def JB(wr dc:Nat->Bool)(ops:Array Oper)(χ:List Own)(σ:Y):List (Nat × List Nat)->Ω->List ρ->List Own->Y->(Ω->List ρ->List Own->Y->Prop)->Prop
 | [],s,L,R,Φ,K=>K s L R Φ
 | (i,T) :: rest,s,L,R,Φ,K=>match ops[i]? with
   | none=>False
   | some o=>q3 ops o s L
     (λs=>xZ P W (wr (o.dst.getD 0)) (dc (o.dst.getD 0)) (λi=>s3 o.dst i ops.toList) o s L R Φ λv L R Φ=>(∀ w F,Ctx W w (R++F) Φ->Ctx W w (χ++F) σ)/\xT P W wr ops L χ σ T (s.put o.dst v) λs=>JB wr dc ops χ σ rest s L R Φ K)
     (λs=>xT P W wr ops L χ σ T (s.put o.dst (.v undef)) λs=>JB wr dc ops χ σ rest s L R Φ K)
def zh(wr:Nat->Bool)(ops:Array Oper)(L:List ρ)(R:List Own)(Φ:Y)(χ:List Own)(σ:Y)(C:List Nat)(c7:List Own)(θ:Y)(υ:List Nat):List Nat->Ω->(Ω->Prop)->Prop
 | [],s,K=>K s
 | i :: r,s,K=>match ops[i]? with
  | none=>False
  | some o=>q3 ops o s L (λs=>match b9 i υ with
    | true=>MM P W (wr (o.dst.getD 0)) o s L R Φ λv=>zh wr ops L R Φ χ σ C c7 θ υ r (s.put o.dst v) K
    | false=>match b9 i C with
     | true=>DP P W (wr (o.dst.getD 0)) o s L c7 θ λv=>zh wr ops L R Φ χ σ C c7 θ υ r (s.put o.dst v) K
     | false=>DP P W (wr (o.dst.getD 0)) o s L χ σ λv=>zh wr ops L R Φ χ σ C c7 θ υ r (s.put o.dst v) K) (λs=>zh wr ops L R Φ χ σ C c7 θ υ r (s.put o.dst (.v undef)) K)
def IY(dl i:Nat)(up:Bool)(p:Prop):Prop:=match up with
 | false=>True
 | true=>match Nat.beq dl i with|true=>True|false=>p
def JC(wr dc:Nat->Bool)(ops:Array Oper)(χ:List Own)(σ:Y)(dl:Nat)(c7:List Own)(θ:Y):Bool->List (Nat × List Nat)->Ω->List ρ->List Own->Y->(Ω->List ρ->List Own->Y->Prop)->Prop
 | _,[],s,L,R,Φ,K=>K s L R Φ
 | up,(i,T) :: rest,s,L,R,Φ,K=>match ops[i]? with
   | none=>False
   | some o=>q3 ops o s L
     (λs=>xZ P W (wr (o.dst.getD 0)) (dc (o.dst.getD 0)) (λi=>s3 o.dst i ops.toList) o s L R Φ λv L R Φ=>(∀ w F,Ctx W w (R++F) Φ->Ctx W w (χ++F) σ)/\IY dl i up (∀ w F,Ctx W w (R++F) Φ->Ctx W w (c7++F) θ)/\xT P W wr ops L χ σ T (s.put o.dst v) λs=>JC wr dc ops χ σ dl c7 θ (up && !(Nat.beq dl i)) rest s L R Φ K)
     (λs=>xT P W wr ops L χ σ T (s.put o.dst (.v undef)) λs=>JC wr dc ops χ σ dl c7 θ (up && !(Nat.beq dl i)) rest s L R Φ K)
inductive yY where
 | done
 | rd (i:Nat) (k:yY)
 | alt (i:Nat) (k r:yY)
 | no
def tu:yY->List Nat
 | .alt i _ r=>i :: tu r
 | _=>[]
def GC:yY->List Nat
 | .rd i k=>i :: GC k
 | .alt i k _=>i :: GC k
 | _=>[]
def iC(ops:Array Oper)(listed:Array Bool):Bool :=
 (List.range ops.size).all λk => !(listed.getD k true)||match ops[k]? with
  | none=>true
  | some o=>o.after.toList.all λe => !(Region.binds .any e)||listed.getD e.on false
def kX(ops:Array Oper)(fin:Array Bool):yY->Bool->Nat->Array Bool->Bool
 | .done,false,0,x=>decide (x=fin)
 | .rd i k,false,n+1,x=>(Region.ready .any ops x).contains i&&Region.free .any ops x i&&(Region.ready .any ops (fin.setIfInBounds i false) == [i] || !(iC ops (fin.setIfInBounds i false)))&&kX ops fin k false n (x.setIfInBounds i true)
 | .alt i k r,false,n+1,x=>(Region.ready .any ops x == i :: tu r)&&(kX ops fin k false n (x.setIfInBounds i true)&&kX ops fin r true n x)
 | .alt i k r,true,n,x=>kX ops fin k false n (x.setIfInBounds i true)&&kX ops fin r true n x
 | .no,true,_,_=>true
 | _,_,_,_=>false
def tS(wr:Nat->Bool)(ops:Array Oper)(L:List ρ)(χ:List Own)(σ:Y):yY->Ω->List Own->Y->(Ω->List Own->Y->Prop)->Prop
 | .done,s,R,Φ,K=>K s R Φ
 | .no,_,_,_,_=>True
 | .rd i k,s,R,Φ,K=>match ops[i]? with
  | none=>False
  | some o=>q3 ops o s L (λs=>QC P W (wr (o.dst.getD 0)) o s L χ σ λv=>tS wr ops L χ σ k (s.put o.dst v) R Φ K) (λs=>tS wr ops L χ σ k (s.put o.dst (.v undef)) R Φ K)
 | .alt i k r,s,R,Φ,K=>(match ops[i]? with
  | none=>False
  | some o=>q3 ops o s L
    (λs=>xZ P W (wr (o.dst.getD 0)) false (λi=>s3 o.dst i ops.toList) o s L R Φ λv L' R' Z=>match v,pH [] L' L with
      | .v x,true=>(∀ w F,Ctx W w (R'++F) Z->Ctx W w (χ++F) σ)/\tS wr ops L χ σ k (s.put o.dst (.v x)) R' Z K
      | _,_=>False)
    (λs=>tS wr ops L χ σ k (s.put o.dst (.v undef)) R Φ K))/\(match r with | .no=>True|r=>tS wr ops L χ σ r s R Φ K)
inductive z8 where
 | tree (t:yY) (n:Nat)
 | aE (T:List Nat) (e:Option Nat)
 | held (ord:List (Nat × Bool))
 | free (ord:List (Nat × Bool))
 | late (υ cB:List Nat) (l:List (Nat × List Nat))
 | Qk (C:List Nat) (dl:Nat) (υ cB:List Nat) (l:List (Nat × List Nat))
def we:List (Nat × List Nat)->Array Bool->Array Bool
 | [],x=>x
 | (i,T) :: r,x=>we r (cO T (x.setIfInBounds i true))
def mm(cB:List Nat):List (Nat × List Nat)->List Nat
 | []=>cB
 | (_,T) :: r=>T++mm cB r
def wg(ops:Array Oper)(fin:Array Bool):List (Nat × List Nat)->Array Bool->Bool
 | [],listed=>decide (listed=fin)&&(Region.ready .any ops listed).isEmpty
 | (i,T) :: r,listed=>Region.ready .any ops listed == [i]&&(pF ops T (listed.setIfInBounds i true)&&wg ops fin r (cO T (listed.setIfInBounds i true)))
def waits(ops:Array Oper)(b:Nat):List Nat->List Nat->List Nat
 | [],acc=>acc
 | k :: r,acc=>waits ops b r (match ops[k]? with
  | some o=>match o.after.any λe=>Region.binds .any e&&(Nat.beq e.on b||b9 e.on acc) with
   | true=>k :: acc
   | false=>acc
  | none=>acc)
def vC(ops:Array Oper)(rd υ:List Nat):Bool:=υ.all λb=>b9 b rd&&(λW:List Nat=>(List.range ops.size).all λj=>b9 j rd||b9 j W) (waits ops b (List.range ops.size) [])
def BX:List (Nat × List Nat)->Nat
 | []=>0
 | (_,T) :: r=>(T.length+BX r)+1
def vN(ops:Array Oper):List (Nat × Bool)->Array Bool->Bool
 | [],_=>true
 | (i,true) :: r,listed=>(Region.ready .any ops listed).contains i&&Region.free .any ops listed i&&vN ops r (listed.setIfInBounds i true)
 | (i,false) :: r,listed=>Region.ready .any ops listed == [i]&&vN ops r (listed.setIfInBounds i true)
def o6:List (Nat × Bool)->List Nat
 | []=>[]
 | (i,true) :: r=>i :: o6 r
 | (_,false) :: r=>o6 r
def aX0(ops:Array Oper)(T:List Nat)(fin:Array Bool):Bool :=
 T.all λi=>Region.ready .any ops (fin.setIfInBounds i false) == [i] || !(iC ops (fin.setIfInBounds i false))
def pI(ops:Array Oper):List z8->Array Bool->Bool
 | [],listed=>(Region.ready .any ops listed).isEmpty
 | .aE T none :: rest,listed=>pF ops T listed&&Ft ops T (cO T listed)&&pI ops rest (cO T listed)
 | .aE T (some i) :: rest,listed=>pF ops T listed&&Ft ops T (cO T listed)&&(Region.ready .any ops (cO T listed) == [i]&&pI ops rest ((cO T listed).setIfInBounds i true))
 | .tree t n :: rest,listed=>iC ops listed&&kX ops (cO (GC t) listed) t false n listed&&pI ops rest (cO (GC t) listed)
 | .held ord :: rest,listed=>vN ops ord listed&&iC ops listed&&aX0 ops (o6 ord) (cO (ord.map (·.1)) listed)&&pI ops rest (cO (ord.map (·.1)) listed)
 | .free ord :: rest,listed=>vN ops ord listed&&Ft ops (o6 ord) (cO (ord.map (·.1)) listed)&&pI ops rest (cO (ord.map (·.1)) listed)
 | .late υ cB l :: _,listed=>iC ops listed&&pF ops cB listed&&(υ.all λb=>b9 b cB)&&vC ops (mm cB l) υ&&Ft ops (mm cB l) (we l (cO cB listed))&&(l.all λp => !b9 p.1 (mm cB l))&&wg ops (we l (cO cB listed)) l (cO cB listed)
 | .Qk C dl υ cB l :: _,listed=>iC ops listed&&pF ops cB listed&&(υ.all λb=>b9 b cB)&&vC ops (mm cB l) υ&&Ft ops (mm cB l) (we l (cO cB listed))&&(l.all λp => !b9 p.1 (mm cB l))&&wg ops (we l (cO cB listed)) l (cO cB listed)&&(C.all λc=>b9 dl (waits ops c (List.range ops.size) [])) && !b9 dl (mm cB l)
def w8:List z8->Nat
 | []=>0
 | .aE T none :: r=>T.length+w8 r
 | .aE T (some _) :: r=>T.length+(w8 r+1)
 | .tree _ n :: r=>n+w8 r
 | .held ord :: r=>ord.length+w8 r
 | .free ord :: r=>ord.length+w8 r
 | .late _ cB l :: _=>cB.length+BX l
 | .Qk _ _ _ cB l :: _=>cB.length+BX l
def pM(wr dc:Nat->Bool)(ops:Array Oper):List z8->Ω->List ρ->List Own->Y->(Ω->List ρ->List Own->Y->Prop)->Prop
 | [],s,L,R,Φ,K=>K s L R Φ
 | .aE T none :: rest,s,L,R,Φ,K=>AP P W wr ops L R Φ T s λs=>pM wr dc ops rest s L R Φ K
 | .aE T (some i) :: rest,s,L,R,Φ,K=>AP P W wr ops L R Φ T s λs=>match ops[i]? with
   | none=>False
   | some o=>q3 ops o s L
     (λs=>xZ P W (wr (o.dst.getD 0)) (dc (o.dst.getD 0)) (λi=>s3 o.dst i ops.toList) o s L R Φ λv L R Φ=>pM wr dc ops rest (s.put o.dst v) L R Φ K)
     (λs=>pM wr dc ops rest (s.put o.dst (.v undef)) L R Φ K)
 | .tree t _ :: rest,s,L,R,Φ,K=>∃ (χ:List Own) (σ:Y),O σ/\(∀ w F,Ctx W w (R++F) Φ->Ctx W w (χ++F) σ)/\tS P W wr ops L χ σ t s R Φ λs R Φ=>pM wr dc ops rest s L R Φ K
 | .held ord :: rest,s,L,R,Φ,K=>∃ (χ:List Own) (σ:Y),O σ/\(∀ w F,Ctx W w (R++F) Φ->Ctx W w (χ++F) σ)/\hS P W wr ops L χ σ ord s R Φ λs R Φ=>pM wr dc ops rest s L R Φ K
 | .late υ cB l :: _,s,L,R,Φ,K=>∃ (χ:List Own) (σ:Y),O σ/\(∀ w F,Ctx W w (R++F) Φ->Ctx W w (χ++F) σ)/\C9 P W wr ops L R Φ χ σ υ cB s λs=>JB P W wr dc ops χ σ l s L R Φ K
 | .Qk C dl υ cB l :: _,s,L,R,Φ,K=>∃ (χ:List Own) (σ:Y),O σ/\(∀ w F,Ctx W w (R++F) Φ->Ctx W w (χ++F) σ)/\∃ (c7:List Own) (θ:Y),O θ/\(∀ w F,Ctx W w (R++F) Φ->Ctx W w (c7++F) θ)/\zh P W wr ops L R Φ χ σ C c7 θ υ cB s λs=>JC P W wr dc ops χ σ dl c7 θ true l s L R Φ K
 | .free ord :: rest,s,L,R,Φ,K=>∃ (χ:List Own) (σ:Y),O σ/\(∀ w F,Ctx W w (R++F) Φ->Ctx W w (χ++F) σ)/\Bm P W wr dc ops χ σ ord s L R Φ λs L R Φ=>pM wr dc ops rest s L R Φ K
def Yp(wr d:Bool)(es:List gR)(o:Oper)(s:Ω)(L:List ρ)(w:World)(g:Option Bool)(ch:List (Nat × Bool))(K:aj->Prop):Prop :=
 match o.op with
 | .fieldAddr t x f=>match s.ev x with
  | .ptr k off=>match vw es ch (s.fr L) x with|true=>PU P t k off f K|false=>False
  | .v _=>Da P wr d es o (s.fr L) w g ch λv=>K (.v v)
 | .load t x=>match s.ev x with
  | .ptr k off=>match vw es ch (s.fr L) x with|true=>loadT P t L k off λv=>K (.v v)|false=>False
  | .v _=>Da P wr d es o (s.fr L) w g ch λv=>K (.v v)
 | .move x=>match vw es ch (s.fr L) x with|true=>K (s.ev x)|false=>False
 | .assign x=>match vw es ch (s.fr L) x with|true=>K (s.ev x)|false=>False
 | _=>Da P wr d es o (s.fr L) w g ch λv=>K (.v v)
def zR(es:List gR)(s:Ω):Ω:=⟨s.n,go s.l⟩
where go:List (Nat × aj)->List (Nat × aj)
 | []=>[]
 | (t,v) :: r=>match Bn es t with|true=>(t,v) :: go r|false=>go r
def ML(wr:Nat->Bool)(d:Bool)(ops:Array Oper)(L:List ρ)(w:World):List Oper->List gR->Ω->(Ω->Prop)->Prop
 | [],es,s,K=>K (zR es s)
 | o :: rest,es,s,K =>
  match guardOf ops es (s.fr L) o,o.dst with
  | some (g,ch),some t =>
   match (jr es t).isNone&&Nat.blt t s.n with
   | true=>Yp P (wr t) d es o s L w g ch λv=>ML wr d ops L w rest (⟨t,g,ch⟩ :: es) (s.put (some t) v) K
   | false=>False
  | _,_=>False
end
section
variable {P:Program}{W:World}{ops:Array Oper}{wr dc:Nat->Bool}{D:Nat->Prop}{s0:Fr}
theorem YM{Q:Exit->Act->World->Prop}{L0:List ρ}{K:Ω->List ρ->List Own->Y->Prop}
  (hD:∀ (j:Nat) (o:Oper) (t:Nat),ops[j]? = some o->o.dst=some t->D t) (hK:∀ s L R Φ a w,K s L R Φ->bz ds G W s L R Φ a w->Ext L0 L->aR D s0 (s.fr L)->Q .normal a w) :
  ∀ (l:List Oper) (s:Ω) (L:List ρ) (R:List Own) (Φ:Y) (a:Act) (w:World),(∀ o∈l,∀ t,o.dst=some t->D t)->Lh P W wr dc ops l s L R Φ K->bz ds G W s L R Φ a w->Ext L0 L->aR D s0 (s.fr L)->wpList P ops Q l a w
 | [],s,L,R,Φ,a,w,_,h,ha,he,hu=>hK _ _ _ _ _ _ h ha he hu
 | o :: rest,s,L,R,Φ,a,w,hl,h,ha,he,hu=>by
  have hl':∀ o∈rest,∀ t,o.dst=some t->D t:=λo ho=>hl o (List.mem_cons_of_mem _ ho);have ho:∀ t,o.dst=some t->D t:=hl o (by simp);unfold Lh at h;unfold wpList;obtain ⟨s',φ,aF,h⟩:=s5 hD h ha hu;rcases h with ⟨hw,h⟩|⟨hw,h⟩
  .rw [if_pos hw];have:=φ.st;refine .inl (Oper.y9 (D0 h φ.di φ.wf φ.ctx λsv L' R' Z v' w' hk hst j8 hp hc hv=>?_));exact YM hD hK rest _ _ _ _ _ _ hl' hk (φ.put o.dst j8 hp hc hst hv) (he.trans j8) (aF.jJ φ.wf j8 ho)
  .rw [if_neg (by simp [hw])];exact YM hD hK rest _ _ _ _ _ _ hl' h (φ.put o.dst (Ext.refl _) (λk o e=>by cases e) φ.ctx φ.st (λ_=>rfl)) he (aF.jJ φ.wf (Ext.refl _) ho)
theorem Yy{wr:Bool}{o:Oper}{s:Ω}{L:List ρ}{R:List Own}{Φ:Y}{a:Act}{w:World}{K:aj->Prop}(h:MM P W wr o s L R Φ K)(ha:bz ds G W s L R Φ a w):
  ∃ sv v',K sv/\(∀ k o,sv=aj.ptr k o->(bC k L).isSome=true)/\(cg (sv.val L)=false->v'=sv.val L)/\(execOp a.eval o).run P w=.ok (.value v') w:=by
 have hev:=vL s L;unfold MM at h;split at h
 .rename_i cc x y hop;split at h
  .rename_i b hc;have fZ:a.eval cc=.bool b:=by rw [ha.di.eval (by rw [hev,hc];rfl),hev,hc]
   cases b with
   | true =>
    exact ⟨s.ev x,a.eval x,h,λk o e=>ha.wf.ev e,λhu=>by rw [ha.di.eval (by rw [hev];exact hu),hev];rfl,by simp only [execOp,hop,fZ,asBool,Sem.run_bind,Sem.run_pure,Result.andThen,if_true]⟩
   | false =>
    exact ⟨s.ev y,a.eval y,h,λk o e=>ha.wf.ev e,λhu=>by rw [ha.di.eval (by rw [hev];exact hu),hev];rfl,by simp [execOp,hop,fZ,asBool,Sem.run_bind,Sem.run_pure,Result.andThen]⟩
  .exact h.elim
 .split at h
  .rename_i ho;simp only [Bool.and_eq_true] at ho;rw [Bl ha.di ho.1 ho.2,show (s.fr L).eval=s.val L from funext hev];unfold qB at h;split at h
   .rename_i p hp;obtain ⟨sv,h1,h2,h3⟩:=aHH ha.wf ha.ctx hp h;exact ⟨sv,_,h3,h1,λ_=>rfl,h2 w rfl⟩
   .exact h.elim
  .exact h.elim
theorem aHE{Q:Exit->Act->World->Prop}{L:List ρ}{R:List Own}{Φ:Y}{w:World}{dn:Ω->Prop}{K:Act->World->Prop}{fin:Array Bool}(hsel:Region.noSelect ops=true)
  (hD:∀ (j:Nat) (o:Oper) (t:Nat),ops[j]? = some o->o.dst=some t->D t) (hK:∀ s a,dn s->bz ds G W s L R Φ a w->aR D s0 (s.fr L)->K a w) :
  ∀ (T:List Nat) (listed:Array Bool) (s:Ω) (a:Act),(∀ i∈T,Region.ready .any ops (fin.setIfInBounds i false)=[i])->pF ops T listed=true->cO T listed=fin->AP P W wr ops L R Φ T s dn->bz ds G W s L R Φ a w->aR D s0 (s.fr L) ->
   nL P .any ops (dF Q) (λw'=>w'=w) (λl=>l=fin) K T.length listed a w
 | [],listed,s,a,_,_,hf,h,ha,hu=>⟨hf,hK s a h ha hu⟩
 | i :: r,listed,s,a,hl,ho,hf,h,ha,hu=>by
  simp only [pF,Bool.and_eq_true] at ho;obtain ⟨⟨bq,eF⟩,j9⟩:=ho;unfold AP at h;split at h
  .exact h.elim
  rename_i o hi;have hd:∀ t,o.dst=some t->D t:=λt ht=>hD i o t hi ht;have hr:i∈Region.ready .any ops listed:=by simpa using bq
  have hE:∀ l:Array Bool,l.setIfInBounds i true=fin->i∈Region.ready .any ops l->∀ j∈Region.ready .any ops l,j=i:=by
   intro l hl' l9 j hj;have e:l=fin.setIfInBounds i false:=by
    have h0:=(mem_ready.1 l9).1;rw [<-hl'];have h2:l[i]? = some false:=by
     rw [Array.getD_eq_getD_getElem?] at h0;cases hx:l[i]? with
     | none=>rw [hx] at h0;cases h0
     | some b=>rw [hx] at h0;simp at h0;subst h0;rfl
    have hlt:i<l.size:=(Array.getElem?_eq_some_iff.1 h2).1;apply Array.ext_getElem?;intro k;by_cases hk:i=k
    .subst hk;rw [Array.getElem?_setIfInBounds_self_of_lt (by simpa using hlt),h2]
    .rw [Array.getElem?_setIfInBounds_ne hk,Array.getElem?_setIfInBounds_ne hk]
   rw [e,hl i (by simp)] at hj;simpa using hj
  have take:∀ (s':Ω) (sv:aj) (v':Value),bz ds G W s' L R Φ a w->aR D s0 (s'.fr L)->(∀ k o,sv=aj.ptr k o->(bC k L).isSome=true)->(cg (sv.val L)=false->v'=sv.val L)->YieldsIf P ops (λw'=>w'=w) o v' a->AP P W wr ops L R Φ r (s'.put o.dst sv) dn ->
    nL P .any ops (dF Q) (λw'=>w'=w) (λl=>l=fin) K (i :: r).length listed a w:=by
   intro s' sv v' φ aF hp hv hy hk;have ih:=aHE (Q:=Q) hsel hD hK r (listed.setIfInBounds i true) (s'.put o.dst sv) (a.put o.dst v') (λj hj=>hl j (List.mem_cons_of_mem _ hj)) j9 hf hk (φ.put o.dst (Ext.refl _) hp φ.ctx φ.st hv) (aF.jJ φ.wf (Ext.refl _) hd);exact aKn hi (Region.noSelect_spec hsel) (λ_ _ _ h=>h) hE r.length listed a w (Region.free_spec hi eF) hr hy rfl ih
  obtain ⟨s',φ,aF,h⟩:=s5 hD h ha hu;rcases h with ⟨hw,h⟩|⟨hw,h⟩
  .obtain ⟨sv,v',h1,h2,h3,h4⟩:=Yy h φ;exact take s' sv v' φ aF h2 h3 (.inl ⟨hw,λw' e=>by subst e;exact h4⟩) h1
  .exact take s' (.v undef) undef φ aF (λk o e=>by cases e) (λ_=>rfl) (.inr ⟨hw,rfl⟩) h
theorem aIc{Q:Exit->Act->World->Prop}{L:List ρ}{R:List Own}{Φ:Y}{w:World}{dn:Ω->Prop}{m:Nat}(hsel:Region.noSelect ops=true)
  (hD:∀ (j:Nat) (o:Oper) (t:Nat),ops[j]? = some o->o.dst=some t->D t) {T:List Nat} {listed:Array Bool} {s:Ω} {a:Act}
  (hK:∀ s a,dn s->bz ds G W s L R Φ a w->aR D s0 (s.fr L)->wpAny P .any ops (dF Q) m (cO T listed) a w) (bq:pF ops T listed=true) (eF:Ft ops T (cO T listed)=true) (h:AP P W wr ops L R Φ T s dn)
  (ha:bz ds G W s L R Φ a w) (hu:aR D s0 (s.fr L)):wpAny P .any ops (dF Q) (T.length+m) listed a w:=by
 have hl:∀ j∈T,Region.ready .any ops ((cO T listed).setIfInBounds j false)=[j]:=by
  intro j hj;have:=List.all_eq_true.1 eF j hj;simpa using this
 refine NP (S:=λw'=>w'=w) (E:=λl=>l=cO T listed) (K:=λa' w'=>w'=w/\wpAny P .any ops (dF Q) m (cO T listed) a' w) ?_ T.length listed a w ?_
 .rintro l a w1 rfl ⟨rfl,hk⟩;exact hk
 .exact aHE hsel hD (λs a hk ha hu=>⟨rfl,hK s a hk ha hu⟩) T listed s a hl bq rfl h ha hu
theorem aXJ{t:TypeId}{L:List ρ}{k off:Nat}{K:Value->Prop}{T:ρ}(hT:bC k L=some T)(h:loadT P t L k off K):
  ∃ v,K v/\∀ w:World,cj w T.b T.cs T.t->(loadVar t ⟨T.b,off,none⟩).run P w=.ok v w:=by
 unfold loadT at h;rw [hT] at h;split at h
 .rename_i cu d i e hd hi;cases e;split at h
  .rename_i l ha hz;split at h
   .rename_i hc;simp only [Bool.and_eq_true] at hc;have hlen:=Nat.eq_of_beq_eq_true hc.1;have hfit:∀ {l:List bh} {vs:List Value},zP l vs=true->vs.length=l.length:=by
     intro l
     induction l with
     | nil=>intro vs h;cases vs<;>simp_all [zP]
     | cons s r ih =>
      intro vs h;cases vs with
      | nil=>simp [zP] at h
      | cons v vs =>
       unfold zP at h;split at h
       .simp [ih h]
       .cases h
    refine ⟨_,h,λw hb=>?_⟩;have oh:=hfit hc.2;rw [hlen] at oh;have hrow:aQ w T.b off ((T.cs.drop off).take i.size):=hb.row λj hj=>by
     simp only [List.length_take,List.length_drop] at hj;rw [List.getElem_take,List.getElem_drop,List.getElem?_eq_getElem]
    generalize (T.cs.drop off).take i.size=vs at oh hrow;have hr:=run_loadCellsFrom (P:=P) (w:=w) (b:=T.b) (o:=off) vs 0 #[] (λj hj=>by rw [Nat.zero_add];exact hrow j hj);unfold loadVar loadCells;simp only [Sem.run_bind,GN hd,ha,Result.andThen,if_true,run_sizeOf hi,<-oh,hr,Sem.run_pure];simp
   .exact h.elim
  .rename_i sc ha hz;split at h
   .rename_i v hv;have one:∀ w:World,cj w T.b T.cs T.t->(loadVar t ⟨T.b,off,none⟩).run P w=.ok v w:=by
     intro w hb;have hcell:=hb.Iv hv;unfold loadVar;simp only [Sem.run_bind,GN hd,ha,Result.andThen,Bool.false_eq_true,if_false,load,Sem.run,hcell]
    split at h
    .obtain ⟨f,a,c,rfl,h⟩:=h;exact ⟨_,h,one⟩
    .split at h
     .exact ⟨v,h,one⟩
     .exact h.elim
   .exact h.elim
  .exact h.elim
 .exact h.elim
theorem aYO{wr:Bool}{o:Oper}{s:Ω}{L:List ρ}{χ:List Own}{σ:Y}{K:aj->Prop}{p:Prop}(hst:O σ)(hwf:fX L s)(h:vz P W wr o s L [] σ K=some p)(hp:p)(hu:x9 P o s L K=false):
  ∃ sv,K sv/\(∀ k o,sv=aj.ptr k o->(bC k L).isSome=true)/\∀ w',Ctx W w' (χ++(L.map ρ.own++G)) σ->(execOp (s.val L) o).run P w'=.ok (.value (sv.val L)) w':=by
 have oA:∀ {p:Prop},ir P o (s.val L) (λv=>K (.v v))=false->jc P wr o (s.val L) W none (λv=>K (.v v))=some p->p ->
   ∃ sv,K sv/\(∀ k o,sv=aj.ptr k o->(bC k L).isSome=true)/\∀ w',Ctx W w' (χ++(L.map ρ.own++G)) σ->(execOp (s.val L) o).run P w'=.ok (.value (sv.val L)) w':=by
  intro p hf hq hp;obtain ⟨v,h1,h2⟩:=Yx W W hq hf hp;exact ⟨.v v,h2,λk o e=>(by cases e),λw' _=>h1 w'⟩
 unfold vz at h;split at h
 .rename_i x hop;cases h;exact ⟨s.ev x,hp,λk o e=>hwf.ev e,λw' _=>by simp [execOp,hop,Ω.val]⟩
 .rename_i x hop;cases h;exact ⟨s.ev x,hp,λk o e=>hwf.ev e,λw' _=>by simp [execOp,hop,Ω.val]⟩
 .rename_i x hop;split at h
  .rename_i k off hx;cases h;obtain ⟨T,hT⟩:=Option.isSome_iff_exists.1 (hwf.ev hx);refine ⟨.ptr k off,hp,λk' o' e=>by cases e;rw [hT];rfl,λw' _=>?_⟩;have hv:s.val L x=.pointer (some ⟨T.b,off,none⟩):=by rw [Ω.val,hx,ie hT]
   simp [execOp,hop,hv,ie hT]
  .exact oA (by simp [ir,hop]) h hp
 .rename_i t x f hop;split at h
  .rename_i k off hx;cases h;obtain ⟨T,hT⟩:=Option.isSome_iff_exists.1 (hwf.ev hx);obtain ⟨off',h1,h2⟩:=PV hT hp;refine ⟨.ptr k off',h2,λk' o' e=>by cases e;rw [hT];rfl,λw' _=>?_⟩;have hv:s.val L x=.pointer (some ⟨T.b,off,none⟩):=by rw [Ω.val,hx,ie hT]
   simp [execOp,hop,hv,ie hT,h1 w',Result.andThen]
  .exact oA (by simp [ir,hop]) h hp
 .rename_i t x i hop;split at h
  .rename_i k off hx;cases h;obtain ⟨T,hT⟩:=Option.isSome_iff_exists.1 (hwf.ev hx);obtain ⟨off',h1,h2⟩:=X6 hT hp;refine ⟨.ptr k off',h2,λk' o' e=>by cases e;rw [hT];rfl,λw' _=>?_⟩;have hv:s.val L x=.pointer (some ⟨T.b,off,none⟩):=by rw [Ω.val,hx,ie hT]
   simp [execOp,hop,hv,ie hT,h1 w',Result.andThen]
  .exact oA (by simp [ir,hop]) h hp
 .rename_i t x hop;split at h
  .rename_i k off hx;cases h;obtain ⟨T,hT⟩:=Option.isSome_iff_exists.1 (hwf.ev hx);obtain ⟨v,h2,h1⟩:=aXJ hT hp;refine ⟨.v v,h2,λk o e=>(by cases e),λw' hS=>?_⟩;have hb:cj w' T.b T.cs T.t:=dP.blk (show dP G W w' L χ σ from hS) hT;have hv:s.val L x=.pointer (some ⟨T.b,off,none⟩):=by rw [Ω.val,hx,ie hT]
   simp [execOp,hop,hv,Instr.loadAt,Instr.sureAddr,h1 w' hb,Result.andThen,aj.val]
  .rename_i x' hx;unfold x9 at hu;simp only [hop,hx] at hu;cases hu
 .rename_i hop;unfold x9 at hu;simp only [hop] at hu;simp [ir,hop] at hu
 .rename_i n1 n2 nA cX uN ο cH;have aF:ir P o (s.val L) (λv=>K (.v v))=false:=by
   clear h oA;unfold x9 at hu;split at hu
   .rename_i t x hop;exact absurd hop (ο t x)
   .rename_i x hop;exact absurd hop (n1 x)
   .rename_i x hop;exact absurd hop (n2 x)
   .rename_i x hop;exact absurd hop (nA x)
   .rename_i t x f hop;exact absurd hop (cX t x f)
   .rename_i t x f hop;exact absurd hop (uN t x f)
   .exact hu
  rw [aF] at h;simp only at h;exact oA aF h hp
theorem a8T{wr:Bool}{o:Oper}{s:Ω}{L:List ρ}{R:List Own}{Φ σ:Y}{χ:List Own}{a:Act}{w:World}{K:aj->Prop}(hst:O σ)(h:QC P W wr o s L χ σ K)(ha:bz ds G W s L R Φ a w)(hw:Ctx W w (χ++(L.map ρ.own++G)) σ):
  ∃ sv v',K sv/\(∀ k o,sv=aj.ptr k o->(bC k L).isSome=true)/\(cg (sv.val L)=false->v'=sv.val L)/\∀ w',Ctx W w' (χ++(L.map ρ.own++G)) σ->(execOp a.eval o).run P w'=.ok (.value v') w':=by
 have hev:=vL s L;unfold QC at h;split at h
 .rename_i cc x y hop;split at h
  .rename_i b hc;have fZ:a.eval cc=.bool b:=by rw [ha.di.eval (by rw [hev,hc];rfl),hev,hc]
   cases b with
   | true =>
    exact ⟨s.ev x,a.eval x,h,λk o e=>ha.wf.ev e,λhu=>by rw [ha.di.eval (by rw [hev];exact hu),hev];rfl,λw' _=>by simp only [execOp,hop,fZ,asBool,Sem.run_bind,Sem.run_pure,Result.andThen,if_true]⟩
   | false =>
    exact ⟨s.ev y,a.eval y,h,λk o e=>ha.wf.ev e,λhu=>by rw [ha.di.eval (by rw [hev];exact hu),hev];rfl,λw' _=>by simp [execOp,hop,fZ,asBool,Sem.run_bind,Sem.run_pure,Result.andThen]⟩
  .exact h.elim
 .split at h
  .rename_i ho;simp only [Bool.and_eq_true] at ho;rw [Bl ha.di ho.1 ho.2,show (s.fr L).eval=s.val L from funext hev];split at h
   .obtain ⟨v,h1,h2⟩:=xm h;refine ⟨.v v,v,h2,λk o e=>(by cases e),λ_=>rfl,λw' hS=>?_⟩;obtain ⟨u,h3,h4⟩:=YN (w:=w') (h1 w' _ hS);subst h4;exact h3 w' rfl
   .rename_i hu;unfold qB at h;split at h
    .rename_i p hp;obtain ⟨sv,h1,h2,h3⟩:=aYO hst ha.wf hp h (by simpa using hu);exact ⟨sv,_,h1,h2,λ_=>rfl,h3⟩
    .exact h.elim
  .exact h.elim
theorem a7O{l:Array Bool}{i k:Nat}(h:l.getD k false=true):(l.setIfInBounds i true).getD k false=true:=by
 rw [Array.getD_eq_getD_getElem?] at h ⊢;by_cases hk:i=k
 .subst hk;rcases Nat.lt_or_ge i l.size with h'|h'
  .rw [Array.getElem?_setIfInBounds_self_of_lt h'];rfl
  .rw [Array.getElem?_eq_none (by simpa using h')] at h;cases h
 .rwa [Array.getElem?_setIfInBounds_ne hk]
theorem vF{ops:Array Oper}{listed:Array Bool}{i:Nat}(hc:iC ops listed=true)(hr:i∈Region.ready .any ops listed):iC ops (listed.setIfInBounds i true)=true:=by
 unfold iC at hc ⊢;rw [List.all_eq_true] at hc ⊢;intro k hk;have h0:=hc k hk;obtain ⟨_,oi,aW6,hall⟩:=mem_ready.1 hr;by_cases hki:i=k
 .subst hki;simp only [aW6];rw [Bool.or_eq_true]
  right
  rw [List.all_eq_true];intro e he;cases hb:Region.binds .any e with
  | false=>rfl
  | true =>
   rw [Bool.or_eq_true];exact .inr (a7O (hall e (by simpa using he) hb))
 .rw [getD_set_ne true hki];rw [Bool.or_eq_true] at h0 ⊢;rcases h0 with h0|h0
  .exact .inl h0
  .right
   split at h0
   .rfl
   .rw [List.all_eq_true] at h0 ⊢;intro e he;have:=h0 e he;rw [Bool.or_eq_true] at this ⊢;rcases this with h|h
    .exact .inl h
    .exact .inr (a7O h)
theorem aKo{P:Program}{ops:Array Oper}{Q:Exit->Act->World->Prop}{S:World->Prop}{E:Array Bool->Prop}{K:Act->World->Prop}{i:Nat}{oi:Oper}{v:Value}(hi:ops[i]? = some oi)(hsel:∀ (j:Nat) (o:Oper) cs b,ops[j]? = some o->o.op≠.select cs b)
  (hQ:∀ c a w,Q (.panic c) (a.put oi.dst v) w->Q (.panic c) a w) (hE:∀ listed,iC ops listed=true->E (listed.setIfInBounds i true)->i∈Region.ready .any ops listed->∀ j∈Region.ready .any ops listed,j=i) :
  ∀ (n:Nat) (listed:Array Bool) (a:Act) (w:World),iC ops listed=true ->
   (∀ j oj,ops[j]? = some oj->j≠i->listed.getD j true=false->(∀ e∈oj.after,Region.binds .any e=true->e.on≠i)->oi.apart ops oj=true) ->
   i∈Region.ready .any ops listed->YieldsIf P ops S oi v a->S w ->
   nL P .any ops Q S E K n (listed.setIfInBounds i true) (a.put oi.dst v) w->nL P .any ops Q S E K (n+1) listed a w:=by
 intro n
 induction n with
 | zero =>
  intro listed a w hc _ hr hy hS H;refine ⟨λh=>(by rw [h] at hr;cases hr),λj hj=>?_⟩;have:=hE listed hc H.1 hr j hj;subst this;exact hy.wpOp hi hS ⟨hS,H⟩
 | succ n ih =>
  intro listed a w hc hfree hr hy hS H;refine ⟨λh=>(by rw [h] at hr;cases hr),λj hj=>?_⟩;by_cases hji:j=i
  .subst hji;exact hy.wpOp hi hS ⟨hS,H⟩
  .have h1:=H.2 j (ready_mono hj hji);obtain ⟨zZ,oj,tw,hall⟩:=mem_ready.1 hj;have hnot:∀ e∈oj.after,Region.binds .any e=true->e.on≠i:=λe he hb heq=>by
    have h1:=hall e he hb;have h0:=(mem_ready.1 hr).1;rw [heq] at h1;rcases Nat.lt_or_ge i listed.size with h'|h'
    .simp [h'] at h0 h1;rw [h0] at h1;cases h1
    .simp [Array.getElem?_eq_none h'] at h1
   have h2:=wpOp_putIf tw (hfree j oj tw hji zZ hnot) (λcs b=>hsel i oi cs b hi) (λcs b=>hsel j oj cs b tw) hQ hy h1;have K6:∀ k ok,ops[k]? = some ok->k≠i->(listed.setIfInBounds j true).getD k true=false ->
     (∀ e∈ok.after,Region.binds .any e=true->e.on≠i)->oi.apart ops ok=true:=λk ok hk hki hun hno=>by
    refine hfree k ok hk hki ?_ hno;by_cases og:j=k
    .subst og;exact zZ
    .rw [getD_set_ne true og] at hun;exact hun
   refine wpOp_mono (λa' w' h3=>⟨h3.2.1,ih (listed.setIfInBounds j true) a' w' (vF hc hj) K6 (ready_mono hr (Ne.symm hji)) h3.1 h3.2.1 ?_⟩) h2;rw [Array.setIfInBounds_comm _ _ hji];exact h3.2.2
theorem Po{Q:Exit->Act->World->Prop}{L:List ρ}{χ:List Own}{σ:Y}{dn:Ω->List Own->Y->Prop}{K:Act->World->Prop}{fin:Array Bool}(hsel:Region.noSelect ops=true)(jA:O σ)
  (hD:∀ (j:Nat) (o:Oper) (t:Nat),ops[j]? = some o->o.dst=some t->D t) (hK:∀ s R Φ a w,dn s R Φ->bz ds G W s L R Φ a w->aR D s0 (s.fr L)->K a w) :
  ∀ (ord:List (Nat × Bool)) (listed:Array Bool) (s:Ω) (R:List Own) (Φ:Y) (a:Act) (w:World),(∀ i∈o6 ord,Region.ready .any ops (fin.setIfInBounds i false)=[i]\/iC ops (fin.setIfInBounds i false)=false)->iC ops listed=true->vN ops ord listed=true->cO (ord.map (·.1)) listed=fin ->
   hS P W wr ops L χ σ ord s R Φ dn->bz ds G W s L R Φ a w->(∀ w F,Ctx W w (R++F) Φ->Ctx W w (χ++F) σ)->aR D s0 (s.fr L)->nL P .any ops (dF Q) (λw'=>Ctx W w' (χ++(L.map ρ.own++G)) σ) (λl=>l=fin) K ord.length listed a w
 | [],listed,s,R,Φ,a,w,_,_,_,hf,h,ha,hΦ,hu=>⟨hf,hK s R Φ a w h ha hu⟩
 | (i,still) :: r,listed,s,R,Φ,a,w,hl,bp,ho,hf,h,ha,hΦ,hu=>by
  unfold hS at h;split at h
  .exact h.elim
  rename_i o hi;have hd:∀ t,o.dst=some t->D t:=λt ht=>hD i o t hi ht;have hw:Ctx W w (χ++(L.map ρ.own++G)) σ:=hΦ _ _ ha.ctx;obtain ⟨s',φ,aF,h⟩:=s5 hD h ha hu;cases still with
  | true =>
   simp only [vN,Bool.and_eq_true] at ho;obtain ⟨⟨bq,eF⟩,j9⟩:=ho;have hr:i∈Region.ready .any ops listed:=by simpa using bq
   have hE:∀ l:Array Bool,iC ops l=true->l.setIfInBounds i true=fin->i∈Region.ready .any ops l->∀ j∈Region.ready .any ops l,j=i:=by
    intro l Jy hl' l9 j hj;have e:l=fin.setIfInBounds i false:=by
     have h0:=(mem_ready.1 l9).1;rw [<-hl'];have h2:l[i]? = some false:=by
      rw [Array.getD_eq_getD_getElem?] at h0;cases hx:l[i]? with
      | none=>rw [hx] at h0;cases h0
      | some b=>rw [hx] at h0;simp at h0;subst h0;rfl
     have hlt:i<l.size:=(Array.getElem?_eq_some_iff.1 h2).1;apply Array.ext_getElem?;intro k;by_cases hk:i=k
     .subst hk;rw [Array.getElem?_setIfInBounds_self_of_lt (by simpa using hlt),h2]
     .rw [Array.getElem?_setIfInBounds_ne hk,Array.getElem?_setIfInBounds_ne hk]
    rcases hl i (by simp [o6]) with h1|h1
    .rw [e,h1] at hj;simpa using hj
    .rw [e,h1] at Jy;cases Jy
   have take:∀ (s':Ω) (sv:aj) (v':Value),bz ds G W s' L R Φ a w->aR D s0 (s'.fr L)->(∀ k o,sv=aj.ptr k o->(bC k L).isSome=true)->(cg (sv.val L)=false->v'=sv.val L) ->
     YieldsIf P ops (λw'=>Ctx W w' (χ++(L.map ρ.own++G)) σ) o v' a->hS P W wr ops L χ σ r (s'.put o.dst sv) R Φ dn ->
     nL P .any ops (dF Q) (λw'=>Ctx W w' (χ++(L.map ρ.own++G)) σ) (λl=>l=fin) K ((i,true) :: r).length listed a w:=by
    intro s' sv v' φ aF hp hv hy hk;have ih:=Po (Q:=Q) hsel jA hD hK r (listed.setIfInBounds i true) (s'.put o.dst sv) R Φ (a.put o.dst v') w (λj hj=>hl j (by simp [o6,hj])) (vF bp hr) j9 hf hk (φ.put o.dst (Ext.refl _) hp φ.ctx φ.st hv) hΦ (aF.jJ φ.wf (Ext.refl _) hd);exact aKo hi (Region.noSelect_spec hsel) (λ_ _ _ h=>h) hE r.length listed a w bp (Region.free_spec hi eF) hr hy hw ih
   rcases h with ⟨cN,h⟩|⟨cN,h⟩
   .obtain ⟨sv,v',h1,h2,h3,h4⟩:=a8T jA h φ hw;exact take s' sv v' φ aF h2 h3 (.inl ⟨cN,h4⟩) h1
   .exact take s' (.v undef) undef φ aF (λk o e=>by cases e) (λ_=>rfl) (.inr ⟨cN,rfl⟩) h
  | false =>
   simp only [vN,Bool.and_eq_true,beq_iff_eq] at ho;obtain ⟨bq,eF⟩:=ho;have a7v:=vF bp (show i∈Region.ready .any ops listed by rw [bq];simp);refine ⟨by rw [bq];simp,λj hj=>?_⟩;rw [bq] at hj;have hj:j=i:=by simpa using hj
   subst hj;unfold wpOp;simp only [hi];rcases h with ⟨cN,h⟩|⟨cN,h⟩
   .simp only [cN,if_true];have:=φ.st;refine .inl (Oper.y9 (D0 h φ.di φ.wf φ.ctx λsv L' R' Z v' w' hk hst j8 hp hc hv=>?_));split at hk
    .rename_i x hs;obtain ⟨xH,hk⟩:=hk;have s7:dP G W w' L R' Z:=by
      have:=dP.meet (ts:=[]) hst hc j8 φ.ids hs
      rwa [show gM [] (cellsOf [] L') L=L from Y4 L] at this
     refine ⟨xH _ _ s7,?_⟩;exact Po hsel jA hD hK r _ _ _ _ _ _ (λj hj=>hl j (by simp [o6,hj])) a7v eF hf hk (φ.put o.dst (Ext.refl _) (λk o e=>by cases e) s7 hst hv) xH (aF.jJ φ.wf (Ext.refl _) hd)
    .exact hk.elim
   .simp only [cN,Bool.false_eq_true,if_false];exact ⟨hw,Po hsel jA hD hK r _ _ _ _ _ _ (λj hj=>hl j (by simp [o6,hj])) a7v eF hf h (φ.put o.dst (Ext.refl _) (λk o e=>by cases e) φ.ctx φ.st (λ_=>rfl)) hΦ (aF.jJ φ.wf (Ext.refl _) hd)⟩
theorem Mo{Q:Exit->Act->World->Prop}{L:List ρ}{χ:List Own}{σ:Y}{dn:Ω->List Own->Y->Prop}{K:Act->World->Prop}{fin:Array Bool}(hsel:Region.noSelect ops=true)(jA:O σ)
  (hD:∀ (j:Nat) (o:Oper) (t:Nat),ops[j]? = some o->o.dst=some t->D t) (hK:∀ s R Φ a w,dn s R Φ->bz ds G W s L R Φ a w->aR D s0 (s.fr L)->K a w):∀ (t:yY),
  (∀ (n:Nat) (listed:Array Bool) (s:Ω) (R:List Own) (Φ:Y) (a:Act) (w:World),iC ops listed=true->kX ops fin t false n listed=true ->
   tS P W wr ops L χ σ t s R Φ dn->bz ds G W s L R Φ a w->(∀ w F,Ctx W w (R++F) Φ->Ctx W w (χ++F) σ)->aR D s0 (s.fr L)->nL P .any ops (dF Q) (λw'=>Ctx W w' (χ++(L.map ρ.own++G)) σ) (λl=>l=fin) K n listed a w) /\
  (∀ (n:Nat) (listed:Array Bool) (s:Ω) (R:List Own) (Φ:Y) (a:Act) (w:World),iC ops listed=true->(∀ j∈tu t,j∈Region.ready .any ops listed)->kX ops fin t true n listed=true ->
   tS P W wr ops L χ σ t s R Φ dn->bz ds G W s L R Φ a w->(∀ w F,Ctx W w (R++F) Φ->Ctx W w (χ++F) σ)->aR D s0 (s.fr L)->∀ j∈tu t,wpOp P ops (dF Q) j (λa' w'=>Ctx W w' (χ++(L.map ρ.own++G)) σ /\
    nL P .any ops (dF Q) (λw'=>Ctx W w' (χ++(L.map ρ.own++G)) σ) (λl=>l=fin) K n (listed.setIfInBounds j true) a' w') a w)
 | .done=>by
  refine ⟨λn listed s R Φ a w bp ho h ha hΦ hu=>?_,λn listed s R Φ a w _ _ ho=>by simp [kX] at ho⟩;cases n with
  | zero=>exact ⟨by simpa [kX] using ho,hK s R Φ a w h ha hu⟩
  | succ n=>simp [kX] at ho
 | .no=>by
  refine ⟨λn listed s R Φ a w _ ho=>by simp [kX] at ho,λn listed s R Φ a w _ _ ho h ha hΦ hu j hj=>by simp [tu] at hj⟩
 | .rd i k=>by
  refine ⟨λn listed s R Φ a w bp ho h ha hΦ hu=>?_,λn listed s R Φ a w _ _ ho=>by simp [kX] at ho⟩;cases n with
  | zero=>simp [kX] at ho
  | succ n =>
   simp only [kX,Bool.and_eq_true] at ho;obtain ⟨⟨⟨bq,eF⟩,hl⟩,j9⟩:=ho;have hl:Region.ready .any ops (fin.setIfInBounds i false)=[i]\/iC ops (fin.setIfInBounds i false)=false:=by simpa using hl
   unfold tS at h;split at h
   .exact h.elim
   rename_i o hi;have hd:∀ t,o.dst=some t->D t:=λt ht=>hD i o t hi ht;have hw:Ctx W w (χ++(L.map ρ.own++G)) σ:=hΦ _ _ ha.ctx;obtain ⟨s',φ,aF,h⟩:=s5 hD h ha hu;have hr:i∈Region.ready .any ops listed:=by simpa using bq
   have hE:∀ l:Array Bool,iC ops l=true->l.setIfInBounds i true=fin->i∈Region.ready .any ops l->∀ j∈Region.ready .any ops l,j=i:=by
    intro l Jy hl' l9 j hj;have e:l=fin.setIfInBounds i false:=by
     have h0:=(mem_ready.1 l9).1;rw [<-hl'];have h2:l[i]? = some false:=by
      rw [Array.getD_eq_getD_getElem?] at h0;cases hx:l[i]? with
      | none=>rw [hx] at h0;cases h0
      | some b=>rw [hx] at h0;simp at h0;subst h0;rfl
     have hlt:i<l.size:=(Array.getElem?_eq_some_iff.1 h2).1;apply Array.ext_getElem?;intro k;by_cases hk:i=k
     .subst hk;rw [Array.getElem?_setIfInBounds_self_of_lt (by simpa using hlt),h2]
     .rw [Array.getElem?_setIfInBounds_ne hk,Array.getElem?_setIfInBounds_ne hk]
    rcases hl with h1|h1
    .rw [e,h1] at hj;simpa using hj
    .rw [e,h1] at Jy;cases Jy
   have take:∀ (s':Ω) (sv:aj) (v':Value),bz ds G W s' L R Φ a w->aR D s0 (s'.fr L)->(∀ k o,sv=aj.ptr k o->(bC k L).isSome=true)->(cg (sv.val L)=false->v'=sv.val L) ->
     YieldsIf P ops (λw'=>Ctx W w' (χ++(L.map ρ.own++G)) σ) o v' a->tS P W wr ops L χ σ k (s'.put o.dst sv) R Φ dn ->
     nL P .any ops (dF Q) (λw'=>Ctx W w' (χ++(L.map ρ.own++G)) σ) (λl=>l=fin) K (n+1) listed a w:=by
    intro s' sv v' φ aF hp hv hy hk;have ih:=(Mo (Q:=Q) hsel jA hD hK k).1 n (listed.setIfInBounds i true) (s'.put o.dst sv) R Φ (a.put o.dst v') w (vF bp hr) j9 hk (φ.put o.dst (Ext.refl _) hp φ.ctx φ.st hv) hΦ (aF.jJ φ.wf (Ext.refl _) hd);exact aKo hi (Region.noSelect_spec hsel) (λ_ _ _ h=>h) hE n listed a w bp (Region.free_spec hi eF) hr hy hw ih
   rcases h with ⟨cN,h⟩|⟨cN,h⟩
   .obtain ⟨sv,v',h1,h2,h3,h4⟩:=a8T jA h φ hw;exact take s' sv v' φ aF h2 h3 (.inl ⟨cN,h4⟩) h1
   .exact take s' (.v undef) undef φ aF (λk o e=>by cases e) (λ_=>rfl) (.inr ⟨cN,rfl⟩) h
 | .alt i k r=>by
  have one:∀ (n:Nat) (listed:Array Bool) (s:Ω) (R:List Own) (Φ:Y) (a:Act) (w:World),iC ops listed=true->i∈Region.ready .any ops listed->kX ops fin k false n (listed.setIfInBounds i true)=true ->
    tS P W wr ops L χ σ (.alt i k r) s R Φ dn->bz ds G W s L R Φ a w->(∀ w F,Ctx W w (R++F) Φ->Ctx W w (χ++F) σ)->aR D s0 (s.fr L)->wpOp P ops (dF Q) i (λa' w'=>Ctx W w' (χ++(L.map ρ.own++G)) σ /\
     nL P .any ops (dF Q) (λw'=>Ctx W w' (χ++(L.map ρ.own++G)) σ) (λl=>l=fin) K n (listed.setIfInBounds i true) a' w') a w:=by
   intro n listed s R Φ a w bp hr ho h ha hΦ hu;unfold tS at h
   replace h:=h.1
   split at h
   .exact h.elim
   rename_i o hi;have hd:∀ t,o.dst=some t->D t:=λt ht=>hD i o t hi ht;have hw:Ctx W w (χ++(L.map ρ.own++G)) σ:=hΦ _ _ ha.ctx;obtain ⟨s',φ,aF,h⟩:=s5 hD h ha hu;unfold wpOp;simp only [hi];rcases h with ⟨cN,h⟩|⟨cN,h⟩
   .simp only [cN,if_true];have:=φ.st;refine .inl (Oper.y9 (D0 h φ.di φ.wf φ.ctx λsv L' R' Z v' w' hk hst j8 hp hc hv=>?_));split at hk
    .rename_i x hs;obtain ⟨xH,hk⟩:=hk;have s7:dP G W w' L R' Z:=by
      have:=dP.meet (ts:=[]) hst hc j8 φ.ids hs
      rwa [show gM [] (cellsOf [] L') L=L from Y4 L] at this
     refine ⟨xH _ _ s7,?_⟩;exact (Mo hsel jA hD hK k).1 n _ _ _ _ _ _ (vF bp hr) ho hk (φ.put o.dst (Ext.refl _) (λk o e=>by cases e) s7 hst hv) xH (aF.jJ φ.wf (Ext.refl _) hd)
    .exact hk.elim
   .simp only [cN,Bool.false_eq_true,if_false];exact ⟨hw,(Mo hsel jA hD hK k).1 n _ _ _ _ _ _ (vF bp hr) ho h (φ.put o.dst (Ext.refl _) (λk o e=>by cases e) φ.ctx φ.st (λ_=>rfl)) hΦ (aF.jJ φ.wf (Ext.refl _) hd)⟩
  have more:∀ (n:Nat) (listed:Array Bool) (s:Ω) (R:List Own) (Φ:Y) (a:Act) (w:World),iC ops listed=true->(∀ j∈tu r,j∈Region.ready .any ops listed)->kX ops fin r true n listed=true ->
    tS P W wr ops L χ σ (.alt i k r) s R Φ dn->bz ds G W s L R Φ a w->(∀ w F,Ctx W w (R++F) Φ->Ctx W w (χ++F) σ)->aR D s0 (s.fr L)->∀ j∈tu r,wpOp P ops (dF Q) j (λa' w'=>Ctx W w' (χ++(L.map ρ.own++G)) σ /\
     nL P .any ops (dF Q) (λw'=>Ctx W w' (χ++(L.map ρ.own++G)) σ) (λl=>l=fin) K n (listed.setIfInBounds j true) a' w') a w:=by
   intro n listed s R Φ a w bp hr ho h ha hΦ hu j hj;unfold tS at h
   replace h:=h.2
   have h:tS P W wr ops L χ σ r s R Φ dn:=by
    cases r with
    | no=>simp [tu] at hj
    | _=>exact h
   exact (Mo hsel jA hD hK r).2 n listed s R Φ a w bp hr ho h ha hΦ hu j hj
  refine ⟨λn listed s R Φ a w bp ho h ha hΦ hu=>?_,λn listed s R Φ a w bp hr ho h ha hΦ hu j hj=>?_⟩
  .cases n with
   | zero=>simp [kX] at ho
   | succ n =>
    simp only [kX,Bool.and_eq_true,beq_iff_eq] at ho;obtain ⟨bq,eF,j9⟩:=ho;refine ⟨by rw [bq];simp,λj hj=>?_⟩;rw [bq] at hj;rcases List.mem_cons.1 hj with rfl|hj
    .exact one n listed s R Φ a w bp (by rw [bq];simp) eF h ha hΦ hu
    .exact more n listed s R Φ a w bp (λj hj=>by rw [bq];exact List.mem_cons_of_mem _ hj) j9 h ha hΦ hu j hj
  .simp only [kX,Bool.and_eq_true] at ho;simp only [tu] at hj;rcases List.mem_cons.1 hj with rfl|hj
   .exact one n listed s R Φ a w bp (hr _ (by simp [tu])) ho.1 h ha hΦ hu
   .exact more n listed s R Φ a w bp (λj hj=>hr j (by simp only [tu];exact List.mem_cons_of_mem _ hj)) ho.2 h ha hΦ hu j hj
theorem aYP{wr:Bool}{o:Oper}{s:Ω}{L:List ρ}{K:aj->Prop}{p:Prop}(hwf:fX L s)(h:vz P W wr o s L [] (λ_ _=>True) K=some p)(hp:p)(hu:x9 P o s L K=false)(KG:∀ t x,o.op≠.load t x):
  ∃ sv,K sv/\(∀ k o,sv=aj.ptr k o->(bC k L).isSome=true)/\∀ w',(execOp (s.val L) o).run P w'=.ok (.value (sv.val L)) w':=by
 have oA:∀ {p:Prop},ir P o (s.val L) (λv=>K (.v v))=false->jc P wr o (s.val L) W none (λv=>K (.v v))=some p->p ->
   ∃ sv,K sv/\(∀ k o,sv=aj.ptr k o->(bC k L).isSome=true)/\∀ w',(execOp (s.val L) o).run P w'=.ok (.value (sv.val L)) w':=by
  intro p hf hq hp;obtain ⟨v,h1,h2⟩:=Yx W W hq hf hp;exact ⟨.v v,h2,λk o e=>(by cases e),λw'=>h1 w'⟩
 unfold vz at h;split at h
 .rename_i x hop;cases h;exact ⟨s.ev x,hp,λk o e=>hwf.ev e,λw'=>by simp [execOp,hop,Ω.val]⟩
 .rename_i x hop;cases h;exact ⟨s.ev x,hp,λk o e=>hwf.ev e,λw'=>by simp [execOp,hop,Ω.val]⟩
 .rename_i x hop;split at h
  .rename_i k off hx;cases h;obtain ⟨T,hT⟩:=Option.isSome_iff_exists.1 (hwf.ev hx);refine ⟨.ptr k off,hp,λk' o' e=>by cases e;rw [hT];rfl,λw'=>?_⟩;have hv:s.val L x=.pointer (some ⟨T.b,off,none⟩):=by rw [Ω.val,hx,ie hT]
   simp [execOp,hop,hv,ie hT]
  .exact oA (by simp [ir,hop]) h hp
 .rename_i t x f hop;split at h
  .rename_i k off hx;cases h;obtain ⟨T,hT⟩:=Option.isSome_iff_exists.1 (hwf.ev hx);obtain ⟨off',h1,h2⟩:=PV hT hp;refine ⟨.ptr k off',h2,λk' o' e=>by cases e;rw [hT];rfl,λw'=>?_⟩;have hv:s.val L x=.pointer (some ⟨T.b,off,none⟩):=by rw [Ω.val,hx,ie hT]
   simp [execOp,hop,hv,ie hT,h1 w',Result.andThen]
  .exact oA (by simp [ir,hop]) h hp
 .rename_i t x i hop;split at h
  .rename_i k off hx;cases h;obtain ⟨T,hT⟩:=Option.isSome_iff_exists.1 (hwf.ev hx);obtain ⟨off',h1,h2⟩:=X6 hT hp;refine ⟨.ptr k off',h2,λk' o' e=>by cases e;rw [hT];rfl,λw'=>?_⟩;have hv:s.val L x=.pointer (some ⟨T.b,off,none⟩):=by rw [Ω.val,hx,ie hT]
   simp [execOp,hop,hv,ie hT,h1 w',Result.andThen]
  .exact oA (by simp [ir,hop]) h hp
 .rename_i t x hop;exact absurd hop (KG t x)
 .rename_i hop;unfold x9 at hu;simp only [hop] at hu;simp [ir,hop] at hu
 .rename_i n1 n2 nA cX uN ο cH;have aF:ir P o (s.val L) (λv=>K (.v v))=false:=by
   clear h oA;unfold x9 at hu;split at hu
   .rename_i t x hop;exact absurd hop (ο t x)
   .rename_i x hop;exact absurd hop (n1 x)
   .rename_i x hop;exact absurd hop (n2 x)
   .rename_i x hop;exact absurd hop (nA x)
   .rename_i t x f hop;exact absurd hop (cX t x f)
   .rename_i t x f hop;exact absurd hop (uN t x f)
   .exact hu
  rw [aF] at h;simp only at h;exact oA aF h hp
theorem MJ{wr:Bool}{o:Oper}{s:Ω}{L:List ρ}{R:List Own}{Φ σ:Y}{χ:List Own}{a:Act}{w:World}{K:aj->Prop}(h:DP P W wr o s L χ σ K)(ha:bz ds G W s L R Φ a w):
  ∃ sv v',K sv/\(∀ k o,sv=aj.ptr k o->(bC k L).isSome=true)/\(cg (sv.val L)=false->v'=sv.val L)/\∀ w',(∃ S,Ctx W w' (χ++S) σ)->(execOp a.eval o).run P w'=.ok (.value v') w':=by
 have hev:=vL s L;unfold DP at h;split at h
 .rename_i cc x y hop;split at h
  .rename_i b hc;have fZ:a.eval cc=.bool b:=by rw [ha.di.eval (by rw [hev,hc];rfl),hev,hc]
   cases b with
   | true =>
    exact ⟨s.ev x,a.eval x,h,λk o e=>ha.wf.ev e,λhu=>by rw [ha.di.eval (by rw [hev];exact hu),hev];rfl,λw' _=>by simp only [execOp,hop,fZ,asBool,Sem.run_bind,Sem.run_pure,Result.andThen,if_true]⟩
   | false =>
    exact ⟨s.ev y,a.eval y,h,λk o e=>ha.wf.ev e,λhu=>by rw [ha.di.eval (by rw [hev];exact hu),hev];rfl,λw' _=>by simp [execOp,hop,fZ,asBool,Sem.run_bind,Sem.run_pure,Result.andThen]⟩
  .exact h.elim
 .rename_i t x hop;split at h
  .exact h.elim
  .split at h
   .rename_i ho;simp only [Bool.and_eq_true] at ho;rw [Bl ha.di ho.1 ho.2,show (s.fr L).eval=s.val L from funext hev];obtain ⟨v,h1,h2⟩:=xm h;refine ⟨.v v,v,h2,λk o e=>(by cases e),λ_=>rfl,λw' ⟨S,hS⟩=>?_⟩;obtain ⟨u,h3,h4⟩:=YN (w:=w') (h1 w' _ hS);subst h4;exact h3 w' rfl
   .exact h.elim
 .rename_i np nl;split at h
  .rename_i ho;simp only [Bool.and_eq_true] at ho;rw [Bl ha.di ho.1 ho.2,show (s.fr L).eval=s.val L from funext hev];split at h
   .exact h.elim
   .rename_i hu;unfold qB at h;split at h
    .rename_i p hp;obtain ⟨sv,h1,h2,h3⟩:=aYP ha.wf hp h (by simpa using hu) nl;exact ⟨sv,_,h1,h2,λ_=>rfl,λw' _=>h3 w'⟩
    .exact h.elim
  .exact h.elim
theorem PR{Q:Exit->Act->World->Prop}{L0:List ρ}{χ:List Own}{σ:Y}{dn:Ω->List ρ->List Own->Y->Prop}{K:Act->World->Prop}{fin:Array Bool}(hsel:Region.noSelect ops=true)
  (hD:∀ (j:Nat) (o:Oper) (t:Nat),ops[j]? = some o->o.dst=some t->D t) (hK:∀ s L R Φ a w,dn s L R Φ->bz ds G W s L R Φ a w->Ext L0 L->aR D s0 (s.fr L)->K a w) :
  ∀ (ord:List (Nat × Bool)) (listed:Array Bool) (s:Ω) (L:List ρ) (R:List Own) (Φ:Y) (a:Act) (w:World),(∀ i∈o6 ord,Region.ready .any ops (fin.setIfInBounds i false)=[i])->vN ops ord listed=true->cO (ord.map (·.1)) listed=fin ->
   Bm P W wr dc ops χ σ ord s L R Φ dn->bz ds G W s L R Φ a w->(∀ w F,Ctx W w (R++F) Φ->Ctx W w (χ++F) σ)->Ext L0 L->aR D s0 (s.fr L)->nL P .any ops (dF Q) (λw'=>∃ S,Ctx W w' (χ++S) σ) (λl=>l=fin) K ord.length listed a w
 | [],listed,s,L,R,Φ,a,w,_,_,hf,h,ha,hΦ,he,hu=>⟨hf,hK s L R Φ a w h ha he hu⟩
 | (i,still) :: r,listed,s,L,R,Φ,a,w,hl,ho,hf,h,ha,hΦ,he,hu=>by
  unfold Bm at h;split at h
  .exact h.elim
  rename_i o hi;have hd:∀ t,o.dst=some t->D t:=λt ht=>hD i o t hi ht;have hw:∃ S,Ctx W w (χ++S) σ:=⟨_,hΦ _ _ ha.ctx⟩;obtain ⟨s',φ,aF,h⟩:=s5 hD h ha hu;cases still with
  | true =>
   simp only [vN,Bool.and_eq_true] at ho;obtain ⟨⟨bq,eF⟩,j9⟩:=ho;have hr:i∈Region.ready .any ops listed:=by simpa using bq
   have hE:∀ l:Array Bool,l.setIfInBounds i true=fin->i∈Region.ready .any ops l->∀ j∈Region.ready .any ops l,j=i:=by
    intro l hl' l9 j hj;have e:l=fin.setIfInBounds i false:=by
     have h0:=(mem_ready.1 l9).1;rw [<-hl'];have h2:l[i]? = some false:=by
      rw [Array.getD_eq_getD_getElem?] at h0;cases hx:l[i]? with
      | none=>rw [hx] at h0;cases h0
      | some b=>rw [hx] at h0;simp at h0;subst h0;rfl
     have hlt:i<l.size:=(Array.getElem?_eq_some_iff.1 h2).1;apply Array.ext_getElem?;intro k;by_cases hk:i=k
     .subst hk;rw [Array.getElem?_setIfInBounds_self_of_lt (by simpa using hlt),h2]
     .rw [Array.getElem?_setIfInBounds_ne hk,Array.getElem?_setIfInBounds_ne hk]
    rw [e,hl i (by simp [o6])] at hj;simpa using hj
   have take:∀ (s':Ω) (sv:aj) (v':Value),bz ds G W s' L R Φ a w->aR D s0 (s'.fr L)->(∀ k o,sv=aj.ptr k o->(bC k L).isSome=true)->(cg (sv.val L)=false->v'=sv.val L) ->
     YieldsIf P ops (λw'=>∃ S,Ctx W w' (χ++S) σ) o v' a->Bm P W wr dc ops χ σ r (s'.put o.dst sv) L R Φ dn ->
     nL P .any ops (dF Q) (λw'=>∃ S,Ctx W w' (χ++S) σ) (λl=>l=fin) K ((i,true) :: r).length listed a w:=by
    intro s' sv v' φ aF hp hv hy hk;have ih:=PR (Q:=Q) hsel hD hK r (listed.setIfInBounds i true) (s'.put o.dst sv) L R Φ (a.put o.dst v') w (λj hj=>hl j (by simp [o6,hj])) j9 hf hk (φ.put o.dst (Ext.refl _) hp φ.ctx φ.st hv) hΦ he (aF.jJ φ.wf (Ext.refl _) hd);exact aKn hi (Region.noSelect_spec hsel) (λ_ _ _ h=>h) hE r.length listed a w (Region.free_spec hi eF) hr hy hw ih
   rcases h with ⟨cN,h⟩|⟨cN,h⟩
   .obtain ⟨sv,v',h1,h2,h3,h4⟩:=MJ h φ;exact take s' sv v' φ aF h2 h3 (.inl ⟨cN,h4⟩) h1
   .exact take s' (.v undef) undef φ aF (λk o e=>by cases e) (λ_=>rfl) (.inr ⟨cN,rfl⟩) h
  | false =>
   simp only [vN,Bool.and_eq_true,beq_iff_eq] at ho;obtain ⟨bq,eF⟩:=ho;refine ⟨by rw [bq];simp,λj hj=>?_⟩;rw [bq] at hj;have hj:j=i:=by simpa using hj
   subst hj;unfold wpOp;simp only [hi];rcases h with ⟨cN,h⟩|⟨cN,h⟩
   .simp only [cN,if_true];have:=φ.st;refine .inl (Oper.y9 (D0 h φ.di φ.wf φ.ctx λsv L' R' Z v' w' hk hst j8 hp hc hv=>⟨⟨_,hk.1 _ _ hc⟩,?_⟩));exact PR hsel hD hK r _ _ _ _ _ _ _ (λj hj=>hl j (by simp [o6,hj])) eF hf hk.2 (φ.put o.dst j8 hp hc hst hv) hk.1 (he.trans j8) (aF.jJ φ.wf j8 hd)
   .simp only [cN,Bool.false_eq_true,if_false];exact ⟨hw,PR hsel hD hK r _ _ _ _ _ _ _ (λj hj=>hl j (by simp [o6,hj])) eF hf h (φ.put o.dst (Ext.refl _) (λk o e=>by cases e) φ.ctx φ.st (λ_=>rfl)) hΦ he (aF.jJ φ.wf (Ext.refl _) hd)⟩
theorem uW{x:Array Bool}{i b:Nat}(h:(x.setIfInBounds i true).getD b true=false):b≠i/\x.getD b true=false:=by
 rw [Array.getD_eq_getD_getElem?] at h;by_cases e:i=b
 .subst e;rcases Nat.lt_or_ge i x.size with h'|h'
  .rw [Array.getElem?_setIfInBounds_self_of_lt h'] at h;simp at h
  .rw [Array.getElem?_eq_none (by simpa using h')] at h;simp at h
 .rw [Array.getElem?_setIfInBounds_ne e] at h;exact ⟨λhh=>e hh.symm,by rw [Array.getD_eq_getD_getElem?];exact h⟩
def eW(ops:Array Oper)(W w0:World)(χ:List Own)(σ:Y)(dl:Option Nat)(c7:List Own)(θ:Y)(υ:List Nat)(x:Array Bool)(w:World):Prop:=iC ops x=true/\(∃ S,Ctx W w (χ++S) σ)/\((∃ b∈υ,x.getD b true=false)->w=w0)/\∀ d,dl=some d->x.getD d true=false->∃ S,Ctx W w (c7++S) θ
theorem eW.down{W w0:World}{χ c7:List Own}{σ θ:Y}{dl:Option Nat}{υ:List Nat}{i:Nat}{x:Array Bool}{w:World}(hi:i∈Region.ready .any ops x)(h:eW ops W w0 χ σ dl c7 θ υ x w):eW ops W w0 χ σ dl c7 θ υ (x.setIfInBounds i true) w :=
 ⟨vF h.1 hi,h.2.1,λ⟨b,hb,hx⟩=>h.2.2.1 ⟨b,hb,(uW hx).2⟩,λd hd hx=>h.2.2.2 d hd (uW hx).2⟩
inductive tI(ops:Array Oper)(b:Nat):Nat->Prop
 | one {k:Nat} {o:Oper} {e:Edge}:ops[k]? = some o->e∈o.after->Region.binds .any e=true->e.on=b->tI ops b k
 | more {k:Nat} {o:Oper} {e:Edge}:ops[k]? = some o->e∈o.after->Region.binds .any e=true->tI ops b e.on->tI ops b k
theorem a0c{b:Nat}:∀ (l acc:List Nat),(∀ k∈acc,tI ops b k)->∀ k∈waits ops b l acc,tI ops b k
 | [],_,h,k,hk=>h k hk
 | j :: r,acc,h,k,hk=>by
  unfold waits at hk;refine a0c r _ ?_ k hk;intro k hk;split at hk
  .rename_i o ho;split at hk
   .rename_i ha;rcases List.mem_cons.1 hk with rfl|hk
    .simp only [Array.any_eq_true',Bool.and_eq_true,Bool.or_eq_true] at ha;obtain ⟨e,he,hbd,C2⟩:=ha;rcases C2 with C2|C2
     .exact .one ho he hbd (Nat.eq_of_beq_eq_true C2)
     .exact .more ho he hbd (h _ (p6.1 C2))
    .exact h k hk
   .exact h k hk
  .exact h k hk
theorem tI.listed{b:Nat}{x:Array Bool}(hc:iC ops x=true){k:Nat}(h:tI ops b k):(∀ (o:Oper) (e:Edge),ops[k]? = some o->e∈o.after->Region.binds .any e=true->x.getD e.on false=true)->x.getD b false=true:=by
 induction h with
 | one ho he hb C2=>intro hall;rw [<-C2];exact hall _ _ ho he hb
 | @more k o e ho he hb _ ih =>
  intro hall;have h1:=hall _ _ ho he hb;refine ih λo' e' ho' he' hb'=>?_;have hlt:e.on<ops.size:=(Array.getElem?_eq_some_iff.1 ho').1;have h2:=List.all_eq_true.1 hc e.on (List.mem_range.2 hlt);have h3:x.getD e.on true=true:=by
   rw [Array.getD_eq_getD_getElem?] at h1 ⊢;cases hx:x[e.on]? with
   | none=>rfl
   | some c=>rw [hx] at h1;simpa using h1
  rw [h3,ho'] at h2;simp only [Bool.not_true,Bool.false_or] at h2;have h4:=List.all_eq_true.1 h2 e' (by simpa using he');rw [hb'] at h4;simpa using h4
theorem tI.later{b d:Nat}{x:Array Bool}(hc:iC ops x=true)(h:tI ops b d)(hb:x.getD b true=false):x.getD d true=false:=by
 cases hd:x.getD d true with
 | false=>rfl
 | true =>
  exfalso;have h3:=h.listed hc λo e ho he hbd=>by
   have hlt:d<ops.size:=(Array.getElem?_eq_some_iff.1 ho).1;have h2:=List.all_eq_true.1 hc d (List.mem_range.2 hlt);rw [hd,ho] at h2;simp only [Bool.not_true,Bool.false_or] at h2;have h4:=List.all_eq_true.1 h2 e (by simpa using he);rw [hbd] at h4;simpa using h4
  rw [Array.getD_eq_getD_getElem?] at h3 hb;cases hx:x[b]? with
  | none=>rw [hx] at h3;cases h3
  | some c=>rw [hx] at h3 hb;simp at h3 hb;rw [h3] at hb;cases hb
theorem eW.mono{W w0:World}{χ c7:List Own}{σ θ:Y}{dl:Option Nat}{υ rd:List Nat}(gG:vC ops rd υ=true){i:Nat}(gZ:dl≠some i)(x:Array Bool)(j:Nat)(w w':World)(hi:i∈Region.ready .any ops x)(hj:j∈Region.ready .any ops x)(hji:j≠i)
  (h:eW ops W w0 χ σ dl c7 θ υ x w) (hrd:b9 j rd=true->w'=w) (h':eW ops W w0 χ σ dl c7 θ υ ((x.setIfInBounds i true).setIfInBounds j true) w'):eW ops W w0 χ σ dl c7 θ υ (x.setIfInBounds j true) w':=by
 refine ⟨vF h.1 hj,h'.2.1,λ⟨b,hb,hx⟩=>?_,λd hd hx=>h'.2.2.2 d hd (by rw [getD_set_ne true (Ne.symm (uW hx).1),getD_set_ne true (λe=>gZ (by rw [hd,e]))];exact (uW hx).2)⟩;obtain ⟨aVY,C7⟩:=uW hx;by_cases Pr:b=i
 .subst Pr;have hw:=h.2.2.1 ⟨b,hb,C7⟩;cases hm:b9 j rd with
  | true=>rw [hrd hm,hw]
  | false =>
   exfalso;unfold vC at gG;have h1:=List.all_eq_true.1 gG b hb;simp only [Bool.and_eq_true] at h1;obtain ⟨_,o,ho,hall⟩:=mem_ready.1 hj;have hlt:j<ops.size:=(Array.getElem?_eq_some_iff.1 ho).1;have h2:=List.all_eq_true.1 h1.2 j (List.mem_range.2 hlt);rw [hm] at h2;simp only [Bool.false_or] at h2;have cN:=a0c (ops:=ops) (b:=b) _ [] (λk hk=>by cases hk) j (p6.1 h2);have h3:=cN.listed h.1 λo' e ho' he hbd=>by
    rw [ho] at ho';cases ho';exact hall e he hbd
   rw [Array.getD_eq_getD_getElem?] at h3 C7;cases hx':x[b]? with
   | none=>rw [hx'] at h3;cases h3
   | some c=>rw [hx'] at h3 C7;simp at h3 C7;rw [h3] at C7;cases C7
 .refine h'.2.2.1 ⟨b,hb,?_⟩;rw [getD_set_ne true (Ne.symm aVY),getD_set_ne true (Ne.symm Pr)];exact C7
theorem Yz{Q:Exit->Act->World->Prop}{w0 w:World}{χ c7:List Own}{σ θ:Y}{dl:Option Nat}{υ rd:List Nat}{E:Array Bool->Prop}{K:Act->World->Prop}{fin:Array Bool}{n:Nat}{i:Nat}{o:Oper}{v:Value}{a:Act}{listed:Array Bool}(hsel:Region.noSelect ops=true)
  (gG:vC ops rd υ=true) (gZ:dl≠some i) (vM:∀ x,E x->x=fin) (hl:Region.ready .any ops (fin.setIfInBounds i false)=[i]) (hi:ops[i]? = some o) (hr:i∈Region.ready .any ops listed) (hf:Region.free .any ops listed i=true)
  (hy:YieldsIf P ops (λw=>∃ x,i∈Region.ready .any ops x/\eW ops W w0 χ σ dl c7 θ υ x w) o v a) (hS:eW ops W w0 χ σ dl c7 θ υ listed w)
  (H:nK P .any ops (dF Q) (eW ops W w0 χ σ dl c7 θ υ) (λj=>b9 j rd) E K n (listed.setIfInBounds i true) (a.put o.dst v) w):nK P .any ops (dF Q) (eW ops W w0 χ σ dl c7 θ υ) (λj=>b9 j rd) E K (n+1) listed a w:=by
 refine abE hi (Region.noSelect_spec hsel) (λ_ _ _ h=>h) (λl hl' l9 j hj=>?_) (λx w hi h=>h.down hi) (eW.mono gG gZ) n listed a w (Region.free_spec hi hf) hr hy hS H;have hl':=vM _ hl';have e:l=fin.setIfInBounds i false:=by
  have h0:=(mem_ready.1 l9).1;rw [<-hl'];have h2:l[i]? = some false:=by
   rw [Array.getD_eq_getD_getElem?] at h0;cases hx:l[i]? with
   | none=>rw [hx] at h0;cases h0
   | some b=>rw [hx] at h0;simp at h0;subst h0;rfl
  have hlt:i<l.size:=(Array.getElem?_eq_some_iff.1 h2).1;apply Array.ext_getElem?;intro k;by_cases hk:i=k
  .subst hk;rw [Array.getElem?_setIfInBounds_self_of_lt (by simpa using hlt),h2]
  .rw [Array.getElem?_setIfInBounds_ne hk,Array.getElem?_setIfInBounds_ne hk]
 rw [e,hl] at hj;simpa using hj
theorem LM{Q:Exit->Act->World->Prop}{L:List ρ}{R:List Own}{Φ σ θ:Y}{χ c7:List Own}{dl:Option Nat}{w0 w:World}{υ rd:List Nat}{dn:Ω->Prop}{K:Act->World->Prop}{E:Array Bool->Prop}{fin:Array Bool}{m:Nat}(hsel:Region.noSelect ops=true)(gG:vC ops rd υ=true)(vM:∀ x,E x->x=fin)
  (hD:∀ (j:Nat) (o:Oper) (t:Nat),ops[j]? = some o->o.dst=some t->D t) :
  ∀ (T:List Nat) (listed:Array Bool) (s:Ω) (a:Act) (_:∀ i∈T,dl≠some i) (_:∀ s a,dn s->bz ds G W s L R Φ a w->aR D s0 (s.fr L)->eW ops W w0 χ σ dl c7 θ υ (cO T listed) w->nK P .any ops (dF Q) (eW ops W w0 χ σ dl c7 θ υ) (λj=>b9 j rd) E K m (cO T listed) a w),
   (∀ i∈T,Region.ready .any ops (fin.setIfInBounds i false)=[i])->pF ops T listed=true->xT P W wr ops L χ σ T s dn->bz ds G W s L R Φ a w->aR D s0 (s.fr L)->eW ops W w0 χ σ dl c7 θ υ listed w ->
   nK P .any ops (dF Q) (eW ops W w0 χ σ dl c7 θ υ) (λj=>b9 j rd) E K (T.length+m) listed a w
 | [],listed,s,a,gZ,hK,_,_,h,ha,hu,hS=>by simp only [List.length_nil,Nat.zero_add];exact hK s a h ha hu hS
 | i :: r,listed,s,a,gZ,hK,hl,ho,h,ha,hu,hS=>by
  simp only [pF,Bool.and_eq_true] at ho;obtain ⟨⟨bq,eF⟩,j9⟩:=ho;unfold xT at h;split at h
  .exact h.elim
  rename_i o hi;have hd:∀ t,o.dst=some t->D t:=λt ht=>hD i o t hi ht;have take:∀ (s':Ω) (sv:aj) (v':Value),bz ds G W s' L R Φ a w->aR D s0 (s'.fr L)->(∀ k o,sv=aj.ptr k o->(bC k L).isSome=true)->(cg (sv.val L)=false->v'=sv.val L) ->
    YieldsIf P ops (λw=>∃ x,i∈Region.ready .any ops x/\eW ops W w0 χ σ dl c7 θ υ x w) o v' a->xT P W wr ops L χ σ r (s'.put o.dst sv) dn ->
    nK P .any ops (dF Q) (eW ops W w0 χ σ dl c7 θ υ) (λj=>b9 j rd) E K ((i :: r).length+m) listed a w:=by
   intro s' sv v' φ aF hp hv hy hk;have ih:=LM (Q:=Q) hsel gG vM hD r (listed.setIfInBounds i true) (s'.put o.dst sv) (a.put o.dst v') (λj hj=>gZ j (List.mem_cons_of_mem _ hj)) hK (λj hj=>hl j (List.mem_cons_of_mem _ hj)) j9 hk (φ.put o.dst (Ext.refl _) hp φ.ctx φ.st hv) (aF.jJ φ.wf (Ext.refl _) hd) (hS.down (by simpa using bq));rw [show (i :: r).length+m=(r.length+m)+1 by simp;omega];exact Yz hsel gG (gZ i (by simp)) vM (hl i (by simp)) hi (by simpa using bq) eF hy hS ih
  obtain ⟨s',φ,aF,h⟩:=s5 hD h ha hu;rcases h with ⟨cN,h⟩|⟨cN,h⟩
  .obtain ⟨sv,v',h1,h2,h3,h4⟩:=MJ h φ;exact take s' sv v' φ aF h2 h3 (.inl ⟨cN,λw' ⟨x,_,hx⟩=>h4 w' hx.2.1⟩) h1
  .exact take s' (.v undef) undef φ aF (λk o e=>by cases e) (λ_=>rfl) (.inr ⟨cN,rfl⟩) h
theorem A2{b:Nat}:∀ (T:List Nat) (x:Array Bool),(b∈T\/x.getD b true=true)->(cO T x).getD b true=true
 | [],x,h=>by rcases h with h|h;cases h;exact h
 | i :: r,x,h=>by
  unfold cO;refine A2 r _ ?_;by_cases a7s:b∈r
  .exact .inl a7s
  .right
   cases hc:(x.setIfInBounds i true).getD b true with
   | true=>rfl
   | false =>
    obtain ⟨h1,h2⟩:=uW hc;rcases h with h|h
    .rcases List.mem_cons.1 h with h|h
     .exact absurd h h1
     .exact absurd h a7s
    .rw [h] at h2;cases h2
theorem a8p{Q:Exit->Act->World->Prop}{L:List ρ}{R:List Own}{Φ σ:Y}{χ:List Own}{w:World}{υ rd:List Nat}{dn:Ω->Prop}{K:Act->World->Prop}{E:Array Bool->Prop}{fin:Array Bool}{m:Nat}(hsel:Region.noSelect ops=true)(gG:vC ops rd υ=true)(vM:∀ x,E x->x=fin)
  (hD:∀ (j:Nat) (o:Oper) (t:Nat),ops[j]? = some o->o.dst=some t->D t) :
  ∀ (T:List Nat) (listed:Array Bool) (s:Ω) (a:Act) (_:∀ s a,dn s->bz ds G W s L R Φ a w->aR D s0 (s.fr L)->eW ops W w χ σ none χ σ υ (cO T listed) w->nK P .any ops (dF Q) (eW ops W w χ σ none χ σ υ) (λj=>b9 j rd) E K m (cO T listed) a w),
   (∀ i∈T,Region.ready .any ops (fin.setIfInBounds i false)=[i])->pF ops T listed=true->C9 P W wr ops L R Φ χ σ υ T s dn->bz ds G W s L R Φ a w->aR D s0 (s.fr L)->eW ops W w χ σ none χ σ υ listed w ->
   nK P .any ops (dF Q) (eW ops W w χ σ none χ σ υ) (λj=>b9 j rd) E K (T.length+m) listed a w
 | [],listed,s,a,hK,_,_,h,ha,hu,hS=>by simp only [List.length_nil,Nat.zero_add];exact hK s a h ha hu hS
 | i :: r,listed,s,a,hK,hl,ho,h,ha,hu,hS=>by
  simp only [pF,Bool.and_eq_true] at ho;obtain ⟨⟨bq,eF⟩,j9⟩:=ho;unfold C9 at h;split at h
  .exact h.elim
  rename_i o hi;have hd:∀ t,o.dst=some t->D t:=λt ht=>hD i o t hi ht;have take:∀ (s':Ω) (sv:aj) (v':Value),bz ds G W s' L R Φ a w->aR D s0 (s'.fr L)->(∀ k o,sv=aj.ptr k o->(bC k L).isSome=true)->(cg (sv.val L)=false->v'=sv.val L) ->
    YieldsIf P ops (λw'=>∃ x,i∈Region.ready .any ops x/\eW ops W w χ σ none χ σ υ x w') o v' a->C9 P W wr ops L R Φ χ σ υ r (s'.put o.dst sv) dn ->
    nK P .any ops (dF Q) (eW ops W w χ σ none χ σ υ) (λj=>b9 j rd) E K ((i :: r).length+m) listed a w:=by
   intro s' sv v' φ aF hp hv hy hk;have ih:=a8p (Q:=Q) hsel gG vM hD r (listed.setIfInBounds i true) (s'.put o.dst sv) (a.put o.dst v') hK (λj hj=>hl j (List.mem_cons_of_mem _ hj)) j9 hk (φ.put o.dst (Ext.refl _) hp φ.ctx φ.st hv) (aF.jJ φ.wf (Ext.refl _) hd) (hS.down (by simpa using bq));rw [show (i :: r).length+m=(r.length+m)+1 by simp;omega];exact Yz hsel gG (λe=>by cases e) vM (hl i (by simp)) hi (by simpa using bq) eF hy hS ih
  obtain ⟨s',φ,aF,h⟩:=s5 hD h ha hu;rcases h with ⟨cN,h⟩|⟨cN,h⟩
  .split at h
   .rename_i hB;obtain ⟨sv,v',h1,h2,h3,h4⟩:=Yy h φ;exact take s' sv v' φ aF h2 h3 (.inl ⟨cN,λw' ⟨x,KA,hx⟩=>by rw [hx.2.2.1 ⟨i,p6.1 hB,(mem_ready.1 KA).1⟩];exact h4⟩) h1
   .obtain ⟨sv,v',h1,h2,h3,h4⟩:=MJ h φ;exact take s' sv v' φ aF h2 h3 (.inl ⟨cN,λw' ⟨x,_,hx⟩=>h4 w' hx.2.1⟩) h1
  .exact take s' (.v undef) undef φ aF (λk o e=>by cases e) (λ_=>rfl) (.inr ⟨cN,rfl⟩) h
theorem a8o{Q:Exit->Act->World->Prop}{L:List ρ}{R:List Own}{Φ σ θ:Y}{χ c7:List Own}{dl:Nat}{C:List Nat}{w:World}{υ rd:List Nat}{dn:Ω->Prop}{K:Act->World->Prop}{E:Array Bool->Prop}{fin:Array Bool}{m:Nat}(hsel:Region.noSelect ops=true)(gG:vC ops rd υ=true)(gZ:b9 dl rd=false)(Pf:∀ c∈C,tI ops c dl)(vM:∀ x,E x->x=fin)
  (hD:∀ (j:Nat) (o:Oper) (t:Nat),ops[j]? = some o->o.dst=some t->D t) :
  ∀ (T:List Nat) (listed:Array Bool) (s:Ω) (a:Act) (_:∀ s a,dn s->bz ds G W s L R Φ a w->aR D s0 (s.fr L)->eW ops W w χ σ (some dl) c7 θ υ (cO T listed) w->nK P .any ops (dF Q) (eW ops W w χ σ (some dl) c7 θ υ) (λj=>b9 j rd) E K m (cO T listed) a w),
   (∀ i∈T,i∈rd)->(∀ i∈T,Region.ready .any ops (fin.setIfInBounds i false)=[i])->pF ops T listed=true->zh P W wr ops L R Φ χ σ C c7 θ υ T s dn->bz ds G W s L R Φ a w->aR D s0 (s.fr L)->eW ops W w χ σ (some dl) c7 θ υ listed w ->
   nK P .any ops (dF Q) (eW ops W w χ σ (some dl) c7 θ υ) (λj=>b9 j rd) E K (T.length+m) listed a w
 | [],listed,s,a,hK,_,_,_,h,ha,hu,hS=>by simp only [List.length_nil,Nat.zero_add];exact hK s a h ha hu hS
 | i :: r,listed,s,a,hK,a7m,hl,ho,h,ha,hu,hS=>by
  simp only [pF,Bool.and_eq_true] at ho;obtain ⟨⟨bq,eF⟩,j9⟩:=ho;unfold zh at h;split at h
  .exact h.elim
  rename_i o hi;have hd:∀ t,o.dst=some t->D t:=λt ht=>hD i o t hi ht;have take:∀ (s':Ω) (sv:aj) (v':Value),bz ds G W s' L R Φ a w->aR D s0 (s'.fr L)->(∀ k o,sv=aj.ptr k o->(bC k L).isSome=true)->(cg (sv.val L)=false->v'=sv.val L) ->
    YieldsIf P ops (λw'=>∃ x,i∈Region.ready .any ops x/\eW ops W w χ σ (some dl) c7 θ υ x w') o v' a->zh P W wr ops L R Φ χ σ C c7 θ υ r (s'.put o.dst sv) dn ->
    nK P .any ops (dF Q) (eW ops W w χ σ (some dl) c7 θ υ) (λj=>b9 j rd) E K ((i :: r).length+m) listed a w:=by
   intro s' sv v' φ aF hp hv hy hk;have ih:=a8o (Q:=Q) hsel gG gZ Pf vM hD r (listed.setIfInBounds i true) (s'.put o.dst sv) (a.put o.dst v') hK (λj hj=>a7m j (List.mem_cons_of_mem _ hj)) (λj hj=>hl j (List.mem_cons_of_mem _ hj)) j9 hk (φ.put o.dst (Ext.refl _) hp φ.ctx φ.st hv) (aF.jJ φ.wf (Ext.refl _) hd) (hS.down (by simpa using bq));rw [show (i :: r).length+m=(r.length+m)+1 by simp;omega];exact Yz hsel gG (λe=>by have e:=Option.some.inj e;rw [e,p6.2 (a7m i (by simp))] at gZ;cases gZ) vM (hl i (by simp)) hi (by simpa using bq) eF hy hS ih
  obtain ⟨s',φ,aF,h⟩:=s5 hD h ha hu;rcases h with ⟨cN,h⟩|⟨cN,h⟩
  .split at h
   .rename_i hB;obtain ⟨sv,v',h1,h2,h3,h4⟩:=Yy h φ;exact take s' sv v' φ aF h2 h3 (.inl ⟨cN,λw' ⟨x,KA,hx⟩=>by rw [hx.2.2.1 ⟨i,p6.1 hB,(mem_ready.1 KA).1⟩];exact h4⟩) h1
   .split at h
    .rename_i hC;obtain ⟨sv,v',h1,h2,h3,h4⟩:=MJ h φ;exact take s' sv v' φ aF h2 h3 (.inl ⟨cN,λw' ⟨x,KA,hx⟩=>h4 w' (hx.2.2.2 dl rfl ((Pf i (p6.1 hC)).later hx.1 (mem_ready.1 KA).1))⟩) h1
    .obtain ⟨sv,v',h1,h2,h3,h4⟩:=MJ h φ;exact take s' sv v' φ aF h2 h3 (.inl ⟨cN,λw' ⟨x,_,hx⟩=>h4 w' hx.2.1⟩) h1
  .exact take s' (.v undef) undef φ aF (λk o e=>by cases e) (λ_=>rfl) (.inr ⟨cN,rfl⟩) h
theorem V8{Q:Exit->Act->World->Prop}{L0:List ρ}{w0:World}{χ:List Own}{σ:Y}{υ rd:List Nat}{dn:Ω->List ρ->List Own->Y->Prop}{K:Act->World->Prop}{fin:Array Bool}(hsel:Region.noSelect ops=true)(gG:vC ops rd υ=true)
  (hD:∀ (j:Nat) (o:Oper) (t:Nat),ops[j]? = some o->o.dst=some t->D t) (hK:∀ s L R Φ a w,dn s L R Φ->bz ds G W s L R Φ a w->Ext L0 L->aR D s0 (s.fr L)->K a w) :
  ∀ (l:List (Nat × List Nat)) (listed:Array Bool) (s:Ω) (L:List ρ) (R:List Own) (Φ:Y) (a:Act) (w:World),iC ops listed=true->(∀ p∈l,∀ i∈p.2,Region.ready .any ops (fin.setIfInBounds i false)=[i])->wg ops fin l listed=true->JB P W wr dc ops χ σ l s L R Φ dn->bz ds G W s L R Φ a w->(∀ w F,Ctx W w (R++F) Φ->Ctx W w (χ++F) σ)->Ext L0 L->aR D s0 (s.fr L) ->
   (∀ b∈υ,listed.getD b true=true)->(∀ p∈l,b9 p.1 rd=false)->nK P .any ops (dF Q) (eW ops W w0 χ σ none χ σ υ) (λj=>b9 j rd) (λx=>x=fin/\Region.ready .any ops x=[]) K (BX l) listed a w
 | [],listed,s,L,R,Φ,a,w,_,_,ho,h,ha,hΦ,he,hu,_,_=>by
  simp only [wg,Bool.and_eq_true,decide_eq_true_eq,List.isEmpty_iff] at ho;exact ⟨ho,hK _ _ _ _ _ _ h ha he hu⟩
 | (i,T) :: rest,listed,s,L,R,Φ,a,w,bp,hl,ho,h,ha,hΦ,he,hu,hB,hn=>by
  simp only [wg,Bool.and_eq_true,beq_iff_eq] at ho;obtain ⟨h1,h2,h3⟩:=ho;unfold JB at h;split at h
  .exact h.elim
  rename_i o hi;have hd:∀ t,o.dst=some t->D t:=λt ht=>hD i o t hi ht;have Bp:∀ b∈υ,(listed.setIfInBounds i true).getD b true=true:=λb hb=>by
   cases hc:(listed.setIfInBounds i true).getD b true with
   | true=>rfl
   | false=>have:=(uW hc).2;rw [hB b hb] at this;cases this
  have sd:∀ {w':World} {R':List Own} {Z:Y} {L':List ρ},dP G W w' L' R' Z->(∀ w F,Ctx W w (R'++F) Z->Ctx W w (χ++F) σ)->eW ops W w0 χ σ none χ σ υ (listed.setIfInBounds i true) w':=λhc xH =>
   ⟨vF bp (by rw [h1];simp),⟨_,xH _ _ hc⟩,λ⟨b,hb,hx⟩=>(by rw [Bp b hb] at hx;cases hx),λd e=>by cases e⟩
  refine ⟨by rw [h1];simp,λj hj=>?_⟩;rw [h1] at hj;have hj:j=i:=by simpa using hj
  subst hj;obtain ⟨s',φ,aF,dH⟩:=s5 hD h ha hu;unfold wpOp;simp only [hi];have xA:=hn (j,T) (by simp);rcases dH with ⟨cN,h⟩|⟨cN,h⟩
  .simp only [cN,if_true];have:=φ.st;refine .inl (Oper.y9 (D0 h φ.di φ.wf φ.ctx λsv L' R' Z v' w' hk hst j8 hp hc hv=>⟨sd hc hk.1,λe=>(by rw [xA] at e;cases e),?_⟩));refine LM hsel gG (λx hx=>hx.1) hD T _ _ _ (λi _ e=>by cases e) (λs a hk' tq oo u5=>?_) (hl (j,T) (by simp)) h2 hk.2 (φ.put o.dst j8 hp hc hst hv) (aF.jJ φ.wf j8 hd) (sd hc hk.1);exact V8 hsel gG hD hK rest _ _ _ _ _ _ _ u5.1 (λp hp'=>hl p (List.mem_cons_of_mem _ hp')) h3 hk' tq hk.1 (he.trans j8) oo (λb hb=>A2 T _ (.inr (Bp b hb))) (λp hp'=>hn p (List.mem_cons_of_mem _ hp'))
  .simp only [cN,Bool.false_eq_true,if_false];refine ⟨sd φ.ctx hΦ,λe=>(by rw [xA] at e;cases e),?_⟩;refine LM hsel gG (λx hx=>hx.1) hD T _ _ _ (λi _ e=>by cases e) (λs a hk' tq oo u5=>?_) (hl (j,T) (by simp)) h2 h (φ.put o.dst (Ext.refl _) (λk o e=>by cases e) φ.ctx φ.st (λ_=>rfl)) (aF.jJ φ.wf (Ext.refl _) hd) (sd φ.ctx hΦ);exact V8 hsel gG hD hK rest _ _ _ _ _ _ _ u5.1 (λp hp'=>hl p (List.mem_cons_of_mem _ hp')) h3 hk' tq hΦ he oo (λb hb=>A2 T _ (.inr (Bp b hb))) (λp hp'=>hn p (List.mem_cons_of_mem _ hp'))
theorem V7{Q:Exit->Act->World->Prop}{L0:List ρ}{w0:World}{χ c7:List Own}{σ θ:Y}{dl:Nat}{υ rd:List Nat}{dn:Ω->List ρ->List Own->Y->Prop}{K:Act->World->Prop}{fin:Array Bool}(hsel:Region.noSelect ops=true)(gG:vC ops rd υ=true)(gZ:b9 dl rd=false)
  (hD:∀ (j:Nat) (o:Oper) (t:Nat),ops[j]? = some o->o.dst=some t->D t) (hK:∀ s L R Φ a w,dn s L R Φ->bz ds G W s L R Φ a w->Ext L0 L->aR D s0 (s.fr L)->K a w) :
  ∀ (l:List (Nat × List Nat)) (up:Bool) (listed:Array Bool) (s:Ω) (L:List ρ) (R:List Own) (Φ:Y) (a:Act) (w:World),iC ops listed=true->(∀ p∈l,∀ i∈p.2,Region.ready .any ops (fin.setIfInBounds i false)=[i])->wg ops fin l listed=true->JC P W wr dc ops χ σ dl c7 θ up l s L R Φ dn->bz ds G W s L R Φ a w->(∀ w F,Ctx W w (R++F) Φ->Ctx W w (χ++F) σ)->(listed.getD dl true=false->up=true/\∀ w F,Ctx W w (R++F) Φ->Ctx W w (c7++F) θ)->(∀ p∈l,∀ i∈p.2,i∈rd)->Ext L0 L->aR D s0 (s.fr L) ->
   (∀ b∈υ,listed.getD b true=true)->(∀ p∈l,b9 p.1 rd=false)->nK P .any ops (dF Q) (eW ops W w0 χ σ (some dl) c7 θ υ) (λj=>b9 j rd) (λx=>x=fin/\Region.ready .any ops x=[]) K (BX l) listed a w
 | [],up,listed,s,L,R,Φ,a,w,_,_,ho,h,ha,hΦ,_,_,he,hu,_,_=>by
  simp only [wg,Bool.and_eq_true,decide_eq_true_eq,List.isEmpty_iff] at ho;exact ⟨ho,hK _ _ _ _ _ _ h ha he hu⟩
 | (i,T) :: rest,up,listed,s,L,R,Φ,a,w,bp,hl,ho,h,ha,hΦ,Wz,hrd,he,hu,hB,hn=>by
  simp only [wg,Bool.and_eq_true,beq_iff_eq] at ho;obtain ⟨h1,h2,h3⟩:=ho;unfold JC at h;split at h
  .exact h.elim
  rename_i o hi;have hd:∀ t,o.dst=some t->D t:=λt ht=>hD i o t hi ht;have Bp:∀ b∈υ,(listed.setIfInBounds i true).getD b true=true:=λb hb=>by
   cases hc:(listed.setIfInBounds i true).getD b true with
   | true=>rfl
   | false=>have:=(uW hc).2;rw [hB b hb] at this;cases this
  have sd:∀ {w':World} {R':List Own} {Z:Y} {L':List ρ},dP G W w' L' R' Z->(∀ w F,Ctx W w (R'++F) Z->Ctx W w (χ++F) σ)->((listed.setIfInBounds i true).getD dl true=false->∀ w F,Ctx W w (R'++F) Z->Ctx W w (c7++F) θ)->eW ops W w0 χ σ (some dl) c7 θ υ (listed.setIfInBounds i true) w':=λhc xH hΨ =>
   ⟨vF bp (by rw [h1];simp),⟨_,xH _ _ hc⟩,λ⟨b,hb,hx⟩=>(by rw [Bp b hb] at hx;cases hx),λd e hx=>by cases e;exact ⟨_,hΨ hx _ _ hc⟩⟩
  have QD:∀ (R':List Own) (Z:Y),IY dl i up (∀ w F,Ctx W w (R'++F) Z->Ctx W w (c7++F) θ)->(listed.setIfInBounds i true).getD dl true=false->(up && !(Nat.beq dl i))=true/\∀ w F,Ctx W w (R'++F) Z->Ctx W w (c7++F) θ:=by
   intro R' Z hq hx;obtain ⟨hne,hx⟩:=uW hx;have hb:Nat.beq dl i=false:=by cases hb:Nat.beq dl i with|false=>rfl|true=>exact absurd (Nat.eq_of_beq_eq_true hb) hne
   have hu:=(Wz hx).1;rw [hu] at hq ⊢;unfold IY at hq;rw [hb] at hq ⊢;exact ⟨rfl,hq⟩
  have hun:∀ (T:List Nat) (x:Array Bool),(cO T x).getD dl true=false->x.getD dl true=false:=λT x hx=>by
   cases hc:x.getD dl true with
   | false=>rfl
   | true=>rw [A2 T x (.inr hc)] at hx;cases hx
  have a7l:∀ i∈T,some dl≠some i:=λk hk e=>by
   cases e;rw [p6.2 (hrd (i,T) (by simp) dl hk)] at gZ;cases gZ
  refine ⟨by rw [h1];simp,λj hj=>?_⟩;rw [h1] at hj;have hj:j=i:=by simpa using hj
  subst hj;obtain ⟨s',φ,aF,dH⟩:=s5 hD h ha hu;unfold wpOp;simp only [hi];have xA:=hn (j,T) (by simp);rcases dH with ⟨cN,h⟩|⟨cN,h⟩
  .simp only [cN,if_true];have:=φ.st;refine .inl (Oper.y9 (D0 h φ.di φ.wf φ.ctx λsv L' R' Z v' w' hk hst j8 hp hc hv=>⟨sd hc hk.1 (λhx=>(QD _ _ hk.2.1 hx).2),λe=>(by rw [xA] at e;cases e),?_⟩));refine LM hsel gG (λx hx=>hx.1) hD T _ _ _ a7l (λs a hk' tq oo u5=>?_) (hl (j,T) (by simp)) h2 hk.2.2 (φ.put o.dst j8 hp hc hst hv) (aF.jJ φ.wf j8 hd) (sd hc hk.1 (λhx=>(QD _ _ hk.2.1 hx).2));exact V7 hsel gG gZ hD hK rest _ _ _ _ _ _ _ _ u5.1 (λp hp'=>hl p (List.mem_cons_of_mem _ hp')) h3 hk' tq hk.1 (λhx=>QD _ _ hk.2.1 (hun _ _ hx)) (λp hp'=>hrd p (List.mem_cons_of_mem _ hp')) (he.trans j8) oo (λb hb=>A2 T _ (.inr (Bp b hb))) (λp hp'=>hn p (List.mem_cons_of_mem _ hp'))
  .simp only [cN,Bool.false_eq_true,if_false];have hq:(listed.setIfInBounds j true).getD dl true=false->∀ w F,Ctx W w (R++F) Φ->Ctx W w (c7++F) θ:=λhx=>(Wz (uW hx).2).2;have qj:IY dl j up (∀ w F,Ctx W w (R++F) Φ->Ctx W w (c7++F) θ)\/listed.getD dl true=true:=by
    cases hc:listed.getD dl true with
    | true=>exact .inr rfl
    | false=>left;unfold IY;split;trivial;split;trivial;exact (Wz hc).2
   have aWG:(listed.setIfInBounds j true).getD dl true=false->(up && !(Nat.beq dl j))=true/\∀ w F,Ctx W w (R++F) Φ->Ctx W w (c7++F) θ:=λhx=>by
    rcases qj with h|h
    .exact QD _ _ h hx
    .rw [(uW hx).2] at h;cases h
   refine ⟨sd φ.ctx hΦ hq,λe=>(by rw [xA] at e;cases e),?_⟩;refine LM hsel gG (λx hx=>hx.1) hD T _ _ _ a7l (λs a hk' tq oo u5=>?_) (hl (j,T) (by simp)) h2 h (φ.put o.dst (Ext.refl _) (λk o e=>by cases e) φ.ctx φ.st (λ_=>rfl)) (aF.jJ φ.wf (Ext.refl _) hd) (sd φ.ctx hΦ hq);exact V7 hsel gG gZ hD hK rest _ _ _ _ _ _ _ _ u5.1 (λp hp'=>hl p (List.mem_cons_of_mem _ hp')) h3 hk' tq hΦ (λhx=>aWG (hun _ _ hx)) (λp hp'=>hrd p (List.mem_cons_of_mem _ hp')) he oo (λb hb=>A2 T _ (.inr (Bp b hb))) (λp hp'=>hn p (List.mem_cons_of_mem _ hp'))
theorem Db{Q:Exit->Act->World->Prop}{L0:List ρ}{K:Ω->List ρ->List Own->Y->Prop}(hsel:Region.noSelect ops=true)
  (hD:∀ (j:Nat) (o:Oper) (t:Nat),ops[j]? = some o->o.dst=some t->D t) (hK:∀ s L R Φ a w,K s L R Φ->bz ds G W s L R Φ a w->Ext L0 L->aR D s0 (s.fr L)->Q .normal a w) :
  ∀ (l:List z8) (listed:Array Bool) (s:Ω) (L:List ρ) (R:List Own) (Φ:Y) (a:Act) (w:World),pI ops l listed=true->pM P W wr dc ops l s L R Φ K->bz ds G W s L R Φ a w->Ext L0 L->aR D s0 (s.fr L) ->
   wpAny P .any ops (dF Q) (w8 l) listed a w
 | [],listed,s,L,R,Φ,a,w,ho,h,ha,he,hu=>by
  refine ⟨?_,hK _ _ _ _ _ _ h ha he hu⟩;simpa [pI] using ho
 | .aE T none :: rest,listed,s,L,R,Φ,a,w,ho,h,ha,he,hu=>by
  simp only [pI,Bool.and_eq_true] at ho;obtain ⟨⟨bq,eF⟩,j9⟩:=ho;unfold pM at h;exact aIc hsel hD (λs a h ha hu=>Db hsel hD hK rest _ s L R Φ a w j9 h ha he hu) bq eF h ha hu
 | .tree t n :: rest,listed,s,L,R,Φ,a,w,ho,h,ha,he,hu=>by
  simp only [pI,Bool.and_eq_true] at ho;obtain ⟨⟨ey,bq⟩,j9⟩:=ho;unfold pM at h;obtain ⟨χ,σ,jA,th,h⟩:=h;refine NP (S:=λw'=>Ctx W w' (χ++(L.map ρ.own++G)) σ) (E:=λl=>l=cO (GC t) listed) (K:=λa' w'=>wpAny P .any ops (dF Q) (w8 rest) (cO (GC t) listed) a' w') ?_ n listed a w ?_
  .rintro l a w1 rfl hk;exact hk
  .exact (Mo hsel jA hD (λs R Φ a w hk ha hu=>Db hsel hD hK rest _ s L R Φ a w j9 hk ha he hu) t).1 n listed s R Φ a w ey bq h ha th hu
 | .held ord :: rest,listed,s,L,R,Φ,a,w,ho,h,ha,he,hu=>by
  simp only [pI,Bool.and_eq_true] at ho;obtain ⟨⟨⟨bq,ey⟩,eF⟩,j9⟩:=ho;unfold pM at h;have hl:∀ j∈o6 ord,Region.ready .any ops ((cO (ord.map (·.1)) listed).setIfInBounds j false)=[j]\/iC ops ((cO (ord.map (·.1)) listed).setIfInBounds j false)=false:=by
   intro j hj;have:=List.all_eq_true.1 eF j hj;simpa using this
  obtain ⟨χ,σ,jA,th,h⟩:=h;refine NP (S:=λw'=>Ctx W w' (χ++(L.map ρ.own++G)) σ) (E:=λl=>l=cO (ord.map (·.1)) listed) (K:=λa' w'=>wpAny P .any ops (dF Q) (w8 rest) (cO (ord.map (·.1)) listed) a' w') ?_ ord.length listed a w ?_
  .rintro l a w1 rfl hk;exact hk
  .exact Po hsel jA hD (λs R Φ a w hk ha hu=>Db hsel hD hK rest _ s L R Φ a w j9 hk ha he hu) ord listed s R Φ a w hl ey bq rfl h ha th hu
 | .late υ cB l :: rest,listed,s,L,R,Φ,a,w,ho,h,ha,he,hu=>by
  simp only [pI,Bool.and_eq_true] at ho;obtain ⟨⟨⟨⟨⟨⟨hc0,bq⟩,WC⟩,gG⟩,hla⟩,xA⟩,gZ⟩:=ho;unfold pM at h;have hl:∀ j∈mm cB l,Region.ready .any ops ((we l (cO cB listed)).setIfInBounds j false)=[j]:=by
   intro j hj;have:=List.all_eq_true.1 hla j hj;simpa using this
  have Q2:∀ (l:List (Nat × List Nat)),∀ i∈cB,i∈mm cB l:=by
   intro l
   induction l with
   | nil=>exact λi hi=>hi
   | cons p r ih=>obtain ⟨q,T⟩:=p;exact λi hi=>List.mem_append.2 (.inr (ih i hi))
  have hlt:∀ (l:List (Nat × List Nat)),∀ p∈l,∀ i∈p.2,i∈mm cB l:=by
   intro l
   induction l with
   | nil=>intro p hp;cases hp
   | cons q r ih =>
    obtain ⟨q,T⟩:=q;intro p hp i hi;rcases List.mem_cons.1 hp with rfl|hp
    .exact List.mem_append.2 (.inl hi)
    .exact List.mem_append.2 (.inr (ih p hp i hi))
  have hB:∀ b∈υ,(cO cB listed).getD b true=true:=λb hb=>A2 cB listed (.inl (p6.1 (List.all_eq_true.1 WC b hb)));obtain ⟨χ,σ,jA,th,h⟩:=h;refine a0g (S:=eW ops W w χ σ none χ σ υ) (rd:=λj=>b9 j (mm cB l)) (E:=λx=>x=we l (cO cB listed)/\Region.ready .any ops x=[]) (K:=λa' w'=>dF Q .normal a' w') (λl a w1 hE hk=>⟨hE.2,hk⟩) (cB.length+BX l) listed a w ?_;refine a8p hsel gG (λx hx=>hx.1) hD cB listed s a (λs a hk ha hu u5=>?_) (λi hi=>hl i (Q2 l i hi)) bq h ha hu ⟨hc0,⟨_,th _ _ ha.ctx⟩,λ_=>rfl,λd e=>by cases e⟩
  exact V8 hsel gG hD (λs L R Φ a w hk ha he hu=>hK _ _ _ _ _ _ hk ha he hu) l _ s L R Φ a w u5.1 (λp hp i hi=>hl i (hlt l p hp i hi)) gZ hk ha th he hu hB (λp hp=>by simpa using List.all_eq_true.1 xA p hp)
 | .Qk C dl υ cB l :: rest,listed,s,L,R,Φ,a,w,ho,h,ha,he,hu=>by
  simp only [pI,Bool.and_eq_true] at ho;obtain ⟨⟨⟨⟨⟨⟨⟨⟨hc0,bq⟩,WC⟩,gG⟩,hla⟩,xA⟩,gZ⟩,hC⟩,C0⟩:=ho;unfold pM at h;have hl:∀ j∈mm cB l,Region.ready .any ops ((we l (cO cB listed)).setIfInBounds j false)=[j]:=by
   intro j hj;have:=List.all_eq_true.1 hla j hj;simpa using this
  have Q2:∀ (l:List (Nat × List Nat)),∀ i∈cB,i∈mm cB l:=by
   intro l
   induction l with
   | nil=>exact λi hi=>hi
   | cons p r ih=>obtain ⟨q,T⟩:=p;exact λi hi=>List.mem_append.2 (.inr (ih i hi))
  have hlt:∀ (l:List (Nat × List Nat)),∀ p∈l,∀ i∈p.2,i∈mm cB l:=by
   intro l
   induction l with
   | nil=>intro p hp;cases hp
   | cons q r ih =>
    obtain ⟨q,T⟩:=q;intro p hp i hi;rcases List.mem_cons.1 hp with rfl|hp
    .exact List.mem_append.2 (.inl hi)
    .exact List.mem_append.2 (.inr (ih p hp i hi))
  have hB:∀ b∈υ,(cO cB listed).getD b true=true:=λb hb=>A2 cB listed (.inl (p6.1 (List.all_eq_true.1 WC b hb)));obtain ⟨χ,σ,jA,th,c7,θ,ze,a7i,h⟩:=h;have C0:b9 dl (mm cB l)=false:=by simpa using C0
  have Pf:∀ c∈C,tI ops c dl:=λc hc=>a0c (ops:=ops) (b:=c) _ [] (λk hk=>by cases hk) dl (p6.1 (List.all_eq_true.1 hC c hc));refine a0g (S:=eW ops W w χ σ (some dl) c7 θ υ) (rd:=λj=>b9 j (mm cB l)) (E:=λx=>x=we l (cO cB listed)/\Region.ready .any ops x=[]) (K:=λa' w'=>dF Q .normal a' w') (λl a w1 hE hk=>⟨hE.2,hk⟩) (cB.length+BX l) listed a w ?_;refine a8o hsel gG C0 Pf (λx hx=>hx.1) hD cB listed s a (λs a hk ha hu u5=>?_) (λi hi=>Q2 l i hi) (λi hi=>hl i (Q2 l i hi)) bq h ha hu ⟨hc0,⟨_,th _ _ ha.ctx⟩,λ_=>rfl,λd e _=>⟨_,a7i _ _ ha.ctx⟩⟩
  exact V7 hsel gG C0 hD (λs L R Φ a w hk ha he hu=>hK _ _ _ _ _ _ hk ha he hu) l true _ s L R Φ a w u5.1 (λp hp i hi=>hl i (hlt l p hp i hi)) gZ hk ha th (λ_=>⟨rfl,a7i⟩) (λp hp i hi=>hlt l p hp i hi) he hu hB (λp hp=>by simpa using List.all_eq_true.1 xA p hp)
 | .free ord :: rest,listed,s,L,R,Φ,a,w,ho,h,ha,he,hu=>by
  simp only [pI,Bool.and_eq_true] at ho;obtain ⟨⟨bq,eF⟩,j9⟩:=ho;unfold pM at h;have hl:∀ j∈o6 ord,Region.ready .any ops ((cO (ord.map (·.1)) listed).setIfInBounds j false)=[j]:=by
   intro j hj;have:=List.all_eq_true.1 eF j hj;simpa using this
  obtain ⟨χ,σ,jA,th,h⟩:=h;refine NP (S:=λw'=>∃ S,Ctx W w' (χ++S) σ) (E:=λl=>l=cO (ord.map (·.1)) listed) (K:=λa' w'=>wpAny P .any ops (dF Q) (w8 rest) (cO (ord.map (·.1)) listed) a' w') ?_ ord.length listed a w ?_
  .rintro l a w1 rfl hk;exact hk
  .exact PR hsel hD (λs L R Φ a w hk ha he hu=>Db hsel hD hK rest _ s L R Φ a w j9 hk ha he hu) ord listed s L R Φ a w hl bq rfl h ha th he hu
 | .aE T (some i) :: rest,listed,s,L,R,Φ,a,w,ho,h,ha,he,hu=>by
  simp only [pI,Bool.and_eq_true,beq_iff_eq] at ho;obtain ⟨⟨bq,eF⟩,h1,h2⟩:=ho;unfold pM at h;refine aIc hsel hD (λs a h ha hu=>?_) bq eF h ha hu;split at h
  .exact h.elim
  rename_i o hi;have hd:∀ t,o.dst=some t->D t:=λt ht=>hD i o t hi ht;refine ⟨λh0=>(by rw [h1] at h0;cases h0),λj hj=>?_⟩;rw [h1] at hj;have hj:j=i:=by simpa using hj
  subst hj;obtain ⟨s',φ,aF,dH⟩:=s5 hD (by assumption) ha hu;clear h;have h:=dH;unfold wpOp;simp only [hi];rcases h with ⟨hw,h⟩|⟨hw,h⟩
  .simp only [hw,if_true];have:=φ.st;refine .inl (Oper.y9 (D0 h φ.di φ.wf φ.ctx λsv L' R' Z v' w' hk hst j8 hp hc hv=>?_));exact Db hsel hD hK rest _ _ _ _ _ _ _ h2 hk (φ.put o.dst j8 hp hc hst hv) (he.trans j8) (aF.jJ φ.wf j8 hd)
  .simp only [hw,Bool.false_eq_true,if_false];exact Db hsel hD hK rest _ _ _ _ _ _ _ h2 h (φ.put o.dst (Ext.refl _) (λk o e=>by cases e) φ.ctx φ.st (λ_=>rfl)) he (aF.jJ φ.wf (Ext.refl _) hd)
theorem aYE{wr d:Bool}{es:List gR}{o:Oper}{s:Ω}{L:List ρ}{R:List Own}{Φ:Y}{a:Act}{w:World}{g:Option Bool}{ch:List (Nat × Bool)}{K:aj->Prop}
  (h:Yp P wr d es o s L w g ch K) (hr:Rel ds es (s.fr L) a) (hwf:fX L s) (hc:dP G W w L R Φ) (hg:e9 g ↔ Holds (s.fr L) ch) :
  ∃ sv,(∀ k o,sv=aj.ptr k o->(bC k L).isSome=true)/\(e9 g->∃ v,(cg (sv.val L)=false->v=sv.val L)/\∀ w',iS d w w'->o.quietAt P a (iS d w) w' v)/\K sv:=by
 have hev:=vL s L;have old:Da P wr d es o (s.fr L) w g ch (λv=>K (.v v))->∃ sv,(∀ k o,sv=aj.ptr k o->(bC k L).isSome=true)/\(e9 g->∃ v,(cg (sv.val L)=false->v=sv.val L)/\∀ w',iS d w w'->o.quietAt P a (iS d w) w' v)/\K sv:=by
  intro h;obtain ⟨u,h1,h2⟩:=aIV h hr hg;exact ⟨.v u,λk o e=>(by cases e),h1,h2⟩
 unfold Yp at h;split at h
 .rename_i t x f hop;split at h
  .rename_i k off hx;split at h
   .rename_i hro;obtain ⟨T,hT⟩:=Option.isSome_iff_exists.1 (hwf.ev hx);obtain ⟨off',h1,h2⟩:=PV hT h;refine ⟨.ptr k off',λk' o' e=>by cases e;rw [hT];rfl,λdH=>⟨_,λ_=>rfl,λw' hw=>?_⟩,h2⟩;have hv:a.eval x=.pointer (some ⟨T.b,off,none⟩):=by rw [AQ hro hr (hg.1 dH),hev,Ω.val,hx,ie hT]
    unfold Oper.quietAt;simp only [execOp,hop,hv,Sem.run_bind,h1 w',Result.andThen,Sem.run_pure,Oper.quietUpon,ie hT];exact ⟨trivial,trivial⟩
   .exact h.elim
  .exact old h
 .rename_i t x hop;split at h
  .rename_i k off hx;split at h
   .rename_i hro;obtain ⟨T,hT⟩:=Option.isSome_iff_exists.1 (hwf.ev hx);obtain ⟨v,h1,h2⟩:=X' hT (hc.blk hT) h;refine ⟨.v v,λk' o' e=>(by cases e),λdH=>⟨_,λ_=>rfl,λw' hw=>?_⟩,h2⟩;have hv:a.eval x=.pointer (some ⟨T.b,off,none⟩):=by rw [AQ hro hr (hg.1 dH),hev,Ω.val,hx,ie hT]
    unfold Oper.quietAt;simp only [execOp,hop,hv,Instr.loadAt,Instr.sureAddr,Sem.run_bind,Sem.run_pure,Result.andThen,h1 w' hw.heap,Oper.quietUpon];exact ⟨trivial,rfl⟩
   .exact h.elim
  .exact old h
 .rename_i x hop;split at h
  .rename_i hro;refine ⟨s.ev x,λk o e=>hwf.ev e,λdH=>⟨_,λ_=>rfl,λw' hw=>?_⟩,h⟩;have hv:a.eval x=(s.ev x).val L:=by rw [AQ hro hr (hg.1 dH),hev];rfl
   unfold Oper.quietAt;simp only [execOp,hop,hv,Sem.run_pure,Oper.quietUpon];exact ⟨trivial,trivial⟩
  .exact h.elim
 .rename_i x hop;split at h
  .rename_i hro;refine ⟨s.ev x,λk o e=>hwf.ev e,λdH=>⟨_,λ_=>rfl,λw' hw=>?_⟩,h⟩;have hv:a.eval x=(s.ev x).val L:=by rw [AQ hro hr (hg.1 dH),hev];rfl
   unfold Oper.quietAt;simp only [execOp,hop,hv,Sem.run_pure,Oper.quietUpon];exact ⟨trivial,trivial⟩
  .exact h.elim
 .exact old h
theorem a7J(es:List gR)(s:Ω)(L:List ρ):(zR es s).fr L=forget es (s.fr L):=by
 have key:∀ l:List (Nat × aj),hJ L (zR.go es l)=q2 (Bn es) (hJ L l):=by
  intro l
  induction l with
  | nil=>rfl
  | cons p r ih =>
   obtain ⟨t,v⟩:=p;simp only [zR.go,hJ,q2];cases Bn es t with
   | true=>simp only [hJ,ih]
   | false=>exact ih
 simp only [zR,forget,Ω.fr,key]
theorem aV8{es:List gR}{s:Ω}{L:List ρ}(h:fX L s):fX L (zR es s):=by
 have key:∀ l:List (Nat × aj),∀ p∈zR.go es l,p∈l:=by
  intro l
  induction l with
  | nil=>intro p hp;exact hp
  | cons q r ih =>
   obtain ⟨t,v⟩:=q;intro p hp;simp only [zR.go] at hp;cases hb:Bn es t with
   | true=>rw [hb] at hp;rcases List.mem_cons.1 hp with rfl|hp;simp;exact List.mem_cons_of_mem _ (ih p hp)
   | false=>rw [hb] at hp;exact List.mem_cons_of_mem _ (ih p hp)
 exact λp hp=>h p (key _ p hp)
theorem Yt{L:List ρ}{R:List Own}{Φ:Y}{d:Bool}{w:World}{K:Ω->Prop}{Q:Act->Prop}(hst:O Φ)(FW:(L.map ρ.id).Nodup)(hc:dP G W w L R Φ)
  (hK:∀ s a,K s->cQ ds (s.fr L) a->fX L s->aR D s0 (s.fr L)->Q a) :
  ∀ (l:List Oper) (es:List gR) (s:Ω) (a:Act),(∀ o∈l,∀ t,o.dst=some t->D t)->(∀ e∈es,D e.slot/\e.slot<s.n)->ML P wr d ops L w l es s K->Rel ds es (s.fr L) a->fX L s->aR D s0 (s.fr L)->wpQuiet P ops (iS d w) Q l a
 | [],es,s,a,_,_,h,hr,hwf,hu=>hK _ _ h (by rw [a7J];exact hr.done) (aV8 hwf) (by rw [a7J];exact a7L hu)
 | o :: rest,es,s,a,hl,he,h,hr,hwf,hu=>by
  have hl':∀ o∈rest,∀ t,o.dst=some t->D t:=λo ho=>hl o (List.mem_cons_of_mem _ ho);unfold ML at h;split at h
  .rename_i g ch t hgd ht;split at h
   .rename_i hcd;simp only [Bool.and_eq_true] at hcd;obtain ⟨h1,h2,h3⟩:=a7X hgd hr;obtain ⟨sv,hp,h4,h5⟩:=aYE h hr hwf hc h2;have hd:D t:=hl o (by simp) t ht;have htn:t<s.n:=by have:=hcd.2;rwa [Nat.blt_eq] at this
    have he':∀ e∈(⟨t,g,ch⟩:gR) :: es,D e.slot/\e.slot<(s.put (some t) sv).n:=λe hx=>by
     have hn:(s.put (some t) sv).n=s.n:=by unfold Ω.put;simp only;split<;>rfl
     rw [hn];rcases List.mem_cons.1 hx with rfl|hx
     .exact ⟨hd,htn⟩
     .exact he e hx
    have aF:aR D s0 ((s.put (some t) sv).fr L):=hu.jJ hwf (Ext.refl _) (λt' e=>by cases e;exact hd);have hwf':fX L (s.put (some t) sv):=hwf.put hp;unfold wpQuiet;by_cases dH:e9 g
    .rw [if_pos (h1.2 dH)];obtain ⟨v,h6,h7⟩:=h4 dH;refine ⟨v,h7,?_⟩;rw [ht];exact Yt hst FW hc hK rest _ _ _ hl' he' h5 (by rw [Jm];exact hr.put hcd.1 htn h2 h3 (λ_=>h6) (λhn=>absurd dH hn)) hwf' aF
    .rw [if_neg (λhw=>dH (h1.1 hw)),ht];exact Yt hst FW hc hK rest _ _ _ hl' he' h5 (by rw [Jm];exact hr.put hcd.1 htn h2 h3 (λhh=>absurd hh dH) (λ_=>rfl)) hwf' aF
   .exact h.elim
  .exact h.elim
end
end Go.Vc
end

section
namespace Go.Vc
open Go.RowKit
def nc(rd:Option Nat):Fence:={ Fence.wide with round:=rd }
def A9(Q:Exit->Act->World->Prop):Exit->Act->World->Prop
 | .normal,a,w=>Q .normal a w
 | _,_,_=>False
theorem aEN{Q:Exit->Act->World->Prop}:∀ e a w,A9 Q e a w->Q e a w:=λe a w h=>by
 cases e<;>first|exact h|exact h.elim
theorem aXs{Q:Exit->Act->World->Prop}:¬ LetsOut (A9 Q):=λ⟨_,_,h⟩=>h
def Cy(o:Oper):Bool:=match o.op with | .defer _=>false|_=>true
def BH:List Oper->Bool
 | []=>true
 | o :: r=>Cy o&&BH r
theorem UL:∀ {l:List Oper},BH l=true->∀ o∈l,Cy o=true
 | [],_,o,ho=>by cases ho
 | p :: r,h,o,ho=>by
  simp only [BH,Bool.and_eq_true] at h;rcases List.mem_cons.1 ho with rfl|ho
  .exact h.1
  .exact UL h.2 o ho
def qA:Code->Bool
 | .region _ ops _=>BH ops.toList
 | .seq x y=>qA x&&qA y
 | .cond _ x y=>qA x&&qA y
 | .block _ b=>qA b
 | .loop b=>qA b
 | .rangeFunc _ _ _ _=>false
 | .scope _=>false
 | _=>true
section
variable {P:Program}{b:Frame}{a:Act}{k:List Item}{cs:List Frame}{w:World}{F:Fence}{n:Nat}{Q:Exit->Act->World->Prop}
theorem Gd{c:Code}:step P (lone (b.atR a (.code (.scope c) :: k)) cs w)=.next (lone (b.atR a (.code c :: .inScope c :: k)) cs w) :=
 step_lone_go (by simp [stepG,stepG.exec,Frame.atR])
theorem aZ7{c:Code}:step P (lone (b.atR a (.inScope c :: k)) cs w)=.next (lone (b.atR a k) cs w) :=
 step_lone_go (by simp [stepG,stepG.exec,Frame.atR])
theorem abF{c:Code}(h:c.wpIn F n P (λe a w=>match e with | .goto _=>False|e=>Q e a w) a w):(Code.scope c).wpIn F n P Q a w:=by
 intro b k cs hro hb hr;have h0:(lone (b.atR a (.code (.scope c) :: k)) cs w).fenced P F:=fenced_calm hb hr rfl;obtain ⟨e,a₁,w₁,hq,FP⟩:=h b (.inScope c :: k) cs hro hb hr;cases e with
 | normal=>exact ⟨.normal,a₁,w₁,hq,.head h0 Gd (StepsIn.trans FP (.one (fenced_calm hb hr rfl) aZ7))⟩
 | exit id =>
  have hx:exitTo id (.inScope c :: k)=exitTo id k:=by simp [exitTo]
  exact ⟨.exit id,a₁,w₁,hq,λk' hk=>.head h0 Gd (FP.1 k' (by rw [hx];exact hk)),
   λhr' hk=>let ⟨k₁,h1,h2⟩:=FP.2 hr' (by rw [hx];exact hk);⟨k₁,h1,.head h0 Gd h2⟩⟩
 | goto l=>exact hq.elim
 | ret=>exact ⟨_,a₁,w₁,hq,.of_steps (.one h0 Gd) FP⟩
 | panic ch=>exact ⟨_,a₁,w₁,hq,.of_steps (.one h0 Gd) FP⟩
 | outgrown=>exact ⟨_,a₁,w₁,hq,.of_steps (.one h0 Gd) FP⟩
end
section
variable {P:Program}{rd:Option Nat}{ops:Array Oper}{Q:Exit->Act->World->Prop}
theorem aER{o:Oper}{a:Act}{w:World}{K K':Act->World->Prop}(hd:rd.isSome=true->Cy o=true)(hQ:¬ LetsOut Q)(hK:∀ a w,K a w->K' a w)(h:o.wp P a w K Q):o.wpIn (nc rd) 0 P a w K' Q:=by
 refine ⟨λ_ _=>trivial,?_⟩;have e:o.semAt rd a.eval=execOp a.eval o:=by
  cases rd with
  | none=>rfl
  | some l=>exact Oper.semAt_eq _ _ _ λc hc=>(by have:=hd rfl;rw [Cy,hc] at this;cases this)
 unfold Oper.wp at h;show o.uponIn (nc rd) 0 P a K' Q ((o.semAt rd a.eval).run P w);rw [e];generalize (execOp a.eval o).run P w=r at h;cases r with
 | ok n w' =>
  cases n<;>simp only [Oper.upon,Oper.uponIn] at h ⊢
  case value v=>exact hK _ _ h
  case skip=>exact hK _ _ h
  case defer d=>exact hK _ _ h
  case enter f args => 
   refine ⟨λhh=>(by cases hh),?_⟩;have:=(callsIn_wide (n:=0)).2 h;exact CallsIn.mono (F:=nc rd) this λe w'' he=>by cases e<;>first|exact hK _ _ he|exact he
  case row row args =>
   refine ⟨λhh=>(by cases hh),λc cs hr=>?_⟩;obtain ⟨v,w'',h1,h2⟩:=h c cs;exact ⟨v,w'',hK _ _ h1,stepsIn_wide.2 h2⟩
 | halt x w'=>cases x<;>simp only [Oper.upon,Oper.uponIn] at h ⊢ <;> exact h
theorem aCC(hQ:¬ LetsOut Q):∀ (l:List Oper) (a:Act) (w:World),(rd.isSome=true->∀ o∈l,Cy o=true)->wpList P ops Q l a w->wpListIn (nc rd) 0 P ops Q l a w
 | [],a,w,_,h=>h
 | o :: r,a,w,hd,h=>by
  have ih:=aCC hQ r;unfold wpList at h;unfold wpListIn;split
  .rename_i hw;rw [if_pos hw] at h;rcases h with h|h
   .exact aER (λhh=>hd hh o (by simp)) hQ (λa w h=>ih a w (λhh o ho=>hd hh o (List.mem_cons_of_mem _ ho)) h) h
   .exact absurd h.2 hQ
  .rename_i hw;rw [if_neg hw] at h;exact ⟨λ_ _=>trivial,ih _ _ (λhh o ho=>hd hh o (List.mem_cons_of_mem _ ho)) h⟩
theorem aXt(hQ:¬ LetsOut Q)(hd:rd.isSome=true->∀ o∈ops.toList,Cy o=true){i:Nat}{a:Act}{w:World}{K K':Act->World->Prop}(hK:∀ a w,K a w->K' a w)(h:wpOp P ops Q i K a w):wpOpIn (nc rd) 0 P ops Q i K' a w:=by
 unfold wpOp at h;unfold wpOpIn;cases ho:ops[i]? with
 | none=>rw [ho] at h;exact hK _ _ h
 | some o =>
  rw [ho] at h;simp only at h ⊢;split
  .rename_i hw;rw [if_pos hw] at h;rcases h with h|h
   .exact aER (λhh=>hd hh o (by simpa using Array.mem_of_getElem? ho)) hQ hK h
   .exact absurd h.2 hQ
  .rename_i hw;rw [if_neg hw] at h;exact ⟨λ_ _=>trivial,hK _ _ h⟩
theorem a4g{md:Region.Mode}(hQ:¬ LetsOut Q)(hd:rd.isSome=true->∀ o∈ops.toList,Cy o=true):∀ (n:Nat) (listed:Array Bool) (a:Act) (w:World),wpAny P md ops Q n listed a w->wpAnyIn (nc rd) 0 P md ops Q n listed a w
 | 0,_,_,_,h=>h
 | n+1,listed,a,w,h=>⟨h.1,λi hi=>aXt hQ hd (λa w h=>a4g hQ hd n _ a w h) (h.2 i hi)⟩
theorem aHL{id:Nat}{a:Act}{w:World}(hd:rd.isSome=true->BH ops.toList=true)(h:wpList P ops (A9 Q) ops.toList a w):(Code.region id ops false).wpIn (nc rd) 0 P Q a w :=
 wpIn_mono (wpIn_region_list (aCC aXs _ _ _ (λhh=>UL (hd hh)) h)) aEN
theorem aHK{id:Nat}{a:Act}{w:World}(hd:rd.isSome=true->BH ops.toList=true)(hm:P.follows .mixedOrders=true)(h:wpAny P .any ops (dF (A9 Q)) ops.size (Array.replicate ops.size false) a (w.drewN 1)):
  (Code.region id ops true).wpIn (nc rd) 0 P Q a w :=
 wpIn_mono (wpIn_region_any hm (a4g (λ⟨_,_,h⟩=>h) (λhh=>UL (hd hh)) _ _ _ _ h)) λe a w h=>aEN _ _ _ (a62 _ _ _ h)
theorem aYR{id:Nat}{a:Act}{w:World}(hd:rd.isSome=true->BH ops.toList=true)(hm:P.follows .mixedOrders=true)(hB:Region.lexB .any ops=true)
  (h:wpQuiet P ops (λw'=>∃ n,w'=w.drewN n) (λa'=>∀ w',(∃ n,w'=w.drewN n)->Q .normal a' w') ops.toList a):(Code.region id ops true).wpIn (nc rd) 0 P Q a w:=by
 refine aHK hd hm ?_;simp only [Region.lexB,Bool.and_eq_true] at hB;refine wpAny_of_quiet (C:=λw'=>∃ n,w'=w.drewN n) (Q':=dF (A9 Q)) (Q:=λa'=>∀ w',(∃ n,w'=w.drewN n)->Q .normal a' w') (λ_ w' hw' h=>h w' hw') _ _ _ _ ⟨1,rfl⟩ ?_;have:=wpAnyQ_lex (C:=λw'=>∃ n,w'=w.drewN n) (md:=.any) hB.1 ops.toList 0 (Array.replicate ops.size false) a (by simp) (by simpa using hB.2) h;simpa using this
end
def mark(D:Nat):Deferred:={ target:=.collected D,args:=#[] }
def sG(D:Nat):Own:=.obj D (.deferred (some []))
def Tie(rd:Option Nat)(ds:List Deferred)(G:List Own)(ds':List Deferred)(G':List Own):Prop :=
 ∃ lT:List Nat,(rd.isSome=true->lT=[])/\ds'=lT.map mark++ds/\G'=lT.map sG++G
theorem Tie.refl(rd:Option Nat)(ds:List Deferred)(G:List Own):Tie rd ds G ds G:=⟨[],λ_=>rfl,rfl,rfl⟩
theorem Tie.trans{rd:Option Nat}{ds lX tV:List Deferred}{G oH yQ:List Own}(h:Tie rd ds G lX oH)(k:Tie rd lX oH tV yQ):Tie rd ds G tV yQ:=by
 obtain ⟨lT,h1,rfl,rfl⟩:=h;obtain ⟨an,k1,rfl,rfl⟩:=k;exact ⟨an++lT,λhh=>by rw [h1 hh,k1 hh];rfl,by simp,by simp⟩
theorem aCB{P:Program}{fn:Func}{tmps:Array Value}{a4V:c6}{W:World}{Φ:Y}[O Φ]:∀ (lT:List Nat) (S:List Own) (w:World),Ctx W w (S++lT.map sG) Φ ->
  (∀ w' S',Ctx W w' (S++S') Φ->LeavesIn Fence.wide 0 P fn tmps a4V [] .returning w')->LeavesInM Fence.wide 0 P fn tmps a4V (lT.map mark) .returning w
 | [],S,w,c,h=>h w [] c
 | D :: lT,S,w,c,h=>by
  refine ⟨by simp,.inl ⟨D,r9 w D (.deferred none),rfl,run_takeDeferred (c.own (sG D) (by simp)),?_⟩⟩;have hk:(S++(D :: lT).map sG)[S.length]? = some (.obj D (.deferred (some []))):=by
   rw [List.getElem?_append_right (Nat.le_refl _)];simp [sG]
  have c2:=c.putObj S.length (.deferred none) hk;have e:(S++(D :: lT).map sG).set S.length (.obj D (.deferred none))=(S++[Own.obj D (.deferred none)])++lT.map sG:=by
   rw [List.set_append_right _ _ (Nat.le_refl _)];simp
  rw [e] at c2;exact aCB lT _ _ c2 λw' S' c'=>h w' (Own.obj D (.deferred none) :: S') (by simpa using c')
def Iter(P:Program)(qg:Nat)(lb:Array Value)(N:Nat)(xs:Nat->Array Value)(X:World->Prop):Prop :=
 ∀ (l:Nat) (J:Nat->World->Prop) (W:World),(∀ k qX,J k qX->X qX) ->
  (∀ k qX,J k qX->k<N->YieldAt Fence.wide 0 P l (xs k) qX λe W'=>e=.returned (.bool true)/\J (k+1) W')->J 0 W ->
  CallsIn Fence.wide 0 P qg (#[.func (.yield l) #[] #[]]++lb) W λe W'=>(∃ v,e=.returned v)/\J N W'
theorem abG{P:Program}{W:World}{g:Operand}{ps:Array Tmp}{assign body:Code}{Q:Exit->Act->World->Prop}{a:Act}{w:World}{qg:Nat}{lb:Array Value}{N:Nat}{xs:Nat->Array Value}{X:World->Prop}{G:List Own}
  (hg:a.eval g=.func (.func qg) #[] lb) (aUd:∀ args w,(callFunc qg args).run P w=.ok (.enter qg args) w) (hit:Iter P qg lb N xs X) (hps:∀ k,k<N->(xs k).size=ps.size)
  (Inv:Nat->List Own->World->Prop) (Pv:∀ k qR w1,Inv k qR w1->∃ S Φ,O Φ/\Ctx W w1 (S++qR) Φ/\∀ w2 TF,Ctx W w2 (S++TF) Φ->Inv k TF w2) (hX:∀ k qR w1,Inv k qR w1->X w1) (h0:Inv 0 G w)
  (aWI:∀ l k qR w1,k<N->Inv k qR w1->assign.wpIn (nc (some l)) 0 P (Exit.then (λa1 w2=>∃ S Φ,O Φ/\Ctx W w2 (S++qR) Φ/\∀ w3 Nq,Ctx W w3 (S++Nq) Φ->body.wpIn (nc (some l)) 0 P (λe _ rG=>e=.normal/\Inv (k+1) Nq rG) a1 w3) (λ_ _ _=>False))
   { tmps:=(ps.zip (xs k)).foldl (λt (p,v)=>t.setIfInBounds p v) a.tmps,defers:=[] } w1)
  (aVh:∀ D w',Inv N (sG D :: G) w'->Q .normal { a with defers:=mark D :: a.defers } w') :
  (Code.rangeFunc g ps assign body).wpIn (nc none) 0 P Q a w:=by
 refine wpIn_rangeFunc ?_;intro fn hfn;show ∃ l mark w₁ d w₁' f args w₂,(Instr.enterLoop fn a.tmps ps assign body none).run P w=_/\_;obtain ⟨rec,xF⟩:∃ rec:LoopState->Option Code->Loop,rec=λst Yj=>{ state:=st,pending:=Yj,fn,tmps:=a.tmps,params:=ps,assign,body,defers:=w.heap.size }:=⟨_,rfl⟩;obtain ⟨qX,a7n⟩:∃ qX,(w.alloc (.deferred (some []))).alloc (.loop (rec .ready none))=qX:=⟨_,rfl⟩;obtain ⟨l,hl⟩:∃ l,w.heap.size+1=l:=⟨_,rfl⟩
 have rl:∀ st:LoopState,Own.obj l (.loop (rec st none))=Own.obj l (.loop (rec st none)):=λ_=>rfl
 let oY:=λ(st:LoopState)=>Own.obj l (.loop (rec st none)) :: sG w.heap.size :: G
 have turn:∀ {k:Nat} {st st':LoopState} {S:List Own} {Φ:Y} {w1:World},O Φ->Ctx W w1 (S++oY st) Φ->Ctx W (w1.putObj l (.loop (rec st' none))) (S++oY st') Φ:=by
  intro k st st' S Φ w1 hs c;have hk:(S++oY st)[S.length]? = some (.obj l (.loop (rec st none))):=by rw [List.getElem?_append_right (Nat.le_refl _)];simp [oY]
  have c2:=c.putObj S.length (.loop (rec st' none)) hk;have e:(S++oY st).set S.length (.obj l (.loop (rec st' none)))=S++oY st':=by rw [List.set_append_right _ _ (Nat.le_refl _)];simp [oY]
  rw [e] at c2;exact c2
 have start:Inv 0 (oY .ready) qX:=by
  obtain ⟨S,Φ,hs,c,hn⟩:=Pv 0 G w h0;refine hn _ _ ?_;have c1:=c.newObj (o:=.deferred (some [])) rfl;have c2:=c1.newObj (o:=.loop (rec .ready none)) rfl;rw [a7n,World.size_alloc,hl] at c2;refine c2.perm ?_;simp only [oY,sG];exact (List.Perm.cons _ List.perm_middle.symm).trans List.perm_middle.symm
 have Xy:∀ {k:Nat} {st:LoopState} {w1:World},Inv k (oY st) w1->w1.heap[l]? = some (.loop (rec st none)):=by
  intro k st w1 hi;obtain ⟨S,Φ,hs,c,_⟩:=Pv _ _ _ hi;exact c.own (.obj l (.loop (rec st none))) (by simp [oY])
 refine ⟨l,[mark w.heap.size],qX,{ target:=.fn (.func qg) lb,args:=#[.func (.yield l) #[] #[]] },qX,qg,#[.func (.yield l) #[] #[]]++lb,qX,?_,?_,λ_ _=>trivial,?_,λh=>(by cases h),?_⟩
 .rw [<-a7n,xF,<-hl];exact run_enterLoop_outer _ _ _ _ _
 .simp only [resolve,hg];simp [go_sem]
 .simp [invoke,go_sem,aUd]
 .refine CallsIn.mono (F:=nc none) (hit l (λk W'=>Inv k (oY .ready) W') qX (λk UH h=>hX k _ UH h) ?_ start) ?_
  .intro k UH hi hk;have hlr:=Xy hi;have hy:=run_yield (P:=P) (args:=xs k) hlr (by rw [xF];exact hps k hk);rw [xF] at hy;refine ⟨fn,_,assign,body,hy,roundIn_of_wpIn trivial ?_⟩;refine wpIn_mono (aWI l k (oY .ready) UH hk hi) ?_;rintro e a1 w2 h;cases e with
   | normal =>
    obtain ⟨S,Φ,hs,c,hb⟩:=h;have h2:w2.heap[l]? = some (.loop (rec .ready none)):=c.own (.obj l (.loop (rec .ready none))) (by simp [oY]);refine ⟨_,run_beginRound h2 (by rw [xF]),?_⟩;have c3:Ctx W (w2.putObj l (.loop { rec .ready none with state:=.busy })) (S++oY .busy) Φ:=by
     have:=turn (k:=k) (st':=.busy) hs c;rw [xF] at this ⊢;exact this
    refine wpIn_mono (hb _ _ c3) ?_;rintro e a4 rG ⟨rfl,h4⟩;have h5:=Xy h4;refine ⟨_,_,run_endRound none h5,rfl,?_⟩;obtain ⟨S,Φ,hs,c,hn⟩:=Pv _ _ _ h4;have:=turn (k:=k) (st':=.ready) hs c;refine hn _ _ ?_;rw [xF] at this ⊢;exact this
   | _=>exact h.elim
  .rintro e acT ⟨⟨v,rfl⟩,hi⟩;have h5:=Xy hi;have hend:=run_endLoop (P:=P) h5 (by rw [xF];simp);rw [xF] at hend;refine ⟨none,_,hend,?_⟩;refine aVh _ _ ?_;obtain ⟨S,Φ,hs,c,hn⟩:=Pv _ _ _ hi;have:=turn (k:=N) (st':=.exhausted) hs c;refine hn _ _ ?_;have h7:=this.sub (S':=S++(sG w.heap.size :: G)) (List.Sublist.append (List.Sublist.refl _) (List.sublist_cons_self _ _));rw [xF] at h7;exact h7
end Go.Vc
end

