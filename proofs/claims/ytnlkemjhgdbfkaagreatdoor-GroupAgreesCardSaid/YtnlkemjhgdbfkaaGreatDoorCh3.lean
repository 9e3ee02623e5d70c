/-
 .. it suffices: regions,code,functions.
-/
import Derived.Test.YtnlkemjhgdbfkaaGreatDoorCh2
import Derived.RangeFuncRecord
import Derived.RangeFuncSeq
import Derived.OrdersIn
import Derived.TacticsIn

set_option linter.unusedVariables false
set_option linter.unusedSimpArgs false
section
namespace Go.Vc
variable {G:List Own}
variable {ds:List Deferred}
open Go.RowKit
structure At (ds:List Deferred) (G:List Own) (W:World) (s:fJ) (L:List Tr) (R:List Own) (Φ:PW) (a:Act) (w:World):Prop where
 BS:vD ds (s.fr L) a
 wf:MF L s
 ids:(L.map Tr.id).Nodup
 ctx:jM G W w L R Φ
 st:aB Φ
theorem At.put {W s L L' R R' Φ aV a w w'} (h:At ds G W s L R Φ a w) {sv v} (d) (he:Ext L L') (hp:∀ k o,sv=SV.ptr k o->(bS k L').isSome=true) (hc:jM G W w' L' R' aV) (hst:aB aV) (hv:wG (sv.val L')=false->v=sv.val L'):At ds G W (s.put d sv) L' R' aV (a.put d v) w' :=
 ⟨by rw [XW,h.wf.fr he];exact h.BS.put d hv,(h.wf.ext he).put hp,he.ids h.ids,hc,hst⟩
theorem bU.xF {D s0 s L L' sv} {d:Option Tmp} (h:bU D s0 (s.fr L)) (hwf:MF L s) (he:Ext L L') (hd:∀ t,d=some t->D t):bU D s0 ((s.put d sv).fr L'):=by
 rw [XW,hwf.fr he]
 exact h.put hd _
def cellsOf:gU->List Tr->List Value
 | [],_=>[]
 | (k,_) :: r,L=>(match bS k L with|some T=>.agg T.cs.toArray|none=>unk) :: cellsOf r L
def LO (k:Nat):gU->List Value->Option (List Value)
 | (j,_) :: r,v :: vs=>match Nat.beq j k with
  | true=>some v.cells.toList
  | false=>LO k r vs
 | _,_=>none
def j9 (ts:gU) (us:List Value):List Tr->List Tr
 | []=>[]
 | T :: r=>(match LO T.id ts us with
  | some cs=>⟨T.id,T.b,Nat.succ T.ver,cs,T.t⟩
  | none=>T) :: j9 ts us r
def xG (ts:gU) (L':List Tr):List Tr->Bool
 | []=>true
 | T :: r=>match dK T.id (ts.map (·.1)) with
  | true=>xG ts L' r
  | false=>match bS T.id L' with
   | some T'=>match Nat.beq T'.ver T.ver with|true=>xG ts L' r|false=>false
   | none=>false
theorem MI {ts us k T}:∀ {L:List Tr},bS k L=some T->∃ T',bS k (j9 ts us L)=some T'/\T'.b=T.b/\T'.t=T.t/\T.ver<=T'.ver/\(T'.ver=T.ver->T'.cs=T.cs)/\(LO k ts us=none->T'.cs=T.cs)/\(∀ cs,LO k ts us=some cs->T'.cs=cs)
 | [],h=>by cases h
 | U :: r,h=>by
  unfold bS at h
  simp only [j9]
  cases hb:Nat.beq U.id k with
  | true =>
   rw [hb] at h
   cases h
   have hid:=Nat.eq_of_beq_eq_true hb
   unfold bS
   cases hp:LO T.id ts us with
   | some cs =>
    simp only [hb]
    rw [hid] at hp
    exact ⟨_,rfl,rfl,rfl,Nat.le_succ _,λe=>absurd e (Nat.succ_ne_self _),λe=>(by rw [hp] at e;cases e),λcs' e=>by rw [hp] at e;cases e;rfl⟩
   | none =>
    simp only [hb]
    rw [hid] at hp
    exact ⟨_,rfl,rfl,rfl,Nat.le_refl _,λ_=>rfl,λ_=>rfl,λcs' e=>by rw [hp] at e;cases e⟩
  | false =>
   rw [hb] at h
   have ih:=MI (ts:=ts) (us:=us) h
   unfold bS
   cases hp:LO U.id ts us with
   | some cs=>simp only [hb];exact ih
   | none=>simp only [hb];exact ih
theorem sX (ts us):∀ L:List Tr,(j9 ts us L).map Tr.b=L.map Tr.b/\(j9 ts us L).map Tr.id=L.map Tr.id
 | []=>⟨rfl,rfl⟩
 | T :: r=>by
  have ih:=sX ts us r
  simp only [j9,List.map_cons,ih]
  cases LO T.id ts us<;>exact ⟨rfl,rfl⟩
theorem SF (ts us L):Ext L (j9 ts us L) :=
 ⟨λk T h=>by obtain ⟨T',a,b,c,d,e,_⟩:=MI (ts:=ts) (us:=us) h;exact ⟨T',a,b,c,d,e⟩,by rw [(sX ts us L).1];exact List.Sublist.refl _,by rw [(sX ts us L).2];exact id⟩
theorem aBb (L:List Tr):dom (L.map Tr.own)=L.map Tr.b:=by
 induction L with
 | nil=>rfl
 | cons T r ih=>simp only [List.map_cons,dom,List.flatMap_cons] at ih ⊢;rw [ih];rfl
theorem wK (A B):dom (A++B)=dom A++dom B:=by simp [dom]
theorem UU {k:Nat} {L':List Tr}:∀ {ts:gU},LO k ts (cellsOf ts L')=if dK k (ts.map (·.1))=true then some (match bS k L' with|some T=>T.cs|none=>unk.cells.toList) else none
 | []=>rfl
 | (j,sh) :: r=>by
  simp only [cellsOf,LO,List.map_cons,dK]
  rw [show Nat.beq k j=Nat.beq j k by rw [Bool.eq_iff_iff,Nat.beq_eq,Nat.beq_eq];exact eq_comm]
  cases hb:Nat.beq j k with
  | true =>
   have:=Nat.eq_of_beq_eq_true hb
   subst this
   simp only [if_true]
   cases bS j L'<;>simp [Value.cells]
  | false=>exact UU
theorem JQ {L} (hn:(L.map Tr.id).Nodup):∀ {T:Tr},T∈L->bS T.id L=some T:=by
 induction L with
 | nil=>intro T h;cases h
 | cons U r ih =>
  intro T h
  simp only [List.map_cons,List.nodup_cons] at hn
  unfold bS
  rcases List.mem_cons.1 h with rfl|h
  .rw [show Nat.beq T.id T.id=true by simp]
  .rw [show Nat.beq U.id T.id=false by
    cases hb:Nat.beq U.id T.id with
    | false=>rfl
    | true=>exact absurd (List.mem_map.2 ⟨T,h,(Nat.eq_of_beq_eq_true hb).symm⟩) hn.1]
   exact ih hn.2 h
theorem jM.meet {W w L L' R} {Φ:PW} {ts} (hst:aB Φ) (c:jM G W w L' R Φ) (he:Ext L L') (aCB:(L.map Tr.id).Nodup) (hs:xG ts L' L=true):jM G W w (j9 ts (cellsOf ts L') L) R Φ:=by
 have hd':dom (R++(L'.map Tr.own++G))=dom R++(L'.map Tr.b++dom G):=by rw [wK,wK,aBb]
 have hd:dom (R++((j9 ts (cellsOf ts L') L).map Tr.own++G))=dom R++(L.map Tr.b++dom G):=by rw [wK,wK,aBb,(sX ts _ L).1]
 have hsub:(dom R++(L.map Tr.b++dom G)).Sublist (dom R++(L'.map Tr.b++dom G)):=List.Sublist.append (List.Sublist.refl _) (List.Sublist.append he.bs (List.Sublist.refl _))
 have same:∀ T∈L,dK T.id (ts.map (·.1))=false->∃ T',bS T.id L'=some T'/\T'.ver=T.ver:=by
  clear hd hd' hsub he aCB c
  induction L with
  | nil=>intro T h;cases h
  | cons U r ih =>
   intro T hT hm
   unfold xG at hs
   cases hmU:dK U.id (ts.map (·.1)) with
   | true =>
    rw [hmU] at hs
    rcases List.mem_cons.1 hT with rfl|hT
    .rw [hm] at hmU;cases hmU
    .exact ih hs T hT hm
   | false =>
    rw [hmU] at hs
    simp only at hs
    split at hs
    .rename_i T' hf
     split at hs
     .rename_i hv
      rcases List.mem_cons.1 hT with rfl|hT
      .exact ⟨T',hf,Nat.eq_of_beq_eq_true hv⟩
      .exact ih hs T hT hm
     .cases hs
    .cases hs
 refine Ctx.go c ⟨lA.refl _ _,λb hb=>.inl (by rw [hd] at hb;rw [hd'];exact hsub.subset hb)⟩ (λo ho=>?_) (by rw [hd];have:=c.nodup;rw [hd'] at this;exact this.sublist hsub)
 rcases List.mem_append.1 ho with ho|ho
 .exact c.own o (List.mem_append.2 (.inl ho))
 rcases List.mem_append.1 ho with ho|ho
 rotate_left
 .exact c.own o (List.mem_append.2 (.inr (List.mem_append.2 (.inr ho))))
 .obtain ⟨V,hV,rfl⟩:=List.mem_map.1 ho
  have aX1:((j9 ts (cellsOf ts L') L).map Tr.id).Nodup:=by rw [(sX ts _ L).2];exact aCB
  have hf:=JQ aX1 hV
  have hex:V.id∈L.map Tr.id:=by rw [<-(sX ts (cellsOf ts L') L).2];exact List.mem_map.2 ⟨V,hV,rfl⟩
  obtain ⟨T,hT,aNF⟩:=List.mem_map.1 hex
  have hfT:=JQ aCB hT
  rw [aNF] at hfT
  obtain ⟨V',g1,g2,g3,_,_,g6,g7⟩:=MI (ts:=ts) (us:=cellsOf ts L') hfT
  rw [hf] at g1
  cases g1
  obtain ⟨T1,k1,k2,k3,k4,k5⟩:=he.old V.id T hfT
  have hb:=c.blk k1
  have hcs:V.cs=T1.cs:=by
   rw [UU] at g6 g7
   cases hm:dK V.id (ts.map (·.1)) with
   | true =>
    rw [if_pos hm,k1] at g7
    exact g7 _ rfl
   | false =>
    rw [if_neg (by rw [hm];simp)] at g6
    rw [g6 rfl]
    obtain ⟨T2,q1,q2⟩:=same T hT (by rw [aNF];exact hm)
    rw [aNF,k1] at q1
    cases q1
    exact (k5 q2).symm
  show vY w V.b V.cs V.t
  rw [g2,<-k2,g3,<-k3,hcs]
  exact hb
theorem SG:∀ L:List Tr,j9 [] [] L=L
 | []=>rfl
 | T :: r=>by simp only [j9,LO,SG r]
def a8y (s:Fr) (d:Option Tmp):Bool :=
 match d with
 | some d=>(match sS d s.l with | .tuple vs=>(match vs.toList with | []=>Nat.blt d s.n|_=>false)|_=>false)
 | none=>false
theorem a5z {s a} (h:vD ds s a) {d} (hc:a8y s d=true):∃ k,d=some k/\k<a.tmps.size/\a.tmps.getD k undef=.tuple #[]:=by
 unfold a8y at hc
 split at hc
 .rename_i k
  split at hc
  .rename_i vs hv
   split at hc
   .rename_i hvs
    have hlt:k<s.n:=by simpa using hc
    have e:vs=#[]:=by cases vs;simp_all
    subst e
    have hg:s.get k=.tuple #[]:=hv
    exact ⟨k,rfl,by rw [h.size];exact hlt,by rw [h.slot k (by rw [hg];rfl),hg]⟩
   .cases hc
  .cases hc
 .cases hc
def r4 (ops:Array Oper) (o:Oper) (s:fJ) (L:List Tr) (go skip:fJ->Prop):Prop :=
 match o.guard with
 | none=>go s
 | some (j,want) =>
  match XI (s.fr L) ((ops[j]?).bind (·.dst)) with
  | some c=>Br c (match true == want with
    | true=>go (s.put ((ops[j]?).bind (·.dst)) (.v (.bool true)))
    | false=>skip (s.put ((ops[j]?).bind (·.dst)) (.v (.bool true))))
   (match false == want with
    | true=>go (s.put ((ops[j]?).bind (·.dst)) (.v (.bool false)))
    | false=>skip (s.put ((ops[j]?).bind (·.dst)) (.v (.bool false))))
  | none=>match a8y (s.fr L) ((ops[j]?).bind (·.dst)) with
   | true=>skip s
   | false=>False
theorem eZ {W ops o s L R Φ a w go skip D s0} (hD:∀ (j:Nat) (o:Oper) (t:Nat),ops[j]? = some o->o.dst=some t->D t) (h:r4 ops o s L go skip) (ha:At ds G W s L R Φ a w) (hu:bU D s0 (s.fr L)):
  ∃ s',At ds G W s' L R Φ a w/\bU D s0 (s'.fr L)/\((Region.wanted o (yielded ops a.tmps)=true/\go s')\/(Region.wanted o (yielded ops a.tmps)=false/\skip s')):=by
 unfold r4 at h
 split at h
 .rename_i hg
  exact ⟨s,ha,hu,.inl ⟨by simp [Region.wanted,hg],h⟩⟩
 .rename_i j want hg
  split at h
  .rename_i c hc
   obtain ⟨k,hk,hlt,hv,hsv⟩:=G9 ha.BS hc
   have hy:yielded ops a.tmps j=some c:=by
    unfold yielded
    rw [hk]
    simp only [Option.bind_some]
    rw [Array.getD_eq_getD_getElem?] at hv
    simp only [hlt,getElem?_pos,Option.getD_some] at hv
    simp [hlt,hv]
   have hw:Region.wanted o (yielded ops a.tmps)=(c == want):=by simp [Region.wanted,hg,hy]
   have cH:At ds G W (s.put ((ops[j]?).bind (·.dst)) (.v (.bool c))) L R Φ a w:=by
    have:=ha.put ((ops[j]?).bind (·.dst)) (sv:=.v (.bool c)) (v:=.bool c) (Ext.refl L) (λk o e=>by cases e) ha.ctx ha.st (λ_=>rfl)
    rw [hk] at this ⊢
    rwa [XK hlt hv] at this
   have eE:bU D s0 ((s.put ((ops[j]?).bind (·.dst)) (.v (.bool c))).fr L):=hu.xF ha.wf (Ext.refl L) (by
    intro t ht
    cases hj:ops[j]? with
    | none=>simp [hj] at ht
    | some oj=>rw [hj] at ht;exact hD j oj t hj ht)
   refine ⟨_,cH,eE,?_⟩
   rw [hw]
   cases c
   .simp only [Br] at h
    cases hcw:false == want with
    | true=>rw [hcw] at h;exact .inl ⟨rfl,h⟩
    | false=>rw [hcw] at h;exact .inr ⟨rfl,h⟩
   .simp only [Br] at h
    cases hcw:true == want with
    | true=>rw [hcw] at h;exact .inl ⟨rfl,h⟩
    | false=>rw [hcw] at h;exact .inr ⟨rfl,h⟩
  .split at h
   .rename_i hl
    obtain ⟨k,hk,hlt,hv⟩:=a5z ha.BS hl
    have hy:yielded ops a.tmps j=none:=by
     unfold yielded
     rw [hk]
     simp only [Option.bind_some]
     rw [Array.getD_eq_getD_getElem?] at hv
     simp only [hlt,getElem?_pos,Option.getD_some] at hv
     simp [hlt,hv]
    exact ⟨s,ha,hu,.inr ⟨by simp [Region.wanted,hg,hy],h⟩⟩
   .exact h.elim
section
variable (P:Program) (W:World)
def aFw (wr BJ:Nat->Bool) (ops:Array Oper):List Oper->fJ->List Tr->List Own->PW->(fJ->List Tr->List Own->PW->Prop)->Prop
 | [],s,L,R,Φ,K=>K s L R Φ
 | o :: rest,s,L,R,Φ,K=>r4 ops o s L
   (λs=>opS P W (wr (o.dst.getD 0)) (BJ (o.dst.getD 0)) (λi=>gT o.dst i ops.toList) o s L R Φ λv L R Φ=>aFw wr BJ ops rest (s.put o.dst v) L R Φ K)
   (λs=>aFw wr BJ ops rest (s.put o.dst (.v undef)) L R Φ K)
def rdS (wr:Bool) (o:Oper) (s:fJ) (L:List Tr) (R:List Own) (Φ:PW) (K:SV->Prop):Prop :=
 match o.op with
 | .pick c x y=>match s.val L c with
  | .bool b=>Br b (K (s.ev x)) (K (s.ev y))
  | _=>False
 | _=>match UL (s.fr L) o&&xB o with
  | true=>OX (dA P W wr o s L R Φ K)
  | false=>False
def a5A (wr:Nat->Bool) (ops:Array Oper) (L:List Tr) (R:List Own) (Φ:PW):List Nat->fJ->(fJ->Prop)->Prop
 | [],s,K=>K s
 | i :: r,s,K=>match ops[i]? with
  | none=>False
  | some o=>r4 ops o s L (λs=>rdS P W (wr (o.dst.getD 0)) o s L R Φ λv=>a5A wr ops L R Φ r (s.put o.dst v) K) (λs=>a5A wr ops L R Φ r (s.put o.dst (.v undef)) K)
def OY (o:Oper) (s:fJ) (L:List Tr) (K:SV->Prop):Bool :=
 match o.op with
 | .load _ x=>match s.ev x with | .ptr _ _=>false | .v _=>true
 | .move _ | .assign _ | .nilCheck _ | .fieldAddr .. | .indexAddr .. => false
 | _=>iG P o (s.val L) λv=>K (.v v)
def hrS (wr:Bool) (o:Oper) (s:fJ) (L:List Tr) (Q0:List Own) (cF:PW) (K:SV->Prop):Prop :=
 match o.op with
 | .pick c x y=>match s.val L c with
  | .bool b=>Br b (K (s.ev x)) (K (s.ev y))
  | _=>False
 | _=>match UL (s.fr L) o&&xB o with
  | true=>match OY P o s L K with
   | true=>XE P o.type λv=>(∀ w S,Ctx W w (Q0++S) cF->OX (iY P wr o (s.val L) w none λu=>u=v))/\K (.v v)
   | false=>OX (dA P W wr o s L [] cF K)
  | false=>False
def hS (wr:Nat->Bool) (ops:Array Oper) (L:List Tr) (Q0:List Own) (cF:PW):List (Nat × Bool)->fJ->List Own->PW->(fJ->List Own->PW->Prop)->Prop
 | [],s,R,Φ,K=>K s R Φ
 | (i,still) :: r,s,R,Φ,K=>match ops[i]? with
  | none=>False
  | some o=>r4 ops o s L
    (λs=>match still with
     | true=>hrS P W (wr (o.dst.getD 0)) o s L Q0 cF λv=>hS wr ops L Q0 cF r (s.put o.dst v) R Φ K
     | false=>opS P W (wr (o.dst.getD 0)) false (λi=>gT o.dst i ops.toList) o s L R Φ λv L' R' aV=>match v,xG [] L' L with
      | .v x,true=>(∀ w F,Ctx W w (R'++F) aV->Ctx W w (Q0++F) cF)/\hS wr ops L Q0 cF r (s.put o.dst (.v x)) R' aV K
      | _,_=>False)
    (λs=>hS wr ops L Q0 cF r (s.put o.dst (.v undef)) R Φ K)
def prS (wr:Bool) (o:Oper) (s:fJ) (L:List Tr) (Q0:List Own) (cF:PW) (K:SV->Prop):Prop :=
 match o.op with
 | .pick c x y=>match s.val L c with
  | .bool b=>Br b (K (s.ev x)) (K (s.ev y))
  | _=>False
 | .load _ x=>match s.ev x with
  | .ptr _ _=>False
  | .v _=>match UL (s.fr L) o&&xB o with
   | true=>XE P o.type λv=>(∀ w S,Ctx W w (Q0++S) cF->OX (iY P wr o (s.val L) w none λu=>u=v))/\K (.v v)
   | false=>False
 | _=>match UL (s.fr L) o&&xB o with
  | true=>match OY P o s L K with
   | true=>False
   | false=>OX (dA P W wr o s L [] (λ_ _=>True) K)
  | false=>False
def fS (wr BJ:Nat->Bool) (ops:Array Oper) (Q0:List Own) (cF:PW):List (Nat × Bool)->fJ->List Tr->List Own->PW->(fJ->List Tr->List Own->PW->Prop)->Prop
 | [],s,L,R,Φ,K=>K s L R Φ
 | (i,still) :: r,s,L,R,Φ,K=>match ops[i]? with
  | none=>False
  | some o=>r4 ops o s L
    (λs=>match still with
     | true=>prS P W (wr (o.dst.getD 0)) o s L Q0 cF λv=>fS wr BJ ops Q0 cF r (s.put o.dst v) L R Φ K
     | false=>opS P W (wr (o.dst.getD 0)) (BJ (o.dst.getD 0)) (λi=>gT o.dst i ops.toList) o s L R Φ λv L R Φ=>(∀ w F,Ctx W w (R++F) Φ->Ctx W w (Q0++F) cF)/\fS wr BJ ops Q0 cF r (s.put o.dst v) L R Φ K)
    (λs=>fS wr BJ ops Q0 cF r (s.put o.dst (.v undef)) L R Φ K)
def ltS (wr:Nat->Bool) (ops:Array Oper) (L:List Tr) (Q0:List Own) (cF:PW):List Nat->fJ->(fJ->Prop)->Prop
 | [],s,K=>K s
 | i :: r,s,K=>match ops[i]? with
  | none=>False
  | some o=>r4 ops o s L (λs=>prS P W (wr (o.dst.getD 0)) o s L Q0 cF λv=>ltS wr ops L Q0 cF r (s.put o.dst v) K) (λs=>ltS wr ops L Q0 cF r (s.put o.dst (.v undef)) K)
def a8z (wr:Nat->Bool) (ops:Array Oper) (L:List Tr) (R:List Own) (Φ:PW) (Q0:List Own) (cF:PW) (B:List Nat):List Nat->fJ->(fJ->Prop)->Prop
 | [],s,K=>K s
 | i :: r,s,K=>match ops[i]? with
  | none=>False
  | some o=>r4 ops o s L (λs=>match dK i B with
    | true=>rdS P W (wr (o.dst.getD 0)) o s L R Φ λv=>a8z wr ops L R Φ Q0 cF B r (s.put o.dst v) K
    | false=>prS P W (wr (o.dst.getD 0)) o s L Q0 cF λv=>a8z wr ops L R Φ Q0 cF B r (s.put o.dst v) K) (λs=>a8z wr ops L R Φ Q0 cF B r (s.put o.dst (.v undef)) K)
def dlS (wr BJ:Nat->Bool) (ops:Array Oper) (Q0:List Own) (cF:PW):List (Nat × List Nat)->fJ->List Tr->List Own->PW->(fJ->List Tr->List Own->PW->Prop)->Prop
 | [],s,L,R,Φ,K=>K s L R Φ
 | (i,T) :: rest,s,L,R,Φ,K=>match ops[i]? with
   | none=>False
   | some o=>r4 ops o s L
     (λs=>opS P W (wr (o.dst.getD 0)) (BJ (o.dst.getD 0)) (λi=>gT o.dst i ops.toList) o s L R Φ λv L R Φ=>(∀ w F,Ctx W w (R++F) Φ->Ctx W w (Q0++F) cF)/\ltS P W wr ops L Q0 cF T (s.put o.dst v) λs=>dlS wr BJ ops Q0 cF rest s L R Φ K)
     (λs=>ltS P W wr ops L Q0 cF T (s.put o.dst (.v undef)) λs=>dlS wr BJ ops Q0 cF rest s L R Φ K)
def UW (wr:Nat->Bool) (ops:Array Oper) (L:List Tr) (R:List Own) (Φ:PW) (Q0:List Own) (cF:PW) (C:List Nat) (Q1:List Own) (cG:PW) (B:List Nat):List Nat->fJ->(fJ->Prop)->Prop
 | [],s,K=>K s
 | i :: r,s,K=>match ops[i]? with
  | none=>False
  | some o=>r4 ops o s L (λs=>match dK i B with
    | true=>rdS P W (wr (o.dst.getD 0)) o s L R Φ λv=>UW wr ops L R Φ Q0 cF C Q1 cG B r (s.put o.dst v) K
    | false=>match dK i C with
     | true=>prS P W (wr (o.dst.getD 0)) o s L Q1 cG λv=>UW wr ops L R Φ Q0 cF C Q1 cG B r (s.put o.dst v) K
     | false=>prS P W (wr (o.dst.getD 0)) o s L Q0 cF λv=>UW wr ops L R Φ Q0 cF C Q1 cG B r (s.put o.dst v) K) (λs=>UW wr ops L R Φ Q0 cF C Q1 cG B r (s.put o.dst (.v undef)) K)
def aFx (dl i:Nat) (up:Bool) (p:Prop):Prop:=match up with
 | false=>True
 | true=>match Nat.beq dl i with|true=>True|false=>p
def aFy (wr BJ:Nat->Bool) (ops:Array Oper) (Q0:List Own) (cF:PW) (dl:Nat) (Q1:List Own) (cG:PW):Bool->List (Nat × List Nat)->fJ->List Tr->List Own->PW->(fJ->List Tr->List Own->PW->Prop)->Prop
 | _,[],s,L,R,Φ,K=>K s L R Φ
 | up,(i,T) :: rest,s,L,R,Φ,K=>match ops[i]? with
   | none=>False
   | some o=>r4 ops o s L
     (λs=>opS P W (wr (o.dst.getD 0)) (BJ (o.dst.getD 0)) (λi=>gT o.dst i ops.toList) o s L R Φ λv L R Φ=>(∀ w F,Ctx W w (R++F) Φ->Ctx W w (Q0++F) cF)/\aFx dl i up (∀ w F,Ctx W w (R++F) Φ->Ctx W w (Q1++F) cG)/\ltS P W wr ops L Q0 cF T (s.put o.dst v) λs=>aFy wr BJ ops Q0 cF dl Q1 cG (up && !(Nat.beq dl i)) rest s L R Φ K)
     (λs=>ltS P W wr ops L Q0 cF T (s.put o.dst (.v undef)) λs=>aFy wr BJ ops Q0 cF dl Q1 cG (up && !(Nat.beq dl i)) rest s L R Φ K)
inductive OT where
 | done
 | rd (i:Nat) (k:OT)
 | alt (i:Nat) (k r:OT)
 | no
def GK:OT->List Nat
 | .alt i _ r=>i :: GK r
 | _=>[]
def a10:OT->List Nat
 | .rd i k=>i :: a10 k
 | .alt i k _=>i :: a10 k
 | _=>[]
def eT (ops:Array Oper) (listed:Array Bool):Bool :=
 (List.range ops.size).all λk => !(listed.getD k true)||match ops[k]? with
  | none=>true
  | some o=>o.after.toList.all λe => !(Region.binds .any e)||listed.getD e.on false
def BT (ops:Array Oper) (fin:Array Bool):OT->Bool->Nat->Array Bool->Bool
 | .done,false,0,x=>decide (x=fin)
 | .rd i k,false,n+1,x=>(Region.ready .any ops x).contains i&&Region.free .any ops x i&&(Region.ready .any ops (fin.setIfInBounds i false) == [i] || !(eT ops (fin.setIfInBounds i false)))&&BT ops fin k false n (x.setIfInBounds i true)
 | .alt i k r,false,n+1,x=>(Region.ready .any ops x == i :: GK r)&&(BT ops fin k false n (x.setIfInBounds i true)&&BT ops fin r true n x)
 | .alt i k r,true,n,x=>BT ops fin k false n (x.setIfInBounds i true)&&BT ops fin r true n x
 | .no,true,_,_=>true
 | _,_,_,_=>false
def tS (wr:Nat->Bool) (ops:Array Oper) (L:List Tr) (Q0:List Own) (cF:PW):OT->fJ->List Own->PW->(fJ->List Own->PW->Prop)->Prop
 | .done,s,R,Φ,K=>K s R Φ
 | .no,_,_,_,_=>True
 | .rd i k,s,R,Φ,K=>match ops[i]? with
  | none=>False
  | some o=>r4 ops o s L (λs=>hrS P W (wr (o.dst.getD 0)) o s L Q0 cF λv=>tS wr ops L Q0 cF k (s.put o.dst v) R Φ K) (λs=>tS wr ops L Q0 cF k (s.put o.dst (.v undef)) R Φ K)
 | .alt i k r,s,R,Φ,K=>(match ops[i]? with
  | none=>False
  | some o=>r4 ops o s L
    (λs=>opS P W (wr (o.dst.getD 0)) false (λi=>gT o.dst i ops.toList) o s L R Φ λv L' R' aV=>match v,xG [] L' L with
      | .v x,true=>(∀ w F,Ctx W w (R'++F) aV->Ctx W w (Q0++F) cF)/\tS wr ops L Q0 cF k (s.put o.dst (.v x)) R' aV K
      | _,_=>False)
    (λs=>tS wr ops L Q0 cF k (s.put o.dst (.v undef)) R Φ K))/\(match r with | .no=>True|r=>tS wr ops L Q0 cF r s R Φ K)
inductive Sg where
 | tree (t:OT) (n:Nat)
 | bD (T:List Nat) (e:Option Nat)
 | held (ord:List (Nat × Bool))
 | free (ord:List (Nat × Bool))
 | late (B sH:List Nat) (l:List (Nat × List Nat))
 | a11 (C:List Nat) (dl:Nat) (B sH:List Nat) (l:List (Nat × List Nat))
def OZ:List (Nat × List Nat)->Array Bool->Array Bool
 | [],x=>x
 | (i,T) :: r,x=>OZ r (bH T (x.setIfInBounds i true))
def jA (sH:List Nat):List (Nat × List Nat)->List Nat
 | []=>sH
 | (_,T) :: r=>T++jA sH r
def a3E (ops:Array Oper) (fin:Array Bool):List (Nat × List Nat)->Array Bool->Bool
 | [],listed=>decide (listed=fin)&&(Region.ready .any ops listed).isEmpty
 | (i,T) :: r,listed=>Region.ready .any ops listed == [i]&&(lG ops T (listed.setIfInBounds i true)&&a3E ops fin r (bH T (listed.setIfInBounds i true)))
def waits (ops:Array Oper) (b:Nat):List Nat->List Nat->List Nat
 | [],acc=>acc
 | k :: r,acc=>waits ops b r (match ops[k]? with
  | some o=>match o.after.any λe=>Region.binds .any e&&(Nat.beq e.on b||dK e.on acc) with
   | true=>k :: acc
   | false=>acc
  | none=>acc)
def tZ (ops:Array Oper) (rd B:List Nat):Bool:=B.all λb=>dK b rd&&(λW:List Nat=>(List.range ops.size).all λj=>dK j rd||dK j W) (waits ops b (List.range ops.size) [])
def Y0:List (Nat × List Nat)->Nat
 | []=>0
 | (_,T) :: r=>(T.length+Y0 r)+1
def AO (ops:Array Oper):List (Nat × Bool)->Array Bool->Bool
 | [],_=>true
 | (i,true) :: r,listed=>(Region.ready .any ops listed).contains i&&Region.free .any ops listed i&&AO ops r (listed.setIfInBounds i true)
 | (i,false) :: r,listed=>Region.ready .any ops listed == [i]&&AO ops r (listed.setIfInBounds i true)
def jU:List (Nat × Bool)->List Nat
 | []=>[]
 | (i,true) :: r=>i :: jU r
 | (_,false) :: r=>jU r
def aJJ (ops:Array Oper) (T:List Nat) (fin:Array Bool):Bool :=
 T.all λi=>Region.ready .any ops (fin.setIfInBounds i false) == [i] || !(eT ops (fin.setIfInBounds i false))
def MJ (ops:Array Oper):List Sg->Array Bool->Bool
 | [],listed=>(Region.ready .any ops listed).isEmpty
 | .bD T none :: rest,listed=>lG ops T listed&&SA ops T (bH T listed)&&MJ ops rest (bH T listed)
 | .bD T (some i) :: rest,listed=>lG ops T listed&&SA ops T (bH T listed)&&(Region.ready .any ops (bH T listed) == [i]&&MJ ops rest ((bH T listed).setIfInBounds i true))
 | .tree t n :: rest,listed=>eT ops listed&&BT ops (bH (a10 t) listed) t false n listed&&MJ ops rest (bH (a10 t) listed)
 | .held ord :: rest,listed=>AO ops ord listed&&eT ops listed&&aJJ ops (jU ord) (bH (ord.map (·.1)) listed)&&MJ ops rest (bH (ord.map (·.1)) listed)
 | .free ord :: rest,listed=>AO ops ord listed&&SA ops (jU ord) (bH (ord.map (·.1)) listed)&&MJ ops rest (bH (ord.map (·.1)) listed)
 | .late B sH l :: _,listed=>eT ops listed&&lG ops sH listed&&(B.all λb=>dK b sH)&&tZ ops (jA sH l) B&&SA ops (jA sH l) (OZ l (bH sH listed))&&(l.all λp => !dK p.1 (jA sH l))&&a3E ops (OZ l (bH sH listed)) l (bH sH listed)
 | .a11 C dl B sH l :: _,listed=>eT ops listed&&lG ops sH listed&&(B.all λb=>dK b sH)&&tZ ops (jA sH l) B&&SA ops (jA sH l) (OZ l (bH sH listed))&&(l.all λp => !dK p.1 (jA sH l))&&a3E ops (OZ l (bH sH listed)) l (bH sH listed)&&(C.all λc=>dK dl (waits ops c (List.range ops.size) [])) && !dK dl (jA sH l)
def LP:List Sg->Nat
 | []=>0
 | .bD T none :: r=>T.length+LP r
 | .bD T (some _) :: r=>T.length+(LP r+1)
 | .tree _ n :: r=>n+LP r
 | .held ord :: r=>ord.length+LP r
 | .free ord :: r=>ord.length+LP r
 | .late _ sH l :: _=>sH.length+Y0 l
 | .a11 _ _ _ sH l :: _=>sH.length+Y0 l
def MK (wr BJ:Nat->Bool) (ops:Array Oper):List Sg->fJ->List Tr->List Own->PW->(fJ->List Tr->List Own->PW->Prop)->Prop
 | [],s,L,R,Φ,K=>K s L R Φ
 | .bD T none :: rest,s,L,R,Φ,K=>a5A P W wr ops L R Φ T s λs=>MK wr BJ ops rest s L R Φ K
 | .bD T (some i) :: rest,s,L,R,Φ,K=>a5A P W wr ops L R Φ T s λs=>match ops[i]? with
   | none=>False
   | some o=>r4 ops o s L
     (λs=>opS P W (wr (o.dst.getD 0)) (BJ (o.dst.getD 0)) (λi=>gT o.dst i ops.toList) o s L R Φ λv L R Φ=>MK wr BJ ops rest (s.put o.dst v) L R Φ K)
     (λs=>MK wr BJ ops rest (s.put o.dst (.v undef)) L R Φ K)
 | .tree t _ :: rest,s,L,R,Φ,K=>∃ (Q0:List Own) (cF:PW),aB cF/\(∀ w F,Ctx W w (R++F) Φ->Ctx W w (Q0++F) cF)/\tS P W wr ops L Q0 cF t s R Φ λs R Φ=>MK wr BJ ops rest s L R Φ K
 | .held ord :: rest,s,L,R,Φ,K=>∃ (Q0:List Own) (cF:PW),aB cF/\(∀ w F,Ctx W w (R++F) Φ->Ctx W w (Q0++F) cF)/\hS P W wr ops L Q0 cF ord s R Φ λs R Φ=>MK wr BJ ops rest s L R Φ K
 | .late B sH l :: _,s,L,R,Φ,K=>∃ (Q0:List Own) (cF:PW),aB cF/\(∀ w F,Ctx W w (R++F) Φ->Ctx W w (Q0++F) cF)/\a8z P W wr ops L R Φ Q0 cF B sH s λs=>dlS P W wr BJ ops Q0 cF l s L R Φ K
 | .a11 C dl B sH l :: _,s,L,R,Φ,K=>∃ (Q0:List Own) (cF:PW),aB cF/\(∀ w F,Ctx W w (R++F) Φ->Ctx W w (Q0++F) cF)/\∃ (Q1:List Own) (cG:PW),aB cG/\(∀ w F,Ctx W w (R++F) Φ->Ctx W w (Q1++F) cG)/\UW P W wr ops L R Φ Q0 cF C Q1 cG B sH s λs=>aFy P W wr BJ ops Q0 cF dl Q1 cG true l s L R Φ K
 | .free ord :: rest,s,L,R,Φ,K=>∃ (Q0:List Own) (cF:PW),aB cF/\(∀ w F,Ctx W w (R++F) Φ->Ctx W w (Q0++F) cF)/\fS P W wr BJ ops Q0 cF ord s L R Φ λs L R Φ=>MK wr BJ ops rest s L R Φ K
def qS (wr d:Bool) (es:List Ent) (o:Oper) (s:fJ) (L:List Tr) (w:World) (g:Option Bool) (ch:List (Nat × Bool)) (K:SV->Prop):Prop :=
 match o.op with
 | .fieldAddr t x f=>match s.ev x with
  | .ptr k off=>match AM es ch (s.fr L) x with|true=>a3C P t k off f K|false=>False
  | .v _=>M8 P wr d es o (s.fr L) w g ch λv=>K (.v v)
 | .load t x=>match s.ev x with
  | .ptr k off=>match AM es ch (s.fr L) x with|true=>loadT P t L k off λv=>K (.v v)|false=>False
  | .v _=>M8 P wr d es o (s.fr L) w g ch λv=>K (.v v)
 | .move x=>match AM es ch (s.fr L) x with|true=>K (s.ev x)|false=>False
 | .assign x=>match AM es ch (s.fr L) x with|true=>K (s.ev x)|false=>False
 | _=>M8 P wr d es o (s.fr L) w g ch λv=>K (.v v)
def zX (es:List Ent) (s:fJ):fJ:=⟨s.n,go s.l⟩
where go:List (Nat × SV)->List (Nat × SV)
 | []=>[]
 | (t,v) :: r=>match XL es t with|true=>(t,v) :: go r|false=>go r
def qsS (wr:Nat->Bool) (d:Bool) (ops:Array Oper) (L:List Tr) (w:World):List Oper->List Ent->fJ->(fJ->Prop)->Prop
 | [],es,s,K=>K (zX es s)
 | o :: rest,es,s,K =>
  match guardOf ops es (s.fr L) o,o.dst with
  | some (g,ch),some t =>
   match (oT es t).isNone&&Nat.blt t s.n with
   | true=>qS P (wr t) d es o s L w g ch λv=>qsS wr d ops L w rest (⟨t,g,ch⟩ :: es) (s.put (some t) v) K
   | false=>False
  | _,_=>False
end
section
variable {P:Program} {W:World} {ops:Array Oper} {wr BJ:Nat->Bool} {D:Nat->Prop} {s0:Fr}
theorem ML {Q L0 K} (hD:∀ (j:Nat) (o:Oper) (t:Nat),ops[j]? = some o->o.dst=some t->D t) (hK:∀ s L R Φ a w,K s L R Φ->At ds G W s L R Φ a w->Ext L0 L->bU D s0 (s.fr L)->Q .normal a w):
  ∀ (l:List Oper) (s:fJ) (L:List Tr) (R:List Own) (Φ:PW) (a:Act) (w:World),(∀ o∈l,∀ t,o.dst=some t->D t)->aFw P W wr BJ ops l s L R Φ K->At ds G W s L R Φ a w->Ext L0 L->bU D s0 (s.fr L)->wpList P ops Q l a w
 | [],s,L,R,Φ,a,w,_,h,ha,he,hu=>hK _ _ _ _ _ _ h ha he hu
 | o :: rest,s,L,R,Φ,a,w,hl,h,ha,he,hu=>by
  have hl':∀ o∈rest,∀ t,o.dst=some t->D t:=λo ho=>hl o (List.mem_cons_of_mem _ ho)
  have ho:∀ t,o.dst=some t->D t:=hl o (by simp)
  unfold aFw at h
  unfold wpList
  obtain ⟨s',cH,eE,h⟩:=eZ hD h ha hu
  rcases h with ⟨hw,h⟩|⟨hw,h⟩
  .rw [if_pos hw]
   have:=cH.st
   refine .inl (Oper.lF (sW h cH.BS cH.wf cH.ctx λsv L' R' aV v' w' hk hst qQ hp hc hv=>?_))
   exact ML hD hK rest _ _ _ _ _ _ hl' hk (cH.put o.dst qQ hp hc hst hv) (he.trans qQ) (eE.xF cH.wf qQ ho)
  .rw [if_neg (by simp [hw])]
   exact ML hD hK rest _ _ _ _ _ _ hl' h (cH.put o.dst (Ext.refl _) (λk o e=>by cases e) cH.ctx cH.st (λ_=>rfl)) he (eE.xF cH.wf (Ext.refl _) ho)
theorem SH {wr o s L R Φ a w K} (h:rdS P W wr o s L R Φ K) (ha:At ds G W s L R Φ a w):
  ∃ sv v',K sv/\(∀ k o,sv=SV.ptr k o->(bS k L).isSome=true)/\(wG (sv.val L)=false->v'=sv.val L)/\(execOp a.eval o).run P w=.ok (.value v') w:=by
 have hev:=tY s L
 unfold rdS at h
 split at h
 .rename_i cc x y hop
  split at h
  .rename_i b hc
   have F5:a.eval cc=.bool b:=by rw [ha.BS.eval (by rw [hev,hc];rfl),hev,hc]
   cases b with
   | true =>
    exact ⟨s.ev x,a.eval x,h,λk o e=>ha.wf.ev e,λhu=>by rw [ha.BS.eval (by rw [hev];exact hu),hev];rfl,by simp only [execOp,hop,F5,asBool,Sem.run_bind,Sem.run_pure,Result.andThen,if_true]⟩
   | false =>
    exact ⟨s.ev y,a.eval y,h,λk o e=>ha.wf.ev e,λhu=>by rw [ha.BS.eval (by rw [hev];exact hu),hev];rfl,by simp [execOp,hop,F5,asBool,Sem.run_bind,Sem.run_pure,Result.andThen]⟩
  .exact h.elim
 .split at h
  .rename_i ho
   simp only [Bool.and_eq_true] at ho
   rw [xC ha.BS ho.1 ho.2,show (s.fr L).eval=s.val L from funext hev]
   unfold OX at h
   split at h
   .rename_i p hp
    obtain ⟨sv,h1,h2,h3⟩:=UT ha.wf ha.ctx hp h
    exact ⟨sv,_,h3,h1,λ_=>rfl,h2 w rfl⟩
   .exact h.elim
  .exact h.elim
theorem Y1 {Q L R Φ w Kf K fin} (hsel:Region.noSelect ops=true) (hD:∀ (j:Nat) (o:Oper) (t:Nat),ops[j]? = some o->o.dst=some t->D t) (hK:∀ s a,Kf s->At ds G W s L R Φ a w->bU D s0 (s.fr L)->K a w):
  ∀ (T:List Nat) (listed:Array Bool) (s:fJ) (a:Act),(∀ i∈T,Region.ready .any ops (fin.setIfInBounds i false)=[i])->lG ops T listed=true->bH T listed=fin->a5A P W wr ops L R Φ T s Kf->At ds G W s L R Φ a w->bU D s0 (s.fr L) ->
   mY P .any ops (eJ Q) (λw'=>w'=w) (λl=>l=fin) K T.length listed a w
 | [],listed,s,a,_,_,hf,h,ha,hu=>⟨hf,hK s a h ha hu⟩
 | i :: r,listed,s,a,hl,ho,hf,h,ha,hu=>by
  simp only [lG,Bool.and_eq_true] at ho
  obtain ⟨⟨rT,GC⟩,UX⟩:=ho
  unfold a5A at h
  split at h
  .exact h.elim
  rename_i o hi
  have hd:∀ t,o.dst=some t->D t:=λt ht=>hD i o t hi ht
  have hr:i∈Region.ready .any ops listed:=by simpa using rT
  have hE:∀ l:Array Bool,l.setIfInBounds i true=fin->i∈Region.ready .any ops l->∀ j∈Region.ready .any ops l,j=i:=by
   intro l hl' hil j hj
   have e:l=fin.setIfInBounds i false:=by
    have h0:=(mem_ready.1 hil).1
    rw [<-hl']
    have h2:l[i]? = some false:=by
     rw [Array.getD_eq_getD_getElem?] at h0
     cases hx:l[i]? with
     | none=>rw [hx] at h0;cases h0
     | some b=>rw [hx] at h0;simp at h0;subst h0;rfl
    have hlt:i<l.size:=(Array.getElem?_eq_some_iff.1 h2).1
    apply Array.ext_getElem?
    intro k
    by_cases hk:i=k
    .subst hk
     rw [Array.getElem?_setIfInBounds_self_of_lt (by simpa using hlt),h2]
    .rw [Array.getElem?_setIfInBounds_ne hk,Array.getElem?_setIfInBounds_ne hk]
   rw [e,hl i (by simp)] at hj
   simpa using hj
  have take:∀ (s':fJ) (sv:SV) (v':Value),At ds G W s' L R Φ a w->bU D s0 (s'.fr L)->(∀ k o,sv=SV.ptr k o->(bS k L).isSome=true)->(wG (sv.val L)=false->v'=sv.val L)->YieldsIf P ops (λw'=>w'=w) o v' a->a5A P W wr ops L R Φ r (s'.put o.dst sv) Kf ->
    mY P .any ops (eJ Q) (λw'=>w'=w) (λl=>l=fin) K (i :: r).length listed a w:=by
   intro s' sv v' cH eE hp hv hy hk
   have ih:=Y1 (Q:=Q) hsel hD hK r (listed.setIfInBounds i true) (s'.put o.dst sv) (a.put o.dst v') (λj hj=>hl j (List.mem_cons_of_mem _ hj)) UX hf hk (cH.put o.dst (Ext.refl _) hp cH.ctx cH.st hv) (eE.xF cH.wf (Ext.refl _) hd)
   exact OO hi (Region.noSelect_spec hsel) (λ_ _ _ h=>h) hE r.length listed a w (Region.free_spec hi GC) hr hy rfl ih
  obtain ⟨s',cH,eE,h⟩:=eZ hD h ha hu
  rcases h with ⟨hw,h⟩|⟨hw,h⟩
  .obtain ⟨sv,v',h1,h2,h3,h4⟩:=SH h cH
   exact take s' sv v' cH eE h2 h3 (.inl ⟨hw,λw' e=>by subst e;exact h4⟩) h1
  .exact take s' (.v undef) undef cH eE (λk o e=>by cases e) (λ_=>rfl) (.inr ⟨hw,rfl⟩) h
theorem a13 {Q L R Φ w Kf m} (hsel:Region.noSelect ops=true) (hD:∀ (j:Nat) (o:Oper) (t:Nat),ops[j]? = some o->o.dst=some t->D t) {T listed s a} (hK:∀ s a,Kf s->At ds G W s L R Φ a w->bU D s0 (s.fr L)->wpAny P .any ops (eJ Q) m (bH T listed) a w) (rT:lG ops T listed=true) (GC:SA ops T (bH T listed)=true) (h:a5A P W wr ops L R Φ T s Kf) (ha:At ds G W s L R Φ a w) (hu:bU D s0 (s.fr L)):wpAny P .any ops (eJ Q) (T.length+m) listed a w:=by
 have hl:∀ j∈T,Region.ready .any ops ((bH T listed).setIfInBounds j false)=[j]:=by
  intro j hj
  have:=List.all_eq_true.1 GC j hj
  simpa using this
 refine xD (S:=λw'=>w'=w) (E:=λl=>l=bH T listed) (K:=λa' w'=>w'=w/\wpAny P .any ops (eJ Q) m (bH T listed) a' w) ?_ T.length listed a w ?_
 .rintro l a w1 rfl ⟨rfl,hk⟩;exact hk
 .exact Y1 hsel hD (λs a hk ha hu=>⟨rfl,hK s a hk ha hu⟩) T listed s a hl rT rfl h ha hu
theorem aCC {t L k off K T} (hT:bS k L=some T) (h:loadT P t L k off K):
  ∃ v,K v/\∀ w:World,vY w T.b T.cs T.t->(loadVar t ⟨T.b,off,none⟩).run P w=.ok v w:=by
 unfold loadT at h
 rw [hT] at h
 split at h
 .rename_i T' d i e hd hi
  cases e
  split at h
  .rename_i l ha hz
   split at h
   .rename_i hc
    simp only [Bool.and_eq_true] at hc
    have hlen:=Nat.eq_of_beq_eq_true hc.1
    have hfit:∀ {l:List Sc} {vs:List Value},a5w l vs=true->vs.length=l.length:=by
     intro l
     induction l with
     | nil=>intro vs h;cases vs<;>simp_all [a5w]
     | cons s r ih =>
      intro vs h
      cases vs with
      | nil=>simp [a5w] at h
      | cons v vs =>
       unfold a5w at h
       split at h
       .simp [ih h]
       .cases h
    refine ⟨_,h,λw hb=>?_⟩
    have hl2:=hfit hc.2
    rw [hlen] at hl2
    have hrow:bL w T.b off ((T.cs.drop off).take i.size):=hb.row λj hj=>by
     simp only [List.length_take,List.length_drop] at hj
     rw [List.getElem_take,List.getElem_drop,List.getElem?_eq_getElem]
    generalize (T.cs.drop off).take i.size=vs at hl2 hrow
    have hr:=run_loadCellsFrom (P:=P) (w:=w) (b:=T.b) (o:=off) vs 0 #[] (λj hj=>by rw [Nat.zero_add];exact hrow j hj)
    unfold loadVar loadCells
    simp only [Sem.run_bind,x6 hd,ha,Result.andThen,if_true,run_sizeOf hi,<-hl2,hr,Sem.run_pure]
    simp
   .exact h.elim
  .rename_i sc ha hz
   split at h
   .rename_i v hv
    have one:∀ w:World,vY w T.b T.cs T.t->(loadVar t ⟨T.b,off,none⟩).run P w=.ok v w:=by
     intro w hb
     have hcell:=hb.DA hv
     unfold loadVar
     simp only [Sem.run_bind,x6 hd,ha,Result.andThen,Bool.false_eq_true,if_false,load,Sem.run,hcell]
    split at h
    .obtain ⟨f,a,c,rfl,h⟩:=h
     exact ⟨_,h,one⟩
    .split at h
     .exact ⟨v,h,one⟩
     .exact h.elim
   .exact h.elim
  .exact h.elim
 .exact h.elim
theorem a8A {wr o s L Q0} {cF:PW} {K p} (hst:aB cF) (hwf:MF L s) (h:dA P W wr o s L [] cF K=some p) (hp:p) (hu:OY P o s L K=false):
  ∃ sv,K sv/\(∀ k o,sv=SV.ptr k o->(bS k L).isSome=true)/\∀ w',Ctx W w' (Q0++(L.map Tr.own++G)) cF->(execOp (s.val L) o).run P w'=.ok (.value (sv.val L)) w':=by
 have KA:∀ {p:Prop},iG P o (s.val L) (λv=>K (.v v))=false->iY P wr o (s.val L) W none (λv=>K (.v v))=some p->p ->
   ∃ sv,K sv/\(∀ k o,sv=SV.ptr k o->(bS k L).isSome=true)/\∀ w',Ctx W w' (Q0++(L.map Tr.own++G)) cF->(execOp (s.val L) o).run P w'=.ok (.value (sv.val L)) w':=by
  intro p hf hq hp
  obtain ⟨v,h1,h2⟩:=MG W W hq hf hp
  exact ⟨.v v,h2,λk o e=>(by cases e),λw' _=>h1 w'⟩
 unfold dA at h
 split at h
 .rename_i x hop
  cases h
  exact ⟨s.ev x,hp,λk o e=>hwf.ev e,λw' _=>by simp [execOp,hop,fJ.val]⟩
 .rename_i x hop
  cases h
  exact ⟨s.ev x,hp,λk o e=>hwf.ev e,λw' _=>by simp [execOp,hop,fJ.val]⟩
 .rename_i x hop
  split at h
  .rename_i k off hx
   cases h
   obtain ⟨T,hT⟩:=Option.isSome_iff_exists.1 (hwf.ev hx)
   refine ⟨.ptr k off,hp,λk' o' e=>by cases e;rw [hT];rfl,λw' _=>?_⟩
   have hv:s.val L x=.pointer (some ⟨T.b,off,none⟩):=by rw [fJ.val,hx,eY hT]
   simp [execOp,hop,hv,eY hT]
  .exact KA (by simp [iG,hop]) h hp
 .rename_i t x f hop
  split at h
  .rename_i k off hx
   cases h
   obtain ⟨T,hT⟩:=Option.isSome_iff_exists.1 (hwf.ev hx)
   obtain ⟨off',h1,h2⟩:=wJ hT hp
   refine ⟨.ptr k off',h2,λk' o' e=>by cases e;rw [hT];rfl,λw' _=>?_⟩
   have hv:s.val L x=.pointer (some ⟨T.b,off,none⟩):=by rw [fJ.val,hx,eY hT]
   simp [execOp,hop,hv,eY hT,h1 w',Result.andThen]
  .exact KA (by simp [iG,hop]) h hp
 .rename_i t x i hop
  split at h
  .rename_i k off hx
   cases h
   obtain ⟨T,hT⟩:=Option.isSome_iff_exists.1 (hwf.ev hx)
   obtain ⟨off',h1,h2⟩:=DE hT hp
   refine ⟨.ptr k off',h2,λk' o' e=>by cases e;rw [hT];rfl,λw' _=>?_⟩
   have hv:s.val L x=.pointer (some ⟨T.b,off,none⟩):=by rw [fJ.val,hx,eY hT]
   simp [execOp,hop,hv,eY hT,h1 w',Result.andThen]
  .exact KA (by simp [iG,hop]) h hp
 .rename_i t x hop
  split at h
  .rename_i k off hx
   cases h
   obtain ⟨T,hT⟩:=Option.isSome_iff_exists.1 (hwf.ev hx)
   obtain ⟨v,h2,h1⟩:=aCC hT hp
   refine ⟨.v v,h2,λk o e=>(by cases e),λw' hS=>?_⟩
   have hb:vY w' T.b T.cs T.t:=jM.blk (show jM G W w' L Q0 cF from hS) hT
   have hv:s.val L x=.pointer (some ⟨T.b,off,none⟩):=by rw [fJ.val,hx,eY hT]
   simp [execOp,hop,hv,Instr.loadAt,Instr.sureAddr,h1 w' hb,Result.andThen,SV.val]
  .rename_i x' hx
   unfold OY at hu
   simp only [hop,hx] at hu
   cases hu
 .rename_i hop
  unfold OY at hu
  simp only [hop] at hu
  simp [iG,hop] at hu
 .rename_i n1 n2 n3 n4 n5 n6 n7
  have eE:iG P o (s.val L) (λv=>K (.v v))=false:=by
   clear h KA
   unfold OY at hu
   split at hu
   .rename_i t x hop;exact absurd hop (n6 t x)
   .rename_i x hop;exact absurd hop (n1 x)
   .rename_i x hop;exact absurd hop (n2 x)
   .rename_i x hop;exact absurd hop (n3 x)
   .rename_i t x f hop;exact absurd hop (n4 t x f)
   .rename_i t x f hop;exact absurd hop (n5 t x f)
   .exact hu
  rw [eE] at h
  simp only at h
  exact KA eE h hp
theorem a14 {wr o s L R} {Φ cF:PW} {Q0 a w K} (hst:aB cF) (h:hrS P W wr o s L Q0 cF K) (ha:At ds G W s L R Φ a w) (hw:Ctx W w (Q0++(L.map Tr.own++G)) cF):
  ∃ sv v',K sv/\(∀ k o,sv=SV.ptr k o->(bS k L).isSome=true)/\(wG (sv.val L)=false->v'=sv.val L)/\∀ w',Ctx W w' (Q0++(L.map Tr.own++G)) cF->(execOp a.eval o).run P w'=.ok (.value v') w':=by
 have hev:=tY s L
 unfold hrS at h
 split at h
 .rename_i cc x y hop
  split at h
  .rename_i b hc
   have F5:a.eval cc=.bool b:=by rw [ha.BS.eval (by rw [hev,hc];rfl),hev,hc]
   cases b with
   | true =>
    exact ⟨s.ev x,a.eval x,h,λk o e=>ha.wf.ev e,λhu=>by rw [ha.BS.eval (by rw [hev];exact hu),hev];rfl,λw' _=>by simp only [execOp,hop,F5,asBool,Sem.run_bind,Sem.run_pure,Result.andThen,if_true]⟩
   | false =>
    exact ⟨s.ev y,a.eval y,h,λk o e=>ha.wf.ev e,λhu=>by rw [ha.BS.eval (by rw [hev];exact hu),hev];rfl,λw' _=>by simp [execOp,hop,F5,asBool,Sem.run_bind,Sem.run_pure,Result.andThen]⟩
  .exact h.elim
 .split at h
  .rename_i ho
   simp only [Bool.and_eq_true] at ho
   rw [xC ha.BS ho.1 ho.2,show (s.fr L).eval=s.val L from funext hev]
   split at h
   .obtain ⟨v,h1,h2⟩:=nP h
    refine ⟨.v v,v,h2,λk o e=>(by cases e),λ_=>rfl,λw' hS=>?_⟩
    obtain ⟨u,h3,h4⟩:=MH (w:=w') (h1 w' _ hS)
    subst h4
    exact h3 w' rfl
   .rename_i hu
    unfold OX at h
    split at h
    .rename_i p hp
     obtain ⟨sv,h1,h2,h3⟩:=a8A hst ha.wf hp h (by simpa using hu)
     exact ⟨sv,_,h1,h2,λ_=>rfl,h3⟩
    .exact h.elim
  .exact h.elim
theorem BU {l:Array Bool} {i k} (h:l.getD k false=true):(l.setIfInBounds i true).getD k false=true:=by
 rw [Array.getD_eq_getD_getElem?] at h ⊢
 by_cases hk:i=k
 .subst hk
  rcases Nat.lt_or_ge i l.size with h'|h'
  .rw [Array.getElem?_setIfInBounds_self_of_lt h'];rfl
  .rw [Array.getElem?_eq_none (by simpa using h')] at h;cases h
 .rwa [Array.getElem?_setIfInBounds_ne hk]
theorem jN {ops listed i} (hc:eT ops listed=true) (hr:i∈Region.ready .any ops listed):eT ops (listed.setIfInBounds i true)=true:=by
 unfold eT at hc ⊢
 rw [List.all_eq_true] at hc ⊢
 intro k hk
 have h0:=hc k hk
 obtain ⟨_,oi,hoi,hall⟩:=mem_ready.1 hr
 by_cases hki:i=k
 .subst hki
  simp only [hoi]
  rw [Bool.or_eq_true]
  right
  rw [List.all_eq_true]
  intro e he
  cases hb:Region.binds .any e with
  | false=>rfl
  | true =>
   rw [Bool.or_eq_true]
   exact .inr (BU (hall e (by simpa using he) hb))
 .rw [getD_set_ne true hki]
  rw [Bool.or_eq_true] at h0 ⊢
  rcases h0 with h0|h0
  .exact .inl h0
  .right
   split at h0
   .rfl
   .rw [List.all_eq_true] at h0 ⊢
    intro e he
    have:=h0 e he
    rw [Bool.or_eq_true] at this ⊢
    rcases this with h|h
    .exact .inl h
    .exact .inr (BU h)
theorem LQ {P ops Q S E K i oi v} (hi:ops[i]? = some oi) (hsel:∀ (j:Nat) (o:Oper) cs b,ops[j]? = some o->o.op≠.select cs b) (hQ:∀ c a w,Q (.panic c) (a.put oi.dst v) w->Q (.panic c) a w) (hE:∀ listed,eT ops listed=true->E (listed.setIfInBounds i true)->i∈Region.ready .any ops listed->∀ j∈Region.ready .any ops listed,j=i):
  ∀ (n:Nat) (listed:Array Bool) (a:Act) (w:World),eT ops listed=true ->
   (∀ j oj,ops[j]? = some oj->j≠i->listed.getD j true=false->(∀ e∈oj.after,Region.binds .any e=true->e.on≠i)->oi.apart ops oj=true) ->
   i∈Region.ready .any ops listed->YieldsIf P ops S oi v a->S w ->
   mY P .any ops Q S E K n (listed.setIfInBounds i true) (a.put oi.dst v) w->mY P .any ops Q S E K (n+1) listed a w:=by
 intro n
 induction n with
 | zero =>
  intro listed a w hc _ hr hy hS H
  refine ⟨λh=>(by rw [h] at hr;cases hr),λj hj=>?_⟩
  have:=hE listed hc H.1 hr j hj
  subst this
  exact hy.wpOp hi hS ⟨hS,H⟩
 | succ n ih =>
  intro listed a w hc hfree hr hy hS H
  refine ⟨λh=>(by rw [h] at hr;cases hr),λj hj=>?_⟩
  by_cases hji:j=i
  .subst hji;exact hy.wpOp hi hS ⟨hS,H⟩
  .have h1:=H.2 j (ready_mono hj hji)
   obtain ⟨a5m,oj,hoj,hall⟩:=mem_ready.1 hj
   have hnot:∀ e∈oj.after,Region.binds .any e=true->e.on≠i:=λe he hb heq=>by
    have h1:=hall e he hb
    have h0:=(mem_ready.1 hr).1
    rw [heq] at h1
    rcases Nat.lt_or_ge i listed.size with h'|h'
    .simp [h'] at h0 h1;rw [h0] at h1;cases h1
    .simp [Array.getElem?_eq_none h'] at h1
   have h2:=wpOp_putIf hoj (hfree j oj hoj hji a5m hnot) (λcs b=>hsel i oi cs b hi) (λcs b=>hsel j oj cs b hoj) hQ hy h1
   have XN:∀ k ok,ops[k]? = some ok->k≠i->(listed.setIfInBounds j true).getD k true=false ->
     (∀ e∈ok.after,Region.binds .any e=true->e.on≠i)->oi.apart ops ok=true:=λk ok hk hki hun hno=>by
    refine hfree k ok hk hki ?_ hno
    by_cases hjk:j=k
    .subst hjk;exact a5m
    .rw [getD_set_ne true hjk] at hun;exact hun
   refine wpOp_mono (λa' w' h3=>⟨h3.2.1,ih (listed.setIfInBounds j true) a' w' (jN hc hj) XN (ready_mono hr (Ne.symm hji)) h3.1 h3.2.1 ?_⟩) h2
   rw [Array.setIfInBounds_comm _ _ hji]
   exact h3.2.2
theorem P0 {Q L Q0} {cF:PW} {Kf K fin} (hsel:Region.noSelect ops=true) (xH:aB cF) (hD:∀ (j:Nat) (o:Oper) (t:Nat),ops[j]? = some o->o.dst=some t->D t) (hK:∀ s R Φ a w,Kf s R Φ->At ds G W s L R Φ a w->bU D s0 (s.fr L)->K a w):
  ∀ (ord:List (Nat × Bool)) (listed:Array Bool) (s:fJ) (R:List Own) (Φ:PW) (a:Act) (w:World),(∀ i∈jU ord,Region.ready .any ops (fin.setIfInBounds i false)=[i]\/eT ops (fin.setIfInBounds i false)=false)->eT ops listed=true->AO ops ord listed=true->bH (ord.map (·.1)) listed=fin ->
   hS P W wr ops L Q0 cF ord s R Φ Kf->At ds G W s L R Φ a w->(∀ w F,Ctx W w (R++F) Φ->Ctx W w (Q0++F) cF)->bU D s0 (s.fr L)->mY P .any ops (eJ Q) (λw'=>Ctx W w' (Q0++(L.map Tr.own++G)) cF) (λl=>l=fin) K ord.length listed a w
 | [],listed,s,R,Φ,a,w,_,_,_,hf,h,ha,o9,hu=>⟨hf,hK s R Φ a w h ha hu⟩
 | (i,still) :: r,listed,s,R,Φ,a,w,hl,rW,ho,hf,h,ha,o9,hu=>by
  unfold hS at h
  split at h
  .exact h.elim
  rename_i o hi
  have hd:∀ t,o.dst=some t->D t:=λt ht=>hD i o t hi ht
  have hw:Ctx W w (Q0++(L.map Tr.own++G)) cF:=o9 _ _ ha.ctx
  obtain ⟨s',cH,eE,h⟩:=eZ hD h ha hu
  cases still with
  | true =>
   simp only [AO,Bool.and_eq_true] at ho
   obtain ⟨⟨rT,GC⟩,UX⟩:=ho
   have hr:i∈Region.ready .any ops listed:=by simpa using rT
   have hE:∀ l:Array Bool,eT ops l=true->l.setIfInBounds i true=fin->i∈Region.ready .any ops l->∀ j∈Region.ready .any ops l,j=i:=by
    intro l hcc hl' hil j hj
    have e:l=fin.setIfInBounds i false:=by
     have h0:=(mem_ready.1 hil).1
     rw [<-hl']
     have h2:l[i]? = some false:=by
      rw [Array.getD_eq_getD_getElem?] at h0
      cases hx:l[i]? with
      | none=>rw [hx] at h0;cases h0
      | some b=>rw [hx] at h0;simp at h0;subst h0;rfl
     have hlt:i<l.size:=(Array.getElem?_eq_some_iff.1 h2).1
     apply Array.ext_getElem?
     intro k
     by_cases hk:i=k
     .subst hk
      rw [Array.getElem?_setIfInBounds_self_of_lt (by simpa using hlt),h2]
     .rw [Array.getElem?_setIfInBounds_ne hk,Array.getElem?_setIfInBounds_ne hk]
    rcases hl i (by simp [jU]) with h1|h1
    .rw [e,h1] at hj
     simpa using hj
    .rw [e,h1] at hcc;cases hcc
   have take:∀ (s':fJ) (sv:SV) (v':Value),At ds G W s' L R Φ a w->bU D s0 (s'.fr L)->(∀ k o,sv=SV.ptr k o->(bS k L).isSome=true)->(wG (sv.val L)=false->v'=sv.val L) ->
     YieldsIf P ops (λw'=>Ctx W w' (Q0++(L.map Tr.own++G)) cF) o v' a->hS P W wr ops L Q0 cF r (s'.put o.dst sv) R Φ Kf ->
     mY P .any ops (eJ Q) (λw'=>Ctx W w' (Q0++(L.map Tr.own++G)) cF) (λl=>l=fin) K ((i,true) :: r).length listed a w:=by
    intro s' sv v' cH eE hp hv hy hk
    have ih:=P0 (Q:=Q) hsel xH hD hK r (listed.setIfInBounds i true) (s'.put o.dst sv) R Φ (a.put o.dst v') w (λj hj=>hl j (by simp [jU,hj])) (jN rW hr) UX hf hk (cH.put o.dst (Ext.refl _) hp cH.ctx cH.st hv) o9 (eE.xF cH.wf (Ext.refl _) hd)
    exact LQ hi (Region.noSelect_spec hsel) (λ_ _ _ h=>h) hE r.length listed a w rW (Region.free_spec hi GC) hr hy hw ih
   rcases h with ⟨rS,h⟩|⟨rS,h⟩
   .obtain ⟨sv,v',h1,h2,h3,h4⟩:=a14 xH h cH hw
    exact take s' sv v' cH eE h2 h3 (.inl ⟨rS,h4⟩) h1
   .exact take s' (.v undef) undef cH eE (λk o e=>by cases e) (λ_=>rfl) (.inr ⟨rS,rfl⟩) h
  | false =>
   simp only [AO,Bool.and_eq_true,beq_iff_eq] at ho
   obtain ⟨rT,GC⟩:=ho
   have aRy:=jN rW (show i∈Region.ready .any ops listed by rw [rT];simp)
   refine ⟨by rw [rT];simp,λj hj=>?_⟩
   rw [rT] at hj
   have hj:j=i:=by simpa using hj
   subst hj
   unfold wpOp
   simp only [hi]
   rcases h with ⟨rS,h⟩|⟨rS,h⟩
   .simp only [rS,if_true]
    have:=cH.st
    refine .inl (Oper.lF (sW h cH.BS cH.wf cH.ctx λsv L' R' aV v' w' hk hst qQ hp hc hv=>?_))
    split at hk
    .rename_i x hs
     obtain ⟨a3F,hk⟩:=hk
     have hcL:jM G W w' L R' aV:=by
      have:=jM.meet (ts:=[]) hst hc qQ cH.ids hs
      rwa [show j9 [] (cellsOf [] L') L=L from SG L] at this
     refine ⟨a3F _ _ hcL,?_⟩
     exact P0 hsel xH hD hK r _ _ _ _ _ _ (λj hj=>hl j (by simp [jU,hj])) aRy GC hf hk (cH.put o.dst (Ext.refl _) (λk o e=>by cases e) hcL hst hv) a3F (eE.xF cH.wf (Ext.refl _) hd)
    .exact hk.elim
   .simp only [rS,Bool.false_eq_true,if_false]
    exact ⟨hw,P0 hsel xH hD hK r _ _ _ _ _ _ (λj hj=>hl j (by simp [jU,hj])) aRy GC hf h (cH.put o.dst (Ext.refl _) (λk o e=>by cases e) cH.ctx cH.st (λ_=>rfl)) o9 (eE.xF cH.wf (Ext.refl _) hd)⟩
theorem GL {Q L Q0} {cF:PW} {Kf K fin} (hsel:Region.noSelect ops=true) (xH:aB cF) (hD:∀ (j:Nat) (o:Oper) (t:Nat),ops[j]? = some o->o.dst=some t->D t) (hK:∀ s R Φ a w,Kf s R Φ->At ds G W s L R Φ a w->bU D s0 (s.fr L)->K a w):∀ (t:OT),
  (∀ (n:Nat) (listed:Array Bool) (s:fJ) (R:List Own) (Φ:PW) (a:Act) (w:World),eT ops listed=true->BT ops fin t false n listed=true ->
   tS P W wr ops L Q0 cF t s R Φ Kf->At ds G W s L R Φ a w->(∀ w F,Ctx W w (R++F) Φ->Ctx W w (Q0++F) cF)->bU D s0 (s.fr L)->mY P .any ops (eJ Q) (λw'=>Ctx W w' (Q0++(L.map Tr.own++G)) cF) (λl=>l=fin) K n listed a w) /\
  (∀ (n:Nat) (listed:Array Bool) (s:fJ) (R:List Own) (Φ:PW) (a:Act) (w:World),eT ops listed=true->(∀ j∈GK t,j∈Region.ready .any ops listed)->BT ops fin t true n listed=true ->
   tS P W wr ops L Q0 cF t s R Φ Kf->At ds G W s L R Φ a w->(∀ w F,Ctx W w (R++F) Φ->Ctx W w (Q0++F) cF)->bU D s0 (s.fr L)->∀ j∈GK t,wpOp P ops (eJ Q) j (λa' w'=>Ctx W w' (Q0++(L.map Tr.own++G)) cF /\
    mY P .any ops (eJ Q) (λw'=>Ctx W w' (Q0++(L.map Tr.own++G)) cF) (λl=>l=fin) K n (listed.setIfInBounds j true) a' w') a w)
 | .done=>by
  refine ⟨λn listed s R Φ a w rW ho h ha o9 hu=>?_,λn listed s R Φ a w _ _ ho=>by simp [BT] at ho⟩
  cases n with
  | zero=>exact ⟨by simpa [BT] using ho,hK s R Φ a w h ha hu⟩
  | succ n=>simp [BT] at ho
 | .no=>by
  refine ⟨λn listed s R Φ a w _ ho=>by simp [BT] at ho,λn listed s R Φ a w _ _ ho h ha o9 hu j hj=>by simp [GK] at hj⟩
 | .rd i k=>by
  refine ⟨λn listed s R Φ a w rW ho h ha o9 hu=>?_,λn listed s R Φ a w _ _ ho=>by simp [BT] at ho⟩
  cases n with
  | zero=>simp [BT] at ho
  | succ n =>
   simp only [BT,Bool.and_eq_true] at ho
   obtain ⟨⟨⟨rT,GC⟩,hl⟩,UX⟩:=ho
   have hl:Region.ready .any ops (fin.setIfInBounds i false)=[i]\/eT ops (fin.setIfInBounds i false)=false:=by simpa using hl
   unfold tS at h
   split at h
   .exact h.elim
   rename_i o hi
   have hd:∀ t,o.dst=some t->D t:=λt ht=>hD i o t hi ht
   have hw:Ctx W w (Q0++(L.map Tr.own++G)) cF:=o9 _ _ ha.ctx
   obtain ⟨s',cH,eE,h⟩:=eZ hD h ha hu
   have hr:i∈Region.ready .any ops listed:=by simpa using rT
   have hE:∀ l:Array Bool,eT ops l=true->l.setIfInBounds i true=fin->i∈Region.ready .any ops l->∀ j∈Region.ready .any ops l,j=i:=by
    intro l hcc hl' hil j hj
    have e:l=fin.setIfInBounds i false:=by
     have h0:=(mem_ready.1 hil).1
     rw [<-hl']
     have h2:l[i]? = some false:=by
      rw [Array.getD_eq_getD_getElem?] at h0
      cases hx:l[i]? with
      | none=>rw [hx] at h0;cases h0
      | some b=>rw [hx] at h0;simp at h0;subst h0;rfl
     have hlt:i<l.size:=(Array.getElem?_eq_some_iff.1 h2).1
     apply Array.ext_getElem?
     intro k
     by_cases hk:i=k
     .subst hk
      rw [Array.getElem?_setIfInBounds_self_of_lt (by simpa using hlt),h2]
     .rw [Array.getElem?_setIfInBounds_ne hk,Array.getElem?_setIfInBounds_ne hk]
    rcases hl with h1|h1
    .rw [e,h1] at hj
     simpa using hj
    .rw [e,h1] at hcc;cases hcc
   have take:∀ (s':fJ) (sv:SV) (v':Value),At ds G W s' L R Φ a w->bU D s0 (s'.fr L)->(∀ k o,sv=SV.ptr k o->(bS k L).isSome=true)->(wG (sv.val L)=false->v'=sv.val L) ->
     YieldsIf P ops (λw'=>Ctx W w' (Q0++(L.map Tr.own++G)) cF) o v' a->tS P W wr ops L Q0 cF k (s'.put o.dst sv) R Φ Kf ->
     mY P .any ops (eJ Q) (λw'=>Ctx W w' (Q0++(L.map Tr.own++G)) cF) (λl=>l=fin) K (n+1) listed a w:=by
    intro s' sv v' cH eE hp hv hy hk
    have ih:=(GL (Q:=Q) hsel xH hD hK k).1 n (listed.setIfInBounds i true) (s'.put o.dst sv) R Φ (a.put o.dst v') w (jN rW hr) UX hk (cH.put o.dst (Ext.refl _) hp cH.ctx cH.st hv) o9 (eE.xF cH.wf (Ext.refl _) hd)
    exact LQ hi (Region.noSelect_spec hsel) (λ_ _ _ h=>h) hE n listed a w rW (Region.free_spec hi GC) hr hy hw ih
   rcases h with ⟨rS,h⟩|⟨rS,h⟩
   .obtain ⟨sv,v',h1,h2,h3,h4⟩:=a14 xH h cH hw
    exact take s' sv v' cH eE h2 h3 (.inl ⟨rS,h4⟩) h1
   .exact take s' (.v undef) undef cH eE (λk o e=>by cases e) (λ_=>rfl) (.inr ⟨rS,rfl⟩) h
 | .alt i k r=>by
  have one:∀ (n:Nat) (listed:Array Bool) (s:fJ) (R:List Own) (Φ:PW) (a:Act) (w:World),eT ops listed=true->i∈Region.ready .any ops listed->BT ops fin k false n (listed.setIfInBounds i true)=true ->
    tS P W wr ops L Q0 cF (.alt i k r) s R Φ Kf->At ds G W s L R Φ a w->(∀ w F,Ctx W w (R++F) Φ->Ctx W w (Q0++F) cF)->bU D s0 (s.fr L)->wpOp P ops (eJ Q) i (λa' w'=>Ctx W w' (Q0++(L.map Tr.own++G)) cF /\
     mY P .any ops (eJ Q) (λw'=>Ctx W w' (Q0++(L.map Tr.own++G)) cF) (λl=>l=fin) K n (listed.setIfInBounds i true) a' w') a w:=by
   intro n listed s R Φ a w rW hr ho h ha o9 hu
   unfold tS at h
   replace h:=h.1
   split at h
   .exact h.elim
   rename_i o hi
   have hd:∀ t,o.dst=some t->D t:=λt ht=>hD i o t hi ht
   have hw:Ctx W w (Q0++(L.map Tr.own++G)) cF:=o9 _ _ ha.ctx
   obtain ⟨s',cH,eE,h⟩:=eZ hD h ha hu
   unfold wpOp
   simp only [hi]
   rcases h with ⟨rS,h⟩|⟨rS,h⟩
   .simp only [rS,if_true]
    have:=cH.st
    refine .inl (Oper.lF (sW h cH.BS cH.wf cH.ctx λsv L' R' aV v' w' hk hst qQ hp hc hv=>?_))
    split at hk
    .rename_i x hs
     obtain ⟨a3F,hk⟩:=hk
     have hcL:jM G W w' L R' aV:=by
      have:=jM.meet (ts:=[]) hst hc qQ cH.ids hs
      rwa [show j9 [] (cellsOf [] L') L=L from SG L] at this
     refine ⟨a3F _ _ hcL,?_⟩
     exact (GL hsel xH hD hK k).1 n _ _ _ _ _ _ (jN rW hr) ho hk (cH.put o.dst (Ext.refl _) (λk o e=>by cases e) hcL hst hv) a3F (eE.xF cH.wf (Ext.refl _) hd)
    .exact hk.elim
   .simp only [rS,Bool.false_eq_true,if_false]
    exact ⟨hw,(GL hsel xH hD hK k).1 n _ _ _ _ _ _ (jN rW hr) ho h (cH.put o.dst (Ext.refl _) (λk o e=>by cases e) cH.ctx cH.st (λ_=>rfl)) o9 (eE.xF cH.wf (Ext.refl _) hd)⟩
  have more:∀ (n:Nat) (listed:Array Bool) (s:fJ) (R:List Own) (Φ:PW) (a:Act) (w:World),eT ops listed=true->(∀ j∈GK r,j∈Region.ready .any ops listed)->BT ops fin r true n listed=true ->
    tS P W wr ops L Q0 cF (.alt i k r) s R Φ Kf->At ds G W s L R Φ a w->(∀ w F,Ctx W w (R++F) Φ->Ctx W w (Q0++F) cF)->bU D s0 (s.fr L)->∀ j∈GK r,wpOp P ops (eJ Q) j (λa' w'=>Ctx W w' (Q0++(L.map Tr.own++G)) cF /\
     mY P .any ops (eJ Q) (λw'=>Ctx W w' (Q0++(L.map Tr.own++G)) cF) (λl=>l=fin) K n (listed.setIfInBounds j true) a' w') a w:=by
   intro n listed s R Φ a w rW hr ho h ha o9 hu j hj
   unfold tS at h
   replace h:=h.2
   have h:tS P W wr ops L Q0 cF r s R Φ Kf:=by
    cases r with
    | no=>simp [GK] at hj
    | _=>exact h
   exact (GL hsel xH hD hK r).2 n listed s R Φ a w rW hr ho h ha o9 hu j hj
  refine ⟨λn listed s R Φ a w rW ho h ha o9 hu=>?_,λn listed s R Φ a w rW hr ho h ha o9 hu j hj=>?_⟩
  .cases n with
   | zero=>simp [BT] at ho
   | succ n =>
    simp only [BT,Bool.and_eq_true,beq_iff_eq] at ho
    obtain ⟨rT,GC,UX⟩:=ho
    refine ⟨by rw [rT];simp,λj hj=>?_⟩
    rw [rT] at hj
    rcases List.mem_cons.1 hj with rfl|hj
    .exact one n listed s R Φ a w rW (by rw [rT];simp) GC h ha o9 hu
    .exact more n listed s R Φ a w rW (λj hj=>by rw [rT];exact List.mem_cons_of_mem _ hj) UX h ha o9 hu j hj
  .simp only [BT,Bool.and_eq_true] at ho
   simp only [GK] at hj
   rcases List.mem_cons.1 hj with rfl|hj
   .exact one n listed s R Φ a w rW (hr _ (by simp [GK])) ho.1 h ha o9 hu
   .exact more n listed s R Φ a w rW (λj hj=>hr j (by simp only [GK];exact List.mem_cons_of_mem _ hj)) ho.2 h ha o9 hu j hj
theorem a8B {wr o s L K p} (hwf:MF L s) (h:dA P W wr o s L [] (λ_ _=>True) K=some p) (hp:p) (hu:OY P o s L K=false) (hnl:∀ t x,o.op≠.load t x):
  ∃ sv,K sv/\(∀ k o,sv=SV.ptr k o->(bS k L).isSome=true)/\∀ w',(execOp (s.val L) o).run P w'=.ok (.value (sv.val L)) w':=by
 have KA:∀ {p:Prop},iG P o (s.val L) (λv=>K (.v v))=false->iY P wr o (s.val L) W none (λv=>K (.v v))=some p->p ->
   ∃ sv,K sv/\(∀ k o,sv=SV.ptr k o->(bS k L).isSome=true)/\∀ w',(execOp (s.val L) o).run P w'=.ok (.value (sv.val L)) w':=by
  intro p hf hq hp
  obtain ⟨v,h1,h2⟩:=MG W W hq hf hp
  exact ⟨.v v,h2,λk o e=>(by cases e),λw'=>h1 w'⟩
 unfold dA at h
 split at h
 .rename_i x hop
  cases h
  exact ⟨s.ev x,hp,λk o e=>hwf.ev e,λw'=>by simp [execOp,hop,fJ.val]⟩
 .rename_i x hop
  cases h
  exact ⟨s.ev x,hp,λk o e=>hwf.ev e,λw'=>by simp [execOp,hop,fJ.val]⟩
 .rename_i x hop
  split at h
  .rename_i k off hx
   cases h
   obtain ⟨T,hT⟩:=Option.isSome_iff_exists.1 (hwf.ev hx)
   refine ⟨.ptr k off,hp,λk' o' e=>by cases e;rw [hT];rfl,λw'=>?_⟩
   have hv:s.val L x=.pointer (some ⟨T.b,off,none⟩):=by rw [fJ.val,hx,eY hT]
   simp [execOp,hop,hv,eY hT]
  .exact KA (by simp [iG,hop]) h hp
 .rename_i t x f hop
  split at h
  .rename_i k off hx
   cases h
   obtain ⟨T,hT⟩:=Option.isSome_iff_exists.1 (hwf.ev hx)
   obtain ⟨off',h1,h2⟩:=wJ hT hp
   refine ⟨.ptr k off',h2,λk' o' e=>by cases e;rw [hT];rfl,λw'=>?_⟩
   have hv:s.val L x=.pointer (some ⟨T.b,off,none⟩):=by rw [fJ.val,hx,eY hT]
   simp [execOp,hop,hv,eY hT,h1 w',Result.andThen]
  .exact KA (by simp [iG,hop]) h hp
 .rename_i t x i hop
  split at h
  .rename_i k off hx
   cases h
   obtain ⟨T,hT⟩:=Option.isSome_iff_exists.1 (hwf.ev hx)
   obtain ⟨off',h1,h2⟩:=DE hT hp
   refine ⟨.ptr k off',h2,λk' o' e=>by cases e;rw [hT];rfl,λw'=>?_⟩
   have hv:s.val L x=.pointer (some ⟨T.b,off,none⟩):=by rw [fJ.val,hx,eY hT]
   simp [execOp,hop,hv,eY hT,h1 w',Result.andThen]
  .exact KA (by simp [iG,hop]) h hp
 .rename_i t x hop;exact absurd hop (hnl t x)
 .rename_i hop
  unfold OY at hu
  simp only [hop] at hu
  simp [iG,hop] at hu
 .rename_i n1 n2 n3 n4 n5 n6 n7
  have eE:iG P o (s.val L) (λv=>K (.v v))=false:=by
   clear h KA
   unfold OY at hu
   split at hu
   .rename_i t x hop;exact absurd hop (n6 t x)
   .rename_i x hop;exact absurd hop (n1 x)
   .rename_i x hop;exact absurd hop (n2 x)
   .rename_i x hop;exact absurd hop (n3 x)
   .rename_i t x f hop;exact absurd hop (n4 t x f)
   .rename_i t x f hop;exact absurd hop (n5 t x f)
   .exact hu
  rw [eE] at h
  simp only at h
  exact KA eE h hp
theorem BV {wr o s L R Φ cF Q0 a w K} (h:prS P W wr o s L Q0 cF K) (ha:At ds G W s L R Φ a w):
  ∃ sv v',K sv/\(∀ k o,sv=SV.ptr k o->(bS k L).isSome=true)/\(wG (sv.val L)=false->v'=sv.val L)/\∀ w',(∃ S,Ctx W w' (Q0++S) cF)->(execOp a.eval o).run P w'=.ok (.value v') w':=by
 have hev:=tY s L
 unfold prS at h
 split at h
 .rename_i cc x y hop
  split at h
  .rename_i b hc
   have F5:a.eval cc=.bool b:=by rw [ha.BS.eval (by rw [hev,hc];rfl),hev,hc]
   cases b with
   | true =>
    exact ⟨s.ev x,a.eval x,h,λk o e=>ha.wf.ev e,λhu=>by rw [ha.BS.eval (by rw [hev];exact hu),hev];rfl,λw' _=>by simp only [execOp,hop,F5,asBool,Sem.run_bind,Sem.run_pure,Result.andThen,if_true]⟩
   | false =>
    exact ⟨s.ev y,a.eval y,h,λk o e=>ha.wf.ev e,λhu=>by rw [ha.BS.eval (by rw [hev];exact hu),hev];rfl,λw' _=>by simp [execOp,hop,F5,asBool,Sem.run_bind,Sem.run_pure,Result.andThen]⟩
  .exact h.elim
 .rename_i t x hop
  split at h
  .exact h.elim
  .split at h
   .rename_i ho
    simp only [Bool.and_eq_true] at ho
    rw [xC ha.BS ho.1 ho.2,show (s.fr L).eval=s.val L from funext hev]
    obtain ⟨v,h1,h2⟩:=nP h
    refine ⟨.v v,v,h2,λk o e=>(by cases e),λ_=>rfl,λw' ⟨S,hS⟩=>?_⟩
    obtain ⟨u,h3,h4⟩:=MH (w:=w') (h1 w' _ hS)
    subst h4
    exact h3 w' rfl
   .exact h.elim
 .rename_i np nl
  split at h
  .rename_i ho
   simp only [Bool.and_eq_true] at ho
   rw [xC ha.BS ho.1 ho.2,show (s.fr L).eval=s.val L from funext hev]
   split at h
   .exact h.elim
   .rename_i hu
    unfold OX at h
    split at h
    .rename_i p hp
     obtain ⟨sv,h1,h2,h3⟩:=a8B ha.wf hp h (by simpa using hu) nl
     exact ⟨sv,_,h1,h2,λ_=>rfl,λw' _=>h3 w'⟩
    .exact h.elim
  .exact h.elim
theorem P1 {Q L0 Q0 cF Kf K fin} (hsel:Region.noSelect ops=true) (hD:∀ (j:Nat) (o:Oper) (t:Nat),ops[j]? = some o->o.dst=some t->D t) (hK:∀ s L R Φ a w,Kf s L R Φ->At ds G W s L R Φ a w->Ext L0 L->bU D s0 (s.fr L)->K a w):
  ∀ (ord:List (Nat × Bool)) (listed:Array Bool) (s:fJ) (L:List Tr) (R:List Own) (Φ:PW) (a:Act) (w:World),(∀ i∈jU ord,Region.ready .any ops (fin.setIfInBounds i false)=[i])->AO ops ord listed=true->bH (ord.map (·.1)) listed=fin ->
   fS P W wr BJ ops Q0 cF ord s L R Φ Kf->At ds G W s L R Φ a w->(∀ w F,Ctx W w (R++F) Φ->Ctx W w (Q0++F) cF)->Ext L0 L->bU D s0 (s.fr L)->mY P .any ops (eJ Q) (λw'=>∃ S,Ctx W w' (Q0++S) cF) (λl=>l=fin) K ord.length listed a w
 | [],listed,s,L,R,Φ,a,w,_,_,hf,h,ha,o9,he,hu=>⟨hf,hK s L R Φ a w h ha he hu⟩
 | (i,still) :: r,listed,s,L,R,Φ,a,w,hl,ho,hf,h,ha,o9,he,hu=>by
  unfold fS at h
  split at h
  .exact h.elim
  rename_i o hi
  have hd:∀ t,o.dst=some t->D t:=λt ht=>hD i o t hi ht
  have hw:∃ S,Ctx W w (Q0++S) cF:=⟨_,o9 _ _ ha.ctx⟩
  obtain ⟨s',cH,eE,h⟩:=eZ hD h ha hu
  cases still with
  | true =>
   simp only [AO,Bool.and_eq_true] at ho
   obtain ⟨⟨rT,GC⟩,UX⟩:=ho
   have hr:i∈Region.ready .any ops listed:=by simpa using rT
   have hE:∀ l:Array Bool,l.setIfInBounds i true=fin->i∈Region.ready .any ops l->∀ j∈Region.ready .any ops l,j=i:=by
    intro l hl' hil j hj
    have e:l=fin.setIfInBounds i false:=by
     have h0:=(mem_ready.1 hil).1
     rw [<-hl']
     have h2:l[i]? = some false:=by
      rw [Array.getD_eq_getD_getElem?] at h0
      cases hx:l[i]? with
      | none=>rw [hx] at h0;cases h0
      | some b=>rw [hx] at h0;simp at h0;subst h0;rfl
     have hlt:i<l.size:=(Array.getElem?_eq_some_iff.1 h2).1
     apply Array.ext_getElem?
     intro k
     by_cases hk:i=k
     .subst hk
      rw [Array.getElem?_setIfInBounds_self_of_lt (by simpa using hlt),h2]
     .rw [Array.getElem?_setIfInBounds_ne hk,Array.getElem?_setIfInBounds_ne hk]
    rw [e,hl i (by simp [jU])] at hj
    simpa using hj
   have take:∀ (s':fJ) (sv:SV) (v':Value),At ds G W s' L R Φ a w->bU D s0 (s'.fr L)->(∀ k o,sv=SV.ptr k o->(bS k L).isSome=true)->(wG (sv.val L)=false->v'=sv.val L) ->
     YieldsIf P ops (λw'=>∃ S,Ctx W w' (Q0++S) cF) o v' a->fS P W wr BJ ops Q0 cF r (s'.put o.dst sv) L R Φ Kf ->
     mY P .any ops (eJ Q) (λw'=>∃ S,Ctx W w' (Q0++S) cF) (λl=>l=fin) K ((i,true) :: r).length listed a w:=by
    intro s' sv v' cH eE hp hv hy hk
    have ih:=P1 (Q:=Q) hsel hD hK r (listed.setIfInBounds i true) (s'.put o.dst sv) L R Φ (a.put o.dst v') w (λj hj=>hl j (by simp [jU,hj])) UX hf hk (cH.put o.dst (Ext.refl _) hp cH.ctx cH.st hv) o9 he (eE.xF cH.wf (Ext.refl _) hd)
    exact OO hi (Region.noSelect_spec hsel) (λ_ _ _ h=>h) hE r.length listed a w (Region.free_spec hi GC) hr hy hw ih
   rcases h with ⟨rS,h⟩|⟨rS,h⟩
   .obtain ⟨sv,v',h1,h2,h3,h4⟩:=BV h cH
    exact take s' sv v' cH eE h2 h3 (.inl ⟨rS,h4⟩) h1
   .exact take s' (.v undef) undef cH eE (λk o e=>by cases e) (λ_=>rfl) (.inr ⟨rS,rfl⟩) h
  | false =>
   simp only [AO,Bool.and_eq_true,beq_iff_eq] at ho
   obtain ⟨rT,GC⟩:=ho
   refine ⟨by rw [rT];simp,λj hj=>?_⟩
   rw [rT] at hj
   have hj:j=i:=by simpa using hj
   subst hj
   unfold wpOp
   simp only [hi]
   rcases h with ⟨rS,h⟩|⟨rS,h⟩
   .simp only [rS,if_true]
    have:=cH.st
    refine .inl (Oper.lF (sW h cH.BS cH.wf cH.ctx λsv L' R' aV v' w' hk hst qQ hp hc hv=>⟨⟨_,hk.1 _ _ hc⟩,?_⟩))
    exact P1 hsel hD hK r _ _ _ _ _ _ _ (λj hj=>hl j (by simp [jU,hj])) GC hf hk.2 (cH.put o.dst qQ hp hc hst hv) hk.1 (he.trans qQ) (eE.xF cH.wf qQ hd)
   .simp only [rS,Bool.false_eq_true,if_false]
    exact ⟨hw,P1 hsel hD hK r _ _ _ _ _ _ _ (λj hj=>hl j (by simp [jU,hj])) GC hf h (cH.put o.dst (Ext.refl _) (λk o e=>by cases e) cH.ctx cH.st (λ_=>rfl)) o9 he (eE.xF cH.wf (Ext.refl _) hd)⟩
theorem nA {x:Array Bool} {i b} (h:(x.setIfInBounds i true).getD b true=false):b≠i/\x.getD b true=false:=by
 rw [Array.getD_eq_getD_getElem?] at h
 by_cases e:i=b
 .subst e
  rcases Nat.lt_or_ge i x.size with h'|h'
  .rw [Array.getElem?_setIfInBounds_self_of_lt h'] at h;simp at h
  .rw [Array.getElem?_eq_none (by simpa using h')] at h;simp at h
 .rw [Array.getElem?_setIfInBounds_ne e] at h
  exact ⟨λhh=>e hh.symm,by rw [Array.getD_eq_getD_getElem?];exact h⟩
def SD (ops:Array Oper) (W w0:World) (Q0:List Own) (cF:PW) (dl:Option Nat) (Q1:List Own) (cG:PW) (B:List Nat) (x:Array Bool) (w:World):Prop:=eT ops x=true/\(∃ S,Ctx W w (Q0++S) cF)/\((∃ b∈B,x.getD b true=false)->w=w0)/\∀ d,dl=some d->x.getD d true=false->∃ S,Ctx W w (Q1++S) cG
theorem SD.down {W w0 Q0 Q1 cF cG dl B i x w} (hi:i∈Region.ready .any ops x) (h:SD ops W w0 Q0 cF dl Q1 cG B x w):SD ops W w0 Q0 cF dl Q1 cG B (x.setIfInBounds i true) w :=
 ⟨jN h.1 hi,h.2.1,λ⟨b,hb,hx⟩=>h.2.2.1 ⟨b,hb,(nA hx).2⟩,λd hd hx=>h.2.2.2 d hd (nA hx).2⟩
inductive Wt (ops:Array Oper) (b:Nat):Nat->Prop
 | one {k:Nat} {o:Oper} {e:Edge}:ops[k]? = some o->e∈o.after->Region.binds .any e=true->e.on=b->Wt ops b k
 | more {k:Nat} {o:Oper} {e:Edge}:ops[k]? = some o->e∈o.after->Region.binds .any e=true->Wt ops b e.on->Wt ops b k
theorem Y2 {b}:∀ (l acc:List Nat),(∀ k∈acc,Wt ops b k)->∀ k∈waits ops b l acc,Wt ops b k
 | [],_,h,k,hk=>h k hk
 | j :: r,acc,h,k,hk=>by
  unfold waits at hk
  refine Y2 r _ ?_ k hk
  intro k hk
  split at hk
  .rename_i o ho
   split at hk
   .rename_i ha
    rcases List.mem_cons.1 hk with rfl|hk
    .simp only [Array.any_eq_true',Bool.and_eq_true,Bool.or_eq_true] at ha
     obtain ⟨e,he,hbd,hon⟩:=ha
     rcases hon with hon|hon
     .exact .one ho he hbd (Nat.eq_of_beq_eq_true hon)
     .exact .more ho he hbd (h _ (iO.1 hon))
    .exact h k hk
   .exact h k hk
  .exact h k hk
theorem Wt.listed {b x} (hc:eT ops x=true) {k} (h:Wt ops b k):(∀ (o:Oper) (e:Edge),ops[k]? = some o->e∈o.after->Region.binds .any e=true->x.getD e.on false=true)->x.getD b false=true:=by
 induction h with
 | one ho he hb hon=>intro hall;rw [<-hon];exact hall _ _ ho he hb
 | @more k o e ho he hb _ ih =>
  intro hall
  have h1:=hall _ _ ho he hb
  refine ih λo' e' ho' he' hb'=>?_
  have hlt:e.on<ops.size:=(Array.getElem?_eq_some_iff.1 ho').1
  have h2:=List.all_eq_true.1 hc e.on (List.mem_range.2 hlt)
  have h3:x.getD e.on true=true:=by
   rw [Array.getD_eq_getD_getElem?] at h1 ⊢
   cases hx:x[e.on]? with
   | none=>rfl
   | some c=>rw [hx] at h1;simpa using h1
  rw [h3,ho'] at h2
  simp only [Bool.not_true,Bool.false_or] at h2
  have h4:=List.all_eq_true.1 h2 e' (by simpa using he')
  rw [hb'] at h4
  simpa using h4
theorem Wt.later {b d x} (hc:eT ops x=true) (h:Wt ops b d) (hb:x.getD b true=false):x.getD d true=false:=by
 cases hd:x.getD d true with
 | false=>rfl
 | true =>
  exfalso
  have h3:=h.listed hc λo e ho he hbd=>by
   have hlt:d<ops.size:=(Array.getElem?_eq_some_iff.1 ho).1
   have h2:=List.all_eq_true.1 hc d (List.mem_range.2 hlt)
   rw [hd,ho] at h2
   simp only [Bool.not_true,Bool.false_or] at h2
   have h4:=List.all_eq_true.1 h2 e (by simpa using he)
   rw [hbd] at h4
   simpa using h4
  rw [Array.getD_eq_getD_getElem?] at h3 hb
  cases hx:x[b]? with
  | none=>rw [hx] at h3;cases h3
  | some c=>rw [hx] at h3 hb;simp at h3 hb;rw [h3] at hb;cases hb
theorem SD.mono {W w0 Q0 Q1 cF cG dl B rd} (P2:tZ ops rd B=true) {i} (SI:dl≠some i) (x j w w') (hi:i∈Region.ready .any ops x) (hj:j∈Region.ready .any ops x) (hji:j≠i) (h:SD ops W w0 Q0 cF dl Q1 cG B x w) (hrd:dK j rd=true->w'=w) (h':SD ops W w0 Q0 cF dl Q1 cG B ((x.setIfInBounds i true).setIfInBounds j true) w'):SD ops W w0 Q0 cF dl Q1 cG B (x.setIfInBounds j true) w':=by
 refine ⟨jN h.1 hj,h'.2.1,λ⟨b,hb,hx⟩=>?_,λd hd hx=>h'.2.2.2 d hd (by rw [getD_set_ne true (Ne.symm (nA hx).1),getD_set_ne true (λe=>SI (by rw [hd,e]))];exact (nA hx).2)⟩
 obtain ⟨hbj,hxb⟩:=nA hx
 by_cases hbi:b=i
 .subst hbi
  have hw:=h.2.2.1 ⟨b,hb,hxb⟩
  cases hm:dK j rd with
  | true=>rw [hrd hm,hw]
  | false =>
   exfalso
   unfold tZ at P2
   have h1:=List.all_eq_true.1 P2 b hb
   simp only [Bool.and_eq_true] at h1
   obtain ⟨_,o,ho,hall⟩:=mem_ready.1 hj
   have hlt:j<ops.size:=(Array.getElem?_eq_some_iff.1 ho).1
   have h2:=List.all_eq_true.1 h1.2 j (List.mem_range.2 hlt)
   rw [hm] at h2
   simp only [Bool.false_or] at h2
   have rS:=Y2 (ops:=ops) (b:=b) _ [] (λk hk=>by cases hk) j (iO.1 h2)
   have h3:=rS.listed h.1 λo' e ho' he hbd=>by
    rw [ho] at ho'
    cases ho'
    exact hall e he hbd
   rw [Array.getD_eq_getD_getElem?] at h3 hxb
   cases hx':x[b]? with
   | none=>rw [hx'] at h3;cases h3
   | some c=>rw [hx'] at h3 hxb;simp at h3 hxb;rw [h3] at hxb;cases hxb
 .refine h'.2.2.1 ⟨b,hb,?_⟩
  rw [getD_set_ne true (Ne.symm hbj),getD_set_ne true (Ne.symm hbi)]
  exact hxb
theorem Y3 {Q w0 w Q0 Q1 cF cG dl B rd E K fin n i o v a listed} (hsel:Region.noSelect ops=true) (P2:tZ ops rd B=true) (SI:dl≠some i) (hEf:∀ x,E x->x=fin) (hl:Region.ready .any ops (fin.setIfInBounds i false)=[i]) (hi:ops[i]? = some o) (hr:i∈Region.ready .any ops listed) (hf:Region.free .any ops listed i=true) (hy:YieldsIf P ops (λw=>∃ x,i∈Region.ready .any ops x/\SD ops W w0 Q0 cF dl Q1 cG B x w) o v a) (hS:SD ops W w0 Q0 cF dl Q1 cG B listed w) (H:mZ P .any ops (eJ Q) (SD ops W w0 Q0 cF dl Q1 cG B) (λj=>dK j rd) E K n (listed.setIfInBounds i true) (a.put o.dst v) w):mZ P .any ops (eJ Q) (SD ops W w0 Q0 cF dl Q1 cG B) (λj=>dK j rd) E K (n+1) listed a w:=by
 refine a3u hi (Region.noSelect_spec hsel) (λ_ _ _ h=>h) (λl hl' hil j hj=>?_) (λx w hi h=>h.down hi) (SD.mono P2 SI) n listed a w (Region.free_spec hi hf) hr hy hS H
 have hl':=hEf _ hl'
 have e:l=fin.setIfInBounds i false:=by
  have h0:=(mem_ready.1 hil).1
  rw [<-hl']
  have h2:l[i]? = some false:=by
   rw [Array.getD_eq_getD_getElem?] at h0
   cases hx:l[i]? with
   | none=>rw [hx] at h0;cases h0
   | some b=>rw [hx] at h0;simp at h0;subst h0;rfl
  have hlt:i<l.size:=(Array.getElem?_eq_some_iff.1 h2).1
  apply Array.ext_getElem?
  intro k
  by_cases hk:i=k
  .subst hk
   rw [Array.getElem?_setIfInBounds_self_of_lt (by simpa using hlt),h2]
  .rw [Array.getElem?_setIfInBounds_ne hk,Array.getElem?_setIfInBounds_ne hk]
 rw [e,hl] at hj
 simpa using hj
theorem BW {Q L R Φ cF cG Q0 Q1 dl w0 w B rd Kf K E fin m} (hsel:Region.noSelect ops=true) (P2:tZ ops rd B=true) (hEf:∀ x,E x->x=fin) (hD:∀ (j:Nat) (o:Oper) (t:Nat),ops[j]? = some o->o.dst=some t->D t):
  ∀ (T:List Nat) (listed:Array Bool) (s:fJ) (a:Act) (_:∀ i∈T,dl≠some i) (_:∀ s a,Kf s->At ds G W s L R Φ a w->bU D s0 (s.fr L)->SD ops W w0 Q0 cF dl Q1 cG B (bH T listed) w->mZ P .any ops (eJ Q) (SD ops W w0 Q0 cF dl Q1 cG B) (λj=>dK j rd) E K m (bH T listed) a w),
   (∀ i∈T,Region.ready .any ops (fin.setIfInBounds i false)=[i])->lG ops T listed=true->ltS P W wr ops L Q0 cF T s Kf->At ds G W s L R Φ a w->bU D s0 (s.fr L)->SD ops W w0 Q0 cF dl Q1 cG B listed w ->
   mZ P .any ops (eJ Q) (SD ops W w0 Q0 cF dl Q1 cG B) (λj=>dK j rd) E K (T.length+m) listed a w
 | [],listed,s,a,SI,hK,_,_,h,ha,hu,hS=>by simp only [List.length_nil,Nat.zero_add];exact hK s a h ha hu hS
 | i :: r,listed,s,a,SI,hK,hl,ho,h,ha,hu,hS=>by
  simp only [lG,Bool.and_eq_true] at ho
  obtain ⟨⟨rT,GC⟩,UX⟩:=ho
  unfold ltS at h
  split at h
  .exact h.elim
  rename_i o hi
  have hd:∀ t,o.dst=some t->D t:=λt ht=>hD i o t hi ht
  have take:∀ (s':fJ) (sv:SV) (v':Value),At ds G W s' L R Φ a w->bU D s0 (s'.fr L)->(∀ k o,sv=SV.ptr k o->(bS k L).isSome=true)->(wG (sv.val L)=false->v'=sv.val L) ->
    YieldsIf P ops (λw=>∃ x,i∈Region.ready .any ops x/\SD ops W w0 Q0 cF dl Q1 cG B x w) o v' a->ltS P W wr ops L Q0 cF r (s'.put o.dst sv) Kf ->
    mZ P .any ops (eJ Q) (SD ops W w0 Q0 cF dl Q1 cG B) (λj=>dK j rd) E K ((i :: r).length+m) listed a w:=by
   intro s' sv v' cH eE hp hv hy hk
   have ih:=BW (Q:=Q) hsel P2 hEf hD r (listed.setIfInBounds i true) (s'.put o.dst sv) (a.put o.dst v') (λj hj=>SI j (List.mem_cons_of_mem _ hj)) hK (λj hj=>hl j (List.mem_cons_of_mem _ hj)) UX hk (cH.put o.dst (Ext.refl _) hp cH.ctx cH.st hv) (eE.xF cH.wf (Ext.refl _) hd) (hS.down (by simpa using rT))
   rw [show (i :: r).length+m=(r.length+m)+1 by simp;omega]
   exact Y3 hsel P2 (SI i (by simp)) hEf (hl i (by simp)) hi (by simpa using rT) GC hy hS ih
  obtain ⟨s',cH,eE,h⟩:=eZ hD h ha hu
  rcases h with ⟨rS,h⟩|⟨rS,h⟩
  .obtain ⟨sv,v',h1,h2,h3,h4⟩:=BV h cH
   exact take s' sv v' cH eE h2 h3 (.inl ⟨rS,λw' ⟨x,_,hx⟩=>h4 w' hx.2.1⟩) h1
  .exact take s' (.v undef) undef cH eE (λk o e=>by cases e) (λ_=>rfl) (.inr ⟨rS,rfl⟩) h
theorem lD {b}:∀ (T:List Nat) (x:Array Bool),(b∈T\/x.getD b true=true)->(bH T x).getD b true=true
 | [],x,h=>by rcases h with h|h;cases h;exact h
 | i :: r,x,h=>by
  unfold bH
  refine lD r _ ?_
  by_cases hbr:b∈r
  .exact .inl hbr
  .right
   cases hc:(x.setIfInBounds i true).getD b true with
   | true=>rfl
   | false =>
    obtain ⟨h1,h2⟩:=nA hc
    rcases h with h|h
    .rcases List.mem_cons.1 h with h|h
     .exact absurd h h1
     .exact absurd h hbr
    .rw [h] at h2;cases h2
theorem Y4 {Q L R Φ cF Q0 w B rd Kf K E fin m} (hsel:Region.noSelect ops=true) (P2:tZ ops rd B=true) (hEf:∀ x,E x->x=fin) (hD:∀ (j:Nat) (o:Oper) (t:Nat),ops[j]? = some o->o.dst=some t->D t):
  ∀ (T:List Nat) (listed:Array Bool) (s:fJ) (a:Act) (_:∀ s a,Kf s->At ds G W s L R Φ a w->bU D s0 (s.fr L)->SD ops W w Q0 cF none Q0 cF B (bH T listed) w->mZ P .any ops (eJ Q) (SD ops W w Q0 cF none Q0 cF B) (λj=>dK j rd) E K m (bH T listed) a w),
   (∀ i∈T,Region.ready .any ops (fin.setIfInBounds i false)=[i])->lG ops T listed=true->a8z P W wr ops L R Φ Q0 cF B T s Kf->At ds G W s L R Φ a w->bU D s0 (s.fr L)->SD ops W w Q0 cF none Q0 cF B listed w ->
   mZ P .any ops (eJ Q) (SD ops W w Q0 cF none Q0 cF B) (λj=>dK j rd) E K (T.length+m) listed a w
 | [],listed,s,a,hK,_,_,h,ha,hu,hS=>by simp only [List.length_nil,Nat.zero_add];exact hK s a h ha hu hS
 | i :: r,listed,s,a,hK,hl,ho,h,ha,hu,hS=>by
  simp only [lG,Bool.and_eq_true] at ho
  obtain ⟨⟨rT,GC⟩,UX⟩:=ho
  unfold a8z at h
  split at h
  .exact h.elim
  rename_i o hi
  have hd:∀ t,o.dst=some t->D t:=λt ht=>hD i o t hi ht
  have take:∀ (s':fJ) (sv:SV) (v':Value),At ds G W s' L R Φ a w->bU D s0 (s'.fr L)->(∀ k o,sv=SV.ptr k o->(bS k L).isSome=true)->(wG (sv.val L)=false->v'=sv.val L) ->
    YieldsIf P ops (λw'=>∃ x,i∈Region.ready .any ops x/\SD ops W w Q0 cF none Q0 cF B x w') o v' a->a8z P W wr ops L R Φ Q0 cF B r (s'.put o.dst sv) Kf ->
    mZ P .any ops (eJ Q) (SD ops W w Q0 cF none Q0 cF B) (λj=>dK j rd) E K ((i :: r).length+m) listed a w:=by
   intro s' sv v' cH eE hp hv hy hk
   have ih:=Y4 (Q:=Q) hsel P2 hEf hD r (listed.setIfInBounds i true) (s'.put o.dst sv) (a.put o.dst v') hK (λj hj=>hl j (List.mem_cons_of_mem _ hj)) UX hk (cH.put o.dst (Ext.refl _) hp cH.ctx cH.st hv) (eE.xF cH.wf (Ext.refl _) hd) (hS.down (by simpa using rT))
   rw [show (i :: r).length+m=(r.length+m)+1 by simp;omega]
   exact Y3 hsel P2 (λe=>by cases e) hEf (hl i (by simp)) hi (by simpa using rT) GC hy hS ih
  obtain ⟨s',cH,eE,h⟩:=eZ hD h ha hu
  rcases h with ⟨rS,h⟩|⟨rS,h⟩
  .split at h
   .rename_i hB
    obtain ⟨sv,v',h1,h2,h3,h4⟩:=SH h cH
    exact take s' sv v' cH eE h2 h3 (.inl ⟨rS,λw' ⟨x,hix,hx⟩=>by rw [hx.2.2.1 ⟨i,iO.1 hB,(mem_ready.1 hix).1⟩];exact h4⟩) h1
   .obtain ⟨sv,v',h1,h2,h3,h4⟩:=BV h cH
    exact take s' sv v' cH eE h2 h3 (.inl ⟨rS,λw' ⟨x,_,hx⟩=>h4 w' hx.2.1⟩) h1
  .exact take s' (.v undef) undef cH eE (λk o e=>by cases e) (λ_=>rfl) (.inr ⟨rS,rfl⟩) h
theorem UY {Q L R Φ cF cG Q0 Q1 dl C w B rd Kf K E fin m} (hsel:Region.noSelect ops=true) (P2:tZ ops rd B=true) (SI:dK dl rd=false) (hCw:∀ c∈C,Wt ops c dl) (hEf:∀ x,E x->x=fin) (hD:∀ (j:Nat) (o:Oper) (t:Nat),ops[j]? = some o->o.dst=some t->D t):
  ∀ (T:List Nat) (listed:Array Bool) (s:fJ) (a:Act) (_:∀ s a,Kf s->At ds G W s L R Φ a w->bU D s0 (s.fr L)->SD ops W w Q0 cF (some dl) Q1 cG B (bH T listed) w->mZ P .any ops (eJ Q) (SD ops W w Q0 cF (some dl) Q1 cG B) (λj=>dK j rd) E K m (bH T listed) a w),
   (∀ i∈T,i∈rd)->(∀ i∈T,Region.ready .any ops (fin.setIfInBounds i false)=[i])->lG ops T listed=true->UW P W wr ops L R Φ Q0 cF C Q1 cG B T s Kf->At ds G W s L R Φ a w->bU D s0 (s.fr L)->SD ops W w Q0 cF (some dl) Q1 cG B listed w ->
   mZ P .any ops (eJ Q) (SD ops W w Q0 cF (some dl) Q1 cG B) (λj=>dK j rd) E K (T.length+m) listed a w
 | [],listed,s,a,hK,_,_,_,h,ha,hu,hS=>by simp only [List.length_nil,Nat.zero_add];exact hK s a h ha hu hS
 | i :: r,listed,s,a,hK,hTr,hl,ho,h,ha,hu,hS=>by
  simp only [lG,Bool.and_eq_true] at ho
  obtain ⟨⟨rT,GC⟩,UX⟩:=ho
  unfold UW at h
  split at h
  .exact h.elim
  rename_i o hi
  have hd:∀ t,o.dst=some t->D t:=λt ht=>hD i o t hi ht
  have take:∀ (s':fJ) (sv:SV) (v':Value),At ds G W s' L R Φ a w->bU D s0 (s'.fr L)->(∀ k o,sv=SV.ptr k o->(bS k L).isSome=true)->(wG (sv.val L)=false->v'=sv.val L) ->
    YieldsIf P ops (λw'=>∃ x,i∈Region.ready .any ops x/\SD ops W w Q0 cF (some dl) Q1 cG B x w') o v' a->UW P W wr ops L R Φ Q0 cF C Q1 cG B r (s'.put o.dst sv) Kf ->
    mZ P .any ops (eJ Q) (SD ops W w Q0 cF (some dl) Q1 cG B) (λj=>dK j rd) E K ((i :: r).length+m) listed a w:=by
   intro s' sv v' cH eE hp hv hy hk
   have ih:=UY (Q:=Q) hsel P2 SI hCw hEf hD r (listed.setIfInBounds i true) (s'.put o.dst sv) (a.put o.dst v') hK (λj hj=>hTr j (List.mem_cons_of_mem _ hj)) (λj hj=>hl j (List.mem_cons_of_mem _ hj)) UX hk (cH.put o.dst (Ext.refl _) hp cH.ctx cH.st hv) (eE.xF cH.wf (Ext.refl _) hd) (hS.down (by simpa using rT))
   rw [show (i :: r).length+m=(r.length+m)+1 by simp;omega]
   exact Y3 hsel P2 (λe=>by have e:=Option.some.inj e;rw [e,iO.2 (hTr i (by simp))] at SI;cases SI) hEf (hl i (by simp)) hi (by simpa using rT) GC hy hS ih
  obtain ⟨s',cH,eE,h⟩:=eZ hD h ha hu
  rcases h with ⟨rS,h⟩|⟨rS,h⟩
  .split at h
   .rename_i hB
    obtain ⟨sv,v',h1,h2,h3,h4⟩:=SH h cH
    exact take s' sv v' cH eE h2 h3 (.inl ⟨rS,λw' ⟨x,hix,hx⟩=>by rw [hx.2.2.1 ⟨i,iO.1 hB,(mem_ready.1 hix).1⟩];exact h4⟩) h1
   .split at h
    .rename_i hC
     obtain ⟨sv,v',h1,h2,h3,h4⟩:=BV h cH
     exact take s' sv v' cH eE h2 h3 (.inl ⟨rS,λw' ⟨x,hix,hx⟩=>h4 w' (hx.2.2.2 dl rfl ((hCw i (iO.1 hC)).later hx.1 (mem_ready.1 hix).1))⟩) h1
    .obtain ⟨sv,v',h1,h2,h3,h4⟩:=BV h cH
     exact take s' sv v' cH eE h2 h3 (.inl ⟨rS,λw' ⟨x,_,hx⟩=>h4 w' hx.2.1⟩) h1
  .exact take s' (.v undef) undef cH eE (λk o e=>by cases e) (λ_=>rfl) (.inr ⟨rS,rfl⟩) h
theorem SJ {Q L0 w0 Q0 cF B rd Kf K fin} (hsel:Region.noSelect ops=true) (P2:tZ ops rd B=true) (hD:∀ (j:Nat) (o:Oper) (t:Nat),ops[j]? = some o->o.dst=some t->D t) (hK:∀ s L R Φ a w,Kf s L R Φ->At ds G W s L R Φ a w->Ext L0 L->bU D s0 (s.fr L)->K a w):
  ∀ (l:List (Nat × List Nat)) (listed:Array Bool) (s:fJ) (L:List Tr) (R:List Own) (Φ:PW) (a:Act) (w:World),eT ops listed=true->(∀ p∈l,∀ i∈p.2,Region.ready .any ops (fin.setIfInBounds i false)=[i])->a3E ops fin l listed=true->dlS P W wr BJ ops Q0 cF l s L R Φ Kf->At ds G W s L R Φ a w->(∀ w F,Ctx W w (R++F) Φ->Ctx W w (Q0++F) cF)->Ext L0 L->bU D s0 (s.fr L) ->
   (∀ b∈B,listed.getD b true=true)->(∀ p∈l,dK p.1 rd=false)->mZ P .any ops (eJ Q) (SD ops W w0 Q0 cF none Q0 cF B) (λj=>dK j rd) (λx=>x=fin/\Region.ready .any ops x=[]) K (Y0 l) listed a w
 | [],listed,s,L,R,Φ,a,w,_,_,ho,h,ha,o9,he,hu,_,_=>by
  simp only [a3E,Bool.and_eq_true,decide_eq_true_eq,List.isEmpty_iff] at ho
  exact ⟨ho,hK _ _ _ _ _ _ h ha he hu⟩
 | (i,T) :: rest,listed,s,L,R,Φ,a,w,rW,hl,ho,h,ha,o9,he,hu,hB,hn=>by
  simp only [a3E,Bool.and_eq_true,beq_iff_eq] at ho
  obtain ⟨h1,h2,h3⟩:=ho
  unfold dlS at h
  split at h
  .exact h.elim
  rename_i o hi
  have hd:∀ t,o.dst=some t->D t:=λt ht=>hD i o t hi ht
  have hB':∀ b∈B,(listed.setIfInBounds i true).getD b true=true:=λb hb=>by
   cases hc:(listed.setIfInBounds i true).getD b true with
   | true=>rfl
   | false=>have:=(nA hc).2;rw [hB b hb] at this;cases this
  have sd:∀ {w':World} {R':List Own} {aV:PW} {L':List Tr},jM G W w' L' R' aV->(∀ w F,Ctx W w (R'++F) aV->Ctx W w (Q0++F) cF)->SD ops W w0 Q0 cF none Q0 cF B (listed.setIfInBounds i true) w':=λhc a3F =>
   ⟨jN rW (by rw [h1];simp),⟨_,a3F _ _ hc⟩,λ⟨b,hb,hx⟩=>(by rw [hB' b hb] at hx;cases hx),λd e=>by cases e⟩
  refine ⟨by rw [h1];simp,λj hj=>?_⟩
  rw [h1] at hj
  have hj:j=i:=by simpa using hj
  subst hj
  obtain ⟨s',cH,eE,BO⟩:=eZ hD h ha hu
  unfold wpOp
  simp only [hi]
  have hnr:=hn (j,T) (by simp)
  rcases BO with ⟨rS,h⟩|⟨rS,h⟩
  .simp only [rS,if_true]
   have:=cH.st
   refine .inl (Oper.lF (sW h cH.BS cH.wf cH.ctx λsv L' R' aV v' w' hk hst qQ hp hc hv=>⟨sd hc hk.1,λe=>(by rw [hnr] at e;cases e),?_⟩))
   refine BW hsel P2 (λx hx=>hx.1) hD T _ _ _ (λi _ e=>by cases e) (λs a hk' Y5 MD hsd=>?_) (hl (j,T) (by simp)) h2 hk.2 (cH.put o.dst qQ hp hc hst hv) (eE.xF cH.wf qQ hd) (sd hc hk.1)
   exact SJ hsel P2 hD hK rest _ _ _ _ _ _ _ hsd.1 (λp hp'=>hl p (List.mem_cons_of_mem _ hp')) h3 hk' Y5 hk.1 (he.trans qQ) MD (λb hb=>lD T _ (.inr (hB' b hb))) (λp hp'=>hn p (List.mem_cons_of_mem _ hp'))
  .simp only [rS,Bool.false_eq_true,if_false]
   refine ⟨sd cH.ctx o9,λe=>(by rw [hnr] at e;cases e),?_⟩
   refine BW hsel P2 (λx hx=>hx.1) hD T _ _ _ (λi _ e=>by cases e) (λs a hk' Y5 MD hsd=>?_) (hl (j,T) (by simp)) h2 h (cH.put o.dst (Ext.refl _) (λk o e=>by cases e) cH.ctx cH.st (λ_=>rfl)) (eE.xF cH.wf (Ext.refl _) hd) (sd cH.ctx o9)
   exact SJ hsel P2 hD hK rest _ _ _ _ _ _ _ hsd.1 (λp hp'=>hl p (List.mem_cons_of_mem _ hp')) h3 hk' Y5 o9 he MD (λb hb=>lD T _ (.inr (hB' b hb))) (λp hp'=>hn p (List.mem_cons_of_mem _ hp'))
theorem MM {Q L0 w0 Q0 Q1 cF cG dl B rd Kf K fin} (hsel:Region.noSelect ops=true) (P2:tZ ops rd B=true) (SI:dK dl rd=false) (hD:∀ (j:Nat) (o:Oper) (t:Nat),ops[j]? = some o->o.dst=some t->D t) (hK:∀ s L R Φ a w,Kf s L R Φ->At ds G W s L R Φ a w->Ext L0 L->bU D s0 (s.fr L)->K a w):
  ∀ (l:List (Nat × List Nat)) (up:Bool) (listed:Array Bool) (s:fJ) (L:List Tr) (R:List Own) (Φ:PW) (a:Act) (w:World),eT ops listed=true->(∀ p∈l,∀ i∈p.2,Region.ready .any ops (fin.setIfInBounds i false)=[i])->a3E ops fin l listed=true->aFy P W wr BJ ops Q0 cF dl Q1 cG up l s L R Φ Kf->At ds G W s L R Φ a w->(∀ w F,Ctx W w (R++F) Φ->Ctx W w (Q0++F) cF)->(listed.getD dl true=false->up=true/\∀ w F,Ctx W w (R++F) Φ->Ctx W w (Q1++F) cG)->(∀ p∈l,∀ i∈p.2,i∈rd)->Ext L0 L->bU D s0 (s.fr L) ->
   (∀ b∈B,listed.getD b true=true)->(∀ p∈l,dK p.1 rd=false)->mZ P .any ops (eJ Q) (SD ops W w0 Q0 cF (some dl) Q1 cG B) (λj=>dK j rd) (λx=>x=fin/\Region.ready .any ops x=[]) K (Y0 l) listed a w
 | [],up,listed,s,L,R,Φ,a,w,_,_,ho,h,ha,o9,_,_,he,hu,_,_=>by
  simp only [a3E,Bool.and_eq_true,decide_eq_true_eq,List.isEmpty_iff] at ho
  exact ⟨ho,hK _ _ _ _ _ _ h ha he hu⟩
 | (i,T) :: rest,up,listed,s,L,R,Φ,a,w,rW,hl,ho,h,ha,o9,hup,hrd,he,hu,hB,hn=>by
  simp only [a3E,Bool.and_eq_true,beq_iff_eq] at ho
  obtain ⟨h1,h2,h3⟩:=ho
  unfold aFy at h
  split at h
  .exact h.elim
  rename_i o hi
  have hd:∀ t,o.dst=some t->D t:=λt ht=>hD i o t hi ht
  have hB':∀ b∈B,(listed.setIfInBounds i true).getD b true=true:=λb hb=>by
   cases hc:(listed.setIfInBounds i true).getD b true with
   | true=>rfl
   | false=>have:=(nA hc).2;rw [hB b hb] at this;cases this
  have sd:∀ {w':World} {R':List Own} {aV:PW} {L':List Tr},jM G W w' L' R' aV->(∀ w F,Ctx W w (R'++F) aV->Ctx W w (Q0++F) cF)->((listed.setIfInBounds i true).getD dl true=false->∀ w F,Ctx W w (R'++F) aV->Ctx W w (Q1++F) cG)->SD ops W w0 Q0 cF (some dl) Q1 cG B (listed.setIfInBounds i true) w':=λhc a3F hΨ =>
   ⟨jN rW (by rw [h1];simp),⟨_,a3F _ _ hc⟩,λ⟨b,hb,hx⟩=>(by rw [hB' b hb] at hx;cases hx),λd e hx=>by cases e;exact ⟨_,hΨ hx _ _ hc⟩⟩
  have aJL:∀ (R':List Own) (aV:PW),aFx dl i up (∀ w F,Ctx W w (R'++F) aV->Ctx W w (Q1++F) cG)->(listed.setIfInBounds i true).getD dl true=false->(up && !(Nat.beq dl i))=true/\∀ w F,Ctx W w (R'++F) aV->Ctx W w (Q1++F) cG:=by
   intro R' aV hq hx
   obtain ⟨hne,hx⟩:=nA hx
   have hb:Nat.beq dl i=false:=by cases hb:Nat.beq dl i with|false=>rfl|true=>exact absurd (Nat.eq_of_beq_eq_true hb) hne
   have hu:=(hup hx).1
   rw [hu] at hq ⊢
   unfold aFx at hq
   rw [hb] at hq ⊢
   exact ⟨rfl,hq⟩
  have hun:∀ (T:List Nat) (x:Array Bool),(bH T x).getD dl true=false->x.getD dl true=false:=λT x hx=>by
   cases hc:x.getD dl true with
   | false=>rfl
   | true=>rw [lD T x (.inr hc)] at hx;cases hx
  have hTd:∀ i∈T,some dl≠some i:=λk hk e=>by
   cases e
   rw [iO.2 (hrd (i,T) (by simp) dl hk)] at SI
   cases SI
  refine ⟨by rw [h1];simp,λj hj=>?_⟩
  rw [h1] at hj
  have hj:j=i:=by simpa using hj
  subst hj
  obtain ⟨s',cH,eE,BO⟩:=eZ hD h ha hu
  unfold wpOp
  simp only [hi]
  have hnr:=hn (j,T) (by simp)
  rcases BO with ⟨rS,h⟩|⟨rS,h⟩
  .simp only [rS,if_true]
   have:=cH.st
   refine .inl (Oper.lF (sW h cH.BS cH.wf cH.ctx λsv L' R' aV v' w' hk hst qQ hp hc hv=>⟨sd hc hk.1 (λhx=>(aJL _ _ hk.2.1 hx).2),λe=>(by rw [hnr] at e;cases e),?_⟩))
   refine BW hsel P2 (λx hx=>hx.1) hD T _ _ _ hTd (λs a hk' Y5 MD hsd=>?_) (hl (j,T) (by simp)) h2 hk.2.2 (cH.put o.dst qQ hp hc hst hv) (eE.xF cH.wf qQ hd) (sd hc hk.1 (λhx=>(aJL _ _ hk.2.1 hx).2))
   exact MM hsel P2 SI hD hK rest _ _ _ _ _ _ _ _ hsd.1 (λp hp'=>hl p (List.mem_cons_of_mem _ hp')) h3 hk' Y5 hk.1 (λhx=>aJL _ _ hk.2.1 (hun _ _ hx)) (λp hp'=>hrd p (List.mem_cons_of_mem _ hp')) (he.trans qQ) MD (λb hb=>lD T _ (.inr (hB' b hb))) (λp hp'=>hn p (List.mem_cons_of_mem _ hp'))
  .simp only [rS,Bool.false_eq_true,if_false]
   have hq:(listed.setIfInBounds j true).getD dl true=false->∀ w F,Ctx W w (R++F) Φ->Ctx W w (Q1++F) cG:=λhx=>(hup (nA hx).2).2
   have hq':aFx dl j up (∀ w F,Ctx W w (R++F) Φ->Ctx W w (Q1++F) cG)\/listed.getD dl true=true:=by
    cases hc:listed.getD dl true with
    | true=>exact .inr rfl
    | false=>left;unfold aFx;split;trivial;split;trivial;exact (hup hc).2
   have hq3:(listed.setIfInBounds j true).getD dl true=false->(up && !(Nat.beq dl j))=true/\∀ w F,Ctx W w (R++F) Φ->Ctx W w (Q1++F) cG:=λhx=>by
    rcases hq' with h|h
    .exact aJL _ _ h hx
    .rw [(nA hx).2] at h;cases h
   refine ⟨sd cH.ctx o9 hq,λe=>(by rw [hnr] at e;cases e),?_⟩
   refine BW hsel P2 (λx hx=>hx.1) hD T _ _ _ hTd (λs a hk' Y5 MD hsd=>?_) (hl (j,T) (by simp)) h2 h (cH.put o.dst (Ext.refl _) (λk o e=>by cases e) cH.ctx cH.st (λ_=>rfl)) (eE.xF cH.wf (Ext.refl _) hd) (sd cH.ctx o9 hq)
   exact MM hsel P2 SI hD hK rest _ _ _ _ _ _ _ _ hsd.1 (λp hp'=>hl p (List.mem_cons_of_mem _ hp')) h3 hk' Y5 o9 (λhx=>hq3 (hun _ _ hx)) (λp hp'=>hrd p (List.mem_cons_of_mem _ hp')) he MD (λb hb=>lD T _ (.inr (hB' b hb))) (λp hp'=>hn p (List.mem_cons_of_mem _ hp'))
theorem pR {Q L0 K} (hsel:Region.noSelect ops=true) (hD:∀ (j:Nat) (o:Oper) (t:Nat),ops[j]? = some o->o.dst=some t->D t) (hK:∀ s L R Φ a w,K s L R Φ->At ds G W s L R Φ a w->Ext L0 L->bU D s0 (s.fr L)->Q .normal a w):
  ∀ (l:List Sg) (listed:Array Bool) (s:fJ) (L:List Tr) (R:List Own) (Φ:PW) (a:Act) (w:World),MJ ops l listed=true->MK P W wr BJ ops l s L R Φ K->At ds G W s L R Φ a w->Ext L0 L->bU D s0 (s.fr L) ->
   wpAny P .any ops (eJ Q) (LP l) listed a w
 | [],listed,s,L,R,Φ,a,w,ho,h,ha,he,hu=>by
  refine ⟨?_,hK _ _ _ _ _ _ h ha he hu⟩
  simpa [MJ] using ho
 | .bD T none :: rest,listed,s,L,R,Φ,a,w,ho,h,ha,he,hu=>by
  simp only [MJ,Bool.and_eq_true] at ho
  obtain ⟨⟨rT,GC⟩,UX⟩:=ho
  unfold MK at h
  exact a13 hsel hD (λs a h ha hu=>pR hsel hD hK rest _ s L R Φ a w UX h ha he hu) rT GC h ha hu
 | .tree t n :: rest,listed,s,L,R,Φ,a,w,ho,h,ha,he,hu=>by
  simp only [MJ,Bool.and_eq_true] at ho
  obtain ⟨⟨hc1,rT⟩,UX⟩:=ho
  unfold MK at h
  obtain ⟨Q0,cF,xH,hQ0,h⟩:=h
  refine xD (S:=λw'=>Ctx W w' (Q0++(L.map Tr.own++G)) cF) (E:=λl=>l=bH (a10 t) listed) (K:=λa' w'=>wpAny P .any ops (eJ Q) (LP rest) (bH (a10 t) listed) a' w') ?_ n listed a w ?_
  .rintro l a w1 rfl hk;exact hk
  .exact (GL hsel xH hD (λs R Φ a w hk ha hu=>pR hsel hD hK rest _ s L R Φ a w UX hk ha he hu) t).1 n listed s R Φ a w hc1 rT h ha hQ0 hu
 | .held ord :: rest,listed,s,L,R,Φ,a,w,ho,h,ha,he,hu=>by
  simp only [MJ,Bool.and_eq_true] at ho
  obtain ⟨⟨⟨rT,hc1⟩,GC⟩,UX⟩:=ho
  unfold MK at h
  have hl:∀ j∈jU ord,Region.ready .any ops ((bH (ord.map (·.1)) listed).setIfInBounds j false)=[j]\/eT ops ((bH (ord.map (·.1)) listed).setIfInBounds j false)=false:=by
   intro j hj
   have:=List.all_eq_true.1 GC j hj
   simpa using this
  obtain ⟨Q0,cF,xH,hQ0,h⟩:=h
  refine xD (S:=λw'=>Ctx W w' (Q0++(L.map Tr.own++G)) cF) (E:=λl=>l=bH (ord.map (·.1)) listed) (K:=λa' w'=>wpAny P .any ops (eJ Q) (LP rest) (bH (ord.map (·.1)) listed) a' w') ?_ ord.length listed a w ?_
  .rintro l a w1 rfl hk;exact hk
  .exact P0 hsel xH hD (λs R Φ a w hk ha hu=>pR hsel hD hK rest _ s L R Φ a w UX hk ha he hu) ord listed s R Φ a w hl hc1 rT rfl h ha hQ0 hu
 | .late B sH l :: rest,listed,s,L,R,Φ,a,w,ho,h,ha,he,hu=>by
  simp only [MJ,Bool.and_eq_true] at ho
  obtain ⟨⟨⟨⟨⟨⟨hc0,rT⟩,hBi⟩,P2⟩,hla⟩,hnr⟩,SI⟩:=ho
  unfold MK at h
  have hl:∀ j∈jA sH l,Region.ready .any ops ((OZ l (bH sH listed)).setIfInBounds j false)=[j]:=by
   intro j hj
   have:=List.all_eq_true.1 hla j hj
   simpa using this
  have aJN:∀ (l:List (Nat × List Nat)),∀ i∈sH,i∈jA sH l:=by
   intro l
   induction l with
   | nil=>exact λi hi=>hi
   | cons p r ih=>obtain ⟨q,T⟩:=p;exact λi hi=>List.mem_append.2 (.inr (ih i hi))
  have hlt:∀ (l:List (Nat × List Nat)),∀ p∈l,∀ i∈p.2,i∈jA sH l:=by
   intro l
   induction l with
   | nil=>intro p hp;cases hp
   | cons q r ih =>
    obtain ⟨q,T⟩:=q
    intro p hp i hi
    rcases List.mem_cons.1 hp with rfl|hp
    .exact List.mem_append.2 (.inl hi)
    .exact List.mem_append.2 (.inr (ih p hp i hi))
  have hB:∀ b∈B,(bH sH listed).getD b true=true:=λb hb=>lD sH listed (.inl (iO.1 (List.all_eq_true.1 hBi b hb)))
  obtain ⟨Q0,cF,xH,hQ0,h⟩:=h
  refine MA (S:=SD ops W w Q0 cF none Q0 cF B) (rd:=λj=>dK j (jA sH l)) (E:=λx=>x=OZ l (bH sH listed)/\Region.ready .any ops x=[]) (K:=λa' w'=>eJ Q .normal a' w') (λl a w1 hE hk=>⟨hE.2,hk⟩) (sH.length+Y0 l) listed a w ?_
  refine Y4 hsel P2 (λx hx=>hx.1) hD sH listed s a (λs a hk ha hu hsd=>?_) (λi hi=>hl i (aJN l i hi)) rT h ha hu ⟨hc0,⟨_,hQ0 _ _ ha.ctx⟩,λ_=>rfl,λd e=>by cases e⟩
  exact SJ hsel P2 hD (λs L R Φ a w hk ha he hu=>hK _ _ _ _ _ _ hk ha he hu) l _ s L R Φ a w hsd.1 (λp hp i hi=>hl i (hlt l p hp i hi)) SI hk ha hQ0 he hu hB (λp hp=>by simpa using List.all_eq_true.1 hnr p hp)
 | .a11 C dl B sH l :: rest,listed,s,L,R,Φ,a,w,ho,h,ha,he,hu=>by
  simp only [MJ,Bool.and_eq_true] at ho
  obtain ⟨⟨⟨⟨⟨⟨⟨⟨hc0,rT⟩,hBi⟩,P2⟩,hla⟩,hnr⟩,SI⟩,hC⟩,hdr⟩:=ho
  unfold MK at h
  have hl:∀ j∈jA sH l,Region.ready .any ops ((OZ l (bH sH listed)).setIfInBounds j false)=[j]:=by
   intro j hj
   have:=List.all_eq_true.1 hla j hj
   simpa using this
  have aJN:∀ (l:List (Nat × List Nat)),∀ i∈sH,i∈jA sH l:=by
   intro l
   induction l with
   | nil=>exact λi hi=>hi
   | cons p r ih=>obtain ⟨q,T⟩:=p;exact λi hi=>List.mem_append.2 (.inr (ih i hi))
  have hlt:∀ (l:List (Nat × List Nat)),∀ p∈l,∀ i∈p.2,i∈jA sH l:=by
   intro l
   induction l with
   | nil=>intro p hp;cases hp
   | cons q r ih =>
    obtain ⟨q,T⟩:=q
    intro p hp i hi
    rcases List.mem_cons.1 hp with rfl|hp
    .exact List.mem_append.2 (.inl hi)
    .exact List.mem_append.2 (.inr (ih p hp i hi))
  have hB:∀ b∈B,(bH sH listed).getD b true=true:=λb hb=>lD sH listed (.inl (iO.1 (List.all_eq_true.1 hBi b hb)))
  obtain ⟨Q0,cF,xH,hQ0,Q1,cG,a8C,hQ1,h⟩:=h
  have hdr:dK dl (jA sH l)=false:=by simpa using hdr
  have hCw:∀ c∈C,Wt ops c dl:=λc hc=>Y2 (ops:=ops) (b:=c) _ [] (λk hk=>by cases hk) dl (iO.1 (List.all_eq_true.1 hC c hc))
  refine MA (S:=SD ops W w Q0 cF (some dl) Q1 cG B) (rd:=λj=>dK j (jA sH l)) (E:=λx=>x=OZ l (bH sH listed)/\Region.ready .any ops x=[]) (K:=λa' w'=>eJ Q .normal a' w') (λl a w1 hE hk=>⟨hE.2,hk⟩) (sH.length+Y0 l) listed a w ?_
  refine UY hsel P2 hdr hCw (λx hx=>hx.1) hD sH listed s a (λs a hk ha hu hsd=>?_) (λi hi=>aJN l i hi) (λi hi=>hl i (aJN l i hi)) rT h ha hu ⟨hc0,⟨_,hQ0 _ _ ha.ctx⟩,λ_=>rfl,λd e _=>⟨_,hQ1 _ _ ha.ctx⟩⟩
  exact MM hsel P2 hdr hD (λs L R Φ a w hk ha he hu=>hK _ _ _ _ _ _ hk ha he hu) l true _ s L R Φ a w hsd.1 (λp hp i hi=>hl i (hlt l p hp i hi)) SI hk ha hQ0 (λ_=>⟨rfl,hQ1⟩) (λp hp i hi=>hlt l p hp i hi) he hu hB (λp hp=>by simpa using List.all_eq_true.1 hnr p hp)
 | .free ord :: rest,listed,s,L,R,Φ,a,w,ho,h,ha,he,hu=>by
  simp only [MJ,Bool.and_eq_true] at ho
  obtain ⟨⟨rT,GC⟩,UX⟩:=ho
  unfold MK at h
  have hl:∀ j∈jU ord,Region.ready .any ops ((bH (ord.map (·.1)) listed).setIfInBounds j false)=[j]:=by
   intro j hj
   have:=List.all_eq_true.1 GC j hj
   simpa using this
  obtain ⟨Q0,cF,xH,hQ0,h⟩:=h
  refine xD (S:=λw'=>∃ S,Ctx W w' (Q0++S) cF) (E:=λl=>l=bH (ord.map (·.1)) listed) (K:=λa' w'=>wpAny P .any ops (eJ Q) (LP rest) (bH (ord.map (·.1)) listed) a' w') ?_ ord.length listed a w ?_
  .rintro l a w1 rfl hk;exact hk
  .exact P1 hsel hD (λs L R Φ a w hk ha he hu=>pR hsel hD hK rest _ s L R Φ a w UX hk ha he hu) ord listed s L R Φ a w hl rT rfl h ha hQ0 he hu
 | .bD T (some i) :: rest,listed,s,L,R,Φ,a,w,ho,h,ha,he,hu=>by
  simp only [MJ,Bool.and_eq_true,beq_iff_eq] at ho
  obtain ⟨⟨rT,GC⟩,h1,h2⟩:=ho
  unfold MK at h
  refine a13 hsel hD (λs a h ha hu=>?_) rT GC h ha hu
  split at h
  .exact h.elim
  rename_i o hi
  have hd:∀ t,o.dst=some t->D t:=λt ht=>hD i o t hi ht
  refine ⟨λh0=>(by rw [h1] at h0;cases h0),λj hj=>?_⟩
  rw [h1] at hj
  have hj:j=i:=by simpa using hj
  subst hj
  obtain ⟨s',cH,eE,BO⟩:=eZ hD (by assumption) ha hu
  clear h
  have h:=BO
  unfold wpOp
  simp only [hi]
  rcases h with ⟨hw,h⟩|⟨hw,h⟩
  .simp only [hw,if_true]
   have:=cH.st
   refine .inl (Oper.lF (sW h cH.BS cH.wf cH.ctx λsv L' R' aV v' w' hk hst qQ hp hc hv=>?_))
   exact pR hsel hD hK rest _ _ _ _ _ _ _ h2 hk (cH.put o.dst qQ hp hc hst hv) (he.trans qQ) (eE.xF cH.wf qQ hd)
  .simp only [hw,Bool.false_eq_true,if_false]
   exact pR hsel hD hK rest _ _ _ _ _ _ _ h2 h (cH.put o.dst (Ext.refl _) (λk o e=>by cases e) cH.ctx cH.st (λ_=>rfl)) he (eE.xF cH.wf (Ext.refl _) hd)
theorem aFA {wr d es o s L R Φ a w g ch K} (h:qS P wr d es o s L w g ch K) (hr:Rel ds es (s.fr L) a) (hwf:MF L s) (hc:jM G W w L R Φ) (hg:D4 g ↔ Holds (s.fr L) ch):
  ∃ sv,(∀ k o,sv=SV.ptr k o->(bS k L).isSome=true)/\(D4 g->∃ v,(wG (sv.val L)=false->v=sv.val L)/\∀ w',VW d w w'->o.quietAt P a (VW d w) w' v)/\K sv:=by
 have hev:=tY s L
 have old:M8 P wr d es o (s.fr L) w g ch (λv=>K (.v v))->∃ sv,(∀ k o,sv=SV.ptr k o->(bS k L).isSome=true)/\(D4 g->∃ v,(wG (sv.val L)=false->v=sv.val L)/\∀ w',VW d w w'->o.quietAt P a (VW d w) w' v)/\K sv:=by
  intro h
  obtain ⟨u,h1,h2⟩:=OM h hr hg
  exact ⟨.v u,λk o e=>(by cases e),h1,h2⟩
 unfold qS at h
 split at h
 .rename_i t x f hop
  split at h
  .rename_i k off hx
   split at h
   .rename_i hro
    obtain ⟨T,hT⟩:=Option.isSome_iff_exists.1 (hwf.ev hx)
    obtain ⟨off',h1,h2⟩:=wJ hT h
    refine ⟨.ptr k off',λk' o' e=>by cases e;rw [hT];rfl,λBO=>⟨_,λ_=>rfl,λw' hw=>?_⟩,h2⟩
    have hv:a.eval x=.pointer (some ⟨T.b,off,none⟩):=by rw [j8 hro hr (hg.1 BO),hev,fJ.val,hx,eY hT]
    unfold Oper.quietAt
    simp only [execOp,hop,hv,Sem.run_bind,h1 w',Result.andThen,Sem.run_pure,Oper.quietUpon,eY hT]
    exact ⟨trivial,trivial⟩
   .exact h.elim
  .exact old h
 .rename_i t x hop
  split at h
  .rename_i k off hx
   split at h
   .rename_i hro
    obtain ⟨T,hT⟩:=Option.isSome_iff_exists.1 (hwf.ev hx)
    obtain ⟨v,h1,h2⟩:=GH hT (hc.blk hT) h
    refine ⟨.v v,λk' o' e=>(by cases e),λBO=>⟨_,λ_=>rfl,λw' hw=>?_⟩,h2⟩
    have hv:a.eval x=.pointer (some ⟨T.b,off,none⟩):=by rw [j8 hro hr (hg.1 BO),hev,fJ.val,hx,eY hT]
    unfold Oper.quietAt
    simp only [execOp,hop,hv,Instr.loadAt,Instr.sureAddr,Sem.run_bind,Sem.run_pure,Result.andThen,h1 w' hw.heap,Oper.quietUpon]
    exact ⟨trivial,rfl⟩
   .exact h.elim
  .exact old h
 .rename_i x hop
  split at h
  .rename_i hro
   refine ⟨s.ev x,λk o e=>hwf.ev e,λBO=>⟨_,λ_=>rfl,λw' hw=>?_⟩,h⟩
   have hv:a.eval x=(s.ev x).val L:=by rw [j8 hro hr (hg.1 BO),hev];rfl
   unfold Oper.quietAt
   simp only [execOp,hop,hv,Sem.run_pure,Oper.quietUpon]
   exact ⟨trivial,trivial⟩
  .exact h.elim
 .rename_i x hop
  split at h
  .rename_i hro
   refine ⟨s.ev x,λk o e=>hwf.ev e,λBO=>⟨_,λ_=>rfl,λw' hw=>?_⟩,h⟩
   have hv:a.eval x=(s.ev x).val L:=by rw [j8 hro hr (hg.1 BO),hev];rfl
   unfold Oper.quietAt
   simp only [execOp,hop,hv,Sem.run_pure,Oper.quietUpon]
   exact ⟨trivial,trivial⟩
  .exact h.elim
 .exact old h
theorem Y6 (es s L):(zX es s).fr L=forget es (s.fr L):=by
 have key:∀ l:List (Nat × SV),sV L (zX.go es l)=mN (XL es) (sV L l):=by
  intro l
  induction l with
  | nil=>rfl
  | cons p r ih =>
   obtain ⟨t,v⟩:=p
   simp only [zX.go,sV,mN]
   cases XL es t with
   | true=>simp only [sV,ih]
   | false=>exact ih
 simp only [zX,forget,fJ.fr,key]
theorem a8D {es s L} (h:MF L s):MF L (zX es s):=by
 have key:∀ l:List (Nat × SV),∀ p∈zX.go es l,p∈l:=by
  intro l
  induction l with
  | nil=>intro p hp;exact hp
  | cons q r ih =>
   obtain ⟨t,v⟩:=q
   intro p hp
   simp only [zX.go] at hp
   cases hb:XL es t with
   | true=>rw [hb] at hp;rcases List.mem_cons.1 hp with rfl|hp;simp;exact List.mem_cons_of_mem _ (ih p hp)
   | false=>rw [hb] at hp;exact List.mem_cons_of_mem _ (ih p hp)
 exact λp hp=>h p (key _ p hp)
theorem SK {L R} {Φ:PW} {d w K Q} (hst:aB Φ) (aCB:(L.map Tr.id).Nodup) (hc:jM G W w L R Φ) (hK:∀ s a,K s->vD ds (s.fr L) a->MF L s->bU D s0 (s.fr L)->Q a):
  ∀ (l:List Oper) (es:List Ent) (s:fJ) (a:Act),(∀ o∈l,∀ t,o.dst=some t->D t)->(∀ e∈es,D e.slot/\e.slot<s.n)->qsS P wr d ops L w l es s K->Rel ds es (s.fr L) a->MF L s->bU D s0 (s.fr L)->wpQuiet P ops (VW d w) Q l a
 | [],es,s,a,_,_,h,hr,hwf,hu=>hK _ _ h (by rw [Y6];exact hr.done) (a8D hwf) (by rw [Y6];exact UM hu)
 | o :: rest,es,s,a,hl,he,h,hr,hwf,hu=>by
  have hl':∀ o∈rest,∀ t,o.dst=some t->D t:=λo ho=>hl o (List.mem_cons_of_mem _ ho)
  unfold qsS at h
  split at h
  .rename_i g ch t hgd ht
   split at h
   .rename_i hcd
    simp only [Bool.and_eq_true] at hcd
    obtain ⟨h1,h2,h3⟩:=LI hgd hr
    obtain ⟨sv,hp,h4,h5⟩:=aFA h hr hwf hc h2
    have hd:D t:=hl o (by simp) t ht
    have htn:t<s.n:=by have:=hcd.2;rwa [Nat.blt_eq] at this
    have he':∀ e∈(⟨t,g,ch⟩:Ent) :: es,D e.slot/\e.slot<(s.put (some t) sv).n:=λe hx=>by
     have hn:(s.put (some t) sv).n=s.n:=by unfold fJ.put;simp only;split<;>rfl
     rw [hn]
     rcases List.mem_cons.1 hx with rfl|hx
     .exact ⟨hd,htn⟩
     .exact he e hx
    have eE:bU D s0 ((s.put (some t) sv).fr L):=hu.xF hwf (Ext.refl _) (λt' e=>by cases e;exact hd)
    have hwf':MF L (s.put (some t) sv):=hwf.put hp
    unfold wpQuiet
    by_cases BO:D4 g
    .rw [if_pos (h1.2 BO)]
     obtain ⟨v,h6,h7⟩:=h4 BO
     refine ⟨v,h7,?_⟩
     rw [ht]
     exact SK hst aCB hc hK rest _ _ _ hl' he' h5 (by rw [XW];exact hr.put hcd.1 htn h2 h3 (λ_=>h6) (λhn=>absurd BO hn)) hwf' eE
    .rw [if_neg (λhw=>BO (h1.1 hw)),ht]
     exact SK hst aCB hc hK rest _ _ _ hl' he' h5 (by rw [XW];exact hr.put hcd.1 htn h2 h3 (λhh=>absurd hh BO) (λ_=>rfl)) hwf' eE
   .exact h.elim
  .exact h.elim
end
end Go.Vc
end

section
namespace Go.Vc
open Go.RowKit
def jV (rd:Option Nat):Fence:={ Fence.wide with round:=rd }
def UZ (Q:Exit->Act->World->Prop):Exit->Act->World->Prop
 | .normal,a,w=>Q .normal a w
 | _,_,_=>False
theorem a15 {Q}:∀ e a w,UZ Q e a w->Q e a w:=λe a w h=>by
 cases e<;>first|exact h|exact h.elim
theorem a8E {Q}:¬ LetsOut (UZ Q):=λ⟨_,_,h⟩=>h
def MN (o:Oper):Bool:=match o.op with | .defer _=>false|_=>true
def sY:List Oper->Bool
 | []=>true
 | o :: r=>MN o&&sY r
theorem xI:∀ {l:List Oper},sY l=true->∀ o∈l,MN o=true
 | [],_,o,ho=>by cases ho
 | p :: r,h,o,ho=>by
  simp only [sY,Bool.and_eq_true] at h
  rcases List.mem_cons.1 ho with rfl|ho
  .exact h.1
  .exact xI h.2 o ho
def mP:Code->Bool
 | .region _ ops _=>sY ops.toList
 | .seq x y=>mP x&&mP y
 | .cond _ x y=>mP x&&mP y
 | .block _ b=>mP b
 | .loop b=>mP b
 | .rangeFunc _ _ _ _=>false
 | .scope _=>false
 | _=>true
section
variable {P:Program} {b:Frame} {a:Act} {k:List Item} {cs:List Frame} {w:World} {F:Fence} {n:Nat} {Q:Exit->Act->World->Prop}
theorem qC {c}:step P (lone (b.atR a (.code (.scope c) :: k)) cs w)=.next (lone (b.atR a (.code c :: .inScope c :: k)) cs w) :=
 step_lone_go (by simp [stepG,stepG.exec,Frame.atR])
theorem a07 {c}:step P (lone (b.atR a (.inScope c :: k)) cs w)=.next (lone (b.atR a k) cs w) :=
 step_lone_go (by simp [stepG,stepG.exec,Frame.atR])
theorem a8F {c:Code} (h:c.wpIn F n P (λe a w=>match e with | .goto _=>False|e=>Q e a w) a w):(Code.scope c).wpIn F n P Q a w:=by
 intro b k cs hro hb hr
 have h0:(lone (b.atR a (.code (.scope c) :: k)) cs w).fenced P F:=fenced_calm hb hr rfl
 obtain ⟨e,a₁,w₁,hq,aCD⟩:=h b (.inScope c :: k) cs hro hb hr
 cases e with
 | normal=>exact ⟨.normal,a₁,w₁,hq,.head h0 qC (StepsIn.trans aCD (.one (fenced_calm hb hr rfl) a07))⟩
 | exit id =>
  have hx:exitTo id (.inScope c :: k)=exitTo id k:=by simp [exitTo]
  exact ⟨.exit id,a₁,w₁,hq,λk' hk=>.head h0 qC (aCD.1 k' (by rw [hx];exact hk)),
   λhr' hk=>let ⟨k₁,h1,h2⟩:=aCD.2 hr' (by rw [hx];exact hk);⟨k₁,h1,.head h0 qC h2⟩⟩
 | goto l=>exact hq.elim
 | ret=>exact ⟨_,a₁,w₁,hq,.of_steps (.one h0 qC) aCD⟩
 | panic ch=>exact ⟨_,a₁,w₁,hq,.of_steps (.one h0 qC) aCD⟩
 | outgrown=>exact ⟨_,a₁,w₁,hq,.of_steps (.one h0 qC) aCD⟩
end
section
variable {P:Program} {rd:Option Nat} {ops:Array Oper} {Q:Exit->Act->World->Prop}
theorem aBd {o a w K K'} (hd:rd.isSome=true->MN o=true) (hQ:¬ LetsOut Q) (hK:∀ a w,K a w->K' a w) (h:o.wp P a w K Q):o.wpIn (jV rd) 0 P a w K' Q:=by
 refine ⟨λ_ _=>trivial,?_⟩
 have e:o.semAt rd a.eval=execOp a.eval o:=by
  cases rd with
  | none=>rfl
  | some l=>exact Oper.semAt_eq _ _ _ λc hc=>(by have:=hd rfl;rw [MN,hc] at this;cases this)
 unfold Oper.wp at h
 show o.uponIn (jV rd) 0 P a K' Q ((o.semAt rd a.eval).run P w)
 rw [e]
 generalize (execOp a.eval o).run P w=r at h
 cases r with
 | ok n w' =>
  cases n<;>simp only [Oper.upon,Oper.uponIn] at h ⊢
  case value v=>exact hK _ _ h
  case skip=>exact hK _ _ h
  case defer d=>exact hK _ _ h
  case enter f args => 
   refine ⟨λhh=>(by cases hh),?_⟩
   have:=(callsIn_wide (n:=0)).2 h
   exact CallsIn.mono (F:=jV rd) this λe w'' he=>by cases e<;>first|exact hK _ _ he|exact he
  case row row args =>
   refine ⟨λhh=>(by cases hh),λc cs hr=>?_⟩
   obtain ⟨v,w'',h1,h2⟩:=h c cs
   exact ⟨v,w'',hK _ _ h1,stepsIn_wide.2 h2⟩
 | halt x w'=>cases x<;>simp only [Oper.upon,Oper.uponIn] at h ⊢ <;> exact h
theorem aBe (hQ:¬ LetsOut Q):∀ (l:List Oper) (a:Act) (w:World),(rd.isSome=true->∀ o∈l,MN o=true)->wpList P ops Q l a w->wpListIn (jV rd) 0 P ops Q l a w
 | [],a,w,_,h=>h
 | o :: r,a,w,hd,h=>by
  have ih:=aBe hQ r
  unfold wpList at h
  unfold wpListIn
  split
  .rename_i hw
   rw [if_pos hw] at h
   rcases h with h|h
   .exact aBd (λhh=>hd hh o (by simp)) hQ (λa w h=>ih a w (λhh o ho=>hd hh o (List.mem_cons_of_mem _ ho)) h) h
   .exact absurd h.2 hQ
  .rename_i hw
   rw [if_neg hw] at h
   exact ⟨λ_ _=>trivial,ih _ _ (λhh o ho=>hd hh o (List.mem_cons_of_mem _ ho)) h⟩
theorem aRA (hQ:¬ LetsOut Q) (hd:rd.isSome=true->∀ o∈ops.toList,MN o=true) {i a w K K'} (hK:∀ a w,K a w->K' a w) (h:wpOp P ops Q i K a w):wpOpIn (jV rd) 0 P ops Q i K' a w:=by
 unfold wpOp at h
 unfold wpOpIn
 cases ho:ops[i]? with
 | none=>rw [ho] at h;exact hK _ _ h
 | some o =>
  rw [ho] at h
  simp only at h ⊢
  split
  .rename_i hw
   rw [if_pos hw] at h
   rcases h with h|h
   .exact aBd (λhh=>hd hh o (by simpa using Array.mem_of_getElem? ho)) hQ hK h
   .exact absurd h.2 hQ
  .rename_i hw
   rw [if_neg hw] at h
   exact ⟨λ_ _=>trivial,hK _ _ h⟩
theorem aFB {md} (hQ:¬ LetsOut Q) (hd:rd.isSome=true->∀ o∈ops.toList,MN o=true):∀ (n:Nat) (listed:Array Bool) (a:Act) (w:World),wpAny P md ops Q n listed a w->wpAnyIn (jV rd) 0 P md ops Q n listed a w
 | 0,_,_,_,h=>h
 | n+1,listed,a,w,h=>⟨h.1,λi hi=>aRA hQ hd (λa w h=>aFB hQ hd n _ a w h) (h.2 i hi)⟩
theorem a5D {id a w} (hd:rd.isSome=true->sY ops.toList=true) (h:wpList P ops (UZ Q) ops.toList a w):(Code.region id ops false).wpIn (jV rd) 0 P Q a w :=
 wpIn_mono (wpIn_region_list (aBe a8E _ _ _ (λhh=>xI (hd hh)) h)) a15
theorem aBf {id a w} (hd:rd.isSome=true->sY ops.toList=true) (hm:P.follows .mixedOrders=true) (h:wpAny P .any ops (eJ (UZ Q)) ops.size (Array.replicate ops.size false) a (w.drewN 1)):
  (Code.region id ops true).wpIn (jV rd) 0 P Q a w :=
 wpIn_mono (wpIn_region_any hm (aFB (λ⟨_,_,h⟩=>h) (λhh=>xI (hd hh)) _ _ _ _ h)) λe a w h=>a15 _ _ _ (a1U _ _ _ h)
theorem aCE {id a w} (hd:rd.isSome=true->sY ops.toList=true) (hm:P.follows .mixedOrders=true) (hB:Region.lexB .any ops=true) (h:wpQuiet P ops (λw'=>∃ n,w'=w.drewN n) (λa'=>∀ w',(∃ n,w'=w.drewN n)->Q .normal a' w') ops.toList a):(Code.region id ops true).wpIn (jV rd) 0 P Q a w:=by
 refine aBf hd hm ?_
 simp only [Region.lexB,Bool.and_eq_true] at hB
 refine wpAny_of_quiet (C:=λw'=>∃ n,w'=w.drewN n) (Q':=eJ (UZ Q)) (Q:=λa'=>∀ w',(∃ n,w'=w.drewN n)->Q .normal a' w') (λ_ w' hw' h=>h w' hw') _ _ _ _ ⟨1,rfl⟩ ?_
 have:=wpAnyQ_lex (C:=λw'=>∃ n,w'=w.drewN n) (md:=.any) hB.1 ops.toList 0 (Array.replicate ops.size false) a (by simp) (by simpa using hB.2) h
 simpa using this
end
def mark (D:Nat):Deferred:={ target:=.collected D,args:=#[] }
def EU (D:Nat):Own:=.obj D (.deferred (some []))
def Tie (rd:Option Nat) (ds:List Deferred) (G:List Own) (ds':List Deferred) (G':List Own):Prop :=
 ∃ Z:List Nat,(rd.isSome=true->Z=[])/\ds'=Z.map mark++ds/\G'=Z.map EU++G
theorem Tie.refl (rd ds G):Tie rd ds G ds G:=⟨[],λ_=>rfl,rfl,rfl⟩
theorem Tie.trans {rd ds ds1 ds2 G G1 G2} (h:Tie rd ds G ds1 G1) (k:Tie rd ds1 G1 ds2 G2):Tie rd ds G ds2 G2:=by
 obtain ⟨Z,h1,rfl,rfl⟩:=h
 obtain ⟨Y,k1,rfl,rfl⟩:=k
 exact ⟨Y++Z,λhh=>by rw [h1 hh,k1 hh];rfl,by simp,by simp⟩
theorem P3 {P fn tmps Rr W} {Φ:PW} [aB Φ]:∀ (Z:List Nat) (S:List Own) (w:World),Ctx W w (S++Z.map EU) Φ ->
  (∀ w' S',Ctx W w' (S++S') Φ->LeavesIn Fence.wide 0 P fn tmps Rr [] .returning w')->LeavesInM Fence.wide 0 P fn tmps Rr (Z.map mark) .returning w
 | [],S,w,c,h=>h w [] c
 | D :: Z,S,w,c,h=>by
  refine ⟨by simp,.inl ⟨D,DC w D (.deferred none),rfl,run_takeDeferred (c.own (EU D) (by simp)),?_⟩⟩
  have hk:(S++(D :: Z).map EU)[S.length]? = some (.obj D (.deferred (some []))):=by
   rw [List.getElem?_append_right (Nat.le_refl _)];simp [EU]
  have c2:=c.putObj S.length (.deferred none) hk
  have e:(S++(D :: Z).map EU).set S.length (.obj D (.deferred none))=(S++[Own.obj D (.deferred none)])++Z.map EU:=by
   rw [List.set_append_right _ _ (Nat.le_refl _)];simp
  rw [e] at c2
  exact P3 Z _ _ c2 λw' S' c'=>h w' (Own.obj D (.deferred none) :: S') (by simpa using c')
def Iter (P:Program) (gf:Nat) (lb:Array Value) (N:Nat) (xs:Nat->Array Value) (X:World->Prop):Prop :=
 ∀ (l:Nat) (J:Nat->World->Prop) (W:World),(∀ k W1,J k W1->X W1) ->
  (∀ k W1,J k W1->k<N->YieldAt Fence.wide 0 P l (xs k) W1 λe W'=>e=.returned (.bool true)/\J (k+1) W')->J 0 W ->
  CallsIn Fence.wide 0 P gf (#[.func (.yield l) #[] #[]]++lb) W λe W'=>(∃ v,e=.returned v)/\J N W'
theorem aFC {P:Program} {W:World} {g:Operand} {ps:Array Tmp} {assign body:Code} {Q:Exit->Act->World->Prop} {a:Act} {w:World} {gf:Nat} {lb:Array Value} {N:Nat} {xs:Nat->Array Value} {X:World->Prop} {G:List Own} (hg:a.eval g=.func (.func gf) #[] lb) (eg:∀ args w,(callFunc gf args).run P w=.ok (.enter gf args) w) (hit:Iter P gf lb N xs X) (hps:∀ k,k<N->(xs k).size=ps.size) (Inv:Nat->List Own->World->Prop) (aJO:∀ k Gx w1,Inv k Gx w1->∃ S Φ,aB Φ/\Ctx W w1 (S++Gx) Φ/\∀ w2 Gy,Ctx W w2 (S++Gy) Φ->Inv k Gy w2) (hX:∀ k Gx w1,Inv k Gx w1->X w1) (h0:Inv 0 G w) (aNL:∀ l k Gx w1,k<N->Inv k Gx w1->assign.wpIn (jV (some l)) 0 P (Exit.then (λa1 w2=>∃ S Φ,aB Φ/\Ctx W w2 (S++Gx) Φ/\∀ w3 Gx3,Ctx W w3 (S++Gx3) Φ->body.wpIn (jV (some l)) 0 P (λe _ w4=>e=.normal/\Inv (k+1) Gx3 w4) a1 w3) (λ_ _ _=>False))
   { tmps:=(ps.zip (xs k)).foldl (λt (p,v)=>t.setIfInBounds p v) a.tmps,defers:=[] } w1) (aRB:∀ D w',Inv N (EU D :: G) w'->Q .normal { a with defers:=mark D :: a.defers } w'):
  (Code.rangeFunc g ps assign body).wpIn (jV none) 0 P Q a w:=by
 refine wpIn_rangeFunc ?_
 intro fn hfn
 show ∃ l mark w₁ d w₁' f args w₂,(Instr.enterLoop fn a.tmps ps assign body none).run P w=_/\_
 obtain ⟨rec,Y7⟩:∃ rec:LoopState->Option Code->Loop,rec=λst pe=>{ state:=st,pending:=pe,fn,tmps:=a.tmps,params:=ps,assign,body,defers:=w.heap.size }:=⟨_,rfl⟩
 obtain ⟨W1,hW1⟩:∃ W1,(w.alloc (.deferred (some []))).alloc (.loop (rec .ready none))=W1:=⟨_,rfl⟩
 obtain ⟨l,hl⟩:∃ l,w.heap.size+1=l:=⟨_,rfl⟩
 have rl:∀ st:LoopState,Own.obj l (.loop (rec st none))=Own.obj l (.loop (rec st none)):=λ_=>rfl
 let gh:=λ(st:LoopState)=>Own.obj l (.loop (rec st none)) :: EU w.heap.size :: G
 have turn:∀ {k:Nat} {st st':LoopState} {S:List Own} {Φ:PW} {w1:World},aB Φ->Ctx W w1 (S++gh st) Φ->Ctx W (w1.putObj l (.loop (rec st' none))) (S++gh st') Φ:=by
  intro k st st' S Φ w1 hs c
  have hk:(S++gh st)[S.length]? = some (.obj l (.loop (rec st none))):=by rw [List.getElem?_append_right (Nat.le_refl _)];simp [gh]
  have c2:=c.putObj S.length (.loop (rec st' none)) hk
  have e:(S++gh st).set S.length (.obj l (.loop (rec st' none)))=S++gh st':=by rw [List.set_append_right _ _ (Nat.le_refl _)];simp [gh]
  rw [e] at c2
  exact c2
 have start:Inv 0 (gh .ready) W1:=by
  obtain ⟨S,Φ,hs,c,hn⟩:=aJO 0 G w h0
  refine hn _ _ ?_
  have c1:=c.newObj (o:=.deferred (some [])) rfl
  have c2:=c1.newObj (o:=.loop (rec .ready none)) rfl
  rw [hW1,World.size_alloc,hl] at c2
  refine c2.perm ?_
  simp only [gh,EU]
  exact (List.Perm.cons _ List.perm_middle.symm).trans List.perm_middle.symm
 have aNM:∀ {k:Nat} {st:LoopState} {w1:World},Inv k (gh st) w1->w1.heap[l]? = some (.loop (rec st none)):=by
  intro k st w1 hi
  obtain ⟨S,Φ,hs,c,_⟩:=aJO _ _ _ hi
  exact c.own (.obj l (.loop (rec st none))) (by simp [gh])
 refine ⟨l,[mark w.heap.size],W1,{ target:=.fn (.func gf) lb,args:=#[.func (.yield l) #[] #[]] },W1,gf,#[.func (.yield l) #[] #[]]++lb,W1,?_,?_,λ_ _=>trivial,?_,λh=>(by cases h),?_⟩
 .rw [<-hW1,Y7,<-hl];exact run_enterLoop_outer _ _ _ _ _
 .simp only [resolve,hg]
  simp [go_sem]
 .simp [invoke,go_sem,eg]
 .refine CallsIn.mono (F:=jV none) (hit l (λk W'=>Inv k (gh .ready) W') W1 (λk W2 h=>hX k _ W2 h) ?_ start) ?_
  .intro k W2 hi hk
   have hlr:=aNM hi
   have hy:=run_yield (P:=P) (args:=xs k) hlr (by rw [Y7];exact hps k hk)
   rw [Y7] at hy
   refine ⟨fn,_,assign,body,hy,roundIn_of_wpIn trivial ?_⟩
   refine wpIn_mono (aNL l k (gh .ready) W2 hk hi) ?_
   rintro e a1 w2 h
   cases e with
   | normal =>
    obtain ⟨S,Φ,hs,c,hb⟩:=h
    have h2:w2.heap[l]? = some (.loop (rec .ready none)):=c.own (.obj l (.loop (rec .ready none))) (by simp [gh])
    refine ⟨_,run_beginRound h2 (by rw [Y7]),?_⟩
    have c3:Ctx W (w2.putObj l (.loop { rec .ready none with state:=.busy })) (S++gh .busy) Φ:=by
     have:=turn (k:=k) (st':=.busy) hs c
     rw [Y7] at this ⊢
     exact this
    refine wpIn_mono (hb _ _ c3) ?_
    rintro e a4 w4 ⟨rfl,h4⟩
    have h5:=aNM h4
    refine ⟨_,_,run_endRound none h5,rfl,?_⟩
    obtain ⟨S,Φ,hs,c,hn⟩:=aJO _ _ _ h4
    have:=turn (k:=k) (st':=.ready) hs c
    refine hn _ _ ?_
    rw [Y7] at this ⊢
    exact this
   | _=>exact h.elim
  .rintro e W3 ⟨⟨v,rfl⟩,hi⟩
   have h5:=aNM hi
   have hend:=run_endLoop (P:=P) h5 (by rw [Y7];simp)
   rw [Y7] at hend
   refine ⟨none,_,hend,?_⟩
   refine aRB _ _ ?_
   obtain ⟨S,Φ,hs,c,hn⟩:=aJO _ _ _ hi
   have:=turn (k:=N) (st':=.exhausted) hs c
   refine hn _ _ ?_
   have h7:=this.sub (S':=S++(EU w.heap.size :: G)) (List.Sublist.append (List.Sublist.refl _) (List.sublist_cons_self _ _))
   rw [Y7] at h7
   exact h7
end Go.Vc
end

