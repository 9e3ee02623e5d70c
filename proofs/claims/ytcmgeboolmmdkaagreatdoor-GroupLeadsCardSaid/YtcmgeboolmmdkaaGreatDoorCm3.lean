/-
 .. it suffices: regions,code,functions.
-/
import Derived.Test.YtcmgeboolmmdkaaGreatDoorCm2
import Derived.RangeFuncRecord
import Derived.RangeFuncSeq
import Derived.OrdersIn
import Derived.TacticsIn

set_option linter.unusedVariables false
set_option linter.unusedSimpArgs false
section
namespace Go.Vc
variable {G:List Own}
variable {ds:List Deferred}
open Go.RowKit
structure dI(ds:List Deferred)(G:List Own)(W:World)(s:ai)(L:List aM)(R:List Own)(Φ:θ)(a:Act)(w:World):Prop where
 fT:ku ds (s.fr L) a
 wf:ij L s
 ids:(L.map aM.id).Nodup
 ctx:eZ G W w L R Φ
 st:O Φ
theorem dI.put{W s L L' R R' Φ η a w w'}(h:dI ds G W s L R Φ a w){sv v}(d)(he:Ext L L')(hp:∀ k o,sv=bk.ptr k o->(bl k L').isSome=true)(hc:eZ G W w' L' R' η)(hst:O η)(hv:fG (sv.val L')=false->v=sv.val L'):dI ds G W (s.put d sv) L' R' η (a.put d v) w' :=
 ⟨by rw [LH,h.wf.fr he];exact h.fT.put d hv,(h.wf.ext he).put hp,he.ids h.ids,hc,hst⟩
theorem bn.o5{D s0 s L L' sv}{d:Option Tmp}(h:bn D s0 (s.fr L))(hwf:ij L s)(he:Ext L L')(hd:∀ t,d=some t->D t):bn D s0 ((s.put d sv).fr L'):=by
 rw [LH,hwf.fr he];exact h.put hd _
def cellsOf:fB->List aM->List Value
 | [],_=>[]
 | (k,_) :: r,L=>(match bl k L with|some T=>.agg T.cs.toArray|none=>zG) :: cellsOf r L
def yz(k:Nat):fB->List Value->Option (List Value)
 | (j,_) :: r,v :: vs=>match Nat.beq j k with
  | true=>some v.cells.toList
  | false=>yz k r vs
 | _,_=>none
def jZ(ts:fB)(us:List Value):List aM->List aM
 | []=>[]
 | T :: r=>(match yz T.id ts us with
  | some cs=>⟨T.id,T.b,Nat.succ T.oZ,cs,T.t⟩
  | none=>T) :: jZ ts us r
def sH(ts:fB)(L':List aM):List aM->Bool
 | []=>true
 | T :: r=>match c6 T.id (ts.map (·.1)) with
  | true=>sH ts L' r
  | false=>match bl T.id L' with
   | some e7=>match Nat.beq e7.oZ T.oZ with|true=>sH ts L' r|false=>false
   | none=>false
theorem Wy{ts us k T}:∀ {L:List aM},bl k L=some T->∃ e7,bl k (jZ ts us L)=some e7/\e7.b=T.b/\e7.t=T.t/\T.oZ<=e7.oZ/\(e7.oZ=T.oZ->e7.cs=T.cs)/\(yz k ts us=none->e7.cs=T.cs)/\(∀ cs,yz k ts us=some cs->e7.cs=cs)
 | [],h=>by cases h
 | jh :: r,h=>by
  unfold bl at h;simp only [jZ];cases hb:Nat.beq jh.id k with
  | true =>
   rw [hb] at h;cases h;have hid:=Nat.eq_of_beq_eq_true hb;unfold bl;cases hp:yz T.id ts us with
   | some cs =>
    simp only [hb];rw [hid] at hp;exact ⟨_,rfl,rfl,rfl,Nat.le_succ _,λe=>absurd e (Nat.succ_ne_self _),λe=>(by rw [hp] at e;cases e),λcs' e=>by rw [hp] at e;cases e;rfl⟩
   | none =>
    simp only [hb];rw [hid] at hp;exact ⟨_,rfl,rfl,rfl,Nat.le_refl _,λ_=>rfl,λ_=>rfl,λcs' e=>by rw [hp] at e;cases e⟩
  | false =>
   rw [hb] at h;have ih:=Wy (ts:=ts) (us:=us) h;unfold bl;cases hp:yz jh.id ts us with
   | some cs=>simp only [hb];exact ih
   | none=>simp only [hb];exact ih
theorem IF(ts us):∀ L:List aM,(jZ ts us L).map aM.b=L.map aM.b/\(jZ ts us L).map aM.id=L.map aM.id
 | []=>⟨rfl,rfl⟩
 | T :: r=>by
  have ih:=IF ts us r;simp only [jZ,List.map_cons,ih];cases yz T.id ts us<;>exact ⟨rfl,rfl⟩
theorem Wx(ts us L):Ext L (jZ ts us L) :=
 ⟨λk T h=>by obtain ⟨e7,a,b,c,d,e,_⟩:=Wy (ts:=ts) (us:=us) h;exact ⟨e7,a,b,c,d,e⟩,by rw [(IF ts us L).1];exact List.Sublist.refl _,by rw [(IF ts us L).2];exact id⟩
theorem a3w(L:List aM):dom (L.map aM.own)=L.map aM.b:=by
 induction L with
 | nil=>rfl
 | cons T r ih=>simp only [List.map_cons,dom,List.flatMap_cons] at ih ⊢;rw [ih];rfl
theorem zx(A B):dom (A++B)=dom A++dom B:=by simp [dom]
theorem a90{k:Nat}{L':List aM}:∀ {ts:fB},yz k ts (cellsOf ts L')=if c6 k (ts.map (·.1))=true then some (match bl k L' with|some T=>T.cs|none=>zG.cells.toList) else none
 | []=>rfl
 | (j,sh) :: r=>by
  simp only [cellsOf,yz,List.map_cons,c6];rw [show Nat.beq k j=Nat.beq j k by rw [Bool.eq_iff_iff,Nat.beq_eq,Nat.beq_eq];exact eq_comm];cases hb:Nat.beq j k with
  | true =>
   have:=Nat.eq_of_beq_eq_true hb;subst this;simp only [if_true];cases bl j L'<;>simp [Value.cells]
  | false=>exact a90
theorem Px{L}(hn:(L.map aM.id).Nodup):∀ {T:aM},T∈L->bl T.id L=some T:=by
 induction L with
 | nil=>intro T h;cases h
 | cons jh r ih =>
  intro T h;simp only [List.map_cons,List.nodup_cons] at hn;unfold bl;rcases List.mem_cons.1 h with rfl|h
  .rw [show Nat.beq T.id T.id=true by simp]
  .rw [show Nat.beq jh.id T.id=false by
    cases hb:Nat.beq jh.id T.id with
    | false=>rfl
    | true=>exact absurd (List.mem_map.2 ⟨T,h,(Nat.eq_of_beq_eq_true hb).symm⟩) hn.1]
   exact ih hn.2 h
theorem eZ.meet{W w L L' R}{Φ:θ}{ts}(hst:O Φ)(c:eZ G W w L' R Φ)(he:Ext L L')(Hl:(L.map aM.id).Nodup)(hs:sH ts L' L=true):eZ G W w (jZ ts (cellsOf ts L') L) R Φ:=by
 have hd':dom (R++(L'.map aM.own++G))=dom R++(L'.map aM.b++dom G):=by rw [zx,zx,a3w]
 have hd:dom (R++((jZ ts (cellsOf ts L') L).map aM.own++G))=dom R++(L.map aM.b++dom G):=by rw [zx,zx,a3w,(IF ts _ L).1]
 have hsub:(dom R++(L.map aM.b++dom G)).Sublist (dom R++(L'.map aM.b++dom G)):=List.Sublist.append (List.Sublist.refl _) (List.Sublist.append he.bs (List.Sublist.refl _));have same:∀ T∈L,c6 T.id (ts.map (·.1))=false->∃ e7,bl T.id L'=some e7/\e7.oZ=T.oZ:=by
  clear hd hd' hsub he Hl c
  induction L with
  | nil=>intro T h;cases h
  | cons jh r ih =>
   intro T hT hm;unfold sH at hs;cases QX:c6 jh.id (ts.map (·.1)) with
   | true =>
    rw [QX] at hs;rcases List.mem_cons.1 hT with rfl|hT
    .rw [hm] at QX;cases QX
    .exact ih hs T hT hm
   | false =>
    rw [QX] at hs;simp only at hs;split at hs
    .rename_i e7 hf;split at hs
     .rename_i hv;rcases List.mem_cons.1 hT with rfl|hT
      .exact ⟨e7,hf,Nat.eq_of_beq_eq_true hv⟩
      .exact ih hs T hT hm
     .cases hs
    .cases hs
 refine Ctx.go c ⟨bZ.refl _ _,λb hb=>.inl (by rw [hd] at hb;rw [hd'];exact hsub.subset hb)⟩ (λo ho=>?_) (by rw [hd];have:=c.nodup;rw [hd'] at this;exact this.sublist hsub);rcases List.mem_append.1 ho with ho|ho
 .exact c.own o (List.mem_append.2 (.inl ho))
 rcases List.mem_append.1 ho with ho|ho
 rotate_left
 .exact c.own o (List.mem_append.2 (.inr (List.mem_append.2 (.inr ho))))
 .obtain ⟨V,hV,rfl⟩:=List.mem_map.1 ho;have aKa:((jZ ts (cellsOf ts L') L).map aM.id).Nodup:=by rw [(IF ts _ L).2];exact Hl
  have hf:=Px aKa hV;have hex:V.id∈L.map aM.id:=by rw [<-(IF ts (cellsOf ts L') L).2];exact List.mem_map.2 ⟨V,hV,rfl⟩
  obtain ⟨T,hT,VD⟩:=List.mem_map.1 hex;have VS:=Px Hl hT;rw [VD] at VS;obtain ⟨aSh,g1,g2,g3,_,_,g6,g7⟩:=Wy (ts:=ts) (us:=cellsOf ts L') VS;rw [hf] at g1;cases g1;obtain ⟨T1,k1,k2,b8,cQ,gB⟩:=he.old V.id T VS;have hb:=c.blk k1;have hcs:V.cs=T1.cs:=by
   rw [a90] at g6 g7;cases hm:c6 V.id (ts.map (·.1)) with
   | true =>
    rw [if_pos hm,k1] at g7;exact g7 _ rfl
   | false =>
    rw [if_neg (by rw [hm];simp)] at g6;rw [g6 rfl];obtain ⟨T2,q1,bP⟩:=same T hT (by rw [VD];exact hm);rw [VD,k1] at q1;cases q1;exact (gB bP).symm
  show dc w V.b V.cs V.t;rw [g2,<-k2,g3,<-b8,hcs];exact hb
theorem Wz:∀ L:List aM,jZ [] [] L=L
 | []=>rfl
 | T :: r=>by simp only [jZ,yz,Wz r]
def Wm(s:Fr)(d:Option Tmp):Bool :=
 match d with
 | some d=>(match mE d s.l with | .tuple vs=>(match vs.toList with | []=>Nat.blt d s.n|_=>false)|_=>false)
 | none=>false
theorem aMn{s a}(h:ku ds s a){d}(hc:Wm s d=true):∃ k,d=some k/\k<a.tmps.size/\a.tmps.getD k undef=.tuple #[]:=by
 unfold Wm at hc;split at hc
 .rename_i k;split at hc
  .rename_i vs hv;split at hc
   .rename_i hvs;have hlt:k<s.n:=by simpa using hc
    have e:vs=#[]:=by cases vs;simp_all
    subst e;have hg:s.get k=.tuple #[]:=hv;exact ⟨k,rfl,by rw [h.size];exact hlt,by rw [h.slot k (by rw [hg];rfl),hg]⟩
   .cases hc
  .cases hc
 .cases hc
def uf(ops:Array Oper)(o:Oper)(s:ai)(L:List aM)(go skip:ai->Prop):Prop :=
 match o.guard with
 | none=>go s
 | some (j,want) =>
  match Td (s.fr L) ((ops[j]?).bind (·.dst)) with
  | some c=>γ c (match true == want with
    | true=>go (s.put ((ops[j]?).bind (·.dst)) (.v (.bool true)))
    | false=>skip (s.put ((ops[j]?).bind (·.dst)) (.v (.bool true))))
   (match false == want with
    | true=>go (s.put ((ops[j]?).bind (·.dst)) (.v (.bool false)))
    | false=>skip (s.put ((ops[j]?).bind (·.dst)) (.v (.bool false))))
  | none=>match Wm (s.fr L) ((ops[j]?).bind (·.dst)) with
   | true=>skip s
   | false=>False
theorem wq{W ops o s L R Φ a w go skip D s0}(hD:∀ (j:Nat) (o:Oper) (t:Nat),ops[j]? = some o->o.dst=some t->D t)(h:uf ops o s L go skip)(ha:dI ds G W s L R Φ a w)(hu:bn D s0 (s.fr L)):
  ∃ s',dI ds G W s' L R Φ a w/\bn D s0 (s'.fr L)/\((Region.wanted o (yielded ops a.tmps)=true/\go s')\/(Region.wanted o (yielded ops a.tmps)=false/\skip s')):=by
 unfold uf at h;split at h
 .rename_i hg;exact ⟨s,ha,hu,.inl ⟨by simp [Region.wanted,hg],h⟩⟩
 .rename_i j want hg;split at h
  .rename_i c hc;obtain ⟨k,hk,hlt,hv,F7⟩:=aGv ha.fT hc;have hy:yielded ops a.tmps j=some c:=by
    unfold yielded;rw [hk];simp only [Option.bind_some];rw [Array.getD_eq_getD_getElem?] at hv;simp only [hlt,getElem?_pos,Option.getD_some] at hv;simp [hlt,hv]
   have hw:Region.wanted o (yielded ops a.tmps)=(c == want):=by simp [Region.wanted,hg,hy]
   have aC:dI ds G W (s.put ((ops[j]?).bind (·.dst)) (.v (.bool c))) L R Φ a w:=by
    have:=ha.put ((ops[j]?).bind (·.dst)) (sv:=.v (.bool c)) (v:=.bool c) (Ext.refl L) (λk o e=>by cases e) ha.ctx ha.st (λ_=>rfl);rw [hk] at this ⊢
    rwa [aOc hlt hv] at this
   have bF:bn D s0 ((s.put ((ops[j]?).bind (·.dst)) (.v (.bool c))).fr L):=hu.o5 ha.wf (Ext.refl L) (by
    intro t ht;cases hj:ops[j]? with
    | none=>simp [hj] at ht
    | some oj=>rw [hj] at ht;exact hD j oj t hj ht)
   refine ⟨_,aC,bF,?_⟩;rw [hw];cases c
   .simp only [γ] at h;cases CC:false == want with
    | true=>rw [CC] at h;exact .inl ⟨rfl,h⟩
    | false=>rw [CC] at h;exact .inr ⟨rfl,h⟩
   .simp only [γ] at h;cases CC:true == want with
    | true=>rw [CC] at h;exact .inl ⟨rfl,h⟩
    | false=>rw [CC] at h;exact .inr ⟨rfl,h⟩
  .split at h
   .rename_i hl;obtain ⟨k,hk,hlt,hv⟩:=aMn ha.fT hl;have hy:yielded ops a.tmps j=none:=by
     unfold yielded;rw [hk];simp only [Option.bind_some];rw [Array.getD_eq_getD_getElem?] at hv;simp only [hlt,getElem?_pos,Option.getD_some] at hv;simp [hlt,hv]
    exact ⟨s,ha,hu,.inr ⟨by simp [Region.wanted,hg,hy],h⟩⟩
   .exact h.elim
section
variable (P:Program)(W:World)
def Mi(wr iN:Nat->Bool)(ops:Array Oper):List Oper->ai->List aM->List Own->θ->(ai->List aM->List Own->θ->Prop)->Prop
 | [],s,L,R,Φ,K=>K s L R Φ
 | o :: rest,s,L,R,Φ,K=>uf ops o s L
   (λs=>Cn P W (wr (o.dst.getD 0)) (iN (o.dst.getD 0)) (λi=>C2 o.dst i ops.toList) o s L R Φ λv L R Φ=>Mi wr iN ops rest (s.put o.dst v) L R Φ K)
   (λs=>Mi wr iN ops rest (s.put o.dst (.v undef)) L R Φ K)
def NH(wr:Bool)(o:Oper)(s:ai)(L:List aM)(R:List Own)(Φ:θ)(K:bk->Prop):Prop :=
 match o.op with
 | .pick c x U=>match s.val L c with
  | .bool b=>γ b (K (s.ev x)) (K (s.ev U))
  | _=>False
 | _=>match FV (s.fr L) o&&yq o with
  | true=>tZ (cj P W wr o s L R Φ K)
  | false=>False
def D1(wr:Nat->Bool)(ops:Array Oper)(L:List aM)(R:List Own)(Φ:θ):List Nat->ai->(ai->Prop)->Prop
 | [],s,K=>K s
 | i :: r,s,K=>match ops[i]? with
  | none=>False
  | some o=>uf ops o s L (λs=>NH P W (wr (o.dst.getD 0)) o s L R Φ λv=>D1 wr ops L R Φ r (s.put o.dst v) K) (λs=>D1 wr ops L R Φ r (s.put o.dst (.v undef)) K)
def AF(o:Oper)(s:ai)(L:List aM)(K:bk->Prop):Bool :=
 match o.op with
 | .load _ x=>match s.ev x with | .ptr _ _=>false | .v _=>true
 | .move _ | .assign _ | .nilCheck _ | .fieldAddr .. | .indexAddr .. => false
 | _=>mF P o (s.val L) λv=>K (.v v)
def Qd(wr:Bool)(o:Oper)(s:ai)(L:List aM)(aF:List Own)(aA:θ)(K:bk->Prop):Prop :=
 match o.op with
 | .pick c x U=>match s.val L c with
  | .bool b=>γ b (K (s.ev x)) (K (s.ev U))
  | _=>False
 | _=>match FV (s.fr L) o&&yq o with
  | true=>match AF P o s L K with
   | true=>zA P o.type λv=>(∀ w S,Ctx W w (aF++S) aA->tZ (o6 P wr o (s.val L) w none λu=>u=v))/\K (.v v)
   | false=>tZ (cj P W wr o s L [] aA K)
  | false=>False
def hS(wr:Nat->Bool)(ops:Array Oper)(L:List aM)(aF:List Own)(aA:θ):List (Nat × Bool)->ai->List Own->θ->(ai->List Own->θ->Prop)->Prop
 | [],s,R,Φ,K=>K s R Φ
 | (i,still) :: r,s,R,Φ,K=>match ops[i]? with
  | none=>False
  | some o=>uf ops o s L
    (λs=>match still with
     | true=>Qd P W (wr (o.dst.getD 0)) o s L aF aA λv=>hS wr ops L aF aA r (s.put o.dst v) R Φ K
     | false=>Cn P W (wr (o.dst.getD 0)) false (λi=>C2 o.dst i ops.toList) o s L R Φ λv L' R' η=>match v,sH [] L' L with
      | .v x,true=>(∀ w F,Ctx W w (R'++F) η->Ctx W w (aF++F) aA)/\hS wr ops L aF aA r (s.put o.dst (.v x)) R' η K
      | _,_=>False)
    (λs=>hS wr ops L aF aA r (s.put o.dst (.v undef)) R Φ K)
def Ie(wr:Bool)(o:Oper)(s:ai)(L:List aM)(aF:List Own)(aA:θ)(K:bk->Prop):Prop :=
 match o.op with
 | .pick c x U=>match s.val L c with
  | .bool b=>γ b (K (s.ev x)) (K (s.ev U))
  | _=>False
 | .load _ x=>match s.ev x with
  | .ptr _ _=>False
  | .v _=>match FV (s.fr L) o&&yq o with
   | true=>zA P o.type λv=>(∀ w S,Ctx W w (aF++S) aA->tZ (o6 P wr o (s.val L) w none λu=>u=v))/\K (.v v)
   | false=>False
 | _=>match FV (s.fr L) o&&yq o with
  | true=>match AF P o s L K with
   | true=>False
   | false=>tZ (cj P W wr o s L [] (λ_ _=>True) K)
  | false=>False
def Aj(wr:Nat->Bool)(ops:Array Oper)(L:List aM)(aF:List Own)(aA:θ):List Nat->ai->(ai->Prop)->Prop
 | [],s,K=>K s
 | i :: r,s,K=>match ops[i]? with
  | none=>False
  | some o=>uf ops o s L (λs=>Ie P W (wr (o.dst.getD 0)) o s L aF aA λv=>Aj wr ops L aF aA r (s.put o.dst v) K) (λs=>Aj wr ops L aF aA r (s.put o.dst (.v undef)) K)
def FA(wr:Nat->Bool)(ops:Array Oper)(L:List aM)(R:List Own)(Φ:θ)(aF:List Own)(aA:θ)(B:List Nat):List Nat->ai->(ai->Prop)->Prop
 | [],s,K=>K s
 | i :: r,s,K=>match ops[i]? with
  | none=>False
  | some o=>uf ops o s L (λs=>match c6 i B with
    | true=>NH P W (wr (o.dst.getD 0)) o s L R Φ λv=>FA wr ops L R Φ aF aA B r (s.put o.dst v) K
    | false=>Ie P W (wr (o.dst.getD 0)) o s L aF aA λv=>FA wr ops L R Φ aF aA B r (s.put o.dst v) K) (λs=>FA wr ops L R Φ aF aA B r (s.put o.dst (.v undef)) K)
def Kj(wr iN:Nat->Bool)(ops:Array Oper)(aF:List Own)(aA:θ):List (Nat × List Nat)->ai->List aM->List Own->θ->(ai->List aM->List Own->θ->Prop)->Prop
 | [],s,L,R,Φ,K=>K s L R Φ
 | (i,T) :: rest,s,L,R,Φ,K=>match ops[i]? with
   | none=>False
   | some o=>uf ops o s L
     (λs=>Cn P W (wr (o.dst.getD 0)) (iN (o.dst.getD 0)) (λi=>C2 o.dst i ops.toList) o s L R Φ λv L R Φ=>(∀ w F,Ctx W w (R++F) Φ->Ctx W w (aF++F) aA)/\Aj P W wr ops L aF aA T (s.put o.dst v) λs=>Kj wr iN ops aF aA rest s L R Φ K)
     (λs=>Aj P W wr ops L aF aA T (s.put o.dst (.v undef)) λs=>Kj wr iN ops aF aA rest s L R Φ K)
def CM(wr:Nat->Bool)(ops:Array Oper)(L:List aM)(R:List Own)(Φ:θ)(aF:List Own)(aA:θ)(C:List Nat)(cu:List Own)(ψ:θ)(B:List Nat):List Nat->ai->(ai->Prop)->Prop
 | [],s,K=>K s
 | i :: r,s,K=>match ops[i]? with
  | none=>False
  | some o=>uf ops o s L (λs=>match c6 i B with
    | true=>NH P W (wr (o.dst.getD 0)) o s L R Φ λv=>CM wr ops L R Φ aF aA C cu ψ B r (s.put o.dst v) K
    | false=>match c6 i C with
     | true=>Ie P W (wr (o.dst.getD 0)) o s L cu ψ λv=>CM wr ops L R Φ aF aA C cu ψ B r (s.put o.dst v) K
     | false=>Ie P W (wr (o.dst.getD 0)) o s L aF aA λv=>CM wr ops L R Φ aF aA C cu ψ B r (s.put o.dst v) K) (λs=>CM wr ops L R Φ aF aA C cu ψ B r (s.put o.dst (.v undef)) K)
def KK(dl i:Nat)(up:Bool)(p:Prop):Prop:=match up with
 | false=>True
 | true=>match Nat.beq dl i with|true=>True|false=>p
def Kk(wr iN:Nat->Bool)(ops:Array Oper)(aF:List Own)(aA:θ)(dl:Nat)(cu:List Own)(ψ:θ):Bool->List (Nat × List Nat)->ai->List aM->List Own->θ->(ai->List aM->List Own->θ->Prop)->Prop
 | _,[],s,L,R,Φ,K=>K s L R Φ
 | up,(i,T) :: rest,s,L,R,Φ,K=>match ops[i]? with
   | none=>False
   | some o=>uf ops o s L
     (λs=>Cn P W (wr (o.dst.getD 0)) (iN (o.dst.getD 0)) (λi=>C2 o.dst i ops.toList) o s L R Φ λv L R Φ=>(∀ w F,Ctx W w (R++F) Φ->Ctx W w (aF++F) aA)/\KK dl i up (∀ w F,Ctx W w (R++F) Φ->Ctx W w (cu++F) ψ)/\Aj P W wr ops L aF aA T (s.put o.dst v) λs=>Kk wr iN ops aF aA dl cu ψ (up && !(Nat.beq dl i)) rest s L R Φ K)
     (λs=>Aj P W wr ops L aF aA T (s.put o.dst (.v undef)) λs=>Kk wr iN ops aF aA dl cu ψ (up && !(Nat.beq dl i)) rest s L R Φ K)
inductive uI where
 | done
 | rd (i:Nat) (k:uI)
 | alt (i:Nat) (k r:uI)
 | no
def x9:uI->List Nat
 | .alt i _ r=>i :: x9 r
 | _=>[]
def IV:uI->List Nat
 | .rd i k=>i :: IV k
 | .alt i k _=>i :: IV k
 | _=>[]
def kR(ops:Array Oper)(listed:Array Bool):Bool :=
 (List.range ops.size).all λk => !(listed.getD k true)||match ops[k]? with
  | none=>true
  | some o=>o.after.toList.all λe => !(Region.binds .any e)||listed.getD e.on false
def o3(ops:Array Oper)(fin:Array Bool):uI->Bool->Nat->Array Bool->Bool
 | .done,false,0,x=>decide (x=fin)
 | .rd i k,false,n+1,x=>(Region.ready .any ops x).contains i&&Region.free .any ops x i&&(Region.ready .any ops (fin.setIfInBounds i false) == [i] || !(kR ops (fin.setIfInBounds i false)))&&o3 ops fin k false n (x.setIfInBounds i true)
 | .alt i k r,false,n+1,x=>(Region.ready .any ops x == i :: x9 r)&&(o3 ops fin k false n (x.setIfInBounds i true)&&o3 ops fin r true n x)
 | .alt i k r,true,n,x=>o3 ops fin k false n (x.setIfInBounds i true)&&o3 ops fin r true n x
 | .no,true,_,_=>true
 | _,_,_,_=>false
def tS(wr:Nat->Bool)(ops:Array Oper)(L:List aM)(aF:List Own)(aA:θ):uI->ai->List Own->θ->(ai->List Own->θ->Prop)->Prop
 | .done,s,R,Φ,K=>K s R Φ
 | .no,_,_,_,_=>True
 | .rd i k,s,R,Φ,K=>match ops[i]? with
  | none=>False
  | some o=>uf ops o s L (λs=>Qd P W (wr (o.dst.getD 0)) o s L aF aA λv=>tS wr ops L aF aA k (s.put o.dst v) R Φ K) (λs=>tS wr ops L aF aA k (s.put o.dst (.v undef)) R Φ K)
 | .alt i k r,s,R,Φ,K=>(match ops[i]? with
  | none=>False
  | some o=>uf ops o s L
    (λs=>Cn P W (wr (o.dst.getD 0)) false (λi=>C2 o.dst i ops.toList) o s L R Φ λv L' R' η=>match v,sH [] L' L with
      | .v x,true=>(∀ w F,Ctx W w (R'++F) η->Ctx W w (aF++F) aA)/\tS wr ops L aF aA k (s.put o.dst (.v x)) R' η K
      | _,_=>False)
    (λs=>tS wr ops L aF aA k (s.put o.dst (.v undef)) R Φ K))/\(match r with | .no=>True|r=>tS wr ops L aF aA r s R Φ K)
inductive Bp where
 | tree (t:uI) (n:Nat)
 | bJ (T:List Nat) (e:Option Nat)
 | held (ord:List (Nat × Bool))
 | late (B cw:List Nat) (l:List (Nat × List Nat))
 | ID (C:List Nat) (dl:Nat) (B cw:List Nat) (l:List (Nat × List Nat))
def zu:List (Nat × List Nat)->Array Bool->Array Bool
 | [],x=>x
 | (i,T) :: r,x=>zu r (eH T (x.setIfInBounds i true))
def pn(cw:List Nat):List (Nat × List Nat)->List Nat
 | []=>cw
 | (_,T) :: r=>T++pn cw r
def zv(ops:Array Oper)(fin:Array Bool):List (Nat × List Nat)->Array Bool->Bool
 | [],listed=>decide (listed=fin)&&(Region.ready .any ops listed).isEmpty
 | (i,T) :: r,listed=>Region.ready .any ops listed == [i]&&(sC ops T (listed.setIfInBounds i true)&&zv ops fin r (eH T (listed.setIfInBounds i true)))
def waits(ops:Array Oper)(b:Nat):List Nat->List Nat->List Nat
 | [],acc=>acc
 | k :: r,acc=>waits ops b r (match ops[k]? with
  | some o=>match o.after.any λe=>Region.binds .any e&&(Nat.beq e.on b||c6 e.on acc) with
   | true=>k :: acc
   | false=>acc
  | none=>acc)
def yO(ops:Array Oper)(rd B:List Nat):Bool:=B.all λb=>c6 b rd&&(λW:List Nat=>(List.range ops.size).all λj=>c6 j rd||c6 j W) (waits ops b (List.range ops.size) [])
def EY:List (Nat × List Nat)->Nat
 | []=>0
 | (_,T) :: r=>(T.length+EY r)+1
def Hh(ops:Array Oper):List (Nat × Bool)->Array Bool->Bool
 | [],_=>true
 | (i,true) :: r,listed=>(Region.ready .any ops listed).contains i&&Region.free .any ops listed i&&Hh ops r (listed.setIfInBounds i true)
 | (i,false) :: r,listed=>Region.ready .any ops listed == [i]&&Hh ops r (listed.setIfInBounds i true)
def BB:List (Nat × Bool)->List Nat
 | []=>[]
 | (i,true) :: r=>i :: BB r
 | (_,false) :: r=>BB r
def aMR(ops:Array Oper)(T:List Nat)(fin:Array Bool):Bool :=
 T.all λi=>Region.ready .any ops (fin.setIfInBounds i false) == [i] || !(kR ops (fin.setIfInBounds i false))
def vI(ops:Array Oper):List Bp->Array Bool->Bool
 | [],listed=>(Region.ready .any ops listed).isEmpty
 | .bJ T none :: rest,listed=>sC ops T listed&&MN ops T (eH T listed)&&vI ops rest (eH T listed)
 | .bJ T (some i) :: rest,listed=>sC ops T listed&&MN ops T (eH T listed)&&(Region.ready .any ops (eH T listed) == [i]&&vI ops rest ((eH T listed).setIfInBounds i true))
 | .tree t n :: rest,listed=>kR ops listed&&o3 ops (eH (IV t) listed) t false n listed&&vI ops rest (eH (IV t) listed)
 | .held ord :: rest,listed=>Hh ops ord listed&&kR ops listed&&aMR ops (BB ord) (eH (ord.map (·.1)) listed)&&vI ops rest (eH (ord.map (·.1)) listed)
 | .late B cw l :: _,listed=>kR ops listed&&sC ops cw listed&&(B.all λb=>c6 b cw)&&yO ops (pn cw l) B&&MN ops (pn cw l) (zu l (eH cw listed))&&(l.all λp => !c6 p.1 (pn cw l))&&zv ops (zu l (eH cw listed)) l (eH cw listed)
 | .ID C dl B cw l :: _,listed=>kR ops listed&&sC ops cw listed&&(B.all λb=>c6 b cw)&&yO ops (pn cw l) B&&MN ops (pn cw l) (zu l (eH cw listed))&&(l.all λp => !c6 p.1 (pn cw l))&&zv ops (zu l (eH cw listed)) l (eH cw listed)&&(C.all λc=>c6 dl (waits ops c (List.range ops.size) [])) && !c6 dl (pn cw l)
def DC:List Bp->Nat
 | []=>0
 | .bJ T none :: r=>T.length+DC r
 | .bJ T (some _) :: r=>T.length+(DC r+1)
 | .tree _ n :: r=>n+DC r
 | .held ord :: r=>ord.length+DC r
 | .late _ cw l :: _=>cw.length+EY l
 | .ID _ _ _ cw l :: _=>cw.length+EY l
def vL(wr iN:Nat->Bool)(ops:Array Oper):List Bp->ai->List aM->List Own->θ->(ai->List aM->List Own->θ->Prop)->Prop
 | [],s,L,R,Φ,K=>K s L R Φ
 | .bJ T none :: rest,s,L,R,Φ,K=>D1 P W wr ops L R Φ T s λs=>vL wr iN ops rest s L R Φ K
 | .bJ T (some i) :: rest,s,L,R,Φ,K=>D1 P W wr ops L R Φ T s λs=>match ops[i]? with
   | none=>False
   | some o=>uf ops o s L
     (λs=>Cn P W (wr (o.dst.getD 0)) (iN (o.dst.getD 0)) (λi=>C2 o.dst i ops.toList) o s L R Φ λv L R Φ=>vL wr iN ops rest (s.put o.dst v) L R Φ K)
     (λs=>vL wr iN ops rest (s.put o.dst (.v undef)) L R Φ K)
 | .tree t _ :: rest,s,L,R,Φ,K=>∃ (aF:List Own) (aA:θ),O aA/\(∀ w F,Ctx W w (R++F) Φ->Ctx W w (aF++F) aA)/\tS P W wr ops L aF aA t s R Φ λs R Φ=>vL wr iN ops rest s L R Φ K
 | .held ord :: rest,s,L,R,Φ,K=>∃ (aF:List Own) (aA:θ),O aA/\(∀ w F,Ctx W w (R++F) Φ->Ctx W w (aF++F) aA)/\hS P W wr ops L aF aA ord s R Φ λs R Φ=>vL wr iN ops rest s L R Φ K
 | .late B cw l :: _,s,L,R,Φ,K=>∃ (aF:List Own) (aA:θ),O aA/\(∀ w F,Ctx W w (R++F) Φ->Ctx W w (aF++F) aA)/\FA P W wr ops L R Φ aF aA B cw s λs=>Kj P W wr iN ops aF aA l s L R Φ K
 | .ID C dl B cw l :: _,s,L,R,Φ,K=>∃ (aF:List Own) (aA:θ),O aA/\(∀ w F,Ctx W w (R++F) Φ->Ctx W w (aF++F) aA)/\∃ (cu:List Own) (ψ:θ),O ψ/\(∀ w F,Ctx W w (R++F) Φ->Ctx W w (cu++F) ψ)/\CM P W wr ops L R Φ aF aA C cu ψ B cw s λs=>Kk P W wr iN ops aF aA dl cu ψ true l s L R Φ K
def Y3(wr d:Bool)(es:List uC)(o:Oper)(s:ai)(L:List aM)(w:World)(g:Option Bool)(ch:List (Nat × Bool))(K:bk->Prop):Prop :=
 match o.op with
 | .fieldAddr t x f=>match s.ev x with
  | .ptr k off=>match z6 es ch (s.fr L) x with|true=>Pt P t k off f K|false=>False
  | .v _=>J4 P wr d es o (s.fr L) w g ch λv=>K (.v v)
 | .load t x=>match s.ev x with
  | .ptr k off=>match z6 es ch (s.fr L) x with|true=>loadT P t L k off λv=>K (.v v)|false=>False
  | .v _=>J4 P wr d es o (s.fr L) w g ch λv=>K (.v v)
 | .move x=>match z6 es ch (s.fr L) x with|true=>K (s.ev x)|false=>False
 | .assign x=>match z6 es ch (s.fr L) x with|true=>K (s.ev x)|false=>False
 | _=>J4 P wr d es o (s.fr L) w g ch λv=>K (.v v)
def C5(es:List uC)(s:ai):ai:=⟨s.n,go s.l⟩
where go:List (Nat × bk)->List (Nat × bk)
 | []=>[]
 | (t,v) :: r=>match Em es t with|true=>(t,v) :: go r|false=>go r
def NF(wr:Nat->Bool)(d:Bool)(ops:Array Oper)(L:List aM)(w:World):List Oper->List uC->ai->(ai->Prop)->Prop
 | [],es,s,K=>K (C5 es s)
 | o :: rest,es,s,K =>
  match guardOf ops es (s.fr L) o,o.dst with
  | some (g,ch),some t =>
   match (nj es t).isNone&&Nat.blt t s.n with
   | true=>Y3 P (wr t) d es o s L w g ch λv=>NF wr d ops L w rest (⟨t,g,ch⟩ :: es) (s.put (some t) v) K
   | false=>False
  | _,_=>False
end
section
variable {P:Program}{W:World}{ops:Array Oper}{wr iN:Nat->Bool}{D:Nat->Prop}{s0:Fr}
theorem XY{Q L0 K}(hD:∀ (j:Nat) (o:Oper) (t:Nat),ops[j]? = some o->o.dst=some t->D t)(hK:∀ s L R Φ a w,K s L R Φ->dI ds G W s L R Φ a w->Ext L0 L->bn D s0 (s.fr L)->Q .normal a w):
  ∀ (l:List Oper) (s:ai) (L:List aM) (R:List Own) (Φ:θ) (a:Act) (w:World),(∀ o∈l,∀ t,o.dst=some t->D t)->Mi P W wr iN ops l s L R Φ K->dI ds G W s L R Φ a w->Ext L0 L->bn D s0 (s.fr L)->wpList P ops Q l a w
 | [],s,L,R,Φ,a,w,_,h,ha,he,hu=>hK _ _ _ _ _ _ h ha he hu
 | o :: rest,s,L,R,Φ,a,w,hl,h,ha,he,hu=>by
  have hl':∀ o∈rest,∀ t,o.dst=some t->D t:=λo ho=>hl o (List.mem_cons_of_mem _ ho);have ho:∀ t,o.dst=some t->D t:=hl o (by simp);unfold Mi at h;unfold wpList;obtain ⟨s',aC,bF,h⟩:=wq hD h ha hu;rcases h with ⟨hw,h⟩|⟨hw,h⟩
  .rw [if_pos hw];have:=aC.st;refine .inl (Oper.JR (IU h aC.fT aC.wf aC.ctx λsv L' R' η v' w' hk hst kU hp hc hv=>?_));exact XY hD hK rest _ _ _ _ _ _ hl' hk (aC.put o.dst kU hp hc hst hv) (he.trans kU) (bF.o5 aC.wf kU ho)
  .rw [if_neg (by simp [hw])];exact XY hD hK rest _ _ _ _ _ _ hl' h (aC.put o.dst (Ext.refl _) (λk o e=>by cases e) aC.ctx aC.st (λ_=>rfl)) he (bF.o5 aC.wf (Ext.refl _) ho)
theorem YA{wr o s L R Φ a w K}(h:NH P W wr o s L R Φ K)(ha:dI ds G W s L R Φ a w):
  ∃ sv v',K sv/\(∀ k o,sv=bk.ptr k o->(bl k L).isSome=true)/\(fG (sv.val L)=false->v'=sv.val L)/\(execOp a.eval o).run P w=.ok (.value v') w:=by
 have hev:=ya s L;unfold NH at h;split at h
 .rename_i cc x U hop;split at h
  .rename_i b hc;have ji:a.eval cc=.bool b:=by rw [ha.fT.eval (by rw [hev,hc];rfl),hev,hc]
   cases b with
   | true =>
    exact ⟨s.ev x,a.eval x,h,λk o e=>ha.wf.ev e,λhu=>by rw [ha.fT.eval (by rw [hev];exact hu),hev];rfl,by simp only [execOp,hop,ji,asBool,Sem.run_bind,Sem.run_pure,Result.andThen,if_true]⟩
   | false =>
    exact ⟨s.ev U,a.eval U,h,λk o e=>ha.wf.ev e,λhu=>by rw [ha.fT.eval (by rw [hev];exact hu),hev];rfl,by simp [execOp,hop,ji,asBool,Sem.run_bind,Sem.run_pure,Result.andThen]⟩
  .exact h.elim
 .split at h
  .rename_i ho;simp only [Bool.and_eq_true] at ho;rw [LB ha.fT ho.1 ho.2,show (s.fr L).eval=s.val L from funext hev];unfold tZ at h;split at h
   .rename_i p hp;obtain ⟨sv,h1,h2,h3⟩:=a9F ha.wf ha.ctx hp h;exact ⟨sv,_,h3,h1,λ_=>rfl,h2 w rfl⟩
   .exact h.elim
  .exact h.elim
theorem a9E{Q L R Φ w gR K fin}(hsel:Region.noSelect ops=true)(hD:∀ (j:Nat) (o:Oper) (t:Nat),ops[j]? = some o->o.dst=some t->D t)(hK:∀ s a,gR s->dI ds G W s L R Φ a w->bn D s0 (s.fr L)->K a w):
  ∀ (T:List Nat) (listed:Array Bool) (s:ai) (a:Act),(∀ i∈T,Region.ready .any ops (fin.setIfInBounds i false)=[i])->sC ops T listed=true->eH T listed=fin->D1 P W wr ops L R Φ T s gR->dI ds G W s L R Φ a w->bn D s0 (s.fr L) ->
   sQ P .any ops (gU Q) (λw'=>w'=w) (λl=>l=fin) K T.length listed a w
 | [],listed,s,a,_,_,hf,h,ha,hu=>⟨hf,hK s a h ha hu⟩
 | i :: r,listed,s,a,hl,ho,hf,h,ha,hu=>by
  simp only [sC,Bool.and_eq_true] at ho;obtain ⟨⟨fc,kV⟩,mo⟩:=ho;unfold D1 at h;split at h
  .exact h.elim
  rename_i o hi;have hd:∀ t,o.dst=some t->D t:=λt ht=>hD i o t hi ht;have hr:i∈Region.ready .any ops listed:=by simpa using fc
  have hE:∀ l:Array Bool,l.setIfInBounds i true=fin->i∈Region.ready .any ops l->∀ j∈Region.ready .any ops l,j=i:=by
   intro l hl' rZ j hj;have e:l=fin.setIfInBounds i false:=by
    have h0:=(mem_ready.1 rZ).1;rw [<-hl'];have h2:l[i]? = some false:=by
     rw [Array.getD_eq_getD_getElem?] at h0;cases hx:l[i]? with
     | none=>rw [hx] at h0;cases h0
     | some b=>rw [hx] at h0;simp at h0;subst h0;rfl
    have hlt:i<l.size:=(Array.getElem?_eq_some_iff.1 h2).1;apply Array.ext_getElem?;intro k;by_cases hk:i=k
    .subst hk;rw [Array.getElem?_setIfInBounds_self_of_lt (by simpa using hlt),h2]
    .rw [Array.getElem?_setIfInBounds_ne hk,Array.getElem?_setIfInBounds_ne hk]
   rw [e,hl i (by simp)] at hj;simpa using hj
  have take:∀ (s':ai) (sv:bk) (v':Value),dI ds G W s' L R Φ a w->bn D s0 (s'.fr L)->(∀ k o,sv=bk.ptr k o->(bl k L).isSome=true)->(fG (sv.val L)=false->v'=sv.val L)->YieldsIf P ops (λw'=>w'=w) o v' a->D1 P W wr ops L R Φ r (s'.put o.dst sv) gR ->
    sQ P .any ops (gU Q) (λw'=>w'=w) (λl=>l=fin) K (i :: r).length listed a w:=by
   intro s' sv v' aC bF hp hv hy hk;have ih:=a9E (Q:=Q) hsel hD hK r (listed.setIfInBounds i true) (s'.put o.dst sv) (a.put o.dst v') (λj hj=>hl j (List.mem_cons_of_mem _ hj)) mo hf hk (aC.put o.dst (Ext.refl _) hp aC.ctx aC.st hv) (bF.o5 aC.wf (Ext.refl _) hd);exact aS0 hi (Region.noSelect_spec hsel) (λ_ _ _ h=>h) hE r.length listed a w (Region.free_spec hi kV) hr hy rfl ih
  obtain ⟨s',aC,bF,h⟩:=wq hD h ha hu;rcases h with ⟨hw,h⟩|⟨hw,h⟩
  .obtain ⟨sv,v',h1,h2,h3,h4⟩:=YA h aC;exact take s' sv v' aC bF h2 h3 (.inl ⟨hw,λw' e=>by subst e;exact h4⟩) h1
  .exact take s' (.v undef) undef aC bF (λk o e=>by cases e) (λ_=>rfl) (.inr ⟨hw,rfl⟩) h
theorem aAX{Q L R Φ w gR m}(hsel:Region.noSelect ops=true)(hD:∀ (j:Nat) (o:Oper) (t:Nat),ops[j]? = some o->o.dst=some t->D t){T listed s a}(hK:∀ s a,gR s->dI ds G W s L R Φ a w->bn D s0 (s.fr L)->wpAny P .any ops (gU Q) m (eH T listed) a w)(fc:sC ops T listed=true)(kV:MN ops T (eH T listed)=true)(h:D1 P W wr ops L R Φ T s gR)(ha:dI ds G W s L R Φ a w)(hu:bn D s0 (s.fr L)):wpAny P .any ops (gU Q) (T.length+m) listed a w:=by
 have hl:∀ j∈T,Region.ready .any ops ((eH T listed).setIfInBounds j false)=[j]:=by
  intro j hj;have:=List.all_eq_true.1 kV j hj;simpa using this
 refine Sb (S:=λw'=>w'=w) (E:=λl=>l=eH T listed) (K:=λa' w'=>w'=w/\wpAny P .any ops (gU Q) m (eH T listed) a' w) ?_ T.length listed a w ?_
 .rintro l a w1 rfl ⟨rfl,hk⟩;exact hk
 .exact a9E hsel hD (λs a hk ha hu=>⟨rfl,hK s a hk ha hu⟩) T listed s a hl fc rfl h ha hu
theorem aMq{t L k off K T}(hT:bl k L=some T)(h:loadT P t L k off K):
  ∃ v,K v/\∀ w:World,dc w T.b T.cs T.t->(loadVar t ⟨T.b,off,none⟩).run P w=.ok v w:=by
 unfold loadT at h;rw [hT] at h;split at h
 .rename_i e7 d i e hd hi;cases e;split at h
  .rename_i l ha hz;split at h
   .rename_i hc;simp only [Bool.and_eq_true] at hc;have hlen:=Nat.eq_of_beq_eq_true hc.1;have hfit:∀ {l:List dG} {vs:List Value},C4 l vs=true->vs.length=l.length:=by
     intro l
     induction l with
     | nil=>intro vs h;cases vs<;>simp_all [C4]
     | cons s r ih =>
      intro vs h;cases vs with
      | nil=>simp [C4] at h
      | cons v vs =>
       unfold C4 at h;split at h
       .simp [ih h]
       .cases h
    refine ⟨_,h,λw hb=>?_⟩;have mG:=hfit hc.2;rw [hlen] at mG;have hrow:bS w T.b off ((T.cs.drop off).take i.size):=hb.row λj hj=>by
     simp only [List.length_take,List.length_drop] at hj;rw [List.getElem_take,List.getElem_drop,List.getElem?_eq_getElem]
    generalize (T.cs.drop off).take i.size=vs at mG hrow;have hr:=run_loadCellsFrom (P:=P) (w:=w) (b:=T.b) (o:=off) vs 0 #[] (λj hj=>by rw [Nat.zero_add];exact hrow j hj);unfold loadVar loadCells;simp only [Sem.run_bind,Ir hd,ha,Result.andThen,if_true,run_sizeOf hi,<-mG,hr,Sem.run_pure];simp
   .exact h.elim
  .rename_i sc ha hz;split at h
   .rename_i v hv;have one:∀ w:World,dc w T.b T.cs T.t->(loadVar t ⟨T.b,off,none⟩).run P w=.ok v w:=by
     intro w hb;have hcell:=hb.EV hv;unfold loadVar;simp only [Sem.run_bind,Ir hd,ha,Result.andThen,Bool.false_eq_true,if_false,load,Sem.run,hcell]
    split at h
    .obtain ⟨f,a,c,rfl,h⟩:=h;exact ⟨_,h,one⟩
    .split at h
     .exact ⟨v,h,one⟩
     .exact h.elim
   .exact h.elim
  .exact h.elim
 .exact h.elim
theorem aOw{wr o s L aF}{aA:θ}{K p}(hst:O aA)(hwf:ij L s)(h:cj P W wr o s L [] aA K=some p)(hp:p)(hu:AF P o s L K=false):
  ∃ sv,K sv/\(∀ k o,sv=bk.ptr k o->(bl k L).isSome=true)/\∀ w',Ctx W w' (aF++(L.map aM.own++G)) aA->(execOp (s.val L) o).run P w'=.ok (.value (sv.val L)) w':=by
 have rA:∀ {p:Prop},mF P o (s.val L) (λv=>K (.v v))=false->o6 P wr o (s.val L) W none (λv=>K (.v v))=some p->p ->
   ∃ sv,K sv/\(∀ k o,sv=bk.ptr k o->(bl k L).isSome=true)/\∀ w',Ctx W w' (aF++(L.map aM.own++G)) aA->(execOp (s.val L) o).run P w'=.ok (.value (sv.val L)) w':=by
  intro p hf hq hp;obtain ⟨v,h1,h2⟩:=Y7 W W hq hf hp;exact ⟨.v v,h2,λk o e=>(by cases e),λw' _=>h1 w'⟩
 unfold cj at h;split at h
 .rename_i x hop;cases h;exact ⟨s.ev x,hp,λk o e=>hwf.ev e,λw' _=>by simp [execOp,hop,ai.val]⟩
 .rename_i x hop;cases h;exact ⟨s.ev x,hp,λk o e=>hwf.ev e,λw' _=>by simp [execOp,hop,ai.val]⟩
 .rename_i x hop;split at h
  .rename_i k off hx;cases h;obtain ⟨T,hT⟩:=Option.isSome_iff_exists.1 (hwf.ev hx);refine ⟨.ptr k off,hp,λk' o' e=>by cases e;rw [hT];rfl,λw' _=>?_⟩;have hv:s.val L x=.pointer (some ⟨T.b,off,none⟩):=by rw [ai.val,hx,lF hT]
   simp [execOp,hop,hv,lF hT]
  .exact rA (by simp [mF,hop]) h hp
 .rename_i t x f hop;split at h
  .rename_i k off hx;cases h;obtain ⟨T,hT⟩:=Option.isSome_iff_exists.1 (hwf.ev hx);obtain ⟨off',h1,h2⟩:=Pu hT hp;refine ⟨.ptr k off',h2,λk' o' e=>by cases e;rw [hT];rfl,λw' _=>?_⟩;have hv:s.val L x=.pointer (some ⟨T.b,off,none⟩):=by rw [ai.val,hx,lF hT]
   simp [execOp,hop,hv,lF hT,h1 w',Result.andThen]
  .exact rA (by simp [mF,hop]) h hp
 .rename_i t x i hop;split at h
  .rename_i k off hx;cases h;obtain ⟨T,hT⟩:=Option.isSome_iff_exists.1 (hwf.ev hx);obtain ⟨off',h1,h2⟩:=WC hT hp;refine ⟨.ptr k off',h2,λk' o' e=>by cases e;rw [hT];rfl,λw' _=>?_⟩;have hv:s.val L x=.pointer (some ⟨T.b,off,none⟩):=by rw [ai.val,hx,lF hT]
   simp [execOp,hop,hv,lF hT,h1 w',Result.andThen]
  .exact rA (by simp [mF,hop]) h hp
 .rename_i t x hop;split at h
  .rename_i k off hx;cases h;obtain ⟨T,hT⟩:=Option.isSome_iff_exists.1 (hwf.ev hx);obtain ⟨v,h2,h1⟩:=aMq hT hp;refine ⟨.v v,h2,λk o e=>(by cases e),λw' hS=>?_⟩;have hb:dc w' T.b T.cs T.t:=eZ.blk (show eZ G W w' L aF aA from hS) hT;have hv:s.val L x=.pointer (some ⟨T.b,off,none⟩):=by rw [ai.val,hx,lF hT]
   simp [execOp,hop,hv,Instr.loadAt,Instr.sureAddr,h1 w' hb,Result.andThen,bk.val]
  .rename_i x' hx;unfold AF at hu;simp only [hop,hx] at hu;cases hu
 .rename_i hop;unfold AF at hu;simp only [hop] at hu;simp [mF,hop] at hu
 .rename_i n1 n2 cN b6 n5 bg n7;have bF:mF P o (s.val L) (λv=>K (.v v))=false:=by
   clear h rA;unfold AF at hu;split at hu
   .rename_i t x hop;exact absurd hop (bg t x)
   .rename_i x hop;exact absurd hop (n1 x)
   .rename_i x hop;exact absurd hop (n2 x)
   .rename_i x hop;exact absurd hop (cN x)
   .rename_i t x f hop;exact absurd hop (b6 t x f)
   .rename_i t x f hop;exact absurd hop (n5 t x f)
   .exact hu
  rw [bF] at h;simp only at h;exact rA bF h hp
theorem a5d{wr o s L R}{Φ aA:θ}{aF a w K}(hst:O aA)(h:Qd P W wr o s L aF aA K)(ha:dI ds G W s L R Φ a w)(hw:Ctx W w (aF++(L.map aM.own++G)) aA):
  ∃ sv v',K sv/\(∀ k o,sv=bk.ptr k o->(bl k L).isSome=true)/\(fG (sv.val L)=false->v'=sv.val L)/\∀ w',Ctx W w' (aF++(L.map aM.own++G)) aA->(execOp a.eval o).run P w'=.ok (.value v') w':=by
 have hev:=ya s L;unfold Qd at h;split at h
 .rename_i cc x U hop;split at h
  .rename_i b hc;have ji:a.eval cc=.bool b:=by rw [ha.fT.eval (by rw [hev,hc];rfl),hev,hc]
   cases b with
   | true =>
    exact ⟨s.ev x,a.eval x,h,λk o e=>ha.wf.ev e,λhu=>by rw [ha.fT.eval (by rw [hev];exact hu),hev];rfl,λw' _=>by simp only [execOp,hop,ji,asBool,Sem.run_bind,Sem.run_pure,Result.andThen,if_true]⟩
   | false =>
    exact ⟨s.ev U,a.eval U,h,λk o e=>ha.wf.ev e,λhu=>by rw [ha.fT.eval (by rw [hev];exact hu),hev];rfl,λw' _=>by simp [execOp,hop,ji,asBool,Sem.run_bind,Sem.run_pure,Result.andThen]⟩
  .exact h.elim
 .split at h
  .rename_i ho;simp only [Bool.and_eq_true] at ho;rw [LB ha.fT ho.1 ho.2,show (s.fr L).eval=s.val L from funext hev];split at h
   .obtain ⟨v,h1,h2⟩:=D6 h;refine ⟨.v v,v,h2,λk o e=>(by cases e),λ_=>rfl,λw' hS=>?_⟩;obtain ⟨u,h3,h4⟩:=XZ (w:=w') (h1 w' _ hS);subst h4;exact h3 w' rfl
   .rename_i hu;unfold tZ at h;split at h
    .rename_i p hp;obtain ⟨sv,h1,h2,h3⟩:=aOw hst ha.wf hp h (by simpa using hu);exact ⟨sv,_,h1,h2,λ_=>rfl,h3⟩
    .exact h.elim
  .exact h.elim
theorem a4a{l:Array Bool}{i k}(h:l.getD k false=true):(l.setIfInBounds i true).getD k false=true:=by
 rw [Array.getD_eq_getD_getElem?] at h ⊢;by_cases hk:i=k
 .subst hk;rcases Nat.lt_or_ge i l.size with h'|h'
  .rw [Array.getElem?_setIfInBounds_self_of_lt h'];rfl
  .rw [Array.getElem?_eq_none (by simpa using h')] at h;cases h
 .rwa [Array.getElem?_setIfInBounds_ne hk]
theorem yQ{ops listed i}(hc:kR ops listed=true)(hr:i∈Region.ready .any ops listed):kR ops (listed.setIfInBounds i true)=true:=by
 unfold kR at hc ⊢;rw [List.all_eq_true] at hc ⊢;intro k hk;have h0:=hc k hk;obtain ⟨_,oi,aL0,hall⟩:=mem_ready.1 hr;by_cases hki:i=k
 .subst hki;simp only [aL0];rw [Bool.or_eq_true]
  right
  rw [List.all_eq_true];intro e he;cases hb:Region.binds .any e with
  | false=>rfl
  | true =>
   rw [Bool.or_eq_true];exact .inr (a4a (hall e (by simpa using he) hb))
 .rw [getD_set_ne true hki];rw [Bool.or_eq_true] at h0 ⊢;rcases h0 with h0|h0
  .exact .inl h0
  .right
   split at h0
   .rfl
   .rw [List.all_eq_true] at h0 ⊢;intro e he;have:=h0 e he;rw [Bool.or_eq_true] at this ⊢;rcases this with h|h
    .exact .inl h
    .exact .inr (a4a h)
theorem aC6{P ops Q S E K i oi v}(hi:ops[i]? = some oi)(hsel:∀ (j:Nat) (o:Oper) cs b,ops[j]? = some o->o.op≠.select cs b)(hQ:∀ c a w,Q (.panic c) (a.put oi.dst v) w->Q (.panic c) a w)(hE:∀ listed,kR ops listed=true->E (listed.setIfInBounds i true)->i∈Region.ready .any ops listed->∀ j∈Region.ready .any ops listed,j=i):
  ∀ (n:Nat) (listed:Array Bool) (a:Act) (w:World),kR ops listed=true ->
   (∀ j oj,ops[j]? = some oj->j≠i->listed.getD j true=false->(∀ e∈oj.after,Region.binds .any e=true->e.on≠i)->oi.apart ops oj=true) ->
   i∈Region.ready .any ops listed->YieldsIf P ops S oi v a->S w ->
   sQ P .any ops Q S E K n (listed.setIfInBounds i true) (a.put oi.dst v) w->sQ P .any ops Q S E K (n+1) listed a w:=by
 intro n
 induction n with
 | zero =>
  intro listed a w hc _ hr hy hS H;refine ⟨λh=>(by rw [h] at hr;cases hr),λj hj=>?_⟩;have:=hE listed hc H.1 hr j hj;subst this;exact hy.wpOp hi hS ⟨hS,H⟩
 | succ n ih =>
  intro listed a w hc hfree hr hy hS H;refine ⟨λh=>(by rw [h] at hr;cases hr),λj hj=>?_⟩;by_cases hji:j=i
  .subst hji;exact hy.wpOp hi hS ⟨hS,H⟩
  .have h1:=H.2 j (ready_mono hj hji);obtain ⟨CI,oj,xD,hall⟩:=mem_ready.1 hj;have hnot:∀ e∈oj.after,Region.binds .any e=true->e.on≠i:=λe he hb heq=>by
    have h1:=hall e he hb;have h0:=(mem_ready.1 hr).1;rw [heq] at h1;rcases Nat.lt_or_ge i listed.size with h'|h'
    .simp [h'] at h0 h1;rw [h0] at h1;cases h1
    .simp [Array.getElem?_eq_none h'] at h1
   have h2:=wpOp_putIf xD (hfree j oj xD hji CI hnot) (λcs b=>hsel i oi cs b hi) (λcs b=>hsel j oj cs b xD) hQ hy h1;have Lr:∀ k ok,ops[k]? = some ok->k≠i->(listed.setIfInBounds j true).getD k true=false ->
     (∀ e∈ok.after,Region.binds .any e=true->e.on≠i)->oi.apart ops ok=true:=λk ok hk hki hun hno=>by
    refine hfree k ok hk hki ?_ hno;by_cases tI:j=k
    .subst tI;exact CI
    .rw [getD_set_ne true tI] at hun;exact hun
   refine wpOp_mono (λa' w' h3=>⟨h3.2.1,ih (listed.setIfInBounds j true) a' w' (yQ hc hj) Lr (ready_mono hr (Ne.symm hji)) h3.1 h3.2.1 ?_⟩) h2;rw [Array.setIfInBounds_comm _ _ hji];exact h3.2.2
theorem QJ{Q L aF}{aA:θ}{gR K fin}(hsel:Region.noSelect ops=true)(kW:O aA)(hD:∀ (j:Nat) (o:Oper) (t:Nat),ops[j]? = some o->o.dst=some t->D t)(hK:∀ s R Φ a w,gR s R Φ->dI ds G W s L R Φ a w->bn D s0 (s.fr L)->K a w):
  ∀ (ord:List (Nat × Bool)) (listed:Array Bool) (s:ai) (R:List Own) (Φ:θ) (a:Act) (w:World),(∀ i∈BB ord,Region.ready .any ops (fin.setIfInBounds i false)=[i]\/kR ops (fin.setIfInBounds i false)=false)->kR ops listed=true->Hh ops ord listed=true->eH (ord.map (·.1)) listed=fin ->
   hS P W wr ops L aF aA ord s R Φ gR->dI ds G W s L R Φ a w->(∀ w F,Ctx W w (R++F) Φ->Ctx W w (aF++F) aA)->bn D s0 (s.fr L)->sQ P .any ops (gU Q) (λw'=>Ctx W w' (aF++(L.map aM.own++G)) aA) (λl=>l=fin) K ord.length listed a w
 | [],listed,s,R,Φ,a,w,_,_,_,hf,h,ha,cL,hu=>⟨hf,hK s R Φ a w h ha hu⟩
 | (i,still) :: r,listed,s,R,Φ,a,w,hl,cW,ho,hf,h,ha,cL,hu=>by
  unfold hS at h;split at h
  .exact h.elim
  rename_i o hi;have hd:∀ t,o.dst=some t->D t:=λt ht=>hD i o t hi ht;have hw:Ctx W w (aF++(L.map aM.own++G)) aA:=cL _ _ ha.ctx;obtain ⟨s',aC,bF,h⟩:=wq hD h ha hu;cases still with
  | true =>
   simp only [Hh,Bool.and_eq_true] at ho;obtain ⟨⟨fc,kV⟩,mo⟩:=ho;have hr:i∈Region.ready .any ops listed:=by simpa using fc
   have hE:∀ l:Array Bool,kR ops l=true->l.setIfInBounds i true=fin->i∈Region.ready .any ops l->∀ j∈Region.ready .any ops l,j=i:=by
    intro l x8 hl' rZ j hj;have e:l=fin.setIfInBounds i false:=by
     have h0:=(mem_ready.1 rZ).1;rw [<-hl'];have h2:l[i]? = some false:=by
      rw [Array.getD_eq_getD_getElem?] at h0;cases hx:l[i]? with
      | none=>rw [hx] at h0;cases h0
      | some b=>rw [hx] at h0;simp at h0;subst h0;rfl
     have hlt:i<l.size:=(Array.getElem?_eq_some_iff.1 h2).1;apply Array.ext_getElem?;intro k;by_cases hk:i=k
     .subst hk;rw [Array.getElem?_setIfInBounds_self_of_lt (by simpa using hlt),h2]
     .rw [Array.getElem?_setIfInBounds_ne hk,Array.getElem?_setIfInBounds_ne hk]
    rcases hl i (by simp [BB]) with h1|h1
    .rw [e,h1] at hj;simpa using hj
    .rw [e,h1] at x8;cases x8
   have take:∀ (s':ai) (sv:bk) (v':Value),dI ds G W s' L R Φ a w->bn D s0 (s'.fr L)->(∀ k o,sv=bk.ptr k o->(bl k L).isSome=true)->(fG (sv.val L)=false->v'=sv.val L) ->
     YieldsIf P ops (λw'=>Ctx W w' (aF++(L.map aM.own++G)) aA) o v' a->hS P W wr ops L aF aA r (s'.put o.dst sv) R Φ gR ->
     sQ P .any ops (gU Q) (λw'=>Ctx W w' (aF++(L.map aM.own++G)) aA) (λl=>l=fin) K ((i,true) :: r).length listed a w:=by
    intro s' sv v' aC bF hp hv hy hk;have ih:=QJ (Q:=Q) hsel kW hD hK r (listed.setIfInBounds i true) (s'.put o.dst sv) R Φ (a.put o.dst v') w (λj hj=>hl j (by simp [BB,hj])) (yQ cW hr) mo hf hk (aC.put o.dst (Ext.refl _) hp aC.ctx aC.st hv) cL (bF.o5 aC.wf (Ext.refl _) hd);exact aC6 hi (Region.noSelect_spec hsel) (λ_ _ _ h=>h) hE r.length listed a w cW (Region.free_spec hi kV) hr hy hw ih
   rcases h with ⟨dV,h⟩|⟨dV,h⟩
   .obtain ⟨sv,v',h1,h2,h3,h4⟩:=a5d kW h aC hw;exact take s' sv v' aC bF h2 h3 (.inl ⟨dV,h4⟩) h1
   .exact take s' (.v undef) undef aC bF (λk o e=>by cases e) (λ_=>rfl) (.inr ⟨dV,rfl⟩) h
  | false =>
   simp only [Hh,Bool.and_eq_true,beq_iff_eq] at ho;obtain ⟨fc,kV⟩:=ho;have a5D:=yQ cW (show i∈Region.ready .any ops listed by rw [fc];simp);refine ⟨by rw [fc];simp,λj hj=>?_⟩;rw [fc] at hj;have hj:j=i:=by simpa using hj
   subst hj;unfold wpOp;simp only [hi];rcases h with ⟨dV,h⟩|⟨dV,h⟩
   .simp only [dV,if_true];have:=aC.st;refine .inl (Oper.JR (IU h aC.fT aC.wf aC.ctx λsv L' R' η v' w' hk hst kU hp hc hv=>?_));split at hk
    .rename_i x hs;obtain ⟨AR,hk⟩:=hk;have Ll:eZ G W w' L R' η:=by
      have:=eZ.meet (ts:=[]) hst hc kU aC.ids hs
      rwa [show jZ [] (cellsOf [] L') L=L from Wz L] at this
     refine ⟨AR _ _ Ll,?_⟩;exact QJ hsel kW hD hK r _ _ _ _ _ _ (λj hj=>hl j (by simp [BB,hj])) a5D kV hf hk (aC.put o.dst (Ext.refl _) (λk o e=>by cases e) Ll hst hv) AR (bF.o5 aC.wf (Ext.refl _) hd)
    .exact hk.elim
   .simp only [dV,Bool.false_eq_true,if_false];exact ⟨hw,QJ hsel kW hD hK r _ _ _ _ _ _ (λj hj=>hl j (by simp [BB,hj])) a5D kV hf h (aC.put o.dst (Ext.refl _) (λk o e=>by cases e) aC.ctx aC.st (λ_=>rfl)) cL (bF.o5 aC.wf (Ext.refl _) hd)⟩
theorem Nj{Q L aF}{aA:θ}{gR K fin}(hsel:Region.noSelect ops=true)(kW:O aA)(hD:∀ (j:Nat) (o:Oper) (t:Nat),ops[j]? = some o->o.dst=some t->D t)(hK:∀ s R Φ a w,gR s R Φ->dI ds G W s L R Φ a w->bn D s0 (s.fr L)->K a w):∀ (t:uI),
  (∀ (n:Nat) (listed:Array Bool) (s:ai) (R:List Own) (Φ:θ) (a:Act) (w:World),kR ops listed=true->o3 ops fin t false n listed=true ->
   tS P W wr ops L aF aA t s R Φ gR->dI ds G W s L R Φ a w->(∀ w F,Ctx W w (R++F) Φ->Ctx W w (aF++F) aA)->bn D s0 (s.fr L)->sQ P .any ops (gU Q) (λw'=>Ctx W w' (aF++(L.map aM.own++G)) aA) (λl=>l=fin) K n listed a w) /\
  (∀ (n:Nat) (listed:Array Bool) (s:ai) (R:List Own) (Φ:θ) (a:Act) (w:World),kR ops listed=true->(∀ j∈x9 t,j∈Region.ready .any ops listed)->o3 ops fin t true n listed=true ->
   tS P W wr ops L aF aA t s R Φ gR->dI ds G W s L R Φ a w->(∀ w F,Ctx W w (R++F) Φ->Ctx W w (aF++F) aA)->bn D s0 (s.fr L)->∀ j∈x9 t,wpOp P ops (gU Q) j (λa' w'=>Ctx W w' (aF++(L.map aM.own++G)) aA /\
    sQ P .any ops (gU Q) (λw'=>Ctx W w' (aF++(L.map aM.own++G)) aA) (λl=>l=fin) K n (listed.setIfInBounds j true) a' w') a w)
 | .done=>by
  refine ⟨λn listed s R Φ a w cW ho h ha cL hu=>?_,λn listed s R Φ a w _ _ ho=>by simp [o3] at ho⟩;cases n with
  | zero=>exact ⟨by simpa [o3] using ho,hK s R Φ a w h ha hu⟩
  | succ n=>simp [o3] at ho
 | .no=>by
  refine ⟨λn listed s R Φ a w _ ho=>by simp [o3] at ho,λn listed s R Φ a w _ _ ho h ha cL hu j hj=>by simp [x9] at hj⟩
 | .rd i k=>by
  refine ⟨λn listed s R Φ a w cW ho h ha cL hu=>?_,λn listed s R Φ a w _ _ ho=>by simp [o3] at ho⟩;cases n with
  | zero=>simp [o3] at ho
  | succ n =>
   simp only [o3,Bool.and_eq_true] at ho;obtain ⟨⟨⟨fc,kV⟩,hl⟩,mo⟩:=ho;have hl:Region.ready .any ops (fin.setIfInBounds i false)=[i]\/kR ops (fin.setIfInBounds i false)=false:=by simpa using hl
   unfold tS at h;split at h
   .exact h.elim
   rename_i o hi;have hd:∀ t,o.dst=some t->D t:=λt ht=>hD i o t hi ht;have hw:Ctx W w (aF++(L.map aM.own++G)) aA:=cL _ _ ha.ctx;obtain ⟨s',aC,bF,h⟩:=wq hD h ha hu;have hr:i∈Region.ready .any ops listed:=by simpa using fc
   have hE:∀ l:Array Bool,kR ops l=true->l.setIfInBounds i true=fin->i∈Region.ready .any ops l->∀ j∈Region.ready .any ops l,j=i:=by
    intro l x8 hl' rZ j hj;have e:l=fin.setIfInBounds i false:=by
     have h0:=(mem_ready.1 rZ).1;rw [<-hl'];have h2:l[i]? = some false:=by
      rw [Array.getD_eq_getD_getElem?] at h0;cases hx:l[i]? with
      | none=>rw [hx] at h0;cases h0
      | some b=>rw [hx] at h0;simp at h0;subst h0;rfl
     have hlt:i<l.size:=(Array.getElem?_eq_some_iff.1 h2).1;apply Array.ext_getElem?;intro k;by_cases hk:i=k
     .subst hk;rw [Array.getElem?_setIfInBounds_self_of_lt (by simpa using hlt),h2]
     .rw [Array.getElem?_setIfInBounds_ne hk,Array.getElem?_setIfInBounds_ne hk]
    rcases hl with h1|h1
    .rw [e,h1] at hj;simpa using hj
    .rw [e,h1] at x8;cases x8
   have take:∀ (s':ai) (sv:bk) (v':Value),dI ds G W s' L R Φ a w->bn D s0 (s'.fr L)->(∀ k o,sv=bk.ptr k o->(bl k L).isSome=true)->(fG (sv.val L)=false->v'=sv.val L) ->
     YieldsIf P ops (λw'=>Ctx W w' (aF++(L.map aM.own++G)) aA) o v' a->tS P W wr ops L aF aA k (s'.put o.dst sv) R Φ gR ->
     sQ P .any ops (gU Q) (λw'=>Ctx W w' (aF++(L.map aM.own++G)) aA) (λl=>l=fin) K (n+1) listed a w:=by
    intro s' sv v' aC bF hp hv hy hk;have ih:=(Nj (Q:=Q) hsel kW hD hK k).1 n (listed.setIfInBounds i true) (s'.put o.dst sv) R Φ (a.put o.dst v') w (yQ cW hr) mo hk (aC.put o.dst (Ext.refl _) hp aC.ctx aC.st hv) cL (bF.o5 aC.wf (Ext.refl _) hd);exact aC6 hi (Region.noSelect_spec hsel) (λ_ _ _ h=>h) hE n listed a w cW (Region.free_spec hi kV) hr hy hw ih
   rcases h with ⟨dV,h⟩|⟨dV,h⟩
   .obtain ⟨sv,v',h1,h2,h3,h4⟩:=a5d kW h aC hw;exact take s' sv v' aC bF h2 h3 (.inl ⟨dV,h4⟩) h1
   .exact take s' (.v undef) undef aC bF (λk o e=>by cases e) (λ_=>rfl) (.inr ⟨dV,rfl⟩) h
 | .alt i k r=>by
  have one:∀ (n:Nat) (listed:Array Bool) (s:ai) (R:List Own) (Φ:θ) (a:Act) (w:World),kR ops listed=true->i∈Region.ready .any ops listed->o3 ops fin k false n (listed.setIfInBounds i true)=true ->
    tS P W wr ops L aF aA (.alt i k r) s R Φ gR->dI ds G W s L R Φ a w->(∀ w F,Ctx W w (R++F) Φ->Ctx W w (aF++F) aA)->bn D s0 (s.fr L)->wpOp P ops (gU Q) i (λa' w'=>Ctx W w' (aF++(L.map aM.own++G)) aA /\
     sQ P .any ops (gU Q) (λw'=>Ctx W w' (aF++(L.map aM.own++G)) aA) (λl=>l=fin) K n (listed.setIfInBounds i true) a' w') a w:=by
   intro n listed s R Φ a w cW hr ho h ha cL hu;unfold tS at h
   replace h:=h.1
   split at h
   .exact h.elim
   rename_i o hi;have hd:∀ t,o.dst=some t->D t:=λt ht=>hD i o t hi ht;have hw:Ctx W w (aF++(L.map aM.own++G)) aA:=cL _ _ ha.ctx;obtain ⟨s',aC,bF,h⟩:=wq hD h ha hu;unfold wpOp;simp only [hi];rcases h with ⟨dV,h⟩|⟨dV,h⟩
   .simp only [dV,if_true];have:=aC.st;refine .inl (Oper.JR (IU h aC.fT aC.wf aC.ctx λsv L' R' η v' w' hk hst kU hp hc hv=>?_));split at hk
    .rename_i x hs;obtain ⟨AR,hk⟩:=hk;have Ll:eZ G W w' L R' η:=by
      have:=eZ.meet (ts:=[]) hst hc kU aC.ids hs
      rwa [show jZ [] (cellsOf [] L') L=L from Wz L] at this
     refine ⟨AR _ _ Ll,?_⟩;exact (Nj hsel kW hD hK k).1 n _ _ _ _ _ _ (yQ cW hr) ho hk (aC.put o.dst (Ext.refl _) (λk o e=>by cases e) Ll hst hv) AR (bF.o5 aC.wf (Ext.refl _) hd)
    .exact hk.elim
   .simp only [dV,Bool.false_eq_true,if_false];exact ⟨hw,(Nj hsel kW hD hK k).1 n _ _ _ _ _ _ (yQ cW hr) ho h (aC.put o.dst (Ext.refl _) (λk o e=>by cases e) aC.ctx aC.st (λ_=>rfl)) cL (bF.o5 aC.wf (Ext.refl _) hd)⟩
  have more:∀ (n:Nat) (listed:Array Bool) (s:ai) (R:List Own) (Φ:θ) (a:Act) (w:World),kR ops listed=true->(∀ j∈x9 r,j∈Region.ready .any ops listed)->o3 ops fin r true n listed=true ->
    tS P W wr ops L aF aA (.alt i k r) s R Φ gR->dI ds G W s L R Φ a w->(∀ w F,Ctx W w (R++F) Φ->Ctx W w (aF++F) aA)->bn D s0 (s.fr L)->∀ j∈x9 r,wpOp P ops (gU Q) j (λa' w'=>Ctx W w' (aF++(L.map aM.own++G)) aA /\
     sQ P .any ops (gU Q) (λw'=>Ctx W w' (aF++(L.map aM.own++G)) aA) (λl=>l=fin) K n (listed.setIfInBounds j true) a' w') a w:=by
   intro n listed s R Φ a w cW hr ho h ha cL hu j hj;unfold tS at h
   replace h:=h.2
   have h:tS P W wr ops L aF aA r s R Φ gR:=by
    cases r with
    | no=>simp [x9] at hj
    | _=>exact h
   exact (Nj hsel kW hD hK r).2 n listed s R Φ a w cW hr ho h ha cL hu j hj
  refine ⟨λn listed s R Φ a w cW ho h ha cL hu=>?_,λn listed s R Φ a w cW hr ho h ha cL hu j hj=>?_⟩
  .cases n with
   | zero=>simp [o3] at ho
   | succ n =>
    simp only [o3,Bool.and_eq_true,beq_iff_eq] at ho;obtain ⟨fc,kV,mo⟩:=ho;refine ⟨by rw [fc];simp,λj hj=>?_⟩;rw [fc] at hj;rcases List.mem_cons.1 hj with rfl|hj
    .exact one n listed s R Φ a w cW (by rw [fc];simp) kV h ha cL hu
    .exact more n listed s R Φ a w cW (λj hj=>by rw [fc];exact List.mem_cons_of_mem _ hj) mo h ha cL hu j hj
  .simp only [o3,Bool.and_eq_true] at ho;simp only [x9] at hj;rcases List.mem_cons.1 hj with rfl|hj
   .exact one n listed s R Φ a w cW (hr _ (by simp [x9])) ho.1 h ha cL hu
   .exact more n listed s R Φ a w cW (λj hj=>hr j (by simp only [x9];exact List.mem_cons_of_mem _ hj)) ho.2 h ha cL hu j hj
theorem aOx{wr o s L K p}(hwf:ij L s)(h:cj P W wr o s L [] (λ_ _=>True) K=some p)(hp:p)(hu:AF P o s L K=false)(pF:∀ t x,o.op≠.load t x):
  ∃ sv,K sv/\(∀ k o,sv=bk.ptr k o->(bl k L).isSome=true)/\∀ w',(execOp (s.val L) o).run P w'=.ok (.value (sv.val L)) w':=by
 have rA:∀ {p:Prop},mF P o (s.val L) (λv=>K (.v v))=false->o6 P wr o (s.val L) W none (λv=>K (.v v))=some p->p ->
   ∃ sv,K sv/\(∀ k o,sv=bk.ptr k o->(bl k L).isSome=true)/\∀ w',(execOp (s.val L) o).run P w'=.ok (.value (sv.val L)) w':=by
  intro p hf hq hp;obtain ⟨v,h1,h2⟩:=Y7 W W hq hf hp;exact ⟨.v v,h2,λk o e=>(by cases e),λw'=>h1 w'⟩
 unfold cj at h;split at h
 .rename_i x hop;cases h;exact ⟨s.ev x,hp,λk o e=>hwf.ev e,λw'=>by simp [execOp,hop,ai.val]⟩
 .rename_i x hop;cases h;exact ⟨s.ev x,hp,λk o e=>hwf.ev e,λw'=>by simp [execOp,hop,ai.val]⟩
 .rename_i x hop;split at h
  .rename_i k off hx;cases h;obtain ⟨T,hT⟩:=Option.isSome_iff_exists.1 (hwf.ev hx);refine ⟨.ptr k off,hp,λk' o' e=>by cases e;rw [hT];rfl,λw'=>?_⟩;have hv:s.val L x=.pointer (some ⟨T.b,off,none⟩):=by rw [ai.val,hx,lF hT]
   simp [execOp,hop,hv,lF hT]
  .exact rA (by simp [mF,hop]) h hp
 .rename_i t x f hop;split at h
  .rename_i k off hx;cases h;obtain ⟨T,hT⟩:=Option.isSome_iff_exists.1 (hwf.ev hx);obtain ⟨off',h1,h2⟩:=Pu hT hp;refine ⟨.ptr k off',h2,λk' o' e=>by cases e;rw [hT];rfl,λw'=>?_⟩;have hv:s.val L x=.pointer (some ⟨T.b,off,none⟩):=by rw [ai.val,hx,lF hT]
   simp [execOp,hop,hv,lF hT,h1 w',Result.andThen]
  .exact rA (by simp [mF,hop]) h hp
 .rename_i t x i hop;split at h
  .rename_i k off hx;cases h;obtain ⟨T,hT⟩:=Option.isSome_iff_exists.1 (hwf.ev hx);obtain ⟨off',h1,h2⟩:=WC hT hp;refine ⟨.ptr k off',h2,λk' o' e=>by cases e;rw [hT];rfl,λw'=>?_⟩;have hv:s.val L x=.pointer (some ⟨T.b,off,none⟩):=by rw [ai.val,hx,lF hT]
   simp [execOp,hop,hv,lF hT,h1 w',Result.andThen]
  .exact rA (by simp [mF,hop]) h hp
 .rename_i t x hop;exact absurd hop (pF t x)
 .rename_i hop;unfold AF at hu;simp only [hop] at hu;simp [mF,hop] at hu
 .rename_i n1 n2 cN b6 n5 bg n7;have bF:mF P o (s.val L) (λv=>K (.v v))=false:=by
   clear h rA;unfold AF at hu;split at hu
   .rename_i t x hop;exact absurd hop (bg t x)
   .rename_i x hop;exact absurd hop (n1 x)
   .rename_i x hop;exact absurd hop (n2 x)
   .rename_i x hop;exact absurd hop (cN x)
   .rename_i t x f hop;exact absurd hop (b6 t x f)
   .rename_i t x f hop;exact absurd hop (n5 t x f)
   .exact hu
  rw [bF] at h;simp only at h;exact rA bF h hp
theorem RS{wr o s L R Φ aA aF a w K}(h:Ie P W wr o s L aF aA K)(ha:dI ds G W s L R Φ a w):
  ∃ sv v',K sv/\(∀ k o,sv=bk.ptr k o->(bl k L).isSome=true)/\(fG (sv.val L)=false->v'=sv.val L)/\∀ w',(∃ S,Ctx W w' (aF++S) aA)->(execOp a.eval o).run P w'=.ok (.value v') w':=by
 have hev:=ya s L;unfold Ie at h;split at h
 .rename_i cc x U hop;split at h
  .rename_i b hc;have ji:a.eval cc=.bool b:=by rw [ha.fT.eval (by rw [hev,hc];rfl),hev,hc]
   cases b with
   | true =>
    exact ⟨s.ev x,a.eval x,h,λk o e=>ha.wf.ev e,λhu=>by rw [ha.fT.eval (by rw [hev];exact hu),hev];rfl,λw' _=>by simp only [execOp,hop,ji,asBool,Sem.run_bind,Sem.run_pure,Result.andThen,if_true]⟩
   | false =>
    exact ⟨s.ev U,a.eval U,h,λk o e=>ha.wf.ev e,λhu=>by rw [ha.fT.eval (by rw [hev];exact hu),hev];rfl,λw' _=>by simp [execOp,hop,ji,asBool,Sem.run_bind,Sem.run_pure,Result.andThen]⟩
  .exact h.elim
 .rename_i t x hop;split at h
  .exact h.elim
  .split at h
   .rename_i ho;simp only [Bool.and_eq_true] at ho;rw [LB ha.fT ho.1 ho.2,show (s.fr L).eval=s.val L from funext hev];obtain ⟨v,h1,h2⟩:=D6 h;refine ⟨.v v,v,h2,λk o e=>(by cases e),λ_=>rfl,λw' ⟨S,hS⟩=>?_⟩;obtain ⟨u,h3,h4⟩:=XZ (w:=w') (h1 w' _ hS);subst h4;exact h3 w' rfl
   .exact h.elim
 .rename_i np nl;split at h
  .rename_i ho;simp only [Bool.and_eq_true] at ho;rw [LB ha.fT ho.1 ho.2,show (s.fr L).eval=s.val L from funext hev];split at h
   .exact h.elim
   .rename_i hu;unfold tZ at h;split at h
    .rename_i p hp;obtain ⟨sv,h1,h2,h3⟩:=aOx ha.wf hp h (by simpa using hu) nl;exact ⟨sv,_,h1,h2,λ_=>rfl,λw' _=>h3 w'⟩
    .exact h.elim
  .exact h.elim
theorem xl{x:Array Bool}{i b}(h:(x.setIfInBounds i true).getD b true=false):b≠i/\x.getD b true=false:=by
 rw [Array.getD_eq_getD_getElem?] at h;by_cases e:i=b
 .subst e;rcases Nat.lt_or_ge i x.size with h'|h'
  .rw [Array.getElem?_setIfInBounds_self_of_lt h'] at h;simp at h
  .rw [Array.getElem?_eq_none (by simpa using h')] at h;simp at h
 .rw [Array.getElem?_setIfInBounds_ne e] at h;exact ⟨λhh=>e hh.symm,by rw [Array.getD_eq_getD_getElem?];exact h⟩
def gT(ops:Array Oper)(W w0:World)(aF:List Own)(aA:θ)(dl:Option Nat)(cu:List Own)(ψ:θ)(B:List Nat)(x:Array Bool)(w:World):Prop:=kR ops x=true/\(∃ S,Ctx W w (aF++S) aA)/\((∃ b∈B,x.getD b true=false)->w=w0)/\∀ d,dl=some d->x.getD d true=false->∃ S,Ctx W w (cu++S) ψ
theorem gT.down{W w0 aF cu aA ψ dl B i x w}(hi:i∈Region.ready .any ops x)(h:gT ops W w0 aF aA dl cu ψ B x w):gT ops W w0 aF aA dl cu ψ B (x.setIfInBounds i true) w :=
 ⟨yQ h.1 hi,h.2.1,λ⟨b,hb,hx⟩=>h.2.2.1 ⟨b,hb,(xl hx).2⟩,λd hd hx=>h.2.2.2 d hd (xl hx).2⟩
inductive wW(ops:Array Oper)(b:Nat):Nat->Prop
 | one {k:Nat} {o:Oper} {e:Edge}:ops[k]? = some o->e∈o.after->Region.binds .any e=true->e.on=b->wW ops b k
 | more {k:Nat} {o:Oper} {e:Edge}:ops[k]? = some o->e∈o.after->Region.binds .any e=true->wW ops b e.on->wW ops b k
theorem a0J{b}:∀ (l acc:List Nat),(∀ k∈acc,wW ops b k)->∀ k∈waits ops b l acc,wW ops b k
 | [],_,h,k,hk=>h k hk
 | j :: r,acc,h,k,hk=>by
  unfold waits at hk;refine a0J r _ ?_ k hk;intro k hk;split at hk
  .rename_i o ho;split at hk
   .rename_i ha;rcases List.mem_cons.1 hk with rfl|hk
    .simp only [Array.any_eq_true',Bool.and_eq_true,Bool.or_eq_true] at ha;obtain ⟨e,he,hbd,q3⟩:=ha;rcases q3 with q3|q3
     .exact .one ho he hbd (Nat.eq_of_beq_eq_true q3)
     .exact .more ho he hbd (h _ (s4.1 q3))
    .exact h k hk
   .exact h k hk
  .exact h k hk
theorem wW.listed{b x}(hc:kR ops x=true){k}(h:wW ops b k):(∀ (o:Oper) (e:Edge),ops[k]? = some o->e∈o.after->Region.binds .any e=true->x.getD e.on false=true)->x.getD b false=true:=by
 induction h with
 | one ho he hb q3=>intro hall;rw [<-q3];exact hall _ _ ho he hb
 | @more k o e ho he hb _ ih =>
  intro hall;have h1:=hall _ _ ho he hb;refine ih λo' e' ho' he' hb'=>?_;have hlt:e.on<ops.size:=(Array.getElem?_eq_some_iff.1 ho').1;have h2:=List.all_eq_true.1 hc e.on (List.mem_range.2 hlt);have h3:x.getD e.on true=true:=by
   rw [Array.getD_eq_getD_getElem?] at h1 ⊢;cases hx:x[e.on]? with
   | none=>rfl
   | some c=>rw [hx] at h1;simpa using h1
  rw [h3,ho'] at h2;simp only [Bool.not_true,Bool.false_or] at h2;have h4:=List.all_eq_true.1 h2 e' (by simpa using he');rw [hb'] at h4;simpa using h4
theorem wW.later{b d x}(hc:kR ops x=true)(h:wW ops b d)(hb:x.getD b true=false):x.getD d true=false:=by
 cases hd:x.getD d true with
 | false=>rfl
 | true =>
  exfalso;have h3:=h.listed hc λo e ho he hbd=>by
   have hlt:d<ops.size:=(Array.getElem?_eq_some_iff.1 ho).1;have h2:=List.all_eq_true.1 hc d (List.mem_range.2 hlt);rw [hd,ho] at h2;simp only [Bool.not_true,Bool.false_or] at h2;have h4:=List.all_eq_true.1 h2 e (by simpa using he);rw [hbd] at h4;simpa using h4
  rw [Array.getD_eq_getD_getElem?] at h3 hb;cases hx:x[b]? with
  | none=>rw [hx] at h3;cases h3
  | some c=>rw [hx] at h3 hb;simp at h3 hb;rw [h3] at hb;cases hb
theorem gT.mono{W w0 aF cu aA ψ dl B rd}(iy:yO ops rd B=true){i}(jz:dl≠some i)(x j w w')(hi:i∈Region.ready .any ops x)(hj:j∈Region.ready .any ops x)(hji:j≠i)(h:gT ops W w0 aF aA dl cu ψ B x w)(hrd:c6 j rd=true->w'=w)(h':gT ops W w0 aF aA dl cu ψ B ((x.setIfInBounds i true).setIfInBounds j true) w'):gT ops W w0 aF aA dl cu ψ B (x.setIfInBounds j true) w':=by
 refine ⟨yQ h.1 hj,h'.2.1,λ⟨b,hb,hx⟩=>?_,λd hd hx=>h'.2.2.2 d hd (by rw [getD_set_ne true (Ne.symm (xl hx).1),getD_set_ne true (λe=>jz (by rw [hd,e]))];exact (xl hx).2)⟩;obtain ⟨aK5,vu⟩:=xl hx;by_cases QL:b=i
 .subst QL;have hw:=h.2.2.1 ⟨b,hb,vu⟩;cases hm:c6 j rd with
  | true=>rw [hrd hm,hw]
  | false =>
   exfalso;unfold yO at iy;have h1:=List.all_eq_true.1 iy b hb;simp only [Bool.and_eq_true] at h1;obtain ⟨_,o,ho,hall⟩:=mem_ready.1 hj;have hlt:j<ops.size:=(Array.getElem?_eq_some_iff.1 ho).1;have h2:=List.all_eq_true.1 h1.2 j (List.mem_range.2 hlt);rw [hm] at h2;simp only [Bool.false_or] at h2;have dV:=a0J (ops:=ops) (b:=b) _ [] (λk hk=>by cases hk) j (s4.1 h2);have h3:=dV.listed h.1 λo' e ho' he hbd=>by
    rw [ho] at ho';cases ho';exact hall e he hbd
   rw [Array.getD_eq_getD_getElem?] at h3 vu;cases hx':x[b]? with
   | none=>rw [hx'] at h3;cases h3
   | some c=>rw [hx'] at h3 vu;simp at h3 vu;rw [h3] at vu;cases vu
 .refine h'.2.2.1 ⟨b,hb,?_⟩;rw [getD_set_ne true (Ne.symm aK5),getD_set_ne true (Ne.symm QL)];exact vu
theorem Fk{Q w0 w aF cu aA ψ dl B rd E K fin n i o v a listed}(hsel:Region.noSelect ops=true)(iy:yO ops rd B=true)(jz:dl≠some i)(yb:∀ x,E x->x=fin)(hl:Region.ready .any ops (fin.setIfInBounds i false)=[i])(hi:ops[i]? = some o)(hr:i∈Region.ready .any ops listed)(hf:Region.free .any ops listed i=true)(hy:YieldsIf P ops (λw=>∃ x,i∈Region.ready .any ops x/\gT ops W w0 aF aA dl cu ψ B x w) o v a)(hS:gT ops W w0 aF aA dl cu ψ B listed w)(H:qJ P .any ops (gU Q) (gT ops W w0 aF aA dl cu ψ B) (λj=>c6 j rd) E K n (listed.setIfInBounds i true) (a.put o.dst v) w):qJ P .any ops (gU Q) (gT ops W w0 aF aA dl cu ψ B) (λj=>c6 j rd) E K (n+1) listed a w:=by
 refine aRz hi (Region.noSelect_spec hsel) (λ_ _ _ h=>h) (λl hl' rZ j hj=>?_) (λx w hi h=>h.down hi) (gT.mono iy jz) n listed a w (Region.free_spec hi hf) hr hy hS H;have hl':=yb _ hl';have e:l=fin.setIfInBounds i false:=by
  have h0:=(mem_ready.1 rZ).1;rw [<-hl'];have h2:l[i]? = some false:=by
   rw [Array.getD_eq_getD_getElem?] at h0;cases hx:l[i]? with
   | none=>rw [hx] at h0;cases h0
   | some b=>rw [hx] at h0;simp at h0;subst h0;rfl
  have hlt:i<l.size:=(Array.getElem?_eq_some_iff.1 h2).1;apply Array.ext_getElem?;intro k;by_cases hk:i=k
  .subst hk;rw [Array.getElem?_setIfInBounds_self_of_lt (by simpa using hlt),h2]
  .rw [Array.getElem?_setIfInBounds_ne hk,Array.getElem?_setIfInBounds_ne hk]
 rw [e,hl] at hj;simpa using hj
theorem MR{Q L R Φ aA ψ aF cu dl w0 w B rd gR K E fin m}(hsel:Region.noSelect ops=true)(iy:yO ops rd B=true)(yb:∀ x,E x->x=fin)(hD:∀ (j:Nat) (o:Oper) (t:Nat),ops[j]? = some o->o.dst=some t->D t):
  ∀ (T:List Nat) (listed:Array Bool) (s:ai) (a:Act) (_:∀ i∈T,dl≠some i) (_:∀ s a,gR s->dI ds G W s L R Φ a w->bn D s0 (s.fr L)->gT ops W w0 aF aA dl cu ψ B (eH T listed) w->qJ P .any ops (gU Q) (gT ops W w0 aF aA dl cu ψ B) (λj=>c6 j rd) E K m (eH T listed) a w),
   (∀ i∈T,Region.ready .any ops (fin.setIfInBounds i false)=[i])->sC ops T listed=true->Aj P W wr ops L aF aA T s gR->dI ds G W s L R Φ a w->bn D s0 (s.fr L)->gT ops W w0 aF aA dl cu ψ B listed w ->
   qJ P .any ops (gU Q) (gT ops W w0 aF aA dl cu ψ B) (λj=>c6 j rd) E K (T.length+m) listed a w
 | [],listed,s,a,jz,hK,_,_,h,ha,hu,hS=>by simp only [List.length_nil,Nat.zero_add];exact hK s a h ha hu hS
 | i :: r,listed,s,a,jz,hK,hl,ho,h,ha,hu,hS=>by
  simp only [sC,Bool.and_eq_true] at ho;obtain ⟨⟨fc,kV⟩,mo⟩:=ho;unfold Aj at h;split at h
  .exact h.elim
  rename_i o hi;have hd:∀ t,o.dst=some t->D t:=λt ht=>hD i o t hi ht;have take:∀ (s':ai) (sv:bk) (v':Value),dI ds G W s' L R Φ a w->bn D s0 (s'.fr L)->(∀ k o,sv=bk.ptr k o->(bl k L).isSome=true)->(fG (sv.val L)=false->v'=sv.val L) ->
    YieldsIf P ops (λw=>∃ x,i∈Region.ready .any ops x/\gT ops W w0 aF aA dl cu ψ B x w) o v' a->Aj P W wr ops L aF aA r (s'.put o.dst sv) gR ->
    qJ P .any ops (gU Q) (gT ops W w0 aF aA dl cu ψ B) (λj=>c6 j rd) E K ((i :: r).length+m) listed a w:=by
   intro s' sv v' aC bF hp hv hy hk;have ih:=MR (Q:=Q) hsel iy yb hD r (listed.setIfInBounds i true) (s'.put o.dst sv) (a.put o.dst v') (λj hj=>jz j (List.mem_cons_of_mem _ hj)) hK (λj hj=>hl j (List.mem_cons_of_mem _ hj)) mo hk (aC.put o.dst (Ext.refl _) hp aC.ctx aC.st hv) (bF.o5 aC.wf (Ext.refl _) hd) (hS.down (by simpa using fc));rw [show (i :: r).length+m=(r.length+m)+1 by simp;omega];exact Fk hsel iy (jz i (by simp)) yb (hl i (by simp)) hi (by simpa using fc) kV hy hS ih
  obtain ⟨s',aC,bF,h⟩:=wq hD h ha hu;rcases h with ⟨dV,h⟩|⟨dV,h⟩
  .obtain ⟨sv,v',h1,h2,h3,h4⟩:=RS h aC;exact take s' sv v' aC bF h2 h3 (.inl ⟨dV,λw' ⟨x,_,hx⟩=>h4 w' hx.2.1⟩) h1
  .exact take s' (.v undef) undef aC bF (λk o e=>by cases e) (λ_=>rfl) (.inr ⟨dV,rfl⟩) h
theorem Ca{b}:∀ (T:List Nat) (x:Array Bool),(b∈T\/x.getD b true=true)->(eH T x).getD b true=true
 | [],x,h=>by rcases h with h|h;cases h;exact h
 | i :: r,x,h=>by
  unfold eH;refine Ca r _ ?_;by_cases a58:b∈r
  .exact .inl a58
  .right
   cases hc:(x.setIfInBounds i true).getD b true with
   | true=>rfl
   | false =>
    obtain ⟨h1,h2⟩:=xl hc;rcases h with h|h
    .rcases List.mem_cons.1 h with h|h
     .exact absurd h h1
     .exact absurd h a58
    .rw [h] at h2;cases h2
theorem a5o{Q L R Φ aA aF w B rd gR K E fin m}(hsel:Region.noSelect ops=true)(iy:yO ops rd B=true)(yb:∀ x,E x->x=fin)(hD:∀ (j:Nat) (o:Oper) (t:Nat),ops[j]? = some o->o.dst=some t->D t):
  ∀ (T:List Nat) (listed:Array Bool) (s:ai) (a:Act) (_:∀ s a,gR s->dI ds G W s L R Φ a w->bn D s0 (s.fr L)->gT ops W w aF aA none aF aA B (eH T listed) w->qJ P .any ops (gU Q) (gT ops W w aF aA none aF aA B) (λj=>c6 j rd) E K m (eH T listed) a w),
   (∀ i∈T,Region.ready .any ops (fin.setIfInBounds i false)=[i])->sC ops T listed=true->FA P W wr ops L R Φ aF aA B T s gR->dI ds G W s L R Φ a w->bn D s0 (s.fr L)->gT ops W w aF aA none aF aA B listed w ->
   qJ P .any ops (gU Q) (gT ops W w aF aA none aF aA B) (λj=>c6 j rd) E K (T.length+m) listed a w
 | [],listed,s,a,hK,_,_,h,ha,hu,hS=>by simp only [List.length_nil,Nat.zero_add];exact hK s a h ha hu hS
 | i :: r,listed,s,a,hK,hl,ho,h,ha,hu,hS=>by
  simp only [sC,Bool.and_eq_true] at ho;obtain ⟨⟨fc,kV⟩,mo⟩:=ho;unfold FA at h;split at h
  .exact h.elim
  rename_i o hi;have hd:∀ t,o.dst=some t->D t:=λt ht=>hD i o t hi ht;have take:∀ (s':ai) (sv:bk) (v':Value),dI ds G W s' L R Φ a w->bn D s0 (s'.fr L)->(∀ k o,sv=bk.ptr k o->(bl k L).isSome=true)->(fG (sv.val L)=false->v'=sv.val L) ->
    YieldsIf P ops (λw'=>∃ x,i∈Region.ready .any ops x/\gT ops W w aF aA none aF aA B x w') o v' a->FA P W wr ops L R Φ aF aA B r (s'.put o.dst sv) gR ->
    qJ P .any ops (gU Q) (gT ops W w aF aA none aF aA B) (λj=>c6 j rd) E K ((i :: r).length+m) listed a w:=by
   intro s' sv v' aC bF hp hv hy hk;have ih:=a5o (Q:=Q) hsel iy yb hD r (listed.setIfInBounds i true) (s'.put o.dst sv) (a.put o.dst v') hK (λj hj=>hl j (List.mem_cons_of_mem _ hj)) mo hk (aC.put o.dst (Ext.refl _) hp aC.ctx aC.st hv) (bF.o5 aC.wf (Ext.refl _) hd) (hS.down (by simpa using fc));rw [show (i :: r).length+m=(r.length+m)+1 by simp;omega];exact Fk hsel iy (λe=>by cases e) yb (hl i (by simp)) hi (by simpa using fc) kV hy hS ih
  obtain ⟨s',aC,bF,h⟩:=wq hD h ha hu;rcases h with ⟨dV,h⟩|⟨dV,h⟩
  .split at h
   .rename_i hB;obtain ⟨sv,v',h1,h2,h3,h4⟩:=YA h aC;exact take s' sv v' aC bF h2 h3 (.inl ⟨dV,λw' ⟨x,nD,hx⟩=>by rw [hx.2.2.1 ⟨i,s4.1 hB,(mem_ready.1 nD).1⟩];exact h4⟩) h1
   .obtain ⟨sv,v',h1,h2,h3,h4⟩:=RS h aC;exact take s' sv v' aC bF h2 h3 (.inl ⟨dV,λw' ⟨x,_,hx⟩=>h4 w' hx.2.1⟩) h1
  .exact take s' (.v undef) undef aC bF (λk o e=>by cases e) (λ_=>rfl) (.inr ⟨dV,rfl⟩) h
theorem a5n{Q L R Φ aA ψ aF cu dl C w B rd gR K E fin m}(hsel:Region.noSelect ops=true)(iy:yO ops rd B=true)(jz:c6 dl rd=false)(QG:∀ c∈C,wW ops c dl)(yb:∀ x,E x->x=fin)(hD:∀ (j:Nat) (o:Oper) (t:Nat),ops[j]? = some o->o.dst=some t->D t):
  ∀ (T:List Nat) (listed:Array Bool) (s:ai) (a:Act) (_:∀ s a,gR s->dI ds G W s L R Φ a w->bn D s0 (s.fr L)->gT ops W w aF aA (some dl) cu ψ B (eH T listed) w->qJ P .any ops (gU Q) (gT ops W w aF aA (some dl) cu ψ B) (λj=>c6 j rd) E K m (eH T listed) a w),
   (∀ i∈T,i∈rd)->(∀ i∈T,Region.ready .any ops (fin.setIfInBounds i false)=[i])->sC ops T listed=true->CM P W wr ops L R Φ aF aA C cu ψ B T s gR->dI ds G W s L R Φ a w->bn D s0 (s.fr L)->gT ops W w aF aA (some dl) cu ψ B listed w ->
   qJ P .any ops (gU Q) (gT ops W w aF aA (some dl) cu ψ B) (λj=>c6 j rd) E K (T.length+m) listed a w
 | [],listed,s,a,hK,_,_,_,h,ha,hu,hS=>by simp only [List.length_nil,Nat.zero_add];exact hK s a h ha hu hS
 | i :: r,listed,s,a,hK,Ew,hl,ho,h,ha,hu,hS=>by
  simp only [sC,Bool.and_eq_true] at ho;obtain ⟨⟨fc,kV⟩,mo⟩:=ho;unfold CM at h;split at h
  .exact h.elim
  rename_i o hi;have hd:∀ t,o.dst=some t->D t:=λt ht=>hD i o t hi ht;have take:∀ (s':ai) (sv:bk) (v':Value),dI ds G W s' L R Φ a w->bn D s0 (s'.fr L)->(∀ k o,sv=bk.ptr k o->(bl k L).isSome=true)->(fG (sv.val L)=false->v'=sv.val L) ->
    YieldsIf P ops (λw'=>∃ x,i∈Region.ready .any ops x/\gT ops W w aF aA (some dl) cu ψ B x w') o v' a->CM P W wr ops L R Φ aF aA C cu ψ B r (s'.put o.dst sv) gR ->
    qJ P .any ops (gU Q) (gT ops W w aF aA (some dl) cu ψ B) (λj=>c6 j rd) E K ((i :: r).length+m) listed a w:=by
   intro s' sv v' aC bF hp hv hy hk;have ih:=a5n (Q:=Q) hsel iy jz QG yb hD r (listed.setIfInBounds i true) (s'.put o.dst sv) (a.put o.dst v') hK (λj hj=>Ew j (List.mem_cons_of_mem _ hj)) (λj hj=>hl j (List.mem_cons_of_mem _ hj)) mo hk (aC.put o.dst (Ext.refl _) hp aC.ctx aC.st hv) (bF.o5 aC.wf (Ext.refl _) hd) (hS.down (by simpa using fc));rw [show (i :: r).length+m=(r.length+m)+1 by simp;omega];exact Fk hsel iy (λe=>by have e:=Option.some.inj e;rw [e,s4.2 (Ew i (by simp))] at jz;cases jz) yb (hl i (by simp)) hi (by simpa using fc) kV hy hS ih
  obtain ⟨s',aC,bF,h⟩:=wq hD h ha hu;rcases h with ⟨dV,h⟩|⟨dV,h⟩
  .split at h
   .rename_i hB;obtain ⟨sv,v',h1,h2,h3,h4⟩:=YA h aC;exact take s' sv v' aC bF h2 h3 (.inl ⟨dV,λw' ⟨x,nD,hx⟩=>by rw [hx.2.2.1 ⟨i,s4.1 hB,(mem_ready.1 nD).1⟩];exact h4⟩) h1
   .split at h
    .rename_i hC;obtain ⟨sv,v',h1,h2,h3,h4⟩:=RS h aC;exact take s' sv v' aC bF h2 h3 (.inl ⟨dV,λw' ⟨x,nD,hx⟩=>h4 w' (hx.2.2.2 dl rfl ((QG i (s4.1 hC)).later hx.1 (mem_ready.1 nD).1))⟩) h1
    .obtain ⟨sv,v',h1,h2,h3,h4⟩:=RS h aC;exact take s' sv v' aC bF h2 h3 (.inl ⟨dV,λw' ⟨x,_,hx⟩=>h4 w' hx.2.1⟩) h1
  .exact take s' (.v undef) undef aC bF (λk o e=>by cases e) (λ_=>rfl) (.inr ⟨dV,rfl⟩) h
theorem U1{Q L0 w0 aF aA B rd gR K fin}(hsel:Region.noSelect ops=true)(iy:yO ops rd B=true)(hD:∀ (j:Nat) (o:Oper) (t:Nat),ops[j]? = some o->o.dst=some t->D t)(hK:∀ s L R Φ a w,gR s L R Φ->dI ds G W s L R Φ a w->Ext L0 L->bn D s0 (s.fr L)->K a w):
  ∀ (l:List (Nat × List Nat)) (listed:Array Bool) (s:ai) (L:List aM) (R:List Own) (Φ:θ) (a:Act) (w:World),kR ops listed=true->(∀ p∈l,∀ i∈p.2,Region.ready .any ops (fin.setIfInBounds i false)=[i])->zv ops fin l listed=true->Kj P W wr iN ops aF aA l s L R Φ gR->dI ds G W s L R Φ a w->(∀ w F,Ctx W w (R++F) Φ->Ctx W w (aF++F) aA)->Ext L0 L->bn D s0 (s.fr L) ->
   (∀ b∈B,listed.getD b true=true)->(∀ p∈l,c6 p.1 rd=false)->qJ P .any ops (gU Q) (gT ops W w0 aF aA none aF aA B) (λj=>c6 j rd) (λx=>x=fin/\Region.ready .any ops x=[]) K (EY l) listed a w
 | [],listed,s,L,R,Φ,a,w,_,_,ho,h,ha,cL,he,hu,_,_=>by
  simp only [zv,Bool.and_eq_true,decide_eq_true_eq,List.isEmpty_iff] at ho;exact ⟨ho,hK _ _ _ _ _ _ h ha he hu⟩
 | (i,T) :: rest,listed,s,L,R,Φ,a,w,cW,hl,ho,h,ha,cL,he,hu,hB,hn=>by
  simp only [zv,Bool.and_eq_true,beq_iff_eq] at ho;obtain ⟨h1,h2,h3⟩:=ho;unfold Kj at h;split at h
  .exact h.elim
  rename_i o hi;have hd:∀ t,o.dst=some t->D t:=λt ht=>hD i o t hi ht;have Es:∀ b∈B,(listed.setIfInBounds i true).getD b true=true:=λb hb=>by
   cases hc:(listed.setIfInBounds i true).getD b true with
   | true=>rfl
   | false=>have:=(xl hc).2;rw [hB b hb] at this;cases this
  have sd:∀ {w':World} {R':List Own} {η:θ} {L':List aM},eZ G W w' L' R' η->(∀ w F,Ctx W w (R'++F) η->Ctx W w (aF++F) aA)->gT ops W w0 aF aA none aF aA B (listed.setIfInBounds i true) w':=λhc AR =>
   ⟨yQ cW (by rw [h1];simp),⟨_,AR _ _ hc⟩,λ⟨b,hb,hx⟩=>(by rw [Es b hb] at hx;cases hx),λd e=>by cases e⟩
  refine ⟨by rw [h1];simp,λj hj=>?_⟩;rw [h1] at hj;have hj:j=i:=by simpa using hj
  subst hj;obtain ⟨s',aC,bF,gv⟩:=wq hD h ha hu;unfold wpOp;simp only [hi];have tJ:=hn (j,T) (by simp);rcases gv with ⟨dV,h⟩|⟨dV,h⟩
  .simp only [dV,if_true];have:=aC.st;refine .inl (Oper.JR (IU h aC.fT aC.wf aC.ctx λsv L' R' η v' w' hk hst kU hp hc hv=>⟨sd hc hk.1,λe=>(by rw [tJ] at e;cases e),?_⟩));refine MR hsel iy (λx hx=>hx.1) hD T _ _ _ (λi _ e=>by cases e) (λs a hk' x4 xF l7=>?_) (hl (j,T) (by simp)) h2 hk.2 (aC.put o.dst kU hp hc hst hv) (bF.o5 aC.wf kU hd) (sd hc hk.1);exact U1 hsel iy hD hK rest _ _ _ _ _ _ _ l7.1 (λp hp'=>hl p (List.mem_cons_of_mem _ hp')) h3 hk' x4 hk.1 (he.trans kU) xF (λb hb=>Ca T _ (.inr (Es b hb))) (λp hp'=>hn p (List.mem_cons_of_mem _ hp'))
  .simp only [dV,Bool.false_eq_true,if_false];refine ⟨sd aC.ctx cL,λe=>(by rw [tJ] at e;cases e),?_⟩;refine MR hsel iy (λx hx=>hx.1) hD T _ _ _ (λi _ e=>by cases e) (λs a hk' x4 xF l7=>?_) (hl (j,T) (by simp)) h2 h (aC.put o.dst (Ext.refl _) (λk o e=>by cases e) aC.ctx aC.st (λ_=>rfl)) (bF.o5 aC.wf (Ext.refl _) hd) (sd aC.ctx cL);exact U1 hsel iy hD hK rest _ _ _ _ _ _ _ l7.1 (λp hp'=>hl p (List.mem_cons_of_mem _ hp')) h3 hk' x4 cL he xF (λb hb=>Ca T _ (.inr (Es b hb))) (λp hp'=>hn p (List.mem_cons_of_mem _ hp'))
theorem U0{Q L0 w0 aF cu aA ψ dl B rd gR K fin}(hsel:Region.noSelect ops=true)(iy:yO ops rd B=true)(jz:c6 dl rd=false)(hD:∀ (j:Nat) (o:Oper) (t:Nat),ops[j]? = some o->o.dst=some t->D t)(hK:∀ s L R Φ a w,gR s L R Φ->dI ds G W s L R Φ a w->Ext L0 L->bn D s0 (s.fr L)->K a w):
  ∀ (l:List (Nat × List Nat)) (up:Bool) (listed:Array Bool) (s:ai) (L:List aM) (R:List Own) (Φ:θ) (a:Act) (w:World),kR ops listed=true->(∀ p∈l,∀ i∈p.2,Region.ready .any ops (fin.setIfInBounds i false)=[i])->zv ops fin l listed=true->Kk P W wr iN ops aF aA dl cu ψ up l s L R Φ gR->dI ds G W s L R Φ a w->(∀ w F,Ctx W w (R++F) Φ->Ctx W w (aF++F) aA)->(listed.getD dl true=false->up=true/\∀ w F,Ctx W w (R++F) Φ->Ctx W w (cu++F) ψ)->(∀ p∈l,∀ i∈p.2,i∈rd)->Ext L0 L->bn D s0 (s.fr L) ->
   (∀ b∈B,listed.getD b true=true)->(∀ p∈l,c6 p.1 rd=false)->qJ P .any ops (gU Q) (gT ops W w0 aF aA (some dl) cu ψ B) (λj=>c6 j rd) (λx=>x=fin/\Region.ready .any ops x=[]) K (EY l) listed a w
 | [],up,listed,s,L,R,Φ,a,w,_,_,ho,h,ha,cL,_,_,he,hu,_,_=>by
  simp only [zv,Bool.and_eq_true,decide_eq_true_eq,List.isEmpty_iff] at ho;exact ⟨ho,hK _ _ _ _ _ _ h ha he hu⟩
 | (i,T) :: rest,up,listed,s,L,R,Φ,a,w,cW,hl,ho,h,ha,cL,gA,hrd,he,hu,hB,hn=>by
  simp only [zv,Bool.and_eq_true,beq_iff_eq] at ho;obtain ⟨h1,h2,h3⟩:=ho;unfold Kk at h;split at h
  .exact h.elim
  rename_i o hi;have hd:∀ t,o.dst=some t->D t:=λt ht=>hD i o t hi ht;have Es:∀ b∈B,(listed.setIfInBounds i true).getD b true=true:=λb hb=>by
   cases hc:(listed.setIfInBounds i true).getD b true with
   | true=>rfl
   | false=>have:=(xl hc).2;rw [hB b hb] at this;cases this
  have sd:∀ {w':World} {R':List Own} {η:θ} {L':List aM},eZ G W w' L' R' η->(∀ w F,Ctx W w (R'++F) η->Ctx W w (aF++F) aA)->((listed.setIfInBounds i true).getD dl true=false->∀ w F,Ctx W w (R'++F) η->Ctx W w (cu++F) ψ)->gT ops W w0 aF aA (some dl) cu ψ B (listed.setIfInBounds i true) w':=λhc AR nF =>
   ⟨yQ cW (by rw [h1];simp),⟨_,AR _ _ hc⟩,λ⟨b,hb,hx⟩=>(by rw [Es b hb] at hx;cases hx),λd e hx=>by cases e;exact ⟨_,nF hx _ _ hc⟩⟩
  have Qj:∀ (R':List Own) (η:θ),KK dl i up (∀ w F,Ctx W w (R'++F) η->Ctx W w (cu++F) ψ)->(listed.setIfInBounds i true).getD dl true=false->(up && !(Nat.beq dl i))=true/\∀ w F,Ctx W w (R'++F) η->Ctx W w (cu++F) ψ:=by
   intro R' η hq hx;obtain ⟨hne,hx⟩:=xl hx;have hb:Nat.beq dl i=false:=by cases hb:Nat.beq dl i with|false=>rfl|true=>exact absurd (Nat.eq_of_beq_eq_true hb) hne
   have hu:=(gA hx).1;rw [hu] at hq ⊢;unfold KK at hq;rw [hb] at hq ⊢;exact ⟨rfl,hq⟩
  have hun:∀ (T:List Nat) (x:Array Bool),(eH T x).getD dl true=false->x.getD dl true=false:=λT x hx=>by
   cases hc:x.getD dl true with
   | false=>rfl
   | true=>rw [Ca T x (.inr hc)] at hx;cases hx
  have a4z:∀ i∈T,some dl≠some i:=λk hk e=>by
   cases e;rw [s4.2 (hrd (i,T) (by simp) dl hk)] at jz;cases jz
  refine ⟨by rw [h1];simp,λj hj=>?_⟩;rw [h1] at hj;have hj:j=i:=by simpa using hj
  subst hj;obtain ⟨s',aC,bF,gv⟩:=wq hD h ha hu;unfold wpOp;simp only [hi];have tJ:=hn (j,T) (by simp);rcases gv with ⟨dV,h⟩|⟨dV,h⟩
  .simp only [dV,if_true];have:=aC.st;refine .inl (Oper.JR (IU h aC.fT aC.wf aC.ctx λsv L' R' η v' w' hk hst kU hp hc hv=>⟨sd hc hk.1 (λhx=>(Qj _ _ hk.2.1 hx).2),λe=>(by rw [tJ] at e;cases e),?_⟩));refine MR hsel iy (λx hx=>hx.1) hD T _ _ _ a4z (λs a hk' x4 xF l7=>?_) (hl (j,T) (by simp)) h2 hk.2.2 (aC.put o.dst kU hp hc hst hv) (bF.o5 aC.wf kU hd) (sd hc hk.1 (λhx=>(Qj _ _ hk.2.1 hx).2));exact U0 hsel iy jz hD hK rest _ _ _ _ _ _ _ _ l7.1 (λp hp'=>hl p (List.mem_cons_of_mem _ hp')) h3 hk' x4 hk.1 (λhx=>Qj _ _ hk.2.1 (hun _ _ hx)) (λp hp'=>hrd p (List.mem_cons_of_mem _ hp')) (he.trans kU) xF (λb hb=>Ca T _ (.inr (Es b hb))) (λp hp'=>hn p (List.mem_cons_of_mem _ hp'))
  .simp only [dV,Bool.false_eq_true,if_false];have hq:(listed.setIfInBounds j true).getD dl true=false->∀ w F,Ctx W w (R++F) Φ->Ctx W w (cu++F) ψ:=λhx=>(gA (xl hx).2).2;have F3:KK dl j up (∀ w F,Ctx W w (R++F) Φ->Ctx W w (cu++F) ψ)\/listed.getD dl true=true:=by
    cases hc:listed.getD dl true with
    | true=>exact .inr rfl
    | false=>left;unfold KK;split;trivial;split;trivial;exact (gA hc).2
   have yf:(listed.setIfInBounds j true).getD dl true=false->(up && !(Nat.beq dl j))=true/\∀ w F,Ctx W w (R++F) Φ->Ctx W w (cu++F) ψ:=λhx=>by
    rcases F3 with h|h
    .exact Qj _ _ h hx
    .rw [(xl hx).2] at h;cases h
   refine ⟨sd aC.ctx cL hq,λe=>(by rw [tJ] at e;cases e),?_⟩;refine MR hsel iy (λx hx=>hx.1) hD T _ _ _ a4z (λs a hk' x4 xF l7=>?_) (hl (j,T) (by simp)) h2 h (aC.put o.dst (Ext.refl _) (λk o e=>by cases e) aC.ctx aC.st (λ_=>rfl)) (bF.o5 aC.wf (Ext.refl _) hd) (sd aC.ctx cL hq);exact U0 hsel iy jz hD hK rest _ _ _ _ _ _ _ _ l7.1 (λp hp'=>hl p (List.mem_cons_of_mem _ hp')) h3 hk' x4 cL (λhx=>yf (hun _ _ hx)) (λp hp'=>hrd p (List.mem_cons_of_mem _ hp')) he xF (λb hb=>Ca T _ (.inr (Es b hb))) (λp hp'=>hn p (List.mem_cons_of_mem _ hp'))
theorem J7{Q L0 K}(hsel:Region.noSelect ops=true)(hD:∀ (j:Nat) (o:Oper) (t:Nat),ops[j]? = some o->o.dst=some t->D t)(hK:∀ s L R Φ a w,K s L R Φ->dI ds G W s L R Φ a w->Ext L0 L->bn D s0 (s.fr L)->Q .normal a w):
  ∀ (l:List Bp) (listed:Array Bool) (s:ai) (L:List aM) (R:List Own) (Φ:θ) (a:Act) (w:World),vI ops l listed=true->vL P W wr iN ops l s L R Φ K->dI ds G W s L R Φ a w->Ext L0 L->bn D s0 (s.fr L) ->
   wpAny P .any ops (gU Q) (DC l) listed a w
 | [],listed,s,L,R,Φ,a,w,ho,h,ha,he,hu=>by
  refine ⟨?_,hK _ _ _ _ _ _ h ha he hu⟩;simpa [vI] using ho
 | .bJ T none :: rest,listed,s,L,R,Φ,a,w,ho,h,ha,he,hu=>by
  simp only [vI,Bool.and_eq_true] at ho;obtain ⟨⟨fc,kV⟩,mo⟩:=ho;unfold vL at h;exact aAX hsel hD (λs a h ha hu=>J7 hsel hD hK rest _ s L R Φ a w mo h ha he hu) fc kV h ha hu
 | .tree t n :: rest,listed,s,L,R,Φ,a,w,ho,h,ha,he,hu=>by
  simp only [vI,Bool.and_eq_true] at ho;obtain ⟨⟨vo,fc⟩,mo⟩:=ho;unfold vL at h;obtain ⟨aF,aA,kW,AA,h⟩:=h;refine Sb (S:=λw'=>Ctx W w' (aF++(L.map aM.own++G)) aA) (E:=λl=>l=eH (IV t) listed) (K:=λa' w'=>wpAny P .any ops (gU Q) (DC rest) (eH (IV t) listed) a' w') ?_ n listed a w ?_
  .rintro l a w1 rfl hk;exact hk
  .exact (Nj hsel kW hD (λs R Φ a w hk ha hu=>J7 hsel hD hK rest _ s L R Φ a w mo hk ha he hu) t).1 n listed s R Φ a w vo fc h ha AA hu
 | .held ord :: rest,listed,s,L,R,Φ,a,w,ho,h,ha,he,hu=>by
  simp only [vI,Bool.and_eq_true] at ho;obtain ⟨⟨⟨fc,vo⟩,kV⟩,mo⟩:=ho;unfold vL at h;have hl:∀ j∈BB ord,Region.ready .any ops ((eH (ord.map (·.1)) listed).setIfInBounds j false)=[j]\/kR ops ((eH (ord.map (·.1)) listed).setIfInBounds j false)=false:=by
   intro j hj;have:=List.all_eq_true.1 kV j hj;simpa using this
  obtain ⟨aF,aA,kW,AA,h⟩:=h;refine Sb (S:=λw'=>Ctx W w' (aF++(L.map aM.own++G)) aA) (E:=λl=>l=eH (ord.map (·.1)) listed) (K:=λa' w'=>wpAny P .any ops (gU Q) (DC rest) (eH (ord.map (·.1)) listed) a' w') ?_ ord.length listed a w ?_
  .rintro l a w1 rfl hk;exact hk
  .exact QJ hsel kW hD (λs R Φ a w hk ha hu=>J7 hsel hD hK rest _ s L R Φ a w mo hk ha he hu) ord listed s R Φ a w hl vo fc rfl h ha AA hu
 | .late B cw l :: rest,listed,s,L,R,Φ,a,w,ho,h,ha,he,hu=>by
  simp only [vI,Bool.and_eq_true] at ho;obtain ⟨⟨⟨⟨⟨⟨hc0,fc⟩,V5⟩,iy⟩,hla⟩,tJ⟩,jz⟩:=ho;unfold vL at h;have hl:∀ j∈pn cw l,Region.ready .any ops ((zu l (eH cw listed)).setIfInBounds j false)=[j]:=by
   intro j hj;have:=List.all_eq_true.1 hla j hj;simpa using this
  have QS:∀ (l:List (Nat × List Nat)),∀ i∈cw,i∈pn cw l:=by
   intro l
   induction l with
   | nil=>exact λi hi=>hi
   | cons p r ih=>obtain ⟨q,T⟩:=p;exact λi hi=>List.mem_append.2 (.inr (ih i hi))
  have hlt:∀ (l:List (Nat × List Nat)),∀ p∈l,∀ i∈p.2,i∈pn cw l:=by
   intro l
   induction l with
   | nil=>intro p hp;cases hp
   | cons q r ih =>
    obtain ⟨q,T⟩:=q;intro p hp i hi;rcases List.mem_cons.1 hp with rfl|hp
    .exact List.mem_append.2 (.inl hi)
    .exact List.mem_append.2 (.inr (ih p hp i hi))
  have hB:∀ b∈B,(eH cw listed).getD b true=true:=λb hb=>Ca cw listed (.inl (s4.1 (List.all_eq_true.1 V5 b hb)));obtain ⟨aF,aA,kW,AA,h⟩:=h;refine a0M (S:=gT ops W w aF aA none aF aA B) (rd:=λj=>c6 j (pn cw l)) (E:=λx=>x=zu l (eH cw listed)/\Region.ready .any ops x=[]) (K:=λa' w'=>gU Q .normal a' w') (λl a w1 hE hk=>⟨hE.2,hk⟩) (cw.length+EY l) listed a w ?_;refine a5o hsel iy (λx hx=>hx.1) hD cw listed s a (λs a hk ha hu l7=>?_) (λi hi=>hl i (QS l i hi)) fc h ha hu ⟨hc0,⟨_,AA _ _ ha.ctx⟩,λ_=>rfl,λd e=>by cases e⟩
  exact U1 hsel iy hD (λs L R Φ a w hk ha he hu=>hK _ _ _ _ _ _ hk ha he hu) l _ s L R Φ a w l7.1 (λp hp i hi=>hl i (hlt l p hp i hi)) jz hk ha AA he hu hB (λp hp=>by simpa using List.all_eq_true.1 tJ p hp)
 | .ID C dl B cw l :: rest,listed,s,L,R,Φ,a,w,ho,h,ha,he,hu=>by
  simp only [vI,Bool.and_eq_true] at ho;obtain ⟨⟨⟨⟨⟨⟨⟨⟨hc0,fc⟩,V5⟩,iy⟩,hla⟩,tJ⟩,jz⟩,hC⟩,Ey⟩:=ho;unfold vL at h;have hl:∀ j∈pn cw l,Region.ready .any ops ((zu l (eH cw listed)).setIfInBounds j false)=[j]:=by
   intro j hj;have:=List.all_eq_true.1 hla j hj;simpa using this
  have QS:∀ (l:List (Nat × List Nat)),∀ i∈cw,i∈pn cw l:=by
   intro l
   induction l with
   | nil=>exact λi hi=>hi
   | cons p r ih=>obtain ⟨q,T⟩:=p;exact λi hi=>List.mem_append.2 (.inr (ih i hi))
  have hlt:∀ (l:List (Nat × List Nat)),∀ p∈l,∀ i∈p.2,i∈pn cw l:=by
   intro l
   induction l with
   | nil=>intro p hp;cases hp
   | cons q r ih =>
    obtain ⟨q,T⟩:=q;intro p hp i hi;rcases List.mem_cons.1 hp with rfl|hp
    .exact List.mem_append.2 (.inl hi)
    .exact List.mem_append.2 (.inr (ih p hp i hi))
  have hB:∀ b∈B,(eH cw listed).getD b true=true:=λb hb=>Ca cw listed (.inl (s4.1 (List.all_eq_true.1 V5 b hb)));obtain ⟨aF,aA,kW,AA,cu,ψ,uq,a4x,h⟩:=h;have Ey:c6 dl (pn cw l)=false:=by simpa using Ey
  have QG:∀ c∈C,wW ops c dl:=λc hc=>a0J (ops:=ops) (b:=c) _ [] (λk hk=>by cases hk) dl (s4.1 (List.all_eq_true.1 hC c hc));refine a0M (S:=gT ops W w aF aA (some dl) cu ψ B) (rd:=λj=>c6 j (pn cw l)) (E:=λx=>x=zu l (eH cw listed)/\Region.ready .any ops x=[]) (K:=λa' w'=>gU Q .normal a' w') (λl a w1 hE hk=>⟨hE.2,hk⟩) (cw.length+EY l) listed a w ?_;refine a5n hsel iy Ey QG (λx hx=>hx.1) hD cw listed s a (λs a hk ha hu l7=>?_) (λi hi=>QS l i hi) (λi hi=>hl i (QS l i hi)) fc h ha hu ⟨hc0,⟨_,AA _ _ ha.ctx⟩,λ_=>rfl,λd e _=>⟨_,a4x _ _ ha.ctx⟩⟩
  exact U0 hsel iy Ey hD (λs L R Φ a w hk ha he hu=>hK _ _ _ _ _ _ hk ha he hu) l true _ s L R Φ a w l7.1 (λp hp i hi=>hl i (hlt l p hp i hi)) jz hk ha AA (λ_=>⟨rfl,a4x⟩) (λp hp i hi=>hlt l p hp i hi) he hu hB (λp hp=>by simpa using List.all_eq_true.1 tJ p hp)
 | .bJ T (some i) :: rest,listed,s,L,R,Φ,a,w,ho,h,ha,he,hu=>by
  simp only [vI,Bool.and_eq_true,beq_iff_eq] at ho;obtain ⟨⟨fc,kV⟩,h1,h2⟩:=ho;unfold vL at h;refine aAX hsel hD (λs a h ha hu=>?_) fc kV h ha hu;split at h
  .exact h.elim
  rename_i o hi;have hd:∀ t,o.dst=some t->D t:=λt ht=>hD i o t hi ht;refine ⟨λh0=>(by rw [h1] at h0;cases h0),λj hj=>?_⟩;rw [h1] at hj;have hj:j=i:=by simpa using hj
  subst hj;obtain ⟨s',aC,bF,gv⟩:=wq hD (by assumption) ha hu;clear h;have h:=gv;unfold wpOp;simp only [hi];rcases h with ⟨hw,h⟩|⟨hw,h⟩
  .simp only [hw,if_true];have:=aC.st;refine .inl (Oper.JR (IU h aC.fT aC.wf aC.ctx λsv L' R' η v' w' hk hst kU hp hc hv=>?_));exact J7 hsel hD hK rest _ _ _ _ _ _ _ h2 hk (aC.put o.dst kU hp hc hst hv) (he.trans kU) (bF.o5 aC.wf kU hd)
  .simp only [hw,Bool.false_eq_true,if_false];exact J7 hsel hD hK rest _ _ _ _ _ _ _ h2 h (aC.put o.dst (Ext.refl _) (λk o e=>by cases e) aC.ctx aC.st (λ_=>rfl)) he (bF.o5 aC.wf (Ext.refl _) hd)
theorem aOi{wr d es o s L R Φ a w g ch K}(h:Y3 P wr d es o s L w g ch K)(hr:Rel ds es (s.fr L) a)(hwf:ij L s)(hc:eZ G W w L R Φ)(hg:fu g ↔ Holds (s.fr L) ch):
  ∃ sv,(∀ k o,sv=bk.ptr k o->(bl k L).isSome=true)/\(fu g->∃ v,(fG (sv.val L)=false->v=sv.val L)/\∀ w',nW d w w'->o.quietAt P a (nW d w) w' v)/\K sv:=by
 have hev:=ya s L;have old:J4 P wr d es o (s.fr L) w g ch (λv=>K (.v v))->∃ sv,(∀ k o,sv=bk.ptr k o->(bl k L).isSome=true)/\(fu g->∃ v,(fG (sv.val L)=false->v=sv.val L)/\∀ w',nW d w w'->o.quietAt P a (nW d w) w' v)/\K sv:=by
  intro h;obtain ⟨u,h1,h2⟩:=aQA h hr hg;exact ⟨.v u,λk o e=>(by cases e),h1,h2⟩
 unfold Y3 at h;split at h
 .rename_i t x f hop;split at h
  .rename_i k off hx;split at h
   .rename_i hro;obtain ⟨T,hT⟩:=Option.isSome_iff_exists.1 (hwf.ev hx);obtain ⟨off',h1,h2⟩:=Pu hT h;refine ⟨.ptr k off',λk' o' e=>by cases e;rw [hT];rfl,λgv=>⟨_,λ_=>rfl,λw' hw=>?_⟩,h2⟩;have hv:a.eval x=.pointer (some ⟨T.b,off,none⟩):=by rw [D3 hro hr (hg.1 gv),hev,ai.val,hx,lF hT]
    unfold Oper.quietAt;simp only [execOp,hop,hv,Sem.run_bind,h1 w',Result.andThen,Sem.run_pure,Oper.quietUpon,lF hT];exact ⟨trivial,trivial⟩
   .exact h.elim
  .exact old h
 .rename_i t x hop;split at h
  .rename_i k off hx;split at h
   .rename_i hro;obtain ⟨T,hT⟩:=Option.isSome_iff_exists.1 (hwf.ev hx);obtain ⟨v,h1,h2⟩:=Wq hT (hc.blk hT) h;refine ⟨.v v,λk' o' e=>(by cases e),λgv=>⟨_,λ_=>rfl,λw' hw=>?_⟩,h2⟩;have hv:a.eval x=.pointer (some ⟨T.b,off,none⟩):=by rw [D3 hro hr (hg.1 gv),hev,ai.val,hx,lF hT]
    unfold Oper.quietAt;simp only [execOp,hop,hv,Instr.loadAt,Instr.sureAddr,Sem.run_bind,Sem.run_pure,Result.andThen,h1 w' hw.heap,Oper.quietUpon];exact ⟨trivial,rfl⟩
   .exact h.elim
  .exact old h
 .rename_i x hop;split at h
  .rename_i hro;refine ⟨s.ev x,λk o e=>hwf.ev e,λgv=>⟨_,λ_=>rfl,λw' hw=>?_⟩,h⟩;have hv:a.eval x=(s.ev x).val L:=by rw [D3 hro hr (hg.1 gv),hev];rfl
   unfold Oper.quietAt;simp only [execOp,hop,hv,Sem.run_pure,Oper.quietUpon];exact ⟨trivial,trivial⟩
  .exact h.elim
 .rename_i x hop;split at h
  .rename_i hro;refine ⟨s.ev x,λk o e=>hwf.ev e,λgv=>⟨_,λ_=>rfl,λw' hw=>?_⟩,h⟩;have hv:a.eval x=(s.ev x).val L:=by rw [D3 hro hr (hg.1 gv),hev];rfl
   unfold Oper.quietAt;simp only [execOp,hop,hv,Sem.run_pure,Oper.quietUpon];exact ⟨trivial,trivial⟩
  .exact h.elim
 .exact old h
theorem a4V(es s L):(C5 es s).fr L=forget es (s.fr L):=by
 have key:∀ l:List (Nat × bk),kF L (C5.go es l)=sx (Em es) (kF L l):=by
  intro l
  induction l with
  | nil=>rfl
  | cons p r ih =>
   obtain ⟨t,v⟩:=p;simp only [C5.go,kF,sx];cases Em es t with
   | true=>simp only [kF,ih]
   | false=>exact ih
 simp only [C5,forget,ai.fr,key]
theorem aJY{es s L}(h:ij L s):ij L (C5 es s):=by
 have key:∀ l:List (Nat × bk),∀ p∈C5.go es l,p∈l:=by
  intro l
  induction l with
  | nil=>intro p hp;exact hp
  | cons q r ih =>
   obtain ⟨t,v⟩:=q;intro p hp;simp only [C5.go] at hp;cases hb:Em es t with
   | true=>rw [hb] at hp;rcases List.mem_cons.1 hp with rfl|hp;simp;exact List.mem_cons_of_mem _ (ih p hp)
   | false=>rw [hb] at hp;exact List.mem_cons_of_mem _ (ih p hp)
 exact λp hp=>h p (key _ p hp)
theorem Y4{L R}{Φ:θ}{d w K Q}(hst:O Φ)(Hl:(L.map aM.id).Nodup)(hc:eZ G W w L R Φ)(hK:∀ s a,K s->ku ds (s.fr L) a->ij L s->bn D s0 (s.fr L)->Q a):
  ∀ (l:List Oper) (es:List uC) (s:ai) (a:Act),(∀ o∈l,∀ t,o.dst=some t->D t)->(∀ e∈es,D e.slot/\e.slot<s.n)->NF P wr d ops L w l es s K->Rel ds es (s.fr L) a->ij L s->bn D s0 (s.fr L)->wpQuiet P ops (nW d w) Q l a
 | [],es,s,a,_,_,h,hr,hwf,hu=>hK _ _ h (by rw [a4V];exact hr.done) (aJY hwf) (by rw [a4V];exact aJZ hu)
 | o :: rest,es,s,a,hl,he,h,hr,hwf,hu=>by
  have hl':∀ o∈rest,∀ t,o.dst=some t->D t:=λo ho=>hl o (List.mem_cons_of_mem _ ho);unfold NF at h;split at h
  .rename_i g ch t hgd ht;split at h
   .rename_i hcd;simp only [Bool.and_eq_true] at hcd;obtain ⟨h1,h2,h3⟩:=aJk hgd hr;obtain ⟨sv,hp,h4,h5⟩:=aOi h hr hwf hc h2;have hd:D t:=hl o (by simp) t ht;have htn:t<s.n:=by have:=hcd.2;rwa [Nat.blt_eq] at this
    have he':∀ e∈(⟨t,g,ch⟩:uC) :: es,D e.slot/\e.slot<(s.put (some t) sv).n:=λe hx=>by
     have hn:(s.put (some t) sv).n=s.n:=by unfold ai.put;simp only;split<;>rfl
     rw [hn];rcases List.mem_cons.1 hx with rfl|hx
     .exact ⟨hd,htn⟩
     .exact he e hx
    have bF:bn D s0 ((s.put (some t) sv).fr L):=hu.o5 hwf (Ext.refl _) (λt' e=>by cases e;exact hd);have hwf':ij L (s.put (some t) sv):=hwf.put hp;unfold wpQuiet;by_cases gv:fu g
    .rw [if_pos (h1.2 gv)];obtain ⟨v,h6,h7⟩:=h4 gv;refine ⟨v,h7,?_⟩;rw [ht];exact Y4 hst Hl hc hK rest _ _ _ hl' he' h5 (by rw [LH];exact hr.put hcd.1 htn h2 h3 (λ_=>h6) (λhn=>absurd gv hn)) hwf' bF
    .rw [if_neg (λhw=>gv (h1.1 hw)),ht];exact Y4 hst Hl hc hK rest _ _ _ hl' he' h5 (by rw [LH];exact hr.put hcd.1 htn h2 h3 (λhh=>absurd hh gv) (λ_=>rfl)) hwf' bF
   .exact h.elim
  .exact h.elim
end
end Go.Vc
end

section
namespace Go.Vc
open Go.RowKit
def qb(rd:Option Nat):Fence:={ Fence.wide with round:=rd }
def Cm(Q:Exit->Act->World->Prop):Exit->Act->World->Prop
 | .normal,a,w=>Q .normal a w
 | _,_,_=>False
theorem a7c{Q}:∀ e a w,Cm Q e a w->Q e a w:=λe a w h=>by
 cases e<;>first|exact h|exact h.elim
theorem aNe{Q}:¬ LetsOut (Cm Q):=λ⟨_,_,h⟩=>h
def FR(o:Oper):Bool:=match o.op with | .defer _=>false|_=>true
def EF:List Oper->Bool
 | []=>true
 | o :: r=>FR o&&EF r
theorem TT:∀ {l:List Oper},EF l=true->∀ o∈l,FR o=true
 | [],_,o,ho=>by cases ho
 | p :: r,h,o,ho=>by
  simp only [EF,Bool.and_eq_true] at h;rcases List.mem_cons.1 ho with rfl|ho
  .exact h.1
  .exact TT h.2 o ho
def tY:Code->Bool
 | .region _ ops _=>EF ops.toList
 | .seq x U=>tY x&&tY U
 | .cond _ x U=>tY x&&tY U
 | .block _ b=>tY b
 | .loop b=>tY b
 | .rangeFunc _ _ _ _=>false
 | .scope _=>false
 | _=>true
section
variable {P:Program}{b:Frame}{a:Act}{k:List Item}{cs:List Frame}{w:World}{F:Fence}{n:Nat}{Q:Exit->Act->World->Prop}
theorem J6{c}:step P (lone (b.atR a (.code (.scope c) :: k)) cs w)=.next (lone (b.atR a (.code c :: .inScope c :: k)) cs w) :=
 step_lone_go (by simp [stepG,stepG.exec,Frame.atR])
theorem aQN{c}:step P (lone (b.atR a (.inScope c :: k)) cs w)=.next (lone (b.atR a k) cs w) :=
 step_lone_go (by simp [stepG,stepG.exec,Frame.atR])
theorem aS1{c:Code}(h:c.wpIn F n P (λe a w=>match e with | .goto _=>False|e=>Q e a w) a w):(Code.scope c).wpIn F n P Q a w:=by
 intro b k cs hro hb hr;have h0:(lone (b.atR a (.code (.scope c) :: k)) cs w).fenced P F:=fenced_calm hb hr rfl;obtain ⟨e,a₁,w₁,hq,HW⟩:=h b (.inScope c :: k) cs hro hb hr;cases e with
 | normal=>exact ⟨.normal,a₁,w₁,hq,.head h0 J6 (StepsIn.trans HW (.one (fenced_calm hb hr rfl) aQN))⟩
 | exit id =>
  have hx:exitTo id (.inScope c :: k)=exitTo id k:=by simp [exitTo]
  exact ⟨.exit id,a₁,w₁,hq,λk' hk=>.head h0 J6 (HW.1 k' (by rw [hx];exact hk)),
   λhr' hk=>let ⟨k₁,h1,h2⟩:=HW.2 hr' (by rw [hx];exact hk);⟨k₁,h1,.head h0 J6 h2⟩⟩
 | goto l=>exact hq.elim
 | ret=>exact ⟨_,a₁,w₁,hq,.of_steps (.one h0 J6) HW⟩
 | panic ch=>exact ⟨_,a₁,w₁,hq,.of_steps (.one h0 J6) HW⟩
 | outgrown=>exact ⟨_,a₁,w₁,hq,.of_steps (.one h0 J6) HW⟩
end
section
variable {P:Program}{rd:Option Nat}{ops:Array Oper}{Q:Exit->Act->World->Prop}
theorem a7j{o a w K K'}(hd:rd.isSome=true->FR o=true)(hQ:¬ LetsOut Q)(hK:∀ a w,K a w->K' a w)(h:o.wp P a w K Q):o.wpIn (qb rd) 0 P a w K' Q:=by
 refine ⟨λ_ _=>trivial,?_⟩;have e:o.semAt rd a.eval=execOp a.eval o:=by
  cases rd with
  | none=>rfl
  | some l=>exact Oper.semAt_eq _ _ _ λc hc=>(by have:=hd rfl;rw [FR,hc] at this;cases this)
 unfold Oper.wp at h;show o.uponIn (qb rd) 0 P a K' Q ((o.semAt rd a.eval).run P w);rw [e];generalize (execOp a.eval o).run P w=r at h;cases r with
 | ok n w' =>
  cases n<;>simp only [Oper.upon,Oper.uponIn] at h ⊢
  case value v=>exact hK _ _ h
  case skip=>exact hK _ _ h
  case defer d=>exact hK _ _ h
  case enter f args => 
   refine ⟨λhh=>(by cases hh),?_⟩;have:=(callsIn_wide (n:=0)).2 h;exact CallsIn.mono (F:=qb rd) this λe w'' he=>by cases e<;>first|exact hK _ _ he|exact he
  case row row args =>
   refine ⟨λhh=>(by cases hh),λc cs hr=>?_⟩;obtain ⟨v,w'',h1,h2⟩:=h c cs;exact ⟨v,w'',hK _ _ h1,stepsIn_wide.2 h2⟩
 | halt x w'=>cases x<;>simp only [Oper.upon,Oper.uponIn] at h ⊢ <;> exact h
theorem a6j(hQ:¬ LetsOut Q):∀ (l:List Oper) (a:Act) (w:World),(rd.isSome=true->∀ o∈l,FR o=true)->wpList P ops Q l a w->wpListIn (qb rd) 0 P ops Q l a w
 | [],a,w,_,h=>h
 | o :: r,a,w,hd,h=>by
  have ih:=a6j hQ r;unfold wpList at h;unfold wpListIn;split
  .rename_i hw;rw [if_pos hw] at h;rcases h with h|h
   .exact a7j (λhh=>hd hh o (by simp)) hQ (λa w h=>ih a w (λhh o ho=>hd hh o (List.mem_cons_of_mem _ ho)) h) h
   .exact absurd h.2 hQ
  .rename_i hw;rw [if_neg hw] at h;exact ⟨λ_ _=>trivial,ih _ _ (λhh o ho=>hd hh o (List.mem_cons_of_mem _ ho)) h⟩
theorem aNg(hQ:¬ LetsOut Q)(hd:rd.isSome=true->∀ o∈ops.toList,FR o=true){i a w K K'}(hK:∀ a w,K a w->K' a w)(h:wpOp P ops Q i K a w):wpOpIn (qb rd) 0 P ops Q i K' a w:=by
 unfold wpOp at h;unfold wpOpIn;cases ho:ops[i]? with
 | none=>rw [ho] at h;exact hK _ _ h
 | some o =>
  rw [ho] at h;simp only at h ⊢;split
  .rename_i hw;rw [if_pos hw] at h;rcases h with h|h
   .exact a7j (λhh=>hd hh o (by simpa using Array.mem_of_getElem? ho)) hQ hK h
   .exact absurd h.2 hQ
  .rename_i hw;rw [if_neg hw] at h;exact ⟨λ_ _=>trivial,hK _ _ h⟩
theorem a2U{md}(hQ:¬ LetsOut Q)(hd:rd.isSome=true->∀ o∈ops.toList,FR o=true):∀ (n:Nat) (listed:Array Bool) (a:Act) (w:World),wpAny P md ops Q n listed a w->wpAnyIn (qb rd) 0 P md ops Q n listed a w
 | 0,_,_,_,h=>h
 | n+1,listed,a,w,h=>⟨h.1,λi hi=>aNg hQ hd (λa w h=>a2U hQ hd n _ a w h) (h.2 i hi)⟩
theorem a9O{id a w}(hd:rd.isSome=true->EF ops.toList=true)(h:wpList P ops (Cm Q) ops.toList a w):(Code.region id ops false).wpIn (qb rd) 0 P Q a w :=
 wpIn_mono (wpIn_region_list (a6j aNe _ _ _ (λhh=>TT (hd hh)) h)) a7c
theorem a9N{id a w}(hd:rd.isSome=true->EF ops.toList=true)(hm:P.follows .mixedOrders=true)(h:wpAny P .any ops (gU (Cm Q)) ops.size (Array.replicate ops.size false) a (w.drewN 1)):
  (Code.region id ops true).wpIn (qb rd) 0 P Q a w :=
 wpIn_mono (wpIn_region_any hm (a2U (λ⟨_,_,h⟩=>h) (λhh=>TT (hd hh)) _ _ _ _ h)) λe a w h=>a7c _ _ _ (aHB _ _ _ h)
theorem aPF{id a w}(hd:rd.isSome=true->EF ops.toList=true)(hm:P.follows .mixedOrders=true)(hB:Region.lexB .any ops=true)(h:wpQuiet P ops (λw'=>∃ n,w'=w.drewN n) (λa'=>∀ w',(∃ n,w'=w.drewN n)->Q .normal a' w') ops.toList a):(Code.region id ops true).wpIn (qb rd) 0 P Q a w:=by
 refine a9N hd hm ?_;simp only [Region.lexB,Bool.and_eq_true] at hB;refine wpAny_of_quiet (C:=λw'=>∃ n,w'=w.drewN n) (Q':=gU (Cm Q)) (Q:=λa'=>∀ w',(∃ n,w'=w.drewN n)->Q .normal a' w') (λ_ w' hw' h=>h w' hw') _ _ _ _ ⟨1,rfl⟩ ?_;have:=wpAnyQ_lex (C:=λw'=>∃ n,w'=w.drewN n) (md:=.any) hB.1 ops.toList 0 (Array.replicate ops.size false) a (by simp) (by simpa using hB.2) h;simpa using this
end
def mark(D:Nat):Deferred:={ target:=.collected D,args:=#[] }
def w7(D:Nat):Own:=.obj D (.deferred (some []))
def Tie(rd:Option Nat)(ds:List Deferred)(G:List Own)(ds':List Deferred)(G':List Own):Prop :=
 ∃ Z:List Nat,(rd.isSome=true->Z=[])/\ds'=Z.map mark++ds/\G'=Z.map w7++G
theorem Tie.refl(rd ds G):Tie rd ds G ds G:=⟨[],λ_=>rfl,rfl,rfl⟩
theorem Tie.trans{rd ds p7 H9 G av yB}(h:Tie rd ds G p7 av)(k:Tie rd p7 av H9 yB):Tie rd ds G H9 yB:=by
 obtain ⟨Z,h1,rfl,rfl⟩:=h;obtain ⟨Y,k1,rfl,rfl⟩:=k;exact ⟨Y++Z,λhh=>by rw [h1 hh,k1 hh];rfl,by simp,by simp⟩
theorem a6i{P fn tmps a27 W}{Φ:θ}[O Φ]:∀ (Z:List Nat) (S:List Own) (w:World),Ctx W w (S++Z.map w7) Φ ->
  (∀ w' S',Ctx W w' (S++S') Φ->LeavesIn Fence.wide 0 P fn tmps a27 [] .returning w')->LeavesInM Fence.wide 0 P fn tmps a27 (Z.map mark) .returning w
 | [],S,w,c,h=>h w [] c
 | D :: Z,S,w,c,h=>by
  refine ⟨by simp,.inl ⟨D,oX w D (.deferred none),rfl,run_takeDeferred (c.own (w7 D) (by simp)),?_⟩⟩;have hk:(S++(D :: Z).map w7)[S.length]? = some (.obj D (.deferred (some []))):=by
   rw [List.getElem?_append_right (Nat.le_refl _)];simp [w7]
  have c2:=c.putObj S.length (.deferred none) hk;have e:(S++(D :: Z).map w7).set S.length (.obj D (.deferred none))=(S++[Own.obj D (.deferred none)])++Z.map w7:=by
   rw [List.set_append_right _ _ (Nat.le_refl _)];simp
  rw [e] at c2;exact a6i Z _ _ c2 λw' S' c'=>h w' (Own.obj D (.deferred none) :: S') (by simpa using c')
def Iter(P:Program)(ud:Nat)(lb:Array Value)(N:Nat)(xs:Nat->Array Value)(X:World->Prop):Prop :=
 ∀ (l:Nat) (J:Nat->World->Prop) (W:World),(∀ k uP,J k uP->X uP) ->
  (∀ k uP,J k uP->k<N->YieldAt Fence.wide 0 P l (xs k) uP λe W'=>e=.returned (.bool true)/\J (k+1) W')->J 0 W ->
  CallsIn Fence.wide 0 P ud (#[.func (.yield l) #[] #[]]++lb) W λe W'=>(∃ v,e=.returned v)/\J N W'
theorem aS2{P:Program}{W:World}{g:Operand}{ps:Array Tmp}{assign body:Code}{Q:Exit->Act->World->Prop}{a:Act}{w:World}{ud:Nat}{lb:Array Value}{N:Nat}{xs:Nat->Array Value}{X:World->Prop}{G:List Own}(hg:a.eval g=.func (.func ud) #[] lb)(aJ6:∀ args w,(callFunc ud args).run P w=.ok (.enter ud args) w)(hit:Iter P ud lb N xs X)(hps:∀ k,k<N->(xs k).size=ps.size)(Inv:Nat->List Own->World->Prop)(QO:∀ k uD w1,Inv k uD w1->∃ S Φ,O Φ/\Ctx W w1 (S++uD) Φ/\∀ w2 St,Ctx W w2 (S++St) Φ->Inv k St w2)(hX:∀ k uD w1,Inv k uD w1->X w1)(h0:Inv 0 G w)(aLG:∀ l k uD w1,k<N->Inv k uD w1->assign.wpIn (qb (some l)) 0 P (Exit.then (λa1 w2=>∃ S Φ,O Φ/\Ctx W w2 (S++uD) Φ/\∀ w3 OZ,Ctx W w3 (S++OZ) Φ->body.wpIn (qb (some l)) 0 P (λe _ kG=>e=.normal/\Inv (k+1) OZ kG) a1 w3) (λ_ _ _=>False))
   { tmps:=(ps.zip (xs k)).foldl (λt (p,v)=>t.setIfInBounds p v) a.tmps,defers:=[] } w1)(aKD:∀ D w',Inv N (w7 D :: G) w'->Q .normal { a with defers:=mark D :: a.defers } w'):
  (Code.rangeFunc g ps assign body).wpIn (qb none) 0 P Q a w:=by
 refine wpIn_rangeFunc ?_;intro fn hfn;show ∃ l mark w₁ d w₁' f args w₂,(Instr.enterLoop fn a.tmps ps assign body none).run P w=_/\_;obtain ⟨rec,um⟩:∃ rec:LoopState->Option Code->Loop,rec=λst Xr=>{ state:=st,pending:=Xr,fn,tmps:=a.tmps,params:=ps,assign,body,defers:=w.heap.size }:=⟨_,rfl⟩;obtain ⟨uP,a50⟩:∃ uP,(w.alloc (.deferred (some []))).alloc (.loop (rec .ready none))=uP:=⟨_,rfl⟩;obtain ⟨l,hl⟩:∃ l,w.heap.size+1=l:=⟨_,rfl⟩
 have rl:∀ st:LoopState,Own.obj l (.loop (rec st none))=Own.obj l (.loop (rec st none)):=λ_=>rfl
 let rV:=λ(st:LoopState)=>Own.obj l (.loop (rec st none)) :: w7 w.heap.size :: G
 have turn:∀ {k:Nat} {st st':LoopState} {S:List Own} {Φ:θ} {w1:World},O Φ->Ctx W w1 (S++rV st) Φ->Ctx W (w1.putObj l (.loop (rec st' none))) (S++rV st') Φ:=by
  intro k st st' S Φ w1 hs c;have hk:(S++rV st)[S.length]? = some (.obj l (.loop (rec st none))):=by rw [List.getElem?_append_right (Nat.le_refl _)];simp [rV]
  have c2:=c.putObj S.length (.loop (rec st' none)) hk;have e:(S++rV st).set S.length (.obj l (.loop (rec st' none)))=S++rV st':=by rw [List.set_append_right _ _ (Nat.le_refl _)];simp [rV]
  rw [e] at c2;exact c2
 have start:Inv 0 (rV .ready) uP:=by
  obtain ⟨S,Φ,hs,c,hn⟩:=QO 0 G w h0;refine hn _ _ ?_;have c1:=c.newObj (o:=.deferred (some [])) rfl;have c2:=c1.newObj (o:=.loop (rec .ready none)) rfl;rw [a50,World.size_alloc,hl] at c2;refine c2.perm ?_;simp only [rV,w7];exact (List.Perm.cons _ List.perm_middle.symm).trans List.perm_middle.symm
 have Wo:∀ {k:Nat} {st:LoopState} {w1:World},Inv k (rV st) w1->w1.heap[l]? = some (.loop (rec st none)):=by
  intro k st w1 hi;obtain ⟨S,Φ,hs,c,_⟩:=QO _ _ _ hi;exact c.own (.obj l (.loop (rec st none))) (by simp [rV])
 refine ⟨l,[mark w.heap.size],uP,{ target:=.fn (.func ud) lb,args:=#[.func (.yield l) #[] #[]] },uP,ud,#[.func (.yield l) #[] #[]]++lb,uP,?_,?_,λ_ _=>trivial,?_,λh=>(by cases h),?_⟩
 .rw [<-a50,um,<-hl];exact run_enterLoop_outer _ _ _ _ _
 .simp only [resolve,hg];simp [go_sem]
 .simp [invoke,go_sem,aJ6]
 .refine CallsIn.mono (F:=qb none) (hit l (λk W'=>Inv k (rV .ready) W') uP (λk Gs h=>hX k _ Gs h) ?_ start) ?_
  .intro k Gs hi hk;have hlr:=Wo hi;have hy:=run_yield (P:=P) (args:=xs k) hlr (by rw [um];exact hps k hk);rw [um] at hy;refine ⟨fn,_,assign,body,hy,roundIn_of_wpIn trivial ?_⟩;refine wpIn_mono (aLG l k (rV .ready) Gs hk hi) ?_;rintro e a1 w2 h;cases e with
   | normal =>
    obtain ⟨S,Φ,hs,c,hb⟩:=h;have h2:w2.heap[l]? = some (.loop (rec .ready none)):=c.own (.obj l (.loop (rec .ready none))) (by simp [rV]);refine ⟨_,run_beginRound h2 (by rw [um]),?_⟩;have c3:Ctx W (w2.putObj l (.loop { rec .ready none with state:=.busy })) (S++rV .busy) Φ:=by
     have:=turn (k:=k) (st':=.busy) hs c;rw [um] at this ⊢;exact this
    refine wpIn_mono (hb _ _ c3) ?_;rintro e a4 kG ⟨rfl,h4⟩;have h5:=Wo h4;refine ⟨_,_,run_endRound none h5,rfl,?_⟩;obtain ⟨S,Φ,hs,c,hn⟩:=QO _ _ _ h4;have:=turn (k:=k) (st':=.ready) hs c;refine hn _ _ ?_;rw [um] at this ⊢;exact this
   | _=>exact h.elim
  .rintro e aSi ⟨⟨v,rfl⟩,hi⟩;have h5:=Wo hi;have hend:=run_endLoop (P:=P) h5 (by rw [um];simp);rw [um] at hend;refine ⟨none,_,hend,?_⟩;refine aKD _ _ ?_;obtain ⟨S,Φ,hs,c,hn⟩:=QO _ _ _ hi;have:=turn (k:=N) (st':=.exhausted) hs c;refine hn _ _ ?_;have h7:=this.sub (S':=S++(w7 w.heap.size :: G)) (List.Sublist.append (List.Sublist.refl _) (List.sublist_cons_self _ _));rw [um] at h7;exact h7
end Go.Vc
end

