/-
 .. it suffices: regions,code,functions.
-/
import Derived.Test.YtfccagphnfceiaaGreatDoorCRf2
import Derived.RangeFuncRecord
import Derived.RangeFuncSeq
import Derived.OrdersIn
import Derived.TacticsIn

set_option linter.unusedVariables false
set_option linter.unusedSimpArgs false
section
namespace Go.Vc
variable {G:List Own}
variable {ds:List Deferred}
open Go.RowKit
structure At (ds:List Deferred) (G:List Own) (W:World) (s:dU) (L:List Tr) (R:List Own) (Φ:PW) (a:Act) (w:World):Prop where
 B5:QU ds (s.fr L) a
 wf:JH L s
 ids:(L.map Tr.id).Nodup
 ctx:jR G W w L R Φ
 st:aA Φ
theorem At.put {W:World} {s:dU} {L L':List Tr} {R R':List Own} {Φ aF:PW} {a:Act} {w w':World} (h:At ds G W s L R Φ a w) {sv:SV} {v:Value} (d:Option Tmp) (he:Ext L L')
  (hp:∀ k o,sv=SV.ptr k o->(bL k L').isSome=true) (hc:jR G W w' L' R' aF) (hst:aA aF) (hv:AE (sv.val L')=false->v=sv.val L'):At ds G W (s.put d sv) L' R' aF (a.put d v) w' :=
 ⟨by rw [SU,h.wf.fr he];exact h.B5.put d hv,(h.wf.ext he).put hp,he.ids h.ids,hc,hst⟩
theorem dR.xQ {D:Nat->Prop} {s0:Fr} {s:dU} {L L':List Tr} {sv:SV} {d:Option Tmp} (h:dR D s0 (s.fr L)) (hwf:JH L s) (he:Ext L L') (hd:∀ t,d=some t->D t):dR D s0 ((s.put d sv).fr L'):=by
 rw [SU,hwf.fr he]
 exact h.put hd _
def cellsOf:gO->List Tr->List Value
 | [],_=>[]
 | (k,_) :: r,L=>(match bL k L with|some T=>.agg T.cs.toArray|none=>unk) :: cellsOf r L
def IQ (k:Nat):gO->List Value->Option (List Value)
 | (j,_) :: r,v :: vs=>match Nat.beq j k with
  | true=>some v.cells.toList
  | false=>IQ k r vs
 | _,_=>none
def jG (ts:gO) (us:List Value):List Tr->List Tr
 | []=>[]
 | T :: r=>(match IQ T.id ts us with
  | some cs=>⟨T.id,T.b,Nat.succ T.ver,cs,T.t⟩
  | none=>T) :: jG ts us r
def xR (ts:gO) (L':List Tr):List Tr->Bool
 | []=>true
 | T :: r=>match dY T.id (ts.map (·.1)) with
  | true=>xR ts L' r
  | false=>match bL T.id L' with
   | some T'=>match Nat.beq T'.ver T.ver with|true=>xR ts L' r|false=>false
   | none=>false
theorem JK {ts:gO} {us:List Value} {k:Nat} {T:Tr}:∀ {L:List Tr},bL k L=some T->∃ T',bL k (jG ts us L)=some T'/\T'.b=T.b/\T'.t=T.t/\T.ver<=T'.ver/\(T'.ver=T.ver->T'.cs=T.cs)/\(IQ k ts us=none->T'.cs=T.cs)/\(∀ cs,IQ k ts us=some cs->T'.cs=cs)
 | [],h=>by cases h
 | U :: r,h=>by
  unfold bL at h
  simp only [jG]
  cases hb:Nat.beq U.id k with
  | true =>
   rw [hb] at h
   cases h
   have hid:=Nat.eq_of_beq_eq_true hb
   unfold bL
   cases hp:IQ T.id ts us with
   | some cs =>
    simp only [hb]
    rw [hid] at hp
    exact ⟨_,rfl,rfl,rfl,Nat.le_succ _,λe=>absurd e (Nat.succ_ne_self _),λe=>(by rw [hp] at e;cases e),λcs' e=>by rw [hp] at e;cases e;rfl⟩
   | none =>
    simp only [hb]
    rw [hid] at hp
    exact ⟨_,rfl,rfl,rfl,Nat.le_refl _,λ_=>rfl,λ_=>rfl,λcs' e=>by rw [hp] at e;cases e⟩
  | false =>
   rw [hb] at h
   have ih:=JK (ts:=ts) (us:=us) h
   unfold bL
   cases hp:IQ U.id ts us with
   | some cs=>simp only [hb];exact ih
   | none=>simp only [hb];exact ih
theorem tQ (ts:gO) (us:List Value):∀ L:List Tr,(jG ts us L).map Tr.b=L.map Tr.b/\(jG ts us L).map Tr.id=L.map Tr.id
 | []=>⟨rfl,rfl⟩
 | T :: r=>by
  have ih:=tQ ts us r
  simp only [jG,List.map_cons,ih]
  cases IQ T.id ts us<;>exact ⟨rfl,rfl⟩
theorem NY (ts:gO) (us:List Value) (L:List Tr):Ext L (jG ts us L) :=
 ⟨λk T h=>by obtain ⟨T',a,b,c,d,e,_⟩:=JK (ts:=ts) (us:=us) h;exact ⟨T',a,b,c,d,e⟩,by rw [(tQ ts us L).1];exact List.Sublist.refl _,by rw [(tQ ts us L).2];exact id⟩
theorem a6C (L:List Tr):dom (L.map Tr.own)=L.map Tr.b:=by
 induction L with
 | nil=>rfl
 | cons T r ih=>simp only [List.map_cons,dom,List.flatMap_cons] at ih ⊢;rw [ih];rfl
theorem zJ (A B:List Own):dom (A++B)=dom A++dom B:=by simp [dom]
theorem PM {k:Nat} {L':List Tr}:∀ {ts:gO},IQ k ts (cellsOf ts L')=if dY k (ts.map (·.1))=true then some (match bL k L' with|some T=>T.cs|none=>unk.cells.toList) else none
 | []=>rfl
 | (j,sh) :: r=>by
  simp only [cellsOf,IQ,List.map_cons,dY]
  rw [show Nat.beq k j=Nat.beq j k by rw [Bool.eq_iff_iff,Nat.beq_eq,Nat.beq_eq];exact eq_comm]
  cases hb:Nat.beq j k with
  | true =>
   have:=Nat.eq_of_beq_eq_true hb
   subst this
   simp only [if_true]
   cases bL j L'<;>simp [Value.cells]
  | false=>exact PM
theorem GU {L:List Tr} (hn:(L.map Tr.id).Nodup):∀ {T:Tr},T∈L->bL T.id L=some T:=by
 induction L with
 | nil=>intro T h;cases h
 | cons U r ih =>
  intro T h
  simp only [List.map_cons,List.nodup_cons] at hn
  unfold bL
  rcases List.mem_cons.1 h with rfl|h
  ·rw [show Nat.beq T.id T.id=true by simp]
  ·rw [show Nat.beq U.id T.id=false by
    cases hb:Nat.beq U.id T.id with
    | false=>rfl
    | true=>exact absurd (List.mem_map.2 ⟨T,h,(Nat.eq_of_beq_eq_true hb).symm⟩) hn.1]
   exact ih hn.2 h
theorem jR.meet {W w:World} {L L':List Tr} {R:List Own} {Φ:PW} {ts:gO} (hst:aA Φ) (c:jR G W w L' R Φ) (he:Ext L L') (a8e:(L.map Tr.id).Nodup) (hs:xR ts L' L=true):jR G W w (jG ts (cellsOf ts L') L) R Φ:=by
 have hd':dom (R++(L'.map Tr.own++G))=dom R++(L'.map Tr.b++dom G):=by rw [zJ,zJ,a6C]
 have hd:dom (R++((jG ts (cellsOf ts L') L).map Tr.own++G))=dom R++(L.map Tr.b++dom G):=by rw [zJ,zJ,a6C,(tQ ts _ L).1]
 have hsub:(dom R++(L.map Tr.b++dom G)).Sublist (dom R++(L'.map Tr.b++dom G)):=List.Sublist.append (List.Sublist.refl _) (List.Sublist.append he.bs (List.Sublist.refl _))
 have same:∀ T∈L,dY T.id (ts.map (·.1))=false->∃ T',bL T.id L'=some T'/\T'.ver=T.ver:=by
  clear hd hd' hsub he a8e c
  induction L with
  | nil=>intro T h;cases h
  | cons U r ih =>
   intro T hT hm
   unfold xR at hs
   cases hmU:dY U.id (ts.map (·.1)) with
   | true =>
    rw [hmU] at hs
    rcases List.mem_cons.1 hT with rfl|hT
    ·rw [hm] at hmU;cases hmU
    ·exact ih hs T hT hm
   | false =>
    rw [hmU] at hs
    simp only at hs
    split at hs
    ·rename_i T' hf
     split at hs
     ·rename_i hv
      rcases List.mem_cons.1 hT with rfl|hT
      ·exact ⟨T',hf,Nat.eq_of_beq_eq_true hv⟩
      ·exact ih hs T hT hm
     ·cases hs
    ·cases hs
 refine Ctx.go c ⟨kD.refl _ _,λb hb=>.inl (by rw [hd] at hb;rw [hd'];exact hsub.subset hb)⟩ (λo ho=>?_) (by rw [hd];have:=c.nodup;rw [hd'] at this;exact this.sublist hsub)
 rcases List.mem_append.1 ho with ho|ho
 ·exact c.own o (List.mem_append.2 (.inl ho))
 rcases List.mem_append.1 ho with ho|ho
 rotate_left
 ·exact c.own o (List.mem_append.2 (.inr (List.mem_append.2 (.inr ho))))
 ·obtain ⟨V,hV,rfl⟩:=List.mem_map.1 ho
  have aYf:((jG ts (cellsOf ts L') L).map Tr.id).Nodup:=by rw [(tQ ts _ L).2];exact a8e
  have hf:=GU aYf hV
  have hex:V.id∈L.map Tr.id:=by rw [<-(tQ ts (cellsOf ts L') L).2];exact List.mem_map.2 ⟨V,hV,rfl⟩
  obtain ⟨T,hT,aJK⟩:=List.mem_map.1 hex
  have hfT:=GU a8e hT
  rw [aJK] at hfT
  obtain ⟨V',g1,g2,g3,_,_,g6,g7⟩:=JK (ts:=ts) (us:=cellsOf ts L') hfT
  rw [hf] at g1
  cases g1
  obtain ⟨T1,k1,k2,k3,k4,k5⟩:=he.old V.id T hfT
  have hb:=c.blk k1
  have hcs:V.cs=T1.cs:=by
   rw [PM] at g6 g7
   cases hm:dY V.id (ts.map (·.1)) with
   | true =>
    rw [if_pos hm,k1] at g7
    exact g7 _ rfl
   | false =>
    rw [if_neg (by rw [hm];simp)] at g6
    rw [g6 rfl]
    obtain ⟨T2,q1,q2⟩:=same T hT (by rw [aJK];exact hm)
    rw [aJK,k1] at q1
    cases q1
    exact (k5 q2).symm
  show wA w V.b V.cs V.t
  rw [g2,<-k2,g3,<-k3,hcs]
  exact hb
theorem NZ:∀ L:List Tr,jG [] [] L=L
 | []=>rfl
 | T :: r=>by simp only [jG,IQ,NZ r]
def a4B (s:Fr) (d:Option Tmp):Bool :=
 match d with
 | some d=>(match xJ d s.l with | .tuple vs=>(match vs.toList with | []=>Nat.blt d s.n|_=>false)|_=>false)
 | none=>false
theorem a19 {s:Fr} {a:Act} (h:QU ds s a) {d:Option Tmp} (hc:a4B s d=true):∃ k,d=some k/\k<a.tmps.size/\a.tmps.getD k undef=.tuple #[]:=by
 unfold a4B at hc
 split at hc
 ·rename_i k
  split at hc
  ·rename_i vs hv
   split at hc
   ·rename_i hvs
    have hlt:k<s.n:=by simpa using hc
    have e:vs=#[]:=by cases vs;simp_all
    subst e
    have hg:s.get k=.tuple #[]:=hv
    exact ⟨k,rfl,by rw [h.size];exact hlt,by rw [h.slot k (by rw [hg];rfl),hg]⟩
   ·cases hc
  ·cases hc
 ·cases hc
def rL (ops:Array Oper) (o:Oper) (s:dU) (L:List Tr) (go skip:dU->Prop):Prop :=
 match o.guard with
 | none=>go s
 | some (j,want) =>
  match a4x (s.fr L) ((ops[j]?).bind (·.dst)) with
  | some c=>Br c (match true == want with
    | true=>go (s.put ((ops[j]?).bind (·.dst)) (.v (.bool true)))
    | false=>skip (s.put ((ops[j]?).bind (·.dst)) (.v (.bool true))))
   (match false == want with
    | true=>go (s.put ((ops[j]?).bind (·.dst)) (.v (.bool false)))
    | false=>skip (s.put ((ops[j]?).bind (·.dst)) (.v (.bool false))))
  | none=>match a4B (s.fr L) ((ops[j]?).bind (·.dst)) with
   | true=>skip s
   | false=>False
theorem fG {W:World} {ops:Array Oper} {o:Oper} {s:dU} {L:List Tr} {R:List Own} {Φ:PW} {a:Act} {w:World} {go skip:dU->Prop} {D:Nat->Prop} {s0:Fr} (hD:∀ (j:Nat) (o:Oper) (t:Nat),ops[j]? = some o->o.dst=some t->D t)
  (h:rL ops o s L go skip) (ha:At ds G W s L R Φ a w) (hu:dR D s0 (s.fr L)) :
  ∃ s',At ds G W s' L R Φ a w/\dR D s0 (s'.fr L)/\((Region.wanted o (yielded ops a.tmps)=true/\go s')\/(Region.wanted o (yielded ops a.tmps)=false/\skip s')):=by
 unfold rL at h
 split at h
 ·rename_i hg
  exact ⟨s,ha,hu,.inl ⟨by simp [Region.wanted,hg],h⟩⟩
 ·rename_i j want hg
  split at h
  ·rename_i c hc
   obtain ⟨k,hk,hlt,hv,hsv⟩:=a1V ha.B5 hc
   have hy:yielded ops a.tmps j=some c:=by
    unfold yielded
    rw [hk]
    simp only [Option.bind_some]
    rw [Array.getD_eq_getD_getElem?] at hv
    simp only [hlt,getElem?_pos,Option.getD_some] at hv
    simp [hlt,hv]
   have hw:Region.wanted o (yielded ops a.tmps)=(c == want):=by simp [Region.wanted,hg,hy]
   have cD:At ds G W (s.put ((ops[j]?).bind (·.dst)) (.v (.bool c))) L R Φ a w:=by
    have:=ha.put ((ops[j]?).bind (·.dst)) (sv:=.v (.bool c)) (v:=.bool c) (Ext.refl L) (λk o e=>by cases e) ha.ctx ha.st (λ_=>rfl)
    rw [hk] at this ⊢
    rwa [aAy hlt hv] at this
   have jH:dR D s0 ((s.put ((ops[j]?).bind (·.dst)) (.v (.bool c))).fr L):=hu.xQ ha.wf (Ext.refl L) (by
    intro t ht
    cases hj:ops[j]? with
    | none=>simp [hj] at ht
    | some oj=>rw [hj] at ht;exact hD j oj t hj ht)
   refine ⟨_,cD,jH,?_⟩
   rw [hw]
   cases c
   ·simp only [Br] at h
    cases hcw:false == want with
    | true=>rw [hcw] at h;exact .inl ⟨rfl,h⟩
    | false=>rw [hcw] at h;exact .inr ⟨rfl,h⟩
   ·simp only [Br] at h
    cases hcw:true == want with
    | true=>rw [hcw] at h;exact .inl ⟨rfl,h⟩
    | false=>rw [hcw] at h;exact .inr ⟨rfl,h⟩
  ·split at h
   ·rename_i hl
    obtain ⟨k,hk,hlt,hv⟩:=a19 ha.B5 hl
    have hy:yielded ops a.tmps j=none:=by
     unfold yielded
     rw [hk]
     simp only [Option.bind_some]
     rw [Array.getD_eq_getD_getElem?] at hv
     simp only [hlt,getElem?_pos,Option.getD_some] at hv
     simp [hlt,hv]
    exact ⟨s,ha,hu,.inr ⟨by simp [Region.wanted,hg,hy],h⟩⟩
   ·exact h.elim
section
variable (P:Program) (W:World)
def aAI (wr AV:Nat->Bool) (ops:Array Oper):List Oper->dU->List Tr->List Own->PW->(dU->List Tr->List Own->PW->Prop)->Prop
 | [],s,L,R,Φ,K=>K s L R Φ
 | o :: rest,s,L,R,Φ,K=>rL ops o s L
   (λs=>opS P W (wr (o.dst.getD 0)) (AV (o.dst.getD 0)) (λi=>lG o.dst i ops.toList) o s L R Φ λv L R Φ=>aAI wr AV ops rest (s.put o.dst v) L R Φ K)
   (λs=>aAI wr AV ops rest (s.put o.dst (.v undef)) L R Φ K)
def rdS (wr:Bool) (o:Oper) (s:dU) (L:List Tr) (R:List Own) (Φ:PW) (K:SV->Prop):Prop :=
 match o.op with
 | .pick c x y=>match s.val L c with
  | .bool b=>Br b (K (s.ev x)) (K (s.ev y))
  | _=>False
 | _=>match LG (s.fr L) o&&vH o with
  | true=>LW (b9 P W wr o s L R Φ K)
  | false=>False
def a2a (wr:Nat->Bool) (ops:Array Oper) (L:List Tr) (R:List Own) (Φ:PW):List Nat->dU->(dU->Prop)->Prop
 | [],s,K=>K s
 | i :: r,s,K=>match ops[i]? with
  | none=>False
  | some o=>rL ops o s L (λs=>rdS P W (wr (o.dst.getD 0)) o s L R Φ λv=>a2a wr ops L R Φ r (s.put o.dst v) K) (λs=>a2a wr ops L R Φ r (s.put o.dst (.v undef)) K)
def LX (o:Oper) (s:dU) (L:List Tr) (K:SV->Prop):Bool :=
 match o.op with
 | .load _ x=>match s.ev x with | .ptr _ _=>false | .v _=>true
 | .move _ | .assign _ | .nilCheck _ | .fieldAddr .. | .indexAddr .. => false
 | _=>iN P o (s.val L) λv=>K (.v v)
def hrS (wr:Bool) (o:Oper) (s:dU) (L:List Tr) (Q0:List Own) (bZ:PW) (K:SV->Prop):Prop :=
 match o.op with
 | .pick c x y=>match s.val L c with
  | .bool b=>Br b (K (s.ev x)) (K (s.ev y))
  | _=>False
 | _=>match LG (s.fr L) o&&vH o with
  | true=>match LX P o s L K with
   | true=>SF P o.type λv=>(∀ w S,Ctx W w (Q0++S) bZ->LW (iU P wr o (s.val L) w none λu=>u=v))/\K (.v v)
   | false=>LW (b9 P W wr o s L [] bZ K)
  | false=>False
def hS (wr:Nat->Bool) (ops:Array Oper) (L:List Tr) (Q0:List Own) (bZ:PW):List (Nat × Bool)->dU->List Own->PW->(dU->List Own->PW->Prop)->Prop
 | [],s,R,Φ,K=>K s R Φ
 | (i,still) :: r,s,R,Φ,K=>match ops[i]? with
  | none=>False
  | some o=>rL ops o s L
    (λs=>match still with
     | true=>hrS P W (wr (o.dst.getD 0)) o s L Q0 bZ λv=>hS wr ops L Q0 bZ r (s.put o.dst v) R Φ K
     | false=>opS P W (wr (o.dst.getD 0)) false (λi=>lG o.dst i ops.toList) o s L R Φ λv L' R' aF=>match v,xR [] L' L with
      | .v x,true=>(∀ w F,Ctx W w (R'++F) aF->Ctx W w (Q0++F) bZ)/\hS wr ops L Q0 bZ r (s.put o.dst (.v x)) R' aF K
      | _,_=>False)
    (λs=>hS wr ops L Q0 bZ r (s.put o.dst (.v undef)) R Φ K)
def prS (wr:Bool) (o:Oper) (s:dU) (L:List Tr) (Q0:List Own) (bZ:PW) (K:SV->Prop):Prop :=
 match o.op with
 | .pick c x y=>match s.val L c with
  | .bool b=>Br b (K (s.ev x)) (K (s.ev y))
  | _=>False
 | .load _ x=>match s.ev x with
  | .ptr _ _=>False
  | .v _=>match LG (s.fr L) o&&vH o with
   | true=>SF P o.type λv=>(∀ w S,Ctx W w (Q0++S) bZ->LW (iU P wr o (s.val L) w none λu=>u=v))/\K (.v v)
   | false=>False
 | _=>match LG (s.fr L) o&&vH o with
  | true=>match LX P o s L K with
   | true=>False
   | false=>LW (b9 P W wr o s L [] (λ_ _=>True) K)
  | false=>False
def fS (wr AV:Nat->Bool) (ops:Array Oper) (Q0:List Own) (bZ:PW):List (Nat × Bool)->dU->List Tr->List Own->PW->(dU->List Tr->List Own->PW->Prop)->Prop
 | [],s,L,R,Φ,K=>K s L R Φ
 | (i,still) :: r,s,L,R,Φ,K=>match ops[i]? with
  | none=>False
  | some o=>rL ops o s L
    (λs=>match still with
     | true=>prS P W (wr (o.dst.getD 0)) o s L Q0 bZ λv=>fS wr AV ops Q0 bZ r (s.put o.dst v) L R Φ K
     | false=>opS P W (wr (o.dst.getD 0)) (AV (o.dst.getD 0)) (λi=>lG o.dst i ops.toList) o s L R Φ λv L R Φ=>(∀ w F,Ctx W w (R++F) Φ->Ctx W w (Q0++F) bZ)/\fS wr AV ops Q0 bZ r (s.put o.dst v) L R Φ K)
    (λs=>fS wr AV ops Q0 bZ r (s.put o.dst (.v undef)) L R Φ K)
def ltS (wr:Nat->Bool) (ops:Array Oper) (L:List Tr) (Q0:List Own) (bZ:PW):List Nat->dU->(dU->Prop)->Prop
 | [],s,K=>K s
 | i :: r,s,K=>match ops[i]? with
  | none=>False
  | some o=>rL ops o s L (λs=>prS P W (wr (o.dst.getD 0)) o s L Q0 bZ λv=>ltS wr ops L Q0 bZ r (s.put o.dst v) K) (λs=>ltS wr ops L Q0 bZ r (s.put o.dst (.v undef)) K)
def a4C (wr:Nat->Bool) (ops:Array Oper) (L:List Tr) (R:List Own) (Φ:PW) (Q0:List Own) (bZ:PW) (B:List Nat):List Nat->dU->(dU->Prop)->Prop
 | [],s,K=>K s
 | i :: r,s,K=>match ops[i]? with
  | none=>False
  | some o=>rL ops o s L (λs=>match dY i B with
    | true=>rdS P W (wr (o.dst.getD 0)) o s L R Φ λv=>a4C wr ops L R Φ Q0 bZ B r (s.put o.dst v) K
    | false=>prS P W (wr (o.dst.getD 0)) o s L Q0 bZ λv=>a4C wr ops L R Φ Q0 bZ B r (s.put o.dst v) K) (λs=>a4C wr ops L R Φ Q0 bZ B r (s.put o.dst (.v undef)) K)
def dlS (wr AV:Nat->Bool) (ops:Array Oper) (Q0:List Own) (bZ:PW):List (Nat × List Nat)->dU->List Tr->List Own->PW->(dU->List Tr->List Own->PW->Prop)->Prop
 | [],s,L,R,Φ,K=>K s L R Φ
 | (i,T) :: rest,s,L,R,Φ,K=>match ops[i]? with
   | none=>False
   | some o=>rL ops o s L
     (λs=>opS P W (wr (o.dst.getD 0)) (AV (o.dst.getD 0)) (λi=>lG o.dst i ops.toList) o s L R Φ λv L R Φ=>(∀ w F,Ctx W w (R++F) Φ->Ctx W w (Q0++F) bZ)/\ltS P W wr ops L Q0 bZ T (s.put o.dst v) λs=>dlS wr AV ops Q0 bZ rest s L R Φ K)
     (λs=>ltS P W wr ops L Q0 bZ T (s.put o.dst (.v undef)) λs=>dlS wr AV ops Q0 bZ rest s L R Φ K)
def PN (wr:Nat->Bool) (ops:Array Oper) (L:List Tr) (R:List Own) (Φ:PW) (Q0:List Own) (bZ:PW) (C:List Nat) (Q1:List Own) (bH:PW) (B:List Nat):List Nat->dU->(dU->Prop)->Prop
 | [],s,K=>K s
 | i :: r,s,K=>match ops[i]? with
  | none=>False
  | some o=>rL ops o s L (λs=>match dY i B with
    | true=>rdS P W (wr (o.dst.getD 0)) o s L R Φ λv=>PN wr ops L R Φ Q0 bZ C Q1 bH B r (s.put o.dst v) K
    | false=>match dY i C with
     | true=>prS P W (wr (o.dst.getD 0)) o s L Q1 bH λv=>PN wr ops L R Φ Q0 bZ C Q1 bH B r (s.put o.dst v) K
     | false=>prS P W (wr (o.dst.getD 0)) o s L Q0 bZ λv=>PN wr ops L R Φ Q0 bZ C Q1 bH B r (s.put o.dst v) K) (λs=>PN wr ops L R Φ Q0 bZ C Q1 bH B r (s.put o.dst (.v undef)) K)
def aAJ (dl i:Nat) (up:Bool) (p:Prop):Prop:=match up with
 | false=>True
 | true=>match Nat.beq dl i with|true=>True|false=>p
def aAK (wr AV:Nat->Bool) (ops:Array Oper) (Q0:List Own) (bZ:PW) (dl:Nat) (Q1:List Own) (bH:PW):Bool->List (Nat × List Nat)->dU->List Tr->List Own->PW->(dU->List Tr->List Own->PW->Prop)->Prop
 | _,[],s,L,R,Φ,K=>K s L R Φ
 | up,(i,T) :: rest,s,L,R,Φ,K=>match ops[i]? with
   | none=>False
   | some o=>rL ops o s L
     (λs=>opS P W (wr (o.dst.getD 0)) (AV (o.dst.getD 0)) (λi=>lG o.dst i ops.toList) o s L R Φ λv L R Φ=>(∀ w F,Ctx W w (R++F) Φ->Ctx W w (Q0++F) bZ)/\aAJ dl i up (∀ w F,Ctx W w (R++F) Φ->Ctx W w (Q1++F) bH)/\ltS P W wr ops L Q0 bZ T (s.put o.dst v) λs=>aAK wr AV ops Q0 bZ dl Q1 bH (up && !(Nat.beq dl i)) rest s L R Φ K)
     (λs=>ltS P W wr ops L Q0 bZ T (s.put o.dst (.v undef)) λs=>aAK wr AV ops Q0 bZ dl Q1 bH (up && !(Nat.beq dl i)) rest s L R Φ K)
inductive OT where
 | done
 | rd (i:Nat) (k:OT)
 | alt (i:Nat) (k r:OT)
 | no
def F0:OT->List Nat
 | .alt i _ r=>i :: F0 r
 | _=>[]
def XU:OT->List Nat
 | .rd i k=>i :: XU k
 | .alt i k _=>i :: XU k
 | _=>[]
def eY (ops:Array Oper) (listed:Array Bool):Bool :=
 (List.range ops.size).all λk => !(listed.getD k true)||match ops[k]? with
  | none=>true
  | some o=>o.after.toList.all λe => !(Region.binds .any e)||listed.getD e.on false
def B6 (ops:Array Oper) (fin:Array Bool):OT->Bool->Nat->Array Bool->Bool
 | .done,false,0,x=>decide (x=fin)
 | .rd i k,false,n+1,x=>(Region.ready .any ops x).contains i&&Region.free .any ops x i&&(Region.ready .any ops (fin.setIfInBounds i false) == [i] || !(eY ops (fin.setIfInBounds i false)))&&B6 ops fin k false n (x.setIfInBounds i true)
 | .alt i k r,false,n+1,x=>(Region.ready .any ops x == i :: F0 r)&&(B6 ops fin k false n (x.setIfInBounds i true)&&B6 ops fin r true n x)
 | .alt i k r,true,n,x=>B6 ops fin k false n (x.setIfInBounds i true)&&B6 ops fin r true n x
 | .no,true,_,_=>true
 | _,_,_,_=>false
def tS (wr:Nat->Bool) (ops:Array Oper) (L:List Tr) (Q0:List Own) (bZ:PW):OT->dU->List Own->PW->(dU->List Own->PW->Prop)->Prop
 | .done,s,R,Φ,K=>K s R Φ
 | .no,_,_,_,_=>True
 | .rd i k,s,R,Φ,K=>match ops[i]? with
  | none=>False
  | some o=>rL ops o s L (λs=>hrS P W (wr (o.dst.getD 0)) o s L Q0 bZ λv=>tS wr ops L Q0 bZ k (s.put o.dst v) R Φ K) (λs=>tS wr ops L Q0 bZ k (s.put o.dst (.v undef)) R Φ K)
 | .alt i k r,s,R,Φ,K=>(match ops[i]? with
  | none=>False
  | some o=>rL ops o s L
    (λs=>opS P W (wr (o.dst.getD 0)) false (λi=>lG o.dst i ops.toList) o s L R Φ λv L' R' aF=>match v,xR [] L' L with
      | .v x,true=>(∀ w F,Ctx W w (R'++F) aF->Ctx W w (Q0++F) bZ)/\tS wr ops L Q0 bZ k (s.put o.dst (.v x)) R' aF K
      | _,_=>False)
    (λs=>tS wr ops L Q0 bZ k (s.put o.dst (.v undef)) R Φ K))/\(match r with | .no=>True|r=>tS wr ops L Q0 bZ r s R Φ K)
inductive Sg where
 | tree (t:OT) (n:Nat)
 | aO (T:List Nat) (e:Option Nat)
 | held (ord:List (Nat × Bool))
 | free (ord:List (Nat × Bool))
 | late (B sW:List Nat) (l:List (Nat × List Nat))
 | XV (C:List Nat) (dl:Nat) (B sW:List Nat) (l:List (Nat × List Nat))
def LY:List (Nat × List Nat)->Array Bool->Array Bool
 | [],x=>x
 | (i,T) :: r,x=>LY r (bA T (x.setIfInBounds i true))
def jJ (sW:List Nat):List (Nat × List Nat)->List Nat
 | []=>sW
 | (_,T) :: r=>T++jJ sW r
def a0C (ops:Array Oper) (fin:Array Bool):List (Nat × List Nat)->Array Bool->Bool
 | [],listed=>decide (listed=fin)&&(Region.ready .any ops listed).isEmpty
 | (i,T) :: r,listed=>Region.ready .any ops listed == [i]&&(lH ops T (listed.setIfInBounds i true)&&a0C ops fin r (bA T (listed.setIfInBounds i true)))
def waits (ops:Array Oper) (b:Nat):List Nat->List Nat->List Nat
 | [],acc=>acc
 | k :: r,acc=>waits ops b r (match ops[k]? with
  | some o=>match o.after.any λe=>Region.binds .any e&&(Nat.beq e.on b||dY e.on acc) with
   | true=>k :: acc
   | false=>acc
  | none=>acc)
def uI (ops:Array Oper) (rd B:List Nat):Bool:=B.all λb=>dY b rd&&(λW:List Nat=>(List.range ops.size).all λj=>dY j rd||dY j W) (waits ops b (List.range ops.size) [])
def SZ:List (Nat × List Nat)->Nat
 | []=>0
 | (_,T) :: r=>(T.length+SZ r)+1
def AH (ops:Array Oper):List (Nat × Bool)->Array Bool->Bool
 | [],_=>true
 | (i,true) :: r,listed=>(Region.ready .any ops listed).contains i&&Region.free .any ops listed i&&AH ops r (listed.setIfInBounds i true)
 | (i,false) :: r,listed=>Region.ready .any ops listed == [i]&&AH ops r (listed.setIfInBounds i true)
def kF:List (Nat × Bool)->List Nat
 | []=>[]
 | (i,true) :: r=>i :: kF r
 | (_,false) :: r=>kF r
def aFm (ops:Array Oper) (T:List Nat) (fin:Array Bool):Bool :=
 T.all λi=>Region.ready .any ops (fin.setIfInBounds i false) == [i] || !(eY ops (fin.setIfInBounds i false))
def JL (ops:Array Oper):List Sg->Array Bool->Bool
 | [],listed=>(Region.ready .any ops listed).isEmpty
 | .aO T none :: rest,listed=>lH ops T listed&&NV ops T (bA T listed)&&JL ops rest (bA T listed)
 | .aO T (some i) :: rest,listed=>lH ops T listed&&NV ops T (bA T listed)&&(Region.ready .any ops (bA T listed) == [i]&&JL ops rest ((bA T listed).setIfInBounds i true))
 | .tree t n :: rest,listed=>eY ops listed&&B6 ops (bA (XU t) listed) t false n listed&&JL ops rest (bA (XU t) listed)
 | .held ord :: rest,listed=>AH ops ord listed&&eY ops listed&&aFm ops (kF ord) (bA (ord.map (·.1)) listed)&&JL ops rest (bA (ord.map (·.1)) listed)
 | .free ord :: rest,listed=>AH ops ord listed&&NV ops (kF ord) (bA (ord.map (·.1)) listed)&&JL ops rest (bA (ord.map (·.1)) listed)
 | .late B sW l :: _,listed=>eY ops listed&&lH ops sW listed&&(B.all λb=>dY b sW)&&uI ops (jJ sW l) B&&NV ops (jJ sW l) (LY l (bA sW listed))&&(l.all λp => !dY p.1 (jJ sW l))&&a0C ops (LY l (bA sW listed)) l (bA sW listed)
 | .XV C dl B sW l :: _,listed=>eY ops listed&&lH ops sW listed&&(B.all λb=>dY b sW)&&uI ops (jJ sW l) B&&NV ops (jJ sW l) (LY l (bA sW listed))&&(l.all λp => !dY p.1 (jJ sW l))&&a0C ops (LY l (bA sW listed)) l (bA sW listed)&&(C.all λc=>dY dl (waits ops c (List.range ops.size) [])) && !dY dl (jJ sW l)
def IU:List Sg->Nat
 | []=>0
 | .aO T none :: r=>T.length+IU r
 | .aO T (some _) :: r=>T.length+(IU r+1)
 | .tree _ n :: r=>n+IU r
 | .held ord :: r=>ord.length+IU r
 | .free ord :: r=>ord.length+IU r
 | .late _ sW l :: _=>sW.length+SZ l
 | .XV _ _ _ sW l :: _=>sW.length+SZ l
def JM (wr AV:Nat->Bool) (ops:Array Oper):List Sg->dU->List Tr->List Own->PW->(dU->List Tr->List Own->PW->Prop)->Prop
 | [],s,L,R,Φ,K=>K s L R Φ
 | .aO T none :: rest,s,L,R,Φ,K=>a2a P W wr ops L R Φ T s λs=>JM wr AV ops rest s L R Φ K
 | .aO T (some i) :: rest,s,L,R,Φ,K=>a2a P W wr ops L R Φ T s λs=>match ops[i]? with
   | none=>False
   | some o=>rL ops o s L
     (λs=>opS P W (wr (o.dst.getD 0)) (AV (o.dst.getD 0)) (λi=>lG o.dst i ops.toList) o s L R Φ λv L R Φ=>JM wr AV ops rest (s.put o.dst v) L R Φ K)
     (λs=>JM wr AV ops rest (s.put o.dst (.v undef)) L R Φ K)
 | .tree t _ :: rest,s,L,R,Φ,K=>∃ (Q0:List Own) (bZ:PW),aA bZ/\(∀ w F,Ctx W w (R++F) Φ->Ctx W w (Q0++F) bZ)/\tS P W wr ops L Q0 bZ t s R Φ λs R Φ=>JM wr AV ops rest s L R Φ K
 | .held ord :: rest,s,L,R,Φ,K=>∃ (Q0:List Own) (bZ:PW),aA bZ/\(∀ w F,Ctx W w (R++F) Φ->Ctx W w (Q0++F) bZ)/\hS P W wr ops L Q0 bZ ord s R Φ λs R Φ=>JM wr AV ops rest s L R Φ K
 | .late B sW l :: _,s,L,R,Φ,K=>∃ (Q0:List Own) (bZ:PW),aA bZ/\(∀ w F,Ctx W w (R++F) Φ->Ctx W w (Q0++F) bZ)/\a4C P W wr ops L R Φ Q0 bZ B sW s λs=>dlS P W wr AV ops Q0 bZ l s L R Φ K
 | .XV C dl B sW l :: _,s,L,R,Φ,K=>∃ (Q0:List Own) (bZ:PW),aA bZ/\(∀ w F,Ctx W w (R++F) Φ->Ctx W w (Q0++F) bZ)/\∃ (Q1:List Own) (bH:PW),aA bH/\(∀ w F,Ctx W w (R++F) Φ->Ctx W w (Q1++F) bH)/\PN P W wr ops L R Φ Q0 bZ C Q1 bH B sW s λs=>aAK P W wr AV ops Q0 bZ dl Q1 bH true l s L R Φ K
 | .free ord :: rest,s,L,R,Φ,K=>∃ (Q0:List Own) (bZ:PW),aA bZ/\(∀ w F,Ctx W w (R++F) Φ->Ctx W w (Q0++F) bZ)/\fS P W wr AV ops Q0 bZ ord s L R Φ λs L R Φ=>JM wr AV ops rest s L R Φ K
def qS (wr d:Bool) (es:List QV) (o:Oper) (s:dU) (L:List Tr) (w:World) (g:Option Bool) (ch:List (Nat × Bool)) (K:SV->Prop):Prop :=
 match o.op with
 | .fieldAddr t x f=>match s.ev x with
  | .ptr k off=>match AF es ch (s.fr L) x with|true=>a0A P t k off f K|false=>False
  | .v _=>NT P wr d es o (s.fr L) w g ch λv=>K (.v v)
 | .load t x=>match s.ev x with
  | .ptr k off=>match AF es ch (s.fr L) x with|true=>loadT P t L k off λv=>K (.v v)|false=>False
  | .v _=>NT P wr d es o (s.fr L) w g ch λv=>K (.v v)
 | .move x=>match AF es ch (s.fr L) x with|true=>K (s.ev x)|false=>False
 | .assign x=>match AF es ch (s.fr L) x with|true=>K (s.ev x)|false=>False
 | _=>NT P wr d es o (s.fr L) w g ch λv=>K (.v v)
def zK (es:List QV) (s:dU):dU:=⟨s.n,go s.l⟩
where go:List (Nat × SV)->List (Nat × SV)
 | []=>[]
 | (t,v) :: r=>match SJ es t with|true=>(t,v) :: go r|false=>go r
def qsS (wr:Nat->Bool) (d:Bool) (ops:Array Oper) (L:List Tr) (w:World):List Oper->List QV->dU->(dU->Prop)->Prop
 | [],es,s,K=>K (zK es s)
 | o :: rest,es,s,K =>
  match guardOf ops es (s.fr L) o,o.dst with
  | some (g,ch),some t =>
   match (qU es t).isNone&&Nat.blt t s.n with
   | true=>qS P (wr t) d es o s L w g ch λv=>qsS wr d ops L w rest (⟨t,g,ch⟩ :: es) (s.put (some t) v) K
   | false=>False
  | _,_=>False
end
section
variable {P:Program} {W:World} {ops:Array Oper} {wr AV:Nat->Bool} {D:Nat->Prop} {s0:Fr}
theorem JN {Q:Exit->Act->World->Prop} {L0:List Tr} {K:dU->List Tr->List Own->PW->Prop}
  (hD:∀ (j:Nat) (o:Oper) (t:Nat),ops[j]? = some o->o.dst=some t->D t) (hK:∀ s L R Φ a w,K s L R Φ->At ds G W s L R Φ a w->Ext L0 L->dR D s0 (s.fr L)->Q .normal a w) :
  ∀ (l:List Oper) (s:dU) (L:List Tr) (R:List Own) (Φ:PW) (a:Act) (w:World),(∀ o∈l,∀ t,o.dst=some t->D t)->aAI P W wr AV ops l s L R Φ K->At ds G W s L R Φ a w->Ext L0 L->dR D s0 (s.fr L)->wpList P ops Q l a w
 | [],s,L,R,Φ,a,w,_,h,ha,he,hu=>hK _ _ _ _ _ _ h ha he hu
 | o :: rest,s,L,R,Φ,a,w,hl,h,ha,he,hu=>by
  have hl':∀ o∈rest,∀ t,o.dst=some t->D t:=λo ho=>hl o (List.mem_cons_of_mem _ ho)
  have ho:∀ t,o.dst=some t->D t:=hl o (by simp)
  unfold aAI at h
  unfold wpList
  obtain ⟨s',cD,jH,h⟩:=fG hD h ha hu
  rcases h with ⟨hw,h⟩|⟨hw,h⟩
  ·rw [if_pos hw]
   have:=cD.st
   refine .inl (Oper.qK (tP h cD.B5 cD.wf cD.ctx λsv L' R' aF v' w' hk hst xS hp hc hv=>?_))
   exact JN hD hK rest _ _ _ _ _ _ hl' hk (cD.put o.dst xS hp hc hst hv) (he.trans xS) (jH.xQ cD.wf xS ho)
  ·rw [if_neg (by simp [hw])]
   exact JN hD hK rest _ _ _ _ _ _ hl' h (cD.put o.dst (Ext.refl _) (λk o e=>by cases e) cD.ctx cD.st (λ_=>rfl)) he (jH.xQ cD.wf (Ext.refl _) ho)
theorem O0 {wr:Bool} {o:Oper} {s:dU} {L:List Tr} {R:List Own} {Φ:PW} {a:Act} {w:World} {K:SV->Prop} (h:rdS P W wr o s L R Φ K) (ha:At ds G W s L R Φ a w) :
  ∃ sv v',K sv/\(∀ k o,sv=SV.ptr k o->(bL k L).isSome=true)/\(AE (sv.val L)=false->v'=sv.val L)/\(execOp a.eval o).run P w=.ok (.value v') w:=by
 have hev:=uH s L
 unfold rdS at h
 split at h
 ·rename_i cc x y hop
  split at h
  ·rename_i b hc
   have VX:a.eval cc=.bool b:=by rw [ha.B5.eval (by rw [hev,hc];rfl),hev,hc]
   cases b with
   | true =>
    exact ⟨s.ev x,a.eval x,h,λk o e=>ha.wf.ev e,λhu=>by rw [ha.B5.eval (by rw [hev];exact hu),hev];rfl,by simp only [execOp,hop,VX,asBool,Sem.run_bind,Sem.run_pure,Result.andThen,if_true]⟩
   | false =>
    exact ⟨s.ev y,a.eval y,h,λk o e=>ha.wf.ev e,λhu=>by rw [ha.B5.eval (by rw [hev];exact hu),hev];rfl,by simp [execOp,hop,VX,asBool,Sem.run_bind,Sem.run_pure,Result.andThen]⟩
  ·exact h.elim
 ·split at h
  ·rename_i ho
   simp only [Bool.and_eq_true] at ho
   rw [EV ha.B5 ho.1 ho.2,show (s.fr L).eval=s.val L from funext hev]
   unfold LW at h
   split at h
   ·rename_i p hp
    obtain ⟨sv,h1,h2,h3⟩:=PL ha.wf ha.ctx hp h
    exact ⟨sv,_,h3,h1,λ_=>rfl,h2 w rfl⟩
   ·exact h.elim
  ·exact h.elim
theorem T0 {Q:Exit->Act->World->Prop} {L:List Tr} {R:List Own} {Φ:PW} {w:World} {Kf:dU->Prop} {K:Act->World->Prop} {fin:Array Bool} (hsel:Region.noSelect ops=true)
  (hD:∀ (j:Nat) (o:Oper) (t:Nat),ops[j]? = some o->o.dst=some t->D t) (hK:∀ s a,Kf s->At ds G W s L R Φ a w->dR D s0 (s.fr L)->K a w) :
  ∀ (T:List Nat) (listed:Array Bool) (s:dU) (a:Act),(∀ i∈T,Region.ready .any ops (fin.setIfInBounds i false)=[i])->lH ops T listed=true->bA T listed=fin->a2a P W wr ops L R Φ T s Kf->At ds G W s L R Φ a w->dR D s0 (s.fr L) ->
   nJ P .any ops (fR Q) (λw'=>w'=w) (λl=>l=fin) K T.length listed a w
 | [],listed,s,a,_,_,hf,h,ha,hu=>⟨hf,hK s a h ha hu⟩
 | i :: r,listed,s,a,hl,ho,hf,h,ha,hu=>by
  simp only [lH,Bool.and_eq_true] at ho
  obtain ⟨⟨vG,zL⟩,T3⟩:=ho
  unfold a2a at h
  split at h
  ·exact h.elim
  rename_i o hi
  have hd:∀ t,o.dst=some t->D t:=λt ht=>hD i o t hi ht
  have hr:i∈Region.ready .any ops listed:=by simpa using vG
  have hE:∀ l:Array Bool,l.setIfInBounds i true=fin->i∈Region.ready .any ops l->∀ j∈Region.ready .any ops l,j=i:=by
   intro l hl' hil j hj
   have e:l=fin.setIfInBounds i false:=by
    have h0:=(mem_ready.1 hil).1
    rw [<-hl']
    have h2:l[i]? = some false:=by
     rw [Array.getD_eq_getD_getElem?] at h0
     cases hx:l[i]? with
     | none=>rw [hx] at h0;cases h0
     | some b=>rw [hx] at h0;simp at h0;subst h0;rfl
    have hlt:i<l.size:=(Array.getElem?_eq_some_iff.1 h2).1
    apply Array.ext_getElem?
    intro k
    by_cases hk:i=k
    ·subst hk
     rw [Array.getElem?_setIfInBounds_self_of_lt (by simpa using hlt),h2]
    ·rw [Array.getElem?_setIfInBounds_ne hk,Array.getElem?_setIfInBounds_ne hk]
   rw [e,hl i (by simp)] at hj
   simpa using hj
  have take:∀ (s':dU) (sv:SV) (v':Value),At ds G W s' L R Φ a w->dR D s0 (s'.fr L)->(∀ k o,sv=SV.ptr k o->(bL k L).isSome=true)->(AE (sv.val L)=false->v'=sv.val L)->YieldsIf P ops (λw'=>w'=w) o v' a->a2a P W wr ops L R Φ r (s'.put o.dst sv) Kf ->
    nJ P .any ops (fR Q) (λw'=>w'=w) (λl=>l=fin) K (i :: r).length listed a w:=by
   intro s' sv v' cD jH hp hv hy hk
   have ih:=T0 (Q:=Q) hsel hD hK r (listed.setIfInBounds i true) (s'.put o.dst sv) (a.put o.dst v') (λj hj=>hl j (List.mem_cons_of_mem _ hj)) T3 hf hk (cD.put o.dst (Ext.refl _) hp cD.ctx cD.st hv) (jH.xQ cD.wf (Ext.refl _) hd)
   exact LH hi (Region.noSelect_spec hsel) (λ_ _ _ h=>h) hE r.length listed a w (Region.free_spec hi zL) hr hy rfl ih
  obtain ⟨s',cD,jH,h⟩:=fG hD h ha hu
  rcases h with ⟨hw,h⟩|⟨hw,h⟩
  ·obtain ⟨sv,v',h1,h2,h3,h4⟩:=O0 h cD
   exact take s' sv v' cD jH h2 h3 (.inl ⟨hw,λw' e=>by subst e;exact h4⟩) h1
  ·exact take s' (.v undef) undef cD jH (λk o e=>by cases e) (λ_=>rfl) (.inr ⟨hw,rfl⟩) h
theorem XW {Q:Exit->Act->World->Prop} {L:List Tr} {R:List Own} {Φ:PW} {w:World} {Kf:dU->Prop} {m:Nat} (hsel:Region.noSelect ops=true)
  (hD:∀ (j:Nat) (o:Oper) (t:Nat),ops[j]? = some o->o.dst=some t->D t) {T:List Nat} {listed:Array Bool} {s:dU} {a:Act}
  (hK:∀ s a,Kf s->At ds G W s L R Φ a w->dR D s0 (s.fr L)->wpAny P .any ops (fR Q) m (bA T listed) a w) (vG:lH ops T listed=true) (zL:NV ops T (bA T listed)=true) (h:a2a P W wr ops L R Φ T s Kf)
  (ha:At ds G W s L R Φ a w) (hu:dR D s0 (s.fr L)):wpAny P .any ops (fR Q) (T.length+m) listed a w:=by
 have hl:∀ j∈T,Region.ready .any ops ((bA T listed).setIfInBounds j false)=[j]:=by
  intro j hj
  have:=List.all_eq_true.1 zL j hj
  simpa using this
 refine xK (S:=λw'=>w'=w) (E:=λl=>l=bA T listed) (K:=λa' w'=>w'=w/\wpAny P .any ops (fR Q) m (bA T listed) a' w) ?_ T.length listed a w ?_
 ·rintro l a w1 rfl ⟨rfl,hk⟩;exact hk
 ·exact T0 hsel hD (λs a hk ha hu=>⟨rfl,hK s a hk ha hu⟩) T listed s a hl vG rfl h ha hu
theorem a8f {t:TypeId} {L:List Tr} {k off:Nat} {K:Value->Prop} {T:Tr} (hT:bL k L=some T) (h:loadT P t L k off K) :
  ∃ v,K v/\∀ w:World,wA w T.b T.cs T.t->(loadVar t ⟨T.b,off,none⟩).run P w=.ok v w:=by
 unfold loadT at h
 rw [hT] at h
 split at h
 ·rename_i T' d i e hd hi
  cases e
  split at h
  ·rename_i l ha hz
   split at h
   ·rename_i hc
    simp only [Bool.and_eq_true] at hc
    have hlen:=Nat.eq_of_beq_eq_true hc.1
    have hfit:∀ {l:List Sc} {vs:List Value},a16 l vs=true->vs.length=l.length:=by
     intro l
     induction l with
     | nil=>intro vs h;cases vs<;>simp_all [a16]
     | cons s r ih =>
      intro vs h
      cases vs with
      | nil=>simp [a16] at h
      | cons v vs =>
       unfold a16 at h
       split at h
       ·simp [ih h]
       ·cases h
    refine ⟨_,h,λw hb=>?_⟩
    have hl2:=hfit hc.2
    rw [hlen] at hl2
    have hrow:dH w T.b off ((T.cs.drop off).take i.size):=hb.row λj hj=>by
     simp only [List.length_take,List.length_drop] at hj
     rw [List.getElem_take,List.getElem_drop,List.getElem?_eq_getElem]
    generalize (T.cs.drop off).take i.size=vs at hl2 hrow
    have hr:=run_loadCellsFrom (P:=P) (w:=w) (b:=T.b) (o:=off) vs 0 #[] (λj hj=>by rw [Nat.zero_add];exact hrow j hj)
    unfold loadVar loadCells
    simp only [Sem.run_bind,xB hd,ha,Result.andThen,if_true,run_sizeOf hi,<-hl2,hr,Sem.run_pure]
    simp
   ·exact h.elim
  ·rename_i sc ha hz
   split at h
   ·rename_i v hv
    have one:∀ w:World,wA w T.b T.cs T.t->(loadVar t ⟨T.b,off,none⟩).run P w=.ok v w:=by
     intro w hb
     have hcell:=hb.LN hv
     unfold loadVar
     simp only [Sem.run_bind,xB hd,ha,Result.andThen,Bool.false_eq_true,if_false,load,Sem.run,hcell]
    split at h
    ·obtain ⟨f,a,c,rfl,h⟩:=h
     exact ⟨_,h,one⟩
    ·split at h
     ·exact ⟨v,h,one⟩
     ·exact h.elim
   ·exact h.elim
  ·exact h.elim
 ·exact h.elim
theorem a4D {wr:Bool} {o:Oper} {s:dU} {L:List Tr} {Q0:List Own} {bZ:PW} {K:SV->Prop} {p:Prop} (hst:aA bZ) (hwf:JH L s) (h:b9 P W wr o s L [] bZ K=some p) (hp:p) (hu:LX P o s L K=false) :
  ∃ sv,K sv/\(∀ k o,sv=SV.ptr k o->(bL k L).isSome=true)/\∀ w',Ctx W w' (Q0++(L.map Tr.own++G)) bZ->(execOp (s.val L) o).run P w'=.ok (.value (sv.val L)) w':=by
 have HL:∀ {p:Prop},iN P o (s.val L) (λv=>K (.v v))=false->iU P wr o (s.val L) W none (λv=>K (.v v))=some p->p ->
   ∃ sv,K sv/\(∀ k o,sv=SV.ptr k o->(bL k L).isSome=true)/\∀ w',Ctx W w' (Q0++(L.map Tr.own++G)) bZ->(execOp (s.val L) o).run P w'=.ok (.value (sv.val L)) w':=by
  intro p hf hq hp
  obtain ⟨v,h1,h2⟩:=JI W W hq hf hp
  exact ⟨.v v,h2,λk o e=>(by cases e),λw' _=>h1 w'⟩
 unfold b9 at h
 split at h
 ·rename_i x hop
  cases h
  exact ⟨s.ev x,hp,λk o e=>hwf.ev e,λw' _=>by simp [execOp,hop,dU.val]⟩
 ·rename_i x hop
  cases h
  exact ⟨s.ev x,hp,λk o e=>hwf.ev e,λw' _=>by simp [execOp,hop,dU.val]⟩
 ·rename_i x hop
  split at h
  ·rename_i k off hx
   cases h
   obtain ⟨T,hT⟩:=Option.isSome_iff_exists.1 (hwf.ev hx)
   refine ⟨.ptr k off,hp,λk' o' e=>by cases e;rw [hT];rfl,λw' _=>?_⟩
   have hv:s.val L x=.pointer (some ⟨T.b,off,none⟩):=by rw [dU.val,hx,fE hT]
   simp [execOp,hop,hv,fE hT]
  ·exact HL (by simp [iN,hop]) h hp
 ·rename_i t x f hop
  split at h
  ·rename_i k off hx
   cases h
   obtain ⟨T,hT⟩:=Option.isSome_iff_exists.1 (hwf.ev hx)
   obtain ⟨off',h1,h2⟩:=wQ hT hp
   refine ⟨.ptr k off',h2,λk' o' e=>by cases e;rw [hT];rfl,λw' _=>?_⟩
   have hv:s.val L x=.pointer (some ⟨T.b,off,none⟩):=by rw [dU.val,hx,fE hT]
   simp [execOp,hop,hv,fE hT,h1 w',Result.andThen]
  ·exact HL (by simp [iN,hop]) h hp
 ·rename_i t x i hop
  split at h
  ·rename_i k off hx
   cases h
   obtain ⟨T,hT⟩:=Option.isSome_iff_exists.1 (hwf.ev hx)
   obtain ⟨off',h1,h2⟩:=CM hT hp
   refine ⟨.ptr k off',h2,λk' o' e=>by cases e;rw [hT];rfl,λw' _=>?_⟩
   have hv:s.val L x=.pointer (some ⟨T.b,off,none⟩):=by rw [dU.val,hx,fE hT]
   simp [execOp,hop,hv,fE hT,h1 w',Result.andThen]
  ·exact HL (by simp [iN,hop]) h hp
 ·rename_i t x hop
  split at h
  ·rename_i k off hx
   cases h
   obtain ⟨T,hT⟩:=Option.isSome_iff_exists.1 (hwf.ev hx)
   obtain ⟨v,h2,h1⟩:=a8f hT hp
   refine ⟨.v v,h2,λk o e=>(by cases e),λw' hS=>?_⟩
   have hb:wA w' T.b T.cs T.t:=jR.blk (show jR G W w' L Q0 bZ from hS) hT
   have hv:s.val L x=.pointer (some ⟨T.b,off,none⟩):=by rw [dU.val,hx,fE hT]
   simp [execOp,hop,hv,Instr.loadAt,Instr.sureAddr,h1 w' hb,Result.andThen,SV.val]
  ·rename_i x' hx
   unfold LX at hu
   simp only [hop,hx] at hu
   cases hu
 ·rename_i hop
  unfold LX at hu
  simp only [hop] at hu
  simp [iN,hop] at hu
 ·rename_i n1 n2 n3 n4 n5 n6 n7
  have jH:iN P o (s.val L) (λv=>K (.v v))=false:=by
   clear h HL
   unfold LX at hu
   split at hu
   ·rename_i t x hop;exact absurd hop (n6 t x)
   ·rename_i x hop;exact absurd hop (n1 x)
   ·rename_i x hop;exact absurd hop (n2 x)
   ·rename_i x hop;exact absurd hop (n3 x)
   ·rename_i t x f hop;exact absurd hop (n4 t x f)
   ·rename_i t x f hop;exact absurd hop (n5 t x f)
   ·exact hu
  rw [jH] at h
  simp only at h
  exact HL jH h hp
theorem XX {wr:Bool} {o:Oper} {s:dU} {L:List Tr} {R:List Own} {Φ bZ:PW} {Q0:List Own} {a:Act} {w:World} {K:SV->Prop} (hst:aA bZ) (h:hrS P W wr o s L Q0 bZ K) (ha:At ds G W s L R Φ a w) (hw:Ctx W w (Q0++(L.map Tr.own++G)) bZ) :
  ∃ sv v',K sv/\(∀ k o,sv=SV.ptr k o->(bL k L).isSome=true)/\(AE (sv.val L)=false->v'=sv.val L)/\∀ w',Ctx W w' (Q0++(L.map Tr.own++G)) bZ->(execOp a.eval o).run P w'=.ok (.value v') w':=by
 have hev:=uH s L
 unfold hrS at h
 split at h
 ·rename_i cc x y hop
  split at h
  ·rename_i b hc
   have VX:a.eval cc=.bool b:=by rw [ha.B5.eval (by rw [hev,hc];rfl),hev,hc]
   cases b with
   | true =>
    exact ⟨s.ev x,a.eval x,h,λk o e=>ha.wf.ev e,λhu=>by rw [ha.B5.eval (by rw [hev];exact hu),hev];rfl,λw' _=>by simp only [execOp,hop,VX,asBool,Sem.run_bind,Sem.run_pure,Result.andThen,if_true]⟩
   | false =>
    exact ⟨s.ev y,a.eval y,h,λk o e=>ha.wf.ev e,λhu=>by rw [ha.B5.eval (by rw [hev];exact hu),hev];rfl,λw' _=>by simp [execOp,hop,VX,asBool,Sem.run_bind,Sem.run_pure,Result.andThen]⟩
  ·exact h.elim
 ·split at h
  ·rename_i ho
   simp only [Bool.and_eq_true] at ho
   rw [EV ha.B5 ho.1 ho.2,show (s.fr L).eval=s.val L from funext hev]
   split at h
   ·obtain ⟨v,h1,h2⟩:=qR h
    refine ⟨.v v,v,h2,λk o e=>(by cases e),λ_=>rfl,λw' hS=>?_⟩
    obtain ⟨u,h3,h4⟩:=JJ (w:=w') (h1 w' _ hS)
    subst h4
    exact h3 w' rfl
   ·rename_i hu
    unfold LW at h
    split at h
    ·rename_i p hp
     obtain ⟨sv,h1,h2,h3⟩:=a4D hst ha.wf hp h (by simpa using hu)
     exact ⟨sv,_,h1,h2,λ_=>rfl,h3⟩
    ·exact h.elim
  ·exact h.elim
theorem B7 {l:Array Bool} {i k:Nat} (h:l.getD k false=true):(l.setIfInBounds i true).getD k false=true:=by
 rw [Array.getD_eq_getD_getElem?] at h ⊢
 by_cases hk:i=k
 ·subst hk
  rcases Nat.lt_or_ge i l.size with h'|h'
  ·rw [Array.getElem?_setIfInBounds_self_of_lt h'];rfl
  ·rw [Array.getElem?_eq_none (by simpa using h')] at h;cases h
 ·rwa [Array.getElem?_setIfInBounds_ne hk]
theorem jS {ops:Array Oper} {listed:Array Bool} {i:Nat} (hc:eY ops listed=true) (hr:i∈Region.ready .any ops listed):eY ops (listed.setIfInBounds i true)=true:=by
 unfold eY at hc ⊢
 rw [List.all_eq_true] at hc ⊢
 intro k hk
 have h0:=hc k hk
 obtain ⟨_,oi,hoi,hall⟩:=mem_ready.1 hr
 by_cases hki:i=k
 ·subst hki
  simp only [hoi]
  rw [Bool.or_eq_true]
  right
  rw [List.all_eq_true]
  intro e he
  cases hb:Region.binds .any e with
  | false=>rfl
  | true =>
   rw [Bool.or_eq_true]
   exact .inr (B7 (hall e (by simpa using he) hb))
 ·rw [getD_set_ne true hki]
  rw [Bool.or_eq_true] at h0 ⊢
  rcases h0 with h0|h0
  ·exact .inl h0
  ·right
   split at h0
   ·rfl
   ·rw [List.all_eq_true] at h0 ⊢
    intro e he
    have:=h0 e he
    rw [Bool.or_eq_true] at this ⊢
    rcases this with h|h
    ·exact .inl h
    ·exact .inr (B7 h)
theorem IV {P:Program} {ops:Array Oper} {Q:Exit->Act->World->Prop} {S:World->Prop} {E:Array Bool->Prop} {K:Act->World->Prop} {i:Nat} {oi:Oper} {v:Value} (hi:ops[i]? = some oi) (hsel:∀ (j:Nat) (o:Oper) cs b,ops[j]? = some o->o.op≠.select cs b)
  (hQ:∀ c a w,Q (.panic c) (a.put oi.dst v) w->Q (.panic c) a w) (hE:∀ listed,eY ops listed=true->E (listed.setIfInBounds i true)->i∈Region.ready .any ops listed->∀ j∈Region.ready .any ops listed,j=i) :
  ∀ (n:Nat) (listed:Array Bool) (a:Act) (w:World),eY ops listed=true ->
   (∀ j oj,ops[j]? = some oj->j≠i->listed.getD j true=false->(∀ e∈oj.after,Region.binds .any e=true->e.on≠i)->oi.apart ops oj=true) ->
   i∈Region.ready .any ops listed->YieldsIf P ops S oi v a->S w ->
   nJ P .any ops Q S E K n (listed.setIfInBounds i true) (a.put oi.dst v) w->nJ P .any ops Q S E K (n+1) listed a w:=by
 intro n
 induction n with
 | zero =>
  intro listed a w hc _ hr hy hS H
  refine ⟨λh=>(by rw [h] at hr;cases hr),λj hj=>?_⟩
  have:=hE listed hc H.1 hr j hj
  subst this
  exact hy.wpOp hi hS ⟨hS,H⟩
 | succ n ih =>
  intro listed a w hc hfree hr hy hS H
  refine ⟨λh=>(by rw [h] at hr;cases hr),λj hj=>?_⟩
  by_cases hji:j=i
  ·subst hji;exact hy.wpOp hi hS ⟨hS,H⟩
  ·have h1:=H.2 j (ready_mono hj hji)
   obtain ⟨a1X,oj,hoj,hall⟩:=mem_ready.1 hj
   have hnot:∀ e∈oj.after,Region.binds .any e=true->e.on≠i:=λe he hb heq=>by
    have h1:=hall e he hb
    have h0:=(mem_ready.1 hr).1
    rw [heq] at h1
    rcases Nat.lt_or_ge i listed.size with h'|h'
    ·simp [h'] at h0 h1;rw [h0] at h1;cases h1
    ·simp [Array.getElem?_eq_none h'] at h1
   have h2:=wpOp_putIf hoj (hfree j oj hoj hji a1X hnot) (λcs b=>hsel i oi cs b hi) (λcs b=>hsel j oj cs b hoj) hQ hy h1
   have SL:∀ k ok,ops[k]? = some ok->k≠i->(listed.setIfInBounds j true).getD k true=false ->
     (∀ e∈ok.after,Region.binds .any e=true->e.on≠i)->oi.apart ops ok=true:=λk ok hk hki hun hno=>by
    refine hfree k ok hk hki ?_ hno
    by_cases hjk:j=k
    ·subst hjk;exact a1X
    ·rw [getD_set_ne true hjk] at hun;exact hun
   refine wpOp_mono (λa' w' h3=>⟨h3.2.1,ih (listed.setIfInBounds j true) a' w' (jS hc hj) SL (ready_mono hr (Ne.symm hji)) h3.1 h3.2.1 ?_⟩) h2
   rw [Array.setIfInBounds_comm _ _ hji]
   exact h3.2.2
theorem LZ {Q:Exit->Act->World->Prop} {L:List Tr} {Q0:List Own} {bZ:PW} {Kf:dU->List Own->PW->Prop} {K:Act->World->Prop} {fin:Array Bool} (hsel:Region.noSelect ops=true) (vJ:aA bZ)
  (hD:∀ (j:Nat) (o:Oper) (t:Nat),ops[j]? = some o->o.dst=some t->D t) (hK:∀ s R Φ a w,Kf s R Φ->At ds G W s L R Φ a w->dR D s0 (s.fr L)->K a w) :
  ∀ (ord:List (Nat × Bool)) (listed:Array Bool) (s:dU) (R:List Own) (Φ:PW) (a:Act) (w:World),(∀ i∈kF ord,Region.ready .any ops (fin.setIfInBounds i false)=[i]\/eY ops (fin.setIfInBounds i false)=false)->eY ops listed=true->AH ops ord listed=true->bA (ord.map (·.1)) listed=fin ->
   hS P W wr ops L Q0 bZ ord s R Φ Kf->At ds G W s L R Φ a w->(∀ w F,Ctx W w (R++F) Φ->Ctx W w (Q0++F) bZ)->dR D s0 (s.fr L)->nJ P .any ops (fR Q) (λw'=>Ctx W w' (Q0++(L.map Tr.own++G)) bZ) (λl=>l=fin) K ord.length listed a w
 | [],listed,s,R,Φ,a,w,_,_,_,hf,h,ha,eT,hu=>⟨hf,hK s R Φ a w h ha hu⟩
 | (i,still) :: r,listed,s,R,Φ,a,w,hl,DI,ho,hf,h,ha,eT,hu=>by
  unfold hS at h
  split at h
  ·exact h.elim
  rename_i o hi
  have hd:∀ t,o.dst=some t->D t:=λt ht=>hD i o t hi ht
  have hw:Ctx W w (Q0++(L.map Tr.own++G)) bZ:=eT _ _ ha.ctx
  obtain ⟨s',cD,jH,h⟩:=fG hD h ha hu
  cases still with
  | true =>
   simp only [AH,Bool.and_eq_true] at ho
   obtain ⟨⟨vG,zL⟩,T3⟩:=ho
   have hr:i∈Region.ready .any ops listed:=by simpa using vG
   have hE:∀ l:Array Bool,eY ops l=true->l.setIfInBounds i true=fin->i∈Region.ready .any ops l->∀ j∈Region.ready .any ops l,j=i:=by
    intro l hcc hl' hil j hj
    have e:l=fin.setIfInBounds i false:=by
     have h0:=(mem_ready.1 hil).1
     rw [<-hl']
     have h2:l[i]? = some false:=by
      rw [Array.getD_eq_getD_getElem?] at h0
      cases hx:l[i]? with
      | none=>rw [hx] at h0;cases h0
      | some b=>rw [hx] at h0;simp at h0;subst h0;rfl
     have hlt:i<l.size:=(Array.getElem?_eq_some_iff.1 h2).1
     apply Array.ext_getElem?
     intro k
     by_cases hk:i=k
     ·subst hk
      rw [Array.getElem?_setIfInBounds_self_of_lt (by simpa using hlt),h2]
     ·rw [Array.getElem?_setIfInBounds_ne hk,Array.getElem?_setIfInBounds_ne hk]
    rcases hl i (by simp [kF]) with h1|h1
    ·rw [e,h1] at hj
     simpa using hj
    ·rw [e,h1] at hcc;cases hcc
   have take:∀ (s':dU) (sv:SV) (v':Value),At ds G W s' L R Φ a w->dR D s0 (s'.fr L)->(∀ k o,sv=SV.ptr k o->(bL k L).isSome=true)->(AE (sv.val L)=false->v'=sv.val L) ->
     YieldsIf P ops (λw'=>Ctx W w' (Q0++(L.map Tr.own++G)) bZ) o v' a->hS P W wr ops L Q0 bZ r (s'.put o.dst sv) R Φ Kf ->
     nJ P .any ops (fR Q) (λw'=>Ctx W w' (Q0++(L.map Tr.own++G)) bZ) (λl=>l=fin) K ((i,true) :: r).length listed a w:=by
    intro s' sv v' cD jH hp hv hy hk
    have ih:=LZ (Q:=Q) hsel vJ hD hK r (listed.setIfInBounds i true) (s'.put o.dst sv) R Φ (a.put o.dst v') w (λj hj=>hl j (by simp [kF,hj])) (jS DI hr) T3 hf hk (cD.put o.dst (Ext.refl _) hp cD.ctx cD.st hv) eT (jH.xQ cD.wf (Ext.refl _) hd)
    exact IV hi (Region.noSelect_spec hsel) (λ_ _ _ h=>h) hE r.length listed a w DI (Region.free_spec hi zL) hr hy hw ih
   rcases h with ⟨sJ,h⟩|⟨sJ,h⟩
   ·obtain ⟨sv,v',h1,h2,h3,h4⟩:=XX vJ h cD hw
    exact take s' sv v' cD jH h2 h3 (.inl ⟨sJ,h4⟩) h1
   ·exact take s' (.v undef) undef cD jH (λk o e=>by cases e) (λ_=>rfl) (.inr ⟨sJ,rfl⟩) h
  | false =>
   simp only [AH,Bool.and_eq_true,beq_iff_eq] at ho
   obtain ⟨vG,zL⟩:=ho
   have aNO:=jS DI (show i∈Region.ready .any ops listed by rw [vG];simp)
   refine ⟨by rw [vG];simp,λj hj=>?_⟩
   rw [vG] at hj
   have hj:j=i:=by simpa using hj
   subst hj
   unfold wpOp
   simp only [hi]
   rcases h with ⟨sJ,h⟩|⟨sJ,h⟩
   ·simp only [sJ,if_true]
    have:=cD.st
    refine .inl (Oper.qK (tP h cD.B5 cD.wf cD.ctx λsv L' R' aF v' w' hk hst xS hp hc hv=>?_))
    split at hk
    ·rename_i x hs
     obtain ⟨O1,hk⟩:=hk
     have hcL:jR G W w' L R' aF:=by
      have:=jR.meet (ts:=[]) hst hc xS cD.ids hs
      rwa [show jG [] (cellsOf [] L') L=L from NZ L] at this
     refine ⟨O1 _ _ hcL,?_⟩
     exact LZ hsel vJ hD hK r _ _ _ _ _ _ (λj hj=>hl j (by simp [kF,hj])) aNO zL hf hk (cD.put o.dst (Ext.refl _) (λk o e=>by cases e) hcL hst hv) O1 (jH.xQ cD.wf (Ext.refl _) hd)
    ·exact hk.elim
   ·simp only [sJ,Bool.false_eq_true,if_false]
    exact ⟨hw,LZ hsel vJ hD hK r _ _ _ _ _ _ (λj hj=>hl j (by simp [kF,hj])) aNO zL hf h (cD.put o.dst (Ext.refl _) (λk o e=>by cases e) cD.ctx cD.st (λ_=>rfl)) eT (jH.xQ cD.wf (Ext.refl _) hd)⟩
theorem F2 {Q:Exit->Act->World->Prop} {L:List Tr} {Q0:List Own} {bZ:PW} {Kf:dU->List Own->PW->Prop} {K:Act->World->Prop} {fin:Array Bool} (hsel:Region.noSelect ops=true) (vJ:aA bZ)
  (hD:∀ (j:Nat) (o:Oper) (t:Nat),ops[j]? = some o->o.dst=some t->D t) (hK:∀ s R Φ a w,Kf s R Φ->At ds G W s L R Φ a w->dR D s0 (s.fr L)->K a w):∀ (t:OT),
  (∀ (n:Nat) (listed:Array Bool) (s:dU) (R:List Own) (Φ:PW) (a:Act) (w:World),eY ops listed=true->B6 ops fin t false n listed=true ->
   tS P W wr ops L Q0 bZ t s R Φ Kf->At ds G W s L R Φ a w->(∀ w F,Ctx W w (R++F) Φ->Ctx W w (Q0++F) bZ)->dR D s0 (s.fr L)->nJ P .any ops (fR Q) (λw'=>Ctx W w' (Q0++(L.map Tr.own++G)) bZ) (λl=>l=fin) K n listed a w) /\
  (∀ (n:Nat) (listed:Array Bool) (s:dU) (R:List Own) (Φ:PW) (a:Act) (w:World),eY ops listed=true->(∀ j∈F0 t,j∈Region.ready .any ops listed)->B6 ops fin t true n listed=true ->
   tS P W wr ops L Q0 bZ t s R Φ Kf->At ds G W s L R Φ a w->(∀ w F,Ctx W w (R++F) Φ->Ctx W w (Q0++F) bZ)->dR D s0 (s.fr L)->∀ j∈F0 t,wpOp P ops (fR Q) j (λa' w'=>Ctx W w' (Q0++(L.map Tr.own++G)) bZ /\
    nJ P .any ops (fR Q) (λw'=>Ctx W w' (Q0++(L.map Tr.own++G)) bZ) (λl=>l=fin) K n (listed.setIfInBounds j true) a' w') a w)
 | .done=>by
  refine ⟨λn listed s R Φ a w DI ho h ha eT hu=>?_,λn listed s R Φ a w _ _ ho=>by simp [B6] at ho⟩
  cases n with
  | zero=>exact ⟨by simpa [B6] using ho,hK s R Φ a w h ha hu⟩
  | succ n=>simp [B6] at ho
 | .no=>by
  refine ⟨λn listed s R Φ a w _ ho=>by simp [B6] at ho,λn listed s R Φ a w _ _ ho h ha eT hu j hj=>by simp [F0] at hj⟩
 | .rd i k=>by
  refine ⟨λn listed s R Φ a w DI ho h ha eT hu=>?_,λn listed s R Φ a w _ _ ho=>by simp [B6] at ho⟩
  cases n with
  | zero=>simp [B6] at ho
  | succ n =>
   simp only [B6,Bool.and_eq_true] at ho
   obtain ⟨⟨⟨vG,zL⟩,hl⟩,T3⟩:=ho
   have hl:Region.ready .any ops (fin.setIfInBounds i false)=[i]\/eY ops (fin.setIfInBounds i false)=false:=by simpa using hl
   unfold tS at h
   split at h
   ·exact h.elim
   rename_i o hi
   have hd:∀ t,o.dst=some t->D t:=λt ht=>hD i o t hi ht
   have hw:Ctx W w (Q0++(L.map Tr.own++G)) bZ:=eT _ _ ha.ctx
   obtain ⟨s',cD,jH,h⟩:=fG hD h ha hu
   have hr:i∈Region.ready .any ops listed:=by simpa using vG
   have hE:∀ l:Array Bool,eY ops l=true->l.setIfInBounds i true=fin->i∈Region.ready .any ops l->∀ j∈Region.ready .any ops l,j=i:=by
    intro l hcc hl' hil j hj
    have e:l=fin.setIfInBounds i false:=by
     have h0:=(mem_ready.1 hil).1
     rw [<-hl']
     have h2:l[i]? = some false:=by
      rw [Array.getD_eq_getD_getElem?] at h0
      cases hx:l[i]? with
      | none=>rw [hx] at h0;cases h0
      | some b=>rw [hx] at h0;simp at h0;subst h0;rfl
     have hlt:i<l.size:=(Array.getElem?_eq_some_iff.1 h2).1
     apply Array.ext_getElem?
     intro k
     by_cases hk:i=k
     ·subst hk
      rw [Array.getElem?_setIfInBounds_self_of_lt (by simpa using hlt),h2]
     ·rw [Array.getElem?_setIfInBounds_ne hk,Array.getElem?_setIfInBounds_ne hk]
    rcases hl with h1|h1
    ·rw [e,h1] at hj
     simpa using hj
    ·rw [e,h1] at hcc;cases hcc
   have take:∀ (s':dU) (sv:SV) (v':Value),At ds G W s' L R Φ a w->dR D s0 (s'.fr L)->(∀ k o,sv=SV.ptr k o->(bL k L).isSome=true)->(AE (sv.val L)=false->v'=sv.val L) ->
     YieldsIf P ops (λw'=>Ctx W w' (Q0++(L.map Tr.own++G)) bZ) o v' a->tS P W wr ops L Q0 bZ k (s'.put o.dst sv) R Φ Kf ->
     nJ P .any ops (fR Q) (λw'=>Ctx W w' (Q0++(L.map Tr.own++G)) bZ) (λl=>l=fin) K (n+1) listed a w:=by
    intro s' sv v' cD jH hp hv hy hk
    have ih:=(F2 (Q:=Q) hsel vJ hD hK k).1 n (listed.setIfInBounds i true) (s'.put o.dst sv) R Φ (a.put o.dst v') w (jS DI hr) T3 hk (cD.put o.dst (Ext.refl _) hp cD.ctx cD.st hv) eT (jH.xQ cD.wf (Ext.refl _) hd)
    exact IV hi (Region.noSelect_spec hsel) (λ_ _ _ h=>h) hE n listed a w DI (Region.free_spec hi zL) hr hy hw ih
   rcases h with ⟨sJ,h⟩|⟨sJ,h⟩
   ·obtain ⟨sv,v',h1,h2,h3,h4⟩:=XX vJ h cD hw
    exact take s' sv v' cD jH h2 h3 (.inl ⟨sJ,h4⟩) h1
   ·exact take s' (.v undef) undef cD jH (λk o e=>by cases e) (λ_=>rfl) (.inr ⟨sJ,rfl⟩) h
 | .alt i k r=>by
  have one:∀ (n:Nat) (listed:Array Bool) (s:dU) (R:List Own) (Φ:PW) (a:Act) (w:World),eY ops listed=true->i∈Region.ready .any ops listed->B6 ops fin k false n (listed.setIfInBounds i true)=true ->
    tS P W wr ops L Q0 bZ (.alt i k r) s R Φ Kf->At ds G W s L R Φ a w->(∀ w F,Ctx W w (R++F) Φ->Ctx W w (Q0++F) bZ)->dR D s0 (s.fr L)->wpOp P ops (fR Q) i (λa' w'=>Ctx W w' (Q0++(L.map Tr.own++G)) bZ /\
     nJ P .any ops (fR Q) (λw'=>Ctx W w' (Q0++(L.map Tr.own++G)) bZ) (λl=>l=fin) K n (listed.setIfInBounds i true) a' w') a w:=by
   intro n listed s R Φ a w DI hr ho h ha eT hu
   unfold tS at h
   replace h:=h.1
   split at h
   ·exact h.elim
   rename_i o hi
   have hd:∀ t,o.dst=some t->D t:=λt ht=>hD i o t hi ht
   have hw:Ctx W w (Q0++(L.map Tr.own++G)) bZ:=eT _ _ ha.ctx
   obtain ⟨s',cD,jH,h⟩:=fG hD h ha hu
   unfold wpOp
   simp only [hi]
   rcases h with ⟨sJ,h⟩|⟨sJ,h⟩
   ·simp only [sJ,if_true]
    have:=cD.st
    refine .inl (Oper.qK (tP h cD.B5 cD.wf cD.ctx λsv L' R' aF v' w' hk hst xS hp hc hv=>?_))
    split at hk
    ·rename_i x hs
     obtain ⟨O1,hk⟩:=hk
     have hcL:jR G W w' L R' aF:=by
      have:=jR.meet (ts:=[]) hst hc xS cD.ids hs
      rwa [show jG [] (cellsOf [] L') L=L from NZ L] at this
     refine ⟨O1 _ _ hcL,?_⟩
     exact (F2 hsel vJ hD hK k).1 n _ _ _ _ _ _ (jS DI hr) ho hk (cD.put o.dst (Ext.refl _) (λk o e=>by cases e) hcL hst hv) O1 (jH.xQ cD.wf (Ext.refl _) hd)
    ·exact hk.elim
   ·simp only [sJ,Bool.false_eq_true,if_false]
    exact ⟨hw,(F2 hsel vJ hD hK k).1 n _ _ _ _ _ _ (jS DI hr) ho h (cD.put o.dst (Ext.refl _) (λk o e=>by cases e) cD.ctx cD.st (λ_=>rfl)) eT (jH.xQ cD.wf (Ext.refl _) hd)⟩
  have more:∀ (n:Nat) (listed:Array Bool) (s:dU) (R:List Own) (Φ:PW) (a:Act) (w:World),eY ops listed=true->(∀ j∈F0 r,j∈Region.ready .any ops listed)->B6 ops fin r true n listed=true ->
    tS P W wr ops L Q0 bZ (.alt i k r) s R Φ Kf->At ds G W s L R Φ a w->(∀ w F,Ctx W w (R++F) Φ->Ctx W w (Q0++F) bZ)->dR D s0 (s.fr L)->∀ j∈F0 r,wpOp P ops (fR Q) j (λa' w'=>Ctx W w' (Q0++(L.map Tr.own++G)) bZ /\
     nJ P .any ops (fR Q) (λw'=>Ctx W w' (Q0++(L.map Tr.own++G)) bZ) (λl=>l=fin) K n (listed.setIfInBounds j true) a' w') a w:=by
   intro n listed s R Φ a w DI hr ho h ha eT hu j hj
   unfold tS at h
   replace h:=h.2
   have h:tS P W wr ops L Q0 bZ r s R Φ Kf:=by
    cases r with
    | no=>simp [F0] at hj
    | _=>exact h
   exact (F2 hsel vJ hD hK r).2 n listed s R Φ a w DI hr ho h ha eT hu j hj
  refine ⟨λn listed s R Φ a w DI ho h ha eT hu=>?_,λn listed s R Φ a w DI hr ho h ha eT hu j hj=>?_⟩
  ·cases n with
   | zero=>simp [B6] at ho
   | succ n =>
    simp only [B6,Bool.and_eq_true,beq_iff_eq] at ho
    obtain ⟨vG,zL,T3⟩:=ho
    refine ⟨by rw [vG];simp,λj hj=>?_⟩
    rw [vG] at hj
    rcases List.mem_cons.1 hj with rfl|hj
    ·exact one n listed s R Φ a w DI (by rw [vG];simp) zL h ha eT hu
    ·exact more n listed s R Φ a w DI (λj hj=>by rw [vG];exact List.mem_cons_of_mem _ hj) T3 h ha eT hu j hj
  ·simp only [B6,Bool.and_eq_true] at ho
   simp only [F0] at hj
   rcases List.mem_cons.1 hj with rfl|hj
   ·exact one n listed s R Φ a w DI (hr _ (by simp [F0])) ho.1 h ha eT hu
   ·exact more n listed s R Φ a w DI (λj hj=>hr j (by simp only [F0];exact List.mem_cons_of_mem _ hj)) ho.2 h ha eT hu j hj
theorem a4E {wr:Bool} {o:Oper} {s:dU} {L:List Tr} {K:SV->Prop} {p:Prop} (hwf:JH L s) (h:b9 P W wr o s L [] (λ_ _=>True) K=some p) (hp:p) (hu:LX P o s L K=false) (hnl:∀ t x,o.op≠.load t x) :
  ∃ sv,K sv/\(∀ k o,sv=SV.ptr k o->(bL k L).isSome=true)/\∀ w',(execOp (s.val L) o).run P w'=.ok (.value (sv.val L)) w':=by
 have HL:∀ {p:Prop},iN P o (s.val L) (λv=>K (.v v))=false->iU P wr o (s.val L) W none (λv=>K (.v v))=some p->p ->
   ∃ sv,K sv/\(∀ k o,sv=SV.ptr k o->(bL k L).isSome=true)/\∀ w',(execOp (s.val L) o).run P w'=.ok (.value (sv.val L)) w':=by
  intro p hf hq hp
  obtain ⟨v,h1,h2⟩:=JI W W hq hf hp
  exact ⟨.v v,h2,λk o e=>(by cases e),λw'=>h1 w'⟩
 unfold b9 at h
 split at h
 ·rename_i x hop
  cases h
  exact ⟨s.ev x,hp,λk o e=>hwf.ev e,λw'=>by simp [execOp,hop,dU.val]⟩
 ·rename_i x hop
  cases h
  exact ⟨s.ev x,hp,λk o e=>hwf.ev e,λw'=>by simp [execOp,hop,dU.val]⟩
 ·rename_i x hop
  split at h
  ·rename_i k off hx
   cases h
   obtain ⟨T,hT⟩:=Option.isSome_iff_exists.1 (hwf.ev hx)
   refine ⟨.ptr k off,hp,λk' o' e=>by cases e;rw [hT];rfl,λw'=>?_⟩
   have hv:s.val L x=.pointer (some ⟨T.b,off,none⟩):=by rw [dU.val,hx,fE hT]
   simp [execOp,hop,hv,fE hT]
  ·exact HL (by simp [iN,hop]) h hp
 ·rename_i t x f hop
  split at h
  ·rename_i k off hx
   cases h
   obtain ⟨T,hT⟩:=Option.isSome_iff_exists.1 (hwf.ev hx)
   obtain ⟨off',h1,h2⟩:=wQ hT hp
   refine ⟨.ptr k off',h2,λk' o' e=>by cases e;rw [hT];rfl,λw'=>?_⟩
   have hv:s.val L x=.pointer (some ⟨T.b,off,none⟩):=by rw [dU.val,hx,fE hT]
   simp [execOp,hop,hv,fE hT,h1 w',Result.andThen]
  ·exact HL (by simp [iN,hop]) h hp
 ·rename_i t x i hop
  split at h
  ·rename_i k off hx
   cases h
   obtain ⟨T,hT⟩:=Option.isSome_iff_exists.1 (hwf.ev hx)
   obtain ⟨off',h1,h2⟩:=CM hT hp
   refine ⟨.ptr k off',h2,λk' o' e=>by cases e;rw [hT];rfl,λw'=>?_⟩
   have hv:s.val L x=.pointer (some ⟨T.b,off,none⟩):=by rw [dU.val,hx,fE hT]
   simp [execOp,hop,hv,fE hT,h1 w',Result.andThen]
  ·exact HL (by simp [iN,hop]) h hp
 ·rename_i t x hop;exact absurd hop (hnl t x)
 ·rename_i hop
  unfold LX at hu
  simp only [hop] at hu
  simp [iN,hop] at hu
 ·rename_i n1 n2 n3 n4 n5 n6 n7
  have jH:iN P o (s.val L) (λv=>K (.v v))=false:=by
   clear h HL
   unfold LX at hu
   split at hu
   ·rename_i t x hop;exact absurd hop (n6 t x)
   ·rename_i x hop;exact absurd hop (n1 x)
   ·rename_i x hop;exact absurd hop (n2 x)
   ·rename_i x hop;exact absurd hop (n3 x)
   ·rename_i t x f hop;exact absurd hop (n4 t x f)
   ·rename_i t x f hop;exact absurd hop (n5 t x f)
   ·exact hu
  rw [jH] at h
  simp only at h
  exact HL jH h hp
theorem B8 {wr:Bool} {o:Oper} {s:dU} {L:List Tr} {R:List Own} {Φ bZ:PW} {Q0:List Own} {a:Act} {w:World} {K:SV->Prop} (h:prS P W wr o s L Q0 bZ K) (ha:At ds G W s L R Φ a w) :
  ∃ sv v',K sv/\(∀ k o,sv=SV.ptr k o->(bL k L).isSome=true)/\(AE (sv.val L)=false->v'=sv.val L)/\∀ w',(∃ S,Ctx W w' (Q0++S) bZ)->(execOp a.eval o).run P w'=.ok (.value v') w':=by
 have hev:=uH s L
 unfold prS at h
 split at h
 ·rename_i cc x y hop
  split at h
  ·rename_i b hc
   have VX:a.eval cc=.bool b:=by rw [ha.B5.eval (by rw [hev,hc];rfl),hev,hc]
   cases b with
   | true =>
    exact ⟨s.ev x,a.eval x,h,λk o e=>ha.wf.ev e,λhu=>by rw [ha.B5.eval (by rw [hev];exact hu),hev];rfl,λw' _=>by simp only [execOp,hop,VX,asBool,Sem.run_bind,Sem.run_pure,Result.andThen,if_true]⟩
   | false =>
    exact ⟨s.ev y,a.eval y,h,λk o e=>ha.wf.ev e,λhu=>by rw [ha.B5.eval (by rw [hev];exact hu),hev];rfl,λw' _=>by simp [execOp,hop,VX,asBool,Sem.run_bind,Sem.run_pure,Result.andThen]⟩
  ·exact h.elim
 ·rename_i t x hop
  split at h
  ·exact h.elim
  ·split at h
   ·rename_i ho
    simp only [Bool.and_eq_true] at ho
    rw [EV ha.B5 ho.1 ho.2,show (s.fr L).eval=s.val L from funext hev]
    obtain ⟨v,h1,h2⟩:=qR h
    refine ⟨.v v,v,h2,λk o e=>(by cases e),λ_=>rfl,λw' ⟨S,hS⟩=>?_⟩
    obtain ⟨u,h3,h4⟩:=JJ (w:=w') (h1 w' _ hS)
    subst h4
    exact h3 w' rfl
   ·exact h.elim
 ·rename_i np nl
  split at h
  ·rename_i ho
   simp only [Bool.and_eq_true] at ho
   rw [EV ha.B5 ho.1 ho.2,show (s.fr L).eval=s.val L from funext hev]
   split at h
   ·exact h.elim
   ·rename_i hu
    unfold LW at h
    split at h
    ·rename_i p hp
     obtain ⟨sv,h1,h2,h3⟩:=a4E ha.wf hp h (by simpa using hu) nl
     exact ⟨sv,_,h1,h2,λ_=>rfl,λw' _=>h3 w'⟩
    ·exact h.elim
  ·exact h.elim
theorem M0 {Q:Exit->Act->World->Prop} {L0:List Tr} {Q0:List Own} {bZ:PW} {Kf:dU->List Tr->List Own->PW->Prop} {K:Act->World->Prop} {fin:Array Bool} (hsel:Region.noSelect ops=true)
  (hD:∀ (j:Nat) (o:Oper) (t:Nat),ops[j]? = some o->o.dst=some t->D t) (hK:∀ s L R Φ a w,Kf s L R Φ->At ds G W s L R Φ a w->Ext L0 L->dR D s0 (s.fr L)->K a w) :
  ∀ (ord:List (Nat × Bool)) (listed:Array Bool) (s:dU) (L:List Tr) (R:List Own) (Φ:PW) (a:Act) (w:World),(∀ i∈kF ord,Region.ready .any ops (fin.setIfInBounds i false)=[i])->AH ops ord listed=true->bA (ord.map (·.1)) listed=fin ->
   fS P W wr AV ops Q0 bZ ord s L R Φ Kf->At ds G W s L R Φ a w->(∀ w F,Ctx W w (R++F) Φ->Ctx W w (Q0++F) bZ)->Ext L0 L->dR D s0 (s.fr L)->nJ P .any ops (fR Q) (λw'=>∃ S,Ctx W w' (Q0++S) bZ) (λl=>l=fin) K ord.length listed a w
 | [],listed,s,L,R,Φ,a,w,_,_,hf,h,ha,eT,he,hu=>⟨hf,hK s L R Φ a w h ha he hu⟩
 | (i,still) :: r,listed,s,L,R,Φ,a,w,hl,ho,hf,h,ha,eT,he,hu=>by
  unfold fS at h
  split at h
  ·exact h.elim
  rename_i o hi
  have hd:∀ t,o.dst=some t->D t:=λt ht=>hD i o t hi ht
  have hw:∃ S,Ctx W w (Q0++S) bZ:=⟨_,eT _ _ ha.ctx⟩
  obtain ⟨s',cD,jH,h⟩:=fG hD h ha hu
  cases still with
  | true =>
   simp only [AH,Bool.and_eq_true] at ho
   obtain ⟨⟨vG,zL⟩,T3⟩:=ho
   have hr:i∈Region.ready .any ops listed:=by simpa using vG
   have hE:∀ l:Array Bool,l.setIfInBounds i true=fin->i∈Region.ready .any ops l->∀ j∈Region.ready .any ops l,j=i:=by
    intro l hl' hil j hj
    have e:l=fin.setIfInBounds i false:=by
     have h0:=(mem_ready.1 hil).1
     rw [<-hl']
     have h2:l[i]? = some false:=by
      rw [Array.getD_eq_getD_getElem?] at h0
      cases hx:l[i]? with
      | none=>rw [hx] at h0;cases h0
      | some b=>rw [hx] at h0;simp at h0;subst h0;rfl
     have hlt:i<l.size:=(Array.getElem?_eq_some_iff.1 h2).1
     apply Array.ext_getElem?
     intro k
     by_cases hk:i=k
     ·subst hk
      rw [Array.getElem?_setIfInBounds_self_of_lt (by simpa using hlt),h2]
     ·rw [Array.getElem?_setIfInBounds_ne hk,Array.getElem?_setIfInBounds_ne hk]
    rw [e,hl i (by simp [kF])] at hj
    simpa using hj
   have take:∀ (s':dU) (sv:SV) (v':Value),At ds G W s' L R Φ a w->dR D s0 (s'.fr L)->(∀ k o,sv=SV.ptr k o->(bL k L).isSome=true)->(AE (sv.val L)=false->v'=sv.val L) ->
     YieldsIf P ops (λw'=>∃ S,Ctx W w' (Q0++S) bZ) o v' a->fS P W wr AV ops Q0 bZ r (s'.put o.dst sv) L R Φ Kf ->
     nJ P .any ops (fR Q) (λw'=>∃ S,Ctx W w' (Q0++S) bZ) (λl=>l=fin) K ((i,true) :: r).length listed a w:=by
    intro s' sv v' cD jH hp hv hy hk
    have ih:=M0 (Q:=Q) hsel hD hK r (listed.setIfInBounds i true) (s'.put o.dst sv) L R Φ (a.put o.dst v') w (λj hj=>hl j (by simp [kF,hj])) T3 hf hk (cD.put o.dst (Ext.refl _) hp cD.ctx cD.st hv) eT he (jH.xQ cD.wf (Ext.refl _) hd)
    exact LH hi (Region.noSelect_spec hsel) (λ_ _ _ h=>h) hE r.length listed a w (Region.free_spec hi zL) hr hy hw ih
   rcases h with ⟨sJ,h⟩|⟨sJ,h⟩
   ·obtain ⟨sv,v',h1,h2,h3,h4⟩:=B8 h cD
    exact take s' sv v' cD jH h2 h3 (.inl ⟨sJ,h4⟩) h1
   ·exact take s' (.v undef) undef cD jH (λk o e=>by cases e) (λ_=>rfl) (.inr ⟨sJ,rfl⟩) h
  | false =>
   simp only [AH,Bool.and_eq_true,beq_iff_eq] at ho
   obtain ⟨vG,zL⟩:=ho
   refine ⟨by rw [vG];simp,λj hj=>?_⟩
   rw [vG] at hj
   have hj:j=i:=by simpa using hj
   subst hj
   unfold wpOp
   simp only [hi]
   rcases h with ⟨sJ,h⟩|⟨sJ,h⟩
   ·simp only [sJ,if_true]
    have:=cD.st
    refine .inl (Oper.qK (tP h cD.B5 cD.wf cD.ctx λsv L' R' aF v' w' hk hst xS hp hc hv=>⟨⟨_,hk.1 _ _ hc⟩,?_⟩))
    exact M0 hsel hD hK r _ _ _ _ _ _ _ (λj hj=>hl j (by simp [kF,hj])) zL hf hk.2 (cD.put o.dst xS hp hc hst hv) hk.1 (he.trans xS) (jH.xQ cD.wf xS hd)
   ·simp only [sJ,Bool.false_eq_true,if_false]
    exact ⟨hw,M0 hsel hD hK r _ _ _ _ _ _ _ (λj hj=>hl j (by simp [kF,hj])) zL hf h (cD.put o.dst (Ext.refl _) (λk o e=>by cases e) cD.ctx cD.st (λ_=>rfl)) eT he (jH.xQ cD.wf (Ext.refl _) hd)⟩
theorem nL {x:Array Bool} {i b:Nat} (h:(x.setIfInBounds i true).getD b true=false):b≠i/\x.getD b true=false:=by
 rw [Array.getD_eq_getD_getElem?] at h
 by_cases e:i=b
 ·subst e
  rcases Nat.lt_or_ge i x.size with h'|h'
  ·rw [Array.getElem?_setIfInBounds_self_of_lt h'] at h;simp at h
  ·rw [Array.getElem?_eq_none (by simpa using h')] at h;simp at h
 ·rw [Array.getElem?_setIfInBounds_ne e] at h
  exact ⟨λhh=>e hh.symm,by rw [Array.getD_eq_getD_getElem?];exact h⟩
def SD (ops:Array Oper) (W w0:World) (Q0:List Own) (bZ:PW) (dl:Option Nat) (Q1:List Own) (bH:PW) (B:List Nat) (x:Array Bool) (w:World):Prop:=eY ops x=true/\(∃ S,Ctx W w (Q0++S) bZ)/\((∃ b∈B,x.getD b true=false)->w=w0)/\∀ d,dl=some d->x.getD d true=false->∃ S,Ctx W w (Q1++S) bH
theorem SD.down {W w0:World} {Q0 Q1:List Own} {bZ bH:PW} {dl:Option Nat} {B:List Nat} {i:Nat} {x:Array Bool} {w:World} (hi:i∈Region.ready .any ops x) (h:SD ops W w0 Q0 bZ dl Q1 bH B x w):SD ops W w0 Q0 bZ dl Q1 bH B (x.setIfInBounds i true) w :=
 ⟨jS h.1 hi,h.2.1,λ⟨b,hb,hx⟩=>h.2.2.1 ⟨b,hb,(nL hx).2⟩,λd hd hx=>h.2.2.2 d hd (nL hx).2⟩
inductive Wt (ops:Array Oper) (b:Nat):Nat->Prop
 | one {k:Nat} {o:Oper} {e:Edge}:ops[k]? = some o->e∈o.after->Region.binds .any e=true->e.on=b->Wt ops b k
 | more {k:Nat} {o:Oper} {e:Edge}:ops[k]? = some o->e∈o.after->Region.binds .any e=true->Wt ops b e.on->Wt ops b k
theorem T4 {b:Nat}:∀ (l acc:List Nat),(∀ k∈acc,Wt ops b k)->∀ k∈waits ops b l acc,Wt ops b k
 | [],_,h,k,hk=>h k hk
 | j :: r,acc,h,k,hk=>by
  unfold waits at hk
  refine T4 r _ ?_ k hk
  intro k hk
  split at hk
  ·rename_i o ho
   split at hk
   ·rename_i ha
    rcases List.mem_cons.1 hk with rfl|hk
    ·simp only [Array.any_eq_true',Bool.and_eq_true,Bool.or_eq_true] at ha
     obtain ⟨e,he,hbd,hon⟩:=ha
     rcases hon with hon|hon
     ·exact .one ho he hbd (Nat.eq_of_beq_eq_true hon)
     ·exact .more ho he hbd (h _ (iV.1 hon))
    ·exact h k hk
   ·exact h k hk
  ·exact h k hk
theorem Wt.listed {b:Nat} {x:Array Bool} (hc:eY ops x=true) {k:Nat} (h:Wt ops b k):(∀ (o:Oper) (e:Edge),ops[k]? = some o->e∈o.after->Region.binds .any e=true->x.getD e.on false=true)->x.getD b false=true:=by
 induction h with
 | one ho he hb hon=>intro hall;rw [<-hon];exact hall _ _ ho he hb
 | @more k o e ho he hb _ ih =>
  intro hall
  have h1:=hall _ _ ho he hb
  refine ih λo' e' ho' he' hb'=>?_
  have hlt:e.on<ops.size:=(Array.getElem?_eq_some_iff.1 ho').1
  have h2:=List.all_eq_true.1 hc e.on (List.mem_range.2 hlt)
  have h3:x.getD e.on true=true:=by
   rw [Array.getD_eq_getD_getElem?] at h1 ⊢
   cases hx:x[e.on]? with
   | none=>rfl
   | some c=>rw [hx] at h1;simpa using h1
  rw [h3,ho'] at h2
  simp only [Bool.not_true,Bool.false_or] at h2
  have h4:=List.all_eq_true.1 h2 e' (by simpa using he')
  rw [hb'] at h4
  simpa using h4
theorem Wt.later {b d:Nat} {x:Array Bool} (hc:eY ops x=true) (h:Wt ops b d) (hb:x.getD b true=false):x.getD d true=false:=by
 cases hd:x.getD d true with
 | false=>rfl
 | true =>
  exfalso
  have h3:=h.listed hc λo e ho he hbd=>by
   have hlt:d<ops.size:=(Array.getElem?_eq_some_iff.1 ho).1
   have h2:=List.all_eq_true.1 hc d (List.mem_range.2 hlt)
   rw [hd,ho] at h2
   simp only [Bool.not_true,Bool.false_or] at h2
   have h4:=List.all_eq_true.1 h2 e (by simpa using he)
   rw [hbd] at h4
   simpa using h4
  rw [Array.getD_eq_getD_getElem?] at h3 hb
  cases hx:x[b]? with
  | none=>rw [hx] at h3;cases h3
  | some c=>rw [hx] at h3 hb;simp at h3 hb;rw [h3] at hb;cases hb
theorem SD.mono {W w0:World} {Q0 Q1:List Own} {bZ bH:PW} {dl:Option Nat} {B rd:List Nat} (M1:uI ops rd B=true) {i:Nat} (XY:dl≠some i) (x:Array Bool) (j:Nat) (w w':World) (hi:i∈Region.ready .any ops x) (hj:j∈Region.ready .any ops x) (hji:j≠i)
  (h:SD ops W w0 Q0 bZ dl Q1 bH B x w) (hrd:dY j rd=true->w'=w) (h':SD ops W w0 Q0 bZ dl Q1 bH B ((x.setIfInBounds i true).setIfInBounds j true) w'):SD ops W w0 Q0 bZ dl Q1 bH B (x.setIfInBounds j true) w':=by
 refine ⟨jS h.1 hj,h'.2.1,λ⟨b,hb,hx⟩=>?_,λd hd hx=>h'.2.2.2 d hd (by rw [getD_set_ne true (Ne.symm (nL hx).1),getD_set_ne true (λe=>XY (by rw [hd,e]))];exact (nL hx).2)⟩
 obtain ⟨hbj,hxb⟩:=nL hx
 by_cases hbi:b=i
 ·subst hbi
  have hw:=h.2.2.1 ⟨b,hb,hxb⟩
  cases hm:dY j rd with
  | true=>rw [hrd hm,hw]
  | false =>
   exfalso
   unfold uI at M1
   have h1:=List.all_eq_true.1 M1 b hb
   simp only [Bool.and_eq_true] at h1
   obtain ⟨_,o,ho,hall⟩:=mem_ready.1 hj
   have hlt:j<ops.size:=(Array.getElem?_eq_some_iff.1 ho).1
   have h2:=List.all_eq_true.1 h1.2 j (List.mem_range.2 hlt)
   rw [hm] at h2
   simp only [Bool.false_or] at h2
   have sJ:=T4 (ops:=ops) (b:=b) _ [] (λk hk=>by cases hk) j (iV.1 h2)
   have h3:=sJ.listed h.1 λo' e ho' he hbd=>by
    rw [ho] at ho'
    cases ho'
    exact hall e he hbd
   rw [Array.getD_eq_getD_getElem?] at h3 hxb
   cases hx':x[b]? with
   | none=>rw [hx'] at h3;cases h3
   | some c=>rw [hx'] at h3 hxb;simp at h3 hxb;rw [h3] at hxb;cases hxb
 ·refine h'.2.2.1 ⟨b,hb,?_⟩
  rw [getD_set_ne true (Ne.symm hbj),getD_set_ne true (Ne.symm hbi)]
  exact hxb
theorem aAL {Q:Exit->Act->World->Prop} {w0 w:World} {Q0 Q1:List Own} {bZ bH:PW} {dl:Option Nat} {B rd:List Nat} {E:Array Bool->Prop} {K:Act->World->Prop} {fin:Array Bool} {n:Nat} {i:Nat} {o:Oper} {v:Value} {a:Act} {listed:Array Bool} (hsel:Region.noSelect ops=true)
  (M1:uI ops rd B=true) (XY:dl≠some i) (hEf:∀ x,E x->x=fin) (hl:Region.ready .any ops (fin.setIfInBounds i false)=[i]) (hi:ops[i]? = some o) (hr:i∈Region.ready .any ops listed) (hf:Region.free .any ops listed i=true)
  (hy:YieldsIf P ops (λw=>∃ x,i∈Region.ready .any ops x/\SD ops W w0 Q0 bZ dl Q1 bH B x w) o v a) (hS:SD ops W w0 Q0 bZ dl Q1 bH B listed w)
  (H:nK P .any ops (fR Q) (SD ops W w0 Q0 bZ dl Q1 bH B) (λj=>dY j rd) E K n (listed.setIfInBounds i true) (a.put o.dst v) w):nK P .any ops (fR Q) (SD ops W w0 Q0 bZ dl Q1 bH B) (λj=>dY j rd) E K (n+1) listed a w:=by
 refine a0s hi (Region.noSelect_spec hsel) (λ_ _ _ h=>h) (λl hl' hil j hj=>?_) (λx w hi h=>h.down hi) (SD.mono M1 XY) n listed a w (Region.free_spec hi hf) hr hy hS H
 have hl':=hEf _ hl'
 have e:l=fin.setIfInBounds i false:=by
  have h0:=(mem_ready.1 hil).1
  rw [<-hl']
  have h2:l[i]? = some false:=by
   rw [Array.getD_eq_getD_getElem?] at h0
   cases hx:l[i]? with
   | none=>rw [hx] at h0;cases h0
   | some b=>rw [hx] at h0;simp at h0;subst h0;rfl
  have hlt:i<l.size:=(Array.getElem?_eq_some_iff.1 h2).1
  apply Array.ext_getElem?
  intro k
  by_cases hk:i=k
  ·subst hk
   rw [Array.getElem?_setIfInBounds_self_of_lt (by simpa using hlt),h2]
  ·rw [Array.getElem?_setIfInBounds_ne hk,Array.getElem?_setIfInBounds_ne hk]
 rw [e,hl] at hj
 simpa using hj
theorem B9 {Q:Exit->Act->World->Prop} {L:List Tr} {R:List Own} {Φ bZ bH:PW} {Q0 Q1:List Own} {dl:Option Nat} {w0 w:World} {B rd:List Nat} {Kf:dU->Prop} {K:Act->World->Prop} {E:Array Bool->Prop} {fin:Array Bool} {m:Nat} (hsel:Region.noSelect ops=true) (M1:uI ops rd B=true) (hEf:∀ x,E x->x=fin)
  (hD:∀ (j:Nat) (o:Oper) (t:Nat),ops[j]? = some o->o.dst=some t->D t) :
  ∀ (T:List Nat) (listed:Array Bool) (s:dU) (a:Act) (_:∀ i∈T,dl≠some i) (_:∀ s a,Kf s->At ds G W s L R Φ a w->dR D s0 (s.fr L)->SD ops W w0 Q0 bZ dl Q1 bH B (bA T listed) w->nK P .any ops (fR Q) (SD ops W w0 Q0 bZ dl Q1 bH B) (λj=>dY j rd) E K m (bA T listed) a w),
   (∀ i∈T,Region.ready .any ops (fin.setIfInBounds i false)=[i])->lH ops T listed=true->ltS P W wr ops L Q0 bZ T s Kf->At ds G W s L R Φ a w->dR D s0 (s.fr L)->SD ops W w0 Q0 bZ dl Q1 bH B listed w ->
   nK P .any ops (fR Q) (SD ops W w0 Q0 bZ dl Q1 bH B) (λj=>dY j rd) E K (T.length+m) listed a w
 | [],listed,s,a,XY,hK,_,_,h,ha,hu,hS=>by simp only [List.length_nil,Nat.zero_add];exact hK s a h ha hu hS
 | i :: r,listed,s,a,XY,hK,hl,ho,h,ha,hu,hS=>by
  simp only [lH,Bool.and_eq_true] at ho
  obtain ⟨⟨vG,zL⟩,T3⟩:=ho
  unfold ltS at h
  split at h
  ·exact h.elim
  rename_i o hi
  have hd:∀ t,o.dst=some t->D t:=λt ht=>hD i o t hi ht
  have take:∀ (s':dU) (sv:SV) (v':Value),At ds G W s' L R Φ a w->dR D s0 (s'.fr L)->(∀ k o,sv=SV.ptr k o->(bL k L).isSome=true)->(AE (sv.val L)=false->v'=sv.val L) ->
    YieldsIf P ops (λw=>∃ x,i∈Region.ready .any ops x/\SD ops W w0 Q0 bZ dl Q1 bH B x w) o v' a->ltS P W wr ops L Q0 bZ r (s'.put o.dst sv) Kf ->
    nK P .any ops (fR Q) (SD ops W w0 Q0 bZ dl Q1 bH B) (λj=>dY j rd) E K ((i :: r).length+m) listed a w:=by
   intro s' sv v' cD jH hp hv hy hk
   have ih:=B9 (Q:=Q) hsel M1 hEf hD r (listed.setIfInBounds i true) (s'.put o.dst sv) (a.put o.dst v') (λj hj=>XY j (List.mem_cons_of_mem _ hj)) hK (λj hj=>hl j (List.mem_cons_of_mem _ hj)) T3 hk (cD.put o.dst (Ext.refl _) hp cD.ctx cD.st hv) (jH.xQ cD.wf (Ext.refl _) hd) (hS.down (by simpa using vG))
   rw [show (i :: r).length+m=(r.length+m)+1 by simp;omega]
   exact aAL hsel M1 (XY i (by simp)) hEf (hl i (by simp)) hi (by simpa using vG) zL hy hS ih
  obtain ⟨s',cD,jH,h⟩:=fG hD h ha hu
  rcases h with ⟨sJ,h⟩|⟨sJ,h⟩
  ·obtain ⟨sv,v',h1,h2,h3,h4⟩:=B8 h cD
   exact take s' sv v' cD jH h2 h3 (.inl ⟨sJ,λw' ⟨x,_,hx⟩=>h4 w' hx.2.1⟩) h1
  ·exact take s' (.v undef) undef cD jH (λk o e=>by cases e) (λ_=>rfl) (.inr ⟨sJ,rfl⟩) h
theorem lD {b:Nat}:∀ (T:List Nat) (x:Array Bool),(b∈T\/x.getD b true=true)->(bA T x).getD b true=true
 | [],x,h=>by rcases h with h|h;cases h;exact h
 | i :: r,x,h=>by
  unfold bA
  refine lD r _ ?_
  by_cases hbr:b∈r
  ·exact .inl hbr
  ·right
   cases hc:(x.setIfInBounds i true).getD b true with
   | true=>rfl
   | false =>
    obtain ⟨h1,h2⟩:=nL hc
    rcases h with h|h
    ·rcases List.mem_cons.1 h with h|h
     ·exact absurd h h1
     ·exact absurd h hbr
    ·rw [h] at h2;cases h2
theorem T6 {Q:Exit->Act->World->Prop} {L:List Tr} {R:List Own} {Φ bZ:PW} {Q0:List Own} {w:World} {B rd:List Nat} {Kf:dU->Prop} {K:Act->World->Prop} {E:Array Bool->Prop} {fin:Array Bool} {m:Nat} (hsel:Region.noSelect ops=true) (M1:uI ops rd B=true) (hEf:∀ x,E x->x=fin)
  (hD:∀ (j:Nat) (o:Oper) (t:Nat),ops[j]? = some o->o.dst=some t->D t) :
  ∀ (T:List Nat) (listed:Array Bool) (s:dU) (a:Act) (_:∀ s a,Kf s->At ds G W s L R Φ a w->dR D s0 (s.fr L)->SD ops W w Q0 bZ none Q0 bZ B (bA T listed) w->nK P .any ops (fR Q) (SD ops W w Q0 bZ none Q0 bZ B) (λj=>dY j rd) E K m (bA T listed) a w),
   (∀ i∈T,Region.ready .any ops (fin.setIfInBounds i false)=[i])->lH ops T listed=true->a4C P W wr ops L R Φ Q0 bZ B T s Kf->At ds G W s L R Φ a w->dR D s0 (s.fr L)->SD ops W w Q0 bZ none Q0 bZ B listed w ->
   nK P .any ops (fR Q) (SD ops W w Q0 bZ none Q0 bZ B) (λj=>dY j rd) E K (T.length+m) listed a w
 | [],listed,s,a,hK,_,_,h,ha,hu,hS=>by simp only [List.length_nil,Nat.zero_add];exact hK s a h ha hu hS
 | i :: r,listed,s,a,hK,hl,ho,h,ha,hu,hS=>by
  simp only [lH,Bool.and_eq_true] at ho
  obtain ⟨⟨vG,zL⟩,T3⟩:=ho
  unfold a4C at h
  split at h
  ·exact h.elim
  rename_i o hi
  have hd:∀ t,o.dst=some t->D t:=λt ht=>hD i o t hi ht
  have take:∀ (s':dU) (sv:SV) (v':Value),At ds G W s' L R Φ a w->dR D s0 (s'.fr L)->(∀ k o,sv=SV.ptr k o->(bL k L).isSome=true)->(AE (sv.val L)=false->v'=sv.val L) ->
    YieldsIf P ops (λw'=>∃ x,i∈Region.ready .any ops x/\SD ops W w Q0 bZ none Q0 bZ B x w') o v' a->a4C P W wr ops L R Φ Q0 bZ B r (s'.put o.dst sv) Kf ->
    nK P .any ops (fR Q) (SD ops W w Q0 bZ none Q0 bZ B) (λj=>dY j rd) E K ((i :: r).length+m) listed a w:=by
   intro s' sv v' cD jH hp hv hy hk
   have ih:=T6 (Q:=Q) hsel M1 hEf hD r (listed.setIfInBounds i true) (s'.put o.dst sv) (a.put o.dst v') hK (λj hj=>hl j (List.mem_cons_of_mem _ hj)) T3 hk (cD.put o.dst (Ext.refl _) hp cD.ctx cD.st hv) (jH.xQ cD.wf (Ext.refl _) hd) (hS.down (by simpa using vG))
   rw [show (i :: r).length+m=(r.length+m)+1 by simp;omega]
   exact aAL hsel M1 (λe=>by cases e) hEf (hl i (by simp)) hi (by simpa using vG) zL hy hS ih
  obtain ⟨s',cD,jH,h⟩:=fG hD h ha hu
  rcases h with ⟨sJ,h⟩|⟨sJ,h⟩
  ·split at h
   ·rename_i hB
    obtain ⟨sv,v',h1,h2,h3,h4⟩:=O0 h cD
    exact take s' sv v' cD jH h2 h3 (.inl ⟨sJ,λw' ⟨x,hix,hx⟩=>by rw [hx.2.2.1 ⟨i,iV.1 hB,(mem_ready.1 hix).1⟩];exact h4⟩) h1
   ·obtain ⟨sv,v',h1,h2,h3,h4⟩:=B8 h cD
    exact take s' sv v' cD jH h2 h3 (.inl ⟨sJ,λw' ⟨x,_,hx⟩=>h4 w' hx.2.1⟩) h1
  ·exact take s' (.v undef) undef cD jH (λk o e=>by cases e) (λ_=>rfl) (.inr ⟨sJ,rfl⟩) h
theorem PO {Q:Exit->Act->World->Prop} {L:List Tr} {R:List Own} {Φ bZ bH:PW} {Q0 Q1:List Own} {dl:Nat} {C:List Nat} {w:World} {B rd:List Nat} {Kf:dU->Prop} {K:Act->World->Prop} {E:Array Bool->Prop} {fin:Array Bool} {m:Nat} (hsel:Region.noSelect ops=true) (M1:uI ops rd B=true) (XY:dY dl rd=false) (hCw:∀ c∈C,Wt ops c dl) (hEf:∀ x,E x->x=fin)
  (hD:∀ (j:Nat) (o:Oper) (t:Nat),ops[j]? = some o->o.dst=some t->D t) :
  ∀ (T:List Nat) (listed:Array Bool) (s:dU) (a:Act) (_:∀ s a,Kf s->At ds G W s L R Φ a w->dR D s0 (s.fr L)->SD ops W w Q0 bZ (some dl) Q1 bH B (bA T listed) w->nK P .any ops (fR Q) (SD ops W w Q0 bZ (some dl) Q1 bH B) (λj=>dY j rd) E K m (bA T listed) a w),
   (∀ i∈T,i∈rd)->(∀ i∈T,Region.ready .any ops (fin.setIfInBounds i false)=[i])->lH ops T listed=true->PN P W wr ops L R Φ Q0 bZ C Q1 bH B T s Kf->At ds G W s L R Φ a w->dR D s0 (s.fr L)->SD ops W w Q0 bZ (some dl) Q1 bH B listed w ->
   nK P .any ops (fR Q) (SD ops W w Q0 bZ (some dl) Q1 bH B) (λj=>dY j rd) E K (T.length+m) listed a w
 | [],listed,s,a,hK,_,_,_,h,ha,hu,hS=>by simp only [List.length_nil,Nat.zero_add];exact hK s a h ha hu hS
 | i :: r,listed,s,a,hK,hTr,hl,ho,h,ha,hu,hS=>by
  simp only [lH,Bool.and_eq_true] at ho
  obtain ⟨⟨vG,zL⟩,T3⟩:=ho
  unfold PN at h
  split at h
  ·exact h.elim
  rename_i o hi
  have hd:∀ t,o.dst=some t->D t:=λt ht=>hD i o t hi ht
  have take:∀ (s':dU) (sv:SV) (v':Value),At ds G W s' L R Φ a w->dR D s0 (s'.fr L)->(∀ k o,sv=SV.ptr k o->(bL k L).isSome=true)->(AE (sv.val L)=false->v'=sv.val L) ->
    YieldsIf P ops (λw'=>∃ x,i∈Region.ready .any ops x/\SD ops W w Q0 bZ (some dl) Q1 bH B x w') o v' a->PN P W wr ops L R Φ Q0 bZ C Q1 bH B r (s'.put o.dst sv) Kf ->
    nK P .any ops (fR Q) (SD ops W w Q0 bZ (some dl) Q1 bH B) (λj=>dY j rd) E K ((i :: r).length+m) listed a w:=by
   intro s' sv v' cD jH hp hv hy hk
   have ih:=PO (Q:=Q) hsel M1 XY hCw hEf hD r (listed.setIfInBounds i true) (s'.put o.dst sv) (a.put o.dst v') hK (λj hj=>hTr j (List.mem_cons_of_mem _ hj)) (λj hj=>hl j (List.mem_cons_of_mem _ hj)) T3 hk (cD.put o.dst (Ext.refl _) hp cD.ctx cD.st hv) (jH.xQ cD.wf (Ext.refl _) hd) (hS.down (by simpa using vG))
   rw [show (i :: r).length+m=(r.length+m)+1 by simp;omega]
   exact aAL hsel M1 (λe=>by have e:=Option.some.inj e;rw [e,iV.2 (hTr i (by simp))] at XY;cases XY) hEf (hl i (by simp)) hi (by simpa using vG) zL hy hS ih
  obtain ⟨s',cD,jH,h⟩:=fG hD h ha hu
  rcases h with ⟨sJ,h⟩|⟨sJ,h⟩
  ·split at h
   ·rename_i hB
    obtain ⟨sv,v',h1,h2,h3,h4⟩:=O0 h cD
    exact take s' sv v' cD jH h2 h3 (.inl ⟨sJ,λw' ⟨x,hix,hx⟩=>by rw [hx.2.2.1 ⟨i,iV.1 hB,(mem_ready.1 hix).1⟩];exact h4⟩) h1
   ·split at h
    ·rename_i hC
     obtain ⟨sv,v',h1,h2,h3,h4⟩:=B8 h cD
     exact take s' sv v' cD jH h2 h3 (.inl ⟨sJ,λw' ⟨x,hix,hx⟩=>h4 w' (hx.2.2.2 dl rfl ((hCw i (iV.1 hC)).later hx.1 (mem_ready.1 hix).1))⟩) h1
    ·obtain ⟨sv,v',h1,h2,h3,h4⟩:=B8 h cD
     exact take s' sv v' cD jH h2 h3 (.inl ⟨sJ,λw' ⟨x,_,hx⟩=>h4 w' hx.2.1⟩) h1
  ·exact take s' (.v undef) undef cD jH (λk o e=>by cases e) (λ_=>rfl) (.inr ⟨sJ,rfl⟩) h
theorem O2 {Q:Exit->Act->World->Prop} {L0:List Tr} {w0:World} {Q0:List Own} {bZ:PW} {B rd:List Nat} {Kf:dU->List Tr->List Own->PW->Prop} {K:Act->World->Prop} {fin:Array Bool} (hsel:Region.noSelect ops=true) (M1:uI ops rd B=true)
  (hD:∀ (j:Nat) (o:Oper) (t:Nat),ops[j]? = some o->o.dst=some t->D t) (hK:∀ s L R Φ a w,Kf s L R Φ->At ds G W s L R Φ a w->Ext L0 L->dR D s0 (s.fr L)->K a w) :
  ∀ (l:List (Nat × List Nat)) (listed:Array Bool) (s:dU) (L:List Tr) (R:List Own) (Φ:PW) (a:Act) (w:World),eY ops listed=true->(∀ p∈l,∀ i∈p.2,Region.ready .any ops (fin.setIfInBounds i false)=[i])->a0C ops fin l listed=true->dlS P W wr AV ops Q0 bZ l s L R Φ Kf->At ds G W s L R Φ a w->(∀ w F,Ctx W w (R++F) Φ->Ctx W w (Q0++F) bZ)->Ext L0 L->dR D s0 (s.fr L) ->
   (∀ b∈B,listed.getD b true=true)->(∀ p∈l,dY p.1 rd=false)->nK P .any ops (fR Q) (SD ops W w0 Q0 bZ none Q0 bZ B) (λj=>dY j rd) (λx=>x=fin/\Region.ready .any ops x=[]) K (SZ l) listed a w
 | [],listed,s,L,R,Φ,a,w,_,_,ho,h,ha,eT,he,hu,_,_=>by
  simp only [a0C,Bool.and_eq_true,decide_eq_true_eq,List.isEmpty_iff] at ho
  exact ⟨ho,hK _ _ _ _ _ _ h ha he hu⟩
 | (i,T) :: rest,listed,s,L,R,Φ,a,w,DI,hl,ho,h,ha,eT,he,hu,hB,hn=>by
  simp only [a0C,Bool.and_eq_true,beq_iff_eq] at ho
  obtain ⟨h1,h2,h3⟩:=ho
  unfold dlS at h
  split at h
  ·exact h.elim
  rename_i o hi
  have hd:∀ t,o.dst=some t->D t:=λt ht=>hD i o t hi ht
  have hB':∀ b∈B,(listed.setIfInBounds i true).getD b true=true:=λb hb=>by
   cases hc:(listed.setIfInBounds i true).getD b true with
   | true=>rfl
   | false=>have:=(nL hc).2;rw [hB b hb] at this;cases this
  have sd:∀ {w':World} {R':List Own} {aF:PW} {L':List Tr},jR G W w' L' R' aF->(∀ w F,Ctx W w (R'++F) aF->Ctx W w (Q0++F) bZ)->SD ops W w0 Q0 bZ none Q0 bZ B (listed.setIfInBounds i true) w':=λhc O1 =>
   ⟨jS DI (by rw [h1];simp),⟨_,O1 _ _ hc⟩,λ⟨b,hb,hx⟩=>(by rw [hB' b hb] at hx;cases hx),λd e=>by cases e⟩
  refine ⟨by rw [h1];simp,λj hj=>?_⟩
  rw [h1] at hj
  have hj:j=i:=by simpa using hj
  subst hj
  obtain ⟨s',cD,jH,CI⟩:=fG hD h ha hu
  unfold wpOp
  simp only [hi]
  have hnr:=hn (j,T) (by simp)
  rcases CI with ⟨sJ,h⟩|⟨sJ,h⟩
  ·simp only [sJ,if_true]
   have:=cD.st
   refine .inl (Oper.qK (tP h cD.B5 cD.wf cD.ctx λsv L' R' aF v' w' hk hst xS hp hc hv=>⟨sd hc hk.1,λe=>(by rw [hnr] at e;cases e),?_⟩))
   refine B9 hsel M1 (λx hx=>hx.1) hD T _ _ _ (λi _ e=>by cases e) (λs a hk' T7 T8 hsd=>?_) (hl (j,T) (by simp)) h2 hk.2 (cD.put o.dst xS hp hc hst hv) (jH.xQ cD.wf xS hd) (sd hc hk.1)
   exact O2 hsel M1 hD hK rest _ _ _ _ _ _ _ hsd.1 (λp hp'=>hl p (List.mem_cons_of_mem _ hp')) h3 hk' T7 hk.1 (he.trans xS) T8 (λb hb=>lD T _ (.inr (hB' b hb))) (λp hp'=>hn p (List.mem_cons_of_mem _ hp'))
  ·simp only [sJ,Bool.false_eq_true,if_false]
   refine ⟨sd cD.ctx eT,λe=>(by rw [hnr] at e;cases e),?_⟩
   refine B9 hsel M1 (λx hx=>hx.1) hD T _ _ _ (λi _ e=>by cases e) (λs a hk' T7 T8 hsd=>?_) (hl (j,T) (by simp)) h2 h (cD.put o.dst (Ext.refl _) (λk o e=>by cases e) cD.ctx cD.st (λ_=>rfl)) (jH.xQ cD.wf (Ext.refl _) hd) (sd cD.ctx eT)
   exact O2 hsel M1 hD hK rest _ _ _ _ _ _ _ hsd.1 (λp hp'=>hl p (List.mem_cons_of_mem _ hp')) h3 hk' T7 eT he T8 (λb hb=>lD T _ (.inr (hB' b hb))) (λp hp'=>hn p (List.mem_cons_of_mem _ hp'))
theorem JO {Q:Exit->Act->World->Prop} {L0:List Tr} {w0:World} {Q0 Q1:List Own} {bZ bH:PW} {dl:Nat} {B rd:List Nat} {Kf:dU->List Tr->List Own->PW->Prop} {K:Act->World->Prop} {fin:Array Bool} (hsel:Region.noSelect ops=true) (M1:uI ops rd B=true) (XY:dY dl rd=false)
  (hD:∀ (j:Nat) (o:Oper) (t:Nat),ops[j]? = some o->o.dst=some t->D t) (hK:∀ s L R Φ a w,Kf s L R Φ->At ds G W s L R Φ a w->Ext L0 L->dR D s0 (s.fr L)->K a w) :
  ∀ (l:List (Nat × List Nat)) (up:Bool) (listed:Array Bool) (s:dU) (L:List Tr) (R:List Own) (Φ:PW) (a:Act) (w:World),eY ops listed=true->(∀ p∈l,∀ i∈p.2,Region.ready .any ops (fin.setIfInBounds i false)=[i])->a0C ops fin l listed=true->aAK P W wr AV ops Q0 bZ dl Q1 bH up l s L R Φ Kf->At ds G W s L R Φ a w->(∀ w F,Ctx W w (R++F) Φ->Ctx W w (Q0++F) bZ)->(listed.getD dl true=false->up=true/\∀ w F,Ctx W w (R++F) Φ->Ctx W w (Q1++F) bH)->(∀ p∈l,∀ i∈p.2,i∈rd)->Ext L0 L->dR D s0 (s.fr L) ->
   (∀ b∈B,listed.getD b true=true)->(∀ p∈l,dY p.1 rd=false)->nK P .any ops (fR Q) (SD ops W w0 Q0 bZ (some dl) Q1 bH B) (λj=>dY j rd) (λx=>x=fin/\Region.ready .any ops x=[]) K (SZ l) listed a w
 | [],up,listed,s,L,R,Φ,a,w,_,_,ho,h,ha,eT,_,_,he,hu,_,_=>by
  simp only [a0C,Bool.and_eq_true,decide_eq_true_eq,List.isEmpty_iff] at ho
  exact ⟨ho,hK _ _ _ _ _ _ h ha he hu⟩
 | (i,T) :: rest,up,listed,s,L,R,Φ,a,w,DI,hl,ho,h,ha,eT,hup,hrd,he,hu,hB,hn=>by
  simp only [a0C,Bool.and_eq_true,beq_iff_eq] at ho
  obtain ⟨h1,h2,h3⟩:=ho
  unfold aAK at h
  split at h
  ·exact h.elim
  rename_i o hi
  have hd:∀ t,o.dst=some t->D t:=λt ht=>hD i o t hi ht
  have hB':∀ b∈B,(listed.setIfInBounds i true).getD b true=true:=λb hb=>by
   cases hc:(listed.setIfInBounds i true).getD b true with
   | true=>rfl
   | false=>have:=(nL hc).2;rw [hB b hb] at this;cases this
  have sd:∀ {w':World} {R':List Own} {aF:PW} {L':List Tr},jR G W w' L' R' aF->(∀ w F,Ctx W w (R'++F) aF->Ctx W w (Q0++F) bZ)->((listed.setIfInBounds i true).getD dl true=false->∀ w F,Ctx W w (R'++F) aF->Ctx W w (Q1++F) bH)->SD ops W w0 Q0 bZ (some dl) Q1 bH B (listed.setIfInBounds i true) w':=λhc O1 M3 =>
   ⟨jS DI (by rw [h1];simp),⟨_,O1 _ _ hc⟩,λ⟨b,hb,hx⟩=>(by rw [hB' b hb] at hx;cases hx),λd e hx=>by cases e;exact ⟨_,M3 hx _ _ hc⟩⟩
  have aFo:∀ (R':List Own) (aF:PW),aAJ dl i up (∀ w F,Ctx W w (R'++F) aF->Ctx W w (Q1++F) bH)->(listed.setIfInBounds i true).getD dl true=false->(up && !(Nat.beq dl i))=true/\∀ w F,Ctx W w (R'++F) aF->Ctx W w (Q1++F) bH:=by
   intro R' aF hq hx
   obtain ⟨hne,hx⟩:=nL hx
   have hb:Nat.beq dl i=false:=by cases hb:Nat.beq dl i with|false=>rfl|true=>exact absurd (Nat.eq_of_beq_eq_true hb) hne
   have hu:=(hup hx).1
   rw [hu] at hq ⊢
   unfold aAJ at hq
   rw [hb] at hq ⊢
   exact ⟨rfl,hq⟩
  have hun:∀ (T:List Nat) (x:Array Bool),(bA T x).getD dl true=false->x.getD dl true=false:=λT x hx=>by
   cases hc:x.getD dl true with
   | false=>rfl
   | true=>rw [lD T x (.inr hc)] at hx;cases hx
  have hTd:∀ i∈T,some dl≠some i:=λk hk e=>by
   cases e
   rw [iV.2 (hrd (i,T) (by simp) dl hk)] at XY
   cases XY
  refine ⟨by rw [h1];simp,λj hj=>?_⟩
  rw [h1] at hj
  have hj:j=i:=by simpa using hj
  subst hj
  obtain ⟨s',cD,jH,CI⟩:=fG hD h ha hu
  unfold wpOp
  simp only [hi]
  have hnr:=hn (j,T) (by simp)
  rcases CI with ⟨sJ,h⟩|⟨sJ,h⟩
  ·simp only [sJ,if_true]
   have:=cD.st
   refine .inl (Oper.qK (tP h cD.B5 cD.wf cD.ctx λsv L' R' aF v' w' hk hst xS hp hc hv=>⟨sd hc hk.1 (λhx=>(aFo _ _ hk.2.1 hx).2),λe=>(by rw [hnr] at e;cases e),?_⟩))
   refine B9 hsel M1 (λx hx=>hx.1) hD T _ _ _ hTd (λs a hk' T7 T8 hsd=>?_) (hl (j,T) (by simp)) h2 hk.2.2 (cD.put o.dst xS hp hc hst hv) (jH.xQ cD.wf xS hd) (sd hc hk.1 (λhx=>(aFo _ _ hk.2.1 hx).2))
   exact JO hsel M1 XY hD hK rest _ _ _ _ _ _ _ _ hsd.1 (λp hp'=>hl p (List.mem_cons_of_mem _ hp')) h3 hk' T7 hk.1 (λhx=>aFo _ _ hk.2.1 (hun _ _ hx)) (λp hp'=>hrd p (List.mem_cons_of_mem _ hp')) (he.trans xS) T8 (λb hb=>lD T _ (.inr (hB' b hb))) (λp hp'=>hn p (List.mem_cons_of_mem _ hp'))
  ·simp only [sJ,Bool.false_eq_true,if_false]
   have hq:(listed.setIfInBounds j true).getD dl true=false->∀ w F,Ctx W w (R++F) Φ->Ctx W w (Q1++F) bH:=λhx=>(hup (nL hx).2).2
   have KR:aAJ dl j up (∀ w F,Ctx W w (R++F) Φ->Ctx W w (Q1++F) bH)\/listed.getD dl true=true:=by
    cases hc:listed.getD dl true with
    | true=>exact .inr rfl
    | false=>left;unfold aAJ;split;trivial;split;trivial;exact (hup hc).2
   have RY:(listed.setIfInBounds j true).getD dl true=false->(up && !(Nat.beq dl j))=true/\∀ w F,Ctx W w (R++F) Φ->Ctx W w (Q1++F) bH:=λhx=>by
    rcases KR with h|h
    ·exact aFo _ _ h hx
    ·rw [(nL hx).2] at h;cases h
   refine ⟨sd cD.ctx eT hq,λe=>(by rw [hnr] at e;cases e),?_⟩
   refine B9 hsel M1 (λx hx=>hx.1) hD T _ _ _ hTd (λs a hk' T7 T8 hsd=>?_) (hl (j,T) (by simp)) h2 h (cD.put o.dst (Ext.refl _) (λk o e=>by cases e) cD.ctx cD.st (λ_=>rfl)) (jH.xQ cD.wf (Ext.refl _) hd) (sd cD.ctx eT hq)
   exact JO hsel M1 XY hD hK rest _ _ _ _ _ _ _ _ hsd.1 (λp hp'=>hl p (List.mem_cons_of_mem _ hp')) h3 hk' T7 eT (λhx=>RY (hun _ _ hx)) (λp hp'=>hrd p (List.mem_cons_of_mem _ hp')) he T8 (λb hb=>lD T _ (.inr (hB' b hb))) (λp hp'=>hn p (List.mem_cons_of_mem _ hp'))
theorem qL {Q:Exit->Act->World->Prop} {L0:List Tr} {K:dU->List Tr->List Own->PW->Prop} (hsel:Region.noSelect ops=true)
  (hD:∀ (j:Nat) (o:Oper) (t:Nat),ops[j]? = some o->o.dst=some t->D t) (hK:∀ s L R Φ a w,K s L R Φ->At ds G W s L R Φ a w->Ext L0 L->dR D s0 (s.fr L)->Q .normal a w) :
  ∀ (l:List Sg) (listed:Array Bool) (s:dU) (L:List Tr) (R:List Own) (Φ:PW) (a:Act) (w:World),JL ops l listed=true->JM P W wr AV ops l s L R Φ K->At ds G W s L R Φ a w->Ext L0 L->dR D s0 (s.fr L) ->
   wpAny P .any ops (fR Q) (IU l) listed a w
 | [],listed,s,L,R,Φ,a,w,ho,h,ha,he,hu=>by
  refine ⟨?_,hK _ _ _ _ _ _ h ha he hu⟩
  simpa [JL] using ho
 | .aO T none :: rest,listed,s,L,R,Φ,a,w,ho,h,ha,he,hu=>by
  simp only [JL,Bool.and_eq_true] at ho
  obtain ⟨⟨vG,zL⟩,T3⟩:=ho
  unfold JM at h
  exact XW hsel hD (λs a h ha hu=>qL hsel hD hK rest _ s L R Φ a w T3 h ha he hu) vG zL h ha hu
 | .tree t n :: rest,listed,s,L,R,Φ,a,w,ho,h,ha,he,hu=>by
  simp only [JL,Bool.and_eq_true] at ho
  obtain ⟨⟨hc1,vG⟩,T3⟩:=ho
  unfold JM at h
  obtain ⟨Q0,bZ,vJ,hQ0,h⟩:=h
  refine xK (S:=λw'=>Ctx W w' (Q0++(L.map Tr.own++G)) bZ) (E:=λl=>l=bA (XU t) listed) (K:=λa' w'=>wpAny P .any ops (fR Q) (IU rest) (bA (XU t) listed) a' w') ?_ n listed a w ?_
  ·rintro l a w1 rfl hk;exact hk
  ·exact (F2 hsel vJ hD (λs R Φ a w hk ha hu=>qL hsel hD hK rest _ s L R Φ a w T3 hk ha he hu) t).1 n listed s R Φ a w hc1 vG h ha hQ0 hu
 | .held ord :: rest,listed,s,L,R,Φ,a,w,ho,h,ha,he,hu=>by
  simp only [JL,Bool.and_eq_true] at ho
  obtain ⟨⟨⟨vG,hc1⟩,zL⟩,T3⟩:=ho
  unfold JM at h
  have hl:∀ j∈kF ord,Region.ready .any ops ((bA (ord.map (·.1)) listed).setIfInBounds j false)=[j]\/eY ops ((bA (ord.map (·.1)) listed).setIfInBounds j false)=false:=by
   intro j hj
   have:=List.all_eq_true.1 zL j hj
   simpa using this
  obtain ⟨Q0,bZ,vJ,hQ0,h⟩:=h
  refine xK (S:=λw'=>Ctx W w' (Q0++(L.map Tr.own++G)) bZ) (E:=λl=>l=bA (ord.map (·.1)) listed) (K:=λa' w'=>wpAny P .any ops (fR Q) (IU rest) (bA (ord.map (·.1)) listed) a' w') ?_ ord.length listed a w ?_
  ·rintro l a w1 rfl hk;exact hk
  ·exact LZ hsel vJ hD (λs R Φ a w hk ha hu=>qL hsel hD hK rest _ s L R Φ a w T3 hk ha he hu) ord listed s R Φ a w hl hc1 vG rfl h ha hQ0 hu
 | .late B sW l :: rest,listed,s,L,R,Φ,a,w,ho,h,ha,he,hu=>by
  simp only [JL,Bool.and_eq_true] at ho
  obtain ⟨⟨⟨⟨⟨⟨hc0,vG⟩,hBi⟩,M1⟩,hla⟩,hnr⟩,XY⟩:=ho
  unfold JM at h
  have hl:∀ j∈jJ sW l,Region.ready .any ops ((LY l (bA sW listed)).setIfInBounds j false)=[j]:=by
   intro j hj
   have:=List.all_eq_true.1 hla j hj
   simpa using this
  have aFp:∀ (l:List (Nat × List Nat)),∀ i∈sW,i∈jJ sW l:=by
   intro l
   induction l with
   | nil=>exact λi hi=>hi
   | cons p r ih=>obtain ⟨q,T⟩:=p;exact λi hi=>List.mem_append.2 (.inr (ih i hi))
  have hlt:∀ (l:List (Nat × List Nat)),∀ p∈l,∀ i∈p.2,i∈jJ sW l:=by
   intro l
   induction l with
   | nil=>intro p hp;cases hp
   | cons q r ih =>
    obtain ⟨q,T⟩:=q
    intro p hp i hi
    rcases List.mem_cons.1 hp with rfl|hp
    ·exact List.mem_append.2 (.inl hi)
    ·exact List.mem_append.2 (.inr (ih p hp i hi))
  have hB:∀ b∈B,(bA sW listed).getD b true=true:=λb hb=>lD sW listed (.inl (iV.1 (List.all_eq_true.1 hBi b hb)))
  obtain ⟨Q0,bZ,vJ,hQ0,h⟩:=h
  refine JE (S:=SD ops W w Q0 bZ none Q0 bZ B) (rd:=λj=>dY j (jJ sW l)) (E:=λx=>x=LY l (bA sW listed)/\Region.ready .any ops x=[]) (K:=λa' w'=>fR Q .normal a' w') (λl a w1 hE hk=>⟨hE.2,hk⟩) (sW.length+SZ l) listed a w ?_
  refine T6 hsel M1 (λx hx=>hx.1) hD sW listed s a (λs a hk ha hu hsd=>?_) (λi hi=>hl i (aFp l i hi)) vG h ha hu ⟨hc0,⟨_,hQ0 _ _ ha.ctx⟩,λ_=>rfl,λd e=>by cases e⟩
  exact O2 hsel M1 hD (λs L R Φ a w hk ha he hu=>hK _ _ _ _ _ _ hk ha he hu) l _ s L R Φ a w hsd.1 (λp hp i hi=>hl i (hlt l p hp i hi)) XY hk ha hQ0 he hu hB (λp hp=>by simpa using List.all_eq_true.1 hnr p hp)
 | .XV C dl B sW l :: rest,listed,s,L,R,Φ,a,w,ho,h,ha,he,hu=>by
  simp only [JL,Bool.and_eq_true] at ho
  obtain ⟨⟨⟨⟨⟨⟨⟨⟨hc0,vG⟩,hBi⟩,M1⟩,hla⟩,hnr⟩,XY⟩,hC⟩,hdr⟩:=ho
  unfold JM at h
  have hl:∀ j∈jJ sW l,Region.ready .any ops ((LY l (bA sW listed)).setIfInBounds j false)=[j]:=by
   intro j hj
   have:=List.all_eq_true.1 hla j hj
   simpa using this
  have aFp:∀ (l:List (Nat × List Nat)),∀ i∈sW,i∈jJ sW l:=by
   intro l
   induction l with
   | nil=>exact λi hi=>hi
   | cons p r ih=>obtain ⟨q,T⟩:=p;exact λi hi=>List.mem_append.2 (.inr (ih i hi))
  have hlt:∀ (l:List (Nat × List Nat)),∀ p∈l,∀ i∈p.2,i∈jJ sW l:=by
   intro l
   induction l with
   | nil=>intro p hp;cases hp
   | cons q r ih =>
    obtain ⟨q,T⟩:=q
    intro p hp i hi
    rcases List.mem_cons.1 hp with rfl|hp
    ·exact List.mem_append.2 (.inl hi)
    ·exact List.mem_append.2 (.inr (ih p hp i hi))
  have hB:∀ b∈B,(bA sW listed).getD b true=true:=λb hb=>lD sW listed (.inl (iV.1 (List.all_eq_true.1 hBi b hb)))
  obtain ⟨Q0,bZ,vJ,hQ0,Q1,bH,wR,hQ1,h⟩:=h
  have hdr:dY dl (jJ sW l)=false:=by simpa using hdr
  have hCw:∀ c∈C,Wt ops c dl:=λc hc=>T4 (ops:=ops) (b:=c) _ [] (λk hk=>by cases hk) dl (iV.1 (List.all_eq_true.1 hC c hc))
  refine JE (S:=SD ops W w Q0 bZ (some dl) Q1 bH B) (rd:=λj=>dY j (jJ sW l)) (E:=λx=>x=LY l (bA sW listed)/\Region.ready .any ops x=[]) (K:=λa' w'=>fR Q .normal a' w') (λl a w1 hE hk=>⟨hE.2,hk⟩) (sW.length+SZ l) listed a w ?_
  refine PO hsel M1 hdr hCw (λx hx=>hx.1) hD sW listed s a (λs a hk ha hu hsd=>?_) (λi hi=>aFp l i hi) (λi hi=>hl i (aFp l i hi)) vG h ha hu ⟨hc0,⟨_,hQ0 _ _ ha.ctx⟩,λ_=>rfl,λd e _=>⟨_,hQ1 _ _ ha.ctx⟩⟩
  exact JO hsel M1 hdr hD (λs L R Φ a w hk ha he hu=>hK _ _ _ _ _ _ hk ha he hu) l true _ s L R Φ a w hsd.1 (λp hp i hi=>hl i (hlt l p hp i hi)) XY hk ha hQ0 (λ_=>⟨rfl,hQ1⟩) (λp hp i hi=>hlt l p hp i hi) he hu hB (λp hp=>by simpa using List.all_eq_true.1 hnr p hp)
 | .free ord :: rest,listed,s,L,R,Φ,a,w,ho,h,ha,he,hu=>by
  simp only [JL,Bool.and_eq_true] at ho
  obtain ⟨⟨vG,zL⟩,T3⟩:=ho
  unfold JM at h
  have hl:∀ j∈kF ord,Region.ready .any ops ((bA (ord.map (·.1)) listed).setIfInBounds j false)=[j]:=by
   intro j hj
   have:=List.all_eq_true.1 zL j hj
   simpa using this
  obtain ⟨Q0,bZ,vJ,hQ0,h⟩:=h
  refine xK (S:=λw'=>∃ S,Ctx W w' (Q0++S) bZ) (E:=λl=>l=bA (ord.map (·.1)) listed) (K:=λa' w'=>wpAny P .any ops (fR Q) (IU rest) (bA (ord.map (·.1)) listed) a' w') ?_ ord.length listed a w ?_
  ·rintro l a w1 rfl hk;exact hk
  ·exact M0 hsel hD (λs L R Φ a w hk ha he hu=>qL hsel hD hK rest _ s L R Φ a w T3 hk ha he hu) ord listed s L R Φ a w hl vG rfl h ha hQ0 he hu
 | .aO T (some i) :: rest,listed,s,L,R,Φ,a,w,ho,h,ha,he,hu=>by
  simp only [JL,Bool.and_eq_true,beq_iff_eq] at ho
  obtain ⟨⟨vG,zL⟩,h1,h2⟩:=ho
  unfold JM at h
  refine XW hsel hD (λs a h ha hu=>?_) vG zL h ha hu
  split at h
  ·exact h.elim
  rename_i o hi
  have hd:∀ t,o.dst=some t->D t:=λt ht=>hD i o t hi ht
  refine ⟨λh0=>(by rw [h1] at h0;cases h0),λj hj=>?_⟩
  rw [h1] at hj
  have hj:j=i:=by simpa using hj
  subst hj
  obtain ⟨s',cD,jH,CI⟩:=fG hD (by assumption) ha hu
  clear h
  have h:=CI
  unfold wpOp
  simp only [hi]
  rcases h with ⟨hw,h⟩|⟨hw,h⟩
  ·simp only [hw,if_true]
   have:=cD.st
   refine .inl (Oper.qK (tP h cD.B5 cD.wf cD.ctx λsv L' R' aF v' w' hk hst xS hp hc hv=>?_))
   exact qL hsel hD hK rest _ _ _ _ _ _ _ h2 hk (cD.put o.dst xS hp hc hst hv) (he.trans xS) (jH.xQ cD.wf xS hd)
  ·simp only [hw,Bool.false_eq_true,if_false]
   exact qL hsel hD hK rest _ _ _ _ _ _ _ h2 h (cD.put o.dst (Ext.refl _) (λk o e=>by cases e) cD.ctx cD.st (λ_=>rfl)) he (jH.xQ cD.wf (Ext.refl _) hd)
theorem aAO {wr d:Bool} {es:List QV} {o:Oper} {s:dU} {L:List Tr} {R:List Own} {Φ:PW} {a:Act} {w:World} {g:Option Bool} {ch:List (Nat × Bool)} {K:SV->Prop}
  (h:qS P wr d es o s L w g ch K) (hr:Rel ds es (s.fr L) a) (hwf:JH L s) (hc:jR G W w L R Φ) (hg:DX g ↔ Holds (s.fr L) ch) :
  ∃ sv,(∀ k o,sv=SV.ptr k o->(bL k L).isSome=true)/\(DX g->∃ v,(AE (sv.val L)=false->v=sv.val L)/\∀ w',XL d w w'->o.quietAt P a (XL d w) w' v)/\K sv:=by
 have hev:=uH s L
 have old:NT P wr d es o (s.fr L) w g ch (λv=>K (.v v))->∃ sv,(∀ k o,sv=SV.ptr k o->(bL k L).isSome=true)/\(DX g->∃ v,(AE (sv.val L)=false->v=sv.val L)/\∀ w',XL d w w'->o.quietAt P a (XL d w) w' v)/\K sv:=by
  intro h
  obtain ⟨u,h1,h2⟩:=a0r h hr hg
  exact ⟨.v u,λk o e=>(by cases e),h1,h2⟩
 unfold qS at h
 split at h
 ·rename_i t x f hop
  split at h
  ·rename_i k off hx
   split at h
   ·rename_i hro
    obtain ⟨T,hT⟩:=Option.isSome_iff_exists.1 (hwf.ev hx)
    obtain ⟨off',h1,h2⟩:=wQ hT h
    refine ⟨.ptr k off',λk' o' e=>by cases e;rw [hT];rfl,λCI=>⟨_,λ_=>rfl,λw' hw=>?_⟩,h2⟩
    have hv:a.eval x=.pointer (some ⟨T.b,off,none⟩):=by rw [jE hro hr (hg.1 CI),hev,dU.val,hx,fE hT]
    unfold Oper.quietAt
    simp only [execOp,hop,hv,Sem.run_bind,h1 w',Result.andThen,Sem.run_pure,Oper.quietUpon,fE hT]
    exact ⟨trivial,trivial⟩
   ·exact h.elim
  ·exact old h
 ·rename_i t x hop
  split at h
  ·rename_i k off hx
   split at h
   ·rename_i hro
    obtain ⟨T,hT⟩:=Option.isSome_iff_exists.1 (hwf.ev hx)
    obtain ⟨v,h1,h2⟩:=EZ hT (hc.blk hT) h
    refine ⟨.v v,λk' o' e=>(by cases e),λCI=>⟨_,λ_=>rfl,λw' hw=>?_⟩,h2⟩
    have hv:a.eval x=.pointer (some ⟨T.b,off,none⟩):=by rw [jE hro hr (hg.1 CI),hev,dU.val,hx,fE hT]
    unfold Oper.quietAt
    simp only [execOp,hop,hv,Instr.loadAt,Instr.sureAddr,Sem.run_bind,Sem.run_pure,Result.andThen,h1 w' hw.heap,Oper.quietUpon]
    exact ⟨trivial,rfl⟩
   ·exact h.elim
  ·exact old h
 ·rename_i x hop
  split at h
  ·rename_i hro
   refine ⟨s.ev x,λk o e=>hwf.ev e,λCI=>⟨_,λ_=>rfl,λw' hw=>?_⟩,h⟩
   have hv:a.eval x=(s.ev x).val L:=by rw [jE hro hr (hg.1 CI),hev];rfl
   unfold Oper.quietAt
   simp only [execOp,hop,hv,Sem.run_pure,Oper.quietUpon]
   exact ⟨trivial,trivial⟩
  ·exact h.elim
 ·rename_i x hop
  split at h
  ·rename_i hro
   refine ⟨s.ev x,λk o e=>hwf.ev e,λCI=>⟨_,λ_=>rfl,λw' hw=>?_⟩,h⟩
   have hv:a.eval x=(s.ev x).val L:=by rw [jE hro hr (hg.1 CI),hev];rfl
   unfold Oper.quietAt
   simp only [execOp,hop,hv,Sem.run_pure,Oper.quietUpon]
   exact ⟨trivial,trivial⟩
  ·exact h.elim
 ·exact old h
theorem T9 (es:List QV) (s:dU) (L:List Tr):(zK es s).fr L=forget es (s.fr L):=by
 have key:∀ l:List (Nat × SV),tO L (zK.go es l)=mR (SJ es) (tO L l):=by
  intro l
  induction l with
  | nil=>rfl
  | cons p r ih =>
   obtain ⟨t,v⟩:=p
   simp only [zK.go,tO,mR]
   cases SJ es t with
   | true=>simp only [tO,ih]
   | false=>exact ih
 simp only [zK,forget,dU.fr,key]
theorem a4F {es:List QV} {s:dU} {L:List Tr} (h:JH L s):JH L (zK es s):=by
 have key:∀ l:List (Nat × SV),∀ p∈zK.go es l,p∈l:=by
  intro l
  induction l with
  | nil=>intro p hp;exact hp
  | cons q r ih =>
   obtain ⟨t,v⟩:=q
   intro p hp
   simp only [zK.go] at hp
   cases hb:SJ es t with
   | true=>rw [hb] at hp;rcases List.mem_cons.1 hp with rfl|hp;simp;exact List.mem_cons_of_mem _ (ih p hp)
   | false=>rw [hb] at hp;exact List.mem_cons_of_mem _ (ih p hp)
 exact λp hp=>h p (key _ p hp)
theorem O3 {L:List Tr} {R:List Own} {Φ:PW} {d:Bool} {w:World} {K:dU->Prop} {Q:Act->Prop} (hst:aA Φ) (a8e:(L.map Tr.id).Nodup) (hc:jR G W w L R Φ)
  (hK:∀ s a,K s->QU ds (s.fr L) a->JH L s->dR D s0 (s.fr L)->Q a) :
  ∀ (l:List Oper) (es:List QV) (s:dU) (a:Act),(∀ o∈l,∀ t,o.dst=some t->D t)->(∀ e∈es,D e.slot/\e.slot<s.n)->qsS P wr d ops L w l es s K->Rel ds es (s.fr L) a->JH L s->dR D s0 (s.fr L)->wpQuiet P ops (XL d w) Q l a
 | [],es,s,a,_,_,h,hr,hwf,hu=>hK _ _ h (by rw [T9];exact hr.done) (a4F hwf) (by rw [T9];exact a1W hu)
 | o :: rest,es,s,a,hl,he,h,hr,hwf,hu=>by
  have hl':∀ o∈rest,∀ t,o.dst=some t->D t:=λo ho=>hl o (List.mem_cons_of_mem _ ho)
  unfold qsS at h
  split at h
  ·rename_i g ch t hgd ht
   split at h
   ·rename_i hcd
    simp only [Bool.and_eq_true] at hcd
    obtain ⟨h1,h2,h3⟩:=WH hgd hr
    obtain ⟨sv,hp,h4,h5⟩:=aAO h hr hwf hc h2
    have hd:D t:=hl o (by simp) t ht
    have htn:t<s.n:=by have:=hcd.2;rwa [Nat.blt_eq] at this
    have he':∀ e∈(⟨t,g,ch⟩:QV) :: es,D e.slot/\e.slot<(s.put (some t) sv).n:=λe hx=>by
     have hn:(s.put (some t) sv).n=s.n:=by unfold dU.put;simp only;split<;>rfl
     rw [hn]
     rcases List.mem_cons.1 hx with rfl|hx
     ·exact ⟨hd,htn⟩
     ·exact he e hx
    have jH:dR D s0 ((s.put (some t) sv).fr L):=hu.xQ hwf (Ext.refl _) (λt' e=>by cases e;exact hd)
    have hwf':JH L (s.put (some t) sv):=hwf.put hp
    unfold wpQuiet
    by_cases CI:DX g
    ·rw [if_pos (h1.2 CI)]
     obtain ⟨v,h6,h7⟩:=h4 CI
     refine ⟨v,h7,?_⟩
     rw [ht]
     exact O3 hst a8e hc hK rest _ _ _ hl' he' h5 (by rw [SU];exact hr.put hcd.1 htn h2 h3 (λ_=>h6) (λhn=>absurd CI hn)) hwf' jH
    ·rw [if_neg (λhw=>CI (h1.1 hw)),ht]
     exact O3 hst a8e hc hK rest _ _ _ hl' he' h5 (by rw [SU];exact hr.put hcd.1 htn h2 h3 (λhh=>absurd hh CI) (λ_=>rfl)) hwf' jH
   ·exact h.elim
  ·exact h.elim
end
end Go.Vc
end

section
namespace Go.Vc
open Go.RowKit
def kG (rd:Option Nat):Fence:={ Fence.wide with round:=rd }
def PR (Q:Exit->Act->World->Prop):Exit->Act->World->Prop
 | .normal,a,w=>Q .normal a w
 | _,_,_=>False
theorem XZ {Q:Exit->Act->World->Prop}:∀ e a w,PR Q e a w->Q e a w:=λe a w h=>by
 cases e<;>first|exact h|exact h.elim
theorem a4G {Q:Exit->Act->World->Prop}:¬ LetsOut (PR Q):=λ⟨_,_,h⟩=>h
def JP (o:Oper):Bool:=match o.op with | .defer _=>false|_=>true
def tT:List Oper->Bool
 | []=>true
 | o :: r=>JP o&&tT r
theorem xT:∀ {l:List Oper},tT l=true->∀ o∈l,JP o=true
 | [],_,o,ho=>by cases ho
 | p :: r,h,o,ho=>by
  simp only [tT,Bool.and_eq_true] at h
  rcases List.mem_cons.1 ho with rfl|ho
  ·exact h.1
  ·exact xT h.2 o ho
def mS:Code->Bool
 | .region _ ops _=>tT ops.toList
 | .seq x y=>mS x&&mS y
 | .cond _ x y=>mS x&&mS y
 | .block _ b=>mS b
 | .loop b=>mS b
 | .rangeFunc _ _ _ _=>false
 | .scope _=>false
 | _=>true
section
variable {P:Program} {b:Frame} {a:Act} {k:List Item} {cs:List Frame} {w:World} {F:Fence} {n:Nat} {Q:Exit->Act->World->Prop}
theorem qW {c:Code}:step P (lone (b.atR a (.code (.scope c) :: k)) cs w)=.next (lone (b.atR a (.code c :: .inScope c :: k)) cs w) :=
 step_lone_go (by simp [stepG,stepG.exec,Frame.atR])
theorem WJ {c:Code}:step P (lone (b.atR a (.inScope c :: k)) cs w)=.next (lone (b.atR a k) cs w) :=
 step_lone_go (by simp [stepG,stepG.exec,Frame.atR])
theorem a4H {c:Code} (h:c.wpIn F n P (λe a w=>match e with | .goto _=>False|e=>Q e a w) a w):(Code.scope c).wpIn F n P Q a w:=by
 intro b k cs hro hb hr
 have h0:(lone (b.atR a (.code (.scope c) :: k)) cs w).fenced P F:=fenced_calm hb hr rfl
 obtain ⟨e,a₁,w₁,hq,a8g⟩:=h b (.inScope c :: k) cs hro hb hr
 cases e with
 | normal=>exact ⟨.normal,a₁,w₁,hq,.head h0 qW (StepsIn.trans a8g (.one (fenced_calm hb hr rfl) WJ))⟩
 | exit id =>
  have hx:exitTo id (.inScope c :: k)=exitTo id k:=by simp [exitTo]
  exact ⟨.exit id,a₁,w₁,hq,λk' hk=>.head h0 qW (a8g.1 k' (by rw [hx];exact hk)),
   λhr' hk=>let ⟨k₁,h1,h2⟩:=a8g.2 hr' (by rw [hx];exact hk);⟨k₁,h1,.head h0 qW h2⟩⟩
 | goto l=>exact hq.elim
 | ret=>exact ⟨_,a₁,w₁,hq,.of_steps (.one h0 qW) a8g⟩
 | panic ch=>exact ⟨_,a₁,w₁,hq,.of_steps (.one h0 qW) a8g⟩
 | outgrown=>exact ⟨_,a₁,w₁,hq,.of_steps (.one h0 qW) a8g⟩
end
section
variable {P:Program} {rd:Option Nat} {ops:Array Oper} {Q:Exit->Act->World->Prop}
theorem a6E {o:Oper} {a:Act} {w:World} {K K':Act->World->Prop} (hd:rd.isSome=true->JP o=true) (hQ:¬ LetsOut Q) (hK:∀ a w,K a w->K' a w) (h:o.wp P a w K Q):o.wpIn (kG rd) 0 P a w K' Q:=by
 refine ⟨λ_ _=>trivial,?_⟩
 have e:o.semAt rd a.eval=execOp a.eval o:=by
  cases rd with
  | none=>rfl
  | some l=>exact Oper.semAt_eq _ _ _ λc hc=>(by have:=hd rfl;rw [JP,hc] at this;cases this)
 unfold Oper.wp at h
 show o.uponIn (kG rd) 0 P a K' Q ((o.semAt rd a.eval).run P w)
 rw [e]
 generalize (execOp a.eval o).run P w=r at h
 cases r with
 | ok n w' =>
  cases n<;>simp only [Oper.upon,Oper.uponIn] at h ⊢
  case value v=>exact hK _ _ h
  case skip=>exact hK _ _ h
  case defer d=>exact hK _ _ h
  case enter f args => 
   refine ⟨λhh=>(by cases hh),?_⟩
   have:=(callsIn_wide (n:=0)).2 h
   exact CallsIn.mono (F:=kG rd) this λe w'' he=>by cases e<;>first|exact hK _ _ he|exact he
  case row row args =>
   refine ⟨λhh=>(by cases hh),λc cs hr=>?_⟩
   obtain ⟨v,w'',h1,h2⟩:=h c cs
   exact ⟨v,w'',hK _ _ h1,stepsIn_wide.2 h2⟩
 | halt x w'=>cases x<;>simp only [Oper.upon,Oper.uponIn] at h ⊢ <;> exact h
theorem a6F (hQ:¬ LetsOut Q):∀ (l:List Oper) (a:Act) (w:World),(rd.isSome=true->∀ o∈l,JP o=true)->wpList P ops Q l a w->wpListIn (kG rd) 0 P ops Q l a w
 | [],a,w,_,h=>h
 | o :: r,a,w,hd,h=>by
  have ih:=a6F hQ r
  unfold wpList at h
  unfold wpListIn
  split
  ·rename_i hw
   rw [if_pos hw] at h
   rcases h with h|h
   ·exact a6E (λhh=>hd hh o (by simp)) hQ (λa w h=>ih a w (λhh o ho=>hd hh o (List.mem_cons_of_mem _ ho)) h) h
   ·exact absurd h.2 hQ
  ·rename_i hw
   rw [if_neg hw] at h
   exact ⟨λ_ _=>trivial,ih _ _ (λhh o ho=>hd hh o (List.mem_cons_of_mem _ ho)) h⟩
theorem aNR (hQ:¬ LetsOut Q) (hd:rd.isSome=true->∀ o∈ops.toList,JP o=true) {i:Nat} {a:Act} {w:World} {K K':Act->World->Prop} (hK:∀ a w,K a w->K' a w) (h:wpOp P ops Q i K a w):wpOpIn (kG rd) 0 P ops Q i K' a w:=by
 unfold wpOp at h
 unfold wpOpIn
 cases ho:ops[i]? with
 | none=>rw [ho] at h;exact hK _ _ h
 | some o =>
  rw [ho] at h
  simp only at h ⊢
  split
  ·rename_i hw
   rw [if_pos hw] at h
   rcases h with h|h
   ·exact a6E (λhh=>hd hh o (by simpa using Array.mem_of_getElem? ho)) hQ hK h
   ·exact absurd h.2 hQ
  ·rename_i hw
   rw [if_neg hw] at h
   exact ⟨λ_ _=>trivial,hK _ _ h⟩
theorem aAP {md:Region.Mode} (hQ:¬ LetsOut Q) (hd:rd.isSome=true->∀ o∈ops.toList,JP o=true):∀ (n:Nat) (listed:Array Bool) (a:Act) (w:World),wpAny P md ops Q n listed a w->wpAnyIn (kG rd) 0 P md ops Q n listed a w
 | 0,_,_,_,h=>h
 | n+1,listed,a,w,h=>⟨h.1,λi hi=>aNR hQ hd (λa w h=>aAP hQ hd n _ a w h) (h.2 i hi)⟩
theorem a2b {id:Nat} {a:Act} {w:World} (hd:rd.isSome=true->tT ops.toList=true) (h:wpList P ops (PR Q) ops.toList a w):(Code.region id ops false).wpIn (kG rd) 0 P Q a w :=
 wpIn_mono (wpIn_region_list (a6F a4G _ _ _ (λhh=>xT (hd hh)) h)) XZ
theorem a6G {id:Nat} {a:Act} {w:World} (hd:rd.isSome=true->tT ops.toList=true) (hm:P.follows .mixedOrders=true) (h:wpAny P .any ops (fR (PR Q)) ops.size (Array.replicate ops.size false) a (w.drewN 1)) :
  (Code.region id ops true).wpIn (kG rd) 0 P Q a w :=
 wpIn_mono (wpIn_region_any hm (aAP (λ⟨_,_,h⟩=>h) (λhh=>xT (hd hh)) _ _ _ _ h)) λe a w h=>XZ _ _ _ (a73 _ _ _ h)
theorem a8h {id:Nat} {a:Act} {w:World} (hd:rd.isSome=true->tT ops.toList=true) (hm:P.follows .mixedOrders=true) (hB:Region.lexB .any ops=true)
  (h:wpQuiet P ops (λw'=>∃ n,w'=w.drewN n) (λa'=>∀ w',(∃ n,w'=w.drewN n)->Q .normal a' w') ops.toList a):(Code.region id ops true).wpIn (kG rd) 0 P Q a w:=by
 refine a6G hd hm ?_
 simp only [Region.lexB,Bool.and_eq_true] at hB
 refine wpAny_of_quiet (C:=λw'=>∃ n,w'=w.drewN n) (Q':=fR (PR Q)) (Q:=λa'=>∀ w',(∃ n,w'=w.drewN n)->Q .normal a' w') (λ_ w' hw' h=>h w' hw') _ _ _ _ ⟨1,rfl⟩ ?_
 have:=wpAnyQ_lex (C:=λw'=>∃ n,w'=w.drewN n) (md:=.any) hB.1 ops.toList 0 (Array.replicate ops.size false) a (by simp) (by simpa using hB.2) h
 simpa using this
end
def mark (D:Nat):Deferred:={ target:=.collected D,args:=#[] }
def DJ (D:Nat):Own:=.obj D (.deferred (some []))
def Tie (rd:Option Nat) (ds:List Deferred) (G:List Own) (ds':List Deferred) (G':List Own):Prop :=
 ∃ Z:List Nat,(rd.isSome=true->Z=[])/\ds'=Z.map mark++ds/\G'=Z.map DJ++G
theorem Tie.refl (rd:Option Nat) (ds:List Deferred) (G:List Own):Tie rd ds G ds G:=⟨[],λ_=>rfl,rfl,rfl⟩
theorem Tie.trans {rd:Option Nat} {ds ds1 ds2:List Deferred} {G G1 G2:List Own} (h:Tie rd ds G ds1 G1) (k:Tie rd ds1 G1 ds2 G2):Tie rd ds G ds2 G2:=by
 obtain ⟨Z,h1,rfl,rfl⟩:=h
 obtain ⟨Y,k1,rfl,rfl⟩:=k
 exact ⟨Y++Z,λhh=>by rw [h1 hh,k1 hh];rfl,by simp,by simp⟩
theorem M4 {P:Program} {fn:Func} {tmps:Array Value} {Rr:Ending->World->Prop} {W:World} {Φ:PW} [aA Φ]:∀ (Z:List Nat) (S:List Own) (w:World),Ctx W w (S++Z.map DJ) Φ ->
  (∀ w' S',Ctx W w' (S++S') Φ->LeavesIn Fence.wide 0 P fn tmps Rr [] .returning w')->LeavesInM Fence.wide 0 P fn tmps Rr (Z.map mark) .returning w
 | [],S,w,c,h=>h w [] c
 | D :: Z,S,w,c,h=>by
  refine ⟨by simp,.inl ⟨D,CJ w D (.deferred none),rfl,run_takeDeferred (c.own (DJ D) (by simp)),?_⟩⟩
  have hk:(S++(D :: Z).map DJ)[S.length]? = some (.obj D (.deferred (some []))):=by
   rw [List.getElem?_append_right (Nat.le_refl _)];simp [DJ]
  have c2:=c.putObj S.length (.deferred none) hk
  have e:(S++(D :: Z).map DJ).set S.length (.obj D (.deferred none))=(S++[Own.obj D (.deferred none)])++Z.map DJ:=by
   rw [List.set_append_right _ _ (Nat.le_refl _)];simp
  rw [e] at c2
  exact M4 Z _ _ c2 λw' S' c'=>h w' (Own.obj D (.deferred none) :: S') (by simpa using c')
def Iter (P:Program) (gf:Nat) (lb:Array Value) (N:Nat) (xs:Nat->Array Value) (X:World->Prop):Prop :=
 ∀ (l:Nat) (J:Nat->World->Prop) (W:World),(∀ k W1,J k W1->X W1) ->
  (∀ k W1,J k W1->k<N->YieldAt Fence.wide 0 P l (xs k) W1 λe W'=>e=.returned (.bool true)/\J (k+1) W')->J 0 W ->
  CallsIn Fence.wide 0 P gf (#[.func (.yield l) #[] #[]]++lb) W λe W'=>(∃ v,e=.returned v)/\J N W'
theorem aAQ {P:Program} {W:World} {g:Operand} {ps:Array Tmp} {assign body:Code} {Q:Exit->Act->World->Prop} {a:Act} {w:World} {gf:Nat} {lb:Array Value} {N:Nat} {xs:Nat->Array Value} {X:World->Prop} {G:List Own}
  (hg:a.eval g=.func (.func gf) #[] lb) (eg:∀ args w,(callFunc gf args).run P w=.ok (.enter gf args) w) (hit:Iter P gf lb N xs X) (hps:∀ k,k<N->(xs k).size=ps.size)
  (Inv:Nat->List Own->World->Prop) (aFq:∀ k Gx w1,Inv k Gx w1->∃ S Φ,aA Φ/\Ctx W w1 (S++Gx) Φ/\∀ w2 Gy,Ctx W w2 (S++Gy) Φ->Inv k Gy w2) (hX:∀ k Gx w1,Inv k Gx w1->X w1) (h0:Inv 0 G w)
  (aJP:∀ l k Gx w1,k<N->Inv k Gx w1->assign.wpIn (kG (some l)) 0 P (Exit.then (λa1 w2=>∃ S Φ,aA Φ/\Ctx W w2 (S++Gx) Φ/\∀ w3 Gx3,Ctx W w3 (S++Gx3) Φ->body.wpIn (kG (some l)) 0 P (λe _ w4=>e=.normal/\Inv (k+1) Gx3 w4) a1 w3) (λ_ _ _=>False))
   { tmps:=(ps.zip (xs k)).foldl (λt (p,v)=>t.setIfInBounds p v) a.tmps,defers:=[] } w1)
  (aNS:∀ D w',Inv N (DJ D :: G) w'->Q .normal { a with defers:=mark D :: a.defers } w') :
  (Code.rangeFunc g ps assign body).wpIn (kG none) 0 P Q a w:=by
 refine wpIn_rangeFunc ?_
 intro fn hfn
 show ∃ l mark w₁ d w₁' f args w₂,(Instr.enterLoop fn a.tmps ps assign body none).run P w=_/\_
 obtain ⟨rec,a0D⟩:∃ rec:LoopState->Option Code->Loop,rec=λst pe=>{ state:=st,pending:=pe,fn,tmps:=a.tmps,params:=ps,assign,body,defers:=w.heap.size }:=⟨_,rfl⟩
 obtain ⟨W1,hW1⟩:∃ W1,(w.alloc (.deferred (some []))).alloc (.loop (rec .ready none))=W1:=⟨_,rfl⟩
 obtain ⟨l,hl⟩:∃ l,w.heap.size+1=l:=⟨_,rfl⟩
 have rl:∀ st:LoopState,Own.obj l (.loop (rec st none))=Own.obj l (.loop (rec st none)):=λ_=>rfl
 let gh:=λ(st:LoopState)=>Own.obj l (.loop (rec st none)) :: DJ w.heap.size :: G
 have turn:∀ {k:Nat} {st st':LoopState} {S:List Own} {Φ:PW} {w1:World},aA Φ->Ctx W w1 (S++gh st) Φ->Ctx W (w1.putObj l (.loop (rec st' none))) (S++gh st') Φ:=by
  intro k st st' S Φ w1 hs c
  have hk:(S++gh st)[S.length]? = some (.obj l (.loop (rec st none))):=by rw [List.getElem?_append_right (Nat.le_refl _)];simp [gh]
  have c2:=c.putObj S.length (.loop (rec st' none)) hk
  have e:(S++gh st).set S.length (.obj l (.loop (rec st' none)))=S++gh st':=by rw [List.set_append_right _ _ (Nat.le_refl _)];simp [gh]
  rw [e] at c2
  exact c2
 have start:Inv 0 (gh .ready) W1:=by
  obtain ⟨S,Φ,hs,c,hn⟩:=aFq 0 G w h0
  refine hn _ _ ?_
  have c1:=c.newObj (o:=.deferred (some [])) rfl
  have c2:=c1.newObj (o:=.loop (rec .ready none)) rfl
  rw [hW1,World.size_alloc,hl] at c2
  refine c2.perm ?_
  simp only [gh,DJ]
  exact (List.Perm.cons _ List.perm_middle.symm).trans List.perm_middle.symm
 have aJQ:∀ {k:Nat} {st:LoopState} {w1:World},Inv k (gh st) w1->w1.heap[l]? = some (.loop (rec st none)):=by
  intro k st w1 hi
  obtain ⟨S,Φ,hs,c,_⟩:=aFq _ _ _ hi
  exact c.own (.obj l (.loop (rec st none))) (by simp [gh])
 refine ⟨l,[mark w.heap.size],W1,{ target:=.fn (.func gf) lb,args:=#[.func (.yield l) #[] #[]] },W1,gf,#[.func (.yield l) #[] #[]]++lb,W1,?_,?_,λ_ _=>trivial,?_,λh=>(by cases h),?_⟩
 ·rw [<-hW1,a0D,<-hl];exact run_enterLoop_outer _ _ _ _ _
 ·simp only [resolve,hg]
  simp [go_sem]
 ·simp [invoke,go_sem,eg]
 ·refine CallsIn.mono (F:=kG none) (hit l (λk W'=>Inv k (gh .ready) W') W1 (λk W2 h=>hX k _ W2 h) ?_ start) ?_
  ·intro k W2 hi hk
   have hlr:=aJQ hi
   have hy:=run_yield (P:=P) (args:=xs k) hlr (by rw [a0D];exact hps k hk)
   rw [a0D] at hy
   refine ⟨fn,_,assign,body,hy,roundIn_of_wpIn trivial ?_⟩
   refine wpIn_mono (aJP l k (gh .ready) W2 hk hi) ?_
   rintro e a1 w2 h
   cases e with
   | normal =>
    obtain ⟨S,Φ,hs,c,hb⟩:=h
    have h2:w2.heap[l]? = some (.loop (rec .ready none)):=c.own (.obj l (.loop (rec .ready none))) (by simp [gh])
    refine ⟨_,run_beginRound h2 (by rw [a0D]),?_⟩
    have c3:Ctx W (w2.putObj l (.loop { rec .ready none with state:=.busy })) (S++gh .busy) Φ:=by
     have:=turn (k:=k) (st':=.busy) hs c
     rw [a0D] at this ⊢
     exact this
    refine wpIn_mono (hb _ _ c3) ?_
    rintro e a4 w4 ⟨rfl,h4⟩
    have h5:=aJQ h4
    refine ⟨_,_,run_endRound none h5,rfl,?_⟩
    obtain ⟨S,Φ,hs,c,hn⟩:=aFq _ _ _ h4
    have:=turn (k:=k) (st':=.ready) hs c
    refine hn _ _ ?_
    rw [a0D] at this ⊢
    exact this
   | _=>exact h.elim
  ·rintro e W3 ⟨⟨v,rfl⟩,hi⟩
   have h5:=aJQ hi
   have hend:=run_endLoop (P:=P) h5 (by rw [a0D];simp)
   rw [a0D] at hend
   refine ⟨none,_,hend,?_⟩
   refine aNS _ _ ?_
   obtain ⟨S,Φ,hs,c,hn⟩:=aFq _ _ _ hi
   have:=turn (k:=N) (st':=.exhausted) hs c
   refine hn _ _ ?_
   have h7:=this.sub (S':=S++(DJ w.heap.size :: G)) (List.Sublist.append (List.Sublist.refl _) (List.sublist_cons_self _ _))
   rw [a0D] at h7
   exact h7
end Go.Vc
end

