/-
 .. it suffices: regions,code,functions.
-/
import Derived.Test.YtnlkemjhgdbfkaaGreatDoorCu2
import Derived.RangeFuncRecord
import Derived.RangeFuncSeq
import Derived.OrdersIn
import Derived.TacticsIn

set_option linter.unusedVariables false
set_option linter.unusedSimpArgs false
section
namespace Go.Vc
variable {G:List Own}
variable {ds:List Deferred}
open Go.RowKit
structure At(ds:List Deferred)(G:List Own)(W:World)(s:fO)(L:List Tr)(R:List Own)(Φ:PW)(a:Act)(w:World):Prop where
 BH:vC ds (s.fr L) a
 wf:M6 L s
 ids:(L.map Tr.id).Nodup
 ctx:jH G W w L R Φ
 st:aB Φ
theorem At.put{W s L L' R R' Φ aX a w w'}(h:At ds G W s L R Φ a w){sv v}(d)(he:Ext L L')(hp:∀ k o,sv=SV.ptr k o->(bU k L').isSome=true)(hc:jH G W w' L' R' aX)(hst:aB aX)(hv:vZ (sv.val L')=false->v=sv.val L'):At ds G W (s.put d sv) L' R' aX (a.put d v) w' :=
 ⟨by rw [XF,h.wf.fr he];exact h.BH.put d hv,(h.wf.ext he).put hp,he.ids h.ids,hc,hst⟩
theorem bY.xK{D s0 s L L' sv}{d:Option Tmp}(h:bY D s0 (s.fr L))(hwf:M6 L s)(he:Ext L L')(hd:∀ t,d=some t->D t):bY D s0 ((s.put d sv).fr L'):=by
 rw [XF,hwf.fr he];exact h.put hd _
def cellsOf:gX->List Tr->List Value
 | [],_=>[]
 | (k,_) :: r,L=>(match bU k L with|some T=>.agg T.cs.toArray|none=>unk) :: cellsOf r L
def LB(k:Nat):gX->List Value->Option (List Value)
 | (j,_) :: r,v :: vs=>match Nat.beq j k with
  | true=>some v.cells.toList
  | false=>LB k r vs
 | _,_=>none
def j8(ts:gX)(us:List Value):List Tr->List Tr
 | []=>[]
 | T :: r=>(match LB T.id ts us with
  | some cs=>⟨T.id,T.b,Nat.succ T.ver,cs,T.t⟩
  | none=>T) :: j8 ts us r
def xL(ts:gX)(L':List Tr):List Tr->Bool
 | []=>true
 | T :: r=>match dN T.id (ts.map (·.1)) with
  | true=>xL ts L' r
  | false=>match bU T.id L' with
   | some T'=>match Nat.beq T'.ver T.ver with|true=>xL ts L' r|false=>false
   | none=>false
theorem M9{ts us k T}:∀ {L:List Tr},bU k L=some T->∃ T',bU k (j8 ts us L)=some T'/\T'.b=T.b/\T'.t=T.t/\T.ver<=T'.ver/\(T'.ver=T.ver->T'.cs=T.cs)/\(LB k ts us=none->T'.cs=T.cs)/\(∀ cs,LB k ts us=some cs->T'.cs=cs)
 | [],h=>by cases h
 | U :: r,h=>by
  unfold bU at h;simp only [j8];cases hb:Nat.beq U.id k with
  | true =>
   rw [hb] at h;cases h;have hid:=Nat.eq_of_beq_eq_true hb;unfold bU;cases hp:LB T.id ts us with
   | some cs =>
    simp only [hb];rw [hid] at hp;exact ⟨_,rfl,rfl,rfl,Nat.le_succ _,λe=>absurd e (Nat.succ_ne_self _),λe=>(by rw [hp] at e;cases e),λcs' e=>by rw [hp] at e;cases e;rfl⟩
   | none =>
    simp only [hb];rw [hid] at hp;exact ⟨_,rfl,rfl,rfl,Nat.le_refl _,λ_=>rfl,λ_=>rfl,λcs' e=>by rw [hp] at e;cases e⟩
  | false =>
   rw [hb] at h;have ih:=M9 (ts:=ts) (us:=us) h;unfold bU;cases hp:LB U.id ts us with
   | some cs=>simp only [hb];exact ih
   | none=>simp only [hb];exact ih
theorem sX(ts us):∀ L:List Tr,(j8 ts us L).map Tr.b=L.map Tr.b/\(j8 ts us L).map Tr.id=L.map Tr.id
 | []=>⟨rfl,rfl⟩
 | T :: r=>by
  have ih:=sX ts us r;simp only [j8,List.map_cons,ih];cases LB T.id ts us<;>exact ⟨rfl,rfl⟩
theorem S1(ts us L):Ext L (j8 ts us L) :=
 ⟨λk T h=>by obtain ⟨T',a,b,c,d,e,_⟩:=M9 (ts:=ts) (us:=us) h;exact ⟨T',a,b,c,d,e⟩,by rw [(sX ts us L).1];exact List.Sublist.refl _,by rw [(sX ts us L).2];exact id⟩
theorem aA0(L:List Tr):dom (L.map Tr.own)=L.map Tr.b:=by
 induction L with
 | nil=>rfl
 | cons T r ih=>simp only [List.map_cons,dom,List.flatMap_cons] at ih ⊢;rw [ih];rfl
theorem wG(A B):dom (A++B)=dom A++dom B:=by simp [dom]
theorem U4{k:Nat}{L':List Tr}:∀ {ts:gX},LB k ts (cellsOf ts L')=if dN k (ts.map (·.1))=true then some (match bU k L' with|some T=>T.cs|none=>unk.cells.toList) else none
 | []=>rfl
 | (j,sh) :: r=>by
  simp only [cellsOf,LB,List.map_cons,dN];rw [show Nat.beq k j=Nat.beq j k by rw [Bool.eq_iff_iff,Nat.beq_eq,Nat.beq_eq];exact eq_comm];cases hb:Nat.beq j k with
  | true =>
   have:=Nat.eq_of_beq_eq_true hb;subst this;simp only [if_true];cases bU j L'<;>simp [Value.cells]
  | false=>exact U4
theorem JF{L}(hn:(L.map Tr.id).Nodup):∀ {T:Tr},T∈L->bU T.id L=some T:=by
 induction L with
 | nil=>intro T h;cases h
 | cons U r ih =>
  intro T h;simp only [List.map_cons,List.nodup_cons] at hn;unfold bU;rcases List.mem_cons.1 h with rfl|h
  .rw [show Nat.beq T.id T.id=true by simp]
  .rw [show Nat.beq U.id T.id=false by
    cases hb:Nat.beq U.id T.id with
    | false=>rfl
    | true=>exact absurd (List.mem_map.2 ⟨T,h,(Nat.eq_of_beq_eq_true hb).symm⟩) hn.1]
   exact ih hn.2 h
theorem jH.meet{W w L L' R}{Φ:PW}{ts}(hst:aB Φ)(c:jH G W w L' R Φ)(he:Ext L L')(aCq:(L.map Tr.id).Nodup)(hs:xL ts L' L=true):jH G W w (j8 ts (cellsOf ts L') L) R Φ:=by
 have hd':dom (R++(L'.map Tr.own++G))=dom R++(L'.map Tr.b++dom G):=by rw [wG,wG,aA0]
 have hd:dom (R++((j8 ts (cellsOf ts L') L).map Tr.own++G))=dom R++(L.map Tr.b++dom G):=by rw [wG,wG,aA0,(sX ts _ L).1]
 have hsub:(dom R++(L.map Tr.b++dom G)).Sublist (dom R++(L'.map Tr.b++dom G)):=List.Sublist.append (List.Sublist.refl _) (List.Sublist.append he.bs (List.Sublist.refl _));have same:∀ T∈L,dN T.id (ts.map (·.1))=false->∃ T',bU T.id L'=some T'/\T'.ver=T.ver:=by
  clear hd hd' hsub he aCq c
  induction L with
  | nil=>intro T h;cases h
  | cons U r ih =>
   intro T hT hm;unfold xL at hs;cases hmU:dN U.id (ts.map (·.1)) with
   | true =>
    rw [hmU] at hs;rcases List.mem_cons.1 hT with rfl|hT
    .rw [hm] at hmU;cases hmU
    .exact ih hs T hT hm
   | false =>
    rw [hmU] at hs;simp only at hs;split at hs
    .rename_i T' hf;split at hs
     .rename_i hv;rcases List.mem_cons.1 hT with rfl|hT
      .exact ⟨T',hf,Nat.eq_of_beq_eq_true hv⟩
      .exact ih hs T hT hm
     .cases hs
    .cases hs
 refine Ctx.go c ⟨kT.refl _ _,λb hb=>.inl (by rw [hd] at hb;rw [hd'];exact hsub.subset hb)⟩ (λo ho=>?_) (by rw [hd];have:=c.nodup;rw [hd'] at this;exact this.sublist hsub);rcases List.mem_append.1 ho with ho|ho
 .exact c.own o (List.mem_append.2 (.inl ho))
 rcases List.mem_append.1 ho with ho|ho
 rotate_left
 .exact c.own o (List.mem_append.2 (.inr (List.mem_append.2 (.inr ho))))
 .obtain ⟨V,hV,rfl⟩:=List.mem_map.1 ho;have aYB:((j8 ts (cellsOf ts L') L).map Tr.id).Nodup:=by rw [(sX ts _ L).2];exact aCq
  have hf:=JF aYB hV;have hex:V.id∈L.map Tr.id:=by rw [<-(sX ts (cellsOf ts L') L).2];exact List.mem_map.2 ⟨V,hV,rfl⟩
  obtain ⟨T,hT,aNV⟩:=List.mem_map.1 hex;have hfT:=JF aCq hT;rw [aNV] at hfT;obtain ⟨V',g1,g2,g3,_,_,g6,g7⟩:=M9 (ts:=ts) (us:=cellsOf ts L') hfT;rw [hf] at g1;cases g1;obtain ⟨T1,k1,k2,k3,k4,k5⟩:=he.old V.id T hfT;have hb:=c.blk k1;have hcs:V.cs=T1.cs:=by
   rw [U4] at g6 g7;cases hm:dN V.id (ts.map (·.1)) with
   | true =>
    rw [if_pos hm,k1] at g7;exact g7 _ rfl
   | false =>
    rw [if_neg (by rw [hm];simp)] at g6;rw [g6 rfl];obtain ⟨T2,q1,q2⟩:=same T hT (by rw [aNV];exact hm);rw [aNV,k1] at q1;cases q1;exact (k5 q2).symm
  show vT w V.b V.cs V.t;rw [g2,<-k2,g3,<-k3,hcs];exact hb
theorem S3:∀ L:List Tr,j8 [] [] L=L
 | []=>rfl
 | T :: r=>by simp only [j8,LB,S3 r]
def a8t(s:Fr)(d:Option Tmp):Bool :=
 match d with
 | some d=>(match sS d s.l with | .tuple vs=>(match vs.toList with | []=>Nat.blt d s.n|_=>false)|_=>false)
 | none=>false
theorem a5C{s a}(h:vC ds s a){d}(hc:a8t s d=true):∃ k,d=some k/\k<a.tmps.size/\a.tmps.getD k undef=.tuple #[]:=by
 unfold a8t at hc;split at hc
 .rename_i k;split at hc
  .rename_i vs hv;split at hc
   .rename_i hvs;have hlt:k<s.n:=by simpa using hc
    have e:vs=#[]:=by cases vs;simp_all
    subst e;have hg:s.get k=.tuple #[]:=hv;exact ⟨k,rfl,by rw [h.size];exact hlt,by rw [h.slot k (by rw [hg];rfl),hg]⟩
   .cases hc
  .cases hc
 .cases hc
def rC(ops:Array Oper)(o:Oper)(s:fO)(L:List Tr)(go skip:fO->Prop):Prop :=
 match o.guard with
 | none=>go s
 | some (j,want) =>
  match X1 (s.fr L) ((ops[j]?).bind (·.dst)) with
  | some c=>Br c (match true == want with
    | true=>go (s.put ((ops[j]?).bind (·.dst)) (.v (.bool true)))
    | false=>skip (s.put ((ops[j]?).bind (·.dst)) (.v (.bool true))))
   (match false == want with
    | true=>go (s.put ((ops[j]?).bind (·.dst)) (.v (.bool false)))
    | false=>skip (s.put ((ops[j]?).bind (·.dst)) (.v (.bool false))))
  | none=>match a8t (s.fr L) ((ops[j]?).bind (·.dst)) with
   | true=>skip s
   | false=>False
theorem fB{W ops o s L R Φ a w go skip D s0}(hD:∀ (j:Nat) (o:Oper) (t:Nat),ops[j]? = some o->o.dst=some t->D t)(h:rC ops o s L go skip)(ha:At ds G W s L R Φ a w)(hu:bY D s0 (s.fr L)):
  ∃ s',At ds G W s' L R Φ a w/\bY D s0 (s'.fr L)/\((Region.wanted o (yielded ops a.tmps)=true/\go s')\/(Region.wanted o (yielded ops a.tmps)=false/\skip s')):=by
 unfold rC at h;split at h
 .rename_i hg;exact ⟨s,ha,hu,.inl ⟨by simp [Region.wanted,hg],h⟩⟩
 .rename_i j want hg;split at h
  .rename_i c hc;obtain ⟨k,hk,hlt,hv,hsv⟩:=FN ha.BH hc;have hy:yielded ops a.tmps j=some c:=by
    unfold yielded;rw [hk];simp only [Option.bind_some];rw [Array.getD_eq_getD_getElem?] at hv;simp only [hlt,getElem?_pos,Option.getD_some] at hv;simp [hlt,hv]
   have hw:Region.wanted o (yielded ops a.tmps)=(c == want):=by simp [Region.wanted,hg,hy]
   have cN:At ds G W (s.put ((ops[j]?).bind (·.dst)) (.v (.bool c))) L R Φ a w:=by
    have:=ha.put ((ops[j]?).bind (·.dst)) (sv:=.v (.bool c)) (v:=.bool c) (Ext.refl L) (λk o e=>by cases e) ha.ctx ha.st (λ_=>rfl);rw [hk] at this ⊢
    rwa [X3 hlt hv] at this
   have eI:bY D s0 ((s.put ((ops[j]?).bind (·.dst)) (.v (.bool c))).fr L):=hu.xK ha.wf (Ext.refl L) (by
    intro t ht;cases hj:ops[j]? with
    | none=>simp [hj] at ht
    | some oj=>rw [hj] at ht;exact hD j oj t hj ht)
   refine ⟨_,cN,eI,?_⟩;rw [hw];cases c
   .simp only [Br] at h;cases hcw:false == want with
    | true=>rw [hcw] at h;exact .inl ⟨rfl,h⟩
    | false=>rw [hcw] at h;exact .inr ⟨rfl,h⟩
   .simp only [Br] at h;cases hcw:true == want with
    | true=>rw [hcw] at h;exact .inl ⟨rfl,h⟩
    | false=>rw [hcw] at h;exact .inr ⟨rfl,h⟩
  .split at h
   .rename_i hl;obtain ⟨k,hk,hlt,hv⟩:=a5C ha.BH hl;have hy:yielded ops a.tmps j=none:=by
     unfold yielded;rw [hk];simp only [Option.bind_some];rw [Array.getD_eq_getD_getElem?] at hv;simp only [hlt,getElem?_pos,Option.getD_some] at hv;simp [hlt,hv]
    exact ⟨s,ha,hu,.inr ⟨by simp [Region.wanted,hg,hy],h⟩⟩
   .exact h.elim
section
variable (P:Program)(W:World)
def aFu(wr B7:Nat->Bool)(ops:Array Oper):List Oper->fO->List Tr->List Own->PW->(fO->List Tr->List Own->PW->Prop)->Prop
 | [],s,L,R,Φ,K=>K s L R Φ
 | o :: rest,s,L,R,Φ,K=>rC ops o s L
   (λs=>opS P W (wr (o.dst.getD 0)) (B7 (o.dst.getD 0)) (λi=>gW o.dst i ops.toList) o s L R Φ λv L R Φ=>aFu wr B7 ops rest (s.put o.dst v) L R Φ K)
   (λs=>aFu wr B7 ops rest (s.put o.dst (.v undef)) L R Φ K)
def rdS(wr:Bool)(o:Oper)(s:fO)(L:List Tr)(R:List Own)(Φ:PW)(K:SV->Prop):Prop :=
 match o.op with
 | .pick c x y=>match s.val L c with
  | .bool b=>Br b (K (s.ev x)) (K (s.ev y))
  | _=>False
 | _=>match TV (s.fr L) o&&xG o with
  | true=>OH (cZ P W wr o s L R Φ K)
  | false=>False
def a5D(wr:Nat->Bool)(ops:Array Oper)(L:List Tr)(R:List Own)(Φ:PW):List Nat->fO->(fO->Prop)->Prop
 | [],s,K=>K s
 | i :: r,s,K=>match ops[i]? with
  | none=>False
  | some o=>rC ops o s L (λs=>rdS P W (wr (o.dst.getD 0)) o s L R Φ λv=>a5D wr ops L R Φ r (s.put o.dst v) K) (λs=>a5D wr ops L R Φ r (s.put o.dst (.v undef)) K)
def OI(o:Oper)(s:fO)(L:List Tr)(K:SV->Prop):Bool :=
 match o.op with
 | .load _ x=>match s.ev x with | .ptr _ _=>false | .v _=>true
 | .move _ | .assign _ | .nilCheck _ | .fieldAddr .. | .indexAddr .. => false
 | _=>iJ P o (s.val L) λv=>K (.v v)
def hrS(wr:Bool)(o:Oper)(s:fO)(L:List Tr)(Q0:List Own)(cJ:PW)(K:SV->Prop):Prop :=
 match o.op with
 | .pick c x y=>match s.val L c with
  | .bool b=>Br b (K (s.ev x)) (K (s.ev y))
  | _=>False
 | _=>match TV (s.fr L) o&&xG o with
  | true=>match OI P o s L K with
   | true=>WW P o.type λv=>(∀ w S,Ctx W w (Q0++S) cJ->OH (iZ P wr o (s.val L) w none λu=>u=v))/\K (.v v)
   | false=>OH (cZ P W wr o s L [] cJ K)
  | false=>False
def hS(wr:Nat->Bool)(ops:Array Oper)(L:List Tr)(Q0:List Own)(cJ:PW):List (Nat × Bool)->fO->List Own->PW->(fO->List Own->PW->Prop)->Prop
 | [],s,R,Φ,K=>K s R Φ
 | (i,still) :: r,s,R,Φ,K=>match ops[i]? with
  | none=>False
  | some o=>rC ops o s L
    (λs=>match still with
     | true=>hrS P W (wr (o.dst.getD 0)) o s L Q0 cJ λv=>hS wr ops L Q0 cJ r (s.put o.dst v) R Φ K
     | false=>opS P W (wr (o.dst.getD 0)) false (λi=>gW o.dst i ops.toList) o s L R Φ λv L' R' aX=>match v,xL [] L' L with
      | .v x,true=>(∀ w F,Ctx W w (R'++F) aX->Ctx W w (Q0++F) cJ)/\hS wr ops L Q0 cJ r (s.put o.dst (.v x)) R' aX K
      | _,_=>False)
    (λs=>hS wr ops L Q0 cJ r (s.put o.dst (.v undef)) R Φ K)
def prS(wr:Bool)(o:Oper)(s:fO)(L:List Tr)(Q0:List Own)(cJ:PW)(K:SV->Prop):Prop :=
 match o.op with
 | .pick c x y=>match s.val L c with
  | .bool b=>Br b (K (s.ev x)) (K (s.ev y))
  | _=>False
 | .load _ x=>match s.ev x with
  | .ptr _ _=>False
  | .v _=>match TV (s.fr L) o&&xG o with
   | true=>WW P o.type λv=>(∀ w S,Ctx W w (Q0++S) cJ->OH (iZ P wr o (s.val L) w none λu=>u=v))/\K (.v v)
   | false=>False
 | _=>match TV (s.fr L) o&&xG o with
  | true=>match OI P o s L K with
   | true=>False
   | false=>OH (cZ P W wr o s L [] (λ_ _=>True) K)
  | false=>False
def fS(wr B7:Nat->Bool)(ops:Array Oper)(Q0:List Own)(cJ:PW):List (Nat × Bool)->fO->List Tr->List Own->PW->(fO->List Tr->List Own->PW->Prop)->Prop
 | [],s,L,R,Φ,K=>K s L R Φ
 | (i,still) :: r,s,L,R,Φ,K=>match ops[i]? with
  | none=>False
  | some o=>rC ops o s L
    (λs=>match still with
     | true=>prS P W (wr (o.dst.getD 0)) o s L Q0 cJ λv=>fS wr B7 ops Q0 cJ r (s.put o.dst v) L R Φ K
     | false=>opS P W (wr (o.dst.getD 0)) (B7 (o.dst.getD 0)) (λi=>gW o.dst i ops.toList) o s L R Φ λv L R Φ=>(∀ w F,Ctx W w (R++F) Φ->Ctx W w (Q0++F) cJ)/\fS wr B7 ops Q0 cJ r (s.put o.dst v) L R Φ K)
    (λs=>fS wr B7 ops Q0 cJ r (s.put o.dst (.v undef)) L R Φ K)
def ltS(wr:Nat->Bool)(ops:Array Oper)(L:List Tr)(Q0:List Own)(cJ:PW):List Nat->fO->(fO->Prop)->Prop
 | [],s,K=>K s
 | i :: r,s,K=>match ops[i]? with
  | none=>False
  | some o=>rC ops o s L (λs=>prS P W (wr (o.dst.getD 0)) o s L Q0 cJ λv=>ltS wr ops L Q0 cJ r (s.put o.dst v) K) (λs=>ltS wr ops L Q0 cJ r (s.put o.dst (.v undef)) K)
def a8u(wr:Nat->Bool)(ops:Array Oper)(L:List Tr)(R:List Own)(Φ:PW)(Q0:List Own)(cJ:PW)(B:List Nat):List Nat->fO->(fO->Prop)->Prop
 | [],s,K=>K s
 | i :: r,s,K=>match ops[i]? with
  | none=>False
  | some o=>rC ops o s L (λs=>match dN i B with
    | true=>rdS P W (wr (o.dst.getD 0)) o s L R Φ λv=>a8u wr ops L R Φ Q0 cJ B r (s.put o.dst v) K
    | false=>prS P W (wr (o.dst.getD 0)) o s L Q0 cJ λv=>a8u wr ops L R Φ Q0 cJ B r (s.put o.dst v) K) (λs=>a8u wr ops L R Φ Q0 cJ B r (s.put o.dst (.v undef)) K)
def dlS(wr B7:Nat->Bool)(ops:Array Oper)(Q0:List Own)(cJ:PW):List (Nat × List Nat)->fO->List Tr->List Own->PW->(fO->List Tr->List Own->PW->Prop)->Prop
 | [],s,L,R,Φ,K=>K s L R Φ
 | (i,T) :: rest,s,L,R,Φ,K=>match ops[i]? with
   | none=>False
   | some o=>rC ops o s L
     (λs=>opS P W (wr (o.dst.getD 0)) (B7 (o.dst.getD 0)) (λi=>gW o.dst i ops.toList) o s L R Φ λv L R Φ=>(∀ w F,Ctx W w (R++F) Φ->Ctx W w (Q0++F) cJ)/\ltS P W wr ops L Q0 cJ T (s.put o.dst v) λs=>dlS wr B7 ops Q0 cJ rest s L R Φ K)
     (λs=>ltS P W wr ops L Q0 cJ T (s.put o.dst (.v undef)) λs=>dlS wr B7 ops Q0 cJ rest s L R Φ K)
def U5(wr:Nat->Bool)(ops:Array Oper)(L:List Tr)(R:List Own)(Φ:PW)(Q0:List Own)(cJ:PW)(C:List Nat)(Q1:List Own)(cL:PW)(B:List Nat):List Nat->fO->(fO->Prop)->Prop
 | [],s,K=>K s
 | i :: r,s,K=>match ops[i]? with
  | none=>False
  | some o=>rC ops o s L (λs=>match dN i B with
    | true=>rdS P W (wr (o.dst.getD 0)) o s L R Φ λv=>U5 wr ops L R Φ Q0 cJ C Q1 cL B r (s.put o.dst v) K
    | false=>match dN i C with
     | true=>prS P W (wr (o.dst.getD 0)) o s L Q1 cL λv=>U5 wr ops L R Φ Q0 cJ C Q1 cL B r (s.put o.dst v) K
     | false=>prS P W (wr (o.dst.getD 0)) o s L Q0 cJ λv=>U5 wr ops L R Φ Q0 cJ C Q1 cL B r (s.put o.dst v) K) (λs=>U5 wr ops L R Φ Q0 cJ C Q1 cL B r (s.put o.dst (.v undef)) K)
def aFv(dl i:Nat)(up:Bool)(p:Prop):Prop:=match up with
 | false=>True
 | true=>match Nat.beq dl i with|true=>True|false=>p
def aFw(wr B7:Nat->Bool)(ops:Array Oper)(Q0:List Own)(cJ:PW)(dl:Nat)(Q1:List Own)(cL:PW):Bool->List (Nat × List Nat)->fO->List Tr->List Own->PW->(fO->List Tr->List Own->PW->Prop)->Prop
 | _,[],s,L,R,Φ,K=>K s L R Φ
 | up,(i,T) :: rest,s,L,R,Φ,K=>match ops[i]? with
   | none=>False
   | some o=>rC ops o s L
     (λs=>opS P W (wr (o.dst.getD 0)) (B7 (o.dst.getD 0)) (λi=>gW o.dst i ops.toList) o s L R Φ λv L R Φ=>(∀ w F,Ctx W w (R++F) Φ->Ctx W w (Q0++F) cJ)/\aFv dl i up (∀ w F,Ctx W w (R++F) Φ->Ctx W w (Q1++F) cL)/\ltS P W wr ops L Q0 cJ T (s.put o.dst v) λs=>aFw wr B7 ops Q0 cJ dl Q1 cL (up && !(Nat.beq dl i)) rest s L R Φ K)
     (λs=>ltS P W wr ops L Q0 cJ T (s.put o.dst (.v undef)) λs=>aFw wr B7 ops Q0 cJ dl Q1 cL (up && !(Nat.beq dl i)) rest s L R Φ K)
inductive OT where
 | done
 | rd (i:Nat) (k:OT)
 | alt (i:Nat) (k r:OT)
 | no
def FU:OT->List Nat
 | .alt i _ r=>i :: FU r
 | _=>[]
def a1K:OT->List Nat
 | .rd i k=>i :: a1K k
 | .alt i k _=>i :: a1K k
 | _=>[]
def eT(ops:Array Oper)(listed:Array Bool):Bool :=
 (List.range ops.size).all λk => !(listed.getD k true)||match ops[k]? with
  | none=>true
  | some o=>o.after.toList.all λe => !(Region.binds .any e)||listed.getD e.on false
def BI(ops:Array Oper)(fin:Array Bool):OT->Bool->Nat->Array Bool->Bool
 | .done,false,0,x=>decide (x=fin)
 | .rd i k,false,n+1,x=>(Region.ready .any ops x).contains i&&Region.free .any ops x i&&(Region.ready .any ops (fin.setIfInBounds i false) == [i] || !(eT ops (fin.setIfInBounds i false)))&&BI ops fin k false n (x.setIfInBounds i true)
 | .alt i k r,false,n+1,x=>(Region.ready .any ops x == i :: FU r)&&(BI ops fin k false n (x.setIfInBounds i true)&&BI ops fin r true n x)
 | .alt i k r,true,n,x=>BI ops fin k false n (x.setIfInBounds i true)&&BI ops fin r true n x
 | .no,true,_,_=>true
 | _,_,_,_=>false
def tS(wr:Nat->Bool)(ops:Array Oper)(L:List Tr)(Q0:List Own)(cJ:PW):OT->fO->List Own->PW->(fO->List Own->PW->Prop)->Prop
 | .done,s,R,Φ,K=>K s R Φ
 | .no,_,_,_,_=>True
 | .rd i k,s,R,Φ,K=>match ops[i]? with
  | none=>False
  | some o=>rC ops o s L (λs=>hrS P W (wr (o.dst.getD 0)) o s L Q0 cJ λv=>tS wr ops L Q0 cJ k (s.put o.dst v) R Φ K) (λs=>tS wr ops L Q0 cJ k (s.put o.dst (.v undef)) R Φ K)
 | .alt i k r,s,R,Φ,K=>(match ops[i]? with
  | none=>False
  | some o=>rC ops o s L
    (λs=>opS P W (wr (o.dst.getD 0)) false (λi=>gW o.dst i ops.toList) o s L R Φ λv L' R' aX=>match v,xL [] L' L with
      | .v x,true=>(∀ w F,Ctx W w (R'++F) aX->Ctx W w (Q0++F) cJ)/\tS wr ops L Q0 cJ k (s.put o.dst (.v x)) R' aX K
      | _,_=>False)
    (λs=>tS wr ops L Q0 cJ k (s.put o.dst (.v undef)) R Φ K))/\(match r with | .no=>True|r=>tS wr ops L Q0 cJ r s R Φ K)
inductive Sg where
 | tree (t:OT) (n:Nat)
 | bW (T:List Nat) (e:Option Nat)
 | held (ord:List (Nat × Bool))
 | free (ord:List (Nat × Bool))
 | late (B sJ:List Nat) (l:List (Nat × List Nat))
 | a1L (C:List Nat) (dl:Nat) (B sJ:List Nat) (l:List (Nat × List Nat))
def OJ:List (Nat × List Nat)->Array Bool->Array Bool
 | [],x=>x
 | (i,T) :: r,x=>OJ r (bJ T (x.setIfInBounds i true))
def j9(sJ:List Nat):List (Nat × List Nat)->List Nat
 | []=>sJ
 | (_,T) :: r=>T++j9 sJ r
def a3u(ops:Array Oper)(fin:Array Bool):List (Nat × List Nat)->Array Bool->Bool
 | [],listed=>decide (listed=fin)&&(Region.ready .any ops listed).isEmpty
 | (i,T) :: r,listed=>Region.ready .any ops listed == [i]&&(lA ops T (listed.setIfInBounds i true)&&a3u ops fin r (bJ T (listed.setIfInBounds i true)))
def waits(ops:Array Oper)(b:Nat):List Nat->List Nat->List Nat
 | [],acc=>acc
 | k :: r,acc=>waits ops b r (match ops[k]? with
  | some o=>match o.after.any λe=>Region.binds .any e&&(Nat.beq e.on b||dN e.on acc) with
   | true=>k :: acc
   | false=>acc
  | none=>acc)
def uC(ops:Array Oper)(rd B:List Nat):Bool:=B.all λb=>dN b rd&&(λW:List Nat=>(List.range ops.size).all λj=>dN j rd||dN j W) (waits ops b (List.range ops.size) [])
def XJ:List (Nat × List Nat)->Nat
 | []=>0
 | (_,T) :: r=>(T.length+XJ r)+1
def AL(ops:Array Oper):List (Nat × Bool)->Array Bool->Bool
 | [],_=>true
 | (i,true) :: r,listed=>(Region.ready .any ops listed).contains i&&Region.free .any ops listed i&&AL ops r (listed.setIfInBounds i true)
 | (i,false) :: r,listed=>Region.ready .any ops listed == [i]&&AL ops r (listed.setIfInBounds i true)
def jT:List (Nat × Bool)->List Nat
 | []=>[]
 | (i,true) :: r=>i :: jT r
 | (_,false) :: r=>jT r
def aJX(ops:Array Oper)(T:List Nat)(fin:Array Bool):Bool :=
 T.all λi=>Region.ready .any ops (fin.setIfInBounds i false) == [i] || !(eT ops (fin.setIfInBounds i false))
def MA(ops:Array Oper):List Sg->Array Bool->Bool
 | [],listed=>(Region.ready .any ops listed).isEmpty
 | .bW T none :: rest,listed=>lA ops T listed&&RY ops T (bJ T listed)&&MA ops rest (bJ T listed)
 | .bW T (some i) :: rest,listed=>lA ops T listed&&RY ops T (bJ T listed)&&(Region.ready .any ops (bJ T listed) == [i]&&MA ops rest ((bJ T listed).setIfInBounds i true))
 | .tree t n :: rest,listed=>eT ops listed&&BI ops (bJ (a1K t) listed) t false n listed&&MA ops rest (bJ (a1K t) listed)
 | .held ord :: rest,listed=>AL ops ord listed&&eT ops listed&&aJX ops (jT ord) (bJ (ord.map (·.1)) listed)&&MA ops rest (bJ (ord.map (·.1)) listed)
 | .free ord :: rest,listed=>AL ops ord listed&&RY ops (jT ord) (bJ (ord.map (·.1)) listed)&&MA ops rest (bJ (ord.map (·.1)) listed)
 | .late B sJ l :: _,listed=>eT ops listed&&lA ops sJ listed&&(B.all λb=>dN b sJ)&&uC ops (j9 sJ l) B&&RY ops (j9 sJ l) (OJ l (bJ sJ listed))&&(l.all λp => !dN p.1 (j9 sJ l))&&a3u ops (OJ l (bJ sJ listed)) l (bJ sJ listed)
 | .a1L C dl B sJ l :: _,listed=>eT ops listed&&lA ops sJ listed&&(B.all λb=>dN b sJ)&&uC ops (j9 sJ l) B&&RY ops (j9 sJ l) (OJ l (bJ sJ listed))&&(l.all λp => !dN p.1 (j9 sJ l))&&a3u ops (OJ l (bJ sJ listed)) l (bJ sJ listed)&&(C.all λc=>dN dl (waits ops c (List.range ops.size) [])) && !dN dl (j9 sJ l)
def LC:List Sg->Nat
 | []=>0
 | .bW T none :: r=>T.length+LC r
 | .bW T (some _) :: r=>T.length+(LC r+1)
 | .tree _ n :: r=>n+LC r
 | .held ord :: r=>ord.length+LC r
 | .free ord :: r=>ord.length+LC r
 | .late _ sJ l :: _=>sJ.length+XJ l
 | .a1L _ _ _ sJ l :: _=>sJ.length+XJ l
def MC(wr B7:Nat->Bool)(ops:Array Oper):List Sg->fO->List Tr->List Own->PW->(fO->List Tr->List Own->PW->Prop)->Prop
 | [],s,L,R,Φ,K=>K s L R Φ
 | .bW T none :: rest,s,L,R,Φ,K=>a5D P W wr ops L R Φ T s λs=>MC wr B7 ops rest s L R Φ K
 | .bW T (some i) :: rest,s,L,R,Φ,K=>a5D P W wr ops L R Φ T s λs=>match ops[i]? with
   | none=>False
   | some o=>rC ops o s L
     (λs=>opS P W (wr (o.dst.getD 0)) (B7 (o.dst.getD 0)) (λi=>gW o.dst i ops.toList) o s L R Φ λv L R Φ=>MC wr B7 ops rest (s.put o.dst v) L R Φ K)
     (λs=>MC wr B7 ops rest (s.put o.dst (.v undef)) L R Φ K)
 | .tree t _ :: rest,s,L,R,Φ,K=>∃ (Q0:List Own) (cJ:PW),aB cJ/\(∀ w F,Ctx W w (R++F) Φ->Ctx W w (Q0++F) cJ)/\tS P W wr ops L Q0 cJ t s R Φ λs R Φ=>MC wr B7 ops rest s L R Φ K
 | .held ord :: rest,s,L,R,Φ,K=>∃ (Q0:List Own) (cJ:PW),aB cJ/\(∀ w F,Ctx W w (R++F) Φ->Ctx W w (Q0++F) cJ)/\hS P W wr ops L Q0 cJ ord s R Φ λs R Φ=>MC wr B7 ops rest s L R Φ K
 | .late B sJ l :: _,s,L,R,Φ,K=>∃ (Q0:List Own) (cJ:PW),aB cJ/\(∀ w F,Ctx W w (R++F) Φ->Ctx W w (Q0++F) cJ)/\a8u P W wr ops L R Φ Q0 cJ B sJ s λs=>dlS P W wr B7 ops Q0 cJ l s L R Φ K
 | .a1L C dl B sJ l :: _,s,L,R,Φ,K=>∃ (Q0:List Own) (cJ:PW),aB cJ/\(∀ w F,Ctx W w (R++F) Φ->Ctx W w (Q0++F) cJ)/\∃ (Q1:List Own) (cL:PW),aB cL/\(∀ w F,Ctx W w (R++F) Φ->Ctx W w (Q1++F) cL)/\U5 P W wr ops L R Φ Q0 cJ C Q1 cL B sJ s λs=>aFw P W wr B7 ops Q0 cJ dl Q1 cL true l s L R Φ K
 | .free ord :: rest,s,L,R,Φ,K=>∃ (Q0:List Own) (cJ:PW),aB cJ/\(∀ w F,Ctx W w (R++F) Φ->Ctx W w (Q0++F) cJ)/\fS P W wr B7 ops Q0 cJ ord s L R Φ λs L R Φ=>MC wr B7 ops rest s L R Φ K
def qS(wr d:Bool)(es:List Ent)(o:Oper)(s:fO)(L:List Tr)(w:World)(g:Option Bool)(ch:List (Nat × Bool))(K:SV->Prop):Prop :=
 match o.op with
 | .fieldAddr t x f=>match s.ev x with
  | .ptr k off=>match AH es ch (s.fr L) x with|true=>a3s P t k off f K|false=>False
  | .v _=>LZ P wr d es o (s.fr L) w g ch λv=>K (.v v)
 | .load t x=>match s.ev x with
  | .ptr k off=>match AH es ch (s.fr L) x with|true=>loadT P t L k off λv=>K (.v v)|false=>False
  | .v _=>LZ P wr d es o (s.fr L) w g ch λv=>K (.v v)
 | .move x=>match AH es ch (s.fr L) x with|true=>K (s.ev x)|false=>False
 | .assign x=>match AH es ch (s.fr L) x with|true=>K (s.ev x)|false=>False
 | _=>LZ P wr d es o (s.fr L) w g ch λv=>K (.v v)
def zM(es:List Ent)(s:fO):fO:=⟨s.n,go s.l⟩
where go:List (Nat × SV)->List (Nat × SV)
 | []=>[]
 | (t,v) :: r=>match X4 es t with|true=>(t,v) :: go r|false=>go r
def qsS(wr:Nat->Bool)(d:Bool)(ops:Array Oper)(L:List Tr)(w:World):List Oper->List Ent->fO->(fO->Prop)->Prop
 | [],es,s,K=>K (zM es s)
 | o :: rest,es,s,K =>
  match guardOf ops es (s.fr L) o,o.dst with
  | some (g,ch),some t =>
   match (oZ es t).isNone&&Nat.blt t s.n with
   | true=>qS P (wr t) d es o s L w g ch λv=>qsS wr d ops L w rest (⟨t,g,ch⟩ :: es) (s.put (some t) v) K
   | false=>False
  | _,_=>False
end
section
variable {P:Program}{W:World}{ops:Array Oper}{wr B7:Nat->Bool}{D:Nat->Prop}{s0:Fr}
theorem MD{Q L0 K}(hD:∀ (j:Nat) (o:Oper) (t:Nat),ops[j]? = some o->o.dst=some t->D t)(hK:∀ s L R Φ a w,K s L R Φ->At ds G W s L R Φ a w->Ext L0 L->bY D s0 (s.fr L)->Q .normal a w):
  ∀ (l:List Oper) (s:fO) (L:List Tr) (R:List Own) (Φ:PW) (a:Act) (w:World),(∀ o∈l,∀ t,o.dst=some t->D t)->aFu P W wr B7 ops l s L R Φ K->At ds G W s L R Φ a w->Ext L0 L->bY D s0 (s.fr L)->wpList P ops Q l a w
 | [],s,L,R,Φ,a,w,_,h,ha,he,hu=>hK _ _ _ _ _ _ h ha he hu
 | o :: rest,s,L,R,Φ,a,w,hl,h,ha,he,hu=>by
  have hl':∀ o∈rest,∀ t,o.dst=some t->D t:=λo ho=>hl o (List.mem_cons_of_mem _ ho);have ho:∀ t,o.dst=some t->D t:=hl o (by simp);unfold aFu at h;unfold wpList;obtain ⟨s',cN,eI,h⟩:=fB hD h ha hu;rcases h with ⟨hw,h⟩|⟨hw,h⟩
  .rw [if_pos hw];have:=cN.st;refine .inl (Oper.l9 (sW h cN.BH cN.wf cN.ctx λsv L' R' aX v' w' hk hst qP hp hc hv=>?_));exact MD hD hK rest _ _ _ _ _ _ hl' hk (cN.put o.dst qP hp hc hst hv) (he.trans qP) (eI.xK cN.wf qP ho)
  .rw [if_neg (by simp [hw])];exact MD hD hK rest _ _ _ _ _ _ hl' h (cN.put o.dst (Ext.refl _) (λk o e=>by cases e) cN.ctx cN.st (λ_=>rfl)) he (eI.xK cN.wf (Ext.refl _) ho)
theorem S4{wr o s L R Φ a w K}(h:rdS P W wr o s L R Φ K)(ha:At ds G W s L R Φ a w):
  ∃ sv v',K sv/\(∀ k o,sv=SV.ptr k o->(bU k L).isSome=true)/\(vZ (sv.val L)=false->v'=sv.val L)/\(execOp a.eval o).run P w=.ok (.value v') w:=by
 have hev:=uB s L;unfold rdS at h;split at h
 .rename_i cc x y hop;split at h
  .rename_i b hc;have JB:a.eval cc=.bool b:=by rw [ha.BH.eval (by rw [hev,hc];rfl),hev,hc]
   cases b with
   | true =>
    exact ⟨s.ev x,a.eval x,h,λk o e=>ha.wf.ev e,λhu=>by rw [ha.BH.eval (by rw [hev];exact hu),hev];rfl,by simp only [execOp,hop,JB,asBool,Sem.run_bind,Sem.run_pure,Result.andThen,if_true]⟩
   | false =>
    exact ⟨s.ev y,a.eval y,h,λk o e=>ha.wf.ev e,λhu=>by rw [ha.BH.eval (by rw [hev];exact hu),hev];rfl,by simp [execOp,hop,JB,asBool,Sem.run_bind,Sem.run_pure,Result.andThen]⟩
  .exact h.elim
 .split at h
  .rename_i ho;simp only [Bool.and_eq_true] at ho;rw [xH ha.BH ho.1 ho.2,show (s.fr L).eval=s.val L from funext hev];unfold OH at h;split at h
   .rename_i p hp;obtain ⟨sv,h1,h2,h3⟩:=U3 ha.wf ha.ctx hp h;exact ⟨sv,_,h3,h1,λ_=>rfl,h2 w rfl⟩
   .exact h.elim
  .exact h.elim
theorem XK{Q L R Φ w Kf K fin}(hsel:Region.noSelect ops=true)(hD:∀ (j:Nat) (o:Oper) (t:Nat),ops[j]? = some o->o.dst=some t->D t)(hK:∀ s a,Kf s->At ds G W s L R Φ a w->bY D s0 (s.fr L)->K a w):
  ∀ (T:List Nat) (listed:Array Bool) (s:fO) (a:Act),(∀ i∈T,Region.ready .any ops (fin.setIfInBounds i false)=[i])->lA ops T listed=true->bJ T listed=fin->a5D P W wr ops L R Φ T s Kf->At ds G W s L R Φ a w->bY D s0 (s.fr L) ->
   mT P .any ops (eR Q) (λw'=>w'=w) (λl=>l=fin) K T.length listed a w
 | [],listed,s,a,_,_,hf,h,ha,hu=>⟨hf,hK s a h ha hu⟩
 | i :: r,listed,s,a,hl,ho,hf,h,ha,hu=>by
  simp only [lA,Bool.and_eq_true] at ho;obtain ⟨⟨qT,D5⟩,xM⟩:=ho;unfold a5D at h;split at h
  .exact h.elim
  rename_i o hi;have hd:∀ t,o.dst=some t->D t:=λt ht=>hD i o t hi ht;have hr:i∈Region.ready .any ops listed:=by simpa using qT
  have hE:∀ l:Array Bool,l.setIfInBounds i true=fin->i∈Region.ready .any ops l->∀ j∈Region.ready .any ops l,j=i:=by
   intro l hl' hil j hj;have e:l=fin.setIfInBounds i false:=by
    have h0:=(mem_ready.1 hil).1;rw [<-hl'];have h2:l[i]? = some false:=by
     rw [Array.getD_eq_getD_getElem?] at h0;cases hx:l[i]? with
     | none=>rw [hx] at h0;cases h0
     | some b=>rw [hx] at h0;simp at h0;subst h0;rfl
    have hlt:i<l.size:=(Array.getElem?_eq_some_iff.1 h2).1;apply Array.ext_getElem?;intro k;by_cases hk:i=k
    .subst hk;rw [Array.getElem?_setIfInBounds_self_of_lt (by simpa using hlt),h2]
    .rw [Array.getElem?_setIfInBounds_ne hk,Array.getElem?_setIfInBounds_ne hk]
   rw [e,hl i (by simp)] at hj;simpa using hj
  have take:∀ (s':fO) (sv:SV) (v':Value),At ds G W s' L R Φ a w->bY D s0 (s'.fr L)->(∀ k o,sv=SV.ptr k o->(bU k L).isSome=true)->(vZ (sv.val L)=false->v'=sv.val L)->YieldsIf P ops (λw'=>w'=w) o v' a->a5D P W wr ops L R Φ r (s'.put o.dst sv) Kf ->
    mT P .any ops (eR Q) (λw'=>w'=w) (λl=>l=fin) K (i :: r).length listed a w:=by
   intro s' sv v' cN eI hp hv hy hk;have ih:=XK (Q:=Q) hsel hD hK r (listed.setIfInBounds i true) (s'.put o.dst sv) (a.put o.dst v') (λj hj=>hl j (List.mem_cons_of_mem _ hj)) xM hf hk (cN.put o.dst (Ext.refl _) hp cN.ctx cN.st hv) (eI.xK cN.wf (Ext.refl _) hd);exact O8 hi (Region.noSelect_spec hsel) (λ_ _ _ h=>h) hE r.length listed a w (Region.free_spec hi D5) hr hy rfl ih
  obtain ⟨s',cN,eI,h⟩:=fB hD h ha hu;rcases h with ⟨hw,h⟩|⟨hw,h⟩
  .obtain ⟨sv,v',h1,h2,h3,h4⟩:=S4 h cN;exact take s' sv v' cN eI h2 h3 (.inl ⟨hw,λw' e=>by subst e;exact h4⟩) h1
  .exact take s' (.v undef) undef cN eI (λk o e=>by cases e) (λ_=>rfl) (.inr ⟨hw,rfl⟩) h
theorem a1M{Q L R Φ w Kf m}(hsel:Region.noSelect ops=true)(hD:∀ (j:Nat) (o:Oper) (t:Nat),ops[j]? = some o->o.dst=some t->D t){T listed s a}(hK:∀ s a,Kf s->At ds G W s L R Φ a w->bY D s0 (s.fr L)->wpAny P .any ops (eR Q) m (bJ T listed) a w)(qT:lA ops T listed=true)(D5:RY ops T (bJ T listed)=true)(h:a5D P W wr ops L R Φ T s Kf)(ha:At ds G W s L R Φ a w)(hu:bY D s0 (s.fr L)):wpAny P .any ops (eR Q) (T.length+m) listed a w:=by
 have hl:∀ j∈T,Region.ready .any ops ((bJ T listed).setIfInBounds j false)=[j]:=by
  intro j hj;have:=List.all_eq_true.1 D5 j hj;simpa using this
 refine xI (S:=λw'=>w'=w) (E:=λl=>l=bJ T listed) (K:=λa' w'=>w'=w/\wpAny P .any ops (eR Q) m (bJ T listed) a' w) ?_ T.length listed a w ?_
 .rintro l a w1 rfl ⟨rfl,hk⟩;exact hk
 .exact XK hsel hD (λs a hk ha hu=>⟨rfl,hK s a hk ha hu⟩) T listed s a hl qT rfl h ha hu
theorem aCr{t L k off K T}(hT:bU k L=some T)(h:loadT P t L k off K):
  ∃ v,K v/\∀ w:World,vT w T.b T.cs T.t->(loadVar t ⟨T.b,off,none⟩).run P w=.ok v w:=by
 unfold loadT at h;rw [hT] at h;split at h
 .rename_i T' d i e hd hi;cases e;split at h
  .rename_i l ha hz;split at h
   .rename_i hc;simp only [Bool.and_eq_true] at hc;have hlen:=Nat.eq_of_beq_eq_true hc.1;have hfit:∀ {l:List Sc} {vs:List Value},a5z l vs=true->vs.length=l.length:=by
     intro l
     induction l with
     | nil=>intro vs h;cases vs<;>simp_all [a5z]
     | cons s r ih =>
      intro vs h;cases vs with
      | nil=>simp [a5z] at h
      | cons v vs =>
       unfold a5z at h;split at h
       .simp [ih h]
       .cases h
    refine ⟨_,h,λw hb=>?_⟩;have hl2:=hfit hc.2;rw [hlen] at hl2;have hrow:bT w T.b off ((T.cs.drop off).take i.size):=hb.row λj hj=>by
     simp only [List.length_take,List.length_drop] at hj;rw [List.getElem_take,List.getElem_drop,List.getElem?_eq_getElem]
    generalize (T.cs.drop off).take i.size=vs at hl2 hrow;have hr:=run_loadCellsFrom (P:=P) (w:=w) (b:=T.b) (o:=off) vs 0 #[] (λj hj=>by rw [Nat.zero_add];exact hrow j hj);unfold loadVar loadCells;simp only [Sem.run_bind,x7 hd,ha,Result.andThen,if_true,run_sizeOf hi,<-hl2,hr,Sem.run_pure];simp
   .exact h.elim
  .rename_i sc ha hz;split at h
   .rename_i v hv;have one:∀ w:World,vT w T.b T.cs T.t->(loadVar t ⟨T.b,off,none⟩).run P w=.ok v w:=by
     intro w hb;have hcell:=hb.D8 hv;unfold loadVar;simp only [Sem.run_bind,x7 hd,ha,Result.andThen,Bool.false_eq_true,if_false,load,Sem.run,hcell]
    split at h
    .obtain ⟨f,a,c,rfl,h⟩:=h;exact ⟨_,h,one⟩
    .split at h
     .exact ⟨v,h,one⟩
     .exact h.elim
   .exact h.elim
  .exact h.elim
 .exact h.elim
theorem a8v{wr o s L Q0}{cJ:PW}{K p}(hst:aB cJ)(hwf:M6 L s)(h:cZ P W wr o s L [] cJ K=some p)(hp:p)(hu:OI P o s L K=false):
  ∃ sv,K sv/\(∀ k o,sv=SV.ptr k o->(bU k L).isSome=true)/\∀ w',Ctx W w' (Q0++(L.map Tr.own++G)) cJ->(execOp (s.val L) o).run P w'=.ok (.value (sv.val L)) w':=by
 have K6:∀ {p:Prop},iJ P o (s.val L) (λv=>K (.v v))=false->iZ P wr o (s.val L) W none (λv=>K (.v v))=some p->p ->
   ∃ sv,K sv/\(∀ k o,sv=SV.ptr k o->(bU k L).isSome=true)/\∀ w',Ctx W w' (Q0++(L.map Tr.own++G)) cJ->(execOp (s.val L) o).run P w'=.ok (.value (sv.val L)) w':=by
  intro p hf hq hp;obtain ⟨v,h1,h2⟩:=M7 W W hq hf hp;exact ⟨.v v,h2,λk o e=>(by cases e),λw' _=>h1 w'⟩
 unfold cZ at h;split at h
 .rename_i x hop;cases h;exact ⟨s.ev x,hp,λk o e=>hwf.ev e,λw' _=>by simp [execOp,hop,fO.val]⟩
 .rename_i x hop;cases h;exact ⟨s.ev x,hp,λk o e=>hwf.ev e,λw' _=>by simp [execOp,hop,fO.val]⟩
 .rename_i x hop;split at h
  .rename_i k off hx;cases h;obtain ⟨T,hT⟩:=Option.isSome_iff_exists.1 (hwf.ev hx);refine ⟨.ptr k off,hp,λk' o' e=>by cases e;rw [hT];rfl,λw' _=>?_⟩;have hv:s.val L x=.pointer (some ⟨T.b,off,none⟩):=by rw [fO.val,hx,fA hT]
   simp [execOp,hop,hv,fA hT]
  .exact K6 (by simp [iJ,hop]) h hp
 .rename_i t x f hop;split at h
  .rename_i k off hx;cases h;obtain ⟨T,hT⟩:=Option.isSome_iff_exists.1 (hwf.ev hx);obtain ⟨off',h1,h2⟩:=wF hT hp;refine ⟨.ptr k off',h2,λk' o' e=>by cases e;rw [hT];rfl,λw' _=>?_⟩;have hv:s.val L x=.pointer (some ⟨T.b,off,none⟩):=by rw [fO.val,hx,fA hT]
   simp [execOp,hop,hv,fA hT,h1 w',Result.andThen]
  .exact K6 (by simp [iJ,hop]) h hp
 .rename_i t x i hop;split at h
  .rename_i k off hx;cases h;obtain ⟨T,hT⟩:=Option.isSome_iff_exists.1 (hwf.ev hx);obtain ⟨off',h1,h2⟩:=DB hT hp;refine ⟨.ptr k off',h2,λk' o' e=>by cases e;rw [hT];rfl,λw' _=>?_⟩;have hv:s.val L x=.pointer (some ⟨T.b,off,none⟩):=by rw [fO.val,hx,fA hT]
   simp [execOp,hop,hv,fA hT,h1 w',Result.andThen]
  .exact K6 (by simp [iJ,hop]) h hp
 .rename_i t x hop;split at h
  .rename_i k off hx;cases h;obtain ⟨T,hT⟩:=Option.isSome_iff_exists.1 (hwf.ev hx);obtain ⟨v,h2,h1⟩:=aCr hT hp;refine ⟨.v v,h2,λk o e=>(by cases e),λw' hS=>?_⟩;have hb:vT w' T.b T.cs T.t:=jH.blk (show jH G W w' L Q0 cJ from hS) hT;have hv:s.val L x=.pointer (some ⟨T.b,off,none⟩):=by rw [fO.val,hx,fA hT]
   simp [execOp,hop,hv,Instr.loadAt,Instr.sureAddr,h1 w' hb,Result.andThen,SV.val]
  .rename_i x' hx;unfold OI at hu;simp only [hop,hx] at hu;cases hu
 .rename_i hop;unfold OI at hu;simp only [hop] at hu;simp [iJ,hop] at hu
 .rename_i n1 n2 n3 n4 n5 n6 n7;have eI:iJ P o (s.val L) (λv=>K (.v v))=false:=by
   clear h K6;unfold OI at hu;split at hu
   .rename_i t x hop;exact absurd hop (n6 t x)
   .rename_i x hop;exact absurd hop (n1 x)
   .rename_i x hop;exact absurd hop (n2 x)
   .rename_i x hop;exact absurd hop (n3 x)
   .rename_i t x f hop;exact absurd hop (n4 t x f)
   .rename_i t x f hop;exact absurd hop (n5 t x f)
   .exact hu
  rw [eI] at h;simp only at h;exact K6 eI h hp
theorem a1N{wr o s L R}{Φ cJ:PW}{Q0 a w K}(hst:aB cJ)(h:hrS P W wr o s L Q0 cJ K)(ha:At ds G W s L R Φ a w)(hw:Ctx W w (Q0++(L.map Tr.own++G)) cJ):
  ∃ sv v',K sv/\(∀ k o,sv=SV.ptr k o->(bU k L).isSome=true)/\(vZ (sv.val L)=false->v'=sv.val L)/\∀ w',Ctx W w' (Q0++(L.map Tr.own++G)) cJ->(execOp a.eval o).run P w'=.ok (.value v') w':=by
 have hev:=uB s L;unfold hrS at h;split at h
 .rename_i cc x y hop;split at h
  .rename_i b hc;have JB:a.eval cc=.bool b:=by rw [ha.BH.eval (by rw [hev,hc];rfl),hev,hc]
   cases b with
   | true =>
    exact ⟨s.ev x,a.eval x,h,λk o e=>ha.wf.ev e,λhu=>by rw [ha.BH.eval (by rw [hev];exact hu),hev];rfl,λw' _=>by simp only [execOp,hop,JB,asBool,Sem.run_bind,Sem.run_pure,Result.andThen,if_true]⟩
   | false =>
    exact ⟨s.ev y,a.eval y,h,λk o e=>ha.wf.ev e,λhu=>by rw [ha.BH.eval (by rw [hev];exact hu),hev];rfl,λw' _=>by simp [execOp,hop,JB,asBool,Sem.run_bind,Sem.run_pure,Result.andThen]⟩
  .exact h.elim
 .split at h
  .rename_i ho;simp only [Bool.and_eq_true] at ho;rw [xH ha.BH ho.1 ho.2,show (s.fr L).eval=s.val L from funext hev];split at h
   .obtain ⟨v,h1,h2⟩:=nS h;refine ⟨.v v,v,h2,λk o e=>(by cases e),λ_=>rfl,λw' hS=>?_⟩;obtain ⟨u,h3,h4⟩:=M8 (w:=w') (h1 w' _ hS);subst h4;exact h3 w' rfl
   .rename_i hu;unfold OH at h;split at h
    .rename_i p hp;obtain ⟨sv,h1,h2,h3⟩:=a8v hst ha.wf hp h (by simpa using hu);exact ⟨sv,_,h1,h2,λ_=>rfl,h3⟩
    .exact h.elim
  .exact h.elim
theorem BJ{l:Array Bool}{i k}(h:l.getD k false=true):(l.setIfInBounds i true).getD k false=true:=by
 rw [Array.getD_eq_getD_getElem?] at h ⊢;by_cases hk:i=k
 .subst hk;rcases Nat.lt_or_ge i l.size with h'|h'
  .rw [Array.getElem?_setIfInBounds_self_of_lt h'];rfl
  .rw [Array.getElem?_eq_none (by simpa using h')] at h;cases h
 .rwa [Array.getElem?_setIfInBounds_ne hk]
theorem jJ{ops listed i}(hc:eT ops listed=true)(hr:i∈Region.ready .any ops listed):eT ops (listed.setIfInBounds i true)=true:=by
 unfold eT at hc ⊢;rw [List.all_eq_true] at hc ⊢;intro k hk;have h0:=hc k hk;obtain ⟨_,oi,hoi,hall⟩:=mem_ready.1 hr;by_cases hki:i=k
 .subst hki;simp only [hoi];rw [Bool.or_eq_true]
  right
  rw [List.all_eq_true];intro e he;cases hb:Region.binds .any e with
  | false=>rfl
  | true =>
   rw [Bool.or_eq_true];exact .inr (BJ (hall e (by simpa using he) hb))
 .rw [getD_set_ne true hki];rw [Bool.or_eq_true] at h0 ⊢;rcases h0 with h0|h0
  .exact .inl h0
  .right
   split at h0
   .rfl
   .rw [List.all_eq_true] at h0 ⊢;intro e he;have:=h0 e he;rw [Bool.or_eq_true] at this ⊢;rcases this with h|h
    .exact .inl h
    .exact .inr (BJ h)
theorem LD{P ops Q S E K i oi v}(hi:ops[i]? = some oi)(hsel:∀ (j:Nat) (o:Oper) cs b,ops[j]? = some o->o.op≠.select cs b)(hQ:∀ c a w,Q (.panic c) (a.put oi.dst v) w->Q (.panic c) a w)(hE:∀ listed,eT ops listed=true->E (listed.setIfInBounds i true)->i∈Region.ready .any ops listed->∀ j∈Region.ready .any ops listed,j=i):
  ∀ (n:Nat) (listed:Array Bool) (a:Act) (w:World),eT ops listed=true ->
   (∀ j oj,ops[j]? = some oj->j≠i->listed.getD j true=false->(∀ e∈oj.after,Region.binds .any e=true->e.on≠i)->oi.apart ops oj=true) ->
   i∈Region.ready .any ops listed->YieldsIf P ops S oi v a->S w ->
   mT P .any ops Q S E K n (listed.setIfInBounds i true) (a.put oi.dst v) w->mT P .any ops Q S E K (n+1) listed a w:=by
 intro n
 induction n with
 | zero =>
  intro listed a w hc _ hr hy hS H;refine ⟨λh=>(by rw [h] at hr;cases hr),λj hj=>?_⟩;have:=hE listed hc H.1 hr j hj;subst this;exact hy.wpOp hi hS ⟨hS,H⟩
 | succ n ih =>
  intro listed a w hc hfree hr hy hS H;refine ⟨λh=>(by rw [h] at hr;cases hr),λj hj=>?_⟩;by_cases hji:j=i
  .subst hji;exact hy.wpOp hi hS ⟨hS,H⟩
  .have h1:=H.2 j (ready_mono hj hji);obtain ⟨a5s,oj,hoj,hall⟩:=mem_ready.1 hj;have hnot:∀ e∈oj.after,Region.binds .any e=true->e.on≠i:=λe he hb heq=>by
    have h1:=hall e he hb;have h0:=(mem_ready.1 hr).1;rw [heq] at h1;rcases Nat.lt_or_ge i listed.size with h'|h'
    .simp [h'] at h0 h1;rw [h0] at h1;cases h1
    .simp [Array.getElem?_eq_none h'] at h1
   have h2:=wpOp_putIf hoj (hfree j oj hoj hji a5s hnot) (λcs b=>hsel i oi cs b hi) (λcs b=>hsel j oj cs b hoj) hQ hy h1;have X6:∀ k ok,ops[k]? = some ok->k≠i->(listed.setIfInBounds j true).getD k true=false ->
     (∀ e∈ok.after,Region.binds .any e=true->e.on≠i)->oi.apart ops ok=true:=λk ok hk hki hun hno=>by
    refine hfree k ok hk hki ?_ hno;by_cases hjk:j=k
    .subst hjk;exact a5s
    .rw [getD_set_ne true hjk] at hun;exact hun
   refine wpOp_mono (λa' w' h3=>⟨h3.2.1,ih (listed.setIfInBounds j true) a' w' (jJ hc hj) X6 (ready_mono hr (Ne.symm hji)) h3.1 h3.2.1 ?_⟩) h2;rw [Array.setIfInBounds_comm _ _ hji];exact h3.2.2
theorem OK{Q L Q0}{cJ:PW}{Kf K fin}(hsel:Region.noSelect ops=true)(xN:aB cJ)(hD:∀ (j:Nat) (o:Oper) (t:Nat),ops[j]? = some o->o.dst=some t->D t)(hK:∀ s R Φ a w,Kf s R Φ->At ds G W s L R Φ a w->bY D s0 (s.fr L)->K a w):
  ∀ (ord:List (Nat × Bool)) (listed:Array Bool) (s:fO) (R:List Own) (Φ:PW) (a:Act) (w:World),(∀ i∈jT ord,Region.ready .any ops (fin.setIfInBounds i false)=[i]\/eT ops (fin.setIfInBounds i false)=false)->eT ops listed=true->AL ops ord listed=true->bJ (ord.map (·.1)) listed=fin ->
   hS P W wr ops L Q0 cJ ord s R Φ Kf->At ds G W s L R Φ a w->(∀ w F,Ctx W w (R++F) Φ->Ctx W w (Q0++F) cJ)->bY D s0 (s.fr L)->mT P .any ops (eR Q) (λw'=>Ctx W w' (Q0++(L.map Tr.own++G)) cJ) (λl=>l=fin) K ord.length listed a w
 | [],listed,s,R,Φ,a,w,_,_,_,hf,h,ha,oX,hu=>⟨hf,hK s R Φ a w h ha hu⟩
 | (i,still) :: r,listed,s,R,Φ,a,w,hl,uK,ho,hf,h,ha,oX,hu=>by
  unfold hS at h;split at h
  .exact h.elim
  rename_i o hi;have hd:∀ t,o.dst=some t->D t:=λt ht=>hD i o t hi ht;have hw:Ctx W w (Q0++(L.map Tr.own++G)) cJ:=oX _ _ ha.ctx;obtain ⟨s',cN,eI,h⟩:=fB hD h ha hu;cases still with
  | true =>
   simp only [AL,Bool.and_eq_true] at ho;obtain ⟨⟨qT,D5⟩,xM⟩:=ho;have hr:i∈Region.ready .any ops listed:=by simpa using qT
   have hE:∀ l:Array Bool,eT ops l=true->l.setIfInBounds i true=fin->i∈Region.ready .any ops l->∀ j∈Region.ready .any ops l,j=i:=by
    intro l hcc hl' hil j hj;have e:l=fin.setIfInBounds i false:=by
     have h0:=(mem_ready.1 hil).1;rw [<-hl'];have h2:l[i]? = some false:=by
      rw [Array.getD_eq_getD_getElem?] at h0;cases hx:l[i]? with
      | none=>rw [hx] at h0;cases h0
      | some b=>rw [hx] at h0;simp at h0;subst h0;rfl
     have hlt:i<l.size:=(Array.getElem?_eq_some_iff.1 h2).1;apply Array.ext_getElem?;intro k;by_cases hk:i=k
     .subst hk;rw [Array.getElem?_setIfInBounds_self_of_lt (by simpa using hlt),h2]
     .rw [Array.getElem?_setIfInBounds_ne hk,Array.getElem?_setIfInBounds_ne hk]
    rcases hl i (by simp [jT]) with h1|h1
    .rw [e,h1] at hj;simpa using hj
    .rw [e,h1] at hcc;cases hcc
   have take:∀ (s':fO) (sv:SV) (v':Value),At ds G W s' L R Φ a w->bY D s0 (s'.fr L)->(∀ k o,sv=SV.ptr k o->(bU k L).isSome=true)->(vZ (sv.val L)=false->v'=sv.val L) ->
     YieldsIf P ops (λw'=>Ctx W w' (Q0++(L.map Tr.own++G)) cJ) o v' a->hS P W wr ops L Q0 cJ r (s'.put o.dst sv) R Φ Kf ->
     mT P .any ops (eR Q) (λw'=>Ctx W w' (Q0++(L.map Tr.own++G)) cJ) (λl=>l=fin) K ((i,true) :: r).length listed a w:=by
    intro s' sv v' cN eI hp hv hy hk;have ih:=OK (Q:=Q) hsel xN hD hK r (listed.setIfInBounds i true) (s'.put o.dst sv) R Φ (a.put o.dst v') w (λj hj=>hl j (by simp [jT,hj])) (jJ uK hr) xM hf hk (cN.put o.dst (Ext.refl _) hp cN.ctx cN.st hv) oX (eI.xK cN.wf (Ext.refl _) hd);exact LD hi (Region.noSelect_spec hsel) (λ_ _ _ h=>h) hE r.length listed a w uK (Region.free_spec hi D5) hr hy hw ih
   rcases h with ⟨qY,h⟩|⟨qY,h⟩
   .obtain ⟨sv,v',h1,h2,h3,h4⟩:=a1N xN h cN hw;exact take s' sv v' cN eI h2 h3 (.inl ⟨qY,h4⟩) h1
   .exact take s' (.v undef) undef cN eI (λk o e=>by cases e) (λ_=>rfl) (.inr ⟨qY,rfl⟩) h
  | false =>
   simp only [AL,Bool.and_eq_true,beq_iff_eq] at ho;obtain ⟨qT,D5⟩:=ho;have aSe:=jJ uK (show i∈Region.ready .any ops listed by rw [qT];simp);refine ⟨by rw [qT];simp,λj hj=>?_⟩;rw [qT] at hj;have hj:j=i:=by simpa using hj
   subst hj;unfold wpOp;simp only [hi];rcases h with ⟨qY,h⟩|⟨qY,h⟩
   .simp only [qY,if_true];have:=cN.st;refine .inl (Oper.l9 (sW h cN.BH cN.wf cN.ctx λsv L' R' aX v' w' hk hst qP hp hc hv=>?_));split at hk
    .rename_i x hs;obtain ⟨a3v,hk⟩:=hk;have hcL:jH G W w' L R' aX:=by
      have:=jH.meet (ts:=[]) hst hc qP cN.ids hs
      rwa [show j8 [] (cellsOf [] L') L=L from S3 L] at this
     refine ⟨a3v _ _ hcL,?_⟩;exact OK hsel xN hD hK r _ _ _ _ _ _ (λj hj=>hl j (by simp [jT,hj])) aSe D5 hf hk (cN.put o.dst (Ext.refl _) (λk o e=>by cases e) hcL hst hv) a3v (eI.xK cN.wf (Ext.refl _) hd)
    .exact hk.elim
   .simp only [qY,Bool.false_eq_true,if_false];exact ⟨hw,OK hsel xN hD hK r _ _ _ _ _ _ (λj hj=>hl j (by simp [jT,hj])) aSe D5 hf h (cN.put o.dst (Ext.refl _) (λk o e=>by cases e) cN.ctx cN.st (λ_=>rfl)) oX (eI.xK cN.wf (Ext.refl _) hd)⟩
theorem FV{Q L Q0}{cJ:PW}{Kf K fin}(hsel:Region.noSelect ops=true)(xN:aB cJ)(hD:∀ (j:Nat) (o:Oper) (t:Nat),ops[j]? = some o->o.dst=some t->D t)(hK:∀ s R Φ a w,Kf s R Φ->At ds G W s L R Φ a w->bY D s0 (s.fr L)->K a w):∀ (t:OT),
  (∀ (n:Nat) (listed:Array Bool) (s:fO) (R:List Own) (Φ:PW) (a:Act) (w:World),eT ops listed=true->BI ops fin t false n listed=true ->
   tS P W wr ops L Q0 cJ t s R Φ Kf->At ds G W s L R Φ a w->(∀ w F,Ctx W w (R++F) Φ->Ctx W w (Q0++F) cJ)->bY D s0 (s.fr L)->mT P .any ops (eR Q) (λw'=>Ctx W w' (Q0++(L.map Tr.own++G)) cJ) (λl=>l=fin) K n listed a w) /\
  (∀ (n:Nat) (listed:Array Bool) (s:fO) (R:List Own) (Φ:PW) (a:Act) (w:World),eT ops listed=true->(∀ j∈FU t,j∈Region.ready .any ops listed)->BI ops fin t true n listed=true ->
   tS P W wr ops L Q0 cJ t s R Φ Kf->At ds G W s L R Φ a w->(∀ w F,Ctx W w (R++F) Φ->Ctx W w (Q0++F) cJ)->bY D s0 (s.fr L)->∀ j∈FU t,wpOp P ops (eR Q) j (λa' w'=>Ctx W w' (Q0++(L.map Tr.own++G)) cJ /\
    mT P .any ops (eR Q) (λw'=>Ctx W w' (Q0++(L.map Tr.own++G)) cJ) (λl=>l=fin) K n (listed.setIfInBounds j true) a' w') a w)
 | .done=>by
  refine ⟨λn listed s R Φ a w uK ho h ha oX hu=>?_,λn listed s R Φ a w _ _ ho=>by simp [BI] at ho⟩;cases n with
  | zero=>exact ⟨by simpa [BI] using ho,hK s R Φ a w h ha hu⟩
  | succ n=>simp [BI] at ho
 | .no=>by
  refine ⟨λn listed s R Φ a w _ ho=>by simp [BI] at ho,λn listed s R Φ a w _ _ ho h ha oX hu j hj=>by simp [FU] at hj⟩
 | .rd i k=>by
  refine ⟨λn listed s R Φ a w uK ho h ha oX hu=>?_,λn listed s R Φ a w _ _ ho=>by simp [BI] at ho⟩;cases n with
  | zero=>simp [BI] at ho
  | succ n =>
   simp only [BI,Bool.and_eq_true] at ho;obtain ⟨⟨⟨qT,D5⟩,hl⟩,xM⟩:=ho;have hl:Region.ready .any ops (fin.setIfInBounds i false)=[i]\/eT ops (fin.setIfInBounds i false)=false:=by simpa using hl
   unfold tS at h;split at h
   .exact h.elim
   rename_i o hi;have hd:∀ t,o.dst=some t->D t:=λt ht=>hD i o t hi ht;have hw:Ctx W w (Q0++(L.map Tr.own++G)) cJ:=oX _ _ ha.ctx;obtain ⟨s',cN,eI,h⟩:=fB hD h ha hu;have hr:i∈Region.ready .any ops listed:=by simpa using qT
   have hE:∀ l:Array Bool,eT ops l=true->l.setIfInBounds i true=fin->i∈Region.ready .any ops l->∀ j∈Region.ready .any ops l,j=i:=by
    intro l hcc hl' hil j hj;have e:l=fin.setIfInBounds i false:=by
     have h0:=(mem_ready.1 hil).1;rw [<-hl'];have h2:l[i]? = some false:=by
      rw [Array.getD_eq_getD_getElem?] at h0;cases hx:l[i]? with
      | none=>rw [hx] at h0;cases h0
      | some b=>rw [hx] at h0;simp at h0;subst h0;rfl
     have hlt:i<l.size:=(Array.getElem?_eq_some_iff.1 h2).1;apply Array.ext_getElem?;intro k;by_cases hk:i=k
     .subst hk;rw [Array.getElem?_setIfInBounds_self_of_lt (by simpa using hlt),h2]
     .rw [Array.getElem?_setIfInBounds_ne hk,Array.getElem?_setIfInBounds_ne hk]
    rcases hl with h1|h1
    .rw [e,h1] at hj;simpa using hj
    .rw [e,h1] at hcc;cases hcc
   have take:∀ (s':fO) (sv:SV) (v':Value),At ds G W s' L R Φ a w->bY D s0 (s'.fr L)->(∀ k o,sv=SV.ptr k o->(bU k L).isSome=true)->(vZ (sv.val L)=false->v'=sv.val L) ->
     YieldsIf P ops (λw'=>Ctx W w' (Q0++(L.map Tr.own++G)) cJ) o v' a->tS P W wr ops L Q0 cJ k (s'.put o.dst sv) R Φ Kf ->
     mT P .any ops (eR Q) (λw'=>Ctx W w' (Q0++(L.map Tr.own++G)) cJ) (λl=>l=fin) K (n+1) listed a w:=by
    intro s' sv v' cN eI hp hv hy hk;have ih:=(FV (Q:=Q) hsel xN hD hK k).1 n (listed.setIfInBounds i true) (s'.put o.dst sv) R Φ (a.put o.dst v') w (jJ uK hr) xM hk (cN.put o.dst (Ext.refl _) hp cN.ctx cN.st hv) oX (eI.xK cN.wf (Ext.refl _) hd);exact LD hi (Region.noSelect_spec hsel) (λ_ _ _ h=>h) hE n listed a w uK (Region.free_spec hi D5) hr hy hw ih
   rcases h with ⟨qY,h⟩|⟨qY,h⟩
   .obtain ⟨sv,v',h1,h2,h3,h4⟩:=a1N xN h cN hw;exact take s' sv v' cN eI h2 h3 (.inl ⟨qY,h4⟩) h1
   .exact take s' (.v undef) undef cN eI (λk o e=>by cases e) (λ_=>rfl) (.inr ⟨qY,rfl⟩) h
 | .alt i k r=>by
  have one:∀ (n:Nat) (listed:Array Bool) (s:fO) (R:List Own) (Φ:PW) (a:Act) (w:World),eT ops listed=true->i∈Region.ready .any ops listed->BI ops fin k false n (listed.setIfInBounds i true)=true ->
    tS P W wr ops L Q0 cJ (.alt i k r) s R Φ Kf->At ds G W s L R Φ a w->(∀ w F,Ctx W w (R++F) Φ->Ctx W w (Q0++F) cJ)->bY D s0 (s.fr L)->wpOp P ops (eR Q) i (λa' w'=>Ctx W w' (Q0++(L.map Tr.own++G)) cJ /\
     mT P .any ops (eR Q) (λw'=>Ctx W w' (Q0++(L.map Tr.own++G)) cJ) (λl=>l=fin) K n (listed.setIfInBounds i true) a' w') a w:=by
   intro n listed s R Φ a w uK hr ho h ha oX hu;unfold tS at h
   replace h:=h.1
   split at h
   .exact h.elim
   rename_i o hi;have hd:∀ t,o.dst=some t->D t:=λt ht=>hD i o t hi ht;have hw:Ctx W w (Q0++(L.map Tr.own++G)) cJ:=oX _ _ ha.ctx;obtain ⟨s',cN,eI,h⟩:=fB hD h ha hu;unfold wpOp;simp only [hi];rcases h with ⟨qY,h⟩|⟨qY,h⟩
   .simp only [qY,if_true];have:=cN.st;refine .inl (Oper.l9 (sW h cN.BH cN.wf cN.ctx λsv L' R' aX v' w' hk hst qP hp hc hv=>?_));split at hk
    .rename_i x hs;obtain ⟨a3v,hk⟩:=hk;have hcL:jH G W w' L R' aX:=by
      have:=jH.meet (ts:=[]) hst hc qP cN.ids hs
      rwa [show j8 [] (cellsOf [] L') L=L from S3 L] at this
     refine ⟨a3v _ _ hcL,?_⟩;exact (FV hsel xN hD hK k).1 n _ _ _ _ _ _ (jJ uK hr) ho hk (cN.put o.dst (Ext.refl _) (λk o e=>by cases e) hcL hst hv) a3v (eI.xK cN.wf (Ext.refl _) hd)
    .exact hk.elim
   .simp only [qY,Bool.false_eq_true,if_false];exact ⟨hw,(FV hsel xN hD hK k).1 n _ _ _ _ _ _ (jJ uK hr) ho h (cN.put o.dst (Ext.refl _) (λk o e=>by cases e) cN.ctx cN.st (λ_=>rfl)) oX (eI.xK cN.wf (Ext.refl _) hd)⟩
  have more:∀ (n:Nat) (listed:Array Bool) (s:fO) (R:List Own) (Φ:PW) (a:Act) (w:World),eT ops listed=true->(∀ j∈FU r,j∈Region.ready .any ops listed)->BI ops fin r true n listed=true ->
    tS P W wr ops L Q0 cJ (.alt i k r) s R Φ Kf->At ds G W s L R Φ a w->(∀ w F,Ctx W w (R++F) Φ->Ctx W w (Q0++F) cJ)->bY D s0 (s.fr L)->∀ j∈FU r,wpOp P ops (eR Q) j (λa' w'=>Ctx W w' (Q0++(L.map Tr.own++G)) cJ /\
     mT P .any ops (eR Q) (λw'=>Ctx W w' (Q0++(L.map Tr.own++G)) cJ) (λl=>l=fin) K n (listed.setIfInBounds j true) a' w') a w:=by
   intro n listed s R Φ a w uK hr ho h ha oX hu j hj;unfold tS at h
   replace h:=h.2
   have h:tS P W wr ops L Q0 cJ r s R Φ Kf:=by
    cases r with
    | no=>simp [FU] at hj
    | _=>exact h
   exact (FV hsel xN hD hK r).2 n listed s R Φ a w uK hr ho h ha oX hu j hj
  refine ⟨λn listed s R Φ a w uK ho h ha oX hu=>?_,λn listed s R Φ a w uK hr ho h ha oX hu j hj=>?_⟩
  .cases n with
   | zero=>simp [BI] at ho
   | succ n =>
    simp only [BI,Bool.and_eq_true,beq_iff_eq] at ho;obtain ⟨qT,D5,xM⟩:=ho;refine ⟨by rw [qT];simp,λj hj=>?_⟩;rw [qT] at hj;rcases List.mem_cons.1 hj with rfl|hj
    .exact one n listed s R Φ a w uK (by rw [qT];simp) D5 h ha oX hu
    .exact more n listed s R Φ a w uK (λj hj=>by rw [qT];exact List.mem_cons_of_mem _ hj) xM h ha oX hu j hj
  .simp only [BI,Bool.and_eq_true] at ho;simp only [FU] at hj;rcases List.mem_cons.1 hj with rfl|hj
   .exact one n listed s R Φ a w uK (hr _ (by simp [FU])) ho.1 h ha oX hu
   .exact more n listed s R Φ a w uK (λj hj=>hr j (by simp only [FU];exact List.mem_cons_of_mem _ hj)) ho.2 h ha oX hu j hj
theorem a8w{wr o s L K p}(hwf:M6 L s)(h:cZ P W wr o s L [] (λ_ _=>True) K=some p)(hp:p)(hu:OI P o s L K=false)(hnl:∀ t x,o.op≠.load t x):
  ∃ sv,K sv/\(∀ k o,sv=SV.ptr k o->(bU k L).isSome=true)/\∀ w',(execOp (s.val L) o).run P w'=.ok (.value (sv.val L)) w':=by
 have K6:∀ {p:Prop},iJ P o (s.val L) (λv=>K (.v v))=false->iZ P wr o (s.val L) W none (λv=>K (.v v))=some p->p ->
   ∃ sv,K sv/\(∀ k o,sv=SV.ptr k o->(bU k L).isSome=true)/\∀ w',(execOp (s.val L) o).run P w'=.ok (.value (sv.val L)) w':=by
  intro p hf hq hp;obtain ⟨v,h1,h2⟩:=M7 W W hq hf hp;exact ⟨.v v,h2,λk o e=>(by cases e),λw'=>h1 w'⟩
 unfold cZ at h;split at h
 .rename_i x hop;cases h;exact ⟨s.ev x,hp,λk o e=>hwf.ev e,λw'=>by simp [execOp,hop,fO.val]⟩
 .rename_i x hop;cases h;exact ⟨s.ev x,hp,λk o e=>hwf.ev e,λw'=>by simp [execOp,hop,fO.val]⟩
 .rename_i x hop;split at h
  .rename_i k off hx;cases h;obtain ⟨T,hT⟩:=Option.isSome_iff_exists.1 (hwf.ev hx);refine ⟨.ptr k off,hp,λk' o' e=>by cases e;rw [hT];rfl,λw'=>?_⟩;have hv:s.val L x=.pointer (some ⟨T.b,off,none⟩):=by rw [fO.val,hx,fA hT]
   simp [execOp,hop,hv,fA hT]
  .exact K6 (by simp [iJ,hop]) h hp
 .rename_i t x f hop;split at h
  .rename_i k off hx;cases h;obtain ⟨T,hT⟩:=Option.isSome_iff_exists.1 (hwf.ev hx);obtain ⟨off',h1,h2⟩:=wF hT hp;refine ⟨.ptr k off',h2,λk' o' e=>by cases e;rw [hT];rfl,λw'=>?_⟩;have hv:s.val L x=.pointer (some ⟨T.b,off,none⟩):=by rw [fO.val,hx,fA hT]
   simp [execOp,hop,hv,fA hT,h1 w',Result.andThen]
  .exact K6 (by simp [iJ,hop]) h hp
 .rename_i t x i hop;split at h
  .rename_i k off hx;cases h;obtain ⟨T,hT⟩:=Option.isSome_iff_exists.1 (hwf.ev hx);obtain ⟨off',h1,h2⟩:=DB hT hp;refine ⟨.ptr k off',h2,λk' o' e=>by cases e;rw [hT];rfl,λw'=>?_⟩;have hv:s.val L x=.pointer (some ⟨T.b,off,none⟩):=by rw [fO.val,hx,fA hT]
   simp [execOp,hop,hv,fA hT,h1 w',Result.andThen]
  .exact K6 (by simp [iJ,hop]) h hp
 .rename_i t x hop;exact absurd hop (hnl t x)
 .rename_i hop;unfold OI at hu;simp only [hop] at hu;simp [iJ,hop] at hu
 .rename_i n1 n2 n3 n4 n5 n6 n7;have eI:iJ P o (s.val L) (λv=>K (.v v))=false:=by
   clear h K6;unfold OI at hu;split at hu
   .rename_i t x hop;exact absurd hop (n6 t x)
   .rename_i x hop;exact absurd hop (n1 x)
   .rename_i x hop;exact absurd hop (n2 x)
   .rename_i x hop;exact absurd hop (n3 x)
   .rename_i t x f hop;exact absurd hop (n4 t x f)
   .rename_i t x f hop;exact absurd hop (n5 t x f)
   .exact hu
  rw [eI] at h;simp only at h;exact K6 eI h hp
theorem BK{wr o s L R Φ cJ Q0 a w K}(h:prS P W wr o s L Q0 cJ K)(ha:At ds G W s L R Φ a w):
  ∃ sv v',K sv/\(∀ k o,sv=SV.ptr k o->(bU k L).isSome=true)/\(vZ (sv.val L)=false->v'=sv.val L)/\∀ w',(∃ S,Ctx W w' (Q0++S) cJ)->(execOp a.eval o).run P w'=.ok (.value v') w':=by
 have hev:=uB s L;unfold prS at h;split at h
 .rename_i cc x y hop;split at h
  .rename_i b hc;have JB:a.eval cc=.bool b:=by rw [ha.BH.eval (by rw [hev,hc];rfl),hev,hc]
   cases b with
   | true =>
    exact ⟨s.ev x,a.eval x,h,λk o e=>ha.wf.ev e,λhu=>by rw [ha.BH.eval (by rw [hev];exact hu),hev];rfl,λw' _=>by simp only [execOp,hop,JB,asBool,Sem.run_bind,Sem.run_pure,Result.andThen,if_true]⟩
   | false =>
    exact ⟨s.ev y,a.eval y,h,λk o e=>ha.wf.ev e,λhu=>by rw [ha.BH.eval (by rw [hev];exact hu),hev];rfl,λw' _=>by simp [execOp,hop,JB,asBool,Sem.run_bind,Sem.run_pure,Result.andThen]⟩
  .exact h.elim
 .rename_i t x hop;split at h
  .exact h.elim
  .split at h
   .rename_i ho;simp only [Bool.and_eq_true] at ho;rw [xH ha.BH ho.1 ho.2,show (s.fr L).eval=s.val L from funext hev];obtain ⟨v,h1,h2⟩:=nS h;refine ⟨.v v,v,h2,λk o e=>(by cases e),λ_=>rfl,λw' ⟨S,hS⟩=>?_⟩;obtain ⟨u,h3,h4⟩:=M8 (w:=w') (h1 w' _ hS);subst h4;exact h3 w' rfl
   .exact h.elim
 .rename_i np nl;split at h
  .rename_i ho;simp only [Bool.and_eq_true] at ho;rw [xH ha.BH ho.1 ho.2,show (s.fr L).eval=s.val L from funext hev];split at h
   .exact h.elim
   .rename_i hu;unfold OH at h;split at h
    .rename_i p hp;obtain ⟨sv,h1,h2,h3⟩:=a8w ha.wf hp h (by simpa using hu) nl;exact ⟨sv,_,h1,h2,λ_=>rfl,λw' _=>h3 w'⟩
    .exact h.elim
  .exact h.elim
theorem OL{Q L0 Q0 cJ Kf K fin}(hsel:Region.noSelect ops=true)(hD:∀ (j:Nat) (o:Oper) (t:Nat),ops[j]? = some o->o.dst=some t->D t)(hK:∀ s L R Φ a w,Kf s L R Φ->At ds G W s L R Φ a w->Ext L0 L->bY D s0 (s.fr L)->K a w):
  ∀ (ord:List (Nat × Bool)) (listed:Array Bool) (s:fO) (L:List Tr) (R:List Own) (Φ:PW) (a:Act) (w:World),(∀ i∈jT ord,Region.ready .any ops (fin.setIfInBounds i false)=[i])->AL ops ord listed=true->bJ (ord.map (·.1)) listed=fin ->
   fS P W wr B7 ops Q0 cJ ord s L R Φ Kf->At ds G W s L R Φ a w->(∀ w F,Ctx W w (R++F) Φ->Ctx W w (Q0++F) cJ)->Ext L0 L->bY D s0 (s.fr L)->mT P .any ops (eR Q) (λw'=>∃ S,Ctx W w' (Q0++S) cJ) (λl=>l=fin) K ord.length listed a w
 | [],listed,s,L,R,Φ,a,w,_,_,hf,h,ha,oX,he,hu=>⟨hf,hK s L R Φ a w h ha he hu⟩
 | (i,still) :: r,listed,s,L,R,Φ,a,w,hl,ho,hf,h,ha,oX,he,hu=>by
  unfold fS at h;split at h
  .exact h.elim
  rename_i o hi;have hd:∀ t,o.dst=some t->D t:=λt ht=>hD i o t hi ht;have hw:∃ S,Ctx W w (Q0++S) cJ:=⟨_,oX _ _ ha.ctx⟩;obtain ⟨s',cN,eI,h⟩:=fB hD h ha hu;cases still with
  | true =>
   simp only [AL,Bool.and_eq_true] at ho;obtain ⟨⟨qT,D5⟩,xM⟩:=ho;have hr:i∈Region.ready .any ops listed:=by simpa using qT
   have hE:∀ l:Array Bool,l.setIfInBounds i true=fin->i∈Region.ready .any ops l->∀ j∈Region.ready .any ops l,j=i:=by
    intro l hl' hil j hj;have e:l=fin.setIfInBounds i false:=by
     have h0:=(mem_ready.1 hil).1;rw [<-hl'];have h2:l[i]? = some false:=by
      rw [Array.getD_eq_getD_getElem?] at h0;cases hx:l[i]? with
      | none=>rw [hx] at h0;cases h0
      | some b=>rw [hx] at h0;simp at h0;subst h0;rfl
     have hlt:i<l.size:=(Array.getElem?_eq_some_iff.1 h2).1;apply Array.ext_getElem?;intro k;by_cases hk:i=k
     .subst hk;rw [Array.getElem?_setIfInBounds_self_of_lt (by simpa using hlt),h2]
     .rw [Array.getElem?_setIfInBounds_ne hk,Array.getElem?_setIfInBounds_ne hk]
    rw [e,hl i (by simp [jT])] at hj;simpa using hj
   have take:∀ (s':fO) (sv:SV) (v':Value),At ds G W s' L R Φ a w->bY D s0 (s'.fr L)->(∀ k o,sv=SV.ptr k o->(bU k L).isSome=true)->(vZ (sv.val L)=false->v'=sv.val L) ->
     YieldsIf P ops (λw'=>∃ S,Ctx W w' (Q0++S) cJ) o v' a->fS P W wr B7 ops Q0 cJ r (s'.put o.dst sv) L R Φ Kf ->
     mT P .any ops (eR Q) (λw'=>∃ S,Ctx W w' (Q0++S) cJ) (λl=>l=fin) K ((i,true) :: r).length listed a w:=by
    intro s' sv v' cN eI hp hv hy hk;have ih:=OL (Q:=Q) hsel hD hK r (listed.setIfInBounds i true) (s'.put o.dst sv) L R Φ (a.put o.dst v') w (λj hj=>hl j (by simp [jT,hj])) xM hf hk (cN.put o.dst (Ext.refl _) hp cN.ctx cN.st hv) oX he (eI.xK cN.wf (Ext.refl _) hd);exact O8 hi (Region.noSelect_spec hsel) (λ_ _ _ h=>h) hE r.length listed a w (Region.free_spec hi D5) hr hy hw ih
   rcases h with ⟨qY,h⟩|⟨qY,h⟩
   .obtain ⟨sv,v',h1,h2,h3,h4⟩:=BK h cN;exact take s' sv v' cN eI h2 h3 (.inl ⟨qY,h4⟩) h1
   .exact take s' (.v undef) undef cN eI (λk o e=>by cases e) (λ_=>rfl) (.inr ⟨qY,rfl⟩) h
  | false =>
   simp only [AL,Bool.and_eq_true,beq_iff_eq] at ho;obtain ⟨qT,D5⟩:=ho;refine ⟨by rw [qT];simp,λj hj=>?_⟩;rw [qT] at hj;have hj:j=i:=by simpa using hj
   subst hj;unfold wpOp;simp only [hi];rcases h with ⟨qY,h⟩|⟨qY,h⟩
   .simp only [qY,if_true];have:=cN.st;refine .inl (Oper.l9 (sW h cN.BH cN.wf cN.ctx λsv L' R' aX v' w' hk hst qP hp hc hv=>⟨⟨_,hk.1 _ _ hc⟩,?_⟩));exact OL hsel hD hK r _ _ _ _ _ _ _ (λj hj=>hl j (by simp [jT,hj])) D5 hf hk.2 (cN.put o.dst qP hp hc hst hv) hk.1 (he.trans qP) (eI.xK cN.wf qP hd)
   .simp only [qY,Bool.false_eq_true,if_false];exact ⟨hw,OL hsel hD hK r _ _ _ _ _ _ _ (λj hj=>hl j (by simp [jT,hj])) D5 hf h (cN.put o.dst (Ext.refl _) (λk o e=>by cases e) cN.ctx cN.st (λ_=>rfl)) oX he (eI.xK cN.wf (Ext.refl _) hd)⟩
theorem mV{x:Array Bool}{i b}(h:(x.setIfInBounds i true).getD b true=false):b≠i/\x.getD b true=false:=by
 rw [Array.getD_eq_getD_getElem?] at h;by_cases e:i=b
 .subst e;rcases Nat.lt_or_ge i x.size with h'|h'
  .rw [Array.getElem?_setIfInBounds_self_of_lt h'] at h;simp at h
  .rw [Array.getElem?_eq_none (by simpa using h')] at h;simp at h
 .rw [Array.getElem?_setIfInBounds_ne e] at h;exact ⟨λhh=>e hh.symm,by rw [Array.getD_eq_getD_getElem?];exact h⟩
def SD(ops:Array Oper)(W w0:World)(Q0:List Own)(cJ:PW)(dl:Option Nat)(Q1:List Own)(cL:PW)(B:List Nat)(x:Array Bool)(w:World):Prop:=eT ops x=true/\(∃ S,Ctx W w (Q0++S) cJ)/\((∃ b∈B,x.getD b true=false)->w=w0)/\∀ d,dl=some d->x.getD d true=false->∃ S,Ctx W w (Q1++S) cL
theorem SD.down{W w0 Q0 Q1 cJ cL dl B i x w}(hi:i∈Region.ready .any ops x)(h:SD ops W w0 Q0 cJ dl Q1 cL B x w):SD ops W w0 Q0 cJ dl Q1 cL B (x.setIfInBounds i true) w :=
 ⟨jJ h.1 hi,h.2.1,λ⟨b,hb,hx⟩=>h.2.2.1 ⟨b,hb,(mV hx).2⟩,λd hd hx=>h.2.2.2 d hd (mV hx).2⟩
inductive Wt(ops:Array Oper)(b:Nat):Nat->Prop
 | one {k:Nat} {o:Oper} {e:Edge}:ops[k]? = some o->e∈o.after->Region.binds .any e=true->e.on=b->Wt ops b k
 | more {k:Nat} {o:Oper} {e:Edge}:ops[k]? = some o->e∈o.after->Region.binds .any e=true->Wt ops b e.on->Wt ops b k
theorem XL{b}:∀ (l acc:List Nat),(∀ k∈acc,Wt ops b k)->∀ k∈waits ops b l acc,Wt ops b k
 | [],_,h,k,hk=>h k hk
 | j :: r,acc,h,k,hk=>by
  unfold waits at hk;refine XL r _ ?_ k hk;intro k hk;split at hk
  .rename_i o ho;split at hk
   .rename_i ha;rcases List.mem_cons.1 hk with rfl|hk
    .simp only [Array.any_eq_true',Bool.and_eq_true,Bool.or_eq_true] at ha;obtain ⟨e,he,hbd,hon⟩:=ha;rcases hon with hon|hon
     .exact .one ho he hbd (Nat.eq_of_beq_eq_true hon)
     .exact .more ho he hbd (h _ (iR.1 hon))
    .exact h k hk
   .exact h k hk
  .exact h k hk
theorem Wt.listed{b x}(hc:eT ops x=true){k}(h:Wt ops b k):(∀ (o:Oper) (e:Edge),ops[k]? = some o->e∈o.after->Region.binds .any e=true->x.getD e.on false=true)->x.getD b false=true:=by
 induction h with
 | one ho he hb hon=>intro hall;rw [<-hon];exact hall _ _ ho he hb
 | @more k o e ho he hb _ ih =>
  intro hall;have h1:=hall _ _ ho he hb;refine ih λo' e' ho' he' hb'=>?_;have hlt:e.on<ops.size:=(Array.getElem?_eq_some_iff.1 ho').1;have h2:=List.all_eq_true.1 hc e.on (List.mem_range.2 hlt);have h3:x.getD e.on true=true:=by
   rw [Array.getD_eq_getD_getElem?] at h1 ⊢;cases hx:x[e.on]? with
   | none=>rfl
   | some c=>rw [hx] at h1;simpa using h1
  rw [h3,ho'] at h2;simp only [Bool.not_true,Bool.false_or] at h2;have h4:=List.all_eq_true.1 h2 e' (by simpa using he');rw [hb'] at h4;simpa using h4
theorem Wt.later{b d x}(hc:eT ops x=true)(h:Wt ops b d)(hb:x.getD b true=false):x.getD d true=false:=by
 cases hd:x.getD d true with
 | false=>rfl
 | true =>
  exfalso;have h3:=h.listed hc λo e ho he hbd=>by
   have hlt:d<ops.size:=(Array.getElem?_eq_some_iff.1 ho).1;have h2:=List.all_eq_true.1 hc d (List.mem_range.2 hlt);rw [hd,ho] at h2;simp only [Bool.not_true,Bool.false_or] at h2;have h4:=List.all_eq_true.1 h2 e (by simpa using he);rw [hbd] at h4;simpa using h4
  rw [Array.getD_eq_getD_getElem?] at h3 hb;cases hx:x[b]? with
  | none=>rw [hx] at h3;cases h3
  | some c=>rw [hx] at h3 hb;simp at h3 hb;rw [h3] at hb;cases hb
theorem SD.mono{W w0 Q0 Q1 cJ cL dl B rd}(ME:uC ops rd B=true){i}(S5:dl≠some i)(x j w w')(hi:i∈Region.ready .any ops x)(hj:j∈Region.ready .any ops x)(hji:j≠i)(h:SD ops W w0 Q0 cJ dl Q1 cL B x w)(hrd:dN j rd=true->w'=w)(h':SD ops W w0 Q0 cJ dl Q1 cL B ((x.setIfInBounds i true).setIfInBounds j true) w'):SD ops W w0 Q0 cJ dl Q1 cL B (x.setIfInBounds j true) w':=by
 refine ⟨jJ h.1 hj,h'.2.1,λ⟨b,hb,hx⟩=>?_,λd hd hx=>h'.2.2.2 d hd (by rw [getD_set_ne true (Ne.symm (mV hx).1),getD_set_ne true (λe=>S5 (by rw [hd,e]))];exact (mV hx).2)⟩;obtain ⟨hbj,hxb⟩:=mV hx;by_cases hbi:b=i
 .subst hbi;have hw:=h.2.2.1 ⟨b,hb,hxb⟩;cases hm:dN j rd with
  | true=>rw [hrd hm,hw]
  | false =>
   exfalso;unfold uC at ME;have h1:=List.all_eq_true.1 ME b hb;simp only [Bool.and_eq_true] at h1;obtain ⟨_,o,ho,hall⟩:=mem_ready.1 hj;have hlt:j<ops.size:=(Array.getElem?_eq_some_iff.1 ho).1;have h2:=List.all_eq_true.1 h1.2 j (List.mem_range.2 hlt);rw [hm] at h2;simp only [Bool.false_or] at h2;have qY:=XL (ops:=ops) (b:=b) _ [] (λk hk=>by cases hk) j (iR.1 h2);have h3:=qY.listed h.1 λo' e ho' he hbd=>by
    rw [ho] at ho';cases ho';exact hall e he hbd
   rw [Array.getD_eq_getD_getElem?] at h3 hxb;cases hx':x[b]? with
   | none=>rw [hx'] at h3;cases h3
   | some c=>rw [hx'] at h3 hxb;simp at h3 hxb;rw [h3] at hxb;cases hxb
 .refine h'.2.2.1 ⟨b,hb,?_⟩;rw [getD_set_ne true (Ne.symm hbj),getD_set_ne true (Ne.symm hbi)];exact hxb
theorem a1O{Q w0 w Q0 Q1 cJ cL dl B rd E K fin n i o v a listed}(hsel:Region.noSelect ops=true)(ME:uC ops rd B=true)(S5:dl≠some i)(hEf:∀ x,E x->x=fin)(hl:Region.ready .any ops (fin.setIfInBounds i false)=[i])(hi:ops[i]? = some o)(hr:i∈Region.ready .any ops listed)(hf:Region.free .any ops listed i=true)(hy:YieldsIf P ops (λw=>∃ x,i∈Region.ready .any ops x/\SD ops W w0 Q0 cJ dl Q1 cL B x w) o v a)(hS:SD ops W w0 Q0 cJ dl Q1 cL B listed w)(H:mU P .any ops (eR Q) (SD ops W w0 Q0 cJ dl Q1 cL B) (λj=>dN j rd) E K n (listed.setIfInBounds i true) (a.put o.dst v) w):mU P .any ops (eR Q) (SD ops W w0 Q0 cJ dl Q1 cL B) (λj=>dN j rd) E K (n+1) listed a w:=by
 refine a3k hi (Region.noSelect_spec hsel) (λ_ _ _ h=>h) (λl hl' hil j hj=>?_) (λx w hi h=>h.down hi) (SD.mono ME S5) n listed a w (Region.free_spec hi hf) hr hy hS H;have hl':=hEf _ hl';have e:l=fin.setIfInBounds i false:=by
  have h0:=(mem_ready.1 hil).1;rw [<-hl'];have h2:l[i]? = some false:=by
   rw [Array.getD_eq_getD_getElem?] at h0;cases hx:l[i]? with
   | none=>rw [hx] at h0;cases h0
   | some b=>rw [hx] at h0;simp at h0;subst h0;rfl
  have hlt:i<l.size:=(Array.getElem?_eq_some_iff.1 h2).1;apply Array.ext_getElem?;intro k;by_cases hk:i=k
  .subst hk;rw [Array.getElem?_setIfInBounds_self_of_lt (by simpa using hlt),h2]
  .rw [Array.getElem?_setIfInBounds_ne hk,Array.getElem?_setIfInBounds_ne hk]
 rw [e,hl] at hj;simpa using hj
theorem BL{Q L R Φ cJ cL Q0 Q1 dl w0 w B rd Kf K E fin m}(hsel:Region.noSelect ops=true)(ME:uC ops rd B=true)(hEf:∀ x,E x->x=fin)(hD:∀ (j:Nat) (o:Oper) (t:Nat),ops[j]? = some o->o.dst=some t->D t):
  ∀ (T:List Nat) (listed:Array Bool) (s:fO) (a:Act) (_:∀ i∈T,dl≠some i) (_:∀ s a,Kf s->At ds G W s L R Φ a w->bY D s0 (s.fr L)->SD ops W w0 Q0 cJ dl Q1 cL B (bJ T listed) w->mU P .any ops (eR Q) (SD ops W w0 Q0 cJ dl Q1 cL B) (λj=>dN j rd) E K m (bJ T listed) a w),
   (∀ i∈T,Region.ready .any ops (fin.setIfInBounds i false)=[i])->lA ops T listed=true->ltS P W wr ops L Q0 cJ T s Kf->At ds G W s L R Φ a w->bY D s0 (s.fr L)->SD ops W w0 Q0 cJ dl Q1 cL B listed w ->
   mU P .any ops (eR Q) (SD ops W w0 Q0 cJ dl Q1 cL B) (λj=>dN j rd) E K (T.length+m) listed a w
 | [],listed,s,a,S5,hK,_,_,h,ha,hu,hS=>by simp only [List.length_nil,Nat.zero_add];exact hK s a h ha hu hS
 | i :: r,listed,s,a,S5,hK,hl,ho,h,ha,hu,hS=>by
  simp only [lA,Bool.and_eq_true] at ho;obtain ⟨⟨qT,D5⟩,xM⟩:=ho;unfold ltS at h;split at h
  .exact h.elim
  rename_i o hi;have hd:∀ t,o.dst=some t->D t:=λt ht=>hD i o t hi ht;have take:∀ (s':fO) (sv:SV) (v':Value),At ds G W s' L R Φ a w->bY D s0 (s'.fr L)->(∀ k o,sv=SV.ptr k o->(bU k L).isSome=true)->(vZ (sv.val L)=false->v'=sv.val L) ->
    YieldsIf P ops (λw=>∃ x,i∈Region.ready .any ops x/\SD ops W w0 Q0 cJ dl Q1 cL B x w) o v' a->ltS P W wr ops L Q0 cJ r (s'.put o.dst sv) Kf ->
    mU P .any ops (eR Q) (SD ops W w0 Q0 cJ dl Q1 cL B) (λj=>dN j rd) E K ((i :: r).length+m) listed a w:=by
   intro s' sv v' cN eI hp hv hy hk;have ih:=BL (Q:=Q) hsel ME hEf hD r (listed.setIfInBounds i true) (s'.put o.dst sv) (a.put o.dst v') (λj hj=>S5 j (List.mem_cons_of_mem _ hj)) hK (λj hj=>hl j (List.mem_cons_of_mem _ hj)) xM hk (cN.put o.dst (Ext.refl _) hp cN.ctx cN.st hv) (eI.xK cN.wf (Ext.refl _) hd) (hS.down (by simpa using qT));rw [show (i :: r).length+m=(r.length+m)+1 by simp;omega];exact a1O hsel ME (S5 i (by simp)) hEf (hl i (by simp)) hi (by simpa using qT) D5 hy hS ih
  obtain ⟨s',cN,eI,h⟩:=fB hD h ha hu;rcases h with ⟨qY,h⟩|⟨qY,h⟩
  .obtain ⟨sv,v',h1,h2,h3,h4⟩:=BK h cN;exact take s' sv v' cN eI h2 h3 (.inl ⟨qY,λw' ⟨x,_,hx⟩=>h4 w' hx.2.1⟩) h1
  .exact take s' (.v undef) undef cN eI (λk o e=>by cases e) (λ_=>rfl) (.inr ⟨qY,rfl⟩) h
theorem kU{b}:∀ (T:List Nat) (x:Array Bool),(b∈T\/x.getD b true=true)->(bJ T x).getD b true=true
 | [],x,h=>by rcases h with h|h;cases h;exact h
 | i :: r,x,h=>by
  unfold bJ;refine kU r _ ?_;by_cases hbr:b∈r
  .exact .inl hbr
  .right
   cases hc:(x.setIfInBounds i true).getD b true with
   | true=>rfl
   | false =>
    obtain ⟨h1,h2⟩:=mV hc;rcases h with h|h
    .rcases List.mem_cons.1 h with h|h
     .exact absurd h h1
     .exact absurd h hbr
    .rw [h] at h2;cases h2
theorem XM{Q L R Φ cJ Q0 w B rd Kf K E fin m}(hsel:Region.noSelect ops=true)(ME:uC ops rd B=true)(hEf:∀ x,E x->x=fin)(hD:∀ (j:Nat) (o:Oper) (t:Nat),ops[j]? = some o->o.dst=some t->D t):
  ∀ (T:List Nat) (listed:Array Bool) (s:fO) (a:Act) (_:∀ s a,Kf s->At ds G W s L R Φ a w->bY D s0 (s.fr L)->SD ops W w Q0 cJ none Q0 cJ B (bJ T listed) w->mU P .any ops (eR Q) (SD ops W w Q0 cJ none Q0 cJ B) (λj=>dN j rd) E K m (bJ T listed) a w),
   (∀ i∈T,Region.ready .any ops (fin.setIfInBounds i false)=[i])->lA ops T listed=true->a8u P W wr ops L R Φ Q0 cJ B T s Kf->At ds G W s L R Φ a w->bY D s0 (s.fr L)->SD ops W w Q0 cJ none Q0 cJ B listed w ->
   mU P .any ops (eR Q) (SD ops W w Q0 cJ none Q0 cJ B) (λj=>dN j rd) E K (T.length+m) listed a w
 | [],listed,s,a,hK,_,_,h,ha,hu,hS=>by simp only [List.length_nil,Nat.zero_add];exact hK s a h ha hu hS
 | i :: r,listed,s,a,hK,hl,ho,h,ha,hu,hS=>by
  simp only [lA,Bool.and_eq_true] at ho;obtain ⟨⟨qT,D5⟩,xM⟩:=ho;unfold a8u at h;split at h
  .exact h.elim
  rename_i o hi;have hd:∀ t,o.dst=some t->D t:=λt ht=>hD i o t hi ht;have take:∀ (s':fO) (sv:SV) (v':Value),At ds G W s' L R Φ a w->bY D s0 (s'.fr L)->(∀ k o,sv=SV.ptr k o->(bU k L).isSome=true)->(vZ (sv.val L)=false->v'=sv.val L) ->
    YieldsIf P ops (λw'=>∃ x,i∈Region.ready .any ops x/\SD ops W w Q0 cJ none Q0 cJ B x w') o v' a->a8u P W wr ops L R Φ Q0 cJ B r (s'.put o.dst sv) Kf ->
    mU P .any ops (eR Q) (SD ops W w Q0 cJ none Q0 cJ B) (λj=>dN j rd) E K ((i :: r).length+m) listed a w:=by
   intro s' sv v' cN eI hp hv hy hk;have ih:=XM (Q:=Q) hsel ME hEf hD r (listed.setIfInBounds i true) (s'.put o.dst sv) (a.put o.dst v') hK (λj hj=>hl j (List.mem_cons_of_mem _ hj)) xM hk (cN.put o.dst (Ext.refl _) hp cN.ctx cN.st hv) (eI.xK cN.wf (Ext.refl _) hd) (hS.down (by simpa using qT));rw [show (i :: r).length+m=(r.length+m)+1 by simp;omega];exact a1O hsel ME (λe=>by cases e) hEf (hl i (by simp)) hi (by simpa using qT) D5 hy hS ih
  obtain ⟨s',cN,eI,h⟩:=fB hD h ha hu;rcases h with ⟨qY,h⟩|⟨qY,h⟩
  .split at h
   .rename_i hB;obtain ⟨sv,v',h1,h2,h3,h4⟩:=S4 h cN;exact take s' sv v' cN eI h2 h3 (.inl ⟨qY,λw' ⟨x,hix,hx⟩=>by rw [hx.2.2.1 ⟨i,iR.1 hB,(mem_ready.1 hix).1⟩];exact h4⟩) h1
   .obtain ⟨sv,v',h1,h2,h3,h4⟩:=BK h cN;exact take s' sv v' cN eI h2 h3 (.inl ⟨qY,λw' ⟨x,_,hx⟩=>h4 w' hx.2.1⟩) h1
  .exact take s' (.v undef) undef cN eI (λk o e=>by cases e) (λ_=>rfl) (.inr ⟨qY,rfl⟩) h
theorem U6{Q L R Φ cJ cL Q0 Q1 dl C w B rd Kf K E fin m}(hsel:Region.noSelect ops=true)(ME:uC ops rd B=true)(S5:dN dl rd=false)(hCw:∀ c∈C,Wt ops c dl)(hEf:∀ x,E x->x=fin)(hD:∀ (j:Nat) (o:Oper) (t:Nat),ops[j]? = some o->o.dst=some t->D t):
  ∀ (T:List Nat) (listed:Array Bool) (s:fO) (a:Act) (_:∀ s a,Kf s->At ds G W s L R Φ a w->bY D s0 (s.fr L)->SD ops W w Q0 cJ (some dl) Q1 cL B (bJ T listed) w->mU P .any ops (eR Q) (SD ops W w Q0 cJ (some dl) Q1 cL B) (λj=>dN j rd) E K m (bJ T listed) a w),
   (∀ i∈T,i∈rd)->(∀ i∈T,Region.ready .any ops (fin.setIfInBounds i false)=[i])->lA ops T listed=true->U5 P W wr ops L R Φ Q0 cJ C Q1 cL B T s Kf->At ds G W s L R Φ a w->bY D s0 (s.fr L)->SD ops W w Q0 cJ (some dl) Q1 cL B listed w ->
   mU P .any ops (eR Q) (SD ops W w Q0 cJ (some dl) Q1 cL B) (λj=>dN j rd) E K (T.length+m) listed a w
 | [],listed,s,a,hK,_,_,_,h,ha,hu,hS=>by simp only [List.length_nil,Nat.zero_add];exact hK s a h ha hu hS
 | i :: r,listed,s,a,hK,hTr,hl,ho,h,ha,hu,hS=>by
  simp only [lA,Bool.and_eq_true] at ho;obtain ⟨⟨qT,D5⟩,xM⟩:=ho;unfold U5 at h;split at h
  .exact h.elim
  rename_i o hi;have hd:∀ t,o.dst=some t->D t:=λt ht=>hD i o t hi ht;have take:∀ (s':fO) (sv:SV) (v':Value),At ds G W s' L R Φ a w->bY D s0 (s'.fr L)->(∀ k o,sv=SV.ptr k o->(bU k L).isSome=true)->(vZ (sv.val L)=false->v'=sv.val L) ->
    YieldsIf P ops (λw'=>∃ x,i∈Region.ready .any ops x/\SD ops W w Q0 cJ (some dl) Q1 cL B x w') o v' a->U5 P W wr ops L R Φ Q0 cJ C Q1 cL B r (s'.put o.dst sv) Kf ->
    mU P .any ops (eR Q) (SD ops W w Q0 cJ (some dl) Q1 cL B) (λj=>dN j rd) E K ((i :: r).length+m) listed a w:=by
   intro s' sv v' cN eI hp hv hy hk;have ih:=U6 (Q:=Q) hsel ME S5 hCw hEf hD r (listed.setIfInBounds i true) (s'.put o.dst sv) (a.put o.dst v') hK (λj hj=>hTr j (List.mem_cons_of_mem _ hj)) (λj hj=>hl j (List.mem_cons_of_mem _ hj)) xM hk (cN.put o.dst (Ext.refl _) hp cN.ctx cN.st hv) (eI.xK cN.wf (Ext.refl _) hd) (hS.down (by simpa using qT));rw [show (i :: r).length+m=(r.length+m)+1 by simp;omega]
   exact a1O hsel ME (λe=>by have e:=Option.some.inj e;rw [e,iR.2 (hTr i (by simp))] at S5;cases S5) hEf (hl i (by simp)) hi (by simpa using qT) D5 hy hS ih
  obtain ⟨s',cN,eI,h⟩:=fB hD h ha hu;rcases h with ⟨qY,h⟩|⟨qY,h⟩
  .split at h
   .rename_i hB;obtain ⟨sv,v',h1,h2,h3,h4⟩:=S4 h cN;exact take s' sv v' cN eI h2 h3 (.inl ⟨qY,λw' ⟨x,hix,hx⟩=>by rw [hx.2.2.1 ⟨i,iR.1 hB,(mem_ready.1 hix).1⟩];exact h4⟩) h1
   .split at h
    .rename_i hC;obtain ⟨sv,v',h1,h2,h3,h4⟩:=BK h cN;exact take s' sv v' cN eI h2 h3 (.inl ⟨qY,λw' ⟨x,hix,hx⟩=>h4 w' (hx.2.2.2 dl rfl ((hCw i (iR.1 hC)).later hx.1 (mem_ready.1 hix).1))⟩) h1
    .obtain ⟨sv,v',h1,h2,h3,h4⟩:=BK h cN;exact take s' sv v' cN eI h2 h3 (.inl ⟨qY,λw' ⟨x,_,hx⟩=>h4 w' hx.2.1⟩) h1
  .exact take s' (.v undef) undef cN eI (λk o e=>by cases e) (λ_=>rfl) (.inr ⟨qY,rfl⟩) h
theorem S6{Q L0 w0 Q0 cJ B rd Kf K fin}(hsel:Region.noSelect ops=true)(ME:uC ops rd B=true)(hD:∀ (j:Nat) (o:Oper) (t:Nat),ops[j]? = some o->o.dst=some t->D t)(hK:∀ s L R Φ a w,Kf s L R Φ->At ds G W s L R Φ a w->Ext L0 L->bY D s0 (s.fr L)->K a w):
  ∀ (l:List (Nat × List Nat)) (listed:Array Bool) (s:fO) (L:List Tr) (R:List Own) (Φ:PW) (a:Act) (w:World),eT ops listed=true->(∀ p∈l,∀ i∈p.2,Region.ready .any ops (fin.setIfInBounds i false)=[i])->a3u ops fin l listed=true->dlS P W wr B7 ops Q0 cJ l s L R Φ Kf->At ds G W s L R Φ a w->(∀ w F,Ctx W w (R++F) Φ->Ctx W w (Q0++F) cJ)->Ext L0 L->bY D s0 (s.fr L) ->
   (∀ b∈B,listed.getD b true=true)->(∀ p∈l,dN p.1 rd=false)->mU P .any ops (eR Q) (SD ops W w0 Q0 cJ none Q0 cJ B) (λj=>dN j rd) (λx=>x=fin/\Region.ready .any ops x=[]) K (XJ l) listed a w
 | [],listed,s,L,R,Φ,a,w,_,_,ho,h,ha,oX,he,hu,_,_=>by
  simp only [a3u,Bool.and_eq_true,decide_eq_true_eq,List.isEmpty_iff] at ho;exact ⟨ho,hK _ _ _ _ _ _ h ha he hu⟩
 | (i,T) :: rest,listed,s,L,R,Φ,a,w,uK,hl,ho,h,ha,oX,he,hu,hB,hn=>by
  simp only [a3u,Bool.and_eq_true,beq_iff_eq] at ho;obtain ⟨h1,h2,h3⟩:=ho;unfold dlS at h;split at h
  .exact h.elim
  rename_i o hi;have hd:∀ t,o.dst=some t->D t:=λt ht=>hD i o t hi ht;have hB':∀ b∈B,(listed.setIfInBounds i true).getD b true=true:=λb hb=>by
   cases hc:(listed.setIfInBounds i true).getD b true with
   | true=>rfl
   | false=>have:=(mV hc).2;rw [hB b hb] at this;cases this
  have sd:∀ {w':World} {R':List Own} {aX:PW} {L':List Tr},jH G W w' L' R' aX->(∀ w F,Ctx W w (R'++F) aX->Ctx W w (Q0++F) cJ)->SD ops W w0 Q0 cJ none Q0 cJ B (listed.setIfInBounds i true) w':=λhc a3v =>
   ⟨jJ uK (by rw [h1];simp),⟨_,a3v _ _ hc⟩,λ⟨b,hb,hx⟩=>(by rw [hB' b hb] at hx;cases hx),λd e=>by cases e⟩
  refine ⟨by rw [h1];simp,λj hj=>?_⟩;rw [h1] at hj;have hj:j=i:=by simpa using hj
  subst hj;obtain ⟨s',cN,eI,BD⟩:=fB hD h ha hu;unfold wpOp;simp only [hi];have hnr:=hn (j,T) (by simp);rcases BD with ⟨qY,h⟩|⟨qY,h⟩
  .simp only [qY,if_true];have:=cN.st;refine .inl (Oper.l9 (sW h cN.BH cN.wf cN.ctx λsv L' R' aX v' w' hk hst qP hp hc hv=>⟨sd hc hk.1,λe=>(by rw [hnr] at e;cases e),?_⟩));refine BL hsel ME (λx hx=>hx.1) hD T _ _ _ (λi _ e=>by cases e) (λs a hk' XN M4 hsd=>?_) (hl (j,T) (by simp)) h2 hk.2 (cN.put o.dst qP hp hc hst hv) (eI.xK cN.wf qP hd) (sd hc hk.1);exact S6 hsel ME hD hK rest _ _ _ _ _ _ _ hsd.1 (λp hp'=>hl p (List.mem_cons_of_mem _ hp')) h3 hk' XN hk.1 (he.trans qP) M4 (λb hb=>kU T _ (.inr (hB' b hb))) (λp hp'=>hn p (List.mem_cons_of_mem _ hp'))
  .simp only [qY,Bool.false_eq_true,if_false];refine ⟨sd cN.ctx oX,λe=>(by rw [hnr] at e;cases e),?_⟩;refine BL hsel ME (λx hx=>hx.1) hD T _ _ _ (λi _ e=>by cases e) (λs a hk' XN M4 hsd=>?_) (hl (j,T) (by simp)) h2 h (cN.put o.dst (Ext.refl _) (λk o e=>by cases e) cN.ctx cN.st (λ_=>rfl)) (eI.xK cN.wf (Ext.refl _) hd) (sd cN.ctx oX);exact S6 hsel ME hD hK rest _ _ _ _ _ _ _ hsd.1 (λp hp'=>hl p (List.mem_cons_of_mem _ hp')) h3 hk' XN oX he M4 (λb hb=>kU T _ (.inr (hB' b hb))) (λp hp'=>hn p (List.mem_cons_of_mem _ hp'))
theorem MF{Q L0 w0 Q0 Q1 cJ cL dl B rd Kf K fin}(hsel:Region.noSelect ops=true)(ME:uC ops rd B=true)(S5:dN dl rd=false)(hD:∀ (j:Nat) (o:Oper) (t:Nat),ops[j]? = some o->o.dst=some t->D t)(hK:∀ s L R Φ a w,Kf s L R Φ->At ds G W s L R Φ a w->Ext L0 L->bY D s0 (s.fr L)->K a w):
  ∀ (l:List (Nat × List Nat)) (up:Bool) (listed:Array Bool) (s:fO) (L:List Tr) (R:List Own) (Φ:PW) (a:Act) (w:World),eT ops listed=true->(∀ p∈l,∀ i∈p.2,Region.ready .any ops (fin.setIfInBounds i false)=[i])->a3u ops fin l listed=true->aFw P W wr B7 ops Q0 cJ dl Q1 cL up l s L R Φ Kf->At ds G W s L R Φ a w->(∀ w F,Ctx W w (R++F) Φ->Ctx W w (Q0++F) cJ)->(listed.getD dl true=false->up=true/\∀ w F,Ctx W w (R++F) Φ->Ctx W w (Q1++F) cL)->(∀ p∈l,∀ i∈p.2,i∈rd)->Ext L0 L->bY D s0 (s.fr L) ->
   (∀ b∈B,listed.getD b true=true)->(∀ p∈l,dN p.1 rd=false)->mU P .any ops (eR Q) (SD ops W w0 Q0 cJ (some dl) Q1 cL B) (λj=>dN j rd) (λx=>x=fin/\Region.ready .any ops x=[]) K (XJ l) listed a w
 | [],up,listed,s,L,R,Φ,a,w,_,_,ho,h,ha,oX,_,_,he,hu,_,_=>by
  simp only [a3u,Bool.and_eq_true,decide_eq_true_eq,List.isEmpty_iff] at ho;exact ⟨ho,hK _ _ _ _ _ _ h ha he hu⟩
 | (i,T) :: rest,up,listed,s,L,R,Φ,a,w,uK,hl,ho,h,ha,oX,hup,hrd,he,hu,hB,hn=>by
  simp only [a3u,Bool.and_eq_true,beq_iff_eq] at ho;obtain ⟨h1,h2,h3⟩:=ho;unfold aFw at h;split at h
  .exact h.elim
  rename_i o hi;have hd:∀ t,o.dst=some t->D t:=λt ht=>hD i o t hi ht;have hB':∀ b∈B,(listed.setIfInBounds i true).getD b true=true:=λb hb=>by
   cases hc:(listed.setIfInBounds i true).getD b true with
   | true=>rfl
   | false=>have:=(mV hc).2;rw [hB b hb] at this;cases this
  have sd:∀ {w':World} {R':List Own} {aX:PW} {L':List Tr},jH G W w' L' R' aX->(∀ w F,Ctx W w (R'++F) aX->Ctx W w (Q0++F) cJ)->((listed.setIfInBounds i true).getD dl true=false->∀ w F,Ctx W w (R'++F) aX->Ctx W w (Q1++F) cL)->SD ops W w0 Q0 cJ (some dl) Q1 cL B (listed.setIfInBounds i true) w':=λhc a3v hΨ =>
   ⟨jJ uK (by rw [h1];simp),⟨_,a3v _ _ hc⟩,λ⟨b,hb,hx⟩=>(by rw [hB' b hb] at hx;cases hx),λd e hx=>by cases e;exact ⟨_,hΨ hx _ _ hc⟩⟩
  have aJY:∀ (R':List Own) (aX:PW),aFv dl i up (∀ w F,Ctx W w (R'++F) aX->Ctx W w (Q1++F) cL)->(listed.setIfInBounds i true).getD dl true=false->(up && !(Nat.beq dl i))=true/\∀ w F,Ctx W w (R'++F) aX->Ctx W w (Q1++F) cL:=by
   intro R' aX hq hx;obtain ⟨hne,hx⟩:=mV hx;have hb:Nat.beq dl i=false:=by cases hb:Nat.beq dl i with|false=>rfl|true=>exact absurd (Nat.eq_of_beq_eq_true hb) hne
   have hu:=(hup hx).1;rw [hu] at hq ⊢;unfold aFv at hq;rw [hb] at hq ⊢;exact ⟨rfl,hq⟩
  have hun:∀ (T:List Nat) (x:Array Bool),(bJ T x).getD dl true=false->x.getD dl true=false:=λT x hx=>by
   cases hc:x.getD dl true with
   | false=>rfl
   | true=>rw [kU T x (.inr hc)] at hx;cases hx
  have hTd:∀ i∈T,some dl≠some i:=λk hk e=>by
   cases e;rw [iR.2 (hrd (i,T) (by simp) dl hk)] at S5;cases S5
  refine ⟨by rw [h1];simp,λj hj=>?_⟩;rw [h1] at hj;have hj:j=i:=by simpa using hj
  subst hj;obtain ⟨s',cN,eI,BD⟩:=fB hD h ha hu;unfold wpOp;simp only [hi];have hnr:=hn (j,T) (by simp);rcases BD with ⟨qY,h⟩|⟨qY,h⟩
  .simp only [qY,if_true];have:=cN.st;refine .inl (Oper.l9 (sW h cN.BH cN.wf cN.ctx λsv L' R' aX v' w' hk hst qP hp hc hv=>⟨sd hc hk.1 (λhx=>(aJY _ _ hk.2.1 hx).2),λe=>(by rw [hnr] at e;cases e),?_⟩));refine BL hsel ME (λx hx=>hx.1) hD T _ _ _ hTd (λs a hk' XN M4 hsd=>?_) (hl (j,T) (by simp)) h2 hk.2.2 (cN.put o.dst qP hp hc hst hv) (eI.xK cN.wf qP hd) (sd hc hk.1 (λhx=>(aJY _ _ hk.2.1 hx).2));exact MF hsel ME S5 hD hK rest _ _ _ _ _ _ _ _ hsd.1 (λp hp'=>hl p (List.mem_cons_of_mem _ hp')) h3 hk' XN hk.1 (λhx=>aJY _ _ hk.2.1 (hun _ _ hx)) (λp hp'=>hrd p (List.mem_cons_of_mem _ hp')) (he.trans qP) M4 (λb hb=>kU T _ (.inr (hB' b hb))) (λp hp'=>hn p (List.mem_cons_of_mem _ hp'))
  .simp only [qY,Bool.false_eq_true,if_false];have hq:(listed.setIfInBounds j true).getD dl true=false->∀ w F,Ctx W w (R++F) Φ->Ctx W w (Q1++F) cL:=λhx=>(hup (mV hx).2).2;have hq':aFv dl j up (∀ w F,Ctx W w (R++F) Φ->Ctx W w (Q1++F) cL)\/listed.getD dl true=true:=by
    cases hc:listed.getD dl true with
    | true=>exact .inr rfl
    | false=>left;unfold aFv;split;trivial;split;trivial;exact (hup hc).2
   have hq3:(listed.setIfInBounds j true).getD dl true=false->(up && !(Nat.beq dl j))=true/\∀ w F,Ctx W w (R++F) Φ->Ctx W w (Q1++F) cL:=λhx=>by
    rcases hq' with h|h
    .exact aJY _ _ h hx
    .rw [(mV hx).2] at h;cases h
   refine ⟨sd cN.ctx oX hq,λe=>(by rw [hnr] at e;cases e),?_⟩;refine BL hsel ME (λx hx=>hx.1) hD T _ _ _ hTd (λs a hk' XN M4 hsd=>?_) (hl (j,T) (by simp)) h2 h (cN.put o.dst (Ext.refl _) (λk o e=>by cases e) cN.ctx cN.st (λ_=>rfl)) (eI.xK cN.wf (Ext.refl _) hd) (sd cN.ctx oX hq);exact MF hsel ME S5 hD hK rest _ _ _ _ _ _ _ _ hsd.1 (λp hp'=>hl p (List.mem_cons_of_mem _ hp')) h3 hk' XN oX (λhx=>hq3 (hun _ _ hx)) (λp hp'=>hrd p (List.mem_cons_of_mem _ hp')) he M4 (λb hb=>kU T _ (.inr (hB' b hb))) (λp hp'=>hn p (List.mem_cons_of_mem _ hp'))
theorem pW{Q L0 K}(hsel:Region.noSelect ops=true)(hD:∀ (j:Nat) (o:Oper) (t:Nat),ops[j]? = some o->o.dst=some t->D t)(hK:∀ s L R Φ a w,K s L R Φ->At ds G W s L R Φ a w->Ext L0 L->bY D s0 (s.fr L)->Q .normal a w):
  ∀ (l:List Sg) (listed:Array Bool) (s:fO) (L:List Tr) (R:List Own) (Φ:PW) (a:Act) (w:World),MA ops l listed=true->MC P W wr B7 ops l s L R Φ K->At ds G W s L R Φ a w->Ext L0 L->bY D s0 (s.fr L) ->
   wpAny P .any ops (eR Q) (LC l) listed a w
 | [],listed,s,L,R,Φ,a,w,ho,h,ha,he,hu=>by
  refine ⟨?_,hK _ _ _ _ _ _ h ha he hu⟩;simpa [MA] using ho
 | .bW T none :: rest,listed,s,L,R,Φ,a,w,ho,h,ha,he,hu=>by
  simp only [MA,Bool.and_eq_true] at ho;obtain ⟨⟨qT,D5⟩,xM⟩:=ho;unfold MC at h;exact a1M hsel hD (λs a h ha hu=>pW hsel hD hK rest _ s L R Φ a w xM h ha he hu) qT D5 h ha hu
 | .tree t n :: rest,listed,s,L,R,Φ,a,w,ho,h,ha,he,hu=>by
  simp only [MA,Bool.and_eq_true] at ho;obtain ⟨⟨hc1,qT⟩,xM⟩:=ho;unfold MC at h;obtain ⟨Q0,cJ,xN,hQ0,h⟩:=h;refine xI (S:=λw'=>Ctx W w' (Q0++(L.map Tr.own++G)) cJ) (E:=λl=>l=bJ (a1K t) listed) (K:=λa' w'=>wpAny P .any ops (eR Q) (LC rest) (bJ (a1K t) listed) a' w') ?_ n listed a w ?_
  .rintro l a w1 rfl hk;exact hk
  .exact (FV hsel xN hD (λs R Φ a w hk ha hu=>pW hsel hD hK rest _ s L R Φ a w xM hk ha he hu) t).1 n listed s R Φ a w hc1 qT h ha hQ0 hu
 | .held ord :: rest,listed,s,L,R,Φ,a,w,ho,h,ha,he,hu=>by
  simp only [MA,Bool.and_eq_true] at ho;obtain ⟨⟨⟨qT,hc1⟩,D5⟩,xM⟩:=ho;unfold MC at h;have hl:∀ j∈jT ord,Region.ready .any ops ((bJ (ord.map (·.1)) listed).setIfInBounds j false)=[j]\/eT ops ((bJ (ord.map (·.1)) listed).setIfInBounds j false)=false:=by
   intro j hj;have:=List.all_eq_true.1 D5 j hj;simpa using this
  obtain ⟨Q0,cJ,xN,hQ0,h⟩:=h;refine xI (S:=λw'=>Ctx W w' (Q0++(L.map Tr.own++G)) cJ) (E:=λl=>l=bJ (ord.map (·.1)) listed) (K:=λa' w'=>wpAny P .any ops (eR Q) (LC rest) (bJ (ord.map (·.1)) listed) a' w') ?_ ord.length listed a w ?_
  .rintro l a w1 rfl hk;exact hk
  .exact OK hsel xN hD (λs R Φ a w hk ha hu=>pW hsel hD hK rest _ s L R Φ a w xM hk ha he hu) ord listed s R Φ a w hl hc1 qT rfl h ha hQ0 hu
 | .late B sJ l :: rest,listed,s,L,R,Φ,a,w,ho,h,ha,he,hu=>by
  simp only [MA,Bool.and_eq_true] at ho;obtain ⟨⟨⟨⟨⟨⟨hc0,qT⟩,hBi⟩,ME⟩,hla⟩,hnr⟩,S5⟩:=ho;unfold MC at h;have hl:∀ j∈j9 sJ l,Region.ready .any ops ((OJ l (bJ sJ listed)).setIfInBounds j false)=[j]:=by
   intro j hj;have:=List.all_eq_true.1 hla j hj;simpa using this
  have aJZ:∀ (l:List (Nat × List Nat)),∀ i∈sJ,i∈j9 sJ l:=by
   intro l
   induction l with
   | nil=>exact λi hi=>hi
   | cons p r ih=>obtain ⟨q,T⟩:=p;exact λi hi=>List.mem_append.2 (.inr (ih i hi))
  have hlt:∀ (l:List (Nat × List Nat)),∀ p∈l,∀ i∈p.2,i∈j9 sJ l:=by
   intro l
   induction l with
   | nil=>intro p hp;cases hp
   | cons q r ih =>
    obtain ⟨q,T⟩:=q;intro p hp i hi;rcases List.mem_cons.1 hp with rfl|hp
    .exact List.mem_append.2 (.inl hi)
    .exact List.mem_append.2 (.inr (ih p hp i hi))
  have hB:∀ b∈B,(bJ sJ listed).getD b true=true:=λb hb=>kU sJ listed (.inl (iR.1 (List.all_eq_true.1 hBi b hb)));obtain ⟨Q0,cJ,xN,hQ0,h⟩:=h;refine M1 (S:=SD ops W w Q0 cJ none Q0 cJ B) (rd:=λj=>dN j (j9 sJ l)) (E:=λx=>x=OJ l (bJ sJ listed)/\Region.ready .any ops x=[]) (K:=λa' w'=>eR Q .normal a' w') (λl a w1 hE hk=>⟨hE.2,hk⟩) (sJ.length+XJ l) listed a w ?_;refine XM hsel ME (λx hx=>hx.1) hD sJ listed s a (λs a hk ha hu hsd=>?_) (λi hi=>hl i (aJZ l i hi)) qT h ha hu ⟨hc0,⟨_,hQ0 _ _ ha.ctx⟩,λ_=>rfl,λd e=>by cases e⟩
  exact S6 hsel ME hD (λs L R Φ a w hk ha he hu=>hK _ _ _ _ _ _ hk ha he hu) l _ s L R Φ a w hsd.1 (λp hp i hi=>hl i (hlt l p hp i hi)) S5 hk ha hQ0 he hu hB (λp hp=>by simpa using List.all_eq_true.1 hnr p hp)
 | .a1L C dl B sJ l :: rest,listed,s,L,R,Φ,a,w,ho,h,ha,he,hu=>by
  simp only [MA,Bool.and_eq_true] at ho;obtain ⟨⟨⟨⟨⟨⟨⟨⟨hc0,qT⟩,hBi⟩,ME⟩,hla⟩,hnr⟩,S5⟩,hC⟩,hdr⟩:=ho;unfold MC at h;have hl:∀ j∈j9 sJ l,Region.ready .any ops ((OJ l (bJ sJ listed)).setIfInBounds j false)=[j]:=by
   intro j hj;have:=List.all_eq_true.1 hla j hj;simpa using this
  have aJZ:∀ (l:List (Nat × List Nat)),∀ i∈sJ,i∈j9 sJ l:=by
   intro l
   induction l with
   | nil=>exact λi hi=>hi
   | cons p r ih=>obtain ⟨q,T⟩:=p;exact λi hi=>List.mem_append.2 (.inr (ih i hi))
  have hlt:∀ (l:List (Nat × List Nat)),∀ p∈l,∀ i∈p.2,i∈j9 sJ l:=by
   intro l
   induction l with
   | nil=>intro p hp;cases hp
   | cons q r ih =>
    obtain ⟨q,T⟩:=q;intro p hp i hi;rcases List.mem_cons.1 hp with rfl|hp
    .exact List.mem_append.2 (.inl hi)
    .exact List.mem_append.2 (.inr (ih p hp i hi))
  have hB:∀ b∈B,(bJ sJ listed).getD b true=true:=λb hb=>kU sJ listed (.inl (iR.1 (List.all_eq_true.1 hBi b hb)));obtain ⟨Q0,cJ,xN,hQ0,Q1,cL,aCt,hQ1,h⟩:=h;have hdr:dN dl (j9 sJ l)=false:=by simpa using hdr
  have hCw:∀ c∈C,Wt ops c dl:=λc hc=>XL (ops:=ops) (b:=c) _ [] (λk hk=>by cases hk) dl (iR.1 (List.all_eq_true.1 hC c hc));refine M1 (S:=SD ops W w Q0 cJ (some dl) Q1 cL B) (rd:=λj=>dN j (j9 sJ l)) (E:=λx=>x=OJ l (bJ sJ listed)/\Region.ready .any ops x=[]) (K:=λa' w'=>eR Q .normal a' w') (λl a w1 hE hk=>⟨hE.2,hk⟩) (sJ.length+XJ l) listed a w ?_;refine U6 hsel ME hdr hCw (λx hx=>hx.1) hD sJ listed s a (λs a hk ha hu hsd=>?_) (λi hi=>aJZ l i hi) (λi hi=>hl i (aJZ l i hi)) qT h ha hu ⟨hc0,⟨_,hQ0 _ _ ha.ctx⟩,λ_=>rfl,λd e _=>⟨_,hQ1 _ _ ha.ctx⟩⟩
  exact MF hsel ME hdr hD (λs L R Φ a w hk ha he hu=>hK _ _ _ _ _ _ hk ha he hu) l true _ s L R Φ a w hsd.1 (λp hp i hi=>hl i (hlt l p hp i hi)) S5 hk ha hQ0 (λ_=>⟨rfl,hQ1⟩) (λp hp i hi=>hlt l p hp i hi) he hu hB (λp hp=>by simpa using List.all_eq_true.1 hnr p hp)
 | .free ord :: rest,listed,s,L,R,Φ,a,w,ho,h,ha,he,hu=>by
  simp only [MA,Bool.and_eq_true] at ho;obtain ⟨⟨qT,D5⟩,xM⟩:=ho;unfold MC at h;have hl:∀ j∈jT ord,Region.ready .any ops ((bJ (ord.map (·.1)) listed).setIfInBounds j false)=[j]:=by
   intro j hj;have:=List.all_eq_true.1 D5 j hj;simpa using this
  obtain ⟨Q0,cJ,xN,hQ0,h⟩:=h;refine xI (S:=λw'=>∃ S,Ctx W w' (Q0++S) cJ) (E:=λl=>l=bJ (ord.map (·.1)) listed) (K:=λa' w'=>wpAny P .any ops (eR Q) (LC rest) (bJ (ord.map (·.1)) listed) a' w') ?_ ord.length listed a w ?_
  .rintro l a w1 rfl hk;exact hk
  .exact OL hsel hD (λs L R Φ a w hk ha he hu=>pW hsel hD hK rest _ s L R Φ a w xM hk ha he hu) ord listed s L R Φ a w hl qT rfl h ha hQ0 he hu
 | .bW T (some i) :: rest,listed,s,L,R,Φ,a,w,ho,h,ha,he,hu=>by
  simp only [MA,Bool.and_eq_true,beq_iff_eq] at ho;obtain ⟨⟨qT,D5⟩,h1,h2⟩:=ho;unfold MC at h;refine a1M hsel hD (λs a h ha hu=>?_) qT D5 h ha hu;split at h
  .exact h.elim
  rename_i o hi;have hd:∀ t,o.dst=some t->D t:=λt ht=>hD i o t hi ht;refine ⟨λh0=>(by rw [h1] at h0;cases h0),λj hj=>?_⟩;rw [h1] at hj;have hj:j=i:=by simpa using hj
  subst hj;obtain ⟨s',cN,eI,BD⟩:=fB hD (by assumption) ha hu;clear h;have h:=BD;unfold wpOp;simp only [hi];rcases h with ⟨hw,h⟩|⟨hw,h⟩
  .simp only [hw,if_true];have:=cN.st;refine .inl (Oper.l9 (sW h cN.BH cN.wf cN.ctx λsv L' R' aX v' w' hk hst qP hp hc hv=>?_));exact pW hsel hD hK rest _ _ _ _ _ _ _ h2 hk (cN.put o.dst qP hp hc hst hv) (he.trans qP) (eI.xK cN.wf qP hd)
  .simp only [hw,Bool.false_eq_true,if_false];exact pW hsel hD hK rest _ _ _ _ _ _ _ h2 h (cN.put o.dst (Ext.refl _) (λk o e=>by cases e) cN.ctx cN.st (λ_=>rfl)) he (eI.xK cN.wf (Ext.refl _) hd)
theorem aFz{wr d es o s L R Φ a w g ch K}(h:qS P wr d es o s L w g ch K)(hr:Rel ds es (s.fr L) a)(hwf:M6 L s)(hc:jH G W w L R Φ)(hg:D0 g ↔ Holds (s.fr L) ch):
  ∃ sv,(∀ k o,sv=SV.ptr k o->(bU k L).isSome=true)/\(D0 g->∃ v,(vZ (sv.val L)=false->v=sv.val L)/\∀ w',VA d w w'->o.quietAt P a (VA d w) w' v)/\K sv:=by
 have hev:=uB s L;have old:LZ P wr d es o (s.fr L) w g ch (λv=>K (.v v))->∃ sv,(∀ k o,sv=SV.ptr k o->(bU k L).isSome=true)/\(D0 g->∃ v,(vZ (sv.val L)=false->v=sv.val L)/\∀ w',VA d w w'->o.quietAt P a (VA d w) w' v)/\K sv:=by
  intro h;obtain ⟨u,h1,h2⟩:=O6 h hr hg;exact ⟨.v u,λk o e=>(by cases e),h1,h2⟩
 unfold qS at h;split at h
 .rename_i t x f hop;split at h
  .rename_i k off hx;split at h
   .rename_i hro;obtain ⟨T,hT⟩:=Option.isSome_iff_exists.1 (hwf.ev hx);obtain ⟨off',h1,h2⟩:=wF hT h;refine ⟨.ptr k off',λk' o' e=>by cases e;rw [hT];rfl,λBD=>⟨_,λ_=>rfl,λw' hw=>?_⟩,h2⟩;have hv:a.eval x=.pointer (some ⟨T.b,off,none⟩):=by rw [j7 hro hr (hg.1 BD),hev,fO.val,hx,fA hT]
    unfold Oper.quietAt;simp only [execOp,hop,hv,Sem.run_bind,h1 w',Result.andThen,Sem.run_pure,Oper.quietUpon,fA hT];exact ⟨trivial,trivial⟩
   .exact h.elim
  .exact old h
 .rename_i t x hop;split at h
  .rename_i k off hx;split at h
   .rename_i hro;obtain ⟨T,hT⟩:=Option.isSome_iff_exists.1 (hwf.ev hx);obtain ⟨v,h1,h2⟩:=FT hT (hc.blk hT) h;refine ⟨.v v,λk' o' e=>(by cases e),λBD=>⟨_,λ_=>rfl,λw' hw=>?_⟩,h2⟩;have hv:a.eval x=.pointer (some ⟨T.b,off,none⟩):=by rw [j7 hro hr (hg.1 BD),hev,fO.val,hx,fA hT]
    unfold Oper.quietAt;simp only [execOp,hop,hv,Instr.loadAt,Instr.sureAddr,Sem.run_bind,Sem.run_pure,Result.andThen,h1 w' hw.heap,Oper.quietUpon];exact ⟨trivial,rfl⟩
   .exact h.elim
  .exact old h
 .rename_i x hop;split at h
  .rename_i hro;refine ⟨s.ev x,λk o e=>hwf.ev e,λBD=>⟨_,λ_=>rfl,λw' hw=>?_⟩,h⟩;have hv:a.eval x=(s.ev x).val L:=by rw [j7 hro hr (hg.1 BD),hev];rfl
   unfold Oper.quietAt;simp only [execOp,hop,hv,Sem.run_pure,Oper.quietUpon];exact ⟨trivial,trivial⟩
  .exact h.elim
 .rename_i x hop;split at h
  .rename_i hro;refine ⟨s.ev x,λk o e=>hwf.ev e,λBD=>⟨_,λ_=>rfl,λw' hw=>?_⟩,h⟩;have hv:a.eval x=(s.ev x).val L:=by rw [j7 hro hr (hg.1 BD),hev];rfl
   unfold Oper.quietAt;simp only [execOp,hop,hv,Sem.run_pure,Oper.quietUpon];exact ⟨trivial,trivial⟩
  .exact h.elim
 .exact old h
theorem XO(es s L):(zM es s).fr L=forget es (s.fr L):=by
 have key:∀ l:List (Nat × SV),sV L (zM.go es l)=mL (X4 es) (sV L l):=by
  intro l
  induction l with
  | nil=>rfl
  | cons p r ih =>
   obtain ⟨t,v⟩:=p;simp only [zM.go,sV,mL];cases X4 es t with
   | true=>simp only [sV,ih]
   | false=>exact ih
 simp only [zM,forget,fO.fr,key]
theorem a8x{es s L}(h:M6 L s):M6 L (zM es s):=by
 have key:∀ l:List (Nat × SV),∀ p∈zM.go es l,p∈l:=by
  intro l
  induction l with
  | nil=>intro p hp;exact hp
  | cons q r ih =>
   obtain ⟨t,v⟩:=q;intro p hp;simp only [zM.go] at hp;cases hb:X4 es t with
   | true=>rw [hb] at hp;rcases List.mem_cons.1 hp with rfl|hp;simp;exact List.mem_cons_of_mem _ (ih p hp)
   | false=>rw [hb] at hp;exact List.mem_cons_of_mem _ (ih p hp)
 exact λp hp=>h p (key _ p hp)
theorem S7{L R}{Φ:PW}{d w K Q}(hst:aB Φ)(aCq:(L.map Tr.id).Nodup)(hc:jH G W w L R Φ)(hK:∀ s a,K s->vC ds (s.fr L) a->M6 L s->bY D s0 (s.fr L)->Q a):
  ∀ (l:List Oper) (es:List Ent) (s:fO) (a:Act),(∀ o∈l,∀ t,o.dst=some t->D t)->(∀ e∈es,D e.slot/\e.slot<s.n)->qsS P wr d ops L w l es s K->Rel ds es (s.fr L) a->M6 L s->bY D s0 (s.fr L)->wpQuiet P ops (VA d w) Q l a
 | [],es,s,a,_,_,h,hr,hwf,hu=>hK _ _ h (by rw [XO];exact hr.done) (a8x hwf) (by rw [XO];exact TW hu)
 | o :: rest,es,s,a,hl,he,h,hr,hwf,hu=>by
  have hl':∀ o∈rest,∀ t,o.dst=some t->D t:=λo ho=>hl o (List.mem_cons_of_mem _ ho);unfold qsS at h;split at h
  .rename_i g ch t hgd ht;split at h
   .rename_i hcd;simp only [Bool.and_eq_true] at hcd;obtain ⟨h1,h2,h3⟩:=KX hgd hr;obtain ⟨sv,hp,h4,h5⟩:=aFz h hr hwf hc h2;have hd:D t:=hl o (by simp) t ht;have htn:t<s.n:=by have:=hcd.2;rwa [Nat.blt_eq] at this
    have he':∀ e∈(⟨t,g,ch⟩:Ent) :: es,D e.slot/\e.slot<(s.put (some t) sv).n:=λe hx=>by
     have hn:(s.put (some t) sv).n=s.n:=by unfold fO.put;simp only;split<;>rfl
     rw [hn];rcases List.mem_cons.1 hx with rfl|hx
     .exact ⟨hd,htn⟩
     .exact he e hx
    have eI:bY D s0 ((s.put (some t) sv).fr L):=hu.xK hwf (Ext.refl _) (λt' e=>by cases e;exact hd);have hwf':M6 L (s.put (some t) sv):=hwf.put hp;unfold wpQuiet;by_cases BD:D0 g
    .rw [if_pos (h1.2 BD)];obtain ⟨v,h6,h7⟩:=h4 BD;refine ⟨v,h7,?_⟩;rw [ht];exact S7 hst aCq hc hK rest _ _ _ hl' he' h5 (by rw [XF];exact hr.put hcd.1 htn h2 h3 (λ_=>h6) (λhn=>absurd BD hn)) hwf' eI
    .rw [if_neg (λhw=>BD (h1.1 hw)),ht];exact S7 hst aCq hc hK rest _ _ _ hl' he' h5 (by rw [XF];exact hr.put hcd.1 htn h2 h3 (λhh=>absurd hh BD) (λ_=>rfl)) hwf' eI
   .exact h.elim
  .exact h.elim
end
end Go.Vc
end

section
namespace Go.Vc
open Go.RowKit
def jU(rd:Option Nat):Fence:={ Fence.wide with round:=rd }
def U7(Q:Exit->Act->World->Prop):Exit->Act->World->Prop
 | .normal,a,w=>Q .normal a w
 | _,_,_=>False
theorem a1P{Q}:∀ e a w,U7 Q e a w->Q e a w:=λe a w h=>by
 cases e<;>first|exact h|exact h.elim
theorem a8y{Q}:¬ LetsOut (U7 Q):=λ⟨_,_,h⟩=>h
def MG(o:Oper):Bool:=match o.op with | .defer _=>false|_=>true
def sY:List Oper->Bool
 | []=>true
 | o :: r=>MG o&&sY r
theorem xO:∀ {l:List Oper},sY l=true->∀ o∈l,MG o=true
 | [],_,o,ho=>by cases ho
 | p :: r,h,o,ho=>by
  simp only [sY,Bool.and_eq_true] at h;rcases List.mem_cons.1 ho with rfl|ho
  .exact h.1
  .exact xO h.2 o ho
def mM:Code->Bool
 | .region _ ops _=>sY ops.toList
 | .seq x y=>mM x&&mM y
 | .cond _ x y=>mM x&&mM y
 | .block _ b=>mM b
 | .loop b=>mM b
 | .rangeFunc _ _ _ _=>false
 | .scope _=>false
 | _=>true
section
variable {P:Program}{b:Frame}{a:Act}{k:List Item}{cs:List Frame}{w:World}{F:Fence}{n:Nat}{Q:Exit->Act->World->Prop}
theorem qE{c}:step P (lone (b.atR a (.code (.scope c) :: k)) cs w)=.next (lone (b.atR a (.code c :: .inScope c :: k)) cs w) :=
 step_lone_go (by simp [stepG,stepG.exec,Frame.atR])
theorem a0Q{c}:step P (lone (b.atR a (.inScope c :: k)) cs w)=.next (lone (b.atR a k) cs w) :=
 step_lone_go (by simp [stepG,stepG.exec,Frame.atR])
theorem a8z{c:Code}(h:c.wpIn F n P (λe a w=>match e with | .goto _=>False|e=>Q e a w) a w):(Code.scope c).wpIn F n P Q a w:=by
 intro b k cs hro hb hr;have h0:(lone (b.atR a (.code (.scope c) :: k)) cs w).fenced P F:=fenced_calm hb hr rfl;obtain ⟨e,a₁,w₁,hq,aCu⟩:=h b (.inScope c :: k) cs hro hb hr;cases e with
 | normal=>exact ⟨.normal,a₁,w₁,hq,.head h0 qE (StepsIn.trans aCu (.one (fenced_calm hb hr rfl) a0Q))⟩
 | exit id =>
  have hx:exitTo id (.inScope c :: k)=exitTo id k:=by simp [exitTo]
  exact ⟨.exit id,a₁,w₁,hq,λk' hk=>.head h0 qE (aCu.1 k' (by rw [hx];exact hk)),
   λhr' hk=>let ⟨k₁,h1,h2⟩:=aCu.2 hr' (by rw [hx];exact hk);⟨k₁,h1,.head h0 qE h2⟩⟩
 | goto l=>exact hq.elim
 | ret=>exact ⟨_,a₁,w₁,hq,.of_steps (.one h0 qE) aCu⟩
 | panic ch=>exact ⟨_,a₁,w₁,hq,.of_steps (.one h0 qE) aCu⟩
 | outgrown=>exact ⟨_,a₁,w₁,hq,.of_steps (.one h0 qE) aCu⟩
end
section
variable {P:Program}{rd:Option Nat}{ops:Array Oper}{Q:Exit->Act->World->Prop}
theorem aA4{o a w K K'}(hd:rd.isSome=true->MG o=true)(hQ:¬ LetsOut Q)(hK:∀ a w,K a w->K' a w)(h:o.wp P a w K Q):o.wpIn (jU rd) 0 P a w K' Q:=by
 refine ⟨λ_ _=>trivial,?_⟩;have e:o.semAt rd a.eval=execOp a.eval o:=by
  cases rd with
  | none=>rfl
  | some l=>exact Oper.semAt_eq _ _ _ λc hc=>(by have:=hd rfl;rw [MG,hc] at this;cases this)
 unfold Oper.wp at h;show o.uponIn (jU rd) 0 P a K' Q ((o.semAt rd a.eval).run P w);rw [e];generalize (execOp a.eval o).run P w=r at h;cases r with
 | ok n w' =>
  cases n<;>simp only [Oper.upon,Oper.uponIn] at h ⊢
  case value v=>exact hK _ _ h
  case skip=>exact hK _ _ h
  case defer d=>exact hK _ _ h
  case enter f args => 
   refine ⟨λhh=>(by cases hh),?_⟩;have:=(callsIn_wide (n:=0)).2 h;exact CallsIn.mono (F:=jU rd) this λe w'' he=>by cases e<;>first|exact hK _ _ he|exact he
  case row row args =>
   refine ⟨λhh=>(by cases hh),λc cs hr=>?_⟩;obtain ⟨v,w'',h1,h2⟩:=h c cs;exact ⟨v,w'',hK _ _ h1,stepsIn_wide.2 h2⟩
 | halt x w'=>cases x<;>simp only [Oper.upon,Oper.uponIn] at h ⊢ <;> exact h
theorem aA5(hQ:¬ LetsOut Q):∀ (l:List Oper) (a:Act) (w:World),(rd.isSome=true->∀ o∈l,MG o=true)->wpList P ops Q l a w->wpListIn (jU rd) 0 P ops Q l a w
 | [],a,w,_,h=>h
 | o :: r,a,w,hd,h=>by
  have ih:=aA5 hQ r;unfold wpList at h;unfold wpListIn;split
  .rename_i hw;rw [if_pos hw] at h;rcases h with h|h
   .exact aA4 (λhh=>hd hh o (by simp)) hQ (λa w h=>ih a w (λhh o ho=>hd hh o (List.mem_cons_of_mem _ ho)) h) h
   .exact absurd h.2 hQ
  .rename_i hw;rw [if_neg hw] at h;exact ⟨λ_ _=>trivial,ih _ _ (λhh o ho=>hd hh o (List.mem_cons_of_mem _ ho)) h⟩
theorem aSg(hQ:¬ LetsOut Q)(hd:rd.isSome=true->∀ o∈ops.toList,MG o=true){i a w K K'}(hK:∀ a w,K a w->K' a w)(h:wpOp P ops Q i K a w):wpOpIn (jU rd) 0 P ops Q i K' a w:=by
 unfold wpOp at h;unfold wpOpIn;cases ho:ops[i]? with
 | none=>rw [ho] at h;exact hK _ _ h
 | some o =>
  rw [ho] at h;simp only at h ⊢;split
  .rename_i hw;rw [if_pos hw] at h;rcases h with h|h
   .exact aA4 (λhh=>hd hh o (by simpa using Array.mem_of_getElem? ho)) hQ hK h
   .exact absurd h.2 hQ
  .rename_i hw;rw [if_neg hw] at h;exact ⟨λ_ _=>trivial,hK _ _ h⟩
theorem aFA{md}(hQ:¬ LetsOut Q)(hd:rd.isSome=true->∀ o∈ops.toList,MG o=true):∀ (n:Nat) (listed:Array Bool) (a:Act) (w:World),wpAny P md ops Q n listed a w->wpAnyIn (jU rd) 0 P md ops Q n listed a w
 | 0,_,_,_,h=>h
 | n+1,listed,a,w,h=>⟨h.1,λi hi=>aSg hQ hd (λa w h=>aFA hQ hd n _ a w h) (h.2 i hi)⟩
theorem a5F{id a w}(hd:rd.isSome=true->sY ops.toList=true)(h:wpList P ops (U7 Q) ops.toList a w):(Code.region id ops false).wpIn (jU rd) 0 P Q a w :=
 wpIn_mono (wpIn_region_list (aA5 a8y _ _ _ (λhh=>xO (hd hh)) h)) a1P
theorem aA6{id a w}(hd:rd.isSome=true->sY ops.toList=true)(hm:P.follows .mixedOrders=true)(h:wpAny P .any ops (eR (U7 Q)) ops.size (Array.replicate ops.size false) a (w.drewN 1)):
  (Code.region id ops true).wpIn (jU rd) 0 P Q a w :=
 wpIn_mono (wpIn_region_any hm (aFA (λ⟨_,_,h⟩=>h) (λhh=>xO (hd hh)) _ _ _ _ h)) λe a w h=>a1P _ _ _ (a1E _ _ _ h)
theorem aCv{id a w}(hd:rd.isSome=true->sY ops.toList=true)(hm:P.follows .mixedOrders=true)(hB:Region.lexB .any ops=true)(h:wpQuiet P ops (λw'=>∃ n,w'=w.drewN n) (λa'=>∀ w',(∃ n,w'=w.drewN n)->Q .normal a' w') ops.toList a):(Code.region id ops true).wpIn (jU rd) 0 P Q a w:=by
 refine aA6 hd hm ?_;simp only [Region.lexB,Bool.and_eq_true] at hB;refine wpAny_of_quiet (C:=λw'=>∃ n,w'=w.drewN n) (Q':=eR (U7 Q)) (Q:=λa'=>∀ w',(∃ n,w'=w.drewN n)->Q .normal a' w') (λ_ w' hw' h=>h w' hw') _ _ _ _ ⟨1,rfl⟩ ?_;have:=wpAnyQ_lex (C:=λw'=>∃ n,w'=w.drewN n) (md:=.any) hB.1 ops.toList 0 (Array.replicate ops.size false) a (by simp) (by simpa using hB.2) h;simpa using this
end
def mark(D:Nat):Deferred:={ target:=.collected D,args:=#[] }
def EJ(D:Nat):Own:=.obj D (.deferred (some []))
def Tie(rd:Option Nat)(ds:List Deferred)(G:List Own)(ds':List Deferred)(G':List Own):Prop :=
 ∃ Z:List Nat,(rd.isSome=true->Z=[])/\ds'=Z.map mark++ds/\G'=Z.map EJ++G
theorem Tie.refl(rd ds G):Tie rd ds G ds G:=⟨[],λ_=>rfl,rfl,rfl⟩
theorem Tie.trans{rd ds ds1 ds2 G G1 G2}(h:Tie rd ds G ds1 G1)(k:Tie rd ds1 G1 ds2 G2):Tie rd ds G ds2 G2:=by
 obtain ⟨Z,h1,rfl,rfl⟩:=h;obtain ⟨Y,k1,rfl,rfl⟩:=k;exact ⟨Y++Z,λhh=>by rw [h1 hh,k1 hh];rfl,by simp,by simp⟩
theorem OM{P fn tmps Rr W}{Φ:PW}[aB Φ]:∀ (Z:List Nat) (S:List Own) (w:World),Ctx W w (S++Z.map EJ) Φ ->
  (∀ w' S',Ctx W w' (S++S') Φ->LeavesIn Fence.wide 0 P fn tmps Rr [] .returning w')->LeavesInM Fence.wide 0 P fn tmps Rr (Z.map mark) .returning w
 | [],S,w,c,h=>h w [] c
 | D :: Z,S,w,c,h=>by
  refine ⟨by simp,.inl ⟨D,D9 w D (.deferred none),rfl,run_takeDeferred (c.own (EJ D) (by simp)),?_⟩⟩;have hk:(S++(D :: Z).map EJ)[S.length]? = some (.obj D (.deferred (some []))):=by
   rw [List.getElem?_append_right (Nat.le_refl _)];simp [EJ]
  have c2:=c.putObj S.length (.deferred none) hk;have e:(S++(D :: Z).map EJ).set S.length (.obj D (.deferred none))=(S++[Own.obj D (.deferred none)])++Z.map EJ:=by
   rw [List.set_append_right _ _ (Nat.le_refl _)];simp
  rw [e] at c2;exact OM Z _ _ c2 λw' S' c'=>h w' (Own.obj D (.deferred none) :: S') (by simpa using c')
def Iter(P:Program)(gf:Nat)(lb:Array Value)(N:Nat)(xs:Nat->Array Value)(X:World->Prop):Prop :=
 ∀ (l:Nat) (J:Nat->World->Prop) (W:World),(∀ k W1,J k W1->X W1) ->
  (∀ k W1,J k W1->k<N->YieldAt Fence.wide 0 P l (xs k) W1 λe W'=>e=.returned (.bool true)/\J (k+1) W')->J 0 W ->
  CallsIn Fence.wide 0 P gf (#[.func (.yield l) #[] #[]]++lb) W λe W'=>(∃ v,e=.returned v)/\J N W'
theorem aFB{P:Program}{W:World}{g:Operand}{ps:Array Tmp}{assign body:Code}{Q:Exit->Act->World->Prop}{a:Act}{w:World}{gf:Nat}{lb:Array Value}{N:Nat}{xs:Nat->Array Value}{X:World->Prop}{G:List Own}(hg:a.eval g=.func (.func gf) #[] lb)(eg:∀ args w,(callFunc gf args).run P w=.ok (.enter gf args) w)(hit:Iter P gf lb N xs X)(hps:∀ k,k<N->(xs k).size=ps.size)(Inv:Nat->List Own->World->Prop)(aJ0:∀ k Gx w1,Inv k Gx w1->∃ S Φ,aB Φ/\Ctx W w1 (S++Gx) Φ/\∀ w2 Gy,Ctx W w2 (S++Gy) Φ->Inv k Gy w2)(hX:∀ k Gx w1,Inv k Gx w1->X w1)(h0:Inv 0 G w)(aN3:∀ l k Gx w1,k<N->Inv k Gx w1->assign.wpIn (jU (some l)) 0 P (Exit.then (λa1 w2=>∃ S Φ,aB Φ/\Ctx W w2 (S++Gx) Φ/\∀ w3 Gx3,Ctx W w3 (S++Gx3) Φ->body.wpIn (jU (some l)) 0 P (λe _ w4=>e=.normal/\Inv (k+1) Gx3 w4) a1 w3) (λ_ _ _=>False))
   { tmps:=(ps.zip (xs k)).foldl (λt (p,v)=>t.setIfInBounds p v) a.tmps,defers:=[] } w1)(aSh:∀ D w',Inv N (EJ D :: G) w'->Q .normal { a with defers:=mark D :: a.defers } w'):
  (Code.rangeFunc g ps assign body).wpIn (jU none) 0 P Q a w:=by
 refine wpIn_rangeFunc ?_;intro fn hfn;show ∃ l mark w₁ d w₁' f args w₂,(Instr.enterLoop fn a.tmps ps assign body none).run P w=_/\_;obtain ⟨rec,S8⟩:∃ rec:LoopState->Option Code->Loop,rec=λst pe=>{ state:=st,pending:=pe,fn,tmps:=a.tmps,params:=ps,assign,body,defers:=w.heap.size }:=⟨_,rfl⟩;obtain ⟨W1,hW1⟩:∃ W1,(w.alloc (.deferred (some []))).alloc (.loop (rec .ready none))=W1:=⟨_,rfl⟩;obtain ⟨l,hl⟩:∃ l,w.heap.size+1=l:=⟨_,rfl⟩
 have rl:∀ st:LoopState,Own.obj l (.loop (rec st none))=Own.obj l (.loop (rec st none)):=λ_=>rfl
 let gh:=λ(st:LoopState)=>Own.obj l (.loop (rec st none)) :: EJ w.heap.size :: G
 have turn:∀ {k:Nat} {st st':LoopState} {S:List Own} {Φ:PW} {w1:World},aB Φ->Ctx W w1 (S++gh st) Φ->Ctx W (w1.putObj l (.loop (rec st' none))) (S++gh st') Φ:=by
  intro k st st' S Φ w1 hs c;have hk:(S++gh st)[S.length]? = some (.obj l (.loop (rec st none))):=by rw [List.getElem?_append_right (Nat.le_refl _)];simp [gh]
  have c2:=c.putObj S.length (.loop (rec st' none)) hk;have e:(S++gh st).set S.length (.obj l (.loop (rec st' none)))=S++gh st':=by rw [List.set_append_right _ _ (Nat.le_refl _)];simp [gh]
  rw [e] at c2;exact c2
 have start:Inv 0 (gh .ready) W1:=by
  obtain ⟨S,Φ,hs,c,hn⟩:=aJ0 0 G w h0;refine hn _ _ ?_;have c1:=c.newObj (o:=.deferred (some [])) rfl;have c2:=c1.newObj (o:=.loop (rec .ready none)) rfl;rw [hW1,World.size_alloc,hl] at c2;refine c2.perm ?_;simp only [gh,EJ];exact (List.Perm.cons _ List.perm_middle.symm).trans List.perm_middle.symm
 have aN4:∀ {k:Nat} {st:LoopState} {w1:World},Inv k (gh st) w1->w1.heap[l]? = some (.loop (rec st none)):=by
  intro k st w1 hi;obtain ⟨S,Φ,hs,c,_⟩:=aJ0 _ _ _ hi;exact c.own (.obj l (.loop (rec st none))) (by simp [gh])
 refine ⟨l,[mark w.heap.size],W1,{ target:=.fn (.func gf) lb,args:=#[.func (.yield l) #[] #[]] },W1,gf,#[.func (.yield l) #[] #[]]++lb,W1,?_,?_,λ_ _=>trivial,?_,λh=>(by cases h),?_⟩
 .rw [<-hW1,S8,<-hl];exact run_enterLoop_outer _ _ _ _ _
 .simp only [resolve,hg];simp [go_sem]
 .simp [invoke,go_sem,eg]
 .refine CallsIn.mono (F:=jU none) (hit l (λk W'=>Inv k (gh .ready) W') W1 (λk W2 h=>hX k _ W2 h) ?_ start) ?_
  .intro k W2 hi hk;have hlr:=aN4 hi;have hy:=run_yield (P:=P) (args:=xs k) hlr (by rw [S8];exact hps k hk);rw [S8] at hy;refine ⟨fn,_,assign,body,hy,roundIn_of_wpIn trivial ?_⟩;refine wpIn_mono (aN3 l k (gh .ready) W2 hk hi) ?_;rintro e a1 w2 h;cases e with
   | normal =>
    obtain ⟨S,Φ,hs,c,hb⟩:=h;have h2:w2.heap[l]? = some (.loop (rec .ready none)):=c.own (.obj l (.loop (rec .ready none))) (by simp [gh]);refine ⟨_,run_beginRound h2 (by rw [S8]),?_⟩;have c3:Ctx W (w2.putObj l (.loop { rec .ready none with state:=.busy })) (S++gh .busy) Φ:=by
     have:=turn (k:=k) (st':=.busy) hs c;rw [S8] at this ⊢;exact this
    refine wpIn_mono (hb _ _ c3) ?_;rintro e a4 w4 ⟨rfl,h4⟩;have h5:=aN4 h4;refine ⟨_,_,run_endRound none h5,rfl,?_⟩;obtain ⟨S,Φ,hs,c,hn⟩:=aJ0 _ _ _ h4;have:=turn (k:=k) (st':=.ready) hs c;refine hn _ _ ?_;rw [S8] at this ⊢;exact this
   | _=>exact h.elim
  .rintro e W3 ⟨⟨v,rfl⟩,hi⟩;have h5:=aN4 hi;have hend:=run_endLoop (P:=P) h5 (by rw [S8];simp);rw [S8] at hend;refine ⟨none,_,hend,?_⟩;refine aSh _ _ ?_;obtain ⟨S,Φ,hs,c,hn⟩:=aJ0 _ _ _ hi;have:=turn (k:=N) (st':=.exhausted) hs c;refine hn _ _ ?_;have h7:=this.sub (S':=S++(EJ w.heap.size :: G)) (List.Sublist.append (List.Sublist.refl _) (List.sublist_cons_self _ _));rw [S8] at h7;exact h7
end Go.Vc
end

