/-
 .. it suffices: regions,code,functions.
-/
import Derived.Test.YtnlkemjhgdbfkaaGreatDoorCs2
import Derived.RangeFuncRecord
import Derived.RangeFuncSeq
import Derived.OrdersIn
import Derived.TacticsIn

set_option linter.unusedVariables false
set_option linter.unusedSimpArgs false
section
namespace Go.Vc
variable {G:List Own}
variable {ds:List Deferred}
open Go.RowKit
structure At(ds:List Deferred)(G:List Own)(W:World)(s:fP)(L:List Tr)(R:List Own)(Φ:PW)(a:Act)(w:World):Prop where
 CL:wG ds (s.fr L) a
 wf:N7 L s
 ids:(L.map Tr.id).Nodup
 ctx:kD G W w L R Φ
 st:aB Φ
theorem At.put{W s L L' R R' Φ aU a w w'}(h:At ds G W s L R Φ a w){sv v}(d)(he:Ext L L')(hp:∀ k o,sv=SV.ptr k o->(bS k L').isSome=true)(hc:kD G W w' L' R' aU)(hst:aB aU)(hv:x8 (sv.val L')=false->v=sv.val L'):At ds G W (s.put d sv) L' R' aU (a.put d v) w' :=
 ⟨by rw [YZ,h.wf.fr he];exact h.CL.put d hv,(h.wf.ext he).put hp,he.ids h.ids,hc,hst⟩
theorem cD.y7{D s0 s L L' sv}{d:Option Tmp}(h:cD D s0 (s.fr L))(hwf:N7 L s)(he:Ext L L')(hd:∀ t,d=some t->D t):cD D s0 ((s.put d sv).fr L'):=by
 rw [YZ,hwf.fr he];exact h.put hd _
def cellsOf:iF->List Tr->List Value
 | [],_=>[]
 | (k,_) :: r,L=>(match bS k L with|some T=>.agg T.cs.toArray|none=>unk) :: cellsOf r L
def MI(k:Nat):iF->List Value->Option (List Value)
 | (j,_) :: r,v :: vs=>match Nat.beq j k with
  | true=>some v.cells.toList
  | false=>MI k r vs
 | _,_=>none
def jS(ts:iF)(us:List Value):List Tr->List Tr
 | []=>[]
 | T :: r=>(match MI T.id ts us with
  | some cs=>⟨T.id,T.b,Nat.succ T.ver,cs,T.t⟩
  | none=>T) :: jS ts us r
def y8(ts:iF)(L':List Tr):List Tr->Bool
 | []=>true
 | T :: r=>match dR T.id (ts.map (·.1)) with
  | true=>y8 ts L' r
  | false=>match bS T.id L' with
   | some T'=>match Nat.beq T'.ver T.ver with|true=>y8 ts L' r|false=>false
   | none=>false
theorem NA{ts us k T}:∀ {L:List Tr},bS k L=some T->∃ T',bS k (jS ts us L)=some T'/\T'.b=T.b/\T'.t=T.t/\T.ver<=T'.ver/\(T'.ver=T.ver->T'.cs=T.cs)/\(MI k ts us=none->T'.cs=T.cs)/\(∀ cs,MI k ts us=some cs->T'.cs=cs)
 | [],h=>by cases h
 | U :: r,h=>by
  unfold bS at h;simp only [jS];cases hb:Nat.beq U.id k with
  | true =>
   rw [hb] at h;cases h;have hid:=Nat.eq_of_beq_eq_true hb;unfold bS;cases hp:MI T.id ts us with
   | some cs =>
    simp only [hb];rw [hid] at hp;exact ⟨_,rfl,rfl,rfl,Nat.le_succ _,λe=>absurd e (Nat.succ_ne_self _),λe=>(by rw [hp] at e;cases e),λcs' e=>by rw [hp] at e;cases e;rfl⟩
   | none =>
    simp only [hb];rw [hid] at hp;exact ⟨_,rfl,rfl,rfl,Nat.le_refl _,λ_=>rfl,λ_=>rfl,λcs' e=>by rw [hp] at e;cases e⟩
  | false =>
   rw [hb] at h;have ih:=NA (ts:=ts) (us:=us) h;unfold bS;cases hp:MI U.id ts us with
   | some cs=>simp only [hb];exact ih
   | none=>simp only [hb];exact ih
theorem tW(ts us):∀ L:List Tr,(jS ts us L).map Tr.b=L.map Tr.b/\(jS ts us L).map Tr.id=L.map Tr.id
 | []=>⟨rfl,rfl⟩
 | T :: r=>by
  have ih:=tW ts us r;simp only [jS,List.map_cons,ih];cases MI T.id ts us<;>exact ⟨rfl,rfl⟩
theorem TI(ts us L):Ext L (jS ts us L) :=
 ⟨λk T h=>by obtain ⟨T',a,b,c,d,e,_⟩:=NA (ts:=ts) (us:=us) h;exact ⟨T',a,b,c,d,e⟩,by rw [(tW ts us L).1];exact List.Sublist.refl _,by rw [(tW ts us L).2];exact id⟩
theorem aB9(L:List Tr):dom (L.map Tr.own)=L.map Tr.b:=by
 induction L with
 | nil=>rfl
 | cons T r ih=>simp only [List.map_cons,dom,List.flatMap_cons] at ih ⊢;rw [ih];rfl
theorem xC(A B):dom (A++B)=dom A++dom B:=by simp [dom]
theorem VS{k:Nat}{L':List Tr}:∀ {ts:iF},MI k ts (cellsOf ts L')=if dR k (ts.map (·.1))=true then some (match bS k L' with|some T=>T.cs|none=>unk.cells.toList) else none
 | []=>rfl
 | (j,sh) :: r=>by
  simp only [cellsOf,MI,List.map_cons,dR];rw [show Nat.beq k j=Nat.beq j k by rw [Bool.eq_iff_iff,Nat.beq_eq,Nat.beq_eq];exact eq_comm];cases hb:Nat.beq j k with
  | true =>
   have:=Nat.eq_of_beq_eq_true hb;subst this;simp only [if_true];cases bS j L'<;>simp [Value.cells]
  | false=>exact VS
theorem KF{L}(hn:(L.map Tr.id).Nodup):∀ {T:Tr},T∈L->bS T.id L=some T:=by
 induction L with
 | nil=>intro T h;cases h
 | cons U r ih =>
  intro T h;simp only [List.map_cons,List.nodup_cons] at hn;unfold bS;rcases List.mem_cons.1 h with rfl|h
  .rw [show Nat.beq T.id T.id=true by simp]
  .rw [show Nat.beq U.id T.id=false by
    cases hb:Nat.beq U.id T.id with
    | false=>rfl
    | true=>exact absurd (List.mem_map.2 ⟨T,h,(Nat.eq_of_beq_eq_true hb).symm⟩) hn.1]
   exact ih hn.2 h
theorem kD.meet{W w L L' R}{Φ:PW}{ts}(hst:aB Φ)(c:kD G W w L' R Φ)(he:Ext L L')(aDF:(L.map Tr.id).Nodup)(hs:y8 ts L' L=true):kD G W w (jS ts (cellsOf ts L') L) R Φ:=by
 have hd':dom (R++(L'.map Tr.own++G))=dom R++(L'.map Tr.b++dom G):=by rw [xC,xC,aB9]
 have hd:dom (R++((jS ts (cellsOf ts L') L).map Tr.own++G))=dom R++(L.map Tr.b++dom G):=by rw [xC,xC,aB9,(tW ts _ L).1]
 have hsub:(dom R++(L.map Tr.b++dom G)).Sublist (dom R++(L'.map Tr.b++dom G)):=List.Sublist.append (List.Sublist.refl _) (List.Sublist.append he.bs (List.Sublist.refl _));have same:∀ T∈L,dR T.id (ts.map (·.1))=false->∃ T',bS T.id L'=some T'/\T'.ver=T.ver:=by
  clear hd hd' hsub he aDF c
  induction L with
  | nil=>intro T h;cases h
  | cons U r ih =>
   intro T hT hm;unfold y8 at hs;cases hmU:dR U.id (ts.map (·.1)) with
   | true =>
    rw [hmU] at hs;rcases List.mem_cons.1 hT with rfl|hT
    .rw [hm] at hmU;cases hmU
    .exact ih hs T hT hm
   | false =>
    rw [hmU] at hs;simp only at hs;split at hs
    .rename_i T' hf;split at hs
     .rename_i hv;rcases List.mem_cons.1 hT with rfl|hT
      .exact ⟨T',hf,Nat.eq_of_beq_eq_true hv⟩
      .exact ih hs T hT hm
     .cases hs
    .cases hs
 refine Ctx.go c ⟨lW.refl _ _,λb hb=>.inl (by rw [hd] at hb;rw [hd'];exact hsub.subset hb)⟩ (λo ho=>?_) (by rw [hd];have:=c.nodup;rw [hd'] at this;exact this.sublist hsub);rcases List.mem_append.1 ho with ho|ho
 .exact c.own o (List.mem_append.2 (.inl ho))
 rcases List.mem_append.1 ho with ho|ho
 rotate_left
 .exact c.own o (List.mem_append.2 (.inr (List.mem_append.2 (.inr ho))))
 .obtain ⟨V,hV,rfl⟩:=List.mem_map.1 ho;have aZH:((jS ts (cellsOf ts L') L).map Tr.id).Nodup:=by rw [(tW ts _ L).2];exact aDF
  have hf:=KF aZH hV;have hex:V.id∈L.map Tr.id:=by rw [<-(tW ts (cellsOf ts L') L).2];exact List.mem_map.2 ⟨V,hV,rfl⟩
  obtain ⟨T,hT,aOT⟩:=List.mem_map.1 hex;have hfT:=KF aDF hT;rw [aOT] at hfT;obtain ⟨V',g1,g2,g3,_,_,g6,g7⟩:=NA (ts:=ts) (us:=cellsOf ts L') hfT;rw [hf] at g1;cases g1;obtain ⟨T1,k1,k2,k3,k4,k5⟩:=he.old V.id T hfT;have hb:=c.blk k1;have hcs:V.cs=T1.cs:=by
   rw [VS] at g6 g7;cases hm:dR V.id (ts.map (·.1)) with
   | true =>
    rw [if_pos hm,k1] at g7;exact g7 _ rfl
   | false =>
    rw [if_neg (by rw [hm];simp)] at g6;rw [g6 rfl];obtain ⟨T2,q1,q2⟩:=same T hT (by rw [aOT];exact hm);rw [aOT,k1] at q1;cases q1;exact (k5 q2).symm
  show wY w V.b V.cs V.t;rw [g2,<-k2,g3,<-k3,hcs];exact hb
theorem TJ:∀ L:List Tr,jS [] [] L=L
 | []=>rfl
 | T :: r=>by simp only [jS,MI,TJ r]
def a9x(s:Fr)(d:Option Tmp):Bool :=
 match d with
 | some d=>(match tQ d s.l with | .tuple vs=>(match vs.toList with | []=>Nat.blt d s.n|_=>false)|_=>false)
 | none=>false
theorem a6y{s a}(h:wG ds s a){d}(hc:a9x s d=true):∃ k,d=some k/\k<a.tmps.size/\a.tmps.getD k undef=.tuple #[]:=by
 unfold a9x at hc;split at hc
 .rename_i k;split at hc
  .rename_i vs hv;split at hc
   .rename_i hvs;have hlt:k<s.n:=by simpa using hc
    have e:vs=#[]:=by cases vs;simp_all
    subst e;have hg:s.get k=.tuple #[]:=hv;exact ⟨k,rfl,by rw [h.size];exact hlt,by rw [h.slot k (by rw [hg];rfl),hg]⟩
   .cases hc
  .cases hc
 .cases hc
def rY(ops:Array Oper)(o:Oper)(s:fP)(L:List Tr)(go skip:fP->Prop):Prop :=
 match o.guard with
 | none=>go s
 | some (j,want) =>
  match YL (s.fr L) ((ops[j]?).bind (·.dst)) with
  | some c=>Br c (match true == want with
    | true=>go (s.put ((ops[j]?).bind (·.dst)) (.v (.bool true)))
    | false=>skip (s.put ((ops[j]?).bind (·.dst)) (.v (.bool true))))
   (match false == want with
    | true=>go (s.put ((ops[j]?).bind (·.dst)) (.v (.bool false)))
    | false=>skip (s.put ((ops[j]?).bind (·.dst)) (.v (.bool false))))
  | none=>match a9x (s.fr L) ((ops[j]?).bind (·.dst)) with
   | true=>skip s
   | false=>False
theorem fH{W ops o s L R Φ a w go skip D s0}(hD:∀ (j:Nat) (o:Oper) (t:Nat),ops[j]? = some o->o.dst=some t->D t)(h:rY ops o s L go skip)(ha:At ds G W s L R Φ a w)(hu:cD D s0 (s.fr L)):
  ∃ s',At ds G W s' L R Φ a w/\cD D s0 (s'.fr L)/\((Region.wanted o (yielded ops a.tmps)=true/\go s')\/(Region.wanted o (yielded ops a.tmps)=false/\skip s')):=by
 unfold rY at h;split at h
 .rename_i hg;exact ⟨s,ha,hu,.inl ⟨by simp [Region.wanted,hg],h⟩⟩
 .rename_i j want hg;split at h
  .rename_i c hc;obtain ⟨k,hk,hlt,hv,hsv⟩:=H7 ha.CL hc;have hy:yielded ops a.tmps j=some c:=by
    unfold yielded;rw [hk];simp only [Option.bind_some];rw [Array.getD_eq_getD_getElem?] at hv;simp only [hlt,getElem?_pos,Option.getD_some] at hv;simp [hlt,hv]
   have hw:Region.wanted o (yielded ops a.tmps)=(c == want):=by simp [Region.wanted,hg,hy]
   have cT:At ds G W (s.put ((ops[j]?).bind (·.dst)) (.v (.bool c))) L R Φ a w:=by
    have:=ha.put ((ops[j]?).bind (·.dst)) (sv:=.v (.bool c)) (v:=.bool c) (Ext.refl L) (λk o e=>by cases e) ha.ctx ha.st (λ_=>rfl);rw [hk] at this ⊢
    rwa [YN hlt hv] at this
   have eG:cD D s0 ((s.put ((ops[j]?).bind (·.dst)) (.v (.bool c))).fr L):=hu.y7 ha.wf (Ext.refl L) (by
    intro t ht;cases hj:ops[j]? with
    | none=>simp [hj] at ht
    | some oj=>rw [hj] at ht;exact hD j oj t hj ht)
   refine ⟨_,cT,eG,?_⟩;rw [hw];cases c
   .simp only [Br] at h;cases hcw:false == want with
    | true=>rw [hcw] at h;exact .inl ⟨rfl,h⟩
    | false=>rw [hcw] at h;exact .inr ⟨rfl,h⟩
   .simp only [Br] at h;cases hcw:true == want with
    | true=>rw [hcw] at h;exact .inl ⟨rfl,h⟩
    | false=>rw [hcw] at h;exact .inr ⟨rfl,h⟩
  .split at h
   .rename_i hl;obtain ⟨k,hk,hlt,hv⟩:=a6y ha.CL hl;have hy:yielded ops a.tmps j=none:=by
     unfold yielded;rw [hk];simp only [Option.bind_some];rw [Array.getD_eq_getD_getElem?] at hv;simp only [hlt,getElem?_pos,Option.getD_some] at hv;simp [hlt,hv]
    exact ⟨s,ha,hu,.inr ⟨by simp [Region.wanted,hg,hy],h⟩⟩
   .exact h.elim
section
variable (P:Program)(W:World)
def aGH(wr CC:Nat->Bool)(ops:Array Oper):List Oper->fP->List Tr->List Own->PW->(fP->List Tr->List Own->PW->Prop)->Prop
 | [],s,L,R,Φ,K=>K s L R Φ
 | o :: rest,s,L,R,Φ,K=>rY ops o s L
   (λs=>opS P W (wr (o.dst.getD 0)) (CC (o.dst.getD 0)) (λi=>iE o.dst i ops.toList) o s L R Φ λv L R Φ=>aGH wr CC ops rest (s.put o.dst v) L R Φ K)
   (λs=>aGH wr CC ops rest (s.put o.dst (.v undef)) L R Φ K)
def rdS(wr:Bool)(o:Oper)(s:fP)(L:List Tr)(R:List Own)(Φ:PW)(K:SV->Prop):Prop :=
 match o.op with
 | .pick c x y=>match s.val L c with
  | .bool b=>Br b (K (s.ev x)) (K (s.ev y))
  | _=>False
 | _=>match VJ (s.fr L) o&&y3 o with
  | true=>PU (dH P W wr o s L R Φ K)
  | false=>False
def a6z(wr:Nat->Bool)(ops:Array Oper)(L:List Tr)(R:List Own)(Φ:PW):List Nat->fP->(fP->Prop)->Prop
 | [],s,K=>K s
 | i :: r,s,K=>match ops[i]? with
  | none=>False
  | some o=>rY ops o s L (λs=>rdS P W (wr (o.dst.getD 0)) o s L R Φ λv=>a6z wr ops L R Φ r (s.put o.dst v) K) (λs=>a6z wr ops L R Φ r (s.put o.dst (.v undef)) K)
def PV(o:Oper)(s:fP)(L:List Tr)(K:SV->Prop):Bool :=
 match o.op with
 | .load _ x=>match s.ev x with | .ptr _ _=>false | .v _=>true
 | .move _ | .assign _ | .nilCheck _ | .fieldAddr .. | .indexAddr .. => false
 | _=>iS P o (s.val L) λv=>K (.v v)
def hrS(wr:Bool)(o:Oper)(s:fP)(L:List Tr)(Q0:List Own)(cL:PW)(K:SV->Prop):Prop :=
 match o.op with
 | .pick c x y=>match s.val L c with
  | .bool b=>Br b (K (s.ev x)) (K (s.ev y))
  | _=>False
 | _=>match VJ (s.fr L) o&&y3 o with
  | true=>match PV P o s L K with
   | true=>YH P o.type λv=>(∀ w S,Ctx W w (Q0++S) cL->PU (jE P wr o (s.val L) w none λu=>u=v))/\K (.v v)
   | false=>PU (dH P W wr o s L [] cL K)
  | false=>False
def hS(wr:Nat->Bool)(ops:Array Oper)(L:List Tr)(Q0:List Own)(cL:PW):List (Nat × Bool)->fP->List Own->PW->(fP->List Own->PW->Prop)->Prop
 | [],s,R,Φ,K=>K s R Φ
 | (i,still) :: r,s,R,Φ,K=>match ops[i]? with
  | none=>False
  | some o=>rY ops o s L
    (λs=>match still with
     | true=>hrS P W (wr (o.dst.getD 0)) o s L Q0 cL λv=>hS wr ops L Q0 cL r (s.put o.dst v) R Φ K
     | false=>opS P W (wr (o.dst.getD 0)) false (λi=>iE o.dst i ops.toList) o s L R Φ λv L' R' aU=>match v,y8 [] L' L with
      | .v x,true=>(∀ w F,Ctx W w (R'++F) aU->Ctx W w (Q0++F) cL)/\hS wr ops L Q0 cL r (s.put o.dst (.v x)) R' aU K
      | _,_=>False)
    (λs=>hS wr ops L Q0 cL r (s.put o.dst (.v undef)) R Φ K)
def prS(wr:Bool)(o:Oper)(s:fP)(L:List Tr)(Q0:List Own)(cL:PW)(K:SV->Prop):Prop :=
 match o.op with
 | .pick c x y=>match s.val L c with
  | .bool b=>Br b (K (s.ev x)) (K (s.ev y))
  | _=>False
 | .load _ x=>match s.ev x with
  | .ptr _ _=>False
  | .v _=>match VJ (s.fr L) o&&y3 o with
   | true=>YH P o.type λv=>(∀ w S,Ctx W w (Q0++S) cL->PU (jE P wr o (s.val L) w none λu=>u=v))/\K (.v v)
   | false=>False
 | _=>match VJ (s.fr L) o&&y3 o with
  | true=>match PV P o s L K with
   | true=>False
   | false=>PU (dH P W wr o s L [] (λ_ _=>True) K)
  | false=>False
def fS(wr CC:Nat->Bool)(ops:Array Oper)(Q0:List Own)(cL:PW):List (Nat × Bool)->fP->List Tr->List Own->PW->(fP->List Tr->List Own->PW->Prop)->Prop
 | [],s,L,R,Φ,K=>K s L R Φ
 | (i,still) :: r,s,L,R,Φ,K=>match ops[i]? with
  | none=>False
  | some o=>rY ops o s L
    (λs=>match still with
     | true=>prS P W (wr (o.dst.getD 0)) o s L Q0 cL λv=>fS wr CC ops Q0 cL r (s.put o.dst v) L R Φ K
     | false=>opS P W (wr (o.dst.getD 0)) (CC (o.dst.getD 0)) (λi=>iE o.dst i ops.toList) o s L R Φ λv L R Φ=>(∀ w F,Ctx W w (R++F) Φ->Ctx W w (Q0++F) cL)/\fS wr CC ops Q0 cL r (s.put o.dst v) L R Φ K)
    (λs=>fS wr CC ops Q0 cL r (s.put o.dst (.v undef)) L R Φ K)
def ltS(wr:Nat->Bool)(ops:Array Oper)(L:List Tr)(Q0:List Own)(cL:PW):List Nat->fP->(fP->Prop)->Prop
 | [],s,K=>K s
 | i :: r,s,K=>match ops[i]? with
  | none=>False
  | some o=>rY ops o s L (λs=>prS P W (wr (o.dst.getD 0)) o s L Q0 cL λv=>ltS wr ops L Q0 cL r (s.put o.dst v) K) (λs=>ltS wr ops L Q0 cL r (s.put o.dst (.v undef)) K)
def a9y(wr:Nat->Bool)(ops:Array Oper)(L:List Tr)(R:List Own)(Φ:PW)(Q0:List Own)(cL:PW)(B:List Nat):List Nat->fP->(fP->Prop)->Prop
 | [],s,K=>K s
 | i :: r,s,K=>match ops[i]? with
  | none=>False
  | some o=>rY ops o s L (λs=>match dR i B with
    | true=>rdS P W (wr (o.dst.getD 0)) o s L R Φ λv=>a9y wr ops L R Φ Q0 cL B r (s.put o.dst v) K
    | false=>prS P W (wr (o.dst.getD 0)) o s L Q0 cL λv=>a9y wr ops L R Φ Q0 cL B r (s.put o.dst v) K) (λs=>a9y wr ops L R Φ Q0 cL B r (s.put o.dst (.v undef)) K)
def dlS(wr CC:Nat->Bool)(ops:Array Oper)(Q0:List Own)(cL:PW):List (Nat × List Nat)->fP->List Tr->List Own->PW->(fP->List Tr->List Own->PW->Prop)->Prop
 | [],s,L,R,Φ,K=>K s L R Φ
 | (i,T) :: rest,s,L,R,Φ,K=>match ops[i]? with
   | none=>False
   | some o=>rY ops o s L
     (λs=>opS P W (wr (o.dst.getD 0)) (CC (o.dst.getD 0)) (λi=>iE o.dst i ops.toList) o s L R Φ λv L R Φ=>(∀ w F,Ctx W w (R++F) Φ->Ctx W w (Q0++F) cL)/\ltS P W wr ops L Q0 cL T (s.put o.dst v) λs=>dlS wr CC ops Q0 cL rest s L R Φ K)
     (λs=>ltS P W wr ops L Q0 cL T (s.put o.dst (.v undef)) λs=>dlS wr CC ops Q0 cL rest s L R Φ K)
def VT(wr:Nat->Bool)(ops:Array Oper)(L:List Tr)(R:List Own)(Φ:PW)(Q0:List Own)(cL:PW)(C:List Nat)(Q1:List Own)(cF:PW)(B:List Nat):List Nat->fP->(fP->Prop)->Prop
 | [],s,K=>K s
 | i :: r,s,K=>match ops[i]? with
  | none=>False
  | some o=>rY ops o s L (λs=>match dR i B with
    | true=>rdS P W (wr (o.dst.getD 0)) o s L R Φ λv=>VT wr ops L R Φ Q0 cL C Q1 cF B r (s.put o.dst v) K
    | false=>match dR i C with
     | true=>prS P W (wr (o.dst.getD 0)) o s L Q1 cF λv=>VT wr ops L R Φ Q0 cL C Q1 cF B r (s.put o.dst v) K
     | false=>prS P W (wr (o.dst.getD 0)) o s L Q0 cL λv=>VT wr ops L R Φ Q0 cL C Q1 cF B r (s.put o.dst v) K) (λs=>VT wr ops L R Φ Q0 cL C Q1 cF B r (s.put o.dst (.v undef)) K)
def aGI(dl i:Nat)(up:Bool)(p:Prop):Prop:=match up with
 | false=>True
 | true=>match Nat.beq dl i with|true=>True|false=>p
def aGJ(wr CC:Nat->Bool)(ops:Array Oper)(Q0:List Own)(cL:PW)(dl:Nat)(Q1:List Own)(cF:PW):Bool->List (Nat × List Nat)->fP->List Tr->List Own->PW->(fP->List Tr->List Own->PW->Prop)->Prop
 | _,[],s,L,R,Φ,K=>K s L R Φ
 | up,(i,T) :: rest,s,L,R,Φ,K=>match ops[i]? with
   | none=>False
   | some o=>rY ops o s L
     (λs=>opS P W (wr (o.dst.getD 0)) (CC (o.dst.getD 0)) (λi=>iE o.dst i ops.toList) o s L R Φ λv L R Φ=>(∀ w F,Ctx W w (R++F) Φ->Ctx W w (Q0++F) cL)/\aGI dl i up (∀ w F,Ctx W w (R++F) Φ->Ctx W w (Q1++F) cF)/\ltS P W wr ops L Q0 cL T (s.put o.dst v) λs=>aGJ wr CC ops Q0 cL dl Q1 cF (up && !(Nat.beq dl i)) rest s L R Φ K)
     (λs=>ltS P W wr ops L Q0 cL T (s.put o.dst (.v undef)) λs=>aGJ wr CC ops Q0 cL dl Q1 cF (up && !(Nat.beq dl i)) rest s L R Φ K)
inductive OT where
 | done
 | rd (i:Nat) (k:OT)
 | alt (i:Nat) (k r:OT)
 | no
def HD:OT->List Nat
 | .alt i _ r=>i :: HD r
 | _=>[]
def a2H:OT->List Nat
 | .rd i k=>i :: a2H k
 | .alt i k _=>i :: a2H k
 | _=>[]
def eZ(ops:Array Oper)(listed:Array Bool):Bool :=
 (List.range ops.size).all λk => !(listed.getD k true)||match ops[k]? with
  | none=>true
  | some o=>o.after.toList.all λe => !(Region.binds .any e)||listed.getD e.on false
def CM(ops:Array Oper)(fin:Array Bool):OT->Bool->Nat->Array Bool->Bool
 | .done,false,0,x=>decide (x=fin)
 | .rd i k,false,n+1,x=>(Region.ready .any ops x).contains i&&Region.free .any ops x i&&(Region.ready .any ops (fin.setIfInBounds i false) == [i] || !(eZ ops (fin.setIfInBounds i false)))&&CM ops fin k false n (x.setIfInBounds i true)
 | .alt i k r,false,n+1,x=>(Region.ready .any ops x == i :: HD r)&&(CM ops fin k false n (x.setIfInBounds i true)&&CM ops fin r true n x)
 | .alt i k r,true,n,x=>CM ops fin k false n (x.setIfInBounds i true)&&CM ops fin r true n x
 | .no,true,_,_=>true
 | _,_,_,_=>false
def tS(wr:Nat->Bool)(ops:Array Oper)(L:List Tr)(Q0:List Own)(cL:PW):OT->fP->List Own->PW->(fP->List Own->PW->Prop)->Prop
 | .done,s,R,Φ,K=>K s R Φ
 | .no,_,_,_,_=>True
 | .rd i k,s,R,Φ,K=>match ops[i]? with
  | none=>False
  | some o=>rY ops o s L (λs=>hrS P W (wr (o.dst.getD 0)) o s L Q0 cL λv=>tS wr ops L Q0 cL k (s.put o.dst v) R Φ K) (λs=>tS wr ops L Q0 cL k (s.put o.dst (.v undef)) R Φ K)
 | .alt i k r,s,R,Φ,K=>(match ops[i]? with
  | none=>False
  | some o=>rY ops o s L
    (λs=>opS P W (wr (o.dst.getD 0)) false (λi=>iE o.dst i ops.toList) o s L R Φ λv L' R' aU=>match v,y8 [] L' L with
      | .v x,true=>(∀ w F,Ctx W w (R'++F) aU->Ctx W w (Q0++F) cL)/\tS wr ops L Q0 cL k (s.put o.dst (.v x)) R' aU K
      | _,_=>False)
    (λs=>tS wr ops L Q0 cL k (s.put o.dst (.v undef)) R Φ K))/\(match r with | .no=>True|r=>tS wr ops L Q0 cL r s R Φ K)
inductive Sg where
 | tree (t:OT) (n:Nat)
 | bF (T:List Nat) (e:Option Nat)
 | held (ord:List (Nat × Bool))
 | free (ord:List (Nat × Bool))
 | late (B tJ:List Nat) (l:List (Nat × List Nat))
 | a2I (C:List Nat) (dl:Nat) (B tJ:List Nat) (l:List (Nat × List Nat))
def PX:List (Nat × List Nat)->Array Bool->Array Bool
 | [],x=>x
 | (i,T) :: r,x=>PX r (bK T (x.setIfInBounds i true))
def jT(tJ:List Nat):List (Nat × List Nat)->List Nat
 | []=>tJ
 | (_,T) :: r=>T++jT tJ r
def a4z(ops:Array Oper)(fin:Array Bool):List (Nat × List Nat)->Array Bool->Bool
 | [],listed=>decide (listed=fin)&&(Region.ready .any ops listed).isEmpty
 | (i,T) :: r,listed=>Region.ready .any ops listed == [i]&&(mD ops T (listed.setIfInBounds i true)&&a4z ops fin r (bK T (listed.setIfInBounds i true)))
def waits(ops:Array Oper)(b:Nat):List Nat->List Nat->List Nat
 | [],acc=>acc
 | k :: r,acc=>waits ops b r (match ops[k]? with
  | some o=>match o.after.any λe=>Region.binds .any e&&(Nat.beq e.on b||dR e.on acc) with
   | true=>k :: acc
   | false=>acc
  | none=>acc)
def uZ(ops:Array Oper)(rd B:List Nat):Bool:=B.all λb=>dR b rd&&(λW:List Nat=>(List.range ops.size).all λj=>dR j rd||dR j W) (waits ops b (List.range ops.size) [])
def Z3:List (Nat × List Nat)->Nat
 | []=>0
 | (_,T) :: r=>(T.length+Z3 r)+1
def BC(ops:Array Oper):List (Nat × Bool)->Array Bool->Bool
 | [],_=>true
 | (i,true) :: r,listed=>(Region.ready .any ops listed).contains i&&Region.free .any ops listed i&&BC ops r (listed.setIfInBounds i true)
 | (i,false) :: r,listed=>Region.ready .any ops listed == [i]&&BC ops r (listed.setIfInBounds i true)
def kS:List (Nat × Bool)->List Nat
 | []=>[]
 | (i,true) :: r=>i :: kS r
 | (_,false) :: r=>kS r
def aKW(ops:Array Oper)(T:List Nat)(fin:Array Bool):Bool :=
 T.all λi=>Region.ready .any ops (fin.setIfInBounds i false) == [i] || !(eZ ops (fin.setIfInBounds i false))
def NB(ops:Array Oper):List Sg->Array Bool->Bool
 | [],listed=>(Region.ready .any ops listed).isEmpty
 | .bF T none :: rest,listed=>mD ops T listed&&TF ops T (bK T listed)&&NB ops rest (bK T listed)
 | .bF T (some i) :: rest,listed=>mD ops T listed&&TF ops T (bK T listed)&&(Region.ready .any ops (bK T listed) == [i]&&NB ops rest ((bK T listed).setIfInBounds i true))
 | .tree t n :: rest,listed=>eZ ops listed&&CM ops (bK (a2H t) listed) t false n listed&&NB ops rest (bK (a2H t) listed)
 | .held ord :: rest,listed=>BC ops ord listed&&eZ ops listed&&aKW ops (kS ord) (bK (ord.map (·.1)) listed)&&NB ops rest (bK (ord.map (·.1)) listed)
 | .free ord :: rest,listed=>BC ops ord listed&&TF ops (kS ord) (bK (ord.map (·.1)) listed)&&NB ops rest (bK (ord.map (·.1)) listed)
 | .late B tJ l :: _,listed=>eZ ops listed&&mD ops tJ listed&&(B.all λb=>dR b tJ)&&uZ ops (jT tJ l) B&&TF ops (jT tJ l) (PX l (bK tJ listed))&&(l.all λp => !dR p.1 (jT tJ l))&&a4z ops (PX l (bK tJ listed)) l (bK tJ listed)
 | .a2I C dl B tJ l :: _,listed=>eZ ops listed&&mD ops tJ listed&&(B.all λb=>dR b tJ)&&uZ ops (jT tJ l) B&&TF ops (jT tJ l) (PX l (bK tJ listed))&&(l.all λp => !dR p.1 (jT tJ l))&&a4z ops (PX l (bK tJ listed)) l (bK tJ listed)&&(C.all λc=>dR dl (waits ops c (List.range ops.size) [])) && !dR dl (jT tJ l)
def MJ:List Sg->Nat
 | []=>0
 | .bF T none :: r=>T.length+MJ r
 | .bF T (some _) :: r=>T.length+(MJ r+1)
 | .tree _ n :: r=>n+MJ r
 | .held ord :: r=>ord.length+MJ r
 | .free ord :: r=>ord.length+MJ r
 | .late _ tJ l :: _=>tJ.length+Z3 l
 | .a2I _ _ _ tJ l :: _=>tJ.length+Z3 l
def NC(wr CC:Nat->Bool)(ops:Array Oper):List Sg->fP->List Tr->List Own->PW->(fP->List Tr->List Own->PW->Prop)->Prop
 | [],s,L,R,Φ,K=>K s L R Φ
 | .bF T none :: rest,s,L,R,Φ,K=>a6z P W wr ops L R Φ T s λs=>NC wr CC ops rest s L R Φ K
 | .bF T (some i) :: rest,s,L,R,Φ,K=>a6z P W wr ops L R Φ T s λs=>match ops[i]? with
   | none=>False
   | some o=>rY ops o s L
     (λs=>opS P W (wr (o.dst.getD 0)) (CC (o.dst.getD 0)) (λi=>iE o.dst i ops.toList) o s L R Φ λv L R Φ=>NC wr CC ops rest (s.put o.dst v) L R Φ K)
     (λs=>NC wr CC ops rest (s.put o.dst (.v undef)) L R Φ K)
 | .tree t _ :: rest,s,L,R,Φ,K=>∃ (Q0:List Own) (cL:PW),aB cL/\(∀ w F,Ctx W w (R++F) Φ->Ctx W w (Q0++F) cL)/\tS P W wr ops L Q0 cL t s R Φ λs R Φ=>NC wr CC ops rest s L R Φ K
 | .held ord :: rest,s,L,R,Φ,K=>∃ (Q0:List Own) (cL:PW),aB cL/\(∀ w F,Ctx W w (R++F) Φ->Ctx W w (Q0++F) cL)/\hS P W wr ops L Q0 cL ord s R Φ λs R Φ=>NC wr CC ops rest s L R Φ K
 | .late B tJ l :: _,s,L,R,Φ,K=>∃ (Q0:List Own) (cL:PW),aB cL/\(∀ w F,Ctx W w (R++F) Φ->Ctx W w (Q0++F) cL)/\a9y P W wr ops L R Φ Q0 cL B tJ s λs=>dlS P W wr CC ops Q0 cL l s L R Φ K
 | .a2I C dl B tJ l :: _,s,L,R,Φ,K=>∃ (Q0:List Own) (cL:PW),aB cL/\(∀ w F,Ctx W w (R++F) Φ->Ctx W w (Q0++F) cL)/\∃ (Q1:List Own) (cF:PW),aB cF/\(∀ w F,Ctx W w (R++F) Φ->Ctx W w (Q1++F) cF)/\VT P W wr ops L R Φ Q0 cL C Q1 cF B tJ s λs=>aGJ P W wr CC ops Q0 cL dl Q1 cF true l s L R Φ K
 | .free ord :: rest,s,L,R,Φ,K=>∃ (Q0:List Own) (cL:PW),aB cL/\(∀ w F,Ctx W w (R++F) Φ->Ctx W w (Q0++F) cL)/\fS P W wr CC ops Q0 cL ord s L R Φ λs L R Φ=>NC wr CC ops rest s L R Φ K
def qS(wr d:Bool)(es:List Ent)(o:Oper)(s:fP)(L:List Tr)(w:World)(g:Option Bool)(ch:List (Nat × Bool))(K:SV->Prop):Prop :=
 match o.op with
 | .fieldAddr t x f=>match s.ev x with
  | .ptr k off=>match BA es ch (s.fr L) x with|true=>a4x P t k off f K|false=>False
  | .v _=>N1 P wr d es o (s.fr L) w g ch λv=>K (.v v)
 | .load t x=>match s.ev x with
  | .ptr k off=>match BA es ch (s.fr L) x with|true=>loadT P t L k off λv=>K (.v v)|false=>False
  | .v _=>N1 P wr d es o (s.fr L) w g ch λv=>K (.v v)
 | .move x=>match BA es ch (s.fr L) x with|true=>K (s.ev x)|false=>False
 | .assign x=>match BA es ch (s.fr L) x with|true=>K (s.ev x)|false=>False
 | _=>N1 P wr d es o (s.fr L) w g ch λv=>K (.v v)
def AQ(es:List Ent)(s:fP):fP:=⟨s.n,go s.l⟩
where go:List (Nat × SV)->List (Nat × SV)
 | []=>[]
 | (t,v) :: r=>match YO es t with|true=>(t,v) :: go r|false=>go r
def qsS(wr:Nat->Bool)(d:Bool)(ops:Array Oper)(L:List Tr)(w:World):List Oper->List Ent->fP->(fP->Prop)->Prop
 | [],es,s,K=>K (AQ es s)
 | o :: rest,es,s,K =>
  match guardOf ops es (s.fr L) o,o.dst with
  | some (g,ch),some t =>
   match (pN es t).isNone&&Nat.blt t s.n with
   | true=>qS P (wr t) d es o s L w g ch λv=>qsS wr d ops L w rest (⟨t,g,ch⟩ :: es) (s.put (some t) v) K
   | false=>False
  | _,_=>False
end
section
variable {P:Program}{W:World}{ops:Array Oper}{wr CC:Nat->Bool}{D:Nat->Prop}{s0:Fr}
theorem ND{Q L0 K}(hD:∀ (j:Nat) (o:Oper) (t:Nat),ops[j]? = some o->o.dst=some t->D t)(hK:∀ s L R Φ a w,K s L R Φ->At ds G W s L R Φ a w->Ext L0 L->cD D s0 (s.fr L)->Q .normal a w):
  ∀ (l:List Oper) (s:fP) (L:List Tr) (R:List Own) (Φ:PW) (a:Act) (w:World),(∀ o∈l,∀ t,o.dst=some t->D t)->aGH P W wr CC ops l s L R Φ K->At ds G W s L R Φ a w->Ext L0 L->cD D s0 (s.fr L)->wpList P ops Q l a w
 | [],s,L,R,Φ,a,w,_,h,ha,he,hu=>hK _ _ _ _ _ _ h ha he hu
 | o :: rest,s,L,R,Φ,a,w,hl,h,ha,he,hu=>by
  have hl':∀ o∈rest,∀ t,o.dst=some t->D t:=λo ho=>hl o (List.mem_cons_of_mem _ ho);have ho:∀ t,o.dst=some t->D t:=hl o (by simp);unfold aGH at h;unfold wpList;obtain ⟨s',cT,eG,h⟩:=fH hD h ha hu;rcases h with ⟨hw,h⟩|⟨hw,h⟩
  .rw [if_pos hw];have:=cT.st;refine .inl (Oper.mC (tV h cT.CL cT.wf cT.ctx λsv L' R' aU v' w' hk hst rP hp hc hv=>?_));exact ND hD hK rest _ _ _ _ _ _ hl' hk (cT.put o.dst rP hp hc hst hv) (he.trans rP) (eG.y7 cT.wf rP ho)
  .rw [if_neg (by simp [hw])];exact ND hD hK rest _ _ _ _ _ _ hl' h (cT.put o.dst (Ext.refl _) (λk o e=>by cases e) cT.ctx cT.st (λ_=>rfl)) he (eG.y7 cT.wf (Ext.refl _) ho)
theorem TK{wr o s L R Φ a w K}(h:rdS P W wr o s L R Φ K)(ha:At ds G W s L R Φ a w):
  ∃ sv v',K sv/\(∀ k o,sv=SV.ptr k o->(bS k L).isSome=true)/\(x8 (sv.val L)=false->v'=sv.val L)/\(execOp a.eval o).run P w=.ok (.value v') w:=by
 have hev:=uY s L;unfold rdS at h;split at h
 .rename_i cc x y hop;split at h
  .rename_i b hc;have KB:a.eval cc=.bool b:=by rw [ha.CL.eval (by rw [hev,hc];rfl),hev,hc]
   cases b with
   | true =>
    exact ⟨s.ev x,a.eval x,h,λk o e=>ha.wf.ev e,λhu=>by rw [ha.CL.eval (by rw [hev];exact hu),hev];rfl,by simp only [execOp,hop,KB,asBool,Sem.run_bind,Sem.run_pure,Result.andThen,if_true]⟩
   | false =>
    exact ⟨s.ev y,a.eval y,h,λk o e=>ha.wf.ev e,λhu=>by rw [ha.CL.eval (by rw [hev];exact hu),hev];rfl,by simp [execOp,hop,KB,asBool,Sem.run_bind,Sem.run_pure,Result.andThen]⟩
  .exact h.elim
 .split at h
  .rename_i ho;simp only [Bool.and_eq_true] at ho;rw [y4 ha.CL ho.1 ho.2,show (s.fr L).eval=s.val L from funext hev];unfold PU at h;split at h
   .rename_i p hp;obtain ⟨sv,h1,h2,h3⟩:=VR ha.wf ha.ctx hp h;exact ⟨sv,_,h3,h1,λ_=>rfl,h2 w rfl⟩
   .exact h.elim
  .exact h.elim
theorem Z4{Q L R Φ w Kf K fin}(hsel:Region.noSelect ops=true)(hD:∀ (j:Nat) (o:Oper) (t:Nat),ops[j]? = some o->o.dst=some t->D t)(hK:∀ s a,Kf s->At ds G W s L R Φ a w->cD D s0 (s.fr L)->K a w):
  ∀ (T:List Nat) (listed:Array Bool) (s:fP) (a:Act),(∀ i∈T,Region.ready .any ops (fin.setIfInBounds i false)=[i])->mD ops T listed=true->bK T listed=fin->a6z P W wr ops L R Φ T s Kf->At ds G W s L R Φ a w->cD D s0 (s.fr L) ->
   nQ P .any ops (eS Q) (λw'=>w'=w) (λl=>l=fin) K T.length listed a w
 | [],listed,s,a,_,_,hf,h,ha,hu=>⟨hf,hK s a h ha hu⟩
 | i :: r,listed,s,a,hl,ho,hf,h,ha,hu=>by
  simp only [mD,Bool.and_eq_true] at ho;obtain ⟨⟨sY,H8⟩,VU⟩:=ho;unfold a6z at h;split at h
  .exact h.elim
  rename_i o hi;have hd:∀ t,o.dst=some t->D t:=λt ht=>hD i o t hi ht;have hr:i∈Region.ready .any ops listed:=by simpa using sY
  have hE:∀ l:Array Bool,l.setIfInBounds i true=fin->i∈Region.ready .any ops l->∀ j∈Region.ready .any ops l,j=i:=by
   intro l hl' hil j hj;have e:l=fin.setIfInBounds i false:=by
    have h0:=(mem_ready.1 hil).1;rw [<-hl'];have h2:l[i]? = some false:=by
     rw [Array.getD_eq_getD_getElem?] at h0;cases hx:l[i]? with
     | none=>rw [hx] at h0;cases h0
     | some b=>rw [hx] at h0;simp at h0;subst h0;rfl
    have hlt:i<l.size:=(Array.getElem?_eq_some_iff.1 h2).1;apply Array.ext_getElem?;intro k;by_cases hk:i=k
    .subst hk;rw [Array.getElem?_setIfInBounds_self_of_lt (by simpa using hlt),h2]
    .rw [Array.getElem?_setIfInBounds_ne hk,Array.getElem?_setIfInBounds_ne hk]
   rw [e,hl i (by simp)] at hj;simpa using hj
  have take:∀ (s':fP) (sv:SV) (v':Value),At ds G W s' L R Φ a w->cD D s0 (s'.fr L)->(∀ k o,sv=SV.ptr k o->(bS k L).isSome=true)->(x8 (sv.val L)=false->v'=sv.val L)->YieldsIf P ops (λw'=>w'=w) o v' a->a6z P W wr ops L R Φ r (s'.put o.dst sv) Kf ->
    nQ P .any ops (eS Q) (λw'=>w'=w) (λl=>l=fin) K (i :: r).length listed a w:=by
   intro s' sv v' cT eG hp hv hy hk;have ih:=Z4 (Q:=Q) hsel hD hK r (listed.setIfInBounds i true) (s'.put o.dst sv) (a.put o.dst v') (λj hj=>hl j (List.mem_cons_of_mem _ hj)) VU hf hk (cT.put o.dst (Ext.refl _) hp cT.ctx cT.st hv) (eG.y7 cT.wf (Ext.refl _) hd);exact PK hi (Region.noSelect_spec hsel) (λ_ _ _ h=>h) hE r.length listed a w (Region.free_spec hi H8) hr hy rfl ih
  obtain ⟨s',cT,eG,h⟩:=fH hD h ha hu;rcases h with ⟨hw,h⟩|⟨hw,h⟩
  .obtain ⟨sv,v',h1,h2,h3,h4⟩:=TK h cT;exact take s' sv v' cT eG h2 h3 (.inl ⟨hw,λw' e=>by subst e;exact h4⟩) h1
  .exact take s' (.v undef) undef cT eG (λk o e=>by cases e) (λ_=>rfl) (.inr ⟨hw,rfl⟩) h
theorem a2J{Q L R Φ w Kf m}(hsel:Region.noSelect ops=true)(hD:∀ (j:Nat) (o:Oper) (t:Nat),ops[j]? = some o->o.dst=some t->D t){T listed s a}(hK:∀ s a,Kf s->At ds G W s L R Φ a w->cD D s0 (s.fr L)->wpAny P .any ops (eS Q) m (bK T listed) a w)(sY:mD ops T listed=true)(H8:TF ops T (bK T listed)=true)(h:a6z P W wr ops L R Φ T s Kf)(ha:At ds G W s L R Φ a w)(hu:cD D s0 (s.fr L)):wpAny P .any ops (eS Q) (T.length+m) listed a w:=by
 have hl:∀ j∈T,Region.ready .any ops ((bK T listed).setIfInBounds j false)=[j]:=by
  intro j hj;have:=List.all_eq_true.1 H8 j hj;simpa using this
 refine y5 (S:=λw'=>w'=w) (E:=λl=>l=bK T listed) (K:=λa' w'=>w'=w/\wpAny P .any ops (eS Q) m (bK T listed) a' w) ?_ T.length listed a w ?_
 .rintro l a w1 rfl ⟨rfl,hk⟩;exact hk
 .exact Z4 hsel hD (λs a hk ha hu=>⟨rfl,hK s a hk ha hu⟩) T listed s a hl sY rfl h ha hu
theorem aDG{t L k off K T}(hT:bS k L=some T)(h:loadT P t L k off K):
  ∃ v,K v/\∀ w:World,wY w T.b T.cs T.t->(loadVar t ⟨T.b,off,none⟩).run P w=.ok v w:=by
 unfold loadT at h;rw [hT] at h;split at h
 .rename_i T' d i e hd hi;cases e;split at h
  .rename_i l ha hz;split at h
   .rename_i hc;simp only [Bool.and_eq_true] at hc;have hlen:=Nat.eq_of_beq_eq_true hc.1;have hfit:∀ {l:List Sc} {vs:List Value},a6v l vs=true->vs.length=l.length:=by
     intro l
     induction l with
     | nil=>intro vs h;cases vs<;>simp_all [a6v]
     | cons s r ih =>
      intro vs h;cases vs with
      | nil=>simp [a6v] at h
      | cons v vs =>
       unfold a6v at h;split at h
       .simp [ih h]
       .cases h
    refine ⟨_,h,λw hb=>?_⟩;have hl2:=hfit hc.2;rw [hlen] at hl2;have hrow:bM w T.b off ((T.cs.drop off).take i.size):=hb.row λj hj=>by
     simp only [List.length_take,List.length_drop] at hj;rw [List.getElem_take,List.getElem_drop,List.getElem?_eq_getElem]
    generalize (T.cs.drop off).take i.size=vs at hl2 hrow;have hr:=run_loadCellsFrom (P:=P) (w:=w) (b:=T.b) (o:=off) vs 0 #[] (λj hj=>by rw [Nat.zero_add];exact hrow j hj);unfold loadVar loadCells;simp only [Sem.run_bind,xU hd,ha,Result.andThen,if_true,run_sizeOf hi,<-hl2,hr,Sem.run_pure];simp
   .exact h.elim
  .rename_i sc ha hz;split at h
   .rename_i v hv;have one:∀ w:World,wY w T.b T.cs T.t->(loadVar t ⟨T.b,off,none⟩).run P w=.ok v w:=by
     intro w hb;have hcell:=hb.DU hv;unfold loadVar;simp only [Sem.run_bind,xU hd,ha,Result.andThen,Bool.false_eq_true,if_false,load,Sem.run,hcell]
    split at h
    .obtain ⟨f,a,c,rfl,h⟩:=h;exact ⟨_,h,one⟩
    .split at h
     .exact ⟨v,h,one⟩
     .exact h.elim
   .exact h.elim
  .exact h.elim
 .exact h.elim
theorem a9z{wr o s L Q0}{cL:PW}{K p}(hst:aB cL)(hwf:N7 L s)(h:dH P W wr o s L [] cL K=some p)(hp:p)(hu:PV P o s L K=false):
  ∃ sv,K sv/\(∀ k o,sv=SV.ptr k o->(bS k L).isSome=true)/\∀ w',Ctx W w' (Q0++(L.map Tr.own++G)) cL->(execOp (s.val L) o).run P w'=.ok (.value (sv.val L)) w':=by
 have L9:∀ {p:Prop},iS P o (s.val L) (λv=>K (.v v))=false->jE P wr o (s.val L) W none (λv=>K (.v v))=some p->p ->
   ∃ sv,K sv/\(∀ k o,sv=SV.ptr k o->(bS k L).isSome=true)/\∀ w',Ctx W w' (Q0++(L.map Tr.own++G)) cL->(execOp (s.val L) o).run P w'=.ok (.value (sv.val L)) w':=by
  intro p hf hq hp;obtain ⟨v,h1,h2⟩:=N8 W W hq hf hp;exact ⟨.v v,h2,λk o e=>(by cases e),λw' _=>h1 w'⟩
 unfold dH at h;split at h
 .rename_i x hop;cases h;exact ⟨s.ev x,hp,λk o e=>hwf.ev e,λw' _=>by simp [execOp,hop,fP.val]⟩
 .rename_i x hop;cases h;exact ⟨s.ev x,hp,λk o e=>hwf.ev e,λw' _=>by simp [execOp,hop,fP.val]⟩
 .rename_i x hop;split at h
  .rename_i k off hx;cases h;obtain ⟨T,hT⟩:=Option.isSome_iff_exists.1 (hwf.ev hx);refine ⟨.ptr k off,hp,λk' o' e=>by cases e;rw [hT];rfl,λw' _=>?_⟩;have hv:s.val L x=.pointer (some ⟨T.b,off,none⟩):=by rw [fP.val,hx,fG hT]
   simp [execOp,hop,hv,fG hT]
  .exact L9 (by simp [iS,hop]) h hp
 .rename_i t x f hop;split at h
  .rename_i k off hx;cases h;obtain ⟨T,hT⟩:=Option.isSome_iff_exists.1 (hwf.ev hx);obtain ⟨off',h1,h2⟩:=xB hT hp;refine ⟨.ptr k off',h2,λk' o' e=>by cases e;rw [hT];rfl,λw' _=>?_⟩;have hv:s.val L x=.pointer (some ⟨T.b,off,none⟩):=by rw [fP.val,hx,fG hT]
   simp [execOp,hop,hv,fG hT,h1 w',Result.andThen]
  .exact L9 (by simp [iS,hop]) h hp
 .rename_i t x i hop;split at h
  .rename_i k off hx;cases h;obtain ⟨T,hT⟩:=Option.isSome_iff_exists.1 (hwf.ev hx);obtain ⟨off',h1,h2⟩:=DY hT hp;refine ⟨.ptr k off',h2,λk' o' e=>by cases e;rw [hT];rfl,λw' _=>?_⟩;have hv:s.val L x=.pointer (some ⟨T.b,off,none⟩):=by rw [fP.val,hx,fG hT]
   simp [execOp,hop,hv,fG hT,h1 w',Result.andThen]
  .exact L9 (by simp [iS,hop]) h hp
 .rename_i t x hop;split at h
  .rename_i k off hx;cases h;obtain ⟨T,hT⟩:=Option.isSome_iff_exists.1 (hwf.ev hx);obtain ⟨v,h2,h1⟩:=aDG hT hp;refine ⟨.v v,h2,λk o e=>(by cases e),λw' hS=>?_⟩;have hb:wY w' T.b T.cs T.t:=kD.blk (show kD G W w' L Q0 cL from hS) hT;have hv:s.val L x=.pointer (some ⟨T.b,off,none⟩):=by rw [fP.val,hx,fG hT]
   simp [execOp,hop,hv,Instr.loadAt,Instr.sureAddr,h1 w' hb,Result.andThen,SV.val]
  .rename_i x' hx;unfold PV at hu;simp only [hop,hx] at hu;cases hu
 .rename_i hop;unfold PV at hu;simp only [hop] at hu;simp [iS,hop] at hu
 .rename_i n1 n2 n3 n4 n5 n6 n7;have eG:iS P o (s.val L) (λv=>K (.v v))=false:=by
   clear h L9;unfold PV at hu;split at hu
   .rename_i t x hop;exact absurd hop (n6 t x)
   .rename_i x hop;exact absurd hop (n1 x)
   .rename_i x hop;exact absurd hop (n2 x)
   .rename_i x hop;exact absurd hop (n3 x)
   .rename_i t x f hop;exact absurd hop (n4 t x f)
   .rename_i t x f hop;exact absurd hop (n5 t x f)
   .exact hu
  rw [eG] at h;simp only at h;exact L9 eG h hp
theorem a2K{wr o s L R}{Φ cL:PW}{Q0 a w K}(hst:aB cL)(h:hrS P W wr o s L Q0 cL K)(ha:At ds G W s L R Φ a w)(hw:Ctx W w (Q0++(L.map Tr.own++G)) cL):
  ∃ sv v',K sv/\(∀ k o,sv=SV.ptr k o->(bS k L).isSome=true)/\(x8 (sv.val L)=false->v'=sv.val L)/\∀ w',Ctx W w' (Q0++(L.map Tr.own++G)) cL->(execOp a.eval o).run P w'=.ok (.value v') w':=by
 have hev:=uY s L;unfold hrS at h;split at h
 .rename_i cc x y hop;split at h
  .rename_i b hc;have KB:a.eval cc=.bool b:=by rw [ha.CL.eval (by rw [hev,hc];rfl),hev,hc]
   cases b with
   | true =>
    exact ⟨s.ev x,a.eval x,h,λk o e=>ha.wf.ev e,λhu=>by rw [ha.CL.eval (by rw [hev];exact hu),hev];rfl,λw' _=>by simp only [execOp,hop,KB,asBool,Sem.run_bind,Sem.run_pure,Result.andThen,if_true]⟩
   | false =>
    exact ⟨s.ev y,a.eval y,h,λk o e=>ha.wf.ev e,λhu=>by rw [ha.CL.eval (by rw [hev];exact hu),hev];rfl,λw' _=>by simp [execOp,hop,KB,asBool,Sem.run_bind,Sem.run_pure,Result.andThen]⟩
  .exact h.elim
 .split at h
  .rename_i ho;simp only [Bool.and_eq_true] at ho;rw [y4 ha.CL ho.1 ho.2,show (s.fr L).eval=s.val L from funext hev];split at h
   .obtain ⟨v,h1,h2⟩:=oE h;refine ⟨.v v,v,h2,λk o e=>(by cases e),λ_=>rfl,λw' hS=>?_⟩;obtain ⟨u,h3,h4⟩:=N9 (w:=w') (h1 w' _ hS);subst h4;exact h3 w' rfl
   .rename_i hu;unfold PU at h;split at h
    .rename_i p hp;obtain ⟨sv,h1,h2,h3⟩:=a9z hst ha.wf hp h (by simpa using hu);exact ⟨sv,_,h1,h2,λ_=>rfl,h3⟩
    .exact h.elim
  .exact h.elim
theorem CN{l:Array Bool}{i k}(h:l.getD k false=true):(l.setIfInBounds i true).getD k false=true:=by
 rw [Array.getD_eq_getD_getElem?] at h ⊢;by_cases hk:i=k
 .subst hk;rcases Nat.lt_or_ge i l.size with h'|h'
  .rw [Array.getElem?_setIfInBounds_self_of_lt h'];rfl
  .rw [Array.getElem?_eq_none (by simpa using h')] at h;cases h
 .rwa [Array.getElem?_setIfInBounds_ne hk]
theorem kE{ops listed i}(hc:eZ ops listed=true)(hr:i∈Region.ready .any ops listed):eZ ops (listed.setIfInBounds i true)=true:=by
 unfold eZ at hc ⊢;rw [List.all_eq_true] at hc ⊢;intro k hk;have h0:=hc k hk;obtain ⟨_,oi,hoi,hall⟩:=mem_ready.1 hr;by_cases hki:i=k
 .subst hki;simp only [hoi];rw [Bool.or_eq_true]
  right
  rw [List.all_eq_true];intro e he;cases hb:Region.binds .any e with
  | false=>rfl
  | true =>
   rw [Bool.or_eq_true];exact .inr (CN (hall e (by simpa using he) hb))
 .rw [getD_set_ne true hki];rw [Bool.or_eq_true] at h0 ⊢;rcases h0 with h0|h0
  .exact .inl h0
  .right
   split at h0
   .rfl
   .rw [List.all_eq_true] at h0 ⊢;intro e he;have:=h0 e he;rw [Bool.or_eq_true] at this ⊢;rcases this with h|h
    .exact .inl h
    .exact .inr (CN h)
theorem MK{P ops Q S E K i oi v}(hi:ops[i]? = some oi)(hsel:∀ (j:Nat) (o:Oper) cs b,ops[j]? = some o->o.op≠.select cs b)(hQ:∀ c a w,Q (.panic c) (a.put oi.dst v) w->Q (.panic c) a w)(hE:∀ listed,eZ ops listed=true->E (listed.setIfInBounds i true)->i∈Region.ready .any ops listed->∀ j∈Region.ready .any ops listed,j=i):
  ∀ (n:Nat) (listed:Array Bool) (a:Act) (w:World),eZ ops listed=true ->
   (∀ j oj,ops[j]? = some oj->j≠i->listed.getD j true=false->(∀ e∈oj.after,Region.binds .any e=true->e.on≠i)->oi.apart ops oj=true) ->
   i∈Region.ready .any ops listed->YieldsIf P ops S oi v a->S w ->
   nQ P .any ops Q S E K n (listed.setIfInBounds i true) (a.put oi.dst v) w->nQ P .any ops Q S E K (n+1) listed a w:=by
 intro n
 induction n with
 | zero =>
  intro listed a w hc _ hr hy hS H;refine ⟨λh=>(by rw [h] at hr;cases hr),λj hj=>?_⟩;have:=hE listed hc H.1 hr j hj;subst this;exact hy.wpOp hi hS ⟨hS,H⟩
 | succ n ih =>
  intro listed a w hc hfree hr hy hS H;refine ⟨λh=>(by rw [h] at hr;cases hr),λj hj=>?_⟩;by_cases hji:j=i
  .subst hji;exact hy.wpOp hi hS ⟨hS,H⟩
  .have h1:=H.2 j (ready_mono hj hji);obtain ⟨a6m,oj,hoj,hall⟩:=mem_ready.1 hj;have hnot:∀ e∈oj.after,Region.binds .any e=true->e.on≠i:=λe he hb heq=>by
    have h1:=hall e he hb;have h0:=(mem_ready.1 hr).1;rw [heq] at h1;rcases Nat.lt_or_ge i listed.size with h'|h'
    .simp [h'] at h0 h1;rw [h0] at h1;cases h1
    .simp [Array.getElem?_eq_none h'] at h1
   have h2:=wpOp_putIf hoj (hfree j oj hoj hji a6m hnot) (λcs b=>hsel i oi cs b hi) (λcs b=>hsel j oj cs b hoj) hQ hy h1;have YQ:∀ k ok,ops[k]? = some ok->k≠i->(listed.setIfInBounds j true).getD k true=false ->
     (∀ e∈ok.after,Region.binds .any e=true->e.on≠i)->oi.apart ops ok=true:=λk ok hk hki hun hno=>by
    refine hfree k ok hk hki ?_ hno;by_cases hjk:j=k
    .subst hjk;exact a6m
    .rw [getD_set_ne true hjk] at hun;exact hun
   refine wpOp_mono (λa' w' h3=>⟨h3.2.1,ih (listed.setIfInBounds j true) a' w' (kE hc hj) YQ (ready_mono hr (Ne.symm hji)) h3.1 h3.2.1 ?_⟩) h2;rw [Array.setIfInBounds_comm _ _ hji];exact h3.2.2
theorem PY{Q L Q0}{cL:PW}{Kf K fin}(hsel:Region.noSelect ops=true)(tX:aB cL)(hD:∀ (j:Nat) (o:Oper) (t:Nat),ops[j]? = some o->o.dst=some t->D t)(hK:∀ s R Φ a w,Kf s R Φ->At ds G W s L R Φ a w->cD D s0 (s.fr L)->K a w):
  ∀ (ord:List (Nat × Bool)) (listed:Array Bool) (s:fP) (R:List Own) (Φ:PW) (a:Act) (w:World),(∀ i∈kS ord,Region.ready .any ops (fin.setIfInBounds i false)=[i]\/eZ ops (fin.setIfInBounds i false)=false)->eZ ops listed=true->BC ops ord listed=true->bK (ord.map (·.1)) listed=fin ->
   hS P W wr ops L Q0 cL ord s R Φ Kf->At ds G W s L R Φ a w->(∀ w F,Ctx W w (R++F) Φ->Ctx W w (Q0++F) cL)->cD D s0 (s.fr L)->nQ P .any ops (eS Q) (λw'=>Ctx W w' (Q0++(L.map Tr.own++G)) cL) (λl=>l=fin) K ord.length listed a w
 | [],listed,s,R,Φ,a,w,_,_,_,hf,h,ha,nS,hu=>⟨hf,hK s R Φ a w h ha hu⟩
 | (i,still) :: r,listed,s,R,Φ,a,w,hl,tC,ho,hf,h,ha,nS,hu=>by
  unfold hS at h;split at h
  .exact h.elim
  rename_i o hi;have hd:∀ t,o.dst=some t->D t:=λt ht=>hD i o t hi ht;have hw:Ctx W w (Q0++(L.map Tr.own++G)) cL:=nS _ _ ha.ctx;obtain ⟨s',cT,eG,h⟩:=fH hD h ha hu;cases still with
  | true =>
   simp only [BC,Bool.and_eq_true] at ho;obtain ⟨⟨sY,H8⟩,VU⟩:=ho;have hr:i∈Region.ready .any ops listed:=by simpa using sY
   have hE:∀ l:Array Bool,eZ ops l=true->l.setIfInBounds i true=fin->i∈Region.ready .any ops l->∀ j∈Region.ready .any ops l,j=i:=by
    intro l hcc hl' hil j hj;have e:l=fin.setIfInBounds i false:=by
     have h0:=(mem_ready.1 hil).1;rw [<-hl'];have h2:l[i]? = some false:=by
      rw [Array.getD_eq_getD_getElem?] at h0;cases hx:l[i]? with
      | none=>rw [hx] at h0;cases h0
      | some b=>rw [hx] at h0;simp at h0;subst h0;rfl
     have hlt:i<l.size:=(Array.getElem?_eq_some_iff.1 h2).1;apply Array.ext_getElem?;intro k;by_cases hk:i=k
     .subst hk;rw [Array.getElem?_setIfInBounds_self_of_lt (by simpa using hlt),h2]
     .rw [Array.getElem?_setIfInBounds_ne hk,Array.getElem?_setIfInBounds_ne hk]
    rcases hl i (by simp [kS]) with h1|h1
    .rw [e,h1] at hj;simpa using hj
    .rw [e,h1] at hcc;cases hcc
   have take:∀ (s':fP) (sv:SV) (v':Value),At ds G W s' L R Φ a w->cD D s0 (s'.fr L)->(∀ k o,sv=SV.ptr k o->(bS k L).isSome=true)->(x8 (sv.val L)=false->v'=sv.val L) ->
     YieldsIf P ops (λw'=>Ctx W w' (Q0++(L.map Tr.own++G)) cL) o v' a->hS P W wr ops L Q0 cL r (s'.put o.dst sv) R Φ Kf ->
     nQ P .any ops (eS Q) (λw'=>Ctx W w' (Q0++(L.map Tr.own++G)) cL) (λl=>l=fin) K ((i,true) :: r).length listed a w:=by
    intro s' sv v' cT eG hp hv hy hk;have ih:=PY (Q:=Q) hsel tX hD hK r (listed.setIfInBounds i true) (s'.put o.dst sv) R Φ (a.put o.dst v') w (λj hj=>hl j (by simp [kS,hj])) (kE tC hr) VU hf hk (cT.put o.dst (Ext.refl _) hp cT.ctx cT.st hv) nS (eG.y7 cT.wf (Ext.refl _) hd);exact MK hi (Region.noSelect_spec hsel) (λ_ _ _ h=>h) hE r.length listed a w tC (Region.free_spec hi H8) hr hy hw ih
   rcases h with ⟨sX,h⟩|⟨sX,h⟩
   .obtain ⟨sv,v',h1,h2,h3,h4⟩:=a2K tX h cT hw;exact take s' sv v' cT eG h2 h3 (.inl ⟨sX,h4⟩) h1
   .exact take s' (.v undef) undef cT eG (λk o e=>by cases e) (λ_=>rfl) (.inr ⟨sX,rfl⟩) h
  | false =>
   simp only [BC,Bool.and_eq_true,beq_iff_eq] at ho;obtain ⟨sY,H8⟩:=ho;have aSQ:=kE tC (show i∈Region.ready .any ops listed by rw [sY];simp);refine ⟨by rw [sY];simp,λj hj=>?_⟩;rw [sY] at hj;have hj:j=i:=by simpa using hj
   subst hj;unfold wpOp;simp only [hi];rcases h with ⟨sX,h⟩|⟨sX,h⟩
   .simp only [sX,if_true];have:=cT.st;refine .inl (Oper.mC (tV h cT.CL cT.wf cT.ctx λsv L' R' aU v' w' hk hst rP hp hc hv=>?_));split at hk
    .rename_i x hs;obtain ⟨a4A,hk⟩:=hk;have hcL:kD G W w' L R' aU:=by
      have:=kD.meet (ts:=[]) hst hc rP cT.ids hs
      rwa [show jS [] (cellsOf [] L') L=L from TJ L] at this
     refine ⟨a4A _ _ hcL,?_⟩;exact PY hsel tX hD hK r _ _ _ _ _ _ (λj hj=>hl j (by simp [kS,hj])) aSQ H8 hf hk (cT.put o.dst (Ext.refl _) (λk o e=>by cases e) hcL hst hv) a4A (eG.y7 cT.wf (Ext.refl _) hd)
    .exact hk.elim
   .simp only [sX,Bool.false_eq_true,if_false];exact ⟨hw,PY hsel tX hD hK r _ _ _ _ _ _ (λj hj=>hl j (by simp [kS,hj])) aSQ H8 hf h (cT.put o.dst (Ext.refl _) (λk o e=>by cases e) cT.ctx cT.st (λ_=>rfl)) nS (eG.y7 cT.wf (Ext.refl _) hd)⟩
theorem HE{Q L Q0}{cL:PW}{Kf K fin}(hsel:Region.noSelect ops=true)(tX:aB cL)(hD:∀ (j:Nat) (o:Oper) (t:Nat),ops[j]? = some o->o.dst=some t->D t)(hK:∀ s R Φ a w,Kf s R Φ->At ds G W s L R Φ a w->cD D s0 (s.fr L)->K a w):∀ (t:OT),
  (∀ (n:Nat) (listed:Array Bool) (s:fP) (R:List Own) (Φ:PW) (a:Act) (w:World),eZ ops listed=true->CM ops fin t false n listed=true ->
   tS P W wr ops L Q0 cL t s R Φ Kf->At ds G W s L R Φ a w->(∀ w F,Ctx W w (R++F) Φ->Ctx W w (Q0++F) cL)->cD D s0 (s.fr L)->nQ P .any ops (eS Q) (λw'=>Ctx W w' (Q0++(L.map Tr.own++G)) cL) (λl=>l=fin) K n listed a w) /\
  (∀ (n:Nat) (listed:Array Bool) (s:fP) (R:List Own) (Φ:PW) (a:Act) (w:World),eZ ops listed=true->(∀ j∈HD t,j∈Region.ready .any ops listed)->CM ops fin t true n listed=true ->
   tS P W wr ops L Q0 cL t s R Φ Kf->At ds G W s L R Φ a w->(∀ w F,Ctx W w (R++F) Φ->Ctx W w (Q0++F) cL)->cD D s0 (s.fr L)->∀ j∈HD t,wpOp P ops (eS Q) j (λa' w'=>Ctx W w' (Q0++(L.map Tr.own++G)) cL /\
    nQ P .any ops (eS Q) (λw'=>Ctx W w' (Q0++(L.map Tr.own++G)) cL) (λl=>l=fin) K n (listed.setIfInBounds j true) a' w') a w)
 | .done=>by
  refine ⟨λn listed s R Φ a w tC ho h ha nS hu=>?_,λn listed s R Φ a w _ _ ho=>by simp [CM] at ho⟩;cases n with
  | zero=>exact ⟨by simpa [CM] using ho,hK s R Φ a w h ha hu⟩
  | succ n=>simp [CM] at ho
 | .no=>by
  refine ⟨λn listed s R Φ a w _ ho=>by simp [CM] at ho,λn listed s R Φ a w _ _ ho h ha nS hu j hj=>by simp [HD] at hj⟩
 | .rd i k=>by
  refine ⟨λn listed s R Φ a w tC ho h ha nS hu=>?_,λn listed s R Φ a w _ _ ho=>by simp [CM] at ho⟩;cases n with
  | zero=>simp [CM] at ho
  | succ n =>
   simp only [CM,Bool.and_eq_true] at ho;obtain ⟨⟨⟨sY,H8⟩,hl⟩,VU⟩:=ho;have hl:Region.ready .any ops (fin.setIfInBounds i false)=[i]\/eZ ops (fin.setIfInBounds i false)=false:=by simpa using hl
   unfold tS at h;split at h
   .exact h.elim
   rename_i o hi;have hd:∀ t,o.dst=some t->D t:=λt ht=>hD i o t hi ht;have hw:Ctx W w (Q0++(L.map Tr.own++G)) cL:=nS _ _ ha.ctx;obtain ⟨s',cT,eG,h⟩:=fH hD h ha hu;have hr:i∈Region.ready .any ops listed:=by simpa using sY
   have hE:∀ l:Array Bool,eZ ops l=true->l.setIfInBounds i true=fin->i∈Region.ready .any ops l->∀ j∈Region.ready .any ops l,j=i:=by
    intro l hcc hl' hil j hj;have e:l=fin.setIfInBounds i false:=by
     have h0:=(mem_ready.1 hil).1;rw [<-hl'];have h2:l[i]? = some false:=by
      rw [Array.getD_eq_getD_getElem?] at h0;cases hx:l[i]? with
      | none=>rw [hx] at h0;cases h0
      | some b=>rw [hx] at h0;simp at h0;subst h0;rfl
     have hlt:i<l.size:=(Array.getElem?_eq_some_iff.1 h2).1;apply Array.ext_getElem?;intro k;by_cases hk:i=k
     .subst hk;rw [Array.getElem?_setIfInBounds_self_of_lt (by simpa using hlt),h2]
     .rw [Array.getElem?_setIfInBounds_ne hk,Array.getElem?_setIfInBounds_ne hk]
    rcases hl with h1|h1
    .rw [e,h1] at hj;simpa using hj
    .rw [e,h1] at hcc;cases hcc
   have take:∀ (s':fP) (sv:SV) (v':Value),At ds G W s' L R Φ a w->cD D s0 (s'.fr L)->(∀ k o,sv=SV.ptr k o->(bS k L).isSome=true)->(x8 (sv.val L)=false->v'=sv.val L) ->
     YieldsIf P ops (λw'=>Ctx W w' (Q0++(L.map Tr.own++G)) cL) o v' a->tS P W wr ops L Q0 cL k (s'.put o.dst sv) R Φ Kf ->
     nQ P .any ops (eS Q) (λw'=>Ctx W w' (Q0++(L.map Tr.own++G)) cL) (λl=>l=fin) K (n+1) listed a w:=by
    intro s' sv v' cT eG hp hv hy hk;have ih:=(HE (Q:=Q) hsel tX hD hK k).1 n (listed.setIfInBounds i true) (s'.put o.dst sv) R Φ (a.put o.dst v') w (kE tC hr) VU hk (cT.put o.dst (Ext.refl _) hp cT.ctx cT.st hv) nS (eG.y7 cT.wf (Ext.refl _) hd);exact MK hi (Region.noSelect_spec hsel) (λ_ _ _ h=>h) hE n listed a w tC (Region.free_spec hi H8) hr hy hw ih
   rcases h with ⟨sX,h⟩|⟨sX,h⟩
   .obtain ⟨sv,v',h1,h2,h3,h4⟩:=a2K tX h cT hw;exact take s' sv v' cT eG h2 h3 (.inl ⟨sX,h4⟩) h1
   .exact take s' (.v undef) undef cT eG (λk o e=>by cases e) (λ_=>rfl) (.inr ⟨sX,rfl⟩) h
 | .alt i k r=>by
  have one:∀ (n:Nat) (listed:Array Bool) (s:fP) (R:List Own) (Φ:PW) (a:Act) (w:World),eZ ops listed=true->i∈Region.ready .any ops listed->CM ops fin k false n (listed.setIfInBounds i true)=true ->
    tS P W wr ops L Q0 cL (.alt i k r) s R Φ Kf->At ds G W s L R Φ a w->(∀ w F,Ctx W w (R++F) Φ->Ctx W w (Q0++F) cL)->cD D s0 (s.fr L)->wpOp P ops (eS Q) i (λa' w'=>Ctx W w' (Q0++(L.map Tr.own++G)) cL /\
     nQ P .any ops (eS Q) (λw'=>Ctx W w' (Q0++(L.map Tr.own++G)) cL) (λl=>l=fin) K n (listed.setIfInBounds i true) a' w') a w:=by
   intro n listed s R Φ a w tC hr ho h ha nS hu;unfold tS at h
   replace h:=h.1
   split at h
   .exact h.elim
   rename_i o hi;have hd:∀ t,o.dst=some t->D t:=λt ht=>hD i o t hi ht;have hw:Ctx W w (Q0++(L.map Tr.own++G)) cL:=nS _ _ ha.ctx;obtain ⟨s',cT,eG,h⟩:=fH hD h ha hu;unfold wpOp;simp only [hi];rcases h with ⟨sX,h⟩|⟨sX,h⟩
   .simp only [sX,if_true];have:=cT.st;refine .inl (Oper.mC (tV h cT.CL cT.wf cT.ctx λsv L' R' aU v' w' hk hst rP hp hc hv=>?_));split at hk
    .rename_i x hs;obtain ⟨a4A,hk⟩:=hk;have hcL:kD G W w' L R' aU:=by
      have:=kD.meet (ts:=[]) hst hc rP cT.ids hs
      rwa [show jS [] (cellsOf [] L') L=L from TJ L] at this
     refine ⟨a4A _ _ hcL,?_⟩;exact (HE hsel tX hD hK k).1 n _ _ _ _ _ _ (kE tC hr) ho hk (cT.put o.dst (Ext.refl _) (λk o e=>by cases e) hcL hst hv) a4A (eG.y7 cT.wf (Ext.refl _) hd)
    .exact hk.elim
   .simp only [sX,Bool.false_eq_true,if_false];exact ⟨hw,(HE hsel tX hD hK k).1 n _ _ _ _ _ _ (kE tC hr) ho h (cT.put o.dst (Ext.refl _) (λk o e=>by cases e) cT.ctx cT.st (λ_=>rfl)) nS (eG.y7 cT.wf (Ext.refl _) hd)⟩
  have more:∀ (n:Nat) (listed:Array Bool) (s:fP) (R:List Own) (Φ:PW) (a:Act) (w:World),eZ ops listed=true->(∀ j∈HD r,j∈Region.ready .any ops listed)->CM ops fin r true n listed=true ->
    tS P W wr ops L Q0 cL (.alt i k r) s R Φ Kf->At ds G W s L R Φ a w->(∀ w F,Ctx W w (R++F) Φ->Ctx W w (Q0++F) cL)->cD D s0 (s.fr L)->∀ j∈HD r,wpOp P ops (eS Q) j (λa' w'=>Ctx W w' (Q0++(L.map Tr.own++G)) cL /\
     nQ P .any ops (eS Q) (λw'=>Ctx W w' (Q0++(L.map Tr.own++G)) cL) (λl=>l=fin) K n (listed.setIfInBounds j true) a' w') a w:=by
   intro n listed s R Φ a w tC hr ho h ha nS hu j hj;unfold tS at h
   replace h:=h.2
   have h:tS P W wr ops L Q0 cL r s R Φ Kf:=by
    cases r with
    | no=>simp [HD] at hj
    | _=>exact h
   exact (HE hsel tX hD hK r).2 n listed s R Φ a w tC hr ho h ha nS hu j hj
  refine ⟨λn listed s R Φ a w tC ho h ha nS hu=>?_,λn listed s R Φ a w tC hr ho h ha nS hu j hj=>?_⟩
  .cases n with
   | zero=>simp [CM] at ho
   | succ n =>
    simp only [CM,Bool.and_eq_true,beq_iff_eq] at ho;obtain ⟨sY,H8,VU⟩:=ho;refine ⟨by rw [sY];simp,λj hj=>?_⟩;rw [sY] at hj;rcases List.mem_cons.1 hj with rfl|hj
    .exact one n listed s R Φ a w tC (by rw [sY];simp) H8 h ha nS hu
    .exact more n listed s R Φ a w tC (λj hj=>by rw [sY];exact List.mem_cons_of_mem _ hj) VU h ha nS hu j hj
  .simp only [CM,Bool.and_eq_true] at ho;simp only [HD] at hj;rcases List.mem_cons.1 hj with rfl|hj
   .exact one n listed s R Φ a w tC (hr _ (by simp [HD])) ho.1 h ha nS hu
   .exact more n listed s R Φ a w tC (λj hj=>hr j (by simp only [HD];exact List.mem_cons_of_mem _ hj)) ho.2 h ha nS hu j hj
theorem a9A{wr o s L K p}(hwf:N7 L s)(h:dH P W wr o s L [] (λ_ _=>True) K=some p)(hp:p)(hu:PV P o s L K=false)(hnl:∀ t x,o.op≠.load t x):
  ∃ sv,K sv/\(∀ k o,sv=SV.ptr k o->(bS k L).isSome=true)/\∀ w',(execOp (s.val L) o).run P w'=.ok (.value (sv.val L)) w':=by
 have L9:∀ {p:Prop},iS P o (s.val L) (λv=>K (.v v))=false->jE P wr o (s.val L) W none (λv=>K (.v v))=some p->p ->
   ∃ sv,K sv/\(∀ k o,sv=SV.ptr k o->(bS k L).isSome=true)/\∀ w',(execOp (s.val L) o).run P w'=.ok (.value (sv.val L)) w':=by
  intro p hf hq hp;obtain ⟨v,h1,h2⟩:=N8 W W hq hf hp;exact ⟨.v v,h2,λk o e=>(by cases e),λw'=>h1 w'⟩
 unfold dH at h;split at h
 .rename_i x hop;cases h;exact ⟨s.ev x,hp,λk o e=>hwf.ev e,λw'=>by simp [execOp,hop,fP.val]⟩
 .rename_i x hop;cases h;exact ⟨s.ev x,hp,λk o e=>hwf.ev e,λw'=>by simp [execOp,hop,fP.val]⟩
 .rename_i x hop;split at h
  .rename_i k off hx;cases h;obtain ⟨T,hT⟩:=Option.isSome_iff_exists.1 (hwf.ev hx);refine ⟨.ptr k off,hp,λk' o' e=>by cases e;rw [hT];rfl,λw'=>?_⟩;have hv:s.val L x=.pointer (some ⟨T.b,off,none⟩):=by rw [fP.val,hx,fG hT]
   simp [execOp,hop,hv,fG hT]
  .exact L9 (by simp [iS,hop]) h hp
 .rename_i t x f hop;split at h
  .rename_i k off hx;cases h;obtain ⟨T,hT⟩:=Option.isSome_iff_exists.1 (hwf.ev hx);obtain ⟨off',h1,h2⟩:=xB hT hp;refine ⟨.ptr k off',h2,λk' o' e=>by cases e;rw [hT];rfl,λw'=>?_⟩;have hv:s.val L x=.pointer (some ⟨T.b,off,none⟩):=by rw [fP.val,hx,fG hT]
   simp [execOp,hop,hv,fG hT,h1 w',Result.andThen]
  .exact L9 (by simp [iS,hop]) h hp
 .rename_i t x i hop;split at h
  .rename_i k off hx;cases h;obtain ⟨T,hT⟩:=Option.isSome_iff_exists.1 (hwf.ev hx);obtain ⟨off',h1,h2⟩:=DY hT hp;refine ⟨.ptr k off',h2,λk' o' e=>by cases e;rw [hT];rfl,λw'=>?_⟩;have hv:s.val L x=.pointer (some ⟨T.b,off,none⟩):=by rw [fP.val,hx,fG hT]
   simp [execOp,hop,hv,fG hT,h1 w',Result.andThen]
  .exact L9 (by simp [iS,hop]) h hp
 .rename_i t x hop;exact absurd hop (hnl t x)
 .rename_i hop;unfold PV at hu;simp only [hop] at hu;simp [iS,hop] at hu
 .rename_i n1 n2 n3 n4 n5 n6 n7;have eG:iS P o (s.val L) (λv=>K (.v v))=false:=by
   clear h L9;unfold PV at hu;split at hu
   .rename_i t x hop;exact absurd hop (n6 t x)
   .rename_i x hop;exact absurd hop (n1 x)
   .rename_i x hop;exact absurd hop (n2 x)
   .rename_i x hop;exact absurd hop (n3 x)
   .rename_i t x f hop;exact absurd hop (n4 t x f)
   .rename_i t x f hop;exact absurd hop (n5 t x f)
   .exact hu
  rw [eG] at h;simp only at h;exact L9 eG h hp
theorem CO{wr o s L R Φ cL Q0 a w K}(h:prS P W wr o s L Q0 cL K)(ha:At ds G W s L R Φ a w):
  ∃ sv v',K sv/\(∀ k o,sv=SV.ptr k o->(bS k L).isSome=true)/\(x8 (sv.val L)=false->v'=sv.val L)/\∀ w',(∃ S,Ctx W w' (Q0++S) cL)->(execOp a.eval o).run P w'=.ok (.value v') w':=by
 have hev:=uY s L;unfold prS at h;split at h
 .rename_i cc x y hop;split at h
  .rename_i b hc;have KB:a.eval cc=.bool b:=by rw [ha.CL.eval (by rw [hev,hc];rfl),hev,hc]
   cases b with
   | true =>
    exact ⟨s.ev x,a.eval x,h,λk o e=>ha.wf.ev e,λhu=>by rw [ha.CL.eval (by rw [hev];exact hu),hev];rfl,λw' _=>by simp only [execOp,hop,KB,asBool,Sem.run_bind,Sem.run_pure,Result.andThen,if_true]⟩
   | false =>
    exact ⟨s.ev y,a.eval y,h,λk o e=>ha.wf.ev e,λhu=>by rw [ha.CL.eval (by rw [hev];exact hu),hev];rfl,λw' _=>by simp [execOp,hop,KB,asBool,Sem.run_bind,Sem.run_pure,Result.andThen]⟩
  .exact h.elim
 .rename_i t x hop;split at h
  .exact h.elim
  .split at h
   .rename_i ho;simp only [Bool.and_eq_true] at ho;rw [y4 ha.CL ho.1 ho.2,show (s.fr L).eval=s.val L from funext hev];obtain ⟨v,h1,h2⟩:=oE h;refine ⟨.v v,v,h2,λk o e=>(by cases e),λ_=>rfl,λw' ⟨S,hS⟩=>?_⟩;obtain ⟨u,h3,h4⟩:=N9 (w:=w') (h1 w' _ hS);subst h4;exact h3 w' rfl
   .exact h.elim
 .rename_i np nl;split at h
  .rename_i ho;simp only [Bool.and_eq_true] at ho;rw [y4 ha.CL ho.1 ho.2,show (s.fr L).eval=s.val L from funext hev];split at h
   .exact h.elim
   .rename_i hu;unfold PU at h;split at h
    .rename_i p hp;obtain ⟨sv,h1,h2,h3⟩:=a9A ha.wf hp h (by simpa using hu) nl;exact ⟨sv,_,h1,h2,λ_=>rfl,λw' _=>h3 w'⟩
    .exact h.elim
  .exact h.elim
theorem PZ{Q L0 Q0 cL Kf K fin}(hsel:Region.noSelect ops=true)(hD:∀ (j:Nat) (o:Oper) (t:Nat),ops[j]? = some o->o.dst=some t->D t)(hK:∀ s L R Φ a w,Kf s L R Φ->At ds G W s L R Φ a w->Ext L0 L->cD D s0 (s.fr L)->K a w):
  ∀ (ord:List (Nat × Bool)) (listed:Array Bool) (s:fP) (L:List Tr) (R:List Own) (Φ:PW) (a:Act) (w:World),(∀ i∈kS ord,Region.ready .any ops (fin.setIfInBounds i false)=[i])->BC ops ord listed=true->bK (ord.map (·.1)) listed=fin ->
   fS P W wr CC ops Q0 cL ord s L R Φ Kf->At ds G W s L R Φ a w->(∀ w F,Ctx W w (R++F) Φ->Ctx W w (Q0++F) cL)->Ext L0 L->cD D s0 (s.fr L)->nQ P .any ops (eS Q) (λw'=>∃ S,Ctx W w' (Q0++S) cL) (λl=>l=fin) K ord.length listed a w
 | [],listed,s,L,R,Φ,a,w,_,_,hf,h,ha,nS,he,hu=>⟨hf,hK s L R Φ a w h ha he hu⟩
 | (i,still) :: r,listed,s,L,R,Φ,a,w,hl,ho,hf,h,ha,nS,he,hu=>by
  unfold fS at h;split at h
  .exact h.elim
  rename_i o hi;have hd:∀ t,o.dst=some t->D t:=λt ht=>hD i o t hi ht;have hw:∃ S,Ctx W w (Q0++S) cL:=⟨_,nS _ _ ha.ctx⟩;obtain ⟨s',cT,eG,h⟩:=fH hD h ha hu;cases still with
  | true =>
   simp only [BC,Bool.and_eq_true] at ho;obtain ⟨⟨sY,H8⟩,VU⟩:=ho;have hr:i∈Region.ready .any ops listed:=by simpa using sY
   have hE:∀ l:Array Bool,l.setIfInBounds i true=fin->i∈Region.ready .any ops l->∀ j∈Region.ready .any ops l,j=i:=by
    intro l hl' hil j hj;have e:l=fin.setIfInBounds i false:=by
     have h0:=(mem_ready.1 hil).1;rw [<-hl'];have h2:l[i]? = some false:=by
      rw [Array.getD_eq_getD_getElem?] at h0;cases hx:l[i]? with
      | none=>rw [hx] at h0;cases h0
      | some b=>rw [hx] at h0;simp at h0;subst h0;rfl
     have hlt:i<l.size:=(Array.getElem?_eq_some_iff.1 h2).1;apply Array.ext_getElem?;intro k;by_cases hk:i=k
     .subst hk;rw [Array.getElem?_setIfInBounds_self_of_lt (by simpa using hlt),h2]
     .rw [Array.getElem?_setIfInBounds_ne hk,Array.getElem?_setIfInBounds_ne hk]
    rw [e,hl i (by simp [kS])] at hj;simpa using hj
   have take:∀ (s':fP) (sv:SV) (v':Value),At ds G W s' L R Φ a w->cD D s0 (s'.fr L)->(∀ k o,sv=SV.ptr k o->(bS k L).isSome=true)->(x8 (sv.val L)=false->v'=sv.val L) ->
     YieldsIf P ops (λw'=>∃ S,Ctx W w' (Q0++S) cL) o v' a->fS P W wr CC ops Q0 cL r (s'.put o.dst sv) L R Φ Kf ->
     nQ P .any ops (eS Q) (λw'=>∃ S,Ctx W w' (Q0++S) cL) (λl=>l=fin) K ((i,true) :: r).length listed a w:=by
    intro s' sv v' cT eG hp hv hy hk;have ih:=PZ (Q:=Q) hsel hD hK r (listed.setIfInBounds i true) (s'.put o.dst sv) L R Φ (a.put o.dst v') w (λj hj=>hl j (by simp [kS,hj])) VU hf hk (cT.put o.dst (Ext.refl _) hp cT.ctx cT.st hv) nS he (eG.y7 cT.wf (Ext.refl _) hd);exact PK hi (Region.noSelect_spec hsel) (λ_ _ _ h=>h) hE r.length listed a w (Region.free_spec hi H8) hr hy hw ih
   rcases h with ⟨sX,h⟩|⟨sX,h⟩
   .obtain ⟨sv,v',h1,h2,h3,h4⟩:=CO h cT;exact take s' sv v' cT eG h2 h3 (.inl ⟨sX,h4⟩) h1
   .exact take s' (.v undef) undef cT eG (λk o e=>by cases e) (λ_=>rfl) (.inr ⟨sX,rfl⟩) h
  | false =>
   simp only [BC,Bool.and_eq_true,beq_iff_eq] at ho;obtain ⟨sY,H8⟩:=ho;refine ⟨by rw [sY];simp,λj hj=>?_⟩;rw [sY] at hj;have hj:j=i:=by simpa using hj
   subst hj;unfold wpOp;simp only [hi];rcases h with ⟨sX,h⟩|⟨sX,h⟩
   .simp only [sX,if_true];have:=cT.st;refine .inl (Oper.mC (tV h cT.CL cT.wf cT.ctx λsv L' R' aU v' w' hk hst rP hp hc hv=>⟨⟨_,hk.1 _ _ hc⟩,?_⟩));exact PZ hsel hD hK r _ _ _ _ _ _ _ (λj hj=>hl j (by simp [kS,hj])) H8 hf hk.2 (cT.put o.dst rP hp hc hst hv) hk.1 (he.trans rP) (eG.y7 cT.wf rP hd)
   .simp only [sX,Bool.false_eq_true,if_false];exact ⟨hw,PZ hsel hD hK r _ _ _ _ _ _ _ (λj hj=>hl j (by simp [kS,hj])) H8 hf h (cT.put o.dst (Ext.refl _) (λk o e=>by cases e) cT.ctx cT.st (λ_=>rfl)) nS he (eG.y7 cT.wf (Ext.refl _) hd)⟩
theorem nT{x:Array Bool}{i b}(h:(x.setIfInBounds i true).getD b true=false):b≠i/\x.getD b true=false:=by
 rw [Array.getD_eq_getD_getElem?] at h;by_cases e:i=b
 .subst e;rcases Nat.lt_or_ge i x.size with h'|h'
  .rw [Array.getElem?_setIfInBounds_self_of_lt h'] at h;simp at h
  .rw [Array.getElem?_eq_none (by simpa using h')] at h;simp at h
 .rw [Array.getElem?_setIfInBounds_ne e] at h;exact ⟨λhh=>e hh.symm,by rw [Array.getD_eq_getD_getElem?];exact h⟩
def SD(ops:Array Oper)(W w0:World)(Q0:List Own)(cL:PW)(dl:Option Nat)(Q1:List Own)(cF:PW)(B:List Nat)(x:Array Bool)(w:World):Prop:=eZ ops x=true/\(∃ S,Ctx W w (Q0++S) cL)/\((∃ b∈B,x.getD b true=false)->w=w0)/\∀ d,dl=some d->x.getD d true=false->∃ S,Ctx W w (Q1++S) cF
theorem SD.down{W w0 Q0 Q1 cL cF dl B i x w}(hi:i∈Region.ready .any ops x)(h:SD ops W w0 Q0 cL dl Q1 cF B x w):SD ops W w0 Q0 cL dl Q1 cF B (x.setIfInBounds i true) w :=
 ⟨kE h.1 hi,h.2.1,λ⟨b,hb,hx⟩=>h.2.2.1 ⟨b,hb,(nT hx).2⟩,λd hd hx=>h.2.2.2 d hd (nT hx).2⟩
inductive Wt(ops:Array Oper)(b:Nat):Nat->Prop
 | one {k:Nat} {o:Oper} {e:Edge}:ops[k]? = some o->e∈o.after->Region.binds .any e=true->e.on=b->Wt ops b k
 | more {k:Nat} {o:Oper} {e:Edge}:ops[k]? = some o->e∈o.after->Region.binds .any e=true->Wt ops b e.on->Wt ops b k
theorem Z5{b}:∀ (l acc:List Nat),(∀ k∈acc,Wt ops b k)->∀ k∈waits ops b l acc,Wt ops b k
 | [],_,h,k,hk=>h k hk
 | j :: r,acc,h,k,hk=>by
  unfold waits at hk;refine Z5 r _ ?_ k hk;intro k hk;split at hk
  .rename_i o ho;split at hk
   .rename_i ha;rcases List.mem_cons.1 hk with rfl|hk
    .simp only [Array.any_eq_true',Bool.and_eq_true,Bool.or_eq_true] at ha;obtain ⟨e,he,hbd,hon⟩:=ha;rcases hon with hon|hon
     .exact .one ho he hbd (Nat.eq_of_beq_eq_true hon)
     .exact .more ho he hbd (h _ (j3.1 hon))
    .exact h k hk
   .exact h k hk
  .exact h k hk
theorem Wt.listed{b x}(hc:eZ ops x=true){k}(h:Wt ops b k):(∀ (o:Oper) (e:Edge),ops[k]? = some o->e∈o.after->Region.binds .any e=true->x.getD e.on false=true)->x.getD b false=true:=by
 induction h with
 | one ho he hb hon=>intro hall;rw [<-hon];exact hall _ _ ho he hb
 | @more k o e ho he hb _ ih =>
  intro hall;have h1:=hall _ _ ho he hb;refine ih λo' e' ho' he' hb'=>?_;have hlt:e.on<ops.size:=(Array.getElem?_eq_some_iff.1 ho').1;have h2:=List.all_eq_true.1 hc e.on (List.mem_range.2 hlt);have h3:x.getD e.on true=true:=by
   rw [Array.getD_eq_getD_getElem?] at h1 ⊢;cases hx:x[e.on]? with
   | none=>rfl
   | some c=>rw [hx] at h1;simpa using h1
  rw [h3,ho'] at h2;simp only [Bool.not_true,Bool.false_or] at h2;have h4:=List.all_eq_true.1 h2 e' (by simpa using he');rw [hb'] at h4;simpa using h4
theorem Wt.later{b d x}(hc:eZ ops x=true)(h:Wt ops b d)(hb:x.getD b true=false):x.getD d true=false:=by
 cases hd:x.getD d true with
 | false=>rfl
 | true =>
  exfalso;have h3:=h.listed hc λo e ho he hbd=>by
   have hlt:d<ops.size:=(Array.getElem?_eq_some_iff.1 ho).1;have h2:=List.all_eq_true.1 hc d (List.mem_range.2 hlt);rw [hd,ho] at h2;simp only [Bool.not_true,Bool.false_or] at h2;have h4:=List.all_eq_true.1 h2 e (by simpa using he);rw [hbd] at h4;simpa using h4
  rw [Array.getD_eq_getD_getElem?] at h3 hb;cases hx:x[b]? with
  | none=>rw [hx] at h3;cases h3
  | some c=>rw [hx] at h3 hb;simp at h3 hb;rw [h3] at hb;cases hb
theorem SD.mono{W w0 Q0 Q1 cL cF dl B rd}(Q2:uZ ops rd B=true){i}(TL:dl≠some i)(x j w w')(hi:i∈Region.ready .any ops x)(hj:j∈Region.ready .any ops x)(hji:j≠i)(h:SD ops W w0 Q0 cL dl Q1 cF B x w)(hrd:dR j rd=true->w'=w)(h':SD ops W w0 Q0 cL dl Q1 cF B ((x.setIfInBounds i true).setIfInBounds j true) w'):SD ops W w0 Q0 cL dl Q1 cF B (x.setIfInBounds j true) w':=by
 refine ⟨kE h.1 hj,h'.2.1,λ⟨b,hb,hx⟩=>?_,λd hd hx=>h'.2.2.2 d hd (by rw [getD_set_ne true (Ne.symm (nT hx).1),getD_set_ne true (λe=>TL (by rw [hd,e]))];exact (nT hx).2)⟩;obtain ⟨hbj,hxb⟩:=nT hx;by_cases hbi:b=i
 .subst hbi;have hw:=h.2.2.1 ⟨b,hb,hxb⟩;cases hm:dR j rd with
  | true=>rw [hrd hm,hw]
  | false =>
   exfalso;unfold uZ at Q2;have h1:=List.all_eq_true.1 Q2 b hb;simp only [Bool.and_eq_true] at h1;obtain ⟨_,o,ho,hall⟩:=mem_ready.1 hj;have hlt:j<ops.size:=(Array.getElem?_eq_some_iff.1 ho).1;have h2:=List.all_eq_true.1 h1.2 j (List.mem_range.2 hlt);rw [hm] at h2;simp only [Bool.false_or] at h2;have sX:=Z5 (ops:=ops) (b:=b) _ [] (λk hk=>by cases hk) j (j3.1 h2);have h3:=sX.listed h.1 λo' e ho' he hbd=>by
    rw [ho] at ho';cases ho';exact hall e he hbd
   rw [Array.getD_eq_getD_getElem?] at h3 hxb;cases hx':x[b]? with
   | none=>rw [hx'] at h3;cases h3
   | some c=>rw [hx'] at h3 hxb;simp at h3 hxb;rw [h3] at hxb;cases hxb
 .refine h'.2.2.1 ⟨b,hb,?_⟩;rw [getD_set_ne true (Ne.symm hbj),getD_set_ne true (Ne.symm hbi)];exact hxb
theorem Z6{Q w0 w Q0 Q1 cL cF dl B rd E K fin n i o v a listed}(hsel:Region.noSelect ops=true)(Q2:uZ ops rd B=true)(TL:dl≠some i)(hEf:∀ x,E x->x=fin)(hl:Region.ready .any ops (fin.setIfInBounds i false)=[i])(hi:ops[i]? = some o)(hr:i∈Region.ready .any ops listed)(hf:Region.free .any ops listed i=true)(hy:YieldsIf P ops (λw=>∃ x,i∈Region.ready .any ops x/\SD ops W w0 Q0 cL dl Q1 cF B x w) o v a)(hS:SD ops W w0 Q0 cL dl Q1 cF B listed w)(H:nR P .any ops (eS Q) (SD ops W w0 Q0 cL dl Q1 cF B) (λj=>dR j rd) E K n (listed.setIfInBounds i true) (a.put o.dst v) w):nR P .any ops (eS Q) (SD ops W w0 Q0 cL dl Q1 cF B) (λj=>dR j rd) E K (n+1) listed a w:=by
 refine a4p hi (Region.noSelect_spec hsel) (λ_ _ _ h=>h) (λl hl' hil j hj=>?_) (λx w hi h=>h.down hi) (SD.mono Q2 TL) n listed a w (Region.free_spec hi hf) hr hy hS H;have hl':=hEf _ hl';have e:l=fin.setIfInBounds i false:=by
  have h0:=(mem_ready.1 hil).1;rw [<-hl'];have h2:l[i]? = some false:=by
   rw [Array.getD_eq_getD_getElem?] at h0;cases hx:l[i]? with
   | none=>rw [hx] at h0;cases h0
   | some b=>rw [hx] at h0;simp at h0;subst h0;rfl
  have hlt:i<l.size:=(Array.getElem?_eq_some_iff.1 h2).1;apply Array.ext_getElem?;intro k;by_cases hk:i=k
  .subst hk;rw [Array.getElem?_setIfInBounds_self_of_lt (by simpa using hlt),h2]
  .rw [Array.getElem?_setIfInBounds_ne hk,Array.getElem?_setIfInBounds_ne hk]
 rw [e,hl] at hj;simpa using hj
theorem CP{Q L R Φ cL cF Q0 Q1 dl w0 w B rd Kf K E fin m}(hsel:Region.noSelect ops=true)(Q2:uZ ops rd B=true)(hEf:∀ x,E x->x=fin)(hD:∀ (j:Nat) (o:Oper) (t:Nat),ops[j]? = some o->o.dst=some t->D t):
  ∀ (T:List Nat) (listed:Array Bool) (s:fP) (a:Act) (_:∀ i∈T,dl≠some i) (_:∀ s a,Kf s->At ds G W s L R Φ a w->cD D s0 (s.fr L)->SD ops W w0 Q0 cL dl Q1 cF B (bK T listed) w->nR P .any ops (eS Q) (SD ops W w0 Q0 cL dl Q1 cF B) (λj=>dR j rd) E K m (bK T listed) a w),
   (∀ i∈T,Region.ready .any ops (fin.setIfInBounds i false)=[i])->mD ops T listed=true->ltS P W wr ops L Q0 cL T s Kf->At ds G W s L R Φ a w->cD D s0 (s.fr L)->SD ops W w0 Q0 cL dl Q1 cF B listed w ->
   nR P .any ops (eS Q) (SD ops W w0 Q0 cL dl Q1 cF B) (λj=>dR j rd) E K (T.length+m) listed a w
 | [],listed,s,a,TL,hK,_,_,h,ha,hu,hS=>by simp only [List.length_nil,Nat.zero_add];exact hK s a h ha hu hS
 | i :: r,listed,s,a,TL,hK,hl,ho,h,ha,hu,hS=>by
  simp only [mD,Bool.and_eq_true] at ho;obtain ⟨⟨sY,H8⟩,VU⟩:=ho;unfold ltS at h;split at h
  .exact h.elim
  rename_i o hi;have hd:∀ t,o.dst=some t->D t:=λt ht=>hD i o t hi ht;have take:∀ (s':fP) (sv:SV) (v':Value),At ds G W s' L R Φ a w->cD D s0 (s'.fr L)->(∀ k o,sv=SV.ptr k o->(bS k L).isSome=true)->(x8 (sv.val L)=false->v'=sv.val L) ->
    YieldsIf P ops (λw=>∃ x,i∈Region.ready .any ops x/\SD ops W w0 Q0 cL dl Q1 cF B x w) o v' a->ltS P W wr ops L Q0 cL r (s'.put o.dst sv) Kf ->
    nR P .any ops (eS Q) (SD ops W w0 Q0 cL dl Q1 cF B) (λj=>dR j rd) E K ((i :: r).length+m) listed a w:=by
   intro s' sv v' cT eG hp hv hy hk;have ih:=CP (Q:=Q) hsel Q2 hEf hD r (listed.setIfInBounds i true) (s'.put o.dst sv) (a.put o.dst v') (λj hj=>TL j (List.mem_cons_of_mem _ hj)) hK (λj hj=>hl j (List.mem_cons_of_mem _ hj)) VU hk (cT.put o.dst (Ext.refl _) hp cT.ctx cT.st hv) (eG.y7 cT.wf (Ext.refl _) hd) (hS.down (by simpa using sY));rw [show (i :: r).length+m=(r.length+m)+1 by simp;omega];exact Z6 hsel Q2 (TL i (by simp)) hEf (hl i (by simp)) hi (by simpa using sY) H8 hy hS ih
  obtain ⟨s',cT,eG,h⟩:=fH hD h ha hu;rcases h with ⟨sX,h⟩|⟨sX,h⟩
  .obtain ⟨sv,v',h1,h2,h3,h4⟩:=CO h cT;exact take s' sv v' cT eG h2 h3 (.inl ⟨sX,λw' ⟨x,_,hx⟩=>h4 w' hx.2.1⟩) h1
  .exact take s' (.v undef) undef cT eG (λk o e=>by cases e) (λ_=>rfl) (.inr ⟨sX,rfl⟩) h
theorem lX{b}:∀ (T:List Nat) (x:Array Bool),(b∈T\/x.getD b true=true)->(bK T x).getD b true=true
 | [],x,h=>by rcases h with h|h;cases h;exact h
 | i :: r,x,h=>by
  unfold bK;refine lX r _ ?_;by_cases hbr:b∈r
  .exact .inl hbr
  .right
   cases hc:(x.setIfInBounds i true).getD b true with
   | true=>rfl
   | false =>
    obtain ⟨h1,h2⟩:=nT hc;rcases h with h|h
    .rcases List.mem_cons.1 h with h|h
     .exact absurd h h1
     .exact absurd h hbr
    .rw [h] at h2;cases h2
theorem Z7{Q L R Φ cL Q0 w B rd Kf K E fin m}(hsel:Region.noSelect ops=true)(Q2:uZ ops rd B=true)(hEf:∀ x,E x->x=fin)(hD:∀ (j:Nat) (o:Oper) (t:Nat),ops[j]? = some o->o.dst=some t->D t):
  ∀ (T:List Nat) (listed:Array Bool) (s:fP) (a:Act) (_:∀ s a,Kf s->At ds G W s L R Φ a w->cD D s0 (s.fr L)->SD ops W w Q0 cL none Q0 cL B (bK T listed) w->nR P .any ops (eS Q) (SD ops W w Q0 cL none Q0 cL B) (λj=>dR j rd) E K m (bK T listed) a w),
   (∀ i∈T,Region.ready .any ops (fin.setIfInBounds i false)=[i])->mD ops T listed=true->a9y P W wr ops L R Φ Q0 cL B T s Kf->At ds G W s L R Φ a w->cD D s0 (s.fr L)->SD ops W w Q0 cL none Q0 cL B listed w ->
   nR P .any ops (eS Q) (SD ops W w Q0 cL none Q0 cL B) (λj=>dR j rd) E K (T.length+m) listed a w
 | [],listed,s,a,hK,_,_,h,ha,hu,hS=>by simp only [List.length_nil,Nat.zero_add];exact hK s a h ha hu hS
 | i :: r,listed,s,a,hK,hl,ho,h,ha,hu,hS=>by
  simp only [mD,Bool.and_eq_true] at ho;obtain ⟨⟨sY,H8⟩,VU⟩:=ho;unfold a9y at h;split at h
  .exact h.elim
  rename_i o hi;have hd:∀ t,o.dst=some t->D t:=λt ht=>hD i o t hi ht;have take:∀ (s':fP) (sv:SV) (v':Value),At ds G W s' L R Φ a w->cD D s0 (s'.fr L)->(∀ k o,sv=SV.ptr k o->(bS k L).isSome=true)->(x8 (sv.val L)=false->v'=sv.val L) ->
    YieldsIf P ops (λw'=>∃ x,i∈Region.ready .any ops x/\SD ops W w Q0 cL none Q0 cL B x w') o v' a->a9y P W wr ops L R Φ Q0 cL B r (s'.put o.dst sv) Kf ->
    nR P .any ops (eS Q) (SD ops W w Q0 cL none Q0 cL B) (λj=>dR j rd) E K ((i :: r).length+m) listed a w:=by
   intro s' sv v' cT eG hp hv hy hk;have ih:=Z7 (Q:=Q) hsel Q2 hEf hD r (listed.setIfInBounds i true) (s'.put o.dst sv) (a.put o.dst v') hK (λj hj=>hl j (List.mem_cons_of_mem _ hj)) VU hk (cT.put o.dst (Ext.refl _) hp cT.ctx cT.st hv) (eG.y7 cT.wf (Ext.refl _) hd) (hS.down (by simpa using sY));rw [show (i :: r).length+m=(r.length+m)+1 by simp;omega];exact Z6 hsel Q2 (λe=>by cases e) hEf (hl i (by simp)) hi (by simpa using sY) H8 hy hS ih
  obtain ⟨s',cT,eG,h⟩:=fH hD h ha hu;rcases h with ⟨sX,h⟩|⟨sX,h⟩
  .split at h
   .rename_i hB;obtain ⟨sv,v',h1,h2,h3,h4⟩:=TK h cT;exact take s' sv v' cT eG h2 h3 (.inl ⟨sX,λw' ⟨x,hix,hx⟩=>by rw [hx.2.2.1 ⟨i,j3.1 hB,(mem_ready.1 hix).1⟩];exact h4⟩) h1
   .obtain ⟨sv,v',h1,h2,h3,h4⟩:=CO h cT;exact take s' sv v' cT eG h2 h3 (.inl ⟨sX,λw' ⟨x,_,hx⟩=>h4 w' hx.2.1⟩) h1
  .exact take s' (.v undef) undef cT eG (λk o e=>by cases e) (λ_=>rfl) (.inr ⟨sX,rfl⟩) h
theorem VV{Q L R Φ cL cF Q0 Q1 dl C w B rd Kf K E fin m}(hsel:Region.noSelect ops=true)(Q2:uZ ops rd B=true)(TL:dR dl rd=false)(hCw:∀ c∈C,Wt ops c dl)(hEf:∀ x,E x->x=fin)(hD:∀ (j:Nat) (o:Oper) (t:Nat),ops[j]? = some o->o.dst=some t->D t):
  ∀ (T:List Nat) (listed:Array Bool) (s:fP) (a:Act) (_:∀ s a,Kf s->At ds G W s L R Φ a w->cD D s0 (s.fr L)->SD ops W w Q0 cL (some dl) Q1 cF B (bK T listed) w->nR P .any ops (eS Q) (SD ops W w Q0 cL (some dl) Q1 cF B) (λj=>dR j rd) E K m (bK T listed) a w),
   (∀ i∈T,i∈rd)->(∀ i∈T,Region.ready .any ops (fin.setIfInBounds i false)=[i])->mD ops T listed=true->VT P W wr ops L R Φ Q0 cL C Q1 cF B T s Kf->At ds G W s L R Φ a w->cD D s0 (s.fr L)->SD ops W w Q0 cL (some dl) Q1 cF B listed w ->
   nR P .any ops (eS Q) (SD ops W w Q0 cL (some dl) Q1 cF B) (λj=>dR j rd) E K (T.length+m) listed a w
 | [],listed,s,a,hK,_,_,_,h,ha,hu,hS=>by simp only [List.length_nil,Nat.zero_add];exact hK s a h ha hu hS
 | i :: r,listed,s,a,hK,hTr,hl,ho,h,ha,hu,hS=>by
  simp only [mD,Bool.and_eq_true] at ho;obtain ⟨⟨sY,H8⟩,VU⟩:=ho;unfold VT at h;split at h
  .exact h.elim
  rename_i o hi;have hd:∀ t,o.dst=some t->D t:=λt ht=>hD i o t hi ht;have take:∀ (s':fP) (sv:SV) (v':Value),At ds G W s' L R Φ a w->cD D s0 (s'.fr L)->(∀ k o,sv=SV.ptr k o->(bS k L).isSome=true)->(x8 (sv.val L)=false->v'=sv.val L) ->
    YieldsIf P ops (λw'=>∃ x,i∈Region.ready .any ops x/\SD ops W w Q0 cL (some dl) Q1 cF B x w') o v' a->VT P W wr ops L R Φ Q0 cL C Q1 cF B r (s'.put o.dst sv) Kf ->
    nR P .any ops (eS Q) (SD ops W w Q0 cL (some dl) Q1 cF B) (λj=>dR j rd) E K ((i :: r).length+m) listed a w:=by
   intro s' sv v' cT eG hp hv hy hk;have ih:=VV (Q:=Q) hsel Q2 TL hCw hEf hD r (listed.setIfInBounds i true) (s'.put o.dst sv) (a.put o.dst v') hK (λj hj=>hTr j (List.mem_cons_of_mem _ hj)) (λj hj=>hl j (List.mem_cons_of_mem _ hj)) VU hk (cT.put o.dst (Ext.refl _) hp cT.ctx cT.st hv) (eG.y7 cT.wf (Ext.refl _) hd) (hS.down (by simpa using sY));rw [show (i :: r).length+m=(r.length+m)+1 by simp;omega]
   exact Z6 hsel Q2 (λe=>by have e:=Option.some.inj e;rw [e,j3.2 (hTr i (by simp))] at TL;cases TL) hEf (hl i (by simp)) hi (by simpa using sY) H8 hy hS ih
  obtain ⟨s',cT,eG,h⟩:=fH hD h ha hu;rcases h with ⟨sX,h⟩|⟨sX,h⟩
  .split at h
   .rename_i hB;obtain ⟨sv,v',h1,h2,h3,h4⟩:=TK h cT;exact take s' sv v' cT eG h2 h3 (.inl ⟨sX,λw' ⟨x,hix,hx⟩=>by rw [hx.2.2.1 ⟨i,j3.1 hB,(mem_ready.1 hix).1⟩];exact h4⟩) h1
   .split at h
    .rename_i hC;obtain ⟨sv,v',h1,h2,h3,h4⟩:=CO h cT;exact take s' sv v' cT eG h2 h3 (.inl ⟨sX,λw' ⟨x,hix,hx⟩=>h4 w' (hx.2.2.2 dl rfl ((hCw i (j3.1 hC)).later hx.1 (mem_ready.1 hix).1))⟩) h1
    .obtain ⟨sv,v',h1,h2,h3,h4⟩:=CO h cT;exact take s' sv v' cT eG h2 h3 (.inl ⟨sX,λw' ⟨x,_,hx⟩=>h4 w' hx.2.1⟩) h1
  .exact take s' (.v undef) undef cT eG (λk o e=>by cases e) (λ_=>rfl) (.inr ⟨sX,rfl⟩) h
theorem TM{Q L0 w0 Q0 cL B rd Kf K fin}(hsel:Region.noSelect ops=true)(Q2:uZ ops rd B=true)(hD:∀ (j:Nat) (o:Oper) (t:Nat),ops[j]? = some o->o.dst=some t->D t)(hK:∀ s L R Φ a w,Kf s L R Φ->At ds G W s L R Φ a w->Ext L0 L->cD D s0 (s.fr L)->K a w):
  ∀ (l:List (Nat × List Nat)) (listed:Array Bool) (s:fP) (L:List Tr) (R:List Own) (Φ:PW) (a:Act) (w:World),eZ ops listed=true->(∀ p∈l,∀ i∈p.2,Region.ready .any ops (fin.setIfInBounds i false)=[i])->a4z ops fin l listed=true->dlS P W wr CC ops Q0 cL l s L R Φ Kf->At ds G W s L R Φ a w->(∀ w F,Ctx W w (R++F) Φ->Ctx W w (Q0++F) cL)->Ext L0 L->cD D s0 (s.fr L) ->
   (∀ b∈B,listed.getD b true=true)->(∀ p∈l,dR p.1 rd=false)->nR P .any ops (eS Q) (SD ops W w0 Q0 cL none Q0 cL B) (λj=>dR j rd) (λx=>x=fin/\Region.ready .any ops x=[]) K (Z3 l) listed a w
 | [],listed,s,L,R,Φ,a,w,_,_,ho,h,ha,nS,he,hu,_,_=>by
  simp only [a4z,Bool.and_eq_true,decide_eq_true_eq,List.isEmpty_iff] at ho;exact ⟨ho,hK _ _ _ _ _ _ h ha he hu⟩
 | (i,T) :: rest,listed,s,L,R,Φ,a,w,tC,hl,ho,h,ha,nS,he,hu,hB,hn=>by
  simp only [a4z,Bool.and_eq_true,beq_iff_eq] at ho;obtain ⟨h1,h2,h3⟩:=ho;unfold dlS at h;split at h
  .exact h.elim
  rename_i o hi;have hd:∀ t,o.dst=some t->D t:=λt ht=>hD i o t hi ht;have hB':∀ b∈B,(listed.setIfInBounds i true).getD b true=true:=λb hb=>by
   cases hc:(listed.setIfInBounds i true).getD b true with
   | true=>rfl
   | false=>have:=(nT hc).2;rw [hB b hb] at this;cases this
  have sd:∀ {w':World} {R':List Own} {aU:PW} {L':List Tr},kD G W w' L' R' aU->(∀ w F,Ctx W w (R'++F) aU->Ctx W w (Q0++F) cL)->SD ops W w0 Q0 cL none Q0 cL B (listed.setIfInBounds i true) w':=λhc a4A =>
   ⟨kE tC (by rw [h1];simp),⟨_,a4A _ _ hc⟩,λ⟨b,hb,hx⟩=>(by rw [hB' b hb] at hx;cases hx),λd e=>by cases e⟩
  refine ⟨by rw [h1];simp,λj hj=>?_⟩;rw [h1] at hj;have hj:j=i:=by simpa using hj
  subst hj;obtain ⟨s',cT,eG,CH⟩:=fH hD h ha hu;unfold wpOp;simp only [hi];have hnr:=hn (j,T) (by simp);rcases CH with ⟨sX,h⟩|⟨sX,h⟩
  .simp only [sX,if_true];have:=cT.st;refine .inl (Oper.mC (tV h cT.CL cT.wf cT.ctx λsv L' R' aU v' w' hk hst rP hp hc hv=>⟨sd hc hk.1,λe=>(by rw [hnr] at e;cases e),?_⟩));refine CP hsel Q2 (λx hx=>hx.1) hD T _ _ _ (λi _ e=>by cases e) (λs a hk' Z8 N5 hsd=>?_) (hl (j,T) (by simp)) h2 hk.2 (cT.put o.dst rP hp hc hst hv) (eG.y7 cT.wf rP hd) (sd hc hk.1);exact TM hsel Q2 hD hK rest _ _ _ _ _ _ _ hsd.1 (λp hp'=>hl p (List.mem_cons_of_mem _ hp')) h3 hk' Z8 hk.1 (he.trans rP) N5 (λb hb=>lX T _ (.inr (hB' b hb))) (λp hp'=>hn p (List.mem_cons_of_mem _ hp'))
  .simp only [sX,Bool.false_eq_true,if_false];refine ⟨sd cT.ctx nS,λe=>(by rw [hnr] at e;cases e),?_⟩;refine CP hsel Q2 (λx hx=>hx.1) hD T _ _ _ (λi _ e=>by cases e) (λs a hk' Z8 N5 hsd=>?_) (hl (j,T) (by simp)) h2 h (cT.put o.dst (Ext.refl _) (λk o e=>by cases e) cT.ctx cT.st (λ_=>rfl)) (eG.y7 cT.wf (Ext.refl _) hd) (sd cT.ctx nS);exact TM hsel Q2 hD hK rest _ _ _ _ _ _ _ hsd.1 (λp hp'=>hl p (List.mem_cons_of_mem _ hp')) h3 hk' Z8 nS he N5 (λb hb=>lX T _ (.inr (hB' b hb))) (λp hp'=>hn p (List.mem_cons_of_mem _ hp'))
theorem NF{Q L0 w0 Q0 Q1 cL cF dl B rd Kf K fin}(hsel:Region.noSelect ops=true)(Q2:uZ ops rd B=true)(TL:dR dl rd=false)(hD:∀ (j:Nat) (o:Oper) (t:Nat),ops[j]? = some o->o.dst=some t->D t)(hK:∀ s L R Φ a w,Kf s L R Φ->At ds G W s L R Φ a w->Ext L0 L->cD D s0 (s.fr L)->K a w):
  ∀ (l:List (Nat × List Nat)) (up:Bool) (listed:Array Bool) (s:fP) (L:List Tr) (R:List Own) (Φ:PW) (a:Act) (w:World),eZ ops listed=true->(∀ p∈l,∀ i∈p.2,Region.ready .any ops (fin.setIfInBounds i false)=[i])->a4z ops fin l listed=true->aGJ P W wr CC ops Q0 cL dl Q1 cF up l s L R Φ Kf->At ds G W s L R Φ a w->(∀ w F,Ctx W w (R++F) Φ->Ctx W w (Q0++F) cL)->(listed.getD dl true=false->up=true/\∀ w F,Ctx W w (R++F) Φ->Ctx W w (Q1++F) cF)->(∀ p∈l,∀ i∈p.2,i∈rd)->Ext L0 L->cD D s0 (s.fr L) ->
   (∀ b∈B,listed.getD b true=true)->(∀ p∈l,dR p.1 rd=false)->nR P .any ops (eS Q) (SD ops W w0 Q0 cL (some dl) Q1 cF B) (λj=>dR j rd) (λx=>x=fin/\Region.ready .any ops x=[]) K (Z3 l) listed a w
 | [],up,listed,s,L,R,Φ,a,w,_,_,ho,h,ha,nS,_,_,he,hu,_,_=>by
  simp only [a4z,Bool.and_eq_true,decide_eq_true_eq,List.isEmpty_iff] at ho;exact ⟨ho,hK _ _ _ _ _ _ h ha he hu⟩
 | (i,T) :: rest,up,listed,s,L,R,Φ,a,w,tC,hl,ho,h,ha,nS,T8,hrd,he,hu,hB,hn=>by
  simp only [a4z,Bool.and_eq_true,beq_iff_eq] at ho;obtain ⟨h1,h2,h3⟩:=ho;unfold aGJ at h;split at h
  .exact h.elim
  rename_i o hi;have hd:∀ t,o.dst=some t->D t:=λt ht=>hD i o t hi ht;have hB':∀ b∈B,(listed.setIfInBounds i true).getD b true=true:=λb hb=>by
   cases hc:(listed.setIfInBounds i true).getD b true with
   | true=>rfl
   | false=>have:=(nT hc).2;rw [hB b hb] at this;cases this
  have sd:∀ {w':World} {R':List Own} {aU:PW} {L':List Tr},kD G W w' L' R' aU->(∀ w F,Ctx W w (R'++F) aU->Ctx W w (Q0++F) cL)->((listed.setIfInBounds i true).getD dl true=false->∀ w F,Ctx W w (R'++F) aU->Ctx W w (Q1++F) cF)->SD ops W w0 Q0 cL (some dl) Q1 cF B (listed.setIfInBounds i true) w':=λhc a4A XT =>
   ⟨kE tC (by rw [h1];simp),⟨_,a4A _ _ hc⟩,λ⟨b,hb,hx⟩=>(by rw [hB' b hb] at hx;cases hx),λd e hx=>by cases e;exact ⟨_,XT hx _ _ hc⟩⟩
  have aKY:∀ (R':List Own) (aU:PW),aGI dl i up (∀ w F,Ctx W w (R'++F) aU->Ctx W w (Q1++F) cF)->(listed.setIfInBounds i true).getD dl true=false->(up && !(Nat.beq dl i))=true/\∀ w F,Ctx W w (R'++F) aU->Ctx W w (Q1++F) cF:=by
   intro R' aU hq hx;obtain ⟨hne,hx⟩:=nT hx;have hb:Nat.beq dl i=false:=by cases hb:Nat.beq dl i with|false=>rfl|true=>exact absurd (Nat.eq_of_beq_eq_true hb) hne
   have hu:=(T8 hx).1;rw [hu] at hq ⊢;unfold aGI at hq;rw [hb] at hq ⊢;exact ⟨rfl,hq⟩
  have hun:∀ (T:List Nat) (x:Array Bool),(bK T x).getD dl true=false->x.getD dl true=false:=λT x hx=>by
   cases hc:x.getD dl true with
   | false=>rfl
   | true=>rw [lX T x (.inr hc)] at hx;cases hx
  have hTd:∀ i∈T,some dl≠some i:=λk hk e=>by
   cases e;rw [j3.2 (hrd (i,T) (by simp) dl hk)] at TL;cases TL
  refine ⟨by rw [h1];simp,λj hj=>?_⟩;rw [h1] at hj;have hj:j=i:=by simpa using hj
  subst hj;obtain ⟨s',cT,eG,CH⟩:=fH hD h ha hu;unfold wpOp;simp only [hi];have hnr:=hn (j,T) (by simp);rcases CH with ⟨sX,h⟩|⟨sX,h⟩
  .simp only [sX,if_true];have:=cT.st;refine .inl (Oper.mC (tV h cT.CL cT.wf cT.ctx λsv L' R' aU v' w' hk hst rP hp hc hv=>⟨sd hc hk.1 (λhx=>(aKY _ _ hk.2.1 hx).2),λe=>(by rw [hnr] at e;cases e),?_⟩));refine CP hsel Q2 (λx hx=>hx.1) hD T _ _ _ hTd (λs a hk' Z8 N5 hsd=>?_) (hl (j,T) (by simp)) h2 hk.2.2 (cT.put o.dst rP hp hc hst hv) (eG.y7 cT.wf rP hd) (sd hc hk.1 (λhx=>(aKY _ _ hk.2.1 hx).2));exact NF hsel Q2 TL hD hK rest _ _ _ _ _ _ _ _ hsd.1 (λp hp'=>hl p (List.mem_cons_of_mem _ hp')) h3 hk' Z8 hk.1 (λhx=>aKY _ _ hk.2.1 (hun _ _ hx)) (λp hp'=>hrd p (List.mem_cons_of_mem _ hp')) (he.trans rP) N5 (λb hb=>lX T _ (.inr (hB' b hb))) (λp hp'=>hn p (List.mem_cons_of_mem _ hp'))
  .simp only [sX,Bool.false_eq_true,if_false];have hq:(listed.setIfInBounds j true).getD dl true=false->∀ w F,Ctx W w (R++F) Φ->Ctx W w (Q1++F) cF:=λhx=>(T8 (nT hx).2).2;have hq':aGI dl j up (∀ w F,Ctx W w (R++F) Φ->Ctx W w (Q1++F) cF)\/listed.getD dl true=true:=by
    cases hc:listed.getD dl true with
    | true=>exact .inr rfl
    | false=>left;unfold aGI;split;trivial;split;trivial;exact (T8 hc).2
   have hq3:(listed.setIfInBounds j true).getD dl true=false->(up && !(Nat.beq dl j))=true/\∀ w F,Ctx W w (R++F) Φ->Ctx W w (Q1++F) cF:=λhx=>by
    rcases hq' with h|h
    .exact aKY _ _ h hx
    .rw [(nT hx).2] at h;cases h
   refine ⟨sd cT.ctx nS hq,λe=>(by rw [hnr] at e;cases e),?_⟩;refine CP hsel Q2 (λx hx=>hx.1) hD T _ _ _ hTd (λs a hk' Z8 N5 hsd=>?_) (hl (j,T) (by simp)) h2 h (cT.put o.dst (Ext.refl _) (λk o e=>by cases e) cT.ctx cT.st (λ_=>rfl)) (eG.y7 cT.wf (Ext.refl _) hd) (sd cT.ctx nS hq);exact NF hsel Q2 TL hD hK rest _ _ _ _ _ _ _ _ hsd.1 (λp hp'=>hl p (List.mem_cons_of_mem _ hp')) h3 hk' Z8 nS (λhx=>hq3 (hun _ _ hx)) (λp hp'=>hrd p (List.mem_cons_of_mem _ hp')) he N5 (λb hb=>lX T _ (.inr (hB' b hb))) (λp hp'=>hn p (List.mem_cons_of_mem _ hp'))
theorem qL{Q L0 K}(hsel:Region.noSelect ops=true)(hD:∀ (j:Nat) (o:Oper) (t:Nat),ops[j]? = some o->o.dst=some t->D t)(hK:∀ s L R Φ a w,K s L R Φ->At ds G W s L R Φ a w->Ext L0 L->cD D s0 (s.fr L)->Q .normal a w):
  ∀ (l:List Sg) (listed:Array Bool) (s:fP) (L:List Tr) (R:List Own) (Φ:PW) (a:Act) (w:World),NB ops l listed=true->NC P W wr CC ops l s L R Φ K->At ds G W s L R Φ a w->Ext L0 L->cD D s0 (s.fr L) ->
   wpAny P .any ops (eS Q) (MJ l) listed a w
 | [],listed,s,L,R,Φ,a,w,ho,h,ha,he,hu=>by
  refine ⟨?_,hK _ _ _ _ _ _ h ha he hu⟩;simpa [NB] using ho
 | .bF T none :: rest,listed,s,L,R,Φ,a,w,ho,h,ha,he,hu=>by
  simp only [NB,Bool.and_eq_true] at ho;obtain ⟨⟨sY,H8⟩,VU⟩:=ho;unfold NC at h;exact a2J hsel hD (λs a h ha hu=>qL hsel hD hK rest _ s L R Φ a w VU h ha he hu) sY H8 h ha hu
 | .tree t n :: rest,listed,s,L,R,Φ,a,w,ho,h,ha,he,hu=>by
  simp only [NB,Bool.and_eq_true] at ho;obtain ⟨⟨hc1,sY⟩,VU⟩:=ho;unfold NC at h;obtain ⟨Q0,cL,tX,hQ0,h⟩:=h;refine y5 (S:=λw'=>Ctx W w' (Q0++(L.map Tr.own++G)) cL) (E:=λl=>l=bK (a2H t) listed) (K:=λa' w'=>wpAny P .any ops (eS Q) (MJ rest) (bK (a2H t) listed) a' w') ?_ n listed a w ?_
  .rintro l a w1 rfl hk;exact hk
  .exact (HE hsel tX hD (λs R Φ a w hk ha hu=>qL hsel hD hK rest _ s L R Φ a w VU hk ha he hu) t).1 n listed s R Φ a w hc1 sY h ha hQ0 hu
 | .held ord :: rest,listed,s,L,R,Φ,a,w,ho,h,ha,he,hu=>by
  simp only [NB,Bool.and_eq_true] at ho;obtain ⟨⟨⟨sY,hc1⟩,H8⟩,VU⟩:=ho;unfold NC at h;have hl:∀ j∈kS ord,Region.ready .any ops ((bK (ord.map (·.1)) listed).setIfInBounds j false)=[j]\/eZ ops ((bK (ord.map (·.1)) listed).setIfInBounds j false)=false:=by
   intro j hj;have:=List.all_eq_true.1 H8 j hj;simpa using this
  obtain ⟨Q0,cL,tX,hQ0,h⟩:=h;refine y5 (S:=λw'=>Ctx W w' (Q0++(L.map Tr.own++G)) cL) (E:=λl=>l=bK (ord.map (·.1)) listed) (K:=λa' w'=>wpAny P .any ops (eS Q) (MJ rest) (bK (ord.map (·.1)) listed) a' w') ?_ ord.length listed a w ?_
  .rintro l a w1 rfl hk;exact hk
  .exact PY hsel tX hD (λs R Φ a w hk ha hu=>qL hsel hD hK rest _ s L R Φ a w VU hk ha he hu) ord listed s R Φ a w hl hc1 sY rfl h ha hQ0 hu
 | .late B tJ l :: rest,listed,s,L,R,Φ,a,w,ho,h,ha,he,hu=>by
  simp only [NB,Bool.and_eq_true] at ho;obtain ⟨⟨⟨⟨⟨⟨hc0,sY⟩,hBi⟩,Q2⟩,hla⟩,hnr⟩,TL⟩:=ho;unfold NC at h;have hl:∀ j∈jT tJ l,Region.ready .any ops ((PX l (bK tJ listed)).setIfInBounds j false)=[j]:=by
   intro j hj;have:=List.all_eq_true.1 hla j hj;simpa using this
  have aK0:∀ (l:List (Nat × List Nat)),∀ i∈tJ,i∈jT tJ l:=by
   intro l
   induction l with
   | nil=>exact λi hi=>hi
   | cons p r ih=>obtain ⟨q,T⟩:=p;exact λi hi=>List.mem_append.2 (.inr (ih i hi))
  have hlt:∀ (l:List (Nat × List Nat)),∀ p∈l,∀ i∈p.2,i∈jT tJ l:=by
   intro l
   induction l with
   | nil=>intro p hp;cases hp
   | cons q r ih =>
    obtain ⟨q,T⟩:=q;intro p hp i hi;rcases List.mem_cons.1 hp with rfl|hp
    .exact List.mem_append.2 (.inl hi)
    .exact List.mem_append.2 (.inr (ih p hp i hi))
  have hB:∀ b∈B,(bK tJ listed).getD b true=true:=λb hb=>lX tJ listed (.inl (j3.1 (List.all_eq_true.1 hBi b hb)));obtain ⟨Q0,cL,tX,hQ0,h⟩:=h;refine N3 (S:=SD ops W w Q0 cL none Q0 cL B) (rd:=λj=>dR j (jT tJ l)) (E:=λx=>x=PX l (bK tJ listed)/\Region.ready .any ops x=[]) (K:=λa' w'=>eS Q .normal a' w') (λl a w1 hE hk=>⟨hE.2,hk⟩) (tJ.length+Z3 l) listed a w ?_;refine Z7 hsel Q2 (λx hx=>hx.1) hD tJ listed s a (λs a hk ha hu hsd=>?_) (λi hi=>hl i (aK0 l i hi)) sY h ha hu ⟨hc0,⟨_,hQ0 _ _ ha.ctx⟩,λ_=>rfl,λd e=>by cases e⟩
  exact TM hsel Q2 hD (λs L R Φ a w hk ha he hu=>hK _ _ _ _ _ _ hk ha he hu) l _ s L R Φ a w hsd.1 (λp hp i hi=>hl i (hlt l p hp i hi)) TL hk ha hQ0 he hu hB (λp hp=>by simpa using List.all_eq_true.1 hnr p hp)
 | .a2I C dl B tJ l :: rest,listed,s,L,R,Φ,a,w,ho,h,ha,he,hu=>by
  simp only [NB,Bool.and_eq_true] at ho;obtain ⟨⟨⟨⟨⟨⟨⟨⟨hc0,sY⟩,hBi⟩,Q2⟩,hla⟩,hnr⟩,TL⟩,hC⟩,hdr⟩:=ho;unfold NC at h;have hl:∀ j∈jT tJ l,Region.ready .any ops ((PX l (bK tJ listed)).setIfInBounds j false)=[j]:=by
   intro j hj;have:=List.all_eq_true.1 hla j hj;simpa using this
  have aK0:∀ (l:List (Nat × List Nat)),∀ i∈tJ,i∈jT tJ l:=by
   intro l
   induction l with
   | nil=>exact λi hi=>hi
   | cons p r ih=>obtain ⟨q,T⟩:=p;exact λi hi=>List.mem_append.2 (.inr (ih i hi))
  have hlt:∀ (l:List (Nat × List Nat)),∀ p∈l,∀ i∈p.2,i∈jT tJ l:=by
   intro l
   induction l with
   | nil=>intro p hp;cases hp
   | cons q r ih =>
    obtain ⟨q,T⟩:=q;intro p hp i hi;rcases List.mem_cons.1 hp with rfl|hp
    .exact List.mem_append.2 (.inl hi)
    .exact List.mem_append.2 (.inr (ih p hp i hi))
  have hB:∀ b∈B,(bK tJ listed).getD b true=true:=λb hb=>lX tJ listed (.inl (j3.1 (List.all_eq_true.1 hBi b hb)));obtain ⟨Q0,cL,tX,hQ0,Q1,cF,NG,hQ1,h⟩:=h;have hdr:dR dl (jT tJ l)=false:=by simpa using hdr
  have hCw:∀ c∈C,Wt ops c dl:=λc hc=>Z5 (ops:=ops) (b:=c) _ [] (λk hk=>by cases hk) dl (j3.1 (List.all_eq_true.1 hC c hc));refine N3 (S:=SD ops W w Q0 cL (some dl) Q1 cF B) (rd:=λj=>dR j (jT tJ l)) (E:=λx=>x=PX l (bK tJ listed)/\Region.ready .any ops x=[]) (K:=λa' w'=>eS Q .normal a' w') (λl a w1 hE hk=>⟨hE.2,hk⟩) (tJ.length+Z3 l) listed a w ?_;refine VV hsel Q2 hdr hCw (λx hx=>hx.1) hD tJ listed s a (λs a hk ha hu hsd=>?_) (λi hi=>aK0 l i hi) (λi hi=>hl i (aK0 l i hi)) sY h ha hu ⟨hc0,⟨_,hQ0 _ _ ha.ctx⟩,λ_=>rfl,λd e _=>⟨_,hQ1 _ _ ha.ctx⟩⟩
  exact NF hsel Q2 hdr hD (λs L R Φ a w hk ha he hu=>hK _ _ _ _ _ _ hk ha he hu) l true _ s L R Φ a w hsd.1 (λp hp i hi=>hl i (hlt l p hp i hi)) TL hk ha hQ0 (λ_=>⟨rfl,hQ1⟩) (λp hp i hi=>hlt l p hp i hi) he hu hB (λp hp=>by simpa using List.all_eq_true.1 hnr p hp)
 | .free ord :: rest,listed,s,L,R,Φ,a,w,ho,h,ha,he,hu=>by
  simp only [NB,Bool.and_eq_true] at ho;obtain ⟨⟨sY,H8⟩,VU⟩:=ho;unfold NC at h;have hl:∀ j∈kS ord,Region.ready .any ops ((bK (ord.map (·.1)) listed).setIfInBounds j false)=[j]:=by
   intro j hj;have:=List.all_eq_true.1 H8 j hj;simpa using this
  obtain ⟨Q0,cL,tX,hQ0,h⟩:=h;refine y5 (S:=λw'=>∃ S,Ctx W w' (Q0++S) cL) (E:=λl=>l=bK (ord.map (·.1)) listed) (K:=λa' w'=>wpAny P .any ops (eS Q) (MJ rest) (bK (ord.map (·.1)) listed) a' w') ?_ ord.length listed a w ?_
  .rintro l a w1 rfl hk;exact hk
  .exact PZ hsel hD (λs L R Φ a w hk ha he hu=>qL hsel hD hK rest _ s L R Φ a w VU hk ha he hu) ord listed s L R Φ a w hl sY rfl h ha hQ0 he hu
 | .bF T (some i) :: rest,listed,s,L,R,Φ,a,w,ho,h,ha,he,hu=>by
  simp only [NB,Bool.and_eq_true,beq_iff_eq] at ho;obtain ⟨⟨sY,H8⟩,h1,h2⟩:=ho;unfold NC at h;refine a2J hsel hD (λs a h ha hu=>?_) sY H8 h ha hu;split at h
  .exact h.elim
  rename_i o hi;have hd:∀ t,o.dst=some t->D t:=λt ht=>hD i o t hi ht;refine ⟨λh0=>(by rw [h1] at h0;cases h0),λj hj=>?_⟩;rw [h1] at hj;have hj:j=i:=by simpa using hj
  subst hj;obtain ⟨s',cT,eG,CH⟩:=fH hD (by assumption) ha hu;clear h;have h:=CH;unfold wpOp;simp only [hi];rcases h with ⟨hw,h⟩|⟨hw,h⟩
  .simp only [hw,if_true];have:=cT.st;refine .inl (Oper.mC (tV h cT.CL cT.wf cT.ctx λsv L' R' aU v' w' hk hst rP hp hc hv=>?_));exact qL hsel hD hK rest _ _ _ _ _ _ _ h2 hk (cT.put o.dst rP hp hc hst hv) (he.trans rP) (eG.y7 cT.wf rP hd)
  .simp only [hw,Bool.false_eq_true,if_false];exact qL hsel hD hK rest _ _ _ _ _ _ _ h2 h (cT.put o.dst (Ext.refl _) (λk o e=>by cases e) cT.ctx cT.st (λ_=>rfl)) he (eG.y7 cT.wf (Ext.refl _) hd)
theorem aGL{wr d es o s L R Φ a w g ch K}(h:qS P wr d es o s L w g ch K)(hr:Rel ds es (s.fr L) a)(hwf:N7 L s)(hc:kD G W w L R Φ)(hg:DO g ↔ Holds (s.fr L) ch):
  ∃ sv,(∀ k o,sv=SV.ptr k o->(bS k L).isSome=true)/\(DO g->∃ v,(x8 (sv.val L)=false->v=sv.val L)/\∀ w',X0 d w w'->o.quietAt P a (X0 d w) w' v)/\K sv:=by
 have hev:=uY s L;have old:N1 P wr d es o (s.fr L) w g ch (λv=>K (.v v))->∃ sv,(∀ k o,sv=SV.ptr k o->(bS k L).isSome=true)/\(DO g->∃ v,(x8 (sv.val L)=false->v=sv.val L)/\∀ w',X0 d w w'->o.quietAt P a (X0 d w) w' v)/\K sv:=by
  intro h;obtain ⟨u,h1,h2⟩:=PI h hr hg;exact ⟨.v u,λk o e=>(by cases e),h1,h2⟩
 unfold qS at h;split at h
 .rename_i t x f hop;split at h
  .rename_i k off hx;split at h
   .rename_i hro;obtain ⟨T,hT⟩:=Option.isSome_iff_exists.1 (hwf.ev hx);obtain ⟨off',h1,h2⟩:=xB hT h;refine ⟨.ptr k off',λk' o' e=>by cases e;rw [hT];rfl,λCH=>⟨_,λ_=>rfl,λw' hw=>?_⟩,h2⟩;have hv:a.eval x=.pointer (some ⟨T.b,off,none⟩):=by rw [jR hro hr (hg.1 CH),hev,fP.val,hx,fG hT]
    unfold Oper.quietAt;simp only [execOp,hop,hv,Sem.run_bind,h1 w',Result.andThen,Sem.run_pure,Oper.quietUpon,fG hT];exact ⟨trivial,trivial⟩
   .exact h.elim
  .exact old h
 .rename_i t x hop;split at h
  .rename_i k off hx;split at h
   .rename_i hro;obtain ⟨T,hT⟩:=Option.isSome_iff_exists.1 (hwf.ev hx);obtain ⟨v,h1,h2⟩:=HC hT (hc.blk hT) h;refine ⟨.v v,λk' o' e=>(by cases e),λCH=>⟨_,λ_=>rfl,λw' hw=>?_⟩,h2⟩;have hv:a.eval x=.pointer (some ⟨T.b,off,none⟩):=by rw [jR hro hr (hg.1 CH),hev,fP.val,hx,fG hT]
    unfold Oper.quietAt;simp only [execOp,hop,hv,Instr.loadAt,Instr.sureAddr,Sem.run_bind,Sem.run_pure,Result.andThen,h1 w' hw.heap,Oper.quietUpon];exact ⟨trivial,rfl⟩
   .exact h.elim
  .exact old h
 .rename_i x hop;split at h
  .rename_i hro;refine ⟨s.ev x,λk o e=>hwf.ev e,λCH=>⟨_,λ_=>rfl,λw' hw=>?_⟩,h⟩;have hv:a.eval x=(s.ev x).val L:=by rw [jR hro hr (hg.1 CH),hev];rfl
   unfold Oper.quietAt;simp only [execOp,hop,hv,Sem.run_pure,Oper.quietUpon];exact ⟨trivial,trivial⟩
  .exact h.elim
 .rename_i x hop;split at h
  .rename_i hro;refine ⟨s.ev x,λk o e=>hwf.ev e,λCH=>⟨_,λ_=>rfl,λw' hw=>?_⟩,h⟩;have hv:a.eval x=(s.ev x).val L:=by rw [jR hro hr (hg.1 CH),hev];rfl
   unfold Oper.quietAt;simp only [execOp,hop,hv,Sem.run_pure,Oper.quietUpon];exact ⟨trivial,trivial⟩
  .exact h.elim
 .exact old h
theorem Z9(es s L):(AQ es s).fr L=forget es (s.fr L):=by
 have key:∀ l:List (Nat × SV),tU L (AQ.go es l)=nF (YO es) (tU L l):=by
  intro l
  induction l with
  | nil=>rfl
  | cons p r ih =>
   obtain ⟨t,v⟩:=p;simp only [AQ.go,tU,nF];cases YO es t with
   | true=>simp only [tU,ih]
   | false=>exact ih
 simp only [AQ,forget,fP.fr,key]
theorem a9B{es s L}(h:N7 L s):N7 L (AQ es s):=by
 have key:∀ l:List (Nat × SV),∀ p∈AQ.go es l,p∈l:=by
  intro l
  induction l with
  | nil=>intro p hp;exact hp
  | cons q r ih =>
   obtain ⟨t,v⟩:=q;intro p hp;simp only [AQ.go] at hp;cases hb:YO es t with
   | true=>rw [hb] at hp;rcases List.mem_cons.1 hp with rfl|hp;simp;exact List.mem_cons_of_mem _ (ih p hp)
   | false=>rw [hb] at hp;exact List.mem_cons_of_mem _ (ih p hp)
 exact λp hp=>h p (key _ p hp)
theorem TN{L R}{Φ:PW}{d w K Q}(hst:aB Φ)(aDF:(L.map Tr.id).Nodup)(hc:kD G W w L R Φ)(hK:∀ s a,K s->wG ds (s.fr L) a->N7 L s->cD D s0 (s.fr L)->Q a):
  ∀ (l:List Oper) (es:List Ent) (s:fP) (a:Act),(∀ o∈l,∀ t,o.dst=some t->D t)->(∀ e∈es,D e.slot/\e.slot<s.n)->qsS P wr d ops L w l es s K->Rel ds es (s.fr L) a->N7 L s->cD D s0 (s.fr L)->wpQuiet P ops (X0 d w) Q l a
 | [],es,s,a,_,_,h,hr,hwf,hu=>hK _ _ h (by rw [Z9];exact hr.done) (a9B hwf) (by rw [Z9];exact VK hu)
 | o :: rest,es,s,a,hl,he,h,hr,hwf,hu=>by
  have hl':∀ o∈rest,∀ t,o.dst=some t->D t:=λo ho=>hl o (List.mem_cons_of_mem _ ho);unfold qsS at h;split at h
  .rename_i g ch t hgd ht;split at h
   .rename_i hcd;simp only [Bool.and_eq_true] at hcd;obtain ⟨h1,h2,h3⟩:=MD hgd hr;obtain ⟨sv,hp,h4,h5⟩:=aGL h hr hwf hc h2;have hd:D t:=hl o (by simp) t ht;have htn:t<s.n:=by have:=hcd.2;rwa [Nat.blt_eq] at this
    have he':∀ e∈(⟨t,g,ch⟩:Ent) :: es,D e.slot/\e.slot<(s.put (some t) sv).n:=λe hx=>by
     have hn:(s.put (some t) sv).n=s.n:=by unfold fP.put;simp only;split<;>rfl
     rw [hn];rcases List.mem_cons.1 hx with rfl|hx
     .exact ⟨hd,htn⟩
     .exact he e hx
    have eG:cD D s0 ((s.put (some t) sv).fr L):=hu.y7 hwf (Ext.refl _) (λt' e=>by cases e;exact hd);have hwf':N7 L (s.put (some t) sv):=hwf.put hp;unfold wpQuiet;by_cases CH:DO g
    .rw [if_pos (h1.2 CH)];obtain ⟨v,h6,h7⟩:=h4 CH;refine ⟨v,h7,?_⟩;rw [ht];exact TN hst aDF hc hK rest _ _ _ hl' he' h5 (by rw [YZ];exact hr.put hcd.1 htn h2 h3 (λ_=>h6) (λhn=>absurd CH hn)) hwf' eG
    .rw [if_neg (λhw=>CH (h1.1 hw)),ht];exact TN hst aDF hc hK rest _ _ _ hl' he' h5 (by rw [YZ];exact hr.put hcd.1 htn h2 h3 (λhh=>absurd hh CH) (λ_=>rfl)) hwf' eG
   .exact h.elim
  .exact h.elim
end
end Go.Vc
end

section
namespace Go.Vc
open Go.RowKit
def kT(rd:Option Nat):Fence:={ Fence.wide with round:=rd }
def VW(Q:Exit->Act->World->Prop):Exit->Act->World->Prop
 | .normal,a,w=>Q .normal a w
 | _,_,_=>False
theorem a2L{Q}:∀ e a w,VW Q e a w->Q e a w:=λe a w h=>by
 cases e<;>first|exact h|exact h.elim
theorem a9C{Q}:¬ LetsOut (VW Q):=λ⟨_,_,h⟩=>h
def NH(o:Oper):Bool:=match o.op with | .defer _=>false|_=>true
def tY:List Oper->Bool
 | []=>true
 | o :: r=>NH o&&tY r
theorem y9:∀ {l:List Oper},tY l=true->∀ o∈l,NH o=true
 | [],_,o,ho=>by cases ho
 | p :: r,h,o,ho=>by
  simp only [tY,Bool.and_eq_true] at h;rcases List.mem_cons.1 ho with rfl|ho
  .exact h.1
  .exact y9 h.2 o ho
def nG:Code->Bool
 | .region _ ops _=>tY ops.toList
 | .seq x y=>nG x&&nG y
 | .cond _ x y=>nG x&&nG y
 | .block _ b=>nG b
 | .loop b=>nG b
 | .rangeFunc _ _ _ _=>false
 | .scope _=>false
 | _=>true
section
variable {P:Program}{b:Frame}{a:Act}{k:List Item}{cs:List Frame}{w:World}{F:Fence}{n:Nat}{Q:Exit->Act->World->Prop}
theorem r4{c}:step P (lone (b.atR a (.code (.scope c) :: k)) cs w)=.next (lone (b.atR a (.code c :: .inScope c :: k)) cs w) :=
 step_lone_go (by simp [stepG,stepG.exec,Frame.atR])
theorem a1L{c}:step P (lone (b.atR a (.inScope c :: k)) cs w)=.next (lone (b.atR a k) cs w) :=
 step_lone_go (by simp [stepG,stepG.exec,Frame.atR])
theorem a9D{c:Code}(h:c.wpIn F n P (λe a w=>match e with | .goto _=>False|e=>Q e a w) a w):(Code.scope c).wpIn F n P Q a w:=by
 intro b k cs hro hb hr;have h0:(lone (b.atR a (.code (.scope c) :: k)) cs w).fenced P F:=fenced_calm hb hr rfl;obtain ⟨e,a₁,w₁,hq,aDH⟩:=h b (.inScope c :: k) cs hro hb hr;cases e with
 | normal=>exact ⟨.normal,a₁,w₁,hq,.head h0 r4 (StepsIn.trans aDH (.one (fenced_calm hb hr rfl) a1L))⟩
 | exit id =>
  have hx:exitTo id (.inScope c :: k)=exitTo id k:=by simp [exitTo]
  exact ⟨.exit id,a₁,w₁,hq,λk' hk=>.head h0 r4 (aDH.1 k' (by rw [hx];exact hk)),
   λhr' hk=>let ⟨k₁,h1,h2⟩:=aDH.2 hr' (by rw [hx];exact hk);⟨k₁,h1,.head h0 r4 h2⟩⟩
 | goto l=>exact hq.elim
 | ret=>exact ⟨_,a₁,w₁,hq,.of_steps (.one h0 r4) aDH⟩
 | panic ch=>exact ⟨_,a₁,w₁,hq,.of_steps (.one h0 r4) aDH⟩
 | outgrown=>exact ⟨_,a₁,w₁,hq,.of_steps (.one h0 r4) aDH⟩
end
section
variable {P:Program}{rd:Option Nat}{ops:Array Oper}{Q:Exit->Act->World->Prop}
theorem aCb{o a w K K'}(hd:rd.isSome=true->NH o=true)(hQ:¬ LetsOut Q)(hK:∀ a w,K a w->K' a w)(h:o.wp P a w K Q):o.wpIn (kT rd) 0 P a w K' Q:=by
 refine ⟨λ_ _=>trivial,?_⟩;have e:o.semAt rd a.eval=execOp a.eval o:=by
  cases rd with
  | none=>rfl
  | some l=>exact Oper.semAt_eq _ _ _ λc hc=>(by have:=hd rfl;rw [NH,hc] at this;cases this)
 unfold Oper.wp at h;show o.uponIn (kT rd) 0 P a K' Q ((o.semAt rd a.eval).run P w);rw [e];generalize (execOp a.eval o).run P w=r at h;cases r with
 | ok n w' =>
  cases n<;>simp only [Oper.upon,Oper.uponIn] at h ⊢
  case value v=>exact hK _ _ h
  case skip=>exact hK _ _ h
  case defer d=>exact hK _ _ h
  case enter f args => 
   refine ⟨λhh=>(by cases hh),?_⟩;have:=(callsIn_wide (n:=0)).2 h;exact CallsIn.mono (F:=kT rd) this λe w'' he=>by cases e<;>first|exact hK _ _ he|exact he
  case row row args =>
   refine ⟨λhh=>(by cases hh),λc cs hr=>?_⟩;obtain ⟨v,w'',h1,h2⟩:=h c cs;exact ⟨v,w'',hK _ _ h1,stepsIn_wide.2 h2⟩
 | halt x w'=>cases x<;>simp only [Oper.upon,Oper.uponIn] at h ⊢ <;> exact h
theorem aCc(hQ:¬ LetsOut Q):∀ (l:List Oper) (a:Act) (w:World),(rd.isSome=true->∀ o∈l,NH o=true)->wpList P ops Q l a w->wpListIn (kT rd) 0 P ops Q l a w
 | [],a,w,_,h=>h
 | o :: r,a,w,hd,h=>by
  have ih:=aCc hQ r;unfold wpList at h;unfold wpListIn;split
  .rename_i hw;rw [if_pos hw] at h;rcases h with h|h
   .exact aCb (λhh=>hd hh o (by simp)) hQ (λa w h=>ih a w (λhh o ho=>hd hh o (List.mem_cons_of_mem _ ho)) h) h
   .exact absurd h.2 hQ
  .rename_i hw;rw [if_neg hw] at h;exact ⟨λ_ _=>trivial,ih _ _ (λhh o ho=>hd hh o (List.mem_cons_of_mem _ ho)) h⟩
theorem aSS(hQ:¬ LetsOut Q)(hd:rd.isSome=true->∀ o∈ops.toList,NH o=true){i a w K K'}(hK:∀ a w,K a w->K' a w)(h:wpOp P ops Q i K a w):wpOpIn (kT rd) 0 P ops Q i K' a w:=by
 unfold wpOp at h;unfold wpOpIn;cases ho:ops[i]? with
 | none=>rw [ho] at h;exact hK _ _ h
 | some o =>
  rw [ho] at h;simp only at h ⊢;split
  .rename_i hw;rw [if_pos hw] at h;rcases h with h|h
   .exact aCb (λhh=>hd hh o (by simpa using Array.mem_of_getElem? ho)) hQ hK h
   .exact absurd h.2 hQ
  .rename_i hw;rw [if_neg hw] at h;exact ⟨λ_ _=>trivial,hK _ _ h⟩
theorem aGM{md}(hQ:¬ LetsOut Q)(hd:rd.isSome=true->∀ o∈ops.toList,NH o=true):∀ (n:Nat) (listed:Array Bool) (a:Act) (w:World),wpAny P md ops Q n listed a w->wpAnyIn (kT rd) 0 P md ops Q n listed a w
 | 0,_,_,_,h=>h
 | n+1,listed,a,w,h=>⟨h.1,λi hi=>aSS hQ hd (λa w h=>aGM hQ hd n _ a w h) (h.2 i hi)⟩
theorem a6D{id a w}(hd:rd.isSome=true->tY ops.toList=true)(h:wpList P ops (VW Q) ops.toList a w):(Code.region id ops false).wpIn (kT rd) 0 P Q a w :=
 wpIn_mono (wpIn_region_list (aCc a9C _ _ _ (λhh=>y9 (hd hh)) h)) a2L
theorem aCd{id a w}(hd:rd.isSome=true->tY ops.toList=true)(hm:P.follows .mixedOrders=true)(h:wpAny P .any ops (eS (VW Q)) ops.size (Array.replicate ops.size false) a (w.drewN 1)):
  (Code.region id ops true).wpIn (kT rd) 0 P Q a w :=
 wpIn_mono (wpIn_region_any hm (aGM (λ⟨_,_,h⟩=>h) (λhh=>y9 (hd hh)) _ _ _ _ h)) λe a w h=>a2L _ _ _ (a2B _ _ _ h)
theorem aDI{id a w}(hd:rd.isSome=true->tY ops.toList=true)(hm:P.follows .mixedOrders=true)(hB:Region.lexB .any ops=true)(h:wpQuiet P ops (λw'=>∃ n,w'=w.drewN n) (λa'=>∀ w',(∃ n,w'=w.drewN n)->Q .normal a' w') ops.toList a):(Code.region id ops true).wpIn (kT rd) 0 P Q a w:=by
 refine aCd hd hm ?_;simp only [Region.lexB,Bool.and_eq_true] at hB;refine wpAny_of_quiet (C:=λw'=>∃ n,w'=w.drewN n) (Q':=eS (VW Q)) (Q:=λa'=>∀ w',(∃ n,w'=w.drewN n)->Q .normal a' w') (λ_ w' hw' h=>h w' hw') _ _ _ _ ⟨1,rfl⟩ ?_;have:=wpAnyQ_lex (C:=λw'=>∃ n,w'=w.drewN n) (md:=.any) hB.1 ops.toList 0 (Array.replicate ops.size false) a (by simp) (by simpa using hB.2) h;simpa using this
end
def mark(D:Nat):Deferred:={ target:=.collected D,args:=#[] }
def FC(D:Nat):Own:=.obj D (.deferred (some []))
def Tie(rd:Option Nat)(ds:List Deferred)(G:List Own)(ds':List Deferred)(G':List Own):Prop :=
 ∃ Z:List Nat,(rd.isSome=true->Z=[])/\ds'=Z.map mark++ds/\G'=Z.map FC++G
theorem Tie.refl(rd ds G):Tie rd ds G ds G:=⟨[],λ_=>rfl,rfl,rfl⟩
theorem Tie.trans{rd ds ds1 ds2 G G1 G2}(h:Tie rd ds G ds1 G1)(k:Tie rd ds1 G1 ds2 G2):Tie rd ds G ds2 G2:=by
 obtain ⟨Z,h1,rfl,rfl⟩:=h;obtain ⟨Y,k1,rfl,rfl⟩:=k;exact ⟨Y++Z,λhh=>by rw [h1 hh,k1 hh];rfl,by simp,by simp⟩
theorem Q3{P fn tmps Rr W}{Φ:PW}[aB Φ]:∀ (Z:List Nat) (S:List Own) (w:World),Ctx W w (S++Z.map FC) Φ ->
  (∀ w' S',Ctx W w' (S++S') Φ->LeavesIn Fence.wide 0 P fn tmps Rr [] .returning w')->LeavesInM Fence.wide 0 P fn tmps Rr (Z.map mark) .returning w
 | [],S,w,c,h=>h w [] c
 | D :: Z,S,w,c,h=>by
  refine ⟨by simp,.inl ⟨D,DW w D (.deferred none),rfl,run_takeDeferred (c.own (FC D) (by simp)),?_⟩⟩;have hk:(S++(D :: Z).map FC)[S.length]? = some (.obj D (.deferred (some []))):=by
   rw [List.getElem?_append_right (Nat.le_refl _)];simp [FC]
  have c2:=c.putObj S.length (.deferred none) hk;have e:(S++(D :: Z).map FC).set S.length (.obj D (.deferred none))=(S++[Own.obj D (.deferred none)])++Z.map FC:=by
   rw [List.set_append_right _ _ (Nat.le_refl _)];simp
  rw [e] at c2;exact Q3 Z _ _ c2 λw' S' c'=>h w' (Own.obj D (.deferred none) :: S') (by simpa using c')
def Iter(P:Program)(gf:Nat)(lb:Array Value)(N:Nat)(xs:Nat->Array Value)(X:World->Prop):Prop :=
 ∀ (l:Nat) (J:Nat->World->Prop) (W:World),(∀ k W1,J k W1->X W1) ->
  (∀ k W1,J k W1->k<N->YieldAt Fence.wide 0 P l (xs k) W1 λe W'=>e=.returned (.bool true)/\J (k+1) W')->J 0 W ->
  CallsIn Fence.wide 0 P gf (#[.func (.yield l) #[] #[]]++lb) W λe W'=>(∃ v,e=.returned v)/\J N W'
theorem aGN{P:Program}{W:World}{g:Operand}{ps:Array Tmp}{assign body:Code}{Q:Exit->Act->World->Prop}{a:Act}{w:World}{gf:Nat}{lb:Array Value}{N:Nat}{xs:Nat->Array Value}{X:World->Prop}{G:List Own}(hg:a.eval g=.func (.func gf) #[] lb)(eg:∀ args w,(callFunc gf args).run P w=.ok (.enter gf args) w)(hit:Iter P gf lb N xs X)(hps:∀ k,k<N->(xs k).size=ps.size)(Inv:Nat->List Own->World->Prop)(aK1:∀ k Gx w1,Inv k Gx w1->∃ S Φ,aB Φ/\Ctx W w1 (S++Gx) Φ/\∀ w2 Gy,Ctx W w2 (S++Gy) Φ->Inv k Gy w2)(hX:∀ k Gx w1,Inv k Gx w1->X w1)(h0:Inv 0 G w)(aOY:∀ l k Gx w1,k<N->Inv k Gx w1->assign.wpIn (kT (some l)) 0 P (Exit.then (λa1 w2=>∃ S Φ,aB Φ/\Ctx W w2 (S++Gx) Φ/\∀ w3 Gx3,Ctx W w3 (S++Gx3) Φ->body.wpIn (kT (some l)) 0 P (λe _ w4=>e=.normal/\Inv (k+1) Gx3 w4) a1 w3) (λ_ _ _=>False))
   { tmps:=(ps.zip (xs k)).foldl (λt (p,v)=>t.setIfInBounds p v) a.tmps,defers:=[] } w1)(aST:∀ D w',Inv N (FC D :: G) w'->Q .normal { a with defers:=mark D :: a.defers } w'):
  (Code.rangeFunc g ps assign body).wpIn (kT none) 0 P Q a w:=by
 refine wpIn_rangeFunc ?_;intro fn hfn;show ∃ l mark w₁ d w₁' f args w₂,(Instr.enterLoop fn a.tmps ps assign body none).run P w=_/\_;obtain ⟨rec,ZA⟩:∃ rec:LoopState->Option Code->Loop,rec=λst pe=>{ state:=st,pending:=pe,fn,tmps:=a.tmps,params:=ps,assign,body,defers:=w.heap.size }:=⟨_,rfl⟩;obtain ⟨W1,hW1⟩:∃ W1,(w.alloc (.deferred (some []))).alloc (.loop (rec .ready none))=W1:=⟨_,rfl⟩;obtain ⟨l,hl⟩:∃ l,w.heap.size+1=l:=⟨_,rfl⟩
 have rl:∀ st:LoopState,Own.obj l (.loop (rec st none))=Own.obj l (.loop (rec st none)):=λ_=>rfl
 let gh:=λ(st:LoopState)=>Own.obj l (.loop (rec st none)) :: FC w.heap.size :: G
 have turn:∀ {k:Nat} {st st':LoopState} {S:List Own} {Φ:PW} {w1:World},aB Φ->Ctx W w1 (S++gh st) Φ->Ctx W (w1.putObj l (.loop (rec st' none))) (S++gh st') Φ:=by
  intro k st st' S Φ w1 hs c;have hk:(S++gh st)[S.length]? = some (.obj l (.loop (rec st none))):=by rw [List.getElem?_append_right (Nat.le_refl _)];simp [gh]
  have c2:=c.putObj S.length (.loop (rec st' none)) hk;have e:(S++gh st).set S.length (.obj l (.loop (rec st' none)))=S++gh st':=by rw [List.set_append_right _ _ (Nat.le_refl _)];simp [gh]
  rw [e] at c2;exact c2
 have start:Inv 0 (gh .ready) W1:=by
  obtain ⟨S,Φ,hs,c,hn⟩:=aK1 0 G w h0;refine hn _ _ ?_;have c1:=c.newObj (o:=.deferred (some [])) rfl;have c2:=c1.newObj (o:=.loop (rec .ready none)) rfl;rw [hW1,World.size_alloc,hl] at c2;refine c2.perm ?_;simp only [gh,FC];exact (List.Perm.cons _ List.perm_middle.symm).trans List.perm_middle.symm
 have aOZ:∀ {k:Nat} {st:LoopState} {w1:World},Inv k (gh st) w1->w1.heap[l]? = some (.loop (rec st none)):=by
  intro k st w1 hi;obtain ⟨S,Φ,hs,c,_⟩:=aK1 _ _ _ hi;exact c.own (.obj l (.loop (rec st none))) (by simp [gh])
 refine ⟨l,[mark w.heap.size],W1,{ target:=.fn (.func gf) lb,args:=#[.func (.yield l) #[] #[]] },W1,gf,#[.func (.yield l) #[] #[]]++lb,W1,?_,?_,λ_ _=>trivial,?_,λh=>(by cases h),?_⟩
 .rw [<-hW1,ZA,<-hl];exact run_enterLoop_outer _ _ _ _ _
 .simp only [resolve,hg];simp [go_sem]
 .simp [invoke,go_sem,eg]
 .refine CallsIn.mono (F:=kT none) (hit l (λk W'=>Inv k (gh .ready) W') W1 (λk W2 h=>hX k _ W2 h) ?_ start) ?_
  .intro k W2 hi hk;have hlr:=aOZ hi;have hy:=run_yield (P:=P) (args:=xs k) hlr (by rw [ZA];exact hps k hk);rw [ZA] at hy;refine ⟨fn,_,assign,body,hy,roundIn_of_wpIn trivial ?_⟩;refine wpIn_mono (aOY l k (gh .ready) W2 hk hi) ?_;rintro e a1 w2 h;cases e with
   | normal =>
    obtain ⟨S,Φ,hs,c,hb⟩:=h;have h2:w2.heap[l]? = some (.loop (rec .ready none)):=c.own (.obj l (.loop (rec .ready none))) (by simp [gh]);refine ⟨_,run_beginRound h2 (by rw [ZA]),?_⟩;have c3:Ctx W (w2.putObj l (.loop { rec .ready none with state:=.busy })) (S++gh .busy) Φ:=by
     have:=turn (k:=k) (st':=.busy) hs c;rw [ZA] at this ⊢;exact this
    refine wpIn_mono (hb _ _ c3) ?_;rintro e a4 w4 ⟨rfl,h4⟩;have h5:=aOZ h4;refine ⟨_,_,run_endRound none h5,rfl,?_⟩;obtain ⟨S,Φ,hs,c,hn⟩:=aK1 _ _ _ h4;have:=turn (k:=k) (st':=.ready) hs c;refine hn _ _ ?_;rw [ZA] at this ⊢;exact this
   | _=>exact h.elim
  .rintro e W3 ⟨⟨v,rfl⟩,hi⟩;have h5:=aOZ hi;have hend:=run_endLoop (P:=P) h5 (by rw [ZA];simp);rw [ZA] at hend;refine ⟨none,_,hend,?_⟩;refine aST _ _ ?_;obtain ⟨S,Φ,hs,c,hn⟩:=aK1 _ _ _ hi;have:=turn (k:=N) (st':=.exhausted) hs c;refine hn _ _ ?_;have h7:=this.sub (S':=S++(FC w.heap.size :: G)) (List.Sublist.append (List.Sublist.refl _) (List.sublist_cons_self _ _));rw [ZA] at h7;exact h7
end Go.Vc
end

