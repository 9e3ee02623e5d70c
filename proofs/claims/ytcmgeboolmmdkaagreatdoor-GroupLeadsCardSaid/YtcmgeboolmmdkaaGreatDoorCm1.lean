/-
 THE CONDITIONS OF A WALK AS ONE FORMULA: the operations. 'vcOp' says,for one operation in a known frame,what must hold of the memory so that the walk can go on;'vcOp_sound' says that this suffices.
-/
import Derived.WalkKit
import Derived.WalkSpells
import Derived.WalkLawsBesides
import Derived.Deep.QuietTactic
import Derived.Laws.StructEq
import Derived.OrdersHeld
import Derived.ProofKit
import Derived.Laws.AppendOwn

abbrev ε(b o:Nat):Go.Value:=.pointer (some ⟨b,o,none⟩)
abbrev δ:=@inferInstance
theorem Λ{p:Prop}[Decidable p](h:decide p=false):¬p:=of_decide_eq_false h
theorem aN{p:Prop}[Decidable p](h:decide p=true):p:=of_decide_eq_true h
theorem μ{α:Type _}(a b c:List α):a++b++c=a++(b++c):=List.append_assoc a b c
abbrev Dn:=Go.Ending->Go.World->Prop
set_option linter.unusedVariables false
set_option linter.unusedSimpArgs false
section
namespace Go.Vc
open Go.RowKit
inductive dG where
 | int (k:IntKind)|bool|str|ptr|slice|map|fn|any|Bt
def dG.ex:dG->(Value->Prop)->Prop
 | .int k,K=>∃ n:Int,K (.int k n)
 | .bool,K=>∃ b:Bool,K (.bool b)
 | .str,K=>∃ s:ByteArray,K (.string s)
 | .ptr,K=>∃ p:Option Addr,K (.pointer p)
 | .slice,K=>∃ p:Option Addr,∃ n c:Nat,K (.slice p n c)
 | .map,K=>∃ r:Option Nat,K (.map r)
 | .fn,K=>∃ (f:FuncId) (a c:Array Value),K (.func (.func f) a c)
 | .any,K=>∃ v:Value,K v
 | .Bt,K=>∃ b o:Nat,K (.pointer (some ⟨b,o,none⟩))
theorem dG.Ej{s:dG}{K}(h:s.ex K):∃ v,K v:=by
 cases s<;>simp only [dG.ex] at h
 case slice=>obtain ⟨p,n,c,h⟩:=h;exact ⟨_,h⟩
 case fn=>obtain ⟨p,a,c,h⟩:=h;exact ⟨_,h⟩
 case Bt=>obtain ⟨b,o,h⟩:=h;exact ⟨_,h⟩
 all_goals (obtain ⟨x,h⟩:=h;exact ⟨_,h⟩)
def dG.of:Value->dG
 | .int k _=>.int k
 | .bool _=>.bool
 | .string _=>.str
 | .pointer _=>.ptr
 | .slice _ _ _=>.slice
 | .map _=>.map
 | _=>.any
inductive lO where
 | one (s:dG)|agg (l:List dG)
def lO.of:Value->lO
 | .agg cs=>.agg (cs.toList.map dG.of)
 | .nilFunc=>.one .fn
 | v=>.one (dG.of v)
def shape(P:Program)(t:TypeId):Option lO:=(P.info? t).bind λi=>i.zero.map lO.of
def HE:List dG->(List Value->Prop)->Prop
 | [],K=>K []
 | s :: r,K=>s.ex λv=>HE r λvs=>K (v :: vs)
theorem a4F:∀ {l:List dG} {K:List Value->Prop},HE l K->∃ vs,K vs
 | [],_,h=>⟨[],h⟩
 | _ :: _,_,h=>by
  obtain ⟨v,h⟩:=dG.Ej h;obtain ⟨vs,h⟩:=a4F h;exact ⟨_,h⟩
theorem a4E:∀ {l:List dG} {K:List Value->Prop},HE l K->∃ vs,vs.length=l.length/\K vs
 | [],_,h=>⟨[],rfl,h⟩
 | _ :: _,_,h=>by
  obtain ⟨v,h⟩:=dG.Ej h;obtain ⟨vs,hl,h⟩:=a4E h;exact ⟨_,by simp [hl],h⟩
def lO.ex:lO->(Value->Prop)->Prop
 | .one s,K=>s.ex K
 | .agg l,K=>HE l λvs=>K (.agg vs.toArray)
theorem lO.Ej{s:lO}{K}(h:s.ex K):∃ v,K v:=by
 cases s with
 | one s=>exact dG.Ej h
 | agg l=>obtain ⟨vs,h⟩:=a4F h;exact ⟨_,h⟩
def J2(P:Program)(t:TypeId)(K:Value->Prop):Prop :=
 match shape P t with
 | some s=>s.ex K
 | none=>∃ v,K v
theorem Ry{P t K}(h:J2 P t K):∃ v,K v:=by
 unfold J2 at h;split at h
 .exact lO.Ej h
 .exact h
def Nd(P:Program):List TypeId->(List Value->Prop)->Prop
 | [],K=>K []
 | t :: r,K=>J2 P t λv=>Nd P r λvs=>K (v :: vs)
theorem Rz{P}:∀ {l:List TypeId} {K:List Value->Prop},Nd P l K->∃ vs,K vs
 | [],_,h=>⟨[],h⟩
 | _ :: _,_,h=>by
  obtain ⟨v,h⟩:=Ry h;obtain ⟨vs,h⟩:=Rz h;exact ⟨_,h⟩
def zF:List Value->Value
 | [v]=>v
 | vs=>.tuple vs.toArray
def aPH(P:Program)(ts:List TypeId)(e:Ending)(K:Value->Prop):Prop :=
 Nd P ts λvs=>e=.returned (zF vs)/\K (zF vs)
def Tj(P:Program)(f:FuncId)(args:Array Value)(w:World)(K:Value->World->Prop):Prop :=
 match P.funcs[f]? with
 | some fn=>Calls P f args w λe w'=>aPH P fn.resultTypes.toList e λv=>K v w'
 | none=>False
theorem aH8{P f args w K}(h:Tj P f args w K):
  Calls P f args w λe w'=>∃ v,e=.returned v/\K v w':=by
 unfold Tj at h;split at h
 .refine h.mono λe w' h=>?_;obtain ⟨vs,he,hk⟩:=Rz h;exact ⟨_,he,hk⟩
 .exact h.elim
def a3S(P:Program)(f:FuncId)(args:Array Value)(w:World)(K:Value->World->Prop):Prop :=
 Calls P f args w λe w'=>(∃ n:Int,e=.returned (.tuple #[.int .i64 n,.nilIface])/\K (.tuple #[.int .i64 n,.nilIface]) w') \/
  ∃ (n:Int) (t:TypeId) (v:Value),e=.returned (.tuple #[.int .i64 n,.iface t v])/\K (.tuple #[.int .i64 n,.iface t v]) w'
theorem aH7{P f args w K}(h:a3S P f args w K):
  Calls P f args w λe w'=>∃ v,e=.returned v/\K v w':=by
 refine h.mono λe w' h=>?_;rcases h with ⟨n,he,hk⟩|⟨n,t,v,he,hk⟩
 .exact ⟨_,he,hk⟩
 .exact ⟨_,he,hk⟩
def aJH(n:String):Bool:=n == "strconv.Atoi"
def bS(w:World)(b o:Nat)(vs:List Value):Prop:=∀ j,(h:j<vs.length)->w.cell? ⟨b,o+j,none⟩=some vs[j]
theorem run_loadCellsFrom{P w b o}:∀ (vs:List Value) (i:Nat) (acc:Array Value),
  (∀ j,(h:j<vs.length)->w.cell? ⟨b,o+(i+j),none⟩=some vs[j]) ->
  (loadCellsFrom ⟨b,o,none⟩ i vs.length acc).run P w=.ok (acc++vs.toArray) w
 | [],i,acc,_=>by simp [loadCellsFrom]
 | v :: vs,i,acc,h=>by
  have h0:w.cell? ((⟨b,o,none⟩:Addr).add i)=some v:=by
   have:=h 0 (by simp);simp only [Nat.add_zero,List.getElem_cons_zero] at this;unfold Addr.add;split
   .rename_i e;subst e;simpa using this
   .exact this
  have ih:=run_loadCellsFrom (P:=P) (w:=w) (b:=b) (o:=o) vs (i+1) (acc.push v) (λj hj=>by
   have:=h (j+1) (by simpa using hj);rw [show i+1+j=i+(j+1) by omega,this];simp)
  simp only [List.length_cons,loadCellsFrom,Sem.run_bind,load,Sem.run,h0,Result.andThen,Sem.run_pure',ih];simp
def we:TypeDesc->Bool
 | .struct _ | .array _ _=>true
 | _=>false
theorem Ir{P t d w}(h:P.underlying t=some d):
  (isAgg t).run P w=.ok (we d) w:=by
 unfold isAgg;simp only [Sem.run_bind,run_underlying h,Result.andThen];cases d<;>simp [we]
theorem run_sizeOf{P t i w}(h:P.info? t=some i):(sizeOf t).run P w=.ok i.size w:=by
 simp [sizeOf,typeInfo,h]
def ga:Value->Bool
 | .agg _ | .tuple _=>false
 | _=>true
def au(w:World)(b o n:Nat):Prop:=∀ j,j<n->(w.cell? ⟨b,o+j,none⟩).isSome=true/\w.frozen? ⟨b,o+j,none⟩=false
theorem Rm{P b o}:∀ (vs:List Value) (i:Nat) (w:World),(∀ v∈vs,ga v=true) ->
  (∀ j,j<vs.length->(w.cell? ⟨b,o+(i+j),none⟩).isSome=true/\w.frozen? ⟨b,o+(i+j),none⟩=false) ->
  (storeCells ⟨b,o,none⟩ vs i).run P w=.ok () (w.setCells b (o+i) vs)
 | [],i,w,_,_=>by simp [storeCells,World.setCells]
 | v :: vs,i,w,h1,h2=>by
  obtain ⟨hs,hf⟩:=h2 0 (by simp);simp only [Nat.add_zero] at hs hf;have ha:(⟨b,o,none⟩:Addr).add i=⟨b,o+i,none⟩:=by unfold Addr.add;split<;>simp_all
  obtain ⟨u,hu⟩:=Option.isSome_iff_exists.1 hs;have ih:=Rm (P:=P) (b:=b) (o:=o) vs (i+1) (w.setCell ⟨b,o+i,none⟩ v) (λx hx=>h1 x (by simp [hx])) (λj hj=>by
   obtain ⟨k1,k2⟩:=h2 (j+1) (by simpa using hj);rw [show i+(j+1)=i+1+j by omega] at k1 k2;rw [World.frozen?_setCell];refine ⟨?_,k2⟩;obtain ⟨u,hu⟩:=Option.isSome_iff_exists.1 k1;obtain ⟨v',nE⟩:=cell?_setCell_some (p:=⟨b,o+i,none⟩) (x:=v) hu;simp [nE])
  have hv:ga v=true:=h1 v (by simp);have hrun:((store (⟨b,o+i,none⟩:Addr) v).run P w)=.ok () (w.setCell ⟨b,o+i,none⟩ v):=by
   unfold store;cases v<;>simp [ga] at hv<;>simp [Sem.run,hu,hf]
  simp only [storeCells,Sem.run_bind,ha,hrun,Result.andThen,ih,World.setCells];rw [show o+i+1=o+(i+1) by omega]
def SG(P:Program)(t:TypeId)(w:World)(b o:Nat)(v:Value)(K:World->Prop):Prop :=
 match P.info? t with
 | some i =>
  match v with
  | .agg cs=>match Nat.beq cs.toList.length i.size&&cs.toList.all ga with
   | true=>au w b o i.size/\∀ w',w'=w.setCells b o cs.toList->K w'
   | false=>False
  | v=>match Nat.beq i.size 1&&ga v with
   | true=>au w b o 1/\∀ w',w'=w.setCell ⟨b,o,none⟩ v->K w'
   | false=>False
 | none=>False
theorem YZ{P t i w b o v}(hi:P.info? t=some i)(hs:i.size=1)(h0:ga v=true)(h1:(w.cell? ⟨b,o,none⟩).isSome=true)(h2:w.frozen? ⟨b,o,none⟩=false):(storeVar t ⟨b,o,none⟩ v).run P w=.ok () (w.setCell ⟨b,o,none⟩ v):=by
 have hcells:v.cells=#[v]:=by cases v<;>first|rfl|cases h0
 have hr:=Rm (P:=P) (b:=b) (o:=o) [v] 0 w (by simpa using h0) (λj hj=>by
  have:j=0:=by simpa using hj
  subst this;exact ⟨h1,h2⟩)
 unfold storeVar;simp only [hcells,Sem.run_bind,run_sizeOf hi,Result.andThen,hs,List.size_toArray,List.length_cons,List.length_nil,ne_eq,not_true_eq_false,if_false];simpa [World.setCells] using hr
theorem aBN{P t w b o v K}(h:SG P t w b o v K):
  ∃ w',(storeVar t ⟨b,o,none⟩ v).run P w=.ok () w'/\K w':=by
 unfold SG at h;cases hi:P.info? t with
 | none=>rw [hi] at h;exact h.elim
 | some i =>
  rw [hi] at h;simp only at h;have one:(match Nat.beq i.size 1&&ga v with|true=>au w b o 1/\∀ w',w'=w.setCell ⟨b,o,none⟩ v->K w'|false=>False) ->
    ∃ w',(storeVar t ⟨b,o,none⟩ v).run P w=.ok () w'/\K w':=by
   intro h;split at h
   .rename_i hc;simp only [Bool.and_eq_true] at hc;obtain ⟨h1,h3⟩:=h;obtain ⟨h1,h2⟩:=h1 0 (by omega);exact ⟨_,YZ hi (Nat.eq_of_beq_eq_true hc.1) hc.2 h1 h2,h3 _ rfl⟩
   .exact h.elim
  cases v
  case agg cs =>
   simp only at h;split at h
   .rename_i hc;simp only [Bool.and_eq_true] at hc;have hl:cs.size=i.size:=by have:=Nat.eq_of_beq_eq_true hc.1;simpa using this
    obtain ⟨h1,h2⟩:=h;refine ⟨_,?_,h2 _ rfl⟩;have hr:=Rm (P:=P) (b:=b) (o:=o) cs.toList 0 w (λv hv=>List.all_eq_true.1 hc.2 v hv) (λj hj=>by rw [Nat.zero_add];exact h1 j (by simp at hj;omega));unfold storeVar;simp only [Value.cells,Sem.run_bind,run_sizeOf hi,Result.andThen,hl,ne_eq,not_true_eq_false,if_false];simpa using hr
   .exact h.elim
  all_goals exact one h
def hY(g:Option Bool)(p:Prop):Prop :=
 match g with
 | none=>p
 | some c=>c=true->p
def fu:Option Bool->Prop
 | none=>True
 | some c=>c=true
theorem ke{g p}(h:hY g p)(hg:fu g):p:=by
 cases g with
 | none=>exact h
 | some c=>exact h hg
def κ(n:Int):Prop := -9223372036854775808<=n/\n<=9223372036854775807
theorem aLg{n}(h:κ n):IntKind.i64.wrap n=n:=IntWalk.i64_in n h
def ER(wr:Bool)(g:Option Bool)(k:IntKind)(n:Int)(K:Value->Prop):Prop :=
 match k,wr with
 | .i64,false=>hY g (κ n)/\K (.int .i64 n)
 | k,_=>K (.int k (k.wrap n))
theorem KJ{wr g k n K}(h:ER wr g k n K):
  ∃ v,(fu g->v=.int k (k.wrap n))/\K v:=by
 unfold ER at h;split at h
 .exact ⟨_,λhg=>by rw [aLg (ke h.1 hg)],h.2⟩
 .exact ⟨_,λ_=>rfl,h⟩
def aFZ(P:Program)(g:Option Bool)(s:Sem Value)(v:Value):Prop:=fu g->∀ w,s.run P w=.ok v w
def Zc(wr:Bool)(g:Option Bool)(op:BinOp)(x U:Value)(K:Value->Prop):Option Prop :=
 match op,x,U with
 | .add,.int k a,.int k' b=>if k=k' then some (ER wr g k (a+b) K) else none
 | .sub,.int k a,.int k' b=>if k=k' then some (ER wr g k (a - b) K) else none
 | .mul,.int k a,.int k' b=>if k=k' then some (ER wr g k (a*b) K) else none
 | .quo,.int k a,.int k' b=>if k=k' then some (hY g (b≠0)/\ER wr g k (a.tdiv b) K) else none
 | .rem,.int k a,.int k' b=>if k=k' then some (hY g (b≠0)/\K (.int k (a.tmod b))) else none
 | .eql,.int k a,.int k' b=>if k=k' then some (K (.bool (decide (a=b)))) else none
 | .neq,.int k a,.int k' b=>if k=k' then some (K (.bool (decide (a≠b)))) else none
 | .lss,.int k a,.int k' b=>if k=k' then some (K (.bool (decide (a<b)))) else none
 | .leq,.int k a,.int k' b=>if k=k' then some (K (.bool (decide (a<=b)))) else none
 | .gtr,.int k a,.int k' b=>if k=k' then some (K (.bool (decide (b<a)))) else none
 | .geq,.int k a,.int k' b=>if k=k' then some (K (.bool (decide (b<=a)))) else none
 | .eql,.string a,.string b=>some (K (.bool (decide (a=b))))
 | .neq,.string a,.string b=>some (K (.bool (decide (a≠b))))
 | .lss,.string a,.string b=>some (K (.bool (Op.bytesLess a.toList b.toList)))
 | .add,.string a,.string b=>some (hY g (a.size+b.size<=9223372036854775807)/\K (.string (a++b)))
 | _,_,_=>none
theorem Iq{P:Program}{op:BinOp}{t:TypeId}{k:IntKind}{a b:Int}{ox oy:Operand}(h1:op≠.shl)(h2:op≠.shr)(w:World):
  (do eqGuard op t ox oy (.int k a) (.int k b);binOp op t (.int k a) (.int k b):Sem Value).run P w =
   (match op with | .add | .sub | .mul=>Op.intArith op k a b | .quo | .rem=>Op.intDiv op k a b | .and | .or | .xor | .andNot=>Op.intBits op k a b|_=>Op.intCmp op a b).run P w:=by
 cases op<;>simp [eqGuard,binOp,Result.andThen] at * <;> rfl
theorem Rn{P op t a b ox oy}(w):
  (do eqGuard op t ox oy (.string a) (.string b);binOp op t (.string a) (.string b):Sem Value).run P w=(Op.stringOp op a b).run P w:=by
 cases op<;>simp [eqGuard,binOp,Result.andThen]<;>rfl
theorem Th(a b:ByteArray):(a.toList == b.toList)=decide (a=b):=by
 have h:a.toList=b.toList ↔ a=b:=by
  refine ⟨λh=>?_,λh=>by rw [h]⟩;have h1:∀ x:ByteArray,x.toList=x.data.toList:=λx=>ByteArray.toList_eq x;rw [h1,h1] at h;cases a;cases b;simp at h;simp [h]
 by_cases e:a=b
 .simp [e]
 .simp [e,h]
theorem aQz{P wr g op t ox oy x U K p}(h:Zc wr g op x U K=some p)(hp:p):
  ∃ v,aFZ P g (do eqGuard op t ox oy x U;binOp op t x U) v/\K v:=by
 unfold Zc at h;split at h
 case h_16=>cases h
 case h_12=>cases h;exact ⟨_,λ_ w=>by rw [Rn];simp [Op.stringOp,Th],hp⟩
 case h_13=>cases h;refine ⟨_,λ_ w=>?_,hp⟩;rw [Rn];simp [Op.stringOp,Th]
 case h_14=>cases h;exact ⟨_,λ_ w=>by rw [Rn];simp [Op.stringOp],hp⟩
 case h_15 =>
  cases h;obtain ⟨h1,h2⟩:=hp;refine ⟨_,λhg w=>?_,h2⟩;have:=ke h1 hg;rw [Rn];unfold Op.stringOp;simp only;rw [if_neg (by simp [IntKind.max,IntKind.signed,IntKind.bits];omega)];rfl
 all_goals
  split at h
  case isFalse=>cases h
  rename_i hk;subst hk;cases h
 case h_4 =>
  obtain ⟨h1,h2⟩:=hp;obtain ⟨v,hv,hk⟩:=KJ h2;refine ⟨v,λhg w=>?_,hk⟩;have h0:=ke h1 hg;rw [Iq (by decide) (by decide),hv hg];simp [Op.intDiv,h0]
 case h_5 =>
  obtain ⟨h1,h2⟩:=hp;refine ⟨_,λhg w=>?_,h2⟩;have h0:=ke h1 hg;rw [Iq (by decide) (by decide)];simp [Op.intDiv,h0]
 case h_1=>obtain ⟨v,hv,hk⟩:=KJ hp;exact ⟨v,λhg w=>by rw [Iq (by decide) (by decide),hv hg];rfl,hk⟩
 case h_2=>obtain ⟨v,hv,hk⟩:=KJ hp;exact ⟨v,λhg w=>by rw [Iq (by decide) (by decide),hv hg];rfl,hk⟩
 case h_3=>obtain ⟨v,hv,hk⟩:=KJ hp;exact ⟨v,λhg w=>by rw [Iq (by decide) (by decide),hv hg];rfl,hk⟩
 all_goals (refine ⟨_,λ_ w=>?_,hp⟩;rw [Iq (by decide) (by decide)];simp [Op.intCmp];try (first|rfl|(rw [Bool.eq_iff_iff];simp)))
def JF(P:Program)(t:TypeId)(w:World)(g:Option Bool)(b o:Nat)(K:Value->Prop):Prop :=
 match P.underlying t,P.info? t with
 | some d,some i =>
  match we d,i.zero.map lO.of with
  | true,some (.agg l)=>match Nat.beq l.length i.size with
   | true=>HE l λvs=>hY g (bS w b o vs)/\K (.agg vs.toArray)
   | false=>False
  | false,some (.one s)=>s.ex λv=>hY g (w.cell? ⟨b,o,none⟩=some v)/\K v
  | _,_=>False
 | _,_=>False
theorem a3a{w w':World}(h:w'.heap=w.heap)(a):w'.cell? a=w.cell? a:=by simp [World.cell?,h]
theorem Zj{P t w g b o K}(h:JF P t w g b o K):
  ∃ v,(fu g->∀ w',w'.heap=w.heap->(loadVar t ⟨b,o,none⟩).run P w'=.ok v w')/\K v:=by
 unfold JF at h;split at h
 .rename_i d i hd hi;split at h
  .rename_i l ha _;split at h
   .rename_i hl;obtain ⟨vs,hlen,hc,hk⟩:=a4E h;rw [Nat.eq_of_beq_eq_true hl] at hlen;refine ⟨_,λhg w' hw=>?_,hk⟩;have hr:=run_loadCellsFrom (P:=P) (w:=w') (b:=b) (o:=o) vs 0 #[] (λj hj=>by rw [a3a hw,Nat.zero_add];exact ke hc hg j hj);unfold loadVar loadCells;simp only [Sem.run_bind,Ir hd,ha,Result.andThen,if_true,run_sizeOf hi,<-hlen,hr,Sem.run_pure];simp
   .exact h.elim
  .rename_i s ha _;obtain ⟨v,hv,hk⟩:=dG.Ej h;refine ⟨v,λhg w' hw=>?_,hk⟩;have hc:=ke hv hg;rw [<-a3a hw] at hc;unfold loadVar;simp only [Sem.run_bind,Ir hd,ha,Result.andThen,Bool.false_eq_true,if_false,load,Sem.run,hc]
  .exact h.elim
 .exact h.elim
def Zg(P:Program)(t:TypeId)(x:Value)(f:Nat)(K:Value->Prop):Option Prop :=
 match x,P.underlying t with
 | .pointer (some ⟨b,o,none⟩),some (.struct fs) =>
  match fs[f]? with
  | some fd =>
   match P.info? fd.type with
   | some i=>if i.size=0 then none else some (K (.pointer (some ⟨b,o+fd.offset,none⟩)))
   | none=>none
  | none=>none
 | _,_=>none
theorem addr_add(b o n):(⟨b,o,none⟩:Addr).add n=⟨b,o+n,none⟩:=by unfold Addr.add;split<;>simp_all
theorem aR3{P t x f K p}(h:Zg P t x f K=some p)(hp:p):
  ∃ v,(∀ w,(Instr.fieldAt t x f).run P w=.ok v w)/\K v:=by
 unfold Zg at h;split at h
 .rename_i b o fs ht;split at h
  .rename_i fd hf;split at h
   .rename_i i hi;split at h
    .cases h
    .rename_i hz;cases h;refine ⟨_,λw=>?_,hp⟩;simp [Instr.fieldAt,run_underlying ht,Result.andThen,hf,Instr.sureAddr,fieldPlace,run_sizeOf hi,hz,addr_add]
   .cases h
  .cases h
 .cases h
def k9(g:Option Bool)(p:Option Addr)(K:Nat->Nat->Prop):Prop :=
 match p with
 | some ⟨b,o,none⟩=>K b o
 | p=>∃ b o,hY g (p=some ⟨b,o,none⟩)/\K b o
theorem Xy{g p K}(h:k9 g p K):∃ b o,hY g (p=some ⟨b,o,none⟩)/\K b o:=by
 unfold k9 at h;split at h
 .refine ⟨_,_,?_,h⟩;cases g
  .rfl
  .exact λ_=>rfl
 .exact h
theorem eu{g p K}(b o)(h:p=some ⟨b,o,none⟩)(hk:K b o):k9 g p K:=by
 subst h;exact hk
theorem aOX{c p K}(h:c=false)(hk:∀ b o,K b o):k9 (some c) p K:=by
 subst h;unfold k9;split
 .exact hk _ _
 .exact ⟨0,0,λh=>(by cases h),hk _ _⟩
def idx(o n:Nat):Nat->Nat
 | 1=>o+n
 | s=>o+n*s
theorem idx_eq(o n s):idx o n s=o+n*s:=by
 unfold idx;split
 .simp
 .rfl
def S2(P:Program)(t:TypeId):Nat:=match P.info? t with|some i=>i.size|none=>0
def Zi(P:Program)(g:Option Bool)(t:TypeId)(x i:Value)(K:Value->Prop):Option Prop :=
 match x,i,P.underlying t with
 | .slice p len _,.int _ n,some (.slice e) =>
  match P.info? e with
  | some jX=>some (hY g (0<=n/\n<len)/\k9 g p λb o=>K (.pointer (some ⟨b,idx o n.toNat jX.size,none⟩)))
  | none=>none
 | .pointer (some ⟨b,o,none⟩),.int _ n,some (.array len e) =>
  match P.info? e with
  | some jX=>some (hY g (0<=n/\n<len)/\K (.pointer (some ⟨b,idx o n.toNat jX.size,none⟩)))
  | none=>none
 | _,_,_=>none
theorem aR5{P g t x i K p}(h:Zi P g t x i K=some p)(hp:p):
  ∃ v,(fu g->∀ w,(Instr.indexAt t x i).run P w=.ok v w)/\K v:=by
 unfold Zi at h;split at h
 .rename_i q len _ kk n e ht;split at h
  .rename_i jX hi;cases h;obtain ⟨h0,hp⟩:=hp;obtain ⟨b,o,h1,h2⟩:=Xy hp;refine ⟨_,λhg w=>?_,h2⟩;obtain ⟨h3,h4⟩:=ke h0 hg;have h5:=ke h1 hg;subst h5;simp [Instr.indexAt,asIntOf,run_underlying ht,Result.andThen,h3,h4,run_sizeOf hi,addr_add,idx_eq]
  .cases h
 .rename_i b o kk n len e ht;split at h
  .rename_i jX hi;cases h;obtain ⟨h1,h2⟩:=hp;refine ⟨_,λhg w=>?_,h2⟩;obtain ⟨h3,h4⟩:=ke h1 hg;simp [Instr.indexAt,asIntOf,run_underlying ht,Result.andThen,h3,h4,run_sizeOf hi,addr_add,Instr.sureAddr,idx_eq]
  .cases h
 .cases h
def N5(cs:Array Value)(off n:Nat):Array Value:=((cs.toList.drop off).take n).toArray
theorem aO9(cs off n):cs.extract off (off+n)=N5 cs off n:=by
 apply Array.ext';simp [N5]
def EE:Nat->List Value->Option Value
 | 0,v :: _=>some v
 | i+1,_ :: r=>EE i r
 | _,[]=>none
theorem a2P:∀ (i:Nat) (l:List Value),EE i l=l[i]?
 | 0,[]=>rfl
 | 0,_ :: _=>rfl
 | i+1,[]=>rfl
 | i+1,v :: r=>by rw [EE,a2P i r];rfl
def Zh(P:Program)(g:Option Bool)(t:TypeId)(x i:Value)(K:Value->Prop):Option Prop :=
 match x,i,P.underlying t with
 | .string s,.int _ n,some .string=>some (∃ c:UInt8,hY g (0<=n/\s.data.toList[n.toNat]? = some c)/\K (.int .u8 c.toNat))
 | .agg cs,.int _ n,some (.array len e) =>
  match P.underlying e,P.info? e with
  | some d,some jX =>
   match we d,jX.zero.map lO.of with
   | true,some (.agg _)=>some (hY g (0<=n/\n<len)/\K (.agg (N5 cs (idx 0 n.toNat jX.size) jX.size)))
   | false,some (.one s)=>some (s.ex λv=>hY g (0<=n/\n<len/\EE (idx 0 n.toNat jX.size) cs.toList=some v)/\K v)
   | _,_=>none
  | _,_=>none
 | _,_,_=>none
theorem a9Z{P e d jX cs off w}(hd:P.underlying e=some d)(ha:we d=true)(hi:P.info? e=some jX):
  (part e cs off).run P w=.ok (.agg (N5 cs off jX.size)) w:=by
 simp [part,Ir hd,ha,Result.andThen,run_sizeOf hi,aO9]
theorem Rl{P e d cs off v w}(hd:P.underlying e=some d)(ha:we d=false)(hv:cs[off]? = some v):
  (part e cs off).run P w=.ok v w:=by
 simp [part,Ir hd,ha,Result.andThen,hv]
theorem aR6{P g t x i K p}(h:Zh P g t x i K=some p)(hp:p):
  ∃ v,(fu g->∀ w,(Instr.index t x i).run P w=.ok v w)/\K v:=by
 unfold Zh at h;split at h
 .rename_i s kk n ht;cases h;obtain ⟨c,h1,h2⟩:=hp;refine ⟨_,λhg w=>?_,h2⟩;obtain ⟨h3,h4⟩:=ke h1 hg;have h5:s[n.toNat]? = some c:=by
   obtain ⟨hlt,he⟩:=List.getElem?_eq_some_iff.1 h4;have hs:n.toNat<s.size:=by simpa using hlt
   rw [getElem?_pos s n.toNat hs];simpa [ByteArray.getElem_eq_getElem_data] using he
  simp [Instr.index,asIntOf,run_underlying ht,Result.andThen,h3,h5]
 .rename_i cs kk n len e ht;split at h
  .rename_i d jX hd hi;split at h
   .rename_i l ha _;cases h;obtain ⟨h1,h2⟩:=hp;refine ⟨_,λhg w=>?_,h2⟩;obtain ⟨h3,h4⟩:=ke h1 hg;simp [Instr.index,asIntOf,run_underlying ht,Result.andThen,h3,h4,run_sizeOf hi,a9Z hd ha hi,idx_eq]
   .rename_i s ha _;cases h;obtain ⟨v,h1,h2⟩:=dG.Ej hp;refine ⟨v,λhg w=>?_,h2⟩;obtain ⟨h3,h4,h5⟩:=ke h1 hg;rw [idx_eq,Nat.zero_add,a2P,Array.getElem?_toList] at h5;simp [Instr.index,asIntOf,run_underlying ht,Result.andThen,h3,h4,run_sizeOf hi,Rl hd ha h5]
   .cases h
  .cases h
 .cases h
def Zf(P:Program)(t:TypeId)(x:Value)(f:Nat)(K:Value->Prop):Option Prop :=
 match x,P.underlying t with
 | .agg cs,some (.struct fs) =>
  match fs[f]? with
  | some fd =>
   match P.underlying fd.type,P.info? fd.type with
   | some d,some i =>
    match we d with
    | true=>some (K (.agg (N5 cs fd.offset i.size)))
    | false=>match cs[fd.offset]? with
     | some v=>some (K v)
     | none=>none
   | _,_=>none
  | none=>none
 | _,_=>none
theorem aR4{P t x f K p}(h:Zf P t x f K=some p)(hp:p):
  ∃ v,(∀ w,(Instr.field t x f).run P w=.ok v w)/\K v:=by
 unfold Zf at h;split at h
 .rename_i cs fs ht;split at h
  .rename_i fd hf;split at h
   .rename_i d i hd hi;split at h
    .rename_i ha;cases h;exact ⟨_,λw=>by simp [Instr.field,run_underlying ht,Result.andThen,hf,asAgg,a9Z hd ha hi],hp⟩
    .rename_i ha;split at h
     .rename_i v hv;cases h;exact ⟨_,λw=>by simp [Instr.field,run_underlying ht,Result.andThen,hf,asAgg,Rl hd ha hv],hp⟩
     .cases h
   .cases h
  .cases h
 .cases h
def eB(p:Option Addr)(size l m:Nat):Option Addr:=if m=l then p else p.map (·.add (l*size))
def Ng(g:Option Bool)(lo hi:Option Value)(len cap:Nat)(K':Nat->Nat->Prop):Option Prop :=
 match lo,hi with
 | none,none=>some (hY g (len<=cap)/\K' 0 len)
 | some (.int _ l),none=>some (hY g (0<=l/\l<=len/\len<=cap)/\K' l.toNat len)
 | none,some (.int _ h)=>some (hY g (0<=h/\h<=cap)/\K' 0 h.toNat)
 | some (.int _ l),some (.int _ h)=>some (hY g (0<=l/\l<=h/\h<=cap)/\K' l.toNat h.toNat)
 | _,_=>none
def Zl(P:Program)(g:Option Bool)(t:TypeId)(x:Value)(lo hi:Option Value)(K:Value->Prop):Option Prop :=
 match x,P.underlying t with
 | .string s,some .string=>Ng g lo hi s.size s.size λl h=>K (.string (s.extract l h))
 | .slice p len cap,some (.slice e) =>
  match P.info? e with
  | some jX=>Ng g lo hi len cap λl h=>K (.slice (eB p jX.size l cap) (h - l) (cap - l))
  | none=>none
 | .pointer (some ⟨b,o,none⟩),some (.array n e) =>
  match P.info? e with
  | some jX=>Ng g lo hi n n λl h=>K (.slice (eB (some ⟨b,o,none⟩) jX.size l n) (h - l) (n - l))
  | none=>none
 | _,_=>none
theorem YX{P:Program}{aLl:Bool}{len cap:Nat}{lo hi:Option Value}{l h:Nat}(hlo:match lo with|none=>l=0|some (.int _ n)=>0<=n/\l=n.toNat|_=>False)(hhi:match hi with|none=>h=len|some (.int _ n)=>0<=n/\h=n.toNat|_=>False)(hlh:l<=h)(hc:h<=cap)(w:World):
  (Instr.sliceBounds aLl len cap lo hi none).run P w=.ok (l,h,cap) w:=by
 have hb:∀ (k:IntKind) (n:Int) (U:Nat) (code:BoundsCode),0<=n->n.toNat<=U->(Instr.sliceBound (.int k n) U code).run P w=.ok n.toNat w:=by
  intro k n U code h0 h1;unfold Instr.sliceBound;simp only [asIntOf,Sem.run_bind,Sem.run_pure,Result.andThen];rw [if_pos ⟨h0,by omega⟩];rfl
 unfold Instr.sliceBounds;cases hi with
 | none =>
  simp only at hhi;subst hhi;cases lo with
  | none=>simp only at hlo;subst hlo;simp [Result.andThen]
  | some v =>
   cases v<;>simp only at hlo;obtain ⟨h0,rfl⟩:=hlo;simp [Result.andThen,hb _ _ _ _ h0 hlh]
 | some v =>
  cases v<;>simp only at hhi;obtain ⟨h0,rfl⟩:=hhi;cases lo with
  | none=>simp only at hlo;subst hlo;simp [Result.andThen,hb _ _ _ _ h0 hc]
  | some v =>
   cases v<;>simp only at hlo;obtain ⟨h1,rfl⟩:=hlo;simp [Result.andThen,hb _ _ _ _ h0 hc,hb _ _ _ _ h1 hlh]
theorem Zo{g:Option Bool}{lo hi:Option Value}{len cap:Nat}{K':Nat->Nat->Prop}{p:Prop}(h:Ng g lo hi len cap K'=some p)(hp:p):
  ∃ l h,(fu g->(match lo with|none=>l=0|some (.int _ n)=>0<=n/\l=n.toNat|_=>False)/\(match hi with|none=>h=len|some (.int _ n)=>0<=n/\h=n.toNat|_=>False)/\l<=h/\h<=cap)/\K' l h:=by
 unfold Ng at h;split at h
 .cases h;obtain ⟨h1,h2⟩:=hp;exact ⟨_,_,λhg=>⟨rfl,rfl,by omega,ke h1 hg⟩,h2⟩
 .cases h;obtain ⟨h1,h2⟩:=hp;exact ⟨_,_,λhg=>by have:=ke h1 hg;exact ⟨⟨this.1,rfl⟩,rfl,by omega,this.2.2⟩,h2⟩
 .cases h;obtain ⟨h1,h2⟩:=hp;exact ⟨_,_,λhg=>by have:=ke h1 hg;exact ⟨rfl,⟨this.1,rfl⟩,by omega,by omega⟩,h2⟩
 .cases h;obtain ⟨h1,h2⟩:=hp;exact ⟨_,_,λhg=>by have:=ke h1 hg;exact ⟨⟨this.1,rfl⟩,⟨by omega,rfl⟩,by omega,by omega⟩,h2⟩
 .cases h
theorem aRB{P g t x lo hi K p}(h:Zl P g t x lo hi K=some p)(hp:p):
  ∃ v,(fu g->∀ w,(Instr.sliceAt t x lo hi none).run P w=.ok v w)/\K v:=by
 unfold Zl at h;split at h
 .rename_i s ht;obtain ⟨l,hh,hb,hk⟩:=Zo h hp;refine ⟨_,λhg w=>?_,hk⟩;obtain ⟨h1,h2,h3,h4⟩:=hb hg;simp [Instr.sliceAt,run_underlying ht,Result.andThen,Instr.slice,YX h1 h2 h3 h4]
 .rename_i q len cap e ht;split at h
  .rename_i jX hi;obtain ⟨l,hh,hb,hk⟩:=Zo h hp;refine ⟨_,λhg w=>?_,hk⟩;obtain ⟨h1,h2,h3,h4⟩:=hb hg;simp [Instr.sliceAt,run_underlying ht,Result.andThen,Instr.slice,YX h1 h2 h3 h4,run_sizeOf hi,eB]
  .cases h
 .rename_i b o n e ht;split at h
  .rename_i jX hi;obtain ⟨l,hh,hb,hk⟩:=Zo h hp;refine ⟨_,λhg w=>?_,hk⟩;obtain ⟨h1,h2,h3,h4⟩:=hb hg;simp [Instr.sliceAt,run_underlying ht,Result.andThen,Instr.sureAddr,YX h1 h2 h3 h4,run_sizeOf hi,eB];split<;>rfl
  .cases h
 .cases h
def Zm(P:Program)(g:Option Bool)(t:TypeId)(x hi mx:Value)(K:Value->Prop):Option Prop :=
 match x,P.underlying t,hi,mx with
 | .slice p len cap,some (.slice e),.int _ h,.int _ m =>
  match P.info? e with
  | some jX=>some (hY g (0<=h/\h<=m/\m<=cap)/\K (.slice (eB p jX.size 0 m.toNat) h.toNat m.toNat))
  | none=>none
 | _,_,_,_=>none
theorem aR9{P g t x hi mx K p}(h:Zm P g t x hi mx K=some p)(hp:p):
  ∃ v,(fu g->∀ w,(Instr.sliceAt t x none (some hi) (some mx)).run P w=.ok v w)/\K v:=by
 unfold Zm at h;split at h
 .rename_i q len cap e kh h kn m ht;split at h
  .rename_i jX hi;cases h;obtain ⟨h1,hk⟩:=hp;refine ⟨_,λhg w=>?_,hk⟩;obtain ⟨a1,a2,a3⟩:=ke h1 hg;have hb:∀ (k:IntKind) (n:Int) (U:Nat) (code:BoundsCode),0<=n->n.toNat<=U->(Instr.sliceBound (.int k n) U code).run P w=.ok n.toNat w:=by
    intro k n U code h0 h1;unfold Instr.sliceBound;simp only [asIntOf,Sem.run_bind,Sem.run_pure,Result.andThen];rw [if_pos ⟨h0,by omega⟩];rfl
   have hm:=hb kn m cap .slice3Acap (by omega) (by omega);have hh:=hb kh h m.toNat .slice3B a1 (by omega);have hs:(Instr.sliceBounds true len cap none (some (.int kh h)) (some (.int kn m))).run P w=.ok (0,h.toNat,m.toNat) w:=by
    unfold Instr.sliceBounds;simp [Result.andThen,hm,hh]
   simp [Instr.sliceAt,run_underlying ht,Result.andThen,Instr.slice,hs,run_sizeOf hi,eB]
  .cases h
 .cases h
def Zn(P:Program)(g:Option Bool)(t:TypeId)(x lo hi mx:Value)(K:Value->Prop):Option Prop :=
 match x,P.underlying t,lo,hi,mx with
 | .slice p len cap,some (.slice e),.int _ l,.int _ h,.int _ m =>
  match P.info? e with
  | some jX=>some (hY g (0<=l/\l<=h/\h<=m/\m<=cap)/\K (.slice (eB p jX.size l.toNat m.toNat) (h.toNat - l.toNat) (m.toNat - l.toNat)))
  | none=>none
 | _,_,_,_,_=>none
theorem aRA{P g t x lo hi mx K p}(h:Zn P g t x lo hi mx K=some p)(hp:p):
  ∃ v,(fu g->∀ w,(Instr.sliceAt t x (some lo) (some hi) (some mx)).run P w=.ok v w)/\K v:=by
 unfold Zn at h;split at h
 .rename_i q len cap e kl l kh h kn m ht;split at h
  .rename_i jX hi;cases h;obtain ⟨h1,hk⟩:=hp;refine ⟨_,λhg w=>?_,hk⟩;obtain ⟨a0,a1,a2,a3⟩:=ke h1 hg;have hb:∀ (k:IntKind) (n:Int) (U:Nat) (code:BoundsCode),0<=n->n.toNat<=U->(Instr.sliceBound (.int k n) U code).run P w=.ok n.toNat w:=by
    intro k n U code h0 h1;unfold Instr.sliceBound;simp only [asIntOf,Sem.run_bind,Sem.run_pure,Result.andThen];rw [if_pos ⟨h0,by omega⟩];rfl
   have hm:=hb kn m cap .slice3Acap (by omega) (by omega);have hh:=hb kh h m.toNat .slice3B (by omega) (by omega);have hl:=hb kl l h.toNat .slice3C (by omega) (by omega);have hs:(Instr.sliceBounds true len cap (some (.int kl l)) (some (.int kh h)) (some (.int kn m))).run P w=.ok (l.toNat,h.toNat,m.toNat) w:=by
    unfold Instr.sliceBounds;simp [Result.andThen,hm,hh,hl]
   simp [Instr.sliceAt,run_underlying ht,Result.andThen,Instr.slice,hs,run_sizeOf hi,eB]
  .cases h
 .cases h
def zA(P:Program)(t:TypeId)(K:Value->Prop):Prop :=
 match P.underlying t with
 | some (.tuple ts)=>Nd P ts.toList λvs=>K (.tuple vs.toArray)
 | _=>J2 P t K
theorem D6{P t K}(h:zA P t K):∃ v,K v:=by
 unfold zA at h;split at h
 .obtain ⟨vs,h⟩:=Rz h;exact ⟨_,h⟩
 .exact Ry h
def zG:Value:=.tuple #[.nilFunc]
def fG:Value->Bool
 | .tuple vs=>(match vs.toList with | [.nilFunc]=>true|_=>false)
 | _=>false
def LD(k:IntKind):Int->List Value->Option Int
 | x,[]=>some x
 | x,.int k' U :: r=>if k=k' then LD k (max x U) r else none
 | _,_=>none
def LF(k:IntKind):Int->List Value->Option Int
 | x,[]=>some x
 | x,.int k' U :: r=>if k=k' then LF k (min x U) r else none
 | _,_=>none
def SF(P:Program)(b:Builtin)(ts:Array TypeId)(args:List Value)(K:Value->Prop):Option Prop :=
 match b,args with
 | .len,[.slice _ n _]=>match ts[0]? with
  | some t=>match P.underlying t with|some (.slice _)=>some (K (.int .i64 n))|_=>none
  | none=>none
 | .len,[.string s]=>match ts[0]? with
  | some t=>match P.underlying t with|some .string=>some (K (.int .i64 s.size))|_=>none
  | none=>none
 | .cap,[.slice _ _ n]=>match ts[0]? with
  | some t=>match P.underlying t with|some (.slice _)=>some (K (.int .i64 n))|_=>none
  | none=>none
 | .len,[_]=>match ts[0]? with
  | some t=>match P.underlying t with|some (.array n _)=>some (K (.int .i64 n))|_=>none
  | none=>none
 | .max,.int k x :: r=>match LD k x r with|some n=>some (K (.int k n))|none=>none
 | .min,.int k x :: r=>match LF k x r with|some n=>some (K (.int k n))|none=>none
 | _,_=>none
theorem a4R{P:Program}{k:IntKind}{w:World}:∀ {l:List Value} {x n:Int},LD k x l=some n->((l.foldlM Builtin.max2 (.int k x):Sem Value)).run P w=.ok (.int k n) w
 | [],x,n,h=>by simp [LD] at h;subst h;simp
 | v :: r,x,n,h=>by
  cases v<;>simp [LD] at h;obtain ⟨rfl,h⟩:=h;rename_i U;have ih:=a4R (P:=P) (w:=w) h;simp only [List.foldlM_cons,Builtin.max2,Sem.run_bind,Sem.run_pure,Result.andThen];have e:(if U > x then U else x)=max x U:=by
   rw [Int.max_def];split<;>split<;>omega
  rw [e];exact ih
theorem a4S{P:Program}{k:IntKind}{w:World}:∀ {l:List Value} {x n:Int},LF k x l=some n->((l.foldlM Builtin.min2 (.int k x):Sem Value)).run P w=.ok (.int k n) w
 | [],x,n,h=>by simp [LF] at h;subst h;simp
 | v :: r,x,n,h=>by
  cases v<;>simp [LF] at h;obtain ⟨rfl,h⟩:=h;rename_i U;have ih:=a4S (P:=P) (w:=w) h;simp only [List.foldlM_cons,Builtin.min2,Sem.run_bind,Sem.run_pure,Result.andThen];have e:(if U<x then U else x)=min x U:=by
   rw [Int.min_def];split<;>split<;>omega
  rw [e];exact ih
theorem aR1{P b ts t cs args K p}(h:SF P b ts args.toList K=some p)(hp:p):
  ∃ v,(∀ w,(builtin b ts t cs args).run P w=.ok (.value v) w)/\K v:=by
 obtain ⟨args⟩:=args;simp only at h;unfold SF at h;split at h
 case h_7=>cases h
 case h_5 =>
  split at h
  .rename_i hf;cases h;exact ⟨_,λw=>by simp [builtin,Builtin.max_,a4R hf,Result.andThen],hp⟩
  .cases h
 case h_6 =>
  split at h
  .rename_i hf;cases h;exact ⟨_,λw=>by simp [builtin,Builtin.min_,a4S hf,Result.andThen],hp⟩
  .cases h
 all_goals
  split at h
  .rename_i ht;split at h
   .rename_i hu;cases h;refine ⟨_,λw=>?_,hp⟩;first
     | (simp [builtin,Builtin.len_,ht,run_underlying hu,Result.andThen,goInt];done)
     | (simp [builtin,Builtin.cap_,ht,run_underlying hu,Result.andThen,goInt];done)
   .cases h
  .cases h
def Zk(P:Program)(op:BinOp)(t:TypeId)(x U:Value)(K:Value->Prop):Option Prop :=
 match op,P.underlying t,x,U with
 | .eql,some (.pointer _),.pointer p,.pointer none=>some (K (.bool p.isNone))
 | .neq,some (.pointer _),.pointer p,.pointer none=>some (K (.bool (!p.isNone)))
 | .eql,some (.slice _),.slice p _ _,.slice none _ _=>some (K (.bool p.isNone))
 | .neq,some (.slice _),.slice p _ _,.slice none _ _=>some (K (.bool (!p.isNone)))
 | .eql,some .bool,.bool a,.bool b=>some (K (.bool (a == b)))
 | .neq,some .bool,.bool a,.bool b=>some (K (.bool (a != b)))
 | _,_,_,_=>none
theorem aR7{P op t ox oy x U K p}(h:Zk P op t x U K=some p)(hp:p):
  ∃ v,(∀ w,(do eqGuard op t ox oy x U;binOp op t x U:Sem Value).run P w=.ok v w)/\K v:=by
 unfold Zk at h;split at h
 case h_7=>cases h
 all_goals
  cases h;refine ⟨_,λw=>?_,hp⟩;rename_i ht;simp only [eqGuard,binOp,Sem.run_bind,Sem.run_pure,Result.andThen,Op.equal,Op.maxDepth];rw [show (10000:Nat)=9999+1 from rfl];unfold Op.equalIn;simp only [Sem.run_bind,run_underlying ht,Result.andThen,Sem.run_pure]
 case h_1 q=>cases q<;>simp
 case h_2 q=>cases q<;>simp
 case h_3 q _ _ _ _=>cases q<;>simp
 case h_4 q _ _ _ _=>cases q<;>simp
 case h_5=>simp
 case h_6=>simp [bne]
def A1(P:Program)(xs ys:Array Value):List Field->Option Bool
 | []=>some true
 | f :: fs=>match f.name == "_" with
  | true=>none
  | false=>match P.underlying f.type,xs[f.offset]?,ys[f.offset]?,A1 P xs ys fs with
   | some (.int _),some (.int k a),some (.int k' b),some r=>if k=k' then some (decide (a=b)&&r) else none
   | some .bool,some (.bool a),some (.bool b),some r=>some ((a == b)&&r)
   | some .string,some (.string a),some (.string b),some r=>some (decide (a=b)&&r)
   | _,_,_,_=>none
theorem Ug{P:Program}{w:World}{d:Nat}{xs ys:Array Value}:∀ {fs:List Field} {r:Bool},A1 P xs ys fs=some r->(Op.eqFields (d+1) xs ys fs).run P w=.ok r w
 | [],r,h=>by simp [A1] at h;subst h;simp [Op.eqFields]
 | f :: fs,r,h=>by
  unfold A1 at h;split at h
  .cases h
  .rename_i hname;have hname:f.name ≠ "_" := by simpa using hname
   unfold Op.eqFields;rw [if_pos hname];have go:∀ {t:TypeDesc} {a b:Value} {c r':Bool},P.underlying f.type=some t->we t=false->xs[f.offset]? = some a->ys[f.offset]? = some b->(Op.equalIn (d+1) f.type a b).run P w=.ok c w->A1 P xs ys fs=some r' ->
     (do let a <-part f.type xs f.offset;let b <-part f.type ys f.offset;let r <-Op.equalIn (d+1) f.type a b;if (!r)=true then pure false else Op.eqFields (d+1) xs ys fs:Sem Bool).run P w=.ok (c&&r') w:=by
    intro t a b c r' ht ha hx hy he hr;have ih:=Ug (w:=w) (d:=d) hr;simp only [Sem.run_bind,Rl ht ha hx,Rl ht ha hy,Result.andThen,he];cases c<;>simp [ih]
   split at h
   .rename_i ht hx hy hr;split at h
    .rename_i hk;subst hk;cases h;exact go ht rfl hx hy (by rw [run_equalIn_int w d f.type _ _ _ _ ht];congr 1) hr
    .cases h
   .rename_i ht hx hy hr;cases h;exact go ht rfl hx hy (run_equalIn_bool' w d f.type _ _ ht) hr
   .rename_i ht hx hy hr;cases h;exact go ht rfl hx hy (by rw [run_equalIn_string w d f.type _ _ ht,Th]) hr
   .cases h
def r0(P:Program)(t:TypeId):Bool := !P.stoodInHeld t && !P.eqGuardType P.depth t
def Zd(P:Program)(op:BinOp)(t:TypeId)(x U:Value)(K:Value->Prop):Option Prop :=
 match op,x,U with
 | .eql,.agg xs,.agg ys=>match P.underlying t with
  | some (.struct fs)=>match A1 P xs ys fs.toList with
   | some r=>some (r0 P t=true/\K (.bool r))
   | none=>none
  | _=>none
 | .neq,.agg xs,.agg ys=>match P.underlying t with
  | some (.struct fs)=>match A1 P xs ys fs.toList with
   | some r=>some (r0 P t=true/\K (.bool (!r)))
   | none=>none
  | _=>none
 | _,_,_=>none
theorem aR0{P op t ox oy x U K p}(h:Zd P op t x U K=some p)(hp:p):
  ∃ v,(∀ w,(do eqGuard op t ox oy x U;binOp op t x U:Sem Value).run P w=.ok v w)/\K v:=by
 have key:∀ {xs ys:Array Value} {fs:Array Field} {r:Bool} (w:World),P.underlying t=some (.struct fs)->P.stoodInHeld t=false->A1 P xs ys fs.toList=some r->(Op.equalIn 10000 t (.agg xs) (.agg ys)).run P w=.ok r w:=by
  intro xs ys fs r w ht hs hr;have hf:P.fieldsOf t=fs:=by simp [Program.fieldsOf,ht]
  rw [show (10000:Nat)=9999+1 from rfl,run_equalIn_struct w 9999 t xs ys (by rw [hf];exact ht) hs,hf];exact Ug hr
 have ok:r0 P t=true->P.stoodInHeld t=false/\P.eqGuardType P.depth t=false:=λh=>by simpa [r0] using h
 unfold Zd at h;split at h
 .split at h
  .rename_i fs ht;split at h
   .rename_i r hr;cases h;obtain ⟨h0,hp⟩:=hp;obtain ⟨hs,hg⟩:=ok h0;refine ⟨_,λw=>?_,hp⟩;rw [Sem.run_bind,run_eqGuard_agg w .eql t ox oy _ _ hg];simp only [Result.andThen];rw [run_eql_struct,key w ht hs hr];rfl
   .cases h
  .cases h
 .split at h
  .rename_i fs ht;split at h
   .rename_i r hr;cases h;obtain ⟨h0,hp⟩:=hp;obtain ⟨hs,hg⟩:=ok h0;refine ⟨_,λw=>?_,hp⟩;rw [Sem.run_bind,run_eqGuard_agg w .neq t ox oy _ _ hg];simp only [Result.andThen];rw [run_neq_struct,key w ht hs hr];rfl
   .cases h
  .cases h
 .cases h
theorem mapA{α β:Type}(f:α->β)(a:Array α):(a.toList.map f).toArray=a.map f:=by apply Array.ext';simp
def zeroOf(P:Program)(t:TypeId):Option Value:=(P.info? t).bind (·.zero)
theorem Is{P t z w}(h:zeroOf P t=some z):(zeroValue t).run P w=.ok z w:=by
 unfold zeroOf at h;cases hi:P.info? t with
 | none=>simp [hi] at h
 | some i =>
  simp [hi] at h;simp [zeroValue,typeInfo,hi,h]
theorem range_zero:Array.range 0=#[]:=Array.ext (by simp) (by simp)
def Pz{α:Type _}:List Value->(List Value->α)->α
 | [],K=>K []
 | x :: r,K=>Pz r λr'=>K (x :: r')
theorem a4U{α}:∀ (l:List Value) (K:List Value->α),Pz l K=K l
 | [],_=>rfl
 | x :: r,K=>by unfold Pz;rw [a4U r]
def wm(place:Nat->Option (Nat × Nat))(cells:List Value):List (Nat × Value)->Option (List Value)
 | []=>some cells
 | (i,v) :: rest =>
  match place i with
  | none=>none
  | some (off,size) =>
   match Nat.beq v.cells.toList.length size&&Nat.ble (off+v.cells.toList.length) cells.length with
   | true=>Pz (cells.take off++v.cells.toList++cells.drop (off+size)) λcells=>wm place cells rest
   | false=>none
theorem a4T(off):∀ (vs:List Value) (k:Nat) (cs:Array Value),off+k+vs.length<=cs.size ->
  (vs.zipIdx k).foldl (λcs (p:Value × Nat)=>cs.setIfInBounds (off+p.2) p.1) cs=(cs.toList.take (off+k)++vs++cs.toList.drop (off+k+vs.length)).toArray
 | [],k,cs,_=>by apply Array.ext';simp
 | v :: vs,k,cs,h=>by
  simp only [List.length_cons] at h;rw [List.zipIdx_cons,List.foldl_cons,a4T off vs (k+1) _ (by simp;omega)];apply Array.ext';have hlt:off+k<cs.toList.length:=by simp;omega
  have e1:(cs.toList.set (off+k) v).take (off+(k+1))=cs.toList.take (off+k)++[v]:=by
   rw [show off+(k+1)=off+k+1 by omega,List.take_succ_eq_append_getElem (by simpa using hlt)];simp [List.take_set_of_le]
  have e2:(cs.toList.set (off+k) v).drop (off+(k+1)+vs.length)=cs.toList.drop (off+k+(vs.length+1)):=by
   rw [List.drop_set_of_lt (by omega)]
   congr 1
   omega
  simp only [Array.toList_setIfInBounds,e1,e2,List.length_cons];simp
theorem Pv{place}:∀ {parts:List (Nat × Value)} {cells cs:List Value},wm place cells parts=some cs->Instr.fill place cells.toArray parts=some cs.toArray
 | [],_,_,h=>by simp [wm] at h;simp [Instr.fill,h]
 | (i,v) :: rest,cells,cs,h=>by
  unfold wm at h;unfold Instr.fill;split at h
  .cases h
  .rename_i off size hp;split at h
   .rename_i hc;rw [a4U] at h;simp only [Bool.and_eq_true] at hc;have h1:v.cells.toList.length=size:=Nat.eq_of_beq_eq_true hc.1;have h2:off+v.cells.toList.length<=cells.length:=Nat.le_of_ble_eq_true hc.2;have ih:=Pv h;have QF:v.cells.size=size:=by simpa using h1
    have qc:off+v.cells.size<=cells.length:=by simpa using h2
    rw [hp];simp only;rw [if_neg (by simp;omega)];have e:v.cells.zipIdx.foldl (λcs (x:Value × Nat)=>match x with|(c,j)=>cs.setIfInBounds (off+j) c) cells.toArray=(cells.take off++v.cells.toList++cells.drop (off+size)).toArray:=by
     have:=a4T off v.cells.toList 0 cells.toArray (by simpa using qc);rw [<-Array.foldl_toList,Array.toList_zipIdx];simp only [Nat.add_zero,h1] at this;exact this
    rw [e];exact ih
   .cases h
def u0(n:Nat)(z:List Value):List Value:=(List.replicate n z).flatten
theorem aCD(n)(z:Array Value):(Array.range (n*z.size)).map (z[· % z.size]!)=(u0 n z.toList).toArray:=by
 apply Array.ext';apply List.ext_getElem?;intro i;by_cases h0:z.size=0
 .have:z.toList=[]:=by cases z;simp_all
  simp [u0,this,h0]
 have key:∀ (n i:Nat),(u0 n z.toList)[i]? = if i<n*z.size then z.toList[i % z.size]? else none:=by
  intro n
  induction n with
  | zero=>intro i;simp [u0]
  | succ n ih =>
   intro i;have e:u0 (n+1) z.toList=z.toList++u0 n z.toList:=by simp [u0,List.replicate_succ]
   rw [e,List.getElem?_append,ih];simp only [Array.length_toList];by_cases h1:i<z.size
   .rw [if_pos h1,if_pos (by rw [Nat.succ_mul];omega),Nat.mod_eq_of_lt h1]
   .rw [if_neg h1];have e2:(i - z.size) % z.size=i % z.size:=(Nat.mod_eq_sub_mod (Nat.le_of_not_lt h1)).symm;rw [e2];by_cases h2:i - z.size<n*z.size
    .rw [if_pos h2,if_pos (by rw [Nat.succ_mul];omega)]
    .rw [if_neg h2,if_neg (by rw [Nat.succ_mul];omega)]
 rw [key];simp only [Array.toList_map,Array.toList_range,List.getElem?_map,List.getElem?_range];by_cases h:i<n*z.size
 .have hm:i % z.size<z.size:=Nat.mod_lt _ (by omega);simp [h,hm]
 .simp [h]
def JE(P:Program)(t:TypeId)(parts:List (Nat × Value))(K:Value->Prop):Prop :=
 match P.underlying t,zeroOf P t with
 | some (.struct fs),some z =>
  match wm (λi=>match fs[i]? with|some f=>(match P.info? f.type with|some x=>some (f.offset,x.size)|none=>none)|none=>none) z.cells.toList parts,fs.toList.all (λf=>(P.info? f.type).isSome) with
  | some cs,true=>K (.agg cs.toArray)
  | _,_=>False
 | some (.array _ e),some z =>
  match P.info? e with
  | some x=>match wm (λi=>some (i*x.size,x.size)) z.cells.toList parts with
   | some cs=>K (.agg cs.toArray)
   | none=>False
  | none=>False
 | _,_=>False
theorem run_places{P w}:∀ (l:List Field),l.all (λf=>(P.info? f.type).isSome)=true ->
  (l.mapM λf=>(do pure (f.offset,<-sizeOf f.type):Sem (Nat × Nat))).run P w=.ok (l.map λf=>(f.offset,S2 P f.type)) w
 | [],_=>by simp
 | f :: r,h=>by
  simp only [List.all_cons,Bool.and_eq_true] at h;obtain ⟨x,hx⟩:=Option.isSome_iff_exists.1 h.1;have ih:=run_places (P:=P) (w:=w) r h.2;rw [List.mapM_cons];simp only [Sem.run_bind,run_sizeOf hx,Result.andThen,Sem.run_pure,ih,List.map_cons];simp [S2,hx]
theorem aJP{p q}(h:∀ i,p i=q i)(c l):wm p c l=wm q c l:=by
 have:p=q:=funext h;rw [this]
theorem aBK{P t parts K}(h:JE P t parts.toList K):
  ∃ v,(∀ w,(Instr.build t parts).run P w=.ok v w)/\K v:=by
 unfold JE at h;split at h
 .rename_i fs z ht hz;split at h
  .rename_i cs hf hall;refine ⟨_,λw=>?_,h⟩;have hpl:=run_places (P:=P) (w:=w) fs.toList hall;have aKT:wm (λi=>(fs.toList.map λf=>(f.offset,S2 P f.type)).toArray[i]?) z.cells.toList parts.toList=some cs:=by
    rw [<-hf];apply aJP;intro i;simp only [List.getElem?_toArray,List.getElem?_map,Array.getElem?_toList];cases hi:fs[i]? with
    | none=>rfl
    | some f =>
     have hm:f∈fs.toList:=by simpa using Array.mem_of_getElem? hi
     obtain ⟨x,hx⟩:=Option.isSome_iff_exists.1 (List.all_eq_true.1 hall f hm);simp [S2,hx]
   have:=Pv aKT;unfold Instr.build;rw [Sem.run_bind,Is hz];simp only [Result.andThen];rw [Sem.run_bind,run_underlying ht];simp only [Result.andThen];rw [Sem.run_bind,Array.mapM_eq_mapM_toList,map_eq_pure_bind,Sem.run_bind,hpl];simp only [Result.andThen,Sem.run_pure];rw [show z.cells=z.cells.toList.toArray by simp,this];rfl
  .exact h.elim
 .rename_i len e z ht hz;split at h
  .rename_i x hx;split at h
   .rename_i cs hf;refine ⟨_,λw=>?_,h⟩;have:=Pv hf;unfold Instr.build;rw [Sem.run_bind,Is hz];simp only [Result.andThen];rw [Sem.run_bind,run_underlying ht];simp only [Result.andThen];rw [Sem.run_bind,run_sizeOf hx];simp only [Result.andThen];rw [show z.cells=z.cells.toList.toArray by simp,this];rfl
   .exact h.elim
  .exact h.elim
 .exact h.elim
theorem aBL{P t parts w K}(h:JE P t parts.toList K):
  ∃ v,(Instr.build t parts).run P w=.ok v w/\K v :=
 let ⟨v,h1,h2⟩:=aBK h
 ⟨v,h1 w,h2⟩
def o6(P:Program)(wr:Bool)(o:Oper)(χ:Operand->Value)(w:World)(g:Option Bool)(K:Value->Prop):Option Prop :=
 match o.op with
 | .move x=>some (K (χ x))
 | .assign x=>some (K (χ x))
 | .load t x=>match χ x with
  | .pointer (some ⟨b,off,none⟩)=>some (JF P t w g b off K)
  | _=>none
 | .nilCheck x=>match χ x with
  | .pointer p=>some (k9 g p λb off=>K (.pointer (some ⟨b,off,none⟩)))
  | .func (.func f) a b=>some (K (.func (.func f) a b))
  | _=>none
 | .binOp op t x U _ =>
  match Zc wr g op (χ x) (χ U) K with
  | some p=>some p
  | none=>match Zk P op t (χ x) (χ U) K with
   | some p=>some p
   | none=>match Zd P op t (χ x) (χ U) K with
   | some p=>some p
   | none=>match op with
    | .eql | .neq=>some (∃ b:Bool,hY g (∀ w',(do eqGuard op t x U (χ x) (χ U);binOp op t (χ x) (χ U):Sem Value).run P w'=.ok (.bool b) w')/\K (.bool b))
    | _=>some (zA P o.type λv=>hY g (∀ w',(binOp op t (χ x) (χ U)).run P w'=.ok v w')/\K v)
 | .unOp op _ x=>match op,χ x with
  | .not,.bool b=>some (K (.bool (!b)))
  | .neg,.int k n=>some (ER wr g k (0 - n) K)
  | _,_=>none
 | .convert src dst x=>match P.underlying src,P.underlying dst,χ x with
  | some _,some (.int k),.int k' n=>if k=k' then some (hY g (k.wrap n=n)/\K (.int k n)) else some (K (.int k (k.wrap n)))
  | some .string,some .string,.string s=>some (K (.string s))
  | _,_,_=>none
 | .fieldAddr t x f=>Zg P t (χ x) f K
 | .field t x f=>Zf P t (χ x) f K
 | .indexAddr t x i=>Zi P g t (χ x) (χ i) K
 | .index t x i=>Zh P g t (χ x) (χ i) K
 | .slice t x lo hi none=>Zl P g t (χ x) (lo.map χ) (hi.map χ) K
 | .extract x i=>match χ x with
  | .tuple vs=>match vs[i]? with
   | some v=>some (K v)
   | none=>none
  | _=>none
 | .makeInterface t x=>match P.underlying t with
  | some (.interface _)=>none
  | some _=>some (K (.iface t (χ x)))
  | none=>none
 | .makeFunc fn a b=>some (K (.func fn (a.toList.map χ).toArray (b.toList.map χ).toArray))
 | .lookup t m k ok=>some (zA P o.type λv=>hY g (∀ w',w'.heap=w.heap->(Instr.lookup t (χ m) (χ k) ok).run P w'=.ok v w')/\K v)
 | .call c=>match c.callee with
  | .builtin b=>match SF P b c.argTypes (c.args.toList.map χ) K with
   | some p=>some p
   | none=>match b with
    | .len=>some (∃ n:Int,hY g (∀ w',w'.heap=w.heap->(Builtin.len_ c.argTypes o.type (c.args.toList.map χ).toArray).run P w'=.ok (.int .i64 n) w')/\K (.int .i64 n))
    | _=>none
  | _=>none
 | .build t parts=>some (JE P t (parts.toList.map λp=>(p.1,χ p.2)) K)
 | .slice t x none (some hi) (some mx)=>Zm P g t (χ x) (χ hi) (χ mx) K
 | .slice t x (some lo) (some hi) (some mx)=>Zn P g t (χ x) (χ lo) (χ hi) (χ mx) K
 | _=>none
def mF(P:Program)(o:Oper)(χ:Operand->Value)(K:Value->Prop):Bool :=
 match o.op with
 | .load .. => true
 | .lookup .. => true
 | .call c=>match c.callee with
  | .builtin b=>match SF P b c.argTypes (c.args.toList.map χ) K with
   | some _=>false
   | none=>true
  | _=>true
 | _=>false
theorem a9B{P wr o χ w g K p}(h:o6 P wr o χ w g K=some p)(hp:p):
  ∃ v,(fu g->∀ w',(mF P o χ K=true->w'.heap=w.heap)->(execOp χ o).run P w'=.ok (.value v) w')/\K v:=by
 unfold o6 at h;split at h
 case h_1 x hop=>cases h;exact ⟨_,λ_ w' _=>by simp [execOp,hop],hp⟩
 case h_2 x hop=>cases h;exact ⟨_,λ_ w' _=>by simp [execOp,hop],hp⟩
 case h_3 t x hop =>
  split at h
  .rename_i b off hx;cases h;obtain ⟨v,h1,h2⟩:=Zj hp;exact ⟨v,λhg w' hw=>by simp [execOp,hop,hx,Instr.loadAt,Instr.sureAddr,h1 hg w' (hw (by simp [mF,hop])),Result.andThen],h2⟩
  .cases h
 case h_4 x hop =>
  split at h
  .rename_i q hx;cases h;obtain ⟨b,off,h1,h2⟩:=Xy hp;exact ⟨_,λhg w' hw=>by have:=ke h1 hg;subst this;simp [execOp,hop,hx],h2⟩
  .rename_i f a b hx;cases h;exact ⟨_,λhg w' hw=>by simp [execOp,hop,hx],hp⟩
  .cases h
 case h_5 op t x U ty hop =>
  split at h
  .rename_i q hq;cases h;obtain ⟨v,h1,h2⟩:=aQz (P:=P) (t:=t) (ox:=x) (oy:=U) hq hp;refine ⟨v,λhg w' _=>?_,h2⟩;have:=h1 hg w';simp only [execOp,hop];rw [Sem.run_bind,this];rfl
  .split at h
   .rename_i q hq;cases h;obtain ⟨v,h1,h2⟩:=aR7 (P:=P) (ox:=x) (oy:=U) hq hp;refine ⟨v,λhg w' _=>?_,h2⟩;simp only [execOp,hop];rw [Sem.run_bind,h1 w'];rfl
   .split at h
    .rename_i q hq;cases h;obtain ⟨v,h1,h2⟩:=aR0 (P:=P) (ox:=x) (oy:=U) hq hp;refine ⟨v,λhg w' _=>?_,h2⟩;simp only [execOp,hop];rw [Sem.run_bind,h1 w'];rfl
    split at h
    .cases h;obtain ⟨b,h1,h2⟩:=hp;refine ⟨_,λhg w' _=>?_,h2⟩;simp only [execOp,hop];rw [Sem.run_bind,ke h1 hg w'];rfl
    .cases h;obtain ⟨b,h1,h2⟩:=hp;refine ⟨_,λhg w' _=>?_,h2⟩;simp only [execOp,hop];rw [Sem.run_bind,ke h1 hg w'];rfl
    .rename_i aKs aKt;cases h;obtain ⟨v,h1,h2⟩:=D6 hp;refine ⟨v,λhg w' _=>?_,h2⟩;have h3:=ke h1 hg w';have h4:(eqGuard op t x U (χ x) (χ U)).run P w'=.ok () w':=by
      cases op<;>first|exact absurd rfl aKs|exact absurd rfl aKt|simp [eqGuard]
     simp only [execOp,hop];rw [Sem.run_bind,Sem.run_bind,h4];simp only [Result.andThen,h3];rfl
 case h_6 op t x hop =>
  split at h
  .rename_i b hx;cases h;exact ⟨_,λ_ w' _=>by simp [execOp,hop,hx,Op.unary,Result.andThen],hp⟩
  .rename_i k n hx;cases h;obtain ⟨v,h1,h2⟩:=KJ hp;exact ⟨v,λhg w' _=>by rw [h1 hg];simp [execOp,hop,hx,Op.unary,Op.intArith,Result.andThen],h2⟩
  .cases h
 case h_7 src dst x hop =>
  split at h
  .rename_i d k k' n hs hd hx;split at h
   .rename_i hk;subst hk;cases h;obtain ⟨h1,h2⟩:=hp;refine ⟨_,λhg w' _=>?_,h2⟩;have h3:=ke h1 hg;simp [execOp,hop,hx,convert,run_underlying hs,run_underlying hd,Conv.intToInt,Result.andThen,h3]
   .cases h;exact ⟨_,λhg w' _=>by simp [execOp,hop,hx,convert,run_underlying hs,run_underlying hd,Conv.intToInt,Result.andThen],hp⟩
  .rename_i s hs hd hx;cases h;exact ⟨_,λhg w' _=>by simp [execOp,hop,hx,convert,run_underlying hs,run_underlying hd,Result.andThen],hp⟩
  .cases h
 case h_8 t x f hop =>
  obtain ⟨v,h1,h2⟩:=aR3 h hp;exact ⟨v,λ_ w' _=>by simp [execOp,hop,h1 w',Result.andThen],h2⟩
 case h_9 t x f hop =>
  obtain ⟨v,h1,h2⟩:=aR4 h hp;exact ⟨v,λ_ w' _=>by simp [execOp,hop,h1 w',Result.andThen],h2⟩
 case h_10 t x i hop =>
  obtain ⟨v,h1,h2⟩:=aR5 h hp;exact ⟨v,λhg w' _=>by simp [execOp,hop,h1 hg w',Result.andThen],h2⟩
 case h_11 t x i hop =>
  obtain ⟨v,h1,h2⟩:=aR6 h hp;exact ⟨v,λhg w' _=>by simp [execOp,hop,h1 hg w',Result.andThen],h2⟩
 case h_12 t x lo hi hop =>
  obtain ⟨v,h1,h2⟩:=aRB h hp;exact ⟨v,λhg w' _=>by simp [execOp,hop,h1 hg w',Result.andThen],h2⟩
 case h_13 x i hop =>
  split at h
  .rename_i vs hx;split at h
   .rename_i v hv;cases h;exact ⟨_,λ_ w' _=>by simp [execOp,hop,hx,Instr.extract,hv,Result.andThen],hp⟩
   .cases h
  .cases h
 case h_14 t x hop =>
  split at h
  .cases h
  .rename_i d hn ht;cases h;refine ⟨_,λ_ w' _=>?_,hp⟩;simp only [execOp,hop,Sem.run_bind,Instr.makeInterface,run_underlying ht,Result.andThen];cases d<;>first|rfl|exact absurd rfl (hn _)
  .cases h
 case h_15 fn a b hop=>cases h;exact ⟨_,λ_ w' _=>by simp [execOp,hop,Instr.makeFunc,Result.andThen,<-mapA],hp⟩
 case h_16 t m k ok hop =>
  cases h;obtain ⟨v,h1,h2⟩:=D6 hp;exact ⟨v,λhg w' hw=>by simp [execOp,hop,ke h1 hg w' (hw (by simp [mF,hop])),Result.andThen],h2⟩
 case h_17 c hop =>
  split at h
  .rename_i b hc;rw [show c.args.toList.map χ=(c.args.map χ).toList by simp] at h;have hmap:c.args.toList.map χ=(c.args.map χ).toList:=by simp
   split at h
   .rename_i p' hp';cases h;obtain ⟨v,h1,h2⟩:=aR1 (t:=o.type) (cs:=c.args.map fun | .const _=>true|_=>false) hp' hp;refine ⟨v,λ_ w' _=>?_,h2⟩;simp only [execOp,hop,Sem.run_bind,resolve,hc,Sem.run_pure,Result.andThen,invoke];exact h1 w'
   .rename_i hnone;split at h
    .cases h;obtain ⟨n,h1,h2⟩:=hp;refine ⟨_,λhg w' hw=>?_,h2⟩;have h3:=ke h1 hg w' (hw (by simp only [mF,hop,hc,hmap,hnone]));rw [Array.toArray_toList] at h3;simp only [execOp,hop,Sem.run_bind,resolve,hc,Sem.run_pure,Result.andThen,invoke,builtin,h3]
    .cases h
  .cases h
 case h_18 t parts hop =>
  cases h;rw [show (parts.toList.map λp=>(p.1,χ p.2))=(parts.map λ(i,x)=>(i,χ x)).toList by simp] at hp;obtain ⟨v,h1,h2⟩:=aBK hp;exact ⟨v,λ_ w' _=>by simp only [execOp,hop,Sem.run_bind,h1,Sem.run_pure,Result.andThen],h2⟩
 case h_19 t x hi mx hop =>
  obtain ⟨v,h1,h2⟩:=aR9 h hp;exact ⟨v,λhg w' _=>by simp [execOp,hop,h1 hg w',Result.andThen],h2⟩
 case h_20 t x lo hi mx hop =>
  obtain ⟨v,h1,h2⟩:=aRA h hp;exact ⟨v,λhg w' _=>by simp [execOp,hop,h1 hg w',Result.andThen],h2⟩
 case h_21=>cases h
theorem a9A{P wr o χ w g K p}(h:o6 P wr o χ w g K=some p)(hp:p):
  ∃ v,(fu g->∀ w',w'.heap=w.heap->(execOp χ o).run P w'=.ok (.value v) w')/\K v :=
 let ⟨v,h1,h2⟩:=a9B h hp
 ⟨v,λhg w' hw=>h1 hg w' λ_=>hw,h2⟩
end Go.Vc
end

section
namespace Go.Vc
variable {ds:List Deferred}
open Go.RowKit
def tC(P:Program)(K:Value->World->Prop):Result Next->Prop
 | .ok (.value v) w=>K v w
 | .ok .skip w=>K undef w
 | .ok (.enter f args) w=>Calls P f args w λe w'=>∃ v,e=.returned v/\K v w'
 | _=>False
def Np(P:Program)(t:TypeId)(n:Nat)(parts:List (Nat × Value))(w:World)(K:Value->World->Prop):Prop :=
 match P.underlying t with
 | some (.slice e) =>
  match P.info? e,zeroOf P e with
  | some i,some z =>
   match Nat.ble (n*i.size) 16777216&&Nat.beq i.size z.cells.toList.length with
   | true =>
    match wm (λj=>some (j*i.size,i.size)) (u0 n z.cells.toList) parts with
    | some cells=>∀ w',w'=w.alloc (.cells cells.toArray e)->K (.slice (some ⟨w.heap.size,0,none⟩) n n) w'
    | none=>False
   | false=>False
  | _,_=>False
 | _=>False
theorem a9Y{P w}(cells e):(newRow e cells).run P w=.ok ⟨w.heap.size,0,none⟩ (w.alloc (.cells cells e)):=by
 simp [newRow,newObj,Sem.run,Result.andThen]
theorem aBJ{P t n parts w K}(h:Np P t n parts.toList w K):
  ∃ v w',(Instr.buildSlice t n parts).run P w=.ok v w'/\K v w':=by
 unfold Np at h;split at h
 .rename_i e ht;split at h
  .rename_i i z hi hz;split at h
   .rename_i hn;simp only [Bool.and_eq_true] at hn;have hsz:i.size=z.cells.size:=by have:=Nat.eq_of_beq_eq_true hn.2;simpa using this
    have hle:n*i.size<=16777216:=Nat.le_of_ble_eq_true hn.1;split at h
    .rename_i cells hf;refine ⟨_,_,?_,h _ rfl⟩;have e1:¬ (n*i.size > 2 ^ 24):=by omega
     have hmk:=Pv hf;unfold Instr.buildSlice;rw [Sem.run_bind,run_underlying ht];simp only [Result.andThen];rw [Sem.run_bind,run_sizeOf hi];simp only [Result.andThen,if_neg e1];by_cases h0:n*i.size=0
     .have aLb:u0 n z.cells.toList=[]:=by
       have hl:(u0 n z.cells.toList).length=n*i.size:=by rw [hsz];simp [u0,List.length_flatten]
       rw [h0] at hl;exact List.eq_nil_of_length_eq_zero hl
      rw [aLb] at hmk;simp [h0,range_zero,hmk,Result.andThen,a9Y]
     .have hz1:=aCD n z.cells;rw [<-hsz] at hz1;simp only [h0,if_false,Sem.run_bind,Is hz,Result.andThen,Sem.run_pure];rw [<-hsz,hz1,hmk];simp [Result.andThen,a9Y]
    .exact h.elim
   .exact h.elim
  .exact h.elim
 .exact h.elim
def Nq(P:Program)(t:TypeId)(l c:Value)(w:World)(K:Value->World->Prop):Prop :=
  match P.underlying t,l,c with
  | some (.slice e),.int .i64 l,.int .i64 c =>
    match P.info? e,zeroOf P e with
    | some i,some z =>
      (0<=l/\l<=c/\i.bytes*c<=281474976710656/\c<=9223372036854775807) /\
        (if i.size=1/\ga z=true then ∀ w',w'=w.alloc (.cells (List.replicate c.toNat z).toArray e)->K (.slice (some ⟨w.heap.size,0,none⟩) l.toNat c.toNat) w'
         else if i.size=z.cells.toList.length/\i.size≠0 then ∀ w',w'=w.alloc (.cells (u0 c.toNat z.cells.toList).toArray e)->K (.slice (some ⟨w.heap.size,0,none⟩) l.toNat c.toNat) w'
         else False)
    | _,_=>False
  | _,_,_=>False
theorem aOq(z n):(Array.range n).map ((#[z]:Array Value)[· % (#[z]:Array Value).size]!)=Array.replicate n z:=by
 apply Array.ext
 .simp
 .intro i h1 h2;simp [Nat.mod_one]
theorem run_makeSlice{P t e i z}{l c:Int}{w}(ht:P.underlying t=some (.slice e))(hi:P.info? e=some i)(hz:zeroOf P e=some z)(h:0<=l/\l<=c/\i.bytes*c<=281474976710656/\c<=9223372036854775807)(hsz:i.size≠0):
  (Instr.makeSlice t (.int .i64 l) (.int .i64 c)).run P w=.ok (.slice (some ⟨w.heap.size,0,none⟩) l.toNat c.toNat) (w.alloc (.cells ((Array.range (c.toNat*i.size)).map (z.cells[· % z.cells.size]!)) e)):=by
 obtain ⟨h1,h2,h3,h4⟩:=h;have hl:IntKind.i64.wrap l=l:=IntWalk.i64_in l (by omega);have hc:IntKind.i64.wrap c=c:=IntWalk.i64_in c (by omega);have ht1:(typeInfo e).run P w=.ok i w:=by simp [typeInfo,hi]
 have hai:∀ n:Int,(asInt (.int .i64 n)).run P w=.ok n w:=λn=>by simp [asInt,asIntOf,Result.andThen]
 have e1:((decide (c<0)||decide ((i.bytes:Int)*c > 2 ^ 48))||decide (l<0)||decide (l > c))=false:=by
  simp;omega
 have CB:(askRoom (c.toNat*i.bytes)).run P w=.ok () w:=by unfold askRoom;split<;>simp [mark,Sem.run]
 have hro:∀ (cells:Array Value),(newRow e cells).run P w=.ok ⟨w.heap.size,0,none⟩ (w.alloc (.cells cells e)):=λcells=>by simp [newRow,newObj,Sem.run,Result.andThen]
 unfold Instr.makeSlice;simp only [Sem.run_bind,run_underlying ht,Result.andThen,hai,ht1,hl,hc];rw [if_neg (by rw [e1];simp)];simp only [Sem.run_bind,CB,Result.andThen,run_sizeOf hi];by_cases h0:c.toNat*i.size=0
 .rw [h0];simp [hro,range_zero,Result.andThen]
 .simp [h0,Is hz,Result.andThen,hro]
theorem aBM{P t l c w K}(h:Nq P t l c w K):
  ∃ v w',(Instr.makeSlice t l c).run P w=.ok v w'/\K v w':=by
 unfold Nq at h;split at h
 .rename_i e l c ht;split at h
  .rename_i i z hi hz;obtain ⟨hb,h⟩:=h;split at h
   .rename_i hc;have hr:=run_makeSlice (P:=P) (w:=w) ht hi hz hb (by omega);have hcells:z.cells=#[z]:=by cases z<;>first|rfl|cases hc.2
    rw [hc.1,Nat.mul_one,hcells,aOq,<-List.toArray_replicate] at hr;exact ⟨_,_,hr,h _ rfl⟩
   .split at h
    .rename_i hc;have hr:=run_makeSlice (P:=P) (w:=w) ht hi hz hb hc.2;have hz1:=aCD c.toNat z.cells;have hsz:i.size=z.cells.size:=by simpa using hc.1
     rw [hsz,hz1] at hr;exact ⟨_,_,hr,h _ rfl⟩
    .exact h.elim
  .exact h.elim
 .exact h.elim
def SA(P:Program)(ex:Nat->Option TypeId)(i:Nat)(K:Value->Prop):Prop :=
 match ex i with
 | some t=>J2 P t K
 | none=>∃ v,K v
theorem aB4{P ex i K}(h:SA P ex i K):∃ v,K v:=by
 unfold SA at h;split at h
 .exact Ry h
 .exact h
def C2(d:Option Tmp)(i:Nat):List Oper->Option TypeId
 | []=>none
 | o :: r=>match o.op,d with
  | .extract (.tmp t) j,some t'=>match Nat.beq t t'&&Nat.beq i j with
   | true=>some o.type
   | false=>C2 d i r
  | _,_=>C2 d i r
def HB(P:Program)(ex:Nat->Option TypeId)(o:Oper)(χ:Operand->Value)(w:World)(K:Value->World->Prop):Prop :=
 match o.op with
 | .store t x U=>match χ x with
  | .pointer (some ⟨b,off,none⟩)=>SG P t w b off (χ U) λw'=>K undef w'
  | _=>False
 | .box t x=>∀ w',w'=w.alloc (.cells (χ x).cells t)->K (.pointer (some ⟨w.heap.size,0,none⟩)) w'
 | .alloc t=>match zeroOf P t with
  | some z=>∀ w',w'=w.alloc (.cells z.cells t)->K (.pointer (some ⟨w.heap.size,0,none⟩)) w'
  | none=>False
 | .build t parts=>JE P t (parts.toList.map λp=>(p.1,χ p.2)) λv=>K v w
 | .buildSlice t n parts=>Np P t n (parts.toList.map λp=>(p.1,χ p.2)) w K
 | .makeSlice t l c=>Nq P t (χ l) (χ c) w K
 | .makeMap _ none=>∀ w',w'=w.alloc (.map #[] 0)->K (.map (some w.heap.size)) w'
 | .mapUpdate t m k x=>∃ w',(Instr.mapUpdate t (χ m) (χ k) (χ x)).run P w=.ok () w'/\K undef w'
 | .mapEntry t m k=>match P.underlying t with
  | some (.map _ e)=>J2 P e λv=>∃ (n:Int) (w':World),(Instr.mapEntry t (χ m) (χ k)).run P w=.ok (.tuple #[v,.int .i64 n]) w'/\K (.tuple #[v,.int .i64 n]) w'
  | _=>False
 | .entryStore t m s x=>∃ w',(Instr.entryStore t (χ m) (χ s) (χ x)).run P w=.ok () w'/\K undef w'
 | .range t x=>∃ p w',(Instr.range t (χ x)).run P w=.ok (.pointer p) w'/\K (.pointer p) w'
 | .next it false=>(∃ w',(Instr.next (χ it) false o.type).run P w=.ok (.tuple #[.bool false]) w'/\K (.tuple #[.bool false]) w') \/
  (∃ (k v:Value) (w':World),(Instr.next (χ it) false o.type).run P w=.ok (.tuple #[.bool true,k,v]) w'/\K (.tuple #[.bool true,k,v]) w')
 | .next it true=>(∃ w',(Instr.next (χ it) true o.type).run P w=.ok (.tuple #[.bool false]) w'/\K (.tuple #[.bool false]) w') \/
  (∃ (k v:Int) (w':World),(Instr.next (χ it) true o.type).run P w=.ok (.tuple #[.bool true,.int .i64 k,.int .i32 v]) w'/\K (.tuple #[.bool true,.int .i64 k,.int .i32 v]) w')
 | .entry it=>SA P ex 0 λk=>SA P ex 1 λv=>∃ w',(Instr.entry (χ it)).run P w=.ok (.tuple #[k,v]) w'/\K (.tuple #[k,v]) w'
 | .convert src dst x=>zA P o.type λv=>∃ w',(convert src dst (χ x)).run P w=.ok v w'/\K v w'
 | .call c =>
  match c.callee with
  | .builtin b=>zA P o.type λv=>∃ w',(builtin b c.argTypes o.type (c.args.toList.map fun | .const _=>true|_=>false).toArray (c.args.toList.map χ).toArray).run P w=.ok (.value v) w'/\K v w'
  | .value f =>
   match χ f with
   | .func (.func fid) first captured =>
    match P.funcs[fid]? with
    | some fn=>if fn.body.isSome=true/\(fn.name == "runtime.NumGoroutine")=false then (match aJH fn.name with|true=>a3S P fid (first.toList++c.args.toList.map χ++captured.toList).toArray w K|false=>Tj P fid (first.toList++c.args.toList.map χ++captured.toList).toArray w K) else zA P o.type λv=>∃ w',(callFunc fid (first.toList++c.args.toList.map χ++captured.toList).toArray).run P w=.ok (.value v) w'/\K v w'
    | none=>False
   | _=>False
  | _=>tC P K ((execOp χ o).run P w)
 | _=>tC P K ((execOp χ o).run P w)
theorem UZ{P ex o χ w K}(h:HB P ex o χ w K):tC P K ((execOp χ o).run P w):=by
 unfold HB at h;split at h
 case h_1 t x U hop =>
  split at h
  .rename_i b off hx;obtain ⟨w',h1,h2⟩:=aBN h;simp only [execOp,hop,hx,Instr.storeAt,Instr.sureAddr,Sem.run_bind,Sem.run_pure,Result.andThen,h1];exact h2
  .exact h.elim
 case h_2 t x hop =>
  simp only [execOp,hop,Instr.box,newVar,newRow,newObj,Sem.run_bind,Sem.run,Sem.run_pure,Result.andThen];exact h _ rfl
 case h_3 t hop =>
  split at h
  .rename_i z hz;simp only [execOp,hop,Instr.alloc,newVar,newRow,newObj,Sem.run_bind,Is hz,Sem.run,Sem.run_pure,Result.andThen];exact h _ rfl
  .exact h.elim
 case h_4 t parts hop =>
  rw [show (parts.toList.map λp=>(p.1,χ p.2))=(parts.map λ(i,x)=>(i,χ x)).toList by simp] at h;obtain ⟨v,h1,h2⟩:=aBL (w:=w) h;simp only [execOp,hop,Sem.run_bind,h1,Sem.run_pure,Result.andThen];exact h2
 case h_5 t n parts hop =>
  rw [show (parts.toList.map λp=>(p.1,χ p.2))=(parts.map λ(i,x)=>(i,χ x)).toList by simp] at h;obtain ⟨v,w',h1,h2⟩:=aBJ h;simp only [execOp,hop,Sem.run_bind,h1,Sem.run_pure,Result.andThen];exact h2
 case h_6 t l c hop =>
  obtain ⟨v,w',h1,h2⟩:=aBM h;simp only [execOp,hop,Sem.run_bind,h1,Sem.run_pure,Result.andThen];exact h2
 case h_7 t hop =>
  simp only [execOp,hop,Option.map_none,Instr.makeMap,newObj,Sem.run_bind,Sem.run,Sem.run_pure,Result.andThen];exact h _ rfl
 case h_8 t m k x hop =>
  obtain ⟨w',h1,h2⟩:=h;simp only [execOp,hop,Sem.run_bind,h1,Sem.run_pure,Result.andThen];exact h2
 case h_9 t m k hop =>
  split at h
  .obtain ⟨v,n,w',h1,h2⟩:=Ry h;simp only [execOp,hop,Sem.run_bind,h1,Sem.run_pure,Result.andThen];exact h2
  .exact h.elim
 case h_10 t m s x hop =>
  obtain ⟨w',h1,h2⟩:=h;simp only [execOp,hop,Sem.run_bind,h1,Sem.run_pure,Result.andThen];exact h2
 case h_11 t x hop =>
  obtain ⟨p,w',h1,h2⟩:=h;simp only [execOp,hop,Sem.run_bind,h1,Sem.run_pure,Result.andThen];exact h2
 case h_12 it hop =>
  rcases h with ⟨w',h1,h2⟩|⟨k,v,w',h1,h2⟩ <;>
  .simp only [execOp,hop,Sem.run_bind,h1,Sem.run_pure,Result.andThen];exact h2
 case h_13 it hop =>
  rcases h with ⟨w',h1,h2⟩|⟨k,v,w',h1,h2⟩ <;>
  .simp only [execOp,hop,Sem.run_bind,h1,Sem.run_pure,Result.andThen];exact h2
 case h_14 it hop =>
  obtain ⟨k,h⟩:=aB4 h;obtain ⟨v,w',h1,h2⟩:=aB4 h;simp only [execOp,hop,Sem.run_bind,h1,Sem.run_pure,Result.andThen];exact h2
 case h_15 src dst x hop =>
  obtain ⟨v,w',h1,h2⟩:=D6 h;simp only [execOp,hop,Sem.run_bind,h1,Sem.run_pure,Result.andThen];exact h2
 case h_16 c hop =>
  split at h
  .rename_i b hc;rw [mapA,mapA] at h;obtain ⟨v,w',h1,h2⟩:=D6 h;simp only [execOp,hop,resolve,hc,Sem.run_bind,Sem.run_pure,Result.andThen,invoke];have e:tC P K (.ok (.value v) w'):=h2;rw [<-h1] at e;exact e
  .rename_i f hc;split at h
   .rename_i fid first captured hf
    split at h
    .rename_i fn hfn;split at h
     .rename_i hb;rw [show (first.toList++c.args.toList.map χ++captured.toList).toArray=first++c.args.map χ++captured by apply Array.ext';simp] at h;have h1:Calls P fid (first++c.args.map χ++captured) w λe w'=>∃ v,e=.returned v/\K v w':=by
       split at h
       .exact aH7 h
       .exact aH8 h
      have hb':fn.body.isNone=false:=by cases hh:fn.body<;>simp_all
      simp only [execOp,hop,resolve,hc,Sem.run_bind,Deferred.ofValue,hf,Sem.run_pure,Result.andThen,invoke,callFunc,program,Sem.run,hfn,hb.2,hb',Bool.false_eq_true,if_false];exact h1
     .rw [show (first.toList++c.args.toList.map χ++captured.toList).toArray=first++c.args.map χ++captured by apply Array.ext';simp] at h;obtain ⟨v,w',h1,h2⟩:=D6 h;simp only [execOp,hop,resolve,hc,Sem.run_bind,Deferred.ofValue,hf,Sem.run_pure,Result.andThen,invoke,h1];exact h2
    .exact h.elim
   .exact h.elim
  .exact h
 case h_17=>exact h
def nx(P:Program)(f:FuncId):Bool:=match P.funcs[f]? with|some fn=>fn.body.isSome && !(fn.name == "runtime.NumGoroutine")|none=>false
def On(cs:List Value):Prop:=∀ c∈cs,ga c=true
def Pk(P:Program)(ex:Nat->Option TypeId)(o:Oper)(χ:Operand->Value)(w:World)(K:Value->World->Prop):Prop :=
 match o.op with
 | .store t x U=>match χ x with
  | .pointer (some ⟨b,off,none⟩) =>
   match P.underlying t,P.info? t with
   | some d,some i=>match we d with
    | true=>match χ U with
     | .agg cs=>match Nat.beq cs.toList.length i.size with
      | true=>On cs.toList/\au w b off i.size/\∀ w',w'=w.setCells b off cs.toList->K undef w'
      | false=>False
     | _=>False
    | false=>match Nat.beq i.size 1 with
     | true=>On [χ U]/\au w b off 1/\∀ w',w'=w.setCell ⟨b,off,none⟩ (χ U)->K undef w'
     | false=>False
   | _,_=>False
  | _=>False
 | .call c =>
  match c.callee with
  | .value f =>
   match χ f with
   | .func (.func fid) first captured =>
    nx P fid=true/\Calls P fid (first.toList++c.args.toList.map χ++captured.toList).toArray w λe w'=>zA P o.type λv=>e=.returned v/\K v w'
   | _=>False
  | _=>HB P ex o χ w K
 | _=>HB P ex o χ w K
theorem aHu{P ex o χ w K}(h:Pk P ex o χ w K):tC P K ((execOp χ o).run P w):=by
 unfold Pk at h;split at h
 case h_1 t x U hop =>
  split at h
  .rename_i b off hx;split at h
   .rename_i d i hd hi;have key:∃ w',(storeVar t ⟨b,off,none⟩ (χ U)).run P w=.ok () w'/\K undef w':=by
     split at h
     .split at h
      .rename_i cs hy;split at h
       .rename_i hn;obtain ⟨h1,h2,h3⟩:=h;refine aBN (P:=P) (t:=t) (K:=λw'=>K undef w') ?_;unfold SG;rw [hi,hy];simp only;have hall:cs.toList.all ga=true:=List.all_eq_true.2 h1;rw [hn,hall];exact ⟨h2,h3⟩
       .exact h.elim
      .exact h.elim
     .split at h
      .rename_i hn;obtain ⟨h1,h2,h3⟩:=h;have h0:ga (χ U)=true:=h1 _ (by simp);obtain ⟨h4,h5⟩:=h2 0 (by omega);exact ⟨_,YZ hi (Nat.eq_of_beq_eq_true hn) h0 h4 h5,h3 _ rfl⟩
      .exact h.elim
    obtain ⟨w',h1,h2⟩:=key;simp only [execOp,hop,hx,Instr.storeAt,Instr.sureAddr,Sem.run_bind,Sem.run_pure,Result.andThen,h1];exact h2
   .exact h.elim
  .exact h.elim
 case h_2 c hop =>
  split at h
  .rename_i f hc;split at h
   .rename_i fid first captured hf
    obtain ⟨h0,h⟩:=h;unfold nx at h0;split at h0
    .rename_i fn hfn;simp only [Bool.and_eq_true,Bool.not_eq_true'] at h0;rw [show (first.toList++c.args.toList.map χ++captured.toList).toArray=first++c.args.map χ++captured by apply Array.ext';simp] at h;have hb':fn.body.isNone=false:=by cases hh:fn.body<;>simp_all
     simp only [execOp,hop,resolve,hc,Sem.run_bind,Deferred.ofValue,hf,Sem.run_pure,Result.andThen,invoke,callFunc,program,Sem.run,hfn,h0.2,hb',Bool.false_eq_true,if_false];exact h.mono λe w' h=>D6 h
    .cases h0
   .exact h.elim
  .exact UZ h
 case h_3=>exact UZ h
structure Fr where
 n:Nat
 l:List (Nat × Value)
def mE(i:Nat):List (Nat × Value)->Value
 | []=>zG
 | (t,v) :: r=>match Nat.beq t i with|true=>v|false=>mE i r
def Fr.get(s:Fr)(i:Nat):Value:=mE i s.l
def Fr.eval(s:Fr):Operand->Value
 | .tmp t=>mE t s.l
 | .const v=>v
 | .global g=>.pointer (some ⟨g,0,none⟩)
 | .func f=>.func (.func f) #[] #[]
def Fr.put(s:Fr)(d:Option Tmp)(v:Value):Fr :=
 match d with
 | some t=>match Nat.blt t s.n with
  | true=>⟨s.n,(t,v) :: s.l⟩
  | false=>s
 | none=>s
theorem Q0(s:Fr)(d v i):(s.put d v).get i=if d=some i/\i<s.n then v else s.get i:=by
 cases d with
 | none=>simp [Fr.put]
 | some t =>
  unfold Fr.put;simp only;cases h:Nat.blt t s.n with
  | true =>
   simp only [Fr.get,mE];have ht:t<s.n:=by simpa [Nat.blt_eq] using h
   cases hb:Nat.beq t i with
   | true=>have:t=i:=Nat.eq_of_beq_eq_true hb;subst this;simp [ht]
   | false=>have:t≠i:=Nat.ne_of_beq_eq_false hb;simp [this]
  | false =>
   have ht:¬ t<s.n:=by
    intro hh;have h2:Nat.blt t s.n=true:=by rw [Nat.blt_eq];exact hh
    rw [h2] at h;cases h
   simp only;rw [if_neg];rintro ⟨e,hi⟩;cases e;exact ht hi
theorem Ur(s:Fr)(d v):(s.put d v).n=s.n:=by
 cases d with
 | none=>rfl
 | some t=>unfold Fr.put;simp only;split<;>rfl
structure ku(ds:List Deferred)(s:Fr)(a:Act):Prop where
 defers:a.defers=ds
 size:a.tmps.size=s.n
 slot:∀ i,fG (s.get i)=false->a.tmps.getD i undef=s.get i
theorem ku.eval{s a}(h:ku ds s a){x}(hx:fG (s.eval x)=false):a.eval x=s.eval x:=by
 cases x with
 | tmp t=>exact h.slot t hx
 | const v=>rfl
 | global g=>rfl
 | func f=>rfl
theorem X'(a:Act)(d v i):
  (a.put d v).tmps.getD i undef=if d=some i/\i<a.tmps.size then v else a.tmps.getD i undef:=by
 cases d with
 | none=>simp [Act.put]
 | some d =>
  simp only [Act.put,Option.some.injEq,Array.getD_eq_getD_getElem?];by_cases h:d=i
  .subst h;by_cases hd:d<a.tmps.size
   .simp [hd]
   .simp [hd]
  .rw [Array.getElem?_setIfInBounds_ne h];simp [h]
theorem a92(a:Act)(d v):(a.put d v).tmps.size=a.tmps.size:=by cases d<;>simp [Act.put]
theorem put_defers(a:Act)(d v):(a.put d v).defers=a.defers:=by cases d<;>rfl
theorem ku.put{s a}(h:ku ds s a)(d){u v}(huv:fG u=false->v=u):ku ds (s.put d u) (a.put d v):=by
 refine ⟨by rw [put_defers];exact h.defers,by rw [a92,Ur];exact h.size,λi hi=>?_⟩;rw [Q0] at hi ⊢;rw [X',h.size];split at hi
 .rename_i hc;rw [if_pos hc,if_pos hc];exact huv hi
 .rename_i hc;rw [if_neg hc,if_neg hc];exact h.slot i hi
def FV(s:Fr)(o:Oper):Bool:=o.op.operands.toList.all λx => !fG (s.eval x)
def yq(o:Oper):Bool:=match o.op with | .select _ _=>false|_=>true
theorem LB{s a}(h:ku ds s a){o}(ho:FV s o=true)(hs:yq o=true):execOp a.eval o=execOp s.eval o:=by
 refine execOp_congr o (λcs b e=>by simp [yq,e] at hs) λx hx=>h.eval ?_;have:=List.all_eq_true.1 ho x (by simpa using hx);simpa using this
def γ(c:Bool)(A B:Prop):Prop:=match c with|true=>A|false=>B
theorem γ.intro{c A B}(h1:c=true->A)(h2:c=false->B):γ c A B:=by cases c;exact h2 rfl;exact h1 rfl
def Td(s:Fr)(d:Option Tmp):Option Bool :=
 match d with
 | some d=>match mE d s.l with
  | .bool c=>some c
  | _=>none
 | none=>none
def FY(P:Program)(wr:Bool)(ex:Nat->Option TypeId)(o:Oper)(s:Fr)(w:World)(K:Value->World->Prop):Prop :=
 match o.op with
 | .pick c x U=>match s.eval c with
  | .bool b=>γ b (K (s.eval x) w) (K (s.eval U) w)
  | _=>False
 | _=>if FV s o=true/\yq o=true then
   match o6 P wr o s.eval w none λv=>K v w with
   | some p=>p
   | none=>match wr with
    | true=>Pk P ex o s.eval w K
    | false=>HB P ex o s.eval w K
  else False
theorem Oper.JR{P o a w next Q}(h:tC P (λv w'=>next (a.put o.dst v) w') ((execOp a.eval o).run P w)):o.wp P a w next Q:=by
 unfold Oper.wp;generalize (execOp a.eval o).run P w=r at *;cases r with
 | ok n w' =>
  cases n<;>simp only [tC,Oper.upon] at h ⊢ <;> try exact h
  exact h.mono λe w'' ⟨v,he,hk⟩=>by subst he;exact hk
 | halt x w'=>exact h.elim
theorem aGv{s a}(h:ku ds s a){d c}(hc:Td s d=some c):∃ k,d=some k/\k<a.tmps.size/\a.tmps.getD k undef=.bool c/\s.get k=.bool c:=by
 unfold Td at hc;split at hc
 .rename_i k;split at hc
  .rename_i c' hv;cases hc;have nE:s.get k=.bool c:=hv;have e:=h.slot k (by rw [nE];rfl);refine ⟨k,rfl,?_,by rw [e,nE],nE⟩;rcases Nat.lt_or_ge k a.tmps.size with h'|h'
   .exact h'
   .rw [Array.getD_eq_getD_getElem?,Array.getElem?_eq_none h'] at e;rw [nE] at e;cases e
  .cases hc
 .cases hc
theorem aOc{a:Act}{k v}(h:k<a.tmps.size)(hv:a.tmps.getD k undef=v):a.put (some k) v=a:=by
 cases a with
 | mk t d =>
  simp only [Act.put]
  congr 1
  apply Array.ext
  .simp
  .intro i h1 h2;rw [Array.getElem_setIfInBounds];split
   .rename_i e;subst e;simp at hv h;simpa [h] using hv.symm
   .rfl
def bn(D:Nat->Prop)(s s':Fr):Prop:=s'.n=s.n/\∀ i,¬ D i->fG (s'.get i)=false->s'.get i=s.get i
theorem bn.refl(D s):bn D s s:=⟨rfl,λ_ _ _=>rfl⟩
theorem bn.trans{D a b c}(h:bn D a b)(k:bn D b c):bn D a c:=⟨k.1.trans h.1,λi hi hu=>by
 have e:=k.2 i hi hu;rw [e] at hu ⊢;exact h.2 i hi hu⟩
theorem bn.mono{D D' a b}(h:bn D a b)(hD:∀ i,D i->D' i):bn D' a b:=⟨h.1,λi hi=>h.2 i λhd=>hi (hD i hd)⟩
theorem bn.put{D a b}(h:bn D a b){d:Option Tmp}(hd:∀ t,d=some t->D t)(v):bn D a (b.put d v):=by
 refine ⟨by rw [Ur];exact h.1,λi hi=>?_⟩;rw [Q0,if_neg (by rintro ⟨e,_⟩;exact hi (hd i e))];exact h.2 i hi
end Go.Vc
end

section
namespace Go.Vc
variable {ds:List Deferred}
open Go.RowKit
structure uC where
 slot:Nat
 g:Option Bool
 chain:List (Nat × Bool)
def nj(es:List uC)(t:Nat):Option uC:=es.find? λe=>e.slot == t
def aAg(a b:List (Nat × Bool)):Bool:=a.all λp=>b.contains p
def z6(es:List uC)(ch:List (Nat × Bool))(s:Fr)(x:Operand):Bool :=
 match x with
 | .tmp t => !fG (s.eval (.tmp t))&&(match nj es t with|some e=>aAg e.chain ch|none=>true)
 | _=>true
def Us(g:Option Bool)(c:Bool):Option Bool:=match g with|none=>some c|some g=>some (g&&c)
def a0K(want c:Bool):Bool:=match want with|true=>c|false => !c
def guardOf(ops:Array Oper)(es:List uC)(s:Fr)(o:Oper):Option (Option Bool × List (Nat × Bool)) :=
 match o.guard with
 | none=>some (none,[])
 | some (j,want) =>
  match (ops[j]?).bind (·.dst) with
  | some d=>match nj es d,mE d s.l with
   | some e,.bool c=>some (Us e.g (a0K want c),(d,want) :: e.chain)
   | _,_=>none
  | none=>none
def nW(d:Bool)(w:World):World->Prop:=λw'=>match d with|true=>∃ n,w'=w.drewN n|false=>w'=w
theorem nW.heap{d w w'}(h:nW d w w'):w'.heap=w.heap:=by
 cases d
 .exact congrArg World.heap h
 .obtain ⟨n,rfl⟩:=h;rfl
def Y6(P:Program)(d:Bool)(o:Oper)(χ:Operand->Value)(w:World)(g:Option Bool)(K:Value->Prop):Prop :=
 match o.op with
 | .call c=>match c.callee with
  | .value f=>match χ f with
   | .func (.func fid) first captured =>
    match P.funcs[fid]? with
    | some fn=>if fn.body.isSome=true/\(fn.name == "runtime.NumGoroutine")=false then
      Nd P fn.resultTypes.toList λvs=>hY g (∀ w',nW d w w'->Calls P fid (first.toList++c.args.toList.map χ++captured.toList).toArray w' λe w''=>e=.returned (zF vs)/\nW d w w'')/\K (zF vs)
     else False
    | none=>False
   | _=>False
  | _=>False
 | _=>False
def Ul(c:Operand)(b:Bool)(ch:List (Nat × Bool)):List (Nat × Bool):=match c with | .tmp t=>(t,b) :: ch|_=>ch
def J4(P:Program)(wr:Bool)(d:Bool)(es:List uC)(o:Oper)(s:Fr)(w:World)(g:Option Bool)(ch:List (Nat × Bool))(K:Value->Prop):Prop :=
 match o.op with
 | .pick c x U =>
  if z6 es ch s c=true then
   match s.eval c with
   | .bool b =>
    if z6 es (Ul c true ch) s x=true/\z6 es (Ul c false ch) s U=true then
     match x,U,s.eval x,s.eval U with
     | .const (.bool true),_,_,.bool q=>K (.bool (b||q))
     | _,.const (.bool false),.bool q,_=>K (.bool (b&&q))
     | _,_,u,v=>K (if b=true then u else v)
    else False
   | _=>False
  else False
 | _=>if o.op.operands.toList.all (z6 es ch s)=true/\yq o=true then
   match o6 P wr o s.eval w g K with
   | some p=>p
   | none=>Y6 P d o s.eval w g K
  else False
def sx(f:Nat->Bool):List (Nat × Value)->List (Nat × Value)
 | []=>[]
 | (t,v) :: r=>match f t with|true=>(t,v) :: sx f r|false=>sx f r
theorem HF(f i):∀ (l:List (Nat × Value)),mE i (sx f l)=if f i=true then mE i l else zG
 | []=>by simp [sx,mE]
 | (t,v) :: r=>by
  unfold sx;cases h:f t with
  | true =>
   simp only [mE];cases hb:Nat.beq t i with
   | true=>have:=Nat.eq_of_beq_eq_true hb;subst this;simp [h]
   | false=>simp only;exact HF f i r
  | false =>
   simp only [mE];rw [HF f i r];cases hb:Nat.beq t i with
   | true=>have:=Nat.eq_of_beq_eq_true hb;subst this;simp [h]
   | false=>rfl
def Em(es:List uC)(t:Nat):Bool:=match nj es t with
 | some e=>(match e.g with|some _=>false|none=>true)
 | none=>true
def forget(es:List uC)(s:Fr):Fr:=⟨s.n,sx (Em es) s.l⟩
def Holds(s:Fr)(ch:List (Nat × Bool)):Prop:=∀ p∈ch,s.get p.1=.bool p.2
structure Rel(ds:List Deferred)(es:List uC)(s:Fr)(a:Act):Prop where
 defers:a.defers=ds
 size:a.tmps.size=s.n
 slot:∀ i,match nj es i with
  | none=>fG (s.get i)=false->a.tmps.getD i undef=s.get i
  | some e=>(fu e.g->fG (s.get i)=false->a.tmps.getD i undef=s.get i)/\(¬ fu e.g->a.tmps.getD i undef=undef)
 chain:∀ i e,nj es i=some e->(fu e.g ↔ Holds s e.chain)/\∀ p∈e.chain,(nj es p.1).isSome=true
theorem Holds.sub{s a b}(h:Holds s b)(hs:aAg a b=true):Holds s a:=λp hp=>by
 have:=List.all_eq_true.1 hs p hp;exact h p (by simpa using this)
theorem D3{es s a ch x}(h:z6 es ch s x=true)(hr:Rel ds es s a)(hc:Holds s ch):a.eval x=s.eval x:=by
 cases x with
 | tmp t =>
  simp only [z6,Bool.and_eq_true,Bool.not_eq_true'] at h;obtain ⟨h1,h2⟩:=h;have h3:=hr.slot t;cases hf:nj es t with
  | none=>rw [hf] at h3;exact h3 h1
  | some e =>
   rw [hf] at h2 h3;have hg:=(hr.chain t e hf).1.2 (hc.sub h2);exact h3.1 hg h1
 | const v=>rfl
 | global g=>rfl
 | func f=>rfl
theorem a4Z{g c}:fu (Us g c) ↔ fu g/\c=true:=by
 cases g<;>simp [Us,fu]
theorem aJk{ops es s a o g ch}(h:guardOf ops es s o=some (g,ch))(hr:Rel ds es s a):
  (Region.wanted o (yielded ops a.tmps)=true ↔ fu g)/\(fu g ↔ Holds s ch)/\∀ p∈ch,(nj es p.1).isSome=true:=by
 unfold guardOf at h;split at h
 .rename_i hg;cases h;refine ⟨by simp [Region.wanted,hg,fu],⟨λ_ p hp=>(by cases hp),λ_=>trivial⟩,λp hp=>(by cases hp)⟩
 .rename_i j want hg;split at h
  .rename_i d hd;split at h
   .rename_i e c he hc;cases h;obtain ⟨h1,h2⟩:=hr.chain d e he;have h3:=hr.slot d;rw [he] at h3;have hy:fu e.g->yielded ops a.tmps j=some c:=by
     intro hge;have ji:s.get d=.bool c:=hc;have h4:=h3.1 hge (by rw [ji];rfl);rw [ji] at h4;unfold yielded;rw [hd];simp only [Option.bind_some];rw [Array.getD_eq_getD_getElem?] at h4;rcases Nat.lt_or_ge d a.tmps.size with h'|h'
     .simp only [h',getElem?_pos,Option.getD_some] at h4;simp [h',h4]
     .rw [Array.getElem?_eq_none h'] at h4;cases h4
    have hn:¬ fu e.g->yielded ops a.tmps j=none:=by
     intro hge;have h4:=h3.2 hge;unfold yielded;rw [hd];simp only [Option.bind_some];rw [Array.getD_eq_getD_getElem?] at h4;rcases Nat.lt_or_ge d a.tmps.size with h'|h'
     .simp only [h',getElem?_pos,Option.getD_some] at h4;simp [h',h4,undef]
     .rw [Array.getElem?_eq_none h']
    have CC:a0K want c=true ↔ c=want:=by cases want<;>cases c<;>simp [a0K]
    refine ⟨?_,?_,?_⟩
    .rw [a4Z,CC];by_cases hge:fu e.g
     .simp [Region.wanted,hg,hy hge,hge]
     .simp [Region.wanted,hg,hn hge,hge]
    .rw [a4Z,CC,h1];constructor
     .rintro ⟨ha,rfl⟩ p hp;rcases List.mem_cons.1 hp with rfl|hp
      .exact hc
      .exact ha p hp
     .intro ha;refine ⟨λp hp=>ha p (List.mem_cons_of_mem _ hp),?_⟩;have:=ha (d,want) (by simp);simp only at this;rw [show s.get d=.bool c from hc] at this;cases this;rfl
    .intro p hp;rcases List.mem_cons.1 hp with rfl|hp
     .simp [he]
     .exact h2 p hp
   .cases h
  .cases h
theorem Uo(es e i):nj (e :: es) i=if e.slot=i then some e else nj es i:=by
 unfold nj;rw [List.find?_cons];by_cases h:e.slot=i
 .simp [h]
 .simp [h,show (e.slot == i)=false by simpa using h]
theorem Rel.put{es s a}(hr:Rel ds es s a){t g ch u v}(hn:(nj es t).isNone=true)(ht:t<s.n)(hg:fu g ↔ Holds s ch)(uh:∀ p∈ch,(nj es p.1).isSome=true)(h1:fu g->fG u=false->v=u)(h2:¬ fu g->v=undef):
  Rel ds (⟨t,g,ch⟩ :: es) (s.put (some t) u) (a.put (some t) v):=by
 have hne:∀ i,(nj es i).isSome=true->t≠i:=by
  rintro i hi rfl;cases hf:nj es t<;>simp [hf] at hn hi
 have hsa:∀ i,i≠t->(s.put (some t) u).get i=s.get i:=λi hi=>by rw [Q0,if_neg (by rintro ⟨h,_⟩;cases h;exact hi rfl)]
 have aJx:∀ i,i≠t->(a.put (some t) v).tmps.getD i undef=a.tmps.getD i undef:=λi hi=>by rw [X',if_neg (by rintro ⟨h,_⟩;cases h;exact hi rfl)]
 have hst:(s.put (some t) u).get t=u:=by rw [Q0,if_pos ⟨rfl,ht⟩]
 have HX:(a.put (some t) v).tmps.getD t undef=v:=by rw [X',if_pos ⟨rfl,by rw [hr.size];exact ht⟩]
 have hold:∀ ch',(∀ p∈ch',(nj es p.1).isSome=true)->(Holds s ch' ↔ Holds (s.put (some t) u) ch'):=by
  intro ch' hc;constructor
  .intro h p hp;rw [hsa _ (λe=>hne _ (hc p hp) e.symm)];exact h p hp
  .intro h p hp;rw [<-hsa p.1 (λe=>hne _ (hc p hp) e.symm)];exact h p hp
 refine ⟨by rw [put_defers];exact hr.defers,by rw [a92,Ur];exact hr.size,λi=>?_,λi e he=>?_⟩
 .rw [Uo];by_cases hi:t=i
  .subst hi;rw [if_pos rfl];simp only;rw [hst,HX];exact ⟨h1,h2⟩
  .rw [if_neg hi,hsa i (λe=>hi e.symm),aJx i (λe=>hi e.symm)];exact hr.slot i
 .rw [Uo] at he;have hs':∀ p:Nat × Bool,(nj es p.1).isSome=true->(nj (⟨t,g,ch⟩ :: es) p.1).isSome=true:=by
   intro p hp;rw [Uo];split;rfl;exact hp
  split at he
  .cases he;exact ⟨hg.trans (hold ch uh),λp hp=>hs' p (uh p hp)⟩
  .obtain ⟨h3,h4⟩:=hr.chain i e he;exact ⟨h3.trans (hold e.chain h4),λp hp=>hs' p (h4 p hp)⟩
theorem aOo{P d o χ w g K}(h:Y6 P d o χ w g K):
  ∃ v,(fu g->∀ w',nW d w w'->Oper.quietUpon P (nW d w) w' v ((execOp χ o).run P w'))/\K v:=by
 unfold Y6 at h;split at h
 .rename_i c hop;split at h
  .rename_i f hc;split at h
   .rename_i fid first captured hf
    split at h
    .rename_i fn hfn;split at h
     .rename_i hb;rw [show (first.toList++c.args.toList.map χ++captured.toList).toArray=first++c.args.map χ++captured by apply Array.ext';simp] at h;obtain ⟨vs,h1,h2⟩:=Rz h;refine ⟨_,λhg w' hw=>?_,h2⟩;have h3:=ke h1 hg w' hw;have hb':fn.body.isNone=false:=by cases hh:fn.body<;>simp_all
      simp only [execOp,hop,resolve,hc,Sem.run_bind,Deferred.ofValue,hf,Sem.run_pure,Result.andThen,invoke,callFunc,program,Sem.run,hfn,hb.2,hb',Bool.false_eq_true,if_false];exact ⟨rfl,h3⟩
     .exact h.elim
    .exact h.elim
   .exact h.elim
  .exact h.elim
 .exact h.elim
theorem aQA{P wr d es o s a w g ch K}(h:J4 P wr d es o s w g ch K)(hr:Rel ds es s a)(hg:fu g ↔ Holds s ch):
  ∃ u,(fu g->∃ v,(fG u=false->v=u)/\∀ w',nW d w w'->o.quietAt P a (nW d w) w' v)/\K u:=by
 unfold J4 at h;split at h
 .rename_i c x U hop;split at h
  .rename_i hc;split at h
   .rename_i b hb;split at h
    .rename_i hxy;have main:fu g->∃ v,(v=if b=true then s.eval x else s.eval U)/\∀ w',nW d w w'->o.quietAt P a (nW d w) w' v:=by
      intro gv;have hh:=hg.1 gv;have ji:a.eval c=.bool b:=by rw [D3 hc hr hh,hb]
      have ext:∀ (b':Bool),b=b'->Holds s (Ul c b' ch):=by
       intro b' e;subst e;cases c<;>try exact hh
       rename_i t;intro p hp;rcases List.mem_cons.1 hp with rfl|hp
       .exact hb
       .exact hh p hp
      refine ⟨_,rfl,λw' _=>?_⟩;unfold Oper.quietAt;simp only [execOp,hop,ji,asBool,Sem.run_bind,Sem.run_pure,Result.andThen,Oper.quietUpon];refine ⟨trivial,?_⟩;cases b with
      | true =>
       have:=D3 (x:=x) hxy.1 hr (ext true rfl);simpa using this
      | false =>
       have:=D3 (x:=U) hxy.2 hr (ext false rfl);simpa using this
     split at h
     .rename_i y' u q hy;refine ⟨_,λgv=>?_,h⟩;obtain ⟨v,hv,hq⟩:=main gv;refine ⟨v,λ_=>?_,hq⟩;rw [hv];cases b
      .simpa using hy
      .rfl
     .rename_i x' u q hx _;refine ⟨_,λgv=>?_,h⟩;obtain ⟨v,hv,hq⟩:=main gv;refine ⟨v,λ_=>?_,hq⟩;rw [hv];cases b
      .rfl
      .simpa using hx
     .refine ⟨_,λgv=>?_,h⟩;obtain ⟨v,hv,hq⟩:=main gv;exact ⟨v,λ_=>hv,hq⟩
    .exact h.elim
   .exact h.elim
  .exact h.elim
 .split at h
  .rename_i ho;have hex:fu g->execOp a.eval o=execOp s.eval o:=by
    intro gv;refine execOp_congr o (λcs b e=>by have:=ho.2;simp [yq,e] at this) λx hx=>D3 (List.all_eq_true.1 ho.1 x (by simpa using hx)) hr (hg.1 gv)
   split at h
   .rename_i p hp;obtain ⟨v,h1,h2⟩:=a9A hp h;refine ⟨v,λgv=>⟨v,λ_=>rfl,λw' hw=>?_⟩,h2⟩;unfold Oper.quietAt;rw [hex gv,h1 gv w' hw.heap];exact ⟨rfl,rfl⟩
   .obtain ⟨v,h1,h2⟩:=aOo h;refine ⟨v,λgv=>⟨v,λ_=>rfl,λw' hw=>?_⟩,h2⟩;unfold Oper.quietAt;rw [hex gv];exact h1 gv w' hw
  .exact h.elim
theorem a4W(es s i):(forget es s).get i=if Em es i=true then s.get i else zG:=HF _ _ _
theorem Rel.done{es s a}(hr:Rel ds es s a):ku ds (forget es s) a:=by
 refine ⟨hr.defers,hr.size,λi hi=>?_⟩;rw [a4W] at hi ⊢;split at hi
 .rename_i hf;rw [if_pos hf];have h3:=hr.slot i;unfold Em at hf;cases he:nj es i with
  | none=>rw [he] at h3;exact h3 hi
  | some e =>
   rw [he] at h3 hf;simp only at hf;have hg:fu e.g:=by cases aT0:e.g<;>simp_all [fu]
   exact h3.1 hg hi
 .cases hi
theorem aJZ{D s0 es s}(h:bn D s0 s):bn D s0 (forget es s):=by
 refine ⟨h.1,λi hi hu=>?_⟩;rw [a4W] at hu ⊢;split at hu
 .rename_i hf;rw [if_pos hf];exact h.2 i hi hu
 .cases hu
theorem a0N{P ops C Qa Q}(hQ:∀ a w,C w->Qa a->Q .normal a w):
  ∀ (l:List Oper) (a:Act) (w:World),C w->wpQuiet P ops C Qa l a->wpList P ops Q l a w
 | [],a,w,hw,h=>hQ a w hw h
 | o :: rest,a,w,hw,h=>by
  unfold wpQuiet at h;unfold wpList;split
  .rename_i dV;rw [if_pos dV] at h;exact .inl (Oper.wp_of_quiet hw (λa' w' hw' ha=>a0N hQ rest a' w' hw' ha) h)
  .rename_i dV;rw [if_neg dV] at h;exact a0N hQ rest _ _ hw h
theorem Rel.start{s a}(h:ku ds s a):Rel ds [] s a:=⟨h.defers,h.size,λi=>h.slot i,λi e he=>(by cases he)⟩
end Go.Vc
end

section
namespace Go.Vc
variable {ds:List Deferred}
def gU(Q:Exit->Act->World->Prop):Exit->Act->World->Prop
 | .panic _,_,_=>False
 | e,a,w=>Q e a w
theorem aHB{Q}:∀ e a w,gU Q e a w->Q e a w:=λe a w h=>by
 cases e<;>first|exact h|exact h.elim
end Go.Vc
end

section
namespace Go.Vc
variable {ds:List Deferred}
section
variable {P:Program}{ops:Array Oper}{Q:Exit->Act->World->Prop}{md:Region.Mode}{S:World->Prop}{E:Array Bool->Prop}{K:Act->World->Prop}
def sQ(P:Program)(md:Region.Mode)(ops:Array Oper)(Q:Exit->Act->World->Prop)(S:World->Prop)(E:Array Bool->Prop)(K:Act->World->Prop):Nat->Array Bool->Act->World->Prop
 | 0,listed,a,w=>E listed/\K a w
 | n+1,listed,a,w=>Region.ready md ops listed≠[]/\∀ i∈Region.ready md ops listed,wpOp P ops Q i (λa' w'=>S w'/\sQ P md ops Q S E K n (listed.setIfInBounds i true) a' w') a w
theorem Sb{m}(hK:∀ listed a w,E listed->K a w->wpAny P md ops Q m listed a w):∀ (n:Nat) (listed:Array Bool) (a:Act) (w:World),sQ P md ops Q S E K n listed a w->wpAny P md ops Q (n+m) listed a w
 | 0,listed,a,w,h=>by rw [Nat.zero_add];exact hK listed a w h.1 h.2
 | n+1,listed,a,w,h=>by
  rw [show n+1+m=(n+m)+1 by omega];exact ⟨λh0=>absurd h0 h.1,λi hi=>wpOp_mono (λa' w' h'=>Sb hK n _ a' w' h'.2) (h.2 i hi)⟩
theorem aS0{i oi v}(hi:ops[i]? = some oi)(hsel:∀ (j:Nat) (o:Oper) cs b,ops[j]? = some o->o.op≠.select cs b)(hQ:∀ c a w,Q (.panic c) (a.put oi.dst v) w->Q (.panic c) a w)(hE:∀ listed,E (listed.setIfInBounds i true)->i∈Region.ready md ops listed->∀ j∈Region.ready md ops listed,j=i):
  ∀ (n:Nat) (listed:Array Bool) (a:Act) (w:World),
   (∀ j oj,ops[j]? = some oj->j≠i->listed.getD j true=false->(∀ e∈oj.after,Region.binds md e=true->e.on≠i)->oi.apart ops oj=true) ->
   i∈Region.ready md ops listed->YieldsIf P ops S oi v a->S w ->
   sQ P md ops Q S E K n (listed.setIfInBounds i true) (a.put oi.dst v) w->sQ P md ops Q S E K (n+1) listed a w:=by
 intro n
 induction n with
 | zero =>
  intro listed a w _ hr hy hS H;refine ⟨λh=>(by rw [h] at hr;cases hr),λj hj=>?_⟩;have:=hE listed H.1 hr j hj;subst this;exact hy.wpOp hi hS ⟨hS,H⟩
 | succ n ih =>
  intro listed a w hfree hr hy hS H;refine ⟨λh=>(by rw [h] at hr;cases hr),λj hj=>?_⟩;by_cases hji:j=i
  .subst hji;exact hy.wpOp hi hS ⟨hS,H⟩
  .have h1:=H.2 j (ready_mono hj hji);obtain ⟨CI,oj,xD,hall⟩:=mem_ready.1 hj;have hnot:∀ e∈oj.after,Region.binds md e=true->e.on≠i:=λe he hb heq=>by
    have h1:=hall e he hb;have h0:=(mem_ready.1 hr).1;rw [heq] at h1;rcases Nat.lt_or_ge i listed.size with h'|h'
    .simp [h'] at h0 h1;rw [h0] at h1;cases h1
    .simp [Array.getElem?_eq_none h'] at h1
   have h2:=wpOp_putIf xD (hfree j oj xD hji CI hnot) (λcs b=>hsel i oi cs b hi) (λcs b=>hsel j oj cs b xD) hQ hy h1;have Lr:∀ k ok,ops[k]? = some ok->k≠i->(listed.setIfInBounds j true).getD k true=false ->
     (∀ e∈ok.after,Region.binds md e=true->e.on≠i)->oi.apart ops ok=true:=λk ok hk hki hun hno=>by
    refine hfree k ok hk hki ?_ hno;by_cases tI:j=k
    .subst tI;exact CI
    .rw [getD_set_ne true tI] at hun;exact hun
   refine wpOp_mono (λa' w' h3=>⟨h3.2.1,ih (listed.setIfInBounds j true) a' w' Lr (ready_mono hr (Ne.symm hji)) h3.1 h3.2.1 ?_⟩) h2;rw [Array.setIfInBounds_comm _ _ hji];exact h3.2.2
end
def MN(ops:Array Oper)(T:List Nat)(fin:Array Bool):Bool:=T.all λi=>Region.ready .any ops (fin.setIfInBounds i false) == [i]
def eH:List Nat->Array Bool->Array Bool
 | [],l=>l
 | i :: r,l=>eH r (l.setIfInBounds i true)
def sC(ops:Array Oper):List Nat->Array Bool->Bool
 | [],_=>true
 | i :: r,listed=>(Region.ready .any ops listed).contains i&&Region.free .any ops listed i&&sC ops r (listed.setIfInBounds i true)
section
variable {P:Program}{ops:Array Oper}{Q:Exit->Act->World->Prop}{md:Region.Mode}{S:Array Bool->World->Prop}{rd:Nat->Bool}{E:Array Bool->Prop}{K:Act->World->Prop}
def qJ(P:Program)(md:Region.Mode)(ops:Array Oper)(Q:Exit->Act->World->Prop)(S:Array Bool->World->Prop)(rd:Nat->Bool)(E:Array Bool->Prop)(K:Act->World->Prop):Nat->Array Bool->Act->World->Prop
 | 0,listed,a,w=>E listed/\K a w
 | n+1,listed,a,w=>Region.ready md ops listed≠[]/\∀ i∈Region.ready md ops listed,wpOp P ops Q i (λa' w'=>S (listed.setIfInBounds i true) w'/\(rd i=true->w'=w)/\qJ P md ops Q S rd E K n (listed.setIfInBounds i true) a' w') a w
theorem a0M(hK:∀ listed a w,E listed->K a w->wpAny P md ops Q 0 listed a w):∀ (n:Nat) (listed:Array Bool) (a:Act) (w:World),qJ P md ops Q S rd E K n listed a w->wpAny P md ops Q n listed a w
 | 0,listed,a,w,h=>hK listed a w h.1 h.2
 | n+1,listed,a,w,h=>⟨λh0=>absurd h0 h.1,λi hi=>wpOp_mono (λa' w' h'=>a0M hK n _ a' w' h'.2.2) (h.2 i hi)⟩
theorem aRz{i oi v}(hi:ops[i]? = some oi)(hsel:∀ (j:Nat) (o:Oper) cs b,ops[j]? = some o->o.op≠.select cs b)(hQ:∀ c a w,Q (.panic c) (a.put oi.dst v) w->Q (.panic c) a w)(hE:∀ listed,E (listed.setIfInBounds i true)->i∈Region.ready md ops listed->∀ j∈Region.ready md ops listed,j=i)(a5J:∀ x w,i∈Region.ready md ops x->S x w->S (x.setIfInBounds i true) w)(hmono:∀ (x:Array Bool) (j:Nat) (w w':World),i∈Region.ready md ops x->j∈Region.ready md ops x->j≠i->S x w->(rd j=true->w'=w)->S ((x.setIfInBounds i true).setIfInBounds j true) w'->S (x.setIfInBounds j true) w'):
  ∀ (n:Nat) (listed:Array Bool) (a:Act) (w:World),
   (∀ j oj,ops[j]? = some oj->j≠i->listed.getD j true=false->(∀ e∈oj.after,Region.binds md e=true->e.on≠i)->oi.apart ops oj=true) ->
   i∈Region.ready md ops listed->YieldsIf P ops (λw=>∃ x,i∈Region.ready md ops x/\S x w) oi v a->S listed w ->
   qJ P md ops Q S rd E K n (listed.setIfInBounds i true) (a.put oi.dst v) w->qJ P md ops Q S rd E K (n+1) listed a w:=by
 intro n
 induction n with
 | zero =>
  intro listed a w _ hr hy hS H;refine ⟨λh=>(by rw [h] at hr;cases hr),λj hj=>?_⟩;have:=hE listed H.1 hr j hj;subst this;exact hy.wpOp hi ⟨listed,hr,hS⟩ ⟨a5J _ _ hr hS,λ_=>rfl,H⟩
 | succ n ih =>
  intro listed a w hfree hr hy hS H;refine ⟨λh=>(by rw [h] at hr;cases hr),λj hj=>?_⟩;by_cases hji:j=i
  .subst hji;exact hy.wpOp hi ⟨listed,hr,hS⟩ ⟨a5J _ _ hr hS,λ_=>rfl,H⟩
  .have h1:=H.2 j (ready_mono hj hji);obtain ⟨CI,oj,xD,hall⟩:=mem_ready.1 hj;have hnot:∀ e∈oj.after,Region.binds md e=true->e.on≠i:=λe he hb heq=>by
    have h1:=hall e he hb;have h0:=(mem_ready.1 hr).1;rw [heq] at h1;rcases Nat.lt_or_ge i listed.size with h'|h'
    .simp [h'] at h0 h1;rw [h0] at h1;cases h1
    .simp [Array.getElem?_eq_none h'] at h1
   have h2:=wpOp_putIf xD (hfree j oj xD hji CI hnot) (λcs b=>hsel i oi cs b hi) (λcs b=>hsel j oj cs b xD) hQ hy h1;have Lr:∀ k ok,ops[k]? = some ok->k≠i->(listed.setIfInBounds j true).getD k true=false ->
     (∀ e∈ok.after,Region.binds md e=true->e.on≠i)->oi.apart ops ok=true:=λk ok hk hki hun hno=>by
    refine hfree k ok hk hki ?_ hno;by_cases tI:j=k
    .subst tI;exact CI
    .rw [getD_set_ne true tI] at hun;exact hun
   refine wpOp_mono (λa' w' h3=>?_) h2;obtain ⟨hy',aJv,hrd,dr⟩:=h3;have a4y:=hmono listed j w w' hr hj hji hS hrd aJv;refine ⟨a4y,hrd,ih (listed.setIfInBounds j true) a' w' Lr (ready_mono hr (Ne.symm hji)) hy' a4y ?_⟩;rw [Array.setIfInBounds_comm _ _ hji];exact dr
end
end Go.Vc
end

section
namespace Go.Vc
variable {ds:List Deferred}
open Go.RowKit
abbrev fB:=List (Nat × lO)
def dG.Arg(α:Type):dG->Type
 | .int _=>Int->α
 | .bool=>Bool->α
 | .str=>ByteArray->α
 | .ptr=>Option Addr->α
 | .slice=>Option Addr->Nat->Nat->α
 | .map=>Option Nat->α
 | .fn=>FuncId->Array Value->Array Value->α
 | .any=>Value->α
 | .Bt=>Nat->Nat->α
def PG(α:Type):List dG->Type
 | []=>α
 | s :: r=>dG.Arg (PG α r) s
def lO.Arg(α:Type):lO->Type
 | .one s=>s.Arg α
 | .agg l=>PG α l
def fA(χ:Type):fB->Type
 | []=>χ
 | (_,s) :: r=>s.Arg (fA χ r)
def dG.app{α:Type}:(s:dG)->s.Arg α->Value->Option α
 | .int k,f,.int k' n=>if k=k' then some (f n) else none
 | .bool,f,.bool b=>some (f b)
 | .str,f,.string s=>some (f s)
 | .ptr,f,.pointer p=>some (f p)
 | .slice,f,.slice p n c=>some (f p n c)
 | .map,f,.map r=>some (f r)
 | .fn,f,.func (.func g) a c=>some (f g a c)
 | .any,f,v=>match fG v with|true=>none|false=>some (f v)
 | .Bt,f,.pointer (some ⟨b,o,none⟩)=>some (f b o)
 | _,_,_=>none
def Gv{α:Type}:(l:List dG)->PG α l->List Value->Option α
 | [],x,[]=>some x
 | s :: r,f,v :: vs=>match s.app f v with
  | some g=>Gv r g vs
  | none=>none
 | _,_,_=>none
def lO.app{α:Type}:(s:lO)->s.Arg α->Value->Option α
 | .one s,f,v=>s.app f v
 | .agg l,f,.agg cs=>Gv l f cs.toList
 | _,_,_=>none
def fA.app{χ:Type}:(l:fB)->fA χ l->List Value->Option χ
 | [],x,[]=>some x
 | (_,s) :: r,f,v :: vs=>match s.app f v with
  | some g=>fA.app r g vs
  | none=>none
 | _,_,_=>none
def dG.all:dG->(Value->Prop)->Prop
 | .int k,K=>∀ n:Int,K (.int k n)
 | .bool,K=>∀ b:Bool,K (.bool b)
 | .str,K=>∀ s:ByteArray,K (.string s)
 | .ptr,K=>∀ p:Option Addr,K (.pointer p)
 | .slice,K=>∀ p:Option Addr,∀ n c:Nat,K (.slice p n c)
 | .map,K=>∀ r:Option Nat,K (.map r)
 | .fn,K=>∀ (f:FuncId) (a c:Array Value),K (.func (.func f) a c)
 | .any,K=>∀ v:Value,K v
 | .Bt,K=>∀ b o:Nat,K (.pointer (some ⟨b,o,none⟩))
def TS:List dG->(List Value->Prop)->Prop
 | [],K=>K []
 | s :: r,K=>s.all λv=>TS r λvs=>K (v :: vs)
def lO.all:lO->(Value->Prop)->Prop
 | .one s,K=>s.all K
 | .agg l,K=>TS l λvs=>K (.agg vs.toArray)
def fB.all:fB->(List Value->Prop)->Prop
 | [],K=>K []
 | (_,s) :: r,K=>s.all λv=>fB.all r λvs=>K (v :: vs)
theorem dG.vg{α}{s:dG}{f:s.Arg α}{v x}(h:s.app f v=some x){K}(hK:s.all K):K v/\fG v=false:=by
  cases s
  case fn =>
    cases v
    case func g a c=>cases g<;>simp only [dG.app] at h<;>first|(cases h;done)|exact ⟨hK _ _ _,rfl⟩
    all_goals simp only [dG.app] at h;cases h
  case Bt =>
    cases v
    case pointer p =>
      rcases p with _|⟨b,o,s⟩
      · simp only [dG.app] at h;cases h
      · cases s with
        | none=>exact ⟨hK _ _,rfl⟩
        | some s=>simp only [dG.app] at h;cases h
    all_goals simp only [dG.app] at h;cases h
  all_goals
   cases v<;>simp only [dG.app,fG] at h<;>first
    | (cases h;done)
    | exact ⟨hK _,rfl⟩
    | exact ⟨hK _ _ _,rfl⟩
    | (split at h
       · rename_i e;subst e;exact ⟨hK _,rfl⟩
       · cases h)
    | (split at h
       · cases h
       · rename_i hu;exact ⟨hK _,hu⟩)
theorem a2V{α}:∀ {l:List dG} {f:PG α l} {vs:List Value} {x:α},Gv l f vs=some x->∀ {K:List Value->Prop},TS l K->K vs
 | [],_,[],_,_,_,hK=>hK
 | s :: r,f,v :: vs,x,h,K,hK=>by
  unfold Gv at h;split at h
  .rename_i g hg;exact a2V h (dG.vg hg hK).1
  .cases h
 | [],_,_ :: _,_,h,_,_=>by simp [Gv] at h
 | _ :: _,_,[],_,h,_,_=>by simp [Gv] at h
theorem lO.vg{α}{s:lO}{f:s.Arg α}{v x}(h:s.app f v=some x){K}(hK:s.all K):K v/\fG v=false:=by
 unfold lO.app at h;split at h
 .exact dG.vg h hK
 .rename_i cs;have:=a2V h hK;exact ⟨by simpa using this,rfl⟩
 .cases h
theorem fA.vg{χ}:∀ {l:fB} {f:fA χ l} {vs:List Value} {x:χ},fA.app l f vs=some x->∀ {K:List Value->Prop},fB.all l K->K vs/\vs.length=l.length/\∀ v∈vs,fG v=false
 | [],_,[],_,_,_,hK=>⟨hK,rfl,λv hv=>(by cases hv)⟩
 | (t,s) :: r,f,v :: vs,x,h,K,hK=>by
  unfold fA.app at h;split at h
  .rename_i g hg;obtain ⟨h1,h2⟩:=lO.vg hg hK;obtain ⟨h3,h4,h5⟩:=fA.vg h h1;refine ⟨h3,by simp [h4],λu hu=>?_⟩;rcases List.mem_cons.1 hu with rfl|hu
   .exact h2
   .exact h5 u hu
  .cases h
 | [],_,_ :: _,_,h,_,_=>by simp [fA.app] at h
 | _ :: _,_,[],_,h,_,_=>by simp [fA.app] at h
def eE{α:Type}(p:α->Prop):Prop:=∃ x,p x
theorem fD{α p}(x:α)(h:p x):eE p:=⟨x,h⟩
def slotsOf(l:fB)(s:Fr):List Value:=l.map λv=>mE v.1 s.l
def c6(t:Nat):List Nat->Bool
 | []=>false
 | x :: r=>match Nat.beq t x with|true=>true|false=>c6 t r
theorem s4{t}:∀ {l:List Nat},c6 t l=true ↔ t∈l
 | []=>by simp [c6]
 | x :: r=>by
  unfold c6;cases h:Nat.beq t x with
  | true=>have:=Nat.eq_of_beq_eq_true h;simp [this]
  | false=>have:=Nat.ne_of_beq_eq_false h;simp [this,s4]
def Fr.drop(s:Fr)(asg:List Nat):Fr:=⟨s.n,sx (λt => !c6 t asg) s.l⟩
def Fr.keep(s:Fr)(k:Option (List Nat)):Fr:=match k with|none=>s|some k=>⟨s.n,sx (λt=>c6 t k) s.l⟩
theorem U5(s:Fr)(asg i):(s.drop asg).get i=if i∈asg then zG else s.get i:=by
 simp only [Fr.drop,Fr.get,HF];by_cases h:i∈asg
 .have:c6 i asg=true:=s4.2 h;simp [h,this]
 .have:c6 i asg=false:=by cases hm:c6 i asg;rfl;exact absurd (s4.1 hm) h
  simp [h,this]
theorem aMJ{s a}(h:ku ds s a)(k):ku ds (s.keep k) a:=by
 cases k with
 | none=>exact h
 | some k =>
  refine ⟨h.defers,h.size,λi hi=>?_⟩;simp only [Fr.keep,Fr.get,HF] at hi ⊢;split at hi
  .rename_i hc;rw [if_pos hc];exact h.slot i hi
  .cases hi
theorem aMK{D s0 s}(h:bn D s0 s)(k):bn D s0 (s.keep k):=by
 cases k with
 | none=>exact h
 | some k =>
  refine ⟨h.1,λi hi hu=>?_⟩;simp only [Fr.keep,Fr.get,HF] at hu ⊢;split at hu
  .rename_i hc;rw [if_pos hc];exact h.2 i hi hu
  .cases hu
def KZ:fB->List Value->List (Nat × Value)->List (Nat × Value)
 | (t,_) :: r,v :: vs,s=>(t,v) :: KZ r vs s
 | _,_,s=>s
def Fj(l:fB)(vs:List Value)(s:Fr):Fr:=⟨s.n,KZ l vs s.l⟩
theorem a8x(t sh)(r:fB)(v vs s i):
  (Fj ((t,sh) :: r) (v :: vs) s).get i=if t=i then v else (Fj r vs s).get i:=by
 simp only [Fj,Fr.get,KZ,mE];cases hb:Nat.beq t i with
 | true=>simp [Nat.eq_of_beq_eq_true hb]
 | false=>simp [Nat.ne_of_beq_eq_false hb]
theorem aHr{D l s}:bn D s (s.drop l) :=
 ⟨rfl,λi _ hu=>by
  rw [U5] at hu ⊢;split at hu
  .cases hu
  .rename_i hc;rw [if_neg hc]⟩
theorem a8z{D s0}:∀ {l:fB} {vs:List Value} {s:Fr},(∀ v∈l,D v.1)->bn D s0 s->bn D s0 (Fj l vs s)
 | [],_,_,_,h=>h
 | _ :: _,[],_,_,h=>h
 | (t,sh) :: r,v :: vs,s,hl,h=>by
  have ih:=a8z (l:=r) (vs:=vs) (λx hx=>hl x (List.mem_cons_of_mem _ hx)) h;refine ⟨ih.1,λi hi=>?_⟩;rw [a8x,if_neg (by rintro rfl;exact hi (hl (t,sh) (by simp)))];exact ih.2 i hi
def meet(asg:List Nat)(l:fB)(vs:List Value)(s:Fr):Fr:=Fj l vs (s.drop asg)
theorem a6z{D asg l vs s}(h2:∀ v∈l,D v.1):bn D s (meet asg l vs s) :=
 a8z h2 aHr
theorem a8y{s a}:∀ {l:fB} {vs:List Value},ku ds s a->(∀ (j:Nat) t sh v,l[j]? = some (t,sh)->vs[j]? = some v->a.tmps.getD t undef=v)->ku ds (Fj l vs s) a
 | [],_,h,_=>h
 | _ :: _,[],h,_=>h
 | (t,sh) :: r,v :: vs,h,hv=>by
  have ih:=a8y (l:=r) (vs:=vs) h (λj t' aPx v' h1 h2=>hv (j+1) t' aPx v' (by simpa using h1) (by simpa using h2));have h0:=hv 0 t sh v (by simp) (by simp);refine ⟨ih.defers,ih.size,λi hi=>?_⟩;rw [a8x] at hi ⊢;split at hi
  .rename_i e;subst e;rw [if_pos rfl];exact h0
  .rename_i e;rw [if_neg e];exact ih.slot i hi
def Qx(s':Fr):List (Nat × Value)->Bool
 | []=>true
 | (t,_) :: r=>match fG (mE t s'.l) with|true=>false|false=>Qx s' r
def a6f(asg:List Nat)(s s':Fr):Bool:=Qx s' (s.drop asg).l
theorem Wj{s' i}:∀ {l:List (Nat × Value)},Qx s' l=true->fG (mE i l)=false->fG (s'.get i)=false
 | [],_,h=>by cases h
 | (t,v) :: r,hk,h=>by
  unfold Qx at hk;split at hk
  .cases hk
  .rename_i hu;unfold mE at h;split at h
   .rename_i hb;have:=Nat.eq_of_beq_eq_true hb;subst this;exact hu
   .exact Wj hk h
theorem aML{asg}{s:Fr}{i}(h:fG ((s.drop asg).get i)=false):fG (s.get i)=false:=by
 rw [U5] at h;split at h
 .cases h
 .exact h
theorem X0{s s' a asg l vs}(hs:ku ds s' a)(hu:bn (λt=>t∈asg) s s')(hsub:∀ i,fG ((s.drop asg).get i)=false->fG (s'.get i)=false)(hvs:vs=slotsOf l s')(hk:∀ v∈vs,fG v=false):ku ds (meet asg l vs s) a:=by
 have h1:ku ds (s.drop asg) a:=by
  refine ⟨hs.defers,by rw [hs.size,hu.1];rfl,λi hi=>?_⟩;have hk':=hsub i hi;rw [U5] at hi ⊢;split at hi
  .cases hi
  .rename_i hm;rw [if_neg hm,hs.slot i hk'];exact hu.2 i hm hk'
 refine a8y h1 λj t sh v h2 h3=>?_;subst hvs;simp only [slotsOf,List.getElem?_map,h2,Option.map_some,Option.some.injEq] at h3;rw [<-h3];have:fG (s'.get t)=false:=by
  show fG (mE t s'.l)=false;rw [h3];exact hk v (by rw [<-h3];exact List.mem_map.2 ⟨(t,sh),List.mem_of_getElem? h2,rfl⟩)
 exact hs.slot t this
def HI:Code->Nat
 | .region id _ _=>id
 | .seq a b=>HI a
 | .block _ b=>HI b
 | .loop b=>HI b
 | _=>100000
def Ea(l:List Oper):List Nat:=l.filterMap (·.dst)
def asg:Code->List Nat
 | .region _ ops _=>Ea ops.toList
 | .seq a b=>asg a++asg b
 | .cond _ a b=>asg a++asg b
 | .block _ b=>asg b
 | .loop b=>asg b
 | .scope b=>asg b
 | _=>[]
def guarded(l:List Oper):Bool:=l.any λo=>o.guard.isSome
def RB:List Nat->Bool
 | []=>true
 | x :: r => !c6 x r&&RB r
theorem a7P:∀ {l:List Nat},RB l=true->l.Nodup
 | [],_=>List.nodup_nil
 | x :: r,h=>by
  simp only [RB,Bool.and_eq_true,Bool.not_eq_true'] at h;refine List.nodup_cons.2 ⟨λhm=>?_,a7P h.2⟩;rw [s4.2 hm] at h;cases h.1
def SE(asg:List Nat)(l:fB)(s:Fr):Bool:=List.all l (λv=>c6 v.1 asg&&Nat.blt v.1 s.n)&&RB (l.map (·.1))
def a7b(P:Program)(ops:Array Oper):Bool:=P.follows .mixedOrders&&Region.lexB .any ops
theorem aBI{asg l s}(h:SE asg l s=true):(∀ v∈l,v.1∈asg/\v.1<s.n)/\(l.map (·.1)).Nodup:=by
 simp only [SE,Bool.and_eq_true] at h;refine ⟨λv hv=>?_,a7P h.2⟩;have:=List.all_eq_true.1 h.1 v hv;simp only [Bool.and_eq_true] at this;exact ⟨s4.1 this.1,by have h2:=this.2;rw [Nat.blt_eq] at h2;exact h2⟩
def EP:Nat->List Value->List (Nat × Value)
 | _,[]=>[]
 | i,v :: r=>(i,v) :: EP (i+1) r
def LI(fn:Func)(args:Array Value):Fr:=⟨max fn.ntmps args.size,EP 0 args.toList⟩
theorem a2f(i):∀ (l:List Value) (k:Nat),mE i (EP k l)=if k<=i then l.getD (i - k) zG else zG
 | [],k=>by simp [EP,mE]
 | v :: r,k=>by
  unfold EP mE;cases hb:Nat.beq k i with
  | true=>have:=Nat.eq_of_beq_eq_true hb;subst this;simp
  | false =>
   have hne:=Nat.ne_of_beq_eq_false hb;simp only;rw [a2f i r (k+1)];by_cases h:k<=i
   .rw [if_pos h,if_pos (by omega),show i - k=(i - (k+1))+1 by omega];simp
   .rw [if_neg h,if_neg (by omega)]
theorem aJb(fn args):ku [] (LI fn args) { tmps:=args++Array.replicate (fn.ntmps - args.size) undef,defers:=[] }:=by
 refine ⟨rfl,by simp [LI];omega,λi hi=>?_⟩;simp only [LI,Fr.get,a2f] at hi ⊢;simp only [Nat.zero_le,if_true,Nat.sub_zero] at hi ⊢;by_cases h:i<args.size
 .simp [Array.getD_eq_getD_getElem?,Array.getElem?_append,h]
 .rw [List.getD_eq_getElem?_getD,List.getElem?_eq_none (by simpa using h)] at hi;cases hi
theorem aQq{vs:List Value}:(if h:vs.toArray.size=1 then vs.toArray[0] else Value.tuple vs.toArray)=zF vs:=by
 match vs with
 | []=>rfl
 | [v]=>rfl
 | _ :: _ :: _=>rfl
end Go.Vc
end

section
namespace Go.Vc
open Go.RowKit
def dc(w:World)(b:Nat)(cs:List Value)(t:TypeId):Prop:=w.heap[b]? = some (.cells cs.toArray t (0,0))
theorem dc.cell{w b cs t}(h:dc w b cs t)(i):w.cell? ⟨b,i,none⟩=cs[i]? := by
 unfold dc at h;simp [World.cell?,h]
theorem dc.EV{w b cs t}(h:dc w b cs t){i v}(hv:cs[i]? = some v):w.cell? ⟨b,i,none⟩=some v:=by rw [h.cell,hv]
theorem dc.frozen{w b cs t}(h:dc w b cs t)(i):w.frozen? ⟨b,i,none⟩=false:=by
 unfold dc at h;simp [World.frozen?,h]
theorem dc.can{w b cs t}(h:dc w b cs t){o n}(hn:o+n<=cs.length):au w b o n:=by
 intro j hj;refine ⟨?_,h.frozen _⟩;rw [h.cell];simp;omega
theorem dc.row{w b cs t}(h:dc w b cs t){o vs}(hv:∀ j,(hj:j<vs.length)->cs[o+j]? = some vs[j]):bS w b o vs:=by
 intro j hj;rw [h.cell,hv j hj]
theorem dc.oW{w b cs t}(h:dc w b cs t):bS w b 0 cs:=h.row λj hj=>by simp
theorem dc.same{w w' b cs t}(h:dc w b cs t)(e:w'.heap[b]? = w.heap[b]?):dc w' b cs t:=e.trans h
theorem dc.aGQ(w:World)(cs t):dc (w.alloc (.cells cs.toArray t)) w.heap.size cs t:=by
 unfold dc;show (w.heap.push _)[w.heap.size]? = _;simp
theorem Ly(w:World)(o):(w.alloc o).heap[w.heap.size]? = some o:=by
 show (w.heap.push _)[w.heap.size]? = _;simp
theorem aL3(w:World)(o){k}(h:k<w.heap.size):(w.alloc o).heap[k]? = w.heap[k]? := Below.heap_alloc _ _ _ h
theorem a5b(w:World)(a u){k}(h:k≠a.block):(w.setCell a u).heap[k]? = w.heap[k]? := Below.heap_setCell _ _ _ _ h
theorem dc.set{w b cs t}(h:dc w b cs t)(i v):dc (w.setCell ⟨b,i,none⟩ v) b (cs.set i v) t:=by
 unfold dc at h ⊢;simp only [World.setCell,Array.getElem?_modify,h];simp
theorem a5c(b){k}(h:k≠b):∀ (vs:List Value) (o:Nat) (w:World),(w.setCells b o vs).heap[k]? = w.heap[k]?
 | [],_,_=>rfl
 | v :: r,o,w=>by
  unfold World.setCells;rw [a5c b h r,a5b _ _ _ h]
theorem aAG(b):∀ (vs:List Value) (o:Nat) (w:World),(w.setCells b o vs).heap.size=w.heap.size
 | [],_,_=>rfl
 | v :: r,o,w=>by
  unfold World.setCells;rw [aAG b r,World.size_setCell]
def gd(cs:List Value)(o:Nat):List Value->List Value
 | []=>cs
 | v :: r=>gd (cs.set o v) (o+1) r
theorem dc.sets{b t}:∀ (vs:List Value) {w:World} {cs:List Value} (o:Nat),dc w b cs t->dc (w.setCells b o vs) b (gd cs o vs) t
 | [],_,_,_,h=>h
 | v :: r,_,_,o,h=>by
  unfold World.setCells gd;exact dc.sets r (o+1) (h.set o v)
structure bZ(S:List Nat)(w w':World):Prop where
 os:w'.os=w.os
 tape:w'.tape=w.tape
 output:w'.output=w.output
 size:w.heap.size<=w'.heap.size
 block:∀ k,k<w.heap.size->k ∉ S->w'.heap[k]? = w.heap[k]?
theorem bZ.refl(S w):bZ S w w:=⟨rfl,rfl,rfl,Nat.le_refl _,λ_ _ _=>rfl⟩
theorem bZ.trans{S T a b c}(h:bZ S a b)(k:bZ T b c)(hT:∀ x∈T,x∈S\/a.heap.size<=x):bZ S a c :=
 ⟨k.os.trans h.os,k.tape.trans h.tape,k.output.trans h.output,Nat.le_trans h.size k.size,λi hi hS =>
  (k.block i (Nat.lt_of_lt_of_le hi h.size) (λhm=>by rcases hT i hm with h|h;exact hS h;omega)).trans (h.block i hi hS)⟩
theorem bZ.step{S a b c}(h:bZ S a b)(k:bZ [] b c):bZ S a c:=h.trans k (by simp)
theorem bZ.mono{S T a b}(h:bZ S a b)(aJw:∀ x∈S,x∈T):bZ T a b:=⟨h.os,h.tape,h.output,h.size,λk hk hT=>h.block k hk λhm=>hT (aJw k hm)⟩
theorem bZ.alloc{S a w}(h:bZ S a w)(o):bZ S a (w.alloc o) :=
 h.step ⟨rfl,rfl,rfl,by simp,λ_ hk _=>aL3 _ _ hk⟩
theorem bZ.setCell{S a w}(h:bZ S a w){p}(hp:p.block∈S\/a.heap.size<=p.block)(u):bZ S a (w.setCell p u) :=
 h.trans (T:=[p.block]) ⟨rfl,rfl,rfl,by simp,λ_ _ hn=>a5b _ _ _ (by simpa using hn)⟩ (by simpa using hp)
theorem Ru(b):∀ (vs:List Value) (o:Nat) (w:World),(w.setCells b o vs).os=w.os/\(w.setCells b o vs).tape=w.tape/\(w.setCells b o vs).output=w.output
 | [],_,_=>⟨rfl,rfl,rfl⟩
 | v :: r,o,w=>by unfold World.setCells;exact Ru b r (o+1) _
theorem bZ.setCells{S a w}(h:bZ S a w){b}(hb:b∈S\/a.heap.size<=b)(o vs):bZ S a (w.setCells b o vs) :=
 h.trans (T:=[b]) ⟨(Ru b vs o w).1,(Ru b vs o w).2.1,(Ru b vs o w).2.2,by rw [aAG];exact Nat.le_refl _,λ_ _ hn=>a5c b (by simpa using hn) vs o w⟩ (by simpa using hb)
theorem bZ.drewN{S a w}(h:bZ S a w)(n):bZ S a (w.drewN n):=⟨h.os,h.tape,h.output,h.size,h.block⟩
def oX(w:World)(b:Nat)(o:Obj):World:={ w with heap:=w.heap.setIfInBounds b o }
theorem aL4(w){b k}(o)(h:k≠b):(oX w b o).heap[k]? = w.heap[k]? := by
 simp only [oX];rw [Array.getElem?_setIfInBounds_ne (by omega)]
theorem aL5(w){b}(o)(h:b<w.heap.size):(oX w b o).heap[b]? = some o:=by
 simp [oX,h]
theorem aQ1(w b o):(oX w b o).heap.size=w.heap.size:=by simp [oX]
theorem bZ.oX{S a w}(h:bZ S a w){b}(hb:b∈S\/a.heap.size<=b)(o):bZ S a (oX w b o) :=
 h.trans (T:=[b]) ⟨rfl,rfl,rfl,by rw [aQ1];exact Nat.le_refl _,λ_ _ hn=>aL4 _ _ (by simpa using hn)⟩ (by simpa using hb)
theorem bZ.below{S B w w'}(h:bZ S w w')(hB:B<=w.heap.size)(hS:∀ x∈S,B<=x):Below B w w' :=
 ⟨h.os,h.tape,h.output,h.size,λk hk=>h.block k (by omega) λhm=>by have:=hS k hm;omega⟩
theorem bZ.cell{S w w'}(h:bZ S w w'){b o v}(hc:w.cell? ⟨b,o,none⟩=some v)(hS:b ∉ S):w'.cell? ⟨b,o,none⟩=some v:=by
 have hlt:b<w.heap.size:=by
  rcases Nat.lt_or_ge b w.heap.size with h'|h'
  .exact h'
  .simp [World.cell?,Array.getElem?_eq_none h'] at hc
 rw [World.cell?_of_block (w:=w) (h.block b hlt hS)];exact hc
theorem a3V{P f args w}{J:Value->World->Prop}{R}(h:Calls P f args w λe w'=>∃ v,e=.returned v/\J v w')(hR:∀ v w',J v w'->R (.returned v) w'):Calls P f args w R :=
 h.mono λe w' ⟨v,he,hj⟩=>by subst he;exact hR v w' hj
end Go.Vc
end

section
namespace Go.Vc
open Go.ChangeShapes Go.WideShapes Go.ChangeAt Go.RowKit
section
variable {H:Type}{enc:TypeId × Value->H}{P:Program}
theorem aB2(hl:laidOutB P=true){W W'}(hb:Below W.heap.size W W'):
  ∀ {ts:List TypeId} {vs:List Value} {ds:List (DataW H)} {ps:List MemPlace},(ts.all λt=>P.readableRec t&&decide (t<P.types.size))=true ->
   DataW.TrodAll enc P W 0 (λ_=>true) true ts vs ds ps->(∀ x∈ps,x.block<W.heap.size) ->
   DataW.TrodAll enc P W' 0 (λb=>decide (b<W.heap.size)) true ts vs ds ps
 | [],_,_,_,_,h,_=>by
  obtain ⟨rfl,rfl,rfl⟩:=trodAll_nil h;exact trodAll_mk0
 | t :: ts,_,_,_,ht,h,hlt=>by
  obtain ⟨v,aBS,d,p7,a,b,rfl,rfl,rfl,h1,h2⟩:=trodAll_cons h;simp only [List.all_cons,Bool.and_eq_true,decide_eq_true_eq] at ht;exact ⟨a,b,Below.trod hl ht.1.1 ht.1.2 h1 hb (λx hx=>hlt x (List.mem_append.2 (.inl hx))),aB2 hl hb (by simpa using ht.2) h2 (λx hx=>hlt x (List.mem_append.2 (.inr hx))),rfl⟩
theorem aB3{w base spare held}:∀ {ts:List TypeId} {vs:List Value} {ds:List (DataW H)} {ps:List MemPlace},DataW.TrodAll enc P w base spare held ts vs ds ps->vs.length=ts.length/\ds.length=ts.length
 | [],_,_,_,h=>by
  obtain ⟨rfl,rfl,rfl⟩:=trodAll_nil h;exact ⟨rfl,rfl⟩
 | t :: ts,_,_,_,h=>by
  obtain ⟨v,aBS,d,p7,a,b,rfl,rfl,rfl,h1,h2⟩:=trodAll_cons h;have:=aB3 h2;simp [this]
end
section
variable {H:Type}{enc:TypeId × Value->H}{P:Program}{w:World}{base:Nat}{spare:Nat->Bool}{held:Bool}
theorem aHD{w:World}{a v}(h:w.cell? a=some v):a.spot=none:=by
 unfold World.cell? at h;split at h
 .split at h
  .cases h
  .rename_i hs;simpa using hs
 .cases h
end
end Go.Vc
end

section
namespace Go.Vc
open Go.ChangeShapes Go.WideShapes Go.RowKit
section
variable {H:Type}{enc:TypeId × Value->H}{P:Program}{w:World}{base:Nat}{spare:Nat->Bool}{held:Bool}
inductive GU where
 | int (k:IntKind)
 | bool
 | str
 | ptr
 | slice
 | map
def GU.fits:GU->Value->Prop
 | .int k,v=>∃ n,v=.int k n/\(Lit.int k n).wf=true
 | .bool,v=>∃ b,v=.bool b
 | .str,v=>∃ s,v=.string s/\s.size<=maxLen
 | .ptr,v=>∃ p,v=.pointer p
 | .slice,v=>∃ p n c,v=.slice p n c/\n<=c/\c<=maxLen/\(p=none->n=0)
 | .map,v=>∃ m,v=.map m
def Fits:List GU->List Value->Prop
 | [],[]=>True
 | k :: r,v :: vs=>k.fits v/\Fits r vs
 | _,_=>False
def a4O(fl:TypeId->Option (List GU)):List Field->Nat->Option (List GU)
 | [],_=>some []
 | f :: r,off=>match fl f.type with
  | some l=>match Nat.beq f.offset off,a4O fl r (off+l.length) with
   | true,some l'=>some (l++l')
   | _,_=>none
  | none=>none
def flat(P:Program):Nat->TypeId->Option (List GU)
 | 0,_=>none
 | d+1,t=>match P.underlying t with
  | some .bool=>some [.bool]
  | some (.int k)=>some [.int k]
  | some .string=>some [.str]
  | some (.pointer _)=>some [.ptr]
  | some (.slice _)=>some [.slice]
  | some (.map ..)=>some [.map]
  | some (.struct fs)=>match a4O (flat P d) fs.toList 0 with
   | some l=>if l.length=P.cellsOf t/\(fs.toList.all λf=>decide ((flat P d f.type).map (·.length)=some (P.cellsOf f.type)))=true then some l else none
   | none=>none
  | _=>none
theorem a6r{α β:Type}{f}:∀ {l:List α} {xs:List β},l.mapM f=some xs->∀ a∈l,∃ U,f a=some U
 | [],_,_,a,ha=>by cases ha
 | b :: r,xs,h,a,ha=>by
  rw [List.mapM_cons] at h;cases hb:f b with
  | none=>simp [hb] at h
  | some U =>
   cases hr:r.mapM f with
   | none=>simp [hb,hr] at h
   | some ys =>
    rcases List.mem_cons.1 ha with rfl|ha
    .exact ⟨U,hb⟩
    .exact a6r hr a ha
end
inductive gq where
 | int (k:IntKind)|bool|str|aNt
 | slice (e:gq)
 | pair (a b:gq)
def gq.size:gq->Nat
 | .pair a b=>a.size+b.size
 | _=>1
def AU(P:Program)(f:gq->TypeId->Bool):List Field->Nat->gq->Bool
 | [],_,_=>false
 | [x],off,ty=>Nat.beq x.offset off&&f ty x.type&&Nat.beq (P.cellsOf x.type) ty.size
 | x :: U :: r,off,.pair a b=>Nat.beq x.offset off&&f a x.type&&Nat.beq (P.cellsOf x.type) a.size&&AU P f (U :: r) (off+a.size) b
 | _,_,_=>false
def gq.is(P:Program):Nat->gq->TypeId->Bool
 | 0,_,_=>false
 | d+1,.int k,t=>match P.underlying t with|some (.int k')=>decide (k'=k)|_=>false
 | d+1,.bool,t=>match P.underlying t with|some .bool=>true|_=>false
 | d+1,.str,t=>match P.underlying t with|some .string=>true|_=>false
 | d+1,.aNt,t=>match P.underlying t with|some (.slice _)=>true|_=>false
 | d+1,.slice te,t=>match P.underlying t with|some (.slice e)=>gq.is P d te e&&Nat.beq (P.cellsOf e) te.size|_=>false
 | d+1,.pair a b,t=>match P.underlying t with
  | some (.struct fs)=>Nat.beq (P.cellsOf t) (gq.pair a b).size&&AU P (gq.is P d) fs.toList 0 (.pair a b)
  | _=>false
structure Step(M M':List Nat)(w w':World):Prop where
 qV:bZ M w w'
 sub:∀ b∈M',b∈M\/w.heap.size<=b
class O (Φ:List Nat->World->Prop):Prop where
 step:∀ {M M':List Nat} {w w':World},Step M M' w w'->Φ M w->Φ M' w'
structure Be(ty:gq)(α:Type)(rep:List Nat->World->List Value->α->Prop):Prop where
 ap:∀ {H:Type} {enc:TypeId × Value->H} {P:Program} {W:World} {d fuel:Nat} {t:TypeId} {cs:List Value} {x:DataW H × List MemPlace},
  gq.is P d ty t=true->DataW.trod enc P W 0 (λ_=>true) true fuel t cs=some x->∃ U:α,rep [] W cs U
structure a1N(ty:gq)(α:Type)(rep:List Nat->World->List Value->α->Prop):Prop where
 ap:∀ {H:Type} {enc:TypeId × Value->H} {P:Program} {W:World} {d fuel:Nat} {fs:List Field} {off:Nat} {cs:List Value},
  AU P (gq.is P d) fs off ty=true->(∀ f∈fs,∃ U,DataW.trod enc P W 0 (λ_=>true) true fuel f.type ((cs.drop f.offset).take (P.cellsOf f.type))=some U) ->
   off+ty.size=cs.length->∃ U:α,rep [] W (cs.drop off) U
class aB (α:Type) where
 ty:gq
 rep:List Nat->World->List Value->α->Prop
 len:∀ {M w cs x},rep M w cs x->cs.length=ty.size
 pos:0<ty.size
 pQ:∀ {M M':List Nat} {w w':World} {cs x},Step M M' w w'->rep M w cs x->rep M' w' cs x
 opens:Be ty α rep
 Cp:a1N ty α rep
theorem a7i{ty α rep}(ho:Be ty α rep){H}{enc:TypeId × Value->H}{P W d fuel f off}{cs:List Value}(h:AU P (gq.is P d) [f] off ty=true)(ht:∃ U,DataW.trod enc P W 0 (λ_=>true) true fuel f.type ((cs.drop f.offset).take (P.cellsOf f.type))=some U)(hl:off+ty.size=cs.length):∃ U:α,rep [] W (cs.drop off) U:=by
 simp only [AU,Bool.and_eq_true] at h;obtain ⟨⟨h1,h2⟩,h3⟩:=h;have h1:=Nat.eq_of_beq_eq_true h1;have h3:=Nat.eq_of_beq_eq_true h3;obtain ⟨U,hy⟩:=ht;rw [h1,h3,List.take_of_length_le (by simp;omega)] at hy;exact ho.ap h2 hy
theorem RH{ty α rep}(hp:∀ a b,ty≠.pair a b)(ho:Be ty α rep):a1N ty α rep:=by
 constructor;intro H enc P W d fuel fs off cs h ht hl
 match fs,h with
 | [f],h=>exact a7i ho h (ht f (by simp)) hl
 | f :: g :: r,h =>
  cases ty
  case pair=>exact absurd rfl (hp _ _)
  all_goals simp [AU] at h
theorem a5q:Be (.int .i64) Int (λ_ _ cs x=>cs=[.int .i64 x]/\κ x):=by
 constructor;intro H enc P W d fuel t cs x h hx;cases d with
 | zero=>simp [gq.is] at h
 | succ d =>
 cases fuel with
 | zero=>simp [DataW.trod] at hx
 | succ fuel =>
 unfold gq.is at h;split at h
 .rename_i k ht;have:k=.i64:=by simpa using h
  subst this;unfold DataW.trod at hx;rw [ht] at hx;split at hx<;>simp_all;rename_i k n hk;obtain ⟨⟨rfl,hw⟩,_⟩:=hx;simp only [Lit.wf,Bool.and_eq_true,decide_eq_true_eq] at hw;subst hk;simp [IntKind.min,IntKind.max,IntKind.signed,IntKind.bits] at hw;unfold κ;omega
 .cases h
instance goInt:aB Int where
 ty:=.int .i64
 rep _ _ cs x:=cs=[.int .i64 x]/\κ x
 len h:=by rw [h.1];rfl
 pos:=by decide
 pQ _ h:=h
 opens:=a5q
 Cp:=RH (ty:=.int .i64) (λ_ _ h=>by cases h) a5q
theorem a2o:Be .bool Bool (λ_ _ cs x=>cs=[.bool x]):=by
 constructor;intro H enc P W d fuel t cs x h hx;cases d with
 | zero=>simp [gq.is] at h
 | succ d =>
 cases fuel with
 | zero=>simp [DataW.trod] at hx
 | succ fuel =>
 unfold gq.is at h;split at h
 .rename_i ht;unfold DataW.trod at hx;rw [ht] at hx;split at hx<;>simp_all
 .cases h
instance aSm:aB Bool where
 ty:=.bool
 rep _ _ cs x:=cs=[.bool x]
 len h:=by rw [h];rfl
 pos:=by decide
 pQ _ h:=h
 opens:=a2o
 Cp:=RH (ty:=.bool) (λ_ _ h=>by cases h) a2o
theorem aAc:Be .str ByteArray (λ_ _ cs x=>cs=[.string x]/\x.size<=maxLen):=by
 constructor;intro H enc P W d fuel t cs x h hx;cases d with
 | zero=>simp [gq.is] at h
 | succ d =>
 cases fuel with
 | zero=>simp [DataW.trod] at hx
 | succ fuel =>
 unfold gq.is at h;split at h
 .rename_i ht;unfold DataW.trod at hx;rw [ht] at hx;split at hx<;>simp_all
 .cases h
instance aSp:aB ByteArray where
 ty:=.str
 rep _ _ cs x:=cs=[.string x]/\x.size<=maxLen
 len h:=by rw [h.1];rfl
 pos:=by decide
 pQ _ h:=h
 opens:=aAc
 Cp:=RH (ty:=.str) (λ_ _ h=>by cases h) aAc
def Δ{α:Type}[aB α](M:List Nat)(w:World)(p:Option Addr)(l:List α):Prop :=
 ∀ j,(hj:j<l.length)->∃ b o cs,p=some ⟨b,o,none⟩/\b ∉ M/\bS w b (o+j*(aB.ty α).size) cs/\aB.rep M w cs l[j]
theorem bZ.row{S w w'}(h:bZ S w w'){b o vs}(hc:bS w b o vs)(hS:b ∉ S):bS w' b o vs :=
 λj hj=>h.cell (hc j hj) hS
theorem a9X{w b o vs}(h:bS w b o vs)(hp:0<vs.length):b<w.heap.size:=by
 have h0:=h 0 hp;rcases Nat.lt_or_ge b w.heap.size with h'|h'
 .exact h'
 .simp [World.cell?,Array.getElem?_eq_none h'] at h0
theorem Δ.pQ{α}[aB α]{M M' w w' p}{l:List α}(hs:Step M M' w w')(h:Δ M w p l):Δ M' w' p l:=by
 intro j hj;obtain ⟨b,o,cs,h1,h2,h3,h4⟩:=h j hj;have hlt:=a9X h3 (by rw [aB.len h4];exact aB.pos);exact ⟨b,o,cs,h1,λhm=>by rcases hs.sub b hm with h|h;exact h2 h;omega,hs.qV.row h3 h2,aB.pQ hs h4⟩
def a9R{α:Type}[aB α](M:List Nat)(w:World)(cs:List Value)(l:List α):Prop :=
 ∃ p c,cs=[.slice p l.length c]/\l.length<=c/\c<=maxLen/\Δ M w p l
theorem Wp{α:Type}{p:Nat->α->Prop}:∀ (n:Nat),(∀ j,j<n->∃ x,p j x)->∃ l:List α,l.length=n/\∀ j,(hj:j<l.length)->p j l[j]
 | 0,_=>⟨[],rfl,λj hj=>by simp at hj⟩
 | n+1,h=>by
  obtain ⟨l,hl,hp⟩:=Wp n λj hj=>h j (by omega);obtain ⟨x,hx⟩:=h n (by omega);refine ⟨l++[x],by simp [hl],λj hj=>?_⟩;by_cases hj':j<l.length
  .rw [List.getElem_append_left hj'];exact hp j hj'
  .have:j=n:=by simp at hj;omega
   subst this;rw [List.getElem_append_right (by omega)];simpa [hl] using hx
theorem a6k{α}[aB α]:Be (.slice (aB.ty α)) (List α) a9R:=by
 constructor;intro H enc P W d fuel t cs x h hx;cases d with
 | zero=>simp [gq.is] at h
 | succ d =>
 unfold gq.is at h;split at h
 .rename_i e ht;simp only [Bool.and_eq_true] at h;obtain ⟨h1,h2⟩:=h;have hsz:=Nat.eq_of_beq_eq_true h2;rcases DataW.trod_slice ht hx with ⟨rfl,_⟩|⟨a,len,cap,elems,rest,m,_,rfl,_,_,hl,hm,hlen,hel,_⟩
  .exact ⟨[],none,0,rfl,by simp,by simp [maxLen],λj hj=>by simp at hj⟩
  .have spot:0<len->∃ b o,a=⟨b,o,none⟩:=by
    intro aL7;have h3:=hel 0 aL7;rw [List.getElem?_eq_getElem (by omega)] at h3;cases hcs:W.cells? 0 (a.add (0*P.cellsOf e)) (P.cellsOf e) with
    | none=>rw [hcs] at h3;cases h3
    | some cs =>
     rw [hcs] at h3;obtain ⟨U,hy⟩:=(aB.opens (α:=α)).ap h1 h3;obtain ⟨_,hn,h4⟩:=World.cells?_some hcs;have hp:=aB.len hy;have hpos:0<(aB.ty α).size:=aB.pos;have h5:=h4 0 (by omega);rw [List.getElem?_eq_getElem (by omega)] at h5;have h6:=aHD h5;obtain ⟨b,o,s⟩:=a;simp [Addr.add] at h6;subst h6;exact ⟨b,o,rfl⟩
   have key:∀ j,j<len->∃ U:α,∃ b o cs,some a=some ⟨b,o,none⟩/\b ∉ ([]:List Nat)/\bS W b (o+j*(aB.ty α).size) cs/\aB.rep [] W cs U:=by
    intro j hj;have h3:=hel j hj;rw [List.getElem?_eq_getElem (by omega)] at h3;cases hcs:W.cells? 0 (a.add (j*P.cellsOf e)) (P.cellsOf e) with
    | none=>rw [hcs] at h3;cases h3
    | some cs =>
     rw [hcs] at h3;obtain ⟨U,hy⟩:=(aB.opens (α:=α)).ap h1 h3;obtain ⟨_,hn,h4⟩:=World.cells?_some hcs;have hp:=aB.len hy;obtain ⟨b,o,rfl⟩:=spot (by omega);refine ⟨U,b,o,cs,rfl,by simp,λi hi=>?_,hy⟩;have h7:=h4 i (by omega);rw [addr_add,addr_add,hsz] at h7;rw [h7,List.getElem?_eq_getElem hi]
   obtain ⟨l,AJ,mG⟩:=Wp len key;exact ⟨l,some a,cap,by rw [AJ],by omega,hm,mG⟩
 .cases h
instance aSn{α:Type}[aB α]:aB (List α) where
 ty:=.slice (aB.ty α)
 rep:=a9R
 len h:=by obtain ⟨p,c,rfl,_⟩:=h;rfl
 pos:=by simp [gq.size]
 pQ hs h:=by obtain ⟨p,c,h1,h2,h3,h4⟩:=h;exact ⟨p,c,h1,h2,h3,h4.pQ hs⟩
 opens:=a6k
 Cp:=RH (ty:=.slice (aB.ty α)) (λ_ _ h=>by cases h) a6k
def Rc{α β:Type}[aB α][aB β](M:List Nat)(w:World)(cs:List Value)(x:α × β):Prop :=
 ∃ a b,cs=a++b/\aB.rep M w a x.1/\aB.rep M w b x.2
theorem a8b{α β}[aB α][aB β]{H}{enc:TypeId × Value->H}{P W d fuel f g r off}{cs:List Value}(h:AU P (gq.is P d) (f :: g :: r) off (.pair (aB.ty α) (aB.ty β))=true)(ht:∀ x∈f :: g :: r,∃ U,DataW.trod enc P W 0 (λ_=>true) true fuel x.type ((cs.drop x.offset).take (P.cellsOf x.type))=some U)(hl:off+(gq.pair (aB.ty α) (aB.ty β)).size=cs.length):∃ U:α × β,Rc [] W (cs.drop off) U:=by
 simp only [AU,Bool.and_eq_true] at h;obtain ⟨⟨⟨h1,h2⟩,h3⟩,h4⟩:=h;have h1:=Nat.eq_of_beq_eq_true h1;have h3:=Nat.eq_of_beq_eq_true h3;simp only [gq.size] at hl;obtain ⟨U,hy⟩:=ht f (by simp);rw [h1,h3] at hy;obtain ⟨a,ha⟩:=(aB.opens (α:=α)).ap h2 hy;obtain ⟨b,hb⟩:=(aB.Cp (α:=β)).ap h4 (λx hx=>ht x (List.mem_cons_of_mem _ hx)) (by omega);refine ⟨(a,b),_,_,?_,ha,hb⟩;rw [<-List.drop_drop,List.take_append_drop]
theorem a8c{α β}[aB α][aB β]:Be (.pair (aB.ty α) (aB.ty β)) (α × β) Rc:=by
 constructor;intro H enc P W d
 induction d with
 | zero=>intro fuel t cs x h;simp [gq.is] at h
 | succ d ih =>
  intro fuel t cs x h hx;cases fuel with
  | zero=>simp [DataW.trod] at hx
  | succ fuel =>
  unfold gq.is at h;split at h
  .rename_i fs ht;simp only [Bool.and_eq_true] at h;obtain ⟨h1,h2⟩:=h;have h1:=Nat.eq_of_beq_eq_true h1;unfold DataW.trod at hx;rw [ht] at hx;simp only at hx;split at hx
   .rename_i hlen;cases hm:(fs.toList.mapM λf=>DataW.trod enc P W 0 (λ_=>true) true fuel f.type ((cs.drop f.offset).take (P.cellsOf f.type))) with
    | none=>simp [hm] at hx
    | some xs =>
     have all:=a6r hm;have key:∃ U:α × β,Rc [] W (cs.drop 0) U:=by
      generalize fs.toList=l at h2 all
      match l,h2,all with
      | [f],h2,all =>
       simp only [AU,Bool.and_eq_true] at h2;obtain ⟨⟨g1,g2⟩,g3⟩:=h2;have g1:=Nat.eq_of_beq_eq_true g1;have g3:=Nat.eq_of_beq_eq_true g3;obtain ⟨U,hy⟩:=all f (by simp);rw [g1,g3,List.take_of_length_le (by simp;omega)] at hy;exact ih g2 hy
      | f :: g :: r,h2,all=>exact a8b h2 all (by omega)
     simpa using key
   .cases hx
  .cases h
instance aSo{α β:Type}[aB α][aB β]:aB (α × β) where
 ty:=.pair (aB.ty α) (aB.ty β)
 rep:=Rc
 len h:=by obtain ⟨a,b,rfl,h1,h2⟩:=h;simp [aB.len h1,aB.len h2,gq.size]
 pos:=by have:0<(aB.ty α).size:=aB.pos;simp only [gq.size];omega
 pQ hs h:=by obtain ⟨a,b,h1,h2,h3⟩:=h;exact ⟨a,b,h1,aB.pQ hs h2,aB.pQ hs h3⟩
 opens:=a8c
 Cp:=by
  constructor;intro H enc P W d fuel fs off cs h ht hl
  match fs,h with
  | [f],h=>exact a7i a8c h (ht f (by simp)) hl
  | f :: g :: r,h=>exact a8b h ht hl
@[reducible] def aB.via {α β:Type} [aB β] (f:α->β) (g:β->α) (h:∀ U,f (g U)=U):aB α where
 ty:=aB.ty β
 rep M w cs x:=aB.rep M w cs (f x)
 len:=aB.len
 pos:=aB.pos (α:=β)
 pQ:=aB.pQ
 opens:=⟨λh1 h2=>let ⟨U,hy⟩:=(aB.opens (α:=β)).ap h1 h2;⟨g U,by simp only [h];exact hy⟩⟩
 Cp:=⟨λh1 h2 h3=>let ⟨U,hy⟩:=(aB.Cp (α:=β)).ap h1 h2 h3;⟨g U,by simp only [h];exact hy⟩⟩
theorem aTS{M w cs x}:aB.rep M w cs x ↔ cs=[.int .i64 x]/\κ x:=Iff.rfl
theorem a9T{α}[aB α]{M w cs}{l:List α}:aB.rep M w cs l ↔ ∃ p c,cs=[.slice p l.length c]/\l.length<=c/\c<=maxLen/\Δ M w p l:=Iff.rfl
end Go.Vc
end

