/-
 THE CONDITIONS OF A WALK AS ONE FORMULA: the operations. 'vcOp' says,for one operation in a known frame,what must hold of the memory so that the walk can go on;'vcOp_sound' says that this suffices.
-/
import Derived.WalkKit
import Derived.WalkSpells
import Derived.WalkLawsBesides
import Derived.Deep.QuietTactic
import Derived.Laws.StructEq
import Derived.OrdersHeld

abbrev aL:=@inferInstance
theorem cS {p:Prop} [Decidable p] (h:decide p=false):¬p:=of_decide_eq_false h
theorem eC {p:Prop} [Decidable p] (h:decide p=true):p:=of_decide_eq_true h
theorem b9 {α:Type _} (a b c:List α):a++b++c=a++(b++c):=List.append_assoc a b c
abbrev EkV:=Go.Ending->Go.World->Prop
set_option linter.unusedVariables false
set_option linter.unusedSimpArgs false
section
namespace Go.Vc
open Go.RowKit
inductive Sc where
 | int (k:IntKind)|bool|str|ptr|slice|map|fn|any|adr
def Sc.ex:Sc->(Value->Prop)->Prop
 | .int k,K=>∃ n:Int,K (.int k n)
 | .bool,K=>∃ b:Bool,K (.bool b)
 | .str,K=>∃ s:ByteArray,K (.string s)
 | .ptr,K=>∃ p:Option Addr,K (.pointer p)
 | .slice,K=>∃ p:Option Addr,∃ n c:Nat,K (.slice p n c)
 | .map,K=>∃ r:Option Nat,K (.map r)
 | .fn,K=>∃ (f:FuncId) (a c:Array Value),K (.func (.func f) a c)
 | .any,K=>∃ v:Value,K v
 | .adr,K=>∃ b o:Nat,K (.pointer (some ⟨b,o,none⟩))
theorem Sc.D3 {s:Sc} {K} (h:s.ex K):∃ v,K v:=by
 cases s<;>simp only [Sc.ex] at h
 case slice=>obtain ⟨p,n,c,h⟩:=h;exact ⟨_,h⟩
 case fn=>obtain ⟨p,a,c,h⟩:=h;exact ⟨_,h⟩
 case adr=>obtain ⟨b,o,h⟩:=h;exact ⟨_,h⟩
 all_goals (obtain ⟨x,h⟩:=h;exact ⟨_,h⟩)
def Sc.of:Value->Sc
 | .int k _=>.int k
 | .bool _=>.bool
 | .string _=>.str
 | .pointer _=>.ptr
 | .slice _ _ _=>.slice
 | .map _=>.map
 | _=>.any
inductive Sh where
 | one (s:Sc)|agg (l:List Sc)
def Sh.of:Value->Sh
 | .agg cs=>.agg (cs.toList.map Sc.of)
 | .nilFunc=>.one .fn
 | v=>.one (Sc.of v)
def shape (P:Program) (t:TypeId):Option Sh:=(P.info? t).bind λi=>i.zero.map Sh.of
def exL:List Sc->(List Value->Prop)->Prop
 | [],K=>K []
 | s :: r,K=>s.ex λv=>exL r λvs=>K (v :: vs)
theorem a5b:∀ {l:List Sc} {K:List Value->Prop},exL l K->∃ vs,K vs
 | [],_,h=>⟨[],h⟩
 | _ :: _,_,h=>by
  obtain ⟨v,h⟩:=Sc.D3 h
  obtain ⟨vs,h⟩:=a5b h
  exact ⟨_,h⟩
theorem aA2:∀ {l:List Sc} {K:List Value->Prop},exL l K->∃ vs,vs.length=l.length/\K vs
 | [],_,h=>⟨[],rfl,h⟩
 | _ :: _,_,h=>by
  obtain ⟨v,h⟩:=Sc.D3 h
  obtain ⟨vs,hl,h⟩:=aA2 h
  exact ⟨_,by simp [hl],h⟩
def Sh.ex:Sh->(Value->Prop)->Prop
 | .one s,K=>s.ex K
 | .agg l,K=>exL l λvs=>K (.agg vs.toArray)
theorem Sh.D3 {s:Sh} {K} (h:s.ex K):∃ v,K v:=by
 cases s with
 | one s=>exact Sc.D3 h
 | agg l=>obtain ⟨vs,h⟩:=a5b h;exact ⟨_,h⟩
def S7 (P:Program) (t:TypeId) (K:Value->Prop):Prop :=
 match shape P t with
 | some s=>s.ex K
 | none=>∃ v,K v
theorem zK {P t K} (h:S7 P t K):∃ v,K v:=by
 unfold S7 at h
 split at h
 .exact Sh.D3 h
 .exact h
def OC (P:Program):List TypeId->(List Value->Prop)->Prop
 | [],K=>K []
 | t :: r,K=>S7 P t λv=>OC P r λvs=>K (v :: vs)
theorem wE {P}:∀ {l:List TypeId} {K:List Value->Prop},OC P l K->∃ vs,K vs
 | [],_,h=>⟨[],h⟩
 | _ :: _,_,h=>by
  obtain ⟨v,h⟩:=zK h
  obtain ⟨vs,h⟩:=wE h
  exact ⟨_,h⟩
def pQ:List Value->Value
 | [v]=>v
 | vs=>.tuple vs.toArray
def aXU (P:Program) (ts:List TypeId) (e:Ending) (K:Value->Prop):Prop :=
 OC P ts λvs=>e=.returned (pQ vs)/\K (pQ vs)
def aE8 (P:Program) (f:FuncId) (args:Array Value) (w:World) (K:Value->World->Prop):Prop :=
 match P.funcs[f]? with
 | some fn=>Calls P f args w λe w'=>aXU P fn.resultTypes.toList e λv=>K v w'
 | none=>False
theorem a5c {P f args w K} (h:aE8 P f args w K):
  Calls P f args w λe w'=>∃ v,e=.returned v/\K v w':=by
 unfold aE8 at h
 split at h
 .refine h.mono λe w' h=>?_
  obtain ⟨vs,he,hk⟩:=wE h
  exact ⟨_,he,hk⟩
 .exact h.elim
def aMm (P:Program) (f:FuncId) (args:Array Value) (w:World) (K:Value->World->Prop):Prop :=
 Calls P f args w λe w'=>(∃ n:Int,e=.returned (.tuple #[.int .i64 n,.nilIface])/\K (.tuple #[.int .i64 n,.nilIface]) w') \/
  ∃ (n:Int) (t:TypeId) (v:Value),e=.returned (.tuple #[.int .i64 n,.iface t v])/\K (.tuple #[.int .i64 n,.iface t v]) w'
theorem a5d {P f args w K} (h:aMm P f args w K):
  Calls P f args w λe w'=>∃ v,e=.returned v/\K v w':=by
 refine h.mono λe w' h=>?_
 rcases h with ⟨n,he,hk⟩|⟨n,t,v,he,hk⟩
 .exact ⟨_,he,hk⟩
 .exact ⟨_,he,hk⟩
def aJv (n:String):Bool:=n == "strconv.Atoi"
def bL (w:World) (b o:Nat) (vs:List Value):Prop:=∀ j,(h:j<vs.length)->w.cell? ⟨b,o+j,none⟩=some vs[j]
theorem run_loadCellsFrom {P w b o}:∀ (vs:List Value) (i:Nat) (acc:Array Value),
  (∀ j,(h:j<vs.length)->w.cell? ⟨b,o+(i+j),none⟩=some vs[j]) ->
  (loadCellsFrom ⟨b,o,none⟩ i vs.length acc).run P w=.ok (acc++vs.toArray) w
 | [],i,acc,_=>by simp [loadCellsFrom]
 | v :: vs,i,acc,h=>by
  have h0:w.cell? ((⟨b,o,none⟩:Addr).add i)=some v:=by
   have:=h 0 (by simp)
   simp only [Nat.add_zero,List.getElem_cons_zero] at this
   unfold Addr.add
   split
   .rename_i e;subst e;simpa using this
   .exact this
  have ih:=run_loadCellsFrom (P:=P) (w:=w) (b:=b) (o:=o) vs (i+1) (acc.push v) (λj hj=>by
   have:=h (j+1) (by simpa using hj)
   rw [show i+1+j=i+(j+1) by omega,this];simp)
  simp only [List.length_cons,loadCellsFrom,Sem.run_bind,load,Sem.run,h0,Result.andThen,Sem.run_pure',ih]
  simp
def X7:TypeDesc->Bool
 | .struct _ | .array _ _=>true
 | _=>false
theorem x6 {P t d w} (h:P.underlying t=some d):
  (isAgg t).run P w=.ok (X7 d) w:=by
 unfold isAgg
 simp only [Sem.run_bind,run_underlying h,Result.andThen]
 cases d<;>simp [X7]
theorem run_sizeOf {P t i w} (h:P.info? t=some i):(sizeOf t).run P w=.ok i.size w:=by
 simp [sizeOf,typeInfo,h]
def mU:Value->Bool
 | .agg _ | .tuple _=>false
 | _=>true
def aG (w:World) (b o n:Nat):Prop:=∀ j,j<n->(w.cell? ⟨b,o+j,none⟩).isSome=true/\w.frozen? ⟨b,o+j,none⟩=false
theorem qX {P b o}:∀ (vs:List Value) (i:Nat) (w:World),(∀ v∈vs,mU v=true) ->
  (∀ j,j<vs.length->(w.cell? ⟨b,o+(i+j),none⟩).isSome=true/\w.frozen? ⟨b,o+(i+j),none⟩=false) ->
  (storeCells ⟨b,o,none⟩ vs i).run P w=.ok () (w.setCells b (o+i) vs)
 | [],i,w,_,_=>by simp [storeCells,World.setCells]
 | v :: vs,i,w,h1,h2=>by
  obtain ⟨hs,hf⟩:=h2 0 (by simp)
  simp only [Nat.add_zero] at hs hf
  have ha:(⟨b,o,none⟩:Addr).add i=⟨b,o+i,none⟩:=by unfold Addr.add;split<;>simp_all
  obtain ⟨u,hu⟩:=Option.isSome_iff_exists.1 hs
  have ih:=qX (P:=P) (b:=b) (o:=o) vs (i+1) (w.setCell ⟨b,o+i,none⟩ v) (λx hx=>h1 x (by simp [hx])) (λj hj=>by
   obtain ⟨k1,k2⟩:=h2 (j+1) (by simpa using hj)
   rw [show i+(j+1)=i+1+j by omega] at k1 k2
   rw [World.frozen?_setCell]
   refine ⟨?_,k2⟩
   obtain ⟨u,hu⟩:=Option.isSome_iff_exists.1 k1
   obtain ⟨v',S8⟩:=cell?_setCell_some (p:=⟨b,o+i,none⟩) (x:=v) hu
   simp [S8])
  have hv:mU v=true:=h1 v (by simp)
  have hrun:((store (⟨b,o+i,none⟩:Addr) v).run P w)=.ok () (w.setCell ⟨b,o+i,none⟩ v):=by
   unfold store
   cases v<;>simp [mU] at hv<;>simp [Sem.run,hu,hf]
  simp only [storeCells,Sem.run_bind,ha,hrun,Result.andThen,ih,World.setCells]
  rw [show o+i+1=o+(i+1) by omega]
def WS (P:Program) (t:TypeId) (w:World) (b o:Nat) (v:Value) (K:World->Prop):Prop :=
 match P.info? t with
 | some i =>
  match v with
  | .agg cs=>match Nat.beq cs.toList.length i.size&&cs.toList.all mU with
   | true=>aG w b o i.size/\∀ w',w'=w.setCells b o cs.toList->K w'
   | false=>False
  | v=>match Nat.beq i.size 1&&mU v with
   | true=>aG w b o 1/\∀ w',w'=w.setCell ⟨b,o,none⟩ v->K w'
   | false=>False
 | none=>False
theorem sR {P t i w b o v} (hi:P.info? t=some i) (hs:i.size=1) (h0:mU v=true) (h1:(w.cell? ⟨b,o,none⟩).isSome=true) (h2:w.frozen? ⟨b,o,none⟩=false):(storeVar t ⟨b,o,none⟩ v).run P w=.ok () (w.setCell ⟨b,o,none⟩ v):=by
 have hcells:v.cells=#[v]:=by cases v<;>first|rfl|cases h0
 have hr:=qX (P:=P) (b:=b) (o:=o) [v] 0 w (by simpa using h0) (λj hj=>by
  have:j=0:=by simpa using hj
  subst this;exact ⟨h1,h2⟩)
 unfold storeVar
 simp only [hcells,Sem.run_bind,run_sizeOf hi,Result.andThen,hs,List.size_toArray,List.length_cons,List.length_nil,ne_eq,not_true_eq_false,if_false]
 simpa [World.setCells] using hr
theorem LG {P t w b o v K} (h:WS P t w b o v K):
  ∃ w',(storeVar t ⟨b,o,none⟩ v).run P w=.ok () w'/\K w':=by
 unfold WS at h
 cases hi:P.info? t with
 | none=>rw [hi] at h;exact h.elim
 | some i =>
  rw [hi] at h
  simp only at h
  have one:(match Nat.beq i.size 1&&mU v with|true=>aG w b o 1/\∀ w',w'=w.setCell ⟨b,o,none⟩ v->K w'|false=>False) ->
    ∃ w',(storeVar t ⟨b,o,none⟩ v).run P w=.ok () w'/\K w':=by
   intro h
   split at h
   .rename_i hc
    simp only [Bool.and_eq_true] at hc
    obtain ⟨h1,h3⟩:=h
    obtain ⟨h1,h2⟩:=h1 0 (by omega)
    exact ⟨_,sR hi (Nat.eq_of_beq_eq_true hc.1) hc.2 h1 h2,h3 _ rfl⟩
   .exact h.elim
  cases v
  case agg cs =>
   simp only at h
   split at h
   .rename_i hc
    simp only [Bool.and_eq_true] at hc
    have hl:cs.size=i.size:=by have:=Nat.eq_of_beq_eq_true hc.1;simpa using this
    obtain ⟨h1,h2⟩:=h
    refine ⟨_,?_,h2 _ rfl⟩
    have hr:=qX (P:=P) (b:=b) (o:=o) cs.toList 0 w (λv hv=>List.all_eq_true.1 hc.2 v hv) (λj hj=>by rw [Nat.zero_add];exact h1 j (by simp at hj;omega))
    unfold storeVar
    simp only [Value.cells,Sem.run_bind,run_sizeOf hi,Result.andThen,hl,ne_eq,not_true_eq_false,if_false]
    simpa using hr
   .exact h.elim
  all_goals exact one h
def ob (g:Option Bool) (p:Prop):Prop :=
 match g with
 | none=>p
 | some c=>c=true->p
def D4:Option Bool->Prop
 | none=>True
 | some c=>c=true
theorem gK {g p} (h:ob g p) (hg:D4 g):p:=by
 cases g with
 | none=>exact h
 | some c=>exact h hg
def aX (n:Int):Prop := -9223372036854775808<=n/\n<=9223372036854775807
theorem aE9 {n} (h:aX n):IntKind.i64.wrap n=n:=IntWalk.i64_in n h
def ari (wr:Bool) (g:Option Bool) (k:IntKind) (n:Int) (K:Value->Prop):Prop :=
 match k,wr with
 | .i64,false=>ob g (aX n)/\K (.int .i64 n)
 | k,_=>K (.int k (k.wrap n))
theorem BL {wr g k n K} (h:ari wr g k n K):
  ∃ v,(D4 g->v=.int k (k.wrap n))/\K v:=by
 unfold ari at h
 split at h
 .exact ⟨_,λhg=>by rw [aE9 (gK h.1 hg)],h.2⟩
 .exact ⟨_,λ_=>rfl,h⟩
def aJw (P:Program) (g:Option Bool) (s:Sem Value) (v:Value):Prop:=D4 g->∀ w,s.run P w=.ok v w
def aNx (wr:Bool) (g:Option Bool) (op:BinOp) (x y:Value) (K:Value->Prop):Option Prop :=
 match op,x,y with
 | .add,.int k a,.int k' b=>if k=k' then some (ari wr g k (a+b) K) else none
 | .sub,.int k a,.int k' b=>if k=k' then some (ari wr g k (a - b) K) else none
 | .mul,.int k a,.int k' b=>if k=k' then some (ari wr g k (a*b) K) else none
 | .quo,.int k a,.int k' b=>if k=k' then some (ob g (b≠0)/\ari wr g k (a.tdiv b) K) else none
 | .rem,.int k a,.int k' b=>if k=k' then some (ob g (b≠0)/\K (.int k (a.tmod b))) else none
 | .eql,.int k a,.int k' b=>if k=k' then some (K (.bool (decide (a=b)))) else none
 | .neq,.int k a,.int k' b=>if k=k' then some (K (.bool (decide (a≠b)))) else none
 | .lss,.int k a,.int k' b=>if k=k' then some (K (.bool (decide (a<b)))) else none
 | .leq,.int k a,.int k' b=>if k=k' then some (K (.bool (decide (a<=b)))) else none
 | .gtr,.int k a,.int k' b=>if k=k' then some (K (.bool (decide (b<a)))) else none
 | .geq,.int k a,.int k' b=>if k=k' then some (K (.bool (decide (b<=a)))) else none
 | .eql,.string a,.string b=>some (K (.bool (decide (a=b))))
 | .neq,.string a,.string b=>some (K (.bool (decide (a≠b))))
 | .lss,.string a,.string b=>some (K (.bool (Op.bytesLess a.toList b.toList)))
 | .add,.string a,.string b=>some (ob g (a.size+b.size<=9223372036854775807)/\K (.string (a++b)))
 | _,_,_=>none
theorem pZ {P:Program} {op:BinOp} {t:TypeId} {k:IntKind} {a b:Int} {ox oy:Operand} (h1:op≠.shl) (h2:op≠.shr) (w:World):
  (do eqGuard op t ox oy (.int k a) (.int k b);binOp op t (.int k a) (.int k b):Sem Value).run P w =
   (match op with | .add | .sub | .mul=>Op.intArith op k a b | .quo | .rem=>Op.intDiv op k a b | .and | .or | .xor | .andNot=>Op.intBits op k a b|_=>Op.intCmp op a b).run P w:=by
 cases op<;>simp [eqGuard,binOp,Result.andThen] at * <;> rfl
theorem zL {P op t a b ox oy} (w):
  (do eqGuard op t ox oy (.string a) (.string b);binOp op t (.string a) (.string b):Sem Value).run P w=(Op.stringOp op a b).run P w:=by
 cases op<;>simp [eqGuard,binOp,Result.andThen]<;>rfl
theorem X8 (a b:ByteArray):(a.toList == b.toList)=decide (a=b):=by
 have h:a.toList=b.toList ↔ a=b:=by
  refine ⟨λh=>?_,λh=>by rw [h]⟩
  have h1:∀ x:ByteArray,x.toList=x.data.toList:=λx=>ByteArray.toList_eq x
  rw [h1,h1] at h
  cases a;cases b;simp at h;simp [h]
 by_cases e:a=b
 .simp [e]
 .simp [e,h]
theorem a8p {P wr g op t ox oy x y K p} (h:aNx wr g op x y K=some p) (hp:p):
  ∃ v,aJw P g (do eqGuard op t ox oy x y;binOp op t x y) v/\K v:=by
 unfold aNx at h
 split at h
 case h_16=>cases h
 case h_12=>cases h;exact ⟨_,λ_ w=>by rw [zL];simp [Op.stringOp,X8],hp⟩
 case h_13=>cases h;refine ⟨_,λ_ w=>?_,hp⟩;rw [zL];simp [Op.stringOp,X8]
 case h_14=>cases h;exact ⟨_,λ_ w=>by rw [zL];simp [Op.stringOp],hp⟩
 case h_15 =>
  cases h
  obtain ⟨h1,h2⟩:=hp
  refine ⟨_,λhg w=>?_,h2⟩
  have:=gK h1 hg
  rw [zL]
  unfold Op.stringOp
  simp only
  rw [if_neg (by simp [IntKind.max,IntKind.signed,IntKind.bits];omega)]
  rfl
 all_goals
  split at h
  case isFalse=>cases h
  rename_i hk
  subst hk
  cases h
 case h_4 =>
  obtain ⟨h1,h2⟩:=hp
  obtain ⟨v,hv,hk⟩:=BL h2
  refine ⟨v,λhg w=>?_,hk⟩
  have h0:=gK h1 hg
  rw [pZ (by decide) (by decide),hv hg]
  simp [Op.intDiv,h0]
 case h_5 =>
  obtain ⟨h1,h2⟩:=hp
  refine ⟨_,λhg w=>?_,h2⟩
  have h0:=gK h1 hg
  rw [pZ (by decide) (by decide)]
  simp [Op.intDiv,h0]
 case h_1=>obtain ⟨v,hv,hk⟩:=BL hp;exact ⟨v,λhg w=>by rw [pZ (by decide) (by decide),hv hg];rfl,hk⟩
 case h_2=>obtain ⟨v,hv,hk⟩:=BL hp;exact ⟨v,λhg w=>by rw [pZ (by decide) (by decide),hv hg];rfl,hk⟩
 case h_3=>obtain ⟨v,hv,hk⟩:=BL hp;exact ⟨v,λhg w=>by rw [pZ (by decide) (by decide),hv hg];rfl,hk⟩
 all_goals (refine ⟨_,λ_ w=>?_,hp⟩;rw [pZ (by decide) (by decide)];simp [Op.intCmp];try (first|rfl|(rw [Bool.eq_iff_iff];simp)))
def D5 (P:Program) (t:TypeId) (w:World) (g:Option Bool) (b o:Nat) (K:Value->Prop):Prop :=
 match P.underlying t,P.info? t with
 | some d,some i =>
  match X7 d,i.zero.map Sh.of with
  | true,some (.agg l)=>match Nat.beq l.length i.size with
   | true=>exL l λvs=>ob g (bL w b o vs)/\K (.agg vs.toArray)
   | false=>False
  | false,some (.one s)=>s.ex λv=>ob g (w.cell? ⟨b,o,none⟩=some v)/\K v
  | _,_=>False
 | _,_=>False
theorem a1P {w w':World} (h:w'.heap=w.heap) (a):w'.cell? a=w.cell? a:=by simp [World.cell?,h]
theorem tU {P t w g b o K} (h:D5 P t w g b o K):
  ∃ v,(D4 g->∀ w',w'.heap=w.heap->(loadVar t ⟨b,o,none⟩).run P w'=.ok v w')/\K v:=by
 unfold D5 at h
 split at h
 .rename_i d i hd hi
  split at h
  .rename_i l ha _
   split at h
   .rename_i hl
    obtain ⟨vs,hlen,hc,hk⟩:=aA2 h
    rw [Nat.eq_of_beq_eq_true hl] at hlen
    refine ⟨_,λhg w' hw=>?_,hk⟩
    have hr:=run_loadCellsFrom (P:=P) (w:=w') (b:=b) (o:=o) vs 0 #[] (λj hj=>by rw [a1P hw,Nat.zero_add];exact gK hc hg j hj)
    unfold loadVar loadCells
    simp only [Sem.run_bind,x6 hd,ha,Result.andThen,if_true,run_sizeOf hi,<-hlen,hr,Sem.run_pure]
    simp
   .exact h.elim
  .rename_i s ha _
   obtain ⟨v,hv,hk⟩:=Sc.D3 h
   refine ⟨v,λhg w' hw=>?_,hk⟩
   have hc:=gK hv hg
   rw [<-a1P hw] at hc
   unfold loadVar
   simp only [Sem.run_bind,x6 hd,ha,Result.andThen,Bool.false_eq_true,if_false,load,Sem.run,hc]
  .exact h.elim
 .exact h.elim
def G6 (P:Program) (t:TypeId) (x:Value) (f:Nat) (K:Value->Prop):Option Prop :=
 match x,P.underlying t with
 | .pointer (some ⟨b,o,none⟩),some (.struct fs) =>
  match fs[f]? with
  | some fd =>
   match P.info? fd.type with
   | some i=>if i.size=0 then none else some (K (.pointer (some ⟨b,o+fd.offset,none⟩)))
   | none=>none
  | none=>none
 | _,_=>none
theorem addr_add (b o n):(⟨b,o,none⟩:Addr).add n=⟨b,o+n,none⟩:=by unfold Addr.add;split<;>simp_all
theorem OD {P t x f K p} (h:G6 P t x f K=some p) (hp:p):
  ∃ v,(∀ w,(Instr.fieldAt t x f).run P w=.ok v w)/\K v:=by
 unfold G6 at h
 split at h
 .rename_i b o fs ht
  split at h
  .rename_i fd hf
   split at h
   .rename_i i hi
    split at h
    .cases h
    .rename_i hz
     cases h
     refine ⟨_,λw=>?_,hp⟩
     simp [Instr.fieldAt,run_underlying ht,Result.andThen,hf,Instr.sureAddr,fieldPlace,run_sizeOf hi,hz,addr_add]
   .cases h
  .cases h
 .cases h
def vC (g:Option Bool) (p:Option Addr) (K:Nat->Nat->Prop):Prop :=
 match p with
 | some ⟨b,o,none⟩=>K b o
 | p=>∃ b o,ob g (p=some ⟨b,o,none⟩)/\K b o
theorem a5e {g p K} (h:vC g p K):∃ b o,ob g (p=some ⟨b,o,none⟩)/\K b o:=by
 unfold vC at h
 split at h
 .refine ⟨_,_,?_,h⟩
  cases g
  .rfl
  .exact λ_=>rfl
 .exact h
theorem aU {g p K} (b o) (h:p=some ⟨b,o,none⟩) (hk:K b o):vC g p K:=by
 subst h;exact hk
theorem aFa {c p K} (h:c=false) (hk:∀ b o,K b o):vC (some c) p K:=by
 subst h
 unfold vC
 split
 .exact hk _ _
 .exact ⟨0,0,λh=>(by cases h),hk _ _⟩
def idx (o n:Nat):Nat->Nat
 | 1=>o+n
 | s=>o+n*s
theorem idx_eq (o n s):idx o n s=o+n*s:=by
 unfold idx
 split
 .simp
 .rfl
def aA3 (P:Program) (t:TypeId):Nat:=match P.info? t with|some i=>i.size|none=>0
def G7 (P:Program) (g:Option Bool) (t:TypeId) (x i:Value) (K:Value->Prop):Option Prop :=
 match x,i,P.underlying t with
 | .slice p len _,.int _ n,some (.slice e) =>
  match P.info? e with
  | some ie=>some (ob g (0<=n/\n<len)/\vC g p λb o=>K (.pointer (some ⟨b,idx o n.toNat ie.size,none⟩)))
  | none=>none
 | .pointer (some ⟨b,o,none⟩),.int _ n,some (.array len e) =>
  match P.info? e with
  | some ie=>some (ob g (0<=n/\n<len)/\K (.pointer (some ⟨b,idx o n.toNat ie.size,none⟩)))
  | none=>none
 | _,_,_=>none
theorem OE {P g t x i K p} (h:G7 P g t x i K=some p) (hp:p):
  ∃ v,(D4 g->∀ w,(Instr.indexAt t x i).run P w=.ok v w)/\K v:=by
 unfold G7 at h
 split at h
 .rename_i q len _ kk n e ht
  split at h
  .rename_i ie hi
   cases h
   obtain ⟨h0,hp⟩:=hp
   obtain ⟨b,o,h1,h2⟩:=a5e hp
   refine ⟨_,λhg w=>?_,h2⟩
   obtain ⟨h3,h4⟩:=gK h0 hg
   have h5:=gK h1 hg
   subst h5
   simp [Instr.indexAt,asIntOf,run_underlying ht,Result.andThen,h3,h4,run_sizeOf hi,addr_add,idx_eq]
  .cases h
 .rename_i b o kk n len e ht
  split at h
  .rename_i ie hi
   cases h
   obtain ⟨h1,h2⟩:=hp
   refine ⟨_,λhg w=>?_,h2⟩
   obtain ⟨h3,h4⟩:=gK h1 hg
   simp [Instr.indexAt,asIntOf,run_underlying ht,Result.andThen,h3,h4,run_sizeOf hi,addr_add,Instr.sureAddr,idx_eq]
  .cases h
 .cases h
def a5f (cs:Array Value) (off n:Nat):Array Value:=((cs.toList.drop off).take n).toArray
theorem aFb (cs off n):cs.extract off (off+n)=a5f cs off n:=by
 apply Array.ext'
 simp [a5f]
def X9:Nat->List Value->Option Value
 | 0,v :: _=>some v
 | i+1,_ :: r=>X9 i r
 | _,[]=>none
theorem a5g:∀ (i:Nat) (l:List Value),X9 i l=l[i]?
 | 0,[]=>rfl
 | 0,_ :: _=>rfl
 | i+1,[]=>rfl
 | i+1,v :: r=>by rw [X9,a5g i r];rfl
def a3o (P:Program) (g:Option Bool) (t:TypeId) (x i:Value) (K:Value->Prop):Option Prop :=
 match x,i,P.underlying t with
 | .string s,.int _ n,some .string=>some (∃ c:UInt8,ob g (0<=n/\s.data.toList[n.toNat]? = some c)/\K (.int .u8 c.toNat))
 | .agg cs,.int _ n,some (.array len e) =>
  match P.underlying e,P.info? e with
  | some d,some ie =>
   match X7 d,ie.zero.map Sh.of with
   | true,some (.agg _)=>some (ob g (0<=n/\n<len)/\K (.agg (a5f cs (idx 0 n.toNat ie.size) ie.size)))
   | false,some (.one s)=>some (s.ex λv=>ob g (0<=n/\n<len/\X9 (idx 0 n.toNat ie.size) cs.toList=some v)/\K v)
   | _,_=>none
  | _,_=>none
 | _,_,_=>none
theorem OG {P e d ie cs off w} (hd:P.underlying e=some d) (ha:X7 d=true) (hi:P.info? e=some ie):
  (part e cs off).run P w=.ok (.agg (a5f cs off ie.size)) w:=by
 simp [part,x6 hd,ha,Result.andThen,run_sizeOf hi,aFb]
theorem wF {P e d cs off v w} (hd:P.underlying e=some d) (ha:X7 d=false) (hv:cs[off]? = some v):
  (part e cs off).run P w=.ok v w:=by
 simp [part,x6 hd,ha,Result.andThen,hv]
theorem a00 {P g t x i K p} (h:a3o P g t x i K=some p) (hp:p):
  ∃ v,(D4 g->∀ w,(Instr.index t x i).run P w=.ok v w)/\K v:=by
 unfold a3o at h
 split at h
 .rename_i s kk n ht
  cases h
  obtain ⟨c,h1,h2⟩:=hp
  refine ⟨_,λhg w=>?_,h2⟩
  obtain ⟨h3,h4⟩:=gK h1 hg
  have h5:s[n.toNat]? = some c:=by
   obtain ⟨hlt,he⟩:=List.getElem?_eq_some_iff.1 h4
   have hs:n.toNat<s.size:=by simpa using hlt
   rw [getElem?_pos s n.toNat hs]
   simpa [ByteArray.getElem_eq_getElem_data] using he
  simp [Instr.index,asIntOf,run_underlying ht,Result.andThen,h3,h5]
 .rename_i cs kk n len e ht
  split at h
  .rename_i d ie hd hi
   split at h
   .rename_i l ha _
    cases h
    obtain ⟨h1,h2⟩:=hp
    refine ⟨_,λhg w=>?_,h2⟩
    obtain ⟨h3,h4⟩:=gK h1 hg
    simp [Instr.index,asIntOf,run_underlying ht,Result.andThen,h3,h4,run_sizeOf hi,OG hd ha hi,idx_eq]
   .rename_i s ha _
    cases h
    obtain ⟨v,h1,h2⟩:=Sc.D3 hp
    refine ⟨v,λhg w=>?_,h2⟩
    obtain ⟨h3,h4,h5⟩:=gK h1 hg
    rw [idx_eq,Nat.zero_add,a5g,Array.getElem?_toList] at h5
    simp [Instr.index,asIntOf,run_underlying ht,Result.andThen,h3,h4,run_sizeOf hi,wF hd ha h5]
   .cases h
  .cases h
 .cases h
def a3p (P:Program) (t:TypeId) (x:Value) (f:Nat) (K:Value->Prop):Option Prop :=
 match x,P.underlying t with
 | .agg cs,some (.struct fs) =>
  match fs[f]? with
  | some fd =>
   match P.underlying fd.type,P.info? fd.type with
   | some d,some i =>
    match X7 d with
    | true=>some (K (.agg (a5f cs fd.offset i.size)))
    | false=>match cs[fd.offset]? with
     | some v=>some (K v)
     | none=>none
   | _,_=>none
  | none=>none
 | _,_=>none
theorem a01 {P t x f K p} (h:a3p P t x f K=some p) (hp:p):
  ∃ v,(∀ w,(Instr.field t x f).run P w=.ok v w)/\K v:=by
 unfold a3p at h
 split at h
 .rename_i cs fs ht
  split at h
  .rename_i fd hf
   split at h
   .rename_i d i hd hi
    split at h
    .rename_i ha
     cases h
     exact ⟨_,λw=>by simp [Instr.field,run_underlying ht,Result.andThen,hf,asAgg,OG hd ha hi],hp⟩
    .rename_i ha
     split at h
     .rename_i v hv
      cases h
      exact ⟨_,λw=>by simp [Instr.field,run_underlying ht,Result.andThen,hf,asAgg,wF hd ha hv],hp⟩
     .cases h
   .cases h
  .cases h
 .cases h
def cJ (p:Option Addr) (size l m:Nat):Option Addr:=if m=l then p else p.map (·.add (l*size))
def OH (g:Option Bool) (lo hi:Option Value) (len cap:Nat) (K':Nat->Nat->Prop):Option Prop :=
 match lo,hi with
 | none,none=>some (ob g (len<=cap)/\K' 0 len)
 | some (.int _ l),none=>some (ob g (0<=l/\l<=len/\len<=cap)/\K' l.toNat len)
 | none,some (.int _ h)=>some (ob g (0<=h/\h<=cap)/\K' 0 h.toNat)
 | some (.int _ l),some (.int _ h)=>some (ob g (0<=l/\l<=h/\h<=cap)/\K' l.toNat h.toNat)
 | _,_=>none
def a3q (P:Program) (g:Option Bool) (t:TypeId) (x:Value) (lo hi:Option Value) (K:Value->Prop):Option Prop :=
 match x,P.underlying t with
 | .string s,some .string=>OH g lo hi s.size s.size λl h=>K (.string (s.extract l h))
 | .slice p len cap,some (.slice e) =>
  match P.info? e with
  | some ie=>OH g lo hi len cap λl h=>K (.slice (cJ p ie.size l cap) (h - l) (cap - l))
  | none=>none
 | .pointer (some ⟨b,o,none⟩),some (.array n e) =>
  match P.info? e with
  | some ie=>OH g lo hi n n λl h=>K (.slice (cJ (some ⟨b,o,none⟩) ie.size l n) (h - l) (n - l))
  | none=>none
 | _,_=>none
theorem M4 {P:Program} {isS:Bool} {len cap:Nat} {lo hi:Option Value} {l h:Nat} (hlo:match lo with|none=>l=0|some (.int _ n)=>0<=n/\l=n.toNat|_=>False) (hhi:match hi with|none=>h=len|some (.int _ n)=>0<=n/\h=n.toNat|_=>False) (hlh:l<=h) (hc:h<=cap) (w:World):
  (Instr.sliceBounds isS len cap lo hi none).run P w=.ok (l,h,cap) w:=by
 have hb:∀ (k:IntKind) (n:Int) (y:Nat) (code:BoundsCode),0<=n->n.toNat<=y->(Instr.sliceBound (.int k n) y code).run P w=.ok n.toNat w:=by
  intro k n y code h0 h1
  unfold Instr.sliceBound
  simp only [asIntOf,Sem.run_bind,Sem.run_pure,Result.andThen]
  rw [if_pos ⟨h0,by omega⟩]
  rfl
 unfold Instr.sliceBounds
 cases hi with
 | none =>
  simp only at hhi
  subst hhi
  cases lo with
  | none=>simp only at hlo;subst hlo;simp [Result.andThen]
  | some v =>
   cases v<;>simp only at hlo
   obtain ⟨h0,rfl⟩:=hlo
   simp [Result.andThen,hb _ _ _ _ h0 hlh]
 | some v =>
  cases v<;>simp only at hhi
  obtain ⟨h0,rfl⟩:=hhi
  cases lo with
  | none=>simp only at hlo;subst hlo;simp [Result.andThen,hb _ _ _ _ h0 hc]
  | some v =>
   cases v<;>simp only at hlo
   obtain ⟨h1,rfl⟩:=hlo
   simp [Result.andThen,hb _ _ _ _ h0 hc,hb _ _ _ _ h1 hlh]
theorem M5 {g:Option Bool} {lo hi:Option Value} {len cap:Nat} {K':Nat->Nat->Prop} {p:Prop} (h:OH g lo hi len cap K'=some p) (hp:p):
  ∃ l h,(D4 g->(match lo with|none=>l=0|some (.int _ n)=>0<=n/\l=n.toNat|_=>False)/\(match hi with|none=>h=len|some (.int _ n)=>0<=n/\h=n.toNat|_=>False)/\l<=h/\h<=cap)/\K' l h:=by
 unfold OH at h
 split at h
 .cases h;obtain ⟨h1,h2⟩:=hp;exact ⟨_,_,λhg=>⟨rfl,rfl,by omega,gK h1 hg⟩,h2⟩
 .cases h;obtain ⟨h1,h2⟩:=hp;exact ⟨_,_,λhg=>by have:=gK h1 hg;exact ⟨⟨this.1,rfl⟩,rfl,by omega,this.2.2⟩,h2⟩
 .cases h;obtain ⟨h1,h2⟩:=hp;exact ⟨_,_,λhg=>by have:=gK h1 hg;exact ⟨rfl,⟨this.1,rfl⟩,by omega,by omega⟩,h2⟩
 .cases h;obtain ⟨h1,h2⟩:=hp;exact ⟨_,_,λhg=>by have:=gK h1 hg;exact ⟨⟨this.1,rfl⟩,⟨by omega,rfl⟩,by omega,by omega⟩,h2⟩
 .cases h
theorem a02 {P g t x lo hi K p} (h:a3q P g t x lo hi K=some p) (hp:p):
  ∃ v,(D4 g->∀ w,(Instr.sliceAt t x lo hi none).run P w=.ok v w)/\K v:=by
 unfold a3q at h
 split at h
 .rename_i s ht
  obtain ⟨l,hh,hb,hk⟩:=M5 h hp
  refine ⟨_,λhg w=>?_,hk⟩
  obtain ⟨h1,h2,h3,h4⟩:=hb hg
  simp [Instr.sliceAt,run_underlying ht,Result.andThen,Instr.slice,M4 h1 h2 h3 h4]
 .rename_i q len cap e ht
  split at h
  .rename_i ie hi
   obtain ⟨l,hh,hb,hk⟩:=M5 h hp
   refine ⟨_,λhg w=>?_,hk⟩
   obtain ⟨h1,h2,h3,h4⟩:=hb hg
   simp [Instr.sliceAt,run_underlying ht,Result.andThen,Instr.slice,M4 h1 h2 h3 h4,run_sizeOf hi,cJ]
  .cases h
 .rename_i b o n e ht
  split at h
  .rename_i ie hi
   obtain ⟨l,hh,hb,hk⟩:=M5 h hp
   refine ⟨_,λhg w=>?_,hk⟩
   obtain ⟨h1,h2,h3,h4⟩:=hb hg
   simp [Instr.sliceAt,run_underlying ht,Result.andThen,Instr.sureAddr,M4 h1 h2 h3 h4,run_sizeOf hi,cJ]
   split<;>rfl
  .cases h
 .cases h
def XA (P:Program) (g:Option Bool) (t:TypeId) (x hi mx:Value) (K:Value->Prop):Option Prop :=
 match x,P.underlying t,hi,mx with
 | .slice p len cap,some (.slice e),.int _ h,.int _ m =>
  match P.info? e with
  | some ie=>some (ob g (0<=h/\h<=m/\m<=cap)/\K (.slice (cJ p ie.size 0 m.toNat) h.toNat m.toNat))
  | none=>none
 | _,_,_,_=>none
theorem XB {P g t x hi mx K p} (h:XA P g t x hi mx K=some p) (hp:p):
  ∃ v,(D4 g->∀ w,(Instr.sliceAt t x none (some hi) (some mx)).run P w=.ok v w)/\K v:=by
 unfold XA at h
 split at h
 .rename_i q len cap e kh h kn m ht
  split at h
  .rename_i ie hi
   cases h
   obtain ⟨h1,hk⟩:=hp
   refine ⟨_,λhg w=>?_,hk⟩
   obtain ⟨a1,a2,a3⟩:=gK h1 hg
   have hb:∀ (k:IntKind) (n:Int) (y:Nat) (code:BoundsCode),0<=n->n.toNat<=y->(Instr.sliceBound (.int k n) y code).run P w=.ok n.toNat w:=by
    intro k n y code h0 h1
    unfold Instr.sliceBound
    simp only [asIntOf,Sem.run_bind,Sem.run_pure,Result.andThen]
    rw [if_pos ⟨h0,by omega⟩]
    rfl
   have hm:=hb kn m cap .slice3Acap (by omega) (by omega)
   have hh:=hb kh h m.toNat .slice3B a1 (by omega)
   have hs:(Instr.sliceBounds true len cap none (some (.int kh h)) (some (.int kn m))).run P w=.ok (0,h.toNat,m.toNat) w:=by
    unfold Instr.sliceBounds
    simp [Result.andThen,hm,hh]
   simp [Instr.sliceAt,run_underlying ht,Result.andThen,Instr.slice,hs,run_sizeOf hi,cJ]
  .cases h
 .cases h
def XC (P:Program) (g:Option Bool) (t:TypeId) (x lo hi mx:Value) (K:Value->Prop):Option Prop :=
 match x,P.underlying t,lo,hi,mx with
 | .slice p len cap,some (.slice e),.int _ l,.int _ h,.int _ m =>
  match P.info? e with
  | some ie=>some (ob g (0<=l/\l<=h/\h<=m/\m<=cap)/\K (.slice (cJ p ie.size l.toNat m.toNat) (h.toNat - l.toNat) (m.toNat - l.toNat)))
  | none=>none
 | _,_,_,_,_=>none
theorem XD {P g t x lo hi mx K p} (h:XC P g t x lo hi mx K=some p) (hp:p):
  ∃ v,(D4 g->∀ w,(Instr.sliceAt t x (some lo) (some hi) (some mx)).run P w=.ok v w)/\K v:=by
 unfold XC at h
 split at h
 .rename_i q len cap e kl l kh h kn m ht
  split at h
  .rename_i ie hi
   cases h
   obtain ⟨h1,hk⟩:=hp
   refine ⟨_,λhg w=>?_,hk⟩
   obtain ⟨a0,a1,a2,a3⟩:=gK h1 hg
   have hb:∀ (k:IntKind) (n:Int) (y:Nat) (code:BoundsCode),0<=n->n.toNat<=y->(Instr.sliceBound (.int k n) y code).run P w=.ok n.toNat w:=by
    intro k n y code h0 h1
    unfold Instr.sliceBound
    simp only [asIntOf,Sem.run_bind,Sem.run_pure,Result.andThen]
    rw [if_pos ⟨h0,by omega⟩]
    rfl
   have hm:=hb kn m cap .slice3Acap (by omega) (by omega)
   have hh:=hb kh h m.toNat .slice3B (by omega) (by omega)
   have hl:=hb kl l h.toNat .slice3C (by omega) (by omega)
   have hs:(Instr.sliceBounds true len cap (some (.int kl l)) (some (.int kh h)) (some (.int kn m))).run P w=.ok (l.toNat,h.toNat,m.toNat) w:=by
    unfold Instr.sliceBounds
    simp [Result.andThen,hm,hh,hl]
   simp [Instr.sliceAt,run_underlying ht,Result.andThen,Instr.slice,hs,run_sizeOf hi,cJ]
  .cases h
 .cases h
def XE (P:Program) (t:TypeId) (K:Value->Prop):Prop :=
 match P.underlying t with
 | some (.tuple ts)=>OC P ts.toList λvs=>K (.tuple vs.toArray)
 | _=>S7 P t K
theorem nP {P t K} (h:XE P t K):∃ v,K v:=by
 unfold XE at h
 split at h
 .obtain ⟨vs,h⟩:=wE h;exact ⟨_,h⟩
 .exact zK h
def unk:Value:=.tuple #[.nilFunc]
def wG:Value->Bool
 | .tuple vs=>(match vs.toList with | [.nilFunc]=>true|_=>false)
 | _=>false
def OI (k:IntKind):Int->List Value->Option Int
 | x,[]=>some x
 | x,.int k' y :: r=>if k=k' then OI k (max x y) r else none
 | _,_=>none
def OJ (k:IntKind):Int->List Value->Option Int
 | x,[]=>some x
 | x,.int k' y :: r=>if k=k' then OJ k (min x y) r else none
 | _,_=>none
def JL (P:Program) (b:Builtin) (ts:Array TypeId) (args:List Value) (K:Value->Prop):Option Prop :=
 match b,args with
 | .len,[.slice _ n _]=>match ts[0]? with
  | some t=>match P.underlying t with|some (.slice _)=>some (K (.int .i64 n))|_=>none
  | none=>none
 | .len,[.string s]=>match ts[0]? with
  | some t=>match P.underlying t with|some .string=>some (K (.int .i64 s.size))|_=>none
  | none=>none
 | .cap,[.slice _ _ n]=>match ts[0]? with
  | some t=>match P.underlying t with|some (.slice _)=>some (K (.int .i64 n))|_=>none
  | none=>none
 | .len,[_]=>match ts[0]? with
  | some t=>match P.underlying t with|some (.array n _)=>some (K (.int .i64 n))|_=>none
  | none=>none
 | .max,.int k x :: r=>match OI k x r with|some n=>some (K (.int k n))|none=>none
 | .min,.int k x :: r=>match OJ k x r with|some n=>some (K (.int k n))|none=>none
 | _,_=>none
theorem UI {P:Program} {k:IntKind} {w:World}:∀ {l:List Value} {x n:Int},OI k x l=some n->((l.foldlM Builtin.max2 (.int k x):Sem Value)).run P w=.ok (.int k n) w
 | [],x,n,h=>by simp [OI] at h;subst h;simp
 | v :: r,x,n,h=>by
  cases v<;>simp [OI] at h
  obtain ⟨rfl,h⟩:=h
  rename_i y
  have ih:=UI (P:=P) (w:=w) h
  simp only [List.foldlM_cons,Builtin.max2,Sem.run_bind,Sem.run_pure,Result.andThen]
  have e:(if y > x then y else x)=max x y:=by
   rw [Int.max_def];split<;>split<;>omega
  rw [e];exact ih
theorem UJ {P:Program} {k:IntKind} {w:World}:∀ {l:List Value} {x n:Int},OJ k x l=some n->((l.foldlM Builtin.min2 (.int k x):Sem Value)).run P w=.ok (.int k n) w
 | [],x,n,h=>by simp [OJ] at h;subst h;simp
 | v :: r,x,n,h=>by
  cases v<;>simp [OJ] at h
  obtain ⟨rfl,h⟩:=h
  rename_i y
  have ih:=UJ (P:=P) (w:=w) h
  simp only [List.foldlM_cons,Builtin.min2,Sem.run_bind,Sem.run_pure,Result.andThen]
  have e:(if y<x then y else x)=min x y:=by
   rw [Int.min_def];split<;>split<;>omega
  rw [e];exact ih
theorem VV {P b ts t cs args K p} (h:JL P b ts args.toList K=some p) (hp:p):
  ∃ v,(∀ w,(builtin b ts t cs args).run P w=.ok (.value v) w)/\K v:=by
 obtain ⟨args⟩:=args
 simp only at h
 unfold JL at h
 split at h
 case h_7=>cases h
 case h_5 =>
  split at h
  .rename_i hf;cases h;exact ⟨_,λw=>by simp [builtin,Builtin.max_,UI hf,Result.andThen],hp⟩
  .cases h
 case h_6 =>
  split at h
  .rename_i hf;cases h;exact ⟨_,λw=>by simp [builtin,Builtin.min_,UJ hf,Result.andThen],hp⟩
  .cases h
 all_goals
  split at h
  .rename_i ht
   split at h
   .rename_i hu
    cases h
    refine ⟨_,λw=>?_,hp⟩
    first
     | (simp [builtin,Builtin.len_,ht,run_underlying hu,Result.andThen,goInt];done)
     | (simp [builtin,Builtin.cap_,ht,run_underlying hu,Result.andThen,goInt];done)
   .cases h
  .cases h
def aFc (P:Program) (op:BinOp) (t:TypeId) (x y:Value) (K:Value->Prop):Option Prop :=
 match op,P.underlying t,x,y with
 | .eql,some (.pointer _),.pointer p,.pointer none=>some (K (.bool p.isNone))
 | .neq,some (.pointer _),.pointer p,.pointer none=>some (K (.bool (!p.isNone)))
 | .eql,some (.slice _),.slice p _ _,.slice none _ _=>some (K (.bool p.isNone))
 | .neq,some (.slice _),.slice p _ _,.slice none _ _=>some (K (.bool (!p.isNone)))
 | .eql,some .bool,.bool a,.bool b=>some (K (.bool (a == b)))
 | .neq,some .bool,.bool a,.bool b=>some (K (.bool (a != b)))
 | _,_,_,_=>none
theorem a5h {P op t ox oy x y K p} (h:aFc P op t x y K=some p) (hp:p):
  ∃ v,(∀ w,(do eqGuard op t ox oy x y;binOp op t x y:Sem Value).run P w=.ok v w)/\K v:=by
 unfold aFc at h
 split at h
 case h_7=>cases h
 all_goals
  cases h
  refine ⟨_,λw=>?_,hp⟩
  rename_i ht
  simp only [eqGuard,binOp,Sem.run_bind,Sem.run_pure,Result.andThen,Op.equal,Op.maxDepth]
  rw [show (10000:Nat)=9999+1 from rfl]
  unfold Op.equalIn
  simp only [Sem.run_bind,run_underlying ht,Result.andThen,Sem.run_pure]
 case h_1 q=>cases q<;>simp
 case h_2 q=>cases q<;>simp
 case h_3 q _ _ _ _=>cases q<;>simp
 case h_4 q _ _ _ _=>cases q<;>simp
 case h_5=>simp
 case h_6=>simp [bne]
def D6 (P:Program) (xs ys:Array Value):List Field->Option Bool
 | []=>some true
 | f :: fs=>match f.name == "_" with
  | true=>none
  | false=>match P.underlying f.type,xs[f.offset]?,ys[f.offset]?,D6 P xs ys fs with
   | some (.int _),some (.int k a),some (.int k' b),some r=>if k=k' then some (decide (a=b)&&r) else none
   | some .bool,some (.bool a),some (.bool b),some r=>some ((a == b)&&r)
   | some .string,some (.string a),some (.string b),some r=>some (decide (a=b)&&r)
   | _,_,_,_=>none
theorem M6 {P:Program} {w:World} {d:Nat} {xs ys:Array Value}:∀ {fs:List Field} {r:Bool},D6 P xs ys fs=some r->(Op.eqFields (d+1) xs ys fs).run P w=.ok r w
 | [],r,h=>by simp [D6] at h;subst h;simp [Op.eqFields]
 | f :: fs,r,h=>by
  unfold D6 at h
  split at h
  .cases h
  .rename_i hname
   have hname:f.name ≠ "_" := by simpa using hname
   unfold Op.eqFields
   rw [if_pos hname]
   have go:∀ {t:TypeDesc} {a b:Value} {c r':Bool},P.underlying f.type=some t->X7 t=false->xs[f.offset]? = some a->ys[f.offset]? = some b->(Op.equalIn (d+1) f.type a b).run P w=.ok c w->D6 P xs ys fs=some r' ->
     (do let a <-part f.type xs f.offset;let b <-part f.type ys f.offset;let r <-Op.equalIn (d+1) f.type a b;if (!r)=true then pure false else Op.eqFields (d+1) xs ys fs:Sem Bool).run P w=.ok (c&&r') w:=by
    intro t a b c r' ht ha hx hy he hr
    have ih:=M6 (w:=w) (d:=d) hr
    simp only [Sem.run_bind,wF ht ha hx,wF ht ha hy,Result.andThen,he]
    cases c<;>simp [ih]
   split at h
   .rename_i ht hx hy hr
    split at h
    .rename_i hk
     subst hk
     cases h
     exact go ht rfl hx hy (by rw [run_equalIn_int w d f.type _ _ _ _ ht];congr 1) hr
    .cases h
   .rename_i ht hx hy hr
    cases h
    exact go ht rfl hx hy (run_equalIn_bool' w d f.type _ _ ht) hr
   .rename_i ht hx hy hr
    cases h
    exact go ht rfl hx hy (by rw [run_equalIn_string w d f.type _ _ ht,X8]) hr
   .cases h
def vX (P:Program) (t:TypeId):Bool := !P.stoodInHeld t && !P.eqGuardType P.depth t
def aFd (P:Program) (op:BinOp) (t:TypeId) (x y:Value) (K:Value->Prop):Option Prop :=
 match op,x,y with
 | .eql,.agg xs,.agg ys=>match P.underlying t with
  | some (.struct fs)=>match D6 P xs ys fs.toList with
   | some r=>some (vX P t=true/\K (.bool r))
   | none=>none
  | _=>none
 | .neq,.agg xs,.agg ys=>match P.underlying t with
  | some (.struct fs)=>match D6 P xs ys fs.toList with
   | some r=>some (vX P t=true/\K (.bool (!r)))
   | none=>none
  | _=>none
 | _,_,_=>none
theorem a5i {P op t ox oy x y K p} (h:aFd P op t x y K=some p) (hp:p):
  ∃ v,(∀ w,(do eqGuard op t ox oy x y;binOp op t x y:Sem Value).run P w=.ok v w)/\K v:=by
 have key:∀ {xs ys:Array Value} {fs:Array Field} {r:Bool} (w:World),P.underlying t=some (.struct fs)->P.stoodInHeld t=false->D6 P xs ys fs.toList=some r->(Op.equalIn 10000 t (.agg xs) (.agg ys)).run P w=.ok r w:=by
  intro xs ys fs r w ht hs hr
  have hf:P.fieldsOf t=fs:=by simp [Program.fieldsOf,ht]
  rw [show (10000:Nat)=9999+1 from rfl,run_equalIn_struct w 9999 t xs ys (by rw [hf];exact ht) hs,hf]
  exact M6 hr
 have ok:vX P t=true->P.stoodInHeld t=false/\P.eqGuardType P.depth t=false:=λh=>by simpa [vX] using h
 unfold aFd at h
 split at h
 .split at h
  .rename_i fs ht
   split at h
   .rename_i r hr
    cases h
    obtain ⟨h0,hp⟩:=hp
    obtain ⟨hs,hg⟩:=ok h0
    refine ⟨_,λw=>?_,hp⟩
    rw [Sem.run_bind,run_eqGuard_agg w .eql t ox oy _ _ hg]
    simp only [Result.andThen]
    rw [run_eql_struct,key w ht hs hr]
    rfl
   .cases h
  .cases h
 .split at h
  .rename_i fs ht
   split at h
   .rename_i r hr
    cases h
    obtain ⟨h0,hp⟩:=hp
    obtain ⟨hs,hg⟩:=ok h0
    refine ⟨_,λw=>?_,hp⟩
    rw [Sem.run_bind,run_eqGuard_agg w .neq t ox oy _ _ hg]
    simp only [Result.andThen]
    rw [run_neq_struct,key w ht hs hr]
    rfl
   .cases h
  .cases h
 .cases h
theorem mapA {α β:Type} (f:α->β) (a:Array α):(a.toList.map f).toArray=a.map f:=by apply Array.ext';simp
def zeroOf (P:Program) (t:TypeId):Option Value:=(P.info? t).bind (·.zero)
theorem BM {P t z w} (h:zeroOf P t=some z):(zeroValue t).run P w=.ok z w:=by
 unfold zeroOf at h
 cases hi:P.info? t with
 | none=>simp [hi] at h
 | some i =>
  simp [hi] at h
  simp [zeroValue,typeInfo,hi,h]
theorem range_zero:Array.range 0=#[]:=Array.ext (by simp) (by simp)
def a3r {α:Type _}:List Value->(List Value->α)->α
 | [],K=>K []
 | x :: r,K=>a3r r λr'=>K (x :: r')
theorem a1Q {α}:∀ (l:List Value) (K:List Value->α),a3r l K=K l
 | [],_=>rfl
 | x :: r,K=>by unfold a3r;rw [a1Q r]
def G8 (place:Nat->Option (Nat × Nat)) (cells:List Value):List (Nat × Value)->Option (List Value)
 | []=>some cells
 | (i,v) :: rest =>
  match place i with
  | none=>none
  | some (off,size) =>
   match Nat.beq v.cells.toList.length size&&Nat.ble (off+v.cells.toList.length) cells.length with
   | true=>a3r (cells.take off++v.cells.toList++cells.drop (off+size)) λcells=>G8 place cells rest
   | false=>none
theorem a1R (off):∀ (vs:List Value) (k:Nat) (cs:Array Value),off+k+vs.length<=cs.size ->
  (vs.zipIdx k).foldl (λcs (p:Value × Nat)=>cs.setIfInBounds (off+p.2) p.1) cs=(cs.toList.take (off+k)++vs++cs.toList.drop (off+k+vs.length)).toArray
 | [],k,cs,_=>by apply Array.ext';simp
 | v :: vs,k,cs,h=>by
  simp only [List.length_cons] at h
  rw [List.zipIdx_cons,List.foldl_cons,a1R off vs (k+1) _ (by simp;omega)]
  apply Array.ext'
  have hlt:off+k<cs.toList.length:=by simp;omega
  have e1:(cs.toList.set (off+k) v).take (off+(k+1))=cs.toList.take (off+k)++[v]:=by
   rw [show off+(k+1)=off+k+1 by omega,List.take_succ_eq_append_getElem (by simpa using hlt)]
   simp [List.take_set_of_le]
  have e2:(cs.toList.set (off+k) v).drop (off+(k+1)+vs.length)=cs.toList.drop (off+k+(vs.length+1)):=by
   rw [List.drop_set_of_lt (by omega)]
   congr 1
   omega
  simp only [Array.toList_setIfInBounds,e1,e2,List.length_cons]
  simp
theorem zM {place}:∀ {parts:List (Nat × Value)} {cells cs:List Value},G8 place cells parts=some cs->Instr.fill place cells.toArray parts=some cs.toArray
 | [],_,_,h=>by simp [G8] at h;simp [Instr.fill,h]
 | (i,v) :: rest,cells,cs,h=>by
  unfold G8 at h
  unfold Instr.fill
  split at h
  .cases h
  .rename_i off size hp
   split at h
   .rename_i hc
    rw [a1Q] at h
    simp only [Bool.and_eq_true] at hc
    have h1:v.cells.toList.length=size:=Nat.eq_of_beq_eq_true hc.1
    have h2:off+v.cells.toList.length<=cells.length:=Nat.le_of_ble_eq_true hc.2
    have ih:=zM h
    have h1':v.cells.size=size:=by simpa using h1
    have h2':off+v.cells.size<=cells.length:=by simpa using h2
    rw [hp]
    simp only
    rw [if_neg (by simp;omega)]
    have e:v.cells.zipIdx.foldl (λcs (x:Value × Nat)=>match x with|(c,j)=>cs.setIfInBounds (off+j) c) cells.toArray=(cells.take off++v.cells.toList++cells.drop (off+size)).toArray:=by
     have:=a1R off v.cells.toList 0 cells.toArray (by simpa using h2')
     rw [<-Array.foldl_toList,Array.toList_zipIdx]
     simp only [Nat.add_zero,h1] at this
     exact this
    rw [e]
    exact ih
   .cases h
def zN (n:Nat) (z:List Value):List Value:=(List.replicate n z).flatten
theorem a5j (n) (z:Array Value):(Array.range (n*z.size)).map (z[· % z.size]!)=(zN n z.toList).toArray:=by
 apply Array.ext'
 apply List.ext_getElem?
 intro i
 by_cases h0:z.size=0
 .have:z.toList=[]:=by cases z;simp_all
  simp [zN,this,h0]
 have key:∀ (n i:Nat),(zN n z.toList)[i]? = if i<n*z.size then z.toList[i % z.size]? else none:=by
  intro n
  induction n with
  | zero=>intro i;simp [zN]
  | succ n ih =>
   intro i
   have e:zN (n+1) z.toList=z.toList++zN n z.toList:=by simp [zN,List.replicate_succ]
   rw [e,List.getElem?_append,ih]
   simp only [Array.length_toList]
   by_cases h1:i<z.size
   .rw [if_pos h1,if_pos (by rw [Nat.succ_mul];omega),Nat.mod_eq_of_lt h1]
   .rw [if_neg h1]
    have e2:(i - z.size) % z.size=i % z.size:=(Nat.mod_eq_sub_mod (Nat.le_of_not_lt h1)).symm
    rw [e2]
    by_cases h2:i - z.size<n*z.size
    .rw [if_pos h2,if_pos (by rw [Nat.succ_mul];omega)]
    .rw [if_neg h2,if_neg (by rw [Nat.succ_mul];omega)]
 rw [key]
 simp only [Array.toList_map,Array.toList_range,List.getElem?_map,List.getElem?_range]
 by_cases h:i<n*z.size
 .have hm:i % z.size<z.size:=Nat.mod_lt _ (by omega)
  simp [h,hm]
 .simp [h]
def JM (P:Program) (t:TypeId) (parts:List (Nat × Value)) (K:Value->Prop):Prop :=
 match P.underlying t,zeroOf P t with
 | some (.struct fs),some z =>
  match G8 (λi=>match fs[i]? with|some f=>(match P.info? f.type with|some x=>some (f.offset,x.size)|none=>none)|none=>none) z.cells.toList parts,fs.toList.all (λf=>(P.info? f.type).isSome) with
  | some cs,true=>K (.agg cs.toArray)
  | _,_=>False
 | some (.array _ e),some z =>
  match P.info? e with
  | some x=>match G8 (λi=>some (i*x.size,x.size)) z.cells.toList parts with
   | some cs=>K (.agg cs.toArray)
   | none=>False
  | none=>False
 | _,_=>False
theorem run_places {P w}:∀ (l:List Field),l.all (λf=>(P.info? f.type).isSome)=true ->
  (l.mapM λf=>(do pure (f.offset,<-sizeOf f.type):Sem (Nat × Nat))).run P w=.ok (l.map λf=>(f.offset,aA3 P f.type)) w
 | [],_=>by simp
 | f :: r,h=>by
  simp only [List.all_cons,Bool.and_eq_true] at h
  obtain ⟨x,hx⟩:=Option.isSome_iff_exists.1 h.1
  have ih:=run_places (P:=P) (w:=w) r h.2
  rw [List.mapM_cons]
  simp only [Sem.run_bind,run_sizeOf hx,Result.andThen,Sem.run_pure,ih,List.map_cons]
  simp [aA3,hx]
theorem a5k {p q} (h:∀ i,p i=q i) (c l):G8 p c l=G8 q c l:=by
 have:p=q:=funext h
 rw [this]
theorem UK {P t parts K} (h:JM P t parts.toList K):
  ∃ v,(∀ w,(Instr.build t parts).run P w=.ok v w)/\K v:=by
 unfold JM at h
 split at h
 .rename_i fs z ht hz
  split at h
  .rename_i cs hf hall
   refine ⟨_,λw=>?_,h⟩
   have hpl:=run_places (P:=P) (w:=w) fs.toList hall
   have aRp:G8 (λi=>(fs.toList.map λf=>(f.offset,aA3 P f.type)).toArray[i]?) z.cells.toList parts.toList=some cs:=by
    rw [<-hf]
    apply a5k
    intro i
    simp only [List.getElem?_toArray,List.getElem?_map,Array.getElem?_toList]
    cases hi:fs[i]? with
    | none=>rfl
    | some f =>
     have hm:f∈fs.toList:=by simpa using Array.mem_of_getElem? hi
     obtain ⟨x,hx⟩:=Option.isSome_iff_exists.1 (List.all_eq_true.1 hall f hm)
     simp [aA3,hx]
   have:=zM aRp
   unfold Instr.build
   rw [Sem.run_bind,BM hz]
   simp only [Result.andThen]
   rw [Sem.run_bind,run_underlying ht]
   simp only [Result.andThen]
   rw [Sem.run_bind,Array.mapM_eq_mapM_toList,map_eq_pure_bind,Sem.run_bind,hpl]
   simp only [Result.andThen,Sem.run_pure]
   rw [show z.cells=z.cells.toList.toArray by simp,this]
   rfl
  .exact h.elim
 .rename_i len e z ht hz
  split at h
  .rename_i x hx
   split at h
   .rename_i cs hf
    refine ⟨_,λw=>?_,h⟩
    have:=zM hf
    unfold Instr.build
    rw [Sem.run_bind,BM hz]
    simp only [Result.andThen]
    rw [Sem.run_bind,run_underlying ht]
    simp only [Result.andThen]
    rw [Sem.run_bind,run_sizeOf hx]
    simp only [Result.andThen]
    rw [show z.cells=z.cells.toList.toArray by simp,this]
    rfl
   .exact h.elim
  .exact h.elim
 .exact h.elim
theorem LH {P t parts w K} (h:JM P t parts.toList K):
  ∃ v,(Instr.build t parts).run P w=.ok v w/\K v :=
 let ⟨v,h1,h2⟩:=UK h
 ⟨v,h1 w,h2⟩
def iY (P:Program) (wr:Bool) (o:Oper) (ρ:Operand->Value) (w:World) (g:Option Bool) (K:Value->Prop):Option Prop :=
 match o.op with
 | .move x=>some (K (ρ x))
 | .assign x=>some (K (ρ x))
 | .load t x=>match ρ x with
  | .pointer (some ⟨b,off,none⟩)=>some (D5 P t w g b off K)
  | _=>none
 | .nilCheck x=>match ρ x with
  | .pointer p=>some (vC g p λb off=>K (.pointer (some ⟨b,off,none⟩)))
  | .func (.func f) a b=>some (K (.func (.func f) a b))
  | _=>none
 | .binOp op t x y _ =>
  match aNx wr g op (ρ x) (ρ y) K with
  | some p=>some p
  | none=>match aFc P op t (ρ x) (ρ y) K with
   | some p=>some p
   | none=>match aFd P op t (ρ x) (ρ y) K with
   | some p=>some p
   | none=>match op with
    | .eql | .neq=>some (∃ b:Bool,ob g (∀ w',(do eqGuard op t x y (ρ x) (ρ y);binOp op t (ρ x) (ρ y):Sem Value).run P w'=.ok (.bool b) w')/\K (.bool b))
    | _=>some (XE P o.type λv=>ob g (∀ w',(binOp op t (ρ x) (ρ y)).run P w'=.ok v w')/\K v)
 | .unOp op _ x=>match op,ρ x with
  | .not,.bool b=>some (K (.bool (!b)))
  | .neg,.int k n=>some (ari wr g k (0 - n) K)
  | _,_=>none
 | .convert src dst x=>match P.underlying src,P.underlying dst,ρ x with
  | some _,some (.int k),.int k' n=>if k=k' then some (ob g (k.wrap n=n)/\K (.int k n)) else some (K (.int k (k.wrap n)))
  | some .string,some .string,.string s=>some (K (.string s))
  | _,_,_=>none
 | .fieldAddr t x f=>G6 P t (ρ x) f K
 | .field t x f=>a3p P t (ρ x) f K
 | .indexAddr t x i=>G7 P g t (ρ x) (ρ i) K
 | .index t x i=>a3o P g t (ρ x) (ρ i) K
 | .slice t x lo hi none=>a3q P g t (ρ x) (lo.map ρ) (hi.map ρ) K
 | .extract x i=>match ρ x with
  | .tuple vs=>match vs[i]? with
   | some v=>some (K v)
   | none=>none
  | _=>none
 | .makeInterface t x=>match P.underlying t with
  | some (.interface _)=>none
  | some _=>some (K (.iface t (ρ x)))
  | none=>none
 | .makeFunc fn a b=>some (K (.func fn (a.toList.map ρ).toArray (b.toList.map ρ).toArray))
 | .lookup t m k ok=>some (XE P o.type λv=>ob g (∀ w',w'.heap=w.heap->(Instr.lookup t (ρ m) (ρ k) ok).run P w'=.ok v w')/\K v)
 | .call c=>match c.callee with
  | .builtin b=>match JL P b c.argTypes (c.args.toList.map ρ) K with
   | some p=>some p
   | none=>match b with
    | .len=>some (∃ n:Int,ob g (∀ w',w'.heap=w.heap->(Builtin.len_ c.argTypes o.type (c.args.toList.map ρ).toArray).run P w'=.ok (.int .i64 n) w')/\K (.int .i64 n))
    | _=>none
  | _=>none
 | .build t parts=>some (JM P t (parts.toList.map λp=>(p.1,ρ p.2)) K)
 | .slice t x none (some hi) (some mx)=>XA P g t (ρ x) (ρ hi) (ρ mx) K
 | .slice t x (some lo) (some hi) (some mx)=>XC P g t (ρ x) (ρ lo) (ρ hi) (ρ mx) K
 | _=>none
def iG (P:Program) (o:Oper) (ρ:Operand->Value) (K:Value->Prop):Bool :=
 match o.op with
 | .load .. => true
 | .lookup .. => true
 | .call c=>match c.callee with
  | .builtin b=>match JL P b c.argTypes (c.args.toList.map ρ) K with
   | some _=>false
   | none=>true
  | _=>true
 | _=>false
theorem AL {P wr o ρ w g K p} (h:iY P wr o ρ w g K=some p) (hp:p):
  ∃ v,(D4 g->∀ w',(iG P o ρ K=true->w'.heap=w.heap)->(execOp ρ o).run P w'=.ok (.value v) w')/\K v:=by
 unfold iY at h
 split at h
 case h_1 x hop=>cases h;exact ⟨_,λ_ w' _=>by simp [execOp,hop],hp⟩
 case h_2 x hop=>cases h;exact ⟨_,λ_ w' _=>by simp [execOp,hop],hp⟩
 case h_3 t x hop =>
  split at h
  .rename_i b off hx
   cases h
   obtain ⟨v,h1,h2⟩:=tU hp
   exact ⟨v,λhg w' hw=>by simp [execOp,hop,hx,Instr.loadAt,Instr.sureAddr,h1 hg w' (hw (by simp [iG,hop])),Result.andThen],h2⟩
  .cases h
 case h_4 x hop =>
  split at h
  .rename_i q hx
   cases h
   obtain ⟨b,off,h1,h2⟩:=a5e hp
   exact ⟨_,λhg w' hw=>by have:=gK h1 hg;subst this;simp [execOp,hop,hx],h2⟩
  .rename_i f a b hx
   cases h
   exact ⟨_,λhg w' hw=>by simp [execOp,hop,hx],hp⟩
  .cases h
 case h_5 op t x y ty hop =>
  split at h
  .rename_i q hq
   cases h
   obtain ⟨v,h1,h2⟩:=a8p (P:=P) (t:=t) (ox:=x) (oy:=y) hq hp
   refine ⟨v,λhg w' _=>?_,h2⟩
   have:=h1 hg w'
   simp only [execOp,hop]
   rw [Sem.run_bind,this]
   rfl
  .split at h
   .rename_i q hq
    cases h
    obtain ⟨v,h1,h2⟩:=a5h (P:=P) (ox:=x) (oy:=y) hq hp
    refine ⟨v,λhg w' _=>?_,h2⟩
    simp only [execOp,hop]
    rw [Sem.run_bind,h1 w']
    rfl
   .split at h
    .rename_i q hq
     cases h
     obtain ⟨v,h1,h2⟩:=a5i (P:=P) (ox:=x) (oy:=y) hq hp
     refine ⟨v,λhg w' _=>?_,h2⟩
     simp only [execOp,hop]
     rw [Sem.run_bind,h1 w']
     rfl
    split at h
    .cases h
     obtain ⟨b,h1,h2⟩:=hp
     refine ⟨_,λhg w' _=>?_,h2⟩
     simp only [execOp,hop]
     rw [Sem.run_bind,gK h1 hg w']
     rfl
    .cases h
     obtain ⟨b,h1,h2⟩:=hp
     refine ⟨_,λhg w' _=>?_,h2⟩
     simp only [execOp,hop]
     rw [Sem.run_bind,gK h1 hg w']
     rfl
    .rename_i aXV aXW
     cases h
     obtain ⟨v,h1,h2⟩:=nP hp
     refine ⟨v,λhg w' _=>?_,h2⟩
     have h3:=gK h1 hg w'
     have h4:(eqGuard op t x y (ρ x) (ρ y)).run P w'=.ok () w':=by
      cases op<;>first|exact absurd rfl aXV|exact absurd rfl aXW|simp [eqGuard]
     simp only [execOp,hop]
     rw [Sem.run_bind,Sem.run_bind,h4]
     simp only [Result.andThen,h3]
     rfl
 case h_6 op t x hop =>
  split at h
  .rename_i b hx;cases h;exact ⟨_,λ_ w' _=>by simp [execOp,hop,hx,Op.unary,Result.andThen],hp⟩
  .rename_i k n hx
   cases h
   obtain ⟨v,h1,h2⟩:=BL hp
   exact ⟨v,λhg w' _=>by rw [h1 hg];simp [execOp,hop,hx,Op.unary,Op.intArith,Result.andThen],h2⟩
  .cases h
 case h_7 src dst x hop =>
  split at h
  .rename_i d k k' n hs hd hx
   split at h
   .rename_i hk
    subst hk
    cases h
    obtain ⟨h1,h2⟩:=hp
    refine ⟨_,λhg w' _=>?_,h2⟩
    have h3:=gK h1 hg
    simp [execOp,hop,hx,convert,run_underlying hs,run_underlying hd,Conv.intToInt,Result.andThen,h3]
   .cases h
    exact ⟨_,λhg w' _=>by simp [execOp,hop,hx,convert,run_underlying hs,run_underlying hd,Conv.intToInt,Result.andThen],hp⟩
  .rename_i s hs hd hx
   cases h
   exact ⟨_,λhg w' _=>by simp [execOp,hop,hx,convert,run_underlying hs,run_underlying hd,Result.andThen],hp⟩
  .cases h
 case h_8 t x f hop =>
  obtain ⟨v,h1,h2⟩:=OD h hp
  exact ⟨v,λ_ w' _=>by simp [execOp,hop,h1 w',Result.andThen],h2⟩
 case h_9 t x f hop =>
  obtain ⟨v,h1,h2⟩:=a01 h hp
  exact ⟨v,λ_ w' _=>by simp [execOp,hop,h1 w',Result.andThen],h2⟩
 case h_10 t x i hop =>
  obtain ⟨v,h1,h2⟩:=OE h hp
  exact ⟨v,λhg w' _=>by simp [execOp,hop,h1 hg w',Result.andThen],h2⟩
 case h_11 t x i hop =>
  obtain ⟨v,h1,h2⟩:=a00 h hp
  exact ⟨v,λhg w' _=>by simp [execOp,hop,h1 hg w',Result.andThen],h2⟩
 case h_12 t x lo hi hop =>
  obtain ⟨v,h1,h2⟩:=a02 h hp
  exact ⟨v,λhg w' _=>by simp [execOp,hop,h1 hg w',Result.andThen],h2⟩
 case h_13 x i hop =>
  split at h
  .rename_i vs hx
   split at h
   .rename_i v hv
    cases h
    exact ⟨_,λ_ w' _=>by simp [execOp,hop,hx,Instr.extract,hv,Result.andThen],hp⟩
   .cases h
  .cases h
 case h_14 t x hop =>
  split at h
  .cases h
  .rename_i d hn ht
   cases h
   refine ⟨_,λ_ w' _=>?_,hp⟩
   simp only [execOp,hop,Sem.run_bind,Instr.makeInterface,run_underlying ht,Result.andThen]
   cases d<;>first|rfl|exact absurd rfl (hn _)
  .cases h
 case h_15 fn a b hop=>cases h;exact ⟨_,λ_ w' _=>by simp [execOp,hop,Instr.makeFunc,Result.andThen,<-mapA],hp⟩
 case h_16 t m k ok hop =>
  cases h
  obtain ⟨v,h1,h2⟩:=nP hp
  exact ⟨v,λhg w' hw=>by simp [execOp,hop,gK h1 hg w' (hw (by simp [iG,hop])),Result.andThen],h2⟩
 case h_17 c hop =>
  split at h
  .rename_i b hc
   rw [show c.args.toList.map ρ=(c.args.map ρ).toList by simp] at h
   have hmap:c.args.toList.map ρ=(c.args.map ρ).toList:=by simp
   split at h
   .rename_i p' hp'
    cases h
    obtain ⟨v,h1,h2⟩:=VV (t:=o.type) (cs:=c.args.map fun | .const _=>true|_=>false) hp' hp
    refine ⟨v,λ_ w' _=>?_,h2⟩
    simp only [execOp,hop,Sem.run_bind,resolve,hc,Sem.run_pure,Result.andThen,invoke]
    exact h1 w'
   .rename_i hnone
    split at h
    .cases h
     obtain ⟨n,h1,h2⟩:=hp
     refine ⟨_,λhg w' hw=>?_,h2⟩
     have h3:=gK h1 hg w' (hw (by simp only [iG,hop,hc,hmap,hnone]))
     rw [Array.toArray_toList] at h3
     simp only [execOp,hop,Sem.run_bind,resolve,hc,Sem.run_pure,Result.andThen,invoke,builtin,h3]
    .cases h
  .cases h
 case h_18 t parts hop =>
  cases h
  rw [show (parts.toList.map λp=>(p.1,ρ p.2))=(parts.map λ(i,x)=>(i,ρ x)).toList by simp] at hp
  obtain ⟨v,h1,h2⟩:=UK hp
  exact ⟨v,λ_ w' _=>by simp only [execOp,hop,Sem.run_bind,h1,Sem.run_pure,Result.andThen],h2⟩
 case h_19 t x hi mx hop =>
  obtain ⟨v,h1,h2⟩:=XB h hp
  exact ⟨v,λhg w' _=>by simp [execOp,hop,h1 hg w',Result.andThen],h2⟩
 case h_20 t x lo hi mx hop =>
  obtain ⟨v,h1,h2⟩:=XD h hp
  exact ⟨v,λhg w' _=>by simp [execOp,hop,h1 hg w',Result.andThen],h2⟩
 case h_21=>cases h
theorem wH {P wr o ρ w g K p} (h:iY P wr o ρ w g K=some p) (hp:p):
  ∃ v,(D4 g->∀ w',w'.heap=w.heap->(execOp ρ o).run P w'=.ok (.value v) w')/\K v :=
 let ⟨v,h1,h2⟩:=AL h hp
 ⟨v,λhg w' hw=>h1 hg w' λ_=>hw,h2⟩
end Go.Vc
end

section
namespace Go.Vc
variable {ds:List Deferred}
open Go.RowKit
def BN (P:Program) (K:Value->World->Prop):Result Next->Prop
 | .ok (.value v) w=>K v w
 | .ok .skip w=>K undef w
 | .ok (.enter f args) w=>Calls P f args w λe w'=>∃ v,e=.returned v/\K v w'
 | _=>False
def qY (P:Program) (t:TypeId) (n:Nat) (parts:List (Nat × Value)) (w:World) (K:Value->World->Prop):Prop :=
 match P.underlying t with
 | some (.slice e) =>
  match P.info? e,zeroOf P e with
  | some i,some z =>
   match Nat.ble (n*i.size) 16777216&&Nat.beq i.size z.cells.toList.length with
   | true =>
    match G8 (λj=>some (j*i.size,i.size)) (zN n z.cells.toList) parts with
    | some cells=>∀ w',w'=w.alloc (.cells cells.toArray e)->K (.slice (some ⟨w.heap.size,0,none⟩) n n) w'
    | none=>False
   | false=>False
  | _,_=>False
 | _=>False
theorem XF {P w} (cells e):(newRow e cells).run P w=.ok ⟨w.heap.size,0,none⟩ (w.alloc (.cells cells e)):=by
 simp [newRow,newObj,Sem.run,Result.andThen]
theorem xA {P t n parts w K} (h:qY P t n parts.toList w K):
  ∃ v w',(Instr.buildSlice t n parts).run P w=.ok v w'/\K v w':=by
 unfold qY at h
 split at h
 .rename_i e ht
  split at h
  .rename_i i z hi hz
   split at h
   .rename_i hn
    simp only [Bool.and_eq_true] at hn
    have hsz:i.size=z.cells.size:=by have:=Nat.eq_of_beq_eq_true hn.2;simpa using this
    have hle:n*i.size<=16777216:=Nat.le_of_ble_eq_true hn.1
    split at h
    .rename_i cells hf
     refine ⟨_,_,?_,h _ rfl⟩
     have e1:¬ (n*i.size > 2 ^ 24):=by omega
     have hmk:=zM hf
     unfold Instr.buildSlice
     rw [Sem.run_bind,run_underlying ht]
     simp only [Result.andThen]
     rw [Sem.run_bind,run_sizeOf hi]
     simp only [Result.andThen,if_neg e1]
     by_cases h0:n*i.size=0
     .have hz0:zN n z.cells.toList=[]:=by
       have hl:(zN n z.cells.toList).length=n*i.size:=by rw [hsz];simp [zN,List.length_flatten]
       rw [h0] at hl
       exact List.eq_nil_of_length_eq_zero hl
      rw [hz0] at hmk
      simp [h0,range_zero,hmk,Result.andThen,XF]
     .have hz1:=a5j n z.cells
      rw [<-hsz] at hz1
      simp only [h0,if_false,Sem.run_bind,BM hz,Result.andThen,Sem.run_pure]
      rw [<-hsz,hz1,hmk]
      simp [Result.andThen,XF]
    .exact h.elim
   .exact h.elim
  .exact h.elim
 .exact h.elim
def uF (P:Program) (t:TypeId) (l c:Value) (w:World) (K:Value->World->Prop):Prop :=
  match P.underlying t,l,c with
  | some (.slice e),.int .i64 l,.int .i64 c =>
    match P.info? e,zeroOf P e with
    | some i,some z =>
      (0<=l/\l<=c/\i.bytes*c<=281474976710656/\c<=9223372036854775807) /\
        (if i.size=1/\mU z=true then ∀ w',w'=w.alloc (.cells (List.replicate c.toNat z).toArray e)->K (.slice (some ⟨w.heap.size,0,none⟩) l.toNat c.toNat) w'
         else if i.size=z.cells.toList.length/\i.size≠0 then ∀ w',w'=w.alloc (.cells (zN c.toNat z.cells.toList).toArray e)->K (.slice (some ⟨w.heap.size,0,none⟩) l.toNat c.toNat) w'
         else False)
    | _,_=>False
  | _,_,_=>False
theorem a03 (z n):(Array.range n).map ((#[z]:Array Value)[· % (#[z]:Array Value).size]!)=Array.replicate n z:=by
 apply Array.ext
 .simp
 .intro i h1 h2
  simp [Nat.mod_one]
theorem run_makeSlice {P t e i z} {l c:Int} {w} (ht:P.underlying t=some (.slice e)) (hi:P.info? e=some i) (hz:zeroOf P e=some z) (h:0<=l/\l<=c/\i.bytes*c<=281474976710656/\c<=9223372036854775807) (hsz:i.size≠0):
  (Instr.makeSlice t (.int .i64 l) (.int .i64 c)).run P w=.ok (.slice (some ⟨w.heap.size,0,none⟩) l.toNat c.toNat) (w.alloc (.cells ((Array.range (c.toNat*i.size)).map (z.cells[· % z.cells.size]!)) e)):=by
 obtain ⟨h1,h2,h3,h4⟩:=h
 have hl:IntKind.i64.wrap l=l:=IntWalk.i64_in l (by omega)
 have hc:IntKind.i64.wrap c=c:=IntWalk.i64_in c (by omega)
 have ht1:(typeInfo e).run P w=.ok i w:=by simp [typeInfo,hi]
 have hai:∀ n:Int,(asInt (.int .i64 n)).run P w=.ok n w:=λn=>by simp [asInt,asIntOf,Result.andThen]
 have e1:((decide (c<0)||decide ((i.bytes:Int)*c > 2 ^ 48))||decide (l<0)||decide (l > c))=false:=by
  simp;omega
 have aFf:(askRoom (c.toNat*i.bytes)).run P w=.ok () w:=by unfold askRoom;split<;>simp [mark,Sem.run]
 have hro:∀ (cells:Array Value),(newRow e cells).run P w=.ok ⟨w.heap.size,0,none⟩ (w.alloc (.cells cells e)):=λcells=>by simp [newRow,newObj,Sem.run,Result.andThen]
 unfold Instr.makeSlice
 simp only [Sem.run_bind,run_underlying ht,Result.andThen,hai,ht1,hl,hc]
 rw [if_neg (by rw [e1];simp)]
 simp only [Sem.run_bind,aFf,Result.andThen,run_sizeOf hi]
 by_cases h0:c.toNat*i.size=0
 .rw [h0]
  simp [hro,range_zero,Result.andThen]
 .simp [h0,BM hz,Result.andThen,hro]
theorem zO {P t l c w K} (h:uF P t l c w K):
  ∃ v w',(Instr.makeSlice t l c).run P w=.ok v w'/\K v w':=by
 unfold uF at h
 split at h
 .rename_i e l c ht
  split at h
  .rename_i i z hi hz
   obtain ⟨hb,h⟩:=h
   split at h
   .rename_i hc
    have hr:=run_makeSlice (P:=P) (w:=w) ht hi hz hb (by omega)
    have hcells:z.cells=#[z]:=by cases z<;>first|rfl|cases hc.2
    rw [hc.1,Nat.mul_one,hcells,a03,<-List.toArray_replicate] at hr
    exact ⟨_,_,hr,h _ rfl⟩
   .split at h
    .rename_i hc
     have hr:=run_makeSlice (P:=P) (w:=w) ht hi hz hb hc.2
     have hz1:=a5j c.toNat z.cells
     have hsz:i.size=z.cells.size:=by simpa using hc.1
     rw [hsz,hz1] at hr
     exact ⟨_,_,hr,h _ rfl⟩
    .exact h.elim
  .exact h.elim
 .exact h.elim
def aJx (P:Program) (ex:Nat->Option TypeId) (i:Nat) (K:Value->Prop):Prop :=
 match ex i with
 | some t=>S7 P t K
 | none=>∃ v,K v
theorem a1S {P ex i K} (h:aJx P ex i K):∃ v,K v:=by
 unfold aJx at h
 split at h
 .exact zK h
 .exact h
def gT (d:Option Tmp) (i:Nat):List Oper->Option TypeId
 | []=>none
 | o :: r=>match o.op,d with
  | .extract (.tmp t) j,some t'=>match Nat.beq t t'&&Nat.beq i j with
   | true=>some o.type
   | false=>gT d i r
  | _,_=>gT d i r
def aCu (P:Program) (ex:Nat->Option TypeId) (o:Oper) (ρ:Operand->Value) (w:World) (K:Value->World->Prop):Prop :=
 match o.op with
 | .store t x y=>match ρ x with
  | .pointer (some ⟨b,off,none⟩)=>WS P t w b off (ρ y) λw'=>K undef w'
  | _=>False
 | .box t x=>∀ w',w'=w.alloc (.cells (ρ x).cells t)->K (.pointer (some ⟨w.heap.size,0,none⟩)) w'
 | .alloc t=>match zeroOf P t with
  | some z=>∀ w',w'=w.alloc (.cells z.cells t)->K (.pointer (some ⟨w.heap.size,0,none⟩)) w'
  | none=>False
 | .build t parts=>JM P t (parts.toList.map λp=>(p.1,ρ p.2)) λv=>K v w
 | .buildSlice t n parts=>qY P t n (parts.toList.map λp=>(p.1,ρ p.2)) w K
 | .makeSlice t l c=>uF P t (ρ l) (ρ c) w K
 | .makeMap _ none=>∀ w',w'=w.alloc (.map #[] 0)->K (.map (some w.heap.size)) w'
 | .mapUpdate t m k x=>∃ w',(Instr.mapUpdate t (ρ m) (ρ k) (ρ x)).run P w=.ok () w'/\K undef w'
 | .mapEntry t m k=>match P.underlying t with
  | some (.map _ e)=>S7 P e λv=>∃ (n:Int) (w':World),(Instr.mapEntry t (ρ m) (ρ k)).run P w=.ok (.tuple #[v,.int .i64 n]) w'/\K (.tuple #[v,.int .i64 n]) w'
  | _=>False
 | .entryStore t m s x=>∃ w',(Instr.entryStore t (ρ m) (ρ s) (ρ x)).run P w=.ok () w'/\K undef w'
 | .range t x=>∃ p w',(Instr.range t (ρ x)).run P w=.ok (.pointer p) w'/\K (.pointer p) w'
 | .next it false=>(∃ w',(Instr.next (ρ it) false o.type).run P w=.ok (.tuple #[.bool false]) w'/\K (.tuple #[.bool false]) w') \/
  (∃ (k v:Value) (w':World),(Instr.next (ρ it) false o.type).run P w=.ok (.tuple #[.bool true,k,v]) w'/\K (.tuple #[.bool true,k,v]) w')
 | .next it true=>(∃ w',(Instr.next (ρ it) true o.type).run P w=.ok (.tuple #[.bool false]) w'/\K (.tuple #[.bool false]) w') \/
  (∃ (k v:Int) (w':World),(Instr.next (ρ it) true o.type).run P w=.ok (.tuple #[.bool true,.int .i64 k,.int .i32 v]) w'/\K (.tuple #[.bool true,.int .i64 k,.int .i32 v]) w')
 | .entry it=>aJx P ex 0 λk=>aJx P ex 1 λv=>∃ w',(Instr.entry (ρ it)).run P w=.ok (.tuple #[k,v]) w'/\K (.tuple #[k,v]) w'
 | .convert src dst x=>XE P o.type λv=>∃ w',(convert src dst (ρ x)).run P w=.ok v w'/\K v w'
 | .call c =>
  match c.callee with
  | .builtin b=>XE P o.type λv=>∃ w',(builtin b c.argTypes o.type (c.args.toList.map fun | .const _=>true|_=>false).toArray (c.args.toList.map ρ).toArray).run P w=.ok (.value v) w'/\K v w'
  | .value f =>
   match ρ f with
   | .func (.func fid) first captured =>
    match P.funcs[fid]? with
    | some fn=>if fn.body.isSome=true/\(fn.name == "runtime.NumGoroutine")=false then (match aJv fn.name with|true=>aMm P fid (first.toList++c.args.toList.map ρ++captured.toList).toArray w K|false=>aE8 P fid (first.toList++c.args.toList.map ρ++captured.toList).toArray w K) else XE P o.type λv=>∃ w',(callFunc fid (first.toList++c.args.toList.map ρ++captured.toList).toArray).run P w=.ok (.value v) w'/\K v w'
    | none=>False
   | _=>False
  | _=>BN P K ((execOp ρ o).run P w)
 | _=>BN P K ((execOp ρ o).run P w)
theorem D7 {P ex o ρ w K} (h:aCu P ex o ρ w K):BN P K ((execOp ρ o).run P w):=by
 unfold aCu at h
 split at h
 case h_1 t x y hop =>
  split at h
  .rename_i b off hx
   obtain ⟨w',h1,h2⟩:=LG h
   simp only [execOp,hop,hx,Instr.storeAt,Instr.sureAddr,Sem.run_bind,Sem.run_pure,Result.andThen,h1]
   exact h2
  .exact h.elim
 case h_2 t x hop =>
  simp only [execOp,hop,Instr.box,newVar,newRow,newObj,Sem.run_bind,Sem.run,Sem.run_pure,Result.andThen]
  exact h _ rfl
 case h_3 t hop =>
  split at h
  .rename_i z hz
   simp only [execOp,hop,Instr.alloc,newVar,newRow,newObj,Sem.run_bind,BM hz,Sem.run,Sem.run_pure,Result.andThen]
   exact h _ rfl
  .exact h.elim
 case h_4 t parts hop =>
  rw [show (parts.toList.map λp=>(p.1,ρ p.2))=(parts.map λ(i,x)=>(i,ρ x)).toList by simp] at h
  obtain ⟨v,h1,h2⟩:=LH (w:=w) h
  simp only [execOp,hop,Sem.run_bind,h1,Sem.run_pure,Result.andThen]
  exact h2
 case h_5 t n parts hop =>
  rw [show (parts.toList.map λp=>(p.1,ρ p.2))=(parts.map λ(i,x)=>(i,ρ x)).toList by simp] at h
  obtain ⟨v,w',h1,h2⟩:=xA h
  simp only [execOp,hop,Sem.run_bind,h1,Sem.run_pure,Result.andThen]
  exact h2
 case h_6 t l c hop =>
  obtain ⟨v,w',h1,h2⟩:=zO h
  simp only [execOp,hop,Sem.run_bind,h1,Sem.run_pure,Result.andThen]
  exact h2
 case h_7 t hop =>
  simp only [execOp,hop,Option.map_none,Instr.makeMap,newObj,Sem.run_bind,Sem.run,Sem.run_pure,Result.andThen]
  exact h _ rfl
 case h_8 t m k x hop =>
  obtain ⟨w',h1,h2⟩:=h
  simp only [execOp,hop,Sem.run_bind,h1,Sem.run_pure,Result.andThen]
  exact h2
 case h_9 t m k hop =>
  split at h
  .obtain ⟨v,n,w',h1,h2⟩:=zK h
   simp only [execOp,hop,Sem.run_bind,h1,Sem.run_pure,Result.andThen]
   exact h2
  .exact h.elim
 case h_10 t m s x hop =>
  obtain ⟨w',h1,h2⟩:=h
  simp only [execOp,hop,Sem.run_bind,h1,Sem.run_pure,Result.andThen]
  exact h2
 case h_11 t x hop =>
  obtain ⟨p,w',h1,h2⟩:=h
  simp only [execOp,hop,Sem.run_bind,h1,Sem.run_pure,Result.andThen]
  exact h2
 case h_12 it hop =>
  rcases h with ⟨w',h1,h2⟩|⟨k,v,w',h1,h2⟩ <;>
  .simp only [execOp,hop,Sem.run_bind,h1,Sem.run_pure,Result.andThen]
   exact h2
 case h_13 it hop =>
  rcases h with ⟨w',h1,h2⟩|⟨k,v,w',h1,h2⟩ <;>
  .simp only [execOp,hop,Sem.run_bind,h1,Sem.run_pure,Result.andThen]
   exact h2
 case h_14 it hop =>
  obtain ⟨k,h⟩:=a1S h
  obtain ⟨v,w',h1,h2⟩:=a1S h
  simp only [execOp,hop,Sem.run_bind,h1,Sem.run_pure,Result.andThen]
  exact h2
 case h_15 src dst x hop =>
  obtain ⟨v,w',h1,h2⟩:=nP h
  simp only [execOp,hop,Sem.run_bind,h1,Sem.run_pure,Result.andThen]
  exact h2
 case h_16 c hop =>
  split at h
  .rename_i b hc
   rw [mapA,mapA] at h
   obtain ⟨v,w',h1,h2⟩:=nP h
   simp only [execOp,hop,resolve,hc,Sem.run_bind,Sem.run_pure,Result.andThen,invoke]
   have e:BN P K (.ok (.value v) w'):=h2
   rw [<-h1] at e
   exact e
  .rename_i f hc
   split at h
   .rename_i fid first captured hf
    split at h
    .rename_i fn hfn
     split at h
     .rename_i hb
      rw [show (first.toList++c.args.toList.map ρ++captured.toList).toArray=first++c.args.map ρ++captured by apply Array.ext';simp] at h
      have h1:Calls P fid (first++c.args.map ρ++captured) w λe w'=>∃ v,e=.returned v/\K v w':=by
       split at h
       .exact a5d h
       .exact a5c h
      have hb':fn.body.isNone=false:=by cases hh:fn.body<;>simp_all
      simp only [execOp,hop,resolve,hc,Sem.run_bind,Deferred.ofValue,hf,Sem.run_pure,Result.andThen,invoke,callFunc,program,Sem.run,hfn,hb.2,hb',Bool.false_eq_true,if_false]
      exact h1
     .rw [show (first.toList++c.args.toList.map ρ++captured.toList).toArray=first++c.args.map ρ++captured by apply Array.ext';simp] at h
      obtain ⟨v,w',h1,h2⟩:=nP h
      simp only [execOp,hop,resolve,hc,Sem.run_bind,Deferred.ofValue,hf,Sem.run_pure,Result.andThen,invoke,h1]
      exact h2
    .exact h.elim
   .exact h.elim
  .exact h
 case h_17=>exact h
def qA (P:Program) (f:FuncId):Bool:=match P.funcs[f]? with|some fn=>fn.body.isSome && !(fn.name == "runtime.NumGoroutine")|none=>false
def a3s (cs:List Value):Prop:=∀ c∈cs,mU c=true
def aJy (P:Program) (ex:Nat->Option TypeId) (o:Oper) (ρ:Operand->Value) (w:World) (K:Value->World->Prop):Prop :=
 match o.op with
 | .store t x y=>match ρ x with
  | .pointer (some ⟨b,off,none⟩) =>
   match P.underlying t,P.info? t with
   | some d,some i=>match X7 d with
    | true=>match ρ y with
     | .agg cs=>match Nat.beq cs.toList.length i.size with
      | true=>a3s cs.toList/\aG w b off i.size/\∀ w',w'=w.setCells b off cs.toList->K undef w'
      | false=>False
     | _=>False
    | false=>match Nat.beq i.size 1 with
     | true=>a3s [ρ y]/\aG w b off 1/\∀ w',w'=w.setCell ⟨b,off,none⟩ (ρ y)->K undef w'
     | false=>False
   | _,_=>False
  | _=>False
 | .call c =>
  match c.callee with
  | .value f =>
   match ρ f with
   | .func (.func fid) first captured =>
    qA P fid=true/\Calls P fid (first.toList++c.args.toList.map ρ++captured.toList).toArray w λe w'=>XE P o.type λv=>e=.returned v/\K v w'
   | _=>False
  | _=>aCu P ex o ρ w K
 | _=>aCu P ex o ρ w K
theorem XG {P ex o ρ w K} (h:aJy P ex o ρ w K):BN P K ((execOp ρ o).run P w):=by
 unfold aJy at h
 split at h
 case h_1 t x y hop =>
  split at h
  .rename_i b off hx
   split at h
   .rename_i d i hd hi
    have key:∃ w',(storeVar t ⟨b,off,none⟩ (ρ y)).run P w=.ok () w'/\K undef w':=by
     split at h
     .split at h
      .rename_i cs hy
       split at h
       .rename_i hn
        obtain ⟨h1,h2,h3⟩:=h
        refine LG (P:=P) (t:=t) (K:=λw'=>K undef w') ?_
        unfold WS
        rw [hi,hy]
        simp only
        have hall:cs.toList.all mU=true:=List.all_eq_true.2 h1
        rw [hn,hall]
        exact ⟨h2,h3⟩
       .exact h.elim
      .exact h.elim
     .split at h
      .rename_i hn
       obtain ⟨h1,h2,h3⟩:=h
       have h0:mU (ρ y)=true:=h1 _ (by simp)
       obtain ⟨h4,h5⟩:=h2 0 (by omega)
       exact ⟨_,sR hi (Nat.eq_of_beq_eq_true hn) h0 h4 h5,h3 _ rfl⟩
      .exact h.elim
    obtain ⟨w',h1,h2⟩:=key
    simp only [execOp,hop,hx,Instr.storeAt,Instr.sureAddr,Sem.run_bind,Sem.run_pure,Result.andThen,h1]
    exact h2
   .exact h.elim
  .exact h.elim
 case h_2 c hop =>
  split at h
  .rename_i f hc
   split at h
   .rename_i fid first captured hf
    obtain ⟨h0,h⟩:=h
    unfold qA at h0
    split at h0
    .rename_i fn hfn
     simp only [Bool.and_eq_true,Bool.not_eq_true'] at h0
     rw [show (first.toList++c.args.toList.map ρ++captured.toList).toArray=first++c.args.map ρ++captured by apply Array.ext';simp] at h
     have hb':fn.body.isNone=false:=by cases hh:fn.body<;>simp_all
     simp only [execOp,hop,resolve,hc,Sem.run_bind,Deferred.ofValue,hf,Sem.run_pure,Result.andThen,invoke,callFunc,program,Sem.run,hfn,h0.2,hb',Bool.false_eq_true,if_false]
     exact h.mono λe w' h=>nP h
    .cases h0
   .exact h.elim
  .exact D7 h
 case h_3=>exact D7 h
structure Fr where
 n:Nat
 l:List (Nat × Value)
def sS (i:Nat):List (Nat × Value)->Value
 | []=>unk
 | (t,v) :: r=>match Nat.beq t i with|true=>v|false=>sS i r
def Fr.get (s:Fr) (i:Nat):Value:=sS i s.l
def Fr.eval (s:Fr):Operand->Value
 | .tmp t=>sS t s.l
 | .const v=>v
 | .global g=>.pointer (some ⟨g,0,none⟩)
 | .func f=>.func (.func f) #[] #[]
def Fr.put (s:Fr) (d:Option Tmp) (v:Value):Fr :=
 match d with
 | some t=>match Nat.blt t s.n with
  | true=>⟨s.n,(t,v) :: s.l⟩
  | false=>s
 | none=>s
theorem D8 (s:Fr) (d v i):(s.put d v).get i=if d=some i/\i<s.n then v else s.get i:=by
 cases d with
 | none=>simp [Fr.put]
 | some t =>
  unfold Fr.put
  simp only
  cases h:Nat.blt t s.n with
  | true =>
   simp only [Fr.get,sS]
   have ht:t<s.n:=by simpa [Nat.blt_eq] using h
   cases hb:Nat.beq t i with
   | true=>have:t=i:=Nat.eq_of_beq_eq_true hb;subst this;simp [ht]
   | false=>have:t≠i:=Nat.ne_of_beq_eq_false hb;simp [this]
  | false =>
   have ht:¬ t<s.n:=by
    intro hh
    have h2:Nat.blt t s.n=true:=by rw [Nat.blt_eq];exact hh
    rw [h2] at h
    cases h
   simp only
   rw [if_neg]
   rintro ⟨e,hi⟩
   cases e
   exact ht hi
theorem OK (s:Fr) (d v):(s.put d v).n=s.n:=by
 cases d with
 | none=>rfl
 | some t=>unfold Fr.put;simp only;split<;>rfl
structure vD (ds:List Deferred) (s:Fr) (a:Act):Prop where
 defers:a.defers=ds
 size:a.tmps.size=s.n
 slot:∀ i,wG (s.get i)=false->a.tmps.getD i undef=s.get i
theorem vD.eval {s a} (h:vD ds s a) {x} (hx:wG (s.eval x)=false):a.eval x=s.eval x:=by
 cases x with
 | tmp t=>exact h.slot t hx
 | const v=>rfl
 | global g=>rfl
 | func f=>rfl
theorem XH (a:Act) (d v i):
  (a.put d v).tmps.getD i undef=if d=some i/\i<a.tmps.size then v else a.tmps.getD i undef:=by
 cases d with
 | none=>simp [Act.put]
 | some d =>
  simp only [Act.put,Option.some.injEq,Array.getD_eq_getD_getElem?]
  by_cases h:d=i
  .subst h
   by_cases hd:d<a.tmps.size
   .simp [hd]
   .simp [hd]
  .rw [Array.getElem?_setIfInBounds_ne h];simp [h]
theorem a5l (a:Act) (d v):(a.put d v).tmps.size=a.tmps.size:=by cases d<;>simp [Act.put]
theorem put_defers (a:Act) (d v):(a.put d v).defers=a.defers:=by cases d<;>rfl
theorem vD.put {s a} (h:vD ds s a) (d) {u v} (huv:wG u=false->v=u):vD ds (s.put d u) (a.put d v):=by
 refine ⟨by rw [put_defers];exact h.defers,by rw [a5l,OK];exact h.size,λi hi=>?_⟩
 rw [D8] at hi ⊢
 rw [XH,h.size]
 split at hi
 .rename_i hc;rw [if_pos hc,if_pos hc];exact huv hi
 .rename_i hc;rw [if_neg hc,if_neg hc];exact h.slot i hi
def UL (s:Fr) (o:Oper):Bool:=o.op.operands.toList.all λx => !wG (s.eval x)
def xB (o:Oper):Bool:=match o.op with | .select _ _=>false|_=>true
theorem xC {s a} (h:vD ds s a) {o} (ho:UL s o=true) (hs:xB o=true):execOp a.eval o=execOp s.eval o:=by
 refine execOp_congr o (λcs b e=>by simp [xB,e] at hs) λx hx=>h.eval ?_
 have:=List.all_eq_true.1 ho x (by simpa using hx)
 simpa using this
def Br (c:Bool) (A B:Prop):Prop:=match c with|true=>A|false=>B
theorem Br.intro {c A B} (h1:c=true->A) (h2:c=false->B):Br c A B:=by cases c;exact h2 rfl;exact h1 rfl
def XI (s:Fr) (d:Option Tmp):Option Bool :=
 match d with
 | some d=>match sS d s.l with
  | .bool c=>some c
  | _=>none
 | none=>none
def opK (P:Program) (wr:Bool) (ex:Nat->Option TypeId) (o:Oper) (s:Fr) (w:World) (K:Value->World->Prop):Prop :=
 match o.op with
 | .pick c x y=>match s.eval c with
  | .bool b=>Br b (K (s.eval x) w) (K (s.eval y) w)
  | _=>False
 | _=>if UL s o=true/\xB o=true then
   match iY P wr o s.eval w none λv=>K v w with
   | some p=>p
   | none=>match wr with
    | true=>aJy P ex o s.eval w K
    | false=>aCu P ex o s.eval w K
  else False
def aRq (K:Value->World->Prop) (K':Value->World->Prop):Prop:=∀ v v' w,K v w->(wG v=false->v'=v)->K' v' w
theorem a1T {P wr ex o s a w K K'} (h:opK P wr ex o s w K) (hs:vD ds s a) (hK:aRq K K'):BN P K' ((execOp a.eval o).run P w):=by
 have mono:∀ r,BN P K r->BN P K' r:=by
  intro r hr
  cases r with
  | ok n w' =>
   cases n<;>simp only [BN] at hr ⊢ <;> try exact hr
   .exact hK _ _ _ hr λ_=>rfl
   .exact hK _ _ _ hr λ_=>rfl
   .exact hr.mono λe w'' ⟨v,he,hk⟩=>⟨v,he,hK _ _ _ hk λ_=>rfl⟩
  | halt x w'=>exact hr
 unfold opK at h
 split at h
 .rename_i c x y hop
  split at h
  .rename_i b hc
   have F5:a.eval c=.bool b:=by rw [hs.eval (by rw [hc];rfl),hc]
   cases b with
   | true =>
    simp only [Br] at h
    simp only [execOp,hop,F5,asBool,Sem.run_bind,Sem.run_pure,Result.andThen,if_true,BN]
    exact hK _ _ _ h λhu=>hs.eval hu
   | false =>
    simp only [Br] at h
    simp only [execOp,hop,F5,asBool,Sem.run_bind,Sem.run_pure,Result.andThen,BN]
    exact hK _ _ _ h λhu=>hs.eval hu
  .exact h.elim
 .split at h
  .rename_i ho
   rw [xC hs ho.1 ho.2]
   refine mono _ ?_
   split at h
   .rename_i p hp
    obtain ⟨v,h1,h2⟩:=wH hp h
    rw [h1 trivial w rfl]
    exact h2
   .split at h
    .exact XG h
    .exact D7 h
  .exact h.elim
def XJ (P:Program) (wr:Nat->Bool) (sure:Bool) (ops:Array Oper):List Oper->Fr->World->(Fr->World->Prop)->Prop
 | [],s,w,K=>K s w
 | o :: rest,s,w,K =>
  match o.guard with
  | none=>opK P (wr (o.dst.getD 0)) (λi=>gT o.dst i ops.toList) o s w λv w'=>XJ P wr sure ops rest (s.put o.dst v) w' K
  | some (j,want) =>
   let d:=(ops[j]?).bind (·.dst)
   let go (b:Bool) (s:Fr):Prop :=
    if b=want then opK P (wr (o.dst.getD 0)) (λi=>gT o.dst i ops.toList) o s w λv w'=>XJ P wr sure ops rest (s.put o.dst v) w' K
    else XJ P wr sure ops rest (s.put o.dst undef) w K
   match XI s d with
   | some c=>match sure with
    | true=>c=want/\go want (s.put d (.bool want))
    | false=>Br c (go true (s.put d (.bool true))) (go false (s.put d (.bool false)))
   | none=>False
theorem Oper.lF {P o a w next Q} (h:BN P (λv w'=>next (a.put o.dst v) w') ((execOp a.eval o).run P w)):o.wp P a w next Q:=by
 unfold Oper.wp
 generalize (execOp a.eval o).run P w=r at *
 cases r with
 | ok n w' =>
  cases n<;>simp only [BN,Oper.upon] at h ⊢ <;> try exact h
  exact h.mono λe w'' ⟨v,he,hk⟩=>by subst he;exact hk
 | halt x w'=>exact h.elim
theorem G9 {s a} (h:vD ds s a) {d c} (hc:XI s d=some c):∃ k,d=some k/\k<a.tmps.size/\a.tmps.getD k undef=.bool c/\s.get k=.bool c:=by
 unfold XI at hc
 split at hc
 .rename_i k
  split at hc
  .rename_i c' hv
   cases hc
   have S8:s.get k=.bool c:=hv
   have e:=h.slot k (by rw [S8];rfl)
   refine ⟨k,rfl,?_,by rw [e,S8],S8⟩
   rcases Nat.lt_or_ge k a.tmps.size with h'|h'
   .exact h'
   .rw [Array.getD_eq_getD_getElem?,Array.getElem?_eq_none h'] at e
    rw [S8] at e
    cases e
  .cases hc
 .cases hc
theorem XK {a:Act} {k v} (h:k<a.tmps.size) (hv:a.tmps.getD k undef=v):a.put (some k) v=a:=by
 cases a with
 | mk t d =>
  simp only [Act.put]
  congr 1
  apply Array.ext
  .simp
  .intro i h1 h2
   rw [Array.getElem_setIfInBounds]
   split
   .rename_i e;subst e;simp at hv h;simpa [h] using hv.symm
   .rfl
def bU (D:Nat->Prop) (s s':Fr):Prop:=s'.n=s.n/\∀ i,¬ D i->wG (s'.get i)=false->s'.get i=s.get i
theorem bU.refl (D s):bU D s s:=⟨rfl,λ_ _ _=>rfl⟩
theorem bU.trans {D a b c} (h:bU D a b) (k:bU D b c):bU D a c:=⟨k.1.trans h.1,λi hi hu=>by
 have e:=k.2 i hi hu
 rw [e] at hu ⊢
 exact h.2 i hi hu⟩
theorem bU.mono {D D' a b} (h:bU D a b) (hD:∀ i,D i->D' i):bU D' a b:=⟨h.1,λi hi=>h.2 i λhd=>hi (hD i hd)⟩
theorem bU.put {D a b} (h:bU D a b) {d:Option Tmp} (hd:∀ t,d=some t->D t) (v):bU D a (b.put d v):=by
 refine ⟨by rw [OK];exact h.1,λi hi=>?_⟩
 rw [D8,if_neg (by rintro ⟨e,_⟩;exact hi (hd i e))]
 exact h.2 i hi
theorem zP {P wr sure ops Q K D s0} (hD:∀ (j:Nat) (o:Oper) (t:Nat),ops[j]? = some o->o.dst=some t->D t) (hK:∀ s a w,K s w->vD ds s a->bU D s0 s->Q .normal a w):
  ∀ (l:List Oper) (s:Fr) (a:Act) (w:World),(∀ o∈l,∀ t,o.dst=some t->D t)->XJ P wr sure ops l s w K->vD ds s a->bU D s0 s->wpList P ops Q l a w
 | [],s,a,w,_,h,hs,hu=>hK _ _ _ h hs hu
 | o :: rest,s,a,w,hl,h,hs,hu=>by
  have hl':∀ o∈rest,∀ t,o.dst=some t->D t:=λo ho=>hl o (List.mem_cons_of_mem _ ho)
  have ho:∀ t,o.dst=some t->D t:=hl o (by simp)
  have step:∀ s',vD ds s' a->bU D s0 s'->(opK P (wr (o.dst.getD 0)) (λi=>gT o.dst i ops.toList) o s' w λv w'=>XJ P wr sure ops rest (s'.put o.dst v) w' K) ->
    o.wp P a w (wpList P ops Q rest) Q:=by
   intro s' hs' eE h
   refine Oper.lF (a1T h hs' ?_)
   intro v v' w' hk hv
   exact zP hD hK rest _ _ _ hl' hk (hs'.put _ hv) (eE.put ho _)
  unfold XJ at h
  unfold wpList
  split at h
  .rename_i hg
   rw [if_pos (by simp [Region.wanted,hg])]
   exact .inl (step s hs hu h)
  .rename_i j want hg
   simp only at h
   split at h
   .rename_i c hc
    obtain ⟨k,hk,hlt,hv,hsv⟩:=G9 hs hc
    have hy:yielded ops a.tmps j=some c:=by
     unfold yielded
     rw [hk]
     simp only [Option.bind_some]
     rw [Array.getD_eq_getD_getElem?] at hv
     simp only [hlt,getElem?_pos,Option.getD_some] at hv
     simp [hlt,hv]
    have hw:Region.wanted o (yielded ops a.tmps)=(c == want):=by simp [Region.wanted,hg,hy]
    have hs':vD ds (s.put ((ops[j]?).bind (·.dst)) (.bool c)) a:=by
     have:=hs.put ((ops[j]?).bind (·.dst)) (u:=.bool c) (v:=.bool c) (λ_=>rfl)
     rw [hk] at this ⊢
     rwa [XK hlt hv] at this
    have eE:∀ v,bU D s0 (s.put ((ops[j]?).bind (·.dst)) v):=λv=>hu.put (by
     intro t ht
     cases hj:ops[j]? with
     | none=>simp [hj] at ht
     | some oj=>rw [hj] at ht;exact hD j oj t hj ht) v
    rw [hw]
    cases sure with
    | true =>
     obtain ⟨hcw,h⟩:=h
     subst hcw
     simp only [if_true] at h
     rw [if_pos (by simp)]
     exact .inl (step _ hs' (eE _) h)
    | false =>
    simp only at h
    cases c<;>simp only [Br] at h
    .by_cases e:false=want
     .rw [if_pos e] at h
      rw [if_pos (by simp [e])]
      exact .inl (step _ hs' (eE _) h)
     .rw [if_neg e] at h
      rw [if_neg (by simpa using e)]
      exact zP hD hK rest _ _ _ hl' h (hs'.put _ (λ_=>rfl)) ((eE _).put ho _)
    .by_cases e:true=want
     .rw [if_pos e] at h
      rw [if_pos (by simp [e])]
      exact .inl (step _ hs' (eE _) h)
     .rw [if_neg e] at h
      rw [if_neg (by simpa using e)]
      exact zP hD hK rest _ _ _ hl' h (hs'.put _ (λ_=>rfl)) ((eE _).put ho _)
   .exact h.elim
end Go.Vc
end

section
namespace Go.Vc
variable {ds:List Deferred}
open Go.RowKit
structure Ent where
 slot:Nat
 g:Option Bool
 chain:List (Nat × Bool)
def oT (es:List Ent) (t:Nat):Option Ent:=es.find? λe=>e.slot == t
def aMn (a b:List (Nat × Bool)):Bool:=a.all λp=>b.contains p
def AM (es:List Ent) (ch:List (Nat × Bool)) (s:Fr) (x:Operand):Bool :=
 match x with
 | .tmp t => !wG (s.eval (.tmp t))&&(match oT es t with|some e=>aMn e.chain ch|none=>true)
 | _=>true
def aNy (g:Option Bool) (c:Bool):Option Bool:=match g with|none=>some c|some g=>some (g&&c)
def aFh (want c:Bool):Bool:=match want with|true=>c|false => !c
def guardOf (ops:Array Oper) (es:List Ent) (s:Fr) (o:Oper):Option (Option Bool × List (Nat × Bool)) :=
 match o.guard with
 | none=>some (none,[])
 | some (j,want) =>
  match (ops[j]?).bind (·.dst) with
  | some d=>match oT es d,sS d s.l with
   | some e,.bool c=>some (aNy e.g (aFh want c),(d,want) :: e.chain)
   | _,_=>none
  | none=>none
def VW (d:Bool) (w:World):World->Prop:=λw'=>match d with|true=>∃ n,w'=w.drewN n|false=>w'=w
theorem VW.heap {d w w'} (h:VW d w w'):w'.heap=w.heap:=by
 cases d
 .exact congrArg World.heap h
 .obtain ⟨n,rfl⟩:=h;rfl
def M7 (P:Program) (d:Bool) (o:Oper) (ρ:Operand->Value) (w:World) (g:Option Bool) (K:Value->Prop):Prop :=
 match o.op with
 | .call c=>match c.callee with
  | .value f=>match ρ f with
   | .func (.func fid) first captured =>
    match P.funcs[fid]? with
    | some fn=>if fn.body.isSome=true/\(fn.name == "runtime.NumGoroutine")=false then
      OC P fn.resultTypes.toList λvs=>ob g (∀ w',VW d w w'->Calls P fid (first.toList++c.args.toList.map ρ++captured.toList).toArray w' λe w''=>e=.returned (pQ vs)/\VW d w w'')/\K (pQ vs)
     else False
    | none=>False
   | _=>False
  | _=>False
 | _=>False
def aNz (c:Operand) (b:Bool) (ch:List (Nat × Bool)):List (Nat × Bool):=match c with | .tmp t=>(t,b) :: ch|_=>ch
def M8 (P:Program) (wr:Bool) (d:Bool) (es:List Ent) (o:Oper) (s:Fr) (w:World) (g:Option Bool) (ch:List (Nat × Bool)) (K:Value->Prop):Prop :=
 match o.op with
 | .pick c x y =>
  if AM es ch s c=true then
   match s.eval c with
   | .bool b =>
    if AM es (aNz c true ch) s x=true/\AM es (aNz c false ch) s y=true then
     match x,y,s.eval x,s.eval y with
     | .const (.bool true),_,_,.bool q=>K (.bool (b||q))
     | _,.const (.bool false),.bool q,_=>K (.bool (b&&q))
     | _,_,u,v=>K (if b=true then u else v)
    else False
   | _=>False
  else False
 | _=>if o.op.operands.toList.all (AM es ch s)=true/\xB o=true then
   match iY P wr o s.eval w g K with
   | some p=>p
   | none=>M7 P d o s.eval w g K
  else False
def mN (f:Nat->Bool):List (Nat × Value)->List (Nat × Value)
 | []=>[]
 | (t,v) :: r=>match f t with|true=>(t,v) :: mN f r|false=>mN f r
theorem qB (f i):∀ (l:List (Nat × Value)),sS i (mN f l)=if f i=true then sS i l else unk
 | []=>by simp [mN,sS]
 | (t,v) :: r=>by
  unfold mN
  cases h:f t with
  | true =>
   simp only [sS]
   cases hb:Nat.beq t i with
   | true=>have:=Nat.eq_of_beq_eq_true hb;subst this;simp [h]
   | false=>simp only;exact qB f i r
  | false =>
   simp only [sS]
   rw [qB f i r]
   cases hb:Nat.beq t i with
   | true=>have:=Nat.eq_of_beq_eq_true hb;subst this;simp [h]
   | false=>rfl
def XL (es:List Ent) (t:Nat):Bool:=match oT es t with
 | some e=>(match e.g with|some _=>false|none=>true)
 | none=>true
def forget (es:List Ent) (s:Fr):Fr:=⟨s.n,mN (XL es) s.l⟩
def OL (P:Program) (wr:Nat->Bool) (d:Bool) (ops:Array Oper) (w:World):List Oper->List Ent->Fr->(Fr->Prop)->Prop
 | [],es,s,K=>K (forget es s)
 | o :: rest,es,s,K =>
  match guardOf ops es s o,o.dst with
  | some (g,ch),some t =>
   if (oT es t).isNone=true/\Nat.blt t s.n=true then
    M8 P (wr t) d es o s w g ch λv=>OL P wr d ops w rest (⟨t,g,ch⟩ :: es) (s.put (some t) v) K
   else False
  | _,_=>False
def Holds (s:Fr) (ch:List (Nat × Bool)):Prop:=∀ p∈ch,s.get p.1=.bool p.2
structure Rel (ds:List Deferred) (es:List Ent) (s:Fr) (a:Act):Prop where
 defers:a.defers=ds
 size:a.tmps.size=s.n
 slot:∀ i,match oT es i with
  | none=>wG (s.get i)=false->a.tmps.getD i undef=s.get i
  | some e=>(D4 e.g->wG (s.get i)=false->a.tmps.getD i undef=s.get i)/\(¬ D4 e.g->a.tmps.getD i undef=undef)
 chain:∀ i e,oT es i=some e->(D4 e.g ↔ Holds s e.chain)/\∀ p∈e.chain,(oT es p.1).isSome=true
theorem Holds.sub {s a b} (h:Holds s b) (hs:aMn a b=true):Holds s a:=λp hp=>by
 have:=List.all_eq_true.1 hs p hp
 exact h p (by simpa using this)
theorem j8 {es s a ch x} (h:AM es ch s x=true) (hr:Rel ds es s a) (hc:Holds s ch):a.eval x=s.eval x:=by
 cases x with
 | tmp t =>
  simp only [AM,Bool.and_eq_true,Bool.not_eq_true'] at h
  obtain ⟨h1,h2⟩:=h
  have h3:=hr.slot t
  cases hf:oT es t with
  | none=>rw [hf] at h3;exact h3 h1
  | some e =>
   rw [hf] at h2 h3
   have hg:=(hr.chain t e hf).1.2 (hc.sub h2)
   exact h3.1 hg h1
 | const v=>rfl
 | global g=>rfl
 | func f=>rfl
theorem aA4 {g c}:D4 (aNy g c) ↔ D4 g/\c=true:=by
 cases g<;>simp [aNy,D4]
theorem LI {ops es s a o g ch} (h:guardOf ops es s o=some (g,ch)) (hr:Rel ds es s a):
  (Region.wanted o (yielded ops a.tmps)=true ↔ D4 g)/\(D4 g ↔ Holds s ch)/\∀ p∈ch,(oT es p.1).isSome=true:=by
 unfold guardOf at h
 split at h
 .rename_i hg
  cases h
  refine ⟨by simp [Region.wanted,hg,D4],⟨λ_ p hp=>(by cases hp),λ_=>trivial⟩,λp hp=>(by cases hp)⟩
 .rename_i j want hg
  split at h
  .rename_i d hd
   split at h
   .rename_i e c he hc
    cases h
    obtain ⟨h1,h2⟩:=hr.chain d e he
    have h3:=hr.slot d
    rw [he] at h3
    have hy:D4 e.g->yielded ops a.tmps j=some c:=by
     intro hge
     have F5:s.get d=.bool c:=hc
     have h4:=h3.1 hge (by rw [F5];rfl)
     rw [F5] at h4
     unfold yielded
     rw [hd]
     simp only [Option.bind_some]
     rw [Array.getD_eq_getD_getElem?] at h4
     rcases Nat.lt_or_ge d a.tmps.size with h'|h'
     .simp only [h',getElem?_pos,Option.getD_some] at h4;simp [h',h4]
     .rw [Array.getElem?_eq_none h'] at h4;cases h4
    have hn:¬ D4 e.g->yielded ops a.tmps j=none:=by
     intro hge
     have h4:=h3.2 hge
     unfold yielded
     rw [hd]
     simp only [Option.bind_some]
     rw [Array.getD_eq_getD_getElem?] at h4
     rcases Nat.lt_or_ge d a.tmps.size with h'|h'
     .simp only [h',getElem?_pos,Option.getD_some] at h4;simp [h',h4,undef]
     .rw [Array.getElem?_eq_none h']
    have hcw:aFh want c=true ↔ c=want:=by cases want<;>cases c<;>simp [aFh]
    refine ⟨?_,?_,?_⟩
    .rw [aA4,hcw]
     by_cases hge:D4 e.g
     .simp [Region.wanted,hg,hy hge,hge]
     .simp [Region.wanted,hg,hn hge,hge]
    .rw [aA4,hcw,h1]
     constructor
     .rintro ⟨ha,rfl⟩ p hp
      rcases List.mem_cons.1 hp with rfl|hp
      .exact hc
      .exact ha p hp
     .intro ha
      refine ⟨λp hp=>ha p (List.mem_cons_of_mem _ hp),?_⟩
      have:=ha (d,want) (by simp)
      simp only at this
      rw [show s.get d=.bool c from hc] at this
      cases this;rfl
    .intro p hp
     rcases List.mem_cons.1 hp with rfl|hp
     .simp [he]
     .exact h2 p hp
   .cases h
  .cases h
theorem M9 (es e i):oT (e :: es) i=if e.slot=i then some e else oT es i:=by
 unfold oT
 rw [List.find?_cons]
 by_cases h:e.slot=i
 .simp [h]
 .simp [h,show (e.slot == i)=false by simpa using h]
theorem Rel.put {es s a} (hr:Rel ds es s a) {t g ch u v} (hn:(oT es t).isNone=true) (ht:t<s.n) (hg:D4 g ↔ Holds s ch) (hch:∀ p∈ch,(oT es p.1).isSome=true) (h1:D4 g->wG u=false->v=u) (h2:¬ D4 g->v=undef):
  Rel ds (⟨t,g,ch⟩ :: es) (s.put (some t) u) (a.put (some t) v):=by
 have hne:∀ i,(oT es i).isSome=true->t≠i:=by
  rintro i hi rfl
  cases hf:oT es t<;>simp [hf] at hn hi
 have hsa:∀ i,i≠t->(s.put (some t) u).get i=s.get i:=λi hi=>by rw [D8,if_neg (by rintro ⟨h,_⟩;cases h;exact hi rfl)]
 have haa:∀ i,i≠t->(a.put (some t) v).tmps.getD i undef=a.tmps.getD i undef:=λi hi=>by rw [XH,if_neg (by rintro ⟨h,_⟩;cases h;exact hi rfl)]
 have hst:(s.put (some t) u).get t=u:=by rw [D8,if_pos ⟨rfl,ht⟩]
 have hat:(a.put (some t) v).tmps.getD t undef=v:=by rw [XH,if_pos ⟨rfl,by rw [hr.size];exact ht⟩]
 have hold:∀ ch',(∀ p∈ch',(oT es p.1).isSome=true)->(Holds s ch' ↔ Holds (s.put (some t) u) ch'):=by
  intro ch' hc
  constructor
  .intro h p hp;rw [hsa _ (λe=>hne _ (hc p hp) e.symm)];exact h p hp
  .intro h p hp;rw [<-hsa p.1 (λe=>hne _ (hc p hp) e.symm)];exact h p hp
 refine ⟨by rw [put_defers];exact hr.defers,by rw [a5l,OK];exact hr.size,λi=>?_,λi e he=>?_⟩
 .rw [M9]
  by_cases hi:t=i
  .subst hi
   rw [if_pos rfl]
   simp only
   rw [hst,hat]
   exact ⟨h1,h2⟩
  .rw [if_neg hi,hsa i (λe=>hi e.symm),haa i (λe=>hi e.symm)]
   exact hr.slot i
 .rw [M9] at he
  have hs':∀ p:Nat × Bool,(oT es p.1).isSome=true->(oT (⟨t,g,ch⟩ :: es) p.1).isSome=true:=by
   intro p hp;rw [M9];split;rfl;exact hp
  split at he
  .cases he
   exact ⟨hg.trans (hold ch hch),λp hp=>hs' p (hch p hp)⟩
  .obtain ⟨h3,h4⟩:=hr.chain i e he
   exact ⟨h3.trans (hold e.chain h4),λp hp=>hs' p (h4 p hp)⟩
theorem S9 {P d o ρ w g K} (h:M7 P d o ρ w g K):
  ∃ v,(D4 g->∀ w',VW d w w'->Oper.quietUpon P (VW d w) w' v ((execOp ρ o).run P w'))/\K v:=by
 unfold M7 at h
 split at h
 .rename_i c hop
  split at h
  .rename_i f hc
   split at h
   .rename_i fid first captured hf
    split at h
    .rename_i fn hfn
     split at h
     .rename_i hb
      rw [show (first.toList++c.args.toList.map ρ++captured.toList).toArray=first++c.args.map ρ++captured by apply Array.ext';simp] at h
      obtain ⟨vs,h1,h2⟩:=wE h
      refine ⟨_,λhg w' hw=>?_,h2⟩
      have h3:=gK h1 hg w' hw
      have hb':fn.body.isNone=false:=by cases hh:fn.body<;>simp_all
      simp only [execOp,hop,resolve,hc,Sem.run_bind,Deferred.ofValue,hf,Sem.run_pure,Result.andThen,invoke,callFunc,program,Sem.run,hfn,hb.2,hb',Bool.false_eq_true,if_false]
      exact ⟨rfl,h3⟩
     .exact h.elim
    .exact h.elim
   .exact h.elim
  .exact h.elim
 .exact h.elim
theorem OM {P wr d es o s a w g ch K} (h:M8 P wr d es o s w g ch K) (hr:Rel ds es s a) (hg:D4 g ↔ Holds s ch):
  ∃ u,(D4 g->∃ v,(wG u=false->v=u)/\∀ w',VW d w w'->o.quietAt P a (VW d w) w' v)/\K u:=by
 unfold M8 at h
 split at h
 .rename_i c x y hop
  split at h
  .rename_i hc
   split at h
   .rename_i b hb
    split at h
    .rename_i hxy
     have main:D4 g->∃ v,(v=if b=true then s.eval x else s.eval y)/\∀ w',VW d w w'->o.quietAt P a (VW d w) w' v:=by
      intro BO
      have hh:=hg.1 BO
      have F5:a.eval c=.bool b:=by rw [j8 hc hr hh,hb]
      have ext:∀ (b':Bool),b=b'->Holds s (aNz c b' ch):=by
       intro b' e
       subst e
       cases c<;>try exact hh
       rename_i t
       intro p hp
       rcases List.mem_cons.1 hp with rfl|hp
       .exact hb
       .exact hh p hp
      refine ⟨_,rfl,λw' _=>?_⟩
      unfold Oper.quietAt
      simp only [execOp,hop,F5,asBool,Sem.run_bind,Sem.run_pure,Result.andThen,Oper.quietUpon]
      refine ⟨trivial,?_⟩
      cases b with
      | true =>
       have:=j8 (x:=x) hxy.1 hr (ext true rfl)
       simpa using this
      | false =>
       have:=j8 (x:=y) hxy.2 hr (ext false rfl)
       simpa using this
     split at h
     .rename_i y' u q hy
      refine ⟨_,λBO=>?_,h⟩
      obtain ⟨v,hv,hq⟩:=main BO
      refine ⟨v,λ_=>?_,hq⟩
      rw [hv]
      cases b
      .simpa using hy
      .rfl
     .rename_i x' u q hx _
      refine ⟨_,λBO=>?_,h⟩
      obtain ⟨v,hv,hq⟩:=main BO
      refine ⟨v,λ_=>?_,hq⟩
      rw [hv]
      cases b
      .rfl
      .simpa using hx
     .refine ⟨_,λBO=>?_,h⟩
      obtain ⟨v,hv,hq⟩:=main BO
      exact ⟨v,λ_=>hv,hq⟩
    .exact h.elim
   .exact h.elim
  .exact h.elim
 .split at h
  .rename_i ho
   have hex:D4 g->execOp a.eval o=execOp s.eval o:=by
    intro BO
    refine execOp_congr o (λcs b e=>by have:=ho.2;simp [xB,e] at this) λx hx=>j8 (List.all_eq_true.1 ho.1 x (by simpa using hx)) hr (hg.1 BO)
   split at h
   .rename_i p hp
    obtain ⟨v,h1,h2⟩:=wH hp h
    refine ⟨v,λBO=>⟨v,λ_=>rfl,λw' hw=>?_⟩,h2⟩
    unfold Oper.quietAt
    rw [hex BO,h1 BO w' hw.heap]
    exact ⟨rfl,rfl⟩
   .obtain ⟨v,h1,h2⟩:=S9 h
    refine ⟨v,λBO=>⟨v,λ_=>rfl,λw' hw=>?_⟩,h2⟩
    unfold Oper.quietAt
    rw [hex BO]
    exact h1 BO w' hw
  .exact h.elim
theorem XM (es s i):(forget es s).get i=if XL es i=true then s.get i else unk:=qB _ _ _
theorem Rel.done {es s a} (hr:Rel ds es s a):vD ds (forget es s) a:=by
 refine ⟨hr.defers,hr.size,λi hi=>?_⟩
 rw [XM] at hi ⊢
 split at hi
 .rename_i hf
  rw [if_pos hf]
  have h3:=hr.slot i
  unfold XL at hf
  cases he:oT es i with
  | none=>rw [he] at h3;exact h3 hi
  | some e =>
   rw [he] at h3 hf
   simp only at hf
   have hg:D4 e.g:=by cases hgg:e.g<;>simp_all [D4]
   exact h3.1 hg hi
 .cases hi
theorem UM {D s0 es s} (h:bU D s0 s):bU D s0 (forget es s):=by
 refine ⟨h.1,λi hi hu=>?_⟩
 rw [XM] at hu ⊢
 split at hu
 .rename_i hf;rw [if_pos hf];exact h.2 i hi hu
 .cases hu
theorem oU {P wr d ops w K Q D s0} (hK:∀ s a,K s->vD ds s a->bU D s0 s->Q a):
  ∀ (l:List Oper) (es:List Ent) (s:Fr) (a:Act),(∀ o∈l,∀ t,o.dst=some t->D t)->(∀ e∈es,D e.slot/\e.slot<s.n)->OL P wr d ops w l es s K->Rel ds es s a->bU D s0 s->wpQuiet P ops (VW d w) Q l a
 | [],es,s,a,_,_,h,hr,hu=>hK _ _ h hr.done (UM hu)
 | o :: rest,es,s,a,hl,he,h,hr,hu=>by
  have hl':∀ o∈rest,∀ t,o.dst=some t->D t:=λo ho=>hl o (List.mem_cons_of_mem _ ho)
  unfold OL at h
  split at h
  .rename_i g ch t hgd ht
   split at h
   .rename_i hc
    obtain ⟨h1,h2,h3⟩:=LI hgd hr
    obtain ⟨u,h4,h5⟩:=OM h hr h2
    have hd:D t:=hl o (by simp) t ht
    have htn:t<s.n:=by simpa using hc.2
    have he':∀ e∈(⟨t,g,ch⟩:Ent) :: es,D e.slot/\e.slot<(s.put (some t) u).n:=λe hx=>by
     rw [OK]
     rcases List.mem_cons.1 hx with rfl|hx
     .exact ⟨hd,htn⟩
     .exact he e hx
    have eE:bU D s0 (s.put (some t) u):=hu.put (λt' e=>by cases e;exact hd) _
    unfold wpQuiet
    by_cases BO:D4 g
    .rw [if_pos (h1.2 BO)]
     obtain ⟨v,h6,h7⟩:=h4 BO
     refine ⟨v,h7,?_⟩
     rw [ht]
     exact oU hK rest _ _ _ hl' he' h5 (hr.put hc.1 htn h2 h3 (λ_=>h6) (λhn=>absurd BO hn)) eE
    .rw [if_neg (λhw=>BO (h1.1 hw)),ht]
     exact oU hK rest _ _ _ hl' he' h5 (hr.put hc.1 htn h2 h3 (λhh=>absurd hh BO) (λ_=>rfl)) eE
   .exact h.elim
  .exact h.elim
theorem lX {P ops C Qa Q} (hQ:∀ a w,C w->Qa a->Q .normal a w):
  ∀ (l:List Oper) (a:Act) (w:World),C w->wpQuiet P ops C Qa l a->wpList P ops Q l a w
 | [],a,w,hw,h=>hQ a w hw h
 | o :: rest,a,w,hw,h=>by
  unfold wpQuiet at h
  unfold wpList
  split
  .rename_i rS
   rw [if_pos rS] at h
   exact .inl (Oper.wp_of_quiet hw (λa' w' hw' ha=>lX hQ rest a' w' hw' ha) h)
  .rename_i rS
   rw [if_neg rS] at h
   exact lX hQ rest _ _ hw h
theorem Rel.start {s a} (h:vD ds s a):Rel ds [] s a:=⟨h.defers,h.size,λi=>h.slot i,λi e he=>(by cases he)⟩
def aA5 (P:Program) (wr:Nat->Bool) (d:Bool) (ops:Array Oper) (s:Fr) (w:World) (K:Fr->World->Prop):Prop :=
 match d with
 | false=>OL P wr false ops w ops.toList [] s λs'=>K s' w
 | true=>OL P wr true ops w ops.toList [] s λs'=>∀ n,K s' (w.drewN n)
theorem aFj {P wr d ops s a w K Q id D} (hD:∀ o∈ops.toList,∀ t,o.dst=some t->D t) (h:aA5 P wr d ops s w K) (hs:vD ds s a) (hK:∀ s' a w,K s' w->vD ds s' a->bU D s s'->Q .normal a w):(Code.region id ops false).wp P Q a w:=by
 refine wp_region_list ?_
 cases d with
 | false =>
  refine lX (C:=VW false w) (Qa:=λa'=>Q .normal a' w) (λa' w' hw' hq=>by cases hw';exact hq) _ _ _ rfl ?_
  exact oU (λs' a' hk hs' hu=>hK _ _ _ hk hs' hu) _ _ _ _ hD (λe he=>(by cases he)) h (Rel.start hs) (bU.refl _ _)
 | true =>
  refine lX (C:=VW true w) (Qa:=λa'=>∀ w',VW true w w'->Q .normal a' w') (λa' w' hw' hq=>hq w' hw') _ _ _ ⟨0,rfl⟩ ?_
  exact oU (λs' a' hk hs' hu=>λw' ⟨n,hn⟩=>by rw [hn];exact hK _ _ _ (hk n) hs' hu) _ _ _ _ hD (λe he=>(by cases he)) h (Rel.start hs) (bU.refl _ _)
theorem a8r {P wr ops s a w K Q id D} (hm:P.follows .mixedOrders=true) (hB:Region.lexB .any ops=true) (hD:∀ o∈ops.toList,∀ t,o.dst=some t->D t) (h:aA5 P wr true ops s w K) (hs:vD ds s a) (hK:∀ s' a w,K s' w->vD ds s' a->bU D s s'->Q .normal a w):(Code.region id ops true).wp P Q a w:=by
 have h1:=oU (Q:=λa'=>∀ w',(∃ n,w'=w.drewN n)->Q .normal a' w') (λs' a' hk hs' hu=>λw' ⟨n,hn⟩=>by rw [hn];exact hK _ _ _ (hk n) hs' hu) _ _ _ _ hD (λe he=>(by cases he)) h (Rel.start hs) (bU.refl _ _)
 rw [show VW true w=λw'=>∃ n,w'=w.drewN n from rfl] at h1
 have h2:=wp_region_quiet_lit (P:=P) (id:=id) (Q:=Q) (a:=a) (w:=w) (l:=ops.toList) hm (by simpa using hB) (by simpa using h1)
 simpa using h2
end Go.Vc
end

section
namespace Go.Vc
variable {ds:List Deferred}
def a8s (P:Program) (wr:Bool) (o:Oper) (s:Fr) (w:World) (S:World->Prop) (K:Value->Prop):Prop :=
 match o.op with
 | .pick c x y=>match s.eval c with
  | .bool b=>Br b (K (s.eval x)) (K (s.eval y))
  | _=>False
 | _=>match UL s o&&xB o with
  | true=>match iG P o s.eval K with
   | false=>match iY P wr o s.eval w none K with
    | some p=>p
    | none=>False
   | true=>XE P o.type λv=>(∀ w',S w'->match iY P wr o s.eval w' none (λu=>u=v) with
    | some p=>p
    | none=>False)/\K v
  | false=>False
theorem a3t {P wr o s a w S K} (h:a8s P wr o s w S K) (hs:vD ds s a):
  ∃ v v',K v/\(wG v=false->v'=v)/\∀ w',S w'->(execOp a.eval o).run P w'=.ok (.value v') w':=by
 unfold a8s at h
 split at h
 .rename_i c x y hop
  split at h
  .rename_i b hc
   have F5:a.eval c=.bool b:=by rw [hs.eval (by rw [hc];rfl),hc]
   cases b with
   | true=>exact ⟨_,a.eval x,h,λhu=>hs.eval hu,λw' _=>by simp only [execOp,hop,F5,asBool,Sem.run_bind,Sem.run_pure,Result.andThen,if_true]⟩
   | false=>exact ⟨_,a.eval y,h,λhu=>hs.eval hu,λw' _=>by simp [execOp,hop,F5,asBool,Sem.run_bind,Sem.run_pure,Result.andThen]⟩
  .exact h.elim
 .split at h
  .rename_i ho
   simp only [Bool.and_eq_true] at ho
   rw [xC hs ho.1 ho.2]
   split at h
   .rename_i hh
    split at h
    .rename_i p hp
     obtain ⟨v,h1,h2⟩:=AL hp h
     exact ⟨v,v,h2,λ_=>rfl,λw' _=>h1 trivial w' λe=>by rw [hh] at e;cases e⟩
    .exact h.elim
   .obtain ⟨v,h1,h2⟩:=nP h
    refine ⟨v,v,h2,λ_=>rfl,λw' hw'=>?_⟩
    have h3:=h1 w' hw'
    split at h3
    .rename_i p hp
     obtain ⟨u,h4,h5⟩:=wH hp h3
     subst h5
     exact h4 trivial w' rfl
    .exact h3.elim
  .exact h.elim
def ON (ops:Array Oper):List (Nat × Bool)->Array Bool->Bool
 | [],listed=>(Region.ready .any ops listed).isEmpty
 | (i,still) :: rest,listed=>(match still with
   | true=>(Region.ready .any ops listed).contains i&&Region.free .any ops listed i
   | false=>Region.ready .any ops listed == [i])&&ON ops rest (listed.setIfInBounds i true)
def aA6 (P:Program) (wr:Bool) (o:Oper) (still:Bool) (s:Fr) (w:World) (S:World->Prop) (K:Value->World->Prop):Prop :=
 match still with
 | true=>a8s P wr o s w S λv=>K v w
 | false=>opK P wr (λ_=>none) o s w λv w'=>S w'/\K v w'
def tV (P:Program) (wr:Nat->Bool) (ops:Array Oper) (S:World->Prop):List (Nat × Bool)->Fr->World->(Fr->World->Prop)->Prop
 | [],s,w,K=>K s w
 | (i,still) :: rest,s,w,K =>
  match ops[i]? with
  | none=>False
  | some o =>
   let go (s:Fr):Prop:=aA6 P (wr (o.dst.getD 0)) o still s w S λv w'=>tV P wr ops S rest (s.put o.dst v) w' K
   match o.guard with
   | none=>go s
   | some (j,want) =>
    let d:=(ops[j]?).bind (·.dst)
    let on (b:Bool):Prop:=match b == want with
     | true=>go (s.put d (.bool b))
     | false=>tV P wr ops S rest ((s.put d (.bool b)).put o.dst undef) w K
    match XI s d with
    | some c=>Br c (on true) (on false)
    | none=>False
def eJ (Q:Exit->Act->World->Prop):Exit->Act->World->Prop
 | .panic _,_,_=>False
 | e,a,w=>Q e a w
theorem a1U {Q}:∀ e a w,eJ Q e a w->Q e a w:=λe a w h=>by
 cases e<;>first|exact h|exact h.elim
theorem LJ {P wr ops S Q K D s0} (hsel:Region.noSelect ops=true) (hD:∀ (j:Nat) (o:Oper) (t:Nat),ops[j]? = some o->o.dst=some t->D t) (hK:∀ s a w,K s w->vD ds s a->bU D s0 s->Q .normal a w):
  ∀ (l:List (Nat × Bool)) (listed:Array Bool) (s:Fr) (a:Act) (w:World),ON ops l listed=true->tV P wr ops S l s w K->S w->vD ds s a->bU D s0 s->wpAnyH P .any ops (eJ Q) S l.length listed a w
 | [],listed,s,a,w,ho,h,hS,hs,hu=>by
  refine ⟨?_,hK _ _ _ h hs hu⟩
  simpa [ON] using ho
 | (i,still) :: rest,listed,s,a,w,ho,h,hS,hs,hu=>by
  simp only [ON,Bool.and_eq_true] at ho
  obtain ⟨rT,GC⟩:=ho
  unfold tV at h
  split at h
  .exact h.elim
  rename_i o hi
  have hd:∀ t,o.dst=some t->D t:=λt ht=>hD i o t hi ht
  have next:∀ (s':Fr) (v v':Value) (w':World),vD ds s' a->bU D s0 s'->S w'->(wG v=false->v'=v)->tV P wr ops S rest (s'.put o.dst v) w' K ->
    wpAnyH P .any ops (eJ Q) S rest.length (listed.setIfInBounds i true) (a.put o.dst v') w':=λs' v v' w' hs' eE hS' hv hk =>
   LJ hsel hD hK rest _ _ _ _ GC hk hS' (hs'.put _ hv) (eE.put hd _)
  have go:∀ s',vD ds s' a->bU D s0 s'->Region.wanted o (yielded ops a.tmps)=true->(aA6 P (wr (o.dst.getD 0)) o still s' w S λv w'=>tV P wr ops S rest (s'.put o.dst v) w' K)->wpAnyH P .any ops (eJ Q) S (rest.length+1) listed a w:=by
   intro s' hs' eE hw hk
   unfold aA6 at hk
   cases still with
   | true =>
    simp only [Bool.and_eq_true] at rT
    obtain ⟨v,v',h1,h2,h3⟩:=a3t hk hs'
    exact wpAnyH_take hi hsel rT.2 rT.1 (λ_ _ _ h=>h) (.inl ⟨hw,h3⟩) hS (next s' v v' w hs' eE hS h2 h1)
   | false =>
    simp only [beq_iff_eq] at rT
    refine wpAnyH_all rT (by simp) λj hj=>?_
    have hj:j=i:=by simpa using hj
    subst hj
    unfold wpOp
    simp only [hi,hw,if_true]
    exact .inl (Oper.lF (a1T hk hs' λv v' w' ⟨hS',hk'⟩ hv=>⟨hS',next s' v v' w' hs' eE hS' hv hk'⟩))
  have skip:∀ s',vD ds s' a->bU D s0 s'->Region.wanted o (yielded ops a.tmps)=false->tV P wr ops S rest (s'.put o.dst undef) w K->wpAnyH P .any ops (eJ Q) S (rest.length+1) listed a w:=by
   intro s' hs' eE hw hk
   have hn:=next s' undef undef w hs' eE hS (λ_=>rfl) hk
   cases still with
   | true =>
    simp only [Bool.and_eq_true] at rT
    exact wpAnyH_take hi hsel rT.2 rT.1 (λ_ _ _ h=>h) (.inr ⟨hw,rfl⟩) hS hn
   | false =>
    simp only [beq_iff_eq] at rT
    refine wpAnyH_all rT (by simp) λj hj=>?_
    have hj:j=i:=by simpa using hj
    subst hj
    unfold wpOp
    simp only [hi,hw,Bool.false_eq_true,if_false]
    exact ⟨hS,hn⟩
  show wpAnyH P .any ops (eJ Q) S (rest.length+1) listed a w
  simp only at h
  split at h
  .rename_i hg
   exact go s hs hu (by simp [Region.wanted,hg]) h
  .rename_i j want hg
   split at h
   .rename_i c hc
    obtain ⟨k,hk,hlt,hv,hsv⟩:=G9 hs hc
    have hy:yielded ops a.tmps j=some c:=by
     unfold yielded
     rw [hk]
     simp only [Option.bind_some]
     rw [Array.getD_eq_getD_getElem?] at hv
     simp only [hlt,getElem?_pos,Option.getD_some] at hv
     simp [hlt,hv]
    have hw:Region.wanted o (yielded ops a.tmps)=(c == want):=by simp [Region.wanted,hg,hy]
    have hs':vD ds (s.put ((ops[j]?).bind (·.dst)) (.bool c)) a:=by
     have:=hs.put ((ops[j]?).bind (·.dst)) (u:=.bool c) (v:=.bool c) (λ_=>rfl)
     rw [hk] at this ⊢
     rwa [XK hlt hv] at this
    have eE:bU D s0 (s.put ((ops[j]?).bind (·.dst)) (.bool c)):=hu.put (by
     intro t ht
     cases hj:ops[j]? with
     | none=>simp [hj] at ht
     | some oj=>rw [hj] at ht;exact hD j oj t hj ht) _
    have main:(match c == want with
     | true=>aA6 P (wr (o.dst.getD 0)) o still (s.put ((ops[j]?).bind (·.dst)) (.bool c)) w S λv w'=>tV P wr ops S rest ((s.put ((ops[j]?).bind (·.dst)) (.bool c)).put o.dst v) w' K
     | false=>tV P wr ops S rest ((s.put ((ops[j]?).bind (·.dst)) (.bool c)).put o.dst undef) w K):=by
     clear go skip next rT
     cases c
     .exact h
     .exact h
    cases hcw:c == want with
    | true=>rw [hcw] at main;exact go _ hs' eE (by rw [hw,hcw]) main
    | false=>rw [hcw] at main;exact skip _ hs' eE (by rw [hw,hcw]) main
   .exact h.elim
def aFk (P:Program) (wr:Nat->Bool) (ops:Array Oper) (ord:List (Nat × Bool)) (s:Fr) (w:World) (K:Fr->World->Prop):Prop :=
 match P.follows .mixedOrders&&Region.noSelect ops&&ON ops ord (Array.replicate ops.size false)&&Nat.beq ord.length ops.size with
 | true=>∃ S:World->Prop,∀ w1,w1=w.drewN 1->S w1/\tV P wr ops S ord s w1 K
 | false=>False
theorem aFl {P wr ops ord s a w K Q id D} (hD:∀ (j:Nat) (o:Oper) (t:Nat),ops[j]? = some o->o.dst=some t->D t) (h:aFk P wr ops ord s w K) (hs:vD ds s a) (hK:∀ s' a w,K s' w->vD ds s' a->bU D s s'->Q .normal a w):(Code.region id ops true).wp P Q a w:=by
 unfold aFk at h
 split at h
 .rename_i hc
  simp only [Bool.and_eq_true,Nat.beq_eq] at hc
  obtain ⟨⟨⟨h1,h2⟩,h3⟩,h4⟩:=hc
  obtain ⟨S,h⟩:=h
  obtain ⟨h5,h6⟩:=h _ rfl
  refine wp_mono (wp_region_held (Q:=eJ Q) (S:=S) h1 ?_) a1U
  have h7:=LJ h2 hD hK ord _ _ _ _ h3 h6 h5 hs (bU.refl _ _)
  rw [h4] at h7
  exact h7
 .exact h.elim
end Go.Vc
end

section
namespace Go.Vc
variable {ds:List Deferred}
section
variable {P:Program} {ops:Array Oper} {Q:Exit->Act->World->Prop} {md:Region.Mode} {S:World->Prop} {E:Array Bool->Prop} {K:Act->World->Prop}
def mY (P:Program) (md:Region.Mode) (ops:Array Oper) (Q:Exit->Act->World->Prop) (S:World->Prop) (E:Array Bool->Prop) (K:Act->World->Prop):Nat->Array Bool->Act->World->Prop
 | 0,listed,a,w=>E listed/\K a w
 | n+1,listed,a,w=>Region.ready md ops listed≠[]/\∀ i∈Region.ready md ops listed,wpOp P ops Q i (λa' w'=>S w'/\mY P md ops Q S E K n (listed.setIfInBounds i true) a' w') a w
theorem xD {m} (hK:∀ listed a w,E listed->K a w->wpAny P md ops Q m listed a w):∀ (n:Nat) (listed:Array Bool) (a:Act) (w:World),mY P md ops Q S E K n listed a w->wpAny P md ops Q (n+m) listed a w
 | 0,listed,a,w,h=>by rw [Nat.zero_add];exact hK listed a w h.1 h.2
 | n+1,listed,a,w,h=>by
  rw [show n+1+m=(n+m)+1 by omega]
  exact ⟨λh0=>absurd h0 h.1,λi hi=>wpOp_mono (λa' w' h'=>xD hK n _ a' w' h'.2) (h.2 i hi)⟩
theorem OO {i oi v} (hi:ops[i]? = some oi) (hsel:∀ (j:Nat) (o:Oper) cs b,ops[j]? = some o->o.op≠.select cs b) (hQ:∀ c a w,Q (.panic c) (a.put oi.dst v) w->Q (.panic c) a w) (hE:∀ listed,E (listed.setIfInBounds i true)->i∈Region.ready md ops listed->∀ j∈Region.ready md ops listed,j=i):
  ∀ (n:Nat) (listed:Array Bool) (a:Act) (w:World),
   (∀ j oj,ops[j]? = some oj->j≠i->listed.getD j true=false->(∀ e∈oj.after,Region.binds md e=true->e.on≠i)->oi.apart ops oj=true) ->
   i∈Region.ready md ops listed->YieldsIf P ops S oi v a->S w ->
   mY P md ops Q S E K n (listed.setIfInBounds i true) (a.put oi.dst v) w->mY P md ops Q S E K (n+1) listed a w:=by
 intro n
 induction n with
 | zero =>
  intro listed a w _ hr hy hS H
  refine ⟨λh=>(by rw [h] at hr;cases hr),λj hj=>?_⟩
  have:=hE listed H.1 hr j hj
  subst this
  exact hy.wpOp hi hS ⟨hS,H⟩
 | succ n ih =>
  intro listed a w hfree hr hy hS H
  refine ⟨λh=>(by rw [h] at hr;cases hr),λj hj=>?_⟩
  by_cases hji:j=i
  .subst hji;exact hy.wpOp hi hS ⟨hS,H⟩
  .have h1:=H.2 j (ready_mono hj hji)
   obtain ⟨a5m,oj,hoj,hall⟩:=mem_ready.1 hj
   have hnot:∀ e∈oj.after,Region.binds md e=true->e.on≠i:=λe he hb heq=>by
    have h1:=hall e he hb
    have h0:=(mem_ready.1 hr).1
    rw [heq] at h1
    rcases Nat.lt_or_ge i listed.size with h'|h'
    .simp [h'] at h0 h1;rw [h0] at h1;cases h1
    .simp [Array.getElem?_eq_none h'] at h1
   have h2:=wpOp_putIf hoj (hfree j oj hoj hji a5m hnot) (λcs b=>hsel i oi cs b hi) (λcs b=>hsel j oj cs b hoj) hQ hy h1
   have XN:∀ k ok,ops[k]? = some ok->k≠i->(listed.setIfInBounds j true).getD k true=false ->
     (∀ e∈ok.after,Region.binds md e=true->e.on≠i)->oi.apart ops ok=true:=λk ok hk hki hun hno=>by
    refine hfree k ok hk hki ?_ hno
    by_cases hjk:j=k
    .subst hjk;exact a5m
    .rw [getD_set_ne true hjk] at hun;exact hun
   refine wpOp_mono (λa' w' h3=>⟨h3.2.1,ih (listed.setIfInBounds j true) a' w' XN (ready_mono hr (Ne.symm hji)) h3.1 h3.2.1 ?_⟩) h2
   rw [Array.setIfInBounds_comm _ _ hji]
   exact h3.2.2
end
def SA (ops:Array Oper) (T:List Nat) (fin:Array Bool):Bool:=T.all λi=>Region.ready .any ops (fin.setIfInBounds i false) == [i]
def bH:List Nat->Array Bool->Array Bool
 | [],l=>l
 | i :: r,l=>bH r (l.setIfInBounds i true)
def lG (ops:Array Oper):List Nat->Array Bool->Bool
 | [],_=>true
 | i :: r,listed=>(Region.ready .any ops listed).contains i&&Region.free .any ops listed i&&lG ops r (listed.setIfInBounds i true)
section
variable {P:Program} {ops:Array Oper} {Q:Exit->Act->World->Prop} {md:Region.Mode} {S:Array Bool->World->Prop} {rd:Nat->Bool} {E:Array Bool->Prop} {K:Act->World->Prop}
def mZ (P:Program) (md:Region.Mode) (ops:Array Oper) (Q:Exit->Act->World->Prop) (S:Array Bool->World->Prop) (rd:Nat->Bool) (E:Array Bool->Prop) (K:Act->World->Prop):Nat->Array Bool->Act->World->Prop
 | 0,listed,a,w=>E listed/\K a w
 | n+1,listed,a,w=>Region.ready md ops listed≠[]/\∀ i∈Region.ready md ops listed,wpOp P ops Q i (λa' w'=>S (listed.setIfInBounds i true) w'/\(rd i=true->w'=w)/\mZ P md ops Q S rd E K n (listed.setIfInBounds i true) a' w') a w
theorem MA (hK:∀ listed a w,E listed->K a w->wpAny P md ops Q 0 listed a w):∀ (n:Nat) (listed:Array Bool) (a:Act) (w:World),mZ P md ops Q S rd E K n listed a w->wpAny P md ops Q n listed a w
 | 0,listed,a,w,h=>hK listed a w h.1 h.2
 | n+1,listed,a,w,h=>⟨λh0=>absurd h0 h.1,λi hi=>wpOp_mono (λa' w' h'=>MA hK n _ a' w' h'.2.2) (h.2 i hi)⟩
theorem a3u {i oi v} (hi:ops[i]? = some oi) (hsel:∀ (j:Nat) (o:Oper) cs b,ops[j]? = some o->o.op≠.select cs b) (hQ:∀ c a w,Q (.panic c) (a.put oi.dst v) w->Q (.panic c) a w) (hE:∀ listed,E (listed.setIfInBounds i true)->i∈Region.ready md ops listed->∀ j∈Region.ready md ops listed,j=i) (aMo:∀ x w,i∈Region.ready md ops x->S x w->S (x.setIfInBounds i true) w) (hmono:∀ (x:Array Bool) (j:Nat) (w w':World),i∈Region.ready md ops x->j∈Region.ready md ops x->j≠i->S x w->(rd j=true->w'=w)->S ((x.setIfInBounds i true).setIfInBounds j true) w'->S (x.setIfInBounds j true) w'):
  ∀ (n:Nat) (listed:Array Bool) (a:Act) (w:World),
   (∀ j oj,ops[j]? = some oj->j≠i->listed.getD j true=false->(∀ e∈oj.after,Region.binds md e=true->e.on≠i)->oi.apart ops oj=true) ->
   i∈Region.ready md ops listed->YieldsIf P ops (λw=>∃ x,i∈Region.ready md ops x/\S x w) oi v a->S listed w ->
   mZ P md ops Q S rd E K n (listed.setIfInBounds i true) (a.put oi.dst v) w->mZ P md ops Q S rd E K (n+1) listed a w:=by
 intro n
 induction n with
 | zero =>
  intro listed a w _ hr hy hS H
  refine ⟨λh=>(by rw [h] at hr;cases hr),λj hj=>?_⟩
  have:=hE listed H.1 hr j hj
  subst this
  exact hy.wpOp hi ⟨listed,hr,hS⟩ ⟨aMo _ _ hr hS,λ_=>rfl,H⟩
 | succ n ih =>
  intro listed a w hfree hr hy hS H
  refine ⟨λh=>(by rw [h] at hr;cases hr),λj hj=>?_⟩
  by_cases hji:j=i
  .subst hji;exact hy.wpOp hi ⟨listed,hr,hS⟩ ⟨aMo _ _ hr hS,λ_=>rfl,H⟩
  .have h1:=H.2 j (ready_mono hj hji)
   obtain ⟨a5m,oj,hoj,hall⟩:=mem_ready.1 hj
   have hnot:∀ e∈oj.after,Region.binds md e=true->e.on≠i:=λe he hb heq=>by
    have h1:=hall e he hb
    have h0:=(mem_ready.1 hr).1
    rw [heq] at h1
    rcases Nat.lt_or_ge i listed.size with h'|h'
    .simp [h'] at h0 h1;rw [h0] at h1;cases h1
    .simp [Array.getElem?_eq_none h'] at h1
   have h2:=wpOp_putIf hoj (hfree j oj hoj hji a5m hnot) (λcs b=>hsel i oi cs b hi) (λcs b=>hsel j oj cs b hoj) hQ hy h1
   have XN:∀ k ok,ops[k]? = some ok->k≠i->(listed.setIfInBounds j true).getD k true=false ->
     (∀ e∈ok.after,Region.binds md e=true->e.on≠i)->oi.apart ops ok=true:=λk ok hk hki hun hno=>by
    refine hfree k ok hk hki ?_ hno
    by_cases hjk:j=k
    .subst hjk;exact a5m
    .rw [getD_set_ne true hjk] at hun;exact hun
   refine wpOp_mono (λa' w' h3=>?_) h2
   obtain ⟨hy',hS',hrd,dZ⟩:=h3
   have hSj:=hmono listed j w w' hr hj hji hS hrd hS'
   refine ⟨hSj,hrd,ih (listed.setIfInBounds j true) a' w' XN (ready_mono hr (Ne.symm hji)) hy' hSj ?_⟩
   rw [Array.setIfInBounds_comm _ _ hji]
   exact dZ
end
end Go.Vc
end

