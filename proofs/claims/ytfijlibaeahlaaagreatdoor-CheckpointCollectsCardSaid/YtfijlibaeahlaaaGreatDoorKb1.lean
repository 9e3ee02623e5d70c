/-
 THE CONDITIONS OF A WALK AS ONE FORMULA: the operations. 'vcOp' says,for one operation in a known frame,what must hold of the memory so that the walk can go on;'vcOp_sound' says that this suffices.
-/
import Derived.WalkKit
import Derived.WalkSpells
import Derived.WalkLawsBesides
import Derived.Deep.QuietTactic
import Derived.Laws.StructEq
import Derived.OrdersHeld

abbrev aA(b o:Nat):Go.Value:=.pointer (some ⟨b,o,none⟩)
abbrev γ:=@inferInstance
theorem aO{p:Prop}[Decidable p](h:decide p=false):¬p:=of_decide_eq_false h
theorem aD{p:Prop}[Decidable p](h:decide p=true):p:=of_decide_eq_true h
theorem aq{α:Type _}(a b c:List α):a++b++c=a++(b++c):=List.append_assoc a b c
abbrev c6:=Go.Ending->Go.World->Prop
set_option linter.unusedVariables false
set_option linter.unusedSimpArgs false
section
namespace Go.Vc
open Go.RowKit
inductive bh where
 | int (k:IntKind)|bool|str|ptr|slice|map|fn|any|rj
def bh.ex:bh->(Value->Prop)->Prop
 | .int k,K=>∃ n:Int,K (.int k n)
 | .bool,K=>∃ b:Bool,K (.bool b)
 | .str,K=>∃ s:ByteArray,K (.string s)
 | .ptr,K=>∃ p:Option Addr,K (.pointer p)
 | .slice,K=>∃ p:Option Addr,∃ n c:Nat,K (.slice p n c)
 | .map,K=>∃ r:Option Nat,K (.map r)
 | .fn,K=>∃ (f:FuncId) (a c:Array Value),K (.func (.func f) a c)
 | .any,K=>∃ v:Value,K v
 | .rj,K=>∃ b o:Nat,K (.pointer (some ⟨b,o,none⟩))
theorem bh.Bk{s:bh}{K:Value->Prop}(h:s.ex K):∃ v,K v:=by
 cases s<;>simp only [bh.ex] at h
 case slice=>obtain ⟨p,n,c,h⟩:=h;exact ⟨_,h⟩
 case fn=>obtain ⟨p,a,c,h⟩:=h;exact ⟨_,h⟩
 case rj=>obtain ⟨b,o,h⟩:=h;exact ⟨_,h⟩
 all_goals (obtain ⟨x,h⟩:=h;exact ⟨_,h⟩)
def bh.of:Value->bh
 | .int k _=>.int k
 | .bool _=>.bool
 | .string _=>.str
 | .pointer _=>.ptr
 | .slice _ _ _=>.slice
 | .map _=>.map
 | _=>.any
inductive gU where
 | one (s:bh)|agg (l:List bh)
def gU.of:Value->gU
 | .agg cs=>.agg (cs.toList.map bh.of)
 | .nilFunc=>.one .fn
 | v=>.one (bh.of v)
def shape(P:Program)(t:TypeId):Option gU:=(P.info? t).bind λi=>i.zero.map gU.of
def FG:List bh->(List Value->Prop)->Prop
 | [],K=>K []
 | s :: r,K=>s.ex λv=>FG r λvs=>K (v :: vs)
theorem a6r:∀ {l:List bh} {K:List Value->Prop},FG l K->∃ vs,K vs
 | [],_,h=>⟨[],h⟩
 | _ :: _,_,h=>by
  obtain ⟨v,h⟩:=bh.Bk h;obtain ⟨vs,h⟩:=a6r h;exact ⟨_,h⟩
theorem a6q:∀ {l:List bh} {K:List Value->Prop},FG l K->∃ vs,vs.length=l.length/\K vs
 | [],_,h=>⟨[],rfl,h⟩
 | _ :: _,_,h=>by
  obtain ⟨v,h⟩:=bh.Bk h;obtain ⟨vs,hl,h⟩:=a6q h;exact ⟨_,by simp [hl],h⟩
def gU.ex:gU->(Value->Prop)->Prop
 | .one s,K=>s.ex K
 | .agg l,K=>FG l λvs=>K (.agg vs.toArray)
theorem gU.Bk{s:gU}{K:Value->Prop}(h:s.ex K):∃ v,K v:=by
 cases s with
 | one s=>exact bh.Bk h
 | agg l=>obtain ⟨vs,h⟩:=a6r h;exact ⟨_,h⟩
def Ga(P:Program)(t:TypeId)(K:Value->Prop):Prop :=
 match shape P t with
 | some s=>s.ex K
 | none=>∃ v,K v
theorem Rc{P:Program}{t:TypeId}{K:Value->Prop}(h:Ga P t K):∃ v,K v:=by
 unfold Ga at h;split at h
 .exact gU.Bk h
 .exact h
def Ma(P:Program):List TypeId->(List Value->Prop)->Prop
 | [],K=>K []
 | t :: r,K=>Ga P t λv=>Ma P r λvs=>K (v :: vs)
theorem Rd{P:Program}:∀ {l:List TypeId} {K:List Value->Prop},Ma P l K->∃ vs,K vs
 | [],_,h=>⟨[],h⟩
 | _ :: _,_,h=>by
  obtain ⟨v,h⟩:=Rc h;obtain ⟨vs,h⟩:=Rd h;exact ⟨_,h⟩
def pN:List Value->Value
 | [v]=>v
 | vs=>.tuple vs.toArray
def aYW(P:Program)(ts:List TypeId)(e:Ending)(K:Value->Prop):Prop :=
 Ma P ts λvs=>e=.returned (pN vs)/\K (pN vs)
def Uj(P:Program)(f:FuncId)(args:Array Value)(w:World)(K:Value->World->Prop):Prop :=
 match P.funcs[f]? with
 | some fn=>Calls P f args w λe w'=>aYW P fn.resultTypes.toList e λv=>K v w'
 | none=>False
theorem aQZ{P:Program}{f:FuncId}{args:Array Value}{w:World}{K:Value->World->Prop}(h:Uj P f args w K):
  Calls P f args w λe w'=>∃ v,e=.returned v/\K v w':=by
 unfold Uj at h;split at h
 .refine h.mono λe w' h=>?_;obtain ⟨vs,he,hk⟩:=Rd h;exact ⟨_,he,hk⟩
 .exact h.elim
def a61(P:Program)(f:FuncId)(args:Array Value)(w:World)(K:Value->World->Prop):Prop :=
 Calls P f args w λe w'=>(∃ n:Int,e=.returned (.tuple #[.int .i64 n,.nilIface])/\K (.tuple #[.int .i64 n,.nilIface]) w') \/
  ∃ (n:Int) (t:TypeId) (v:Value),e=.returned (.tuple #[.int .i64 n,.iface t v])/\K (.tuple #[.int .i64 n,.iface t v]) w'
theorem aQY{P:Program}{f:FuncId}{args:Array Value}{w:World}{K:Value->World->Prop}(h:a61 P f args w K):
  Calls P f args w λe w'=>∃ v,e=.returned v/\K v w':=by
 refine h.mono λe w' h=>?_;rcases h with ⟨n,he,hk⟩|⟨n,t,v,he,hk⟩
 .exact ⟨_,he,hk⟩
 .exact ⟨_,he,hk⟩
def aUt(n:String):Bool:=n == "strconv.Atoi"
def aQ(w:World)(b o:Nat)(vs:List Value):Prop:=∀ j,(h:j<vs.length)->w.cell? ⟨b,o+j,none⟩=some vs[j]
theorem run_loadCellsFrom{P:Program}{w:World}{b o:Nat}:∀ (vs:List Value) (i:Nat) (acc:Array Value),
  (∀ j,(h:j<vs.length)->w.cell? ⟨b,o+(i+j),none⟩=some vs[j]) ->
  (loadCellsFrom ⟨b,o,none⟩ i vs.length acc).run P w=.ok (acc++vs.toArray) w
 | [],i,acc,_=>by simp [loadCellsFrom]
 | v :: vs,i,acc,h=>by
  have h0:w.cell? ((⟨b,o,none⟩:Addr).add i)=some v:=by
   have:=h 0 (by simp);simp only [Nat.add_zero,List.getElem_cons_zero] at this;unfold Addr.add;split
   .rename_i e;subst e;simpa using this
   .exact this
  have ih:=run_loadCellsFrom (P:=P) (w:=w) (b:=b) (o:=o) vs (i+1) (acc.push v) (λj hj=>by
   have:=h (j+1) (by simpa using hj);rw [show i+1+j=i+(j+1) by omega,this];simp)
  simp only [List.length_cons,loadCellsFrom,Sem.run_bind,load,Sem.run,h0,Result.andThen,Sem.run_pure',ih];simp
def tK:TypeDesc->Bool
 | .struct _ | .array _ _=>true
 | _=>false
theorem GN{P:Program}{t:TypeId}{d:TypeDesc}{w:World}(h:P.underlying t=some d):
  (isAgg t).run P w=.ok (tK d) w:=by
 unfold isAgg;simp only [Sem.run_bind,run_underlying h,Result.andThen];cases d<;>simp [tK]
theorem run_sizeOf{P:Program}{t:TypeId}{i:TypeInfo}{w:World}(h:P.info? t=some i):(sizeOf t).run P w=.ok i.size w:=by
 simp [sizeOf,typeInfo,h]
def dJ:Value->Bool
 | .agg _ | .tuple _=>false
 | _=>true
def bJ(w:World)(b o n:Nat):Prop:=∀ j,j<n->(w.cell? ⟨b,o+j,none⟩).isSome=true/\w.frozen? ⟨b,o+j,none⟩=false
theorem RR{P:Program}{b o:Nat}:∀ (vs:List Value) (i:Nat) (w:World),(∀ v∈vs,dJ v=true) ->
  (∀ j,j<vs.length->(w.cell? ⟨b,o+(i+j),none⟩).isSome=true/\w.frozen? ⟨b,o+(i+j),none⟩=false) ->
  (storeCells ⟨b,o,none⟩ vs i).run P w=.ok () (w.setCells b (o+i) vs)
 | [],i,w,_,_=>by simp [storeCells,World.setCells]
 | v :: vs,i,w,h1,h2=>by
  obtain ⟨hs,hf⟩:=h2 0 (by simp);simp only [Nat.add_zero] at hs hf;have ha:(⟨b,o,none⟩:Addr).add i=⟨b,o+i,none⟩:=by unfold Addr.add;split<;>simp_all
  obtain ⟨u,hu⟩:=Option.isSome_iff_exists.1 hs;have ih:=RR (P:=P) (b:=b) (o:=o) vs (i+1) (w.setCell ⟨b,o+i,none⟩ v) (λx hx=>h1 x (by simp [hx])) (λj hj=>by
   obtain ⟨k1,k2⟩:=h2 (j+1) (by simpa using hj);rw [show i+(j+1)=i+1+j by omega] at k1 k2;rw [World.frozen?_setCell];refine ⟨?_,k2⟩;obtain ⟨u,hu⟩:=Option.isSome_iff_exists.1 k1;obtain ⟨v',nk⟩:=cell?_setCell_some (p:=⟨b,o+i,none⟩) (x:=v) hu;simp [nk])
  have hv:dJ v=true:=h1 v (by simp);have hrun:((store (⟨b,o+i,none⟩:Addr) v).run P w)=.ok () (w.setCell ⟨b,o+i,none⟩ v):=by
   unfold store;cases v<;>simp [dJ] at hv<;>simp [Sem.run,hu,hf]
  simp only [storeCells,Sem.run_bind,ha,hrun,Result.andThen,ih,World.setCells];rw [show o+i+1=o+(i+1) by omega]
def S1(P:Program)(t:TypeId)(w:World)(b o:Nat)(v:Value)(K:World->Prop):Prop :=
 match P.info? t with
 | some i =>
  match v with
  | .agg cs=>match Nat.beq cs.toList.length i.size&&cs.toList.all dJ with
   | true=>bJ w b o i.size/\∀ w',w'=w.setCells b o cs.toList->K w'
   | false=>False
  | v=>match Nat.beq i.size 1&&dJ v with
   | true=>bJ w b o 1/\∀ w',w'=w.setCell ⟨b,o,none⟩ v->K w'
   | false=>False
 | none=>False
theorem Z5{P:Program}{t:TypeId}{i:TypeInfo}{w:World}{b o:Nat}{v:Value}(hi:P.info? t=some i)(hs:i.size=1)(h0:dJ v=true)
  (h1:(w.cell? ⟨b,o,none⟩).isSome=true) (h2:w.frozen? ⟨b,o,none⟩=false):(storeVar t ⟨b,o,none⟩ v).run P w=.ok () (w.setCell ⟨b,o,none⟩ v):=by
 have hcells:v.cells=#[v]:=by cases v<;>first|rfl|cases h0
 have hr:=RR (P:=P) (b:=b) (o:=o) [v] 0 w (by simpa using h0) (λj hj=>by
  have:j=0:=by simpa using hj
  subst this;exact ⟨h1,h2⟩)
 unfold storeVar;simp only [hcells,Sem.run_bind,run_sizeOf hi,Result.andThen,hs,List.size_toArray,List.length_cons,List.length_nil,ne_eq,not_true_eq_false,if_false];simpa [World.setCells] using hr
theorem aJ6{P:Program}{t:TypeId}{w:World}{b o:Nat}{v:Value}{K:World->Prop}(h:S1 P t w b o v K):
  ∃ w',(storeVar t ⟨b,o,none⟩ v).run P w=.ok () w'/\K w':=by
 unfold S1 at h;cases hi:P.info? t with
 | none=>rw [hi] at h;exact h.elim
 | some i =>
  rw [hi] at h;simp only at h;have one:(match Nat.beq i.size 1&&dJ v with|true=>bJ w b o 1/\∀ w',w'=w.setCell ⟨b,o,none⟩ v->K w'|false=>False) ->
    ∃ w',(storeVar t ⟨b,o,none⟩ v).run P w=.ok () w'/\K w':=by
   intro h;split at h
   .rename_i hc;simp only [Bool.and_eq_true] at hc;obtain ⟨h1,h3⟩:=h;obtain ⟨h1,h2⟩:=h1 0 (by omega);exact ⟨_,Z5 hi (Nat.eq_of_beq_eq_true hc.1) hc.2 h1 h2,h3 _ rfl⟩
   .exact h.elim
  cases v
  case agg cs =>
   simp only at h;split at h
   .rename_i hc;simp only [Bool.and_eq_true] at hc;have hl:cs.size=i.size:=by have:=Nat.eq_of_beq_eq_true hc.1;simpa using this
    obtain ⟨h1,h2⟩:=h;refine ⟨_,?_,h2 _ rfl⟩;have hr:=RR (P:=P) (b:=b) (o:=o) cs.toList 0 w (λv hv=>List.all_eq_true.1 hc.2 v hv) (λj hj=>by rw [Nat.zero_add];exact h1 j (by simp at hj;omega));unfold storeVar;simp only [Value.cells,Sem.run_bind,run_sizeOf hi,Result.andThen,hl,ne_eq,not_true_eq_false,if_false];simpa using hr
   .exact h.elim
  all_goals exact one h
def fL(g:Option Bool)(p:Prop):Prop :=
 match g with
 | none=>p
 | some c=>c=true->p
def e9:Option Bool->Prop
 | none=>True
 | some c=>c=true
theorem iJ{g:Option Bool}{p:Prop}(h:fL g p)(hg:e9 g):p:=by
 cases g with
 | none=>exact h
 | some c=>exact h hg
def V(n:Int):Prop := -9223372036854775808<=n/\n<=9223372036854775807
theorem a8l{n:Int}(h:V n):IntKind.i64.wrap n=n:=IntWalk.i64_in n h
def BJ(wr:Bool)(g:Option Bool)(k:IntKind)(n:Int)(K:Value->Prop):Prop :=
 match k,wr with
 | .i64,false=>fL g (V n)/\K (.int .i64 n)
 | k,_=>K (.int k (k.wrap n))
theorem IW{wr:Bool}{g:Option Bool}{k:IntKind}{n:Int}{K:Value->Prop}(h:BJ wr g k n K):
  ∃ v,(e9 g->v=.int k (k.wrap n))/\K v:=by
 unfold BJ at h;split at h
 .exact ⟨_,λhg=>by rw [a8l (iJ h.1 hg)],h.2⟩
 .exact ⟨_,λ_=>rfl,h⟩
def aOX(P:Program)(g:Option Bool)(s:Sem Value)(v:Value):Prop:=e9 g->∀ w,s.run P w=.ok v w
def Zu(wr:Bool)(g:Option Bool)(op:BinOp)(x y:Value)(K:Value->Prop):Option Prop :=
 match op,x,y with
 | .add,.int k a,.int k' b=>if k=k' then some (BJ wr g k (a+b) K) else none
 | .sub,.int k a,.int k' b=>if k=k' then some (BJ wr g k (a - b) K) else none
 | .mul,.int k a,.int k' b=>if k=k' then some (BJ wr g k (a*b) K) else none
 | .quo,.int k a,.int k' b=>if k=k' then some (fL g (b≠0)/\BJ wr g k (a.tdiv b) K) else none
 | .rem,.int k a,.int k' b=>if k=k' then some (fL g (b≠0)/\K (.int k (a.tmod b))) else none
 | .eql,.int k a,.int k' b=>if k=k' then some (K (.bool (decide (a=b)))) else none
 | .neq,.int k a,.int k' b=>if k=k' then some (K (.bool (decide (a≠b)))) else none
 | .lss,.int k a,.int k' b=>if k=k' then some (K (.bool (decide (a<b)))) else none
 | .leq,.int k a,.int k' b=>if k=k' then some (K (.bool (decide (a<=b)))) else none
 | .gtr,.int k a,.int k' b=>if k=k' then some (K (.bool (decide (b<a)))) else none
 | .geq,.int k a,.int k' b=>if k=k' then some (K (.bool (decide (b<=a)))) else none
 | .eql,.string a,.string b=>some (K (.bool (decide (a=b))))
 | .neq,.string a,.string b=>some (K (.bool (decide (a≠b))))
 | .lss,.string a,.string b=>some (K (.bool (Op.bytesLess a.toList b.toList)))
 | .add,.string a,.string b=>some (fL g (a.size+b.size<=9223372036854775807)/\K (.string (a++b)))
 | _,_,_=>none
theorem GM{P:Program}{op:BinOp}{t:TypeId}{k:IntKind}{a b:Int}{ox oy:Operand}(h1:op≠.shl)(h2:op≠.shr)(w:World):
  (do eqGuard op t ox oy (.int k a) (.int k b);binOp op t (.int k a) (.int k b):Sem Value).run P w =
   (match op with | .add | .sub | .mul=>Op.intArith op k a b | .quo | .rem=>Op.intDiv op k a b | .and | .or | .xor | .andNot=>Op.intBits op k a b|_=>Op.intCmp op a b).run P w:=by
 cases op<;>simp [eqGuard,binOp,Result.andThen] at * <;> rfl
theorem RS{P:Program}{op:BinOp}{t:TypeId}{a b:ByteArray}{ox oy:Operand}(w:World):
  (do eqGuard op t ox oy (.string a) (.string b);binOp op t (.string a) (.string b):Sem Value).run P w=(Op.stringOp op a b).run P w:=by
 cases op<;>simp [eqGuard,binOp,Result.andThen]<;>rfl
theorem Ua(a b:ByteArray):(a.toList == b.toList)=decide (a=b):=by
 have h:a.toList=b.toList ↔ a=b:=by
  refine ⟨λh=>?_,λh=>by rw [h]⟩;have h1:∀ x:ByteArray,x.toList=x.data.toList:=λx=>ByteArray.toList_eq x;rw [h1,h1] at h;cases a;cases b;simp at h;simp [h]
 by_cases e:a=b
 .simp [e]
 .simp [e,h]
theorem aZW{P:Program}{wr:Bool}{g:Option Bool}{op:BinOp}{t:TypeId}{ox oy:Operand}{x y:Value}{K:Value->Prop}{p:Prop}(h:Zu wr g op x y K=some p)(hp:p):
  ∃ v,aOX P g (do eqGuard op t ox oy x y;binOp op t x y) v/\K v:=by
 unfold Zu at h;split at h
 case h_16=>cases h
 case h_12=>cases h;exact ⟨_,λ_ w=>by rw [RS];simp [Op.stringOp,Ua],hp⟩
 case h_13=>cases h;refine ⟨_,λ_ w=>?_,hp⟩;rw [RS];simp [Op.stringOp,Ua]
 case h_14=>cases h;exact ⟨_,λ_ w=>by rw [RS];simp [Op.stringOp],hp⟩
 case h_15 =>
  cases h;obtain ⟨h1,h2⟩:=hp;refine ⟨_,λhg w=>?_,h2⟩;have:=iJ h1 hg;rw [RS];unfold Op.stringOp;simp only;rw [if_neg (by simp [IntKind.max,IntKind.signed,IntKind.bits];omega)];rfl
 all_goals
  split at h
  case isFalse=>cases h
  rename_i hk;subst hk;cases h
 case h_4 =>
  obtain ⟨h1,h2⟩:=hp;obtain ⟨v,hv,hk⟩:=IW h2;refine ⟨v,λhg w=>?_,hk⟩;have h0:=iJ h1 hg;rw [GM (by decide) (by decide),hv hg];simp [Op.intDiv,h0]
 case h_5 =>
  obtain ⟨h1,h2⟩:=hp;refine ⟨_,λhg w=>?_,h2⟩;have h0:=iJ h1 hg;rw [GM (by decide) (by decide)];simp [Op.intDiv,h0]
 case h_1=>obtain ⟨v,hv,hk⟩:=IW hp;exact ⟨v,λhg w=>by rw [GM (by decide) (by decide),hv hg];rfl,hk⟩
 case h_2=>obtain ⟨v,hv,hk⟩:=IW hp;exact ⟨v,λhg w=>by rw [GM (by decide) (by decide),hv hg];rfl,hk⟩
 case h_3=>obtain ⟨v,hv,hk⟩:=IW hp;exact ⟨v,λhg w=>by rw [GM (by decide) (by decide),hv hg];rfl,hk⟩
 all_goals (refine ⟨_,λ_ w=>?_,hp⟩;rw [GM (by decide) (by decide)];simp [Op.intCmp];try (first|rfl|(rw [Bool.eq_iff_iff];simp)))
def Dg(P:Program)(t:TypeId)(w:World)(g:Option Bool)(b o:Nat)(K:Value->Prop):Prop :=
 match P.underlying t,P.info? t with
 | some d,some i =>
  match tK d,i.zero.map gU.of with
  | true,some (.agg l)=>match Nat.beq l.length i.size with
   | true=>FG l λvs=>fL g (aQ w b o vs)/\K (.agg vs.toArray)
   | false=>False
  | false,some (.one s)=>s.ex λv=>fL g (w.cell? ⟨b,o,none⟩=some v)/\K v
  | _,_=>False
 | _,_=>False
theorem a65{w w':World}(h:w'.heap=w.heap)(a:Addr):w'.cell? a=w.cell? a:=by simp [World.cell?,h]
theorem Rz{P:Program}{t:TypeId}{w:World}{g:Option Bool}{b o:Nat}{K:Value->Prop}(h:Dg P t w g b o K):
  ∃ v,(e9 g->∀ w',w'.heap=w.heap->(loadVar t ⟨b,o,none⟩).run P w'=.ok v w')/\K v:=by
 unfold Dg at h;split at h
 .rename_i d i hd hi;split at h
  .rename_i l ha _;split at h
   .rename_i hl;obtain ⟨vs,hlen,hc,hk⟩:=a6q h;rw [Nat.eq_of_beq_eq_true hl] at hlen;refine ⟨_,λhg w' hw=>?_,hk⟩;have hr:=run_loadCellsFrom (P:=P) (w:=w') (b:=b) (o:=o) vs 0 #[] (λj hj=>by rw [a65 hw,Nat.zero_add];exact iJ hc hg j hj);unfold loadVar loadCells;simp only [Sem.run_bind,GN hd,ha,Result.andThen,if_true,run_sizeOf hi,<-hlen,hr,Sem.run_pure];simp
   .exact h.elim
  .rename_i s ha _;obtain ⟨v,hv,hk⟩:=bh.Bk h;refine ⟨v,λhg w' hw=>?_,hk⟩;have hc:=iJ hv hg;rw [<-a65 hw] at hc;unfold loadVar;simp only [Sem.run_bind,GN hd,ha,Result.andThen,Bool.false_eq_true,if_false,load,Sem.run,hc]
  .exact h.elim
 .exact h.elim
def a08(P:Program)(t:TypeId)(x:Value)(f:Nat)(K:Value->Prop):Option Prop :=
 match x,P.underlying t with
 | .pointer (some ⟨b,o,none⟩),some (.struct fs) =>
  match fs[f]? with
  | some fd =>
   match P.info? fd.type with
   | some i=>if i.size=0 then none else some (K (.pointer (some ⟨b,o+fd.offset,none⟩)))
   | none=>none
  | none=>none
 | _,_=>none
theorem addr_add(b o n:Nat):(⟨b,o,none⟩:Addr).add n=⟨b,o+n,none⟩:=by unfold Addr.add;split<;>simp_all
theorem aZh{P:Program}{t:TypeId}{x:Value}{f:Nat}{K:Value->Prop}{p:Prop}(h:a08 P t x f K=some p)(hp:p):
  ∃ v,(∀ w,(Instr.fieldAt t x f).run P w=.ok v w)/\K v:=by
 unfold a08 at h;split at h
 .rename_i b o fs ht;split at h
  .rename_i fd hf;split at h
   .rename_i i hi;split at h
    .cases h
    .rename_i hz;cases h;refine ⟨_,λw=>?_,hp⟩;simp [Instr.fieldAt,run_underlying ht,Result.andThen,hf,Instr.sureAddr,fieldPlace,run_sizeOf hi,hz,addr_add]
   .cases h
  .cases h
 .cases h
def gA(g:Option Bool)(p:Option Addr)(K:Nat->Nat->Prop):Prop :=
 match p with
 | some ⟨b,o,none⟩=>K b o
 | p=>∃ b o,fL g (p=some ⟨b,o,none⟩)/\K b o
theorem aH1{g:Option Bool}{p:Option Addr}{K:Nat->Nat->Prop}(h:gA g p K):∃ b o,fL g (p=some ⟨b,o,none⟩)/\K b o:=by
 unfold gA at h;split at h
 .refine ⟨_,_,?_,h⟩;cases g
  .rfl
  .exact λ_=>rfl
 .exact h
theorem aL{g:Option Bool}{p:Option Addr}{K:Nat->Nat->Prop}(b o:Nat)(h:p=some ⟨b,o,none⟩)(hk:K b o):gA g p K:=by
 subst h;exact hk
theorem aYA{c:Bool}{p:Option Addr}{K:Nat->Nat->Prop}(h:c=false)(hk:∀ b o,K b o):gA (some c) p K:=by
 subst h;unfold gA;split
 .exact hk _ _
 .exact ⟨0,0,λh=>(by cases h),hk _ _⟩
def idx(o n:Nat):Nat->Nat
 | 1=>o+n
 | s=>o+n*s
theorem idx_eq(o n s:Nat):idx o n s=o+n*s:=by
 unfold idx;split
 .simp
 .rfl
def Rf(P:Program)(t:TypeId):Nat:=match P.info? t with|some i=>i.size|none=>0
def a0A(P:Program)(g:Option Bool)(t:TypeId)(x i:Value)(K:Value->Prop):Option Prop :=
 match x,i,P.underlying t with
 | .slice p len _,.int _ n,some (.slice e) =>
  match P.info? e with
  | some fc=>some (fL g (0<=n/\n<len)/\gA g p λb o=>K (.pointer (some ⟨b,idx o n.toNat fc.size,none⟩)))
  | none=>none
 | .pointer (some ⟨b,o,none⟩),.int _ n,some (.array len e) =>
  match P.info? e with
  | some fc=>some (fL g (0<=n/\n<len)/\K (.pointer (some ⟨b,idx o n.toNat fc.size,none⟩)))
  | none=>none
 | _,_,_=>none
theorem aZj{P:Program}{g:Option Bool}{t:TypeId}{x i:Value}{K:Value->Prop}{p:Prop}(h:a0A P g t x i K=some p)(hp:p):
  ∃ v,(e9 g->∀ w,(Instr.indexAt t x i).run P w=.ok v w)/\K v:=by
 unfold a0A at h;split at h
 .rename_i q len _ kk n e ht;split at h
  .rename_i fc hi;cases h;obtain ⟨h0,hp⟩:=hp;obtain ⟨b,o,h1,h2⟩:=aH1 hp;refine ⟨_,λhg w=>?_,h2⟩;obtain ⟨h3,h4⟩:=iJ h0 hg;have h5:=iJ h1 hg;subst h5;simp [Instr.indexAt,asIntOf,run_underlying ht,Result.andThen,h3,h4,run_sizeOf hi,addr_add,idx_eq]
  .cases h
 .rename_i b o kk n len e ht;split at h
  .rename_i fc hi;cases h;obtain ⟨h1,h2⟩:=hp;refine ⟨_,λhg w=>?_,h2⟩;obtain ⟨h3,h4⟩:=iJ h1 hg;simp [Instr.indexAt,asIntOf,run_underlying ht,Result.andThen,h3,h4,run_sizeOf hi,addr_add,Instr.sureAddr,idx_eq]
  .cases h
 .cases h
def MI(cs:Array Value)(off n:Nat):Array Value:=((cs.toList.drop off).take n).toArray
theorem aY5(cs:Array Value)(off n:Nat):cs.extract off (off+n)=MI cs off n:=by
 apply Array.ext';simp [MI]
def Ey:Nat->List Value->Option Value
 | 0,v :: _=>some v
 | i+1,_ :: r=>Ey i r
 | _,[]=>none
theorem Ez:∀ (i:Nat) (l:List Value),Ey i l=l[i]?
 | 0,[]=>rfl
 | 0,_ :: _=>rfl
 | i+1,[]=>rfl
 | i+1,v :: r=>by rw [Ey,Ez i r];rfl
def a09(P:Program)(g:Option Bool)(t:TypeId)(x i:Value)(K:Value->Prop):Option Prop :=
 match x,i,P.underlying t with
 | .string s,.int _ n,some .string=>some (∃ c:UInt8,fL g (0<=n/\s.data.toList[n.toNat]? = some c)/\K (.int .u8 c.toNat))
 | .agg cs,.int _ n,some (.array len e) =>
  match P.underlying e,P.info? e with
  | some d,some fc =>
   match tK d,fc.zero.map gU.of with
   | true,some (.agg _)=>some (fL g (0<=n/\n<len)/\K (.agg (MI cs (idx 0 n.toNat fc.size) fc.size)))
   | false,some (.one s)=>some (s.ex λv=>fL g (0<=n/\n<len/\Ey (idx 0 n.toNat fc.size) cs.toList=some v)/\K v)
   | _,_=>none
  | _,_=>none
 | _,_,_=>none
theorem aHW{P:Program}{e:TypeId}{d:TypeDesc}{fc:TypeInfo}{cs:Array Value}{off:Nat}{w:World}(hd:P.underlying e=some d)(ha:tK d=true)(hi:P.info? e=some fc):
  (part e cs off).run P w=.ok (.agg (MI cs off fc.size)) w:=by
 simp [part,GN hd,ha,Result.andThen,run_sizeOf hi,aY5]
theorem RQ{P:Program}{e:TypeId}{d:TypeDesc}{cs:Array Value}{off:Nat}{v:Value}{w:World}(hd:P.underlying e=some d)(ha:tK d=false)(hv:cs[off]? = some v):
  (part e cs off).run P w=.ok v w:=by
 simp [part,GN hd,ha,Result.andThen,hv]
theorem aZk{P:Program}{g:Option Bool}{t:TypeId}{x i:Value}{K:Value->Prop}{p:Prop}(h:a09 P g t x i K=some p)(hp:p):
  ∃ v,(e9 g->∀ w,(Instr.index t x i).run P w=.ok v w)/\K v:=by
 unfold a09 at h;split at h
 .rename_i s kk n ht;cases h;obtain ⟨c,h1,h2⟩:=hp;refine ⟨_,λhg w=>?_,h2⟩;obtain ⟨h3,h4⟩:=iJ h1 hg;have h5:s[n.toNat]? = some c:=by
   obtain ⟨hlt,he⟩:=List.getElem?_eq_some_iff.1 h4;have hs:n.toNat<s.size:=by simpa using hlt
   rw [getElem?_pos s n.toNat hs];simpa [ByteArray.getElem_eq_getElem_data] using he
  simp [Instr.index,asIntOf,run_underlying ht,Result.andThen,h3,h5]
 .rename_i cs kk n len e ht;split at h
  .rename_i d fc hd hi;split at h
   .rename_i l ha _;cases h;obtain ⟨h1,h2⟩:=hp;refine ⟨_,λhg w=>?_,h2⟩;obtain ⟨h3,h4⟩:=iJ h1 hg;simp [Instr.index,asIntOf,run_underlying ht,Result.andThen,h3,h4,run_sizeOf hi,aHW hd ha hi,idx_eq]
   .rename_i s ha _;cases h;obtain ⟨v,h1,h2⟩:=bh.Bk hp;refine ⟨v,λhg w=>?_,h2⟩;obtain ⟨h3,h4,h5⟩:=iJ h1 hg;rw [idx_eq,Nat.zero_add,Ez,Array.getElem?_toList] at h5;simp [Instr.index,asIntOf,run_underlying ht,Result.andThen,h3,h4,run_sizeOf hi,RQ hd ha h5]
   .cases h
  .cases h
 .cases h
def a07(P:Program)(t:TypeId)(x:Value)(f:Nat)(K:Value->Prop):Option Prop :=
 match x,P.underlying t with
 | .agg cs,some (.struct fs) =>
  match fs[f]? with
  | some fd =>
   match P.underlying fd.type,P.info? fd.type with
   | some d,some i =>
    match tK d with
    | true=>some (K (.agg (MI cs fd.offset i.size)))
    | false=>match cs[fd.offset]? with
     | some v=>some (K v)
     | none=>none
   | _,_=>none
  | none=>none
 | _,_=>none
theorem aZi{P:Program}{t:TypeId}{x:Value}{f:Nat}{K:Value->Prop}{p:Prop}(h:a07 P t x f K=some p)(hp:p):
  ∃ v,(∀ w,(Instr.field t x f).run P w=.ok v w)/\K v:=by
 unfold a07 at h;split at h
 .rename_i cs fs ht;split at h
  .rename_i fd hf;split at h
   .rename_i d i hd hi;split at h
    .rename_i ha;cases h;exact ⟨_,λw=>by simp [Instr.field,run_underlying ht,Result.andThen,hf,asAgg,aHW hd ha hi],hp⟩
    .rename_i ha;split at h
     .rename_i v hv;cases h;exact ⟨_,λw=>by simp [Instr.field,run_underlying ht,Result.andThen,hf,asAgg,RQ hd ha hv],hp⟩
     .cases h
   .cases h
  .cases h
 .cases h
def aV(p:Option Addr)(size l m:Nat):Option Addr:=if m=l then p else p.map (·.add (l*size))
def Md(g:Option Bool)(lo hi:Option Value)(len cap:Nat)(K':Nat->Nat->Prop):Option Prop :=
 match lo,hi with
 | none,none=>some (fL g (len<=cap)/\K' 0 len)
 | some (.int _ l),none=>some (fL g (0<=l/\l<=len/\len<=cap)/\K' l.toNat len)
 | none,some (.int _ h)=>some (fL g (0<=h/\h<=cap)/\K' 0 h.toNat)
 | some (.int _ l),some (.int _ h)=>some (fL g (0<=l/\l<=h/\h<=cap)/\K' l.toNat h.toNat)
 | _,_=>none
def a0C(P:Program)(g:Option Bool)(t:TypeId)(x:Value)(lo hi:Option Value)(K:Value->Prop):Option Prop :=
 match x,P.underlying t with
 | .string s,some .string=>Md g lo hi s.size s.size λl h=>K (.string (s.extract l h))
 | .slice p len cap,some (.slice e) =>
  match P.info? e with
  | some fc=>Md g lo hi len cap λl h=>K (.slice (aV p fc.size l cap) (h - l) (cap - l))
  | none=>none
 | .pointer (some ⟨b,o,none⟩),some (.array n e) =>
  match P.info? e with
  | some fc=>Md g lo hi n n λl h=>K (.slice (aV (some ⟨b,o,none⟩) fc.size l n) (h - l) (n - l))
  | none=>none
 | _,_=>none
theorem Z4{P:Program}{aWg:Bool}{len cap:Nat}{lo hi:Option Value}{l h:Nat}(hlo:match lo with|none=>l=0|some (.int _ n)=>0<=n/\l=n.toNat|_=>False)
  (hhi:match hi with|none=>h=len|some (.int _ n)=>0<=n/\h=n.toNat|_=>False) (hlh:l<=h) (hc:h<=cap) (w:World) :
  (Instr.sliceBounds aWg len cap lo hi none).run P w=.ok (l,h,cap) w:=by
 have hb:∀ (k:IntKind) (n:Int) (y:Nat) (code:BoundsCode),0<=n->n.toNat<=y->(Instr.sliceBound (.int k n) y code).run P w=.ok n.toNat w:=by
  intro k n y code h0 h1;unfold Instr.sliceBound;simp only [asIntOf,Sem.run_bind,Sem.run_pure,Result.andThen];rw [if_pos ⟨h0,by omega⟩];rfl
 unfold Instr.sliceBounds;cases hi with
 | none =>
  simp only at hhi;subst hhi;cases lo with
  | none=>simp only at hlo;subst hlo;simp [Result.andThen]
  | some v =>
   cases v<;>simp only at hlo;obtain ⟨h0,rfl⟩:=hlo;simp [Result.andThen,hb _ _ _ _ h0 hlh]
 | some v =>
  cases v<;>simp only at hhi;obtain ⟨h0,rfl⟩:=hhi;cases lo with
  | none=>simp only at hlo;subst hlo;simp [Result.andThen,hb _ _ _ _ h0 hc]
  | some v =>
   cases v<;>simp only at hlo;obtain ⟨h1,rfl⟩:=hlo;simp [Result.andThen,hb _ _ _ _ h0 hc,hb _ _ _ _ h1 hlh]
theorem a0F{g:Option Bool}{lo hi:Option Value}{len cap:Nat}{K':Nat->Nat->Prop}{p:Prop}
  (h:Md g lo hi len cap K'=some p) (hp:p) :
  ∃ l h,(e9 g->(match lo with|none=>l=0|some (.int _ n)=>0<=n/\l=n.toNat|_=>False)/\(match hi with|none=>h=len|some (.int _ n)=>0<=n/\h=n.toNat|_=>False)/\l<=h/\h<=cap)/\K' l h:=by
 unfold Md at h;split at h
 .cases h;obtain ⟨h1,h2⟩:=hp;exact ⟨_,_,λhg=>⟨rfl,rfl,by omega,iJ h1 hg⟩,h2⟩
 .cases h;obtain ⟨h1,h2⟩:=hp;exact ⟨_,_,λhg=>by have:=iJ h1 hg;exact ⟨⟨this.1,rfl⟩,rfl,by omega,this.2.2⟩,h2⟩
 .cases h;obtain ⟨h1,h2⟩:=hp;exact ⟨_,_,λhg=>by have:=iJ h1 hg;exact ⟨rfl,⟨this.1,rfl⟩,by omega,by omega⟩,h2⟩
 .cases h;obtain ⟨h1,h2⟩:=hp;exact ⟨_,_,λhg=>by have:=iJ h1 hg;exact ⟨⟨this.1,rfl⟩,⟨by omega,rfl⟩,by omega,by omega⟩,h2⟩
 .cases h
theorem aZp{P:Program}{g:Option Bool}{t:TypeId}{x:Value}{lo hi:Option Value}{K:Value->Prop}{p:Prop}(h:a0C P g t x lo hi K=some p)(hp:p):
  ∃ v,(e9 g->∀ w,(Instr.sliceAt t x lo hi none).run P w=.ok v w)/\K v:=by
 unfold a0C at h;split at h
 .rename_i s ht;obtain ⟨l,hh,hb,hk⟩:=a0F h hp;refine ⟨_,λhg w=>?_,hk⟩;obtain ⟨h1,h2,h3,h4⟩:=hb hg;simp [Instr.sliceAt,run_underlying ht,Result.andThen,Instr.slice,Z4 h1 h2 h3 h4]
 .rename_i q len cap e ht;split at h
  .rename_i fc hi;obtain ⟨l,hh,hb,hk⟩:=a0F h hp;refine ⟨_,λhg w=>?_,hk⟩;obtain ⟨h1,h2,h3,h4⟩:=hb hg;simp [Instr.sliceAt,run_underlying ht,Result.andThen,Instr.slice,Z4 h1 h2 h3 h4,run_sizeOf hi,aV]
  .cases h
 .rename_i b o n e ht;split at h
  .rename_i fc hi;obtain ⟨l,hh,hb,hk⟩:=a0F h hp;refine ⟨_,λhg w=>?_,hk⟩;obtain ⟨h1,h2,h3,h4⟩:=hb hg;simp [Instr.sliceAt,run_underlying ht,Result.andThen,Instr.sureAddr,Z4 h1 h2 h3 h4,run_sizeOf hi,aV];split<;>rfl
  .cases h
 .cases h
def a0D(P:Program)(g:Option Bool)(t:TypeId)(x hi mx:Value)(K:Value->Prop):Option Prop :=
 match x,P.underlying t,hi,mx with
 | .slice p len cap,some (.slice e),.int _ h,.int _ m =>
  match P.info? e with
  | some fc=>some (fL g (0<=h/\h<=m/\m<=cap)/\K (.slice (aV p fc.size 0 m.toNat) h.toNat m.toNat))
  | none=>none
 | _,_,_,_=>none
theorem aZn{P:Program}{g:Option Bool}{t:TypeId}{x hi mx:Value}{K:Value->Prop}{p:Prop}(h:a0D P g t x hi mx K=some p)(hp:p):
  ∃ v,(e9 g->∀ w,(Instr.sliceAt t x none (some hi) (some mx)).run P w=.ok v w)/\K v:=by
 unfold a0D at h;split at h
 .rename_i q len cap e kh h kn m ht;split at h
  .rename_i fc hi;cases h;obtain ⟨h1,hk⟩:=hp;refine ⟨_,λhg w=>?_,hk⟩;obtain ⟨a1,a2,a3⟩:=iJ h1 hg;have hb:∀ (k:IntKind) (n:Int) (y:Nat) (code:BoundsCode),0<=n->n.toNat<=y->(Instr.sliceBound (.int k n) y code).run P w=.ok n.toNat w:=by
    intro k n y code h0 h1;unfold Instr.sliceBound;simp only [asIntOf,Sem.run_bind,Sem.run_pure,Result.andThen];rw [if_pos ⟨h0,by omega⟩];rfl
   have hm:=hb kn m cap .slice3Acap (by omega) (by omega);have hh:=hb kh h m.toNat .slice3B a1 (by omega);have hs:(Instr.sliceBounds true len cap none (some (.int kh h)) (some (.int kn m))).run P w=.ok (0,h.toNat,m.toNat) w:=by
    unfold Instr.sliceBounds;simp [Result.andThen,hm,hh]
   simp [Instr.sliceAt,run_underlying ht,Result.andThen,Instr.slice,hs,run_sizeOf hi,aV]
  .cases h
 .cases h
def a0E(P:Program)(g:Option Bool)(t:TypeId)(x lo hi mx:Value)(K:Value->Prop):Option Prop :=
 match x,P.underlying t,lo,hi,mx with
 | .slice p len cap,some (.slice e),.int _ l,.int _ h,.int _ m =>
  match P.info? e with
  | some fc=>some (fL g (0<=l/\l<=h/\h<=m/\m<=cap)/\K (.slice (aV p fc.size l.toNat m.toNat) (h.toNat - l.toNat) (m.toNat - l.toNat)))
  | none=>none
 | _,_,_,_,_=>none
theorem aZo{P:Program}{g:Option Bool}{t:TypeId}{x lo hi mx:Value}{K:Value->Prop}{p:Prop}(h:a0E P g t x lo hi mx K=some p)(hp:p):
  ∃ v,(e9 g->∀ w,(Instr.sliceAt t x (some lo) (some hi) (some mx)).run P w=.ok v w)/\K v:=by
 unfold a0E at h;split at h
 .rename_i q len cap e kl l kh h kn m ht;split at h
  .rename_i fc hi;cases h;obtain ⟨h1,hk⟩:=hp;refine ⟨_,λhg w=>?_,hk⟩;obtain ⟨a0,a1,a2,a3⟩:=iJ h1 hg;have hb:∀ (k:IntKind) (n:Int) (y:Nat) (code:BoundsCode),0<=n->n.toNat<=y->(Instr.sliceBound (.int k n) y code).run P w=.ok n.toNat w:=by
    intro k n y code h0 h1;unfold Instr.sliceBound;simp only [asIntOf,Sem.run_bind,Sem.run_pure,Result.andThen];rw [if_pos ⟨h0,by omega⟩];rfl
   have hm:=hb kn m cap .slice3Acap (by omega) (by omega);have hh:=hb kh h m.toNat .slice3B (by omega) (by omega);have hl:=hb kl l h.toNat .slice3C (by omega) (by omega);have hs:(Instr.sliceBounds true len cap (some (.int kl l)) (some (.int kh h)) (some (.int kn m))).run P w=.ok (l.toNat,h.toNat,m.toNat) w:=by
    unfold Instr.sliceBounds;simp [Result.andThen,hm,hh,hl]
   simp [Instr.sliceAt,run_underlying ht,Result.andThen,Instr.slice,hs,run_sizeOf hi,aV]
  .cases h
 .cases h
def uU(P:Program)(t:TypeId)(K:Value->Prop):Prop :=
 match P.underlying t with
 | some (.tuple ts)=>Ma P ts.toList λvs=>K (.tuple vs.toArray)
 | _=>Ga P t K
theorem xm{P:Program}{t:TypeId}{K:Value->Prop}(h:uU P t K):∃ v,K v:=by
 unfold uU at h;split at h
 .obtain ⟨vs,h⟩:=Rd h;exact ⟨_,h⟩
 .exact Rc h
def w9:Value:=.tuple #[.nilFunc]
def cg:Value->Bool
 | .tuple vs=>(match vs.toList with | [.nilFunc]=>true|_=>false)
 | _=>false
def Jk(k:IntKind):Int->List Value->Option Int
 | x,[]=>some x
 | x,.int k' y :: r=>if k=k' then Jk k (max x y) r else none
 | _,_=>none
def Jl(k:IntKind):Int->List Value->Option Int
 | x,[]=>some x
 | x,.int k' y :: r=>if k=k' then Jl k (min x y) r else none
 | _,_=>none
def Rx(P:Program)(b:Builtin)(ts:Array TypeId)(args:List Value)(K:Value->Prop):Option Prop :=
 match b,args with
 | .len,[.slice _ n _]=>match ts[0]? with
  | some t=>match P.underlying t with|some (.slice _)=>some (K (.int .i64 n))|_=>none
  | none=>none
 | .len,[.string s]=>match ts[0]? with
  | some t=>match P.underlying t with|some .string=>some (K (.int .i64 s.size))|_=>none
  | none=>none
 | .cap,[.slice _ _ n]=>match ts[0]? with
  | some t=>match P.underlying t with|some (.slice _)=>some (K (.int .i64 n))|_=>none
  | none=>none
 | .len,[_]=>match ts[0]? with
  | some t=>match P.underlying t with|some (.array n _)=>some (K (.int .i64 n))|_=>none
  | none=>none
 | .max,.int k x :: r=>match Jk k x r with|some n=>some (K (.int k n))|none=>none
 | .min,.int k x :: r=>match Jl k x r with|some n=>some (K (.int k n))|none=>none
 | _,_=>none
theorem a7F{P:Program}{k:IntKind}{w:World}:∀ {l:List Value} {x n:Int},Jk k x l=some n->((l.foldlM Builtin.max2 (.int k x):Sem Value)).run P w=.ok (.int k n) w
 | [],x,n,h=>by simp [Jk] at h;subst h;simp
 | v :: r,x,n,h=>by
  cases v<;>simp [Jk] at h;obtain ⟨rfl,h⟩:=h;rename_i y;have ih:=a7F (P:=P) (w:=w) h;simp only [List.foldlM_cons,Builtin.max2,Sem.run_bind,Sem.run_pure,Result.andThen];have e:(if y > x then y else x)=max x y:=by
   rw [Int.max_def];split<;>split<;>omega
  rw [e];exact ih
theorem a7G{P:Program}{k:IntKind}{w:World}:∀ {l:List Value} {x n:Int},Jl k x l=some n->((l.foldlM Builtin.min2 (.int k x):Sem Value)).run P w=.ok (.int k n) w
 | [],x,n,h=>by simp [Jl] at h;subst h;simp
 | v :: r,x,n,h=>by
  cases v<;>simp [Jl] at h;obtain ⟨rfl,h⟩:=h;rename_i y;have ih:=a7G (P:=P) (w:=w) h;simp only [List.foldlM_cons,Builtin.min2,Sem.run_bind,Sem.run_pure,Result.andThen];have e:(if y<x then y else x)=min x y:=by
   rw [Int.min_def];split<;>split<;>omega
  rw [e];exact ih
theorem aZf{P:Program}{b:Builtin}{ts:Array TypeId}{t:TypeId}{cs:Array Bool}{args:Array Value}{K:Value->Prop}{p:Prop}(h:Rx P b ts args.toList K=some p)(hp:p):
  ∃ v,(∀ w,(builtin b ts t cs args).run P w=.ok (.value v) w)/\K v:=by
 obtain ⟨args⟩:=args;simp only at h;unfold Rx at h;split at h
 case h_7=>cases h
 case h_5 =>
  split at h
  .rename_i hf;cases h;exact ⟨_,λw=>by simp [builtin,Builtin.max_,a7F hf,Result.andThen],hp⟩
  .cases h
 case h_6 =>
  split at h
  .rename_i hf;cases h;exact ⟨_,λw=>by simp [builtin,Builtin.min_,a7G hf,Result.andThen],hp⟩
  .cases h
 all_goals
  split at h
  .rename_i ht;split at h
   .rename_i hu;cases h;refine ⟨_,λw=>?_,hp⟩;first
     | (simp [builtin,Builtin.len_,ht,run_underlying hu,Result.andThen,goInt];done)
     | (simp [builtin,Builtin.cap_,ht,run_underlying hu,Result.andThen,goInt];done)
   .cases h
  .cases h
def a0B(P:Program)(op:BinOp)(t:TypeId)(x y:Value)(K:Value->Prop):Option Prop :=
 match op,P.underlying t,x,y with
 | .eql,some (.pointer _),.pointer p,.pointer none=>some (K (.bool p.isNone))
 | .neq,some (.pointer _),.pointer p,.pointer none=>some (K (.bool (!p.isNone)))
 | .eql,some (.slice _),.slice p _ _,.slice none _ _=>some (K (.bool p.isNone))
 | .neq,some (.slice _),.slice p _ _,.slice none _ _=>some (K (.bool (!p.isNone)))
 | .eql,some .bool,.bool a,.bool b=>some (K (.bool (a == b)))
 | .neq,some .bool,.bool a,.bool b=>some (K (.bool (a != b)))
 | _,_,_,_=>none
theorem aZl{P:Program}{op:BinOp}{t:TypeId}{ox oy:Operand}{x y:Value}{K:Value->Prop}{p:Prop}(h:a0B P op t x y K=some p)(hp:p):
  ∃ v,(∀ w,(do eqGuard op t ox oy x y;binOp op t x y:Sem Value).run P w=.ok v w)/\K v:=by
 unfold a0B at h;split at h
 case h_7=>cases h
 all_goals
  cases h;refine ⟨_,λw=>?_,hp⟩;rename_i ht;simp only [eqGuard,binOp,Sem.run_bind,Sem.run_pure,Result.andThen,Op.equal,Op.maxDepth];rw [show (10000:Nat)=9999+1 from rfl];unfold Op.equalIn;simp only [Sem.run_bind,run_underlying ht,Result.andThen,Sem.run_pure]
 case h_1 q=>cases q<;>simp
 case h_2 q=>cases q<;>simp
 case h_3 q _ _ _ _=>cases q<;>simp
 case h_4 q _ _ _ _=>cases q<;>simp
 case h_5=>simp
 case h_6=>simp [bne]
def zM(P:Program)(xs ys:Array Value):List Field->Option Bool
 | []=>some true
 | f :: fs=>match f.name == "_" with
  | true=>none
  | false=>match P.underlying f.type,xs[f.offset]?,ys[f.offset]?,zM P xs ys fs with
   | some (.int _),some (.int k a),some (.int k' b),some r=>if k=k' then some (decide (a=b)&&r) else none
   | some .bool,some (.bool a),some (.bool b),some r=>some ((a == b)&&r)
   | some .string,some (.string a),some (.string b),some r=>some (decide (a=b)&&r)
   | _,_,_,_=>none
theorem a6o{P:Program}{w:World}{d:Nat}{xs ys:Array Value}:∀ {fs:List Field} {r:Bool},zM P xs ys fs=some r->(Op.eqFields (d+1) xs ys fs).run P w=.ok r w
 | [],r,h=>by simp [zM] at h;subst h;simp [Op.eqFields]
 | f :: fs,r,h=>by
  unfold zM at h;split at h
  .cases h
  .rename_i hname;have hname:f.name ≠ "_" := by simpa using hname
   unfold Op.eqFields;rw [if_pos hname];have go:∀ {t:TypeDesc} {a b:Value} {c r':Bool},P.underlying f.type=some t->tK t=false->xs[f.offset]? = some a->ys[f.offset]? = some b->(Op.equalIn (d+1) f.type a b).run P w=.ok c w->zM P xs ys fs=some r' ->
     (do let a <-part f.type xs f.offset;let b <-part f.type ys f.offset;let r <-Op.equalIn (d+1) f.type a b;if (!r)=true then pure false else Op.eqFields (d+1) xs ys fs:Sem Bool).run P w=.ok (c&&r') w:=by
    intro t a b c r' ht ha hx hy he hr;have ih:=a6o (w:=w) (d:=d) hr;simp only [Sem.run_bind,RQ ht ha hx,RQ ht ha hy,Result.andThen,he];cases c<;>simp [ih]
   split at h
   .rename_i ht hx hy hr;split at h
    .rename_i hk;subst hk;cases h;exact go ht rfl hx hy (by rw [run_equalIn_int w d f.type _ _ _ _ ht];congr 1) hr
    .cases h
   .rename_i ht hx hy hr;cases h;exact go ht rfl hx hy (run_equalIn_bool' w d f.type _ _ ht) hr
   .rename_i ht hx hy hr;cases h;exact go ht rfl hx hy (by rw [run_equalIn_string w d f.type _ _ ht,Ua]) hr
   .cases h
def A7(P:Program)(t:TypeId):Bool := !P.stoodInHeld t && !P.eqGuardType P.depth t
def a05(P:Program)(op:BinOp)(t:TypeId)(x y:Value)(K:Value->Prop):Option Prop :=
 match op,x,y with
 | .eql,.agg xs,.agg ys=>match P.underlying t with
  | some (.struct fs)=>match zM P xs ys fs.toList with
   | some r=>some (A7 P t=true/\K (.bool r))
   | none=>none
  | _=>none
 | .neq,.agg xs,.agg ys=>match P.underlying t with
  | some (.struct fs)=>match zM P xs ys fs.toList with
   | some r=>some (A7 P t=true/\K (.bool (!r)))
   | none=>none
  | _=>none
 | _,_,_=>none
theorem aZe{P:Program}{op:BinOp}{t:TypeId}{ox oy:Operand}{x y:Value}{K:Value->Prop}{p:Prop}(h:a05 P op t x y K=some p)(hp:p):
  ∃ v,(∀ w,(do eqGuard op t ox oy x y;binOp op t x y:Sem Value).run P w=.ok v w)/\K v:=by
 have key:∀ {xs ys:Array Value} {fs:Array Field} {r:Bool} (w:World),P.underlying t=some (.struct fs)->P.stoodInHeld t=false->zM P xs ys fs.toList=some r->(Op.equalIn 10000 t (.agg xs) (.agg ys)).run P w=.ok r w:=by
  intro xs ys fs r w ht hs hr;have hf:P.fieldsOf t=fs:=by simp [Program.fieldsOf,ht]
  rw [show (10000:Nat)=9999+1 from rfl,run_equalIn_struct w 9999 t xs ys (by rw [hf];exact ht) hs,hf];exact a6o hr
 have ok:A7 P t=true->P.stoodInHeld t=false/\P.eqGuardType P.depth t=false:=λh=>by simpa [A7] using h
 unfold a05 at h;split at h
 .split at h
  .rename_i fs ht;split at h
   .rename_i r hr;cases h;obtain ⟨h0,hp⟩:=hp;obtain ⟨hs,hg⟩:=ok h0;refine ⟨_,λw=>?_,hp⟩;rw [Sem.run_bind,run_eqGuard_agg w .eql t ox oy _ _ hg];simp only [Result.andThen];rw [run_eql_struct,key w ht hs hr];rfl
   .cases h
  .cases h
 .split at h
  .rename_i fs ht;split at h
   .rename_i r hr;cases h;obtain ⟨h0,hp⟩:=hp;obtain ⟨hs,hg⟩:=ok h0;refine ⟨_,λw=>?_,hp⟩;rw [Sem.run_bind,run_eqGuard_agg w .neq t ox oy _ _ hg];simp only [Result.andThen];rw [run_neq_struct,key w ht hs hr];rfl
   .cases h
  .cases h
 .cases h
theorem mapA{α β:Type}(f:α->β)(a:Array α):(a.toList.map f).toArray=a.map f:=by apply Array.ext';simp
def zeroOf(P:Program)(t:TypeId):Option Value:=(P.info? t).bind (·.zero)
theorem GO{P:Program}{t:TypeId}{z:Value}{w:World}(h:zeroOf P t=some z):(zeroValue t).run P w=.ok z w:=by
 unfold zeroOf at h;cases hi:P.info? t with
 | none=>simp [hi] at h
 | some i =>
  simp [hi] at h;simp [zeroValue,typeInfo,hi,h]
theorem range_zero:Array.range 0=#[]:=Array.ext (by simp) (by simp)
def PZ{α:Type _}:List Value->(List Value->α)->α
 | [],K=>K []
 | x :: r,K=>PZ r λr'=>K (x :: r')
theorem a7I{α:Type _}:∀ (l:List Value) (K:List Value->α),PZ l K=K l
 | [],_=>rfl
 | x :: r,K=>by unfold PZ;rw [a7I r]
def tf(place:Nat->Option (Nat × Nat))(cells:List Value):List (Nat × Value)->Option (List Value)
 | []=>some cells
 | (i,v) :: rest =>
  match place i with
  | none=>none
  | some (off,size) =>
   match Nat.beq v.cells.toList.length size&&Nat.ble (off+v.cells.toList.length) cells.length with
   | true=>PZ (cells.take off++v.cells.toList++cells.drop (off+size)) λcells=>tf place cells rest
   | false=>none
theorem a7H(off:Nat):∀ (vs:List Value) (k:Nat) (cs:Array Value),off+k+vs.length<=cs.size ->
  (vs.zipIdx k).foldl (λcs (p:Value × Nat)=>cs.setIfInBounds (off+p.2) p.1) cs=(cs.toList.take (off+k)++vs++cs.toList.drop (off+k+vs.length)).toArray
 | [],k,cs,_=>by apply Array.ext';simp
 | v :: vs,k,cs,h=>by
  simp only [List.length_cons] at h;rw [List.zipIdx_cons,List.foldl_cons,a7H off vs (k+1) _ (by simp;omega)];apply Array.ext';have hlt:off+k<cs.toList.length:=by simp;omega
  have e1:(cs.toList.set (off+k) v).take (off+(k+1))=cs.toList.take (off+k)++[v]:=by
   rw [show off+(k+1)=off+k+1 by omega,List.take_succ_eq_append_getElem (by simpa using hlt)];simp [List.take_set_of_le]
  have e2:(cs.toList.set (off+k) v).drop (off+(k+1)+vs.length)=cs.toList.drop (off+k+(vs.length+1)):=by
   rw [List.drop_set_of_lt (by omega)]
   congr 1
   omega
  simp only [Array.toList_setIfInBounds,e1,e2,List.length_cons];simp
theorem PW{place:Nat->Option (Nat × Nat)}:∀ {parts:List (Nat × Value)} {cells cs:List Value},tf place cells parts=some cs->Instr.fill place cells.toArray parts=some cs.toArray
 | [],_,_,h=>by simp [tf] at h;simp [Instr.fill,h]
 | (i,v) :: rest,cells,cs,h=>by
  unfold tf at h;unfold Instr.fill;split at h
  .cases h
  .rename_i off size hp;split at h
   .rename_i hc;rw [a7I] at h;simp only [Bool.and_eq_true] at hc;have h1:v.cells.toList.length=size:=Nat.eq_of_beq_eq_true hc.1;have h2:off+v.cells.toList.length<=cells.length:=Nat.le_of_ble_eq_true hc.2;have ih:=PW h;have Jo:v.cells.size=size:=by simpa using h1
    have Bo:off+v.cells.size<=cells.length:=by simpa using h2
    rw [hp];simp only;rw [if_neg (by simp;omega)];have e:v.cells.zipIdx.foldl (λcs (x:Value × Nat)=>match x with|(c,j)=>cs.setIfInBounds (off+j) c) cells.toArray=(cells.take off++v.cells.toList++cells.drop (off+size)).toArray:=by
     have:=a7H off v.cells.toList 0 cells.toArray (by simpa using Bo);rw [<-Array.foldl_toList,Array.toList_zipIdx];simp only [Nat.add_zero,h1] at this;exact this
    rw [e];exact ih
   .cases h
def qM(n:Nat)(z:List Value):List Value:=(List.replicate n z).flatten
theorem aKu(n:Nat)(z:Array Value):(Array.range (n*z.size)).map (z[· % z.size]!)=(qM n z.toList).toArray:=by
 apply Array.ext';apply List.ext_getElem?;intro i;by_cases h0:z.size=0
 .have:z.toList=[]:=by cases z;simp_all
  simp [qM,this,h0]
 have key:∀ (n i:Nat),(qM n z.toList)[i]? = if i<n*z.size then z.toList[i % z.size]? else none:=by
  intro n
  induction n with
  | zero=>intro i;simp [qM]
  | succ n ih =>
   intro i;have e:qM (n+1) z.toList=z.toList++qM n z.toList:=by simp [qM,List.replicate_succ]
   rw [e,List.getElem?_append,ih];simp only [Array.length_toList];by_cases h1:i<z.size
   .rw [if_pos h1,if_pos (by rw [Nat.succ_mul];omega),Nat.mod_eq_of_lt h1]
   .rw [if_neg h1];have e2:(i - z.size) % z.size=i % z.size:=(Nat.mod_eq_sub_mod (Nat.le_of_not_lt h1)).symm;rw [e2];by_cases h2:i - z.size<n*z.size
    .rw [if_pos h2,if_pos (by rw [Nat.succ_mul];omega)]
    .rw [if_neg h2,if_neg (by rw [Nat.succ_mul];omega)]
 rw [key];simp only [Array.toList_map,Array.toList_range,List.getElem?_map,List.getElem?_range];by_cases h:i<n*z.size
 .have hm:i % z.size<z.size:=Nat.mod_lt _ (by omega);simp [h,hm]
 .simp [h]
def Gg(P:Program)(t:TypeId)(parts:List (Nat × Value))(K:Value->Prop):Prop :=
 match P.underlying t,zeroOf P t with
 | some (.struct fs),some z =>
  match tf (λi=>match fs[i]? with|some f=>(match P.info? f.type with|some x=>some (f.offset,x.size)|none=>none)|none=>none) z.cells.toList parts,fs.toList.all (λf=>(P.info? f.type).isSome) with
  | some cs,true=>K (.agg cs.toArray)
  | _,_=>False
 | some (.array _ e),some z =>
  match P.info? e with
  | some x=>match tf (λi=>some (i*x.size,x.size)) z.cells.toList parts with
   | some cs=>K (.agg cs.toArray)
   | none=>False
  | none=>False
 | _,_=>False
theorem run_places{P:Program}{w:World}:∀ (l:List Field),l.all (λf=>(P.info? f.type).isSome)=true ->
  (l.mapM λf=>(do pure (f.offset,<-sizeOf f.type):Sem (Nat × Nat))).run P w=.ok (l.map λf=>(f.offset,Rf P f.type)) w
 | [],_=>by simp
 | f :: r,h=>by
  simp only [List.all_cons,Bool.and_eq_true] at h;obtain ⟨x,hx⟩:=Option.isSome_iff_exists.1 h.1;have ih:=run_places (P:=P) (w:=w) r h.2;rw [List.mapM_cons];simp only [Sem.run_bind,run_sizeOf hx,Result.andThen,Sem.run_pure,ih,List.map_cons];simp [Rf,hx]
theorem aUy{p q:Nat->Option (Nat × Nat)}(h:∀ i,p i=q i)(c:List Value)(l:List (Nat × Value)):tf p c l=tf q c l:=by
 have:p=q:=funext h;rw [this]
theorem aJ2{P:Program}{t:TypeId}{parts:Array (Nat × Value)}{K:Value->Prop}(h:Gg P t parts.toList K):
  ∃ v,(∀ w,(Instr.build t parts).run P w=.ok v w)/\K v:=by
 unfold Gg at h;split at h
 .rename_i fs z ht hz;split at h
  .rename_i cs hf hall;refine ⟨_,λw=>?_,h⟩;have hpl:=run_places (P:=P) (w:=w) fs.toList hall;have aVr:tf (λi=>(fs.toList.map λf=>(f.offset,Rf P f.type)).toArray[i]?) z.cells.toList parts.toList=some cs:=by
    rw [<-hf];apply aUy;intro i;simp only [List.getElem?_toArray,List.getElem?_map,Array.getElem?_toList];cases hi:fs[i]? with
    | none=>rfl
    | some f =>
     have hm:f∈fs.toList:=by simpa using Array.mem_of_getElem? hi
     obtain ⟨x,hx⟩:=Option.isSome_iff_exists.1 (List.all_eq_true.1 hall f hm);simp [Rf,hx]
   have:=PW aVr;unfold Instr.build;rw [Sem.run_bind,GO hz];simp only [Result.andThen];rw [Sem.run_bind,run_underlying ht];simp only [Result.andThen];rw [Sem.run_bind,Array.mapM_eq_mapM_toList,map_eq_pure_bind,Sem.run_bind,hpl];simp only [Result.andThen,Sem.run_pure];rw [show z.cells=z.cells.toList.toArray by simp,this];rfl
  .exact h.elim
 .rename_i len e z ht hz;split at h
  .rename_i x hx;split at h
   .rename_i cs hf;refine ⟨_,λw=>?_,h⟩;have:=PW hf;unfold Instr.build;rw [Sem.run_bind,GO hz];simp only [Result.andThen];rw [Sem.run_bind,run_underlying ht];simp only [Result.andThen];rw [Sem.run_bind,run_sizeOf hx];simp only [Result.andThen];rw [show z.cells=z.cells.toList.toArray by simp,this];rfl
   .exact h.elim
  .exact h.elim
 .exact h.elim
theorem aJ3{P:Program}{t:TypeId}{parts:Array (Nat × Value)}{w:World}{K:Value->Prop}(h:Gg P t parts.toList K):
  ∃ v,(Instr.build t parts).run P w=.ok v w/\K v :=
 let ⟨v,h1,h2⟩:=aJ2 h
 ⟨v,h1 w,h2⟩
def jc(P:Program)(wr:Bool)(o:Oper)(τ:Operand->Value)(w:World)(g:Option Bool)(K:Value->Prop):Option Prop :=
 match o.op with
 | .move x=>some (K (τ x))
 | .assign x=>some (K (τ x))
 | .load t x=>match τ x with
  | .pointer (some ⟨b,off,none⟩)=>some (Dg P t w g b off K)
  | _=>none
 | .nilCheck x=>match τ x with
  | .pointer p=>some (gA g p λb off=>K (.pointer (some ⟨b,off,none⟩)))
  | .func (.func f) a b=>some (K (.func (.func f) a b))
  | _=>none
 | .binOp op t x y _ =>
  match Zu wr g op (τ x) (τ y) K with
  | some p=>some p
  | none=>match a0B P op t (τ x) (τ y) K with
   | some p=>some p
   | none=>match a05 P op t (τ x) (τ y) K with
   | some p=>some p
   | none=>match op with
    | .eql | .neq=>some (∃ b:Bool,fL g (∀ w',(do eqGuard op t x y (τ x) (τ y);binOp op t (τ x) (τ y):Sem Value).run P w'=.ok (.bool b) w')/\K (.bool b))
    | _=>some (uU P o.type λv=>fL g (∀ w',(binOp op t (τ x) (τ y)).run P w'=.ok v w')/\K v)
 | .unOp op _ x=>match op,τ x with
  | .not,.bool b=>some (K (.bool (!b)))
  | .neg,.int k n=>some (BJ wr g k (0 - n) K)
  | _,_=>none
 | .convert src dst x=>match P.underlying src,P.underlying dst,τ x with
  | some _,some (.int k),.int k' n=>if k=k' then some (fL g (k.wrap n=n)/\K (.int k n)) else some (K (.int k (k.wrap n)))
  | some .string,some .string,.string s=>some (K (.string s))
  | _,_,_=>none
 | .fieldAddr t x f=>a08 P t (τ x) f K
 | .field t x f=>a07 P t (τ x) f K
 | .indexAddr t x i=>a0A P g t (τ x) (τ i) K
 | .index t x i=>a09 P g t (τ x) (τ i) K
 | .slice t x lo hi none=>a0C P g t (τ x) (lo.map τ) (hi.map τ) K
 | .extract x i=>match τ x with
  | .tuple vs=>match vs[i]? with
   | some v=>some (K v)
   | none=>none
  | _=>none
 | .makeInterface t x=>match P.underlying t with
  | some (.interface _)=>none
  | some _=>some (K (.iface t (τ x)))
  | none=>none
 | .makeFunc fn a b=>some (K (.func fn (a.toList.map τ).toArray (b.toList.map τ).toArray))
 | .lookup t m k ok=>some (uU P o.type λv=>fL g (∀ w',w'.heap=w.heap->(Instr.lookup t (τ m) (τ k) ok).run P w'=.ok v w')/\K v)
 | .call c=>match c.callee with
  | .builtin b=>match Rx P b c.argTypes (c.args.toList.map τ) K with
   | some p=>some p
   | none=>match b with
    | .len=>some (∃ n:Int,fL g (∀ w',w'.heap=w.heap->(Builtin.len_ c.argTypes o.type (c.args.toList.map τ).toArray).run P w'=.ok (.int .i64 n) w')/\K (.int .i64 n))
    | _=>none
  | _=>none
 | .build t parts=>some (Gg P t (parts.toList.map λp=>(p.1,τ p.2)) K)
 | .slice t x none (some hi) (some mx)=>a0D P g t (τ x) (τ hi) (τ mx) K
 | .slice t x (some lo) (some hi) (some mx)=>a0E P g t (τ x) (τ lo) (τ hi) (τ mx) K
 | _=>none
def ir(P:Program)(o:Oper)(τ:Operand->Value)(K:Value->Prop):Bool :=
 match o.op with
 | .load .. => true
 | .lookup .. => true
 | .call c=>match c.callee with
  | .builtin b=>match Rx P b c.argTypes (c.args.toList.map τ) K with
   | some _=>false
   | none=>true
  | _=>true
 | _=>false
theorem Yw{P:Program}{wr:Bool}{o:Oper}{τ:Operand->Value}{w:World}{g:Option Bool}{K:Value->Prop}{p:Prop}(h:jc P wr o τ w g K=some p)(hp:p):
  ∃ v,(e9 g->∀ w',(ir P o τ K=true->w'.heap=w.heap)->(execOp τ o).run P w'=.ok (.value v) w')/\K v:=by
 unfold jc at h;split at h
 case h_1 x hop=>cases h;exact ⟨_,λ_ w' _=>by simp [execOp,hop],hp⟩
 case h_2 x hop=>cases h;exact ⟨_,λ_ w' _=>by simp [execOp,hop],hp⟩
 case h_3 t x hop =>
  split at h
  .rename_i b off hx;cases h;obtain ⟨v,h1,h2⟩:=Rz hp;exact ⟨v,λhg w' hw=>by simp [execOp,hop,hx,Instr.loadAt,Instr.sureAddr,h1 hg w' (hw (by simp [ir,hop])),Result.andThen],h2⟩
  .cases h
 case h_4 x hop =>
  split at h
  .rename_i q hx;cases h;obtain ⟨b,off,h1,h2⟩:=aH1 hp;exact ⟨_,λhg w' hw=>by have:=iJ h1 hg;subst this;simp [execOp,hop,hx],h2⟩
  .rename_i f a b hx;cases h;exact ⟨_,λhg w' hw=>by simp [execOp,hop,hx],hp⟩
  .cases h
 case h_5 op t x y ty hop =>
  split at h
  .rename_i q hq;cases h;obtain ⟨v,h1,h2⟩:=aZW (P:=P) (t:=t) (ox:=x) (oy:=y) hq hp;refine ⟨v,λhg w' _=>?_,h2⟩;have:=h1 hg w';simp only [execOp,hop];rw [Sem.run_bind,this];rfl
  .split at h
   .rename_i q hq;cases h;obtain ⟨v,h1,h2⟩:=aZl (P:=P) (ox:=x) (oy:=y) hq hp;refine ⟨v,λhg w' _=>?_,h2⟩;simp only [execOp,hop];rw [Sem.run_bind,h1 w'];rfl
   .split at h
    .rename_i q hq;cases h;obtain ⟨v,h1,h2⟩:=aZe (P:=P) (ox:=x) (oy:=y) hq hp;refine ⟨v,λhg w' _=>?_,h2⟩;simp only [execOp,hop];rw [Sem.run_bind,h1 w'];rfl
    split at h
    .cases h;obtain ⟨b,h1,h2⟩:=hp;refine ⟨_,λhg w' _=>?_,h2⟩;simp only [execOp,hop];rw [Sem.run_bind,iJ h1 hg w'];rfl
    .cases h;obtain ⟨b,h1,h2⟩:=hp;refine ⟨_,λhg w' _=>?_,h2⟩;simp only [execOp,hop];rw [Sem.run_bind,iJ h1 hg w'];rfl
    .rename_i aW3 aW4;cases h;obtain ⟨v,h1,h2⟩:=xm hp;refine ⟨v,λhg w' _=>?_,h2⟩;have h3:=iJ h1 hg w';have h4:(eqGuard op t x y (τ x) (τ y)).run P w'=.ok () w':=by
      cases op<;>first|exact absurd rfl aW3|exact absurd rfl aW4|simp [eqGuard]
     simp only [execOp,hop];rw [Sem.run_bind,Sem.run_bind,h4];simp only [Result.andThen,h3];rfl
 case h_6 op t x hop =>
  split at h
  .rename_i b hx;cases h;exact ⟨_,λ_ w' _=>by simp [execOp,hop,hx,Op.unary,Result.andThen],hp⟩
  .rename_i k n hx;cases h;obtain ⟨v,h1,h2⟩:=IW hp;exact ⟨v,λhg w' _=>by rw [h1 hg];simp [execOp,hop,hx,Op.unary,Op.intArith,Result.andThen],h2⟩
  .cases h
 case h_7 src dst x hop =>
  split at h
  .rename_i d k k' n hs hd hx;split at h
   .rename_i hk;subst hk;cases h;obtain ⟨h1,h2⟩:=hp;refine ⟨_,λhg w' _=>?_,h2⟩;have h3:=iJ h1 hg;simp [execOp,hop,hx,convert,run_underlying hs,run_underlying hd,Conv.intToInt,Result.andThen,h3]
   .cases h;exact ⟨_,λhg w' _=>by simp [execOp,hop,hx,convert,run_underlying hs,run_underlying hd,Conv.intToInt,Result.andThen],hp⟩
  .rename_i s hs hd hx;cases h;exact ⟨_,λhg w' _=>by simp [execOp,hop,hx,convert,run_underlying hs,run_underlying hd,Result.andThen],hp⟩
  .cases h
 case h_8 t x f hop =>
  obtain ⟨v,h1,h2⟩:=aZh h hp;exact ⟨v,λ_ w' _=>by simp [execOp,hop,h1 w',Result.andThen],h2⟩
 case h_9 t x f hop =>
  obtain ⟨v,h1,h2⟩:=aZi h hp;exact ⟨v,λ_ w' _=>by simp [execOp,hop,h1 w',Result.andThen],h2⟩
 case h_10 t x i hop =>
  obtain ⟨v,h1,h2⟩:=aZj h hp;exact ⟨v,λhg w' _=>by simp [execOp,hop,h1 hg w',Result.andThen],h2⟩
 case h_11 t x i hop =>
  obtain ⟨v,h1,h2⟩:=aZk h hp;exact ⟨v,λhg w' _=>by simp [execOp,hop,h1 hg w',Result.andThen],h2⟩
 case h_12 t x lo hi hop =>
  obtain ⟨v,h1,h2⟩:=aZp h hp;exact ⟨v,λhg w' _=>by simp [execOp,hop,h1 hg w',Result.andThen],h2⟩
 case h_13 x i hop =>
  split at h
  .rename_i vs hx;split at h
   .rename_i v hv;cases h;exact ⟨_,λ_ w' _=>by simp [execOp,hop,hx,Instr.extract,hv,Result.andThen],hp⟩
   .cases h
  .cases h
 case h_14 t x hop =>
  split at h
  .cases h
  .rename_i d hn ht;cases h;refine ⟨_,λ_ w' _=>?_,hp⟩;simp only [execOp,hop,Sem.run_bind,Instr.makeInterface,run_underlying ht,Result.andThen];cases d<;>first|rfl|exact absurd rfl (hn _)
  .cases h
 case h_15 fn a b hop=>cases h;exact ⟨_,λ_ w' _=>by simp [execOp,hop,Instr.makeFunc,Result.andThen,<-mapA],hp⟩
 case h_16 t m k ok hop =>
  cases h;obtain ⟨v,h1,h2⟩:=xm hp;exact ⟨v,λhg w' hw=>by simp [execOp,hop,iJ h1 hg w' (hw (by simp [ir,hop])),Result.andThen],h2⟩
 case h_17 c hop =>
  split at h
  .rename_i b hc;rw [show c.args.toList.map τ=(c.args.map τ).toList by simp] at h;have hmap:c.args.toList.map τ=(c.args.map τ).toList:=by simp
   split at h
   .rename_i p' hp';cases h;obtain ⟨v,h1,h2⟩:=aZf (t:=o.type) (cs:=c.args.map fun | .const _=>true|_=>false) hp' hp;refine ⟨v,λ_ w' _=>?_,h2⟩;simp only [execOp,hop,Sem.run_bind,resolve,hc,Sem.run_pure,Result.andThen,invoke];exact h1 w'
   .rename_i hnone;split at h
    .cases h;obtain ⟨n,h1,h2⟩:=hp;refine ⟨_,λhg w' hw=>?_,h2⟩;have h3:=iJ h1 hg w' (hw (by simp only [ir,hop,hc,hmap,hnone]));rw [Array.toArray_toList] at h3;simp only [execOp,hop,Sem.run_bind,resolve,hc,Sem.run_pure,Result.andThen,invoke,builtin,h3]
    .cases h
  .cases h
 case h_18 t parts hop =>
  cases h;rw [show (parts.toList.map λp=>(p.1,τ p.2))=(parts.map λ(i,x)=>(i,τ x)).toList by simp] at hp;obtain ⟨v,h1,h2⟩:=aJ2 hp;exact ⟨v,λ_ w' _=>by simp only [execOp,hop,Sem.run_bind,h1,Sem.run_pure,Result.andThen],h2⟩
 case h_19 t x hi mx hop =>
  obtain ⟨v,h1,h2⟩:=aZn h hp;exact ⟨v,λhg w' _=>by simp [execOp,hop,h1 hg w',Result.andThen],h2⟩
 case h_20 t x lo hi mx hop =>
  obtain ⟨v,h1,h2⟩:=aZo h hp;exact ⟨v,λhg w' _=>by simp [execOp,hop,h1 hg w',Result.andThen],h2⟩
 case h_21=>cases h
theorem RI{P:Program}{wr:Bool}{o:Oper}{τ:Operand->Value}{w:World}{g:Option Bool}{K:Value->Prop}{p:Prop}(h:jc P wr o τ w g K=some p)(hp:p):
  ∃ v,(e9 g->∀ w',w'.heap=w.heap->(execOp τ o).run P w'=.ok (.value v) w')/\K v :=
 let ⟨v,h1,h2⟩:=Yw h hp
 ⟨v,λhg w' hw=>h1 hg w' λ_=>hw,h2⟩
end Go.Vc
end

section
namespace Go.Vc
variable {ds:List Deferred}
open Go.RowKit
def kR(P:Program)(K:Value->World->Prop):Result Next->Prop
 | .ok (.value v) w=>K v w
 | .ok .skip w=>K undef w
 | .ok (.enter f args) w=>Calls P f args w λe w'=>∃ v,e=.returned v/\K v w'
 | _=>False
def Mr(P:Program)(t:TypeId)(n:Nat)(parts:List (Nat × Value))(w:World)(K:Value->World->Prop):Prop :=
 match P.underlying t with
 | some (.slice e) =>
  match P.info? e,zeroOf P e with
  | some i,some z =>
   match Nat.ble (n*i.size) 16777216&&Nat.beq i.size z.cells.toList.length with
   | true =>
    match tf (λj=>some (j*i.size,i.size)) (qM n z.cells.toList) parts with
    | some cells=>∀ w',w'=w.alloc (.cells cells.toArray e)->K (.slice (some ⟨w.heap.size,0,none⟩) n n) w'
    | none=>False
   | false=>False
  | _,_=>False
 | _=>False
theorem aHV{P:Program}{w:World}(cells:Array Value)(e:TypeId):(newRow e cells).run P w=.ok ⟨w.heap.size,0,none⟩ (w.alloc (.cells cells e)):=by
 simp [newRow,newObj,Sem.run,Result.andThen]
theorem aJ1{P:Program}{t:TypeId}{n:Nat}{parts:Array (Nat × Value)}{w:World}{K:Value->World->Prop}(h:Mr P t n parts.toList w K):
  ∃ v w',(Instr.buildSlice t n parts).run P w=.ok v w'/\K v w':=by
 unfold Mr at h;split at h
 .rename_i e ht;split at h
  .rename_i i z hi hz;split at h
   .rename_i hn;simp only [Bool.and_eq_true] at hn;have hsz:i.size=z.cells.size:=by have:=Nat.eq_of_beq_eq_true hn.2;simpa using this
    have hle:n*i.size<=16777216:=Nat.le_of_ble_eq_true hn.1;split at h
    .rename_i cells hf;refine ⟨_,_,?_,h _ rfl⟩;have e1:¬ (n*i.size > 2 ^ 24):=by omega
     have hmk:=PW hf;unfold Instr.buildSlice;rw [Sem.run_bind,run_underlying ht];simp only [Result.andThen];rw [Sem.run_bind,run_sizeOf hi];simp only [Result.andThen,if_neg e1];by_cases h0:n*i.size=0
     .have hz0:qM n z.cells.toList=[]:=by
       have hl:(qM n z.cells.toList).length=n*i.size:=by rw [hsz];simp [qM,List.length_flatten]
       rw [h0] at hl;exact List.eq_nil_of_length_eq_zero hl
      rw [hz0] at hmk;simp [h0,range_zero,hmk,Result.andThen,aHV]
     .have hz1:=aKu n z.cells;rw [<-hsz] at hz1;simp only [h0,if_false,Sem.run_bind,GO hz,Result.andThen,Sem.run_pure];rw [<-hsz,hz1,hmk];simp [Result.andThen,aHV]
    .exact h.elim
   .exact h.elim
  .exact h.elim
 .exact h.elim
def Ms(P:Program)(t:TypeId)(l c:Value)(w:World)(K:Value->World->Prop):Prop :=
  match P.underlying t,l,c with
  | some (.slice e),.int .i64 l,.int .i64 c =>
    match P.info? e,zeroOf P e with
    | some i,some z =>
      (0<=l/\l<=c/\i.bytes*c<=281474976710656/\c<=9223372036854775807) /\
        (if i.size=1/\dJ z=true then ∀ w',w'=w.alloc (.cells (List.replicate c.toNat z).toArray e)->K (.slice (some ⟨w.heap.size,0,none⟩) l.toNat c.toNat) w'
         else if i.size=z.cells.toList.length/\i.size≠0 then ∀ w',w'=w.alloc (.cells (qM c.toNat z.cells.toList).toArray e)->K (.slice (some ⟨w.heap.size,0,none⟩) l.toNat c.toNat) w'
         else False)
    | _,_=>False
  | _,_,_=>False
theorem aYI(z:Value)(n:Nat):(Array.range n).map ((#[z]:Array Value)[· % (#[z]:Array Value).size]!)=Array.replicate n z:=by
 apply Array.ext
 .simp
 .intro i h1 h2;simp [Nat.mod_one]
theorem run_makeSlice{P:Program}{t e:TypeId}{i:TypeInfo}{z:Value}{l c:Int}{w:World}(ht:P.underlying t=some (.slice e))(hi:P.info? e=some i)(hz:zeroOf P e=some z)
  (h:0<=l/\l<=c/\i.bytes*c<=281474976710656/\c<=9223372036854775807) (hsz:i.size≠0) :
  (Instr.makeSlice t (.int .i64 l) (.int .i64 c)).run P w=.ok (.slice (some ⟨w.heap.size,0,none⟩) l.toNat c.toNat) (w.alloc (.cells ((Array.range (c.toNat*i.size)).map (z.cells[· % z.cells.size]!)) e)):=by
 obtain ⟨h1,h2,h3,h4⟩:=h;have hl:IntKind.i64.wrap l=l:=IntWalk.i64_in l (by omega);have hc:IntKind.i64.wrap c=c:=IntWalk.i64_in c (by omega);have ht1:(typeInfo e).run P w=.ok i w:=by simp [typeInfo,hi]
 have hai:∀ n:Int,(asInt (.int .i64 n)).run P w=.ok n w:=λn=>by simp [asInt,asIntOf,Result.andThen]
 have e1:((decide (c<0)||decide ((i.bytes:Int)*c > 2 ^ 48))||decide (l<0)||decide (l > c))=false:=by
  simp;omega
 have aVX:(askRoom (c.toNat*i.bytes)).run P w=.ok () w:=by unfold askRoom;split<;>simp [mark,Sem.run]
 have hro:∀ (cells:Array Value),(newRow e cells).run P w=.ok ⟨w.heap.size,0,none⟩ (w.alloc (.cells cells e)):=λcells=>by simp [newRow,newObj,Sem.run,Result.andThen]
 unfold Instr.makeSlice;simp only [Sem.run_bind,run_underlying ht,Result.andThen,hai,ht1,hl,hc];rw [if_neg (by rw [e1];simp)];simp only [Sem.run_bind,aVX,Result.andThen,run_sizeOf hi];by_cases h0:c.toNat*i.size=0
 .rw [h0];simp [hro,range_zero,Result.andThen]
 .simp [h0,GO hz,Result.andThen,hro]
theorem aJ5{P:Program}{t:TypeId}{l c:Value}{w:World}{K:Value->World->Prop}(h:Ms P t l c w K):
  ∃ v w',(Instr.makeSlice t l c).run P w=.ok v w'/\K v w':=by
 unfold Ms at h;split at h
 .rename_i e l c ht;split at h
  .rename_i i z hi hz;obtain ⟨hb,h⟩:=h;split at h
   .rename_i hc;have hr:=run_makeSlice (P:=P) (w:=w) ht hi hz hb (by omega);have hcells:z.cells=#[z]:=by cases z<;>first|rfl|cases hc.2
    rw [hc.1,Nat.mul_one,hcells,aYI,<-List.toArray_replicate] at hr;exact ⟨_,_,hr,h _ rfl⟩
   .split at h
    .rename_i hc;have hr:=run_makeSlice (P:=P) (w:=w) ht hi hz hb hc.2;have hz1:=aKu c.toNat z.cells;have hsz:i.size=z.cells.size:=by simpa using hc.1
     rw [hsz,hz1] at hr;exact ⟨_,_,hr,h _ rfl⟩
    .exact h.elim
  .exact h.elim
 .exact h.elim
def Rt(P:Program)(ex:Nat->Option TypeId)(i:Nat)(K:Value->Prop):Prop :=
 match ex i with
 | some t=>Ga P t K
 | none=>∃ v,K v
theorem aIq{P:Program}{ex:Nat->Option TypeId}{i:Nat}{K:Value->Prop}(h:Rt P ex i K):∃ v,K v:=by
 unfold Rt at h;split at h
 .exact Rc h
 .exact h
def s3(d:Option Tmp)(i:Nat):List Oper->Option TypeId
 | []=>none
 | o :: r=>match o.op,d with
  | .extract (.tmp t) j,some t'=>match Nat.beq t t'&&Nat.beq i j with
   | true=>some o.type
   | false=>s3 d i r
  | _,_=>s3 d i r
def FA(P:Program)(ex:Nat->Option TypeId)(o:Oper)(τ:Operand->Value)(w:World)(K:Value->World->Prop):Prop :=
 match o.op with
 | .store t x y=>match τ x with
  | .pointer (some ⟨b,off,none⟩)=>S1 P t w b off (τ y) λw'=>K undef w'
  | _=>False
 | .box t x=>∀ w',w'=w.alloc (.cells (τ x).cells t)->K (.pointer (some ⟨w.heap.size,0,none⟩)) w'
 | .alloc t=>match zeroOf P t with
  | some z=>∀ w',w'=w.alloc (.cells z.cells t)->K (.pointer (some ⟨w.heap.size,0,none⟩)) w'
  | none=>False
 | .build t parts=>Gg P t (parts.toList.map λp=>(p.1,τ p.2)) λv=>K v w
 | .buildSlice t n parts=>Mr P t n (parts.toList.map λp=>(p.1,τ p.2)) w K
 | .makeSlice t l c=>Ms P t (τ l) (τ c) w K
 | .makeMap _ none=>∀ w',w'=w.alloc (.map #[] 0)->K (.map (some w.heap.size)) w'
 | .mapUpdate t m k x=>∃ w',(Instr.mapUpdate t (τ m) (τ k) (τ x)).run P w=.ok () w'/\K undef w'
 | .mapEntry t m k=>match P.underlying t with
  | some (.map _ e)=>Ga P e λv=>∃ (n:Int) (w':World),(Instr.mapEntry t (τ m) (τ k)).run P w=.ok (.tuple #[v,.int .i64 n]) w'/\K (.tuple #[v,.int .i64 n]) w'
  | _=>False
 | .entryStore t m s x=>∃ w',(Instr.entryStore t (τ m) (τ s) (τ x)).run P w=.ok () w'/\K undef w'
 | .range t x=>∃ p w',(Instr.range t (τ x)).run P w=.ok (.pointer p) w'/\K (.pointer p) w'
 | .next it false=>(∃ w',(Instr.next (τ it) false o.type).run P w=.ok (.tuple #[.bool false]) w'/\K (.tuple #[.bool false]) w') \/
  (∃ (k v:Value) (w':World),(Instr.next (τ it) false o.type).run P w=.ok (.tuple #[.bool true,k,v]) w'/\K (.tuple #[.bool true,k,v]) w')
 | .next it true=>(∃ w',(Instr.next (τ it) true o.type).run P w=.ok (.tuple #[.bool false]) w'/\K (.tuple #[.bool false]) w') \/
  (∃ (k v:Int) (w':World),(Instr.next (τ it) true o.type).run P w=.ok (.tuple #[.bool true,.int .i64 k,.int .i32 v]) w'/\K (.tuple #[.bool true,.int .i64 k,.int .i32 v]) w')
 | .entry it=>Rt P ex 0 λk=>Rt P ex 1 λv=>∃ w',(Instr.entry (τ it)).run P w=.ok (.tuple #[k,v]) w'/\K (.tuple #[k,v]) w'
 | .convert src dst x=>uU P o.type λv=>∃ w',(convert src dst (τ x)).run P w=.ok v w'/\K v w'
 | .call c =>
  match c.callee with
  | .builtin b=>uU P o.type λv=>∃ w',(builtin b c.argTypes o.type (c.args.toList.map fun | .const _=>true|_=>false).toArray (c.args.toList.map τ).toArray).run P w=.ok (.value v) w'/\K v w'
  | .value f =>
   match τ f with
   | .func (.func fid) first captured =>
    match P.funcs[fid]? with
    | some fn=>if fn.body.isSome=true/\(fn.name == "runtime.NumGoroutine")=false then (match aUt fn.name with|true=>a61 P fid (first.toList++c.args.toList.map τ++captured.toList).toArray w K|false=>Uj P fid (first.toList++c.args.toList.map τ++captured.toList).toArray w K) else uU P o.type λv=>∃ w',(callFunc fid (first.toList++c.args.toList.map τ++captured.toList).toArray).run P w=.ok (.value v) w'/\K v w'
    | none=>False
   | _=>False
  | _=>kR P K ((execOp τ o).run P w)
 | _=>kR P K ((execOp τ o).run P w)
theorem PE{P:Program}{ex:Nat->Option TypeId}{o:Oper}{τ:Operand->Value}{w:World}{K:Value->World->Prop}(h:FA P ex o τ w K):kR P K ((execOp τ o).run P w):=by
 unfold FA at h;split at h
 case h_1 t x y hop =>
  split at h
  .rename_i b off hx;obtain ⟨w',h1,h2⟩:=aJ6 h;simp only [execOp,hop,hx,Instr.storeAt,Instr.sureAddr,Sem.run_bind,Sem.run_pure,Result.andThen,h1];exact h2
  .exact h.elim
 case h_2 t x hop =>
  simp only [execOp,hop,Instr.box,newVar,newRow,newObj,Sem.run_bind,Sem.run,Sem.run_pure,Result.andThen];exact h _ rfl
 case h_3 t hop =>
  split at h
  .rename_i z hz;simp only [execOp,hop,Instr.alloc,newVar,newRow,newObj,Sem.run_bind,GO hz,Sem.run,Sem.run_pure,Result.andThen];exact h _ rfl
  .exact h.elim
 case h_4 t parts hop =>
  rw [show (parts.toList.map λp=>(p.1,τ p.2))=(parts.map λ(i,x)=>(i,τ x)).toList by simp] at h;obtain ⟨v,h1,h2⟩:=aJ3 (w:=w) h;simp only [execOp,hop,Sem.run_bind,h1,Sem.run_pure,Result.andThen];exact h2
 case h_5 t n parts hop =>
  rw [show (parts.toList.map λp=>(p.1,τ p.2))=(parts.map λ(i,x)=>(i,τ x)).toList by simp] at h;obtain ⟨v,w',h1,h2⟩:=aJ1 h;simp only [execOp,hop,Sem.run_bind,h1,Sem.run_pure,Result.andThen];exact h2
 case h_6 t l c hop =>
  obtain ⟨v,w',h1,h2⟩:=aJ5 h;simp only [execOp,hop,Sem.run_bind,h1,Sem.run_pure,Result.andThen];exact h2
 case h_7 t hop =>
  simp only [execOp,hop,Option.map_none,Instr.makeMap,newObj,Sem.run_bind,Sem.run,Sem.run_pure,Result.andThen];exact h _ rfl
 case h_8 t m k x hop =>
  obtain ⟨w',h1,h2⟩:=h;simp only [execOp,hop,Sem.run_bind,h1,Sem.run_pure,Result.andThen];exact h2
 case h_9 t m k hop =>
  split at h
  .obtain ⟨v,n,w',h1,h2⟩:=Rc h;simp only [execOp,hop,Sem.run_bind,h1,Sem.run_pure,Result.andThen];exact h2
  .exact h.elim
 case h_10 t m s x hop =>
  obtain ⟨w',h1,h2⟩:=h;simp only [execOp,hop,Sem.run_bind,h1,Sem.run_pure,Result.andThen];exact h2
 case h_11 t x hop =>
  obtain ⟨p,w',h1,h2⟩:=h;simp only [execOp,hop,Sem.run_bind,h1,Sem.run_pure,Result.andThen];exact h2
 case h_12 it hop =>
  rcases h with ⟨w',h1,h2⟩|⟨k,v,w',h1,h2⟩ <;>
  .simp only [execOp,hop,Sem.run_bind,h1,Sem.run_pure,Result.andThen];exact h2
 case h_13 it hop =>
  rcases h with ⟨w',h1,h2⟩|⟨k,v,w',h1,h2⟩ <;>
  .simp only [execOp,hop,Sem.run_bind,h1,Sem.run_pure,Result.andThen];exact h2
 case h_14 it hop =>
  obtain ⟨k,h⟩:=aIq h;obtain ⟨v,w',h1,h2⟩:=aIq h;simp only [execOp,hop,Sem.run_bind,h1,Sem.run_pure,Result.andThen];exact h2
 case h_15 src dst x hop =>
  obtain ⟨v,w',h1,h2⟩:=xm h;simp only [execOp,hop,Sem.run_bind,h1,Sem.run_pure,Result.andThen];exact h2
 case h_16 c hop =>
  split at h
  .rename_i b hc;rw [mapA,mapA] at h;obtain ⟨v,w',h1,h2⟩:=xm h;simp only [execOp,hop,resolve,hc,Sem.run_bind,Sem.run_pure,Result.andThen,invoke];have e:kR P K (.ok (.value v) w'):=h2;rw [<-h1] at e;exact e
  .rename_i f hc;split at h
   .rename_i fid first captured hf
    split at h
    .rename_i fn hfn;split at h
     .rename_i hb;rw [show (first.toList++c.args.toList.map τ++captured.toList).toArray=first++c.args.map τ++captured by apply Array.ext';simp] at h;have h1:Calls P fid (first++c.args.map τ++captured) w λe w'=>∃ v,e=.returned v/\K v w':=by
       split at h
       .exact aQY h
       .exact aQZ h
      have hb':fn.body.isNone=false:=by cases hh:fn.body<;>simp_all
      simp only [execOp,hop,resolve,hc,Sem.run_bind,Deferred.ofValue,hf,Sem.run_pure,Result.andThen,invoke,callFunc,program,Sem.run,hfn,hb.2,hb',Bool.false_eq_true,if_false];exact h1
     .rw [show (first.toList++c.args.toList.map τ++captured.toList).toArray=first++c.args.map τ++captured by apply Array.ext';simp] at h;obtain ⟨v,w',h1,h2⟩:=xm h;simp only [execOp,hop,resolve,hc,Sem.run_bind,Deferred.ofValue,hf,Sem.run_pure,Result.andThen,invoke,h1];exact h2
    .exact h.elim
   .exact h.elim
  .exact h
 case h_17=>exact h
def k6(P:Program)(f:FuncId):Bool:=match P.funcs[f]? with|some fn=>fn.body.isSome && !(fn.name == "runtime.NumGoroutine")|none=>false
def Nx(cs:List Value):Prop:=∀ c∈cs,dJ c=true
def P6(P:Program)(ex:Nat->Option TypeId)(o:Oper)(τ:Operand->Value)(w:World)(K:Value->World->Prop):Prop :=
 match o.op with
 | .store t x y=>match τ x with
  | .pointer (some ⟨b,off,none⟩) =>
   match P.underlying t,P.info? t with
   | some d,some i=>match tK d with
    | true=>match τ y with
     | .agg cs=>match Nat.beq cs.toList.length i.size with
      | true=>Nx cs.toList/\bJ w b off i.size/\∀ w',w'=w.setCells b off cs.toList->K undef w'
      | false=>False
     | _=>False
    | false=>match Nat.beq i.size 1 with
     | true=>Nx [τ y]/\bJ w b off 1/\∀ w',w'=w.setCell ⟨b,off,none⟩ (τ y)->K undef w'
     | false=>False
   | _,_=>False
  | _=>False
 | .call c =>
  match c.callee with
  | .value f =>
   match τ f with
   | .func (.func fid) first captured =>
    k6 P fid=true/\Calls P fid (first.toList++c.args.toList.map τ++captured.toList).toArray w λe w'=>uU P o.type λv=>e=.returned v/\K v w'
   | _=>False
  | _=>FA P ex o τ w K
 | _=>FA P ex o τ w K
theorem a6j{P:Program}{ex:Nat->Option TypeId}{o:Oper}{τ:Operand->Value}{w:World}{K:Value->World->Prop}(h:P6 P ex o τ w K):kR P K ((execOp τ o).run P w):=by
 unfold P6 at h;split at h
 case h_1 t x y hop =>
  split at h
  .rename_i b off hx;split at h
   .rename_i d i hd hi;have key:∃ w',(storeVar t ⟨b,off,none⟩ (τ y)).run P w=.ok () w'/\K undef w':=by
     split at h
     .split at h
      .rename_i cs hy;split at h
       .rename_i hn;obtain ⟨h1,h2,h3⟩:=h;refine aJ6 (P:=P) (t:=t) (K:=λw'=>K undef w') ?_;unfold S1;rw [hi,hy];simp only;have hall:cs.toList.all dJ=true:=List.all_eq_true.2 h1;rw [hn,hall];exact ⟨h2,h3⟩
       .exact h.elim
      .exact h.elim
     .split at h
      .rename_i hn;obtain ⟨h1,h2,h3⟩:=h;have h0:dJ (τ y)=true:=h1 _ (by simp);obtain ⟨h4,h5⟩:=h2 0 (by omega);exact ⟨_,Z5 hi (Nat.eq_of_beq_eq_true hn) h0 h4 h5,h3 _ rfl⟩
      .exact h.elim
    obtain ⟨w',h1,h2⟩:=key;simp only [execOp,hop,hx,Instr.storeAt,Instr.sureAddr,Sem.run_bind,Sem.run_pure,Result.andThen,h1];exact h2
   .exact h.elim
  .exact h.elim
 case h_2 c hop =>
  split at h
  .rename_i f hc;split at h
   .rename_i fid first captured hf
    obtain ⟨h0,h⟩:=h;unfold k6 at h0;split at h0
    .rename_i fn hfn;simp only [Bool.and_eq_true,Bool.not_eq_true'] at h0;rw [show (first.toList++c.args.toList.map τ++captured.toList).toArray=first++c.args.map τ++captured by apply Array.ext';simp] at h;have hb':fn.body.isNone=false:=by cases hh:fn.body<;>simp_all
     simp only [execOp,hop,resolve,hc,Sem.run_bind,Deferred.ofValue,hf,Sem.run_pure,Result.andThen,invoke,callFunc,program,Sem.run,hfn,h0.2,hb',Bool.false_eq_true,if_false];exact h.mono λe w' h=>xm h
    .cases h0
   .exact h.elim
  .exact PE h
 case h_3=>exact PE h
structure Fr where
 n:Nat
 l:List (Nat × Value)
def gw(i:Nat):List (Nat × Value)->Value
 | []=>w9
 | (t,v) :: r=>match Nat.beq t i with|true=>v|false=>gw i r
def Fr.get(s:Fr)(i:Nat):Value:=gw i s.l
def Fr.eval(s:Fr):Operand->Value
 | .tmp t=>gw t s.l
 | .const v=>v
 | .global g=>.pointer (some ⟨g,0,none⟩)
 | .func f=>.func (.func f) #[] #[]
def Fr.put(s:Fr)(d:Option Tmp)(v:Value):Fr :=
 match d with
 | some t=>match Nat.blt t s.n with
  | true=>⟨s.n,(t,v) :: s.l⟩
  | false=>s
 | none=>s
theorem Pa(s:Fr)(d:Option Tmp)(v:Value)(i:Nat):(s.put d v).get i=if d=some i/\i<s.n then v else s.get i:=by
 cases d with
 | none=>simp [Fr.put]
 | some t =>
  unfold Fr.put;simp only;cases h:Nat.blt t s.n with
  | true =>
   simp only [Fr.get,gw];have ht:t<s.n:=by simpa [Nat.blt_eq] using h
   cases hb:Nat.beq t i with
   | true=>have:t=i:=Nat.eq_of_beq_eq_true hb;subst this;simp [ht]
   | false=>have:t≠i:=Nat.ne_of_beq_eq_false hb;simp [this]
  | false =>
   have ht:¬ t<s.n:=by
    intro hh;have h2:Nat.blt t s.n=true:=by rw [Nat.blt_eq];exact hh
    rw [h2] at h;cases h
   simp only;rw [if_neg];rintro ⟨e,hi⟩;cases e;exact ht hi
theorem Pb(s:Fr)(d:Option Tmp)(v:Value):(s.put d v).n=s.n:=by
 cases d with
 | none=>rfl
 | some t=>unfold Fr.put;simp only;split<;>rfl
structure cQ(ds:List Deferred)(s:Fr)(a:Act):Prop where
 defers:a.defers=ds
 size:a.tmps.size=s.n
 slot:∀ i,cg (s.get i)=false->a.tmps.getD i undef=s.get i
theorem cQ.eval{s:Fr}{a:Act}(h:cQ ds s a){x:Operand}(hx:cg (s.eval x)=false):a.eval x=s.eval x:=by
 cases x with
 | tmp t=>exact h.slot t hx
 | const v=>rfl
 | global g=>rfl
 | func f=>rfl
theorem Yn(a:Act)(d:Option Tmp)(v:Value)(i:Nat):
  (a.put d v).tmps.getD i undef=if d=some i/\i<a.tmps.size then v else a.tmps.getD i undef:=by
 cases d with
 | none=>simp [Act.put]
 | some d =>
  simp only [Act.put,Option.some.injEq,Array.getD_eq_getD_getElem?];by_cases h:d=i
  .subst h;by_cases hd:d<a.tmps.size
   .simp [hd]
   .simp [hd]
  .rw [Array.getElem?_setIfInBounds_ne h];simp [h]
theorem aH5(a:Act)(d:Option Tmp)(v:Value):(a.put d v).tmps.size=a.tmps.size:=by cases d<;>simp [Act.put]
theorem put_defers(a:Act)(d:Option Tmp)(v:Value):(a.put d v).defers=a.defers:=by cases d<;>rfl
theorem cQ.put{s:Fr}{a:Act}(h:cQ ds s a)(d:Option Tmp){u v:Value}(huv:cg u=false->v=u):cQ ds (s.put d u) (a.put d v):=by
 refine ⟨by rw [put_defers];exact h.defers,by rw [aH5,Pb];exact h.size,λi hi=>?_⟩;rw [Pa] at hi ⊢;rw [Yn,h.size];split at hi
 .rename_i hc;rw [if_pos hc,if_pos hc];exact huv hi
 .rename_i hc;rw [if_neg hc,if_neg hc];exact h.slot i hi
def A8(s:Fr)(o:Oper):Bool:=o.op.operands.toList.all λx => !cg (s.eval x)
def uO(o:Oper):Bool:=match o.op with | .select _ _=>false|_=>true
theorem Bl{s:Fr}{a:Act}(h:cQ ds s a){o:Oper}(ho:A8 s o=true)(hs:uO o=true):execOp a.eval o=execOp s.eval o:=by
 refine execOp_congr o (λcs b e=>by simp [uO,e] at hs) λx hx=>h.eval ?_;have:=List.all_eq_true.1 ho x (by simpa using hx);simpa using this
def U(c:Bool)(A υ:Prop):Prop:=match c with|true=>A|false=>υ
theorem U.intro{c:Bool}{A υ:Prop}(h1:c=true->A)(h2:c=false->υ):U c A υ:=by cases c;exact h2 rfl;exact h1 rfl
def Ij(s:Fr)(d:Option Tmp):Option Bool :=
 match d with
 | some d=>match gw d s.l with
  | .bool c=>some c
  | _=>none
 | none=>none
def G9(P:Program)(wr:Bool)(ex:Nat->Option TypeId)(o:Oper)(s:Fr)(w:World)(K:Value->World->Prop):Prop :=
 match o.op with
 | .pick c x y=>match s.eval c with
  | .bool b=>U b (K (s.eval x) w) (K (s.eval y) w)
  | _=>False
 | _=>if A8 s o=true/\uO o=true then
   match jc P wr o s.eval w none λv=>K v w with
   | some p=>p
   | none=>match wr with
    | true=>P6 P ex o s.eval w K
    | false=>FA P ex o s.eval w K
  else False
def aOI(K:Value->World->Prop)(K':Value->World->Prop):Prop:=∀ v v' w,K v w->(cg v=false->v'=v)->K' v' w
theorem aEO{P:Program}{wr:Bool}{ex:Nat->Option TypeId}{o:Oper}{s:Fr}{a:Act}{w:World}{K K':Value->World->Prop}(h:G9 P wr ex o s w K)(hs:cQ ds s a)(hK:aOI K K'):kR P K' ((execOp a.eval o).run P w):=by
 have mono:∀ r,kR P K r->kR P K' r:=by
  intro r hr;cases r with
  | ok n w' =>
   cases n<;>simp only [kR] at hr ⊢ <;> try exact hr
   .exact hK _ _ _ hr λ_=>rfl
   .exact hK _ _ _ hr λ_=>rfl
   .exact hr.mono λe w'' ⟨v,he,hk⟩=>⟨v,he,hK _ _ _ hk λ_=>rfl⟩
  | halt x w'=>exact hr
 unfold G9 at h;split at h
 .rename_i c x y hop;split at h
  .rename_i b hc;have fZ:a.eval c=.bool b:=by rw [hs.eval (by rw [hc];rfl),hc]
   cases b with
   | true =>
    simp only [U] at h;simp only [execOp,hop,fZ,asBool,Sem.run_bind,Sem.run_pure,Result.andThen,if_true,kR];exact hK _ _ _ h λhu=>hs.eval hu
   | false =>
    simp only [U] at h;simp only [execOp,hop,fZ,asBool,Sem.run_bind,Sem.run_pure,Result.andThen,kR];exact hK _ _ _ h λhu=>hs.eval hu
  .exact h.elim
 .split at h
  .rename_i ho;rw [Bl hs ho.1 ho.2];refine mono _ ?_;split at h
   .rename_i p hp;obtain ⟨v,h1,h2⟩:=RI hp h;rw [h1 trivial w rfl];exact h2
   .split at h
    .exact a6j h
    .exact PE h
  .exact h.elim
def Dh(P:Program)(wr:Nat->Bool)(sure:Bool)(ops:Array Oper):List Oper->Fr->World->(Fr->World->Prop)->Prop
 | [],s,w,K=>K s w
 | o :: rest,s,w,K =>
  match o.guard with
  | none=>G9 P (wr (o.dst.getD 0)) (λi=>s3 o.dst i ops.toList) o s w λv w'=>Dh P wr sure ops rest (s.put o.dst v) w' K
  | some (j,want) =>
   let d:=(ops[j]?).bind (·.dst)
   let go (b:Bool) (s:Fr):Prop :=
    if b=want then G9 P (wr (o.dst.getD 0)) (λi=>s3 o.dst i ops.toList) o s w λv w'=>Dh P wr sure ops rest (s.put o.dst v) w' K
    else Dh P wr sure ops rest (s.put o.dst undef) w K
   match Ij s d with
   | some c=>match sure with
    | true=>c=want/\go want (s.put d (.bool want))
    | false=>U c (go true (s.put d (.bool true))) (go false (s.put d (.bool false)))
   | none=>False
theorem Oper.y9{P:Program}{o:Oper}{a:Act}{w:World}{next:Act->World->Prop}{Q:Exit->Act->World->Prop}
  (h:kR P (λv w'=>next (a.put o.dst v) w') ((execOp a.eval o).run P w)):o.wp P a w next Q:=by
 unfold Oper.wp;generalize (execOp a.eval o).run P w=r at *;cases r with
 | ok n w' =>
  cases n<;>simp only [kR,Oper.upon] at h ⊢ <;> try exact h
  exact h.mono λe w'' ⟨v,he,hk⟩=>by subst he;exact hk
 | halt x w'=>exact h.elim
theorem UU{s:Fr}{a:Act}(h:cQ ds s a){d:Option Tmp}{c:Bool}(hc:Ij s d=some c):∃ k,d=some k/\k<a.tmps.size/\a.tmps.getD k undef=.bool c/\s.get k=.bool c:=by
 unfold Ij at hc;split at hc
 .rename_i k;split at hc
  .rename_i c' hv;cases hc;have nk:s.get k=.bool c:=hv;have e:=h.slot k (by rw [nk];rfl);refine ⟨k,rfl,?_,by rw [e,nk],nk⟩;rcases Nat.lt_or_ge k a.tmps.size with h'|h'
   .exact h'
   .rw [Array.getD_eq_getD_getElem?,Array.getElem?_eq_none h'] at e;rw [nk] at e;cases e
  .cases hc
 .cases hc
theorem Yo{a:Act}{k:Nat}{v:Value}(h:k<a.tmps.size)(hv:a.tmps.getD k undef=v):a.put (some k) v=a:=by
 cases a with
 | mk t d =>
  simp only [Act.put]
  congr 1
  apply Array.ext
  .simp
  .intro i h1 h2;rw [Array.getElem_setIfInBounds];split
   .rename_i e;subst e;simp at hv h;simpa [h] using hv.symm
   .rfl
def aR(D:Nat->Prop)(s s':Fr):Prop:=s'.n=s.n/\∀ i,¬ D i->cg (s'.get i)=false->s'.get i=s.get i
theorem aR.refl(D:Nat->Prop)(s:Fr):aR D s s:=⟨rfl,λ_ _ _=>rfl⟩
theorem aR.trans{D:Nat->Prop}{a b c:Fr}(h:aR D a b)(k:aR D b c):aR D a c:=⟨k.1.trans h.1,λi hi hu=>by
 have e:=k.2 i hi hu;rw [e] at hu ⊢;exact h.2 i hi hu⟩
theorem aR.mono{D D':Nat->Prop}{a b:Fr}(h:aR D a b)(hD:∀ i,D i->D' i):aR D' a b:=⟨h.1,λi hi=>h.2 i λhd=>hi (hD i hd)⟩
theorem aR.put{D:Nat->Prop}{a b:Fr}(h:aR D a b){d:Option Tmp}(hd:∀ t,d=some t->D t)(v:Value):aR D a (b.put d v):=by
 refine ⟨by rw [Pb];exact h.1,λi hi=>?_⟩;rw [Pa,if_neg (by rintro ⟨e,_⟩;exact hi (hd i e))];exact h.2 i hi
theorem S0{P:Program}{wr:Nat->Bool}{sure:Bool}{ops:Array Oper}{Q:Exit->Act->World->Prop}{K:Fr->World->Prop}{D:Nat->Prop}{s0:Fr}
  (hD:∀ (j:Nat) (o:Oper) (t:Nat),ops[j]? = some o->o.dst=some t->D t) (hK:∀ s a w,K s w->cQ ds s a->aR D s0 s->Q .normal a w) :
  ∀ (l:List Oper) (s:Fr) (a:Act) (w:World),(∀ o∈l,∀ t,o.dst=some t->D t)->Dh P wr sure ops l s w K->cQ ds s a->aR D s0 s->wpList P ops Q l a w
 | [],s,a,w,_,h,hs,hu=>hK _ _ _ h hs hu
 | o :: rest,s,a,w,hl,h,hs,hu=>by
  have hl':∀ o∈rest,∀ t,o.dst=some t->D t:=λo ho=>hl o (List.mem_cons_of_mem _ ho);have ho:∀ t,o.dst=some t->D t:=hl o (by simp);have step:∀ s',cQ ds s' a->aR D s0 s'->(G9 P (wr (o.dst.getD 0)) (λi=>s3 o.dst i ops.toList) o s' w λv w'=>Dh P wr sure ops rest (s'.put o.dst v) w' K) ->
    o.wp P a w (wpList P ops Q rest) Q:=by
   intro s' hs' aF h;refine Oper.y9 (aEO h hs' ?_);intro v v' w' hk hv;exact S0 hD hK rest _ _ _ hl' hk (hs'.put _ hv) (aF.put ho _)
  unfold Dh at h;unfold wpList;split at h
  .rename_i hg;rw [if_pos (by simp [Region.wanted,hg])];exact .inl (step s hs hu h)
  .rename_i j want hg;simp only at h;split at h
   .rename_i c hc;obtain ⟨k,hk,hlt,hv,a8b⟩:=UU hs hc;have hy:yielded ops a.tmps j=some c:=by
     unfold yielded;rw [hk];simp only [Option.bind_some];rw [Array.getD_eq_getD_getElem?] at hv;simp only [hlt,getElem?_pos,Option.getD_some] at hv;simp [hlt,hv]
    have hw:Region.wanted o (yielded ops a.tmps)=(c == want):=by simp [Region.wanted,hg,hy]
    have hs':cQ ds (s.put ((ops[j]?).bind (·.dst)) (.bool c)) a:=by
     have:=hs.put ((ops[j]?).bind (·.dst)) (u:=.bool c) (v:=.bool c) (λ_=>rfl);rw [hk] at this ⊢
     rwa [Yo hlt hv] at this
    have aF:∀ v,aR D s0 (s.put ((ops[j]?).bind (·.dst)) v):=λv=>hu.put (by
     intro t ht;cases hj:ops[j]? with
     | none=>simp [hj] at ht
     | some oj=>rw [hj] at ht;exact hD j oj t hj ht) v
    rw [hw];cases sure with
    | true =>
     obtain ⟨oe,h⟩:=h;subst oe;simp only [if_true] at h;rw [if_pos (by simp)];exact .inl (step _ hs' (aF _) h)
    | false =>
    simp only at h;cases c<;>simp only [U] at h
    .by_cases e:false=want
     .rw [if_pos e] at h;rw [if_pos (by simp [e])];exact .inl (step _ hs' (aF _) h)
     .rw [if_neg e] at h;rw [if_neg (by simpa using e)];exact S0 hD hK rest _ _ _ hl' h (hs'.put _ (λ_=>rfl)) ((aF _).put ho _)
    .by_cases e:true=want
     .rw [if_pos e] at h;rw [if_pos (by simp [e])];exact .inl (step _ hs' (aF _) h)
     .rw [if_neg e] at h;rw [if_neg (by simpa using e)];exact S0 hD hK rest _ _ _ hl' h (hs'.put _ (λ_=>rfl)) ((aF _).put ho _)
   .exact h.elim
end Go.Vc
end

section
namespace Go.Vc
variable {ds:List Deferred}
open Go.RowKit
structure gR where
 slot:Nat
 g:Option Bool
 chain:List (Nat × Bool)
def jr(es:List gR)(t:Nat):Option gR:=es.find? λe=>e.slot == t
def aIg(a b:List (Nat × Bool)):Bool:=a.all λp=>b.contains p
def vw(es:List gR)(ch:List (Nat × Bool))(s:Fr)(x:Operand):Bool :=
 match x with
 | .tmp t => !cg (s.eval (.tmp t))&&(match jr es t with|some e=>aIg e.chain ch|none=>true)
 | _=>true
def W8(g:Option Bool)(c:Bool):Option Bool:=match g with|none=>some c|some g=>some (g&&c)
def a0d(want c:Bool):Bool:=match want with|true=>c|false => !c
def guardOf(ops:Array Oper)(es:List gR)(s:Fr)(o:Oper):Option (Option Bool × List (Nat × Bool)) :=
 match o.guard with
 | none=>some (none,[])
 | some (j,want) =>
  match (ops[j]?).bind (·.dst) with
  | some d=>match jr es d,gw d s.l with
   | some e,.bool c=>some (W8 e.g (a0d want c),(d,want) :: e.chain)
   | _,_=>none
  | none=>none
def iS(d:Bool)(w:World):World->Prop:=λw'=>match d with|true=>∃ n,w'=w.drewN n|false=>w'=w
theorem iS.heap{d:Bool}{w w':World}(h:iS d w w'):w'.heap=w.heap:=by
 cases d
 .exact congrArg World.heap h
 .obtain ⟨n,rfl⟩:=h;rfl
def Yv(P:Program)(d:Bool)(o:Oper)(τ:Operand->Value)(w:World)(g:Option Bool)(K:Value->Prop):Prop :=
 match o.op with
 | .call c=>match c.callee with
  | .value f=>match τ f with
   | .func (.func fid) first captured =>
    match P.funcs[fid]? with
    | some fn=>if fn.body.isSome=true/\(fn.name == "runtime.NumGoroutine")=false then
      Ma P fn.resultTypes.toList λvs=>fL g (∀ w',iS d w w'->Calls P fid (first.toList++c.args.toList.map τ++captured.toList).toArray w' λe w''=>e=.returned (pN vs)/\iS d w w'')/\K (pN vs)
     else False
    | none=>False
   | _=>False
  | _=>False
 | _=>False
def W2(c:Operand)(b:Bool)(ch:List (Nat × Bool)):List (Nat × Bool):=match c with | .tmp t=>(t,b) :: ch|_=>ch
def Da(P:Program)(wr:Bool)(d:Bool)(es:List gR)(o:Oper)(s:Fr)(w:World)(g:Option Bool)(ch:List (Nat × Bool))(K:Value->Prop):Prop :=
 match o.op with
 | .pick c x y =>
  if vw es ch s c=true then
   match s.eval c with
   | .bool b =>
    if vw es (W2 c true ch) s x=true/\vw es (W2 c false ch) s y=true then
     match x,y,s.eval x,s.eval y with
     | .const (.bool true),_,_,.bool q=>K (.bool (b||q))
     | _,.const (.bool false),.bool q,_=>K (.bool (b&&q))
     | _,_,u,v=>K (if b=true then u else v)
    else False
   | _=>False
  else False
 | _=>if o.op.operands.toList.all (vw es ch s)=true/\uO o=true then
   match jc P wr o s.eval w g K with
   | some p=>p
   | none=>Yv P d o s.eval w g K
  else False
def q2(f:Nat->Bool):List (Nat × Value)->List (Nat × Value)
 | []=>[]
 | (t,v) :: r=>match f t with|true=>(t,v) :: q2 f r|false=>q2 f r
theorem FI(f:Nat->Bool)(i:Nat):∀ (l:List (Nat × Value)),gw i (q2 f l)=if f i=true then gw i l else w9
 | []=>by simp [q2,gw]
 | (t,v) :: r=>by
  unfold q2;cases h:f t with
  | true =>
   simp only [gw];cases hb:Nat.beq t i with
   | true=>have:=Nat.eq_of_beq_eq_true hb;subst this;simp [h]
   | false=>simp only;exact FI f i r
  | false =>
   simp only [gw];rw [FI f i r];cases hb:Nat.beq t i with
   | true=>have:=Nat.eq_of_beq_eq_true hb;subst this;simp [h]
   | false=>rfl
def Bn(es:List gR)(t:Nat):Bool:=match jr es t with
 | some e=>(match e.g with|some _=>false|none=>true)
 | none=>true
def forget(es:List gR)(s:Fr):Fr:=⟨s.n,q2 (Bn es) s.l⟩
def Mi(P:Program)(wr:Nat->Bool)(d:Bool)(ops:Array Oper)(w:World):List Oper->List gR->Fr->(Fr->Prop)->Prop
 | [],es,s,K=>K (forget es s)
 | o :: rest,es,s,K =>
  match guardOf ops es s o,o.dst with
  | some (g,ch),some t =>
   if (jr es t).isNone=true/\Nat.blt t s.n=true then
    Da P (wr t) d es o s w g ch λv=>Mi P wr d ops w rest (⟨t,g,ch⟩ :: es) (s.put (some t) v) K
   else False
  | _,_=>False
def Holds(s:Fr)(ch:List (Nat × Bool)):Prop:=∀ p∈ch,s.get p.1=.bool p.2
structure Rel(ds:List Deferred)(es:List gR)(s:Fr)(a:Act):Prop where
 defers:a.defers=ds
 size:a.tmps.size=s.n
 slot:∀ i,match jr es i with
  | none=>cg (s.get i)=false->a.tmps.getD i undef=s.get i
  | some e=>(e9 e.g->cg (s.get i)=false->a.tmps.getD i undef=s.get i)/\(¬ e9 e.g->a.tmps.getD i undef=undef)
 chain:∀ i e,jr es i=some e->(e9 e.g ↔ Holds s e.chain)/\∀ p∈e.chain,(jr es p.1).isSome=true
theorem Holds.sub{s:Fr}{a b:List (Nat × Bool)}(h:Holds s b)(hs:aIg a b=true):Holds s a:=λp hp=>by
 have:=List.all_eq_true.1 hs p hp;exact h p (by simpa using this)
theorem AQ{es:List gR}{s:Fr}{a:Act}{ch:List (Nat × Bool)}{x:Operand}(h:vw es ch s x=true)(hr:Rel ds es s a)(hc:Holds s ch):a.eval x=s.eval x:=by
 cases x with
 | tmp t =>
  simp only [vw,Bool.and_eq_true,Bool.not_eq_true'] at h;obtain ⟨h1,h2⟩:=h;have h3:=hr.slot t;cases hf:jr es t with
  | none=>rw [hf] at h3;exact h3 h1
  | some e =>
   rw [hf] at h2 h3;have hg:=(hr.chain t e hf).1.2 (hc.sub h2);exact h3.1 hg h1
 | const v=>rfl
 | global g=>rfl
 | func f=>rfl
theorem a7N{g:Option Bool}{c:Bool}:e9 (W8 g c) ↔ e9 g/\c=true:=by
 cases g<;>simp [W8,e9]
theorem a7X{ops:Array Oper}{es:List gR}{s:Fr}{a:Act}{o:Oper}{g:Option Bool}{ch:List (Nat × Bool)}(h:guardOf ops es s o=some (g,ch))(hr:Rel ds es s a):
  (Region.wanted o (yielded ops a.tmps)=true ↔ e9 g)/\(e9 g ↔ Holds s ch)/\∀ p∈ch,(jr es p.1).isSome=true:=by
 unfold guardOf at h;split at h
 .rename_i hg;cases h;refine ⟨by simp [Region.wanted,hg,e9],⟨λ_ p hp=>(by cases hp),λ_=>trivial⟩,λp hp=>(by cases hp)⟩
 .rename_i j want hg;split at h
  .rename_i d hd;split at h
   .rename_i e c he hc;cases h;obtain ⟨h1,h2⟩:=hr.chain d e he;have h3:=hr.slot d;rw [he] at h3;have hy:e9 e.g->yielded ops a.tmps j=some c:=by
     intro hge;have fZ:s.get d=.bool c:=hc;have h4:=h3.1 hge (by rw [fZ];rfl);rw [fZ] at h4;unfold yielded;rw [hd];simp only [Option.bind_some];rw [Array.getD_eq_getD_getElem?] at h4;rcases Nat.lt_or_ge d a.tmps.size with h'|h'
     .simp only [h',getElem?_pos,Option.getD_some] at h4;simp [h',h4]
     .rw [Array.getElem?_eq_none h'] at h4;cases h4
    have hn:¬ e9 e.g->yielded ops a.tmps j=none:=by
     intro hge;have h4:=h3.2 hge;unfold yielded;rw [hd];simp only [Option.bind_some];rw [Array.getD_eq_getD_getElem?] at h4;rcases Nat.lt_or_ge d a.tmps.size with h'|h'
     .simp only [h',getElem?_pos,Option.getD_some] at h4;simp [h',h4,undef]
     .rw [Array.getElem?_eq_none h']
    have oe:a0d want c=true ↔ c=want:=by cases want<;>cases c<;>simp [a0d]
    refine ⟨?_,?_,?_⟩
    .rw [a7N,oe];by_cases hge:e9 e.g
     .simp [Region.wanted,hg,hy hge,hge]
     .simp [Region.wanted,hg,hn hge,hge]
    .rw [a7N,oe,h1];constructor
     .rintro ⟨ha,rfl⟩ p hp;rcases List.mem_cons.1 hp with rfl|hp
      .exact hc
      .exact ha p hp
     .intro ha;refine ⟨λp hp=>ha p (List.mem_cons_of_mem _ hp),?_⟩;have:=ha (d,want) (by simp);simp only at this;rw [show s.get d=.bool c from hc] at this;cases this;rfl
    .intro p hp;rcases List.mem_cons.1 hp with rfl|hp
     .simp [he]
     .exact h2 p hp
   .cases h
  .cases h
theorem W3(es:List gR)(e:gR)(i:Nat):jr (e :: es) i=if e.slot=i then some e else jr es i:=by
 unfold jr;rw [List.find?_cons];by_cases h:e.slot=i
 .simp [h]
 .simp [h,show (e.slot == i)=false by simpa using h]
theorem Rel.put{es:List gR}{s:Fr}{a:Act}(hr:Rel ds es s a){t:Nat}{g:Option Bool}{ch:List (Nat × Bool)}{u v:Value}(hn:(jr es t).isNone=true)(ht:t<s.n)
  (hg:e9 g ↔ Holds s ch) (FU:∀ p∈ch,(jr es p.1).isSome=true) (h1:e9 g->cg u=false->v=u) (h2:¬ e9 g->v=undef) :
  Rel ds (⟨t,g,ch⟩ :: es) (s.put (some t) u) (a.put (some t) v):=by
 have hne:∀ i,(jr es i).isSome=true->t≠i:=by
  rintro i hi rfl;cases hf:jr es t<;>simp [hf] at hn hi
 have hsa:∀ i,i≠t->(s.put (some t) u).get i=s.get i:=λi hi=>by rw [Pa,if_neg (by rintro ⟨h,_⟩;cases h;exact hi rfl)]
 have aVV:∀ i,i≠t->(a.put (some t) v).tmps.getD i undef=a.tmps.getD i undef:=λi hi=>by rw [Yn,if_neg (by rintro ⟨h,_⟩;cases h;exact hi rfl)]
 have hst:(s.put (some t) u).get t=u:=by rw [Pa,if_pos ⟨rfl,ht⟩]
 have FQ:(a.put (some t) v).tmps.getD t undef=v:=by rw [Yn,if_pos ⟨rfl,by rw [hr.size];exact ht⟩]
 have hold:∀ ch',(∀ p∈ch',(jr es p.1).isSome=true)->(Holds s ch' ↔ Holds (s.put (some t) u) ch'):=by
  intro ch' hc;constructor
  .intro h p hp;rw [hsa _ (λe=>hne _ (hc p hp) e.symm)];exact h p hp
  .intro h p hp;rw [<-hsa p.1 (λe=>hne _ (hc p hp) e.symm)];exact h p hp
 refine ⟨by rw [put_defers];exact hr.defers,by rw [aH5,Pb];exact hr.size,λi=>?_,λi e he=>?_⟩
 .rw [W3];by_cases hi:t=i
  .subst hi;rw [if_pos rfl];simp only;rw [hst,FQ];exact ⟨h1,h2⟩
  .rw [if_neg hi,hsa i (λe=>hi e.symm),aVV i (λe=>hi e.symm)];exact hr.slot i
 .rw [W3] at he;have hs':∀ p:Nat × Bool,(jr es p.1).isSome=true->(jr (⟨t,g,ch⟩ :: es) p.1).isSome=true:=by
   intro p hp;rw [W3];split;rfl;exact hp
  split at he
  .cases he;exact ⟨hg.trans (hold ch FU),λp hp=>hs' p (FU p hp)⟩
  .obtain ⟨h3,h4⟩:=hr.chain i e he;exact ⟨h3.trans (hold e.chain h4),λp hp=>hs' p (h4 p hp)⟩
theorem aYF{P:Program}{d:Bool}{o:Oper}{τ:Operand->Value}{w:World}{g:Option Bool}{K:Value->Prop}(h:Yv P d o τ w g K):
  ∃ v,(e9 g->∀ w',iS d w w'->Oper.quietUpon P (iS d w) w' v ((execOp τ o).run P w'))/\K v:=by
 unfold Yv at h;split at h
 .rename_i c hop;split at h
  .rename_i f hc;split at h
   .rename_i fid first captured hf
    split at h
    .rename_i fn hfn;split at h
     .rename_i hb;rw [show (first.toList++c.args.toList.map τ++captured.toList).toArray=first++c.args.map τ++captured by apply Array.ext';simp] at h;obtain ⟨vs,h1,h2⟩:=Rd h;refine ⟨_,λhg w' hw=>?_,h2⟩;have h3:=iJ h1 hg w' hw;have hb':fn.body.isNone=false:=by cases hh:fn.body<;>simp_all
      simp only [execOp,hop,resolve,hc,Sem.run_bind,Deferred.ofValue,hf,Sem.run_pure,Result.andThen,invoke,callFunc,program,Sem.run,hfn,hb.2,hb',Bool.false_eq_true,if_false];exact ⟨rfl,h3⟩
     .exact h.elim
    .exact h.elim
   .exact h.elim
  .exact h.elim
 .exact h.elim
theorem aIV{P:Program}{wr d:Bool}{es:List gR}{o:Oper}{s:Fr}{a:Act}{w:World}{g:Option Bool}{ch:List (Nat × Bool)}{K:Value->Prop}
  (h:Da P wr d es o s w g ch K) (hr:Rel ds es s a) (hg:e9 g ↔ Holds s ch) :
  ∃ u,(e9 g->∃ v,(cg u=false->v=u)/\∀ w',iS d w w'->o.quietAt P a (iS d w) w' v)/\K u:=by
 unfold Da at h;split at h
 .rename_i c x y hop;split at h
  .rename_i hc;split at h
   .rename_i b hb;split at h
    .rename_i hxy;have main:e9 g->∃ v,(v=if b=true then s.eval x else s.eval y)/\∀ w',iS d w w'->o.quietAt P a (iS d w) w' v:=by
      intro dH;have hh:=hg.1 dH;have fZ:a.eval c=.bool b:=by rw [AQ hc hr hh,hb]
      have ext:∀ (b':Bool),b=b'->Holds s (W2 c b' ch):=by
       intro b' e;subst e;cases c<;>try exact hh
       rename_i t;intro p hp;rcases List.mem_cons.1 hp with rfl|hp
       .exact hb
       .exact hh p hp
      refine ⟨_,rfl,λw' _=>?_⟩;unfold Oper.quietAt;simp only [execOp,hop,fZ,asBool,Sem.run_bind,Sem.run_pure,Result.andThen,Oper.quietUpon];refine ⟨trivial,?_⟩;cases b with
      | true =>
       have:=AQ (x:=x) hxy.1 hr (ext true rfl);simpa using this
      | false =>
       have:=AQ (x:=y) hxy.2 hr (ext false rfl);simpa using this
     split at h
     .rename_i y' u q hy;refine ⟨_,λdH=>?_,h⟩;obtain ⟨v,hv,hq⟩:=main dH;refine ⟨v,λ_=>?_,hq⟩;rw [hv];cases b
      .simpa using hy
      .rfl
     .rename_i x' u q hx _;refine ⟨_,λdH=>?_,h⟩;obtain ⟨v,hv,hq⟩:=main dH;refine ⟨v,λ_=>?_,hq⟩;rw [hv];cases b
      .rfl
      .simpa using hx
     .refine ⟨_,λdH=>?_,h⟩;obtain ⟨v,hv,hq⟩:=main dH;exact ⟨v,λ_=>hv,hq⟩
    .exact h.elim
   .exact h.elim
  .exact h.elim
 .split at h
  .rename_i ho;have hex:e9 g->execOp a.eval o=execOp s.eval o:=by
    intro dH;refine execOp_congr o (λcs b e=>by have:=ho.2;simp [uO,e] at this) λx hx=>AQ (List.all_eq_true.1 ho.1 x (by simpa using hx)) hr (hg.1 dH)
   split at h
   .rename_i p hp;obtain ⟨v,h1,h2⟩:=RI hp h;refine ⟨v,λdH=>⟨v,λ_=>rfl,λw' hw=>?_⟩,h2⟩;unfold Oper.quietAt;rw [hex dH,h1 dH w' hw.heap];exact ⟨rfl,rfl⟩
   .obtain ⟨v,h1,h2⟩:=aYF h;refine ⟨v,λdH=>⟨v,λ_=>rfl,λw' hw=>?_⟩,h2⟩;unfold Oper.quietAt;rw [hex dH];exact h1 dH w' hw
  .exact h.elim
theorem a7K(es:List gR)(s:Fr)(i:Nat):(forget es s).get i=if Bn es i=true then s.get i else w9:=FI _ _ _
theorem Rel.done{es:List gR}{s:Fr}{a:Act}(hr:Rel ds es s a):cQ ds (forget es s) a:=by
 refine ⟨hr.defers,hr.size,λi hi=>?_⟩;rw [a7K] at hi ⊢;split at hi
 .rename_i hf;rw [if_pos hf];have h3:=hr.slot i;unfold Bn at hf;cases he:jr es i with
  | none=>rw [he] at h3;exact h3 hi
  | some e =>
   rw [he] at h3 hf;simp only at hf;have hg:e9 e.g:=by cases ad9:e.g<;>simp_all [e9]
   exact h3.1 hg hi
 .cases hi
theorem a7L{D:Nat->Prop}{s0:Fr}{es:List gR}{s:Fr}(h:aR D s0 s):aR D s0 (forget es s):=by
 refine ⟨h.1,λi hi hu=>?_⟩;rw [a7K] at hu ⊢;split at hu
 .rename_i hf;rw [if_pos hf];exact h.2 i hi hu
 .cases hu
theorem Mj{P:Program}{wr:Nat->Bool}{d:Bool}{ops:Array Oper}{w:World}{K:Fr->Prop}{Q:Act->Prop}{D:Nat->Prop}{s0:Fr}(hK:∀ s a,K s->cQ ds s a->aR D s0 s->Q a):
  ∀ (l:List Oper) (es:List gR) (s:Fr) (a:Act),(∀ o∈l,∀ t,o.dst=some t->D t)->(∀ e∈es,D e.slot/\e.slot<s.n)->Mi P wr d ops w l es s K->Rel ds es s a->aR D s0 s->wpQuiet P ops (iS d w) Q l a
 | [],es,s,a,_,_,h,hr,hu=>hK _ _ h hr.done (a7L hu)
 | o :: rest,es,s,a,hl,he,h,hr,hu=>by
  have hl':∀ o∈rest,∀ t,o.dst=some t->D t:=λo ho=>hl o (List.mem_cons_of_mem _ ho);unfold Mi at h;split at h
  .rename_i g ch t hgd ht;split at h
   .rename_i hc;obtain ⟨h1,h2,h3⟩:=a7X hgd hr;obtain ⟨u,h4,h5⟩:=aIV h hr h2;have hd:D t:=hl o (by simp) t ht;have htn:t<s.n:=by simpa using hc.2
    have he':∀ e∈(⟨t,g,ch⟩:gR) :: es,D e.slot/\e.slot<(s.put (some t) u).n:=λe hx=>by
     rw [Pb];rcases List.mem_cons.1 hx with rfl|hx
     .exact ⟨hd,htn⟩
     .exact he e hx
    have aF:aR D s0 (s.put (some t) u):=hu.put (λt' e=>by cases e;exact hd) _;unfold wpQuiet;by_cases dH:e9 g
    .rw [if_pos (h1.2 dH)];obtain ⟨v,h6,h7⟩:=h4 dH;refine ⟨v,h7,?_⟩;rw [ht];exact Mj hK rest _ _ _ hl' he' h5 (hr.put hc.1 htn h2 h3 (λ_=>h6) (λhn=>absurd dH hn)) aF
    .rw [if_neg (λhw=>dH (h1.1 hw)),ht];exact Mj hK rest _ _ _ hl' he' h5 (hr.put hc.1 htn h2 h3 (λhh=>absurd hh dH) (λ_=>rfl)) aF
   .exact h.elim
  .exact h.elim
theorem NQ{P:Program}{ops:Array Oper}{C:World->Prop}{Qa:Act->Prop}{Q:Exit->Act->World->Prop}(hQ:∀ a w,C w->Qa a->Q .normal a w):
  ∀ (l:List Oper) (a:Act) (w:World),C w->wpQuiet P ops C Qa l a->wpList P ops Q l a w
 | [],a,w,hw,h=>hQ a w hw h
 | o :: rest,a,w,hw,h=>by
  unfold wpQuiet at h;unfold wpList;split
  .rename_i cN;rw [if_pos cN] at h;exact .inl (Oper.wp_of_quiet hw (λa' w' hw' ha=>NQ hQ rest a' w' hw' ha) h)
  .rename_i cN;rw [if_neg cN] at h;exact NQ hQ rest _ _ hw h
theorem Rel.start{s:Fr}{a:Act}(h:cQ ds s a):Rel ds [] s a:=⟨h.defers,h.size,λi=>h.slot i,λi e he=>(by cases he)⟩
def Rk(P:Program)(wr:Nat->Bool)(d:Bool)(ops:Array Oper)(s:Fr)(w:World)(K:Fr->World->Prop):Prop :=
 match d with
 | false=>Mi P wr false ops w ops.toList [] s λs'=>K s' w
 | true=>Mi P wr true ops w ops.toList [] s λs'=>∀ n,K s' (w.drewN n)
theorem aYz{P:Program}{wr:Nat->Bool}{d:Bool}{ops:Array Oper}{s:Fr}{a:Act}{w:World}{K:Fr->World->Prop}{Q:Exit->Act->World->Prop}{id:Nat}{D:Nat->Prop}
  (hD:∀ o∈ops.toList,∀ t,o.dst=some t->D t)
  (h:Rk P wr d ops s w K) (hs:cQ ds s a) (hK:∀ s' a w,K s' w->cQ ds s' a->aR D s s'->Q .normal a w):(Code.region id ops false).wp P Q a w:=by
 refine wp_region_list ?_;cases d with
 | false =>
  refine NQ (C:=iS false w) (Qa:=λa'=>Q .normal a' w) (λa' w' hw' hq=>by cases hw';exact hq) _ _ _ rfl ?_;exact Mj (λs' a' hk hs' hu=>hK _ _ _ hk hs' hu) _ _ _ _ hD (λe he=>(by cases he)) h (Rel.start hs) (aR.refl _ _)
 | true =>
  refine NQ (C:=iS true w) (Qa:=λa'=>∀ w',iS true w w'->Q .normal a' w') (λa' w' hw' hq=>hq w' hw') _ _ _ ⟨0,rfl⟩ ?_;exact Mj (λs' a' hk hs' hu=>λw' ⟨n,hn⟩=>by rw [hn];exact hK _ _ _ (hk n) hs' hu) _ _ _ _ hD (λe he=>(by cases he)) h (Rel.start hs) (aR.refl _ _)
theorem aYy{P:Program}{wr:Nat->Bool}{ops:Array Oper}{s:Fr}{a:Act}{w:World}{K:Fr->World->Prop}{Q:Exit->Act->World->Prop}{id:Nat}{D:Nat->Prop}
  (hm:P.follows .mixedOrders=true) (hB:Region.lexB .any ops=true)
  (hD:∀ o∈ops.toList,∀ t,o.dst=some t->D t)
  (h:Rk P wr true ops s w K) (hs:cQ ds s a) (hK:∀ s' a w,K s' w->cQ ds s' a->aR D s s'->Q .normal a w):(Code.region id ops true).wp P Q a w:=by
 have h1:=Mj (Q:=λa'=>∀ w',(∃ n,w'=w.drewN n)->Q .normal a' w') (λs' a' hk hs' hu=>λw' ⟨n,hn⟩=>by rw [hn];exact hK _ _ _ (hk n) hs' hu) _ _ _ _ hD (λe he=>(by cases he)) h (Rel.start hs) (aR.refl _ _);rw [show iS true w=λw'=>∃ n,w'=w.drewN n from rfl] at h1;have h2:=wp_region_quiet_lit (P:=P) (id:=id) (Q:=Q) (a:=a) (w:=w) (l:=ops.toList) hm (by simpa using hB) (by simpa using h1);simpa using h2
end Go.Vc
end

section
namespace Go.Vc
variable {ds:List Deferred}
def Wd(P:Program)(wr:Bool)(o:Oper)(s:Fr)(w:World)(S:World->Prop)(K:Value->Prop):Prop :=
 match o.op with
 | .pick c x y=>match s.eval c with
  | .bool b=>U b (K (s.eval x)) (K (s.eval y))
  | _=>False
 | _=>match A8 s o&&uO o with
  | true=>match ir P o s.eval K with
   | false=>match jc P wr o s.eval w none K with
    | some p=>p
    | none=>False
   | true=>uU P o.type λv=>(∀ w',S w'->match jc P wr o s.eval w' none (λu=>u=v) with
    | some p=>p
    | none=>False)/\K v
  | false=>False
theorem aVl{P:Program}{wr:Bool}{o:Oper}{s:Fr}{a:Act}{w:World}{S:World->Prop}{K:Value->Prop}(h:Wd P wr o s w S K)(hs:cQ ds s a):
  ∃ v v',K v/\(cg v=false->v'=v)/\∀ w',S w'->(execOp a.eval o).run P w'=.ok (.value v') w':=by
 unfold Wd at h;split at h
 .rename_i c x y hop;split at h
  .rename_i b hc;have fZ:a.eval c=.bool b:=by rw [hs.eval (by rw [hc];rfl),hc]
   cases b with
   | true=>exact ⟨_,a.eval x,h,λhu=>hs.eval hu,λw' _=>by simp only [execOp,hop,fZ,asBool,Sem.run_bind,Sem.run_pure,Result.andThen,if_true]⟩
   | false=>exact ⟨_,a.eval y,h,λhu=>hs.eval hu,λw' _=>by simp [execOp,hop,fZ,asBool,Sem.run_bind,Sem.run_pure,Result.andThen]⟩
  .exact h.elim
 .split at h
  .rename_i ho;simp only [Bool.and_eq_true] at ho;rw [Bl hs ho.1 ho.2];split at h
   .rename_i hh;split at h
    .rename_i p hp;obtain ⟨v,h1,h2⟩:=Yw hp h;exact ⟨v,v,h2,λ_=>rfl,λw' _=>h1 trivial w' λe=>by rw [hh] at e;cases e⟩
    .exact h.elim
   .obtain ⟨v,h1,h2⟩:=xm h;refine ⟨v,v,h2,λ_=>rfl,λw' hw'=>?_⟩;have h3:=h1 w' hw';split at h3
    .rename_i p hp;obtain ⟨u,h4,h5⟩:=RI hp h3;subst h5;exact h4 trivial w' rfl
    .exact h3.elim
  .exact h.elim
def K1(ops:Array Oper):List (Nat × Bool)->Array Bool->Bool
 | [],listed=>(Region.ready .any ops listed).isEmpty
 | (i,still) :: rest,listed=>(match still with
   | true=>(Region.ready .any ops listed).contains i&&Region.free .any ops listed i
   | false=>Region.ready .any ops listed == [i])&&K1 ops rest (listed.setIfInBounds i true)
def Rm(P:Program)(wr:Bool)(o:Oper)(still:Bool)(s:Fr)(w:World)(S:World->Prop)(K:Value->World->Prop):Prop :=
 match still with
 | true=>Wd P wr o s w S λv=>K v w
 | false=>G9 P wr (λ_=>none) o s w λv w'=>S w'/\K v w'
def vO(P:Program)(wr:Nat->Bool)(ops:Array Oper)(S:World->Prop):List (Nat × Bool)->Fr->World->(Fr->World->Prop)->Prop
 | [],s,w,K=>K s w
 | (i,still) :: rest,s,w,K =>
  match ops[i]? with
  | none=>False
  | some o =>
   let go (s:Fr):Prop:=Rm P (wr (o.dst.getD 0)) o still s w S λv w'=>vO P wr ops S rest (s.put o.dst v) w' K
   match o.guard with
   | none=>go s
   | some (j,want) =>
    let d:=(ops[j]?).bind (·.dst)
    let on (b:Bool):Prop:=match b == want with
     | true=>go (s.put d (.bool b))
     | false=>vO P wr ops S rest ((s.put d (.bool b)).put o.dst undef) w K
    match Ij s d with
    | some c=>U c (on true) (on false)
    | none=>False
def dF(Q:Exit->Act->World->Prop):Exit->Act->World->Prop
 | .panic _,_,_=>False
 | e,a,w=>Q e a w
theorem a62{Q:Exit->Act->World->Prop}:∀ e a w,dF Q e a w->Q e a w:=λe a w h=>by
 cases e<;>first|exact h|exact h.elim
theorem a86{P:Program}{wr:Nat->Bool}{ops:Array Oper}{S:World->Prop}{Q:Exit->Act->World->Prop}{K:Fr->World->Prop}{D:Nat->Prop}{s0:Fr}(hsel:Region.noSelect ops=true)
  (hD:∀ (j:Nat) (o:Oper) (t:Nat),ops[j]? = some o->o.dst=some t->D t) (hK:∀ s a w,K s w->cQ ds s a->aR D s0 s->Q .normal a w) :
  ∀ (l:List (Nat × Bool)) (listed:Array Bool) (s:Fr) (a:Act) (w:World),K1 ops l listed=true->vO P wr ops S l s w K->S w->cQ ds s a->aR D s0 s->wpAnyH P .any ops (dF Q) S l.length listed a w
 | [],listed,s,a,w,ho,h,hS,hs,hu=>by
  refine ⟨?_,hK _ _ _ h hs hu⟩;simpa [K1] using ho
 | (i,still) :: rest,listed,s,a,w,ho,h,hS,hs,hu=>by
  simp only [K1,Bool.and_eq_true] at ho;obtain ⟨bq,eF⟩:=ho;unfold vO at h;split at h
  .exact h.elim
  rename_i o hi;have hd:∀ t,o.dst=some t->D t:=λt ht=>hD i o t hi ht;have next:∀ (s':Fr) (v v':Value) (w':World),cQ ds s' a->aR D s0 s'->S w'->(cg v=false->v'=v)->vO P wr ops S rest (s'.put o.dst v) w' K ->
    wpAnyH P .any ops (dF Q) S rest.length (listed.setIfInBounds i true) (a.put o.dst v') w':=λs' v v' w' hs' aF FO hv hk =>
   a86 hsel hD hK rest _ _ _ _ eF hk FO (hs'.put _ hv) (aF.put hd _)
  have go:∀ s',cQ ds s' a->aR D s0 s'->Region.wanted o (yielded ops a.tmps)=true->(Rm P (wr (o.dst.getD 0)) o still s' w S λv w'=>vO P wr ops S rest (s'.put o.dst v) w' K)->wpAnyH P .any ops (dF Q) S (rest.length+1) listed a w:=by
   intro s' hs' aF hw hk;unfold Rm at hk;cases still with
   | true =>
    simp only [Bool.and_eq_true] at bq;obtain ⟨v,v',h1,h2,h3⟩:=aVl hk hs';exact wpAnyH_take hi hsel bq.2 bq.1 (λ_ _ _ h=>h) (.inl ⟨hw,h3⟩) hS (next s' v v' w hs' aF hS h2 h1)
   | false =>
    simp only [beq_iff_eq] at bq;refine wpAnyH_all bq (by simp) λj hj=>?_;have hj:j=i:=by simpa using hj
    subst hj;unfold wpOp;simp only [hi,hw,if_true];exact .inl (Oper.y9 (aEO hk hs' λv v' w' ⟨FO,hk'⟩ hv=>⟨FO,next s' v v' w' hs' aF FO hv hk'⟩))
  have skip:∀ s',cQ ds s' a->aR D s0 s'->Region.wanted o (yielded ops a.tmps)=false->vO P wr ops S rest (s'.put o.dst undef) w K->wpAnyH P .any ops (dF Q) S (rest.length+1) listed a w:=by
   intro s' hs' aF hw hk;have hn:=next s' undef undef w hs' aF hS (λ_=>rfl) hk
   cases still with
   | true =>
    simp only [Bool.and_eq_true] at bq;exact wpAnyH_take hi hsel bq.2 bq.1 (λ_ _ _ h=>h) (.inr ⟨hw,rfl⟩) hS hn
   | false =>
    simp only [beq_iff_eq] at bq;refine wpAnyH_all bq (by simp) λj hj=>?_;have hj:j=i:=by simpa using hj
    subst hj;unfold wpOp;simp only [hi,hw,Bool.false_eq_true,if_false];exact ⟨hS,hn⟩
  show wpAnyH P .any ops (dF Q) S (rest.length+1) listed a w;simp only at h;split at h
  .rename_i hg;exact go s hs hu (by simp [Region.wanted,hg]) h
  .rename_i j want hg;split at h
   .rename_i c hc;obtain ⟨k,hk,hlt,hv,a8b⟩:=UU hs hc;have hy:yielded ops a.tmps j=some c:=by
     unfold yielded;rw [hk];simp only [Option.bind_some];rw [Array.getD_eq_getD_getElem?] at hv;simp only [hlt,getElem?_pos,Option.getD_some] at hv;simp [hlt,hv]
    have hw:Region.wanted o (yielded ops a.tmps)=(c == want):=by simp [Region.wanted,hg,hy]
    have hs':cQ ds (s.put ((ops[j]?).bind (·.dst)) (.bool c)) a:=by
     have:=hs.put ((ops[j]?).bind (·.dst)) (u:=.bool c) (v:=.bool c) (λ_=>rfl);rw [hk] at this ⊢
     rwa [Yo hlt hv] at this
    have aF:aR D s0 (s.put ((ops[j]?).bind (·.dst)) (.bool c)):=hu.put (by
     intro t ht;cases hj:ops[j]? with
     | none=>simp [hj] at ht
     | some oj=>rw [hj] at ht;exact hD j oj t hj ht) _
    have main:(match c == want with
     | true=>Rm P (wr (o.dst.getD 0)) o still (s.put ((ops[j]?).bind (·.dst)) (.bool c)) w S λv w'=>vO P wr ops S rest ((s.put ((ops[j]?).bind (·.dst)) (.bool c)).put o.dst v) w' K
     | false=>vO P wr ops S rest ((s.put ((ops[j]?).bind (·.dst)) (.bool c)).put o.dst undef) w K):=by
     clear go skip next bq
     cases c
     .exact h
     .exact h
    cases oe:c == want with
    | true=>rw [oe] at main;exact go _ hs' aF (by rw [hw,oe]) main
    | false=>rw [oe] at main;exact skip _ hs' aF (by rw [hw,oe]) main
   .exact h.elim
def Wc(P:Program)(wr:Nat->Bool)(ops:Array Oper)(ord:List (Nat × Bool))(s:Fr)(w:World)(K:Fr->World->Prop):Prop :=
 match P.follows .mixedOrders&&Region.noSelect ops&&K1 ops ord (Array.replicate ops.size false)&&Nat.beq ord.length ops.size with
 | true=>∃ S:World->Prop,∀ w1,w1=w.drewN 1->S w1/\vO P wr ops S ord s w1 K
 | false=>False
theorem aVj{P:Program}{wr:Nat->Bool}{ops:Array Oper}{ord:List (Nat × Bool)}{s:Fr}{a:Act}{w:World}{K:Fr->World->Prop}{Q:Exit->Act->World->Prop}{id:Nat}{D:Nat->Prop}
  (hD:∀ (j:Nat) (o:Oper) (t:Nat),ops[j]? = some o->o.dst=some t->D t)
  (h:Wc P wr ops ord s w K) (hs:cQ ds s a) (hK:∀ s' a w,K s' w->cQ ds s' a->aR D s s'->Q .normal a w):(Code.region id ops true).wp P Q a w:=by
 unfold Wc at h;split at h
 .rename_i hc;simp only [Bool.and_eq_true,Nat.beq_eq] at hc;obtain ⟨⟨⟨h1,h2⟩,h3⟩,h4⟩:=hc;obtain ⟨S,h⟩:=h;obtain ⟨h5,h6⟩:=h _ rfl;refine wp_mono (wp_region_held (Q:=dF Q) (S:=S) h1 ?_) a62;have h7:=a86 h2 hD hK ord _ _ _ _ h3 h6 h5 hs (aR.refl _ _);rw [h4] at h7;exact h7
 .exact h.elim
end Go.Vc
end

section
namespace Go.Vc
variable {ds:List Deferred}
section
variable {P:Program}{ops:Array Oper}{Q:Exit->Act->World->Prop}{md:Region.Mode}{S:World->Prop}{E:Array Bool->Prop}{K:Act->World->Prop}
def nL(P:Program)(md:Region.Mode)(ops:Array Oper)(Q:Exit->Act->World->Prop)(S:World->Prop)(E:Array Bool->Prop)(K:Act->World->Prop):Nat->Array Bool->Act->World->Prop
 | 0,listed,a,w=>E listed/\K a w
 | n+1,listed,a,w=>Region.ready md ops listed≠[]/\∀ i∈Region.ready md ops listed,wpOp P ops Q i (λa' w'=>S w'/\nL P md ops Q S E K n (listed.setIfInBounds i true) a' w') a w
theorem NP{m:Nat}(hK:∀ listed a w,E listed->K a w->wpAny P md ops Q m listed a w):∀ (n:Nat) (listed:Array Bool) (a:Act) (w:World),nL P md ops Q S E K n listed a w->wpAny P md ops Q (n+m) listed a w
 | 0,listed,a,w,h=>by rw [Nat.zero_add];exact hK listed a w h.1 h.2
 | n+1,listed,a,w,h=>by
  rw [show n+1+m=(n+m)+1 by omega];exact ⟨λh0=>absurd h0 h.1,λi hi=>wpOp_mono (λa' w' h'=>NP hK n _ a' w' h'.2) (h.2 i hi)⟩
theorem aKn{i:Nat}{oi:Oper}{v:Value}(hi:ops[i]? = some oi)(hsel:∀ (j:Nat) (o:Oper) cs b,ops[j]? = some o->o.op≠.select cs b)
  (hQ:∀ c a w,Q (.panic c) (a.put oi.dst v) w->Q (.panic c) a w) (hE:∀ listed,E (listed.setIfInBounds i true)->i∈Region.ready md ops listed->∀ j∈Region.ready md ops listed,j=i) :
  ∀ (n:Nat) (listed:Array Bool) (a:Act) (w:World),
   (∀ j oj,ops[j]? = some oj->j≠i->listed.getD j true=false->(∀ e∈oj.after,Region.binds md e=true->e.on≠i)->oi.apart ops oj=true) ->
   i∈Region.ready md ops listed->YieldsIf P ops S oi v a->S w ->
   nL P md ops Q S E K n (listed.setIfInBounds i true) (a.put oi.dst v) w->nL P md ops Q S E K (n+1) listed a w:=by
 intro n
 induction n with
 | zero =>
  intro listed a w _ hr hy hS H;refine ⟨λh=>(by rw [h] at hr;cases hr),λj hj=>?_⟩;have:=hE listed H.1 hr j hj;subst this;exact hy.wpOp hi hS ⟨hS,H⟩
 | succ n ih =>
  intro listed a w hfree hr hy hS H;refine ⟨λh=>(by rw [h] at hr;cases hr),λj hj=>?_⟩;by_cases hji:j=i
  .subst hji;exact hy.wpOp hi hS ⟨hS,H⟩
  .have h1:=H.2 j (ready_mono hj hji);obtain ⟨zZ,oj,tw,hall⟩:=mem_ready.1 hj;have hnot:∀ e∈oj.after,Region.binds md e=true->e.on≠i:=λe he hb heq=>by
    have h1:=hall e he hb;have h0:=(mem_ready.1 hr).1;rw [heq] at h1;rcases Nat.lt_or_ge i listed.size with h'|h'
    .simp [h'] at h0 h1;rw [h0] at h1;cases h1
    .simp [Array.getElem?_eq_none h'] at h1
   have h2:=wpOp_putIf tw (hfree j oj tw hji zZ hnot) (λcs b=>hsel i oi cs b hi) (λcs b=>hsel j oj cs b tw) hQ hy h1;have K6:∀ k ok,ops[k]? = some ok->k≠i->(listed.setIfInBounds j true).getD k true=false ->
     (∀ e∈ok.after,Region.binds md e=true->e.on≠i)->oi.apart ops ok=true:=λk ok hk hki hun hno=>by
    refine hfree k ok hk hki ?_ hno;by_cases og:j=k
    .subst og;exact zZ
    .rw [getD_set_ne true og] at hun;exact hun
   refine wpOp_mono (λa' w' h3=>⟨h3.2.1,ih (listed.setIfInBounds j true) a' w' K6 (ready_mono hr (Ne.symm hji)) h3.1 h3.2.1 ?_⟩) h2;rw [Array.setIfInBounds_comm _ _ hji];exact h3.2.2
end
def Ft(ops:Array Oper)(T:List Nat)(fin:Array Bool):Bool:=T.all λi=>Region.ready .any ops (fin.setIfInBounds i false) == [i]
def cO:List Nat->Array Bool->Array Bool
 | [],l=>l
 | i :: r,l=>cO r (l.setIfInBounds i true)
def pF(ops:Array Oper):List Nat->Array Bool->Bool
 | [],_=>true
 | i :: r,listed=>(Region.ready .any ops listed).contains i&&Region.free .any ops listed i&&pF ops r (listed.setIfInBounds i true)
section
variable {P:Program}{ops:Array Oper}{Q:Exit->Act->World->Prop}{md:Region.Mode}{S:Array Bool->World->Prop}{rd:Nat->Bool}{E:Array Bool->Prop}{K:Act->World->Prop}
def nK(P:Program)(md:Region.Mode)(ops:Array Oper)(Q:Exit->Act->World->Prop)(S:Array Bool->World->Prop)(rd:Nat->Bool)(E:Array Bool->Prop)(K:Act->World->Prop):Nat->Array Bool->Act->World->Prop
 | 0,listed,a,w=>E listed/\K a w
 | n+1,listed,a,w=>Region.ready md ops listed≠[]/\∀ i∈Region.ready md ops listed,wpOp P ops Q i (λa' w'=>S (listed.setIfInBounds i true) w'/\(rd i=true->w'=w)/\nK P md ops Q S rd E K n (listed.setIfInBounds i true) a' w') a w
theorem a0g(hK:∀ listed a w,E listed->K a w->wpAny P md ops Q 0 listed a w):∀ (n:Nat) (listed:Array Bool) (a:Act) (w:World),nK P md ops Q S rd E K n listed a w->wpAny P md ops Q n listed a w
 | 0,listed,a,w,h=>hK listed a w h.1 h.2
 | n+1,listed,a,w,h=>⟨λh0=>absurd h0 h.1,λi hi=>wpOp_mono (λa' w' h'=>a0g hK n _ a' w' h'.2.2) (h.2 i hi)⟩
theorem abE{i:Nat}{oi:Oper}{v:Value}(hi:ops[i]? = some oi)(hsel:∀ (j:Nat) (o:Oper) cs b,ops[j]? = some o->o.op≠.select cs b)
  (hQ:∀ c a w,Q (.panic c) (a.put oi.dst v) w->Q (.panic c) a w) (hE:∀ listed,E (listed.setIfInBounds i true)->i∈Region.ready md ops listed->∀ j∈Region.ready md ops listed,j=i)
  (a82:∀ x w,i∈Region.ready md ops x->S x w->S (x.setIfInBounds i true) w)
  (hmono:∀ (x:Array Bool) (j:Nat) (w w':World),i∈Region.ready md ops x->j∈Region.ready md ops x->j≠i->S x w->(rd j=true->w'=w)->S ((x.setIfInBounds i true).setIfInBounds j true) w'->S (x.setIfInBounds j true) w') :
  ∀ (n:Nat) (listed:Array Bool) (a:Act) (w:World),
   (∀ j oj,ops[j]? = some oj->j≠i->listed.getD j true=false->(∀ e∈oj.after,Region.binds md e=true->e.on≠i)->oi.apart ops oj=true) ->
   i∈Region.ready md ops listed->YieldsIf P ops (λw=>∃ x,i∈Region.ready md ops x/\S x w) oi v a->S listed w ->
   nK P md ops Q S rd E K n (listed.setIfInBounds i true) (a.put oi.dst v) w->nK P md ops Q S rd E K (n+1) listed a w:=by
 intro n
 induction n with
 | zero =>
  intro listed a w _ hr hy hS H;refine ⟨λh=>(by rw [h] at hr;cases hr),λj hj=>?_⟩;have:=hE listed H.1 hr j hj;subst this;exact hy.wpOp hi ⟨listed,hr,hS⟩ ⟨a82 _ _ hr hS,λ_=>rfl,H⟩
 | succ n ih =>
  intro listed a w hfree hr hy hS H;refine ⟨λh=>(by rw [h] at hr;cases hr),λj hj=>?_⟩;by_cases hji:j=i
  .subst hji;exact hy.wpOp hi ⟨listed,hr,hS⟩ ⟨a82 _ _ hr hS,λ_=>rfl,H⟩
  .have h1:=H.2 j (ready_mono hj hji);obtain ⟨zZ,oj,tw,hall⟩:=mem_ready.1 hj;have hnot:∀ e∈oj.after,Region.binds md e=true->e.on≠i:=λe he hb heq=>by
    have h1:=hall e he hb;have h0:=(mem_ready.1 hr).1;rw [heq] at h1;rcases Nat.lt_or_ge i listed.size with h'|h'
    .simp [h'] at h0 h1;rw [h0] at h1;cases h1
    .simp [Array.getElem?_eq_none h'] at h1
   have h2:=wpOp_putIf tw (hfree j oj tw hji zZ hnot) (λcs b=>hsel i oi cs b hi) (λcs b=>hsel j oj cs b tw) hQ hy h1;have K6:∀ k ok,ops[k]? = some ok->k≠i->(listed.setIfInBounds j true).getD k true=false ->
     (∀ e∈ok.after,Region.binds md e=true->e.on≠i)->oi.apart ops ok=true:=λk ok hk hki hun hno=>by
    refine hfree k ok hk hki ?_ hno;by_cases og:j=k
    .subst og;exact zZ
    .rw [getD_set_ne true og] at hun;exact hun
   refine wpOp_mono (λa' w' h3=>?_) h2;obtain ⟨hy',FO,hrd,C4⟩:=h3;have a7k:=hmono listed j w w' hr hj hji hS hrd FO;refine ⟨a7k,hrd,ih (listed.setIfInBounds j true) a' w' K6 (ready_mono hr (Ne.symm hji)) hy' a7k ?_⟩;rw [Array.setIfInBounds_comm _ _ hji];exact C4
end
end Go.Vc
end

