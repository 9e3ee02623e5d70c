/-
 THE CONDITIONS OF A WALK AS ONE FORMULA: the operations. 'vcOp' says,for one operation in a known frame,what must hold of the memory so that the walk can go on;'vcOp_sound' says that this suffices.
-/
import Derived.WalkKit
import Derived.WalkSpells
import Derived.WalkLawsBesides
import Derived.Deep.QuietTactic
import Derived.Laws.StructEq
import Derived.OrdersHeld
import Derived.ProofKit
import Derived.Laws.AppendOwn

set_option linter.unusedVariables false
set_option linter.unusedSimpArgs false
section
namespace Go.Vc
open Go.RowKit
inductive Sc where
 | int (k:IntKind)|bool|str|ptr|slice|map|fn|any|adr
def Sc.ex:Sc->(Value->Prop)->Prop
 | .int k,K=>∃ n:Int,K (.int k n)
 | .bool,K=>∃ b:Bool,K (.bool b)
 | .str,K=>∃ s:ByteArray,K (.string s)
 | .ptr,K=>∃ p:Option Addr,K (.pointer p)
 | .slice,K=>∃ p:Option Addr,∃ n c:Nat,K (.slice p n c)
 | .map,K=>∃ r:Option Nat,K (.map r)
 | .fn,K=>∃ (f:FuncId) (a c:Array Value),K (.func (.func f) a c)
 | .any,K=>∃ v:Value,K v
 | .adr,K=>∃ b o:Nat,K (.pointer (some ⟨b,o,none⟩))
theorem Sc.CF {s:Sc} {K:Value->Prop} (h:s.ex K):∃ v,K v:=by
 cases s<;>simp only [Sc.ex] at h
 case slice=>obtain ⟨p,n,c,h⟩:=h;exact ⟨_,h⟩
 case fn=>obtain ⟨p,a,c,h⟩:=h;exact ⟨_,h⟩
 case adr=>obtain ⟨b,o,h⟩:=h;exact ⟨_,h⟩
 all_goals (obtain ⟨x,h⟩:=h;exact ⟨_,h⟩)
def Sc.of:Value->Sc
 | .int k _=>.int k
 | .bool _=>.bool
 | .string _=>.str
 | .pointer _=>.ptr
 | .slice _ _ _=>.slice
 | .map _=>.map
 | _=>.any
inductive Sh where
 | one (s:Sc)|agg (l:List Sc)
def Sh.of:Value->Sh
 | .agg cs=>.agg (cs.toList.map Sc.of)
 | .nilFunc=>.one .fn
 | v=>.one (Sc.of v)
def shape (P:Program) (t:TypeId):Option Sh:=(P.info? t).bind λi=>i.zero.map Sh.of
def exL:List Sc->(List Value->Prop)->Prop
 | [],K=>K []
 | s :: r,K=>s.ex λv=>exL r λvs=>K (v :: vs)
theorem a1J:∀ {l:List Sc} {K:List Value->Prop},exL l K->∃ vs,K vs
 | [],_,h=>⟨[],h⟩
 | _ :: _,_,h=>by
  obtain ⟨v,h⟩:=Sc.CF h
  obtain ⟨vs,h⟩:=a1J h
  exact ⟨_,h⟩
theorem a6s:∀ {l:List Sc} {K:List Value->Prop},exL l K->∃ vs,vs.length=l.length/\K vs
 | [],_,h=>⟨[],rfl,h⟩
 | _ :: _,_,h=>by
  obtain ⟨v,h⟩:=Sc.CF h
  obtain ⟨vs,hl,h⟩:=a6s h
  exact ⟨_,by simp [hl],h⟩
def Sh.ex:Sh->(Value->Prop)->Prop
 | .one s,K=>s.ex K
 | .agg l,K=>exL l λvs=>K (.agg vs.toArray)
theorem Sh.CF {s:Sh} {K:Value->Prop} (h:s.ex K):∃ v,K v:=by
 cases s with
 | one s=>exact Sc.CF h
 | agg l=>obtain ⟨vs,h⟩:=a1J h;exact ⟨_,h⟩
def NS (P:Program) (t:TypeId) (K:Value->Prop):Prop :=
 match shape P t with
 | some s=>s.ex K
 | none=>∃ v,K v
theorem zD {P:Program} {t:TypeId} {K:Value->Prop} (h:NS P t K):∃ v,K v:=by
 unfold NS at h
 split at h
 ·exact Sh.CF h
 ·exact h
def L6 (P:Program):List TypeId->(List Value->Prop)->Prop
 | [],K=>K []
 | t :: r,K=>NS P t λv=>L6 P r λvs=>K (v :: vs)
theorem wM {P:Program}:∀ {l:List TypeId} {K:List Value->Prop},L6 P l K->∃ vs,K vs
 | [],_,h=>⟨[],h⟩
 | _ :: _,_,h=>by
  obtain ⟨v,h⟩:=zD h
  obtain ⟨vs,h⟩:=wM h
  exact ⟨_,h⟩
def AB:List Value->Value
 | [v]=>v
 | vs=>.tuple vs.toArray
def aX7 (P:Program) (ts:List TypeId) (e:Ending) (K:Value->Prop):Prop :=
 L6 P ts λvs=>e=.returned (AB vs)/\K (AB vs)
def aAu (P:Program) (f:FuncId) (args:Array Value) (w:World) (K:Value->World->Prop):Prop :=
 match P.funcs[f]? with
 | some fn=>Calls P f args w λe w'=>aX7 P fn.resultTypes.toList e λv=>K v w'
 | none=>False
theorem a1K {P:Program} {f:FuncId} {args:Array Value} {w:World} {K:Value->World->Prop} (h:aAu P f args w K) :
  Calls P f args w λe w'=>∃ v,e=.returned v/\K v w':=by
 unfold aAu at h
 split at h
 ·refine h.mono λe w' h=>?_
  obtain ⟨vs,he,hk⟩:=wM h
  exact ⟨_,he,hk⟩
 ·exact h.elim
def aHq (P:Program) (f:FuncId) (args:Array Value) (w:World) (K:Value->World->Prop):Prop :=
 Calls P f args w λe w'=>(∃ n:Int,e=.returned (.tuple #[.int .i64 n,.nilIface])/\K (.tuple #[.int .i64 n,.nilIface]) w') \/
  ∃ (n:Int) (t:TypeId) (v:Value),e=.returned (.tuple #[.int .i64 n,.iface t v])/\K (.tuple #[.int .i64 n,.iface t v]) w'
theorem a1L {P:Program} {f:FuncId} {args:Array Value} {w:World} {K:Value->World->Prop} (h:aHq P f args w K) :
  Calls P f args w λe w'=>∃ v,e=.returned v/\K v w':=by
 refine h.mono λe w' h=>?_
 rcases h with ⟨n,he,hk⟩|⟨n,t,v,he,hk⟩
 ·exact ⟨_,he,hk⟩
 ·exact ⟨_,he,hk⟩
def aFb (n:String):Bool:=n == "strconv.Atoi"
def dH (w:World) (b o:Nat) (vs:List Value):Prop:=∀ j,(h:j<vs.length)->w.cell? ⟨b,o+j,none⟩=some vs[j]
theorem run_loadCellsFrom {P:Program} {w:World} {b o:Nat}:∀ (vs:List Value) (i:Nat) (acc:Array Value),
  (∀ j,(h:j<vs.length)->w.cell? ⟨b,o+(i+j),none⟩=some vs[j]) ->
  (loadCellsFrom ⟨b,o,none⟩ i vs.length acc).run P w=.ok (acc++vs.toArray) w
 | [],i,acc,_=>by simp [loadCellsFrom]
 | v :: vs,i,acc,h=>by
  have h0:w.cell? ((⟨b,o,none⟩:Addr).add i)=some v:=by
   have:=h 0 (by simp)
   simp only [Nat.add_zero,List.getElem_cons_zero] at this
   unfold Addr.add
   split
   ·rename_i e;subst e;simpa using this
   ·exact this
  have ih:=run_loadCellsFrom (P:=P) (w:=w) (b:=b) (o:=o) vs (i+1) (acc.push v) (λj hj=>by
   have:=h (j+1) (by simpa using hj)
   rw [show i+1+j=i+(j+1) by omega,this];simp)
  simp only [List.length_cons,loadCellsFrom,Sem.run_bind,load,Sem.run,h0,Result.andThen,Sem.run_pure',ih]
  simp
def SA:TypeDesc->Bool
 | .struct _ | .array _ _=>true
 | _=>false
theorem xB {P:Program} {t:TypeId} {d:TypeDesc} {w:World} (h:P.underlying t=some d) :
  (isAgg t).run P w=.ok (SA d) w:=by
 unfold isAgg
 simp only [Sem.run_bind,run_underlying h,Result.andThen]
 cases d<;>simp [SA]
theorem run_sizeOf {P:Program} {t:TypeId} {i:TypeInfo} {w:World} (h:P.info? t=some i):(sizeOf t).run P w=.ok i.size w:=by
 simp [sizeOf,typeInfo,h]
def pG:Value->Bool
 | .agg _ | .tuple _=>false
 | _=>true
def aE (w:World) (b o n:Nat):Prop:=∀ j,j<n->(w.cell? ⟨b,o+j,none⟩).isSome=true/\w.frozen? ⟨b,o+j,none⟩=false
theorem nH {P:Program} {b o:Nat}:∀ (vs:List Value) (i:Nat) (w:World),(∀ v∈vs,pG v=true) ->
  (∀ j,j<vs.length->(w.cell? ⟨b,o+(i+j),none⟩).isSome=true/\w.frozen? ⟨b,o+(i+j),none⟩=false) ->
  (storeCells ⟨b,o,none⟩ vs i).run P w=.ok () (w.setCells b (o+i) vs)
 | [],i,w,_,_=>by simp [storeCells,World.setCells]
 | v :: vs,i,w,h1,h2=>by
  obtain ⟨hs,hf⟩:=h2 0 (by simp)
  simp only [Nat.add_zero] at hs hf
  have ha:(⟨b,o,none⟩:Addr).add i=⟨b,o+i,none⟩:=by unfold Addr.add;split<;>simp_all
  obtain ⟨u,hu⟩:=Option.isSome_iff_exists.1 hs
  have ih:=nH (P:=P) (b:=b) (o:=o) vs (i+1) (w.setCell ⟨b,o+i,none⟩ v) (λx hx=>h1 x (by simp [hx])) (λj hj=>by
   obtain ⟨k1,k2⟩:=h2 (j+1) (by simpa using hj)
   rw [show i+(j+1)=i+1+j by omega] at k1 k2
   rw [World.frozen?_setCell]
   refine ⟨?_,k2⟩
   obtain ⟨u,hu⟩:=Option.isSome_iff_exists.1 k1
   obtain ⟨v',hv'⟩:=cell?_setCell_some (p:=⟨b,o+i,none⟩) (x:=v) hu
   simp [hv'])
  have hv:pG v=true:=h1 v (by simp)
  have hrun:((store (⟨b,o+i,none⟩:Addr) v).run P w)=.ok () (w.setCell ⟨b,o+i,none⟩ v):=by
   unfold store
   cases v<;>simp [pG] at hv<;>simp [Sem.run,hu,hf]
  simp only [storeCells,Sem.run_bind,ha,hrun,Result.andThen,ih,World.setCells]
  rw [show o+i+1=o+(i+1) by omega]
def RW (P:Program) (t:TypeId) (w:World) (b o:Nat) (v:Value) (K:World->Prop):Prop :=
 match P.info? t with
 | some i =>
  match v with
  | .agg cs=>match Nat.beq cs.toList.length i.size&&cs.toList.all pG with
   | true=>aE w b o i.size/\∀ w',w'=w.setCells b o cs.toList->K w'
   | false=>False
  | v=>match Nat.beq i.size 1&&pG v with
   | true=>aE w b o 1/\∀ w',w'=w.setCell ⟨b,o,none⟩ v->K w'
   | false=>False
 | none=>False
theorem tN {P:Program} {t:TypeId} {i:TypeInfo} {w:World} {b o:Nat} {v:Value} (hi:P.info? t=some i) (hs:i.size=1) (h0:pG v=true)
  (h1:(w.cell? ⟨b,o,none⟩).isSome=true) (h2:w.frozen? ⟨b,o,none⟩=false):(storeVar t ⟨b,o,none⟩ v).run P w=.ok () (w.setCell ⟨b,o,none⟩ v):=by
 have hcells:v.cells=#[v]:=by cases v<;>first|rfl|cases h0
 have hr:=nH (P:=P) (b:=b) (o:=o) [v] 0 w (by simpa using h0) (λj hj=>by
  have:j=0:=by simpa using hj
  subst this;exact ⟨h1,h2⟩)
 unfold storeVar
 simp only [hcells,Sem.run_bind,run_sizeOf hi,Result.andThen,hs,List.size_toArray,List.length_cons,List.length_nil,ne_eq,not_true_eq_false,if_false]
 simpa [World.setCells] using hr
theorem IJ {P:Program} {t:TypeId} {w:World} {b o:Nat} {v:Value} {K:World->Prop} (h:RW P t w b o v K) :
  ∃ w',(storeVar t ⟨b,o,none⟩ v).run P w=.ok () w'/\K w':=by
 unfold RW at h
 cases hi:P.info? t with
 | none=>rw [hi] at h;exact h.elim
 | some i =>
  rw [hi] at h
  simp only at h
  have one:(match Nat.beq i.size 1&&pG v with|true=>aE w b o 1/\∀ w',w'=w.setCell ⟨b,o,none⟩ v->K w'|false=>False) ->
    ∃ w',(storeVar t ⟨b,o,none⟩ v).run P w=.ok () w'/\K w':=by
   intro h
   split at h
   ·rename_i hc
    simp only [Bool.and_eq_true] at hc
    obtain ⟨h1,h3⟩:=h
    obtain ⟨h1,h2⟩:=h1 0 (by omega)
    exact ⟨_,tN hi (Nat.eq_of_beq_eq_true hc.1) hc.2 h1 h2,h3 _ rfl⟩
   ·exact h.elim
  cases v
  case agg cs =>
   simp only at h
   split at h
   ·rename_i hc
    simp only [Bool.and_eq_true] at hc
    have hl:cs.size=i.size:=by have:=Nat.eq_of_beq_eq_true hc.1;simpa using this
    obtain ⟨h1,h2⟩:=h
    refine ⟨_,?_,h2 _ rfl⟩
    have hr:=nH (P:=P) (b:=b) (o:=o) cs.toList 0 w (λv hv=>List.all_eq_true.1 hc.2 v hv) (λj hj=>by rw [Nat.zero_add];exact h1 j (by simp at hj;omega))
    unfold storeVar
    simp only [Value.cells,Sem.run_bind,run_sizeOf hi,Result.andThen,hl,ne_eq,not_true_eq_false,if_false]
    simpa using hr
   ·exact h.elim
  all_goals exact one h
end Go.Vc
end

section
namespace Go.Vc
open Go.RowKit
def ob (g:Option Bool) (p:Prop):Prop :=
 match g with
 | none=>p
 | some c=>c=true->p
def DX:Option Bool->Prop
 | none=>True
 | some c=>c=true
theorem iJ {g:Option Bool} {p:Prop} (h:ob g p) (hg:DX g):p:=by
 cases g with
 | none=>exact h
 | some c=>exact h hg
def aR (n:Int):Prop := -9223372036854775808<=n/\n<=9223372036854775807
theorem AZ {n:Int} (h:aR n):IntKind.i64.wrap n=n:=IntWalk.i64_in n h
def ari (wr:Bool) (g:Option Bool) (k:IntKind) (n:Int) (K:Value->Prop):Prop :=
 match k,wr with
 | .i64,false=>ob g (aR n)/\K (.int .i64 n)
 | k,_=>K (.int k (k.wrap n))
theorem B0 {wr:Bool} {g:Option Bool} {k:IntKind} {n:Int} {K:Value->Prop} (h:ari wr g k n K) :
  ∃ v,(DX g->v=.int k (k.wrap n))/\K v:=by
 unfold ari at h
 split at h
 ·exact ⟨_,λhg=>by rw [AZ (iJ h.1 hg)],h.2⟩
 ·exact ⟨_,λ_=>rfl,h⟩
def aFc (P:Program) (g:Option Bool) (s:Sem Value) (v:Value):Prop:=DX g->∀ w,s.run P w=.ok v w
def aJC (wr:Bool) (g:Option Bool) (op:BinOp) (x y:Value) (K:Value->Prop):Option Prop :=
 match op,x,y with
 | .add,.int k a,.int k' b=>if k=k' then some (ari wr g k (a+b) K) else none
 | .sub,.int k a,.int k' b=>if k=k' then some (ari wr g k (a - b) K) else none
 | .mul,.int k a,.int k' b=>if k=k' then some (ari wr g k (a*b) K) else none
 | .quo,.int k a,.int k' b=>if k=k' then some (ob g (b≠0)/\ari wr g k (a.tdiv b) K) else none
 | .rem,.int k a,.int k' b=>if k=k' then some (ob g (b≠0)/\K (.int k (a.tmod b))) else none
 | .eql,.int k a,.int k' b=>if k=k' then some (K (.bool (decide (a=b)))) else none
 | .neq,.int k a,.int k' b=>if k=k' then some (K (.bool (decide (a≠b)))) else none
 | .lss,.int k a,.int k' b=>if k=k' then some (K (.bool (decide (a<b)))) else none
 | .leq,.int k a,.int k' b=>if k=k' then some (K (.bool (decide (a<=b)))) else none
 | .gtr,.int k a,.int k' b=>if k=k' then some (K (.bool (decide (b<a)))) else none
 | .geq,.int k a,.int k' b=>if k=k' then some (K (.bool (decide (b<=a)))) else none
 | .eql,.string a,.string b=>some (K (.bool (decide (a=b))))
 | .neq,.string a,.string b=>some (K (.bool (decide (a≠b))))
 | .lss,.string a,.string b=>some (K (.bool (Op.bytesLess a.toList b.toList)))
 | .add,.string a,.string b=>some (ob g (a.size+b.size<=9223372036854775807)/\K (.string (a++b)))
 | _,_,_=>none
theorem qQ {P:Program} {op:BinOp} {t:TypeId} {k:IntKind} {a b:Int} {ox oy:Operand} (h1:op≠.shl) (h2:op≠.shr) (w:World) :
  (do eqGuard op t ox oy (.int k a) (.int k b);binOp op t (.int k a) (.int k b):Sem Value).run P w =
   (match op with | .add | .sub | .mul=>Op.intArith op k a b | .quo | .rem=>Op.intDiv op k a b | .and | .or | .xor | .andNot=>Op.intBits op k a b|_=>Op.intCmp op a b).run P w:=by
 cases op<;>simp [eqGuard,binOp,Result.andThen] at * <;> rfl
theorem zE {P:Program} {op:BinOp} {t:TypeId} {a b:ByteArray} {ox oy:Operand} (w:World) :
  (do eqGuard op t ox oy (.string a) (.string b);binOp op t (.string a) (.string b):Sem Value).run P w=(Op.stringOp op a b).run P w:=by
 cases op<;>simp [eqGuard,binOp,Result.andThen]<;>rfl
theorem SB (a b:ByteArray):(a.toList == b.toList)=decide (a=b):=by
 have h:a.toList=b.toList ↔ a=b:=by
  refine ⟨λh=>?_,λh=>by rw [h]⟩
  have h1:∀ x:ByteArray,x.toList=x.data.toList:=λx=>ByteArray.toList_eq x
  rw [h1,h1] at h
  cases a;cases b;simp at h;simp [h]
 by_cases e:a=b
 ·simp [e]
 ·simp [e,h]
theorem a4v {P:Program} {wr:Bool} {g:Option Bool} {op:BinOp} {t:TypeId} {ox oy:Operand} {x y:Value} {K:Value->Prop} {p:Prop} (h:aJC wr g op x y K=some p) (hp:p) :
  ∃ v,aFc P g (do eqGuard op t ox oy x y;binOp op t x y) v/\K v:=by
 unfold aJC at h
 split at h
 case h_16=>cases h
 case h_12=>cases h;exact ⟨_,λ_ w=>by rw [zE];simp [Op.stringOp,SB],hp⟩
 case h_13=>cases h;refine ⟨_,λ_ w=>?_,hp⟩;rw [zE];simp [Op.stringOp,SB]
 case h_14=>cases h;exact ⟨_,λ_ w=>by rw [zE];simp [Op.stringOp],hp⟩
 case h_15 =>
  cases h
  obtain ⟨h1,h2⟩:=hp
  refine ⟨_,λhg w=>?_,h2⟩
  have:=iJ h1 hg
  rw [zE]
  unfold Op.stringOp
  simp only
  rw [if_neg (by simp [IntKind.max,IntKind.signed,IntKind.bits];omega)]
  rfl
 all_goals
  split at h
  case isFalse=>cases h
  rename_i hk
  subst hk
  cases h
 case h_4 =>
  obtain ⟨h1,h2⟩:=hp
  obtain ⟨v,hv,hk⟩:=B0 h2
  refine ⟨v,λhg w=>?_,hk⟩
  have h0:=iJ h1 hg
  rw [qQ (by decide) (by decide),hv hg]
  simp [Op.intDiv,h0]
 case h_5 =>
  obtain ⟨h1,h2⟩:=hp
  refine ⟨_,λhg w=>?_,h2⟩
  have h0:=iJ h1 hg
  rw [qQ (by decide) (by decide)]
  simp [Op.intDiv,h0]
 case h_1=>obtain ⟨v,hv,hk⟩:=B0 hp;exact ⟨v,λhg w=>by rw [qQ (by decide) (by decide),hv hg];rfl,hk⟩
 case h_2=>obtain ⟨v,hv,hk⟩:=B0 hp;exact ⟨v,λhg w=>by rw [qQ (by decide) (by decide),hv hg];rfl,hk⟩
 case h_3=>obtain ⟨v,hv,hk⟩:=B0 hp;exact ⟨v,λhg w=>by rw [qQ (by decide) (by decide),hv hg];rfl,hk⟩
 all_goals (refine ⟨_,λ_ w=>?_,hp⟩;rw [qQ (by decide) (by decide)];simp [Op.intCmp];try (first|rfl|(rw [Bool.eq_iff_iff];simp)))
end Go.Vc
end

section
namespace Go.Vc
open Go.RowKit
def GO (P:Program) (t:TypeId) (w:World) (g:Option Bool) (b o:Nat) (K:Value->Prop):Prop :=
 match P.underlying t,P.info? t with
 | some d,some i =>
  match SA d,i.zero.map Sh.of with
  | true,some (.agg l)=>match Nat.beq l.length i.size with
   | true=>exL l λvs=>ob g (dH w b o vs)/\K (.agg vs.toArray)
   | false=>False
  | false,some (.one s)=>s.ex λv=>ob g (w.cell? ⟨b,o,none⟩=some v)/\K v
  | _,_=>False
 | _,_=>False
theorem XH {w w':World} (h:w'.heap=w.heap) (a:Addr):w'.cell? a=w.cell? a:=by simp [World.cell?,h]
theorem AD {P:Program} {t:TypeId} {w:World} {g:Option Bool} {b o:Nat} {K:Value->Prop} (h:GO P t w g b o K) :
  ∃ v,(DX g->∀ w',w'.heap=w.heap->(loadVar t ⟨b,o,none⟩).run P w'=.ok v w')/\K v:=by
 unfold GO at h
 split at h
 ·rename_i d i hd hi
  split at h
  ·rename_i l ha _
   split at h
   ·rename_i hl
    obtain ⟨vs,hlen,hc,hk⟩:=a6s h
    rw [Nat.eq_of_beq_eq_true hl] at hlen
    refine ⟨_,λhg w' hw=>?_,hk⟩
    have hr:=run_loadCellsFrom (P:=P) (w:=w') (b:=b) (o:=o) vs 0 #[] (λj hj=>by rw [XH hw,Nat.zero_add];exact iJ hc hg j hj)
    unfold loadVar loadCells
    simp only [Sem.run_bind,xB hd,ha,Result.andThen,if_true,run_sizeOf hi,<-hlen,hr,Sem.run_pure]
    simp
   ·exact h.elim
  ·rename_i s ha _
   obtain ⟨v,hv,hk⟩:=Sc.CF h
   refine ⟨v,λhg w' hw=>?_,hk⟩
   have hc:=iJ hv hg
   rw [<-XH hw] at hc
   unfold loadVar
   simp only [Sem.run_bind,xB hd,ha,Result.andThen,Bool.false_eq_true,if_false,load,Sem.run,hc]
  ·exact h.elim
 ·exact h.elim
def ES (P:Program) (t:TypeId) (x:Value) (f:Nat) (K:Value->Prop):Option Prop :=
 match x,P.underlying t with
 | .pointer (some ⟨b,o,none⟩),some (.struct fs) =>
  match fs[f]? with
  | some fd =>
   match P.info? fd.type with
   | some i=>if i.size=0 then none else some (K (.pointer (some ⟨b,o+fd.offset,none⟩)))
   | none=>none
  | none=>none
 | _,_=>none
theorem addr_add (b o n:Nat):(⟨b,o,none⟩:Addr).add n=⟨b,o+n,none⟩:=by unfold Addr.add;split<;>simp_all
theorem L7 {P:Program} {t:TypeId} {x:Value} {f:Nat} {K:Value->Prop} {p:Prop} (h:ES P t x f K=some p) (hp:p) :
  ∃ v,(∀ w,(Instr.fieldAt t x f).run P w=.ok v w)/\K v:=by
 unfold ES at h
 split at h
 ·rename_i b o fs ht
  split at h
  ·rename_i fd hf
   split at h
   ·rename_i i hi
    split at h
    ·cases h
    ·rename_i hz
     cases h
     refine ⟨_,λw=>?_,hp⟩
     simp [Instr.fieldAt,run_underlying ht,Result.andThen,hf,Instr.sureAddr,fieldPlace,run_sizeOf hi,hz,addr_add]
   ·cases h
  ·cases h
 ·cases h
def jD (g:Option Bool) (p:Option Addr) (K:Nat->Nat->Prop):Prop :=
 match p with
 | some ⟨b,o,none⟩=>K b o
 | p=>∃ b o,ob g (p=some ⟨b,o,none⟩)/\K b o
theorem a1M {g:Option Bool} {p:Option Addr} {K:Nat->Nat->Prop} (h:jD g p K):∃ b o,ob g (p=some ⟨b,o,none⟩)/\K b o:=by
 unfold jD at h
 split at h
 ·refine ⟨_,_,?_,h⟩
  cases g
  ·rfl
  ·exact λ_=>rfl
 ·exact h
theorem aJ {g:Option Bool} {p:Option Addr} {K:Nat->Nat->Prop} (b o:Nat) (h:p=some ⟨b,o,none⟩) (hk:K b o):jD g p K:=by
 subst h;exact hk
theorem a1N {c:Bool} {p:Option Addr} {K:Nat->Nat->Prop} (h:c=false) (hk:∀ b o,K b o):jD (some c) p K:=by
 subst h
 unfold jD
 split
 ·exact hk _ _
 ·exact ⟨0,0,λh=>(by cases h),hk _ _⟩
def idx (o n:Nat):Nat->Nat
 | 1=>o+n
 | s=>o+n*s
theorem idx_eq (o n s:Nat):idx o n s=o+n*s:=by
 unfold idx
 split
 ·simp
 ·rfl
def a6u (P:Program) (t:TypeId):Nat:=match P.info? t with|some i=>i.size|none=>0
def ET (P:Program) (g:Option Bool) (t:TypeId) (x i:Value) (K:Value->Prop):Option Prop :=
 match x,i,P.underlying t with
 | .slice p len _,.int _ n,some (.slice e) =>
  match P.info? e with
  | some ie=>some (ob g (0<=n/\n<len)/\jD g p λb o=>K (.pointer (some ⟨b,idx o n.toNat ie.size,none⟩)))
  | none=>none
 | .pointer (some ⟨b,o,none⟩),.int _ n,some (.array len e) =>
  match P.info? e with
  | some ie=>some (ob g (0<=n/\n<len)/\K (.pointer (some ⟨b,idx o n.toNat ie.size,none⟩)))
  | none=>none
 | _,_,_=>none
theorem L8 {P:Program} {g:Option Bool} {t:TypeId} {x i:Value} {K:Value->Prop} {p:Prop} (h:ET P g t x i K=some p) (hp:p) :
  ∃ v,(DX g->∀ w,(Instr.indexAt t x i).run P w=.ok v w)/\K v:=by
 unfold ET at h
 split at h
 ·rename_i q len _ kk n e ht
  split at h
  ·rename_i ie hi
   cases h
   obtain ⟨h0,hp⟩:=hp
   obtain ⟨b,o,h1,h2⟩:=a1M hp
   refine ⟨_,λhg w=>?_,h2⟩
   obtain ⟨h3,h4⟩:=iJ h0 hg
   have h5:=iJ h1 hg
   subst h5
   simp [Instr.indexAt,asIntOf,run_underlying ht,Result.andThen,h3,h4,run_sizeOf hi,addr_add,idx_eq]
  ·cases h
 ·rename_i b o kk n len e ht
  split at h
  ·rename_i ie hi
   cases h
   obtain ⟨h1,h2⟩:=hp
   refine ⟨_,λhg w=>?_,h2⟩
   obtain ⟨h3,h4⟩:=iJ h1 hg
   simp [Instr.indexAt,asIntOf,run_underlying ht,Result.andThen,h3,h4,run_sizeOf hi,addr_add,Instr.sureAddr,idx_eq]
  ·cases h
 ·cases h
def a1O (cs:Array Value) (off n:Nat):Array Value:=((cs.toList.drop off).take n).toArray
theorem aAv (cs:Array Value) (off n:Nat):cs.extract off (off+n)=a1O cs off n:=by
 apply Array.ext'
 simp [a1O]
def a6v:Nat->List Value->Option Value
 | 0,v :: _=>some v
 | i+1,_ :: r=>a6v i r
 | _,[]=>none
theorem a1P:∀ (i:Nat) (l:List Value),a6v i l=l[i]?
 | 0,[]=>rfl
 | 0,_ :: _=>rfl
 | i+1,[]=>rfl
 | i+1,v :: r=>by rw [a6v,a1P i r];rfl
def a0m (P:Program) (g:Option Bool) (t:TypeId) (x i:Value) (K:Value->Prop):Option Prop :=
 match x,i,P.underlying t with
 | .string s,.int _ n,some .string=>some (∃ c:UInt8,ob g (0<=n/\s.data.toList[n.toNat]? = some c)/\K (.int .u8 c.toNat))
 | .agg cs,.int _ n,some (.array len e) =>
  match P.underlying e,P.info? e with
  | some d,some ie =>
   match SA d,ie.zero.map Sh.of with
   | true,some (.agg _)=>some (ob g (0<=n/\n<len)/\K (.agg (a1O cs (idx 0 n.toNat ie.size) ie.size)))
   | false,some (.one s)=>some (s.ex λv=>ob g (0<=n/\n<len/\a6v (idx 0 n.toNat ie.size) cs.toList=some v)/\K v)
   | _,_=>none
  | _,_=>none
 | _,_,_=>none
theorem L9 {P:Program} {e:TypeId} {d:TypeDesc} {ie:TypeInfo} {cs:Array Value} {off:Nat} {w:World} (hd:P.underlying e=some d) (ha:SA d=true) (hi:P.info? e=some ie) :
  (part e cs off).run P w=.ok (.agg (a1O cs off ie.size)) w:=by
 simp [part,xB hd,ha,Result.andThen,run_sizeOf hi,aAv]
theorem wN {P:Program} {e:TypeId} {d:TypeDesc} {cs:Array Value} {off:Nat} {v:Value} {w:World} (hd:P.underlying e=some d) (ha:SA d=false) (hv:cs[off]? = some v) :
  (part e cs off).run P w=.ok v w:=by
 simp [part,xB hd,ha,Result.andThen,hv]
theorem WC {P:Program} {g:Option Bool} {t:TypeId} {x i:Value} {K:Value->Prop} {p:Prop} (h:a0m P g t x i K=some p) (hp:p) :
  ∃ v,(DX g->∀ w,(Instr.index t x i).run P w=.ok v w)/\K v:=by
 unfold a0m at h
 split at h
 ·rename_i s kk n ht
  cases h
  obtain ⟨c,h1,h2⟩:=hp
  refine ⟨_,λhg w=>?_,h2⟩
  obtain ⟨h3,h4⟩:=iJ h1 hg
  have h5:s[n.toNat]? = some c:=by
   obtain ⟨hlt,he⟩:=List.getElem?_eq_some_iff.1 h4
   have hs:n.toNat<s.size:=by simpa using hlt
   rw [getElem?_pos s n.toNat hs]
   simpa [ByteArray.getElem_eq_getElem_data] using he
  simp [Instr.index,asIntOf,run_underlying ht,Result.andThen,h3,h5]
 ·rename_i cs kk n len e ht
  split at h
  ·rename_i d ie hd hi
   split at h
   ·rename_i l ha _
    cases h
    obtain ⟨h1,h2⟩:=hp
    refine ⟨_,λhg w=>?_,h2⟩
    obtain ⟨h3,h4⟩:=iJ h1 hg
    simp [Instr.index,asIntOf,run_underlying ht,Result.andThen,h3,h4,run_sizeOf hi,L9 hd ha hi,idx_eq]
   ·rename_i s ha _
    cases h
    obtain ⟨v,h1,h2⟩:=Sc.CF hp
    refine ⟨v,λhg w=>?_,h2⟩
    obtain ⟨h3,h4,h5⟩:=iJ h1 hg
    rw [idx_eq,Nat.zero_add,a1P,Array.getElem?_toList] at h5
    simp [Instr.index,asIntOf,run_underlying ht,Result.andThen,h3,h4,run_sizeOf hi,wN hd ha h5]
   ·cases h
  ·cases h
 ·cases h
def a0n (P:Program) (t:TypeId) (x:Value) (f:Nat) (K:Value->Prop):Option Prop :=
 match x,P.underlying t with
 | .agg cs,some (.struct fs) =>
  match fs[f]? with
  | some fd =>
   match P.underlying fd.type,P.info? fd.type with
   | some d,some i =>
    match SA d with
    | true=>some (K (.agg (a1O cs fd.offset i.size)))
    | false=>match cs[fd.offset]? with
     | some v=>some (K v)
     | none=>none
   | _,_=>none
  | none=>none
 | _,_=>none
theorem WD {P:Program} {t:TypeId} {x:Value} {f:Nat} {K:Value->Prop} {p:Prop} (h:a0n P t x f K=some p) (hp:p) :
  ∃ v,(∀ w,(Instr.field t x f).run P w=.ok v w)/\K v:=by
 unfold a0n at h
 split at h
 ·rename_i cs fs ht
  split at h
  ·rename_i fd hf
   split at h
   ·rename_i d i hd hi
    split at h
    ·rename_i ha
     cases h
     exact ⟨_,λw=>by simp [Instr.field,run_underlying ht,Result.andThen,hf,asAgg,L9 hd ha hi],hp⟩
    ·rename_i ha
     split at h
     ·rename_i v hv
      cases h
      exact ⟨_,λw=>by simp [Instr.field,run_underlying ht,Result.andThen,hf,asAgg,wN hd ha hv],hp⟩
     ·cases h
   ·cases h
  ·cases h
 ·cases h
def pH (p:Option Addr) (size l m:Nat):Option Addr:=if m=l then p else p.map (·.add (l*size))
def LA (g:Option Bool) (lo hi:Option Value) (len cap:Nat) (K':Nat->Nat->Prop):Option Prop :=
 match lo,hi with
 | none,none=>some (ob g (len<=cap)/\K' 0 len)
 | some (.int _ l),none=>some (ob g (0<=l/\l<=len/\len<=cap)/\K' l.toNat len)
 | none,some (.int _ h)=>some (ob g (0<=h/\h<=cap)/\K' 0 h.toNat)
 | some (.int _ l),some (.int _ h)=>some (ob g (0<=l/\l<=h/\h<=cap)/\K' l.toNat h.toNat)
 | _,_=>none
def a0o (P:Program) (g:Option Bool) (t:TypeId) (x:Value) (lo hi:Option Value) (K:Value->Prop):Option Prop :=
 match x,P.underlying t with
 | .string s,some .string=>LA g lo hi s.size s.size λl h=>K (.string (s.extract l h))
 | .slice p len cap,some (.slice e) =>
  match P.info? e with
  | some ie=>LA g lo hi len cap λl h=>K (.slice (pH p ie.size l cap) (h - l) (cap - l))
  | none=>none
 | .pointer (some ⟨b,o,none⟩),some (.array n e) =>
  match P.info? e with
  | some ie=>LA g lo hi n n λl h=>K (.slice (pH (some ⟨b,o,none⟩) ie.size l n) (h - l) (n - l))
  | none=>none
 | _,_=>none
theorem J8 {P:Program} {isS:Bool} {len cap:Nat} {lo hi:Option Value} {l h:Nat} (hlo:match lo with|none=>l=0|some (.int _ n)=>0<=n/\l=n.toNat|_=>False)
  (hhi:match hi with|none=>h=len|some (.int _ n)=>0<=n/\h=n.toNat|_=>False) (hlh:l<=h) (hc:h<=cap) (w:World) :
  (Instr.sliceBounds isS len cap lo hi none).run P w=.ok (l,h,cap) w:=by
 have hb:∀ (k:IntKind) (n:Int) (y:Nat) (code:BoundsCode),0<=n->n.toNat<=y->(Instr.sliceBound (.int k n) y code).run P w=.ok n.toNat w:=by
  intro k n y code h0 h1
  unfold Instr.sliceBound
  simp only [asIntOf,Sem.run_bind,Sem.run_pure,Result.andThen]
  rw [if_pos ⟨h0,by omega⟩]
  rfl
 unfold Instr.sliceBounds
 cases hi with
 | none =>
  simp only at hhi
  subst hhi
  cases lo with
  | none=>simp only at hlo;subst hlo;simp [Result.andThen]
  | some v =>
   cases v<;>simp only at hlo
   obtain ⟨h0,rfl⟩:=hlo
   simp [Result.andThen,hb _ _ _ _ h0 hlh]
 | some v =>
  cases v<;>simp only at hhi
  obtain ⟨h0,rfl⟩:=hhi
  cases lo with
  | none=>simp only at hlo;subst hlo;simp [Result.andThen,hb _ _ _ _ h0 hc]
  | some v =>
   cases v<;>simp only at hlo
   obtain ⟨h1,rfl⟩:=hlo
   simp [Result.andThen,hb _ _ _ _ h0 hc,hb _ _ _ _ h1 hlh]
theorem J9 {g:Option Bool} {lo hi:Option Value} {len cap:Nat} {K':Nat->Nat->Prop} {p:Prop}
  (h:LA g lo hi len cap K'=some p) (hp:p) :
  ∃ l h,(DX g->(match lo with|none=>l=0|some (.int _ n)=>0<=n/\l=n.toNat|_=>False)/\(match hi with|none=>h=len|some (.int _ n)=>0<=n/\h=n.toNat|_=>False)/\l<=h/\h<=cap)/\K' l h:=by
 unfold LA at h
 split at h
 ·cases h;obtain ⟨h1,h2⟩:=hp;exact ⟨_,_,λhg=>⟨rfl,rfl,by omega,iJ h1 hg⟩,h2⟩
 ·cases h;obtain ⟨h1,h2⟩:=hp;exact ⟨_,_,λhg=>by have:=iJ h1 hg;exact ⟨⟨this.1,rfl⟩,rfl,by omega,this.2.2⟩,h2⟩
 ·cases h;obtain ⟨h1,h2⟩:=hp;exact ⟨_,_,λhg=>by have:=iJ h1 hg;exact ⟨rfl,⟨this.1,rfl⟩,by omega,by omega⟩,h2⟩
 ·cases h;obtain ⟨h1,h2⟩:=hp;exact ⟨_,_,λhg=>by have:=iJ h1 hg;exact ⟨⟨this.1,rfl⟩,⟨by omega,rfl⟩,by omega,by omega⟩,h2⟩
 ·cases h
theorem WE {P:Program} {g:Option Bool} {t:TypeId} {x:Value} {lo hi:Option Value} {K:Value->Prop} {p:Prop} (h:a0o P g t x lo hi K=some p) (hp:p) :
  ∃ v,(DX g->∀ w,(Instr.sliceAt t x lo hi none).run P w=.ok v w)/\K v:=by
 unfold a0o at h
 split at h
 ·rename_i s ht
  obtain ⟨l,hh,hb,hk⟩:=J9 h hp
  refine ⟨_,λhg w=>?_,hk⟩
  obtain ⟨h1,h2,h3,h4⟩:=hb hg
  simp [Instr.sliceAt,run_underlying ht,Result.andThen,Instr.slice,J8 h1 h2 h3 h4]
 ·rename_i q len cap e ht
  split at h
  ·rename_i ie hi
   obtain ⟨l,hh,hb,hk⟩:=J9 h hp
   refine ⟨_,λhg w=>?_,hk⟩
   obtain ⟨h1,h2,h3,h4⟩:=hb hg
   simp [Instr.sliceAt,run_underlying ht,Result.andThen,Instr.slice,J8 h1 h2 h3 h4,run_sizeOf hi,pH]
  ·cases h
 ·rename_i b o n e ht
  split at h
  ·rename_i ie hi
   obtain ⟨l,hh,hb,hk⟩:=J9 h hp
   refine ⟨_,λhg w=>?_,hk⟩
   obtain ⟨h1,h2,h3,h4⟩:=hb hg
   simp [Instr.sliceAt,run_underlying ht,Result.andThen,Instr.sureAddr,J8 h1 h2 h3 h4,run_sizeOf hi,pH]
   split<;>rfl
  ·cases h
 ·cases h
def SC (P:Program) (g:Option Bool) (t:TypeId) (x hi mx:Value) (K:Value->Prop):Option Prop :=
 match x,P.underlying t,hi,mx with
 | .slice p len cap,some (.slice e),.int _ h,.int _ m =>
  match P.info? e with
  | some ie=>some (ob g (0<=h/\h<=m/\m<=cap)/\K (.slice (pH p ie.size 0 m.toNat) h.toNat m.toNat))
  | none=>none
 | _,_,_,_=>none
theorem SE {P:Program} {g:Option Bool} {t:TypeId} {x hi mx:Value} {K:Value->Prop} {p:Prop} (h:SC P g t x hi mx K=some p) (hp:p) :
  ∃ v,(DX g->∀ w,(Instr.sliceAt t x none (some hi) (some mx)).run P w=.ok v w)/\K v:=by
 unfold SC at h
 split at h
 ·rename_i q len cap e kh h kn m ht
  split at h
  ·rename_i ie hi
   cases h
   obtain ⟨h1,hk⟩:=hp
   refine ⟨_,λhg w=>?_,hk⟩
   obtain ⟨a1,a2,a3⟩:=iJ h1 hg
   have hb:∀ (k:IntKind) (n:Int) (y:Nat) (code:BoundsCode),0<=n->n.toNat<=y->(Instr.sliceBound (.int k n) y code).run P w=.ok n.toNat w:=by
    intro k n y code h0 h1
    unfold Instr.sliceBound
    simp only [asIntOf,Sem.run_bind,Sem.run_pure,Result.andThen]
    rw [if_pos ⟨h0,by omega⟩]
    rfl
   have hm:=hb kn m cap .slice3Acap (by omega) (by omega)
   have hh:=hb kh h m.toNat .slice3B a1 (by omega)
   have hs:(Instr.sliceBounds true len cap none (some (.int kh h)) (some (.int kn m))).run P w=.ok (0,h.toNat,m.toNat) w:=by
    unfold Instr.sliceBounds
    simp [Result.andThen,hm,hh]
   simp [Instr.sliceAt,run_underlying ht,Result.andThen,Instr.slice,hs,run_sizeOf hi,pH]
  ·cases h
 ·cases h
end Go.Vc
end

section
namespace Go.Vc
open Go.RowKit
def SF (P:Program) (t:TypeId) (K:Value->Prop):Prop :=
 match P.underlying t with
 | some (.tuple ts)=>L6 P ts.toList λvs=>K (.tuple vs.toArray)
 | _=>NS P t K
theorem qR {P:Program} {t:TypeId} {K:Value->Prop} (h:SF P t K):∃ v,K v:=by
 unfold SF at h
 split at h
 ·obtain ⟨vs,h⟩:=wM h;exact ⟨_,h⟩
 ·exact zD h
def unk:Value:=.tuple #[.nilFunc]
def AE:Value->Bool
 | .tuple vs=>(match vs.toList with | [.nilFunc]=>true|_=>false)
 | _=>false
def LB (k:IntKind):Int->List Value->Option Int
 | x,[]=>some x
 | x,.int k' y :: r=>if k=k' then LB k (max x y) r else none
 | _,_=>none
def LC (k:IntKind):Int->List Value->Option Int
 | x,[]=>some x
 | x,.int k' y :: r=>if k=k' then LC k (min x y) r else none
 | _,_=>none
def GQ (P:Program) (b:Builtin) (ts:Array TypeId) (args:List Value) (K:Value->Prop):Option Prop :=
 match b,args with
 | .len,[.slice _ n _]=>match ts[0]? with
  | some t=>match P.underlying t with|some (.slice _)=>some (K (.int .i64 n))|_=>none
  | none=>none
 | .len,[.string s]=>match ts[0]? with
  | some t=>match P.underlying t with|some .string=>some (K (.int .i64 s.size))|_=>none
  | none=>none
 | .cap,[.slice _ _ n]=>match ts[0]? with
  | some t=>match P.underlying t with|some (.slice _)=>some (K (.int .i64 n))|_=>none
  | none=>none
 | .len,[_]=>match ts[0]? with
  | some t=>match P.underlying t with|some (.array n _)=>some (K (.int .i64 n))|_=>none
  | none=>none
 | .max,.int k x :: r=>match LB k x r with|some n=>some (K (.int k n))|none=>none
 | .min,.int k x :: r=>match LC k x r with|some n=>some (K (.int k n))|none=>none
 | _,_=>none
theorem PA {P:Program} {k:IntKind} {w:World}:∀ {l:List Value} {x n:Int},LB k x l=some n->((l.foldlM Builtin.max2 (.int k x):Sem Value)).run P w=.ok (.int k n) w
 | [],x,n,h=>by simp [LB] at h;subst h;simp
 | v :: r,x,n,h=>by
  cases v<;>simp [LB] at h
  obtain ⟨rfl,h⟩:=h
  rename_i y
  have ih:=PA (P:=P) (w:=w) h
  simp only [List.foldlM_cons,Builtin.max2,Sem.run_bind,Sem.run_pure,Result.andThen]
  have e:(if y > x then y else x)=max x y:=by
   rw [Int.max_def];split<;>split<;>omega
  rw [e];exact ih
theorem PB {P:Program} {k:IntKind} {w:World}:∀ {l:List Value} {x n:Int},LC k x l=some n->((l.foldlM Builtin.min2 (.int k x):Sem Value)).run P w=.ok (.int k n) w
 | [],x,n,h=>by simp [LC] at h;subst h;simp
 | v :: r,x,n,h=>by
  cases v<;>simp [LC] at h
  obtain ⟨rfl,h⟩:=h
  rename_i y
  have ih:=PB (P:=P) (w:=w) h
  simp only [List.foldlM_cons,Builtin.min2,Sem.run_bind,Sem.run_pure,Result.andThen]
  have e:(if y<x then y else x)=min x y:=by
   rw [Int.min_def];split<;>split<;>omega
  rw [e];exact ih
theorem QT {P:Program} {b:Builtin} {ts:Array TypeId} {t:TypeId} {cs:Array Bool} {args:Array Value} {K:Value->Prop} {p:Prop} (h:GQ P b ts args.toList K=some p) (hp:p) :
  ∃ v,(∀ w,(builtin b ts t cs args).run P w=.ok (.value v) w)/\K v:=by
 obtain ⟨args⟩:=args
 simp only at h
 unfold GQ at h
 split at h
 case h_7=>cases h
 case h_5 =>
  split at h
  ·rename_i hf;cases h;exact ⟨_,λw=>by simp [builtin,Builtin.max_,PA hf,Result.andThen],hp⟩
  ·cases h
 case h_6 =>
  split at h
  ·rename_i hf;cases h;exact ⟨_,λw=>by simp [builtin,Builtin.min_,PB hf,Result.andThen],hp⟩
  ·cases h
 all_goals
  split at h
  ·rename_i ht
   split at h
   ·rename_i hu
    cases h
    refine ⟨_,λw=>?_,hp⟩
    first
     | (simp [builtin,Builtin.len_,ht,run_underlying hu,Result.andThen,goInt];done)
     | (simp [builtin,Builtin.cap_,ht,run_underlying hu,Result.andThen,goInt];done)
   ·cases h
  ·cases h
def aAw (P:Program) (op:BinOp) (t:TypeId) (x y:Value) (K:Value->Prop):Option Prop :=
 match op,P.underlying t,x,y with
 | .eql,some (.pointer _),.pointer p,.pointer none=>some (K (.bool p.isNone))
 | .neq,some (.pointer _),.pointer p,.pointer none=>some (K (.bool (!p.isNone)))
 | .eql,some (.slice _),.slice p _ _,.slice none _ _=>some (K (.bool p.isNone))
 | .neq,some (.slice _),.slice p _ _,.slice none _ _=>some (K (.bool (!p.isNone)))
 | .eql,some .bool,.bool a,.bool b=>some (K (.bool (a == b)))
 | .neq,some .bool,.bool a,.bool b=>some (K (.bool (a != b)))
 | _,_,_,_=>none
theorem a1Q {P:Program} {op:BinOp} {t:TypeId} {ox oy:Operand} {x y:Value} {K:Value->Prop} {p:Prop} (h:aAw P op t x y K=some p) (hp:p) :
  ∃ v,(∀ w,(do eqGuard op t ox oy x y;binOp op t x y:Sem Value).run P w=.ok v w)/\K v:=by
 unfold aAw at h
 split at h
 case h_7=>cases h
 all_goals
  cases h
  refine ⟨_,λw=>?_,hp⟩
  rename_i ht
  simp only [eqGuard,binOp,Sem.run_bind,Sem.run_pure,Result.andThen,Op.equal,Op.maxDepth]
  rw [show (10000:Nat)=9999+1 from rfl]
  unfold Op.equalIn
  simp only [Sem.run_bind,run_underlying ht,Result.andThen,Sem.run_pure]
 case h_1 q=>cases q<;>simp
 case h_2 q=>cases q<;>simp
 case h_3 q _ _ _ _=>cases q<;>simp
 case h_4 q _ _ _ _=>cases q<;>simp
 case h_5=>simp
 case h_6=>simp [bne]
def CG (P:Program) (xs ys:Array Value):List Field->Option Bool
 | []=>some true
 | f :: fs=>match f.name == "_" with
  | true=>none
  | false=>match P.underlying f.type,xs[f.offset]?,ys[f.offset]?,CG P xs ys fs with
   | some (.int _),some (.int k a),some (.int k' b),some r=>if k=k' then some (decide (a=b)&&r) else none
   | some .bool,some (.bool a),some (.bool b),some r=>some ((a == b)&&r)
   | some .string,some (.string a),some (.string b),some r=>some (decide (a=b)&&r)
   | _,_,_,_=>none
theorem JA {P:Program} {w:World} {d:Nat} {xs ys:Array Value}:∀ {fs:List Field} {r:Bool},CG P xs ys fs=some r->(Op.eqFields (d+1) xs ys fs).run P w=.ok r w
 | [],r,h=>by simp [CG] at h;subst h;simp [Op.eqFields]
 | f :: fs,r,h=>by
  unfold CG at h
  split at h
  ·cases h
  ·rename_i hname
   have hname:f.name ≠ "_" := by simpa using hname
   unfold Op.eqFields
   rw [if_pos hname]
   have go:∀ {t:TypeDesc} {a b:Value} {c r':Bool},P.underlying f.type=some t->SA t=false->xs[f.offset]? = some a->ys[f.offset]? = some b->(Op.equalIn (d+1) f.type a b).run P w=.ok c w->CG P xs ys fs=some r' ->
     (do let a <-part f.type xs f.offset;let b <-part f.type ys f.offset;let r <-Op.equalIn (d+1) f.type a b;if (!r)=true then pure false else Op.eqFields (d+1) xs ys fs:Sem Bool).run P w=.ok (c&&r') w:=by
    intro t a b c r' ht ha hx hy he hr
    have ih:=JA (w:=w) (d:=d) hr
    simp only [Sem.run_bind,wN ht ha hx,wN ht ha hy,Result.andThen,he]
    cases c<;>simp [ih]
   split at h
   ·rename_i ht hx hy hr
    split at h
    ·rename_i hk
     subst hk
     cases h
     exact go ht rfl hx hy (by rw [run_equalIn_int w d f.type _ _ _ _ ht];congr 1) hr
    ·cases h
   ·rename_i ht hx hy hr
    cases h
    exact go ht rfl hx hy (run_equalIn_bool' w d f.type _ _ ht) hr
   ·rename_i ht hx hy hr
    cases h
    exact go ht rfl hx hy (by rw [run_equalIn_string w d f.type _ _ ht,SB]) hr
   ·cases h
def PC (P:Program) (t:TypeId):Bool := !P.stoodInHeld t && !P.eqGuardType P.depth t
def aAx (P:Program) (op:BinOp) (t:TypeId) (x y:Value) (K:Value->Prop):Option Prop :=
 match op,x,y with
 | .eql,.agg xs,.agg ys=>match P.underlying t with
  | some (.struct fs)=>match CG P xs ys fs.toList with
   | some r=>some (PC P t=true/\K (.bool r))
   | none=>none
  | _=>none
 | .neq,.agg xs,.agg ys=>match P.underlying t with
  | some (.struct fs)=>match CG P xs ys fs.toList with
   | some r=>some (PC P t=true/\K (.bool (!r)))
   | none=>none
  | _=>none
 | _,_,_=>none
theorem a1R {P:Program} {op:BinOp} {t:TypeId} {ox oy:Operand} {x y:Value} {K:Value->Prop} {p:Prop} (h:aAx P op t x y K=some p) (hp:p) :
  ∃ v,(∀ w,(do eqGuard op t ox oy x y;binOp op t x y:Sem Value).run P w=.ok v w)/\K v:=by
 have key:∀ {xs ys:Array Value} {fs:Array Field} {r:Bool} (w:World),P.underlying t=some (.struct fs)->P.stoodInHeld t=false->CG P xs ys fs.toList=some r->(Op.equalIn 10000 t (.agg xs) (.agg ys)).run P w=.ok r w:=by
  intro xs ys fs r w ht hs hr
  have hf:P.fieldsOf t=fs:=by simp [Program.fieldsOf,ht]
  rw [show (10000:Nat)=9999+1 from rfl,run_equalIn_struct w 9999 t xs ys (by rw [hf];exact ht) hs,hf]
  exact JA hr
 have ok:PC P t=true->P.stoodInHeld t=false/\P.eqGuardType P.depth t=false:=λh=>by simpa [PC] using h
 unfold aAx at h
 split at h
 ·split at h
  ·rename_i fs ht
   split at h
   ·rename_i r hr
    cases h
    obtain ⟨h0,hp⟩:=hp
    obtain ⟨hs,hg⟩:=ok h0
    refine ⟨_,λw=>?_,hp⟩
    rw [Sem.run_bind,run_eqGuard_agg w .eql t ox oy _ _ hg]
    simp only [Result.andThen]
    rw [run_eql_struct,key w ht hs hr]
    rfl
   ·cases h
  ·cases h
 ·split at h
  ·rename_i fs ht
   split at h
   ·rename_i r hr
    cases h
    obtain ⟨h0,hp⟩:=hp
    obtain ⟨hs,hg⟩:=ok h0
    refine ⟨_,λw=>?_,hp⟩
    rw [Sem.run_bind,run_eqGuard_agg w .neq t ox oy _ _ hg]
    simp only [Result.andThen]
    rw [run_neq_struct,key w ht hs hr]
    rfl
   ·cases h
  ·cases h
 ·cases h
theorem mapA {α β:Type} (f:α->β) (a:Array α):(a.toList.map f).toArray=a.map f:=by apply Array.ext';simp
def zeroOf (P:Program) (t:TypeId):Option Value:=(P.info? t).bind (·.zero)
theorem B1 {P:Program} {t:TypeId} {z:Value} {w:World} (h:zeroOf P t=some z):(zeroValue t).run P w=.ok z w:=by
 unfold zeroOf at h
 cases hi:P.info? t with
 | none=>simp [hi] at h
 | some i =>
  simp [hi] at h
  simp [zeroValue,typeInfo,hi,h]
theorem range_zero:Array.range 0=#[]:=Array.ext (by simp) (by simp)
def a0p {α:Type _}:List Value->(List Value->α)->α
 | [],K=>K []
 | x :: r,K=>a0p r λr'=>K (x :: r')
theorem XI {α:Type _}:∀ (l:List Value) (K:List Value->α),a0p l K=K l
 | [],_=>rfl
 | x :: r,K=>by unfold a0p;rw [XI r]
def EU (place:Nat->Option (Nat × Nat)) (cells:List Value):List (Nat × Value)->Option (List Value)
 | []=>some cells
 | (i,v) :: rest =>
  match place i with
  | none=>none
  | some (off,size) =>
   match Nat.beq v.cells.toList.length size&&Nat.ble (off+v.cells.toList.length) cells.length with
   | true=>a0p (cells.take off++v.cells.toList++cells.drop (off+size)) λcells=>EU place cells rest
   | false=>none
theorem XJ (off:Nat):∀ (vs:List Value) (k:Nat) (cs:Array Value),off+k+vs.length<=cs.size ->
  (vs.zipIdx k).foldl (λcs (p:Value × Nat)=>cs.setIfInBounds (off+p.2) p.1) cs=(cs.toList.take (off+k)++vs++cs.toList.drop (off+k+vs.length)).toArray
 | [],k,cs,_=>by apply Array.ext';simp
 | v :: vs,k,cs,h=>by
  simp only [List.length_cons] at h
  rw [List.zipIdx_cons,List.foldl_cons,XJ off vs (k+1) _ (by simp;omega)]
  apply Array.ext'
  have hlt:off+k<cs.toList.length:=by simp;omega
  have e1:(cs.toList.set (off+k) v).take (off+(k+1))=cs.toList.take (off+k)++[v]:=by
   rw [show off+(k+1)=off+k+1 by omega,List.take_succ_eq_append_getElem (by simpa using hlt)]
   simp [List.take_set_of_le]
  have e2:(cs.toList.set (off+k) v).drop (off+(k+1)+vs.length)=cs.toList.drop (off+k+(vs.length+1)):=by
   rw [List.drop_set_of_lt (by omega)]
   congr 1
   omega
  simp only [Array.toList_setIfInBounds,e1,e2,List.length_cons]
  simp
theorem zF {place:Nat->Option (Nat × Nat)}:∀ {parts:List (Nat × Value)} {cells cs:List Value},EU place cells parts=some cs->Instr.fill place cells.toArray parts=some cs.toArray
 | [],_,_,h=>by simp [EU] at h;simp [Instr.fill,h]
 | (i,v) :: rest,cells,cs,h=>by
  unfold EU at h
  unfold Instr.fill
  split at h
  ·cases h
  ·rename_i off size hp
   split at h
   ·rename_i hc
    rw [XI] at h
    simp only [Bool.and_eq_true] at hc
    have h1:v.cells.toList.length=size:=Nat.eq_of_beq_eq_true hc.1
    have h2:off+v.cells.toList.length<=cells.length:=Nat.le_of_ble_eq_true hc.2
    have ih:=zF h
    have h1':v.cells.size=size:=by simpa using h1
    have h2':off+v.cells.size<=cells.length:=by simpa using h2
    rw [hp]
    simp only
    rw [if_neg (by simp;omega)]
    have e:v.cells.zipIdx.foldl (λcs (x:Value × Nat)=>match x with|(c,j)=>cs.setIfInBounds (off+j) c) cells.toArray=(cells.take off++v.cells.toList++cells.drop (off+size)).toArray:=by
     have:=XJ off v.cells.toList 0 cells.toArray (by simpa using h2')
     rw [<-Array.foldl_toList,Array.toList_zipIdx]
     simp only [Nat.add_zero,h1] at this
     exact this
    rw [e]
    exact ih
   ·cases h
def zG (n:Nat) (z:List Value):List Value:=(List.replicate n z).flatten
theorem a1S (n:Nat) (z:Array Value):(Array.range (n*z.size)).map (z[· % z.size]!)=(zG n z.toList).toArray:=by
 apply Array.ext'
 apply List.ext_getElem?
 intro i
 by_cases h0:z.size=0
 ·have:z.toList=[]:=by cases z;simp_all
  simp [zG,this,h0]
 have key:∀ (n i:Nat),(zG n z.toList)[i]? = if i<n*z.size then z.toList[i % z.size]? else none:=by
  intro n
  induction n with
  | zero=>intro i;simp [zG]
  | succ n ih =>
   intro i
   have e:zG (n+1) z.toList=z.toList++zG n z.toList:=by simp [zG,List.replicate_succ]
   rw [e,List.getElem?_append,ih]
   simp only [Array.length_toList]
   by_cases h1:i<z.size
   ·rw [if_pos h1,if_pos (by rw [Nat.succ_mul];omega),Nat.mod_eq_of_lt h1]
   ·rw [if_neg h1]
    have e2:(i - z.size) % z.size=i % z.size:=(Nat.mod_eq_sub_mod (Nat.le_of_not_lt h1)).symm
    rw [e2]
    by_cases h2:i - z.size<n*z.size
    ·rw [if_pos h2,if_pos (by rw [Nat.succ_mul];omega)]
    ·rw [if_neg h2,if_neg (by rw [Nat.succ_mul];omega)]
 rw [key]
 simp only [Array.toList_map,Array.toList_range,List.getElem?_map,List.getElem?_range]
 by_cases h:i<n*z.size
 ·have hm:i % z.size<z.size:=Nat.mod_lt _ (by omega)
  simp [h,hm]
 ·simp [h]
def GR (P:Program) (t:TypeId) (parts:List (Nat × Value)) (K:Value->Prop):Prop :=
 match P.underlying t,zeroOf P t with
 | some (.struct fs),some z =>
  match EU (λi=>match fs[i]? with|some f=>(match P.info? f.type with|some x=>some (f.offset,x.size)|none=>none)|none=>none) z.cells.toList parts,fs.toList.all (λf=>(P.info? f.type).isSome) with
  | some cs,true=>K (.agg cs.toArray)
  | _,_=>False
 | some (.array _ e),some z =>
  match P.info? e with
  | some x=>match EU (λi=>some (i*x.size,x.size)) z.cells.toList parts with
   | some cs=>K (.agg cs.toArray)
   | none=>False
  | none=>False
 | _,_=>False
theorem run_places {P:Program} {w:World}:∀ (l:List Field),l.all (λf=>(P.info? f.type).isSome)=true ->
  (l.mapM λf=>(do pure (f.offset,<-sizeOf f.type):Sem (Nat × Nat))).run P w=.ok (l.map λf=>(f.offset,a6u P f.type)) w
 | [],_=>by simp
 | f :: r,h=>by
  simp only [List.all_cons,Bool.and_eq_true] at h
  obtain ⟨x,hx⟩:=Option.isSome_iff_exists.1 h.1
  have ih:=run_places (P:=P) (w:=w) r h.2
  rw [List.mapM_cons]
  simp only [Sem.run_bind,run_sizeOf hx,Result.andThen,Sem.run_pure,ih,List.map_cons]
  simp [a6u,hx]
theorem a1T {p q:Nat->Option (Nat × Nat)} (h:∀ i,p i=q i) (c:List Value) (l:List (Nat × Value)):EU p c l=EU q c l:=by
 have:p=q:=funext h
 rw [this]
theorem PD {P:Program} {t:TypeId} {parts:Array (Nat × Value)} {K:Value->Prop} (h:GR P t parts.toList K) :
  ∃ v,(∀ w,(Instr.build t parts).run P w=.ok v w)/\K v:=by
 unfold GR at h
 split at h
 ·rename_i fs z ht hz
  split at h
  ·rename_i cs hf hall
   refine ⟨_,λw=>?_,h⟩
   have hpl:=run_places (P:=P) (w:=w) fs.toList hall
   have aNJ:EU (λi=>(fs.toList.map λf=>(f.offset,a6u P f.type)).toArray[i]?) z.cells.toList parts.toList=some cs:=by
    rw [<-hf]
    apply a1T
    intro i
    simp only [List.getElem?_toArray,List.getElem?_map,Array.getElem?_toList]
    cases hi:fs[i]? with
    | none=>rfl
    | some f =>
     have hm:f∈fs.toList:=by simpa using Array.mem_of_getElem? hi
     obtain ⟨x,hx⟩:=Option.isSome_iff_exists.1 (List.all_eq_true.1 hall f hm)
     simp [a6u,hx]
   have:=zF aNJ
   unfold Instr.build
   rw [Sem.run_bind,B1 hz]
   simp only [Result.andThen]
   rw [Sem.run_bind,run_underlying ht]
   simp only [Result.andThen]
   rw [Sem.run_bind,Array.mapM_eq_mapM_toList,map_eq_pure_bind,Sem.run_bind,hpl]
   simp only [Result.andThen,Sem.run_pure]
   rw [show z.cells=z.cells.toList.toArray by simp,this]
   rfl
  ·exact h.elim
 ·rename_i len e z ht hz
  split at h
  ·rename_i x hx
   split at h
   ·rename_i cs hf
    refine ⟨_,λw=>?_,h⟩
    have:=zF hf
    unfold Instr.build
    rw [Sem.run_bind,B1 hz]
    simp only [Result.andThen]
    rw [Sem.run_bind,run_underlying ht]
    simp only [Result.andThen]
    rw [Sem.run_bind,run_sizeOf hx]
    simp only [Result.andThen]
    rw [show z.cells=z.cells.toList.toArray by simp,this]
    rfl
   ·exact h.elim
  ·exact h.elim
 ·exact h.elim
theorem IK {P:Program} {t:TypeId} {parts:Array (Nat × Value)} {w:World} {K:Value->Prop} (h:GR P t parts.toList K) :
  ∃ v,(Instr.build t parts).run P w=.ok v w/\K v :=
 let ⟨v,h1,h2⟩:=PD h
 ⟨v,h1 w,h2⟩
def iU (P:Program) (wr:Bool) (o:Oper) (ρ:Operand->Value) (w:World) (g:Option Bool) (K:Value->Prop):Option Prop :=
 match o.op with
 | .move x=>some (K (ρ x))
 | .assign x=>some (K (ρ x))
 | .load t x=>match ρ x with
  | .pointer (some ⟨b,off,none⟩)=>some (GO P t w g b off K)
  | _=>none
 | .nilCheck x=>match ρ x with
  | .pointer p=>some (jD g p λb off=>K (.pointer (some ⟨b,off,none⟩)))
  | .func (.func f) a b=>some (K (.func (.func f) a b))
  | _=>none
 | .binOp op t x y _ =>
  match aJC wr g op (ρ x) (ρ y) K with
  | some p=>some p
  | none=>match aAw P op t (ρ x) (ρ y) K with
   | some p=>some p
   | none=>match aAx P op t (ρ x) (ρ y) K with
   | some p=>some p
   | none=>match op with
    | .eql | .neq=>some (∃ b:Bool,ob g (∀ w',(do eqGuard op t x y (ρ x) (ρ y);binOp op t (ρ x) (ρ y):Sem Value).run P w'=.ok (.bool b) w')/\K (.bool b))
    | _=>some (SF P o.type λv=>ob g (∀ w',(binOp op t (ρ x) (ρ y)).run P w'=.ok v w')/\K v)
 | .unOp op _ x=>match op,ρ x with
  | .not,.bool b=>some (K (.bool (!b)))
  | .neg,.int k n=>some (ari wr g k (0 - n) K)
  | _,_=>none
 | .convert src dst x=>match P.underlying src,P.underlying dst,ρ x with
  | some _,some (.int k),.int k' n=>if k=k' then some (ob g (k.wrap n=n)/\K (.int k n)) else some (K (.int k (k.wrap n)))
  | some .string,some .string,.string s=>some (K (.string s))
  | _,_,_=>none
 | .fieldAddr t x f=>ES P t (ρ x) f K
 | .field t x f=>a0n P t (ρ x) f K
 | .indexAddr t x i=>ET P g t (ρ x) (ρ i) K
 | .index t x i=>a0m P g t (ρ x) (ρ i) K
 | .slice t x lo hi none=>a0o P g t (ρ x) (lo.map ρ) (hi.map ρ) K
 | .extract x i=>match ρ x with
  | .tuple vs=>match vs[i]? with
   | some v=>some (K v)
   | none=>none
  | _=>none
 | .makeInterface t x=>match P.underlying t with
  | some (.interface _)=>none
  | some _=>some (K (.iface t (ρ x)))
  | none=>none
 | .makeFunc fn a b=>some (K (.func fn (a.toList.map ρ).toArray (b.toList.map ρ).toArray))
 | .lookup t m k ok=>some (SF P o.type λv=>ob g (∀ w',w'.heap=w.heap->(Instr.lookup t (ρ m) (ρ k) ok).run P w'=.ok v w')/\K v)
 | .call c=>match c.callee with
  | .builtin b=>match GQ P b c.argTypes (c.args.toList.map ρ) K with
   | some p=>some p
   | none=>match b with
    | .len=>some (∃ n:Int,ob g (∀ w',w'.heap=w.heap->(Builtin.len_ c.argTypes o.type (c.args.toList.map ρ).toArray).run P w'=.ok (.int .i64 n) w')/\K (.int .i64 n))
    | _=>none
  | _=>none
 | .build t parts=>some (GR P t (parts.toList.map λp=>(p.1,ρ p.2)) K)
 | .slice t x none (some hi) (some mx)=>SC P g t (ρ x) (ρ hi) (ρ mx) K
 | _=>none
def iN (P:Program) (o:Oper) (ρ:Operand->Value) (K:Value->Prop):Bool :=
 match o.op with
 | .load .. => true
 | .lookup .. => true
 | .call c=>match c.callee with
  | .builtin b=>match GQ P b c.argTypes (c.args.toList.map ρ) K with
   | some _=>false
   | none=>true
  | _=>true
 | _=>false
theorem IL {P:Program} {wr:Bool} {o:Oper} {ρ:Operand->Value} {w:World} {g:Option Bool} {K:Value->Prop} {p:Prop} (h:iU P wr o ρ w g K=some p) (hp:p) :
  ∃ v,(DX g->∀ w',(iN P o ρ K=true->w'.heap=w.heap)->(execOp ρ o).run P w'=.ok (.value v) w')/\K v:=by
 unfold iU at h
 split at h
 case h_1 x hop=>cases h;exact ⟨_,λ_ w' _=>by simp [execOp,hop],hp⟩
 case h_2 x hop=>cases h;exact ⟨_,λ_ w' _=>by simp [execOp,hop],hp⟩
 case h_3 t x hop =>
  split at h
  ·rename_i b off hx
   cases h
   obtain ⟨v,h1,h2⟩:=AD hp
   exact ⟨v,λhg w' hw=>by simp [execOp,hop,hx,Instr.loadAt,Instr.sureAddr,h1 hg w' (hw (by simp [iN,hop])),Result.andThen],h2⟩
  ·cases h
 case h_4 x hop =>
  split at h
  ·rename_i q hx
   cases h
   obtain ⟨b,off,h1,h2⟩:=a1M hp
   exact ⟨_,λhg w' hw=>by have:=iJ h1 hg;subst this;simp [execOp,hop,hx],h2⟩
  ·rename_i f a b hx
   cases h
   exact ⟨_,λhg w' hw=>by simp [execOp,hop,hx],hp⟩
  ·cases h
 case h_5 op t x y ty hop =>
  split at h
  ·rename_i q hq
   cases h
   obtain ⟨v,h1,h2⟩:=a4v (P:=P) (t:=t) (ox:=x) (oy:=y) hq hp
   refine ⟨v,λhg w' _=>?_,h2⟩
   have:=h1 hg w'
   simp only [execOp,hop]
   rw [Sem.run_bind,this]
   rfl
  ·split at h
   ·rename_i q hq
    cases h
    obtain ⟨v,h1,h2⟩:=a1Q (P:=P) (ox:=x) (oy:=y) hq hp
    refine ⟨v,λhg w' _=>?_,h2⟩
    simp only [execOp,hop]
    rw [Sem.run_bind,h1 w']
    rfl
   ·split at h
    ·rename_i q hq
     cases h
     obtain ⟨v,h1,h2⟩:=a1R (P:=P) (ox:=x) (oy:=y) hq hp
     refine ⟨v,λhg w' _=>?_,h2⟩
     simp only [execOp,hop]
     rw [Sem.run_bind,h1 w']
     rfl
    split at h
    ·cases h
     obtain ⟨b,h1,h2⟩:=hp
     refine ⟨_,λhg w' _=>?_,h2⟩
     simp only [execOp,hop]
     rw [Sem.run_bind,iJ h1 hg w']
     rfl
    ·cases h
     obtain ⟨b,h1,h2⟩:=hp
     refine ⟨_,λhg w' _=>?_,h2⟩
     simp only [execOp,hop]
     rw [Sem.run_bind,iJ h1 hg w']
     rfl
    ·rename_i aX9 aYa
     cases h
     obtain ⟨v,h1,h2⟩:=qR hp
     refine ⟨v,λhg w' _=>?_,h2⟩
     have h3:=iJ h1 hg w'
     have h4:(eqGuard op t x y (ρ x) (ρ y)).run P w'=.ok () w':=by
      cases op<;>first|exact absurd rfl aX9|exact absurd rfl aYa|simp [eqGuard]
     simp only [execOp,hop]
     rw [Sem.run_bind,Sem.run_bind,h4]
     simp only [Result.andThen,h3]
     rfl
 case h_6 op t x hop =>
  split at h
  ·rename_i b hx;cases h;exact ⟨_,λ_ w' _=>by simp [execOp,hop,hx,Op.unary,Result.andThen],hp⟩
  ·rename_i k n hx
   cases h
   obtain ⟨v,h1,h2⟩:=B0 hp
   exact ⟨v,λhg w' _=>by rw [h1 hg];simp [execOp,hop,hx,Op.unary,Op.intArith,Result.andThen],h2⟩
  ·cases h
 case h_7 src dst x hop =>
  split at h
  ·rename_i d k k' n hs hd hx
   split at h
   ·rename_i hk
    subst hk
    cases h
    obtain ⟨h1,h2⟩:=hp
    refine ⟨_,λhg w' _=>?_,h2⟩
    have h3:=iJ h1 hg
    simp [execOp,hop,hx,convert,run_underlying hs,run_underlying hd,Conv.intToInt,Result.andThen,h3]
   ·cases h
    exact ⟨_,λhg w' _=>by simp [execOp,hop,hx,convert,run_underlying hs,run_underlying hd,Conv.intToInt,Result.andThen],hp⟩
  ·rename_i s hs hd hx
   cases h
   exact ⟨_,λhg w' _=>by simp [execOp,hop,hx,convert,run_underlying hs,run_underlying hd,Result.andThen],hp⟩
  ·cases h
 case h_8 t x f hop =>
  obtain ⟨v,h1,h2⟩:=L7 h hp
  exact ⟨v,λ_ w' _=>by simp [execOp,hop,h1 w',Result.andThen],h2⟩
 case h_9 t x f hop =>
  obtain ⟨v,h1,h2⟩:=WD h hp
  exact ⟨v,λ_ w' _=>by simp [execOp,hop,h1 w',Result.andThen],h2⟩
 case h_10 t x i hop =>
  obtain ⟨v,h1,h2⟩:=L8 h hp
  exact ⟨v,λhg w' _=>by simp [execOp,hop,h1 hg w',Result.andThen],h2⟩
 case h_11 t x i hop =>
  obtain ⟨v,h1,h2⟩:=WC h hp
  exact ⟨v,λhg w' _=>by simp [execOp,hop,h1 hg w',Result.andThen],h2⟩
 case h_12 t x lo hi hop =>
  obtain ⟨v,h1,h2⟩:=WE h hp
  exact ⟨v,λhg w' _=>by simp [execOp,hop,h1 hg w',Result.andThen],h2⟩
 case h_13 x i hop =>
  split at h
  ·rename_i vs hx
   split at h
   ·rename_i v hv
    cases h
    exact ⟨_,λ_ w' _=>by simp [execOp,hop,hx,Instr.extract,hv,Result.andThen],hp⟩
   ·cases h
  ·cases h
 case h_14 t x hop =>
  split at h
  ·cases h
  ·rename_i d hn ht
   cases h
   refine ⟨_,λ_ w' _=>?_,hp⟩
   simp only [execOp,hop,Sem.run_bind,Instr.makeInterface,run_underlying ht,Result.andThen]
   cases d<;>first|rfl|exact absurd rfl (hn _)
  ·cases h
 case h_15 fn a b hop=>cases h;exact ⟨_,λ_ w' _=>by simp [execOp,hop,Instr.makeFunc,Result.andThen,<-mapA],hp⟩
 case h_16 t m k ok hop =>
  cases h
  obtain ⟨v,h1,h2⟩:=qR hp
  exact ⟨v,λhg w' hw=>by simp [execOp,hop,iJ h1 hg w' (hw (by simp [iN,hop])),Result.andThen],h2⟩
 case h_17 c hop =>
  split at h
  ·rename_i b hc
   rw [show c.args.toList.map ρ=(c.args.map ρ).toList by simp] at h
   have hmap:c.args.toList.map ρ=(c.args.map ρ).toList:=by simp
   split at h
   ·rename_i p' hp'
    cases h
    obtain ⟨v,h1,h2⟩:=QT (t:=o.type) (cs:=c.args.map fun | .const _=>true|_=>false) hp' hp
    refine ⟨v,λ_ w' _=>?_,h2⟩
    simp only [execOp,hop,Sem.run_bind,resolve,hc,Sem.run_pure,Result.andThen,invoke]
    exact h1 w'
   ·rename_i hnone
    split at h
    ·cases h
     obtain ⟨n,h1,h2⟩:=hp
     refine ⟨_,λhg w' hw=>?_,h2⟩
     have h3:=iJ h1 hg w' (hw (by simp only [iN,hop,hc,hmap,hnone]))
     rw [Array.toArray_toList] at h3
     simp only [execOp,hop,Sem.run_bind,resolve,hc,Sem.run_pure,Result.andThen,invoke,builtin,h3]
    ·cases h
  ·cases h
 case h_18 t parts hop =>
  cases h
  rw [show (parts.toList.map λp=>(p.1,ρ p.2))=(parts.map λ(i,x)=>(i,ρ x)).toList by simp] at hp
  obtain ⟨v,h1,h2⟩:=PD hp
  exact ⟨v,λ_ w' _=>by simp only [execOp,hop,Sem.run_bind,h1,Sem.run_pure,Result.andThen],h2⟩
 case h_19 t x hi mx hop =>
  obtain ⟨v,h1,h2⟩:=SE h hp
  exact ⟨v,λhg w' _=>by simp [execOp,hop,h1 hg w',Result.andThen],h2⟩
 case h_20=>cases h
theorem LD {P:Program} {wr:Bool} {o:Oper} {ρ:Operand->Value} {w:World} {g:Option Bool} {K:Value->Prop} {p:Prop} (h:iU P wr o ρ w g K=some p) (hp:p) :
  ∃ v,(DX g->∀ w',w'.heap=w.heap->(execOp ρ o).run P w'=.ok (.value v) w')/\K v :=
 let ⟨v,h1,h2⟩:=IL h hp
 ⟨v,λhg w' hw=>h1 hg w' λ_=>hw,h2⟩
end Go.Vc
end

section
namespace Go.Vc
variable {ds:List Deferred}
open Go.RowKit
def LF (P:Program) (K:Value->World->Prop):Result Next->Prop
 | .ok (.value v) w=>K v w
 | .ok .skip w=>K undef w
 | .ok (.enter f args) w=>Calls P f args w λe w'=>∃ v,e=.returned v/\K v w'
 | _=>False
def rJ (P:Program) (t:TypeId) (n:Nat) (parts:List (Nat × Value)) (w:World) (K:Value->World->Prop):Prop :=
 match P.underlying t with
 | some (.slice e) =>
  match P.info? e,zeroOf P e with
  | some i,some z =>
   match Nat.ble (n*i.size) 16777216&&Nat.beq i.size z.cells.toList.length with
   | true =>
    match EU (λj=>some (j*i.size,i.size)) (zG n z.cells.toList) parts with
    | some cells=>∀ w',w'=w.alloc (.cells cells.toArray e)->K (.slice (some ⟨w.heap.size,0,none⟩) n n) w'
    | none=>False
   | false=>False
  | _,_=>False
 | _=>False
theorem SG {P:Program} {w:World} (cells:Array Value) (e:TypeId):(newRow e cells).run P w=.ok ⟨w.heap.size,0,none⟩ (w.alloc (.cells cells e)):=by
 simp [newRow,newObj,Sem.run,Result.andThen]
theorem xI {P:Program} {t:TypeId} {n:Nat} {parts:Array (Nat × Value)} {w:World} {K:Value->World->Prop} (h:rJ P t n parts.toList w K) :
  ∃ v w',(Instr.buildSlice t n parts).run P w=.ok v w'/\K v w':=by
 unfold rJ at h
 split at h
 ·rename_i e ht
  split at h
  ·rename_i i z hi hz
   split at h
   ·rename_i hn
    simp only [Bool.and_eq_true] at hn
    have hsz:i.size=z.cells.size:=by have:=Nat.eq_of_beq_eq_true hn.2;simpa using this
    have hle:n*i.size<=16777216:=Nat.le_of_ble_eq_true hn.1
    split at h
    ·rename_i cells hf
     refine ⟨_,_,?_,h _ rfl⟩
     have e1:¬ (n*i.size > 2 ^ 24):=by omega
     have hmk:=zF hf
     unfold Instr.buildSlice
     rw [Sem.run_bind,run_underlying ht]
     simp only [Result.andThen]
     rw [Sem.run_bind,run_sizeOf hi]
     simp only [Result.andThen,if_neg e1]
     by_cases h0:n*i.size=0
     ·have hz0:zG n z.cells.toList=[]:=by
       have hl:(zG n z.cells.toList).length=n*i.size:=by rw [hsz];simp [zG,List.length_flatten]
       rw [h0] at hl
       exact List.eq_nil_of_length_eq_zero hl
      rw [hz0] at hmk
      simp [h0,range_zero,hmk,Result.andThen,SG]
     ·have hz1:=a1S n z.cells
      rw [<-hsz] at hz1
      simp only [h0,if_false,Sem.run_bind,B1 hz,Result.andThen,Sem.run_pure]
      rw [<-hsz,hz1,hmk]
      simp [Result.andThen,SG]
    ·exact h.elim
   ·exact h.elim
  ·exact h.elim
 ·exact h.elim
def uL (P:Program) (t:TypeId) (l c:Value) (w:World) (K:Value->World->Prop):Prop :=
  match P.underlying t,l,c with
  | some (.slice e),.int .i64 l,.int .i64 c =>
    match P.info? e,zeroOf P e with
    | some i,some z =>
      (0<=l/\l<=c/\i.bytes*c<=281474976710656/\c<=9223372036854775807) /\
        (if i.size=1/\pG z=true then ∀ w',w'=w.alloc (.cells (List.replicate c.toNat z).toArray e)->K (.slice (some ⟨w.heap.size,0,none⟩) l.toNat c.toNat) w'
         else if i.size=z.cells.toList.length/\i.size≠0 then ∀ w',w'=w.alloc (.cells (zG c.toNat z.cells.toList).toArray e)->K (.slice (some ⟨w.heap.size,0,none⟩) l.toNat c.toNat) w'
         else False)
    | _,_=>False
  | _,_,_=>False
theorem WG (z:Value) (n:Nat):(Array.range n).map ((#[z]:Array Value)[· % (#[z]:Array Value).size]!)=Array.replicate n z:=by
 apply Array.ext
 ·simp
 ·intro i h1 h2
  simp [Nat.mod_one]
theorem run_makeSlice {P:Program} {t e:TypeId} {i:TypeInfo} {z:Value} {l c:Int} {w:World} (ht:P.underlying t=some (.slice e)) (hi:P.info? e=some i) (hz:zeroOf P e=some z)
  (h:0<=l/\l<=c/\i.bytes*c<=281474976710656/\c<=9223372036854775807) (hsz:i.size≠0) :
  (Instr.makeSlice t (.int .i64 l) (.int .i64 c)).run P w=.ok (.slice (some ⟨w.heap.size,0,none⟩) l.toNat c.toNat) (w.alloc (.cells ((Array.range (c.toNat*i.size)).map (z.cells[· % z.cells.size]!)) e)):=by
 obtain ⟨h1,h2,h3,h4⟩:=h
 have hl:IntKind.i64.wrap l=l:=IntWalk.i64_in l (by omega)
 have hc:IntKind.i64.wrap c=c:=IntWalk.i64_in c (by omega)
 have ht1:(typeInfo e).run P w=.ok i w:=by simp [typeInfo,hi]
 have hai:∀ n:Int,(asInt (.int .i64 n)).run P w=.ok n w:=λn=>by simp [asInt,asIntOf,Result.andThen]
 have e1:((decide (c<0)||decide ((i.bytes:Int)*c > 2 ^ 48))||decide (l<0)||decide (l > c))=false:=by
  simp;omega
 have aYb:(askRoom (c.toNat*i.bytes)).run P w=.ok () w:=by unfold askRoom;split<;>simp [mark,Sem.run]
 have hro:∀ (cells:Array Value),(newRow e cells).run P w=.ok ⟨w.heap.size,0,none⟩ (w.alloc (.cells cells e)):=λcells=>by simp [newRow,newObj,Sem.run,Result.andThen]
 unfold Instr.makeSlice
 simp only [Sem.run_bind,run_underlying ht,Result.andThen,hai,ht1,hl,hc]
 rw [if_neg (by rw [e1];simp)]
 simp only [Sem.run_bind,aYb,Result.andThen,run_sizeOf hi]
 by_cases h0:c.toNat*i.size=0
 ·rw [h0]
  simp [hro,range_zero,Result.andThen]
 ·simp [h0,B1 hz,Result.andThen,hro]
theorem zH {P:Program} {t:TypeId} {l c:Value} {w:World} {K:Value->World->Prop} (h:uL P t l c w K) :
  ∃ v w',(Instr.makeSlice t l c).run P w=.ok v w'/\K v w':=by
 unfold uL at h
 split at h
 ·rename_i e l c ht
  split at h
  ·rename_i i z hi hz
   obtain ⟨hb,h⟩:=h
   split at h
   ·rename_i hc
    have hr:=run_makeSlice (P:=P) (w:=w) ht hi hz hb (by omega)
    have hcells:z.cells=#[z]:=by cases z<;>first|rfl|cases hc.2
    rw [hc.1,Nat.mul_one,hcells,WG,<-List.toArray_replicate] at hr
    exact ⟨_,_,hr,h _ rfl⟩
   ·split at h
    ·rename_i hc
     have hr:=run_makeSlice (P:=P) (w:=w) ht hi hz hb hc.2
     have hz1:=a1S c.toNat z.cells
     have hsz:i.size=z.cells.size:=by simpa using hc.1
     rw [hsz,hz1] at hr
     exact ⟨_,_,hr,h _ rfl⟩
    ·exact h.elim
  ·exact h.elim
 ·exact h.elim
def aFd (P:Program) (ex:Nat->Option TypeId) (i:Nat) (K:Value->Prop):Prop :=
 match ex i with
 | some t=>NS P t K
 | none=>∃ v,K v
theorem XK {P:Program} {ex:Nat->Option TypeId} {i:Nat} {K:Value->Prop} (h:aFd P ex i K):∃ v,K v:=by
 unfold aFd at h
 split at h
 ·exact zD h
 ·exact h
def lG (d:Option Tmp) (i:Nat):List Oper->Option TypeId
 | []=>none
 | o :: r=>match o.op,d with
  | .extract (.tmp t) j,some t'=>match Nat.beq t t'&&Nat.beq i j with
   | true=>some o.type
   | false=>lG d i r
  | _,_=>lG d i r
def a71 (P:Program) (ex:Nat->Option TypeId) (o:Oper) (ρ:Operand->Value) (w:World) (K:Value->World->Prop):Prop :=
 match o.op with
 | .store t x y=>match ρ x with
  | .pointer (some ⟨b,off,none⟩)=>RW P t w b off (ρ y) λw'=>K undef w'
  | _=>False
 | .box t x=>∀ w',w'=w.alloc (.cells (ρ x).cells t)->K (.pointer (some ⟨w.heap.size,0,none⟩)) w'
 | .alloc t=>match zeroOf P t with
  | some z=>∀ w',w'=w.alloc (.cells z.cells t)->K (.pointer (some ⟨w.heap.size,0,none⟩)) w'
  | none=>False
 | .build t parts=>GR P t (parts.toList.map λp=>(p.1,ρ p.2)) λv=>K v w
 | .buildSlice t n parts=>rJ P t n (parts.toList.map λp=>(p.1,ρ p.2)) w K
 | .makeSlice t l c=>uL P t (ρ l) (ρ c) w K
 | .makeMap _ none=>∀ w',w'=w.alloc (.map #[] 0)->K (.map (some w.heap.size)) w'
 | .mapUpdate t m k x=>∃ w',(Instr.mapUpdate t (ρ m) (ρ k) (ρ x)).run P w=.ok () w'/\K undef w'
 | .mapEntry t m k=>match P.underlying t with
  | some (.map _ e)=>NS P e λv=>∃ (n:Int) (w':World),(Instr.mapEntry t (ρ m) (ρ k)).run P w=.ok (.tuple #[v,.int .i64 n]) w'/\K (.tuple #[v,.int .i64 n]) w'
  | _=>False
 | .entryStore t m s x=>∃ w',(Instr.entryStore t (ρ m) (ρ s) (ρ x)).run P w=.ok () w'/\K undef w'
 | .range t x=>∃ p w',(Instr.range t (ρ x)).run P w=.ok (.pointer p) w'/\K (.pointer p) w'
 | .next it false=>(∃ w',(Instr.next (ρ it) false o.type).run P w=.ok (.tuple #[.bool false]) w'/\K (.tuple #[.bool false]) w') \/
  (∃ (k v:Value) (w':World),(Instr.next (ρ it) false o.type).run P w=.ok (.tuple #[.bool true,k,v]) w'/\K (.tuple #[.bool true,k,v]) w')
 | .next it true=>(∃ w',(Instr.next (ρ it) true o.type).run P w=.ok (.tuple #[.bool false]) w'/\K (.tuple #[.bool false]) w') \/
  (∃ (k v:Int) (w':World),(Instr.next (ρ it) true o.type).run P w=.ok (.tuple #[.bool true,.int .i64 k,.int .i32 v]) w'/\K (.tuple #[.bool true,.int .i64 k,.int .i32 v]) w')
 | .entry it=>aFd P ex 0 λk=>aFd P ex 1 λv=>∃ w',(Instr.entry (ρ it)).run P w=.ok (.tuple #[k,v]) w'/\K (.tuple #[k,v]) w'
 | .convert src dst x=>SF P o.type λv=>∃ w',(convert src dst (ρ x)).run P w=.ok v w'/\K v w'
 | .call c =>
  match c.callee with
  | .builtin b=>SF P o.type λv=>∃ w',(builtin b c.argTypes o.type (c.args.toList.map fun | .const _=>true|_=>false).toArray (c.args.toList.map ρ).toArray).run P w=.ok (.value v) w'/\K v w'
  | .value f =>
   match ρ f with
   | .func (.func fid) first captured =>
    match P.funcs[fid]? with
    | some fn=>if fn.body.isSome=true/\(fn.name == "runtime.NumGoroutine")=false then (match aFb fn.name with|true=>aHq P fid (first.toList++c.args.toList.map ρ++captured.toList).toArray w K|false=>aAu P fid (first.toList++c.args.toList.map ρ++captured.toList).toArray w K) else SF P o.type λv=>∃ w',(callFunc fid (first.toList++c.args.toList.map ρ++captured.toList).toArray).run P w=.ok (.value v) w'/\K v w'
    | none=>False
   | _=>False
  | _=>LF P K ((execOp ρ o).run P w)
 | _=>LF P K ((execOp ρ o).run P w)
theorem JB {P:Program} {ex:Nat->Option TypeId} {o:Oper} {ρ:Operand->Value} {w:World} {K:Value->World->Prop} (h:a71 P ex o ρ w K):LF P K ((execOp ρ o).run P w):=by
 unfold a71 at h
 split at h
 case h_1 t x y hop =>
  split at h
  ·rename_i b off hx
   obtain ⟨w',h1,h2⟩:=IJ h
   simp only [execOp,hop,hx,Instr.storeAt,Instr.sureAddr,Sem.run_bind,Sem.run_pure,Result.andThen,h1]
   exact h2
  ·exact h.elim
 case h_2 t x hop =>
  simp only [execOp,hop,Instr.box,newVar,newRow,newObj,Sem.run_bind,Sem.run,Sem.run_pure,Result.andThen]
  exact h _ rfl
 case h_3 t hop =>
  split at h
  ·rename_i z hz
   simp only [execOp,hop,Instr.alloc,newVar,newRow,newObj,Sem.run_bind,B1 hz,Sem.run,Sem.run_pure,Result.andThen]
   exact h _ rfl
  ·exact h.elim
 case h_4 t parts hop =>
  rw [show (parts.toList.map λp=>(p.1,ρ p.2))=(parts.map λ(i,x)=>(i,ρ x)).toList by simp] at h
  obtain ⟨v,h1,h2⟩:=IK (w:=w) h
  simp only [execOp,hop,Sem.run_bind,h1,Sem.run_pure,Result.andThen]
  exact h2
 case h_5 t n parts hop =>
  rw [show (parts.toList.map λp=>(p.1,ρ p.2))=(parts.map λ(i,x)=>(i,ρ x)).toList by simp] at h
  obtain ⟨v,w',h1,h2⟩:=xI h
  simp only [execOp,hop,Sem.run_bind,h1,Sem.run_pure,Result.andThen]
  exact h2
 case h_6 t l c hop =>
  obtain ⟨v,w',h1,h2⟩:=zH h
  simp only [execOp,hop,Sem.run_bind,h1,Sem.run_pure,Result.andThen]
  exact h2
 case h_7 t hop =>
  simp only [execOp,hop,Option.map_none,Instr.makeMap,newObj,Sem.run_bind,Sem.run,Sem.run_pure,Result.andThen]
  exact h _ rfl
 case h_8 t m k x hop =>
  obtain ⟨w',h1,h2⟩:=h
  simp only [execOp,hop,Sem.run_bind,h1,Sem.run_pure,Result.andThen]
  exact h2
 case h_9 t m k hop =>
  split at h
  ·obtain ⟨v,n,w',h1,h2⟩:=zD h
   simp only [execOp,hop,Sem.run_bind,h1,Sem.run_pure,Result.andThen]
   exact h2
  ·exact h.elim
 case h_10 t m s x hop =>
  obtain ⟨w',h1,h2⟩:=h
  simp only [execOp,hop,Sem.run_bind,h1,Sem.run_pure,Result.andThen]
  exact h2
 case h_11 t x hop =>
  obtain ⟨p,w',h1,h2⟩:=h
  simp only [execOp,hop,Sem.run_bind,h1,Sem.run_pure,Result.andThen]
  exact h2
 case h_12 it hop =>
  rcases h with ⟨w',h1,h2⟩|⟨k,v,w',h1,h2⟩ <;>
  ·simp only [execOp,hop,Sem.run_bind,h1,Sem.run_pure,Result.andThen]
   exact h2
 case h_13 it hop =>
  rcases h with ⟨w',h1,h2⟩|⟨k,v,w',h1,h2⟩ <;>
  ·simp only [execOp,hop,Sem.run_bind,h1,Sem.run_pure,Result.andThen]
   exact h2
 case h_14 it hop =>
  obtain ⟨k,h⟩:=XK h
  obtain ⟨v,w',h1,h2⟩:=XK h
  simp only [execOp,hop,Sem.run_bind,h1,Sem.run_pure,Result.andThen]
  exact h2
 case h_15 src dst x hop =>
  obtain ⟨v,w',h1,h2⟩:=qR h
  simp only [execOp,hop,Sem.run_bind,h1,Sem.run_pure,Result.andThen]
  exact h2
 case h_16 c hop =>
  split at h
  ·rename_i b hc
   rw [mapA,mapA] at h
   obtain ⟨v,w',h1,h2⟩:=qR h
   simp only [execOp,hop,resolve,hc,Sem.run_bind,Sem.run_pure,Result.andThen,invoke]
   have e:LF P K (.ok (.value v) w'):=h2
   rw [<-h1] at e
   exact e
  ·rename_i f hc
   split at h
   ·rename_i fid first captured hf
    split at h
    ·rename_i fn hfn
     split at h
     ·rename_i hb
      rw [show (first.toList++c.args.toList.map ρ++captured.toList).toArray=first++c.args.map ρ++captured by apply Array.ext';simp] at h
      have h1:Calls P fid (first++c.args.map ρ++captured) w λe w'=>∃ v,e=.returned v/\K v w':=by
       split at h
       ·exact a1L h
       ·exact a1K h
      have hb':fn.body.isNone=false:=by cases hh:fn.body<;>simp_all
      simp only [execOp,hop,resolve,hc,Sem.run_bind,Deferred.ofValue,hf,Sem.run_pure,Result.andThen,invoke,callFunc,program,Sem.run,hfn,hb.2,hb',Bool.false_eq_true,if_false]
      exact h1
     ·rw [show (first.toList++c.args.toList.map ρ++captured.toList).toArray=first++c.args.map ρ++captured by apply Array.ext';simp] at h
      obtain ⟨v,w',h1,h2⟩:=qR h
      simp only [execOp,hop,resolve,hc,Sem.run_bind,Deferred.ofValue,hf,Sem.run_pure,Result.andThen,invoke,h1]
      exact h2
    ·exact h.elim
   ·exact h.elim
  ·exact h
 case h_17=>exact h
def qT (P:Program) (f:FuncId):Bool:=match P.funcs[f]? with|some fn=>fn.body.isSome && !(fn.name == "runtime.NumGoroutine")|none=>false
def a0q (cs:List Value):Prop:=∀ c∈cs,pG c=true
def aFe (P:Program) (ex:Nat->Option TypeId) (o:Oper) (ρ:Operand->Value) (w:World) (K:Value->World->Prop):Prop :=
 match o.op with
 | .store t x y=>match ρ x with
  | .pointer (some ⟨b,off,none⟩) =>
   match P.underlying t,P.info? t with
   | some d,some i=>match SA d with
    | true=>match ρ y with
     | .agg cs=>match Nat.beq cs.toList.length i.size with
      | true=>a0q cs.toList/\aE w b off i.size/\∀ w',w'=w.setCells b off cs.toList->K undef w'
      | false=>False
     | _=>False
    | false=>match Nat.beq i.size 1 with
     | true=>a0q [ρ y]/\aE w b off 1/\∀ w',w'=w.setCell ⟨b,off,none⟩ (ρ y)->K undef w'
     | false=>False
   | _,_=>False
  | _=>False
 | .call c =>
  match c.callee with
  | .value f =>
   match ρ f with
   | .func (.func fid) first captured =>
    qT P fid=true/\Calls P fid (first.toList++c.args.toList.map ρ++captured.toList).toArray w λe w'=>SF P o.type λv=>e=.returned v/\K v w'
   | _=>False
  | _=>a71 P ex o ρ w K
 | _=>a71 P ex o ρ w K
theorem a4w {P:Program} {ex:Nat->Option TypeId} {o:Oper} {ρ:Operand->Value} {w:World} {K:Value->World->Prop} (h:aFe P ex o ρ w K):LF P K ((execOp ρ o).run P w):=by
 unfold aFe at h
 split at h
 case h_1 t x y hop =>
  split at h
  ·rename_i b off hx
   split at h
   ·rename_i d i hd hi
    have key:∃ w',(storeVar t ⟨b,off,none⟩ (ρ y)).run P w=.ok () w'/\K undef w':=by
     split at h
     ·split at h
      ·rename_i cs hy
       split at h
       ·rename_i hn
        obtain ⟨h1,h2,h3⟩:=h
        refine IJ (P:=P) (t:=t) (K:=λw'=>K undef w') ?_
        unfold RW
        rw [hi,hy]
        simp only
        have hall:cs.toList.all pG=true:=List.all_eq_true.2 h1
        rw [hn,hall]
        exact ⟨h2,h3⟩
       ·exact h.elim
      ·exact h.elim
     ·split at h
      ·rename_i hn
       obtain ⟨h1,h2,h3⟩:=h
       have h0:pG (ρ y)=true:=h1 _ (by simp)
       obtain ⟨h4,h5⟩:=h2 0 (by omega)
       exact ⟨_,tN hi (Nat.eq_of_beq_eq_true hn) h0 h4 h5,h3 _ rfl⟩
      ·exact h.elim
    obtain ⟨w',h1,h2⟩:=key
    simp only [execOp,hop,hx,Instr.storeAt,Instr.sureAddr,Sem.run_bind,Sem.run_pure,Result.andThen,h1]
    exact h2
   ·exact h.elim
  ·exact h.elim
 case h_2 c hop =>
  split at h
  ·rename_i f hc
   split at h
   ·rename_i fid first captured hf
    obtain ⟨h0,h⟩:=h
    unfold qT at h0
    split at h0
    ·rename_i fn hfn
     simp only [Bool.and_eq_true,Bool.not_eq_true'] at h0
     rw [show (first.toList++c.args.toList.map ρ++captured.toList).toArray=first++c.args.map ρ++captured by apply Array.ext';simp] at h
     have hb':fn.body.isNone=false:=by cases hh:fn.body<;>simp_all
     simp only [execOp,hop,resolve,hc,Sem.run_bind,Deferred.ofValue,hf,Sem.run_pure,Result.andThen,invoke,callFunc,program,Sem.run,hfn,h0.2,hb',Bool.false_eq_true,if_false]
     exact h.mono λe w' h=>qR h
    ·cases h0
   ·exact h.elim
  ·exact JB h
 case h_3=>exact JB h
structure Fr where
 n:Nat
 l:List (Nat × Value)
def xJ (i:Nat):List (Nat × Value)->Value
 | []=>unk
 | (t,v) :: r=>match Nat.beq t i with|true=>v|false=>xJ i r
def Fr.get (s:Fr) (i:Nat):Value:=xJ i s.l
def Fr.eval (s:Fr):Operand->Value
 | .tmp t=>xJ t s.l
 | .const v=>v
 | .global g=>.pointer (some ⟨g,0,none⟩)
 | .func f=>.func (.func f) #[] #[]
def Fr.put (s:Fr) (d:Option Tmp) (v:Value):Fr :=
 match d with
 | some t=>match Nat.blt t s.n with
  | true=>⟨s.n,(t,v) :: s.l⟩
  | false=>s
 | none=>s
theorem CH (s:Fr) (d:Option Tmp) (v:Value) (i:Nat):(s.put d v).get i=if d=some i/\i<s.n then v else s.get i:=by
 cases d with
 | none=>simp [Fr.put]
 | some t =>
  unfold Fr.put
  simp only
  cases h:Nat.blt t s.n with
  | true =>
   simp only [Fr.get,xJ]
   have ht:t<s.n:=by simpa [Nat.blt_eq] using h
   cases hb:Nat.beq t i with
   | true=>have:t=i:=Nat.eq_of_beq_eq_true hb;subst this;simp [ht]
   | false=>have:t≠i:=Nat.ne_of_beq_eq_false hb;simp [this]
  | false =>
   have ht:¬ t<s.n:=by
    intro hh
    have h2:Nat.blt t s.n=true:=by rw [Nat.blt_eq];exact hh
    rw [h2] at h
    cases h
   simp only
   rw [if_neg]
   rintro ⟨e,hi⟩
   cases e
   exact ht hi
theorem SH (s:Fr) (d:Option Tmp) (v:Value):(s.put d v).n=s.n:=by
 cases d with
 | none=>rfl
 | some t=>unfold Fr.put;simp only;split<;>rfl
structure QU (ds:List Deferred) (s:Fr) (a:Act):Prop where
 defers:a.defers=ds
 size:a.tmps.size=s.n
 slot:∀ i,AE (s.get i)=false->a.tmps.getD i undef=s.get i
theorem QU.eval {s:Fr} {a:Act} (h:QU ds s a) {x:Operand} (hx:AE (s.eval x)=false):a.eval x=s.eval x:=by
 cases x with
 | tmp t=>exact h.slot t hx
 | const v=>rfl
 | global g=>rfl
 | func f=>rfl
theorem SI (a:Act) (d:Option Tmp) (v:Value) (i:Nat) :
  (a.put d v).tmps.getD i undef=if d=some i/\i<a.tmps.size then v else a.tmps.getD i undef:=by
 cases d with
 | none=>simp [Act.put]
 | some d =>
  simp only [Act.put,Option.some.injEq,Array.getD_eq_getD_getElem?]
  by_cases h:d=i
  ·subst h
   by_cases hd:d<a.tmps.size
   ·simp [hd]
   ·simp [hd]
  ·rw [Array.getElem?_setIfInBounds_ne h];simp [h]
theorem a1U (a:Act) (d:Option Tmp) (v:Value):(a.put d v).tmps.size=a.tmps.size:=by cases d<;>simp [Act.put]
theorem put_defers (a:Act) (d:Option Tmp) (v:Value):(a.put d v).defers=a.defers:=by cases d<;>rfl
theorem QU.put {s:Fr} {a:Act} (h:QU ds s a) (d:Option Tmp) {u v:Value} (huv:AE u=false->v=u):QU ds (s.put d u) (a.put d v):=by
 refine ⟨by rw [put_defers];exact h.defers,by rw [a1U,SH];exact h.size,λi hi=>?_⟩
 rw [CH] at hi ⊢
 rw [SI,h.size]
 split at hi
 ·rename_i hc;rw [if_pos hc,if_pos hc];exact huv hi
 ·rename_i hc;rw [if_neg hc,if_neg hc];exact h.slot i hi
def LG (s:Fr) (o:Oper):Bool:=o.op.operands.toList.all λx => !AE (s.eval x)
def vH (o:Oper):Bool:=match o.op with | .select _ _=>false|_=>true
theorem EV {s:Fr} {a:Act} (h:QU ds s a) {o:Oper} (ho:LG s o=true) (hs:vH o=true):execOp a.eval o=execOp s.eval o:=by
 refine execOp_congr o (λcs b e=>by simp [vH,e] at hs) λx hx=>h.eval ?_
 have:=List.all_eq_true.1 ho x (by simpa using hx)
 simpa using this
def Br (c:Bool) (A B:Prop):Prop:=match c with|true=>A|false=>B
theorem Br.intro {c:Bool} {A B:Prop} (h1:c=true->A) (h2:c=false->B):Br c A B:=by cases c;exact h2 rfl;exact h1 rfl
def a4x (s:Fr) (d:Option Tmp):Option Bool :=
 match d with
 | some d=>match xJ d s.l with
  | .bool c=>some c
  | _=>none
 | none=>none
def opK (P:Program) (wr:Bool) (ex:Nat->Option TypeId) (o:Oper) (s:Fr) (w:World) (K:Value->World->Prop):Prop :=
 match o.op with
 | .pick c x y=>match s.eval c with
  | .bool b=>Br b (K (s.eval x) w) (K (s.eval y) w)
  | _=>False
 | _=>if LG s o=true/\vH o=true then
   match iU P wr o s.eval w none λv=>K v w with
   | some p=>p
   | none=>match wr with
    | true=>aFe P ex o s.eval w K
    | false=>a71 P ex o s.eval w K
  else False
theorem Oper.qK {P:Program} {o:Oper} {a:Act} {w:World} {next:Act->World->Prop} {Q:Exit->Act->World->Prop}
  (h:LF P (λv w'=>next (a.put o.dst v) w') ((execOp a.eval o).run P w)):o.wp P a w next Q:=by
 unfold Oper.wp
 generalize (execOp a.eval o).run P w=r at *
 cases r with
 | ok n w' =>
  cases n<;>simp only [LF,Oper.upon] at h ⊢ <;> try exact h
  exact h.mono λe w'' ⟨v,he,hk⟩=>by subst he;exact hk
 | halt x w'=>exact h.elim
theorem a1V {s:Fr} {a:Act} (h:QU ds s a) {d:Option Tmp} {c:Bool} (hc:a4x s d=some c):∃ k,d=some k/\k<a.tmps.size/\a.tmps.getD k undef=.bool c/\s.get k=.bool c:=by
 unfold a4x at hc
 split at hc
 ·rename_i k
  split at hc
  ·rename_i c' hv
   cases hc
   have hv':s.get k=.bool c:=hv
   have e:=h.slot k (by rw [hv'];rfl)
   refine ⟨k,rfl,?_,by rw [e,hv'],hv'⟩
   rcases Nat.lt_or_ge k a.tmps.size with h'|h'
   ·exact h'
   ·rw [Array.getD_eq_getD_getElem?,Array.getElem?_eq_none h'] at e
    rw [hv'] at e
    cases e
  ·cases hc
 ·cases hc
theorem aAy {a:Act} {k:Nat} {v:Value} (h:k<a.tmps.size) (hv:a.tmps.getD k undef=v):a.put (some k) v=a:=by
 cases a with
 | mk t d =>
  simp only [Act.put]
  congr 1
  apply Array.ext
  ·simp
  ·intro i h1 h2
   rw [Array.getElem_setIfInBounds]
   split
   ·rename_i e;subst e;simp at hv h;simpa [h] using hv.symm
   ·rfl
def dR (D:Nat->Prop) (s s':Fr):Prop:=s'.n=s.n/\∀ i,¬ D i->AE (s'.get i)=false->s'.get i=s.get i
theorem dR.refl (D:Nat->Prop) (s:Fr):dR D s s:=⟨rfl,λ_ _ _=>rfl⟩
theorem dR.trans {D:Nat->Prop} {a b c:Fr} (h:dR D a b) (k:dR D b c):dR D a c:=⟨k.1.trans h.1,λi hi hu=>by
 have e:=k.2 i hi hu
 rw [e] at hu ⊢
 exact h.2 i hi hu⟩
theorem dR.mono {D D':Nat->Prop} {a b:Fr} (h:dR D a b) (hD:∀ i,D i->D' i):dR D' a b:=⟨h.1,λi hi=>h.2 i λhd=>hi (hD i hd)⟩
theorem dR.put {D:Nat->Prop} {a b:Fr} (h:dR D a b) {d:Option Tmp} (hd:∀ t,d=some t->D t) (v:Value):dR D a (b.put d v):=by
 refine ⟨by rw [SH];exact h.1,λi hi=>?_⟩
 rw [CH,if_neg (by rintro ⟨e,_⟩;exact hi (hd i e))]
 exact h.2 i hi
end Go.Vc
end

section
namespace Go.Vc
variable {ds:List Deferred}
open Go.RowKit
structure QV where
 slot:Nat
 g:Option Bool
 chain:List (Nat × Bool)
def qU (es:List QV) (t:Nat):Option QV:=es.find? λe=>e.slot == t
def aHs (a b:List (Nat × Bool)):Bool:=a.all λp=>b.contains p
def AF (es:List QV) (ch:List (Nat × Bool)) (s:Fr) (x:Operand):Bool :=
 match x with
 | .tmp t => !AE (s.eval (.tmp t))&&(match qU es t with|some e=>aHs e.chain ch|none=>true)
 | _=>true
def aJD (g:Option Bool) (c:Bool):Option Bool:=match g with|none=>some c|some g=>some (g&&c)
def aAz (want c:Bool):Bool:=match want with|true=>c|false => !c
def guardOf (ops:Array Oper) (es:List QV) (s:Fr) (o:Oper):Option (Option Bool × List (Nat × Bool)) :=
 match o.guard with
 | none=>some (none,[])
 | some (j,want) =>
  match (ops[j]?).bind (·.dst) with
  | some d=>match qU es d,xJ d s.l with
   | some e,.bool c=>some (aJD e.g (aAz want c),(d,want) :: e.chain)
   | _,_=>none
  | none=>none
def XL (d:Bool) (w:World):World->Prop:=λw'=>match d with|true=>∃ n,w'=w.drewN n|false=>w'=w
theorem XL.heap {d:Bool} {w w':World} (h:XL d w w'):w'.heap=w.heap:=by
 cases d
 ·exact congrArg World.heap h
 ·obtain ⟨n,rfl⟩:=h;rfl
def JC (P:Program) (d:Bool) (o:Oper) (ρ:Operand->Value) (w:World) (g:Option Bool) (K:Value->Prop):Prop :=
 match o.op with
 | .call c=>match c.callee with
  | .value f=>match ρ f with
   | .func (.func fid) first captured =>
    match P.funcs[fid]? with
    | some fn=>if fn.body.isSome=true/\(fn.name == "runtime.NumGoroutine")=false then
      L6 P fn.resultTypes.toList λvs=>ob g (∀ w',XL d w w'->Calls P fid (first.toList++c.args.toList.map ρ++captured.toList).toArray w' λe w''=>e=.returned (AB vs)/\XL d w w'')/\K (AB vs)
     else False
    | none=>False
   | _=>False
  | _=>False
 | _=>False
def aJE (c:Operand) (b:Bool) (ch:List (Nat × Bool)):List (Nat × Bool):=match c with | .tmp t=>(t,b) :: ch|_=>ch
def NT (P:Program) (wr:Bool) (d:Bool) (es:List QV) (o:Oper) (s:Fr) (w:World) (g:Option Bool) (ch:List (Nat × Bool)) (K:Value->Prop):Prop :=
 match o.op with
 | .pick c x y =>
  if AF es ch s c=true then
   match s.eval c with
   | .bool b =>
    if AF es (aJE c true ch) s x=true/\AF es (aJE c false ch) s y=true then
     match x,y,s.eval x,s.eval y with
     | .const (.bool true),_,_,.bool q=>K (.bool (b||q))
     | _,.const (.bool false),.bool q,_=>K (.bool (b&&q))
     | _,_,u,v=>K (if b=true then u else v)
    else False
   | _=>False
  else False
 | _=>if o.op.operands.toList.all (AF es ch s)=true/\vH o=true then
   match iU P wr o s.eval w g K with
   | some p=>p
   | none=>JC P d o s.eval w g K
  else False
def mR (f:Nat->Bool):List (Nat × Value)->List (Nat × Value)
 | []=>[]
 | (t,v) :: r=>match f t with|true=>(t,v) :: mR f r|false=>mR f r
theorem qV (f:Nat->Bool) (i:Nat):∀ (l:List (Nat × Value)),xJ i (mR f l)=if f i=true then xJ i l else unk
 | []=>by simp [mR,xJ]
 | (t,v) :: r=>by
  unfold mR
  cases h:f t with
  | true =>
   simp only [xJ]
   cases hb:Nat.beq t i with
   | true=>have:=Nat.eq_of_beq_eq_true hb;subst this;simp [h]
   | false=>simp only;exact qV f i r
  | false =>
   simp only [xJ]
   rw [qV f i r]
   cases hb:Nat.beq t i with
   | true=>have:=Nat.eq_of_beq_eq_true hb;subst this;simp [h]
   | false=>rfl
def SJ (es:List QV) (t:Nat):Bool:=match qU es t with
 | some e=>(match e.g with|some _=>false|none=>true)
 | none=>true
def forget (es:List QV) (s:Fr):Fr:=⟨s.n,mR (SJ es) s.l⟩
def Holds (s:Fr) (ch:List (Nat × Bool)):Prop:=∀ p∈ch,s.get p.1=.bool p.2
structure Rel (ds:List Deferred) (es:List QV) (s:Fr) (a:Act):Prop where
 defers:a.defers=ds
 size:a.tmps.size=s.n
 slot:∀ i,match qU es i with
  | none=>AE (s.get i)=false->a.tmps.getD i undef=s.get i
  | some e=>(DX e.g->AE (s.get i)=false->a.tmps.getD i undef=s.get i)/\(¬ DX e.g->a.tmps.getD i undef=undef)
 chain:∀ i e,qU es i=some e->(DX e.g ↔ Holds s e.chain)/\∀ p∈e.chain,(qU es p.1).isSome=true
theorem Holds.sub {s:Fr} {a b:List (Nat × Bool)} (h:Holds s b) (hs:aHs a b=true):Holds s a:=λp hp=>by
 have:=List.all_eq_true.1 hs p hp
 exact h p (by simpa using this)
theorem jE {es:List QV} {s:Fr} {a:Act} {ch:List (Nat × Bool)} {x:Operand} (h:AF es ch s x=true) (hr:Rel ds es s a) (hc:Holds s ch):a.eval x=s.eval x:=by
 cases x with
 | tmp t =>
  simp only [AF,Bool.and_eq_true,Bool.not_eq_true'] at h
  obtain ⟨h1,h2⟩:=h
  have h3:=hr.slot t
  cases hf:qU es t with
  | none=>rw [hf] at h3;exact h3 h1
  | some e =>
   rw [hf] at h2 h3
   have hg:=(hr.chain t e hf).1.2 (hc.sub h2)
   exact h3.1 hg h1
 | const v=>rfl
 | global g=>rfl
 | func f=>rfl
theorem a6w {g:Option Bool} {c:Bool}:DX (aJD g c) ↔ DX g/\c=true:=by
 cases g<;>simp [aJD,DX]
theorem WH {ops:Array Oper} {es:List QV} {s:Fr} {a:Act} {o:Oper} {g:Option Bool} {ch:List (Nat × Bool)} (h:guardOf ops es s o=some (g,ch)) (hr:Rel ds es s a) :
  (Region.wanted o (yielded ops a.tmps)=true ↔ DX g)/\(DX g ↔ Holds s ch)/\∀ p∈ch,(qU es p.1).isSome=true:=by
 unfold guardOf at h
 split at h
 ·rename_i hg
  cases h
  refine ⟨by simp [Region.wanted,hg,DX],⟨λ_ p hp=>(by cases hp),λ_=>trivial⟩,λp hp=>(by cases hp)⟩
 ·rename_i j want hg
  split at h
  ·rename_i d hd
   split at h
   ·rename_i e c he hc
    cases h
    obtain ⟨h1,h2⟩:=hr.chain d e he
    have h3:=hr.slot d
    rw [he] at h3
    have hy:DX e.g->yielded ops a.tmps j=some c:=by
     intro hge
     have VX:s.get d=.bool c:=hc
     have h4:=h3.1 hge (by rw [VX];rfl)
     rw [VX] at h4
     unfold yielded
     rw [hd]
     simp only [Option.bind_some]
     rw [Array.getD_eq_getD_getElem?] at h4
     rcases Nat.lt_or_ge d a.tmps.size with h'|h'
     ·simp only [h',getElem?_pos,Option.getD_some] at h4;simp [h',h4]
     ·rw [Array.getElem?_eq_none h'] at h4;cases h4
    have hn:¬ DX e.g->yielded ops a.tmps j=none:=by
     intro hge
     have h4:=h3.2 hge
     unfold yielded
     rw [hd]
     simp only [Option.bind_some]
     rw [Array.getD_eq_getD_getElem?] at h4
     rcases Nat.lt_or_ge d a.tmps.size with h'|h'
     ·simp only [h',getElem?_pos,Option.getD_some] at h4;simp [h',h4,undef]
     ·rw [Array.getElem?_eq_none h']
    have hcw:aAz want c=true ↔ c=want:=by cases want<;>cases c<;>simp [aAz]
    refine ⟨?_,?_,?_⟩
    ·rw [a6w,hcw]
     by_cases hge:DX e.g
     ·simp [Region.wanted,hg,hy hge,hge]
     ·simp [Region.wanted,hg,hn hge,hge]
    ·rw [a6w,hcw,h1]
     constructor
     ·rintro ⟨ha,rfl⟩ p hp
      rcases List.mem_cons.1 hp with rfl|hp
      ·exact hc
      ·exact ha p hp
     ·intro ha
      refine ⟨λp hp=>ha p (List.mem_cons_of_mem _ hp),?_⟩
      have:=ha (d,want) (by simp)
      simp only at this
      rw [show s.get d=.bool c from hc] at this
      cases this;rfl
    ·intro p hp
     rcases List.mem_cons.1 hp with rfl|hp
     ·simp [he]
     ·exact h2 p hp
   ·cases h
  ·cases h
theorem JD (es:List QV) (e:QV) (i:Nat):qU (e :: es) i=if e.slot=i then some e else qU es i:=by
 unfold qU
 rw [List.find?_cons]
 by_cases h:e.slot=i
 ·simp [h]
 ·simp [h,show (e.slot == i)=false by simpa using h]
theorem Rel.put {es:List QV} {s:Fr} {a:Act} (hr:Rel ds es s a) {t:Nat} {g:Option Bool} {ch:List (Nat × Bool)} {u v:Value} (hn:(qU es t).isNone=true) (ht:t<s.n)
  (hg:DX g ↔ Holds s ch) (hch:∀ p∈ch,(qU es p.1).isSome=true) (h1:DX g->AE u=false->v=u) (h2:¬ DX g->v=undef) :
  Rel ds (⟨t,g,ch⟩ :: es) (s.put (some t) u) (a.put (some t) v):=by
 have hne:∀ i,(qU es i).isSome=true->t≠i:=by
  rintro i hi rfl
  cases hf:qU es t<;>simp [hf] at hn hi
 have hsa:∀ i,i≠t->(s.put (some t) u).get i=s.get i:=λi hi=>by rw [CH,if_neg (by rintro ⟨h,_⟩;cases h;exact hi rfl)]
 have haa:∀ i,i≠t->(a.put (some t) v).tmps.getD i undef=a.tmps.getD i undef:=λi hi=>by rw [SI,if_neg (by rintro ⟨h,_⟩;cases h;exact hi rfl)]
 have hst:(s.put (some t) u).get t=u:=by rw [CH,if_pos ⟨rfl,ht⟩]
 have hat:(a.put (some t) v).tmps.getD t undef=v:=by rw [SI,if_pos ⟨rfl,by rw [hr.size];exact ht⟩]
 have hold:∀ ch',(∀ p∈ch',(qU es p.1).isSome=true)->(Holds s ch' ↔ Holds (s.put (some t) u) ch'):=by
  intro ch' hc
  constructor
  ·intro h p hp;rw [hsa _ (λe=>hne _ (hc p hp) e.symm)];exact h p hp
  ·intro h p hp;rw [<-hsa p.1 (λe=>hne _ (hc p hp) e.symm)];exact h p hp
 refine ⟨by rw [put_defers];exact hr.defers,by rw [a1U,SH];exact hr.size,λi=>?_,λi e he=>?_⟩
 ·rw [JD]
  by_cases hi:t=i
  ·subst hi
   rw [if_pos rfl]
   simp only
   rw [hst,hat]
   exact ⟨h1,h2⟩
  ·rw [if_neg hi,hsa i (λe=>hi e.symm),haa i (λe=>hi e.symm)]
   exact hr.slot i
 ·rw [JD] at he
  have hs':∀ p:Nat × Bool,(qU es p.1).isSome=true->(qU (⟨t,g,ch⟩ :: es) p.1).isSome=true:=by
   intro p hp;rw [JD];split;rfl;exact hp
  split at he
  ·cases he
   exact ⟨hg.trans (hold ch hch),λp hp=>hs' p (hch p hp)⟩
  ·obtain ⟨h3,h4⟩:=hr.chain i e he
   exact ⟨h3.trans (hold e.chain h4),λp hp=>hs' p (h4 p hp)⟩
theorem NU {P:Program} {d:Bool} {o:Oper} {ρ:Operand->Value} {w:World} {g:Option Bool} {K:Value->Prop} (h:JC P d o ρ w g K) :
  ∃ v,(DX g->∀ w',XL d w w'->Oper.quietUpon P (XL d w) w' v ((execOp ρ o).run P w'))/\K v:=by
 unfold JC at h
 split at h
 ·rename_i c hop
  split at h
  ·rename_i f hc
   split at h
   ·rename_i fid first captured hf
    split at h
    ·rename_i fn hfn
     split at h
     ·rename_i hb
      rw [show (first.toList++c.args.toList.map ρ++captured.toList).toArray=first++c.args.map ρ++captured by apply Array.ext';simp] at h
      obtain ⟨vs,h1,h2⟩:=wM h
      refine ⟨_,λhg w' hw=>?_,h2⟩
      have h3:=iJ h1 hg w' hw
      have hb':fn.body.isNone=false:=by cases hh:fn.body<;>simp_all
      simp only [execOp,hop,resolve,hc,Sem.run_bind,Deferred.ofValue,hf,Sem.run_pure,Result.andThen,invoke,callFunc,program,Sem.run,hfn,hb.2,hb',Bool.false_eq_true,if_false]
      exact ⟨rfl,h3⟩
     ·exact h.elim
    ·exact h.elim
   ·exact h.elim
  ·exact h.elim
 ·exact h.elim
theorem a0r {P:Program} {wr d:Bool} {es:List QV} {o:Oper} {s:Fr} {a:Act} {w:World} {g:Option Bool} {ch:List (Nat × Bool)} {K:Value->Prop}
  (h:NT P wr d es o s w g ch K) (hr:Rel ds es s a) (hg:DX g ↔ Holds s ch) :
  ∃ u,(DX g->∃ v,(AE u=false->v=u)/\∀ w',XL d w w'->o.quietAt P a (XL d w) w' v)/\K u:=by
 unfold NT at h
 split at h
 ·rename_i c x y hop
  split at h
  ·rename_i hc
   split at h
   ·rename_i b hb
    split at h
    ·rename_i hxy
     have main:DX g->∃ v,(v=if b=true then s.eval x else s.eval y)/\∀ w',XL d w w'->o.quietAt P a (XL d w) w' v:=by
      intro CI
      have hh:=hg.1 CI
      have VX:a.eval c=.bool b:=by rw [jE hc hr hh,hb]
      have ext:∀ (b':Bool),b=b'->Holds s (aJE c b' ch):=by
       intro b' e
       subst e
       cases c<;>try exact hh
       rename_i t
       intro p hp
       rcases List.mem_cons.1 hp with rfl|hp
       ·exact hb
       ·exact hh p hp
      refine ⟨_,rfl,λw' _=>?_⟩
      unfold Oper.quietAt
      simp only [execOp,hop,VX,asBool,Sem.run_bind,Sem.run_pure,Result.andThen,Oper.quietUpon]
      refine ⟨trivial,?_⟩
      cases b with
      | true =>
       have:=jE (x:=x) hxy.1 hr (ext true rfl)
       simpa using this
      | false =>
       have:=jE (x:=y) hxy.2 hr (ext false rfl)
       simpa using this
     split at h
     ·rename_i y' u q hy
      refine ⟨_,λCI=>?_,h⟩
      obtain ⟨v,hv,hq⟩:=main CI
      refine ⟨v,λ_=>?_,hq⟩
      rw [hv]
      cases b
      ·simpa using hy
      ·rfl
     ·rename_i x' u q hx _
      refine ⟨_,λCI=>?_,h⟩
      obtain ⟨v,hv,hq⟩:=main CI
      refine ⟨v,λ_=>?_,hq⟩
      rw [hv]
      cases b
      ·rfl
      ·simpa using hx
     ·refine ⟨_,λCI=>?_,h⟩
      obtain ⟨v,hv,hq⟩:=main CI
      exact ⟨v,λ_=>hv,hq⟩
    ·exact h.elim
   ·exact h.elim
  ·exact h.elim
 ·split at h
  ·rename_i ho
   have hex:DX g->execOp a.eval o=execOp s.eval o:=by
    intro CI
    refine execOp_congr o (λcs b e=>by have:=ho.2;simp [vH,e] at this) λx hx=>jE (List.all_eq_true.1 ho.1 x (by simpa using hx)) hr (hg.1 CI)
   split at h
   ·rename_i p hp
    obtain ⟨v,h1,h2⟩:=LD hp h
    refine ⟨v,λCI=>⟨v,λ_=>rfl,λw' hw=>?_⟩,h2⟩
    unfold Oper.quietAt
    rw [hex CI,h1 CI w' hw.heap]
    exact ⟨rfl,rfl⟩
   ·obtain ⟨v,h1,h2⟩:=NU h
    refine ⟨v,λCI=>⟨v,λ_=>rfl,λw' hw=>?_⟩,h2⟩
    unfold Oper.quietAt
    rw [hex CI]
    exact h1 CI w' hw
  ·exact h.elim
theorem SK (es:List QV) (s:Fr) (i:Nat):(forget es s).get i=if SJ es i=true then s.get i else unk:=qV _ _ _
theorem Rel.done {es:List QV} {s:Fr} {a:Act} (hr:Rel ds es s a):QU ds (forget es s) a:=by
 refine ⟨hr.defers,hr.size,λi hi=>?_⟩
 rw [SK] at hi ⊢
 split at hi
 ·rename_i hf
  rw [if_pos hf]
  have h3:=hr.slot i
  unfold SJ at hf
  cases he:qU es i with
  | none=>rw [he] at h3;exact h3 hi
  | some e =>
   rw [he] at h3 hf
   simp only at hf
   have hg:DX e.g:=by cases hgg:e.g<;>simp_all [DX]
   exact h3.1 hg hi
 ·cases hi
theorem a1W {D:Nat->Prop} {s0:Fr} {es:List QV} {s:Fr} (h:dR D s0 s):dR D s0 (forget es s):=by
 refine ⟨h.1,λi hi hu=>?_⟩
 rw [SK] at hu ⊢
 split at hu
 ·rename_i hf;rw [if_pos hf];exact h.2 i hi hu
 ·cases hu
theorem vI {P:Program} {ops:Array Oper} {C:World->Prop} {Qa:Act->Prop} {Q:Exit->Act->World->Prop} (hQ:∀ a w,C w->Qa a->Q .normal a w) :
  ∀ (l:List Oper) (a:Act) (w:World),C w->wpQuiet P ops C Qa l a->wpList P ops Q l a w
 | [],a,w,hw,h=>hQ a w hw h
 | o :: rest,a,w,hw,h=>by
  unfold wpQuiet at h
  unfold wpList
  split
  ·rename_i sJ
   rw [if_pos sJ] at h
   exact .inl (Oper.wp_of_quiet hw (λa' w' hw' ha=>vI hQ rest a' w' hw' ha) h)
  ·rename_i sJ
   rw [if_neg sJ] at h
   exact vI hQ rest _ _ hw h
theorem Rel.start {s:Fr} {a:Act} (h:QU ds s a):Rel ds [] s a:=⟨h.defers,h.size,λi=>h.slot i,λi e he=>(by cases he)⟩
end Go.Vc
end

section
namespace Go.Vc
variable {ds:List Deferred}
def aJF (P:Program) (wr:Bool) (o:Oper) (s:Fr) (w:World) (S:World->Prop) (K:Value->Prop):Prop :=
 match o.op with
 | .pick c x y=>match s.eval c with
  | .bool b=>Br b (K (s.eval x)) (K (s.eval y))
  | _=>False
 | _=>match LG s o&&vH o with
  | true=>match iN P o s.eval K with
   | false=>match iU P wr o s.eval w none K with
    | some p=>p
    | none=>False
   | true=>SF P o.type λv=>(∀ w',S w'->match iU P wr o s.eval w' none (λu=>u=v) with
    | some p=>p
    | none=>False)/\K v
  | false=>False
def zI (P:Program) (wr:Bool) (o:Oper) (still:Bool) (s:Fr) (w:World) (S:World->Prop) (K:Value->World->Prop):Prop :=
 match still with
 | true=>aJF P wr o s w S λv=>K v w
 | false=>opK P wr (λ_=>none) o s w λv w'=>S w'/\K v w'
def fR (Q:Exit->Act->World->Prop):Exit->Act->World->Prop
 | .panic _,_,_=>False
 | e,a,w=>Q e a w
theorem a73 {Q:Exit->Act->World->Prop}:∀ e a w,fR Q e a w->Q e a w:=λe a w h=>by
 cases e<;>first|exact h|exact h.elim
end Go.Vc
end

section
namespace Go.Vc
variable {ds:List Deferred}
section
variable {P:Program} {ops:Array Oper} {Q:Exit->Act->World->Prop} {md:Region.Mode} {S:World->Prop} {E:Array Bool->Prop} {K:Act->World->Prop}
def nJ (P:Program) (md:Region.Mode) (ops:Array Oper) (Q:Exit->Act->World->Prop) (S:World->Prop) (E:Array Bool->Prop) (K:Act->World->Prop):Nat->Array Bool->Act->World->Prop
 | 0,listed,a,w=>E listed/\K a w
 | n+1,listed,a,w=>Region.ready md ops listed≠[]/\∀ i∈Region.ready md ops listed,wpOp P ops Q i (λa' w'=>S w'/\nJ P md ops Q S E K n (listed.setIfInBounds i true) a' w') a w
theorem xK {m:Nat} (hK:∀ listed a w,E listed->K a w->wpAny P md ops Q m listed a w):∀ (n:Nat) (listed:Array Bool) (a:Act) (w:World),nJ P md ops Q S E K n listed a w->wpAny P md ops Q (n+m) listed a w
 | 0,listed,a,w,h=>by rw [Nat.zero_add];exact hK listed a w h.1 h.2
 | n+1,listed,a,w,h=>by
  rw [show n+1+m=(n+m)+1 by omega]
  exact ⟨λh0=>absurd h0 h.1,λi hi=>wpOp_mono (λa' w' h'=>xK hK n _ a' w' h'.2) (h.2 i hi)⟩
theorem LH {i:Nat} {oi:Oper} {v:Value} (hi:ops[i]? = some oi) (hsel:∀ (j:Nat) (o:Oper) cs b,ops[j]? = some o->o.op≠.select cs b)
  (hQ:∀ c a w,Q (.panic c) (a.put oi.dst v) w->Q (.panic c) a w) (hE:∀ listed,E (listed.setIfInBounds i true)->i∈Region.ready md ops listed->∀ j∈Region.ready md ops listed,j=i) :
  ∀ (n:Nat) (listed:Array Bool) (a:Act) (w:World),
   (∀ j oj,ops[j]? = some oj->j≠i->listed.getD j true=false->(∀ e∈oj.after,Region.binds md e=true->e.on≠i)->oi.apart ops oj=true) ->
   i∈Region.ready md ops listed->YieldsIf P ops S oi v a->S w ->
   nJ P md ops Q S E K n (listed.setIfInBounds i true) (a.put oi.dst v) w->nJ P md ops Q S E K (n+1) listed a w:=by
 intro n
 induction n with
 | zero =>
  intro listed a w _ hr hy hS H
  refine ⟨λh=>(by rw [h] at hr;cases hr),λj hj=>?_⟩
  have:=hE listed H.1 hr j hj
  subst this
  exact hy.wpOp hi hS ⟨hS,H⟩
 | succ n ih =>
  intro listed a w hfree hr hy hS H
  refine ⟨λh=>(by rw [h] at hr;cases hr),λj hj=>?_⟩
  by_cases hji:j=i
  ·subst hji;exact hy.wpOp hi hS ⟨hS,H⟩
  ·have h1:=H.2 j (ready_mono hj hji)
   obtain ⟨a1X,oj,hoj,hall⟩:=mem_ready.1 hj
   have hnot:∀ e∈oj.after,Region.binds md e=true->e.on≠i:=λe he hb heq=>by
    have h1:=hall e he hb
    have h0:=(mem_ready.1 hr).1
    rw [heq] at h1
    rcases Nat.lt_or_ge i listed.size with h'|h'
    ·simp [h'] at h0 h1;rw [h0] at h1;cases h1
    ·simp [Array.getElem?_eq_none h'] at h1
   have h2:=wpOp_putIf hoj (hfree j oj hoj hji a1X hnot) (λcs b=>hsel i oi cs b hi) (λcs b=>hsel j oj cs b hoj) hQ hy h1
   have SL:∀ k ok,ops[k]? = some ok->k≠i->(listed.setIfInBounds j true).getD k true=false ->
     (∀ e∈ok.after,Region.binds md e=true->e.on≠i)->oi.apart ops ok=true:=λk ok hk hki hun hno=>by
    refine hfree k ok hk hki ?_ hno
    by_cases hjk:j=k
    ·subst hjk;exact a1X
    ·rw [getD_set_ne true hjk] at hun;exact hun
   refine wpOp_mono (λa' w' h3=>⟨h3.2.1,ih (listed.setIfInBounds j true) a' w' SL (ready_mono hr (Ne.symm hji)) h3.1 h3.2.1 ?_⟩) h2
   rw [Array.setIfInBounds_comm _ _ hji]
   exact h3.2.2
end
def NV (ops:Array Oper) (T:List Nat) (fin:Array Bool):Bool:=T.all λi=>Region.ready .any ops (fin.setIfInBounds i false) == [i]
def bA:List Nat->Array Bool->Array Bool
 | [],l=>l
 | i :: r,l=>bA r (l.setIfInBounds i true)
def lH (ops:Array Oper):List Nat->Array Bool->Bool
 | [],_=>true
 | i :: r,listed=>(Region.ready .any ops listed).contains i&&Region.free .any ops listed i&&lH ops r (listed.setIfInBounds i true)
def LI (P:Program) (wr:Bool) (o:Oper) (s:Fr) (w:World) (K:Value->Prop):Prop :=
 match o.op with
 | .pick c x y=>match s.eval c with
  | .bool b=>Br b (K (s.eval x)) (K (s.eval y))
  | _=>False
 | _=>match LG s o&&vH o with
  | true=>match iU P wr o s.eval w none K with
   | some p=>p
   | none=>False
  | false=>False
section
variable {P:Program} {ops:Array Oper} {Q:Exit->Act->World->Prop} {md:Region.Mode} {S:Array Bool->World->Prop} {rd:Nat->Bool} {E:Array Bool->Prop} {K:Act->World->Prop}
def nK (P:Program) (md:Region.Mode) (ops:Array Oper) (Q:Exit->Act->World->Prop) (S:Array Bool->World->Prop) (rd:Nat->Bool) (E:Array Bool->Prop) (K:Act->World->Prop):Nat->Array Bool->Act->World->Prop
 | 0,listed,a,w=>E listed/\K a w
 | n+1,listed,a,w=>Region.ready md ops listed≠[]/\∀ i∈Region.ready md ops listed,wpOp P ops Q i (λa' w'=>S (listed.setIfInBounds i true) w'/\(rd i=true->w'=w)/\nK P md ops Q S rd E K n (listed.setIfInBounds i true) a' w') a w
theorem JE (hK:∀ listed a w,E listed->K a w->wpAny P md ops Q 0 listed a w):∀ (n:Nat) (listed:Array Bool) (a:Act) (w:World),nK P md ops Q S rd E K n listed a w->wpAny P md ops Q n listed a w
 | 0,listed,a,w,h=>hK listed a w h.1 h.2
 | n+1,listed,a,w,h=>⟨λh0=>absurd h0 h.1,λi hi=>wpOp_mono (λa' w' h'=>JE hK n _ a' w' h'.2.2) (h.2 i hi)⟩
theorem a0s {i:Nat} {oi:Oper} {v:Value} (hi:ops[i]? = some oi) (hsel:∀ (j:Nat) (o:Oper) cs b,ops[j]? = some o->o.op≠.select cs b)
  (hQ:∀ c a w,Q (.panic c) (a.put oi.dst v) w->Q (.panic c) a w) (hE:∀ listed,E (listed.setIfInBounds i true)->i∈Region.ready md ops listed->∀ j∈Region.ready md ops listed,j=i)
  (a6x:∀ x w,i∈Region.ready md ops x->S x w->S (x.setIfInBounds i true) w)
  (hmono:∀ (x:Array Bool) (j:Nat) (w w':World),i∈Region.ready md ops x->j∈Region.ready md ops x->j≠i->S x w->(rd j=true->w'=w)->S ((x.setIfInBounds i true).setIfInBounds j true) w'->S (x.setIfInBounds j true) w') :
  ∀ (n:Nat) (listed:Array Bool) (a:Act) (w:World),
   (∀ j oj,ops[j]? = some oj->j≠i->listed.getD j true=false->(∀ e∈oj.after,Region.binds md e=true->e.on≠i)->oi.apart ops oj=true) ->
   i∈Region.ready md ops listed->YieldsIf P ops (λw=>∃ x,i∈Region.ready md ops x/\S x w) oi v a->S listed w ->
   nK P md ops Q S rd E K n (listed.setIfInBounds i true) (a.put oi.dst v) w->nK P md ops Q S rd E K (n+1) listed a w:=by
 intro n
 induction n with
 | zero =>
  intro listed a w _ hr hy hS H
  refine ⟨λh=>(by rw [h] at hr;cases hr),λj hj=>?_⟩
  have:=hE listed H.1 hr j hj
  subst this
  exact hy.wpOp hi ⟨listed,hr,hS⟩ ⟨a6x _ _ hr hS,λ_=>rfl,H⟩
 | succ n ih =>
  intro listed a w hfree hr hy hS H
  refine ⟨λh=>(by rw [h] at hr;cases hr),λj hj=>?_⟩
  by_cases hji:j=i
  ·subst hji;exact hy.wpOp hi ⟨listed,hr,hS⟩ ⟨a6x _ _ hr hS,λ_=>rfl,H⟩
  ·have h1:=H.2 j (ready_mono hj hji)
   obtain ⟨a1X,oj,hoj,hall⟩:=mem_ready.1 hj
   have hnot:∀ e∈oj.after,Region.binds md e=true->e.on≠i:=λe he hb heq=>by
    have h1:=hall e he hb
    have h0:=(mem_ready.1 hr).1
    rw [heq] at h1
    rcases Nat.lt_or_ge i listed.size with h'|h'
    ·simp [h'] at h0 h1;rw [h0] at h1;cases h1
    ·simp [Array.getElem?_eq_none h'] at h1
   have h2:=wpOp_putIf hoj (hfree j oj hoj hji a1X hnot) (λcs b=>hsel i oi cs b hi) (λcs b=>hsel j oj cs b hoj) hQ hy h1
   have SL:∀ k ok,ops[k]? = some ok->k≠i->(listed.setIfInBounds j true).getD k true=false ->
     (∀ e∈ok.after,Region.binds md e=true->e.on≠i)->oi.apart ops ok=true:=λk ok hk hki hun hno=>by
    refine hfree k ok hk hki ?_ hno
    by_cases hjk:j=k
    ·subst hjk;exact a1X
    ·rw [getD_set_ne true hjk] at hun;exact hun
   refine wpOp_mono (λa' w' h3=>?_) h2
   obtain ⟨hy',hS',hrd,lT⟩:=h3
   have hSj:=hmono listed j w w' hr hj hji hS hrd hS'
   refine ⟨hSj,hrd,ih (listed.setIfInBounds j true) a' w' SL (ready_mono hr (Ne.symm hji)) hy' hSj ?_⟩
   rw [Array.setIfInBounds_comm _ _ hji]
   exact lT
end
end Go.Vc
end

section
namespace Go.Vc
variable {ds:List Deferred}
open Go.RowKit
abbrev gO:=List (Nat × Sh)
def Sc.Arg (α:Type):Sc->Type
 | .int _=>Int->α
 | .bool=>Bool->α
 | .str=>ByteArray->α
 | .ptr=>Option Addr->α
 | .slice=>Option Addr->Nat->Nat->α
 | .map=>Option Nat->α
 | .fn=>FuncId->Array Value->Array Value->α
 | .any=>Value->α
 | .adr=>Nat->Nat->α
def aFf (α:Type):List Sc->Type
 | []=>α
 | s :: r=>Sc.Arg (aFf α r) s
def Sh.Arg (α:Type):Sh->Type
 | .one s=>s.Arg α
 | .agg l=>aFf α l
def B3 (ρ:Type):gO->Type
 | []=>ρ
 | (_,s) :: r=>s.Arg (B3 ρ r)
def Sc.app {α:Type}:(s:Sc)->s.Arg α->Value->Option α
 | .int k,f,.int k' n=>if k=k' then some (f n) else none
 | .bool,f,.bool b=>some (f b)
 | .str,f,.string s=>some (f s)
 | .ptr,f,.pointer p=>some (f p)
 | .slice,f,.slice p n c=>some (f p n c)
 | .map,f,.map r=>some (f r)
 | .fn,f,.func (.func g) a c=>some (f g a c)
 | .any,f,v=>match AE v with|true=>none|false=>some (f v)
 | .adr,f,.pointer (some ⟨b,o,none⟩)=>some (f b o)
 | _,_,_=>none
def a74 {α:Type}:(l:List Sc)->aFf α l->List Value->Option α
 | [],x,[]=>some x
 | s :: r,f,v :: vs=>match s.app f v with
  | some g=>a74 r g vs
  | none=>none
 | _,_,_=>none
def Sh.app {α:Type}:(s:Sh)->s.Arg α->Value->Option α
 | .one s,f,v=>s.app f v
 | .agg l,f,.agg cs=>a74 l f cs.toList
 | _,_,_=>none
def B3.app {ρ:Type}:(l:gO)->B3 ρ l->List Value->Option ρ
 | [],x,[]=>some x
 | (_,s) :: r,f,v :: vs=>match s.app f v with
  | some g=>B3.app r g vs
  | none=>none
 | _,_,_=>none
def Sc.all:Sc->(Value->Prop)->Prop
 | .int k,K=>∀ n:Int,K (.int k n)
 | .bool,K=>∀ b:Bool,K (.bool b)
 | .str,K=>∀ s:ByteArray,K (.string s)
 | .ptr,K=>∀ p:Option Addr,K (.pointer p)
 | .slice,K=>∀ p:Option Addr,∀ n c:Nat,K (.slice p n c)
 | .map,K=>∀ r:Option Nat,K (.map r)
 | .fn,K=>∀ (f:FuncId) (a c:Array Value),K (.func (.func f) a c)
 | .any,K=>∀ v:Value,K v
 | .adr,K=>∀ b o:Nat,K (.pointer (some ⟨b,o,none⟩))
def aJG:List Sc->(List Value->Prop)->Prop
 | [],K=>K []
 | s :: r,K=>s.all λv=>aJG r λvs=>K (v :: vs)
def Sh.all:Sh->(Value->Prop)->Prop
 | .one s,K=>s.all K
 | .agg l,K=>aJG l λvs=>K (.agg vs.toArray)
def gO.all:gO->(List Value->Prop)->Prop
 | [],K=>K []
 | (_,s) :: r,K=>s.all λv=>gO.all r λvs=>K (v :: vs)
theorem Sc.qE {α:Type} {s:Sc} {f:s.Arg α} {v:Value} {x:α} (h:s.app f v=some x) {K:Value->Prop} (hK:s.all K):K v/\AE v=false:=by
  cases s
  case fn =>
    cases v
    case func g a c=>cases g<;>simp only [Sc.app] at h<;>first|(cases h;done)|exact ⟨hK _ _ _,rfl⟩
    all_goals simp only [Sc.app] at h;cases h
  case adr =>
    cases v
    case pointer p =>
      rcases p with _|⟨b,o,s⟩
      · simp only [Sc.app] at h;cases h
      · cases s with
        | none=>exact ⟨hK _ _,rfl⟩
        | some s=>simp only [Sc.app] at h;cases h
    all_goals simp only [Sc.app] at h;cases h
  all_goals
   cases v<;>simp only [Sc.app,AE] at h<;>first
    | (cases h;done)
    | exact ⟨hK _,rfl⟩
    | exact ⟨hK _ _ _,rfl⟩
    | (split at h
       · rename_i e;subst e;exact ⟨hK _,rfl⟩
       · cases h)
    | (split at h
       · cases h
       · rename_i hu;exact ⟨hK _,hu⟩)
theorem a1Y {α:Type}:∀ {l:List Sc} {f:aFf α l} {vs:List Value} {x:α},a74 l f vs=some x->∀ {K:List Value->Prop},aJG l K->K vs
 | [],_,[],_,_,_,hK=>hK
 | s :: r,f,v :: vs,x,h,K,hK=>by
  unfold a74 at h
  split at h
  ·rename_i g hg
   exact a1Y h (Sc.qE hg hK).1
  ·cases h
 | [],_,_ :: _,_,h,_,_=>by simp [a74] at h
 | _ :: _,_,[],_,h,_,_=>by simp [a74] at h
theorem Sh.qE {α:Type} {s:Sh} {f:s.Arg α} {v:Value} {x:α} (h:s.app f v=some x) {K:Value->Prop} (hK:s.all K):K v/\AE v=false:=by
 unfold Sh.app at h
 split at h
 ·exact Sc.qE h hK
 ·rename_i cs
  have:=a1Y h hK
  exact ⟨by simpa using this,rfl⟩
 ·cases h
theorem B3.qE {ρ:Type}:∀ {l:gO} {f:B3 ρ l} {vs:List Value} {x:ρ},B3.app l f vs=some x->∀ {K:List Value->Prop},gO.all l K->K vs/\vs.length=l.length/\∀ v∈vs,AE v=false
 | [],_,[],_,_,_,hK=>⟨hK,rfl,λv hv=>(by cases hv)⟩
 | (t,s) :: r,f,v :: vs,x,h,K,hK=>by
  unfold B3.app at h
  split at h
  ·rename_i g hg
   obtain ⟨h1,h2⟩:=Sh.qE hg hK
   obtain ⟨h3,h4,h5⟩:=B3.qE h h1
   refine ⟨h3,by simp [h4],λu hu=>?_⟩
   rcases List.mem_cons.1 hu with rfl|hu
   ·exact h2
   ·exact h5 u hu
  ·cases h
 | [],_,_ :: _,_,h,_,_=>by simp [B3.app] at h
 | _ :: _,_,[],_,h,_,_=>by simp [B3.app] at h
def vZ {α:Type} (p:α->Prop):Prop:=∃ x,p x
theorem bY {α:Type} {p:α->Prop} (x:α) (h:p x):vZ p:=⟨x,h⟩
def slotsOf (l:gO) (s:Fr):List Value:=l.map λv=>xJ v.1 s.l
def dY (t:Nat):List Nat->Bool
 | []=>false
 | x :: r=>match Nat.beq t x with|true=>true|false=>dY t r
theorem iV {t:Nat}:∀ {l:List Nat},dY t l=true ↔ t∈l
 | []=>by simp [dY]
 | x :: r=>by
  unfold dY
  cases h:Nat.beq t x with
  | true=>have:=Nat.eq_of_beq_eq_true h;simp [this]
  | false=>have:=Nat.ne_of_beq_eq_false h;simp [this,iV]
def Fr.drop (s:Fr) (asg:List Nat):Fr:=⟨s.n,mR (λt => !dY t asg) s.l⟩
def Fr.keep (s:Fr) (k:Option (List Nat)):Fr:=match k with|none=>s|some k=>⟨s.n,mR (λt=>dY t k) s.l⟩
theorem SM (s:Fr) (asg:List Nat) (i:Nat):(s.drop asg).get i=if i∈asg then unk else s.get i:=by
 simp only [Fr.drop,Fr.get,qV]
 by_cases h:i∈asg
 ·have:dY i asg=true:=iV.2 h;simp [h,this]
 ·have:dY i asg=false:=by cases hm:dY i asg;rfl;exact absurd (iV.1 hm) h
  simp [h,this]
theorem aAB {s:Fr} {a:Act} (h:QU ds s a) (k:Option (List Nat)):QU ds (s.keep k) a:=by
 cases k with
 | none=>exact h
 | some k =>
  refine ⟨h.defers,h.size,λi hi=>?_⟩
  simp only [Fr.keep,Fr.get,qV] at hi ⊢
  split at hi
  ·rename_i hc;rw [if_pos hc];exact h.slot i hi
  ·cases hi
theorem a77 {D:Nat->Prop} {s0 s:Fr} (h:dR D s0 s) (k:Option (List Nat)):dR D s0 (s.keep k):=by
 cases k with
 | none=>exact h
 | some k =>
  refine ⟨h.1,λi hi hu=>?_⟩
  simp only [Fr.keep,Fr.get,qV] at hu ⊢
  split at hu
  ·rename_i hc;rw [if_pos hc];exact h.2 i hi hu
  ·cases hu
def LJ:gO->List Value->List (Nat × Value)->List (Nat × Value)
 | (t,_) :: r,v :: vs,s=>(t,v) :: LJ r vs s
 | _,_,s=>s
def JF (l:gO) (vs:List Value) (s:Fr):Fr:=⟨s.n,LJ l vs s.l⟩
theorem PE (t:Nat) (sh:Sh) (r:gO) (v:Value) (vs:List Value) (s:Fr) (i:Nat) :
  (JF ((t,sh) :: r) (v :: vs) s).get i=if t=i then v else (JF r vs s).get i:=by
 simp only [JF,Fr.get,LJ,xJ]
 cases hb:Nat.beq t i with
 | true=>simp [Nat.eq_of_beq_eq_true hb]
 | false=>simp [Nat.ne_of_beq_eq_false hb]
theorem a78 {D:Nat->Prop} {l:List Nat} {s:Fr}:dR D s (s.drop l) :=
 ⟨rfl,λi _ hu=>by
  rw [SM] at hu ⊢
  split at hu
  ·cases hu
  ·rename_i hc;rw [if_neg hc]⟩
theorem PF {D:Nat->Prop} {s0:Fr}:∀ {l:gO} {vs:List Value} {s:Fr},(∀ v∈l,D v.1)->dR D s0 s->dR D s0 (JF l vs s)
 | [],_,_,_,h=>h
 | _ :: _,[],_,_,h=>h
 | (t,sh) :: r,v :: vs,s,hl,h=>by
  have ih:=PF (l:=r) (vs:=vs) (λx hx=>hl x (List.mem_cons_of_mem _ hx)) h
  refine ⟨ih.1,λi hi=>?_⟩
  rw [PE,if_neg (by rintro rfl;exact hi (hl (t,sh) (by simp)))]
  exact ih.2 i hi
def meet (asg:List Nat) (l:gO) (vs:List Value) (s:Fr):Fr:=JF l vs (s.drop asg)
theorem XM {D:Nat->Prop} {asg:List Nat} {l:gO} {vs:List Value} {s:Fr} (h2:∀ v∈l,D v.1):dR D s (meet asg l vs s) :=
 PF h2 a78
theorem SN {s:Fr} {a:Act}:∀ {l:gO} {vs:List Value},QU ds s a->(∀ (j:Nat) t sh v,l[j]? = some (t,sh)->vs[j]? = some v->a.tmps.getD t undef=v)->QU ds (JF l vs s) a
 | [],_,h,_=>h
 | _ :: _,[],h,_=>h
 | (t,sh) :: r,v :: vs,h,hv=>by
  have ih:=SN (l:=r) (vs:=vs) h (λj t' sh' v' h1 h2=>hv (j+1) t' sh' v' (by simpa using h1) (by simpa using h2))
  have h0:=hv 0 t sh v (by simp) (by simp)
  refine ⟨ih.defers,ih.size,λi hi=>?_⟩
  rw [PE] at hi ⊢
  split at hi
  ·rename_i e;subst e;rw [if_pos rfl];exact h0
  ·rename_i e;rw [if_neg e];exact ih.slot i hi
def LK (s':Fr):List (Nat × Value)->Bool
 | []=>true
 | (t,_) :: r=>match AE (xJ t s'.l) with|true=>false|false=>LK s' r
def a1Z (asg:List Nat) (s s':Fr):Bool:=LK s' (s.drop asg).l
theorem AG {s':Fr} {i:Nat}:∀ {l:List (Nat × Value)},LK s' l=true->AE (xJ i l)=false->AE (s'.get i)=false
 | [],_,h=>by cases h
 | (t,v) :: r,hk,h=>by
  unfold LK at hk
  split at hk
  ·cases hk
  ·rename_i hu
   unfold xJ at h
   split at h
   ·rename_i hb;have:=Nat.eq_of_beq_eq_true hb;subst this;exact hu
   ·exact AG hk h
theorem WI {asg:List Nat} {s:Fr} {i:Nat} (h:AE ((s.drop asg).get i)=false):AE (s.get i)=false:=by
 rw [SM] at h
 split at h
 ·cases h
 ·exact h
theorem SO {s s':Fr} {a:Act} {asg:List Nat} {l:gO} {vs:List Value} (hs:QU ds s' a) (hu:dR (λt=>t∈asg) s s') (hsub:∀ i,AE ((s.drop asg).get i)=false->AE (s'.get i)=false) (hvs:vs=slotsOf l s') (hk:∀ v∈vs,AE v=false):QU ds (meet asg l vs s) a:=by
 have h1:QU ds (s.drop asg) a:=by
  refine ⟨hs.defers,by rw [hs.size,hu.1];rfl,λi hi=>?_⟩
  have hk':=hsub i hi
  rw [SM] at hi ⊢
  split at hi
  ·cases hi
  ·rename_i hm
   rw [if_neg hm,hs.slot i hk']
   exact hu.2 i hm hk'
 refine SN h1 λj t sh v h2 h3=>?_
 subst hvs
 simp only [slotsOf,List.getElem?_map,h2,Option.map_some,Option.some.injEq] at h3
 rw [<-h3]
 have:AE (s'.get t)=false:=by
  show AE (xJ t s'.l)=false
  rw [h3]
  exact hk v (by rw [<-h3];exact List.mem_map.2 ⟨(t,sh),List.mem_of_getElem? h2,rfl⟩)
 exact hs.slot t this
structure Hints where
 /-- slots whose sums may wrap -/
 wrap:List Nat:=[]
 /-- regions with guards that are walked in the text's order -/
 split:List Nat:=[]
 /-- regions that are walked in the text's order,every guard said to hold -/
 sure:List Nat:=[]
 /-- regions whose calls may draw -/
 XN:List Nat:=[]
 /-- slots that are read outside the region that writes them -/
 keep:Option (List Nat):=none
 /-- regions whose order is drawn,and that write or call: the order in which they are walked;'true': a read -/
 held:List (Nat × List (Nat × Bool)):=[]
 loops:List (Nat × gO):=[]
 QW:List (Nat × gO):=[]
def B4:Code->Nat
 | .region id _ _=>id
 | .seq a b=>B4 a
 | .block _ b=>B4 b
 | .loop b=>B4 b
 | _=>100000
def a4y (l:List Oper):List Nat:=l.filterMap (·.dst)
def asg:Code->List Nat
 | .region _ ops _=>a4y ops.toList
 | .seq a b=>asg a++asg b
 | .cond _ a b=>asg a++asg b
 | .block _ b=>asg b
 | .loop b=>asg b
 | .scope b=>asg b
 | _=>[]
def guarded (l:List Oper):Bool:=l.any λo=>o.guard.isSome
def a0t:List Nat->Bool
 | []=>true
 | x :: r => !dY x r&&a0t r
theorem PG:∀ {l:List Nat},a0t l=true->l.Nodup
 | [],_=>List.nodup_nil
 | x :: r,h=>by
  simp only [a0t,Bool.and_eq_true,Bool.not_eq_true'] at h
  refine List.nodup_cons.2 ⟨λhm=>?_,PG h.2⟩
  rw [iV.2 hm] at h
  cases h.1
def a0u (asg:List Nat) (l:gO) (s:Fr):Bool:=List.all l (λv=>dY v.1 asg&&Nat.blt v.1 s.n)&&a0t (l.map (·.1))
def aAC (P:Program) (ops:Array Oper):Bool:=P.follows .mixedOrders&&Region.lexB .any ops
theorem PI {asg:List Nat} {l:gO} {s:Fr} (h:a0u asg l s=true):(∀ v∈l,v.1∈asg/\v.1<s.n)/\(l.map (·.1)).Nodup:=by
 simp only [a0u,Bool.and_eq_true] at h
 refine ⟨λv hv=>?_,PG h.2⟩
 have:=List.all_eq_true.1 h.1 v hv
 simp only [Bool.and_eq_true] at this
 exact ⟨iV.1 this.1,by have h2:=this.2;rw [Nat.blt_eq] at h2;exact h2⟩
def xL:Nat->List Value->List (Nat × Value)
 | _,[]=>[]
 | i,v :: r=>(i,v) :: xL (i+1) r
def LL (fn:Func) (args:Array Value):Fr:=⟨max fn.ntmps args.size,xL 0 args.toList⟩
theorem LM (i:Nat):∀ (l:List Value) (k:Nat),xJ i (xL k l)=if k<=i then l.getD (i - k) unk else unk
 | [],k=>by simp [xL,xJ]
 | v :: r,k=>by
  unfold xL xJ
  cases hb:Nat.beq k i with
  | true=>have:=Nat.eq_of_beq_eq_true hb;subst this;simp
  | false =>
   have hne:=Nat.ne_of_beq_eq_false hb
   simp only
   rw [LM i r (k+1)]
   by_cases h:k<=i
   ·rw [if_pos h,if_pos (by omega),show i - k=(i - (k+1))+1 by omega];simp
   ·rw [if_neg h,if_neg (by omega)]
theorem a10 (fn:Func) (args:Array Value):QU [] (LL fn args) { tmps:=args++Array.replicate (fn.ntmps - args.size) undef,defers:=[] }:=by
 refine ⟨rfl,by simp [LL];omega,λi hi=>?_⟩
 simp only [LL,Fr.get,LM] at hi ⊢
 simp only [Nat.zero_le,if_true,Nat.sub_zero] at hi ⊢
 by_cases h:i<args.size
 ·simp [Array.getD_eq_getD_getElem?,Array.getElem?_append,h]
 ·rw [List.getD_eq_getElem?_getD,List.getElem?_eq_none (by simpa using h)] at hi
  cases hi
theorem a4z {vs:List Value}:(if h:vs.toArray.size=1 then vs.toArray[0] else Value.tuple vs.toArray)=AB vs:=by
 match vs with
 | []=>rfl
 | [v]=>rfl
 | _ :: _ :: _=>rfl
end Go.Vc
end

section
namespace Go.Vc
open Go.RowKit
def wA (w:World) (b:Nat) (cs:List Value) (t:TypeId):Prop:=w.heap[b]? = some (.cells cs.toArray t (0,0))
theorem wA.lt {w:World} {b:Nat} {cs:List Value} {t:TypeId} (h:wA w b cs t):b<w.heap.size:=(Array.getElem?_eq_some_iff.1 h).1
theorem wA.cell {w:World} {b:Nat} {cs:List Value} {t:TypeId} (h:wA w b cs t) (i:Nat):w.cell? ⟨b,i,none⟩=cs[i]? := by
 unfold wA at h
 simp [World.cell?,h]
theorem wA.LN {w:World} {b:Nat} {cs:List Value} {t:TypeId} (h:wA w b cs t) {i:Nat} {v:Value} (hv:cs[i]? = some v):w.cell? ⟨b,i,none⟩=some v:=by rw [h.cell,hv]
theorem wA.frozen {w:World} {b:Nat} {cs:List Value} {t:TypeId} (h:wA w b cs t) (i:Nat):w.frozen? ⟨b,i,none⟩=false:=by
 unfold wA at h
 simp [World.frozen?,h]
theorem wA.can {w:World} {b:Nat} {cs:List Value} {t:TypeId} (h:wA w b cs t) {o n:Nat} (hn:o+n<=cs.length):aE w b o n:=by
 intro j hj
 refine ⟨?_,h.frozen _⟩
 rw [h.cell]
 simp;omega
theorem wA.row {w:World} {b:Nat} {cs:List Value} {t:TypeId} (h:wA w b cs t) {o:Nat} {vs:List Value} (hv:∀ j,(hj:j<vs.length)->cs[o+j]? = some vs[j]):dH w b o vs:=by
 intro j hj
 rw [h.cell,hv j hj]
theorem wA.LO {w:World} {b:Nat} {cs:List Value} {t:TypeId} (h:wA w b cs t):dH w b 0 cs:=h.row λj hj=>by simp
theorem wA.same {w w':World} {b:Nat} {cs:List Value} {t:TypeId} (h:wA w b cs t) (e:w'.heap[b]? = w.heap[b]?):wA w' b cs t:=e.trans h
theorem wA.a79 (w:World) (cs:List Value) (t:TypeId):wA (w.alloc (.cells cs.toArray t)) w.heap.size cs t:=by
 unfold wA
 show (w.heap.push _)[w.heap.size]? = _
 simp
theorem wO (w:World) (o:Obj):(w.alloc o).heap[w.heap.size]? = some o:=by
 show (w.heap.push _)[w.heap.size]? = _
 simp
theorem a0v (w:World) (o:Obj) {k:Nat} (h:k<w.heap.size):(w.alloc o).heap[k]? = w.heap[k]? := Below.heap_alloc _ _ _ h
theorem SP (w:World) (a:Addr) (u:Value) {k:Nat} (h:k≠a.block):(w.setCell a u).heap[k]? = w.heap[k]? := Below.heap_setCell _ _ _ _ h
theorem wA.set {w:World} {b:Nat} {cs:List Value} {t:TypeId} (h:wA w b cs t) (i:Nat) (v:Value):wA (w.setCell ⟨b,i,none⟩ v) b (cs.set i v) t:=by
 unfold wA at h ⊢
 simp only [World.setCell,Array.getElem?_modify,h]
 simp
theorem PJ (b:Nat) {k:Nat} (h:k≠b):∀ (vs:List Value) (o:Nat) (w:World),(w.setCells b o vs).heap[k]? = w.heap[k]?
 | [],_,_=>rfl
 | v :: r,o,w=>by
  unfold World.setCells
  rw [PJ b h r,SP _ _ _ h]
theorem IM (b:Nat):∀ (vs:List Value) (o:Nat) (w:World),(w.setCells b o vs).heap.size=w.heap.size
 | [],_,_=>rfl
 | v :: r,o,w=>by
  unfold World.setCells
  rw [IM b r,World.size_setCell]
def oB (cs:List Value) (o:Nat):List Value->List Value
 | []=>cs
 | v :: r=>oB (cs.set o v) (o+1) r
theorem wA.sets {b:Nat} {t:TypeId}:∀ (vs:List Value) {w:World} {cs:List Value} (o:Nat),wA w b cs t->wA (w.setCells b o vs) b (oB cs o vs) t
 | [],_,_,_,h=>h
 | v :: r,_,_,o,h=>by
  unfold World.setCells oB
  exact wA.sets r (o+1) (h.set o v)
structure kD (S:List Nat) (w w':World):Prop where
 os:w'.os=w.os
 tape:w'.tape=w.tape
 output:w'.output=w.output
 size:w.heap.size<=w'.heap.size
 block:∀ k,k<w.heap.size->k ∉ S->w'.heap[k]? = w.heap[k]?
theorem kD.refl (S:List Nat) (w:World):kD S w w:=⟨rfl,rfl,rfl,Nat.le_refl _,λ_ _ _=>rfl⟩
theorem kD.trans {S T:List Nat} {a b c:World} (h:kD S a b) (k:kD T b c) (hT:∀ x∈T,x∈S\/a.heap.size<=x):kD S a c :=
 ⟨k.os.trans h.os,k.tape.trans h.tape,k.output.trans h.output,Nat.le_trans h.size k.size,λi hi hS =>
  (k.block i (Nat.lt_of_lt_of_le hi h.size) (λhm=>by rcases hT i hm with h|h;exact hS h;omega)).trans (h.block i hi hS)⟩
theorem kD.step {S:List Nat} {a b c:World} (h:kD S a b) (k:kD [] b c):kD S a c:=h.trans k (by simp)
theorem kD.mono {S T:List Nat} {a b:World} (h:kD S a b) (hST:∀ x∈S,x∈T):kD T a b:=⟨h.os,h.tape,h.output,h.size,λk hk hT=>h.block k hk λhm=>hT (hST k hm)⟩
theorem kD.alloc {S:List Nat} {a w:World} (h:kD S a w) (o:Obj):kD S a (w.alloc o) :=
 h.step ⟨rfl,rfl,rfl,by simp,λ_ hk _=>a0v _ _ hk⟩
theorem kD.setCell {S:List Nat} {a w:World} (h:kD S a w) {p:Addr} (hp:p.block∈S\/a.heap.size<=p.block) (u:Value):kD S a (w.setCell p u) :=
 h.trans (T:=[p.block]) ⟨rfl,rfl,rfl,by simp,λ_ _ hn=>SP _ _ _ (by simpa using hn)⟩ (by simpa using hp)
theorem rK (b:Nat):∀ (vs:List Value) (o:Nat) (w:World),(w.setCells b o vs).os=w.os/\(w.setCells b o vs).tape=w.tape/\(w.setCells b o vs).output=w.output
 | [],_,_=>⟨rfl,rfl,rfl⟩
 | v :: r,o,w=>by unfold World.setCells;exact rK b r (o+1) _
theorem kD.setCells {S:List Nat} {a w:World} (h:kD S a w) {b:Nat} (hb:b∈S\/a.heap.size<=b) (o:Nat) (vs:List Value):kD S a (w.setCells b o vs) :=
 h.trans (T:=[b]) ⟨(rK b vs o w).1,(rK b vs o w).2.1,(rK b vs o w).2.2,by rw [IM];exact Nat.le_refl _,λ_ _ hn=>PJ b (by simpa using hn) vs o w⟩ (by simpa using hb)
theorem kD.drewN {S:List Nat} {a w:World} (h:kD S a w) (n:Nat):kD S a (w.drewN n):=⟨h.os,h.tape,h.output,h.size,h.block⟩
def CJ (w:World) (b:Nat) (o:Obj):World:={ w with heap:=w.heap.setIfInBounds b o }
theorem aFg (w:World) {b k:Nat} (o:Obj) (h:k≠b):(CJ w b o).heap[k]? = w.heap[k]? := by
 simp only [CJ];rw [Array.getElem?_setIfInBounds_ne (by omega)]
theorem a0w (w:World) {b:Nat} (o:Obj) (h:b<w.heap.size):(CJ w b o).heap[b]? = some o:=by
 simp [CJ,h]
theorem a8a (w:World) (b:Nat) (o:Obj):(CJ w b o).heap.size=w.heap.size:=by simp [CJ]
theorem kD.CJ {S:List Nat} {a w:World} (h:kD S a w) {b:Nat} (hb:b∈S\/a.heap.size<=b) (o:Obj):kD S a (CJ w b o) :=
 h.trans (T:=[b]) ⟨rfl,rfl,rfl,by rw [a8a];exact Nat.le_refl _,λ_ _ hn=>aFg _ _ (by simpa using hn)⟩ (by simpa using hb)
theorem kD.below {S:List Nat} {B:Nat} {w w':World} (h:kD S w w') (hB:B<=w.heap.size) (hS:∀ x∈S,B<=x):Below B w w' :=
 ⟨h.os,h.tape,h.output,h.size,λk hk=>h.block k (by omega) λhm=>by have:=hS k hm;omega⟩
theorem kD.blk {S:List Nat} {w w':World} (h:kD S w w') {b:Nat} {cs:List Value} {t:TypeId} (hb:wA w b cs t) (hS:b ∉ S):wA w' b cs t:=hb.same (h.block b hb.lt hS)
theorem kD.cell {S:List Nat} {w w':World} (h:kD S w w') {b o:Nat} {v:Value} (hc:w.cell? ⟨b,o,none⟩=some v) (hS:b ∉ S):w'.cell? ⟨b,o,none⟩=some v:=by
 have hlt:b<w.heap.size:=by
  rcases Nat.lt_or_ge b w.heap.size with h'|h'
  ·exact h'
  ·simp [World.cell?,Array.getElem?_eq_none h'] at hc
 rw [World.cell?_of_block (w:=w) (h.block b hlt hS)]
 exact hc
theorem EW {P:Program} {f:FuncId} {args:Array Value} {w:World} {J:Value->World->Prop} {R:Ending->World->Prop}
  (h:Calls P f args w λe w'=>∃ v,e=.returned v/\J v w') (hR:∀ v w',J v w'->R (.returned v) w'):Calls P f args w R :=
 h.mono λe w' ⟨v,he,hj⟩=>by subst he;exact hR v w' hj
end Go.Vc
end

section
namespace Go.Vc
open Go.ChangeShapes Go.WideShapes Go.ChangeAt Go.RowKit
section
variable {H:Type} {enc:TypeId × Value->H} {P:Program}
theorem IP (hl:laidOutB P=true) {W W':World} (hb:Below W.heap.size W W') :
  ∀ {ts:List TypeId} {vs:List Value} {ds:List (DataW H)} {ps:List MemPlace},(ts.all λt=>P.readableRec t&&decide (t<P.types.size))=true ->
   DataW.TrodAll enc P W 0 (λ_=>true) true ts vs ds ps->(∀ x∈ps,x.block<W.heap.size) ->
   DataW.TrodAll enc P W' 0 (λb=>decide (b<W.heap.size)) true ts vs ds ps
 | [],_,_,_,_,h,_=>by
  obtain ⟨rfl,rfl,rfl⟩:=trodAll_nil h
  exact trodAll_mk0
 | t :: ts,_,_,_,ht,h,hlt=>by
  obtain ⟨v,vs1,d,ds1,a,b,rfl,rfl,rfl,h1,h2⟩:=trodAll_cons h
  simp only [List.all_cons,Bool.and_eq_true,decide_eq_true_eq] at ht
  exact ⟨a,b,Below.trod hl ht.1.1 ht.1.2 h1 hb (λx hx=>hlt x (List.mem_append.2 (.inl hx))),IP hl hb (by simpa using ht.2) h2 (λx hx=>hlt x (List.mem_append.2 (.inr hx))),rfl⟩
theorem EX {w:World} {base:Nat} {spare:Nat->Bool} {held:Bool}:∀ {ts:List TypeId} {vs:List Value} {ds:List (DataW H)} {ps:List MemPlace},DataW.TrodAll enc P w base spare held ts vs ds ps->vs.length=ts.length/\ds.length=ts.length
 | [],_,_,_,h=>by
  obtain ⟨rfl,rfl,rfl⟩:=trodAll_nil h
  exact ⟨rfl,rfl⟩
 | t :: ts,_,_,_,h=>by
  obtain ⟨v,vs1,d,ds1,a,b,rfl,rfl,rfl,h1,h2⟩:=trodAll_cons h
  have:=EX h2
  simp [this]
end
section
variable {H:Type} {enc:TypeId × Value->H} {P:Program} {w:World} {base:Nat} {spare:Nat->Bool} {held:Bool}
theorem a8b {w:World} {a:Addr} {v:Value} (h:w.cell? a=some v):a.spot=none:=by
 unfold World.cell? at h
 split at h
 ·split at h
  ·cases h
  ·rename_i hs;simpa using hs
 ·cases h
end
end Go.Vc
end

section
namespace Go.Vc
open Go.ChangeShapes Go.WideShapes Go.RowKit
section
variable {H:Type} {enc:TypeId × Value->H} {P:Program} {w:World} {base:Nat} {spare:Nat->Bool} {held:Bool}
inductive Ck where
 | int (k:IntKind)
 | bool
 | str
 | ptr
 | slice
 | map
def Ck.fits:Ck->Value->Prop
 | .int k,v=>∃ n,v=.int k n/\(Lit.int k n).wf=true
 | .bool,v=>∃ b,v=.bool b
 | .str,v=>∃ s,v=.string s/\s.size<=maxLen
 | .ptr,v=>∃ p,v=.pointer p
 | .slice,v=>∃ p n c,v=.slice p n c/\n<=c/\c<=maxLen/\(p=none->n=0)
 | .map,v=>∃ m,v=.map m
def Fits:List Ck->List Value->Prop
 | [],[]=>True
 | k :: r,v :: vs=>k.fits v/\Fits r vs
 | _,_=>False
def aHu (fl:TypeId->Option (List Ck)):List Field->Nat->Option (List Ck)
 | [],_=>some []
 | f :: r,off=>match fl f.type with
  | some l=>match Nat.beq f.offset off,aHu fl r (off+l.length) with
   | true,some l'=>some (l++l')
   | _,_=>none
  | none=>none
def flat (P:Program):Nat->TypeId->Option (List Ck)
 | 0,_=>none
 | d+1,t=>match P.underlying t with
  | some .bool=>some [.bool]
  | some (.int k)=>some [.int k]
  | some .string=>some [.str]
  | some (.pointer _)=>some [.ptr]
  | some (.slice _)=>some [.slice]
  | some (.map ..)=>some [.map]
  | some (.struct fs)=>match aHu (flat P d) fs.toList 0 with
   | some l=>if l.length=P.cellsOf t/\(fs.toList.all λf=>decide ((flat P d f.type).map (·.length)=some (P.cellsOf f.type)))=true then some l else none
   | none=>none
  | _=>none
theorem aAD {cs:List Value} (h:Fits [] cs):cs=[]:=by
 cases cs with
 | nil=>rfl
 | cons=>exact h.elim
theorem a8c {k:Ck} {ks:List Ck} {cs:List Value} (h:Fits (k :: ks) cs):∃ v vs,cs=v :: vs/\k.fits v/\Fits ks vs:=by
 cases cs with
 | nil=>exact h.elim
 | cons v vs=>exact ⟨v,vs,rfl,h.1,h.2⟩
theorem Fits.length {ks:List Ck} {cs:List Value} (h:Fits ks cs):cs.length=ks.length:=by
 induction ks generalizing cs with
 | nil=>cases aAD h;rfl
 | cons k r ih =>
  obtain ⟨v,vs,rfl,_,h2⟩:=a8c h
  simp [ih h2]
theorem Fits.append {k l:List Ck} {a b:List Value} (h:Fits k a) (h':Fits l b):Fits (k++l) (a++b):=by
 induction k generalizing a with
 | nil=>cases a with
  | nil=>exact h'
  | cons=>exact h.elim
 | cons x r ih=>cases a with
  | nil=>exact h.elim
  | cons v vs=>exact ⟨h.1,ih h.2⟩
theorem a13 {α β:Type} {f:α->Option β}:∀ {l:List α} {xs:List β},l.mapM f=some xs->∀ a∈l,∃ y,f a=some y
 | [],_,_,a,ha=>by cases ha
 | b :: r,xs,h,a,ha=>by
  rw [List.mapM_cons] at h
  cases hb:f b with
  | none=>simp [hb] at h
  | some y =>
   cases hr:r.mapM f with
   | none=>simp [hb,hr] at h
   | some ys =>
    rcases List.mem_cons.1 ha with rfl|ha
    ·exact ⟨y,hb⟩
    ·exact a13 hr a ha
end
end Go.Vc
end

section
namespace Go.Vc
open Go.ChangeShapes Go.WideShapes Go.RowKit
inductive Ty where
 | int (k:IntKind)|bool|str|opq
 | slice (e:Ty)
 | pair (a b:Ty)
def Ty.size:Ty->Nat
 | .pair a b=>a.size+b.size
 | _=>1
def a0x (P:Program) (f:Ty->TypeId->Bool):List Field->Nat->Ty->Bool
 | [],_,_=>false
 | [x],off,ty=>Nat.beq x.offset off&&f ty x.type&&Nat.beq (P.cellsOf x.type) ty.size
 | x :: y :: r,off,.pair a b=>Nat.beq x.offset off&&f a x.type&&Nat.beq (P.cellsOf x.type) a.size&&a0x P f (y :: r) (off+a.size) b
 | _,_,_=>false
def Ty.is (P:Program):Nat->Ty->TypeId->Bool
 | 0,_,_=>false
 | d+1,.int k,t=>match P.underlying t with|some (.int k')=>decide (k'=k)|_=>false
 | d+1,.bool,t=>match P.underlying t with|some .bool=>true|_=>false
 | d+1,.str,t=>match P.underlying t with|some .string=>true|_=>false
 | d+1,.opq,t=>match P.underlying t with|some (.slice _)=>true|_=>false
 | d+1,.slice te,t=>match P.underlying t with|some (.slice e)=>Ty.is P d te e&&Nat.beq (P.cellsOf e) te.size|_=>false
 | d+1,.pair a b,t=>match P.underlying t with
  | some (.struct fs)=>Nat.beq (P.cellsOf t) (Ty.pair a b).size&&a0x P (Ty.is P d) fs.toList 0 (.pair a b)
  | _=>false
structure Step (M M':List Nat) (w w':World):Prop where
 XO:kD M w w'
 sub:∀ b∈M',b∈M\/w.heap.size<=b
class aA (Φ:List Nat->World->Prop):Prop where
 step:∀ {M M':List Nat} {w w':World},Step M M' w w'->Φ M w->Φ M' w'
structure LQ (ty:Ty) (α:Type) (rep:List Nat->World->List Value->α->Prop):Prop where
 ap:∀ {H:Type} {enc:TypeId × Value->H} {P:Program} {W:World} {d fuel:Nat} {t:TypeId} {cs:List Value} {x:DataW H × List MemPlace},
  Ty.is P d ty t=true->DataW.trod enc P W 0 (λ_=>true) true fuel t cs=some x->∃ y:α,rep [] W cs y
structure a6y (ty:Ty) (α:Type) (rep:List Nat->World->List Value->α->Prop):Prop where
 ap:∀ {H:Type} {enc:TypeId × Value->H} {P:Program} {W:World} {d fuel:Nat} {fs:List Field} {off:Nat} {cs:List Value},
  a0x P (Ty.is P d) fs off ty=true->(∀ f∈fs,∃ y,DataW.trod enc P W 0 (λ_=>true) true fuel f.type ((cs.drop f.offset).take (P.cellsOf f.type))=some y) ->
   off+ty.size=cs.length->∃ y:α,rep [] W (cs.drop off) y
class Gv (α:Type) where
 ty:Ty
 rep:List Nat->World->List Value->α->Prop
 len:∀ {M w cs x},rep M w cs x->cs.length=ty.size
 pos:0<ty.size
 j6:∀ {M M':List Nat} {w w':World} {cs x},Step M M' w w'->rep M w cs x->rep M' w' cs x
 opens:LQ ty α rep
 wP:a6y ty α rep
theorem PK {ty:Ty} {α:Type} {rep:List Nat->World->List Value->α->Prop} (ho:LQ ty α rep) {H:Type} {enc:TypeId × Value->H} {P:Program} {W:World} {d fuel:Nat} {f:Field} {off:Nat} {cs:List Value}
  (h:a0x P (Ty.is P d) [f] off ty=true) (ht:∃ y,DataW.trod enc P W 0 (λ_=>true) true fuel f.type ((cs.drop f.offset).take (P.cellsOf f.type))=some y) (hl:off+ty.size=cs.length):∃ y:α,rep [] W (cs.drop off) y:=by
 simp only [a0x,Bool.and_eq_true] at h
 obtain ⟨⟨h1,h2⟩,h3⟩:=h
 have h1:=Nat.eq_of_beq_eq_true h1
 have h3:=Nat.eq_of_beq_eq_true h3
 obtain ⟨y,hy⟩:=ht
 rw [h1,h3,List.take_of_length_le (by simp;omega)] at hy
 exact ho.ap h2 hy
theorem pM {ty:Ty} {α:Type} {rep:List Nat->World->List Value->α->Prop} (hp:∀ a b,ty≠.pair a b) (ho:LQ ty α rep):a6y ty α rep:=by
 constructor
 intro H enc P W d fuel fs off cs h ht hl
 match fs,h with
 | [f],h=>exact PK ho h (ht f (by simp)) hl
 | f :: g :: r,h =>
  cases ty
  case pair=>exact absurd rfl (hp _ _)
  all_goals simp [a0x] at h
theorem XP:LQ (.int .i64) Int (λ_ _ cs x=>cs=[.int .i64 x]/\aR x):=by
 constructor
 intro H enc P W d fuel t cs x h hx
 cases d with
 | zero=>simp [Ty.is] at h
 | succ d =>
 cases fuel with
 | zero=>simp [DataW.trod] at hx
 | succ fuel =>
 unfold Ty.is at h
 split at h
 ·rename_i k ht
  have:k=.i64:=by simpa using h
  subst this
  unfold DataW.trod at hx
  rw [ht] at hx
  split at hx<;>simp_all
  rename_i k n hk
  obtain ⟨⟨rfl,hw⟩,_⟩:=hx
  simp only [Lit.wf,Bool.and_eq_true,decide_eq_true_eq] at hw
  subst hk
  simp [IntKind.min,IntKind.max,IntKind.signed,IntKind.bits] at hw
  unfold aR
  omega
 ·cases h
instance goInt:Gv Int where
 ty:=.int .i64
 rep _ _ cs x:=cs=[.int .i64 x]/\aR x
 len h:=by rw [h.1];rfl
 pos:=by decide
 j6 _ h:=h
 opens:=XP
 wP:=pM (ty:=.int .i64) (λ_ _ h=>by cases h) XP
theorem SQ:LQ .bool Bool (λ_ _ cs x=>cs=[.bool x]):=by
 constructor
 intro H enc P W d fuel t cs x h hx
 cases d with
 | zero=>simp [Ty.is] at h
 | succ d =>
 cases fuel with
 | zero=>simp [DataW.trod] at hx
 | succ fuel =>
 unfold Ty.is at h
 split at h
 ·rename_i ht
  unfold DataW.trod at hx
  rw [ht] at hx
  split at hx<;>simp_all
 ·cases h
instance aYc:Gv Bool where
 ty:=.bool
 rep _ _ cs x:=cs=[.bool x]
 len h:=by rw [h];rfl
 pos:=by decide
 j6 _ h:=h
 opens:=SQ
 wP:=pM (ty:=.bool) (λ_ _ h=>by cases h) SQ
theorem XQ:LQ .str ByteArray (λ_ _ cs x=>cs=[.string x]/\x.size<=maxLen):=by
 constructor
 intro H enc P W d fuel t cs x h hx
 cases d with
 | zero=>simp [Ty.is] at h
 | succ d =>
 cases fuel with
 | zero=>simp [DataW.trod] at hx
 | succ fuel =>
 unfold Ty.is at h
 split at h
 ·rename_i ht
  unfold DataW.trod at hx
  rw [ht] at hx
  split at hx<;>simp_all
 ·cases h
instance b4z:Gv ByteArray where
 ty:=.str
 rep _ _ cs x:=cs=[.string x]/\x.size<=maxLen
 len h:=by rw [h.1];rfl
 pos:=by decide
 j6 _ h:=h
 opens:=XQ
 wP:=pM (ty:=.str) (λ_ _ h=>by cases h) XQ
structure Opq where
 len:Nat
theorem XR:LQ .opq Opq (λ_ _ cs x=>∃ p c,cs=[.slice p x.len c]/\x.len<=c/\c<=maxLen):=by
 constructor
 intro H enc P W d fuel t cs x h hx
 cases d with
 | zero=>simp [Ty.is] at h
 | succ d =>
 unfold Ty.is at h
 split at h
 ·rename_i e ht
  rcases DataW.trod_slice ht hx with ⟨rfl,_⟩|⟨a,len,cap,_,_,_,_,rfl,_,_,hl,hm,_⟩
  ·exact ⟨⟨0⟩,none,0,rfl,by simp,by simp [maxLen]⟩
  ·exact ⟨⟨len⟩,some a,cap,rfl,hl,hm⟩
 ·cases h
instance b4B:Gv Opq where
 ty:=.opq
 rep _ _ cs x:=∃ p c,cs=[.slice p x.len c]/\x.len<=c/\c<=maxLen
 len h:=by obtain ⟨p,c,rfl,_⟩:=h;rfl
 pos:=by decide
 j6 _ h:=h
 opens:=XR
 wP:=pM (ty:=.opq) (λ_ _ h=>by cases h) XR
def Sl {α:Type} [Gv α] (M:List Nat) (w:World) (p:Option Addr) (l:List α):Prop :=
 ∀ j,(hj:j<l.length)->∃ b o cs,p=some ⟨b,o,none⟩/\b ∉ M/\dH w b (o+j*(Gv.ty α).size) cs/\Gv.rep M w cs l[j]
theorem kD.row {S:List Nat} {w w':World} (h:kD S w w') {b o:Nat} {vs:List Value} (hc:dH w b o vs) (hS:b ∉ S):dH w' b o vs :=
 λj hj=>h.cell (hc j hj) hS
theorem aAE {w:World} {b o:Nat} {vs:List Value} (h:dH w b o vs) (hp:0<vs.length):b<w.heap.size:=by
 have h0:=h 0 hp
 rcases Nat.lt_or_ge b w.heap.size with h'|h'
 ·exact h'
 ·simp [World.cell?,Array.getElem?_eq_none h'] at h0
theorem Sl.j6 {α:Type} [Gv α] {M M':List Nat} {w w':World} {p:Option Addr} {l:List α} (hs:Step M M' w w') (h:Sl M w p l):Sl M' w' p l:=by
 intro j hj
 obtain ⟨b,o,cs,h1,h2,h3,h4⟩:=h j hj
 have hlt:=aAE h3 (by rw [Gv.len h4];exact Gv.pos)
 exact ⟨b,o,cs,h1,λhm=>by rcases hs.sub b hm with h|h;exact h2 h;omega,hs.XO.row h3 h2,Gv.j6 hs h4⟩
def a6z {α:Type} [Gv α] (M:List Nat) (w:World) (cs:List Value) (l:List α):Prop :=
 ∃ p c,cs=[.slice p l.length c]/\l.length<=c/\c<=maxLen/\Sl M w p l
theorem JG {α:Type} {p:Nat->α->Prop}:∀ (n:Nat),(∀ j,j<n->∃ x,p j x)->∃ l:List α,l.length=n/\∀ j,(hj:j<l.length)->p j l[j]
 | 0,_=>⟨[],rfl,λj hj=>by simp at hj⟩
 | n+1,h=>by
  obtain ⟨l,hl,hp⟩:=JG n λj hj=>h j (by omega)
  obtain ⟨x,hx⟩:=h n (by omega)
  refine ⟨l++[x],by simp [hl],λj hj=>?_⟩
  by_cases hj':j<l.length
  ·rw [List.getElem_append_left hj'];exact hp j hj'
  ·have:j=n:=by simp at hj;omega
   subst this
   rw [List.getElem_append_right (by omega)]
   simpa [hl] using hx
theorem SR {α:Type} [Gv α]:LQ (.slice (Gv.ty α)) (List α) a6z:=by
 constructor
 intro H enc P W d fuel t cs x h hx
 cases d with
 | zero=>simp [Ty.is] at h
 | succ d =>
 unfold Ty.is at h
 split at h
 ·rename_i e ht
  simp only [Bool.and_eq_true] at h
  obtain ⟨h1,h2⟩:=h
  have hsz:=Nat.eq_of_beq_eq_true h2
  rcases DataW.trod_slice ht hx with ⟨rfl,_⟩|⟨a,len,cap,elems,rest,m,_,rfl,_,_,hl,hm,hlen,hel,_⟩
  ·exact ⟨[],none,0,rfl,by simp,by simp [maxLen],λj hj=>by simp at hj⟩
  ·have spot:0<len->∃ b o,a=⟨b,o,none⟩:=by
    intro aNK
    have h3:=hel 0 aNK
    rw [List.getElem?_eq_getElem (by omega)] at h3
    cases hcs:W.cells? 0 (a.add (0*P.cellsOf e)) (P.cellsOf e) with
    | none=>rw [hcs] at h3;cases h3
    | some cs =>
     rw [hcs] at h3
     obtain ⟨y,hy⟩:=(Gv.opens (α:=α)).ap h1 h3
     obtain ⟨_,hn,h4⟩:=World.cells?_some hcs
     have hp:=Gv.len hy
     have hpos:0<(Gv.ty α).size:=Gv.pos
     have h5:=h4 0 (by omega)
     rw [List.getElem?_eq_getElem (by omega)] at h5
     have h6:=a8b h5
     obtain ⟨b,o,s⟩:=a
     simp [Addr.add] at h6
     subst h6
     exact ⟨b,o,rfl⟩
   have key:∀ j,j<len->∃ y:α,∃ b o cs,some a=some ⟨b,o,none⟩/\b ∉ ([]:List Nat)/\dH W b (o+j*(Gv.ty α).size) cs/\Gv.rep [] W cs y:=by
    intro j hj
    have h3:=hel j hj
    rw [List.getElem?_eq_getElem (by omega)] at h3
    cases hcs:W.cells? 0 (a.add (j*P.cellsOf e)) (P.cellsOf e) with
    | none=>rw [hcs] at h3;cases h3
    | some cs =>
     rw [hcs] at h3
     obtain ⟨y,hy⟩:=(Gv.opens (α:=α)).ap h1 h3
     obtain ⟨_,hn,h4⟩:=World.cells?_some hcs
     have hp:=Gv.len hy
     obtain ⟨b,o,rfl⟩:=spot (by omega)
     refine ⟨y,b,o,cs,rfl,by simp,λi hi=>?_,hy⟩
     have h7:=h4 i (by omega)
     rw [addr_add,addr_add,hsz] at h7
     rw [h7,List.getElem?_eq_getElem hi]
   obtain ⟨l,hl1,hl2⟩:=JG len key
   exact ⟨l,some a,cap,by rw [hl1],by omega,hm,hl2⟩
 ·cases h
instance aYd {α:Type} [Gv α]:Gv (List α) where
 ty:=.slice (Gv.ty α)
 rep:=a6z
 len h:=by obtain ⟨p,c,rfl,_⟩:=h;rfl
 pos:=by simp [Ty.size]
 j6 hs h:=by obtain ⟨p,c,h1,h2,h3,h4⟩:=h;exact ⟨p,c,h1,h2,h3,h4.j6 hs⟩
 opens:=SR
 wP:=pM (ty:=.slice (Gv.ty α)) (λ_ _ h=>by cases h) SR
def RX {α β:Type} [Gv α] [Gv β] (M:List Nat) (w:World) (cs:List Value) (x:α × β):Prop :=
 ∃ a b,cs=a++b/\Gv.rep M w a x.1/\Gv.rep M w b x.2
theorem XS {α β:Type} [Gv α] [Gv β] {H:Type} {enc:TypeId × Value->H} {P:Program} {W:World} {d fuel:Nat} {f g:Field} {r:List Field} {off:Nat} {cs:List Value}
  (h:a0x P (Ty.is P d) (f :: g :: r) off (.pair (Gv.ty α) (Gv.ty β))=true) (ht:∀ x∈f :: g :: r,∃ y,DataW.trod enc P W 0 (λ_=>true) true fuel x.type ((cs.drop x.offset).take (P.cellsOf x.type))=some y)
  (hl:off+(Ty.pair (Gv.ty α) (Gv.ty β)).size=cs.length):∃ y:α × β,RX [] W (cs.drop off) y:=by
 simp only [a0x,Bool.and_eq_true] at h
 obtain ⟨⟨⟨h1,h2⟩,h3⟩,h4⟩:=h
 have h1:=Nat.eq_of_beq_eq_true h1
 have h3:=Nat.eq_of_beq_eq_true h3
 simp only [Ty.size] at hl
 obtain ⟨y,hy⟩:=ht f (by simp)
 rw [h1,h3] at hy
 obtain ⟨a,ha⟩:=(Gv.opens (α:=α)).ap h2 hy
 obtain ⟨b,hb⟩:=(Gv.wP (α:=β)).ap h4 (λx hx=>ht x (List.mem_cons_of_mem _ hx)) (by omega)
 refine ⟨(a,b),_,_,?_,ha,hb⟩
 rw [<-List.drop_drop,List.take_append_drop]
theorem SS {α β:Type} [Gv α] [Gv β]:LQ (.pair (Gv.ty α) (Gv.ty β)) (α × β) RX:=by
 constructor
 intro H enc P W d
 induction d with
 | zero=>intro fuel t cs x h;simp [Ty.is] at h
 | succ d ih =>
  intro fuel t cs x h hx
  cases fuel with
  | zero=>simp [DataW.trod] at hx
  | succ fuel =>
  unfold Ty.is at h
  split at h
  ·rename_i fs ht
   simp only [Bool.and_eq_true] at h
   obtain ⟨h1,h2⟩:=h
   have h1:=Nat.eq_of_beq_eq_true h1
   unfold DataW.trod at hx
   rw [ht] at hx
   simp only at hx
   split at hx
   ·rename_i hlen
    cases hm:(fs.toList.mapM λf=>DataW.trod enc P W 0 (λ_=>true) true fuel f.type ((cs.drop f.offset).take (P.cellsOf f.type))) with
    | none=>simp [hm] at hx
    | some xs =>
     have all:=a13 hm
     have key:∃ y:α × β,RX [] W (cs.drop 0) y:=by
      generalize fs.toList=l at h2 all
      match l,h2,all with
      | [f],h2,all =>
       simp only [a0x,Bool.and_eq_true] at h2
       obtain ⟨⟨g1,g2⟩,g3⟩:=h2
       have g1:=Nat.eq_of_beq_eq_true g1
       have g3:=Nat.eq_of_beq_eq_true g3
       obtain ⟨y,hy⟩:=all f (by simp)
       rw [g1,g3,List.take_of_length_le (by simp;omega)] at hy
       exact ih g2 hy
      | f :: g :: r,h2,all=>exact XS h2 all (by omega)
     simpa using key
   ·cases hx
  ·cases h
instance aYe {α β:Type} [Gv α] [Gv β]:Gv (α × β) where
 ty:=.pair (Gv.ty α) (Gv.ty β)
 rep:=RX
 len h:=by obtain ⟨a,b,rfl,h1,h2⟩:=h;simp [Gv.len h1,Gv.len h2,Ty.size]
 pos:=by have:0<(Gv.ty α).size:=Gv.pos;simp only [Ty.size];omega
 j6 hs h:=by obtain ⟨a,b,h1,h2,h3⟩:=h;exact ⟨a,b,h1,Gv.j6 hs h2,Gv.j6 hs h3⟩
 opens:=SS
 wP:=by
  constructor
  intro H enc P W d fuel fs off cs h ht hl
  match fs,h with
  | [f],h=>exact PK SS h (ht f (by simp)) hl
  | f :: g :: r,h=>exact XS h ht hl
@[reducible] def Gv.via {α β:Type} [Gv β] (f:α->β) (g:β->α) (h:∀ y,f (g y)=y):Gv α where
 ty:=Gv.ty β
 rep M w cs x:=Gv.rep M w cs (f x)
 len:=Gv.len
 pos:=Gv.pos (α:=β)
 j6:=Gv.j6
 opens:=⟨λh1 h2=>let ⟨y,hy⟩:=(Gv.opens (α:=β)).ap h1 h2;⟨g y,by simp only [h];exact hy⟩⟩
 wP:=⟨λh1 h2 h3=>let ⟨y,hy⟩:=(Gv.wP (α:=β)).ap h1 h2 h3;⟨g y,by simp only [h];exact hy⟩⟩
theorem aXs {M:List Nat} {w:World} {cs:List Value} {x:Int}:Gv.rep M w cs x ↔ cs=[.int .i64 x]/\aR x:=Iff.rfl
end Go.Vc
end

