/-
 For every input erratalaw39.CheckpointCollects returns true,does not panic,comes to an end,and leaves what came in as it was;the variables that its row lists are as the program's text lays them.
 Conditions: none beyond the given statement's own (CheckpointCollectsCardSaid).
-/
import Derived.Test.YtfijlibaeahlaaaGreatDoorKb8
import Derived.Test.YtfijlibaeahlaaaGreatDoorKb9
import Derived.Test.YtfijlibaeahlaaaGreatDoorKb6
import Derived.Test.YtfijlibaeahlaaaGreatDoorKb10
import Derived.Test.YtfijlibaeahlaaaGreatDoorKb5
import Derived.Test.YtfijlibaeahlaaaGreatDoorKb4
import Derived.Test.YtfijlibaeahlaaaGreatDoorKb11
import Derived.Test.YtfijlibaeahlaaaGreatDoorKb7
import Derived.Test.YtfijlibaeahlaaaGreatDoorTie
import Derived.Test.YtfijlibaeahlaaaGreatDoorCards
import Derived.SevenTiedAt
import Derived.LaidMore
import Derived.ChangeMaps5
import Derived.Test.YtfijlibaeahlaaaGreatDoorRows
open Go.Proofs.Tryz
set_option linter.unusedVariables false
set_option linter.unusedSimpArgs false
section
namespace Go.Proofs.YtfijlibaeahlaaaGreatDoor
open Go.Vc
structure sx where
 kind:Int
 n:Int
abbrev sx.cells(m:sx):List Value:=[.int .i64 m.kind,.int .i64 0,.int .i64 0,.int .i64 0,.int .i64 m.n,.slice none 0 0]
abbrev sx.v(m:sx):Value:=.agg #[.int .i64 m.kind,.int .i64 0,.int .i64 0,.int .i64 0,.int .i64 m.n,.slice none 0 0]
abbrev Ih(c:Int):sx:=⟨1,c⟩
abbrev LO(n:Int):sx:=⟨2,n⟩
structure gS where
 ch:Nat
 came:List Nat
 num:Int
 kind:Int
def gS.busy(g:gS):Bool:=decide (0<g.num)
def gS.add(g:gS)(i:Nat):List Nat:=if i∈g.came then g.came else g.came++[i]
def tM(g:gS)(i:Nat)(n kind:Int):Int × gS :=
 let first := !g.busy
 let all:=decide ((g.add i).length=g.ch)
 (if decide (kind=0)&&all||decide (kind=1)&&first then 4 else 3,if all then ⟨g.ch,[],0,kind⟩ else ⟨g.ch,g.add i,n,kind⟩)
def rm(g:gS)(i:Nat)(m:sx)(kind:Int):Int × gS :=
 let over:=g.busy&&decide (g.kind=1)
 if (g.busy && !over&&decide (i∈g.came))=true then (0,g)
 else if (decide (m.kind≠1)&&over && !decide (i∈g.came))=true then (2,g)
 else if m.kind≠1 then (1,g)
 else if (decide (m.n<1)||g.busy&&(decide (m.n≠g.num)||decide (kind≠g.kind)||decide (i∈g.came)))=true then (-1,g)
 else tM g i m.n kind
def a2T(eX eY:Nat)(w:World)(J:Value->World->Prop):Prop:=∃ n:Int,w.cell? (Addr.mk eX (eY+2) none)=some (Value.int IntKind.i64 n)/\J (Value.bool (decide (0<n))) w
theorem aOZ(eX eY:Nat)(w:World)(J:Value->World->Prop)(h:a2T eX eY w J):ω F.dy #[aA eX eY] w λe w'=>∃ v,e=.returned v/\J v w' :=
 aJ4 (H:={ keep:=some [0,2] }) (by rw [show Ry prog { keep:=some [0,2] } F.dy #[aA eX eY] w J=a2T eX eY w J by kernel_rfl];exact h)
section
variable {aB dm:Type}[DecidableEq aB]{kv:aB->Value}{cU:dm->Value}{z:dm}{P:Program}{t k e:TypeId}(T:yR P t k e kv cU z)
include T
theorem aYd{w:World}{b:Nat}{es:List (dD aB dm)}{clock:Nat}(ok:HU es clock)(hb:w.heap[b]? = some (jU kv cU es clock))(x:aB):
  ∃ oX a6E s,Sem.run P (Instr.mapEntry t (.map (some b)) (kv x)) w=.ok (.tuple #[cU (jV z es x),.int .i64 (s:Nat)]) (r9 w b (jU kv cU oX a6E))/\HU oX a6E/\(∀ y,jV z oX y=jV z es y)/\(∃ a∈oX,a.key=x/\a.born=s) /\
   oX.map dD.key=if x∈es.map dD.key then es.map dD.key else es.map dD.key++[x]:=by
 have h1:=T.find x es w;unfold jU at hb;cases hf:vJ cU es x 0 with
 | none =>
  have hn:=W4 hf;refine ⟨es++[⟨x,z,clock⟩],clock+1,clock,?_,⟨?_,?_,?_⟩,λy=>?_,⟨⟨x,z,clock⟩,by simp,rfl,rfl⟩,?_⟩
  .have h3:=MapKept.run_setObj_map (P:=P) (.map ((es.map (dD.m kv cU)).toArray.push ⟨kv x,cU z,clock⟩) (clock+1)) hb;unfold Instr.mapEntry;rw [hf] at h1;simp only [Sem.run_bind,run_underlying T.map,MapKept.run_getObj_map hb,Result.andThen,T.Ix,Sem.run_pure,h1,T.zero,h3];rw [Pd hn]
   congr 2
   unfold jU;simp [dD.m]
  .exact List.pairwise_append.2 ⟨ok.keys,by simp,λa ha c hc=>by rw [List.mem_singleton.1 hc];exact hn a ha⟩
  .exact List.pairwise_append.2 ⟨ok.BM,by simp,λa ha c hc=>by rw [List.mem_singleton.1 hc];exact Nat.ne_of_lt (ok.lt a ha)⟩
  .intro a ha;rcases List.mem_append.1 ha with ha|ha
   .have:=ok.lt a ha;omega
   .rw [List.mem_singleton.1 ha];exact Nat.lt_succ_self _
  .rw [a7Q hn y];by_cases hy:y=x
   .rw [if_pos hy,hy];exact (Pd hn).symm
   .rw [if_neg hy]
  .rw [if_neg λh=>by
    obtain ⟨a,ha,he⟩:=List.mem_map.1 h;exact hn a ha he,List.map_append]
   rfl
 | some r =>
  obtain ⟨j,v⟩:=r;obtain ⟨n,a,hj,ha,hk,hv,hg⟩:=W5 (z:=z) hf;have hj:j=n:=by omega
  subst hj;refine ⟨es,clock,a.born,?_,ok,λ_=>rfl,⟨a,List.mem_of_getElem? ha,hk,rfl⟩,by rw [if_pos (List.mem_map.2 ⟨a,List.mem_of_getElem? ha,hk⟩)]⟩;have qh:(es.map (dD.m kv cU)).toArray[j]? = some (dD.m kv cU a):=by simp [ha]
  have h3:=MapKept.run_setObj_map (P:=P) (.map ((es.map (dD.m kv cU)).toArray.modify j λe=>{ e with key:=kv x }) clock) hb;unfold Instr.mapEntry;rw [hf] at h1;simp only [Sem.run_bind,run_underlying T.map,MapKept.run_getObj_map hb,Result.andThen,T.Ix,Sem.run_pure,h1,qh,Option.map_some,Option.getD_some];rw [show (dD.m kv cU a).key=kv x by rw [<-hk];rfl,T.stays x w];simp only [h3];rw [hg,hv]
  congr 2
  unfold jU;refine congrArg (λa=>w.heap.setIfInBounds b (Obj.map a clock)) ?_;apply Array.ext
  .simp
  .intro i hi1 hi2;rw [Array.getElem_modify];split
   .rename_i e;subst e;have:(es.map (dD.m kv cU)).toArray[j]=dD.m kv cU a:=by
     have:=Array.getElem?_eq_getElem (xs:=(es.map (dD.m kv cU)).toArray) hi2;rw [qh] at this;exact (Option.some.inj this).symm
    rw [this,<-hk];rfl
   .rfl
theorem aYe{w:World}{b:Nat}{es:List (dD aB dm)}{clock:Nat}(hb:w.heap[b]? = some (jU kv cU es clock))(ty:TypeId):(Builtin.len_ #[t] ty #[.map (some b)]).run P w=.ok (.int .i64 es.length) w:=by
 unfold jU at hb;simp [Builtin.len_,run_underlying T.map,MapKept.run_getObj_map hb,Result.andThen,goInt]
end
theorem aYh{aB dm:Type}[DecidableEq aB]{kv:aB->Value}{cU:dm->Value}{z:dm}{P:Program}{w:World}{b:Nat}{es:List (dD aB dm)}{clock s:Nat}{x:aB}(t:TypeId)(ok:HU es clock)(hx:∃ a∈es,a.key=x/\a.born=s)(hb:w.heap[b]? = some (jU kv cU es clock))(v:dm):
  ∃ oX,Sem.run P (Instr.entryStore t (.map (some b)) (.int .i64 (s:Nat)) (cU v)) w=.ok () (r9 w b (jU kv cU oX clock))/\HU oX clock/\(∀ y,jV z oX y=if y=x then v else jV z es y)/\oX.map dD.key=es.map dD.key:=by
 obtain ⟨a,ha,hk,hs⟩:=hx;have hiff:∀ c∈es,c.born=s ↔ c.key=x:=λc hc=>⟨λh=>by rw [GH ok.BM hc ha (h.trans hs.symm)];exact hk,λh=>by rw [GH ok.keys hc ha (h.trans hk.symm)];exact hs⟩;refine ⟨es.map λa=>if a.born=s then { a with val:=v } else a,?_,⟨?_,?_,?_⟩,λy=>?_,?_⟩
 .unfold jU at hb;obtain ⟨n,h1,h2⟩:=a6u (p:=λe:MapEntry=>(e.born:Int) == ((s:Nat):Int)) (l:=es.map (dD.m kv cU)) (a:=dD.m kv cU a) (List.mem_map.2 ⟨a,ha,rfl⟩) (by
    show ((a.born:Int) == _)=true;rw [hs];simp) (λc hc hcb=>by
   obtain ⟨c',fZ,rfl⟩:=List.mem_map.1 hc;have:c'.born=s:=by
    have h:((c'.born:Int) == ((s:Nat):Int))=true:=hcb;simp at h;omega
   rw [GH ok.BM fZ ha (this.trans hs.symm)])
  have h3:=MapKept.run_setObj_map (P:=P) (.map ((es.map (dD.m kv cU)).toArray.modify n λe=>{ e with val:=cU v }) clock) hb;have h0:(asIntOf (.int .i64 ((s:Nat):Int))).run P w=.ok (.i64,((s:Nat):Int)) w:=rfl;unfold Instr.entryStore;simp only [Sem.run_bind,MapKept.run_getObj_map hb,Result.andThen,Sem.run_pure,asInt];have h4:Array.findIdx? (λe:MapEntry=>(e.born:Int) == ((s:Nat):Int)) (es.map (dD.m kv cU)).toArray=some n:=by simpa using h1
  simp only [h0,h4,h3]
  congr 2
  unfold jU;refine congrArg (λa=>w.heap.setIfInBounds b (Obj.map a clock)) ?_;have Bo:es[n]? = some a:=by
   rw [List.getElem?_map] at h2;cases he:es[n]? with
   | none=>rw [he] at h2;cases h2
   | some c =>
    rw [he] at h2;have od:c.born=a.born:=congrArg MapEntry.born (Option.some.inj h2);rw [GH ok.BM (List.mem_of_getElem? he) ha od]
  apply Array.ext
  .simp
  .intro i hi1 hi2;have Q1:i<es.length:=by simpa using hi1
   rw [Array.getElem_modify];simp only [List.getElem_toArray,List.getElem_map];split
   .rename_i e;subst e;have:es[n]=a:=by
     have:=List.getElem?_eq_getElem Q1;rw [Bo] at this;exact (Option.some.inj this).symm
    rw [this,if_pos hs];rfl
   .rename_i e;rw [if_neg];intro Pr;have a83:=GH ok.BM (List.getElem_mem Q1) ha (Pr.trans hs.symm);have hn:n<es.length:=(List.getElem?_eq_some_iff.1 Bo).1;have hp:=ok.BM;rw [List.pairwise_iff_getElem] at hp;have hna:es[n]=a:=(List.getElem?_eq_some_iff.1 Bo).2;rcases Nat.lt_or_gt_of_ne e with h|h
    .exact hp n i hn Q1 h (by rw [hna,a83])
    .exact hp i n Q1 hn h (by rw [hna,a83])
 .refine List.pairwise_map.2 (ok.keys.imp fun {a b} h=>?_);split<;>split<;>exact h
 .refine List.pairwise_map.2 (ok.BM.imp fun {a b} h=>?_);split<;>split<;>exact h
 .intro c hc;obtain ⟨c',fZ,rfl⟩:=List.mem_map.1 hc;have:=ok.lt c' fZ;split<;>exact this
 .rw [a7P hiff y];by_cases h:y=x
  .rw [if_pos ⟨h,a,ha,hk⟩,if_pos h]
  .rw [if_neg λe=>h e.1,if_neg h]
 .rw [List.map_map];refine List.map_congr_left λc hc=>?_;show (if c.born=s then _ else c:dD aB dm).key=c.key;split<;>rfl
structure nS where
 cS:Nat
 ff:Nat
 es:List (dD Int Bool)
 a6A:Nat
abbrev aVF(a:nS)(g:gS):List Value:=[.int .i64 g.ch,.map (some a.ff),.int .i64 g.num,.int .i64 g.kind]
abbrev gX(a:nS)(g:gS):Own:=.blk a.cS (aVF a g) 109
abbrev eZ(a:nS):Own:=.obj a.ff (jU (Value.int .i64) Value.bool a.es a.a6A)
structure nT(a:nS)(g:gS):Prop where
 ok:HU a.es a.a6A
 get:∀ i:Nat,jV false a.es (i:Int)=decide (i∈g.came)
 keys:a.es.map dD.key=g.came.map λi:Nat=>(i:Int)
set_option maxRecDepth 100000 in
theorem Uk:yR prog 107 3 4 (Value.int .i64) Value.bool false:=yR.ofInt (kk:=.i64) (by kernel_rfl) (by kernel_rfl) (λb x w=>rfl) (λw=>rfl)
theorem nT.len{a:nS}{g:gS}(h:nT a g):a.es.length=g.came.length:=by
 have:=congrArg List.length h.keys;simpa using this
theorem a7W(cS ff ch:Nat)(kind:Int):nT ⟨cS,ff,[],0⟩ ⟨ch,[],0,kind⟩:=⟨⟨List.Pairwise.nil,List.Pairwise.nil,by simp⟩,λi=>rfl,rfl⟩
section
variable {W w:World}{S:List Own}{Φ:Y}
theorem a2Q[O Φ](c:Ctx W w S Φ)(n:Nat){K:c6}(hk:∀ a w',nT a ⟨n,[],0,0⟩->Ctx W w' (gX a ⟨n,[],0,0⟩ :: eZ a :: S) Φ->K (.returned (aA a.cS 0)) w'):
  ω F.Oq #[.int .i64 n] w K:=by
 refine cn (aM2 n (J:=K∘.returned) c λk0 k1 w G B=>?_);refine hk ⟨k1,k0,[],0⟩ w (a7W _ _ _ _) ?_;have e:max (n:Int) 0=n:=by omega
 rw [e] at B;exact B.left
theorem ED{w:World}{b:Nat}{n:Int}(h:w.cell? ⟨b,2,none⟩=some (.int .i64 n)):ω F.dy #[aA b 0] w λe w'=>e=.returned (.bool (decide (0<n)))/\w'=w:=by
 refine (aOZ b 0 w (λu w'=>u=.bool (decide (0<n))/\w'=w) ?_).mono λe w' ⟨v,h1,h2,h3⟩=>⟨by rw [h1,h2],h3⟩;exact ⟨n,by rw [Nat.zero_add];exact h,rfl,rfl⟩
theorem aNH[O Φ]{a:nS}{g:gS}(c:Ctx W w (gX a g :: S) Φ){K:c6}(hk:∀ w',Ctx W w' (gX a g :: S) Φ->K (.returned (.bool g.busy)) w'):ω F.dy #[aA a.cS 0] w K :=
 (ED (c.get 0 rfl rfl)).mono λe w' ⟨h1,h2⟩=>by rw [h1,h2];exact hk w c
theorem aNn[O Φ]{a:nS}{g:gS}(c:Ctx W w (gX a g :: eZ a :: S) Φ){K:c6}(hk:∀ a' w',a'.cS=a.cS->nT a' ⟨g.ch,[],0,g.kind⟩->Ctx W w' (gX a' ⟨g.ch,[],0,g.kind⟩ :: eZ a' :: S) Φ->K (.returned (.tuple #[])) w'):
  ω F.Uv #[aA a.cS 0] w K:=by
 refine cn (aLz a.cS 0 (J:=K∘.returned) c ?_);intro k0 w G B;have B:Ctx W w (.obj k0 (Obj.map #[] 0) :: gX a g :: eZ a :: (S++G)) Φ:=B;refine ⟨B.can 1 rfl (by show 2+1<=4;omega),λw1 hw1=>?_⟩;have c1:=B.put 1 hw1 rfl;refine ⟨.obj k0 (Obj.map #[] 0) :: .blk a.cS [.int .i64 g.ch,.map (some a.ff),.int .i64 0,.int .i64 g.kind] 109 :: eZ a :: S,Φ,γ,c1,λw G B=>?_⟩;have B:Ctx W w (.obj k0 (Obj.map #[] 0) :: .blk a.cS [.int .i64 g.ch,.map (some a.ff),.int .i64 0,.int .i64 g.kind] 109 :: eZ a :: (S++G)) Φ:=B
 refine ⟨B.can 1 rfl (by show 1+1<=4;omega),λw2 X0=>?_⟩;have c2:=B.put 1 X0 rfl;refine ⟨.obj k0 (Obj.map #[] 0) :: .blk a.cS [.int .i64 g.ch,.map (some k0),.int .i64 0,.int .i64 g.kind] 109 :: eZ a :: S,Φ,γ,c2,λw G B=>?_⟩;have B:Ctx W w (.obj k0 (Obj.map #[] 0) :: .blk a.cS [.int .i64 g.ch,.map (some k0),.int .i64 0,.int .i64 g.kind] 109 :: eZ a :: S++G) Φ:=B;exact hk ⟨a.cS,k0,[],0⟩ w rfl (a7W _ _ _ _) ((B.left.swap).sub (.cons_cons _ (.cons_cons _ (.cons _ (List.Sublist.refl _)))))
theorem aQ7[O Φ]{a:nS}{g:gS}(c:Ctx W w (gX a g :: eZ a :: S) Φ)(hp:nT a g)(i:Nat)(n kind:Int){K:c6}
  (hk:∀ a' w',a'.cS=a.cS->nT a' (tM g i n kind).2->Ctx W w' (gX a' (tM g i n kind).2 :: eZ a' :: S) Φ->K (.returned (.int .i64 (tM g i n kind).1)) w') :
  ω F.Uw #[aA a.cS 0,.int .i64 i,.int .i64 n,.int .i64 kind] w K:=by
 refine cn (aM0 a.cS 0 i n kind (J:=K∘.returned) c ?_);refine λw G B=>aNH B λw B=>⟨g.busy,rfl,gX a g :: eZ a :: S,Φ,γ,B,λw G B=>⟨some a.ff,B.get 0 rfl rfl,λw G B=>?_⟩⟩;have B:Ctx W w (gX a g :: eZ a :: (S++G)) Φ:=B;refine ⟨B.can 0 rfl (by show 2+1<=4;omega),λw1 hw1=>⟨.blk a.cS [.int .i64 g.ch,.map (some a.ff),.int .i64 n,.int .i64 g.kind] 109 :: eZ a :: S,Φ,γ,B.put 0 hw1 rfl,λw G B=>?_⟩⟩;have B:Ctx W w (.blk a.cS [.int .i64 g.ch,.map (some a.ff),.int .i64 n,.int .i64 g.kind] 109 :: eZ a :: (S++G)) Φ:=B
 refine ⟨B.can 0 rfl (by show 3+1<=4;omega),λw1 hw1=>⟨.blk a.cS [.int .i64 g.ch,.map (some a.ff),.int .i64 n,.int .i64 kind] 109 :: eZ a :: S,Φ,γ,B.put 0 hw1 rfl,λw G B=>?_⟩⟩;have B:Ctx W w (.blk a.cS [.int .i64 g.ch,.map (some a.ff),.int .i64 n,.int .i64 kind] 109 :: eZ a :: (S++G)) Φ:=B;obtain ⟨oX,qb,s,C3,aXq,hg1,hx1,hk1⟩:=aYd (P:=prog) Uk hp.ok (B.own (eZ a) (by simp)) (i:Int);have c1:=B.putObj 1 (jU (Value.int .i64) Value.bool oX qb) rfl
 refine ⟨_,_,_,C3,.blk a.cS [.int .i64 g.ch,.map (some a.ff),.int .i64 n,.int .i64 kind] 109 :: .obj a.ff (jU (Value.int .i64) Value.bool oX qb) :: S,Φ,γ,c1,λw G B=>?_⟩;have B:Ctx W w (.blk a.cS [.int .i64 g.ch,.map (some a.ff),.int .i64 n,.int .i64 kind] 109 :: .obj a.ff (jU (Value.int .i64) Value.bool oX qb) :: (S++G)) Φ:=B;obtain ⟨tX,iu,aXr,hg2,hk2⟩:=aYh (P:=prog) (z:=false) 107 aXq hx1 (B.own (.obj a.ff (jU (Value.int .i64) Value.bool oX qb)) (by simp)) true
 have c2:=B.putObj 1 (jU (Value.int .i64) Value.bool tX qb) rfl;have hP:nT ⟨a.cS,a.ff,tX,qb⟩ ⟨g.ch,g.add i,n,kind⟩:=by
  refine ⟨aXr,λj=>?_,?_⟩
  .show jV false tX (j:Int)=decide (j∈g.add i);rw [hg2,hg1,hp.get];unfold gS.add;by_cases e:(j:Int)=i
   .have e:j=i:=by omega
    subst e;rw [if_pos rfl];split
    .rename_i h;rw [decide_eq_true h]
    .rw [decide_eq_true (by simp)]
   .rw [if_neg e];have e:j≠i:=λh=>e (by rw [h]);split
    .rfl
    .simp [e]
  .show tX.map dD.key=(g.add i).map _;rw [hk2,hk1,hp.keys];unfold gS.add;by_cases h:i∈g.came
   .rw [if_pos (List.mem_map.2 ⟨i,h,rfl⟩),if_pos h]
   .rw [if_neg (λh2=>by
     obtain ⟨j,hj,e⟩:=List.mem_map.1 h2;have e:j=i:=by omega
     exact h (e ▸ hj)),if_neg h,List.map_append]
    rfl
 refine ⟨_,iu,.blk a.cS [.int .i64 g.ch,.map (some a.ff),.int .i64 n,.int .i64 kind] 109 :: .obj a.ff (jU (Value.int .i64) Value.bool tX qb) :: S,Φ,γ,c2,λw G B=>?_⟩;have B:Ctx W w (.blk a.cS [.int .i64 g.ch,.map (some a.ff),.int .i64 n,.int .i64 kind] 109 :: .obj a.ff (jU (Value.int .i64) Value.bool tX qb) :: (S++G)) Φ:=B;have hlen:∀ w',w'.heap=w.heap->(Builtin.len_ #[107] 3 #[.map (some a.ff)]).run prog w'=.ok (.int .i64 ((g.add i).length:Nat)) w':=λw' hw'=>by
  rw [<-hP.len];exact aYe Uk (es:=tX) (clock:=qb) (by rw [hw'];exact B.own (.obj a.ff (jU (Value.int .i64) Value.bool tX qb)) (by simp)) 3
 refine ⟨some a.ff,B.get 0 rfl rfl,((g.add i).length:Nat),hlen,(g.ch:Int),B.get 0 rfl rfl,?_⟩;have ed:decide ((((g.add i).length:Nat):Int)=(g.ch:Int))=decide ((g.add i).length=g.ch):=decide_eq_decide.2 (by omega);rw [ed];have fin:∀ (a':nS) (g':gS) (w:World) (c:Bool),c=(decide (kind=0)&&decide ((g.add i).length=g.ch)||decide (kind=1) && !g.busy)->a'.cS=a.cS->nT a' g'->g'=(tM g i n kind).2->Ctx W w (gX a' g' :: eZ a' :: S) Φ->K (.returned (.int .i64 (if c then 4 else 3))) w:=λa' g' w c hc h1 h2 h3 B=>by
  subst h3;have:=hk a' w h1 h2 B;rw [hc];exact this
 refine U.intro (λh=>?_) (λh=>?_)
 .have h1:=aD h;refine λw G B=>aNn (a:=⟨a.cS,a.ff,tX,qb⟩) (g:=⟨g.ch,g.add i,n,kind⟩) B λa' w φ a7f B=>⟨rfl,gX a' ⟨g.ch,[],0,kind⟩ :: eZ a' :: S,Φ,γ,B,λw G B=>?_⟩;have e2:(⟨g.ch,[],0,kind⟩:gS)=(tM g i n kind).2:=by unfold tM;simp only [decide_eq_true h1,if_true]
  exact U.intro (λhc=>λw G B=>fin a' _ w true hc.symm φ a7f e2 B.left) (λhc=>λw G B=>fin a' _ w false hc.symm φ a7f e2 B.left)
 .have h1:=aO h;have e2:(⟨g.ch,g.add i,n,kind⟩:gS)=(tM g i n kind).2:=by unfold tM;simp only [decide_eq_false h1,Bool.false_eq_true,if_false]
  exact λw G B=>U.intro (λhc=>λw G B=>fin ⟨a.cS,a.ff,tX,qb⟩ _ w true hc.symm rfl hP e2 B.left) (λhc=>λw G B=>fin ⟨a.cS,a.ff,tX,qb⟩ _ w false hc.symm rfl hP e2 B.left)
end
section
variable {W w:World}{S:List Own}{Φ:Y}
theorem Ul{a:nS}{g:gS}(c:Ctx W w (gX a g :: eZ a :: S) Φ)(hp:nT a g)(i:Nat):∀ w',w'.heap=w.heap->Sem.run prog (Instr.lookup 107 (.map (some a.ff)) (.int .i64 i) false) w'=.ok (.bool (decide (i∈g.came))) w':=λw' hw'=>by
 have hr:=aYf (P:=prog) Uk (w:=w') (by rw [hw'];exact c.own (eZ a) (by simp)) (i:Int);rw [hp.get] at hr;exact hr
theorem aWu{kind:Int}(h:kind=0\/kind=1):(decide (kind≠0)&&decide (kind≠1))=false:=by rcases h with rfl|rfl<;>rfl
theorem a1y[O Φ]{a:nS}{g:gS}(c:Ctx W w (gX a g :: eZ a :: S) Φ)(hp:nT a g){i:Nat}{m:sx}{kind:Int}(hi:i<g.ch)(KC:kind=0\/kind=1){K:c6}
  (hk:∀ a' w',a'.cS=a.cS->nT a' (rm g i m kind).2->Ctx W w' (gX a' (rm g i m kind).2 :: eZ a' :: S) Φ->K (.returned (.int .i64 (rm g i m kind).1)) w') :
  ω F.eu #[aA a.cS 0,.int .i64 i,m.v,.int .i64 kind] w K:=by
 refine cn (aLy a.cS 0 i m.kind 0 0 0 m.n none 0 0 kind (J:=K∘.returned) c ?_);have same:∀ {r:Int × gS} {w:World},rm g i m kind=r->r.2=g->Ctx W w (gX a g :: eZ a :: S) Φ->K (.returned (.int .i64 r.1)) w:=fun {r w} h1 h2 B=>by
  subst h1;refine hk a w rfl (by rw [h2];exact hp) (by rw [h2];exact B)
 refine λb w G B=>⟨g.busy,λw3 ql=>by rw [ql];exact ED (B.get 0 rfl rfl),g.kind,λ_=>B.get 0 rfl rfl,λw G B=>⟨(g.ch:Int),λ_=>B.get 0 rfl rfl,?_⟩⟩;rw [aWu KC];refine U.intro (λh=>?_) (λ_=>?_)
 .simp only [Bool.or_false,Bool.or_eq_true,decide_eq_true_eq] at h;omega
 refine λw G B=>⟨g.busy,λw3 ql=>by rw [ql];exact ED (B.get 0 rfl rfl),some a.ff,λ_=>B.get 0 rfl rfl,decide (i∈g.came),λ_=>Ul (S:=S++G) B hp i,?_⟩;refine U.intro (λh=>λw G B=>?_) (λh1=>?_)
 .exact same (r:=(0,g)) (by unfold rm;rw [if_pos h]) rfl B.left
 refine λw G B=>⟨some a.ff,λ_=>B.get 0 rfl rfl,decide (i∈g.came),λ_=>Ul (S:=S++G) B hp i,?_⟩;refine U.intro (λh=>λw G B=>?_) (λh2=>?_)
 .exact same (r:=(2,g)) (by unfold rm;rw [if_neg (by rw [h1];exact Bool.false_ne_true),if_pos h]) rfl B.left
 refine U.intro (λh=>λw G B=>?_) (λh3=>?_)
 .exact same (r:=(1,g)) (by unfold rm;rw [if_neg (by rw [h1];exact Bool.false_ne_true),if_neg (by rw [h2];exact Bool.false_ne_true),if_pos (aD h)]) rfl B.left
 have h3:¬ m.kind≠1:=aO h3;refine λw G B=>⟨g.busy,λ_ w3 ql=>?_,g.num,λ_=>B.get 0 rfl rfl,g.kind,λ_=>B.get 0 rfl rfl,some a.ff,λ_=>B.get 0 rfl rfl,decide (i∈g.came),λ_=>Ul (S:=S++G) B hp i,?_⟩
 .obtain ⟨k,ql⟩:=ql;subst ql;exact (ED (by have:=(Ctx.draw B k).get 0 rfl rfl (i:=2) (v:=.int .i64 g.num);exact this)).mono λe w' ⟨h1,h2⟩=>⟨h1,k,h2⟩
 refine U.intro (λh=>λw G B=>?_) (λh4=>λw G B=>?_)
 .exact same (r:=(-1,g)) (by unfold rm;rw [if_neg (by rw [h1];exact Bool.false_ne_true),if_neg (by rw [h2];exact Bool.false_ne_true),if_neg h3,if_pos h]) rfl B.left
 have e:rm g i m kind=tM g i m.n kind:=by unfold rm;rw [if_neg (by rw [h1];exact Bool.false_ne_true),if_neg (by rw [h2];exact Bool.false_ne_true),if_neg h3,if_neg (by rw [h4];exact Bool.false_ne_true)]
 rw [e] at hk;refine aQ7 (S:=S++G) B hp i m.n kind λa' w ha hP B=>⟨_,rfl,gX a' (tM g i m.n kind).2 :: eZ a' :: S,Φ,γ,B,λw G B=>hk a' w ha hP B.left⟩
end
theorem Qo(n:Int):fE prog F.mu #[.int .i64 n] (LO n).v :=
 l7 (aMJ n) λW R Φ _=>λ_ w G c=>c.left |> λc=>⟨rfl,c⟩
theorem Oe(n:Int):fE prog F.mq #[.int .i64 n] (Ih n).v :=
 l7 (aMI n) λW R Φ _=>λ_ w G c=>c.left |> λc=>⟨rfl,c⟩
abbrev two(a:nS)(g:gS)(b:nS)(h:gS)(R:List Own):List Own:=gX a g :: eZ a :: gX b h :: eZ b :: R
theorem Zl{W w:World}{S:List Own}{Φ:Y}[O Φ]{a b:nS}{g h:gS}(c:Ctx W w (two a g b h S) Φ):Ctx W w (two b h a g S) Φ :=
 c.perm (by
  show (gX a g :: eZ a :: gX b h :: eZ b :: S).Perm (gX b h :: eZ b :: gX a g :: eZ a :: S);exact (List.perm_append_comm (l₁:=[gX a g,eZ a]) (l₂:=[gX b h,eZ b])).append_right S)
theorem OX{W w:World}{R G:List Own}{Φ:Y}[O Φ]{a b:nS}{g h g':gS}{v:Int}(c:Ctx W w (two a g b h R++G) Φ)(hp:nT a g){i:Nat}{m:sx}{kind:Int}(hi:i<g.ch)(KC:kind=0\/kind=1)(e:rm g i m kind=(v,g')){K:Int->List Own->Y->Prop}
  (hk:∀ a',a'.cS=a.cS->nT a' g'->K v (two a' g' b h R) Φ):ω F.eu #[aA a.cS 0,.int .i64 i,m.v,.int .i64 kind] w λe w'=>∃ n,e=.returned (.int .i64 n)/\∃ R' Z,O Z/\Ctx W w' (R'++G) Z/\K n R' Z :=
 a1y (S:=gX b h :: eZ b :: (R++G)) c hp hi KC λa' w ha hP B=>by
  rw [e] at hP B ⊢;exact ⟨v,rfl,two a' g' b h R,Φ,γ,B,hk a' ha hP⟩
theorem OY{W w:World}{R G:List Own}{Φ:Y}[O Φ]{a b:nS}{g h h':gS}{v:Int}(c:Ctx W w (two a g b h R++G) Φ)(hp:nT b h){i:Nat}{m:sx}{kind:Int}(hi:i<h.ch)(KC:kind=0\/kind=1)(e:rm h i m kind=(v,h')){K:Int->List Own->Y->Prop}
  (hk:∀ b',b'.cS=b.cS->nT b' h'->K v (two a g b' h' R) Φ):ω F.eu #[aA b.cS 0,.int .i64 i,m.v,.int .i64 kind] w λe w'=>∃ n,e=.returned (.int .i64 n)/\∃ R' Z,O Z/\Ctx W w' (R'++G) Z/\K n R' Z :=
 a1y (S:=gX a g :: eZ a :: (R++G)) (Zl (S:=R++G) c) hp hi KC λb' w hb hP B=>by
  rw [e] at hP B ⊢;exact ⟨v,rfl,two a g b' h' R,Φ,γ,Zl (S:=R++G) B,hk b' hb hP⟩
theorem Ab{W w:World}{R G:List Own}{Φ:Y}[O Φ]{f:FuncId}{args:Array Value}{m:sx}(h:fE prog f args m.v)(c:Ctx W w (R++G) Φ){K:Int->Int->Int->Int->Int->Option Addr->Nat->Nat->List Own->Y->Prop}(hk:K m.kind 0 0 0 m.n none 0 0 R Φ):
  Calls prog f args w λe w'=>∃ n1 n2 nA cX uN p k1 k2,e=.returned (.agg #[.int .i64 n1,.int .i64 n2,.int .i64 nA,.int .i64 cX,.int .i64 uN,.slice p k1 k2])/\∃ R' Z,O Z/\Ctx W w' (R'++G) Z/\K n1 n2 nA cX uN p k1 k2 R' Z :=
 h.use c λw B=>⟨_,_,_,_,_,none,0,0,rfl,R,Φ,γ,B,hk⟩
set_option maxHeartbeats 4000000 in
theorem aYv:fE prog F.Vo #[] (.bool true):=by
 refine l7 aMM λW R Φ _=>?_;refine λw G B=>a2Q B 2 λa w ha B=>⟨some ⟨a.cS,0,none⟩,rfl,gX a ⟨2,[],0,0⟩ :: eZ a :: R,Φ,γ,B,λw G B=>?_⟩;refine a2Q B 2 λb w hb B=>⟨some ⟨b.cS,0,none⟩,rfl,two b ⟨2,[],0,0⟩ a ⟨2,[],0,0⟩ R,Φ,γ,B,λw G B=>?_⟩;refine U.intro (λh=>by cases h) (λ_=>λw G B=>?_);refine Ab (Oe 1) B λw G B=>OY B ha (i:=0) (m:=Ih 1) (by decide) (.inl rfl) (v:=3) (h':=⟨2,[0],1,0⟩) rfl λa1 ea ha=>?_;rw [<-ea]
 clear ea B;refine U.intro (λ_=>λw G B=>?_) (λh=>by cases h);refine Ab (Qo 5) B λw G B=>OY B ha (i:=0) (m:=LO 5) (by decide) (.inl rfl) (v:=0) (h':=⟨2,[0],1,0⟩) rfl λa2 ea ha=>?_;rw [<-ea];clear ea B;refine λw G B=>Ab (Qo 5) B λw G B=>OY B ha (i:=1) (m:=LO 5) (by decide) (.inl rfl) (v:=1) (h':=⟨2,[0],1,0⟩) rfl λa3 ea ha=>?_;rw [<-ea];clear ea B;refine U.intro (λ_=>λw G B=>?_) (λh=>by cases h);refine Ab (Oe 1) B λw G B=>OY B ha (i:=1) (m:=Ih 1) (by decide) (.inl rfl) (v:=4) (h':=⟨2,[],0,0⟩) rfl λa4 ea ha=>?_
 rw [<-ea];clear ea B;refine λw G B=>Ab (Oe 1) B λw G B=>OX B hb (i:=0) (m:=Ih 1) (by decide) (.inr rfl) (v:=4) (g':=⟨2,[0],1,1⟩) rfl λb1 eb hb=>?_;rw [<-eb];clear eb B;refine U.intro (λ_=>λw G B=>?_) (λh=>by cases h);refine Ab (Qo 5) B λw G B=>OX B hb (i:=0) (m:=LO 5) (by decide) (.inr rfl) (v:=1) (g':=⟨2,[0],1,1⟩) rfl λb2 eb hb=>?_;rw [<-eb];clear eb B;refine λw G B=>Ab (Qo 5) B λw G B=>OX B hb (i:=1) (m:=LO 5) (by decide) (.inr rfl) (v:=2) (g':=⟨2,[0],1,1⟩) rfl λb3 eb hb=>?_
 rw [<-eb];clear eb B;refine U.intro (λ_=>λw G B=>?_) (λh=>by cases h);refine Ab (Oe 1) B λw G B=>OX B hb (i:=1) (m:=Ih 1) (by decide) (.inr rfl) (v:=3) (g':=⟨2,[],0,1⟩) rfl λb4 eb hb=>?_;rw [<-eb];clear eb B;refine λw G B=>?_;have J4:Ctx W w (two a4 ⟨2,[],0,0⟩ b4 ⟨2,[],0,1⟩ (R++G)) Φ:=Zl (S:=R++G) B;refine ⟨false,λ_ w3 ql=>?_,false,λ_ w3 ql=>?_,λw G B=>⟨rfl,(B.eN.eN.eN.eN).left⟩⟩
 .rw [ql];exact ED (J4.get 0 rfl rfl)
 .rw [ql];exact ED (Ctx.get B 0 rfl rfl)
end Go.Proofs.YtfijlibaeahlaaaGreatDoor
end

section
namespace Go.Proofs.YtfijlibaeahlaaaGreatDoor
set_option maxRecDepth 100000
open Go.Vc
structure EO where
 b1:Option Nat
 b2:Option Nat
 b3:Option Nat
 al:Option Nat
 r1:Option (Option Addr × Nat × Nat)
 r2:Option (Option Addr × Nat × Nat)
 lG:Option (Option Addr × Nat × Nat)
def zf(c:Bool)(X an:Prop):Prop:=match c with|true=>X/\an|false=>an
abbrev a0k:List Value:=[Value.int IntKind.i64 0,Value.int IntKind.i64 0,Value.slice none 0 0,Value.slice none 0 0,Value.slice none 0 0,Value.slice none 0 0,Value.slice none 0 0,Value.slice none 0 0]
section
variable (W:World)(χ:List Own)(σ:Y)
def Of(K:Nat->List Own->Y->Prop)(cs:List Value)(t:TypeId)(R:List Own)(Φ:Y):Prop:=∀ k:Nat,(∀ (w:World) (G:List Own),Ctx W w (Own.blk k cs t :: R++G) Φ->Ctx W w (χ++G) σ)/\K k (Own.blk k cs t :: R) Φ
def OU(K:(Option Addr × Nat × Nat)->List Own->Y->Prop)(b:Option Nat)(q:Option Addr)(n c:Nat)(R:List Own)(Φ:Y):Prop:=match b with
 | some k=>∀ (w:World) (G:List Own),Ctx W w (R++G) Φ->∃ (p1:Option Addr),∃ (k1:Nat),∃ (k2:Nat),∃ (w1:World),Sem.run prog (builtin Builtin.append #[22,22] 22 #[false,false] #[Value.slice (some (Addr.mk k 0 none)) 0 0,Value.slice q n c]) w=Result.ok (Next.value (Value.slice p1 k1 k2)) w1/\∃ (R':List Own),∃ (Z:Y),O Z/\Ctx W w1 (R'++G) Z/\(∀ (w:World) (G:List Own),Ctx W w (R'++G) Z->Ctx W w (χ++G) σ)/\K (p1,k1,k2) R' Z
 | none=>True
variable (aY:Nat->Nat->List Own->Y->Prop)(c0 c1:Int)
def aUp(s:EO)(R:List Own)(Φ:Y):Prop:=match s.al,s.r1,s.r2,s.lG with
 | some k,some (p1,n1,m1),some (p2,n2,m2),some (p3,nA,m3)=>∀ (w:World) (G:List Own),Ctx W w (R++G) Φ->bJ w k 0 8/\∀ (w1:World),w1=w.setCells k 0 [Value.int IntKind.i64 c0,Value.int IntKind.i64 c1,Value.slice p1 n1 m1,Value.slice p2 n2 m2,Value.slice p3 nA m3,Value.slice none 0 0,Value.slice none 0 0,Value.slice none 0 0]->∃ (uw:List Own),∃ (rP:Y),O rP/\Ctx W w1 (uw++G) rP/\∃ (j4:List Own),∃ (gP:Y),O gP/\(∀ (w:World) (G:List Own),Ctx W w (uw++G) rP->Ctx W w (j4++G) gP)/\aY k 0 j4 gP
 | _,_,_,_=>True
variable (q1:Option Addr)(n1 m1:Nat)(iL:Option Addr)(n2 m2:Nat)(DQ:Option Addr)(nA m3:Nat)
def vl:Nat->EO->List Own->Y->Prop
 | 0,s,R,Φ=>aUp W aY c0 c1 s R Φ
 | n+1,s,R,Φ =>
  zf s.b1.isNone (Of W χ σ (λk=>vl n { s with b1:=some k }) [] 3 R Φ) (zf (s.b1.isSome&&s.r1.isNone) (OU W χ σ (λr=>vl n { s with r1:=some r }) s.b1 q1 n1 m1 R Φ)
  (zf s.b2.isNone (Of W χ σ (λk=>vl n { s with b2:=some k }) [] 3 R Φ) (zf (s.b2.isSome&&s.r1.isSome&&s.r2.isNone) (OU W χ σ (λr=>vl n { s with r2:=some r }) s.b2 iL n2 m2 R Φ)
  (zf s.b3.isNone (Of W χ σ (λk=>vl n { s with b3:=some k }) [] 3 R Φ) (zf (s.b3.isSome&&s.r2.isSome&&s.lG.isNone) (OU W χ σ (λr=>vl n { s with lG:=some r }) s.b3 DQ nA m3 R Φ)
  (zf s.al.isNone (Of W χ σ (λk=>vl n { s with al:=some k }) a0k 27 R Φ) True))))))
end
def aOO(c0:Int)(c1:Int)(lV:Option Addr)(ko lU:Nat)(ku:Option Addr)(kM kr:Nat)(kO:Option Addr)(jo kN:Nat)(oR:Option Addr)(kz qY:Nat)(nX:Option Addr)(kP qZ:Nat)(oU:Option Addr)(oT oS:Nat)(instances:Int)(gW:Int)(W:World)(R:List Own)(Φ:Y)(J:Value->World->Prop):Prop :=
 ∀ (b:Nat),bI λ(aY:Nat->Nat->List Own->Y->Prop)=>(∃ (ν:List Own),∃ (b7:Y),O b7/\(∀ (w3:World) (fW:List Own),Ctx W w3 (R++fW) Φ->Ctx W w3 (ν++fW) b7)/\vl W ν b7 aY c0 c1 lV ko lU ku kM kr kO jo kN 7 ⟨none,none,none,none,none,none,none⟩ R Φ) /\
 ∀ (aA2 aA3:Nat) (OE:List Own) (HZ:List Nat->World->Prop),O HZ->aY aA2 aA3 OE HZ->∃ (Tq:List Own),∃ (Su:Y),O Su/\(∀ (aJz:World) (a3R
 : List Own),Ctx W aJz (OE++a3R) HZ->Ctx W aJz (Tq++a3R) Su)/\∃ (aCT:Int),∃ (aCU:Int),∃ (aFX:Option Addr),∃ (aA4:Nat),∃ (aA5:Nat),∃ (aFY:Option
 Addr),∃ (aA6:Nat),∃ (aA7:Nat),∃ (aFZ:Option Addr),∃ (aA8:Nat),∃ (aA9:Nat),∃ (aFa:Option Addr),∃ (aAA:Nat),∃ (aAB:Nat),∃ (aFb:Option Addr),∃ (aAC :
 Nat),∃ (aAD:Nat),∃ (aFc:Option Addr),∃ (aAE:Nat),∃ (aAF:Nat),(∀ (aK0:World) (aOs:List Own),Ctx W aK0 (Tq++aOs) Su->∃ (aCX:Int),∃ (aCY:Int),∃
 (aFd:Option Addr),∃ (aAG:Nat),∃ (aAH:Nat),∃ (aFe:Option Addr),∃ (aAI:Nat),∃ (aAJ:Nat),∃ (aFf:Option Addr),∃ (aAK:Nat),∃ (aAL:Nat),∃ (aFg:Option Addr),
 ∃ (aAM:Nat),∃ (aAN:Nat),∃ (aFh:Option Addr),∃ (aAO:Nat),∃ (aAP:Nat),∃ (aFi:Option Addr),∃ (aAQ:Nat),∃ (aAR:Nat),aQ aK0 aA2 aA3 [Value.int IntKind.i64
 aCX,Value.int IntKind.i64 aCY,Value.slice aFd aAG aAH,Value.slice aFe aAI aAJ,Value.slice aFf aAK aAL,Value.slice aFg aAM aAN,Value.slice aFh aAO aAP,
 Value.slice aFi aAQ aAR]/\Value.agg #[Value.int IntKind.i64 aCX,Value.int IntKind.i64 aCY,Value.slice aFd aAG aAH,Value.slice aFe aAI aAJ,Value.slice aFf aAK aAL,
 Value.slice aFg aAM aAN,Value.slice aFh aAO aAP,Value.slice aFi aAQ aAR]=Value.agg #[Value.int IntKind.i64 aCT,Value.int IntKind.i64 aCU,Value.slice aFX aA4 aA5,
 Value.slice aFY aA6 aA7,Value.slice aFZ aA8 aA9,Value.slice aFa aAA aAB,Value.slice aFb aAC aAD,Value.slice aFc aAE aAF])/\(0<=max 0 gW/\max 0 gW <=
 max 0 gW/\1*max 0 gW<=281474976710656/\max 0 gW<=9223372036854775807)/\∀ (XS:Nat),(∀ (aK1:World) (a3S:List Own),Ctx W aK1 (Own.blk XS (List.replicate (max
 0 gW).toNat (Value.bool false)) 4 :: OE++a3S) HZ->Ctx W aK1 (Tq++a3S) Su)/\∀ (aAS:Nat) (aK2:World) (aOt:List Own),Ctx W aK2 (Own.blk aAS [Value.int
 IntKind.i64 aCT,Value.int IntKind.i64 aCU,Value.slice aFX aA4 aA5,Value.slice aFY aA6 aA7,Value.slice aFZ aA8 aA9,Value.slice aFa aAA aAB,Value.slice aFb aAC
 aAD,Value.slice aFc aAE aAF,Value.int IntKind.i64 instances,Value.slice (some (Addr.mk XS 0 none)) (max 0 gW).toNat (max 0 gW).toNat] 66 :: Own.blk XS (List.replicate
 (max 0 gW).toNat (Value.bool false)) 4 :: OE++aOt) HZ->J (Value.pointer (some (Addr.mk aAS 0 none))) aK2
abbrev aXe:uk:={ keep:=some [1,2,3,6,7],cT:=[3],dZ:=[(1,[.tree (.rd 0 (.rd 2 (.rd 5 (.rd 9 (.rd 13 (.rd 1 (.rd 3 (.rd 6 (.rd 10 (.rd 14 (.alt 4 (.alt 7 (.alt 8 (.alt 11 (.alt 12 (.alt 15 (.rd 16 (.alt 17 (.done) (.no))) (.alt 17 (.alt 15 (.rd 16 (.done)) (.no)) (.no))) (.alt 17 (.alt 12 (.alt 15 (.rd 16 (.done)) (.no)) (.no)) (.no))) (.alt 12 (.alt 11 (.alt 15 (.rd 16 (.alt 17 (.done) (.no))) (.alt 17 (.alt 15 (.rd 16 (.done)) (.no)) (.no))) (.alt 17 (.alt 11 (.alt 15 (.rd 16 (.done)) (.no)) (.no)) (.no))) (.alt 17 (.alt 11 (.alt 12 (.alt 15 (.rd 16 (.done)) (.no)) (.no)) (.alt 12 (.alt 11 (.alt 15 (.rd 16 (.done)) (.no)) (.no)) (.no))) (.no)))) (.alt 12 (.alt 8 (.alt 11 (.alt 15 (.rd 16 (.alt 17 (.done) (.no))) (.alt 17 (.alt 15 (.rd 16 (.done)) (.no)) (.no))) (.alt 17 (.alt 11 (.alt 15 (.rd 16 (.done)) (.no)) (.no)) (.no))) (.alt 17 (.alt 8 (.alt 11 (.alt 15 (.rd 16 (.done)) (.no)) (.no)) (.no)) (.no))) (.alt 17 (.alt 8 (.alt 11 (.alt 12 (.alt 15 (.rd 16 (.done)) (.no)) (.no)) (.alt 12 (.alt 11 (.alt 15 (.rd 16 (.done)) (.no)) (.no)) (.no))) (.alt 12 (.alt 8 (.alt 11 (.alt 15 (.rd 16 (.done)) (.no)) (.no)) (.no)) (.no))) (.no)))) (.alt 8 (.alt 7 (.alt 11 (.alt 12 (.alt 15 (.rd 16 (.alt 17 (.done) (.no))) (.alt 17 (.alt 15 (.rd 16 (.done)) (.no)) (.no))) (.alt 17 (.alt 12 (.alt 15 (.rd 16 (.done)) (.no)) (.no)) (.no))) (.alt 12 (.alt 11 (.alt 15 (.rd 16 (.alt 17 (.done) (.no))) (.alt 17 (.alt 15 (.rd 16 (.done)) (.no)) (.no))) (.alt 17 (.alt 11 (.alt 15 (.rd 16 (.done)) (.no)) (.no)) (.no))) (.alt 17 (.alt 11 (.alt 12 (.alt 15 (.rd 16 (.done)) (.no)) (.no)) (.alt 12 (.alt 11 (.alt 15 (.rd 16 (.done)) (.no)) (.no)) (.no))) (.no)))) (.alt 12 (.alt 7 (.alt 11 (.alt 15 (.rd 16 (.alt 17 (.done) (.no))) (.alt 17 (.alt 15 (.rd 16 (.done)) (.no)) (.no))) (.alt 17 (.alt 11 (.alt 15 (.rd 16 (.done)) (.no)) (.no)) (.no))) (.alt 17 (.alt 7 (.alt 11 (.alt 15 (.rd 16 (.done)) (.no)) (.no)) (.no)) (.no))) (.alt 17 (.alt 7 (.alt 11 (.alt 12 (.alt 15 (.rd 16 (.done)) (.no)) (.no)) (.alt 12 (.alt 11 (.alt 15 (.rd 16 (.done)) (.no)) (.no)) (.no))) (.alt 12 (.alt 7 (.alt 11 (.alt 15 (.rd 16 (.done)) (.no)) (.no)) (.no)) (.no))) (.no)))) (.alt 12 (.alt 7 (.alt 8 (.alt 11 (.alt 15 (.rd 16 (.alt 17 (.done) (.no))) (.alt 17 (.alt 15 (.rd 16 (.done)) (.no)) (.no))) (.alt 17 (.alt 11 (.alt 15 (.rd 16 (.done)) (.no)) (.no)) (.no))) (.alt 17 (.alt 8 (.alt 11 (.alt 15 (.rd 16 (.done)) (.no)) (.no)) (.no)) (.no))) (.alt 8 (.alt 7 (.alt 11 (.alt 15 (.rd 16 (.alt 17 (.done) (.no))) (.alt 17 (.alt 15 (.rd 16 (.done)) (.no)) (.no))) (.alt 17 (.alt 11 (.alt 15 (.rd 16 (.done)) (.no)) (.no)) (.no))) (.alt 17 (.alt 7 (.alt 11 (.alt 15 (.rd 16 (.done)) (.no)) (.no)) (.no)) (.no))) (.alt 17 (.alt 7 (.alt 8 (.alt 11 (.alt 15 (.rd 16 (.done)) (.no)) (.no)) (.no)) (.alt 8 (.alt 7 (.alt 11 (.alt 15 (.rd 16 (.done)) (.no)) (.no)) (.no)) (.no))) (.no)))) (.alt 17 (.alt 7 (.alt 8 (.alt 11 (.alt 12 (.alt 15 (.rd 16 (.done)) (.no)) (.no)) (.alt 12 (.alt 11 (.alt 15 (.rd 16 (.done)) (.no)) (.no)) (.no))) (.alt 12 (.alt 8 (.alt 11 (.alt 15 (.rd 16 (.done)) (.no)) (.no)) (.no)) (.no))) (.alt 8 (.alt 7 (.alt 11 (.alt 12 (.alt 15 (.rd 16 (.done)) (.no)) (.no)) (.alt 12 (.alt 11 (.alt 15 (.rd 16 (.done)) (.no)) (.no)) (.no))) (.alt 12 (.alt 7 (.alt 11 (.alt 15 (.rd 16 (.done)) (.no)) (.no)) (.no)) (.no))) (.alt 12 (.alt 7 (.alt 8 (.alt 11 (.alt 15 (.rd 16 (.done)) (.no)) (.no)) (.no)) (.alt 8 (.alt 7 (.alt 11 (.alt 15 (.rd 16 (.done)) (.no)) (.no)) (.no)) (.no))) (.no)))) (.no))))) (.alt 8 (.alt 4 (.alt 7 (.alt 11 (.alt 12 (.alt 15 (.rd 16 (.alt 17 (.done) (.no))) (.alt 17 (.alt 15 (.rd 16 (.done)) (.no)) (.no))) (.alt 17 (.alt 12 (.alt 15 (.rd 16 (.done)) (.no)) (.no)) (.no))) (.alt 12 (.alt 11 (.alt 15 (.rd 16 (.alt 17 (.done) (.no))) (.alt 17 (.alt 15 (.rd 16 (.done)) (.no)) (.no))) (.alt 17 (.alt 11 (.alt 15 (.rd 16 (.done)) (.no)) (.no)) (.no))) (.alt 17 (.alt 11 (.alt 12 (.alt 15 (.rd 16 (.done)) (.no)) (.no)) (.alt 12 (.alt 11 (.alt 15 (.rd 16 (.done)) (.no)) (.no)) (.no))) (.no)))) (.alt 12 (.alt 7 (.alt 11 (.alt 15 (.rd 16 (.alt 17 (.done) (.no))) (.alt 17 (.alt 15 (.rd 16 (.done)) (.no)) (.no))) (.alt 17 (.alt 11 (.alt 15 (.rd 16 (.done)) (.no)) (.no)) (.no))) (.alt 17 (.alt 7 (.alt 11 (.alt 15 (.rd 16 (.done)) (.no)) (.no)) (.no)) (.no))) (.alt 17 (.alt 7 (.alt 11 (.alt 12 (.alt 15 (.rd 16 (.done)) (.no)) (.no)) (.alt 12 (.alt 11 (.alt 15 (.rd 16 (.done)) (.no)) (.no)) (.no))) (.alt 12 (.alt 7 (.alt 11 (.alt 15 (.rd 16 (.done)) (.no)) (.no)) (.no)) (.no))) (.no)))) (.alt 12 (.alt 4 (.alt 7 (.alt 11 (.alt 15 (.rd 16 (.alt 17 (.done) (.no))) (.alt 17 (.alt 15 (.rd 16 (.done)) (.no)) (.no))) (.alt 17 (.alt 11 (.alt 15 (.rd 16 (.done)) (.no)) (.no)) (.no))) (.alt 17 (.alt 7 (.alt 11 (.alt 15 (.rd 16 (.done)) (.no)) (.no)) (.no)) (.no))) (.alt 17 (.alt 4 (.alt 7 (.alt 11 (.alt 15 (.rd 16 (.done)) (.no)) (.no)) (.no)) (.no)) (.no))) (.alt 17 (.alt 4 (.alt 7 (.alt 11 (.alt 12 (.alt 15 (.rd 16 (.done)) (.no)) (.no)) (.alt 12 (.alt 11 (.alt 15 (.rd 16 (.done)) (.no)) (.no)) (.no))) (.alt 12 (.alt 7 (.alt 11 (.alt 15 (.rd 16 (.done)) (.no)) (.no)) (.no)) (.no))) (.alt 12 (.alt 4 (.alt 7 (.alt 11 (.alt 15 (.rd 16 (.done)) (.no)) (.no)) (.no)) (.no)) (.no))) (.no)))) (.alt 12 (.alt 4 (.alt 7 (.alt 8 (.alt 11 (.alt 15 (.rd 16 (.alt 17 (.done) (.no))) (.alt 17 (.alt 15 (.rd 16 (.done)) (.no)) (.no))) (.alt 17 (.alt 11 (.alt 15 (.rd 16 (.done)) (.no)) (.no)) (.no))) (.alt 17 (.alt 8 (.alt 11 (.alt 15 (.rd 16 (.done)) (.no)) (.no)) (.no)) (.no))) (.alt 8 (.alt 7 (.alt 11 (.alt 15 (.rd 16 (.alt 17 (.done) (.no))) (.alt 17 (.alt 15 (.rd 16 (.done)) (.no)) (.no))) (.alt 17 (.alt 11 (.alt 15 (.rd 16 (.done)) (.no)) (.no)) (.no))) (.alt 17 (.alt 7 (.alt 11 (.alt 15 (.rd 16 (.done)) (.no)) (.no)) (.no)) (.no))) (.alt 17 (.alt 7 (.alt 8 (.alt 11 (.alt 15 (.rd 16 (.done)) (.no)) (.no)) (.no)) (.alt 8 (.alt 7 (.alt 11 (.alt 15 (.rd 16 (.done)) (.no)) (.no)) (.no)) (.no))) (.no)))) (.alt 8 (.alt 4 (.alt 7 (.alt 11 (.alt 15 (.rd 16 (.alt 17 (.done) (.no))) (.alt 17 (.alt 15 (.rd 16 (.done)) (.no)) (.no))) (.alt 17 (.alt 11 (.alt 15 (.rd 16 (.done)) (.no)) (.no)) (.no))) (.alt 17 (.alt 7 (.alt 11 (.alt 15 (.rd 16 (.done)) (.no)) (.no)) (.no)) (.no))) (.alt 17 (.alt 4 (.alt 7 (.alt 11 (.alt 15 (.rd 16 (.done)) (.no)) (.no)) (.no)) (.no)) (.no))) (.alt 17 (.alt 4 (.alt 7 (.alt 8 (.alt 11 (.alt 15 (.rd 16 (.done)) (.no)) (.no)) (.no)) (.alt 8 (.alt 7 (.alt 11 (.alt 15 (.rd 16 (.done)) (.no)) (.no)) (.no)) (.no))) (.alt 8 (.alt 4 (.alt 7 (.alt 11 (.alt 15 (.rd 16 (.done)) (.no)) (.no)) (.no)) (.no)) (.no))) (.no)))) (.alt 17 (.alt 4 (.alt 7 (.alt 8 (.alt 11 (.alt 12 (.alt 15 (.rd 16 (.done)) (.no)) (.no)) (.alt 12 (.alt 11 (.alt 15 (.rd 16 (.done)) (.no)) (.no)) (.no))) (.alt 12 (.alt 8 (.alt 11 (.alt 15 (.rd 16 (.done)) (.no)) (.no)) (.no)) (.no))) (.alt 8 (.alt 7 (.alt 11 (.alt 12 (.alt 15 (.rd 16 (.done)) (.no)) (.no)) (.alt 12 (.alt 11 (.alt 15 (.rd 16 (.done)) (.no)) (.no)) (.no))) (.alt 12 (.alt 7 (.alt 11 (.alt 15 (.rd 16 (.done)) (.no)) (.no)) (.no)) (.no))) (.alt 12 (.alt 7 (.alt 8 (.alt 11 (.alt 15 (.rd 16 (.done)) (.no)) (.no)) (.no)) (.alt 8 (.alt 7 (.alt 11 (.alt 15 (.rd 16 (.done)) (.no)) (.no)) (.no)) (.no))) (.no)))) (.alt 8 (.alt 4 (.alt 7 (.alt 11 (.alt 12 (.alt 15 (.rd 16 (.done)) (.no)) (.no)) (.alt 12 (.alt 11 (.alt 15 (.rd 16 (.done)) (.no)) (.no)) (.no))) (.alt 12 (.alt 7 (.alt 11 (.alt 15 (.rd 16 (.done)) (.no)) (.no)) (.no)) (.no))) (.alt 12 (.alt 4 (.alt 7 (.alt 11 (.alt 15 (.rd 16 (.done)) (.no)) (.no)) (.no)) (.no)) (.no))) (.alt 12 (.alt 4 (.alt 7 (.alt 8 (.alt 11 (.alt 15 (.rd 16 (.done)) (.no)) (.no)) (.no)) (.alt 8 (.alt 7 (.alt 11 (.alt 15 (.rd 16 (.done)) (.no)) (.no)) (.no)) (.no))) (.alt 8 (.alt 4 (.alt 7 (.alt 11 (.alt 15 (.rd 16 (.done)) (.no)) (.no)) (.no)) (.no)) (.no))) (.no)))) (.no))))))))))))))) 18,.aE [] (some 18)]),(2,[.held [(0,true),(1,true),(2,true),(3,true),(4,false)],.aE [5] (some 6),.aE [7] none])],F6:=[(2,[(7,.one .rj)],[])] }
theorem aOP(c0 c1 lV ko lU ku kM kr kO jo kN oR kz qY nX kP qZ oU oT oS instances gW):aH F.W1 #[.agg #[.int .i64 c0,.int .i64 c1,.slice lV ko lU,.slice ku kM kr,.slice kO jo kN,.slice oR kz qY,.slice nX kP qZ,.slice oU oT oS],.int .i64 instances,.int .i64 gW] (aOO c0 c1 lV ko lU ku kM kr kO jo kN oR kz qY nX kP qZ oU oT oS instances gW):=aI (aXe)
end Go.Proofs.YtfijlibaeahlaaaGreatDoor
end

section
namespace Go.Proofs.YtfijlibaeahlaaaGreatDoor
open Go.Vc
section
variable {W w:World}{S G:List Own}{Φ:Y}
theorem C8{c:Bool}{X an:Prop}(h:c=true->X)(k:an):zf c X an:=by
 cases c with
 | true=>exact ⟨h rfl,k⟩
 | false=>exact k
theorem YK{R Rest:List Own}{Z:Y}(st:O Z){k:Nat}{q:Option Addr}{l:List Int}{c2:Nat}{K:(Option Addr × Nat × Nat)->List Own->Y->Prop}(hp:R.Perm (.blk k [] 3 :: Rest))(hΦ:∀ M w,Z M w->ζ M w q l)(hl:l.length<=1000)
  (hK:∀ p c,l.length<=c->c<=maxLen->O (λM w=>Z M w/\ζ M w p l)->K (p,l.length,c) Rest (λM w=>Z M w/\ζ M w p l)):OU W [] (λ_ _=>True) K (some k) q l.length c2 R Z:=by
 intro w G B;have bG:=B.perm (show (R++G).Perm (.blk k [] 3 :: (Rest++G)) from by rw [<-List.cons_append];exact List.Perm.append_right _ hp);obtain ⟨p',cap',w',cs,hr,bG⟩:=Ctx.vE (α:=Int) (P:=prog) (ts:=22) (ty:=22) (kb:=#[false,false]) (bytes:=8) (q:=q) (l:=l) (c2:=c2) bG (by kernel_rfl) a8w hΦ (by omega) (by omega);obtain ⟨bH,hs,_,l1,l2⟩:=Ctx.freeze bG bG.Γ.2;have st:O (λM w=>Z M w/\ζ M w p' l):=γ
 exact ⟨p',_,cap',w',hr,Rest,_,st,(bH.fst).add hs,λw G B=>bW B,hK p' cap' l1 l2 st⟩
def UT(b:Option Nat)(r:Option (Option Addr × Nat × Nat)):List Own:=match b,r with
 | some k,none=>[.blk k [] 3]
 | _,_=>[]
def aQ8(a:Option Nat):List Own:=match a with
 | some k=>[.blk k a0k 27]
 | none=>[]
def Ii(s:EO)(S:List Own):List Own:=UT s.b1 s.r1++(UT s.b2 s.r2++(UT s.b3 s.lG++(aQ8 s.al++S)))
def vG(s:EO):Nat:=s.b1.isSome.toNat+s.b2.isSome.toNat+s.b3.isSome.toNat+s.al.isSome.toNat+s.r1.isSome.toNat+s.r2.isSome.toNat+s.lG.isSome.toNat
def uj(Z:Y)(l:List Int)(r:Option (Option Addr × Nat × Nat)):Prop:=∀ p n c,r=some (p,n,c)->n=l.length/\l.length<=c/\c<=maxLen/\∀ M w,Z M w->ζ M w p l
theorem uj.more{Z Ψ:Y}{l:List Int}{r:Option (Option Addr × Nat × Nat)}(h:uj Z l r)(hw:∀ M w,Ψ M w->Z M w):uj Ψ l r:=λp n c e=>by
 obtain ⟨h1,h2,h3,h4⟩:=h p n c e;exact ⟨h1,h2,h3,λM w x=>h4 M w (hw M w x)⟩
theorem uj.none{Z:Y}{l:List Int}:uj Z l none:=λp n c e=>by cases e
theorem uj.some{Z:Y}{l:List Int}{p:Option Addr}{c:Nat}(h1:l.length<=c)(h2:c<=maxLen)(h:∀ M w,Z M w->ζ M w p l):uj Z l (some (p,l.length,c)):=λp' n c' e=>by cases e;exact ⟨rfl,h1,h2,h⟩
structure aON(Φ:Y)(c:ei)(S:List Own)(n:Nat)(s:EO)(R:List Own)(Z:Y):Prop where
 perm:R.Perm (Ii s S)
 st:O Z
 Γ:∀ M w,Z M w->Φ M w
 g1:uj Z c.place s.r1
 g2:uj Z c.pos s.r2
 g3:uj Z c.closed s.lG
 cnt:n+vG s=7
 o1:s.r1.isSome=true->s.b1.isSome=true
 o2:s.r2.isSome=true->s.b2.isSome=true/\s.r1.isSome=true
 gj:s.lG.isSome=true->s.b3.isSome=true/\s.r2.isSome=true
theorem toNat_le(b:Bool):b.toNat<=1:=by cases b<;>decide
theorem aOQ[O Φ](B:Ctx W w S Φ){p:kF}{c:ei}{inst chans:Int}(hΦ:∀ M w,Φ M w->bt p c M w)(a7Y:c.place.length<=1000/\c.pos.length<=1000/\c.closed.length<=1000)(FU:chans<=1000){K:c6}
  (hk:∀ m w',rZ m (iZ c inst chans)->Ctx W w' (aW m (iZ c inst chans) S) (λM w=>Φ M w/\eV m (iZ c inst chans) M w)->K (.returned (aA m.b 0)) w') :
  ω F.W1 #[tP p c,.int .i64 inst,.int .i64 chans] w K:=by
 refine cn (aOP c.n c.kind p.pp c.place.length p.pc p.ak c.pos.length p.qc p.rp c.closed.length p.rc p.hp c.held.length p.hc p.fp c.δ.length p.b6 p.op c.output.length p.aN inst chans (J:=K∘.returned) B ?_);clear B;intro _;refine bK (λkb o R' Z=>o=0/\∃ pp pc ak qc rp rc,((c.place.length<=pc/\pc<=maxLen)/\(c.pos.length<=qc/\qc<=maxLen)/\(c.closed.length<=rc/\rc<=maxLen))/\R'=.blk kb [.int .i64 c.n,.int .i64 c.kind,.slice pp c.place.length pc,.slice ak c.pos.length qc,.slice rp c.closed.length rc,.slice none 0 0,.slice none 0 0,.slice none 0 0] 27 :: S/\Z=λM w=>((Φ M w/\ζ M w pp c.place)/\ζ M w ak c.pos)/\ζ M w rp c.closed) ⟨?_,?_⟩
 .have leaf : ∀ {k : Nat} {pp : Option Addr} {pc : Nat} {ak : Option Addr} {qc : Nat} {rp : Option Addr} {rc : Nat} (h1 : c.place.length <= pc) (h2 : pc <= maxLen) (h3 : c.pos.length <= qc) (h4 : qc <= maxLen) (h5 : c.closed.length <= rc) (h6 : rc <= maxLen) {w : World} {G : List Own}, Ctx W w ((Own.blk k [.int .i64 0, .int .i64 0, .slice none 0 0, .slice none 0 0, .slice none 0 0, .slice none 0 0, .slice none 0 0, .slice none 0 0] 27 :: S) ++ G) (λM w => ((Φ M w /\ ζ M w pp c.place) /\ ζ M w ak c.pos) /\ ζ M w rp c.closed) ->
    bJ w k 0 8/\∀ kg,kg=w.setCells k 0 [.int .i64 c.n,.int .i64 c.kind,.slice pp c.place.length pc,.slice ak c.pos.length qc,.slice rp c.closed.length rc,.slice none 0 0,.slice none 0 0,.slice none 0 0]->∃ e6 e5,O e5/\Ctx W kg (e6++G) e5/\∃ dr ep,O ep/\(∀ jf gD,Ctx W jf (e6++gD) e5->Ctx W jf (dr++gD) ep) /\
     ((0:Nat)=0/\∃ pp pc ak qc rp rc,((c.place.length<=pc/\pc<=maxLen)/\(c.pos.length<=qc/\qc<=maxLen)/\(c.closed.length<=rc/\rc<=maxLen))/\dr=.blk k [.int .i64 c.n,.int .i64 c.kind,.slice pp c.place.length pc,.slice ak c.pos.length qc,.slice rp c.closed.length rc,.slice none 0 0,.slice none 0 0,.slice none 0 0] 27 :: S/\ep=λM w=>((Φ M w/\ζ M w pp c.place)/\ζ M w ak c.pos)/\ζ M w rp c.closed):=by
   intro k pp pc ak qc rp rc h1 h2 h3 h4 h5 h6 w G B;refine ⟨B.can 0 rfl (by show 0+8<=8;omega),λw' hw'=>⟨.blk k [.int .i64 c.n,.int .i64 c.kind,.slice pp c.place.length pc,.slice ak c.pos.length qc,.slice rp c.closed.length rc,.slice none 0 0,.slice none 0 0,.slice none 0 0] 27 :: S,_,γ,B.RH 0 hw' rfl,_,_,γ,λw G B=>B,rfl,pp,pc,ak,qc,rp,rc,⟨⟨h1,h2⟩,⟨h3,h4⟩,⟨h5,h6⟩⟩,rfl,rfl⟩⟩
  obtain ⟨KI,xC,xD⟩:=a7Y;refine ⟨[],λ_ _=>True,γ,λw G B=>bW B,?_⟩;have SY:∀ {R:List Own} {Ψ:Y},O Ψ->∀ (w:World) (G:List Own),Ctx W w (R++G) Ψ->Ctx W w ([]++G) (λ_ _=>True):=λst w G B=>bW B;have key:∀ (n:Nat) (s:EO) (R:List Own) (Z:Y),aON Φ c S n s R Z->vl W [] (λ_ _=>True) (λkb o R' Z=>o=0/\∃ pp pc ak qc rp rc,((c.place.length<=pc/\pc<=maxLen)/\(c.pos.length<=qc/\qc<=maxLen)/\(c.closed.length<=rc/\rc<=maxLen))/\R'=.blk kb [.int .i64 c.n,.int .i64 c.kind,.slice pp c.place.length pc,.slice ak c.pos.length qc,.slice rp c.closed.length rc,.slice none 0 0,.slice none 0 0,.slice none 0 0] 27 :: S/\Z=λM w=>((Φ M w/\ζ M w pp c.place)/\ζ M w ak c.pos)/\ζ M w rp c.closed)
    c.n c.kind p.pp c.place.length p.pc p.ak c.pos.length p.qc p.rp c.closed.length p.rc n s R Z:=by
   intro n
   induction n with
   | zero =>
    intro s R Z h;have hc:=h.cnt;unfold vG at hc;have t1:=toNat_le s.b1.isSome;have t2:=toNat_le s.b2.isSome;have t3:=toNat_le s.b3.isSome;have t4:=toNat_le s.al.isSome;have t5:=toNat_le s.r1.isSome;have t6:=toNat_le s.r2.isSome;have t7:=toNat_le s.lG.isSome;obtain ⟨b1,b2,b3,al,r1,r2,lG⟩:=s;simp only at hc t1 t2 t3 t4 t5 t6 t7;cases al with
    | none=>simp at hc;omega
    | some k =>
    cases r1 with
    | none=>simp at hc;omega
    | some r1 =>
    cases r2 with
    | none=>simp at hc;omega
    | some r2 =>
    cases lG with
    | none=>simp at hc;omega
    | some lG =>
    obtain ⟨p1,m1,c1⟩:=r1;obtain ⟨p2,m2,c2⟩:=r2;obtain ⟨p3,m3,c3⟩:=lG;obtain ⟨rfl,d1,d2,d3⟩:=h.g1 p1 m1 c1 rfl;obtain ⟨rfl,e1,e2,eE⟩:=h.g2 p2 m2 c2 rfl;obtain ⟨rfl,f1,f2,f3⟩:=h.g3 p3 m3 c3 rfl;intro w G B;have hp:R.Perm (.blk k a0k 27 :: S):=by
     have:=h.perm;cases b1<;>cases b2<;>cases b3<;>exact this
    have st:=h.st;have bG:=B.perm (List.Perm.append_right G hp);exact leaf d1 d2 e1 e2 f1 f2 (bG.weak λM w x=>⟨⟨⟨h.Γ M w x,d3 M w x⟩,eE M w x⟩,f3 M w x⟩)
   | succ n ih =>
    intro s R Z h;have st:=h.st;have hc:=h.cnt;have xE:=h.perm;obtain ⟨b1,b2,b3,al,r1,r2,lG⟩:=s;have o1:r1.isSome=true->b1.isSome=true:=h.o1;have o2:r2.isSome=true->b2.isSome=true/\r1.isSome=true:=h.o2;have gj:lG.isSome=true->b3.isSome=true/\r2.isSome=true:=h.gj;unfold vG at hc;unfold Ii at xE;simp only at hc xE;unfold vl;refine C8 (λhb=>λk=>⟨SY st,ih _ _ _ ?_⟩) (C8 (λhb=>?_) (C8 (λhb=>λk=>⟨SY st,ih _ _ _ ?_⟩) (C8 (λhb=>?_) (C8 (λhb=>λk=>⟨SY st,ih _ _ _ ?_⟩) (C8 (λhb=>?_) (C8 (λhb=>λk=>⟨SY st,ih _ _ _ ?_⟩) trivial))))))
    .have hb:b1=none:=by simpa using hb
     subst hb;have hr:r1=none:=by cases r1 with|none=>rfl|some r=>exact absurd (o1 rfl) (by simp)
     subst hr;exact ⟨xE.cons _,st,h.Γ,h.g1,h.g2,h.g3,by unfold vG;simp only [Option.isSome_some,Bool.toNat_true];simp only [Option.isSome_none,Bool.toNat_false] at hc;simp only [Option.isSome_none,Bool.toNat_false];omega,λ_=>rfl,h.o2,h.gj⟩
    .have hb:b1.isSome=true/\r1=none:=by simpa using hb
     obtain ⟨eA,rfl⟩:=hb;obtain ⟨k,rfl⟩:=Option.isSome_iff_exists.1 eA;refine YK st (Rest:=Ii ⟨some k,b2,b3,al,some (none,0,0),r2,lG⟩ S) xE (λM w x=>(hΦ M w (h.Γ M w x)).place) KI λp c h1 h2 st'=>ih _ _ _ ⟨?_,st',λM w x=>h.Γ M w x.1,.some h1 h2 λM w x=>x.2,h.g2.more λM w x=>x.1,h.g3.more λM w x=>x.1,?_,λ_=>rfl,λhh=>⟨(o2 hh).1,rfl⟩,h.gj⟩
     .exact List.Perm.refl _
     .unfold vG;simp only [Option.isSome_some,Bool.toNat_true];simp only [Option.isSome_some,Bool.toNat_true,Option.isSome_none,Bool.toNat_false] at hc;omega
    .have hb:b2=none:=by simpa using hb
     subst hb;have hr:r2=none:=by cases r2 with|none=>rfl|some r=>exact absurd (o2 rfl).1 (by simp)
     subst hr;refine ⟨?_,st,h.Γ,h.g1,h.g2,h.g3,by unfold vG;simp only [Option.isSome_some,Bool.toNat_true];simp only [Option.isSome_none,Bool.toNat_false] at hc;simp only [Option.isSome_none,Bool.toNat_false];omega,h.o1,λhh=>by simp at hh,h.gj⟩;exact (xE.cons _).trans List.perm_middle.symm
    .have hb:(b2.isSome=true/\r1.isSome=true)/\r2=none:=by simpa using hb
     obtain ⟨⟨eA,C3⟩,rfl⟩:=hb;obtain ⟨k,rfl⟩:=Option.isSome_iff_exists.1 eA;obtain ⟨v1,rfl⟩:=Option.isSome_iff_exists.1 C3;obtain ⟨k1,rfl⟩:=Option.isSome_iff_exists.1 (o1 rfl);refine YK st (Rest:=Ii ⟨some k1,some k,b3,al,some v1,some (none,0,0),lG⟩ S) xE (λM w x=>(hΦ M w (h.Γ M w x)).pos) xC λp c h1 h2 st'=>ih _ _ _ ⟨?_,st',λM w x=>h.Γ M w x.1,h.g1.more λM w x=>x.1,.some h1 h2 λM w x=>x.2,h.g3.more λM w x=>x.1,?_,λ_=>rfl,λ_=>⟨rfl,rfl⟩,λhh=>⟨(gj hh).1,rfl⟩⟩
     .exact List.Perm.refl _
     .unfold vG;simp only [Option.isSome_some,Bool.toNat_true];simp only [Option.isSome_some,Bool.toNat_true,Option.isSome_none,Bool.toNat_false] at hc;omega
    .have hb:b3=none:=by simpa using hb
     subst hb;have hr:lG=none:=by cases lG with|none=>rfl|some r=>exact absurd (gj rfl).1 (by simp)
     subst hr;refine ⟨?_,st,h.Γ,h.g1,h.g2,h.g3,by unfold vG;simp only [Option.isSome_some,Bool.toNat_true];simp only [Option.isSome_none,Bool.toNat_false] at hc;simp only [Option.isSome_none,Bool.toNat_false];omega,h.o1,h.o2,λhh=>by simp at hh⟩;exact (xE.cons _).trans (List.perm_middle.symm.trans (List.Perm.append_left _ List.perm_middle.symm))
    .have hb:(b3.isSome=true/\r2.isSome=true)/\lG=none:=by simpa using hb
     obtain ⟨⟨eA,iu⟩,rfl⟩:=hb;obtain ⟨k,rfl⟩:=Option.isSome_iff_exists.1 eA;obtain ⟨v2,rfl⟩:=Option.isSome_iff_exists.1 iu;obtain ⟨h5,h6⟩:=o2 rfl;obtain ⟨k2,rfl⟩:=Option.isSome_iff_exists.1 h5;obtain ⟨v1,rfl⟩:=Option.isSome_iff_exists.1 h6;obtain ⟨k1,rfl⟩:=Option.isSome_iff_exists.1 (o1 rfl);refine YK st (Rest:=Ii ⟨some k1,some k2,some k,al,some v1,some v2,some (none,0,0)⟩ S) xE (λM w x=>(hΦ M w (h.Γ M w x)).closed) xD λp c h1 h2 st'=>ih _ _ _ ⟨?_,st',λM w x=>h.Γ M w x.1,h.g1.more λM w x=>x.1,h.g2.more λM w x=>x.1,.some h1 h2 λM w x=>x.2,?_,λ_=>rfl,λ_=>⟨rfl,rfl⟩,λ_=>⟨rfl,rfl⟩⟩
     .exact List.Perm.refl _
     .unfold vG;simp only [Option.isSome_some,Bool.toNat_true];simp only [Option.isSome_some,Bool.toNat_true,Option.isSome_none,Bool.toNat_false] at hc;omega
    .have hb:al=none:=by simpa using hb
     subst hb;refine ⟨?_,st,h.Γ,h.g1,h.g2,h.g3,by unfold vG;simp only [Option.isSome_some,Bool.toNat_true];simp only [Option.isSome_none,Bool.toNat_false] at hc;omega,h.o1,h.o2,h.gj⟩;exact (xE.cons _).trans (List.perm_middle.symm.trans (List.Perm.append_left _ (List.perm_middle.symm.trans (List.Perm.append_left _ List.perm_middle.symm))))
  exact key 7 ⟨none,none,none,none,none,none,none⟩ S Φ ⟨List.Perm.refl _,γ,λ_ _ h=>h,.none,.none,.none,rfl,(λh=>by cases h),(λh=>by cases h),(λh=>by cases h)⟩
 rintro kb o ν θ jd ⟨rfl,pp,pc,ak,qc,rp,rc,⟨l1,l2,l3⟩,rfl,rfl⟩;refine ⟨[.blk kb [.int .i64 c.n,.int .i64 c.kind,.slice pp c.place.length pc,.slice ak c.pos.length qc,.slice rp c.closed.length rc,.slice none 0 0,.slice none 0 0,.slice none 0 0] 27],λ_ _=>True,γ,λw G B=>xQ B,c.n,c.kind,pp,_,pc,ak,_,qc,rp,_,rc,none,0,0,none,0,0,none,0,0,λw G B=>⟨_,_,_,_,_,_,_,_,_,_,_,_,_,_,_,_,_,_,_,_,B.DS 0 rfl,rfl⟩,⟨by omega,by omega,by omega,by omega⟩,λkd=>⟨λw G B=>Qg B,λk w G B=>?_⟩⟩
 have em:max 0 chans=max chans 0:=Int.max_comm ..;rw [em] at B;refine hk ⟨k,pp,pc,ak,qc,rp,rc,none,0,[],none,0,[],none,0,kd⟩ w ⟨l1,l2,l3,⟨Nat.le_refl _,Nat.zero_le _⟩,⟨Nat.le_refl _,Nat.zero_le _⟩,⟨Nat.le_refl _,Nat.zero_le _⟩⟩ ?_;have bG:Ctx W w (aW ⟨k,pp,pc,ak,qc,rp,rc,none,0,[],none,0,[],none,0,kd⟩ (iZ c inst chans) S) (λM w=>((Φ M w/\ζ M w pp c.place)/\ζ M w ak c.pos)/\ζ M w rp c.closed):=by
  have bH:=(Ctx.left (F:=G) B).sub (S':=.blk k [.int .i64 c.n,.int .i64 c.kind,.slice pp c.place.length pc,.slice ak c.pos.length qc,.slice rp c.closed.length rc,.slice none 0 0,.slice none 0 0,.slice none 0 0,.int .i64 inst,.slice (some (Addr.mk kd 0 none)) (max chans 0).toNat (max chans 0).toNat] 66 :: .blk kd (List.replicate (max chans 0).toNat (.bool false)) 4 :: S) (List.Sublist.cons_cons _ (List.Sublist.cons_cons _ (List.sublist_cons_self _ _)))
  have e1:gE (iZ c inst chans).done=List.replicate (max chans 0).toNat (.bool false):=by
   unfold iZ;rw [gE,List.map_replicate]
  have e2:(iZ c inst chans).done.length=(max chans 0).toNat:=by unfold iZ;rw [List.length_replicate]
  unfold aW;rw [e1];unfold cV;rw [e2];exact bH
 exact bG.weak λM w h=>⟨h.1.1.1,h.1.1.2,h.1.2,h.2,ζ.nil,ζ.nil,ζ.nil⟩
end
structure zA where
 act:Int
 n:Int
 held:ah
 δ:bn
 l:List μ
instance:ι zA:=ι.via (β:=Int × Int × ah × bn × List μ) (λx=>(x.act,x.n,x.held,x.δ,x.l)) (λy=>⟨y.1,y.2.1,y.2.2.1,y.2.2.2.1,y.2.2.2.2⟩) (λ_=>rfl)
abbrev zA.cells(x:zA)(p1:Option Addr)(c1:Nat)(p2:Option Addr)(c2:Nat)(p3:Option Addr)(c3:Nat):List Value:=[.int .i64 x.act,.int .i64 x.n,.int .i64 x.held.node,.int .i64 x.held.worker,.string x.held.state,.slice p1 x.held.out.length c1,.int .i64 x.δ.ch,.int .i64 x.δ.msg.kind,.int .i64 x.δ.msg.node,.int .i64 x.δ.msg.dS,.int .i64 x.δ.msg.bucket,.int .i64 x.δ.msg.n,.slice p2 x.δ.msg.ξ.length c2,.slice p3 x.l.length c3]
theorem aIZ{M:List Nat}{w:World}{cs:List Value}{x:zA}(h:ι.rep M w cs x):∃ p1 c1 p2 c2 p3 c3,cs=x.cells p1 c1 p2 c2 p3 c3/\V x.n/\(V x.held.node/\V x.held.worker/\x.held.state.size<=maxLen)/\(x.held.out.length<=c1/\c1<=maxLen)/\(V x.δ.ch/\x.δ.msg.lP)/\(x.δ.msg.ξ.length<=c2/\c2<=maxLen)/\(x.l.length<=c3/\c3<=maxLen)/\ζ M w p1 x.held.out/\ζ M w p2 x.δ.msg.ξ/\ζ M w p3 x.l:=by
 obtain ⟨_,_,rfl,⟨rfl,h1⟩,_,_,rfl,⟨rfl,h2⟩,_,_,rfl,h3,_,_,rfl,h4,p3,c3,rfl,h5,h6,h7⟩:=h;obtain ⟨p1,c1,rfl,a1,a2,a3,a4,a5,a6⟩:=FV h3;obtain ⟨p2,c2,rfl,b1,b2,b3,b4,BK⟩:=FJ h4;exact ⟨p1,c1,p2,c2,p3,c3,rfl,h2,⟨a1,a2,a3⟩,⟨a4,a5⟩,⟨b1,b4⟩,⟨b2,b3⟩,⟨h5,h6⟩,a6,BK,h7⟩
theorem aIa{M:List Nat}{w:World}{x:zA}{p1 p2 p3:Option Addr}{c1 c2 c3:Nat}(h:ι.rep M w (x.cells p1 c1 p2 c2 p3 c3) x):ζ M w p1 x.held.out/\ζ M w p2 x.δ.msg.ξ/\ζ M w p3 x.l:=by
 obtain ⟨q1,_,iL,_,DQ,_,e,_,_,_,_,_,_,s1,s2,fN⟩:=aIZ h;simp only [zA.cells,List.cons.injEq,Value.slice.injEq] at e;obtain ⟨_,_,_,_,_,⟨rfl,_⟩,_,_,_,_,_,_,⟨rfl,_⟩,⟨rfl,_⟩,_⟩:=e;exact ⟨s1,s2,fN⟩
theorem aQi{M:List Nat}{w:World}{cs:List Value}{x:ei}(h:ι.rep M w cs x):∃ p,cs=Iy p x/\(V x.n/\V x.kind)/\bt p x M w:=by
 obtain ⟨_,_,rfl,⟨rfl,h1⟩,_,_,rfl,⟨rfl,h2⟩,_,_,rfl,⟨p1,c1,rfl,_,_,s1⟩,_,_,rfl,⟨p2,c2,rfl,_,_,s2⟩,_,_,rfl,⟨p3,c3,rfl,_,_,fN⟩,_,_,rfl,⟨aC,c4,rfl,_,_,eC⟩,_,_,rfl,⟨dL,c5,rfl,_,_,k9⟩,vr,Oj,rfl,_,_,DV⟩:=h;exact ⟨⟨p1,c1,p2,c2,p3,c3,aC,c4,dL,c5,vr,Oj⟩,rfl,⟨h1,h2⟩,s1,s2,fN,eC,k9,DV⟩
theorem aYV(x:cL)(h:ah):(sM x h).2.output=x.output:=by
 unfold sM;split
 .rfl
 .split<;>rfl
theorem aYQ(x:cL)(f:bn):(qF x f).2.output=x.output:=by
 unfold qF;split
 .rfl
 .split
  .rfl
  .split<;>rfl
theorem aR9(x:cL)(c:Int):(pz x c).2.output=x.output:=by
 unfold pz;split
 .rfl
 .split<;>rfl
theorem aRA{m:gp}{x:cL}{c:Int}(h:rZ m x):rZ m (pz x c).2:=by
 unfold pz;split
 .exact h
 .split
  .exact h
  .exact ⟨h.place,h.pos,h.closed,h.held,h.δ,h.out⟩
theorem aPs(a:Int):∃ b:Int,∀ w:World,Sem.run prog (binOp BinOp.and 3 (.int .i64 a) (.int .i64 3)) w=.ok (.int .i64 b) w:=⟨_,λw=>rfl⟩
section
variable {W w:World}{S G T:List Own}{Φ:Y}
theorem Fv[O Φ]{q:kF}{y:ei}{m mr:gp}{x:cL}(B:Ctx W w (aU m x (aW mr x S)++G) (eL Φ q y m mr x)):Ctx W w S Φ :=
 ((Ctx.left (S:=aU m x (aW mr x S)) (F:=G) B).eN.eN.eN.eN.eN.eN).weak λM w h=>h.1.1.1
set_option maxHeartbeats 4000000 in
theorem aNt[O Φ](hN:∀ M w,Φ M w->fG M w){cp:kF}{c:ei}{inst chans:Int}{lp:Option Addr}{lc:Nat}{l:List zA}(hΦ:∀ M w,Φ M w->bt cp c M w)(hL:∀ M w,Φ M w->ζ M w lp l)(Pt:V c.n/\V c.kind):
  ay Φ prog F.a6p #[tP cp c,.int .i64 inst,.int .i64 chans,.slice lp l.length lc] (.bool true):=by
 refine .pinned hL λb o cs hp=>⟨λW w S c0=>?_⟩;have hcs:=λj (hj:j<l.length)=>aIZ (c0.Γ.2 j hj).2.2;have hz1:=Mh (hΦ _ _ c0.Γ.1).place;have hz2:=Mh (hΦ _ _ c0.Γ.1).pos;have aWY:=Mh (hΦ _ _ c0.Γ.1).closed;refine ay.go ?_ W w S c0;clear c0;obtain ⟨Ψ,hΨ⟩:∃ Ψ:Y,Ψ=(λM w=>Φ M w/\aP b o cs l M w):=⟨_,rfl⟩;have bw:O Ψ:=by rw [hΨ];infer_instance
 have p0:∀ M w,Ψ M w->Φ M w:=λM w h=>by rw [hΨ] at h;exact h.1
 have vh:∀ M w,Ψ M w->fG M w:=λM w h=>hN M w (p0 M w h);have Fs:∀ M w,Ψ M w->aP b o cs l M w:=λM w h=>by rw [hΨ] at h;exact h.2
 rw [<-hΨ];clear hΨ;refine dN (aMH c.n c.kind cp.pp c.place.length cp.pc cp.ak c.pos.length cp.qc cp.rp c.closed.length cp.rc cp.hp c.held.length cp.hc cp.fp c.δ.length cp.b6 cp.op c.output.length cp.aN inst chans lp l.length lc) λW R=>?_;refine λ_ w G B=>aYv.use B λw B=>⟨true,rfl,R,Ψ,bw,B,λw G B=>U.intro (λ_ w G B=>⟨rfl,B.left⟩) (λhb w G B=>?_)⟩;simp only [Bool.or_eq_false_iff,decide_eq_false_iff_not] at hb
 obtain ⟨⟨⟨⟨⟨eA,od⟩,Bx⟩,FR⟩,ad3⟩,ad4⟩:=hb;obtain ⟨x0,hx0⟩:∃ x0,x0=iZ c inst chans:=⟨_,rfl⟩;have a7d:fF x0 0:=by rw [hx0];exact fF.new (by omega) (by omega) Pt.1 Pt.2 ⟨by omega,hz1⟩ ⟨by omega,hz2⟩ ⟨by omega,aWY⟩
 have a8P:x0.output=[]:=by rw [hx0];rfl
 refine aOR (S:=R++G) (Φ:=Ψ) B (p:=cp) (c:=c) (λM w h=>hΦ M w (p0 M w h)) (by omega) (by omega) λm w FX B=>?_;rw [<-hx0] at B;refine ⟨some ⟨m.b,0,none⟩,rfl,aU m x0 R,λM w=>Ψ M w/\cz m x0 M w,γ,B,λw G B=>aOQ (S:=aU m x0 (R++G)) (Φ:=λM w=>Ψ M w/\cz m x0 M w) B (p:=cp) (c:=c) (λM w h=>hΦ M w (p0 M w h.1)) (by omega) (by omega) λmr w zV B=>?_⟩;rw [<-hx0] at B zV;have bG:Ctx W w (aU m x0 (aW mr x0 R)++G) (eL Ψ H6 Dt m mr x0):=(Ctx.perm (S':=aU m x0 (aW mr x0 (R++G))) B mh.symm).weak λM w h=>⟨⟨⟨h.1.1,a0j M w⟩,h.2⟩,h.1.2⟩
 refine ⟨some ⟨mr.b,0,none⟩,rfl,aU m x0 (aW mr x0 R),eL Ψ H6 Dt m mr x0,γ,bG,U.intro (λh=>by cases h) λ_ _=>?_⟩;clear B bG;refine bK (a2K Ψ R m.b mr.b l.length) ⟨⟨aU m x0 (aW mr x0 R),eL Ψ H6 Dt m mr x0,l.length - 0,γ,λw G B=>B,⟨0,m,mr,x0,Dt,rfl,Nat.zero_le _,rfl,rfl,a7d,zV,by rw [a8P,FX];exact ⟨Nat.zero_le _,Nat.zero_le _⟩,⟨rfl,rfl,rfl,rfl,rfl,rfl,rfl,rfl⟩,aKs,.inl rfl,rfl,rfl,rfl⟩⟩,?_⟩;clear a7d zV FX a8P
 rintro s n0 a0 a1 pp aH0 pc ak aH9 qc rp rn rc hp' hn hc fp fn b6 op on aN ν θ k _ ⟨i,m1,dW,x,y,rfl,hi,hmb,hrb,hI,zV,zT,⟨rfl,rfl,rfl,rfl,rfl,rfl,rfl,rfl⟩,hg,hs,rfl,rfl,rfl⟩;rw [<-hmb,<-hrb];clear hmb hrb hx0;obtain ⟨q,hq⟩:∃ q:kF,q=⟨pp,pc,ak,qc,rp,rc,hp',hc,fp,b6,op,aN⟩:=⟨_,rfl⟩;rw [<-hq];have jd:O (eL Ψ q y m1 dW x):=γ;refine U.intro (λhlt=>?_) (λhge=>?_)
 .have hlt:i<l.length:=by have:=aD hlt;omega
  obtain ⟨p1,c1,p2,c2,p3,c3,e1,hn2,hh,Q0,hf,Pz,tv,_,_,_⟩:=hcs i hlt;have Qf:∀ M w,eL Ψ q y m1 dW x M w->ζ M w p1 l[i].held.out/\ζ M w p2 l[i].δ.msg.ξ/\ζ M w p3 l[i].l:=λM w h=>by
   have:=(Fs M w h.1.1.1 i hlt).2.2;rw [e1] at this;exact aIa this
  have hrow:∀ {M w},eL Ψ q y m1 dW x M w->aQ w b (o+i*14) (l[i].cells p1 c1 p2 c2 p3 c3):=fun {M w} h=>by
   have:=(Fs M w h.1.1.1 i hlt).2.1;rw [e1] at this;exact this
  have Q5:l.length<=40:=by omega
  obtain ⟨st,hst⟩:∃ st,st=l[i]:=⟨_,rfl⟩;rw [<-hst] at Qf hrow hh Q0 hf Pz tv hn2;refine ⟨⟨by omega,by omega⟩,aL b o (hp (by omega)) λw G B=>⟨_,_,_,_,_,p1,_,c1,_,_,_,_,_,_,p2,_,c2,p3,_,c3,by rw [Int.toNat_natCast];exact hrow B.Γ,λ_ w G B=>?_⟩⟩;refine (UG (Φ:=eL Ψ q y m1 dW x) (p:=p1) (cap:=c1) (λM w h=>(Qf M w h).1) (Nat.le_trans Q0.1 Q0.2)).use B λv w hv B=>?_;obtain ⟨v1,rfl,hv1⟩:=hv;refine ⟨v1,rfl,aU m1 x (aW dW x R),eL Ψ q y m1 dW x,jd,B,U.intro (λ_ w G B=>⟨rfl,Fv B⟩) λaWS=>U.intro (λ_ w G B=>⟨rfl,Fv B⟩) λu6 k1 w G B=>?_⟩
  obtain ⟨bH,hs2⟩:=Ctx.Pc (α:=dw) (l:=[⟨0,st.δ.msg⟩]) (b:=k1) (cs:=(dw.mk 0 st.δ.msg).cells p2 c2) (t:=45) (S:=aU m1 x (aW dW x R)++G) (Φ:=eL Ψ q y m1 dW x) B (Δ.one (RP (x:=⟨0,st.δ.msg⟩) (show V 0 by unfold V;omega) Pz.1 Pz.2 hf.2 (Qf _ _ B.Γ).2.1));have aZ0:O (λM w=>eL Ψ q y m1 dW x M w/\ζ M w (some ⟨k1,0,none⟩) [(⟨0,st.δ.msg⟩:dw)]):=γ;refine (UG (Φ:=λM w=>eL Ψ q y m1 dW x M w/\ζ M w (some ⟨k1,0,none⟩) [(⟨0,st.δ.msg⟩:dw)]) (p:=some ⟨k1,0,none⟩) (cap:=1) (l:=[⟨0,st.δ.msg⟩]) (λM w h=>h.2) (show 1<=maxLen by decide)).use (bH.add hs2) λv w hv B=>?_
  clear bH hs2;obtain ⟨v2,rfl,a8c⟩:=hv;refine ⟨v2,rfl,aU m1 x (aW dW x R),eL Ψ q y m1 dW x,jd,B.fst,U.intro (λ_ w G B=>⟨rfl,Fv B⟩) λaWT k2 w G B=>?_⟩;obtain ⟨bH,hs2⟩:=Ctx.Pc (α:=dw) (l:=[⟨0,0,0,0,0,0,st.l⟩]) (b:=k2) (cs:=(dw.mk 0 ⟨0,0,0,0,0,st.l⟩).cells p3 c3) (t:=45) (S:=aU m1 x (aW dW x R)++G) (Φ:=eL Ψ q y m1 dW x) B (Δ.one (RP (x:=⟨0,0,0,0,0,0,st.l⟩) (show V 0 by unfold V;omega) tv.1 tv.2 (by constructor<;>(show V 0;unfold V;omega)) (Qf _ _ B.Γ).2.2))
  have ada:O (λM w=>eL Ψ q y m1 dW x M w/\ζ M w (some ⟨k2,0,none⟩) [(⟨0,0,0,0,0,0,st.l⟩:dw)]):=γ;refine (UG (Φ:=λM w=>eL Ψ q y m1 dW x M w/\ζ M w (some ⟨k2,0,none⟩) [(⟨0,0,0,0,0,0,st.l⟩:dw)]) (p:=some ⟨k2,0,none⟩) (cap:=1) (l:=[⟨0,0,0,0,0,0,st.l⟩]) (λM w h=>h.2) (show 1<=maxLen by decide)).use (bH.add hs2) λv w hv B=>?_;clear bH hs2;obtain ⟨v3,rfl,a8d⟩:=hv;obtain ⟨z,hz⟩:=aPs st.act;refine ⟨v3,rfl,aU m1 x (aW dW x R),eL Ψ q y m1 dW x,jd,B.fst,U.intro (λ_ w G B=>⟨rfl,Fv B⟩) λaWU=>⟨z,hz,?_⟩⟩
  clear B;have g1:=hv1 (by simpa using aWS);have g2:=(a8c (by simpa using aWT)).2 _ (List.mem_singleton.2 rfl);have g3:=(a8d (by simpa using aWU)).2 _ (List.mem_singleton.2 rfl);clear hv1 a8c a8d;have hH:wM st.held:=⟨hh.1,hh.2.1,by have:=aO u6;omega,g1.1,g1.2⟩;have hA:O (λM w=>(Ψ M w/\bt q y M w)/\eV dW x M w):=γ;have Qe:∀ M w,Ψ M w/\bt q y M w->ζ M w p1 st.held.out/\ζ M w p2 st.δ.msg.ξ/\ζ M w p3 st.l:=λM w h=>by
   have:=(Fs M w h.1 i hlt).2.2;rw [e1,<-hst] at this;exact aIa this
  have Xp:∀ M w,(Ψ M w/\bt q y M w)/\eV dW x M w->ζ M w p1 st.held.out/\ζ M w p2 st.δ.msg.ξ/\ζ M w p3 st.l:=λM w h=>Qe M w h.1;have KH:=hI.out;refine U.intro (λ_=>⟨[],λ_ _=>True,γ,(λw G B=>bW B),λw G B=>?_⟩) (λ_=>U.intro (λ_=>⟨[],λ_ _=>True,γ,(λw G B=>bW B),λw G B=>?_⟩) (λ_=>U.intro (λ_=>⟨[],λ_ _=>True,γ,(λw G B=>bW B),λw G B=>?_⟩) (λ_ w G B=>?_)))
  .refine aPa (S:=aW dW x (R++G)) (Φ:=λM w=>(Ψ M w/\bt q y M w)/\eV dW x M w) (h:=st.held) (q:=p1) (d:=c1) B hI.ok (λM w h=>(Xp M w h).1) (a88 hH) hh λe x' m' w he KF FX B=>⟨e,rfl,aU m' x' (aW dW x R),λM w=>((Ψ M w/\bt q y M w)/\eV dW x M w)/\cz m' x' M w,γ,B,(λw G B=>bW B),λw G B=>?_⟩;have Rl:O (λM w=>(Ψ M w/\bt q y M w)/\cz m' x' M w):=γ;refine aPZ (S:=aU m' x' (R++G)) (Φ:=λM w=>(Ψ M w/\bt q y M w)/\cz m' x' M w) (h:=st.held) (q:=p1) (d:=c1) ((Ctx.perm B (mh (T:=R++G))).weak λM w h=>⟨⟨h.1.1,h.2⟩,h.1.2⟩) zV hI.ok (λM w h=>(Qe M w h.1).1) Q0 hh λe2 x2 A3 w mw KK Bw B=>?_
   rw [he] at mw;cases mw;have hx:fF x' (i+1):=by have:=hI.report hH;rw [he] at this;exact this
   have ho:x'.output=x.output:=by have:=aYV x st.held;rw [he] at this;exact this
   refine ⟨e,rfl,aU m' x' (aW A3 x' R),eL Ψ q y m' A3 x',γ,(Ctx.perm B (mh (T:=R++G)).symm).weak λM w h=>⟨⟨h.1.1,h.2⟩,h.1.2⟩,U.intro (λh=>absurd rfl (aD h)) λ_=>?_⟩;rw [<-KF,<-KK];have key:=Ro (W:=W) (S:=R) (Φ:=Ψ) vh (q:=q) (y:=y) (s:=s) (J:=λu w'=>u=.bool true/\Ctx W w' R Ψ) Q5 hlt hx Bw (by rw [ho,FX];exact zT) hg hs;rw [hq] at key ⊢;exact key
  .refine aPY (S:=aW dW x (R++G)) (Φ:=λM w=>(Ψ M w/\bt q y M w)/\eV dW x M w) (f:=st.δ) (q:=p2) (d:=c2) B hI.ok (λM w h=>(Xp M w h).2.1) (WA g2.2) hf λe x' m' w he KF FX B=>⟨e,rfl,aU m' x' (aW dW x R),λM w=>((Ψ M w/\bt q y M w)/\eV dW x M w)/\cz m' x' M w,γ,B,(λw G B=>bW B),λw G B=>?_⟩;have Rl:O (λM w=>(Ψ M w/\bt q y M w)/\cz m' x' M w):=γ;refine aPX (S:=aU m' x' (R++G)) (Φ:=λM w=>(Ψ M w/\bt q y M w)/\cz m' x' M w) (f:=st.δ) (q:=p2) (d:=c2) ((Ctx.perm B (mh (T:=R++G))).weak λM w h=>⟨⟨h.1.1,h.2⟩,h.1.2⟩) zV hI.ok (λM w h=>(Qe M w h.1).2.1) Pz hf λe2 x2 A3 w mw KK Bw B=>?_
   rw [he] at mw;cases mw;have hx:fF x' (i+1):=by have:=hI.record (by omega) ⟨hf.1,g2.2⟩;rw [he] at this;exact this
   have ho:x'.output=x.output:=by have:=aYQ x st.δ;rw [he] at this;exact this
   refine ⟨e,rfl,aU m' x' (aW A3 x' R),eL Ψ q y m' A3 x',γ,(Ctx.perm B (mh (T:=R++G)).symm).weak λM w h=>⟨⟨h.1.1,h.2⟩,h.1.2⟩,U.intro (λh=>absurd rfl (aD h)) λ_=>?_⟩;rw [<-KF,<-KK];have key:=Ro (W:=W) (S:=R) (Φ:=Ψ) vh (q:=q) (y:=y) (s:=s) (J:=λu w'=>u=.bool true/\Ctx W w' R Ψ) Q5 hlt hx Bw (by rw [ho,FX];exact zT) hg hs;rw [hq] at key ⊢;exact key
  .refine aO3 (S:=aW dW x (R++G)) (Φ:=λM w=>(Ψ M w/\bt q y M w)/\eV dW x M w) (c:=st.n) B λe x' w he B=>⟨e,rfl,aU m1 x' (aW dW x R),λM w=>((Ψ M w/\bt q y M w)/\eV dW x M w)/\cz m1 x' M w,γ,B,(λw G B=>bW B),λw G B=>?_⟩;have Rl:O (λM w=>(Ψ M w/\bt q y M w)/\cz m1 x' M w):=γ;refine aO2 (S:=aU m1 x' (R++G)) (Φ:=λM w=>(Ψ M w/\bt q y M w)/\cz m1 x' M w) (c:=st.n) ((Ctx.perm B (mh (T:=R++G))).weak λM w h=>⟨⟨h.1.1,h.2⟩,h.1.2⟩) λe2 x2 w mw B=>?_
   rw [he] at mw;cases mw;have hx:fF x' (i+1):=by have:=hI.aR8 (c:=st.n);rw [he] at this;exact this
   have ho:x'.output=x.output:=by have:=aR9 x st.n;rw [he] at this;exact this
   have Bw:rZ dW x':=by have:=aRA (c:=st.n) zV;rw [he] at this;exact this
   refine ⟨e,rfl,aU m1 x' (aW dW x' R),eL Ψ q y m1 dW x',γ,(Ctx.perm B (mh (T:=R++G)).symm).weak λM w h=>⟨⟨h.1.1,h.2⟩,h.1.2⟩,U.intro (λh=>absurd rfl (aD h)) λ_=>?_⟩;have key:=Ro (W:=W) (S:=R) (Φ:=Ψ) vh (q:=q) (y:=y) (s:=s) (J:=λu w'=>u=.bool true/\Ctx W w' R Ψ) Q5 hlt hx Bw (by rw [ho];exact zT) hg hs;rw [hq] at key ⊢;exact key
  .have hrows:=hI.rows;have iu:Ev st.l:=λd hd=>by have:=(pG g3.2.right).2 d hd;omega
   have h8:=(pG g3.2.right).1;have aci:st.l.length<=8:=h8;refine aOW (S:=aW dW x (R++G)) (Φ:=λM w=>(Ψ M w/\bt q y M w)/\eV dW x M w) (q:=p3) (l:=st.l) (d:=c3) B (λM w h=>(Xp M w h).2.2) zT tv (by omega) (by omega) hrows iu λm' w KF bq eF B=>⟨rfl,aU m' (nD x st.l) (aW dW x R),λM w=>((Ψ M w/\bt q y M w)/\eV dW x M w)/\cz m' (nD x st.l) M w,γ,B,λw G B=>?_⟩;have Rl:O (λM w=>(Ψ M w/\bt q y M w)/\cz m' (nD x st.l) M w):=γ
   refine aOV (S:=aU m' (nD x st.l) (R++G)) (Φ:=λM w=>(Ψ M w/\bt q y M w)/\cz m' (nD x st.l) M w) (q:=p3) (l:=st.l) (d:=c3) ((Ctx.perm B (mh (T:=R++G))).weak λM w h=>⟨⟨h.1.1,h.2⟩,h.1.2⟩) zV (λM w h=>(Qe M w h.1).2.2) (by omega) (by omega) hrows iu λA3 w KK Bw B=>?_;have hx:fF (nD x st.l) (i+1):=hI.output g3.2;refine ⟨rfl,aU m' (nD x st.l) (aW A3 (nD x st.l) R),eL Ψ q y m' A3 (nD x st.l),γ,(Ctx.perm B (mh (T:=R++G)).symm).weak λM w h=>⟨⟨h.1.1,h.2⟩,h.1.2⟩,?_⟩
   rw [<-KF,<-KK];have key:=Ro (W:=W) (S:=R) (Φ:=Ψ) vh (q:=q) (y:=y) (s:=s) (J:=λu w'=>u=.bool true/\Ctx W w' R Ψ) Q5 hlt hx Bw ⟨bq,eF⟩ hg hs;rw [hq] at key ⊢;exact key
 .refine U.intro (λ_=>U.intro (λ_ w G B=>⟨rfl,Fv B⟩) (λhe w G B=>?_)) (λh=>by cases h);have aWO:s=bs (qa y):=by
   rcases hs with hs|hs
   .exact absurd hs (aO he)
   .exact hs
  have key:=(HP (Φ:=eL Ψ q y m1 dW x) (p:=q) (x:=y) (λM w h=>(vh M w h.1.1.1).1) (λM w h=>h.1.1.2) hg).use B (K:=λe w'=>∃ r8,e=.returned (.string r8)/\∃ aT gQ,O gQ/\Ctx W w' (aT++G) gQ/\∀ w G,Ctx W w (aT++G) gQ->(Value.bool (decide (r8=s))=.bool true/\Ctx W w R Ψ)) λw B=>⟨_,rfl,aU m1 x (aW dW x R),eL Ψ q y m1 dW x,jd,B,λw G B=>⟨by rw [decide_eq_true aWO.symm],Fv B⟩⟩;rw [hq] at key;exact key
end
end Go.Proofs.YtfijlibaeahlaaaGreatDoor
end

section
namespace Go.Proofs.YtfijlibaeahlaaaGreatDoor
open Go.ChangeShapes Go.WideShapes Go.ChangeAt Go.RowKit Go.Vc
theorem aR5:ownKnob prog.godebug=none:=by kernel_rfl
theorem aR4:laidOutB prog=true:=by kernel_rfl
theorem aZM{H:Type}{enc:TypeId × Value->H}{P:Program}{w:World}{base:Nat}{spare:Nat->Bool}{held:Bool}{t0 t1 t2 t3:TypeId}{args:Array Value}{ds:List (DataW H)}{ps:List MemPlace}(h:DataW.TrodAll enc P w base spare held [t0,t1,t2,t3] args.toList ds ps):
  ∃ v0 v1 v2 v3 d0 d1 d2 d3 xb p1 p2 p3,args=#[v0,v1,v2,v3]/\ds=[d0,d1,d2,d3]/\ps=xb++p1++p2++p3/\DataW.Trod enc P w base spare held t0 v0 d0 xb/\DataW.Trod enc P w base spare held t1 v1 d1 p1/\DataW.Trod enc P w base spare held t2 v2 d2 p2/\DataW.Trod enc P w base spare held t3 v3 d3 p3:=by
 obtain ⟨v0,adf,d0,acW,xb,q0,hargs,rfl,rfl,h0,h⟩:=trodAll_cons h;obtain ⟨v1,aJ7,d1,lX,p1,q1,rfl,rfl,rfl,h1,h⟩:=trodAll_cons h;obtain ⟨v2,adg,d2,tV,p2,iL,rfl,rfl,rfl,h2,h⟩:=trodAll_cons h;obtain ⟨v3,adh,d3,acX,p3,DQ,rfl,rfl,rfl,h3,h⟩:=trodAll_cons h;obtain ⟨rfl,rfl,rfl⟩:=trodAll_nil h;exact ⟨v0,v1,v2,v3,d0,d1,d2,d3,xb,p1,p2,p3,by cases args;simp_all,rfl,by simp,h0,h1,h2,h3⟩
theorem aRB(os:Os)(args:Array Value):laidMetH prog Rows.checkpointCollectsRow.laid ((World.doorLaid prog 400 os).forCall (λ_ _=>0) ⟨#[],args,[]⟩).memory :=
 laidMetH_of_parts3 (fuel:=8) (laidMet_of_run' 8 (by kernel_rfl) (by kernel_rfl)) (by kernel_rfl) (by kernel_rfl)
set_option maxRecDepth 100000 in
theorem aX2(os:Os)(started:os.Started)(H:Type)(enc:TypeId × Value->H):
  ReturnsInHanded {} Tryz.checked os 3 .any (λw args=>(Rows.checkpointCollectsSpec.pre enc prog Tryz.f3 Rows.checkpointCollectsRow.domain false w args/\laidMetH prog Rows.checkpointCollectsRow.laid w)/\sizedMet enc prog Tryz.f3 (OpenSpec.ofChange Rows.checkpointCollectsSpec) false w args) (Rows.checkpointCollectsSpec.post enc prog Tryz.f3 false true false false):=by
 refine aX1 (C:=Tryz.checked) (tb:=4) aR5 started (by kernel_rfl) func3 aR4 rfl ?_ rfl underlying4 (by kernel_rfl)
  (ChangeSpec.witness_shaped (enc:=enc) (C:=Tryz.checked) (os:=os) (X:=λw _=>laidMetH prog Rows.checkpointCollectsRow.laid w) false (World.doorLaid prog 400 os) #[.agg #[.int .i64 0,.int .i64 0,.slice none 0 0,.slice none 0 0,.slice none 0 0,.slice none 0 0,.slice none 0 0,.slice none 0 0],.int .i64 0,.int .i64 0,.slice none 0 0] 8 rfl (World.shaped_of_RefB (by kernel_rfl) (by kernel_rfl)) (by kernel_rfl) (by kernel_rfl) (by kernel_rfl) (aRB os _)) ?_
 .intro ds hd
  match ds,hd with
  | [_,_,_,_],_=>exact ⟨rfl,rfl,rfl⟩
 .intro W base args ds p aWV aVH _ hL;have hval:∀ (j:Nat) t v,Tryz.f3.params[j]? = some t->args[j]? = some v->Value.okWide prog W .any base t v:=aWV;have hA:DataW.TrodAll enc prog W 0 (λ_=>true) true Tryz.f3.params.toList args.toList ds p:=aVH;rw [Tryz.params3] at hA hval;obtain ⟨v0,v1,v2,v3,d0,d1,d2,d3,xb,p1,p2,p3,rfl,rfl,rfl,h0,h1,h2,h3⟩:=aZM hA;obtain ⟨acV,c,rfl,s0⟩:=aXu (α:=ei) 12 underlying27 (hval 0 27 v0 rfl rfl) (by kernel_rfl) h0
  obtain ⟨cp,rfl,Pt,s0⟩:=aQi s0;obtain ⟨a,rfl,rfl,rfl,aw⟩:=open_int underlying3 (hval 1 3 v1 rfl rfl) h1;obtain ⟨b,rfl,rfl,rfl,acU⟩:=open_int underlying3 (hval 2 3 v2 rfl rfl) h2;obtain ⟨lp,lc,l,rfl,la,lb,fN⟩:=aXv (α:=zA) 12 underlying28 (hval 3 28 v3 rfl rfl) (by kernel_rfl) h3;have kC:O (λM w=>ζ M w lp l):=γ;have jd:O (λM w=>bt cp c M w/\ζ M w lp l):=oq (λM w=>bt cp c M w) (λM w=>ζ M w lp l);have nF:O (λM w=>fG M w/\bt cp c M w/\ζ M w lp l):=oq (λM w=>fG M w) (λM w=>bt cp c M w/\ζ M w lp l)
  have fin:ay (λM w=>fG M w/\bt cp c M w/\ζ M w lp l) prog 3 _ (.bool true):=aNt (Φ:=(λM w=>fG M w/\bt cp c M w/\ζ M w lp l)) (cp:=cp) (c:=c) (inst:=a) (chans:=b) (lp:=lp) (lc:=lc) (l:=l) (λ_ _ h=>h.1) (λ_ _ h=>h.2.1) (λ_ _ h=>h.2.2) Pt;exact fin.law ⟨aWy hL,s0,fN⟩
theorem aYa:Rows.CheckpointCollectsSaid :=
 OpenClaim.holds_of_wide 3 Tryz.f3 rfl rfl rfl rfl rfl rfl rfl ⟨rfl,rfl,rfl,rfl,rfl⟩ rfl rfl rfl rfl rfl (by kernel_rfl) func3 (by kernel_rfl)
  (aD (by kernel_rfl)) (by unfold Func.isWrapper;first|(rw [if_pos (by decide +kernel)];kernel_rfl)|(rw [if_neg (by decide +kernel)];exact ⟨rfl,rfl⟩))
  (λos started H enc _=>aX2 os started H enc)
theorem collects_holds:Rows.CheckpointCollectsCardSaid :=
 Claim7.holds_tied_plain_at .later [] [.data,.data,.data,.sentinel,.sentinel] true Rows.checkpointCollectsCard.stood.harness true
  aYa (λ_ h=>by cases h) (by kernel_rfl) (λ_ h=>by cases h) checkpointCollects_row_tie rfl ⟨rfl,rfl⟩ (by kernel_rfl) rfl
  (λf fn hf hfn=>by
   obtain rfl:f=3:=Option.some.inj ((show prog.funcNamed Rows.checkpointCollectsRow.func=some 3 by kernel_rfl).symm.trans hf) |>.symm;obtain rfl:fn=Tryz.f3:=(Option.some.inj (func3.symm.trans hfn)).symm;exact ⟨by kernel_rfl,λj t ht=>by
    rw [Tryz.params3] at ht;have hm:=Array.mem_of_getElem? ht;have hall:((Tryz.f3.params.toList).all λu => !prog.wantsStandIn u)=true:=by kernel_rfl
    rw [Tryz.params3] at hall;exact (show prog.wantsStandIn t=false by simpa using List.all_eq_true.1 hall t (by simpa using hm))⟩)
  (by kernel_rfl)
end Go.Proofs.YtfijlibaeahlaaaGreatDoor
end

