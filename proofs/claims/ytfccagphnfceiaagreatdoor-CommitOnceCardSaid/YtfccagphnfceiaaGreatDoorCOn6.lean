/-
  The bucket of a row,walked.
-/
import Derived.Test.YtfccagphnfceiaaGreatDoorCOn5
import Derived.Lib.ConvBytes
import Derived.Lib.AtoiErrMem
import Derived.Test.YtfccagphnfceiaaGreatDoorCOn4
import Derived.Lib.AppendZeros
import Derived.Lib.SliceRun

set_option linter.unusedVariables false
set_option linter.unusedSimpArgs false
section
namespace Go.Vc
def BytesAt (b:Nat) (l:List UInt8):PW:=fun M w=>∀ j,(hj:j<l.length)→b ∉ M∧w.cell? ⟨b,j,none⟩=some (.int .u8 (l[j].toNat:Int))
instance instStableBytesAt (b:Nat) (l:List UInt8):Stable (BytesAt b l):=⟨fun {M M' w w'} hs h j hj=>by
  obtain ⟨h1,h2⟩:=h j hj
  have hlt:b<w.heap.size:=by
    rcases Nat.lt_or_ge b w.heap.size with h'|h'
    · exact h'
    · simp [World.cell?,Array.getElem?_eq_none h'] at h2
  refine ⟨fun hm=>?_,hs.chg.cell h2 h1⟩
  rcases hs.sub b hm with h|h
  · exact h1 h
  · omega⟩
theorem chg_bytes {w:World} {e:TypeId} {s:ByteArray}:Chg [] w (Lib.bytesWorld w e s) :=
  have h:=Lib.bytesWorld_below w e s
  ⟨h.os,h.tape,h.output,h.size,fun k hk _=>h.block k hk⟩
theorem Ctx.bytes {W w:World} {S:List Own} {Φ:PW} [Stable Φ] (c:Ctx W w S Φ) (e:TypeId) (s:ByteArray):Ctx W (Lib.bytesWorld w e s) S (fun M w'=>Φ M w'∧BytesAt w.heap.size s.data.toList M w'):=by
  refine (c.call chg_bytes).add fun j hj=>⟨fun hm=>absurd (c.lt hm) (Nat.lt_irrefl _),?_⟩
  have hj2:j<s.size:=by
    rw [Array.length_toList] at hj
    exact hj
  rw [Lib.bytesWorld_cell w e s j hj2,show s.data.toList.getD j 0=s.data.toList[j] by rw [List.getD,List.getElem?_eq_getElem hj];rfl]
end Go.Vc
namespace Go.Proofs.YtfccagphnfceiaaGreatDoor
open Go.Vc
section
variable {Φ:PW} {p:Option Addr} {cap:Nat} {r:List ValD} {l:List DeltaD}
end
end Go.Proofs.YtfccagphnfceiaaGreatDoor
end

section
namespace Go.Proofs.YtfccagphnfceiaaGreatDoor
open Go.Vc
structure BatD where
  no:Int
  mark:Int
  stop:Nat
abbrev BatD.cells (x:BatD):List Value:=[.int .i64 x.no,.int .i64 x.mark,.int .i64 x.stop]
structure LedD where
  lines:List LineD
  bats:List BatD
abbrev LKey:Type:=Int × ByteArray
def LineD.at (x:LineD):LKey:=(x.time,rowB x.row)
def cntL:List LineD→LKey→Int
  | [],_=>0
  | x :: l,k=>(if x.at=k then x.n else 0)+cntL l k
structure LP where
  lb:Nat
  lp:Option Addr
  lc:Nat
  cs:List Value
  bp:Option Addr
  bc:Nat
  mb:Nat
  es:List MEnt
  clk:Nat
structure LedQ (q:LP) (st:LedD):Prop where
  map:MapOk q.es q.clk
  cnt:∀ k,getM q.es k=cntL st.lines k
  lpt:0<st.lines.length→∃ g,q.lp=some ⟨g,0,none⟩
  bpt:0<st.bats.length→∃ g,q.bp=some ⟨g,0,none⟩
  lcap:st.lines.length≤q.lc∧q.lc≤maxLen
  cells:∀ i (h:i<st.lines.length),∃ p c,(q.cs.drop (i*7)).take 7=st.lines[i].cells p c∧st.lines[i].row.length≤c∧c≤maxLen∧st.lines[i].In
  len:q.cs.length=st.lines.length*7
structure LedS (st:LedD):Prop where
  lines:st.lines.length≤150000
  bats:st.bats.length≤600000
  row:∀ x∈st.lines,x.row.length≤13
  text:∀ x∈st.lines,∀ v∈x.row,v.text.size≤300
  stop:∀ b∈st.bats,b.stop≤st.lines.length
theorem LedS.rows {st:LedD} (h:LedS st):∀ x∈st.lines,x.row.length≤1000000:=fun x hx=>by have:=h.row x hx;omega
section
variable {Φ:PW} {q:LP} {st:LedD} {W w:World} {R S G:List Own}
end
end Go.Proofs.YtfccagphnfceiaaGreatDoor
end

section
namespace Go.Proofs.YtfccagphnfceiaaGreatDoor
open Go.Vc
theorem elems_len7 {M:List Nat} {w:World} {cs:List Value} {l:List LineD} (h:Elems M w cs l):cs.length=l.length*7:=h.1
theorem elems_one7 {M:List Nat} {w:World} {cs:List Value} {l:List LineD} (h:Elems M w cs l):(cs.all fun u=>oneC u)=true:=by
  have h1:=elems_len7 h
  refine List.all_eq_true.2 fun u hu=>?_
  obtain ⟨j,hj,rfl⟩:=List.getElem_of_mem hu
  have hi:j / 7<l.length:=by omega
  obtain ⟨p,c,e,_⟩:=lrow h hi
  have ha:(((cs.drop (j / 7*7)).take 7).all fun u=>oneC u)=true:=by rw [e];rfl
  have hm:cs[j]∈(cs.drop (j / 7*7)).take 7:=by
    refine List.mem_iff_getElem?.2 ⟨j % 7,?_⟩
    rw [List.getElem?_take_of_lt (by omega),List.getElem?_drop,show j / 7*7+j % 7=j by omega,List.getElem?_eq_getElem hj]
  exact List.all_eq_true.1 ha _ hm
structure Src (S:List Own) (Φ:PW) (p:Option Addr) (l:List LineD) (cs:List Value):Prop where
  ptr:0<l.length→∃ b o,p=some ⟨b,o,none⟩
  rd:∀ {W w:World} {G:List Own} {b o:Nat},p=some ⟨b,o,none⟩→Ctx W w (S++G) Φ→∀ j v,cs[j]? = some v→w.cell? ⟨b,o+j,none⟩=some v
  el:∀ M w,Φ M w→Elems M w cs l
section
variable {Φ:PW} {q:LP} {st:LedD} {W w:World} {R S G:List Own} {p:Option Addr} {cap:Nat} {l:List LineD} {cs:List Value}
theorem Src.more {Ψ:PW} (h:Src S Φ p l cs) (hi:∀ M w,Ψ M w→Φ M w):Src S Ψ p l cs:=⟨h.ptr,fun e c=>h.rd e (c.weak hi),fun M w x=>h.el M w (hi M w x)⟩
theorem Src.app (h:Src S Φ p l cs):Src (S++R) Φ p l cs:=⟨h.ptr,fun e c=>h.rd e (c.re (List.append_assoc _ _ _)),h.el⟩
def SrcF (p:Option Addr) (l:List LineD) (cs:List Value):PW:=fun M w=>(∀ b o,p=some ⟨b,o,none⟩→0<l.length→RowIn b o cs M w)∧Elems M w cs l
instance instStableSrcF (p:Option Addr) (l:List LineD) (cs:List Value):Stable (SrcF p l cs):=⟨fun hs h=>⟨fun b o e h0=>Stable.step (Φ:=fun M w=>RowIn b o cs M w) hs (h.1 b o e h0),Stable.step (Φ:=fun M w=>Elems M w cs l) hs h.2⟩⟩
theorem srcOf (c:Ctx W w S Φ) (h:Sl (dom S) w p l):∃ cs,Ctx W w S (fun M w=>Φ M w∧SrcF p l cs M w):=by
  rcases Nat.eq_zero_or_pos l.length with h0|h0
  · have hl:l=[]:=List.eq_nil_of_length_eq_zero h0
    subst hl
    exact ⟨[],c.add ⟨fun _ _ _ h=>by simp at h,Elems.nil⟩⟩
  · obtain ⟨b,o,news,hp,g1,g2,g3,g4⟩:=h.cells line_one h0
    obtain ⟨b',o',_,e',hb,hr,_⟩:=h 0 h0
    rw [hp] at e'
    cases e'
    refine ⟨news,c.add ⟨fun b' o' e _=>?_,g3⟩⟩
    rw [hp] at e
    cases e
    refine ⟨hb,fun j hj=>g2 j _ (List.getElem?_eq_getElem hj),?_⟩
    have hsz:(Gv.ty LineD).size=7:=rfl
    rw [hsz] at g1
    have:=g2 0 _ (List.getElem?_eq_getElem (by omega))
    rcases Nat.lt_or_ge b w.heap.size with h'|h'
    · exact h'
    · simp [World.cell?,Array.getElem?_eq_none h'] at this
theorem src_fact (hth:There p l.length) (hf:∀ M w,Φ M w→SrcF p l cs M w):Src [] Φ p l cs where
  ptr:=hth
  rd:=fun {W w G b o} e c j v hj=>by
    have hl:=elems_len7 (hf _ _ c.phi).2
    have hjl:j<cs.length:=(List.getElem?_eq_some_iff.1 hj).1
    have:=((hf _ _ c.phi).1 b o e (by omega)).2.1 j hjl
    rw [this,←hj,List.getElem?_eq_getElem hjl]
  el:=fun M w h=>(hf M w h).2
theorem CloneL_new [Stable Φ] (src:Src S Φ p l cs) (hlen:l.length≤1000000) (c:Ctx W w S Φ) :
    Calls Tryz.prog F.slices_Clone_api_Line_api_Line #[.slice p l.length cap] w fun e w'=>∃ p' c' cs',e=.returned (.slice p' l.length c')∧Ctx W w' (bufL p' l.length c' cs' :: S) (fun M w=>Φ M w∧Elems M w cs' l):=by
  refine (Bslices_Clone_api_Line_api_Line_run p l.length cap (J:=fun v w'=>∃ p' c' cs',v=.slice p' l.length c'∧Ctx W w' (bufL p' l.length c' cs' :: S) (fun M w=>Φ M w∧Elems M w cs' l)) c ?_).mono fun e w' ⟨v,he,p',c',cs',hv,rest⟩=>⟨p',c',cs',by rw [he,hv],rest⟩
  clear c
  refine Br.intro (fun hn=>fun w F c=>?_) (fun hn=>fun k w F c=>?_)
  · have hl:l=[]:=by
      rcases Nat.eq_zero_or_pos l.length with h0|h0
      · exact List.eq_nil_of_length_eq_zero h0
      · obtain ⟨b,o,e⟩:=src.ptr h0
        rw [e] at hn;cases hn
    subst hl
    exact ⟨none,0,[],rfl,(c.left.buf0 31 7).add Elems.nil⟩
  · have c':Ctx W w (bufL (some ⟨k,0,none⟩) 0 0 [] :: (S++F)) Φ:=c.toBuf 0 0 7 rfl (by simp) (by simp [maxLen])
    obtain ⟨i,z,e1,e2,e3,e4,e5,e6⟩:=appB_out (P:=Tryz.prog) (ts:=22) (t:=31) (size:=7) (bytes:=72) (by kernel_rfl)
    rcases Nat.eq_zero_or_pos l.length with h0|h0
    · have hl:l=[]:=List.eq_nil_of_length_eq_zero h0
      subst hl
      exact ⟨_,_,_,w,run_app (c'.append0 0 rfl e1 e2 p cap),bufL (some ⟨k,0,none⟩) 0 0 [] :: S,_,instStableAnd Φ (fun M w=>Elems M w [] ([]:List LineD)),c'.add Elems.nil,fun w G c=>⟨some ⟨k,0,none⟩,0,[],rfl,c.left⟩⟩
    · obtain ⟨b,o,hp⟩:=src.ptr h0
      have hel:=src.el _ _ c'.phi
      have hcl:=elems_len7 hel
      obtain ⟨p',cap',w',hrun,cx⟩:=c'.append 0 rfl (ty:=22) e1 e2 e3 e4 e5 (a:=⟨b,o,none⟩) (m:=l.length) (c2:=cap) (news:=cs) h0 hcl (fun j u hj=>by rw [addr_add];exact src.rd hp c'.drop1 j u hj) (fun u hu=>List.all_eq_true.1 (elems_one7 hel) u hu) (by rw [e6];omega) (by omega)
      rw [←hp,Nat.zero_add] at hrun
      rw [Nat.zero_add] at cx
      exact ⟨_,_,_,w',run_app hrun,bufL p' l.length cap' cs :: S,_,instStableAnd Φ (fun M w=>Elems M w cs l),cx.weak fun M w h=>⟨h,src.el M w h⟩,fun w G c=>⟨p',cap',cs,rfl,c.left⟩⟩
theorem CloneV_sl [Stable Φ] {r:List ValD} [hΦ:Has Φ (fun M w=>Sl M w p r)] (hlen:r.length≤1000000):GivesSl Φ Tryz.prog F.slices_Clone_api_Value_api_Value #[.slice p r.length cap] r id :=
  ⟨fun W w S c=>(CloneV_in (Φ:=Φ) p cap r (fun M w h=>hΦ.go M w h) (by omega)).use c fun p1 cap1 ds w cx=>by
    obtain ⟨c2,hs,_,h2,h3⟩:=Ctx.freeze (α:=ValD) cx cx.phi.2
    exact ⟨p1,cap1,rfl,h2,h3,(c2.add hs).weak fun M w h=>⟨h.1.1,h.2⟩⟩⟩
theorem l_row {W w w':World} {S:List Own} {Φ:PW} [Stable Φ] {g n cap:Nat} {cs:List Value} {l:List LineD} (cx:Ctx W w (bufL (some ⟨g,0,none⟩) n cap cs :: S) (fun M w=>Φ M w∧Elems M w cs l)) {i:Nat} (hi:i<l.length) {p:Option Addr} {c:Nat}
    (h1:l[i].row.length≤c) (h2:c≤maxLen) (hs:∀ M w,Φ M w→Sl M w p l[i].row) (e:w'=w.setCell ⟨g,i*7+3,none⟩ (.slice p l[i].row.length c)) :
    ∃ cs',Ctx W w' (bufL (some ⟨g,0,none⟩) n cap cs' :: S) (fun M w=>Φ M w∧Elems M w cs' l):=by
  have hl:=lcells_len cx.phi.2
  obtain ⟨p0,c0,hp,_,_,h3,_⟩:=lrow cx.phi.2 hi
  have h:=cx.bufPuts 0 rfl rfl (vs:=[.slice p l[i].row.length c]) (o:=i*7+3) (by omega) (by simp only [List.length_cons,List.length_nil];omega) e
  have hrows:=rows_of (vs:=l[i].cells p0 c0) hp
  rw [setL_cell (l[i].cells p0 c0) 3 cs (i*7) _ (by show 3<7;decide) hrows,show (l[i].cells p0 c0).set 3 (.slice p l[i].row.length c)=l[i].cells p c from rfl] at h
  refine ⟨_,h.weak fun M w h=>⟨h.1,?_⟩⟩
  have:=h.2.setAt i hi (rep_line h1 h2 h3 (hs M w h.1))
  rw [List.set_getElem_self] at this
  exact this
end
end Go.Proofs.YtfccagphnfceiaaGreatDoor
end

section
namespace Go.Proofs.YtfccagphnfceiaaGreatDoor
open Go.Vc
theorem seg_sum {seg:List DeltaD} {k0:Key} (h:∀ x∈seg,x.key=k0) (k:Key) (hk:k≠k0):sumK seg k=0:=sumK_none fun x hx e=>hk (by rw [←e,h x hx])
theorem Norm.snoc {c:List DeltaD} {x:DeltaD} (h:Norm c) (h1:∀ y∈c,cmpK y.key x.key<0) (h2:x.n≠0) (h3:I64 x.n):Norm (c++[x]):=by
  refine ⟨List.pairwise_append.2 ⟨h.asc,List.pairwise_singleton _ _,fun y hy z hz=>?_⟩,fun y hy=>?_,fun y hy=>?_⟩
  · rw [List.mem_singleton.1 hz,cmpD_key];exact h1 y hy
  · rcases List.mem_append.1 hy with hy|hy
    · exact h.nz y hy
    · rw [List.mem_singleton.1 hy];exact h2
  · rcases List.mem_append.1 hy with hy|hy
    · exact h.i64 y hy
    · rw [List.mem_singleton.1 hy];exact h3
theorem find_group {A seg C:List DeltaD} {k0:Key} {N:Int} (h:∀ x∈seg,x.key=k0) (hN:N=findP seg k0) (k:Key) :
    (findP (A++(⟨k0.1,k0.2,N⟩ :: C)) k=findP (A++(seg++C)) k)∧(N=0→findP (A++C) k=findP (A++(seg++C)) k):=by
  have key:(((if k0=k then N else 0):Int) - sumK seg k) % 18446744073709551616=0:=by
    by_cases hk:k0=k
    · subst hk
      rw [if_pos rfl,hN]
      exact w64_mod _
    · rw [if_neg hk,seg_sum h k (fun e=>hk e.symm)]
      rfl
  have e1:sumK (A++(⟨k0.1,k0.2,N⟩ :: C)) k=sumK A k+((if k0=k then N else 0)+sumK C k):=by rw [sumK_app];rfl
  have e2:sumK (A++(seg++C)) k=sumK A k+(sumK seg k+sumK C k):=by rw [sumK_app,sumK_app]
  refine ⟨?_,fun h0=>?_⟩
  · unfold findP
    rw [e1,e2]
    exact w64_cong (by omega)
  · unfold findP
    rw [sumK_app,e2]
    refine w64_cong ?_
    rw [h0] at key
    have:((if k0=k then (0:Int) else 0))=0:=by split<;>rfl
    omega
structure COuter (l:List DeltaD) (es outs:List DE) (i:Nat):Prop where
  le:i≤es.length
  norm:Norm (outs.map DE.d)
  lt:∀ x∈outs,∀ y∈es.drop i,cmpK x.d.key y.d.key<0
  find:∀ k,findP (outs.map DE.d++(es.drop i).map DE.d) k=findP l k
  few:outs.length≤i
theorem COuter.step {l:List DeltaD} {es outs:List DE} {i:Nat} (h:COuter l es outs i) {X:DE} (hX:X∈es.drop i) {j:Nat} (hij:i+j≤es.length) (hj:1≤j) (hk:∀ y∈(es.drop i).take j,y.d.key=X.d.key) {N:Int} (hN:N=findP (((es.drop i).take j).map DE.d) X.d.key)
    (hgt:∀ y∈es.drop (i+j),cmpK X.d.key y.d.key<0):(N=0→COuter l es outs (i+j))∧(N≠0→∀ (p:Option Addr) (c:Nat),COuter l es (outs++[⟨⟨X.d.time,X.d.row,N⟩,p,c⟩]) (i+j)):=by
  have hdr:es.drop i=(es.drop i).take j++es.drop (i+j):=by rw [←List.drop_drop,List.take_append_drop]
  have hkm:∀ x∈((es.drop i).take j).map DE.d,x.key=X.d.key:=fun x hx=>by
    obtain ⟨y,hy,rfl⟩:=List.mem_map.1 hx
    exact hk y hy
  have hsub:∀ y∈es.drop (i+j),y∈es.drop i:=fun y hy=>by rw [hdr];exact List.mem_append_right _ hy
  have hf:∀ k,findP (outs.map DE.d++(((es.drop i).take j).map DE.d++(es.drop (i+j)).map DE.d)) k=findP l k:=fun k=>by
    rw [←List.map_append,←hdr];exact h.find k
  refine ⟨fun h0=>⟨hij,h.norm,fun x hx y hy=>h.lt x hx y (hsub y hy),fun k=>?_,by have:=h.few;omega⟩,fun h0 p c=>⟨hij,?_,fun x hx y hy=>?_,fun k=>?_,by rw [List.length_append];have:=h.few;simp;omega⟩⟩
  · rw [←hf k]
    exact (find_group (A:=outs.map DE.d) (C:=(es.drop (i+j)).map DE.d) hkm hN k).2 h0
  · rw [List.map_append]
    refine Norm.snoc h.norm (fun y hy=>?_) h0 (by rw [hN];exact w64_in _)
    obtain ⟨z,hz,rfl⟩:=List.mem_map.1 hy
    exact h.lt z hz X hX
  · rcases List.mem_append.1 hx with hx|hx
    · exact h.lt x hx y (hsub y hy)
    · rw [List.mem_singleton.1 hx];exact hgt y hy
  · rw [←hf k,List.map_append,List.append_assoc]
    exact (find_group (A:=outs.map DE.d) (C:=(es.drop (i+j)).map DE.d) hkm hN k).1
end Go.Proofs.YtfccagphnfceiaaGreatDoor
end

section
namespace Go.Proofs.YtfccagphnfceiaaGreatDoor
open Go.Vc
def negD (x:DeltaD):DeltaD:=⟨x.time,x.row,w64 (0 - x.n)⟩
def subP (a b:List DeltaD):List DeltaD:=consP (a++b.map negD)
theorem delta_iff {x y:DeltaD}:x=y ↔ (x.time=y.time∧(x.row=y.row∧x.n=y.n)):=by cases x;cases y;simp
instance:DecidableEq DeltaD:=fun _ _=>decidable_of_iff _ delta_iff.symm
end Go.Proofs.YtfccagphnfceiaaGreatDoor
end

section
namespace Go.Vc
section
variable {W w:World} {S:List Own} {Φ:PW}
theorem Ctx.appAny [Stable Φ] {P:Program} {α:Type} [Gv α] {q:Option Addr} {l:List α} {c2:Nat} {p:Option Addr} {n cap:Nat} {cs:List Value} {t:TypeId} {bytes:Nat} (c:Ctx W w (.buf p n cap cs t (Gv.ty α).size :: S) Φ)
    {ts ty:TypeId} {kb:Array Bool} (hb:appB P ts t (Gv.ty α).size bytes=true) (h1:∀ M w cs (x:α),Gv.rep M w cs x→(cs.all fun u=>oneC u)=true) (hsl:∀ M w,Φ M w→Sl M w q l) (hlen:n+l.length<100000000) (hbytes:bytes≤1000) :
    ∃ p' cap' w' news,Sem.run P (builtin Builtin.append #[ts,ts] ty kb #[.slice p n cap,.slice q l.length c2]) w=.ok (.value (.slice p' (n+l.length) cap')) w' ∧
      Ctx W w' (.buf p' (n+l.length) cap' (cs++news) t (Gv.ty α).size :: S) (fun M w=>Φ M w∧Elems M w news l):=by
  rcases Nat.eq_zero_or_pos l.length with h0|h0
  · obtain ⟨i,z,e1,e2,e3,e4,e5,e6⟩:=appB_out hb
    have hl:l=[]:=List.eq_nil_of_length_eq_zero h0
    subst hl
    refine ⟨p,cap,w,[],run_app (c.append0 0 rfl e1 e2 q c2),?_⟩
    rw [List.append_nil]
    exact c.add Elems.nil
  · obtain ⟨p',cap',w',news,h2,_,c3⟩:=c.appSl (ty:=ty) (kb:=kb) (c2:=c2) hb h1 hsl h0 hlen hbytes
    exact ⟨p',cap',w',news,h2,c3⟩
end
end Go.Vc
namespace Go.Proofs.YtfccagphnfceiaaGreatDoor
open Go.Vc
end Go.Proofs.YtfccagphnfceiaaGreatDoor
end

section
namespace Go.Proofs.YtfccagphnfceiaaGreatDoor
open Go.Vc
def newOk (kind:Int) (key:List Int):Bool := !decide (kind<0)&&(!decide (3≤kind)&&(!decide ((0:Int)<key.length)||(decide (kind=1) && !decide (minZ key<0))))
abbrev newK (kind:Int) (key:List Int):SkD:=⟨kind,key,[],[],0,[]⟩
theorem skq_of {q:KP} {st:SkD} {W w:World} {S:List Own} {Φ:PW} (c:Ctx W w (SkO q st++S) Φ) (hk:st.key.length≤q.kc∧q.kc≤maxLen) (ha:st.aside.length≤q.ac∧q.ac≤maxLen):SkQ q st where
  lpt:=fun h=>by
    obtain ⟨g,hg,_⟩:=c.bufCell 2 rfl (by rw [(c.bufLen 2 rfl).1];omega)
    exact ⟨g,hg⟩
  bpt:=fun h=>by
    obtain ⟨g,hg,_⟩:=c.bufCell 1 rfl (by rw [(c.bufLen 1 rfl).1];omega)
    exact ⟨g,hg⟩
  lcap:=(c.bufLen 2 rfl).2
  bcap:=(c.bufLen 1 rfl).2
  kcap:=hk
  acap:=ha
  len:=(c.bufLen 2 rfl).1
section
variable {Φ:PW} {q:KP} {st:SkD} {W w:World} {R S G:List Own} {p:Option Addr} {cap:Nat} {l:List LineD} {cs:List Value}
set_option maxHeartbeats 1000000 in
theorem CloneK_new [Stable Φ] (src:Src S Φ p l cs) (hlen:l.length≤1000000) (hrow:∀ x∈l,x.row.length≤1000000) (c:Ctx W w S Φ) :
    Calls Tryz.prog F.sink_clone #[.slice p l.length cap] w fun e w'=>∃ p' c' cs',e=.returned (.slice p' l.length c')∧Ctx W w' (bufL p' l.length c' cs' :: S) (fun M w=>Φ M w∧Elems M w cs' l):=by
  refine (Bsink_clone_run p l.length cap (J:=fun v w'=>∃ p' c' cs',v=.slice p' l.length c'∧Ctx W w' (bufL p' l.length c' cs' :: S) (fun M w=>Φ M w∧Elems M w cs' l)) c ?_).mono fun e w' ⟨v,he,p',c',cs',hv,rest⟩=>⟨p',c',cs',by rw [he,hv],rest⟩
  clear c
  refine fun w G c=>(CloneL_new (S:=S++G) src.app hlen c).mono fun e w' ⟨p1,c1,cs1,he,cx⟩=>⟨p1,l.length,c1,he,bufL p1 l.length c1 cs1 :: S,(fun M w=>Φ M w∧Elems M w cs1 l),inferInstance,cx,?_⟩
  clear c
  have hel:=cx.phi.2
  have hpt:0<l.length→∃ g,p1=some ⟨g,0,none⟩:=fun h0=>l_ptr cx (by rw [elems_len7 hel];omega)
  clear cx hel
  refine exI_mk (fun iI R' Φ' m=>∃ i cs2,iI=(i:Nat)∧i≤l.length∧R'=bufL p1 l.length c1 cs2 :: S∧Φ'=(fun M w=>Φ M w∧Elems M w cs2 l)∧m=l.length - i) ⟨⟨_,_,_,instStableAnd Φ (fun M w=>Elems M w cs1 l),fun w G cx=>cx,0,cs1,rfl,Nat.zero_le _,rfl,rfl,rfl⟩,?_⟩
  rintro iI R1 Φ1 m _ ⟨i,cs2,rfl,hi,rfl,rfl,rfl⟩
  refine Br.intro (fun hlt=>?_) (fun hge=>fun w G cx=>⟨p1,c1,cs2,rfl,cx.left⟩)
  have hlt:i<l.length:=by have:=of_decide_eq_true hlt;omega
  obtain ⟨g,rfl⟩:=hpt (by omega)
  have hst:Stable (fun M w=>Φ M w∧Elems M w cs2 l):=instStableAnd Φ (fun M w=>Elems M w cs2 l)
  refine ⟨by omega,ptrK_intro g 0 rfl fun w G cx=>?_⟩
  obtain ⟨p0,c0,hp,_,_,_,_⟩:=lrow cx.phi.2 hlt
  refine ⟨l[i].no,l[i].batch,l[i].time,p0,l[i].row.length,c0,l[i].n,l[i].cause,l[i].why,?_,fun _ w G cx=>?_⟩
  · have:=l_at (W:=W) (w:=w) (Φ:=fun M w=>Φ M w∧Elems M w cs2 l) (S:=S++G) cx hp
    rw [show 0+(i:Int).toNat*7=i*7 by omega]
    exact this
  have hrd:∀ M w,(Φ M w∧Elems M w cs2 l)→Sl M w p0 l[i].row:=fun M w h=>by
    have:=h.2.2 i hlt
    rw [show (Gv.ty LineD).size=7 from rfl,hp] at this
    exact line_row this
  have hh:Has (fun M w=>Φ M w∧Elems M w cs2 l) (fun M w=>Sl M w p0 l[i].row):=⟨hrd⟩
  refine (CloneV_sl (r:=l[i].row) (hrow _ (List.getElem_mem _))).to cx fun p3 c3 f1 f2 st3=>?_
  clear cx
  refine ⟨by omega,ptrK_intro g 0 rfl fun w G cx=>⟨?_,fun w2 hw2=>?_⟩⟩
  · have hl:=elems_len7 cx.phi.1.2
    exact l_can (S:=S++G) cx (by omega)
  · have cx2:Ctx W w (bufL (some ⟨g,0,none⟩) l.length c1 cs2 :: (S++G)) (fun M w=>(Φ M w∧Sl M w p3 l[i].row)∧Elems M w cs2 l):=cx.weak fun M w h=>⟨⟨h.1.1,h.2⟩,h.1.2⟩
    have st5:Stable (fun M w=>Sl M w p3 l[i].row):=instStableSl p3 l[i].row
    have st4:Stable (fun M w=>Φ M w∧Sl M w p3 l[i].row):=@instStableAnd Φ (fun M w=>Sl M w p3 l[i].row) _ st5
    obtain ⟨cs3,cx3⟩:=l_row (w':=w2) (Φ:=fun M w=>Φ M w∧Sl M w p3 l[i].row) cx2 hlt f1 f2 (fun M w h=>h.2) (by rw [hw2];congr 2;omega)
    exact ⟨bufL (some ⟨g,0,none⟩) l.length c1 cs3 :: S,_,instStableAnd Φ (fun M w=>Elems M w cs3 l),cx3.weak fun M w h=>⟨h.1.1,h.2⟩,by unfold I64;omega,_,_,l.length - (i+1),instStableAnd Φ (fun M w=>Elems M w cs3 l),fun w G cx=>cx,⟨i+1,cs3,rfl,hlt,rfl,rfl,rfl⟩,by omega⟩
theorem CloneK_sl [Stable Φ] [hΦ:Has Φ (fun M w=>Sl M w p l)] (hlen:l.length≤1000000) (hrow:∀ x∈l,x.row.length≤1000000):GivesSl Φ Tryz.prog F.sink_clone #[.slice p l.length cap] l id :=
  .there (fun M w h=>(hΦ.go M w h).there) fun hth=>⟨fun W w S c=>by
    obtain ⟨cs,c1⟩:=srcOf c (hΦ.go _ _ c.phi)
    refine (CloneK_new (S:=S) (Φ:=fun M w=>Φ M w∧SrcF p l cs M w) (src_fact (Φ:=fun M w=>Φ M w∧SrcF p l cs M w) hth (fun M w h=>h.2)).app hlen hrow c1).mono fun e w' ⟨p',c',cs',he,cx⟩=>?_
    obtain ⟨c2,hs,_,h2,h3⟩:=Ctx.freeze (α:=LineD) cx cx.phi.2
    exact ⟨p',c',he,h2,h3,(c2.add hs).weak fun M w h=>⟨h.1.1.1,h.2⟩⟩⟩
theorem CloneZ_sl [Stable Φ] {l:List Int} [hΦ:Has Φ (fun M w=>Sl M w p l)] (hlen:l.length≤17592186044416):GivesSl Φ Tryz.prog F.slices_Clone_int_int #[.slice p l.length cap] l id :=
  ⟨fun W w S c=>(CloneZ_in (Φ:=Φ) (cap:=cap) hΦ.go (by omega)).use c fun p1 cap1 ds w cx=>by
    obtain ⟨c2,hs,_,h2,h3⟩:=Ctx.freeze (α:=Int) cx cx.phi.2
    exact ⟨p1,cap1,rfl,h2,h3,(c2.add hs).weak fun M w h=>⟨h.1.1,h.2⟩⟩⟩
theorem new_i (kind:Int) (key:List Int):SkI (newK kind key):=⟨List.Pairwise.nil,by simp,by simp,by simp⟩
theorem New_to [Stable Φ] {kind:Int} {key:List Int} [hΦ:Has Φ (fun M w=>Sl M w p key)] (hlen:key.length≤17592186044416) (c:Ctx W w (R++G) Φ) {K:Option Addr→List Own→PW→Prop}
    (h0:newOk kind key=false→K none R Φ)
    (h1:∀ q:KP,newOk kind key=true→SkQ q (newK kind key)→Stable (fun M w=>Φ M w∧SkF q (newK kind key) M w)→K (some ⟨q.sb,0,none⟩) (SkO q (newK kind key)++R) (fun M w=>Φ M w∧SkF q (newK kind key) M w)) :
    Calls Tryz.prog F.sink_New #[.int .i64 kind,.slice p key.length cap] w fun e w'=>∃ p,e=.returned (.pointer p)∧∃ R' Φ',Stable Φ'∧Ctx W w' (R'++G) Φ'∧K p R' Φ':=by
  refine (Bsink_New_run kind p key.length cap (R:=R++G) (J:=fun v w'=>∃ p,v=.pointer p∧∃ R' Φ',Stable Φ'∧Ctx W w' (R'++G) Φ'∧K p R' Φ') c ?_).mono fun e w' ⟨v,he,p,hv,rest⟩=>⟨p,by rw [he,hv],rest⟩
  clear c
  have bad:newOk kind key=false→∀ {w:World} {G2:List Own},Ctx W w ((R++G)++G2) Φ→∃ p,Value.pointer none=.pointer p∧∃ R' Φ',Stable Φ'∧Ctx W w (R'++G) Φ'∧K p R' Φ':=fun h {w G2} cx=>⟨none,rfl,R,Φ,inferInstance,cx.left,h0 h⟩
  have good:newOk kind key=true→∀ {w:World} {G2:List Own},Ctx W w ((R++G)++G2) Φ→Calls Tryz.prog F.slices_Clone_int_int #[.slice p key.length cap] w fun e17 w18=>∃ (p19:Option Addr),∃ (k20:Nat),∃ (k21:Nat),e17=.returned (.slice p19 k20 k21)∧∃ (R22:List Own),∃ (Φ23:PW),Stable Φ23∧Ctx W w18 (R22++G2) Φ23∧∀ (k24:Nat) (w25:World) (R26:List Own),Ctx W w25 (Own.blk k24 [.int .i64 kind,.slice p19 k20 k21,.slice none 0 0,.slice none 0 0,.int .i64 0,.slice none 0 0] 92 :: R22++R26) Φ23→∃ p,Value.pointer (some (Addr.mk k24 0 none))=.pointer p∧∃ R' Φ',Stable Φ'∧Ctx W w25 (R'++G) Φ'∧K p R' Φ':=fun h {w G2} cx=>by
    refine (CloneZ_sl (l:=key) hlen).to cx fun p1 c1 g1 g2 st1=>?_
    intro k w3 G3 cx
    have cx:=Ctx.left (S:=.blk k _ 92 :: (R++G)) (F:=G3) cx
    have c2:=(cx.nobuf 31 7).nobuf 3 1
    obtain ⟨q,hqe⟩:∃ q:KP,q=⟨k,p1,c1,none,0,none,0,[],none,0⟩:=⟨_,rfl⟩
    have c3:Ctx W w3 ((SkO q (newK kind key)++R)++G) (fun M w=>Φ M w∧SkF q (newK kind key) M w):=by
      rw [hqe]
      refine Ctx.weak (Φ:=fun M w=>Φ M w∧Sl M w p1 key) (c2.perm ?_) fun M w h=>⟨h.1,Elems.nil,h.2,fun i hi=>absurd hi (by simp)⟩
      exact (List.Perm.trans (List.perm_middle (l₁:=[_,_]) (a:=_)) (List.Perm.refl _))
    have hq:SkQ q (newK kind key):=skq_of (S:=R++G) (c3.re (by simp)) (by rw [hqe];exact ⟨g1,g2⟩) (by rw [hqe];exact ⟨Nat.le_refl _,Nat.zero_le _⟩)
    have:=h1 q h hq inferInstance
    refine ⟨some ⟨k,0,none⟩,rfl,SkO q (newK kind key)++R,_,inferInstance,c3,?_⟩
    rw [show k=q.sb by rw [hqe]]
    exact this
  unfold newOk at bad good
  refine Br.intro (fun h=>fun w G2 cx=>bad (by rw [h];rfl) cx) (fun a1=>?_)
  rw [a1] at bad good
  refine Br.intro (fun h=>fun w G2 cx=>bad (by rw [h];rfl) cx) (fun a2=>?_)
  rw [a2] at bad good
  refine Br.intro (fun h3=>?_) (fun h3=>fun w G2 cx=>good (by rw [h3];rfl) cx)
  rw [h3] at bad good
  refine Br.intro (fun h=>fun w G2 cx=>bad (by rw [decide_eq_false (of_decide_eq_true h)];rfl) cx) (fun a4=>fun w G2 cx=>?_)
  have h3:=of_decide_eq_true h3
  rw [decide_eq_true (Decidable.not_not.1 (of_decide_eq_false a4))] at bad good
  refine (Min_in (l:=key) (by omega) hlen).toI cx ?_
  clear cx
  exact Br.intro (fun h=>fun w G2 cx=>bad (by rw [h];rfl) cx) (fun a5=>fun w G2 cx=>good (by rw [a5];rfl) cx)
theorem src_sk (hq:SkQ q st) (hF:∀ M w,Φ M w→Elems M w q.cs st.lines):Src (SkO q st) Φ q.lp st.lines q.cs where
  ptr:=fun h=>by obtain ⟨g,hg⟩:=hq.lpt h;exact ⟨g,0,hg⟩
  rd:=fun {W w G b o} e c j v hj=>by
    have hjl:j<q.cs.length:=(List.getElem?_eq_some_iff.1 hj).1
    have:=hq.len
    obtain ⟨g,hg⟩:=hq.lpt (by omega)
    rw [hg] at e
    cases e
    rw [Nat.zero_add]
    exact c.bufGet 2 rfl hg hj
  el:=fun M w h=>hF M w h
theorem List_sl [Stable Φ] [hF:Has Φ (SkF q st)] (hq:SkQ q st) (hI:SkI st) {n:Nat} (hs:SkS st n) (hn:n≤400000):GivesQSl (SkO q st) Φ Tryz.prog F.sink_Sink_List #[snk q] st.lines:=by
  have hl:=hs.lines
  exact gives_qsl (Bsink_Sink_List_run q.sb 0) fun W R=>fun w G cx=>⟨_,_,_,sk_cell (i:=3) cx rfl,fun w G cx =>
    (CloneK_new (S:=(SkO q st++R)++G) (src_sk (Φ:=Φ) hq fun M w h=>(hF.go M w h).1).app.app (by omega) (fun x hx=>by have:=right_len (hI.row x hx);omega) cx).mono fun e w' ⟨p',c',cs',he,cx⟩=>by
      obtain ⟨c2,hs,_,h2,h3⟩:=Ctx.freeze (α:=LineD) cx cx.phi.2
      exact ⟨p',_,c',he,(SkO q st++R),_,inferInstance,(c2.add hs).weak fun M w h=>⟨h.1.1,h.2⟩,fun w G cx=>⟨p',c',rfl,h2,h3,cx.left⟩⟩⟩
end
end Go.Proofs.YtfccagphnfceiaaGreatDoor
end

section
namespace Go.Proofs.YtfccagphnfceiaaGreatDoor
set_option maxRecDepth 100000
open Go.Vc
def Bdisk_New  (W:World) (R:List Own) (Φ:PW) (J:Value→World→Prop):Prop :=
  ∀ (k0 k1 k2:Nat) (w3:World) (R4:List Own),Ctx W w3 (Own.blk k2 [Value.map (some k0),Value.slice none 0 0,Value.map (some k1),Value.int IntKind.i64 0,Value.bool false,Value.int IntKind.i64 0,Value.slice none 0 0] 97 :: Own.obj k1 (Obj.map #[] 0) :: Own.obj k0 (Obj.map #[] 0) :: R++R4) Φ→J (.pointer (some (Addr.mk k2 0 none))) w3
theorem Bdisk_New_run  {W w:World} {R:List Own} {Φ:PW} [Stable Φ] {J:Value→World→Prop} (c:Ctx W w R Φ) (h:Bdisk_New  W R Φ J):Calls Tryz.prog F.disk_New #[] w fun e w'=>∃ v,e=.returned v∧J v w' :=
  vcFS_sound (H:={ keep:=some [0] }) (by rw [show vcFS Tryz.prog W { keep:=some [0] } F.disk_New #[] R Φ J=Bdisk_New  W R Φ J by kernel_rfl];exact h) c
def Bdisk_Disk_Arm (dB dO:Nat) (n:Int) (keepP:Option Addr) (keepN keepC:Nat) (W:World) (R:List Own) (Φ:PW) (J:Value→World→Prop):Prop :=
  ∀ w0 R1,Ctx W w0 (R++R1) Φ→Calls Tryz.prog F.slices_Clone_int_int #[.slice keepP keepN keepC] w0 fun e2 w3=>∃ p4 k5 k6,e2=.returned (.slice p4 k5 k6)∧∃ R7 Φ8,Stable Φ8∧Ctx W w3 (R7++R1) Φ8∧∀ w9 R10,Ctx W w9 (R7++R10) Φ8→CanWrite w9 dB (dO+5) 1∧∀ (w11:World),w11=w9.setCell (Addr.mk dB (dO+5) none) (Value.int IntKind.i64 (max n 0))→∃ R12 Φ13,Stable Φ13∧Ctx W w11 (R12++R10) Φ13∧∀ w14 R15,Ctx W w14 (R12++R15) Φ13→CanWrite w14 dB (dO+6) 1∧∀ (w16:World),w16=w14.setCell (Addr.mk dB (dO+6) none) (Value.slice p4 k5 k6)→∃ R17 Φ18,Stable Φ18∧Ctx W w16 (R17++R15) Φ18∧∀ w19 R20,Ctx W w19 (R17++R20) Φ18→J (Value.tuple #[]) w19
theorem Bdisk_Disk_Arm_run (dB dO:Nat) (n:Int) (keepP:Option Addr) (keepN keepC:Nat) {W w:World} {R:List Own} {Φ:PW} [Stable Φ] {J:Value→World→Prop} (c:Ctx W w R Φ) (h:Bdisk_Disk_Arm dB dO n keepP keepN keepC W R Φ J):Calls Tryz.prog F.disk_Disk_Arm #[.pointer (some ⟨dB,dO,none⟩),.int .i64 n,.slice keepP keepN keepC] w fun e w'=>∃ v,e=.returned v∧J v w' :=
  vcFS_sound (H:={ keep:=some [] }) (by rw [show vcFS Tryz.prog W { keep:=some [] } F.disk_Disk_Arm #[.pointer (some ⟨dB,dO,none⟩),.int .i64 n,.slice keepP keepN keepC] R Φ J=Bdisk_Disk_Arm dB dO n keepP keepN keepC W R Φ J by kernel_rfl];exact h) c
def Bdisk_Disk_Crash (dB dO:Nat) (keepP:Option Addr) (keepN keepC:Nat) (W:World) (R:List Own) (Φ:PW) (J:Value→World→Prop):Prop :=
  ∀ w0 R1,Ctx W w0 (R++R1) Φ→∃ c2,w0.cell? (Addr.mk dB (dO+4) none)=some (.bool c2)∧Br c2 (∀ w3 R4,Ctx W w3 (R++R4) Φ→J (Value.tuple #[]) w3) (∀ w5 R6,Ctx W w5 (R++R6) Φ→CanWrite w5 dB (dO+4) 1∧∀ (w7:World),w7=w5.setCell (Addr.mk dB (dO+4) none) (Value.bool true)→∃ R8 Φ9,Stable Φ9∧Ctx W w7 (R8++R6) Φ9∧∀ w10 R11,Ctx W w10 (R8++R11) Φ9→CanWrite w10 dB (dO+5) 1∧∀ (w12:World),w12=w10.setCell (Addr.mk dB (dO+5) none) (Value.int IntKind.i64 0)→∃ R13 Φ14,Stable Φ14∧Ctx W w12 (R13++R11) Φ14∧∀ w15 R16,Ctx W w15 (R13++R16) Φ14→∃ p17 k18 k19,w15.cell? (Addr.mk dB (dO+1) none)=some (.slice p17 k18 k19)∧exI fun (I20:Int→List Own→PW→Nat→Prop)=>(∃ R21 Φ22 k23,Stable Φ22∧Wk W R13 Φ14 R21 Φ22∧I20 0 R21 Φ22 k23)∧∀ n26 R27 I28 k29,Stable I28→I20 n26 R27 I28 k29→Br (decide (n26<(↑k18:Int))) ((0≤n26 ∧
  n26<(↑k18:Int))∧ptrK none p17 fun k30 k31=>∀ w32 R33,Ctx W w32 (R27++R33) I28→∃ n34 n35,RowAt w32 k30 (k31+n26.toNat*2) [.int .i64 n34,.int .i64 n35]∧∀ (b:Nat),∃ R36 Φ37,Stable Φ37∧Wk W R27 I28 R36 Φ37∧I64 (n35*64)∧∃ (p40:Option Nat),(∀ w41 R42,Ctx W w41 (R36++R42) Φ37→∃ (p43:Option Nat),w41.cell? (Addr.mk dB dO none)=some (Value.map p43)∧Value.map p43=Value.map p40)∧∃ (s44 s45:ByteArray),(∀ w46 R47,Ctx W w46 (R36++R47) Φ37→∃ (s48 s49:ByteArray),(∀ (w50:World),w50.heap=w46.heap→Sem.run Tryz.prog (Instr.lookup 93 (Value.map p40) (Value.int IntKind.i64 n34) false) w50=Result.ok (Value.agg #[.string s48,.string s49]) w50)∧Value.agg #[.string s48,.string s49]=Value.agg #[.string s44,.string s45])∧∀ (k51:Nat),Wk W (Own.blk k51 [Value.string (ByteArray.mk #[]),Value.string (ByteArray.mk #[])] 112 :: R27) I28
  (R36) Φ37∧∀ w54 R55,Ctx W w54 (Own.blk k51 [Value.string (ByteArray.mk #[]),Value.string (ByteArray.mk #[])] 112 :: R27++R55) I28→CanWrite w54 k51 0 2∧∀ (w56:World),w56=w54.setCells k51 0 [.string s44,.string s45]→∃ R57 Φ58,Stable Φ58∧Ctx W w56 (R57++R55) Φ58∧Wk W R57 Φ58 R36 Φ37∧∀ w61 R62,Ctx W w61 (R57++R62) Φ58→((!decide ((↑keepN:Int)=0))=true→(↑keepN:Int)≠0)∧((!decide ((↑keepN:Int)=0))=true→0≤n26.tmod (↑keepN:Int)∧n26.tmod (↑keepN:Int)<(↑keepN:Int))∧ptrK (some !decide ((↑keepN:Int)=0)) keepP fun k63 k64=>∃ (n65:Int),((!decide ((↑keepN:Int)=0))=true→w61.cell? (Addr.mk k63 (k64+(n26.tmod (↑keepN:Int)).toNat) none)=some (.int .i64 n65))∧∃ (n66:Int),((!decide ((↑keepN:Int)=0))=true→∀ (w67:World),Sem.run Tryz.prog (binOp BinOp.and 3 (Value.int IntKind.i64 n65) (Value.int IntKind.i64
  1)) w67=Result.ok (Value.int IntKind.i64 n66) w67)∧∃ (s68:ByteArray),((!(decide ((↑keepN:Int)=0)||decide (n66=0)))=true→w61.cell? (Addr.mk k51 0 none)=some (.string s68))∧Br (decide ((↑keepN:Int)=0)||decide (n66=0)||decide ((↑s68.size:Int)≤n35*64)) (I64 (n26+1)∧∃ R69 Φ70 k71,Stable Φ70∧Wk W R57 Φ58 R69 Φ70∧I20 (n26+1) R69 Φ70 k71∧k71<k29) (∃ R74 Φ75,Stable Φ75∧Wk W R57 Φ58 R74 Φ75∧∃ (s78:ByteArray),(∀ w79 R80,Ctx W w79 (R74++R80) Φ75→∃ s81,w79.cell? (Addr.mk k51 1 none)=some (.string s81)∧Value.string s81=Value.string s78)∧∃ (s82:ByteArray),(∀ w83 R84,Ctx W w83 (R74++R84) Φ75→∃ s85,w83.cell? (Addr.mk k51 0 none)=some (.string s85)∧Value.string s85=Value.string s82)∧I64 (n35*64+64)∧∃ (s86:ByteArray),(∀ w87 R88,Ctx W w87 (R74++R88) Φ75→∃ s89,w87.cell? (Addr.mk k51 0 none)=some
  (.string s89)∧Value.string s89=Value.string s86)∧(0≤n35*64∧n35*64≤min (n35*64+64) (↑s86.size:Int)∧min (n35*64+64) (↑s86.size:Int)≤(↑s82.size:Int))∧∀ w90 R91,Ctx W w90 (R57++R91) Φ58→Calls Tryz.prog F.disk_put #[.string s78,.int .i64 (n35*64),.string (s82.extract (n35*64).toNat (min (n35*64+64) (↑s86.size:Int)).toNat)] w90 fun e92 w93=>∃ s94,e92=.returned (.string s94)∧∃ R95 Φ96,Stable Φ96∧Ctx W w93 (R95++R91) Φ96∧∀ w97 R98,Ctx W w97 (R95++R98) Φ96→CanWrite w97 k51 1 1∧∀ (w99:World),w99=w97.setCell (Addr.mk k51 1 none) (Value.string s94)→∃ R100 Φ101,Stable Φ101∧Ctx W w99 (R100++R98) Φ101∧∀ w102 R103,Ctx W w102 (R100++R103) Φ101→∃ s104 s105,RowAt w102 k51 0 [.string s104,.string s105]∧∀ w106 R107,Ctx W w106 (R100++R107) Φ101→∃ (p108:Option Nat),w106.cell? (Addr.mk dB dO none)=some
  (Value.map p108)∧∀ w109 R110,Ctx W w109 (R100++R110) Φ101→∃ (w111:World),Sem.run Tryz.prog (Instr.mapUpdate 93 (Value.map p108) (Value.int IntKind.i64 n34) (Value.agg #[.string s104,.string s105])) w109=Result.ok () w111∧∃ R112 Φ113,Stable Φ113∧Ctx W w111 (R112++R110) Φ113∧I64 (n26+1)∧∃ R114 Φ115 k116,Stable Φ115∧Wk W R112 Φ113 R114 Φ115∧I20 (n26+1) R114 Φ115 k116∧k116<k29)) (∀ w119 R120,Ctx W w119 (R27++R120) I28→∃ (p121:Option Nat),w119.cell? (Addr.mk dB dO none)=some (Value.map p121)∧∀ w122 R123,Ctx W w122 (R27++R123) I28→∃ (p124:Option Addr) (w125:World),Sem.run Tryz.prog (Instr.range 93 (Value.map p121)) w122=Result.ok (Value.pointer p124) w125∧∃ R126 Φ127,Stable Φ127∧Ctx W w125 (R126++R123) Φ127∧exI fun (I128:List Own→PW→Nat→Prop)=>(∃ R129 Φ130 k131,Stable Φ130∧Wk W R126 Φ127 R129 Φ130∧I128 R129
  Φ130 k131)∧∀ R134 I135 k136,Stable I135→I128 R134 I135 k136→∀ w137 R138,Ctx W w137 (R134++R138) I135→(∃ (w139:World),Sem.run Tryz.prog (Instr.next (Value.pointer p124) false 0) w137=Result.ok (Value.tuple #[.bool false]) w139∧∃ R140 Φ141,Stable Φ141∧Ctx W w139 (R140++R138) Φ141∧∀ (k142:Nat) (w143:World) (R144:List Own),Ctx W w143 (Own.obj k142 (Obj.map #[] 0) :: R140++R144) Φ141→CanWrite w143 dB (dO+1) 1∧∀ (w145:World),w145=w143.setCell (Addr.mk dB (dO+1) none) (Value.slice none 0 0)→∃ R146 Φ147,Stable Φ147∧Ctx W w145 (R146++R144) Φ147∧∀ w148 R149,Ctx W w148 (R146++R149) Φ147→CanWrite w148 dB (dO+2) 1∧∀ (w150:World),w150=w148.setCell (Addr.mk dB (dO+2) none) (Value.map (some k142))→∃ R151 Φ152,Stable Φ152∧Ctx W w150 (R151++R149) Φ152∧∀ w153 R154,Ctx W w153 (R151++R154) Φ152→J (Value.tuple #[]) w153) ∨
  ∃ (v155 v156:Value) (w157:World),Sem.run Tryz.prog (Instr.next (Value.pointer p124) false 0) w137=Result.ok (Value.tuple #[.bool true,v155,v156]) w157∧∃ R158 Φ159,Stable Φ159∧Ctx W w157 (R158++R138) Φ159∧∀ w160 R161,Ctx W w160 (R158++R161) Φ159→∃ (n162:Int) (s163 s164:ByteArray) (w165:World),Sem.run Tryz.prog (Instr.entry (Value.pointer p124)) w160=Result.ok (Value.tuple #[.int .i64 n162,Value.agg #[.string s163,.string s164]]) w165∧∃ R166 Φ167,Stable Φ167∧Ctx W w165 (R166++R161) Φ167∧∀ (b:Nat) (w168:World) (R169:List Own),Ctx W w168 (R166++R169) Φ167→∃ (p170:Option Nat),w168.cell? (Addr.mk dB dO none)=some (Value.map p170)∧∀ w171 R172,Ctx W w171 (R166++R172) Φ167→∃ (w173:World),Sem.run Tryz.prog (Instr.mapUpdate 93 (Value.map p170) (Value.int IntKind.i64 n162) (Value.agg #[.string s164,.string s164])) w171 =
  Result.ok () w173∧∃ R174 Φ175,Stable Φ175∧Ctx W w173 (R174++R172) Φ175∧∃ R176 Φ177 k178,Stable Φ177∧Wk W R174 Φ175 R176 Φ177∧I128 R176 Φ177 k178∧k178<k136))
theorem Bdisk_Disk_Crash_run (dB dO:Nat) (keepP:Option Addr) (keepN keepC:Nat) {W w:World} {R:List Own} {Φ:PW} [Stable Φ] {J:Value→World→Prop} (c:Ctx W w R Φ) (h:Bdisk_Disk_Crash dB dO keepP keepN keepC W R Φ J):Calls Tryz.prog F.disk_Disk_Crash #[.pointer (some ⟨dB,dO,none⟩),.slice keepP keepN keepC] w fun e w'=>∃ v,e=.returned v∧J v w' :=
  vcFS_sound (H:={ keep:=some [0,1,4,5,6,7,8,9,13,23,24,25,26,60,88,90],track:=[5,6,9],stages:=[(5,[.held [(0,true),(4,true),(7,true),(1,true),(5,true),(8,true),(2,true),(9,true),(3,true),(6,true),(10,false),(11,false)],.stage [12] none]),(7,[.held [(0,true),(2,true),(3,true),(5,true),(6,true),(8,true),(1,true),(4,true),(7,true),(9,true),(10,true),(11,true),(12,true)],.stage [] (some 13),.stage [14] (some 15)]),(8,[.stage [0,4,6,1,5,2,3] (some 7)]),(13,[.stage [0,4,5,7,1,6,8,2,9,3] (some 10)])],loops:=[(11,[],[]),(3,[(25,.one (.int .i64))],[])] }) (by rw [show vcFS Tryz.prog W { keep:=some [0,1,4,5,6,7,8,9,13,23,24,25,26,60,88,90],track:=[5,6,9],stages:=[(5,[.held [(0,true),(4,true),(7,true),(1,true),(5,true),(8,true),(2,true),(9,true),(3,true),(6,true),(10,false),(11,false)],.stage [12] none]),(7,[.held [(0,true),(2,true),(3,true),(5,true),(6,true),(8,true),(1,true),(4,true),(7,true),(9,true),(10,true),(11,true),(12,true)],.stage [] (some 13),.stage [14] (some 15)]),(8,[.stage [0,4,6,1,5,2,3] (some 7)]),(13,[.stage [0,4,5,7,1,6,8,2,9,3] (some 10)])],loops:=[(11,[],[]),(3,[(25,.one (.int .i64))],[])] } F.disk_Disk_Crash #[.pointer (some ⟨dB,dO,none⟩),.slice keepP keepN keepC] R Φ J=Bdisk_Disk_Crash dB dO keepP keepN keepC W R Φ J by kernel_rfl];exact h) c
def Bdisk_Disk_Start (dB dO:Nat) (W:World) (R:List Own) (Φ:PW) (J:Value→World→Prop):Prop :=
  ∀ w0 R1,Ctx W w0 (R++R1) Φ→CanWrite w0 dB (dO+4) 1∧∀ (w2:World),w2=w0.setCell (Addr.mk dB (dO+4) none) (Value.bool false)→∃ R3 Φ4,Stable Φ4∧Ctx W w2 (R3++R1) Φ4∧∀ w5 R6,Ctx W w5 (R3++R6) Φ4→J (Value.tuple #[]) w5
theorem Bdisk_Disk_Start_run (dB dO:Nat) {W w:World} {R:List Own} {Φ:PW} [Stable Φ] {J:Value→World→Prop} (c:Ctx W w R Φ) (h:Bdisk_Disk_Start dB dO W R Φ J):Calls Tryz.prog F.disk_Disk_Start #[.pointer (some ⟨dB,dO,none⟩)] w fun e w'=>∃ v,e=.returned v∧J v w' :=
  vcFS_sound (H:={ keep:=some [] }) (by rw [show vcFS Tryz.prog W { keep:=some [] } F.disk_Disk_Start #[.pointer (some ⟨dB,dO,none⟩)] R Φ J=Bdisk_Disk_Start dB dO W R Φ J by kernel_rfl];exact h) c
def Bdisk_Disk_Lose (dB dO:Nat) (n:Int) (W:World) (R:List Own) (Φ:PW) (J:Value→World→Prop):Prop :=
  ∀ w0 R1,Ctx W w0 (R++R1) Φ→CanWrite w0 dB (dO+3) 1∧∀ (w2:World),w2=w0.setCell (Addr.mk dB (dO+3) none) (Value.int IntKind.i64 (max n 0))→∃ R3 Φ4,Stable Φ4∧Ctx W w2 (R3++R1) Φ4∧∀ w5 R6,Ctx W w5 (R3++R6) Φ4→J (Value.tuple #[]) w5
theorem Bdisk_Disk_Lose_run (dB dO:Nat) (n:Int) {W w:World} {R:List Own} {Φ:PW} [Stable Φ] {J:Value→World→Prop} (c:Ctx W w R Φ) (h:Bdisk_Disk_Lose dB dO n W R Φ J):Calls Tryz.prog F.disk_Disk_Lose #[.pointer (some ⟨dB,dO,none⟩),.int .i64 n] w fun e w'=>∃ v,e=.returned v∧J v w' :=
  vcFS_sound (H:={ keep:=some [] }) (by rw [show vcFS Tryz.prog W { keep:=some [] } F.disk_Disk_Lose #[.pointer (some ⟨dB,dO,none⟩),.int .i64 n] R Φ J=Bdisk_Disk_Lose dB dO n W R Φ J by kernel_rfl];exact h) c
def Bcell_Open (dB dO:Nat) (file:Int) (W:World) (R:List Own) (Φ:PW) (J:Value→World→Prop):Prop :=
  ∀ (k0:Nat) (w1:World) (R2:List Own),Ctx W w1 (Own.blk k0 [Value.pointer (some (Addr.mk dB dO none)),Value.int IntKind.i64 file,Value.int IntKind.i64 0,Value.string (ByteArray.mk #[]),Value.bool false] 119 :: R++R2) Φ→Calls Tryz.prog F.disk_Disk_Read #[.pointer (some (Addr.mk dB dO none)),.int .i64 file,.int .i64 0,.int .i64 5] w1 fun e3 w4=>∃ s5 n6,e3=.returned (Value.tuple #[.string s5,.int .i64 n6])∧∃ R7 Φ8,Stable Φ8∧Ctx W w4 (R7++R2) Φ8∧Br (decide (n6≠0)) (∀ w9 R10,Ctx W w9 (R7++R10) Φ8→J (Value.tuple #[.pointer none,.int .i64 n6]) w9) (∀ w11 R12,Ctx W w11 (R7++R12) Φ8→∃ (u13:UInt8),((!decide (s5=ByteArray.mk #[]))=true→(0:Int)≤0∧s5.data.toList.get?Internal 0=some u13)∧Br (decide (s5=ByteArray.mk #[])||decide ((↑u13.toNat:Int)=0)) (∀ w14 R15,Ctx W w14 (R7++R15) Φ8→J (Value.tuple #[.pointer (some (Addr.mk k0
  0 none)),.int .i64 0]) w14) (∀ w16 R17,Ctx W w16 (R7++R17) Φ8→∃ (u18:UInt8),((!decide ((↑s5.size:Int)<5))=true→(0:Int)≤0∧s5.data.toList.get?Internal 0=some u18)∧∃ (u19:UInt8),((!decide ((↑s5.size:Int)<5)&&decide ((↑u18.toNat:Int)≠1))=true→(0:Int)≤0∧s5.data.toList.get?Internal 0=some u19)∧Br (decide ((↑s5.size:Int)<5)||decide ((↑u18.toNat:Int)≠1)&&decide ((↑u19.toNat:Int)≠2)) (∀ w20 R21,Ctx W w20 (R7++R21) Φ8→J (Value.tuple #[.pointer none,.int .i64 2]) w20) (exI fun (I22:Int→Int→List Own→PW→Nat→Prop)=>(∃ R23 Φ24 k25,Stable Φ24∧Wk W R7 Φ8 R23 Φ24∧I22 0 4 R23 Φ24 k25)∧∀ n28 n29 R30 I31 k32,Stable I31→I22 n28 n29 R30 I31 k32→Br (decide (0<n29)) (∃ (n33:Int),(∀ (w34:World),Sem.run Tryz.prog (binOp BinOp.shl 3 (Value.int IntKind.i64 n28) (Value.int IntKind.u64 8)) w34=Result.ok
  (Value.int IntKind.i64 n33) w34)∧∃ (u35:UInt8),(0≤n29∧s5.data.toList.get?Internal n29.toNat=some u35)∧∃ (n36:Int),(∀ (w37:World),Sem.run Tryz.prog (binOp BinOp.or 3 (Value.int IntKind.i64 n33) (Value.int IntKind.i64 (IntKind.i64.wrap (↑u35.toNat:Int)))) w37=Result.ok (Value.int IntKind.i64 n36) w37)∧I64 (n29 - 1)∧∃ R38 Φ39 k40,Stable Φ39∧Wk W R30 I31 R38 Φ39∧I22 n36 (n29 - 1) R38 Φ39 k40∧k40<k32) (Br (decide (65536<n28)) (∀ w43 R44,Ctx W w43 (R30++R44) I31→J (Value.tuple #[.pointer none,.int .i64 2]) w43) (∃ (u45:UInt8),((0:Int)≤0∧s5.data.toList.get?Internal 0=some u45)∧∀ w46 R47,Ctx W w46 (R30++R47) I31→CanWrite w46 k0 2 1∧∀ (w48:World),w48=w46.setCell (Addr.mk k0 2 none) (Value.int IntKind.i64 (IntKind.i64.wrap (↑u45.toNat:Int)))→∃ R49 Φ50,Stable Φ50∧Ctx W w48 (R49++R47) Φ50∧∀ w51 R52,Ctx W w51 (R49 ++
  R52) Φ50→∃ n53,w51.cell? (Addr.mk k0 2 none)=some (.int .i64 n53)∧(0≤n53∧n53<3)∧∀ w54 R55,Ctx W w54 (R49++R55) Φ50→∃ n56,w54.cell? (Addr.mk 0 (0+n53.toNat) none)=some (.int .i64 n56)∧∀ w57 R58,Ctx W w57 (R49++R58) Φ50→Calls Tryz.prog F.disk_Disk_Read #[.pointer (some (Addr.mk dB dO none)),.int .i64 file,.int .i64 n56,.int .i64 n28] w57 fun e59 w60=>∃ s61 n62,e59=.returned (Value.tuple #[.string s61,.int .i64 n62])∧∃ R63 Φ64,Stable Φ64∧Ctx W w60 (R63++R58) Φ64∧∀ w65 R66,Ctx W w65 (R63++R66) Φ64→CanWrite w65 k0 3 1∧∀ (w67:World),w67=w65.setCell (Addr.mk k0 3 none) (Value.string s61)→∃ R68 Φ69,Stable Φ69∧Ctx W w67 (R68++R66) Φ69∧∀ w70 R71,Ctx W w70 (R68++R71) Φ69→∃ (s72:ByteArray),(decide (n62=0)=true→w70.cell? (Addr.mk k0 3 none)=some (.string s72))∧Br (decide (n62=0)&&decide ((↑s72.size:Int) <
  n28)) (∀ w73 R74,Ctx W w73 (R68++R74) Φ69→J (Value.tuple #[.pointer none,.int .i64 2]) w73) (Br (decide (n62≠0)) (∀ w75 R76,Ctx W w75 (R68++R76) Φ69→J (Value.tuple #[.pointer none,.int .i64 n62]) w75) (∀ w77 R78,Ctx W w77 (R68++R78) Φ69→J (Value.tuple #[.pointer (some (Addr.mk k0 0 none)),.int .i64 0]) w77)))))))
theorem Bcell_Open_run (dB dO:Nat) (file:Int) {W w:World} {R:List Own} {Φ:PW} [Stable Φ] {J:Value→World→Prop} (c:Ctx W w R Φ) (h:Bcell_Open dB dO file W R Φ J):Calls Tryz.prog F.cell_Open #[.pointer (some ⟨dB,dO,none⟩),.int .i64 file] w fun e w'=>∃ v,e=.returned v∧J v w' :=
  vcFS_sound (H:={ keep:=some [0,1,4,5,6,7,8,9,10,22,30,44,46,57,90,92],loops:=[(11,[(9,.one (.int .i64)),(10,.one (.int .i64))],[])] }) (by rw [show vcFS Tryz.prog W { keep:=some [0,1,4,5,6,7,8,9,10,22,30,44,46,57,90,92],loops:=[(11,[(9,.one (.int .i64)),(10,.one (.int .i64))],[])] } F.cell_Open #[.pointer (some ⟨dB,dO,none⟩),.int .i64 file] R Φ J=Bcell_Open dB dO file W R Φ J by kernel_rfl];exact h) c
def Bcell_Cell_Set (cB cO:Nat) (s:ByteArray) (W:World) (R:List Own) (Φ:PW) (J:Value→World→Prop):Prop :=
  Br (decide (65536<(↑s.size:Int))) (∀ w0 R1,Ctx W w0 (R++R1) Φ→J (.int .i64 6) w0) (exI fun (I2:List Own→PW→Prop)=>(∀ w3 R4,Ctx W w3 (R++R4) Φ→∃ c5,w3.cell? (Addr.mk cB (cO+4) none)=some (.bool c5)∧∃ (n6:Int),((!c5)=true→w3.cell? (Addr.mk cB (cO+2) none)=some (.int .i64 n6))∧Br (!c5&&decide (0<n6)) (∃ R7 Φ8,Stable Φ8∧Wk W R Φ R7 Φ8∧∃ (p11:Option Addr),(∀ w12 R13,Ctx W w12 (R7++R13) Φ8→∃ p14,w12.cell? (Addr.mk cB cO none)=some (.pointer p14)∧Value.pointer p14=Value.pointer p11)∧∃ (n15:Int),(∀ w16 R17,Ctx W w16 (R7++R17) Φ8→∃ n18,w16.cell? (Addr.mk cB (cO+1) none)=some (.int .i64 n18)∧Value.int IntKind.i64 n18=Value.int IntKind.i64 n15)∧∀ w19 R20,Ctx W w19 (R++R20) Φ→Calls Tryz.prog F.disk_Disk_Sync #[.pointer p11,.int .i64 n15] w19 fun e21 w22=>∃ n23,e21=.returned (.int .i64 n23)∧∃ R24 Φ25,
  Stable Φ25∧Ctx W w22 (R24++R20) Φ25∧Br (decide (n23≠0)) (∀ w26 R27,Ctx W w26 (R24++R27) Φ25→J (.int .i64 n23) w26) (∀ w28 R29,Ctx W w28 (R24++R29) Φ25→CanWrite w28 cB (cO+4) 1∧∀ (w30:World),w30=w28.setCell (Addr.mk cB (cO+4) none) (Value.bool true)→∃ R31 Φ32,Stable Φ32∧Ctx W w30 (R31++R29) Φ32∧∃ R33 Φ34,Stable Φ34∧Wk W R31 Φ32 R33 Φ34∧I2 R33 Φ34)) (∃ R37 Φ38,Stable Φ38∧Wk W R Φ R37 Φ38∧I2 R37 Φ38))∧∀ (R41:List Own) (I42:List Nat→World→Prop),Stable I42→I2 R41 I42→exI fun (I43:Int→List Own→PW→Prop)=>(∀ w44 R45,Ctx W w44 (R41++R45) I42→∃ n46,w44.cell? (Addr.mk cB (cO+2) none)=some (.int .i64 n46)∧Br (decide (n46=1)) (∃ R47 Φ48,Stable Φ48∧Wk W R41 I42 R47 Φ48∧I43 2 R47 Φ48) (∃ R51 Φ52,Stable Φ52∧Wk W R41 I42 R51 Φ52∧I43 1 R51 Φ52))∧∀ (n55:Int) (R56:List Own) (I57:List Nat→World →
  Prop),Stable I57→I43 n55 R56 I57→∃ R58 Φ59,Stable Φ59∧Wk W R56 I57 R58 Φ59∧(0≤n55∧n55<3)∧∃ (n62:Int),(∀ w63 R64,Ctx W w63 (R58++R64) Φ59→∃ n65,w63.cell? (Addr.mk 0 (0+n55.toNat) none)=some (.int .i64 n65)∧Value.int IntKind.i64 n65=Value.int IntKind.i64 n62)∧∃ (p66:Option Addr),(∀ w67 R68,Ctx W w67 (R58++R68) Φ59→∃ p69,w67.cell? (Addr.mk cB cO none)=some (.pointer p69)∧Value.pointer p69=Value.pointer p66)∧∃ (n70:Int),(∀ w71 R72,Ctx W w71 (R58++R72) Φ59→∃ n73,w71.cell? (Addr.mk cB (cO+1) none)=some (.int .i64 n73)∧Value.int IntKind.i64 n73=Value.int IntKind.i64 n70)∧∀ w74 R75,Ctx W w74 (R56++R75) I57→Calls Tryz.prog F.disk_Disk_Write #[.pointer p66,.int .i64 n70,.int .i64 n62,.string s] w74 fun e76 w77=>∃ n78,e76=.returned (.int .i64 n78)∧∃ R79 Φ80,Stable Φ80∧Ctx W w77 (R79++R75) Φ80∧Br (decide
  (n78≠0)) (∀ w81 R82,Ctx W w81 (R79++R82) Φ80→J (.int .i64 n78) w81) (∃ R83 Φ84,Stable Φ84∧Wk W R79 Φ80 R83 Φ84∧∃ (p87:Option Addr),(∀ w88 R89,Ctx W w88 (R83++R89) Φ84→∃ p90,w88.cell? (Addr.mk cB cO none)=some (.pointer p90)∧Value.pointer p90=Value.pointer p87)∧∃ (n91:Int),(∀ w92 R93,Ctx W w92 (R83++R93) Φ84→∃ n94,w92.cell? (Addr.mk cB (cO+1) none)=some (.int .i64 n94)∧Value.int IntKind.i64 n94=Value.int IntKind.i64 n91)∧∀ w95 R96,Ctx W w95 (R79++R96) Φ80→Calls Tryz.prog F.disk_Disk_Sync #[.pointer p87,.int .i64 n91] w95 fun e97 w98=>∃ n99,e97=.returned (.int .i64 n99)∧∃ R100 Φ101,Stable Φ101∧Ctx W w98 (R100++R96) Φ101∧Br (decide (n99≠0)) (∀ w102 R103,Ctx W w102 (R100++R103) Φ101→J (.int .i64 n99) w102) (∃ R104 Φ105,Stable Φ105∧Wk W R100 Φ101 R104 Φ105∧∃ (p108:Option Addr),(∀ w109 R110,Ctx W w109 (R104 ++
  R110) Φ105→∃ p111,w109.cell? (Addr.mk cB cO none)=some (.pointer p111)∧Value.pointer p111=Value.pointer p108)∧∃ (n112:Int),(∀ w113 R114,Ctx W w113 (R104++R114) Φ105→∃ n115,w113.cell? (Addr.mk cB (cO+1) none)=some (.int .i64 n115)∧Value.int IntKind.i64 n115=Value.int IntKind.i64 n112)∧∀ w116 R117,Ctx W w116 (R100++R117) Φ101→Calls Tryz.prog F.cell_header #[.int .i64 n55,.string s] w116 fun e118 w119=>∃ s120,e118=.returned (.string s120)∧∃ R121 Φ122,Stable Φ122∧Ctx W w119 (R121++R117) Φ122∧Wk W R121 Φ122 R104 Φ105∧∀ w125 R126,Ctx W w125 (R121++R126) Φ122→Calls Tryz.prog F.disk_Disk_Write #[.pointer p108,.int .i64 n112,.int .i64 0,.string s120] w125 fun e127 w128=>∃ n129,e127=.returned (.int .i64 n129)∧∃ R130 Φ131,Stable Φ131∧Ctx W w128 (R130++R126) Φ131∧Br (decide (n129≠0)) (∀ w132 R133,Ctx W w132 (R130++R133)
  Φ131→J (.int .i64 n129) w132) (∀ w134 R135,Ctx W w134 (R130++R135) Φ131→CanWrite w134 cB (cO+2) 1∧∀ (w136:World),w136=w134.setCell (Addr.mk cB (cO+2) none) (Value.int IntKind.i64 n55)→∃ R137 Φ138,Stable Φ138∧Ctx W w136 (R137++R135) Φ138∧∀ w139 R140,Ctx W w139 (R137++R140) Φ138→CanWrite w139 cB (cO+3) 1∧∀ (w141:World),w141=w139.setCell (Addr.mk cB (cO+3) none) (Value.string s)→∃ R142 Φ143,Stable Φ143∧Ctx W w141 (R142++R140) Φ143∧∀ w144 R145,Ctx W w144 (R142++R145) Φ143→CanWrite w144 cB (cO+4) 1∧∀ (w146:World),w146=w144.setCell (Addr.mk cB (cO+4) none) (Value.bool false)→∃ R147 Φ148,Stable Φ148∧Ctx W w146 (R147++R145) Φ148∧∃ R149 Φ150,Stable Φ150∧Wk W R147 Φ148 R149 Φ150∧∃ (p153:Option Addr),(∀ w154 R155,Ctx W w154 (R149++R155) Φ150→∃ p156,w154.cell? (Addr.mk cB cO none)=some (.pointer p156) ∧
  Value.pointer p156=Value.pointer p153)∧∃ (n157:Int),(∀ w158 R159,Ctx W w158 (R149++R159) Φ150→∃ n160,w158.cell? (Addr.mk cB (cO+1) none)=some (.int .i64 n160)∧Value.int IntKind.i64 n160=Value.int IntKind.i64 n157)∧∀ w161 R162,Ctx W w161 (R147++R162) Φ148→Calls Tryz.prog F.disk_Disk_Sync #[.pointer p153,.int .i64 n157] w161 fun e163 w164=>∃ n165,e163=.returned (.int .i64 n165)∧∃ R166 Φ167,Stable Φ167∧Ctx W w164 (R166++R162) Φ167∧∀ w168 R169,Ctx W w168 (R166++R169) Φ167→CanWrite w168 cB (cO+4) 1∧∀ (w170:World),w170=w168.setCell (Addr.mk cB (cO+4) none) (Value.bool (decide (n165=0)))→∃ R171 Φ172,Stable Φ172∧Ctx W w170 (R171++R169) Φ172∧∀ w173 R174,Ctx W w173 (R171++R174) Φ172→J (.int .i64 n165) w173))))
theorem Bcell_Cell_Set_run (cB cO:Nat) (s:ByteArray) {W w:World} {R:List Own} {Φ:PW} [Stable Φ] {J:Value→World→Prop} (c:Ctx W w R Φ) (h:Bcell_Cell_Set cB cO s W R Φ J):Calls Tryz.prog F.cell_Cell_Set #[.pointer (some ⟨cB,cO,none⟩),.string s] w fun e w'=>∃ v,e=.returned v∧J v w' :=
  vcFS_sound (H:={ keep:=some [0,1,4,5,6,7,8,9,10,13,25,36,45,60,72,87],stages:=[(4,[.held [(0,true),(4,true),(1,true),(5,true),(2,true),(6,true),(3,true),(7,true)],.stage [] (some 8),.stage [9] none]),(11,[.held [(0,true),(4,true),(8,true),(11,true),(1,true),(5,true),(9,true),(2,true),(6,true),(10,true),(3,true),(7,true)],.stage [] (some 12),.stage [13] none]),(14,[.held [(0,true),(4,true),(1,true),(5,true),(2,true),(6,true),(3,true),(7,true)],.stage [] (some 8),.stage [9] none]),(17,[.held [(0,true),(4,true),(8,true),(9,true),(1,true),(5,true),(2,true),(6,true),(3,true),(7,true),(10,false)],.stage [] (some 11),.stage [12] none]),(21,[.held [(0,true),(4,true),(1,true),(5,true),(2,true),(6,true),(3,true),(7,true)],.stage [] (some 8),.stage [9] none])],cuts:=[(8,[],[]),(11,[(6,.one (.int .i64))],[])] }) (by rw [show vcFS Tryz.prog W { keep:=some [0,1,4,5,6,7,8,9,10,13,25,36,45,60,72,87],stages:=[(4,[.held [(0,true),(4,true),(1,true),(5,true),(2,true),(6,true),(3,true),(7,true)],.stage [] (some 8),.stage [9] none]),(11,[.held [(0,true),(4,true),(8,true),(11,true),(1,true),(5,true),(9,true),(2,true),(6,true),(10,true),(3,true),(7,true)],.stage [] (some 12),.stage [13] none]),(14,[.held [(0,true),(4,true),(1,true),(5,true),(2,true),(6,true),(3,true),(7,true)],.stage [] (some 8),.stage [9] none]),(17,[.held [(0,true),(4,true),(8,true),(9,true),(1,true),(5,true),(2,true),(6,true),(3,true),(7,true),(10,false)],.stage [] (some 11),.stage [12] none]),(21,[.held [(0,true),(4,true),(1,true),(5,true),(2,true),(6,true),(3,true),(7,true)],.stage [] (some 8),.stage [9] none])],cuts:=[(8,[],[]),(11,[(6,.one (.int .i64))],[])] } F.cell_Cell_Set #[.pointer (some ⟨cB,cO,none⟩),.string s] R Φ J=Bcell_Cell_Set cB cO s W R Φ J by kernel_rfl];exact h) c
def Bdisk_Disk_Sync (dB dO:Nat) (f:Int) (W:World) (R:List Own) (Φ:PW) (J:Value→World→Prop):Prop :=
  exI fun (I0:List Own→PW→Prop)=>(∀ w1 R2,Ctx W w1 (R++R2) Φ→Calls Tryz.prog F.disk_Disk_ends #[.pointer (some (Addr.mk dB dO none))] w1 fun e3 w4=>∃ c5,e3=.returned (.bool c5)∧∃ R6 Φ7,Stable Φ7∧Ctx W w4 (R6++R2) Φ7∧Br c5 (∀ w8 R9,Ctx W w8 (R6++R9) Φ7→∃ p10 k11 k12,w8.cell? (Addr.mk dB (dO+6) none)=some (.slice p10 k11 k12)∧∀ w13 R14,Ctx W w13 (R6++R14) Φ7→Calls Tryz.prog F.disk_Disk_Crash #[.pointer (some (Addr.mk dB dO none)),.slice p10 k11 k12] w13 fun e15 w16=>e15=.returned (Value.tuple #[])∧∃ R17 Φ18,Stable Φ18∧Ctx W w16 (R17++R14) Φ18∧∃ R19 Φ20,Stable Φ20∧Wk W R17 Φ18 R19 Φ20∧I0 R19 Φ20) (∃ R23 Φ24,Stable Φ24∧Wk W R6 Φ7 R23 Φ24∧I0 R23 Φ24))∧∀ (R27:List Own) (I28:List Nat→World→Prop),Stable I28→I0 R27 I28→∀ w29 R30,Ctx W w29 (R27++R30) I28→Calls Tryz.prog F.disk_Disk_may #[.pointer (some (Addr.mk
  dB dO none)),.int .i64 f] w29 fun e31 w32=>∃ n33,e31=.returned (.int .i64 n33)∧∃ R34 Φ35,Stable Φ35∧Ctx W w32 (R34++R30) Φ35∧Br (decide (n33≠0)) (∀ w36 R37,Ctx W w36 (R34++R37) Φ35→J (.int .i64 n33) w36) (∀ w38 R39,Ctx W w38 (R34++R39) Φ35→∃ n40,w38.cell? (Addr.mk dB (dO+3) none)=some (.int .i64 n40)∧Br (decide (0<n40)) (∀ w41 R42,Ctx W w41 (R34++R42) Φ35→∃ n43,w41.cell? (Addr.mk dB (dO+3) none)=some (.int .i64 n43)∧I64 (n43 - 1)∧∀ w44 R45,Ctx W w44 (R34++R45) Φ35→CanWrite w44 dB (dO+3) 1∧∀ (w46:World),w46=w44.setCell (Addr.mk dB (dO+3) none) (Value.int IntKind.i64 (n43 - 1))→∃ R47 Φ48,Stable Φ48∧Ctx W w46 (R47++R45) Φ48∧∀ w49 R50,Ctx W w49 (R47++R50) Φ48→J (.int .i64 10) w49) (∀ w51 R52,Ctx W w51 (R34++R52) Φ35→∃ (p53:Option Nat),w51.cell? (Addr.mk dB dO none)=some (Value.map p53)∧∀ w54 R55,Ctx
  W w54 (R34++R55) Φ35→∃ (s56 s57:ByteArray),(∀ (w58:World),w58.heap=w54.heap→Sem.run Tryz.prog (Instr.lookup 93 (Value.map p53) (Value.int IntKind.i64 f) false) w58=Result.ok (Value.agg #[.string s56,.string s57]) w58)∧∀ w59 R60,Ctx W w59 (R34++R60) Φ35→Calls Tryz.prog F.disk_Disk_settle #[.pointer (some (Addr.mk dB dO none)),.int .i64 f,.string s56] w59 fun e61 w62=>e61=.returned (Value.tuple #[])∧∃ R63 Φ64,Stable Φ64∧Ctx W w62 (R63++R60) Φ64∧∀ w65 R66,Ctx W w65 (R63++R66) Φ64→J (.int .i64 0) w65))
theorem Bdisk_Disk_Sync_run (dB dO:Nat) (f:Int) {W w:World} {R:List Own} {Φ:PW} [Stable Φ] {J:Value→World→Prop} (c:Ctx W w R Φ) (h:Bdisk_Disk_Sync dB dO f W R Φ J):Calls Tryz.prog F.disk_Disk_Sync #[.pointer (some ⟨dB,dO,none⟩),.int .i64 f] w fun e w'=>∃ v,e=.returned v∧J v w' :=
  vcFS_sound (H:={ keep:=some [0,1,4,5,7,18,24],cuts:=[(3,[],[])] }) (by rw [show vcFS Tryz.prog W { keep:=some [0,1,4,5,7,18,24],cuts:=[(3,[],[])] } F.disk_Disk_Sync #[.pointer (some ⟨dB,dO,none⟩),.int .i64 f] R Φ J=Bdisk_Disk_Sync dB dO f W R Φ J by kernel_rfl];exact h) c
def Bcell_Cell_Get (cB cO:Nat) (W:World) (R:List Own) (Φ:PW) (J:Value→World→Prop):Prop :=
  ∀ w0 R1,Ctx W w0 (R++R1) Φ→∃ s2,w0.cell? (Addr.mk cB (cO+3) none)=some (.string s2)∧∃ n3,w0.cell? (Addr.mk cB (cO+2) none)=some (.int .i64 n3)∧∀ w4 R5,Ctx W w4 (R++R5) Φ→J (Value.tuple #[.string s2,.bool (decide (0<n3))]) w4
theorem Bcell_Cell_Get_run (cB cO:Nat) {W w:World} {R:List Own} {Φ:PW} [Stable Φ] {J:Value→World→Prop} (c:Ctx W w R Φ) (h:Bcell_Cell_Get cB cO W R Φ J):Calls Tryz.prog F.cell_Cell_Get #[.pointer (some ⟨cB,cO,none⟩)] w fun e w'=>∃ v,e=.returned v∧J v w' :=
  vcFS_sound (H:={ keep:=some [0,2,3] }) (by rw [show vcFS Tryz.prog W { keep:=some [0,2,3] } F.cell_Cell_Get #[.pointer (some ⟨cB,cO,none⟩)] R Φ J=Bcell_Cell_Get cB cO W R Φ J by kernel_rfl];exact h) c
def Berrataref43_Clone (lP:Option Addr) (lN lC:Nat) (W:World) (R:List Own) (Φ:PW) (J:Value→World→Prop):Prop :=
  exI fun (I0:Option Addr→Nat→Nat→Int→List Own→PW→Nat→Prop)=>(∃ R1 Φ2 k3,Stable Φ2∧Wk W R Φ R1 Φ2∧I0 none 0 0 0 R1 Φ2 k3)∧∀ p6 k7 k8 n9 R10 I11 k12,Stable I11→I0 p6 k7 k8 n9 R10 I11 k12→Br (decide (n9<(↑lN:Int))) ((0≤n9∧n9<(↑lN:Int))∧ptrK none lP fun k13 k14=>∀ w15 R16,Ctx W w15 (R10++R16) I11→∃ n17 n18 n19 p20 k21 k22 n23 n24 n25,RowAt w15 k13 (k14+n9.toNat*7) [.int .i64 n17,.int .i64 n18,.int .i64 n19,.slice p20 k21 k22,.int .i64 n23,.int .i64 n24,.int .i64 n25]∧∀ (b k26:Nat) (w27:World) (R28:List Own),Ctx W w27 (Own.blk k26 [] 147 :: R10++R28) I11→∃ (p29:Option Addr) (k30 k31:Nat) (w32:World),Sem.run Tryz.prog (builtin Builtin.append #[29,29] 29 #[false,false] #[.slice (some (Addr.mk k26 0 none)) 0 0,.slice p20 k21 k22]) w27=.ok (.value (.slice p29 k30 k31)) w32∧∃ R33 Φ34,Stable Φ34∧Ctx W w32
  (R33++R28) Φ34∧∀ (k35:Nat) (w36:World) (R37:List Own),Ctx W w36 (Own.blk k35 [.int .i64 n17,.int .i64 n18,.int .i64 n19,.slice p29 k30 k31,.int .i64 n23,.int .i64 n24,.int .i64 n25] 31 :: R33++R37) Φ34→∃ (p38:Option Addr) (k39 k40:Nat) (w41:World),Sem.run Tryz.prog (builtin Builtin.append #[22,22] 22 #[false,false] #[.slice p6 k7 k8,.slice (some (Addr.mk k35 0 none)) 1 1]) w36=.ok (.value (.slice p38 k39 k40)) w41∧∃ R42 Φ43,Stable Φ43∧Ctx W w41 (R42++R37) Φ43∧I64 (n9+1)∧∃ R44 Φ45 k46,Stable Φ45∧Wk W R42 Φ43 R44 Φ45∧I0 p38 k39 k40 (n9+1) R44 Φ45 k46∧k46<k12) (∀ w49 R50,Ctx W w49 (R10++R50) I11→J (.slice p6 k7 k8) w49)
theorem Berrataref43_Clone_run (lP:Option Addr) (lN lC:Nat) {W w:World} {R:List Own} {Φ:PW} [Stable Φ] {J:Value→World→Prop} (c:Ctx W w R Φ) (h:Berrataref43_Clone lP lN lC W R Φ J):Calls Tryz.prog F.errataref43_Clone #[.slice lP lN lC] w fun e w'=>∃ v,e=.returned v∧J v w' :=
  vcFS_sound (H:={ keep:=some [0,2,3,4,5,9],track:=[5],loops:=[(3,[(3,.one (.slice)),(4,.one (.int .i64))],[])] }) (by rw [show vcFS Tryz.prog W { keep:=some [0,2,3,4,5,9],track:=[5],loops:=[(3,[(3,.one (.slice)),(4,.one (.int .i64))],[])] } F.errataref43_Clone #[.slice lP lN lC] R Φ J=Berrataref43_Clone lP lN lC W R Φ J by kernel_rfl];exact h) c
def Bdisk_put (s:ByteArray) (atx:Int) (t:ByteArray) (W:World) (R:List Own) (Φ:PW) (J:Value→World→Prop):Prop :=
  Br (decide (t=ByteArray.mk #[])) (∀ w0 R1,Ctx W w0 (R++R1) Φ→J (.string s) w0) (I64 (atx+(↑t.size:Int))∧(0≤max (↑s.size:Int) (atx+(↑t.size:Int))∧max (↑s.size:Int) (atx+(↑t.size:Int))≤max (↑s.size:Int) (atx+(↑t.size:Int))∧1*max (↑s.size:Int) (atx+(↑t.size:Int))≤281474976710656∧max (↑s.size:Int) (atx+(↑t.size:Int))≤9223372036854775807)∧∀ (k2:Nat) (w3:World) (R4:List Own),Ctx W w3 (Own.blk k2 (List.replicate (max (↑s.size:Int) (atx+(↑t.size:Int))).toNat (Value.int IntKind.u8 0)) 5 :: R++R4) Φ→∃ (n5:Int) (w6:World),Sem.run Tryz.prog (builtin Builtin.copy #[129,9] 3 #[false,false] #[.slice (some (Addr.mk k2 0 none)) (max (↑s.size:Int) (atx+(↑t.size:Int))).toNat (max (↑s.size:Int) (atx+(↑t.size:Int))).toNat,.string s]) w3=.ok (.value (.int .i64 n5)) w6∧∃ R7 Φ8,Stable Φ8∧Ctx W w6 (R7++R4)
  Φ8∧(0≤atx∧atx≤(↑(max (↑s.size:Int) (atx+(↑t.size:Int))).toNat:Int)∧(max (↑s.size:Int) (atx+(↑t.size:Int))).toNat≤(max (↑s.size:Int) (atx+(↑t.size:Int))).toNat)∧∀ w9 R10,Ctx W w9 (R7++R10) Φ8→∃ (n11:Int) (w12:World),Sem.run Tryz.prog (builtin Builtin.copy #[129,9] 3 #[false,false] #[.slice (subPtr (some (Addr.mk k2 0 none)) 1 atx.toNat (max (↑s.size:Int) (atx+(↑t.size:Int))).toNat) ((max (↑s.size:Int) (atx+(↑t.size:Int))).toNat - atx.toNat) ((max (↑s.size:Int) (atx+(↑t.size:Int))).toNat - atx.toNat),.string t]) w9=.ok (.value (.int .i64 n11)) w12∧∃ R13 Φ14,Stable Φ14∧Ctx W w12 (R13++R10) Φ14∧∀ w15 R16,Ctx W w15 (R13++R16) Φ14→∃ (s17:ByteArray) (w18:World),Sem.run Tryz.prog (convert 129 9 (Value.slice (some (Addr.mk k2 0 none)) (max (↑s.size:Int) (atx+(↑t.size:Int))).toNat (max (↑s.size:Int) (atx
  + (↑t.size:Int))).toNat)) w15=Result.ok (Value.string s17) w18∧∃ R19 Φ20,Stable Φ20∧Ctx W w18 (R19++R16) Φ20∧∀ w21 R22,Ctx W w21 (R19++R22) Φ20→J (.string s17) w21)
theorem Bdisk_put_run (s:ByteArray) (atx:Int) (t:ByteArray) {W w:World} {R:List Own} {Φ:PW} [Stable Φ] {J:Value→World→Prop} (c:Ctx W w R Φ) (h:Bdisk_put s atx t W R Φ J):Calls Tryz.prog F.disk_put #[.string s,.int .i64 atx,.string t] w fun e w'=>∃ v,e=.returned v∧J v w' :=
  vcFS_sound (H:={ keep:=some [0,1,2,6,7,9] }) (by rw [show vcFS Tryz.prog W { keep:=some [0,1,2,6,7,9] } F.disk_put #[.string s,.int .i64 atx,.string t] R Φ J=Bdisk_put s atx t W R Φ J by kernel_rfl];exact h) c
def Bdisk_Disk_Read (dB dO:Nat) (f:Int) (atx:Int) (size:Int) (W:World) (R:List Own) (Φ:PW) (J:Value→World→Prop):Prop :=
  ∀ w0 R1,Ctx W w0 (R++R1) Φ→Calls Tryz.prog F.disk_Disk_may #[.pointer (some (Addr.mk dB dO none)),.int .i64 f] w0 fun e2 w3=>∃ n4,e2=.returned (.int .i64 n4)∧∃ R5 Φ6,Stable Φ6∧Ctx W w3 (R5++R1) Φ6∧Br (decide (n4≠0)) (∀ w7 R8,Ctx W w7 (R5++R8) Φ6→J (Value.tuple #[.string (ByteArray.mk #[]),Value.int IntKind.i64 n4]) w7) (∀ w9 R10,Ctx W w9 (R5++R10) Φ6→Br (decide (atx<0)||decide (size<0)) (∀ w11 R12,Ctx W w11 (R5++R12) Φ6→J (Value.tuple #[.string (ByteArray.mk #[]),Value.int IntKind.i64 1]) w11) (∀ w13 R14,Ctx W w13 (R5++R14) Φ6→∃ (p15:Option Nat),w13.cell? (Addr.mk dB dO none)=some (Value.map p15)∧∀ w16 R17,Ctx W w16 (R5++R17) Φ6→∃ (s18 s19:ByteArray),(∀ (w20:World),w20.heap=w16.heap→Sem.run Tryz.prog (Instr.lookup 93 (Value.map p15) (Value.int IntKind.i64 f) false) w20=Result.ok (Value.agg #[.string s18,.string
  s19]) w20)∧(0≤min atx (↑s18.size:Int)∧min atx (↑s18.size:Int)≤(↑s18.size:Int)∧s18.size≤s18.size)∧(0≤min size (↑(s18.extract (min atx (↑s18.size:Int)).toNat s18.size).size:Int)∧min size (↑(s18.extract (min atx (↑s18.size:Int)).toNat s18.size).size:Int)≤(↑(s18.extract (min atx (↑s18.size:Int)).toNat s18.size).size:Int))∧∀ w21 R22,Ctx W w21 (R5++R22) Φ6→J (Value.tuple #[.string ((s18.extract (min atx (↑s18.size:Int)).toNat s18.size).extract 0 (min size (↑(s18.extract (min atx (↑s18.size:Int)).toNat s18.size).size:Int)).toNat),.int .i64 0]) w21))
theorem Bdisk_Disk_Read_run (dB dO:Nat) (f:Int) (atx:Int) (size:Int) {W w:World} {R:List Own} {Φ:PW} [Stable Φ] {J:Value→World→Prop} (c:Ctx W w R Φ) (h:Bdisk_Disk_Read dB dO f atx size W R Φ J):Calls Tryz.prog F.disk_Disk_Read #[.pointer (some ⟨dB,dO,none⟩),.int .i64 f,.int .i64 atx,.int .i64 size] w fun e w'=>∃ v,e=.returned v∧J v w' :=
  vcFS_sound (H:={ keep:=some [0,1,2,3,8,9,10,11,16,23] }) (by rw [show vcFS Tryz.prog W { keep:=some [0,1,2,3,8,9,10,11,16,23] } F.disk_Disk_Read #[.pointer (some ⟨dB,dO,none⟩),.int .i64 f,.int .i64 atx,.int .i64 size] R Φ J=Bdisk_Disk_Read dB dO f atx size W R Φ J by kernel_rfl];exact h) c
def Bdisk_Disk_Write (dB dO:Nat) (f:Int) (atx:Int) (s:ByteArray) (W:World) (R:List Own) (Φ:PW) (J:Value→World→Prop):Prop :=
  ∀ w0 R1,Ctx W w0 (R++R1) Φ→Calls Tryz.prog F.disk_Disk_ends #[.pointer (some (Addr.mk dB dO none))] w0 fun e2 w3=>∃ c4,e2=.returned (.bool c4)∧∃ R5 Φ6,Stable Φ6∧Ctx W w3 (R5++R1) Φ6∧∀ w7 R8,Ctx W w7 (R5++R8) Φ6→Calls Tryz.prog F.disk_Disk_write #[.pointer (some (Addr.mk dB dO none)),.int .i64 f,.int .i64 atx,.string s] w7 fun e9 w10=>∃ n11,e9=.returned (.int .i64 n11)∧∃ R12 Φ13,Stable Φ13∧Ctx W w10 (R12++R8) Φ13∧Br c4 (∀ w14 R15,Ctx W w14 (R12++R15) Φ13→∃ p16 k17 k18,w14.cell? (Addr.mk dB (dO+6) none)=some (.slice p16 k17 k18)∧∀ w19 R20,Ctx W w19 (R12++R20) Φ13→Calls Tryz.prog F.disk_Disk_Crash #[.pointer (some (Addr.mk dB dO none)),.slice p16 k17 k18] w19 fun e21 w22=>e21=.returned (Value.tuple #[])∧∃ R23 Φ24,Stable Φ24∧Ctx W w22 (R23++R20) Φ24∧∀ w25 R26,Ctx W w25 (R23++R26) Φ24→J (.int .i64 9) w25) (∀ w27
  R28,Ctx W w27 (R12++R28) Φ13→J (.int .i64 n11) w27)
theorem Bdisk_Disk_Write_run (dB dO:Nat) (f:Int) (atx:Int) (s:ByteArray) {W w:World} {R:List Own} {Φ:PW} [Stable Φ] {J:Value→World→Prop} (c:Ctx W w R Φ) (h:Bdisk_Disk_Write dB dO f atx s W R Φ J):Calls Tryz.prog F.disk_Disk_Write #[.pointer (some ⟨dB,dO,none⟩),.int .i64 f,.int .i64 atx,.string s] w fun e w'=>∃ v,e=.returned v∧J v w' :=
  vcFS_sound (H:={ keep:=some [0,1,2,3,8,9,10,18] }) (by rw [show vcFS Tryz.prog W { keep:=some [0,1,2,3,8,9,10,18] } F.disk_Disk_Write #[.pointer (some ⟨dB,dO,none⟩),.int .i64 f,.int .i64 atx,.string s] R Φ J=Bdisk_Disk_Write dB dO f atx s W R Φ J by kernel_rfl];exact h) c
def Bcell_header (slot:Int) (s:ByteArray) (W:World) (R:List Own) (Φ:PW) (J:Value→World→Prop):Prop :=
  ∀ (k0:Nat),exI fun (I1:Option Addr→Nat→Nat→Int→List Own→PW→Nat→Prop)=>(∃ R2 Φ3 k4,Stable Φ3∧Wk W (Own.blk k0 [.int IntKind.u8 (IntKind.u8.wrap slot)] 5 :: R) Φ (R2) Φ3∧I1 (some (Addr.mk k0 0 none)) 1 1 (↑s.size:Int) R2 Φ3 k4)∧∀ p7 k8 k9 n10 R11 I12 k13,Stable I12→I1 p7 k8 k9 n10 R11 I12 k13→Br (decide ((↑k8:Int)<5)) (∀ (k14:Nat) (w15:World) (R16:List Own),Ctx W w15 (Own.blk k14 [.int IntKind.u8 (IntKind.u8.wrap n10)] 5 :: R11++R16) I12→∃ (p17:Option Addr) (k18 k19:Nat) (w20:World),Sem.run Tryz.prog (builtin Builtin.append #[129,129] 129 #[false,false] #[.slice p7 k8 k9,.slice (some (Addr.mk k14 0 none)) 1 1]) w15=.ok (.value (.slice p17 k18 k19)) w20∧∃ R21 Φ22,Stable Φ22∧Ctx W w20 (R21++R16) Φ22∧∃ (n23:Int),(∀ (w24:World),Sem.run Tryz.prog (binOp BinOp.shr 3 (Value.int IntKind.i64 n10) (Value.int IntKind.u64
  8)) w24=Result.ok (Value.int IntKind.i64 n23) w24)∧∃ R25 Φ26 k27,Stable Φ26∧Wk W R21 Φ22 R25 Φ26∧I1 p17 k18 k19 n23 R25 Φ26 k27∧k27<k13) (∀ w30 R31,Ctx W w30 (R11++R31) I12→∃ (s32:ByteArray) (w33:World),Sem.run Tryz.prog (convert 129 9 (Value.slice p7 k8 k9)) w30=Result.ok (Value.string s32) w33∧∃ R34 Φ35,Stable Φ35∧Ctx W w33 (R34++R31) Φ35∧∀ w36 R37,Ctx W w36 (R34++R37) Φ35→J (.string s32) w36)
theorem Bcell_header_run (slot:Int) (s:ByteArray) {W w:World} {R:List Own} {Φ:PW} [Stable Φ] {J:Value→World→Prop} (c:Ctx W w R Φ) (h:Bcell_header slot s W R Φ J):Calls Tryz.prog F.cell_header #[.int .i64 slot,.string s] w fun e w'=>∃ v,e=.returned v∧J v w' :=
  vcFS_sound (H:={ keep:=some [0,1,4,5,6,14],loops:=[(3,[(5,.one (.slice)),(6,.one (.int .i64))],[])] }) (by rw [show vcFS Tryz.prog W { keep:=some [0,1,4,5,6,14],loops:=[(3,[(5,.one (.slice)),(6,.one (.int .i64))],[])] } F.cell_header #[.int .i64 slot,.string s] R Φ J=Bcell_header slot s W R Φ J by kernel_rfl];exact h) c
def Bdisk_Disk_ends (dB dO:Nat) (W:World) (R:List Own) (Φ:PW) (J:Value→World→Prop):Prop :=
  ∀ w0 R1,Ctx W w0 (R++R1) Φ→∃ c2,w0.cell? (Addr.mk dB (dO+4) none)=some (.bool c2)∧∃ (n3:Int),((!c2)=true→w0.cell? (Addr.mk dB (dO+5) none)=some (.int .i64 n3))∧Br (c2||decide (n3=0)) (∀ w4 R5,Ctx W w4 (R++R5) Φ→J (.bool false) w4) (∀ w6 R7,Ctx W w6 (R++R7) Φ→∃ n8,w6.cell? (Addr.mk dB (dO+5) none)=some (.int .i64 n8)∧I64 (n8 - 1)∧∀ w9 R10,Ctx W w9 (R++R10) Φ→CanWrite w9 dB (dO+5) 1∧∀ (w11:World),w11=w9.setCell (Addr.mk dB (dO+5) none) (Value.int IntKind.i64 (n8 - 1))→∃ R12 Φ13,Stable Φ13∧Ctx W w11 (R12++R10) Φ13∧∀ w14 R15,Ctx W w14 (R12++R15) Φ13→∃ n16,w14.cell? (Addr.mk dB (dO+5) none)=some (.int .i64 n16)∧∀ w17 R18,Ctx W w17 (R12++R18) Φ13→J (.bool (decide (n16=0))) w17)
theorem Bdisk_Disk_ends_run (dB dO:Nat) {W w:World} {R:List Own} {Φ:PW} [Stable Φ] {J:Value→World→Prop} (c:Ctx W w R Φ) (h:Bdisk_Disk_ends dB dO W R Φ J):Calls Tryz.prog F.disk_Disk_ends #[.pointer (some ⟨dB,dO,none⟩)] w fun e w'=>∃ v,e=.returned v∧J v w' :=
  vcFS_sound (H:={ keep:=some [0,2,13] }) (by rw [show vcFS Tryz.prog W { keep:=some [0,2,13] } F.disk_Disk_ends #[.pointer (some ⟨dB,dO,none⟩)] R Φ J=Bdisk_Disk_ends dB dO W R Φ J by kernel_rfl];exact h) c
def Bdisk_Disk_may (dB dO:Nat) (f:Int) (W:World) (R:List Own) (Φ:PW) (J:Value→World→Prop):Prop :=
  ∀ w0 R1,Ctx W w0 (R++R1) Φ→∃ c2,w0.cell? (Addr.mk dB (dO+4) none)=some (.bool c2)∧Br c2 (∀ w3 R4,Ctx W w3 (R++R4) Φ→J (.int .i64 9) w3) (∀ w5 R6,Ctx W w5 (R++R6) Φ→Br (decide (f<0)||decide (16≤f)) (∀ w7 R8,Ctx W w7 (R++R8) Φ→J (.int .i64 1) w7) (∀ w9 R10,Ctx W w9 (R++R10) Φ→J (.int .i64 0) w9))
theorem Bdisk_Disk_may_run (dB dO:Nat) (f:Int) {W w:World} {R:List Own} {Φ:PW} [Stable Φ] {J:Value→World→Prop} (c:Ctx W w R Φ) (h:Bdisk_Disk_may dB dO f W R Φ J):Calls Tryz.prog F.disk_Disk_may #[.pointer (some ⟨dB,dO,none⟩),.int .i64 f] w fun e w'=>∃ v,e=.returned v∧J v w' :=
  vcFS_sound (H:={ keep:=some [0,1,4,5,10] }) (by rw [show vcFS Tryz.prog W { keep:=some [0,1,4,5,10] } F.disk_Disk_may #[.pointer (some ⟨dB,dO,none⟩),.int .i64 f] R Φ J=Bdisk_Disk_may dB dO f W R Φ J by kernel_rfl];exact h) c
def Bdisk_Disk_settle (dB dO:Nat) (f:Int) (s:ByteArray) (W:World) (R:List Own) (Φ:PW) (J:Value→World→Prop):Prop :=
  ∀ (k0:Nat) (w1:World) (R2:List Own),Ctx W w1 (Own.blk k0 [.int .i64 f] 3 :: R++R2) Φ→∃ n3,w1.cell? (Addr.mk k0 0 none)=some (.int .i64 n3)∧∀ w4 R5,Ctx W w4 (Own.blk k0 [.int .i64 f] 3 :: R++R5) Φ→∃ (p6:Option Nat),w4.cell? (Addr.mk dB dO none)=some (Value.map p6)∧∀ w7 R8,Ctx W w7 (Own.blk k0 [.int .i64 f] 3 :: R++R8) Φ→∃ (w9:World),Sem.run Tryz.prog (Instr.mapUpdate 93 (Value.map p6) (Value.int IntKind.i64 n3) (Value.agg #[.string s,.string s])) w7=Result.ok () w9∧∃ R10 Φ11,Stable Φ11∧Ctx W w9 (R10++R8) Φ11∧∀ w12 R13,Ctx W w12 (R10++R13) Φ11→∃ p14 k15 k16,w12.cell? (Addr.mk dB (dO+1) none)=some (.slice p14 k15 k16)∧∀ w17 R18,Ctx W w17 (R10++R18) Φ11→Calls Tryz.prog F.slices_DeleteFunc_disk_sector_disk_sector #[.slice p14 k15 k16,Value.func (Fn.func 165) #[] #[.pointer (some (Addr.mk k0 0 none))]] w17 fun e19 w20=>∃ p21
  k22 k23,e19=.returned (.slice p21 k22 k23)∧∃ R24 Φ25,Stable Φ25∧Ctx W w20 (R24++R18) Φ25∧∀ w26 R27,Ctx W w26 (R24++R27) Φ25→CanWrite w26 dB (dO+1) 1∧∀ (w28:World),w28=w26.setCell (Addr.mk dB (dO+1) none) (Value.slice p21 k22 k23)→∃ R29 Φ30,Stable Φ30∧Ctx W w28 (R29++R27) Φ30∧∀ w31 R32,Ctx W w31 (R29++R32) Φ30→∃ (p33:Option Nat),w31.cell? (Addr.mk dB (dO+2) none)=some (Value.map p33)∧∀ w34 R35,Ctx W w34 (R29++R35) Φ30→Calls Tryz.prog F.maps_DeleteFunc_map_disk_sectorbool_disk_sector_bool #[Value.map p33,Value.func (Fn.func 167) #[] #[.pointer (some (Addr.mk k0 0 none))]] w34 fun e36 w37=>e36=.returned (Value.tuple #[])∧∃ R38 Φ39,Stable Φ39∧Ctx W w37 (R38++R35) Φ39∧∀ w40 R41,Ctx W w40 (R38++R41) Φ39→J (Value.tuple #[]) w40
theorem Bdisk_Disk_settle_run (dB dO:Nat) (f:Int) (s:ByteArray) {W w:World} {R:List Own} {Φ:PW} [Stable Φ] {J:Value→World→Prop} (c:Ctx W w R Φ) (h:Bdisk_Disk_settle dB dO f s W R Φ J):Calls Tryz.prog F.disk_Disk_settle #[.pointer (some ⟨dB,dO,none⟩),.int .i64 f,.string s] w fun e w'=>∃ v,e=.returned v∧J v w' :=
  vcFS_sound (H:={ keep:=some [0,2,4],stages:=[(1,[.stage [0,4,5,6,1,7,2,3] (some 8)])] }) (by rw [show vcFS Tryz.prog W { keep:=some [0,2,4],stages:=[(1,[.stage [0,4,5,6,1,7,2,3] (some 8)])] } F.disk_Disk_settle #[.pointer (some ⟨dB,dO,none⟩),.int .i64 f,.string s] R Φ J=Bdisk_Disk_settle dB dO f s W R Φ J by kernel_rfl];exact h) c
def Bdisk_Disk_write (dB dO:Nat) (f:Int) (atx:Int) (s:ByteArray) (W:World) (R:List Own) (Φ:PW) (J:Value→World→Prop):Prop :=
  ∀ w0 R1,Ctx W w0 (R++R1) Φ→Calls Tryz.prog F.disk_Disk_may #[.pointer (some (Addr.mk dB dO none)),.int .i64 f] w0 fun e2 w3=>∃ n4,e2=.returned (.int .i64 n4)∧∃ R5 Φ6,Stable Φ6∧Ctx W w3 (R5++R1) Φ6∧Br (decide (n4≠0)) (∀ w7 R8,Ctx W w7 (R5++R8) Φ6→J (.int .i64 n4) w7) (Br (decide (atx<0)) (∀ w9 R10,Ctx W w9 (R5++R10) Φ6→J (.int .i64 1) w9) (∀ w11 R12,Ctx W w11 (R5++R12) Φ6→((!decide (16777216<atx))=true→I64 (16777216 - atx))∧Br (decide (16777216<atx)||decide (16777216 - atx<(↑s.size:Int))) (∀ w13 R14,Ctx W w13 (R5++R14) Φ6→J (.int .i64 6) w13) (Br (decide (s=ByteArray.mk #[])) (∀ w15 R16,Ctx W w15 (R5++R16) Φ6→J (.int .i64 0) w15) (∀ w17 R18,Ctx W w17 (R5++R18) Φ6→∃ (p19:Option Nat),w17.cell? (Addr.mk dB dO none)=some (Value.map p19)∧∀ w20 R21,Ctx W w20 (R5++R21) Φ6→∃ (s22 s23:ByteArray),(∀ (w24 :
  World),w24.heap=w20.heap→Sem.run Tryz.prog (Instr.lookup 93 (Value.map p19) (Value.int IntKind.i64 f) false) w24=Result.ok (Value.agg #[.string s22,.string s23]) w24)∧∀ (b:Nat) (w25:World) (R26:List Own),Ctx W w25 (R5++R26) Φ6→Calls Tryz.prog F.disk_put #[.string s22,.int .i64 atx,.string s] w25 fun e27 w28=>∃ s29,e27=.returned (.string s29)∧∃ R30 Φ31,Stable Φ31∧Ctx W w28 (R30++R26) Φ31∧∀ w32 R33,Ctx W w32 (R30++R33) Φ31→∃ (p34:Option Nat),w32.cell? (Addr.mk dB dO none)=some (Value.map p34)∧∀ w35 R36,Ctx W w35 (R30++R36) Φ31→∃ (w37:World),Sem.run Tryz.prog (Instr.mapUpdate 93 (Value.map p34) (Value.int IntKind.i64 f) (Value.agg #[.string s29,.string s23])) w35=Result.ok () w37∧∃ R38 Φ39,Stable Φ39∧Ctx W w37 (R38++R36) Φ39∧((64:Int)=0→False)∧I64 (atx.tdiv 64)∧exI fun (I40:Int→List Own→PW→Nat→Prop) =>
  (∃ R41 Φ42 k43,Stable Φ42∧Wk W R38 Φ39 R41 Φ42∧I40 (atx.tdiv 64) R41 Φ42 k43)∧∀ n46 R47 I48 k49,Stable I48→I40 n46 R47 I48 k49→I64 (atx+(↑s.size:Int))∧I64 (atx+(↑s.size:Int) - 1)∧((64:Int)=0→False)∧I64 ((atx+(↑s.size:Int) - 1).tdiv 64)∧Br (decide (n46≤(atx+(↑s.size:Int) - 1).tdiv 64)) (∀ (k50:Nat) (w51:World) (R52:List Own),Ctx W w51 (Own.blk k50 [.int .i64 0,.int .i64 0] 110 :: R47++R52) I48→CanWrite w51 k50 0 2∧∀ (w53:World),w53=w51.setCells k50 0 [.int .i64 f,.int .i64 n46]→∃ R54 Φ55,Stable Φ55∧Ctx W w53 (R54++R52) Φ55∧∀ w56 R57,Ctx W w56 (R54++R57) Φ55→∃ (p58:Option Nat),w56.cell? (Addr.mk dB (dO+2) none)=some (Value.map p58)∧∃ n59 n60,RowAt w56 k50 0 [.int .i64 n59,.int .i64 n60]∧∃ (c61:Bool),(∀ (w62:World),w62.heap=w56.heap→Sem.run Tryz.prog (Instr.lookup 94 (Value.map p58)
  (Value.agg #[.int .i64 n59,.int .i64 n60]) false) w62=Result.ok (Value.bool c61) w62)∧Br (!c61) (∃ R63 Φ64,Stable Φ64∧Wk W R54 Φ55 R63 Φ64∧∃ R67 Φ68,Stable Φ68∧Wk W R54 Φ55 R67 Φ68∧∃ (n71 n72:Int),(∀ w73 R74,Ctx W w73 (R63++R74) Φ64→∃ n75 n76,RowAt w73 k50 0 [.int .i64 n75,.int .i64 n76]∧Value.agg #[.int .i64 n75,.int .i64 n76]=Value.agg #[.int .i64 n71,.int .i64 n72])∧∃ (n77 n78:Int),(∀ w79 R80,Ctx W w79 (R67++R80) Φ68→∃ n81 n82,RowAt w79 k50 0 [.int .i64 n81,.int .i64 n82]∧Value.agg #[.int .i64 n81,.int .i64 n82]=Value.agg #[.int .i64 n77,.int .i64 n78])∧∃ (p83:Option Nat),(∀ w84 R85,Ctx W w84 (R67++R85) Φ68→∃ (p86:Option Nat),w84.cell? (Addr.mk dB (dO+2) none)=some (Value.map p86)∧Value.map p86=Value.map p83)∧∃ (p87:Option Addr) (k88 k89:Nat),(∀ w90 R91,Ctx W w90 (R67++R91) Φ68→∃ p92 k93 k94,w90.cell?
  (Addr.mk dB (dO+1) none)=some (.slice p92 k93 k94)∧Value.slice p92 k93 k94=Value.slice p87 k88 k89)∧∀ (k95:Nat),Wk W (Own.blk k95 [.int .i64 n77,.int .i64 n78] 110 :: R54) Φ55 (R63) Φ64∧Wk W (Own.blk k95 [.int .i64 n77,.int .i64 n78] 110 :: R54) Φ55 (R67) Φ68∧∀ w100 R101,Ctx W w100 (Own.blk k95 [.int .i64 n77,.int .i64 n78] 110 :: R54++R101) Φ55→∃ (p102:Option Addr) (k103 k104:Nat) (w105:World),Sem.run Tryz.prog (builtin Builtin.append #[95,95] 95 #[false,false] #[.slice p87 k88 k89,.slice (some (Addr.mk k95 0 none)) 1 1]) w100=.ok (.value (.slice p102 k103 k104)) w105∧∃ R106 Φ107,Stable Φ107∧Ctx W w105 (R106++R101) Φ107∧Wk W R106 Φ107 R63 Φ64∧Wk W R106 Φ107 R67 Φ68∧∀ w112 R113,Ctx W w112 (R106++R113) Φ107→CanWrite w112 dB (dO+1) 1∧∀ (w114:World),w114=w112.setCell (Addr.mk dB (dO+1) none) (Value.slice p102 k103 k104)→∃
  R115 Φ116,Stable Φ116∧Ctx W w114 (R115++R113) Φ116∧Wk W R115 Φ116 R63 Φ64∧True∧∀ w119 R120,Ctx W w119 (R115++R120) Φ116→∃ (c121:Bool) (n122:Int) (w123:World),Sem.run Tryz.prog (Instr.mapEntry 94 (Value.map p83) (Value.agg #[.int .i64 n71,.int .i64 n72])) w119=Result.ok (Value.tuple #[.bool c121,.int .i64 n122]) w123∧∃ R124 Φ125,Stable Φ125∧Ctx W w123 (R124++R120) Φ125∧Wk W R124 Φ125 R63 Φ64∧True∧∀ w128 R129,Ctx W w128 (R124++R129) Φ125→∃ (w130:World),Sem.run Tryz.prog (Instr.entryStore 94 (Value.map p83) (Value.int IntKind.i64 n122) (Value.bool true)) w128=Result.ok () w130∧∃ R131 Φ132,Stable Φ132∧Ctx W w130 (R131++R129) Φ132∧Wk W R131 Φ132 R63 Φ64∧True∧I64 (n46+1)∧∃ R135 Φ136 k137,Stable Φ136∧Wk W R131 Φ132 R135 Φ136∧I40 (n46+1) R135 Φ136 k137∧k137<k49) (I64 (n46+1)∧∃ R140 Φ141 k142,Stable Φ141∧Wk W
  R54 Φ55 R140 Φ141∧I40 (n46+1) R140 Φ141 k142∧k142<k49)) (∀ w145 R146,Ctx W w145 (R47++R146) I48→J (.int .i64 0) w145)))))
theorem Bdisk_Disk_write_run (dB dO:Nat) (f:Int) (atx:Int) (s:ByteArray) {W w:World} {R:List Own} {Φ:PW} [Stable Φ] {J:Value→World→Prop} (c:Ctx W w R Φ) (h:Bdisk_Disk_write dB dO f atx s W R Φ J):Calls Tryz.prog F.disk_Disk_write #[.pointer (some ⟨dB,dO,none⟩),.int .i64 f,.int .i64 atx,.string s] w fun e w'=>∃ v,e=.returned v∧J v w' :=
  vcFS_sound (H:={ keep:=some [0,1,2,3,8,9,10,11,12,17,19,22,32,62,74],track:=[10],stages:=[(12,[.stage [0,4,5,1,2,3] (some 6)]),(18,[.late2 [10,4,9] 15 [] [0,1,5,6,10,2,7,3,8,4,9] [(11,[]),(12,[13,14]),(15,[]),(16,[17]),(18,[])]])],loops:=[(14,[(11,.one (.int .i64))],[])] }) (by rw [show vcFS Tryz.prog W { keep:=some [0,1,2,3,8,9,10,11,12,17,19,22,32,62,74],track:=[10],stages:=[(12,[.stage [0,4,5,1,2,3] (some 6)]),(18,[.late2 [10,4,9] 15 [] [0,1,5,6,10,2,7,3,8,4,9] [(11,[]),(12,[13,14]),(15,[]),(16,[17]),(18,[])]])],loops:=[(14,[(11,.one (.int .i64))],[])] } F.disk_Disk_write #[.pointer (some ⟨dB,dO,none⟩),.int .i64 f,.int .i64 atx,.string s] R Φ J=Bdisk_Disk_write dB dO f atx s W R Φ J by kernel_rfl];exact h) c
def Bslices_DeleteFunc_disk_sector_disk_sector (sP:Option Addr) (sN sC:Nat) (delF:FuncId) (delC:Array Value) (W:World) (R:List Own) (Φ:PW) (J:Value→World→Prop):Prop :=
  ∀ w0 R1,Ctx W w0 (R++R1) Φ→Calls Tryz.prog F.slices_IndexFunc_disk_sector_disk_sector #[.slice sP sN sC,Value.func (Fn.func delF) #[] delC] w0 fun e2 w3=>∃ n4,e2=.returned (.int .i64 n4)∧∃ R5 Φ6,Stable Φ6∧Ctx W w3 (R5++R1) Φ6∧Br (decide (n4 = -1)) (∀ w7 R8,Ctx W w7 (R5++R8) Φ6→J (.slice sP sN sC) w7) (I64 (n4+1)∧exI fun (I9:Int→Int→List Own→PW→Nat→Prop)=>(∃ R10 Φ11 k12,Stable Φ11∧Wk W R5 Φ6 R10 Φ11∧I9 n4 (n4+1) R10 Φ11 k12)∧∀ n15 n16 R17 I18 k19,Stable I18→I9 n15 n16 R17 I18 k19→Br (decide (n16<(↑sN:Int))) ((0≤n16∧n16<(↑sN:Int))∧ptrK none sP fun k20 k21=>∀ w22 R23,Ctx W w22 (R17++R23) I18→∃ n24 n25,RowAt w22 k20 (k21+n16.toNat*2) [.int .i64 n24,.int .i64 n25]∧∀ (b:Nat) (w26:World) (R27:List Own),Ctx W w26 (R17++R27) I18→okFun Tryz.prog delF=true∧Calls Tryz.prog delF (Array.mk (Value.agg
  #[.int .i64 n24,.int .i64 n25] :: delC.toList)) w26 fun e28 w29=>∃ c30,e28=.returned (.bool c30)∧∃ R31 Φ32,Stable Φ32∧Ctx W w29 (R31++R27) Φ32∧Br (!c30) ((0≤n15∧n15<(↑sN:Int))∧ptrK none sP fun k33 k34=>∀ w35 R36,Ctx W w35 (R31++R36) Φ32→CanWrite w35 k33 (k34+n15.toNat*2) 2∧∀ (w37:World),w37=w35.setCells k33 (k34+n15.toNat*2) [.int .i64 n24,.int .i64 n25]→∃ R38 Φ39,Stable Φ39∧Ctx W w37 (R38++R36) Φ39∧I64 (n15+1)∧I64 (n16+1)∧∃ R40 Φ41 k42,Stable Φ41∧Wk W R38 Φ39 R40 Φ41∧I9 (n15+1) (n16+1) R40 Φ41 k42∧k42<k19) (I64 (n16+1)∧∃ R45 Φ46 k47,Stable Φ46∧Wk W R31 Φ32 R45 Φ46∧I9 n15 (n16+1) R45 Φ46 k47∧k47<k19)) ((0≤n15∧n15≤(↑sN:Int)∧sN≤sC)∧∀ w50 R51,Ctx W w50 (R17++R51) I18→∃ (w52:World),Sem.run Tryz.prog (builtin Builtin.clear #[95] 0 #[false] #[.slice (subPtr sP 2 n15.toNat sC) (sN
  - n15.toNat) (sC - n15.toNat)]) w50=.ok (.value (Value.tuple #[])) w52∧∃ R53 Φ54,Stable Φ54∧Ctx W w52 (R53++R51) Φ54∧(0≤n15∧n15≤(↑sC:Int))∧∀ w55 R56,Ctx W w55 (R53++R56) Φ54→J (.slice (subPtr sP 2 0 sC) n15.toNat sC) w55))
theorem Bslices_DeleteFunc_disk_sector_disk_sector_run (sP:Option Addr) (sN sC:Nat) (delF:FuncId) (delC:Array Value) {W w:World} {R:List Own} {Φ:PW} [Stable Φ] {J:Value→World→Prop} (c:Ctx W w R Φ) (h:Bslices_DeleteFunc_disk_sector_disk_sector sP sN sC delF delC W R Φ J):Calls Tryz.prog F.slices_DeleteFunc_disk_sector_disk_sector #[.slice sP sN sC,.func (.func delF) #[] delC] w fun e w'=>∃ v,e=.returned v∧J v w' :=
  vcFS_sound (H:={ keep:=some [0,1,4,5,6,7,12,19,29],wrap:=[28],track:=[7],loops:=[(5,[(5,.one (.int .i64)),(6,.one (.int .i64))],[])] }) (by rw [show vcFS Tryz.prog W { keep:=some [0,1,4,5,6,7,12,19,29],wrap:=[28],track:=[7],loops:=[(5,[(5,.one (.int .i64)),(6,.one (.int .i64))],[])] } F.slices_DeleteFunc_disk_sector_disk_sector #[.slice sP sN sC,.func (.func delF) #[] delC] R Φ J=Bslices_DeleteFunc_disk_sector_disk_sector sP sN sC delF delC W R Φ J by kernel_rfl];exact h) c
def Bdisk_Disk_settle_1 (p0 p1:Int) (kB kO:Nat) (W:World) (R:List Own) (Φ:PW) (J:Value→World→Prop):Prop :=
  ∀ (b:Nat) (w0:World) (R1:List Own),Ctx W w0 (R++R1) Φ→∃ n2,w0.cell? (Addr.mk kB kO none)=some (.int .i64 n2)∧∀ w3 R4,Ctx W w3 (R++R4) Φ→J (.bool (decide (p0=n2))) w3
theorem Bdisk_Disk_settle_1_run (p0 p1:Int) (kB kO:Nat) {W w:World} {R:List Own} {Φ:PW} [Stable Φ] {J:Value→World→Prop} (c:Ctx W w R Φ) (h:Bdisk_Disk_settle_1 p0 p1 kB kO W R Φ J):Calls Tryz.prog F.disk_Disk_settle_1 #[.agg #[.int .i64 p0,.int .i64 p1],.pointer (some ⟨kB,kO,none⟩)] w fun e w'=>∃ v,e=.returned v∧J v w' :=
  vcFS_sound (H:={ keep:=some [1,2,3],track:=[2] }) (by rw [show vcFS Tryz.prog W { keep:=some [1,2,3],track:=[2] } F.disk_Disk_settle_1 #[.agg #[.int .i64 p0,.int .i64 p1],.pointer (some ⟨kB,kO,none⟩)] R Φ J=Bdisk_Disk_settle_1 p0 p1 kB kO W R Φ J by kernel_rfl];exact h) c
def Bmaps_DeleteFunc_map_disk_sectorbool_disk_sector_bool (m:Option Nat) (delF:FuncId) (delC:Array Value) (W:World) (R:List Own) (Φ:PW) (J:Value→World→Prop):Prop :=
  ∀ w0 R1,Ctx W w0 (R++R1) Φ→∃ (p2:Option Addr) (w3:World),Sem.run Tryz.prog (Instr.range 94 (Value.map m)) w0=Result.ok (Value.pointer p2) w3∧∃ R4 Φ5,Stable Φ5∧Ctx W w3 (R4++R1) Φ5∧exI fun (I6:List Own→PW→Nat→Prop)=>(∃ R7 Φ8 k9,Stable Φ8∧Wk W R4 Φ5 R7 Φ8∧I6 R7 Φ8 k9)∧∀ R12 I13 k14,Stable I13→I6 R12 I13 k14→∀ w15 R16,Ctx W w15 (R12++R16) I13→(∃ (w17:World),Sem.run Tryz.prog (Instr.next (Value.pointer p2) false 0) w15=Result.ok (Value.tuple #[.bool false]) w17∧∃ R18 Φ19,Stable Φ19∧Ctx W w17 (R18++R16) Φ19∧∀ w20 R21,Ctx W w20 (R18++R21) Φ19→J (Value.tuple #[]) w20)∨∃ (v22 v23:Value) (w24:World),Sem.run Tryz.prog (Instr.next (Value.pointer p2) false 0) w15=Result.ok (Value.tuple #[.bool true,v22,v23]) w24∧∃ R25 Φ26,Stable Φ26∧Ctx W w24 (R25++R16) Φ26∧∀ w27 R28,Ctx W w27 (R25++R28) Φ26→∃ (n29 n30 :
  Int) (c31:Bool) (w32:World),Sem.run Tryz.prog (Instr.entry (Value.pointer p2)) w27=Result.ok (Value.tuple #[Value.agg #[.int .i64 n29,.int .i64 n30],Value.bool c31]) w32∧∃ R33 Φ34,Stable Φ34∧Ctx W w32 (R33++R28) Φ34∧∀ (b:Nat) (w35:World) (R36:List Own),Ctx W w35 (R33++R36) Φ34→okFun Tryz.prog delF=true∧Calls Tryz.prog delF (Array.mk (Value.agg #[.int .i64 n29,.int .i64 n30] :: Value.bool c31 :: delC.toList)) w35 fun e37 w38=>∃ c39,e37=.returned (.bool c39)∧∃ R40 Φ41,Stable Φ41∧Ctx W w38 (R40++R36) Φ41∧Br c39 (∀ w42 R43,Ctx W w42 (R40++R43) Φ41→∃ (w44:World),Sem.run Tryz.prog (builtin Builtin.delete #[94,110] 0 #[false,false] #[Value.map m,Value.agg #[.int .i64 n29,.int .i64 n30]]) w42=.ok (.value (Value.tuple #[])) w44∧∃ R45 Φ46,Stable Φ46∧Ctx W w44 (R45++R43) Φ46∧∃ R47 Φ48 k49,Stable Φ48∧Wk W R45 Φ46 R47 Φ48∧I6
  R47 Φ48 k49∧k49<k14) (∃ R52 Φ53 k54,Stable Φ53∧Wk W R40 Φ41 R52 Φ53∧I6 R52 Φ53 k54∧k54<k14)
theorem Bmaps_DeleteFunc_map_disk_sectorbool_disk_sector_bool_run (m:Option Nat) (delF:FuncId) (delC:Array Value) {W w:World} {R:List Own} {Φ:PW} [Stable Φ] {J:Value→World→Prop} (c:Ctx W w R Φ) (h:Bmaps_DeleteFunc_map_disk_sectorbool_disk_sector_bool m delF delC W R Φ J):Calls Tryz.prog F.maps_DeleteFunc_map_disk_sectorbool_disk_sector_bool #[.map m,.func (.func delF) #[] delC] w fun e w'=>∃ v,e=.returned v∧J v w' :=
  vcFS_sound (H:={ keep:=some [0,1,4,5,7,9,16],wrap:=[16],track:=[4],loops:=[(1,[],[])] }) (by rw [show vcFS Tryz.prog W { keep:=some [0,1,4,5,7,9,16],wrap:=[16],track:=[4],loops:=[(1,[],[])] } F.maps_DeleteFunc_map_disk_sectorbool_disk_sector_bool #[.map m,.func (.func delF) #[] delC] R Φ J=Bmaps_DeleteFunc_map_disk_sectorbool_disk_sector_bool m delF delC W R Φ J by kernel_rfl];exact h) c
def Bdisk_Disk_settle_2 (p0 p1:Int) (x:Bool) (kB kO:Nat) (W:World) (R:List Own) (Φ:PW) (J:Value→World→Prop):Prop :=
  ∀ (b:Nat) (w0:World) (R1:List Own),Ctx W w0 (R++R1) Φ→∃ n2,w0.cell? (Addr.mk kB kO none)=some (.int .i64 n2)∧∀ w3 R4,Ctx W w3 (R++R4) Φ→J (.bool (decide (p0=n2))) w3
theorem Bdisk_Disk_settle_2_run (p0 p1:Int) (x:Bool) (kB kO:Nat) {W w:World} {R:List Own} {Φ:PW} [Stable Φ] {J:Value→World→Prop} (c:Ctx W w R Φ) (h:Bdisk_Disk_settle_2 p0 p1 x kB kO W R Φ J):Calls Tryz.prog F.disk_Disk_settle_2 #[.agg #[.int .i64 p0,.int .i64 p1],.bool x,.pointer (some ⟨kB,kO,none⟩)] w fun e w'=>∃ v,e=.returned v∧J v w' :=
  vcFS_sound (H:={ keep:=some [2,3,5],track:=[3] }) (by rw [show vcFS Tryz.prog W { keep:=some [2,3,5],track:=[3] } F.disk_Disk_settle_2 #[.agg #[.int .i64 p0,.int .i64 p1],.bool x,.pointer (some ⟨kB,kO,none⟩)] R Φ J=Bdisk_Disk_settle_2 p0 p1 x kB kO W R Φ J by kernel_rfl];exact h) c
def Bslices_IndexFunc_disk_sector_disk_sector (sP:Option Addr) (sN sC:Nat) (fF:FuncId) (fC:Array Value) (W:World) (R:List Own) (Φ:PW) (J:Value→World→Prop):Prop :=
  exI fun (I0:Int→List Own→PW→Nat→Prop)=>(∃ R1 Φ2 k3,Stable Φ2∧Wk W R Φ R1 Φ2∧I0 0 R1 Φ2 k3)∧∀ n6 R7 I8 k9,Stable I8→I0 n6 R7 I8 k9→Br (decide (n6<(↑sN:Int))) ((0≤n6∧n6<(↑sN:Int))∧ptrK none sP fun k10 k11=>∀ w12 R13,Ctx W w12 (R7++R13) I8→∃ n14 n15,RowAt w12 k10 (k11+n6.toNat*2) [.int .i64 n14,.int .i64 n15]∧∀ w16 R17,Ctx W w16 (R7++R17) I8→okFun Tryz.prog fF=true∧Calls Tryz.prog fF (Array.mk (Value.agg #[.int .i64 n14,.int .i64 n15] :: fC.toList)) w16 fun e18 w19=>∃ c20,e18=.returned (.bool c20)∧∃ R21 Φ22,Stable Φ22∧Ctx W w19 (R21++R17) Φ22∧Br c20 (∀ w23 R24,Ctx W w23 (R21++R24) Φ22→J (.int .i64 n6) w23) (I64 (n6+1)∧∃ R25 Φ26 k27,Stable Φ26∧Wk W R21 Φ22 R25 Φ26∧I0 (n6+1) R25 Φ26 k27∧k27<k9)) (∀ w30 R31,Ctx W w30 (R7++R31) I8→J (.int .i64 (-1)) w30)
theorem Bslices_IndexFunc_disk_sector_disk_sector_run (sP:Option Addr) (sN sC:Nat) (fF:FuncId) (fC:Array Value) {W w:World} {R:List Own} {Φ:PW} [Stable Φ] {J:Value→World→Prop} (c:Ctx W w R Φ) (h:Bslices_IndexFunc_disk_sector_disk_sector sP sN sC fF fC W R Φ J):Calls Tryz.prog F.slices_IndexFunc_disk_sector_disk_sector #[.slice sP sN sC,.func (.func fF) #[] fC] w fun e w'=>∃ v,e=.returned v∧J v w' :=
  vcFS_sound (H:={ keep:=some [0,1,4,5,7,8,9,16],wrap:=[16],loops:=[(2,[(8,.one (.int .i64))],[])] }) (by rw [show vcFS Tryz.prog W { keep:=some [0,1,4,5,7,8,9,16],wrap:=[16],loops:=[(2,[(8,.one (.int .i64))],[])] } F.slices_IndexFunc_disk_sector_disk_sector #[.slice sP sN sC,.func (.func fF) #[] fC] R Φ J=Bslices_IndexFunc_disk_sector_disk_sector sP sN sC fF fC W R Φ J by kernel_rfl];exact h) c
end Go.Proofs.YtfccagphnfceiaaGreatDoor
end

section
namespace Go.Proofs.YtfccagphnfceiaaGreatDoor
open Go.Vc
theorem bytesLess_cmp:∀ a b:List UInt8,Op.bytesLess a b=decide (Lib.compareBytes a b<0)
  | [],[]=>by simp [Op.bytesLess,Lib.compareBytes]
  | [],_ :: _=>by simp [Op.bytesLess,Lib.compareBytes]
  | _ :: _,[]=>by simp [Op.bytesLess,Lib.compareBytes]
  | a :: ar,b :: br=>by
    unfold Op.bytesLess Lib.compareBytes
    rw [bytesLess_cmp ar br]
    by_cases h1:a<b
    · simp [h1]
    · by_cases h2:b<a
      · rw [if_neg h1,if_pos h2]
        have:a≠b:=fun e=>by subst e;exact h1 h2
        simp [h1,this]
      · have:a=b:=by
          have h1':¬ a.toNat<b.toNat:=h1
          have h2':¬ b.toNat<a.toNat:=h2
          exact UInt8.toNat_inj.1 (by omega)
        rw [if_neg h1,if_neg h2]
        simp [this]
theorem compareBytes_zero (a b:List UInt8):Lib.compareBytes a b=0 ↔ a=b:=bytes_cmp.eq a b
theorem compareBytes_bd (a b:List UInt8) : -1≤Lib.compareBytes a b∧Lib.compareBytes a b≤1:=bytes_cmp.bd a b
theorem cmpT_less (a b:ByteArray):Op.bytesLess a.toList b.toList=decide (cmpT a b<0):=by rw [bytesLess_cmp,Lib.toList_data,Lib.toList_data];rfl
theorem cmpT_gtr (a b:ByteArray):(!(Op.bytesLess a.toList b.toList||a.toList == b.toList))=decide (0<cmpT a b):=by
  rw [cmpT_less]
  have h2:(a.toList == b.toList)=decide (cmpT a b=0):=by
    rw [Bool.eq_iff_iff,beq_iff_eq,decide_eq_true_eq]
    unfold cmpT
    rw [compareBytes_zero,Lib.toList_data,Lib.toList_data]
  rw [h2]
  by_cases h:cmpT a b<0
  · simp [h];omega
  · by_cases h':cmpT a b=0
    · simp [h']
    · rw [decide_eq_false h,decide_eq_false h',decide_eq_true (show 0<cmpT a b by omega)];rfl
theorem orI_cons (x:Int) (r:List Int):orI (x :: r)=if x≠0 then x else orI r:=rfl
theorem rcmpV_g (x y:ValD):Gives Tryz.prog F.errataref03_Compare #[x.v,y.v] (.int .i64 (cmpV x y)):=by
  refine gives_of (Berrataref03_Compare_run x.kind x.num x.text y.kind y.num y.text) fun W R Φ _=>?_
  have h3:=compareBytes_bd x.text.data.toList y.text.data.toList
  unfold cmpV cmpL
  rw [orI_cons,orI_cons,orI_cons]
  refine fun _ _=>Br.intro (fun h=>fun w G c=>⟨?_,c.left⟩) (fun h=>Br.intro (fun h2=>fun w G c=>⟨?_,c.left⟩) (fun h2=>Br.intro (fun h3=>fun w G c=>⟨?_,c.left⟩) (fun h3=>Br.intro (fun h4=>fun w G c=>⟨?_,c.left⟩) (fun h4=>Br.intro (fun h5=>fun w G c=>⟨?_,c.left⟩) (fun h5=>⟨_,fun w=>by rw [binOp_string_gtr];rfl,Br.intro (fun h6=>fun w G c=>⟨?_,c.left⟩) (fun h6=>fun w G c=>⟨?_,c.left⟩)⟩)))))
  · have h:=of_decide_eq_true h
    have:cmpI x.kind y.kind = -1:=by unfold cmpI;rw [if_pos h]
    rw [this];rfl
  all_goals have h:=of_decide_eq_false h
  · have h2:=of_decide_eq_true h2
    have:cmpI x.kind y.kind=1:=by unfold cmpI;rw [if_neg h,if_pos h2]
    rw [this];rfl
  all_goals have h2:=of_decide_eq_false h2
  all_goals have e1:cmpI x.kind y.kind=0:=by unfold cmpI;rw [if_neg h,if_neg h2]
  all_goals rw [e1]
  · have h3:=of_decide_eq_true h3
    have:cmpI x.num y.num = -1:=by unfold cmpI;rw [if_pos h3]
    rw [this];rfl
  all_goals have h3:=of_decide_eq_false h3
  · have h4:=of_decide_eq_true h4
    have:cmpI x.num y.num=1:=by unfold cmpI;rw [if_neg h3,if_pos h4]
    rw [this];rfl
  all_goals have h4:=of_decide_eq_false h4
  all_goals have e2:cmpI x.num y.num=0:=by unfold cmpI;rw [if_neg h3,if_neg h4]
  all_goals rw [e2]
  · have h5:Op.bytesLess x.text.toList y.text.toList=true:=h5
    rw [cmpT_less] at h5
    have h5:=of_decide_eq_true h5
    have:cmpT x.text y.text = -1:=by have : -1≤cmpT x.text y.text:=(compareBytes_bd _ _).1;omega
    rw [this];rfl
  all_goals have h5:Op.bytesLess x.text.toList y.text.toList=false:=h5
  all_goals rw [cmpT_less] at h5
  all_goals have h5:=of_decide_eq_false h5
  · rw [cmpT_gtr] at h6
    have h6:=of_decide_eq_true h6
    have:cmpT x.text y.text=1:=by have:cmpT x.text y.text≤1:=(compareBytes_bd _ _).2;omega
    rw [this];rfl
  · rw [cmpT_gtr] at h6
    have h6:=of_decide_eq_false h6
    have:cmpT x.text y.text=0:=by omega
    rw [this];rfl
theorem cmpR_nil {l r:List ValD} {i:Nat} (h:l.length≤i) (hr:r.length≤i):cmpR (l.drop i) (r.drop i)=0:=by
  rw [List.drop_of_length_le h,List.drop_of_length_le hr];rfl
theorem cmpR_right {l r:List ValD} {i:Nat} (hi:l.length≤i) (hr:i<r.length):cmpR (l.drop i) (r.drop i) = -1:=by
  rw [List.drop_eq_getElem_cons hr,List.drop_of_length_le hi];rfl
theorem rCompareRows_in {Φ:PW} [Stable Φ] (p q:Option Addr) (cap cap2:Nat) (l r:List ValD) (hΦ:∀ M w,Φ M w→Sl M w p l) (hΨ:∀ M w,Φ M w→Sl M w q r) (hlen:l.length≤9223372036854775807) :
    GivesIn Φ Tryz.prog F.errataref03_CompareRows #[.slice p l.length cap,.slice q r.length cap2] (.int .i64 (cmpR l r)):=by
  refine .there (fun M w h=>(hΦ M w h).there) fun hth=>.there (fun M w h=>(hΨ M w h).there) fun hth2=>?_
  refine gives_in (Berrataref03_CompareRows_run p l.length cap q r.length cap2) fun W R=>?_
  refine exI_mk (fun n R' Φ' k=>∃ i:Nat,n=i∧i≤l.length∧i≤r.length∧R'=R∧Φ'=Φ∧k=l.length - i∧cmpR l r=cmpR (l.drop i) (r.drop i)) ⟨⟨R,Φ,_,inferInstance,fun w F c=>c,0,rfl,Nat.zero_le _,Nat.zero_le _,rfl,rfl,rfl,rfl⟩,?_⟩
  rintro n R1 Φ1 k _ ⟨i,rfl,hi,hr,rfl,rfl,rfl,hcm⟩
  refine fun w G cx=>Br.intro (fun hlt=>?_) (fun hge=>?_)
  · rw [Bool.and_eq_true] at hlt
    have hl:i<l.length:=by have:=of_decide_eq_true hlt.1;omega
    have hr2:i<r.length:=by have:=of_decide_eq_true hlt.2;omega
    obtain ⟨b,o,rfl⟩:=hth (by omega)
    obtain ⟨b2,o2,rfl⟩:=hth2 (by omega)
    rw [cmpR_both hl hr2] at hcm
    refine ⟨R1,Φ1,inferInstance,fun _ _ c=>c,by omega,ptrK_intro b o rfl ⟨by omega,ptrK_intro b2 o2 rfl ⟨l[i].kind,l[i].num,l[i].text,fun w G cx=>⟨_,_,_,sl_val (hΦ _ _ cx.phi) hl,rfl⟩,r[i].kind,r[i].num,r[i].text,fun w G cx=>⟨_,_,_,sl_val (hΨ _ _ cx.phi) hr2,rfl⟩,fun w G cx=>(rcmpV_g l[i] r[i]).use cx fun w cx=>⟨_,rfl,R1,Φ1,inferInstance,cx,
      Br.intro (fun hn=>fun w F cx=>⟨?_,cx.left⟩) (fun hn=>⟨by unfold I64;omega,R1,Φ1,l.length - (i+1),inferInstance,fun w F c=>c,⟨i+1,rfl,hl,hr2,rfl,rfl,rfl,?_⟩,by omega⟩)⟩⟩⟩⟩
    · have hn:cmpV l[i] r[i]≠0:=by simpa using hn
      rw [hcm,if_pos hn]
    · have hn:¬ cmpV l[i] r[i]≠0:=by simpa using hn
      rw [hcm,if_neg hn]
  · have hge:l.length≤i∨r.length≤i:=by
      rw [Bool.and_eq_false_iff] at hge
      rcases hge with h|h
      · left;have:=of_decide_eq_false h;omega
      · right;have:=of_decide_eq_false h;omega
    refine Br.intro (fun h=>fun w G cx=>⟨?_,cx.left⟩) (fun h=>Br.intro (fun h2=>fun w G cx=>⟨?_,cx.left⟩) (fun h2=>fun w G cx=>⟨?_,cx.left⟩))
    · have h:=of_decide_eq_true h
      rw [hcm,cmpR_right (by omega) (by omega)]
    · have h2:=of_decide_eq_true h2
      rw [hcm,cmpR_left (by omega) (by omega)]
    · have h:=of_decide_eq_false h
      have h2:=of_decide_eq_false h2
      rw [hcm,cmpR_nil (by omega) (by omega)]
end Go.Proofs.YtfccagphnfceiaaGreatDoor
end

section
namespace Go.Proofs.YtfccagphnfceiaaGreatDoor
open Go.Vc
def findI {α:Type} (p:α→Bool):Nat→List α→Int
  | _,[] => -1
  | i,x :: r=>if p x=true then (i:Int) else findI p (i+1) r
theorem findI_drop {α:Type} (p:α→Bool) (l:List α) (i:Nat) (hi:i<l.length):findI p i (l.drop i)=if p l[i]=true then (i:Int) else findI p (i+1) (l.drop (i+1)):=by
  rw [List.drop_eq_getElem_cons hi];rfl
theorem findI_any {α:Type} (p:α→Bool):∀ (l:List α) (i:Nat),decide (0≤findI p i l)=l.any p
  | [],_=>rfl
  | x :: r,i=>by
    unfold findI
    rw [List.any_cons]
    cases h:p x with
    | true=>simp
    | false=>simp only [Bool.false_or];rw [if_neg (by simp)];exact findI_any p r (i+1)
end Go.Proofs.YtfccagphnfceiaaGreatDoor
end

section
namespace Go.Vc
section
variable {P:Program} {W w w':World} {S F:List Own} {Φ Ψ:PW}
end
end Go.Vc
namespace Go.Proofs.YtfccagphnfceiaaGreatDoor
open Go.Vc
end Go.Proofs.YtfccagphnfceiaaGreatDoor
end

section
namespace Go.Proofs.YtfccagphnfceiaaGreatDoor
open Go.Vc
def consAt (l:List DeltaD) (j:Nat):Bool:=match l[j]? with
  | none=>false
  | some y=>decide (y.n≠0)&&match j with
    | 0=>true
    | i+1=>match l[i]? with
      | none=>false
      | some x=>decide (cmpD x y<0)
def consolidated (l:List DeltaD):Bool:=(List.range l.length).all fun j=>consAt l j
end Go.Proofs.YtfccagphnfceiaaGreatDoor
end

section
namespace Go.Proofs.YtfccagphnfceiaaGreatDoor
open Go.Vc
theorem Ctx.cells {W w:World} {S:List Own} {Φ:PW} {g o:Nat} {cs:List (List Value)} {l:List DeltaD} (c:Ctx W w S Φ) (h:∀ M w,Φ M w→Pin g o cs l M w) :
    ∀ j,(hj:j<l.length)→∃ p c,cs.getD j []=l[j].cells p c∧l[j].row.length≤c∧c≤maxLen∧I64 l[j].time∧I64 l[j].n:=fun j hj=>by
  obtain ⟨p,q,h1,h2,h3,h4,h5,_⟩:=pin_delta (h _ _ c.phi) hj
  exact ⟨p,q,h1,h2,h3,h4,h5⟩
end Go.Proofs.YtfccagphnfceiaaGreatDoor
end

section
namespace Go.Proofs.YtfccagphnfceiaaGreatDoor
open Go.Vc
def dz (x:DeltaD):DE:=⟨x,none,0⟩
theorem dz_d (s:List DeltaD):(s.map dz).map DE.d=s:=by
  rw [List.map_map]
  exact List.map_id s
abbrev CO (l s outs:List DeltaD) (i:Nat):Prop:=COuter l (s.map dz) (outs.map dz) i
theorem CO.step {l s outs:List DeltaD} {i:Nat} (h:CO l s outs i) {X:DeltaD} (hX:X∈s.drop i) {j:Nat} (hij:i+j≤s.length) (hj:1≤j) (hk:∀ y∈(s.drop i).take j,y.key=X.key) {N:Int} (hN:N=findP ((s.drop i).take j) X.key)
    (hgt:∀ y∈s.drop (i+j),cmpK X.key y.key<0):(N=0→CO l s outs (i+j))∧(N≠0→CO l s (outs++[⟨X.time,X.row,N⟩]) (i+j)):=by
  have h1:=COuter.step h (X:=dz X) (by rw [←List.map_drop];exact List.mem_map_of_mem hX) (j:=j) (by rw [List.length_map];exact hij) hj
    (fun y hy=>by rw [←List.map_drop,←List.map_take] at hy;obtain ⟨z,hz,rfl⟩:=List.mem_map.1 hy;exact hk z hz) (N:=N) (by rw [←List.map_drop,←List.map_take,dz_d];exact hN)
    (fun y hy=>by rw [←List.map_drop] at hy;obtain ⟨z,hz,rfl⟩:=List.mem_map.1 hy;exact hgt z hz)
  refine ⟨h1.1,fun h0=>?_⟩
  have:=h1.2 h0 none 0
  unfold CO
  rw [List.map_append]
  exact this
theorem CO.end {l s outs:List DeltaD} (h:CO l s outs s.length):consP l=outs:=by
  have h1:=h.norm
  have h2:=h.find
  rw [dz_d] at h1 h2
  refine consP_is h1 fun k=>?_
  have:=h2 k
  rwa [←List.map_drop,List.drop_length,List.map_nil,List.map_nil,List.append_nil] at this
theorem CO.few {l s outs:List DeltaD} {i:Nat} (h:CO l s outs i):outs.length≤i:=by
  have:=COuter.few h
  rwa [List.length_map] at this
end Go.Proofs.YtfccagphnfceiaaGreatDoor
end

section
namespace Go.Proofs.YtfccagphnfceiaaGreatDoor
open Go.Vc
section
variable {Φ:PW} {q:LP} {st:LedD} {W w:World} {R S G:List Own} {p:Option Addr} {cap:Nat} {l:List LineD} {cs:List Value}
theorem src_sl (src:Src S Φ p l cs) {i:Nat} (hi:i<l.length) {r:Option Addr} {rc:Nat} (he:(cs.drop (i*7)).take 7=l[i].cells r rc) {M:List Nat} (h:Φ M w):Sl M w r l[i].row:=by
  have:=(src.el M w h).2 i hi
  rw [show (Gv.ty LineD).size=7 from rfl,he] at this
  exact line_row this
end
end Go.Proofs.YtfccagphnfceiaaGreatDoor
end

section
namespace Go.Proofs.YtfccagphnfceiaaGreatDoor
open Go.Vc
theorem vInt_g (n:Int):Gives Tryz.prog F.value_Int #[.int .i64 n] (.agg #[.int .i64 0,.int .i64 n,.string (ByteArray.mk #[])]) :=
  gives_of (Bvalue_Int_run n) fun W R Φ _=>fun _ w G c=>⟨rfl,c.left⟩
theorem vText_g (s:ByteArray):Gives Tryz.prog F.value_Text #[.string s] (.agg #[.int .i64 1,.int .i64 0,.string s]) :=
  gives_of (Bvalue_Text_run s) fun W R Φ _=>fun _ w G c=>⟨rfl,c.left⟩
theorem vBool_g (b:Bool):Gives Tryz.prog F.value_Bool #[.bool b] (.agg #[.int .i64 2,.int .i64 (if b=true then 1 else 0),.string (ByteArray.mk #[])]) :=
  gives_of (Bvalue_Bool_run b) fun W R Φ _=>fun _=>Br.intro (fun h=>fun w G c=>⟨by rw [if_pos h],c.left⟩) (fun h=>fun w G c=>⟨by rw [if_neg (by rw [h];simp)],c.left⟩)
theorem vRight_g (x:ValD):Gives Tryz.prog F.value_Right #[x.v] (.bool (rightV3 x)):=by
  refine gives_of (Bvalue_Right_run x.kind x.num x.text) fun W R Φ _=>fun _=>Br.intro (fun h=>?_) (fun h=>Br.intro (fun h2=>?_) (fun h2=>?_))
  · refine ⟨R,Φ,inferInstance,fun w G c=>c,fun w G cx=>(vInt_g x.num).use cx fun w c=>⟨0,x.num,ByteArray.mk #[],rfl,R,Φ,inferInstance,c,fun w G c=>c,by kernel_rfl,fun w G c=>⟨?_,c.left⟩⟩⟩
    have h:=of_decide_eq_true h
    unfold rightV3
    rw [if_pos h,decide_eq_true h,decide_eq_true rfl,Bool.true_and,Bool.true_and,Bool.and_true]
  · refine ⟨R,Φ,inferInstance,fun w G c=>c,fun w G cx=>(vText_g x.text).use cx fun w c=>⟨1,0,x.text,rfl,R,Φ,inferInstance,c,fun w G c=>c,by kernel_rfl,?_⟩⟩
    have h:=of_decide_eq_false h
    have h2:=of_decide_eq_true h2
    refine Br.intro (fun h3=>fun w G c=>⟨?_,c.left⟩) (fun h3=>fun w G c=>⟨?_,c.left⟩)
    · unfold rightV3
      rw [if_neg h,if_pos h2]
      have:x.num=0:=by simp at h3;exact h3.2
      rw [decide_eq_true this,Bool.true_and]
    · unfold rightV3
      rw [if_neg h,if_pos h2]
      have:x.num≠0:=by
        intro e
        rw [decide_eq_true h2,decide_eq_true e,decide_eq_true rfl] at h3
        cases h3
      rw [decide_eq_false this,Bool.false_and]
  · have h:=of_decide_eq_false h
    have h2:=of_decide_eq_false h2
    have hr:rightV3 x=(decide (x.kind=2)&&(decide (x.num=0)||decide (x.num=1))&&decide (x.text=ByteArray.mk #[])):=by unfold rightV3;rw [if_neg h,if_neg h2]
    refine ⟨R,Φ,inferInstance,fun w G c=>c,fun w G cx=>(vBool_g false).use cx fun w c=>⟨2,0,ByteArray.mk #[],rfl,R,Φ,inferInstance,c,fun w G c=>c,R,Φ,inferInstance,fun w G c=>c,by kernel_rfl,?_⟩⟩
    refine Br.intro (fun h3=>fun w G c=>⟨?_,c.left⟩) (fun h3=>fun w G cx=>(vBool_g true).use cx fun w c=>⟨2,1,ByteArray.mk #[],rfl,R,Φ,inferInstance,c,fun w G c=>c,by kernel_rfl,fun w G c=>⟨?_,c.left⟩⟩)
    · rw [hr]
      simp at h3
      simp [h3]
    · rw [hr]
      congr 1
      by_cases k1:x.kind=2
      · by_cases k2:x.text=ByteArray.mk #[]
        · by_cases k3:x.num=0
          · rw [k1,k2,k3] at h3
            simp at h3
          · simp [k1,k2,k3]
        · simp [k2]
      · simp [k1]
section
variable {Φ:PW} {q:LP} {st:LedD} {W w:World} {R S G:List Own} {p:Option Addr} {cap:Nat} {r:List ValD}
theorem all1_g (x:ValD):Gives Tryz.prog F.value_all_1 #[x.v] (.bool (!rightV3 x)) :=
  gives_of (Bvalue_all_1_run x.kind x.num x.text) fun W R Φ _=>fun _ w G cx=>(vRight_g x).use cx fun w c=>⟨_,rfl,R,Φ,inferInstance,c,fun w G c=>⟨rfl,c.left⟩⟩
theorem IndexV_in [Stable Φ] (f:FuncId) (g:ValD→Bool) [hΦ:Has Φ (fun M w=>Sl M w p r)] (hlen:r.length≤maxLen) (hf:okFun Tryz.prog f=true) (cp:Array Value) (hg:∀ x:ValD,Gives Tryz.prog f (Array.mk (x.v :: cp.toList)) (.bool (g x))) :
    GivesIn Φ Tryz.prog F.slices_IndexFunc_api_Value_api_Value #[.slice p r.length cap,.func (.func f) #[] cp] (.int .i64 (findI g 0 r)):=by
  refine .there (fun M w h=>(hΦ.go M w h).there) fun hth=>?_
  refine gives_in (Bslices_IndexFunc_api_Value_api_Value_run p r.length cap f cp) fun W R=>?_
  refine exI_mk (fun n R' Φ' k=>∃ i:Nat,n=i∧i≤r.length∧R'=R∧Φ'=Φ∧k=r.length - i∧findI g 0 r=findI g i (r.drop i)) ⟨⟨R,Φ,_,inferInstance,fun w F c=>c,0,rfl,Nat.zero_le _,rfl,rfl,rfl,rfl⟩,?_⟩
  rintro n R1 Φ1 k _ ⟨i,rfl,hi,rfl,rfl,rfl,hor⟩
  refine Br.intro (fun hlt=>?_) (fun hge=>fun w F cx=>⟨?_,cx.left⟩)
  · have hlt:i<r.length:=by simpa using hlt
    rw [findI_drop g r i hlt] at hor
    obtain ⟨b,o,rfl⟩:=hth (by omega)
    refine ⟨by omega,ptrK_intro b o rfl fun w F cx=>⟨r[i].kind,r[i].num,r[i].text,by rw [Int.toNat_natCast];exact sl_val (hΦ.go _ _ cx.phi) hlt,fun w F cx=>⟨hf,(hg r[i]).use cx fun w cx=>⟨g r[i],rfl,R1,Φ1,inferInstance,cx,Br.intro (fun h=>fun w F cx=>⟨?_,cx.left⟩) (fun h=>⟨by unfold I64;unfold maxLen at hlen;omega,R1,Φ1,r.length - (i+1),inferInstance,fun w F c=>c,⟨i+1,rfl,hlt,rfl,rfl,rfl,?_⟩,by omega⟩)⟩⟩⟩⟩
    · rw [hor,if_pos h]
    · rw [hor,if_neg (by rw [h];simp)]
  · have hge:i=r.length:=Nat.le_antisymm hi (by simpa using hge)
    rw [hor,hge,List.drop_length]
    rfl
theorem RightRow_in [Stable Φ] [hΦ:Has Φ (fun M w=>Sl M w p r)]:GivesIn Φ Tryz.prog F.value_RightRow #[.slice p r.length cap] (.bool (rightR r)):=by
  refine gives_in (Bvalue_RightRow_run p r.length cap) fun W R=>Br.intro (fun h=>?_) (fun h=>fun w G cx=>⟨?_,cx.left⟩)
  · have h1:=of_decide_eq_true h
    have hml:r.length≤maxLen:=by have h2:(12:Nat)≤maxLen:=(by decide);omega
    have hcon:GivesIn Φ Tryz.prog F.slices_ContainsFunc_api_Value_api_Value #[.slice p r.length cap,.func (.func F.value_all_1) #[] #[]] (.bool (r.any fun x => !rightV3 x)):=by
      refine gives_in (Bslices_ContainsFunc_api_Value_api_Value_run p r.length cap F.value_all_1 #[]) fun W R=>?_
      exact fun w G cx=>(IndexV_in (r:=r) F.value_all_1 (fun x => !rightV3 x) hml (by kernel_rfl) #[] all1_g).toI cx fun w G cx=>⟨by rw [findI_any],cx.left⟩
    have hall:GivesIn Φ Tryz.prog F.value_all #[.slice p r.length cap] (.bool (r.all rightV3)):=by
      refine gives_in (Bvalue_all_run p r.length cap) fun W R=>?_
      refine fun w G cx=>hcon.toB cx fun w G cx=>⟨?_,cx.left⟩
      rw [List.all_eq_not_any_not]
    refine fun w G cx=>hall.toB cx fun w G cx=>⟨?_,cx.left⟩
    unfold rightR
    rw [decide_eq_true h1,Bool.true_and]
  · unfold rightR
    rw [decide_eq_false (of_decide_eq_false h),Bool.false_and]
end
end Go.Proofs.YtfccagphnfceiaaGreatDoor
end

section
namespace Go.Proofs.YtfccagphnfceiaaGreatDoor
open Go.Vc
theorem right_text2 {r:List ValD} (h:rightR r=true):∀ v∈r,v.text.size≤200:=fun v hv=>by
  unfold rightR at h
  rw [Bool.and_eq_true] at h
  have h:=List.all_eq_true.1 h.2 v hv
  unfold rightV3 at h
  split at h
  · have h:=of_decide_eq_true h
    rw [h];decide
  · split at h
    · rw [Bool.and_eq_true] at h
      have:=of_decide_eq_true h.2
      omega
    · rw [Bool.and_eq_true] at h
      have h:=of_decide_eq_true h.2
      rw [h];decide
section
variable {Φ:PW} {q:LP} {st:LedD} {W w:World} {R S G:List Own} {p:Option Addr} {cap:Nat} {L:List LineD} {cs:List Value}
abbrev Rows7 (cs:List Value) (l:List LineD):Prop:=∀ i (h:i<l.length),∃ r rc,(cs.drop (i*7)).take 7=l[i].cells r rc∧l[i].row.length≤rc∧rc≤maxLen∧l[i].In
theorem rows7 {M:List Nat} (h:Elems M w cs L):Rows7 cs L:=fun i hi=>by
  obtain ⟨r,rc,he,h1,h2,h3,_⟩:=lrow h hi
  exact ⟨r,rc,he,h1,h2,h3⟩
theorem src_at (src:Src S Φ p L cs) {b o i:Nat} (hp:p=some ⟨b,o,none⟩) (c:Ctx W w (S++G) Φ) {x:LineD} {r:Option Addr} {rc:Nat} (he:(cs.drop (i*7)).take 7=x.cells r rc):RowAt w b (o+i*7) (x.cells r rc):=fun j hj=>by
  have:=src.rd hp c (i*7+j) _ (rows_of (vs:=x.cells r rc) he j hj)
  rw [←Nat.add_assoc] at this
  exact this
end
end Go.Proofs.YtfccagphnfceiaaGreatDoor
end

section
namespace Go.Proofs.YtfccagphnfceiaaGreatDoor
open Go.Vc
theorem Ctx.rowIn {W w:World} {S:List Own} {Φ:PW} [Stable Φ] {b:Nat} {cs:List Value} {t:TypeId} (c:Ctx W w (.blk b cs t :: S) Φ):Ctx W w S (fun M w=>Φ M w∧RowIn b 0 cs M w):=by
  refine c.drop1.add ⟨fun hm=>?_,?_,c.lt (b:=b) (by simp [dom,Own.dom])⟩
  · have h:=c.nodup
    have e:dom (.blk b cs t :: S)=b :: dom S:=rfl
    rw [e] at h
    exact (List.nodup_cons.1 h).1 hm
  · exact c.row0 0 rfl
section
variable {Φ:PW} {q:KP} {st:SkD} {W w:World} {R S G:List Own} {p:Option Addr} {cap:Nat} {L:List LineD} {cs:List Value}
theorem IndexZ_in [Stable Φ] {l:List Int} [hΦ:Has Φ (fun M w=>Sl M w p l)] (f:FuncId) (cp:Array Value) (g:Int→Bool) (hlen:l.length≤10000000) (hf:okFun Tryz.prog f=true) (hg:∀ x:Int,GivesIn Φ Tryz.prog f (Array.mk (.int .i64 x :: cp.toList)) (.bool (g x))) :
    GivesIn Φ Tryz.prog F.slices_IndexFunc_int_int #[.slice p l.length cap,.func (.func f) #[] cp] (.int .i64 (findI g 0 l)):=by
  refine .there (fun M w h=>(hΦ.go M w h).there) fun hth=>?_
  refine gives_in (Bslices_IndexFunc_int_int_run p l.length cap f cp) fun W R=>?_
  refine exI_mk (fun n R' Φ' k=>∃ i:Nat,n=i∧i≤l.length∧R'=R∧Φ'=Φ∧k=l.length - i∧findI g 0 l=findI g i (l.drop i)) ⟨⟨R,Φ,_,inferInstance,fun w F c=>c,0,rfl,Nat.zero_le _,rfl,rfl,rfl,rfl⟩,?_⟩
  rintro n R1 Φ1 k _ ⟨i,rfl,hi,rfl,rfl,rfl,hor⟩
  refine Br.intro (fun hlt=>?_) (fun hge=>fun w F cx=>⟨?_,cx.left⟩)
  · have hlt:i<l.length:=by simpa using hlt
    rw [findI_drop g l i hlt] at hor
    obtain ⟨b,o,rfl⟩:=hth (by omega)
    refine ⟨by omega,ptrK_intro b o rfl fun w F cx=>⟨l[i],by rw [Int.toNat_natCast];exact sl_int (hΦ.go _ _ cx.phi) hlt,fun w F cx=>⟨hf,(hg l[i]).use cx fun w cx=>⟨g l[i],rfl,R1,Φ1,inferInstance,cx,Br.intro (fun h=>fun w F cx=>⟨?_,cx.left⟩) (fun h=>⟨by unfold I64;omega,R1,Φ1,l.length - (i+1),inferInstance,fun w F c=>c,⟨i+1,rfl,hlt,rfl,rfl,rfl,?_⟩,by omega⟩)⟩⟩⟩⟩
    · rw [hor,if_pos h]
    · rw [hor,if_neg (by rw [h];simp)]
  · have hge:i=l.length:=Nat.le_antisymm hi (by simpa using hge)
    rw [hor,hge,List.drop_length]
    rfl
theorem ContainsZ_in [Stable Φ] {l:List Int} [hΦ:Has Φ (fun M w=>Sl M w p l)] (f:FuncId) (cp:Array Value) (g:Int→Bool) (hlen:l.length≤10000000) (hf:okFun Tryz.prog f=true) (hg:∀ x:Int,GivesIn Φ Tryz.prog f (Array.mk (.int .i64 x :: cp.toList)) (.bool (g x))) :
    GivesIn Φ Tryz.prog F.slices_ContainsFunc_int_int #[.slice p l.length cap,.func (.func f) #[] cp] (.bool (l.any g)) :=
  gives_in (Bslices_ContainsFunc_int_int_run p l.length cap f cp) fun W R=>fun w G cx=>(IndexZ_in f cp g hlen hf hg).toI cx fun w G cx=>⟨by rw [findI_any],cx.left⟩
theorem look1_in [Stable Φ] {x:LineD} {r:Option Addr} {rc kb:Nat} [hR:Has Φ (fun M w=>RowIn kb 0 (x.cells r rc) M w)] (k:Int):GivesIn Φ Tryz.prog F.sink_Sink_look_1 (Array.mk (.int .i64 k :: [.pointer (some ⟨kb,0,none⟩)])) (.bool (decide ((x.row.length:Int)≤k))) :=
  gives_in (Bsink_Sink_look_1_run k kb 0) fun W R=>fun w G cx=>⟨r,x.row.length,rc,(hR.go _ _ cx.phi).2.1 3 (by show 3<7;decide),fun w G cx=>⟨rfl,cx.left⟩⟩
set_option maxHeartbeats 2000000 in
theorem Look_q [Stable Φ] {b:Int} [hF:Has Φ (SkF q st)] (hq:SkQ q st) {n:Nat} (hs:SkS st n) (hn:n≤400000) (src:Src [] Φ p L cs) (hc:Rows7 cs L) (hlen:L.length≤1000000) :
    GivesQ (SkO q st) Φ Tryz.prog F.sink_Sink_look #[snk q,.int .i64 b,.slice p L.length cap] (.int .i64 (lookK st b L)):=by
  have hll:=hs.lines
  have hkl:=hs.key
  refine gives_q (Bsink_Sink_look_run q.sb 0 b p L.length cap) fun W R=>?_
  unfold lookK
  refine Br.intro (fun h=>fun w G cx=>⟨by rw [if_pos (of_decide_eq_true h)],cx.left⟩) (fun h=>?_)
  rw [if_neg (of_decide_eq_false h)]
  refine fun w G cx=>(Last_q hq).toI cx ?_
  clear cx
  refine Br.intro (fun h=>fun w G cx=>⟨by rw [if_pos (of_decide_eq_true h)],cx.left⟩) (fun h=>?_)
  rw [if_neg (of_decide_eq_false h)]
  have hsrcR:∀ {i:Nat} (hi:i<L.length) {r:Option Addr} {rc:Nat},(cs.drop (i*7)).take 7=L[i].cells r rc→Has Φ (fun M w=>Sl M w r L[i].row):=fun {i} hi {r rc} he=>⟨fun M w h=>src_sl src hi he h⟩
  have hkey:Has Φ (fun M w=>Sl M w q.kp st.key):=⟨fun M w h=>(hF.go M w h).2.1⟩
  refine exI_mk (fun iI R' Φ' k=>∃ i:Nat,iI=i∧i≤L.length∧R'=SkO q st++R∧Φ'=Φ∧k=L.length - i∧L.any (badK st.key b)=(L.drop i).any (badK st.key b)) ⟨⟨_,_,_,inferInstance,fun w G cx=>cx,0,rfl,Nat.zero_le _,rfl,rfl,rfl,rfl⟩,?_⟩
  rintro iI R1 Φ1 k _ ⟨i,rfl,hi,rfl,rfl,rfl,hor⟩
  refine Br.intro (fun hlt=>?_) (fun hge=>?_)
  · have hlt:i<L.length:=by have:=of_decide_eq_true hlt;omega
    obtain ⟨bb,o,hp⟩:=src.ptr (by omega)
    obtain ⟨r,rc,he,h1,h2,h3⟩:=hc i hlt
    have hhi:=hsrcR hlt he
    rw [List.drop_eq_getElem_cons hlt,List.any_cons] at hor
    have bad:badK st.key b L[i]=true→L.any (badK st.key b)=true:=fun h=>by rw [hor,h];rfl
    have stop:L.any (badK st.key b)=true→∀ {w:World} {G:List Own} {Ψ:PW},[Stable Ψ]→[Has Ψ Φ1]→Ctx W w ((SkO q st++R)++G) Ψ→(Value.int .i64 1)=.int .i64 (if L.any (badK st.key b)=true then 1 else if numK ((st.lines.length:Int)+1) L=false then 25 else 0)∧Ctx W w (SkO q st++R) Φ1:=fun h {w G Ψ} _ _ cx=>⟨by rw [if_pos h],(Ctx.has cx).left⟩
    refine ⟨by omega,ptrK_intro bb o hp fun w G cx=>⟨L[i].no,L[i].batch,L[i].time,r,L[i].row.length,rc,L[i].n,L[i].cause,L[i].why,by rw [Int.toNat_natCast];exact src_at (G:=(SkO q st++R)++G) src hp cx he,fun kb w G cx=>⟨cx.can 0 rfl (by show 0+7≤7;decide),fun w2 hw2=>?_⟩⟩⟩
    have c2:=cx.puts 0 hw2 rfl
    have c3:Ctx W w2 (.blk kb (L[i].cells r rc) 31 :: ((SkO q st++R)++G)) Φ1:=c2
    have c4:=Ctx.rowIn c3
    have hR:Has (fun M w=>Φ1 M w∧RowIn kb 0 (L[i].cells r rc) M w) (fun M w=>RowIn kb 0 (L[i].cells r rc) M w):=⟨fun M w h=>h.2⟩
    have stR:∀ cs:List Value,Stable (fun M w=>Φ1 M w∧RowIn kb 0 cs M w):=fun cs=>inferInstance
    have stR:=stR (L[i].cells r rc)
    have hcell:∀ {w:World} {S:List Own},Ctx W w S (fun M w=>Φ1 M w∧RowIn kb 0 (L[i].cells r rc) M w)→∀ j (hj:j<7),w.cell? ⟨kb,j,none⟩=some ((L[i].cells r rc)[j]'hj):=fun {w S} cx j hj=>by
      have:=cx.phi.2.2.1 j hj
      rw [Nat.zero_add] at this
      exact this
    refine ⟨SkO q st++R,fun M w=>Φ1 M w∧RowIn kb 0 (L[i].cells r rc) M w,stR,c4,fun w G cx=>⟨_,_,_,sk_cell (i:=1) cx rfl,fun w G cx=>?_⟩⟩
    refine (ContainsZ_in (Φ:=fun M w=>Φ1 M w∧RowIn kb 0 (L[i].cells r rc) M w) (l:=st.key) F.sink_Sink_look_1 #[.pointer (some ⟨kb,0,none⟩)] (fun k=>decide ((L[i].row.length:Int)≤k)) (by omega) (by kernel_rfl) (fun k=>look1_in (x:=L[i]) (r:=r) (rc:=rc) (kb:=kb) k)).toB cx ?_
    clear cx c4 c3 c2
    refine fun w G cx=>⟨L[i].batch,hcell cx 1 (by decide),Br.intro (fun g1=>fun w G cx=>stop (bad ?_) cx) (fun g1=>fun w G cx=>⟨L[i].n,hcell cx 4 (by decide),Br.intro (fun g2=>fun w G cx=>stop (bad ?_) cx) (fun g2=>fun w G cx=>⟨r,L[i].row.length,rc,hcell cx 3 (by decide),fun w G cx=>(RightRow_in (r:=L[i].row)).toB cx ?_⟩)⟩)⟩
    · unfold badK;rw [g1];rfl
    · unfold badK;rw [g2,Bool.or_true];rfl
    clear cx
    refine Br.intro (fun g3=>fun w G cx=>stop (bad ?_) cx) (fun g3=>?_)
    · unfold badK;rw [g3,Bool.or_true];rfl
    have hsh:(st.key.any fun k=>decide ((L[i].row.length:Int)≤k))=shortK st.key L[i].row:=rfl
    rw [hsh]
    refine Br.intro (fun g4=>fun w G cx=>stop (bad ?_) cx) (fun g4=>?_)
    · unfold badK;rw [g4,Bool.or_true]
    have hok:badK st.key b L[i]=false:=by unfold badK;rw [g1,g2,g3,g4];rfl
    exact ⟨by unfold I64;omega,SkO q st++R,Φ1,L.length - (i+1),inferInstance,fun w G cx=>cx.fst,⟨i+1,rfl,hlt,rfl,rfl,rfl,by rw [hor,hok];rfl⟩,by omega⟩
  have hge:i=L.length:=by have:=of_decide_eq_false hge;omega
  subst hge
  rw [List.drop_length] at hor
  have hor:L.any (badK st.key b)=false:=hor
  rw [if_neg (by rw [hor];simp)]
  refine exI_mk (fun iI R' Φ' k=>∃ i:Nat,iI=i∧i≤L.length∧R'=SkO q st++R∧Φ'=Φ1∧k=L.length - i∧numK ((st.lines.length:Int)+1) L=numK ((st.lines.length:Int)+1+i) (L.drop i)) ⟨⟨_,_,_,inferInstance,fun w G cx=>cx,0,rfl,Nat.zero_le _,rfl,rfl,rfl,by rw [Int.natCast_zero,Int.add_zero];rfl⟩,?_⟩
  rintro iI R1 Φ2 k _ ⟨i,rfl,hi,rfl,rfl,rfl,hnu⟩
  refine Br.intro (fun hlt=>?_) (fun hge=>fun w G cx=>⟨?_,cx.left⟩)
  · have hlt:i<L.length:=by have:=of_decide_eq_true hlt;omega
    obtain ⟨bb,o,hp⟩:=src.ptr (by omega)
    obtain ⟨r,rc,he,h1,h2,h3⟩:=hc i hlt
    rw [List.drop_eq_getElem_cons hlt] at hnu
    have hnu:numK ((st.lines.length:Int)+1) L=(decide (L[i].no=(st.lines.length:Int)+1+i)&&numK ((st.lines.length:Int)+1+i+1) (L.drop (i+1))):=hnu
    refine ⟨by omega,ptrK_intro bb o hp fun w G cx=>⟨L[i].no,L[i].batch,L[i].time,r,L[i].row.length,rc,L[i].n,L[i].cause,L[i].why,by rw [Int.toNat_natCast];exact src_at (G:=(SkO q st++R)++G) src hp cx he,fun _ w G cx=>⟨_,_,_,sk_cell (i:=3) cx rfl,by unfold I64;omega,by unfold I64;omega,Br.intro (fun h=>fun w G cx=>⟨?_,cx.left⟩) (fun h=>⟨by unfold I64;omega,_,Φ2,L.length - (i+1),inferInstance,fun w G cx=>cx,⟨i+1,rfl,hlt,rfl,rfl,rfl,?_⟩,by omega⟩)⟩⟩⟩
    · rw [hnu,decide_eq_false (of_decide_eq_true h),Bool.false_and,if_pos rfl]
    · rw [hnu,decide_eq_true (Decidable.not_not.1 (of_decide_eq_false h)),Bool.true_and,show (st.lines.length:Int)+1+i+1=(st.lines.length:Int)+1+((i+1:Nat):Int) by omega]
  · have hge:i=L.length:=by have:=of_decide_eq_false hge;omega
    subst hge
    rw [List.drop_length] at hnu
    rw [show numK ((st.lines.length:Int)+1) L=true from hnu];rfl
set_option maxHeartbeats 2000000 in
theorem take_use [Stable Φ] {b:Int} [hF:Has Φ (SkF q st)] [hL:Has Φ (fun M w=>Sl M w p L)] (hq:SkQ q st) {n:Nat} (hs:SkS st n) (hn:n≤400000) (hlen:L.length≤400000) (c:Ctx W w ((SkO q st++R)++G) Φ) {K:List Own→PW→Prop}
    (hk:∀ q':KP,q'.sb=q.sb→SkQ q' (takeK st b L)→Stable (fun M w=>Φ M w∧SkF q' (takeK st b L) M w)→K (SkO q' (takeK st b L)++R) (fun M w=>Φ M w∧SkF q' (takeK st b L) M w)) :
    Calls Tryz.prog F.sink_Sink_take #[snk q,.int .i64 b,.slice p L.length cap] w fun e w'=>e=.returned (.tuple #[])∧∃ R' Φ',Stable Φ'∧Ctx W w' (R'++G) Φ'∧K R' Φ':=by
  have hll:=hs.lines
  have hbl:=hs.bats
  refine (Bsink_Sink_take_run q.sb 0 b p L.length cap (R:=(SkO q st++R)++G) (J:=fun v w'=>v=.tuple #[]∧∃ R' Φ',Stable Φ'∧Ctx W w' (R'++G) Φ'∧K R' Φ') c ?_).mono fun e w' ⟨v,he,hv,rest⟩=>⟨by rw [he,hv],rest⟩
  clear c
  refine fun w G2 cx=>⟨_,_,_,sk_cell (q:=q) (st:=st) (R:=R++G) (G:=G2) (i:=2) (cx.re (by simp)) rfl,fun kb w G2 cx=>?_⟩
  have cy:Ctx W w (.blk kb [.int .i64 b] 3 :: bufZ q.bp q.bc st.bats :: (.blk q.sb (SkB q st) 92 :: bufL q.lp st.lines.length q.lc q.cs :: (R++G))++G2) Φ:=cx.perm (by simpa using List.Perm.swap _ _ _)
  obtain ⟨p8,c8,w2,hrun,cz⟩:=pushZ (by omega) cy
  refine ⟨p8,_,c8,w2,hrun,.blk q.sb (SkB q st) 92 :: bufZ p8 c8 (st.bats++[b]) :: bufL q.lp st.lines.length q.lc q.cs :: (R++G),Φ,inferInstance,Ctx.swap cz,fun w G3 cx=>⟨cx.can 0 rfl (by show 2+1≤6;decide),fun w3 hw3=>?_⟩⟩
  have c5:=cx.put 0 hw3 rfl
  refine ⟨.blk q.sb [.int .i64 st.kind,.slice q.kp st.key.length q.kc,.slice p8 (st.bats++[b]).length c8,.slice q.lp st.lines.length q.lc,.int .i64 st.prep,.slice q.ap st.aside.length q.ac] 92 :: bufZ p8 c8 (st.bats++[b]) :: bufL q.lp st.lines.length q.lc q.cs :: (R++G),Φ,inferInstance,c5,fun w G4 cx=>⟨_,_,_,cx.get 0 rfl rfl,fun w G4 cx=>?_⟩⟩
  clear c5 cz cy
  have cy:Ctx W w (bufL q.lp st.lines.length q.lc q.cs :: .blk q.sb [.int .i64 st.kind,.slice q.kp st.key.length q.kc,.slice p8 (st.bats++[b]).length c8,.slice q.lp st.lines.length q.lc,.int .i64 st.prep,.slice q.ap st.aside.length q.ac] 92 :: bufZ p8 c8 (st.bats++[b]) :: ((R++G)++G4)) Φ:=cx.perm (List.perm_middle (l₁:=[_,_]) (a:=_))
  obtain ⟨p2,c2,w4,news,hrun2,cx3⟩:=Ctx.appAny (P:=Tryz.prog) (ts:=22) (ty:=22) (kb:=#[false,false]) (bytes:=72) (c2:=cap) (l:=L) (q:=p) cy (by kernel_rfl) line_one hL.go (by omega) (by omega)
  have hel:st.lines.length+L.length=(st.lines++L).length:=by rw [List.length_append]
  rw [hel] at hrun2 cx3
  refine ⟨p2,_,c2,w4,hrun2,.blk q.sb [.int .i64 st.kind,.slice q.kp st.key.length q.kc,.slice p8 (st.bats++[b]).length c8,.slice q.lp st.lines.length q.lc,.int .i64 st.prep,.slice q.ap st.aside.length q.ac] 92 :: bufZ p8 c8 (st.bats++[b]) :: bufL p2 (st.lines++L).length c2 (q.cs++news) :: (R++G),(fun M w=>Φ M w∧Elems M w (q.cs++news) (st.lines++L)),inferInstance,?_,fun w G5 cx=>⟨cx.can 0 rfl (by show 3+1≤6;decide),fun w5 hw5=>?_⟩⟩
  · exact (cx3.weak fun M w h=>⟨h.1,(hF.go M w h.1).1.append h.2⟩).perm (List.perm_middle (l₁:=[_,_]) (a:=_)).symm
  have c6:=cx.put 0 hw5 rfl
  obtain ⟨q2,hq2⟩:∃ q2:KP,q2=⟨q.sb,q.kp,q.kc,p8,c8,p2,c2,q.cs++news,q.ap,q.ac⟩:=⟨_,rfl⟩
  have c7:Ctx W w5 ((SkO q2 (takeK st b L)++R)++(G++G5)) (fun M w=>Φ M w∧SkF q2 (takeK st b L) M w):=by
    rw [hq2]
    have c8:=c6.weak (Ψ:=fun M w=>Φ M w∧SkF ⟨q.sb,q.kp,q.kc,p8,c8,p2,c2,q.cs++news,q.ap,q.ac⟩ (takeK st b L) M w) fun M w h=>⟨h.1,h.2,(hF.go M w h.1).2⟩
    exact c8.re (by simp [takeK])
  have hq':SkQ q2 (takeK st b L):=skq_of (S:=R++(G++G5)) (c7.re (by simp)) (by rw [hq2];exact hq.kcap) (by rw [hq2];exact hq.acap)
  refine ⟨SkO q2 (takeK st b L)++(R++G),_,inferInstance,c7.re (by simp),fun w G6 cx=>⟨rfl,SkO q2 (takeK st b L)++R,_,inferInstance,(cx.left).re (by simp),hk q2 (by rw [hq2]) hq' inferInstance⟩⟩
end
end Go.Proofs.YtfccagphnfceiaaGreatDoor
end

section
namespace Go.Proofs.YtfccagphnfceiaaGreatDoor
open Go.Vc
section
variable {Φ:PW} {q:KP} {st:SkD} {W w:World} {R S G:List Own} {p:Option Addr} {cap:Nat} {L:List LineD} {cs:List Value}
theorem Look_to [Stable Φ] {b:Int} [hF:Has Φ (SkF q st)] [hL:Has Φ (fun M w=>Sl M w p L)] (hq:SkQ q st) {n:Nat} (hs:SkS st n) (hn:n≤400000) (hlen:L.length≤400000) :
    GivesQ (SkO q st) Φ Tryz.prog F.sink_Sink_look #[snk q,.int .i64 b,.slice p L.length cap] (.int .i64 (lookK st b L)) :=
  ⟨fun W w S c=>by
    have hth:=(hL.go _ _ c.phi).there
    obtain ⟨cs,c1⟩:=srcOf c (hL.go _ _ c.phi)
    exact ((Look_q (Φ:=fun M w=>Φ M w∧SrcF p L cs M w) hq hs hn (src_fact (Φ:=fun M w=>Φ M w∧SrcF p L cs M w) hth fun M w h=>h.2) (rows7 c1.phi.2.2) (by omega)).go W w S c1).mono fun e w' ⟨he,c2⟩=>⟨he,c2.fst⟩⟩
theorem sk_put {w':World} [Stable Φ] (cx:Ctx W w (SkO q st++S) Φ) {i:Nat} {v:Value} (e:w'=w.setCell ⟨q.sb,i,none⟩ v):Ctx W w' (.blk q.sb ((SkB q st).set i v) 92 :: bufZ q.bp q.bc st.bats :: bufL q.lp st.lines.length q.lc q.cs :: S) Φ:=cx.put 0 e rfl
theorem sk_can (cx:Ctx W w (SkO q st++S) Φ) {i:Nat} (h:i<6):CanWrite w q.sb i 1:=cx.can 0 rfl (by show i+1≤6;omega)
set_option maxHeartbeats 2000000 in
theorem Prepare_use [Stable Φ] {b:Int} [hF:Has Φ (SkF q st)] [hL:Has Φ (fun M w=>Sl M w p L)] (hq:SkQ q st) (hI:SkI st) {n:Nat} (hs:SkS st n) (hn:n≤400000) (hlen:L.length≤400000) (c:Ctx W w ((SkO q st++R)++G) Φ) {K:Int→List Own→PW→Prop}
    (hk:∀ q':KP,q'.sb=q.sb→SkQ q' (prepK st b L).2→Stable (fun M w=>Φ M w∧SkF q' (prepK st b L).2 M w)→K (prepK st b L).1 (SkO q' (prepK st b L).2++R) (fun M w=>Φ M w∧SkF q' (prepK st b L).2 M w)) :
    Calls Tryz.prog F.sink_Sink_Prepare #[snk q,.int .i64 b,.slice p L.length cap] w fun e w'=>∃ n,e=.returned (.int .i64 n)∧∃ R' Φ',Stable Φ'∧Ctx W w' (R'++G) Φ'∧K n R' Φ':=by
  refine (Bsink_Sink_Prepare_run q.sb 0 b p L.length cap (R:=(SkO q st++R)++G) (J:=fun v w'=>∃ n,v=.int .i64 n∧∃ R' Φ',Stable Φ'∧Ctx W w' (R'++G) Φ'∧K n R' Φ') c ?_).mono fun e w' ⟨v,he,n,hv,rest⟩=>⟨n,by rw [he,hv],rest⟩
  clear c
  have same:∀ (m:Int),prepK st b L=(m,st)→∀ {w:World} {G2:List Own},Ctx W w ((SkO q st++(R++G))++G2) Φ→∃ n,Value.int .i64 m=.int .i64 n∧∃ R' Φ',Stable Φ'∧Ctx W w (R'++G) Φ'∧K n R' Φ':=fun m h {w G2} cx=>by
    have:=hk q rfl
    rw [h] at this
    exact ⟨m,rfl,SkO q st++R,_,inferInstance,((cx.left).re (by simp)).weak fun M w h=>⟨h,hF.go M w h⟩,this hq inferInstance⟩
  refine fun w G2 cx=>⟨st.kind,cx.get 0 rfl rfl,?_⟩
  clear cx
  have e0:prepK st b L=if st.kind≠0 then (7,st) else if hasK st b=true then (0,st) else if lookK st b L≠0 then (lookK st b L,st) else (0,{ st with prep:=b,aside:=L }):=rfl
  refine Br.intro (fun h=>fun w G2 cx=>same 7 (by rw [e0,if_pos (of_decide_eq_true h)]) (G2:=G2) (cx.re (by simp))) (fun h=>fun w G2 cx=>?_)
  rw [if_neg (of_decide_eq_false h)] at e0
  refine (Has_q hq hI hs hn).toB (R:=R++G) (cx.re (by simp)) ?_
  clear cx
  refine Br.intro (fun h=>fun w G2 cx=>same 0 (by rw [e0,if_pos h]) cx) (fun h=>fun w G2 cx=>?_)
  rw [if_neg (by rw [h];simp)] at e0
  refine (Look_to hq hs hn hlen).toI (R:=R++G) cx ?_
  clear cx
  refine Br.intro (fun h=>fun w G2 cx=>same _ (by rw [e0,if_pos (of_decide_eq_true h)]) cx) (fun h=>fun w G2 cx=>?_)
  rw [if_neg (of_decide_eq_false h)] at e0
  obtain ⟨_,_,g3,_⟩:=look_ok (of_decide_eq_false h)
  refine (CloneK_sl (l:=L) (by omega) fun x hx=>by have:=right_len (bad_right (g3 x hx)).2.2.1;omega).to cx fun p1 c1 f1 f2 st1=>?_
  clear cx
  refine fun w G3 cx=>⟨sk_can (q:=q) (st:=st) (S:=(R++G)++G3) (cx.re (by simp)) (by decide),fun w2 hw2=>?_⟩
  have c2:=sk_put (q:=q) (st:=st) (S:=(R++G)++G3) (cx.re (by simp)) hw2
  refine ⟨.blk q.sb [.int .i64 st.kind,.slice q.kp st.key.length q.kc,.slice q.bp st.bats.length q.bc,.slice q.lp st.lines.length q.lc,.int .i64 b,.slice q.ap st.aside.length q.ac] 92 :: bufZ q.bp q.bc st.bats :: bufL q.lp st.lines.length q.lc q.cs :: (R++G),_,st1,c2,fun w G4 cx=>⟨cx.can 0 rfl (by show 5+1≤6;decide),fun w3 hw3=>?_⟩⟩
  have c4:=cx.put 0 hw3 rfl
  obtain ⟨q2,hq2⟩:∃ q2:KP,q2=⟨q.sb,q.kp,q.kc,q.bp,q.bc,q.lp,q.lc,q.cs,p1,c1⟩:=⟨_,rfl⟩
  obtain ⟨st2,hst2⟩:∃ st2:SkD,st2={ st with prep:=b,aside:=L }:=⟨_,rfl⟩
  rw [←hst2] at e0
  have c7:Ctx W w3 ((SkO q2 st2++R)++(G++G4)) (fun M w=>Φ M w∧SkF q2 st2 M w):=by
    rw [hq2,hst2]
    have c8:=c4.weak (Ψ:=fun M w=>Φ M w∧SkF ⟨q.sb,q.kp,q.kc,q.bp,q.bc,q.lp,q.lc,q.cs,p1,c1⟩ { st with prep:=b,aside:=L } M w) fun M w h=>⟨h.1,(hF.go M w h.1).1,(hF.go M w h.1).2.1,h.2⟩
    exact c8.re (by simp)
  have hq':SkQ q2 st2:=skq_of (S:=R++(G++G4)) (c7.re (by simp)) (by rw [hq2,hst2];exact hq.kcap) (by rw [hq2,hst2];exact ⟨f1,f2⟩)
  rw [e0] at hk
  exact ⟨SkO q2 st2++(R++G),_,inferInstance,c7.re (by simp),fun w G6 cx=>⟨0,rfl,SkO q2 st2++R,_,inferInstance,(cx.left).re (by simp),hk q2 (by rw [hq2]) hq' inferInstance⟩⟩
set_option maxHeartbeats 2000000 in
theorem Abort_use [Stable Φ] {b:Int} [hF:Has Φ (SkF q st)] (hq:SkQ q st) (hI:SkI st) {n:Nat} (hs:SkS st n) (hn:n≤400000) (c:Ctx W w ((SkO q st++R)++G) Φ) {K:Int→List Own→PW→Prop}
    (hk:∀ q':KP,q'.sb=q.sb→SkQ q' (abortK st b).2→Stable (fun M w=>Φ M w∧SkF q' (abortK st b).2 M w)→K (abortK st b).1 (SkO q' (abortK st b).2++R) (fun M w=>Φ M w∧SkF q' (abortK st b).2 M w)) :
    Calls Tryz.prog F.sink_Sink_Abort #[snk q,.int .i64 b] w fun e w'=>∃ n,e=.returned (.int .i64 n)∧∃ R' Φ',Stable Φ'∧Ctx W w' (R'++G) Φ'∧K n R' Φ':=by
  refine (Bsink_Sink_Abort_run q.sb 0 b (R:=(SkO q st++R)++G) (J:=fun v w'=>∃ n,v=.int .i64 n∧∃ R' Φ',Stable Φ'∧Ctx W w' (R'++G) Φ'∧K n R' Φ') c ?_).mono fun e w' ⟨v,he,n,hv,rest⟩=>⟨n,by rw [he,hv],rest⟩
  clear c
  have same:∀ (m:Int),abortK st b=(m,st)→∀ {w:World} {G2:List Own},Ctx W w ((SkO q st++(R++G))++G2) Φ→∃ n,Value.int .i64 m=.int .i64 n∧∃ R' Φ',Stable Φ'∧Ctx W w (R'++G) Φ'∧K n R' Φ':=fun m h {w G2} cx=>by
    have:=hk q rfl
    rw [h] at this
    exact ⟨m,rfl,SkO q st++R,_,inferInstance,((cx.left).re (by simp)).weak fun M w h=>⟨h,hF.go M w h⟩,this hq inferInstance⟩
  refine fun w G2 cx=>⟨st.kind,cx.get 0 rfl rfl,?_⟩
  clear cx
  have e0:abortK st b=if st.kind≠0 then (7,st) else if hasK st b=true then (7,st) else if (decide (b<1)||decide (b≠st.prep))=true then (4,st) else (0,{ st with prep:=0,aside:=[] }):=rfl
  refine Br.intro (fun h=>fun w G2 cx=>same 7 (by rw [e0,if_pos (of_decide_eq_true h)]) (G2:=G2) (cx.re (by simp))) (fun h=>fun w G2 cx=>?_)
  rw [if_neg (of_decide_eq_false h)] at e0
  refine (Has_q hq hI hs hn).toB (R:=R++G) (cx.re (by simp)) ?_
  clear cx
  refine Br.intro (fun h=>fun w G2 cx=>same 7 (by rw [e0,if_pos h]) cx) (fun h=>fun w G2 cx=>⟨st.prep,fun _=>sk_cell (R:=R++G) (i:=4) cx rfl,?_⟩)
  rw [if_neg (by rw [h];simp)] at e0
  clear cx
  refine Br.intro (fun h=>fun w G2 cx=>same 4 (by rw [e0,if_pos h]) cx) (fun h=>fun w G3 cx=>⟨sk_can (q:=q) (st:=st) (S:=(R++G)++G3) (cx.re (by simp)) (by decide),fun w2 hw2=>?_⟩)
  rw [if_neg (by rw [h];simp)] at e0
  have c2:=sk_put (q:=q) (st:=st) (S:=(R++G)++G3) (cx.re (by simp)) hw2
  refine ⟨.blk q.sb [.int .i64 st.kind,.slice q.kp st.key.length q.kc,.slice q.bp st.bats.length q.bc,.slice q.lp st.lines.length q.lc,.int .i64 0,.slice q.ap st.aside.length q.ac] 92 :: bufZ q.bp q.bc st.bats :: bufL q.lp st.lines.length q.lc q.cs :: (R++G),_,inferInstance,c2,fun w G4 cx=>⟨cx.can 0 rfl (by show 5+1≤6;decide),fun w3 hw3=>?_⟩⟩
  have c4:=cx.put 0 hw3 rfl
  obtain ⟨q2,hq2⟩:∃ q2:KP,q2=⟨q.sb,q.kp,q.kc,q.bp,q.bc,q.lp,q.lc,q.cs,none,0⟩:=⟨_,rfl⟩
  obtain ⟨st2,hst2⟩:∃ st2:SkD,st2={ st with prep:=0,aside:=[] }:=⟨_,rfl⟩
  rw [←hst2] at e0
  have c7:Ctx W w3 ((SkO q2 st2++R)++(G++G4)) (fun M w=>Φ M w∧SkF q2 st2 M w):=by
    rw [hq2,hst2]
    have c8:=c4.weak (Ψ:=fun M w=>Φ M w∧SkF ⟨q.sb,q.kp,q.kc,q.bp,q.bc,q.lp,q.lc,q.cs,none,0⟩ { st with prep:=0,aside:=[] } M w) fun M w h=>⟨h,(hF.go M w h).1,(hF.go M w h).2.1,fun i hi=>absurd hi (by simp)⟩
    exact c8.re (by simp)
  have hq':SkQ q2 st2:=skq_of (S:=R++(G++G4)) (c7.re (by simp)) (by rw [hq2,hst2];exact hq.kcap) (by rw [hq2,hst2];exact ⟨Nat.le_refl _,Nat.zero_le _⟩)
  rw [e0] at hk
  exact ⟨SkO q2 st2++(R++G),_,inferInstance,c7.re (by simp),fun w G6 cx=>⟨0,rfl,SkO q2 st2++R,_,inferInstance,(cx.left).re (by simp),hk q2 (by rw [hq2]) hq' inferInstance⟩⟩
set_option maxHeartbeats 2000000 in
theorem Commit_use [Stable Φ] {b:Int} [hF:Has Φ (SkF q st)] (hq:SkQ q st) (hI:SkI st) {n:Nat} (hs:SkS st n) (hn:n≤400000) (c:Ctx W w ((SkO q st++R)++G) Φ) {K:Int→List Own→PW→Prop}
    (hk:∀ q':KP,q'.sb=q.sb→SkQ q' (commK st b).2→Stable (fun M w=>Φ M w∧SkF q' (commK st b).2 M w)→K (commK st b).1 (SkO q' (commK st b).2++R) (fun M w=>Φ M w∧SkF q' (commK st b).2 M w)) :
    Calls Tryz.prog F.sink_Sink_Commit #[snk q,.int .i64 b] w fun e w'=>∃ n,e=.returned (.int .i64 n)∧∃ R' Φ',Stable Φ'∧Ctx W w' (R'++G) Φ'∧K n R' Φ':=by
  have hal:=hs.aside
  refine (Bsink_Sink_Commit_run q.sb 0 b (R:=(SkO q st++R)++G) (J:=fun v w'=>∃ n,v=.int .i64 n∧∃ R' Φ',Stable Φ'∧Ctx W w' (R'++G) Φ'∧K n R' Φ') c ?_).mono fun e w' ⟨v,he,n,hv,rest⟩=>⟨n,by rw [he,hv],rest⟩
  clear c
  have same:∀ (m:Int),commK st b=(m,st)→∀ {w:World} {G2:List Own},Ctx W w ((SkO q st++(R++G))++G2) Φ→∃ n,Value.int .i64 m=.int .i64 n∧∃ R' Φ',Stable Φ'∧Ctx W w (R'++G) Φ'∧K n R' Φ':=fun m h {w G2} cx=>by
    have:=hk q rfl
    rw [h] at this
    exact ⟨m,rfl,SkO q st++R,_,inferInstance,((cx.left).re (by simp)).weak fun M w h=>⟨h,hF.go M w h⟩,this hq inferInstance⟩
  refine fun w G2 cx=>⟨st.kind,cx.get 0 rfl rfl,?_⟩
  clear cx
  have e0:commK st b=if st.kind≠0 then (7,st) else if hasK st b=true then (0,st) else if (decide (b<1)||decide (b≠st.prep))=true then (4,st) else (0,{ takeK st b st.aside with prep:=0,aside:=[] }):=rfl
  refine Br.intro (fun h=>fun w G2 cx=>same 7 (by rw [e0,if_pos (of_decide_eq_true h)]) (G2:=G2) (cx.re (by simp))) (fun h=>fun w G2 cx=>?_)
  rw [if_neg (of_decide_eq_false h)] at e0
  refine (Has_q hq hI hs hn).toB (R:=R++G) (cx.re (by simp)) ?_
  clear cx
  refine Br.intro (fun h=>fun w G2 cx=>same 0 (by rw [e0,if_pos h]) cx) (fun h=>fun w G2 cx=>⟨st.prep,fun _=>sk_cell (R:=R++G) (i:=4) cx rfl,?_⟩)
  rw [if_neg (by rw [h];simp)] at e0
  clear cx
  refine Br.intro (fun h=>fun w G2 cx=>same 4 (by rw [e0,if_pos h]) cx) (fun h=>fun w G3 cx=>⟨_,_,_,sk_cell (R:=R++G) (i:=5) cx rfl,fun w G3 cx=>?_⟩)
  rw [if_neg (by rw [h];simp)] at e0
  have hasd:Has Φ (fun M w=>Sl M w q.ap st.aside):=⟨fun M w h=>(hF.go M w h).2.2⟩
  refine take_use (R:=R++G) (L:=st.aside) (b:=b) hq hs hn (by omega) cx fun q1 hsb hq1 st1=>?_
  clear cx
  rw [←hsb]
  obtain ⟨s1,hs1⟩:∃ s1,takeK st b st.aside=s1:=⟨_,rfl⟩
  rw [hs1] at hq1 st1 e0 ⊢
  refine fun w G3 cx=>⟨sk_can (q:=q1) (st:=s1) (S:=(R++G)++G3) (cx.re (by simp)) (by decide),fun w2 hw2=>?_⟩
  have c2:=sk_put (q:=q1) (st:=s1) (S:=(R++G)++G3) (cx.re (by simp)) hw2
  refine ⟨.blk q1.sb [.int .i64 s1.kind,.slice q1.kp s1.key.length q1.kc,.slice q1.bp s1.bats.length q1.bc,.slice q1.lp s1.lines.length q1.lc,.int .i64 0,.slice q1.ap s1.aside.length q1.ac] 92 :: bufZ q1.bp q1.bc s1.bats :: bufL q1.lp s1.lines.length q1.lc q1.cs :: (R++G),_,st1,c2,fun w G4 cx=>⟨cx.can 0 rfl (by show 5+1≤6;decide),fun w3 hw3=>?_⟩⟩
  have c4:=cx.put 0 hw3 rfl
  obtain ⟨q2,hq2⟩:∃ q2:KP,q2=⟨q1.sb,q1.kp,q1.kc,q1.bp,q1.bc,q1.lp,q1.lc,q1.cs,none,0⟩:=⟨_,rfl⟩
  obtain ⟨st2,hst2⟩:∃ st2:SkD,st2={ s1 with prep:=0,aside:=[] }:=⟨_,rfl⟩
  rw [←hst2] at e0
  have c7:Ctx W w3 ((SkO q2 st2++R)++(G++G4)) (fun M w=>Φ M w∧SkF q2 st2 M w):=by
    rw [hq2,hst2]
    have c8:=c4.weak (Ψ:=fun M w=>Φ M w∧SkF ⟨q1.sb,q1.kp,q1.kc,q1.bp,q1.bc,q1.lp,q1.lc,q1.cs,none,0⟩ { s1 with prep:=0,aside:=[] } M w) fun M w h=>⟨h.1,h.2.1,h.2.2.1,fun i hi=>absurd hi (by simp)⟩
    exact c8.re (by simp)
  have hq':SkQ q2 st2:=skq_of (S:=R++(G++G4)) (c7.re (by simp)) (by rw [hq2,hst2];exact hq1.kcap) (by rw [hq2,hst2];exact ⟨Nat.le_refl _,Nat.zero_le _⟩)
  rw [e0] at hk
  exact ⟨SkO q2 st2++(R++G),_,inferInstance,c7.re (by simp),fun w G6 cx=>⟨0,rfl,SkO q2 st2++R,_,inferInstance,(cx.left).re (by simp),hk q2 (by rw [hq2];exact hsb) hq' inferInstance⟩⟩
set_option maxHeartbeats 2000000 in
theorem Deliver_use [Stable Φ] {b:Int} [hF:Has Φ (SkF q st)] [hL:Has Φ (fun M w=>Sl M w p L)] (hq:SkQ q st) (hI:SkI st) {n:Nat} (hs:SkS st n) (hn:n≤400000) (hlen:L.length≤400000) (c:Ctx W w ((SkO q st++R)++G) Φ) {K:Int→List Own→PW→Prop}
    (hk:∀ q':KP,q'.sb=q.sb→SkQ q' (delivK st b L).2→Stable (fun M w=>Φ M w∧SkF q' (delivK st b L).2 M w)→K (delivK st b L).1 (SkO q' (delivK st b L).2++R) (fun M w=>Φ M w∧SkF q' (delivK st b L).2 M w)) :
    Calls Tryz.prog F.sink_Sink_Deliver #[snk q,.int .i64 b,.slice p L.length cap] w fun e w'=>∃ n,e=.returned (.int .i64 n)∧∃ R' Φ',Stable Φ'∧Ctx W w' (R'++G) Φ'∧K n R' Φ':=by
  refine (Bsink_Sink_Deliver_run q.sb 0 b p L.length cap (R:=(SkO q st++R)++G) (J:=fun v w'=>∃ n,v=.int .i64 n∧∃ R' Φ',Stable Φ'∧Ctx W w' (R'++G) Φ'∧K n R' Φ') c ?_).mono fun e w' ⟨v,he,n,hv,rest⟩=>⟨n,by rw [he,hv],rest⟩
  clear c
  have same:∀ (m:Int),delivK st b L=(m,st)→∀ {w:World} {G2:List Own},Ctx W w ((SkO q st++(R++G))++G2) Φ→∃ n,Value.int .i64 m=.int .i64 n∧∃ R' Φ',Stable Φ'∧Ctx W w (R'++G) Φ'∧K n R' Φ':=fun m h {w G2} cx=>by
    have:=hk q rfl
    rw [h] at this
    exact ⟨m,rfl,SkO q st++R,_,inferInstance,((cx.left).re (by simp)).weak fun M w h=>⟨h,hF.go M w h⟩,this hq inferInstance⟩
  refine fun w G2 cx=>⟨st.kind,cx.get 0 rfl rfl,?_⟩
  clear cx
  have e0:delivK st b L=if st.kind=0 then (7,st) else if hasK st b=true then (0,st) else if lookK st b L≠0 then (lookK st b L,st) else (0,takeK st b L):=rfl
  refine Br.intro (fun h=>fun w G2 cx=>same 7 (by rw [e0,if_pos (of_decide_eq_true h)]) (G2:=G2) (cx.re (by simp))) (fun h=>fun w G2 cx=>?_)
  rw [if_neg (of_decide_eq_false h)] at e0
  refine (Has_q hq hI hs hn).toB (R:=R++G) (cx.re (by simp)) ?_
  clear cx
  refine Br.intro (fun h=>fun w G2 cx=>same 0 (by rw [e0,if_pos h]) cx) (fun h=>fun w G2 cx=>?_)
  rw [if_neg (by rw [h];simp)] at e0
  refine (Look_to hq hs hn hlen).toI (R:=R++G) cx ?_
  clear cx
  refine Br.intro (fun h=>fun w G2 cx=>same _ (by rw [e0,if_pos (of_decide_eq_true h)]) cx) (fun h=>fun w G2 cx=>?_)
  rw [if_neg (of_decide_eq_false h)] at e0
  obtain ⟨_,_,g3,_⟩:=look_ok (of_decide_eq_false h)
  refine (CloneK_sl (l:=L) (by omega) fun x hx=>by have:=right_len (bad_right (g3 x hx)).2.2.1;omega).to cx fun p1 c1 f1 f2 st1=>?_
  clear cx
  have hF2:Has (fun M w=>Φ M w∧Sl M w p1 L) (SkF q st):=⟨fun M w h=>hF.go M w h.1⟩
  refine fun w G3 cx=>take_use (Φ:=fun M w=>Φ M w∧Sl M w p1 L) (R:=R++G) (L:=L) (b:=b) hq hs hn hlen cx fun q1 hsb hq1 st2=>?_
  rw [e0] at hk
  exact fun w G6 cx=>⟨0,rfl,SkO q1 (takeK st b L)++R,_,inferInstance,((cx.left).re (by simp)).weak fun M w h=>⟨h.1.1,h.2⟩,hk q1 hsb hq1 inferInstance⟩
end
end Go.Proofs.YtfccagphnfceiaaGreatDoor
end

section
namespace Go.Proofs.YtfccagphnfceiaaGreatDoor
open Go.Vc
structure OpD where
  op:Int
  batch:Int
  l:List LineD
instance:Gv OpD:=Gv.via (β:=Int × Int × List LineD) (fun x=>(x.op,x.batch,x.l)) (fun y=>⟨y.1,y.2.1,y.2.2⟩) (fun _=>rfl)
abbrev OpD.cells (x:OpD) (p:Option Addr) (c:Nat):List Value:=[.int .i64 x.op,.int .i64 x.batch,.slice p x.l.length c]
def fewV (r:List ValD):Bool:=decide ((r.length:Int)≤12)&&r.all fun v=>decide ((v.text.size:Int)≤210)
def fewR (L:List LineD) (n:Int):Bool:=decide ((L.length:Int)≤n)&&L.all fun x=>fewV x.row
theorem fewR_len {L:List LineD} {n:Int} (h:fewR L n=true):(L.length:Int)≤n:=of_decide_eq_true (Bool.and_eq_true_iff.1 h).1
theorem fewR_row {L:List LineD} {n:Int} (h:fewR L n=true):∀ x∈L,x.row.length≤12:=fun x hx=>by
  have:=List.all_eq_true.1 (Bool.and_eq_true_iff.1 h).2 x hx
  have:=of_decide_eq_true (Bool.and_eq_true_iff.1 this).1
  omega
section
variable {Φ:PW} {W w:World} {R S G:List Own} {p r:Option Addr} {cap cap2:Nat}
set_option maxHeartbeats 1000000 in
theorem Few43_src [Stable Φ] {L:List LineD} {cs:List Value} {n:Int} (src:Src [] Φ p L cs) (hc:Rows7 cs L) (hlen:L.length≤maxLen):GivesIn Φ Tryz.prog F.errataref43_Few #[.slice p L.length cap,.int .i64 n] (.bool (fewR L n)):=by
  refine gives_in (Berrataref43_Few_run p L.length cap n) fun W R=>?_
  unfold maxLen at hlen
  refine exI_mk (fun n1 R' Φ' k=>∃ i:Nat,n1=i∧i≤L.length∧R'=R∧Φ'=Φ∧k=L.length - i∧(L.all fun x=>fewV x.row)=(L.drop i).all fun x=>fewV x.row) ⟨⟨R,Φ,_,inferInstance,fun w F c=>c,0,rfl,Nat.zero_le _,rfl,rfl,rfl,rfl⟩,?_⟩
  rintro n1 R1 Φ1 k _ ⟨i,rfl,hi,rfl,rfl,rfl,hs⟩
  refine fun w G cx=>Br.intro (fun hlt=>?_) (fun hge=>fun w G cx=>⟨?_,cx.left⟩)
  · have hlt2:=Bool.and_eq_true_iff.1 hlt
    have hlt:i<L.length:=by have:=of_decide_eq_true hlt2.1;omega
    clear cx
    obtain ⟨b,o,hp⟩:=src.ptr (by omega)
    obtain ⟨r,rc,he,h1,h2,h3⟩:=hc i hlt
    unfold maxLen at h2
    have hh:Has Φ1 (fun M w=>Sl M w r L[i].row):=⟨fun M w h=>src_sl src hlt he h⟩
    rw [List.drop_eq_getElem_cons hlt,List.all_cons] at hs
    have bad:fewV L[i].row=false→fewR L n=false:=fun h=>by unfold fewR;rw [hs,h,Bool.false_and,Bool.and_false]
    have hrow:∀ {w:World} {G:List Own},Ctx W w (R1++G) Φ1→w.cell? ⟨b,o+((i:Nat):Int).toNat*7+3,none⟩=some (.slice r L[i].row.length rc):=fun {w G} cx=>by
      rw [Int.toNat_natCast]
      exact src_at (S:=[]) src hp cx he 3 (by show 3<7;decide)
    refine ⟨by omega,ptrK_intro b o hp fun w G cx=>⟨r,L[i].row.length,rc,hrow cx,Br.intro (fun h=>fun w G cx=>⟨?_,cx.left⟩) (fun h12=>?_)⟩⟩
    · rw [bad (by unfold fewV;rw [decide_eq_false (by have:=of_decide_eq_true h;omega),Bool.false_and])]
    clear cx
    have h12:=of_decide_eq_false h12
    refine exI_mk (fun n2 R' Φ' k=>∃ j:Nat,n2=j∧j≤L[i].row.length∧R'=R1∧Φ'=Φ1∧k=L[i].row.length - j∧(L[i].row.all fun v=>decide ((v.text.size:Int)≤210))=(L[i].row.drop j).all fun v=>decide ((v.text.size:Int)≤210)) ⟨⟨R1,Φ1,_,inferInstance,fun w F c=>c,0,rfl,Nat.zero_le _,rfl,rfl,rfl,rfl⟩,?_⟩
    rintro n2 R2 Φ2 k2 _ ⟨j,rfl,hj,rfl,rfl,rfl,hs2⟩
    refine ⟨by omega,ptrK_intro b o hp fun w G cx=>⟨r,L[i].row.length,rc,hrow cx,?_⟩⟩
    have hth:=(hh.go _ _ cx.phi).there
    clear cx
    refine Br.intro (fun hlt3=>?_) (fun hge3=>?_)
    · have hlt3:j<L[i].row.length:=by have:=of_decide_eq_true hlt3;omega
      obtain ⟨g1,o1,hr⟩:=hth (by omega)
      rw [List.drop_eq_getElem_cons hlt3,List.all_cons] at hs2
      refine ⟨by omega,ptrK_intro b o hp fun w G cx=>⟨r,L[i].row.length,rc,hrow cx,by omega,ptrK_intro g1 o1 hr fun w G cx=>⟨L[i].row[j].text,?_,Br.intro (fun h=>fun w G cx=>⟨?_,cx.left⟩) (fun h=>⟨by unfold I64;omega,R2,Φ2,L[i].row.length - (j+1),inferInstance,fun w G cx=>cx,⟨j+1,rfl,hlt3,rfl,rfl,rfl,?_⟩,by omega⟩)⟩⟩⟩
      · rw [Int.toNat_natCast]
        have:=hh.go _ _ cx.phi
        rw [hr] at this
        exact sl_val this hlt3 2 (by simp)
      · rw [bad (by unfold fewV;rw [hs2,decide_eq_false (p:=(L[i].row[j].text.size:Int)≤210) (by have:=of_decide_eq_true h;omega),Bool.false_and,Bool.and_false])]
      · rw [hs2,decide_eq_true (p:=(L[i].row[j].text.size:Int)≤210) (by have:=of_decide_eq_false h;omega),Bool.true_and]
    · have hge3:j=L[i].row.length:=by have:=of_decide_eq_false hge3;omega
      rw [hge3,List.drop_length] at hs2
      have hok:fewV L[i].row=true:=by unfold fewV;rw [hs2,decide_eq_true (by omega)];rfl
      exact ⟨by unfold I64;omega,R2,Φ2,L.length - (i+1),inferInstance,fun w G cx=>cx,⟨i+1,rfl,hlt,rfl,rfl,rfl,by rw [hs,hok,Bool.true_and]⟩,by omega⟩
  · unfold fewR
    rcases Bool.and_eq_false_iff.1 hge with h|h
    · have hge:i=L.length:=by have:=of_decide_eq_false h;omega
      rw [hge,List.drop_length] at hs
      rw [hs]
      show _=Value.bool (_&&true)
      rw [Bool.and_true]
    · have:¬ ((L.length:Int)≤n):=by have:=of_decide_eq_false h;omega
      rw [decide_eq_false this,Bool.false_and]
theorem Few43_in [Stable Φ] {L:List LineD} {n:Int} [hΦ:Has Φ (fun M w=>Sl M w p L)] (hlen:L.length≤maxLen):GivesIn Φ Tryz.prog F.errataref43_Few #[.slice p L.length cap,.int .i64 n] (.bool (fewR L n)) :=
  ⟨fun W w S c=>by
    have hth:=(hΦ.go _ _ c.phi).there
    obtain ⟨cs,c1⟩:=srcOf c (hΦ.go _ _ c.phi)
    exact (Few43_src (Φ:=fun M w=>Φ M w∧SrcF p L cs M w) (src_fact (Φ:=fun M w=>Φ M w∧SrcF p L cs M w) hth (fun M w h=>h.2)) (rows7 c1.phi.2.2) hlen).use c1 fun w' c=>⟨rfl,c.fst⟩⟩
end
def sameL (x y:LineD):Bool:=decide (x.no=y.no)&&decide (x.batch=y.batch)&&decide (x.time=y.time)&&decide (x.n=y.n)&&decide (x.cause=y.cause)&&decide (x.why=y.why)&&decide (cmpR x.row y.row=0)
theorem sameL_refl (x:LineD):sameL x x=true:=by unfold sameL;simp [cmpR_cmp.refl]
theorem sameL_eq {x y:LineD} (h:sameL x y=true):x=y:=by
  unfold sameL at h
  simp only [Bool.and_eq_true,decide_eq_true_eq] at h
  obtain ⟨⟨⟨⟨⟨⟨h1,h2⟩,h3⟩,h4⟩,h5⟩,h6⟩,h7⟩:=h
  have h7:=(cmpR_cmp.eq _ _).1 h7
  cases x;cases y
  simp_all
instance:DecidableEq LineD:=fun x y=>decidable_of_iff (sameL x y=true) ⟨sameL_eq,fun h=>h ▸ sameL_refl x⟩
theorem sameL_dec (x y:LineD):sameL x y=decide (x=y):=by
  cases h:sameL x y with
  | true=>exact (decide_eq_true (sameL_eq h)).symm
  | false=>exact (decide_eq_false fun e=>by rw [e,sameL_refl] at h;cases h).symm
theorem eq_drop {a b:List LineD} {i:Nat} (ha:i<a.length) (hb:i<b.length):decide (a.drop i=b.drop i)=(sameL a[i] b[i]&&decide (a.drop (i+1)=b.drop (i+1))):=by
  rw [List.drop_eq_getElem_cons ha,List.drop_eq_getElem_cons hb,sameL_dec,←Bool.decide_and]
  exact decide_eq_decide.2 (by rw [List.cons.injEq])
section
variable {Φ:PW} {W w:World} {R S G:List Own} {p r:Option Addr} {cap cap2:Nat}
theorem rSame03_in [Stable Φ] {a b:List ValD} [hA:Has Φ (fun M w=>Sl M w p a)] [hB:Has Φ (fun M w=>Sl M w r b)] (hlen:a.length≤1000000):GivesIn Φ Tryz.prog F.errataref03_Same #[.slice p a.length cap,.slice r b.length cap2] (.bool (decide (cmpR a b=0))) :=
  gives_in (Berrataref03_Same_run p a.length cap r b.length cap2) fun W R=>fun w G cx=>(rCompareRows_in p r cap cap2 a b hA.go hB.go (by omega)).toI cx fun w G cx=>⟨rfl,cx.left⟩
set_option maxHeartbeats 1000000 in
theorem SameLines_src [Stable Φ] {a b:List LineD} {cs ds:List Value} (srcA:Src [] Φ p a cs) (srcB:Src [] Φ r b ds) (hca:Rows7 cs a) (hcb:Rows7 ds b) (hlen:a.length≤1000000) (hrow:∀ x∈a,x.row.length≤1000000) :
    GivesIn Φ Tryz.prog F.errataref43_SameLines #[.slice p a.length cap,.slice r b.length cap2] (.bool (decide (a=b))):=by
  refine gives_in (Berrataref43_SameLines_run p a.length cap r b.length cap2) fun W R=>Br.intro (fun h=>fun w G cx=>⟨?_,cx.left⟩) (fun h=>?_)
  · rw [decide_eq_false fun e=>of_decide_eq_true h (by rw [e])]
  have hab:a.length=b.length:=by have:=Decidable.not_not.1 (of_decide_eq_false h);omega
  refine exI_mk (fun n1 R' Φ' k=>∃ i:Nat,n1=i∧i≤a.length∧R'=R∧Φ'=Φ∧k=a.length - i∧decide (a=b)=decide (a.drop i=b.drop i)) ⟨⟨R,Φ,_,inferInstance,fun w F c=>c,0,rfl,Nat.zero_le _,rfl,rfl,rfl,rfl⟩,?_⟩
  rintro n1 R1 Φ1 k _ ⟨i,rfl,hi,rfl,rfl,rfl,hs⟩
  refine Br.intro (fun hlt=>?_) (fun hge=>fun w G cx=>⟨?_,cx.left⟩)
  · have hlt:i<a.length:=by have:=of_decide_eq_true hlt;omega
    have hlb:i<b.length:=by omega
    obtain ⟨b1,o1,hp⟩:=srcA.ptr (by omega)
    obtain ⟨b2,o2,hr⟩:=srcB.ptr (by omega)
    obtain ⟨ra,rca,hea,_,_,_⟩:=hca i hlt
    obtain ⟨rb,rcb,heb,_,_,_⟩:=hcb i hlb
    have hA:Has Φ1 (fun M w=>Sl M w ra a[i].row):=⟨fun M w h=>src_sl srcA hlt hea h⟩
    have hB:Has Φ1 (fun M w=>Sl M w rb b[i].row):=⟨fun M w h=>src_sl srcB hlb heb h⟩
    rw [eq_drop hlt hlb] at hs
    have stop:sameL a[i] b[i]=false→∀ {w:World} {G:List Own},Ctx W w (R1++G) Φ1→Value.bool false=.bool (decide (a=b))∧Ctx W w R1 Φ1:=fun h {w G} cx=>⟨by rw [hs,h,Bool.false_and],cx.left⟩
    refine ⟨by omega,ptrK_intro b1 o1 hp fun w G cx=>⟨a[i].no,a[i].batch,a[i].time,ra,a[i].row.length,rca,a[i].n,a[i].cause,a[i].why,by rw [Int.toNat_natCast];exact src_at (S:=[]) srcA hp cx hea,fun _=>⟨by omega,ptrK_intro b2 o2 hr fun w G cx=>⟨b[i].no,b[i].batch,b[i].time,rb,b[i].row.length,rcb,b[i].n,b[i].cause,b[i].why,by rw [Int.toNat_natCast];exact src_at (S:=[]) srcB hr cx heb,fun _=>?_⟩⟩⟩⟩
    clear cx
    refine Br.intro (fun h=>fun w G cx=>stop (by unfold sameL;rw [decide_eq_false (of_decide_eq_true h)];rfl) cx) (fun g1=>?_)
    refine Br.intro (fun h=>fun w G cx=>stop (by unfold sameL;rw [decide_eq_false (p:=a[i].batch=b[i].batch) (of_decide_eq_true h)];simp) cx) (fun g2=>?_)
    refine Br.intro (fun h=>fun w G cx=>stop (by unfold sameL;rw [decide_eq_false (p:=a[i].time=b[i].time) (of_decide_eq_true h)];simp) cx) (fun g3=>?_)
    refine Br.intro (fun h=>fun w G cx=>stop (by unfold sameL;rw [decide_eq_false (p:=a[i].n=b[i].n) (of_decide_eq_true h)];simp) cx) (fun g4=>?_)
    refine Br.intro (fun h=>fun w G cx=>stop (by unfold sameL;rw [decide_eq_false (p:=a[i].cause=b[i].cause) (of_decide_eq_true h)];simp) cx) (fun g5=>?_)
    refine Br.intro (fun h=>fun w G cx=>stop (by unfold sameL;rw [decide_eq_false (p:=a[i].why=b[i].why) (of_decide_eq_true h)];simp) cx) (fun g6=>fun w G cx=>(rSame03_in (a:=a[i].row) (b:=b[i].row) (hrow _ (List.getElem_mem _))).toB cx ?_)
    clear cx
    have hse:sameL a[i] b[i]=decide (cmpR a[i].row b[i].row=0):=by
      unfold sameL
      rw [decide_eq_true (Decidable.not_not.1 (of_decide_eq_false g1)),decide_eq_true (Decidable.not_not.1 (of_decide_eq_false g2)),decide_eq_true (Decidable.not_not.1 (of_decide_eq_false g3)),decide_eq_true (Decidable.not_not.1 (of_decide_eq_false g4)),decide_eq_true (Decidable.not_not.1 (of_decide_eq_false g5)),decide_eq_true (Decidable.not_not.1 (of_decide_eq_false g6))]
      rfl
    rw [←hse]
    refine Br.intro (fun h=>fun w G cx=>stop (by simpa using h) cx) (fun h=>⟨by unfold I64;omega,R1,Φ1,a.length - (i+1),inferInstance,fun w G cx=>cx,⟨i+1,rfl,hlt,rfl,rfl,rfl,?_⟩,by omega⟩)
    have h:sameL a[i] b[i]=true:=by simpa using h
    rw [hs,h,Bool.true_and]
  · have hge:i=a.length:=by have:=of_decide_eq_false hge;omega
    rw [hs,hge,List.drop_length,hab,List.drop_length]
    rfl
theorem SameLines_in [Stable Φ] {a b:List LineD} [hA:Has Φ (fun M w=>Sl M w p a)] [hB:Has Φ (fun M w=>Sl M w r b)] (hlen:a.length≤1000000) (hrow:∀ x∈a,x.row.length≤1000000) :
    GivesIn Φ Tryz.prog F.errataref43_SameLines #[.slice p a.length cap,.slice r b.length cap2] (.bool (decide (a=b))) :=
  ⟨fun W w S c=>by
    have hth:=(hA.go _ _ c.phi).there
    have hth2:=(hB.go _ _ c.phi).there
    obtain ⟨cs,c1⟩:=srcOf c (hA.go _ _ c.phi)
    obtain ⟨ds,c2⟩:=srcOf c1 (hB.go _ _ c.phi)
    exact (SameLines_src (Φ:=fun M w=>(Φ M w∧SrcF p a cs M w)∧SrcF r b ds M w) (src_fact (Φ:=fun M w=>(Φ M w∧SrcF p a cs M w)∧SrcF r b ds M w) hth (fun M w h=>h.1.2)) (src_fact (Φ:=fun M w=>(Φ M w∧SrcF p a cs M w)∧SrcF r b ds M w) hth2 (fun M w h=>h.2)) (rows7 c2.phi.1.2.2) (rows7 c2.phi.2.2) hlen hrow).use c2 fun w' c=>⟨rfl,c.fst.fst⟩⟩
end
end Go.Proofs.YtfccagphnfceiaaGreatDoor
end

section
namespace Go.Proofs.YtfccagphnfceiaaGreatDoor
open Go.Vc
def PrepI (s:SkD):Prop:=s.prep≠0→s.kind=0∧lastK s<s.prep
theorem PrepI.ok {s:SkD} (h:PrepI s):PrepOk s:=fun h0=>(h h0).2
theorem SkS.up {s:SkD} {n m:Nat} (h:SkS s n) (hm:n≤m):SkS s m:=⟨by have:=h.bats;omega,by have:=h.lines;omega,by have:=h.aside;omega,by have:=h.key;omega⟩
inductive Hid (k:Int) (s:SkD) (b:Int) (L:List LineD):Prop
  | prep (hk:k<2) (hh:hasK s b=false) (e:opK k s b L=(0,{ s with prep:=b,aside:=L }))
  | comm (hk:k=2) (hh:hasK s b=false) (h1:1≤b) (hb:b=s.prep) (e:opK k s b L=(0,{ takeK s b s.aside with prep:=0,aside:=[] }))
  | abort (hk:k=3) (hb:b=s.prep) (e:opK k s b L=(0,{ s with prep:=0,aside:=[] }))
  | none (e:(opK k s b L).2=s) (h:(opK k s b L).1=0→hasK s b=true) (h3:k=3→(opK k s b L).1≠0)
end Go.Proofs.YtfccagphnfceiaaGreatDoor
end

section
namespace Go.Proofs.YtfccagphnfceiaaGreatDoor
open Go.Vc
def lineS (x:LineD):ByteArray:=intB x.batch++intB x.time++textB (rowB x.row)++intB x.n++intB x.cause++intB x.why
def linesL (l:List LineD):List UInt8:=l.flatMap fun x=>(lineS x).data.toList
structure LineW (x:LineD):Prop where
  inn:x.In
  val:∀ v∈x.row,(I64 v.kind∧I64 v.num)∧v.text.size≤200
  row:x.row.length≤12
theorem rowB_small {r:List ValD} (h1:r.length≤12) (h2:∀ v∈r,(I64 v.kind∧I64 v.num)∧v.text.size≤200):(rowB r).size≤3189:=by
  have hL:=rowL_len h2 (by decide) (by omega)
  have:r.length*(200+64)≤12*264:=Nat.mul_le_mul h1 (Nat.le_refl _)
  unfold rowB
  rw [size_list];omega
theorem lineS_size {x:LineD} (h:LineW x):(lineS x).size≤3330:=by
  have h0:=intB_size h.inn.batch
  have h1:=intB_size h.inn.time
  have h2:=intB_size h.inn.n
  have h3:=intB_size h.inn.cause
  have h4:=intB_size h.inn.why
  have h5:=rowB_small h.row h.val
  have h6:=textB_size (s:=rowB x.row) (by omega)
  unfold lineS
  rw [size_app,size_app,size_app,size_app,size_app];omega
theorem linesL_len:∀ {l:List LineD},(∀ x∈l,LineW x)→(linesL l).length≤l.length*3330
  | [],_=>by simp [linesL]
  | x :: l,h=>by
    have ih:=linesL_len (l:=l) fun y hy=>h y (by simp [hy])
    have hx:=lineS_size (h x (by simp))
    show ((lineS x).data.toList++linesL l).length≤_
    rw [List.length_append,list_size,List.length_cons,Nat.add_mul];omega
theorem right_small {r:List ValD} (h:rightR r=true):∀ v∈r,v.text.size≤200:=fun v hv=>right_text2 h v hv
structure SkW (s:SkD):Prop where
  kind:I64 s.kind
  prep:I64 s.prep
  key:∀ x∈s.key,I64 x
  bats:∀ x∈s.bats,I64 x
  lines:∀ x∈s.lines,LineW x
  aside:∀ x∈s.aside,LineW x
theorem lines_wE {M:List Nat} {w:World} {cs:List Value} {l:List LineD} (h:Elems M w cs l) (hr:∀ x∈l,rightR x.row=true):∀ x∈l,LineW x:=fun x hx=>by
  have hrx:=hr x hx
  obtain ⟨i,hi,rfl⟩:=List.getElem_of_mem hx
  obtain ⟨r,rc,he,h1,h2,h3,h4⟩:=lrow h hi
  exact ⟨h3,fun v hv=>⟨(sl_i64 h4 v hv).1,right_small hrx v hv⟩,right_len hrx⟩
theorem lines_wS {M:List Nat} {w:World} {p:Option Addr} {l:List LineD} (h:Sl M w p l) (hr:∀ x∈l,rightR x.row=true):∀ x∈l,LineW x:=by
  rcases Nat.eq_zero_or_pos l.length with h0|h0
  · rw [List.eq_nil_of_length_eq_zero h0];exact fun x hx=>by simp at hx
  · obtain ⟨b,o,news,hp,g1,g2,g3,g4⟩:=h.cells line_one h0
    exact lines_wE g3 hr
theorem GivesQ.in {Φ:PW} {P:Program} {f:FuncId} {args:Array Value} {v:Value} (h:GivesQ [] Φ P f args v):GivesIn Φ P f args v:=⟨fun W w S c=>h.go W w S c⟩
section
variable {Φ:PW} {q:KP} {st:SkD} {W w:World} {R S G:List Own} {p:Option Addr} {cap:Nat}
end
end Go.Proofs.YtfccagphnfceiaaGreatDoor
end

