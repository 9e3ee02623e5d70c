/-
  A sink: Copy and Read,walked.
-/
import Derived.Test.YtfccagphnfceiaaGreatDoorCOn6
import Derived.Test.YtfccagphnfceiaaGreatDoorCOn8
import Derived.Test.YtfccagphnfceiaaGreatDoorCOn7
import Derived.Test.YtfccagphnfceiaaGreatDoorCOn5
import Derived.Maps.RangeRun
import Derived.Lib.AppendZerosOnto
import Derived.Lib.Overlaps
import Derived.Laws.IdiomCopy
import Derived.Laws.Externs
import Derived.Lib.LazyBuf
import Derived.Lib.SlBytesRow
import Derived.Laws.Cells
import Derived.Laws.IdiomRangeMap
import Derived.Laws.Bits128
import Derived.Laws.IdiomStrings

set_option linter.unusedVariables false
set_option linter.unusedSimpArgs false
section
namespace Go.Proofs.YtfccagphnfceiaaGreatDoor
open Go.Vc
theorem Ctx.mid {W w:World} {A B G:List Own} {x:Own} {Φ:PW} [Stable Φ] (c:Ctx W w ((x :: (A++B))++G) Φ):Ctx W w ((A++(x :: B))++G) Φ:=c.perm (by simpa using (List.perm_middle (l₁:=A) (a:=x) (l₂:=B++G)).symm)
theorem Ctx.front {W w:World} {A B G:List Own} {x:Own} {Φ:PW} [Stable Φ] (c:Ctx W w ((A++(x :: B))++G) Φ):Ctx W w ((x :: (A++B))++G) Φ:=c.perm (by simp)
theorem perm_rev3 {A T:List Own} {a b c:Own}:(A++(a :: b :: c :: T)).Perm (c :: b :: a :: (A++T)):=by
  have h:(A++([a,b,c]++T)).Perm ([a,b,c]++(A++T)):=by
    rw [←List.append_assoc,←List.append_assoc]
    exact List.Perm.append_right _ List.perm_append_comm
  exact h.trans ((List.reverse_perm [c,b,a]).append_right (A++T))
theorem Ctx.swapU {W w:World} {A B R G:List Own} {Φ:PW} [Stable Φ] (c:Ctx W w ((A++(B++R))++G) Φ):Ctx W w ((B++(A++R))++G) Φ:=c.perm (by
  rw [←List.append_assoc,←List.append_assoc B A]
  exact List.Perm.append_right _ (List.Perm.append_right _ List.perm_append_comm))
section
variable {Φ:PW} {q:KP} {st:SkD} {W w:World} {R S G:List Own} {p:Option Addr} {cap:Nat} {L:List LineD} {cs:List Value}
theorem CloneZ_new [Stable Φ] {l:List Int} (src:SrcZ S Φ p l) (hlen:l.length≤10000000) (c:Ctx W w S Φ) :
    Calls Tryz.prog F.slices_Clone_int_int #[.slice p l.length cap] w fun e w'=>∃ p' c',e=.returned (.slice p' l.length c')∧Ctx W w' (bufZ p' c' l :: S) Φ:=by
  refine (Bslices_Clone_int_int_run p l.length cap (J:=fun v w'=>∃ p' c',v=.slice p' l.length c'∧Ctx W w' (bufZ p' c' l :: S) Φ) c ?_).mono fun e w' ⟨v,he,p',c',hv,rest⟩=>⟨p',c',by rw [he,hv],rest⟩
  clear c
  refine Br.intro (fun hn=>fun w F c=>?_) (fun hn=>fun k w F c=>?_)
  · have hl:l=[]:=by
      rcases Nat.eq_zero_or_pos l.length with h0|h0
      · exact List.eq_nil_of_length_eq_zero h0
      · obtain ⟨b,o,e⟩:=src.ptr h0
        rw [e] at hn;cases hn
    subst hl
    exact ⟨none,0,rfl,c.left.buf0 3 1⟩
  · have c':Ctx W w (bufZ (some ⟨k,0,none⟩) 0 [] :: (S++F)) Φ:=c.toBuf 0 0 1 rfl (by simp) (by simp [maxLen])
    obtain ⟨i,z,e1,e2,e3,e4,e5,e6⟩:=appB_out (P:=Tryz.prog) (ts:=23) (t:=3) (size:=1) (bytes:=8) (by kernel_rfl)
    rcases Nat.eq_zero_or_pos l.length with h0|h0
    · have hl:l=[]:=List.eq_nil_of_length_eq_zero h0
      subst hl
      exact ⟨_,_,_,w,run_app (c'.append0 0 rfl e1 e2 p cap),bufZ (some ⟨k,0,none⟩) 0 [] :: S,Φ,inferInstance,c',fun w G c=>⟨some ⟨k,0,none⟩,0,rfl,c.left⟩⟩
    · obtain ⟨b,o,hp⟩:=src.ptr h0
      obtain ⟨p',cap',w',hrun,cx⟩:=c'.append 0 rfl (ty:=23) e1 e2 e3 e4 e5 (a:=⟨b,o,none⟩) (m:=l.length) (c2:=cap) (news:=l.map intv) h0 (by simp) (fun j u hj=>by
        rw [addr_add]
        rw [List.getElem?_map] at hj
        obtain ⟨y,hy,rfl⟩:=Option.map_eq_some_iff.1 hj
        obtain ⟨hjl,rfl⟩:=List.getElem?_eq_some_iff.1 hy
        exact src.rd hp c'.drop1 j hjl) (fun u hu=>by obtain ⟨y,_,rfl⟩:=List.mem_map.1 hu;rfl) (by rw [e6,List.length_nil];omega) (by rw [List.length_nil];omega)
      rw [←hp] at hrun
      have hz:([]:List Int).length+l.length=l.length:=Nat.zero_add _
      rw [hz] at hrun cx
      exact ⟨_,_,_,w',run_app hrun,bufZ p' cap' l :: S,Φ,inferInstance,cx,fun w G c=>⟨p',cap',rfl,c.left⟩⟩
theorem CloneL_sl [Stable Φ] {l:List LineD} [hΦ:Has Φ (fun M w=>Sl M w p l)] (hlen:l.length≤1000000):GivesSl Φ Tryz.prog F.slices_Clone_api_Line_api_Line #[.slice p l.length cap] l id :=
  .there (fun M w h=>(hΦ.go M w h).there) fun hth=>⟨fun W w S c=>by
    obtain ⟨cs,c1⟩:=srcOf c (hΦ.go _ _ c.phi)
    refine (CloneL_new (S:=S) (Φ:=fun M w=>Φ M w∧SrcF p l cs M w) (src_fact (Φ:=fun M w=>Φ M w∧SrcF p l cs M w) hth (fun M w h=>h.2)).app hlen c1).mono fun e w' ⟨p',c',cs',he,cx⟩=>?_
    obtain ⟨c2,hs,_,h2,h3⟩:=Ctx.freeze (α:=LineD) cx cx.phi.2
    exact ⟨p',c',he,h2,h3,(c2.add hs).weak fun M w h=>⟨h.1.1.1,h.2⟩⟩⟩
set_option maxHeartbeats 2000000 in
theorem Copy_to [Stable Φ] [hF:Has Φ (SkF q st)] (hq:SkQ q st) {n:Nat} (hs:SkS st n) (hn:n≤400000) (c:Ctx W w ((SkO q st++R)++G) Φ) {K:Option Addr→List Own→PW→Prop}
    (hk:∀ q':KP,SkQ q' st→Stable (fun M w=>Φ M w∧SkF q' st M w)→K (some ⟨q'.sb,0,none⟩) (SkO q' st++(SkO q st++R)) (fun M w=>Φ M w∧SkF q' st M w)) :
    Calls Tryz.prog F.sink_Sink_Copy #[snk q] w fun e w'=>∃ p,e=.returned (.pointer p)∧∃ R' Φ',Stable Φ'∧Ctx W w' (R'++G) Φ'∧K p R' Φ':=by
  have h1:=hs.lines
  have h2:=hs.aside
  have h3:=hs.bats
  have h4:=hs.key
  have hK:Has Φ (fun M w=>Sl M w q.kp st.key):=⟨fun M w h=>(hF.go M w h).2.1⟩
  refine (Bsink_Sink_Copy_run q.sb 0 (R:=(SkO q st++R)++G) (J:=fun v w'=>∃ p,v=.pointer p∧∃ R' Φ',Stable Φ'∧Ctx W w' (R'++G) Φ'∧K p R' Φ') c ?_).mono fun e w' ⟨v,he,p,hv,rest⟩=>⟨p,by rw [he,hv],rest⟩
  clear c
  refine fun w G2 cx=>⟨st.kind,q.kp,st.key.length,q.kc,q.bp,st.bats.length,q.bc,q.lp,st.lines.length,q.lc,st.prep,q.ap,st.aside.length,q.ac,cx.row0 0 rfl,fun k w G2 cx=>⟨cx.can 0 rfl (by show 0+6≤6;decide),fun w2 hw2=>?_⟩⟩
  have c2:Ctx W w2 (.blk k (SkB q st) 92 :: (SkO q st++(R++G))++G2) Φ:=Ctx.re (cx.puts 0 hw2 rfl) (by show Own.blk k (SkB q st) 92 :: (((SkO q st++R)++G)++G2)=_;simp)
  refine ⟨.blk k (SkB q st) 92 :: (SkO q st++(R++G)),Φ,inferInstance,c2,.blk k (SkB q st) 92 :: (SkO q st++(R++G)),Φ,inferInstance,fun w G cx=>cx,q.kp,st.key.length,q.kc,fun w G cx=>⟨_,_,_,cx.get 1 rfl rfl,rfl⟩,q.bp,st.bats.length,q.bc,fun w G cx=>⟨_,_,_,cx.get 1 rfl rfl,rfl⟩,q.lp,st.lines.length,q.lc,fun w G cx=>⟨_,_,_,cx.get 1 rfl rfl,rfl⟩,q.ap,st.aside.length,q.ac,fun w G cx=>⟨_,_,_,cx.get 1 rfl rfl,rfl⟩,?_⟩
  clear c2 cx
  refine fun w G2 cx=>(CloneZ_sl (l:=st.key) (by omega)).to cx fun p1 c1 f1 f2 st1=>⟨fun w G cx=>cx.fst,?_⟩
  clear cx
  refine fun w G2 cx=>(CloneZ_new (S:=(SkO q st++(.blk k (SkB q st) 92 :: (R++G)))++G2) (srcz_bats hq).app.app (by omega) (Ctx.mid cx)).mono fun e w' ⟨p2,c2,he,cx⟩=>⟨p2,_,c2,he,bufZ p2 c2 st.bats :: (SkO q st++(.blk k (SkB q st) 92 :: (R++G))),_,st1,cx,fun w G cx=>(Ctx.front cx.drop1).fst,?_⟩
  clear cx
  refine fun w G2 cx=>(CloneL_new (S:=(SkO q st++(bufZ p2 c2 st.bats :: .blk k (SkB q st) 92 :: (R++G)))++G2) (src_sk hq fun M w h=>(hF.go M w h.1).1).app.app (by omega) (Ctx.mid cx)).mono fun e w' ⟨p3,c3,cs3,he,cx⟩=>⟨p3,_,c3,he,bufL p3 st.lines.length c3 cs3 :: (SkO q st++(bufZ p2 c2 st.bats :: .blk k (SkB q st) 92 :: (R++G))),(fun M w=>(Φ M w∧Sl M w p1 st.key)∧Elems M w cs3 st.lines),instStableAnd (fun M w=>Φ M w∧Sl M w p1 st.key) (fun M w=>Elems M w cs3 st.lines),cx,fun w G cx=>?_,?_⟩
  · exact (Ctx.front (Ctx.drop1 (Ctx.front cx.drop1))).weak fun M w h=>h.1.1
  clear cx
  have st3:Stable (fun M w=>(Φ M w∧Sl M w p1 st.key)∧Elems M w cs3 st.lines):=instStableAnd (fun M w=>Φ M w∧Sl M w p1 st.key) (fun M w=>Elems M w cs3 st.lines)
  have hA:Has (fun M w=>(Φ M w∧Sl M w p1 st.key)∧Elems M w cs3 st.lines) (fun M w=>Sl M w q.ap st.aside):=⟨fun M w h=>(hF.go M w h.1.1).2.2⟩
  refine fun w G2 cx=>(CloneL_sl (l:=st.aside) (by omega)).to cx fun p4 c4 e1 e2 st4=>?_
  clear cx
  intro w G2 cx
  have c5:Ctx W w (.blk k (SkB q st) 92 :: bufZ p2 c2 st.bats :: bufL p3 st.lines.length c3 cs3 :: (SkO q st++(R++G))++G2) (fun M w=>((Φ M w∧Sl M w p1 st.key)∧Elems M w cs3 st.lines)∧Sl M w p4 st.aside):=(Ctx.mid cx).perm (List.Perm.append_right G2 perm_rev3)
  clear cx
  refine ⟨c5.can 0 rfl (by show 1+1≤6;decide),fun w2 hw2=>?_⟩
  have c6:=c5.put 0 hw2 rfl
  refine ⟨.blk k [.int .i64 st.kind,.slice p1 st.key.length c1,.slice q.bp st.bats.length q.bc,.slice q.lp st.lines.length q.lc,.int .i64 st.prep,.slice q.ap st.aside.length q.ac] 92 :: bufZ p2 c2 st.bats :: bufL p3 st.lines.length c3 cs3 :: (SkO q st++(R++G)),_,st4,c6,fun w G2 cx=>⟨cx.can 0 rfl (by show 2+1≤6;decide),fun w2 hw2=>?_⟩⟩
  have c7:=cx.put 0 hw2 rfl
  refine ⟨.blk k [.int .i64 st.kind,.slice p1 st.key.length c1,.slice p2 st.bats.length c2,.slice q.lp st.lines.length q.lc,.int .i64 st.prep,.slice q.ap st.aside.length q.ac] 92 :: bufZ p2 c2 st.bats :: bufL p3 st.lines.length c3 cs3 :: (SkO q st++(R++G)),_,st4,c7,fun w G2 cx=>⟨cx.can 0 rfl (by show 3+1≤6;decide),fun w2 hw2=>?_⟩⟩
  have c8:=cx.put 0 hw2 rfl
  refine ⟨.blk k [.int .i64 st.kind,.slice p1 st.key.length c1,.slice p2 st.bats.length c2,.slice p3 st.lines.length c3,.int .i64 st.prep,.slice q.ap st.aside.length q.ac] 92 :: bufZ p2 c2 st.bats :: bufL p3 st.lines.length c3 cs3 :: (SkO q st++(R++G)),_,st4,c8,fun w G2 cx=>⟨cx.can 0 rfl (by show 5+1≤6;decide),fun w2 hw2=>?_⟩⟩
  have c9:=cx.put 0 hw2 rfl
  obtain ⟨q',hqe⟩:∃ q':KP,q'=⟨k,p1,c1,p2,c2,p3,c3,cs3,p4,c4⟩:=⟨_,rfl⟩
  have c10:Ctx W w2 ((SkO q' st++(SkO q st++R))++(G++G2)) (fun M w=>Φ M w∧SkF q' st M w):=by
    rw [hqe]
    have c11:=c9.weak (Ψ:=fun M w=>Φ M w∧SkF ⟨k,p1,c1,p2,c2,p3,c3,cs3,p4,c4⟩ st M w) fun M w h=>⟨h.1.1.1,h.1.2,h.1.1.2,h.2⟩
    exact c11.re (by simp)
  have hq':SkQ q' st:=skq_of (S:=(SkO q st++R)++(G++G2)) (c10.re (by simp)) (by rw [hqe];exact ⟨f1,f2⟩) (by rw [hqe];exact ⟨e1,e2⟩)
  have hkk:=hk q' hq' inferInstance
  rw [show q'.sb=k by rw [hqe]] at hkk
  exact ⟨SkO q' st++(SkO q st++(R++G)),_,inferInstance,c10.re (by simp),fun w G3 cx=>⟨_,rfl,SkO q' st++(SkO q st++R),_,inferInstance,cx.left.re (by simp),hkk⟩⟩
theorem sk_cellI [Stable Φ] {w':World} {g n:Nat} {l:List LineD} (cx:Ctx W w (bufL (some ⟨g,0,none⟩) n cap cs :: S) (fun M w=>Φ M w∧Elems M w cs l)) {i:Nat} (x:LineD) {y:LineD} (hy:l[i]? = some y) {k:Nat} {v:Value}
    (hk:k<7) (hr:x.row=y.row) (hx:∀ p c,(y.cells p c).set k v=x.cells p c) (hin:y.In→x.In) (e:w'=w.setCell ⟨g,i*7+k,none⟩ v) :
    ∃ cs',Ctx W w' (bufL (some ⟨g,0,none⟩) n cap cs' :: S) (fun M w=>Φ M w∧Elems M w cs' (l.set i x)):=by
  obtain ⟨hi,rfl⟩:=List.getElem?_eq_some_iff.1 hy
  obtain ⟨cs',_,h⟩:=l_cell cx hi x hk hr hx hin e
  exact ⟨cs',h⟩
structure RdK (kind:Int) (key:List Int) (i n m:Nat) (st:SkD):Prop where
  kind:st.kind=kind
  key:st.key=key
  prep:st.prep=0
  aside:st.aside=[]
  bats:st.bats.length=i
  lines:st.lines.length+n=m
end
end Go.Proofs.YtfccagphnfceiaaGreatDoor
end

section
namespace Go.Proofs.YtfccagphnfceiaaGreatDoor
open Go.Vc
def formL (l:List ByteArray):Bs:=l.flatMap fun s=>(textB s).data.toList
def encB (b n:Nat):Bs:=(intB b).data.toList++(intB n).data.toList
structure JouS where
  base:Int
  cell:CelS
  list:List ByteArray
  bytes:Nat
  broken:Bool
def Enc (s:Nat) (v:Bs) (l:List ByteArray):Prop:=(s=0∧l=[])∨(s≠0∧v=encB (formL l).length l.length)
structure Live (d:DsS) (j:JouS):Prop where
  base:0≤j.base∧j.base≤14
  file:j.cell.file=j.base+1
  bytes:j.bytes=(formL j.list).length
  most:(formL j.list).length≤1048576
  now:CelAt (d.files (j.base+1)).now j.cell.slot j.cell.value
  last:CelAt (d.files (j.base+1)).last j.cell.slot j.cell.value
  enc:Enc j.cell.slot j.cell.value j.list
  log:Pre (formL j.list) (d.files j.base)
def JFut (d:DsS) (b:Int) (P:List ByteArray→Prop):Prop:=Fut (d.files (b+1)) fun s v=>∃ l,Enc s v l∧Pre (formL l) (d.files b)∧(formL l).length≤1048576∧P l
theorem Live.fut {d:DsS} {j:JouS} (h:Live d j) {P:List ByteArray→Prop} (hP:P j.list):JFut d j.base P:=fut_same h.now h.last ⟨j.list,h.enc,h.log,h.most,hP⟩
theorem JFut.mono {d:DsS} {b:Int} {P Q:List ByteArray→Prop} (h:JFut d b P) (hPQ:∀ l,P l→Q l):JFut d b Q:=Fut.mono h fun s v ⟨l,h1,h2,h3,h4⟩=>⟨l,h1,h2,h3,hPQ l h4⟩
theorem JFut.ev {d d':DsS} {b:Int} {P:List ByteArray→Prop} (h:JFut d b P) (h1:Ev (d.files (b+1)) (d'.files (b+1))) (h2:Ev (d.files b) (d'.files b)):JFut d' b P :=
  (h1.fut h).mono fun s v ⟨l,e1,e2,e3,e4⟩=>⟨l,e1,h2.pre e2,e3,e4⟩
theorem Live.frame {d d':DsS} {j:JouS} (h:Live d j) (hf:d'.files=d.files):Live d' j:=⟨h.base,h.file,h.bytes,h.most,by rw [hf];exact h.now,by rw [hf];exact h.last,h.enc,by rw [hf];exact h.log⟩
structure OpenR (d:DsS) (b:Int) (P:List ByteArray→Prop) (r:DsS × Option JouS × Int):Prop where
  w:DsW r.1
  other:∀ G,Ev (d.files G) (r.1.files G)∨(G=b∨G=b+1)
  fine:DsH d→DsH r.1∧r.2.2=0
  or:(∃ j,r.2.1=some j∧r.2.2=0∧Live r.1 j∧P j.list∧j.base=b∧j.broken=false)∨(r.2.1=none∧(r.2.2=9∨r.2.2=10)∧JFut r.1 b P)
structure DoneR (d:DsS) (j:JouS) (want:List ByteArray) (r:DsS × JouS × Int):Prop where
  w:DsW r.1
  other:∀ G,Ev (d.files G) (r.1.files G)∨(G=j.base∨G=j.base+1)
  fine:DsH d→DsH r.1∧r.2.2=0
  base:r.2.1.base=j.base
  or:(r.2.2=0∧r.2.1.broken=false∧r.2.1.list=want∧Live r.1 r.2.1)∨((r.2.2=9∨r.2.2=10)∧r.2.1.broken=true∧r.2.1.list=j.list∧JFut r.1 j.base fun l=>l=j.list∨l=want)
theorem DoneR.from {d d':DsS} {j:JouS} {want:List ByteArray} {r:DsS × JouS × Int} (h:DoneR d' j want r) (ho:∀ G,G≠j.base→Ev (d.files G) (d'.files G)) (hf:DsH d→DsH d'):DoneR d j want r :=
  ⟨h.w,fun G=>by
    by_cases hG:G=j.base
    · exact .inr (.inl hG)
    · rcases h.other G with h1|h1
      · exact .inl ((ho G hG).trans h1)
      · exact .inr h1,fun hh=>h.fine (hf hh),h.base,h.or⟩
end Go.Proofs.YtfccagphnfceiaaGreatDoor
end

section
namespace Go.Vc
variable {κ ν:Type} {kv:κ→Value} {vv:ν→Value} {z:ν}
theorem mem_erase_key {x:κ}:∀ {es:List (GEnt κ ν)} {n:Nat} {a:GEnt κ ν},es.Pairwise (fun a b=>a.key≠b.key)→es[n]? = some a→a.key=x→∀ e∈es.eraseIdx n,e.key≠x
  | [],_,_,_,h,_,_,_=>by simp at h
  | c :: es,0,a,hp,h,hk,e,he=>by
    have:c=a:=by simpa using h
    subst this
    rw [List.eraseIdx_cons_zero] at he
    exact fun h2=>(List.pairwise_cons.1 hp).1 e he (hk.trans h2.symm)
  | c :: es,n+1,a,hp,h,hk,e,he=>by
    obtain ⟨h1,h2⟩:=List.pairwise_cons.1 hp
    have h':es[n]? = some a:=by simpa using h
    rw [List.eraseIdx_cons_succ] at he
    rcases List.mem_cons.1 he with rfl|he
    · exact fun e2=>h1 a (List.mem_of_getElem? h') (e2.trans hk.symm)
    · exact mem_erase_key h2 h' hk e he
section
variable [DecidableEq κ] {P:Program} {t k e:TypeId} (T:GTy P t k e kv vv z)
include T
theorem run_deleteX {w:World} {b:Nat} {es:List (GEnt κ ν)} {clock:Nat} (ok:GOk es clock) (hb:w.heap[b]? = some (gObj kv vv es clock)) (x:κ) (kt ty:TypeId) (cs:Array Bool) :
    ∃ es1,Sem.run P (builtin Builtin.delete #[t,kt] ty cs #[.map (some b),kv x]) w=.ok (.value (.tuple #[])) (setB w b (gObj kv vv es1 clock))∧GOk es1 clock∧(∀ y,getG z es1 y=if y=x then z else getG z es y)∧es1.Sublist es∧∀ e∈es1,e.key≠x:=by
  have h1:=T.find x es w
  unfold gObj at hb
  have run:∀ es1:List (GEnt κ ν),(Builtin.delete_ #[t,kt] ty #[.map (some b),kv x]).run P w=.ok (.tuple #[]) (setB w b (gObj kv vv es1 clock))→Sem.run P (builtin Builtin.delete #[t,kt] ty cs #[.map (some b),kv x]) w=.ok (.value (.tuple #[])) (setB w b (gObj kv vv es1 clock)):=fun es1 h=>by
    unfold builtin
    simp only [Sem.run_bind,h,Result.andThen,Sem.run_pure]
  cases hf:findG vv es x 0 with
  | none =>
    have hn:=findG_none hf
    refine ⟨es,run _ ?_,ok,fun y=>?_,List.Sublist.refl _,hn⟩
    · have h3:=MapKept.run_setObj_map (P:=P) (.map (es.map (GEnt.m kv vv)).toArray clock) hb
      unfold Builtin.delete_
      rw [hf] at h1
      simp only [Array.getElem?_eq_getElem,List.size_toArray,List.length_cons,List.length_nil,Nat.zero_lt_succ,Nat.lt_add_one,List.getElem_toArray,List.getElem_cons_zero,List.getElem_cons_succ,Sem.run_bind,run_underlying T.map,MapKept.run_getObj_map hb,Result.andThen,T.chk,Sem.run_pure,h1,h3]
      rfl
    · by_cases hy:y=x
      · rw [if_pos hy,hy];exact getG_none hn
      · rw [if_neg hy]
  | some r =>
    obtain ⟨j,v⟩:=r
    obtain ⟨n,a,hj,ha,hk,hv,hg⟩:=findG_some (z:=z) hf
    have hj:j=n:=by omega
    subst hj
    have hlt:j<es.length:=(List.getElem?_eq_some_iff.1 ha).1
    refine ⟨es.eraseIdx j,run _ ?_,⟨ok.keys.sublist (List.eraseIdx_sublist _ _),ok.borns.sublist (List.eraseIdx_sublist _ _),fun e he=>ok.lt e ((List.eraseIdx_sublist _ _).mem he)⟩,getG_erase ok.keys ha hk,List.eraseIdx_sublist _ _,mem_erase_key ok.keys ha hk⟩
    have h3:=MapKept.run_setObj_map (P:=P) (.map ((es.map (GEnt.m kv vv)).toArray.eraseIdxIfInBounds j) clock) hb
    unfold Builtin.delete_
    rw [hf] at h1
    simp only [Array.getElem?_eq_getElem,List.size_toArray,List.length_cons,List.length_nil,Nat.zero_lt_succ,Nat.lt_add_one,List.getElem_toArray,List.getElem_cons_zero,List.getElem_cons_succ,Sem.run_bind,run_underlying T.map,MapKept.run_getObj_map hb,Result.andThen,T.chk,Sem.run_pure,h1,h3]
    congr 2
    unfold gObj
    refine congrArg (fun a=>w.heap.setIfInBounds b (Obj.map a clock)) ?_
    unfold Array.eraseIdxIfInBounds
    rw [dif_pos (by simpa using hlt)]
    apply Array.toList_inj.1
    simp
    exact erase_mapG es j
theorem run_updateX {w:World} {b:Nat} {es:List (GEnt κ ν)} {clock:Nat} (ok:GOk es clock) (hb:w.heap[b]? = some (gObj kv vv es clock)) (x:κ) (v:ν) (hx:∃ a∈es,a.key=x) :
    ∃ es1,Sem.run P (Instr.mapUpdate t (.map (some b)) (kv x) (vv v)) w=.ok () (setB w b (gObj kv vv es1 clock))∧GOk es1 clock∧(∀ y,getG z es1 y=if y=x then v else getG z es y)∧es1.map GEnt.key=es.map GEnt.key∧es1.map GEnt.born=es.map GEnt.born:=by
  have h1:=T.find x es w
  unfold gObj at hb
  cases hf:findG vv es x 0 with
  | none=>exact absurd hx fun ⟨a,ha,hk⟩=>findG_none hf a ha hk
  | some r =>
    obtain ⟨j,u⟩:=r
    obtain ⟨n,a,hj,ha,hk,hv,hg⟩:=findG_some (z:=z) hf
    have hj:j=n:=by omega
    subst hj
    have ha2:(es.map (GEnt.m kv vv)).toArray[j]? = some (GEnt.m kv vv a):=by simp [ha]
    have h3:=MapKept.run_setObj_map (P:=P) (.map ((es.map (GEnt.m kv vv)).toArray.modify j fun e=>{ e with key:=kv x,val:=vv v }) clock) hb
    refine ⟨es.modify j fun a=>{ a with val:=v },?_,⟨?_,?_,?_⟩,getG_set ok.keys ha hk,setG_keys _ _ _,setG_borns _ _ _⟩
    · unfold Instr.mapUpdate
      rw [hf] at h1
      simp only [Sem.run_bind,run_underlying T.map,MapKept.run_getObj_map hb,Result.andThen,T.chk,Sem.run_pure,h1,ha2,Option.map_some,Option.getD_some]
      rw [show (GEnt.m kv vv a).key=kv x by rw [←hk];rfl,T.stays x w]
      simp only [h3]
      congr 2
      unfold gObj
      refine congrArg (fun a=>w.heap.setIfInBounds b (Obj.map a clock)) ?_
      apply Array.ext'
      apply List.ext_getElem?
      intro i
      simp only [Array.toList_modify,List.getElem?_modify,List.getElem?_map]
      by_cases h:j=i
      · subst h
        rw [ha]
        simp [GEnt.m,hk]
      · simp [h]
    · have:=List.pairwise_map.2 ok.keys
      exact List.pairwise_map.1 (by rw [setG_keys];exact List.pairwise_map.2 ok.keys)
    · exact List.pairwise_map.1 (by rw [setG_borns];exact List.pairwise_map.2 ok.borns)
    · intro c hc
      have hm:c.born∈(es.modify j fun a=>{ a with val:=v }).map GEnt.born:=List.mem_map.2 ⟨c,hc,rfl⟩
      rw [setG_borns] at hm
      obtain ⟨d,hd,he⟩:=List.mem_map.1 hm
      rw [←he];exact ok.lt d hd
end
section
variable {P:Program} {w:World} {r bm since clock c0:Nat} {seen:Array Nat} {es:List (GEnt κ ν)}
theorem next_g (ty:TypeId) (hr:w.heap[r]? = some (.mapIter (some bm) since seen c0)) (hb:w.heap[bm]? = some (gObj kv vv es clock)) (hold:∀ e∈es,e.born<since) (hsc:since≤c0) :
    ((∀ e∈es,e.born∈seen.toList)∧(Instr.next (.pointer (some ⟨r,0,none⟩)) false ty).run P w=.ok (.tuple #[.bool false]) w) ∨
    ∃ a∈es,a.born ∉ seen.toList∧∃ w1:World,(w1=w∨w1=w.drewN 1)∧(Instr.next (.pointer (some ⟨r,0,none⟩)) false ty).run P w=.ok (.tuple #[.bool true,kv a.key,vv a.val]) (setB w1 r (.mapIter (some bm) since (seen.push a.born) clock)):=by
  have hmem:∀ x∈(es.map (GEnt.m kv vv)),∃ a∈es,GEnt.m kv vv a=x:=fun x hx=>by
    obtain ⟨a,ha,e⟩:=List.mem_map.1 hx
    exact ⟨a,ha,e⟩
  rcases run_next_at (P:=P) w ty r bm since c0 seen (es.map (GEnt.m kv vv)).toArray clock hr hb (fun x hx=>by
    obtain ⟨a,ha,rfl⟩:=hmem x hx
    exact hold a ha) hsc with ⟨h0,h1⟩|⟨x,hx,w1,hw,h1⟩
  · refine .inl ⟨fun a ha=>?_,h1⟩
    refine Classical.byContradiction fun hn=>?_
    have hin:GEnt.m kv vv a∈(leftOf (es.map (GEnt.m kv vv)).toArray seen).toList:=by
      unfold leftOf
      simp only [Array.toList_filter,List.mem_filter]
      refine ⟨List.mem_map.2 ⟨a,ha,rfl⟩,?_⟩
      have:¬ seen.contains a.born=true:=fun h=>hn (by simpa using h)
      simpa [GEnt.m] using this
    have:(leftOf (es.map (GEnt.m kv vv)).toArray seen).toList=[]:=by
      have:=Array.eq_empty_of_size_eq_zero h0
      rw [this]
    rw [this] at hin
    cases hin
  · unfold leftOf at hx
    simp only [Array.toList_filter,List.mem_filter] at hx
    obtain ⟨a,ha,rfl⟩:=hmem x hx.1
    refine .inr ⟨a,ha,fun h=>?_,w1,hw,h1⟩
    have h2:=hx.2
    simp [GEnt.m] at h2
    exact h2 (by simpa using h)
theorem entry_g {a:GEnt κ ν} (ok:GOk es clock) (hr:w.heap[r]? = some (.mapIter (some bm) since (seen.push a.born) clock)) (hb:w.heap[bm]? = some (gObj kv vv es clock)) (ha:a∈es) :
    (Instr.entry (.pointer (some ⟨r,0,none⟩))).run P w=.ok (.tuple #[kv a.key,vv a.val]) w:=by
  refine run_entry_at w r bm since seen (es.map (GEnt.m kv vv)).toArray clock (GEnt.m kv vv a) hr hb (List.mem_map.2 ⟨a,ha,rfl⟩) ?_
  have:((es.map (GEnt.m kv vv)).toArray.toList.map (·.born))=es.map GEnt.born:=by simp [GEnt.m,Function.comp_def]
  rw [this]
  exact List.nodup_iff_pairwise_ne.2 (List.pairwise_map.2 ok.borns)
def leftN (seen:List Nat) (es:List (GEnt κ ν)):Nat:=(es.filter fun e => !seen.contains e.born).length
theorem leftN_push {seen:List Nat} {es es1:List (GEnt κ ν)} {a:GEnt κ ν} (hs:(es1.map GEnt.born).Sublist (es.map GEnt.born)) (ha:a∈es) (hn:a.born ∉ seen) (hb:(es.map GEnt.born).Nodup) :
    leftN (seen++[a.born]) es1<leftN seen es:=by
  have key:∀ (l:List (GEnt κ ν)) (s:List Nat),leftN s l=((l.map GEnt.born).filter fun b => !s.contains b).length:=fun l s=>by
    unfold leftN
    rw [List.filter_map,List.length_map]
    rfl
  rw [key,key]
  have h1:((es1.map GEnt.born).filter fun b => !(seen++[a.born]).contains b).Sublist ((es.map GEnt.born).filter fun b => !(seen++[a.born]).contains b):=hs.filter _
  refine Nat.lt_of_le_of_lt h1.length_le ?_
  have h2:((es.map GEnt.born).filter fun b => !(seen++[a.born]).contains b)=((es.map GEnt.born).filter fun b => !seen.contains b).filter fun b=>b != a.born:=by
    rw [List.filter_filter]
    congr 1
    funext b
    rw [List.contains_append]
    cases h:seen.contains b<;>simp [bne]<;>rfl
  rw [h2]
  have hm:a.born∈(es.map GEnt.born).filter fun b => !seen.contains b:=List.mem_filter.2 ⟨List.mem_map.2 ⟨a,ha,rfl⟩,by simpa using hn⟩
  generalize (es.map GEnt.born).filter (fun b => !seen.contains b)=l at hm
  induction l with
  | nil=>cases hm
  | cons x l ih =>
    by_cases hx:x=a.born
    · rw [List.filter_cons_of_neg (by simp [hx])]
      exact Nat.lt_succ_of_le (List.length_filter_le _ _)
    · rw [List.filter_cons_of_pos (by simpa using hx),List.length_cons,List.length_cons]
      refine Nat.succ_lt_succ (ih ?_)
      rcases List.mem_cons.1 hm with h|h
      · exact absurd h.symm hx
      · exact h
end
end Go.Vc
end

section
namespace Go.Vc
theorem run_cpy {P:Program} {ats:Array TypeId} {ty:TypeId} {cs:Array Bool} {args:Array Value} {v:Value} {w w':World} (h:(Builtin.copy_ ats ty args).run P w=.ok v w'):Sem.run P (builtin Builtin.copy ats ty cs args) w=.ok (.value v) w':=by
  unfold builtin
  simp only [Sem.run_bind,h,Result.andThen,Sem.run_pure]
theorem setL_eq (vs cs:List Value) (o:Nat) (h:o+vs.length≤cs.length):setL cs o vs=cs.take o++vs++cs.drop (o+vs.length):=by
  apply List.ext_getElem?
  intro i
  by_cases h1:i<o
  · rw [setL_get _ _ _ _ (.inl h1),List.append_assoc,List.getElem?_append_left (by rw [List.length_take];omega),List.getElem?_take_of_lt h1]
  · by_cases h2:i<o+vs.length
    · obtain ⟨q,rfl⟩:∃ q,i=o+q:=⟨i - o,by omega⟩
      rw [setL_in _ _ _ _ (by omega) h,List.append_assoc,List.getElem?_append_right (by rw [List.length_take];omega),List.getElem?_append_left (by rw [List.length_take];omega)]
      congr 1
      rw [List.length_take]
      omega
    · rw [setL_get _ _ _ _ (.inr (by omega)),List.getElem?_append_right (by rw [List.length_append,List.length_take];omega),List.getElem?_drop]
      congr 1
      rw [List.length_append,List.length_take]
      omega
section
variable {P:Program} {W w:World} {S:List Own} {Φ:PW}
end
theorem subPtr_at (b sz k c:Nat) (h:k<c):subPtr (some ⟨b,0,none⟩) sz k c=some ⟨b,k*sz,none⟩:=by
  unfold subPtr
  rw [if_neg (by omega)]
  show some ((⟨b,0,none⟩:Addr).add (k*sz))=_
  rw [addr_add,Nat.zero_add]
theorem subPtr_ex (b sz k c:Nat):∃ o,subPtr (some ⟨b,0,none⟩) sz k c=some ⟨b,o,none⟩:=by
  unfold subPtr
  split
  · exact ⟨0,rfl⟩
  · refine ⟨k*sz,?_⟩
    show some ((⟨b,0,none⟩:Addr).add (k*sz))=_
    rw [addr_add,Nat.zero_add]
theorem subPtr_zero (b sz c:Nat):subPtr (some ⟨b,0,none⟩) sz 0 c=some ⟨b,0,none⟩:=by
  unfold subPtr
  split
  · rfl
  · show some ((⟨b,0,none⟩:Addr).add (0*sz))=_
    rw [addr_add,Nat.zero_mul]
structure InsF (P:Program) (sz:Nat) (ts tv ti t:TypeId) (bytes:Nat) (fo:FuncId):Prop where
  app:appB P ts t sz bytes=true
  var:P.underlying tv=some (.slice t)
  int:P.underlying ti=some (.int .i64)
  byt:bytes≤1000
  pos:0<sz
  over:∃ fn tr,P.funcs[fo]? = some fn∧(fn.name == "runtime.NumGoroutine")=false∧fn.body.isNone=true∧(Extern.findNext fn).isNone=true∧Extern.find fn=some (Extern.SlicesOverlaps.overlaps #[tv,tv] #[tr])
section
variable {P:Program} {W w:World} {S:List Own} {Φ:PW}
end
theorem run_clr {P:Program} {ats:Array TypeId} {ty:TypeId} {cs:Array Bool} {args:Array Value} {v:Value} {w w':World} (h:(Builtin.clear_ ats ty args).run P w=.ok v w'):Sem.run P (builtin Builtin.clear ats ty cs args) w=.ok (.value v) w':=by
  unfold builtin
  simp only [Sem.run_bind,h,Result.andThen,Sem.run_pure]
theorem run_clearN {P:Program} (w:World) (t e ty:TypeId) {i:TypeInfo} {z:Value} (ht:P.underlying t=some (.slice e)) (hi:P.info? e=some i) (hz:i.zero=some z) (b o n c:Nat) (hn:0<n)
    (hc:∀ j,j<(Builtin.zeroCells z.cells n).toList.length→(w.cell? ⟨b,o+j,none⟩).isSome=true) (hf:∀ j,j<(Builtin.zeroCells z.cells n).toList.length→w.frozen? ⟨b,o+j,none⟩=false) (h1:∀ v∈(Builtin.zeroCells z.cells n).toList,v.oneCell'=true) :
    (Builtin.clear_ #[t] ty #[.slice (some ⟨b,o,none⟩) n c]).run P w=.ok (.tuple #[]) (w.setCells b o (Builtin.zeroCells z.cells n).toList):=by
  have hst:=run_storeCells_cells (P:=P) b o (Builtin.zeroCells z.cells n).toList 0 w (by simpa using hc) (by simpa using hf) h1
  rw [Nat.add_zero] at hst
  obtain ⟨m,rfl⟩:∃ m,n=m+1:=⟨n - 1,by omega⟩
  simp [Builtin.clear_,run_underlying ht,zeroValue,typeInfo,hi,hz,hst]
def zeroB (P:Program) (t:TypeId):Bool:=match P.info? t with|some i=>(match i.zero with|some z=>z.cells.toList.all (fun u=>Value.oneCell' u)|none=>false)|none=>false
theorem zeroCells_mem (cs:Array Value) (n:Nat):∀ v∈(Builtin.zeroCells cs n).toList,v∈cs.toList:=by
  intro v hv
  unfold Builtin.zeroCells at hv
  rw [Array.toList_map] at hv
  obtain ⟨a,ha,rfl⟩:=List.mem_map.1 hv
  have ha:a<n*cs.size:=by simpa using ha
  have h0:0<cs.size:=by
    rcases Nat.eq_zero_or_pos cs.size with h|h
    · rw [h,Nat.mul_zero] at ha;omega
    · exact h
  have hlt:a % cs.size<cs.size:=Nat.mod_lt _ h0
  rw [getElem!_pos cs (a % cs.size) hlt]
  exact Array.getElem_mem_toList hlt
section
variable {P:Program} {W w:World} {S:List Own} {Φ:PW}
theorem Ctx.shrinkB [Stable Φ] {p:Option Addr} {n cap:Nat} {cs:List Value} {t:TypeId} {size:Nat} (c:Ctx W w (.buf p n cap cs t size :: S) Φ) {k:Nat} (hk:k≤n):Ctx W w (.buf p k cap (cs.take (k*size)) t size :: S) Φ:=by
  have hown:=c.own _ List.mem_cons_self
  have hmul:k*size≤n*size:=Nat.mul_le_mul_right _ hk
  refine c.upd (k:=0) (o':=.buf p k cap (cs.take (k*size)) t size) rfl (Chg.refl _ _) (fun x hx=>.inl (by cases p<;>exact hx)) (Own.nodup _) ?_
  obtain ⟨h1,h2⟩:=hown
  refine ⟨by rw [List.length_take,h1];omega,?_⟩
  rcases h2 with ⟨e,rfl⟩|⟨g,cap',cur,e,h3,hg,hnc,hcm,hcs,htake⟩
  · cases e
    have:k=0:=by omega
    subst this
    exact .inl ⟨rfl,by simp⟩
  · cases e
    exact .inr ⟨g,cap,cur,rfl,h3,hg,by omega,hcm,hcs,by rw [←htake,List.take_take,Nat.min_eq_left hmul]⟩
theorem Ctx.clearB [Stable Φ] {p:Option Addr} {n cap:Nat} {cs:List Value} {t:TypeId} {size bytes:Nat} (c:Ctx W w (.buf p n cap cs t size :: S) Φ) {b:Nat} (hp:p=some ⟨b,0,none⟩) {ts ty:TypeId} {kb:Array Bool} (hb:appB P ts t size bytes=true) (hz:zeroB P t=true) (hpos:0<size)
    {k:Nat} (hk:k≤n):∃ w',Sem.run P (builtin Builtin.clear #[ts] ty kb #[.slice (subPtr p size k cap) (n - k) (cap - k)]) w=.ok (.value (.tuple #[])) w'∧Ctx W w' (.buf p k cap (cs.take (k*size)) t size :: S) Φ:=by
  obtain ⟨i,z,e1,e2,e3,e4,e5,e6⟩:=appB_out hb
  subst hp e4
  have hz:z.cells.toList.all (fun u=>Value.oneCell' u)=true:=by unfold zeroB at hz;rw [e2] at hz;simp only [e3] at hz;exact hz
  obtain ⟨hcl,hnc,hcm⟩:=c.bufLen 0 rfl
  rcases Nat.eq_zero_or_pos (n - k) with h0|h0
  · obtain ⟨o,ho⟩:=subPtr_ex b i.size k cap
    rw [h0,ho]
    exact ⟨w,run_clr (by simp [Builtin.clear_,run_underlying e1]),c.shrinkB hk⟩
  · rw [subPtr_at b i.size k cap (by omega)]
    have hzl:(Builtin.zeroCells z.cells (n - k)).toList.length=(n - k)*i.size:=by rw [Array.length_toList,size_zeroCells,e5]
    have hsub:(n - k)*i.size=n*i.size - k*i.size:=Nat.sub_mul _ _ _
    have hmul:k*i.size≤n*i.size:=Nat.mul_le_mul_right _ hk
    have hn0:0<(n - k)*i.size:=Nat.mul_pos h0 hpos
    obtain ⟨b',hb',_,hcell⟩:=c.bufCell 0 rfl (by omega)
    cases hb'
    have hat:∀ j,(hj:j<(Builtin.zeroCells z.cells (n - k)).toList.length)→w.cell? ⟨b,k*i.size+j,none⟩=some (cs[k*i.size+j]'(by omega))∧w.frozen? ⟨b,k*i.size+j,none⟩=false:=fun j hj=>hcell _ _ (List.getElem?_eq_getElem _)
    refine ⟨_,run_clr (run_clearN w ts t ty e1 e2 e3 b (k*i.size) (n - k) (cap - k) h0 (fun j hj=>by rw [(hat j hj).1];rfl) (fun j hj=>(hat j hj).2) (fun v hv=>List.all_eq_true.1 hz v (zeroCells_mem _ _ v hv))),?_⟩
    have c2:=(c.bufPuts 0 rfl rfl (by omega) (by omega) rfl:Ctx W (w.setCells b (k*i.size) (Builtin.zeroCells z.cells (n - k)).toList) (.buf (some ⟨b,0,none⟩) n cap (setL cs (k*i.size) (Builtin.zeroCells z.cells (n - k)).toList) t i.size :: S) Φ)
    have c3:=c2.shrinkB hk
    rw [setL_eq _ _ _ (by omega),List.append_assoc,List.take_append_of_le_length (by rw [List.length_take];omega),List.take_take,Nat.min_self] at c3
    exact c3
end
end Go.Vc
end

section
namespace Go.Proofs.YtfccagphnfceiaaGreatDoor
open Go.Vc
abbrev filV (f:FilD):Value:=.agg #[.string (bs f.now),.string (bs f.last)]
abbrev secV (p:Int × Int):Value:=.agg #[.int .i64 p.1,.int .i64 p.2]
abbrev fil0:FilD:=⟨[],[]⟩
theorem filTy:GTy Tryz.prog 93 3 112 (Value.int .i64) filV fil0:=.ofInt (by kernel_rfl) (by kernel_rfl) (fun b x w=>by kernel_rfl) (fun w=>by kernel_rfl)
theorem secTy:GTy Tryz.prog 94 110 4 secV Value.bool false:=by
  refine .ofStruct (by kernel_rfl) ⟨_,Tryz.underlying110⟩ (fun b x w=>by kernel_rfl) (fun x w=>?_) (fun x y w=>?_) (fun w=>by kernel_rfl)
  · have:Instr.sameBits 10000 (secV x) (secV x)=true:=by
      unfold Instr.sameBits
      simp [Instr.sameBits]
    unfold Instr.keyThatStays
    rw [if_pos this];rfl
  · have hs:Tryz.prog.stoodInHeld 110=false:=by kernel_rfl
    obtain ⟨fs,ht⟩:∃ fs,Tryz.prog.underlying 110=some (.struct fs):=⟨_,Tryz.underlying110⟩
    have hf:Tryz.prog.fieldsOf 110=fs:=by simp [Program.fieldsOf,ht]
    have hr:eqFlat Tryz.prog #[.int .i64 x.1,.int .i64 x.2] #[.int .i64 y.1,.int .i64 y.2] (Tryz.prog.fieldsOf 110).toList=some (decide (x.1=y.1)&&(decide (x.2=y.2)&&true)):=by kernel_rfl
    have key:(Op.equalIn 10000 110 (secV x) (secV y)).run Tryz.prog w=.ok (decide (x.1=y.1)&&(decide (x.2=y.2)&&true)) w:=by
      rw [show (10000:Nat)=9999+1 from rfl,run_equalIn_struct w 9999 110 _ _ (by rw [hf];exact ht) hs]
      exact eqFlat_run hr
    have h2:Op.equal 110 (secV x) (secV y)=Op.equalIn 10000 110 (secV x) (secV y):=by delta Op.equal Op.maxDepth;exact Eq.refl _
    rw [h2,key]
    refine congrArg (fun b=>Result.ok b w) ?_
    rw [Bool.and_true,←Bool.decide_and]
    exact decide_eq_decide.2 ⟨fun h=>Prod.ext h.1 h.2,fun h=>by rw [h];exact ⟨rfl,rfl⟩⟩
structure DkP where
  db:Nat
  fm:Nat
  fes:List (GEnt Int FilD)
  fclk:Nat
  sm:Nat
  ses:List (GEnt (Int × Int) Bool)
  sclk:Nat
  qp:Option Addr
  qc:Nat
  kp:Option Addr
  kc:Nat
abbrev secC (l:List (Int × Int)):List Value:=l.flatMap fun p=>[.int .i64 p.1,.int .i64 p.2]
abbrev dkB (q:DkP) (d:DsS):List Value:=[.map (some q.fm),.slice q.qp d.queue.length q.qc,.map (some q.sm),.int .i64 d.lost,.bool d.down,.int .i64 d.armed,.slice q.kp d.keep.length q.kc]
def dkL (q:DkP) (d:DsS):List Own:=[.blk q.db (dkB q d) 97,.obj q.fm (gObj (Value.int .i64) filV q.fes q.fclk),.obj q.sm (gObj secV Value.bool q.ses q.sclk),.buf q.qp d.queue.length q.qc (secC d.queue) 110 2]
structure DkQ (q:DkP) (d:DsS):Prop where
  fok:GOk q.fes q.fclk
  sok:GOk q.ses q.sclk
  fget:∀ k,getG fil0 q.fes k=d.files k
  sget:∀ p,getG false q.ses p=decide (p∈d.queue)
  nodup:d.queue.Nodup
  range:∀ p∈d.queue,(0≤p.1∧p.1<16)∧0≤p.2∧p.2<262145
  size:∀ k,(d.files k).now.length≤16777216∧(d.files k).last.length≤16777216
  lost:0≤d.lost∧d.lost≤9223372036854775807
  armed:0≤d.armed∧d.armed≤9223372036854775807
theorem DkQ.w {q:DkP} {d:DsS} (h:DkQ q d):DsW d:=fun p hp=>(h.range p hp).2.1
abbrev dkF (q:DkP) (d:DsS):PW:=fun M w=>Sl M w q.kp d.keep
theorem secC_len (l:List (Int × Int)):(secC l).length=l.length*2:=by
  induction l with
  | nil=>rfl
  | cons x l ih =>
    show ((.int .i64 x.1 :: .int .i64 x.2 :: secC l)).length=_
    rw [List.length_cons,List.length_cons,ih,List.length_cons];omega
theorem secC_at {l:List (Int × Int)} {i:Nat} (h:i<l.length):((secC l).drop (i*2)).take 2=[.int .i64 l[i].1,.int .i64 l[i].2]:=by
  induction l generalizing i with
  | nil=>cases h
  | cons x l ih =>
    cases i with
    | zero=>rfl
    | succ i =>
      have:=ih (i:=i) (by simpa using h)
      show ((.int .i64 x.1 :: .int .i64 x.2 :: secC l).drop ((i+1)*2)).take 2=_
      rw [show (i+1)*2=i*2+2 by omega,List.drop_succ_cons,List.drop_succ_cons,this]
      rfl
theorem nodup_lt:∀ (n:Nat) (l:List Nat),l.Nodup→(∀ x∈l,x<n)→l.length≤n
  | 0,l,_,h=>by
    cases l with
    | nil=>exact Nat.le_refl _
    | cons x l=>have:=h x (by simp);omega
  | n+1,l,hd,h=>by
    have h1:=nodup_lt n (l.filter (· != n)) (hd.filter _) fun x hx=>by
      have h2:=List.mem_filter.1 hx
      have h3:=h x h2.1
      have h4:x≠n:=by simpa using h2.2
      omega
    have h2:l.length≤(l.filter (· != n)).length+1:=by
      clear h h1
      induction l with
      | nil=>simp
      | cons x l ih =>
        obtain ⟨hx,hl⟩:=List.nodup_cons.1 hd
        by_cases e:x=n
        · have:l.filter (· != n)=l:=List.filter_eq_self.2 fun y hy=>by
            have:y≠n:=fun e2=>hx (by rw [e,←e2];exact hy)
            simpa using this
          rw [List.filter_cons_of_neg (by simp [e]),this,List.length_cons];exact Nat.le_refl _
        · rw [List.filter_cons_of_pos (by simpa using e),List.length_cons,List.length_cons]
          have:=ih hl
          omega
    omega
theorem queue_len {l:List (Int × Int)} (hd:l.Nodup) (h:∀ p∈l,(0≤p.1∧p.1<16)∧0≤p.2∧p.2<262145):l.length≤4194320:=by
  have h1:=nodup_lt 4194320 (l.map fun p=>p.1.toNat*262145+p.2.toNat) (by
    refine List.nodup_iff_pairwise_ne.2 (List.pairwise_map.2 ?_)
    refine (List.nodup_iff_pairwise_ne.1 hd).imp_of_mem fun {a b} ha hb hab e=>hab ?_
    have h1:=h a ha
    have h2:=h b hb
    exact Prod.ext (by omega) (by omega)) (fun x hx=>by
    obtain ⟨p,hp,rfl⟩:=List.mem_map.1 hx
    have:=h p hp
    omega)
  rw [List.length_map] at h1
  exact h1
theorem DkQ.qlen {q:DkP} {d:DsS} (h:DkQ q d):d.queue.length≤4194320:=queue_len h.nodup h.range
section
variable {W w:World} {S G:List Own} {Φ:PW}
theorem dk_blk {q:DkP} {d:DsS} (cx:Ctx W w (dkL q d++S) Φ) {i:Nat} {v:Value} (h:(dkB q d)[i]? = some v):w.cell? ⟨q.db,i,none⟩=some v:=cx.get 0 rfl h
theorem dk_fm {q:DkP} {d:DsS} (cx:Ctx W w (dkL q d++S) Φ):w.heap[q.fm]? = some (gObj (Value.int .i64) filV q.fes q.fclk):=cx.own (.obj q.fm (gObj (Value.int .i64) filV q.fes q.fclk)) (by simp [dkL])
theorem dk_sm {q:DkP} {d:DsS} (cx:Ctx W w (dkL q d++S) Φ):w.heap[q.sm]? = some (gObj secV Value.bool q.ses q.sclk):=cx.own (.obj q.sm (gObj secV Value.bool q.ses q.sclk)) (by simp [dkL])
theorem DNew_use [Stable Φ] (cx:Ctx W w S Φ) {K:Ending→World→Prop} (hk:∀ q w',DkQ q dsNew→Ctx W w' (dkL q dsNew++S) (fun M w=>Φ M w∧dkF q dsNew M w)→K (.returned (.pointer (some ⟨q.db,0,none⟩))) w'):Calls Tryz.prog F.disk_New #[] w K:=by
  refine (Bdisk_New_run (J:=fun u w'=>K (.returned u) w') cx fun k0 k1 k2 w G cx=>?_).mono fun e w' ⟨v,he,hj⟩=>by rw [he];exact hj
  refine hk ⟨k2,k0,[],0,k1,[],0,none,0,none,0⟩ w ⟨⟨.nil,.nil,by simp⟩,⟨.nil,.nil,by simp⟩,fun k=>rfl,fun p=>rfl,List.nodup_nil,fun p hp=>(by cases hp),fun k=>⟨Nat.zero_le _,Nat.zero_le _⟩,⟨Int.le_refl 0,by decide⟩,⟨Int.le_refl 0,by decide⟩⟩ ?_
  have c1:Ctx W w (.buf none 0 0 [] 110 2 :: (.blk k2 (dkB ⟨k2,k0,[],0,k1,[],0,none,0,none,0⟩ dsNew) 97 :: .obj k1 (.map #[] 0) :: .obj k0 (.map #[] 0) :: S)) (fun M w=>Φ M w∧Sl M w none ([]:List Int)):=(Ctx.left (S:=.blk k2 (dkB ⟨k2,k0,[],0,k1,[],0,none,0,none,0⟩ dsNew) 97 :: .obj k1 (.map #[] 0) :: .obj k0 (.map #[] 0) :: S) cx).weak (fun M w h=>⟨h,Sl.nil⟩) |>.nobuf 110 2
  refine c1.perm ?_
  show (Own.buf none 0 0 [] 110 2 :: .blk k2 _ 97 :: .obj k1 (.map #[] 0) :: .obj k0 (.map #[] 0) :: S).Perm (.blk k2 _ 97 :: .obj k0 (.map #[] 0) :: .obj k1 (.map #[] 0) :: .buf none 0 0 [] 110 2 :: S)
  refine (List.Perm.swap _ _ _).trans (List.Perm.cons _ ?_)
  refine (List.Perm.swap _ _ _).trans ?_
  refine (List.Perm.cons _ (List.Perm.swap _ _ _)).trans ?_
  exact (List.Perm.swap _ _ _)
theorem may_use [Stable Φ] {q:DkP} {d:DsS} {f:Int} (cx:Ctx W w (dkL q d++S) Φ) {K:Ending→World→Prop} (hk:∀ w',Ctx W w' (dkL q d++S) Φ→K (.returned (.int .i64 (mayS d f))) w'):Calls Tryz.prog F.disk_Disk_may #[.pointer (some ⟨q.db,0,none⟩),.int .i64 f] w K:=by
  refine (Bdisk_Disk_may_run q.db 0 f (J:=fun u w'=>K (.returned u) w') cx fun w G cx=>⟨d.down,dk_blk cx.left rfl,Br.intro (fun h=>fun w G cx=>?_) (fun h=>fun w G cx=>Br.intro (fun h2=>fun w G cx=>?_) (fun h2=>fun w G cx=>?_))⟩).mono fun e w' ⟨v,he,hj⟩=>by rw [he];exact hj
  · have e:mayS d f=9:=by unfold mayS;rw [if_pos h]
    rw [←e];exact hk w cx.left
  · have e:mayS d f=1:=by unfold mayS;rw [if_neg (by rw [h];simp),if_pos (by simpa using h2)]
    rw [←e];exact hk w cx.left
  · have e:mayS d f=0:=by unfold mayS;rw [if_neg (by rw [h];simp),if_neg (by simpa using h2)]
    rw [←e];exact hk w cx.left
theorem ends_use [Stable Φ] {q:DkP} {d:DsS} (hq:DkQ q d) (cx:Ctx W w (dkL q d++S) Φ) {K:Ending→World→Prop} (hk:∀ w',DkQ q (tickS d)→Ctx W w' (dkL q (tickS d)++S) Φ→K (.returned (.bool (endsB d))) w'):Calls Tryz.prog F.disk_Disk_ends #[.pointer (some ⟨q.db,0,none⟩)] w K:=by
  have ha:=hq.armed
  refine (Bdisk_Disk_ends_run q.db 0 (J:=fun u w'=>K (.returned u) w') cx fun w G cx=>⟨d.down,dk_blk cx.left rfl,d.armed,fun _=>dk_blk cx.left rfl,Br.intro (fun h=>fun w G cx=>?_) (fun h=>fun w G cx=>⟨d.armed,dk_blk cx.left rfl,by unfold I64;omega,fun w G cx=>⟨cx.can 0 rfl (by show 0+5+1≤7;omega),fun w' hw'=>?_⟩⟩)⟩).mono fun e w' ⟨v,he,hj⟩=>by rw [he];exact hj
  · have h:d.down=true∨d.armed=0:=by simpa using h
    have e:tickS d=d:=by unfold tickS;rw [if_pos h]
    have e2:endsB d=false:=by
      unfold endsB
      rcases h with h|h
      · rw [h];rfl
      · rw [h];simp
    rw [e] at hk
    rw [←e2]
    exact hk w hq cx.left
  · have h:¬ (d.down=true∨d.armed=0):=by simpa using h
    have e:tickS d={ d with armed:=d.armed - 1 }:=by unfold tickS;rw [if_neg h]
    have hdn:d.down=false:=by
      cases hd:d.down with
      | true=>exact absurd (.inl hd) h
      | false=>rfl
    rw [e] at hk
    have cx1:=cx.put 0 hw' rfl
    refine ⟨dkL q { d with armed:=d.armed - 1 }++S,Φ,inferInstance,cx1,fun w G cx=>⟨d.armed - 1,dk_blk cx.left rfl,fun w G cx=>?_⟩⟩
    have e2:decide (d.armed - 1=0)=endsB d:=by
      unfold endsB
      rw [hdn]
      exact decide_eq_decide.2 ⟨fun h=>by omega,fun h=>by omega⟩
    rw [e2]
    exact hk w ⟨hq.fok,hq.sok,hq.fget,hq.sget,hq.nodup,hq.range,hq.size,hq.lost,⟨by show 0≤d.armed - 1;omega,by show d.armed - 1≤_;omega⟩⟩ cx.left
theorem Lose_use [Stable Φ] {q:DkP} {d:DsS} (hq:DkQ q d) {n:Int} (hn:I64 n) (cx:Ctx W w (dkL q d++S) Φ) {K:Ending→World→Prop} (hk:∀ w',DkQ q (loseS d n)→Ctx W w' (dkL q (loseS d n)++S) Φ→K (.returned (.tuple #[])) w'):Calls Tryz.prog F.disk_Disk_Lose #[.pointer (some ⟨q.db,0,none⟩),.int .i64 n] w K:=by
  unfold I64 at hn
  refine (Bdisk_Disk_Lose_run q.db 0 n (J:=fun u w'=>K (.returned u) w') cx fun w G cx=>⟨cx.can 0 rfl (by show 0+3+1≤7;omega),fun w' hw'=>?_⟩).mono fun e w' ⟨v,he,hj⟩=>by rw [he];exact hj
  have cx1:=cx.put 0 hw' rfl
  exact ⟨dkL q (loseS d n)++S,Φ,inferInstance,cx1,fun w G cx=>hk w ⟨hq.fok,hq.sok,hq.fget,hq.sget,hq.nodup,hq.range,hq.size,⟨by show 0≤max n 0;omega,by show max n 0≤_;omega⟩,hq.armed⟩ cx.left⟩
theorem Start_use [Stable Φ] {q:DkP} {d:DsS} (hq:DkQ q d) (cx:Ctx W w (dkL q d++S) Φ) {K:Ending→World→Prop} (hk:∀ w',DkQ q (startS d)→Ctx W w' (dkL q (startS d)++S) Φ→K (.returned (.tuple #[])) w'):Calls Tryz.prog F.disk_Disk_Start #[.pointer (some ⟨q.db,0,none⟩)] w K:=by
  refine (Bdisk_Disk_Start_run q.db 0 (J:=fun u w'=>K (.returned u) w') cx fun w G cx=>⟨cx.can 0 rfl (by show 0+4+1≤7;omega),fun w' hw'=>?_⟩).mono fun e w' ⟨v,he,hj⟩=>by rw [he];exact hj
  have cx1:=cx.put 0 hw' rfl
  exact ⟨dkL q (startS d)++S,Φ,inferInstance,cx1,fun w G cx=>hk w ⟨hq.fok,hq.sok,hq.fget,hq.sget,hq.nodup,hq.range,hq.size,hq.lost,hq.armed⟩ cx.left⟩
theorem bs_extract (l:Bs) (a b:Nat):(bs l).extract a b=bs ((l.drop a).take (b - a)):=by
  apply ByteArray.ext
  apply Array.toList_inj.1
  rw [Go.Lib.extract_data]
  rfl
theorem DRead_use [Stable Φ] {q:DkP} {d:DsS} (hq:DkQ q d) {f a n:Int} (cx:Ctx W w (dkL q d++S) Φ) {K:Ending→World→Prop} (hk:∀ w',Ctx W w' (dkL q d++S) Φ→K (.returned (.tuple #[.string (bs (readS d f a n).1),.int .i64 (readS d f a n).2])) w'):Calls Tryz.prog F.disk_Disk_Read #[.pointer (some ⟨q.db,0,none⟩),.int .i64 f,.int .i64 a,.int .i64 n] w K:=by
  refine (Bdisk_Disk_Read_run q.db 0 f a n (J:=fun u w'=>K (.returned u) w') cx fun w G cx=>may_use (S:=S++G) (cx.re (List.append_assoc _ _ _)) fun w cx=>⟨_,rfl,dkL q d++S,Φ,inferInstance,cx.re (List.append_assoc _ _ _).symm,Br.intro (fun h=>fun w G cx=>?_) (fun h=>fun w G cx=>Br.intro (fun h2=>fun w G cx=>?_) (fun h2=>fun w G cx=>?_))⟩).mono fun e w' ⟨v,he,hj⟩=>by rw [he];exact hj
  · have e:readS d f a n=([],mayS d f):=by unfold readS;rw [if_pos (of_decide_eq_true h)]
    rw [e] at hk
    exact hk w cx.left
  · have e:readS d f a n=([],1):=by unfold readS;rw [if_neg (of_decide_eq_false h),if_pos (by simpa using h2)]
    rw [e] at hk
    exact hk w cx.left
  · have h2:¬ (a<0∨n<0):=by simpa using h2
    have e:readS d f a n=(((d.files f).now.drop a.toNat).take n.toNat,0):=by unfold readS;rw [if_neg (of_decide_eq_false h),if_neg h2]
    rw [e] at hk
    have hfg:=hq.fget f
    refine ⟨some q.fm,dk_blk cx.left rfl,fun w G cx=>⟨bs (d.files f).now,bs (d.files f).last,fun w2 hw2=>?_,?_,?_,fun w G cx=>?_⟩⟩
    · have hr:=run_lookupG (P:=Tryz.prog) filTy (w:=w2) (by rw [hw2];exact dk_fm cx.left) f
      rw [hfg] at hr
      exact hr
    · rw [bs_size]
      omega
    · rw [bs_extract,bs_size]
      omega
    · have key:(((bs (d.files f).now).extract (min a ((bs (d.files f).now).size:Int)).toNat (bs (d.files f).now).size).extract 0 (min n (((bs (d.files f).now).extract (min a ((bs (d.files f).now).size:Int)).toNat (bs (d.files f).now).size).size:Int)).toNat)=bs (((d.files f).now.drop a.toNat).take n.toNat):=by
        rw [bs_extract,bs_extract,bs_size,bs_size,List.drop_zero,Nat.sub_zero]
        congr 1
        have e1:(((d.files f).now.drop (min a ((d.files f).now.length:Int)).toNat).take ((d.files f).now.length - (min a ((d.files f).now.length:Int)).toNat))=(d.files f).now.drop a.toNat:=by
          by_cases ha:a≤((d.files f).now.length:Int)
          · rw [show (min a ((d.files f).now.length:Int)).toNat=a.toNat by omega,List.take_of_length_le (by rw [List.length_drop];exact Nat.le_refl _)]
          · rw [show (min a ((d.files f).now.length:Int)).toNat=(d.files f).now.length by omega,List.drop_length,List.take_nil,List.drop_eq_nil_of_le (by omega)]
        rw [e1]
        by_cases hn:n≤(((d.files f).now.drop a.toNat).length:Int)
        · rw [show (min n (((d.files f).now.drop a.toNat).length:Int)).toNat=n.toNat by omega]
        · rw [show (min n (((d.files f).now.drop a.toNat).length:Int)).toNat=((d.files f).now.drop a.toNat).length by omega,List.take_length,List.take_of_length_le (by omega)]
      rw [key]
      exact hk w cx.left
end
end Go.Proofs.YtfccagphnfceiaaGreatDoor
end

section
namespace Go.Proofs.YtfccagphnfceiaaGreatDoor
open Go.Vc
theorem bs_nilJ {l:Bs}:(bs l=ByteArray.mk #[]) ↔ l=[]:=(bs_inj (b:=[]))
abbrev bB (l:Bs):List Value:=l.map fun x=>Value.int .u8 (x.toNat:Int)
theorem bB_len (l:Bs):(bB l).length=l.length:=by simp [bB]
theorem put_cells {s t:Bs} {a:Nat} (h:t≠[]):setL (setL (List.replicate (max s.length (a+t.length)) (Value.int .u8 0)) 0 (bB s)) a (bB t)=bB (putL s a t):=by
  have e1:setL (List.replicate (max s.length (a+t.length)) (Value.int .u8 0)) 0 (bB s)=bB (s++List.replicate (max s.length (a+t.length) - s.length) 0):=by
    rw [setL_eq _ _ _ (by rw [bB_len,List.length_replicate];omega),bB_len,List.take_zero,List.nil_append,Nat.zero_add,List.drop_replicate]
    unfold bB
    rw [List.map_append,List.map_replicate]
    rfl
  rw [e1,setL_eq _ _ _ (by rw [bB_len,bB_len,List.length_append,List.length_replicate];omega),bB_len]
  unfold bB
  rw [←List.map_take,←List.map_drop,←List.map_append,←List.map_append,putL_ne h]
  congr 1
  rw [List.take_append,List.drop_append,List.take_replicate,List.drop_replicate,show min (a - s.length) (max s.length (a+t.length) - s.length)=a - s.length by omega,show max s.length (a+t.length) - s.length - (a+t.length - s.length)=0 by omega,List.replicate_zero,List.append_nil]
section
variable {W w:World} {S G:List Own} {Φ:PW}
theorem copy_str {w:World} {S:List Own} [Stable Φ] {b o n c:Nat} {cs:List Value} {t:Bs} (cx:Ctx W w (.blk b cs 5 :: S) Φ) (h:t.length≤n) (hc:o+t.length≤cs.length) :
    Sem.run Tryz.prog (builtin Builtin.copy #[129,9] 3 #[false,false] #[.slice (some ⟨b,o,none⟩) n c,.string (bs t)]) w=.ok (.value (.int .i64 t.length)) (w.setCells b o (bB t))∧Ctx W (w.setCells b o (bB t)) (.blk b (setL cs o (bB t)) 5 :: S) Φ:=by
  have hcan:CanWrite w b o t.length:=cx.can 0 rfl hc
  refine ⟨?_,cx.puts 0 rfl rfl⟩
  refine run_cpy ?_
  have:=run_copy_string (P:=Tryz.prog) w 129 9 3 5 b o n c (bs t) Tryz.underlying129 (fun w=>by kernel_rfl) (by rw [bs_size];exact h) (fun j hj=>(hcan j (by rw [bs_size] at hj;exact hj)).1) (fun j hj=>(hcan j (by rw [bs_size] at hj;exact hj)).2)
  rw [bs_size] at this
  exact this
theorem put_use [Stable Φ] (cx:Ctx W w S Φ) {s t:Bs} {a:Nat} (ha:a+t.length≤16777216) (hs:s.length≤16777216) {K:Ending→World→Prop} (hk:∀ w',Ctx W w' S Φ→K (.returned (.string (bs (putL s a t)))) w'):Calls Tryz.prog F.disk_put #[.string (bs s),.int .i64 (a:Int),.string (bs t)] w K:=by
  refine (Bdisk_put_run (bs s) (a:Int) (bs t) (J:=fun u w'=>K (.returned u) w') cx ?_).mono fun e w' ⟨v,he,hj⟩=>by rw [he];exact hj
  refine Br.intro (fun h=>fun w G cx=>?_) (fun h=>?_)
  · rw [bs_nilJ.1 (of_decide_eq_true h),putL_nil] at hk
    exact hk w cx.left
  have hne:t≠[]:=fun e=>by rw [e] at h;exact absurd h (by decide)
  have hlen:0<t.length:=List.length_pos_iff.2 hne
  rw [bs_size,bs_size,show max (s.length:Int) ((a:Int)+(t.length:Int))=((max s.length (a+t.length):Nat):Int) by omega]
  generalize hN:max s.length (a+t.length)=N
  have hN2:a+t.length≤N∧s.length≤N∧N≤16777216:=by omega
  rw [Int.toNat_natCast]
  refine ⟨by unfold I64;omega,by omega,fun k2 w G cx=>?_⟩
  have cx:Ctx W w (.blk k2 (List.replicate N (Value.int .u8 0)) 5 :: (S++G)) Φ:=cx
  obtain ⟨h1,c1⟩:=copy_str (t:=s) (o:=0) (n:=N) (c:=N) cx hN2.2.1 (by rw [List.length_replicate];omega)
  refine ⟨_,_,h1,.blk k2 (setL (List.replicate N (Value.int .u8 0)) 0 (bB s)) 5 :: S,Φ,inferInstance,c1,⟨by omega,by omega,by omega⟩,fun w G cx=>?_⟩
  have cx:Ctx W w (.blk k2 (setL (List.replicate N (Value.int .u8 0)) 0 (bB s)) 5 :: (S++G)) Φ:=cx
  rw [Int.toNat_natCast,subPtr_at _ _ _ _ (by omega),Nat.mul_one]
  obtain ⟨h2,c2⟩:=copy_str (t:=t) (o:=a) (n:=N - a) (c:=N - a) cx (by omega) (by rw [setL_eq _ _ _ (by rw [bB_len,List.length_replicate];omega)];simp only [List.length_append,List.length_take,List.length_drop,List.length_replicate,bB_len];omega)
  rw [←hN,put_cells hne] at c2
  refine ⟨_,_,h2,.blk k2 (bB (putL s a t)) 5 :: S,Φ,inferInstance,c2,fun w G cx=>?_⟩
  have cx:Ctx W w (.blk k2 (bB (putL s a t)) 5 :: (S++G)) Φ:=cx
  have hb:Lib.Bytes w k2 0 (bs (putL s a t)):=fun i hi=>by
    have:=cx.get 0 rfl (b:=k2) (i:=i) (v:=.int .u8 ((putL s a t)[i]'(by rw [bs_size] at hi;exact hi)).toNat) (by rw [List.getElem?_map,List.getElem?_eq_getElem (by rw [bs_size] at hi;exact hi)];rfl)
    rw [Nat.zero_add]
    exact this
  have hc:=Lib.run_convert_whole (P:=Tryz.prog) w 129 5 9 Tryz.underlying129 Tryz.underlying5 Tryz.underlying9 k2 0 _ hb N
  rw [bs_size,putL_length hne,hN] at hc
  exact ⟨_,_,hc,.blk k2 (bB (putL s a t)) 5 :: S,Φ,inferInstance,cx,fun w G cx=>hk w (Ctx.left (Ctx.drop1 (S:=S++G) cx))⟩
end
end Go.Proofs.YtfccagphnfceiaaGreatDoor
end

section
namespace Go.Proofs.YtfccagphnfceiaaGreatDoor
open Go.Vc
abbrev secP (f n:Int):List Value:=[.int .i64 f,.int .i64 n]
structure DkU where
  fm:Nat
  fes:List (GEnt Int FilD)
  fclk:Nat
  sm:Nat
  ses:List (GEnt (Int × Int) Bool)
  sclk:Nat
  qp:Option Addr
  qc:Nat
def DkP.mv (q:DkP) (u:DkU):DkP:=⟨q.db,u.fm,u.fes,u.fclk,u.sm,u.ses,u.sclk,u.qp,u.qc,q.kp,q.kc⟩
def DkP.un (q:DkP):DkU:=⟨q.fm,q.fes,q.fclk,q.sm,q.ses,q.sclk,q.qp,q.qc⟩
theorem secsL_eq (a n:Nat):secsL a n=(List.range' 0 ((a+n - 1) / 64+1 - a / 64)).map fun i=>((a / 64+i:Nat):Int):=by
  unfold secsL;rw [List.range_eq_range']
theorem secC_add (l:List (Int × Int)) (p:Int × Int):secC (l++[p])=secC l++[.int .i64 p.1,.int .i64 p.2]:=by
  show List.flatMap _ (l++[p])=_
  rw [List.flatMap_append];rfl
section
variable {W w:World} {S G:List Own} {Φ:PW}
theorem sub1 {X Y:List Own} {F:List Own} (h:X.Sublist Y):(X++F).Sublist (Y++F):=h.append (List.Sublist.refl _)
abbrev tru:PW:=fun _ _=>True
theorem cut_to [Stable Φ] {X Y F:List Own} (c:Ctx W w (Y++F) Φ) (h:X.Sublist Y):Ctx W w (X++F) tru:=(c.sub (sub1 h)).weak fun _ _ _=>trivial
theorem write0_use [Stable Φ] {q:DkP} {d:DsS} (hq:DkQ q d) {f a:Int} {s:Bs} (hs:s.length≤9223372036854775807) (cx:Ctx W w (dkL q d++S) Φ) {K:Ending→World→Prop}
    (hk:∀ u w',DkQ (q.mv u) (write0 d f a s).1→Ctx W w' (dkL (q.mv u) (write0 d f a s).1++S) Φ→K (.returned (.int .i64 (write0 d f a s).2)) w'):Calls Tryz.prog F.disk_Disk_write #[.pointer (some ⟨q.db,0,none⟩),.int .i64 f,.int .i64 a,.string (bs s)] w K:=by
  have hsame:∀ {e:Int} {w':World} {G:List Own},write0 d f a s=(d,e)→Ctx W w' ((dkL q d++S)++G) Φ→K (.returned (.int .i64 e)) w':=by
    intro e w' G he cx
    rw [he] at hk
    exact hk q.un w' hq cx.left
  refine (Bdisk_Disk_write_run q.db 0 f a (bs s) (J:=fun u w'=>K (.returned u) w') cx fun w G cx=>may_use (S:=S++G) (cx.re (List.append_assoc _ _ _)) fun w cx=>⟨_,rfl,dkL q d++S,Φ,inferInstance,cx.re (List.append_assoc _ _ _).symm,Br.intro (fun h=>fun w G cx=>?_) (fun h=>Br.intro (fun h2=>fun w G cx=>?_) (fun h2=>fun w G cx=>?_))⟩).mono fun e w' ⟨v,he,hj⟩=>by rw [he];exact hj
  · exact hsame (by unfold write0;rw [if_pos (of_decide_eq_true h)]) cx
  · exact hsame (by unfold write0;rw [if_neg (of_decide_eq_false h),if_pos (of_decide_eq_true h2)]) cx
  have h:=of_decide_eq_false h
  have h2:=of_decide_eq_false h2
  obtain ⟨a,rfl⟩:∃ n:Nat,a=n:=⟨a.toNat,by omega⟩
  rw [bs_size]
  refine ⟨fun h3 => by have h3 : ¬ (16777216 : Int) < (a : Int) := by simpa using h3
                       unfold I64;omega,Br.intro (fun h3=>fun w G cx=>?_) (fun h3=>Br.intro (fun h4=>fun w G cx=>?_) (fun h4=>fun w G cx=>?_))⟩
  · have h3:(16777216:Int)<(a:Int)∨16777216 - (a:Int)<(s.length:Int):=by simpa using h3
    exact hsame (by unfold write0;rw [if_neg h,if_neg h2,if_pos h3]) cx
  all_goals have h3:¬ ((16777216:Int)<(a:Int)∨16777216 - (a:Int)<(s.length:Int)):=by simpa using h3
  · exact hsame (by unfold write0;rw [if_neg h,if_neg h2,if_neg h3,if_pos (bs_nilJ.1 (of_decide_eq_true h4))]) cx
  have h4:s≠[]:=fun e=>of_decide_eq_false h4 (by rw [e];rfl)
  have hpos:0<s.length:=List.length_pos_iff.2 h4
  have hlen:a+s.length≤16777216:=by omega
  have hfl:0≤f∧f<16:=by
    have h':mayS d f=0:=by omega
    unfold mayS at h'
    split at h'
    · cases h'
    · split at h'
      · cases h'
      · omega
  have hd1:write0 d f a s=({ d.set f ⟨putL (d.files f).now a s,(d.files f).last⟩ with queue:=addQ f (secsL a s.length) d.queue },0):=by
    unfold write0;rw [if_neg h,if_neg h2,if_neg h3,if_neg h4];rfl
  rw [hd1] at hk
  generalize hD:d.set f ⟨putL (d.files f).now a s,(d.files f).last⟩=d1 at hk
  refine ⟨some q.fm,dk_blk cx.left rfl,fun w G cx=>⟨bs (d.files f).now,bs (d.files f).last,fun w2 hw2=>?_,fun b w G cx=>?_⟩⟩
  · have hr:=run_lookupG (P:=Tryz.prog) filTy (w:=w2) (by rw [hw2];exact dk_fm cx.left) f
    rw [hq.fget f] at hr
    exact hr
  refine put_use (S:=(dkL q d++S)++G) cx hlen (hq.size f).1 fun w cx=>⟨_,rfl,dkL q d++S,Φ,inferInstance,cx,fun w G cx=>⟨some q.fm,dk_blk cx.left rfl,fun w G cx=>?_⟩⟩
  obtain ⟨es1,clk1,hr,ok1,hg1⟩:=run_updateG (P:=Tryz.prog) filTy hq.fok (dk_fm cx.left) f ⟨putL (d.files f).now a s,(d.files f).last⟩
  have cx:Ctx W w (.blk q.db (dkB q d) 97 :: .obj q.fm (gObj (Value.int .i64) filV q.fes q.fclk) :: .obj q.sm (gObj secV Value.bool q.ses q.sclk) :: .buf q.qp d.queue.length q.qc (secC d.queue) 110 2 :: (S++G)) Φ:=cx
  have c1:=cx.putObj 1 (gObj (Value.int .i64) filV es1 clk1) rfl
  have hq1:DkQ (q.mv ⟨q.fm,es1,clk1,q.sm,q.ses,q.sclk,q.qp,q.qc⟩) d1:=by
    subst hD
    refine ⟨ok1,hq.sok,fun k=>?_,hq.sget,hq.nodup,hq.range,fun k=>?_,hq.lost,hq.armed⟩
    · have:=hg1 k
      rw [hq.fget k] at this
      exact this
    · show (if k=f then _ else d.files k).now.length≤_∧(if k=f then _ else d.files k).last.length≤_
      have h1:=hq.size f
      by_cases e:k=f
      · rw [if_pos e,putL_length h4]
        exact ⟨by omega,h1.2⟩
      · rw [if_neg e]
        exact hq.size k
  have hqu:d.queue=d1.queue:=by rw [←hD];rfl
  have hkp:d.keep.length=d1.keep.length:=by rw [←hD];rfl
  have e3:dkB q d=dkB (q.mv ⟨q.fm,es1,clk1,q.sm,q.ses,q.sclk,q.qp,q.qc⟩) d1:=by rw [←hD];rfl
  rw [e3,hqu] at c1
  refine ⟨_,hr,dkL (q.mv ⟨q.fm,es1,clk1,q.sm,q.ses,q.sclk,q.qp,q.qc⟩) d1++S,Φ,inferInstance,c1,by decide,?_,?_⟩
  · unfold I64;rw [Int.tdiv_eq_ediv_of_nonneg (by omega)];omega
  rw [hqu] at hk
  clear cx c1 e3 hr hg1 ok1
  generalize hm:(a+s.length - 1) / 64+1 - a / 64=m
  have hm2:a / 64+m=(a+s.length - 1) / 64+1∧(a+s.length - 1) / 64<262144:=by omega
  refine ⟨fun n R' Φ' k=>∃ (i:Nat) (u:DkU) (qu:List (Int × Int)),n=((a / 64+i:Nat):Int)∧i+k=m∧R'=dkL (q.mv u) { d1 with queue:=qu }++S∧Φ'=Φ∧DkQ (q.mv u) { d1 with queue:=qu }∧addQ f ((List.range' i k).map fun i=>((a / 64+i:Nat):Int)) qu=addQ f (secsL a s.length) d1.queue,⟨_,Φ,m,inferInstance,fun w G cx=>cx,0,_,d1.queue,by rw [Int.tdiv_eq_ediv_of_nonneg (by omega)];omega,by omega,rfl,rfl,hq1,by rw [secsL_eq,hm]⟩,?_⟩
  rintro n R' Φ k st ⟨i,u,qu,rfl,hik,rfl,rfl,hq2,hadd⟩
  have hbd:((a:Int)+(s.length:Int) - 1).tdiv 64=(((a+s.length - 1) / 64:Nat):Int):=by rw [Int.tdiv_eq_ediv_of_nonneg (by omega)];omega
  rw [hbd]
  refine ⟨by unfold I64;omega,by unfold I64;omega,by decide,by unfold I64;omega,Br.intro (fun hlt=>?_) (fun hge=>fun w G cx=>?_)⟩
  · have hlt:=of_decide_eq_true hlt
    obtain ⟨k,rfl⟩:∃ k',k=k'+1:=⟨k - 1,by omega⟩
    intro b w G cx
    have c1:∀ w',w'=w.setCells b 0 [.int .i64 f,.int .i64 ((a / 64+i:Nat):Int)]→Ctx W w' (.blk b [.int .i64 f,.int .i64 ((a / 64+i:Nat):Int)] 110 :: (dkL (q.mv u) { d1 with queue:=qu }++S)++G) Φ:=fun w' hw'=>cx.puts 0 hw' rfl
    refine ⟨cx.can 0 rfl (by decide),fun w' hw'=>⟨_,Φ,inferInstance,c1 w' hw',fun w G cx=>⟨some u.sm,dk_blk (q:=q.mv u) (d:={ d1 with queue:=qu }) cx.drop1.left rfl,f,((a / 64+i:Nat):Int),cx.row0 0 rfl,decide ((f,((a / 64+i:Nat):Int))∈qu),fun w2 hw2=>?_,Br.intro (fun hin=>?_) (fun hin=>?_)⟩⟩⟩
    · have hr:=run_lookupG (P:=Tryz.prog) secTy (w:=w2) (by rw [hw2];exact dk_sm (q:=q.mv u) (d:={ d1 with queue:=qu }) cx.drop1.left) (f,((a / 64+i:Nat):Int))
      rw [hq2.sget] at hr
      exact hr
    · have hin:(f,((a / 64+i:Nat):Int)) ∉ qu:=by simpa using hin
      have hadd2:addQ f ((List.range' (i+1) k).map fun i=>((a / 64+i:Nat):Int)) (qu++[(f,((a / 64+i:Nat):Int))])=addQ f (secsL a s.length) d1.queue:=by
        rw [←hadd,List.range'_succ,List.map_cons]
        show _=addQ f _ (if _ then _ else _)
        rw [if_neg hin]
      generalize hn:((a / 64+i:Nat):Int)=n at *
      refine ⟨[.blk b [.int .i64 f,.int .i64 n] 110],tru,inferInstance,fun w G cx=>cut_to cx (.cons_cons _ (List.nil_sublist _)),[.blk b [.int .i64 f,.int .i64 n] 110,.blk q.db (dkB (q.mv u) { d1 with queue:=qu }) 97],tru,inferInstance,fun w G cx=>cut_to cx (.cons_cons _ (.cons_cons _ (List.nil_sublist _))),
        f,n,fun w G cx=>⟨f,n,cx.row0 0 rfl,rfl⟩,f,n,fun w G cx=>⟨f,n,cx.row0 0 rfl,rfl⟩,some u.sm,fun w G cx=>⟨some u.sm,cx.get 1 rfl rfl,rfl⟩,u.qp,qu.length,u.qc,fun w G cx=>⟨_,_,_,cx.get 1 rfl rfl,rfl⟩,fun g=>⟨fun w G cx=>cut_to cx (.cons _ (.cons_cons _ (List.nil_sublist _))),fun w G cx=>cut_to cx (.cons _ (.cons_cons _ (.cons_cons _ (List.nil_sublist _)))),fun w G cx=>?_⟩⟩
      have cx:Ctx W w ([.blk g [.int .i64 f,.int .i64 n] 110,.blk b [.int .i64 f,.int .i64 n] 110,.blk q.db (dkB (q.mv u) { d1 with queue:=qu }) 97,.obj u.fm (gObj (Value.int .i64) filV u.fes u.fclk),.obj u.sm (gObj secV Value.bool u.ses u.sclk)]++.buf u.qp qu.length u.qc (secC qu) 110 2 :: (S++G)) Φ:=cx
      have cx:=cx.perm (List.Perm.cons _ (List.perm_middle (l₁:=[Own.blk b [.int .i64 f,.int .i64 n] 110,.blk q.db (dkB (q.mv u) { d1 with queue:=qu }) 97,.obj u.fm (gObj (Value.int .i64) filV u.fes u.fclk),.obj u.sm (gObj secV Value.bool u.ses u.sclk)])))
      obtain ⟨p',cap',w',hr,_,c2⟩:=cx.app1 (ts:=95) (ty:=95) (kb:=#[false,false]) (bytes:=16) (by kernel_rfl) (by decide) rfl rfl (by have:=hq2.qlen;show qu.length<_;exact Nat.lt_of_le_of_lt this (by decide)) (by decide)
      refine ⟨p',qu.length+1,cap',w',hr,.buf p' (qu.length+1) cap' (secC qu++secP f n) 110 2 :: .blk b [.int .i64 f,.int .i64 n] 110 :: .blk q.db (dkB (q.mv u) { d1 with queue:=qu }) 97 :: .obj u.fm (gObj (Value.int .i64) filV u.fes u.fclk) :: .obj u.sm (gObj secV Value.bool u.ses u.sclk) :: S,Φ,inferInstance,c2,fun w G cx=>cut_to cx (.cons _ (.cons_cons _ (List.nil_sublist _))),fun w G cx=>cut_to cx (.cons _ (.cons_cons _ (.cons_cons _ (List.nil_sublist _)))),fun w G cx=>⟨cx.can 2 rfl (by show 0+1+1≤7;omega),fun w' hw'=>?_⟩⟩
      have c3:=cx.put 2 hw' rfl
      refine ⟨.buf p' (qu.length+1) cap' (secC qu++secP f n) 110 2 :: .blk b [.int .i64 f,.int .i64 n] 110 :: .blk q.db ((dkB (q.mv u) { d1 with queue:=qu }).set 1 (.slice p' (qu.length+1) cap')) 97 :: .obj u.fm (gObj (Value.int .i64) filV u.fes u.fclk) :: .obj u.sm (gObj secV Value.bool u.ses u.sclk) :: S,Φ,inferInstance,c3,fun w G cx=>cut_to cx (.cons _ (.cons_cons _ (List.nil_sublist _))),trivial,fun w G cx=>?_⟩
      obtain ⟨es1,clk1,sn,hr1,ok1,hg1,hx1⟩:=run_entryG (P:=Tryz.prog) secTy hq2.sok (cx.own (.obj u.sm (gObj secV Value.bool u.ses u.sclk)) (by simp)) (f,n)
      have c4:=cx.putObj 4 (gObj secV Value.bool es1 clk1) rfl
      refine ⟨_,_,_,hr1,.buf p' (qu.length+1) cap' (secC qu++secP f n) 110 2 :: .blk b [.int .i64 f,.int .i64 n] 110 :: .blk q.db ((dkB (q.mv u) { d1 with queue:=qu }).set 1 (.slice p' (qu.length+1) cap')) 97 :: .obj u.fm (gObj (Value.int .i64) filV u.fes u.fclk) :: .obj u.sm (gObj secV Value.bool es1 clk1) :: S,Φ,inferInstance,c4,fun w G cx=>cut_to cx (.cons _ (.cons_cons _ (List.nil_sublist _))),trivial,fun w G cx=>?_⟩
      obtain ⟨es2,hr2,ok2,hg2⟩:=run_storeG (P:=Tryz.prog) (z:=false) 94 ok1 hx1 (cx.own (.obj u.sm (gObj secV Value.bool es1 clk1)) (by simp)) true
      have c5:=cx.putObj 4 (gObj secV Value.bool es2 clk1) rfl
      refine ⟨_,hr2,.buf p' (qu.length+1) cap' (secC qu++secP f n) 110 2 :: .blk b [.int .i64 f,.int .i64 n] 110 :: .blk q.db ((dkB (q.mv u) { d1 with queue:=qu }).set 1 (.slice p' (qu.length+1) cap')) 97 :: .obj u.fm (gObj (Value.int .i64) filV u.fes u.fclk) :: .obj u.sm (gObj secV Value.bool es2 clk1) :: S,Φ,inferInstance,c5,fun w G cx=>cut_to cx (.cons _ (.cons_cons _ (List.nil_sublist _))),trivial,by unfold I64;omega,dkL (q.mv { u with qp:=p',qc:=cap',ses:=es2,sclk:=clk1 }) { d1 with queue:=qu++[(f,n)] }++S,Φ,k,inferInstance,fun w G cx=>?_,⟨i+1,_,_,by omega,by omega,rfl,rfl,⟨hq2.fok,ok2,hq2.fget,fun p=>?_,?_,fun p hp=>?_,hq2.size,hq2.lost,hq2.armed⟩,hadd2⟩,Nat.lt_succ_self _⟩
      · have c6:Ctx W w (.buf p' (qu.length+1) cap' (secC qu++secP f n) 110 2 :: ([.blk q.db ((dkB (q.mv u) { d1 with queue:=qu }).set 1 (.slice p' (qu.length+1) cap')) 97,.obj u.fm (gObj (Value.int .i64) filV u.fes u.fclk),.obj u.sm (gObj secV Value.bool es2 clk1)]++(S++G))) Φ:=cx.sub (.cons_cons _ (.cons _ (List.Sublist.refl _)))
        have c7:=c6.perm List.perm_middle.symm
        show Ctx W w (.blk q.db _ 97 :: .obj u.fm _ :: .obj u.sm _ :: .buf p' (qu++[(f,n)]).length cap' (secC (qu++[(f,n)])) 110 2 :: (S++G)) Φ
        rw [secC_add,List.length_append]
        have e4:dkB (q.mv { u with qp:=p',qc:=cap',ses:=es2,sclk:=clk1 }) { d1 with queue:=qu++[(f,n)] }=(dkB (q.mv u) { d1 with queue:=qu }).set 1 (.slice p' (qu.length+1) cap'):=by
          show [_,Value.slice p' (qu++[(f,n)]).length cap',_,_,_,_,_]=_
          rw [List.length_append];rfl
        rw [e4]
        exact c7
      · show getG false es2 p=decide (p∈qu++[(f,n)])
        rw [hg2 p,hg1 p]
        have:=hq2.sget p
        by_cases e:p=(f,n)
        · rw [if_pos e,e];simp
        · rw [if_neg e]
          refine this.trans (decide_eq_decide.2 ?_)
          simp [e]
      · show (qu++[(f,n)]).Nodup
        refine List.nodup_append.2 ⟨hq2.nodup,by simp,fun x hx y hy e=>?_⟩
        rw [List.mem_singleton.1 hy] at e
        exact hin (by rw [←e];exact hx)
      · rcases List.mem_append.1 hp with hp|hp
        · exact hq2.range p hp
        · rw [List.mem_singleton.1 hp]
          exact ⟨hfl,by show 0≤n;omega,by show n<262145;omega⟩
    · have hin:(f,((a / 64+i:Nat):Int))∈qu:=by simpa using hin
      refine ⟨by unfold I64;omega,dkL (q.mv u) { d1 with queue:=qu }++S,Φ,k,inferInstance,fun w G cx=>cx.drop1,⟨i+1,u,qu,by omega,by omega,rfl,rfl,hq2,?_⟩,Nat.lt_succ_self _⟩
      rw [←hadd,List.range'_succ,List.map_cons]
      show _=addQ f _ (if _ then _ else _)
      rw [if_pos hin]
  · have hge:=of_decide_eq_false hge
    have hk0:k=0:=by omega
    subst hk0
    have:addQ f (secsL a s.length) d1.queue=qu:=hadd.symm
    rw [this] at hk
    exact hk u w hq2 cx.left
end
end Go.Proofs.YtfccagphnfceiaaGreatDoor
end

section
namespace Go.Proofs.YtfccagphnfceiaaGreatDoor
open Go.Vc
abbrev bufQ (p:Option Addr) (cap:Nat) (l:List (Int × Int)):Own:=.buf p l.length cap (secC l) 110 2
theorem secC_take:∀ (l:List (Int × Int)) (k:Nat),(secC l).take (k*2)=secC (l.take k)
  | l,0=>by simp
  | [],k+1=>by simp
  | x :: l,k+1=>by
    rw [show (k+1)*2=k*2+1+1 by omega,List.take_succ_cons]
    show (Value.int .i64 x.1 :: .int .i64 x.2 :: secC l).take (k*2+1+1)=.int .i64 x.1 :: .int .i64 x.2 :: secC (l.take k)
    rw [List.take_succ_cons,List.take_succ_cons,secC_take l k]
theorem secC_set {l:List (Int × Int)} {i:Nat} (h:i<l.length) (x:Int × Int):setL (secC l) (i*2) [.int .i64 x.1,.int .i64 x.2]=secC (l.set i x):=by
  induction l generalizing i with
  | nil=>simp at h
  | cons y l ih =>
    cases i with
    | zero=>rfl
    | succ i =>
      have:=ih (i:=i) (by simpa using h)
      rw [List.set_cons_succ]
      show setL (Value.int .i64 y.1 :: .int .i64 y.2 :: secC l) ((i+1)*2) [.int .i64 x.1,.int .i64 x.2]=Value.int .i64 y.1 :: .int .i64 y.2 :: secC (l.set i x)
      rw [←this]
      apply List.ext_getElem?
      intro k
      have hlen:(secC l).length=l.length*2:=secC_len l
      have hi:i<l.length:=by simpa using h
      generalize secC l=cs at hlen this
      by_cases hk:k<2
      · rw [setL_get _ _ _ _ (by omega)]
        match k,hk with
        | 0,_=>rfl
        | 1,_=>rfl
      · obtain ⟨m,rfl⟩:∃ m,k=m+2:=⟨k - 2,by omega⟩
        simp only [List.getElem?_cons_succ]
        by_cases h1:m<i*2∨i*2+2≤m
        · rw [setL_get _ _ _ _ (by simp;omega),setL_get _ _ _ _ (by simp;omega)]
          simp only [List.getElem?_cons_succ]
        · obtain ⟨q,rfl⟩:∃ q,m=i*2+q:=⟨m - i*2,by omega⟩
          rw [setL_in _ _ _ _ (by simp;omega) (by simp;omega),show i*2+q+2=(i+1)*2+q by omega,setL_in _ _ _ _ (by simp;omega) (by simp;omega)]
theorem qb_ptr {W w:World} {S:List Own} {Φ:PW} {p:Option Addr} {cap:Nat} {l:List (Int × Int)} (cx:Ctx W w (bufQ p cap l :: S) Φ) (h:0<l.length):∃ g,p=some ⟨g,0,none⟩:=by
  obtain ⟨g,hg,_⟩:=cx.bufCell 0 rfl (by rw [secC_len];omega)
  exact ⟨g,hg⟩
theorem qb_row {W w:World} {S:List Own} {Φ:PW} {g cap:Nat} {l:List (Int × Int)} (cx:Ctx W w (bufQ (some ⟨g,0,none⟩) cap l :: S) Φ) {i:Nat} {X:Int × Int} (hX:l[i]? = some X):RowAt w g (i*2) [.int .i64 X.1,.int .i64 X.2]:=by
  obtain ⟨hi,rfl⟩:=List.getElem?_eq_some_iff.1 hX
  exact cx.bufRow 0 rfl rfl (rows_of (secC_at hi))
theorem qb_can {W w:World} {S:List Own} {Φ:PW} {g cap:Nat} {l:List (Int × Int)} (cx:Ctx W w (bufQ (some ⟨g,0,none⟩) cap l :: S) Φ) {i:Nat} (hi:i<l.length):CanWrite w g (i*2) 2 :=
  cx.bufCan 0 rfl rfl (by rw [secC_len];omega)
theorem qb_put {W w w':World} {S:List Own} {Φ:PW} [Stable Φ] {g cap:Nat} {l:List (Int × Int)} (cx:Ctx W w (bufQ (some ⟨g,0,none⟩) cap l :: S) Φ) {i:Nat} (hi:i<l.length) (x:Int × Int) (e:w'=w.setCells g (i*2) [.int .i64 x.1,.int .i64 x.2]) :
    Ctx W w' (bufQ (some ⟨g,0,none⟩) cap (l.set i x) :: S) Φ:=by
  have h:=cx.bufPuts 0 rfl rfl (by rw [secC_len];omega) (by rw [secC_len];simp only [List.length_cons,List.length_nil];omega) e
  rw [secC_set hi] at h
  have hl:(l.set i x).length=l.length:=by simp
  show Ctx W w' (.buf (some ⟨g,0,none⟩) (l.set i x).length cap (secC (l.set i x)) 110 2 :: S) Φ
  rw [hl]
  exact h
def firstQ (f:Int × Int→Bool) (l:List (Int × Int)):Int:=if l.findIdx f<l.length then (l.findIdx f:Int) else -1
structure DelQ (Z:List Own) (Φ:PW) (df:FuncId) (dc:Array Value) (f:Int × Int→Bool):Prop where
  ok:okFun Tryz.prog df=true
  go:∀ (x:Int × Int) {W w:World} {S:List Own},Ctx W w (Z++S) Φ→∀ {K:Ending→World→Prop},(∀ w',Ctx W w' (Z++S) Φ→K (.returned (.bool (f x))) w')→Calls Tryz.prog df (Array.mk (secV x :: dc.toList)) w K
theorem re3 {W w:World} {Φ:PW} {o:Own} {Z S G:List Own} (cx:Ctx W w ((o :: (Z++S))++G) Φ):Ctx W w (o :: (Z++(S++G))) Φ:=by
  rw [←List.append_assoc];exact cx
theorem re4 {W w:World} {Φ:PW} {o:Own} {Z S G:List Own} (cx:Ctx W w (o :: (Z++(S++G))) Φ):Ctx W w ((o :: (Z++S))++G) Φ:=by
  rw [←List.append_assoc] at cx;exact cx
theorem DelQ.use {Z:List Own} {Φ:PW} [Stable Φ] {df:FuncId} {dc:Array Value} {f:Int × Int→Bool} (h:DelQ Z Φ df dc f) (x:Int × Int) {W w:World} {S G:List Own} {o:Own} (cx:Ctx W w ((o :: (Z++S))++G) Φ) {K:Ending→World→Prop} (hk:∀ w',Ctx W w' ((o :: (Z++S))++G) Φ→K (.returned (.bool (f x))) w'):Calls Tryz.prog df (Array.mk (secV x :: dc.toList)) w K :=
  h.go x (S:=o :: (S++G)) ((re3 cx).perm (List.perm_middle (l₁:=Z) (l₂:=S++G)).symm) fun w' cx=>hk w' (re4 (cx.perm List.perm_middle))
theorem IndexFunc_use {W w:World} {S:List Own} {Φ:PW} [Stable Φ] {df:FuncId} {dc:Array Value} {f:Int × Int→Bool} {Z:List Own} (hf:DelQ Z Φ df dc f) {p:Option Addr} {cap:Nat} (es:List (Int × Int)) (hl:es.length≤100000000) (cx:Ctx W w (bufQ p cap es :: (Z++S)) Φ) {K:Ending→World→Prop}
    (hK:∀ w',Ctx W w' (bufQ p cap es :: (Z++S)) Φ→K (.returned (.int .i64 (firstQ f es))) w') :
    Calls Tryz.prog F.slices_IndexFunc_disk_sector_disk_sector #[.slice p es.length cap,.func (.func df) #[] dc] w K:=by
  refine (Bslices_IndexFunc_disk_sector_disk_sector_run p es.length cap df dc (J:=fun u w'=>K (.returned u) w') cx ?_).mono fun e w' ⟨v,he,hj⟩=>by rw [he];exact hj
  have hp:0<es.length→∃ g,p=some ⟨g,0,none⟩:=fun h=>qb_ptr cx h
  refine exI_mk (fun iI R' Φ' n=>∃ i:Nat,iI=i∧i≤es.length∧(∀ q (h:q<es.length),q<i→f es[q]=false)∧R'=bufQ p cap es :: (Z++S)∧Φ'=Φ∧n=es.length - i) ⟨⟨_,Φ,_,inferInstance,fun w G cx=>cx,0,rfl,Nat.zero_le _,fun q h h2=>by omega,rfl,rfl,rfl⟩,?_⟩
  clear cx
  rintro iI R1 Φ1 n _ ⟨i,rfl,hi,h1,rfl,rfl,rfl⟩
  refine Br.intro (fun hlt=>?_) (fun hge=>fun w G cx=>?_)
  · have hlt:i<es.length:=by have:=of_decide_eq_true hlt;omega
    obtain ⟨g,hg⟩:=hp (by omega)
    subst hg
    refine ⟨⟨by omega,by omega⟩,ptrK_intro g 0 rfl fun w G cx=>⟨es[i].1,es[i].2,by rw [Nat.zero_add,Int.toNat_natCast];exact qb_row cx (List.getElem?_eq_getElem hlt),fun w G cx=>⟨hf.ok,hf.use es[i] cx fun w cx=>⟨_,rfl,bufQ (some ⟨g,0,none⟩) cap es :: (Z++S),Φ1,inferInstance,cx,Br.intro (fun hc=>fun w G cx=>?_) (fun hc=>?_)⟩⟩⟩⟩
    · have e:es.findIdx f=i:=List.findIdx_eq hlt |>.2 ⟨hc,fun q hq=>by rw [h1 q (by omega) hq]⟩
      have:=hK w cx.left
      unfold firstQ at this
      rw [e,if_pos hlt] at this
      exact this
    · exact ⟨by unfold I64;omega,_,Φ1,es.length - (i+1),inferInstance,fun w G cx=>cx,⟨i+1,by omega,by omega,fun q h hq=>by
        by_cases e:q=i
        · subst e;exact hc
        · exact h1 q h (by omega),rfl,rfl,rfl⟩,by omega⟩
  · have hge:es.length≤i:=by have:=of_decide_eq_false hge;omega
    have e:¬ es.findIdx f<es.length:=fun h=>by
      have h2:=List.findIdx_getElem (w:=h)
      rw [h1 _ h (by omega)] at h2
      cases h2
    have:=hK w cx.left
    unfold firstQ at this
    rw [if_neg e] at this
    exact this
set_option maxHeartbeats 2000000 in
theorem Delete_use {W w:World} {S:List Own} {Φ:PW} [Stable Φ] {df:FuncId} {dc:Array Value} {f:Int × Int→Bool} {Z:List Own} (hdf:DelQ Z Φ df dc f) {p:Option Addr} {cap:Nat} (es:List (Int × Int)) (hl:es.length≤100000000) (cx:Ctx W w (bufQ p cap es :: (Z++S)) Φ) {K:Ending→World→Prop}
    (hK:∀ w',Ctx W w' (bufQ p cap (es.filter fun x => !f x) :: (Z++S)) Φ→K (.returned (.slice p (es.filter fun x => !f x).length cap)) w') :
    Calls Tryz.prog F.slices_DeleteFunc_disk_sector_disk_sector #[.slice p es.length cap,.func (.func df) #[] dc] w K:=by
  refine (Bslices_DeleteFunc_disk_sector_disk_sector_run p es.length cap df dc (J:=fun u w'=>K (.returned u) w') cx ?_).mono fun e w' ⟨v,he,hj⟩=>by rw [he];exact hj
  have hp:0<es.length→∃ g,p=some ⟨g,0,none⟩:=fun h=>qb_ptr cx h
  obtain ⟨_,hnc,hcm⟩:=cx.bufLen 0 rfl
  clear cx
  refine fun w G cx=>IndexFunc_use hdf es hl (S:=S++G) (re3 cx) fun w cx=>⟨_,rfl,bufQ p cap es :: (Z++S),Φ,inferInstance,re4 cx,?_⟩
  clear cx
  unfold firstQ
  by_cases hf:es.findIdx f<es.length
  case neg =>
    rw [if_neg hf]
    refine Br.intro (fun _=>fun w G cx=>?_) (fun h=>absurd rfl (of_decide_eq_false h))
    have e:es.filter (fun x => !f x)=es:=List.filter_eq_self.2 fun x hx=>by
      cases h:f x with
      | false=>rfl
      | true=>exact absurd (List.findIdx_lt_length.2 ⟨x,hx,h⟩) hf
    rw [e] at hK
    exact hK w cx.left
  rw [if_pos hf]
  obtain ⟨g,hg⟩:=hp (by omega)
  subst hg
  obtain ⟨i0,hi0⟩:∃ i0,es.findIdx f=i0:=⟨_,rfl⟩
  have hg0:f (es[i0]'(by omega))=true:=by
    have:=List.findIdx_getElem (w:=hf)
    simp only [hi0] at this
    exact this
  have hb0:∀ q (h:q<es.length),q<i0→f es[q]=false:=fun q h hq=>by
    have:=List.not_of_lt_findIdx (p:=f) (xs:=es) (i:=q) (by omega)
    simpa using this
  rw [hi0] at hf ⊢
  have hstart:es.take i0=(es.take (i0+1)).filter fun x => !f x:=by
    rw [List.take_succ_eq_append_getElem hf,List.filter_append,List.filter_cons_of_neg (by rw [hg0];simp),List.filter_nil,List.append_nil]
    refine (List.filter_eq_self.2 fun x hx=>?_).symm
    obtain ⟨q,hq,rfl⟩:=List.getElem_of_mem hx
    rw [List.length_take] at hq
    rw [List.getElem_take,hb0 q (by omega) (by omega)]
    rfl
  refine Br.intro (fun h=>absurd (of_decide_eq_true h) (by omega)) (fun _=>⟨by unfold I64;omega,?_⟩)
  refine exI_mk (fun aI bI R' Φ' n=>∃ (i j:Nat) (cur:List (Int × Int)),aI=i∧bI=j∧i<j∧j≤es.length∧cur.length=es.length∧cur.take i=(es.take j).filter (fun x => !f x)∧cur.drop j=es.drop j∧R'=bufQ (some ⟨g,0,none⟩) cap cur :: (Z++S)∧Φ'=Φ∧n=es.length - j)
    ⟨⟨_,Φ,_,inferInstance,fun w G cx=>cx,i0,i0+1,es,rfl,by omega,by omega,hf,rfl,hstart,rfl,rfl,rfl,rfl⟩,?_⟩
  rintro aI bI R1 Φ1 n _ ⟨i,j,cur,rfl,rfl,hij,hj,hcl,htk,hdr,rfl,rfl,rfl⟩
  refine Br.intro (fun hlt=>?_) (fun hge=>?_)
  · have hlt:j<es.length:=by have:=of_decide_eq_true hlt;omega
    have hcj:cur[j]'(by omega)=es[j]:=by
      have h:=congrArg (fun l=>l[0]?) hdr
      simp only [List.getElem?_drop,Nat.add_zero] at h
      rw [List.getElem?_eq_getElem (by omega),List.getElem?_eq_getElem hlt] at h
      exact Option.some.inj h
    have htj:es.take (j+1)=es.take j++[es[j]]:=List.take_succ_eq_append_getElem hlt
    have hdj:cur.drop (j+1)=es.drop (j+1):=by rw [←List.drop_drop,←List.drop_drop,hdr]
    refine ⟨⟨by omega,by omega⟩,ptrK_intro g 0 rfl fun w G cx=>⟨(cur[j]'(by omega)).1,(cur[j]'(by omega)).2,by rw [Nat.zero_add,Int.toNat_natCast];exact qb_row cx (List.getElem?_eq_getElem (by omega)),fun b w G cx=>⟨hdf.ok,hdf.use (cur[j]'(by omega)) cx fun w cx=>⟨_,rfl,bufQ (some ⟨g,0,none⟩) cap cur :: (Z++S),Φ1,inferInstance,cx,Br.intro (fun hc=>?_) (fun hc=>?_)⟩⟩⟩⟩
    · have hk:f es[j]=false:=by rw [hcj] at hc;simpa using hc
      refine ⟨⟨by omega,by omega⟩,ptrK_intro g 0 rfl fun w G cx=>⟨by rw [Nat.zero_add,Int.toNat_natCast];exact qb_can cx (i:=i) (by omega),fun w' hw'=>?_⟩⟩
      rw [Nat.zero_add,Int.toNat_natCast] at hw'
      have cx2:=qb_put cx (i:=i) (by omega) (cur[j]'(by omega)) hw'
      refine ⟨bufQ (some ⟨g,0,none⟩) cap (cur.set i (cur[j]'(by omega))) :: (Z++S),Φ1,inferInstance,cx2,by unfold I64;omega,by unfold I64;omega,_,Φ1,es.length - (j+1),inferInstance,fun w G cx=>cx,⟨i+1,j+1,cur.set i (cur[j]'(by omega)),by omega,by omega,by omega,by omega,by rw [List.length_set];exact hcl,?_,?_,rfl,rfl,rfl⟩,by omega⟩
      · rw [List.take_succ_eq_append_getElem (by rw [List.length_set];omega),List.take_set_of_le (Nat.le_refl _),List.getElem_set_self,htk,htj,List.filter_append,List.filter_cons_of_pos (by rw [hk];rfl),List.filter_nil,hcj]
      · rw [List.drop_set_of_lt (by omega)];exact hdj
    · have hk:f es[j]=true:=by rw [hcj] at hc;simpa using hc
      refine ⟨by unfold I64;omega,_,Φ1,es.length - (j+1),inferInstance,fun w G cx=>cx,⟨i,j+1,cur,rfl,by omega,by omega,by omega,hcl,?_,hdj,rfl,rfl,rfl⟩,by omega⟩
      rw [htj,List.filter_append,List.filter_cons_of_neg (by rw [hk];simp),List.filter_nil,List.append_nil,htk]
  · have hge:j=es.length:=by have:=of_decide_eq_false hge;omega
    subst hge
    rw [List.take_length] at htk
    have hil:(es.filter fun x => !f x).length=i:=by rw [←htk,List.length_take];omega
    refine ⟨⟨by omega,by omega,hnc⟩,fun w G cx=>?_⟩
    have cx1:Ctx W w (bufQ (some ⟨g,0,none⟩) cap cur :: ((Z++S)++G)) Φ1:=cx
    obtain ⟨w',hr,cx2⟩:=cx1.clearB rfl (ts:=95) (ty:=0) (kb:=#[false]) (k:=i) (bytes:=16) (by kernel_rfl) (by kernel_rfl) (by omega) (by omega)
    rw [hcl] at hr
    rw [secC_take,htk] at cx2
    refine ⟨w',by rw [Int.toNat_natCast];exact hr,bufQ (some ⟨g,0,none⟩) cap (es.filter fun x => !f x) :: (Z++S),Φ1,inferInstance,by show Ctx W w' (.buf _ (es.filter _).length cap (secC _) 110 2 :: _) _;rw [hil];exact cx2,⟨by omega,by omega⟩,fun w G cx=>?_⟩
    have:=hK w cx.left
    rw [hil] at this
    rw [subPtr_zero,Int.toNat_natCast]
    exact this
theorem settle1_fn {Φ:PW} [Stable Φ] {kb:Nat} {f:Int}:DelQ [.blk kb [.int .i64 f] 3] Φ F.disk_Disk_settle_1 #[.pointer (some ⟨kb,0,none⟩)] (fun p=>decide (p.1=f)):=⟨by kernel_rfl,fun x W w S cx K hk=>by
  refine (Bdisk_Disk_settle_1_run x.1 x.2 kb 0 (J:=fun u w'=>K (.returned u) w') cx ?_).mono fun e w' ⟨v,he,hj⟩=>by rw [he];exact hj
  exact fun b w G cx=>⟨f,cx.get 0 rfl rfl,fun w G cx=>hk w cx.left⟩⟩
end Go.Proofs.YtfccagphnfceiaaGreatDoor
end

section
namespace Go.Proofs.YtfccagphnfceiaaGreatDoor
open Go.Vc
structure DelM (Z:List Own) (Φ:PW) (df:FuncId) (dc:Array Value) (f:Int × Int→Bool):Prop where
  ok:okFun Tryz.prog df=true
  go:∀ (x:Int × Int) (b:Bool) {W w:World} {S:List Own},Ctx W w (Z++S) Φ→∀ {K:Ending→World→Prop},(∀ w',Ctx W w' (Z++S) Φ→K (.returned (.bool (f x))) w')→Calls Tryz.prog df (Array.mk (secV x :: .bool b :: dc.toList)) w K
theorem settle2_fn {Φ:PW} [Stable Φ] {kb:Nat} {f:Int}:DelM [.blk kb [.int .i64 f] 3] Φ F.disk_Disk_settle_2 #[.pointer (some ⟨kb,0,none⟩)] (fun p=>decide (p.1=f)):=⟨by kernel_rfl,fun x b W w S cx K hk=>by
  refine (Bdisk_Disk_settle_2_run x.1 x.2 b kb 0 (J:=fun u w'=>K (.returned u) w') cx ?_).mono fun e w' ⟨v,he,hj⟩=>by rw [he];exact hj
  exact fun b w G cx=>⟨f,cx.get 0 rfl rfl,fun w G cx=>hk w cx.left⟩⟩
theorem perm3 (A Z S G:List Own):(A++(Z++(S++G))).Perm (Z++(A++(S++G))):=by
  rw [←List.append_assoc A,←List.append_assoc Z];exact List.perm_append_comm.append_right _
abbrev setO (b:Nat) (es:List (GEnt (Int × Int) Bool)) (clk:Nat):Own:=.obj b (gObj secV Value.bool es clk)
theorem MapDel_use {W w:World} {Z S:List Own} {Φ:PW} [Stable Φ] {df:FuncId} {dc:Array Value} {f:Int × Int→Bool} (hdf:DelM Z Φ df dc f) {b:Nat} {es:List (GEnt (Int × Int) Bool)} {clk:Nat} (ok:GOk es clk) (cx:Ctx W w (setO b es clk :: (Z++S)) Φ) {K:Ending→World→Prop}
    (hK:∀ es1 w',GOk es1 clk→(∀ y,getG false es1 y=if f y=true then false else getG false es y)→Ctx W w' (setO b es1 clk :: (Z++S)) Φ→K (.returned (.tuple #[])) w') :
    Calls Tryz.prog F.maps_DeleteFunc_map_disk_sectorbool_disk_sector_bool #[.map (some b),.func (.func df) #[] dc] w K:=by
  refine (Bmaps_DeleteFunc_map_disk_sectorbool_disk_sector_bool_run (some b) df dc (J:=fun u w'=>K (.returned u) w') cx ?_).mono fun e w' ⟨v,he,hj⟩=>by rw [he];exact hj
  intro w G cx
  have hb:=cx.own (setO b es clk) (by simp)
  refine ⟨_,_,run_range_map (P:=Tryz.prog) w 94 110 4 b _ clk secTy.map hb,.obj w.heap.size (.mapIter (some b) clk #[] clk) :: setO b es clk :: (Z++S),Φ,inferInstance,cx.newObj rfl,?_⟩
  clear hb cx
  generalize w.heap.size=r
  refine exI_mk (fun R' Φ' k=>∃ (seen:Array Nat) (es1:List (GEnt (Int × Int) Bool)),R'=.obj r (.mapIter (some b) clk seen clk) :: setO b es1 clk :: (Z++S)∧Φ'=Φ∧k=leftN seen.toList es1∧GOk es1 clk∧(∀ e∈es1,e.born∈seen.toList→f e.key=false)∧(∀ y,f y=false→getG false es1 y=getG false es y))
    ⟨⟨_,Φ,_,inferInstance,fun w G cx=>cx,#[],es,rfl,rfl,rfl,ok,fun e he hs=>by simp at hs,fun y _=>rfl⟩,?_⟩
  rintro R1 Φ n _ ⟨seen,es1,rfl,rfl,rfl,ok1,hseen,hget⟩
  intro w G cx
  have hr:=cx.own (.obj r (.mapIter (some b) clk seen clk)) (by simp)
  have hb:=cx.own (setO b es1 clk) (by simp)
  rcases next_g (P:=Tryz.prog) 0 hr hb ok1.lt (Nat.le_refl _) with ⟨hall,hrun⟩|⟨a,ha,hns,w1,hw1,hrun⟩
  · refine .inl ⟨w,hrun,.obj r (.mapIter (some b) clk seen clk) :: setO b es1 clk :: (Z++S),Φ,inferInstance,cx,fun w G cx=>?_⟩
    refine hK es1 w ok1 (fun y=>?_) (Ctx.left (Ctx.drop1 cx))
    cases hy:f y with
    | false=>rw [if_neg (by simp)];exact hget y hy
    | true =>
      rw [if_pos rfl]
      exact getG_none fun e he e2=>by
        have:=hseen e he (hall e he)
        rw [e2,hy] at this
        cases this
  · have c1:Ctx W w1 ((.obj r (.mapIter (some b) clk seen clk) :: setO b es1 clk :: (Z++S))++G) Φ:=by
      rcases hw1 with rfl|rfl
      · exact cx
      · exact cx.draw 1
    have c2:=c1.putObj 0 (.mapIter (some b) clk (seen.push a.born) clk) rfl
    refine .inr ⟨_,_,_,hrun,.obj r (.mapIter (some b) clk (seen.push a.born) clk) :: setO b es1 clk :: (Z++S),Φ,inferInstance,c2,fun w G cx=>?_⟩
    refine ⟨a.key.1,a.key.2,a.val,w,entry_g ok1 (cx.own (.obj r (.mapIter (some b) clk (seen.push a.born) clk)) (by simp)) (cx.own (setO b es1 clk) (by simp)) ha,.obj r (.mapIter (some b) clk (seen.push a.born) clk) :: setO b es1 clk :: (Z++S),Φ,inferInstance,cx,fun b0 w G cx=>⟨hdf.ok,?_⟩⟩
    have cx:Ctx W w ([Own.obj r (.mapIter (some b) clk (seen.push a.born) clk),setO b es1 clk]++(Z++(S++G))) Φ:=by
      rw [←List.append_assoc Z];exact cx
    have cz:Ctx W w (Z++([Own.obj r (.mapIter (some b) clk (seen.push a.born) clk),setO b es1 clk]++(S++G))) Φ:=cx.perm (perm3 _ _ _ _)
    refine hdf.go a.key a.val cz fun w cz=>⟨_,rfl,.obj r (.mapIter (some b) clk (seen.push a.born) clk) :: setO b es1 clk :: (Z++S),Φ,inferInstance,?_,Br.intro (fun hc=>fun w G cx=>?_) (fun hc=>?_)⟩
    · have:=cz.perm (perm3 _ _ _ _).symm
      rw [←List.append_assoc Z] at this
      exact this
    · obtain ⟨es2,hrun2,ok2,hg2,hsub,hne⟩:=run_deleteX (P:=Tryz.prog) secTy ok1 (cx.own (setO b es1 clk) (by simp)) a.key 110 0 #[false,false]
      have c3:=cx.putObj 1 (gObj secV Value.bool es2 clk) rfl
      refine ⟨_,hrun2,.obj r (.mapIter (some b) clk (seen.push a.born) clk) :: setO b es2 clk :: (Z++S),Φ,inferInstance,c3,_,Φ,leftN (seen.push a.born).toList es2,inferInstance,fun w G cx=>cx,⟨_,es2,rfl,rfl,rfl,ok2,fun e he hs=>?_,fun y hy=>?_⟩,?_⟩
      · rw [Array.toList_push] at hs
        rcases List.mem_append.1 hs with hs|hs
        · exact hseen e (hsub.subset he) hs
        · have hb2:=List.mem_singleton.1 hs
          have:e=a:=pair_inj ok1.borns (hsub.subset he) ha hb2
          exact absurd (by rw [this]) (hne e he)
      · rw [hg2 y,if_neg (fun e=>by rw [e,hc] at hy;cases hy)]
        exact hget y hy
      · rw [Array.toList_push]
        exact leftN_push (hsub.map _) ha hns (List.nodup_iff_pairwise_ne.2 (List.pairwise_map.2 ok1.borns))
    · refine ⟨_,Φ,leftN (seen.push a.born).toList es1,inferInstance,fun w G cx=>cx,⟨_,es1,rfl,rfl,rfl,ok1,fun e he hs=>?_,hget⟩,?_⟩
      · rw [Array.toList_push] at hs
        rcases List.mem_append.1 hs with hs|hs
        · exact hseen e he hs
        · have:e=a:=pair_inj ok1.borns he ha (List.mem_singleton.1 hs)
          rw [this];exact hc
      · rw [Array.toList_push]
        exact leftN_push (List.Sublist.refl _) ha hns (List.nodup_iff_pairwise_ne.2 (List.pairwise_map.2 ok1.borns))
theorem settle_use {W w:World} {S:List Own} {Φ:PW} [Stable Φ] {q:DkP} {d:DsS} (hq:DkQ q d) {f:Int} {s:Bs} (hs:s.length≤16777216) (cx:Ctx W w (dkL q d++S) Φ) {K:Ending→World→Prop}
    (hk:∀ u w',DkQ (q.mv u) (settleS d f s)→Ctx W w' (dkL (q.mv u) (settleS d f s)++S) Φ→K (.returned (.tuple #[])) w'):Calls Tryz.prog F.disk_Disk_settle #[.pointer (some ⟨q.db,0,none⟩),.int .i64 f,.string (bs s)] w K:=by
  refine (Bdisk_Disk_settle_run q.db 0 f (bs s) (J:=fun u w'=>K (.returned u) w') cx fun kb w G cx=>⟨f,cx.get 0 rfl rfl,fun w G cx=>⟨some q.fm,dk_blk (d:=d) cx.drop1.left rfl,fun w G cx=>?_⟩⟩).mono fun e w' ⟨v,he,hj⟩=>by rw [he];exact hj
  obtain ⟨es1,clk1,hr,ok1,hg1⟩:=run_updateG (P:=Tryz.prog) filTy hq.fok (dk_fm (d:=d) cx.drop1.left) f ⟨s,s⟩
  have cx:Ctx W w (.blk kb [.int .i64 f] 3 :: .blk q.db (dkB q d) 97 :: .obj q.fm (gObj (Value.int .i64) filV q.fes q.fclk) :: .obj q.sm (gObj secV Value.bool q.ses q.sclk) :: bufQ q.qp q.qc d.queue :: (S++G)) Φ:=cx
  have c1:=(cx.putObj 2 (gObj (Value.int .i64) filV es1 clk1) rfl).perm (List.perm_middle (l₁:=[Own.blk kb [.int .i64 f] 3,.blk q.db (dkB q d) 97,.obj q.fm (gObj (Value.int .i64) filV es1 clk1),.obj q.sm (gObj secV Value.bool q.ses q.sclk)]))
  refine ⟨_,hr,bufQ q.qp q.qc d.queue :: .blk kb [.int .i64 f] 3 :: .blk q.db (dkB q d) 97 :: .obj q.fm (gObj (Value.int .i64) filV es1 clk1) :: .obj q.sm (gObj secV Value.bool q.ses q.sclk) :: S,Φ,inferInstance,c1,fun w G cx=>⟨q.qp,_,q.qc,cx.get 2 rfl rfl,fun w G cx=>?_⟩⟩
  have hle:=hq.qlen
  refine Delete_use (Z:=[.blk kb [.int .i64 f] 3]) settle1_fn d.queue (by omega) (S:=.blk q.db (dkB q d) 97 :: .obj q.fm (gObj (Value.int .i64) filV es1 clk1) :: .obj q.sm (gObj secV Value.bool q.ses q.sclk) :: (S++G)) cx fun w cx=>?_
  have ef:(d.queue.filter fun p => !(decide (p.1=f)))=d.queue.filter fun p=>decide (p.1≠f):=by
    refine congrArg (fun g=>d.queue.filter g) (funext fun p=>?_)
    by_cases h:p.1=f<;>simp [h]
  rw [ef] at cx ⊢
  generalize hqu:(d.queue.filter fun p=>decide (p.1≠f))=qu at cx ⊢
  refine ⟨_,_,_,rfl,bufQ q.qp q.qc qu :: .blk kb [.int .i64 f] 3 :: .blk q.db (dkB q d) 97 :: .obj q.fm (gObj (Value.int .i64) filV es1 clk1) :: .obj q.sm (gObj secV Value.bool q.ses q.sclk) :: S,Φ,inferInstance,cx,fun w G cx=>⟨cx.can 2 rfl (by show 0+1+1≤7;omega),fun w' hw'=>?_⟩⟩
  have c2:=(cx.put 2 hw' rfl)
  refine ⟨bufQ q.qp q.qc qu :: .blk kb [.int .i64 f] 3 :: .blk q.db ((dkB q d).set 1 (.slice q.qp qu.length q.qc)) 97 :: .obj q.fm (gObj (Value.int .i64) filV es1 clk1) :: .obj q.sm (gObj secV Value.bool q.ses q.sclk) :: S,Φ,inferInstance,c2,fun w G cx=>⟨some q.sm,cx.get 2 rfl rfl,fun w G cx=>?_⟩⟩
  have cx:Ctx W w ([bufQ q.qp q.qc qu,.blk kb [.int .i64 f] 3,.blk q.db ((dkB q d).set 1 (.slice q.qp qu.length q.qc)) 97,.obj q.fm (gObj (Value.int .i64) filV es1 clk1)]++setO q.sm q.ses q.sclk :: (S++G)) Φ:=cx
  have cx:=cx.perm List.perm_middle
  have cx:Ctx W w (setO q.sm q.ses q.sclk :: ([bufQ q.qp q.qc qu]++.blk kb [.int .i64 f] 3 :: (.blk q.db ((dkB q d).set 1 (.slice q.qp qu.length q.qc)) 97 :: .obj q.fm (gObj (Value.int .i64) filV es1 clk1) :: (S++G)))) Φ:=cx
  have cx:=cx.perm (List.Perm.cons _ List.perm_middle)
  refine MapDel_use (Z:=[.blk kb [.int .i64 f] 3]) settle2_fn hq.sok cx fun es2 w ok2 hg2 cx=>?_
  have cx:Ctx W w ([setO q.sm es2 q.sclk,.blk kb [.int .i64 f] 3,bufQ q.qp q.qc qu]++.blk q.db ((dkB q d).set 1 (.slice q.qp qu.length q.qc)) 97 :: .obj q.fm (gObj (Value.int .i64) filV es1 clk1) :: (S++G)) Φ:=cx
  refine ⟨rfl,[setO q.sm es2 q.sclk,.blk kb [.int .i64 f] 3,bufQ q.qp q.qc qu]++.blk q.db ((dkB q d).set 1 (.slice q.qp qu.length q.qc)) 97 :: .obj q.fm (gObj (Value.int .i64) filV es1 clk1) :: S,Φ,inferInstance,cx,fun w G cx=>?_⟩
  have hd:settleS d f s={ d.set f ⟨s,s⟩ with queue:=qu }:=by unfold settleS;rw [hqu]
  refine hk ⟨q.fm,es1,clk1,q.sm,es2,q.sclk,q.qp,q.qc⟩ w ?_ ?_
  · rw [hd]
    have hsub:qu.Sublist d.queue:=by rw [←hqu];exact List.filter_sublist
    refine ⟨ok1,ok2,fun k=>?_,fun p=>?_,hq.nodup.sublist hsub,fun p hp=>hq.range p (hsub.subset hp),fun k=>?_,hq.lost,hq.armed⟩
    · have:=hg1 k
      rw [hq.fget k] at this
      exact this
    · show getG false es2 p=decide (p∈qu)
      rw [hg2 p,hq.sget p,←hqu]
      by_cases e:p.1=f
      · rw [if_pos (by simpa using e)]
        symm
        exact decide_eq_false fun h=>by
          have:=(List.mem_filter.1 h).2
          simp [e] at this
      · rw [if_neg (by simpa using e)]
        refine decide_eq_decide.2 ⟨fun h=>List.mem_filter.2 ⟨h,by simpa using e⟩,fun h=>(List.mem_filter.1 h).1⟩
    · show (if k=f then _ else d.files k).now.length≤_∧(if k=f then _ else d.files k).last.length≤_
      by_cases e:k=f
      · rw [if_pos e];exact ⟨hs,hs⟩
      · rw [if_neg e];exact hq.size k
  · rw [hd]
    have c3:Ctx W w (setO q.sm es2 q.sclk :: bufQ q.qp q.qc qu :: .blk q.db ((dkB q d).set 1 (.slice q.qp qu.length q.qc)) 97 :: .obj q.fm (gObj (Value.int .i64) filV es1 clk1) :: S) Φ:=(Ctx.left (S:=[setO q.sm es2 q.sclk,.blk kb [.int .i64 f] 3,bufQ q.qp q.qc qu]++.blk q.db ((dkB q d).set 1 (.slice q.qp qu.length q.qc)) 97 :: .obj q.fm (gObj (Value.int .i64) filV es1 clk1) :: S) cx).sub (.cons_cons _ (.cons _ (List.Sublist.refl _)))
    have c4:=c3.perm (show ([setO q.sm es2 q.sclk,bufQ q.qp q.qc qu]++([Own.blk q.db ((dkB q d).set 1 (.slice q.qp qu.length q.qc)) 97,.obj q.fm (gObj (Value.int .i64) filV es1 clk1)]++S)).Perm ([Own.blk q.db ((dkB q d).set 1 (.slice q.qp qu.length q.qc)) 97,.obj q.fm (gObj (Value.int .i64) filV es1 clk1)]++([setO q.sm es2 q.sclk,bufQ q.qp q.qc qu]++S)) from perm3 _ _ [] S)
    exact c4
end Go.Proofs.YtfccagphnfceiaaGreatDoor
end

section
namespace Go.Proofs.YtfccagphnfceiaaGreatDoor
open Go.Vc
theorem i64_and1 (n:Int):bits .and .i64 n 1=n % 2:=by
  have h15:(BitVec.ofInt 64 1).toNat=2 ^ 1 - 1:=by decide
  have key:(BitVec.ofInt 64 n &&& BitVec.ofInt 64 1).toNat=(n % ((2 ^ 64:Nat):Int)).toNat % 2 ^ 1:=by
    rw [BitVec.toNat_and,BitVec.toNat_ofInt,h15,Nat.and_two_pow_sub_one_eq_mod]
  show IntKind.i64.wrap ((BitVec.ofInt 64 n &&& BitVec.ofInt 64 1).toNat:Nat)=n % 2
  rw [key,IntKind.wrap_i64]
  omega
theorem run_and1 {P:Program} {t:TypeId} (n:Int) (w:World):Sem.run P (binOp .and t (.int .i64 n) (.int .i64 1)) w=.ok (.int .i64 (n % 2)) w:=by
  rw [binOp_and,intBits_and,i64_and1]
  rfl
theorem int_oneJ (M:List Nat) (w:World) (cs:List Value) (x:Int) (h:Gv.rep M w cs x):(cs.all fun u=>oneC u)=true:=by
  obtain ⟨rfl,_⟩:=h
  rfl
theorem sl_intJ {M:List Nat} {w:World} {b o:Nat} {l:List Int} (h:Sl M w (some ⟨b,o,none⟩) l) {i:Nat} (hi:i<l.length):w.cell? ⟨b,o+i,none⟩=some (.int .i64 l[i]):=by
  obtain ⟨b',o',cs,e,_,h3,rfl,_⟩:=h i hi
  cases e
  have:=h3 0 (by simp)
  simpa [show (Gv.ty Int).size=1 from rfl] using this
theorem getG_mem {κ ν:Type} [DecidableEq κ] {z:ν}:∀ {es:List (GEnt κ ν)},es.Pairwise (fun a b=>a.key≠b.key)→∀ a∈es,getG z es a.key=a.val
  | [],_,a,ha=>by cases ha
  | e :: es,hp,a,ha=>by
    obtain ⟨h1,h2⟩:=List.pairwise_cons.1 hp
    show (if a.key=e.key then e.val else getG z es a.key)=a.val
    rcases List.mem_cons.1 ha with rfl|ha
    · rw [if_pos rfl]
    · rw [if_neg (fun h=>h1 a ha h.symm)]
      exact getG_mem h2 a ha
theorem same_at {κ ν:Type} {es es1:List (GEnt κ ν)} (hk:es1.map GEnt.key=es.map GEnt.key) (hb:es1.map GEnt.born=es.map GEnt.born) {e:GEnt κ ν} (he:e∈es1):∃ e'∈es,e'.key=e.key∧e'.born=e.born:=by
  obtain ⟨i,hi,rfl⟩:=List.getElem_of_mem he
  have hl:i<es.length:=by have:=congrArg List.length hk;simp at this;omega
  have h1:(es1.map GEnt.key)[i]? = (es.map GEnt.key)[i]? := by rw [hk]
  have h2:(es1.map GEnt.born)[i]? = (es.map GEnt.born)[i]? := by rw [hb]
  rw [List.getElem?_map,List.getElem?_map,List.getElem?_eq_getElem hi,List.getElem?_eq_getElem hl] at h1 h2
  exact ⟨es[i],List.getElem_mem hl,(Option.some.inj h1).symm,(Option.some.inj h2).symm⟩
section
variable {W w:World} {S G:List Own} {Φ:PW}
theorem CloneZ_use [Stable Φ] {p:Option Addr} {cap:Nat} {l:List Int} (hl:l.length≤1000000) (hsl:∀ M w,Φ M w→Sl M w p l) (cx:Ctx W w S Φ) {K:Ending→World→Prop}
    (hk:∀ p' c' w',Ctx W w' S (fun M w=>Φ M w∧Sl M w p' l)→K (.returned (.slice p' l.length c')) w'):Calls Tryz.prog F.slices_Clone_int_int #[.slice p l.length cap] w K:=by
  refine (Bslices_Clone_int_int_run p l.length cap (J:=fun u w'=>K (.returned u) w') cx (Br.intro (fun hn=>fun w G cx=>?_) (fun hn=>fun kb w G cx=>?_))).mono fun e w' ⟨v,he,hj⟩=>by rw [he];exact hj
  · have h:l=[]:=by
      cases l with
      | nil=>rfl
      | cons x l =>
        obtain ⟨b,o,cs,e,_⟩:=hsl _ _ cx.phi 0 (by simp)
        rw [e] at hn;cases hn
    subst h
    exact hk none 0 w (cx.left.add Sl.nil)
  · obtain ⟨p',cap',w',cs,hrun,c'⟩:=Ctx.cloned (P:=Tryz.prog) (ts:=23) (ty:=23) (kb:=#[false,false]) (bytes:=8) (c2:=cap) cx (by kernel_rfl) int_oneJ hsl (by omega) (by omega)
    obtain ⟨c2,hsl2,_⟩:=c'.freeze c'.phi.2
    exact ⟨_,_,_,_,hrun,S,fun M w=>Φ M w∧Sl M w p' l,inferInstance,(c2.weak fun _ _ h=>h.1).add hsl2,fun w G cx=>hk p' cap' w cx.left⟩
theorem Arm_use [Stable Φ] {q:DkP} {d:DsS} (hq:DkQ q d) {n:Int} (hn:I64 n) {p:Option Addr} {cap:Nat} {l:List Int} (hl:l.length≤1000000) (hsl:∀ M w,Φ M w→Sl M w p l) (cx:Ctx W w (dkL q d++S) Φ) {K:Ending→World→Prop}
    (hk:∀ p' c' w',DkQ { q with kp:=p',kc:=c' } (armS d n l)→Ctx W w' (dkL { q with kp:=p',kc:=c' } (armS d n l)++S) (fun M w=>Φ M w∧dkF { q with kp:=p',kc:=c' } (armS d n l) M w)→K (.returned (.tuple #[])) w') :
    Calls Tryz.prog F.disk_Disk_Arm #[.pointer (some ⟨q.db,0,none⟩),.int .i64 n,.slice p l.length cap] w K:=by
  unfold I64 at hn
  refine (Bdisk_Disk_Arm_run q.db 0 n p l.length cap (J:=fun u w'=>K (.returned u) w') cx fun w G cx=>CloneZ_use hl hsl cx fun p' c' w cx=>⟨_,_,_,rfl,dkL q d++S,(fun M w=>Φ M w∧Sl M w p' l),inferInstance,cx,fun w G cx=>⟨cx.can 0 rfl (by show 0+5+1≤7;omega),fun w' hw'=>?_⟩⟩).mono fun e w' ⟨v,he,hj⟩=>by rw [he];exact hj
  have c1:=cx.put 0 hw' rfl
  refine ⟨.blk q.db ((dkB q d).set 5 (.int .i64 (max n 0))) 97 :: .obj q.fm (gObj (Value.int .i64) filV q.fes q.fclk) :: .obj q.sm (gObj secV Value.bool q.ses q.sclk) :: bufQ q.qp q.qc d.queue :: S,(fun M w=>Φ M w∧Sl M w p' l),inferInstance,c1,fun w G cx=>⟨cx.can 0 rfl (by show 0+6+1≤7;omega),fun w' hw'=>?_⟩⟩
  have c2:=cx.put 0 hw' rfl
  exact ⟨dkL { q with kp:=p',kc:=c' } (armS d n l)++S,(fun M w=>Φ M w∧Sl M w p' l),inferInstance,c2,fun w G cx=>hk p' c' w ⟨hq.fok,hq.sok,hq.fget,hq.sget,hq.nodup,hq.range,hq.size,hq.lost,⟨by show 0≤max n 0;omega,by show max n 0≤_;omega⟩⟩ cx.left⟩
end
end Go.Proofs.YtfccagphnfceiaaGreatDoor
end

section
namespace Go.Proofs.YtfccagphnfceiaaGreatDoor
open Go.Vc
theorem surv_skip {keep:List Int} {i:Nat} {p:Int × Int} {fs:Int→FilD} (h:keep=[]∨keep.getD (i % keep.length) 0 % 2=0∨((fs p.1).now.length:Int)≤p.2*64):surv keep i p fs=fs:=by
  unfold surv;rw [if_pos h]
theorem surv_put {keep:List Int} {i:Nat} {p:Int × Int} {fs:Int→FilD} (h:¬ (keep=[]∨keep.getD (i % keep.length) 0 % 2=0∨((fs p.1).now.length:Int)≤p.2*64)) :
    surv keep i p fs=fun k=>if k=p.1 then ⟨(fs p.1).now,putL (fs p.1).last (p.2*64).toNat (((fs p.1).now.drop (p.2*64).toNat).take 64)⟩ else fs k:=by
  unfold surv;rw [if_neg h]
section
variable {W w:World} {S G:List Own} {Φ:PW}
theorem ptrK_keep {keep:List Int} {p:Option Addr} (hkp:0<keep.length→∃ g o,p=some ⟨g,o,none⟩) {K:Nat→Nat→Prop} (hk:∀ b o,(keep≠[]→p=some ⟨b,o,none⟩)→K b o):ptrK (some !decide ((keep.length:Int)=0)) p K:=by
  by_cases h:keep=[]
  · subst h
    exact ptrK_off rfl fun b o=>hk b o fun h=>absurd rfl h
  · obtain ⟨g,o,e⟩:=hkp (List.length_pos_iff.2 h)
    exact ptrK_intro g o e (hk g o fun _=>e)
structure CrI (q:DkP) (d:DsS) (keep:List Int) (i:Nat) (fes:List (GEnt Int FilD)) (fclk:Nat) (fs:Int→FilD):Prop where
  ok:GOk fes fclk
  get:∀ k,getG fil0 fes k=fs k
  size:∀ k,(fs k).now.length≤16777216∧(fs k).last.length≤16777216
  rest:survs keep i (d.queue.drop i) fs=survs keep 0 d.queue d.files
abbrev dkC (q:DkP) (d:DsS) (fes:List (GEnt Int FilD)) (fclk:Nat):List Own:=[.blk q.db (dkB q { d with down:=true,armed:=0 }) 97,.obj q.fm (gObj (Value.int .i64) filV fes fclk),.obj q.sm (gObj secV Value.bool q.ses q.sclk),bufQ q.qp q.qc d.queue]
theorem Crash_use [Stable Φ] {q:DkP} {d:DsS} (hq:DkQ q d) {p:Option Addr} {cap:Nat} {keep:List Int} (hl:keep.length≤1000000) (hsl:∀ M w,Φ M w→Sl M w p keep) (cx:Ctx W w (dkL q d++S) Φ) {K:Ending→World→Prop}
    (hk:∀ u w',DkQ (q.mv u) (crashS d keep)→Ctx W w' (dkL (q.mv u) (crashS d keep)++S) Φ→K (.returned (.tuple #[])) w'):Calls Tryz.prog F.disk_Disk_Crash #[.pointer (some ⟨q.db,0,none⟩),.slice p keep.length cap] w K:=by
  have hqp:0<d.queue.length→∃ g,q.qp=some ⟨g,0,none⟩:=fun h=>by
    obtain ⟨g,hg,_⟩:=cx.bufCell 3 rfl (by rw [secC_len];omega)
    exact ⟨g,hg⟩
  have hkp:0<keep.length→∃ g o,p=some ⟨g,o,none⟩:=fun h=>by
    obtain ⟨b,o,cs,e,_⟩:=hsl _ _ cx.phi 0 h
    exact ⟨b,o,e⟩
  refine (Bdisk_Disk_Crash_run q.db 0 p keep.length cap (J:=fun u w'=>K (.returned u) w') cx fun w G cx=>⟨d.down,dk_blk cx.left rfl,Br.intro (fun h=>fun w G cx=>?_) (fun h=>fun w G cx=>⟨cx.can 0 rfl (by show 0+4+1≤7;omega),fun w' hw'=>?_⟩)⟩).mono fun e w' ⟨v,he,hj⟩=>by rw [he];exact hj
  · have e:crashS d keep=d:=by unfold crashS;rw [if_pos h]
    rw [e] at hk
    exact hk q.un w hq cx.left
  have c1:=cx.put 0 hw' rfl
  refine ⟨.blk q.db ((dkB q d).set 4 (.bool true)) 97 :: .obj q.fm (gObj (Value.int .i64) filV q.fes q.fclk) :: .obj q.sm (gObj secV Value.bool q.ses q.sclk) :: bufQ q.qp q.qc d.queue :: S,Φ,inferInstance,c1,fun w G cx=>⟨cx.can 0 rfl (by show 0+5+1≤7;omega),fun w' hw'=>?_⟩⟩
  have c2:=cx.put 0 hw' rfl
  refine ⟨dkC q d q.fes q.fclk++S,Φ,inferInstance,c2,fun w G cx=>⟨q.qp,d.queue.length,q.qc,cx.get 0 rfl rfl,?_⟩⟩
  refine exI_mk (fun iI R' Φ' n=>∃ (i:Nat) (fes:List (GEnt Int FilD)) (fclk:Nat) (fs:Int→FilD),iI=i∧i+n=d.queue.length∧R'=dkC q d fes fclk++S∧Φ'=Φ∧CrI q d keep i fes fclk fs) ⟨⟨_,Φ,d.queue.length,inferInstance,fun w G cx=>cx,0,q.fes,q.fclk,d.files,rfl,by omega,rfl,rfl,⟨hq.fok,hq.fget,hq.size,rfl⟩⟩,?_⟩
  rintro iI R1 Φ n st ⟨i,fes,fclk,fs,rfl,hin,rfl,rfl,hI⟩
  refine Br.intro (fun hlt=>?_) (fun hge=>fun w G cx=>?_)
  · have hlt:i<d.queue.length:=by have:=of_decide_eq_true hlt;omega
    obtain ⟨n,rfl⟩:∃ m,n=m+1:=⟨n - 1,by omega⟩
    have hdrop:d.queue.drop i=d.queue[i] :: d.queue.drop (i+1):=List.drop_eq_getElem_cons hlt
    have hrg:=hq.range _ (List.getElem_mem hlt)
    have hrest:=hI.rest
    rw [hdrop] at hrest
    have hrest:survs keep (i+1) (d.queue.drop (i+1)) (surv keep i d.queue[i] fs)=survs keep 0 d.queue d.files:=hrest
    generalize hp:d.queue[i]=P at hrest hrg
    obtain ⟨F,n0⟩:=P
    obtain ⟨m,rfl⟩:∃ m:Nat,n0=m:=⟨n0.toNat,by have:=hrg.2.1;simp only at this;omega⟩
    have hm:m<262145:=by have:=hrg.2.2;simp only at this;omega
    have hI64:I64 ((m:Int)*64):=by unfold I64;omega
    obtain ⟨g,hg⟩:=hqp (by omega)
    refine ⟨⟨by omega,by omega⟩,ptrK_intro g 0 hg fun w G cx=>⟨F,m,?_,fun b=>⟨dkC q d fes fclk++S,Φ,inferInstance,fun w G cx=>cx,hI64,some q.fm,fun w G cx=>⟨some q.fm,cx.get 0 rfl rfl,rfl⟩,bs (fs F).now,bs (fs F).last,fun w G cx=>⟨bs (fs F).now,bs (fs F).last,fun w2 hw2=>?_,rfl⟩,fun kb=>⟨fun w G cx=>cx.drop1,fun w G cx=>⟨cx.can 0 rfl (by decide),fun w' hw'=>?_⟩⟩⟩⟩⟩
    · rw [Nat.zero_add,Int.toNat_natCast]
      have:RowAt w g (i*2) [.int .i64 d.queue[i].1,.int .i64 d.queue[i].2]:=cx.bufRow 3 rfl hg (rows_of (secC_at hlt))
      rw [hp] at this
      exact this
    · have hr:=run_lookupG (P:=Tryz.prog) filTy (w:=w2) (by rw [hw2];exact cx.own (.obj q.fm (gObj (Value.int .i64) filV fes fclk)) (by simp)) F
      rw [hI.get] at hr
      exact hr
    have c1:=cx.puts 0 hw' rfl
    refine ⟨.blk kb [.string (bs (fs F).now),.string (bs (fs F).last)] 112 :: (dkC q d fes fclk++S),Φ,inferInstance,c1,fun w G cx=>cx.drop1,fun w G cx=>?_⟩
    have hnow:w.cell? ⟨kb,0,none⟩=some (.string (bs (fs F).now)):=cx.get 0 rfl rfl
    refine ⟨fun h=>by simpa using h,fun h=>?_,?_⟩
    · have:(keep.length:Int)≠0:=by simpa using h
      rw [Int.tmod_eq_emod_of_nonneg (by omega)]
      exact ⟨Int.emod_nonneg _ (by omega),Int.emod_lt_of_pos _ (by omega)⟩
    refine ptrK_keep hkp fun b2 o2 hpk=>⟨keep.getD (i % keep.length) 0,fun h=>?_,keep.getD (i % keep.length) 0 % 2,fun _ w=>run_and1 _ w,bs (fs F).now,fun _=>hnow,Br.intro (fun hc=>?_) (fun hc=>?_)⟩
    · have hne:keep≠[]:=fun e=>by rw [e] at h;simp at h
      have hpos:=List.length_pos_iff.2 hne
      have hmod:i % keep.length<keep.length:=Nat.mod_lt _ hpos
      have hs:=hsl _ _ cx.phi
      rw [hpk hne] at hs
      have:=sl_intJ hs hmod
      rw [Int.tmod_eq_emod_of_nonneg (by omega),show ((i:Int) % (keep.length:Int)).toNat=i % keep.length by omega,this,List.getD_eq_getElem?_getD,List.getElem?_eq_getElem hmod]
      rfl
    · have hc:keep=[]∨keep.getD (i % keep.length) 0 % 2=0∨((fs F).now.length:Int)≤(m:Int)*64:=by
        rw [bs_size] at hc
        simp only [Bool.or_eq_true,decide_eq_true_eq] at hc
        rcases hc with (hc|hc)|hc
        · exact .inl (List.eq_nil_of_length_eq_zero (by omega))
        · exact .inr (.inl hc)
        · exact .inr (.inr hc)
      rw [surv_skip (p:=(F,(m:Int))) hc] at hrest
      exact ⟨by unfold I64;have:=hq.qlen;omega,dkC q d fes fclk++S,Φ,n,inferInstance,fun w G cx=>cx.drop1,⟨i+1,fes,fclk,fs,by omega,by omega,rfl,rfl,hI.ok,hI.get,hI.size,hrest⟩,Nat.lt_succ_self _⟩
    · have hc:¬ (keep=[]∨keep.getD (i % keep.length) 0 % 2=0∨((fs F).now.length:Int)≤(m:Int)*64):=by
        rw [bs_size] at hc
        simp only [Bool.or_eq_false_iff,decide_eq_false_iff_not] at hc
        rintro (h|h|h)
        · exact hc.1.1 (by rw [h];rfl)
        · exact hc.1.2 h
        · exact hc.2 h
      rw [surv_put (p:=(F,(m:Int))) hc] at hrest
      have hlt2:m*64<(fs F).now.length:=by
        have:¬ ((fs F).now.length:Int)≤(m:Int)*64:=fun h=>hc (.inr (.inr h))
        omega
      have hsz:=hI.size F
      have hrow:∀ {w:World} {G:List Own},Ctx W w ([Own.blk kb [.string (bs (fs F).now),.string (bs (fs F).last)] 112]++G) tru→w.cell? ⟨kb,0,none⟩=some (.string (bs (fs F).now))∧w.cell? ⟨kb,1,none⟩=some (.string (bs (fs F).last)):=fun cx=>⟨cx.get 0 rfl rfl,cx.get 0 rfl rfl⟩
      rw [show (((m:Int)*64).toNat)=m*64 by omega] at hrest
      refine ⟨[.blk kb [.string (bs (fs F).now),.string (bs (fs F).last)] 112],tru,inferInstance,fun w G cx=>cut_to cx (.cons_cons _ (List.nil_sublist _)),bs (fs F).last,fun w G cx=>⟨_,(hrow cx).2,rfl⟩,bs (fs F).now,fun w G cx=>⟨_,(hrow cx).1,rfl⟩,by unfold I64;omega,bs (fs F).now,fun w G cx=>⟨_,(hrow cx).1,rfl⟩,⟨by omega,by rw [bs_size];omega,by rw [bs_size];omega⟩,fun w G cx=>?_⟩
      have ech:(bs (fs F).now).extract ((m:Int)*64).toNat (min ((m:Int)*64+64) ((bs (fs F).now).size:Int)).toNat=bs (((fs F).now.drop (m*64)).take 64):=by
        rw [bs_extract,bs_size,show ((m:Int)*64).toNat=m*64 by omega]
        refine congrArg bs ?_
        by_cases h:m*64+64≤(fs F).now.length
        · rw [show (min ((m:Int)*64+64) ((fs F).now.length:Int)).toNat - m*64=64 by omega]
        · rw [List.take_of_length_le (by rw [List.length_drop];omega),List.take_of_length_le (by rw [List.length_drop];omega)]
      rw [ech,show (m:Int)*64=((m*64:Nat):Int) by omega]
      generalize hch:((fs F).now.drop (m*64)).take 64=ch at hrest
      have hchl:m*64+ch.length≤(fs F).now.length∧ch≠[]:=by
        rw [←hch]
        refine ⟨by rw [List.length_take,List.length_drop];omega,fun e=>?_⟩
        have:=congrArg List.length e
        rw [List.length_take,List.length_drop] at this
        simp at this;omega
      refine put_use (S:=(.blk kb [.string (bs (fs F).now),.string (bs (fs F).last)] 112 :: (dkC q d fes fclk++S))++G) cx (by omega) hsz.2 fun w cx=>⟨_,rfl,.blk kb [.string (bs (fs F).now),.string (bs (fs F).last)] 112 :: (dkC q d fes fclk++S),Φ,inferInstance,cx,fun w G cx=>⟨cx.can 0 rfl (by show 1+1≤2;omega),fun w' hw'=>?_⟩⟩
      have c2:=cx.put 0 hw' rfl
      refine ⟨.blk kb [.string (bs (fs F).now),.string (bs (putL (fs F).last (m*64) ch))] 112 :: (dkC q d fes fclk++S),Φ,inferInstance,c2,fun w G cx=>⟨_,_,cx.row0 0 rfl,fun w G cx=>⟨some q.fm,cx.get 1 rfl rfl,fun w G cx=>?_⟩⟩⟩
      obtain ⟨es1,clk1,hr,ok1,hg1⟩:=run_updateG (P:=Tryz.prog) filTy hI.ok (cx.own (.obj q.fm (gObj (Value.int .i64) filV fes fclk)) (by simp)) F ⟨(fs F).now,putL (fs F).last (m*64) ch⟩
      have c3:=cx.putObj 2 (gObj (Value.int .i64) filV es1 clk1) rfl
      refine ⟨_,hr,.blk kb [.string (bs (fs F).now),.string (bs (putL (fs F).last (m*64) ch))] 112 :: (dkC q d es1 clk1++S),Φ,inferInstance,c3,by unfold I64;have:=hq.qlen;omega,dkC q d es1 clk1++S,Φ,n,inferInstance,fun w G cx=>cx.drop1,⟨i+1,es1,clk1,_,by omega,by omega,rfl,rfl,ok1,fun k=>?_,fun k=>?_,hrest⟩,Nat.lt_succ_self _⟩
      · rw [hg1 k,hI.get k]
      · show (if k=F then _ else fs k).now.length≤_∧(if k=F then _ else fs k).last.length≤_
        by_cases e:k=F
        · rw [if_pos e]
          refine ⟨hsz.1,?_⟩
          show (putL (fs F).last (m*64) ch).length≤_
          rw [putL_length hchl.2];omega
        · rw [if_neg e];exact hI.size k
  · have hge:=of_decide_eq_false hge
    have hfs:fs=survs keep 0 d.queue d.files:=by
      have:=hI.rest
      rw [List.drop_eq_nil_of_le (by omega)] at this
      exact this
    refine ⟨some q.fm,cx.get 0 rfl rfl,fun w G cx=>?_⟩
    have hb:=cx.own (.obj q.fm (gObj (Value.int .i64) filV fes fclk)) (by simp)
    refine ⟨_,_,run_range_map (P:=Tryz.prog) w 93 3 112 q.fm _ fclk filTy.map hb,.obj w.heap.size (.mapIter (some q.fm) fclk #[] fclk) :: (dkC q d fes fclk++S),Φ,inferInstance,cx.newObj rfl,?_⟩
    generalize w.heap.size=r
    refine exI_mk (fun R' Φ' k=>∃ (seen:Array Nat) (es1:List (GEnt Int FilD)),R'=.obj r (.mapIter (some q.fm) fclk seen fclk) :: (dkC q d es1 fclk++S)∧Φ'=Φ∧k=leftN seen.toList es1∧GOk es1 fclk∧es1.map GEnt.key=fes.map GEnt.key∧(∀ e∈es1,getG fil0 es1 e.key=if e.born∈seen.toList then ⟨(fs e.key).last,(fs e.key).last⟩ else fs e.key))
      ⟨⟨_,Φ,_,inferInstance,fun w G cx=>cx,#[],fes,rfl,rfl,rfl,hI.ok,rfl,fun e he=>by simp [hI.get]⟩,?_⟩
    rintro R1 Φ n _ ⟨seen,es1,rfl,rfl,rfl,ok1,hkey,hget⟩
    intro w G cx
    have hr:=cx.own (.obj r (.mapIter (some q.fm) fclk seen fclk)) (by simp)
    have hb:=cx.own (.obj q.fm (gObj (Value.int .i64) filV es1 fclk)) (by simp)
    rcases next_g (P:=Tryz.prog) 0 hr hb ok1.lt (Nat.le_refl _) with ⟨hall,hrun⟩|⟨a,ha,hns,w1,hw1,hrun⟩
    · refine .inl ⟨w,hrun,.obj r (.mapIter (some q.fm) fclk seen fclk) :: (dkC q d es1 fclk++S),Φ,inferInstance,cx,fun sm w G cx=>⟨cx.can 2 rfl (by show 0+1+1≤7;omega),fun w' hw'=>?_⟩⟩
      have c1:=cx.put 2 hw' rfl
      refine ⟨.obj sm (Obj.map #[] 0) :: .obj r (.mapIter (some q.fm) fclk seen fclk) :: .blk q.db ((dkB q { d with down:=true,armed:=0 }).set 1 (.slice none 0 0)) 97 :: .obj q.fm (gObj (Value.int .i64) filV es1 fclk) :: .obj q.sm (gObj secV Value.bool q.ses q.sclk) :: bufQ q.qp q.qc d.queue :: S,Φ,inferInstance,c1,fun w G cx=>⟨cx.can 2 rfl (by show 0+2+1≤7;omega),fun w' hw'=>?_⟩⟩
      have c2:=cx.put 2 hw' rfl
      refine ⟨.obj sm (Obj.map #[] 0) :: .obj r (.mapIter (some q.fm) fclk seen fclk) :: .blk q.db (((dkB q { d with down:=true,armed:=0 }).set 1 (.slice none 0 0)).set 2 (.map (some sm))) 97 :: .obj q.fm (gObj (Value.int .i64) filV es1 fclk) :: .obj q.sm (gObj secV Value.bool q.ses q.sclk) :: bufQ q.qp q.qc d.queue :: S,Φ,inferInstance,c2,fun w G cx=>?_⟩
      have hd:crashS d keep={ d with down:=true,armed:=0,queue:=[],files:=fun k=>⟨(fs k).last,(fs k).last⟩ }:=by
        unfold crashS;rw [if_neg (by rw [h];simp),hfs]
      refine hk ⟨q.fm,es1,fclk,sm,[],0,none,0⟩ w ?_ ?_
      · rw [hd]
        refine ⟨ok1,⟨.nil,.nil,fun e he=>(by cases he)⟩,fun k=>?_,fun p=>rfl,List.nodup_nil,fun p hp=>(by cases hp),fun k=>⟨(hI.size k).2,(hI.size k).2⟩,hq.lost,⟨Int.le_refl 0,by show (0:Int)≤_;omega⟩⟩
        show getG fil0 es1 k=⟨(fs k).last,(fs k).last⟩
        by_cases hex:∃ e∈es1,e.key=k
        · obtain ⟨e,he,rfl⟩:=hex
          rw [hget e he,if_pos (hall e he)]
        · have h1:getG fil0 es1 k=fil0:=getG_none fun e he h=>hex ⟨e,he,h⟩
          have h2:getG fil0 fes k=fil0:=getG_none fun e he h=>hex (by
            have:k∈fes.map GEnt.key:=List.mem_map.2 ⟨e,he,h⟩
            rw [←hkey] at this
            obtain ⟨e',he',h'⟩:=List.mem_map.1 this
            exact ⟨e',he',h'⟩)
          rw [hI.get] at h2
          rw [h1,h2]
      · rw [hd]
        have c3:Ctx W w (.obj sm (Obj.map #[] 0) :: .blk q.db (((dkB q { d with down:=true,armed:=0 }).set 1 (.slice none 0 0)).set 2 (.map (some sm))) 97 :: .obj q.fm (gObj (Value.int .i64) filV es1 fclk) :: S) Φ:=(Ctx.left (S:=.obj sm (Obj.map #[] 0) :: .obj r (.mapIter (some q.fm) fclk seen fclk) :: .blk q.db (((dkB q { d with down:=true,armed:=0 }).set 1 (.slice none 0 0)).set 2 (.map (some sm))) 97 :: .obj q.fm (gObj (Value.int .i64) filV es1 fclk) :: .obj q.sm (gObj secV Value.bool q.ses q.sclk) :: bufQ q.qp q.qc d.queue :: S) cx).sub (.cons_cons _ (.cons _ (.cons_cons _ (.cons_cons _ (.cons _ (.cons _ (List.Sublist.refl _)))))))
        have c4:=c3.nobuf 110 2
        have c5:=c4.perm (show ([Own.buf none 0 0 [] 110 2,.obj sm (Obj.map #[] 0)]++([Own.blk q.db (((dkB q { d with down:=true,armed:=0 }).set 1 (.slice none 0 0)).set 2 (.map (some sm))) 97,.obj q.fm (gObj (Value.int .i64) filV es1 fclk)]++S)).Perm ([Own.blk q.db (((dkB q { d with down:=true,armed:=0 }).set 1 (.slice none 0 0)).set 2 (.map (some sm))) 97,.obj q.fm (gObj (Value.int .i64) filV es1 fclk)]++([Own.buf none 0 0 [] 110 2,.obj sm (Obj.map #[] 0)]++S)) from perm3 _ _ [] S)
        have c6:=c5.perm (show ([Own.blk q.db (((dkB q { d with down:=true,armed:=0 }).set 1 (.slice none 0 0)).set 2 (.map (some sm))) 97,.obj q.fm (gObj (Value.int .i64) filV es1 fclk)]++(Own.buf none 0 0 [] 110 2 :: .obj sm (Obj.map #[] 0) :: S)).Perm ([Own.blk q.db (((dkB q { d with down:=true,armed:=0 }).set 1 (.slice none 0 0)).set 2 (.map (some sm))) 97,.obj q.fm (gObj (Value.int .i64) filV es1 fclk)]++(.obj sm (Obj.map #[] 0) :: Own.buf none 0 0 [] 110 2 :: S)) from (List.Perm.swap _ _ _).append_left _)
        exact c6
    · have c1:Ctx W w1 ((.obj r (.mapIter (some q.fm) fclk seen fclk) :: (dkC q d es1 fclk++S))++G) Φ:=by
        rcases hw1 with rfl|rfl
        · exact cx
        · exact cx.draw 1
      have c2:=c1.putObj 0 (.mapIter (some q.fm) fclk (seen.push a.born) fclk) rfl
      refine .inr ⟨_,_,_,hrun,.obj r (.mapIter (some q.fm) fclk (seen.push a.born) fclk) :: (dkC q d es1 fclk++S),Φ,inferInstance,c2,fun w G cx=>?_⟩
      refine ⟨a.key,bs a.val.now,bs a.val.last,w,entry_g ok1 (cx.own (.obj r (.mapIter (some q.fm) fclk (seen.push a.born) fclk)) (by simp)) (cx.own (.obj q.fm (gObj (Value.int .i64) filV es1 fclk)) (by simp)) ha,.obj r (.mapIter (some q.fm) fclk (seen.push a.born) fclk) :: (dkC q d es1 fclk++S),Φ,inferInstance,cx,fun b0 w G cx=>⟨some q.fm,cx.get 1 rfl rfl,fun w G cx=>?_⟩⟩
      obtain ⟨es2,hr2,ok2,hg2,hk2,hb2⟩:=run_updateX (P:=Tryz.prog) filTy ok1 (cx.own (.obj q.fm (gObj (Value.int .i64) filV es1 fclk)) (by simp)) a.key ⟨a.val.last,a.val.last⟩ ⟨a,ha,rfl⟩
      have c3:=cx.putObj 2 (gObj (Value.int .i64) filV es2 fclk) rfl
      have hval:a.val=fs a.key:=by
        have h1:=hget a ha
        rw [getG_mem ok1.keys a ha,if_neg hns] at h1
        exact h1
      refine ⟨_,hr2,.obj r (.mapIter (some q.fm) fclk (seen.push a.born) fclk) :: (dkC q d es2 fclk++S),Φ,inferInstance,c3,_,Φ,leftN (seen.push a.born).toList es2,inferInstance,fun w G cx=>cx,⟨_,es2,rfl,rfl,rfl,ok2,hk2.trans hkey,fun e he=>?_⟩,?_⟩
      · obtain ⟨e',he',h1,h2⟩:=same_at hk2 hb2 he
        rw [hg2 e.key,Array.toList_push,←h1,←h2]
        by_cases hea:e'.key=a.key
        · have:e'=a:=pair_inj ok1.keys he' ha hea
          rw [if_pos hea,this,if_pos (by simp),hval]
        · rw [if_neg hea,hget e' he']
          have hne:e'.born≠a.born:=fun h=>hea (by rw [pair_inj ok1.borns he' ha h])
          have:e'.born∈seen.toList++[a.born] ↔ e'.born∈seen.toList:=⟨fun h=>by
            rcases List.mem_append.1 h with h|h
            · exact h
            · exact absurd (List.mem_singleton.1 h) hne,fun h=>List.mem_append_left _ h⟩
          by_cases hs:e'.born∈seen.toList
          · rw [if_pos hs,if_pos (this.2 hs)]
          · rw [if_neg hs,if_neg fun h=>hs (this.1 h)]
      · rw [Array.toList_push]
        exact leftN_push (by rw [hb2];exact List.Sublist.refl _) ha hns (List.nodup_iff_pairwise_ne.2 (List.pairwise_map.2 ok1.borns))
end
end Go.Proofs.YtfccagphnfceiaaGreatDoor
end

section
namespace Go.Proofs.YtfccagphnfceiaaGreatDoor
open Go.Vc
theorem tick_keep (d:DsS):(tickS d).keep=d.keep:=by
  unfold tickS;split<;>rfl
theorem write0_keep (d:DsS) (f a:Int) (s:Bs):(write0 d f a s).1.keep=d.keep:=by
  unfold write0
  repeat' split
  all_goals rfl
theorem crash_keep (d:DsS) (l:List Int):(crashS d l).keep=d.keep:=by
  unfold crashS;split<;>rfl
theorem fall_keep (d:DsS):(fallS d).keep=d.keep:=by
  unfold fallS;split
  · rw [crash_keep,tick_keep]
  · exact tick_keep d
theorem write_keep (d:DsS) (f a:Int) (s:Bs):(writeS d f a s).1.keep=d.keep:=by
  unfold writeS;split
  · show (crashS _ _).keep=_
    rw [crash_keep,write0_keep,tick_keep]
  · rw [write0_keep,tick_keep]
theorem sync_keep (d:DsS) (f:Int):(syncS d f).1.keep=d.keep:=by
  unfold syncS sync0
  repeat' split
  all_goals exact fall_keep d
section
variable {W w:World} {S G:List Own} {Φ:PW}
structure DkK (Φ:PW) (q:DkP) (d:DsS):Prop where
  le:d.keep.length≤1000000
  sl:∀ M w,Φ M w→Sl M w q.kp d.keep
theorem DkK.of {q:DkP} {d d':DsS} (h:DkK Φ q d) (e:d'.keep=d.keep) (u:DkU):DkK Φ (q.mv u) d':=⟨by rw [e];exact h.le,fun M w hp=>by rw [e];exact h.sl M w hp⟩
theorem DkK.weak {q:DkP} {d:DsS} (h:DkK Φ q d) {Ψ:PW} (e:∀ M w,Ψ M w→Φ M w):DkK Ψ q d:=⟨h.le,fun M w hp=>h.sl M w (e M w hp)⟩
theorem Write_use [Stable Φ] {q:DkP} {d:DsS} (hq:DkQ q d) (hkp:DkK Φ q d) {f a:Int} {s:Bs} (hs:s.length≤9223372036854775807) (cx:Ctx W w (dkL q d++S) Φ) {K:Ending→World→Prop}
    (hk:∀ u w',DkQ (q.mv u) (writeS d f a s).1→Ctx W w' (dkL (q.mv u) (writeS d f a s).1++S) Φ→K (.returned (.int .i64 (writeS d f a s).2)) w'):Calls Tryz.prog F.disk_Disk_Write #[.pointer (some ⟨q.db,0,none⟩),.int .i64 f,.int .i64 a,.string (bs s)] w K:=by
  refine (Bdisk_Disk_Write_run q.db 0 f a (bs s) (J:=fun u w'=>K (.returned u) w') cx fun w G cx=>ends_use (S:=S++G) hq (cx.re (List.append_assoc _ _ _)) fun w hq1 cx=>⟨_,rfl,dkL q (tickS d)++S,Φ,inferInstance,cx.re (List.append_assoc _ _ _).symm,fun w G cx=>write0_use (S:=S++G) hq1 hs (cx.re (List.append_assoc _ _ _)) fun u w hq2 cx=>⟨_,rfl,dkL (q.mv u) (write0 (tickS d) f a s).1++S,Φ,inferInstance,cx.re (List.append_assoc _ _ _).symm,Br.intro (fun hc=>fun w G cx=>?_) (fun hc=>fun w G cx=>?_)⟩⟩).mono fun e w' ⟨v,he,hj⟩=>by rw [he];exact hj
  · have e:writeS d f a s=(crashS (write0 (tickS d) f a s).1 d.keep,9):=by unfold writeS;rw [if_pos hc]
    have ek:(write0 (tickS d) f a s).1.keep=d.keep:=by rw [write0_keep,tick_keep]
    rw [e] at hk
    refine ⟨q.kp,(write0 (tickS d) f a s).1.keep.length,q.kc,dk_blk (q:=q.mv u) cx.left rfl,fun w G cx=>?_⟩
    rw [ek]
    exact Crash_use (S:=S++G) hq2 hkp.le hkp.sl (cx.re (List.append_assoc _ _ _)) fun u2 w hq3 cx=>⟨rfl,dkL (q.mv u2) (crashS (write0 (tickS d) f a s).1 d.keep)++S,Φ,inferInstance,cx.re (List.append_assoc _ _ _).symm,fun w G cx=>hk u2 w hq3 cx.left⟩
  · have e:writeS d f a s=write0 (tickS d) f a s:=by unfold writeS;rw [if_neg (by rw [hc];simp)]
    rw [e] at hk
    exact hk u w hq2 cx.left
theorem Sync_use [Stable Φ] {q:DkP} {d:DsS} (hq:DkQ q d) (hkp:DkK Φ q d) {f:Int} (cx:Ctx W w (dkL q d++S) Φ) {K:Ending→World→Prop}
    (hk:∀ u w',DkQ (q.mv u) (syncS d f).1→Ctx W w' (dkL (q.mv u) (syncS d f).1++S) Φ→K (.returned (.int .i64 (syncS d f).2)) w'):Calls Tryz.prog F.disk_Disk_Sync #[.pointer (some ⟨q.db,0,none⟩),.int .i64 f] w K:=by
  refine (Bdisk_Disk_Sync_run q.db 0 f (J:=fun u w'=>K (.returned u) w') cx (exI_mk (fun R' Φ'=>∃ u,R'=dkL (q.mv u) (fallS d)++S∧Φ'=Φ∧DkQ (q.mv u) (fallS d)) ⟨fun w G cx=>ends_use (S:=S++G) hq (cx.re (List.append_assoc _ _ _)) fun w hq1 cx=>⟨_,rfl,dkL q (tickS d)++S,Φ,inferInstance,cx.re (List.append_assoc _ _ _).symm,Br.intro (fun hc=>fun w G cx=>?_) (fun hc=>?_)⟩,?_⟩)).mono fun e w' ⟨v,he,hj⟩=>by rw [he];exact hj
  · have e:fallS d=crashS (tickS d) d.keep:=by unfold fallS;rw [if_pos hc]
    refine ⟨q.kp,(tickS d).keep.length,q.kc,dk_blk (q:=q) cx.left rfl,fun w G cx=>?_⟩
    rw [tick_keep]
    refine Crash_use (S:=S++G) hq1 hkp.le hkp.sl (cx.re (List.append_assoc _ _ _)) fun u2 w hq3 cx=>⟨rfl,dkL (q.mv u2) (crashS (tickS d) d.keep)++S,Φ,inferInstance,cx.re (List.append_assoc _ _ _).symm,_,Φ,inferInstance,fun w G cx=>cx,u2,by rw [e],rfl,by rw [e];exact hq3⟩
  · have e:fallS d=tickS d:=by unfold fallS;rw [if_neg (by rw [hc];simp)]
    exact ⟨_,Φ,inferInstance,fun w G cx=>cx,q.un,by rw [e];rfl,rfl,by rw [e];exact hq1⟩
  · rintro R1 Φ st ⟨u,rfl,rfl,hq1⟩
    have es:syncS d f=sync0 (fallS d) f:=rfl
    rw [es] at hk
    generalize fallS d=d1 at hk hq1
    intro w G cx
    refine may_use (S:=S++G) (q:=q.mv u) (cx.re (List.append_assoc _ _ _)) fun w cx=>⟨_,rfl,dkL (q.mv u) d1++S,Φ,inferInstance,cx.re (List.append_assoc _ _ _).symm,Br.intro (fun h=>fun w G cx=>?_) (fun h=>fun w G cx=>⟨d1.lost,dk_blk (q:=q.mv u) cx.left rfl,Br.intro (fun h2=>fun w G cx=>⟨d1.lost,dk_blk (q:=q.mv u) cx.left rfl,?_,fun w G cx=>⟨cx.can 0 rfl (by show 0+3+1≤7;omega),fun w' hw'=>?_⟩⟩) (fun h2=>fun w G cx=>?_)⟩)⟩
    · have e:sync0 d1 f=(d1,mayS d1 f):=by unfold sync0;rw [if_pos (of_decide_eq_true h)]
      rw [e] at hk
      exact hk u w hq1 cx.left
    · have:=hq1.lost
      unfold I64;omega
    · have e:sync0 d1 f=({ d1 with lost:=d1.lost - 1 },10):=by unfold sync0;rw [if_neg (of_decide_eq_false h),if_pos (of_decide_eq_true h2)]
      have hl:=hq1.lost
      have h2:=of_decide_eq_true h2
      rw [e] at hk
      have c1:=cx.put 0 hw' rfl
      exact ⟨dkL (q.mv u) { d1 with lost:=d1.lost - 1 }++S,Φ,inferInstance,c1,fun w G cx=>hk u w ⟨hq1.fok,hq1.sok,hq1.fget,hq1.sget,hq1.nodup,hq1.range,hq1.size,⟨by show 0≤d1.lost - 1;omega,by show d1.lost - 1≤_;omega⟩,hq1.armed⟩ cx.left⟩
    · have e:sync0 d1 f=(settleS d1 f (d1.files f).now,0):=by unfold sync0;rw [if_neg (of_decide_eq_false h),if_neg (of_decide_eq_false h2)]
      rw [e] at hk
      refine ⟨some u.fm,dk_blk (q:=q.mv u) cx.left rfl,fun w G cx=>⟨bs (d1.files f).now,bs (d1.files f).last,fun w2 hw2=>?_,fun w G cx=>?_⟩⟩
      · have hr:=run_lookupG (P:=Tryz.prog) filTy (w:=w2) (by rw [hw2];exact dk_fm (q:=q.mv u) cx.left) f
        rw [hq1.fget f] at hr
        exact hr
      · exact settle_use (S:=S++G) (q:=q.mv u) hq1 (hq1.size f).1 (cx.re (List.append_assoc _ _ _)) fun u2 w hq2 cx=>⟨rfl,dkL (q.mv u2) (settleS d1 f (d1.files f).now)++S,Φ,inferInstance,cx.re (List.append_assoc _ _ _).symm,fun w G cx=>hk u2 w hq2 cx.left⟩
end
end Go.Proofs.YtfccagphnfceiaaGreatDoor
end

section
namespace Go.Proofs.YtfccagphnfceiaaGreatDoor
open Go.Vc
theorem shr8 (n:Nat) (w:World):Sem.run Tryz.prog (binOp BinOp.shr 3 (.int .i64 (n:Int)) (.int .u64 8)) w=.ok (.int .i64 ((n / 256:Nat):Int)) w:=by
  show Sem.run Tryz.prog (Op.shift .shr .i64 (n:Int) .u64 8) w=_
  unfold Op.shift
  simp [Sem.run_pure]
  show (n:Int).fdiv 256=_
  rw [Int.fdiv_eq_ediv_of_nonneg _ (by decide)]
theorem shl8 (n:Nat) (h:n<16777216) (w:World):Sem.run Tryz.prog (binOp BinOp.shl 3 (.int .i64 (n:Int)) (.int .u64 8)) w=.ok (.int .i64 ((n*256:Nat):Int)) w:=by
  show Sem.run Tryz.prog (Op.shift .shl .i64 (n:Int) .u64 8) w=_
  unfold Op.shift
  simp [Sem.run_pure]
  rw [show (2:Int) ^ min 8 IntKind.i64.bits=256 from rfl,IntKind.wrap_i64]
  omega
theorem or8 (m b:Nat) (hm:m<16777216) (hb:b<256) (w:World):Sem.run Tryz.prog (binOp BinOp.or 3 (.int .i64 ((m*256:Nat):Int)) (.int .i64 (b:Int))) w=.ok (.int .i64 ((m*256+b:Nat):Int)) w:=by
  rw [binOp_or]
  show Sem.run Tryz.prog (Op.intBits .or .i64 _ _) w=_
  have:bits .or .i64 ((m*256:Nat):Int) (b:Int)=((m*256+b:Nat):Int):=by
    show IntKind.i64.wrap ((BitVec.ofInt 64 ((m*256:Nat):Int) ||| BitVec.ofInt 64 (b:Int)).toNat:Nat)=_
    have e1:(BitVec.ofInt 64 ((m*256:Nat):Int) ||| BitVec.ofInt 64 (b:Int)).toNat=m*256+b:=by
      rw [BitVec.toNat_or,BitVec.toNat_ofInt,BitVec.toNat_ofInt]
      have h1:(((m*256:Nat):Int) % ((2 ^ 64:Nat):Int)).toNat=2 ^ 8*m:=by omega
      have h2:((b:Int) % ((2 ^ 64:Nat):Int)).toNat=b:=by omega
      rw [h1,h2,←Nat.two_pow_add_eq_or_of_lt (by omega:b<2 ^ 8)]
      omega
    rw [e1,IntKind.wrap_i64]
    omega
  rw [intBits_or,this]
  rfl
theorem wrap_u8J (k:Nat):IntKind.u8.wrap (k:Int)=((k.toUInt8.toNat:Nat):Int):=by
  have:k.toUInt8.toNat=k % 256:=by simp
  rw [this]
  simp [IntKind.wrap,IntKind.signed,IntKind.bits]
theorem wrap_byteJ (u:UInt8):IntKind.i64.wrap (u.toNat:Int)=(u.toNat:Int):=by
  rw [IntKind.wrap_i64];have:=u.toNat_lt;omega
def partN (h:Bs):Nat→Nat
  | 0=>0
  | k+1=>partN h k*256+(h.getD (4 - k) 0).toNat
theorem partN_lt (h:Bs):∀ k,partN h k<256 ^ k
  | 0=>by show 0<1;omega
  | k+1=>by
    have h1:=partN_lt h k
    have h2:=(h.getD (4 - k) 0).toNat_lt
    show partN h k*256+_<256 ^ (k+1)
    rw [Nat.pow_succ]
    omega
theorem partN_four (h:Bs):partN h 4=hdrN h:=by
  unfold hdrN
  simp only [partN,Nat.zero_mul,Nat.zero_add,Nat.sub_zero]
section
variable {W w:World} {S G:List Own} {Φ:PW}
theorem push_byte [Stable Φ] {p:Option Addr} {cap g:Nat} {l:Bs} {x:UInt8} (hl:l.length<100000000) (cx:Ctx W w (.blk g [.int .u8 (x.toNat:Int)] 5 :: .buf p l.length cap (bB l) 5 1 :: S) Φ) :
    ∃ p' cap' w',Sem.run Tryz.prog (builtin Builtin.append #[129,129] 129 #[false,false] #[.slice p l.length cap,.slice (some ⟨g,0,none⟩) 1 1]) w=.ok (.value (.slice p' (l.length+1) cap')) w'∧Ctx W w' (.buf p' (l.length+1) cap' (bB (l++[x])) 5 1 :: S) Φ:=by
  obtain ⟨p',cap',w',hr,_,c2⟩:=cx.app1 (ts:=129) (ty:=129) (kb:=#[false,false]) (bytes:=1) (by kernel_rfl) (by decide) rfl rfl hl (by decide)
  refine ⟨p',cap',w',hr,?_⟩
  have:bB (l++[x])=bB l++[.int .u8 (x.toNat:Int)]:=by simp [bB]
  rw [this]
  exact c2
theorem bytes_of [Stable Φ] {b n cap:Nat} {l:Bs} (cx:Ctx W w (.buf (some ⟨b,0,none⟩) n cap (bB l) 5 1 :: S) Φ):Lib.Bytes w b 0 (bs l):=fun i hi=>by
  have hi':i<l.length:=by rw [bs_size] at hi;exact hi
  have:=cx.bufGet 0 rfl (b:=b) (i:=i) (v:=.int .u8 (l[i].toNat:Int)) rfl (by rw [List.getElem?_map,List.getElem?_eq_getElem hi'];rfl)
  rw [Nat.zero_add]
  exact this
theorem buf_string [Stable Φ] {p:Option Addr} {cap:Nat} {l:Bs} (h:0<l.length) (cx:Ctx W w (.buf p l.length cap (bB l) 5 1 :: S) Φ):Sem.run Tryz.prog (convert 129 9 (.slice p l.length cap)) w=.ok (.string (bs l)) w:=by
  obtain ⟨b,hb,_⟩:=cx.bufCell 0 rfl (by rw [bB_len];exact h)
  subst hb
  have hc:=Lib.run_convert_whole (P:=Tryz.prog) w 129 5 9 Tryz.underlying129 Tryz.underlying5 Tryz.underlying9 b 0 _ (bytes_of cx) cap
  rw [bs_size] at hc
  exact hc
theorem header_use [Stable Φ] {slot:Nat} {s:Bs} (hs:s.length≤65536) (cx:Ctx W w S Φ) {K:Ending→World→Prop} (hk:∀ w',Ctx W w' S Φ→K (.returned (.string (bs (hdrL slot s.length)))) w'):Calls Tryz.prog F.cell_header #[.int .i64 (slot:Int),.string (bs s)] w K:=by
  refine (Bcell_header_run (slot:Int) (bs s) (J:=fun u w'=>K (.returned u) w') cx fun k0=>exI_mk (fun p n cap nI R' Φ' k=>∃ j:Nat,j+k=4∧n=((hdrL slot s.length).take (j+1)).length∧nI=((s.length / 256 ^ j:Nat):Int)∧R'=.buf p n cap (bB ((hdrL slot s.length).take (j+1))) 5 1 :: S∧Φ'=Φ)
    ⟨⟨_,Φ,4,inferInstance,fun w G cx=>?_,0,rfl,rfl,by rw [bs_size];simp,rfl,rfl⟩,?_⟩).mono fun e w' ⟨v,he,hj⟩=>by rw [he];exact hj
  · rw [wrap_u8J] at cx
    exact cx.toBuf 0 1 1 rfl rfl (by simp [maxLen])
  rintro p n cap nI R1 Φ k st ⟨j,hjk,rfl,rfl,rfl,rfl⟩
  have hl5:(hdrL slot s.length).length=5:=rfl
  have hlen:((hdrL slot s.length).take (j+1)).length=j+1:=by rw [List.length_take,hl5];omega
  refine Br.intro (fun hlt=>?_) (fun hge=>fun w G cx=>?_)
  · have hlt:=of_decide_eq_true hlt
    rw [hlen] at hlt
    obtain ⟨k,rfl⟩:∃ m,k=m+1:=⟨k - 1,by omega⟩
    intro g w G cx
    rw [wrap_u8J] at cx
    obtain ⟨p',cap',w',hr,c2⟩:=push_byte (S:=S++G) (by rw [hlen];omega) cx
    have e:(hdrL slot s.length).take (j+1)++[(s.length / 256 ^ j).toUInt8]=(hdrL slot s.length).take (j+1+1):=by
      have:(hdrL slot s.length)[j+1]? = some (s.length / 256 ^ j).toUInt8:=by
        have hj:j=0∨j=1∨j=2∨j=3:=by omega
        rcases hj with rfl|rfl|rfl|rfl<;>simp [hdrL]
      rw [List.take_add_one (i:=j+1),this];rfl
    have hlen2:((hdrL slot s.length).take (j+1+1)).length=((hdrL slot s.length).take (j+1)).length+1:=by rw [←e,List.length_append];rfl
    rw [e] at c2
    refine ⟨p',_,cap',w',hr,.buf p' (((hdrL slot s.length).take (j+1)).length+1) cap' (bB ((hdrL slot s.length).take (j+1+1))) 5 1 :: S,Φ,inferInstance,c2,_,fun w=>shr8 _ w,_,Φ,k,inferInstance,fun w G cx=>cx,⟨j+1,by omega,hlen2.symm,?_,rfl,rfl⟩,Nat.lt_succ_self _⟩
    rw [Nat.pow_succ,Nat.div_div_eq_div_mul]
  · have hge:=of_decide_eq_false hge
    rw [hlen] at hge
    have hj:j=4:=by omega
    subst hj
    have he:(hdrL slot s.length).take (4+1)=hdrL slot s.length:=rfl
    rw [he] at cx ⊢
    refine ⟨_,w,buf_string (S:=S++G) (by rw [hl5];omega) cx,S,Φ,inferInstance,cx.drop1,fun w G cx=>hk w cx.left⟩
end
end Go.Proofs.YtfccagphnfceiaaGreatDoor
end

section
namespace Go.Proofs.YtfccagphnfceiaaGreatDoor
open Go.Vc
end Go.Proofs.YtfccagphnfceiaaGreatDoor
end

section
namespace Go.Proofs.YtfccagphnfceiaaGreatDoor
open Go.Vc
theorem getI:∀ (l:List UInt8) (i:Nat),l.get?Internal i=l[i]?
  | [],_=>rfl
  | _ :: _,0=>rfl
  | x :: l,i+1=>by
    show l.get?Internal i=(x :: l)[i+1]?
    rw [getI l i];rfl
section
variable {W w:World} {R G S:List Own} {Φ:PW} {b:Nat} {st:RdS}
end
end Go.Proofs.YtfccagphnfceiaaGreatDoor
end

section
namespace Go.Proofs.YtfccagphnfceiaaGreatDoor
open Go.Vc
abbrev OffI:PW:=Tab Tryz.prog "errata/cell.offsets" .i64 [0,64,131072]
theorem off_cell {M:List Nat} {w:World} (h:OffI M w) {n:Nat} (hn:n<3):w.cell? ⟨0,n,none⟩=some (.int .i64 (offS n:Int)):=by
  have:=Lib.TabIs.cell h.1 (g:=0) (by kernel_rfl) n hn
  rw [this]
  have hj:n=0∨n=1∨n=2:=by omega
  rcases hj with rfl|rfl|rfl<;>rfl
abbrev clB (q:DkP) (c:CelS):List Value:=[.pointer (some ⟨q.db,0,none⟩),.int .i64 c.file,.int .i64 (c.slot:Int),.string (bs c.value),.bool c.sure]
abbrev clO (cb:Nat) (q:DkP) (c:CelS):Own:=.blk cb (clB q c) 119
theorem read_len {d:DsS} {q:DkP} (hq:DkQ q d) (f a n:Int):(readS d f a n).1.length≤16777216:=by
  unfold readS
  split
  · exact Nat.zero_le _
  · split
    · exact Nat.zero_le _
    · show (((d.files f).now.drop a.toNat).take n.toNat).length≤_
      have:=(hq.size f).1
      rw [List.length_take,List.length_drop];omega
section
variable {W w:World} {S G:List Own} {Φ:PW}
theorem CGet_use [Stable Φ] {cb:Nat} {q:DkP} {c:CelS} (cx:Ctx W w (clO cb q c :: S) Φ) {K:Ending→World→Prop} (hk:∀ w',Ctx W w' (clO cb q c :: S) Φ→K (.returned (.tuple #[.string (bs c.value),.bool (decide (0<c.slot))])) w'):Calls Tryz.prog F.cell_Cell_Get #[.pointer (some ⟨cb,0,none⟩)] w K:=by
  refine (Bcell_Cell_Get_run cb 0 (J:=fun u w'=>K (.returned u) w') cx fun w G cx=>⟨_,cx.get 0 rfl rfl,_,cx.get 0 rfl rfl,fun w G cx=>?_⟩).mono fun e w' ⟨v,he,hj⟩=>by rw [he];exact hj
  have:decide ((0:Int)<(c.slot:Int))=decide (0<c.slot):=decide_eq_decide.2 (by omega)
  rw [this]
  exact hk w cx.left
theorem COpen_use [Stable Φ] {q:DkP} {d:DsS} (hq:DkQ q d) (hoff:∀ M w,Φ M w→OffI M w) {file:Int} (cx:Ctx W w (dkL q d++S) Φ) {K:Ending→World→Prop}
    (hn:∀ e w',openC d file=(none,e)→Ctx W w' (dkL q d++S) Φ→K (.returned (.tuple #[.pointer none,.int .i64 e])) w')
    (hs:∀ c cb w',openC d file=(some c,0)→Ctx W w' (clO cb q c :: (dkL q d++S)) Φ→K (.returned (.tuple #[.pointer (some ⟨cb,0,none⟩),.int .i64 0])) w') :
    Calls Tryz.prog F.cell_Open #[.pointer (some ⟨q.db,0,none⟩),.int .i64 file] w K:=by
  refine (Bcell_Open_run q.db 0 file (J:=fun u w'=>K (.returned u) w') cx fun cb w G cx=>?_).mono fun e w' ⟨v,he,hj⟩=>by rw [he];exact hj
  have cx:Ctx W w (clO cb q ⟨file,0,[],false⟩ :: (dkL q d++(S++G))) Φ:=by
    have:clO cb q ⟨file,0,[],false⟩ :: (dkL q d++(S++G))=(clO cb q ⟨file,0,[],false⟩ :: (dkL q d++S))++G:=by rw [←List.append_assoc];rfl
    rw [this];exact cx
  refine DRead_use (S:=clO cb q ⟨file,0,[],false⟩ :: (S++G)) hq (cx.perm List.perm_middle.symm) fun w cx=>?_
  have hO:openC d file=openC d file:=rfl
  unfold openC at hn hs
  generalize hr:readS d file 0 5=r at hn hs
  obtain ⟨h,e⟩:=r
  simp only at hn hs
  have cx:Ctx W w ((clO cb q ⟨file,0,[],false⟩ :: (dkL q d++S))++G) Φ:=by
    have:(clO cb q ⟨file,0,[],false⟩ :: (dkL q d++S))++G=clO cb q ⟨file,0,[],false⟩ :: (dkL q d++(S++G)):=by rw [←List.append_assoc];rfl
    rw [this];exact cx.perm List.perm_middle
  have hhl:h.length≤5:=by
    have:h=(readS d file 0 5).1:=by rw [hr]
    rw [this]
    unfold readS
    split
    · exact Nat.zero_le _
    · split
      · exact Nat.zero_le _
      · show (List.take 5 _).length≤5
        rw [List.length_take];omega
  have hget:∀ i,i<h.length→(bs h).data.toList.get?Internal i=some (h.getD i 0):=fun i hi=>by
    rw [bs_list,getI,List.getD_eq_getElem?_getD,List.getElem?_eq_getElem hi];rfl
  refine ⟨_,_,rfl,clO cb q ⟨file,0,[],false⟩ :: (dkL q d++S),Φ,inferInstance,cx,Br.intro (fun he=>fun w G cx=>?_) (fun he=>fun w G cx=>⟨h.getD 0 0,fun h0=>⟨Int.le_refl 0,hget 0 ?_⟩,Br.intro (fun h1=>fun w G cx=>?_) (fun h1=>fun w G cx=>?_)⟩)⟩
  · rw [if_pos (of_decide_eq_true he)] at hn
    exact hn e w rfl cx.drop1.left
  · exact List.length_pos_iff.2 fun e=>by rw [e] at h0;simp [bs_nilJ] at h0
  · have he:=of_decide_eq_false he
    have h1:h=[]∨h.getD 0 0=0:=by
      simp only [Bool.or_eq_true,decide_eq_true_eq,bs_nilJ] at h1
      rcases h1 with h1|h1
      · exact .inl h1
      · exact .inr (UInt8.toNat_inj.1 (by simpa using h1))
    rw [if_neg he,if_pos h1] at hs
    exact hs _ cb w rfl cx.left
  · have he:=of_decide_eq_false he
    have h1:¬ (h=[]∨h.getD 0 0=0):=fun h'=>by
      simp only [Bool.or_eq_false_iff,decide_eq_false_iff_not,bs_nilJ] at h1
      rcases h' with h'|h'
      · exact h1.1 h'
      · exact h1.2 (by rw [h'];rfl)
    have h0:0<h.length:=List.length_pos_iff.2 fun e=>h1 (.inl e)
    have hne:∀ n:UInt8,(h.getD 0 0≠n) ↔ ¬ ((h.getD 0 0).toNat:Int)=(n.toNat:Int):=fun n=>not_congr ⟨fun e=>by rw [e],fun e=>UInt8.toNat_inj.1 (by omega)⟩
    rw [if_neg he,if_neg h1] at hn hs
    refine ⟨h.getD 0 0,fun _=>⟨Int.le_refl 0,hget 0 h0⟩,h.getD 0 0,fun _=>⟨Int.le_refl 0,hget 0 h0⟩,Br.intro (fun h2=>fun w G cx=>?_) (fun h2=>?_)⟩
    · have h2:h.length<5∨h.getD 0 0≠1∧h.getD 0 0≠2:=by
        rw [bs_size] at h2
        simp only [Bool.or_eq_true,Bool.and_eq_true,decide_eq_true_eq] at h2
        rcases h2 with h2|h2
        · exact .inl (by omega)
        · exact .inr ⟨(hne 1).2 h2.1,(hne 2).2 h2.2⟩
      rw [if_pos h2] at hn
      exact hn 2 w rfl cx.drop1.left
    have h2:¬ (h.length<5∨h.getD 0 0≠1∧h.getD 0 0≠2):=fun h'=>by
      rw [bs_size] at h2
      simp only [Bool.or_eq_false_iff,Bool.and_eq_false_iff,decide_eq_false_iff_not] at h2
      rcases h' with h'|h'
      · exact h2.1 (by omega)
      · rcases h2.2 with h3|h3
        · exact h3 ((hne 1).1 h'.1)
        · exact h3 ((hne 2).1 h'.2)
    have hl5:h.length=5:=by omega
    have hslot:(h.getD 0 0).toNat=1∨(h.getD 0 0).toNat=2:=by
      by_cases e1:h.getD 0 0=1
      · left;rw [e1];rfl
      · by_cases e2:h.getD 0 0=2
        · right;rw [e2];rfl
        · exact absurd (.inr ⟨e1,e2⟩) h2
    rw [if_neg h2] at hn hs
    refine exI_mk (fun n28 n29 R' Φ' k=>∃ j:Nat,j+k=4∧n29=(k:Int)∧n28=(partN h j:Int)∧R'=clO cb q ⟨file,0,[],false⟩ :: (dkL q d++S)∧Φ'=Φ) ⟨⟨_,Φ,4,inferInstance,fun w G cx=>cx,0,rfl,rfl,rfl,rfl,rfl⟩,?_⟩
    rintro n28 n29 R1 Φ k st ⟨j,hjk,rfl,rfl,rfl,rfl⟩
    refine Br.intro (fun hlt=>?_) (fun hge=>?_)
    · have hlt:=of_decide_eq_true hlt
      obtain ⟨k,rfl⟩:∃ m,k=m+1:=⟨k - 1,by omega⟩
      have hp:=partN_lt h j
      have hp:partN h j<16777216:=Nat.lt_of_lt_of_le hp (by
        have:(256:Nat) ^ j≤256 ^ 3:=Nat.pow_le_pow_right (by decide) (by omega)
        exact this)
      have hb:=(h.getD (k+1) 0).toNat_lt
      refine ⟨_,fun w=>shl8 _ hp w,h.getD (k+1) 0,⟨by omega,by rw [Int.toNat_natCast];exact hget (k+1) (by omega)⟩,_,fun w=>(by rw [wrap_byteJ];exact or8 _ _ hp (by omega) w),by unfold I64;omega,_,Φ,k,inferInstance,fun w G cx=>cx,⟨j+1,by omega,by omega,?_,rfl,rfl⟩,Nat.lt_succ_self _⟩
      show _=((partN h j*256+(h.getD (4 - j) 0).toNat:Nat):Int)
      rw [show 4 - j=k+1 by omega]
    · have hge:=of_decide_eq_false hge
      have hj:j=4:=by omega
      subst hj
      rw [partN_four]
      refine Br.intro (fun h3=>fun w G cx=>?_) (fun h3=>⟨h.getD 0 0,⟨Int.le_refl 0,hget 0 h0⟩,fun w G cx=>⟨cx.can 0 rfl (by show 2+1≤5;omega),fun w' hw'=>?_⟩⟩)
      · have h3:65536<hdrN h:=by have:=of_decide_eq_true h3;omega
        rw [if_pos h3] at hn
        exact hn 2 w rfl cx.drop1.left
      have h3:¬ 65536<hdrN h:=by have:=of_decide_eq_false h3;omega
      rw [if_neg h3] at hn hs
      rw [wrap_byteJ] at hw'
      have c1:=cx.put 0 hw' rfl
      have hs3:(h.getD 0 0).toNat<3:=by omega
      refine ⟨clO cb q ⟨file,(h.getD 0 0).toNat,[],false⟩ :: (dkL q d++S),Φ,inferInstance,c1,fun w G cx=>⟨((h.getD 0 0).toNat:Int),cx.get 0 rfl rfl,⟨by omega,by omega⟩,fun w G cx=>⟨(offS (h.getD 0 0).toNat:Int),by rw [Int.toNat_natCast,Nat.zero_add];exact off_cell (hoff _ _ cx.phi) hs3,fun w G cx=>?_⟩⟩⟩
      have cx:Ctx W w (clO cb q ⟨file,(h.getD 0 0).toNat,[],false⟩ :: (dkL q d++(S++G))) Φ:=by
        have:clO cb q ⟨file,(h.getD 0 0).toNat,[],false⟩ :: (dkL q d++(S++G))=(clO cb q ⟨file,(h.getD 0 0).toNat,[],false⟩ :: (dkL q d++S))++G:=by rw [←List.append_assoc];rfl
        rw [this];exact cx
      have hlr:=read_len hq file (offS (h.getD 0 0).toNat:Int) (hdrN h:Int)
      refine DRead_use (S:=clO cb q ⟨file,(h.getD 0 0).toNat,[],false⟩ :: (S++G)) hq (cx.perm List.perm_middle.symm) fun w cx=>?_
      generalize readS d file (offS (h.getD 0 0).toNat:Int) (hdrN h:Int)=r2 at hn hs hlr
      obtain ⟨v,e2⟩:=r2
      simp only at hn hs hlr
      have cx:Ctx W w ((clO cb q ⟨file,(h.getD 0 0).toNat,[],false⟩ :: (dkL q d++S))++G) Φ:=by
        have:(clO cb q ⟨file,(h.getD 0 0).toNat,[],false⟩ :: (dkL q d++S))++G=clO cb q ⟨file,(h.getD 0 0).toNat,[],false⟩ :: (dkL q d++(S++G)):=by rw [←List.append_assoc];rfl
        rw [this];exact cx.perm List.perm_middle
      refine ⟨bs v,e2,rfl,_,Φ,inferInstance,cx,fun w G cx=>⟨cx.can 0 rfl (by show 3+1≤5;omega),fun w' hw'=>?_⟩⟩
      have c2:=cx.put 0 hw' rfl
      refine ⟨clO cb q ⟨file,(h.getD 0 0).toNat,v,false⟩ :: (dkL q d++S),Φ,inferInstance,c2,fun w G cx=>⟨bs v,fun _=>cx.get 0 rfl rfl,Br.intro (fun h4=>fun w G cx=>?_) (fun h4=>Br.intro (fun h5=>fun w G cx=>?_) (fun h5=>fun w G cx=>?_))⟩⟩
      · rw [bs_size] at h4
        simp only [Bool.and_eq_true,decide_eq_true_eq] at h4
        rw [if_neg (by omega),if_pos (by omega)] at hn
        exact hn 2 w rfl cx.drop1.left
      · have h5:=of_decide_eq_true h5
        rw [if_pos h5] at hn
        exact hn e2 w rfl cx.drop1.left
      · have h5:=of_decide_eq_false h5
        rw [bs_size] at h4
        simp only [Bool.and_eq_false_iff,decide_eq_false_iff_not] at h4
        rw [if_neg h5,if_neg (by omega)] at hs
        exact hs _ cb w rfl cx.left
end
end Go.Proofs.YtfccagphnfceiaaGreatDoor
end

section
namespace Go.Proofs.YtfccagphnfceiaaGreatDoor
open Go.Vc
section
variable {W w:World} {S G:List Own} {Φ:PW}
theorem own_in [Stable Φ] {o:Own} {X S G:List Own} (cx:Ctx W w ((o :: (X++S))++G) Φ):Ctx W w (X++(o :: (S++G))) Φ:=(re3 cx).perm List.perm_middle.symm
theorem own_out [Stable Φ] {o:Own} {X S G:List Own} (cx:Ctx W w (X++(o :: (S++G))) Φ):Ctx W w ((o :: (X++S))++G) Φ:=re4 (cx.perm List.perm_middle)
theorem setC_sure {d:DsS} {c:CelS} {s:Bs} (h:¬ 65536<s.length) (h2:¬ (c.sure=false∧0<c.slot)):setC d c s=setC2 d c s (if c.slot=1 then 2 else 1):=by
  unfold setC;rw [if_neg h,if_neg h2]
theorem CSet_use [Stable Φ] {cb:Nat} {q:DkP} {d:DsS} {c:CelS} {s:Bs} (hq:DkQ q d) (hkp:DkK Φ q d) (hoff:∀ M w,Φ M w→OffI M w) (cx:Ctx W w (clO cb q c :: (dkL q d++S)) Φ) {K:Ending→World→Prop}
    (hk:∀ u w',DkQ (q.mv u) (setC d c s).1→Ctx W w' (clO cb q (setC d c s).2.1 :: (dkL (q.mv u) (setC d c s).1++S)) Φ→K (.returned (.int .i64 (setC d c s).2.2)) w'):Calls Tryz.prog F.cell_Cell_Set #[.pointer (some ⟨cb,0,none⟩),.string (bs s)] w K:=by
  refine (Bcell_Cell_Set_run cb 0 (bs s) (J:=fun u w'=>K (.returned u) w') cx (Br.intro (fun h=>fun w G cx=>?_) (fun h=>exI_mk (fun R' Φ'=>∃ u d1 c1,R'=clO cb q c1 :: (dkL (q.mv u) d1++S)∧Φ'=Φ∧DkQ (q.mv u) d1∧d1.keep=d.keep∧setC d c s=setC2 d1 c1 s (if c1.slot=1 then 2 else 1)) ⟨fun w G cx=>⟨_,cx.get 0 rfl rfl,_,fun _=>cx.get 0 rfl rfl,Br.intro (fun h2=>?_) (fun h2=>?_)⟩,?_⟩))).mono fun e w' ⟨v,he,hj⟩=>by rw [he];exact hj
  · have h:65536<s.length:=by have:=of_decide_eq_true h;rw [bs_size] at this;omega
    have e:setC d c s=(d,c,6):=by unfold setC;rw [if_pos h]
    rw [e] at hk
    exact hk q.un w hq cx.left
  all_goals have h:¬ 65536<s.length:=by have:=of_decide_eq_false h;rw [bs_size] at this;omega
  · have h2:c.sure=false∧0<c.slot:=by
      simp only [Bool.and_eq_true,decide_eq_true_eq,Bool.not_eq_true'] at h2
      exact ⟨h2.1,by omega⟩
    refine ⟨_,Φ,inferInstance,fun w G cx=>cx,some ⟨q.db,0,none⟩,fun w G cx=>⟨_,cx.get 0 rfl rfl,rfl⟩,c.file,fun w G cx=>⟨_,cx.get 0 rfl rfl,rfl⟩,fun w G cx=>?_⟩
    have ec:setC d c s=if (syncS d c.file).2≠0 then ((syncS d c.file).1,c,(syncS d c.file).2) else setC2 (syncS d c.file).1 { c with sure:=true } s (if c.slot=1 then 2 else 1):=by
      unfold setC;rw [if_neg h,if_pos h2]
    have hkeep:=sync_keep d c.file
    refine Sync_use (S:=clO cb q c :: (S++G)) hq hkp (own_in cx) fun u w hq1 cx=>?_
    rw [ec] at hk ⊢
    generalize syncS d c.file=r at hk hq1 cx hkeep
    obtain ⟨d1,e1⟩:=r
    simp only at hk hq1 cx hkeep
    refine ⟨e1,rfl,clO cb q c :: (dkL (q.mv u) d1++S),Φ,inferInstance,own_out cx,Br.intro (fun h3=>fun w G cx=>?_) (fun h3=>fun w G cx=>⟨cx.can 0 rfl (by show 4+1≤5;omega),fun w' hw'=>?_⟩)⟩
    · rw [if_pos (of_decide_eq_true h3)] at hk
      exact hk u w hq1 cx.left
    · have c1:=cx.put 0 hw' rfl
      refine ⟨clO cb q { c with sure:=true } :: (dkL (q.mv u) d1++S),Φ,inferInstance,c1,_,Φ,inferInstance,fun w G cx=>cx,u,d1,{ c with sure:=true },rfl,rfl,hq1,hkeep,?_⟩
      rw [if_neg (of_decide_eq_false h3)]
  · have h2:¬ (c.sure=false∧0<c.slot):=fun h3=>by
      simp only [Bool.and_eq_false_iff,decide_eq_false_iff_not,Bool.not_eq_false'] at h2
      rcases h2 with h2|h2
      · rw [h3.1] at h2;cases h2
      · omega
    exact ⟨_,Φ,inferInstance,fun w G cx=>cx,q.un,d,c,rfl,rfl,hq,rfl,setC_sure h h2⟩
  rintro R1 Φ st ⟨u,d1,c1,rfl,rfl,hq1,hkeep,hset⟩
  rw [hset] at hk
  refine exI_mk (fun nI R' Φ'=>nI=(((if c1.slot=1 then 2 else 1):Nat):Int)∧R'=clO cb q c1 :: (dkL (q.mv u) d1++S)∧Φ'=Φ) ⟨fun w G cx=>⟨(c1.slot:Int),cx.get 0 rfl rfl,Br.intro (fun h3=>⟨_,Φ,inferInstance,fun w G cx=>cx,by rw [if_pos (by have:=of_decide_eq_true h3;omega)];rfl,rfl,rfl⟩) (fun h3=>⟨_,Φ,inferInstance,fun w G cx=>cx,by rw [if_neg (by have:=of_decide_eq_false h3;omega)];rfl,rfl,rfl⟩)⟩,?_⟩
  rintro nI R1 Φ st ⟨rfl,rfl,rfl⟩
  have hsl:(if c1.slot=1 then 2 else 1)=1∨(if c1.slot=1 then 2 else 1)=2:=by split;exact .inr rfl;exact .inl rfl
  generalize (if c1.slot=1 then 2 else 1)=sl at hk hsl
  have hs3:sl<3:=by omega
  have hkp1:DkK Φ (q.mv u) d1:=hkp.of hkeep u
  unfold setC2 at hk
  have hkw:=write_keep d1 c1.file (offS sl) s
  refine ⟨_,Φ,inferInstance,fun w G cx=>cx,⟨by omega,by omega⟩,(offS sl:Int),fun w G cx=>⟨_,by rw [Int.toNat_natCast,Nat.zero_add];exact off_cell (hoff _ _ cx.phi) hs3,rfl⟩,some ⟨q.db,0,none⟩,fun w G cx=>⟨_,cx.get 0 rfl rfl,rfl⟩,c1.file,fun w G cx=>⟨_,cx.get 0 rfl rfl,rfl⟩,fun w G cx=>?_⟩
  refine Write_use (q:=q.mv u) (S:=clO cb q c1 :: (S++G)) hq1 hkp1 (by omega) (own_in cx) fun u w hq2 cx=>?_
  generalize writeS d1 c1.file (offS sl:Int) s=r at hk hq2 cx hkw
  obtain ⟨d2,e2⟩:=r
  simp only at hk hq2 cx hkw
  refine ⟨e2,rfl,clO cb q c1 :: (dkL (q.mv u) d2++S),Φ,inferInstance,own_out cx,Br.intro (fun h3=>fun w G cx=>?_) (fun h3=>?_)⟩
  · rw [if_pos (of_decide_eq_true h3)] at hk
    exact hk u w hq2 cx.left
  rw [if_neg (of_decide_eq_false h3)] at hk
  have hkp2:DkK Φ (q.mv u) d2:=hkp.of (hkw.trans hkeep) u
  have hks:=sync_keep d2 c1.file
  refine ⟨_,Φ,inferInstance,fun w G cx=>cx,some ⟨q.db,0,none⟩,fun w G cx=>⟨_,cx.get 0 rfl rfl,rfl⟩,c1.file,fun w G cx=>⟨_,cx.get 0 rfl rfl,rfl⟩,fun w G cx=>?_⟩
  refine Sync_use (q:=q.mv u) (S:=clO cb q c1 :: (S++G)) hq2 hkp2 (own_in cx) fun u w hq3 cx=>?_
  generalize syncS d2 c1.file=r at hk hq3 cx hks
  obtain ⟨d3,e3⟩:=r
  simp only at hk hq3 cx hks
  refine ⟨e3,rfl,clO cb q c1 :: (dkL (q.mv u) d3++S),Φ,inferInstance,own_out cx,Br.intro (fun h4=>fun w G cx=>?_) (fun h4=>?_)⟩
  · rw [if_pos (of_decide_eq_true h4)] at hk
    exact hk u w hq3 cx.left
  rw [if_neg (of_decide_eq_false h4)] at hk
  have hkp3:DkK Φ (q.mv u) d3:=hkp.of (hks.trans (hkw.trans hkeep)) u
  have hkw2:=write_keep d3 c1.file 0 (hdrL sl s.length)
  refine ⟨_,Φ,inferInstance,fun w G cx=>cx,some ⟨q.db,0,none⟩,fun w G cx=>⟨_,cx.get 0 rfl rfl,rfl⟩,c1.file,fun w G cx=>⟨_,cx.get 0 rfl rfl,rfl⟩,fun w G cx=>?_⟩
  refine header_use (S:=(clO cb q c1 :: (dkL (q.mv u) d3++S))++G) (by omega) cx fun w cx=>⟨_,rfl,clO cb q c1 :: (dkL (q.mv u) d3++S),Φ,inferInstance,cx,fun w G cx=>cx,fun w G cx=>?_⟩
  refine Write_use (q:=q.mv u) (S:=clO cb q c1 :: (S++G)) hq3 hkp3 (by show 5≤_;omega) (own_in cx) fun u w hq4 cx=>?_
  generalize writeS d3 c1.file 0 (hdrL sl s.length)=r at hk hq4 cx hkw2
  obtain ⟨d4,e4⟩:=r
  simp only at hk hq4 cx hkw2
  refine ⟨e4,rfl,clO cb q c1 :: (dkL (q.mv u) d4++S),Φ,inferInstance,own_out cx,Br.intro (fun h5=>fun w G cx=>?_) (fun h5=>fun w G cx=>⟨cx.can 0 rfl (by show 2+1≤5;omega),fun w' hw'=>?_⟩)⟩
  · rw [if_pos (of_decide_eq_true h5)] at hk
    exact hk u w hq4 cx.left
  rw [if_neg (of_decide_eq_false h5)] at hk
  have hkp4:DkK Φ (q.mv u) d4:=hkp.of (hkw2.trans (hks.trans (hkw.trans hkeep))) u
  refine ⟨clO cb q { c1 with slot:=sl } :: (dkL (q.mv u) d4++S),Φ,inferInstance,cx.put 0 hw' rfl,fun w G cx=>⟨cx.can 0 rfl (by show 3+1≤5;omega),fun w' hw'=>?_⟩⟩
  refine ⟨clO cb q { c1 with slot:=sl,value:=s } :: (dkL (q.mv u) d4++S),Φ,inferInstance,cx.put 0 hw' rfl,fun w G cx=>⟨cx.can 0 rfl (by show 4+1≤5;omega),fun w' hw'=>?_⟩⟩
  refine ⟨clO cb q ⟨c1.file,sl,s,false⟩ :: (dkL (q.mv u) d4++S),Φ,inferInstance,cx.put 0 hw' rfl,?_⟩
  refine ⟨_,Φ,inferInstance,fun w G cx=>cx,some ⟨q.db,0,none⟩,fun w G cx=>⟨_,cx.get 0 rfl rfl,rfl⟩,c1.file,fun w G cx=>⟨_,cx.get 0 rfl rfl,rfl⟩,fun w G cx=>?_⟩
  refine Sync_use (q:=q.mv u) (S:=clO cb q ⟨c1.file,sl,s,false⟩ :: (S++G)) hq4 hkp4 (own_in cx) fun u w hq5 cx=>?_
  generalize syncS d4 c1.file=r at hk hq5 cx
  obtain ⟨d5,e5⟩:=r
  simp only at hk hq5 cx
  refine ⟨e5,rfl,clO cb q ⟨c1.file,sl,s,false⟩ :: (dkL (q.mv u) d5++S),Φ,inferInstance,own_out cx,fun w G cx=>⟨cx.can 0 rfl (by show 4+1≤5;omega),fun w' hw'=>?_⟩⟩
  exact ⟨clO cb q ⟨c1.file,sl,s,decide (e5=0)⟩ :: (dkL (q.mv u) d5++S),Φ,inferInstance,cx.put 0 hw' rfl,fun w G cx=>hk u w hq5 cx.left⟩
end
end Go.Proofs.YtfccagphnfceiaaGreatDoor
end

section
namespace Go.Proofs.YtfccagphnfceiaaGreatDoor
open Go.Vc
structure StF (x:StC):Prop where
  ints:I64 x.last∧I64 x.phase∧I64 x.batch∧I64 x.mark
  check:x.check.size≤1000000000
  next:x.next.size≤1000000000
  line:∀ y∈x.lines,LineW y
  few:x.lines.length≤1000000
theorem StW.f {x:StC} (h:StW x):StF x:=⟨⟨h.last.2,by have:=h.phase;unfold I64;omega,h.ints.1,h.ints.2⟩,by have:=h.check;omega,by have:=h.next;omega,fun y hy=>(h.line y hy).1,by have:=h.few;omega⟩
abbrev stV (x:StC) (p:Option Addr) (c:Nat):Value:=.agg #[.int .i64 x.last,.int .i64 x.phase,.string x.check,.int .i64 x.batch,.int .i64 x.mark,.string x.next,.slice p x.lines.length c]
abbrev stCells (x:StC) (p:Option Addr) (c:Nat):List Value:=[.int .i64 x.last,.int .i64 x.phase,.string x.check,.int .i64 x.batch,.int .i64 x.mark,.string x.next,.slice p x.lines.length c]
theorem linesC_app (a b:List LineD):linesC (a++b)=linesC a++linesC b:=by simp [linesC]
theorem linesC_one (x:LineD):linesC [x]=(lineC x).data.toList:=by simp [linesC]
section
variable {W w:World} {S R G:List Own} {Φ:PW} {p:Option Addr} {cap:Nat}
set_option maxHeartbeats 2000000 in
theorem form_src [Stable Φ] [hT:Has Φ TabI] {x:StC} {cs:List Value} (src:Src [] Φ p x.lines cs) (hc:Rows7 cs x.lines) (h:StF x):GivesIn Φ Tryz.prog F.commit_state_form #[stV x p cap] (.string (bs (formC x))):=by
  refine gives_in (Bcommit_state_form_run x.last x.phase x.check x.batch x.mark x.next p x.lines.length cap) fun W R=>fun _ b=>?_
  have n0:=intB_size h.ints.1
  have n1:=intB_size h.ints.2.1
  have n2:=intB_size h.ints.2.2.1
  have n3:=intB_size h.ints.2.2.2
  have hck:=h.check
  have hnx:=h.next
  have n4:=textB_size (s:=x.check) (by omega)
  have n5:=textB_size (s:=x.next) (by omega)
  have hl:=h.few
  have n6:=natB_size (n:=(x.lines.length:Int)) (by unfold I64;omega)
  refine ⟨.blk b [.pointer none,.slice none 0 0] 165 :: R,Φ,inferInstance,fun w G cx=>cx,fun w G cx=>?_⟩
  refine (Int_in (.inl ⟨hT.go,h.ints.1⟩)).toS cx ⟨fun w G cx=>cx,fun w G cx=>(Int_in (.inl ⟨hT.go,h.ints.2.1⟩)).toS cx ⟨fun w G cx=>cx,by show (intB x.last).size+(intB x.phase).size≤_;omega,fun w G cx=>(Text_in (.inl ⟨hT.go,by unfold I64;omega⟩) (by omega)).toS cx ⟨fun w G cx=>cx,by show (intB x.last++intB x.phase).size+(textB x.check).size≤_;rw [size_app];omega,fun w G cx=>?_⟩⟩⟩
  have e1:(intB x.last++intB x.phase++textB x.check).data.toList=headC x:=by simp [headC,ByteArray.data_append]
  have l1:(headC x).length≤1000000100:=by rw [←e1,list_size,size_app,size_app];omega
  refine WriteString_use (intB x.last++intB x.phase++textB x.check) Bd.nil (Bd.fresh cx) (by rw [size_app,size_app];simp only [List.length_nil];omega) fun R1 w hB cx=>⟨_,_,rfl,R1++R,Φ,inferInstance,by rw [List.append_assoc];exact cx,?_⟩
  clear cx
  rw [List.nil_append,e1] at hB
  refine Br.intro (fun h0=>fun w G cx=>?_) (fun h0=>?_)
  · refine String_use hB (cx.re (List.append_assoc _ _ _)) fun w cx=>⟨_,rfl,R,Φ,inferInstance,cx,fun w G cx=>⟨?_,cx.left⟩⟩
    unfold formC
    rw [if_pos (of_decide_eq_true h0)]
    rfl
  have h0:=of_decide_eq_false h0
  refine ⟨R1++R,Φ,inferInstance,fun w G cx=>cx,fun w G cx=>?_⟩
  refine (Int_in (.inl ⟨hT.go,h.ints.2.2.1⟩)).toS cx ⟨fun w G cx=>cx,fun w G cx=>(Int_in (.inl ⟨hT.go,h.ints.2.2.2⟩)).toS cx ⟨fun w G cx=>cx,by show (intB x.batch).size+(intB x.mark).size≤_;omega,fun w G cx=>(Text_in (.inl ⟨hT.go,by unfold I64;omega⟩) (by omega)).toS cx ⟨fun w G cx=>cx,by show (intB x.batch++intB x.mark).size+(textB x.next).size≤_;rw [size_app];omega,fun w G cx=>(Num_in (.inl ⟨hT.go,by unfold I64;omega⟩)).toS cx ⟨fun w G cx=>cx,by show (intB x.batch++intB x.mark++textB x.next).size+(natB (x.lines.length:Int)).size≤_;rw [size_app,size_app];omega,fun w G cx=>?_⟩⟩⟩⟩
  refine WriteString_use (intB x.batch++intB x.mark++textB x.next++natB (x.lines.length:Int)) hB (cx.re (List.append_assoc _ _ _)) (by rw [size_app,size_app,size_app];omega) fun R2 w hB cx=>⟨_,_,rfl,R2++R,Φ,inferInstance,by rw [List.append_assoc];exact cx,?_⟩
  clear cx
  obtain ⟨pre,hpre⟩:∃ pre,headC x++(intB x.batch++intB x.mark++textB x.next++natB (x.lines.length:Int)).data.toList=pre:=⟨_,rfl⟩
  have hprel:pre.length≤2000000300:=by rw [←hpre,List.length_append,list_size,size_app,size_app,size_app];omega
  have hform:formC x=pre++linesC x.lines:=by
    unfold formC restC
    rw [if_neg h0,←hpre]
    simp [ByteArray.data_append]
  rw [hpre] at hB
  refine exI_mk (fun iI R' Φ' k=>∃ (i:Nat) (B:List Own),iI=i∧i≤x.lines.length∧BdT b (pre++linesC (x.lines.take i)) B∧R'=B++R∧Φ'=Φ∧k=x.lines.length - i) ⟨⟨_,_,_,inferInstance,fun w G cx=>cx,0,R2,rfl,Nat.zero_le _,by rw [List.take_zero,show linesC []=[] from rfl,List.append_nil];exact hB,rfl,rfl,rfl⟩,?_⟩
  clear hB
  rintro iI R3 Φ2 k _ ⟨i,B,rfl,hi',hB,rfl,rfl,rfl⟩
  have hpl:=linesC_len (l:=x.lines.take i) fun y hy=>h.line y (List.mem_of_mem_take hy)
  rw [List.length_take] at hpl
  refine Br.intro (fun hlt=>?_) (fun hge=>fun w G cx=>?_)
  · have hlt:i<x.lines.length:=by have:=of_decide_eq_true hlt;omega
    obtain ⟨bb,oo,hp⟩:=src.ptr (by omega)
    obtain ⟨r,rc,he,k1,k2,k3⟩:=hc i hlt
    obtain ⟨y,hy⟩:∃ y,x.lines[i]=y:=⟨_,rfl⟩
    have hlw:=h.line x.lines[i] (List.getElem_mem _)
    have hrs:=rowB_small hlw.row hlw.val
    have s0:=intB_size hlw.inn.no
    have s1:=intB_size hlw.inn.time
    have s2:=intB_size hlw.inn.n
    have s3:=intB_size hlw.inn.cause
    have s4:=intB_size hlw.inn.why
    have s5:=textB_size (s:=rowB x.lines[i].row) (by omega)
    have hlB:=lineS_size (lineC_w hlw)
    have hstep:linesC (x.lines.take (i+1))=linesC (x.lines.take i)++(lineC x.lines[i]).data.toList:=by rw [List.take_succ_eq_append_getElem hlt,linesC_app,linesC_one]
    refine ⟨by omega,ptrK_intro bb oo hp fun w G cx=>⟨x.lines[i].no,x.lines[i].batch,x.lines[i].time,r,x.lines[i].row.length,rc,x.lines[i].n,x.lines[i].cause,x.lines[i].why,by rw [Int.toNat_natCast];exact src_at (S:=[]) (G:=R++G) src hp ((Ctx.dropF cx).re rfl) he,fun _=>⟨B++R,Φ2,inferInstance,fun w G cx=>cx,fun w G cx=>?_⟩⟩⟩
    refine (Int_in (.inl ⟨hT.go,hlw.inn.no⟩)).toS cx ⟨fun w G cx=>cx,fun w G cx=>(Int_in (.inl ⟨hT.go,hlw.inn.time⟩)).toS cx ⟨fun w G cx=>cx,by show (intB x.lines[i].no).size+(intB x.lines[i].time).size≤_;omega,fun w G cx=>(RowBytes_in r rc x.lines[i].row hT.go (fun M w h=>src_sl src hlt he h) (by have:=hlw.row;omega) (fun v hv=>by have:=(hlw.val v hv).2;omega)).toS cx ⟨fun w G cx=>cx,fun w G cx=>(Text_in (.inl ⟨hT.go,by unfold I64;omega⟩) (by omega)).toS cx ⟨fun w G cx=>cx,by show (intB x.lines[i].no++intB x.lines[i].time).size+(textB (rowB x.lines[i].row)).size≤_;rw [size_app];omega,fun w G cx=>(Int_in (.inl ⟨hT.go,hlw.inn.n⟩)).toS cx ⟨fun w G cx=>cx,by show (intB x.lines[i].no++intB x.lines[i].time++textB (rowB x.lines[i].row)).size+(intB x.lines[i].n).size≤_;rw [size_app,size_app];omega,fun w G cx=>(Int_in (.inl ⟨hT.go,hlw.inn.cause⟩)).toS cx ⟨fun w G cx=>cx,by show (intB x.lines[i].no++intB x.lines[i].time++textB (rowB x.lines[i].row)++intB x.lines[i].n).size+(intB x.lines[i].cause).size≤_;rw [size_app,size_app,size_app];omega,fun w G cx=>(Int_in (.inl ⟨hT.go,hlw.inn.why⟩)).toS cx ⟨fun w G cx=>cx,by show (intB x.lines[i].no++intB x.lines[i].time++textB (rowB x.lines[i].row)++intB x.lines[i].n++intB x.lines[i].cause).size+(intB x.lines[i].why).size≤_;rw [size_app,size_app,size_app,size_app];omega,fun w G cx=>?_⟩⟩⟩⟩⟩⟩⟩
    have hlB:(lineC x.lines[i]).size≤3330:=hlB
    refine WriteString_use (lineC x.lines[i]) hB (cx.re (List.append_assoc _ _ _)) (by rw [List.length_append];omega) fun B2 w hB2 cx=>⟨_,_,rfl,B2++R,Φ2,inferInstance,by rw [List.append_assoc];exact cx,by unfold I64;omega,_,Φ2,x.lines.length - (i+1),inferInstance,fun w G cx=>cx,⟨i+1,B2,by omega,hlt,?_,rfl,rfl,rfl⟩,by omega⟩
    rw [hstep,←List.append_assoc];exact hB2
  · have hge:i=x.lines.length:=by have:=of_decide_eq_false hge;omega
    subst hge
    rw [List.take_length] at hB
    refine String_use hB (cx.re (List.append_assoc _ _ _)) fun w cx=>⟨_,rfl,R,Φ2,inferInstance,cx,fun w G cx=>⟨?_,cx.left⟩⟩
    rw [hform]
    rfl
theorem form_inC [Stable Φ] [hT:Has Φ TabI] {x:StC} (hL:∀ M w,Φ M w→Sl M w p x.lines) (h:StF x):GivesIn Φ Tryz.prog F.commit_state_form #[stV x p cap] (.string (bs (formC x))) :=
  ⟨fun W w S c=>by
    have hth:=(hL _ _ c.phi).there
    obtain ⟨cs,c1⟩:=srcOf c (hL _ _ c.phi)
    exact GivesIn.use (form_src (Φ:=fun M w=>Φ M w∧SrcF p x.lines cs M w) (src_fact (Φ:=fun M w=>Φ M w∧SrcF p x.lines cs M w) hth (fun M w h=>h.2)) (rows7 c1.phi.2.2) h) c1 fun w' c=>⟨rfl,c.fst⟩⟩
end
end Go.Proofs.YtfccagphnfceiaaGreatDoor
end

