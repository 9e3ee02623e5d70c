/-
  For every input erratalaw44.CommitOnce returns true,does not panic,comes to an end,and leaves what came in as it was;the variables that its row lists are as the program's text lays them.
  Conditions: none beyond the given statement's own (CommitOnceCardSaid).
-/
import Derived.Test.YtfccagphnfceiaaGreatDoorCOn10
import Derived.Test.YtfccagphnfceiaaGreatDoorCOn9
import Derived.Test.YtfccagphnfceiaaGreatDoorCards
import Derived.MakeChecks
import Derived.Stop.LaidErr
import Derived.Lib.LaidTab
import Derived.Test.YtfccagphnfceiaaGreatDoorTie
import Derived.SevenTiedAt
import Derived.LaidMore
import Derived.ChangeMaps5
import Derived.Test.YtfccagphnfceiaaGreatDoorRows

set_option linter.unusedVariables false
set_option linter.unusedSimpArgs false
section
namespace Go.Proofs.YtfccagphnfceiaaGreatDoor
open Go.Vc
section
variable {W w:World} {S R G:List Own} {Φ:PW}
theorem clone_lines [Stable Φ] {g:Nat} {q:Option Addr} {c2:Nat} {l:List LineD} (hsl:∀ M w,Φ M w→Sl M w q l) (hl:l.length<100000000) (cx:Ctx W w (.blk g [] 31 :: S) Φ) :
    ∃ p' cap' w' cs,Sem.run Tryz.prog (builtin Builtin.append #[22,22] 22 #[false,false] #[.slice (some ⟨g,0,none⟩) 0 0,.slice q l.length c2]) w=.ok (.value (.slice p' l.length cap')) w'∧Ctx W w' (bufL p' l.length cap' cs :: S) (fun M w=>Φ M w∧Elems M w cs l) :=
  Ctx.cloned (P:=Tryz.prog) (ts:=22) (ty:=22) (kb:=#[false,false]) (bytes:=72) (c2:=c2) cx (by kernel_rfl) line_one hsl hl (by omega)
theorem grow_lines [Stable Φ] {p:Option Addr} {cap:Nat} {cs:List Value} {want l:List LineD} {q:Option Addr} {c2:Nat} (hsl:∀ M w,Φ M w→Sl M w q l) (hl:want.length+l.length<100000000) (cx:Ctx W w (bufL p want.length cap cs :: S) (fun M w=>Φ M w∧Elems M w cs want)) :
    ∃ p' cap' w' cs',Sem.run Tryz.prog (builtin Builtin.append #[22,22] 22 #[false,false] #[.slice p want.length cap,.slice q l.length c2]) w=.ok (.value (.slice p' (want++l).length cap')) w'∧Ctx W w' (bufL p' (want++l).length cap' cs' :: S) (fun M w=>Φ M w∧Elems M w cs' (want++l)):=by
  have st:Stable (fun M w=>Φ M w∧Elems M w cs want):=inferInstance
  by_cases h0:l=[]
  · subst h0
    obtain ⟨i,z,e1,e2,e3,e4,e5,e6⟩:=appB_out (P:=Tryz.prog) (ts:=22) (t:=31) (size:=7) (bytes:=72) (by kernel_rfl)
    refine ⟨p,cap,w,cs,?_,by rw [List.append_nil];exact cx⟩
    rw [List.append_nil]
    exact run_app (cx.append0 0 rfl e1 e2 q c2)
  · obtain ⟨p',cap',w',news,hr,_,c'⟩:=Ctx.appSl (α:=LineD) (P:=Tryz.prog) (ts:=22) (ty:=22) (kb:=#[false,false]) (bytes:=72) (c2:=c2) cx (by kernel_rfl) line_one (fun M w h=>hsl M w h.1) (List.length_pos_iff.2 h0) hl (by omega)
    rw [←List.length_append] at hr c'
    exact ⟨p',cap',w',cs++news,hr,c'.weak fun M w h=>⟨h.1.1,h.1.2.append h.2⟩⟩
theorem SameLn_in [Stable Φ] {p r:Option Addr} {cap cap2:Nat} {a b:List LineD} (hA:∀ M w,Φ M w→Sl M w p a) (hB:∀ M w,Φ M w→Sl M w r b) (hlen:a.length≤1000000) (hrow:∀ x∈a,x.row.length≤1000000) :
    GivesIn Φ Tryz.prog F.errataref43_SameLines #[.slice p a.length cap,.slice r b.length cap2] (.bool (decide (a=b))):=by
  have h1:Has Φ (fun M w=>Sl M w p a):=⟨hA⟩
  have h2:Has Φ (fun M w=>Sl M w r b):=⟨hB⟩
  exact SameLines_in hlen hrow
theorem fits_inv {x x0:StoS} {s:SkD} (h:fitsS x s=some x0):(lastK s=x.last∧s.lines=x.taken∧x0=x)∨(lastK s≠x.last∧x.decided=true∧lastK s=x.batch∧x.last<x.batch∧s.lines=x.taken++x.lines∧x0=tookS x):=by
  unfold fitsS at h
  split at h
  · rename_i h1
    split at h
    · rename_i h2
      exact .inl ⟨h1,h2,(Option.some.inj h).symm⟩
    · cases h
  · rename_i h1
    split at h
    · cases h
    · rename_i h2
      split at h
      · rename_i h3
        refine .inr ⟨h1,?_,?_,?_,h3,(Option.some.inj h).symm⟩
        · cases hd:x.decided with
          | true=>rfl
          | false=>exact absurd (.inl hd) h2
        · exact Decidable.not_not.1 fun h4=>h2 (.inr (.inl h4))
        · exact Int.not_le.1 fun h4=>h2 (.inr (.inr h4))
      · cases h
set_option maxHeartbeats 2000000 in
theorem Fits_use [Stable Φ] {k:KP} {s:SkD} [hS:Has Φ (SkF k s)] (hkq:SkQ k s) (hI:SkI s) {n:Nat} (hs:SkS s n) (hn:n≤300000) {y:StoP} {x x0:StoS} (hF:∀ M w,Φ M w→stoF y x M w) (hfit:fitsS x s=some x0) (cx:Ctx W w (SkO k s++(stoO y x :: S)) Φ) {K:Ending→World→Prop}
    (hK:∀ y' w' Φ',y'.xb=y.xb→Stable Φ'→(∀ M w,Φ' M w→Φ M w∧stoF y' x0 M w)→Ctx W w' (SkO k s++(stoO y' x0 :: S)) Φ'→K (.returned (.bool true)) w') :
    Calls Tryz.prog F.erratalaw44_story_fits #[.pointer (some ⟨y.xb,0,none⟩),snk k] w K:=by
  have hsl:=hs.lines
  have hrow:∀ z∈s.lines,z.row.length≤1000000:=fun z hz=>by have:=right_len (hI.row z hz);omega
  refine (Berratalaw44_story_fits_run y.xb 0 k.sb 0 (J:=fun u w'=>K (.returned u) w') cx ?_).mono fun e w' ⟨v,he,hj⟩=>by rw [he];exact hj
  clear cx
  refine ⟨_,Φ,inferInstance,fun w G cx=>cx,x.last,fun w G cx=>⟨_,cx.get 3 rfl rfl,rfl⟩,fun w G cx=>?_⟩
  refine (Last_q (st:=s) (q:=k) hkq).toI cx ⟨fun w G cx=>cx,?_⟩
  clear cx
  rcases fits_inv hfit with ⟨h1,h2,rfl⟩|⟨h1,h2,h3,h4,h5,rfl⟩
  · refine Br.intro (fun _=>?_) (fun h=>absurd h1 (of_decide_eq_false h))
    refine ⟨_,Φ,inferInstance,fun w G cx=>cx,y.tp,x0.taken.length,y.tc,fun w G cx=>⟨_,_,_,cx.get 3 rfl rfl,rfl⟩,fun w G cx=>?_⟩
    refine (List_sl (st:=s) (q:=k) hkq hI hs (by omega)).tot cx fun p cap g1 g2 hth st=>⟨fun w G cx=>cx.fst,fun w G cx=>?_⟩
    refine (SameLn_in (Φ:=fun M w=>Φ M w∧Sl M w p s.lines) (b:=x0.taken) (fun M w h=>h.2) (fun M w h=>(hF M w h.1).1) (by omega) hrow).toB cx fun w G cx=>?_
    rw [decide_eq_true h2]
    exact hK y w _ rfl st (fun M w h=>⟨h.1,hF M w h.1⟩) cx.left
  · refine Br.intro (fun h=>absurd (of_decide_eq_true h) h1) (fun _=>?_)
    refine ⟨_,Φ,inferInstance,fun w G cx=>cx,x.decided,fun w G cx=>⟨_,cx.get 3 rfl rfl,rfl⟩,Br.intro (fun h=>by rw [h2] at h;cases h) (fun _=>?_)⟩
    refine ⟨x.batch,fun w G cx=>⟨_,cx.get 3 rfl rfl,rfl⟩,fun w G cx=>?_⟩
    refine (Last_q (st:=s) (q:=k) hkq).toI cx ⟨fun w G cx=>cx,Br.intro (fun h=>absurd h3 (of_decide_eq_true h)) (fun _=>fun w G cx=>⟨x.batch,cx.get 3 rfl rfl,fun w G cx=>⟨x.last,cx.get 3 rfl rfl,Br.intro (fun h=>absurd (of_decide_eq_true h) (by omega)) (fun _=>?_)⟩⟩)⟩
    clear cx
    have htl:x.taken.length+x.lines.length≤300000:=by rw [←List.length_append,←h5];omega
    refine ⟨_,Φ,inferInstance,fun w G cx=>cx,y.tp,x.taken.length,y.tc,fun w G cx=>⟨_,_,_,cx.get 3 rfl rfl,rfl⟩,y.lp,x.lines.length,y.lc,fun w G cx=>⟨_,_,_,cx.get 3 rfl rfl,rfl⟩,fun g=>⟨fun w G cx=>cx.drop1,fun w G cx=>?_⟩⟩
    obtain ⟨p1,c1,w1,cs1,hr1,cx1⟩:=clone_lines (c2:=y.tc) (S:=(SkO k s++(stoO y x :: S))++G) (fun M w h=>(hF M w h).1) (by omega) cx
    have st1:Stable (fun M w=>Φ M w∧Elems M w cs1 x.taken):=inferInstance
    refine ⟨p1,_,c1,w1,hr1,bufL p1 x.taken.length c1 cs1 :: (SkO k s++(stoO y x :: S)),_,st1,cx1,fun w G cx=>cx.drop1.fst,fun w G cx=>?_⟩
    obtain ⟨p2,c2,w2,cs2,hr2,cx2⟩:=grow_lines (c2:=y.lc) (S:=(SkO k s++(stoO y x :: S))++G) (fun M w h=>(hF M w h).2) (by omega) cx
    obtain ⟨cx3,hs3,_,g1,g2⟩:=Ctx.freeze (α:=LineD) cx2 cx2.phi.2
    have cx4:=(cx3.add (Ψ:=fun M w=>Sl M w p2 (x.taken++x.lines)) hs3).weak (Ψ:=fun M w=>Φ M w∧Sl M w p2 (x.taken++x.lines)) fun M w h=>⟨h.1.1,h.2⟩
    have st2:Stable (fun M w=>Φ M w∧Sl M w p2 (x.taken++x.lines)):=inferInstance
    refine ⟨p2,_,c2,w2,hr2,SkO k s++(stoO y x :: S),_,st2,cx4,fun w G cx=>cx.fst,fun w G cx=>⟨cx.can 3 rfl (by simp),fun w' hw'=>⟨SkO k s++(stoO { y with tp:=p2,tc:=c2 } { x with taken:=x.taken++x.lines } :: S),_,st2,cx.put 3 hw' rfl,fun w G cx=>⟨x.batch,cx.get 3 rfl rfl,fun w G cx=>⟨cx.can 3 rfl (by simp),fun w' hw'=>⟨SkO k s++(stoO { y with tp:=p2,tc:=c2 } { x with taken:=x.taken++x.lines,last:=x.batch } :: S),_,st2,cx.put 3 hw' rfl,fun w G cx=>⟨x.next,cx.get 3 rfl rfl,fun w G cx=>⟨cx.can 3 rfl (by simp),fun w' hw'=>⟨SkO k s++(stoO { y with tp:=p2,tc:=c2 } (tookS x) :: S),_,st2,cx.put 3 hw' rfl,?_⟩⟩⟩⟩⟩⟩⟩⟩⟩
    refine ⟨_,_,st2,fun w G cx=>cx,p2,(x.taken++x.lines).length,c2,fun w G cx=>⟨_,_,_,cx.get 3 rfl rfl,rfl⟩,fun w G cx=>?_⟩
    have hS2:Has (fun M w=>Φ M w∧Sl M w p2 (x.taken++x.lines)) (SkF k s):=⟨fun M w h=>hS.go M w h.1⟩
    refine (List_sl (st:=s) (q:=k) hkq hI hs (by omega)).tot cx fun p cap g3 g4 hth st=>⟨fun w G cx=>cx.fst,fun w G cx=>?_⟩
    refine (SameLn_in (Φ:=fun M w=>(Φ M w∧Sl M w p2 (x.taken++x.lines))∧Sl M w p s.lines) (b:=x.taken++x.lines) (fun M w h=>h.2) (fun M w h=>h.1.2) (by omega) hrow).toB cx fun w G cx=>?_
    rw [decide_eq_true h5]
    exact hK { y with tp:=p2,tc:=c2 } w _ rfl st (fun M w h=>⟨h.1.1,h.1.2,(hF M w h.1.1).2⟩) cx.left
end
end Go.Proofs.YtfccagphnfceiaaGreatDoor
end

section
namespace Go.Proofs.YtfccagphnfceiaaGreatDoor
open Go.Vc
theorem setC_keepC (d:DsS) (c:CelS) (s:Bs):(setC d c s).1.keep=d.keep:=by
  have h2:∀ (d:DsS) (c:CelS) (sl:Nat),(setC2 d c s sl).1.keep=d.keep:=fun d c sl=>by
    unfold setC2
    split
    · exact write_keep _ _ _ _
    split
    · exact (sync_keep _ _).trans (write_keep _ _ _ _)
    split
    · exact (write_keep _ _ _ _).trans ((sync_keep _ _).trans (write_keep _ _ _ _))
    · exact (sync_keep _ _).trans ((write_keep _ _ _ _).trans ((sync_keep _ _).trans (write_keep _ _ _ _)))
  unfold setC
  split
  · rfl
  split
  · split
    · exact sync_keep _ _
    · exact (h2 _ _ _).trans (sync_keep _ _)
  · exact h2 _ _ _
theorem noteC_keep (d:DsS) (c:CoS) (x:StC):(noteC d c x).1.keep=d.keep:=by
  unfold noteC
  simp only
  split
  · exact setC_keepC _ _ _
  · exact setC_keepC _ _ _
theorem stepK_keep (d:DsS) (c:CoS) (ph:Int) (r:StC × Int):(stepK d c ph r).1.keep=d.keep:=by
  unfold stepK
  split
  · rfl
  split
  · rfl
  split
  · rfl
  · exact noteC_keep _ _ _
theorem finishC_keep (d:DsS) (c:CoS) (s:SkD):(finishC d c s).1.keep=d.keep:=by
  unfold finishC
  split
  · rfl
  split
  · rfl
  · exact stepK_keep _ _ _ _
theorem abortC_keep (d:DsS) (c:CoS) (s:SkD):(abortC d c s).1.keep=d.keep:=by
  unfold abortC
  split
  · rfl
  split
  · rfl
  · exact stepK_keep _ _ _ _
theorem recoverC_keep (d:DsS) (c:CoS) (s:SkD):(recoverC d c s).1.keep=d.keep:=by
  unfold recoverC
  split
  · rfl
  split
  · exact abortC_keep _ _ _
  split
  · exact finishC_keep _ _ _
  · rfl
theorem opX_keep (d:DsS) (c:CoS) (s:SkD) (o:OpC) (kind:Int):(opX d c s o kind).1.keep=d.keep:=by
  unfold opX
  split
  · exact stepK_keep _ _ _ _
  split
  · rfl
  split
  · exact stepK_keep _ _ _ _
  split
  · exact finishC_keep _ _ _
  split
  · exact abortC_keep _ _ _
  split
  · exact recoverC_keep _ _ _
  · rfl
structure CoH (Φ:PW) (k:KP) (s:SkD) (p:CoP) (q:DkP) (d:DsS) (c:CoS) (n:Nat):Prop where
  E:CE Φ
  hS:∀ M w,Φ M w→SkF k s M w
  hC:∀ M w,Φ M w→CoF p c M w
  hq:DkQ q d
  hk:DkK Φ q d
  hw:StW c.now
  hkq:SkQ k s
  hI:SkI s
  hs:SkS s n
theorem CoH.next {Φ Φ':PW} {k k':KP} {s s':SkD} {p p':CoP} {q:DkP} {d d':DsS} {c c':CoS} {n n':Nat} {u:DkU} (h:CoH Φ k s p q d c n) (hΦ:∀ M w,Φ' M w→Φ M w∧(SkF k' s' M w∧CoF p' c' M w)) (hq:DkQ (q.mv u) d') (hkq:SkQ k' s') (hkp:d'.keep=d.keep) (hw:StW c'.now) (hI:SkI s') (hs:SkS s' n'):CoH Φ' k' s' p' (q.mv u) d' c' n' :=
  ⟨h.E.weak fun M w x=>(hΦ M w x).1,fun M w x=>(hΦ M w x).2.1,fun M w x=>(hΦ M w x).2.2,hq,(h.hk.weak fun M w x=>(hΦ M w x).1).of hkp u,hw,hkq,hI,hs⟩
theorem SinkK.go {W:World} {Φ:PW} {k:KP} {p:CoP} {q:DkP} {S G:List Own} {d':DsS} {c':CoS} {s':SkD} {er:Int} {X:Int→List Own→PW→Prop}
    (h:∀ u p' k' Φ',p'.cb=p.cb∧p'.kb=p.kb→k'.sb=k.sb→DkQ (q.mv u) d'→SkQ k' s'→Stable Φ'→(∀ M w,Φ' M w→Φ M w∧(SkF k' s' M w∧CoF p' c' M w))→X er (CoO p' q c'++(dkL (q.mv u) d'++(SkO k' s'++S))) Φ') :
    SinkK W Φ k p q (S++G) (fun e w'=>∃ n,e=.returned (.int .i64 n)∧∃ R Φ',Stable Φ'∧Ctx W w' (R++G) Φ'∧X n R Φ') (d',c',s',er) :=
  fun u p' k' w' Φ' h1 h2 h3 h4 h5 h6 cx=>⟨_,rfl,_,Φ',h5,cx.re (by simp),h u p' k' Φ' h1 h2 h3 h4 h5 h6⟩
theorem lay1 {A B X S G:List Own}:(A++(B++(X++S)))++G=A++(B++(X++(S++G))):=by simp
section
variable {W w:World} {S R G:List Own} {Φ:PW} {k:KP} {s:SkD} {p:CoP} {q:DkP} {d:DsS} {c:CoS} {n:Nat}
variable {cb sb:Nat} {r:DsS × CoS × SkD × Int}
theorem BeginS_use [Stable Φ] (H:CoH Φ k s p q d c n) (hcb:p.cb=cb) {batch mark:Int} {lp:Option Addr} {lc:Nat} {lines:List LineD} {next:ByteArray} (hL:∀ M w,Φ M w→Sl M w lp lines) (hlen:lines.length≤1000000) (hb:I64 batch) (hm:I64 mark) (hnx:next.size≤1000000000) {ln:Nat} (hln:lines.length=ln)
    (hr:((beginC d c batch mark lines next).1,(beginC d c batch mark lines next).2.1,s,(beginC d c batch mark lines next).2.2)=r)
    (cx:Ctx W w (CoO p q c++(dkL q d++(SkO k s++S))) Φ) {K:Ending→World→Prop} (hK:SinkK W Φ k p q S K r) :
    Calls Tryz.prog F.commit_Coordinator_Begin #[.pointer (some ⟨cb,0,none⟩),.int .i64 batch,.int .i64 mark,.slice lp ln lc,.string next] w K:=by
  subst hln hcb hr
  exact Begin_use (p:=p) (q:=q) (c:=c) (d:=d) H.E H.hC H.hq H.hk H.hw hL hlen hb hm hnx cx fun u p' w hp hq2 cx=>hK u p' k w _ hp rfl hq2 H.hkq inferInstance (fun M w h=>⟨h.1,H.hS M w h.1,h.2⟩) cx
theorem PrepS_use [Stable Φ] (H:CoH Φ k s p q d c n) (hcb:p.cb=cb) (hsb:k.sb=sb) (hn:n≤300000) (hr:(d,(prepareC c s).1,(prepareC c s).2.1,(prepareC c s).2.2)=r) (cx:Ctx W w (CoO p q c++(dkL q d++(SkO k s++S))) Φ) {K:Ending→World→Prop} (hK:SinkK W Φ k p q S K r) :
    Calls Tryz.prog F.commit_Coordinator_Prepare #[.pointer (some ⟨cb,0,none⟩),.pointer (some ⟨sb,0,none⟩)] w K:=by
  subst hcb hsb hr
  have hS:Has Φ (SkF k s):=⟨H.hS⟩
  have hC:Has Φ (CoF p c):=⟨H.hC⟩
  have cx2:Ctx W w ((SkO k s++(CoO p q c++(dkL q d++S)))++[]) Φ:=sk_in (cx.re (by simp))
  refine Prep_use (p:=p) (q:=q) (c:=c) (k:=k) (s:=s) (S:=dkL q d++S) H.hkq H.hI H.hs (by omega) (by have:=H.hw.few;omega) (cx2.re (by simp)) fun k' w Φ' hsb hkq' st hΦ' cx=>?_
  have hlines : (prepareC c s).1.now = c.now := by unfold prepareC; split; · rfl
                                                   split;· rfl
                                                   rfl
  exact hK q.un p k' w Φ' ⟨rfl,rfl⟩ hsb H.hq hkq' st (fun M w h=>⟨(hΦ' M w h).1,(hΦ' M w h).2,by show Sl M w p.lp (prepareC c s).1.now.lines;rw [hlines];exact H.hC M w (hΦ' M w h).1⟩) (Ctx.re (sk_out (A:=CoO p q (prepareC c s).1) (B:=dkL q d) (X:=SkO k' (prepareC c s).2.1) (S:=S) (G:=[]) (cx.re (by simp))) (by simp;rfl))
theorem DecideS_use [Stable Φ] (H:CoH Φ k s p q d c n) (hcb:p.cb=cb) (hr:((decideC d c).1,(decideC d c).2.1,s,(decideC d c).2.2)=r) (cx:Ctx W w (CoO p q c++(dkL q d++(SkO k s++S))) Φ) {K:Ending→World→Prop} (hK:SinkK W Φ k p q S K r) :
    Calls Tryz.prog F.commit_Coordinator_Decide #[.pointer (some ⟨cb,0,none⟩)] w K:=by
  subst hcb hr
  exact Decide_use (p:=p) (q:=q) (c:=c) (d:=d) H.E H.hC H.hq H.hk H.hw cx fun u p' w hp hq2 cx=>hK u p' k w _ hp rfl hq2 H.hkq inferInstance (fun M w h=>⟨h.1,H.hS M w h.1,h.2⟩) cx
theorem RecoverS_use [Stable Φ] (H:CoH Φ k s p q d c n) (hcb:p.cb=cb) (hsb:k.sb=sb) (hn:n≤300000) (hr:recoverC d c s=r) (cx:Ctx W w (CoO p q c++(dkL q d++(SkO k s++S))) Φ) {K:Ending→World→Prop} (hK:SinkK W Φ k p q S K r) :
    Calls Tryz.prog F.commit_Coordinator_Recover #[.pointer (some ⟨cb,0,none⟩),.pointer (some ⟨sb,0,none⟩)] w K:=by
  subst hcb hsb hr
  have hS:Has Φ (SkF k s):=⟨H.hS⟩
  have hC:Has Φ (CoF p c):=⟨H.hC⟩
  exact Recover_use (p:=p) (q:=q) (c:=c) (d:=d) (k:=k) (s:=s) H.E H.hq H.hk H.hw H.hkq H.hI H.hs hn cx hK
theorem DoesS_use [Stable Φ] (H:CoH Φ k s p q d c n) (hcb:p.cb=cb) (hsb:k.sb=sb) (hn:n≤300000) {o:OpC} {lp kp:Option Addr} {lc kc:Nat} (hL:∀ M w,Φ M w→Sl M w lp o.L) (h6:o.L.length≤6) (hrow:∀ x∈o.L,x.row.length≤1000000) (hb:I64 o.b) (hm:I64 o.n) (hnx:o.next.size≤50) {kind:Int} (hr:opX d c s o kind=r)
    (cx:Ctx W w (CoO p q c++(dkL q d++(SkO k s++S))) Φ) {K:Ending→World→Prop} (hK:SinkK W Φ k p q S K r) :
    Calls Tryz.prog F.erratalaw44_does #[.pointer (some ⟨cb,0,none⟩),.pointer (some ⟨sb,0,none⟩),o.v lp lc kp kc,.int .i64 kind] w K:=by
  subst hcb hsb hr
  have hS:Has Φ (SkF k s):=⟨H.hS⟩
  have hC:Has Φ (CoF p c):=⟨H.hC⟩
  exact Does_use (p:=p) (q:=q) (c:=c) (d:=d) (k:=k) (s:=s) H.E H.hq H.hk H.hw H.hkq H.hI H.hs hn hL h6 hrow hb hm hnx cx hK
theorem PhaseS_use [Stable Φ] (hcb:p.cb=cb) (cx:Ctx W w ((CoO p q c++S)++G) Φ) {X:Int→List Own→PW→Prop} (hX:X c.now.phase (CoO p q c++S) Φ) :
    Calls Tryz.prog F.commit_Coordinator_Phase #[.pointer (some ⟨cb,0,none⟩)] w fun e w'=>∃ n,e=.returned (.int .i64 n)∧∃ R' Φ',Stable Φ'∧Ctx W w' (R'++G) Φ'∧X n R' Φ':=by
  subst hcb
  exact (Phase_q (p:=p) (q:=q) (c:=c)).toI cx hX
theorem LastS_use [Stable Φ] (hcb:p.cb=cb) (cx:Ctx W w ((CoO p q c++S)++G) Φ) {X:Int→List Own→PW→Prop} (hX:X c.now.last (CoO p q c++S) Φ) :
    Calls Tryz.prog F.commit_Coordinator_Last #[.pointer (some ⟨cb,0,none⟩)] w fun e w'=>∃ n,e=.returned (.int .i64 n)∧∃ R' Φ',Stable Φ'∧Ctx W w' (R'++G) Φ'∧X n R' Φ':=by
  subst hcb
  exact (LastC_q (p:=p) (q:=q) (c:=c)).toI cx hX
theorem CheckS_use [Stable Φ] (hcb:p.cb=cb) (cx:Ctx W w ((CoO p q c++S)++G) Φ) {X:ByteArray→List Own→PW→Prop} (hX:X (checkC c) (CoO p q c++S) Φ) :
    Calls Tryz.prog F.commit_Coordinator_Check #[.pointer (some ⟨cb,0,none⟩)] w fun e w'=>∃ n,e=.returned (.string n)∧∃ R' Φ',Stable Φ'∧Ctx W w' (R'++G) Φ'∧X n R' Φ':=by
  subst hcb
  exact (Check_q (p:=p) (q:=q) (c:=c)).toS cx hX
theorem SkLastS_use [Stable Φ] (hsb:k.sb=sb) (hkq:SkQ k s) {A B:List Own} (cx:Ctx W w ((A++(B++(SkO k s++S)))++G) Φ) {X:Int→List Own→PW→Prop} (hX:X (lastK s) (A++(B++(SkO k s++S))) Φ) :
    Calls Tryz.prog F.sink_Sink_Last #[.pointer (some ⟨sb,0,none⟩)] w fun e w'=>∃ n,e=.returned (.int .i64 n)∧∃ R' Φ',Stable Φ'∧Ctx W w' (R'++G) Φ'∧X n R' Φ':=by
  subst hsb
  exact ((Last_q (st:=s) (q:=k) hkq).toI (sk_in cx) (K:=fun n R Φ=>n=lastK s∧R=SkO k s++(A++(B++S))∧Φ=_) ⟨rfl,rfl,rfl⟩).mono fun e w' ⟨m,he,R',Φ',st,cx,h1,h2,h3⟩=>⟨m,he,A++(B++(SkO k s++S)),Φ,inferInstance,by rw [h2,h3] at cx;exact sk_out cx,by rw [h1];exact hX⟩
theorem SkLinesS_use [Stable Φ] (hsb:k.sb=sb) {A B:List Own} (cx:Ctx W w ((A++(B++(SkO k s++S)))++G) Φ) {X:Int→List Own→PW→Prop} (hX:X (s.lines.length:Int) (A++(B++(SkO k s++S))) Φ) :
    Calls Tryz.prog F.sink_Sink_Lines #[.pointer (some ⟨sb,0,none⟩)] w fun e w'=>∃ n,e=.returned (.int .i64 n)∧∃ R' Φ',Stable Φ'∧Ctx W w' (R'++G) Φ'∧X n R' Φ':=by
  subst hsb
  exact ((LinesN_q (st:=s) (q:=k)).toI (sk_in cx) (K:=fun n R Φ=>n=(s.lines.length:Int)∧R=SkO k s++(A++(B++S))∧Φ=_) ⟨rfl,rfl,rfl⟩).mono fun e w' ⟨m,he,R',Φ',st,cx,h1,h2,h3⟩=>⟨m,he,A++(B++(SkO k s++S)),Φ,inferInstance,by rw [h2,h3] at cx;exact sk_out cx,by rw [h1];exact hX⟩
structure FinC (d:DsS) (c:CoS) (x:StC):Prop where
  h:DsH d
  w:DsW d
  live:CLive d c
  now:c.now=x
  stop:c.stop=false
theorem FinC.wf {x:StC} (h:FinC d c x):StW x:=by rw [←h.now];exact h.live.w
theorem FinC.fut {x:StC} (h:FinC d c x):CFut d fun y=>y=x:=h.live.fut h.now
theorem note_fine {x y:StC} (h:FinC d c y) (hx:StW x):∃ d' c',noteC d c x=(d',c',0)∧FinC d' c' x∧c'.prep=false∧d'.keep=d.keep:=by
  have hn:=noteC_out h.w h.live hx
  have h0:=(hn.fine h.h).2
  refine ⟨(noteC d c x).1,(noteC d c x).2.1,by rw [←h0],?_⟩
  rcases hn.or with ⟨_,g2,g3,g4,g5⟩|⟨g1,_⟩
  · exact ⟨⟨(hn.fine h.h).1,hn.w,g5,g2,g4⟩,g3,noteC_keep d c x⟩
  · rw [h0] at g1;omega
theorem begin_fine {y:StC} (h:FinC d c y) (hp:y.phase=0) {batch mark:Int} {lines:List LineD} {next:ByteArray} (hb:y.last<batch) (hbad:lines.any (badC batch)=false) (hx:StW ⟨y.last,1,y.check,batch,mark,next,lines⟩) :
    ∃ d' c',beginC d c batch mark lines next=(d',c',0)∧FinC d' c' ⟨y.last,1,y.check,batch,mark,next,lines⟩∧c'.prep=false∧d'.keep=d.keep:=by
  obtain ⟨d',c',e,hf⟩:=note_fine h hx
  refine ⟨d',c',?_,hf⟩
  have hb0:beginR c batch mark lines next=(⟨y.last,1,y.check,batch,mark,next,lines⟩,0):=by
    unfold beginR
    rw [h.now,if_neg (by omega),if_neg (by rw [hbad];simp)]
  unfold beginC
  rw [hb0,stepK_out h.stop (by rw [h.now];exact hp) rfl]
  exact e
theorem decide_fine {y:StC} (h:FinC d c y) (hp:y.phase=1) (hpr:c.prep=true):∃ d' c',decideC d c=(d',c',0)∧FinC d' c' { y with phase:=2 }∧c'.prep=false∧d'.keep=d.keep:=by
  have hw:=h.wf
  obtain ⟨d',c',e,hf⟩:=note_fine (x:={ y with phase:=2 }) h ⟨hw.last,.inr (.inr rfl),hw.check,(fun h=>by cases h),fun _=>hw.batch (by rw [hp];decide),hw.ints,hw.next,hw.line,hw.few⟩
  refine ⟨d',c',?_,hf⟩
  have hb0:decideR c=({ y with phase:=2 },0):=by
    unfold decideR
    rw [h.now,if_neg (by rw [hpr];simp)]
  unfold decideC
  rw [hb0,stepK_out h.stop (by rw [h.now];exact hp) rfl]
  exact e
theorem finish_fine {y:StC} (h:FinC d c y) (hp:y.phase=2) {s':SkD} (he:endR c s=(0,s')):∃ d' c',finishC d c s=(d',c',s',0)∧FinC d' c' (stI y.batch y.next)∧c'.prep=false∧d'.keep=d.keep:=by
  have hw:=h.wf
  obtain ⟨d',c',e,hf⟩:=note_fine (x:=stI y.batch y.next) h (stI_w (by have:=hw.last.1;have:=hw.batch (by rw [hp];decide);omega) hw.ints.1 hw.next)
  refine ⟨d',c',?_,hf⟩
  unfold finishC
  rw [if_neg (by rw [h.stop];simp),if_neg (by rw [h.now];simp [hp])]
  simp only
  rw [he,stepK_out h.stop (by rw [h.now];exact hp) rfl,h.now,e]
theorem abort_fine {y:StC} (h:FinC d c y) (hp:y.phase=1):∃ d' c',abortC d c s=(d',c',dropR c s,0)∧FinC d' c' (stI y.last y.check)∧c'.prep=false∧d'.keep=d.keep:=by
  have hw:=h.wf
  obtain ⟨d',c',e,hf⟩:=note_fine (x:=stI y.last y.check) h (stI_w hw.last.1 hw.last.2 hw.check)
  refine ⟨d',c',?_,hf⟩
  unfold abortC
  rw [if_neg (by rw [h.stop];simp),if_neg (by rw [h.now];simp [hp])]
  simp only
  rw [stepK_out h.stop (by rw [h.now];exact hp) rfl,h.now,e]
end
end Go.Proofs.YtfccagphnfceiaaGreatDoor
end

section
namespace Go.Proofs.YtfccagphnfceiaaGreatDoor
open Go.Vc
theorem crash_fine {d:DsS} (h:DsH d) (keep:List Int):DsH (startS (crashS d keep)):=by
  unfold crashS
  rw [if_neg (by rw [h.1];simp)]
  exact ⟨rfl,rfl,h.2.2⟩
abbrev c1B:ByteArray:=ByteArray.mk #[OfNat.ofNat 99,OfNat.ofNat 49]
abbrev c2B:ByteArray:=ByteArray.mk #[OfNat.ofNat 99,OfNat.ofNat 50]
theorem lineX_w {no b:Int} (h:I64 no∧I64 b):LineW (lineX no b):=⟨⟨h.1,h.2,by show I64 5;unfold I64;decide,by show I64 1;unfold I64;decide,by show I64 0;unfold I64;decide,by show I64 0;unfold I64;decide⟩,fun v hv=>by
  rw [List.mem_singleton.1 hv]
  exact ⟨⟨by show I64 0;unfold I64;decide,by show I64 7;unfold I64;decide⟩,by show (ByteArray.mk #[]).size≤200;decide⟩,by show 1≤12;decide⟩
theorem lineX_right (no b:Int):rightR (lineX no b).row=true:=by show rightR [⟨0,7,ByteArray.mk #[]⟩]=true;decide +kernel
abbrev xS1:StC:=⟨0,1,.empty,1,9,c1B,[lineX 1 1]⟩
abbrev xS5:StC:=⟨1,1,c1B,2,9,c2B,[lineX 2 2]⟩
theorem xS1_w:StW xS1:=⟨⟨by decide,by unfold I64;decide⟩,.inr (.inl rfl),by decide,(fun h=>by cases h),fun _=>by decide,⟨by unfold I64;decide,by unfold I64;decide⟩,by decide,fun y hy=>by
  rw [List.mem_singleton.1 hy]
  exact ⟨lineX_w ⟨by unfold I64;decide,by unfold I64;decide⟩,rfl,lineX_right 1 1⟩,by decide⟩
theorem xS5_w:StW xS5:=⟨⟨by decide,by unfold I64;decide⟩,.inr (.inl rfl),by decide,(fun h=>by cases h),fun _=>by decide,⟨by unfold I64;decide,by unfold I64;decide⟩,by decide,fun y hy=>by
  rw [List.mem_singleton.1 hy]
  exact ⟨lineX_w ⟨by unfold I64;decide,by unfold I64;decide⟩,rfl,lineX_right 2 2⟩,by decide⟩
abbrev sC0:SkD:=newK 2 []
abbrev sC1:SkD:=takeK sC0 1 [lineX 1 1]
theorem sC_look:lookK sC0 1 [lineX 1 1]=0:=by decide +kernel
theorem sC_deliv:delivK sC0 1 [lineX 1 1]=(0,sC1):=by
  unfold delivK
  rw [if_neg (by decide),if_neg (by decide),if_neg (by rw [sC_look];decide)]
theorem sC1_i:SkI sC1:=take_i (new_i 2 []) (by decide) (by decide) (by unfold I64;decide) fun x hx=>by rw [List.mem_singleton.1 hx];exact lineX_right 1 1
theorem sC0_s:SkS sC0 18:=⟨Nat.zero_le _,Nat.zero_le _,Nat.zero_le _,Nat.zero_le _⟩
theorem sC1_s:SkS sC1 36:=take_s18 sC0_s (by decide)
theorem bad_lineX (no b:Int):([lineX no b].any (badC b))=false:=by
  rw [List.any_cons,List.any_nil,Bool.or_false]
  unfold badC
  rw [lineX_right,decide_eq_false (by simp)]
  rfl
section
variable {W w:World} {S R G:List Own} {Φ:PW} {k:KP} {s:SkD} {p:CoP} {q:DkP} {d:DsS} {c:CoS} {n:Nat}
theorem AgainS_use [Stable Φ] (H:CoH Φ k s p q d c n) {x:StC} (hf:FinC d c x) {db:Nat} (hdb:q.db=db) {kp:Option Addr} {kc:Nat} {keep:List Int} (hkl:keep.length≤1000000) (hsl:∀ M w,Φ M w→Sl M w kp keep) {kn:Nat} (hkn:keep.length=kn)
    (cx:Ctx W w ((CoO p q c++(dkL q d++(SkO k s++S)))++G) Φ) {X:Option Addr→Int→List Own→PW→Prop}
    (hX:∀ u p' d' c',FinC d' c' x→c'.prep=false→CoH (fun M w=>Φ M w∧CoF p' c' M w) k s p' (q.mv u) d' c' n→Stable (fun M w=>Φ M w∧CoF p' c' M w)→X (some ⟨p'.cb,0,none⟩) 0 (CoO p' q c'++(dkL (q.mv u) d'++(SkO k s++S))) (fun M w=>Φ M w∧CoF p' c' M w)) :
    Calls Tryz.prog F.erratalaw44_again #[.pointer (some ⟨db,0,none⟩),.slice kp kn kc] w fun e w'=>∃ p n,e=.returned (.tuple #[.pointer p,.int .i64 n])∧∃ R' Φ',Stable Φ'∧Ctx W w' (R'++G) Φ'∧X p n R' Φ':=by
  subst hkn hdb
  refine Again_use (q:=q) (d:=d) (S:=SkO k s++(S++G)) H.E H.hq H.hk hf.fut hkl hsl (Ctx.sub (S':=dkL q d++(SkO k s++(S++G))) (cx.re lay1) (List.sublist_append_right _ _)) (fun u d' e w he hno _ _ _ cx=>absurd (crash_fine hf.h keep) hno) (fun u p' c' d' w hd' hfine hq hkp hl hP hpr hst cx=>?_)
  have f':FinC d' c' x:=⟨hfine (crash_fine hf.h keep),hq.w,hl,hP,hst⟩
  have H':CoH (fun M w=>Φ M w∧CoF p' c' M w) k s p' (q.mv u) d' c' n:=H.next (fun M w h=>⟨h.1,H.hS M w h.1,h.2⟩) hq H.hkq hkp hl.w H.hI H.hs
  exact ⟨_,0,rfl,CoO p' q c'++(dkL (q.mv u) d'++(SkO k s++S)),_,inferInstance,Ctx.re (S:=CoO p' q c'++(dkL (q.mv u) d'++(SkO k s++(S++G)))) cx lay1.symm,hX u p' d' c' f' hpr H' inferInstance⟩
theorem CoH.weak {Ψ:PW} (H:CoH Φ k s p q d c n) (h:∀ M w,Ψ M w→Φ M w):CoH Ψ k s p q d c n:=⟨H.E.weak h,fun M w x=>H.hS M w (h M w x),fun M w x=>H.hC M w (h M w x),H.hq,H.hk.weak h,H.hw,H.hkq,H.hI,H.hs⟩
set_option maxHeartbeats 4000000 in
theorem small44_in [Stable Φ] (hE:CE Φ):GivesIn Φ Tryz.prog F.erratalaw44_small #[] (.bool true):=by
  refine gives_in Berratalaw44_small_run fun W R=>fun w G cx=>DNew_use cx fun q0 w hq0 cx=>⟨_,rfl,dkL q0 dsNew++R,fun M w=>Φ M w∧dkF q0 dsNew M w,inferInstance,cx.re (List.append_assoc _ _ _).symm,fun w G cx=>?_⟩
  have hnil:Has (fun M w=>Φ M w∧dkF q0 dsNew M w) (fun M w=>Sl M w none ([]:List Int)):=⟨fun M w h=>Sl.nil⟩
  refine New_to (kind:=2) (key:=[]) (cap:=0) (p:=none) (by decide) cx (fun h=>by cases h) (fun k hok hkq st1=>fun w G cx=>?_)
  refine Br.intro (fun h=>by cases h) (fun _=>fun w G cx=>?_)
  have hk0:DkK (fun M w=>(Φ M w∧dkF q0 dsNew M w)∧SkF k (newK 2 []) M w) q0 dsNew:=⟨Nat.zero_le _,fun M w h=>h.1.2⟩
  refine OpenF_use (q:=q0) (d:=dsNew) (S:=SkO k (newK 2 [])++(R++G)) (hE.weak fun M w h=>h.1.1) hq0 hk0 cnew_fut (Ctx.re (Ctx.swapU cx) (by simp)) (fun u d' e w he hno _ _ _ _ _ cx=>absurd dsNew_h hno) (fun u0 p0 c0 d0 w hd0 _ hfine0 hq1 hkp0 hl0 hP0 hpr0 hst0 cx=>?_)
  have f0:FinC d0 c0 stC0:=⟨hfine0 dsNew_h,hq1.w,hl0,hP0,hst0⟩
  have kk0:d0.keep=[]:=hkp0
  have H0:CoH (fun M w=>((Φ M w∧dkF q0 dsNew M w)∧SkF k (newK 2 []) M w)∧CoF p0 c0 M w) k sC0 p0 (q0.mv u0) d0 c0 18:=⟨hE.weak fun M w h=>h.1.1.1,fun M w h=>h.1.2,fun M w h=>h.2,hq1,(hk0.weak fun M w h=>h.1).of hkp0 u0,hl0.w,hkq,new_i 2 [],sC0_s⟩
  refine ⟨_,0,rfl,CoO p0 q0 c0++(dkL (q0.mv u0) d0++(SkO k sC0++R)),_,inferInstance,Ctx.re (S:=CoO p0 q0 c0++(dkL (q0.mv u0) d0++(SkO k sC0++(R++G)))) cx (by simp),Br.intro (fun h=>by cases h) (fun _=>Br.intro (fun _=>fun w G cx=>?_) (fun h=>absurd rfl (of_decide_eq_false h)))⟩
  refine (lineX_in (no:=1) (b:=1) ⟨by unfold I64;decide,by unfold I64;decide⟩).to cx fun lp lc g1 g2 st2=>fun w G cx=>?_
  obtain ⟨d1,c1,e1,f1,pr1,kp1⟩:=begin_fine (batch:=1) (mark:=9) (lines:=[lineX 1 1]) (next:=c1B) f0 rfl (by decide) (bad_lineX 1 1) xS1_w
  have H0:=H0.weak (Ψ:=fun M w=>(((Φ M w∧dkF q0 dsNew M w)∧SkF k (newK 2 []) M w)∧CoF p0 c0 M w)∧Sl M w lp [lineX 1 1]) fun M w h=>h.1
  refine BeginS_use (S:=R++G) (r:=(d1,c1,sC0,0)) H0 rfl (fun M w h=>h.2) (by decide) (by unfold I64;decide) (by unfold I64;decide) (by decide) rfl (by rw [e1]) (cx.re lay1) (SinkK.go fun u1 p1 k1 Ψ1 hp1 hsb1 hq1 hkq1 st3 hΨ1=>?_)
  have H1:=H0.next hΨ1 hq1 hkq1 kp1 (by rw [f1.now];exact xS1_w) (new_i 2 []) sC0_s
  refine Br.intro (fun _=>fun w G cx=>?_) (fun h=>absurd rfl (of_decide_eq_false h))
  have eg:giveC c1 sC0=(0,sC0):=by
    unfold giveC
    rw [f1.now,if_neg (by decide)]
    show ((delivK sC0 1 [lineX 1 1]).1,sC0)=_
    rw [sC_deliv]
  have e2:(d1,(prepareC c1 sC0).1,(prepareC c1 sC0).2.1,(prepareC c1 sC0).2.2)=(d1,{ c1 with prep:=true },sC0,(0:Int)):=by
    unfold prepareC
    rw [if_neg (by rw [f1.stop];simp),if_neg (by rw [f1.now];decide),eg]
    simp
  have f2:FinC d1 { c1 with prep:=true } xS1:=⟨f1.h,f1.w,⟨f1.live.file,f1.live.now,f1.live.last,f1.live.enc,f1.live.w⟩,f1.now,f1.stop⟩
  refine PrepS_use (S:=R++G) H1 hp1.1 hsb1 (by decide) e2 (cx.re lay1) (SinkK.go fun u2 p2 k2 Ψ2 hp2 hsb2 hq2 hkq2 st4 hΨ2=>?_)
  have H2:=H1.next hΨ2 hq2 hkq2 rfl f2.live.w (new_i 2 []) sC0_s
  refine Br.intro (fun _=>fun w G cx=>?_) (fun h=>absurd rfl (of_decide_eq_false h))
  obtain ⟨d3,c3,e3,f3,pr3,kp3⟩:=decide_fine f2 rfl rfl
  refine DecideS_use (S:=R++G) (r:=(d3,c3,sC0,0)) H2 (hp2.1.trans hp1.1) (by rw [e3]) (cx.re lay1) (SinkK.go fun u3 p3 k3 Ψ3 hp3 hsb3 hq3 hkq3 st5 hΨ3=>?_)
  have H3:=H2.next hΨ3 hq3 hkq3 kp3 f3.live.w (new_i 2 []) sC0_s
  refine Br.intro (fun _=>fun w G cx=>?_) (fun h=>absurd rfl (of_decide_eq_false h))
  have ck3:checkC c3=c1B:=by unfold checkC;rw [f3.now];rfl
  refine CheckS_use (hp3.1.trans (hp2.1.trans hp1.1)) cx (fun w G cx=>?_)
  rw [ck3]
  refine AgainS_use (keep:=[]) (X:=_) H3 f3 rfl (by decide) (fun M w h=>Sl.nil) rfl cx (fun u4 p4 d4 c4 f4 pr4 H4 st6=>?_)
  refine Br.intro (fun h=>by cases h) (fun _=>Br.intro (fun _=>fun w G cx=>?_) (fun h=>absurd rfl (of_decide_eq_false h)))
  refine PhaseS_use rfl cx (Br.intro (fun _=>fun w G cx=>?_) (fun h=>absurd (by rw [f4.now]) (of_decide_eq_false h)))
  have eE:endR c4 sC0=(0,sC1):=by
    unfold endR
    rw [f4.now,if_neg (by decide)]
    exact sC_deliv
  obtain ⟨d5,c5,e5,f5,pr5,kp5⟩:=finish_fine f4 rfl eE
  have e5:recoverC d4 c4 sC0=(d5,c5,sC1,0):=by
    unfold recoverC
    rw [if_neg (by rw [f4.stop];simp),if_neg (by rw [f4.now];decide),if_pos (by rw [f4.now])]
    exact e5
  refine RecoverS_use (S:=R++G) H4 rfl (hsb3.trans (hsb2.trans hsb1)) (by decide) e5 (cx.re lay1) (SinkK.go fun u5 p5 k5 Ψ5 hp5 hsb5 hq5 hkq5 st7 hΨ5=>?_)
  have H5:=H4.next hΨ5 hq5 hkq5 kp5 f5.live.w sC1_i sC1_s
  have hk5:=hsb5.trans (hsb3.trans (hsb2.trans hsb1))
  refine Br.intro (fun _=>fun w G cx=>?_) (fun h=>absurd rfl (of_decide_eq_false h))
  refine PhaseS_use hp5.1 cx (Br.intro (fun _=>fun w G cx=>?_) (fun h=>absurd (by rw [f5.now]) (of_decide_eq_false h)))
  refine LastS_use hp5.1 cx (Br.intro (fun _=>fun w G cx=>?_) (fun h=>absurd (by rw [f5.now]) (of_decide_eq_false h)))
  refine SkLinesS_use (s:=sC1) hk5 cx (fun w G cx=>?_)
  refine (lineX_in (no:=2) (b:=2) ⟨by unfold I64;decide,by unfold I64;decide⟩).to cx fun lp2 lc2 g3 g4 st8=>fun w G cx=>?_
  obtain ⟨d6,c6,e6,f6,pr6,kp6⟩:=begin_fine (batch:=2) (mark:=9) (lines:=[lineX 2 2]) (next:=c2B) f5 rfl (by decide) (bad_lineX 2 2) xS5_w
  have H5:=H5.weak (Ψ:=fun M w=>Ψ5 M w∧Sl M w lp2 [lineX 2 2]) fun M w h=>h.1
  refine BeginS_use (S:=R++G) (r:=(d6,c6,sC1,0)) H5 hp5.1 (fun M w h=>h.2) (by decide) (by unfold I64;decide) (by unfold I64;decide) (by decide) rfl (by rw [e6]) (cx.re lay1) (SinkK.go fun u6 p6 k6 Ψ6 hp6 hsb6 hq6 hkq6 st9 hΨ6=>fun w G cx=>?_)
  have H6:=H5.next hΨ6 hq6 hkq6 kp6 f6.live.w sC1_i sC1_s
  refine AgainS_use (keep:=[]) (X:=_) H6 f6 rfl (by decide) (fun M w h=>Sl.nil) rfl cx (fun u7 p7 d7 c7 f7 pr7 H7 st10=>?_)
  refine Br.intro (fun h=>by cases h) (fun _=>Br.intro (fun _=>Br.intro (fun _=>Br.intro (fun _=>Br.intro (fun _=>fun w G cx=>?_) (fun h=>absurd rfl (of_decide_eq_false h))) (fun h=>absurd rfl (of_decide_eq_false h))) (fun h=>absurd rfl (of_decide_eq_false h))) (fun h=>absurd rfl (of_decide_eq_false h)))
  obtain ⟨d8,c8,e8,f8,pr8,kp8⟩:=abort_fine (s:=sC1) f7 rfl
  have hdr:dropR c7 sC1=sC1:=by unfold dropR;rw [if_neg fun h=>absurd h.1 (by decide)]
  rw [hdr] at e8
  have e8:recoverC d7 c7 sC1=(d8,c8,sC1,0):=by
    unfold recoverC
    rw [if_neg (by rw [f7.stop];simp),if_pos (by rw [f7.now])]
    exact e8
  refine RecoverS_use (S:=R++G) H7 rfl (hsb6.trans hk5) (by decide) e8 (cx.re lay1) (SinkK.go fun u8 p8 k8 Ψ8 hp8 hsb8 hq8 hkq8 st11 hΨ8=>?_)
  refine Br.intro (fun _=>fun w G cx=>?_) (fun h=>absurd rfl (of_decide_eq_false h))
  refine LastS_use hp8.1 cx (Br.intro (fun _=>fun w G cx=>?_) (fun h=>absurd (by rw [f8.now]) (of_decide_eq_false h)))
  refine CheckS_use hp8.1 cx (fun w G cx=>⟨?_,?_⟩)
  · have ck8:checkC c8=c1B:=by unfold checkC;rw [f8.now];rfl
    rw [ck8,decide_eq_true rfl]
  · have hdown:∀ M w,Ψ8 M w→Φ M w:=fun M w h=>(hΨ6 M w (hΨ8 M w h).1.1).1.1 |> fun h5=>(hΨ5 M w h5).1.1 |> fun h3=>(hΨ3 M w h3).1 |> fun h2=>(hΨ2 M w h2).1 |> fun h1=>(hΨ1 M w h1).1.1.1.1.1
    exact (((Ctx.left cx).sub (((List.sublist_append_right _ _).trans (List.sublist_append_right _ _)).trans (List.sublist_append_right _ _))).weak hdown)
end
end Go.Proofs.YtfccagphnfceiaaGreatDoor
end

section
namespace Go.Proofs.YtfccagphnfceiaaGreatDoor
open Go.Vc
theorem line_wS {M:List Nat} {w:World} {p:Option Addr} {l:List LineD} (h:Sl M w p l):∀ x∈l,rightR x.row=true→LineW x:=fun x hx hr=>by
  rcases Nat.eq_zero_or_pos l.length with h0|h0
  · rw [List.eq_nil_of_length_eq_zero h0] at hx;cases hx
  obtain ⟨b,o,news,hp,g1,g2,g3,g4⟩:=h.cells line_one h0
  obtain ⟨i,hi,rfl⟩:=List.getElem_of_mem hx
  obtain ⟨r,rc,he,h1,h2,h3,h4⟩:=lrow g3 hi
  exact ⟨h3,fun v hv=>⟨(sl_i64 h4 v hv).1,right_small hr v hv⟩,right_len hr⟩
theorem renB_mem {b:Int}:∀ (l:List LineD) (f:Int),∀ y∈renB b f l,∃ x∈l,∃ i:Nat,i<l.length∧y={ x with no:=f+i,batch:=b }
  | [],f,y,hy=>by cases hy
  | x :: l,f,y,hy=>by
    have hy:y={ x with no:=f,batch:=b }∨y∈renB b (f+1) l:=by
      have:y ∈ { x with no:=f,batch:=b } :: renB b (f+1) l:=hy
      exact List.mem_cons.1 this
    rcases hy with rfl|hy
    · exact ⟨x,by simp,0,by simp,by simp⟩
    · obtain ⟨z,hz,i,hi,e⟩:=renB_mem l (f+1) y hy
      refine ⟨z,by simp [hz],i+1,by simpa using hi,?_⟩
      rw [e]
      have:f+1+(i:Int)=f+((i+1:Nat):Int):=by omega
      rw [this]
theorem linesO_w {o:OpC} {b f:Int} (hb:I64 b) (hf:0≤f∧f≤1000000) (hl:o.L.length≤6) (h:∀ x∈o.L,rightR x.row=true→LineW x):∀ y∈linesO o b f,rightR y.row=true→LineW y:=fun y hy hr=>by
  unfold linesO at hy
  split at hy
  · obtain ⟨x,hx,i,hi,rfl⟩:=renB_mem _ _ y hy
    have hw:=h x hx hr
    exact ⟨⟨by show I64 (f+i);unfold I64;omega,hb,hw.inn.time,hw.inn.n,hw.inn.cause,hw.inn.why⟩,hw.val,hw.row⟩
  · exact h y hy hr
end Go.Proofs.YtfccagphnfceiaaGreatDoor
end

section
namespace Go.Proofs.YtfccagphnfceiaaGreatDoor
open Go.Vc
section
variable {d:DsS} {c:CoS} {s:SkD} {x:StC}
theorem FinC.prep (f:FinC d c x) (b:Bool):FinC d { c with prep:=b } x:=⟨f.h,f.w,⟨f.live.file,f.live.now,f.live.last,f.live.enc,f.live.w⟩,f.now,f.stop⟩
structure MidC (kind:Int) (d:DsS) (c:CoS) (s:SkD) (x:StC):Prop where
  f:FinC d c x
  i:SkI s
  n:SkS s 18
  drop:dropR c s=newK kind []
  lines:s.lines=[]
theorem new_s18 (kind:Int):SkS (newK kind []) 18:=⟨Nat.zero_le _,Nat.zero_le _,Nat.zero_le _,Nat.zero_le _⟩
theorem MidC.new {kind:Int} (f:FinC d c x) (hb:1≤x.batch):MidC kind d c (newK kind []) x :=
  ⟨f,new_i kind [],new_s18 kind,by
    unfold dropR
    rw [if_neg fun h=>by have h2:(0:Int)=c.now.batch:=h.2;rw [f.now] at h2;omega],rfl⟩
theorem MidC.aside (f:FinC d c x) (hb:1≤x.batch) (h1:x.phase=1):MidC 0 d c { newK 0 [] with prep:=c.now.batch,aside:=c.now.lines } x :=
  have hw:=f.wf
  ⟨f,⟨List.Pairwise.nil,by simp,by simp,fun y hy=>by
    have hy:y∈c.now.lines:=hy
    rw [f.now] at hy
    exact (hw.line y hy).2.2⟩,⟨Nat.zero_le _,Nat.zero_le _,by show c.now.lines.length≤18;rw [f.now];exact hw.few,Nat.zero_le _⟩,by
    unfold dropR
    rw [if_pos ⟨rfl,rfl⟩]
    unfold abortK
    rw [if_neg (by simp),if_neg (by simp [hasK]),if_neg (by rw [f.now];simp;omega)],rfl⟩
end
structure AtC (Φ0:PW) (cb sb:Nat) (Φ:PW) (k:KP) (s:SkD) (p:CoP) (q:DkP) (d:DsS) (c:CoS) (n:Nat):Prop where
  H:CoH Φ k s p q d c n
  cb:p.cb=cb
  sb:k.sb=sb
  dn:∀ M w,Φ M w→Φ0 M w
section
variable {W:World} {S G:List Own} {Φ0 Φ:PW} {cb sb:Nat} {k:KP} {s:SkD} {p:CoP} {q:DkP} {d:DsS} {c:CoS} {n:Nat}
theorem AtC.go (A:AtC Φ0 cb sb Φ k s p q d c n) {d':DsS} {c':CoS} {s':SkD} {er:Int} {n':Nat} {X:Int→List Own→PW→Prop} (hkp:d'.keep=d.keep) (hw:StW c'.now) (hI:SkI s') (hs:SkS s' n')
    (h:∀ Ψ k' p' q',Stable Ψ→AtC Φ0 cb sb Ψ k' s' p' q' d' c' n'→X er (CoO p' q' c'++(dkL q' d'++(SkO k' s'++S))) Ψ) :
    SinkK W Φ k p q (S++G) (fun e w'=>∃ n,e=.returned (.int .i64 n)∧∃ R Φ',Stable Φ'∧Ctx W w' (R++G) Φ'∧X n R Φ') (d',c',s',er) :=
  SinkK.go fun u p' k' Ψ h1 h2 h3 h4 h5 h6=>h Ψ k' p' (q.mv u) h5 ⟨A.H.next h6 h3 h4 hkp hw hI hs,h1.1.trans A.cb,h2.trans A.sb,fun M w x=>A.dn M w (h6 M w x).1⟩
theorem AtC.same (A:AtC Φ0 cb sb Φ k s p q d c n) {er:Int} {X:Int→List Own→PW→Prop}
    (h:∀ Ψ k' p' q',Stable Ψ→AtC Φ0 cb sb Ψ k' s p' q' d c n→X er (CoO p' q' c++(dkL q' d++(SkO k' s++S))) Ψ) :
    SinkK W Φ k p q (S++G) (fun e w'=>∃ n,e=.returned (.int .i64 n)∧∃ R Φ',Stable Φ'∧Ctx W w' (R++G) Φ'∧X n R Φ') (d,c,s,er):=A.go rfl A.H.hw A.H.hI A.H.hs h
theorem AtC.weak (A:AtC Φ0 cb sb Φ k s p q d c n) {Ψ:PW} (h:∀ M w,Ψ M w→Φ M w):AtC Φ0 cb sb Ψ k s p q d c n:=⟨A.H.weak h,A.cb,A.sb,fun M w x=>A.dn M w (h M w x)⟩
theorem AtC.fin [Stable Φ] (A:AtC Φ0 cb sb Φ k s p q d c n) {w:World} (cx:Ctx W w ((CoO p q c++(dkL q d++(SkO k s++S)))++G) Φ):Ctx W w S Φ0 :=
  ((Ctx.left cx).sub (((List.sublist_append_right _ _).trans (List.sublist_append_right _ _)).trans (List.sublist_append_right _ _))).weak A.dn
end
end Go.Proofs.YtfccagphnfceiaaGreatDoor
end

section
namespace Go.Proofs.YtfccagphnfceiaaGreatDoor
open Go.Vc
section
variable {Φ:PW}
end
end Go.Proofs.YtfccagphnfceiaaGreatDoor
end

section
namespace Go.Proofs.YtfccagphnfceiaaGreatDoor
open Go.Vc
abbrev coO (q:DkP):Option (CoP × CoS)→List Own
  | none=>[]
  | some (p,c)=>CoO p q c
abbrev coP:Option (CoP × CoS)→Option Addr
  | none=>none
  | some (p,_)=>some ⟨p.cb,0,none⟩
abbrev coC:Option (CoP × CoS)→Option CoS
  | none=>none
  | some (_,c)=>some c
abbrev layJ (co:Option (CoP × CoS)) (q:DkP) (d:DsS) (k:KP) (s:SkD) (y:StoP) (x:StoS) (R:List Own):List Own:=coO q co++(dkL q d++(SkO k s++(stoO y x :: R)))
structure OnB (Φ0:PW) (db sb xb:Nat) (Φ:PW) (k:KP) (s:SkD) (q:DkP) (d:DsS) (n:Nat) (y:StoP) (x:StoS) (co:Option (CoP × CoS)):Prop where
  E:CE Φ
  hS:∀ M w,Φ M w→SkF k s M w
  hX:∀ M w,Φ M w→stoF y x M w
  hC:∀ p c,co=some (p,c)→∀ M w,Φ M w→CoF p c M w
  hq:DkQ q d
  hk:DkK Φ q d
  hkq:SkQ k s
  hI:SkI s
  hs:SkS s n
  db:q.db=db
  sb:k.sb=sb
  xb:y.xb=xb
  dn:∀ M w,Φ M w→Φ0 M w
section
variable {W w:World} {R G:List Own} {Φ0 Φ:PW} {db sb xb:Nat} {k:KP} {s:SkD} {q:DkP} {d:DsS} {n:Nat} {y:StoP} {x:StoS} {co:Option (CoP × CoS)}
theorem OnB.weak (H:OnB Φ0 db sb xb Φ k s q d n y x co) {Ψ:PW} (h:∀ M w,Ψ M w→Φ M w):OnB Φ0 db sb xb Ψ k s q d n y x co :=
  ⟨H.E.weak h,fun M w e=>H.hS M w (h M w e),fun M w e=>H.hX M w (h M w e),fun p c e M w z=>H.hC p c e M w (h M w z),H.hq,H.hk.weak h,H.hkq,H.hI,H.hs,H.db,H.sb,H.xb,fun M w e=>H.dn M w (h M w e)⟩
theorem OnB.more (H:OnB Φ0 db sb xb Φ k s q d n y x co) {m:Nat} (h:n≤m):OnB Φ0 db sb xb Φ k s q d m y x co :=
  ⟨H.E,H.hS,H.hX,H.hC,H.hq,H.hk,H.hkq,H.hI,H.hs.more h,H.db,H.sb,H.xb,H.dn⟩
theorem OnB.none (H:OnB Φ0 db sb xb Φ k s q d n y x co):OnB Φ0 db sb xb Φ k s q d n y x none :=
  ⟨H.E,H.hS,H.hX,(fun p c e=>by cases e),H.hq,H.hk,H.hkq,H.hI,H.hs,H.db,H.sb,H.xb,H.dn⟩
theorem OnB.disk (H:OnB Φ0 db sb xb Φ k s q d n y x co) {q':DkP} {d':DsS} (hq:DkQ q' d') (hk:DkK Φ q' d') (e:q'.db=q.db):OnB Φ0 db sb xb Φ k s q' d' n y x co :=
  ⟨H.E,H.hS,H.hX,H.hC,hq,hk,H.hkq,H.hI,H.hs,e.trans H.db,H.sb,H.xb,H.dn⟩
theorem OnB.coh {p:CoP} {c:CoS} (H:OnB Φ0 db sb xb Φ k s q d n y x (some (p,c))) (hw:StW c.now):CoH Φ k s p q d c n :=
  ⟨H.E,H.hS,H.hC p c rfl,H.hq,H.hk,hw,H.hkq,H.hI,H.hs⟩
theorem d_in [Stable Φ] {A D X:List Own} (cx:Ctx W w ((A++(D++X))++G) Φ):Ctx W w (D++(A++(X++G))) Φ:=cx.perm (by
  have:=(List.perm_append_comm (l₁:=A) (l₂:=D)).append_right (X++G)
  simpa [List.append_assoc] using this)
theorem d_out [Stable Φ] {A D X:List Own} (cx:Ctx W w (D++(A++(X++G))) Φ):Ctx W w ((A++(D++X))++G) Φ:=cx.perm (by
  have:=(List.perm_append_comm (l₁:=D) (l₂:=A)).append_right (X++G)
  simpa [List.append_assoc] using this)
theorem fit_in [Stable Φ] {A B X S:List Own} {o:Own} (cx:Ctx W w ((A++(B++(X++(o :: S))))++G) Φ):Ctx W w (X++(o :: (A++(B++(S++G))))) Φ:=cx.perm (by
  have h1:=(List.perm_append_comm (l₁:=A++B) (l₂:=X++[o])).append_right (S++G)
  simpa [List.append_assoc] using h1)
theorem fit_out [Stable Φ] {A B X S:List Own} {o:Own} (cx:Ctx W w (X++(o :: (A++(B++(S++G))))) Φ):Ctx W w ((A++(B++(X++(o :: S))))++G) Φ:=cx.perm (by
  have h1:=(List.perm_append_comm (l₁:=X++[o]) (l₂:=A++B)).append_right (S++G)
  simpa [List.append_assoc] using h1)
theorem fol_in [Stable Φ] {A B X S:List Own} {o:Own} (cx:Ctx W w ((A++(B++(X++(o :: S))))++G) Φ):Ctx W w (o :: (A++(B++(X++(S++G))))) Φ:=cx.perm (by
  have h1:=(List.perm_append_comm (l₁:=A++(B++X)) (l₂:=[o])).append_right (S++G)
  simpa [List.append_assoc] using h1)
theorem fol_out [Stable Φ] {A B X S:List Own} {o:Own} (cx:Ctx W w (o :: (A++(B++(X++(S++G))))) Φ):Ctx W w ((A++(B++(X++(o :: S))))++G) Φ:=cx.perm (by
  have h1:=(List.perm_append_comm (l₁:=[o]) (l₂:=A++(B++X))).append_right (S++G)
  simpa [List.append_assoc] using h1)
theorem lay_drop [Stable Φ] (cx:Ctx W w (layJ co q d k s y x R++G) Φ):Ctx W w (layJ none q d k s y x R++G) Φ:=cx.sub ((List.sublist_append_right _ _).append (List.Sublist.refl _))
theorem lay_end [Stable Φ] (H:OnB Φ0 db sb xb Φ k s q d n y x co) (cx:Ctx W w (layJ co q d k s y x R++G) Φ):Ctx W w R Φ0 :=
  ((Ctx.left cx).sub ((((List.sublist_cons_self _ _).trans (List.sublist_append_right _ _)).trans (List.sublist_append_right _ _)).trans (List.sublist_append_right _ _))).weak H.dn
theorem LoseB [Stable Φ] (H:OnB Φ0 db sb xb Φ k s q d n y x co) {m:Int} (hm:I64 m) (cx:Ctx W w (layJ co q d k s y x R++G) Φ) {X:List Own→PW→Prop}
    (hX:OnB Φ0 db sb xb Φ k s q (loseS d m) n y x co→X (layJ co q (loseS d m) k s y x R) Φ) :
    Calls Tryz.prog F.disk_Disk_Lose #[.pointer (some ⟨db,0,none⟩),.int .i64 m] w fun e w'=>e=.returned (.tuple #[])∧∃ R' Φ',Stable Φ'∧Ctx W w' (R'++G) Φ'∧X R' Φ':=by
  have hdb:=H.db
  subst hdb
  exact Lose_use (q:=q) (d:=d) (S:=coO q co++((SkO k s++(stoO y x :: R))++G)) H.hq hm (d_in cx) fun w hq1 cx=>⟨rfl,_,Φ,inferInstance,d_out cx,hX (H.disk hq1 ⟨H.hk.le,H.hk.sl⟩ rfl)⟩
theorem ArmB [Stable Φ] (H:OnB Φ0 db sb xb Φ k s q d n y x co) {m:Int} (hm:I64 m) {p:Option Addr} {cap:Nat} {l:List Int} {ln:Nat} (hln:l.length=ln) (hl:l.length≤1000000) (hsl:∀ M w,Φ M w→Sl M w p l) (cx:Ctx W w (layJ co q d k s y x R++G) Φ) {X:List Own→PW→Prop}
    (hX:∀ q' Φ',Stable Φ'→(∀ M w,Φ' M w→Φ M w)→OnB Φ0 db sb xb Φ' k s q' (armS d m l) n y x co→X (layJ co q' (armS d m l) k s y x R) Φ') :
    Calls Tryz.prog F.disk_Disk_Arm #[.pointer (some ⟨db,0,none⟩),.int .i64 m,.slice p ln cap] w fun e w'=>e=.returned (.tuple #[])∧∃ R' Φ',Stable Φ'∧Ctx W w' (R'++G) Φ'∧X R' Φ':=by
  have hdb:=H.db
  subst hdb hln
  exact Arm_use (q:=q) (d:=d) (S:=coO q co++((SkO k s++(stoO y x :: R))++G)) H.hq hm hl hsl (d_in cx) fun p' c' w hq1 cx=>⟨rfl,_,_,inferInstance,d_out cx,hX _ _ inferInstance (fun M w h=>h.1) ((H.weak (Ψ:=fun M w=>Φ M w∧dkF { q with kp:=p',kc:=c' } (armS d m l) M w) fun M w h=>h.1).disk hq1 ⟨hl,fun M w h=>h.2⟩ rfl)⟩
theorem CrashB [Stable Φ] (H:OnB Φ0 db sb xb Φ k s q d n y x co) {p:Option Addr} {cap:Nat} {keep:List Int} {ln:Nat} (hln:keep.length=ln) (hl:keep.length≤1000000) (hsl:∀ M w,Φ M w→Sl M w p keep) (cx:Ctx W w (layJ co q d k s y x R++G) Φ) {X:List Own→PW→Prop}
    (hX:∀ q',OnB Φ0 db sb xb Φ k s q' (crashS d keep) n y x none→X (layJ none q' (crashS d keep) k s y x R) Φ) :
    Calls Tryz.prog F.disk_Disk_Crash #[.pointer (some ⟨db,0,none⟩),.slice p ln cap] w fun e w'=>e=.returned (.tuple #[])∧∃ R' Φ',Stable Φ'∧Ctx W w' (R'++G) Φ'∧X R' Φ':=by
  have hdb:=H.db
  subst hdb hln
  exact Crash_use (q:=q) (d:=d) (S:=coO q co++((SkO k s++(stoO y x :: R))++G)) H.hq hl hsl (d_in cx) fun u w hq1 cx=>⟨rfl,_,Φ,inferInstance,lay_drop (co:=co) (d_out cx),hX _ (H.none.disk hq1 (H.hk.of (crash_keep d keep) u) rfl)⟩
theorem StartB [Stable Φ] (H:OnB Φ0 db sb xb Φ k s q d n y x none) (cx:Ctx W w (layJ none q d k s y x R++G) Φ) {X:List Own→PW→Prop}
    (hX:OnB Φ0 db sb xb Φ k s q (startS d) n y x none→X (layJ none q (startS d) k s y x R) Φ) :
    Calls Tryz.prog F.disk_Disk_Start #[.pointer (some ⟨db,0,none⟩)] w fun e w'=>e=.returned (.tuple #[])∧∃ R' Φ',Stable Φ'∧Ctx W w' (R'++G) Φ'∧X R' Φ':=by
  have hdb:=H.db
  subst hdb
  exact Start_use (q:=q) (d:=d) (S:=coO q none++((SkO k s++(stoO y x :: R))++G)) H.hq (d_in cx) fun w hq1 cx=>⟨rfl,_,Φ,inferInstance,d_out cx,hX (H.disk hq1 ⟨H.hk.le,H.hk.sl⟩ rfl)⟩
theorem OpenB [Stable Φ] (H:OnB Φ0 db sb xb Φ k s q d n y x none) (hJ:CoD d s x) (cx:Ctx W w (layJ none q d k s y x R++G) Φ) {X:Option Addr→Int→List Own→PW→Prop}
    (hX:∀ q' d' co er Φ',d'.keep=d.keep→Stable Φ'→OnB Φ0 db sb xb Φ' k s q' d' n y x co→CoJ d' (coC co) s x false→(co=none→dskB er=true)→(co≠none→er=0)→(DsH d→DsH d'∧er=0)→X (coP co) er (layJ co q' d' k s y x R) Φ') :
    Calls Tryz.prog F.commit_Open #[.pointer (some ⟨db,0,none⟩),.int .i64 3] w fun e w'=>∃ p n,e=.returned (.tuple #[.pointer p,.int .i64 n])∧∃ R' Φ',Stable Φ'∧Ctx W w' (R'++G) Φ'∧X p n R' Φ':=by
  have hdb:=H.db
  subst hdb
  have ho:=hJ.open_
  have hkeep:(openK d 3).1.keep=d.keep:=by
    unfold openK
    simp only
    split
    · exact sync_keep d 3
    · exact sync_keep d 3
  refine OpenK_use (q:=q) (d:=d) (S:=(SkO k s++(stoO y x :: R))++G) H.E H.hq H.hk (fun k e h=>Nat.le_trans (openC_len h) (by decide)) (d_in cx) (fun u w hnone hq2 cx=>?_) (fun u p c w hc he hq2 _ cx=>?_)
  · rw [hnone] at ho
    exact ⟨none,_,rfl,layJ none (q.mv u) (openK d 3).1 k s y x R,Φ,inferInstance,d_out (A:=[]) cx,hX _ _ none _ _ hkeep inferInstance (H.disk hq2 (H.hk.of hkeep u) rfl) ho.1 (fun _=>by rcases ho.2.1 rfl with h|h<;>rw [h]<;>rfl) (fun h=>absurd rfl h) ho.2.2.2⟩
  · rw [hc,he] at ho
    refine ⟨_,0,rfl,layJ (some (p,c)) (q.mv u) (openK d 3).1 k s y x R,_,inferInstance,Ctx.re (S:=CoO p q c++(dkL (q.mv u) (openK d 3).1++((SkO k s++(stoO y x :: R))++G))) cx (by simp;rfl),hX (q.mv u) _ (some (p,c)) _ _ hkeep inferInstance ?_ ho.1 (fun h=>by cases h) (fun _=>rfl) ho.2.2.2⟩
    have H1:=(H.disk hq2 (H.hk.of hkeep u) rfl).weak (Ψ:=fun M w=>Φ M w∧CoF p c M w) fun M w h=>h.1
    exact ⟨H1.E,H1.hS,H1.hX,(fun p' c' e M w h=>by cases e;exact h.2),H1.hq,H1.hk,H1.hkq,H1.hI,H1.hs,H1.db,H1.sb,H1.xb,H1.dn⟩
theorem FitsB [Stable Φ] (H:OnB Φ0 db sb xb Φ k s q d n y x co) (hn:n≤300000) {x':StoS} (hfit:fitsS x s=some x') (cx:Ctx W w (layJ co q d k s y x R++G) Φ) {X:Bool→List Own→PW→Prop}
    (hX:∀ y' Φ',Stable Φ'→OnB Φ0 db sb xb Φ' k s q d n y' x' co→X true (layJ co q d k s y' x' R) Φ') :
    Calls Tryz.prog F.erratalaw44_story_fits #[.pointer (some ⟨xb,0,none⟩),.pointer (some ⟨sb,0,none⟩)] w fun e w'=>∃ c,e=.returned (.bool c)∧∃ R' Φ',Stable Φ'∧Ctx W w' (R'++G) Φ'∧X c R' Φ':=by
  have hsb:=H.sb
  have hxb:=H.xb
  subst hsb hxb
  have hS:Has Φ (SkF k s):=⟨H.hS⟩
  exact Fits_use (k:=k) (s:=s) H.hkq H.hI H.hs hn H.hX hfit (fit_in cx) fun y' w Φ' hxb st hΦ' cx=>⟨true,rfl,_,Φ',st,fit_out cx,hX y' Φ' st (by
    have H1:=H.weak fun M w h=>(hΦ' M w h).1
    exact ⟨H1.E,H1.hS,fun M w h=>(hΦ' M w h).2,H1.hC,H1.hq,H1.hk,H1.hkq,H1.hI,H1.hs,H1.db,H1.sb,hxb,H1.dn⟩)⟩
theorem FollowB [Stable Φ] (H:OnB Φ0 db sb xb Φ k s q d n y x co) {o:OpC} {lp kp:Option Addr} {lc kc:Nat} {kind batch:Int} {np:Option Addr} {nc:Nat} {lines:List LineD} {ln:Nat} (hln:lines.length=ln) (hL:∀ M w,Φ M w→Sl M w np lines) {e:Int} {stopped:Bool} (cx:Ctx W w (layJ co q d k s y x R++G) Φ) {X:List Own→PW→Prop}
    (hX:∀ y',OnB Φ0 db sb xb Φ k s q d n y' (followS x kind batch lines o.next e stopped) co→X (layJ co q d k s y' (followS x kind batch lines o.next e stopped) R) Φ) :
    Calls Tryz.prog F.erratalaw44_story_follow #[.pointer (some ⟨xb,0,none⟩),o.v lp lc kp kc,.int .i64 kind,.int .i64 batch,.slice np ln nc,.int .i64 e,.bool stopped] w fun e w'=>e=.returned (.tuple #[])∧∃ R' Φ',Stable Φ'∧Ctx W w' (R'++G) Φ'∧X R' Φ':=by
  have hxb:=H.xb
  subst hxb hln
  exact Follow_use (y:=y) (x:=x) H.hX hL (fol_in cx) fun y' w hxb hF cx=>⟨rfl,_,Φ,inferInstance,fol_out cx,hX y' ⟨H.E,H.hS,hF,H.hC,H.hq,H.hk,H.hkq,H.hI,H.hs,H.db,H.sb,hxb,H.dn⟩⟩
theorem DoesB [Stable Φ] {p:CoP} {c:CoS} (H:OnB Φ0 db sb xb Φ k s q d n y x (some (p,c))) (hw:StW c.now) {cb:Nat} (hcb:p.cb=cb) (hn:n≤300000) {o:OpC} {lp kp:Option Addr} {lc kc:Nat} (hL:∀ M w,Φ M w→Sl M w lp o.L) (h6:o.L.length≤6) (hrow:∀ x∈o.L,x.row.length≤1000000) (hb:I64 o.b) (hm:I64 o.n) (hnx:o.next.size≤50) {kind:Int} {m:Nat}
    (hI':SkI (opX d c s o kind).2.2.1) (hs':SkS (opX d c s o kind).2.2.1 m) (cx:Ctx W w (layJ (some (p,c)) q d k s y x R++G) Φ) {X:Int→List Own→PW→Prop}
    (hX:∀ q' p' k' Φ',Stable Φ'→(∀ M w,Φ' M w→Φ M w)→p'.cb=p.cb→OnB Φ0 db sb xb Φ' k' (opX d c s o kind).2.2.1 q' (opX d c s o kind).1 m y x (some (p',(opX d c s o kind).2.1))→X (opX d c s o kind).2.2.2 (layJ (some (p',(opX d c s o kind).2.1)) q' (opX d c s o kind).1 k' (opX d c s o kind).2.2.1 y x R) Φ') :
    Calls Tryz.prog F.erratalaw44_does #[.pointer (some ⟨cb,0,none⟩),.pointer (some ⟨sb,0,none⟩),o.v lp lc kp kc,.int .i64 kind] w fun e w'=>∃ n,e=.returned (.int .i64 n)∧∃ R' Φ',Stable Φ'∧Ctx W w' (R'++G) Φ'∧X n R' Φ':=by
  obtain ⟨r,hr⟩:∃ r,opX d c s o kind=r:=⟨_,rfl⟩
  have hkp:r.1.keep=d.keep:=by rw [←hr];exact opX_keep d c s o kind
  rw [hr] at hI' hs' hX
  obtain ⟨d',c',s',er⟩:=r
  exact DoesS_use (S:=(stoO y x :: R)++G) (r:=(d',c',s',er)) (H.coh hw) hcb H.sb hn hL h6 hrow hb hm hnx hr (Ctx.re (S':=CoO p q c++(dkL q d++(SkO k s++((stoO y x :: R)++G)))) cx (by simp)) (SinkK.go (S:=stoO y x :: R) fun u p' k' Φ' h1 h2 h3 h4 h5 h6=>hX (q.mv u) p' k' Φ' h5 (fun M w h=>(h6 M w h).1) h1.1
    ⟨H.E.weak fun M w h=>(h6 M w h).1,fun M w h=>(h6 M w h).2.1,fun M w h=>H.hX M w (h6 M w h).1,fun p2 c2 e M w h=>(by cases e;exact (h6 M w h).2.2),h3,(H.hk.weak fun M w h=>(h6 M w h).1).of hkp u,h4,hI',hs',H.db,h2.trans H.sb,H.xb,fun M w h=>H.dn M w (h6 M w h).1⟩)
theorem AgainB [Stable Φ] (H:OnB Φ0 db sb xb Φ k s q d n y x co) (hJ:CoD d s x) {p:Option Addr} {cap:Nat} {keep:List Int} {ln:Nat} (hd:DsH (startS (crashS d keep))) (hln:keep.length=ln) (hl:keep.length≤1000000) (hsl:∀ M w,Φ M w→Sl M w p keep) (cx:Ctx W w (layJ co q d k s y x R++G) Φ) {X:Option Addr→Int→List Own→PW→Prop}
    (hX:∀ q' d' p c Φ',Stable Φ'→OnB Φ0 db sb xb Φ' k s q' d' n y x (some (p,c))→CoJ d' (some c) s x false→DsH d'→X (some ⟨p.cb,0,none⟩) 0 (layJ (some (p,c)) q' d' k s y x R) Φ') :
    Calls Tryz.prog F.erratalaw44_again #[.pointer (some ⟨db,0,none⟩),.slice p ln cap] w fun e w'=>∃ p n,e=.returned (.tuple #[.pointer p,.int .i64 n])∧∃ R' Φ',Stable Φ'∧Ctx W w' (R'++G) Φ'∧X p n R' Φ':=by
  have hdb:=H.db
  subst hdb hln
  refine Again_use (q:=q) (d:=d) (S:=(SkO k s++(stoO y x :: R))++G) H.E H.hq H.hk hJ.fut hl hsl (d_in (A:=[]) (lay_drop (co:=co) cx)) (fun u d' e w he hno _ _ _ _=>absurd hd hno) (fun u p c d' w hd' hfine hq2 hkp hl2 hP hpr hst cx=>?_)
  refine ⟨_,0,rfl,layJ (some (p,c)) (q.mv u) d' k s y x R,_,inferInstance,Ctx.re (S:=CoO p q c++(dkL (q.mv u) d'++((SkO k s++(stoO y x :: R))++G))) cx (by simp;rfl),hX (q.mv u) d' p c _ inferInstance ?_ ⟨hq2.w,hJ.sk,hl2.fut hP,fun c' e=>?_⟩ (hfine hd)⟩
  · have H1:=(H.none.disk hq2 (H.hk.of hkp u) rfl).weak (Ψ:=fun M w=>Φ M w∧CoF p c M w) fun M w h=>h.1
    exact ⟨H1.E,H1.hS,H1.hX,(fun p' c' e M w h=>by cases e;exact h.2),H1.hq,H1.hk,H1.hkq,H1.hI,H1.hs,H1.db,H1.sb,H1.xb,H1.dn⟩
  · cases e
    exact ⟨hst,fun _=>⟨hl2,hP,fun e=>by rw [hpr] at e;cases e⟩,fun e=>by cases e⟩
theorem RecoverB [Stable Φ] {p:CoP} {c:CoS} (H:OnB Φ0 db sb xb Φ k s q d n y x (some (p,c))) (hw:StW c.now) {cb:Nat} (hcb:p.cb=cb) (hn:n≤300000) {m:Nat}
    (hI':SkI (recoverC d c s).2.2.1) (hs':SkS (recoverC d c s).2.2.1 m) (cx:Ctx W w (layJ (some (p,c)) q d k s y x R++G) Φ) {X:Int→List Own→PW→Prop}
    (hX:∀ q' p' k' Φ',Stable Φ'→p'.cb=p.cb→OnB Φ0 db sb xb Φ' k' (recoverC d c s).2.2.1 q' (recoverC d c s).1 m y x (some (p',(recoverC d c s).2.1))→X (recoverC d c s).2.2.2 (layJ (some (p',(recoverC d c s).2.1)) q' (recoverC d c s).1 k' (recoverC d c s).2.2.1 y x R) Φ') :
    Calls Tryz.prog F.commit_Coordinator_Recover #[.pointer (some ⟨cb,0,none⟩),.pointer (some ⟨sb,0,none⟩)] w fun e w'=>∃ n,e=.returned (.int .i64 n)∧∃ R' Φ',Stable Φ'∧Ctx W w' (R'++G) Φ'∧X n R' Φ':=by
  obtain ⟨r,hr⟩:∃ r,recoverC d c s=r:=⟨_,rfl⟩
  have hkp:r.1.keep=d.keep:=by rw [←hr];exact recoverC_keep d c s
  rw [hr] at hI' hs' hX
  obtain ⟨d',c',s',er⟩:=r
  exact RecoverS_use (S:=(stoO y x :: R)++G) (r:=(d',c',s',er)) (H.coh hw) hcb H.sb hn hr (Ctx.re (S':=CoO p q c++(dkL q d++(SkO k s++((stoO y x :: R)++G)))) cx (by simp)) (SinkK.go (S:=stoO y x :: R) fun u p' k' Φ' h1 h2 h3 h4 h5 h6=>hX (q.mv u) p' k' Φ' h5 h1.1
    ⟨H.E.weak fun M w h=>(h6 M w h).1,fun M w h=>(h6 M w h).2.1,fun M w h=>H.hX M w (h6 M w h).1,fun p2 c2 e M w h=>(by cases e;exact (h6 M w h).2.2),h3,(H.hk.weak fun M w h=>(h6 M w h).1).of hkp u,h4,hI',hs',H.db,h2.trans H.sb,H.xb,fun M w h=>H.dn M w (h6 M w h).1⟩)
theorem recover_s {c:CoS} (h:SkS s n) (hn:18≤n) (ha:s.aside.length≤18) (hL:c.now.lines.length≤18):SkS (recoverC d c s).2.2.1 (n+18):=by
  have e:opX d c s ⟨0,0,0,[],.empty,[],false⟩ 5=recoverC d c s:=by unfold opX;rw [if_neg (by decide),if_neg (by decide),if_neg (by decide),if_neg (by decide),if_neg (by decide),if_pos rfl]
  rw [←e]
  exact opX_s h hn ha hL
end
end Go.Proofs.YtfccagphnfceiaaGreatDoor
end

section
namespace Go.Proofs.YtfccagphnfceiaaGreatDoor
open Go.Vc
abbrev stoN:StoS:=⟨[],0,.empty,0,[],.empty,false,false⟩
theorem CoJ.same {d:DsS} {co:Option CoS} {s:SkD} {x:StoS} {b:Bool} (h:CoJ d co s x b):fitsS x s=some x:=fits_same h.sk.lines h.sk.last
theorem CoJ.drop {d:DsS} {co:Option CoS} {s:SkD} {x:StoS} {b:Bool} (h:CoJ d co s x b):CoJ d none s x b:=⟨h.w,h.sk,h.fut,fun c e=>by cases e⟩
theorem steps_le (z:OpC):(if z.kind=10 then (4:Int) else 1)≤4∧1≤(if z.kind=10 then (4:Int) else 1):=by split<;>decide
section
variable {Φ:PW}
set_option maxRecDepth 20000 in
set_option maxHeartbeats 16000000 in
theorem Once_in [Stable Φ] (hE:CE Φ) {kind:Int} {lp kp:Option Addr} {lc kc:Nat} {l:List OpC} {keep:List Int} (hl:∀ M w,Φ M w→Sl M w lp l) (hkeep:∀ M w,Φ M w→Sl M w kp keep) (hlen:l.length≤9223372036854775807) :
    GivesIn Φ Tryz.prog F.erratalaw44_CommitOnce #[.int .i64 kind,.slice lp l.length lc,.slice kp keep.length kc] (.bool true):=by
  refine gives_in (Merratalaw44_CommitOnce_run kind lp l.length lc kp keep.length kc) fun W R=>fun w G cx=>?_
  refine (small44_in hE).toB cx (fun w G cx=>?_)
  obtain ⟨b,oo,cs,hpb,cx⟩:=cx.pin (hl _ _ cx.phi)
  refine (few_in44 (l:=l) (m:=40) hpb (fun M w h=>h.2) hlen).toB (R:=R) cx ?_
  clear cx
  cases hfew:fewC l 40 with
  | false=>exact Br.intro (fun _=>fun w G cx=>⟨rfl,(Ctx.left cx).weak fun M w h=>h.1⟩) (fun h=>by cases h)
  | true =>
  refine Br.intro (fun h=>by cases h) (fun _=>Br.intro (fun _=>fun w G cx=>⟨rfl,(Ctx.left cx).weak fun M w h=>h.1⟩) (fun hk20=>fun w G cx=>?_))
  have hk20:keep.length≤20:=by have:=of_decide_eq_false hk20;omega
  obtain ⟨hall,h40⟩:=fewC_yes hfew
  have h40:l.length≤40:=by omega
  obtain ⟨Φ0,hΦ0⟩:∃ Φ0:PW,(fun M w=>Φ M w∧Pin b oo cs l M w)=Φ0:=⟨_,rfl⟩
  have st00:Stable Φ0:=by rw [←hΦ0];infer_instance
  have dn0:∀ M w,Φ0 M w→Φ M w:=fun M w h=>by rw [←hΦ0] at h;exact h.1
  have hpin:∀ M w,Φ0 M w→Pin b oo cs l M w:=fun M w h=>by rw [←hΦ0] at h;exact h.2
  rw [hΦ0] at cx
  have hE:=hE.weak dn0
  clear hΦ0
  have hnil:Has Φ0 (fun M w=>Sl M w none ([]:List Int)):=⟨fun M w h=>Sl.nil⟩
  refine New_to (kind:=kind) (key:=[]) (cap:=0) (p:=none) (by decide) cx (fun _=>fun w G cx=>DNew_use cx fun q w hq cx=>⟨_,rfl,dkL q dsNew++R,fun M w=>Φ0 M w∧dkF q dsNew M w,inferInstance,cx.re (List.append_assoc _ _ _).symm,fun w G cx=>Br.intro (fun _=>fun w G cx=>fun w G cx=>⟨rfl,((Ctx.left cx).sub (List.sublist_append_right _ _)).weak fun M w h=>dn0 M w h.1⟩) (fun h=>by cases h)⟩) (fun k0 hok hkq st1=>fun w G cx=>?_)
  refine DNew_use cx fun q0 w hq0 cx=>⟨_,rfl,dkL q0 dsNew++(SkO k0 (newK kind [])++R),fun M w=>(Φ0 M w∧SkF k0 (newK kind []) M w)∧dkF q0 dsNew M w,inferInstance,cx.re (by simp),fun w G cx=>Br.intro (fun h=>by cases h) (fun _=>fun w G cx=>?_)⟩
  have hk0:DkK (fun M w=>(Φ0 M w∧SkF k0 (newK kind []) M w)∧dkF q0 dsNew M w) q0 dsNew:=⟨Nat.zero_le _,fun M w h=>h.2⟩
  refine OpenF_use (q:=q0) (d:=dsNew) (S:=SkO k0 (newK kind [])++(R++G)) (hE.weak fun M w h=>h.1.1) hq0 hk0 cnew_fut (cx.re (by simp)) (fun u d' e w he hno _ _ _ _ _ cx=>absurd dsNew_h hno) (fun u0 p0 c0 d0 w hd0 he0 hfine0 hq1 hkp0 hl0 hP0 hpr0 hst0 cx=>?_)
  have J0:CoJ d0 (some c0) (newK kind []) stoN false:=by
    have:=(new_co kind).open_.1
    rw [←hd0,he0] at this
    exact this
  have st0:Stable (fun M w=>((Φ0 M w∧SkF k0 (newK kind []) M w)∧dkF q0 dsNew M w)∧CoF p0 c0 M w):=inferInstance
  refine ⟨_,0,rfl,CoO p0 q0 c0++(dkL (q0.mv u0) d0++(SkO k0 (newK kind [])++R)),_,st0,Ctx.re (S:=CoO p0 q0 c0++(dkL (q0.mv u0) d0++(SkO k0 (newK kind [])++(R++G)))) cx (by simp),fun xb=>?_⟩
  have B0:OnB Φ0 q0.db k0.sb xb (fun M w=>((Φ0 M w∧SkF k0 (newK kind []) M w)∧dkF q0 dsNew M w)∧CoF p0 c0 M w) k0 (newK kind []) (q0.mv u0) d0 (18+72*0) ⟨xb,none,0,none,0⟩ stoN (some (p0,c0)) :=
    ⟨hE.weak fun M w h=>h.1.1.1,fun M w h=>h.1.1.2,fun M w h=>⟨Sl.nil,Sl.nil⟩,fun p c e M w h=>(by cases e;exact h.2),hq1,(hk0.weak fun M w h=>h.1).of hkp0 u0,hkq,new_i kind [],new_s18 kind,rfl,rfl,rfl,fun M w h=>h.1.1.1⟩
  clear cx hkp0 hl0 hP0 hpr0 hst0 hd0 he0 hfine0
  refine exI_mk (fun p c n R' Φ' m=>∃ (i:Nat) (co:Option (CoP × CoS)) (q:DkP) (d:DsS) (k:KP) (s:SkD) (y:StoP) (x:StoS),n=i∧i+m=l.length∧p=coP co∧R'=layJ co q d k s y x R∧OnB Φ0 q0.db k0.sb xb Φ' k s q d (18+72*i) y x co∧CoJ d (coC co) s x c) ⟨⟨_,_,l.length,st0,fun w G cx=>fol_out (cx.re (by simp;exact ⟨rfl,rfl⟩)),0,some (p0,c0),q0.mv u0,d0,k0,newK kind [],⟨xb,none,0,none,0⟩,stoN,rfl,by omega,rfl,rfl,B0,J0⟩,?_⟩
  clear B0 J0 st0 hk0 hq1 hkq hq0
  rintro pp stopped n R1 Ψ m st ⟨i,co,q,d,k,s,y,x,rfl,him,rfl,rfl,H,J⟩
  refine Br.intro (fun hlt=>?_) (fun hge=>?_)
  · have hlt:i<l.length:=by have:=of_decide_eq_true hlt;omega
    obtain ⟨m,rfl⟩:∃ m',m=m'+1:=⟨m - 1,by omega⟩
    refine ⟨⟨by omega,by omega⟩,ptrK_intro b oo (hpb (by omega)) fun w G cx=>?_⟩
    have hp1:=hpin _ _ (H.dn _ _ cx.phi)
    obtain ⟨zp,zc,zq,ze,he,hz1,hz2,hz3,_,_⟩:=opc_pin hp1 hlt
    have hsl:=fun M w (h:Φ0 M w)=>opc_sl (hpin M w h) hlt he
    refine ⟨_,_,_,_,_,_,_,_,_,_,_,by rw [Int.toNat_natCast];exact opc_row hp1 hlt he,fun _=>?_⟩
    obtain ⟨gz1,gz2,gz3,gz4⟩:=hall _ (List.getElem_mem hlt)
    have zw:=line_wS (hsl _ _ (H.dn _ _ cx.phi)).1
    obtain ⟨z,hz⟩:∃ z,l[i]=z:=⟨_,rfl⟩
    rw [hz] at hz1 hz2 hz3 gz1 gz2 gz3 gz4 zw
    simp only [hz] at hsl
    rw [hz]
    clear hp1 he cx
    have hst:=steps_le z
    have hi2:i≤39:=by omega
    refine exI_mk (fun p c n R' Φ' m=>∃ (j:Nat) (co:Option (CoP × CoS)) (q:DkP) (d:DsS) (k:KP) (s:SkD) (y:StoP) (x:StoS),n=j∧j+m=4∧(j:Int)≤(if z.kind=10 then 4 else 1)∧p=coP co∧R'=layJ co q d k s y x R∧OnB Φ0 q0.db k0.sb xb Φ' k s q d (18+72*i+18*j) y x co∧CoJ d (coC co) s x c) ⟨⟨_,Ψ,4,st,fun w G cx=>cx,0,co,q,d,k,s,y,x,rfl,rfl,by omega,rfl,rfl,H,J⟩,?_⟩
    clear H J st
    rintro pp stopped n R1 Ψ m2 st ⟨j,co,q,d,k,s,y,x,rfl,hjm,hj,rfl,rfl,H,J⟩
    refine fun w G cx=>(steps_in (o:=z) (lp:=zp) (lc:=zc) (kp:=zq) (kc:=ze)).toI cx (Br.intro (fun hlt2=>?_) (fun hge2=>?_))
    rotate_left 1
    · exact ⟨by unfold I64;omega,_,Ψ,m,st,fun w G cx=>cx,⟨i+1,co,q,d,k,s,y,x,by omega,by omega,rfl,rfl,H.more (by omega),J⟩,Nat.lt_succ_self _⟩
    have hlt2:=of_decide_eq_true hlt2
    obtain ⟨m2,rfl⟩:∃ m',m2=m'+1:=⟨m2 - 1,by omega⟩
    clear cx
    obtain ⟨n1,hn1⟩:∃ n1,18+72*i+18*j=n1:=⟨_,rfl⟩
    have hn1b:18≤n1∧n1≤20000:=by omega
    rw [hn1] at H
    refine exI_mk (fun p c R' Φ'=>∃ (co:Option (CoP × CoS)) (q:DkP) (d:DsS) (k:KP) (s:SkD) (y:StoP) (x:StoS),p=coP co∧R'=layJ co q d k s y x R∧OnB Φ0 q0.db k0.sb xb Φ' k s q d (n1+18) y x co∧CoJ d (coC co) s x c) ⟨?_,?_⟩
    rotate_left 1
    · rintro pp stopped R1 Ψ st ⟨co,q,d,k,s,y,x,rfl,rfl,H,J⟩
      exact ⟨by unfold I64;omega,_,Ψ,m2,st,fun w G cx=>cx,⟨j+1,co,q,d,k,s,y,x,by omega,by omega,by omega,rfl,rfl,H.more (by omega),J⟩,Nat.lt_succ_self _⟩
    refine exI_mk (fun p c R' Φ'=>∃ (co:Option (CoP × CoS)) (q:DkP) (d:DsS) (k:KP) (s:SkD) (y:StoP) (x x':StoS),p=coP co∧R'=layJ co q d k s y x R∧OnB Φ0 q0.db k0.sb xb Φ' k s q d (n1+18) y x co∧fitsS x s=some x'∧CoJ d (coC co) s x' c) ⟨?_,?_⟩
    rotate_left 1
    · -- what is looked at after each step
      clear H J st
      rintro pp stopped R1 Ψ st ⟨co,q,d,k,s,y,x,x',rfl,rfl,H,hfit,J⟩
      refine fun w G cx=>FitsB H (by omega) hfit cx (fun y Ψ st H=>Br.intro (fun h=>by cases h) (fun _=>?_))
      cases co with
      | none=>exact Br.intro (fun _=>⟨_,Ψ,st,fun w G cx=>cx,none,q,d,k,s,y,x',rfl,rfl,H,J⟩) (fun h=>by cases h)
      | some pc =>
        obtain ⟨p,c⟩:=pc
        have says:=(J.co c rfl).says
        have fin:=(⟨_,Ψ,st,fun w G cx=>cx,some (p,c),q,d,k,s,y,x',rfl,rfl,H,J⟩:∃ R' Φ',Stable Φ'∧(∀ w G,Ctx W w (layJ (some (p,c)) q d k s y x' R++G) Ψ→Ctx W w (R'++G) Φ')∧∃ (co:Option (CoP × CoS)) (q:DkP) (d:DsS) (k:KP) (s:SkD) (y:StoP) (x:StoS),some (Addr.mk p.cb 0 none)=coP co∧R'=layJ co q d k s y x R∧OnB Φ0 q0.db k0.sb xb Φ' k s q d (n1+18) y x co∧CoJ d (coC co) s x stopped)
        have two:Br (decide (c.now.phase=2)) (∀ w G,Ctx W w (layJ (some (p,c)) q d k s y x' R++G) Ψ→∃ b:Bool,w.cell? (Addr.mk xb 6 none)=some (.bool b)∧Br (!b) (∀ w G,Ctx W w (layJ (some (p,c)) q d k s y x' R++G) Ψ→Value.bool false=.bool true∧Ctx W w R Φ) (∃ R' Φ',Stable Φ'∧(∀ w G,Ctx W w (layJ (some (p,c)) q d k s y x' R++G) Ψ→Ctx W w (R'++G) Φ')∧∃ (co:Option (CoP × CoS)) (q:DkP) (d:DsS) (k:KP) (s:SkD) (y:StoP) (x:StoS),some (Addr.mk p.cb 0 none)=coP co∧R'=layJ co q d k s y x R∧OnB Φ0 q0.db k0.sb xb Φ' k s q d (n1+18) y x co∧CoJ d (coC co) s x stopped)) (∃ R' Φ',Stable Φ'∧(∀ w G,Ctx W w (layJ (some (p,c)) q d k s y x' R++G) Ψ→Ctx W w (R'++G) Φ')∧∃ (co:Option (CoP × CoS)) (q:DkP) (d:DsS) (k:KP) (s:SkD) (y:StoP) (x:StoS),some (Addr.mk p.cb 0 none)=coP co∧R'=layJ co q d k s y x R∧OnB Φ0 q0.db k0.sb xb Φ' k s q d (n1+18) y x co∧CoJ d (coC co) s x stopped):=by
          refine Br.intro (fun h2=>fun w G cx=>⟨x'.decided,?_,Br.intro (fun h=>?_) (fun _=>fin)⟩) (fun _=>fin)
          · have cx2:=fol_in cx
            have:=cx2.get 0 rfl (b:=y.xb) (i:=6) (v:=.bool x'.decided) rfl
            rw [H.xb] at this
            exact this
          · rw [says.2 (of_decide_eq_true h2)] at h;cases h
        refine Br.intro (fun h=>by cases h) (fun _=>?_)
        refine fun w G cx=>PhaseS_use (q:=q) rfl cx ⟨_,Ψ,st,fun w G cx=>cx,Br.intro (fun h0=>⟨x'.check,fun w G cx=>?_,fun w G cx=>?_⟩) (fun _=>fun w G cx=>PhaseS_use (q:=q) rfl cx two)⟩
        · have cx2:=fol_in cx
          have:=cx2.get 0 rfl (b:=y.xb) (i:=2) (v:=.string x'.check) rfl
          rw [H.xb] at this
          exact ⟨_,this,rfl⟩
        · refine CheckS_use (q:=q) rfl cx ⟨fun w G cx=>cx,Br.intro (fun h=>?_) (fun _=>fun w G cx=>PhaseS_use (q:=q) rfl cx two)⟩
          have h0:=of_decide_eq_true h0
          exact absurd (by unfold checkC;rw [if_neg (by omega)];exact says.1 h0) (of_decide_eq_true h)
    refine Br.intro (fun h6=>Br.intro (fun _=>?C1) (fun h=>absurd (of_decide_eq_true h6) (of_decide_eq_false h))) (fun h6=>Br.intro (fun h7=>?C2) (fun h7=>Br.intro (fun h8=>?lose) (fun h8=>Br.intro (fun h9=>?arm) (fun h9=>?rest))))
    case lose=>exact fun w G cx=>LoseB H hz3 cx (fun H=>⟨_,Ψ,st,fun w G cx=>cx,co,q,_,k,s,y,x,x,rfl,rfl,H.more (by omega),J.same,J.frame H.hq.w rfl⟩)
    case arm=>exact fun w G cx=>ArmB H hz3 rfl (by omega) (fun M w h=>(hsl M w (H.dn M w h)).2) cx (fun q' Ψ' st' hΨ' H=>⟨_,Ψ',st',fun w G cx=>cx,co,q',_,k,s,y,x,x,rfl,rfl,H.more (by omega),J.same,J.frame H.hq.w rfl⟩)
    case C1|C2 =>
      refine exI_mk (fun R' Φ'=>∃ (q:DkP) (d:DsS),R'=layJ none q d k s y x R∧OnB Φ0 q0.db k0.sb xb Φ' k s q d n1 y x none∧CoD d s x) ⟨?_,?_⟩
      · exact Br.intro (fun _=>fun w G cx=>CrashB H rfl (by omega) (fun M w h=>(hsl M w (H.dn M w h)).2) cx (fun q' H=>⟨_,Ψ,st,fun w G cx=>cx,q',_,rfl,H,J.disk.crash z.keep⟩)) (fun _=>⟨_,Ψ,st,fun w G cx=>lay_drop cx,q,d,rfl,H.none,J.disk⟩)
      · clear H J st
        rintro R1 Ψ st ⟨q,d,rfl,H,J⟩
        refine fun w G cx=>StartB H cx (fun H=>fun w G cx=>OpenB H (J.frame H.hq.w rfl) cx (fun q d' co er Ψ _ st H J h1 h2 h3=>?_))
        cases co with
        | none =>
          refine Br.intro (fun _=>fun w G cx=>(disky44_in (e:=er)).toB cx ?_) (fun h=>by cases h)
          rw [h1 rfl]
          exact Br.intro (fun h=>by cases h) (fun _=>⟨_,Ψ,st,fun w G cx=>cx,none,q,d',k,s,y,x,x,rfl,rfl,H.more (by omega),J.same,J⟩)
        | some pc=>exact Br.intro (fun h=>by cases h) (fun _=>⟨_,Ψ,st,fun w G cx=>cx,some pc,q,d',k,s,y,x,x,rfl,rfl,H.more (by omega),J.same,J⟩)
    case rest =>
    cases co with
    | none=>exact Br.intro (fun _=>⟨_,Ψ,st,fun w G cx=>cx,none,q,d,k,s,y,x,rfl,rfl,H.more (by omega),J⟩) (fun h=>by cases h)
    | some pc =>
    obtain ⟨p,c⟩:=pc
    refine Br.intro (fun h=>by cases h) (fun _=>?_)
    refine ⟨_,Ψ,st,fun w G cx=>cx,fun w G cx=>LastS_use (q:=q) rfl cx ⟨fun w G cx=>cx,fun w G cx=>?_⟩⟩
    refine (Batch_in (o:=z) (lp:=zp) (lc:=zc) (kp:=zq) (kc:=ze) (last:=c.now.last)).toI cx ⟨_,Ψ,st,fun w G cx=>cx,fun w G cx=>?_⟩
    have hln:=H.hs.lines
    refine SkLinesS_use (s:=s) H.sb (A:=CoO p q c) (B:=dkL q d) (S:=stoO y x :: R) cx ⟨fun w G cx=>cx,by unfold I64;omega,fun w G cx=>?_⟩
    have hrows:∀ y∈z.L,y.row.length≤1000000:=fun y hy=>by have:=gz4 y hy;omega
    refine (Lines_sl (lc:=zc) (kp:=zq) (kc:=ze) (fun M w h=>(hsl M w (H.dn M w h)).1) (batchC_64 (last:=c.now.last) hz2) (first:=(s.lines.length:Int)+1) (by omega) (by omega) hrows).to cx fun lp2 lc2 g1 g2 st2=>?_
    have H2:=H.weak (Ψ:=fun M w=>Ψ M w∧Sl M w lp2 (linesO z (batchC z c.now.last) ((s.lines.length:Int)+1))) fun M w h=>h.1
    refine ⟨_,_,st2,fun w G cx=>cx,fun w G cx=>(kindOf_in (o:=z) (lp:=zp) (lc:=zc) (kp:=zq) (kc:=ze) (j:=(j:Int))).toI cx ⟨fun w G cx=>cx,fun w G cx=>?_⟩⟩
    obtain ⟨kd,hkd⟩:∃ kd:Int,(if z.kind=10 then (j:Int) else z.kind)=kd:=⟨_,rfl⟩
    have hcall:=opX_call (kind:=kd) J hz2 hz3 (linesO_w (batchC_64 (last:=c.now.last) hz2) (f:=(s.lines.length:Int)+1) (by omega) gz3 zw) gz3 gz1
    obtain ⟨x',hx',J'⟩:=hcall.to
    have hw:=(J.co c rfl).w
    rw [hkd]
    refine DoesB H2 hw rfl (by omega) (fun M w h=>(hsl M w (H2.dn M w h)).1) gz3 hrows hz2 hz3 gz1 (m:=n1+18) J'.sk.i (opX_s H.hs hn1b.1 J.sk.arow hw.few) cx (fun q' p' k' Ψ' st' hΨ' hcb H=>?_)
    refine ⟨_,Ψ',st',fun w G cx=>cx,fun w G cx=>(kindOf_in (o:=z) (lp:=zp) (lc:=zc) (kp:=zq) (kc:=ze) (j:=(j:Int))).toI cx ⟨fun w G cx=>cx,fun w G cx=>?_⟩⟩
    rw [hkd]
    refine FollowB H rfl (fun M w h=>(hΨ' M w h).2) cx (fun y' H=>?_)
    have hpp:some (Addr.mk p.cb 0 none)=coP (some (p',(opX d c s z kd).2.1)):=by show some (Addr.mk p.cb 0 none)=some (Addr.mk p'.cb 0 none);rw [hcb]
    cases stopped with
    | true=>exact Br.intro (fun _=>⟨_,Ψ',st',fun w G cx=>cx,some (p',_),q',_,k',_,y',_,x',hpp,rfl,H,hx',J'⟩) (fun h=>by cases h)
    | false=>exact Br.intro (fun h=>by cases h) (fun _=>fun w G cx=>(disky44_in (e:=(opX d c s z kd).2.2.2)).toB cx ⟨_,Ψ',st',fun w G cx=>cx,some (p',_),q',_,k',_,y',_,x',hpp,rfl,H,hx',J'⟩)
  · have hn1:18+72*i≤20000:=by omega
    refine fun w G cx=>LoseB H (by unfold I64;omega) cx (fun H=>fun w G cx=>ArmB H (by unfold I64;omega) (l:=[]) rfl (Nat.zero_le _) (fun M w h=>Sl.nil) cx (fun q Ψ st hΨ H=>fun w G cx=>?_))
    have dh:DsH (startS (crashS (armS (loseS d 0) 0 []) keep)):=by
      unfold crashS
      split
      · exact ⟨rfl,rfl,rfl⟩
      · exact ⟨rfl,rfl,rfl⟩
    have J1:CoJ (armS (loseS d 0) 0 []) (coC co) s x stopped:=J.frame H.hq.w rfl
    refine AgainB H J1.disk dh rfl (by omega) (fun M w h=>hkeep M w (dn0 M w (H.dn M w h))) cx (fun q d' p c Ψ st H J dh=>?_)
    refine fun w G cx=>Br.intro (fun h=>absurd h (by simp)) (fun _=>fun w G cx=>?_)
    have hw:=(J.co c rfl).w
    obtain ⟨e1,e2,x',hx',hsk,hck,hsure⟩:=recover_end J dh
    refine RecoverB H hw rfl (by omega) hsk.i (recover_s H.hs (by omega) J.sk.arow hw.few) cx (fun q' p' k' Ψ st hcb H=>Br.intro (fun h=>absurd e1 (of_decide_eq_true h)) (fun _=>fun w G cx=>PhaseS_use (q:=q') hcb cx (Br.intro (fun h=>absurd e2 (of_decide_eq_true h)) (fun _=>fun w G cx=>FitsB H (by omega) hx' cx (fun y' Ψ st H=>Br.intro (fun h=>by cases h) (fun _=>⟨_,Ψ,st,fun w G cx=>cx,Br.intro (fun _=>?_) (fun h=>by cases h)⟩))))))
    have cell:∀ {w:World} {G:List Own} (i:Nat) (v:Value),(stoB y' x')[i]? = some v→Ctx W w (layJ (some (p',(recoverC d' c s).2.1)) q' (recoverC d' c s).1 k' (recoverC d' c s).2.2.1 y' x' R++G) Ψ→w.cell? (Addr.mk xb i none)=some v:=fun {w G} i v hv cx=>by
      have:=(fol_in cx).get 0 rfl (b:=y'.xb) (i:=i) (v:=v) hv
      rw [H.xb] at this
      exact this
    have hcc:checkC (recoverC d' c s).2.1=x'.check:=by unfold checkC;rw [if_neg (by omega)];exact hck
    refine ⟨x'.check,fun w G cx=>⟨_,cell 2 _ rfl cx,rfl⟩,fun w G cx=>CheckS_use (q:=q') hcb cx ⟨fun w G cx=>cx,_,Ψ,st,fun w G cx=>cx,?_⟩⟩
    rw [hcc]
    refine Br.intro (fun _=>⟨x'.sure,fun w G cx=>⟨_,cell 7 _ rfl cx,rfl⟩,Br.intro (fun _=>fun w G cx=>⟨rfl,(lay_end H cx).weak dn0⟩) (fun h=>⟨x'.batch,fun w G cx=>⟨_,cell 3 _ rfl cx,rfl⟩,fun w G cx=>?_⟩)⟩) (fun h=>absurd rfl (of_decide_eq_false h))
    refine SkLastS_use (s:=(recoverC d' c s).2.2.1) H.sb H.hkq (A:=CoO p' q' (recoverC d' c s).2.1) (B:=dkL q' (recoverC d' c s).1) (S:=stoO y' x' :: R) cx ⟨fun w G cx=>cx,fun w G cx=>⟨?_,(lay_end H cx).weak dn0⟩⟩
    have hs1:x'.sure=true:=by simpa using h
    rw [hsk.last,hsure hs1,decide_eq_true rfl]
end
end Go.Proofs.YtfccagphnfceiaaGreatDoor
end

section
namespace Go.Proofs.YtfccagphnfceiaaGreatDoor
open Go.Vc Go.RowKit
theorem la_row (u:TypeId) (h:Tryz.prog.typeName? 3 u=some "*errors.errorString"):u=240 :=
  typeName_ptr_named (nm := "errors.errorString") (by rw [show "*" ++ "errors.errorString" = "*errors.errorString" by decide];kernel_rfl) (by kernel_rfl) (by decide) u (by rw [show "*" ++ "errors.errorString" = "*errors.errorString" by decide];exact h)
theorem la_err {n:String} {text:List UInt8} {r:List (String × DataW Unit)} {W:World} {g:Nat} (h:laidMet Tryz.prog ((n,.iface "*errors.errorString" (.ptr (.agg [.lit (.string text)]))) :: r) W)
    (hg:Tryz.prog.globalNamed n=some g) (ht:(Tryz.prog.globals[g]?).map (·.type)=some 167):ErrAt g [] W:=by
  obtain ⟨a,s,hv,_⟩:=laid_sentinel h hg ht Tryz.underlying167 la_row Tryz.underlying240 Tryz.underlying242 rfl rfl Tryz.underlying9 (by kernel_rfl) (by kernel_rfl)
  exact ⟨by simp,_,by have h0:=World.var?_cell hg hv 0;simpa using h0,.inr ⟨_,_,rfl⟩⟩
abbrev LaidI:PW:=fun M w=>NumI M w∧OffI M w
theorem la_num {W:World} (h:laidMetH Tryz.prog Rows.commitAnywhereRow.laid W):LaidI [] W:=by
  rw [MakeChecks.laidMetH_plain Tryz.prog Rows.commitAnywhereRow.laid W (by kernel_rfl)] at h
  have h2:=h.tail.tail
  exact ⟨⟨Tab.start (Lib.tabIs_of_head (k:=.u64) (zs:=Lib.pow10Tab) (g:=1) (t:=229) (e:=216) (n:=20) (by kernel_rfl) (by kernel_rfl) (by kernel_rfl) (by kernel_rfl) (by kernel_rfl) (by kernel_rfl) h2),
    la_err h2.tail.tail.tail (by kernel_rfl) (by kernel_rfl),la_err h2.tail.tail (by kernel_rfl) (by kernel_rfl)⟩,
    Tab.start (Lib.tabIs_of_head (k:=.i64) (zs:=[0,64,131072]) (g:=0) (t:=123) (e:=3) (n:=3) (by kernel_rfl) (by kernel_rfl) (by kernel_rfl) (by kernel_rfl) (by kernel_rfl) (by kernel_rfl) h2.tail)⟩
end Go.Proofs.YtfccagphnfceiaaGreatDoor
end

section
namespace Go.Proofs.YtfccagphnfceiaaGreatDoor
open Go.ChangeShapes Go.WideShapes Go.ChangeAt Go.RowKit Go.Vc
theorem df_own:ownKnob Tryz.prog.godebug=none:=by kernel_rfl
theorem df_laid:laidOutB Tryz.prog=true:=by kernel_rfl
theorem trodAll_n {H:Type} {enc:TypeId × Value→H} {P:Program} {w:World} {base:Nat} {spare:Nat→Bool} {held:Bool} {t0 t1 t2:TypeId} {args:Array Value} {ds:List (DataW H)} {ps:List MemPlace} (h:DataW.TrodAll enc P w base spare held [t0,t1,t2] args.toList ds ps) :
    ∃ v0 v1 v2 d0 d1 d2 p0 p1 p2,args=#[v0,v1,v2]∧ds=[d0,d1,d2]∧ps=p0++p1++p2∧DataW.Trod enc P w base spare held t0 v0 d0 p0∧DataW.Trod enc P w base spare held t1 v1 d1 p1∧DataW.Trod enc P w base spare held t2 v2 d2 p2:=by
  obtain ⟨v0,vs0,d0,ds0,p0,q0,hargs,rfl,rfl,h0,h⟩:=trodAll_cons h
  obtain ⟨v1,vs1,d1,ds1,p1,q1,rfl,rfl,rfl,h1,h⟩:=trodAll_cons h
  obtain ⟨v2,vs2,d2,ds2,p2,q2,rfl,rfl,rfl,h2,h⟩:=trodAll_cons h
  obtain ⟨rfl,rfl,rfl⟩:=trodAll_nil h
  exact ⟨v0,v1,v2,d0,d1,d2,p0,p1,p2,by cases args;simp_all,rfl,by simp,h0,h1,h2⟩
theorem door_met (os:Os) (args:Array Value):laidMetH Tryz.prog Rows.commitOnceRow.laid ((World.doorLaid Tryz.prog 400 os).forCall (fun _ _=>0) ⟨#[],args,[]⟩).memory :=
  laidMetH_of_parts3 (fuel:=8) (laidMet_of_run' 8 (by kernel_rfl) (by kernel_rfl)) (by kernel_rfl) (by kernel_rfl)
set_option maxRecDepth 100000 in
theorem law_lifted (os:Os) (started:os.Started) (H:Type) (enc:TypeId × Value→H) :
    ReturnsInHanded {} Tryz.checked os 4 .any (fun w args=>(Rows.commitOnceSpec.pre enc Tryz.prog Tryz.f4 Rows.commitOnceRow.domain false w args∧laidMetH Tryz.prog Rows.commitOnceRow.laid w)∧sizedMet enc Tryz.prog Tryz.f4 (OpenSpec.ofChange Rows.commitOnceSpec) false w args) (Rows.commitOnceSpec.post enc Tryz.prog Tryz.f4 false true false false):=by
  refine lawTrueLaid (C:=Tryz.checked) (tb:=4) df_own started (by kernel_rfl) Tryz.func4 df_laid rfl ?_ rfl Tryz.underlying4 (by kernel_rfl)
    (ChangeSpec.witness_shaped (enc:=enc) (C:=Tryz.checked) (os:=os) (X:=fun w _=>laidMetH Tryz.prog Rows.commitOnceRow.laid w) false (World.doorLaid Tryz.prog 400 os) #[.int .i64 0,.slice none 0 0,.slice none 0 0] 8 rfl (World.shaped_of_RefB (by kernel_rfl) (by kernel_rfl)) (by kernel_rfl) (by kernel_rfl) (by kernel_rfl) (door_met os _)) ?_
  · intro ds hd
    match ds,hd with
    | [_,_,_],_=>exact ⟨rfl,rfl,rfl⟩
  · intro W base args ds p hval0 hA0 _ hL
    have hval:∀ (j:Nat) t v,Tryz.f4.params[j]? = some t→args[j]? = some v→Value.okWide Tryz.prog W .any base t v:=hval0
    have hA:DataW.TrodAll enc Tryz.prog W 0 (fun _=>true) true Tryz.f4.params.toList args.toList ds p:=hA0
    rw [Tryz.params4] at hA hval
    obtain ⟨v0,v1,v2,d0,d1,d2,p0,p1,p2,rfl,rfl,rfl,h0,h1,h2⟩:=trodAll_n hA
    obtain ⟨kind,rfl,rfl,rfl,kindw⟩:=open_int Tryz.underlying3 (hval 0 3 v0 rfl rfl) h0
    obtain ⟨lp,lc,l,rfl,la,lb,s1⟩:=open_sl (α:=OpC) 12 Tryz.underlying28 (hval 1 28 v1 rfl rfl) (by kernel_rfl) h1
    obtain ⟨keepp,keepc,keep,rfl,keepa,keepb,s2⟩:=open_sl (α:=Int) 12 Tryz.underlying23 (hval 2 23 v2 rfl rfl) (by kernel_rfl) h2
    have st0:Stable (fun M w=>Sl M w keepp keep):=inferInstance
    have st1:Stable (fun M w=>Sl M w lp l∧Sl M w keepp keep):=instStableAnd (fun M w=>Sl M w lp l) (fun M w=>Sl M w keepp keep)
    have st2:Stable (fun M w=>LaidI M w∧Sl M w lp l∧Sl M w keepp keep):=instStableAnd (fun M w=>LaidI M w) (fun M w=>Sl M w lp l∧Sl M w keepp keep)
    have fin:GivesIn (fun M w=>LaidI M w∧Sl M w lp l∧Sl M w keepp keep) Tryz.prog 4 _ (.bool true):=Once_in (Φ:=(fun M w=>LaidI M w∧Sl M w lp l∧Sl M w keepp keep)) ⟨fun _ _ h=>h.1.1,fun _ _ h=>h.1.2⟩ (kind:=kind) (lp:=lp) (lc:=lc) (l:=l) (kp:=keepp) (kc:=keepc) (keep:=keep) (fun _ _ h=>h.2.1) (fun _ _ h=>h.2.2) (by unfold maxLen at *;omega)
    exact fin.law ⟨la_num hL,s1,s2⟩
theorem row_holds:Rows.CommitOnceSaid :=
  OpenClaim.holds_of_wide 4 Tryz.f4 rfl rfl rfl rfl rfl rfl rfl ⟨rfl,rfl,rfl,rfl,rfl⟩ rfl rfl rfl rfl rfl (by kernel_rfl) Tryz.func4 (by kernel_rfl)
    (of_decide_eq_true (by kernel_rfl)) (by unfold Func.isWrapper;first|(rw [if_pos (by decide +kernel)];kernel_rfl)|(rw [if_neg (by decide +kernel)];exact ⟨rfl,rfl⟩))
    (fun os started H enc _=>law_lifted os started H enc)
theorem once_holds:Rows.CommitOnceCardSaid :=
  Claim7.holds_tied_plain_at .later [] [.data,.data,.data,.data,.sentinel,.sentinel] true Rows.commitOnceCard.stood.harness true
    row_holds (fun _ h=>by cases h) (by kernel_rfl) (fun _ h=>by cases h) commitOnce_row_tie rfl ⟨rfl,rfl⟩ (by kernel_rfl) rfl
    (fun f fn hf hfn=>by
      obtain rfl:f=4:=Option.some.inj ((show Tryz.prog.funcNamed Rows.commitOnceRow.func=some 4 by kernel_rfl).symm.trans hf) |>.symm
      obtain rfl:fn=Tryz.f4:=(Option.some.inj (Tryz.func4.symm.trans hfn)).symm
      exact ⟨by kernel_rfl,fun j t ht=>by
        rw [Tryz.params4] at ht
        have hm:=Array.mem_of_getElem? ht
        have hall:((Tryz.f4.params.toList).all fun u => !Tryz.prog.wantsStandIn u)=true:=by kernel_rfl
        rw [Tryz.params4] at hall
        exact (show Tryz.prog.wantsStandIn t=false by simpa using List.all_eq_true.1 hall t (by simpa using hm))⟩)
    (by kernel_rfl)
end Go.Proofs.YtfccagphnfceiaaGreatDoor
end

