/-
  For every input erratalaw44.CommitAnywhere returns true,does not panic,comes to an end,and leaves what came in as it was; the variables that its row lists are as the program's text lays them.
  Conditions: none beyond the given statement's own (CommitAnywhereCardSaid).
-/
import Derived.Test.YtfccagphnfceiaaGreatDoorCAn10
import Derived.Test.YtfccagphnfceiaaGreatDoorCAn9
import Derived.Test.YtfccagphnfceiaaGreatDoorCards
import Derived.MakeChecks
import Derived.Stop.LaidErr
import Derived.Lib.LaidTab
import Derived.Test.YtfccagphnfceiaaGreatDoorTie
import Derived.SevenTiedAt
import Derived.LaidMore
import Derived.ChangeMaps5
import Derived.Test.YtfccagphnfceiaaGreatDoorRows

set_option linter.unusedVariables false
set_option linter.unusedSimpArgs false
section
namespace Go.Proofs.YtfccagphnfceiaaGreatDoor
open Go.Vc
theorem setC_keepC (d:DsS) (c:CelS) (s:Bs):(setC d c s).1.keep=d.keep:=by
  have h2:∀ (d:DsS) (c:CelS) (sl:Nat),(setC2 d c s sl).1.keep=d.keep:=fun d c sl=>by
    unfold setC2
    split
    · exact write_keep _ _ _ _
    split
    · exact (sync_keep _ _).trans (write_keep _ _ _ _)
    split
    · exact (write_keep _ _ _ _).trans ((sync_keep _ _).trans (write_keep _ _ _ _))
    · exact (sync_keep _ _).trans ((write_keep _ _ _ _).trans ((sync_keep _ _).trans (write_keep _ _ _ _)))
  unfold setC
  split
  · rfl
  split
  · split
    · exact sync_keep _ _
    · exact (h2 _ _ _).trans (sync_keep _ _)
  · exact h2 _ _ _
theorem noteC_keep (d:DsS) (c:CoS) (x:StC):(noteC d c x).1.keep=d.keep:=by
  unfold noteC
  simp only
  split
  · exact setC_keepC _ _ _
  · exact setC_keepC _ _ _
theorem stepK_keep (d:DsS) (c:CoS) (ph:Int) (r:StC × Int):(stepK d c ph r).1.keep=d.keep:=by
  unfold stepK
  split
  · rfl
  split
  · rfl
  split
  · rfl
  · exact noteC_keep _ _ _
theorem finishC_keep (d:DsS) (c:CoS) (s:SkD):(finishC d c s).1.keep=d.keep:=by
  unfold finishC
  split
  · rfl
  split
  · rfl
  · exact stepK_keep _ _ _ _
theorem abortC_keep (d:DsS) (c:CoS) (s:SkD):(abortC d c s).1.keep=d.keep:=by
  unfold abortC
  split
  · rfl
  split
  · rfl
  · exact stepK_keep _ _ _ _
theorem recoverC_keep (d:DsS) (c:CoS) (s:SkD):(recoverC d c s).1.keep=d.keep:=by
  unfold recoverC
  split
  · rfl
  split
  · exact abortC_keep _ _ _
  split
  · exact finishC_keep _ _ _
  · rfl
theorem opX_keep (d:DsS) (c:CoS) (s:SkD) (o:OpC) (kind:Int):(opX d c s o kind).1.keep=d.keep:=by
  unfold opX
  split
  · exact stepK_keep _ _ _ _
  split
  · rfl
  split
  · exact stepK_keep _ _ _ _
  split
  · exact finishC_keep _ _ _
  split
  · exact abortC_keep _ _ _
  split
  · exact recoverC_keep _ _ _
  · rfl
structure CoH (Φ:PW) (k:KP) (s:SkD) (p:CoP) (q:DkP) (d:DsS) (c:CoS) (n:Nat):Prop where
  E:CE Φ
  hS:∀ M w,Φ M w→SkF k s M w
  hC:∀ M w,Φ M w→CoF p c M w
  hq:DkQ q d
  hk:DkK Φ q d
  hw:StW c.now
  hkq:SkQ k s
  hI:SkI s
  hs:SkS s n
theorem CoH.next {Φ Φ':PW} {k k':KP} {s s':SkD} {p p':CoP} {q:DkP} {d d':DsS} {c c':CoS} {n n':Nat} {u:DkU} (h:CoH Φ k s p q d c n) (hΦ:∀ M w,Φ' M w→Φ M w∧(SkF k' s' M w∧CoF p' c' M w)) (hq:DkQ (q.mv u) d') (hkq:SkQ k' s') (hkp:d'.keep=d.keep) (hw:StW c'.now) (hI:SkI s') (hs:SkS s' n'):CoH Φ' k' s' p' (q.mv u) d' c' n' :=
  ⟨h.E.weak fun M w x=>(hΦ M w x).1,fun M w x=>(hΦ M w x).2.1,fun M w x=>(hΦ M w x).2.2,hq,(h.hk.weak fun M w x=>(hΦ M w x).1).of hkp u,hw,hkq,hI,hs⟩
theorem SinkK.go {W:World} {Φ:PW} {k:KP} {p:CoP} {q:DkP} {S G:List Own} {d':DsS} {c':CoS} {s':SkD} {er:Int} {X:Int→List Own→PW→Prop}
    (h:∀ u p' k' Φ',p'.cb=p.cb∧p'.kb=p.kb→k'.sb=k.sb→DkQ (q.mv u) d'→SkQ k' s'→Stable Φ'→(∀ M w,Φ' M w→Φ M w∧(SkF k' s' M w∧CoF p' c' M w))→X er (CoO p' q c'++(dkL (q.mv u) d'++(SkO k' s'++S))) Φ') :
    SinkK W Φ k p q (S++G) (fun e w'=>∃ n,e=.returned (.int .i64 n)∧∃ R Φ',Stable Φ'∧Ctx W w' (R++G) Φ'∧X n R Φ') (d',c',s',er) :=
  fun u p' k' w' Φ' h1 h2 h3 h4 h5 h6 cx=>⟨_,rfl,_,Φ',h5,cx.re (by simp),h u p' k' Φ' h1 h2 h3 h4 h5 h6⟩
theorem lay1 {A B X S G:List Own}:(A++(B++(X++S)))++G=A++(B++(X++(S++G))):=by simp
section
variable {W w:World} {S R G:List Own} {Φ:PW} {k:KP} {s:SkD} {p:CoP} {q:DkP} {d:DsS} {c:CoS} {n:Nat}
variable {cb sb:Nat} {r:DsS × CoS × SkD × Int}
theorem BeginS_use [Stable Φ] (H:CoH Φ k s p q d c n) (hcb:p.cb=cb) {batch mark:Int} {lp:Option Addr} {lc:Nat} {lines:List LineD} {next:ByteArray} (hL:∀ M w,Φ M w→Sl M w lp lines) (hlen:lines.length≤1000000) (hb:I64 batch) (hm:I64 mark) (hnx:next.size≤1000000000) {ln:Nat} (hln:lines.length=ln)
    (hr:((beginC d c batch mark lines next).1,(beginC d c batch mark lines next).2.1,s,(beginC d c batch mark lines next).2.2)=r)
    (cx:Ctx W w (CoO p q c++(dkL q d++(SkO k s++S))) Φ) {K:Ending→World→Prop} (hK:SinkK W Φ k p q S K r) :
    Calls Tryz.prog F.commit_Coordinator_Begin #[.pointer (some ⟨cb,0,none⟩),.int .i64 batch,.int .i64 mark,.slice lp ln lc,.string next] w K:=by
  subst hln hcb hr
  exact Begin_use (p:=p) (q:=q) (c:=c) (d:=d) H.E H.hC H.hq H.hk H.hw hL hlen hb hm hnx cx fun u p' w hp hq2 cx=>hK u p' k w _ hp rfl hq2 H.hkq inferInstance (fun M w h=>⟨h.1,H.hS M w h.1,h.2⟩) cx
theorem PrepS_use [Stable Φ] (H:CoH Φ k s p q d c n) (hcb:p.cb=cb) (hsb:k.sb=sb) (hn:n≤300000) (hr:(d,(prepareC c s).1,(prepareC c s).2.1,(prepareC c s).2.2)=r) (cx:Ctx W w (CoO p q c++(dkL q d++(SkO k s++S))) Φ) {K:Ending→World→Prop} (hK:SinkK W Φ k p q S K r) :
    Calls Tryz.prog F.commit_Coordinator_Prepare #[.pointer (some ⟨cb,0,none⟩),.pointer (some ⟨sb,0,none⟩)] w K:=by
  subst hcb hsb hr
  have hS:Has Φ (SkF k s):=⟨H.hS⟩
  have hC:Has Φ (CoF p c):=⟨H.hC⟩
  have cx2:Ctx W w ((SkO k s++(CoO p q c++(dkL q d++S)))++[]) Φ:=sk_in (cx.re (by simp))
  refine Prep_use (p:=p) (q:=q) (c:=c) (k:=k) (s:=s) (S:=dkL q d++S) H.hkq H.hI H.hs (by omega) (by have:=H.hw.few; omega) (cx2.re (by simp)) fun k' w Φ' hsb hkq' st hΦ' cx => ?_
  have hlines : (prepareC c s).1.now = c.now := by unfold prepareC; split; · rfl
                                                   split; · rfl
                                                   rfl
  exact hK q.un p k' w Φ' ⟨rfl,rfl⟩ hsb H.hq hkq' st (fun M w h=>⟨(hΦ' M w h).1,(hΦ' M w h).2,by show Sl M w p.lp (prepareC c s).1.now.lines; rw [hlines]; exact H.hC M w (hΦ' M w h).1⟩) (Ctx.re (sk_out (A:=CoO p q (prepareC c s).1) (B:=dkL q d) (X:=SkO k' (prepareC c s).2.1) (S:=S) (G:=[]) (cx.re (by simp))) (by simp; rfl))
theorem DecideS_use [Stable Φ] (H:CoH Φ k s p q d c n) (hcb:p.cb=cb) (hr:((decideC d c).1,(decideC d c).2.1,s,(decideC d c).2.2)=r) (cx:Ctx W w (CoO p q c++(dkL q d++(SkO k s++S))) Φ) {K:Ending→World→Prop} (hK:SinkK W Φ k p q S K r) :
    Calls Tryz.prog F.commit_Coordinator_Decide #[.pointer (some ⟨cb,0,none⟩)] w K:=by
  subst hcb hr
  exact Decide_use (p:=p) (q:=q) (c:=c) (d:=d) H.E H.hC H.hq H.hk H.hw cx fun u p' w hp hq2 cx=>hK u p' k w _ hp rfl hq2 H.hkq inferInstance (fun M w h=>⟨h.1,H.hS M w h.1,h.2⟩) cx
theorem RecoverS_use [Stable Φ] (H:CoH Φ k s p q d c n) (hcb:p.cb=cb) (hsb:k.sb=sb) (hn:n≤300000) (hr:recoverC d c s=r) (cx:Ctx W w (CoO p q c++(dkL q d++(SkO k s++S))) Φ) {K:Ending→World→Prop} (hK:SinkK W Φ k p q S K r) :
    Calls Tryz.prog F.commit_Coordinator_Recover #[.pointer (some ⟨cb,0,none⟩),.pointer (some ⟨sb,0,none⟩)] w K:=by
  subst hcb hsb hr
  have hS:Has Φ (SkF k s):=⟨H.hS⟩
  have hC:Has Φ (CoF p c):=⟨H.hC⟩
  exact Recover_use (p:=p) (q:=q) (c:=c) (d:=d) (k:=k) (s:=s) H.E H.hq H.hk H.hw H.hkq H.hI H.hs hn cx hK
theorem DoesS_use [Stable Φ] (H:CoH Φ k s p q d c n) (hcb:p.cb=cb) (hsb:k.sb=sb) (hn:n≤300000) {o:OpC} {lp kp:Option Addr} {lc kc:Nat} (hL:∀ M w,Φ M w→Sl M w lp o.L) (h6:o.L.length≤6) (hrow:∀ x∈o.L,x.row.length≤1000000) (hb:I64 o.b) (hm:I64 o.n) (hnx:o.next.size≤50) {kind:Int} (hr:opX d c s o kind=r)
    (cx:Ctx W w (CoO p q c++(dkL q d++(SkO k s++S))) Φ) {K:Ending→World→Prop} (hK:SinkK W Φ k p q S K r) :
    Calls Tryz.prog F.erratalaw44_does #[.pointer (some ⟨cb,0,none⟩),.pointer (some ⟨sb,0,none⟩),o.v lp lc kp kc,.int .i64 kind] w K:=by
  subst hcb hsb hr
  have hS:Has Φ (SkF k s):=⟨H.hS⟩
  have hC:Has Φ (CoF p c):=⟨H.hC⟩
  exact Does_use (p:=p) (q:=q) (c:=c) (d:=d) (k:=k) (s:=s) H.E H.hq H.hk H.hw H.hkq H.hI H.hs hn hL h6 hrow hb hm hnx cx hK
theorem PhaseS_use [Stable Φ] (hcb:p.cb=cb) (cx:Ctx W w ((CoO p q c++S)++G) Φ) {X:Int→List Own→PW→Prop} (hX:X c.now.phase (CoO p q c++S) Φ) :
    Calls Tryz.prog F.commit_Coordinator_Phase #[.pointer (some ⟨cb,0,none⟩)] w fun e w'=>∃ n,e=.returned (.int .i64 n)∧∃ R' Φ',Stable Φ'∧Ctx W w' (R'++G) Φ'∧X n R' Φ':=by
  subst hcb
  exact (Phase_q (p:=p) (q:=q) (c:=c)).toI cx hX
theorem LastS_use [Stable Φ] (hcb:p.cb=cb) (cx:Ctx W w ((CoO p q c++S)++G) Φ) {X:Int→List Own→PW→Prop} (hX:X c.now.last (CoO p q c++S) Φ) :
    Calls Tryz.prog F.commit_Coordinator_Last #[.pointer (some ⟨cb,0,none⟩)] w fun e w'=>∃ n,e=.returned (.int .i64 n)∧∃ R' Φ',Stable Φ'∧Ctx W w' (R'++G) Φ'∧X n R' Φ':=by
  subst hcb
  exact (LastC_q (p:=p) (q:=q) (c:=c)).toI cx hX
theorem CheckS_use [Stable Φ] (hcb:p.cb=cb) (cx:Ctx W w ((CoO p q c++S)++G) Φ) {X:ByteArray→List Own→PW→Prop} (hX:X (checkC c) (CoO p q c++S) Φ) :
    Calls Tryz.prog F.commit_Coordinator_Check #[.pointer (some ⟨cb,0,none⟩)] w fun e w'=>∃ n,e=.returned (.string n)∧∃ R' Φ',Stable Φ'∧Ctx W w' (R'++G) Φ'∧X n R' Φ':=by
  subst hcb
  exact (Check_q (p:=p) (q:=q) (c:=c)).toS cx hX
theorem SkLastS_use [Stable Φ] (hsb:k.sb=sb) (hkq:SkQ k s) {A B:List Own} (cx:Ctx W w ((A++(B++(SkO k s++S)))++G) Φ) {X:Int→List Own→PW→Prop} (hX:X (lastK s) (A++(B++(SkO k s++S))) Φ) :
    Calls Tryz.prog F.sink_Sink_Last #[.pointer (some ⟨sb,0,none⟩)] w fun e w'=>∃ n,e=.returned (.int .i64 n)∧∃ R' Φ',Stable Φ'∧Ctx W w' (R'++G) Φ'∧X n R' Φ':=by
  subst hsb
  exact ((Last_q (st:=s) (q:=k) hkq).toI (sk_in cx) (K:=fun n R Φ=>n=lastK s∧R=SkO k s++(A++(B++S))∧Φ=_) ⟨rfl,rfl,rfl⟩).mono fun e w' ⟨m,he,R',Φ',st,cx,h1,h2,h3⟩=>⟨m,he,A++(B++(SkO k s++S)),Φ,inferInstance,by rw [h2,h3] at cx; exact sk_out cx,by rw [h1]; exact hX⟩
theorem SkLinesS_use [Stable Φ] (hsb:k.sb=sb) {A B:List Own} (cx:Ctx W w ((A++(B++(SkO k s++S)))++G) Φ) {X:Int→List Own→PW→Prop} (hX:X (s.lines.length:Int) (A++(B++(SkO k s++S))) Φ) :
    Calls Tryz.prog F.sink_Sink_Lines #[.pointer (some ⟨sb,0,none⟩)] w fun e w'=>∃ n,e=.returned (.int .i64 n)∧∃ R' Φ',Stable Φ'∧Ctx W w' (R'++G) Φ'∧X n R' Φ':=by
  subst hsb
  exact ((LinesN_q (st:=s) (q:=k)).toI (sk_in cx) (K:=fun n R Φ=>n=(s.lines.length:Int)∧R=SkO k s++(A++(B++S))∧Φ=_) ⟨rfl,rfl,rfl⟩).mono fun e w' ⟨m,he,R',Φ',st,cx,h1,h2,h3⟩=>⟨m,he,A++(B++(SkO k s++S)),Φ,inferInstance,by rw [h2,h3] at cx; exact sk_out cx,by rw [h1]; exact hX⟩
theorem SkListS_use [Stable Φ] (hS:∀ M w,Φ M w→SkF k s M w) (hsb:k.sb=sb) (hkq:SkQ k s) (hI:SkI s) (hs:SkS s n) (hn:n≤300000) {A B:List Own} (cx:Ctx W w ((A++(B++(SkO k s++S)))++G) Φ) {X:Option Addr→Nat→Nat→List Own→PW→Prop}
    (hX:∀ p c,Stable (fun M w=>Φ M w∧Sl M w p s.lines)→X p s.lines.length c (A++(B++(SkO k s++S))) (fun M w=>Φ M w∧Sl M w p s.lines)) :
    Calls Tryz.prog F.sink_Sink_List #[.pointer (some ⟨sb,0,none⟩)] w fun e w'=>∃ p n c,e=.returned (.slice p n c)∧∃ R' Φ',Stable Φ'∧Ctx W w' (R'++G) Φ'∧X p n c R' Φ':=by
  subst hsb
  have hF:Has Φ (SkF k s):=⟨hS⟩
  exact ((List_sl (st:=s) (q:=k) hkq hI hs (by omega)).go W w ((A++(B++S))++G) ((sk_in cx).re (by simp))).mono fun e w' ⟨p,cap,he,_,_,cx⟩=>⟨p,_,cap,he,A++(B++(SkO k s++S)),_,inferInstance,sk_out (cx.re (by simp)),hX p cap inferInstance⟩
structure FinC (d:DsS) (c:CoS) (x:StC):Prop where
  h:DsH d
  w:DsW d
  live:CLive d c
  now:c.now=x
  stop:c.stop=false
theorem FinC.wf {x:StC} (h:FinC d c x):StW x:=by rw [←h.now]; exact h.live.w
theorem FinC.fut {x:StC} (h:FinC d c x):CFut d fun y=>y=x:=h.live.fut h.now
theorem note_fine {x y:StC} (h:FinC d c y) (hx:StW x):∃ d' c',noteC d c x=(d',c',0)∧FinC d' c' x∧c'.prep=false∧d'.keep=d.keep:=by
  have hn:=noteC_out h.w h.live hx
  have h0:=(hn.fine h.h).2
  refine ⟨(noteC d c x).1,(noteC d c x).2.1,by rw [←h0],?_⟩
  rcases hn.or with ⟨_,g2,g3,g4,g5⟩ | ⟨g1,_⟩
  · exact ⟨⟨(hn.fine h.h).1,hn.w,g5,g2,g4⟩,g3,noteC_keep d c x⟩
  · rw [h0] at g1; omega
theorem begin_fine {y:StC} (h:FinC d c y) (hp:y.phase=0) {batch mark:Int} {lines:List LineD} {next:ByteArray} (hb:y.last < batch) (hbad:lines.any (badC batch)=false) (hx:StW ⟨y.last,1,y.check,batch,mark,next,lines⟩) :
    ∃ d' c',beginC d c batch mark lines next=(d',c',0)∧FinC d' c' ⟨y.last,1,y.check,batch,mark,next,lines⟩∧c'.prep=false∧d'.keep=d.keep:=by
  obtain ⟨d',c',e,hf⟩:=note_fine h hx
  refine ⟨d',c',?_,hf⟩
  have hb0:beginR c batch mark lines next=(⟨y.last,1,y.check,batch,mark,next,lines⟩,0):=by
    unfold beginR
    rw [h.now,if_neg (by omega),if_neg (by rw [hbad]; simp)]
  unfold beginC
  rw [hb0,stepK_out h.stop (by rw [h.now]; exact hp) rfl]
  exact e
theorem decide_fine {y:StC} (h:FinC d c y) (hp:y.phase=1) (hpr:c.prep=true):∃ d' c',decideC d c=(d',c',0)∧FinC d' c' { y with phase:=2 }∧c'.prep=false∧d'.keep=d.keep:=by
  have hw:=h.wf
  obtain ⟨d',c',e,hf⟩:=note_fine (x := { y with phase:=2 }) h ⟨hw.last,.inr (.inr rfl),hw.check,(fun h=>by cases h),fun _=>hw.batch (by rw [hp]; decide),hw.ints,hw.next,hw.line,hw.few⟩
  refine ⟨d',c',?_,hf⟩
  have hb0:decideR c=({ y with phase:=2 },0):=by
    unfold decideR
    rw [h.now,if_neg (by rw [hpr]; simp)]
  unfold decideC
  rw [hb0,stepK_out h.stop (by rw [h.now]; exact hp) rfl]
  exact e
theorem finish_fine {y:StC} (h:FinC d c y) (hp:y.phase=2) {s':SkD} (he:endR c s=(0,s')):∃ d' c',finishC d c s=(d',c',s',0)∧FinC d' c' (stI y.batch y.next)∧c'.prep=false∧d'.keep=d.keep:=by
  have hw:=h.wf
  obtain ⟨d',c',e,hf⟩:=note_fine (x:=stI y.batch y.next) h (stI_w (by have:=hw.last.1; have:=hw.batch (by rw [hp]; decide); omega) hw.ints.1 hw.next)
  refine ⟨d',c',?_,hf⟩
  unfold finishC
  rw [if_neg (by rw [h.stop]; simp),if_neg (by rw [h.now]; simp [hp])]
  simp only
  rw [he,stepK_out h.stop (by rw [h.now]; exact hp) rfl,h.now,e]
theorem abort_fine {y:StC} (h:FinC d c y) (hp:y.phase=1):∃ d' c',abortC d c s=(d',c',dropR c s,0)∧FinC d' c' (stI y.last y.check)∧c'.prep=false∧d'.keep=d.keep:=by
  have hw:=h.wf
  obtain ⟨d',c',e,hf⟩:=note_fine (x:=stI y.last y.check) h (stI_w hw.last.1 hw.last.2 hw.check)
  refine ⟨d',c',?_,hf⟩
  unfold abortC
  rw [if_neg (by rw [h.stop]; simp),if_neg (by rw [h.now]; simp [hp])]
  simp only
  rw [stepK_out h.stop (by rw [h.now]; exact hp) rfl,h.now,e]
end
end Go.Proofs.YtfccagphnfceiaaGreatDoor
end

section
namespace Go.Proofs.YtfccagphnfceiaaGreatDoor
open Go.Vc
theorem crash_fine {d:DsS} (h:DsH d) (keep:List Int):DsH (startS (crashS d keep)):=by
  unfold crashS
  rw [if_neg (by rw [h.1]; simp)]
  exact ⟨rfl,rfl,h.2.2⟩
abbrev c1B:ByteArray:=ByteArray.mk #[OfNat.ofNat 99,OfNat.ofNat 49]
abbrev c2B:ByteArray:=ByteArray.mk #[OfNat.ofNat 99,OfNat.ofNat 50]
theorem lineX_w {no b:Int} (h:I64 no∧I64 b):LineW (lineX no b):=⟨⟨h.1,h.2,by show I64 5; unfold I64; decide,by show I64 1; unfold I64; decide,by show I64 0; unfold I64; decide,by show I64 0; unfold I64; decide⟩,fun v hv=>by
  rw [List.mem_singleton.1 hv]
  exact ⟨⟨by show I64 0; unfold I64; decide,by show I64 7; unfold I64; decide⟩,by show (ByteArray.mk #[]).size≤200; decide⟩,by show 1≤12; decide⟩
theorem lineX_right (no b:Int):rightR (lineX no b).row=true:=by show rightR [⟨0,7,ByteArray.mk #[]⟩]=true; decide +kernel
abbrev xS1:StC:=⟨0,1,.empty,1,9,c1B,[lineX 1 1]⟩
abbrev xS5:StC:=⟨1,1,c1B,2,9,c2B,[lineX 2 2]⟩
theorem xS1_w:StW xS1:=⟨⟨by decide,by unfold I64; decide⟩,.inr (.inl rfl),by decide,(fun h=>by cases h),fun _=>by decide,⟨by unfold I64; decide,by unfold I64; decide⟩,by decide,fun y hy=>by
  rw [List.mem_singleton.1 hy]
  exact ⟨lineX_w ⟨by unfold I64; decide,by unfold I64; decide⟩,rfl,lineX_right 1 1⟩,by decide⟩
theorem xS5_w:StW xS5:=⟨⟨by decide,by unfold I64; decide⟩,.inr (.inl rfl),by decide,(fun h=>by cases h),fun _=>by decide,⟨by unfold I64; decide,by unfold I64; decide⟩,by decide,fun y hy=>by
  rw [List.mem_singleton.1 hy]
  exact ⟨lineX_w ⟨by unfold I64; decide,by unfold I64; decide⟩,rfl,lineX_right 2 2⟩,by decide⟩
abbrev sC0:SkD:=newK 2 []
abbrev sC1:SkD:=takeK sC0 1 [lineX 1 1]
theorem sC_look:lookK sC0 1 [lineX 1 1]=0:=by decide +kernel
theorem sC_deliv:delivK sC0 1 [lineX 1 1]=(0,sC1):=by
  unfold delivK
  rw [if_neg (by decide),if_neg (by decide),if_neg (by rw [sC_look]; decide)]
theorem sC1_i:SkI sC1:=take_i (new_i 2 []) (by decide) (by decide) (by unfold I64; decide) fun x hx=>by rw [List.mem_singleton.1 hx]; exact lineX_right 1 1
theorem sC0_s:SkS sC0 18:=⟨Nat.zero_le _,Nat.zero_le _,Nat.zero_le _,Nat.zero_le _⟩
theorem sC1_s:SkS sC1 36:=take_s18 sC0_s (by decide)
theorem bad_lineX (no b:Int):([lineX no b].any (badC b))=false:=by
  rw [List.any_cons,List.any_nil,Bool.or_false]
  unfold badC
  rw [lineX_right,decide_eq_false (by simp)]
  rfl
section
variable {W w:World} {S R G:List Own} {Φ:PW} {k:KP} {s:SkD} {p:CoP} {q:DkP} {d:DsS} {c:CoS} {n:Nat}
theorem AgainS_use [Stable Φ] (H:CoH Φ k s p q d c n) {x:StC} (hf:FinC d c x) {db:Nat} (hdb:q.db=db) {kp:Option Addr} {kc:Nat} {keep:List Int} (hkl:keep.length≤1000000) (hsl:∀ M w,Φ M w→Sl M w kp keep) {kn:Nat} (hkn:keep.length=kn)
    (cx:Ctx W w ((CoO p q c++(dkL q d++(SkO k s++S)))++G) Φ) {X:Option Addr→Int→List Own→PW→Prop}
    (hX:∀ u p' d' c',FinC d' c' x→c'.prep=false→CoH (fun M w=>Φ M w∧CoF p' c' M w) k s p' (q.mv u) d' c' n→Stable (fun M w=>Φ M w∧CoF p' c' M w)→X (some ⟨p'.cb,0,none⟩) 0 (CoO p' q c'++(dkL (q.mv u) d'++(SkO k s++S))) (fun M w=>Φ M w∧CoF p' c' M w)) :
    Calls Tryz.prog F.erratalaw44_again #[.pointer (some ⟨db,0,none⟩),.slice kp kn kc] w fun e w'=>∃ p n,e=.returned (.tuple #[.pointer p,.int .i64 n])∧∃ R' Φ',Stable Φ'∧Ctx W w' (R'++G) Φ'∧X p n R' Φ':=by
  subst hkn hdb
  refine Again_use (q:=q) (d:=d) (S:=SkO k s++(S++G)) H.E H.hq H.hk hf.fut hkl hsl (Ctx.sub (S':=dkL q d++(SkO k s++(S++G))) (cx.re lay1) (List.sublist_append_right _ _)) (fun u d' e w he hno _ _ _ cx=>absurd (crash_fine hf.h keep) hno) (fun u p' c' d' w hd' hfine hq hkp hl hP hpr hst cx => ?_)
  have f':FinC d' c' x:=⟨hfine (crash_fine hf.h keep),hq.w,hl,hP,hst⟩
  have H':CoH (fun M w=>Φ M w∧CoF p' c' M w) k s p' (q.mv u) d' c' n:=H.next (fun M w h=>⟨h.1,H.hS M w h.1,h.2⟩) hq H.hkq hkp hl.w H.hI H.hs
  exact ⟨_,0,rfl,CoO p' q c'++(dkL (q.mv u) d'++(SkO k s++S)),_,inferInstance,Ctx.re (S:=CoO p' q c'++(dkL (q.mv u) d'++(SkO k s++(S++G)))) cx lay1.symm,hX u p' d' c' f' hpr H' inferInstance⟩
theorem CoH.weak {Ψ:PW} (H:CoH Φ k s p q d c n) (h:∀ M w,Ψ M w→Φ M w):CoH Ψ k s p q d c n:=⟨H.E.weak h,fun M w x=>H.hS M w (h M w x),fun M w x=>H.hC M w (h M w x),H.hq,H.hk.weak h,H.hw,H.hkq,H.hI,H.hs⟩
set_option maxHeartbeats 4000000 in
theorem small44_in [Stable Φ] (hE:CE Φ):GivesIn Φ Tryz.prog F.erratalaw44_small #[] (.bool true):=by
  refine gives_in Berratalaw44_small_run fun W R=>fun w G cx=>DNew_use cx fun q0 w hq0 cx=>⟨_,rfl,dkL q0 dsNew++R,fun M w=>Φ M w∧dkF q0 dsNew M w,inferInstance,cx.re (List.append_assoc _ _ _).symm,fun w G cx => ?_⟩
  have hnil:Has (fun M w=>Φ M w∧dkF q0 dsNew M w) (fun M w=>Sl M w none ([]:List Int)):=⟨fun M w h=>Sl.nil⟩
  refine New_to (kind:=2) (key:=[]) (cap:=0) (p:=none) (by decide) cx (fun h=>by cases h) (fun k hok hkq st1=>fun w G cx => ?_)
  refine Br.intro (fun h=>by cases h) (fun _=>fun w G cx => ?_)
  have hk0:DkK (fun M w=>(Φ M w∧dkF q0 dsNew M w)∧SkF k (newK 2 []) M w) q0 dsNew:=⟨Nat.zero_le _,fun M w h=>h.1.2⟩
  refine OpenF_use (q:=q0) (d:=dsNew) (S:=SkO k (newK 2 [])++(R++G)) (hE.weak fun M w h=>h.1.1) hq0 hk0 cnew_fut (Ctx.re (Ctx.swapU cx) (by simp)) (fun u d' e w he hno _ _ _ _ _ cx=>absurd dsNew_h hno) (fun u0 p0 c0 d0 w hd0 _ hfine0 hq1 hkp0 hl0 hP0 hpr0 hst0 cx => ?_)
  have f0:FinC d0 c0 stC0:=⟨hfine0 dsNew_h,hq1.w,hl0,hP0,hst0⟩
  have kk0:d0.keep=[]:=hkp0
  have H0:CoH (fun M w=>((Φ M w∧dkF q0 dsNew M w)∧SkF k (newK 2 []) M w)∧CoF p0 c0 M w) k sC0 p0 (q0.mv u0) d0 c0 18:=⟨hE.weak fun M w h=>h.1.1.1,fun M w h=>h.1.2,fun M w h=>h.2,hq1,(hk0.weak fun M w h=>h.1).of hkp0 u0,hl0.w,hkq,new_i 2 [],sC0_s⟩
  refine ⟨_,0,rfl,CoO p0 q0 c0++(dkL (q0.mv u0) d0++(SkO k sC0++R)),_,inferInstance,Ctx.re (S:=CoO p0 q0 c0++(dkL (q0.mv u0) d0++(SkO k sC0++(R++G)))) cx (by simp),Br.intro (fun h=>by cases h) (fun _=>Br.intro (fun _=>fun w G cx => ?_) (fun h=>absurd rfl (of_decide_eq_false h)))⟩
  -- Begin
  refine (lineX_in (no:=1) (b:=1) ⟨by unfold I64; decide,by unfold I64; decide⟩).to cx fun lp lc g1 g2 st2=>fun w G cx => ?_
  obtain ⟨d1,c1,e1,f1,pr1,kp1⟩:=begin_fine (batch:=1) (mark:=9) (lines:=[lineX 1 1]) (next:=c1B) f0 rfl (by decide) (bad_lineX 1 1) xS1_w
  have H0:=H0.weak (Ψ:=fun M w=>(((Φ M w∧dkF q0 dsNew M w)∧SkF k (newK 2 []) M w)∧CoF p0 c0 M w)∧Sl M w lp [lineX 1 1]) fun M w h=>h.1
  refine BeginS_use (S:=R++G) (r:=(d1,c1,sC0,0)) H0 rfl (fun M w h=>h.2) (by decide) (by unfold I64; decide) (by unfold I64; decide) (by decide) rfl (by rw [e1]) (cx.re lay1) (SinkK.go fun u1 p1 k1 Ψ1 hp1 hsb1 hq1 hkq1 st3 hΨ1 => ?_)
  have H1:=H0.next hΨ1 hq1 hkq1 kp1 (by rw [f1.now]; exact xS1_w) (new_i 2 []) sC0_s
  refine Br.intro (fun _=>fun w G cx => ?_) (fun h=>absurd rfl (of_decide_eq_false h))
  -- Prepare
  have eg:giveC c1 sC0=(0,sC0):=by
    unfold giveC
    rw [f1.now,if_neg (by decide)]
    show ((delivK sC0 1 [lineX 1 1]).1,sC0)=_
    rw [sC_deliv]
  have e2:(d1,(prepareC c1 sC0).1,(prepareC c1 sC0).2.1,(prepareC c1 sC0).2.2)=(d1,{ c1 with prep:=true },sC0,(0:Int)):=by
    unfold prepareC
    rw [if_neg (by rw [f1.stop]; simp),if_neg (by rw [f1.now]; decide),eg]
    simp
  have f2:FinC d1 { c1 with prep:=true } xS1:=⟨f1.h,f1.w,⟨f1.live.file,f1.live.now,f1.live.last,f1.live.enc,f1.live.w⟩,f1.now,f1.stop⟩
  refine PrepS_use (S:=R++G) H1 hp1.1 hsb1 (by decide) e2 (cx.re lay1) (SinkK.go fun u2 p2 k2 Ψ2 hp2 hsb2 hq2 hkq2 st4 hΨ2 => ?_)
  have H2:=H1.next hΨ2 hq2 hkq2 rfl f2.live.w (new_i 2 []) sC0_s
  refine Br.intro (fun _=>fun w G cx => ?_) (fun h=>absurd rfl (of_decide_eq_false h))
  -- Decide
  obtain ⟨d3,c3,e3,f3,pr3,kp3⟩:=decide_fine f2 rfl rfl
  refine DecideS_use (S:=R++G) (r:=(d3,c3,sC0,0)) H2 (hp2.1.trans hp1.1) (by rw [e3]) (cx.re lay1) (SinkK.go fun u3 p3 k3 Ψ3 hp3 hsb3 hq3 hkq3 st5 hΨ3 => ?_)
  have H3:=H2.next hΨ3 hq3 hkq3 kp3 f3.live.w (new_i 2 []) sC0_s
  refine Br.intro (fun _=>fun w G cx => ?_) (fun h=>absurd rfl (of_decide_eq_false h))
  have ck3:checkC c3=c1B:=by unfold checkC; rw [f3.now]; rfl
  refine CheckS_use (hp3.1.trans (hp2.1.trans hp1.1)) cx (fun w G cx => ?_)
  rw [ck3]
  -- again
  refine AgainS_use (keep:=[]) (X:=_) H3 f3 rfl (by decide) (fun M w h=>Sl.nil) rfl cx (fun u4 p4 d4 c4 f4 pr4 H4 st6 => ?_)
  refine Br.intro (fun h=>by cases h) (fun _=>Br.intro (fun _=>fun w G cx => ?_) (fun h=>absurd rfl (of_decide_eq_false h)))
  refine PhaseS_use rfl cx (Br.intro (fun _=>fun w G cx => ?_) (fun h=>absurd (by rw [f4.now]) (of_decide_eq_false h)))
  have eE:endR c4 sC0=(0,sC1):=by
    unfold endR
    rw [f4.now,if_neg (by decide)]
    exact sC_deliv
  obtain ⟨d5,c5,e5,f5,pr5,kp5⟩:=finish_fine f4 rfl eE
  have e5:recoverC d4 c4 sC0=(d5,c5,sC1,0):=by
    unfold recoverC
    rw [if_neg (by rw [f4.stop]; simp),if_neg (by rw [f4.now]; decide),if_pos (by rw [f4.now])]
    exact e5
  refine RecoverS_use (S:=R++G) H4 rfl (hsb3.trans (hsb2.trans hsb1)) (by decide) e5 (cx.re lay1) (SinkK.go fun u5 p5 k5 Ψ5 hp5 hsb5 hq5 hkq5 st7 hΨ5 => ?_)
  have H5:=H4.next hΨ5 hq5 hkq5 kp5 f5.live.w sC1_i sC1_s
  have hk5:=hsb5.trans (hsb3.trans (hsb2.trans hsb1))
  refine Br.intro (fun _=>fun w G cx => ?_) (fun h=>absurd rfl (of_decide_eq_false h))
  refine PhaseS_use hp5.1 cx (Br.intro (fun _=>fun w G cx => ?_) (fun h=>absurd (by rw [f5.now]) (of_decide_eq_false h)))
  refine LastS_use hp5.1 cx (Br.intro (fun _=>fun w G cx => ?_) (fun h=>absurd (by rw [f5.now]) (of_decide_eq_false h)))
  refine SkLinesS_use (s:=sC1) hk5 cx (fun w G cx => ?_)
  -- another batch
  refine (lineX_in (no:=2) (b:=2) ⟨by unfold I64; decide,by unfold I64; decide⟩).to cx fun lp2 lc2 g3 g4 st8=>fun w G cx => ?_
  obtain ⟨d6,c6,e6,f6,pr6,kp6⟩:=begin_fine (batch:=2) (mark:=9) (lines:=[lineX 2 2]) (next:=c2B) f5 rfl (by decide) (bad_lineX 2 2) xS5_w
  have H5:=H5.weak (Ψ:=fun M w=>Ψ5 M w∧Sl M w lp2 [lineX 2 2]) fun M w h=>h.1
  refine BeginS_use (S:=R++G) (r:=(d6,c6,sC1,0)) H5 hp5.1 (fun M w h=>h.2) (by decide) (by unfold I64; decide) (by unfold I64; decide) (by decide) rfl (by rw [e6]) (cx.re lay1) (SinkK.go fun u6 p6 k6 Ψ6 hp6 hsb6 hq6 hkq6 st9 hΨ6=>fun w G cx => ?_)
  have H6:=H5.next hΨ6 hq6 hkq6 kp6 f6.live.w sC1_i sC1_s
  refine AgainS_use (keep:=[]) (X:=_) H6 f6 rfl (by decide) (fun M w h=>Sl.nil) rfl cx (fun u7 p7 d7 c7 f7 pr7 H7 st10 => ?_)
  refine Br.intro (fun h=>by cases h) (fun _=>Br.intro (fun _=>Br.intro (fun _=>Br.intro (fun _=>Br.intro (fun _=>fun w G cx => ?_) (fun h=>absurd rfl (of_decide_eq_false h))) (fun h=>absurd rfl (of_decide_eq_false h))) (fun h=>absurd rfl (of_decide_eq_false h))) (fun h=>absurd rfl (of_decide_eq_false h)))
  obtain ⟨d8,c8,e8,f8,pr8,kp8⟩:=abort_fine (s:=sC1) f7 rfl
  have hdr:dropR c7 sC1=sC1:=by unfold dropR; rw [if_neg fun h=>absurd h.1 (by decide)]
  rw [hdr] at e8
  have e8:recoverC d7 c7 sC1=(d8,c8,sC1,0):=by
    unfold recoverC
    rw [if_neg (by rw [f7.stop]; simp),if_pos (by rw [f7.now])]
    exact e8
  refine RecoverS_use (S:=R++G) H7 rfl (hsb6.trans hk5) (by decide) e8 (cx.re lay1) (SinkK.go fun u8 p8 k8 Ψ8 hp8 hsb8 hq8 hkq8 st11 hΨ8 => ?_)
  refine Br.intro (fun _=>fun w G cx => ?_) (fun h=>absurd rfl (of_decide_eq_false h))
  refine LastS_use hp8.1 cx (Br.intro (fun _=>fun w G cx => ?_) (fun h=>absurd (by rw [f8.now]) (of_decide_eq_false h)))
  refine CheckS_use hp8.1 cx (fun w G cx=>⟨?_,?_⟩)
  · have ck8:checkC c8=c1B:=by unfold checkC; rw [f8.now]; rfl
    rw [ck8,decide_eq_true rfl]
  · have hdown:∀ M w,Ψ8 M w→Φ M w:=fun M w h=>(hΨ6 M w (hΨ8 M w h).1.1).1.1 |> fun h5=>(hΨ5 M w h5).1.1 |> fun h3=>(hΨ3 M w h3).1 |> fun h2=>(hΨ2 M w h2).1 |> fun h1=>(hΨ1 M w h1).1.1.1.1.1
    exact (((Ctx.left cx).sub (((List.sublist_append_right _ _).trans (List.sublist_append_right _ _)).trans (List.sublist_append_right _ _))).weak hdown)
end
end Go.Proofs.YtfccagphnfceiaaGreatDoor
end

section
namespace Go.Proofs.YtfccagphnfceiaaGreatDoor
open Go.Vc
theorem line_wS {M:List Nat} {w:World} {p:Option Addr} {l:List LineD} (h:Sl M w p l):∀ x∈l,rightR x.row=true→LineW x:=fun x hx hr=>by
  rcases Nat.eq_zero_or_pos l.length with h0 | h0
  · rw [List.eq_nil_of_length_eq_zero h0] at hx; cases hx
  obtain ⟨b,o,news,hp,g1,g2,g3,g4⟩:=h.cells line_one h0
  obtain ⟨i,hi,rfl⟩:=List.getElem_of_mem hx
  obtain ⟨r,rc,he,h1,h2,h3,h4⟩:=lrow g3 hi
  exact ⟨h3,fun v hv=>⟨(sl_i64 h4 v hv).1,right_small hr v hv⟩,right_len hr⟩
theorem renB_mem {b:Int}:∀ (l:List LineD) (f:Int),∀ y∈renB b f l,∃ x∈l,∃ i:Nat,i < l.length∧y = { x with no:=f+i,batch:=b }
  | [],f,y,hy=>by cases hy
  | x :: l,f,y,hy=>by
    have hy:y = { x with no:=f,batch:=b }∨y∈renB b (f+1) l:=by
      have:y ∈ { x with no:=f,batch:=b } :: renB b (f+1) l:=hy
      exact List.mem_cons.1 this
    rcases hy with rfl | hy
    · exact ⟨x,by simp,0,by simp,by simp⟩
    · obtain ⟨z,hz,i,hi,e⟩:=renB_mem l (f+1) y hy
      refine ⟨z,by simp [hz],i+1,by simpa using hi,?_⟩
      rw [e]
      have:f+1+(i:Int)=f+((i+1:Nat):Int):=by omega
      rw [this]
theorem linesO_w {o:OpC} {b f:Int} (hb:I64 b) (hf:0≤f∧f≤1000000) (hl:o.L.length≤6) (h:∀ x∈o.L,rightR x.row=true→LineW x):∀ y∈linesO o b f,rightR y.row=true→LineW y:=fun y hy hr=>by
  unfold linesO at hy
  split at hy
  · obtain ⟨x,hx,i,hi,rfl⟩:=renB_mem _ _ y hy
    have hw:=h x hx hr
    exact ⟨⟨by show I64 (f+i); unfold I64; omega,hb,hw.inn.time,hw.inn.n,hw.inn.cause,hw.inn.why⟩,hw.val,hw.row⟩
  · exact h y hy hr
theorem opc_rep {M:List Nat} {w:World} {x:OpC} {p:Option Addr} {c:Nat} {q:Option Addr} {e:Nat} (h:Gv.rep M w (x.cells p c q e) x):(I64 x.kind∧I64 x.b∧I64 x.n)∧Sl M w p x.L∧Sl M w q x.keep:=by
  obtain ⟨p',c',q',e',h1,h2,h3,h4,_,_,h5,h6⟩:=opc_cells h
  simp only [OpC.cells,List.cons.injEq,Value.slice.injEq,and_true,true_and] at h1
  rw [h1.1.1,h1.2.1]
  exact ⟨⟨h2,h3,h4⟩,h5,h6⟩
theorem batchC_0 {o:OpC} (hf:o.fit=true):1≤batchC o 0∧batchC o 0≤3:=by
  have h1:=Int.tmod_lt_of_pos o.b (show (0:Int) < 3 by decide)
  have h2:=Int.lt_tmod_of_pos o.b (show (0:Int) < 3 by decide)
  unfold batchC
  rw [if_neg (by rw [hf]; simp)]
  have e:IntKind.i64.wrap (0+1)=1:=by decide
  rw [e]
  split
  · rw [show IntKind.i64.wrap (1+(o.b.tmod 3+3))=w64 (1+(o.b.tmod 3+3)) from rfl,w64_id (by unfold I64; omega)]; omega
  · rw [show IntKind.i64.wrap (1+o.b.tmod 3)=w64 (1+o.b.tmod 3) from rfl,w64_id (by unfold I64; omega)]; omega
theorem beginX_w {o:OpC} {n:Int} {c0:StC} (hc:c0=stC0) (hn:1≤n∧n≤3) (hm:I64 o.n) (hl:o.L.length≤6) (hnx:o.next.size≤50) (h:∀ y∈linesO o n 1,rightR y.row=true→LineW y) (hbad:(linesO o n 1).any (badC n)=false):StW ⟨0,1,.empty,n,o.n,o.next,linesO o n 1⟩ :=
  ⟨⟨by show (0:Int)≤0; decide,by show I64 0; unfold I64; decide⟩,.inr (.inl rfl),by show (0:Nat)≤600; decide,(fun h=>by cases h),fun _=>by show (0:Int) < n; omega,⟨by show I64 n; unfold I64; omega,hm⟩,by show o.next.size≤600; omega,fun y hy=>by
    have:=List.any_eq_false.1 hbad y hy
    unfold badC at this
    simp only [Bool.or_eq_true,decide_eq_true_eq,Bool.not_eq_true',not_or,Decidable.not_not,Bool.not_eq_false,ne_eq] at this
    exact ⟨h y hy this.2,this⟩,by show (linesO o n 1).length≤18; rw [linesO_len]; omega⟩
end Go.Proofs.YtfccagphnfceiaaGreatDoor
end

section
namespace Go.Proofs.YtfccagphnfceiaaGreatDoor
open Go.Vc
section
variable {d:DsS} {c:CoS} {s:SkD} {x:StC}
theorem FinC.prep (f:FinC d c x) (b:Bool):FinC d { c with prep:=b } x:=⟨f.h,f.w,⟨f.live.file,f.live.now,f.live.last,f.live.enc,f.live.w⟩,f.now,f.stop⟩
structure MidC (kind:Int) (d:DsS) (c:CoS) (s:SkD) (x:StC):Prop where
  f:FinC d c x
  i:SkI s
  n:SkS s 18
  drop:dropR c s=newK kind []
  lines:s.lines=[]
theorem new_s18 (kind:Int):SkS (newK kind []) 18:=⟨Nat.zero_le _,Nat.zero_le _,Nat.zero_le _,Nat.zero_le _⟩
theorem MidC.new {kind:Int} (f:FinC d c x) (hb:1≤x.batch):MidC kind d c (newK kind []) x :=
  ⟨f,new_i kind [],new_s18 kind,by
    unfold dropR
    rw [if_neg fun h=>by have h2:(0:Int)=c.now.batch:=h.2; rw [f.now] at h2; omega],rfl⟩
theorem MidC.aside (f:FinC d c x) (hb:1≤x.batch) (h1:x.phase=1):MidC 0 d c { newK 0 [] with prep:=c.now.batch,aside:=c.now.lines } x :=
  have hw:=f.wf
  ⟨f,⟨List.Pairwise.nil,by simp,by simp,fun y hy=>by
    have hy:y∈c.now.lines:=hy
    rw [f.now] at hy
    exact (hw.line y hy).2.2⟩,⟨Nat.zero_le _,Nat.zero_le _,by show c.now.lines.length≤18; rw [f.now]; exact hw.few,Nat.zero_le _⟩,by
    unfold dropR
    rw [if_pos ⟨rfl,rfl⟩]
    unfold abortK
    rw [if_neg (by simp),if_neg (by simp [hasK]),if_neg (by rw [f.now]; simp; omega)],rfl⟩
end
structure AtC (Φ0:PW) (cb sb:Nat) (Φ:PW) (k:KP) (s:SkD) (p:CoP) (q:DkP) (d:DsS) (c:CoS) (n:Nat):Prop where
  H:CoH Φ k s p q d c n
  cb:p.cb=cb
  sb:k.sb=sb
  dn:∀ M w,Φ M w→Φ0 M w
section
variable {W:World} {S G:List Own} {Φ0 Φ:PW} {cb sb:Nat} {k:KP} {s:SkD} {p:CoP} {q:DkP} {d:DsS} {c:CoS} {n:Nat}
theorem AtC.go (A:AtC Φ0 cb sb Φ k s p q d c n) {d':DsS} {c':CoS} {s':SkD} {er:Int} {n':Nat} {X:Int→List Own→PW→Prop} (hkp:d'.keep=d.keep) (hw:StW c'.now) (hI:SkI s') (hs:SkS s' n')
    (h:∀ Ψ k' p' q',Stable Ψ→AtC Φ0 cb sb Ψ k' s' p' q' d' c' n'→X er (CoO p' q' c'++(dkL q' d'++(SkO k' s'++S))) Ψ) :
    SinkK W Φ k p q (S++G) (fun e w'=>∃ n,e=.returned (.int .i64 n)∧∃ R Φ',Stable Φ'∧Ctx W w' (R++G) Φ'∧X n R Φ') (d',c',s',er) :=
  SinkK.go fun u p' k' Ψ h1 h2 h3 h4 h5 h6=>h Ψ k' p' (q.mv u) h5 ⟨A.H.next h6 h3 h4 hkp hw hI hs,h1.1.trans A.cb,h2.trans A.sb,fun M w x=>A.dn M w (h6 M w x).1⟩
theorem AtC.same (A:AtC Φ0 cb sb Φ k s p q d c n) {er:Int} {X:Int→List Own→PW→Prop}
    (h:∀ Ψ k' p' q',Stable Ψ→AtC Φ0 cb sb Ψ k' s p' q' d c n→X er (CoO p' q' c++(dkL q' d++(SkO k' s++S))) Ψ) :
    SinkK W Φ k p q (S++G) (fun e w'=>∃ n,e=.returned (.int .i64 n)∧∃ R Φ',Stable Φ'∧Ctx W w' (R++G) Φ'∧X n R Φ') (d,c,s,er):=A.go rfl A.H.hw A.H.hI A.H.hs h
theorem AtC.weak (A:AtC Φ0 cb sb Φ k s p q d c n) {Ψ:PW} (h:∀ M w,Ψ M w→Φ M w):AtC Φ0 cb sb Ψ k s p q d c n:=⟨A.H.weak h,A.cb,A.sb,fun M w x=>A.dn M w (h M w x)⟩
theorem AtC.fin [Stable Φ] (A:AtC Φ0 cb sb Φ k s p q d c n) {w:World} (cx:Ctx W w ((CoO p q c++(dkL q d++(SkO k s++S)))++G) Φ):Ctx W w S Φ0 :=
  ((Ctx.left cx).sub (((List.sublist_append_right _ _).trans (List.sublist_append_right _ _)).trans (List.sublist_append_right _ _))).weak A.dn
end
end Go.Proofs.YtfccagphnfceiaaGreatDoor
end

section
namespace Go.Proofs.YtfccagphnfceiaaGreatDoor
open Go.Vc
section
variable {Φ:PW}
end
end Go.Proofs.YtfccagphnfceiaaGreatDoor
end

section
namespace Go.Proofs.YtfccagphnfceiaaGreatDoor
open Go.Vc
structure OnB (Φ0:PW) (db sb xb:Nat) (Φ:PW) (k:KP) (s:SkD) (q:DkP) (d:DsS) (n:Nat) (y:StoP) (x:StoS) (co:Option (CoP × CoS)):Prop where
  E:CE Φ
  hS:∀ M w,Φ M w→SkF k s M w
  hX:∀ M w,Φ M w→stoF y x M w
  hC:∀ p c,co=some (p,c)→∀ M w,Φ M w→CoF p c M w
  hq:DkQ q d
  hk:DkK Φ q d
  hkq:SkQ k s
  hI:SkI s
  hs:SkS s n
  db:q.db=db
  sb:k.sb=sb
  xb:y.xb=xb
  dn:∀ M w,Φ M w→Φ0 M w
section
variable {W w:World} {R G:List Own} {Φ0 Φ:PW} {db sb xb:Nat} {k:KP} {s:SkD} {q:DkP} {d:DsS} {n:Nat} {y:StoP} {x:StoS} {co:Option (CoP × CoS)}
theorem OnB.weak (H:OnB Φ0 db sb xb Φ k s q d n y x co) {Ψ:PW} (h:∀ M w,Ψ M w→Φ M w):OnB Φ0 db sb xb Ψ k s q d n y x co :=
  ⟨H.E.weak h,fun M w e=>H.hS M w (h M w e),fun M w e=>H.hX M w (h M w e),fun p c e M w z=>H.hC p c e M w (h M w z),H.hq,H.hk.weak h,H.hkq,H.hI,H.hs,H.db,H.sb,H.xb,fun M w e=>H.dn M w (h M w e)⟩
theorem OnB.more (H:OnB Φ0 db sb xb Φ k s q d n y x co) {m:Nat} (h:n≤m):OnB Φ0 db sb xb Φ k s q d m y x co :=
  ⟨H.E,H.hS,H.hX,H.hC,H.hq,H.hk,H.hkq,H.hI,H.hs.more h,H.db,H.sb,H.xb,H.dn⟩
theorem OnB.none (H:OnB Φ0 db sb xb Φ k s q d n y x co):OnB Φ0 db sb xb Φ k s q d n y x none :=
  ⟨H.E,H.hS,H.hX,(fun p c e=>by cases e),H.hq,H.hk,H.hkq,H.hI,H.hs,H.db,H.sb,H.xb,H.dn⟩
theorem OnB.disk (H:OnB Φ0 db sb xb Φ k s q d n y x co) {q':DkP} {d':DsS} (hq:DkQ q' d') (hk:DkK Φ q' d') (e:q'.db=q.db):OnB Φ0 db sb xb Φ k s q' d' n y x co :=
  ⟨H.E,H.hS,H.hX,H.hC,hq,hk,H.hkq,H.hI,H.hs,e.trans H.db,H.sb,H.xb,H.dn⟩
theorem d_in [Stable Φ] {A D X:List Own} (cx:Ctx W w ((A++(D++X))++G) Φ):Ctx W w (D++(A++(X++G))) Φ:=cx.perm (by
  have:=(List.perm_append_comm (l₁:=A) (l₂:=D)).append_right (X++G)
  simpa [List.append_assoc] using this)
theorem d_out [Stable Φ] {A D X:List Own} (cx:Ctx W w (D++(A++(X++G))) Φ):Ctx W w ((A++(D++X))++G) Φ:=cx.perm (by
  have:=(List.perm_append_comm (l₁:=D) (l₂:=A)).append_right (X++G)
  simpa [List.append_assoc] using this)
theorem recover_s {c:CoS} (h:SkS s n) (hn:18≤n) (ha:s.aside.length≤18) (hL:c.now.lines.length≤18):SkS (recoverC d c s).2.2.1 (n+18):=by
  have e:opX d c s ⟨0,0,0,[],.empty,[],false⟩ 5=recoverC d c s:=by unfold opX; rw [if_neg (by decide),if_neg (by decide),if_neg (by decide),if_neg (by decide),if_neg (by decide),if_pos rfl]
  rw [←e]
  exact opX_s h hn ha hL
end
end Go.Proofs.YtfccagphnfceiaaGreatDoor
end

section
namespace Go.Proofs.YtfccagphnfceiaaGreatDoor
open Go.Vc
abbrev stoN:StoS:=⟨[],0,.empty,0,[],.empty,false,false⟩
theorem CoJ.same {d:DsS} {co:Option CoS} {s:SkD} {x:StoS} {b:Bool} (h:CoJ d co s x b):fitsS x s=some x:=fits_same h.sk.lines h.sk.last
theorem CoJ.drop {d:DsS} {co:Option CoS} {s:SkD} {x:StoS} {b:Bool} (h:CoJ d co s x b):CoJ d none s x b:=⟨h.w,h.sk,h.fut,fun c e=>by cases e⟩
section
variable {Φ:PW}
end
end Go.Proofs.YtfccagphnfceiaaGreatDoor
end

section
namespace Go.Proofs.YtfccagphnfceiaaGreatDoor
open Go.Vc
theorem and15 (a:Int):0≤andZ a 15∧andZ a 15≤15:=by
  unfold andZ
  have h:(BitVec.ofInt 64 a &&& BitVec.ofInt 64 15).toNat≤15:=by
    rw [BitVec.toNat_and]
    exact Nat.le_trans Nat.and_le_right (by decide)
  rw [show IntKind.i64.wrap ((BitVec.ofInt 64 a &&& BitVec.ofInt 64 15).toNat:Int)=w64 ((BitVec.ofInt 64 a &&& BitVec.ofInt 64 15).toNat:Int) from rfl,w64_id (by unfold I64; omega)]
  omega
abbrev lineR1 (row:List ValD):LineD:=⟨1,1,0,row,1,0,0⟩
theorem deliv_right (row:List ValD):decide ((delivK (newK 2 []) 1 [lineR1 row]).1=0)=rightR row:=by
  cases h:rightR row <;> simp [delivK,lookK,hasK,lastK,badK,shortK,numK,newK,h]
section
variable {Φ:PW}
theorem rowRight_in [Stable Φ] {p:Option Addr} {cap:Nat} {row:List ValD} (hL:∀ M w,Φ M w→Sl M w p row) (hc:row.length≤cap∧cap≤maxLen):GivesIn Φ Tryz.prog F.erratalaw44_rowRight #[.slice p row.length cap] (.bool (rightR row)):=by
  refine gives_in (Berratalaw44_rowRight_run p row.length cap) fun W R=>fun w G cx => ?_
  have hnil:Has Φ (fun M w=>Sl M w none ([]:List Int)):=⟨fun M w h=>Sl.nil⟩
  refine New_to (kind:=2) (key:=[]) (cap:=0) (p:=none) (by decide) cx (fun h=>by cases h) (fun k hok hkq st1=>Br.intro (fun _=>fun k7 w G cx => ?_) (fun h=>by cases h))
  have hi:(lineR1 row).In:=⟨by show I64 1; unfold I64; decide,by show I64 1; unfold I64; decide,by show I64 0; unfold I64; decide,by show I64 1; unfold I64; decide,by show I64 0; unfold I64; decide,by show I64 0; unfold I64; decide⟩
  have he:Elems (dom (Own.blk k7 ((lineR1 row).cells p cap) 31 :: ((SkO k (newK 2 [])++R)++G))) w ((lineR1 row).cells p cap) [lineR1 row]:=Elems.one (rep_line (x:=lineR1 row) hc.1 hc.2 hi (hL _ _ cx.phi.1))
  obtain ⟨cx2,h2⟩:=Ctx.freezeBlk (α:=LineD) (l:=[lineR1 row]) cx he
  have cx3:=cx2.add (Ψ:=fun M w=>Sl M w (some ⟨k7,0,none⟩) [lineR1 row]) h2
  have hF:Has (fun M w=>(Φ M w∧SkF k (newK 2 []) M w)∧Sl M w (some ⟨k7,0,none⟩) [lineR1 row]) (SkF k (newK 2 [])):=⟨fun M w h=>h.1.2⟩
  have hL2:Has (fun M w=>(Φ M w∧SkF k (newK 2 []) M w)∧Sl M w (some ⟨k7,0,none⟩) [lineR1 row]) (fun M w=>Sl M w (some ⟨k7,0,none⟩) [lineR1 row]):=⟨fun M w h=>h.2⟩
  refine Deliver_use (R:=R) (L:=[lineR1 row]) (b:=1) (n:=18) hkq (new_i 2 []) (new_s18 2) (by decide) (by show 1≤400000; decide) cx3 fun k' hsb hq' st2=>fun w G cx=>⟨by rw [deliv_right],?_⟩
  exact ((Ctx.left cx).sub (List.sublist_append_right _ _)).weak fun M w h=>h.1.1.1
end
abbrev KeyE (s s':SkD):Prop:=s'.key=s.key∧s'.kind=s.kind
theorem KeyE.rfl {s:SkD}:KeyE s s:=⟨Eq.refl _,Eq.refl _⟩
theorem KeyE.trans {a b c:SkD} (h:KeyE a b) (g:KeyE b c):KeyE a c:=⟨g.1.trans h.1,g.2.trans h.2⟩
theorem prep_key (s:SkD) (b:Int) (L:List LineD):KeyE s (prepK s b L).2:=by unfold prepK; (repeat' split) <;> exact KeyE.rfl
theorem comm_key (s:SkD) (b:Int):KeyE s (commK s b).2:=by unfold commK; (repeat' split) <;> exact KeyE.rfl
theorem abort_key (s:SkD) (b:Int):KeyE s (abortK s b).2:=by unfold abortK; (repeat' split) <;> exact KeyE.rfl
theorem deliv_key (s:SkD) (b:Int) (L:List LineD):KeyE s (delivK s b L).2:=by unfold delivK; (repeat' split) <;> exact KeyE.rfl
theorem end_key (c:CoS) (s:SkD):KeyE s (endR c s).2:=by
  unfold endR commitC
  split
  · split
    · exact comm_key _ _
    split
    · exact prep_key _ _ _
    · exact (prep_key _ _ _).trans (comm_key _ _)
  · exact deliv_key _ _ _
theorem drop_key (c:CoS) (s:SkD):KeyE s (dropR c s):=by
  unfold dropR
  split
  · exact abort_key _ _
  · exact KeyE.rfl
theorem finish_key (d:DsS) (c:CoS) (s:SkD):KeyE s (finishC d c s).2.2.1:=by
  unfold finishC
  split
  · exact KeyE.rfl
  split
  · exact KeyE.rfl
  · exact end_key _ _
theorem abortC_key (d:DsS) (c:CoS) (s:SkD):KeyE s (abortC d c s).2.2.1:=by
  unfold abortC
  split
  · exact KeyE.rfl
  split
  · exact KeyE.rfl
  · exact drop_key _ _
theorem recover_key (d:DsS) (c:CoS) (s:SkD):KeyE s (recoverC d c s).2.2.1:=by
  unfold recoverC
  split
  · exact KeyE.rfl
  split
  · exact abortC_key _ _ _
  split
  · exact finish_key _ _ _
  · exact KeyE.rfl
theorem prepare_key (c:CoS) (s:SkD):KeyE s (prepareC c s).2.1:=by
  unfold prepareC
  split
  · exact KeyE.rfl
  split
  · exact KeyE.rfl
  · unfold giveC
    split
    · exact prep_key _ _ _
    · exact KeyE.rfl
theorem opX_key (d:DsS) (c:CoS) (s:SkD) (o:OpC) (kind:Int):KeyE s (opX d c s o kind).2.2.1:=by
  unfold opX
  split
  · exact KeyE.rfl
  split
  · exact prepare_key _ _
  split
  · exact KeyE.rfl
  split
  · exact finish_key _ _ _
  split
  · exact abortC_key _ _ _
  split
  · exact recover_key _ _ _
  · exact KeyE.rfl
theorem numK_ren (b:Int):∀ (l:List LineD) (f:Int),numK f (renB b f l)=true
  | [],f=>rfl
  | x :: l,f=>by
    show (decide (f=f) && numK (f+1) (renB b (f+1) l))=true
    rw [numK_ren b l (f+1),decide_eq_true rfl]
    rfl
abbrev GoodL (o:OpC):Prop:=∀ x∈o.L,x.n≠0∧rightR x.row=true
theorem good_ren {o:OpC} (h:GoodL o) {b f:Int}:∀ y∈renB b f o.L,y.n≠0∧rightR y.row=true∧y.batch=b:=fun y hy=>by
  obtain ⟨x,hx,i,hi,rfl⟩:=renB_mem o.L f y hy
  exact ⟨(h x hx).1,(h x hx).2,rfl⟩
theorem look_good {s:SkD} {o:OpC} (h:GoodL o) (hf:o.fit=true) {B:Int} (hB:1≤B) (h1:s.key=[]) (h2:s.lines=[]) (h3:lastK s=0):lookK s B (linesO o B 1)=0:=by
  have e:linesO o B 1=renB B 1 o.L:=by unfold linesO; rw [if_pos hf]
  rw [e]
  unfold lookK
  have hbad:(renB B 1 o.L).any (badK s.key B)=false:=List.any_eq_false.2 fun y hy=>by
    obtain ⟨g1,g2,g3⟩:=good_ren h y hy
    unfold badK shortK
    rw [h1,g2,g3]
    simp [g1]
  rw [if_neg (by omega),if_neg (by omega),if_neg (by rw [hbad]; simp),h2,if_neg (by rw [show ((([]:List LineD).length:Int)+1)=1 from rfl,numK_ren]; simp)]
theorem good_any {o:OpC} (h:GoodL o) (hf:o.fit=true) {B:Int}:(linesO o B 1).any (badC B)=false:=by
  have e:linesO o B 1=renB B 1 o.L:=by unfold linesO; rw [if_pos hf]
  rw [e]
  exact List.any_eq_false.2 fun y hy=>by
    obtain ⟨g1,g2,g3⟩:=good_ren h y hy
    unfold badC
    rw [g2,g3]
    simp
structure QS (B:Int) (L:List LineD) (next:ByteArray) (x:StoS):Prop where
  have_:(x.taken=[]∧x.last=0∧x.check=.empty)∨(x.taken=L∧x.last=B∧x.check=next)
  under:(x.batch=B∧x.lines=L∧x.next=next)∨(x.last=0∧x.batch=0)
theorem QS.new {B:Int} {L:List LineD} {next:ByteArray}:QS B L next stoN:=⟨.inl ⟨rfl,rfl,rfl⟩,.inr ⟨rfl,rfl⟩⟩
theorem QS.begin {B:Int} {L:List LineD} {next:ByteArray} {e:Int} {st:Bool}:QS B L next (followS stoN 0 B L next e st):=by
  unfold followS
  split
  · exact .new
  split
  · exact .new
  rw [if_pos rfl]
  exact ⟨.inl ⟨rfl,rfl,rfl⟩,.inl ⟨rfl,rfl,rfl⟩⟩
theorem QS.follow {B:Int} {L:List LineD} {next:ByteArray} {x:StoS} (h:QS B L next x) {kind batch e:Int} {lines:List LineD} {nx:ByteArray} {st:Bool} (hk:kind≠0):QS B L next (followS x kind batch lines nx e st):=by
  unfold followS
  split
  · exact h
  split
  · exact h
  split
  · exact ⟨h.have_,h.under⟩
  · exact h
theorem QS.fits {B:Int} {L:List LineD} {next:ByteArray} {x x':StoS} {s:SkD} (h:QS B L next x) (hB:1≤B) (hf:fitsS x s=some x'):QS B L next x':=by
  rcases fits_inv hf with ⟨_,_,rfl⟩ | ⟨_,_,_,h4,_,rfl⟩
  · exact h
  · rcases h.under with ⟨g1,g2,g3⟩ | ⟨g1,g2⟩
    · rcases h.have_ with ⟨k1,k2,k3⟩ | ⟨k1,k2,k3⟩
      · exact ⟨.inr ⟨by show x.taken++x.lines=L; rw [k1,g2,List.nil_append],g1,g3⟩,.inl ⟨g1,g2,g3⟩⟩
      · omega
    · omega
theorem idle_is {d:DsS} {c:CoS} {s:SkD} {x:StoS} (h:CoJ d (some c) s x false) (hd:DsH d) (hp:c.now.phase=0):FinC d c (stI x.last x.check):=by
  obtain ⟨l1,l2,l3⟩:=(h.co c rfl).live rfl
  have hw:=l1.w
  refine ⟨hd,h.w,l1,?_,(h.co c rfl).stop⟩
  rcases l2 with ⟨_,g2,g3,_⟩ | ⟨g1,_⟩ | ⟨g1,_⟩
  · obtain ⟨k1,k2,k3,k4⟩:=hw.idle hp
    rcases hc:c.now with ⟨a1,a2,a3,a4,a5,a6,a7⟩
    rw [hc] at hp g2 g3 k1 k2 k3 k4
    simp only at hp g2 g3 k1 k2 k3 k4
    rw [hp,g2,g3,k1,k2,k3,k4]
  · omega
  · omega
end Go.Proofs.YtfccagphnfceiaaGreatDoor
end

section
namespace Go.Proofs.YtfccagphnfceiaaGreatDoor
open Go.Vc
structure GoodO (o:OpC):Prop where
  fit:o.fit=true
  good:GoodL o
  b:I64 o.b
  n:I64 o.n
  len:o.L.length≤6
  next:o.next.size≤50
  w:∀ x∈o.L,rightR x.row=true→LineW x
  row:∀ x∈o.L,x.row.length≤1000000
abbrev bO (o:OpC):Int:=batchC o 0
abbrev lO (o:OpC):List LineD:=linesO o (bO o) 1
abbrev x1O (o:OpC):StC:=⟨0,1,.empty,bO o,o.n,o.next,lO o⟩
theorem GoodO.x1_w {o:OpC} (h:GoodO o):StW (x1O o):=beginX_w rfl (batchC_0 h.fit) h.n h.len h.next (linesO_w (by have h1:1≤bO o∧bO o≤3:=batchC_0 h.fit; unfold I64; omega) (by decide) h.len h.w) (good_any h.good h.fit)
structure StageB (s:SkD):Prop where
  i:SkI s
  key:s.key=[]
  arow:s.aside.length≤18
  kind:s.kind≠0→s.prep=0
def StageQ (o:OpC) (j:Nat) (d:DsS) (c:CoS) (s:SkD):Prop :=
  (j=0∧FinC d c stC0∧s.lines=[]∧lastK s=0) ∨
  (j=1∧FinC d c (x1O o)∧c.prep=false∧s.lines=[]∧lastK s=0) ∨
  (j=2∧FinC d c (x1O o)∧c.prep=true∧s.lines=[]∧lastK s=0∧asideOk s (bO o) (lO o)) ∨
  (j=3∧FinC d c { x1O o with phase:=2 }∧s.lines=[]∧lastK s=0∧asideOk s (bO o) (lO o)) ∨
  (j=4∧FinC d c (stI (bO o) o.next)∧s.lines=lO o∧lastK s=bO o)
theorem bats_nil {s:SkD} (hI:SkI s) (h:lastK s=0):s.bats=[]:=by
  cases hb:s.bats with
  | nil=>rfl
  | cons a l =>
    have ha:a∈s.bats:=by rw [hb]; simp
    have h1:=(hI.pos a ha).1
    have h2:=last_ge hI ha
    omega
theorem stage_step {o:OpC} (O:GoodO o) {j:Nat} {d:DsS} {c:CoS} {s:SkD} (H:StageB s) (h:StageQ o j d c s) (hj:j < 4) :
    ∃ d' c' s',opX d c s o (j:Int)=(d',c',s',0)∧StageB s'∧StageQ o (j+1) d' c' s':=by
  have hB:1≤bO o∧bO o≤3:=batchC_0 O.fit
  rcases h with ⟨rfl,f,h1,h2⟩ | ⟨rfl,f,hp,h1,h2⟩ | ⟨rfl,f,hp,h1,h2,h3⟩ | ⟨rfl,f,h1,h2,h3⟩ | ⟨rfl,_⟩
  · obtain ⟨d',c',e1,f1,pr,_⟩:=begin_fine (batch:=bO o) (mark:=o.n) (lines:=lO o) (next:=o.next) f rfl (by show (0:Int) < bO o; omega) (good_any O.good O.fit) O.x1_w
    refine ⟨d',c',s,?_,H,.inr (.inl ⟨rfl,f1,pr,h1,h2⟩)⟩
    have e:opX d c s o 0=((beginC d c (bO o) o.n (lO o) o.next).1,(beginC d c (bO o) o.n (lO o) o.next).2.1,s,(beginC d c (bO o) o.n (lO o) o.next).2.2):=by
      unfold opX
      rw [if_pos rfl,f.now,h1]
      rfl
    show opX d c s o 0=_
    rw [e,e1]
  · have e:opX d c s o 1=(d,(prepareC c s).1,(prepareC c s).2.1,(prepareC c s).2.2):=by unfold opX; rw [if_neg (by decide),if_pos rfl]
    have hlk:=look_good O.good O.fit hB.1 H.key h1 h2
    have hh:hasK s (bO o)=false:=not_has H.i (by omega)
    have ep:prepareC c s=({ c with prep:=c.prep || decide ((giveC c s).1=0) },(giveC c s).2,(giveC c s).1):=by
      unfold prepareC
      rw [if_neg (by rw [f.stop]; simp),if_neg (by rw [f.now]; show ¬ (1:Int)≠1; decide)]
    by_cases h0:s.kind=0
    · have eg:giveC c s=(0,{ s with prep:=bO o,aside:=lO o }):=by
        unfold giveC prepK
        rw [if_pos h0,f.now,if_neg (by rw [h0]; simp)]
        show (if hasK s (bO o)=true then _ else _)=_
        rw [if_neg (by rw [hh]; simp)]
        show (if lookK s (bO o) (lO o)≠0 then _ else _)=_
        rw [if_neg (by rw [hlk]; simp)]
      refine ⟨d,{ c with prep:=true },{ s with prep:=bO o,aside:=lO o },?_,⟨⟨H.i.asc,H.i.pos,H.i.row,fun y hy => ?_⟩,H.key,?_,fun h=>absurd h0 h⟩,.inr (.inr (.inl ⟨rfl,f.prep true,rfl,h1,h2,.inr ⟨rfl,rfl⟩⟩))⟩
      · show opX d c s o 1=_
        rw [e,ep,eg,decide_eq_true rfl,Bool.or_true]
      · have hy:y∈lO o:=hy
        exact (O.x1_w.line y hy).2.2
      · exact O.x1_w.few
    · have eg:giveC c s=(0,s):=by
        unfold giveC delivK
        rw [if_neg h0,f.now,if_neg h0]
        show ((if hasK s (bO o)=true then _ else _:Int × SkD).1,s)=_
        rw [if_neg (by rw [hh]; simp)]
        show ((if lookK s (bO o) (lO o)≠0 then _ else _:Int × SkD).1,s)=_
        rw [if_neg (by rw [hlk]; simp)]
      refine ⟨d,{ c with prep:=true },s,?_,H,.inr (.inr (.inl ⟨rfl,f.prep true,rfl,h1,h2,.inl (H.kind h0)⟩))⟩
      show opX d c s o 1=_
      rw [e,ep,eg,decide_eq_true rfl,Bool.or_true]
  · obtain ⟨d',c',e1,f1,pr,_⟩:=decide_fine f rfl hp
    refine ⟨d',c',s,?_,H,.inr (.inr (.inr (.inl ⟨rfl,f1,h1,h2,h3⟩)))⟩
    have e:opX d c s o 2=((decideC d c).1,(decideC d c).2.1,s,(decideC d c).2.2):=by unfold opX; rw [if_neg (by decide),if_neg (by decide),if_pos rfl]
    show opX d c s o 2=_
    rw [e,e1]
  · have hlk:=look_good O.good O.fit hB.1 H.key h1 h2
    obtain ⟨s',e1,e2,e3,e4,e5,e6,e7⟩:=end_new H.i H.kind hlk h3
    have hb:=bats_nil H.i h2
    rw [h1,List.nil_append] at e2
    rw [hb,List.nil_append] at e3
    have ee:endR c s=(0,s'):=by
      unfold endR
      rw [f.now]
      exact e1
    obtain ⟨d',c',e8,f1,pr,_⟩:=finish_fine f rfl ee
    refine ⟨d',c',s',?_,⟨⟨by rw [e3]; exact List.pairwise_singleton _ _,fun b hb2=>by rw [e3,List.mem_singleton] at hb2; rw [hb2]; exact ⟨hB.1,O.x1_w.ints.1⟩,fun y hy=>by rw [e2] at hy; exact (O.x1_w.line y hy).2.2,fun y hy=>by
      rcases e7 with e | e
      · rw [e] at hy; cases hy
      · rw [e] at hy; exact H.i.arow y hy⟩,by rw [e6,H.key],by
      rcases e7 with e | e
      · rw [e]; exact Nat.zero_le _
      · rw [e]; exact H.arow,fun _=>e4⟩,.inr (.inr (.inr (.inr ⟨rfl,f1,e2,by unfold lastK; rw [e3]; rfl⟩)))⟩
    have e:opX d c s o 3=finishC d c s:=by unfold opX; rw [if_neg (by decide),if_neg (by decide),if_neg (by decide),if_pos rfl]
    show opX d c s o 3=_
    rw [e,e8]
  · omega
theorem StageQ.w {o:OpC} {j:Nat} {d:DsS} {c:CoS} {s:SkD} (h:StageQ o j d c s):StW c.now:=by
  rcases h with ⟨_,f,_⟩ | ⟨_,f,_⟩ | ⟨_,f,_⟩ | ⟨_,f,_⟩ | ⟨_,f,_⟩ <;> exact f.live.w
theorem crash_lostC (d:DsS) (l:List Int):(crashS d l).lost=d.lost:=by unfold crashS; split <;> rfl
theorem tick_lostC (d:DsS):(tickS d).lost=d.lost:=by unfold tickS; split <;> rfl
theorem write0_lostC (d:DsS) (f a:Int) (s:Bs):(write0 d f a s).1.lost=d.lost:=by unfold write0; (repeat' split) <;> rfl
theorem write_lostC (d:DsS) (f a:Int) (s:Bs):(writeS d f a s).1.lost=d.lost:=by
  unfold writeS
  split
  · rw [crash_lostC,write0_lostC,tick_lostC]
  · rw [write0_lostC,tick_lostC]
theorem fall_lostC (d:DsS):(fallS d).lost=d.lost:=by
  unfold fallS
  split
  · rw [crash_lostC,tick_lostC]
  · rw [tick_lostC]
theorem sync_lostC {d:DsS} (h:d.lost=0) (f:Int):(syncS d f).1.lost=0:=by
  have h2:(fallS d).lost=0:=by rw [fall_lostC,h]
  unfold syncS sync0
  split
  · exact h2
  rw [if_neg (by omega)]
  exact h2
theorem setC_lost {d:DsS} (h:d.lost=0) (c:CelS) (s:Bs):(setC d c s).1.lost=0:=by
  have h2:∀ (d:DsS) (c:CelS) (sl:Nat),d.lost=0→(setC2 d c s sl).1.lost=0:=fun d c sl h=>by
    have w1:∀ {d:DsS} (f a:Int) (s:Bs),d.lost=0→(writeS d f a s).1.lost=0:=fun f a s h=>(write_lostC _ f a s).trans h
    unfold setC2
    split
    · exact w1 _ _ _ h
    split
    · exact sync_lostC (w1 _ _ _ h) _
    split
    · exact w1 _ _ _ (sync_lostC (w1 _ _ _ h) _)
    · exact sync_lostC (w1 _ _ _ (sync_lostC (w1 _ _ _ h) _)) _
  unfold setC
  split
  · exact h
  split
  · split
    · exact sync_lostC h _
    · exact h2 _ _ _ (sync_lostC h _)
  · exact h2 _ _ _ h
theorem stepK_lost {d:DsS} (h:d.lost=0) (c:CoS) (ph:Int) (r:StC × Int):(stepK d c ph r).1.lost=0:=by
  unfold stepK
  split
  · exact h
  split
  · exact h
  split
  · exact h
  · unfold noteC
    simp only
    split
    · exact setC_lost h _ _
    · exact setC_lost h _ _
theorem opX_lost {d:DsS} (h:d.lost=0) (c:CoS) (s:SkD) (o:OpC) (kind:Int):(opX d c s o kind).1.lost=0:=by
  have hf:(finishC d c s).1.lost=0:=by
    unfold finishC
    split
    · exact h
    split
    · exact h
    · exact stepK_lost h _ _ _
  have ha:(abortC d c s).1.lost=0:=by
    unfold abortC
    split
    · exact h
    split
    · exact h
    · exact stepK_lost h _ _ _
  unfold opX
  split
  · exact stepK_lost h _ _ _
  split
  · exact h
  split
  · exact stepK_lost h _ _ _
  split
  · exact hf
  split
  · exact ha
  split
  · unfold recoverC
    split
    · exact h
    split
    · exact ha
    split
    · exact hf
    · exact h
  · exact h
theorem again_fine {d:DsS} (h:d.lost=0) (keep:List Int):DsH (startS (crashS (armS d 0 []) keep)):=by
  unfold crashS
  split
  · exact ⟨rfl,rfl,h⟩
  · exact ⟨rfl,rfl,h⟩
theorem row_at {w:World} {b o:Nat} {cs:List Value} (h:RowAt w b o cs) {i:Nat} {v:Value} (hv:cs[i]? = some v):w.cell? ⟨b,o+i,none⟩=some v:=by
  obtain ⟨hi,he⟩:=List.getElem?_eq_some_iff.1 hv
  rw [h i hi,he]
structure AtD (Φ0:PW) (cb sb db:Nat) (Φ:PW) (k:KP) (s:SkD) (p:CoP) (q:DkP) (d:DsS) (c:CoS) (n:Nat):Prop where
  a:AtC Φ0 cb sb Φ k s p q d c n
  db:q.db=db
section
variable {W w:World} {S G:List Own} {Φ0 Φ:PW} {cb sb db:Nat} {k:KP} {s:SkD} {p:CoP} {q:DkP} {d:DsS} {c:CoS} {n:Nat}
theorem AtC.more (A:AtC Φ0 cb sb Φ k s p q d c n) {m:Nat} (h:n≤m):AtC Φ0 cb sb Φ k s p q d c m:=⟨⟨A.H.E,A.H.hS,A.H.hC,A.H.hq,A.H.hk,A.H.hw,A.H.hkq,A.H.hI,A.H.hs.more h⟩,A.cb,A.sb,A.dn⟩
theorem AtD.go (A:AtD Φ0 cb sb db Φ k s p q d c n) {d':DsS} {c':CoS} {s':SkD} {er:Int} {n':Nat} {X:Int→List Own→PW→Prop} (hkp:d'.keep=d.keep) (hw:StW c'.now) (hI:SkI s') (hs:SkS s' n')
    (h:∀ Ψ k' p' q',Stable Ψ→AtD Φ0 cb sb db Ψ k' s' p' q' d' c' n'→X er (CoO p' q' c'++(dkL q' d'++(SkO k' s'++S))) Ψ) :
    SinkK W Φ k p q (S++G) (fun e w'=>∃ n,e=.returned (.int .i64 n)∧∃ R Φ',Stable Φ'∧Ctx W w' (R++G) Φ'∧X n R Φ') (d',c',s',er) :=
  SinkK.go fun u p' k' Ψ h1 h2 h3 h4 h5 h6=>h Ψ k' p' (q.mv u) h5 ⟨⟨A.a.H.next h6 h3 h4 hkp hw hI hs,h1.1.trans A.a.cb,h2.trans A.a.sb,fun M w x=>A.a.dn M w (h6 M w x).1⟩,A.db⟩
theorem ArmA [Stable Φ] (A:AtD Φ0 cb sb db Φ k s p q d c n) {m:Int} (hm:I64 m) {lp:Option Addr} {cap:Nat} {l:List Int} {ln:Nat} (hln:l.length=ln) (hl:l.length≤1000000) (hsl:∀ M w,Φ M w→Sl M w lp l) (cx:Ctx W w ((CoO p q c++(dkL q d++(SkO k s++S)))++G) Φ) {X:List Own→PW→Prop}
    (hX:∀ q' Φ',Stable Φ'→AtD Φ0 cb sb db Φ' k s p q' (armS d m l) c n→X (CoO p q' c++(dkL q' (armS d m l)++(SkO k s++S))) Φ') :
    Calls Tryz.prog F.disk_Disk_Arm #[.pointer (some ⟨db,0,none⟩),.int .i64 m,.slice lp ln cap] w fun e w'=>e=.returned (.tuple #[])∧∃ R' Φ',Stable Φ'∧Ctx W w' (R'++G) Φ'∧X R' Φ':=by
  have hdb:=A.db
  subst hdb hln
  refine Arm_use (q:=q) (d:=d) (S:=CoO p q c++((SkO k s++S)++G)) A.a.H.hq hm hl hsl (d_in cx) fun p' c' w hq1 cx=>⟨rfl,CoO p q c++(dkL { q with kp:=p',kc:=c' } (armS d m l)++(SkO k s++S)),_,inferInstance,d_out cx,hX { q with kp:=p',kc:=c' } _ inferInstance ?_⟩
  have H1:=A.a.weak (Ψ:=fun M w=>Φ M w∧dkF { q with kp:=p',kc:=c' } (armS d m l) M w) fun M w h=>h.1
  exact ⟨⟨⟨H1.H.E,H1.H.hS,H1.H.hC,hq1,⟨hl,fun M w h=>h.2⟩,H1.H.hw,H1.H.hkq,H1.H.hI,H1.H.hs⟩,H1.cb,H1.sb,H1.dn⟩,rfl⟩
theorem AgainA [Stable Φ] {x:StoS} (A:AtD Φ0 cb sb db Φ k s p q d c n) (hJ:CoD d s x) {lp:Option Addr} {cap:Nat} {keep:List Int} {ln:Nat} (hd:DsH (startS (crashS d keep))) (hln:keep.length=ln) (hl:keep.length≤1000000) (hsl:∀ M w,Φ M w→Sl M w lp keep) (cx:Ctx W w ((CoO p q c++(dkL q d++(SkO k s++S)))++G) Φ) {X:Option Addr→Int→List Own→PW→Prop}
    (hX:∀ q' d' p' c' Φ',Stable Φ'→AtD Φ0 p'.cb sb db Φ' k s p' q' d' c' n→CoJ d' (some c') s x false→DsH d'→X (some ⟨p'.cb,0,none⟩) 0 (CoO p' q' c'++(dkL q' d'++(SkO k s++S))) Φ') :
    Calls Tryz.prog F.erratalaw44_again #[.pointer (some ⟨db,0,none⟩),.slice lp ln cap] w fun e w'=>∃ p n,e=.returned (.tuple #[.pointer p,.int .i64 n])∧∃ R' Φ',Stable Φ'∧Ctx W w' (R'++G) Φ'∧X p n R' Φ':=by
  have hdb:=A.db
  subst hdb hln
  have cx0:Ctx W w (dkL q d++((SkO k s++S)++G)) Φ:=Ctx.sub (d_in cx) ((List.Sublist.refl _).append (List.sublist_append_right _ _))
  refine Again_use (q:=q) (d:=d) (S:=(SkO k s++S)++G) A.a.H.E A.a.H.hq A.a.H.hk hJ.fut hl hsl cx0 (fun u d' e w he hno _ _ _ _=>absurd hd hno) (fun u p' c' d' w hd' hfine hq2 hkp hl2 hP hpr hst cx => ?_)
  refine ⟨_,0,rfl,CoO p' q c'++(dkL (q.mv u) d'++(SkO k s++S)),_,inferInstance,Ctx.re (S:=CoO p' q c'++(dkL (q.mv u) d'++((SkO k s++S)++G))) cx (by simp),hX (q.mv u) d' p' c' _ inferInstance ⟨⟨?_,rfl,A.a.sb,fun M w h=>A.a.dn M w h.1⟩,rfl⟩ ⟨hq2.w,hJ.sk,hl2.fut hP,fun c' e => ?_⟩ (hfine hd)⟩
  · have H1:=A.a.H.weak (Ψ:=fun M w=>Φ M w∧CoF p' c' M w) fun M w h=>h.1
    exact ⟨H1.E,H1.hS,fun M w h=>h.2,hq2,(H1.hk).of hkp u,hl2.w,H1.hkq,H1.hI,H1.hs⟩
  · cases e
    exact ⟨hst,fun _=>⟨hl2,hP,fun e=>by rw [hpr] at e; cases e⟩,fun e=>by cases e⟩
end
end Go.Proofs.YtfccagphnfceiaaGreatDoor
end

section
namespace Go.Proofs.YtfccagphnfceiaaGreatDoor
open Go.Vc
section
variable {Φ:PW}
set_option maxRecDepth 20000 in
set_option maxHeartbeats 16000000 in
theorem Anyw_in [Stable Φ] (hE:CE Φ) {kind call:Int} {o:OpC} {lp kp xp:Option Addr} {lc kc xc:Nat} {keep:List Int} (ho:∀ M w,Φ M w→Gv.rep M w (o.cells lp lc kp kc) o) (hkeep:∀ M w,Φ M w→Sl M w xp keep) :
    GivesIn Φ Tryz.prog F.erratalaw44_CommitAnywhere #[.int .i64 kind,o.v lp lc kp kc,.int .i64 call,.slice xp keep.length xc] (.bool true):=by
  refine gives_in (Merratalaw44_CommitAnywhere_run kind o.kind o.b o.n lp o.L.length lc o.next kp o.keep.length kc o.fit call xp keep.length xc) fun W R=>fun _ w G cx => ?_
  refine (small44_in hE).toB cx fun k7 w G cx => ?_
  have fo:=opc_rep (ho _ _ cx.left.drop1.phi)
  have he:Elems (dom (Own.blk k7 (o.cells lp lc kp kc) 25 :: (R++G))) w (o.cells lp lc kp kc) [o]:=Elems.one (ho _ _ cx.phi)
  obtain ⟨cx2,h2⟩:=Ctx.freezeBlk (α:=OpC) (l:=[o]) cx he
  have cx3:=cx2.add (Ψ:=fun M w=>Sl M w (some ⟨k7,0,none⟩) [o]) h2
  obtain ⟨b1,o1,cs1,hpb,cx4⟩:=cx3.pin cx3.phi.2
  obtain ⟨b2,o2,cs2,hp2,cx5⟩:=cx4.pin (opc_rep (ho _ _ cx4.phi.1.1)).2.1
  obtain ⟨Φ0,hΦ0⟩:∃ Φ0:PW,(fun M w=>((Φ M w∧Sl M w (some ⟨k7,0,none⟩) [o])∧Pin b1 o1 cs1 [o] M w)∧Pin b2 o2 cs2 o.L M w)=Φ0:=⟨_,rfl⟩
  have st00:Stable Φ0:=by rw [←hΦ0]; infer_instance
  have dn0:∀ M w,Φ0 M w→Φ M w:=fun M w h=>by rw [←hΦ0] at h; exact h.1.1.1
  have hpin1:∀ M w,Φ0 M w→Pin b1 o1 cs1 [o] M w:=fun M w h=>by rw [←hΦ0] at h; exact h.1.2
  have hpin:∀ M w,Φ0 M w→Pin b2 o2 cs2 o.L M w:=fun M w h=>by rw [←hΦ0] at h; exact h.2
  rw [hΦ0] at cx5
  refine (few_in44 (l:=[o]) (m:=1) hpb hpin1 (by show 1≤9223372036854775807; decide)).toB (R:=R) cx5 ?_
  clear cx cx2 cx3 cx4 cx5 h2 he hΦ0
  cases hfew:fewC [o] 1 with
  | false=>exact Br.intro (fun _=>fun w G cx=>⟨rfl,(Ctx.left cx).weak dn0⟩) (fun h=>by cases h)
  | true =>
  refine Br.intro (fun h=>by cases h) (fun _=>Br.intro (fun _=>fun w G cx=>⟨rfl,(Ctx.left cx).weak dn0⟩) (fun hk20 => ?_))
  have hk20:keep.length≤20:=by have:=of_decide_eq_false hk20; omega
  obtain ⟨hall,_⟩:=fewC_yes hfew
  obtain ⟨go1,_,go3,go4⟩:=hall o (by simp)
  -- the lines
  refine exI_mk (fun n R' Φ' m=>∃ i:Nat,n=i∧i+m=o.L.length∧R'=R∧Φ'=Φ0∧∀ x∈o.L.take i,x.n≠0∧rightR x.row=true) ⟨⟨R,Φ0,o.L.length,st00,fun w G cx=>cx,0,rfl,by omega,rfl,rfl,by simp⟩,?_⟩
  rintro n R1 Ψ1 m st1 ⟨i,rfl,him,hR,hΨ,hgood⟩
  subst hR hΨ
  refine Br.intro (fun hlt => ?_) (fun hge => ?_)
  · have hlt:i < o.L.length:=by have:=of_decide_eq_true hlt; omega
    obtain ⟨m,rfl⟩:∃ m',m=m'+1:=⟨m - 1,by omega⟩
    refine ⟨⟨by omega,by omega⟩,ptrK_intro b2 o2 (hp2 (by omega)) fun w G cx => ?_⟩
    have hp1:=hpin _ _ cx.phi
    obtain ⟨rp,rc,he,hc1,hc2,_⟩:=pin_line hp1 hlt
    have rowAt:∀ {w:World} {G:List Own} (j:Nat) (v:Value),(o.L[i].cells rp rc)[j]? = some v→Ctx W w (R1++G) Ψ1→w.cell? ⟨b2,o2+i * 7+j,none⟩=some v:=fun {w G} j v hv cx=>row_at (by have:=(hpin _ _ cx.phi i hlt).2.1; rw [he] at this; exact this) hv
    refine ⟨o.L[i].n,by rw [Int.toNat_natCast]; exact rowAt 4 _ rfl cx,Br.intro (fun _=>fun w G cx=>⟨rfl,(Ctx.left cx).weak dn0⟩) (fun hn0=>⟨⟨by omega,by omega⟩,ptrK_intro b2 o2 (hp2 (by omega)) fun w G cx=>⟨rp,o.L[i].row.length,rc,by rw [Int.toNat_natCast]; exact rowAt 3 _ rfl cx,fun w G cx => ?_⟩⟩)⟩
    refine (rowRight_in (fun M w h=>pinl_row (hpin M w h) hlt he) ⟨hc1,hc2⟩).toB cx ?_
    cases hrr:rightR o.L[i].row with
    | false=>exact Br.intro (fun _=>fun w G cx=>⟨rfl,(Ctx.left cx).weak dn0⟩) (fun h=>by cases h)
    | true=>exact Br.intro (fun h=>by cases h) (fun _=>⟨by unfold I64; omega,R1,Ψ1,m,st1,fun w G cx=>cx,⟨i+1,by omega,by omega,rfl,rfl,fun x hx=>by
        rw [List.take_succ_eq_append_getElem hlt,List.mem_append,List.mem_singleton] at hx
        rcases hx with hx | rfl
        · exact hgood x hx
        · exact ⟨of_decide_eq_false hn0,hrr⟩⟩,Nat.lt_succ_self _⟩)
  have hi:i=o.L.length:=by have:=of_decide_eq_false hge; omega
  rw [hi,List.take_length] at hgood
  clear him hge
  obtain ⟨z,hz⟩:∃ z:OpC,{ o with fit:=true }=z:=⟨_,rfl⟩
  have O:GoodO z:=by
    rw [←hz]
    exact ⟨rfl,hgood,fo.1.2.1,fo.1.2.2,go3,go1,line_wS fo.2.1,fun y hy=>by have:=go4 y hy; omega⟩
  have hL:∀ {Ψ:PW},(∀ M w,Ψ M w→Φ M w)→∀ M w,Ψ M w→Sl M w lp z.L:=fun h M w x=>by rw [←hz]; exact (opc_rep (ho M w (h M w x))).2.1
  have hv:z.v lp lc kp kc=.agg #[.int .i64 o.kind,.int .i64 o.b,.int .i64 o.n,.slice lp o.L.length lc,.string o.next,.slice kp o.keep.length kc,.bool true]:=by rw [←hz]
  have hnext:o.next=z.next:=by rw [←hz]
  rw [←hv,hnext]
  have hB:1≤bO z∧bO z≤3:=batchC_0 O.fit
  have hE:=hE.weak dn0
  have hnil:Has Ψ1 (fun M w=>Sl M w none ([]:List Int)):=⟨fun M w h=>Sl.nil⟩
  refine fun w G cx=>New_to (kind:=kind) (key:=[]) (cap:=0) (p:=none) (by decide) cx (fun _=>fun w G cx=>DNew_use cx fun q w hq cx=>⟨_,rfl,dkL q dsNew++R1,fun M w=>Ψ1 M w∧dkF q dsNew M w,inferInstance,cx.re (List.append_assoc _ _ _).symm,fun w G cx=>Br.intro (fun _=>fun w G cx=>fun w G cx=>⟨rfl,((Ctx.left cx).sub (List.sublist_append_right _ _)).weak fun M w h=>dn0 M w h.1⟩) (fun h=>by cases h)⟩) (fun k0 hok hkq st1=>fun w G cx => ?_)
  refine DNew_use cx fun q0 w hq0 cx=>⟨_,rfl,dkL q0 dsNew++(SkO k0 (newK kind [])++R1),fun M w=>(Ψ1 M w∧SkF k0 (newK kind []) M w)∧dkF q0 dsNew M w,inferInstance,cx.re (by simp),fun w G cx=>Br.intro (fun h=>by cases h) (fun _=>fun w G cx => ?_)⟩
  have hk0:DkK (fun M w=>(Ψ1 M w∧SkF k0 (newK kind []) M w)∧dkF q0 dsNew M w) q0 dsNew:=⟨Nat.zero_le _,fun M w h=>h.2⟩
  refine OpenF_use (q:=q0) (d:=dsNew) (S:=SkO k0 (newK kind [])++(R1++G)) (hE.weak fun M w h=>h.1.1) hq0 hk0 cnew_fut (cx.re (by simp)) (fun u d' e w he hno _ _ _ _ _ cx=>absurd dsNew_h hno) (fun u0 p0 c0 d0 w hd0 he0 hfine0 hq1 hkp0 hl0 hP0 hpr0 hst0 cx => ?_)
  have J0:CoJ d0 (some c0) (newK kind []) stoN false:=by
    have:=(new_co kind).open_.1
    rw [←hd0,he0] at this
    exact this
  have hlost0:d0.lost=0:=(hfine0 dsNew_h).2.2
  have st0:Stable (fun M w=>((Ψ1 M w∧SkF k0 (newK kind []) M w)∧dkF q0 dsNew M w)∧CoF p0 c0 M w):=inferInstance
  refine ⟨_,0,rfl,CoO p0 q0 c0++(dkL (q0.mv u0) d0++(SkO k0 (newK kind [])++R1)),_,st0,Ctx.re (S:=CoO p0 q0 c0++(dkL (q0.mv u0) d0++(SkO k0 (newK kind [])++(R1++G)))) cx (by simp),?_⟩
  have A0:AtD Φ p0.cb k0.sb q0.db (fun M w=>((Ψ1 M w∧SkF k0 (newK kind []) M w)∧dkF q0 dsNew M w)∧CoF p0 c0 M w) k0 (newK kind []) p0 (q0.mv u0) d0 c0 18 :=
    ⟨⟨⟨hE.weak fun M w h=>h.1.1.1,fun M w h=>h.1.1.2,fun M w h=>h.2,hq1,(hk0.weak fun M w h=>h.1).of hkp0 u0,hl0.w,hkq,new_i kind [],new_s18 kind⟩,rfl,rfl,fun M w h=>dn0 M w h.1.1.1⟩,rfl⟩
  generalize (fun M w=>((Ψ1 M w∧SkF k0 (newK kind []) M w)∧dkF q0 dsNew M w)∧CoF p0 c0 M w)=Ψ0 at A0 st0
  clear cx
  refine exI_mk (fun R' Φ'=>R'=CoO p0 q0 c0++(dkL (q0.mv u0) d0++(SkO k0 (newK kind [])++R1))∧Φ'=Ψ0) ⟨Br.intro (fun h=>by cases h) (fun _=>⟨_,Ψ0,st0,fun w G cx=>cx,rfl,rfl⟩),?_⟩
  rintro R2 Ψ2 st2 ⟨hR,hΨ⟩
  subst hR hΨ
  intro w G cx
  refine (Batch_in (o:=z) (lp:=lp) (lc:=lc) (kp:=kp) (kc:=kc) (last:=0)).toI cx (fun w G cx => ?_)
  refine (Lines_sl (lc:=lc) (kp:=kp) (kc:=kc) (hL A0.a.dn) (batch:=bO z) (first:=1) (by unfold I64; omega) (by decide) (by have:=O.len; omega) O.row).to cx fun lp2 lc2 g1 g2 st3=>⟨andZ call 15,fun w=>and_run call 15 w,by have:=and15 call; unfold I64; omega,fun w G cx => ?_⟩
  obtain ⟨Φ2,hΦ2⟩:∃ Φ2:PW,(fun M w=>Ψ2 M w∧Sl M w lp2 (linesO z (bO z) 1))=Φ2:=⟨_,rfl⟩
  have dn2:∀ M w,Φ2 M w→Φ M w:=fun M w x=>A0.a.dn M w (by rw [←hΦ2] at x; exact x.1)
  have sl2:∀ M w,Φ2 M w→Sl M w lp2 (lO z):=fun M w x=>by rw [←hΦ2] at x; exact x.2
  have st4:Stable Φ2:=by rw [←hΦ2]; infer_instance
  have A:AtD Φ2 p0.cb k0.sb q0.db Φ2 k0 (newK kind []) p0 (q0.mv u0) d0 c0 18:=⟨⟨by rw [←hΦ2]; exact A0.a.H.weak fun M w h=>h.1,A0.a.cb,A0.a.sb,fun _ _ h=>h⟩,A0.db⟩
  have cx:Ctx W w ((CoO p0 (q0.mv u0) c0++(dkL (q0.mv u0) d0++(SkO k0 (newK kind [])++R1)))++G) Φ2:=by rw [←hΦ2]; exact cx
  clear hΦ2 st3 A0
  refine ArmA A (m:=1+andZ call 15) (by have:=and15 call; unfold I64; omega) rfl (by omega) (fun M w h=>hkeep M w (dn2 M w h)) cx (fun q Ψ st A => ?_)
  clear cx
  have fin:∀ {w:World} {G:List Own} {Ψ:PW} {cb:Nat} {k:KP} {s:SkD} {p:CoP} {q:DkP} {d:DsS} {c:CoS} {n:Nat},Stable Ψ→AtD Φ2 cb k0.sb q0.db Ψ k s p q d c n→Ctx W w ((CoO p q c++(dkL q d++(SkO k s++R1)))++G) Ψ→Ctx W w R1 Φ:=fun {w G Ψ cb k s p q d c n} st A cx=>(A.a.fin cx).weak dn2
  refine exI_mk (fun R' Φ'=>∃ (k:KP) (s:SkD) (p:CoP) (q:DkP) (d:DsS) (c:CoS) (x:StoS) (b:Bool),AtD Φ2 p0.cb k0.sb q0.db Φ' k s p q d c 90∧CoJ d (some c) s x b∧QS (bO z) (lO z) z.next x∧s.key=[]∧d.lost=0∧R'=CoO p q c++(dkL q d++(SkO k s++R1))) ⟨?_,?_⟩
  · -- the calls,on a disk that may crash
    refine exI_mk (fun n R' Φ' m=>∃ (j:Nat) (k:KP) (s:SkD) (p:CoP) (q:DkP) (d:DsS) (c:CoS) (x:StoS) (b:Bool),n=j∧j+m=4∧AtD Φ2 p0.cb k0.sb q0.db Φ' k s p q d c (18+18 * j)∧CoJ d (some c) s x b∧QS (bO z) (lO z) z.next x∧s.key=[]∧d.lost=0∧(j=0→c.now=stC0∧s.lines=[]∧x=stoN)∧R'=CoO p q c++(dkL q d++(SkO k s++R1))) ⟨⟨_,Ψ,4,st,fun w G cx=>cx,0,k0,newK kind [],p0,q,_,c0,stoN,false,rfl,rfl,A,J0.frame A.a.H.hq.w rfl,.new,rfl,hlost0,fun _=>⟨hP0,rfl,rfl⟩,rfl⟩,?_⟩
    clear A st
    rintro n R' Ψ m st ⟨j,k,s,p,q,d,c,x,b,rfl,hjm,A,J,Q,hkey,hlost,h0,rfl⟩
    refine Br.intro (fun hlt=>fun w G cx => ?_) (fun hge => ?_)
    · have hlt:j < 4:=by have:=of_decide_eq_true hlt; omega
      obtain ⟨m,rfl⟩:∃ m',m=m'+1:=⟨m - 1,by omega⟩
      have hw:=(J.co c rfl).w
      have hcall:=opX_call (kind:=(j:Int)) J O.b O.n (linesO_w (batchC_64 (last:=c.now.last) O.b) (f:=(s.lines.length:Int)+1) (by have:=A.a.H.hs.lines; omega) O.len O.w) O.len O.next
      have hkp:=opX_keep d c s z (j:Int)
      have hlo:=opX_lost hlost c s z (j:Int)
      have hky:=opX_key d c s z (j:Int)
      have hsz:=opX_s (d:=d) (c:=c) (o:=z) (kind:=(j:Int)) A.a.H.hs (by omega) J.sk.arow hw.few
      obtain ⟨⟨d',c',s',er⟩,hr⟩:∃ r,opX d c s z (j:Int)=r:=⟨_,rfl⟩
      rw [hr] at hcall hkp hlo hky hsz
      obtain ⟨x',hx',J'⟩:=hcall.to
      have Q':QS (bO z) (lO z) z.next x':=by
        by_cases hj0:j=0
        · obtain ⟨e1,e2,e3⟩:=h0 hj0
          subst hj0
          rw [e1,e2,e3] at hx'
          exact QS.begin.fits hB.1 hx'
        · exact (Q.follow (by omega)).fits hB.1 hx'
      refine DoesS_use (S:=R1++G) (o:=z) A.a.H A.a.cb A.a.sb (by omega) (hL fun M w h=>dn2 M w (A.a.dn M w h)) O.len O.row O.b O.n O.next hr (cx.re lay1) (A.go hkp (J'.co c' rfl).w J'.sk.i hsz fun Ψ k p q st A=>⟨by unfold I64; omega,_,Ψ,m,st,fun w G cx=>cx,⟨j+1,k,s',p,q,d',c',x',_,by omega,by omega,⟨A.a.more (by omega),A.db⟩,J',Q',hky.1.trans hkey,hlo,(fun h=>by omega),rfl⟩,Nat.lt_succ_self _⟩)
    · have hj:j=4:=by have:=of_decide_eq_false hge; omega
      subst hj
      exact ⟨_,Ψ,st,fun w G cx=>cx,k,s,p,q,d,c,x,b,A,J,Q,hkey,hlost,rfl⟩
  clear A st hP0 J0 hlost0
  rintro R' Ψ st ⟨k,s,p,q,d,c,x,b,A,J,Q,hkey,hlost,rfl⟩
  refine fun w G cx=>ArmA A (m:=0) (by unfold I64; omega) (l:=[]) rfl (Nat.zero_le _) (fun M w h=>Sl.nil) cx (fun q Ψ st A=>fun w G cx => ?_)
  refine AgainA A (J.frame A.a.H.hq.w rfl).disk (again_fine hlost keep) rfl (by omega) (fun M w h=>hkeep M w (dn2 M w (A.a.dn M w h))) cx (fun q d p9 c Ψ st A J dh=>fun w G cx=>Br.intro (fun h=>absurd h (by simp)) (fun _=>fun w G cx => ?_))
  have hw:=(J.co c rfl).w
  obtain ⟨e1,e2,_⟩:=recover_end J dh
  have hcall:=recover_call (batch:=0) (lines:=[]) (next:=.empty) J
  have hkp:=recoverC_keep d c s
  have hky:=recover_key d c s
  have hsz:=recover_s (d:=d) (c:=c) A.a.H.hs (by decide) J.sk.arow hw.few
  obtain ⟨⟨d1,c1,s1,er⟩,hr⟩:∃ r,recoverC d c s=r:=⟨_,rfl⟩
  rw [hr] at hcall hkp hky hsz e1 e2
  obtain ⟨x1,hx1,J1⟩:=hcall.to
  have dh1:=hcall.fine dh rfl
  have e1:er=0:=e1
  subst e1
  rw [follow_no (.inr (.inr ⟨by decide,by decide⟩))] at hx1
  have Q1:=Q.fits hB.1 hx1
  have J1:CoJ d1 (some c1) s1 x1 false:=J1
  have f1:FinC d1 c1 (stI x1.last x1.check):=idle_is J1 dh1 e2
  have hkey1:s1.key=[]:=hky.1.trans hkey
  have hl1:lastK s1=x1.last:=J1.sk.last
  have ht1:s1.lines=x1.taken:=J1.sk.lines
  have hc1:c1.now.last=lastK s1:=by rw [f1.now,hl1]
  refine RecoverS_use (S:=R1++G) A.a.H A.a.cb A.a.sb (by decide) hr (cx.re lay1) (A.go hkp (J1.co c1 rfl).w J1.sk.i hsz fun Ψ k p q st A=>Br.intro (fun h=>absurd rfl (of_decide_eq_true h)) (fun _=>fun w G cx => ?_))
  have B1:StageB s1:=⟨J1.sk.i,hkey1,J1.sk.arow,J1.sk.kind⟩
  have hcase:(lastK s1=bO z∧FinC d1 c1 (stI (bO z) z.next)∧s1.lines=lO z)∨(lastK s1=0∧FinC d1 c1 stC0∧s1.lines=[]):=by
    rcases Q1.have_ with ⟨g1,g2,g3⟩ | ⟨g1,g2,g3⟩
    · exact .inr ⟨by rw [hl1,g2],by rw [g2,g3] at f1; exact f1,by rw [ht1,g1]⟩
    · exact .inl ⟨by rw [hl1,g2],by rw [g2,g3] at f1; exact f1,by rw [ht1,g1]⟩
  clear J Q hkey hlost J1 Q1 hx1 hcall e2 f1
  refine SkLastS_use A.a.sb A.a.H.hkq cx (Br.intro (fun hz=>fun w G cx=>SkLastS_use A.a.sb A.a.H.hkq cx (Br.intro (fun h=>absurd (hcase.elim (fun g=>g.1) (fun g=>absurd g.1 (of_decide_eq_true hz))) (of_decide_eq_true h)) (fun _=>fun w G cx=>SkLastS_use A.a.sb A.a.H.hkq cx (fun w G cx=>LastS_use A.a.cb cx (Br.intro (fun h=>absurd h (by rw [hc1]; simp)) (fun _ => ?fin1))))))
    (fun hz=>fun w G cx=>SkLastS_use A.a.sb A.a.H.hkq cx (fun w G cx=>LastS_use A.a.cb cx (Br.intro (fun h=>absurd h (by rw [hc1]; simp)) (fun _ => ?fin2)))))
  case fin1 | fin2 =>
    refine exI_mk (fun R' Φ'=>∃ (k:KP) (s:SkD) (p:CoP) (q:DkP) (d:DsS) (c:CoS),AtD Φ2 p9.cb k0.sb q0.db Φ' k s p q d c 400∧FinC d c (stI (bO z) z.next)∧s.lines=lO z∧lastK s=bO z∧R'=CoO p q c++(dkL q d++(SkO k s++R1))) ⟨?_,?_⟩
    · refine fun w G cx=>SkLastS_use A.a.sb A.a.H.hkq cx (Br.intro (fun hz2 => ?_) (fun hz2 => ?_))
      · have hz2:=of_decide_eq_true hz2
        rcases hcase with ⟨g,_⟩ | ⟨g1,g2,g3⟩
        · have hz2:lastK s1=0:=hz2
          omega
        refine fun w G cx=>SkLinesS_use (s:=s1) A.a.sb cx (Br.intro (fun h=>absurd (by rw [g3]; rfl) (of_decide_eq_true h)) (fun _=>fun w G cx=>CheckS_use A.a.cb cx ?_))
        have ck:checkC c1=ByteArray.mk #[]:=by unfold checkC; rw [g2.now]; rfl
        rw [ck]
        refine Br.intro (fun h=>absurd rfl (of_decide_eq_true h)) (fun _ => ?_)
        refine exI_mk (fun n R' Φ' m=>∃ (j:Nat) (k:KP) (s:SkD) (p:CoP) (q:DkP) (d:DsS) (c:CoS),n=j∧j+m=4∧AtD Φ2 p9.cb k0.sb q0.db Φ' k s p q d c (200+18 * j)∧StageB s∧StageQ z j d c s∧R'=CoO p q c++(dkL q d++(SkO k s++R1))) ⟨⟨_,Ψ,4,st,fun w G cx=>cx,0,k,s1,p,q,d1,c1,rfl,rfl,⟨A.a.more (by decide),A.db⟩,B1,.inl ⟨rfl,g2,g3,g1⟩,rfl⟩,?_⟩
        clear A st B1 hsz hky hkp hr hl1 ht1 hc1 dh1 hw cx
        rintro n R' Ψ m st ⟨j,k,s,p,q,d,c,rfl,hjm,A,hB1,hQ,rfl⟩
        refine Br.intro (fun hlt=>fun w G cx => ?_) (fun hge => ?_)
        · have hlt:j < 4:=by have:=of_decide_eq_true hlt; omega
          obtain ⟨m,rfl⟩:∃ m',m=m'+1:=⟨m - 1,by omega⟩
          obtain ⟨d',c',s',e,hB2,hQ2⟩:=stage_step O hB1 hQ hlt
          have hkp:=opX_keep d c s z (j:Int)
          have hsz:=opX_s (d:=d) (c:=c) (o:=z) (kind:=(j:Int)) A.a.H.hs (by omega) hB1.arow hQ.w.few
          rw [e] at hkp hsz
          exact DoesS_use (S:=R1++G) (o:=z) A.a.H A.a.cb A.a.sb (by omega) (hL fun M w h=>dn2 M w (A.a.dn M w h)) O.len O.row O.b O.n O.next e (cx.re lay1) (A.go hkp hQ2.w hB2.i hsz fun Ψ k p q st A=>Br.intro (fun h=>absurd rfl (of_decide_eq_true h)) (fun _=>⟨by unfold I64; omega,_,Ψ,m,st,fun w G cx=>cx,⟨j+1,k,s',p,q,d',c',by omega,by omega,⟨A.a.more (by omega),A.db⟩,hB2,hQ2,rfl⟩,Nat.lt_succ_self _⟩))
        · have hj:j=4:=by have:=of_decide_eq_false hge; omega
          subst hj
          rcases hQ with ⟨h,_⟩ | ⟨h,_⟩ | ⟨h,_⟩ | ⟨h,_⟩ | ⟨_,f,h1,h2⟩
          · omega
          · omega
          · omega
          · omega
          exact ⟨_,Ψ,st,fun w G cx=>cx,k,s,p,q,d,c,⟨A.a.more (by decide),A.db⟩,f,h1,h2,rfl⟩
      · rcases hcase with ⟨g1,g2,g3⟩ | ⟨g1,_⟩
        · exact ⟨_,Ψ,st,fun w G cx=>cx,k,s1,p,q,d1,c1,⟨A.a.more (by decide),A.db⟩,g2,g3,g1,rfl⟩
        · exact absurd g1 (of_decide_eq_false hz2)
    · clear A st B1 hsz hky hkp hr hl1 ht1 hc1 dh1 hw hcase
      rintro R' Ψ st ⟨k,s,p,q,d,c,A,f,hl,hla,rfl⟩
      refine Br.intro (fun _=>fun w G cx => ?_) (fun h=>by cases h)
      have ck:checkC c=z.next:=by unfold checkC; rw [f.now]; rfl
      refine PhaseS_use A.a.cb cx ⟨_,Ψ,st,fun w G cx=>cx,Br.intro (fun _=>fun w G cx=>LastS_use A.a.cb cx ⟨fun w G cx=>cx,_,Ψ,st,fun w G cx=>cx,Br.intro (fun _=>fun w G cx=>CheckS_use A.a.cb cx ⟨fun w G cx=>cx,_,Ψ,st,fun w G cx=>cx,?_⟩) (fun h=>absurd (by rw [f.now]) (of_decide_eq_false h))⟩) (fun h=>absurd (by rw [f.now]) (of_decide_eq_false h))⟩
      rw [ck]
      refine Br.intro (fun _=>fun w G cx => ?_) (fun h=>absurd rfl (of_decide_eq_false h))
      refine SkLastS_use (s:=s) A.a.sb A.a.H.hkq cx ⟨fun w G cx=>cx,_,Ψ,st,fun w G cx=>cx,Br.intro (fun _=>fun w G cx => ?_) (fun h=>absurd hla (of_decide_eq_false h))⟩
      refine SkListS_use (s:=s) A.a.H.hS A.a.sb A.a.H.hkq A.a.H.hI A.a.H.hs (by decide) cx (fun pl cl st2=>⟨fun w G cx=>cx.weak fun M w h=>h.1,fun w G cx => ?_⟩)
      have A2:=A.a.weak (Ψ:=fun M w=>Ψ M w∧Sl M w pl s.lines) fun M w h=>h.1
      have hln:=A.a.H.hs.lines
      refine (SameLn_in (Φ:=fun M w=>Ψ M w∧Sl M w pl s.lines) (a:=s.lines) (b:=linesO z (bO z) 1) (fun M w h=>h.2) (fun M w h=>sl2 M w (A2.dn M w h)) (by omega) (fun x hx=>by have:=right_len (A.a.H.hI.row x hx); omega)).toB cx (fun w G cx => ?_)
      exact ⟨by rw [hl,decide_eq_true rfl],(A2.fin cx).weak dn2⟩
end
end Go.Proofs.YtfccagphnfceiaaGreatDoor
end

section
namespace Go.Proofs.YtfccagphnfceiaaGreatDoor
open Go.Vc Go.RowKit
theorem la_row (u:TypeId) (h:Tryz.prog.typeName? 3 u=some "*errors.errorString"):u=240 :=
  typeName_ptr_named (nm := "errors.errorString") (by rw [show "*" ++ "errors.errorString" = "*errors.errorString" by decide]; kernel_rfl) (by kernel_rfl) (by decide) u (by rw [show "*" ++ "errors.errorString" = "*errors.errorString" by decide]; exact h)
theorem la_err {n:String} {text:List UInt8} {r:List (String × DataW Unit)} {W:World} {g:Nat} (h:laidMet Tryz.prog ((n,.iface "*errors.errorString" (.ptr (.agg [.lit (.string text)]))) :: r) W)
    (hg:Tryz.prog.globalNamed n=some g) (ht:(Tryz.prog.globals[g]?).map (·.type)=some 167):ErrAt g [] W:=by
  obtain ⟨a,s,hv,_⟩:=laid_sentinel h hg ht Tryz.underlying167 la_row Tryz.underlying240 Tryz.underlying242 rfl rfl Tryz.underlying9 (by kernel_rfl) (by kernel_rfl)
  exact ⟨by simp,_,by have h0:=World.var?_cell hg hv 0; simpa using h0,.inr ⟨_,_,rfl⟩⟩
abbrev LaidI:PW:=fun M w=>NumI M w∧OffI M w
theorem la_num {W:World} (h:laidMetH Tryz.prog Rows.commitAnywhereRow.laid W):LaidI [] W:=by
  rw [MakeChecks.laidMetH_plain Tryz.prog Rows.commitAnywhereRow.laid W (by kernel_rfl)] at h
  have h2:=h.tail.tail
  exact ⟨⟨Tab.start (Lib.tabIs_of_head (k:=.u64) (zs:=Lib.pow10Tab) (g:=1) (t:=229) (e:=216) (n:=20) (by kernel_rfl) (by kernel_rfl) (by kernel_rfl) (by kernel_rfl) (by kernel_rfl) (by kernel_rfl) h2),
    la_err h2.tail.tail.tail (by kernel_rfl) (by kernel_rfl),la_err h2.tail.tail (by kernel_rfl) (by kernel_rfl)⟩,
    Tab.start (Lib.tabIs_of_head (k:=.i64) (zs:=[0,64,131072]) (g:=0) (t:=123) (e:=3) (n:=3) (by kernel_rfl) (by kernel_rfl) (by kernel_rfl) (by kernel_rfl) (by kernel_rfl) (by kernel_rfl) h2.tail)⟩
end Go.Proofs.YtfccagphnfceiaaGreatDoor
end

section
namespace Go.Proofs.YtfccagphnfceiaaGreatDoor
open Go.ChangeShapes Go.WideShapes Go.ChangeAt Go.RowKit Go.Vc
theorem df_own:ownKnob Tryz.prog.godebug=none:=by kernel_rfl
theorem df_laid:laidOutB Tryz.prog=true:=by kernel_rfl
theorem trodAll_n {H:Type} {enc:TypeId × Value→H} {P:Program} {w:World} {base:Nat} {spare:Nat→Bool} {held:Bool} {t0 t1 t2 t3:TypeId} {args:Array Value} {ds:List (DataW H)} {ps:List MemPlace} (h:DataW.TrodAll enc P w base spare held [t0,t1,t2,t3] args.toList ds ps) :
    ∃ v0 v1 v2 v3 d0 d1 d2 d3 p0 p1 p2 p3,args=#[v0,v1,v2,v3]∧ds=[d0,d1,d2,d3]∧ps=p0++p1++p2++p3∧DataW.Trod enc P w base spare held t0 v0 d0 p0∧DataW.Trod enc P w base spare held t1 v1 d1 p1∧DataW.Trod enc P w base spare held t2 v2 d2 p2∧DataW.Trod enc P w base spare held t3 v3 d3 p3:=by
  obtain ⟨v0,vs0,d0,ds0,p0,q0,hargs,rfl,rfl,h0,h⟩:=trodAll_cons h
  obtain ⟨v1,vs1,d1,ds1,p1,q1,rfl,rfl,rfl,h1,h⟩:=trodAll_cons h
  obtain ⟨v2,vs2,d2,ds2,p2,q2,rfl,rfl,rfl,h2,h⟩:=trodAll_cons h
  obtain ⟨v3,vs3,d3,ds3,p3,q3,rfl,rfl,rfl,h3,h⟩:=trodAll_cons h
  obtain ⟨rfl,rfl,rfl⟩:=trodAll_nil h
  exact ⟨v0,v1,v2,v3,d0,d1,d2,d3,p0,p1,p2,p3,by cases args; simp_all,rfl,by simp,h0,h1,h2,h3⟩
theorem door_met (os:Os) (args:Array Value):laidMetH Tryz.prog Rows.commitAnywhereRow.laid ((World.doorLaid Tryz.prog 400 os).forCall (fun _ _=>0) ⟨#[],args,[]⟩).memory :=
  laidMetH_of_parts3 (fuel:=8) (laidMet_of_run' 8 (by kernel_rfl) (by kernel_rfl)) (by kernel_rfl) (by kernel_rfl)
set_option maxRecDepth 100000 in
theorem law_lifted (os:Os) (started:os.Started) (H:Type) (enc:TypeId × Value→H) :
    ReturnsInHanded {} Tryz.checked os 3 .any (fun w args=>(Rows.commitAnywhereSpec.pre enc Tryz.prog Tryz.f3 Rows.commitAnywhereRow.domain false w args∧laidMetH Tryz.prog Rows.commitAnywhereRow.laid w)∧sizedMet enc Tryz.prog Tryz.f3 (OpenSpec.ofChange Rows.commitAnywhereSpec) false w args) (Rows.commitAnywhereSpec.post enc Tryz.prog Tryz.f3 false true false false):=by
  refine lawTrueLaid (C:=Tryz.checked) (tb:=4) df_own started (by kernel_rfl) Tryz.func3 df_laid rfl ?_ rfl Tryz.underlying4 (by kernel_rfl)
    (ChangeSpec.witness_shaped (enc:=enc) (C:=Tryz.checked) (os:=os) (X:=fun w _=>laidMetH Tryz.prog Rows.commitAnywhereRow.laid w) false (World.doorLaid Tryz.prog 400 os) #[.int .i64 0,.agg #[.int .i64 0,.int .i64 0,.int .i64 0,.slice none 0 0,.string .empty,.slice none 0 0,.bool false],.int .i64 0,.slice none 0 0] 8 rfl (World.shaped_of_RefB (by kernel_rfl) (by kernel_rfl)) (by kernel_rfl) (by kernel_rfl) (by kernel_rfl) (door_met os _)) ?_
  · intro ds hd
    match ds,hd with
    | [_,_,_,_],_=>exact ⟨rfl,rfl,rfl⟩
  · intro W base args ds p hval0 hA0 _ hL
    have hval:∀ (j:Nat) t v,Tryz.f3.params[j]? = some t→args[j]? = some v→Value.okWide Tryz.prog W .any base t v:=hval0
    have hA:DataW.TrodAll enc Tryz.prog W 0 (fun _=>true) true Tryz.f3.params.toList args.toList ds p:=hA0
    rw [Tryz.params3] at hA hval
    obtain ⟨v0,v1,v2,v3,d0,d1,d2,d3,p0,p1,p2,p3,rfl,rfl,rfl,h0,h1,h2,h3⟩:=trodAll_n hA
    obtain ⟨kind,rfl,rfl,rfl,kindw⟩:=open_int Tryz.underlying3 (hval 0 3 v0 rfl rfl) h0
    obtain ⟨ocs,o,rfl,s1⟩:=open_agg (α:=OpC) 12 Tryz.underlying25 (hval 1 25 v1 rfl rfl) (by kernel_rfl) h1
    obtain ⟨op1,oc1,op2,oc2,rfl,_⟩:=opc_cells s1
    obtain ⟨call,rfl,rfl,rfl,callw⟩:=open_int Tryz.underlying3 (hval 2 3 v2 rfl rfl) h2
    obtain ⟨keepp,keepc,keep,rfl,keepa,keepb,s3⟩:=open_sl (α:=Int) 12 Tryz.underlying23 (hval 3 23 v3 rfl rfl) (by kernel_rfl) h3
    have st0:Stable (fun M w=>Sl M w keepp keep):=inferInstance
    have st1:Stable (fun M w=>Gv.rep M w (o.cells op1 oc1 op2 oc2) o∧Sl M w keepp keep):=instStableAnd (fun M w=>Gv.rep M w (o.cells op1 oc1 op2 oc2) o) (fun M w=>Sl M w keepp keep)
    have st2:Stable (fun M w=>LaidI M w∧Gv.rep M w (o.cells op1 oc1 op2 oc2) o∧Sl M w keepp keep):=instStableAnd (fun M w=>LaidI M w) (fun M w=>Gv.rep M w (o.cells op1 oc1 op2 oc2) o∧Sl M w keepp keep)
    have fin:GivesIn (fun M w=>LaidI M w∧Gv.rep M w (o.cells op1 oc1 op2 oc2) o∧Sl M w keepp keep) Tryz.prog 3 _ (.bool true):=Anyw_in (kind:=kind) (call:=call) (Φ:=(fun M w=>LaidI M w∧Gv.rep M w (o.cells op1 oc1 op2 oc2) o∧Sl M w keepp keep)) ⟨fun _ _ h=>h.1.1,fun _ _ h=>h.1.2⟩ (lp:=op1) (lc:=oc1) (kp:=op2) (kc:=oc2) (o:=o) (xp:=keepp) (xc:=keepc) (keep:=keep) (fun _ _ h=>h.2.1) (fun _ _ h=>h.2.2)
    exact fin.law ⟨la_num hL,s1,s3⟩
theorem row_holds:Rows.CommitAnywhereSaid :=
  OpenClaim.holds_of_wide 3 Tryz.f3 rfl rfl rfl rfl rfl rfl rfl ⟨rfl,rfl,rfl,rfl,rfl⟩ rfl rfl rfl rfl rfl (by kernel_rfl) Tryz.func3 (by kernel_rfl)
    (of_decide_eq_true (by kernel_rfl)) (by unfold Func.isWrapper; first | (rw [if_pos (by decide +kernel)]; kernel_rfl) | (rw [if_neg (by decide +kernel)]; exact ⟨rfl,rfl⟩))
    (fun os started H enc _=>law_lifted os started H enc)
theorem anywhere_holds:Rows.CommitAnywhereCardSaid :=
  Claim7.holds_tied_plain_at .later [] [.data,.data,.data,.data,.sentinel,.sentinel] true Rows.commitAnywhereCard.stood.harness true
    row_holds (fun _ h=>by cases h) (by kernel_rfl) (fun _ h=>by cases h) commitAnywhere_row_tie rfl ⟨rfl,rfl⟩ (by kernel_rfl) rfl
    (fun f fn hf hfn=>by
      obtain rfl:f=3:=Option.some.inj ((show Tryz.prog.funcNamed Rows.commitAnywhereRow.func=some 3 by kernel_rfl).symm.trans hf) |>.symm
      obtain rfl:fn=Tryz.f3:=(Option.some.inj (Tryz.func3.symm.trans hfn)).symm
      exact ⟨by kernel_rfl,fun j t ht=>by
        rw [Tryz.params3] at ht
        have hm:=Array.mem_of_getElem? ht
        have hall:((Tryz.f3.params.toList).all fun u => !Tryz.prog.wantsStandIn u)=true:=by kernel_rfl
        rw [Tryz.params3] at hall
        exact (show Tryz.prog.wantsStandIn t=false by simpa using List.all_eq_true.1 hall t (by simpa using hm))⟩)
    (by kernel_rfl)
end Go.Proofs.YtfccagphnfceiaaGreatDoor
end

