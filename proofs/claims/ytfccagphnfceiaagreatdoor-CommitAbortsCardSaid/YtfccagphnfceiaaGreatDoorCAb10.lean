/-
  A coordinator in memory: opening it,a step,what it says of itself: walked.
-/
import Derived.Test.YtfccagphnfceiaaGreatDoorCAb9
import Derived.Test.YtfccagphnfceiaaGreatDoorCAb7
import Derived.Test.YtfccagphnfceiaaGreatDoorCAb8
import Derived.Test.YtfccagphnfceiaaGreatDoorCAb6
import Derived.Test.YtfccagphnfceiaaGreatDoorCAb5

set_option linter.unusedVariables false
set_option linter.unusedSimpArgs false
section
namespace Go.Proofs.YtfccagphnfceiaaGreatDoor
open Go.Vc
structure CoP where
  cb:Nat
  kb:Nat
  lp:Option Addr
  lc:Nat
abbrev coB (p:CoP) (c:CoS):List Value:=[.pointer (some ⟨p.kb,0,none⟩),.int .i64 c.now.last,.int .i64 c.now.phase,.string c.now.check,.int .i64 c.now.batch,.int .i64 c.now.mark,.string c.now.next,.slice p.lp c.now.lines.length p.lc,.bool c.prep,.bool c.stop]
abbrev CoO (p:CoP) (q:DkP) (c:CoS):List Own:=[.blk p.cb (coB p c) 102,clO p.kb q c.cell]
abbrev CoF (p:CoP) (c:CoS):PW:=fun M w=>Sl M w p.lp c.now.lines
structure CE (Φ:PW):Prop where
  num:∀ M w,Φ M w→NumI M w
  off:∀ M w,Φ M w→OffI M w
theorem CE.weak {Φ Ψ:PW} (h:CE Φ) (e:∀ M w,Ψ M w→Φ M w):CE Ψ:=⟨fun M w hp=>h.num M w (e M w hp),fun M w hp=>h.off M w (e M w hp)⟩
theorem CE.tab {Φ:PW} (h:CE Φ):∀ M w,Φ M w→TabI M w:=fun M w hp=>(h.num M w hp).1
abbrev notP (p:CoP) (lp:Option Addr) (lc:Nat) (e:Int):CoP:=if e=0 then ⟨p.cb,p.kb,lp,lc⟩ else p
section
variable {W w:World} {S R G:List Own} {Φ:PW}
theorem co_in [Stable Φ] {o k:Own} {X S G:List Own} (cx:Ctx W w ((o :: k :: (X++S))++G) Φ):Ctx W w (k :: (X++(o :: (S++G)))) Φ:=cx.perm (by
  show (o :: k :: ((X++S)++G)).Perm _
  rw [List.append_assoc]
  exact (List.Perm.swap _ _ _).trans (List.perm_middle.symm.cons _))
theorem co_out [Stable Φ] {o k:Own} {X S G:List Own} (cx:Ctx W w (k :: (X++(o :: (S++G)))) Φ):Ctx W w ((o :: k :: (X++S))++G) Φ:=cx.perm (by
  show List.Perm _ (o :: k :: ((X++S)++G))
  rw [List.append_assoc]
  exact (List.perm_middle.cons _).trans (List.Perm.swap _ _ _))
def DoPost (W:World) (p:CoP) (q:DkP) (d:DsS) (c:CoS) (G:List Own) (K:Ending→World→Prop) (e:Ending) (w':World):Prop :=
  ∃ (x:StC) (er:Int) (lp:Option Addr) (lc:Nat) (S':List Own) (Φ':PW),e=.returned (.tuple #[stV x lp lc,.int .i64 er])∧Stable Φ'∧Ctx W w' ((CoO p q c++(dkL q d++S'))++G) Φ' ∧
      (er≠0→∀ w,Ctx W w (CoO p q c++(dkL q d++S')) Φ'→K (.returned (.int .i64 er)) w) ∧
      (er=0→DkQ q d∧DkK Φ' q d∧CE Φ'∧StF x∧(∀ M w,Φ' M w→Sl M w lp x.lines) ∧
        ∀ u w,DkQ (q.mv u) (noteC d c x).1→Ctx W w (CoO (notP p lp lc (noteC d c x).2.2) q (noteC d c x).2.1++(dkL (q.mv u) (noteC d c x).1++S')) Φ'→K (.returned (.int .i64 (noteC d c x).2.2)) w)
def EndK (W:World) (G:List Own) (K:Ending→World→Prop) (e:Ending) (w':World):Prop :=
  ∃ n,e=.returned (.int .i64 n)∧∃ R Φ',Stable Φ'∧Ctx W w' (R++G) Φ'∧∀ w G',Ctx W w (R++G') Φ'→K (.returned (.int .i64 n)) w
set_option maxHeartbeats 2000000 in
theorem step_use [Stable Φ] {p:CoP} {q:DkP} {d:DsS} {c:CoS} {f:FuncId} {doC:Array Value} {phase:Int} (hf:okFun Tryz.prog f=true) (cx:Ctx W w (CoO p q c++(dkL q d++S)) Φ) {K:Ending→World→Prop}
    (hs:c.stop=true→∀ w,Ctx W w (CoO p q c++(dkL q d++S)) Φ→K (.returned (.int .i64 9)) w)
    (hp:c.stop=false→c.now.phase≠phase→∀ w,Ctx W w (CoO p q c++(dkL q d++S)) Φ→K (.returned (.int .i64 7)) w)
    (hdo:c.stop=false→c.now.phase=phase→∀ w G,Ctx W w ((CoO p q c++(dkL q d++S))++G) Φ→Calls Tryz.prog f (Array.mk doC.toList) w (DoPost W p q d c G K)) :
    Calls Tryz.prog F.commit_Coordinator_step #[.pointer (some ⟨p.cb,0,none⟩),.int .i64 phase,.func (.func f) #[] doC] w K:=by
  refine (Bcommit_Coordinator_step_run p.cb 0 phase f doC (J:=fun u w'=>K (.returned u) w') cx fun w G cx=>⟨c.stop,cx.get 0 rfl rfl,Br.intro (fun h=>fun w G cx=>hs h w cx.left) (fun h=>fun w G cx=>⟨c.now.phase,cx.get 0 rfl rfl,Br.intro (fun h2=>fun w G cx=>hp h (of_decide_eq_true h2) w cx.left) (fun h2=>fun w G cx=>⟨hf,?_⟩)⟩)⟩).mono fun e w' ⟨v,he,hj⟩=>by rw [he]; exact hj
  refine (hdo h (Decidable.not_not.1 (of_decide_eq_false h2)) w G cx).mono fun e w' ⟨x,er,lp,lc,S',Φ',he,st,cx,h3,h4⟩=>⟨x.last,x.phase,x.check,x.batch,x.mark,x.next,lp,x.lines.length,lc,er,he,CoO p q c++(dkL q d++S'),Φ',st,cx,fun _=>Br.intro (fun h5=>fun w G cx=>h3 (of_decide_eq_true h5) w cx.left) (fun h5 => ?_)⟩
  obtain ⟨hq,hk,hE,hF,hl,hK⟩:=h4 (Decidable.not_not.1 (of_decide_eq_false h5))
  have hT:Has Φ' TabI:=⟨hE.tab⟩
  refine ⟨CoO p q c++(dkL q d++S'),Φ',st,fun w G cx=>cx,some ⟨p.kb,0,none⟩,fun w G cx=>⟨_,cx.get 0 rfl rfl,rfl⟩,fun w G cx=>(form_inC (p:=lp) (cap:=lc) hl hF).use cx fun w cx=>⟨_,rfl,CoO p q c++(dkL q d++S'),Φ',st,cx,fun w G cx=>cx,fun w G cx => ?_⟩⟩
  refine CSet_use (S:=.blk p.cb (coB p c) 102 :: (S'++G)) hq hk hE.off (co_in cx) fun u w hq2 cx => ?_
  unfold noteC at hK
  obtain ⟨⟨d1,c1,e1⟩,hr⟩:∃ r,setC d c.cell (formC x)=r:=⟨_,rfl⟩
  rw [hr] at hq2 cx hK ⊢
  simp only at hq2 cx hK ⊢
  have hK:=hK u
  refine ⟨e1,rfl,.blk p.cb (coB p c) 102 :: clO p.kb q c1 :: (dkL (q.mv u) d1++S'),Φ',st,co_out cx,Br.intro (fun h6=>fun w G cx => ?_) (fun h6=>Br.intro (fun h7=>fun w G cx => ?_) (fun h7=>absurd (Decidable.not_not.1 (of_decide_eq_false h7)) (of_decide_eq_false h6)))⟩
  · have h6:=of_decide_eq_true h6
    rw [if_pos h6] at hK
    simp only at hK
    refine ⟨cx.can 0 rfl (by simp),fun w' hw'=>⟨.blk p.cb (coB ⟨p.cb,p.kb,lp,lc⟩ ⟨c1,x,c.prep,c.stop⟩) 102 :: clO p.kb q c1 :: (dkL (q.mv u) d1++S'),Φ',st,cx.puts 0 hw' rfl,fun w G cx=>⟨cx.can 0 rfl (by simp),fun w' hw'=>⟨.blk p.cb (coB ⟨p.cb,p.kb,lp,lc⟩ ⟨c1,x,false,c.stop⟩) 102 :: clO p.kb q c1 :: (dkL (q.mv u) d1++S'),Φ',st,cx.put 0 hw' rfl,Br.intro (fun h8=>absurd h6 (of_decide_eq_true h8)) (fun _=>fun w G cx=>⟨cx.can 0 rfl (by simp),fun w' hw'=>⟨.blk p.cb (coB ⟨p.cb,p.kb,lp,lc⟩ ⟨c1,x,false,false⟩) 102 :: clO p.kb q c1 :: (dkL (q.mv u) d1++S'),Φ',st,cx.put 0 hw' rfl,fun w G cx => ?_⟩⟩)⟩⟩⟩⟩
    rw [h6]
    exact hK w hq2 cx.left
  · have h7:=of_decide_eq_true h7
    rw [if_neg h7] at hK
    simp only at hK
    have e:notP p lp lc e1=p:=if_neg h7
    rw [e] at hK
    exact ⟨cx.can 0 rfl (by simp),fun w' hw'=>⟨.blk p.cb (coB p ⟨c1,c.now,c.prep,decide (e1≠6)⟩) 102 :: clO p.kb q c1 :: (dkL (q.mv u) d1++S'),Φ',st,cx.put 0 hw' rfl,fun w G cx=>hK w hq2 cx.left⟩⟩
theorem Phase_q [Stable Φ] {p:CoP} {q:DkP} {c:CoS}:GivesQ (CoO p q c) Φ Tryz.prog F.commit_Coordinator_Phase #[.pointer (some ⟨p.cb,0,none⟩)] (.int .i64 c.now.phase) :=
  gives_q (Bcommit_Coordinator_Phase_run p.cb 0) fun W R=>fun w G cx=>⟨_,cx.get 0 rfl rfl,fun w G cx=>⟨rfl,cx.left⟩⟩
theorem LastC_q [Stable Φ] {p:CoP} {q:DkP} {c:CoS}:GivesQ (CoO p q c) Φ Tryz.prog F.commit_Coordinator_Last #[.pointer (some ⟨p.cb,0,none⟩)] (.int .i64 c.now.last) :=
  gives_q (Bcommit_Coordinator_Last_run p.cb 0) fun W R=>fun w G cx=>⟨_,cx.get 0 rfl rfl,fun w G cx=>⟨rfl,cx.left⟩⟩
theorem Check_q [Stable Φ] {p:CoP} {q:DkP} {c:CoS}:GivesQ (CoO p q c) Φ Tryz.prog F.commit_Coordinator_Check #[.pointer (some ⟨p.cb,0,none⟩)] (.string (checkC c)):=by
  refine gives_q (Bcommit_Coordinator_Check_run p.cb 0) fun W R=>fun w G cx=>⟨_,cx.get 0 rfl rfl,Br.intro (fun h=>fun w G cx=>⟨_,cx.get 0 rfl rfl,fun w G cx=>⟨?_,cx.left⟩⟩) (fun h=>fun w G cx=>⟨_,cx.get 0 rfl rfl,fun w G cx=>⟨?_,cx.left⟩⟩)⟩
  · unfold checkC; rw [if_pos (of_decide_eq_true h)]
  · unfold checkC; rw [if_neg (of_decide_eq_false h)]
set_option maxHeartbeats 2000000 in
theorem OpenK_use [Stable Φ] (hE:CE Φ) {q:DkP} {d:DsS} (hq:DkQ q d) (hk:DkK Φ q d) (hlen:∀ k e,openC (syncS d 3).1 3=(some k,e)→k.value.length≤1000000) (cx:Ctx W w (dkL q d++S) Φ) {K:Ending→World→Prop}
    (hn:∀ u w',(openK d 3).2.1=none→DkQ (q.mv u) (openK d 3).1→Ctx W w' (dkL (q.mv u) (openK d 3).1++S) Φ→K (.returned (.tuple #[.pointer none,.int .i64 (openK d 3).2.2])) w')
    (hs:∀ u p c w',(openK d 3).2.1=some c→(openK d 3).2.2=0→DkQ (q.mv u) (openK d 3).1→c.now.lines.length≤p.lc∧p.lc≤maxLen→Ctx W w' (CoO p q c++(dkL (q.mv u) (openK d 3).1++S)) (fun M w=>Φ M w∧CoF p c M w)→K (.returned (.tuple #[.pointer (some ⟨p.cb,0,none⟩),.int .i64 0])) w') :
    Calls Tryz.prog F.commit_Open #[.pointer (some ⟨q.db,0,none⟩),.int .i64 3] w K:=by
  refine (Bcommit_Open_run q.db 0 3 (J:=fun u w'=>K (.returned u) w') cx fun w G cx => ?_).mono fun e w' ⟨v,he,hj⟩=>by rw [he]; exact hj
  refine Sync_use (S:=S++G) hq hk (cx.re (List.append_assoc _ _ _)) fun u w hq1 cx => ?_
  have hkeep:=sync_keep d 3
  unfold openK at hn hs
  simp only at hn hs
  obtain ⟨⟨d1,e1⟩,hr⟩:∃ r,syncS d 3=r:=⟨_,rfl⟩
  rw [hr] at hq1 cx hn hs hkeep hlen ⊢
  simp only at hq1 cx hn hs hkeep hlen ⊢
  refine ⟨e1,rfl,dkL (q.mv u) d1++S,Φ,inferInstance,cx.re (List.append_assoc _ _ _).symm,Br.intro (fun h=>fun w G cx => ?_) (fun h=>fun w G cx => ?_)⟩
  · rw [if_pos (of_decide_eq_true h)] at hn
    exact hn u w rfl hq1 cx.left
  rw [if_neg (of_decide_eq_false h)] at hn hs
  simp only at hn hs
  refine COpen_use (S:=S++G) hq1 hE.off (cx.re (List.append_assoc _ _ _)) (fun e w ho cx => ?_) (fun k kb w ho cx => ?_)
  · have ho1:openC1 d1 3=(none,e):=by unfold openC1; rw [ho]
    rw [ho1] at hn
    refine ⟨none,e,rfl,dkL (q.mv u) d1++S,Φ,inferInstance,cx.re (List.append_assoc _ _ _).symm,Br.intro (fun h2=>fun w G cx=>hn u w rfl hq1 cx.left) (fun h2 => ?_)⟩
    exfalso
    have h2:e=0:=Decidable.not_not.1 (of_decide_eq_false h2)
    rw [h2] at ho
    unfold openC at ho
    split at ho
    · rename_i h3
      injection ho with _ h4
      exact h3 h4
    split at ho
    · injection ho with h4; cases h4
    split at ho
    · injection ho with _ h4; cases h4
    split at ho
    · injection ho with _ h4; cases h4
    split at ho
    · rename_i h3
      injection ho with _ h4
      exact h3 h4
    split at ho
    · injection ho with _ h4; cases h4
    · injection ho with h4; cases h4
  have hkl:=hlen k 0 ho
  have ho1:openC1 d1 3=openC2 k:=by unfold openC1; rw [ho]
  rw [ho1] at hn hs
  refine ⟨some ⟨kb,0,none⟩,0,rfl,clO kb q k :: (dkL (q.mv u) d1++S),Φ,inferInstance,cx.re (congrArg (_ :: ·) (List.append_assoc _ _ _).symm),Br.intro (fun h=>by simp at h) (fun _=>fun cb w G cx => ?_)⟩
  refine CGet_use (S:=.blk cb (coB ⟨cb,kb,none,0⟩ ⟨k,stC0,false,false⟩) 102 :: ((dkL (q.mv u) d1++S)++G)) cx.swap fun w cx=>⟨_,_,rfl,clO kb q k :: .blk cb (coB ⟨cb,kb,none,0⟩ ⟨k,stC0,false,false⟩) 102 :: (dkL (q.mv u) d1++S),Φ,inferInstance,cx,Br.intro (fun h3=>fun w G cx => ?_) (fun h3=>fun w G cx => ?_)⟩
  · have h3 : ¬ k.slot = 0 := by have : 0 < k.slot := by simpa using h3
                                 omega
    unfold openC2 at hn hs
    rw [if_neg h3] at hn hs
    refine ReadC_use hE.num (by omega) cx (fun y lp n lc w hrd cx => ?_) (fun x lp lc w hrd hF hal hxl hc1 hc2 cx => ?_)
    · rw [hrd] at hn
      refine ⟨_,_,_,_,_,_,_,_,_,_,rfl,clO kb q k :: .blk cb (coB ⟨cb,kb,none,0⟩ ⟨k,stC0,false,false⟩) 102 :: (dkL (q.mv u) d1++S),Φ,inferInstance,cx,fun w G cx=>⟨cx.can 1 rfl (by simp),fun w' hw'=>⟨clO kb q k :: .blk cb [.pointer (some ⟨kb,0,none⟩),.int .i64 y.last,.int .i64 y.phase,.string y.check,.int .i64 y.batch,.int .i64 y.mark,.string y.next,.slice lp n lc,.bool false,.bool false] 102 :: (dkL (q.mv u) d1++S),Φ,inferInstance,cx.puts 1 hw' rfl,Br.intro (fun _=>fun w G cx=>hn u w rfl hq1 (Ctx.left (cx.drop1.drop1))) (fun h=>by cases h)⟩⟩⟩
    · rw [hrd] at hs
      have st2:Stable (fun M w=>Φ M w∧Sl M w lp x.lines):=inferInstance
      refine ⟨_,_,_,_,_,_,_,_,_,_,rfl,clO kb q k :: .blk cb (coB ⟨cb,kb,none,0⟩ ⟨k,stC0,false,false⟩) 102 :: (dkL (q.mv u) d1++S),_,st2,cx,fun w G cx=>⟨cx.can 1 rfl (by simp),fun w' hw'=>⟨clO kb q k :: .blk cb (coB ⟨cb,kb,lp,lc⟩ ⟨k,x,false,false⟩) 102 :: (dkL (q.mv u) d1++S),_,st2,cx.puts 1 hw' rfl,Br.intro (fun h=>by cases h) (fun _=>fun w G cx=>hs u ⟨cb,kb,lp,lc⟩ _ w rfl rfl hq1 ⟨hc1,hc2⟩ (Ctx.left cx).swap)⟩⟩⟩
  · have h3 : k.slot = 0 := by have : ¬ 0 < k.slot := by simpa using h3
                               omega
    unfold openC2 at hs
    rw [if_pos h3] at hs
    exact hs u ⟨cb,kb,none,0⟩ _ w rfl rfl hq1 ⟨Nat.le_refl _,Nat.zero_le _⟩ ((Ctx.left cx).swap.weak fun M w h=>⟨h,Sl.nil⟩)
end
end Go.Proofs.YtfccagphnfceiaaGreatDoor
end

section
namespace Go.Proofs.YtfccagphnfceiaaGreatDoor
open Go.Vc
section
variable {W w:World} {S R G:List Own} {Φ:PW}
theorem sk_in [Stable Φ] {A B X S G:List Own} (cx:Ctx W w ((A++(B++(X++S)))++G) Φ):Ctx W w ((X++(A++(B++S)))++G) Φ:=cx.perm (List.Perm.append_right G (by
  have:=(List.perm_append_comm (l₁:=A++B) (l₂:=X)).append_right S
  simpa [List.append_assoc] using this))
theorem sk_out [Stable Φ] {A B X S G:List Own} (cx:Ctx W w ((X++(A++(B++S)))++G) Φ):Ctx W w ((A++(B++(X++S)))++G) Φ:=cx.perm (List.Perm.append_right G (by
  have:=(List.perm_append_comm (l₁:=X) (l₂:=A++B)).append_right S
  simpa [List.append_assoc] using this))
theorem row_cell {Φ:PW} {b:Nat} {cs:List Value} {M:List Nat} {w:World} {i:Nat} {v:Value} (h:RowIn b 0 cs M w) (hv:cs[i]? = some v):w.cell? ⟨b,i,none⟩=some v:=by
  obtain ⟨hi,he⟩:=List.getElem?_eq_some_iff.1 hv
  have:=h.2.1 i hi
  rw [Nat.zero_add] at this
  rw [this,he]
theorem note_f {Ψ:PW} {p:CoP} {d:DsS} {c:CoS} {x:StC} {lp:Option Addr} {lc:Nat} (h1:∀ M w,Ψ M w→Sl M w lp x.lines) (h2:∀ M w,Ψ M w→CoF p c M w):∀ M w,Ψ M w→CoF (notP p lp lc (noteC d c x).2.2) (noteC d c x).2.1 M w:=fun M w h=>by
  unfold noteC
  simp only
  split
  · exact h1 M w h
  · rename_i hne
    exact h2 M w h
theorem wrapK {K:Ending→World→Prop} {A X S G:List Own} {er:Int} {Ψ:PW} [Stable Ψ] (cx:Ctx W w (A++(X++(S++G))) Ψ) (h:∀ w,Ctx W w (A++(X++S)) Ψ→K (.returned (.int .i64 er)) w) :
    EndK W G K (.returned (.int .i64 er)) w :=
  ⟨er,rfl,A++(X++S),Ψ,inferInstance,cx.re (by simp),fun w G' cx=>h w cx.left⟩
theorem notP_cb {p:CoP} {lp:Option Addr} {lc:Nat} {e:Int}:(notP p lp lc e).cb=p.cb∧(notP p lp lc e).kb=p.kb:=by unfold notP; split <;> exact ⟨rfl,rfl⟩
theorem IndexL_src [Stable Φ] {p:Option Addr} {cap:Nat} {L:List LineD} {cs:List Value} (src:Src [] Φ p L cs) (hc:Rows7 cs L) (f:FuncId) (cp:Array Value) (g:LineD→Bool) (hlen:L.length≤10000000) (hf:okFun Tryz.prog f=true)
    (hg:∀ (x:LineD) (r:Option Addr) (rc:Nat),x∈L→(∀ M w,Φ M w→Sl M w r x.row)→GivesIn Φ Tryz.prog f (Array.mk (x.v r rc :: cp.toList)) (.bool (g x))) :
    GivesIn Φ Tryz.prog F.slices_IndexFunc_api_Line_api_Line #[.slice p L.length cap,.func (.func f) #[] cp] (.int .i64 (findI g 0 L)):=by
  refine gives_in (Bslices_IndexFunc_api_Line_api_Line_run p L.length cap f cp) fun W R => ?_
  refine exI_mk (fun n R' Φ' k=>∃ i:Nat,n=i∧i≤L.length∧R'=R∧Φ'=Φ∧k=L.length - i∧findI g 0 L=findI g i (L.drop i)) ⟨⟨R,Φ,_,inferInstance,fun w F c=>c,0,rfl,Nat.zero_le _,rfl,rfl,rfl,rfl⟩,?_⟩
  rintro n R1 Φ1 k _ ⟨i,rfl,hi,rfl,rfl,rfl,hor⟩
  refine Br.intro (fun hlt => ?_) (fun hge=>fun w F cx=>⟨?_,cx.left⟩)
  · have hlt:i < L.length:=by have:=of_decide_eq_true hlt; omega
    rw [findI_drop g L i hlt] at hor
    obtain ⟨bb,oo,hp⟩:=src.ptr (by omega)
    obtain ⟨r,rc,he,k1,k2,k3⟩:=hc i hlt
    refine ⟨by omega,ptrK_intro bb oo hp fun w G cx=>⟨L[i].no,L[i].batch,L[i].time,r,L[i].row.length,rc,L[i].n,L[i].cause,L[i].why,by rw [Int.toNat_natCast]; exact src_at (S:=[]) (G:=R1++G) src hp cx he,fun w G cx=>⟨hf,(hg L[i] r rc (List.getElem_mem _) (fun M w h=>src_sl src hlt he h)).use cx fun w cx=>⟨g L[i],rfl,R1,Φ1,inferInstance,cx,Br.intro (fun h=>fun w F cx=>⟨?_,cx.left⟩) (fun h=>⟨by unfold I64; omega,R1,Φ1,L.length - (i+1),inferInstance,fun w F c=>c,⟨i+1,rfl,hlt,rfl,rfl,rfl,?_⟩,by omega⟩)⟩⟩⟩⟩
    · rw [hor,if_pos h]
    · rw [hor,if_neg (by rw [h]; simp)]
  · have hge:i=L.length:=by have:=of_decide_eq_false hge; omega
    rw [hor,hge,List.drop_length]
    rfl
theorem AnyL_in [Stable Φ] {p:Option Addr} {cap:Nat} {L:List LineD} (hL:∀ M w,Φ M w→Sl M w p L) (f:FuncId) (cp:Array Value) (g:LineD→Bool) (hlen:L.length≤10000000) (hf:okFun Tryz.prog f=true)
    (hg:∀ (Ψ:PW) [Stable Ψ],(∀ M w,Ψ M w→Φ M w)→∀ (x:LineD) (r:Option Addr) (rc:Nat),x∈L→(∀ M w,Ψ M w→Sl M w r x.row)→GivesIn Ψ Tryz.prog f (Array.mk (x.v r rc :: cp.toList)) (.bool (g x))) :
    GivesIn Φ Tryz.prog F.slices_ContainsFunc_api_Line_api_Line #[.slice p L.length cap,.func (.func f) #[] cp] (.bool (L.any g)) :=
  ⟨fun W w S c=>by
    have hth:=(hL _ _ c.phi).there
    obtain ⟨cs,c1⟩:=srcOf c (hL _ _ c.phi)
    exact GivesIn.use (gives_in (Bslices_ContainsFunc_api_Line_api_Line_run p L.length cap f cp) fun W R=>fun w G cx=>(IndexL_src (Φ:=fun M w=>Φ M w∧SrcF p L cs M w) (src_fact (Φ:=fun M w=>Φ M w∧SrcF p L cs M w) hth (fun M w h=>h.2)) (rows7 c1.phi.2.2) f cp g hlen hf (hg (fun M w=>Φ M w∧SrcF p L cs M w) fun M w h=>h.1)).toI cx fun w G cx=>⟨by rw [findI_any],cx.left⟩) c1 fun w' c=>⟨rfl,c.fst⟩⟩
theorem bad_in [Stable Φ] {kb:Nat} {batch:Int} {x:LineD} {r:Option Addr} {rc:Nat} (hb:∀ M w,Φ M w→RowIn kb 0 [.int .i64 batch] M w) (hr:∀ M w,Φ M w→Sl M w r x.row) :
    GivesIn Φ Tryz.prog F.commit_Coordinator_Begin_1_1 (Array.mk (x.v r rc :: [.pointer (some ⟨kb,0,none⟩)])) (.bool (badC batch x)):=by
  refine gives_in (Bcommit_Coordinator_Begin_1_1_run x.no x.batch x.time r x.row.length rc x.n x.cause x.why kb 0) fun W R=>fun _ w G cx=>⟨batch,row_cell (Φ:=Φ) (i:=0) (hb _ _ cx.phi) rfl,Br.intro (fun h=>fun w G cx=>⟨?_,cx.left⟩) (fun h=>fun w G cx => ?_)⟩
  · unfold badC
    rw [h]; rfl
  · have hh:Has Φ (fun M w=>Sl M w r x.row):=⟨hr⟩
    refine (RightRow_in (r:=x.row)).toB cx fun w G cx=>⟨?_,cx.left⟩
    unfold badC
    rw [h]; rfl
abbrev BegF (Φ:PW) (k0 k1 k2 k3 k4:Nat) (cb:Nat) (batch mark:Int) (lp:Option Addr) (ln lc:Nat) (next:ByteArray):PW :=
  fun M w=>((((Φ M w∧RowIn k4 0 [.string next] M w)∧RowIn k3 0 [.slice lp ln lc] M w)∧RowIn k2 0 [.int .i64 mark] M w)∧RowIn k1 0 [.int .i64 batch] M w)∧RowIn k0 0 [.pointer (some ⟨cb,0,none⟩)] M w
set_option maxHeartbeats 4000000 in
theorem Begin_use [Stable Φ] (hE:CE Φ) {p:CoP} {q:DkP} {d:DsS} {c:CoS} (hF:∀ M w,Φ M w→CoF p c M w) (hq:DkQ q d) (hk:DkK Φ q d) (hw:StW c.now) {batch mark:Int} {lp:Option Addr} {lc:Nat} {lines:List LineD} {next:ByteArray} (hL:∀ M w,Φ M w→Sl M w lp lines) (hlen:lines.length≤1000000)
    (hb:I64 batch) (hm:I64 mark) (hnx:next.size≤1000000000) (cx:Ctx W w (CoO p q c++(dkL q d++S)) Φ) {K:Ending→World→Prop}
    (hK:∀ u p' w',p'.cb=p.cb∧p'.kb=p.kb→DkQ (q.mv u) (beginC d c batch mark lines next).1→Ctx W w' (CoO p' q (beginC d c batch mark lines next).2.1++(dkL (q.mv u) (beginC d c batch mark lines next).1++S)) (fun M w=>Φ M w∧CoF p' (beginC d c batch mark lines next).2.1 M w)→K (.returned (.int .i64 (beginC d c batch mark lines next).2.2)) w') :
    Calls Tryz.prog F.commit_Coordinator_Begin #[.pointer (some ⟨p.cb,0,none⟩),.int .i64 batch,.int .i64 mark,.slice lp lines.length lc,.string next] w K:=by
  refine (Bcommit_Coordinator_Begin_run p.cb 0 batch mark lp lines.length lc next (J:=fun u w'=>K (.returned u) w') cx fun k0 k1 k2 k3 k4 w G cx=>⟨_,cx.get 4 rfl rfl,fun w G cx => ?_⟩).mono fun e w' ⟨v,he,hj⟩=>by rw [he]; exact hj
  have c5:Ctx W w ((CoO p q c++(dkL q d++S))++G) (BegF Φ k0 k1 k2 k3 k4 p.cb batch mark lp lines.length lc next):=Ctx.rowIn (Ctx.rowIn (Ctx.rowIn (Ctx.rowIn (Ctx.rowIn cx))))
  obtain ⟨Ω,hΩ⟩:∃ Ω,BegF Φ k0 k1 k2 k3 k4 p.cb batch mark lp lines.length lc next=Ω:=⟨_,rfl⟩
  have stΩ:Stable Ω:=by rw [←hΩ]; infer_instance
  rw [hΩ] at c5
  have f0:∀ M w,Ω M w→Φ M w:=by rw [←hΩ]; exact fun M w h=>h.1.1.1.1.1
  have f4:∀ M w,Ω M w→RowIn k4 0 [.string next] M w:=by rw [←hΩ]; exact fun M w h=>h.1.1.1.1.2
  have f3:∀ M w,Ω M w→RowIn k3 0 [.slice lp lines.length lc] M w:=by rw [←hΩ]; exact fun M w h=>h.1.1.1.2
  have f2:∀ M w,Ω M w→RowIn k2 0 [.int .i64 mark] M w:=by rw [←hΩ]; exact fun M w h=>h.1.1.2
  have f1:∀ M w,Ω M w→RowIn k1 0 [.int .i64 batch] M w:=by rw [←hΩ]; exact fun M w h=>h.1.2
  have fc:∀ M w,Ω M w→RowIn k0 0 [.pointer (some ⟨p.cb,0,none⟩)] M w:=by rw [←hΩ]; exact fun M w h=>h.2
  clear hΩ cx
  have err:∀ er,beginC d c batch mark lines next=(d,c,er)→∀ w,Ctx W w (CoO p q c++(dkL q d++(S++G))) Ω→EndK W G K (.returned (.int .i64 er)) w:=fun er he w cx=>wrapK cx fun w cx=>by
    have:=hK q.un p w ⟨rfl,rfl⟩
    rw [he] at this
    exact this hq (cx.weak fun M w h=>⟨f0 M w h,hF M w (f0 M w h)⟩)
  refine step_use (S:=S++G) (K:=EndK W G K) (by kernel_rfl) (c5.re (by simp)) (fun hs=>err 9 (by unfold beginC stepK; rw [if_pos hs])) (fun hs hp=>err 7 (by unfold beginC stepK; rw [if_neg (by rw [hs]; simp),if_pos hp])) (fun hs hp w G2 cx => ?_)
  have e0:beginC d c batch mark lines next=if (beginR c batch mark lines next).2≠0 then (d,c,(beginR c batch mark lines next).2) else noteC d c (beginR c batch mark lines next).1:=by
    unfold beginC stepK
    rw [if_neg (by rw [hs]; simp),if_neg (by simp [hp])]
  refine (Bcommit_Coordinator_Begin_1_run k1 0 k0 0 k3 0 k2 0 k4 0 (J:=fun v w'=>DoPost W p q d c G2 (EndK W G K) (.returned v) w') cx ?_).mono fun e w' ⟨v,he,hj⟩=>by rw [he]; exact hj
  clear cx
  refine fun _ w G3 cx=>⟨batch,row_cell (Φ:=Ω) (i:=0) (f1 _ _ cx.phi) rfl,_,row_cell (Φ:=Ω) (i:=0) (fc _ _ cx.phi) rfl,ptrK_intro p.cb 0 rfl ⟨c.now.last,cx.get 0 rfl rfl,Br.intro (fun h=>fun w G3 cx => ?_) (fun h=>fun w G3 cx => ?_)⟩⟩
  · refine ⟨stC0,25,none,0,S++G,Ω,rfl,stΩ,cx.left,fun _=>err 25 (by rw [e0]; unfold beginR; rw [if_pos (of_decide_eq_true h)]; rfl),fun h=>by cases h⟩
  have h:=of_decide_eq_false h
  refine ⟨_,_,_,row_cell (Φ:=Ω) (i:=0) (f3 _ _ cx.phi) rfl,fun w G3 cx => ?_⟩
  have hLΩ:∀ M w,Ω M w→Sl M w lp lines:=fun M w h=>hL M w (f0 M w h)
  refine (AnyL_in hLΩ F.commit_Coordinator_Begin_1_1 #[.pointer (some ⟨k1,0,none⟩)] (badC batch) (by omega) (by kernel_rfl) (fun Ψ _ hΨ x r rc _ hr=>bad_in (Φ:=Ψ) (fun M w h=>f1 M w (hΨ M w h)) hr)).toB cx (Br.intro (fun h2=>fun w G3 cx => ?_) (fun h2 => ?_))
  · refine ⟨stC0,1,none,0,S++G,Ω,rfl,stΩ,cx.left,fun _=>err 1 (by rw [e0]; unfold beginR; rw [if_neg h,if_pos h2]; rfl),fun h=>by cases h⟩
  have e1:beginC d c batch mark lines next=noteC d c ⟨c.now.last,1,c.now.check,batch,mark,next,lines⟩:=by
    have hb:beginR c batch mark lines next=(⟨c.now.last,1,c.now.check,batch,mark,next,lines⟩,0):=by unfold beginR; rw [if_neg h,if_neg (by rw [h2]; simp)]
    rw [e0,hb]; rfl
  have hright:∀ y∈lines,rightR y.row=true:=fun y hy=>by
    have:=List.any_eq_false.1 h2 y hy
    unfold badC at this
    simp only [Bool.or_eq_true,Bool.not_eq_true',not_or,Bool.not_eq_false] at this
    exact this.2
  have hline:∀ y∈lines,y.row.length≤1000000:=fun y hy=>by have:=right_len (hright y hy); omega
  refine ⟨_,Ω,stΩ,fun w G cx=>cx,some ⟨p.cb,0,none⟩,fun w G cx=>⟨_,row_cell (Φ:=Ω) (i:=0) (fc _ _ cx.phi) rfl,rfl⟩,some ⟨p.cb,0,none⟩,fun w G cx=>⟨_,row_cell (Φ:=Ω) (i:=0) (fc _ _ cx.phi) rfl,rfl⟩,batch,fun w G cx=>⟨_,row_cell (Φ:=Ω) (i:=0) (f1 _ _ cx.phi) rfl,rfl⟩,mark,fun w G cx=>⟨_,row_cell (Φ:=Ω) (i:=0) (f2 _ _ cx.phi) rfl,rfl⟩,next,fun w G cx=>⟨_,row_cell (Φ:=Ω) (i:=0) (f4 _ _ cx.phi) rfl,rfl⟩,fun w G3 cx=>⟨_,_,_,row_cell (Φ:=Ω) (i:=0) (f3 _ _ cx.phi) rfl,ptrK_intro p.cb 0 rfl (ptrK_intro p.cb 0 rfl ⟨c.now.last,fun w G cx=>⟨_,cx.get 0 rfl rfl,rfl⟩,c.now.check,fun w G cx=>⟨_,cx.get 0 rfl rfl,rfl⟩,fun w G3 cx => ?_⟩)⟩⟩
  have hwl:=lines_wS (hLΩ _ _ cx.phi) hright
  have hh:Has Ω (fun M w=>Sl M w lp lines):=⟨hLΩ⟩
  refine (Cloned_sl (l:=lines) hlen hline).to cx fun p1 c1 g1 g2 st1=>⟨fun w G cx=>cx.fst,fun w G cx=>cx.fst,fun w G3 cx => ?_⟩
  have hwn:=hw
  refine ⟨⟨c.now.last,1,c.now.check,batch,mark,next,lines⟩,0,p1,c1,S++G,_,rfl,st1,cx.left,fun h=>absurd rfl h,fun _=>⟨hq,hk.weak fun M w h=>f0 M w h.1,hE.weak fun M w h=>f0 M w h.1,⟨⟨hw.last.2,by show I64 1; unfold I64; decide,hb,hm⟩,by have:=hw.check; show c.now.check.size≤_; omega,hnx,hwl,hlen⟩,fun M w h=>h.2,fun u w hq2 cx => ?_⟩⟩
  refine wrapK (A:=CoO (notP p p1 c1 (noteC d c ⟨c.now.last,1,c.now.check,batch,mark,next,lines⟩).2.2) q (noteC d c ⟨c.now.last,1,c.now.check,batch,mark,next,lines⟩).2.1) (X:=dkL (q.mv u) (noteC d c ⟨c.now.last,1,c.now.check,batch,mark,next,lines⟩).1) cx fun w cx => ?_
  rw [←e1] at hq2 cx ⊢
  refine hK u _ w notP_cb hq2 (cx.weak fun M w h=>⟨f0 M w h.1,?_⟩)
  have:=note_f (p:=p) (d:=d) (c:=c) (x:=⟨c.now.last,1,c.now.check,batch,mark,next,lines⟩) (lp:=p1) (lc:=c1) (Ψ:=fun M w=>Ω M w∧Sl M w p1 lines) (fun M w h=>h.2) (fun M w h=>hF M w (f0 M w h.1)) M w h
  rw [←e1] at this
  exact this
end
end Go.Proofs.YtfccagphnfceiaaGreatDoor
end

section
namespace Go.Proofs.YtfccagphnfceiaaGreatDoor
open Go.Vc
section
variable {W w:World} {S R G:List Own} {Φ:PW} {k:KP} {s:SkD} {p:CoP} {q:DkP} {d:DsS} {c:CoS} {n:Nat}
theorem deliver_use [Stable Φ] [hF:Has Φ (SkF k s)] [hC:Has Φ (CoF p c)] (hq:SkQ k s) (hI:SkI s) (hs:SkS s n) (hn:n≤400000) (hlen:c.now.lines.length≤400000) (cx:Ctx W w ((SkO k s++(CoO p q c++R))++G) Φ) {K:Int→List Own→PW→Prop}
    (hk:∀ k':KP,k'.sb=k.sb→SkQ k' (delivK s c.now.batch c.now.lines).2→Stable (fun M w=>Φ M w∧SkF k' (delivK s c.now.batch c.now.lines).2 M w)→K (delivK s c.now.batch c.now.lines).1 (SkO k' (delivK s c.now.batch c.now.lines).2++(CoO p q c++R)) (fun M w=>Φ M w∧SkF k' (delivK s c.now.batch c.now.lines).2 M w)) :
    Calls Tryz.prog F.commit_Coordinator_deliver #[.pointer (some ⟨p.cb,0,none⟩),snk k] w fun e w'=>∃ n,e=.returned (.int .i64 n)∧∃ R' Φ',Stable Φ'∧Ctx W w' (R'++G) Φ'∧K n R' Φ':=by
  refine (Bcommit_Coordinator_deliver_run p.cb 0 k.sb 0 (R:=(SkO k s++(CoO p q c++R))++G) (J:=fun v w'=>∃ n,v=.int .i64 n∧∃ R' Φ',Stable Φ'∧Ctx W w' (R'++G) Φ'∧K n R' Φ') cx ?_).mono fun e w' ⟨v,he,n,hv,rest⟩=>⟨n,by rw [he,hv],rest⟩
  clear cx
  refine ⟨_,Φ,inferInstance,fun w G cx=>cx,c.now.batch,fun w G cx=>⟨_,cx.get 3 rfl rfl,rfl⟩,p.lp,c.now.lines.length,p.lc,fun w G cx=>⟨_,_,_,cx.get 3 rfl rfl,rfl⟩,fun w G2 cx => ?_⟩
  have hL:Has Φ (fun M w=>Sl M w p.lp c.now.lines):=⟨hC.go⟩
  exact Deliver_use (R:=(CoO p q c++R)++G) (L:=c.now.lines) (b:=c.now.batch) hq hI hs hn hlen (cx.re (by simp)) fun k' hsb hq' st2=>fun w G6 cx=>⟨_,rfl,SkO k' _++(CoO p q c++R),_,st2,cx.left.re (by simp),hk k' hsb hq' st2⟩
theorem comm_four {b:Int} (h:(commK s b).1=4):(commK s b).2=s:=by
  unfold commK at h ⊢
  split at h
  · cases h
  split at h
  · cases h
  split at h
  · rw [if_neg (by assumption),if_neg (by assumption),if_pos (by assumption)]
  · cases h
set_option maxHeartbeats 2000000 in
theorem commit_use [Stable Φ] [hF:Has Φ (SkF k s)] [hC:Has Φ (CoF p c)] (hq:SkQ k s) (hI:SkI s) (hs:SkS s n) (hn:n≤300000) (hlen:c.now.lines.length≤100000) (cx:Ctx W w ((SkO k s++(CoO p q c++R))++G) Φ) {K:Int→List Own→PW→Prop}
    (hk:∀ (k':KP) (Φ':PW),k'.sb=k.sb→SkQ k' (commitC s c.now.batch c.now.lines).2→Stable Φ'→(∀ M w,Φ' M w→Φ M w∧SkF k' (commitC s c.now.batch c.now.lines).2 M w)→K (commitC s c.now.batch c.now.lines).1 (SkO k' (commitC s c.now.batch c.now.lines).2++(CoO p q c++R)) Φ') :
    Calls Tryz.prog F.commit_Coordinator_commit #[.pointer (some ⟨p.cb,0,none⟩),snk k] w fun e w'=>∃ n,e=.returned (.int .i64 n)∧∃ R' Φ',Stable Φ'∧Ctx W w' (R'++G) Φ'∧K n R' Φ':=by
  refine (Bcommit_Coordinator_commit_run p.cb 0 k.sb 0 (R:=(SkO k s++(CoO p q c++R))++G) (J:=fun v w'=>∃ n,v=.int .i64 n∧∃ R' Φ',Stable Φ'∧Ctx W w' (R'++G) Φ'∧K n R' Φ') cx ?_).mono fun e w' ⟨v,he,n,hv,rest⟩=>⟨n,by rw [he,hv],rest⟩
  clear cx
  obtain ⟨b,hb⟩:∃ b,c.now.batch=b:=⟨_,rfl⟩
  obtain ⟨L,hL0⟩:∃ L,c.now.lines=L:=⟨_,rfl⟩
  have e0:commitC s b L=if (commK s b).1≠4 then commK s b else if (prepK s b L).1≠0 then prepK s b L else commK (prepK s b L).2 b:=rfl
  refine fun w G2 cx=>⟨c.now.batch,cx.get 3 rfl rfl,fun w G2 cx => ?_⟩
  refine Commit_use (R:=(CoO p q c++R)++G) (b:=c.now.batch) hq hI hs (by omega) (cx.re (by simp)) fun k1 hsb1 hq1 st1 => ?_
  clear cx
  have h4:=comm_four (s:=s) (b:=b)
  rw [hb,hL0] at hk
  rw [hb] at hq1 st1 ⊢
  refine Br.intro (fun h=>fun w G2 cx => ?_) (fun h => ?_)
  · have h:=of_decide_eq_true h
    rw [e0,if_pos h] at hk
    exact ⟨_,rfl,SkO k1 _++(CoO p q c++R),_,st1,cx.left.re (by simp),hk k1 _ hsb1 hq1 st1 fun M w h=>h⟩
  have h:=Decidable.not_not.1 (of_decide_eq_false h)
  rw [h4 h] at hq1 st1 ⊢
  rw [e0,if_neg (by rw [h]; simp)] at hk
  have hC1:Has (fun M w=>Φ M w∧SkF k1 s M w) (CoF p c):=⟨fun M w h=>hC.go M w h.1⟩
  have hF1:Has (fun M w=>Φ M w∧SkF k1 s M w) (SkF k1 s):=⟨fun M w h=>h.2⟩
  refine ⟨_,_,st1,fun w G cx=>cx,c.now.batch,fun w G cx=>⟨_,cx.get 3 rfl rfl,rfl⟩,p.lp,c.now.lines.length,p.lc,fun w G cx=>⟨_,_,_,cx.get 3 rfl rfl,rfl⟩,fun w G2 cx => ?_⟩
  have hL:Has (fun M w=>Φ M w∧SkF k1 s M w) (fun M w=>Sl M w p.lp c.now.lines):=⟨fun M w h=>hC.go M w h.1⟩
  have hps:=prep_s (b:=b) (L:=L) hs (show L.length≤100000 by rw [←hL0]; exact hlen)
  have hpi:=prep_i hI (b:=b) (L:=L)
  rw [←hsb1]
  refine Prepare_use (R:=(CoO p q c++R)++G) (L:=c.now.lines) (b:=c.now.batch) hq1 hI hs (by omega) (by omega) cx fun k2 hsb2 hq2 st2 => ?_
  clear cx
  rw [hb,hL0] at hq2 st2 ⊢
  refine Br.intro (fun h=>fun w G2 cx => ?_) (fun h => ?_)
  · have h:=of_decide_eq_true h
    rw [if_pos h] at hk
    exact ⟨_,rfl,SkO k2 _++(CoO p q c++R),_,st2,cx.left.re (by simp),hk k2 _ (hsb2.trans hsb1) hq2 st2 fun M w h=>⟨h.1.1,h.2⟩⟩
  rw [if_neg (of_decide_eq_false h)] at hk
  obtain ⟨s2,hs2⟩:∃ s2,(prepK s b L).2=s2:=⟨_,rfl⟩
  rw [hs2] at hq2 st2 hk hps hpi ⊢
  refine fun w G2 cx=>⟨c.now.batch,cx.get 3 rfl rfl,fun w G2 cx => ?_⟩
  have hF2:Has (fun M w=>(Φ M w∧SkF k1 s M w)∧SkF k2 s2 M w) (SkF k2 s2):=⟨fun M w h=>h.2⟩
  rw [←hsb2]
  refine Commit_use (R:=(CoO p q c++R)++G) (b:=c.now.batch) hq2 hpi hps (by omega) cx fun k3 hsb3 hq3 st3=>fun w G2 cx => ?_
  rw [hb] at hq3 st3 cx ⊢
  exact ⟨_,rfl,SkO k3 _++(CoO p q c++R),_,st3,cx.left.re (by simp),hk k3 _ (hsb3.trans (hsb2.trans hsb1)) hq3 st3 fun M w h=>⟨h.1.1.1,h.2⟩⟩
theorem Prep_use [Stable Φ] [hF:Has Φ (SkF k s)] [hC:Has Φ (CoF p c)] (hq:SkQ k s) (hI:SkI s) (hs:SkS s n) (hn:n≤400000) (hlen:c.now.lines.length≤400000) (cx:Ctx W w (SkO k s++(CoO p q c++S)) Φ) {K:Ending→World→Prop}
    (hk:∀ k' w' Φ',k'.sb=k.sb→SkQ k' (prepareC c s).2.1→Stable Φ'→(∀ M w,Φ' M w→Φ M w∧SkF k' (prepareC c s).2.1 M w)→Ctx W w' (SkO k' (prepareC c s).2.1++(CoO p q (prepareC c s).1++S)) Φ'→K (.returned (.int .i64 (prepareC c s).2.2)) w') :
    Calls Tryz.prog F.commit_Coordinator_Prepare #[.pointer (some ⟨p.cb,0,none⟩),snk k] w K:=by
  have same:∀ er,prepareC c s=(c,s,er)→∀ w,Ctx W w (SkO k s++(CoO p q c++S)) Φ→K (.returned (.int .i64 er)) w:=fun er he w cx=>by
    have:=hk k w (fun M w=>Φ M w∧SkF k s M w) rfl
    rw [he] at this
    exact this hq inferInstance (fun M w h=>h) (cx.weak fun M w h=>⟨h,hF.go M w h⟩)
  refine (Bcommit_Coordinator_Prepare_run p.cb 0 k.sb 0 (J:=fun u w'=>K (.returned u) w') cx fun w G cx=>⟨c.stop,cx.get 3 rfl rfl,Br.intro (fun h=>fun w G cx=>same 9 (by unfold prepareC; rw [if_pos h]) w cx.left) (fun h=>fun w G cx=>⟨c.now.phase,cx.get 3 rfl rfl,Br.intro (fun h2=>fun w G cx=>same 7 (by unfold prepareC; rw [if_neg (by rw [h]; simp),if_pos (of_decide_eq_true h2)]) w cx.left) (fun h2=>fun w G cx => ?_)⟩)⟩).mono fun e w' ⟨v,he,hj⟩=>by rw [he]; exact hj
  have e0:prepareC c s=({ c with prep:=c.prep || decide ((giveC c s).1=0) },(giveC c s).2,(giveC c s).1):=by
    unfold prepareC
    rw [if_neg (by rw [h]; simp),if_neg (of_decide_eq_false h2)]
  rw [e0] at hk
  simp only at hk
  -- the flag
  have flag:∀ {er:Int} {k':KP} {s':SkD} {A Rl:List Own} {Ψ:PW} [Stable Ψ],Rl.Perm (SkO k' s'++(CoO p q c++(A++S)))→giveC c s=(er,s')→k'.sb=k.sb→SkQ k' s'→(∀ M w,Ψ M w→Φ M w∧SkF k' s' M w)→∀ w G,Ctx W w (Rl++G) Ψ→∃ c42,w.cell? ⟨p.cb,0+8,none⟩=some (.bool c42)∧Br c42 (∀ w G,Ctx W w (Rl++G) Ψ→CanWrite w p.cb (0+8) 1∧∀ w',w'=w.setCell ⟨p.cb,0+8,none⟩ (.bool true)→∃ R1 Φ1,Stable Φ1∧Ctx W w' (R1++G) Φ1∧∀ w G,Ctx W w (R1++G) Φ1→K (.returned (.int .i64 er)) w)
      (∀ w G,Ctx W w (Rl++G) Ψ→CanWrite w p.cb (0+8) 1∧∀ w',w'=w.setCell ⟨p.cb,0+8,none⟩ (.bool (decide (er=0)))→∃ R1 Φ1,Stable Φ1∧Ctx W w' (R1++G) Φ1∧∀ w G,Ctx W w (R1++G) Φ1→K (.returned (.int .i64 er)) w):=fun {er k' s' A Rl Ψ} stΨ hpm hg hsb hq' hΨ w G cx=>by
    rw [hg] at hk
    simp only at hk
    have drop:∀ {c':CoS} {w:World} {G:List Own},Ctx W w ((SkO k' s'++(CoO p q c'++(A++S)))++G) Ψ→Ctx W w (SkO k' s'++(CoO p q c'++S)) Ψ:=fun cx=>cx.left.sub ((List.Sublist.refl _).append ((List.Sublist.refl _).append (List.sublist_append_right _ _)))
    have cx:=cx.perm (hpm.append_right G)
    refine ⟨c.prep,cx.get 3 rfl rfl,Br.intro (fun h=>fun w G cx => ?_) (fun h=>fun w G cx => ?_)⟩
    all_goals have cx:=cx.perm (hpm.append_right G)
    · refine ⟨cx.can 3 rfl (by simp),fun w' hw'=>⟨SkO k' s'++(CoO p q { c with prep:=true }++(A++S)),Ψ,stΨ,cx.put 3 hw' rfl,fun w G cx => ?_⟩⟩
      have:=hk k' w Ψ hsb hq' stΨ hΨ
      rw [h] at this
      exact this (drop cx)
    · refine ⟨cx.can 3 rfl (by simp),fun w' hw'=>⟨SkO k' s'++(CoO p q { c with prep:=decide (er=0) }++(A++S)),Ψ,stΨ,cx.put 3 hw' rfl,fun w G cx => ?_⟩⟩
      have:=hk k' w Ψ hsb hq' stΨ hΨ
      rw [h] at this
      exact this (drop cx)
  refine (Kind_q (st:=s) (q:=k)).toI cx ?_
  clear cx
  refine Br.intro (fun h3 => ?_) (fun h3 => ?_)
  · have h3:=of_decide_eq_true h3
    have eg:giveC c s=prepK s c.now.batch c.now.lines:=by unfold giveC; rw [if_pos h3]
    refine ⟨_,Φ,inferInstance,fun w G cx=>cx,c.now.batch,fun w G cx=>⟨_,cx.get 3 rfl rfl,rfl⟩,p.lp,c.now.lines.length,p.lc,fun w G cx=>⟨_,_,_,cx.get 3 rfl rfl,rfl⟩,fun w G2 cx => ?_⟩
    have hL:Has Φ (fun M w=>Sl M w p.lp c.now.lines):=⟨hC.go⟩
    refine Prepare_use (R:=CoO p q c++S) (L:=c.now.lines) (b:=c.now.batch) hq hI hs hn hlen cx fun k2 hsb2 hq2 st2 => ?_
    exact flag (A:=[]) (Rl:=SkO k2 (prepK s c.now.batch c.now.lines).2++(CoO p q c++S)) (Ψ:=fun M w=>Φ M w∧SkF k2 (prepK s c.now.batch c.now.lines).2 M w) (List.Perm.refl _) eg hsb2 hq2 (fun M w h=>h)
  · have h3:=of_decide_eq_false h3
    have eg:giveC c s=((delivK s c.now.batch c.now.lines).1,s):=by unfold giveC; rw [if_neg h3]
    refine fun w G2 cx=>Copy_to (R:=CoO p q c++S) hq hs hn cx fun k2 hq2 st2=>fun w G2 cx => ?_
    have hC1:Has (fun M w=>Φ M w∧SkF k2 s M w) (CoF p c):=⟨fun M w h=>hC.go M w h.1⟩
    have hF1:Has (fun M w=>Φ M w∧SkF k2 s M w) (SkF k2 s):=⟨fun M w h=>h.2⟩
    have cx:Ctx W w ((SkO k2 s++(CoO p q c++(SkO k s++S)))++G2) (fun M w=>Φ M w∧SkF k2 s M w):=cx.perm (List.Perm.append_right G2 (List.Perm.append_left _ (by
      have:=(List.perm_append_comm (l₁:=SkO k s) (l₂:=CoO p q c)).append_right S
      simpa [List.append_assoc] using this)))
    refine deliver_use (R:=SkO k s++S) hq2 hI hs hn hlen cx fun k3 hsb3 hq3 st3 => ?_
    clear cx
    obtain ⟨s3,hs3⟩:∃ s3,(delivK s c.now.batch c.now.lines).2=s3:=⟨_,rfl⟩
    rw [hs3] at hq3 st3 ⊢
    refine flag (A:=SkO k3 s3) (k':=k) (s':=s) (Ψ:=fun M w=>(Φ M w∧SkF k2 s M w)∧SkF k3 s3 M w) ?_ eg rfl hq (fun M w h=>⟨h.1.1,hF.go M w h.1.1⟩)
    have h1:=(List.perm_append_comm (l₁:=SkO k3 s3++CoO p q c) (l₂:=SkO k s)).append_right S
    have h2:(SkO k s++(SkO k3 s3++CoO p q c)++S).Perm (SkO k s++(CoO p q c++(SkO k3 s3++S))):=by
      have:=((List.perm_append_comm (l₁:=SkO k3 s3) (l₂:=CoO p q c)).append_right S).append_left (SkO k s)
      simpa [List.append_assoc] using this
    exact (show (SkO k3 s3++(CoO p q c++(SkO k s++S))).Perm _ by simpa [List.append_assoc] using h1).trans h2
end
end Go.Proofs.YtfccagphnfceiaaGreatDoor
end

section
namespace Go.Proofs.YtfccagphnfceiaaGreatDoor
open Go.Vc
theorem stI_f {last:Int} {check:ByteArray} (h2:I64 last) (h3:check.size≤1000000000):StF (stI last check):=⟨⟨h2,by show I64 0; unfold I64; decide,by show I64 0; unfold I64; decide,by show I64 0; unfold I64; decide⟩,h3,by show (0:Nat)≤_; decide,fun y hy=>(by cases hy),by show (0:Nat)≤_; decide⟩
section
variable {W w:World} {S R G:List Own} {Φ:PW} {k:KP} {s:SkD} {p:CoP} {q:DkP} {d:DsS} {c:CoS} {n:Nat}
set_option maxHeartbeats 2000000 in
theorem Decide_use [Stable Φ] (hE:CE Φ) (hF:∀ M w,Φ M w→CoF p c M w) (hq:DkQ q d) (hk:DkK Φ q d) (hw:StW c.now) (cx:Ctx W w (CoO p q c++(dkL q d++S)) Φ) {K:Ending→World→Prop}
    (hK:∀ u p' w',p'.cb=p.cb∧p'.kb=p.kb→DkQ (q.mv u) (decideC d c).1→Ctx W w' (CoO p' q (decideC d c).2.1++(dkL (q.mv u) (decideC d c).1++S)) (fun M w=>Φ M w∧CoF p' (decideC d c).2.1 M w)→K (.returned (.int .i64 (decideC d c).2.2)) w') :
    Calls Tryz.prog F.commit_Coordinator_Decide #[.pointer (some ⟨p.cb,0,none⟩)] w K:=by
  refine (Bcommit_Coordinator_Decide_run p.cb 0 (J:=fun u w'=>K (.returned u) w') cx fun k0 w G cx=>⟨_,cx.get 0 rfl rfl,fun w G cx => ?_⟩).mono fun e w' ⟨v,he,hj⟩=>by rw [he]; exact hj
  have c5:Ctx W w ((CoO p q c++(dkL q d++S))++G) (fun M w=>Φ M w∧RowIn k0 0 [.pointer (some ⟨p.cb,0,none⟩)] M w):=Ctx.rowIn cx
  obtain ⟨Ω,hΩ⟩:∃ Ω:PW,(fun M w=>Φ M w∧RowIn k0 0 [.pointer (some ⟨p.cb,0,none⟩)] M w)=Ω:=⟨_,rfl⟩
  have stΩ:Stable Ω:=by rw [←hΩ]; infer_instance
  rw [hΩ] at c5
  have f0:∀ M w,Ω M w→Φ M w:=by rw [←hΩ]; exact fun M w h=>h.1
  have fc:∀ M w,Ω M w→RowIn k0 0 [.pointer (some ⟨p.cb,0,none⟩)] M w:=by rw [←hΩ]; exact fun M w h=>h.2
  clear hΩ cx
  have err:∀ er,decideC d c=(d,c,er)→∀ w,Ctx W w (CoO p q c++(dkL q d++(S++G))) Ω→EndK W G K (.returned (.int .i64 er)) w:=fun er he w cx=>wrapK cx fun w cx=>by
    have:=hK q.un p w ⟨rfl,rfl⟩
    rw [he] at this
    exact this hq (cx.weak fun M w h=>⟨f0 M w h,hF M w (f0 M w h)⟩)
  refine step_use (S:=S++G) (K:=EndK W G K) (by kernel_rfl) (c5.re (by simp)) (fun hs=>err 9 (by unfold decideC stepK; rw [if_pos hs])) (fun hs hp=>err 7 (by unfold decideC stepK; rw [if_neg (by rw [hs]; simp),if_pos hp])) (fun hs hp w G2 cx => ?_)
  have e0:decideC d c=if (decideR c).2≠0 then (d,c,(decideR c).2) else noteC d c (decideR c).1:=by
    unfold decideC stepK
    rw [if_neg (by rw [hs]; simp),if_neg (by simp [hp])]
  refine (Bcommit_Coordinator_Decide_1_run k0 0 (J:=fun v w'=>DoPost W p q d c G2 (EndK W G K) (.returned v) w') cx ?_).mono fun e w' ⟨v,he,hj⟩=>by rw [he]; exact hj
  clear cx
  refine fun _ w G3 cx=>⟨_,row_cell (Φ:=Ω) (i:=0) (fc _ _ cx.phi) rfl,ptrK_intro p.cb 0 rfl fun w G3 cx=>⟨c.prep,cx.get 0 rfl rfl,Br.intro (fun h=>fun w G3 cx => ?_) (fun h=>fun w G3 cx=>⟨_,row_cell (Φ:=Ω) (i:=0) (fc _ _ cx.phi) rfl,ptrK_intro p.cb 0 rfl fun w G3 cx=>⟨c.now.last,c.now.phase,c.now.check,c.now.batch,c.now.mark,c.now.next,p.lp,c.now.lines.length,p.lc,cx.row 0 rfl (fun j hj=>by rcases j with _ | _ | _ | _ | _ | _ | _ | j <;> first | rfl | (simp at hj; omega)),fun _ w G3 cx => ?_⟩⟩)⟩⟩
  · have h:c.prep=false:=by simpa using h
    refine ⟨stC0,25,none,0,S++G,Ω,rfl,stΩ,cx.left,fun _=>err 25 (by rw [e0]; unfold decideR; rw [if_pos h]; rfl),fun h=>by cases h⟩
  have h:c.prep=true:=by simpa using h
  have e1:decideC d c=noteC d c { c.now with phase:=2 }:=by
    have hb:decideR c=({ c.now with phase:=2 },0):=by unfold decideR; rw [if_neg (by rw [h]; simp)]
    rw [e0,hb]; rfl
  have hwf:=hw.f
  refine ⟨{ c.now with phase:=2 },0,p.lp,p.lc,S++G,Ω,rfl,stΩ,cx.left,fun h=>absurd rfl h,fun _=>⟨hq,hk.weak f0,hE.weak f0,⟨⟨hwf.ints.1,by show I64 2; unfold I64; decide,hwf.ints.2.2.1,hwf.ints.2.2.2⟩,hwf.check,hwf.next,hwf.line,hwf.few⟩,fun M w h=>hF M w (f0 M w h),fun u w hq2 cx => ?_⟩⟩
  refine wrapK (A:=CoO (notP p p.lp p.lc (noteC d c { c.now with phase:=2 }).2.2) q (noteC d c { c.now with phase:=2 }).2.1) (X:=dkL (q.mv u) (noteC d c { c.now with phase:=2 }).1) cx fun w cx => ?_
  rw [←e1] at hq2 cx ⊢
  refine hK u _ w notP_cb hq2 (cx.weak fun M w h=>⟨f0 M w h,?_⟩)
  have:=note_f (p:=p) (d:=d) (c:=c) (x := { c.now with phase:=2 }) (lp:=p.lp) (lc:=p.lc) (Ψ:=Ω) (fun M w h=>hF M w (f0 M w h)) (fun M w h=>hF M w (f0 M w h)) M w h
  rw [←e1] at this
  exact this
abbrev SinkK (W:World) (Φ:PW) (k:KP) (p:CoP) (q:DkP) (S:List Own) (K:Ending→World→Prop) (r:DsS × CoS × SkD × Int):Prop :=
  ∀ u p' k' w' Φ',p'.cb=p.cb∧p'.kb=p.kb→k'.sb=k.sb→DkQ (q.mv u) r.1→SkQ k' r.2.2.1→Stable Φ'→(∀ M w,Φ' M w→Φ M w∧(SkF k' r.2.2.1 M w∧CoF p' r.2.1 M w)) →
    Ctx W w' (CoO p' q r.2.1++(dkL (q.mv u) r.1++(SkO k' r.2.2.1++S))) Φ'→K (.returned (.int .i64 r.2.2.2)) w'
set_option maxHeartbeats 4000000 in
theorem Finish_use [Stable Φ] (hE:CE Φ) [hS:Has Φ (SkF k s)] [hC:Has Φ (CoF p c)] (hq:DkQ q d) (hk:DkK Φ q d) (hw:StW c.now) (hkq:SkQ k s) (hI:SkI s) (hs:SkS s n) (hn:n≤300000) (cx:Ctx W w (CoO p q c++(dkL q d++(SkO k s++S))) Φ) {K:Ending→World→Prop}
    (hK:SinkK W Φ k p q S K (finishC d c s)) :
    Calls Tryz.prog F.commit_Coordinator_Finish #[.pointer (some ⟨p.cb,0,none⟩),snk k] w K:=by
  refine (Bcommit_Coordinator_Finish_run p.cb 0 k.sb 0 (J:=fun u w'=>K (.returned u) w') cx fun k0 k1 w G cx=>⟨_,cx.get 1 rfl rfl,fun w G cx => ?_⟩).mono fun e w' ⟨v,he,hj⟩=>by rw [he]; exact hj
  have c5:Ctx W w ((CoO p q c++(dkL q d++(SkO k s++S)))++G) (fun M w=>(Φ M w∧RowIn k1 0 [.pointer (some ⟨k.sb,0,none⟩)] M w)∧RowIn k0 0 [.pointer (some ⟨p.cb,0,none⟩)] M w):=Ctx.rowIn (Ctx.rowIn cx)
  obtain ⟨Ω,hΩ⟩:∃ Ω:PW,(fun M w=>(Φ M w∧RowIn k1 0 [.pointer (some ⟨k.sb,0,none⟩)] M w)∧RowIn k0 0 [.pointer (some ⟨p.cb,0,none⟩)] M w)=Ω:=⟨_,rfl⟩
  have stΩ:Stable Ω:=by rw [←hΩ]; infer_instance
  rw [hΩ] at c5
  have f0:∀ M w,Ω M w→Φ M w:=by rw [←hΩ]; exact fun M w h=>h.1.1
  have f1:∀ M w,Ω M w→RowIn k1 0 [.pointer (some ⟨k.sb,0,none⟩)] M w:=by rw [←hΩ]; exact fun M w h=>h.1.2
  have fc:∀ M w,Ω M w→RowIn k0 0 [.pointer (some ⟨p.cb,0,none⟩)] M w:=by rw [←hΩ]; exact fun M w h=>h.2
  clear hΩ cx
  have hSΩ:Has Ω (SkF k s):=⟨fun M w h=>hS.go M w (f0 M w h)⟩
  have hCΩ:Has Ω (CoF p c):=⟨fun M w h=>hC.go M w (f0 M w h)⟩
  have err:∀ er,finishC d c s=(d,c,s,er)→∀ w,Ctx W w (CoO p q c++(dkL q d++(SkO k s++(S++G)))) Ω→EndK W G K (.returned (.int .i64 er)) w:=fun er he w cx=>by
    refine wrapK (A:=CoO p q c) (X:=dkL q d) (S:=SkO k s++S) (cx.re (by simp)) fun w cx => ?_
    rw [he] at hK
    exact hK q.un p k w Ω ⟨rfl,rfl⟩ rfl hq hkq stΩ (fun M w h=>⟨f0 M w h,hSΩ.go M w h,hCΩ.go M w h⟩) cx
  refine step_use (S:=SkO k s++(S++G)) (K:=EndK W G K) (by kernel_rfl) (c5.re (by simp)) (fun hs=>err 9 (by unfold finishC; rw [if_pos hs])) (fun hs hp=>err 7 (by unfold finishC; rw [if_neg (by rw [hs]; simp),if_pos hp])) (fun hst hp w G2 cx => ?_)
  have hlen:=hw.few
  -- the end
  have fin:∀ {k':KP} {Ψ:PW} [Stable Ψ],k'.sb=k.sb→SkQ k' (endR c s).2→(∀ M w,Ψ M w→Ω M w∧SkF k' (endR c s).2 M w)→∀ w,Ctx W w ((SkO k' (endR c s).2++(CoO p q c++(dkL q d++(S++G))))++G2) Ψ→DoPost W p q d c G2 (EndK W G K) (.returned (.tuple #[stV (stI c.now.batch c.now.next) none 0,.int .i64 (endR c s).1])) w:=fun {k' Ψ} stΨ hsb hkq' hΨ w cx=>by
    refine ⟨stI c.now.batch c.now.next,(endR c s).1,none,0,SkO k' (endR c s).2++(S++G),Ψ,rfl,stΨ,sk_out cx,fun he w cx => ?_,fun he=>⟨hq,hk.weak fun M w h=>f0 M w (hΨ M w h).1,hE.weak fun M w h=>f0 M w (hΨ M w h).1,stI_f hw.ints.1 (by have:=hw.next; omega),fun M w h=>Sl.nil,fun u w hq2 cx => ?_⟩⟩
    · have e:finishC d c s=(d,c,(endR c s).2,(endR c s).1):=by
        unfold finishC
        rw [if_neg (by rw [hst]; simp),if_neg (by simp [hp])]
        simp only
        unfold stepK
        rw [if_neg (by rw [hst]; simp),if_neg (by simp [hp]),if_pos he]
      rw [e] at hK
      refine wrapK (A:=CoO p q c) (X:=dkL q d) (S:=SkO k' (endR c s).2++S) (cx.re (by simp)) fun w cx => ?_
      exact hK q.un p k' w Ψ ⟨rfl,rfl⟩ hsb hq hkq' stΨ (fun M w h=>⟨f0 M w (hΨ M w h).1,(hΨ M w h).2,hCΩ.go M w (hΨ M w h).1⟩) cx
    · have e:finishC d c s=((noteC d c (stI c.now.batch c.now.next)).1,(noteC d c (stI c.now.batch c.now.next)).2.1,(endR c s).2,(noteC d c (stI c.now.batch c.now.next)).2.2):=by
        unfold finishC
        rw [if_neg (by rw [hst]; simp),if_neg (by simp [hp])]
        simp only
        rw [stepK_out hst hp he]
      rw [e] at hK
      refine wrapK (A:=CoO (notP p none 0 (noteC d c (stI c.now.batch c.now.next)).2.2) q (noteC d c (stI c.now.batch c.now.next)).2.1) (X:=dkL (q.mv u) (noteC d c (stI c.now.batch c.now.next)).1) (S:=SkO k' (endR c s).2++S) (cx.re (by simp)) fun w cx => ?_
      exact hK u _ k' w Ψ notP_cb hsb hq2 hkq' stΨ (fun M w h=>⟨f0 M w (hΨ M w h).1,(hΨ M w h).2,note_f (Ψ:=Ψ) (fun M w h=>Sl.nil) (fun M w h=>hCΩ.go M w (hΨ M w h).1) M w h⟩) cx
  refine (Bcommit_Coordinator_Finish_1_run k1 0 k0 0 (J:=fun v w'=>DoPost W p q d c G2 (EndK W G K) (.returned v) w') (sk_in cx) ?_).mono fun e w' ⟨v,he,hj⟩=>by rw [he]; exact hj
  clear cx
  refine fun _ w G3 cx=>⟨_,row_cell (Φ:=Ω) (i:=0) (f1 _ _ cx.phi) rfl,fun w G3 cx => ?_⟩
  refine (Kind_q (st:=s) (q:=k)).toI (R:=(CoO p q c++(dkL q d++(S++G)))++G2) (cx.re (by simp)) (Br.intro (fun h => ?_) (fun h => ?_))
  all_goals clear cx
  · have eR:endR c s=commitC s c.now.batch c.now.lines:=by unfold endR; rw [if_pos (of_decide_eq_true h)]
    refine fun w G3 cx=>⟨_,row_cell (Φ:=Ω) (i:=0) (fc _ _ cx.phi) rfl,fun w G3 cx=>⟨_,row_cell (Φ:=Ω) (i:=0) (f1 _ _ cx.phi) rfl,fun w G3 cx => ?_⟩⟩
    refine commit_use (p:=p) (q:=q) (c:=c) (R:=(dkL q d++(S++G))++G2) hkq hI hs hn (by omega) (cx.re (by simp)) fun k' Ψ hsb hkq' stΨ hΨ => ?_
    clear cx
    rw [←eR] at hkq' hΨ ⊢
    refine ⟨[],tru,inferInstance,fun w G cx=>cut_to cx (List.nil_sublist _),fun w G3 cx=>⟨_,row_cell (Φ:=Ψ) (i:=0) (fc _ _ (hΨ _ _ cx.phi).1) rfl,fun w G3 cx=>⟨_,row_cell (Φ:=Ψ) (i:=0) (fc _ _ (hΨ _ _ cx.phi).1) rfl,ptrK_intro p.cb 0 rfl (ptrK_intro p.cb 0 rfl fun w G3 cx=>⟨c.now.batch,cx.get 3 rfl rfl,fun w G3 cx=>⟨c.now.next,cx.get 3 rfl rfl,fun w G cx=>cut_to cx (List.nil_sublist _),fun w G3 cx => ?_⟩⟩)⟩⟩⟩
    exact fin hsb hkq' hΨ w (cx.left.re (by simp))
  · have eR:endR c s=delivK s c.now.batch c.now.lines:=by unfold endR; rw [if_neg (of_decide_eq_false h)]
    refine fun w G3 cx=>⟨_,row_cell (Φ:=Ω) (i:=0) (fc _ _ cx.phi) rfl,fun w G3 cx=>⟨_,row_cell (Φ:=Ω) (i:=0) (f1 _ _ cx.phi) rfl,fun w G3 cx => ?_⟩⟩
    refine deliver_use (p:=p) (q:=q) (c:=c) (R:=(dkL q d++(S++G))++G2) hkq hI hs (by omega) (by omega) (cx.re (by simp)) fun k' hsb hkq' stΨ => ?_
    clear cx
    rw [←eR] at hkq' stΨ ⊢
    refine ⟨[],tru,inferInstance,fun w G cx=>cut_to cx (List.nil_sublist _),fun w G3 cx=>⟨_,row_cell (Φ:=Ω) (i:=0) (fc _ _ cx.phi.1) rfl,fun w G3 cx=>⟨_,row_cell (Φ:=Ω) (i:=0) (fc _ _ cx.phi.1) rfl,ptrK_intro p.cb 0 rfl (ptrK_intro p.cb 0 rfl fun w G3 cx=>⟨c.now.batch,cx.get 3 rfl rfl,fun w G3 cx=>⟨c.now.next,cx.get 3 rfl rfl,fun w G cx=>cut_to cx (List.nil_sublist _),fun w G3 cx => ?_⟩⟩)⟩⟩⟩
    exact fin hsb hkq' (fun M w h=>h) w (cx.left.re (by simp))
set_option maxHeartbeats 4000000 in
theorem AbortC_use [Stable Φ] (hE:CE Φ) [hS:Has Φ (SkF k s)] [hC:Has Φ (CoF p c)] (hq:DkQ q d) (hk:DkK Φ q d) (hw:StW c.now) (hkq:SkQ k s) (hI:SkI s) (hs:SkS s n) (hn:n≤300000) (cx:Ctx W w (CoO p q c++(dkL q d++(SkO k s++S))) Φ) {K:Ending→World→Prop}
    (hK:SinkK W Φ k p q S K (abortC d c s)) :
    Calls Tryz.prog F.commit_Coordinator_Abort #[.pointer (some ⟨p.cb,0,none⟩),snk k] w K:=by
  refine (Bcommit_Coordinator_Abort_run p.cb 0 k.sb 0 (J:=fun u w'=>K (.returned u) w') cx fun k0 k1 w G cx=>⟨_,cx.get 1 rfl rfl,fun w G cx => ?_⟩).mono fun e w' ⟨v,he,hj⟩=>by rw [he]; exact hj
  have c5:Ctx W w ((CoO p q c++(dkL q d++(SkO k s++S)))++G) (fun M w=>(Φ M w∧RowIn k1 0 [.pointer (some ⟨k.sb,0,none⟩)] M w)∧RowIn k0 0 [.pointer (some ⟨p.cb,0,none⟩)] M w):=Ctx.rowIn (Ctx.rowIn cx)
  obtain ⟨Ω,hΩ⟩:∃ Ω:PW,(fun M w=>(Φ M w∧RowIn k1 0 [.pointer (some ⟨k.sb,0,none⟩)] M w)∧RowIn k0 0 [.pointer (some ⟨p.cb,0,none⟩)] M w)=Ω:=⟨_,rfl⟩
  have stΩ:Stable Ω:=by rw [←hΩ]; infer_instance
  rw [hΩ] at c5
  have f0:∀ M w,Ω M w→Φ M w:=by rw [←hΩ]; exact fun M w h=>h.1.1
  have f1:∀ M w,Ω M w→RowIn k1 0 [.pointer (some ⟨k.sb,0,none⟩)] M w:=by rw [←hΩ]; exact fun M w h=>h.1.2
  have fc:∀ M w,Ω M w→RowIn k0 0 [.pointer (some ⟨p.cb,0,none⟩)] M w:=by rw [←hΩ]; exact fun M w h=>h.2
  clear hΩ cx
  have hSΩ:Has Ω (SkF k s):=⟨fun M w h=>hS.go M w (f0 M w h)⟩
  have hCΩ:Has Ω (CoF p c):=⟨fun M w h=>hC.go M w (f0 M w h)⟩
  have err:∀ er,abortC d c s=(d,c,s,er)→∀ w,Ctx W w (CoO p q c++(dkL q d++(SkO k s++(S++G)))) Ω→EndK W G K (.returned (.int .i64 er)) w:=fun er he w cx=>by
    refine wrapK (A:=CoO p q c) (X:=dkL q d) (S:=SkO k s++S) (cx.re (by simp)) fun w cx => ?_
    rw [he] at hK
    exact hK q.un p k w Ω ⟨rfl,rfl⟩ rfl hq hkq stΩ (fun M w h=>⟨f0 M w h,hSΩ.go M w h,hCΩ.go M w h⟩) cx
  refine step_use (S:=SkO k s++(S++G)) (K:=EndK W G K) (by kernel_rfl) (c5.re (by simp)) (fun hs=>err 9 (by unfold abortC; rw [if_pos hs])) (fun hs hp=>err 7 (by unfold abortC; rw [if_neg (by rw [hs]; simp),if_pos hp])) (fun hst hp w G2 cx => ?_)
  -- the end
  have fin:∀ {k':KP} {Ψ:PW} [Stable Ψ],k'.sb=k.sb→SkQ k' (dropR c s)→(∀ M w,Ψ M w→Ω M w∧SkF k' (dropR c s) M w)→∀ w,Ctx W w ((SkO k' (dropR c s)++(CoO p q c++(dkL q d++(S++G))))++G2) Ψ→DoPost W p q d c G2 (EndK W G K) (.returned (.tuple #[stV (stI c.now.last c.now.check) none 0,.int .i64 0])) w:=fun {k' Ψ} stΨ hsb hkq' hΨ w cx=>by
    refine ⟨stI c.now.last c.now.check,0,none,0,SkO k' (dropR c s)++(S++G),Ψ,rfl,stΨ,sk_out cx,fun he=>absurd rfl he,fun he=>⟨hq,hk.weak fun M w h=>f0 M w (hΨ M w h).1,hE.weak fun M w h=>f0 M w (hΨ M w h).1,stI_f hw.last.2 (by have:=hw.check; omega),fun M w h=>Sl.nil,fun u w hq2 cx => ?_⟩⟩
    have e:abortC d c s=((noteC d c (stI c.now.last c.now.check)).1,(noteC d c (stI c.now.last c.now.check)).2.1,dropR c s,(noteC d c (stI c.now.last c.now.check)).2.2):=by
      unfold abortC
      rw [if_neg (by rw [hst]; simp),if_neg (by simp [hp])]
      simp only
      rw [stepK_out hst hp rfl]
    rw [e] at hK
    refine wrapK (A:=CoO (notP p none 0 (noteC d c (stI c.now.last c.now.check)).2.2) q (noteC d c (stI c.now.last c.now.check)).2.1) (X:=dkL (q.mv u) (noteC d c (stI c.now.last c.now.check)).1) (S:=SkO k' (dropR c s)++S) (cx.re (by simp)) fun w cx => ?_
    exact hK u _ k' w Ψ notP_cb hsb hq2 hkq' stΨ (fun M w h=>⟨f0 M w (hΨ M w h).1,(hΨ M w h).2,note_f (Ψ:=Ψ) (fun M w h=>Sl.nil) (fun M w h=>hCΩ.go M w (hΨ M w h).1) M w h⟩) cx
  have stay:dropR c s=s→∀ w G3,Ctx W w ((SkO k s++((CoO p q c++(dkL q d++(S++G)))++G2))++G3) Ω→∃ p82,w.cell? ⟨k0,0,none⟩=some (.pointer p82)∧∀ w G3,Ctx W w ((SkO k s++((CoO p q c++(dkL q d++(S++G)))++G2))++G3) Ω→∃ p85,w.cell? ⟨k0,0,none⟩=some (.pointer p85)∧ptrK none p82 fun k86 k87=>ptrK none p85 fun k88 k89=>∀ w G3,Ctx W w ((SkO k s++((CoO p q c++(dkL q d++(S++G)))++G2))++G3) Ω→∃ n92,w.cell? ⟨k86,k87+1,none⟩=some (.int .i64 n92)∧∀ w G3,Ctx W w ((SkO k s++((CoO p q c++(dkL q d++(S++G)))++G2))++G3) Ω→∃ s95,w.cell? ⟨k88,k89+3,none⟩=some (.string s95)∧∀ w G3,Ctx W w ((SkO k s++((CoO p q c++(dkL q d++(S++G)))++G2))++G3) Ω→DoPost W p q d c G2 (EndK W G K) (.returned (.tuple #[.agg #[.int .i64 n92,.int .i64 0,.string s95,.int .i64 0,.int .i64 0,.string (ByteArray.mk #[]),.slice none 0 0],.int .i64 0])) w:=fun hd w G3 cx =>
    ⟨_,row_cell (Φ:=Ω) (i:=0) (fc _ _ cx.phi) rfl,fun w G3 cx=>⟨_,row_cell (Φ:=Ω) (i:=0) (fc _ _ cx.phi) rfl,ptrK_intro p.cb 0 rfl (ptrK_intro p.cb 0 rfl fun w G3 cx=>⟨c.now.last,cx.get 3 rfl rfl,fun w G3 cx=>⟨c.now.check,cx.get 3 rfl rfl,fun w G3 cx=>by
      have:=fin (k':=k) (Ψ:=Ω) rfl (by rw [hd]; exact hkq) (fun M w h=>⟨h,by rw [hd]; exact hSΩ.go M w h⟩) w (by rw [hd]; exact cx.left.re (by simp))
      exact this⟩⟩)⟩⟩
  refine (Bcommit_Coordinator_Abort_1_run k1 0 k0 0 (J:=fun v w'=>DoPost W p q d c G2 (EndK W G K) (.returned v) w') (sk_in cx) ?_).mono fun e w' ⟨v,he,hj⟩=>by rw [he]; exact hj
  clear cx
  refine fun _ w G3 cx=>⟨_,row_cell (Φ:=Ω) (i:=0) (f1 _ _ cx.phi) rfl,fun w G3 cx => ?_⟩
  refine (Kind_q (st:=s) (q:=k)).toI (R:=(CoO p q c++(dkL q d++(S++G)))++G2) (cx.re (by simp)) ⟨_,Ω,stΩ,fun w G cx=>cx,Br.intro (fun h => ?_) (fun h => ?_)⟩
  all_goals clear cx
  · have h:=of_decide_eq_true h
    refine ⟨some ⟨k.sb,0,none⟩,fun w G cx=>⟨_,row_cell (Φ:=Ω) (i:=0) (f1 _ _ cx.phi) rfl,rfl⟩,some ⟨p.cb,0,none⟩,fun w G cx=>⟨_,row_cell (Φ:=Ω) (i:=0) (fc _ _ cx.phi) rfl,rfl⟩,ptrK_intro p.cb 0 rfl ⟨c.now.batch,fun w G cx=>⟨_,cx.get 3 rfl rfl,rfl⟩,fun w G3 cx => ?_⟩⟩
    refine (Prepared_q (st:=s) (q:=k)).toI (R:=(CoO p q c++(dkL q d++(S++G)))++G2) cx ⟨fun w G cx=>cx,Br.intro (fun h2 => ?_) (fun h2 => ?_)⟩
    · have h2:=of_decide_eq_true h2
      have hd:dropR c s=(abortK s c.now.batch).2:=by unfold dropR; rw [if_pos ⟨h,h2⟩]
      refine ⟨_,Ω,stΩ,fun w G cx=>cx,some ⟨k.sb,0,none⟩,fun w G cx=>⟨_,row_cell (Φ:=Ω) (i:=0) (f1 _ _ cx.phi) rfl,rfl⟩,some ⟨p.cb,0,none⟩,fun w G cx=>⟨_,row_cell (Φ:=Ω) (i:=0) (fc _ _ cx.phi) rfl,rfl⟩,ptrK_intro p.cb 0 rfl ⟨c.now.batch,fun w G cx=>⟨_,cx.get 3 rfl rfl,rfl⟩,fun w G3 cx => ?_⟩⟩
      refine Abort_use (R:=(CoO p q c++(dkL q d++(S++G)))++G2) (b:=c.now.batch) hkq hI hs (by omega) cx fun k' hsb hkq' stΨ => ?_
      clear cx
      rw [←hd] at hkq' stΨ ⊢
      refine fun w G3 cx=>⟨_,row_cell (Φ:=Ω) (i:=0) (fc _ _ cx.phi.1) rfl,fun w G3 cx=>⟨_,row_cell (Φ:=Ω) (i:=0) (fc _ _ cx.phi.1) rfl,ptrK_intro p.cb 0 rfl (ptrK_intro p.cb 0 rfl fun w G3 cx=>⟨c.now.last,cx.get 3 rfl rfl,fun w G3 cx=>⟨c.now.check,cx.get 3 rfl rfl,fun w G3 cx => ?_⟩⟩)⟩⟩
      exact fin hsb hkq' (fun M w h=>h) w (cx.left.re (by simp))
    · exact stay (by unfold dropR; rw [if_neg fun h3=>of_decide_eq_false h2 h3.2])
  · exact stay (by unfold dropR; rw [if_neg fun h3=>of_decide_eq_false h h3.1])
theorem Recover_use [Stable Φ] (hE:CE Φ) [hS:Has Φ (SkF k s)] [hC:Has Φ (CoF p c)] (hq:DkQ q d) (hk:DkK Φ q d) (hw:StW c.now) (hkq:SkQ k s) (hI:SkI s) (hs:SkS s n) (hn:n≤300000) (cx:Ctx W w (CoO p q c++(dkL q d++(SkO k s++S))) Φ) {K:Ending→World→Prop}
    (hK:SinkK W Φ k p q S K (recoverC d c s)) :
    Calls Tryz.prog F.commit_Coordinator_Recover #[.pointer (some ⟨p.cb,0,none⟩),snk k] w K:=by
  have err:∀ er,recoverC d c s=(d,c,s,er)→∀ w,Ctx W w (CoO p q c++(dkL q d++(SkO k s++S))) Φ→K (.returned (.int .i64 er)) w:=fun er he w cx=>by
    rw [he] at hK
    exact hK q.un p k w Φ ⟨rfl,rfl⟩ rfl hq hkq inferInstance (fun M w h=>⟨h,hS.go M w h,hC.go M w h⟩) cx
  have pass:∀ {r:DsS × CoS × SkD × Int},recoverC d c s=r→∀ G,SinkK W Φ k p q (S++G) (EndK W G K) r:=fun {r} he G u p' k' w' Φ' h1 h2 h3 h4 h5 h6 cx=>by
    rw [he] at hK
    exact wrapK (A:=CoO p' q r.2.1) (X:=dkL (q.mv u) r.1) (S:=SkO k' r.2.2.1++S) (cx.re (by simp)) fun w cx=>hK u p' k' w Φ' h1 h2 h3 h4 h5 h6 cx
  refine (Bcommit_Coordinator_Recover_run p.cb 0 k.sb 0 (J:=fun u w'=>K (.returned u) w') cx fun w G cx=>⟨c.stop,cx.get 0 rfl rfl,Br.intro (fun h=>fun w G cx=>err 9 (by unfold recoverC; rw [if_pos h]) w cx.left) (fun h=>fun w G cx=>⟨c.now.phase,cx.get 0 rfl rfl,Br.intro (fun h2=>fun w G cx => ?_) (fun h2=>fun w G cx=>⟨c.now.phase,cx.get 0 rfl rfl,Br.intro (fun h3=>fun w G cx => ?_) (fun h3=>fun w G cx => ?_)⟩)⟩)⟩).mono fun e w' ⟨v,he,hj⟩=>by rw [he]; exact hj
  · exact AbortC_use (S:=S++G) (K:=EndK W G K) hE hq hk hw hkq hI hs hn (cx.re (by simp)) (pass (by unfold recoverC; rw [if_neg (by rw [h]; simp),if_pos (of_decide_eq_true h2)]) G)
  · exact Finish_use (S:=S++G) (K:=EndK W G K) hE hq hk hw hkq hI hs hn (cx.re (by simp)) (pass (by unfold recoverC; rw [if_neg (by rw [h]; simp),if_neg (of_decide_eq_false h2),if_pos (of_decide_eq_true h3)]) G)
  · exact err 0 (by unfold recoverC; rw [if_neg (by rw [h]; simp),if_neg (of_decide_eq_false h2),if_neg (of_decide_eq_false h3)]) w cx.left
end
end Go.Proofs.YtfccagphnfceiaaGreatDoor
end

section
namespace Go.Proofs.YtfccagphnfceiaaGreatDoor
open Go.Vc
structure OpC where
  kind:Int
  b:Int
  n:Int
  L:List LineD
  next:ByteArray
  keep:List Int
  fit:Bool
instance:Gv OpC:=Gv.via (β:=Int × Int × Int × List LineD × ByteArray × List Int × Bool) (fun x=>(x.kind,x.b,x.n,x.L,x.next,x.keep,x.fit)) (fun y=>⟨y.1,y.2.1,y.2.2.1,y.2.2.2.1,y.2.2.2.2.1,y.2.2.2.2.2.1,y.2.2.2.2.2.2⟩) (fun _=>rfl)
abbrev OpC.cells (x:OpC) (p:Option Addr) (c:Nat) (q:Option Addr) (e:Nat):List Value:=[.int .i64 x.kind,.int .i64 x.b,.int .i64 x.n,.slice p x.L.length c,.string x.next,.slice q x.keep.length e,.bool x.fit]
abbrev OpC.v (x:OpC) (p:Option Addr) (c:Nat) (q:Option Addr) (e:Nat):Value:=.agg #[.int .i64 x.kind,.int .i64 x.b,.int .i64 x.n,.slice p x.L.length c,.string x.next,.slice q x.keep.length e,.bool x.fit]
theorem opc_cells {M:List Nat} {w:World} {cs:List Value} {x:OpC} (h:Gv.rep M w cs x):∃ p c q e,cs=x.cells p c q e∧I64 x.kind∧I64 x.b∧I64 x.n∧x.L.length≤9223372036854775807∧x.keep.length≤9223372036854775807∧Sl M w p x.L∧Sl M w q x.keep:=by
  obtain ⟨c1,c2,rfl,⟨rfl,h1⟩,h2⟩:=h
  obtain ⟨c3,c4,rfl,⟨rfl,h3⟩,h4⟩:=h2
  obtain ⟨c5,c6,rfl,⟨rfl,h5⟩,h6⟩:=h4
  obtain ⟨c7,c8,rfl,h7,h8⟩:=h6
  obtain ⟨c9,c10,rfl,⟨rfl,_⟩,h9⟩:=h8
  obtain ⟨c11,c12,rfl,h11,h12⟩:=h9
  obtain ⟨p,c,rfl,g1,g2,g3⟩:=rep_list.1 h7
  obtain ⟨q,e,rfl,g4,g5,g6⟩:=rep_list.1 h11
  obtain rfl:=h12
  unfold maxLen at g2 g5
  have g1:x.L.length≤c:=g1
  have g4:x.keep.length≤e:=g4
  exact ⟨p,c,q,e,rfl,h1,h3,h5,by omega,by omega,g3,g6⟩
def batchC (o:OpC) (last:Int):Int :=
  if o.fit=false then o.b else if o.b.tmod 3 < 0 then IntKind.i64.wrap (IntKind.i64.wrap (last+1)+(o.b.tmod 3+3)) else IntKind.i64.wrap (IntKind.i64.wrap (last+1)+o.b.tmod 3)
def renB (b:Int):Int→List LineD→List LineD
  | _,[]=>[]
  | f,x :: l => { x with no:=f,batch:=b } :: renB b (f+1) l
def linesO (o:OpC) (batch first:Int):List LineD:=if o.fit=true then renB batch first o.L else o.L
theorem renB_len (b:Int):∀ (l:List LineD) (f:Int),(renB b f l).length=l.length
  | [],_=>rfl
  | x :: l,f=>congrArg (· + 1) (renB_len b l (f+1))
theorem linesO_len (o:OpC) (batch first:Int):(linesO o batch first).length=o.L.length:=by
  unfold linesO
  split
  · exact renB_len _ _ _
  · rfl
def opX (d:DsS) (c:CoS) (s:SkD) (o:OpC) (kind:Int):DsS × CoS × SkD × Int :=
  if kind=0 then
    let r:=beginC d c (batchC o c.now.last) o.n (linesO o (batchC o c.now.last) ((s.lines.length:Int)+1)) o.next
    (r.1,r.2.1,s,r.2.2)
  else if kind=1 then (d,(prepareC c s).1,(prepareC c s).2.1,(prepareC c s).2.2)
  else if kind=2 then ((decideC d c).1,(decideC d c).2.1,s,(decideC d c).2.2)
  else if kind=3 then finishC d c s
  else if kind=4 then abortC d c s
  else if kind=5 then recoverC d c s
  else (d,c,s,0)
theorem batchC_64 {o:OpC} {last:Int} (h:I64 o.b):I64 (batchC o last):=by
  unfold batchC
  split
  · exact h
  split
  · exact w64_in _
  · exact w64_in _
theorem SkS.more {s:SkD} {n m:Nat} (h:SkS s n) (hm:n≤m):SkS s m:=⟨by have:=h.bats; omega,by have:=h.lines; omega,by have:=h.aside; omega,by have:=h.key; omega⟩
theorem take_s18 {s:SkD} {n:Nat} (h:SkS s n) {b:Int} {L:List LineD} (hL:L.length≤18):SkS (takeK s b L) (n+18) :=
  ⟨by have:=h.bats; unfold takeK; simp only [List.length_append,List.length_singleton]; omega,by have:=h.lines; unfold takeK; simp only [List.length_append]; omega,by have:=h.aside; show s.aside.length≤_; omega,by have:=h.key; show s.key.length≤_; omega⟩
end Go.Proofs.YtfccagphnfceiaaGreatDoor
end

section
namespace Go.Proofs.YtfccagphnfceiaaGreatDoor
set_option maxRecDepth 100000
open Go.Vc
def Merratalaw44_CommitAborts (kind:Int) (o0:Int) (o1:Int) (o2:Int) (o3P:Option Addr) (o3N o3C:Nat) (o4:ByteArray) (o5P:Option Addr) (o5N o5C:Nat) (o6:Bool) (p0:Int) (p1:Int) (p2:Int) (p3P:Option Addr) (p3N p3C:Nat) (p4:ByteArray) (p5P:Option Addr) (p5N p5C:Nat) (p6:Bool) (prepare:Bool) (W:World) (R:List Own) (Φ:PW) (J:Value→World→Prop):Prop :=
  ∀ (b b:Nat) (w0:World) (R1:List Own),Ctx W w0 (R++R1) Φ→Calls Tryz.prog F.erratalaw44_small #[] w0 fun e2 w3=>∃ c4,e2=.returned (.bool c4)∧∃ R5 Φ6,Stable Φ6∧Ctx W w3 (R5++R1) Φ6∧∀ (k7:Nat) (w8:World) (R9:List Own),Ctx W w8 (Own.blk k7 [.int .i64 o0,.int .i64 o1,.int .i64 o2,.slice o3P o3N o3C,.string o4,.slice o5P o5N o5C,.bool o6,.int .i64 p0,.int .i64 p1,.int .i64 p2,.slice p3P p3N p3C,.string p4,.slice p5P p5N p5C,.bool p6] 25 :: R5++R9) Φ6→Calls Tryz.prog F.errataref44_Few #[.slice (some (Addr.mk k7 0 none)) 2 2,.int .i64 2] w8 fun e10 w11=>∃ c12,e10=.returned (.bool c12)∧∃ R13 Φ14,Stable Φ14∧Ctx W w11 (R13++R9) Φ14∧Br (!c12) (∀ w15 R16,Ctx W w15 (R13++R16) Φ14→J (.bool c4) w15) (∀ w17 R18,Ctx W w17 (R13++R18) Φ14→Calls Tryz.prog F.sink_New #[.int .i64 kind,.slice none 0 0] w17 fun e19 w20=>∃ p21,e19 =
  .returned (.pointer p21)∧∃ R22 Φ23,Stable Φ23∧Ctx W w20 (R22++R18) Φ23∧∀ w24 R25,Ctx W w24 (R22++R25) Φ23→Calls Tryz.prog F.disk_New #[] w24 fun e26 w27=>∃ p28,e26=.returned (.pointer p28)∧∃ R29 Φ30,Stable Φ30∧Ctx W w27 (R29++R25) Φ30∧∀ w31 R32,Ctx W w31 (R29++R32) Φ30→Br (p21.isNone || p28.isNone) (∀ w33 R34,Ctx W w33 (R29++R34) Φ30→∀ w35 R36,Ctx W w35 (R29++R36) Φ30→J (.bool (c4 && !p28.isNone)) w35) (∀ w37 R38,Ctx W w37 (R29++R38) Φ30→Calls Tryz.prog F.commit_Open #[.pointer p28,.int .i64 3] w37 fun e39 w40=>∃ p41 n42,e39=.returned (Value.tuple #[.pointer p41,.int .i64 n42])∧∃ R43 Φ44,Stable Φ44∧Ctx W w40 (R43++R38) Φ44∧Br p41.isNone (∀ w45 R46,Ctx W w45 (R43++R46) Φ44→J (.bool false) w45) (∀ w47 R48,Ctx W w47 (R43++R48) Φ44→Calls Tryz.prog F.sink_Sink_Bytes #[.pointer p21] w47 fun e49 w50=>∃ s51,e49 =
  .returned (.string s51)∧∃ R52 Φ53,Stable Φ53∧Ctx W w50 (R52++R48) Φ53∧∀ w54 R55,Ctx W w54 (R52++R55) Φ53→Calls Tryz.prog F.commit_Coordinator_Decide #[.pointer p41] w54 fun e56 w57=>∃ n58,e56=.returned (.int .i64 n58)∧∃ R59 Φ60,Stable Φ60∧Ctx W w57 (R59++R55) Φ60∧Br (decide (n58≠7)) (∀ w61 R62,Ctx W w61 (R59++R62) Φ60→J (.bool false) w61) (∀ w63 R64,Ctx W w63 (R59++R64) Φ60→Calls Tryz.prog F.commit_Coordinator_Finish #[.pointer p41,.pointer p21] w63 fun e65 w66=>∃ n67,e65=.returned (.int .i64 n67)∧∃ R68 Φ69,Stable Φ69∧Ctx W w66 (R68++R64) Φ69∧Br (decide (n67≠7)) (∀ w70 R71,Ctx W w70 (R68++R71) Φ69→J (.bool false) w70) (∀ w72 R73,Ctx W w72 (R68++R73) Φ69→Calls Tryz.prog F.commit_Coordinator_Abort #[.pointer p41,.pointer p21] w72 fun e74 w75=>∃ n76,e74=.returned (.int .i64 n76)∧∃ R77 Φ78,Stable Φ78∧Ctx W w75
  (R77++R73) Φ78∧Br (decide (n76≠7)) (∀ w79 R80,Ctx W w79 (R77++R80) Φ78→J (.bool false) w79) (∀ w81 R82,Ctx W w81 (R77++R82) Φ78→Calls Tryz.prog F.commit_Coordinator_Prepare #[.pointer p41,.pointer p21] w81 fun e83 w84=>∃ n85,e83=.returned (.int .i64 n85)∧∃ R86 Φ87,Stable Φ87∧Ctx W w84 (R86++R82) Φ87∧Br (decide (n85≠7)) (∀ w88 R89,Ctx W w88 (R86++R89) Φ87→J (.bool false) w88) (∀ w90 R91,Ctx W w90 (R86++R91) Φ87→Calls Tryz.prog F.commit_Coordinator_Recover #[.pointer p41,.pointer p21] w90 fun e92 w93=>∃ n94,e92=.returned (.int .i64 n94)∧∃ R95 Φ96,Stable Φ96∧Ctx W w93 (R95++R91) Φ96∧Br (decide (n94≠0)) (∀ w97 R98,Ctx W w97 (R95++R98) Φ96→J (.bool false) w97) (∀ w99 R100,Ctx W w99 (R95++R100) Φ96→Calls Tryz.prog F.erratalaw44_does #[.pointer p41,Value.pointer p21,Value.agg #[.int .i64 o0,.int .i64 o1,.int .i64 o2,
  .slice o3P o3N o3C,.string o4,.slice o5P o5N o5C,.bool true],Value.int IntKind.i64 0] w99 fun e101 w102=>∃ n103,e101=.returned (.int .i64 n103)∧∃ R104 Φ105,Stable Φ105∧Ctx W w102 (R104++R100) Φ105∧Br (decide (n103≠0)) (Br c4 (∀ w106 R107,Ctx W w106 (R104++R107) Φ105→Calls Tryz.prog F.commit_Coordinator_Phase #[.pointer p41] w106 fun e108 w109=>∃ n110,e108=.returned (.int .i64 n110)∧∃ R111 Φ112,Stable Φ112∧Ctx W w109 (R111++R107) Φ112∧Br (decide (n110=0)) (∀ w113 R114,Ctx W w113 (R111++R114) Φ112→Calls Tryz.prog F.sink_Sink_Bytes #[.pointer p21] w113 fun e115 w116=>∃ s117,e115=.returned (.string s117)∧∃ R118 Φ119,Stable Φ119∧Ctx W w116 (R118++R114) Φ119∧∀ w120 R121,Ctx W w120 (R118++R121) Φ119→J (.bool (decide (s117=s51))) w120) (∀ w122 R123,Ctx W w122 (R111++R123) Φ112→J (.bool false) w122)) (∀ w124 R125,Ctx W w124
  (R104++R125) Φ105→J (.bool false) w124)) (∀ w126 R127,Ctx W w126 (R104++R127) Φ105→Calls Tryz.prog F.erratalaw44_does #[.pointer p41,Value.pointer p21,Value.agg #[.int .i64 o0,.int .i64 o1,.int .i64 o2,.slice o3P o3N o3C,.string o4,.slice o5P o5N o5C,.bool true],Value.int IntKind.i64 0] w126 fun e128 w129=>∃ n130,e128=.returned (.int .i64 n130)∧∃ R131 Φ132,Stable Φ132∧Ctx W w129 (R131++R127) Φ132∧Br (decide (n130≠7)) (∀ w133 R134,Ctx W w133 (R131++R134) Φ132→J (.bool false) w133) (∀ w135 R136,Ctx W w135 (R131++R136) Φ132→Calls Tryz.prog F.commit_Coordinator_Decide #[.pointer p41] w135 fun e137 w138=>∃ n139,e137=.returned (.int .i64 n139)∧∃ R140 Φ141,Stable Φ141∧Ctx W w138 (R140++R136) Φ141∧Br (decide (n139≠25)) (∀ w142 R143,Ctx W w142 (R140++R143) Φ141→J (.bool false) w142) (∀ w144 R145,Ctx W w144 (R140++R145) Φ141 →
  Calls Tryz.prog F.commit_Coordinator_Finish #[.pointer p41,.pointer p21] w144 fun e146 w147=>∃ n148,e146=.returned (.int .i64 n148)∧∃ R149 Φ150,Stable Φ150∧Ctx W w147 (R149++R145) Φ150∧Br (decide (n148≠7)) (∀ w151 R152,Ctx W w151 (R149++R152) Φ150→J (.bool false) w151) (exI fun (I153:List Own→PW→Prop)=>Br prepare (∀ w154 R155,Ctx W w154 (R149++R155) Φ150→Calls Tryz.prog F.commit_Coordinator_Prepare #[.pointer p41,.pointer p21] w154 fun e156 w157=>∃ n158,e156=.returned (.int .i64 n158)∧∃ R159 Φ160,Stable Φ160∧Ctx W w157 (R159++R155) Φ160∧∃ R161 Φ162,Stable Φ162∧Wk W R159 Φ160 R161 Φ162∧I153 R161 Φ162) (∃ R165 Φ166,Stable Φ166∧Wk W R149 Φ150 R165 Φ166∧I153 R165 Φ166)∧∀ (R169:List Own) (I170:List Nat→World→Prop),Stable I170→I153 R169 I170→∀ w171 R172,Ctx W w171 (R169++R172) I170→Calls Tryz.prog
  F.commit_Coordinator_Check #[.pointer p41] w171 fun e173 w174=>∃ s175,e173=.returned (.string s175)∧∃ R176 Φ177,Stable Φ177∧Ctx W w174 (R176++R172) Φ177∧Br (decide (s175≠ByteArray.mk #[])) (∀ w178 R179,Ctx W w178 (R176++R179) Φ177→J (.bool false) w178) (∀ w180 R181,Ctx W w180 (R176++R181) Φ177→Calls Tryz.prog F.sink_Sink_List #[.pointer p21] w180 fun e182 w183=>∃ p184 k185 k186,e182=.returned (.slice p184 k185 k186)∧∃ R187 Φ188,Stable Φ188∧Ctx W w183 (R187++R181) Φ188∧Br (decide ((↑k185:Int)≠0)) (∀ w189 R190,Ctx W w189 (R187++R190) Φ188→J (.bool false) w189) (∀ w191 R192,Ctx W w191 (R187++R192) Φ188→Calls Tryz.prog F.commit_Coordinator_Abort #[.pointer p41,.pointer p21] w191 fun e193 w194=>∃ n195,e193=.returned (.int .i64 n195)∧∃ R196 Φ197,Stable Φ197∧Ctx W w194 (R196++R192) Φ197∧Br (decide (n195≠0)) (∀ w198 R199,
  Ctx W w198 (R196++R199) Φ197→J (.bool false) w198) (∀ w200 R201,Ctx W w200 (R196++R201) Φ197→Calls Tryz.prog F.sink_Sink_Bytes #[.pointer p21] w200 fun e202 w203=>∃ s204,e202=.returned (.string s204)∧∃ R205 Φ206,Stable Φ206∧Ctx W w203 (R205++R201) Φ206∧Br (decide (s204≠s51)) (∀ w207 R208,Ctx W w207 (R205++R208) Φ206→J (.bool false) w207) (∀ w209 R210,Ctx W w209 (R205++R210) Φ206→Calls Tryz.prog F.commit_Coordinator_Check #[.pointer p41] w209 fun e211 w212=>∃ s213,e211=.returned (.string s213)∧∃ R214 Φ215,Stable Φ215∧Ctx W w212 (R214++R210) Φ215∧Br (decide (s213≠ByteArray.mk #[])) (∀ w216 R217,Ctx W w216 (R214++R217) Φ215→J (.bool false) w216) (∀ w218 R219,Ctx W w218 (R214++R219) Φ215→Calls Tryz.prog F.commit_Coordinator_Last #[.pointer p41] w218 fun e220 w221=>∃ n222,e220=.returned (.int .i64 n222)∧∃ R223 Φ224,Stable
  Φ224∧Ctx W w221 (R223++R219) Φ224∧Br (decide (n222≠0)) (∀ w225 R226,Ctx W w225 (R223++R226) Φ224→J (.bool false) w225) (∀ w227 R228,Ctx W w227 (R223++R228) Φ224→Calls Tryz.prog F.commit_Coordinator_Phase #[.pointer p41] w227 fun e229 w230=>∃ n231,e229=.returned (.int .i64 n231)∧∃ R232 Φ233,Stable Φ233∧Ctx W w230 (R232++R228) Φ233∧Br (decide (n231≠0)) (∀ w234 R235,Ctx W w234 (R232++R235) Φ233→J (.bool false) w234) (∀ w236 R237,Ctx W w236 (R232++R237) Φ233→Calls Tryz.prog F.errataref44_Batch #[Value.agg #[.int .i64 p0,.int .i64 o1,.int .i64 p2,.slice p3P p3N p3C,.string p4,.slice p5P p5N p5C,.bool true],Value.int IntKind.i64 0] w236 fun e238 w239=>∃ n240,e238=.returned (.int .i64 n240)∧∃ R241 Φ242,Stable Φ242∧Ctx W w239 (R241++R237) Φ242∧∀ w243 R244,Ctx W w243 (R241++R244) Φ242→Calls Tryz.prog F.errataref44_Lines
  #[Value.agg #[.int .i64 p0,.int .i64 o1,.int .i64 p2,.slice p3P p3N p3C,.string p4,.slice p5P p5N p5C,.bool true],Value.int IntKind.i64 n240,Value.int IntKind.i64 1] w243 fun e245 w246=>∃ p247 k248 k249,e245=.returned (.slice p247 k248 k249)∧∃ R250 Φ251,Stable Φ251∧Ctx W w246 (R250++R244) Φ251∧∀ w252 R253,Ctx W w252 (R250++R253) Φ251→Calls Tryz.prog F.erratalaw44_does #[.pointer p41,Value.pointer p21,Value.agg #[.int .i64 p0,.int .i64 o1,.int .i64 p2,.slice p3P p3N p3C,.string p4,.slice p5P p5N p5C,.bool true],Value.int IntKind.i64 0] w252 fun e254 w255=>∃ n256,e254=.returned (.int .i64 n256)∧∃ R257 Φ258,Stable Φ258∧Ctx W w255 (R257++R253) Φ258∧Br (decide (n256≠0)) (∀ w259 R260,Ctx W w259 (R257++R260) Φ258→J (.bool c4) w259) (∀ w261 R262,Ctx W w261 (R257++R262) Φ258→Calls Tryz.prog F.commit_Coordinator_Prepare #[.pointer p41,
  .pointer p21] w261 fun e263 w264=>∃ n265,e263=.returned (.int .i64 n265)∧∃ R266 Φ267,Stable Φ267∧Ctx W w264 (R266++R262) Φ267∧Br (decide (n265≠0)) (Br c4 (∀ w268 R269,Ctx W w268 (R266++R269) Φ267→Calls Tryz.prog F.commit_Coordinator_Decide #[.pointer p41] w268 fun e270 w271=>∃ n272,e270=.returned (.int .i64 n272)∧∃ R273 Φ274,Stable Φ274∧Ctx W w271 (R273++R269) Φ274∧Br (decide (n272=25)) (∀ w275 R276,Ctx W w275 (R273++R276) Φ274→Calls Tryz.prog F.sink_Sink_List #[.pointer p21] w275 fun e277 w278=>∃ p279 k280 k281,e277=.returned (.slice p279 k280 k281)∧∃ R282 Φ283,Stable Φ283∧Ctx W w278 (R282++R276) Φ283∧∀ w284 R285,Ctx W w284 (R282++R285) Φ283→J (.bool (decide ((↑k280:Int)=0))) w284) (∀ w286 R287,Ctx W w286 (R273++R287) Φ274→J (.bool false) w286)) (∀ w288 R289,Ctx W w288 (R266++R289) Φ267→J (.bool false) w288))
  (Br c4 (∀ w290 R291,Ctx W w290 (R266++R291) Φ267→Calls Tryz.prog F.commit_Coordinator_Decide #[.pointer p41] w290 fun e292 w293=>∃ n294,e292=.returned (.int .i64 n294)∧∃ R295 Φ296,Stable Φ296∧Ctx W w293 (R295++R291) Φ296∧Br (decide (n294=0)) (∀ w297 R298,Ctx W w297 (R295++R298) Φ296→Calls Tryz.prog F.commit_Coordinator_Abort #[.pointer p41,.pointer p21] w297 fun e299 w300=>∃ n301,e299=.returned (.int .i64 n301)∧∃ R302 Φ303,Stable Φ303∧Ctx W w300 (R302++R298) Φ303∧∃ R304 Φ305,Stable Φ305∧Wk W R302 Φ303 R304 Φ305∧Br (decide (n301=7)) (∀ w308 R309,Ctx W w308 (R302++R309) Φ303→Calls Tryz.prog F.commit_Coordinator_Check #[.pointer p41] w308 fun e310 w311=>∃ s312,e310=.returned (.string s312)∧∃ R313 Φ314,Stable Φ314∧Ctx W w311 (R313++R309) Φ314∧Wk W R313 Φ314 R304 Φ305∧Br (decide (s312=p4)) (∀ w317 R318,Ctx W w317 (R313
  ++ R318) Φ314→Calls Tryz.prog F.commit_Coordinator_Finish #[.pointer p41,.pointer p21] w317 fun e319 w320=>∃ n321,e319=.returned (.int .i64 n321)∧∃ R322 Φ323,Stable Φ323∧Ctx W w320 (R322++R318) Φ323∧∃ R324 Φ325,Stable Φ325∧Wk W R322 Φ323 R324 Φ325∧Br (decide (n321=0)) (∀ w328 R329,Ctx W w328 (R322++R329) Φ323→Calls Tryz.prog F.commit_Coordinator_Last #[.pointer p41] w328 fun e330 w331=>∃ n332,e330=.returned (.int .i64 n332)∧∃ R333 Φ334,Stable Φ334∧Ctx W w331 (R333++R329) Φ334∧Wk W R333 Φ334 R324 Φ325∧∃ R337 Φ338,Stable Φ338∧Wk W R333 Φ334 R337 Φ338∧Br (decide (n332=n240)) (∀ w341 R342,Ctx W w341 (R333++R342) Φ334→Calls Tryz.prog F.sink_Sink_List #[.pointer p21] w341 fun e343 w344=>∃ p345 k346 k347,e343=.returned (.slice p345 k346 k347)∧∃ R348 Φ349,Stable Φ349∧Ctx W w344 (R348++R342) Φ349∧Wk W R348 Φ349 R337 Φ338∧∀
  w352 R353,Ctx W w352 (R348++R353) Φ349→Calls Tryz.prog F.errataref43_SameLines #[.slice p345 k346 k347,.slice p247 k248 k249] w352 fun e354 w355=>∃ c356,e354=.returned (.bool c356)∧∃ R357 Φ358,Stable Φ358∧Ctx W w355 (R357++R353) Φ358∧∀ w359 R360,Ctx W w359 (R357++R360) Φ358→J (.bool c356) w359) (∀ w361 R362,Ctx W w361 (R333++R362) Φ334→J (.bool false) w361)) (∃ R363 Φ364,Stable Φ364∧Wk W R322 Φ323 R363 Φ364∧∀ w367 R368,Ctx W w367 (R322++R368) Φ323→J (.bool false) w367)) (∃ R369 Φ370,Stable Φ370∧Wk W R313 Φ314 R369 Φ370∧∃ R373 Φ374,Stable Φ374∧Wk W R313 Φ314 R373 Φ374∧∀ w377 R378,Ctx W w377 (R313++R378) Φ314→J (.bool false) w377)) (∃ R379 Φ380,Stable Φ380∧Wk W R302 Φ303 R379 Φ380∧∃ R383 Φ384,Stable Φ384∧Wk W R302 Φ303 R383 Φ384∧∀ w387 R388,Ctx W w387 (R302++R388) Φ303→J (.bool false) w387)) (∃ R389 Φ390,Stable Φ390 ∧
  Wk W R295 Φ296 R389 Φ390∧∃ R393 Φ394,Stable Φ394∧Wk W R295 Φ296 R393 Φ394∧∃ R397 Φ398,Stable Φ398∧Wk W R295 Φ296 R397 Φ398∧∀ w401 R402,Ctx W w401 (R295++R402) Φ296→J (.bool false) w401)) (∃ R403 Φ404,Stable Φ404∧Wk W R266 Φ267 R403 Φ404∧∃ R407 Φ408,Stable Φ408∧Wk W R266 Φ267 R407 Φ408∧∃ R411 Φ412,Stable Φ412∧Wk W R266 Φ267 R411 Φ412∧∀ w415 R416,Ctx W w415 (R266++R416) Φ267→J (.bool false) w415))))))))))))))))))))))
theorem Merratalaw44_CommitAborts_run (kind:Int) (o0:Int) (o1:Int) (o2:Int) (o3P:Option Addr) (o3N o3C:Nat) (o4:ByteArray) (o5P:Option Addr) (o5N o5C:Nat) (o6:Bool) (p0:Int) (p1:Int) (p2:Int) (p3P:Option Addr) (p3N p3C:Nat) (p4:ByteArray) (p5P:Option Addr) (p5N p5C:Nat) (p6:Bool) (prepare:Bool) {W w:World} {R:List Own} {Φ:PW} [Stable Φ] {J:Value→World→Prop} (c:Ctx W w R Φ) (h:Merratalaw44_CommitAborts kind o0 o1 o2 o3P o3N o3C o4 o5P o5N o5C o6 p0 p1 p2 p3P p3N p3C p4 p5P p5N p5C p6 prepare W R Φ J):Calls Tryz.prog F.erratalaw44_CommitAborts #[.int .i64 kind,.agg #[.int .i64 o0,.int .i64 o1,.int .i64 o2,.slice o3P o3N o3C,.string o4,.slice o5P o5N o5C,.bool o6],.agg #[.int .i64 p0,.int .i64 p1,.int .i64 p2,.slice p3P p3N p3C,.string p4,.slice p5P p5N p5C,.bool p6],.bool prepare] w fun e w'=>∃ v,e=.returned v∧J v w' :=
  vcFS_sound (H := { keep:=some [0,3,5,6,8,9,10,11,12,14,15,16,22,37,49,78,83,111,112,151,161,166],track:=[5,6],stages:=[(31,[.stage [0] none,.stage [1] none,.stage [2] (some 3),.stage [4] none,.stage [5] none,.stage [6] none,.stage [7,8] (some 9),.held [(10,true),(11,true),(12,true),(13,true),(15,true),(16,true),(14,false)],.stage [17] none,.stage [18] none,.stage [19] none,.stage [20,21] (some 22),.held [(23,true),(24,true),(25,true),(26,true),(28,true),(27,false)],.held [(29,true),(30,true),(31,true),(32,true),(34,true),(33,false)],.stage [] (some 35),.stage [36,37] none])],split:=[15,18,19,23,30],cuts:=[(23,[],[])] }) (by rw [show vcFS Tryz.prog W { keep:=some [0,3,5,6,8,9,10,11,12,14,15,16,22,37,49,78,83,111,112,151,161,166],track:=[5,6],stages:=[(31,[.stage [0] none,.stage [1] none,.stage [2] (some 3),.stage [4] none,.stage [5] none,.stage [6] none,.stage [7,8] (some 9),.held [(10,true),(11,true),(12,true),(13,true),(15,true),(16,true),(14,false)],.stage [17] none,.stage [18] none,.stage [19] none,.stage [20,21] (some 22),.held [(23,true),(24,true),(25,true),(26,true),(28,true),(27,false)],.held [(29,true),(30,true),(31,true),(32,true),(34,true),(33,false)],.stage [] (some 35),.stage [36,37] none])],split:=[15,18,19,23,30],cuts:=[(23,[],[])] } F.erratalaw44_CommitAborts #[.int .i64 kind,.agg #[.int .i64 o0,.int .i64 o1,.int .i64 o2,.slice o3P o3N o3C,.string o4,.slice o5P o5N o5C,.bool o6],.agg #[.int .i64 p0,.int .i64 p1,.int .i64 p2,.slice p3P p3N p3C,.string p4,.slice p5P p5N p5C,.bool p6],.bool prepare] R Φ J=Merratalaw44_CommitAborts kind o0 o1 o2 o3P o3N o3C o4 o5P o5N o5C o6 p0 p1 p2 p3P p3N p3C p4 p5P p5N p5C p6 prepare W R Φ J by kernel_rfl]; exact h) c
def Merrataref44_Batch (o0:Int) (o1:Int) (o2:Int) (o3P:Option Addr) (o3N o3C:Nat) (o4:ByteArray) (o5P:Option Addr) (o5N o5C:Nat) (o6:Bool) (last:Int) (W:World) (R:List Own) (Φ:PW) (J:Value→World→Prop):Prop :=
  ∀ (b:Nat),Br (!o6) (∀ w0 R1,Ctx W w0 (R++R1) Φ→J (.int .i64 o1) w0) (((3:Int)=0→False)∧Br (decide (o1.tmod (3:Int) < 0)) (I64 (o1.tmod 3+3)∧∀ w2 R3,Ctx W w2 (R++R3) Φ→J (.int .i64 (IntKind.i64.wrap (IntKind.i64.wrap (last+1)+(o1.tmod 3+3)))) w2) (∀ w4 R5,Ctx W w4 (R++R5) Φ→J (.int .i64 (IntKind.i64.wrap (IntKind.i64.wrap (last+1)+o1.tmod 3))) w4))
theorem Merrataref44_Batch_run (o0:Int) (o1:Int) (o2:Int) (o3P:Option Addr) (o3N o3C:Nat) (o4:ByteArray) (o5P:Option Addr) (o5N o5C:Nat) (o6:Bool) (last:Int) {W w:World} {R:List Own} {Φ:PW} [Stable Φ] {J:Value→World→Prop} (c:Ctx W w R Φ) (h:Merrataref44_Batch o0 o1 o2 o3P o3N o3C o4 o5P o5N o5C o6 last W R Φ J):Calls Tryz.prog F.errataref44_Batch #[.agg #[.int .i64 o0,.int .i64 o1,.int .i64 o2,.slice o3P o3N o3C,.string o4,.slice o5P o5N o5C,.bool o6],.int .i64 last] w fun e w'=>∃ v,e=.returned v∧J v w' :=
  vcFS_sound (H := { keep:=some [1,2,4,5,8,15],wrap:=[19,21],track:=[2] }) (by rw [show vcFS Tryz.prog W { keep:=some [1,2,4,5,8,15],wrap:=[19,21],track:=[2] } F.errataref44_Batch #[.agg #[.int .i64 o0,.int .i64 o1,.int .i64 o2,.slice o3P o3N o3C,.string o4,.slice o5P o5N o5C,.bool o6],.int .i64 last] R Φ J=Merrataref44_Batch o0 o1 o2 o3P o3N o3C o4 o5P o5N o5C o6 last W R Φ J by kernel_rfl]; exact h) c
end Go.Proofs.YtfccagphnfceiaaGreatDoor
end

section
namespace Go.Proofs.YtfccagphnfceiaaGreatDoor
open Go.Vc
theorem renB_snoc (b:Int):∀ (l:List LineD) (x:LineD) (f:Int),renB b f (l++[x])=renB b f l++[{ x with no:=f+l.length,batch:=b }]
  | [],x,f=>by simp [renB]
  | y :: l,x,f=>by
    show { y with no:=f,batch:=b } :: renB b (f+1) (l++[x])=_
    rw [renB_snoc b l x (f+1)]
    have:f+1+(l.length:Int)=f+((y :: l).length:Int):=by simp only [List.length_cons]; omega
    rw [this]
    rfl
def mixB (b f:Int) (L:List LineD) (i:Nat):List LineD:=renB b f (L.take i)++L.drop i
theorem mixB_at {b f:Int} {L:List LineD} {i:Nat} (h:i < L.length):(mixB b f L i)[i]? = some L[i]:=by
  unfold mixB
  have e:(renB b f (L.take i)).length=i:=by rw [renB_len,List.length_take]; omega
  rw [List.getElem?_append_right (by omega),e,Nat.sub_self,List.getElem?_drop,Nat.add_zero,List.getElem?_eq_getElem h]
theorem mixB_set {b f:Int} {L:List LineD} {i:Nat} (h:i < L.length):(mixB b f L i).set i { L[i] with no:=f+i,batch:=b }=mixB b f L (i+1):=by
  unfold mixB
  have e:(renB b f (L.take i)).length=i:=by rw [renB_len,List.length_take]; omega
  have el:(L.take i).length=i:=by rw [List.length_take]; omega
  rw [List.set_append_right _ _ (by omega),e,Nat.sub_self,List.drop_eq_getElem_cons h,List.set_cons_zero,List.take_succ_eq_append_getElem h,renB_snoc,el,List.append_assoc]
  rfl
theorem mixB_len {b f:Int} {L:List LineD} {i:Nat} (h:i≤L.length):(mixB b f L i).length=L.length:=by
  unfold mixB
  rw [List.length_append,renB_len,List.length_take,List.length_drop]; omega
section
variable {W w:World} {S R G:List Own} {Φ:PW} {p:Option Addr} {cap:Nat} {L:List LineD} {cs:List Value}
set_option maxHeartbeats 1000000 in
theorem Clone43_new [Stable Φ] (src:Src [] Φ p L cs) (hc:Rows7 cs L) (hlen:L.length≤1000000) (hrow:∀ x∈L,x.row.length≤1000000) (c:Ctx W w S Φ) :
    Calls Tryz.prog F.errataref43_Clone #[.slice p L.length cap] w fun e w'=>∃ p' c' cs',e=.returned (.slice p' L.length c')∧Ctx W w' (bufL p' L.length c' cs' :: S) (fun M w=>Φ M w∧Elems M w cs' L):=by
  refine (Berrataref43_Clone_run p L.length cap (J:=fun v w'=>∃ p' c' cs',v=.slice p' L.length c'∧Ctx W w' (bufL p' L.length c' cs' :: S) (fun M w=>Φ M w∧Elems M w cs' L)) c ?_).mono fun e w' ⟨v,he,p',c',cs',hv,rest⟩=>⟨p',c',cs',by rw [he,hv],rest⟩
  clear c
  refine exI_mk (fun p6 n c iI R' Φ' k=>∃ (i:Nat) (ds:List Value),iI=i∧i≤L.length∧n=(L.take i).length∧R'=bufL p6 (L.take i).length c ds :: S∧Φ'=(fun M w=>Φ M w∧Elems M w ds (L.take i))∧k=L.length - i) ⟨⟨bufL none 0 0 [] :: S,fun M w=>Φ M w∧Elems M w [] ([]:List LineD),_,inferInstance,fun w G cx=>(cx.nobuf 31 7).weak fun M w h=>⟨h,Elems.nil⟩,0,[],rfl,Nat.zero_le _,rfl,rfl,rfl,rfl⟩,?_⟩
  rintro p6 n c iI R1 Φ1 k _ ⟨i,ds,rfl,hi,rfl,rfl,rfl,rfl⟩
  have stE:∀ (ds:List Value) (o:List LineD),Stable (fun M w=>Φ M w∧Elems M w ds o):=fun ds o=>inferInstance
  refine Br.intro (fun hlt => ?_) (fun hge=>fun w G cx => ?_)
  · have hlt:i < L.length:=by have:=of_decide_eq_true hlt; omega
    obtain ⟨b,o,hp⟩:=src.ptr (by omega)
    obtain ⟨r,rc,he,h1,h2,h3⟩:=hc i hlt
    have hx:L[i].row.length≤1000000:=hrow _ (List.getElem_mem hlt)
    obtain ⟨x,hxe⟩:∃ x,L[i]=x:=⟨_,rfl⟩
    have hsl:∀ M w,Φ M w→Sl M w r x.row:=fun M w h=>by rw [←hxe]; exact src_sl src hlt he h
    have hrd:∀ {w:World} {G:List Own},Ctx W w ((bufL p6 (L.take i).length c ds :: S)++G) (fun M w=>Φ M w∧Elems M w ds (L.take i))→RowAt w b (o+((i:Nat):Int).toNat * 7) (x.cells r rc):=fun {w G} cx=>by
      rw [Int.toNat_natCast,←hxe]
      exact src_at (S:=[]) (G:=(bufL p6 (L.take i).length c ds :: S)++G) src hp cx.fst he
    have hst:L.take (i+1)=L.take i++[x]:=by rw [List.take_succ_eq_append_getElem hlt,hxe]
    rw [hxe] at hx h3
    obtain ⟨o1,ho1⟩:∃ o1,L.take i=o1:=⟨_,rfl⟩
    have ho1l:o1.length≤1000000:=by rw [←ho1,List.length_take]; omega
    rw [ho1] at hst
    simp only [ho1] at hrd ⊢
    refine ⟨by omega,ptrK_intro b o hp fun w G cx=>⟨x.no,x.batch,x.time,r,x.row.length,rc,x.n,x.cause,x.why,hrd cx,fun _ kb w G cx => ?_⟩⟩
    obtain ⟨p2,c2,w2,cs2,hrun,cx1⟩:=Ctx.cloned (P:=Tryz.prog) (ts:=29) (ty:=29) (kb:=#[false,false]) (bytes:=32) (c2:=rc) (l:=x.row) (q:=r) cx (by kernel_rfl) val_one (fun M w h=>hsl M w h.1) (by omega) (by omega)
    obtain ⟨cx2,hs,_,g1,g2⟩:=Ctx.freeze (α:=ValD) cx1 cx1.phi.2
    have stP:Stable (fun M w=>Φ M w∧Sl M w p2 x.row):=inferInstance
    have stQ:Stable (fun M w=>(Φ M w∧Sl M w p2 x.row)∧Elems M w ds o1):=instStableAnd (fun M w=>Φ M w∧Sl M w p2 x.row) (fun M w=>Elems M w ds o1)
    refine ⟨p2,_,c2,w2,hrun,bufL p6 o1.length c ds :: S,(fun M w=>(Φ M w∧Sl M w p2 x.row)∧Elems M w ds o1),stQ,(cx2.add (Ψ:=fun M w=>Sl M w p2 x.row) hs).weak fun M w h=>⟨⟨h.1.1.1,h.2⟩,h.1.1.2⟩,fun k2 w G cx => ?_⟩
    clear cx1 cx2 hs
    obtain ⟨p',c',w',hrun',cx'⟩:=pushK (PS:=fun M w=>Φ M w∧Sl M w p2 x.row) (x:=x) (a:=p2) (ac:=c2) (fun M w h=>rep_line g1 g2 h3 h.2) (by omega) cx
    refine ⟨p',_,c',w',hrun',_,_,instStableAnd Φ (fun M w=>Elems M w (ds++x.cells p2 c2) (o1++[x])),cx'.weak fun M w h=>⟨h.1.1,h.2⟩,by unfold I64; omega,_,_,L.length - (i+1),stE _ _,fun w G cx=>cx,⟨i+1,_,by omega,hlt,by rw [hst],by rw [hst],by rw [hst],rfl⟩,by omega⟩
  · have hge:i=L.length:=by have:=of_decide_eq_false hge; omega
    subst hge
    rw [List.take_length] at cx ⊢
    exact ⟨p6,c,ds,rfl,cx.left⟩
set_option maxHeartbeats 1000000 in
theorem Lines_sl [Stable Φ] {o:OpC} {lp kp:Option Addr} {lc kc:Nat} (hL:∀ M w,Φ M w→Sl M w lp o.L) {batch first:Int} (hb:I64 batch) (hf:0≤first∧first≤1000000) (hlen:o.L.length≤1000) (hrow:∀ x∈o.L,x.row.length≤1000000) :
    GivesSl Φ Tryz.prog F.errataref44_Lines #[o.v lp lc kp kc,.int .i64 batch,.int .i64 first] (linesO o batch first) id :=
  .there (fun M w h=>(hL M w h).there) fun hth=>⟨fun W w S c=>by
    obtain ⟨cs,c1⟩:=srcOf c (hL _ _ c.phi)
    have main:Calls Tryz.prog F.errataref44_Lines #[o.v lp lc kp kc,.int .i64 batch,.int .i64 first] w fun e w'=>∃ p' c' cs',e=.returned (.slice p' (linesO o batch first).length c')∧Ctx W w' (bufL p' (linesO o batch first).length c' cs' :: S) (fun M w=>(Φ M w∧SrcF lp o.L cs M w)∧Elems M w cs' (linesO o batch first)):=by
      refine (Berrataref44_Lines_run o.kind o.b o.n lp o.L.length lc o.next kp o.keep.length kc o.fit batch first (J:=fun v w'=>∃ p' c' cs',v=.slice p' (linesO o batch first).length c'∧Ctx W w' (bufL p' (linesO o batch first).length c' cs' :: S) (fun M w=>(Φ M w∧SrcF lp o.L cs M w)∧Elems M w cs' (linesO o batch first))) c1 ?_).mono fun e w' ⟨v,he,p',c',cs',hv,rest⟩=>⟨p',c',cs',by rw [he,hv],rest⟩
      have hrw7:=rows7 c1.phi.2.2
      clear c
      clear c1
      obtain ⟨Ψ,hΨ⟩:∃ Ψ:PW,(fun M w=>Φ M w∧SrcF lp o.L cs M w)=Ψ:=⟨_,rfl⟩
      have stΨ:Stable Ψ:=by rw [←hΨ]; infer_instance
      have src:=src_fact (Φ:=Ψ) (p:=lp) (l:=o.L) (cs:=cs) hth (fun M w h=>by rw [←hΨ] at h; exact h.2)
      have hΨ2:∀ ds (l:List LineD),(fun M w=>(Φ M w∧SrcF lp o.L cs M w)∧Elems M w ds l)=(fun M w=>Ψ M w∧Elems M w ds l):=fun ds l=>by rw [←hΨ]
      rw [linesO_len]
      simp only [hΨ2]
      rw [hΨ]
      refine fun _ w G cx=>(Clone43_new (S:=S++G) src hrw7 (by omega) hrow cx).mono fun e w' ⟨p1,c1,cs1,he,cx⟩=>⟨p1,o.L.length,c1,he,bufL p1 o.L.length c1 cs1 :: S,(fun M w=>Ψ M w∧Elems M w cs1 o.L),inferInstance,cx,?_⟩
      have hel:=cx.phi.2
      have hpt:0 < o.L.length→∃ g,p1=some ⟨g,0,none⟩:=fun h0=>l_ptr cx (by rw [elems_len7 hel]; omega)
      clear cx hel
      refine exI_mk (fun iI R' Φ' m=>∃ i cs2,iI=(i:Nat)∧i≤o.L.length∧(o.fit=false→i=0)∧R'=bufL p1 o.L.length c1 cs2 :: S∧Φ'=(fun M w=>Ψ M w∧Elems M w cs2 (mixB batch first o.L i))∧m=o.L.length - i) ⟨⟨_,_,_,instStableAnd Ψ (fun M w=>Elems M w cs1 o.L),fun w G cx=>cx,0,cs1,rfl,Nat.zero_le _,fun _=>rfl,rfl,rfl,rfl⟩,?_⟩
      rintro iI R1 Φ1 m _ ⟨i,cs2,rfl,hi,hfit,rfl,rfl,rfl⟩
      refine fun w G cx=>Br.intro (fun hlt => ?_) (fun hge=>fun w G cx => ?_)
      · rw [Bool.and_eq_true] at hlt
        have hlt1:i < o.L.length:=by have:=of_decide_eq_true hlt.1; omega
        obtain ⟨g,rfl⟩:=hpt (by omega)
        clear cx
        refine ⟨by unfold I64; omega,by omega,ptrK_intro g 0 rfl fun w G cx=>⟨?_,fun w2 hw2 => ?_⟩⟩
        · have hl:=elems_len7 cx.phi.2
          rw [mixB_len hi] at hl
          exact l_can (S:=S++G) cx (by omega)
        have st3:∀ (cs3:List Value) (l:List LineD),Stable (fun M w=>Ψ M w∧Elems M w cs3 l):=fun cs3 l=>instStableAnd Ψ (fun M w=>Elems M w cs3 l)
        obtain ⟨cs3,cx3⟩:=sk_cellI (w':=w2) (S:=S++G) cx { o.L[i] with no:=first+i } (mixB_at hlt1) (k:=0) (v:=.int .i64 (first+i)) (by decide) rfl (fun p c=>rfl) (fun h=>⟨by show I64 (first+i); unfold I64; omega,h.batch,h.time,h.n,h.cause,h.why⟩) (by rw [hw2]; congr 2; omega)
        refine ⟨bufL (some ⟨g,0,none⟩) o.L.length c1 cs3 :: S,_,st3 _ _,cx3,by omega,ptrK_intro g 0 rfl fun w G cx=>⟨?_,fun w2 hw2 => ?_⟩⟩
        · have hl:=elems_len7 cx.phi.2
          rw [List.length_set,mixB_len hi] at hl
          exact l_can (S:=S++G) cx (by omega)
        obtain ⟨cs4,cx4⟩:=sk_cellI (w':=w2) (S:=S++G) cx { o.L[i] with no:=first+i,batch:=batch } (y := { o.L[i] with no:=first+i }) (by rw [List.getElem?_set_self (by rw [mixB_len hi]; exact hlt1)]) (k:=1) (v:=.int .i64 batch) (by decide) rfl (fun p c=>rfl) (fun h=>⟨h.no,hb,h.time,h.n,h.cause,h.why⟩) (by rw [hw2]; congr 2; omega)
        rw [List.set_set,mixB_set hlt1] at cx4
        exact ⟨bufL (some ⟨g,0,none⟩) o.L.length c1 cs4 :: S,_,st3 _ _,cx4,by unfold I64; omega,_,_,o.L.length - (i+1),st3 _ _,fun w G cx=>cx,⟨i+1,cs4,by omega,hlt1,(fun h=>by rw [h] at hlt; cases hlt.2),rfl,rfl,rfl⟩,by omega⟩
      · refine ⟨p1,c1,cs2,rfl,?_⟩
        have:mixB batch first o.L i=linesO o batch first:=by
          unfold linesO
          by_cases hft:o.fit=true
          · rw [if_pos hft]
            rw [hft,Bool.and_true] at hge
            have:i=o.L.length:=by have:=of_decide_eq_false hge; omega
            unfold mixB
            rw [this,List.take_length,List.drop_length,List.append_nil]
          · rw [if_neg hft]
            have:i=0:=hfit (by simpa using hft)
            rw [this]
            rfl
        rw [←this]
        exact cx.left
    refine main.mono fun e w' ⟨p',c',cs',he,cx⟩ => ?_
    obtain ⟨c2,hs,_,h2,h3⟩:=Ctx.freeze (α:=LineD) cx cx.phi.2
    exact ⟨p',c',he,h2,h3,(c2.add hs).weak fun M w h=>⟨h.1.1.1,h.2⟩⟩⟩
theorem Batch_in [Stable Φ] {o:OpC} {lp kp:Option Addr} {lc kc:Nat} {last:Int}:GivesIn Φ Tryz.prog F.errataref44_Batch #[o.v lp lc kp kc,.int .i64 last] (.int .i64 (batchC o last)):=by
  refine gives_in (Merrataref44_Batch_run o.kind o.b o.n lp o.L.length lc o.next kp o.keep.length kc o.fit last) fun W R=>fun _=>Br.intro (fun h=>fun w G cx=>⟨?_,cx.left⟩) (fun h=>⟨(fun h=>absurd h (by decide)),Br.intro (fun h2=>⟨?_,fun w G cx=>⟨?_,cx.left⟩⟩) (fun h2=>fun w G cx=>⟨?_,cx.left⟩)⟩)
  · unfold batchC; rw [if_pos (by simpa using h)]
  · have h1:=Int.tmod_lt_of_pos o.b (show (0:Int) < 3 by decide)
    have h2:=Int.lt_tmod_of_pos o.b (show (0:Int) < 3 by decide)
    unfold I64; omega
  · unfold batchC; rw [if_neg (by intro e; rw [e] at h; cases h),if_pos (of_decide_eq_true h2)]
  · unfold batchC; rw [if_neg (by intro e; rw [e] at h; cases h),if_neg (of_decide_eq_false h2)]
end
section
variable {W w:World} {S R G:List Own} {Φ:PW} {k:KP} {s:SkD} {p:CoP} {q:DkP} {d:DsS} {c:CoS} {n:Nat}
set_option maxHeartbeats 2000000 in
theorem Does_use [Stable Φ] (hE:CE Φ) [hS:Has Φ (SkF k s)] [hC:Has Φ (CoF p c)] (hq:DkQ q d) (hk:DkK Φ q d) (hw:StW c.now) (hkq:SkQ k s) (hI:SkI s) (hs:SkS s n) (hn:n≤300000) {o:OpC} {lp kp:Option Addr} {lc kc:Nat} (hL:∀ M w,Φ M w→Sl M w lp o.L) (h6:o.L.length≤6) (hrow:∀ x∈o.L,x.row.length≤1000000) (hb:I64 o.b) (hm:I64 o.n) (hnx:o.next.size≤50) {kind:Int}
    (cx:Ctx W w (CoO p q c++(dkL q d++(SkO k s++S))) Φ) {K:Ending→World→Prop} (hK:SinkK W Φ k p q S K (opX d c s o kind)) :
    Calls Tryz.prog F.erratalaw44_does #[.pointer (some ⟨p.cb,0,none⟩),snk k,o.v lp lc kp kc,.int .i64 kind] w K:=by
  have pass:∀ {r:DsS × CoS × SkD × Int},opX d c s o kind=r→∀ G,SinkK W Φ k p q (S++G) (EndK W G K) r:=fun {r} he G u p' k' w' Φ' h1 h2 h3 h4 h5 h6 cx=>by
    rw [he] at hK
    exact wrapK (A:=CoO p' q r.2.1) (X:=dkL (q.mv u) r.1) (S:=SkO k' r.2.2.1++S) (cx.re (by simp)) fun w cx=>hK u p' k' w Φ' h1 h2 h3 h4 h5 h6 cx
  refine (Berratalaw44_does_run p.cb 0 k.sb 0 o.kind o.b o.n lp o.L.length lc o.next kp o.keep.length kc o.fit kind (J:=fun u w'=>K (.returned u) w') cx fun _ => ?_).mono fun e w' ⟨v,he,hj⟩=>by rw [he]; exact hj
  clear cx
  have hsl:=hs.lines
  refine Br.intro (fun h0 => ?_) (fun h0=>Br.intro (fun h1 => ?_) (fun h1=>Br.intro (fun h2 => ?_) (fun h2=>Br.intro (fun h3 => ?_) (fun h3=>Br.intro (fun h4 => ?_) (fun h4=>Br.intro (fun h5 => ?_) (fun h5 => ?_))))))
  · -- Begin
    have e:opX d c s o kind=((beginC d c (batchC o c.now.last) o.n (linesO o (batchC o c.now.last) ((s.lines.length:Int)+1)) o.next).1,(beginC d c (batchC o c.now.last) o.n (linesO o (batchC o c.now.last) ((s.lines.length:Int)+1)) o.next).2.1,s,(beginC d c (batchC o c.now.last) o.n (linesO o (batchC o c.now.last) ((s.lines.length:Int)+1)) o.next).2.2):=by unfold opX; rw [if_pos (of_decide_eq_true h0)]
    rw [e] at hK
    obtain ⟨r,hr⟩:∃ r,beginC d c (batchC o c.now.last) o.n (linesO o (batchC o c.now.last) ((s.lines.length:Int)+1)) o.next=r:=⟨_,rfl⟩
    rw [hr] at hK
    refine ⟨[],tru,inferInstance,fun w G cx=>cut_to cx (List.nil_sublist _),fun w G cx => ?_⟩
    refine (LastC_q (p:=p) (q:=q) (c:=c)).toI cx ⟨fun w G cx=>cut_to cx (List.nil_sublist _),fun w G cx => ?_⟩
    refine (Batch_in (o:=o) (lp:=lp) (lc:=lc) (kp:=kp) (kc:=kc) (last:=c.now.last)).toI cx ⟨[],tru,inferInstance,fun w G cx=>cut_to cx (List.nil_sublist _),fun w G cx => ?_⟩
    refine (LinesN_q (st:=s) (q:=k)).toI (R:=CoO p q c++(dkL q d++S)) (sk_in cx) ⟨fun w G cx=>cut_to cx (List.nil_sublist _),by unfold I64; omega,fun w G cx => ?_⟩
    refine (Lines_sl (lc:=lc) (kp:=kp) (kc:=kc) hL (batchC_64 hb) (by omega) (by omega) hrow).to cx fun p1 c1 g1 g2 st1=>⟨fun w G cx=>cut_to cx (List.nil_sublist _),fun w G cx => ?_⟩
    refine Begin_use (p:=p) (q:=q) (c:=c) (d:=d) (Φ:=fun M w=>Φ M w∧Sl M w p1 (linesO o (batchC o c.now.last) ((s.lines.length:Int)+1))) (S:=SkO k s++(S++G)) (hE.weak fun M w h=>h.1) (fun M w h=>hC.go M w h.1) hq (hk.weak fun M w h=>h.1) hw (fun M w h=>h.2) (by rw [linesO_len]; omega) (batchC_64 hb) hm (by omega) ((sk_out cx).re (by simp)) fun u p' w hp hq2 cx => ?_
    rw [hr] at hq2 cx ⊢
    refine wrapK (A:=CoO p' q r.2.1) (X:=dkL (q.mv u) r.1) (S:=SkO k s++S) (cx.re (by simp)) fun w cx => ?_
    exact hK u p' k w _ hp rfl hq2 hkq inferInstance (fun M w h=>⟨h.1.1,hS.go M w h.1.1,h.2⟩) cx
  · have e:opX d c s o kind=(d,(prepareC c s).1,(prepareC c s).2.1,(prepareC c s).2.2):=by unfold opX; rw [if_neg (of_decide_eq_false h0),if_pos (of_decide_eq_true h1)]
    have hK2:=pass e
    refine fun w G cx=>Prep_use (p:=p) (q:=q) (c:=c) (k:=k) (s:=s) (S:=dkL q d++(S++G)) hkq hI hs (by omega) (by have:=hw.few; omega) ((sk_in cx).re (by simp)) fun k' w Φ' hsb hkq' st hΦ' cx => ?_
    have hlines : (prepareC c s).1.now = c.now := by unfold prepareC; split; · rfl
                                                     split; · rfl
                                                     rfl
    exact hK2 G q.un p k' w Φ' ⟨rfl,rfl⟩ hsb hq hkq' st (fun M w h=>⟨(hΦ' M w h).1,(hΦ' M w h).2,by show Sl M w p.lp (prepareC c s).1.now.lines; rw [hlines]; exact hC.go M w (hΦ' M w h).1⟩) (Ctx.re (sk_out (A:=CoO p q (prepareC c s).1) (B:=dkL q d) (X:=SkO k' (prepareC c s).2.1) (S:=S++G) (G:=[]) (cx.re (by simp))) (by simp; rfl))
  · have e:opX d c s o kind=((decideC d c).1,(decideC d c).2.1,s,(decideC d c).2.2):=by unfold opX; rw [if_neg (of_decide_eq_false h0),if_neg (of_decide_eq_false h1),if_pos (of_decide_eq_true h2)]
    have hK2:=pass e
    refine fun w G cx=>Decide_use (p:=p) (q:=q) (c:=c) (d:=d) (S:=SkO k s++(S++G)) hE (fun M w h=>hC.go M w h) hq hk hw (cx.re (by simp)) fun u p' w hp hq2 cx => ?_
    exact hK2 G u p' k w _ hp rfl hq2 hkq inferInstance (fun M w h=>⟨h.1,hS.go M w h.1,h.2⟩) cx
  · exact fun w G cx=>Finish_use (p:=p) (q:=q) (c:=c) (d:=d) (k:=k) (s:=s) (S:=S++G) hE hq hk hw hkq hI hs hn (cx.re (by simp)) (pass (by unfold opX; rw [if_neg (of_decide_eq_false h0),if_neg (of_decide_eq_false h1),if_neg (of_decide_eq_false h2),if_pos (of_decide_eq_true h3)]) G)
  · exact fun w G cx=>AbortC_use (p:=p) (q:=q) (c:=c) (d:=d) (k:=k) (s:=s) (S:=S++G) hE hq hk hw hkq hI hs hn (cx.re (by simp)) (pass (by unfold opX; rw [if_neg (of_decide_eq_false h0),if_neg (of_decide_eq_false h1),if_neg (of_decide_eq_false h2),if_neg (of_decide_eq_false h3),if_pos (of_decide_eq_true h4)]) G)
  · exact fun w G cx=>Recover_use (p:=p) (q:=q) (c:=c) (d:=d) (k:=k) (s:=s) (S:=S++G) hE hq hk hw hkq hI hs hn (cx.re (by simp)) (pass (by unfold opX; rw [if_neg (of_decide_eq_false h0),if_neg (of_decide_eq_false h1),if_neg (of_decide_eq_false h2),if_neg (of_decide_eq_false h3),if_neg (of_decide_eq_false h4),if_pos (of_decide_eq_true h5)]) G)
  · have e:opX d c s o kind=(d,c,s,0):=by unfold opX; rw [if_neg (of_decide_eq_false h0),if_neg (of_decide_eq_false h1),if_neg (of_decide_eq_false h2),if_neg (of_decide_eq_false h3),if_neg (of_decide_eq_false h4),if_neg (of_decide_eq_false h5)]
    rw [e] at hK
    exact fun w G cx=>hK q.un p k w Φ ⟨rfl,rfl⟩ rfl hq hkq inferInstance (fun M w h=>⟨h,hS.go M w h,hC.go M w h⟩) cx.left
end
end Go.Proofs.YtfccagphnfceiaaGreatDoor
end

section
namespace Go.Proofs.YtfccagphnfceiaaGreatDoor
open Go.Vc
abbrev ValD.cells (x:ValD):List Value:=[.int .i64 x.kind,.int .i64 x.num,.string x.text]
theorem val_rep {M:List Nat} {w:World} {v:ValD} (h:(I64 v.kind∧I64 v.num)∧v.text.size≤maxLen):Gv.rep M w v.cells v :=
  ⟨[.int .i64 v.kind],[.int .i64 v.num,.string v.text],rfl,⟨rfl,h.1.1⟩,[.int .i64 v.num],[.string v.text],rfl,⟨rfl,h.1.2⟩,rfl,h.2⟩
section
variable {Φ:PW} {p q:Option Addr} {cap cap2:Nat} {r a b:List ValD} {W w:World} {R G:List Own}
end
end Go.Proofs.YtfccagphnfceiaaGreatDoor
end

section
namespace Go.Proofs.YtfccagphnfceiaaGreatDoor
open Go.Vc
theorem openC_len {d:DsS} {f:Int} {k:CelS} {e:Int} (h:openC d f=(some k,e)):k.value.length≤65536:=by
  have hl:∀ (a:Int) (n:Nat),(readS d f a n).1.length≤n:=fun a n=>by
    unfold readS
    split
    · exact Nat.zero_le _
    · split
      · exact Nat.zero_le _
      · show (List.take _ _).length≤_
        rw [List.length_take]; omega
  unfold openC at h
  split at h
  · injection h with h1; cases h1
  split at h
  · injection h with h1; cases h1; exact Nat.zero_le _
  split at h
  · injection h with h1; cases h1
  split at h
  · injection h with h1; cases h1
  split at h
  · injection h with h1; cases h1
  split at h
  · injection h with h1; cases h1
  · injection h with h1; cases h1
    exact Nat.le_trans (hl _ _) (by omega)
section
variable {W w:World} {S R G:List Own} {Φ:PW}
theorem OpenF_use [Stable Φ] (hE:CE Φ) {q:DkP} {d:DsS} (hq:DkQ q d) (hk:DkK Φ q d) {P:StC→Prop} (hf:CFut d P) (cx:Ctx W w (dkL q d++S) Φ) {K:Ending→World→Prop}
    (hn:∀ u d' e w',e=9∨e=10→(DsH d→False)→d'=(openK d 3).1→(openK d 3).2=(none,e)→DkQ (q.mv u) d'→d'.keep=d.keep→CFut d' P→Ctx W w' (dkL (q.mv u) d'++S) Φ→K (.returned (.tuple #[.pointer none,.int .i64 e])) w')
    (hs:∀ u p c d' w',d'=(openK d 3).1→(openK d 3).2=(some c,0)→(DsH d→DsH d')→DkQ (q.mv u) d'→d'.keep=d.keep→CLive d' c→P c.now→c.prep=false→c.stop=false→Ctx W w' (CoO p q c++(dkL (q.mv u) d'++S)) (fun M w=>Φ M w∧CoF p c M w)→K (.returned (.tuple #[.pointer (some ⟨p.cb,0,none⟩),.int .i64 0])) w') :
    Calls Tryz.prog F.commit_Open #[.pointer (some ⟨q.db,0,none⟩),.int .i64 3] w K:=by
  have ho:=openK_out hq.w hf
  have hkeep:(openK d 3).1.keep=d.keep:=by
    unfold openK
    simp only
    split
    · exact sync_keep d 3
    · exact sync_keep d 3
  refine OpenK_use hE hq hk (fun k e h=>Nat.le_trans (openC_len h) (by decide)) cx (fun u w hnone hq2 cx => ?_) (fun u p c w hc he hq2 _ cx => ?_)
  · rcases ho.or with ⟨c,h1,_⟩ | ⟨h1,h2,h3⟩
    · rw [h1] at hnone; cases hnone
    · exact hn u _ _ w h2 (fun h=>by have:=(ho.fine h).2; rw [this] at h2; omega) rfl (by rw [←hnone]) hq2 hkeep h3 cx
  · rcases ho.or with ⟨c',h1,h2,h3,h4,h5,h6⟩ | ⟨h1,_⟩
    · rw [h1] at hc
      cases hc
      exact hs u p c _ w rfl (by rw [←h1,←he]) (fun h=>(ho.fine h).1) hq2 hkeep h3 h4 h5 h6 cx
    · rw [h1] at hc; cases hc
theorem Again_use [Stable Φ] (hE:CE Φ) {q:DkP} {d:DsS} (hq:DkQ q d) (hk:DkK Φ q d) {P:StC→Prop} (hf:CFut d P) {kp:Option Addr} {kc:Nat} {keep:List Int} (hkl:keep.length≤1000000) (hsl:∀ M w,Φ M w→Sl M w kp keep) (cx:Ctx W w (dkL q d++S) Φ) {K:Ending→World→Prop}
    (hn:∀ u d' e w',e=9∨e=10→(DsH (startS (crashS d keep))→False)→DkQ (q.mv u) d'→d'.keep=d.keep→CFut d' P→Ctx W w' (dkL (q.mv u) d'++S) Φ→K (.returned (.tuple #[.pointer none,.int .i64 e])) w')
    (hs:∀ u p c d' w',d'=(openK (startS (crashS d keep)) 3).1→(DsH (startS (crashS d keep))→DsH d')→DkQ (q.mv u) d'→d'.keep=d.keep→CLive d' c→P c.now→c.prep=false→c.stop=false→Ctx W w' (CoO p q c++(dkL (q.mv u) d'++S)) (fun M w=>Φ M w∧CoF p c M w)→K (.returned (.tuple #[.pointer (some ⟨p.cb,0,none⟩),.int .i64 0])) w') :
    Calls Tryz.prog F.erratalaw44_again #[.pointer (some ⟨q.db,0,none⟩),.slice kp keep.length kc] w K:=by
  refine (Berratalaw44_again_run q.db 0 kp keep.length kc (J:=fun u w'=>K (.returned u) w') cx fun w G cx => ?_).mono fun e w' ⟨v,he,hj⟩=>by rw [he]; exact hj
  have hkc:(startS (crashS d keep)).keep=d.keep:=crash_keep d keep
  have hfc:CFut (startS (crashS d keep)) P:=(hf.ev (crash_ev hq.w keep 3)).frame rfl
  refine Crash_use (S:=S++G) hq hkl hsl (cx.re (List.append_assoc _ _ _)) fun u1 w hq1 cx=>⟨rfl,dkL (q.mv u1) (crashS d keep)++S,Φ,inferInstance,cx.re (List.append_assoc _ _ _).symm,fun w G cx => ?_⟩
  refine Start_use (q:=q.mv u1) (S:=S++G) hq1 (cx.re (List.append_assoc _ _ _)) fun w hq2 cx=>⟨rfl,dkL (q.mv u1) (startS (crashS d keep))++S,Φ,inferInstance,cx.re (List.append_assoc _ _ _).symm,fun w G cx => ?_⟩
  refine OpenF_use (q:=q.mv u1) (S:=S++G) hE hq2 (hk.of hkc u1) hfc (cx.re (List.append_assoc _ _ _)) (fun u d' e w he hno hd' _ hq3 hkp hf3 cx => ?_) (fun u p c d' w hd' _ hfine hq3 hkp hl hP hpr hst cx => ?_)
  · exact ⟨none,e,rfl,dkL (q.mv u) d'++S,Φ,inferInstance,Ctx.re (S:=dkL (q.mv u) d'++(S++G)) cx (List.append_assoc _ _ _).symm,fun w G cx=>hn u d' e w he hno hq3 (hkp.trans hkc) hf3 cx.left⟩
  · exact ⟨_,_,rfl,CoO p q c++(dkL (q.mv u) d'++S),_,inferInstance,Ctx.re (S:=CoO p q c++(dkL (q.mv u) d'++(S++G))) cx (by simp),fun w G cx=>hs u p c d' w hd' hfine hq3 (hkp.trans hkc) hl hP hpr hst cx.left⟩
abbrev lineX (no b:Int):LineD:=⟨no,b,5,[⟨0,7,ByteArray.mk #[]⟩],1,0,0⟩
theorem lineX_in [Stable Φ] {no b:Int} (h:I64 no∧I64 b):GivesSl Φ Tryz.prog F.erratalaw44_line #[.int .i64 no,.int .i64 b] [lineX no b] id:=⟨fun W w S c=>by
  refine (Berratalaw44_line_run no b (J:=fun v w'=>∃ p c,v=.slice p 1 c∧1≤c∧c≤maxLen∧Ctx W w' S (fun M w=>Φ M w∧Sl M w p [lineX no b])) c fun k0 k1 w G cx => ?_).mono fun e w' ⟨v,he,p,c,hv,g1,g2,cx⟩=>⟨p,c,by rw [he,hv]; rfl,g1,g2,cx⟩
  have c1:=cx.swap
  obtain ⟨c2,h2⟩:=Ctx.freezeBlk (α:=ValD) (l:=[⟨0,7,ByteArray.mk #[]⟩]) c1 (Elems.one (val_rep (v:=⟨0,7,ByteArray.mk #[]⟩) ⟨⟨by show I64 0; unfold I64; decide,by show I64 7; unfold I64; decide⟩,by show (ByteArray.mk #[]).size≤maxLen; decide⟩))
  have c3:=c2.add (Ψ:=fun M w=>Sl M w (some ⟨k0,0,none⟩) ([⟨0,7,ByteArray.mk #[]⟩]:List ValD)) h2
  have h4:Elems (dom (Own.blk k1 [.int .i64 no,.int .i64 b,.int .i64 5,.slice (some ⟨k0,0,none⟩) 1 1,.int .i64 1,.int .i64 0,.int .i64 0] 31 :: (S++G))) w [.int .i64 no,.int .i64 b,.int .i64 5,.slice (some ⟨k0,0,none⟩) 1 1,.int .i64 1,.int .i64 0,.int .i64 0] [lineX no b] :=
    Elems.one (rep_line (x:=lineX no b) (p:=some ⟨k0,0,none⟩) (c:=1) (Nat.le_refl _) (by unfold maxLen; decide) ⟨h.1,h.2,by show I64 5; unfold I64; decide,by show I64 1; unfold I64; decide,by show I64 0; unfold I64; decide,by show I64 0; unfold I64; decide⟩ c3.phi.2)
  obtain ⟨c5,h5⟩:=Ctx.freezeBlk (α:=LineD) c3 h4
  exact ⟨some ⟨k1,0,none⟩,1,rfl,Nat.le_refl _,by unfold maxLen; decide,((c5.add (Ψ:=fun M w=>Sl M w (some ⟨k1,0,none⟩) [lineX no b]) h5).left).weak fun M w h=>⟨h.1.1,h.2⟩⟩⟩
def fewC (l:List OpC) (n:Int):Bool:=(l.all fun x=>decide ((x.next.size:Int)≤50) && decide (x.keep.length≤20) && fewR x.L 6) && decide ((l.length:Int)≤n)
theorem fewC_yes {l:List OpC} {n:Int} (h:fewC l n=true):(∀ x∈l,x.next.size≤50∧x.keep.length≤20∧x.L.length≤6∧∀ y∈x.L,y.row.length≤12)∧(l.length:Int)≤n:=by
  unfold fewC at h
  rw [Bool.and_eq_true] at h
  refine ⟨fun x hx => ?_,of_decide_eq_true h.2⟩
  have:=List.all_eq_true.1 h.1 x hx
  rw [Bool.and_eq_true,Bool.and_eq_true] at this
  have h1:=of_decide_eq_true this.1.1
  have h3:=fewR_len this.2
  exact ⟨by omega,of_decide_eq_true this.1.2,by omega,fewR_row this.2⟩
theorem opc_pin {M:List Nat} {w:World} {b o:Nat} {cs:List (List Value)} {l:List OpC} (h:Pin b o cs l M w) {j:Nat} (hj:j < l.length):∃ p c q e,cs.getD j []=l[j].cells p c q e∧I64 l[j].kind∧I64 l[j].b∧I64 l[j].n∧l[j].L.length≤9223372036854775807∧l[j].keep.length≤9223372036854775807:=by
  obtain ⟨p,c,q,e,h1,h2,h3,h4,h5,h6,_⟩:=opc_cells (h j hj).2.2
  exact ⟨p,c,q,e,h1,h2,h3,h4,h5,h6⟩
theorem opc_row {M:List Nat} {w:World} {b o:Nat} {cs:List (List Value)} {l:List OpC} (h:Pin b o cs l M w) {j:Nat} (hj:j < l.length) {p:Option Addr} {c:Nat} {q:Option Addr} {e:Nat} (he:cs.getD j []=l[j].cells p c q e):RowAt w b (o+j * 7) (l[j].cells p c q e):=by
  have:=(h j hj).2.1
  rw [he] at this
  exact this
theorem opc_sl {M:List Nat} {w:World} {b o:Nat} {cs:List (List Value)} {l:List OpC} (h:Pin b o cs l M w) {j:Nat} (hj:j < l.length) {p:Option Addr} {c:Nat} {q:Option Addr} {e:Nat} (he:cs.getD j []=l[j].cells p c q e):Sl M w p l[j].L∧Sl M w q l[j].keep:=by
  have:=(h j hj).2.2
  rw [he] at this
  obtain ⟨p',c',q',e',h1,_,_,_,_,_,h2,h3⟩:=opc_cells this
  simp only [OpC.cells,List.cons.injEq,Value.slice.injEq,and_true,true_and] at h1
  rw [h1.1.1,h1.2.1]
  exact ⟨h2,h3⟩
theorem opc_cell {w:World} {b o:Nat} {x:OpC} {p:Option Addr} {c:Nat} {q:Option Addr} {e:Nat} (h:RowAt w b o (x.cells p c q e)) {i:Nat} {v:Value} (hv:(x.cells p c q e)[i]? = some v):w.cell? ⟨b,o+i,none⟩=some v:=by
  obtain ⟨hi,he⟩:=List.getElem?_eq_some_iff.1 hv
  rw [h i hi,he]
theorem few_in44 [Stable Φ] {p:Option Addr} {cap:Nat} {l:List OpC} {b o:Nat} {cs:List (List Value)} {m:Int} (hp:0 < l.length→p=some ⟨b,o,none⟩) (hΦ:∀ M w,Φ M w→Pin b o cs l M w) (hlen:l.length≤9223372036854775807):GivesIn Φ Tryz.prog F.errataref44_Few #[.slice p l.length cap,.int .i64 m] (.bool (fewC l m)):=by
  refine gives_in (Berrataref44_Few_run p l.length cap m) fun W R => ?_
  refine exI_mk (fun n R' Φ' k=>∃ i:Nat,n=i∧i+k=l.length∧R'=R∧Φ'=Φ∧∀ x∈l.take i,(decide ((x.next.size:Int)≤50) && decide (x.keep.length≤20) && fewR x.L 6)=true) ⟨⟨_,Φ,l.length,inferInstance,fun w G cx=>cx,0,rfl,by omega,rfl,rfl,by simp⟩,?_⟩
  rintro n R1 Φ k _ ⟨i,rfl,hik,rfl,rfl,hall⟩
  refine Br.intro (fun hlt => ?_) (fun hge=>fun w G cx=>⟨?_,cx.left⟩)
  · have hlt:i < l.length:=by have:=of_decide_eq_true hlt; omega
    obtain ⟨k,rfl⟩:∃ m,k=m+1:=⟨k - 1,by omega⟩
    have hp:=hp (by omega)
    have bad:(decide ((l[i].next.size:Int)≤50) && decide (l[i].keep.length≤20) && fewR l[i].L 6)=false→fewC l m=false:=fun h=>by
      unfold fewC
      have:(l.all fun x=>decide ((x.next.size:Int)≤50) && decide (x.keep.length≤20) && fewR x.L 6)=false:=List.all_eq_false.2 ⟨l[i],List.getElem_mem hlt,by rw [h]; simp⟩
      rw [this]; rfl
    refine ⟨⟨by omega,by omega⟩,ptrK_intro b o hp fun w G cx => ?_⟩
    obtain ⟨q,qc,r,rc,he,_,_,_,hl1,hl2⟩:=opc_pin (hΦ _ _ cx.phi) hlt
    refine ⟨l[i].next,by rw [Int.toNat_natCast]; exact opc_cell (i:=4) (opc_row (hΦ _ _ cx.phi) hlt he) rfl,Br.intro (fun h=>fun w G cx=>⟨?_,cx.left⟩) (fun h1=>⟨⟨by omega,by omega⟩,ptrK_intro b o hp fun w G cx=>⟨r,l[i].keep.length,rc,by rw [Int.toNat_natCast]; exact opc_cell (i:=5) (opc_row (hΦ _ _ cx.phi) hlt he) rfl,Br.intro (fun h=>fun w G cx=>⟨?_,cx.left⟩) (fun h2=>⟨⟨by omega,by omega⟩,ptrK_intro b o hp fun w G cx=>⟨q,l[i].L.length,qc,by rw [Int.toNat_natCast]; exact opc_cell (i:=3) (opc_row (hΦ _ _ cx.phi) hlt he) rfl,fun w G cx => ?_⟩⟩)⟩⟩)⟩
    · rw [bad (by rw [decide_eq_false (by have:=of_decide_eq_true h; omega)]; rfl)]
    · rw [bad (by rw [decide_eq_false (p:=l[i].keep.length≤20) (by have:=of_decide_eq_true h; omega),Bool.and_false]; rfl)]
    · have hh:Has Φ (fun M w=>Sl M w q l[i].L):=⟨fun M w h=>(opc_sl (hΦ M w h) hlt he).1⟩
      refine (Few43_in (L:=l[i].L) (n:=6) (by unfold maxLen; omega)).toB cx (Br.intro (fun h=>fun w G cx=>⟨?_,cx.left⟩) (fun h3=>⟨by unfold I64; omega,_,Φ,k,inferInstance,fun w G cx=>cx,⟨i+1,by omega,by omega,rfl,rfl,fun x hx => ?_⟩,Nat.lt_succ_self _⟩))
      · rw [bad (by rw [show fewR l[i].L 6=false by simpa using h,Bool.and_false])]
      · rw [List.take_succ_eq_append_getElem hlt] at hx
        rcases List.mem_append.1 hx with hx | hx
        · exact hall x hx
        · rw [List.mem_singleton.1 hx,decide_eq_true (by have:=of_decide_eq_false h1; omega:((l[i].next.size:Int)≤50)),decide_eq_true (by have:=of_decide_eq_false h2; omega:l[i].keep.length≤20),show fewR l[i].L 6=true by simpa using h3]
          rfl
  · have hge:i=l.length:=by have:=of_decide_eq_false hge; omega
    subst hge
    rw [List.take_length] at hall
    unfold fewC
    rw [List.all_eq_true.2 hall,Bool.true_and]
structure StoP where
  xb:Nat
  tp:Option Addr
  tc:Nat
  lp:Option Addr
  lc:Nat
end
end Go.Proofs.YtfccagphnfceiaaGreatDoor
end

section
namespace Go.Proofs.YtfccagphnfceiaaGreatDoor
open Go.Vc
section
variable {W w:World} {S R G:List Own} {Φ:PW}
theorem SameLn_in [Stable Φ] {p r:Option Addr} {cap cap2:Nat} {a b:List LineD} (hA:∀ M w,Φ M w→Sl M w p a) (hB:∀ M w,Φ M w→Sl M w r b) (hlen:a.length≤1000000) (hrow:∀ x∈a,x.row.length≤1000000) :
    GivesIn Φ Tryz.prog F.errataref43_SameLines #[.slice p a.length cap,.slice r b.length cap2] (.bool (decide (a=b))):=by
  have h1:Has Φ (fun M w=>Sl M w p a):=⟨hA⟩
  have h2:Has Φ (fun M w=>Sl M w r b):=⟨hB⟩
  exact SameLines_in hlen hrow
end
end Go.Proofs.YtfccagphnfceiaaGreatDoor
end

section
namespace Go.Proofs.YtfccagphnfceiaaGreatDoor
open Go.Vc
theorem setC_keepC (d:DsS) (c:CelS) (s:Bs):(setC d c s).1.keep=d.keep:=by
  have h2:∀ (d:DsS) (c:CelS) (sl:Nat),(setC2 d c s sl).1.keep=d.keep:=fun d c sl=>by
    unfold setC2
    split
    · exact write_keep _ _ _ _
    split
    · exact (sync_keep _ _).trans (write_keep _ _ _ _)
    split
    · exact (write_keep _ _ _ _).trans ((sync_keep _ _).trans (write_keep _ _ _ _))
    · exact (sync_keep _ _).trans ((write_keep _ _ _ _).trans ((sync_keep _ _).trans (write_keep _ _ _ _)))
  unfold setC
  split
  · rfl
  split
  · split
    · exact sync_keep _ _
    · exact (h2 _ _ _).trans (sync_keep _ _)
  · exact h2 _ _ _
theorem noteC_keep (d:DsS) (c:CoS) (x:StC):(noteC d c x).1.keep=d.keep:=by
  unfold noteC
  simp only
  split
  · exact setC_keepC _ _ _
  · exact setC_keepC _ _ _
structure CoH (Φ:PW) (k:KP) (s:SkD) (p:CoP) (q:DkP) (d:DsS) (c:CoS) (n:Nat):Prop where
  E:CE Φ
  hS:∀ M w,Φ M w→SkF k s M w
  hC:∀ M w,Φ M w→CoF p c M w
  hq:DkQ q d
  hk:DkK Φ q d
  hw:StW c.now
  hkq:SkQ k s
  hI:SkI s
  hs:SkS s n
theorem CoH.next {Φ Φ':PW} {k k':KP} {s s':SkD} {p p':CoP} {q:DkP} {d d':DsS} {c c':CoS} {n n':Nat} {u:DkU} (h:CoH Φ k s p q d c n) (hΦ:∀ M w,Φ' M w→Φ M w∧(SkF k' s' M w∧CoF p' c' M w)) (hq:DkQ (q.mv u) d') (hkq:SkQ k' s') (hkp:d'.keep=d.keep) (hw:StW c'.now) (hI:SkI s') (hs:SkS s' n'):CoH Φ' k' s' p' (q.mv u) d' c' n' :=
  ⟨h.E.weak fun M w x=>(hΦ M w x).1,fun M w x=>(hΦ M w x).2.1,fun M w x=>(hΦ M w x).2.2,hq,(h.hk.weak fun M w x=>(hΦ M w x).1).of hkp u,hw,hkq,hI,hs⟩
theorem SinkK.go {W:World} {Φ:PW} {k:KP} {p:CoP} {q:DkP} {S G:List Own} {d':DsS} {c':CoS} {s':SkD} {er:Int} {X:Int→List Own→PW→Prop}
    (h:∀ u p' k' Φ',p'.cb=p.cb∧p'.kb=p.kb→k'.sb=k.sb→DkQ (q.mv u) d'→SkQ k' s'→Stable Φ'→(∀ M w,Φ' M w→Φ M w∧(SkF k' s' M w∧CoF p' c' M w))→X er (CoO p' q c'++(dkL (q.mv u) d'++(SkO k' s'++S))) Φ') :
    SinkK W Φ k p q (S++G) (fun e w'=>∃ n,e=.returned (.int .i64 n)∧∃ R Φ',Stable Φ'∧Ctx W w' (R++G) Φ'∧X n R Φ') (d',c',s',er) :=
  fun u p' k' w' Φ' h1 h2 h3 h4 h5 h6 cx=>⟨_,rfl,_,Φ',h5,cx.re (by simp),h u p' k' Φ' h1 h2 h3 h4 h5 h6⟩
theorem lay1 {A B X S G:List Own}:(A++(B++(X++S)))++G=A++(B++(X++(S++G))):=by simp
section
variable {W w:World} {S R G:List Own} {Φ:PW} {k:KP} {s:SkD} {p:CoP} {q:DkP} {d:DsS} {c:CoS} {n:Nat}
variable {cb sb:Nat} {r:DsS × CoS × SkD × Int}
theorem BeginS_use [Stable Φ] (H:CoH Φ k s p q d c n) (hcb:p.cb=cb) {batch mark:Int} {lp:Option Addr} {lc:Nat} {lines:List LineD} {next:ByteArray} (hL:∀ M w,Φ M w→Sl M w lp lines) (hlen:lines.length≤1000000) (hb:I64 batch) (hm:I64 mark) (hnx:next.size≤1000000000) {ln:Nat} (hln:lines.length=ln)
    (hr:((beginC d c batch mark lines next).1,(beginC d c batch mark lines next).2.1,s,(beginC d c batch mark lines next).2.2)=r)
    (cx:Ctx W w (CoO p q c++(dkL q d++(SkO k s++S))) Φ) {K:Ending→World→Prop} (hK:SinkK W Φ k p q S K r) :
    Calls Tryz.prog F.commit_Coordinator_Begin #[.pointer (some ⟨cb,0,none⟩),.int .i64 batch,.int .i64 mark,.slice lp ln lc,.string next] w K:=by
  subst hln hcb hr
  exact Begin_use (p:=p) (q:=q) (c:=c) (d:=d) H.E H.hC H.hq H.hk H.hw hL hlen hb hm hnx cx fun u p' w hp hq2 cx=>hK u p' k w _ hp rfl hq2 H.hkq inferInstance (fun M w h=>⟨h.1,H.hS M w h.1,h.2⟩) cx
theorem PrepS_use [Stable Φ] (H:CoH Φ k s p q d c n) (hcb:p.cb=cb) (hsb:k.sb=sb) (hn:n≤300000) (hr:(d,(prepareC c s).1,(prepareC c s).2.1,(prepareC c s).2.2)=r) (cx:Ctx W w (CoO p q c++(dkL q d++(SkO k s++S))) Φ) {K:Ending→World→Prop} (hK:SinkK W Φ k p q S K r) :
    Calls Tryz.prog F.commit_Coordinator_Prepare #[.pointer (some ⟨cb,0,none⟩),.pointer (some ⟨sb,0,none⟩)] w K:=by
  subst hcb hsb hr
  have hS:Has Φ (SkF k s):=⟨H.hS⟩
  have hC:Has Φ (CoF p c):=⟨H.hC⟩
  have cx2:Ctx W w ((SkO k s++(CoO p q c++(dkL q d++S)))++[]) Φ:=sk_in (cx.re (by simp))
  refine Prep_use (p:=p) (q:=q) (c:=c) (k:=k) (s:=s) (S:=dkL q d++S) H.hkq H.hI H.hs (by omega) (by have:=H.hw.few; omega) (cx2.re (by simp)) fun k' w Φ' hsb hkq' st hΦ' cx => ?_
  have hlines : (prepareC c s).1.now = c.now := by unfold prepareC; split; · rfl
                                                   split; · rfl
                                                   rfl
  exact hK q.un p k' w Φ' ⟨rfl,rfl⟩ hsb H.hq hkq' st (fun M w h=>⟨(hΦ' M w h).1,(hΦ' M w h).2,by show Sl M w p.lp (prepareC c s).1.now.lines; rw [hlines]; exact H.hC M w (hΦ' M w h).1⟩) (Ctx.re (sk_out (A:=CoO p q (prepareC c s).1) (B:=dkL q d) (X:=SkO k' (prepareC c s).2.1) (S:=S) (G:=[]) (cx.re (by simp))) (by simp; rfl))
theorem DecideS_use [Stable Φ] (H:CoH Φ k s p q d c n) (hcb:p.cb=cb) (hr:((decideC d c).1,(decideC d c).2.1,s,(decideC d c).2.2)=r) (cx:Ctx W w (CoO p q c++(dkL q d++(SkO k s++S))) Φ) {K:Ending→World→Prop} (hK:SinkK W Φ k p q S K r) :
    Calls Tryz.prog F.commit_Coordinator_Decide #[.pointer (some ⟨cb,0,none⟩)] w K:=by
  subst hcb hr
  exact Decide_use (p:=p) (q:=q) (c:=c) (d:=d) H.E H.hC H.hq H.hk H.hw cx fun u p' w hp hq2 cx=>hK u p' k w _ hp rfl hq2 H.hkq inferInstance (fun M w h=>⟨h.1,H.hS M w h.1,h.2⟩) cx
theorem FinishS_use [Stable Φ] (H:CoH Φ k s p q d c n) (hcb:p.cb=cb) (hsb:k.sb=sb) (hn:n≤300000) (hr:finishC d c s=r) (cx:Ctx W w (CoO p q c++(dkL q d++(SkO k s++S))) Φ) {K:Ending→World→Prop} (hK:SinkK W Φ k p q S K r) :
    Calls Tryz.prog F.commit_Coordinator_Finish #[.pointer (some ⟨cb,0,none⟩),.pointer (some ⟨sb,0,none⟩)] w K:=by
  subst hcb hsb hr
  have hS:Has Φ (SkF k s):=⟨H.hS⟩
  have hC:Has Φ (CoF p c):=⟨H.hC⟩
  exact Finish_use (p:=p) (q:=q) (c:=c) (d:=d) (k:=k) (s:=s) H.E H.hq H.hk H.hw H.hkq H.hI H.hs hn cx hK
theorem AbortS_use [Stable Φ] (H:CoH Φ k s p q d c n) (hcb:p.cb=cb) (hsb:k.sb=sb) (hn:n≤300000) (hr:abortC d c s=r) (cx:Ctx W w (CoO p q c++(dkL q d++(SkO k s++S))) Φ) {K:Ending→World→Prop} (hK:SinkK W Φ k p q S K r) :
    Calls Tryz.prog F.commit_Coordinator_Abort #[.pointer (some ⟨cb,0,none⟩),.pointer (some ⟨sb,0,none⟩)] w K:=by
  subst hcb hsb hr
  have hS:Has Φ (SkF k s):=⟨H.hS⟩
  have hC:Has Φ (CoF p c):=⟨H.hC⟩
  exact AbortC_use (p:=p) (q:=q) (c:=c) (d:=d) (k:=k) (s:=s) H.E H.hq H.hk H.hw H.hkq H.hI H.hs hn cx hK
theorem RecoverS_use [Stable Φ] (H:CoH Φ k s p q d c n) (hcb:p.cb=cb) (hsb:k.sb=sb) (hn:n≤300000) (hr:recoverC d c s=r) (cx:Ctx W w (CoO p q c++(dkL q d++(SkO k s++S))) Φ) {K:Ending→World→Prop} (hK:SinkK W Φ k p q S K r) :
    Calls Tryz.prog F.commit_Coordinator_Recover #[.pointer (some ⟨cb,0,none⟩),.pointer (some ⟨sb,0,none⟩)] w K:=by
  subst hcb hsb hr
  have hS:Has Φ (SkF k s):=⟨H.hS⟩
  have hC:Has Φ (CoF p c):=⟨H.hC⟩
  exact Recover_use (p:=p) (q:=q) (c:=c) (d:=d) (k:=k) (s:=s) H.E H.hq H.hk H.hw H.hkq H.hI H.hs hn cx hK
theorem DoesS_use [Stable Φ] (H:CoH Φ k s p q d c n) (hcb:p.cb=cb) (hsb:k.sb=sb) (hn:n≤300000) {o:OpC} {lp kp:Option Addr} {lc kc:Nat} (hL:∀ M w,Φ M w→Sl M w lp o.L) (h6:o.L.length≤6) (hrow:∀ x∈o.L,x.row.length≤1000000) (hb:I64 o.b) (hm:I64 o.n) (hnx:o.next.size≤50) {kind:Int} (hr:opX d c s o kind=r)
    (cx:Ctx W w (CoO p q c++(dkL q d++(SkO k s++S))) Φ) {K:Ending→World→Prop} (hK:SinkK W Φ k p q S K r) :
    Calls Tryz.prog F.erratalaw44_does #[.pointer (some ⟨cb,0,none⟩),.pointer (some ⟨sb,0,none⟩),o.v lp lc kp kc,.int .i64 kind] w K:=by
  subst hcb hsb hr
  have hS:Has Φ (SkF k s):=⟨H.hS⟩
  have hC:Has Φ (CoF p c):=⟨H.hC⟩
  exact Does_use (p:=p) (q:=q) (c:=c) (d:=d) (k:=k) (s:=s) H.E H.hq H.hk H.hw H.hkq H.hI H.hs hn hL h6 hrow hb hm hnx cx hK
theorem PhaseS_use [Stable Φ] (hcb:p.cb=cb) (cx:Ctx W w ((CoO p q c++S)++G) Φ) {X:Int→List Own→PW→Prop} (hX:X c.now.phase (CoO p q c++S) Φ) :
    Calls Tryz.prog F.commit_Coordinator_Phase #[.pointer (some ⟨cb,0,none⟩)] w fun e w'=>∃ n,e=.returned (.int .i64 n)∧∃ R' Φ',Stable Φ'∧Ctx W w' (R'++G) Φ'∧X n R' Φ':=by
  subst hcb
  exact (Phase_q (p:=p) (q:=q) (c:=c)).toI cx hX
theorem LastS_use [Stable Φ] (hcb:p.cb=cb) (cx:Ctx W w ((CoO p q c++S)++G) Φ) {X:Int→List Own→PW→Prop} (hX:X c.now.last (CoO p q c++S) Φ) :
    Calls Tryz.prog F.commit_Coordinator_Last #[.pointer (some ⟨cb,0,none⟩)] w fun e w'=>∃ n,e=.returned (.int .i64 n)∧∃ R' Φ',Stable Φ'∧Ctx W w' (R'++G) Φ'∧X n R' Φ':=by
  subst hcb
  exact (LastC_q (p:=p) (q:=q) (c:=c)).toI cx hX
theorem CheckS_use [Stable Φ] (hcb:p.cb=cb) (cx:Ctx W w ((CoO p q c++S)++G) Φ) {X:ByteArray→List Own→PW→Prop} (hX:X (checkC c) (CoO p q c++S) Φ) :
    Calls Tryz.prog F.commit_Coordinator_Check #[.pointer (some ⟨cb,0,none⟩)] w fun e w'=>∃ n,e=.returned (.string n)∧∃ R' Φ',Stable Φ'∧Ctx W w' (R'++G) Φ'∧X n R' Φ':=by
  subst hcb
  exact (Check_q (p:=p) (q:=q) (c:=c)).toS cx hX
theorem SkLinesS_use [Stable Φ] (hsb:k.sb=sb) {A B:List Own} (cx:Ctx W w ((A++(B++(SkO k s++S)))++G) Φ) {X:Int→List Own→PW→Prop} (hX:X (s.lines.length:Int) (A++(B++(SkO k s++S))) Φ) :
    Calls Tryz.prog F.sink_Sink_Lines #[.pointer (some ⟨sb,0,none⟩)] w fun e w'=>∃ n,e=.returned (.int .i64 n)∧∃ R' Φ',Stable Φ'∧Ctx W w' (R'++G) Φ'∧X n R' Φ':=by
  subst hsb
  exact ((LinesN_q (st:=s) (q:=k)).toI (sk_in cx) (K:=fun n R Φ=>n=(s.lines.length:Int)∧R=SkO k s++(A++(B++S))∧Φ=_) ⟨rfl,rfl,rfl⟩).mono fun e w' ⟨m,he,R',Φ',st,cx,h1,h2,h3⟩=>⟨m,he,A++(B++(SkO k s++S)),Φ,inferInstance,by rw [h2,h3] at cx; exact sk_out cx,by rw [h1]; exact hX⟩
theorem SkBytesS_use [Stable Φ] (hE:CE Φ) (hS:∀ M w,Φ M w→SkF k s M w) (hsb:k.sb=sb) (hkq:SkQ k s) (hW:SkW s) (hs:SkS s n) (hn:n≤300000) {A B:List Own} (cx:Ctx W w ((A++(B++(SkO k s++S)))++G) Φ) {X:ByteArray→List Own→PW→Prop} (hX:X (skB s) (A++(B++(SkO k s++S))) Φ) :
    Calls Tryz.prog F.sink_Sink_Bytes #[.pointer (some ⟨sb,0,none⟩)] w fun e w'=>∃ n,e=.returned (.string n)∧∃ R' Φ',Stable Φ'∧Ctx W w' (R'++G) Φ'∧X n R' Φ':=by
  subst hsb
  have hF:Has Φ (SkF k s):=⟨hS⟩
  have hT:Has Φ TabI:=⟨hE.tab⟩
  exact ((Bytes_q (st:=s) (q:=k) hkq hW hs (by omega)).toS (sk_in cx) (K:=fun n R Φ=>n=skB s∧R=SkO k s++(A++(B++S))∧Φ=_) ⟨rfl,rfl,rfl⟩).mono fun e w' ⟨m,he,R',Φ',st,cx,h1,h2,h3⟩=>⟨m,he,A++(B++(SkO k s++S)),Φ,inferInstance,by rw [h2,h3] at cx; exact sk_out cx,by rw [h1]; exact hX⟩
theorem SkListS_use [Stable Φ] (hS:∀ M w,Φ M w→SkF k s M w) (hsb:k.sb=sb) (hkq:SkQ k s) (hI:SkI s) (hs:SkS s n) (hn:n≤300000) {A B:List Own} (cx:Ctx W w ((A++(B++(SkO k s++S)))++G) Φ) {X:Option Addr→Nat→Nat→List Own→PW→Prop}
    (hX:∀ p c,Stable (fun M w=>Φ M w∧Sl M w p s.lines)→X p s.lines.length c (A++(B++(SkO k s++S))) (fun M w=>Φ M w∧Sl M w p s.lines)) :
    Calls Tryz.prog F.sink_Sink_List #[.pointer (some ⟨sb,0,none⟩)] w fun e w'=>∃ p n c,e=.returned (.slice p n c)∧∃ R' Φ',Stable Φ'∧Ctx W w' (R'++G) Φ'∧X p n c R' Φ':=by
  subst hsb
  have hF:Has Φ (SkF k s):=⟨hS⟩
  exact ((List_sl (st:=s) (q:=k) hkq hI hs (by omega)).go W w ((A++(B++S))++G) ((sk_in cx).re (by simp))).mono fun e w' ⟨p,cap,he,_,_,cx⟩=>⟨p,_,cap,he,A++(B++(SkO k s++S)),_,inferInstance,sk_out (cx.re (by simp)),hX p cap inferInstance⟩
structure FinC (d:DsS) (c:CoS) (x:StC):Prop where
  h:DsH d
  w:DsW d
  live:CLive d c
  now:c.now=x
  stop:c.stop=false
theorem FinC.wf {x:StC} (h:FinC d c x):StW x:=by rw [←h.now]; exact h.live.w
theorem FinC.fut {x:StC} (h:FinC d c x):CFut d fun y=>y=x:=h.live.fut h.now
theorem note_fine {x y:StC} (h:FinC d c y) (hx:StW x):∃ d' c',noteC d c x=(d',c',0)∧FinC d' c' x∧c'.prep=false∧d'.keep=d.keep:=by
  have hn:=noteC_out h.w h.live hx
  have h0:=(hn.fine h.h).2
  refine ⟨(noteC d c x).1,(noteC d c x).2.1,by rw [←h0],?_⟩
  rcases hn.or with ⟨_,g2,g3,g4,g5⟩ | ⟨g1,_⟩
  · exact ⟨⟨(hn.fine h.h).1,hn.w,g5,g2,g4⟩,g3,noteC_keep d c x⟩
  · rw [h0] at g1; omega
theorem begin_fine {y:StC} (h:FinC d c y) (hp:y.phase=0) {batch mark:Int} {lines:List LineD} {next:ByteArray} (hb:y.last < batch) (hbad:lines.any (badC batch)=false) (hx:StW ⟨y.last,1,y.check,batch,mark,next,lines⟩) :
    ∃ d' c',beginC d c batch mark lines next=(d',c',0)∧FinC d' c' ⟨y.last,1,y.check,batch,mark,next,lines⟩∧c'.prep=false∧d'.keep=d.keep:=by
  obtain ⟨d',c',e,hf⟩:=note_fine h hx
  refine ⟨d',c',?_,hf⟩
  have hb0:beginR c batch mark lines next=(⟨y.last,1,y.check,batch,mark,next,lines⟩,0):=by
    unfold beginR
    rw [h.now,if_neg (by omega),if_neg (by rw [hbad]; simp)]
  unfold beginC
  rw [hb0,stepK_out h.stop (by rw [h.now]; exact hp) rfl]
  exact e
theorem decide_fine {y:StC} (h:FinC d c y) (hp:y.phase=1) (hpr:c.prep=true):∃ d' c',decideC d c=(d',c',0)∧FinC d' c' { y with phase:=2 }∧c'.prep=false∧d'.keep=d.keep:=by
  have hw:=h.wf
  obtain ⟨d',c',e,hf⟩:=note_fine (x := { y with phase:=2 }) h ⟨hw.last,.inr (.inr rfl),hw.check,(fun h=>by cases h),fun _=>hw.batch (by rw [hp]; decide),hw.ints,hw.next,hw.line,hw.few⟩
  refine ⟨d',c',?_,hf⟩
  have hb0:decideR c=({ y with phase:=2 },0):=by
    unfold decideR
    rw [h.now,if_neg (by rw [hpr]; simp)]
  unfold decideC
  rw [hb0,stepK_out h.stop (by rw [h.now]; exact hp) rfl]
  exact e
theorem finish_fine {y:StC} (h:FinC d c y) (hp:y.phase=2) {s':SkD} (he:endR c s=(0,s')):∃ d' c',finishC d c s=(d',c',s',0)∧FinC d' c' (stI y.batch y.next)∧c'.prep=false∧d'.keep=d.keep:=by
  have hw:=h.wf
  obtain ⟨d',c',e,hf⟩:=note_fine (x:=stI y.batch y.next) h (stI_w (by have:=hw.last.1; have:=hw.batch (by rw [hp]; decide); omega) hw.ints.1 hw.next)
  refine ⟨d',c',?_,hf⟩
  unfold finishC
  rw [if_neg (by rw [h.stop]; simp),if_neg (by rw [h.now]; simp [hp])]
  simp only
  rw [he,stepK_out h.stop (by rw [h.now]; exact hp) rfl,h.now,e]
theorem abort_fine {y:StC} (h:FinC d c y) (hp:y.phase=1):∃ d' c',abortC d c s=(d',c',dropR c s,0)∧FinC d' c' (stI y.last y.check)∧c'.prep=false∧d'.keep=d.keep:=by
  have hw:=h.wf
  obtain ⟨d',c',e,hf⟩:=note_fine (x:=stI y.last y.check) h (stI_w hw.last.1 hw.last.2 hw.check)
  refine ⟨d',c',?_,hf⟩
  unfold abortC
  rw [if_neg (by rw [h.stop]; simp),if_neg (by rw [h.now]; simp [hp])]
  simp only
  rw [stepK_out h.stop (by rw [h.now]; exact hp) rfl,h.now,e]
end
end Go.Proofs.YtfccagphnfceiaaGreatDoor
end

section
namespace Go.Proofs.YtfccagphnfceiaaGreatDoor
open Go.Vc
theorem crash_fine {d:DsS} (h:DsH d) (keep:List Int):DsH (startS (crashS d keep)):=by
  unfold crashS
  rw [if_neg (by rw [h.1]; simp)]
  exact ⟨rfl,rfl,h.2.2⟩
abbrev c1B:ByteArray:=ByteArray.mk #[OfNat.ofNat 99,OfNat.ofNat 49]
abbrev c2B:ByteArray:=ByteArray.mk #[OfNat.ofNat 99,OfNat.ofNat 50]
theorem lineX_w {no b:Int} (h:I64 no∧I64 b):LineW (lineX no b):=⟨⟨h.1,h.2,by show I64 5; unfold I64; decide,by show I64 1; unfold I64; decide,by show I64 0; unfold I64; decide,by show I64 0; unfold I64; decide⟩,fun v hv=>by
  rw [List.mem_singleton.1 hv]
  exact ⟨⟨by show I64 0; unfold I64; decide,by show I64 7; unfold I64; decide⟩,by show (ByteArray.mk #[]).size≤200; decide⟩,by show 1≤12; decide⟩
theorem lineX_right (no b:Int):rightR (lineX no b).row=true:=by show rightR [⟨0,7,ByteArray.mk #[]⟩]=true; decide +kernel
abbrev xS1:StC:=⟨0,1,.empty,1,9,c1B,[lineX 1 1]⟩
abbrev xS5:StC:=⟨1,1,c1B,2,9,c2B,[lineX 2 2]⟩
theorem xS1_w:StW xS1:=⟨⟨by decide,by unfold I64; decide⟩,.inr (.inl rfl),by decide,(fun h=>by cases h),fun _=>by decide,⟨by unfold I64; decide,by unfold I64; decide⟩,by decide,fun y hy=>by
  rw [List.mem_singleton.1 hy]
  exact ⟨lineX_w ⟨by unfold I64; decide,by unfold I64; decide⟩,rfl,lineX_right 1 1⟩,by decide⟩
theorem xS5_w:StW xS5:=⟨⟨by decide,by unfold I64; decide⟩,.inr (.inl rfl),by decide,(fun h=>by cases h),fun _=>by decide,⟨by unfold I64; decide,by unfold I64; decide⟩,by decide,fun y hy=>by
  rw [List.mem_singleton.1 hy]
  exact ⟨lineX_w ⟨by unfold I64; decide,by unfold I64; decide⟩,rfl,lineX_right 2 2⟩,by decide⟩
abbrev sC0:SkD:=newK 2 []
abbrev sC1:SkD:=takeK sC0 1 [lineX 1 1]
theorem sC_look:lookK sC0 1 [lineX 1 1]=0:=by decide +kernel
theorem sC_deliv:delivK sC0 1 [lineX 1 1]=(0,sC1):=by
  unfold delivK
  rw [if_neg (by decide),if_neg (by decide),if_neg (by rw [sC_look]; decide)]
theorem sC1_i:SkI sC1:=take_i (new_i 2 []) (by decide) (by decide) (by unfold I64; decide) fun x hx=>by rw [List.mem_singleton.1 hx]; exact lineX_right 1 1
theorem sC0_s:SkS sC0 18:=⟨Nat.zero_le _,Nat.zero_le _,Nat.zero_le _,Nat.zero_le _⟩
theorem sC1_s:SkS sC1 36:=take_s18 sC0_s (by decide)
theorem bad_lineX (no b:Int):([lineX no b].any (badC b))=false:=by
  rw [List.any_cons,List.any_nil,Bool.or_false]
  unfold badC
  rw [lineX_right,decide_eq_false (by simp)]
  rfl
section
variable {W w:World} {S R G:List Own} {Φ:PW} {k:KP} {s:SkD} {p:CoP} {q:DkP} {d:DsS} {c:CoS} {n:Nat}
theorem AgainS_use [Stable Φ] (H:CoH Φ k s p q d c n) {x:StC} (hf:FinC d c x) {db:Nat} (hdb:q.db=db) {kp:Option Addr} {kc:Nat} {keep:List Int} (hkl:keep.length≤1000000) (hsl:∀ M w,Φ M w→Sl M w kp keep) {kn:Nat} (hkn:keep.length=kn)
    (cx:Ctx W w ((CoO p q c++(dkL q d++(SkO k s++S)))++G) Φ) {X:Option Addr→Int→List Own→PW→Prop}
    (hX:∀ u p' d' c',FinC d' c' x→c'.prep=false→CoH (fun M w=>Φ M w∧CoF p' c' M w) k s p' (q.mv u) d' c' n→Stable (fun M w=>Φ M w∧CoF p' c' M w)→X (some ⟨p'.cb,0,none⟩) 0 (CoO p' q c'++(dkL (q.mv u) d'++(SkO k s++S))) (fun M w=>Φ M w∧CoF p' c' M w)) :
    Calls Tryz.prog F.erratalaw44_again #[.pointer (some ⟨db,0,none⟩),.slice kp kn kc] w fun e w'=>∃ p n,e=.returned (.tuple #[.pointer p,.int .i64 n])∧∃ R' Φ',Stable Φ'∧Ctx W w' (R'++G) Φ'∧X p n R' Φ':=by
  subst hkn hdb
  refine Again_use (q:=q) (d:=d) (S:=SkO k s++(S++G)) H.E H.hq H.hk hf.fut hkl hsl (Ctx.sub (S':=dkL q d++(SkO k s++(S++G))) (cx.re lay1) (List.sublist_append_right _ _)) (fun u d' e w he hno _ _ _ cx=>absurd (crash_fine hf.h keep) hno) (fun u p' c' d' w hd' hfine hq hkp hl hP hpr hst cx => ?_)
  have f':FinC d' c' x:=⟨hfine (crash_fine hf.h keep),hq.w,hl,hP,hst⟩
  have H':CoH (fun M w=>Φ M w∧CoF p' c' M w) k s p' (q.mv u) d' c' n:=H.next (fun M w h=>⟨h.1,H.hS M w h.1,h.2⟩) hq H.hkq hkp hl.w H.hI H.hs
  exact ⟨_,0,rfl,CoO p' q c'++(dkL (q.mv u) d'++(SkO k s++S)),_,inferInstance,Ctx.re (S:=CoO p' q c'++(dkL (q.mv u) d'++(SkO k s++(S++G)))) cx lay1.symm,hX u p' d' c' f' hpr H' inferInstance⟩
theorem CoH.weak {Ψ:PW} (H:CoH Φ k s p q d c n) (h:∀ M w,Ψ M w→Φ M w):CoH Ψ k s p q d c n:=⟨H.E.weak h,fun M w x=>H.hS M w (h M w x),fun M w x=>H.hC M w (h M w x),H.hq,H.hk.weak h,H.hw,H.hkq,H.hI,H.hs⟩
set_option maxHeartbeats 4000000 in
theorem small44_in [Stable Φ] (hE:CE Φ):GivesIn Φ Tryz.prog F.erratalaw44_small #[] (.bool true):=by
  refine gives_in Berratalaw44_small_run fun W R=>fun w G cx=>DNew_use cx fun q0 w hq0 cx=>⟨_,rfl,dkL q0 dsNew++R,fun M w=>Φ M w∧dkF q0 dsNew M w,inferInstance,cx.re (List.append_assoc _ _ _).symm,fun w G cx => ?_⟩
  have hnil:Has (fun M w=>Φ M w∧dkF q0 dsNew M w) (fun M w=>Sl M w none ([]:List Int)):=⟨fun M w h=>Sl.nil⟩
  refine New_to (kind:=2) (key:=[]) (cap:=0) (p:=none) (by decide) cx (fun h=>by cases h) (fun k hok hkq st1=>fun w G cx => ?_)
  refine Br.intro (fun h=>by cases h) (fun _=>fun w G cx => ?_)
  have hk0:DkK (fun M w=>(Φ M w∧dkF q0 dsNew M w)∧SkF k (newK 2 []) M w) q0 dsNew:=⟨Nat.zero_le _,fun M w h=>h.1.2⟩
  refine OpenF_use (q:=q0) (d:=dsNew) (S:=SkO k (newK 2 [])++(R++G)) (hE.weak fun M w h=>h.1.1) hq0 hk0 cnew_fut (Ctx.re (Ctx.swapU cx) (by simp)) (fun u d' e w he hno _ _ _ _ _ cx=>absurd dsNew_h hno) (fun u0 p0 c0 d0 w hd0 _ hfine0 hq1 hkp0 hl0 hP0 hpr0 hst0 cx => ?_)
  have f0:FinC d0 c0 stC0:=⟨hfine0 dsNew_h,hq1.w,hl0,hP0,hst0⟩
  have kk0:d0.keep=[]:=hkp0
  have H0:CoH (fun M w=>((Φ M w∧dkF q0 dsNew M w)∧SkF k (newK 2 []) M w)∧CoF p0 c0 M w) k sC0 p0 (q0.mv u0) d0 c0 18:=⟨hE.weak fun M w h=>h.1.1.1,fun M w h=>h.1.2,fun M w h=>h.2,hq1,(hk0.weak fun M w h=>h.1).of hkp0 u0,hl0.w,hkq,new_i 2 [],sC0_s⟩
  refine ⟨_,0,rfl,CoO p0 q0 c0++(dkL (q0.mv u0) d0++(SkO k sC0++R)),_,inferInstance,Ctx.re (S:=CoO p0 q0 c0++(dkL (q0.mv u0) d0++(SkO k sC0++(R++G)))) cx (by simp),Br.intro (fun h=>by cases h) (fun _=>Br.intro (fun _=>fun w G cx => ?_) (fun h=>absurd rfl (of_decide_eq_false h)))⟩
  -- Begin
  refine (lineX_in (no:=1) (b:=1) ⟨by unfold I64; decide,by unfold I64; decide⟩).to cx fun lp lc g1 g2 st2=>fun w G cx => ?_
  obtain ⟨d1,c1,e1,f1,pr1,kp1⟩:=begin_fine (batch:=1) (mark:=9) (lines:=[lineX 1 1]) (next:=c1B) f0 rfl (by decide) (bad_lineX 1 1) xS1_w
  have H0:=H0.weak (Ψ:=fun M w=>(((Φ M w∧dkF q0 dsNew M w)∧SkF k (newK 2 []) M w)∧CoF p0 c0 M w)∧Sl M w lp [lineX 1 1]) fun M w h=>h.1
  refine BeginS_use (S:=R++G) (r:=(d1,c1,sC0,0)) H0 rfl (fun M w h=>h.2) (by decide) (by unfold I64; decide) (by unfold I64; decide) (by decide) rfl (by rw [e1]) (cx.re lay1) (SinkK.go fun u1 p1 k1 Ψ1 hp1 hsb1 hq1 hkq1 st3 hΨ1 => ?_)
  have H1:=H0.next hΨ1 hq1 hkq1 kp1 (by rw [f1.now]; exact xS1_w) (new_i 2 []) sC0_s
  refine Br.intro (fun _=>fun w G cx => ?_) (fun h=>absurd rfl (of_decide_eq_false h))
  -- Prepare
  have eg:giveC c1 sC0=(0,sC0):=by
    unfold giveC
    rw [f1.now,if_neg (by decide)]
    show ((delivK sC0 1 [lineX 1 1]).1,sC0)=_
    rw [sC_deliv]
  have e2:(d1,(prepareC c1 sC0).1,(prepareC c1 sC0).2.1,(prepareC c1 sC0).2.2)=(d1,{ c1 with prep:=true },sC0,(0:Int)):=by
    unfold prepareC
    rw [if_neg (by rw [f1.stop]; simp),if_neg (by rw [f1.now]; decide),eg]
    simp
  have f2:FinC d1 { c1 with prep:=true } xS1:=⟨f1.h,f1.w,⟨f1.live.file,f1.live.now,f1.live.last,f1.live.enc,f1.live.w⟩,f1.now,f1.stop⟩
  refine PrepS_use (S:=R++G) H1 hp1.1 hsb1 (by decide) e2 (cx.re lay1) (SinkK.go fun u2 p2 k2 Ψ2 hp2 hsb2 hq2 hkq2 st4 hΨ2 => ?_)
  have H2:=H1.next hΨ2 hq2 hkq2 rfl f2.live.w (new_i 2 []) sC0_s
  refine Br.intro (fun _=>fun w G cx => ?_) (fun h=>absurd rfl (of_decide_eq_false h))
  -- Decide
  obtain ⟨d3,c3,e3,f3,pr3,kp3⟩:=decide_fine f2 rfl rfl
  refine DecideS_use (S:=R++G) (r:=(d3,c3,sC0,0)) H2 (hp2.1.trans hp1.1) (by rw [e3]) (cx.re lay1) (SinkK.go fun u3 p3 k3 Ψ3 hp3 hsb3 hq3 hkq3 st5 hΨ3 => ?_)
  have H3:=H2.next hΨ3 hq3 hkq3 kp3 f3.live.w (new_i 2 []) sC0_s
  refine Br.intro (fun _=>fun w G cx => ?_) (fun h=>absurd rfl (of_decide_eq_false h))
  have ck3:checkC c3=c1B:=by unfold checkC; rw [f3.now]; rfl
  refine CheckS_use (hp3.1.trans (hp2.1.trans hp1.1)) cx (fun w G cx => ?_)
  rw [ck3]
  -- again
  refine AgainS_use (keep:=[]) (X:=_) H3 f3 rfl (by decide) (fun M w h=>Sl.nil) rfl cx (fun u4 p4 d4 c4 f4 pr4 H4 st6 => ?_)
  refine Br.intro (fun h=>by cases h) (fun _=>Br.intro (fun _=>fun w G cx => ?_) (fun h=>absurd rfl (of_decide_eq_false h)))
  refine PhaseS_use rfl cx (Br.intro (fun _=>fun w G cx => ?_) (fun h=>absurd (by rw [f4.now]) (of_decide_eq_false h)))
  have eE:endR c4 sC0=(0,sC1):=by
    unfold endR
    rw [f4.now,if_neg (by decide)]
    exact sC_deliv
  obtain ⟨d5,c5,e5,f5,pr5,kp5⟩:=finish_fine f4 rfl eE
  have e5:recoverC d4 c4 sC0=(d5,c5,sC1,0):=by
    unfold recoverC
    rw [if_neg (by rw [f4.stop]; simp),if_neg (by rw [f4.now]; decide),if_pos (by rw [f4.now])]
    exact e5
  refine RecoverS_use (S:=R++G) H4 rfl (hsb3.trans (hsb2.trans hsb1)) (by decide) e5 (cx.re lay1) (SinkK.go fun u5 p5 k5 Ψ5 hp5 hsb5 hq5 hkq5 st7 hΨ5 => ?_)
  have H5:=H4.next hΨ5 hq5 hkq5 kp5 f5.live.w sC1_i sC1_s
  have hk5:=hsb5.trans (hsb3.trans (hsb2.trans hsb1))
  refine Br.intro (fun _=>fun w G cx => ?_) (fun h=>absurd rfl (of_decide_eq_false h))
  refine PhaseS_use hp5.1 cx (Br.intro (fun _=>fun w G cx => ?_) (fun h=>absurd (by rw [f5.now]) (of_decide_eq_false h)))
  refine LastS_use hp5.1 cx (Br.intro (fun _=>fun w G cx => ?_) (fun h=>absurd (by rw [f5.now]) (of_decide_eq_false h)))
  refine SkLinesS_use (s:=sC1) hk5 cx (fun w G cx => ?_)
  -- another batch
  refine (lineX_in (no:=2) (b:=2) ⟨by unfold I64; decide,by unfold I64; decide⟩).to cx fun lp2 lc2 g3 g4 st8=>fun w G cx => ?_
  obtain ⟨d6,c6,e6,f6,pr6,kp6⟩:=begin_fine (batch:=2) (mark:=9) (lines:=[lineX 2 2]) (next:=c2B) f5 rfl (by decide) (bad_lineX 2 2) xS5_w
  have H5:=H5.weak (Ψ:=fun M w=>Ψ5 M w∧Sl M w lp2 [lineX 2 2]) fun M w h=>h.1
  refine BeginS_use (S:=R++G) (r:=(d6,c6,sC1,0)) H5 hp5.1 (fun M w h=>h.2) (by decide) (by unfold I64; decide) (by unfold I64; decide) (by decide) rfl (by rw [e6]) (cx.re lay1) (SinkK.go fun u6 p6 k6 Ψ6 hp6 hsb6 hq6 hkq6 st9 hΨ6=>fun w G cx => ?_)
  have H6:=H5.next hΨ6 hq6 hkq6 kp6 f6.live.w sC1_i sC1_s
  refine AgainS_use (keep:=[]) (X:=_) H6 f6 rfl (by decide) (fun M w h=>Sl.nil) rfl cx (fun u7 p7 d7 c7 f7 pr7 H7 st10 => ?_)
  refine Br.intro (fun h=>by cases h) (fun _=>Br.intro (fun _=>Br.intro (fun _=>Br.intro (fun _=>Br.intro (fun _=>fun w G cx => ?_) (fun h=>absurd rfl (of_decide_eq_false h))) (fun h=>absurd rfl (of_decide_eq_false h))) (fun h=>absurd rfl (of_decide_eq_false h))) (fun h=>absurd rfl (of_decide_eq_false h)))
  obtain ⟨d8,c8,e8,f8,pr8,kp8⟩:=abort_fine (s:=sC1) f7 rfl
  have hdr:dropR c7 sC1=sC1:=by unfold dropR; rw [if_neg fun h=>absurd h.1 (by decide)]
  rw [hdr] at e8
  have e8:recoverC d7 c7 sC1=(d8,c8,sC1,0):=by
    unfold recoverC
    rw [if_neg (by rw [f7.stop]; simp),if_pos (by rw [f7.now])]
    exact e8
  refine RecoverS_use (S:=R++G) H7 rfl (hsb6.trans hk5) (by decide) e8 (cx.re lay1) (SinkK.go fun u8 p8 k8 Ψ8 hp8 hsb8 hq8 hkq8 st11 hΨ8 => ?_)
  refine Br.intro (fun _=>fun w G cx => ?_) (fun h=>absurd rfl (of_decide_eq_false h))
  refine LastS_use hp8.1 cx (Br.intro (fun _=>fun w G cx => ?_) (fun h=>absurd (by rw [f8.now]) (of_decide_eq_false h)))
  refine CheckS_use hp8.1 cx (fun w G cx=>⟨?_,?_⟩)
  · have ck8:checkC c8=c1B:=by unfold checkC; rw [f8.now]; rfl
    rw [ck8,decide_eq_true rfl]
  · have hdown:∀ M w,Ψ8 M w→Φ M w:=fun M w h=>(hΨ6 M w (hΨ8 M w h).1.1).1.1 |> fun h5=>(hΨ5 M w h5).1.1 |> fun h3=>(hΨ3 M w h3).1 |> fun h2=>(hΨ2 M w h2).1 |> fun h1=>(hΨ1 M w h1).1.1.1.1.1
    exact (((Ctx.left cx).sub (((List.sublist_append_right _ _).trans (List.sublist_append_right _ _)).trans (List.sublist_append_right _ _))).weak hdown)
end
end Go.Proofs.YtfccagphnfceiaaGreatDoor
end

section
namespace Go.Proofs.YtfccagphnfceiaaGreatDoor
open Go.Vc
theorem line_wS {M:List Nat} {w:World} {p:Option Addr} {l:List LineD} (h:Sl M w p l):∀ x∈l,rightR x.row=true→LineW x:=fun x hx hr=>by
  rcases Nat.eq_zero_or_pos l.length with h0 | h0
  · rw [List.eq_nil_of_length_eq_zero h0] at hx; cases hx
  obtain ⟨b,o,news,hp,g1,g2,g3,g4⟩:=h.cells line_one h0
  obtain ⟨i,hi,rfl⟩:=List.getElem_of_mem hx
  obtain ⟨r,rc,he,h1,h2,h3,h4⟩:=lrow g3 hi
  exact ⟨h3,fun v hv=>⟨(sl_i64 h4 v hv).1,right_small hr v hv⟩,right_len hr⟩
theorem renB_mem {b:Int}:∀ (l:List LineD) (f:Int),∀ y∈renB b f l,∃ x∈l,∃ i:Nat,i < l.length∧y = { x with no:=f+i,batch:=b }
  | [],f,y,hy=>by cases hy
  | x :: l,f,y,hy=>by
    have hy:y = { x with no:=f,batch:=b }∨y∈renB b (f+1) l:=by
      have:y ∈ { x with no:=f,batch:=b } :: renB b (f+1) l:=hy
      exact List.mem_cons.1 this
    rcases hy with rfl | hy
    · exact ⟨x,by simp,0,by simp,by simp⟩
    · obtain ⟨z,hz,i,hi,e⟩:=renB_mem l (f+1) y hy
      refine ⟨z,by simp [hz],i+1,by simpa using hi,?_⟩
      rw [e]
      have:f+1+(i:Int)=f+((i+1:Nat):Int):=by omega
      rw [this]
theorem linesO_w {o:OpC} {b f:Int} (hb:I64 b) (hf:0≤f∧f≤1000000) (hl:o.L.length≤6) (h:∀ x∈o.L,rightR x.row=true→LineW x):∀ y∈linesO o b f,rightR y.row=true→LineW y:=fun y hy hr=>by
  unfold linesO at hy
  split at hy
  · obtain ⟨x,hx,i,hi,rfl⟩:=renB_mem _ _ y hy
    have hw:=h x hx hr
    exact ⟨⟨by show I64 (f+i); unfold I64; omega,hb,hw.inn.time,hw.inn.n,hw.inn.cause,hw.inn.why⟩,hw.val,hw.row⟩
  · exact h y hy hr
theorem opc_rep {M:List Nat} {w:World} {x:OpC} {p:Option Addr} {c:Nat} {q:Option Addr} {e:Nat} (h:Gv.rep M w (x.cells p c q e) x):(I64 x.kind∧I64 x.b∧I64 x.n)∧Sl M w p x.L∧Sl M w q x.keep:=by
  obtain ⟨p',c',q',e',h1,h2,h3,h4,_,_,h5,h6⟩:=opc_cells h
  simp only [OpC.cells,List.cons.injEq,Value.slice.injEq,and_true,true_and] at h1
  rw [h1.1.1,h1.2.1]
  exact ⟨⟨h2,h3,h4⟩,h5,h6⟩
theorem batchC_0 {o:OpC} (hf:o.fit=true):1≤batchC o 0∧batchC o 0≤3:=by
  have h1:=Int.tmod_lt_of_pos o.b (show (0:Int) < 3 by decide)
  have h2:=Int.lt_tmod_of_pos o.b (show (0:Int) < 3 by decide)
  unfold batchC
  rw [if_neg (by rw [hf]; simp)]
  have e:IntKind.i64.wrap (0+1)=1:=by decide
  rw [e]
  split
  · rw [show IntKind.i64.wrap (1+(o.b.tmod 3+3))=w64 (1+(o.b.tmod 3+3)) from rfl,w64_id (by unfold I64; omega)]; omega
  · rw [show IntKind.i64.wrap (1+o.b.tmod 3)=w64 (1+o.b.tmod 3) from rfl,w64_id (by unfold I64; omega)]; omega
theorem beginX_w {o:OpC} {n:Int} {c0:StC} (hc:c0=stC0) (hn:1≤n∧n≤3) (hm:I64 o.n) (hl:o.L.length≤6) (hnx:o.next.size≤50) (h:∀ y∈linesO o n 1,rightR y.row=true→LineW y) (hbad:(linesO o n 1).any (badC n)=false):StW ⟨0,1,.empty,n,o.n,o.next,linesO o n 1⟩ :=
  ⟨⟨by show (0:Int)≤0; decide,by show I64 0; unfold I64; decide⟩,.inr (.inl rfl),by show (0:Nat)≤600; decide,(fun h=>by cases h),fun _=>by show (0:Int) < n; omega,⟨by show I64 n; unfold I64; omega,hm⟩,by show o.next.size≤600; omega,fun y hy=>by
    have:=List.any_eq_false.1 hbad y hy
    unfold badC at this
    simp only [Bool.or_eq_true,decide_eq_true_eq,Bool.not_eq_true',not_or,Decidable.not_not,Bool.not_eq_false,ne_eq] at this
    exact ⟨h y hy this.2,this⟩,by show (linesO o n 1).length≤18; rw [linesO_len]; omega⟩
theorem opX0 {d:DsS} {c:CoS} {s:SkD} {o:OpC} (f:FinC d c stC0) (hs:s.lines=[]) (hf:o.fit=true) (hm:I64 o.n) (hl:o.L.length≤6) (hnx:o.next.size≤50) (h:∀ x∈o.L,rightR x.row=true→LineW x) :
    opX d c s o 0=(d,c,s,1)∨∃ d' c',opX d c s o 0=(d',c',s,0)∧FinC d' c' ⟨0,1,.empty,batchC o 0,o.n,o.next,linesO o (batchC o 0) 1⟩∧c'.prep=false∧d'.keep=d.keep:=by
  have hn:=batchC_0 hf
  have e:opX d c s o 0=((beginC d c (batchC o 0) o.n (linesO o (batchC o 0) 1) o.next).1,(beginC d c (batchC o 0) o.n (linesO o (batchC o 0) 1) o.next).2.1,s,(beginC d c (batchC o 0) o.n (linesO o (batchC o 0) 1) o.next).2.2):=by
    unfold opX
    rw [if_pos rfl,f.now,hs]
    rfl
  rw [e]
  by_cases hbad:(linesO o (batchC o 0) 1).any (badC (batchC o 0))=true
  · left
    have:beginC d c (batchC o 0) o.n (linesO o (batchC o 0) 1) o.next=(d,c,1):=by
      unfold beginC stepK
      rw [if_neg (by rw [f.stop]; simp),if_neg (by rw [f.now]; simp)]
      have hb:beginR c (batchC o 0) o.n (linesO o (batchC o 0) 1) o.next=(stC0,1):=by
        unfold beginR
        rw [if_neg (by rw [f.now]; show ¬ batchC o 0≤0; omega),if_pos hbad]
      rw [hb]; rfl
    rw [this]
  · right
    have hbad:(linesO o (batchC o 0) 1).any (badC (batchC o 0))=false:=by simpa using hbad
    obtain ⟨d',c',e1,h1⟩:=begin_fine (batch:=batchC o 0) (mark:=o.n) (lines:=linesO o (batchC o 0) 1) (next:=o.next) f rfl (by show (0:Int) < _; omega) hbad (beginX_w rfl hn hm hl hnx (linesO_w (by unfold I64; omega) (by decide) hl h) hbad)
    exact ⟨d',c',by rw [e1],h1⟩
theorem busy0 {d:DsS} {c:CoS} {s:SkD} {o:OpC} {x:StC} (f:FinC d c x) (hp:x.phase≠0):opX d c s o 0=(d,c,s,7):=by
  unfold opX
  rw [if_pos rfl]
  have:beginC d c (batchC o c.now.last) o.n (linesO o (batchC o c.now.last) ((s.lines.length:Int)+1)) o.next=(d,c,7):=by
    unfold beginC stepK
    rw [if_neg (by rw [f.stop]; simp),if_pos (by rw [f.now]; exact hp)]
  simp only
  rw [this]
end Go.Proofs.YtfccagphnfceiaaGreatDoor
end

section
namespace Go.Proofs.YtfccagphnfceiaaGreatDoor
open Go.Vc
section
variable {d:DsS} {c:CoS} {s:SkD} {x:StC}
theorem FinC.decide7 (f:FinC d c x) (h:x.phase≠1):((decideC d c).1,(decideC d c).2.1,s,(decideC d c).2.2)=(d,c,s,7):=by
  have:decideC d c=(d,c,7):=by
    unfold decideC stepK
    rw [if_neg (by rw [f.stop]; simp),if_pos (by rw [f.now]; exact h)]
  rw [this]
theorem FinC.decide25 (f:FinC d c x) (h:x.phase=1) (hp:c.prep=false):((decideC d c).1,(decideC d c).2.1,s,(decideC d c).2.2)=(d,c,s,25):=by
  have:decideC d c=(d,c,25):=by
    unfold decideC stepK decideR
    rw [if_neg (by rw [f.stop]; simp),if_neg (by rw [f.now]; simp [h]),if_pos hp,if_pos (by decide)]
  rw [this]
theorem FinC.finish7 (f:FinC d c x) (h:x.phase≠2):finishC d c s=(d,c,s,7):=by
  unfold finishC
  rw [if_neg (by rw [f.stop]; simp),if_pos (by rw [f.now]; exact h)]
theorem FinC.abort7 (f:FinC d c x) (h:x.phase≠1):abortC d c s=(d,c,s,7):=by
  unfold abortC
  rw [if_neg (by rw [f.stop]; simp),if_pos (by rw [f.now]; exact h)]
theorem FinC.prepare7 (f:FinC d c x) (h:x.phase≠1):(d,(prepareC c s).1,(prepareC c s).2.1,(prepareC c s).2.2)=(d,c,s,7):=by
  have:prepareC c s=(c,s,7):=by
    unfold prepareC
    rw [if_neg (by rw [f.stop]; simp),if_pos (by rw [f.now]; exact h)]
  rw [this]
theorem FinC.recover0 (f:FinC d c x) (h:x.phase=0):recoverC d c s=(d,c,s,0):=by
  unfold recoverC
  rw [if_neg (by rw [f.stop]; simp),if_neg (by rw [f.now]; omega),if_neg (by rw [f.now]; omega)]
theorem FinC.prep (f:FinC d c x) (b:Bool):FinC d { c with prep:=b } x:=⟨f.h,f.w,⟨f.live.file,f.live.now,f.live.last,f.live.enc,f.live.w⟩,f.now,f.stop⟩
theorem give_new {kind:Int} (c:CoS) :
    (lookK (newK kind []) c.now.batch c.now.lines=0∧(giveC c (newK kind [])).1=0∧((kind=0∧(giveC c (newK kind [])).2 = { newK kind [] with prep:=c.now.batch,aside:=c.now.lines })∨(kind≠0∧(giveC c (newK kind [])).2=newK kind []))) ∨
    ((giveC c (newK kind [])).1≠0∧(giveC c (newK kind [])).2=newK kind []):=by
  have hh:hasK (newK kind []) c.now.batch=false:=by unfold hasK; simp
  unfold giveC
  by_cases h0:kind=0
  · subst h0
    rw [if_pos rfl]
    unfold prepK
    rw [if_neg (by simp),if_neg (by rw [hh]; simp)]
    by_cases hl:lookK (newK 0 []) c.now.batch c.now.lines=0
    · rw [if_neg (by rw [hl]; simp)]
      exact .inl ⟨hl,rfl,.inl ⟨rfl,rfl⟩⟩
    · rw [if_pos hl]
      exact .inr ⟨hl,rfl⟩
  · rw [if_neg h0]
    unfold delivK
    rw [if_neg h0,if_neg (by rw [hh]; simp)]
    by_cases hl:lookK (newK kind []) c.now.batch c.now.lines=0
    · rw [if_neg (by rw [hl]; simp)]
      exact .inl ⟨hl,rfl,.inr ⟨h0,rfl⟩⟩
    · rw [if_pos hl]
      exact .inr ⟨hl,rfl⟩
structure MidC (kind:Int) (d:DsS) (c:CoS) (s:SkD) (x:StC):Prop where
  f:FinC d c x
  i:SkI s
  n:SkS s 18
  drop:dropR c s=newK kind []
  lines:s.lines=[]
theorem new_s18 (kind:Int):SkS (newK kind []) 18:=⟨Nat.zero_le _,Nat.zero_le _,Nat.zero_le _,Nat.zero_le _⟩
theorem MidC.new {kind:Int} (f:FinC d c x) (hb:1≤x.batch):MidC kind d c (newK kind []) x :=
  ⟨f,new_i kind [],new_s18 kind,by
    unfold dropR
    rw [if_neg fun h=>by have h2:(0:Int)=c.now.batch:=h.2; rw [f.now] at h2; omega],rfl⟩
theorem MidC.aside (f:FinC d c x) (hb:1≤x.batch) (h1:x.phase=1):MidC 0 d c { newK 0 [] with prep:=c.now.batch,aside:=c.now.lines } x :=
  have hw:=f.wf
  ⟨f,⟨List.Pairwise.nil,by simp,by simp,fun y hy=>by
    have hy:y∈c.now.lines:=hy
    rw [f.now] at hy
    exact (hw.line y hy).2.2⟩,⟨Nat.zero_le _,Nat.zero_le _,by show c.now.lines.length≤18; rw [f.now]; exact hw.few,Nat.zero_le _⟩,by
    unfold dropR
    rw [if_pos ⟨rfl,rfl⟩]
    unfold abortK
    rw [if_neg (by simp),if_neg (by simp [hasK]),if_neg (by rw [f.now]; simp; omega)],rfl⟩
theorem mid_prep {kind:Int} (f:FinC d c x) (hb:1≤x.batch) (h1:x.phase=1) :
    (∃ b s',prepareC c (newK kind [])=({ c with prep:=b },s',(giveC c (newK kind [])).1)∧MidC kind d { c with prep:=b } s' x∧b=(c.prep || decide ((giveC c (newK kind [])).1=0))∧s'=(giveC c (newK kind [])).2):=by
  refine ⟨_,_,?_,?_,rfl,rfl⟩
  · unfold prepareC
    rw [if_neg (by rw [f.stop]; simp),if_neg (by rw [f.now]; simp [h1])]
  · have f':=f.prep (c.prep || decide ((giveC c (newK kind [])).1=0))
    rcases give_new (kind:=kind) c with ⟨_,_,⟨rfl,h⟩ | ⟨_,h⟩⟩ | ⟨_,h⟩
    · rw [h]; exact MidC.aside f' hb h1
    · rw [h]; exact MidC.new f' hb
    · rw [h]; exact MidC.new f' hb
theorem mid_end {kind:Int} (f:FinC d c x) (hb:1≤x.batch) (hg:(giveC c (newK kind [])).1=0) {c':CoS} (hc:c'.now.batch=x.batch∧c'.now.lines=x.lines) :
    ∃ s',endR c' (giveC c (newK kind [])).2=(0,s')∧s'.lines=x.lines∧SkI s'∧SkS s' 36:=by
  have hw:=f.wf
  rcases give_new (kind:=kind) c with ⟨hl,_,hcase⟩ | ⟨h,_⟩
  · rw [f.now] at hl hcase
    have key:∀ s2:SkD,SkI s2→s2.bats=[]→s2.lines=[]→s2.key=[]→s2.aside.length≤18→(s2.kind≠0→s2.prep=0)→asideOk s2 x.batch x.lines→∃ s',endR c' s2=(0,s')∧s'.lines=x.lines∧SkI s'∧SkS s' 36:=fun s2 hI h1 h2 h3 h4 h5 h6=>by
      have hlk:lookK s2 x.batch x.lines=0:=by rw [look_any (s:=newK kind []) h1 h2 h3]; exact hl
      obtain ⟨s',e1,e2,e3,_,_,e4,e5⟩:=end_new hI h5 hlk h6
      rw [h2,List.nil_append] at e2
      rw [h1,List.nil_append] at e3
      refine ⟨s',by unfold endR; rw [hc.1,hc.2]; exact e1,e2,⟨by rw [e3]; exact List.pairwise_singleton _ _,fun b hb2=>by rw [e3,List.mem_singleton] at hb2; rw [hb2]; exact ⟨hb,hw.ints.1⟩,fun y hy=>by rw [e2] at hy; exact (hw.line y hy).2.2,fun y hy=>by
        rcases e5 with e | e
        · rw [e] at hy; cases hy
        · rw [e] at hy; exact hI.arow y hy⟩,⟨by rw [e3]; show 1≤20 * 36; decide,by rw [e2]; have:=hw.few; omega,by
        rcases e5 with e | e
        · rw [e]; exact Nat.zero_le _
        · rw [e]; omega,by rw [e4,h3]; exact Nat.zero_le _⟩⟩
    rcases hcase with ⟨rfl,e⟩ | ⟨h0,e⟩
    · rw [e,]
      refine key _ ⟨List.Pairwise.nil,by simp,by simp,fun y hy=>(hw.line y hy).2.2⟩ rfl rfl rfl hw.few (fun h=>absurd rfl h) (.inr ⟨rfl,rfl⟩)
    · rw [e]
      exact key _ (new_i kind []) rfl rfl rfl (Nat.zero_le _) (fun _=>rfl) (.inl rfl)
  · exact absurd hg h
end
structure AtC (Φ0:PW) (cb sb:Nat) (Φ:PW) (k:KP) (s:SkD) (p:CoP) (q:DkP) (d:DsS) (c:CoS) (n:Nat):Prop where
  H:CoH Φ k s p q d c n
  cb:p.cb=cb
  sb:k.sb=sb
  dn:∀ M w,Φ M w→Φ0 M w
section
variable {W:World} {S G:List Own} {Φ0 Φ:PW} {cb sb:Nat} {k:KP} {s:SkD} {p:CoP} {q:DkP} {d:DsS} {c:CoS} {n:Nat}
theorem AtC.go (A:AtC Φ0 cb sb Φ k s p q d c n) {d':DsS} {c':CoS} {s':SkD} {er:Int} {n':Nat} {X:Int→List Own→PW→Prop} (hkp:d'.keep=d.keep) (hw:StW c'.now) (hI:SkI s') (hs:SkS s' n')
    (h:∀ Ψ k' p' q',Stable Ψ→AtC Φ0 cb sb Ψ k' s' p' q' d' c' n'→X er (CoO p' q' c'++(dkL q' d'++(SkO k' s'++S))) Ψ) :
    SinkK W Φ k p q (S++G) (fun e w'=>∃ n,e=.returned (.int .i64 n)∧∃ R Φ',Stable Φ'∧Ctx W w' (R++G) Φ'∧X n R Φ') (d',c',s',er) :=
  SinkK.go fun u p' k' Ψ h1 h2 h3 h4 h5 h6=>h Ψ k' p' (q.mv u) h5 ⟨A.H.next h6 h3 h4 hkp hw hI hs,h1.1.trans A.cb,h2.trans A.sb,fun M w x=>A.dn M w (h6 M w x).1⟩
theorem AtC.same (A:AtC Φ0 cb sb Φ k s p q d c n) {er:Int} {X:Int→List Own→PW→Prop}
    (h:∀ Ψ k' p' q',Stable Ψ→AtC Φ0 cb sb Ψ k' s p' q' d c n→X er (CoO p' q' c++(dkL q' d++(SkO k' s++S))) Ψ) :
    SinkK W Φ k p q (S++G) (fun e w'=>∃ n,e=.returned (.int .i64 n)∧∃ R Φ',Stable Φ'∧Ctx W w' (R++G) Φ'∧X n R Φ') (d,c,s,er):=A.go rfl A.H.hw A.H.hI A.H.hs h
theorem AtC.weak (A:AtC Φ0 cb sb Φ k s p q d c n) {Ψ:PW} (h:∀ M w,Ψ M w→Φ M w):AtC Φ0 cb sb Ψ k s p q d c n:=⟨A.H.weak h,A.cb,A.sb,fun M w x=>A.dn M w (h M w x)⟩
theorem AtC.fin [Stable Φ] (A:AtC Φ0 cb sb Φ k s p q d c n) {w:World} (cx:Ctx W w ((CoO p q c++(dkL q d++(SkO k s++S)))++G) Φ):Ctx W w S Φ0 :=
  ((Ctx.left cx).sub (((List.sublist_append_right _ _).trans (List.sublist_append_right _ _)).trans (List.sublist_append_right _ _))).weak A.dn
end
end Go.Proofs.YtfccagphnfceiaaGreatDoor
end

