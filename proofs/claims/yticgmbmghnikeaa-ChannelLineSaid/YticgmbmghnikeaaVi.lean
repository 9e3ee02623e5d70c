/-
  The walk of ChannelLine.
-/
import Derived.Test.YticgmbmghnikeaaVh
import Derived.Test.YticgmbmghnikeaaBb
set_option linter.unusedVariables false
set_option linter.unusedSimpArgs false
namespace Go.Proofs.Yticgmbmghnikeaa
open Go.Vc

def LPhi (Φ : PW) (chs : List ChSt) (gs : List Value) (got : List MsgD) : PW := fun M w => Φ M w ∧ LineS chs M w ∧ Elems M w gs got
instance lphi_stable (Φ : PW) [Stable Φ] (chs : List ChSt) (gs : List Value) (got : List MsgD) : Stable (LPhi Φ chs gs got) :=
  have h1 : Stable (fun M w => Elems M w gs got) := instStableElems gs got
  have h2 : Stable (fun M w => LineS chs M w ∧ Elems M w gs got) := instStableAnd (fun M w => LineS chs M w) (fun M w => Elems M w gs got)
  instStableAnd Φ (fun M w => LineS chs M w ∧ Elems M w gs got)

theorem Ctx.bufGet {W w : World} {S : List Own} {Φ : PW} (c : Ctx W w S Φ) (k : Nat) {p : Option Addr} {n cap : Nat} {cs : List Value} {t : TypeId} {size : Nat} (hk : S[k]? = some (.buf p n cap cs t size)) {b i : Nat} {v : Value} (hp : p = some ⟨b, 0, none⟩) (hv : cs[i]? = some v) : w.cell? ⟨b, i, none⟩ = some v := by
  obtain ⟨b', h1, _, h2⟩ := c.bufCell k hk (by have := (List.getElem?_eq_some_iff.1 hv).1; omega)
  rw [hp] at h1
  cases h1
  exact (h2 _ _ hv).1

abbrev intv (x : Int) : Value := .int .i64 x
abbrev newCh (b : Nat) : ChSt := ⟨b, chan0, [], 0, 0⟩
abbrev ptrV (b : Nat) : Value := .pointer (some ⟨b, 0, none⟩)
theorem ints_at {l : List Int} {i : Nat} {x : Int} (h : l[i]? = some x) : (l.map intv)[i]? = some (.int .i64 x) := by rw [List.getElem?_map, h]; rfl

section
variable {W : World} {R : List Own} {Φ : PW} {lp : Option Addr} {lc : Nat} {gp : Option Addr} {gc : Nat} {gs : List Value} {got : List MsgD} {chs : List ChSt} {pts : List Value}

/-- take out of channel j -/
theorem take_at [Stable Φ] {l : List MsgD} {n nx it j : Nat} {w : World} {G : List Own} (hI : Inv l n pts chs got nx it) (hj : j < chs.length) (hq : 0 < qlen chs j) (hroom : (h : j + 1 < chs.length) → chs[j + 1].q.length < 4) (cx : Ctx W w (LR lp lc pts gp got.length gc gs chs R ++ G) (LPhi Φ chs gs got))
    {K : Ending → World → Prop}
    (hk : ∀ (m : MsgD) p cap w' chs2, m.deltas.length ≤ cap → cap ≤ maxLen → m.Ok → Hand l n pts chs2 got nx it m (j + 1) → Ctx W w' (LR lp lc pts gp got.length gc gs chs2 R ++ G) (fun M w => LPhi Φ chs2 gs got M w ∧ Sl M w p m.deltas) → K (.returned (.tuple #[m.v p cap, .int .i64 0])) w') :
    Calls Try.prog F.channel_Channel_Take #[.pointer (some ⟨chs[j].b, 0, none⟩)] w K := by
  rw [qlen_at hj] at hq
  have hok : ChanC chs[j].cs chs[j].q chs[j].first chs[j].sent := (hI.ok _ (List.getElem_mem hj)).1
  have cx1 := cx.perm (List.Perm.append_right G (LR_perm lp lc pts gp got.length gc gs chs R hj))
  have cx2 : Ctx W w (.blk chs[j].b chs[j].cs 53 :: (LT lp lc pts gp got.length gc gs chs j R ++ G)) (fun M w => LPhi Φ chs gs got M w ∧ ChanS chs[j].cs chs[j].q chs[j].first M w) := cx1.weak fun M w h => ⟨h, h.2.1 _ (List.getElem_mem hj)⟩
  have hmok : ∀ m ∈ chs[j].q, m.Ok := fun m hm => by
    obtain ⟨k, hk, rfl⟩ := List.getElem_of_mem hm
    obtain ⟨_, _, _, _, _, h, _⟩ := msg_cells (cx2.phi.2 k hk)
    exact h
  cases hcq : chs[j].q with
  | nil => rw [hcq] at hq; simp at hq
  | cons m q =>
    rw [hcq] at hok cx2 hmok
    refine Take_in cx2 hok fun p cap ds rows w' cs' hc' hf cx3 => ?_
    have cx4 : Ctx W w' (.buf p m.deltas.length cap ds 56 3 :: rows ++ (.blk chs[j].b cs' 53 :: (LT lp lc pts gp got.length gc gs chs j R ++ G))) (fun M w => LPhi Φ chs gs got M w ∧ ChanS cs' q ((chs[j].first + 1) % 4) M w) := cx3.perm List.perm_middle.symm
    obtain ⟨cx5, hsl, _, hcap, hcm⟩ := hf.sl cx4
    refine hk m p cap w' (chs.set j ⟨chs[j].b, cs', q, (chs[j].first + 1) % 4, chs[j].sent⟩) hcap hcm (hmok m (by simp)) (hI.take hj hcq rfl hc' rfl rfl hroom) ?_
    have hset : j < (chs.set j ⟨chs[j].b, cs', q, (chs[j].first + 1) % 4, chs[j].sent⟩).length := by rw [List.length_set]; exact hj
    have cx6 := (cx5.add hsl).weak (Ψ := fun M w => LPhi Φ (chs.set j ⟨chs[j].b, cs', q, (chs[j].first + 1) % 4, chs[j].sent⟩) gs got M w ∧ Sl M w p m.deltas) fun M w h => ⟨⟨h.1.1.1, LineS.set h.1.1.2.1 h.1.2, h.1.1.2.2⟩, h.2⟩
    refine cx6.perm ?_
    have hp := (LR_perm lp lc pts gp got.length gc gs (chs.set j ⟨chs[j].b, cs', q, (chs[j].first + 1) % 4, chs[j].sent⟩) R hset).symm
    rw [LT_set, List.getElem_set_self] at hp
    exact List.Perm.append_right G hp

/-- put into channel k -/
theorem put_at [Stable Φ] {l : List MsgD} {n nx it k : Nat} {w : World} {G : List Own} {m : MsgD} {p : Option Addr} {cap : Nat} (hI : Hand l n pts chs got nx it m k) (hk : k < chs.length) (hit : it < 1000000) (hok : m.Ok) (hr : rightM m = true)
    (cx : Ctx W w (LR lp lc pts gp got.length gc gs chs R ++ G) (fun M w => LPhi Φ chs gs got M w ∧ Sl M w p m.deltas)) {K : Ending → World → Prop}
    (hK : ∀ w' chs2, Inv l n pts chs2 got nx (it + 1) → Ctx W w' (LR lp lc pts gp got.length gc gs chs2 R ++ G) (LPhi Φ chs2 gs got) → K (.returned (.int .i64 0)) w') :
    Calls Try.prog F.channel_Channel_Send #[.pointer (some ⟨chs[k].b, 0, none⟩), m.v p cap] w K := by
  have hst : Stable (fun M w => LPhi Φ chs gs got M w ∧ Sl M w p m.deltas) :=
    have h2 := instStableSl p m.deltas
    instStableAnd (LPhi Φ chs gs got) (fun M w => Sl M w p m.deltas)
  have hc : ChanC chs[k].cs chs[k].q chs[k].first chs[k].sent := (hI.ok _ (List.getElem_mem hk)).1
  have hs := (hI.ok _ (List.getElem_mem hk)).2
  have cx1 := cx.perm (List.Perm.append_right G (LR_perm lp lc pts gp got.length gc gs chs R hk))
  have cx2 : Ctx W w (.blk chs[k].b chs[k].cs 53 :: (LT lp lc pts gp got.length gc gs chs k R ++ G)) (fun M w => (LPhi Φ chs gs got M w ∧ Sl M w p m.deltas) ∧ ChanS chs[k].cs chs[k].q chs[k].first M w) := cx1.weak fun M w h => ⟨h, h.1.2.1 _ (List.getElem_mem hk)⟩
  refine Send_in (Φ := fun M w => LPhi Φ chs gs got M w ∧ Sl M w p m.deltas) cx2 hc (fun M w h => h.2) hok hr (hI.room hk) (by omega) fun cs' w' hc' cx3 => ?_
  refine hK w' (chs.set k ⟨chs[k].b, cs', chs[k].q ++ [m], chs[k].first, chs[k].sent + 1⟩) (hI.put hk rfl hc' rfl rfl) ?_
  have hset : k < (chs.set k ⟨chs[k].b, cs', chs[k].q ++ [m], chs[k].first, chs[k].sent + 1⟩).length := by rw [List.length_set]; exact hk
  have cx6 := cx3.weak (Ψ := LPhi Φ (chs.set k ⟨chs[k].b, cs', chs[k].q ++ [m], chs[k].first, chs[k].sent + 1⟩) gs got) fun M w h => ⟨h.1.1.1, LineS.set h.1.1.2.1 h.2, h.1.1.2.2⟩
  refine cx6.perm ?_
  have hp := (LR_perm lp lc pts gp got.length gc gs (chs.set k ⟨chs[k].b, cs', chs[k].q ++ [m], chs[k].first, chs[k].sent + 1⟩) R hset).symm
  rw [LT_set, List.getElem_set_self] at hp
  exact List.Perm.append_right G hp

end

end Go.Proofs.Yticgmbmghnikeaa
