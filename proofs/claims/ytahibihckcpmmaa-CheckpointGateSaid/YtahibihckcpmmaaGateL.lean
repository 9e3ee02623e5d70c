/-
  A map that is a set of ints: what the operations on it do.
-/
import Derived.Test.YtahibihckcpmmaaVcH
namespace Go.Proofs.Ytahibihckcpmmaa
open Go.Vc

def setEnt (p : Int × Nat) : MapEntry := ⟨.int .i64 p.1, .bool true, p.2⟩
def setEnts (l : List Int) : List MapEntry := l.zipIdx.map setEnt
def setObj (l : List Int) : Obj := .map (setEnts l).toArray l.length

theorem findNow_set (k : Int) : ∀ (l : List Int) (n i : Nat),
    Instr.findNow (.int .i64) (.int .i64 k) ((l.zipIdx n).map setEnt) i = some (if k ∈ l then some (i + l.idxOf k, .bool true) else none)
  | [], n, i => rfl
  | x :: l, n, i => by
    rw [List.zipIdx_cons, List.map_cons]
    unfold Instr.findNow
    simp only [setEnt, Instr.sameNow, if_true]
    by_cases h : k = x
    · subst h; simp
    · have hb : (k == x) = false := by simpa using h
      rw [hb]
      simp only
      rw [findNow_set k l (n+1) (i+1)]
      have e : (k ∈ x :: l) ↔ k ∈ l := by simp [h]
      by_cases hm : k ∈ l
      · rw [if_pos hm, if_pos (e.2 hm), List.idxOf_cons, show (x == k) = false by simpa using fun e : x = k => h e.symm]; simp only [cond_false]; congr 3; omega
      · rw [if_neg hm, if_neg (fun h => hm (e.1 h))]

section
variable {P : Program} {t k e : TypeId} (ht : P.underlying t = some (.map k e)) (hk : P.underlying k = some (.int .i64))
include hk
theorem check_int (b : Bool) (n : Nat) (x : Int) (w : World) : (Instr.checkKey b (n+1) k (.int .i64 x)).run P w = .ok () w := by
  unfold Instr.checkKey
  simp [run_underlying hk]
include ht
theorem lookup_set (hz : ∀ w, (zeroValue e).run P w = .ok (.bool false) w) {w : World} {b : Nat} {l : List Int} (hb : w.heap[b]? = some (setObj l)) (x : Int) :
    (Instr.lookup t (.map (some b)) (.int .i64 x) false).run P w = .ok (.bool (decide (x ∈ l))) w := by
  have h1 := findNow_set x l 0 0
  have h2 := check_int (P := P) hk (setEnts l).toArray.isEmpty 9999 x w
  unfold setObj at hb
  unfold setEnts at hb h2
  unfold Instr.lookup
  simp only [Instr.findKey, Sem.run_bind, run_underlying ht, MapKept.run_getObj_map hb, Result.andThen, run_underlying hk, h2, h1, Sem.run_pure]
  by_cases hm : x ∈ l
  · simp [hm]
  · simp [hm, hz]
theorem mapEntry_new (hz : ∀ w, (zeroValue e).run P w = .ok (.bool false) w) {w : World} {b : Nat} {l : List Int} (hb : w.heap[b]? = some (setObj l)) (x : Int) (hx : x ∉ l) :
    (Instr.mapEntry t (.map (some b)) (.int .i64 x)).run P w = .ok (.tuple #[.bool false, .int .i64 l.length]) (setB w b (.map ((setEnts l).toArray.push ⟨.int .i64 x, .bool false, l.length⟩) (l.length + 1))) := by
  have h1 := findNow_set x l 0 0
  have h2 := check_int (P := P) hk false 9999 x w
  unfold setObj at hb
  unfold setEnts at *
  rw [if_neg hx] at h1
  have h3 := MapKept.run_setObj_map (P := P) (.map ((List.map setEnt l.zipIdx).toArray.push ⟨.int .i64 x, .bool false, l.length⟩) (l.length + 1)) hb
  unfold Instr.mapEntry
  simp only [Instr.findKey, Sem.run_bind, run_underlying ht, MapKept.run_getObj_map hb, Result.andThen, run_underlying hk, h2, h1, Sem.run_pure, hz, h3]
  rfl
omit hk
theorem len_set {w : World} {b : Nat} {l : List Int} (hb : w.heap[b]? = some (setObj l)) (ty : TypeId) :
    (Builtin.len_ #[t] ty #[.map (some b)]).run P w = .ok (.int .i64 l.length) w := by
  unfold setObj at hb
  simp [Builtin.len_, run_underlying ht, MapKept.run_getObj_map hb, Result.andThen, goInt, setEnts]
end
theorem findIdx_born (x : Int) : ∀ (l : List Int) (n : Nat), ((l.zipIdx n).map setEnt ++ [(⟨.int .i64 x, .bool false, n + l.length⟩ : MapEntry)]).findIdx? (fun e : MapEntry => (e.born : Int) == ((n + l.length : Nat) : Int)) = some l.length
  | [], n => by simp
  | y :: l, n => by
    have := findIdx_born x l (n+1)
    rw [List.zipIdx_cons, List.map_cons, List.cons_append, List.findIdx?_cons, if_neg (by simp [setEnt]; omega)]
    rw [show n + (y :: l).length = (n+1) + l.length by simp; omega, this]
    simp
theorem setEnts_snoc (l : List Int) (x : Int) : setEnts (l ++ [x]) = setEnts l ++ [⟨.int .i64 x, .bool true, l.length⟩] := by
  simp [setEnts, List.zipIdx_append, setEnt]
theorem setEnts_len (l : List Int) : (setEnts l).length = l.length := by simp [setEnts]
theorem modify_push {α : Type} (a : Array α) (x : α) (f : α → α) : (a.push x).modify a.size f = a.push (f x) := by
  apply Array.ext
  · simp
  · intro i h1 h2
    rw [Array.getElem_modify]
    simp only [Array.size_push] at h2
    by_cases h : a.size = i
    · subst h; simp
    · rw [if_neg h, Array.getElem_push_lt (by omega), Array.getElem_push_lt (by omega)]
theorem entryStore_new {P : Program} (t : TypeId) {w : World} {b : Nat} {l : List Int} (x : Int) (hb : w.heap[b]? = some (.map ((setEnts l).toArray.push ⟨.int .i64 x, .bool false, l.length⟩) (l.length + 1)))  :
    (Instr.entryStore t (.map (some b)) (.int .i64 l.length) (.bool true)).run P w = .ok () (setB w b (setObj (l ++ [x]))) := by
  have h1 := findIdx_born x l 0
  have h3 := MapKept.run_setObj_map (P := P) (setObj (l ++ [x])) hb
  unfold Instr.entryStore
  simp only [Sem.run_bind, MapKept.run_getObj_map hb, Result.andThen, Sem.run_pure, asInt]
  have h4 : Array.findIdx? (fun e : MapEntry => (e.born : Int) == (l.length : Int)) ((setEnts l).toArray.push ⟨.int .i64 x, .bool false, l.length⟩) = some l.length := by
    simp only [setEnts, Nat.zero_add] at h1 ⊢
    simpa using h1
  have h0 : (asIntOf (.int .i64 l.length)).run P w = .ok (.i64, (l.length : Int)) w := rfl
  simp only [h0, h4]
  have h5 : ((setEnts l).toArray.push (⟨.int .i64 x, .bool false, l.length⟩ : MapEntry)).modify l.length (fun e => { key := e.key, val := .bool true, born := e.born }) = (setEnts (l ++ [x])).toArray := by
    rw [setEnts_snoc]
    have := modify_push (setEnts l).toArray (⟨.int .i64 x, .bool false, l.length⟩ : MapEntry) (fun e => { key := e.key, val := .bool true, born := e.born })
    rw [List.size_toArray, setEnts_len] at this
    rw [this]; simp
  rw [h5]
  have e : setObj (l ++ [x]) = .map (setEnts (l ++ [x])).toArray (l.length + 1) := by simp [setObj]
  rw [e] at h3 ⊢
  exact h3
end Go.Proofs.Ytahibihckcpmmaa
