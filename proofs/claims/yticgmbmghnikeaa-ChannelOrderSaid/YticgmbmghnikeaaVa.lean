/-
  The walks of the values' functions.
-/
import Derived.Test.YticgmbmghnikeaaSc
import Derived.Test.YticgmbmghnikeaaVcZ
import Derived.Test.YticgmbmghnikeaaVcY
import Derived.Test.YticgmbmghnikeaaBa
set_option linter.unusedVariables false
set_option linter.unusedSimpArgs false
namespace Go.Proofs.Yticgmbmghnikeaa
open Go.Vc

structure ValD where
  kind : Int
  num : Int
  text : ByteArray
instance : Gv ValD := Gv.via (β := Int × Int × ByteArray) (fun x => (x.kind, x.num, x.text)) (fun y => ⟨y.1, y.2.1, y.2.2⟩) (fun _ => rfl)

structure DeltaD where
  time : Int
  row : List ValD
  n : Int
instance : Gv DeltaD := Gv.via (β := Int × List ValD × Int) (fun x => (x.time, x.row, x.n)) (fun y => ⟨y.1, y.2.1, y.2.2⟩) (fun _ => rfl)

abbrev ValD.v (x : ValD) : Value := .agg #[.int .i64 x.kind, .int .i64 x.num, .string x.text]

theorem val_ext {x y : ValD} : x = y ↔ (x.kind = y.kind ∧ (x.num = y.num ∧ x.text = y.text)) := by
  cases x; cases y; simp
instance : DecidableEq ValD := fun _ _ => decidable_of_iff _ val_ext.symm

theorem sl_val {M : List Nat} {w : World} {b o : Nat} {l : List ValD} (h : Sl M w (some ⟨b, o, none⟩) l) {i : Nat} (hi : i < l.length) : RowAt w b (o + i * 3) [.int .i64 l[i].kind, .int .i64 l[i].num, .string l[i].text] := by
  obtain ⟨b', o', cs, e, _, h3, _, _, rfl, ⟨rfl, _⟩, _, _, rfl, ⟨rfl, _⟩, rfl, _⟩ := h i hi
  cases e
  exact h3

theorem sl_int {M : List Nat} {w : World} {b o : Nat} {l : List Int} (h : Sl M w (some ⟨b, o, none⟩) l) {i : Nat} (hi : i < l.length) : w.cell? ⟨b, o + i, none⟩ = some (.int .i64 l[i]) := by
  obtain ⟨b', o', cs, e, _, h3, rfl, _⟩ := h i hi
  cases e
  have := h3 0 (by simp)
  simpa [show (Gv.ty Int).size = 1 from rfl] using this

/-! ### cmp -/
def cmpI (x y : Int) : Int := if x < y then -1 else if y < x then 1 else 0

theorem isNaN_g (x : Int) : Gives Try.prog F.cmp_isNaN_int #[.int .i64 x] (.bool false) :=
  gives_of (Bcmp_isNaN_int_run x) fun W R Φ _ => fun w F c => ⟨by simp, c.left⟩

theorem cmp_g (x y : Int) : Gives Try.prog F.cmp_Compare_int #[.int .i64 x, .int .i64 y] (.int .i64 (cmpI x y)) := by
  refine gives_of (Bcmp_Compare_int_run x y) fun W R Φ _ => ?_
  refine fun w F c => (isNaN_g _).use c fun w c => ⟨_, rfl, _, _, inferInstance, c, fun w F c => (isNaN_g _).use c fun w c => ⟨_, rfl, _, _, inferInstance, c, Br.intro (fun h => by cases h) (fun _ => Br.intro (fun h => by cases h) (fun _ => Br.intro (fun h => fun w F c => ⟨?_, c.left⟩) (fun h => Br.intro (fun h2 => fun w F c => ⟨?_, c.left⟩) (fun h2 => fun w F c => ⟨?_, c.left⟩))))⟩⟩
  · unfold cmpI; rw [if_pos (by simpa using h)]
  · have h : ¬ x < y := by simpa using h
    unfold cmpI; rw [if_neg h, if_pos (by simpa using h2)]
  · have h : ¬ x < y := by simpa using h
    have h2 : ¬ y < x := by simpa using h2
    unfold cmpI; rw [if_neg h, if_neg h2]

def orI : List Int → Int
  | [] => 0
  | x :: r => if x ≠ 0 then x else orI r

theorem orI_drop (l : List Int) (i : Nat) (hi : i < l.length) : orI (l.drop i) = if l[i] ≠ 0 then l[i] else orI (l.drop (i + 1)) := by
  rw [List.drop_eq_getElem_cons hi]; rfl

theorem or_in {Φ : PW} [Stable Φ] (p : Option Addr) (cap : Nat) (l : List Int) (hΦ : ∀ M w, Φ M w → Sl M w p l) (hlen : l.length ≤ 1000000) :
    GivesIn Φ Try.prog F.cmp_Or_int #[.slice p l.length cap] (.int .i64 (orI l)) := by
  refine .there (fun M w h => (hΦ M w h).there) fun hth => ?_
  refine gives_in (Bcmp_Or_int_run p l.length cap) fun W R => ?_
  refine exI_mk (fun n R' Φ' k => ∃ i : Nat, n = i ∧ i ≤ l.length ∧ R' = R ∧ Φ' = Φ ∧ k = l.length - i ∧ orI l = orI (l.drop i)) ⟨⟨R, Φ, _, inferInstance, fun w F c => c, 0, rfl, Nat.zero_le _, rfl, rfl, rfl, rfl⟩, ?_⟩
  rintro n R1 Φ1 k _ ⟨i, rfl, hi, rfl, rfl, rfl, hor⟩
  refine Br.intro (fun hlt => ?_) (fun hge => fun w F cx => ⟨?_, cx.left⟩)
  · have hlt : i < l.length := by simpa using hlt
    obtain ⟨b, o, rfl⟩ := hth (by omega)
    rw [orI_drop l i hlt] at hor
    refine ⟨by omega, ptrK_intro b o rfl fun w F cx => ⟨_, sl_int (hΦ _ _ cx.phi) hlt, Br.intro (fun h => fun w F cx => ⟨?_, cx.left⟩) (fun h => ⟨by unfold I64; omega, R1, Φ1, l.length - (i + 1), inferInstance, fun w F c => c, ⟨i + 1, rfl, hlt, rfl, rfl, rfl, ?_⟩, by omega⟩)⟩⟩
    · have h : l[i] ≠ 0 := by simpa using h
      rw [hor, if_pos h]
    · have h : ¬ l[i] ≠ 0 := by simpa using h
      rw [hor, if_neg h]
  · have hge : i = l.length := Nat.le_antisymm hi (by simpa using hge)
    rw [hor, hge, List.drop_length]
    rfl

/-! ### values -/
theorem Int_g (n : Int) : Gives Try.prog F.value_Int #[.int .i64 n] (ValD.v ⟨0, n, ByteArray.mk #[]⟩) :=
  gives_of (Bvalue_Int_run n) fun W R Φ _ => fun _ w F c => ⟨rfl, c.left⟩
theorem Text_g (s : ByteArray) : Gives Try.prog F.value_Text #[.string s] (ValD.v ⟨1, 0, s⟩) :=
  gives_of (Bvalue_Text_run s) fun W R Φ _ => fun _ w F c => ⟨rfl, c.left⟩
theorem Bool_g (b : Bool) : Gives Try.prog F.value_Bool #[.bool b] (ValD.v ⟨2, if b then 1 else 0, ByteArray.mk #[]⟩) :=
  gives_of (Bvalue_Bool_run b) fun W R Φ _ => fun _ => Br.intro (fun h => fun w F c => ⟨by rw [h]; rfl, c.left⟩) (fun h => fun w F c => ⟨by rw [h]; rfl, c.left⟩)

def rightV (x : ValD) : Bool :=
  if x.kind = 0 then decide (x = ⟨0, x.num, ByteArray.mk #[]⟩)
  else if x.kind = 1 then decide (x = ⟨1, 0, x.text⟩) && decide (x.text.size ≤ 200)
  else decide (x = ⟨2, 0, ByteArray.mk #[]⟩) || decide (x = ⟨2, 1, ByteArray.mk #[]⟩)

theorem dec_val (x y : ValD) : (decide (x.kind = y.kind) && (decide (x.num = y.num) && (decide (x.text = y.text) && true))) = decide (x = y) := by
  rw [Bool.eq_iff_iff]
  simp only [Bool.and_eq_true, decide_eq_true_eq, and_true]
  exact val_ext.symm

theorem RightV_g (x : ValD) : Gives Try.prog F.value_Right #[x.v] (.bool (rightV x)) := by
  refine gives_of (Bvalue_Right_run x.kind x.num x.text) fun W R Φ _ => ?_
  unfold rightV
  refine fun _ => Br.intro (fun h0 => ?_) (fun h0 => Br.intro (fun h1 => ?_) (fun h1 => ?_))
  · have h0 : x.kind = 0 := by simpa using h0
    rw [if_pos h0]
    exact ⟨R, Φ, inferInstance, fun _ _ c => c, fun w F c => (Int_g _).use c fun w c => ⟨_, _, _, rfl, R, Φ, inferInstance, c, fun _ _ c => c, by kernel_rfl, fun w F c => ⟨by rw [← dec_val], c.left⟩⟩⟩
  · have h0 : ¬ x.kind = 0 := by simpa using h0
    have h1 : x.kind = 1 := by simpa using h1
    rw [if_neg h0, if_pos h1]
    refine ⟨R, Φ, inferInstance, fun _ _ c => c, fun w F c => (Text_g _).use c fun w c => ⟨_, _, _, rfl, R, Φ, inferInstance, c, fun _ _ c => c, by kernel_rfl, Br.intro (fun h => fun w F c => ⟨?_, c.left⟩) (fun h => fun w F c => ⟨?_, c.left⟩)⟩⟩
    · rw [← dec_val, h, Bool.true_and]
      congr 1
      exact decide_eq_decide.2 (by omega)
    · rw [← dec_val, h]; rfl
  · have h0 : ¬ x.kind = 0 := by simpa using h0
    have h1 : ¬ x.kind = 1 := by simpa using h1
    rw [if_neg h0, if_neg h1]
    refine ⟨R, Φ, inferInstance, fun _ _ c => c, fun w F c => (Bool_g false).use c fun w c => ⟨_, _, _, rfl, R, Φ, inferInstance, c, fun _ _ c => c, by kernel_rfl, Br.intro (fun h => fun w F c => ⟨?_, c.left⟩) (fun h => fun w F c => (Bool_g true).use c fun w c => ⟨_, _, _, rfl, R, Φ, inferInstance, c, fun _ _ c => c, by kernel_rfl, fun w F c => ⟨?_, c.left⟩⟩)⟩⟩
    · rw [← dec_val x ⟨2, 0, ByteArray.mk #[]⟩]
      have h : (decide (x.kind = 2) && (decide (x.num = 0) && (decide (x.text = ByteArray.mk #[]) && true))) = true := h
      rw [h]; rfl
    · rw [← dec_val x ⟨2, 0, ByteArray.mk #[]⟩, ← dec_val x ⟨2, 1, ByteArray.mk #[]⟩]
      have h : (decide (x.kind = 2) && (decide (x.num = 0) && (decide (x.text = ByteArray.mk #[]) && true))) = false := h
      rw [h]; rfl

theorem all1_g (x : ValD) : Gives Try.prog F.value_all_1 #[x.v] (.bool (!rightV x)) := by
  refine gives_of (Bvalue_all_1_run x.kind x.num x.text) fun W R Φ _ => ?_
  exact fun _ w F c => (RightV_g x).use c fun w c => ⟨_, rfl, _, _, inferInstance, c, fun w F c => ⟨rfl, c.left⟩⟩

/-- where the first element is for which p -/
def findI {α : Type} (p : α → Bool) : Nat → List α → Int
  | _, [] => -1
  | i, x :: r => if p x = true then i else findI p (i + 1) r

theorem findI_drop {α : Type} (p : α → Bool) (l : List α) (i : Nat) (hi : i < l.length) : findI p i (l.drop i) = if p l[i] = true then (i : Int) else findI p (i + 1) (l.drop (i + 1)) := by
  rw [List.drop_eq_getElem_cons hi]; rfl

theorem findI_any {α : Type} (p : α → Bool) : ∀ (l : List α) (i : Nat), decide (0 ≤ findI p i l) = l.any p
  | [], _ => by simp [findI]
  | x :: r, i => by
    unfold findI
    rw [List.any_cons]
    cases h : p x with
    | true => simp
    | false => rw [if_neg (by simp), findI_any p r (i + 1), Bool.false_or]

theorem IndexV_in {Φ : PW} [Stable Φ] (p : Option Addr) (cap : Nat) (l : List ValD) (f : FuncId) (q : ValD → Bool) (hΦ : ∀ M w, Φ M w → Sl M w p l) (hlen : l.length ≤ 9223372036854775807) (hf : okFun Try.prog f = true) (hq : ∀ x, GivesIn Φ Try.prog f #[x.v] (.bool (q x))) :
    GivesIn Φ Try.prog F.slices_IndexFunc_api_Value_api_Value #[.slice p l.length cap, .func (.func f) #[] #[]] (.int .i64 (findI q 0 l)) := by
  refine .there (fun M w h => (hΦ M w h).there) fun hth => ?_
  refine gives_in (Bslices_IndexFunc_api_Value_api_Value_run p l.length cap f #[]) fun W R => ?_
  refine exI_mk (fun n R' Φ' k => ∃ i : Nat, n = i ∧ i ≤ l.length ∧ R' = R ∧ Φ' = Φ ∧ k = l.length - i ∧ findI q 0 l = findI q i (l.drop i)) ⟨⟨R, Φ, _, inferInstance, fun w F c => c, 0, rfl, Nat.zero_le _, rfl, rfl, rfl, rfl⟩, ?_⟩
  rintro n R1 Φ1 k _ ⟨i, rfl, hi, rfl, rfl, rfl, hor⟩
  refine Br.intro (fun hlt => ?_) (fun hge => fun w F cx => ⟨?_, cx.left⟩)
  · have hlt : i < l.length := by simpa using hlt
    obtain ⟨b, o, rfl⟩ := hth (by omega)
    rw [findI_drop q l i hlt] at hor
    refine ⟨by omega, ptrK_intro b o rfl fun w F cx => ⟨_, _, _, sl_val (hΦ _ _ cx.phi) hlt, fun w F cx => ⟨hf, (hq l[i]).use cx fun w cx => ⟨_, rfl, R1, Φ1, inferInstance, cx, Br.intro (fun h => fun w F cx => ⟨?_, cx.left⟩) (fun h => ⟨by unfold I64; omega, R1, Φ1, l.length - (i + 1), inferInstance, fun w F c => c, ⟨i + 1, rfl, hlt, rfl, rfl, rfl, ?_⟩, by omega⟩)⟩⟩⟩⟩
    · rw [hor, if_pos h]
    · rw [hor, if_neg (by rw [h]; simp)]
  · have hge : i = l.length := Nat.le_antisymm hi (by simpa using hge)
    rw [hor, hge, List.drop_length]
    rfl

theorem ContainsV_in {Φ : PW} [Stable Φ] (p : Option Addr) (cap : Nat) (l : List ValD) (f : FuncId) (q : ValD → Bool) (hΦ : ∀ M w, Φ M w → Sl M w p l) (hlen : l.length ≤ 9223372036854775807) (hf : okFun Try.prog f = true) (hq : ∀ x, GivesIn Φ Try.prog f #[x.v] (.bool (q x))) :
    GivesIn Φ Try.prog F.slices_ContainsFunc_api_Value_api_Value #[.slice p l.length cap, .func (.func f) #[] #[]] (.bool (l.any q)) := by
  refine gives_in (Bslices_ContainsFunc_api_Value_api_Value_run p l.length cap f #[]) fun W R => ?_
  exact fun w F cx => (IndexV_in p cap l f q hΦ hlen hf hq).use cx fun w cx => ⟨_, rfl, R, Φ, inferInstance, cx, fun w F cx => ⟨by rw [findI_any], cx.left⟩⟩

theorem all_in {Φ : PW} [Stable Φ] (p : Option Addr) (cap : Nat) (l : List ValD) (hΦ : ∀ M w, Φ M w → Sl M w p l) (hlen : l.length ≤ 9223372036854775807) :
    GivesIn Φ Try.prog F.value_all #[.slice p l.length cap] (.bool (!l.any fun x => !rightV x)) := by
  refine gives_in (Bvalue_all_run p l.length cap) fun W R => ?_
  exact fun w F cx => (ContainsV_in p cap l 44 (fun x => !rightV x) hΦ hlen (by kernel_rfl) fun x => (all1_g x).in).use cx fun w cx => ⟨_, rfl, R, Φ, inferInstance, cx, fun w F cx => ⟨rfl, cx.left⟩⟩

def rightRow (l : List ValD) : Bool := decide (l.length ≤ 12) && !l.any fun x => !rightV x

theorem RightRow_in {Φ : PW} [Stable Φ] (p : Option Addr) (cap : Nat) (l : List ValD) (hΦ : ∀ M w, Φ M w → Sl M w p l) (hlen : l.length ≤ 9223372036854775807) :
    GivesIn Φ Try.prog F.value_RightRow #[.slice p l.length cap] (.bool (rightRow l)) := by
  refine gives_in (Bvalue_RightRow_run p l.length cap) fun W R => ?_
  unfold rightRow
  refine Br.intro (fun h => fun w F cx => (all_in p cap l hΦ hlen).use cx fun w cx => ⟨_, rfl, R, Φ, inferInstance, cx, fun w F cx => ⟨?_, cx.left⟩⟩) (fun h => fun w F cx => ⟨?_, cx.left⟩)
  · have h : (l.length : Int) ≤ 12 := by simpa using h
    rw [decide_eq_true (by omega), Bool.true_and]
  · have h : ¬ (l.length : Int) ≤ 12 := by simpa using h
    rw [decide_eq_false (by omega), Bool.false_and]

end Go.Proofs.Yticgmbmghnikeaa
