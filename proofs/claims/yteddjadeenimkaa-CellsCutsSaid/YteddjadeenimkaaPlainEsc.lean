/- Plain: how texts are written in quotes. -/
import Derived.Test.YteddjadeenimkaaPlainUtf4
import Derived.Test.YteddjadeenimkaaPlainPin
set_option linter.unusedVariables false
set_option linter.unusedSimpArgs false
namespace Bf
def kindT (r : Int) : Int := if hasT controlT r then 1 else if hasT bidiT r then 2 else if hasT formatT r then 3 else if hasT separatorT r then 4 else 0
def unsafeB (r : Int) : Bool := !decide (kindT r = 0)
def hexD (n : Nat) : UInt8 := if n < 10 then UInt8.ofNat (48 + n) else UInt8.ofNat (87 + n)
def hexL (n : Nat) : List UInt8 := if n < 16 then [hexD n] else hexL (n / 16) ++ [hexD (n % 16)]
theorem hexL_small (n : Nat) (h : n < 16) : hexL n = [hexD n] := by rw [hexL, if_pos h]
theorem hexL_big (n : Nat) (h : ¬ n < 16) : hexL n = hexL (n / 16) ++ [hexD (n % 16)] := by rw [hexL, if_neg h]
theorem hexL_len : ∀ (k n : Nat), n < 16 ^ (k + 1) → 1 ≤ (hexL n).length ∧ (hexL n).length ≤ k + 1 := by
  intro k
  induction k with
  | zero => intro n h; rw [hexL_small n (by simpa using h)]; simp
  | succ k ih =>
    intro n h
    by_cases hn : n < 16
    · rw [hexL_small n hn]; simp
    · rw [hexL_big n hn]
      have := ih (n / 16) (by rw [Nat.div_lt_iff_lt_mul (by decide)]; rw [Nat.pow_succ] at h; exact h)
      rw [List.length_append]; simp only [List.length_singleton]; omega
def digs : List UInt8 := [48, 49, 50, 51, 52, 53, 54, 55, 56, 57, 97, 98, 99, 100, 101, 102]
theorem digs_at (k : Nat) (h : k < 16) (m : Nat) (hm : m = 1) : (digs.drop k).take m = [hexD k] := by
  subst hm
  have : ∀ k, k < 16 → (digs.drop k).take 1 = [hexD k] := by decide
  exact this k h
def shortL (r : Int) : List UInt8 := if r = 34 then [92, 34] else if r = 92 then [92, 92] else if r = 9 then [92, 116] else if r = 10 then [92, 110] else if r = 13 then [92, 114] else []
theorem shortL_len (r : Int) : (shortL r).length ≤ 2 := by
  unfold shortL
  split
  · exact Nat.le_refl 2
  · split
    · exact Nat.le_refl 2
    · split
      · exact Nat.le_refl 2
      · split
        · exact Nat.le_refl 2
        · split
          · exact Nat.le_refl 2
          · exact Nat.zero_le 2
/-- The unit at the head, as it is written, and its bytes. -/
def unitE : List UInt8 → List UInt8 × Nat
  | [] => ([], 0)
  | c :: l =>
    if (decS (c :: l)).2.2 = false then ([92, 120, hexD (c.toNat / 16), hexD (c.toNat % 16)], 1)
    else if shortL (decS (c :: l)).1 ≠ [] then (shortL (decS (c :: l)).1, (decS (c :: l)).2.1)
    else if unsafeB (decS (c :: l)).1 = true then ([92, 117, 123] ++ hexL (decS (c :: l)).1.toNat ++ [125], (decS (c :: l)).2.1)
    else ((c :: l).take (decS (c :: l)).2.1, (decS (c :: l)).2.1)
theorem valL_bd2 (l : List UInt8) : 0 ≤ valL l ∧ valL l ≤ 2097151 := by
  have ub : ∀ c : UInt8, (c.toNat : Int) < 256 := fun c => by have := c.toNat_lt; omega
  match l with
  | [] => exact ⟨Int.le_refl 0, by simp only [valL]; omega⟩
  | [a] => have := ub a; simp only [valL]; omega
  | [a, b] => simp only [valL]; omega
  | [a, b, c] => simp only [valL]; omega
  | [a, b, c, d] => simp only [valL]; omega
  | _ :: _ :: _ :: _ :: _ :: _ => simp only [valL]; omega
theorem decS_val2 (l : List UInt8) : 0 ≤ (decS l).1 ∧ (decS l).1 ≤ 2097151 := by
  cases l with
  | nil => exact ⟨Int.le_refl 0, by simp only [decS]; omega⟩
  | cons c l =>
    have hv : ∀ k, 0 ≤ valL k ∧ valL k ≤ 2097151 := valL_bd2
    unfold decS; simp only
    generalize valL = V at hv ⊢
    split
    · exact ⟨by omega, by omega⟩
    · split
      · exact hv _
      · exact ⟨by omega, by omega⟩
theorem trip {α β γ : Type} (d : α × β × γ) : ∃ r n ok, d = (r, n, ok) := ⟨d.1, d.2.1, d.2.2, rfl⟩
theorem unitE_eq (c : UInt8) (l : List UInt8) (r : Int) (n : Nat) (ok : Bool) (h : decS (c :: l) = (r, n, ok)) : unitE (c :: l) =
    if ok = false then ([92, 120, hexD (c.toNat / 16), hexD (c.toNat % 16)], 1) else if shortL r ≠ [] then (shortL r, n) else if unsafeB r = true then ([92, 117, 123] ++ hexL r.toNat ++ [125], n) else ((c :: l).take n, n) := by
  simp only [unitE, h]
theorem unitE_bd (l : List UInt8) (h : l ≠ []) : 1 ≤ (unitE l).2 ∧ (unitE l).2 ≤ l.length ∧ (unitE l).2 ≤ 4 ∧ (unitE l).1.length ≤ 10 := by
  cases l with
  | nil => exact absurd rfl h
  | cons c l =>
    have h1 := decS_len (c :: l)
    have h2 := h1.2.1 h
    have hv := decS_val2 (c :: l)
    have hl : 1 ≤ (c :: l).length := by simp
    obtain ⟨r, n, ok, hd⟩ : ∃ r n ok, decS (c :: l) = (r, n, ok) := trip _
    rw [unitE_eq c l r n ok hd]
    rw [hd] at h1 h2 hv
    simp only at h1 h2 hv
    split
    · exact ⟨by simp, hl, by simp, by simp⟩
    · split
      · have := shortL_len r
        exact ⟨h2, h1.1, h1.2.2, by simp only; omega⟩
      · split
        · refine ⟨h2, h1.1, h1.2.2, ?_⟩
          have := (hexL_len 5 r.toNat (Nat.lt_of_le_of_lt (m := 2097151) (by omega) (by decide))).2
          simp only [List.length_append, List.length_cons, List.length_nil]; omega
        · refine ⟨h2, h1.1, h1.2.2, ?_⟩
          simp only [List.length_take]; omega
def bodyQ (l : List UInt8) : List UInt8 := if h : l = [] then [] else (unitE l).1 ++ bodyQ (l.drop (unitE l).2)
termination_by l.length
decreasing_by
  have := unitE_bd l h
  have h2 : 1 ≤ l.length := List.length_pos_iff.2 h
  rw [List.length_drop]; omega
theorem bodyQ_nil : bodyQ [] = [] := by rw [bodyQ, dif_pos rfl]
theorem bodyQ_step (l : List UInt8) (h : l ≠ []) : bodyQ l = (unitE l).1 ++ bodyQ (l.drop (unitE l).2) := by rw [bodyQ, dif_neg h]
theorem bodyQ_len : ∀ (m : Nat) (l : List UInt8), l.length ≤ m → (bodyQ l).length ≤ 10 * l.length := by
  intro m
  induction m with
  | zero => intro l h; have : l = [] := List.length_eq_zero_iff.1 (by omega); subst this; rw [bodyQ_nil]; simp
  | succ m ih =>
    intro l h
    by_cases hl : l = []
    · subst hl; rw [bodyQ_nil]; simp
    · rw [bodyQ_step l hl, List.length_append]
      have hb := unitE_bd l hl
      have := ih (l.drop (unitE l).2) (by rw [List.length_drop]; omega)
      rw [List.length_drop] at this
      omega
def quoteL (l : List UInt8) : List UInt8 := 34 :: bodyQ l ++ [34]
def unitEAt (l : List UInt8) (i : Int) : List UInt8 × Nat := if i < 0 ∨ (l.length : Int) ≤ i then ([], 0) else unitE (l.drop i.toNat)
end Bf
