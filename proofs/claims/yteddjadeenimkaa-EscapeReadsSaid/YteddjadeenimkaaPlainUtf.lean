/- Plain facts: UTF-8. No program in sight. -/
import Derived.Test.YteddjadeenimkaaPlain
set_option linter.unusedVariables false
set_option linter.unusedSimpArgs false
namespace Bf
/-- How many bytes a first byte asks for, and between which the second one lies. -/
def leadS (n : Int) : Int × Int × Int :=
  if n < 128 then (1, 128, 191) else if n < 194 then (0, 128, 191) else if n < 224 then (2, 128, 191)
  else if n = 224 then (3, 160, 191) else if n < 237 then (3, 128, 191) else if n = 237 then (3, 128, 159) else if n < 240 then (3, 128, 191)
  else if n = 240 then (4, 144, 191) else if n < 244 then (4, 128, 191) else if n = 244 then (4, 128, 143) else (0, 128, 191)
/-- How many of the next m bytes go on. -/
def scanL (lo hi : Int) : Nat → List UInt8 → Nat
  | 0, _ => 0
  | _ + 1, [] => 0
  | m + 1, b :: l => if lo ≤ (b.toNat : Int) ∧ (b.toNat : Int) ≤ hi then scanL 128 191 m l + 1 else 0
def valL : List UInt8 → Int
  | [a] => a.toNat
  | [a, b] => (a.toNat : Int) % 32 * 64 + (b.toNat : Int) % 64
  | [a, b, c] => ((a.toNat : Int) % 16 * 64 + (b.toNat : Int) % 64) * 64 + (c.toNat : Int) % 64
  | [a, b, c, d] => (((a.toNat : Int) % 8 * 64 + (b.toNat : Int) % 64) * 64 + (c.toNat : Int) % 64) * 64 + (d.toNat : Int) % 64
  | _ => 0
/-- The scalar at the head of bytes, how many bytes, and whether it is one. -/
def decS : List UInt8 → Int × Nat × Bool
  | [] => (0, 0, false)
  | c :: l =>
    let r := leadS c.toNat
    if r.1 = 0 then (0, 1, false)
    else if scanL r.2.1 r.2.2 (r.1.toNat - 1) l = r.1.toNat - 1 then (valL ((c :: l).take r.1.toNat), r.1.toNat, true)
    else (0, 1 + scanL r.2.1 r.2.2 (r.1.toNat - 1) l, false)
theorem scanL_le (lo hi : Int) (m : Nat) (l : List UInt8) : scanL lo hi m l ≤ m ∧ scanL lo hi m l ≤ l.length := by
  induction m generalizing lo hi l with
  | zero => simp [scanL]
  | succ m ih =>
    cases l with
    | nil => simp [scanL]
    | cons b l =>
      unfold scanL; split
      · have := ih 128 191 l; simp; omega
      · simp
theorem leadS_bd (n : Int) : 0 ≤ (leadS n).1 ∧ (leadS n).1 ≤ 4 := by
  unfold leadS; repeat (first | (split; decide) | decide)
theorem decS_len (l : List UInt8) : (decS l).2.1 ≤ l.length ∧ (l ≠ [] → 1 ≤ (decS l).2.1) ∧ (decS l).2.1 ≤ 4 := by
  cases l with
  | nil => simp [decS]
  | cons c l =>
    have hb := leadS_bd c.toNat
    unfold decS; simp only
    have hs := scanL_le (leadS c.toNat).2.1 (leadS c.toNat).2.2 ((leadS c.toNat).1.toNat - 1) l
    split
    · simp
    · split
      · simp; omega
      · simp; omega
def scalarB (n : Int) : Bool := decide (0 ≤ n) && decide (n ≤ 1114111) && (decide (n < 55296) || decide (57343 < n))
def u8 (n : Int) : UInt8 := UInt8.ofNat n.toNat
/-- A scalar's bytes. -/
def encL (n : Int) : List UInt8 :=
  if scalarB n = false then [] else if n < 128 then [u8 n] else if n < 2048 then [u8 (192 + n / 64), u8 (128 + n % 64)]
  else if n < 65536 then [u8 (224 + n / 4096), u8 (128 + n / 64 % 64), u8 (128 + n % 64)]
  else [u8 (240 + n / 262144), u8 (128 + n / 4096 % 64), u8 (128 + n / 64 % 64), u8 (128 + n % 64)]
def encB (n : Int) : ByteArray := ⟨(encL n).toArray⟩
theorem encB_list (n : Int) : (encB n).data.toList = encL n := by unfold encB; simp
theorem encL_no (n : Int) (h : scalarB n = false) : encL n = [] := by unfold encL; rw [if_pos h]
theorem encL_1 (n : Int) (h : scalarB n = true) (h1 : n < 128) : encL n = [u8 n] := by unfold encL; rw [if_neg (by simp [h]), if_pos h1]
theorem encL_2 (n : Int) (h : scalarB n = true) (h1 : ¬ n < 128) (h2 : n < 2048) : encL n = [u8 (192 + n / 64), u8 (128 + n % 64)] := by unfold encL; rw [if_neg (by simp [h]), if_neg h1, if_pos h2]
theorem encL_3 (n : Int) (h : scalarB n = true) (h1 : ¬ n < 128) (h2 : ¬ n < 2048) (h3 : n < 65536) : encL n = [u8 (224 + n / 4096), u8 (128 + n / 64 % 64), u8 (128 + n % 64)] := by
  unfold encL; rw [if_neg (by simp [h]), if_neg h1, if_neg h2, if_pos h3]
theorem encL_4 (n : Int) (h : scalarB n = true) (h1 : ¬ n < 128) (h2 : ¬ n < 2048) (h3 : ¬ n < 65536) :
    encL n = [u8 (240 + n / 262144), u8 (128 + n / 4096 % 64), u8 (128 + n / 64 % 64), u8 (128 + n % 64)] := by
  unfold encL; rw [if_neg (by simp [h]), if_neg h1, if_neg h2, if_neg h3]
theorem scalarB_true {n : Int} (h : scalarB n = true) : 0 ≤ n ∧ n ≤ 1114111 ∧ (n < 55296 ∨ 57343 < n) := by
  unfold scalarB at h; simp at h; omega
theorem scalarB_false {n : Int} (h : scalarB n = false) : n < 0 ∨ 1114111 < n ∨ (55296 ≤ n ∧ n ≤ 57343) := by
  unfold scalarB at h; simp at h; omega
theorem encL_len (n : Int) : (encL n).length ≤ 4 := by
  unfold encL; split
  · simp
  · split
    · simp
    · split
      · simp
      · split <;> simp

theorem decS_drop_lt (l : List UInt8) (h : l ≠ []) : (l.drop (decS l).2.1).length < l.length := by
  have := (decS_len l).2.1 h
  have h2 : 0 < l.length := List.length_pos_iff.2 h
  simp; omega
/-- The first place that is not well-formed. -/
def badL (l : List UInt8) : Nat := if h : l = [] then 0 else if (decS l).2.2 = true then (decS l).2.1 + badL (l.drop (decS l).2.1) else 0
termination_by l.length
decreasing_by exact decS_drop_lt l h
/-- The scalars ahead of that place. -/
def runesL (l : List UInt8) : List Int := if h : l = [] then [] else if (decS l).2.2 = true then (decS l).1 :: runesL (l.drop (decS l).2.1) else []
termination_by l.length
decreasing_by exact decS_drop_lt l h
/-- How many scalars, and begins that are left, there are. -/
def countL (l : List UInt8) : Nat := if h : l = [] then 0 else countL (l.drop (decS l).2.1) + 1
termination_by l.length
decreasing_by exact decS_drop_lt l h
theorem badL_nil : badL [] = 0 := by rw [badL, dif_pos rfl]
theorem runesL_nil : runesL [] = [] := by rw [runesL, dif_pos rfl]
theorem countL_nil : countL [] = 0 := by rw [countL, dif_pos rfl]
theorem badL_ok (l : List UInt8) (r : Int) (n : Nat) (h : l ≠ []) (hd : decS l = (r, n, true)) : badL l = n + badL (l.drop n) := by rw [badL, dif_neg h, hd, if_pos rfl]
theorem badL_bad (l : List UInt8) (r : Int) (n : Nat) (hd : decS l = (r, n, false)) : badL l = 0 := by
  rw [badL]; split
  · rfl
  · rw [hd]; rfl
theorem runesL_ok (l : List UInt8) (r : Int) (n : Nat) (h : l ≠ []) (hd : decS l = (r, n, true)) : runesL l = r :: runesL (l.drop n) := by rw [runesL, dif_neg h, hd, if_pos rfl]
theorem runesL_bad (l : List UInt8) (r : Int) (n : Nat) (hd : decS l = (r, n, false)) : runesL l = [] := by
  rw [runesL]; split
  · rfl
  · rw [hd]; rfl
theorem countL_step (l : List UInt8) (r : Int) (n : Nat) (b : Bool) (h : l ≠ []) (hd : decS l = (r, n, b)) : countL l = countL (l.drop n) + 1 := by rw [countL, dif_neg h, hd]
theorem badL_le : ∀ (m : Nat) (l : List UInt8), l.length ≤ m → badL l ≤ l.length := by
  intro m
  induction m with
  | zero => intro l h; have : l = [] := List.length_eq_zero_iff.1 (by omega); subst this; simp [badL_nil]
  | succ m ih =>
    intro l h
    by_cases hl : l = []
    · subst hl; simp [badL_nil]
    · obtain ⟨r, n, b, hd⟩ : ∃ r n b, decS l = (r, n, b) := ⟨_, _, _, rfl⟩
      have hn := decS_len l
      rw [hd] at hn
      simp only at hn
      cases b
      · rw [badL_bad l r n hd]; omega
      · rw [badL_ok l r n hl hd]
        have := ih (l.drop n) (by have := hn.2.1 hl; simp; omega)
        simp at this; have := hn.1; omega
theorem countL_le : ∀ (m : Nat) (l : List UInt8), l.length ≤ m → countL l ≤ l.length := by
  intro m
  induction m with
  | zero => intro l h; have : l = [] := List.length_eq_zero_iff.1 (by omega); subst this; simp [countL_nil]
  | succ m ih =>
    intro l h
    by_cases hl : l = []
    · subst hl; simp [countL_nil]
    · obtain ⟨r, n, b, hd⟩ : ∃ r n b, decS l = (r, n, b) := ⟨_, _, _, rfl⟩
      have hn := decS_len l
      rw [hd] at hn
      simp only at hn
      rw [countL_step l r n b hl hd]
      have h1 := hn.2.1 hl
      have := ih (l.drop n) (by simp; omega)
      simp at this; have := hn.1; omega
end Bf
