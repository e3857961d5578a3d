/- Plain facts on lists of bytes and numbers: no program in sight. -/
import GoSem.Core.Value
set_option linter.unusedVariables false
set_option linter.unusedSimpArgs false
namespace Bf

theorem toList_drop_cons (s : ByteArray) (k : Nat) (h : k < s.size) : s.data.toList.drop k = s[k] :: s.data.toList.drop (k + 1) := by
  have h' : k < s.data.toList.length := by simpa using h
  rw [List.drop_eq_getElem_cons h']; rfl

theorem toList_length (s : ByteArray) : s.data.toList.length = s.size := by simp

theorem drop_all (s : ByteArray) (k : Nat) (h : s.size ≤ k) : s.data.toList.drop k = [] := by
  apply List.drop_of_length_le; rw [toList_length]; exact h
theorem get_mem (s : ByteArray) (k : Nat) (h : k < s.size) : s[k] ∈ s.data.toList := by
  have h' : k < s.data.toList.length := by simpa using h
  have := List.getElem_mem h'; exact this

/-! ### digits -/
def isDig (c : UInt8) : Bool := decide (48 ≤ c.toNat) && decide (c.toNat ≤ 57)
def runL : List UInt8 → Nat
  | [] => 0
  | c :: l => if isDig c then runL l + 1 else 0
theorem runL_le (l : List UInt8) : runL l ≤ l.length := by
  induction l with
  | nil => simp [runL]
  | cons c l ih => unfold runL; split <;> simp <;> omega
def digVal (c : UInt8) : Nat := c.toNat - 48
def numVal : List UInt8 → Nat → Nat
  | [], a => a
  | c :: l, a => numVal l (a * 10 + digVal c)
theorem numVal_ge (l : List UInt8) (a : Nat) : a ≤ numVal l a := by
  induction l generalizing a with
  | nil => simp [numVal]
  | cons c l ih => unfold numVal; have := ih (a * 10 + digVal c); omega

def most (minus : Bool) : Nat := if minus then 9223372036854775808 else 9223372036854775807
def valB (v : Nat) (minus : Bool) : Bool := decide (v ≤ most minus)
def valN (v : Nat) (minus : Bool) : Int := if v ≤ most minus then (if minus then -(v : Int) else v) else 0
theorem val_over (v : Nat) (m : Bool) (h : 9223372036854775808 < v) : valB v m = false ∧ valN v m = 0 := by
  unfold valB valN most
  have : ¬ v ≤ 9223372036854775807 := by omega
  have : ¬ v ≤ 9223372036854775808 := by omega
  cases m <;> simp [*]
theorem val_minus (v : Nat) (h : v ≤ 9223372036854775808) : valB v true = true ∧ valN v true = -(v : Int) := by
  unfold valB valN most; simp [h]
theorem val_plus (v : Nat) (h : v < 9223372036854775808) : valB v false = true ∧ valN v false = v := by
  unfold valB valN most
  have : v ≤ 9223372036854775807 := by omega
  simp [this]
theorem val_least (v : Nat) (h : v = 9223372036854775808) : valB v false = false ∧ valN v false = 0 := by
  subst h; unfold valB valN most; simp
theorem numVal_cons (c : UInt8) (l : List UInt8) (a : Nat) : numVal (c :: l) a = numVal l (a * 10 + digVal c) := rfl
theorem numVal_big (c : UInt8) (l : List UInt8) (a : Nat) (h : 9223372036854775808 < a * 10 + digVal c) : 9223372036854775808 < numVal (c :: l) a := by
  have := numVal_ge l (a * 10 + digVal c); rw [numVal_cons]; omega

theorem tdiv_neg10 (x : Int) (h : x ≤ 0) : x.tdiv 10 = -((-x) / 10) := by
  have h1 : (-x).tdiv 10 = (-x) / 10 := Int.tdiv_eq_ediv_of_nonneg (by omega)
  rw [Int.neg_tdiv] at h1; omega

theorem extract_toList (s : ByteArray) (a b : Nat) : (s.extract a b).data.toList = (s.data.toList.drop a).take (b - a) := by
  rw [ByteArray.data_extract, Array.toList_extract, List.extract_eq_take_drop]
theorem extract_rest (s : ByteArray) (a : Nat) : (s.extract a s.size).data.toList = s.data.toList.drop a := by
  rw [extract_toList, List.take_of_length_le]; simp
theorem runL_all (l : List UInt8) : ∀ n, n ≤ runL l → ∀ c ∈ l.take n, isDig c = true := by
  induction l with
  | nil => simp
  | cons c l ih =>
    intro n hn; unfold runL at hn
    cases n with
    | zero => simp
    | succ n =>
      split at hn
      · rename_i h; intro d hd; simp at hd; rcases hd with rfl | hd
        · exact h
        · exact ih n (by omega) d hd
      · omega
theorem runL_drop_le (l : List UInt8) (k : Nat) (h : k ≤ l.length) : k + runL (l.drop k) ≤ l.length := by
  have := runL_le (l.drop k); simp at this; omega

/-- What Take answers: the number, the place behind it, the fault's number, the fault's place. -/
def takeAt (l : List UInt8) (k : Nat) : Int × Int × Int × Int :=
  let minus := l[k]? == some 45
  let fr := if minus then k + 1 else k
  let many := runL (l.drop fr)
  let v := numVal ((l.drop fr).take many) 0
  if many = 0 then (0, 0, if fr = l.length then 5 else 19, (fr : Int))
  else if l[fr]? = some 48 ∧ (1 < many ∨ minus = true) then (0, 0, 19, (k : Int))
  else if valB v minus then (valN v minus, (fr : Int) + many, 0, 0) else (0, 0, 13, (k : Int))
def takeS (l : List UInt8) (at_ : Int) : Int × Int × Int × Int :=
  if at_ < 0 ∨ (l.length : Int) < at_ then (0, 0, 1, 0) else takeAt l at_.toNat

theorem takeS_out (l : List UInt8) (a : Int) (h : a < 0 ∨ (l.length : Int) < a) : takeS l a = (0, 0, 1, 0) := by unfold takeS; rw [if_pos h]
theorem takeS_in (l : List UInt8) (k : Nat) (h : k ≤ l.length) : takeS l k = takeAt l k := by
  unfold takeS; rw [if_neg (by omega)]; simp

/-- The ways of Take at a place inside: with a sign or without (m), where the digits begin (fr), and how many there are. -/
theorem takeAt_ways (l : List UInt8) (k : Nat) (m : Bool) (hm : (l[k]? == some 45) = m) (fr : Nat) (hfr : fr = if m then k + 1 else k)
    (many : Nat) (hmany : runL (l.drop fr) = many) :
    (many = 0 ∧ fr = l.length → takeAt l k = (0, 0, 5, (fr : Int))) ∧ (many = 0 ∧ fr ≠ l.length → takeAt l k = (0, 0, 19, (fr : Int)))
    ∧ (many ≠ 0 → l[fr]? = some 48 ∧ (1 < many ∨ m = true) → takeAt l k = (0, 0, 19, (k : Int)))
    ∧ (many ≠ 0 → ¬ (l[fr]? = some 48 ∧ (1 < many ∨ m = true)) → takeAt l k = if valB (numVal ((l.drop fr).take many) 0) m then (valN (numVal ((l.drop fr).take many) 0) m, (fr : Int) + many, 0, 0) else (0, 0, 13, (k : Int))) := by
  have e : takeAt l k = if many = 0 then (0, 0, if fr = l.length then 5 else 19, (fr : Int))
      else if l[fr]? = some 48 ∧ (1 < many ∨ m = true) then (0, 0, 19, (k : Int))
      else if valB (numVal ((l.drop fr).take many) 0) m then (valN (numVal ((l.drop fr).take many) 0) m, (fr : Int) + many, 0, 0) else (0, 0, 13, (k : Int)) := by
    unfold takeAt; simp only [hm, ← hfr, hmany]
  rw [e]
  refine ⟨fun ⟨h, h'⟩ => by rw [if_pos h, if_pos h'], fun ⟨h, h'⟩ => by rw [if_pos h, if_neg h'], fun h h' => by rw [if_neg h, if_pos h'], fun h h' => by rw [if_neg h, if_neg h']⟩

def parseS (l : List UInt8) : Int × Int × Int :=
  let r := takeS l 0
  if r.2.2.1 ≠ 0 then (0, r.2.2.1, r.2.2.2) else if r.2.1 < l.length then (0, 19, r.2.1) else (r.1, 0, 0)

end Bf
