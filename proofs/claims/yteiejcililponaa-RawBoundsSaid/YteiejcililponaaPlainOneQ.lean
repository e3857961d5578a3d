/- Plain: how escapes are read. -/
import Derived.Test.YteiejcililponaaBPL
import Derived.Test.YteiejcililponaaUtf6Q
import Derived.Test.YteiejcililponaaEscQ
import Derived.Lib.Bytealg
set_option linter.unusedVariables false
set_option linter.unusedSimpArgs false
namespace Go.Proofs.Yteiejcililponaa
open Go.RowKit Bf
def hexV (c : Nat) : Option Nat :=
  if 48 ≤ c ∧ c ≤ 57 then some (c - 48) else if 97 ≤ c ∧ c ≤ 102 then some (c - 87) else if 65 ≤ c ∧ c ≤ 70 then some (c - 55) else none
theorem hexV_lt {c d : Nat} (h : hexV c = some d) : d < 16 := by
  unfold hexV at h
  split at h
  · cases h; omega
  · split at h
    · cases h; omega
    · split at h
      · cases h; omega
      · cases h
def numV : Nat → List UInt8 → Option Nat
  | n, [] => some n
  | n, c :: l => match hexV c.toNat with
    | some d => numV (n * 16 + d) l
    | none => none
def numL (l : List UInt8) : Option Nat := if l = [] then none else numV 0 l
theorem numV_some {n d : Nat} {c : UInt8} {l : List UInt8} (h : hexV c.toNat = some d) : numV n (c :: l) = numV (n * 16 + d) l := by simp only [numV, h]
theorem numV_none {n : Nat} {c : UInt8} {l : List UInt8} (h : hexV c.toNat = none) : numV n (c :: l) = none := by simp only [numV, h]
theorem numV_lt : ∀ (l : List UInt8) (k n m : Nat), n < 16 ^ k → numV n l = some m → m < 16 ^ (k + l.length)
  | [], k, n, m, h, e => by cases e; exact h
  | c :: l, k, n, m, h, e => by
    cases hc : hexV c.toNat with
    | none => rw [numV_none hc] at e; cases e
    | some d =>
      rw [numV_some hc] at e
      have hd := hexV_lt hc
      have := numV_lt l (k + 1) (n * 16 + d) m (by rw [Nat.pow_succ]; omega) e
      rw [List.length_cons, show k + (l.length + 1) = k + 1 + l.length by omega]; exact this
theorem numL_lt (l : List UInt8) (m : Nat) (hl : l.length ≤ 7) (h : numL l = some m) : m < 268435456 := by
  unfold numL at h
  split at h
  · cases h
  · have := numV_lt l 0 0 m (by simp) h
    have h2 : 16 ^ (0 + l.length) ≤ 16 ^ 7 := Nat.pow_le_pow_right (by decide) (by omega)
    have h3 : 16 ^ 7 = 268435456 := by decide
    omega
theorem numL_lt2 (l : List UInt8) (m : Nat) (hl : l.length ≤ 2) (h : numL l = some m) : m < 256 := by
  unfold numL at h
  split at h
  · cases h
  · have := numV_lt l 0 0 m (by simp) h
    have h2 : 16 ^ (0 + l.length) ≤ 16 ^ 2 := Nat.pow_le_pow_right (by decide) (by omega)
    have h3 : 16 ^ 2 = 256 := by decide
    omega
/-! the first place of a byte -/
theorem ib_nil (c : UInt8) : Go.Lib.indexByte [] c = -1 := rfl
theorem ib_here (c : UInt8) (l : List UInt8) : Go.Lib.indexByte (c :: l) c = 0 := by unfold Go.Lib.indexByte; simp
theorem ib_there (b c : UInt8) (l : List UInt8) (h : b ≠ c) : Go.Lib.indexByte (b :: l) c = if Go.Lib.indexByte l c = -1 then -1 else Go.Lib.indexByte l c + 1 := by
  rw [Go.Lib.indexByte, if_neg (by simp [h])]
  by_cases h1 : Go.Lib.indexByte l c = -1
  · rw [if_pos h1, if_pos (by simp [h1])]
  · rw [if_neg h1, if_neg (by simp [h1])]
theorem ib_lt : ∀ (l : List UInt8) (c : UInt8), -1 ≤ Go.Lib.indexByte l c ∧ Go.Lib.indexByte l c < l.length
  | [], c => by rw [ib_nil]; simp
  | b :: l, c => by
    have ih := ib_lt l c
    by_cases h : b = c
    · subst h; rw [ib_here]; simp only [List.length_cons]; omega
    · rw [ib_there b c l h]; simp only [List.length_cons]; split <;> omega
/-- Where it is: there, and nowhere ahead. -/
theorem ib_found : ∀ (l : List UInt8) (c : UInt8) (k : Nat), Go.Lib.indexByte l c = k ↔ (l[k]? = some c ∧ ∀ j, j < k → l[j]? ≠ some c)
  | [], c, k => by rw [ib_nil]; simp
  | b :: l, c, k => by
    have ih := ib_found l c
    have hlt := ib_lt l c
    by_cases h : b = c
    · subst h; rw [ib_here]
      constructor
      · intro e; have : k = 0 := by omega
        subst this; exact ⟨rfl, fun j hj => by omega⟩
      · rintro ⟨_, h2⟩
        cases k with
        | zero => rfl
        | succ k => exact absurd rfl (h2 0 (by omega))
    · rw [ib_there b c l h]
      cases k with
      | zero =>
        constructor
        · intro e; split at e <;> omega
        · rintro ⟨h1, _⟩; simp only [List.getElem?_cons_zero, Option.some.injEq] at h1; exact absurd h1 h
      | succ k =>
        have := ih k
        constructor
        · intro e
          split at e
          · omega
          · obtain ⟨h1, h2⟩ := this.1 (by omega)
            refine ⟨by simpa using h1, fun j hj => ?_⟩
            cases j with
            | zero => simp; exact h
            | succ j => simpa using h2 j (by omega)
        · rintro ⟨h1, h2⟩
          have := this.2 ⟨by simpa using h1, fun j hj => by simpa using h2 (j + 1) (by omega)⟩
          rw [if_neg (by omega)]; omega
/-! escapes -/
/-- Of a scalar in braces, what it is, and its bytes. -/
def scalarL (l : List UInt8) : List UInt8 × Nat :=
  if l ≠ [] ∧ bt l 0 = 123 ∧ 0 ≤ Go.Lib.indexByte l 125 ∧ Go.Lib.indexByte l 125 ≤ 7 then
    match numL ((l.drop 1).take (Go.Lib.indexByte l 125 - 1).toNat) with
    | some n => (encL n, (Go.Lib.indexByte l 125).toNat + 1)
    | none => ([], 0)
  else ([], 0)
def oneT (c : Nat) (l : List UInt8) : List UInt8 × Nat :=
  if c = 34 ∨ c = 92 then ([UInt8.ofNat c], 2) else if c = 116 then ([9], 2) else if c = 110 then ([10], 2) else if c = 114 then ([13], 2)
  else if c = 120 then (if l.length < 2 then ([], 0) else match numL (l.take 2) with
    | some n => ([UInt8.ofNat n], 4)
    | none => ([], 0))
  else if c = 117 then (if (scalarL l).1 = [] then ([], 0) else ((scalarL l).1, 2 + (scalarL l).2))
  else ([], 0)
/-- What the escape at the head stands for, and its bytes; 0: there is none. -/
def oneL : List UInt8 → List UInt8 × Nat
  | a :: c :: l => if a.toNat = 92 then oneT c.toNat l else ([], 0)
  | _ => ([], 0)
theorem oneL_cons (a c : UInt8) (l : List UInt8) : oneL (a :: c :: l) = if a.toNat = 92 then oneT c.toNat l else ([], 0) := rfl
theorem scalarL_bd (l : List UInt8) : (scalarL l).1.length ≤ 4 ∧ (scalarL l).2 ≤ l.length ∧ (scalarL l).2 ≤ 8 := by
  unfold scalarL
  have hib := ib_lt l 125
  split
  · rename_i h
    split
    · refine ⟨encL_len _, ?_, ?_⟩
      · simp only; omega
      · simp only; omega
    · simp
  · simp
theorem oneT_bd (c : Nat) (l : List UInt8) : (oneT c l).1.length ≤ 4 ∧ (oneT c l).2 ≤ l.length + 2 ∧ (oneT c l).2 ≤ 10 ∧ ((oneT c l).2 = 0 ∨ 2 ≤ (oneT c l).2) ∧ ((oneT c l).2 = 0 → (oneT c l).1 = []) := by
  unfold oneT
  have hs := scalarL_bd l
  split
  · simp
  · split
    · simp
    · split
      · simp
      · split
        · simp
        · split
          · split
            · simp
            · split
              · simp; omega
              · simp
          · split
            · split
              · simp
              · simp only; refine ⟨hs.1, by omega, by omega, .inr (by omega), fun h => by omega⟩
            · simp
theorem oneL_bd (l : List UInt8) : (oneL l).1.length ≤ 4 ∧ (oneL l).2 ≤ l.length ∧ (oneL l).2 ≤ 10 ∧ ((oneL l).2 = 0 ∨ 2 ≤ (oneL l).2) ∧ ((oneL l).2 = 0 → (oneL l).1 = []) := by
  match l with
  | [] => simp [oneL]
  | [a] => simp [oneL]
  | a :: c :: l =>
    rw [oneL_cons]
    split
    · have := oneT_bd c.toNat l; simp only [List.length_cons]; exact ⟨this.1, by omega, this.2.2.1, this.2.2.2.1, this.2.2.2.2⟩
    · simp
theorem oneL_no (l : List UInt8) (h : l.length < 2 ∨ bt l 0 ≠ 92) : oneL l = ([], 0) := by
  match l with
  | [] => rfl
  | [a] => rfl
  | a :: c :: l =>
    have h2 : bt (a :: c :: l) 0 ≠ 92 := by rcases h with h | h; · simp at h; omega
                                            · exact h
    have e : bt (a :: c :: l) 0 = (a.toNat : Int) := rfl
    rw [oneL_cons, if_neg (by omega)]
def oneAt (q : List UInt8) (i : Int) : List UInt8 × Nat := if i < 0 ∨ (q.length : Int) ≤ i then ([], 0) else oneL (q.drop i.toNat)
/-! the reference's way -/
end Go.Proofs.Yteiejcililponaa
