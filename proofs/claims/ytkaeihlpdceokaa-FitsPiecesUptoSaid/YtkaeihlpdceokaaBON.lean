/- BON: texts of this proof, joined by program: PlainOne, One. -/
import Derived.Test.YtkaeihlpdceokaaBPL
import Derived.Test.YtkaeihlpdceokaaBUB
import Derived.Test.YtkaeihlpdceokaaEscQ
import Derived.Lib.Bytealg
import Derived.Test.YtkaeihlpdceokaaBU3
/- Plain: how escapes are read. -/
set_option linter.unusedVariables false
set_option linter.unusedSimpArgs false
namespace Go.Proofs.Ytkaeihlpdceokaa
open Go.RowKit Bf
def hexV (c : Nat) : Option Nat :=
 if 48 ≤ c ∧ c ≤ 57 then some (c - 48) else if 97 ≤ c ∧ c ≤ 102 then some (c - 87) else if 65 ≤ c ∧ c ≤ 70 then some (c - 55) else none
theorem hexV_lt {c d : Nat} (h : hexV c = some d) : d < 16 := by
 unfold hexV at h
 split at h
 · cases h; omega
 · split at h
   · cases h; omega
   · split at h
     · cases h; omega
     · cases h
def numV : Nat → List UInt8 → Option Nat
 | n, [] => some n
 | n, c :: l => match hexV c.toNat with
  | some d => numV (n * 16 + d) l
  | none => none
def numL (l : List UInt8) : Option Nat := if l = [] then none else numV 0 l
theorem numV_some {n d : Nat} {c : UInt8} {l : List UInt8} (h : hexV c.toNat = some d) : numV n (c :: l) = numV (n * 16 + d) l := by simp only [numV, h]
/-! the first place of a byte -/
theorem ib_nil (c : UInt8) : Go.Lib.indexByte [] c = -1 := rfl
theorem ib_here (c : UInt8) (l : List UInt8) : Go.Lib.indexByte (c :: l) c = 0 := by unfold Go.Lib.indexByte; simp
theorem ib_there (b c : UInt8) (l : List UInt8) (h : b ≠ c) : Go.Lib.indexByte (b :: l) c = if Go.Lib.indexByte l c = -1 then -1 else Go.Lib.indexByte l c + 1 := by
 rw [Go.Lib.indexByte, if_neg (by simp [h])]
 by_cases h1 : Go.Lib.indexByte l c = -1
 · rw [if_pos h1, if_pos (by simp [h1])]
 · rw [if_neg h1, if_neg (by simp [h1])]
theorem ib_lt : ∀ (l : List UInt8) (c : UInt8), -1 ≤ Go.Lib.indexByte l c ∧ Go.Lib.indexByte l c < l.length
 | [], c => by rw [ib_nil]; simp
 | b :: l, c => by
  have ih := ib_lt l c
  by_cases h : b = c
  · subst h; rw [ib_here]; simp only [List.length_cons]; omega
  · rw [ib_there b c l h]; simp only [List.length_cons]; split <;> omega
/-! escapes -/
def scalarL (l : List UInt8) : List UInt8 × Nat :=
 if l ≠ [] ∧ bt l 0 = 123 ∧ 0 ≤ Go.Lib.indexByte l 125 ∧ Go.Lib.indexByte l 125 ≤ 7 then
  match numL ((l.drop 1).take (Go.Lib.indexByte l 125 - 1).toNat) with
  | some n => (encL n, (Go.Lib.indexByte l 125).toNat + 1)
  | none => ([], 0)
 else ([], 0)
def oneT (c : Nat) (l : List UInt8) : List UInt8 × Nat :=
 if c = 34 ∨ c = 92 then ([UInt8.ofNat c], 2) else if c = 116 then ([9], 2) else if c = 110 then ([10], 2) else if c = 114 then ([13], 2)
 else if c = 120 then (if l.length < 2 then ([], 0) else match numL (l.take 2) with
  | some n => ([UInt8.ofNat n], 4)
  | none => ([], 0))
 else if c = 117 then (if (scalarL l).1 = [] then ([], 0) else ((scalarL l).1, 2 + (scalarL l).2))
 else ([], 0)
def oneL : List UInt8 → List UInt8 × Nat
 | a :: c :: l => if a.toNat = 92 then oneT c.toNat l else ([], 0)
 | _ => ([], 0)
theorem oneL_cons (a c : UInt8) (l : List UInt8) : oneL (a :: c :: l) = if a.toNat = 92 then oneT c.toNat l else ([], 0) := rfl
theorem scalarL_bd (l : List UInt8) : (scalarL l).1.length ≤ 4 ∧ (scalarL l).2 ≤ l.length ∧ (scalarL l).2 ≤ 8 := by
 unfold scalarL
 have hib := ib_lt l 125
 split
 · rename_i h
   split
   · refine ⟨encL_len _, ?_, ?_⟩
     · simp only; omega
     · simp only; omega
   · simp
 · simp
theorem oneT_bd (c : Nat) (l : List UInt8) : (oneT c l).1.length ≤ 4 ∧ (oneT c l).2 ≤ l.length + 2 ∧ (oneT c l).2 ≤ 10 ∧ ((oneT c l).2 = 0 ∨ 2 ≤ (oneT c l).2) ∧ ((oneT c l).2 = 0 → (oneT c l).1 = []) := by
 unfold oneT
 have hs := scalarL_bd l
 split
 · simp
 · split
   · simp
   · split
     · simp
     · split
       · simp
       · split
         · split
           · simp
           · split
             · simp; omega
             · simp
         · split
           · split
             · simp
             · simp only; refine ⟨hs.1, by omega, by omega, .inr (by omega), fun h => by omega⟩
           · simp
theorem oneL_bd (l : List UInt8) : (oneL l).1.length ≤ 4 ∧ (oneL l).2 ≤ l.length ∧ (oneL l).2 ≤ 10 ∧ ((oneL l).2 = 0 ∨ 2 ≤ (oneL l).2) ∧ ((oneL l).2 = 0 → (oneL l).1 = []) := by
 match l with
 | [] => simp [oneL]
 | [a] => simp [oneL]
 | a :: c :: l =>
  rw [oneL_cons]
  split
  · have := oneT_bd c.toNat l; simp only [List.length_cons]; exact ⟨this.1, by omega, this.2.2.1, this.2.2.2.1, this.2.2.2.2⟩
  · simp
/-! the reference's way -/
theorem bt_some (l : List UInt8) (j : Nat) (hj : j < l.length) (k : UInt8) : bt l j = (k.toNat : Int) ↔ l[j]? = some k := by
 rw [List.getElem?_eq_getElem hj]
 unfold bt; rw [List.getD_eq_getElem?_getD, Int.toNat_natCast, List.getElem?_eq_getElem hj]
 simp only [Option.getD_some, Option.some.injEq]
 constructor
 · intro h; exact UInt8.toNat_inj.1 (by omega)
 · rintro h; rw [h]
end Go.Proofs.Ytkaeihlpdceokaa
/- Contracts: escape.digit, number, scalar, One; strings.IndexByte; utf.Encode over lists. -/
namespace Go.Proofs.Ytkaeihlpdceokaa
open Go.RowKit Bf
section
variable {C : Cx} {fr : Fr} {hp : List En} {dst : Option Tmp} {ty : TypeId} {pos : String} {aft : Array Edge} {g : Option (Nat × Bool)}
end
theorem pow16_le (k : Nat) (h : k ≤ 6) : 16 ^ k ≤ 16777216 := by
 have h2 : 16 ^ k ≤ 16 ^ 6 := Nat.pow_le_pow_right (by decide) h
 have h3 : 16 ^ 6 = 16777216 := by decide
 omega
structure NumInv (s : List UInt8) (i n : Int) : Prop where
 i0 : 0 ≤ i
 i1 : i ≤ s.length
 n0 : 0 ≤ n
 lt : n.toNat < 16 ^ i.toNat
 eq : numV 0 s = numV n.toNat (s.drop i.toNat)
theorem NumInv.step {s : List UInt8} {i n : Int} (h : NumInv s i n) (hlt : i < s.length) {d : Nat} (hd : hexV (bt s i).toNat = some d) : NumInv s (i + 1) (n * 16 + d) := by
 have i0 := h.i0
 have n0 := h.n0
 have hl := h.lt
 obtain ⟨c, l, hdr, hb⟩ := bt_nat s i i0 hlt
 have h16 := hexV_lt hd
 rw [hb, Int.toNat_natCast] at hd
 have he := h.eq
 rw [hdr, numV_some hd] at he
 have e1 : (i + 1).toNat = i.toNat + 1 := by omega
 have hdr2 : s.drop (i + 1).toNat = l := by rw [e1, ← List.drop_drop, hdr]; rfl
 refine ⟨by omega, by omega, by omega, ?_, ?_⟩
 · rw [e1, Nat.pow_succ]; omega
 · rw [he, hdr2, show (n * 16 + (d : Int)).toNat = n.toNat * 16 + d by omega]
theorem NumInv.bd {s : List UInt8} {i n : Int} (h : NumInv s i n) (hi : i.toNat ≤ 6) : n < 16777216 := by
 have := pow16_le _ hi; have := h.lt; have := h.n0; omega
end Go.Proofs.Ytkaeihlpdceokaa