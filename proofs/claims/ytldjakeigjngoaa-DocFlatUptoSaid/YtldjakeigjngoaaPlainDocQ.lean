/- Plain: documents: what is right, what is forced, the flat text, its columns, its groups. -/
import Derived.Test.YtldjakeigjngoaaTreeDQ
import Derived.Test.YtldjakeigjngoaaCells2Q
import Derived.Test.YtldjakeigjngoaaBPL
set_option linter.unusedVariables false
set_option linter.unusedSimpArgs false
namespace Go.Proofs.Ytldjakeigjngoaa
open Go.RowKit
/-- A document, wherever it lies. -/
inductive DocP where
  | mk (k n : Int) (s : List UInt8) (kids : List DocP)
mutual
def plD : DocA → DocP
  | .mk k n s _ _ kids => .mk k n s (plDs kids)
def plDs : List DocA → List DocP
  | [] => []
  | x :: l => plD x :: plDs l
end
theorem plDs_len : ∀ (a : List DocA), (plDs a).length = a.length
  | [] => rfl
  | x :: a => by simp [plDs, plDs_len a]
theorem plDs_get : ∀ (a : List DocA) (i : Nat), (plDs a)[i]? = (a[i]?).map plD
  | [], i => by simp [plDs]
  | x :: a, 0 => by simp [plDs]
  | x :: a, i + 1 => by simp [plDs, plDs_get a i]
/-- Has a document just what is its own? -/
def ownD (k n : Int) (s : List UInt8) (m : Nat) : Bool :=
  if k = 1 then decide (n = 0) && decide (m = 0) && validB s && !decide ((10 : UInt8) ∈ s)
  else if k = 2 ∨ k = 3 ∨ k = 4 then decide (s = []) && decide (n = 0) && decide (m = 0)
  else if k = 5 ∨ k = 7 then decide (s = []) && decide (n = 0)
  else if k = 6 then decide (s = []) && decide (0 ≤ n) && decide (n ≤ 16)
  else false
mutual
def rightD : DocP → Bool
  | .mk k n s l => ownD k n s l.length && rightDs l
def rightDs : List DocP → Bool
  | [] => true
  | x :: l => rightD x && rightDs l
end
mutual
def forceD : DocP → Bool
  | .mk k _ _ l => decide (k = 4) || forceDs l
def forceDs : List DocP → Bool
  | [] => false
  | x :: l => forceD x || forceDs l
end
mutual
def flatD : DocP → List UInt8
  | .mk k _ s l => (if k = 1 then s else if k = 2 then [32] else []) ++ flatDs l
def flatDs : List DocP → List UInt8
  | [] => []
  | x :: l => flatD x ++ flatDs l
end
mutual
def colD : DocP → Int
  | .mk k _ s l => (if k = 2 then 1 else widthL s) + colDs l
def colDs : List DocP → Int
  | [] => 0
  | x :: l => colD x + colDs l
end
mutual
def grpD : DocP → Int
  | .mk k _ _ l => (if k = 7 then 1 else 0) + grpDs l
def grpDs : List DocP → Int
  | [] => 0
  | x :: l => grpD x + grpDs l
end
mutual
/-- How many values and letters. -/
def blkD : DocP → Nat
  | .mk _ _ s l => 1 + s.length + blkDs l
def blkDs : List DocP → Nat
  | [] => 0
  | x :: l => blkD x + blkDs l
end
theorem rightDs_app : ∀ (a b : List DocP), rightDs (a ++ b) = (rightDs a && rightDs b)
  | [], b => rfl
  | x :: a, b => by simp [rightDs, rightDs_app a b, Bool.and_assoc]
theorem forceDs_app : ∀ (a b : List DocP), forceDs (a ++ b) = (forceDs a || forceDs b)
  | [], b => rfl
  | x :: a, b => by simp [forceDs, forceDs_app a b, Bool.or_assoc]
theorem flatDs_app : ∀ (a b : List DocP), flatDs (a ++ b) = flatDs a ++ flatDs b
  | [], b => rfl
  | x :: a, b => by simp [flatDs, flatDs_app a b]
theorem colDs_app : ∀ (a b : List DocP), colDs (a ++ b) = colDs a + colDs b
  | [], b => by simp [colDs]
  | x :: a, b => by simp only [List.cons_append, colDs, colDs_app a b]; omega
theorem grpDs_app : ∀ (a b : List DocP), grpDs (a ++ b) = grpDs a + grpDs b
  | [], b => by simp [grpDs]
  | x :: a, b => by simp only [List.cons_append, grpDs, grpDs_app a b]; omega
theorem blkDs_app : ∀ (a b : List DocP), blkDs (a ++ b) = blkDs a + blkDs b
  | [], b => by simp [blkDs]
  | x :: a, b => by simp only [List.cons_append, blkDs, blkDs_app a b]; omega
theorem blkDs_mem : ∀ {l : List DocP} {x : DocP}, x ∈ l → blkD x ≤ blkDs l
  | y :: l, x, h => by
    simp only [List.mem_cons] at h
    simp only [blkDs]
    rcases h with rfl | h
    · omega
    · have := blkDs_mem h; omega
theorem blkDs_take (l : List DocP) (i : Nat) : blkDs (l.take i) ≤ blkDs l := by
  have h := blkDs_app (l.take i) (l.drop i)
  rw [List.take_append_drop] at h; omega
mutual
theorem flatD_le : ∀ (x : DocP), (flatD x).length ≤ blkD x
  | .mk k n s l => by
    have h1 := flatDs_le l
    have h2 : (if k = 1 then s else if k = 2 then [32] else [] : List UInt8).length ≤ 1 + s.length := by
      split
      · omega
      · split <;> simp
    simp only [flatD, blkD, List.length_append]; omega
theorem flatDs_le : ∀ (l : List DocP), (flatDs l).length ≤ blkDs l
  | [] => Nat.le_refl _
  | x :: l => by
    have h1 := flatD_le x
    have h2 := flatDs_le l
    simp only [flatDs, blkDs, List.length_append]; omega
end
mutual
theorem colD_bd : ∀ (x : DocP), 0 ≤ colD x ∧ colD x ≤ 2 * blkD x
  | .mk k n s l => by
    have h1 := colDs_bd l
    have h3 := widthL_bd _ s (Nat.le_refl _)
    simp only [colD, blkD]
    split <;> omega
theorem colDs_bd : ∀ (l : List DocP), 0 ≤ colDs l ∧ colDs l ≤ 2 * blkDs l
  | [] => ⟨Int.le_refl _, by simp [colDs, blkDs]⟩
  | x :: l => by
    have h1 := colD_bd x
    have h2 := colDs_bd l
    simp only [colDs, blkDs]; omega
end
mutual
theorem grpD_bd : ∀ (x : DocP), 0 ≤ grpD x ∧ grpD x ≤ blkD x
  | .mk k n s l => by
    have h1 := grpDs_bd l
    simp only [grpD, blkD]
    split <;> omega
theorem grpDs_bd : ∀ (l : List DocP), 0 ≤ grpDs l ∧ grpDs l ≤ blkDs l
  | [] => ⟨Int.le_refl _, by simp [grpDs, blkDs]⟩
  | x :: l => by
    have h1 := grpD_bd x
    have h2 := grpDs_bd l
    simp only [grpDs, blkDs]; omega
end
end Go.Proofs.Ytldjakeigjngoaa
