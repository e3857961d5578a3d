/- Plain: documents: what is right, what is forced, the flat text, its columns, its groups. -/
import Derived.Test.YtkaeihlpdceokaaTreeDQ
import Derived.Test.YtkaeihlpdceokaaCells2Q
import Derived.Test.YtkaeihlpdceokaaBPL
set_option linter.unusedVariables false
set_option linter.unusedSimpArgs false
namespace Go.Proofs.Ytkaeihlpdceokaa
open Go.RowKit
inductive DocP where
 | mk (k n : Int) (s : List UInt8) (kids : List DocP)
mutual
def plD : DocA → DocP
 | .mk k n s _ _ kids => .mk k n s (plDs kids)
def plDs : List DocA → List DocP
 | [] => []
 | x :: l => plD x :: plDs l
end
theorem plDs_len : ∀ (a : List DocA), (plDs a).length = a.length
 | [] => rfl
 | x :: a => by simp [plDs, plDs_len a]
theorem plDs_get : ∀ (a : List DocA) (i : Nat), (plDs a)[i]? = (a[i]?).map plD
 | [], i => by simp [plDs]
 | x :: a, 0 => by simp [plDs]
 | x :: a, i + 1 => by simp [plDs, plDs_get a i]
def ownD (k n : Int) (s : List UInt8) (m : Nat) : Bool :=
 if k = 1 then decide (n = 0) && decide (m = 0) && validB s && !decide ((10 : UInt8) ∈ s)
 else if k = 2 ∨ k = 3 ∨ k = 4 then decide (s = []) && decide (n = 0) && decide (m = 0)
 else if k = 5 ∨ k = 7 then decide (s = []) && decide (n = 0)
 else if k = 6 then decide (s = []) && decide (0 ≤ n) && decide (n ≤ 16)
 else false
mutual
def rightD : DocP → Bool
 | .mk k n s l => ownD k n s l.length && rightDs l
def rightDs : List DocP → Bool
 | [] => true
 | x :: l => rightD x && rightDs l
end
mutual
def blkD : DocP → Nat
 | .mk _ _ s l => 1 + s.length + blkDs l
def blkDs : List DocP → Nat
 | [] => 0
 | x :: l => blkD x + blkDs l
end
theorem rightDs_app : ∀ (a b : List DocP), rightDs (a ++ b) = (rightDs a && rightDs b)
 | [], b => rfl
 | x :: a, b => by simp [rightDs, rightDs_app a b, Bool.and_assoc]
theorem blkDs_app : ∀ (a b : List DocP), blkDs (a ++ b) = blkDs a + blkDs b
 | [], b => by simp [blkDs]
 | x :: a, b => by simp only [List.cons_append, blkDs, blkDs_app a b]; omega
theorem blkDs_mem : ∀ {l : List DocP} {x : DocP}, x ∈ l → blkD x ≤ blkDs l
 | y :: l, x, h => by
  simp only [List.mem_cons] at h
  simp only [blkDs]
  rcases h with rfl | h
  · omega
  · have := blkDs_mem h; omega
theorem blkDs_len : ∀ (l : List DocP), l.length ≤ blkDs l
 | [] => Nat.zero_le _
 | .mk k n s m :: l => by have := blkDs_len l; simp only [List.length_cons, blkDs, blkD]; omega
theorem blkDs_take (l : List DocP) (i : Nat) : blkDs (l.take i) ≤ blkDs l := by
 have h := blkDs_app (l.take i) (l.drop i)
 rw [List.take_append_drop] at h; omega
end Go.Proofs.Ytkaeihlpdceokaa