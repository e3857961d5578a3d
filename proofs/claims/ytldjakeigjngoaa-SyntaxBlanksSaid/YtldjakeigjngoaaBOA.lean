/- BOA: texts of this proof, joined by program: PlainOpt, PlainOpt2, OptIn. -/
import Derived.Test.YtldjakeigjngoaaBPU
import Derived.Test.YtldjakeigjngoaaBEX
/- Plain: options, of tokens, and their text. -/
set_option linter.unusedVariables false
set_option linter.unusedSimpArgs false
namespace Go.Proofs.Ytldjakeigjngoaa
open Go.RowKit Bf
abbrev OptT := Int × Int × Int × List UInt8
def zopt : OptT := (0, 0, 0, [])
def compactL : List UInt8 := [99, 111, 109, 112, 97, 99, 116]
def prettyL : List UInt8 := [112, 114, 101, 116, 116, 121]
def lineL : List UInt8 := [108, 105, 110, 101]
def widthL' : List UInt8 := [119, 105, 100, 116, 104]
def indentL : List UInt8 := [105, 110, 100, 101, 110, 116]
def modeL : List UInt8 := [109, 111, 100, 101]
def obsL : List UInt8 := [111, 98, 115, 101, 114, 118, 101, 114]
def modN (s : List UInt8) : Int := if s = compactL then 1 else if s = prettyL then 2 else if s = lineL then 3 else 0
def whN (s : List UInt8) : Int := if s = widthL' then 0 else if s = indentL then 1 else if s = modeL then 2 else if s = obsL then 3 else 4
def widB (n : Int) : Bool := decide (1 ≤ n) && decide (n ≤ 1000)
def indB (n : Int) : Bool := decide (0 ≤ n) && decide (n ≤ 16)
def oddE (t : TokT) : Int × Int := (if t.1 = 0 then 5 else 4, t.2.1)
def putO (k : Int) (o : OptT) (v : TokT) : OptT × Int × Int :=
 if k = 0 then (if v.1 ≠ 2 then (o, oddE v) else if widB v.2.2.2.2 = true then ((v.2.2.2.2, o.2), 0, 0) else (o, 20, v.2.1))
 else if k = 1 then (if v.1 ≠ 2 then (o, oddE v) else if indB v.2.2.2.2 = true then ((o.1, v.2.2.2.2, o.2.2), 0, 0) else (o, 20, v.2.1))
 else if k = 2 then (if v.1 ≠ 1 then (o, oddE v) else if modN v.2.2.2.1 = 0 then (o, 9, v.2.1) else ((o.1, o.2.1, modN v.2.2.2.1, o.2.2.2), 0, 0))
 else (if v.1 ≠ 1 then (o, oddE v) else ((o.1, o.2.1, o.2.2.1, v.2.2.2.1), 0, 0))
def optL : List TokT → OptT → List Bool → OptT × Int × Int
 | [], o, _ => (o, 0, 0)
 | [t], o, _ => if t.1 = 0 then (o, 0, 0) else (zopt, oddE t)
 | [t, u], o, had => if t.1 = 0 then (o, 0, 0) else if t.1 ≠ 1 then (zopt, oddE t) else if whN t.2.2.2.1 = 4 then (zopt, 9, t.2.1) else if had.getD (whN t.2.2.2.1).toNat false = true then (zopt, 10, t.2.1) else (zopt, oddE u)
 | t :: u :: v :: r, o, had => if t.1 = 0 then (o, 0, 0) else if t.1 ≠ 1 then (zopt, oddE t) else if whN t.2.2.2.1 = 4 then (zopt, 9, t.2.1) else if had.getD (whN t.2.2.2.1).toNat false = true then (zopt, 10, t.2.1)
  else if ¬ (u.1 = 4 ∧ u.2.2.2.1 = [61]) then (zopt, oddE u)
  else if (putO (whN t.2.2.2.1) o v).2.1 ≠ 0 then (zopt, (putO (whN t.2.2.2.1) o v).2) else optL r (putO (whN t.2.2.2.1) o v).1 (had.set (whN t.2.2.2.1).toNat true)
/-! ### One part -/
section
variable {l : List TokT} {i : Nat} {o : OptT} {had : List Bool} {R : OptT × Int × Int} {t u v : TokT}
theorem drop_get (h : l[i]? = some t) : l.drop i = t :: l.drop (i + 1) := by
 obtain ⟨hlt, rfl⟩ := List.getElem?_eq_some_iff.1 h
 exact List.drop_eq_getElem_cons hlt
theorem opt_bad (h : optL (l.drop i) o had = R) (ht : l[i]? = some t) (hu : l[i + 1]? = some u) (hv : l[i + 2]? = some v) (h1 : t.1 = 1) (h2 : whN t.2.2.2.1 ≠ 4) (h3 : had.getD (whN t.2.2.2.1).toNat false = false) (h4 : u.1 = 4 ∧ u.2.2.2.1 = [61])
 (h5 : (putO (whN t.2.2.2.1) o v).2.1 ≠ 0) : R = (zopt, (putO (whN t.2.2.2.1) o v).2) := by
 subst h
 rw [drop_get ht, drop_get hu, drop_get hv]
 rw [List.getD_eq_getElem?_getD] at h3
 simp only [optL]; rw [if_neg (by omega), if_neg (by omega), if_neg h2, if_neg (by simp [h3]), if_neg (fun h => h h4), if_pos h5]
theorem opt_step (h : optL (l.drop i) o had = R) (ht : l[i]? = some t) (hu : l[i + 1]? = some u) (hv : l[i + 2]? = some v) (h1 : t.1 = 1) (h2 : whN t.2.2.2.1 ≠ 4) (h3 : had.getD (whN t.2.2.2.1).toNat false = false) (h4 : u.1 = 4 ∧ u.2.2.2.1 = [61])
 (h5 : (putO (whN t.2.2.2.1) o v).2.1 = 0) : optL (l.drop (i + 3)) (putO (whN t.2.2.2.1) o v).1 (had.set (whN t.2.2.2.1).toNat true) = R := by
 subst h
 rw [drop_get ht, drop_get hu, drop_get hv]
 rw [List.getD_eq_getElem?_getD] at h3
 simp only [optL]; rw [if_neg (by omega), if_neg (by omega), if_neg h2, if_neg (by simp [h3]), if_neg (fun h => h h4), if_neg (by omega)]
end
/-! ### What is read is right -/
/-! ### The text of options -/
end Go.Proofs.Ytldjakeigjngoaa
/- Plain: options, as the document reads them. -/
namespace Go.Proofs.Ytldjakeigjngoaa
open Go.RowKit Bf
theorem whN_ways (s : List UInt8) : (whN s = 0 ∧ s = widthL') ∨ (whN s = 1 ∧ s = indentL) ∨ (whN s = 2 ∧ s = modeL) ∨ (whN s = 3 ∧ s = obsL) ∨ (whN s = 4 ∧ s ≠ widthL' ∧ s ≠ indentL ∧ s ≠ modeL ∧ s ≠ obsL) := by
 unfold whN
 by_cases h1 : s = widthL'
 · subst h1; exact .inl ⟨rfl, rfl⟩
 · by_cases h2 : s = indentL
   · subst h2; exact .inr (.inl ⟨rfl, rfl⟩)
   · by_cases h3 : s = modeL
     · subst h3; exact .inr (.inr (.inl ⟨rfl, rfl⟩))
     · by_cases h4 : s = obsL
       · subst h4; exact .inr (.inr (.inr (.inl ⟨rfl, rfl⟩)))
       · exact .inr (.inr (.inr (.inr ⟨by rw [if_neg h1, if_neg h2, if_neg h3, if_neg h4], h1, h2, h3, h4⟩)))
end Go.Proofs.Ytldjakeigjngoaa
/- Options that a law is given. -/
namespace Go.Proofs.Ytldjakeigjngoaa
open Go.RowKit Go.Deep Bf
section
variable {H : Type} {enc : TypeId × Value → H} {w : World} {base : Nat} {spare : Nat → Bool} {held : Bool}
end
end Go.Proofs.Ytldjakeigjngoaa