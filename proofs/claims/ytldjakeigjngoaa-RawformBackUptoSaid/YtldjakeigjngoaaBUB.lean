/- BUB: texts of this proof, joined by program: Utf5, Utf6, Utf7. -/
import Derived.Test.YtldjakeigjngoaaBU3
import Derived.Test.YtldjakeigjngoaaBBA
import Derived.Test.YtldjakeigjngoaaBPL
import Derived.Deep.RegionWith
import Derived.Deep.QuietTactic
import Derived.BigQuiet
/- Contracts: the reference's reckoned, begins, left. -/
set_option linter.unusedVariables false
set_option linter.unusedSimpArgs false
namespace Go.Proofs.Ytldjakeigjngoaa
open Go.RowKit Bf
def beginsB (n : Int) (p : List UInt8) : Bool := decide (p.length < (encL n).length) && ((encL n).take p.length == p)
def extL (c : UInt8) (p : List UInt8) (j : Nat) : List UInt8 := p ++ List.replicate (min j (4 - p.length)) c
def chkB (p : List UInt8) (j : Nat) : Bool := decide (p.length < (extL 128 p j).length) && (beginsB (reckL (extL 128 p j)) p || beginsB (reckL (extL 191 p j)) p)
def leftFrom (p : List UInt8) (j : Nat) : Bool := (decide (j ≤ 0) && chkB p 0) || (decide (j ≤ 1) && chkB p 1) || (decide (j ≤ 2) && chkB p 2) || (decide (j ≤ 3) && chkB p 3)
end Go.Proofs.Ytldjakeigjngoaa
/- Contracts: the reference's Decode. -/
namespace Go.Proofs.Ytldjakeigjngoaa
open Go.RowKit Bf
theorem begins_true {n : Int} {p : List UInt8} (h : beginsB n p = true) : scalarB n = true ∧ ∃ r, r ≠ [] ∧ encL n = p ++ r := by
 unfold beginsB at h; simp at h
 obtain ⟨h1, h2⟩ := h
 refine ⟨?_, (encL n).drop p.length, ?_, ?_⟩
 · cases hs : scalarB n
   · rw [encL_no n hs] at h1; simp at h1
   · rfl
 · intro e; have := congrArg List.length e; simp at this; omega
 · have e := List.take_append_drop p.length (encL n); rw [h2] at e; exact e.symm
theorem begins_mk {n : Int} {p r : List UInt8} (h : encL n = p ++ r) (hr : r ≠ []) : beginsB n p = true := by
 unfold beginsB; rw [h]; simp; exact List.length_pos_iff.2 hr
theorem begins_2 {n : Int} {a b : UInt8} (h : beginsB n [a, b] = true) : 3 ≤ want a ∧ good2 a b := by
 obtain ⟨hs, r, hr, e⟩ := begins_true h
 have d := dec_enc n [] hs
 rw [List.append_nil, e] at d
 have hlen : 3 ≤ ([a, b] ++ r).length := by have := List.length_pos_iff.2 hr; simp; omega
 rcases want_cases a with ⟨h1, _⟩ | ⟨h1, _⟩ | ⟨h1, _⟩ | ⟨h1, _⟩ | ⟨h1, _⟩
 · rw [List.cons_append, decS_0 a _ h1] at d; simp at d
 · rw [List.cons_append, decS_1 a _ h1] at d; simp at d
 all_goals
  by_cases hg : good2 a b
  · first
     | (rw [List.cons_append, List.cons_append, decS_2 a b _ h1 hg] at d; simp at d; exact absurd d.2 (by simpa using hr))
     | exact ⟨by omega, hg⟩
  · rw [List.cons_append, List.cons_append, decS_bad2 a b _ (by omega) hg] at d; simp at d
theorem begins_3 {n : Int} {a b c : UInt8} (h : beginsB n [a, b, c] = true) : want a = 4 ∧ good2 a b ∧ cont c := by
 obtain ⟨hs, r, hr, e⟩ := begins_true h
 have d := dec_enc n [] hs
 rw [List.append_nil, e] at d
 rcases want_cases a with ⟨h1, _⟩ | ⟨h1, _⟩ | ⟨h1, _⟩ | ⟨h1, _⟩ | ⟨h1, _⟩
 · rw [List.cons_append, decS_0 a _ h1] at d; simp at d
 · rw [List.cons_append, decS_1 a _ h1] at d; simp at d
 all_goals
  by_cases hg : good2 a b
  · first
     | (rw [List.cons_append, List.cons_append, decS_2 a b _ h1 hg] at d; simp at d; done)
     | (rw [List.cons_append, List.cons_append, decS_2 a b _ h1 hg] at d; simp at d; omega)
     | (by_cases hc : cont c
        · first
           | exact ⟨h1, hg, hc⟩
           | (rw [List.cons_append, List.cons_append, List.cons_append, decS_3 a b c _ h1 hg hc] at d; simp at d; exact absurd d.2 (by simpa using hr))
        · rw [List.cons_append, List.cons_append, List.cons_append, decS_bad3 a b c _ (by omega) hg hc] at d; simp at d)
  · rw [List.cons_append, List.cons_append, decS_bad2 a b _ (by omega) hg] at d; simp at d
theorem isB_enc {p : List UInt8} (h : isB p = true) : encL (reckL p) = p := by unfold isB at h; simp at h; exact h.2
theorem left_2 (a b : UInt8) : leftFrom [a, b] 0 = decide (3 ≤ want a ∧ good2 a b) := by
 have c0 : chkB [a, b] 0 = false := by unfold chkB extL; simp
 have c1 : chkB [a, b] 1 = (beginsB (reckL [a, b, 128]) [a, b] || beginsB (reckL [a, b, 191]) [a, b]) := by unfold chkB extL; simp
 have c2 : chkB [a, b] 2 = (beginsB (reckL [a, b, 128, 128]) [a, b] || beginsB (reckL [a, b, 191, 191]) [a, b]) := by unfold chkB extL; simp
 have c3 : chkB [a, b] 3 = (beginsB (reckL [a, b, 128, 128]) [a, b] || beginsB (reckL [a, b, 191, 191]) [a, b]) := by unfold chkB extL; simp
 have k128 : cont 128 := by decide
 by_cases h : 3 ≤ want a ∧ good2 a b
 · have h4 : want a ≤ 4 := (leadS_bd a.toNat).2
   have : chkB [a, b] 1 = true ∨ chkB [a, b] 2 = true := by
    rcases (by omega : want a = 3 ∨ want a = 4) with e | e
    · have : isB [a, b, 128] = true := by rw [isB_3]; simp [e, h.2, k128]
      have hb := begins_mk (n := reckL [a, b, 128]) (p := [a, b]) (r := [128]) (isB_enc this) (by simp)
      left; rw [c1, hb, Bool.true_or]
    · have : isB [a, b, 128, 128] = true := by rw [isB_4]; simp [e, h.2, k128]
      have hb := begins_mk (n := reckL [a, b, 128, 128]) (p := [a, b]) (r := [128, 128]) (isB_enc this) (by simp)
      right; rw [c2, hb, Bool.true_or]
   unfold leftFrom; rcases this with e | e <;> rw [e] <;> simp [h]
 · have n1 : ∀ n, beginsB n [a, b] = false := by
    intro n; cases hb : beginsB n [a, b]
    · rfl
    · exact absurd (begins_2 hb) h
   unfold leftFrom; rw [c0, c1, c2, c3]; simp only [n1]; simp [h]
theorem left_3 (a b c : UInt8) : leftFrom [a, b, c] 0 = decide (want a = 4 ∧ good2 a b ∧ cont c) := by
 have c0 : chkB [a, b, c] 0 = false := by unfold chkB extL; simp
 have c1 : chkB [a, b, c] 1 = (beginsB (reckL [a, b, c, 128]) [a, b, c] || beginsB (reckL [a, b, c, 191]) [a, b, c]) := by unfold chkB extL; simp
 have c2 : chkB [a, b, c] 2 = (beginsB (reckL [a, b, c, 128]) [a, b, c] || beginsB (reckL [a, b, c, 191]) [a, b, c]) := by unfold chkB extL; simp
 have c3 : chkB [a, b, c] 3 = (beginsB (reckL [a, b, c, 128]) [a, b, c] || beginsB (reckL [a, b, c, 191]) [a, b, c]) := by unfold chkB extL; simp
 have k128 : cont 128 := by decide
 by_cases h : want a = 4 ∧ good2 a b ∧ cont c
 · have : isB [a, b, c, 128] = true := by rw [isB_4]; simp [h, k128]
   have hb := begins_mk (n := reckL [a, b, c, 128]) (p := [a, b, c]) (r := [128]) (isB_enc this) (by simp)
   rw [hb, Bool.true_or] at c1
   unfold leftFrom; rw [c1]; simp [h]
 · have n1 : ∀ n, beginsB n [a, b, c] = false := by
    intro n; cases hb : beginsB n [a, b, c]
    · rfl
    · exact absurd (begins_3 hb) h
   unfold leftFrom; rw [c0, c1, c2, c3]; simp only [n1]; simp [h]
def RefOk (l : List UInt8) (r : Int) (n : Nat) : Prop := (∀ m, 1 ≤ m → m < n → isB (l.take m) = false) ∧ isB (l.take n) = true ∧ reckL (l.take n) = r
def RefBad (l : List UInt8) (r : Int) (n : Nat) : Prop := r = 0 ∧ 1 ≤ n ∧ n ≤ 3 ∧ n ≤ l.length ∧ (∀ m, 1 ≤ m → m ≤ 4 → m ≤ l.length → isB (l.take m) = false)
 ∧ (2 ≤ l.length → leftFrom (l.take 2) 0 = decide (2 ≤ n)) ∧ (3 ≤ l.length → leftFrom (l.take 3) 0 = decide (n = 3))
theorem f1 (a : UInt8) (h : want a ≠ 1) : isB [a] = false := by rw [isB_1]; simp [h]
theorem f2 (a b : UInt8) (h : ¬ (want a = 2 ∧ good2 a b)) : isB [a, b] = false := by rw [isB_2]; simp only [h, decide_false]
theorem f3 (a b c : UInt8) (h : ¬ (want a = 3 ∧ good2 a b ∧ cont c)) : isB [a, b, c] = false := by rw [isB_3]; simp only [h, decide_false]
theorem f4 (a b c d : UInt8) (h : ¬ (want a = 4 ∧ good2 a b ∧ cont c ∧ cont d)) : isB [a, b, c, d] = false := by rw [isB_4]; simp only [h, decide_false]
theorem isB_upto (a : UInt8) (l : List UInt8) (h1 : want a ≠ 1) (h2 : ∀ b, l.head? = some b → ¬ (want a = 2 ∧ good2 a b))
 (h3 : ∀ b c, l.take 2 = [b, c] → ¬ (want a = 3 ∧ good2 a b ∧ cont c)) (h4 : ∀ b c d, l.take 3 = [b, c, d] → ¬ (want a = 4 ∧ good2 a b ∧ cont c ∧ cont d)) :
 ∀ m, 1 ≤ m → m ≤ 4 → m ≤ (a :: l).length → isB ((a :: l).take m) = false := by
 intro m x y z
 rcases (by omega : m = 1 ∨ m = 2 ∨ m = 3 ∨ m = 4) with rfl | rfl | rfl | rfl
 · simpa using f1 a h1
 · cases l with
   | nil => simp at z
   | cons b l => simpa using f2 a b (h2 b rfl)
 · cases l with
   | nil => simp at z
   | cons b l =>
    cases l with
    | nil => simp at z
    | cons c l => simpa using f3 a b c (h3 b c rfl)
 · cases l with
   | nil => simp at z
   | cons b l =>
    cases l with
    | nil => simp at z
    | cons c l =>
     cases l with
     | nil => simp at z
     | cons d l => simpa using f4 a b c d (h4 b c d rfl)
theorem lefts (a : UInt8) (l : List UInt8) (n : Nat) (h2 : ∀ b, l.head? = some b → ((3 ≤ want a ∧ good2 a b) ↔ 2 ≤ n)) (h3 : ∀ b c, l.take 2 = [b, c] → ((want a = 4 ∧ good2 a b ∧ cont c) ↔ n = 3)) :
 (2 ≤ (a :: l).length → leftFrom ((a :: l).take 2) 0 = decide (2 ≤ n)) ∧ (3 ≤ (a :: l).length → leftFrom ((a :: l).take 3) 0 = decide (n = 3)) := by
 refine ⟨fun z => ?_, fun z => ?_⟩
 · cases l with
   | nil => simp at z
   | cons b l =>
    have := left_2 a b
    simp only [List.take_succ_cons, List.take_zero]; rw [this]; exact decide_eq_decide.2 (h2 b rfl)
 · cases l with
   | nil => simp at z
   | cons b l =>
    cases l with
    | nil => simp at z
    | cons c l =>
     have := left_3 a b c
     simp only [List.take_succ_cons, List.take_zero]; rw [this]; exact decide_eq_decide.2 (h3 b c rfl)
theorem ref_dec (a : UInt8) (l : List UInt8) : ∃ r n ok, decS (a :: l) = (r, n, ok) ∧ n ≤ (a :: l).length ∧ 1 ≤ n ∧ n ≤ 4 ∧ (ok = true → RefOk (a :: l) r n) ∧ (ok = false → RefBad (a :: l) r n) := by
 have h4 : want a ≤ 4 := (leadS_bd a.toNat).2
 have h0 : 0 ≤ want a := (leadS_bd a.toNat).1
 by_cases w0 : want a = 0
 · refine ⟨_, _, _, decS_0 a l w0, by simp, by omega, by omega, (by simp), fun _ => ⟨rfl, by omega, by omega, by simp, isB_upto a l (by omega) (fun b _ h => by omega) (fun b c _ h => by omega) (fun b c d _ h => by omega), lefts a l 1 (fun b _ => ⟨fun h => by omega, fun h => by omega⟩) (fun b c _ => ⟨fun h => by omega, fun h => by omega⟩)⟩⟩
 by_cases w1 : want a = 1
 · refine ⟨_, _, _, decS_1 a l w1, by simp, by omega, by omega, fun _ => ⟨fun m x y => by omega, by simp [isB_1, w1], by simp [reckL]⟩, (by simp)⟩
 cases l with
 | nil =>
  refine ⟨_, _, _, decS_k1 a (by omega), by simp, by omega, by omega, (by simp), fun _ => ⟨rfl, by omega, by omega, by simp, isB_upto a [] w1 (fun b h => by simp at h) (fun b c h => by simp at h) (fun b c d h => by simp at h), lefts a [] 1 (fun b h => by simp at h) (fun b c h => by simp at h)⟩⟩
 | cons b l =>
  by_cases hg : good2 a b
  rotate_left
  · have hb : ∀ b', (b :: l).head? = some b' → ¬ good2 a b' := by intro b' e; simp at e; subst e; exact hg
    have hb2 : ∀ b' c, (b :: l).take 2 = [b', c] → ¬ good2 a b' := by intro b' c e; simp at e; rw [← e.1]; exact hg
    have hb3 : ∀ b' c d, (b :: l).take 3 = [b', c, d] → ¬ good2 a b' := by intro b' c d e; simp at e; rw [← e.1]; exact hg
    refine ⟨_, _, _, decS_bad2 a b l (by omega) hg, by simp, by omega, by omega, (by simp), fun _ => ⟨rfl, by omega, by omega, by simp, isB_upto a _ w1 (fun b e h => hb b e h.2) (fun b c e h => hb2 b c e h.2.1) (fun b c d e h => hb3 b c d e h.2.1), lefts a _ 1 (fun b e => ⟨fun h => absurd h.2 (hb b e), fun h => by omega⟩) (fun b c e => ⟨fun h => absurd h.2.1 (hb2 b c e), fun h => by omega⟩)⟩⟩
  by_cases w2 : want a = 2
  · refine ⟨_, _, _, decS_2 a b l w2 hg, by simp, by omega, by omega, fun _ => ⟨fun m x y => ?_, by simp [isB_2, w2, hg], by simp; exact reck_2 a b w2 hg⟩, (by simp)⟩
    obtain rfl : m = 1 := by omega
    simpa using f1 a w1
  cases l with
  | nil =>
   refine ⟨_, _, _, decS_k2 a b (by omega) hg, by simp, by omega, by omega, (by simp), fun _ => ⟨rfl, by omega, by omega, by simp, isB_upto a [b] w1 (fun b e h => w2 h.1) (fun b c h => by simp at h) (fun b c d h => by simp at h), lefts a [b] 2 (fun b' e => ⟨fun h => by omega, fun h => ⟨by omega, by simp at e; rw [← e]; exact hg⟩⟩) (fun b c h => by simp at h)⟩⟩
  | cons c l =>
   by_cases hc : cont c
   rotate_left
   · have hc2 : ∀ b' c', (b :: c :: l).take 2 = [b', c'] → ¬ cont c' := by intro b' c' e; simp at e; rw [← e.2]; exact hc
     have hc3 : ∀ b' c' d, (b :: c :: l).take 3 = [b', c', d] → ¬ cont c' := by intro b' c' d e; simp at e; rw [← e.2.1]; exact hc
     refine ⟨_, _, _, decS_bad3 a b c l (by omega) hg hc, by simp, by omega, by omega, (by simp), fun _ => ⟨rfl, by omega, by omega, by simp, isB_upto a _ w1 (fun b e h => w2 h.1) (fun b c e h => hc2 b c e h.2.2) (fun b c d e h => hc3 b c d e h.2.2.1), lefts a _ 2 (fun b' e => ⟨fun h => by omega, fun h => ⟨by omega, by simp at e; rw [← e]; exact hg⟩⟩) (fun b c e => ⟨fun h => absurd h.2.2 (hc2 b c e), fun h => by omega⟩)⟩⟩
   by_cases w3 : want a = 3
   · refine ⟨_, _, _, decS_3 a b c l w3 hg hc, by simp, by omega, by omega, fun _ => ⟨fun m x y => ?_, by simp [isB_3, w3, hg, hc], by simp; exact reck_3 a b c w3 hg hc⟩, (by simp)⟩
     rcases (by omega : m = 1 ∨ m = 2) with rfl | rfl
     · simpa using f1 a w1
     · simpa using f2 a b (fun h => w2 h.1)
   have w4 : want a = 4 := by omega
   cases l with
   | nil =>
    refine ⟨_, _, _, decS_k3 a b c w4 hg hc, by simp, by omega, by omega, (by simp), fun _ => ⟨rfl, by omega, by omega, by simp, isB_upto a [b, c] w1 (fun b e h => w2 h.1) (fun b c e h => w3 h.1) (fun b c d h => by simp at h), lefts a [b, c] 3 (fun b' e => ⟨fun h => by omega, fun h => ⟨by omega, by simp at e; rw [← e]; exact hg⟩⟩) (fun b' c' e => ⟨fun h => rfl, fun h => ⟨w4, by simp at e; rw [← e.1]; exact hg, by simp at e; rw [← e.2]; exact hc⟩⟩)⟩⟩
   | cons d l =>
    by_cases hd : cont d
    rotate_left
    · have hd3 : ∀ b' c' d', (b :: c :: d :: l).take 3 = [b', c', d'] → ¬ cont d' := by intro b' c' d' e; simp at e; rw [← e.2.2]; exact hd
      refine ⟨_, _, _, decS_bad4 a b c d l w4 hg hc hd, by simp, by omega, by omega, (by simp), fun _ => ⟨rfl, by omega, by omega, by simp, isB_upto a _ w1 (fun b e h => w2 h.1) (fun b c e h => w3 h.1) (fun b c d e h => hd3 b c d e h.2.2.2), lefts a _ 3 (fun b' e => ⟨fun h => by omega, fun h => ⟨by omega, by simp at e; rw [← e]; exact hg⟩⟩) (fun b' c' e => ⟨fun h => rfl, fun h => ⟨w4, by simp at e; rw [← e.1]; exact hg, by simp at e; rw [← e.2]; exact hc⟩⟩)⟩⟩
    · refine ⟨_, _, _, decS_4 a b c d l w4 hg hc hd, by simp, by omega, by omega, fun _ => ⟨fun m x y => ?_, by simp [isB_4, w4, hg, hc, hd], by simp; exact reck_4 a b c d w4 hg hc hd⟩, (by simp)⟩
      rcases (by omega : m = 1 ∨ m = 2 ∨ m = 3) with rfl | rfl | rfl
      · simpa using f1 a w1
      · simpa using f2 a b (fun h => w2 h.1)
      · simpa using f3 a b c (fun h => w3 h.1)
end Go.Proofs.Ytldjakeigjngoaa
/- Contracts: the reference's Decode, walked. -/
namespace Go.Proofs.Ytldjakeigjngoaa
open Go.RowKit Bf
end Go.Proofs.Ytldjakeigjngoaa