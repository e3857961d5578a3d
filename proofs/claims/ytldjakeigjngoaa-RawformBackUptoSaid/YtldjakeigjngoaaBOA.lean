/- BOA: texts of this proof, joined by program: PlainOpt, PlainOpt2, OptIn. -/
import Derived.Test.YtldjakeigjngoaaBPU
import Derived.Test.YtldjakeigjngoaaBEX
/- Plain: options, of tokens, and their text. -/
set_option linter.unusedVariables false
set_option linter.unusedSimpArgs false
namespace Go.Proofs.Ytldjakeigjngoaa
open Go.RowKit Bf
abbrev OptT := Int × Int × Int × List UInt8
def zopt : OptT := (0, 0, 0, [])
def compactL : List UInt8 := [99, 111, 109, 112, 97, 99, 116]
def prettyL : List UInt8 := [112, 114, 101, 116, 116, 121]
def lineL : List UInt8 := [108, 105, 110, 101]
def widthL' : List UInt8 := [119, 105, 100, 116, 104]
def indentL : List UInt8 := [105, 110, 100, 101, 110, 116]
def modeL : List UInt8 := [109, 111, 100, 101]
def obsL : List UInt8 := [111, 98, 115, 101, 114, 118, 101, 114]
def modN (s : List UInt8) : Int := if s = compactL then 1 else if s = prettyL then 2 else if s = lineL then 3 else 0
def whN (s : List UInt8) : Int := if s = widthL' then 0 else if s = indentL then 1 else if s = modeL then 2 else if s = obsL then 3 else 4
def widB (n : Int) : Bool := decide (1 ≤ n) && decide (n ≤ 1000)
def indB (n : Int) : Bool := decide (0 ≤ n) && decide (n ≤ 16)
def oddE (t : TokT) : Int × Int := (if t.1 = 0 then 5 else 4, t.2.1)
def putO (k : Int) (o : OptT) (v : TokT) : OptT × Int × Int :=
 if k = 0 then (if v.1 ≠ 2 then (o, oddE v) else if widB v.2.2.2.2 = true then ((v.2.2.2.2, o.2), 0, 0) else (o, 20, v.2.1))
 else if k = 1 then (if v.1 ≠ 2 then (o, oddE v) else if indB v.2.2.2.2 = true then ((o.1, v.2.2.2.2, o.2.2), 0, 0) else (o, 20, v.2.1))
 else if k = 2 then (if v.1 ≠ 1 then (o, oddE v) else if modN v.2.2.2.1 = 0 then (o, 9, v.2.1) else ((o.1, o.2.1, modN v.2.2.2.1, o.2.2.2), 0, 0))
 else (if v.1 ≠ 1 then (o, oddE v) else ((o.1, o.2.1, o.2.2.1, v.2.2.2.1), 0, 0))
def optL : List TokT → OptT → List Bool → OptT × Int × Int
 | [], o, _ => (o, 0, 0)
 | [t], o, _ => if t.1 = 0 then (o, 0, 0) else (zopt, oddE t)
 | [t, u], o, had => if t.1 = 0 then (o, 0, 0) else if t.1 ≠ 1 then (zopt, oddE t) else if whN t.2.2.2.1 = 4 then (zopt, 9, t.2.1) else if had.getD (whN t.2.2.2.1).toNat false = true then (zopt, 10, t.2.1) else (zopt, oddE u)
 | t :: u :: v :: r, o, had => if t.1 = 0 then (o, 0, 0) else if t.1 ≠ 1 then (zopt, oddE t) else if whN t.2.2.2.1 = 4 then (zopt, 9, t.2.1) else if had.getD (whN t.2.2.2.1).toNat false = true then (zopt, 10, t.2.1)
  else if ¬ (u.1 = 4 ∧ u.2.2.2.1 = [61]) then (zopt, oddE u)
  else if (putO (whN t.2.2.2.1) o v).2.1 ≠ 0 then (zopt, (putO (whN t.2.2.2.1) o v).2) else optL r (putO (whN t.2.2.2.1) o v).1 (had.set (whN t.2.2.2.1).toNat true)
/-! ### One part -/
section
variable {l : List TokT} {i : Nat} {o : OptT} {had : List Bool} {R : OptT × Int × Int} {t u v : TokT}
theorem drop_get (h : l[i]? = some t) : l.drop i = t :: l.drop (i + 1) := by
 obtain ⟨hlt, rfl⟩ := List.getElem?_eq_some_iff.1 h
 exact List.drop_eq_getElem_cons hlt
theorem nextTok (hl : TokOk l) (ht : l[i]? = some t) (h0 : t.1 ≠ 0) : ∃ u, l[i + 1]? = some u := by
 have := (not_congr (hl.fin i t ht)).1 h0
 have hlt := (List.getElem?_eq_some_iff.1 ht).1
 exact ⟨_, List.getElem?_eq_getElem (by omega)⟩
theorem opt_bad (h : optL (l.drop i) o had = R) (ht : l[i]? = some t) (hu : l[i + 1]? = some u) (hv : l[i + 2]? = some v) (h1 : t.1 = 1) (h2 : whN t.2.2.2.1 ≠ 4) (h3 : had.getD (whN t.2.2.2.1).toNat false = false) (h4 : u.1 = 4 ∧ u.2.2.2.1 = [61])
 (h5 : (putO (whN t.2.2.2.1) o v).2.1 ≠ 0) : R = (zopt, (putO (whN t.2.2.2.1) o v).2) := by
 subst h
 rw [drop_get ht, drop_get hu, drop_get hv]
 rw [List.getD_eq_getElem?_getD] at h3
 simp only [optL]; rw [if_neg (by omega), if_neg (by omega), if_neg h2, if_neg (by simp [h3]), if_neg (fun h => h h4), if_pos h5]
theorem opt_step (h : optL (l.drop i) o had = R) (ht : l[i]? = some t) (hu : l[i + 1]? = some u) (hv : l[i + 2]? = some v) (h1 : t.1 = 1) (h2 : whN t.2.2.2.1 ≠ 4) (h3 : had.getD (whN t.2.2.2.1).toNat false = false) (h4 : u.1 = 4 ∧ u.2.2.2.1 = [61])
 (h5 : (putO (whN t.2.2.2.1) o v).2.1 = 0) : optL (l.drop (i + 3)) (putO (whN t.2.2.2.1) o v).1 (had.set (whN t.2.2.2.1).toNat true) = R := by
 subst h
 rw [drop_get ht, drop_get hu, drop_get hv]
 rw [List.getD_eq_getElem?_getD] at h3
 simp only [optL]; rw [if_neg (by omega), if_neg (by omega), if_neg h2, if_neg (by simp [h3]), if_neg (fun h => h h4), if_neg (by omega)]
end
/-! ### What is read is right -/
theorem oddE_ne (t : TokT) : (oddE t).1 ≠ 0 := by unfold oddE; simp only; split <;> decide
def NamOk (l : List TokT) : Prop := ∀ t ∈ l, t.1 = 1 → namB t.2.2.2.1 = true
theorem tokA_nam (s : List UInt8) (i : Nat) {t : TokT} {e p : Int} (h : tokA s i = (t, e, p)) (h1 : t.1 = 1) : namB t.2.2.2.1 = true := by
 unfold tokA at h
 split at h
 · rename_i hn
   split at h
   · obtain ⟨rfl, rfl, rfl⟩ := tri_inj h; exact absurd h1 (by simp [ztk])
   · rename_i h32; obtain ⟨rfl, rfl, rfl⟩ := tri_inj h; simp only; rw [namB_take]; simp; omega
 · split at h
   · obtain ⟨rfl, rfl, rfl⟩ := tri_inj h; exact absurd h1 (by simp)
   · split at h
     · split at h
       · obtain ⟨rfl, rfl, rfl⟩ := tri_inj h; exact absurd h1 (by simp [ztk])
       · obtain ⟨rfl, rfl, rfl⟩ := tri_inj h; exact absurd h1 (by simp)
     · split at h
       · split at h
         · obtain ⟨rfl, rfl, rfl⟩ := tri_inj h; exact absurd h1 (by simp [ztk])
         · obtain ⟨rfl, rfl, rfl⟩ := tri_inj h; exact absurd h1 (by simp)
       · obtain ⟨rfl, rfl, rfl⟩ := tri_inj h; exact absurd h1 (by simp [ztk])
theorem scanT_nam (s : List UInt8) : ∀ (m i : Nat), s.length - i ≤ m → NamOk (scanT s i).1 := by
 intro m
 induction m with
 | zero => intro i h; rw [scanT_end s i (by omega)]; intro t ht h1; simp only [List.mem_singleton] at ht; subst ht; exact absurd h1 (by simp)
 | succ m ih =>
  intro i h
  have hnil : NamOk [] := fun t ht => by cases ht
  by_cases he : s.length ≤ i
  · rw [scanT_end s i he]; intro t ht h1; simp only [List.mem_singleton] at ht; subst ht; exact absurd h1 (by simp)
  · obtain ⟨tk, e0, p0, htk⟩ : ∃ t e p, tokA s i = (t, e, p) := ⟨_, _, _, rfl⟩
    rw [scanT, dif_neg he]
    split
    · exact ih (i + 1) (by omega)
    · split
      · split
        · exact hnil
        · split
          · exact ih _ (by omega)
          · exact hnil
      · split
        · exact hnil
        · split
          · rename_i h0 h2
            split
            · intro t ht h1
              simp only [List.mem_cons] at ht
              rcases ht with rfl | ht
              · rw [htk] at h1 ⊢; exact tokA_nam s i htk h1
              · exact ih _ (by omega) t ht h1
            · exact hnil
          · exact hnil
theorem scanR_nam (s : List UInt8) : NamOk (scanR s).1 := by
 unfold scanR; split
 · exact fun t ht => by cases ht
 · exact scanT_nam s _ 0 (Nat.le_refl _)
/-! ### The text of options -/
theorem at_app {s a r : List UInt8} {i : Nat} (h : s.drop i = a ++ r) : s.drop (i + a.length) = r := by
 rw [← List.drop_drop, h, List.drop_left]
theorem at_lt {s r : List UInt8} {c : UInt8} {i : Nat} (h : s.drop i = c :: r) : i < s.length := by
 have := congrArg List.length h
 simp at this; omega
theorem at_bt {s r : List UInt8} {c : UInt8} {i : Nat} (h : s.drop i = c :: r) : bt s (i : Int) = (c.toNat : Int) := by
 rw [← bt_dropZ, h]; rfl
theorem at_one {s r : List UInt8} {c : UInt8} {i : Nat} (h : s.drop i = c :: r) : s.drop (i + 1) = r := at_app (a := [c]) h
theorem sc_sp {s r : List UInt8} {i : Nat} (h : s.drop i = 32 :: r) : scanT s i = scanT s (i + 1) := scanT_blank s i (at_lt h) (by rw [at_bt h]; decide)
theorem sc_nam {s a r : List UInt8} {i : Nat} (h : s.drop i = a ++ r) (ha : namB a = true) (hr : ∀ c t, r = c :: t → sigB c = false) : scanT s i = comb [(1, (i : Int), (i : Int) + a.length, a, 0)] (scanT s (i + a.length)) := by
 have hb' := ha
 unfold namB at hb'
 simp only [Bool.and_eq_true, decide_eq_true_eq] at hb'
 have hna := namN_app a r hb'.1.1 hb'.1.2 hr
 have hp : 0 < a.length := List.length_pos_iff.2 hb'.1.1
 cases a with
 | nil => exact absurd rfl hb'.1.1
 | cons c t =>
  have hc : letB c = true := by
   have := hb'.1.2
   rw [namN_cons] at this
   by_cases h1 : letB c = true
   · exact h1
   · rw [if_neg h1] at this; simp at this
  have hbt := at_bt (s := s) (i := i) (r := t ++ r) h
  have hcn : 97 ≤ c.toNat ∧ c.toNat ≤ 122 := by unfold letB at hc; simpa using hc
  refine (scanT_tok s i (at_lt (r := t ++ r) h) (by rw [hbt]; unfold blankB; simp; omega) (by rw [hbt]; omega) (t := (1, (i : Int), (i : Int) + (c :: t).length, c :: t, 0)) (p := 0) ?_ (by simp only; omega)).trans ?_
  · unfold tokA
    rw [h, hna, if_pos hp, if_neg (by omega), List.take_left]
  · simp only
    rw [show ((i : Int) + (c :: t).length).toNat = i + (c :: t).length by omega]
theorem sc_num {s r : List UInt8} {i : Nat} {n : Int} (h : s.drop i = putL n ++ r) (h0 : 0 ≤ n) (h1 : n ≤ 9223372036854775807) (hr : ∀ c t, r = c :: t → isDig c = false) : scanT s i = comb [(2, (i : Int), (i : Int) + (putL n).length, [], n)] (scanT s (i + (putL n).length)) := by
 have htk := takeS_putL n r ⟨by omega, h1⟩ hr
 have hd := decL_facts n.natAbs
 have hput : putL n = decL n.natAbs := by unfold putL; rw [if_neg (by omega)]
 cases hdl : decL n.natAbs with
 | nil => exact absurd hdl hd.2.2.1
 | cons c t =>
  have hc := hd.1 c (by rw [hdl]; simp)
  have hcn : 48 ≤ c.toNat ∧ c.toNat ≤ 57 := by unfold isDig at hc; simpa using hc
  rw [hput, hdl] at h htk ⊢
  have hbt := at_bt (s := s) (i := i) (r := t ++ r) h
  have hlt := at_lt (s := s) (r := t ++ r) h
  have ht2 := takeAt_drop s i (by omega)
  rw [h, htk] at ht2
  simp only [if_true] at ht2
  refine (scanT_tok s i hlt (by rw [hbt]; unfold blankB; simp; omega) (by rw [hbt]; omega) (t := (2, (i : Int), (i : Int) + (c :: t).length, [], n)) (p := 0) ?_ (by simp only [List.length_cons]; omega)).trans ?_
  · unfold tokA
    have hlet : letB c = false := by unfold letB; simp; omega
    have hm : markL ((c :: t) ++ r) = [] := by
     show markL (c :: (t ++ r)) = []
     have h46 : c ≠ 46 := by rintro rfl; simp at hcn
     have hnm : c ∉ marksT := by
      intro hm
      simp only [marksT, List.mem_cons, List.not_mem_nil, or_false] at hm
      rcases hm with rfl | rfl | rfl | rfl | rfl | rfl | rfl | rfl | rfl | rfl | rfl | rfl | rfl | rfl | rfl | rfl <;> revert hcn <;> decide
     rw [markL_cons, if_neg h46, if_neg hnm]
    have hn0 : namN ((c :: t) ++ r) = 0 := by show namN (c :: (t ++ r)) = 0; rw [namN_cons, hlet]; rfl
    rw [h, hn0, if_neg (by omega), hm, if_neg (by simp), hbt, if_pos (.inr (by omega)), ht2]
    rfl
  · simp only
    rw [show ((i : Int) + (c :: t).length).toNat = i + (c :: t).length by omega]
theorem sc_end {s : List UInt8} {i : Nat} (h : s.drop i = []) : scanT s i = ([(0, (i : Int), (i : Int), [], 0)], 0, 0) := scanT_end s i (by have := congrArg List.length h; simp at this; omega)
end Go.Proofs.Ytldjakeigjngoaa
/- Plain: options, as the document reads them. -/
namespace Go.Proofs.Ytldjakeigjngoaa
open Go.RowKit Bf
theorem whN_ways (s : List UInt8) : (whN s = 0 ∧ s = widthL') ∨ (whN s = 1 ∧ s = indentL) ∨ (whN s = 2 ∧ s = modeL) ∨ (whN s = 3 ∧ s = obsL) ∨ (whN s = 4 ∧ s ≠ widthL' ∧ s ≠ indentL ∧ s ≠ modeL ∧ s ≠ obsL) := by
 unfold whN
 by_cases h1 : s = widthL'
 · subst h1; exact .inl ⟨rfl, rfl⟩
 · by_cases h2 : s = indentL
   · subst h2; exact .inr (.inl ⟨rfl, rfl⟩)
   · by_cases h3 : s = modeL
     · subst h3; exact .inr (.inr (.inl ⟨rfl, rfl⟩))
     · by_cases h4 : s = obsL
       · subst h4; exact .inr (.inr (.inr (.inl ⟨rfl, rfl⟩)))
       · exact .inr (.inr (.inr (.inr ⟨by rw [if_neg h1, if_neg h2, if_neg h3, if_neg h4], h1, h2, h3, h4⟩)))
end Go.Proofs.Ytldjakeigjngoaa
/- Options that a law is given. -/
namespace Go.Proofs.Ytldjakeigjngoaa
open Go.RowKit Go.Deep Bf
section
variable {H : Type} {enc : TypeId × Value → H} {w : World} {base : Nat} {spare : Nat → Bool} {held : Bool}
end
end Go.Proofs.Ytldjakeigjngoaa