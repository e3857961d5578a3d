/- BOA: texts of this proof, joined by program: PlainOpt, PlainOpt2, OptIn. -/
import Derived.Test.YteiejcililponaaBPU
import Derived.Test.YteiejcililponaaBEX
/- Plain: options, of tokens, and their text. -/
set_option linter.unusedVariables false
set_option linter.unusedSimpArgs false
namespace Go.Proofs.Yteiejcililponaa
open Go.RowKit Bf
/-- Options: width, indent, mode, observer. -/
abbrev OptT := Int × Int × Int × List UInt8
def zopt : OptT := (0, 0, 0, [])
def dopt : OptT := (80, 2, 2, [])
def compactL : List UInt8 := [99, 111, 109, 112, 97, 99, 116]
def prettyL : List UInt8 := [112, 114, 101, 116, 116, 121]
def lineL : List UInt8 := [108, 105, 110, 101]
def widthL' : List UInt8 := [119, 105, 100, 116, 104]
def indentL : List UInt8 := [105, 110, 100, 101, 110, 116]
def modeL : List UInt8 := [109, 111, 100, 101]
def obsL : List UInt8 := [111, 98, 115, 101, 114, 118, 101, 114]
def modL (m : Int) : List UInt8 := if m = 1 then compactL else if m = 2 then prettyL else if m = 3 then lineL else []
def modN (s : List UInt8) : Int := if s = compactL then 1 else if s = prettyL then 2 else if s = lineL then 3 else 0
def whN (s : List UInt8) : Int := if s = widthL' then 0 else if s = indentL then 1 else if s = modeL then 2 else if s = obsL then 3 else 4
def widB (n : Int) : Bool := decide (1 ≤ n) && decide (n ≤ 1000)
def indB (n : Int) : Bool := decide (0 ≤ n) && decide (n ≤ 16)
def optB (o : OptT) : Bool := widB o.1 && indB o.2.1 && (decide (1 ≤ o.2.2.1) && decide (o.2.2.1 ≤ 3)) && (decide (o.2.2.2 = []) || namB o.2.2.2)
def tailO (s : List UInt8) : List UInt8 := if s = [] then [] else 32 :: (obsL ++ 61 :: s)
def fmtO (o : OptT) : List UInt8 := widthL' ++ 61 :: (putL o.1 ++ 32 :: (indentL ++ 61 :: (putL o.2.1 ++ 32 :: (modeL ++ 61 :: (modL o.2.2.1 ++ tailO o.2.2.2)))))
def oddE (t : TokT) : Int × Int := (if t.1 = 0 then 5 else 4, t.2.1)
/-- Options with a part; what is wrong, and where. -/
def putO (k : Int) (o : OptT) (v : TokT) : OptT × Int × Int :=
  if k = 0 then (if v.1 ≠ 2 then (o, oddE v) else if widB v.2.2.2.2 = true then ((v.2.2.2.2, o.2), 0, 0) else (o, 20, v.2.1))
  else if k = 1 then (if v.1 ≠ 2 then (o, oddE v) else if indB v.2.2.2.2 = true then ((o.1, v.2.2.2.2, o.2.2), 0, 0) else (o, 20, v.2.1))
  else if k = 2 then (if v.1 ≠ 1 then (o, oddE v) else if modN v.2.2.2.1 = 0 then (o, 9, v.2.1) else ((o.1, o.2.1, modN v.2.2.2.1, o.2.2.2), 0, 0))
  else (if v.1 ≠ 1 then (o, oddE v) else ((o.1, o.2.1, o.2.2.1, v.2.2.2.1), 0, 0))
def optL : List TokT → OptT → List Bool → OptT × Int × Int
  | [], o, _ => (o, 0, 0)
  | [t], o, _ => if t.1 = 0 then (o, 0, 0) else (zopt, oddE t)
  | [t, u], o, had => if t.1 = 0 then (o, 0, 0) else if t.1 ≠ 1 then (zopt, oddE t) else if whN t.2.2.2.1 = 4 then (zopt, 9, t.2.1) else if had.getD (whN t.2.2.2.1).toNat false = true then (zopt, 10, t.2.1) else (zopt, oddE u)
  | t :: u :: v :: r, o, had => if t.1 = 0 then (o, 0, 0) else if t.1 ≠ 1 then (zopt, oddE t) else if whN t.2.2.2.1 = 4 then (zopt, 9, t.2.1) else if had.getD (whN t.2.2.2.1).toNat false = true then (zopt, 10, t.2.1)
    else if ¬ (u.1 = 4 ∧ u.2.2.2.1 = [61]) then (zopt, oddE u)
    else if (putO (whN t.2.2.2.1) o v).2.1 ≠ 0 then (zopt, (putO (whN t.2.2.2.1) o v).2) else optL r (putO (whN t.2.2.2.1) o v).1 (had.set (whN t.2.2.2.1).toNat true)
def optP (s : List UInt8) : OptT × Int × Int := if (scanR s).2.1 ≠ 0 then (zopt, (scanR s).2) else optL (scanR s).1 dopt [false, false, false, false]
/-! ### One part -/
section
variable {l : List TokT} {i : Nat} {o : OptT} {had : List Bool} {R : OptT × Int × Int} {t u v : TokT}
theorem drop_get (h : l[i]? = some t) : l.drop i = t :: l.drop (i + 1) := by
  obtain ⟨hlt, rfl⟩ := List.getElem?_eq_some_iff.1 h
  exact List.drop_eq_getElem_cons hlt
theorem opt_fin (h : optL (l.drop i) o had = R) (ht : l[i]? = some t) (h0 : t.1 = 0) : R = (o, 0, 0) := by
  subst h
  rw [drop_get ht]
  cases l.drop (i + 1) with
  | nil => simp [optL, h0]
  | cons u r => cases r <;> simp [optL, h0]
theorem opt_kind (h : optL (l.drop i) o had = R) (ht : l[i]? = some t) (h0 : t.1 ≠ 0) (h1 : t.1 ≠ 1) : R = (zopt, oddE t) := by
  subst h
  rw [drop_get ht]
  cases l.drop (i + 1) with
  | nil => simp [optL, h0]
  | cons u r => cases r <;> simp [optL, h0, h1]
theorem nextTok (hl : TokOk l) (ht : l[i]? = some t) (h0 : t.1 ≠ 0) : ∃ u, l[i + 1]? = some u := by
  have := (not_congr (hl.fin i t ht)).1 h0
  have hlt := (List.getElem?_eq_some_iff.1 ht).1
  exact ⟨_, List.getElem?_eq_getElem (by omega)⟩
theorem opt_name (hl : TokOk l) (h : optL (l.drop i) o had = R) (ht : l[i]? = some t) (h1 : t.1 = 1) (h2 : whN t.2.2.2.1 = 4) : R = (zopt, 9, t.2.1) := by
  subst h
  obtain ⟨u, hu⟩ := nextTok hl ht (by omega)
  rw [drop_get ht, drop_get hu]
  cases l.drop (i + 1 + 1) <;> simp [optL, h1, h2]
theorem opt_twice (hl : TokOk l) (h : optL (l.drop i) o had = R) (ht : l[i]? = some t) (h1 : t.1 = 1) (h2 : whN t.2.2.2.1 ≠ 4) (h3 : had.getD (whN t.2.2.2.1).toNat false = true) : R = (zopt, 10, t.2.1) := by
  subst h
  obtain ⟨u, hu⟩ := nextTok hl ht (by omega)
  rw [drop_get ht, drop_get hu]
  rw [List.getD_eq_getElem?_getD] at h3
  cases l.drop (i + 1 + 1) <;> simp [optL, h1, h2, h3]
theorem opt_eq (h : optL (l.drop i) o had = R) (ht : l[i]? = some t) (hu : l[i + 1]? = some u) (h1 : t.1 = 1) (h2 : whN t.2.2.2.1 ≠ 4) (h3 : had.getD (whN t.2.2.2.1).toNat false = false) (h4 : ¬ (u.1 = 4 ∧ u.2.2.2.1 = [61])) : R = (zopt, oddE u) := by
  subst h
  rw [drop_get ht, drop_get hu]
  rw [List.getD_eq_getElem?_getD] at h3
  cases l.drop (i + 1 + 1) with
  | nil => simp [optL, h1, h2, h3]
  | cons v r => simp only [optL]; rw [if_neg (by omega), if_neg (by omega), if_neg h2, if_neg (by simp [h3]), if_pos h4]
theorem opt_bad (h : optL (l.drop i) o had = R) (ht : l[i]? = some t) (hu : l[i + 1]? = some u) (hv : l[i + 2]? = some v) (h1 : t.1 = 1) (h2 : whN t.2.2.2.1 ≠ 4) (h3 : had.getD (whN t.2.2.2.1).toNat false = false) (h4 : u.1 = 4 ∧ u.2.2.2.1 = [61])
    (h5 : (putO (whN t.2.2.2.1) o v).2.1 ≠ 0) : R = (zopt, (putO (whN t.2.2.2.1) o v).2) := by
  subst h
  rw [drop_get ht, drop_get hu, drop_get hv]
  rw [List.getD_eq_getElem?_getD] at h3
  simp only [optL]; rw [if_neg (by omega), if_neg (by omega), if_neg h2, if_neg (by simp [h3]), if_neg (fun h => h h4), if_pos h5]
theorem opt_step (h : optL (l.drop i) o had = R) (ht : l[i]? = some t) (hu : l[i + 1]? = some u) (hv : l[i + 2]? = some v) (h1 : t.1 = 1) (h2 : whN t.2.2.2.1 ≠ 4) (h3 : had.getD (whN t.2.2.2.1).toNat false = false) (h4 : u.1 = 4 ∧ u.2.2.2.1 = [61])
    (h5 : (putO (whN t.2.2.2.1) o v).2.1 = 0) : optL (l.drop (i + 3)) (putO (whN t.2.2.2.1) o v).1 (had.set (whN t.2.2.2.1).toNat true) = R := by
  subst h
  rw [drop_get ht, drop_get hu, drop_get hv]
  rw [List.getD_eq_getElem?_getD] at h3
  simp only [optL]; rw [if_neg (by omega), if_neg (by omega), if_neg h2, if_neg (by simp [h3]), if_neg (fun h => h h4), if_neg (by omega)]
end
/-! ### What is read is right -/
theorem oddE_ne (t : TokT) : (oddE t).1 ≠ 0 := by unfold oddE; simp only; split <;> decide
theorem modN_le (s : List UInt8) : 0 ≤ modN s ∧ modN s ≤ 3 := by unfold modN; split <;> (try split) <;> (try split) <;> omega
theorem modN_modL {s : List UInt8} (h : modN s ≠ 0) : modL (modN s) = s := by
  unfold modN at h ⊢
  split
  · subst_vars; rfl
  · split
    · subst_vars; rfl
    · split
      · subst_vars; rfl
      · rename_i h1 h2 h3; rw [if_neg h1, if_neg h2, if_neg h3] at h; exact absurd rfl h
/-- A name among tokens is one. -/
def NamOk (l : List TokT) : Prop := ∀ t ∈ l, t.1 = 1 → namB t.2.2.2.1 = true
theorem putO_right (k : Int) {o : OptT} {v : TokT} (ho : optB o = true) (hv : v.1 = 1 → namB v.2.2.2.1 = true) (h : (putO k o v).2.1 = 0) : optB (putO k o v).1 = true := by
  obtain ⟨w, i, m, ob⟩ := o
  unfold optB at ho ⊢
  simp only [Bool.and_eq_true, Bool.or_eq_true, decide_eq_true_eq] at ho ⊢
  have hm := modN_le v.2.2.2.1
  unfold putO at h ⊢
  split at h
  · rename_i hk; rw [if_pos hk]
    split at h
    · exact absurd h (oddE_ne _)
    · rename_i h2; rw [if_neg h2]
      split at h
      · rename_i h3; rw [if_pos h3]; exact ⟨⟨⟨h3, ho.1.1.2⟩, ho.1.2⟩, ho.2⟩
      · cases h
  · rename_i hk; rw [if_neg hk]
    split at h
    · rename_i hk; rw [if_pos hk]
      split at h
      · exact absurd h (oddE_ne _)
      · rename_i h2; rw [if_neg h2]
        split at h
        · rename_i h3; rw [if_pos h3]; exact ⟨⟨⟨ho.1.1.1, h3⟩, ho.1.2⟩, ho.2⟩
        · cases h
    · rename_i hk; rw [if_neg hk]
      split at h
      · rename_i hk; rw [if_pos hk]
        split at h
        · exact absurd h (oddE_ne _)
        · rename_i h2; rw [if_neg h2]
          split at h
          · cases h
          · rename_i h3; rw [if_neg h3]; exact ⟨⟨ho.1.1, by simp only; omega, by simp only; omega⟩, ho.2⟩
      · rename_i hk; rw [if_neg hk]
        split at h
        · exact absurd h (oddE_ne _)
        · rename_i h2; rw [if_neg h2]
          exact ⟨ho.1, .inr (hv (by omega))⟩
theorem putO_z (k : Int) (o : OptT) (v : TokT) : (putO k o v).2.1 = 0 → (putO k o v).2.2 = 0 := by
  unfold putO
  split
  · split
    · exact fun h => absurd h (oddE_ne _)
    · split
      · exact fun _ => rfl
      · exact fun h => by cases h
  · split
    · split
      · exact fun h => absurd h (oddE_ne _)
      · split
        · exact fun _ => rfl
        · exact fun h => by cases h
    · split
      · split
        · exact fun h => absurd h (oddE_ne _)
        · split
          · exact fun h => by cases h
          · exact fun _ => rfl
      · split
        · exact fun h => absurd h (oddE_ne _)
        · exact fun _ => rfl
theorem tokA_nam (s : List UInt8) (i : Nat) {t : TokT} {e p : Int} (h : tokA s i = (t, e, p)) (h1 : t.1 = 1) : namB t.2.2.2.1 = true := by
  unfold tokA at h
  split at h
  · rename_i hn
    split at h
    · obtain ⟨rfl, rfl, rfl⟩ := tri_inj h; exact absurd h1 (by simp [ztk])
    · rename_i h32; obtain ⟨rfl, rfl, rfl⟩ := tri_inj h; simp only; rw [namB_take]; simp; omega
  · split at h
    · obtain ⟨rfl, rfl, rfl⟩ := tri_inj h; exact absurd h1 (by simp)
    · split at h
      · split at h
        · obtain ⟨rfl, rfl, rfl⟩ := tri_inj h; exact absurd h1 (by simp [ztk])
        · obtain ⟨rfl, rfl, rfl⟩ := tri_inj h; exact absurd h1 (by simp)
      · split at h
        · split at h
          · obtain ⟨rfl, rfl, rfl⟩ := tri_inj h; exact absurd h1 (by simp [ztk])
          · obtain ⟨rfl, rfl, rfl⟩ := tri_inj h; exact absurd h1 (by simp)
        · obtain ⟨rfl, rfl, rfl⟩ := tri_inj h; exact absurd h1 (by simp [ztk])
theorem scanT_nam (s : List UInt8) : ∀ (m i : Nat), s.length - i ≤ m → NamOk (scanT s i).1 := by
  intro m
  induction m with
  | zero => intro i h; rw [scanT_end s i (by omega)]; intro t ht h1; simp only [List.mem_singleton] at ht; subst ht; exact absurd h1 (by simp)
  | succ m ih =>
    intro i h
    have hnil : NamOk [] := fun t ht => by cases ht
    by_cases he : s.length ≤ i
    · rw [scanT_end s i he]; intro t ht h1; simp only [List.mem_singleton] at ht; subst ht; exact absurd h1 (by simp)
    · obtain ⟨tk, e0, p0, htk⟩ : ∃ t e p, tokA s i = (t, e, p) := ⟨_, _, _, rfl⟩
      rw [scanT, dif_neg he]
      split
      · exact ih (i + 1) (by omega)
      · split
        · split
          · exact hnil
          · split
            · exact ih _ (by omega)
            · exact hnil
        · split
          · exact hnil
          · split
            · rename_i h0 h2
              split
              · intro t ht h1
                simp only [List.mem_cons] at ht
                rcases ht with rfl | ht
                · rw [htk] at h1 ⊢; exact tokA_nam s i htk h1
                · exact ih _ (by omega) t ht h1
              · exact hnil
            · exact hnil
theorem scanR_nam (s : List UInt8) : NamOk (scanR s).1 := by
  unfold scanR; split
  · exact fun t ht => by cases ht
  · exact scanT_nam s _ 0 (Nat.le_refl _)
/-! ### The text of options -/
theorem fmtO_len (o : OptT) (h : optB o = true) : (fmtO o).length ≤ 200 := by
  obtain ⟨w, i, m, ob⟩ := o
  unfold optB widB indB at h
  simp only [Bool.and_eq_true, Bool.or_eq_true, decide_eq_true_eq] at h
  have h1 := putL_len w (by omega)
  have h2 := putL_len i (by omega)
  have h3 : (modL m).length ≤ 7 := by unfold modL; split <;> (try split) <;> (try split) <;> decide
  have h4 : ob.length ≤ 32 := by
    rcases h.2 with h | h
    · rw [h]; decide
    · unfold namB at h; simp only [Bool.and_eq_true, decide_eq_true_eq] at h; exact h.2
  unfold fmtO
  simp only [List.length_append, List.length_cons]
  have h5 : (tailO ob).length ≤ 44 := by
    unfold tailO
    split
    · simp
    · simp [obsL]; omega
  have e1 : widthL'.length = 5 := rfl
  have e2 : indentL.length = 6 := rfl
  have e3 : modeL.length = 4 := rfl
  omega
end Go.Proofs.Yteiejcililponaa
/- Plain: options, as the document reads them. -/
set_option linter.unusedVariables false
set_option linter.unusedSimpArgs false
namespace Go.Proofs.Yteiejcililponaa
open Go.RowKit Bf
/-- Which parts were there. -/
def hadL (H : List (List UInt8)) : List Bool := [decide (widthL' ∈ H), decide (indentL ∈ H), decide (modeL ∈ H), decide (obsL ∈ H)]
theorem whN_ways (s : List UInt8) : (whN s = 0 ∧ s = widthL') ∨ (whN s = 1 ∧ s = indentL) ∨ (whN s = 2 ∧ s = modeL) ∨ (whN s = 3 ∧ s = obsL) ∨ (whN s = 4 ∧ s ≠ widthL' ∧ s ≠ indentL ∧ s ≠ modeL ∧ s ≠ obsL) := by
  unfold whN
  by_cases h1 : s = widthL'
  · subst h1; exact .inl ⟨rfl, rfl⟩
  · by_cases h2 : s = indentL
    · subst h2; exact .inr (.inl ⟨rfl, rfl⟩)
    · by_cases h3 : s = modeL
      · subst h3; exact .inr (.inr (.inl ⟨rfl, rfl⟩))
      · by_cases h4 : s = obsL
        · subst h4; exact .inr (.inr (.inr (.inl ⟨rfl, rfl⟩)))
        · exact .inr (.inr (.inr (.inr ⟨by rw [if_neg h1, if_neg h2, if_neg h3, if_neg h4], h1, h2, h3, h4⟩)))
theorem had_get {s : List UInt8} {H : List (List UInt8)} (h : whN s ≠ 4) : (hadL H).getD (whN s).toNat false = decide (s ∈ H) := by
  rcases whN_ways s with ⟨h1, rfl⟩ | ⟨h1, rfl⟩ | ⟨h1, rfl⟩ | ⟨h1, rfl⟩ | ⟨h1, _⟩
  · rw [h1]; rfl
  · rw [h1]; rfl
  · rw [h1]; rfl
  · rw [h1]; rfl
  · exact absurd h1 h
theorem had_set {s : List UInt8} {H : List (List UInt8)} (h : whN s ≠ 4) : (hadL H).set (whN s).toNat true = hadL (H ++ [s]) := by
  have e1 : widthL' ≠ indentL ∧ widthL' ≠ modeL ∧ widthL' ≠ obsL := by decide
  have e2 : indentL ≠ widthL' ∧ indentL ≠ modeL ∧ indentL ≠ obsL := by decide
  have e3 : modeL ≠ widthL' ∧ modeL ≠ indentL ∧ modeL ≠ obsL := by decide
  have e4 : obsL ≠ widthL' ∧ obsL ≠ indentL ∧ obsL ≠ modeL := by decide
  rcases whN_ways s with ⟨h1, rfl⟩ | ⟨h1, rfl⟩ | ⟨h1, rfl⟩ | ⟨h1, rfl⟩ | ⟨h1, _⟩
  · rw [h1]; simp [hadL, e2, e3, e4]
  · rw [h1]; simp [hadL, e1, e3, e4]
  · rw [h1]; simp [hadL, e1, e2, e4]
  · rw [h1]; simp [hadL, e1, e2, e3]
  · exact absurd h1 h
/-- A part is set, then looked at. -/
def newO (k : Int) (o : OptT) (v : TokT) : OptT :=
  if k = 0 then (v.2.2.2.2, o.2) else if k = 1 then (o.1, v.2.2.2.2, o.2.2) else if k = 2 then (o.1, o.2.1, modN v.2.2.2.1, o.2.2.2) else (o.1, o.2.1, o.2.2.1, v.2.2.2.1)
def setO (k : Int) (o : OptT) (v : TokT) : OptT × Int × Int :=
  if (if k = 0 ∨ k = 1 then v.1 ≠ 2 else v.1 ≠ 1) then (o, oddE v) else if optB (newO k o v) = true then (newO k o v, 0, 0) else (newO k o v, if k = 0 ∨ k = 1 then 20 else 9, v.2.1)
theorem setO_putO (k : Int) {o : OptT} {v : TokT} (ho : optB o = true) (hv : v.1 = 1 → namB v.2.2.2.1 = true) : (setO k o v).2 = (putO k o v).2 ∧ ((putO k o v).2.1 = 0 → (setO k o v).1 = (putO k o v).1) := by
  obtain ⟨w, i, m, ob⟩ := o
  have ho' := ho
  unfold optB at ho'
  simp only [Bool.and_eq_true, Bool.or_eq_true, decide_eq_true_eq] at ho'
  obtain ⟨⟨⟨hw, hi⟩, hm⟩, hob⟩ := ho'
  have hobb : (decide (ob = []) || namB ob) = true := by simpa using hob
  have hmb : (decide (1 ≤ m) && decide (m ≤ 3)) = true := by simpa using hm
  have hmn := modN_le v.2.2.2.1
  unfold setO putO newO
  by_cases h0 : k = 0
  · subst h0
    simp only [true_or, if_true]
    by_cases h2 : v.1 ≠ 2
    · rw [if_pos h2, if_pos h2]; exact ⟨rfl, fun h => absurd h (oddE_ne _)⟩
    · rw [if_neg h2, if_neg h2]
      have e : optB (v.2.2.2.2, i, m, ob) = widB v.2.2.2.2 := by unfold optB; simp only [hi, hmb, hobb, Bool.and_true]
      rw [e]
      by_cases h3 : widB v.2.2.2.2 = true
      · rw [if_pos h3, if_pos h3]; exact ⟨rfl, fun _ => rfl⟩
      · rw [if_neg h3, if_neg h3]; exact ⟨rfl, fun h => by cases h⟩
  · rw [if_neg h0, if_neg h0]
    by_cases h1 : k = 1
    · subst h1
      simp only [or_true, if_true]
      by_cases h2 : v.1 ≠ 2
      · rw [if_pos h2, if_pos h2]; exact ⟨rfl, fun h => absurd h (oddE_ne _)⟩
      · rw [if_neg h2, if_neg h2]
        have e : optB (w, v.2.2.2.2, m, ob) = indB v.2.2.2.2 := by unfold optB; simp only [hw, hmb, hobb, Bool.and_true, Bool.true_and]
        rw [e]
        by_cases h3 : indB v.2.2.2.2 = true
        · rw [if_pos h3, if_pos h3]; exact ⟨rfl, fun _ => rfl⟩
        · rw [if_neg h3, if_neg h3]; exact ⟨rfl, fun h => by cases h⟩
    · rw [if_neg h1, if_neg h1]
      have hk : ¬ (k = 0 ∨ k = 1) := by omega
      simp only [if_neg hk]
      by_cases h2 : k = 2
      · rw [if_pos h2, if_pos h2]
        by_cases h3 : v.1 ≠ 1
        · rw [if_pos h3, if_pos h3]; exact ⟨rfl, fun h => absurd h (oddE_ne _)⟩
        · rw [if_neg h3, if_neg h3]
          by_cases h4 : modN v.2.2.2.1 = 0
          · have e : optB (w, i, modN v.2.2.2.1, ob) = false := by unfold optB; simp only [h4]; simp
            rw [e, if_pos h4, if_neg (by decide)]; exact ⟨rfl, fun h => by cases h⟩
          · have e : optB (w, i, modN v.2.2.2.1, ob) = true := by unfold optB; simp only [hw, hi, hobb, Bool.and_true, Bool.true_and]; simp; omega
            rw [e, if_neg h4, if_pos rfl]; exact ⟨rfl, fun _ => rfl⟩
      · rw [if_neg h2, if_neg h2]
        by_cases h3 : v.1 ≠ 1
        · rw [if_pos h3, if_pos h3]; exact ⟨rfl, fun h => absurd h (oddE_ne _)⟩
        · rw [if_neg h3, if_neg h3]
          have e : optB (w, i, m, v.2.2.2.1) = true := by unfold optB; simp only [hw, hi, hmb, hv (by omega), Bool.or_true, Bool.and_true, Bool.true_and]
          rw [e, if_pos rfl]; exact ⟨rfl, fun _ => rfl⟩
end Go.Proofs.Yteiejcililponaa
/- Options that a law is given. -/
set_option linter.unusedVariables false
set_option linter.unusedSimpArgs false
namespace Go.Proofs.Yteiejcililponaa
open Go.RowKit Go.Deep Bf
def optV (o : OptT) : List Value := [.int .i64 o.1, .int .i64 o.2.1, .int .i64 o.2.2.1, S o.2.2.2]
def OptOk (x : OptT) : Prop := (-9223372036854775808 ≤ x.1 ∧ x.1 ≤ 9223372036854775807) ∧ (-9223372036854775808 ≤ x.2.1 ∧ x.2.1 ≤ 9223372036854775807) ∧ (-9223372036854775808 ≤ x.2.2.1 ∧ x.2.2.1 ≤ 9223372036854775807) ∧ x.2.2.2.length ≤ maxLen
section
variable {H : Type} {enc : TypeId × Value → H} {w : World} {base : Nat} {spare : Nat → Bool} {held : Bool}
set_option maxRecDepth 20000 in
theorem open_opt {n : Nat} {cs : List Value} {y : DataW H × List MemPlace} (h : DataW.trod enc Try.prog w base spare held n 85 cs = some y) : ∃ z, cs = optV z ∧ OptOk z := by
  obtain ⟨xs, m, _, _, hlen, hxl, hf⟩ := DataW.trod_struct Try.underlying85 h
  have hC : Try.prog.cellsOf 85 = 4 := by kernel_rfl
  rw [hC] at hlen
  match cs, hlen with
  | [v0, v1, v2, v3], _ =>
    have c0 : Try.prog.cellsOf 9 = 1 := by kernel_rfl
    have c1 : Try.prog.cellsOf 3 = 1 := by kernel_rfl
    have hx : ∀ i, i < 4 → ∃ y, xs[i]? = some y := fun i hi => ⟨xs[i]'(by rw [hxl]; exact hi), List.getElem?_eq_getElem _⟩
    obtain ⟨y0, hy0⟩ := hx 0 (by omega)
    have e0 : DataW.trod enc Try.prog w base spare held m 3 ([v0, v1, v2, v3].take (Try.prog.cellsOf 3)) = xs[0]? := hf 0 _ rfl
    rw [c1, hy0] at e0
    have e0 : DataW.trod enc Try.prog w base spare held m 3 [v0] = some y0 := e0
    obtain ⟨y1, hy1⟩ := hx 1 (by omega)
    have e1 : DataW.trod enc Try.prog w base spare held m 3 ([v1, v2, v3].take (Try.prog.cellsOf 3)) = xs[1]? := hf 1 _ rfl
    rw [c1, hy1] at e1
    have e1 : DataW.trod enc Try.prog w base spare held m 3 [v1] = some y1 := e1
    obtain ⟨y2, hy2⟩ := hx 2 (by omega)
    have e2 : DataW.trod enc Try.prog w base spare held m 3 ([v2, v3].take (Try.prog.cellsOf 3)) = xs[2]? := hf 2 _ rfl
    rw [c1, hy2] at e2
    have e2 : DataW.trod enc Try.prog w base spare held m 3 [v2] = some y2 := e2
    obtain ⟨y3, hy3⟩ := hx 3 (by omega)
    have e3 : DataW.trod enc Try.prog w base spare held m 9 ([v3].take (Try.prog.cellsOf 9)) = xs[3]? := hf 3 _ rfl
    rw [c0, hy3] at e3
    have e3 : DataW.trod enc Try.prog w base spare held m 9 [v3] = some y3 := e3
    obtain ⟨k, hk, _, hk2⟩ := DataW.trod_int Try.underlying3 e0
    obtain ⟨i, hi, _, hi2⟩ := DataW.trod_int Try.underlying3 e1
    obtain ⟨j, hj, _, hj2⟩ := DataW.trod_int Try.underlying3 e2
    obtain ⟨s, hs, _, hs2⟩ := DataW.trod_string Try.underlying9 e3
    cases hk; cases hi; cases hj; cases hs
    obtain ⟨⟨l⟩⟩ := s
    exact ⟨(k, i, j, l), rfl, bounds_i64 hk2, bounds_i64 hi2, bounds_i64 hj2, hs2⟩
end
end Go.Proofs.Yteiejcililponaa
