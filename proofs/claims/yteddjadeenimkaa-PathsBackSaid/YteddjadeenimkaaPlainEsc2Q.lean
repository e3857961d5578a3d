/- Plain: a text in quotes is well-formed, and no rune of it steers a terminal. -/
import Derived.Test.YteddjadeenimkaaBPL
import Derived.Test.YteddjadeenimkaaUtf6Q
set_option linter.unusedVariables false
set_option linter.unusedSimpArgs false
namespace Go.Proofs.Yteddjadeenimkaa
open Bf
def SafeZ (zs : List Int) : Prop := ∀ z ∈ zs, scalarB z = true ∧ unsafeB z = false
theorem ascii_unsafe : ∀ k : Fin 95, unsafeB ((k.val : Int) + 32) = false := by decide +kernel
theorem ascii_safe (k : Nat) (h : 32 ≤ k ∧ k ≤ 126) : unsafeB (k : Int) = false := by
  have := ascii_unsafe ⟨k - 32, by omega⟩
  simp only at this
  rw [← this]; congr 1; omega
def asc (t : List UInt8) : Prop := ∀ c ∈ t, 32 ≤ c.toNat ∧ c.toNat ≤ 126
theorem asc_append {a b : List UInt8} (ha : asc a) (hb : asc b) : asc (a ++ b) := fun c hc => (List.mem_append.1 hc).elim (ha c) (hb c)
def zsOf (t : List UInt8) : List Int := t.map fun c => (c.toNat : Int)
theorem encAll_asc (t : List UInt8) (h : asc t) : encAll (zsOf t) = t ∧ SafeZ (zsOf t) := by
  induction t with
  | nil => exact ⟨rfl, fun z hz => by cases hz⟩
  | cons c t ih =>
    have hc := h c (by simp)
    obtain ⟨h1, h2⟩ := ih fun d hd => h d (by simp [hd])
    have hs : scalarB (c.toNat : Int) = true := scalarB_mk (by omega) (by omega) (by omega)
    have he : encL (c.toNat : Int) = [c] := by
      rw [encL_1 _ hs (by omega), u8_eq (c.toNat : Int) c (by omega) (by omega) rfl]
    refine ⟨?_, fun z hz => ?_⟩
    · show encL (c.toNat : Int) ++ encAll (zsOf t) = c :: t
      rw [he, h1]; rfl
    · rcases List.mem_cons.1 hz with rfl | hz
      · exact ⟨hs, ascii_safe _ hc⟩
      · exact h2 z hz
theorem hexD_asc (n : Nat) (h : n < 16) : 32 ≤ (hexD n).toNat ∧ (hexD n).toNat ≤ 126 := by
  have : ∀ n : Fin 16, 32 ≤ (hexD n.val).toNat ∧ (hexD n.val).toNat ≤ 126 := by decide
  exact this ⟨n, h⟩
theorem hexL_asc : ∀ (m n : Nat), n ≤ m → asc (hexL n) := by
  intro m
  induction m with
  | zero => intro n h; rw [hexL_small n (by omega)]; intro c hc; rw [List.mem_singleton.1 hc]; exact hexD_asc n (by omega)
  | succ m ih =>
    intro n h
    by_cases hn : n < 16
    · rw [hexL_small n hn]; intro c hc; rw [List.mem_singleton.1 hc]; exact hexD_asc n hn
    · rw [hexL_big n hn]
      refine asc_append (ih _ (by omega)) ?_
      intro c hc; rw [List.mem_singleton.1 hc]; exact hexD_asc _ (by omega)
theorem shortL_asc (r : Int) : asc (shortL r) := by
  unfold shortL
  have h1 : asc [92, 34] := by unfold asc; decide
  have h2 : asc [92, 92] := by unfold asc; decide
  have h3 : asc [92, 116] := by unfold asc; decide
  have h4 : asc [92, 110] := by unfold asc; decide
  have h5 : asc [92, 114] := by unfold asc; decide
  have h6 : asc [] := fun c hc => by cases hc
  split
  · exact h1
  · split
    · exact h2
    · split
      · exact h3
      · split
        · exact h4
        · split
          · exact h5
          · exact h6
/-- The bytes of a unit that is well-formed are its scalar's. -/
theorem decS_enc (l : List UInt8) (hl : l ≠ []) (r : Int) (n : Nat) (h : decS l = (r, n, true)) : l.take n = encL r ∧ scalarB r = true := by
  cases l with
  | nil => exact absurd rfl hl
  | cons a l =>
    obtain ⟨r', n', ok, hd, _, _, _, hok, _⟩ := ref_dec a l
    rw [hd] at h
    obtain ⟨rfl, h2⟩ := Prod.mk.inj h
    obtain ⟨rfl, rfl⟩ := Prod.mk.inj h2
    obtain ⟨_, hb, hr⟩ := hok rfl
    have he := isB_enc hb
    rw [hr] at he
    refine ⟨he.symm, ?_⟩
    unfold isB at hb; rw [hr] at hb
    rw [Bool.and_eq_true] at hb; exact hb.1
theorem unitE_safe (l : List UInt8) (hl : l ≠ []) : ∃ zs, (unitE l).1 = encAll zs ∧ SafeZ zs := by
  cases l with
  | nil => exact absurd rfl hl
  | cons c l =>
    obtain ⟨r, n, ok, hd⟩ := trip (decS (c :: l))
    rw [unitE_eq c l r n ok hd]
    have fromAsc : ∀ t, asc t → ∃ zs, t = encAll zs ∧ SafeZ zs := fun t ht => ⟨zsOf t, (encAll_asc t ht).1.symm, (encAll_asc t ht).2⟩
    have hc := c.toNat_lt
    split
    · refine fromAsc _ ?_
      refine asc_append (a := [92, 120]) (b := [hexD (c.toNat / 16), hexD (c.toNat % 16)]) (by unfold asc; decide) ?_
      intro d hd
      rcases List.mem_cons.1 hd with rfl | hd
      · exact hexD_asc _ (by omega)
      · rw [List.mem_singleton.1 hd]; exact hexD_asc _ (by omega)
    · rename_i hok
      split
      · exact fromAsc _ (shortL_asc r)
      · split
        · exact fromAsc _ (asc_append (asc_append (by unfold asc; decide) (hexL_asc _ _ (Nat.le_refl _))) (by unfold asc; decide))
        · rename_i hu
          have hok' : ok = true := by simpa using hok
          subst hok'
          obtain ⟨h1, h2⟩ := decS_enc _ hl r n hd
          refine ⟨[r], by simp only [h1, encAll, List.flatMap_cons, List.flatMap_nil, List.append_nil], fun z hz => ?_⟩
          rw [List.mem_singleton.1 hz]; exact ⟨h2, by simpa using hu⟩
theorem encAll_append (a b : List Int) : encAll (a ++ b) = encAll a ++ encAll b := List.flatMap_append
theorem bodyQ_safe : ∀ (m : Nat) (l : List UInt8), l.length ≤ m → ∃ zs, bodyQ l = encAll zs ∧ SafeZ zs := by
  intro m
  induction m with
  | zero => intro l h; have : l = [] := List.length_eq_zero_iff.1 (by omega); subst this; exact ⟨[], by rw [bodyQ_nil]; rfl, fun z hz => by cases hz⟩
  | succ m ih =>
    intro l h
    by_cases hl : l = []
    · subst hl; exact ⟨[], by rw [bodyQ_nil]; rfl, fun z hz => by cases hz⟩
    · obtain ⟨zs, h1, h2⟩ := unitE_safe l hl
      have hb := unitE_bd l hl
      have hp : 1 ≤ l.length := List.length_pos_iff.2 hl
      obtain ⟨ys, h3, h4⟩ := ih (l.drop (unitE l).2) (by rw [List.length_drop]; omega)
      refine ⟨zs ++ ys, by rw [bodyQ_step l hl, h1, h3, encAll_append], fun z hz => (List.mem_append.1 hz).elim (h2 z) (h4 z)⟩
theorem keptL_all (zs : List Int) (h : SafeZ zs) : keptL zs = zs := by
  unfold keptL; rw [List.filter_eq_self]; exact fun z hz => (h z hz).1
theorem runesL_len : ∀ (m : Nat) (l : List UInt8), l.length ≤ m → (runesL l).length ≤ l.length := by
  intro m
  induction m with
  | zero => intro l h; have : l = [] := List.length_eq_zero_iff.1 (by omega); subst this; rw [runesL_nil]; simp
  | succ m ih =>
    intro l h
    by_cases hl : l = []
    · subst hl; rw [runesL_nil]; simp
    · obtain ⟨r, n, ok, hd⟩ := trip (decS l)
      cases ok
      · rw [runesL_bad l r n hd]; simp
      · rw [runesL_ok l r n hl hd]
        have hb := decS_len l
        rw [hd] at hb
        have h1 := hb.2.1 hl
        simp only at h1
        have hp : 1 ≤ l.length := List.length_pos_iff.2 hl
        have := ih (l.drop n) (by rw [List.length_drop]; omega)
        rw [List.length_drop] at this
        simp only [List.length_cons]; omega
/-- What the law asks of a text in quotes. -/
theorem quoteL_safe (s : List UInt8) : badL (quoteL s) = (quoteL s).length ∧ 1 < (runesL (quoteL s)).length ∧ ∀ r ∈ runesL (quoteL s), scalarB r = true ∧ unsafeB r = false := by
  obtain ⟨zs, h1, h2⟩ := bodyQ_safe _ s (Nat.le_refl _)
  have h34 : encL 34 = [34] := by decide
  have hq : quoteL s = encAll ([34] ++ zs ++ [34]) := by
    rw [encAll_append, encAll_append]; unfold quoteL; rw [h1]; simp [encAll, h34]
  have hs : SafeZ ([34] ++ zs ++ [34]) := by
    have h0 : scalarB 34 = true ∧ unsafeB 34 = false := ⟨by decide, by decide +kernel⟩
    intro z hz
    simp only [List.mem_append, List.mem_singleton] at hz
    rcases hz with (rfl | hz) | rfl
    · exact h0
    · exact h2 z hz
    · exact h0
  obtain ⟨f1, f2, _⟩ := encAll_facts ([34] ++ zs ++ [34])
  rw [← hq] at f1 f2
  rw [keptL_all _ hs] at f2
  rw [f2]
  exact ⟨f1, by simp, fun r hr => hs r hr⟩
theorem decS_27 : decS [27, 255] = (27, 1, true) := by decide
theorem decS_255 : decS [255] = (0, 1, false) := by decide
theorem quoteL_ex : quoteL [27, 255] = [34, 92, 117, 123, 49, 98, 125, 92, 120, 102, 102, 34] := by
  have h1 : unitE [27, 255] = ([92, 117, 123, 49, 98, 125], 1) := by
    rw [unitE_eq 27 [255] 27 1 true decS_27]
    have hs : shortL 27 = [] := by decide
    have hu : unsafeB 27 = true := by decide +kernel
    have hx : hexL (27 : Int).toNat = [49, 98] := by
      show hexL 27 = _
      rw [hexL_big 27 (by decide), hexL_small (27 / 16) (by decide)]; decide
    rw [if_neg (by simp), if_neg (by simp [hs]), if_pos hu, hx]; rfl
  have h2 : unitE [255] = ([92, 120, 102, 102], 1) := by
    rw [unitE_eq 255 [] 0 1 false decS_255, if_pos rfl]; decide
  unfold quoteL
  rw [bodyQ_step _ (by simp), h1]
  show 34 :: ([92, 117, 123, 49, 98, 125] ++ bodyQ [255]) ++ [34] = _
  rw [bodyQ_step _ (by simp), h2]
  show 34 :: ([92, 117, 123, 49, 98, 125] ++ ([92, 120, 102, 102] ++ bodyQ [])) ++ [34] = _
  rw [bodyQ_nil]; rfl
end Go.Proofs.Yteddjadeenimkaa
