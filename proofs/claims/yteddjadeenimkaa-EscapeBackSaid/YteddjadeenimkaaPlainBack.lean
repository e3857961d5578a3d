/- Plain: what is written in quotes, or scrubbed, is read back. -/
import Derived.Test.YteddjadeenimkaaPlainUnq
import Derived.Test.YteddjadeenimkaaScrub
set_option linter.unusedVariables false
set_option linter.unusedSimpArgs false
namespace Go.Proofs.Yteddjadeenimkaa
open Go.RowKit Bf
theorem hexV_D (n : Nat) (h : n < 16) : hexV (hexD n).toNat = some n := by
  have : ∀ k, k < 16 → hexV (hexD k).toNat = some k := by decide
  exact this n h
theorem numV_app : ∀ (a b : List UInt8) (k m : Nat), numV k a = some m → numV k (a ++ b) = numV m b
  | [], b, k, m, h => by cases h; rfl
  | c :: a, b, k, m, h => by
    cases hc : hexV c.toNat with
    | none => rw [numV_none hc] at h; cases h
    | some d => rw [numV_some hc] at h; rw [List.cons_append, numV_some hc]; exact numV_app a b _ m h
theorem numV_hexL : ∀ (m n : Nat), n ≤ m → numV 0 (hexL n) = some n := by
  intro m
  induction m with
  | zero => intro n h; rw [hexL_small n (by omega), numV_some (hexV_D n (by omega))]; simp [numV]
  | succ m ih =>
    intro n h
    by_cases hn : n < 16
    · rw [hexL_small n hn, numV_some (hexV_D n hn)]; simp [numV]
    · rw [hexL_big n hn, numV_app _ _ _ _ (ih (n / 16) (by omega)), numV_some (hexV_D _ (Nat.mod_lt _ (by decide)))]
      simp only [numV, Option.some.injEq]; omega
theorem hexL_ne (n : Nat) : hexL n ≠ [] := by
  by_cases hn : n < 16
  · rw [hexL_small n hn]; simp
  · rw [hexL_big n hn]; simp
theorem numL_hexL (n : Nat) : numL (hexL n) = some n := by unfold numL; rw [if_neg (hexL_ne n)]; exact numV_hexL n n (Nat.le_refl _)
theorem scalarL_hex (r : Int) (h : scalarB r = true) (rest : List UInt8) : scalarL ([123] ++ hexL r.toNat ++ [125] ++ rest) = (encL r, (hexL r.toNat).length + 2) := by
  obtain ⟨s0, s1, _⟩ := scalarB_true h
  obtain ⟨l1, l6⟩ := hexL_len 5 r.toNat (Nat.lt_of_le_of_lt (m := 1114111) (by omega) (by decide))
  have e0 : [123] ++ hexL r.toNat ++ [125] ++ rest = 123 :: (hexL r.toNat ++ 125 :: rest) := by simp
  have er : ((r.toNat : Nat) : Int) = r := by omega
  rw [e0]
  have hg : goodJ (123 :: (hexL r.toNat ++ 125 :: rest)) ((hexL r.toNat).length + 1) := by
    refine ⟨rfl, ?_, r.toNat, ?_, by rw [er]; exact h⟩
    · unfold bt
      rw [List.getD_eq_getElem?_getD, Int.toNat_natCast, List.getElem?_cons_succ, List.getElem?_append_right (Nat.le_refl _)]
      simp
    · simp only [List.drop_succ_cons, List.drop_zero, Nat.add_sub_cancel]
      rw [List.take_left]; exact numL_hexL _
  obtain ⟨m, hm, hs, _⟩ := goodJ_scalar _ ((hexL r.toNat).length + 1) (by omega) (by omega) (by simp) hg
  rw [hs]
  simp only [List.drop_succ_cons, List.drop_zero, Nat.add_sub_cancel] at hm
  rw [List.take_left, numL_hexL] at hm
  cases hm
  rw [er]
theorem oneL_x (c : UInt8) (rest : List UInt8) : oneL ([92, 120, hexD (c.toNat / 16), hexD (c.toNat % 16)] ++ rest) = ([c], 4) := by
  have hc := c.toNat_lt
  show oneL (92 :: 120 :: (hexD (c.toNat / 16) :: hexD (c.toNat % 16) :: rest)) = _
  rw [oneL_cons, if_pos (by decide)]
  have hn : numL [hexD (c.toNat / 16), hexD (c.toNat % 16)] = some c.toNat := by
    unfold numL
    rw [if_neg (by simp), numV_some (hexV_D _ (by omega)), numV_some (hexV_D _ (by omega))]
    simp only [numV, Option.some.injEq]; omega
  show oneT 120 _ = _
  unfold oneT
  rw [if_neg (by decide), if_neg (by decide), if_neg (by decide), if_neg (by decide), if_pos rfl, if_neg (by simp)]
  show (match numL [hexD (c.toNat / 16), hexD (c.toNat % 16)] with | some n => ([UInt8.ofNat n], 4) | none => ([], 0)) = _
  rw [hn]
  simp
theorem oneL_u (r : Int) (h : scalarB r = true) (rest : List UInt8) : oneL ([92, 117, 123] ++ hexL r.toNat ++ [125] ++ rest) = (encL r, ([92, 117, 123] ++ hexL r.toNat ++ [125] : List UInt8).length) := by
  have hs := scalarL_hex r h rest
  show oneL (92 :: 117 :: ([123] ++ hexL r.toNat ++ [125] ++ rest)) = _
  rw [oneL_cons, if_pos (by decide)]
  show oneT 117 _ = _
  unfold oneT
  rw [if_neg (by decide), if_neg (by decide), if_neg (by decide), if_neg (by decide), if_neg (by decide), if_pos rfl, hs, if_neg (encL_ne r h)]
  simp; omega
theorem oneL_short (r : Int) (h : shortL r ≠ []) (hs : scalarB r = true) (rest : List UInt8) : oneL (shortL r ++ rest) = (encL r, (shortL r).length) ∧ bt (shortL r ++ rest) 0 = 92 := by
  have enc1 : ∀ z : Int, scalarB z = true → z < 128 → encL z = [u8 z] := encL_1
  unfold shortL at h ⊢
  split
  · rename_i e; subst e
    refine ⟨?_, rfl⟩
    rw [enc1 34 hs (by decide)]; rfl
  · rename_i h1
    rw [if_neg h1] at h
    split
    · rename_i e; subst e
      refine ⟨?_, rfl⟩
      rw [enc1 92 hs (by decide)]; rfl
    · rename_i h2
      rw [if_neg h2] at h
      split
      · rename_i e; subst e
        refine ⟨?_, rfl⟩
        rw [enc1 9 hs (by decide)]; rfl
      · rename_i h3
        rw [if_neg h3] at h
        split
        · rename_i e; subst e
          refine ⟨?_, rfl⟩
          rw [enc1 10 hs (by decide)]; rfl
        · rename_i h4
          rw [if_neg h4] at h
          split
          · rename_i e; subst e
            refine ⟨?_, rfl⟩
            rw [enc1 13 hs (by decide)]; rfl
          · rename_i h5
            rw [if_neg h5] at h; exact absurd rfl h
theorem readU_esc (qt : Bool) (l o : List UInt8) (n : Nat) (hb : bt l 0 = 92) (ho : oneL l = (o, n)) (hn : n ≠ 0) : readU qt l = (o, n, 0) := by
  unfold readU; rw [if_pos hb, ho, if_neg hn]
theorem readU_enc (qt : Bool) (r : Int) (h : scalarB r = true) (rest : List UInt8) (hb : bt (encL r ++ rest) 0 ≠ 92) (hu : qt = true ∨ r ≠ 10 → unsafeB r = false) : readU qt (encL r ++ rest) = (encL r, (encL r).length, 0) := by
  have hd := dec_enc r rest h
  have hbad : badT qt (encL r ++ rest) = 0 := by
    unfold badT; rw [hd, if_neg (by simp)]
    refine if_neg ?_
    rintro ⟨h1, h2⟩
    rw [hu h1] at h2; cases h2
  unfold readU; rw [if_neg hb, if_pos hbad, hd, List.take_left]
/-- The first byte of a scalar's bytes is a small one just if it is the scalar. -/
theorem bt_enc (r : Int) (h : scalarB r = true) (rest : List UInt8) (k : Int) (hk : k < 128) : bt (encL r ++ rest) 0 = k ↔ r = k := by
  obtain ⟨s0, s1, _⟩ := scalarB_true h
  by_cases h1 : r < 128
  · rw [encL_1 r h h1]
    show ((u8 r).toNat : Int) = k ↔ _
    rw [u8_toNat r s0 (by omega)]
  · have big : ∀ x : Int, 128 ≤ x → x < 256 → ∀ t : List UInt8, bt (u8 x :: t) 0 ≠ k := fun x hx hx' t => by
      show ((u8 x).toNat : Int) ≠ k
      rw [u8_toNat x (by omega) hx']; omega
    refine ⟨fun e => absurd e ?_, fun e => by omega⟩
    by_cases h2 : r < 2048
    · rw [encL_2 r h h1 h2]; exact big _ (by omega) (by omega) _
    · by_cases h3 : r < 65536
      · rw [encL_3 r h h1 h2 h3]; exact big _ (by omega) (by omega) _
      · rw [encL_4 r h h1 h2 h3]; exact big _ (by omega) (by omega) _
theorem unitE_read (qt : Bool) (s rest : List UInt8) (hs : s ≠ []) : (unitE s).1 ≠ [] ∧ bt ((unitE s).1 ++ rest) 0 ≠ 34 ∧ readU qt ((unitE s).1 ++ rest) = (s.take (unitE s).2, (unitE s).1.length, 0) := by
  cases s with
  | nil => exact absurd rfl hs
  | cons c l =>
    obtain ⟨r, n, ok, hd⟩ := trip (decS (c :: l))
    rw [unitE_eq c l r n ok hd]
    cases ok with
    | false =>
      rw [if_pos rfl]
      refine ⟨by simp, (by decide : (92 : Int) ≠ 34), ?_⟩
      rw [readU_esc qt _ [c] 4 rfl (oneL_x c rest) (by decide)]; rfl
    | true =>
      rw [if_neg (by simp)]
      obtain ⟨h1, h2⟩ := decS_enc _ hs r n hd
      by_cases h3 : shortL r = []
      · rw [if_neg (by simp [h3])]
        by_cases h4 : unsafeB r = true
        · rw [if_pos h4]
          refine ⟨by simp, (by decide : (92 : Int) ≠ 34), ?_⟩
          rw [readU_esc qt _ _ _ rfl (oneL_u r h2 rest) (by simp)]
          simp only [h1]
        · rw [if_neg h4]
          simp only [h1]
          have n34 : r ≠ 34 := by rintro rfl; exact absurd h3 (by decide)
          have n92 : r ≠ 92 := by rintro rfl; exact absurd h3 (by decide)
          refine ⟨encL_ne r h2, fun e => n34 ((bt_enc r h2 rest 34 (by decide)).1 e), ?_⟩
          exact readU_enc qt r h2 rest (fun e => n92 ((bt_enc r h2 rest 92 (by decide)).1 e)) (fun _ => by simpa using h4)
      · rw [if_pos h3]
        obtain ⟨o1, o2⟩ := oneL_short r h3 h2 rest
        refine ⟨h3, by simp only; rw [o2]; decide, ?_⟩
        simp only
        rw [readU_esc qt _ _ _ o2 o1 (by simp [h3]), h1]
theorem unL_bodyQ : ∀ (m : Nat) (s t : List UInt8), s.length ≤ m → unL true (bodyQ s ++ 34 :: t) = (s, (bodyQ s).length + 1, 0) := by
  intro m
  induction m with
  | zero =>
    intro s t h
    have : s = [] := List.length_eq_zero_iff.1 (by omega)
    subst this
    rw [bodyQ_nil]
    exact unL_quote _ (by simp) rfl
  | succ m ih =>
    intro s t h
    by_cases hs : s = []
    · subst hs; rw [bodyQ_nil]; exact unL_quote _ (by simp) rfl
    · have hb := unitE_bd s hs
      have hp : 1 ≤ s.length := List.length_pos_iff.2 hs
      obtain ⟨h1, h2, h3⟩ := unitE_read true s (bodyQ (s.drop (unitE s).2) ++ 34 :: t) hs
      rw [bodyQ_step s hs, List.append_assoc, unL_ok true _ (by simp [h1]) (fun _ => h2) h3, List.drop_left, ih _ t (by rw [List.length_drop]; omega)]
      simp only [List.take_append_drop, List.length_append, Nat.add_assoc]
theorem unL_scrub : ∀ (m : Nat) (s : List UInt8), s.length ≤ m → unL false (scrubL s) = (s, (scrubL s).length, 0) := by
  intro m
  induction m with
  | zero =>
    intro s h
    have : s = [] := List.length_eq_zero_iff.1 (by omega)
    subst this
    rw [scrubL_nil, unL_nil]; rfl
  | succ m ih =>
    intro s h
    by_cases hs : s = []
    · subst hs; rw [scrubL_nil, unL_nil]; rfl
    · have hb := scrubU_bd s hs
      have hp : 1 ≤ s.length := List.length_pos_iff.2 hs
      have key : ∀ rest, (scrubU s).1 ≠ [] ∧ readU false ((scrubU s).1 ++ rest) = (s.take (scrubU s).2, (scrubU s).1.length, 0) := by
        intro rest
        cases s with
        | nil => exact absurd rfl hs
        | cons c l =>
          rw [scrubU_cons]
          split
          · rename_i hc
            have e10 : encL 10 = [10] := by decide
            have e34 : encL 34 = [34] := by decide
            rcases hc with rfl | rfl
            · have := readU_enc false 10 (by decide) rest (fun e => absurd ((bt_enc 10 (by decide) rest 92 (by decide)).1 e) (by decide)) (fun h => absurd h (by simp))
              rw [e10] at this
              exact ⟨by simp, this⟩
            · have := readU_enc false 34 (by decide) rest (fun e => absurd ((bt_enc 34 (by decide) rest 92 (by decide)).1 e) (by decide)) (fun _ => by decide +kernel)
              rw [e34] at this
              exact ⟨by simp, this⟩
          · obtain ⟨h1, _, h3⟩ := unitE_read false (c :: l) rest hs
            exact ⟨h1, h3⟩
      obtain ⟨h1, h3⟩ := key (scrubL (s.drop (scrubU s).2))
      rw [scrubL_step s hs, unL_ok false _ (by simp [h1]) (by simp) h3, List.drop_left, ih _ (by rw [List.length_drop]; omega)]
      simp only [List.take_append_drop, List.length_append]
/-! what is scrubbed is safe -/
def SafeN (zs : List Int) : Prop := ∀ z ∈ zs, scalarB z = true ∧ (z ≠ 10 → unsafeB z = false)
theorem scrubL_safe : ∀ (m : Nat) (l : List UInt8), l.length ≤ m → ∃ zs, scrubL l = encAll zs ∧ SafeN zs := by
  intro m
  induction m with
  | zero => intro l h; have : l = [] := List.length_eq_zero_iff.1 (by omega); subst this; exact ⟨[], by rw [scrubL_nil]; rfl, fun z hz => by cases hz⟩
  | succ m ih =>
    intro l h
    by_cases hl : l = []
    · subst hl; exact ⟨[], by rw [scrubL_nil]; rfl, fun z hz => by cases hz⟩
    · have hb := scrubU_bd l hl
      have hp : 1 ≤ l.length := List.length_pos_iff.2 hl
      obtain ⟨ys, h3, h4⟩ := ih (l.drop (scrubU l).2) (by rw [List.length_drop]; omega)
      have key : ∃ zs, (scrubU l).1 = encAll zs ∧ SafeN zs := by
        cases l with
        | nil => exact absurd rfl hl
        | cons c l =>
          rw [scrubU_cons]
          split
          · rename_i hc
            rcases hc with rfl | rfl
            · exact ⟨[10], by decide, fun z hz => by rw [List.mem_singleton.1 hz]; exact ⟨by decide, fun h => absurd rfl h⟩⟩
            · exact ⟨[34], by decide, fun z hz => by rw [List.mem_singleton.1 hz]; exact ⟨by decide, fun _ => by decide +kernel⟩⟩
          · obtain ⟨zs, h1, h2⟩ := unitE_safe (c :: l) hl
            exact ⟨zs, h1, fun z hz => ⟨(h2 z hz).1, fun _ => (h2 z hz).2⟩⟩
      obtain ⟨zs, h1, h2⟩ := key
      exact ⟨zs ++ ys, by rw [scrubL_step l hl, h1, h3, encAll_append], fun z hz => (List.mem_append.1 hz).elim (h2 z) (h4 z)⟩
theorem firstL_enc (zs : List Int) (h : SafeN zs) : firstL (encAll zs) = (encAll zs).length := by
  induction zs with
  | nil => exact firstL_nil
  | cons z zs ih =>
    obtain ⟨h1, h2⟩ := h z (by simp)
    have e : encAll (z :: zs) = encL z ++ encAll zs := by simp [encAll]
    have hd := dec_enc z (encAll zs) h1
    have hne : encL z ++ encAll zs ≠ [] := by intro hh; exact encL_ne z h1 (List.append_eq_nil_iff.1 hh).1
    rw [e, firstL_ok _ hne (by
      unfold badS; rw [hd, if_neg (by simp)]
      refine if_neg ?_
      rintro ⟨h3, h4⟩
      rw [h2 h3] at h4; cases h4), hd]
    simp only [List.drop_left]
    rw [ih (fun y hy => h y (by simp [hy])), List.length_append]
theorem firstL_scrub (s : List UInt8) : firstL (scrubL s) = (scrubL s).length := by
  obtain ⟨zs, h1, h2⟩ := scrubL_safe _ s (Nat.le_refl _)
  rw [h1]; exact firstL_enc zs h2
/-! as many lines -/
theorem enc_no10 (r : Int) (h : scalarB r = true) (hr : r ≠ 10) : List.count 10 (encL r) = 0 := by
  obtain ⟨s0, s1, _⟩ := scalarB_true h
  have ne : ∀ x : Int, 0 ≤ x → x < 256 → x ≠ 10 → u8 x ≠ 10 := fun x h0 h1 hx e => by
    have := u8_toNat x h0 h1
    rw [e] at this; exact hx (by simpa using this.symm)
  rw [List.count_eq_zero]
  by_cases h1 : r < 128
  · rw [encL_1 r h h1]; simp only [List.mem_singleton]; exact fun e => ne _ (by omega) (by omega) (by omega) e.symm
  · by_cases h2 : r < 2048
    · rw [encL_2 r h h1 h2]; simp only [List.mem_cons, List.not_mem_nil, or_false]
      rintro (e | e) <;> exact ne _ (by omega) (by omega) (by omega) e.symm
    · by_cases h3 : r < 65536
      · rw [encL_3 r h h1 h2 h3]; simp only [List.mem_cons, List.not_mem_nil, or_false]
        rintro (e | e | e) <;> exact ne _ (by omega) (by omega) (by omega) e.symm
      · rw [encL_4 r h h1 h2 h3]; simp only [List.mem_cons, List.not_mem_nil, or_false]
        rintro (e | e | e | e) <;> exact ne _ (by omega) (by omega) (by omega) e.symm
theorem asc_no10 (t : List UInt8) (h : asc t) : List.count 10 t = 0 := by
  rw [List.count_eq_zero]; intro hm; have := (h _ hm).1; simp at this
theorem unitE_no10 (c : UInt8) (l : List UInt8) (hc : c ≠ 10) : List.count 10 (unitE (c :: l)).1 = 0 ∧ List.count 10 ((c :: l).take (unitE (c :: l)).2) = 0 := by
  obtain ⟨r, n, ok, hd⟩ := trip (decS (c :: l))
  rw [unitE_eq c l r n ok hd]
  have hcl := c.toNat_lt
  cases ok with
  | false =>
    rw [if_pos rfl]
    refine ⟨asc_no10 _ (asc_append (a := [92, 120]) (b := [hexD (c.toNat / 16), hexD (c.toNat % 16)]) (by unfold asc; decide) ?_), ?_⟩
    · intro d hd
      rcases List.mem_cons.1 hd with rfl | hd
      · exact hexD_asc _ (by omega)
      · rw [List.mem_singleton.1 hd]; exact hexD_asc _ (by omega)
    · rw [List.count_eq_zero]; simp; exact fun e => hc e.symm
  | true =>
    rw [if_neg (by simp)]
    obtain ⟨h1, h2⟩ := decS_enc _ (by simp) r n hd
    have hr : r ≠ 10 := by
      rintro rfl
      rw [show encL 10 = [10] by decide] at h1
      cases n with
      | zero => simp at h1
      | succ n => simp at h1; exact hc h1.1
    have ht : List.count 10 ((c :: l).take n) = 0 := by rw [h1]; exact enc_no10 r h2 hr
    split
    · exact ⟨asc_no10 _ (shortL_asc r), ht⟩
    · split
      · exact ⟨asc_no10 _ (asc_append (asc_append (by unfold asc; decide) (hexL_asc _ _ (Nat.le_refl _))) (by unfold asc; decide)), ht⟩
      · exact ⟨ht, ht⟩
theorem scrubL_lines : ∀ (m : Nat) (l : List UInt8), l.length ≤ m → List.count 10 (scrubL l) = List.count 10 l := by
  intro m
  induction m with
  | zero => intro l h; have : l = [] := List.length_eq_zero_iff.1 (by omega); subst this; rw [scrubL_nil]
  | succ m ih =>
    intro l h
    by_cases hl : l = []
    · subst hl; rw [scrubL_nil]
    · have hb := scrubU_bd l hl
      have hp : 1 ≤ l.length := List.length_pos_iff.2 hl
      have := ih (l.drop (scrubU l).2) (by rw [List.length_drop]; omega)
      have key : List.count 10 (scrubU l).1 = List.count 10 (l.take (scrubU l).2) := by
        cases l with
        | nil => exact absurd rfl hl
        | cons c l =>
          rw [scrubU_cons]
          split
          · rfl
          · rename_i hc
            obtain ⟨h1, h2⟩ := unitE_no10 c l (fun e => hc (.inl e))
            rw [h1, h2]
      rw [scrubL_step l hl, List.count_append, this, key, ← List.count_append, List.take_append_drop]
/-! what is safe, and has no backslash, stays as it is -/
theorem scrubL_same : ∀ (m : Nat) (l : List UInt8), l.length ≤ m → firstL l = l.length → List.count 92 l = 0 → scrubL l = l := by
  intro m
  induction m with
  | zero => intro l h _ _; have : l = [] := List.length_eq_zero_iff.1 (by omega); subst this; exact scrubL_nil
  | succ m ih =>
    intro l h hf hc
    by_cases hl : l = []
    · subst hl; exact scrubL_nil
    · have hp : 1 ≤ l.length := List.length_pos_iff.2 hl
      by_cases hbad : badS l = 0
      · obtain ⟨r, n, ok, hd⟩ := trip (decS l)
        have hdl := decS_len l
        rw [hd] at hdl
        have hn := hdl.2.1 hl
        simp only at hdl hn
        rw [firstL_ok l hl hbad, hd] at hf
        simp only at hf
        have hu : scrubU l = (l.take n, n) := by
          unfold badS at hbad; rw [hd] at hbad
          cases ok with
          | false => simp at hbad
          | true =>
            rw [if_neg (by simp)] at hbad
            have hus : r ≠ 10 → unsafeB r = false := fun h10 => by
              cases hx : unsafeB r with
              | false => rfl
              | true => rw [if_pos ⟨h10, hx⟩] at hbad; cases hbad
            obtain ⟨h1, h2⟩ := decS_enc l hl r n hd
            cases l with
            | nil => exact absurd rfl hl
            | cons c l =>
              have one : ∀ k : UInt8, k.toNat < 128 → c = k → r = (k.toNat : Int) ∧ n = 1 := fun k hk hck => by
                subst hck
                have hw := want1 c (by omega)
                rw [decS_1 c l hw] at hd
                cases hd; exact ⟨rfl, rfl⟩
              rw [scrubU_cons]
              split
              · rename_i hcc
                have : n = 1 := by rcases hcc with e | e; exact (one 10 (by decide) e).2; exact (one 34 (by decide) e).2
                subst this; rfl
              · rename_i hcc
                rw [unitE_eq c l r n true hd, if_neg (by simp)]
                have ne : ∀ k : UInt8, k.toNat < 128 → r = (k.toNat : Int) → c = k := fun k hk e => by
                  have hb := (bt_enc r h2 ((c :: l).drop n) (k.toNat : Int) (by omega)).2 e
                  rw [← h1, List.take_append_drop] at hb
                  exact UInt8.toNat_inj.1 (by have : ((c.toNat : Nat) : Int) = (k.toNat : Int) := hb
                                              omega)
                have c92 : c ≠ 92 := by rintro rfl; simp at hc
                have hsh : shortL r = [] := by
                  have r34 : r ≠ 34 := fun e => hcc (.inr (ne 34 (by decide) (by rw [e]; rfl)))
                  have r92 : r ≠ 92 := fun e => c92 (ne 92 (by decide) (by rw [e]; rfl))
                  have r10 : r ≠ 10 := fun e => hcc (.inl (ne 10 (by decide) (by rw [e]; rfl)))
                  have r9 : r ≠ 9 := fun e => by have := hus r10; rw [e] at this; exact absurd this (by decide +kernel)
                  have r13 : r ≠ 13 := fun e => by have := hus r10; rw [e] at this; exact absurd this (by decide +kernel)
                  unfold shortL
                  rw [if_neg r34, if_neg r92, if_neg r9, if_neg r10, if_neg r13]
                have h10 : r ≠ 10 := fun e => hcc (.inl (ne 10 (by decide) (by rw [e]; rfl)))
                rw [if_neg (by simp [hsh]), if_neg (by simp [hus h10])]
        have hc2 : List.count 92 (l.drop n) = 0 := by
          have := (List.drop_sublist n l).count_le 92
          omega
        rw [scrubL_step l hl, hu]
        simp only
        rw [ih (l.drop n) (by rw [List.length_drop]; omega) (by rw [List.length_drop]; omega) hc2, List.take_append_drop]
      · rw [firstL_bad l hbad] at hf; omega
end Go.Proofs.Yteddjadeenimkaa
