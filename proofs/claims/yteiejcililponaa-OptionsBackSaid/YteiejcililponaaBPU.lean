/- BPU: texts of this proof, joined by program: PlainTok3, PlainTok5, PlainCur2. -/
import Derived.Test.YteiejcililponaaBPT
import Derived.Test.YteiejcililponaaCells3Q
/- Plain: a token's bytes alone, and what lies between tokens. -/
set_option linter.unusedVariables false
set_option linter.unusedSimpArgs false
namespace Go.Proofs.Yteiejcililponaa
open Go.RowKit Bf
theorem decS_take (l : List UInt8) (hl : l ≠ []) {r : Int} {n : Nat} (hd : decS l = (r, n, true)) (k : Nat) (hk : n ≤ k) : decS (l.take k) = (r, n, true) := by
  obtain ⟨r', n', ok, hd', n1, n2, n3, hok, _⟩ := ref_dec' l hl
  rw [hd] at hd'
  cases hd'
  obtain ⟨_, hb, hr⟩ := hok rfl
  have := isB_take l n k hk n1 hb
  rw [hr] at this; exact this
theorem sigL_takeGe : ∀ (l : List UInt8) (k : Nat), sigL l ≤ k → sigL (l.take k) = sigL l
  | [], k, _ => by simp
  | c :: l, 0, h => by
    rw [sigL_cons] at h ⊢
    split at h
    · omega
    · rename_i hc; rw [if_neg hc]; rfl
  | c :: l, k + 1, h => by
    rw [List.take_succ_cons, sigL_cons, sigL_cons]
    rw [sigL_cons] at h
    split
    · rename_i hc; rw [if_pos hc] at h; rw [sigL_takeGe l k (by omega)]
    · rfl
theorem namN_takeGe (l : List UInt8) (k : Nat) (hk : 1 ≤ k) (h : namN l ≤ k) : namN (l.take k) = namN l := by
  cases l with
  | nil => simp
  | cons c l =>
    obtain ⟨k, rfl⟩ : ∃ j, k = j + 1 := ⟨k - 1, by omega⟩
    rw [List.take_succ_cons, namN_cons, namN_cons]
    rw [namN_cons] at h
    split
    · rename_i hc; rw [if_pos hc] at h; rw [sigL_takeGe l k (by omega)]
    · rfl
theorem markL_takeGe (l : List UInt8) (k : Nat) (hk : 1 ≤ k) (h : (markL l).length ≤ k) : markL (l.take k) = markL l := by
  cases l with
  | nil => simp
  | cons c l =>
    obtain ⟨k, rfl⟩ : ∃ j, k = j + 1 := ⟨k - 1, by omega⟩
    rw [List.take_succ_cons, markL_cons, markL_cons]
    rw [markL_cons] at h
    split
    · rename_i hc
      rw [if_pos hc] at h
      cases l with
      | nil => simp
      | cons d l =>
        cases k with
        | zero =>
          by_cases hd : d = 46
          · subst hd; simp at h
          · have e : ¬ (d :: l).head? = some 46 := by simp [hd]
            rw [if_neg e]; simp
        | succ k => simp
    · rfl
theorem take_ne9 (l : List UInt8) (k : Nat) (hl : l ≠ []) (hk : 1 ≤ k) : l.take k ≠ [] := by
  intro e; have := congrArg List.length e; rw [List.length_take] at this; have := List.length_pos_iff.2 hl; simp only [List.length_nil] at *; omega
theorem bt_take0 (l : List UInt8) (k : Nat) (hk : 1 ≤ k) : bt (l.take k) 0 = bt l 0 := by
  obtain ⟨k, rfl⟩ : ∃ j, k = j + 1 := ⟨k - 1, by omega⟩
  cases l <;> rfl
theorem scalarL_take (r : List UInt8) (m : Nat) (h : (scalarL r).1 ≠ []) (hm : (scalarL r).2 ≤ m) : scalarL (r.take m) = scalarL r := by
  obtain ⟨j, h2, h7, hj, hg⟩ := scalarL_good r h
  obtain ⟨a, ha, hs, hne⟩ := goodJ_scalar r j h2 h7 hj hg
  rw [hs] at hm
  simp only at hm
  obtain ⟨g1, g2, b, g3, g4⟩ := hg
  have hjt : j < (r.take m).length := by rw [List.length_take]; omega
  have hbt : ∀ i : Nat, i < m → bt (r.take m) (i : Int) = bt r (i : Int) := fun i hi => by
    unfold bt; simp only [Int.toNat_natCast]; rw [List.getD_eq_getElem?_getD, List.getD_eq_getElem?_getD, List.getElem?_take_of_lt hi]
  have htk : ((r.take m).drop 1).take (j - 1) = (r.drop 1).take (j - 1) := by
    rw [List.drop_take, List.take_take]; congr 1; omega
  have hg' : goodJ (r.take m) j := ⟨by have := hbt 0 (by omega); rw [show ((0 : Nat) : Int) = 0 from rfl] at this; rw [this]; exact g1, by rw [hbt j (by omega)]; exact g2, b, by rw [htk]; exact g3, g4⟩
  obtain ⟨a', ha', hs', _⟩ := goodJ_scalar (r.take m) j h2 h7 hjt hg'
  rw [htk, ha] at ha'
  cases ha'
  rw [hs', hs]
theorem oneL_take (l o : List UInt8) (n k : Nat) (h : oneL l = (o, n)) (hn : n ≠ 0) (hk : n ≤ k) : oneL (l.take k) = (o, n) := by
  match l with
  | [] => simp [oneL] at h; omega
  | [a] => simp [oneL] at h; omega
  | a :: c :: r =>
    have hb := oneL_bd (a :: c :: r)
    rw [h] at hb
    simp only at hb
    obtain ⟨k, rfl⟩ : ∃ j, k = j + 2 := ⟨k - 2, by omega⟩
    rw [List.take_succ_cons, List.take_succ_cons, oneL_cons]
    rw [oneL_cons] at h
    split at h
    · rename_i ha
      rw [if_pos ha]
      unfold oneT at h ⊢
      split
      · rename_i hc; rw [if_pos hc] at h; exact h
      · rename_i hc
        rw [if_neg hc] at h
        split
        · rename_i hc; rw [if_pos hc] at h; exact h
        · rename_i hc
          rw [if_neg hc] at h
          split
          · rename_i hc; rw [if_pos hc] at h; exact h
          · rename_i hc
            rw [if_neg hc] at h
            split
            · rename_i hc; rw [if_pos hc] at h; exact h
            · rename_i hc
              rw [if_neg hc] at h
              split
              · rename_i hc
                rw [if_pos hc] at h
                split at h
                · cases h; exact absurd rfl hn
                · rename_i hl
                  split at h
                  · rename_i m hm
                    cases h
                    rw [if_neg (by rw [List.length_take]; omega), List.take_take, show min 2 k = 2 by omega, hm]
                  · cases h; exact absurd rfl hn
              · rename_i hc
                rw [if_neg hc] at h
                split
                · rename_i hc
                  rw [if_pos hc] at h
                  split at h
                  · cases h; exact absurd rfl hn
                  · rename_i hne
                    cases h
                    rw [scalarL_take r k hne (by omega), if_neg hne]
                · rename_i hc
                  rw [if_neg hc] at h; cases h; exact absurd rfl hn
    · cases h; exact absurd rfl hn
theorem readU_take (qt : Bool) (l o : List UInt8) (n k : Nat) (hl : l ≠ []) (h : readU qt l = (o, n, 0)) (hk : n ≤ k) : readU qt (l.take k) = (o, n, 0) := by
  have hb := readU_bd qt l hl (by rw [h])
  rw [h] at hb
  simp only at hb
  have h0 := bt_take0 l k (by omega)
  unfold readU at h ⊢
  rw [h0]
  split at h
  · rename_i h92
    rw [if_pos h92]
    split at h
    · simp at h
    · rename_i hz
      obtain ⟨x, m, hx⟩ : ∃ x m, oneL l = (x, m) := ⟨_, _, rfl⟩
      rw [hx] at h hz
      simp only at h hz
      obtain ⟨rfl, rfl, _⟩ := tri_inj h
      rw [oneL_take l x m k hx hz hk, if_neg hz]
  · rename_i h92
    rw [if_neg h92]
    split at h
    · rename_i hbad
      obtain ⟨r, m, ok, hd⟩ := trip (decS l)
      have hok : ok = true := by
        unfold badT at hbad; rw [hd] at hbad
        cases ok
        · simp at hbad
        · rfl
      subst hok
      rw [hd] at h
      simp only at h
      obtain ⟨rfl, rfl, _⟩ := tri_inj h
      have hd2 := decS_take l hl hd k hk
      have hbad2 : badT qt (l.take k) = 0 := by
        unfold badT at hbad ⊢; rw [hd] at hbad; rw [hd2]; exact hbad
      rw [if_pos hbad2, hd2]
      simp only [List.take_take, Nat.min_eq_left hk]
    · rename_i hbad
      obtain ⟨_, _, e⟩ := tri_inj h
      exact absurd e hbad
theorem unL_take : ∀ (m : Nat) (l o : List UInt8) (n k : Nat), l.length ≤ m → unL true l = (o, n, 0) → n ≤ k → unL true (l.take k) = (o, n, 0) := by
  intro m
  induction m with
  | zero =>
    intro l o n k hm h hk
    have : l = [] := List.length_eq_zero_iff.1 (by omega)
    subst this
    rw [unL_nil] at h; simp at h
  | succ m ih =>
    intro l o n k hm h hk
    by_cases hl : l = []
    · subst hl; rw [unL_nil] at h; simp at h
    · by_cases hq : bt l 0 = 34
      · rw [unL_quote l hl hq] at h
        obtain ⟨rfl, rfl, _⟩ := tri_inj h
        exact unL_quote _ (take_ne9 l k hl (by omega)) (by rw [bt_take0 l k hk]; exact hq)
      · obtain ⟨o1, n1, e1, hu⟩ := trip (readU true l)
        by_cases he : e1 = 0
        · subst he
          have hb := readU_bd true l hl (by rw [hu])
          rw [hu] at hb
          simp only at hb
          rw [unL_ok true l hl (fun _ => hq) hu] at h
          obtain ⟨rfl, rfl, h3⟩ := tri_inj h
          obtain ⟨o2, n2, e2, h2⟩ := trip (unL true (l.drop n1))
          rw [h2] at h3 hk ⊢
          simp only at h3 hk ⊢
          subst h3
          have hi := ih (l.drop n1) o2 n2 (k - n1) (by rw [List.length_drop]; omega) h2 (by omega)
          have hne : l.take k ≠ [] := take_ne9 l k hl (by omega)
          rw [unL_ok true _ hne (fun _ => by rw [bt_take0 l k (by omega)]; exact hq) (readU_take true l o1 n1 k hl hu (by omega)), List.drop_take, hi]
        · rw [unL_bad true l hl (fun _ => hq) hu he] at h
          obtain ⟨_, _, e⟩ := tri_inj h
          exact absurd e he
theorem remL_take : ∀ (m : Nat) (l : List UInt8) (n k : Nat), l.length ≤ m → remL l = (n, 0) → n ≤ k → remL (l.take k) = (n, 0) := by
  intro m
  induction m with
  | zero =>
    intro l n k hm h hk
    have : l = [] := List.length_eq_zero_iff.1 (by omega)
    subst this
    rw [List.take_nil]; exact h
  | succ m ih =>
    intro l n k hm h hk
    by_cases hl : l = []
    · subst hl; rw [List.take_nil]; exact h
    · by_cases h10 : bt l 0 = 10
      · rw [remL_end l h10] at h
        obtain ⟨rfl, _⟩ := Prod.mk.inj h
        cases k with
        | zero => exact remL_nil
        | succ k => exact remL_end _ (by rw [bt_take0 l (k + 1) (by omega)]; exact h10)
      · obtain ⟨r, n1, ok, hd⟩ := trip (decS l)
        cases ok with
        | false => rw [remL_bad l hl h10 hd] at h; simp at h
        | true =>
          have hdl := decS_len l
          rw [hd] at hdl
          have hd1 := hdl.2.1 hl
          simp only at hdl hd1
          by_cases hr : r ≠ 9 ∧ unsafeB r = true
          · rw [remL_char l hl h10 hd hr.1 hr.2] at h; simp at h
          · rw [remL_ok l hl h10 hd hr] at h
            obtain ⟨rfl, h2⟩ := Prod.mk.inj h
            obtain ⟨n2, e2, h3⟩ : ∃ n2 e2, remL (l.drop n1) = (n2, e2) := ⟨_, _, rfl⟩
            rw [h3] at h2 hk ⊢
            simp only at h2 hk ⊢
            subst h2
            have hne : l.take k ≠ [] := take_ne9 l k hl (by omega)
            rw [remL_ok _ hne (by rw [bt_take0 l k (by omega)]; exact h10) (decS_take l hl hd k (by omega)) hr, List.drop_take, ih (l.drop n1) n2 (k - n1) (by rw [List.length_drop]; omega) h3 (by omega)]
/-- A token's bytes alone are that token. -/
theorem tokA_alone (l : List UInt8) (hl : l ≠ []) {t : TokT} {p : Int} (h : tokA l 0 = (t, 0, p)) : tokA (l.take t.2.2.1.toNat) 0 = (t, 0, 0) := by
  have hpos : 0 < l.length := List.length_pos_iff.2 hl
  have hbd := (tokA_bd l 0 hpos h).1 rfl
  obtain ⟨k, hk⟩ : ∃ k, t.2.2.1.toNat = k := ⟨_, rfl⟩
  have hk1 : 1 ≤ k := by omega
  have hn := namN_le l
  have hm := markL_bd l
  rw [hk]
  unfold tokA at h ⊢
  simp only [List.drop_zero, Int.natCast_zero, Int.zero_add] at h ⊢
  have hbt : bt (l.take k) 0 = bt l 0 := bt_take0 l k hk1
  split at h
  · rename_i hnam
    split at h
    · simp at h
    · rename_i h32
      obtain ⟨rfl, _, _⟩ := tri_inj h
      have : k = namN l := by rw [← hk]; simp
      subst this
      rw [namN_take, if_pos hnam, if_neg h32, List.take_take, Nat.min_self]
  · rename_i hnam
    have hnam0 : namN l = 0 := by omega
    have hnt : namN (l.take k) = 0 := by rw [namN_takeGe l k hk1 (by omega)]; exact hnam0
    rw [if_neg (by omega)]
    split at h
    · rename_i hmk
      obtain ⟨rfl, _, _⟩ := tri_inj h
      have : k = (markL l).length := by rw [← hk]; simp
      have hmt := markL_takeGe l k hk1 (by omega)
      rw [hmt, if_pos hmk]
    · rename_i hmk
      have hmk0 : markL l = [] := by simpa using hmk
      have hmt := markL_takeGe l k hk1 (by rw [hmk0]; simp)
      rw [hmt, hmk0, if_neg (by simp), hbt]
      split at h
      · rename_i hdg
        rw [if_pos hdg]
        split at h
        · rename_i hf; obtain ⟨_, h2, _⟩ := tri_inj h; exact absurd h2 hf
        · rename_i hf
          obtain ⟨v, en, f, q, ht⟩ : ∃ v e f p, takeS l 0 = (v, e, f, p) := ⟨_, _, _, _, rfl⟩
          rw [ht] at h hf
          simp only at h hf
          have hf0 : f = 0 := by simpa using hf
          subst hf0
          obtain ⟨rfl, _, _⟩ := tri_inj h
          obtain ⟨_, _, _, hg⟩ := takeS_good l v en q ht
          simp only at hk
          rw [hk] at hg
          have hg' : takeS (l.take k) 0 = (v, en, 0, 0) := hg
          rw [hg']; simp
      · rename_i hdg
        rw [if_neg hdg]
        split at h
        · rename_i h34
          rw [if_pos h34]
          have hlt : 0 < (l.take k).length := by rw [List.length_take]; omega
          rw [show unqR l 0 = _ from unqR_rel l 0 hpos h34] at h
          rw [show unqR (l.take k) 0 = _ from unqR_rel (l.take k) 0 hlt (by show bt (l.take k) 0 = 34; rw [hbt]; exact h34)]
          obtain ⟨o, n, e, hu⟩ := trip (unL true (l.drop (0 + 1)))
          rw [hu] at h
          simp only at h
          by_cases he : e = 0
          · subst he
            simp only [if_true, ne_eq, not_true_eq_false, if_false] at h
            obtain ⟨rfl, _, _⟩ := tri_inj h
            have hkn : k = n + 1 := by rw [← hk]; simp only; omega
            have hu2 := unL_take _ (l.drop (0 + 1)) o n (k - 1) (Nat.le_refl _) hu (by omega)
            rw [List.drop_take, show k - (0 + 1) = k - 1 by omega, hu2]
            simp
          · rw [if_neg he] at h
            simp only at h
            split at h
            · obtain ⟨_, h2, _⟩ := tri_inj h; exact absurd h2 he
            · rename_i h3; exact absurd (by simpa using h3) he
        · obtain ⟨_, h2, _⟩ := tri_inj h
          split at h2 <;> cases h2
def onlyEnd (q : List UInt8) : Prop := scanT q 0 = ([(0, (q.length : Int), (q.length : Int), [], 0)], 0, 0)
theorem onlyEnd_nil : onlyEnd [] := by unfold onlyEnd; rw [scanT_end [] 0 (by simp)]; rfl
/-- What lies between a place and the next token is blanks and remarks. -/
theorem gap (s : List UInt8) : ∀ (m i : Nat) (t : TokT) (L : List TokT), s.length - i ≤ m → i ≤ s.length → scanT s i = (t :: L, 0, 0) → (i : Int) ≤ t.2.1 ∧ t.2.1 ≤ s.length ∧ onlyEnd ((s.drop i).take (t.2.1.toNat - i)) := by
  intro m
  induction m with
  | zero =>
    intro i t L hm hi h
    rw [scanT_end s i (by omega)] at h
    simp only [Prod.mk.injEq, List.cons.injEq] at h
    obtain ⟨⟨rfl, _⟩, _⟩ := h
    simp only [Int.toNat_natCast, Nat.sub_self, List.take_zero]
    exact ⟨by omega, by omega, onlyEnd_nil⟩
  | succ m ih =>
    intro i t L hm hi h
    by_cases h0 : s.length ≤ i
    · rw [scanT_end s i h0] at h
      simp only [Prod.mk.injEq, List.cons.injEq] at h
      obtain ⟨⟨rfl, _⟩, _⟩ := h
      simp only [Int.toNat_natCast, Nat.sub_self, List.take_zero]
      exact ⟨by omega, by omega, onlyEnd_nil⟩
    · have hne := drop_ne' s (i : Int) (by omega) (by omega)
      rw [Int.toNat_natCast] at hne
      have pre : ∀ n k : Nat, 0 < n → n ≤ k → i + k ≤ s.length → onlyEnd ((s.drop (i + n)).take (k - n)) → scanT ((s.drop i).take k) 0 = scanT ((s.drop i).take k) n → onlyEnd ((s.drop i).take k) := by
        intro n k hn hnk hks ho hst
        have hl1 : ((s.drop i).take k).length = k := by rw [List.length_take, List.length_drop]; omega
        have hl2 : ((s.drop (i + n)).take (k - n)).length = k - n := by rw [List.length_take, List.length_drop]; omega
        have hsh := scanT_shift ((s.drop i).take k) n _ 0 (Nat.le_refl _) (by omega)
        rw [List.drop_take, List.drop_drop] at hsh
        unfold onlyEnd at ho ⊢
        rw [hst, show n = n + 0 from rfl, hsh, ho, hl1, hl2]
        simp [shS, shT]; omega
      by_cases hbl : blankB (bt s i) = true
      · rw [scanT_blank s i (by omega) hbl] at h
        obtain ⟨i1, i2, i3⟩ := ih (i + 1) t L (by omega) (by omega) h
        refine ⟨by omega, i2, pre 1 (t.2.1.toNat - i) (by omega) (by omega) (by omega) (by rw [show t.2.1.toNat - i - 1 = t.2.1.toNat - (i + 1) by omega]; exact i3) ?_⟩
        rw [scanT_blank _ 0 (by rw [List.length_take, List.length_drop]; omega)]
        have := bt_take0 (s.drop i) (t.2.1.toNat - i) (by omega)
        have h2 := bt_drop s i 0
        show blankB (bt _ 0) = true
        rw [this]; rw [show ((0 : Nat) : Int) = 0 from rfl] at h2; rw [h2]; exact hbl
      · have hbl' : blankB (bt s i) = false := by simpa using hbl
        by_cases h59 : bt s i = 59
        · obtain ⟨n, e, hr⟩ : ∃ n e, remL (s.drop i) = (n, e) := ⟨_, _, rfl⟩
          have hrb := remL_bd _ (s.drop i) (Nat.le_refl _)
          rw [hr, List.length_drop] at hrb
          simp only at hrb
          by_cases he : e = 0
          · subst he
            by_cases hn : 0 < n
            · rw [scanT_rem s i (by omega) h59 hr hn] at h
              obtain ⟨i1, i2, i3⟩ := ih (i + n) t L (by omega) (by omega) h
              refine ⟨by omega, i2, pre n (t.2.1.toNat - i) hn (by omega) (by omega) (by rw [show t.2.1.toNat - i - n = t.2.1.toNat - (i + n) by omega]; exact i3) ?_⟩
              have h2 := bt_drop s i 0
              rw [show ((0 : Nat) : Int) = 0 from rfl] at h2
              have := scanT_rem ((s.drop i).take (t.2.1.toNat - i)) 0 (by rw [List.length_take, List.length_drop]; omega) (by show bt _ 0 = 59; rw [bt_take0 _ _ (by omega), h2]; exact h59) (by rw [List.drop_zero]; exact remL_take _ _ n _ (Nat.le_refl _) hr (by omega)) hn
              rw [this, Nat.zero_add]
            · rw [scanT, dif_neg h0, if_neg hbl, if_pos h59, if_neg (by rw [hr]; simp), dif_neg (by rw [hr]; exact hn)] at h
              simp at h
          · rw [scanT_rembad s i (by omega) h59 hr he] at h
            simp at h
        · obtain ⟨t', e, p, ht⟩ := trip (tokA s i)
          by_cases he : e = 0
          · subst he
            have hbd := (tokA_bd s i (by omega) ht).1 rfl
            rw [scanT_tok s i (by omega) hbl' h59 ht hbd.2.2.1] at h
            unfold comb at h
            split at h
            · simp only [Prod.mk.injEq, List.singleton_append, List.cons.injEq] at h
              obtain ⟨⟨rfl, _⟩, _⟩ := h
              rw [hbd.2.1]
              simp only [Int.toNat_natCast, Nat.sub_self, List.take_zero]
              exact ⟨by omega, by omega, onlyEnd_nil⟩
            · simp at h
          · rw [scanT_tokbad s i (by omega) hbl' h59 ht he] at h
            simp at h
end Go.Proofs.Yteiejcililponaa
/- Plain: all that the cover says about the tokens of a text. -/
set_option linter.unusedVariables false
set_option linter.unusedSimpArgs false
namespace Go.Proofs.Yteiejcililponaa
open Go.RowKit Bf
theorem comb1 {t t' : TokT} {L : List TokT} {r : List TokT × Int × Int} (h : comb [t'] r = (t :: L, 0, 0)) : t' = t ∧ (∃ p, r = (L, 0, p)) := by
  obtain ⟨l, e, p⟩ := r
  unfold comb at h
  split at h
  · rename_i he
    simp only [Prod.mk.injEq, List.singleton_append, List.cons.injEq] at h
    obtain ⟨⟨rfl, rfl⟩, _⟩ := h
    simp only at he
    subst he
    exact ⟨rfl, _, rfl⟩
  · simp at h
theorem scanT_clean2 {s : List UInt8} {i : Nat} {l : List TokT} {p : Int} (h : scanT s i = (l, 0, p)) : scanT s i = (l, 0, 0) := by
  have := scanT_clean s _ i (Nat.le_refl _)
  rw [h] at this
  rw [h, ← this]; rfl
/-- The first token from a place on, and where the next ones begin. -/
theorem headT (s : List UInt8) : ∀ (m i : Nat) (t : TokT) (L : List TokT), s.length - i ≤ m → i ≤ s.length → scanT s i = (t :: L, 0, 0) →
    (t = (0, (s.length : Int), (s.length : Int), [], 0) ∧ L = []) ∨ (∃ (a : Nat) (p : Int), a < s.length ∧ blankB (bt s a) = false ∧ bt s a ≠ 59 ∧ tokA s a = (t, 0, p) ∧ scanT s t.2.2.1.toNat = (L, 0, 0)) := by
  intro m
  induction m with
  | zero =>
    intro i t L hm hi h
    rw [scanT_end s i (by omega)] at h
    simp only [Prod.mk.injEq, List.cons.injEq] at h
    obtain ⟨⟨rfl, rfl⟩, _⟩ := h
    rw [show i = s.length by omega]
    exact Or.inl ⟨rfl, rfl⟩
  | succ m ih =>
    intro i t L hm hi h
    by_cases h0 : s.length ≤ i
    · rw [scanT_end s i h0] at h
      simp only [Prod.mk.injEq, List.cons.injEq] at h
      obtain ⟨⟨rfl, rfl⟩, _⟩ := h
      rw [show i = s.length by omega]
      exact Or.inl ⟨rfl, rfl⟩
    · by_cases hbl : blankB (bt s i) = true
      · rw [scanT_blank s i (by omega) hbl] at h
        exact ih (i + 1) t L (by omega) (by omega) h
      · have hbl' : blankB (bt s i) = false := by simpa using hbl
        by_cases h59 : bt s i = 59
        · obtain ⟨n, e, hr⟩ : ∃ n e, remL (s.drop i) = (n, e) := ⟨_, _, rfl⟩
          have hrb := remL_bd _ (s.drop i) (Nat.le_refl _)
          rw [hr, List.length_drop] at hrb
          simp only at hrb
          have hn := remL_semi (s.drop i) (by rw [bt_dropZ]; exact h59) (drop_neN s i (by omega))
          rw [hr] at hn
          simp only at hn
          by_cases he : e = 0
          · subst he
            rw [scanT_rem s i (by omega) h59 hr hn] at h
            exact ih (i + n) t L (by omega) (by omega) h
          · rw [scanT_rembad s i (by omega) h59 hr he] at h
            simp at h
        · obtain ⟨t', e, p, ht⟩ := trip (tokA s i)
          by_cases he : e = 0
          · subst he
            have hbd := (tokA_bd s i (by omega) ht).1 rfl
            rw [scanT_tok s i (by omega) hbl' h59 ht hbd.2.2.1] at h
            obtain ⟨rfl, p2, h2⟩ := comb1 h
            exact Or.inr ⟨i, p, by omega, hbl', h59, ht, scanT_clean2 h2⟩
          · rw [scanT_tokbad s i (by omega) hbl' h59 ht he] at h
            simp at h
/-- A token alone. -/
def Alone (q : List UInt8) (t : TokT) : Prop := (t.1 = 0 ∧ q = []) ∨ (t.1 ≠ 0 ∧ ∃ u : TokT, scanT q 0 = ([u, (0, (q.length : Int), (q.length : Int), [], 0)], 0, 0) ∧ u.1 = t.1 ∧ u.2.2.2.1 = t.2.2.2.1 ∧ u.2.2.2.2 = t.2.2.2.2)
theorem alone_of (s : List UInt8) (a : Nat) {t : TokT} {p : Int} (ha : a < s.length) (hbl : blankB (bt s a) = false) (h59 : bt s a ≠ 59) (ht : tokA s a = (t, 0, p)) :
    scanT ((s.drop a).take (t.2.2.1.toNat - a)) 0 = ([shT (-(a : Int)) t, (0, (((s.drop a).take (t.2.2.1.toNat - a)).length : Int), (((s.drop a).take (t.2.2.1.toNat - a)).length : Int), [], 0)], 0, 0) := by
  have hbd := (tokA_bd s a ha ht).1 rfl
  have hne : s.drop a ≠ [] := drop_neN s a ha
  obtain ⟨u, e, q, hu⟩ := trip (tokA (s.drop a) 0)
  have hsh := tokA_shift s a 0 (by omega)
  rw [Nat.add_zero, ht, hu] at hsh
  unfold shA at hsh
  simp only at hsh
  split at hsh
  · rename_i he
    subst he
    simp only [Prod.mk.injEq] at hsh
    obtain ⟨htu, _, _⟩ := hsh
    have hue : u.2.2.1.toNat = t.2.2.1.toNat - a := by rw [htu]; simp only [shT]; omega
    have hu1 : u = shT (-(a : Int)) t := by rw [htu]; simp only [shT]; obtain ⟨k, x, y, z, n⟩ := u; simp only [Prod.mk.injEq]; refine ⟨trivial, by omega, by omega, trivial⟩
    have hal := tokA_alone (s.drop a) hne hu
    rw [hue, hu1] at hal
    have hl : ((s.drop a).take (t.2.2.1.toNat - a)).length = t.2.2.1.toNat - a := by rw [List.length_take, List.length_drop]; omega
    have hb0 : bt ((s.drop a).take (t.2.2.1.toNat - a)) ((0 : Nat) : Int) = bt s (a : Int) := by
      rw [show ((0 : Nat) : Int) = 0 from rfl, bt_take0 _ _ (by omega), bt_dropZ]
    have hend : (shT (-(a : Int)) t).2.2.1.toNat = t.2.2.1.toNat - a := by simp only [shT]; omega
    rw [scanT_tok _ 0 (by omega) (by rw [hb0]; exact hbl) (by rw [hb0]; exact h59) hal (by simp only [shT]; omega), hend, scanT_end _ _ (by omega), comb_ok, hl]
    rfl
  · rename_i he
    simp only [Prod.mk.injEq] at hsh
    exact absurd hsh.2.1.symm he
/-- What the cover says of the tokens from a place on. -/
def CovL (s : List UInt8) : Nat → List TokT → Prop
  | _, [] => True
  | i, t :: l => ∃ a b : Nat, t.2.1 = a ∧ t.2.2.1 = b ∧ i ≤ a ∧ a ≤ b ∧ b ≤ s.length ∧ (t.1 = 0 ↔ l = []) ∧ onlyEnd ((s.drop i).take (a - i)) ∧ Alone ((s.drop a).take (b - a)) t ∧ CovL s b l
theorem cov_of (s : List UInt8) : ∀ (L : List TokT) (i : Nat), i ≤ s.length → scanT s i = (L, 0, 0) → CovL s i L
  | [], _, _, _ => trivial
  | t :: L, i, hi, h => by
    obtain ⟨g1, g2, g3⟩ := gap s _ i t L (Nat.le_refl _) hi h
    rcases headT s _ i t L (Nat.le_refl _) hi h with ⟨rfl, rfl⟩ | ⟨a, p, ha, hbl, h59, ht, hL⟩
    · refine ⟨s.length, s.length, rfl, rfl, by simp only at g1; omega, Nat.le_refl _, Nat.le_refl _, by simp, ?_, Or.inl ⟨rfl, by simp⟩, trivial⟩
      simpa using g3
    · have hbd := (tokA_bd s a ha ht).1 rfl
      have hnn := scanT_ne s _ t.2.2.1.toNat (Nat.le_refl _) (by rw [hL]) (by omega)
      rw [hL] at hnn
      have hb : ((t.2.2.1.toNat : Nat) : Int) = t.2.2.1 := by omega
      have hto : t.2.1.toNat = a := by omega
      rw [hto] at g3
      refine ⟨a, t.2.2.1.toNat, hbd.2.1, hb.symm, by omega, by omega, by omega, ?_, g3, Or.inr ⟨?_, _, alone_of s a ha hbl h59 ht, rfl, rfl, rfl⟩, cov_of s L _ (by omega) hL⟩
      · constructor
        · intro h0; have := hbd.1; omega
        · intro h0; exact absurd h0 hnn
      · have := hbd.1; omega
/-- Reading on one token. -/
theorem CovL.at {s : List UInt8} : ∀ {l : List TokT} {i j : Nat}, CovL s i (l.drop j) → j < l.length → ∃ t, l[j]? = some t ∧ ∃ a b : Nat, t.2.1 = a ∧ t.2.2.1 = b ∧ i ≤ a ∧ a ≤ b ∧ b ≤ s.length ∧ (t.1 = 0 ↔ j + 1 = l.length) ∧ onlyEnd ((s.drop i).take (a - i)) ∧ Alone ((s.drop a).take (b - a)) t ∧ CovL s b (l.drop (j + 1)) := by
  intro l i j h hj
  rw [List.drop_eq_getElem_cons hj] at h
  obtain ⟨a, b, h1, h2, h3, h4, h5, h6, h7, h8, h9⟩ := h
  refine ⟨l[j], List.getElem?_eq_getElem hj, a, b, h1, h2, h3, h4, h5, ?_, h7, h8, h9⟩
  rw [h6, List.drop_eq_nil_iff]; omega
theorem scanR_cov {s : List UInt8} {L : List TokT} {a : Int} (hs : s.length ≤ 65536) (h : scanR s = (L, 0, a)) : a = 0 ∧ L ≠ [] ∧ CovL s 0 L ∧ (s.length < 65536 → scanR (32 :: s) = (L.map (shT 1), 0, 0)) := by
  unfold scanR at h
  rw [if_neg (by omega)] at h
  have hc := scanT_clean2 h
  have hn := scanT_ne s _ 0 (Nat.le_refl _) (by rw [h]) (Nat.zero_le _)
  rw [hc] at hn
  refine ⟨by rw [hc] at h; cases h; rfl, hn, cov_of s L 0 (Nat.zero_le _) hc, fun hl => ?_⟩
  unfold scanR
  rw [if_neg (by simp only [List.length_cons]; omega), scanT_ahead, hc]; rfl
theorem scanT_bad (s : List UInt8) : ∀ (m i : Nat), s.length - i ≤ m → i ≤ s.length → (scanT s i).2.1 ≠ 0 → (scanT s i).1 = [] ∧ (scanT s i).2.2 ≤ s.length := by
  intro m
  induction m with
  | zero => intro i h hi h0; rw [scanT_end s i (by omega)] at h0; exact absurd rfl h0
  | succ m ih =>
    intro i h hi h0
    by_cases he : s.length ≤ i
    · rw [scanT_end s i he] at h0; exact absurd rfl h0
    · by_cases hb : blankB (bt s i) = true
      · rw [scanT_blank s i (by omega) hb] at h0 ⊢; exact ih (i + 1) (by omega) (by omega) h0
      · have hb' : blankB (bt s i) = false := by simpa using hb
        by_cases h59 : bt s i = 59
        · obtain ⟨n, e, hr⟩ : ∃ n e, remL (s.drop i) = (n, e) := ⟨_, _, rfl⟩
          have hrb := remL_bd _ (s.drop i) (Nat.le_refl _)
          rw [hr, List.length_drop] at hrb
          simp only at hrb
          have hn := remL_semi (s.drop i) (by rw [bt_dropZ]; exact h59) (drop_neN s i (by omega))
          rw [hr] at hn
          simp only at hn
          by_cases hz : e = 0
          · subst hz
            rw [scanT_rem s i (by omega) h59 hr hn] at h0 ⊢; exact ih (i + n) (by omega) (by omega) h0
          · rw [scanT_rembad s i (by omega) h59 hr hz]; exact ⟨rfl, by simp only; omega⟩
        · obtain ⟨t, e, p, ht⟩ := trip (tokA s i)
          have hbd := tokA_bd s i (by omega) ht
          by_cases hz : e = 0
          · subst hz
            have hb1 := hbd.1 rfl
            rw [scanT_tok s i (by omega) hb' h59 ht hb1.2.2.1] at h0 ⊢
            unfold comb at h0 ⊢
            split
            · rename_i hc; rw [if_pos hc] at h0; exact absurd rfl h0
            · rename_i hc; exact ⟨rfl, (ih t.2.2.1.toNat (by omega) (by omega) hc).2⟩
          · rw [scanT_tokbad s i (by omega) hb' h59 ht hz]; exact ⟨rfl, hbd.2.2.2.2⟩
theorem scanR_bad {s : List UInt8} {L : List TokT} {e a : Int} (h : scanR s = (L, e, a)) (he : e ≠ 0) (hs : s.length ≤ 65536) : L = [] ∧ a ≤ s.length := by
  unfold scanR at h
  rw [if_neg (by omega)] at h
  have := scanT_bad s _ 0 (Nat.le_refl _) (Nat.zero_le _) (by rw [h]; exact he)
  rw [h] at this
  exact this
end Go.Proofs.Yteiejcililponaa
/- Plain: tokens rise; a cursor that goes on and on; one that has failed. -/
set_option linter.unusedVariables false
set_option linter.unusedSimpArgs false
namespace Go.Proofs.Yteiejcililponaa
open Go.RowKit Bf
/-- From a place on, tokens begin behind the one ahead, and end in the text. -/
def Rise (n : Int) : Int → List TokT → Prop
  | _, [] => True
  | i, t :: l => i ≤ t.2.1 ∧ (t.2.1 ≤ t.2.2.1 ∧ (t.1 = 0 → t.2.2.1 = t.2.1)) ∧ t.2.2.1 ≤ n ∧ Rise n t.2.2.1 l
theorem Rise.mono {n : Int} : ∀ {l : List TokT} {i j : Int}, Rise n i l → j ≤ i → Rise n j l
  | [], _, _, _, _ => trivial
  | t :: l, i, j, h, hj => ⟨Int.le_trans hj h.1, h.2⟩
theorem scanT_rise (s : List UInt8) : ∀ (m i : Nat), s.length - i ≤ m → i ≤ s.length → Rise s.length i (scanT s i).1 := by
  intro m
  induction m with
  | zero =>
    intro i h hi
    rw [scanT_end s i (by omega)]
    exact ⟨Int.le_refl _, ⟨Int.le_refl _, fun _ => rfl⟩, by simp only; omega, trivial⟩
  | succ m ih =>
    intro i h hi
    by_cases he : s.length ≤ i
    · rw [scanT_end s i he]
      exact ⟨Int.le_refl _, ⟨Int.le_refl _, fun _ => rfl⟩, by simp only; omega, trivial⟩
    · by_cases hb : blankB (bt s i) = true
      · rw [scanT_blank s i (by omega) hb]; exact (ih (i + 1) (by omega) (by omega)).mono (by omega)
      · have hb' : blankB (bt s i) = false := by simpa using hb
        by_cases h59 : bt s i = 59
        · obtain ⟨n, e, hr⟩ : ∃ n e, remL (s.drop i) = (n, e) := ⟨_, _, rfl⟩
          have hrb := remL_bd _ (s.drop i) (Nat.le_refl _)
          rw [hr, List.length_drop] at hrb
          simp only at hrb
          have hn := remL_semi (s.drop i) (by rw [bt_dropZ]; exact h59) (drop_neN s i (by omega))
          rw [hr] at hn
          simp only at hn
          by_cases hz : e = 0
          · subst hz
            rw [scanT_rem s i (by omega) h59 hr hn]; exact (ih (i + n) (by omega) (by omega)).mono (by omega)
          · rw [scanT_rembad s i (by omega) h59 hr hz]; trivial
        · obtain ⟨t, e, p, ht⟩ := trip (tokA s i)
          by_cases hz : e = 0
          · subst hz
            have hb1 := (tokA_bd s i (by omega) ht).1 rfl
            rw [scanT_tok s i (by omega) hb' h59 ht hb1.2.2.1]
            unfold comb
            split
            · refine ⟨by omega, ⟨by omega, fun h => by have := hb1.1; omega⟩, hb1.2.2.2, ?_⟩
              have := ih t.2.2.1.toNat (by omega) (by omega)
              exact this.mono (by omega)
            · trivial
          · rw [scanT_tokbad s i (by omega) hb' h59 ht hz]; trivial
theorem scanR_rise {s : List UInt8} {L : List TokT} {e a : Int} (h : scanR s = (L, e, a)) : Rise s.length 0 L := by
  unfold scanR at h
  split at h
  · cases h; trivial
  · have := scanT_rise s _ 0 (Nat.le_refl _) (Nat.zero_le _)
    rw [h] at this; exact this
theorem Rise.get {n : Int} : ∀ {l : List TokT} {i : Int} {j : Nat} {t : TokT}, Rise n i l → l[j]? = some t → i ≤ t.2.1 ∧ (t.2.1 ≤ t.2.2.1 ∧ (t.1 = 0 → t.2.2.1 = t.2.1)) ∧ t.2.2.1 ≤ n ∧ ∀ u, l[j + 1]? = some u → t.2.2.1 ≤ u.2.1
  | [], _, j, t, _, h => by simp at h
  | x :: l, i, 0, t, hr, h => by
    simp only [List.getElem?_cons_zero, Option.some.injEq] at h
    subst h
    refine ⟨hr.1, hr.2.1, hr.2.2.1, fun u hu => ?_⟩
    simp only [List.getElem?_cons_succ] at hu
    cases l with
    | nil => simp at hu
    | cons y l => simp only [List.getElem?_cons_zero, Option.some.injEq] at hu; subst hu; exact hr.2.2.2.1
  | x :: l, i, j + 1, t, hr, h => by
    simp only [List.getElem?_cons_succ] at h
    have := Rise.get hr.2.2.2 h
    have h1 := hr.1
    have h2 := hr.2.1.1
    exact ⟨by omega, this.2.1, this.2.2.1, fun u hu => this.2.2.2 u (by simpa using hu)⟩
/-- Where a cursor has gone on so many times: the place where the last one ended. -/
structure StayInv (s : List UInt8) (l : List TokT) (k : Int) (c : CurT) (at_ : Int) : Prop where
  ok : CurOk l c
  e0 : c.e = 0
  a0 : c.a = 0
  d0 : c.d = 0
  far : c.i = k ∨ c.i + 1 = l.length
  le : ∀ t, l[c.i.toNat]? = some t → at_ ≤ t.2.1
theorem StayInv.start {s : List UInt8} {l : List TokT} (hl : TokOk l) (hr : Rise s.length 0 l) : StayInv s l 0 ⟨0, 0, 0, 0⟩ 0 :=
  ⟨⟨Int.le_refl _, by have := hl.n; simp only; omega, Int.le_refl _, by decide⟩, rfl, rfl, rfl, .inl rfl, fun t ht => (hr.get ht).1⟩
theorem StayInv.step {s : List UInt8} {l : List TokT} {k : Int} {c : CurT} {at_ : Int} (h : StayInv s l k c at_) (hl : TokOk l) (hr : Rise s.length 0 l) (hk : 0 ≤ k) :
    StayInv s l (k + 1) (nextT l c) (peekT l c).2.2.1 ∧ at_ ≤ (peekT l c).2.1 ∧ (peekT l c).2.2.1 ≤ s.length := by
  obtain ⟨t, ht, hg⟩ := h.ok.get
  have hp : peekT l c = t := by rw [peekT_ok l c h.e0, hg]
  have hrg := hr.get ht
  have i0 := h.ok.i0
  have i1 := h.ok.i1
  have hf := hl.fin _ t ht
  refine ⟨?_, by rw [hp]; exact h.le t ht, by rw [hp]; exact hrg.2.2.1⟩
  rw [hp]
  by_cases h0 : t.1 = 0
  · have hn : nextT l c = c := by unfold nextT; rw [hp, if_pos h0]
    rw [hn]
    have hlast := hf.1 h0
    have hend := hrg.2.1
    refine ⟨h.ok, h.e0, h.a0, h.d0, .inr (by omega), fun u hu => ?_⟩
    rw [ht] at hu; cases hu
    have := hrg.2.1.2 h0
    omega
  · have hn : nextT l c = ⟨c.i + 1, c.d, c.e, c.a⟩ := by unfold nextT; rw [hp, if_neg h0]
    rw [hn]
    have hnl := (not_congr hf).1 h0
    refine ⟨⟨by simp only; omega, by simp only; omega, h.ok.d0, h.ok.d1⟩, h.e0, h.a0, h.d0, ?_, fun u hu => ?_⟩
    · simp only
      rcases h.far with h1 | h1
      · exact .inl (by omega)
      · exfalso; omega
    · refine hrg.2.2.2 u ?_
      simp only at hu
      rw [← hu]; congr 1; omega
end Go.Proofs.Yteiejcililponaa
