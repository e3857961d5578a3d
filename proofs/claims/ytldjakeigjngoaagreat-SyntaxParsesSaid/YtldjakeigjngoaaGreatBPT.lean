/- BPT: texts of this proof, joined by program: PlainTok, PlainTok2, PlainTok4, PlainCur. -/
import Derived.Test.YtldjakeigjngoaaGreatBUN
import Derived.Test.YtldjakeigjngoaaGreatBPL
set_option linter.unusedVariables false
set_option linter.unusedSimpArgs false
namespace Go.Proofs.YtldjakeigjngoaaGreat
open Go.RowKit Bf
abbrev TokT := Int × Int × Int × List UInt8 × Int
def tokV (t : TokT) : List Value := [.int .i64 t.1, .int .i64 t.2.1, .int .i64 t.2.2.1, S t.2.2.2.1, .int .i64 t.2.2.2.2]
theorem tokV_len (t : TokT) : (tokV t).length = 5 := rfl
def ztk : TokT := (0, 0, 0, [], 0)
def marksT : List UInt8 := [123, 125, 91, 93, 40, 41, 44, 58, 61, 60, 62, 64, 43, 35, 126, 42]
def markL : List UInt8 → List UInt8
 | [] => []
 | c :: l => if c = 46 then (if l.head? = some 46 then [46, 46] else []) else if c ∈ marksT then [c] else []
theorem markL_cons (c : UInt8) (l : List UInt8) : markL (c :: l) = if c = 46 then (if l.head? = some 46 then [46, 46] else []) else if c ∈ marksT then [c] else [] := rfl
def markAt (s : List UInt8) (i : Int) : List UInt8 := if i < 0 ∨ (s.length : Int) ≤ i then [] else markL (s.drop i.toNat)
theorem markL_bd (l : List UInt8) : (markL l).length ≤ 2 ∧ (markL l).length ≤ l.length ∧ l.take (markL l).length = markL l := by
 cases l with
 | nil => simp [markL]
 | cons c l =>
  rw [markL_cons]
  split
  · rename_i hc
    split
    · rename_i hd
      cases l with
      | nil => simp at hd
      | cons d l => simp at hd; subst hc; subst hd; simp
    · simp
  · split <;> simp
def remL (l : List UInt8) : Nat × Int :=
 if h : l = [] then (0, 0) else if bt l 0 = 10 then (0, 0) else if (decS l).2.2 = false then (0, 2) else if (decS l).1 ≠ 9 ∧ unsafeB (decS l).1 = true then (0, 3)
 else ((decS l).2.1 + (remL (l.drop (decS l).2.1)).1, (remL (l.drop (decS l).2.1)).2)
termination_by l.length
decreasing_by
 all_goals exact decS_drop_lt l h
theorem remL_nil : remL [] = (0, 0) := by rw [remL, dif_pos rfl]
theorem remL_end (l : List UInt8) (h : bt l 0 = 10) : remL l = (0, 0) := by rw [remL, if_pos h]; split <;> rfl
theorem remL_bad (l : List UInt8) (hl : l ≠ []) (h : bt l 0 ≠ 10) {r : Int} {n : Nat} (hd : decS l = (r, n, false)) : remL l = (0, 2) := by
 rw [remL, dif_neg hl, if_neg h, hd, if_pos rfl]
theorem remL_char (l : List UInt8) (hl : l ≠ []) (h : bt l 0 ≠ 10) {r : Int} {n : Nat} (hd : decS l = (r, n, true)) (hr : r ≠ 9) (hu : unsafeB r = true) : remL l = (0, 3) := by
 rw [remL, dif_neg hl, if_neg h, hd, if_neg (by simp), if_pos ⟨hr, hu⟩]
theorem remL_ok (l : List UInt8) (hl : l ≠ []) (h : bt l 0 ≠ 10) {r : Int} {n : Nat} (hd : decS l = (r, n, true)) (hr : ¬ (r ≠ 9 ∧ unsafeB r = true)) : remL l = (n + (remL (l.drop n)).1, (remL (l.drop n)).2) := by
 rw [remL, dif_neg hl, if_neg h, hd, if_neg (by simp), if_neg hr]
def tokA (s : List UInt8) (i : Nat) : TokT × Int × Int :=
 if 0 < namN (s.drop i) then (if 32 < namN (s.drop i) then (ztk, 9, (i : Int)) else ((1, (i : Int), (i : Int) + namN (s.drop i), (s.drop i).take (namN (s.drop i)), 0), 0, 0))
 else if markL (s.drop i) ≠ [] then ((4, (i : Int), (i : Int) + (markL (s.drop i)).length, markL (s.drop i), 0), 0, 0)
 else if bt s i = 45 ∨ (48 ≤ bt s i ∧ bt s i ≤ 57) then (if (takeS s i).2.2.1 ≠ 0 then (ztk, (takeS s i).2.2.1, (takeS s i).2.2.2) else ((2, (i : Int), (takeS s i).2.1, [], (takeS s i).1), 0, 0))
 else if bt s i = 34 then (if (unqR s i).2.2.1 ≠ 0 then (ztk, (unqR s i).2.2.1, (unqR s i).2.2.2) else ((3, (i : Int), (unqR s i).2.1, (unqR s i).1, 0), 0, 0))
 else (ztk, if (decAt s i).2.2 = true then 3 else 2, (i : Int))
def blankB (c : Int) : Bool := decide (c = 9) || decide (c = 10) || decide (c = 13) || decide (c = 32)
def scanT (s : List UInt8) (i : Nat) : List TokT × Int × Int :=
 if h0 : s.length ≤ i then ([(0, (i : Int), (i : Int), [], 0)], 0, 0)
 else if blankB (bt s i) = true then scanT s (i + 1)
 else if bt s i = 59 then
  (if (remL (s.drop i)).2 ≠ 0 then ([], (remL (s.drop i)).2, (i : Int) + (remL (s.drop i)).1)
   else if h1 : 0 < (remL (s.drop i)).1 then scanT s (i + (remL (s.drop i)).1) else ([], 0, 0))
 else if (tokA s i).2.1 ≠ 0 then ([], (tokA s i).2.1, (tokA s i).2.2)
 else if h2 : (i : Int) < (tokA s i).1.2.2.1 then
  (if (scanT s (tokA s i).1.2.2.1.toNat).2.1 = 0 then ((tokA s i).1 :: (scanT s (tokA s i).1.2.2.1.toNat).1, 0, 0) else ([], (scanT s (tokA s i).1.2.2.1.toNat).2.1, (scanT s (tokA s i).1.2.2.1.toNat).2.2))
 else ([], 0, 0)
termination_by s.length - i
decreasing_by
 all_goals omega
def comb (acc : List TokT) (r : List TokT × Int × Int) : List TokT × Int × Int := if r.2.1 = 0 then (acc ++ r.1, 0, 0) else ([], r.2.1, r.2.2)
theorem comb_ok (acc l : List TokT) (p : Int) : comb acc (l, 0, p) = (acc ++ l, 0, 0) := rfl
theorem comb_bad (acc l : List TokT) (e p : Int) (h : e ≠ 0) : comb acc (l, e, p) = ([], e, p) := if_neg h
theorem scanT_end (s : List UInt8) (i : Nat) (h : s.length ≤ i) : scanT s i = ([(0, (i : Int), (i : Int), [], 0)], 0, 0) := by rw [scanT, dif_pos h]
theorem scanT_blank (s : List UInt8) (i : Nat) (h : i < s.length) (hb : blankB (bt s i) = true) : scanT s i = scanT s (i + 1) := by rw [scanT, dif_neg (by omega), if_pos hb]
theorem scanT_rem (s : List UInt8) (i : Nat) (h : i < s.length) (hb : bt s i = 59) {n : Nat} (hr : remL (s.drop i) = (n, 0)) (hn : 0 < n) : scanT s i = scanT s (i + n) := by
 rw [scanT, dif_neg (by omega), if_neg (by rw [hb]; decide), if_pos hb, if_neg (by rw [hr]; simp), dif_pos (by rw [hr]; exact hn), hr]
theorem scanT_rembad (s : List UInt8) (i : Nat) (h : i < s.length) (hb : bt s i = 59) {n : Nat} {e : Int} (hr : remL (s.drop i) = (n, e)) (he : e ≠ 0) : scanT s i = ([], e, (i : Int) + n) := by
 rw [scanT, dif_neg (by omega), if_neg (by rw [hb]; decide), if_pos hb, if_pos (by rw [hr]; exact he), hr]
theorem scanT_tok (s : List UInt8) (i : Nat) (h : i < s.length) (hb : blankB (bt s i) = false) (h59 : bt s i ≠ 59) {t : TokT} {p : Int} (ht : tokA s i = (t, 0, p)) (hlt : (i : Int) < t.2.2.1) : scanT s i = comb [t] (scanT s t.2.2.1.toNat) := by
 rw [scanT, dif_neg (by omega), if_neg (by rw [hb]; decide), if_neg h59, if_neg (by rw [ht]; simp), dif_pos (by rw [ht]; exact hlt), ht]; rfl
theorem scanT_tokbad (s : List UInt8) (i : Nat) (h : i < s.length) (hb : blankB (bt s i) = false) (h59 : bt s i ≠ 59) {t : TokT} {e p : Int} (ht : tokA s i = (t, e, p)) (he : e ≠ 0) : scanT s i = ([], e, p) := by
 rw [scanT, dif_neg (by omega), if_neg (by rw [hb]; decide), if_neg h59, if_pos (by rw [ht]; exact he), ht]
theorem unL_bd (qt : Bool) : ∀ (m : Nat) (l : List UInt8), l.length ≤ m → (unL qt l).2.1 ≤ l.length := by
 intro m
 induction m with
 | zero => intro l h; have : l = [] := List.length_eq_zero_iff.1 (by omega); subst this; rw [unL_nil]; simp
 | succ m ih =>
  intro l h
  by_cases hl : l = []
  · subst hl; rw [unL_nil]; simp
  · have hp : 1 ≤ l.length := List.length_pos_iff.2 hl
    by_cases hq : qt = true ∧ bt l 0 = 34
    · obtain ⟨rfl, hq⟩ := hq
      rw [unL_quote l hl hq]; exact hp
    · obtain ⟨o, n, e, hu⟩ := trip (readU qt l)
      have hq' : qt = true → bt l 0 ≠ 34 := fun h1 h2 => hq ⟨h1, h2⟩
      by_cases he : e = 0
      · subst he
        have hb := readU_bd qt l hl (by rw [hu])
        rw [hu] at hb
        simp only at hb
        rw [unL_ok qt l hl hq' hu]
        have := ih (l.drop n) (by rw [List.length_drop]; omega)
        rw [List.length_drop] at this
        simp only; omega
      · rw [unL_bad qt l hl hq' hu he]; simp
theorem unL_len (qt : Bool) : ∀ (m : Nat) (l : List UInt8), l.length ≤ m → (unL qt l).1.length ≤ 4 * l.length := by
 intro m
 induction m with
 | zero => intro l h; have : l = [] := List.length_eq_zero_iff.1 (by omega); subst this; rw [unL_nil]; simp
 | succ m ih =>
  intro l h
  by_cases hl : l = []
  · subst hl; rw [unL_nil]; simp
  · by_cases hq : qt = true ∧ bt l 0 = 34
    · obtain ⟨rfl, hq⟩ := hq
      rw [unL_quote l hl hq]; simp
    · obtain ⟨o, n, e, hu⟩ := trip (readU qt l)
      have hq' : qt = true → bt l 0 ≠ 34 := fun h1 h2 => hq ⟨h1, h2⟩
      by_cases he : e = 0
      · subst he
        have hb := readU_bd qt l hl (by rw [hu])
        rw [hu] at hb
        simp only at hb
        rw [unL_ok qt l hl hq' hu, List.length_append]
        have := ih (l.drop n) (by rw [List.length_drop]; omega)
        rw [List.length_drop] at this
        omega
      · rw [unL_bad qt l hl hq' hu he]; simp
theorem unqR_bd (q : List UInt8) (a : Int) {o : List UInt8} {z e p : Int} (h : unqR q a = (o, z, e, p)) : o.length ≤ 4 * q.length ∧ (e = 0 → 0 ≤ a ∧ a < z ∧ z ≤ q.length) ∧ 0 ≤ p ∧ p ≤ q.length := by
 unfold unqR at h
 split at h
 · obtain ⟨rfl, rfl, rfl, rfl⟩ := quad_inj h; exact ⟨by simp, (fun e => by cases e), by omega, by omega⟩
 · rename_i h1
   split at h
   · obtain ⟨rfl, rfl, rfl, rfl⟩ := quad_inj h; exact ⟨by simp, (fun e => by cases e), by omega, by omega⟩
   · rename_i h2
     split at h
     · obtain ⟨rfl, rfl, rfl, rfl⟩ := quad_inj h; exact ⟨by simp, (fun e => by cases e), by omega, by omega⟩
     · have hb := unL_bd true _ (q.drop (a + 1).toNat) (Nat.le_refl _)
       have hl := unL_len true _ (q.drop (a + 1).toNat) (Nat.le_refl _)
       rw [List.length_drop] at hb hl
       split at h
       · obtain ⟨rfl, rfl, rfl, rfl⟩ := quad_inj h
         exact ⟨by omega, fun _ => ⟨by omega, by omega, by omega⟩, by omega, by omega⟩
       · rename_i h3
         obtain ⟨rfl, rfl, rfl, rfl⟩ := quad_inj h
         exact ⟨by simp, fun e => absurd e h3, by omega, by omega⟩
theorem takeAt_bd (s : List UInt8) (i : Nat) (hi : i ≤ s.length) {v e f p : Int} (h : takeS s i = (v, e, f, p)) : (f = 0 → (i : Int) < e ∧ e ≤ s.length) ∧ 0 ≤ p ∧ p ≤ s.length := by
 rw [takeAt_drop s i hi] at h
 obtain ⟨v', e', f', p', ht⟩ : ∃ v e f p, takeS (s.drop i) 0 = (v, e, f, p) := ⟨_, _, _, _, rfl⟩
 rw [ht] at h
 simp only [Prod.mk.injEq] at h
 obtain ⟨_, h2, h3, h4⟩ := h
 subst h3
 have hp : 0 ≤ p' ∧ p' ≤ (s.drop i).length := by
  have h0 : takeS (s.drop i) 0 = takeAt (s.drop i) 0 := takeS_in _ 0 (Nat.zero_le _)
  rw [h0] at ht
  obtain ⟨fr, hfr⟩ : ∃ fr, fr = if ((s.drop i)[0]? == some 45) then 0 + 1 else 0 := ⟨_, rfl⟩
  obtain ⟨a1, a2, a3, a4⟩ := takeAt_ways (s.drop i) 0 _ rfl fr hfr _ rfl
  have hfl : fr ≤ (s.drop i).length := by
   rw [hfr]; split
   · rename_i hh
     cases hd : s.drop i with
     | nil => rw [hd] at hh; simp at hh
     | cons c l => simp
   · omega
  by_cases c1 : runL ((s.drop i).drop fr) = 0
  · by_cases c2 : fr = (s.drop i).length
    · rw [a1 ⟨c1, c2⟩] at ht; simp only [Prod.mk.injEq] at ht; omega
    · rw [a2 ⟨c1, c2⟩] at ht; simp only [Prod.mk.injEq] at ht; omega
  · by_cases c3 : (s.drop i)[fr]? = some 48 ∧ (1 < runL ((s.drop i).drop fr) ∨ ((s.drop i)[0]? == some 45) = true)
    · rw [a3 c1 c3] at ht; simp only [Prod.mk.injEq] at ht; omega
    · rw [a4 c1 c3] at ht
      split at ht <;> (simp only [Prod.mk.injEq] at ht; omega)
 rw [List.length_drop] at hp
 by_cases hf : f' = 0
 · subst hf
   rw [if_pos rfl] at h2 h4
   have hg := takeS_good (s.drop i) v' e' p' ht
   rw [List.length_drop] at hg
   exact ⟨fun _ => ⟨by omega, by omega⟩, by omega, by omega⟩
 · rw [if_neg hf] at h2 h4
   exact ⟨fun e => absurd e hf, by omega, by omega⟩
theorem tokA_bd (s : List UInt8) (i : Nat) (hi : i < s.length) {t : TokT} {e p : Int} (h : tokA s i = (t, e, p)) :
 (e = 0 → (1 ≤ t.1 ∧ t.1 ≤ 4) ∧ t.2.1 = i ∧ (i : Int) < t.2.2.1 ∧ t.2.2.1 ≤ s.length) ∧ t.2.2.2.1.length ≤ 4 * s.length ∧ (-9223372036854775808 ≤ t.2.2.2.2 ∧ t.2.2.2.2 ≤ 9223372036854775807) ∧ 0 ≤ p ∧ p ≤ s.length := by
 have hn := namN_le (s.drop i)
 have hm := markL_bd (s.drop i)
 rw [List.length_drop] at hn hm
 unfold tokA at h
 split at h
 · split at h
   · obtain ⟨rfl, rfl, rfl⟩ := tri_inj h
     exact ⟨(fun e => by cases e), by simp [ztk], by simp [ztk], by omega, by omega⟩
   · obtain ⟨rfl, rfl, rfl⟩ := tri_inj h
     refine ⟨fun _ => ⟨by simp, rfl, by simp only; omega, by simp only; omega⟩, ?_, by simp, by omega, by omega⟩
     simp only [List.length_take]; omega
 · split at h
   · rename_i hne
     have hpos := List.length_pos_iff.2 hne
     obtain ⟨rfl, rfl, rfl⟩ := tri_inj h
     exact ⟨fun _ => ⟨by simp, rfl, by simp only; omega, by simp only; omega⟩, by simp only; omega, by simp, by omega, by omega⟩
   · split at h
     · obtain ⟨v, en, f, q, ht⟩ : ∃ v e f p, takeS s i = (v, e, f, p) := ⟨_, _, _, _, rfl⟩
       have hb := takeAt_bd s i (by omega) ht
       have hv := takeS_bd s i
       unfold InI at hv
       rw [ht] at h hv
       simp only at h hv
       split at h
       · rename_i hf
         obtain ⟨rfl, rfl, rfl⟩ := tri_inj h
         exact ⟨fun e => absurd e hf, by simp [ztk], by simp [ztk], hb.2⟩
       · rename_i hf
         obtain ⟨rfl, rfl, rfl⟩ := tri_inj h
         have := hb.1 (by simpa using hf)
         exact ⟨fun _ => ⟨by simp, rfl, this.1, this.2⟩, by simp, hv, by omega, by omega⟩
     · split at h
       · obtain ⟨v, en, f, q, ht⟩ : ∃ v e f p, unqR s i = (v, e, f, p) := ⟨_, _, _, _, rfl⟩
         have hb := unqR_bd s i ht
         rw [ht] at h
         simp only at h
         split at h
         · rename_i hf
           obtain ⟨rfl, rfl, rfl⟩ := tri_inj h
           exact ⟨fun e => absurd e hf, by simp [ztk], by simp [ztk], hb.2.2⟩
         · rename_i hf
           obtain ⟨rfl, rfl, rfl⟩ := tri_inj h
           have := hb.2.1 (by simpa using hf)
           exact ⟨fun _ => ⟨by simp, rfl, this.2.1, this.2.2⟩, hb.1, by simp, by omega, by omega⟩
       · obtain ⟨rfl, rfl, rfl⟩ := tri_inj h
         exact ⟨(fun e => by split at e <;> cases e), by simp [ztk], by simp [ztk], by omega, by omega⟩
theorem comb_comb (a b : List TokT) (r : List TokT × Int × Int) : comb a (comb b r) = comb (a ++ b) r := by
 unfold comb
 by_cases h : r.2.1 = 0
 · simp [h]
 · simp [h]
theorem remL_bd : ∀ (m : Nat) (l : List UInt8), l.length ≤ m → (remL l).1 ≤ l.length := by
 intro m
 induction m with
 | zero => intro l h; have : l = [] := List.length_eq_zero_iff.1 (by omega); subst this; rw [remL_nil]; simp
 | succ m ih =>
  intro l h
  by_cases hl : l = []
  · subst hl; rw [remL_nil]; simp
  · have hd := decS_len l
    have hd1 := hd.2.1 hl
    rw [remL, dif_neg hl]
    split
    · simp
    · split
      · simp
      · split
        · simp
        · have := ih (l.drop (decS l).2.1) (by rw [List.length_drop]; have : 1 ≤ l.length := List.length_pos_iff.2 hl
                                               omega)
          rw [List.length_drop] at this
          simp only; omega
theorem scanT_clean (s : List UInt8) : ∀ (m i : Nat), s.length - i ≤ m → comb [] (scanT s i) = scanT s i := by
 intro m
 induction m with
 | zero => intro i h; rw [scanT_end s i (by omega)]; rfl
 | succ m ih =>
  intro i h
  by_cases h0 : s.length ≤ i
  · rw [scanT_end s i h0]; rfl
  · by_cases hb : blankB (bt s i) = true
    · rw [scanT_blank s i (by omega) hb]; exact ih (i + 1) (by omega)
    · have hb' : blankB (bt s i) = false := by simpa using hb
      by_cases h59 : bt s i = 59
      · obtain ⟨n, e, hr⟩ : ∃ n e, remL (s.drop i) = (n, e) := ⟨_, _, rfl⟩
        by_cases he : e = 0
        · subst he
          by_cases hn : 0 < n
          · rw [scanT_rem s i (by omega) h59 hr hn]; exact ih (i + n) (by omega)
          · rw [scanT, dif_neg h0, if_neg hb, if_pos h59, if_neg (by rw [hr]; simp), dif_neg (by rw [hr]; exact hn)]; rfl
        · rw [scanT_rembad s i (by omega) h59 hr he, comb_bad _ _ _ _ he]
      · obtain ⟨t, e, p, ht⟩ := trip (tokA s i)
        by_cases he : e = 0
        · subst he
          by_cases hlt : (i : Int) < t.2.2.1
          · rw [scanT_tok s i (by omega) hb' h59 ht hlt, comb_comb]; rfl
          · rw [scanT, dif_neg h0, if_neg hb, if_neg h59, if_neg (by rw [ht]; simp), dif_neg (by rw [ht]; exact hlt)]; rfl
        · rw [scanT_tokbad s i (by omega) hb' h59 ht he, comb_bad _ _ _ _ he]
structure SInv (s : List UInt8) (i : Int) (acc : List TokT) : Prop where
 i0 : 0 ≤ i
 i1 : i ≤ s.length
 n : (acc.length : Int) ≤ i
 eq : scanT s 0 = comb acc (scanT s i.toNat)
theorem SInv.start (s : List UInt8) : SInv s 0 [] := ⟨Int.le_refl 0, by omega, by simp, (scanT_clean s _ 0 (Nat.le_refl _)).symm⟩
theorem SInv.blank {s : List UInt8} {i : Int} {acc : List TokT} (h : SInv s i acc) (hlt : i < s.length) (hb : blankB (bt s i) = true) : SInv s (i + 1) acc := by
 have i0 := h.i0
 have := h.n
 refine ⟨by omega, by omega, by omega, ?_⟩
 rw [h.eq, scanT_blank s i.toNat (by omega) (by rw [Int.toNat_of_nonneg i0]; exact hb), show (i + 1).toNat = i.toNat + 1 by omega]
theorem SInv.rem {s : List UInt8} {i : Int} {acc : List TokT} (h : SInv s i acc) (hlt : i < s.length) (hb : bt s i = 59) {n : Nat} (hr : remL (s.drop i.toNat) = (n, 0)) (hn : 0 < n) : SInv s (i + n) acc := by
 have i0 := h.i0
 have := h.n
 have hbd := remL_bd _ (s.drop i.toNat) (Nat.le_refl _)
 rw [hr, List.length_drop] at hbd
 simp only at hbd
 refine ⟨by omega, by omega, by omega, ?_⟩
 rw [h.eq, scanT_rem s i.toNat (by omega) (by rw [Int.toNat_of_nonneg i0]; exact hb) hr hn, show (i + (n : Int)).toNat = i.toNat + n by omega]
theorem SInv.remBad {s : List UInt8} {i : Int} {acc : List TokT} (h : SInv s i acc) (hlt : i < s.length) (hb : bt s i = 59) {n : Nat} {e : Int} (hr : remL (s.drop i.toNat) = (n, e)) (he : e ≠ 0) : scanT s 0 = ([], e, i + n) := by
 have i0 := h.i0
 rw [h.eq, scanT_rembad s i.toNat (by omega) (by rw [Int.toNat_of_nonneg i0]; exact hb) hr he, comb_bad _ _ _ _ he, Int.toNat_of_nonneg i0]
theorem SInv.tok {s : List UInt8} {i : Int} {acc : List TokT} (h : SInv s i acc) (hlt : i < s.length) (hb : blankB (bt s i) = false) (h59 : bt s i ≠ 59) {t : TokT} {p : Int} (ht : tokA s i.toNat = (t, 0, p)) : SInv s t.2.2.1 (acc ++ [t]) ∧ i < t.2.2.1 := by
 have i0 := h.i0
 have := h.n
 have hbd := (tokA_bd s i.toNat (by omega) ht).1 rfl
 rw [Int.toNat_of_nonneg i0] at hbd
 refine ⟨⟨by omega, by omega, by simp; omega, ?_⟩, by omega⟩
 rw [h.eq, scanT_tok s i.toNat (by omega) (by rw [Int.toNat_of_nonneg i0]; exact hb) (by rw [Int.toNat_of_nonneg i0]; exact h59) ht (by omega), comb_comb]
theorem SInv.tokBad {s : List UInt8} {i : Int} {acc : List TokT} (h : SInv s i acc) (hlt : i < s.length) (hb : blankB (bt s i) = false) (h59 : bt s i ≠ 59) {t : TokT} {e p : Int} (ht : tokA s i.toNat = (t, e, p)) (he : e ≠ 0) : scanT s 0 = ([], e, p) := by
 have i0 := h.i0
 rw [h.eq, scanT_tokbad s i.toNat (by omega) (by rw [Int.toNat_of_nonneg i0]; exact hb) (by rw [Int.toNat_of_nonneg i0]; exact h59) ht he, comb_bad _ _ _ _ he]
theorem SInv.fin {s : List UInt8} {i : Int} {acc : List TokT} (h : SInv s i acc) (hlt : ¬ i < s.length) : scanT s 0 = (acc ++ [(0, i, i, [], 0)], 0, 0) := by
 have i0 := h.i0
 rw [h.eq, scanT_end s i.toNat (by omega), comb_ok, Int.toNat_of_nonneg i0]
def scanR (s : List UInt8) : List TokT × Int × Int := if 65536 < s.length then ([], 7, 65536) else scanT s 0
theorem tokA_ok0 (s : List UInt8) (i : Nat) {t : TokT} {e p : Int} (h : tokA s i = (t, e, p)) : (e = 0 → p = 0) ∧ (e ≠ 0 → t = ztk) := by
 unfold tokA at h
 split at h
 · split at h <;> (obtain ⟨rfl, rfl, rfl⟩ := tri_inj h; simp)
 · split at h
   · obtain ⟨rfl, rfl, rfl⟩ := tri_inj h; simp
   · split at h
     · split at h
       · rename_i hf; obtain ⟨rfl, rfl, rfl⟩ := tri_inj h; exact ⟨fun e => absurd e hf, fun _ => rfl⟩
       · obtain ⟨rfl, rfl, rfl⟩ := tri_inj h; simp
     · split at h
       · split at h
         · rename_i hf; obtain ⟨rfl, rfl, rfl⟩ := tri_inj h; exact ⟨fun e => absurd e hf, fun _ => rfl⟩
         · obtain ⟨rfl, rfl, rfl⟩ := tri_inj h; simp
       · obtain ⟨rfl, rfl, rfl⟩ := tri_inj h
         exact ⟨(fun e => by split at e <;> cases e), fun _ => rfl⟩
theorem decS_59 (l : List UInt8) (hb : bt l 0 = 59) (hl : l ≠ []) : decS l = (59, 1, true) := by
 cases l with
 | nil => exact absurd rfl hl
 | cons c l =>
  have hc : c = 59 := by
   have : (c.toNat : Int) = 59 := hb
   exact UInt8.toNat_inj.1 (by rw [show (59 : UInt8).toNat = 59 from rfl]; omega)
  subst hc
  rfl
theorem remL_semi (l : List UInt8) (hb : bt l 0 = 59) (hl : l ≠ []) : 0 < (remL l).1 := by
 have hd := decS_59 l hb hl
 rw [remL_ok l hl (by rw [hb]; decide) hd (by intro h; exact absurd h.2 (by decide))]
 simp only; omega
def remT (s : List UInt8) (i : Nat) : List TokT × Int × Int := if (remL (s.drop i)).2 ≠ 0 then ([], (remL (s.drop i)).2, (i : Int) + (remL (s.drop i)).1) else scanT s (i + (remL (s.drop i)).1)
theorem bt_dropZ (s : List UInt8) (i : Nat) : bt (s.drop i) 0 = bt s (i : Int) := by
 unfold bt; simp [List.getD_eq_getElem?_getD, List.getElem?_drop]
theorem drop_neN (s : List UInt8) (i : Nat) (h : i < s.length) : s.drop i ≠ [] := by intro e; have := congrArg List.length e; simp at this; omega
theorem remT_semi (s : List UInt8) (i : Nat) (h : i < s.length) (hb : bt s i = 59) : scanT s i = remT s i := by
 have hn := remL_semi (s.drop i) (by rw [bt_dropZ]; exact hb) (drop_neN s i h)
 obtain ⟨n, e, hr⟩ : ∃ n e, remL (s.drop i) = (n, e) := ⟨_, _, rfl⟩
 unfold remT
 rw [hr] at hn ⊢
 by_cases he : e = 0
 · subst he
   rw [scanT_rem s i h hb hr hn, if_neg (by simp)]
 · rw [scanT_rembad s i h hb hr he, if_pos he]
theorem remT_end (s : List UInt8) (i : Nat) (hb : bt s i = 10) : remT s i = scanT s i := by
 unfold remT
 rw [remL_end (s.drop i) (by rw [bt_dropZ]; exact hb), if_neg (by simp), Nat.add_zero]
theorem remT_fin (s : List UInt8) (i : Nat) (h : s.length ≤ i) : remT s i = scanT s i := by
 unfold remT
 rw [List.drop_of_length_le h, remL_nil, if_neg (by simp), Nat.add_zero]
theorem remT_bad (s : List UInt8) (i : Nat) (h : i < s.length) (hb : bt s i ≠ 10) {r : Int} {n : Nat} (hd : decS (s.drop i) = (r, n, false)) : remT s i = ([], 2, (i : Int)) := by
 unfold remT
 rw [remL_bad (s.drop i) (drop_neN s i h) (by rw [bt_dropZ]; exact hb) hd, if_pos (by decide)]; simp
theorem remT_char (s : List UInt8) (i : Nat) (h : i < s.length) (hb : bt s i ≠ 10) {r : Int} {n : Nat} (hd : decS (s.drop i) = (r, n, true)) (hr : r ≠ 9) (hu : unsafeB r = true) : remT s i = ([], 3, (i : Int)) := by
 unfold remT
 rw [remL_char (s.drop i) (drop_neN s i h) (by rw [bt_dropZ]; exact hb) hd hr hu, if_pos (by decide)]; simp
theorem remT_ok (s : List UInt8) (i : Nat) (h : i < s.length) (hb : bt s i ≠ 10) {r : Int} {n : Nat} (hd : decS (s.drop i) = (r, n, true)) (hr : ¬ (r ≠ 9 ∧ unsafeB r = true)) : remT s i = remT s (i + n) := by
 unfold remT
 rw [remL_ok (s.drop i) (drop_neN s i h) (by rw [bt_dropZ]; exact hb) hd hr, List.drop_drop]
 simp only
 split
 · refine Prod.ext rfl (Prod.ext rfl ?_); simp only; omega
 · rw [Nat.add_assoc]
structure RSInv (s : List UInt8) (i : Int) (acc : List TokT) (b : Bool) : Prop where
 i0 : 0 ≤ i
 i1 : i ≤ s.length
 n : (acc.length : Int) ≤ i
 eq : scanT s 0 = comb acc (if b = true then remT s i.toNat else scanT s i.toNat)
theorem RSInv.start (s : List UInt8) : RSInv s 0 [] false := ⟨Int.le_refl 0, by omega, by simp, by simpa using (scanT_clean s _ 0 (Nat.le_refl _)).symm⟩
theorem RSInv.out {s : List UInt8} {i : Int} {acc : List TokT} (h : RSInv s i acc false) : SInv s i acc := ⟨h.i0, h.i1, h.n, by have := h.eq; simpa using this⟩
theorem SInv.ins {s : List UInt8} {i : Int} {acc : List TokT} (h : SInv s i acc) : RSInv s i acc false := ⟨h.i0, h.i1, h.n, by have := h.eq; simpa using this⟩
theorem RSInv.line {s : List UInt8} {i : Int} {acc : List TokT} {b : Bool} (h : RSInv s i acc b) (hb : bt s i = 10) : RSInv s i acc false := by
 cases b with
 | false => exact h
 | true => exact ⟨h.i0, h.i1, h.n, by have := h.eq; rw [if_pos rfl, remT_end s _ (by rw [Int.toNat_of_nonneg h.i0]; exact hb)] at this; simpa using this⟩
theorem RSInv.fin {s : List UInt8} {i : Int} {acc : List TokT} {b : Bool} (h : RSInv s i acc b) (hlt : ¬ i < s.length) : scanT s 0 = (acc ++ [(0, (s.length : Int), (s.length : Int), [], 0)], 0, 0) := by
 have hi : i = s.length := by have := h.i1; omega
 have : SInv s i acc := by
  cases b with
  | false => exact h.out
  | true => exact ⟨h.i0, h.i1, h.n, by have := h.eq; rw [if_pos rfl, remT_fin s _ (by omega)] at this; exact this⟩
 have := this.fin hlt
 rw [hi] at this; exact this
theorem RSInv.semi {s : List UInt8} {i : Int} {acc : List TokT} {b : Bool} (h : RSInv s i acc b) (hlt : i < s.length) (hb : bt s i = 59) : RSInv s i acc true := by
 cases b with
 | true => exact h
 | false =>
  have i0 := h.i0
  refine ⟨i0, h.i1, h.n, ?_⟩
  have := h.eq
  rw [if_neg (by simp), remT_semi s i.toNat (by omega) (by rw [Int.toNat_of_nonneg i0]; exact hb)] at this
  rw [if_pos rfl]; exact this
theorem RSInv.bad {s : List UInt8} {i : Int} {acc : List TokT} (h : RSInv s i acc true) (hlt : i < s.length) (hb : bt s i ≠ 10) {r : Int} {n : Nat} (hd : decS (s.drop i.toNat) = (r, n, false)) : scanT s 0 = ([], 2, i) := by
 have i0 := h.i0
 rw [h.eq, if_pos rfl, remT_bad s i.toNat (by omega) (by rw [Int.toNat_of_nonneg i0]; exact hb) hd, comb_bad _ _ _ _ (by decide), Int.toNat_of_nonneg i0]
theorem RSInv.char {s : List UInt8} {i : Int} {acc : List TokT} (h : RSInv s i acc true) (hlt : i < s.length) (hb : bt s i ≠ 10) {r : Int} {n : Nat} (hd : decS (s.drop i.toNat) = (r, n, true)) (hr : r ≠ 9) (hu : unsafeB r = true) : scanT s 0 = ([], 3, i) := by
 have i0 := h.i0
 rw [h.eq, if_pos rfl, remT_char s i.toNat (by omega) (by rw [Int.toNat_of_nonneg i0]; exact hb) hd hr hu, comb_bad _ _ _ _ (by decide), Int.toNat_of_nonneg i0]
theorem RSInv.ok {s : List UInt8} {i : Int} {acc : List TokT} (h : RSInv s i acc true) (hlt : i < s.length) (hb : bt s i ≠ 10) {r : Int} {n : Nat} (hd : decS (s.drop i.toNat) = (r, n, true)) (hr : ¬ (r ≠ 9 ∧ unsafeB r = true)) (hn : i + n ≤ s.length) : RSInv s (i + n) acc true := by
 have i0 := h.i0
 have hnn := h.n
 refine ⟨by omega, hn, by omega, ?_⟩
 rw [h.eq, if_pos rfl, if_pos rfl, remT_ok s i.toNat (by omega) (by rw [Int.toNat_of_nonneg i0]; exact hb) hd hr, show (i + (n : Int)).toNat = i.toNat + n by omega]
structure CurT where
 i : Int
 d : Int
 e : Int
 a : Int
def peekT (l : List TokT) (c : CurT) : TokT := if c.e ≠ 0 then (0, c.a, c.a, [], 0) else l.getD c.i.toNat ztk
def nextT (l : List TokT) (c : CurT) : CurT := if (peekT l c).1 = 0 then c else ⟨c.i + 1, c.d, c.e, c.a⟩
def isT (l : List TokT) (c : CurT) (k : Int) (t : List UInt8) : Bool := decide ((peekT l c).1 = k) && decide ((peekT l c).2.2.2.1 = t)
def takT (l : List TokT) (c : CurT) (k : Int) : Bool := !decide ((peekT l c).1 = 0) && decide ((peekT l c).1 = k)
def goT (l : List TokT) (c : CurT) (b : Bool) : CurT := if b = true then nextT l c else c
def failAtT (c : CurT) (e a : Int) : CurT := if c.e = 0 ∧ e ≠ 0 then ⟨c.i, c.d, e, a⟩ else c
def failT (l : List TokT) (c : CurT) (e : Int) : CurT := failAtT c e (peekT l c).2.1
def needT (l : List TokT) (c : CurT) (t : List UInt8) : CurT := if isT l c 4 t = true then nextT l c else failT l c (if (peekT l c).1 = 0 then 5 else 4)
def enterT (l : List TokT) (c : CurT) : CurT := if c.d = 24 then failT l c 6 else ⟨c.i, c.d + 1, c.e, c.a⟩
def leaveT (c : CurT) : CurT := ⟨c.i, max (c.d - 1) 0, c.e, c.a⟩
structure TokOk (l : List TokT) : Prop where
 n : 0 < l.length
 big : l.length ≤ 65537
 fin : ∀ j t, l[j]? = some t → (t.1 = 0 ↔ j + 1 = l.length)
 bd : ∀ t ∈ l, (-9223372036854775808 ≤ t.2.1 ∧ t.2.1 ≤ 9223372036854775807) ∧ t.2.2.2.1.length ≤ 1000000000
structure CurOk (l : List TokT) (c : CurT) : Prop where
 i0 : 0 ≤ c.i
 i1 : c.i < l.length
 d0 : 0 ≤ c.d
 d1 : c.d ≤ 24
theorem CurOk.get {l : List TokT} {c : CurT} (h : CurOk l c) : ∃ t, l[c.i.toNat]? = some t ∧ l.getD c.i.toNat ztk = t := by
 have hlt : c.i.toNat < l.length := by have := h.i0; have := h.i1; omega
 exact ⟨_, List.getElem?_eq_getElem hlt, by rw [List.getD_eq_getElem?_getD, List.getElem?_eq_getElem hlt]; rfl⟩
theorem peekT_bad (l : List TokT) (c : CurT) (h : c.e ≠ 0) : peekT l c = (0, c.a, c.a, [], 0) := if_pos h
theorem peekT_ok (l : List TokT) (c : CurT) (h : c.e = 0) : peekT l c = l.getD c.i.toNat ztk := if_neg (fun hn => hn h)
theorem CurOk.next {l : List TokT} {c : CurT} (h : CurOk l c) (hl : TokOk l) : CurOk l (nextT l c) := by
 unfold nextT
 split
 · exact h
 · rename_i hn
   by_cases he : c.e = 0
   · obtain ⟨t, ht, hg⟩ := h.get
     rw [peekT_ok l c he, hg] at hn
     have := (not_congr (hl.fin _ t ht)).1 hn
     have i0 := h.i0
     have i1 := h.i1
     exact ⟨by simp only; omega, by simp only; omega, h.d0, h.d1⟩
   · rw [peekT_bad l c he] at hn; exact absurd rfl hn
theorem CurOk.failAt {l : List TokT} {c : CurT} (h : CurOk l c) (e a : Int) : CurOk l (failAtT c e a) := by
 unfold failAtT; split
 · exact ⟨h.i0, h.i1, h.d0, h.d1⟩
 · exact h
theorem CurOk.fail {l : List TokT} {c : CurT} (h : CurOk l c) (e : Int) : CurOk l (failT l c e) := h.failAt e _
theorem CurOk.go {l : List TokT} {c : CurT} (h : CurOk l c) (hl : TokOk l) (b : Bool) : CurOk l (goT l c b) := by
 unfold goT; split
 · exact h.next hl
 · exact h
theorem CurOk.need {l : List TokT} {c : CurT} (h : CurOk l c) (hl : TokOk l) (t : List UInt8) : CurOk l (needT l c t) := by
 unfold needT; split
 · exact h.next hl
 · exact h.fail _
theorem CurOk.enter {l : List TokT} {c : CurT} (h : CurOk l c) : CurOk l (enterT l c) := by
 unfold enterT; split
 · exact h.fail _
 · have d0 := h.d0; have d1 := h.d1
   exact ⟨h.i0, h.i1, by simp only; omega, by simp only; omega⟩
theorem CurOk.leave {l : List TokT} {c : CurT} (h : CurOk l c) : CurOk l (leaveT c) := by
 have d0 := h.d0; have d1 := h.d1
 exact ⟨h.i0, h.i1, by simp only [leaveT]; omega, by simp only [leaveT]; omega⟩
theorem scanT_ne (s : List UInt8) : ∀ (m i : Nat), s.length - i ≤ m → (scanT s i).2.1 = 0 → i ≤ s.length → (scanT s i).1 ≠ [] := by
 intro m
 induction m with
 | zero => intro i h _ _; rw [scanT_end s i (by omega)]; simp
 | succ m ih =>
  intro i h h0 hi
  by_cases he : s.length ≤ i
  · rw [scanT_end s i he]; simp
  · by_cases hb : blankB (bt s i) = true
    · rw [scanT_blank s i (by omega) hb] at h0 ⊢; exact ih (i + 1) (by omega) h0 (by omega)
    · have hb' : blankB (bt s i) = false := by simpa using hb
      by_cases h59 : bt s i = 59
      · obtain ⟨n, e, hr⟩ : ∃ n e, remL (s.drop i) = (n, e) := ⟨_, _, rfl⟩
        have hrb := remL_bd _ (s.drop i) (Nat.le_refl _)
        rw [hr, List.length_drop] at hrb
        simp only at hrb
        have hn := remL_semi (s.drop i) (by rw [bt_dropZ]; exact h59) (drop_neN s i (by omega))
        rw [hr] at hn
        simp only at hn
        by_cases hz : e = 0
        · subst hz
          rw [scanT_rem s i (by omega) h59 hr hn] at h0 ⊢; exact ih (i + n) (by omega) h0 (by omega)
        · rw [scanT_rembad s i (by omega) h59 hr hz] at h0; exact absurd h0 hz
      · obtain ⟨t, e, p, ht⟩ := trip (tokA s i)
        by_cases hz : e = 0
        · subst hz
          have hb1 := (tokA_bd s i (by omega) ht).1 rfl
          rw [scanT_tok s i (by omega) hb' h59 ht hb1.2.2.1] at h0 ⊢
          unfold comb at h0 ⊢
          split
          · simp
          · rename_i hc; rw [if_neg hc] at h0; exact absurd h0 hc
        · rw [scanT_tokbad s i (by omega) hb' h59 ht hz] at h0; exact absurd h0 hz
theorem scanT_toks (s : List UInt8) (hs : s.length ≤ 200000000) : ∀ (m i : Nat), s.length - i ≤ m → i ≤ s.length → (scanT s i).2.1 = 0 → ((scanT s i).1 = [] ∨ ((∀ j t, (scanT s i).1[j]? = some t → (t.1 = 0 ↔ j + 1 = (scanT s i).1.length)) ∧ ∀ t ∈ (scanT s i).1, (-9223372036854775808 ≤ t.2.1 ∧ t.2.1 ≤ 9223372036854775807) ∧ t.2.2.2.1.length ≤ 1000000000)) := by
 intro m
 induction m with
 | zero =>
  intro i h hi _
  rw [scanT_end s i (by omega)]
  refine .inr ⟨fun j t ht => ?_, fun t ht => ?_⟩
  · cases j with
    | zero => simp only [List.getElem?_cons_zero, Option.some.injEq] at ht; subst ht; simp
    | succ j => simp at ht
  · simp only [List.mem_singleton] at ht; subst ht; simp only [List.length_nil]; omega
 | succ m ih =>
  intro i h hi h0
  by_cases he : s.length ≤ i
  · rw [scanT_end s i he]
    refine .inr ⟨fun j t ht => ?_, fun t ht => ?_⟩
    · cases j with
      | zero => simp only [List.getElem?_cons_zero, Option.some.injEq] at ht; subst ht; simp
      | succ j => simp at ht
    · simp only [List.mem_singleton] at ht; subst ht; simp only [List.length_nil]; omega
  · by_cases hb : blankB (bt s i) = true
    · rw [scanT_blank s i (by omega) hb] at h0 ⊢; exact ih (i + 1) (by omega) (by omega) h0
    · have hb' : blankB (bt s i) = false := by simpa using hb
      by_cases h59 : bt s i = 59
      · obtain ⟨n, e, hr⟩ : ∃ n e, remL (s.drop i) = (n, e) := ⟨_, _, rfl⟩
        have hrb := remL_bd _ (s.drop i) (Nat.le_refl _)
        rw [hr, List.length_drop] at hrb
        simp only at hrb
        by_cases hz : e = 0
        · subst hz
          by_cases hn : 0 < n
          · rw [scanT_rem s i (by omega) h59 hr hn] at h0 ⊢; exact ih (i + n) (by omega) (by omega) h0
          · left; rw [scanT, dif_neg he, if_neg hb, if_pos h59, if_neg (by rw [hr]; simp), dif_neg (by rw [hr]; exact hn)]
        · rw [scanT_rembad s i (by omega) h59 hr hz] at h0; exact absurd h0 hz
      · obtain ⟨t, e, p, ht⟩ := trip (tokA s i)
        by_cases hz : e = 0
        · subst hz
          have hbd := tokA_bd s i (by omega) ht
          have hb1 := hbd.1 rfl
          rw [scanT_tok s i (by omega) hb' h59 ht hb1.2.2.1] at h0 ⊢
          unfold comb at h0 ⊢
          by_cases hc : (scanT s t.2.2.1.toNat).2.1 = 0
          · rw [if_pos hc]
            rcases ih t.2.2.1.toNat (by omega) (by omega) hc with hnil | ⟨i1, i2⟩
            · exfalso
              have : ∀ (m i : Nat), s.length - i ≤ m → (scanT s i).2.1 = 0 → i ≤ s.length → (scanT s i).1 ≠ [] := scanT_ne s
              exact this _ _ (Nat.le_refl _) hc (by omega) hnil
            · right
              have hne := scanT_ne s _ _ (Nat.le_refl _) hc (by omega)
              refine ⟨fun j u hu => ?_, fun u hu => ?_⟩
              · simp only [List.singleton_append, List.length_cons] at hu ⊢
                cases j with
                | zero =>
                 simp only [List.getElem?_cons_zero, Option.some.injEq] at hu
                 subst hu
                 have := List.length_pos_iff.2 hne
                 omega
                | succ j =>
                 simp only [List.getElem?_cons_succ] at hu
                 have := i1 j u hu
                 omega
              · simp only [List.singleton_append, List.mem_cons] at hu
                rcases hu with rfl | hu
                · have := hbd.2.1
                  exact ⟨by omega, by omega⟩
                · exact i2 u hu
          · rw [if_neg hc] at h0; exact absurd h0 hc
        · rw [scanT_tokbad s i (by omega) hb' h59 ht hz] at h0; exact absurd h0 hz
theorem scanR_toks {s : List UInt8} {L : List TokT} {a : Int} (h : scanR s = (L, 0, a)) (hn : L.length ≤ 65537) : TokOk L ∧ a = 0 := by
 unfold scanR at h
 split at h
 · cases h
 · rename_i hs
   have h0 : (scanT s 0).2.1 = 0 := by rw [h]
   have hne := scanT_ne s _ 0 (Nat.le_refl _) h0 (by omega)
   have ht := scanT_toks s (by omega) _ 0 (Nat.le_refl _) (by omega) h0
   have hc := scanT_clean s _ 0 (Nat.le_refl _)
   rw [h] at hne ht hc
   have ha : a = 0 := by
    unfold comb at hc
    simp only [if_true] at hc
    exact (Prod.mk.inj (Prod.mk.inj hc).2).2.symm
   refine ⟨?_, ha⟩
   rcases ht with ht | ⟨h1, h2⟩
   · exact absurd ht hne
   · exact ⟨List.length_pos_iff.2 hne, hn, h1, h2⟩
end Go.Proofs.YtldjakeigjngoaaGreat