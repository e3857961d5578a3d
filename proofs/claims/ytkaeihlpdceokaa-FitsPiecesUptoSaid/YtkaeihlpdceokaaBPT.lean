/- BPT: texts of this proof, joined by program: PlainTok, PlainTok2, PlainTok4, PlainCur. -/
import Derived.Test.YtkaeihlpdceokaaBUN
import Derived.Test.YtkaeihlpdceokaaBPL
/- Plain: tokens. -/
set_option linter.unusedVariables false
set_option linter.unusedSimpArgs false
namespace Go.Proofs.Ytkaeihlpdceokaa
open Go.RowKit Bf
abbrev TokT := Int × Int × Int × List UInt8 × Int
def ztk : TokT := (0, 0, 0, [], 0)
def marksT : List UInt8 := [123, 125, 91, 93, 40, 41, 44, 58, 61, 60, 62, 64, 43, 35, 126, 42]
def markL : List UInt8 → List UInt8
 | [] => []
 | c :: l => if c = 46 then (if l.head? = some 46 then [46, 46] else []) else if c ∈ marksT then [c] else []
def remL (l : List UInt8) : Nat × Int :=
 if h : l = [] then (0, 0) else if bt l 0 = 10 then (0, 0) else if (decS l).2.2 = false then (0, 2) else if (decS l).1 ≠ 9 ∧ unsafeB (decS l).1 = true then (0, 3)
 else ((decS l).2.1 + (remL (l.drop (decS l).2.1)).1, (remL (l.drop (decS l).2.1)).2)
termination_by l.length
decreasing_by
 all_goals exact decS_drop_lt l h
theorem remL_nil : remL [] = (0, 0) := by rw [remL, dif_pos rfl]
theorem remL_bad (l : List UInt8) (hl : l ≠ []) (h : bt l 0 ≠ 10) {r : Int} {n : Nat} (hd : decS l = (r, n, false)) : remL l = (0, 2) := by
 rw [remL, dif_neg hl, if_neg h, hd, if_pos rfl]
theorem remL_ok (l : List UInt8) (hl : l ≠ []) (h : bt l 0 ≠ 10) {r : Int} {n : Nat} (hd : decS l = (r, n, true)) (hr : ¬ (r ≠ 9 ∧ unsafeB r = true)) : remL l = (n + (remL (l.drop n)).1, (remL (l.drop n)).2) := by
 rw [remL, dif_neg hl, if_neg h, hd, if_neg (by simp), if_neg hr]
def tokA (s : List UInt8) (i : Nat) : TokT × Int × Int :=
 if 0 < namN (s.drop i) then (if 32 < namN (s.drop i) then (ztk, 9, (i : Int)) else ((1, (i : Int), (i : Int) + namN (s.drop i), (s.drop i).take (namN (s.drop i)), 0), 0, 0))
 else if markL (s.drop i) ≠ [] then ((4, (i : Int), (i : Int) + (markL (s.drop i)).length, markL (s.drop i), 0), 0, 0)
 else if bt s i = 45 ∨ (48 ≤ bt s i ∧ bt s i ≤ 57) then (if (takeS s i).2.2.1 ≠ 0 then (ztk, (takeS s i).2.2.1, (takeS s i).2.2.2) else ((2, (i : Int), (takeS s i).2.1, [], (takeS s i).1), 0, 0))
 else if bt s i = 34 then (if (unqR s i).2.2.1 ≠ 0 then (ztk, (unqR s i).2.2.1, (unqR s i).2.2.2) else ((3, (i : Int), (unqR s i).2.1, (unqR s i).1, 0), 0, 0))
 else (ztk, if (decAt s i).2.2 = true then 3 else 2, (i : Int))
def blankB (c : Int) : Bool := decide (c = 9) || decide (c = 10) || decide (c = 13) || decide (c = 32)
def scanT (s : List UInt8) (i : Nat) : List TokT × Int × Int :=
 if h0 : s.length ≤ i then ([(0, (i : Int), (i : Int), [], 0)], 0, 0)
 else if blankB (bt s i) = true then scanT s (i + 1)
 else if bt s i = 59 then
  (if (remL (s.drop i)).2 ≠ 0 then ([], (remL (s.drop i)).2, (i : Int) + (remL (s.drop i)).1)
   else if h1 : 0 < (remL (s.drop i)).1 then scanT s (i + (remL (s.drop i)).1) else ([], 0, 0))
 else if (tokA s i).2.1 ≠ 0 then ([], (tokA s i).2.1, (tokA s i).2.2)
 else if h2 : (i : Int) < (tokA s i).1.2.2.1 then
  (if (scanT s (tokA s i).1.2.2.1.toNat).2.1 = 0 then ((tokA s i).1 :: (scanT s (tokA s i).1.2.2.1.toNat).1, 0, 0) else ([], (scanT s (tokA s i).1.2.2.1.toNat).2.1, (scanT s (tokA s i).1.2.2.1.toNat).2.2))
 else ([], 0, 0)
termination_by s.length - i
decreasing_by
 all_goals omega
def comb (acc : List TokT) (r : List TokT × Int × Int) : List TokT × Int × Int := if r.2.1 = 0 then (acc ++ r.1, 0, 0) else ([], r.2.1, r.2.2)
theorem comb_ok (acc l : List TokT) (p : Int) : comb acc (l, 0, p) = (acc ++ l, 0, 0) := rfl
theorem comb_bad (acc l : List TokT) (e p : Int) (h : e ≠ 0) : comb acc (l, e, p) = ([], e, p) := if_neg h
theorem scanT_end (s : List UInt8) (i : Nat) (h : s.length ≤ i) : scanT s i = ([(0, (i : Int), (i : Int), [], 0)], 0, 0) := by rw [scanT, dif_pos h]
theorem scanT_blank (s : List UInt8) (i : Nat) (h : i < s.length) (hb : blankB (bt s i) = true) : scanT s i = scanT s (i + 1) := by rw [scanT, dif_neg (by omega), if_pos hb]
theorem scanT_rem (s : List UInt8) (i : Nat) (h : i < s.length) (hb : bt s i = 59) {n : Nat} (hr : remL (s.drop i) = (n, 0)) (hn : 0 < n) : scanT s i = scanT s (i + n) := by
 rw [scanT, dif_neg (by omega), if_neg (by rw [hb]; decide), if_pos hb, if_neg (by rw [hr]; simp), dif_pos (by rw [hr]; exact hn), hr]
theorem scanT_rembad (s : List UInt8) (i : Nat) (h : i < s.length) (hb : bt s i = 59) {n : Nat} {e : Int} (hr : remL (s.drop i) = (n, e)) (he : e ≠ 0) : scanT s i = ([], e, (i : Int) + n) := by
 rw [scanT, dif_neg (by omega), if_neg (by rw [hb]; decide), if_pos hb, if_pos (by rw [hr]; exact he), hr]
theorem scanT_tok (s : List UInt8) (i : Nat) (h : i < s.length) (hb : blankB (bt s i) = false) (h59 : bt s i ≠ 59) {t : TokT} {p : Int} (ht : tokA s i = (t, 0, p)) (hlt : (i : Int) < t.2.2.1) : scanT s i = comb [t] (scanT s t.2.2.1.toNat) := by
 rw [scanT, dif_neg (by omega), if_neg (by rw [hb]; decide), if_neg h59, if_neg (by rw [ht]; simp), dif_pos (by rw [ht]; exact hlt), ht]; rfl
theorem scanT_tokbad (s : List UInt8) (i : Nat) (h : i < s.length) (hb : blankB (bt s i) = false) (h59 : bt s i ≠ 59) {t : TokT} {e p : Int} (ht : tokA s i = (t, e, p)) (he : e ≠ 0) : scanT s i = ([], e, p) := by
 rw [scanT, dif_neg (by omega), if_neg (by rw [hb]; decide), if_neg h59, if_pos (by rw [ht]; exact he), ht]
theorem comb_comb (a b : List TokT) (r : List TokT × Int × Int) : comb a (comb b r) = comb (a ++ b) r := by
 unfold comb
 by_cases h : r.2.1 = 0
 · simp [h]
 · simp [h]
theorem scanT_clean (s : List UInt8) : ∀ (m i : Nat), s.length - i ≤ m → comb [] (scanT s i) = scanT s i := by
 intro m
 induction m with
 | zero => intro i h; rw [scanT_end s i (by omega)]; rfl
 | succ m ih =>
  intro i h
  by_cases h0 : s.length ≤ i
  · rw [scanT_end s i h0]; rfl
  · by_cases hb : blankB (bt s i) = true
    · rw [scanT_blank s i (by omega) hb]; exact ih (i + 1) (by omega)
    · have hb' : blankB (bt s i) = false := by simpa using hb
      by_cases h59 : bt s i = 59
      · obtain ⟨n, e, hr⟩ : ∃ n e, remL (s.drop i) = (n, e) := ⟨_, _, rfl⟩
        by_cases he : e = 0
        · subst he
          by_cases hn : 0 < n
          · rw [scanT_rem s i (by omega) h59 hr hn]; exact ih (i + n) (by omega)
          · rw [scanT, dif_neg h0, if_neg hb, if_pos h59, if_neg (by rw [hr]; simp), dif_neg (by rw [hr]; exact hn)]; rfl
        · rw [scanT_rembad s i (by omega) h59 hr he, comb_bad _ _ _ _ he]
      · obtain ⟨t, e, p, ht⟩ := trip (tokA s i)
        by_cases he : e = 0
        · subst he
          by_cases hlt : (i : Int) < t.2.2.1
          · rw [scanT_tok s i (by omega) hb' h59 ht hlt, comb_comb]; rfl
          · rw [scanT, dif_neg h0, if_neg hb, if_neg h59, if_neg (by rw [ht]; simp), dif_neg (by rw [ht]; exact hlt)]; rfl
        · rw [scanT_tokbad s i (by omega) hb' h59 ht he, comb_bad _ _ _ _ he]
structure SInv (s : List UInt8) (i : Int) (acc : List TokT) : Prop where
 i0 : 0 ≤ i
 i1 : i ≤ s.length
 n : (acc.length : Int) ≤ i
 eq : scanT s 0 = comb acc (scanT s i.toNat)
theorem SInv.start (s : List UInt8) : SInv s 0 [] := ⟨Int.le_refl 0, by omega, by simp, (scanT_clean s _ 0 (Nat.le_refl _)).symm⟩
theorem SInv.fin {s : List UInt8} {i : Int} {acc : List TokT} (h : SInv s i acc) (hlt : ¬ i < s.length) : scanT s 0 = (acc ++ [(0, i, i, [], 0)], 0, 0) := by
 have i0 := h.i0
 rw [h.eq, scanT_end s i.toNat (by omega), comb_ok, Int.toNat_of_nonneg i0]
end Go.Proofs.Ytkaeihlpdceokaa
/- Plain: tokens lie where they lie: a text further on, and a part of a text. -/
namespace Go.Proofs.Ytkaeihlpdceokaa
open Go.RowKit Bf
end Go.Proofs.Ytkaeihlpdceokaa
/- Plain: how the reference cuts a text. -/
namespace Go.Proofs.Ytkaeihlpdceokaa
open Go.RowKit Bf
def remT (s : List UInt8) (i : Nat) : List TokT × Int × Int := if (remL (s.drop i)).2 ≠ 0 then ([], (remL (s.drop i)).2, (i : Int) + (remL (s.drop i)).1) else scanT s (i + (remL (s.drop i)).1)
theorem bt_dropZ (s : List UInt8) (i : Nat) : bt (s.drop i) 0 = bt s (i : Int) := by
 unfold bt; simp [List.getD_eq_getElem?_getD, List.getElem?_drop]
theorem drop_neN (s : List UInt8) (i : Nat) (h : i < s.length) : s.drop i ≠ [] := by intro e; have := congrArg List.length e; simp at this; omega
theorem remT_fin (s : List UInt8) (i : Nat) (h : s.length ≤ i) : remT s i = scanT s i := by
 unfold remT
 rw [List.drop_of_length_le h, remL_nil, if_neg (by simp), Nat.add_zero]
theorem remT_bad (s : List UInt8) (i : Nat) (h : i < s.length) (hb : bt s i ≠ 10) {r : Int} {n : Nat} (hd : decS (s.drop i) = (r, n, false)) : remT s i = ([], 2, (i : Int)) := by
 unfold remT
 rw [remL_bad (s.drop i) (drop_neN s i h) (by rw [bt_dropZ]; exact hb) hd, if_pos (by decide)]; simp
theorem remT_ok (s : List UInt8) (i : Nat) (h : i < s.length) (hb : bt s i ≠ 10) {r : Int} {n : Nat} (hd : decS (s.drop i) = (r, n, true)) (hr : ¬ (r ≠ 9 ∧ unsafeB r = true)) : remT s i = remT s (i + n) := by
 unfold remT
 rw [remL_ok (s.drop i) (drop_neN s i h) (by rw [bt_dropZ]; exact hb) hd hr, List.drop_drop]
 simp only
 split
 · refine Prod.ext rfl (Prod.ext rfl ?_); simp only; omega
 · rw [Nat.add_assoc]
structure RSInv (s : List UInt8) (i : Int) (acc : List TokT) (b : Bool) : Prop where
 i0 : 0 ≤ i
 i1 : i ≤ s.length
 n : (acc.length : Int) ≤ i
 eq : scanT s 0 = comb acc (if b = true then remT s i.toNat else scanT s i.toNat)
theorem RSInv.start (s : List UInt8) : RSInv s 0 [] false := ⟨Int.le_refl 0, by omega, by simp, by simpa using (scanT_clean s _ 0 (Nat.le_refl _)).symm⟩
theorem RSInv.out {s : List UInt8} {i : Int} {acc : List TokT} (h : RSInv s i acc false) : SInv s i acc := ⟨h.i0, h.i1, h.n, by have := h.eq; simpa using this⟩
theorem RSInv.fin {s : List UInt8} {i : Int} {acc : List TokT} {b : Bool} (h : RSInv s i acc b) (hlt : ¬ i < s.length) : scanT s 0 = (acc ++ [(0, (s.length : Int), (s.length : Int), [], 0)], 0, 0) := by
 have hi : i = s.length := by have := h.i1; omega
 have : SInv s i acc := by
  cases b with
  | false => exact h.out
  | true => exact ⟨h.i0, h.i1, h.n, by have := h.eq; rw [if_pos rfl, remT_fin s _ (by omega)] at this; exact this⟩
 have := this.fin hlt
 rw [hi] at this; exact this
theorem RSInv.bad {s : List UInt8} {i : Int} {acc : List TokT} (h : RSInv s i acc true) (hlt : i < s.length) (hb : bt s i ≠ 10) {r : Int} {n : Nat} (hd : decS (s.drop i.toNat) = (r, n, false)) : scanT s 0 = ([], 2, i) := by
 have i0 := h.i0
 rw [h.eq, if_pos rfl, remT_bad s i.toNat (by omega) (by rw [Int.toNat_of_nonneg i0]; exact hb) hd, comb_bad _ _ _ _ (by decide), Int.toNat_of_nonneg i0]
theorem RSInv.ok {s : List UInt8} {i : Int} {acc : List TokT} (h : RSInv s i acc true) (hlt : i < s.length) (hb : bt s i ≠ 10) {r : Int} {n : Nat} (hd : decS (s.drop i.toNat) = (r, n, true)) (hr : ¬ (r ≠ 9 ∧ unsafeB r = true)) (hn : i + n ≤ s.length) : RSInv s (i + n) acc true := by
 have i0 := h.i0
 have hnn := h.n
 refine ⟨by omega, hn, by omega, ?_⟩
 rw [h.eq, if_pos rfl, if_pos rfl, remT_ok s i.toNat (by omega) (by rw [Int.toNat_of_nonneg i0]; exact hb) hd hr, show (i + (n : Int)).toNat = i.toNat + n by omega]
end Go.Proofs.Ytkaeihlpdceokaa
/- Plain: a cursor over tokens. -/
namespace Go.Proofs.Ytkaeihlpdceokaa
open Go.RowKit Bf
structure CurT where
 i : Int
 d : Int
 e : Int
 a : Int
def peekT (l : List TokT) (c : CurT) : TokT := if c.e ≠ 0 then (0, c.a, c.a, [], 0) else l.getD c.i.toNat ztk
def nextT (l : List TokT) (c : CurT) : CurT := if (peekT l c).1 = 0 then c else ⟨c.i + 1, c.d, c.e, c.a⟩
def goT (l : List TokT) (c : CurT) (b : Bool) : CurT := if b = true then nextT l c else c
def failAtT (c : CurT) (e a : Int) : CurT := if c.e = 0 ∧ e ≠ 0 then ⟨c.i, c.d, e, a⟩ else c
def failT (l : List TokT) (c : CurT) (e : Int) : CurT := failAtT c e (peekT l c).2.1
def enterT (l : List TokT) (c : CurT) : CurT := if c.d = 24 then failT l c 6 else ⟨c.i, c.d + 1, c.e, c.a⟩
structure TokOk (l : List TokT) : Prop where
 n : 0 < l.length
 big : l.length ≤ 65537
 fin : ∀ j t, l[j]? = some t → (t.1 = 0 ↔ j + 1 = l.length)
 bd : ∀ t ∈ l, (-9223372036854775808 ≤ t.2.1 ∧ t.2.1 ≤ 9223372036854775807) ∧ t.2.2.2.1.length ≤ 1000000000
structure CurOk (l : List TokT) (c : CurT) : Prop where
 i0 : 0 ≤ c.i
 i1 : c.i < l.length
 d0 : 0 ≤ c.d
 d1 : c.d ≤ 24
theorem CurOk.get {l : List TokT} {c : CurT} (h : CurOk l c) : ∃ t, l[c.i.toNat]? = some t ∧ l.getD c.i.toNat ztk = t := by
 have hlt : c.i.toNat < l.length := by have := h.i0; have := h.i1; omega
 exact ⟨_, List.getElem?_eq_getElem hlt, by rw [List.getD_eq_getElem?_getD, List.getElem?_eq_getElem hlt]; rfl⟩
theorem peekT_bad (l : List TokT) (c : CurT) (h : c.e ≠ 0) : peekT l c = (0, c.a, c.a, [], 0) := if_pos h
theorem peekT_ok (l : List TokT) (c : CurT) (h : c.e = 0) : peekT l c = l.getD c.i.toNat ztk := if_neg (fun hn => hn h)
theorem CurOk.next {l : List TokT} {c : CurT} (h : CurOk l c) (hl : TokOk l) : CurOk l (nextT l c) := by
 unfold nextT
 split
 · exact h
 · rename_i hn
   by_cases he : c.e = 0
   · obtain ⟨t, ht, hg⟩ := h.get
     rw [peekT_ok l c he, hg] at hn
     have := (not_congr (hl.fin _ t ht)).1 hn
     have i0 := h.i0
     have i1 := h.i1
     exact ⟨by simp only; omega, by simp only; omega, h.d0, h.d1⟩
   · rw [peekT_bad l c he] at hn; exact absurd rfl hn
theorem CurOk.failAt {l : List TokT} {c : CurT} (h : CurOk l c) (e a : Int) : CurOk l (failAtT c e a) := by
 unfold failAtT; split
 · exact ⟨h.i0, h.i1, h.d0, h.d1⟩
 · exact h
theorem CurOk.fail {l : List TokT} {c : CurT} (h : CurOk l c) (e : Int) : CurOk l (failT l c e) := h.failAt e _
theorem CurOk.go {l : List TokT} {c : CurT} (h : CurOk l c) (hl : TokOk l) (b : Bool) : CurOk l (goT l c b) := by
 unfold goT; split
 · exact h.next hl
 · exact h
theorem CurOk.enter {l : List TokT} {c : CurT} (h : CurOk l c) : CurOk l (enterT l c) := by
 unfold enterT; split
 · exact h.fail _
 · have d0 := h.d0; have d1 := h.d1
   exact ⟨h.i0, h.i1, by simp only; omega, by simp only; omega⟩
end Go.Proofs.Ytkaeihlpdceokaa