/- BUN: texts of this proof, joined by program: PlainUnq, Unq. -/
import Derived.Test.YtkaeihlpdceokaaBON
import Derived.Test.YtkaeihlpdceokaaSafeQ
import Derived.Test.YtkaeihlpdceokaaBEX
import Derived.Test.YtkaeihlpdceokaaBRF
import Derived.Test.YtkaeihlpdceokaaBPL
import Derived.Test.YtkaeihlpdceokaaBUB
/- Plain: how texts in quotes, and scrubbed ones, are read. -/
set_option linter.unusedVariables false
set_option linter.unusedSimpArgs false
namespace Go.Proofs.Ytkaeihlpdceokaa
open Go.RowKit Bf
def badT (qt : Bool) (l : List UInt8) : Int := if (decS l).2.2 = false then 2 else if (qt = true ∨ (decS l).1 ≠ 10) ∧ unsafeB (decS l).1 = true then 3 else 0
def readU (qt : Bool) (l : List UInt8) : List UInt8 × Nat × Int :=
 if bt l 0 = 92 then (if (oneL l).2 = 0 then ([], 0, 16) else ((oneL l).1, (oneL l).2, 0))
 else if badT qt l = 0 then (l.take (decS l).2.1, (decS l).2.1, 0) else ([], 0, badT qt l)
theorem readU_bd (qt : Bool) (l : List UInt8) (hl : l ≠ []) (h : (readU qt l).2.2 = 0) : 1 ≤ (readU qt l).2.1 ∧ (readU qt l).2.1 ≤ l.length ∧ (readU qt l).1.length ≤ 4 * (readU qt l).2.1 ∧ (readU qt l).2.1 ≤ 10 := by
 have h1 := oneL_bd l
 have h2 := decS_len l
 have h3 := h2.2.1 hl
 unfold readU at h ⊢
 split
 · rename_i hb
   rw [if_pos hb] at h
   split
   · rename_i h0; rw [if_pos h0] at h; cases h
   · exact ⟨by simp only; omega, h1.2.1, by simp only; omega, h1.2.2.1⟩
 · rename_i hb
   rw [if_neg hb] at h
   split
   · exact ⟨h3, h2.1, by simp only [List.length_take]; omega, by simp only; omega⟩
   · rename_i h0; rw [if_neg h0] at h; exact absurd h h0
def unL (qt : Bool) (l : List UInt8) : List UInt8 × Nat × Int :=
 if h : l = [] then ([], 0, if qt then 5 else 0) else if qt = true ∧ bt l 0 = 34 then ([], 1, 0)
 else if h2 : (readU qt l).2.2 = 0 then ((readU qt l).1 ++ (unL qt (l.drop (readU qt l).2.1)).1, (readU qt l).2.1 + (unL qt (l.drop (readU qt l).2.1)).2.1, (unL qt (l.drop (readU qt l).2.1)).2.2)
 else ([], 0, (readU qt l).2.2)
termination_by l.length
decreasing_by
 all_goals
  have := readU_bd qt l h h2
  have h3 : 1 ≤ l.length := List.length_pos_iff.2 h
  rw [List.length_drop]; omega
theorem unL_nil (qt : Bool) : unL qt [] = ([], 0, if qt then 5 else 0) := by rw [unL, dif_pos rfl]
theorem unL_ok (qt : Bool) (l : List UInt8) (hl : l ≠ []) (h : qt = true → bt l 0 ≠ 34) {o : List UInt8} {n : Nat} (hu : readU qt l = (o, n, 0)) : unL qt l = (o ++ (unL qt (l.drop n)).1, n + (unL qt (l.drop n)).2.1, (unL qt (l.drop n)).2.2) := by
 rw [unL, dif_neg hl, if_neg (fun hh => h hh.1 hh.2), dif_pos (by rw [hu]), hu]
theorem unL_bad (qt : Bool) (l : List UInt8) (hl : l ≠ []) (h : qt = true → bt l 0 ≠ 34) {o : List UInt8} {n : Nat} {e : Int} (hu : readU qt l = (o, n, e)) (he : e ≠ 0) : unL qt l = ([], 0, e) := by
 rw [unL, dif_neg hl, if_neg (fun hh => h hh.1 hh.2), dif_neg (by rw [hu]; exact he), hu]
structure UInv (qt : Bool) (q : List UInt8) (st i : Int) (acc : List UInt8) : Prop where
 s0 : 0 ≤ st
 i0 : st ≤ i
 i1 : i ≤ q.length
 len : acc.length ≤ 4 * i.toNat
 eq : unL qt (q.drop st.toNat) = (acc ++ (unL qt (q.drop i.toNat)).1, (i - st).toNat + (unL qt (q.drop i.toNat)).2.1, (unL qt (q.drop i.toNat)).2.2)
theorem UInv.start (qt : Bool) (q : List UInt8) (st : Int) (h0 : 0 ≤ st) (h1 : st ≤ q.length) : UInv qt q st st [] := ⟨h0, by omega, h1, by simp, by simp⟩
theorem UInv.step {qt : Bool} {q : List UInt8} {st i : Int} {acc : List UInt8} (h : UInv qt q st i acc) (hlt : i < q.length) (hq : qt = true → bt q i ≠ 34) {o : List UInt8} {n : Nat} (hu : readU qt (q.drop i.toNat) = (o, n, 0)) : UInv qt q st (i + n) (acc ++ o) ∧ 1 ≤ n := by
 have s0 := h.s0
 have i0 := h.i0
 have hne := drop_ne' q i (by omega) hlt
 obtain ⟨c, l, hd, hb⟩ := bt_nat q i (by omega) hlt
 have hb0 : bt (q.drop i.toNat) 0 = bt q i := by rw [hd, hb]; rfl
 have hbd := readU_bd qt _ hne (by rw [hu])
 have hst := unL_ok qt _ hne (fun e => by rw [hb0]; exact hq e) hu
 rw [hu, List.length_drop] at hbd
 rw [List.drop_drop] at hst
 have hl := h.len
 simp only at hbd
 have e1 : (i + (n : Int)).toNat = i.toNat + n := by omega
 refine ⟨⟨s0, by omega, by omega, by simp only [List.length_append]; omega, ?_⟩, hbd.1⟩
 rw [h.eq, hst, e1]
 simp only [List.append_assoc]
 refine Prod.ext rfl (Prod.ext ?_ rfl)
 simp only; omega
theorem UInv.fin {qt : Bool} {q : List UInt8} {st i : Int} {acc : List UInt8} (h : UInv qt q st i acc) (hlt : ¬ i < q.length) : unL qt (q.drop st.toNat) = (acc, (i - st).toNat, if qt then 5 else 0) := by
 have := h.eq
 rw [show q.drop i.toNat = [] from List.drop_of_length_le (by have := h.i0; have := h.s0; omega), unL_nil] at this
 simpa using this
theorem UInv.bad {qt : Bool} {q : List UInt8} {st i : Int} {acc : List UInt8} (h : UInv qt q st i acc) (hlt : i < q.length) (hq : qt = true → bt q i ≠ 34) {o : List UInt8} {n : Nat} {e : Int} (hu : readU qt (q.drop i.toNat) = (o, n, e)) (he : e ≠ 0) : unL qt (q.drop st.toNat) = (acc, (i - st).toNat, e) := by
 have s0 := h.s0
 have i0 := h.i0
 obtain ⟨c, l, hd, hb⟩ := bt_nat q i (by omega) hlt
 have hb0 : bt (q.drop i.toNat) 0 = bt q i := by rw [hd, hb]; rfl
 have := h.eq
 rw [unL_bad qt _ (drop_ne' q i (by omega) hlt) (fun e => by rw [hb0]; exact hq e) hu he] at this
 simpa using this
theorem dec_bd (q : List UInt8) (i : Int) (h0 : 0 ≤ i) (h1 : i < q.length) {r : Int} {n : Nat} {ok : Bool} (hd' : decAt q i = (r, n, ok)) : 0 ≤ r ∧ r ≤ 2097151 ∧ 1 ≤ n ∧ i + n ≤ q.length ∧ n ≤ 4 := by
 rw [decAt_in' q i h0 h1] at hd'
 have h2 := decS_len (q.drop i.toNat)
 have h3 := decS_val2 (q.drop i.toNat)
 have h4 := h2.2.1 (drop_ne' q i h0 h1)
 rw [hd', List.length_drop] at h2
 rw [hd'] at h3 h4
 simp only at h2 h3 h4
 exact ⟨h3.1, h3.2, h4, by omega, h2.2.2⟩
end Go.Proofs.Ytkaeihlpdceokaa
/- Contracts: escape.plain, Unquote, Canonical, and the reference's Unquote. -/
namespace Go.Proofs.Ytkaeihlpdceokaa
open Go.RowKit Bf
def unqR (q : List UInt8) (a : Int) : List UInt8 × Int × Int × Int :=
 if a < 0 ∨ (q.length : Int) < a then ([], 0, 1, 0) else if a = q.length then ([], 0, 5, a) else if bt q a ≠ 34 then ([], 0, 4, a)
 else if (unL true (q.drop (a + 1).toNat)).2.2 = 0 then ((unL true (q.drop (a + 1).toNat)).1, a + 1 + (unL true (q.drop (a + 1).toNat)).2.1, 0, 0)
 else ([], 0, (unL true (q.drop (a + 1).toNat)).2.2, a + 1 + (unL true (q.drop (a + 1).toNat)).2.1)
structure UqSt where
 i : Int
 v : Value
 acc : List UInt8
end Go.Proofs.Ytkaeihlpdceokaa