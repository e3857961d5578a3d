/- BUN: texts of this proof, joined by program: PlainUnq, Unq. -/
import Derived.Test.YtldjakeigjngoaaGreatBON
import Derived.Test.YtldjakeigjngoaaGreatSafeQ
import Derived.Test.YtldjakeigjngoaaGreatROneQ
import Derived.Test.YtldjakeigjngoaaGreatBEX
import Derived.Test.YtldjakeigjngoaaGreatBRF
import Derived.Test.YtldjakeigjngoaaGreatBPL
import Derived.Test.YtldjakeigjngoaaGreatBUB
set_option linter.unusedVariables false
set_option linter.unusedSimpArgs false
namespace Go.Proofs.YtldjakeigjngoaaGreat
open Go.RowKit Bf
def badT (qt : Bool) (l : List UInt8) : Int := if (decS l).2.2 = false then 2 else if (qt = true ∨ (decS l).1 ≠ 10) ∧ unsafeB (decS l).1 = true then 3 else 0
def readU (qt : Bool) (l : List UInt8) : List UInt8 × Nat × Int :=
 if bt l 0 = 92 then (if (oneL l).2 = 0 then ([], 0, 16) else ((oneL l).1, (oneL l).2, 0))
 else if badT qt l = 0 then (l.take (decS l).2.1, (decS l).2.1, 0) else ([], 0, badT qt l)
theorem readU_bd (qt : Bool) (l : List UInt8) (hl : l ≠ []) (h : (readU qt l).2.2 = 0) : 1 ≤ (readU qt l).2.1 ∧ (readU qt l).2.1 ≤ l.length ∧ (readU qt l).1.length ≤ 4 * (readU qt l).2.1 ∧ (readU qt l).2.1 ≤ 10 := by
 have h1 := oneL_bd l
 have h2 := decS_len l
 have h3 := h2.2.1 hl
 unfold readU at h ⊢
 split
 · rename_i hb
   rw [if_pos hb] at h
   split
   · rename_i h0; rw [if_pos h0] at h; cases h
   · exact ⟨by simp only; omega, h1.2.1, by simp only; omega, h1.2.2.1⟩
 · rename_i hb
   rw [if_neg hb] at h
   split
   · exact ⟨h3, h2.1, by simp only [List.length_take]; omega, by simp only; omega⟩
   · rename_i h0; rw [if_neg h0] at h; exact absurd h h0
def unL (qt : Bool) (l : List UInt8) : List UInt8 × Nat × Int :=
 if h : l = [] then ([], 0, if qt then 5 else 0) else if qt = true ∧ bt l 0 = 34 then ([], 1, 0)
 else if h2 : (readU qt l).2.2 = 0 then ((readU qt l).1 ++ (unL qt (l.drop (readU qt l).2.1)).1, (readU qt l).2.1 + (unL qt (l.drop (readU qt l).2.1)).2.1, (unL qt (l.drop (readU qt l).2.1)).2.2)
 else ([], 0, (readU qt l).2.2)
termination_by l.length
decreasing_by
 all_goals
  have := readU_bd qt l h h2
  have h3 : 1 ≤ l.length := List.length_pos_iff.2 h
  rw [List.length_drop]; omega
theorem unL_nil (qt : Bool) : unL qt [] = ([], 0, if qt then 5 else 0) := by rw [unL, dif_pos rfl]
theorem unL_quote (l : List UInt8) (hl : l ≠ []) (h : bt l 0 = 34) : unL true l = ([], 1, 0) := by rw [unL, dif_neg hl, if_pos ⟨rfl, h⟩]
theorem unL_ok (qt : Bool) (l : List UInt8) (hl : l ≠ []) (h : qt = true → bt l 0 ≠ 34) {o : List UInt8} {n : Nat} (hu : readU qt l = (o, n, 0)) : unL qt l = (o ++ (unL qt (l.drop n)).1, n + (unL qt (l.drop n)).2.1, (unL qt (l.drop n)).2.2) := by
 rw [unL, dif_neg hl, if_neg (fun hh => h hh.1 hh.2), dif_pos (by rw [hu]), hu]
theorem unL_bad (qt : Bool) (l : List UInt8) (hl : l ≠ []) (h : qt = true → bt l 0 ≠ 34) {o : List UInt8} {n : Nat} {e : Int} (hu : readU qt l = (o, n, e)) (he : e ≠ 0) : unL qt l = ([], 0, e) := by
 rw [unL, dif_neg hl, if_neg (fun hh => h hh.1 hh.2), dif_neg (by rw [hu]; exact he), hu]
structure UInv (qt : Bool) (q : List UInt8) (st i : Int) (acc : List UInt8) : Prop where
 s0 : 0 ≤ st
 i0 : st ≤ i
 i1 : i ≤ q.length
 len : acc.length ≤ 4 * i.toNat
 eq : unL qt (q.drop st.toNat) = (acc ++ (unL qt (q.drop i.toNat)).1, (i - st).toNat + (unL qt (q.drop i.toNat)).2.1, (unL qt (q.drop i.toNat)).2.2)
theorem UInv.start (qt : Bool) (q : List UInt8) (st : Int) (h0 : 0 ≤ st) (h1 : st ≤ q.length) : UInv qt q st st [] := ⟨h0, by omega, h1, by simp, by simp⟩
theorem UInv.step {qt : Bool} {q : List UInt8} {st i : Int} {acc : List UInt8} (h : UInv qt q st i acc) (hlt : i < q.length) (hq : qt = true → bt q i ≠ 34) {o : List UInt8} {n : Nat} (hu : readU qt (q.drop i.toNat) = (o, n, 0)) : UInv qt q st (i + n) (acc ++ o) ∧ 1 ≤ n := by
 have s0 := h.s0
 have i0 := h.i0
 have hne := drop_ne' q i (by omega) hlt
 obtain ⟨c, l, hd, hb⟩ := bt_nat q i (by omega) hlt
 have hb0 : bt (q.drop i.toNat) 0 = bt q i := by rw [hd, hb]; rfl
 have hbd := readU_bd qt _ hne (by rw [hu])
 have hst := unL_ok qt _ hne (fun e => by rw [hb0]; exact hq e) hu
 rw [hu, List.length_drop] at hbd
 rw [List.drop_drop] at hst
 have hl := h.len
 simp only at hbd
 have e1 : (i + (n : Int)).toNat = i.toNat + n := by omega
 refine ⟨⟨s0, by omega, by omega, by simp only [List.length_append]; omega, ?_⟩, hbd.1⟩
 rw [h.eq, hst, e1]
 simp only [List.append_assoc]
 refine Prod.ext rfl (Prod.ext ?_ rfl)
 simp only; omega
theorem UInv.fin {qt : Bool} {q : List UInt8} {st i : Int} {acc : List UInt8} (h : UInv qt q st i acc) (hlt : ¬ i < q.length) : unL qt (q.drop st.toNat) = (acc, (i - st).toNat, if qt then 5 else 0) := by
 have := h.eq
 rw [show q.drop i.toNat = [] from List.drop_of_length_le (by have := h.i0; have := h.s0; omega), unL_nil] at this
 simpa using this
theorem UInv.quote {q : List UInt8} {st i : Int} {acc : List UInt8} (h : UInv true q st i acc) (hlt : i < q.length) (hq : bt q i = 34) : unL true (q.drop st.toNat) = (acc, (i - st).toNat + 1, 0) := by
 have s0 := h.s0
 have i0 := h.i0
 obtain ⟨c, l, hd, hb⟩ := bt_nat q i (by omega) hlt
 have hb0 : bt (q.drop i.toNat) 0 = bt q i := by rw [hd, hb]; rfl
 have := h.eq
 rw [unL_quote _ (drop_ne' q i (by omega) hlt) (by rw [hb0]; exact hq)] at this
 simpa using this
theorem UInv.bad {qt : Bool} {q : List UInt8} {st i : Int} {acc : List UInt8} (h : UInv qt q st i acc) (hlt : i < q.length) (hq : qt = true → bt q i ≠ 34) {o : List UInt8} {n : Nat} {e : Int} (hu : readU qt (q.drop i.toNat) = (o, n, e)) (he : e ≠ 0) : unL qt (q.drop st.toNat) = (acc, (i - st).toNat, e) := by
 have s0 := h.s0
 have i0 := h.i0
 obtain ⟨c, l, hd, hb⟩ := bt_nat q i (by omega) hlt
 have hb0 : bt (q.drop i.toNat) 0 = bt q i := by rw [hd, hb]; rfl
 have := h.eq
 rw [unL_bad qt _ (drop_ne' q i (by omega) hlt) (fun e => by rw [hb0]; exact hq e) hu he] at this
 simpa using this
theorem readU_slash (qt : Bool) (q : List UInt8) (i : Int) (h0 : 0 ≤ i) (h1 : i < q.length) (hb : bt q i = 92) {o : List UInt8} {n : Nat} (ho : oneAt q i = (o, n)) : readU qt (q.drop i.toNat) = if n = 0 then ([], 0, 16) else (o, n, 0) := by
 obtain ⟨c, l, hd, hb'⟩ := bt_nat q i h0 h1
 have hb0 : bt (q.drop i.toNat) 0 = 92 := by rw [hd, ← hb, hb']; rfl
 unfold oneAt at ho
 rw [if_neg (by omega)] at ho
 unfold readU
 rw [if_pos hb0, ho]
theorem readU_plain (qt : Bool) (q : List UInt8) (i : Int) (h0 : 0 ≤ i) (h1 : i < q.length) (hb : bt q i ≠ 92) {r : Int} {n : Nat} {ok : Bool} (hd' : decAt q i = (r, n, ok)) {e : Int} (he : badT qt (q.drop i.toNat) = e) : readU qt (q.drop i.toNat) = if e = 0 then ((q.drop i.toNat).take n, n, 0) else ([], 0, e) := by
 obtain ⟨c, l, hd, hb'⟩ := bt_nat q i h0 h1
 have hb0 : bt (q.drop i.toNat) 0 ≠ 92 := by rw [hd]; intro e; apply hb; rw [hb']; exact e
 rw [decAt_in' q i h0 h1] at hd'
 unfold readU
 rw [if_neg hb0, he, hd']
theorem oneAt_no (q : List UInt8) (i : Int) (h0 : 0 ≤ i) (h1 : i < q.length) (hb : bt q i ≠ 92) : oneAt q i = ([], 0) := by
 obtain ⟨c, l, hd, hb'⟩ := bt_nat q i h0 h1
 unfold oneAt
 rw [if_neg (by omega)]
 exact oneL_no _ (.inr (by rw [hd]; intro e; apply hb; rw [hb']; exact e))
theorem tri_inj {α β γ : Type} {a a' : α} {b b' : β} {c c' : γ} (h : (a, b, c) = (a', b', c')) : a = a' ∧ b = b' ∧ c = c' := by cases h; exact ⟨rfl, rfl, rfl⟩
def faultV (e a : Int) : Value := .agg ⟨[.int .i64 e, .int .i64 a]⟩
theorem badT_at (qt : Bool) (q : List UInt8) (i : Int) (h0 : 0 ≤ i) (h1 : i < q.length) {r : Int} {n : Nat} {ok : Bool} (hd' : decAt q i = (r, n, ok)) : badT qt (q.drop i.toNat) = if ok = false then 2 else if (qt = true ∨ r ≠ 10) ∧ unsafeB r = true then 3 else 0 := by
 rw [decAt_in' q i h0 h1] at hd'
 unfold badT; rw [hd']
theorem dec_bd (q : List UInt8) (i : Int) (h0 : 0 ≤ i) (h1 : i < q.length) {r : Int} {n : Nat} {ok : Bool} (hd' : decAt q i = (r, n, ok)) : 0 ≤ r ∧ r ≤ 2097151 ∧ 1 ≤ n ∧ i + n ≤ q.length ∧ n ≤ 4 := by
 rw [decAt_in' q i h0 h1] at hd'
 have h2 := decS_len (q.drop i.toNat)
 have h3 := decS_val2 (q.drop i.toNat)
 have h4 := h2.2.1 (drop_ne' q i h0 h1)
 rw [hd', List.length_drop] at h2
 rw [hd'] at h3 h4
 simp only at h2 h3 h4
 exact ⟨h3.1, h3.2, h4, by omega, h2.2.2⟩
def unqR (q : List UInt8) (a : Int) : List UInt8 × Int × Int × Int :=
 if a < 0 ∨ (q.length : Int) < a then ([], 0, 1, 0) else if a = q.length then ([], 0, 5, a) else if bt q a ≠ 34 then ([], 0, 4, a)
 else if (unL true (q.drop (a + 1).toNat)).2.2 = 0 then ((unL true (q.drop (a + 1).toNat)).1, a + 1 + (unL true (q.drop (a + 1).toNat)).2.1, 0, 0)
 else ([], 0, (unL true (q.drop (a + 1).toNat)).2.2, a + 1 + (unL true (q.drop (a + 1).toNat)).2.1)
theorem unqR_un {q : List UInt8} {a : Int} (h0 : 0 ≤ a) (h1 : a < q.length) (hb : bt q a = 34) {o : List UInt8} {n : Nat} {e : Int} (h : unL true (q.drop (a + 1).toNat) = (o, n, e)) : unqR q a = if e = 0 then (o, a + 1 + n, 0, 0) else ([], 0, e, a + 1 + n) := by
 unfold unqR
 rw [if_neg (by omega), if_neg (by omega), if_neg (by omega), h]
theorem UInv.bad1 {q : List UInt8} {a i : Int} {acc : List UInt8} (h0 : 0 ≤ a) (ha : a < q.length) (hb : bt q a = 34) (h : UInv true q (a + 1) i acc) (hlt : i < q.length) (hq : bt q i ≠ 34) {o : List UInt8} {n : Nat} {e : Int} (hu : readU true (q.drop i.toNat) = (o, n, e)) (he : e ≠ 0) : unqR q a = ([], 0, e, i) := by
 have := h.i0
 rw [unqR_un h0 ha hb (h.bad hlt (fun _ => hq) hu he), if_neg he, show a + 1 + ((i - (a + 1)).toNat : Int) = i by omega]
theorem UInv.fin1 {q : List UInt8} {a i : Int} {acc : List UInt8} (h0 : 0 ≤ a) (ha : a < q.length) (hb : bt q a = 34) (h : UInv true q (a + 1) i acc) (hlt : ¬ i < q.length) : unqR q a = ([], 0, 5, i) := by
 have := h.i0
 rw [unqR_un h0 ha hb (h.fin hlt)]
 show (if (5 : Int) = 0 then _ else _) = _
 rw [if_neg (by decide), show a + 1 + ((i - (a + 1)).toNat : Int) = i by omega]; rfl
theorem UInv.quote1 {q : List UInt8} {a i : Int} {acc : List UInt8} (h0 : 0 ≤ a) (ha : a < q.length) (hb : bt q a = 34) (h : UInv true q (a + 1) i acc) (hlt : i < q.length) (hq : bt q i = 34) : unqR q a = (acc, i + 1, 0, 0) := by
 have := h.i0
 rw [unqR_un h0 ha hb (h.quote hlt hq), if_pos rfl, show a + 1 + (((i - (a + 1)).toNat + 1 : Nat) : Int) = i + 1 by omega]
theorem quad_inj {α β γ δ : Type} {a a' : α} {b b' : β} {c c' : γ} {d d' : δ} (h : (a, b, c, d) = (a', b', c', d')) : a = a' ∧ b = b' ∧ c = c' ∧ d = d' := by cases h; exact ⟨rfl, rfl, rfl, rfl⟩
set_option maxRecDepth 20000 in
theorem plain_c (q : List UInt8) (i : Int) (r : Int) (n : Nat) (ok : Bool) (hd : decAt q i = (r, n, ok)) (i0 : 0 ≤ i) (hlt : i < q.length) (x : Int) (hx : badT true (q.drop i.toNat) = x) (hs : q.length ≤ 4611686018427387000) (w : World) :
 Calls Tryz.prog 134 #[S q, .int .i64 i] w fun e w' => e = .returned (.tuple #[.int .i64 (if x = 0 then (n : Int) else 0), .int .i64 x]) ∧ Below w.heap.size w w' := by
 have hba := badT_at true q i i0 hlt hd
 obtain ⟨d1, d2, d3, d4, d5⟩ := dec_bd q i i0 hlt hd
 rw [hx] at hba
 cases ok with
 | false =>
  have : x = 2 := by rw [hba]; rfl
  subst this
  refine sy_enter rfl rfl ?_
  simp only [initFr]
  repeat (first | refine yK ?_ | refine yP ?_)
  refine sy_ov (ov_call rfl (fun w _ => decode_c q i r n false hd (by omega) (by omega) (by omega) w)) rfl rfl ?_
  repeat (first | refine yK ?_ | refine yP ?_ | refine yT ?_ | refine sy_rt ?_)
  exact ret2 rfl rfl rfl rfl
 | true =>
  obtain ⟨u, hu⟩ : ∃ u, unsafeB r = u := ⟨_, rfl⟩
  rw [hu] at hba
  cases u with
  | true =>
   have : x = 3 := by rw [hba]; simp
   subst this
   refine sy_enter rfl rfl ?_
   simp only [initFr]
   repeat (first | refine yK ?_ | refine yP ?_)
   refine sy_ov (ov_call rfl (fun w _ => decode_c q i r n true hd (by omega) (by omega) (by omega) w)) rfl rfl ?_
   repeat (first | refine yK ?_ | refine yP ?_ | refine yN ?_)
   refine sy_ov (ov_call rfl (fun w _ => isUnsafe_c r true hu (by omega) w)) rfl rfl ?_
   repeat (first | refine yK ?_ | refine yP ?_ | refine yT ?_ | refine sy_rt ?_)
   exact ret2 rfl rfl rfl rfl
  | false =>
   have : x = 0 := by rw [hba]; simp
   subst this
   refine sy_enter rfl rfl ?_
   simp only [initFr]
   repeat (first | refine yK ?_ | refine yP ?_)
   refine sy_ov (ov_call rfl (fun w _ => decode_c q i r n true hd (by omega) (by omega) (by omega) w)) rfl rfl ?_
   repeat (first | refine yK ?_ | refine yP ?_ | refine yN ?_)
   refine sy_ov (ov_call rfl (fun w _ => isUnsafe_c r false hu (by omega) w)) rfl rfl ?_
   repeat (first | refine yK ?_ | refine yP ?_ | refine yN ?_ | refine sy_rt ?_)
   exact ret2 rfl rfl rfl rfl
structure UqSt where
 i : Int
 v : Value
 acc : List UInt8
set_option maxRecDepth 20000 in
set_option maxHeartbeats 4000000 in
theorem unquote_c (q : List UInt8) (a : Int) (o : List UInt8) (z e p : Int) (h : unqR q a = (o, z, e, p)) (hs : q.length ≤ 4000000000000) (p1 : -9223372036854775808 ≤ a) (p2 : a ≤ 9223372036854775807) (w : World) :
 Calls Tryz.prog 111 #[S q, .int .i64 a] w fun x w' => x = .returned (.tuple #[S o, .int .i64 z, faultV e p]) ∧ Below w.heap.size w w' := by
 by_cases c1 : a < 0
 · have hr : unqR q a = ([], 0, 1, 0) := by unfold unqR; rw [if_pos (.inl c1)]
   rw [h] at hr
   obtain ⟨hto, htz, hte, htp⟩ := quad_inj hr
   refine sy_enter rfl rfl ?_
   simp only [initFr]
   repeat (first | refine yK ?_ | refine yP ?_ | refine yH ?_ | refine yS 0 ?_ | refine sy_ov (ov_pick rfl rfl rfl) rfl rfl ?_ | refine yB ?_ | (refine yA ?_; intro _) | refine yT ?_ | refine sy_rt ?_)
   exact ret3c 0 rfl rfl rfl rfl rfl rfl rfl (by rw [hto, htz, hte, htp]; rfl)
 · by_cases c2 : (q.length : Int) < a
   · have hr : unqR q a = ([], 0, 1, 0) := by unfold unqR; rw [if_pos (.inr c2)]
     rw [h] at hr
     obtain ⟨hto, htz, hte, htp⟩ := quad_inj hr
     refine sy_enter rfl rfl ?_
     simp only [initFr]
     repeat (first | refine yK ?_ | refine yP ?_ | refine yG ?_ | refine yU ?_ | refine yS 0 ?_ | refine yE ?_ | refine yB ?_ | (refine yA ?_; intro _) | refine yT ?_ | refine sy_rt ?_)
     exact ret3c 0 rfl rfl rfl rfl rfl rfl rfl (by rw [hto, htz, hte, htp]; rfl)
   · by_cases c3 : a = q.length
     · have hr : unqR q a = ([], 0, 5, a) := by unfold unqR; rw [if_neg (by omega), if_pos c3]
       rw [h] at hr
       obtain ⟨hto, htz, hte, htp⟩ := quad_inj hr
       refine sy_enter rfl rfl ?_
       simp only [initFr]
       repeat (first | refine yK ?_ | refine yP ?_ | refine yG ?_ | refine yU ?_ | refine yS 0 ?_ | refine yE ?_ | refine yB ?_ | (refine yA ?_; intro _) | refine yT ?_ | refine yN ?_ | refine sy_rt ?_)
       exact ret3c 0 rfl rfl rfl rfl rfl rfl rfl (by rw [hto, htz, hte, htp]; rfl)
     · have ha : a < q.length := by omega
       have ha0 : 0 ≤ a := by omega
       by_cases c4 : bt q a = 34
       · refine sy_enter rfl rfl ?_
         simp only [initFr]
         repeat (first | refine yK ?_ | refine yP ?_ | refine yG ?_ | (refine yR ?_ ?_ ?_; omega; omega) | refine yU ?_ | refine yE ?_ | refine yI ?_ | (refine yA ?_; intro _) | refine yN ?_)
         rename_i b1 b2
         refine sy_newBld ?_
         skip
         refine sy_loop (α := UqSt) (fun x => [(0, S q), (6, .pointer (some ⟨b1, 0, none⟩)), (7, .pointer (some ⟨b2, 0, none⟩)), (1, .int .i64 x.i)]) (fun x => [bld b2 x.v x.acc, blk b1 29 [.int .i64 0, .int .i64 0]]) (fun x => UInv true q (a + 1) x.i x.acc) (fun x => (q.length - x.i).toNat) ⟨a + 1, .slice none 0 0, []⟩ (UInv.start true q (a + 1) (by omega) (by omega)) ⟨zz, zz, zz, zz, trivial⟩ (List.Sublist.refl _) ?_
         rintro ⟨i, v, acc⟩ hi
         have i0 := hi.i0
         have i1 := hi.i1
         have i2 := hi.len
         dsimp only at hi i0 i1 i2 ⊢
         by_cases hlt : i < q.length
         · by_cases hq : bt q i = 34
           · have hr := hi.quote1 ha0 ha c4 hlt hq
             rw [h] at hr
             obtain ⟨hto, htz, hte, htp⟩ := quad_inj hr
             repeat (first | refine yK ?_ | refine yP ?_ | refine yU ?_ | refine yI ?_ | refine yT ?_)
             refine sy_works 0 rfl rfl rfl (string_w b2 v acc (by first | omega | (simp; done) | (simp; omega))) ?_
             rintro r e' ⟨rfl, rfl⟩
             repeat (first | refine yK ?_ | refine yP ?_ | (refine yR ?_ ?_ ?_; omega; omega) | refine yS 1 ?_ | refine yB ?_ | refine sy_rt ?_)
             exact ret3c 1 rfl rfl rfl rfl rfl rfl rfl (by rw [hto, htz, hte, htp]; rfl)
           · by_cases hb : bt q i = 92
             · obtain ⟨t, n, ho⟩ : ∃ t n, oneAt q i = (t, n) := ⟨_, _, rfl⟩
               have hru := readU_slash true q i (by omega) hlt hb ho
               by_cases hn : n = 0
               · rw [if_pos hn] at hru
                 have hr := hi.bad1 ha0 ha c4 hlt hq hru (by decide)
                 rw [h] at hr
                 subst hn
                 obtain ⟨hto, htz, hte, htp⟩ := quad_inj hr
                 repeat (first | refine yK ?_ | refine yP ?_ | refine yU ?_ | refine yI ?_ | refine yT ?_ | refine yN ?_)
                 refine sy_ov (ov_call rfl (fun w _ => one_c q i t 0 ho (by omega) (by omega) (by omega) w)) rfl rfl ?_
                 repeat (first | refine yK ?_ | refine yP ?_ | refine yS 1 ?_ | refine yB ?_ | refine yT ?_ | refine sy_rt ?_)
                 exact ret3c 1 rfl rfl rfl rfl rfl rfl rfl (by rw [hto, htz, hte, htp]; rfl)
               · rw [if_neg hn] at hru
                 obtain ⟨hst, _⟩ := hi.step hlt (fun _ => hq) hru
                 have hs1 := hst.i1
                 have hs2 := hst.len
                 rw [List.length_append] at hs2
                 have hn' : 0 < n := by omega
                 repeat (first | refine yK ?_ | refine yP ?_ | refine yU ?_ | refine yI ?_ | refine yT ?_ | refine yN ?_)
                 refine sy_ov (ov_call rfl (fun w _ => one_c q i t n ho (by omega) (by omega) (by omega) w)) rfl rfl ?_
                 repeat (first | refine yK ?_ | refine yP ?_ | refine yN ?_)
                 refine sy_works 0 rfl rfl rfl (writeString_w b2 v acc t (by first | omega | (simp; done) | (simp; omega)) (by first | omega | (simp; done) | (simp; omega))) ?_
                 rintro r e' ⟨rfl, v', rfl⟩
                 repeat (first | refine yK ?_ | refine yP ?_ | (refine yR ?_ ?_ ?_; omega; omega))
                 refine sy_back ⟨i + n, v', acc ++ t⟩ hst (by dsimp only; omega) ⟨zz, zz, zz, zz, trivial⟩ (List.Sublist.refl _)
             · obtain ⟨r, n, ok, hd⟩ := trip (decAt q i)
               obtain ⟨d1, d2, d3, d4, d5⟩ := dec_bd q i (by omega) hlt hd
               obtain ⟨x, hx⟩ : ∃ x, badT true (q.drop i.toNat) = x := ⟨_, rfl⟩
               have hru := readU_plain true q i (by omega) hlt hb hd hx
               by_cases hx0 : x = 0
               · subst hx0
                 rw [if_pos rfl] at hru
                 obtain ⟨hst, _⟩ := hi.step hlt (fun _ => hq) hru
                 have hs1 := hst.i1
                 have e1 : (i + (n : Int) - i).toNat = n := by omega
                 have tl : ((q.drop i.toNat).take n).length = n := by rw [List.length_take, List.length_drop]; omega
                 repeat (first | refine yK ?_ | refine yP ?_ | refine yU ?_ | refine yI ?_ | refine yT ?_ | refine yN ?_)
                 refine sy_ov (ov_call rfl (fun w _ => plain_c q i r n ok hd (by omega) hlt 0 hx (by omega) w)) rfl rfl ?_
                 repeat (first | refine yK ?_ | refine yP ?_ | (refine yR ?_ ?_ ?_; omega; omega) | (refine sy_ov (ov_slice rfl rfl rfl ?_ ?_ ?_) rfl rfl ?_; (focus (first | omega | (simp <;> omega))); (focus (first | omega | (simp <;> omega))); focus (first | omega | (simp <;> omega))) | refine yN ?_)
                 refine sy_works 0 rfl rfl rfl (writeString_w b2 v acc ((q.drop i.toNat).take (i + (n : Int) - i).toNat) (by first | omega | (simp; done) | (simp; omega)) (by first | omega | (simp; done) | (simp; omega))) ?_
                 rintro r e' ⟨rfl, v', rfl⟩
                 repeat (first | refine yK ?_ | refine yP ?_ | (refine yR ?_ ?_ ?_; omega; omega))
                 refine sy_back ⟨i + n, v', acc ++ (q.drop i.toNat).take n⟩ hst (by dsimp only; omega) ⟨zz, zz, zz, zz, trivial⟩ (by rw [e1]; exact List.Sublist.refl _)
               · rw [if_neg hx0] at hru
                 have hr := hi.bad1 ha0 ha c4 hlt hq hru hx0
                 rw [h] at hr
                 obtain ⟨hto, htz, hte, htp⟩ := quad_inj hr
                 repeat (first | refine yK ?_ | refine yP ?_ | refine yU ?_ | refine yI ?_ | refine yT ?_ | refine yN ?_)
                 refine sy_ov (ov_call rfl (fun w _ => plain_c q i r n ok hd (by omega) hlt x hx (by omega) w)) rfl rfl ?_
                 repeat (first | refine yK ?_ | refine yP ?_ | refine yS 1 ?_ | refine yB ?_ | refine yT ?_ | refine sy_rt ?_)
                 exact ret3c 1 rfl rfl rfl rfl rfl rfl rfl (by rw [hto, htz, hte, htp]; rfl)
         · have hr := hi.fin1 ha0 ha c4 hlt
           rw [h] at hr
           obtain ⟨hto, htz, hte, htp⟩ := quad_inj hr
           repeat (first | refine yK ?_ | refine yP ?_ | refine yU ?_ | refine yS 1 ?_ | refine yB ?_ | refine yN ?_ | refine sy_rt ?_)
           exact ret3c 1 rfl rfl rfl rfl rfl rfl rfl (by rw [hto, htz, hte, htp]; rfl)
       · have hr : unqR q a = ([], 0, 4, a) := by unfold unqR; rw [if_neg (by omega), if_neg c3, if_pos c4]
         rw [h] at hr
         obtain ⟨hto, htz, hte, htp⟩ := quad_inj hr
         refine sy_enter rfl rfl ?_
         simp only [initFr]
         repeat (first | refine yK ?_ | refine yP ?_ | refine yG ?_ | refine yU ?_ | refine yS 0 ?_ | refine yE ?_ | refine yI ?_ | refine yB ?_ | (refine yA ?_; intro _) | refine yT ?_ | refine yN ?_ | refine sy_rt ?_)
         exact ret3c 0 rfl rfl rfl rfl rfl rfl rfl (by rw [hto, htz, hte, htp]; rfl)
set_option maxRecDepth 20000 in
set_option maxHeartbeats 4000000 in
theorem runquote_c (q : List UInt8) (a : Int) (o : List UInt8) (z e p : Int) (h : unqR q a = (o, z, e, p)) (hs : q.length ≤ 4000000000000) (p1 : -9223372036854775808 ≤ a) (p2 : a ≤ 9223372036854775807) (w : World) :
 Calls Tryz.prog 95 #[S q, .int .i64 a] w fun x w' => x = .returned (.tuple #[S o, .int .i64 z, faultV e p]) ∧ Below w.heap.size w w' := by
 by_cases c1 : a < 0
 · have hr : unqR q a = ([], 0, 1, 0) := by unfold unqR; rw [if_pos (.inl c1)]
   rw [h] at hr
   obtain ⟨hto, htz, hte, htp⟩ := quad_inj hr
   refine sy_enter rfl rfl ?_
   simp only [initFr]
   repeat (first | refine yK ?_ | refine yP ?_ | refine yH ?_ | refine yS 0 ?_ | refine sy_ov (ov_pick rfl rfl rfl) rfl rfl ?_ | refine yB ?_ | (refine yA ?_; intro _) | refine yT ?_ | refine sy_rt ?_)
   exact ret3c 0 rfl rfl rfl rfl rfl rfl rfl (by rw [hto, htz, hte, htp]; rfl)
 · by_cases c2 : (q.length : Int) < a
   · have hr : unqR q a = ([], 0, 1, 0) := by unfold unqR; rw [if_pos (.inr c2)]
     rw [h] at hr
     obtain ⟨hto, htz, hte, htp⟩ := quad_inj hr
     refine sy_enter rfl rfl ?_
     simp only [initFr]
     repeat (first | refine yK ?_ | refine yP ?_ | refine yG ?_ | refine yU ?_ | refine yS 0 ?_ | refine yE ?_ | refine yB ?_ | (refine yA ?_; intro _) | refine yT ?_ | refine sy_rt ?_)
     exact ret3c 0 rfl rfl rfl rfl rfl rfl rfl (by rw [hto, htz, hte, htp]; rfl)
   · by_cases c3 : a = q.length
     · have hr : unqR q a = ([], 0, 5, a) := by unfold unqR; rw [if_neg (by omega), if_pos c3]
       rw [h] at hr
       obtain ⟨hto, htz, hte, htp⟩ := quad_inj hr
       have c3' : ¬ a < q.length := by omega
       have c3'' : ¬ a + 1 < q.length := by omega
       refine sy_enter rfl rfl ?_
       simp only [initFr]
       repeat (first | refine yK ?_ | refine yP ?_ | refine yG ?_ | refine yH ?_ | (refine yR ?_ ?_ ?_; omega; omega) | refine yU ?_ | refine yE ?_ | refine sy_ov (ov_pick rfl rfl rfl) rfl rfl ?_ | (refine yA ?_; intro _) | refine yN ?_)
       rename_i b1
       refine sy_loop (α := Unit) (fun _ => [(0, S q), (6, .pointer (some ⟨b1, 0, none⟩)), (8, .int .i64 (a + 1))]) (fun _ => [blk b1 29 [.int .i64 0, .int .i64 0]]) (fun _ => True) (fun _ => 0) () trivial ⟨zz, zz, zz, trivial⟩ (List.Sublist.refl _) ?_
       intro _ _
       repeat (first | refine yK ?_ | refine yP ?_ | refine yU ?_ | refine yS 0 ?_ | refine yB ?_ | refine yN ?_ | refine sy_rt ?_)
       exact ret3c 0 rfl rfl rfl rfl rfl rfl rfl (by rw [hto, htz, hte, htp, c3]; rfl)
     · have ha : a < q.length := by omega
       have ha0 : 0 ≤ a := by omega
       by_cases c4 : bt q a = 34
       · refine sy_enter rfl rfl ?_
         simp only [initFr]
         repeat (first | refine yK ?_ | refine yP ?_ | refine yG ?_ | (refine yR ?_ ?_ ?_; omega; omega) | refine yU ?_ | refine yM ?_ | refine yE ?_ | refine yI ?_ | (refine yA ?_; intro _) | refine yN ?_)
         rename_i b1
         refine sy_loop (α := Int × List UInt8) (fun x => [(0, S q), (6, .pointer (some ⟨b1, 0, none⟩)), (7, S x.2), (8, .int .i64 x.1)]) (fun x => [blk b1 29 [.int .i64 0, .int .i64 0]]) (fun x => UInv true q (a + 1) x.1 x.2) (fun x => (q.length - x.1).toNat) (a + 1, []) (UInv.start true q (a + 1) (by omega) (by omega)) ⟨zz, zz, zz, zz, trivial⟩ (List.Sublist.refl _) ?_
         rintro ⟨i, acc⟩ hi
         have i0 := hi.i0
         have i1 := hi.i1
         have i2 := hi.len
         dsimp only at hi i0 i1 i2 ⊢
         by_cases hlt : i < q.length
         · by_cases hq : bt q i = 34
           · have hr := hi.quote1 ha0 ha c4 hlt hq
             rw [h] at hr
             obtain ⟨hto, htz, hte, htp⟩ := quad_inj hr
             repeat (first | refine yK ?_ | refine yP ?_ | (refine yR ?_ ?_ ?_; omega; omega) | refine yU ?_ | refine yS 0 ?_ | refine yI ?_ | refine yB ?_ | refine yT ?_ | refine sy_rt ?_)
             exact ret3c 0 rfl rfl rfl rfl rfl rfl rfl (by rw [hto, htz, hte, htp]; rfl)
           · by_cases hb : bt q i = 92
             · obtain ⟨t, n, ho⟩ : ∃ t n, oneAt q i = (t, n) := ⟨_, _, rfl⟩
               have hru := readU_slash true q i (by omega) hlt hb ho
               by_cases hn : n = 0
               · rw [if_pos hn] at hru
                 have hr := hi.bad1 ha0 ha c4 hlt hq hru (by decide)
                 rw [h] at hr
                 subst hn
                 obtain ⟨hto, htz, hte, htp⟩ := quad_inj hr
                 repeat (first | refine yK ?_ | refine yP ?_ | refine yU ?_ | refine yI ?_ | refine yT ?_ | refine yN ?_)
                 refine sy_ov (ov_call rfl (fun w _ => rone_c q i t 0 ho (by omega) (by omega) (by omega) w)) rfl rfl ?_
                 repeat (first | refine yK ?_ | refine yP ?_ | refine yG ?_ | refine yS 0 ?_ | refine yM ?_ | refine yI ?_ | refine yB ?_ | refine yT ?_ | refine sy_rt ?_)
                 exact ret3c 0 rfl rfl rfl rfl rfl rfl rfl (by rw [hto, htz, hte, htp]; rfl)
               · rw [if_neg hn] at hru
                 obtain ⟨hst, _⟩ := hi.step hlt (fun _ => hq) hru
                 have hs1 := hst.i1
                 have hs2 := hst.len
                 rw [List.length_append] at hs2
                 have hn' : ¬ (n : Int) = 0 := by omega
                 repeat (first | refine yK ?_ | refine yP ?_ | refine yU ?_ | refine yI ?_ | refine yT ?_ | refine yN ?_)
                 refine sy_ov (ov_call rfl (fun w _ => rone_c q i t n ho (by omega) (by omega) (by omega) w)) rfl rfl ?_
                 repeat (first | refine yK ?_ | refine yP ?_ | refine yG ?_ | (refine yR ?_ ?_ ?_; omega; omega) | (refine sy_ov (ov_cat rfl rfl ?_) rfl rfl ?_; focus (first | omega | (simp <;> omega))) | refine yM ?_ | refine yI ?_ | refine yN ?_)
                 refine sy_back (i + n, acc ++ t) hst (by dsimp only; omega) ⟨zz, zz, zz, zz, trivial⟩ (List.Sublist.refl _)
             · have ho := oneAt_no q i (by omega) hlt hb
               obtain ⟨r, n, ok, hd⟩ := trip (decAt q i)
               obtain ⟨d1, d2, d3, d4, d5⟩ := dec_bd q i (by omega) hlt hd
               have hba := badT_at true q i (by omega) hlt hd
               cases ok with
               | false =>
                have hru := readU_plain true q i (by omega) hlt hb hd (e := 2) (by rw [hba]; rfl)
                have hr := hi.bad1 ha0 ha c4 hlt hq hru (by decide)
                rw [h] at hr
                obtain ⟨hto, htz, hte, htp⟩ := quad_inj hr
                repeat (first | refine yK ?_ | refine yP ?_ | refine yU ?_ | refine yI ?_ | refine yT ?_ | refine yN ?_)
                refine sy_ov (ov_call rfl (fun w _ => rone_c q i [] 0 ho (by omega) (by omega) (by omega) w)) rfl rfl ?_
                repeat (first | refine yK ?_ | refine yP ?_ | refine yH ?_ | refine sy_ov (ov_pick rfl rfl rfl) rfl rfl ?_ | refine yI ?_ | refine yT ?_ | refine yN ?_)
                refine sy_ov (ov_call rfl (fun w _ => rdecode_c q i r n false hd (by omega) (by omega) (by omega) w)) rfl rfl ?_
                repeat (first | refine yK ?_ | refine yP ?_ | refine yS 0 ?_ | refine yB ?_ | refine yT ?_ | refine sy_rt ?_)
                exact ret3c 0 rfl rfl rfl rfl rfl rfl rfl (by rw [hto, htz, hte, htp]; rfl)
               | true =>
                obtain ⟨k, hk⟩ : ∃ k, kindT r = k := ⟨_, rfl⟩
                have hu : unsafeB r = !decide (k = 0) := by unfold unsafeB; rw [hk]
                by_cases hk0 : k = 0
                · have hru := readU_plain true q i (by omega) hlt hb hd (e := 0) (by rw [hba, hu]; simp [hk0])
                  rw [if_pos rfl] at hru
                  obtain ⟨hst, _⟩ := hi.step hlt (fun _ => hq) hru
                  have hs1 := hst.i1
                  have hs2 := hst.len
                  rw [List.length_append] at hs2
                  have e1 : (i + (n : Int) - i).toNat = n := by omega
                  have tl : ((q.drop i.toNat).take n).length = n := by rw [List.length_take, List.length_drop]; omega
                  repeat (first | refine yK ?_ | refine yP ?_ | refine yU ?_ | refine yI ?_ | refine yT ?_ | refine yN ?_)
                  refine sy_ov (ov_call rfl (fun w _ => rone_c q i [] 0 ho (by omega) (by omega) (by omega) w)) rfl rfl ?_
                  repeat (first | refine yK ?_ | refine yP ?_ | refine yH ?_ | refine sy_ov (ov_pick rfl rfl rfl) rfl rfl ?_ | refine yI ?_ | refine yT ?_ | refine yN ?_)
                  refine sy_ov (ov_call rfl (fun w _ => rdecode_c q i r n true hd (by omega) (by omega) (by omega) w)) rfl rfl ?_
                  repeat (first | refine yK ?_ | refine yP ?_ | refine yN ?_)
                  refine sy_ov (ov_call rfl (fun w _ => rkind_c r k hk (by omega) w)) rfl rfl ?_
                  repeat (first | refine yK ?_ | refine yP ?_ | (refine yR ?_ ?_ ?_; omega; omega) | (refine sy_ov (ov_cat rfl rfl ?_) rfl rfl ?_; focus (first | omega | (simp <;> omega))) | (refine sy_ov (ov_slice rfl rfl rfl ?_ ?_ ?_) rfl rfl ?_; (focus (first | omega | (simp <;> omega))); (focus (first | omega | (simp <;> omega))); focus (first | omega | (simp <;> omega))) | refine yN ?_)
                  refine sy_back (i + n, acc ++ (q.drop i.toNat).take n) hst (by dsimp only; omega) ⟨zz, zz, ⟨_, rfl, by rw [e1]⟩, zz, trivial⟩ (List.Sublist.refl _)
                · have hru := readU_plain true q i (by omega) hlt hb hd (e := 3) (by rw [hba, hu]; simp [hk0])
                  have hr := hi.bad1 ha0 ha c4 hlt hq hru (by decide)
                  rw [h] at hr
                  obtain ⟨hto, htz, hte, htp⟩ := quad_inj hr
                  repeat (first | refine yK ?_ | refine yP ?_ | refine yU ?_ | refine yI ?_ | refine yT ?_ | refine yN ?_)
                  refine sy_ov (ov_call rfl (fun w _ => rone_c q i [] 0 ho (by omega) (by omega) (by omega) w)) rfl rfl ?_
                  repeat (first | refine yK ?_ | refine yP ?_ | refine yH ?_ | refine sy_ov (ov_pick rfl rfl rfl) rfl rfl ?_ | refine yI ?_ | refine yT ?_ | refine yN ?_)
                  refine sy_ov (ov_call rfl (fun w _ => rdecode_c q i r n true hd (by omega) (by omega) (by omega) w)) rfl rfl ?_
                  repeat (first | refine yK ?_ | refine yP ?_ | refine yN ?_)
                  refine sy_ov (ov_call rfl (fun w _ => rkind_c r k hk (by omega) w)) rfl rfl ?_
                  repeat (first | refine yK ?_ | refine yP ?_ | refine yS 0 ?_ | refine yB ?_ | refine yT ?_ | refine sy_rt ?_)
                  exact ret3c 0 rfl rfl rfl rfl rfl rfl rfl (by rw [hto, htz, hte, htp]; rfl)
         · have hr := hi.fin1 ha0 ha c4 hlt
           have hil : i = q.length := by omega
           rw [h, hil] at hr
           obtain ⟨hto, htz, hte, htp⟩ := quad_inj hr
           repeat (first | refine yK ?_ | refine yP ?_ | refine yU ?_ | refine yS 0 ?_ | refine yB ?_ | refine yN ?_ | refine sy_rt ?_)
           exact ret3c 0 rfl rfl rfl rfl rfl rfl rfl (by rw [hto, htz, hte, htp]; rfl)
       · have hr : unqR q a = ([], 0, 4, a) := by unfold unqR; rw [if_neg (by omega), if_neg c3, if_pos c4]
         rw [h] at hr
         obtain ⟨hto, htz, hte, htp⟩ := quad_inj hr
         refine sy_enter rfl rfl ?_
         simp only [initFr]
         repeat (first | refine yK ?_ | refine yP ?_ | refine yG ?_ | refine yU ?_ | refine yS 0 ?_ | refine yM ?_ | refine yE ?_ | refine yI ?_ | refine yB ?_ | (refine yA ?_; intro _) | refine yT ?_ | refine yN ?_ | refine sy_rt ?_)
         exact ret3c 0 rfl rfl rfl rfl rfl rfl rfl (by rw [hto, htz, hte, htp]; rfl)
end Go.Proofs.YtldjakeigjngoaaGreat