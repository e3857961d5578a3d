/- BTR: texts of this proof, joined by program: RTok, RTok2, WalkTokens. -/
import Derived.Test.YtldjakeigjngoaaGreatBTK
import Derived.Test.YtldjakeigjngoaaGreatNamesQ
import Derived.Test.YtldjakeigjngoaaGreatBRF
import Derived.Test.YtldjakeigjngoaaGreatBEN
import Derived.Test.YtldjakeigjngoaaGreatBEX
import Derived.Test.YtldjakeigjngoaaGreatCells3Q
set_option linter.unusedVariables false
set_option linter.unusedSimpArgs false
namespace Go.Proofs.YtldjakeigjngoaaGreat
open Go.RowKit Bf
theorem marks_mem (c : UInt8) (h : ∀ k : Nat, k < 16 → bt marksT (k : Int) ≠ (c.toNat : Int)) : c ∉ marksT := by
 intro hm
 obtain ⟨k, hk⟩ := List.mem_iff_getElem?.1 hm
 have hlt := (List.getElem?_eq_some_iff.1 hk).1
 exact h k hlt ((bt_some marksT k hlt c).2 hk)
theorem marks_some (c : UInt8) (j : Int) (h0 : 0 ≤ j) (h1 : j < 16) (h : bt marksT j = (c.toNat : Int)) : c ∈ marksT := by
 have hlt : j.toNat < marksT.length := by show j.toNat < 16; omega
 have := (bt_some marksT j.toNat hlt c).1 (by rw [Int.toNat_of_nonneg h0]; exact h)
 exact List.mem_of_getElem? this
theorem head46 (s : List UInt8) (i : Int) (h0 : 0 ≤ i) {c : UInt8} {l : List UInt8} (hd : s.drop i.toNat = c :: l) : l.head? = some 46 ↔ (i + 1 < s.length ∧ bt s (i + 1) = 46) := by
 have h := get_bt s i 1 46 h0
 rw [hd] at h
 cases l with
 | nil =>
  simp only [List.getElem?_cons_succ, List.getElem?_nil] at h
  simp only [List.head?_nil]
  exact h
 | cons d l =>
  simp only [List.getElem?_cons_succ, List.getElem?_cons_zero] at h
  simp only [List.head?_cons]
  exact h
set_option maxRecDepth 20000 in
set_option maxHeartbeats 1000000 in
theorem rmark_c (s : List UInt8) (i : Int) (o : List UInt8) (h : markAt s i = o) (hs : s.length ≤ 4611686018427387000) (w : World) :
 Calls Tryz.prog 96 #[S s, .int .i64 i] w fun e w' => e = .returned (S o) ∧ Below w.heap.size w w' := by
 subst h
 by_cases c1 : i < 0
 · have hm : markAt s i = [] := if_pos (.inl c1)
   refine sy_enter rfl rfl ?_
   simp only [initFr]
   repeat (first | refine yK ?_ | refine yP ?_ | refine yH ?_ | refine sy_ov (ov_pick rfl rfl rfl) rfl rfl ?_ | refine yT ?_ | refine sy_rt ?_)
   exact ret1 rfl rfl (by rw [hm])
 · by_cases c2 : (s.length : Int) ≤ i
   · have hm : markAt s i = [] := if_pos (.inr c2)
     refine sy_enter rfl rfl ?_
     simp only [initFr]
     repeat (first | refine yK ?_ | refine yP ?_ | refine yG ?_ | refine yU ?_ | refine yE ?_ | refine yT ?_ | refine sy_rt ?_)
     exact ret1 rfl rfl (by rw [hm])
   · obtain ⟨c, l, hd, hb⟩ := bt_nat s i (by omega) (by omega)
     have hm : markAt s i = markL (c :: l) := by unfold markAt; rw [if_neg (by omega), hd]
     rw [markL_cons] at hm
     have h46 := head46 s i (by omega) hd
     have e1 : (i + 1 - i).toNat = 1 := by omega
     have hc46 : bt s i = 46 ↔ c = 46 := by
      rw [hb]; constructor
      · intro h; exact UInt8.toNat_inj.1 (by rw [show (46 : UInt8).toNat = 46 from rfl]; omega)
      · rintro rfl; rfl
     by_cases c3 : bt s i = 46
     · rw [if_pos (hc46.1 c3)] at hm
       by_cases c4 : 1 < (s.length : Int) - i
       · by_cases c5 : bt s (i + 1) = 46
         · rw [if_pos (h46.2 ⟨by omega, c5⟩)] at hm
           refine sy_enter rfl rfl ?_
           simp only [initFr]
           repeat (first | refine yK ?_ | refine yP ?_ | refine yG ?_ | (refine yR ?_ ?_ ?_; omega; omega) | refine yU ?_ | refine yM ?_ | refine yE ?_ | refine yI ?_ | refine yT ?_ | refine yN ?_ | refine sy_rt ?_)
           exact ret1 rfl rfl (by rw [hm])
         · rw [if_neg (fun h => c5 (h46.1 h).2)] at hm
           refine sy_enter rfl rfl ?_
           simp only [initFr]
           repeat (first | refine yK ?_ | refine yP ?_ | refine yG ?_ | (refine yR ?_ ?_ ?_; omega; omega) | refine yU ?_ | refine yM ?_ | refine yE ?_ | refine yI ?_ | refine yT ?_ | refine yN ?_ | refine sy_rt ?_)
           exact ret1 rfl rfl (by rw [hm])
       · rw [if_neg (fun h => by have := (h46.1 h).1; omega)] at hm
         refine sy_enter rfl rfl ?_
         simp only [initFr]
         repeat (first | refine yK ?_ | refine yP ?_ | refine yG ?_ | refine yH ?_ | (refine yR ?_ ?_ ?_; omega; omega) | refine yU ?_ | refine yE ?_ | refine sy_ov (ov_pick rfl rfl rfl) rfl rfl ?_ | refine yI ?_ | refine yT ?_ | refine yN ?_ | refine sy_rt ?_)
         exact ret1 rfl rfl (by rw [hm])
     · rw [if_neg (fun h => c3 (hc46.2 h))] at hm
       refine sy_enter rfl rfl ?_
       simp only [initFr]
       repeat (first | refine yK ?_ | refine yP ?_ | refine yG ?_ | refine yU ?_ | refine yE ?_ | refine yI ?_ | refine yN ?_)
       refine sy_loop (α := Int) (fun j => [(0, S s), (1, .int .i64 i), (5, S marksT), (6, .int .i64 j)]) (fun _ => []) (fun j => 0 ≤ j ∧ j ≤ 16 ∧ ∀ k : Nat, (k : Int) < j → bt marksT (k : Int) ≠ (c.toNat : Int)) (fun j => (16 - j).toNat) 0 ⟨by omega, by omega, fun k hk => by omega⟩ ⟨zz, zz, zz, zz, trivial⟩ nl ?_
       rintro j ⟨j0, j1, j2⟩
       have hlen : (marksT.length : Int) = 16 := rfl
       by_cases hlt : j < (marksT.length : Int)
       · by_cases heq : bt marksT j = bt s i
         · have hmem := marks_some c j j0 (by omega) (by rw [heq, hb])
           rw [if_pos hmem] at hm
           repeat (first | refine yK ?_ | refine yP ?_ | refine yU ?_ | refine yT ?_)
           refine sy_draw 6 (by kernel_rfl) ?_
           repeat (first | refine dr_op (ov_p rfl) rfl rfl ?_ | (refine dr_op (ov_index rfl rfl ?_ ?_) rfl rfl ?_; omega; omega) | refine dr_end ?_)
           repeat (first | refine yK ?_ | refine yP ?_ | (refine yR ?_ ?_ ?_; omega; omega) | (refine sy_ov (ov_slice rfl rfl rfl ?_ ?_ ?_) rfl rfl ?_; (focus (first | omega | (simp <;> omega))); (focus (first | omega | (simp <;> omega))); focus (first | omega | (simp <;> omega))) | refine yT ?_ | refine sy_rt ?_)
           exact ret1 rfl rfl (by rw [hm, e1, hd]; rfl)
         · have hj : ∀ k : Nat, (k : Int) < j + 1 → bt marksT (k : Int) ≠ (c.toNat : Int) := fun k hk => by
            by_cases e : (k : Int) = j
            · rw [e, ← hb]; exact heq
            · exact j2 k (by omega)
           repeat (first | refine yK ?_ | refine yP ?_ | refine yU ?_ | refine yT ?_)
           refine sy_draw 6 (by kernel_rfl) ?_
           repeat (first | refine dr_op (ov_p rfl) rfl rfl ?_ | (refine dr_op (ov_index rfl rfl ?_ ?_) rfl rfl ?_; omega; omega) | refine dr_end ?_)
           repeat (first | refine yK ?_ | refine yP ?_ | (refine yR ?_ ?_ ?_; omega; omega) | refine yN ?_)
           refine sy_back (j + 1) ⟨by omega, by omega, hj⟩ (by omega) ⟨zz, zz, zz, zz, trivial⟩ nl
       · have hnm := marks_mem c (fun k hk => j2 k (by omega))
         rw [if_neg hnm] at hm
         repeat (first | refine yK ?_ | refine yP ?_ | refine yU ?_ | refine yN ?_ | refine sy_rt ?_)
         exact ret1 rfl rfl (by rw [hm])
theorem mark_no (s : List UInt8) (i : Nat) (h : i < s.length) (hb : bt s i = 45 ∨ (48 ≤ bt s i ∧ bt s i ≤ 57) ∨ bt s i = 34) : markL (s.drop i) = [] := by
 obtain ⟨c, l, hd, hc⟩ := bt_nat s i (by omega) (by omega)
 rw [Int.toNat_natCast] at hd
 rw [hc] at hb
 rw [hd, markL_cons]
 have h46 : c ≠ 46 := by rintro rfl; revert hb; decide
 have hm : c ∉ marksT := by
  intro hm
  simp only [marksT, List.mem_cons, List.mem_nil_iff, or_false] at hm
  rcases hm with rfl | rfl | rfl | rfl | rfl | rfl | rfl | rfl | rfl | rfl | rfl | rfl | rfl | rfl | rfl | rfl <;> revert hb <;> decide
 rw [if_neg h46, if_neg hm]
set_option maxRecDepth 20000 in
set_option maxHeartbeats 2000000 in
theorem rtok_c (s : List UInt8) (i : Nat) (r : TokT × Int × Int) (h : tokA s i = r) (h1 : i < s.length) (hs : s.length ≤ 4000000000000) (w : World) :
 Calls Tryz.prog 47 #[S s, .int .i64 (i : Int)] w fun x w' => x = .returned (tkV r) ∧ Below w.heap.size w w' := by
 subst h
 obtain ⟨n, hN⟩ : ∃ n, namN (s.drop i) = n := ⟨_, rfl⟩
 have hn := namN_le (s.drop i)
 rw [hN, List.length_drop] at hn
 have hsg : namN (s.drop ((i : Int)).toNat) = n := by rw [Int.toNat_natCast]; exact hN
 have e1 : ((i : Int) + n - i).toNat = n := by omega
 have hmk := marks_at s i h1
 by_cases c1 : 0 < (n : Int)
 · by_cases c2 : 32 < (n : Int)
   · have hr : tokA s i = (ztk, 9, (i : Int)) := by unfold tokA; rw [hN, if_pos (by omega), if_pos (by omega)]
     rw [hr]
     refine sy_enter rfl rfl ?_
     simp only [initFr]
     repeat (first | refine yK ?_ | refine yP ?_ | refine yI ?_ | (refine yA ?_; intro _))
     refine sy_ov (ov_call rfl (fun w _ => rsigns_c s i n hsg (by omega) (by omega) (by omega) w)) rfl rfl ?_
     repeat (first | refine yK ?_ | refine yP ?_ | refine yS 0 ?_ | refine yS 1 ?_ | refine yB ?_ | refine yT ?_ | refine sy_rt ?_)
     exact ret_cc 1 0 rfl rfl rfl rfl rfl rfl rfl rfl rfl rfl
   · have hr : tokA s i = ((1, (i : Int), (i : Int) + n, (s.drop i).take n, 0), 0, 0) := by unfold tokA; rw [hN, if_pos (by omega), if_neg (by omega)]
     rw [hr]
     refine sy_enter rfl rfl ?_
     simp only [initFr]
     repeat (first | refine yK ?_ | refine yP ?_ | refine yI ?_ | (refine yA ?_; intro _))
     refine sy_ov (ov_call rfl (fun w _ => rsigns_c s i n hsg (by omega) (by omega) (by omega) w)) rfl rfl ?_
     repeat (first | refine yK ?_ | refine yP ?_ | (refine yR ?_ ?_ ?_; omega; omega) | refine yS 0 ?_ | refine yS 1 ?_ | (refine sy_ov (ov_slice rfl rfl rfl ?_ ?_ ?_) rfl rfl ?_; (focus (first | omega | (simp <;> omega))); (focus (first | omega | (simp <;> omega))); focus (first | omega | (simp <;> omega))) | refine yB ?_ | refine yT ?_ | refine yN ?_ | refine sy_rt ?_)
     exact ret_cc 1 0 rfl rfl rfl rfl rfl rfl rfl rfl rfl (by rw [e1]; rfl)
 · have hn0 : n = 0 := by omega
   subst hn0
   have d1 : ¬ 0 < namN (s.drop i) := by omega
   by_cases c3 : bt s i = 45 ∨ (48 ≤ bt s i ∧ bt s i ≤ 57)
   · have hM := mark_no s i h1 (by rcases c3 with h | h; exact .inl h; exact .inr (.inl h))
     obtain ⟨v, e, f, p, ht⟩ : ∃ v e f p, takeS s i = (v, e, f, p) := ⟨_, _, _, _, rfl⟩
     have split3 : ∀ (Q : Prop), (bt s i = 45 → Q) → (bt s i ≠ 45 → 48 ≤ bt s i → bt s i ≤ 57 → Q) → Q := fun Q a b => by
      by_cases e : bt s i = 45
      · exact a e
      · rcases c3 with h | h
        · exact absurd h e
        · exact b e h.1 h.2
     by_cases hf : f = 0
     · subst hf
       have hp0 := takeS_p0 s i (by omega) ht
       subst hp0
       have hr : tokA s i = ((2, (i : Int), e, [], v), 0, 0) := by unfold tokA; rw [if_neg d1, hM, if_neg (by simp), if_pos c3, ht, if_neg (by simp)]
       rw [hr]
       refine split3 _ (fun a1 => ?_) (fun a1 a2 a3 => ?_)
       all_goals
        refine sy_enter rfl rfl ?_
        simp only [initFr]
        repeat (first | refine yK ?_ | refine yP ?_ | refine yI ?_ | (refine yA ?_; intro _))
        refine sy_ov (ov_call rfl (fun w _ => rsigns_c s i 0 hsg (by omega) (by omega) (by omega) w)) rfl rfl ?_
        repeat (first | refine yK ?_ | refine yP ?_ | refine sy_guard_undef rfl rfl rfl rfl rfl ?_ | refine yG ?_ | refine yH ?_ | refine yM ?_ | refine yE ?_ | refine sy_ov (ov_pick rfl rfl rfl) rfl rfl ?_ | refine yT ?_ | refine yN ?_)
        refine sy_ov (ov_call rfl (fun w _ => rdtake_c s i v e 0 0 ht (by omega) (by omega) (by omega) w)) rfl rfl ?_
        repeat (first | refine yK ?_ | refine yP ?_ | refine yL 0 ?_ | refine yS 0 ?_ | refine yF ?_ | (refine yA ?_; intro _) | refine yN ?_)
        refine sy_drawE _ 6 [(0, false), (1, false), (2, false), (3, false), (4, false), (5, true)] (by kernel_rfl) rfl (sk (sk (sd sr))) ?_
        repeat (first | refine dre_rd (fun _ _ => ov_p rfl) rfl ?_ | refine dre_rd (fun _ _ => ov_ld 0 rfl rfl rfl) rfl ?_ | refine dre_rd (fun _ _ => ov_build rfl rfl rfl) rfl ?_ | (refine dre_ef rfl ?_; refine yS 2 ?_; refine dre_ek (by repeat first | exact sr | apply sk | apply sd) ?_) | refine dre_end ?_)
        repeat (first | refine yK ?_ | refine yS 1 ?_ | refine sy_rt ?_)
        exact ret_cc 2 1 rfl rfl rfl rfl rfl rfl rfl rfl rfl rfl
     · have hr : tokA s i = (ztk, f, p) := by unfold tokA; rw [if_neg d1, hM, if_neg (by simp), if_pos c3, ht, if_pos hf]
       rw [hr]
       refine split3 _ (fun a1 => ?_) (fun a1 a2 a3 => ?_)
       all_goals
        refine sy_enter rfl rfl ?_
        simp only [initFr]
        repeat (first | refine yK ?_ | refine yP ?_ | refine yI ?_ | (refine yA ?_; intro _))
        refine sy_ov (ov_call rfl (fun w _ => rsigns_c s i 0 hsg (by omega) (by omega) (by omega) w)) rfl rfl ?_
        repeat (first | refine yK ?_ | refine yP ?_ | refine sy_guard_undef rfl rfl rfl rfl rfl ?_ | refine yG ?_ | refine yH ?_ | refine yM ?_ | refine yE ?_ | refine sy_ov (ov_pick rfl rfl rfl) rfl rfl ?_ | refine yT ?_ | refine yN ?_)
        refine sy_ov (ov_call rfl (fun w _ => rdtake_c s i v e f p ht (by omega) (by omega) (by omega) w)) rfl rfl ?_
        repeat (first | refine yK ?_ | refine yP ?_ | refine yL 0 ?_ | refine yS 0 ?_ | refine yF ?_ | (refine yA ?_; intro _) | refine yT ?_)
        refine sy_drawE _ 3 [(0, false), (1, false), (2, true)] (by kernel_rfl) rfl (sk (sk (sd sr))) ?_
        repeat (first | refine dre_rd (fun _ _ => ov_ld 0 rfl rfl rfl) rfl ?_ | refine dre_rd (fun _ _ => ov_build rfl rfl rfl) rfl ?_ | (refine dre_ef rfl ?_; refine yS 2 ?_; refine dre_ek (by repeat first | exact sr | apply sk | apply sd) ?_) | refine dre_end ?_)
        repeat (first | refine yK ?_ | refine yS 1 ?_ | refine sy_rt ?_)
        exact ret_cc 2 1 rfl rfl rfl rfl rfl rfl rfl rfl rfl rfl
   · have a1 : bt s i ≠ 45 := fun h => c3 (.inl h)
     have split3 : ∀ (Q : Prop), (48 ≤ bt s i → 57 < bt s i → Q) → (¬ 48 ≤ bt s i → Q) → Q := fun Q a b => by
      by_cases e : 48 ≤ bt s i
      · exact a e (by omega)
      · exact b e
     by_cases c4 : bt s i = 34
     · have hM := mark_no s i h1 (.inr (.inr c4))
       obtain ⟨o, z, e, p, hu⟩ : ∃ o z e p, unqR s i = (o, z, e, p) := ⟨_, _, _, _, rfl⟩
       have a2 : ¬ 48 ≤ bt s i := by omega
       by_cases he : e = 0
       · subst he
         have hp0 := unqR_p0 hu
         subst hp0
         have hr : tokA s i = ((3, (i : Int), z, o, 0), 0, 0) := by unfold tokA; rw [if_neg d1, hM, if_neg (by simp), if_neg c3, if_pos c4, hu, if_neg (by simp)]
         rw [hr]
         refine sy_enter rfl rfl ?_
         simp only [initFr]
         repeat (first | refine yK ?_ | refine yP ?_ | refine yI ?_ | (refine yA ?_; intro _))
         refine sy_ov (ov_call rfl (fun w _ => rsigns_c s i 0 hsg (by omega) (by omega) (by omega) w)) rfl rfl ?_
         repeat (first | refine yK ?_ | refine yP ?_ | refine yG ?_ | refine yH ?_ | refine yE ?_ | refine sy_ov (ov_pick rfl rfl rfl) rfl rfl ?_ | refine yT ?_ | refine yN ?_)
         refine sy_ov (ov_call rfl (fun w _ => runquote_c s i o z 0 0 hu (by omega) (by omega) (by omega) w)) rfl rfl ?_
         repeat (first | refine yK ?_ | refine yP ?_ | refine yL 0 ?_ | refine yS 0 ?_ | refine yF ?_ | (refine yA ?_; intro _) | refine yN ?_)
         refine sy_drawE _ 6 [(0, false), (1, false), (2, false), (3, false), (4, false), (5, true)] (by kernel_rfl) rfl (sk (sk (sd sr))) ?_
         repeat (first | refine dre_rd (fun _ _ => ov_p rfl) rfl ?_ | refine dre_rd (fun _ _ => ov_ld 0 rfl rfl rfl) rfl ?_ | refine dre_rd (fun _ _ => ov_build rfl rfl rfl) rfl ?_ | (refine dre_ef rfl ?_; refine yS 2 ?_; refine dre_ek (by repeat first | exact sr | apply sk | apply sd) ?_) | refine dre_end ?_)
         repeat (first | refine yK ?_ | refine yS 1 ?_ | refine sy_rt ?_)
         exact ret_cc 2 1 rfl rfl rfl rfl rfl rfl rfl rfl rfl rfl
       · have hr : tokA s i = (ztk, e, p) := by unfold tokA; rw [if_neg d1, hM, if_neg (by simp), if_neg c3, if_pos c4, hu, if_pos he]
         rw [hr]
         refine sy_enter rfl rfl ?_
         simp only [initFr]
         repeat (first | refine yK ?_ | refine yP ?_ | refine yI ?_ | (refine yA ?_; intro _))
         refine sy_ov (ov_call rfl (fun w _ => rsigns_c s i 0 hsg (by omega) (by omega) (by omega) w)) rfl rfl ?_
         repeat (first | refine yK ?_ | refine yP ?_ | refine yG ?_ | refine yH ?_ | refine yE ?_ | refine sy_ov (ov_pick rfl rfl rfl) rfl rfl ?_ | refine yT ?_ | refine yN ?_)
         refine sy_ov (ov_call rfl (fun w _ => runquote_c s i o z e p hu (by omega) (by omega) (by omega) w)) rfl rfl ?_
         repeat (first | refine yK ?_ | refine yP ?_ | refine yL 0 ?_ | refine yS 0 ?_ | refine yF ?_ | (refine yA ?_; intro _) | refine yT ?_)
         refine sy_drawE _ 3 [(0, false), (1, false), (2, true)] (by kernel_rfl) rfl (sk (sk (sd sr))) ?_
         repeat (first | refine dre_rd (fun _ _ => ov_ld 0 rfl rfl rfl) rfl ?_ | refine dre_rd (fun _ _ => ov_build rfl rfl rfl) rfl ?_ | (refine dre_ef rfl ?_; refine yS 2 ?_; refine dre_ek (by repeat first | exact sr | apply sk | apply sd) ?_) | refine dre_end ?_)
         repeat (first | refine yK ?_ | refine yS 1 ?_ | refine sy_rt ?_)
         exact ret_cc 2 1 rfl rfl rfl rfl rfl rfl rfl rfl rfl rfl
     · obtain ⟨m, hM⟩ : ∃ m, markL (s.drop i) = m := ⟨_, rfl⟩
       have hml := markL_bd (s.drop i)
       rw [hM] at hmk hml
       rw [List.length_drop] at hml
       by_cases c2 : m = []
       · subst c2
         obtain ⟨r, k, ok, hd⟩ := trip (decAt s i)
         cases ok with
         | true =>
          have hr : tokA s i = (ztk, 3, (i : Int)) := by unfold tokA; rw [if_neg d1, hM, if_neg (by simp), if_neg c3, if_neg c4, hd]; rfl
          rw [hr]
          refine split3 _ (fun a2 a3 => ?_) (fun a2 => ?_)
          all_goals
           refine sy_enter rfl rfl ?_
           simp only [initFr]
           repeat (first | refine yK ?_ | refine yP ?_ | refine yI ?_ | (refine yA ?_; intro _))
           refine sy_ov (ov_call rfl (fun w _ => rsigns_c s i 0 hsg (by omega) (by omega) (by omega) w)) rfl rfl ?_
           repeat (first | refine yK ?_ | refine yP ?_ | refine yG ?_ | refine yH ?_ | refine yM ?_ | refine yE ?_ | refine sy_ov (ov_pick rfl rfl rfl) rfl rfl ?_ | refine yN ?_)
           refine sy_ov (ov_call rfl (fun w _ => rmark_c s i [] hmk (by omega) w)) rfl rfl ?_
           repeat (first | refine yK ?_ | refine yP ?_ | refine yN ?_)
           refine sy_ov (ov_call rfl (fun w _ => rdecode_c s i r k true hd (by omega) (by omega) (by omega) w)) rfl rfl ?_
           repeat (first | refine yK ?_ | refine yP ?_ | refine yS 0 ?_ | refine yS 1 ?_ | refine yB ?_ | refine yN ?_ | refine sy_rt ?_)
           exact ret_cc 1 0 rfl rfl rfl rfl rfl rfl rfl rfl rfl rfl
         | false =>
          have hr : tokA s i = (ztk, 2, (i : Int)) := by unfold tokA; rw [if_neg d1, hM, if_neg (by simp), if_neg c3, if_neg c4, hd]; rfl
          rw [hr]
          refine split3 _ (fun a2 a3 => ?_) (fun a2 => ?_)
          all_goals
           refine sy_enter rfl rfl ?_
           simp only [initFr]
           repeat (first | refine yK ?_ | refine yP ?_ | refine yI ?_ | (refine yA ?_; intro _))
           refine sy_ov (ov_call rfl (fun w _ => rsigns_c s i 0 hsg (by omega) (by omega) (by omega) w)) rfl rfl ?_
           repeat (first | refine yK ?_ | refine yP ?_ | refine yG ?_ | refine yH ?_ | refine yM ?_ | refine yE ?_ | refine sy_ov (ov_pick rfl rfl rfl) rfl rfl ?_ | refine yN ?_)
           refine sy_ov (ov_call rfl (fun w _ => rmark_c s i [] hmk (by omega) w)) rfl rfl ?_
           repeat (first | refine yK ?_ | refine yP ?_ | refine yN ?_)
           refine sy_ov (ov_call rfl (fun w _ => rdecode_c s i r k false hd (by omega) (by omega) (by omega) w)) rfl rfl ?_
           repeat (first | refine yK ?_ | refine yP ?_ | refine yS 0 ?_ | refine yS 1 ?_ | refine yB ?_ | refine yT ?_ | refine sy_rt ?_)
           exact ret_cc 1 0 rfl rfl rfl rfl rfl rfl rfl rfl rfl rfl
       · have hr : tokA s i = ((4, (i : Int), (i : Int) + m.length, m, 0), 0, 0) := by unfold tokA; rw [if_neg d1, hM, if_pos c2]
         rw [hr]
         refine split3 _ (fun a2 a3 => ?_) (fun a2 => ?_)
         all_goals
          refine sy_enter rfl rfl ?_
          simp only [initFr]
          repeat (first | refine yK ?_ | refine yP ?_ | refine yI ?_ | (refine yA ?_; intro _))
          refine sy_ov (ov_call rfl (fun w _ => rsigns_c s i 0 hsg (by omega) (by omega) (by omega) w)) rfl rfl ?_
          repeat (first | refine yK ?_ | refine yP ?_ | refine yG ?_ | refine yH ?_ | refine yM ?_ | refine yE ?_ | refine sy_ov (ov_pick rfl rfl rfl) rfl rfl ?_ | refine yN ?_)
          refine sy_ov (ov_call rfl (fun w _ => rmark_c s i m hmk (by omega) w)) rfl rfl ?_
          repeat (first | refine yK ?_ | refine yP ?_ | (refine yR ?_ ?_ ?_; omega; omega) | refine yU ?_ | refine yS 0 ?_ | refine yS 1 ?_ | refine yB ?_ | refine yT ?_ | refine sy_rt ?_)
          exact ret_cc 1 0 rfl rfl rfl rfl rfl rfl rfl rfl rfl rfl
structure RkSt where
 i : Int
 p : Option Addr
 q : Nat
 acc : List TokT
 b : Bool
theorem unit_ok (s : List UInt8) (i : Int) (h0 : 0 ≤ i) (h1 : i < s.length) {r : Int} {n : Nat} (hd : decAt s i = (r, n, true)) : unitAt s i = (runeC r, n) := by
 rw [decAt_in' s i h0 h1] at hd
 unfold unitAt
 rw [if_neg (by omega)]
 exact unitS_ok _ r n (drop_ne' s i h0 h1) hd
def isBl (c : Int) : Prop := c = 9 ∨ c = 10 ∨ c = 13 ∨ c = 32
theorem blankB_t {c : Int} (h : isBl c) : blankB c = true := by rcases h with rfl | rfl | rfl | rfl <;> decide
theorem blankB_f {c : Int} (h1 : c ≠ 9) (h2 : c ≠ 10) (h3 : c ≠ 13) (h4 : c ≠ 32) : blankB c = false := by unfold blankB; simp [h1, h2, h3, h4]
set_option maxRecDepth 20000 in
set_option maxHeartbeats 8000000 in
theorem rscan_c (s : List UInt8) (hs : s.length ≤ 1000000000000000) (w : World) : Calls Tryz.prog 23 #[S s] w fun x w' => ∃ v e', ScanR s v e' ∧ x = .returned v ∧ e'.holds w' ∧ Below w.heap.size w w' ∧ ∀ b, e'.dom b → w.heap.size ≤ b ∧ b < w'.heap.size := by
 by_cases hbig : 65536 < s.length
 · have hr : scanR s = ([], 7, 65536) := if_pos hbig
   refine sy_enter rfl rfl ?_
   simp only [initFr]
   repeat (first | refine yK ?_ | refine yP ?_ | refine yU ?_ | refine yS 0 ?_ | refine yB ?_ | (refine yA ?_; intro _) | refine yT ?_ | refine sy_rt ?_)
   refine leave_grow 59 5 ?_
   refine ret2cw 1 rfl rfl rfl rfl rfl rfl fun w' hw' => new_at hw' 0 rfl rfl (by exact ScanR.mk' hr none 0 rfl rfl)
 · have hR : scanR s = scanT s 0 := if_neg hbig
   refine sy_enter rfl rfl ?_
   simp only [initFr]
   repeat (first | refine yK ?_ | refine yP ?_ | refine yU ?_ | (refine yA ?_; intro _) | refine yN ?_)
   rename_i b3
   refine sy_grow 59 5 ?_
   refine sy_loop (α := RkSt) (fun a => [(0, S s), (3, .pointer (some ⟨b3, 0, none⟩)), (4, .slice a.p a.acc.length a.q), (5, .bool a.b), (6, .int .i64 a.i)]) (fun a => [vec 59 5 (.slice a.p a.acc.length a.q) a.acc.length (a.acc.flatMap tokV), blk b3 29 [.int .i64 0, .int .i64 0]]) (fun a => RSInv s a.i a.acc a.b) (fun a => (s.length - a.i).toNat) ⟨0, none, 0, [], false⟩ (RSInv.start s) ⟨zz, zz, zz, zz, zz, trivial⟩ (List.Sublist.refl _) ?_
   rintro ⟨i, p, q, acc, inn⟩ hi
   have i0 := hi.i0
   have i1 := hi.i1
   have ik := hi.n
   dsimp only at hi i0 i1 ik ⊢
   by_cases hlt : i < s.length
   · by_cases h10 : bt s i = 10
     · have hst := ((hi.line h10).out.blank hlt (by rw [h10]; decide)).ins
       repeat (first | refine yK ?_ | refine yP ?_ | refine yG ?_ | refine yH ?_ | (refine yR ?_ ?_ ?_; omega; omega) | refine yU ?_ | refine yM ?_ | refine yE ?_ | refine sy_ov (ov_pick rfl rfl rfl) rfl rfl ?_ | refine yI ?_ | refine yT ?_ | refine yN ?_)
       refine sy_back ⟨i + 1, p, q, acc, false⟩ hst (by dsimp only; omega) ⟨zz, zz, zz, zz, zz, trivial⟩ (List.Sublist.refl _)
     · -- a remark
       have rem : ∀ (F : Fr) (k : List It), True := fun _ _ => trivial
       obtain ⟨r, m, ok, hd⟩ := trip (decAt s i)
       obtain ⟨d1, d2, d3, d4, d5⟩ := dec_bd s i i0 hlt hd
       have hd' := hd
       rw [decAt_in' s i i0 hlt] at hd'
       by_cases hin : inn = true ∨ bt s i = 59
       · have hI : RSInv s i acc true := by
          rcases hin with rfl | h
          · exact hi
          · exact hi.semi hlt h
         have hsplit : (bt s i ≠ 59 ∧ inn = true) ∨ bt s i = 59 := by
          by_cases h : bt s i = 59
          · exact .inr h
          · exact .inl ⟨h, hin.resolve_right h⟩
         cases ok with
         | false =>
          have hr := hI.bad hlt h10 hd'
          rw [← hR] at hr
          rcases hsplit with ⟨h59, rfl⟩ | h59
          all_goals
           repeat (first | refine yK ?_ | refine yP ?_ | refine sy_guard_undef rfl rfl rfl rfl rfl ?_ | refine yH ?_ | refine yU ?_ | refine sy_ov (ov_pick rfl rfl rfl) rfl rfl ?_ | refine yI ?_ | refine yT ?_ | refine yN ?_)
           refine sy_ov (ov_call rfl (fun w _ => rdecode_c s i r m false hd (by omega) (by omega) (by omega) w)) rfl rfl ?_
           repeat (first | refine yK ?_ | refine yP ?_ | refine yS 1 ?_ | refine yB ?_ | refine yT ?_ | refine sy_rt ?_)
           refine leave_grow 59 5 ?_
           refine ret2cw 2 rfl rfl rfl rfl rfl rfl fun w' hw' => new_at hw' 0 rfl rfl (by exact ScanR.mk' hr none 0 rfl rfl)
         | true =>
          have hu := unit_ok s i i0 hlt hd
          by_cases h9 : r = 9
          · have hst := hI.ok hlt h10 hd' (fun h => h.1 h9) d4
            rcases hsplit with ⟨h59, rfl⟩ | h59
            all_goals
             repeat (first | refine yK ?_ | refine yP ?_ | refine sy_guard_undef rfl rfl rfl rfl rfl ?_ | refine yH ?_ | refine yU ?_ | refine sy_ov (ov_pick rfl rfl rfl) rfl rfl ?_ | refine yI ?_ | refine yT ?_ | refine yN ?_)
             refine sy_ov (ov_call rfl (fun w _ => rdecode_c s i r m true hd (by omega) (by omega) (by omega) w)) rfl rfl ?_
             repeat (first | refine yK ?_ | refine yP ?_ | refine yH ?_ | refine sy_ov (ov_pick rfl rfl rfl) rfl rfl ?_ | refine yN ?_)
             refine sy_ov (ov_call rfl (fun w _ => runit4_c s i _ m hu i0 hlt (by omega) w)) rfl rfl ?_
             repeat (first | refine yK ?_ | refine yP ?_ | (refine yR ?_ ?_ ?_; omega; omega))
             refine sy_back ⟨i + m, p, q, acc, true⟩ hst (by dsimp only; omega) ⟨zz, zz, zz, zz, zz, trivial⟩ (List.Sublist.refl _)
          · obtain ⟨k, hk⟩ : ∃ k, kindT r = k := ⟨_, rfl⟩
            have hun : unsafeB r = !decide (k = 0) := by unfold unsafeB; rw [hk]
            by_cases hk0 : k = 0
            · have hst := hI.ok hlt h10 hd' (fun h => by rw [hun] at h; simp [hk0] at h) d4
              rcases hsplit with ⟨h59, rfl⟩ | h59
              all_goals
               repeat (first | refine yK ?_ | refine yP ?_ | refine sy_guard_undef rfl rfl rfl rfl rfl ?_ | refine yH ?_ | refine yU ?_ | refine sy_ov (ov_pick rfl rfl rfl) rfl rfl ?_ | refine yI ?_ | refine yT ?_ | refine yN ?_)
               refine sy_ov (ov_call rfl (fun w _ => rdecode_c s i r m true hd (by omega) (by omega) (by omega) w)) rfl rfl ?_
               repeat (first | refine yK ?_ | refine yP ?_ | refine yG ?_ | refine yN ?_)
               refine sy_ov (ov_call rfl (fun w _ => rkind_c r k hk (by omega) w)) rfl rfl ?_
               repeat (first | refine yK ?_ | refine yP ?_ | refine yG ?_ | refine yM ?_ | refine yN ?_)
               refine sy_ov (ov_call rfl (fun w _ => runit4_c s i _ m hu i0 hlt (by omega) w)) rfl rfl ?_
               repeat (first | refine yK ?_ | refine yP ?_ | (refine yR ?_ ?_ ?_; omega; omega))
               refine sy_back ⟨i + m, p, q, acc, true⟩ hst (by dsimp only; omega) ⟨zz, zz, zz, zz, zz, trivial⟩ (List.Sublist.refl _)
            · have hr := hI.char hlt h10 hd' h9 (by rw [hun]; simp [hk0])
              rw [← hR] at hr
              rcases hsplit with ⟨h59, rfl⟩ | h59
              all_goals
               repeat (first | refine yK ?_ | refine yP ?_ | refine sy_guard_undef rfl rfl rfl rfl rfl ?_ | refine yH ?_ | refine yU ?_ | refine sy_ov (ov_pick rfl rfl rfl) rfl rfl ?_ | refine yI ?_ | refine yT ?_ | refine yN ?_)
               refine sy_ov (ov_call rfl (fun w _ => rdecode_c s i r m true hd (by omega) (by omega) (by omega) w)) rfl rfl ?_
               repeat (first | refine yK ?_ | refine yP ?_ | refine yG ?_ | refine yN ?_)
               refine sy_ov (ov_call rfl (fun w _ => rkind_c r k hk (by omega) w)) rfl rfl ?_
               repeat (first | refine yK ?_ | refine yP ?_ | refine yG ?_ | refine yS 1 ?_ | refine yM ?_ | refine yB ?_ | refine yT ?_ | refine sy_rt ?_)
               refine leave_grow 59 5 ?_
               refine ret2cw 2 rfl rfl rfl rfl rfl rfl fun w' hw' => new_at hw' 0 rfl rfl (by exact ScanR.mk' hr none 0 rfl rfl)
       · have hi0 : inn = false := by cases inn with | false => rfl | true => exact absurd (.inl rfl) hin
         have h59 : bt s i ≠ 59 := fun h => hin (.inr h)
         subst hi0
         have hO := hi.out
         by_cases h9 : bt s i = 9
         · have hst := (hO.blank hlt (blankB_t (.inl h9))).ins
           repeat (first | refine yK ?_ | refine yP ?_ | refine yG ?_ | refine yH ?_ | (refine yR ?_ ?_ ?_; omega; omega) | refine yU ?_ | refine yM ?_ | refine sy_ov (ov_pick rfl rfl rfl) rfl rfl ?_ | refine yI ?_ | refine yT ?_ | refine yN ?_)
           refine sy_back ⟨i + 1, p, q, acc, false⟩ hst (by dsimp only; omega) ⟨zz, zz, zz, zz, zz, trivial⟩ (List.Sublist.refl _)
         · by_cases h13 : bt s i = 13
           · have hst := (hO.blank hlt (blankB_t (.inr (.inr (.inl h13))))).ins
             repeat (first | refine yK ?_ | refine yP ?_ | refine yG ?_ | refine yH ?_ | (refine yR ?_ ?_ ?_; omega; omega) | refine yU ?_ | refine yM ?_ | refine yE ?_ | refine sy_ov (ov_pick rfl rfl rfl) rfl rfl ?_ | refine yI ?_ | refine yT ?_ | refine yN ?_)
             refine sy_back ⟨i + 1, p, q, acc, false⟩ hst (by dsimp only; omega) ⟨zz, zz, zz, zz, zz, trivial⟩ (List.Sublist.refl _)
           · by_cases h32 : bt s i = 32
             · have hst := (hO.blank hlt (blankB_t (.inr (.inr (.inr h32))))).ins
               repeat (first | refine yK ?_ | refine yP ?_ | refine yG ?_ | (refine yR ?_ ?_ ?_; omega; omega) | refine yU ?_ | refine yM ?_ | refine yE ?_ | refine yI ?_ | refine yT ?_ | refine yN ?_)
               refine sy_back ⟨i + 1, p, q, acc, false⟩ hst (by dsimp only; omega) ⟨zz, zz, zz, zz, zz, trivial⟩ (List.Sublist.refl _)
             · have hbl := blankB_f h9 h10 h13 h32
               obtain ⟨t, e, a, htk⟩ := trip (tokA s i.toNat)
               have hii : ((i.toNat : Nat) : Int) = i := Int.toNat_of_nonneg i0
               have hc := rtok_c s i.toNat _ htk (by omega) (by omega)
               rw [hii] at hc
               by_cases he : e = 0
               · subst he
                 obtain ⟨hst, hgt⟩ := hO.tok hlt hbl h59 htk
                 have := hst.i1
                 have hkn := hst.n
                 have e1 : (acc ++ [t]).length = acc.length + 1 := by simp
                 have e2 := flat_snoc tokV acc t
                 rw [e1] at hkn
                 have hp0 : a = 0 := (tokA_ok0 s i.toNat htk).1 rfl
                 subst hp0
                 repeat (first | refine yK ?_ | refine yP ?_ | refine yG ?_ | refine yU ?_ | refine yM ?_ | refine yE ?_ | refine yI ?_ | refine yT ?_ | refine yN ?_)
                 refine sy_ov (ov_call rfl (fun w _ => hc w)) rfl rfl ?_
                 repeat (first | refine yK ?_ | refine yP ?_ | refine yL 0 ?_ | refine yL 1 ?_ | refine yS 0 ?_ | refine yS 1 ?_ | refine yF ?_ | (refine yA ?_; intro _) | refine yN ?_)
                 refine sy_buildSlice rfl rfl rfl rfl rfl rfl rfl rfl ?_
                 intro nb
                 refine sy_append 3 0 rfl rfl rfl rfl rfl rfl rfl rfl rfl rfl rfl (by omega) (by refine Nat.le_trans (Nat.mul_le_mul_left _ (Nat.le_of_ble_eq_true (m := 1024) rfl)) ?_; omega) ?_
                 intro p' q'
                 repeat (first | refine yK ?_ | refine yP ?_ | refine yL 2 ?_ | refine yF ?_)
                 refine sy_back ⟨t.2.2.1, some p', q', acc ++ [t], false⟩ hst.ins (by dsimp only; omega) ⟨zz, zz, ⟨_, rfl, by rw [e1]⟩, zz, zz, trivial⟩ (by dsimp only; rw [e1, e2]; exact sd (sd (sd sr)))
               · have hr := hO.tokBad hlt hbl h59 htk he
                 rw [← hR] at hr
                 repeat (first | refine yK ?_ | refine yP ?_ | refine yG ?_ | refine yU ?_ | refine yM ?_ | refine yE ?_ | refine yI ?_ | refine yT ?_ | refine yN ?_)
                 refine sy_ov (ov_call rfl (fun w _ => hc w)) rfl rfl ?_
                 repeat (first | refine yK ?_ | refine yP ?_ | refine yL 0 ?_ | refine yS 0 ?_ | refine yS 1 ?_ | refine yF ?_ | (refine yA ?_; intro _) | refine yT ?_)
                 refine sy_draw 2 (by kernel_rfl) ?_
                 repeat (first | refine dr_op (ov_p rfl) rfl rfl ?_ | refine dr_op (ov_ld 0 rfl rfl rfl) rfl rfl ?_ | refine dr_end ?_)
                 repeat (first | refine yK ?_ | refine yS 3 ?_ | refine sy_rt ?_)
                 refine leave_grow 59 5 ?_
                 refine ret2cw 4 rfl rfl rfl rfl rfl rfl fun w' hw' => new_at hw' 0 rfl rfl (by exact ScanR.mk' hr none 0 rfl rfl)
   · have hr := hi.fin hlt
     rw [← hR] at hr
     have e1 : (acc ++ [((0, (s.length : Int), (s.length : Int), [], 0) : TokT)]).length = acc.length + 1 := by simp
     have e2 := flat_snoc tokV acc (0, (s.length : Int), (s.length : Int), [], 0)
     repeat (first | refine yK ?_ | refine yP ?_ | refine yU ?_ | refine yB ?_ | refine yN ?_)
     refine sy_buildSlice rfl rfl rfl rfl rfl rfl rfl rfl ?_
     intro nb
     refine sy_append 1 0 rfl rfl rfl rfl rfl rfl rfl rfl rfl rfl rfl (by omega) (by refine Nat.le_trans (Nat.mul_le_mul_left _ (Nat.le_of_ble_eq_true (m := 1024) rfl)) ?_; omega) ?_
     intro p' q'
     repeat (first | refine yK ?_ | refine yP ?_ | refine yS 2 ?_ | refine yB ?_ | refine sy_rt ?_)
     refine ret2cw 2 rfl rfl rfl rfl rfl rfl fun w' hw' => new_at hw' 1 rfl rfl (by exact ScanR.mk' hr (some p') q' e1.symm e2.symm)
instance : KS Tryz.prog 59 [.i .i64, .i .i64, .i .i64, .s, .i .i64] := ⟨by kernel_rfl, by kernel_rfl, by kernel_rfl⟩
def scanF : Nat → List UInt8 → Nat → Option (List TokT × Int × Int)
 | 0, _, _ => none
 | f + 1, s, i => if s.length ≤ i then some ([(0, (i : Int), (i : Int), [], 0)], 0, 0) else if blankB (bt s i) = true then scanF f s (i + 1) else if bt s i = 59 then none
  else if (tokA s i).2.1 ≠ 0 then some ([], (tokA s i).2.1, (tokA s i).2.2) else if (i : Int) < (tokA s i).1.2.2.1 then (scanF f s (tokA s i).1.2.2.1.toNat).map (comb [(tokA s i).1]) else none
theorem scanF_ok : ∀ (f : Nat) (s : List UInt8) (i : Nat) (r : List TokT × Int × Int), scanF f s i = some r → scanT s i = r := by
 intro f
 induction f with
 | zero => intro s i r h; cases h
 | succ f ih =>
  intro s i r h
  unfold scanF at h
  by_cases h0 : s.length ≤ i
  · rw [if_pos h0] at h; cases h; exact scanT_end s i h0
  · rw [if_neg h0] at h
    by_cases hb : blankB (bt s i) = true
    · rw [if_pos hb] at h; rw [scanT_blank s i (by omega) hb]; exact ih s (i + 1) r h
    · rw [if_neg hb] at h
      have hb' : blankB (bt s i) = false := by simpa using hb
      by_cases h59 : bt s i = 59
      · rw [if_pos h59] at h; cases h
      · rw [if_neg h59] at h
        obtain ⟨t, e, p, ht⟩ := trip (tokA s i)
        rw [ht] at h
        by_cases he : e = 0
        · subst he
          rw [if_neg (by simp)] at h
          by_cases hlt : (i : Int) < t.2.2.1
          · rw [if_pos hlt] at h
            obtain ⟨r', h1, h2⟩ := Option.map_eq_some_iff.1 h
            rw [scanT_tok s i (by omega) hb' h59 ht hlt, ih s _ r' h1, h2]
          · rw [if_neg hlt] at h; cases h
        · rw [if_pos he] at h; cases h; exact scanT_tokbad s i (by omega) hb' h59 ht he
theorem scanR_of {s : List UInt8} {r : List TokT × Int × Int} (hs : s.length ≤ 65536) (f : Nat) (h : scanF f s 0 = some r) : scanR s = r := by
 unfold scanR; rw [if_neg (by omega)]; exact scanF_ok f s 0 r h
instance : KS Tryz.prog 29 [.i .i64, .i .i64] := ⟨by kernel_rfl, by kernel_rfl, by kernel_rfl⟩
theorem scanT_count (s : List UInt8) : ∀ (m i : Nat), s.length - i ≤ m → ((scanT s i).1.length : Int) ≤ (s.length - i : Nat) + 1 := by
 intro m
 induction m with
 | zero => intro i h; rw [scanT_end s i (by omega)]; simp only [List.length_singleton]; omega
 | succ m ih =>
  intro i h
  by_cases h0 : s.length ≤ i
  · rw [scanT_end s i h0]; simp only [List.length_singleton]; omega
  · by_cases hb : blankB (bt s i) = true
    · rw [scanT_blank s i (by omega) hb]; have := ih (i + 1) (by omega); omega
    · have hb' : blankB (bt s i) = false := by simpa using hb
      by_cases h59 : bt s i = 59
      · obtain ⟨n, e, hr⟩ : ∃ n e, remL (s.drop i) = (n, e) := ⟨_, _, rfl⟩
        by_cases he : e = 0
        · subst he
          have hn := remL_semi (s.drop i) (by rw [bt_dropZ]; exact h59) (drop_neN s i (by omega))
          rw [hr] at hn
          rw [scanT_rem s i (by omega) h59 hr hn]; have := ih (i + n) (by simp only at hn; omega); simp only at hn; omega
        · rw [scanT_rembad s i (by omega) h59 hr he]; simp only [List.length_nil]; omega
      · obtain ⟨t, e, p, ht⟩ := trip (tokA s i)
        by_cases he : e = 0
        · subst he
          have hbd := (tokA_bd s i (by omega) ht).1 rfl
          rw [scanT_tok s i (by omega) hb' h59 ht hbd.2.2.1]
          unfold comb
          split
          · have := ih t.2.2.1.toNat (by omega)
            simp only [lX]
            omega
          · simp only [List.length_nil]; omega
        · rw [scanT_tokbad s i (by omega) hb' h59 ht he]; simp only [List.length_nil]; omega
end Go.Proofs.YtldjakeigjngoaaGreat