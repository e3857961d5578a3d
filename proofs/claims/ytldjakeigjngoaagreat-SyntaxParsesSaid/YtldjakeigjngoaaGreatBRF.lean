/- BRF: texts of this proof, joined by program: Ref3, Ref4. -/
import Derived.Test.YtldjakeigjngoaaGreatEscQ
import Derived.Test.YtldjakeigjngoaaGreatBUB
import Derived.Test.YtldjakeigjngoaaGreatBPL
set_option linter.unusedVariables false
set_option linter.unusedSimpArgs false
namespace Go.Proofs.YtldjakeigjngoaaGreat
open Go.RowKit Bf
theorem rdecode_c (s : List UInt8) (i r : Int) (n : Nat) (b : Bool) (h : decAt s i = (r, n, b)) (hs : s.length ≤ 4611686018427387000) (h1 : -9223372036854775808 ≤ i) (h2 : i ≤ 9223372036854775807) (w : World) :
 Calls Tryz.prog 44 #[S s, .int .i64 i] w fun e w' => e = .returned (.tuple #[.int .i32 r, .int .i64 (n : Int), .bool b]) ∧ Below w.heap.size w w' :=
 rdecode_at ⟨⟨s⟩⟩ i r n b w (by show s.length ≤ maxLen; unfold maxLen; omega) ⟨h1, h2⟩ h
set_option maxRecDepth 200000 in
set_option maxHeartbeats 4000000 in
theorem rbidi_any (w : World) : Calls Tryz.prog 90 #[] w fun e w' => e = .returned (.slice (some ⟨w.heap.size, 0, none⟩) 4 4) ∧ w.alloc (.cells (spans bidiT).toArray 161) = w' := by
 exact calls_run (fuel := 20) (n := 1) (by kernel_rfl)
set_option maxRecDepth 200000 in
set_option maxHeartbeats 4000000 in
theorem rformat_any (w : World) : Calls Tryz.prog 91 #[] w fun e w' => e = .returned (.slice (some ⟨w.heap.size, 0, none⟩) 17 17) ∧ w.alloc (.cells (spans formatT).toArray 161) = w' := by
 exact calls_run (fuel := 20) (n := 1) (by kernel_rfl)
set_option maxRecDepth 200000 in
set_option maxHeartbeats 4000000 in
theorem rwide_any (w : World) : Calls Tryz.prog 114 #[] w fun e w' => e = .returned (.slice (some ⟨w.heap.size, 0, none⟩) 116 116) ∧ w.alloc (.cells (spans wideT).toArray 161) = w' := by
 exact calls_run (fuel := 20) (n := 1) (by kernel_rfl)
set_option maxRecDepth 200000 in
set_option maxHeartbeats 4000000 in
theorem rzero_any (w : World) : Calls Tryz.prog 115 #[] w fun e w' => e = .returned (.slice (some ⟨w.heap.size, 0, none⟩) 82 82) ∧ w.alloc (.cells (spans zeroT).toArray 161) = w' := by
 exact calls_run (fuel := 20) (n := 1) (by kernel_rfl)
theorem rtab_c {f : FuncId} {T : List (Int × Int)} {n : Nat} (h : ∀ w, Calls Tryz.prog f #[] w fun e w' => e = .returned (.slice (some ⟨w.heap.size, 0, none⟩) n n) ∧ w.alloc (.cells (spans T).toArray 161) = w') (w : World) :
 Calls Tryz.prog f ([] : List Value).toArray w fun x w' => ∃ v e', (∃ b, v = .slice (some ⟨b, 0, none⟩) n n ∧ e' = blk b 161 (spans T)) ∧ x = .returned v ∧ e'.holds w' ∧ Below w.heap.size w w' ∧ ∀ b, e'.dom b → w.heap.size ≤ b ∧ b < w'.heap.size :=
 (h w).mono fun e w' ⟨he, hw⟩ => by
   subst hw
   refine ⟨_, _, ⟨_, rfl, rfl⟩, he, ?_, (Below.refl _ _).alloc (Nat.le_refl _) _, ?_⟩
   · show (w.heap.push _)[w.heap.size]? = _; simp
   · rintro b rfl; show _ ∧ _ < (w.heap.push _).size; simp
def tabOk (T : List (Int × Int)) : Bool := T.all fun p => decide (0 ≤ p.1) && decide (p.2 ≤ 1114111)
theorem tabOk_get {T : List (Int × Int)} (h : tabOk T = true) (i : Nat) (hi : i < T.length) : 0 ≤ T[i].1 ∧ T[i].2 ≤ 1114111 := by
 have := List.all_eq_true.1 h T[i] (List.getElem_mem hi)
 simpa using this
theorem hasT_none {T : List (Int × Int)} {r : Int} (h : ∀ (i : Nat) (hi : i < T.length), ¬ (T[i].1 ≤ r ∧ r ≤ T[i].2)) : hasT T r = false :=
 hasT_no (lo := 0) (hi := 0) (fun i hi _ => h i hi) (Nat.le_refl _)
set_option maxRecDepth 20000 in
set_option maxHeartbeats 1000000 in
theorem has_w (T : List (Int × Int)) (n b : Nat) (r : Int) (ok : Bool) (ht : tabOk T = true) (hl : T.length = n) (hn : n ≤ 100000) (hr : -2147483648 ≤ r ∧ r ≤ 2147483647) (h : hasT T r = ok) :
 Works Tryz.prog 89 [.slice (some ⟨b, 0, none⟩) n n, .int .i32 r] (blk b 161 (spans T)) (fun v e' => v = .bool ok ∧ e' = blk b 161 (spans T)) := by
 intro w he hd
 subst hl
 refine sy_enter1 rfl rfl he hd ?_
 simp only [initFr]
 repeat (first | refine yK ?_ | refine yP ?_)
 refine sy_loop (α := Int) (fun i => [(0, .slice (some ⟨b, 0, none⟩) T.length T.length), (1, .int .i32 r), (5, .int .i64 i)]) (fun _ => [blk b 161 (spans T)]) (fun i => 0 ≤ i ∧ i ≤ T.length ∧ ∀ (j : Nat) (hj : j < T.length), (j : Int) < i → ¬ (T[j].1 ≤ r ∧ r ≤ T[j].2)) (fun i => (T.length - i).toNat) 0 ⟨by omega, by omega, fun j hj hj' => by omega⟩ ⟨zz, zz, zz, trivial⟩ (List.Sublist.refl _) ?_
 rintro i ⟨i0, i1, i2⟩
 repeat (first | refine yK ?_ | refine yP ?_ | refine sy_ov (ov_lens rfl) rfl rfl ?_)
 refine sy_cond rfl (fun hc => ?_) (fun hc => ?_)
 · simp only [decide_eq_true_eq] at hc
   have hi : i.toNat < T.length := by omega
   have hg := spans_get T i.toNat hi
   have hto := tabOk_get ht i.toNat hi
   have e0 : (spans T)[0 + i.toNat * 2 + 0]? = some (.int .i32 T[i.toNat].1) := by rw [show 0 + i.toNat * 2 + 0 = 2 * i.toNat by omega]; exact hg.1
   have e1 : (spans T)[0 + i.toNat * 2 + 1]? = some (.int .i32 T[i.toNat].2) := by rw [show 0 + i.toNat * 2 + 1 = 2 * i.toNat + 1 by omega]; exact hg.2
   have next : ¬ (T[i.toNat].1 ≤ r ∧ r ≤ T[i.toNat].2) → ∀ (j : Nat) (hj : j < T.length), (j : Int) < i + 1 → ¬ (T[j].1 ≤ r ∧ r ≤ T[j].2) := fun hno j hj hj' => by
    by_cases e : j = i.toNat
    · subst e; exact hno
    · exact i2 j hj (by omega)
   repeat (first | refine yK ?_ | refine yP ?_)
   by_cases q0 : 0 ≤ r ∧ r ≤ 1114111
   · obtain ⟨q1, q2⟩ := q0
     repeat (first | refine yP ?_ | refine yG ?_ | refine yM ?_ | refine yF ?_ | (refine yD ?_ ?_ ?_; omega; omega))
     refine sy_ov (ov_load 0 rfl rfl rfl e0) rfl rfl ?_
     repeat (first | refine yP ?_ | refine yG ?_ | refine yM ?_)
     by_cases q3 : T[i.toNat].1 ≤ r
     · repeat (first | refine yP ?_ | refine yG ?_ | refine yF ?_ | (refine yD ?_ ?_ ?_; omega; omega))
       refine sy_ov (ov_load 0 rfl rfl rfl e1) rfl rfl ?_
       repeat (first | refine yK ?_ | refine yP ?_ | refine yG ?_ | refine yM ?_)
       by_cases q4 : r ≤ T[i.toNat].2
       · repeat (first | refine yK ?_ | refine yP ?_ | refine yT ?_ | refine sy_rt ?_)
         exact ret1w rfl rfl fun w' hw' => ⟨_, _, ⟨by rw [← h, hasT_yes hi q3 q4], rfl⟩, rfl, (hw'.get (i := 0) rfl).1, hw'.keep, fun k hk => ⟨((hw'.get (i := 0) rfl).2 k hk).2, ((hw'.get (i := 0) rfl).2 k hk).1⟩⟩
       · repeat (first | refine yK ?_ | refine yP ?_ | (refine yR ?_ ?_ ?_; omega; omega) | refine yN ?_)
         refine sy_back (i + 1) ⟨by omega, by omega, next (fun hh => q4 hh.2)⟩ (by omega) ⟨zz, zz, zz, trivial⟩ (List.Sublist.refl _)
     · repeat (first | refine yK ?_ | refine yP ?_ | refine yH ?_ | (refine yR ?_ ?_ ?_; omega; omega) | refine sy_ov (ov_pick rfl rfl rfl) rfl rfl ?_ | refine yN ?_)
       refine sy_back (i + 1) ⟨by omega, by omega, next (fun hh => q3 hh.1)⟩ (by omega) ⟨zz, zz, zz, trivial⟩ (List.Sublist.refl _)
   · have hno : ¬ (T[i.toNat].1 ≤ r ∧ r ≤ T[i.toNat].2) := by omega
     by_cases q1 : 0 ≤ r
     · have q2 : ¬ r ≤ 1114111 := by omega
       repeat (first | refine yK ?_ | refine yP ?_ | refine yG ?_ | refine yH ?_ | (refine yR ?_ ?_ ?_; omega; omega) | refine yM ?_ | refine sy_ov (ov_pick rfl rfl rfl) rfl rfl ?_ | refine yN ?_)
       refine sy_back (i + 1) ⟨by omega, by omega, next hno⟩ (by omega) ⟨zz, zz, zz, trivial⟩ (List.Sublist.refl _)
     · repeat (first | refine yK ?_ | refine yP ?_ | refine yH ?_ | (refine yR ?_ ?_ ?_; omega; omega) | refine sy_ov (ov_pick rfl rfl rfl) rfl rfl ?_ | refine yN ?_)
       refine sy_back (i + 1) ⟨by omega, by omega, next hno⟩ (by omega) ⟨zz, zz, zz, trivial⟩ (List.Sublist.refl _)
 · simp only [decide_eq_false_iff_not] at hc
   repeat (first | refine yK ?_ | refine yP ?_ | refine sy_rt ?_)
   exact ret1w rfl rfl fun w' hw' => ⟨_, _, ⟨by rw [← h, hasT_none fun j hj => i2 j hj (by omega)], rfl⟩, rfl, (hw'.get (i := 0) rfl).1, hw'.keep, fun k hk => ⟨((hw'.get (i := 0) rfl).2 k hk).2, ((hw'.get (i := 0) rfl).2 k hk).1⟩⟩
theorem control_at (r : Int) : hasT controlT r = true ↔ (0 ≤ r ∧ r < 32 ∨ 126 < r ∧ r < 160) := by
 simp only [hasT, controlT, List.any_cons, List.any_nil, Bool.or_false, Bool.or_eq_true, Bool.and_eq_true, decide_eq_true_eq]; omega
theorem separator_at (r : Int) : hasT separatorT r = true ↔ (r = 8232 ∨ r = 8233) := by
 simp only [hasT, separatorT, List.any_cons, List.any_nil, Bool.or_false, Bool.and_eq_true, decide_eq_true_eq]; omega
set_option maxRecDepth 20000 in
set_option maxHeartbeats 1000000 in
theorem rkind_c (r c : Int) (h : kindT r = c) (hr : -2147483648 ≤ r ∧ r ≤ 2147483647) (w : World) : Calls Tryz.prog 45 #[.int .i32 r] w fun e w' => e = .returned (.int .i64 c) ∧ Below w.heap.size w w' := by
 subst h
 obtain ⟨x, hx⟩ : ∃ x, hasT bidiT r = x := ⟨_, rfl⟩
 obtain ⟨y, hy⟩ : ∃ y, hasT formatT r = y := ⟨_, rfl⟩
 have hcon := control_at r
 have hsep := separator_at r
 by_cases h1 : 0 ≤ r ∧ r < 32
 · obtain ⟨p1, p2⟩ := h1
   have hk : kindT r = 1 := by unfold kindT; rw [if_pos (hcon.2 (by omega))]
   refine sy_enter rfl rfl ?_
   simp only [initFr]
   repeat (first | refine yK ?_ | refine yP ?_ | refine sy_guard_undef rfl rfl rfl rfl rfl ?_ | refine yG ?_ | refine yH ?_ | refine yM ?_ | refine sy_ov (ov_pick rfl rfl rfl) rfl rfl ?_ | refine yT ?_ | refine sy_rt ?_)
   exact ret1 rfl rfl (by rw [hk])
 · by_cases h2 : 126 < r ∧ r < 160
   · obtain ⟨p1, p2⟩ := h2
     have hk : kindT r = 1 := by unfold kindT; rw [if_pos (hcon.2 (by omega))]
     have p3 : ¬ r < 32 := by omega
     refine sy_enter rfl rfl ?_
     simp only [initFr]
     repeat (first | refine yK ?_ | refine yP ?_ | refine yG ?_ | refine yM ?_ | refine yE ?_ | refine yT ?_ | refine sy_rt ?_)
     exact ret1 rfl rfl (by rw [hk])
   · have hc : ¬ hasT controlT r = true := fun hh => by have := hcon.1 hh; omega
     have hk : kindT r = if x then 2 else if y then 3 else if r = 8232 ∨ r = 8233 then 4 else 0 := by
      unfold kindT
      rw [if_neg hc, hx, hy]
      cases x <;> cases y <;> simp
      by_cases hs : hasT separatorT r = true
      · rw [if_pos hs, if_pos (hsep.1 hs)]
      · rw [if_neg hs, if_neg (fun hh => hs (hsep.2 hh))]
     clear hcon hsep hc
     have q1 : (0 ≤ r ∧ 32 ≤ r ∧ 126 < r ∧ 160 ≤ r) ∨ (0 ≤ r ∧ 32 ≤ r ∧ r ≤ 126) ∨ r < 0 := by omega
     refine sy_enter rfl rfl ?_
     simp only [initFr]
     rcases q1 with ⟨p1, p2, p3, p4⟩ | ⟨p1, p2, p3⟩ | p1
     all_goals (
      repeat (first | refine yK ?_ | refine yP ?_ | refine yG ?_ | refine yH ?_ | refine yM ?_ | refine yE ?_ | refine sy_ov (ov_pick rfl rfl rfl) rfl rfl ?_ | refine yN ?_)
      refine sy_calln rfl rfl (fun w _ => rtab_c rbidi_any w) ?_
      rintro v e' ⟨b1, rfl, rfl⟩
      repeat refine yP ?_
      refine sy_works 0 rfl rfl rfl (has_w bidiT 4 b1 r x (by decide +kernel) rfl (by decide) hr hx) ?_
      rintro v e' ⟨rfl, rfl⟩
      cases x
      · repeat (first | refine yK ?_ | refine yN ?_)
        refine sy_calln rfl rfl (fun w _ => rtab_c rformat_any w) ?_
        rintro v e' ⟨b2, rfl, rfl⟩
        repeat refine yP ?_
        refine sy_works 0 rfl rfl rfl (has_w formatT 17 b2 r y (by decide +kernel) rfl (by decide) hr hy) ?_
        rintro v e' ⟨rfl, rfl⟩
        cases y
        · repeat (first | refine yK ?_ | refine yP ?_ | refine yG ?_ | refine yE ?_ | refine yN ?_ | refine sy_rt ?_)
          by_cases s1 : r = 8232
          · first
            | (exfalso; omega)
            | (
             repeat (first | refine yK ?_ | refine yP ?_ | refine yH ?_ | refine sy_ov (ov_pick rfl rfl rfl) rfl rfl ?_ | refine yT ?_ | refine sy_rt ?_)
             exact ret1 rfl rfl (by rw [hk, s1]; rfl)
             )
          · by_cases s2 : r = 8233
            · first
              | (exfalso; omega)
              | (
               repeat (first | refine yK ?_ | refine yP ?_ | refine yG ?_ | refine yE ?_ | refine yT ?_ | refine sy_rt ?_)
               exact ret1 rfl rfl (by rw [hk, s2]; rfl)
               )
            · repeat (first | refine yK ?_ | refine yP ?_ | refine yG ?_ | refine yE ?_ | refine yN ?_ | refine sy_rt ?_)
              exact ret1 rfl rfl (by rw [hk]; simp [s1, s2])
        · repeat (first | refine yK ?_ | refine yP ?_ | refine yT ?_ | refine sy_rt ?_)
          exact ret1 rfl rfl (by rw [hk]; rfl)
      · repeat (first | refine yK ?_ | refine yP ?_ | refine yT ?_ | refine sy_rt ?_)
        exact ret1 rfl rfl (by rw [hk]; rfl)
     )
set_option maxRecDepth 20000 in
set_option maxHeartbeats 1000000 in
theorem size_c (r c : Int) (h : runeC r = c) (hr : -2147483648 ≤ r ∧ r ≤ 2147483647) (w : World) : Calls Tryz.prog 92 #[.int .i32 r] w fun e w' => e = .returned (.int .i64 c) ∧ Below w.heap.size w w' := by
 subst h
 obtain ⟨x, hx⟩ : ∃ x, hasT wideT r = x := ⟨_, rfl⟩
 obtain ⟨y, hy⟩ : ∃ y, hasT zeroT r = y := ⟨_, rfl⟩
 have hk : runeC r = if x then 2 else if y then 0 else 1 := by unfold runeC; rw [hx, hy]
 refine sy_enter rfl rfl ?_
 simp only [initFr]
 repeat (first | refine yK ?_ | refine yP ?_)
 refine sy_calln rfl rfl (fun w _ => rtab_c rwide_any w) ?_
 rintro v e' ⟨b1, rfl, rfl⟩
 repeat refine yP ?_
 refine sy_works 0 rfl rfl rfl (has_w wideT 116 b1 r x (by decide +kernel) rfl (by decide) hr hx) ?_
 rintro v e' ⟨rfl, rfl⟩
 cases x
 · repeat (first | refine yK ?_ | refine yN ?_)
   refine sy_calln rfl rfl (fun w _ => rtab_c rzero_any w) ?_
   rintro v e' ⟨b2, rfl, rfl⟩
   repeat refine yP ?_
   refine sy_works 0 rfl rfl rfl (has_w zeroT 82 b2 r y (by decide +kernel) rfl (by decide) hr hy) ?_
   rintro v e' ⟨rfl, rfl⟩
   cases y
   · repeat (first | refine yK ?_ | refine yP ?_ | refine yN ?_ | refine sy_rt ?_)
     exact ret1 rfl rfl (by rw [hk]; rfl)
   · repeat (first | refine yK ?_ | refine yP ?_ | refine yT ?_ | refine sy_rt ?_)
     exact ret1 rfl rfl (by rw [hk]; rfl)
 · repeat (first | refine yK ?_ | refine yP ?_ | refine yT ?_ | refine sy_rt ?_)
   exact ret1 rfl rfl (by rw [hk]; rfl)
set_option maxRecDepth 20000 in
set_option maxHeartbeats 1000000 in
theorem runit4_c (s : List UInt8) (i c : Int) (n : Nat) (h : unitAt s i = (c, n)) (h0 : 0 ≤ i) (h1 : i < s.length) (hs : s.length ≤ 4611686018427387000) (w : World) :
 Calls Tryz.prog 46 #[S s, .int .i64 i] w fun e w' => e = .returned (.tuple #[.int .i64 c, .int .i64 (n : Int)]) ∧ Below w.heap.size w w' := by
 obtain ⟨r, m, ok, hd⟩ := trip (decAt s i)
 have hv := decS_val2 (s.drop i.toNat)
 have hd' := hd
 rw [decAt_in' s i h0 h1] at hd'
 rw [hd'] at hv
 simp only at hv
 have hu : unitAt s i = unitS (s.drop i.toNat) := by unfold unitAt; rw [if_neg (by omega)]
 have hne : s.drop i.toNat ≠ [] := by intro e; have := congrArg List.length e; simp at this; omega
 rw [hu] at h
 cases ok
 · rw [unitS_bad _ r m hne hd'] at h
   obtain ⟨rfl, rfl⟩ := Prod.mk.inj h
   refine sy_enter rfl rfl ?_
   simp only [initFr]
   repeat (first | refine yK ?_ | refine yP ?_)
   refine sy_ov (ov_call rfl (fun w _ => rdecode_c s i r m false hd hs (by omega) (by omega) w)) rfl rfl ?_
   repeat (first | refine yK ?_ | refine yP ?_ | refine yT ?_ | refine sy_rt ?_)
   exact ret2 rfl rfl rfl rfl
 · rw [unitS_ok _ r m hne hd'] at h
   obtain ⟨rfl, rfl⟩ := Prod.mk.inj h
   refine sy_enter rfl rfl ?_
   simp only [initFr]
   repeat (first | refine yK ?_ | refine yP ?_)
   refine sy_ov (ov_call rfl (fun w _ => rdecode_c s i r m true hd hs (by omega) (by omega) w)) rfl rfl ?_
   repeat (first | refine yK ?_ | refine yP ?_ | refine yN ?_)
   refine sy_ov (ov_call rfl (fun w _ => size_c r _ rfl (by omega) w)) rfl rfl ?_
   repeat (first | refine yK ?_ | refine yP ?_ | refine sy_rt ?_)
   exact ret2 rfl rfl rfl rfl
end Go.Proofs.YtldjakeigjngoaaGreat