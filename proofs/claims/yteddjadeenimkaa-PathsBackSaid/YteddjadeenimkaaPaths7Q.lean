/- Contracts: Match, Compare and Begins of paths that are alike. -/
import Derived.Test.YteddjadeenimkaaPaths6Q
import Derived.Test.YteddjadeenimkaaPlainPaths2Q
import Derived.Test.YteddjadeenimkaaSyTwoQ
import Derived.Test.YteddjadeenimkaaBRC
set_option linter.unusedVariables false
set_option linter.unusedSimpArgs false
namespace Go.Proofs.Yteddjadeenimkaa
open Go.RowKit Bf
set_option maxRecDepth 20000 in
theorem isNaN_c (x : Int) (w : World) : Calls Try.prog 137 #[.int .i64 x] w fun e w' => e = .returned (.bool false) ∧ Below w.heap.size w w' := by
  refine sy_enter rfl rfl ?_
  simp only [initFr]
  repeat (first | refine sy_k rfl rfl ?_ | (refine gO ?_; refine sy_ov (ov_p rfl) rfl rfl ?_) | refine sy_rt ?_)
  exact ret1 rfl rfl (by simp)
set_option maxRecDepth 20000 in
theorem cmp_c (x : Int) (w : World) : Calls Try.prog 101 #[.int .i64 x, .int .i64 x] w fun e w' => e = .returned (.int .i64 0) ∧ Below w.heap.size w w' := by
  refine sy_enter rfl rfl ?_
  simp only [initFr]
  repeat (first | refine sy_k rfl rfl ?_ | (refine gO ?_; refine sy_ov (ov_p rfl) rfl rfl ?_))
  refine sy_ov (ov_call rfl (fun w _ => isNaN_c x w)) rfl rfl ?_
  repeat (first | refine sy_k rfl rfl ?_ | (refine gO ?_; refine sy_ov (ov_p rfl) rfl rfl ?_))
  refine sy_ov (ov_call rfl (fun w _ => isNaN_c x w)) rfl rfl ?_
  repeat (first | refine sy_k rfl rfl ?_ | (refine gO ?_; refine sy_ov (ov_p rfl) rfl rfl ?_) | (refine sy_cond_f rfl ?_ ?_; focus (first | with_reducible rfl | assumption | omega | (simp <;> first | omega | assumption))) | refine sy_rt ?_)
  exact ret1 rfl rfl rfl
set_option maxRecDepth 20000 in
theorem pright_big (w : World) (p : Option Addr) (n c : Nat) (hn : 64 < n) (hm : n ≤ 9223372036854775807) :
    Calls Try.prog 32 #[.slice p n c] w fun e w' => e = .returned (.bool false) ∧ Below w.heap.size w w' := by
  have h64 : 64 < (n : Int) := by omega
  refine sy_enter rfl rfl ?_
  simp only [initFr]
  repeat (first | refine sy_k rfl rfl ?_ | (refine gO ?_; first | refine sy_ov (ov_p rfl) rfl rfl ?_ | (refine gK ?_; refine sy_ov (ov_lens rfl) rfl rfl ?_)) | (refine sy_cond_t rfl ?_ ?_; focus (first | with_reducible rfl | assumption | omega | (simp <;> first | omega | assumption))) | refine sy_rt ?_)
  exact ret1 rfl rfl rfl
set_option maxRecDepth 20000 in
set_option maxHeartbeats 2000000 in
theorem pmatch_t (w : World) (p : Option Addr) (n c : Nat) (l : List StepT) (hl : l.length = n) (hn : n ≤ 4611686018427387000) (hs : IsSl w 3 p n (l.flatMap stpV)) :
    Calls Try.prog 52 #[.slice p n c, .slice p n c] w fun e w' => e = .returned (.bool true) ∧ Below w.heap.size w w' := by
  have hst : St (fun _ => False) w (fun w => IsSl w 3 p n (l.flatMap stpV)) := St.start (IsSl.bl _ _ _ _) hs
  refine sy_enter rfl rfl ?_
  simp only [initFr]
  repeat (first | refine sy_k rfl rfl ?_ | (refine gO ?_; first | refine sy_ov (ov_p rfl) rfl rfl ?_ | (refine gK ?_; refine sy_ov (ov_lens rfl) rfl rfl ?_)) | (refine sy_cond_f rfl ?_ ?_; focus (first | with_reducible rfl | assumption | omega | (simp <;> first | omega | assumption))))
  refine sy_loop (α := Int) (fun i => [(0, .slice p n c), (13, .slice p n c), (14, .int .i64 (n : Int)), (15, .int .i64 i)]) (fun _ => []) (fun i => 0 ≤ i ∧ i ≤ n) (fun i => (n - i).toNat) 0 ⟨by omega, by omega⟩ ⟨⟨_, rfl, rfl⟩, ⟨_, rfl, rfl⟩, ⟨_, rfl, rfl⟩, ⟨_, rfl, rfl⟩, trivial⟩ (List.nil_sublist _) ?_
  rintro i ⟨i0, i1⟩
  by_cases hlt : i < n
  · obtain ⟨k, m, s, hx⟩ := steps_get l i n hl i0 hlt
    obtain ⟨b, off, hp, hat⟩ := hst.addr (by omega)
    subst hp
    repeat (first | refine sy_k rfl rfl ?_ | (refine gO ?_; first | refine sy_ov (ov_p rfl) rfl rfl ?_ | (refine sy_ov (ov_indexAddr rfl rfl ?_ ?_) rfl rfl ?_; omega; omega)) | (refine sy_cond_t rfl ?_ ?_; focus (first | with_reducible rfl | assumption | omega | (simp <;> first | omega | assumption))))
    refine sy_ov (ov_elem (f := stpV) hat hx rfl rfl (fun _ => rfl)) rfl rfl ?_
    repeat (first | refine sy_k rfl rfl ?_ | (refine gO ?_; first | refine sy_ov (ov_p rfl) rfl rfl ?_ | (refine gS ?_; refine sy_store 0 rfl rfl rfl rfl rfl rfl rfl rfl ?_) | (refine sy_ov (ov_indexAddr rfl rfl ?_ ?_) rfl rfl ?_; omega; omega) | (refine sy_alloc rfl rfl rfl ?_; intro _)))
    refine sy_ov (ov_elem (f := stpV) hat hx rfl rfl (fun _ => rfl)) rfl rfl ?_
    repeat (first | refine sy_k rfl rfl ?_ | (refine gO ?_; first | (refine gL ?_; first | refine sy_ov (ov_ld 0 rfl rfl rfl) rfl rfl ?_ | refine sy_ov (ov_ld 1 rfl rfl rfl) rfl rfl ?_) | (refine gS ?_; refine sy_store 0 rfl rfl rfl rfl rfl rfl rfl rfl ?_) | (refine sy_alloc rfl rfl rfl ?_; intro _)))
    refine sy_ov (ov_nest (xs := stpV (k, m, s)) (ys := stpV (k, m, s)) rfl rfl rfl rfl) rfl rfl ?_
    rw [eqL_self]
    repeat (first | refine sy_k rfl rfl ?_ | (refine gO ?_; first | refine sy_ov (ov_p rfl) rfl rfl ?_ | (refine gG ?_; first | refine sy_guard_undef rfl rfl rfl rfl rfl ?_ | (refine sy_guard_no rfl rfl rfl rfl rfl ?_ ?_; focus (first | with_reducible rfl | assumption | omega | (simp <;> first | omega | assumption)))) | (refine gB ?_; (refine sy_ov (ov_ar rfl rfl rfl ?_ ?_) rfl rfl ?_; omega; omega)) | refine sy_ov (ov_pick rfl rfl rfl) rfl rfl ?_) | (refine sy_cond_f rfl ?_ ?_; focus (first | with_reducible rfl | assumption | omega | (simp <;> first | omega | assumption))))
    refine sy_back (i + 1) ⟨by omega, by omega⟩ (by omega) ⟨⟨_, rfl, rfl⟩, ⟨_, rfl, rfl⟩, ⟨_, rfl, rfl⟩, ⟨_, rfl, rfl⟩, trivial⟩ (List.nil_sublist _)
  · repeat (first | refine sy_k rfl rfl ?_ | (refine gO ?_; refine sy_ov (ov_p rfl) rfl rfl ?_) | (refine sy_cond_f rfl ?_ ?_; focus (first | with_reducible rfl | assumption | omega | (simp <;> first | omega | assumption))) | refine sy_rt ?_)
    exact ret1 rfl rfl rfl
set_option maxRecDepth 20000 in
set_option maxHeartbeats 2000000 in
theorem pbegins_t (w : World) (p : Option Addr) (n c : Nat) (l : List StepT) (hl : l.length = n) (hn : n ≤ 4611686018427387000) (hs : IsSl w 3 p n (l.flatMap stpV)) (n' c' : Nat) (hle : n' ≤ n) :
    Calls Try.prog 54 #[.slice p n c, .slice p n' c'] w fun e w' => e = .returned (.bool true) ∧ Below w.heap.size w w' := by
  have hst : St (fun _ => False) w (fun w => IsSl w 3 p n (l.flatMap stpV)) := St.start (IsSl.bl _ _ _ _) hs
  refine sy_enter rfl rfl ?_
  simp only [initFr]
  repeat (first | refine sy_k rfl rfl ?_ | (refine gO ?_; first | refine sy_ov (ov_p rfl) rfl rfl ?_ | (refine gK ?_; refine sy_ov (ov_lens rfl) rfl rfl ?_)) | (refine sy_cond_f rfl ?_ ?_; focus (first | with_reducible rfl | assumption | omega | (simp <;> first | omega | assumption))))
  refine sy_loop (α := Int) (fun i => [(0, .slice p n c), (12, .slice p n' c'), (13, .int .i64 (n' : Int)), (14, .int .i64 i)]) (fun _ => []) (fun i => 0 ≤ i ∧ i ≤ n') (fun i => (n' - i).toNat) 0 ⟨by omega, by omega⟩ ⟨⟨_, rfl, rfl⟩, ⟨_, rfl, rfl⟩, ⟨_, rfl, rfl⟩, ⟨_, rfl, rfl⟩, trivial⟩ (List.nil_sublist _) ?_
  rintro i ⟨i0, i1⟩
  by_cases hlt : i < n'
  · obtain ⟨k, m, s, hx⟩ := steps_get l i n hl i0 (by omega)
    obtain ⟨b, off, hp, hat⟩ := hst.addr (by omega)
    subst hp
    repeat (first | refine sy_k rfl rfl ?_ | (refine gO ?_; first | refine sy_ov (ov_p rfl) rfl rfl ?_ | (refine sy_ov (ov_indexAddr rfl rfl ?_ ?_) rfl rfl ?_; omega; omega)) | (refine sy_cond_t rfl ?_ ?_; focus (first | with_reducible rfl | assumption | omega | (simp <;> first | omega | assumption))))
    refine sy_ov (ov_elem (f := stpV) hat hx rfl rfl (fun _ => rfl)) rfl rfl ?_
    repeat (first | refine sy_k rfl rfl ?_ | (refine gO ?_; first | refine sy_ov (ov_p rfl) rfl rfl ?_ | (refine gS ?_; refine sy_store 0 rfl rfl rfl rfl rfl rfl rfl rfl ?_) | (refine sy_alloc rfl rfl rfl ?_; intro _)))
    refine sy_draw 5 (by kernel_rfl) ?_
    repeat (first | refine dr_op (ov_p rfl) rfl rfl ?_ | (refine dr_op (ov_indexAddr rfl rfl ?_ ?_) rfl rfl ?_; omega; omega))
    refine dr_op (ov_elem (f := stpV) hat hx rfl rfl (fun _ => rfl)) rfl rfl ?_
    repeat (first | refine dr_op (ov_ld 0 rfl rfl rfl) rfl rfl ?_ | refine dr_end ?_)
    skip
    refine sy_ov (ov_nest (xs := stpV (k, m, s)) (ys := stpV (k, m, s)) rfl rfl rfl rfl) rfl rfl ?_
    rw [eqL_self]
    repeat (first | refine sy_k rfl rfl ?_ | (refine gO ?_; first | refine sy_ov (ov_p rfl) rfl rfl ?_ | (refine gB ?_; (refine sy_ov (ov_ar rfl rfl rfl ?_ ?_) rfl rfl ?_; omega; omega))) | (refine sy_cond_f rfl ?_ ?_; focus (first | with_reducible rfl | assumption | omega | (simp <;> first | omega | assumption))))
    refine sy_back (i + 1) ⟨by omega, by omega⟩ (by omega) ⟨⟨_, rfl, rfl⟩, ⟨_, rfl, rfl⟩, ⟨_, rfl, rfl⟩, ⟨_, rfl, rfl⟩, trivial⟩ (List.nil_sublist _)
  · repeat (first | refine sy_k rfl rfl ?_ | (refine gO ?_; refine sy_ov (ov_p rfl) rfl rfl ?_) | (refine sy_cond_f rfl ?_ ?_; focus (first | with_reducible rfl | assumption | omega | (simp <;> first | omega | assumption))) | refine sy_rt ?_)
    exact ret1 rfl rfl rfl
theorem St.le {C C' : Cx} {R : World → Prop} (h : St C.D C.w0 R) (hC : CxLe C C') : St C'.D C'.w0 R := fun w hk => h w (hC.keep w hk)
set_option maxRecDepth 20000 in
set_option maxHeartbeats 2000000 in
theorem pcompare_t (w : World) (p : Option Addr) (n c : Nat) (l : List StepT) (hl : l.length = n) (hn : n ≤ 4611686018427387000) (hs : IsSl w 3 p n (l.flatMap stpV)) (p' : Option Addr) (c' : Nat) (hs' : IsSl w 3 p' n (l.flatMap stpV)) :
    Calls Try.prog 53 #[.slice p n c, .slice p' n c'] w fun e w' => e = .returned (.int .i64 0) ∧ Below w.heap.size w w' := by
  have hst : St (fun _ => False) w (fun w => IsSl w 3 p n (l.flatMap stpV)) := St.start (IsSl.bl _ _ _ _) hs
  have hst' : St (fun _ => False) w (fun w => IsSl w 3 p' n (l.flatMap stpV)) := St.start (IsSl.bl _ _ _ _) hs'
  refine sy_enter rfl rfl ?_
  simp only [initFr]
  repeat (first | refine sy_k rfl rfl ?_ | (refine gO ?_; refine sy_ov (ov_p rfl) rfl rfl ?_))
  refine sy_loop (α := Int) (fun i => [(0, .slice p n c), (1, .slice p' n c'), (5, .int .i64 i)]) (fun _ => []) (fun i => 0 ≤ i ∧ i ≤ n) (fun i => (n - i).toNat) 0 ⟨by omega, by omega⟩ ⟨⟨_, rfl, rfl⟩, ⟨_, rfl, rfl⟩, ⟨_, rfl, rfl⟩, trivial⟩ (List.nil_sublist _) ?_
  rintro i ⟨i0, i1⟩
  by_cases hlt : i < n
  · obtain ⟨k, m, s, hx⟩ := steps_get l i n hl i0 hlt
    obtain ⟨b, off, hp, hat⟩ := hst.addr (by omega)
    obtain ⟨b', off', hp', hat'⟩ := hst'.addr (by omega)
    subst hp
    subst hp'
    repeat (first | refine sy_k rfl rfl ?_ | (refine gO ?_; first | refine sy_ov (ov_p rfl) rfl rfl ?_ | (refine gG ?_; (refine sy_guard_yes rfl rfl rfl rfl rfl ?_ ?_; focus (first | with_reducible rfl | assumption | omega | (simp <;> first | omega | assumption)))) | (refine gK ?_; refine sy_ov (ov_lens rfl) rfl rfl ?_) | (refine sy_ov (ov_pick_t rfl rfl ?_) rfl rfl ?_; focus (with_reducible rfl))) | (refine sy_cond_t rfl ?_ ?_; focus (first | with_reducible rfl | assumption | omega | (simp <;> first | omega | assumption))))
    refine sy_two 8 9 (by kernel_rfl) ?_ ?_
    · refine any_drawE _ 11 [(0, false), (1, false), (2, false), (3, false), (4, false), (5, false), (6, false), (7, false), (8, true), (9, true), (10, true)] (by kernel_rfl) rfl (List.nil_sublist _) ?_
      repeat (first | refine dre_rd (fun _ _ => ov_p rfl) rfl ?_ | (refine dre_rd (fun _ _ => ov_indexAddr rfl rfl ?_ ?_) rfl ?_; omega; omega))
      refine dre_rd (fun _ hC => ov_elem (f := stpV) (hat.le hC) hx rfl rfl (fun _ => rfl)) rfl ?_
      repeat (first | refine dre_rd (fun _ _ => ov_p rfl) rfl ?_ | (refine dre_rd (fun _ _ => ov_indexAddr rfl rfl ?_ ?_) rfl ?_; omega; omega))
      refine dre_rd (fun _ hC => ov_elem (f := stpV) (hat'.le hC) hx rfl rfl (fun _ => rfl)) rfl ?_
      refine dre_ef rfl ?_
      refine sy_alloc rfl rfl rfl ?_
      intro _
      refine dre_ek (List.nil_sublist _) ?_
      refine dre_ef rfl ?_
      refine sy_alloc rfl rfl rfl ?_
      intro _
      refine dre_ek (List.nil_sublist _) ?_
      repeat (first | (refine dre_ef rfl ?_; refine sy_store 1 rfl rfl rfl rfl rfl rfl rfl rfl ?_; refine dre_ek (by first | exact sr | exact sk sr | (repeat first | exact sr | apply sk | apply sd)) ?_) | refine dre_end ?_)
      simp only [addE, edged]
      repeat (first | refine sy_k rfl rfl ?_ | (refine gO ?_; first | (refine gL ?_; first | refine sy_ov (ov_ld 0 rfl rfl rfl) rfl rfl ?_ | refine sy_ov (ov_ld 1 rfl rfl rfl) rfl rfl ?_) | (refine gS ?_; refine sy_store 0 rfl rfl rfl rfl rfl rfl rfl rfl ?_)))
      refine sy_ov (ov_eqst (xs := stpV (k, m, s)) (ys := stpV (k, m, s)) rfl rfl rfl rfl) rfl rfl ?_
      rw [eqL_self]
      repeat (first | refine sy_k rfl rfl ?_ | (refine gO ?_; first | refine sy_ov (ov_p rfl) rfl rfl ?_ | (refine gB ?_; (refine sy_ov (ov_ar rfl rfl rfl ?_ ?_) rfl rfl ?_; omega; omega))) | (refine sy_cond_t rfl ?_ ?_; focus (first | with_reducible rfl | assumption | omega | (simp <;> first | omega | assumption))))
      refine sy_back (i + 1) ⟨by omega, by omega⟩ (by omega) ⟨⟨_, rfl, rfl⟩, ⟨_, rfl, rfl⟩, ⟨_, rfl, rfl⟩, trivial⟩ (List.nil_sublist _)
    · refine any_drawE _ 11 [(0, false), (1, false), (2, false), (3, false), (4, false), (5, false), (6, false), (7, false), (9, true), (8, true), (10, true)] (by kernel_rfl) rfl (List.nil_sublist _) ?_
      repeat (first | refine dre_rd (fun _ _ => ov_p rfl) rfl ?_ | (refine dre_rd (fun _ _ => ov_indexAddr rfl rfl ?_ ?_) rfl ?_; omega; omega))
      refine dre_rd (fun _ hC => ov_elem (f := stpV) (hat.le hC) hx rfl rfl (fun _ => rfl)) rfl ?_
      repeat (first | refine dre_rd (fun _ _ => ov_p rfl) rfl ?_ | (refine dre_rd (fun _ _ => ov_indexAddr rfl rfl ?_ ?_) rfl ?_; omega; omega))
      refine dre_rd (fun _ hC => ov_elem (f := stpV) (hat'.le hC) hx rfl rfl (fun _ => rfl)) rfl ?_
      refine dre_ef rfl ?_
      refine sy_alloc rfl rfl rfl ?_
      intro _
      refine dre_ek (List.nil_sublist _) ?_
      refine dre_ef rfl ?_
      refine sy_alloc rfl rfl rfl ?_
      intro _
      refine dre_ek (List.nil_sublist _) ?_
      repeat (first | (refine dre_ef rfl ?_; refine sy_store 0 rfl rfl rfl rfl rfl rfl rfl rfl ?_; refine dre_ek (by first | exact sr | exact sk sr | (repeat first | exact sr | apply sk | apply sd)) ?_) | refine dre_end ?_)
      simp only [addE, edged]
      repeat (first | refine sy_k rfl rfl ?_ | (refine gO ?_; first | (refine gL ?_; first | refine sy_ov (ov_ld 0 rfl rfl rfl) rfl rfl ?_ | refine sy_ov (ov_ld 1 rfl rfl rfl) rfl rfl ?_) | (refine gS ?_; refine sy_store 1 rfl rfl rfl rfl rfl rfl rfl rfl ?_)))
      refine sy_ov (ov_eqst (xs := stpV (k, m, s)) (ys := stpV (k, m, s)) rfl rfl rfl rfl) rfl rfl ?_
      rw [eqL_self]
      repeat (first | refine sy_k rfl rfl ?_ | (refine gO ?_; first | refine sy_ov (ov_p rfl) rfl rfl ?_ | (refine gB ?_; (refine sy_ov (ov_ar rfl rfl rfl ?_ ?_) rfl rfl ?_; omega; omega))) | (refine sy_cond_t rfl ?_ ?_; focus (first | with_reducible rfl | assumption | omega | (simp <;> first | omega | assumption))))
      refine sy_back (i + 1) ⟨by omega, by omega⟩ (by omega) ⟨⟨_, rfl, rfl⟩, ⟨_, rfl, rfl⟩, ⟨_, rfl, rfl⟩, trivial⟩ (List.nil_sublist _)
  · repeat (first | refine sy_k rfl rfl ?_ | (refine gO ?_; first | refine sy_ov (ov_p rfl) rfl rfl ?_ | (refine gG ?_; (refine sy_guard_no rfl rfl rfl rfl rfl ?_ ?_; focus (first | with_reducible rfl | assumption | omega | (simp <;> first | omega | assumption)))) | (refine gK ?_; refine sy_ov (ov_lens rfl) rfl rfl ?_) | refine sy_ov (ov_pick rfl rfl rfl) rfl rfl ?_) | (refine sy_cond_f rfl ?_ ?_; focus (first | with_reducible rfl | assumption | omega | (simp <;> first | omega | assumption))))
    refine sy_ov (ov_call rfl (fun w _ => cmp_c _ w)) rfl rfl ?_
    repeat (first | refine sy_k rfl rfl ?_ | (refine gO ?_; refine sy_ov (ov_p rfl) rfl rfl ?_) | refine sy_rt ?_)
    exact ret1 rfl rfl rfl
end Go.Proofs.Yteddjadeenimkaa
