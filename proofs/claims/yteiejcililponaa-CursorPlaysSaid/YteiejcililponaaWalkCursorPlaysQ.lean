/- The walk of blindfoldlaw14.CursorPlays. -/
import Derived.Test.YteiejcililponaaDoes2Q
import Derived.Test.YteiejcililponaaBCX
set_option linter.unusedVariables false
set_option linter.unusedSimpArgs false
namespace Go.Proofs.Yteiejcililponaa
open Go.RowKit Bf
theorem St.le {C C' : Cx} {R : World → Prop} (h : St C.D C.w0 R) (hC : CxLe C C') : St C'.D C'.w0 R := fun w hk => h w (hC.keep w hk)
theorem op_get (l : List OpT) (i : Int) (n : Nat) (hl : l.length = n) (h0 : 0 ≤ i) (h1 : i < n) : ∃ x, l[i.toNat]? = some x := by
  have : i.toNat < l.length := by omega
  exact ⟨_, List.getElem?_eq_getElem this⟩
structure CpSt where
  i : Int
  c : CurT
set_option maxRecDepth 20000 in
set_option maxHeartbeats 8000000 in
theorem cursorPlays_walk (w : World) (s : ByteArray) (hs0 : s.size ≤ 140737488351232) (p : Option Addr) (n c : Nat) (l : List OpT) (hl : l.length = n) (hnc : n ≤ c) (hc : c ≤ maxLen) (hs : IsSl w 4 p n (l.flatMap opV)) (ho : ∀ y ∈ l, OpOk y) :
    Calls Try.prog 10 #[.string s, .slice p n c] w fun e w' => e = .returned (.bool true) ∧ Below w.heap.size w w' := by
  obtain ⟨⟨q⟩⟩ := s
  have hq : q.length ≤ 140737488351232 := hs0
  have hst : St (fun _ => False) w (fun w => IsSl w 4 p n (l.flatMap opV)) := St.start (IsSl.bl _ _ _ _) hs
  by_cases h1 : 1000 < q.length
  · refine sy_enter rfl rfl ?_
    simp only [initFr]
    repeat (first | refine sy_k rfl rfl ?_ | (refine gO ?_; first | refine sy_ov (ov_p rfl) rfl rfl ?_ | (refine gG ?_; (refine sy_guard_no rfl rfl rfl rfl rfl ?_ ?_; focus (first | with_reducible rfl | assumption | omega | (simp <;> first | omega | assumption)))) | (refine gK ?_; refine sy_ov (ov_len rfl) rfl rfl ?_) | refine sy_ov (ov_pick rfl rfl rfl) rfl rfl ?_) | (refine sy_cond_t rfl ?_ ?_; focus (first | with_reducible rfl | assumption | omega | (simp <;> first | omega | assumption))))
    refine sy_ov (ov_call rfl (fun w _ => lives14_c w)) rfl rfl ?_
    repeat (first | refine sy_k rfl rfl ?_ | (refine gO ?_; refine sy_ov (ov_p rfl) rfl rfl ?_) | refine sy_rt ?_)
    exact ret1 rfl rfl rfl
  · by_cases h2 : 200 < n
    · refine sy_enter rfl rfl ?_
      simp only [initFr]
      repeat (first | refine sy_k rfl rfl ?_ | (refine gO ?_; first | refine sy_ov (ov_p rfl) rfl rfl ?_ | (refine gG ?_; (refine sy_guard_yes rfl rfl rfl rfl rfl ?_ ?_; focus (first | with_reducible rfl | assumption | omega | (simp <;> first | omega | assumption)))) | (refine gK ?_; first | refine sy_ov (ov_len rfl) rfl rfl ?_ | refine sy_ov (ov_lens rfl) rfl rfl ?_) | (refine sy_ov (ov_pick_f rfl rfl ?_) rfl rfl ?_; focus (with_reducible rfl))) | (refine sy_cond_t rfl ?_ ?_; focus (first | with_reducible rfl | assumption | omega | (simp <;> first | omega | assumption))))
      refine sy_ov (ov_call rfl (fun w _ => lives14_c w)) rfl rfl ?_
      repeat (first | refine sy_k rfl rfl ?_ | (refine gO ?_; refine sy_ov (ov_p rfl) rfl rfl ?_) | refine sy_rt ?_)
      exact ret1 rfl rfl rfl
    · obtain ⟨L, e, a, hL⟩ : ∃ L e a, scanR q = (L, e, a) := ⟨_, _, _, rfl⟩
      have hLn := scanR_count q hL
      refine sy_enter rfl rfl ?_
      simp only [initFr]
      repeat (first | refine sy_k rfl rfl ?_ | (refine gO ?_; first | refine sy_ov (ov_p rfl) rfl rfl ?_ | (refine gG ?_; (refine sy_guard_yes rfl rfl rfl rfl rfl ?_ ?_; focus (first | with_reducible rfl | assumption | omega | (simp <;> first | omega | assumption)))) | (refine gK ?_; first | refine sy_ov (ov_len rfl) rfl rfl ?_ | refine sy_ov (ov_lens rfl) rfl rfl ?_) | (refine sy_ov (ov_pick_f rfl rfl ?_) rfl rfl ?_; focus (with_reducible rfl))) | (refine sy_cond_f rfl ?_ ?_; focus (first | with_reducible rfl | assumption | omega | (simp <;> first | omega | assumption))))
      refine sy_callE [] rfl rfl rfl (cur_new q (by omega)) ?_
      rintro _ _ (⟨hz, b1, p1, q1, rfl, rfl⟩ | ⟨hz, rfl, rfl⟩)
      · rw [hL] at hz ⊢
        dsimp only at hz ⊢
        subst hz
        obtain ⟨hT, ha0⟩ := scanR_toks hL hLn
        subst ha0
        simp only [curE, List.cons_append, List.nil_append]
        repeat (first | refine sy_k rfl rfl ?_ | (refine gO ?_; first | refine sy_ov (ov_p rfl) rfl rfl ?_ | (refine gS ?_; refine sy_store 0 rfl rfl rfl rfl rfl rfl rfl rfl ?_) | (refine sy_alloc rfl rfl rfl ?_; intro _)))
        refine sy_calln rfl rfl (fun w _ => rscan_c q (by omega) w) ?_
        rintro _ _ ⟨p2, q2, rfl, rfl⟩
        rw [hL]
        dsimp only
        refine sy_vecAddr 0 rfl hT.n ?_
        rintro g rfl
        repeat (first | refine sy_k rfl rfl ?_ | (refine gO ?_; first | refine sy_ov (ov_p rfl) rfl rfl ?_ | (refine gL ?_; first | refine sy_ov (ov_ld 0 rfl rfl rfl) rfl rfl ?_ | refine sy_ov (ov_ld 2 rfl rfl rfl) rfl rfl ?_) | (refine gS ?_; refine sy_store 0 rfl rfl rfl rfl rfl rfl rfl rfl ?_) | (refine sy_alloc rfl rfl rfl ?_; intro _)))
        refine sy_ov (ov_nest (xs := [.int .i64 0, .int .i64 0]) (ys := [.int .i64 0, .int .i64 0]) rfl rfl rfl rfl) rfl rfl ?_
        rw [eqf_self]
        repeat ((refine gO ?_; first | refine sy_ov (ov_p rfl) rfl rfl ?_ | (refine gG ?_; (refine sy_guard_yes rfl rfl rfl rfl rfl ?_ ?_; focus (first | with_reducible rfl | assumption | omega | (simp <;> first | omega | assumption))))))
        refine sy_ov (ov_eqnil rfl rfl) rfl rfl ?_
        repeat (first | refine sy_k rfl rfl ?_ | (refine gO ?_; first | refine sy_ov (ov_p rfl) rfl rfl ?_ | (refine gG ?_; (refine sy_guard_yes rfl rfl rfl rfl rfl ?_ ?_; focus (first | with_reducible rfl | assumption | omega | (simp <;> first | omega | assumption)))) | (refine gB ?_; refine sy_ov (ov_neb rfl rfl) rfl rfl ?_) | (refine gL ?_; refine sy_ov (ov_ld 2 rfl rfl rfl) rfl rfl ?_) | (refine gS ?_; refine sy_store 0 rfl rfl rfl rfl rfl rfl rfl rfl ?_) | (refine sy_ov (ov_pick_f rfl rfl ?_) rfl rfl ?_; focus (with_reducible rfl)) | refine sy_ov (ov_fieldAddr rfl rfl rfl) rfl rfl ?_ | refine sy_ov (ov_build rfl rfl rfl) rfl rfl ?_ | (refine sy_alloc rfl rfl rfl ?_; intro _)) | (refine sy_cond_f rfl ?_ ?_; focus (first | with_reducible rfl | assumption | omega | (simp <;> first | omega | assumption))))
        rename_i b9
        refine sy_front 2 rfl rfl ?_
        simp only [List.set_cons_zero, List.set_cons_succ, List.eraseIdx_cons_succ, List.eraseIdx_cons_zero]
        refine sy_front 5 rfl rfl ?_
        simp only [List.set_cons_zero, List.set_cons_succ, List.eraseIdx_cons_succ, List.eraseIdx_cons_zero]
        refine sy_front 5 rfl rfl ?_
        simp only [List.set_cons_zero, List.set_cons_succ, List.eraseIdx_cons_succ, List.eraseIdx_cons_zero]
        refine sy_loop (α := CpSt) (fun x => [(1, .slice p n c), (5, ptr b1), (9, ptr b9), (11, .int .i64 x.i)]) (fun x => curE b1 p1 q1 L x.c ++ [vecE g q2 L, blk b9 79 (refV g q2 L x.c)]) (fun x => CurOk L x.c ∧ 0 ≤ x.i ∧ x.i ≤ n) (fun x => (n - x.i).toNat) ⟨0, ⟨0, 0, 0, 0⟩⟩ ⟨⟨by decide, by have := hT.n; dsimp only; omega, by decide, by decide⟩, by decide, by dsimp only; omega⟩ ⟨⟨_, rfl, rfl⟩, ⟨_, rfl, rfl⟩, ⟨_, rfl, rfl⟩, ⟨_, rfl, rfl⟩, trivial⟩ (sk (sk (sk (sk (sd (sd sr)))))) ?_
        rintro ⟨i, cc⟩ ⟨hI, i0, i1⟩
        dsimp only at hI i0 i1 ⊢
        simp only [curE, List.cons_append, List.nil_append]
        by_cases hlt : i < n
        · obtain ⟨x, hx⟩ := op_get l i n hl i0 hlt
          obtain ⟨bb, off, hp, hat⟩ := hst.addr (by omega)
          subst hp
          have hI' := doesT_ok x hI hT
          repeat (first | refine sy_k rfl rfl ?_ | (refine gO ?_; first | refine sy_ov (ov_p rfl) rfl rfl ?_ | (refine gK ?_; refine sy_ov (ov_lens rfl) rfl rfl ?_)) | (refine sy_cond_t rfl ?_ ?_; focus (first | with_reducible rfl | assumption | omega | (simp <;> first | omega | assumption))))
          refine sy_drawE _ 11 [(0, false), (2, false), (3, false), (4, false), (5, false), (1, true), (6, true), (7, false), (8, false), (9, false), (10, true)] (by kernel_rfl) rfl ((List.nil_sublist _)) ?_
          repeat (first | refine dre_rd (fun _ _ => ov_p rfl) rfl ?_ | (refine dre_rd (fun _ _ => ov_indexAddr rfl rfl ?_ ?_) rfl ?_; omega; omega))
          refine dre_rd (fun _ hC => ov_elem (f := opV) (hat.le hC) hx rfl rfl (fun _ => rfl)) rfl ?_
          refine dre_ef rfl ?_
          refine sy_ov (ov_ld 3 rfl rfl rfl) rfl rfl ?_
          refine dre_ek (List.nil_sublist _) ?_
          refine dre_ef rfl ?_
          refine sy_callE (curE b1 p1 q1 L cc ++ [vecE g q2 L]) rfl rfl rfl (does_c b1 p1 q1 g q2 L cc hT hI x) ?_
          rintro _ _ ⟨rfl, rfl⟩
          simp only [curE, List.cons_append, List.nil_append]
          refine dre_ek (List.nil_sublist _) ?_
          repeat (first | refine dre_rd (fun _ _ => ov_p rfl) rfl ?_ | (refine dre_ef rfl ?_; refine sy_store 3 rfl rfl rfl rfl rfl rfl rfl rfl ?_; refine dre_ek (by first | exact sr | exact sk sr | (repeat first | exact sr | apply sk | apply sd)) ?_) | refine dre_end ?_)
          repeat (first | refine sy_k rfl rfl ?_ | (refine gO ?_; refine sy_ov (ov_p rfl) rfl rfl ?_))
          refine sy_draw 21 (by kernel_rfl) ?_
          repeat (first | refine dr_op (ov_p rfl) rfl rfl ?_ | (refine dr_yes rfl rfl rfl rfl ?_ (ov_p rfl) rfl ?_; focus (first | with_reducible rfl | assumption | omega | (simp <;> first | omega | assumption))))
          refine dr_yes rfl rfl rfl rfl ?_ (ov_callE (curE b1 p1 q1 L (doesT L cc x)) rfl (by repeat first | exact sr | apply sk | apply sd) (cur_peek b1 p1 q1 L (doesT L cc x) hT hI')) rfl ?_
          focus (first | with_reducible rfl | assumption | omega | (simp <;> first | omega | assumption))
          repeat ((refine dr_yes rfl rfl rfl rfl ?_ (ov_ld 3 rfl rfl rfl) rfl ?_; focus (first | with_reducible rfl | assumption | omega | (simp <;> first | omega | assumption))))
          refine dr_yes rfl rfl rfl rfl ?_ (ov_callE [vecE g q2 L] rfl (by repeat first | exact sr | apply sk | apply sd) (rc_peek g q2 L (doesT L cc x) hT hI')) rfl ?_
          focus (first | with_reducible rfl | assumption | omega | (simp <;> first | omega | assumption))
          refine dr_yes rfl rfl rfl rfl ?_ (ov_nest (xs := tokV (peekT L (doesT L cc x))) (ys := tokV (peekT L (doesT L cc x))) rfl rfl rfl rfl) rfl ?_
          focus (first | with_reducible rfl | (simp <;> first | omega | assumption))
          rw [eqL_tok]
          repeat (first | (refine dr_op (ov_pick_f rfl rfl ?_) rfl rfl ?_; focus (first | with_reducible rfl | assumption | omega | (simp <;> first | omega | assumption))) | refine dr_op (ov_p rfl) rfl rfl ?_ | (refine dr_yes rfl rfl rfl rfl ?_ (ov_p rfl) rfl ?_; focus (first | with_reducible rfl | assumption | omega | (simp <;> first | omega | assumption))))
          refine dr_yes rfl rfl rfl rfl ?_ (ov_callE (curE b1 p1 q1 L (doesT L cc x)) rfl (by repeat first | exact sr | apply sk | apply sd) (cur_depth b1 p1 q1 L (doesT L cc x))) rfl ?_
          focus (first | with_reducible rfl | assumption | omega | (simp <;> first | omega | assumption))
          repeat (first | (refine dr_op (ov_pick_f rfl rfl ?_) rfl rfl ?_; focus (first | with_reducible rfl | assumption | omega | (simp <;> first | omega | assumption))) | refine dr_op (ov_p rfl) rfl rfl ?_ | (refine dr_yes rfl rfl rfl rfl ?_ (ov_p rfl) rfl ?_; focus (first | with_reducible rfl | assumption | omega | (simp <;> first | omega | assumption))) | (refine dr_yes rfl rfl rfl rfl ?_ (ov_ld 3 rfl rfl rfl) rfl ?_; focus (first | with_reducible rfl | assumption | omega | (simp <;> first | omega | assumption))) | (refine dr_yes rfl rfl rfl rfl ?_ (ov_fieldAddr rfl rfl rfl) rfl ?_; focus (first | with_reducible rfl | assumption | omega | (simp <;> first | omega | assumption))))
          refine dr_yes rfl rfl rfl rfl ?_ (ov_callE (curE b1 p1 q1 L (doesT L cc x)) rfl (by repeat first | exact sr | apply sk | apply sd) (cur_fault b1 p1 q1 L (doesT L cc x))) rfl ?_
          focus (first | with_reducible rfl | assumption | omega | (simp <;> first | omega | assumption))
          repeat (first | refine dr_end ?_ | (refine dr_yes rfl rfl rfl rfl ?_ (ov_ld 3 rfl rfl rfl) rfl ?_; focus (first | with_reducible rfl | assumption | omega | (simp <;> first | omega | assumption))) | (refine dr_yes rfl rfl rfl rfl ?_ (ov_fieldAddr rfl rfl rfl) rfl ?_; focus (first | with_reducible rfl | assumption | omega | (simp <;> first | omega | assumption))))
          simp only [List.drop_succ_cons, List.drop_zero]
          refine sy_guard_yes rfl rfl rfl rfl rfl ?_ ?_
          focus (first | with_reducible rfl | (simp <;> omega))
          refine sy_ov (ov_nest (xs := [.int .i64 (doesT L cc x).e, .int .i64 (doesT L cc x).a]) (ys := [.int .i64 (doesT L cc x).e, .int .i64 (doesT L cc x).a]) rfl rfl rfl rfl) rfl rfl ?_
          rw [eqf_self]
          refine sy_ov (ov_pick_f rfl rfl ?_) rfl rfl ?_
          focus (simp <;> omega)
          repeat (first | refine sy_k rfl rfl ?_ | (refine gO ?_; first | refine sy_ov (ov_p rfl) rfl rfl ?_ | (refine gB ?_; (refine sy_ov (ov_ar rfl rfl rfl ?_ ?_) rfl rfl ?_; omega; omega))) | (refine sy_cond_f rfl ?_ ?_; focus (first | with_reducible rfl | assumption | omega | (simp <;> first | omega | assumption))))
          refine sy_back ⟨i + 1, doesT L cc x⟩ ⟨hI', by dsimp only; omega, by dsimp only; omega⟩ (by dsimp only; omega) ⟨⟨_, rfl, rfl⟩, ⟨_, rfl, rfl⟩, ⟨_, rfl, rfl⟩, ⟨_, rfl, rfl⟩, trivial⟩ sr
        · repeat (first | refine sy_k rfl rfl ?_ | (refine gO ?_; first | refine sy_ov (ov_p rfl) rfl rfl ?_ | (refine gK ?_; refine sy_ov (ov_lens rfl) rfl rfl ?_)) | (refine sy_cond_f rfl ?_ ?_; focus (first | with_reducible rfl | assumption | omega | (simp <;> first | omega | assumption))))
          refine sy_ov (ov_call rfl (fun w _ => lives14_c w)) rfl rfl ?_
          repeat (first | refine sy_k rfl rfl ?_ | (refine gO ?_; refine sy_ov (ov_p rfl) rfl rfl ?_) | refine sy_rt ?_)
          exact ret1 rfl rfl rfl
      · rw [hL] at hz ⊢
        dsimp only at hz ⊢
        simp only [List.nil_append]
        repeat (first | refine sy_k rfl rfl ?_ | (refine gO ?_; first | refine sy_ov (ov_p rfl) rfl rfl ?_ | (refine gS ?_; refine sy_store 0 rfl rfl rfl rfl rfl rfl rfl rfl ?_) | (refine sy_alloc rfl rfl rfl ?_; intro _)))
        refine sy_calln rfl rfl (fun w _ => rscan_c q (by omega) w) ?_
        rintro _ _ ⟨p2, q2, rfl, rfl⟩
        rw [hL]
        dsimp only
        repeat (first | refine sy_k rfl rfl ?_ | (refine gO ?_; first | refine sy_ov (ov_p rfl) rfl rfl ?_ | (refine gL ?_; first | refine sy_ov (ov_ld 0 rfl rfl rfl) rfl rfl ?_ | refine sy_ov (ov_ld 2 rfl rfl rfl) rfl rfl ?_) | (refine gS ?_; refine sy_store 0 rfl rfl rfl rfl rfl rfl rfl rfl ?_) | (refine sy_alloc rfl rfl rfl ?_; intro _)))
        refine sy_ov (ov_nest (xs := [.int .i64 e, .int .i64 a]) (ys := [.int .i64 e, .int .i64 a]) rfl rfl rfl rfl) rfl rfl ?_
        rw [eqf_self]
        repeat ((refine gO ?_; first | refine sy_ov (ov_p rfl) rfl rfl ?_ | (refine gG ?_; (refine sy_guard_yes rfl rfl rfl rfl rfl ?_ ?_; focus (first | with_reducible rfl | assumption | omega | (simp <;> first | omega | assumption))))))
        refine sy_ov (ov_eqnil rfl rfl) rfl rfl ?_
        repeat (first | refine sy_k rfl rfl ?_ | (refine gO ?_; first | refine sy_ov (ov_p rfl) rfl rfl ?_ | (refine gG ?_; (refine sy_guard_yes rfl rfl rfl rfl rfl ?_ ?_; focus (first | with_reducible rfl | assumption | omega | (simp <;> first | omega | assumption)))) | (refine gB ?_; refine sy_ov (ov_neb rfl rfl) rfl rfl ?_) | (refine gL ?_; refine sy_ov (ov_ld 2 rfl rfl rfl) rfl rfl ?_) | (refine sy_ov (ov_pick_f rfl rfl ?_) rfl rfl ?_; focus (with_reducible rfl)) | refine sy_ov (ov_fieldAddr rfl rfl rfl) rfl rfl ?_) | (refine sy_cond_t rfl ?_ ?_; focus (first | with_reducible rfl | assumption | omega | (simp <;> first | omega | assumption))) | (refine sy_cond_f rfl ?_ ?_; focus (first | with_reducible rfl | assumption | omega | (simp <;> first | omega | assumption))))
        refine sy_ov (ov_call rfl (fun w _ => lives14_c w)) rfl rfl ?_
        repeat (first | refine sy_k rfl rfl ?_ | (refine gO ?_; refine sy_ov (ov_p rfl) rfl rfl ?_) | refine sy_rt ?_)
        exact ret1 rfl rfl rfl
end Go.Proofs.Yteiejcililponaa
