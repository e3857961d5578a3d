/- The walk of blindfoldlaw29.DocMakes. -/
import Derived.Test.YtldjakeigjngoaaBDO
set_option linter.unusedVariables false
set_option linter.unusedSimpArgs false
namespace Go.Proofs.Ytldjakeigjngoaa
open Go.RowKit Bf
set_option maxRecDepth 20000 in
set_option maxHeartbeats 8000000 in
theorem docMakes_walk (w : World) (s : List UInt8) (n : Int) (p : Option Addr) (c : Nat) (l : List DocA) (hl : l.length ≤ 400000000000) (hs : IsSl w 4 p l.length (l.flatMap docV)) (hk : ∀ x ∈ l, DocJ w x) : Calls Try.prog 4 #[S s, .int .i64 n, .slice p l.length c] w fun e w' => e = .returned (.bool true) ∧ Below w.heap.size w w' := by
  have hst : St (fun _ => False) w (fun w => IsSl w 4 p l.length (l.flatMap docV)) := St.start (IsSl.bl _ _ _ _) hs
  have hstk : ∀ x ∈ l, St (fun _ => False) w (fun w => DocJ w x) := fun x hx => St.start (DocJ.bl _) (hk x hx)
  have hex : ∀ (k n : Int) (s : List UInt8) (w' : World), Keep (fun _ => False) w w' → DocJ w' (.mk k n s p c l) := fun k n s w' hw' => .mk k n s p c l (Nat.le_trans hl (by decide)) (hst w' hw') (fun x hx => hstk x hx w' hw')
  have hm : l.length ≤ 9223372036854775807 := by omega
  have hjk : ∀ x ∈ joinS (.mk 1 0 s none 0 []) l, ∀ w', Keep (fun _ => False) w w' → DocJ w' x := fun x hx w' hw' => by
    rcases joinS_mem _ hx with rfl | hx
    · exact docJ0 _ _ _ _
    · exact hstk x hx w' hw'
  refine sy_enter rfl rfl ?_
  simp only [initFr]
  repeat (first | refine sy_k rfl rfl ?_ | (refine gO ?_; first | refine sy_ov (ov_p rfl) rfl rfl ?_ | refine sy_ov (ov_build rfl rfl rfl) rfl rfl ?_))
  refine sy_callN rfl rfl (fun w hw => great29_c (.mk 5 0 s p c l) w (hex _ _ _ w hw.keep)) ?_
  rintro u es' ⟨g, rfl, rfl⟩
  simp only [List.cons_append, List.nil_append]
  cases g
  · repeat (first | refine sy_k rfl rfl ?_ | (refine gO ?_; first | refine sy_ov (ov_p rfl) rfl rfl ?_ | (refine gS ?_; refine sy_store 0 rfl rfl rfl rfl rfl rfl rfl rfl ?_) | refine sy_ov (ov_build rfl rfl rfl) rfl rfl ?_ | (refine sy_alloc rfl rfl rfl ?_; intro _)) | (refine sy_cond_f rfl ?_ ?_; focus (first | with_reducible rfl | assumption | omega | (simp <;> first | omega | assumption))))
    rename_i b7 b8
    refine sy_grow 38 4 ?_
    refine sy_loop (α := JoS) (fun x => [(0, S s), (1, .int .i64 n), (2, .slice p l.length c), (7, ptrD b7), (8, ptrD b8), (9, .int .i64 (x.i : Int))])
      (fun x => [vecD x.p x.q x.o, blk b8 38 (docV (.mk 5 0 [] x.p x.q x.o)), blk b7 38 (docV (.mk 1 0 s none 0 []))])
      (fun x => x.i ≤ l.length ∧ x.o = joinS (.mk 1 0 s none 0 []) (l.take x.i)) (fun x => l.length - x.i) ⟨0, none, 0, []⟩ ⟨Nat.zero_le _, rfl⟩ ⟨⟨_, rfl, rfl⟩, ⟨_, rfl, rfl⟩, ⟨_, rfl, rfl⟩, ⟨_, rfl, rfl⟩, ⟨_, rfl, rfl⟩, ⟨_, rfl, rfl⟩, trivial⟩ sr ?_
    rintro ⟨i, op, oq, o⟩ ⟨i1, ho⟩
    dsimp only at i1 ho ⊢
    have hol := joinS_len (.mk 1 0 s none 0 []) (l.take i)
    rw [← ho, List.length_take] at hol
    by_cases hlt : (i : Int) < l.length
    · obtain ⟨x, hx⟩ : ∃ x, l[i]? = some x := ⟨_, List.getElem?_eq_getElem (by omega)⟩
      obtain ⟨bb, off, hp, hat⟩ := hst.addr (by omega)
      subst hp
      have hstep := joinS_step (.mk 1 0 s none 0 []) l i x hx
      rw [← ho] at hstep
      obtain ⟨xk, xn, xs, xp, xc, xkids⟩ := x
      have hx1 : oneAll (docV (.mk xk xn xs xp xc xkids)) = true := rfl
      have hb1 : oneAll (docV (.mk 1 0 s none 0 [])) = true := rfl
      simp only [vecD]
      by_cases h0 : i = 0
      · rw [if_pos h0] at hstep
        have e1 : (o ++ [DocA.mk xk xn xs xp xc xkids]).length = o.length + 1 := by simp
        have e2 : (o ++ [DocA.mk xk xn xs xp xc xkids]).flatMap docV = o.flatMap docV ++ docV (.mk xk xn xs xp xc xkids) := by simp
        repeat (first | refine sy_k rfl rfl ?_ | (refine gO ?_; first | refine sy_ov (ov_p rfl) rfl rfl ?_ | (refine gK ?_; refine sy_ov (ov_lens rfl) rfl rfl ?_)) | (refine sy_cond_t rfl ?_ ?_; focus (first | with_reducible rfl | assumption | omega | (simp <;> first | omega | assumption))) | (refine sy_cond_f rfl ?_ ?_; focus (first | with_reducible rfl | assumption | omega | (simp <;> first | omega | assumption))))
        refine sy_drawE _ 7 [(0, false), (1, false), (2, false), (3, false), (4, false), (5, false), (6, true)] (by kernel_rfl) rfl (sr) ?_
        repeat (first | refine dre_rd (fun _ _ => ov_p rfl) rfl ?_ | refine dre_rd (fun _ _ => ov_ld 1 rfl rfl rfl) rfl ?_ | refine dre_rd (fun _ _ => ov_fieldAddr rfl rfl rfl) rfl ?_ | (refine dre_rd (fun _ _ => ov_indexAddr rfl rfl ?_ ?_) rfl ?_; omega; omega))
        refine dre_rd (fun _ hC => ov_elem (f := docV) (hat.leD hC) hx rfl rfl docV_len) rfl ?_
        refine dre_ef rfl ?_
        refine sy_buildSlice rfl rfl rfl rfl rfl rfl rfl rfl ?_
        intro nb
        refine dre_ek (sd sr) ?_
        repeat (refine dre_end ?_)
        skip
        refine sy_append 1 0 rfl rfl rfl rfl rfl rfl rfl rfl hx1 rfl rfl (by omega) (by show (_ + 1) * 56 ≤ _; omega) ?_
        intro p1 q1
        repeat (first | refine sy_k rfl rfl ?_ | (refine gO ?_; first | refine sy_ov (ov_p rfl) rfl rfl ?_ | (refine gB ?_; (refine sy_ov (ov_ar rfl rfl rfl ?_ ?_) rfl rfl ?_; omega; omega)) | (refine gS ?_; refine sy_store 2 rfl rfl rfl rfl rfl rfl rfl rfl ?_) | refine sy_ov (ov_fieldAddr rfl rfl rfl) rfl rfl ?_))
        refine sy_back ⟨i + 1, some p1, q1, o ++ [.mk xk xn xs xp xc xkids]⟩ ⟨by dsimp only; omega, hstep.symm⟩ (by dsimp only; omega) ⟨⟨_, rfl, rfl⟩, ⟨_, rfl, rfl⟩, ⟨_, rfl, rfl⟩, ⟨_, rfl, rfl⟩, ⟨_, rfl, rfl⟩, ⟨_, rfl, by dsimp only; congr 1⟩, trivial⟩ (by simp only [vecD, docV, e1, e2]; exact sd sr)
      · rw [if_neg h0] at hstep
        have e1 : (o ++ [DocA.mk 1 0 s none 0 [], DocA.mk xk xn xs xp xc xkids]).length = o.length + 1 + 1 := by simp
        have e2 : (o ++ [DocA.mk 1 0 s none 0 [], DocA.mk xk xn xs xp xc xkids]).flatMap docV = o.flatMap docV ++ docV (.mk 1 0 s none 0 []) ++ docV (.mk xk xn xs xp xc xkids) := by simp
        repeat (first | refine sy_k rfl rfl ?_ | (refine gO ?_; first | refine sy_ov (ov_p rfl) rfl rfl ?_ | (refine gK ?_; refine sy_ov (ov_lens rfl) rfl rfl ?_) | (refine gL ?_; first | refine sy_ov (ov_ld 1 rfl rfl rfl) rfl rfl ?_ | refine sy_ov (ov_ld 2 rfl rfl rfl) rfl rfl ?_) | refine sy_ov (ov_fieldAddr rfl rfl rfl) rfl rfl ?_) | (refine sy_cond_t rfl ?_ ?_; focus (first | with_reducible rfl | assumption | omega | (simp <;> first | omega | assumption))))
        refine sy_buildSlice rfl rfl rfl rfl rfl rfl rfl rfl ?_
        intro nb
        refine sy_append 1 0 rfl rfl rfl rfl rfl rfl rfl rfl hb1 rfl rfl (by omega) (by show (_ + 1) * 56 ≤ _; omega) ?_
        intro p1 q1
        repeat (first | refine sy_k rfl rfl ?_ | (refine gO ?_; first | (refine gS ?_; refine sy_store 2 rfl rfl rfl rfl rfl rfl rfl rfl ?_) | refine sy_ov (ov_fieldAddr rfl rfl rfl) rfl rfl ?_))
        refine sy_weaken (fun _ _ h => h) (sd sr) ?_
        refine sy_drawE _ 7 [(0, false), (1, false), (2, false), (3, false), (4, false), (5, false), (6, true)] (by kernel_rfl) rfl (sr) ?_
        repeat (first | refine dre_rd (fun _ _ => ov_p rfl) rfl ?_ | refine dre_rd (fun _ _ => ov_ld 1 rfl rfl rfl) rfl ?_ | refine dre_rd (fun _ _ => ov_fieldAddr rfl rfl rfl) rfl ?_ | (refine dre_rd (fun _ _ => ov_indexAddr rfl rfl ?_ ?_) rfl ?_; omega; omega))
        refine dre_rd (fun _ hC => ov_elem (f := docV) (hat.leD hC) hx rfl rfl docV_len) rfl ?_
        refine dre_ef rfl ?_
        refine sy_buildSlice rfl rfl rfl rfl rfl rfl rfl rfl ?_
        intro nb2
        refine dre_ek (sd sr) ?_
        repeat (refine dre_end ?_)
        skip
        refine sy_append 1 0 rfl rfl rfl rfl rfl rfl rfl rfl hx1 rfl rfl (by omega) (by show (_ + 1) * 56 ≤ _; omega) ?_
        intro p2 q2
        repeat (first | refine sy_k rfl rfl ?_ | (refine gO ?_; first | refine sy_ov (ov_p rfl) rfl rfl ?_ | (refine gB ?_; (refine sy_ov (ov_ar rfl rfl rfl ?_ ?_) rfl rfl ?_; omega; omega)) | (refine gS ?_; refine sy_store 2 rfl rfl rfl rfl rfl rfl rfl rfl ?_) | refine sy_ov (ov_fieldAddr rfl rfl rfl) rfl rfl ?_))
        refine sy_back ⟨i + 1, some p2, q2, o ++ [.mk 1 0 s none 0 [], .mk xk xn xs xp xc xkids]⟩ ⟨by dsimp only; omega, hstep.symm⟩ (by dsimp only; omega) ⟨⟨_, rfl, rfl⟩, ⟨_, rfl, rfl⟩, ⟨_, rfl, rfl⟩, ⟨_, rfl, rfl⟩, ⟨_, rfl, rfl⟩, ⟨_, rfl, by dsimp only; congr 1⟩, trivial⟩ (by simp only [vecD, docV, e1, e2]; exact sd sr)
    · have hall : o = joinS (.mk 1 0 s none 0 []) l := by rw [ho, List.take_of_length_le (by omega)]
      repeat (first | refine sy_k rfl rfl ?_ | (refine gO ?_; first | refine sy_ov (ov_p rfl) rfl rfl ?_ | (refine gK ?_; refine sy_ov (ov_lens rfl) rfl rfl ?_)) | (refine sy_cond_f rfl ?_ ?_; focus (first | with_reducible rfl | assumption | omega | (simp <;> first | omega | assumption))))
      refine sy_draw 20 (by kernel_rfl) ?_
      repeat (refine dr_op (ov_p rfl) rfl rfl ?_)
      refine dr_op (ov_call rfl (fun w _ => text29_c s w)) rfl rfl ?_
      repeat (refine dr_op (ov_ld 2 rfl rfl rfl) rfl rfl ?_)
      refine dr_op (ov_call rfl (fun w _ => same29_c _ (.mk 1 0 s none 0 []) (Nat.le_refl _) (.mk 1 0 s none 0 []) w rfl (docJ0 w _ _ _) (docJ0 w _ _ _))) rfl rfl ?_
      repeat (refine dr_op (ov_p rfl) rfl rfl ?_)
      refine dr_yes rfl rfl rfl rfl ?_ (ov_call rfl (fun w hw => line29_c w)) rfl ?_
      focus (first | with_reducible rfl | (simp <;> first | omega | assumption))
      repeat ((refine dr_yes rfl rfl rfl rfl ?_ (ov_build rfl rfl rfl) rfl ?_; focus (first | with_reducible rfl | assumption | omega | (simp <;> first | omega | assumption))))
      refine dr_yes rfl rfl rfl rfl ?_ (ov_call rfl (fun w hw => same29_c _ (.mk 2 0 [] none 0 []) (Nat.le_refl _) (.mk 2 0 [] none 0 []) w rfl (docJ0 w _ _ _) (docJ0 w _ _ _))) rfl ?_
      focus (first | with_reducible rfl | (simp <;> first | omega | assumption))
      repeat (first | (refine dr_op (ov_pick_f rfl rfl ?_) rfl rfl ?_; focus (first | with_reducible rfl | assumption | omega | (simp <;> first | omega | assumption))) | refine dr_op (ov_p rfl) rfl rfl ?_ | (refine dr_yes rfl rfl rfl rfl ?_ (ov_p rfl) rfl ?_; focus (first | with_reducible rfl | assumption | omega | (simp <;> first | omega | assumption))))
      refine dr_yes rfl rfl rfl rfl ?_ (ov_call rfl (fun w hw => soft29_c w)) rfl ?_
      focus (first | with_reducible rfl | (simp <;> first | omega | assumption))
      repeat ((refine dr_yes rfl rfl rfl rfl ?_ (ov_build rfl rfl rfl) rfl ?_; focus (first | with_reducible rfl | assumption | omega | (simp <;> first | omega | assumption))))
      refine dr_yes rfl rfl rfl rfl ?_ (ov_call rfl (fun w hw => same29_c _ (.mk 3 0 [] none 0 []) (Nat.le_refl _) (.mk 3 0 [] none 0 []) w rfl (docJ0 w _ _ _) (docJ0 w _ _ _))) rfl ?_
      focus (first | with_reducible rfl | (simp <;> first | omega | assumption))
      repeat (first | (refine dr_op (ov_pick_f rfl rfl ?_) rfl rfl ?_; focus (first | with_reducible rfl | assumption | omega | (simp <;> first | omega | assumption))) | refine dr_op (ov_p rfl) rfl rfl ?_ | (refine dr_yes rfl rfl rfl rfl ?_ (ov_p rfl) rfl ?_; focus (first | with_reducible rfl | assumption | omega | (simp <;> first | omega | assumption))))
      refine dr_yes rfl rfl rfl rfl ?_ (ov_call rfl (fun w hw => hard29_c w)) rfl ?_
      focus (first | with_reducible rfl | (simp <;> first | omega | assumption))
      repeat (first | refine dr_end ?_ | (refine dr_yes rfl rfl rfl rfl ?_ (ov_build rfl rfl rfl) rfl ?_; focus (first | with_reducible rfl | assumption | omega | (simp <;> first | omega | assumption))))
      simp only [List.drop_succ_cons, List.drop_zero]
      repeat ((refine gO ?_; (refine gG ?_; (refine sy_guard_yes rfl rfl rfl rfl rfl ?_ ?_; focus (first | with_reducible rfl | assumption | omega | (simp <;> first | omega | assumption))))))
      refine sy_ov (ov_call rfl (fun w _ => same29_c _ (.mk 4 0 [] none 0 []) (Nat.le_refl _) (.mk 4 0 [] none 0 []) w rfl (docJ0 w _ _ _) (docJ0 w _ _ _))) rfl rfl ?_
      repeat (first | refine sy_k rfl rfl ?_ | (refine gO ?_; first | refine sy_ov (ov_p rfl) rfl rfl ?_ | (refine gG ?_; (refine sy_guard_yes rfl rfl rfl rfl rfl ?_ ?_; focus (first | with_reducible rfl | assumption | omega | (simp <;> first | omega | assumption)))) | (refine sy_ov (ov_pick_f rfl rfl ?_) rfl rfl ?_; focus (with_reducible rfl))) | (refine sy_cond_f rfl ?_ ?_; focus (first | with_reducible rfl | assumption | omega | (simp <;> first | omega | assumption))))
      refine sy_drawE _ 27 [(0, false), (2, false), (3, false), (1, true), (4, true), (5, false), (6, false), (7, false), (9, false), (10, false), (11, false), (8, true), (12, true), (13, false), (14, false), (15, false), (17, false), (18, false), (16, true), (19, true), (20, false), (21, false), (22, false), (24, false), (26, false), (23, false), (25, true)] (by kernel_rfl) rfl (sr) ?_
      repeat (first | refine dre_rd (fun _ _ => ov_p rfl) rfl ?_ | refine dre_rd (fun _ _ => ov_build rfl rfl rfl) rfl ?_)
      refine dre_ef rfl ?_
      refine sy_callN rfl rfl (fun w hw => cat29_c l p c (by omega) w (hst.at hw)) ?_
      rintro u es' ⟨p1, q1, rfl, rfl⟩
      simp only [List.cons_append, List.nil_append]
      refine dre_ek (sd sr) ?_
      refine dre_ef rfl ?_
      refine sy_ov (ov_call rfl (fun w hw => same29_c _ (.mk 5 0 [] p1 q1 l) (Nat.le_refl _) (.mk 5 0 [] p c l) w rfl (docJ_vec hw (i := 0) rfl 5 0 [] (by omega) (fun x hx => (hstk x hx).at hw)) (hex _ _ _ w hw.keep))) rfl rfl ?_
      refine dre_ek (sd sr) ?_
      repeat (first | refine dre_rd (fun _ _ => ov_p rfl) rfl ?_ | (refine dre_yes rfl rfl rfl rfl ?_ (fun _ _ => ov_p rfl) ?_; focus (first | with_reducible rfl | assumption | omega | (simp <;> first | omega | assumption))) | (refine dre_yes rfl rfl rfl rfl ?_ (fun _ _ => ov_build rfl rfl rfl) ?_; focus (first | with_reducible rfl | assumption | omega | (simp <;> first | omega | assumption))))
      refine dre_efy rfl rfl rfl rfl ?_ rfl ?_
      focus (first | with_reducible rfl | (simp <;> first | omega | assumption))
      refine sy_callN rfl rfl (fun w hw => nest29_c n l p c (by omega) w (hst.at hw)) ?_
      rintro u es' ⟨p2, q2, rfl, rfl⟩
      simp only [List.cons_append, List.nil_append]
      refine dre_ek (sd (sd sr)) ?_
      refine dre_efy rfl rfl rfl rfl ?_ rfl ?_
      focus (first | with_reducible rfl | (simp <;> first | omega | assumption))
      refine sy_ov (ov_call rfl (fun w hw => same29_c _ (.mk 6 n [] p2 q2 l) (Nat.le_refl _) (.mk 6 n [] p c l) w rfl (docJ_vec hw (i := 0) rfl 6 n [] (by omega) (fun x hx => (hstk x hx).at hw)) (hex _ _ _ w hw.keep))) rfl rfl ?_
      refine dre_ek (sd (sd sr)) ?_
      repeat (first | (refine dre_rd (fun _ _ => ov_pick_t rfl rfl ?_) rfl ?_; focus (first | with_reducible rfl | assumption | omega | (simp <;> first | omega | assumption))) | refine dre_rd (fun _ _ => ov_p rfl) rfl ?_ | (refine dre_yes rfl rfl rfl rfl ?_ (fun _ _ => ov_p rfl) ?_; focus (first | with_reducible rfl | assumption | omega | (simp <;> first | omega | assumption))) | (refine dre_yes rfl rfl rfl rfl ?_ (fun _ _ => ov_build rfl rfl rfl) ?_; focus (first | with_reducible rfl | assumption | omega | (simp <;> first | omega | assumption))))
      refine dre_efy rfl rfl rfl rfl ?_ rfl ?_
      focus (first | with_reducible rfl | (simp <;> first | omega | assumption))
      refine sy_callN rfl rfl (fun w hw => group29_c l p c (by omega) w (hst.at hw)) ?_
      rintro u es' ⟨p3, q3, rfl, rfl⟩
      simp only [List.cons_append, List.nil_append]
      refine dre_ek (sd (sd (sd sr))) ?_
      refine dre_efy rfl rfl rfl rfl ?_ rfl ?_
      focus (first | with_reducible rfl | (simp <;> first | omega | assumption))
      refine sy_ov (ov_call rfl (fun w hw => same29_c _ (.mk 7 0 [] p3 q3 l) (Nat.le_refl _) (.mk 7 0 [] p c l) w rfl (docJ_vec hw (i := 0) rfl 7 0 [] (by omega) (fun x hx => (hstk x hx).at hw)) (hex _ _ _ w hw.keep))) rfl rfl ?_
      refine dre_ek (sd (sd (sd sr))) ?_
      repeat (first | (refine dre_rd (fun _ _ => ov_pick_t rfl rfl ?_) rfl ?_; focus (first | with_reducible rfl | assumption | omega | (simp <;> first | omega | assumption))) | refine dre_rd (fun _ _ => ov_p rfl) rfl ?_ | (refine dre_yes rfl rfl rfl rfl ?_ (fun _ _ => ov_p rfl) ?_; focus (first | with_reducible rfl | assumption | omega | (simp <;> first | omega | assumption))) | (refine dre_yes rfl rfl rfl rfl ?_ (fun _ _ => ov_ld 1 rfl rfl rfl) ?_; focus (first | with_reducible rfl | assumption | omega | (simp <;> first | omega | assumption))))
      refine dre_yes rfl rfl rfl rfl ?_ (fun _ _ => ov_call rfl (fun w hw => text29_c s w)) ?_
      focus (first | with_reducible rfl | (simp <;> first | omega | assumption))
      refine dre_efy rfl rfl rfl rfl ?_ rfl ?_
      focus (first | with_reducible rfl | (simp <;> first | omega | assumption))
      refine sy_callN rfl rfl (fun w hw => join29_c (.mk 1 0 s none 0 []) l p c hl w (hst.at hw)) ?_
      rintro u es' ⟨p4, q4, rfl, rfl⟩
      simp only [List.cons_append, List.nil_append]
      refine dre_ek (sd (sd (sd (sd sr)))) ?_
      repeat (refine dre_end ?_)
      simp only [List.drop_succ_cons, List.drop_zero]
      repeat ((refine gO ?_; (refine gG ?_; (refine sy_guard_yes rfl rfl rfl rfl rfl ?_ ?_; focus (first | with_reducible rfl | assumption | omega | (simp <;> first | omega | assumption))))))
      refine sy_ov (ov_call rfl (fun w hw => same29_c _ (.mk 5 0 [] p4 q4 (joinS (.mk 1 0 s none 0 []) l)) (Nat.le_refl _) (.mk 5 0 [] op oq o) w (by rw [hall]; rfl) (docJ_vec hw (i := 0) rfl 5 0 [] (by rw [← hall]; omega) (fun x hx => hjk x hx w hw.keep)) (docJ_vec hw (i := 4) rfl 5 0 [] (by omega) (fun x hx => hjk x (by rw [← hall]; exact hx) w hw.keep)))) rfl rfl ?_
      repeat ((refine gO ?_; first | refine sy_ov (ov_p rfl) rfl rfl ?_ | (refine gG ?_; (refine sy_guard_yes rfl rfl rfl rfl rfl ?_ ?_; focus (first | with_reducible rfl | assumption | omega | (simp <;> first | omega | assumption)))) | (refine sy_ov (ov_pick_t rfl rfl ?_) rfl rfl ?_; focus (with_reducible rfl))))
      refine sy_ov (ov_call rfl (fun w _ => lives29_c w)) rfl rfl ?_
      repeat (first | refine sy_k rfl rfl ?_ | (refine gO ?_; first | refine sy_ov (ov_p rfl) rfl rfl ?_ | (refine sy_ov (ov_pick_t rfl rfl ?_) rfl rfl ?_; focus (with_reducible rfl))) | refine sy_rt ?_)
      exact ret1 rfl rfl rfl
  · repeat (first | refine sy_k rfl rfl ?_ | (refine sy_cond_t rfl ?_ ?_; focus (first | with_reducible rfl | assumption | omega | (simp <;> first | omega | assumption))))
    refine sy_ov (ov_call rfl (fun w _ => lives29_c w)) rfl rfl ?_
    repeat (first | refine sy_k rfl rfl ?_ | (refine gO ?_; refine sy_ov (ov_p rfl) rfl rfl ?_) | refine sy_rt ?_)
    exact ret1 rfl rfl rfl
end Go.Proofs.Ytldjakeigjngoaa
