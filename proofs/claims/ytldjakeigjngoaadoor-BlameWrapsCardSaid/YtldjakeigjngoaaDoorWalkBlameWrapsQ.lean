/- The walk of blindfoldlaw37.BlameWraps. -/
import Derived.Test.YtldjakeigjngoaaDoorBEB
set_option linter.unusedVariables false
set_option linter.unusedSimpArgs false
namespace Go.Proofs.YtldjakeigjngoaaDoor
open Go.RowKit Bf
instance instKW : KS Tryd.prog 24 [.i .i64, .i .i64] := ⟨by kernel_rfl, by kernel_rfl, by kernel_rfl⟩
theorem eqfW (e a : Int) : eqL [.int .i64 e, .int .i64 a] [.int .i64 e, .int .i64 a] = true := by simp [eqL, eqC]
theorem topV_if (r : Nat) : ∀ l : List (Nat × List UInt8), ∃ t u, topV r l = .iface t u
 | [] => ⟨_, _, rfl⟩
 | _ :: _ => ⟨_, _, rfl⟩
theorem topV_nn (r : Nat) (l : List (Nat × List UInt8)) (w : World) : (binOp .eql 28 (topV r l) .nilIface).run Tryd.prog w = .ok (.bool false) w := by
 cases l with
 | nil => exact eq_nilE r w
 | cons p l => exact eq_nilN p.1 w
theorem sum_le : ∀ (x : List (List UInt8)) (k : Nat), (∀ s ∈ x, s.length ≤ k) → (x.map List.length).sum ≤ x.length * k
 | [], _, _ => by simp
 | s :: x, k, h => by
  have h1 := h s List.mem_cons_self
  have h2 := sum_le x k (fun t ht => h t (List.mem_cons_of_mem _ ht))
  simp only [List.map_cons, List.sum_cons, List.length_cons, Nat.add_mul]; omega
set_option maxRecDepth 20000 in
set_option maxHeartbeats 8000000 in
theorem blameWraps_walk (st e a : Int) (p : Option Addr) (q n : Nat) (x : List (List UInt8)) (ha : -9223372036854775808 ≤ a ∧ a ≤ 9223372036854775807) (hn : n = x.length) (hb : ∀ s ∈ x, s.length ≤ 140737488351232) (w : World) (hs : IsSl w 1 p n (x.flatMap wtV)) (hg : ErrT w) (hmax : n ≤ 9223372036854775807) :
 Calls Tryd.prog 4 #[.int .i64 st, .agg ⟨[.int .i64 e, .int .i64 a]⟩, .slice p n q] w fun y w' => y = .returned (.bool true) ∧ Below w.heap.size w w' := by
 subst hn
 have sg : St (fun _ => False) w ErrT := St.start ErrT.bl hg
 have hst : St (fun _ => False) w (fun w => IsSl w 1 p x.length (x.flatMap wtV)) := St.start (IsSl.bl _ _ _ _) hs
 by_cases h50 : 50 < (x.length : Int)
 · refine sy_enter rfl rfl ?_
   simp only [initFr]
   repeat (first | refine yK ?_ | (refine gO ?_; first | refine yP ?_ | (refine gK ?_; refine sy_ov (ov_lens rfl) rfl rfl ?_) | (refine sy_box rfl rfl rfl ?_; intro _)) | refine yT ?_)
   refine sy_ov (ov_call rfl (fun w _ => lives37_any w)) rfl rfl ?_
   repeat (first | refine yK ?_ | (refine gO ?_; refine yP ?_) | refine sy_rt ?_)
   exact ret1 rfl rfl rfl
 have hl : (x.map List.length).sum ≤ 7036874417561600 := by
  have := sum_le x 140737488351232 hb
  omega
 by_cases h0 : e = 0
 · subst h0
   have h1 := new_nil st a
   have h2 := of_nil
   unfold faultV at h1 h2
   refine sy_enter rfl rfl ?_
   simp only [initFr]
   repeat (first | refine yK ?_ | (refine gO ?_; first | refine yP ?_ | (refine gK ?_; refine sy_ov (ov_lens rfl) rfl rfl ?_) | (refine gL ?_; refine yL 0 ?_) | (refine sy_box rfl rfl rfl ?_; intro _)) | refine yN ?_)
   refine sy_ov (ov_call rfl (fun w _ => h1 w)) rfl rfl ?_
   repeat (first | refine yK ?_ | (refine gO ?_; refine yP ?_))
   rename_i bf
   refine sy_loop (α := Nat) (fun i => [(0, .int .i64 st), (2, .slice p x.length q), (4, pE bf), (7, .nilIface), (8, .int .i64 (i : Int))]) (fun _ => [blk bf 24 [.int .i64 0, .int .i64 a]]) (fun i => i ≤ x.length) (fun i => x.length - i) 0 (Nat.zero_le _) ⟨⟨_, rfl, rfl⟩, ⟨_, rfl, rfl⟩, ⟨_, rfl, rfl⟩, ⟨_, rfl, rfl⟩, ⟨_, rfl, rfl⟩, trivial⟩ (List.Sublist.refl _) ?_
   intro i hi
   by_cases hlt : i < x.length
   · obtain ⟨s, hx⟩ : ∃ s, x[i]? = some s := ⟨_, List.getElem?_eq_getElem hlt⟩
     obtain ⟨b, off, hp, hat⟩ := hst.addr (by omega)
     subst hp
     repeat (first | refine yK ?_ | (refine gO ?_; first | refine yP ?_ | (refine gK ?_; refine sy_ov (ov_lens rfl) rfl rfl ?_) | (refine sy_ov (ov_indexAddr rfl rfl ?_ ?_) rfl rfl ?_; omega; omega)) | refine yT ?_)
     refine sy_ov (ov_cell (f := wtV) (j := 0) (k := 1) hat hx rfl rfl rfl (fun _ => rfl)) rfl rfl ?_
     repeat ((refine gO ?_; refine yP ?_))
     refine sy_ov (ov_call rfl (fun w _ => wrap_nil s w)) rfl rfl ?_
     repeat (first | refine yK ?_ | (refine gO ?_; first | refine yP ?_ | (refine gB ?_; (refine sy_ov (ov_ar rfl rfl rfl ?_ ?_) rfl rfl ?_; omega; omega))))
     refine sy_back (i + 1) (by omega) (by omega) ⟨⟨_, rfl, rfl⟩, ⟨_, rfl, rfl⟩, ⟨_, rfl, rfl⟩, ⟨_, rfl, rfl⟩, ⟨_, rfl, by congr 1⟩, trivial⟩ (List.Sublist.refl _)
   · unfold pE
     repeat (first | refine yK ?_ | (refine gO ?_; first | refine yP ?_ | (refine gK ?_; refine sy_ov (ov_lens rfl) rfl rfl ?_)) | refine yN ?_)
     refine sy_ov (ov_call rfl (fun w _ => h2 w)) rfl rfl ?_
     repeat (first | refine yK ?_ | (refine gO ?_; first | refine yP ?_ | (refine gL ?_; refine yL 1 ?_) | (refine gS ?_; refine yS 0 ?_) | refine yF ?_ | (refine yA ?_; intro _)) | refine yT ?_)
     refine sy_ov (ov_eqNN rfl eq_nn) rfl rfl ?_
     repeat ((refine gO ?_; first | refine yP ?_ | (refine gG ?_; refine yG ?_) | refine yM ?_))
     refine sy_ov (ov_call rfl (fun w _ => lives37_any w)) rfl rfl ?_
     repeat (first | refine yK ?_ | (refine gO ?_; first | refine yP ?_ | refine yM ?_) | refine sy_rt ?_)
     exact ret1 rfl rfl rfl
 · refine sy_enter rfl rfl ?_
   simp only [initFr]
   repeat (first | refine yK ?_ | (refine gO ?_; first | refine yP ?_ | (refine gK ?_; refine sy_ov (ov_lens rfl) rfl rfl ?_) | (refine gL ?_; refine yL 0 ?_) | (refine sy_box rfl rfl rfl ?_; intro _)) | refine yN ?_)
   rename_i bf
   refine sy_callE [] rfl rfl rfl (newE_c st e a h0) ?_
   rintro _ _ ⟨r, rfl, rfl⟩
   simp only [List.cons_append, List.nil_append]
   refine sy_imp (chE st e a r []) (fun b hb => by rcases hb with h | ⟨_, h, _⟩; exact h; cases h) (fun w h => h) ?_
   repeat (first | refine yK ?_ | (refine gO ?_; refine yP ?_))
   refine sy_loop (α := List (Nat × List UInt8)) (fun l => [(0, .int .i64 st), (2, .slice p x.length q), (4, pE bf), (7, topV r l), (8, .int .i64 (l.length : Int))]) (fun l => [chE st e a r l, blk bf 24 [.int .i64 e, .int .i64 a]]) (fun l => l.length ≤ x.length ∧ l.map (·.2) = (x.take l.length).reverse) (fun l => x.length - l.length) [] ⟨Nat.zero_le _, by simp⟩ ⟨⟨_, rfl, rfl⟩, ⟨_, rfl, rfl⟩, ⟨_, rfl, rfl⟩, ⟨_, rfl, rfl⟩, ⟨_, rfl, rfl⟩, trivial⟩ (List.Sublist.refl _) ?_
   rintro l ⟨hi, hm⟩
   by_cases hlt : l.length < x.length
   · obtain ⟨s, hx⟩ : ∃ s, x[l.length]? = some s := ⟨_, List.getElem?_eq_getElem hlt⟩
     obtain ⟨b, off, hp, hat⟩ := hst.addr (by omega)
     subst hp
     unfold pE
     repeat (first | refine yK ?_ | (refine gO ?_; first | refine yP ?_ | (refine gK ?_; refine sy_ov (ov_lens rfl) rfl rfl ?_) | (refine sy_ov (ov_indexAddr rfl rfl ?_ ?_) rfl rfl ?_; omega; omega)) | refine yT ?_)
     refine sy_ov (ov_cell (f := wtV) (j := 0) (k := 1) hat hx rfl rfl rfl (fun _ => rfl)) rfl rfl ?_
     repeat ((refine gO ?_; refine yP ?_))
     refine sy_callE [] rfl rfl rfl (wrap_c s r l) ?_
     rintro _ _ ⟨b2, rfl, rfl⟩
     simp only [List.cons_append, List.nil_append]
     refine sy_join (chE st e a r ((b2, s) :: l)) (fun b hb => ?_) (fun w h1 h2 => ⟨h1, h2⟩) ?_
     · rcases hb with h | ⟨q, hq, h⟩
       · exact .inr (.inl h)
       · rcases List.mem_cons.1 hq with rfl | hq
         · exact .inl h.symm
         · exact .inr (.inr ⟨q, hq, h⟩)
     repeat (first | refine yK ?_ | (refine gO ?_; first | refine yP ?_ | (refine gB ?_; (refine sy_ov (ov_ar rfl rfl rfl ?_ ?_) rfl rfl ?_; omega; omega))))
     refine sy_back ((b2, s) :: l) ⟨by simp; omega, by simp only [List.map_cons, List.length_cons]; rw [take_rev hx, hm]⟩ (by simp; omega) ⟨⟨_, rfl, rfl⟩, ⟨_, rfl, rfl⟩, ⟨_, rfl, rfl⟩, ⟨_, rfl, rfl⟩, ⟨_, rfl, by congr 1⟩, trivial⟩ (List.Sublist.refl _)
   · have he : l.length = x.length := by omega
     have hm : l.map (·.2) = x.reverse := by rw [hm, he, List.take_length]
     obtain ⟨k0, u0, hv⟩ := topV_if r l
     have hN := topV_nn r l
     have hOf := fun w h1 h2 => of_c r l st e a w h1 h2
     have hE3 : (erL st e a).length ≤ 100 := by
      have z1 : (stageB st).data.toList.length ≤ 10 := stageB_size st
      have z2 : (codeB e).data.toList.length ≤ 10 := codeB_size e
      have z3 := putL_len a ha
      have hE : erL st e a = ((((stageB st).data.toList ++ [58, 32]) ++ (codeB e).data.toList) ++ [32, 97, 116, 32]) ++ putL a := by unfold erL errB; rfl
      simp only [hE, List.length_append, List.length_cons, List.length_nil]; omega
     have hW : wrpL l (erL st e a) = wrp2 x.reverse (erL st e a) := by rw [wrp2_of, hm]
     have hz : (wrpL l (erL st e a)).length ≤ 9223372036854775807 := by
      have h1 := sum_take x x.length
      rw [List.take_length] at h1
      rw [hW, wrp2_len]; simp only [List.length_reverse]; omega
     have hSay := fun w h => say_c r st e a ha l w hz h
     have hTx := fun w => rtext_c st e a w ha
     have hHas := fun st2 e2 w h => has_c r l st e a st2 e2 w h
     have hWr := fun w h => rwrapped_c p q x (erL st e a) w (by omega) (by omega) h
     rw [hv] at hOf hSay hHas hN ⊢
     rw [hW] at hSay
     have q1 : sameE st e 0 e = true := by simp [sameE]
     have q2 : sameE st e st e = true := by simp [sameE]
     have q3 : sameE st e 0 0 = false := by simp [sameE, Ne.symm h0]
     have hH1 := hHas 0 e
     have hH2 := hHas st e
     have hH3 := hHas 0 0
     rw [q1] at hH1
     rw [q2] at hH2
     rw [q3] at hH3
     unfold faultV at hOf hTx
     unfold pE
     generalize erL st e a = tx at *
     generalize wrp2 x.reverse tx = ty at *
     clear hHas hm hW hz hv
     repeat (first | refine yK ?_ | (refine gO ?_; first | refine yP ?_ | (refine gK ?_; refine sy_ov (ov_lens rfl) rfl rfl ?_)) | refine yN ?_)
     refine sy_ov (ov_call rfl (fun w hw => hOf w (hw.get (i := 0) rfl).1 (sg.at hw))) rfl rfl ?_
     repeat (first | refine yK ?_ | (refine gO ?_; first | refine yP ?_ | (refine gL ?_; refine yL 2 ?_) | (refine gS ?_; refine yS 0 ?_) | refine yF ?_ | (refine yA ?_; intro _)) | refine yN ?_)
     refine sy_ov (ov_eqN rfl rfl hN) rfl rfl ?_
     repeat (first | refine yK ?_ | refine yN ?_)
     refine sy_draw 36 (by kernel_rfl) ?_
     repeat (first | (refine dr_op (ov_pick_t rfl rfl ?_) rfl rfl ?_; (first | with_reducible rfl | assumption | omega | (simp <;> first | omega | assumption))) | refine dr_op (ov_p rfl) rfl rfl ?_ | (refine dr_yes rfl rfl rfl rfl ?_ (ov_p rfl) rfl ?_; (first | with_reducible rfl | assumption | omega | (simp <;> first | omega | assumption))) | (refine dr_yes rfl rfl rfl rfl ?_ (ov_ld 0 rfl rfl rfl) rfl ?_; (first | with_reducible rfl | assumption | omega | (simp <;> first | omega | assumption))) | (refine dr_yes rfl rfl rfl rfl ?_ (ov_ld 2 rfl rfl rfl) rfl ?_; (first | with_reducible rfl | assumption | omega | (simp <;> first | omega | assumption))))
     refine dr_yes rfl rfl rfl rfl ?_ (ov_eqst (xs := [.int .i64 e, .int .i64 a]) (ys := [.int .i64 e, .int .i64 a]) rfl rfl rfl rfl) rfl ?_
     focus (first | with_reducible rfl | assumption | omega | (simp <;> first | omega | assumption))
     rw [eqfW]
     repeat (first | (refine dr_op (ov_pick_t rfl rfl ?_) rfl rfl ?_; (first | with_reducible rfl | assumption | omega | (simp <;> first | omega | assumption))) | refine dr_op (ov_p rfl) rfl rfl ?_ | (refine dr_yes rfl rfl rfl rfl ?_ (ov_p rfl) rfl ?_; (first | with_reducible rfl | assumption | omega | (simp <;> first | omega | assumption))) | (refine dr_yes rfl rfl rfl rfl ?_ (ov_ld 2 rfl rfl rfl) rfl ?_; (first | with_reducible rfl | assumption | omega | (simp <;> first | omega | assumption))) | (refine dr_yes rfl rfl rfl rfl ?_ (ov_fieldAddr rfl rfl rfl) rfl ?_; (first | with_reducible rfl | assumption | omega | (simp <;> first | omega | assumption))))
     refine dr_yes rfl rfl rfl rfl ?_ (ov_call rfl (fun w hw => hH1 w (hw.get (i := 1) rfl).1)) rfl ?_
     focus (first | with_reducible rfl | assumption | omega | (simp <;> first | omega | assumption))
     repeat (first | (refine dr_op (ov_pick_t rfl rfl ?_) rfl rfl ?_; (first | with_reducible rfl | assumption | omega | (simp <;> first | omega | assumption))) | refine dr_op (ov_p rfl) rfl rfl ?_ | (refine dr_yes rfl rfl rfl rfl ?_ (ov_p rfl) rfl ?_; (first | with_reducible rfl | assumption | omega | (simp <;> first | omega | assumption))) | (refine dr_yes rfl rfl rfl rfl ?_ (ov_ld 2 rfl rfl rfl) rfl ?_; (first | with_reducible rfl | assumption | omega | (simp <;> first | omega | assumption))) | (refine dr_yes rfl rfl rfl rfl ?_ (ov_fieldAddr rfl rfl rfl) rfl ?_; (first | with_reducible rfl | assumption | omega | (simp <;> first | omega | assumption))))
     refine dr_yes rfl rfl rfl rfl ?_ (ov_call rfl (fun w hw => hH2 w (hw.get (i := 1) rfl).1)) rfl ?_
     focus (first | with_reducible rfl | assumption | omega | (simp <;> first | omega | assumption))
     repeat (first | (refine dr_op (ov_pick_t rfl rfl ?_) rfl rfl ?_; (first | with_reducible rfl | assumption | omega | (simp <;> first | omega | assumption))) | refine dr_op (ov_p rfl) rfl rfl ?_ | (refine dr_yes rfl rfl rfl rfl ?_ (ov_p rfl) rfl ?_; (first | with_reducible rfl | assumption | omega | (simp <;> first | omega | assumption))))
     refine dr_yes rfl rfl rfl rfl ?_ (ov_call rfl (fun w hw => hH3 w (hw.get (i := 1) rfl).1)) rfl ?_
     focus (first | with_reducible rfl | assumption | omega | (simp <;> first | omega | assumption))
     repeat (first | (refine dr_op (ov_pick_t rfl rfl ?_) rfl rfl ?_; (first | with_reducible rfl | assumption | omega | (simp <;> first | omega | assumption))) | refine dr_op (ov_p rfl) rfl rfl ?_ | (refine dr_yes rfl rfl rfl rfl ?_ (ov_p rfl) rfl ?_; (first | with_reducible rfl | assumption | omega | (simp <;> first | omega | assumption))))
     refine dr_yes rfl rfl rfl rfl ?_ (ov_call rfl (fun w hw => hSay w (hw.get (i := 1) rfl).1)) rfl ?_
     focus (first | with_reducible rfl | assumption | omega | (simp <;> first | omega | assumption))
     repeat (first | (refine dr_yes rfl rfl rfl rfl ?_ (ov_p rfl) rfl ?_; (first | with_reducible rfl | assumption | omega | (simp <;> first | omega | assumption))) | (refine dr_yes rfl rfl rfl rfl ?_ (ov_ld 2 rfl rfl rfl) rfl ?_; (first | with_reducible rfl | assumption | omega | (simp <;> first | omega | assumption))))
     refine dr_yes rfl rfl rfl rfl ?_ (ov_call rfl (fun w hw => hTx w)) rfl ?_
     focus (first | with_reducible rfl | assumption | omega | (simp <;> first | omega | assumption))
     repeat (refine dr_end ?_)
     repeat ((refine gO ?_; (refine gG ?_; refine yG ?_)))
     refine sy_ov (ov_call rfl (fun w hw => hWr w (hst.at hw))) rfl rfl ?_
     repeat ((refine gO ?_; first | refine yP ?_ | (refine gG ?_; refine yG ?_) | refine yM ?_))
     refine sy_ov (ov_call rfl (fun w _ => lives37_any w)) rfl rfl ?_
     repeat (first | refine yK ?_ | (refine gO ?_; first | refine yP ?_ | refine yM ?_) | refine sy_rt ?_)
     exact ret1 rfl rfl rfl
end Go.Proofs.YtldjakeigjngoaaDoor