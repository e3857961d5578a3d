/- blindfoldlaw36.OptionsFormats answers true for every input and leaves what it is given as it was: Right, Format, Name and Mode return what the chapter specifies. No condition. -/
/- LawOptionsFormatsQ: texts of this proof, joined by program: WalkOptionsFormats, LawOptionsFormats. -/
import Derived.Test.YteiejcililponaaBOC
import Derived.Test.YteiejcililponaaFactsQ
import Derived.ProofKit
import Derived.OpenShut
import Derived.ShutString
import Derived.ChangeOld
import Derived.Below
import Derived.SizedLaws
/- The walk of blindfoldlaw36.OptionsFormats. -/
set_option linter.unusedVariables false
set_option linter.unusedSimpArgs false
namespace Go.Proofs.Yteiejcililponaa
open Go.RowKit Bf
set_option maxRecDepth 20000 in
set_option maxHeartbeats 4000000 in
theorem rformat36_c (o : OptT) (hb : optB o = true) (w : World) : Calls Try.prog 72 #[.agg ⟨optV o⟩] w fun e w' => e = .returned (S (fmtO o)) ∧ Below w.heap.size w w' := by
  have hl := fmtO_len o hb
  have hob := optB_len hb
  obtain ⟨wd, i, m, ob⟩ := o
  have hb' := hb
  unfold optB widB indB at hb'
  simp only [Bool.and_eq_true, Bool.or_eq_true, decide_eq_true_eq] at hb'
  simp only at hob
  have h1 := putL_len wd (by omega)
  have h2 := putL_len i (by omega)
  have h3 : (modL m).length ≤ 7 := by unfold modL; split <;> (try split) <;> (try split) <;> decide
  have hf : fmtO (wd, i, m, ob) = [119, 105, 100, 116, 104, 61] ++ putL wd ++ [32, 105, 110, 100, 101, 110, 116, 61] ++ putL i ++ [32, 109, 111, 100, 101, 61] ++ modL m ++ tailO ob := by
    unfold fmtO widthL' indentL modeL; simp
  by_cases h4 : ob = []
  · subst h4
    refine sy_enter rfl rfl ?_
    simp only [initFr]
    repeat (first | refine sy_k rfl rfl ?_ | (refine gO ?_; first | refine sy_ov (ov_p rfl) rfl rfl ?_ | (refine sy_box rfl rfl rfl ?_; intro _)))
    refine sy_draw 13 (by kernel_rfl) ?_
    repeat (first | refine dr_op (ov_ld 0 rfl rfl rfl) rfl rfl ?_ | refine dr_op (ov_fieldAddr rfl rfl rfl) rfl rfl ?_)
    refine dr_op (ov_call rfl (fun w _ => rput_c wd _ rfl (by omega) (by omega) w)) rfl rfl ?_
    repeat (first | (refine dr_op (ov_cat rfl rfl ?_) rfl rfl ?_; focus (first | omega | (simp <;> omega))) | refine dr_op (ov_ld 0 rfl rfl rfl) rfl rfl ?_ | refine dr_op (ov_fieldAddr rfl rfl rfl) rfl rfl ?_)
    refine dr_op (ov_call rfl (fun w _ => rput_c i _ rfl (by omega) (by omega) w)) rfl rfl ?_
    repeat (first | (refine dr_op (ov_cat rfl rfl ?_) rfl rfl ?_; focus (first | omega | (simp <;> omega))) | refine dr_op (ov_ld 0 rfl rfl rfl) rfl rfl ?_ | refine dr_op (ov_fieldAddr rfl rfl rfl) rfl rfl ?_)
    refine dr_op (ov_call rfl (fun w _ => rname36_c m w)) rfl rfl ?_
    repeat (refine dr_end ?_)
    repeat (first | refine sy_k rfl rfl ?_ | (refine gO ?_; first | refine sy_ov (ov_p rfl) rfl rfl ?_ | (refine gB ?_; (refine sy_ov (ov_cat rfl rfl ?_) rfl rfl ?_; focus (first | omega | (simp <;> omega)))) | (refine gL ?_; refine sy_ov (ov_ld 0 rfl rfl rfl) rfl rfl ?_) | refine sy_ov (ov_fieldAddr rfl rfl rfl) rfl rfl ?_) | (refine sy_cond_t rfl ?_ ?_; focus (first | with_reducible rfl | assumption | omega | (simp <;> first | omega | assumption))) | refine sy_rt ?_)
    exact ret1 rfl rfl (by rw [hf]; simp [tailO])
  · refine sy_enter rfl rfl ?_
    simp only [initFr]
    repeat (first | refine sy_k rfl rfl ?_ | (refine gO ?_; first | refine sy_ov (ov_p rfl) rfl rfl ?_ | (refine sy_box rfl rfl rfl ?_; intro _)))
    refine sy_draw 13 (by kernel_rfl) ?_
    repeat (first | refine dr_op (ov_ld 0 rfl rfl rfl) rfl rfl ?_ | refine dr_op (ov_fieldAddr rfl rfl rfl) rfl rfl ?_)
    refine dr_op (ov_call rfl (fun w _ => rput_c wd _ rfl (by omega) (by omega) w)) rfl rfl ?_
    repeat (first | (refine dr_op (ov_cat rfl rfl ?_) rfl rfl ?_; focus (first | omega | (simp <;> omega))) | refine dr_op (ov_ld 0 rfl rfl rfl) rfl rfl ?_ | refine dr_op (ov_fieldAddr rfl rfl rfl) rfl rfl ?_)
    refine dr_op (ov_call rfl (fun w _ => rput_c i _ rfl (by omega) (by omega) w)) rfl rfl ?_
    repeat (first | (refine dr_op (ov_cat rfl rfl ?_) rfl rfl ?_; focus (first | omega | (simp <;> omega))) | refine dr_op (ov_ld 0 rfl rfl rfl) rfl rfl ?_ | refine dr_op (ov_fieldAddr rfl rfl rfl) rfl rfl ?_)
    refine dr_op (ov_call rfl (fun w _ => rname36_c m w)) rfl rfl ?_
    repeat (refine dr_end ?_)
    repeat (first | refine sy_k rfl rfl ?_ | (refine gO ?_; first | refine sy_ov (ov_p rfl) rfl rfl ?_ | (refine gB ?_; (refine sy_ov (ov_cat rfl rfl ?_) rfl rfl ?_; focus (first | omega | (simp <;> omega)))) | (refine gL ?_; refine sy_ov (ov_ld 0 rfl rfl rfl) rfl rfl ?_) | refine sy_ov (ov_fieldAddr rfl rfl rfl) rfl rfl ?_) | (refine sy_cond_f rfl ?_ ?_; focus (first | with_reducible rfl | assumption | omega | (simp <;> first | omega | assumption))) | refine sy_rt ?_)
    exact ret1 rfl rfl (by rw [hf]; simp [tailO, h4, obsL])
set_option maxRecDepth 20000 in
set_option maxHeartbeats 8000000 in
theorem optionsFormats_walk (w : World) (o : OptT) (ho : OptOk o) (m : Int) (hm : -9223372036854775808 ≤ m ∧ m ≤ 9223372036854775807) (s : ByteArray) (hs0 : s.size ≤ 140737488351232) :
    Calls Try.prog 15 #[.agg ⟨optV o⟩, .int .i64 m, .string s] w fun e w' => e = .returned (.bool true) ∧ Below w.heap.size w w' := by
  obtain ⟨⟨q⟩⟩ := s
  have hq : q.length ≤ 140737488351232 := hs0
  have hol : o.2.2.2.length ≤ 9223372036854775807 := ho.2.2.2
  obtain ⟨b, hb⟩ : ∃ b, optB o = b := ⟨_, rfl⟩
  have hp := fun w => pright36_c o b hb hol w
  have hr := fun w => rright36_c o b hb hol w
  have hfm := fun w => pformat36_c o hol w
  have hqn := modN_le q
  cases b
  · rw [if_neg (by rw [hb]; decide)] at hfm
    refine sy_enter rfl rfl ?_
    simp only [initFr]
    repeat (first | refine sy_k rfl rfl ?_ | (refine gO ?_; first | refine sy_ov (ov_p rfl) rfl rfl ?_ | (refine gL ?_; refine sy_ov (ov_ld 0 rfl rfl rfl) rfl rfl ?_) | (refine sy_box rfl rfl rfl ?_; intro _)))
    refine sy_ov (ov_call rfl (fun w _ => hr w)) rfl rfl ?_
    repeat (first | refine sy_k rfl rfl ?_ | (refine gO ?_; refine sy_ov (ov_p rfl) rfl rfl ?_) | (refine sy_cond_f rfl ?_ ?_; focus (first | with_reducible rfl | assumption | omega | (simp <;> first | omega | assumption))))
    rename_i b3
    refine sy_loop (α := Int) (fun x => [(1, .int .i64 m), (2, S q), (3, ptr b3), (7, S ([] : List UInt8)), (8, .int .i64 (if modN q < x then modN q else 0)), (9, .int .i64 x)]) (fun x => [blk b3 85 (optV o)]) (fun x => 1 ≤ x ∧ x ≤ 4) (fun x => (4 - x).toNat) 1 ⟨by omega, by omega⟩ ⟨⟨_, rfl, rfl⟩, ⟨_, rfl, rfl⟩, ⟨_, rfl, rfl⟩, ⟨_, rfl, rfl⟩, ⟨_, rfl, by rw [show (if modN q < 1 then modN q else 0) = 0 by split <;> omega]⟩, ⟨_, rfl, rfl⟩, trivial⟩ sr ?_
    rintro x ⟨x1, x4⟩
    by_cases hlt : x < 4
    · have hml := modN_mod x q x1 (by omega)
      by_cases he : modL x = q
      · have hmx := hml.1 he
        repeat (first | refine sy_k rfl rfl ?_ | (refine gO ?_; refine sy_ov (ov_p rfl) rfl rfl ?_) | (refine sy_cond_t rfl ?_ ?_; focus (first | with_reducible rfl | assumption | omega | (simp <;> first | omega | assumption))))
        refine sy_ov (ov_call rfl (fun w _ => rname36_c x w)) rfl rfl ?_
        rw [he]
        repeat (first | refine sy_k rfl rfl ?_ | (refine gO ?_; first | refine sy_ov (ov_p rfl) rfl rfl ?_ | (refine gB ?_; (refine sy_ov (ov_ar rfl rfl rfl ?_ ?_) rfl rfl ?_; omega; omega))) | (refine sy_cond_t rfl ?_ ?_; focus (first | with_reducible rfl | assumption | omega | (simp <;> first | omega | assumption))))
        refine sy_back (x + 1) ⟨by omega, by omega⟩ (by omega) ⟨⟨_, rfl, rfl⟩, ⟨_, rfl, rfl⟩, ⟨_, rfl, rfl⟩, ⟨_, rfl, rfl⟩, ⟨_, rfl, ?_⟩, ⟨_, rfl, rfl⟩, trivial⟩ sr
        rw [show (if modN q < x + 1 then modN q else 0) = x by rw [if_pos (by omega)]; exact hmx]
      · have hmx := (not_congr hml).1 he
        repeat (first | refine sy_k rfl rfl ?_ | (refine gO ?_; refine sy_ov (ov_p rfl) rfl rfl ?_) | (refine sy_cond_t rfl ?_ ?_; focus (first | with_reducible rfl | assumption | omega | (simp <;> first | omega | assumption))))
        refine sy_ov (ov_call rfl (fun w _ => rname36_c x w)) rfl rfl ?_
        repeat (first | refine sy_k rfl rfl ?_ | (refine gO ?_; first | refine sy_ov (ov_p rfl) rfl rfl ?_ | (refine gB ?_; (refine sy_ov (ov_ar rfl rfl rfl ?_ ?_) rfl rfl ?_; omega; omega))) | (refine sy_cond_f rfl ?_ ?_; focus (first | with_reducible rfl | assumption | omega | (simp <;> first | omega | assumption))))
        refine sy_back (x + 1) ⟨by omega, by omega⟩ (by omega) ⟨⟨_, rfl, rfl⟩, ⟨_, rfl, rfl⟩, ⟨_, rfl, rfl⟩, ⟨_, rfl, rfl⟩, ⟨_, rfl, ?_⟩, ⟨_, rfl, rfl⟩, trivial⟩ sr
        rw [show (if modN q < x + 1 then modN q else 0) = (if modN q < x then modN q else 0) by split <;> split <;> omega]
    · have hx4 : x = 4 := by omega
      subst hx4
      rw [show (if modN q < 4 then modN q else 0) = modN q by rw [if_pos (by omega)]]
      repeat (first | refine sy_k rfl rfl ?_ | (refine gO ?_; refine sy_ov (ov_p rfl) rfl rfl ?_) | (refine sy_cond_f rfl ?_ ?_; focus (first | with_reducible rfl | assumption | omega | (simp <;> first | omega | assumption))))
      refine sy_draw 27 (by kernel_rfl) ?_
      repeat (refine dr_op (ov_ld 0 rfl rfl rfl) rfl rfl ?_)
      refine dr_op (ov_call rfl (fun w _ => hp w)) rfl rfl ?_
      repeat (refine dr_op (ov_ld 0 rfl rfl rfl) rfl rfl ?_)
      refine dr_op (ov_call rfl (fun w _ => hr w)) rfl rfl ?_
      repeat (first | refine dr_op (ov_p rfl) rfl rfl ?_ | refine dr_op (ov_eqb rfl rfl) rfl rfl ?_ | (refine dr_yes rfl rfl rfl rfl ?_ (ov_ld 0 rfl rfl rfl) rfl ?_; focus (first | with_reducible rfl | assumption | omega | (simp <;> first | omega | assumption))))
      refine dr_yes rfl rfl rfl rfl ?_ (ov_call rfl (fun w _ => hfm w)) rfl ?_
      focus (first | with_reducible rfl | assumption | omega | (simp <;> first | omega | assumption))
      repeat (first | (refine dr_op (ov_pick_t rfl rfl ?_) rfl rfl ?_; focus (first | with_reducible rfl | assumption | omega | (simp <;> first | omega | assumption))) | refine dr_op (ov_p rfl) rfl rfl ?_ | (refine dr_yes rfl rfl rfl rfl ?_ (ov_p rfl) rfl ?_; focus (first | with_reducible rfl | assumption | omega | (simp <;> first | omega | assumption))))
      refine dr_yes rfl rfl rfl rfl ?_ (ov_call rfl (fun w _ => name36_c m w)) rfl ?_
      focus (first | with_reducible rfl | assumption | omega | (simp <;> first | omega | assumption))
      repeat ((refine dr_yes rfl rfl rfl rfl ?_ (ov_p rfl) rfl ?_; focus (first | with_reducible rfl | assumption | omega | (simp <;> first | omega | assumption))))
      refine dr_yes rfl rfl rfl rfl ?_ (ov_call rfl (fun w _ => rname36_c m w)) rfl ?_
      focus (first | with_reducible rfl | assumption | omega | (simp <;> first | omega | assumption))
      repeat (first | (refine dr_op (ov_pick_t rfl rfl ?_) rfl rfl ?_; focus (first | with_reducible rfl | assumption | omega | (simp <;> first | omega | assumption))) | refine dr_op (ov_p rfl) rfl rfl ?_ | (refine dr_yes rfl rfl rfl rfl ?_ (ov_p rfl) rfl ?_; focus (first | with_reducible rfl | assumption | omega | (simp <;> first | omega | assumption))))
      refine dr_yes rfl rfl rfl rfl ?_ (ov_call rfl (fun w _ => mode36_c q (by omega) w)) rfl ?_
      focus (first | with_reducible rfl | assumption | omega | (simp <;> first | omega | assumption))
      repeat (first | (refine dr_op (ov_pick_t rfl rfl ?_) rfl rfl ?_; focus (first | with_reducible rfl | assumption | omega | (simp <;> first | omega | assumption))) | refine dr_op (ov_p rfl) rfl rfl ?_ | (refine dr_yes rfl rfl rfl rfl ?_ (ov_p rfl) rfl ?_; focus (first | with_reducible rfl | assumption | omega | (simp <;> first | omega | assumption))))
      refine dr_yes rfl rfl rfl rfl ?_ (ov_call rfl (fun w _ => default_c w)) rfl ?_
      focus (first | with_reducible rfl | assumption | omega | (simp <;> first | omega | assumption))
      repeat (first | refine dr_end ?_ | (refine dr_yes rfl rfl rfl rfl ?_ (ov_build rfl rfl rfl) rfl ?_; focus (first | with_reducible rfl | assumption | omega | (simp <;> first | omega | assumption))))
      repeat ((refine gO ?_; (refine gG ?_; (refine sy_guard_yes rfl rfl rfl rfl rfl ?_ ?_; focus (first | with_reducible rfl | assumption | omega | (simp <;> first | omega | assumption))))))
      refine sy_ov (ov_eqst (xs := optV dopt) (ys := optV dopt) rfl rfl rfl rfl) rfl rfl ?_
      rw [eqL_opt]
      repeat ((refine gO ?_; first | refine sy_ov (ov_p rfl) rfl rfl ?_ | (refine gG ?_; (refine sy_guard_yes rfl rfl rfl rfl rfl ?_ ?_; focus (first | with_reducible rfl | assumption | omega | (simp <;> first | omega | assumption)))) | (refine sy_ov (ov_pick_t rfl rfl ?_) rfl rfl ?_; focus (with_reducible rfl))))
      refine sy_ov (ov_call rfl (fun w _ => lives36_c w)) rfl rfl ?_
      repeat (first | refine sy_k rfl rfl ?_ | (refine gO ?_; first | refine sy_ov (ov_p rfl) rfl rfl ?_ | (refine sy_ov (ov_pick_t rfl rfl ?_) rfl rfl ?_; focus (with_reducible rfl))) | refine sy_rt ?_)
      exact ret1 rfl rfl rfl
  · rw [if_pos hb] at hfm
    have hrf := fun w => rformat36_c o hb w
    refine sy_enter rfl rfl ?_
    simp only [initFr]
    repeat (first | refine sy_k rfl rfl ?_ | (refine gO ?_; first | refine sy_ov (ov_p rfl) rfl rfl ?_ | (refine gL ?_; refine sy_ov (ov_ld 0 rfl rfl rfl) rfl rfl ?_) | (refine sy_box rfl rfl rfl ?_; intro _)))
    refine sy_ov (ov_call rfl (fun w _ => hr w)) rfl rfl ?_
    repeat (first | refine sy_k rfl rfl ?_ | (refine gO ?_; (refine gL ?_; refine sy_ov (ov_ld 0 rfl rfl rfl) rfl rfl ?_)) | (refine sy_cond_t rfl ?_ ?_; focus (first | with_reducible rfl | assumption | omega | (simp <;> first | omega | assumption))))
    refine sy_ov (ov_call rfl (fun w _ => hrf w)) rfl rfl ?_
    repeat (first | refine sy_k rfl rfl ?_ | (refine gO ?_; refine sy_ov (ov_p rfl) rfl rfl ?_))
    rename_i b3
    refine sy_loop (α := Int) (fun x => [(1, .int .i64 m), (2, S q), (3, ptr b3), (7, S (fmtO o)), (8, .int .i64 (if modN q < x then modN q else 0)), (9, .int .i64 x)]) (fun x => [blk b3 85 (optV o)]) (fun x => 1 ≤ x ∧ x ≤ 4) (fun x => (4 - x).toNat) 1 ⟨by omega, by omega⟩ ⟨⟨_, rfl, rfl⟩, ⟨_, rfl, rfl⟩, ⟨_, rfl, rfl⟩, ⟨_, rfl, rfl⟩, ⟨_, rfl, by rw [show (if modN q < 1 then modN q else 0) = 0 by split <;> omega]⟩, ⟨_, rfl, rfl⟩, trivial⟩ sr ?_
    rintro x ⟨x1, x4⟩
    by_cases hlt : x < 4
    · have hml := modN_mod x q x1 (by omega)
      by_cases he : modL x = q
      · have hmx := hml.1 he
        repeat (first | refine sy_k rfl rfl ?_ | (refine gO ?_; refine sy_ov (ov_p rfl) rfl rfl ?_) | (refine sy_cond_t rfl ?_ ?_; focus (first | with_reducible rfl | assumption | omega | (simp <;> first | omega | assumption))))
        refine sy_ov (ov_call rfl (fun w _ => rname36_c x w)) rfl rfl ?_
        rw [he]
        repeat (first | refine sy_k rfl rfl ?_ | (refine gO ?_; first | refine sy_ov (ov_p rfl) rfl rfl ?_ | (refine gB ?_; (refine sy_ov (ov_ar rfl rfl rfl ?_ ?_) rfl rfl ?_; omega; omega))) | (refine sy_cond_t rfl ?_ ?_; focus (first | with_reducible rfl | assumption | omega | (simp <;> first | omega | assumption))))
        refine sy_back (x + 1) ⟨by omega, by omega⟩ (by omega) ⟨⟨_, rfl, rfl⟩, ⟨_, rfl, rfl⟩, ⟨_, rfl, rfl⟩, ⟨_, rfl, rfl⟩, ⟨_, rfl, ?_⟩, ⟨_, rfl, rfl⟩, trivial⟩ sr
        rw [show (if modN q < x + 1 then modN q else 0) = x by rw [if_pos (by omega)]; exact hmx]
      · have hmx := (not_congr hml).1 he
        repeat (first | refine sy_k rfl rfl ?_ | (refine gO ?_; refine sy_ov (ov_p rfl) rfl rfl ?_) | (refine sy_cond_t rfl ?_ ?_; focus (first | with_reducible rfl | assumption | omega | (simp <;> first | omega | assumption))))
        refine sy_ov (ov_call rfl (fun w _ => rname36_c x w)) rfl rfl ?_
        repeat (first | refine sy_k rfl rfl ?_ | (refine gO ?_; first | refine sy_ov (ov_p rfl) rfl rfl ?_ | (refine gB ?_; (refine sy_ov (ov_ar rfl rfl rfl ?_ ?_) rfl rfl ?_; omega; omega))) | (refine sy_cond_f rfl ?_ ?_; focus (first | with_reducible rfl | assumption | omega | (simp <;> first | omega | assumption))))
        refine sy_back (x + 1) ⟨by omega, by omega⟩ (by omega) ⟨⟨_, rfl, rfl⟩, ⟨_, rfl, rfl⟩, ⟨_, rfl, rfl⟩, ⟨_, rfl, rfl⟩, ⟨_, rfl, ?_⟩, ⟨_, rfl, rfl⟩, trivial⟩ sr
        rw [show (if modN q < x + 1 then modN q else 0) = (if modN q < x then modN q else 0) by split <;> split <;> omega]
    · have hx4 : x = 4 := by omega
      subst hx4
      rw [show (if modN q < 4 then modN q else 0) = modN q by rw [if_pos (by omega)]]
      repeat (first | refine sy_k rfl rfl ?_ | (refine gO ?_; refine sy_ov (ov_p rfl) rfl rfl ?_) | (refine sy_cond_f rfl ?_ ?_; focus (first | with_reducible rfl | assumption | omega | (simp <;> first | omega | assumption))))
      refine sy_draw 27 (by kernel_rfl) ?_
      repeat (refine dr_op (ov_ld 0 rfl rfl rfl) rfl rfl ?_)
      refine dr_op (ov_call rfl (fun w _ => hp w)) rfl rfl ?_
      repeat (refine dr_op (ov_ld 0 rfl rfl rfl) rfl rfl ?_)
      refine dr_op (ov_call rfl (fun w _ => hr w)) rfl rfl ?_
      repeat (first | refine dr_op (ov_p rfl) rfl rfl ?_ | refine dr_op (ov_eqb rfl rfl) rfl rfl ?_ | (refine dr_yes rfl rfl rfl rfl ?_ (ov_ld 0 rfl rfl rfl) rfl ?_; focus (first | with_reducible rfl | assumption | omega | (simp <;> first | omega | assumption))))
      refine dr_yes rfl rfl rfl rfl ?_ (ov_call rfl (fun w _ => hfm w)) rfl ?_
      focus (first | with_reducible rfl | assumption | omega | (simp <;> first | omega | assumption))
      repeat (first | (refine dr_op (ov_pick_t rfl rfl ?_) rfl rfl ?_; focus (first | with_reducible rfl | assumption | omega | (simp <;> first | omega | assumption))) | refine dr_op (ov_p rfl) rfl rfl ?_ | (refine dr_yes rfl rfl rfl rfl ?_ (ov_p rfl) rfl ?_; focus (first | with_reducible rfl | assumption | omega | (simp <;> first | omega | assumption))))
      refine dr_yes rfl rfl rfl rfl ?_ (ov_call rfl (fun w _ => name36_c m w)) rfl ?_
      focus (first | with_reducible rfl | assumption | omega | (simp <;> first | omega | assumption))
      repeat ((refine dr_yes rfl rfl rfl rfl ?_ (ov_p rfl) rfl ?_; focus (first | with_reducible rfl | assumption | omega | (simp <;> first | omega | assumption))))
      refine dr_yes rfl rfl rfl rfl ?_ (ov_call rfl (fun w _ => rname36_c m w)) rfl ?_
      focus (first | with_reducible rfl | assumption | omega | (simp <;> first | omega | assumption))
      repeat (first | (refine dr_op (ov_pick_t rfl rfl ?_) rfl rfl ?_; focus (first | with_reducible rfl | assumption | omega | (simp <;> first | omega | assumption))) | refine dr_op (ov_p rfl) rfl rfl ?_ | (refine dr_yes rfl rfl rfl rfl ?_ (ov_p rfl) rfl ?_; focus (first | with_reducible rfl | assumption | omega | (simp <;> first | omega | assumption))))
      refine dr_yes rfl rfl rfl rfl ?_ (ov_call rfl (fun w _ => mode36_c q (by omega) w)) rfl ?_
      focus (first | with_reducible rfl | assumption | omega | (simp <;> first | omega | assumption))
      repeat (first | (refine dr_op (ov_pick_t rfl rfl ?_) rfl rfl ?_; focus (first | with_reducible rfl | assumption | omega | (simp <;> first | omega | assumption))) | refine dr_op (ov_p rfl) rfl rfl ?_ | (refine dr_yes rfl rfl rfl rfl ?_ (ov_p rfl) rfl ?_; focus (first | with_reducible rfl | assumption | omega | (simp <;> first | omega | assumption))))
      refine dr_yes rfl rfl rfl rfl ?_ (ov_call rfl (fun w _ => default_c w)) rfl ?_
      focus (first | with_reducible rfl | assumption | omega | (simp <;> first | omega | assumption))
      repeat (first | refine dr_end ?_ | (refine dr_yes rfl rfl rfl rfl ?_ (ov_build rfl rfl rfl) rfl ?_; focus (first | with_reducible rfl | assumption | omega | (simp <;> first | omega | assumption))))
      repeat ((refine gO ?_; (refine gG ?_; (refine sy_guard_yes rfl rfl rfl rfl rfl ?_ ?_; focus (first | with_reducible rfl | assumption | omega | (simp <;> first | omega | assumption))))))
      refine sy_ov (ov_eqst (xs := optV dopt) (ys := optV dopt) rfl rfl rfl rfl) rfl rfl ?_
      rw [eqL_opt]
      repeat ((refine gO ?_; first | refine sy_ov (ov_p rfl) rfl rfl ?_ | (refine gG ?_; (refine sy_guard_yes rfl rfl rfl rfl rfl ?_ ?_; focus (first | with_reducible rfl | assumption | omega | (simp <;> first | omega | assumption)))) | (refine sy_ov (ov_pick_t rfl rfl ?_) rfl rfl ?_; focus (with_reducible rfl))))
      refine sy_ov (ov_call rfl (fun w _ => lives36_c w)) rfl rfl ?_
      repeat (first | refine sy_k rfl rfl ?_ | (refine gO ?_; first | refine sy_ov (ov_p rfl) rfl rfl ?_ | (refine sy_ov (ov_pick_t rfl rfl ?_) rfl rfl ?_; focus (with_reducible rfl))) | refine sy_rt ?_)
      exact ret1 rfl rfl rfl
end Go.Proofs.Yteiejcililponaa
set_option linter.unusedVariables false
set_option linter.unusedSimpArgs false
namespace Go.Proofs.Yteiejcililponaa.optionsFormats
open Go.ChangeShapes Go.WideShapes Go.ChangeAt Go.RowKit
open Go.ChangeMaps (open_string shut_string)
set_option linter.unusedVariables false

theorem own : ownKnob Try.prog.godebug = none := own_t
theorem laidOut : laidOutB Try.prog = true := laidOut_t

set_option maxRecDepth 100000 in
theorem lifted (os : Os) (started : os.Started) (H : Type) (enc : TypeId × Value → H) :
    ReturnsInHanded {} Try.checked os 15 .any (Rows.optionsFormatsSpec.pre6 enc Try.prog Try.f15 Rows.optionsFormatsRow.domain false) (Rows.optionsFormatsSpec.post enc Try.prog Try.f15 false true false false) := by
  refine returnsInHanded_of_change_sized (C := Try.checked) own started (by kernel_rfl) Try.func15
    (ChangeSpec.witness6 (enc := enc) (C := Try.checked) false ⟨#[], #[.agg #[.int .i64 0, .int .i64 0, .int .i64 0, .string ByteArray.empty], .int .i64 0, .string ByteArray.empty], []⟩ 8 (by kernel_rfl) (by kernel_rfl) (by kernel_rfl) (by kernel_rfl)) ?_
  intro W base args ds gs before hval0 hW hcnd hsz0 _
  have hval : ∀ (j : Nat) t v, Try.f15.params[j]? = some t → args[j]? = some v → Value.okWide Try.prog W .any base t v := hval0
  have hW' := hW
  obtain ⟨p, q, hA0, hV, rfl, hfz, hnd⟩ := hW
  have hA : DataW.TrodAll enc Try.prog W 0 (fun _ => true) true Try.f15.params.toList args.toList ds p := hA0
  have hsz : (DataW.weightsEach Try.prog (Try.f15.params.toList ++ Rows.optionsFormatsSpec.plain.varTypes Try.prog) (ds ++ gs)).all (· ≤ reachBytes) = true := hsz0
  rw [Try.params15] at hA hval hsz
  obtain ⟨v0, vs0, d0, ds0, p0, q0, hargs, rfl, rfl, h0, r0⟩ := trodAll_cons hA
  obtain ⟨v1, vs1, d1, ds1, p1, q1, rfl, rfl, rfl, h1, r1⟩ := trodAll_cons r0
  obtain ⟨v2, vs2, d2, ds2, p2, q2, rfl, rfl, rfl, h2, r2⟩ := trodAll_cons r1
  obtain ⟨rfl, rfl, rfl⟩ := trodAll_nil r2
  obtain rfl : args = #[v0, v1, v2] := by cases args; simp_all
  obtain ⟨rfl, rfl⟩ := trodVars_none hV
  obtain ⟨cs0, rfl, hz0⟩ := okWide_struct Try.underlying85 (hval 0 85 v0 rfl rfl)
  have k0 := h0
  have lt0 : ∀ x ∈ p0, x.block < W.heap.size := by obtain ⟨m, hm⟩ := k0; exact DataW.trod_lt m _ _ _ hm
  obtain ⟨f0, hf0⟩ := h0
  obtain ⟨z0, hv0, ho0⟩ := open_opt hf0
  obtain ⟨cl0⟩ := cs0
  have hv0 : cl0 = _ := hv0
  subst hv0
  obtain ⟨a1, rfl, rfl, rfl, w1⟩ := open_int Try.underlying3 (hval 1 3 v1 rfl rfl) h1
  have b1 : (-9223372036854775808 : Int) ≤ a1 ∧ a1 ≤ 9223372036854775807 := bounds_i64 w1
  obtain ⟨a2, rfl, rfl, rfl, w2⟩ := open_string Try.underlying9 (hval 2 9 v2 rfl rfl) h2
  have sz2 : a2.size ≤ 140737488351232 := by have := sized_string hsz (j := 2) (t := 9) rfl rfl; simpa [reachBytes] using this
  clear hA0 hval0
  refine (optionsFormats_walk W z0 ho0 a1 b1 a2 sz2).mono fun e W' ⟨he, bel⟩ => ?_
  subst he
  exact ⟨_, rfl, _, _, _, [], _, [], hW', trodAll_mk1 (shut_bool Try.underlying4 _), (trodAll_cons_mk (Below.trod laidOut (by kernel_rfl) (of_decide_eq_true (by kernel_rfl)) k0 bel lt0) (trodAll_cons_mk (shut_int Try.underlying3 w1) (trodAll_cons_mk (shut_string Try.underlying9 w2) trodAll_mk0))), rfl, bel.frame _, fun h => by cases h⟩

theorem inPlace_t : (Rows.optionsFormatsRow.inPlace == Try.prog.inPlace 15) = true := by kernel_rfl
theorem unfollowed_t : (Rows.optionsFormatsRow.unfollowed == Try.prog.unfollowed 15) = true := by kernel_rfl
theorem recurses_t : (Rows.optionsFormatsRow.recurses == Try.prog.recurses 15) = true := by kernel_rfl
theorem named_t : (Rows.optionsFormatsRow.named == Try.prog.varsNamed 15) = true := by kernel_rfl
theorem closed : joinedFacts Try.pinned.checked.prog 15 Try.f15 Rows.optionsFormatsSpec Rows.optionsFormatsRow = true :=
  and_t (and_t (and_t (and_t (and_t (and_t (and_t (and_t (and_t (and_t (and_t (and_t (and_t (and_t (and_t (and_t (and_t (and_t (and_t (and_t (and_t (and_t (and_t (and_t (and_t (and_t (and_t (and_t (and_t (and_t (and_t (by kernel_rfl) laidOut_t) mapsRowed_t) (by kernel_rfl)) (by kernel_rfl)) (by kernel_rfl)) stops_t) (by kernel_rfl)) stopKnobs_t) inPlace_t) unfollowed_t) recurses_t) named_t) (by kernel_rfl)) (by kernel_rfl)) (by kernel_rfl)) (by kernel_rfl)) (by kernel_rfl)) (by kernel_rfl)) (by kernel_rfl)) (by kernel_rfl)) (by kernel_rfl)) plainKeys_t) (by kernel_rfl)) stopsHeard_t) mayEnter_t) lifts_t) make_t) (by kernel_rfl)) (by kernel_rfl)) (by kernel_rfl)) (by kernel_rfl)

theorem over : Rows.optionsFormatsRow.holds Try.pinned (OpenSpec.ofChange Rows.optionsFormatsSpec) :=
  OpenClaim.holds_of_wide 15 Try.f15 rfl rfl rfl rfl rfl rfl rfl ⟨rfl, rfl, rfl, rfl, rfl⟩ rfl rfl rfl rfl rfl (by kernel_rfl) Try.func15 closed
    (of_decide_eq_true (by kernel_rfl)) (by unfold Func.isWrapper; first | (rw [if_pos (by decide +kernel)]; kernel_rfl) | (rw [if_neg (by decide +kernel)]; exact ⟨rfl, rfl⟩))
    (fun os started H enc _ => lifted os started H enc)

theorem proved : Rows.OptionsFormatsSaid := over
#print axioms proved
end Go.Proofs.Yteiejcililponaa.optionsFormats
