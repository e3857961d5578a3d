/- BFW: texts of this proof, joined by program: RawBig, RawBulk. -/
import Derived.Test.YtldjakeigjngoaaBRV
import Derived.Test.YtldjakeigjngoaaBulkQ
import Derived.Test.YtldjakeigjngoaaBFP
/- Contract: 'Parse' of a text of any length. -/
set_option linter.unusedVariables false
set_option linter.unusedSimpArgs false
namespace Go.Proofs.Ytldjakeigjngoaa
open Go.RowKit Bf
set_option maxRecDepth 20000 in
set_option maxHeartbeats 8000000 in
theorem prawBig_c (s : List UInt8) (e a : Int) (L : List TokT) (hL : scanR s = (L, e, a)) (he : e ≠ 0) (hs : s.length ≤ 100000000000000) : CallsE Try.prog 44 [S s] [] (PP s) := by
 have hR2 : rawR s = .bad e a := by unfold rawR; rw [hL, if_pos he]
 have hP : PP s (.tuple #[.agg ⟨z6⟩, faultV e a]) [] := by unfold PP; rw [hR2]; exact ⟨rfl, rfl⟩
 refine sy_enterE rfl rfl (fun w => ?_)
 simp only [initFr]
 repeat (first | refine sy_k rfl rfl ?_ | (refine gO ?_; first | refine sy_ov (ov_p rfl) rfl rfl ?_ | (refine gG ?_; first | refine sy_guard_undef rfl rfl rfl rfl rfl ?_ | (refine sy_guard_yes rfl rfl rfl rfl rfl ?_ ?_; (first | with_reducible rfl | assumption | omega | (simp <;> first | omega | assumption))) | (refine sy_guard_no rfl rfl rfl rfl rfl ?_ ?_; (first | with_reducible rfl | assumption | omega | (simp <;> first | omega | assumption)))) | (refine gB ?_; first | (refine sy_ov (ov_ar rfl rfl rfl ?_ ?_) rfl rfl ?_; omega; omega) | (refine sy_ov (ov_cat rfl rfl ?_) rfl rfl ?_; focus (first | omega | (simp <;> omega))) | (refine sy_ov (ov_rem_n rfl rfl ?_ ?_) rfl rfl ?_; omega; omega) | (refine sy_ov (ov_quok rfl rfl ?_ ?_ ?_) rfl rfl ?_; omega; omega; omega) | refine sy_ov (ov_eqb rfl rfl) rfl rfl ?_ | refine sy_ov (ov_neb rfl rfl) rfl rfl ?_) | (refine gK ?_; first | refine sy_ov (ov_len rfl) rfl rfl ?_ | refine sy_ov (ov_lens rfl) rfl rfl ?_ | refine sy_ov (ov_max rfl rfl) rfl rfl ?_ | refine sy_ov (ov_min rfl rfl) rfl rfl ?_) | (refine gL ?_; first | refine sy_ov (ov_ld 0 rfl rfl rfl) rfl rfl ?_ | refine sy_ov (ov_ld 1 rfl rfl rfl) rfl rfl ?_ | refine sy_ov (ov_ld 2 rfl rfl rfl) rfl rfl ?_ | refine sy_ov (ov_ld 3 rfl rfl rfl) rfl rfl ?_ | refine sy_ov (ov_ld 4 rfl rfl rfl) rfl rfl ?_) | (refine gS ?_; first | refine sy_store 0 rfl rfl rfl rfl rfl rfl rfl rfl ?_ | refine sy_store 1 rfl rfl rfl rfl rfl rfl rfl rfl ?_ | refine sy_store 2 rfl rfl rfl rfl rfl rfl rfl rfl ?_ | refine sy_store 3 rfl rfl rfl rfl rfl rfl rfl rfl ?_ | refine sy_store 4 rfl rfl rfl rfl rfl rfl rfl rfl ?_) | (refine gI ?_; first | (refine sy_ov (ov_slice rfl rfl rfl ?_ ?_ ?_) rfl rfl ?_; (focus (first | omega | (simp <;> omega))); (focus (first | omega | (simp <;> omega))); focus (first | omega | (simp <;> omega))) | (refine sy_ov (ov_slice_lo rfl rfl ?_ ?_) rfl rfl ?_; omega; omega) | (refine sy_ov (ov_slice_hi rfl rfl ?_ ?_) rfl rfl ?_; omega; omega)) | (refine sy_ov (ov_pick_t rfl rfl ?_) rfl rfl ?_; focus (with_reducible rfl)) | (refine sy_ov (ov_pick_f rfl rfl ?_) rfl rfl ?_; focus (with_reducible rfl)) | refine sy_ov (ov_pick rfl rfl rfl) rfl rfl ?_ | refine sy_ov (ov_fieldAddr rfl rfl rfl) rfl rfl ?_ | (refine sy_ov (ov_index rfl rfl ?_ ?_) rfl rfl ?_; omega; omega) | refine sy_ov (ov_field rfl rfl rfl) rfl rfl ?_ | refine sy_ov (ov_fielda rfl rfl) rfl rfl ?_ | (refine sy_ov (ov_indexAddr rfl rfl ?_ ?_) rfl rfl ?_; omega; omega) | refine sy_ov (ov_build rfl rfl rfl) rfl rfl ?_ | (refine sy_ov (ov_convk rfl ?_ ?_) rfl rfl ?_; omega; omega) | refine sy_ov (ov_conv rfl) rfl rfl ?_ | (refine sy_box rfl rfl rfl ?_; intro _) | (refine sy_alloc rfl rfl rfl ?_; intro _)) | (refine sy_cond_t rfl ?_ ?_; (first | with_reducible rfl | assumption | omega | (simp <;> first | omega | assumption))) | (refine sy_cond_f rfl ?_ ?_; (first | with_reducible rfl | assumption | omega | (simp <;> first | omega | assumption))) | refine sy_rt ?_)
 refine sy_callE [] rfl rfl rfl (cur_new s (by omega)) ?_
 rintro _ _ (⟨hz, _⟩ | ⟨hz, rfl, rfl⟩)
 · rw [hL] at hz; exact absurd hz he
 · rw [hL]
   dsimp only
   simp only [List.nil_append]
   repeat (first | refine sy_k rfl rfl ?_ | (refine gO ?_; first | refine sy_ov (ov_p rfl) rfl rfl ?_ | (refine gG ?_; first | refine sy_guard_undef rfl rfl rfl rfl rfl ?_ | (refine sy_guard_yes rfl rfl rfl rfl rfl ?_ ?_; (first | with_reducible rfl | assumption | omega | (simp <;> first | omega | assumption))) | (refine sy_guard_no rfl rfl rfl rfl rfl ?_ ?_; (first | with_reducible rfl | assumption | omega | (simp <;> first | omega | assumption)))) | (refine gB ?_; first | (refine sy_ov (ov_ar rfl rfl rfl ?_ ?_) rfl rfl ?_; omega; omega) | (refine sy_ov (ov_cat rfl rfl ?_) rfl rfl ?_; focus (first | omega | (simp <;> omega))) | (refine sy_ov (ov_rem_n rfl rfl ?_ ?_) rfl rfl ?_; omega; omega) | (refine sy_ov (ov_quok rfl rfl ?_ ?_ ?_) rfl rfl ?_; omega; omega; omega) | refine sy_ov (ov_eqb rfl rfl) rfl rfl ?_ | refine sy_ov (ov_neb rfl rfl) rfl rfl ?_) | (refine gK ?_; first | refine sy_ov (ov_len rfl) rfl rfl ?_ | refine sy_ov (ov_lens rfl) rfl rfl ?_ | refine sy_ov (ov_max rfl rfl) rfl rfl ?_ | refine sy_ov (ov_min rfl rfl) rfl rfl ?_) | (refine gL ?_; first | refine sy_ov (ov_ld 0 rfl rfl rfl) rfl rfl ?_ | refine sy_ov (ov_ld 1 rfl rfl rfl) rfl rfl ?_ | refine sy_ov (ov_ld 2 rfl rfl rfl) rfl rfl ?_ | refine sy_ov (ov_ld 3 rfl rfl rfl) rfl rfl ?_ | refine sy_ov (ov_ld 4 rfl rfl rfl) rfl rfl ?_) | (refine gS ?_; first | refine sy_store 0 rfl rfl rfl rfl rfl rfl rfl rfl ?_ | refine sy_store 1 rfl rfl rfl rfl rfl rfl rfl rfl ?_ | refine sy_store 2 rfl rfl rfl rfl rfl rfl rfl rfl ?_ | refine sy_store 3 rfl rfl rfl rfl rfl rfl rfl rfl ?_ | refine sy_store 4 rfl rfl rfl rfl rfl rfl rfl rfl ?_) | (refine gI ?_; first | (refine sy_ov (ov_slice rfl rfl rfl ?_ ?_ ?_) rfl rfl ?_; (focus (first | omega | (simp <;> omega))); (focus (first | omega | (simp <;> omega))); focus (first | omega | (simp <;> omega))) | (refine sy_ov (ov_slice_lo rfl rfl ?_ ?_) rfl rfl ?_; omega; omega) | (refine sy_ov (ov_slice_hi rfl rfl ?_ ?_) rfl rfl ?_; omega; omega)) | (refine sy_ov (ov_pick_t rfl rfl ?_) rfl rfl ?_; focus (with_reducible rfl)) | (refine sy_ov (ov_pick_f rfl rfl ?_) rfl rfl ?_; focus (with_reducible rfl)) | refine sy_ov (ov_pick rfl rfl rfl) rfl rfl ?_ | refine sy_ov (ov_fieldAddr rfl rfl rfl) rfl rfl ?_ | (refine sy_ov (ov_index rfl rfl ?_ ?_) rfl rfl ?_; omega; omega) | refine sy_ov (ov_field rfl rfl rfl) rfl rfl ?_ | refine sy_ov (ov_fielda rfl rfl) rfl rfl ?_ | (refine sy_ov (ov_indexAddr rfl rfl ?_ ?_) rfl rfl ?_; omega; omega) | refine sy_ov (ov_build rfl rfl rfl) rfl rfl ?_ | (refine sy_ov (ov_convk rfl ?_ ?_) rfl rfl ?_; omega; omega) | refine sy_ov (ov_conv rfl) rfl rfl ?_ | (refine sy_box rfl rfl rfl ?_; intro _) | (refine sy_alloc rfl rfl rfl ?_; intro _)) | (refine sy_cond_t rfl ?_ ?_; (first | with_reducible rfl | assumption | omega | (simp <;> first | omega | assumption))) | (refine sy_cond_f rfl ?_ ?_; (first | with_reducible rfl | assumption | omega | (simp <;> first | omega | assumption))) | refine sy_rt ?_)
   refine sy_drawE _ 3 [(0, false), (1, false), (2, true)] (by kernel_rfl) rfl (sk (sk (sd sr))) ?_
   repeat (first | (refine dre_rd (fun _ _ => ov_pick_t rfl rfl ?_) rfl ?_; (first | with_reducible rfl | assumption | omega | (simp <;> first | omega | assumption))) | (refine dre_rd (fun _ _ => ov_pick_f rfl rfl ?_) rfl ?_; (first | with_reducible rfl | assumption | omega | (simp <;> first | omega | assumption))) | refine dre_rd (fun _ _ => ov_p rfl) rfl ?_ | (refine dre_rd (fun _ _ => ov_ar rfl rfl rfl ?_ ?_) rfl ?_; omega; omega) | (refine dre_rd (fun _ _ => ov_cat rfl rfl ?_) rfl ?_; focus (first | omega | (simp <;> omega))) | refine dre_rd (fun _ _ => ov_eqb rfl rfl) rfl ?_ | refine dre_rd (fun _ _ => ov_neb rfl rfl) rfl ?_ | refine dre_rd (fun _ _ => ov_len rfl) rfl ?_ | refine dre_rd (fun _ _ => ov_lens rfl) rfl ?_ | refine dre_rd (fun _ _ => ov_max rfl rfl) rfl ?_ | refine dre_rd (fun _ _ => ov_min rfl rfl) rfl ?_ | refine dre_rd (fun _ _ => ov_ld 0 rfl rfl rfl) rfl ?_ | refine dre_rd (fun _ _ => ov_ld 1 rfl rfl rfl) rfl ?_ | refine dre_rd (fun _ _ => ov_ld 2 rfl rfl rfl) rfl ?_ | refine dre_rd (fun _ _ => ov_ld 3 rfl rfl rfl) rfl ?_ | refine dre_rd (fun _ _ => ov_ld 4 rfl rfl rfl) rfl ?_ | (refine dre_rd (fun _ _ => ov_slice rfl rfl rfl ?_ ?_ ?_) rfl ?_; (focus (first | omega | (simp <;> omega))); (focus (first | omega | (simp <;> omega))); focus (first | omega | (simp <;> omega))) | (refine dre_rd (fun _ _ => ov_slice_lo rfl rfl ?_ ?_) rfl ?_; omega; omega) | (refine dre_rd (fun _ _ => ov_slice_hi rfl rfl ?_ ?_) rfl ?_; omega; omega) | refine dre_rd (fun _ _ => ov_fieldAddr rfl rfl rfl) rfl ?_ | (refine dre_rd (fun _ _ => ov_index rfl rfl ?_ ?_) rfl ?_; omega; omega) | refine dre_rd (fun _ _ => ov_field rfl rfl rfl) rfl ?_ | refine dre_rd (fun _ _ => ov_fielda rfl rfl) rfl ?_ | (refine dre_rd (fun _ _ => ov_indexAddr rfl rfl ?_ ?_) rfl ?_; omega; omega) | refine dre_rd (fun _ _ => ov_build rfl rfl rfl) rfl ?_ | refine dre_rd (fun _ _ => ov_conv rfl) rfl ?_ | (refine dre_ef rfl ?_; refine sy_store 0 rfl rfl rfl rfl rfl rfl rfl rfl ?_; refine dre_ek (by repeat first | exact sr | apply sk | apply sd) ?_) | (refine dre_ef rfl ?_; refine sy_store 1 rfl rfl rfl rfl rfl rfl rfl rfl ?_; refine dre_ek (by repeat first | exact sr | apply sk | apply sd) ?_) | (refine dre_ef rfl ?_; refine sy_store 2 rfl rfl rfl rfl rfl rfl rfl rfl ?_; refine dre_ek (by repeat first | exact sr | apply sk | apply sd) ?_) | (refine dre_ef rfl ?_; refine sy_store 3 rfl rfl rfl rfl rfl rfl rfl rfl ?_; refine dre_ek (by repeat first | exact sr | apply sk | apply sd) ?_) | (refine dre_ef rfl ?_; refine sy_store 4 rfl rfl rfl rfl rfl rfl rfl rfl ?_; refine dre_ek (by repeat first | exact sr | apply sk | apply sd) ?_) | (refine dre_ef rfl ?_; refine sy_store 5 rfl rfl rfl rfl rfl rfl rfl rfl ?_; refine dre_ek (by repeat first | exact sr | apply sk | apply sd) ?_) | refine dre_end ?_ | (refine dre_yes rfl rfl rfl rfl ?_ (fun _ _ => ov_p rfl) ?_; (first | with_reducible rfl | assumption | omega | (simp <;> first | omega | assumption))) | (refine dre_yes rfl rfl rfl rfl ?_ (fun _ _ => ov_ar rfl rfl rfl ?_ ?_) ?_; (focus (first | with_reducible rfl | assumption | omega | (simp <;> first | omega | assumption))); omega; omega) | (refine dre_yes rfl rfl rfl rfl ?_ (fun _ _ => ov_eqb rfl rfl) ?_; (first | with_reducible rfl | assumption | omega | (simp <;> first | omega | assumption))) | (refine dre_yes rfl rfl rfl rfl ?_ (fun _ _ => ov_neb rfl rfl) ?_; (first | with_reducible rfl | assumption | omega | (simp <;> first | omega | assumption))) | (refine dre_yes rfl rfl rfl rfl ?_ (fun _ _ => ov_len rfl) ?_; (first | with_reducible rfl | assumption | omega | (simp <;> first | omega | assumption))) | (refine dre_yes rfl rfl rfl rfl ?_ (fun _ _ => ov_lens rfl) ?_; (first | with_reducible rfl | assumption | omega | (simp <;> first | omega | assumption))) | (refine dre_yes rfl rfl rfl rfl ?_ (fun _ _ => ov_ld 0 rfl rfl rfl) ?_; (first | with_reducible rfl | assumption | omega | (simp <;> first | omega | assumption))) | (refine dre_yes rfl rfl rfl rfl ?_ (fun _ _ => ov_ld 1 rfl rfl rfl) ?_; (first | with_reducible rfl | assumption | omega | (simp <;> first | omega | assumption))) | (refine dre_yes rfl rfl rfl rfl ?_ (fun _ _ => ov_ld 2 rfl rfl rfl) ?_; (first | with_reducible rfl | assumption | omega | (simp <;> first | omega | assumption))) | (refine dre_yes rfl rfl rfl rfl ?_ (fun _ _ => ov_ld 3 rfl rfl rfl) ?_; (first | with_reducible rfl | assumption | omega | (simp <;> first | omega | assumption))) | (refine dre_yes rfl rfl rfl rfl ?_ (fun _ _ => ov_ld 4 rfl rfl rfl) ?_; (first | with_reducible rfl | assumption | omega | (simp <;> first | omega | assumption))) | (refine dre_yes rfl rfl rfl rfl ?_ (fun _ _ => ov_ld 5 rfl rfl rfl) ?_; (first | with_reducible rfl | assumption | omega | (simp <;> first | omega | assumption))) | (refine dre_yes rfl rfl rfl rfl ?_ (fun _ _ => ov_ld 6 rfl rfl rfl) ?_; (first | with_reducible rfl | assumption | omega | (simp <;> first | omega | assumption))) | (refine dre_yes rfl rfl rfl rfl ?_ (fun _ _ => ov_ld 7 rfl rfl rfl) ?_; (first | with_reducible rfl | assumption | omega | (simp <;> first | omega | assumption))) | (refine dre_yes rfl rfl rfl rfl ?_ (fun _ _ => ov_fieldAddr rfl rfl rfl) ?_; (first | with_reducible rfl | assumption | omega | (simp <;> first | omega | assumption))) | (refine dre_yes rfl rfl rfl rfl ?_ (fun _ _ => ov_field rfl rfl rfl) ?_; (first | with_reducible rfl | assumption | omega | (simp <;> first | omega | assumption))) | (refine dre_yes rfl rfl rfl rfl ?_ (fun _ _ => ov_fielda rfl rfl) ?_; (first | with_reducible rfl | assumption | omega | (simp <;> first | omega | assumption))) | (refine dre_yes rfl rfl rfl rfl ?_ (fun _ _ => ov_indexAddr rfl rfl ?_ ?_) ?_; (focus (first | with_reducible rfl | assumption | omega | (simp <;> first | omega | assumption))); omega; omega) | (refine dre_yes rfl rfl rfl rfl ?_ (fun _ _ => ov_build rfl rfl rfl) ?_; (first | with_reducible rfl | assumption | omega | (simp <;> first | omega | assumption))) | (refine dre_yes rfl rfl rfl rfl ?_ (fun _ _ => ov_conv rfl) ?_; (first | with_reducible rfl | assumption | omega | (simp <;> first | omega | assumption))) | (refine dre_yes rfl rfl rfl rfl ?_ (fun _ _ => ov_pick_t rfl rfl ?_) ?_; (focus (first | with_reducible rfl | assumption | omega | (simp <;> first | omega | assumption))); (first | with_reducible rfl | assumption | omega | (simp <;> first | omega | assumption))) | (refine dre_yes rfl rfl rfl rfl ?_ (fun _ _ => ov_pick_f rfl rfl ?_) ?_; (focus (first | with_reducible rfl | assumption | omega | (simp <;> first | omega | assumption))); (first | with_reducible rfl | assumption | omega | (simp <;> first | omega | assumption))) | (refine dre_no rfl rfl rfl rfl ?_ ?_; (first | with_reducible rfl | assumption | omega | (simp <;> first | omega | assumption))) | refine dre_undef rfl rfl rfl rfl ?_)
   repeat (first | refine sy_k rfl rfl ?_ | (refine gO ?_; first | refine sy_ov (ov_p rfl) rfl rfl ?_ | (refine gG ?_; first | refine sy_guard_undef rfl rfl rfl rfl rfl ?_ | (refine sy_guard_yes rfl rfl rfl rfl rfl ?_ ?_; (first | with_reducible rfl | assumption | omega | (simp <;> first | omega | assumption))) | (refine sy_guard_no rfl rfl rfl rfl rfl ?_ ?_; (first | with_reducible rfl | assumption | omega | (simp <;> first | omega | assumption)))) | (refine gB ?_; first | (refine sy_ov (ov_ar rfl rfl rfl ?_ ?_) rfl rfl ?_; omega; omega) | (refine sy_ov (ov_cat rfl rfl ?_) rfl rfl ?_; focus (first | omega | (simp <;> omega))) | (refine sy_ov (ov_rem_n rfl rfl ?_ ?_) rfl rfl ?_; omega; omega) | (refine sy_ov (ov_quok rfl rfl ?_ ?_ ?_) rfl rfl ?_; omega; omega; omega) | refine sy_ov (ov_eqb rfl rfl) rfl rfl ?_ | refine sy_ov (ov_neb rfl rfl) rfl rfl ?_) | (refine gK ?_; first | refine sy_ov (ov_len rfl) rfl rfl ?_ | refine sy_ov (ov_lens rfl) rfl rfl ?_ | refine sy_ov (ov_max rfl rfl) rfl rfl ?_ | refine sy_ov (ov_min rfl rfl) rfl rfl ?_) | (refine gL ?_; first | refine sy_ov (ov_ld 0 rfl rfl rfl) rfl rfl ?_ | refine sy_ov (ov_ld 1 rfl rfl rfl) rfl rfl ?_ | refine sy_ov (ov_ld 2 rfl rfl rfl) rfl rfl ?_ | refine sy_ov (ov_ld 3 rfl rfl rfl) rfl rfl ?_ | refine sy_ov (ov_ld 4 rfl rfl rfl) rfl rfl ?_) | (refine gS ?_; first | refine sy_store 0 rfl rfl rfl rfl rfl rfl rfl rfl ?_ | refine sy_store 1 rfl rfl rfl rfl rfl rfl rfl rfl ?_ | refine sy_store 2 rfl rfl rfl rfl rfl rfl rfl rfl ?_ | refine sy_store 3 rfl rfl rfl rfl rfl rfl rfl rfl ?_ | refine sy_store 4 rfl rfl rfl rfl rfl rfl rfl rfl ?_) | (refine gI ?_; first | (refine sy_ov (ov_slice rfl rfl rfl ?_ ?_ ?_) rfl rfl ?_; (focus (first | omega | (simp <;> omega))); (focus (first | omega | (simp <;> omega))); focus (first | omega | (simp <;> omega))) | (refine sy_ov (ov_slice_lo rfl rfl ?_ ?_) rfl rfl ?_; omega; omega) | (refine sy_ov (ov_slice_hi rfl rfl ?_ ?_) rfl rfl ?_; omega; omega)) | (refine sy_ov (ov_pick_t rfl rfl ?_) rfl rfl ?_; focus (with_reducible rfl)) | (refine sy_ov (ov_pick_f rfl rfl ?_) rfl rfl ?_; focus (with_reducible rfl)) | refine sy_ov (ov_pick rfl rfl rfl) rfl rfl ?_ | refine sy_ov (ov_fieldAddr rfl rfl rfl) rfl rfl ?_ | (refine sy_ov (ov_index rfl rfl ?_ ?_) rfl rfl ?_; omega; omega) | refine sy_ov (ov_field rfl rfl rfl) rfl rfl ?_ | refine sy_ov (ov_fielda rfl rfl) rfl rfl ?_ | (refine sy_ov (ov_indexAddr rfl rfl ?_ ?_) rfl rfl ?_; omega; omega) | refine sy_ov (ov_build rfl rfl rfl) rfl rfl ?_ | (refine sy_ov (ov_convk rfl ?_ ?_) rfl rfl ?_; omega; omega) | refine sy_ov (ov_conv rfl) rfl rfl ?_ | (refine sy_box rfl rfl rfl ?_; intro _) | (refine sy_alloc rfl rfl rfl ?_; intro _)) | (refine sy_cond_t rfl ?_ ?_; (first | with_reducible rfl | assumption | omega | (simp <;> first | omega | assumption))) | (refine sy_cond_f rfl ?_ ?_; (first | with_reducible rfl | assumption | omega | (simp <;> first | omega | assumption))) | refine sy_rt ?_)
   refine ret_ccw 2 1 rfl rfl rfl rfl rfl rfl rfl rfl rfl fun w' hw' => ?_
   exact postE hw' [] (sub_self (List.nil_sublist _)) rfl hP
theorem praw2_c (s : List UInt8) (hs : s.length ≤ 100000000000000) : CallsE Try.prog 44 [S s] [] (PP s) := by
 by_cases h : s.length ≤ 100000000
 · exact praw_c s h
 · exact prawBig_c s 7 65536 [] (by unfold scanR; rw [if_pos (by omega)]) (by decide) hs
end Go.Proofs.Ytldjakeigjngoaa
/- How many values and letters a tree is. -/
namespace Go.Proofs.Ytldjakeigjngoaa
open Go.RowKit Go.Deep
mutual
def blkR : RawP → Nat
 | .mk _ _ _ s keys kids => 1 + s.length + (keys.map fun z => z.1.length).sum + blkRs kids
def blkRs : List RawP → Nat
 | [] => 0
 | x :: l => blkR x + blkRs l
end
theorem sixL {α : Type} {l : List α} (h : l.length = 6) : ∃ a b c d e f, l = [a, b, c, d, e, f] := by
 match l, h with
 | [a, b, c, d, e, f], _ => exact ⟨a, b, c, d, e, f, rfl⟩
theorem blkR_sum : ∀ (l : List RawA), (l.map fun z => blkR (plR z)).sum = blkRs (plRs l)
 | [] => rfl
 | x :: l => by simp only [List.map_cons, List.sum_cons, plRs, blkRs, blkR_sum l]
theorem sum_mem : ∀ {l : List WordT} {x : WordT}, x ∈ l → x.1.length ≤ (l.map fun z => z.1.length).sum
 | y :: l, x, h => by
  simp only [List.map_cons, List.sum_cons]
  rcases List.mem_cons.1 h with rfl | h
  · omega
  · have := sum_mem h; omega
mutual
theorem blk_ln (b : Nat) : ∀ (v : RawP), blkR v ≤ b → lnR b v
 | .mk k a n s keys kids, h => by
  simp only [blkR] at h
  exact ⟨by omega, fun x hx => by have := sum_mem hx; omega, blk_lns b kids (by omega)⟩
theorem blk_lns (b : Nat) : ∀ (l : List RawP), blkRs l ≤ b → lnRs b l
 | [], _ => trivial
 | x :: l, h => by
  simp only [blkRs] at h
  exact ⟨blk_ln b x (by omega), blk_lns b l (by omega)⟩
end
mutual
theorem blk_cnt : ∀ (v : RawP), cntR v ≤ blkR v
 | .mk k a n s keys kids => by
  have := blk_cnts kids
  simp only [blkR, cntR]; omega
theorem blk_cnts : ∀ (l : List RawP), cntRs l ≤ blkRs l
 | [] => by simp [cntRs]
 | x :: l => by
  have h1 := blk_cnt x
  have h2 := blk_cnts l
  simp only [blkRs, cntRs]; omega
end
theorem i64_pls : ∀ (l : List RawA), (∀ x ∈ l, i64R (plR x)) → i64Rs (plRs l)
 | [], _ => trivial
 | x :: l, h => ⟨h x (by simp), i64_pls l fun y hy => h y (by simp [hy])⟩
theorem RawIn.i64 {w : World} {z : RawA} (h : RawIn w z) : i64R (plR z) := by
 induction h with
 | mk k a n s pk ck keys p c kids b hw h1 h2 h3 ih => exact ⟨b.2.2.1, i64_pls kids ih⟩
section
variable {H : Type} {enc : TypeId × Value → H} {w : World} {base : Nat} {spare : Nat → Bool} {held : Bool}
set_option maxRecDepth 20000 in
theorem open_wordB {n : Nat} {cs : List Value} {y : DataW H × List MemPlace} (h : DataW.trod enc Try.prog w base spare held n 69 cs = some y) : ∃ z, cs = wordV z ∧ (I64 z.2 ∧ z.1.length ≤ maxLen) ∧ z.1.length ≤ Rows.uptoBulk y.1 := by
 obtain ⟨xs, m, _, hyx, hlen, hxl, hf⟩ := DataW.trod_struct Try.underlying69 h
 have hC : Try.prog.cellsOf 69 = 2 := by kernel_rfl
 rw [hC] at hlen
 match cs, hlen with
 | [v0, v1], _ =>
  have c0 : Try.prog.cellsOf 9 = 1 := by kernel_rfl
  have c1 : Try.prog.cellsOf 3 = 1 := by kernel_rfl
  have hx : ∀ i, i < 2 → ∃ y, xs[i]? = some y := fun i hi => ⟨xs[i]'(by rw [hxl]; exact hi), List.getElem?_eq_getElem _⟩
  obtain ⟨y0, hy0⟩ := hx 0 (by omega)
  have e0 : DataW.trod enc Try.prog w base spare held m 9 ([v0, v1].take (Try.prog.cellsOf 9)) = xs[0]? := hf 0 _ rfl
  rw [c0, hy0] at e0
  have e0 : DataW.trod enc Try.prog w base spare held m 9 [v0] = some y0 := e0
  obtain ⟨y1, hy1⟩ := hx 1 (by omega)
  have e1 : DataW.trod enc Try.prog w base spare held m 3 ([v1].take (Try.prog.cellsOf 3)) = xs[1]? := hf 1 _ rfl
  rw [c1, hy1] at e1
  have e1 : DataW.trod enc Try.prog w base spare held m 3 [v1] = some y1 := e1
  obtain ⟨s, hs, hsd, hs2⟩ := DataW.trod_string Try.underlying9 e0
  obtain ⟨i, hi, _, hi2⟩ := DataW.trod_int Try.underlying3 e1
  cases hs; cases hi
  obtain ⟨⟨l⟩⟩ := s
  have hsl : Rows.uptoBulk y0.1 = l.length + 1 := by rw [hsd]; exact bulk_string l
  have hb0 := bulk_at (l := xs.map (·.1)) (i := 0) (d := y0.1) (by rw [List.getElem?_map, hy0]; rfl)
  have hby : Rows.uptoBulk y.1 = Rows.uptoBulkAll (xs.map (·.1)) + 1 := by rw [hyx]; simp only [Rows.uptoBulk]
  exact ⟨(l, i), rfl, ⟨wf_i64 hi2, hs2⟩, by simp only; omega⟩
set_option maxRecDepth 20000 in
theorem open_rawB : ∀ (m : Nat) {n : Nat} {cs : List Value} {y : DataW H × List MemPlace}, n ≤ m → DataW.trod enc Try.prog w base spare held n 49 cs = some y → ∃ z, cs = rawV z ∧ RawIn w z ∧ blkR (plR z) ≤ Rows.uptoBulk y.1 := by
 intro m
 induction m with
 | zero =>
  intro n cs y hn h
  have : n = 0 := by omega
  subst this
  simp [DataW.trod] at h
 | succ m ih =>
  intro n cs y hn h
  obtain ⟨xs, q, hq, hyx, hlen, hxl, hf⟩ := DataW.trod_struct Try.underlying49 h
  have hC : Try.prog.cellsOf 49 = 6 := by kernel_rfl
  rw [hC] at hlen
  match cs, hlen with
  | [v0, v1, v2, v3, v4, v5], _ =>
   have c0 : Try.prog.cellsOf 9 = 1 := by kernel_rfl
   have c1 : Try.prog.cellsOf 3 = 1 := by kernel_rfl
   have c2 : Try.prog.cellsOf 46 = 1 := by kernel_rfl
   have c3 : Try.prog.cellsOf 47 = 1 := by kernel_rfl
   have hx : ∀ i, i < 6 → ∃ y, xs[i]? = some y := fun i hi => ⟨xs[i]'(by rw [hxl]; exact hi), List.getElem?_eq_getElem _⟩
   obtain ⟨y0, hy0⟩ := hx 0 (by omega)
   have e0 : DataW.trod enc Try.prog w base spare held q 3 ([v0, v1, v2, v3, v4, v5].take (Try.prog.cellsOf 3)) = xs[0]? := hf 0 _ rfl
   rw [c1, hy0] at e0
   have e0 : DataW.trod enc Try.prog w base spare held q 3 [v0] = some y0 := e0
   obtain ⟨y1, hy1⟩ := hx 1 (by omega)
   have e1 : DataW.trod enc Try.prog w base spare held q 3 ([v1, v2, v3, v4, v5].take (Try.prog.cellsOf 3)) = xs[1]? := hf 1 _ rfl
   rw [c1, hy1] at e1
   have e1 : DataW.trod enc Try.prog w base spare held q 3 [v1] = some y1 := e1
   obtain ⟨y2, hy2⟩ := hx 2 (by omega)
   have e2 : DataW.trod enc Try.prog w base spare held q 3 ([v2, v3, v4, v5].take (Try.prog.cellsOf 3)) = xs[2]? := hf 2 _ rfl
   rw [c1, hy2] at e2
   have e2 : DataW.trod enc Try.prog w base spare held q 3 [v2] = some y2 := e2
   obtain ⟨y3, hy3⟩ := hx 3 (by omega)
   have e3 : DataW.trod enc Try.prog w base spare held q 9 ([v3, v4, v5].take (Try.prog.cellsOf 9)) = xs[3]? := hf 3 _ rfl
   rw [c0, hy3] at e3
   have e3 : DataW.trod enc Try.prog w base spare held q 9 [v3] = some y3 := e3
   obtain ⟨y4, hy4⟩ := hx 4 (by omega)
   have e4 : DataW.trod enc Try.prog w base spare held q 46 ([v4, v5].take (Try.prog.cellsOf 46)) = xs[4]? := hf 4 _ rfl
   rw [c2, hy4] at e4
   have e4 : DataW.trod enc Try.prog w base spare held q 46 [v4] = some y4 := e4
   obtain ⟨y5, hy5⟩ := hx 5 (by omega)
   have e5 : DataW.trod enc Try.prog w base spare held q 47 ([v5].take (Try.prog.cellsOf 47)) = xs[5]? := hf 5 _ rfl
   rw [c3, hy5] at e5
   have e5 : DataW.trod enc Try.prog w base spare held q 47 [v5] = some y5 := e5
   obtain ⟨k, hk, _, hk2⟩ := DataW.trod_int Try.underlying3 e0
   obtain ⟨a, ha, _, ha2⟩ := DataW.trod_int Try.underlying3 e1
   obtain ⟨i, hi, _, hi2⟩ := DataW.trod_int Try.underlying3 e2
   obtain ⟨s, hs, hsd, hs2⟩ := DataW.trod_string Try.underlying9 e3
   obtain ⟨pk, nk, ck, keys, hv4, hkl, hkc, hkm, hks, hko, hkb, _⟩ := open_rowsB wordV (fun z => I64 z.2 ∧ z.1.length ≤ maxLen) (fun z => z.1.length) Try.underlying46 (by kernel_rfl) wordV_len (by decide) (fun n cs y _ h => open_wordB h) e4
   obtain ⟨p, nr, c, kids, hv5, hrl, hrc, hrm, hrs, hro, hrb, _⟩ := open_rowsB rawV (RawIn w) (fun z => blkR (plR z)) Try.underlying47 (by kernel_rfl) rawV_len (by decide) (fun n cs y hn h => ih (by omega) h) e5
   rw [blkR_sum] at hrb
   have hxs : xs.map (·.1) = [y0.1, y1.1, y2.1, y3.1, y4.1, y5.1] := by
    obtain ⟨a, b, c, d, e, f, rfl⟩ := sixL hxl
    cases hy0; cases hy1; cases hy2; cases hy3; cases hy4; cases hy5; rfl
   have hby : Rows.uptoBulk y.1 = Rows.uptoBulkAll [y0.1, y1.1, y2.1, y3.1, y4.1, y5.1] + 1 := by rw [hyx, ← hxs]; simp only [Rows.uptoBulk]
   cases hk; cases ha; cases hi; cases hs
   subst hv4; subst hv5; subst hkl; subst hrl
   obtain ⟨⟨l⟩⟩ := s
   have hsl : Rows.uptoBulk y3.1 = l.length + 1 := by rw [hsd]; exact bulk_string l
   refine ⟨.mk k a i l pk ck keys p c kids, rfl, .mk k a i l pk ck keys p c kids ⟨wf_i64 hk2, wf_i64 ha2, wf_i64 hi2, hs2, by omega, by omega⟩ hko hks hrs hro, ?_⟩
   simp only [plR, blkR]
   rw [hby]
   simp only [Rows.uptoBulkAll]
   omega
end
end Go.Proofs.Ytldjakeigjngoaa