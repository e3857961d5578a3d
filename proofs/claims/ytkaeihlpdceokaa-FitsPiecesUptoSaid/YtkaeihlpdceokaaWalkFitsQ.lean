/- The walk of blindfoldlaw30.FitsPieces. -/
import Derived.Test.YtkaeihlpdceokaaFit7Q
set_option linter.unusedVariables false
set_option linter.unusedSimpArgs false
namespace Go.Proofs.Ytkaeihlpdceokaa
open Go.RowKit Bf
instance ksPie : KS Try.prog 34 [.i .i64, .i .i64, .i .i64, .i .i64, .s] := ⟨by kernel_rfl, by kernel_rfl, by kernel_rfl⟩
instance ksPie2 : KS Try.prog 35 [.i .i64, .i .i64, .i .i64, .i .i64, .s] := ⟨by kernel_rfl, by kernel_rfl, by kernel_rfl⟩
theorem eqL_pie (x : PieT) : eqL (pieV x) (pieV x) = true := by
 obtain ⟨k, w, i, g, s⟩ := x
 simp [eqL, eqC, pieV]
theorem pie_get {l : List PieT} {i : Nat} {x : PieT} (hx : l[i]? = some x) (j : Nat) (u : Value) (hj : (pieV x)[j]? = some u) : (l.flatMap pieV)[0 + i * 5 + j]? = some u := by
 rw [Nat.zero_add]; exact flat_get pieV 5 pieV_len l i x hx j u hj
set_option maxRecDepth 20000 in
set_option maxHeartbeats 8000000 in
theorem fitsPieces_walk (w : World) (z : DocA) (hw0 : DocJ w z) (hB : blkD (plD z) ≤ 1048576) : Calls Try.prog 3 #[.agg ⟨docV z⟩] w fun e w' => e = .returned (.bool true) ∧ Below w.heap.size w w' := by
 have hJ : St (fun _ => False) w (fun w => DocJ w z) := St.start (DocJ.bl z) hw0
 have cg := fun w h => great29_c z w h
 have cp := fun w h => pieces_c z (by omega) w h
 have cr := fun w h => rright29_c _ z (Nat.le_refl _) (by omega) w h
 obtain ⟨r, hr⟩ : ∃ r, rightD (plD z) = r := ⟨_, rfl⟩
 rw [hr] at cr
 have cq := fun (h : r = true) w h' => rpieces_c _ z (Nat.le_refl _) 0 0 (by rw [hr, h]) (by omega) (Int.le_refl _) (by omega) (Int.le_refl _) (by omega) w h'
 have hbd := pcsD_bd (plD z) 0 0
 obtain ⟨L, hL⟩ : ∃ L, (pcsD (plD z) 0 0).1 = L := ⟨_, rfl⟩
 obtain ⟨G, hG⟩ : ∃ G, (pcsD (plD z) 0 0).2 = G := ⟨_, rfl⟩
 rw [hL, hG] at hbd
 obtain ⟨k, n, s, p, c, kids⟩ := z
 refine sy_enter rfl rfl ?_
 simp only [initFr]
 repeat (first | refine yK ?_ | (refine gO ?_; first | refine yP ?_ | (refine gL ?_; refine yL 0 ?_) | (refine sy_box rfl rfl rfl ?_; intro _)))
 rename_i b1
 refine sy_callN rfl rfl (fun w hw => cg w (hJ.at hw)) ?_
 rintro u es' ⟨g, rfl, rfl⟩
 simp only [List.nil_append]
 cases g with
 | true =>
  repeat (first | refine yK ?_ | refine yT ?_)
  refine sy_ov (ov_call rfl (fun w _ => lives30_c w)) rfl rfl ?_
  repeat (first | refine yK ?_ | (refine gO ?_; refine yP ?_) | refine sy_rt ?_)
  exact ret1 rfl rfl rfl
 | false =>
  repeat (first | refine yK ?_ | (refine gO ?_; (refine gL ?_; refine yL 0 ?_)) | refine yN ?_)
  refine sy_callN rfl rfl (fun w hw => cp w (hJ.at hw)) ?_
  rintro u es' (⟨hR, po, qo, rfl, rfl⟩ | ⟨hR, rfl, rfl⟩)
  · rw [hr] at hR
    subst hR
    rw [hL]
    simp only [List.cons_append, List.nil_append]
    repeat (first | refine yK ?_ | (refine gO ?_; first | refine yP ?_ | (refine gL ?_; refine yL 1 ?_)))
    refine sy_ov (ov_call rfl (fun w hw => cr w (hJ.at hw))) rfl rfl ?_
    repeat (first | refine yK ?_ | (refine gO ?_; first | refine yP ?_ | (refine gL ?_; refine yL 1 ?_)) | refine yN ?_)
    refine sy_callN rfl rfl (fun w hw => cq rfl w (hJ.at hw)) ?_
    rintro u es' ⟨pr, qr, rfl, rfl⟩
    rw [hL, hG]
    simp only [List.cons_append, List.nil_append]
    repeat (first | refine yK ?_ | (refine gO ?_; first | refine yP ?_ | (refine gG ?_; refine yG ?_) | (refine gK ?_; refine sy_ov (ov_lens rfl) rfl rfl ?_) | refine yE ?_) | refine yN ?_)
    refine sy_loop (α := Int) (fun i => [(3, .slice po L.length qo), (5, .slice pr L.length qr), (7, .int .i64 i)]) (fun _ => [fitR pr qr L, fitV po qo L]) (fun i => 0 ≤ i ∧ i ≤ L.length) (fun i => (L.length - i).toNat) 0 ⟨by omega, by omega⟩ ⟨⟨_, rfl, rfl⟩, ⟨_, rfl, rfl⟩, ⟨_, rfl, rfl⟩, trivial⟩ (sk (sk (List.nil_sublist _))) ?_
    rintro i ⟨i0, i1⟩
    by_cases hlt : i < L.length
    · obtain ⟨x, hx⟩ : ∃ x, L[i.toNat]? = some x := ⟨_, List.getElem?_eq_getElem (by omega)⟩
      refine sy_vecAddr 0 rfl (by omega) (fun g1 hg1 => ?_)
      subst hg1
      refine sy_vecAddr 1 rfl (by omega) (fun g2 hg2 => ?_)
      subst hg2
      repeat (first | refine yK ?_ | (refine gO ?_; first | refine yP ?_ | (refine gK ?_; refine sy_ov (ov_lens rfl) rfl rfl ?_)) | refine yT ?_)
      refine sy_draw 8 (by kernel_rfl) ?_
      repeat (first | refine dr_op (ov_p rfl) rfl rfl ?_ | (refine dr_op (ov_indexAddr rfl rfl ?_ ?_) rfl rfl ?_; omega; omega))
      refine dr_op (ov_loadva 1 (vs := pieV x) rfl rfl rfl (pieV_len x) (fun j u hj => pie_get hx j u hj)) rfl rfl ?_
      repeat (first | refine dr_op (ov_p rfl) rfl rfl ?_ | (refine dr_op (ov_indexAddr rfl rfl ?_ ?_) rfl rfl ?_; omega; omega))
      refine dr_op (ov_loadva 0 (vs := pieV x) rfl rfl rfl (pieV_len x) (fun j u hj => pie_get hx j u hj)) rfl rfl ?_
      repeat (refine dr_end ?_)
      skip
      refine sy_ov (ov_nest (xs := pieV x) (ys := pieV x) rfl rfl rfl rfl) rfl rfl ?_
      rw [eqL_pie]
      repeat (first | refine yK ?_ | (refine gO ?_; first | refine yP ?_ | (refine gB ?_; (refine sy_ov (ov_ar rfl rfl rfl ?_ ?_) rfl rfl ?_; omega; omega))) | refine yN ?_)
      refine sy_back (i + 1) ⟨by omega, by omega⟩ (by omega) ⟨⟨_, rfl, rfl⟩, ⟨_, rfl, rfl⟩, ⟨_, rfl, rfl⟩, trivial⟩ (List.Sublist.refl _)
    · repeat (first | refine yK ?_ | (refine gO ?_; first | refine yP ?_ | (refine gK ?_; refine sy_ov (ov_lens rfl) rfl rfl ?_)) | refine yN ?_)
      refine sy_ov (ov_call rfl (fun w _ => lives30_c w)) rfl rfl ?_
      repeat (first | refine yK ?_ | (refine gO ?_; refine yP ?_) | refine sy_rt ?_)
      exact ret1 rfl rfl rfl
  · rw [hr] at hR
    subst hR
    simp only [List.nil_append]
    repeat (first | refine yK ?_ | (refine gO ?_; first | refine yP ?_ | (refine gL ?_; refine yL 0 ?_)))
    refine sy_ov (ov_call rfl (fun w hw => cr w (hJ.at hw))) rfl rfl ?_
    repeat (first | refine yK ?_ | (refine gO ?_; first | refine yP ?_ | (refine gG ?_; refine yG ?_) | (refine gK ?_; refine sy_ov (ov_lens rfl) rfl rfl ?_) | refine yM ?_) | refine yT ?_)
    refine sy_ov (ov_call rfl (fun w _ => lives30_c w)) rfl rfl ?_
    repeat (first | refine yK ?_ | (refine gO ?_; first | refine yP ?_ | refine yM ?_) | refine sy_rt ?_)
    exact ret1 rfl rfl rfl
end Go.Proofs.Ytkaeihlpdceokaa