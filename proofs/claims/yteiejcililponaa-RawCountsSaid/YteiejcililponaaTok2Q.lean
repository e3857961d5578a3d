/- Contracts of the package tokens: all tokens of a text. -/
import Derived.Test.YteiejcililponaaTokQ
import Derived.Test.YteiejcililponaaBPT
import Derived.Test.YteiejcililponaaBPT
set_option linter.unusedVariables false
set_option linter.unusedSimpArgs false
namespace Go.Proofs.Yteiejcililponaa
open Go.RowKit Bf
section
variable {P : Program} {C : Cx} {k : List It} {fr : Fr} {hp : List En} {x : Exit}
theorem leave_grow (e : TypeId) (size : Nat) (h : Leave P C x k fr (vec e size (.slice none 0 0) 0 [] :: hp)) : Leave P C x k fr hp :=
  .mk fun a w ha hw => h.go a w ha (hw.nil e size)
end
theorem flat_snoc {α : Type} (f : α → List Value) (l : List α) (x : α) : (l ++ [x]).flatMap f = l.flatMap f ++ f x := by simp
def ScanR (s : List UInt8) (v : Value) (e' : En) : Prop := ∃ p q, v = .tuple #[.slice p (scanR s).1.length q, faultV (scanR s).2.1 (scanR s).2.2] ∧ e' = vec 64 5 (.slice p (scanR s).1.length q) (scanR s).1.length ((scanR s).1.flatMap tokV)
theorem ScanR.mk' {s : List UInt8} {L : List TokT} {e a : Int} {n : Nat} {cs : List Value} (h : scanR s = (L, e, a)) (p : Option Addr) (q : Nat) (hn : n = L.length) (hcs : cs = L.flatMap tokV) : ScanR s (.tuple #[.slice p n q, faultV e a]) (vec 64 5 (.slice p n q) n cs) := by
  subst hn; subst hcs
  exact ⟨p, q, by rw [h], by rw [h]⟩
structure TkSt where
  i : Int
  p : Option Addr
  q : Nat
  acc : List TokT
theorem remL_bd59 {s : List UInt8} {i : Int} (h0 : 0 ≤ i) (hlt : i < s.length) (hb : bt s i = 59) {n : Nat} {e : Int} (hr : remL (s.drop i.toNat) = (n, e)) : 0 < n := by
  have := remL_semi (s.drop i.toNat) (by rw [bt_at s i h0]; exact hb) (drop_ne' s i h0 hlt)
  rw [hr] at this; exact this
set_option maxRecDepth 20000 in
set_option maxHeartbeats 4000000 in
theorem scan_c (s : List UInt8) (hs : s.length ≤ 1000000000000000) (w : World) : Calls Try.prog 40 #[S s] w fun x w' => ∃ v e', ScanR s v e' ∧ x = .returned v ∧ e'.holds w' ∧ Below w.heap.size w w' ∧ ∀ b, e'.dom b → w.heap.size ≤ b ∧ b < w'.heap.size := by
  by_cases hbig : 65536 < s.length
  · have hr : scanR s = ([], 7, 65536) := if_pos hbig
    refine sy_enter rfl rfl ?_
    simp only [initFr]
    repeat (first | refine sy_k rfl rfl ?_ | (refine gO ?_; first | refine sy_ov (ov_p rfl) rfl rfl ?_ | (refine sy_alloc rfl rfl rfl ?_; intro _)))
    refine sy_scope (fun _ _ _ h => h) ?_
    repeat (first | refine sy_k rfl rfl ?_ | (refine gO ?_; first | refine sy_ov (ov_p rfl) rfl rfl ?_ | (refine gK ?_; refine sy_ov (ov_len rfl) rfl rfl ?_) | (refine gS ?_; refine sy_store 0 rfl rfl rfl rfl rfl rfl rfl rfl ?_) | refine sy_ov (ov_build rfl rfl rfl) rfl rfl ?_) | (refine sy_cond_t rfl ?_ ?_; focus (first | with_reducible rfl | assumption | omega | (simp <;> first | omega | assumption))) | refine sy_rt ?_)
    refine leave_grow 64 5 ?_
    refine ret2cw 1 rfl rfl rfl rfl rfl rfl fun w' hw' => new_at hw' 0 rfl rfl (by exact ScanR.mk' hr none 0 rfl rfl)
  · have hR : scanR s = scanT s 0 := if_neg hbig
    refine sy_enter rfl rfl ?_
    simp only [initFr]
    repeat (first | refine sy_k rfl rfl ?_ | (refine gO ?_; first | refine sy_ov (ov_p rfl) rfl rfl ?_ | (refine sy_alloc rfl rfl rfl ?_; intro _)))
    refine sy_scope (fun _ _ _ h => h) ?_
    repeat (first | refine sy_k rfl rfl ?_ | (refine gO ?_; first | refine sy_ov (ov_p rfl) rfl rfl ?_ | (refine gK ?_; refine sy_ov (ov_len rfl) rfl rfl ?_) | (refine sy_alloc rfl rfl rfl ?_; intro _)) | (refine sy_cond_f rfl ?_ ?_; focus (first | with_reducible rfl | assumption | omega | (simp <;> first | omega | assumption))))
    rename_i b3 b5
    refine sy_grow 64 5 ?_
    refine sy_loop (α := TkSt) (fun a => [(0, S s), (3, .pointer (some ⟨b3, 0, none⟩)), (4, .slice a.p a.acc.length a.q), (5, .pointer (some ⟨b5, 0, none⟩)), (6, .int .i64 a.i)]) (fun a => [vec 64 5 (.slice a.p a.acc.length a.q) a.acc.length (a.acc.flatMap tokV), blk b5 55 [.int .i64 0, .int .i64 0], blk b3 55 [.int .i64 0, .int .i64 0]]) (fun a => SInv s a.i a.acc) (fun a => (s.length - a.i).toNat) ⟨0, none, 0, []⟩ (SInv.start s) ⟨⟨_, rfl, rfl⟩, ⟨_, rfl, rfl⟩, ⟨_, rfl, rfl⟩, ⟨_, rfl, rfl⟩, ⟨_, rfl, rfl⟩, trivial⟩ (List.Sublist.refl _) ?_
    rintro ⟨i, p, q, acc⟩ hi
    have i0 := hi.i0
    have i1 := hi.i1
    have ik := hi.n
    dsimp only at hi i0 i1 ik ⊢
    by_cases hlt : i < s.length
    · obtain ⟨bl, hbl⟩ : ∃ bl, blankB (bt s i) = bl := ⟨_, rfl⟩
      cases bl with
      | true =>
        repeat (first | refine sy_k rfl rfl ?_ | (refine gO ?_; first | refine sy_ov (ov_p rfl) rfl rfl ?_ | (refine gK ?_; refine sy_ov (ov_len rfl) rfl rfl ?_) | (refine sy_ov (ov_index rfl rfl ?_ ?_) rfl rfl ?_; omega; omega)) | (refine sy_cond_t rfl ?_ ?_; focus (first | with_reducible rfl | assumption | omega | (simp <;> first | omega | assumption))))
        refine sy_ov (ov_call rfl (fun w _ => blank_c _ true hbl w)) rfl rfl ?_
        repeat (first | refine sy_k rfl rfl ?_ | (refine gO ?_; first | refine sy_ov (ov_p rfl) rfl rfl ?_ | (refine gB ?_; (refine sy_ov (ov_ar rfl rfl rfl ?_ ?_) rfl rfl ?_; omega; omega))) | (refine sy_cond_t rfl ?_ ?_; focus (first | with_reducible rfl | assumption | omega | (simp <;> first | omega | assumption))))
        refine sy_back ⟨i + 1, p, q, acc⟩ (hi.blank hlt hbl) (by dsimp only; omega) ⟨⟨_, rfl, rfl⟩, ⟨_, rfl, rfl⟩, ⟨_, rfl, rfl⟩, ⟨_, rfl, rfl⟩, ⟨_, rfl, rfl⟩, trivial⟩ (List.Sublist.refl _)
      | false =>
        by_cases h59 : bt s i = 59
        · obtain ⟨n, e, hrem⟩ : ∃ n e, remL (s.drop i.toNat) = (n, e) := ⟨_, _, rfl⟩
          have hn := remL_bd59 i0 hlt h59 hrem
          have hc := remark_c s i n e hrem i0 (by omega) (by omega)
          by_cases he : e = 0
          · subst he
            rw [if_pos rfl, if_pos rfl] at hc
            have hst := hi.rem hlt h59 hrem hn
            have := hst.i1
            repeat (first | refine sy_k rfl rfl ?_ | (refine gO ?_; first | refine sy_ov (ov_p rfl) rfl rfl ?_ | (refine gK ?_; refine sy_ov (ov_len rfl) rfl rfl ?_) | (refine sy_ov (ov_index rfl rfl ?_ ?_) rfl rfl ?_; omega; omega)) | (refine sy_cond_t rfl ?_ ?_; focus (first | with_reducible rfl | assumption | omega | (simp <;> first | omega | assumption))))
            refine sy_ov (ov_call rfl (fun w _ => blank_c _ false hbl w)) rfl rfl ?_
            repeat (first | refine sy_k rfl rfl ?_ | (refine gO ?_; first | refine sy_ov (ov_p rfl) rfl rfl ?_ | (refine sy_ov (ov_index rfl rfl ?_ ?_) rfl rfl ?_; omega; omega)) | (refine sy_cond_t rfl ?_ ?_; focus (first | with_reducible rfl | assumption | omega | (simp <;> first | omega | assumption))) | (refine sy_cond_f rfl ?_ ?_; focus (first | with_reducible rfl | assumption | omega | (simp <;> first | omega | assumption))))
            refine sy_ov (ov_call rfl (fun w _ => hc w)) rfl rfl ?_
            repeat (first | refine sy_k rfl rfl ?_ | (refine gO ?_; first | refine sy_ov (ov_p rfl) rfl rfl ?_ | (refine gL ?_; refine sy_ov (ov_ld 1 rfl rfl rfl) rfl rfl ?_) | (refine gS ?_; refine sy_store 1 rfl rfl rfl rfl rfl rfl rfl rfl ?_) | refine sy_ov (ov_fieldAddr rfl rfl rfl) rfl rfl ?_) | (refine sy_cond_f rfl ?_ ?_; focus (first | with_reducible rfl | assumption | omega | (simp <;> first | omega | assumption))))
            refine sy_back ⟨i + n, p, q, acc⟩ hst (by dsimp only; omega) ⟨⟨_, rfl, rfl⟩, ⟨_, rfl, rfl⟩, ⟨_, rfl, rfl⟩, ⟨_, rfl, rfl⟩, ⟨_, rfl, rfl⟩, trivial⟩ (List.Sublist.refl _)
          · rw [if_neg he, if_neg he] at hc
            have hr := hi.remBad hlt h59 hrem he
            rw [← hR] at hr
            repeat (first | refine sy_k rfl rfl ?_ | (refine gO ?_; first | refine sy_ov (ov_p rfl) rfl rfl ?_ | (refine gK ?_; refine sy_ov (ov_len rfl) rfl rfl ?_) | (refine sy_ov (ov_index rfl rfl ?_ ?_) rfl rfl ?_; omega; omega)) | (refine sy_cond_t rfl ?_ ?_; focus (first | with_reducible rfl | assumption | omega | (simp <;> first | omega | assumption))))
            refine sy_ov (ov_call rfl (fun w _ => blank_c _ false hbl w)) rfl rfl ?_
            repeat (first | refine sy_k rfl rfl ?_ | (refine gO ?_; first | refine sy_ov (ov_p rfl) rfl rfl ?_ | (refine sy_ov (ov_index rfl rfl ?_ ?_) rfl rfl ?_; omega; omega)) | (refine sy_cond_t rfl ?_ ?_; focus (first | with_reducible rfl | assumption | omega | (simp <;> first | omega | assumption))) | (refine sy_cond_f rfl ?_ ?_; focus (first | with_reducible rfl | assumption | omega | (simp <;> first | omega | assumption))))
            refine sy_ov (ov_call rfl (fun w _ => hc w)) rfl rfl ?_
            repeat (first | refine sy_k rfl rfl ?_ | (refine gO ?_; first | refine sy_ov (ov_p rfl) rfl rfl ?_ | (refine gL ?_; refine sy_ov (ov_ld 1 rfl rfl rfl) rfl rfl ?_) | (refine gS ?_; refine sy_store 1 rfl rfl rfl rfl rfl rfl rfl rfl ?_) | refine sy_ov (ov_fieldAddr rfl rfl rfl) rfl rfl ?_) | (refine sy_cond_t rfl ?_ ?_; focus (first | with_reducible rfl | assumption | omega | (simp <;> first | omega | assumption))))
            refine sy_draw 2 (by kernel_rfl) ?_
            repeat (first | refine dr_op (ov_p rfl) rfl rfl ?_ | refine dr_op (ov_ld 1 rfl rfl rfl) rfl rfl ?_ | refine dr_end ?_)
            repeat (first | refine sy_k rfl rfl ?_ | (refine gO ?_; (refine gS ?_; refine sy_store 2 rfl rfl rfl rfl rfl rfl rfl rfl ?_)) | refine sy_rt ?_)
            refine leave_grow 64 5 ?_
            refine ret2cw 3 rfl rfl rfl rfl rfl rfl fun w' hw' => new_at hw' 0 rfl rfl (by exact ScanR.mk' hr none 0 rfl rfl)
        · obtain ⟨t, e, a, htk⟩ := trip (tokA s i.toNat)
          have hii : ((i.toNat : Nat) : Int) = i := Int.toNat_of_nonneg i0
          have hc := token_c s i.toNat _ htk (by omega) (by omega)
          rw [hii] at hc
          by_cases he : e = 0
          · subst he
            obtain ⟨hst, hgt⟩ := hi.tok hlt hbl h59 htk
            have := hst.i1
            have hk := hst.n
            have e1 : (acc ++ [t]).length = acc.length + 1 := by simp
            have e2 := flat_snoc tokV acc t
            rw [e1] at hk
            have hp0 : a = 0 := (tokA_ok0 s i.toNat htk).1 rfl
            subst hp0
            repeat (first | refine sy_k rfl rfl ?_ | (refine gO ?_; first | refine sy_ov (ov_p rfl) rfl rfl ?_ | (refine gK ?_; refine sy_ov (ov_len rfl) rfl rfl ?_) | (refine sy_ov (ov_index rfl rfl ?_ ?_) rfl rfl ?_; omega; omega)) | (refine sy_cond_t rfl ?_ ?_; focus (first | with_reducible rfl | assumption | omega | (simp <;> first | omega | assumption))))
            refine sy_ov (ov_call rfl (fun w _ => blank_c _ false hbl w)) rfl rfl ?_
            repeat (first | refine sy_k rfl rfl ?_ | (refine gO ?_; first | refine sy_ov (ov_p rfl) rfl rfl ?_ | (refine sy_ov (ov_index rfl rfl ?_ ?_) rfl rfl ?_; omega; omega) | (refine sy_alloc rfl rfl rfl ?_; intro _)) | (refine sy_cond_f rfl ?_ ?_; focus (first | with_reducible rfl | assumption | omega | (simp <;> first | omega | assumption))))
            refine sy_ov (ov_call rfl (fun w _ => hc w)) rfl rfl ?_
            repeat (first | refine sy_k rfl rfl ?_ | (refine gO ?_; first | refine sy_ov (ov_p rfl) rfl rfl ?_ | (refine gL ?_; first | refine sy_ov (ov_ld 0 rfl rfl rfl) rfl rfl ?_ | refine sy_ov (ov_ld 2 rfl rfl rfl) rfl rfl ?_) | (refine gS ?_; first | refine sy_store 0 rfl rfl rfl rfl rfl rfl rfl rfl ?_ | refine sy_store 2 rfl rfl rfl rfl rfl rfl rfl rfl ?_) | refine sy_ov (ov_fieldAddr rfl rfl rfl) rfl rfl ?_) | (refine sy_cond_f rfl ?_ ?_; focus (first | with_reducible rfl | assumption | omega | (simp <;> first | omega | assumption))))
            refine sy_buildSlice rfl rfl rfl rfl rfl rfl rfl rfl ?_
            intro nb
            refine sy_append 2 0 rfl rfl rfl rfl rfl rfl rfl rfl rfl rfl rfl (by omega) (by refine Nat.le_trans (Nat.mul_le_mul_left _ (Nat.le_of_ble_eq_true (m := 1024) rfl)) ?_; omega) ?_
            intro p' q'
            repeat (first | refine sy_k rfl rfl ?_ | (refine gO ?_; first | refine sy_ov (ov_p rfl) rfl rfl ?_ | (refine gL ?_; refine sy_ov (ov_ld 1 rfl rfl rfl) rfl rfl ?_) | refine sy_ov (ov_fieldAddr rfl rfl rfl) rfl rfl ?_))
            refine sy_back ⟨t.2.2.1, some p', q', acc ++ [t]⟩ hst (by dsimp only; omega) ⟨⟨_, rfl, rfl⟩, ⟨_, rfl, rfl⟩, ⟨_, rfl, by rw [e1]⟩, ⟨_, rfl, rfl⟩, ⟨_, rfl, rfl⟩, trivial⟩ (by dsimp only; rw [e1, e2]; exact sd (sd sr))
          · have hr := hi.tokBad hlt hbl h59 htk he
            rw [← hR] at hr
            repeat (first | refine sy_k rfl rfl ?_ | (refine gO ?_; first | refine sy_ov (ov_p rfl) rfl rfl ?_ | (refine gK ?_; refine sy_ov (ov_len rfl) rfl rfl ?_) | (refine sy_ov (ov_index rfl rfl ?_ ?_) rfl rfl ?_; omega; omega)) | (refine sy_cond_t rfl ?_ ?_; focus (first | with_reducible rfl | assumption | omega | (simp <;> first | omega | assumption))))
            refine sy_ov (ov_call rfl (fun w _ => blank_c _ false hbl w)) rfl rfl ?_
            repeat (first | refine sy_k rfl rfl ?_ | (refine gO ?_; first | refine sy_ov (ov_p rfl) rfl rfl ?_ | (refine sy_ov (ov_index rfl rfl ?_ ?_) rfl rfl ?_; omega; omega) | (refine sy_alloc rfl rfl rfl ?_; intro _)) | (refine sy_cond_f rfl ?_ ?_; focus (first | with_reducible rfl | assumption | omega | (simp <;> first | omega | assumption))))
            refine sy_ov (ov_call rfl (fun w _ => hc w)) rfl rfl ?_
            repeat (first | refine sy_k rfl rfl ?_ | (refine gO ?_; first | refine sy_ov (ov_p rfl) rfl rfl ?_ | (refine gL ?_; refine sy_ov (ov_ld 2 rfl rfl rfl) rfl rfl ?_) | (refine gS ?_; first | refine sy_store 0 rfl rfl rfl rfl rfl rfl rfl rfl ?_ | refine sy_store 2 rfl rfl rfl rfl rfl rfl rfl rfl ?_) | refine sy_ov (ov_fieldAddr rfl rfl rfl) rfl rfl ?_) | (refine sy_cond_t rfl ?_ ?_; focus (first | with_reducible rfl | assumption | omega | (simp <;> first | omega | assumption))))
            refine sy_draw 2 (by kernel_rfl) ?_
            repeat (first | refine dr_op (ov_p rfl) rfl rfl ?_ | refine dr_op (ov_ld 2 rfl rfl rfl) rfl rfl ?_ | refine dr_end ?_)
            repeat (first | refine sy_k rfl rfl ?_ | (refine gO ?_; (refine gS ?_; refine sy_store 3 rfl rfl rfl rfl rfl rfl rfl rfl ?_)) | refine sy_rt ?_)
            refine leave_grow 64 5 ?_
            refine ret2cw 4 rfl rfl rfl rfl rfl rfl fun w' hw' => new_at hw' 0 rfl rfl (by exact ScanR.mk' hr none 0 rfl rfl)
    · have hr := hi.fin hlt
      rw [← hR] at hr
      have e1 : (acc ++ [((0, i, i, [], 0) : TokT)]).length = acc.length + 1 := by simp
      have e2 := flat_snoc tokV acc (0, i, i, [], 0)
      repeat (first | refine sy_k rfl rfl ?_ | (refine gO ?_; first | refine sy_ov (ov_p rfl) rfl rfl ?_ | (refine gK ?_; refine sy_ov (ov_len rfl) rfl rfl ?_) | (refine gL ?_; refine sy_ov (ov_ld 1 rfl rfl rfl) rfl rfl ?_) | refine sy_ov (ov_fieldAddr rfl rfl rfl) rfl rfl ?_) | (refine sy_cond_f rfl ?_ ?_; focus (first | with_reducible rfl | assumption | omega | (simp <;> first | omega | assumption))))
      refine sy_drawE _ 8 [(0, false), (1, false), (2, false), (3, false), (6, false), (4, true), (5, true), (7, false)] (by kernel_rfl) rfl (sd sr) ?_
      repeat (first | refine dre_rd (fun _ _ => ov_p rfl) rfl ?_ | refine dre_rd (fun _ _ => ov_ld 0 rfl rfl rfl) rfl ?_ | refine dre_rd (fun _ _ => ov_build rfl rfl rfl) rfl ?_)
      refine dre_ef rfl ?_
      refine sy_buildSlice rfl rfl rfl rfl rfl rfl rfl rfl ?_
      intro nb
      refine dre_ek (by repeat first | exact sr | apply sk | apply sd) ?_
      refine dre_ef rfl ?_
      refine sy_append 1 0 rfl rfl rfl rfl rfl rfl rfl rfl rfl rfl rfl (by omega) (by refine Nat.le_trans (Nat.mul_le_mul_left _ (Nat.le_of_ble_eq_true (m := 1024) rfl)) ?_; omega) ?_
      intro p' q'
      refine dre_ek (by repeat first | exact sr | apply sk | apply sd) ?_
      repeat (first | refine dre_rd (fun _ _ => ov_p rfl) rfl ?_ | refine dre_end ?_)
      repeat (first | refine sy_k rfl rfl ?_ | (refine gO ?_; (refine gS ?_; refine sy_store 3 rfl rfl rfl rfl rfl rfl rfl rfl ?_)) | refine sy_rt ?_)
      refine ret2cw 3 rfl rfl rfl rfl rfl rfl fun w' hw' => new_at hw' 1 rfl rfl (by exact ScanR.mk' hr (some p') q' e1.symm e2.symm)
end Go.Proofs.Yteiejcililponaa
