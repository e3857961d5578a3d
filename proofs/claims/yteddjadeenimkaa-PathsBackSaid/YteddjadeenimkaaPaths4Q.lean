/- Contracts: Parse of paths, of both. -/
import Derived.Test.YteddjadeenimkaaPaths2Q
set_option linter.unusedVariables false
set_option linter.unusedSimpArgs false
namespace Go.Proofs.Yteddjadeenimkaa
open Go.RowKit Bf
def PathR (s : List UInt8) (v : Value) (e' : En) : Prop := ∃ p q, v = .tuple #[.slice p (pathL 0 s).1.length q, faultV (pathL 0 s).2.1 (pathL 0 s).2.2] ∧ e' = vec 95 3 (.slice p (pathL 0 s).1.length q) (pathL 0 s).1.length ((pathL 0 s).1.flatMap stpV)
structure PthSt where
  i : Int
  p : Option Addr
  q : Nat
  acc : List StepT
theorem PathR.mk' {s : List UInt8} {l : List StepT} {e a : Int} (h : pathL 0 s = (l, e, a)) (p : Option Addr) (q : Nat) : PathR s (.tuple #[.slice p l.length q, faultV e a]) (vec 95 3 (.slice p l.length q) l.length (l.flatMap stpV)) := ⟨p, q, by rw [h], by rw [h]⟩
theorem flat_snoc {α : Type} (f : α → List Value) (l : List α) (x : α) : (l ++ [x]).flatMap f = l.flatMap f ++ f x := by simp
section
variable {P : Program} {C : Cx} {k : List It} {fr : Fr} {hp : List En} {x : Exit}
theorem leave_grow (e : TypeId) (size : Nat) (h : Leave P C x k fr (vec e size (.slice none 0 0) 0 [] :: hp)) : Leave P C x k fr hp :=
  .mk fun a w ha hw => h.go a w ha (hw.nil e size)
end
set_option maxRecDepth 20000 in
set_option maxHeartbeats 4000000 in
theorem pparse_c (s : List UInt8) (hs : s.length ≤ 1000000000) (w : World) : Calls Try.prog 29 #[S s] w fun x w' => ∃ v e', PathR s v e' ∧ x = .returned v ∧ e'.holds w' ∧ Below w.heap.size w w' ∧ ∀ b, e'.dom b → w.heap.size ≤ b ∧ b < w'.heap.size := by
  refine sy_enter rfl rfl ?_
  simp only [initFr]
  repeat (first | refine sy_k rfl rfl ?_ | (refine gO ?_; first | refine sy_ov (ov_p rfl) rfl rfl ?_ | (refine sy_alloc rfl rfl rfl ?_; intro _)))
  refine sy_scope (fun _ _ _ h => h) ?_
  repeat (first | refine sy_k rfl rfl ?_ | (refine gO ?_; first | refine sy_ov (ov_p rfl) rfl rfl ?_ | (refine sy_alloc rfl rfl rfl ?_; intro _)))
  rename_i b3 b5
  refine sy_grow 95 3 ?_
  refine sy_loop (α := PthSt) (fun a => [(0, S s), (3, .pointer (some ⟨b3, 0, none⟩)), (4, .slice a.p a.acc.length a.q), (5, .pointer (some ⟨b5, 0, none⟩)), (6, .int .i64 a.i)]) (fun a => [vec 95 3 (.slice a.p a.acc.length a.q) a.acc.length (a.acc.flatMap stpV), blk b5 38 [.int .i64 0, .int .i64 0], blk b3 38 [.int .i64 0, .int .i64 0]]) (fun a => PInv s a.i a.acc) (fun a => (s.length - a.i).toNat) ⟨0, none, 0, []⟩ (PInv.start s) ⟨⟨_, rfl, rfl⟩, ⟨_, rfl, rfl⟩, ⟨_, rfl, rfl⟩, ⟨_, rfl, rfl⟩, ⟨_, rfl, rfl⟩, trivial⟩ (List.Sublist.refl _) ?_
  rintro ⟨i, p, q, acc⟩ hi
  have i0 := hi.i0
  have i1 := hi.i1
  have ik := hi.k
  dsimp only at hi i0 i1 ik ⊢
  by_cases hlt : i < s.length
  · by_cases h64 : acc.length = 64
    · have hr := hi.many hlt h64
      have h64' : (acc.length : Int) = 64 := by omega
      repeat (first | refine sy_k rfl rfl ?_ | (refine gO ?_; first | refine sy_ov (ov_p rfl) rfl rfl ?_ | (refine gK ?_; first | refine sy_ov (ov_len rfl) rfl rfl ?_ | refine sy_ov (ov_lens rfl) rfl rfl ?_) | (refine gL ?_; refine sy_ov (ov_ld 1 rfl rfl rfl) rfl rfl ?_) | (refine gS ?_; refine sy_store 1 rfl rfl rfl rfl rfl rfl rfl rfl ?_) | refine sy_ov (ov_fieldAddr rfl rfl rfl) rfl rfl ?_ | refine sy_ov (ov_build rfl rfl rfl) rfl rfl ?_) | (refine sy_cond_t rfl ?_ ?_; focus (first | with_reducible rfl | assumption | omega | (simp <;> first | omega | assumption))))
      refine sy_draw 2 (by kernel_rfl) ?_
      repeat (first | refine dr_op (ov_p rfl) rfl rfl ?_ | refine dr_op (ov_ld 1 rfl rfl rfl) rfl rfl ?_ | refine dr_end ?_)
      repeat (first | refine sy_k rfl rfl ?_ | (refine gO ?_; (refine gS ?_; refine sy_store 2 rfl rfl rfl rfl rfl rfl rfl rfl ?_)) | refine sy_rt ?_)
      refine leave_grow 95 3 ?_
      refine ret2cw 3 rfl rfl rfl rfl rfl rfl fun w' hw' => new_at hw' 0 rfl rfl (by exact PathR.mk' hr none 0)
    · obtain ⟨x, n, e, a, hst⟩ : ∃ x n e a, stepL (s.drop i.toNat) = (x, n, e, a) := ⟨_, _, _, _, rfl⟩
      have hc := step_c s i i0 hlt (by omega)
      have h64' : ¬ (acc.length : Int) = 64 := by omega
      rw [hst] at hc
      by_cases he : e = 0
      · subst he
        obtain ⟨hst', hn⟩ := hi.step hlt h64 hst
        rw [rdV0] at hc
        have := hst'.i1
        have e1 : (acc ++ [x]).length = acc.length + 1 := by simp
        have e2 := flat_snoc stpV acc x
        repeat (first | refine sy_k rfl rfl ?_ | (refine gO ?_; first | refine sy_ov (ov_p rfl) rfl rfl ?_ | (refine gK ?_; first | refine sy_ov (ov_len rfl) rfl rfl ?_ | refine sy_ov (ov_lens rfl) rfl rfl ?_)) | (refine sy_cond_t rfl ?_ ?_; focus (first | with_reducible rfl | assumption | omega | (simp <;> first | omega | assumption))) | (refine sy_cond_f rfl ?_ ?_; focus (first | with_reducible rfl | assumption | omega | (simp <;> first | omega | assumption))))
        refine sy_ov (ov_call rfl (fun w _ => hc w)) rfl rfl ?_
        repeat (first | refine sy_k rfl rfl ?_ | (refine gO ?_; first | refine sy_ov (ov_p rfl) rfl rfl ?_ | (refine gL ?_; first | refine sy_ov (ov_ld 0 rfl rfl rfl) rfl rfl ?_ | refine sy_ov (ov_ld 1 rfl rfl rfl) rfl rfl ?_) | (refine gS ?_; first | refine sy_store 0 rfl rfl rfl rfl rfl rfl rfl rfl ?_ | refine sy_store 1 rfl rfl rfl rfl rfl rfl rfl rfl ?_) | refine sy_ov (ov_fieldAddr rfl rfl rfl) rfl rfl ?_ | (refine sy_alloc rfl rfl rfl ?_; intro _)) | (refine sy_cond_f rfl ?_ ?_; focus (first | with_reducible rfl | assumption | omega | (simp <;> first | omega | assumption))))
        refine sy_buildSlice rfl rfl rfl rfl rfl rfl rfl rfl ?_
        intro nb
        refine sy_append 3 0 rfl rfl rfl rfl rfl rfl rfl rfl rfl rfl rfl (by omega) (by refine Nat.le_trans (Nat.mul_le_mul_left _ (Nat.le_of_ble_eq_true (m := 1024) rfl)) ?_; omega) ?_
        intro p' q'
        repeat (first | refine sy_k rfl rfl ?_ | (refine gO ?_; refine sy_ov (ov_p rfl) rfl rfl ?_))
        refine sy_back ⟨i + n, some p', q', acc ++ [x]⟩ hst' (by dsimp only; omega) ⟨⟨_, rfl, rfl⟩, ⟨_, rfl, rfl⟩, ⟨_, rfl, by rw [e1]⟩, ⟨_, rfl, rfl⟩, ⟨_, rfl, rfl⟩, trivial⟩ (by dsimp only; rw [e1, e2]; exact sd (sd (sd sr)))
      · have hr := hi.bad hlt h64 hst he
        rw [rdV1 _ _ _ _ he] at hc
        repeat (first | refine sy_k rfl rfl ?_ | (refine gO ?_; first | refine sy_ov (ov_p rfl) rfl rfl ?_ | (refine gK ?_; first | refine sy_ov (ov_len rfl) rfl rfl ?_ | refine sy_ov (ov_lens rfl) rfl rfl ?_)) | (refine sy_cond_t rfl ?_ ?_; focus (first | with_reducible rfl | assumption | omega | (simp <;> first | omega | assumption))) | (refine sy_cond_f rfl ?_ ?_; focus (first | with_reducible rfl | assumption | omega | (simp <;> first | omega | assumption))))
        refine sy_ov (ov_call rfl (fun w _ => hc w)) rfl rfl ?_
        repeat (first | refine sy_k rfl rfl ?_ | (refine gO ?_; first | refine sy_ov (ov_p rfl) rfl rfl ?_ | (refine gL ?_; first | refine sy_ov (ov_ld 0 rfl rfl rfl) rfl rfl ?_ | refine sy_ov (ov_ld 3 rfl rfl rfl) rfl rfl ?_) | (refine gS ?_; first | refine sy_store 0 rfl rfl rfl rfl rfl rfl rfl rfl ?_ | refine sy_store 1 rfl rfl rfl rfl rfl rfl rfl rfl ?_ | refine sy_store 3 rfl rfl rfl rfl rfl rfl rfl rfl ?_) | refine sy_ov (ov_fieldAddr rfl rfl rfl) rfl rfl ?_ | (refine sy_alloc rfl rfl rfl ?_; intro _)) | (refine sy_cond_t rfl ?_ ?_; focus (first | with_reducible rfl | assumption | omega | (simp <;> first | omega | assumption))))
        refine sy_draw 2 (by kernel_rfl) ?_
        repeat (first | refine dr_op (ov_p rfl) rfl rfl ?_ | refine dr_op (ov_ld 3 rfl rfl rfl) rfl rfl ?_ | refine dr_end ?_)
        repeat (first | refine sy_k rfl rfl ?_ | (refine gO ?_; (refine gS ?_; refine sy_store 4 rfl rfl rfl rfl rfl rfl rfl rfl ?_)) | refine sy_rt ?_)
        refine leave_grow 95 3 ?_
        refine ret2cw 5 rfl rfl rfl rfl rfl rfl fun w' hw' => new_at hw' 0 rfl rfl (by exact PathR.mk' hr none 0)
  · have hr := hi.fin hlt
    repeat (first | refine sy_k rfl rfl ?_ | (refine gO ?_; first | refine sy_ov (ov_p rfl) rfl rfl ?_ | (refine gK ?_; refine sy_ov (ov_len rfl) rfl rfl ?_) | (refine gL ?_; refine sy_ov (ov_ld 1 rfl rfl rfl) rfl rfl ?_) | refine sy_ov (ov_fieldAddr rfl rfl rfl) rfl rfl ?_) | (refine sy_cond_f rfl ?_ ?_; focus (first | with_reducible rfl | assumption | omega | (simp <;> first | omega | assumption))))
    refine sy_draw 3 (by kernel_rfl) ?_
    repeat (first | refine dr_op (ov_p rfl) rfl rfl ?_ | refine dr_op (ov_ld 1 rfl rfl rfl) rfl rfl ?_ | refine dr_end ?_)
    repeat (first | refine sy_k rfl rfl ?_ | (refine gO ?_; (refine gS ?_; refine sy_store 2 rfl rfl rfl rfl rfl rfl rfl rfl ?_)) | refine sy_rt ?_)
    refine ret2cw 2 rfl rfl rfl rfl rfl rfl fun w' hw' => new_at hw' 0 rfl rfl (by exact PathR.mk' hr p q)
set_option maxRecDepth 20000 in
set_option maxHeartbeats 4000000 in
theorem rpparse_c (s : List UInt8) (hs : s.length ≤ 1000000000) (w : World) : Calls Try.prog 30 #[S s] w fun x w' => ∃ v e', PathR s v e' ∧ x = .returned v ∧ e'.holds w' ∧ Below w.heap.size w w' ∧ ∀ b, e'.dom b → w.heap.size ≤ b ∧ b < w'.heap.size := by
  refine sy_enter rfl rfl ?_
  simp only [initFr]
  repeat (first | refine sy_k rfl rfl ?_ | (refine gO ?_; first | refine sy_ov (ov_p rfl) rfl rfl ?_ | (refine sy_alloc rfl rfl rfl ?_; intro _)))
  rename_i b3
  refine sy_grow 95 3 ?_
  refine sy_loop (α := PthSt) (fun a => [(0, S s), (3, .pointer (some ⟨b3, 0, none⟩)), (4, .slice a.p a.acc.length a.q), (5, .int .i64 a.i)]) (fun a => [vec 95 3 (.slice a.p a.acc.length a.q) a.acc.length (a.acc.flatMap stpV), blk b3 38 [.int .i64 0, .int .i64 0]]) (fun a => PInv s a.i a.acc) (fun a => (s.length - a.i).toNat) ⟨0, none, 0, []⟩ (PInv.start s) ⟨⟨_, rfl, rfl⟩, ⟨_, rfl, rfl⟩, ⟨_, rfl, rfl⟩, ⟨_, rfl, rfl⟩, trivial⟩ (List.Sublist.refl _) ?_
  rintro ⟨i, p, q, acc⟩ hi
  have i0 := hi.i0
  have i1 := hi.i1
  have ik := hi.k
  dsimp only at hi i0 i1 ik ⊢
  by_cases hlt : i < s.length
  · by_cases h64 : acc.length = 64
    · have hr := hi.many hlt h64
      have h64' : 63 < (acc.length : Int) := by omega
      repeat (first | refine sy_k rfl rfl ?_ | (refine gO ?_; first | refine sy_ov (ov_p rfl) rfl rfl ?_ | (refine gK ?_; first | refine sy_ov (ov_len rfl) rfl rfl ?_ | refine sy_ov (ov_lens rfl) rfl rfl ?_) | (refine gS ?_; refine sy_store 1 rfl rfl rfl rfl rfl rfl rfl rfl ?_) | refine sy_ov (ov_build rfl rfl rfl) rfl rfl ?_) | (refine sy_cond_t rfl ?_ ?_; focus (first | with_reducible rfl | assumption | omega | (simp <;> first | omega | assumption))) | refine sy_rt ?_)
      refine leave_grow 95 3 ?_
      refine ret2cw 2 rfl rfl rfl rfl rfl rfl fun w' hw' => new_at hw' 0 rfl rfl (by exact PathR.mk' hr none 0)
    · obtain ⟨x, n, e, a, hst⟩ : ∃ x n e a, stepL (s.drop i.toNat) = (x, n, e, a) := ⟨_, _, _, _, rfl⟩
      have hc := rstep_c s i i0 hlt (by omega)
      have h64' : ¬ 63 < (acc.length : Int) := by omega
      rw [hst] at hc
      by_cases he : e = 0
      · subst he
        obtain ⟨hst', hn⟩ := hi.step hlt h64 hst
        rw [rdV0] at hc
        have := hst'.i1
        have e1 : (acc ++ [x]).length = acc.length + 1 := by simp
        have e2 := flat_snoc stpV acc x
        repeat (first | refine sy_k rfl rfl ?_ | (refine gO ?_; first | refine sy_ov (ov_p rfl) rfl rfl ?_ | (refine gK ?_; first | refine sy_ov (ov_len rfl) rfl rfl ?_ | refine sy_ov (ov_lens rfl) rfl rfl ?_)) | (refine sy_cond_t rfl ?_ ?_; focus (first | with_reducible rfl | assumption | omega | (simp <;> first | omega | assumption))) | (refine sy_cond_f rfl ?_ ?_; focus (first | with_reducible rfl | assumption | omega | (simp <;> first | omega | assumption))))
        refine sy_ov (ov_call rfl (fun w _ => hc w)) rfl rfl ?_
        repeat (first | refine sy_k rfl rfl ?_ | (refine gO ?_; first | refine sy_ov (ov_p rfl) rfl rfl ?_ | (refine gL ?_; first | refine sy_ov (ov_ld 0 rfl rfl rfl) rfl rfl ?_ | refine sy_ov (ov_ld 1 rfl rfl rfl) rfl rfl ?_) | (refine gS ?_; first | refine sy_store 0 rfl rfl rfl rfl rfl rfl rfl rfl ?_ | refine sy_store 1 rfl rfl rfl rfl rfl rfl rfl rfl ?_) | refine sy_ov (ov_fieldAddr rfl rfl rfl) rfl rfl ?_ | (refine sy_alloc rfl rfl rfl ?_; intro _)) | (refine sy_cond_f rfl ?_ ?_; focus (first | with_reducible rfl | assumption | omega | (simp <;> first | omega | assumption))))
        refine sy_buildSlice rfl rfl rfl rfl rfl rfl rfl rfl ?_
        intro nb
        refine sy_append 3 0 rfl rfl rfl rfl rfl rfl rfl rfl rfl rfl rfl (by omega) (by refine Nat.le_trans (Nat.mul_le_mul_left _ (Nat.le_of_ble_eq_true (m := 1024) rfl)) ?_; omega) ?_
        intro p' q'
        repeat (first | refine sy_k rfl rfl ?_ | (refine gO ?_; refine sy_ov (ov_p rfl) rfl rfl ?_))
        refine sy_back ⟨i + n, some p', q', acc ++ [x]⟩ hst' (by dsimp only; omega) ⟨⟨_, rfl, rfl⟩, ⟨_, rfl, rfl⟩, ⟨_, rfl, by rw [e1]⟩, ⟨_, rfl, rfl⟩, trivial⟩ (by dsimp only; rw [e1, e2]; exact sd (sd (sd sr)))
      · have hr := hi.bad hlt h64 hst he
        rw [rdV1 _ _ _ _ he] at hc
        repeat (first | refine sy_k rfl rfl ?_ | (refine gO ?_; first | refine sy_ov (ov_p rfl) rfl rfl ?_ | (refine gK ?_; first | refine sy_ov (ov_len rfl) rfl rfl ?_ | refine sy_ov (ov_lens rfl) rfl rfl ?_)) | (refine sy_cond_t rfl ?_ ?_; focus (first | with_reducible rfl | assumption | omega | (simp <;> first | omega | assumption))) | (refine sy_cond_f rfl ?_ ?_; focus (first | with_reducible rfl | assumption | omega | (simp <;> first | omega | assumption))))
        refine sy_ov (ov_call rfl (fun w _ => hc w)) rfl rfl ?_
        repeat (first | refine sy_k rfl rfl ?_ | (refine gO ?_; first | refine sy_ov (ov_p rfl) rfl rfl ?_ | (refine gL ?_; refine sy_ov (ov_ld 0 rfl rfl rfl) rfl rfl ?_) | (refine gS ?_; first | refine sy_store 0 rfl rfl rfl rfl rfl rfl rfl rfl ?_ | refine sy_store 1 rfl rfl rfl rfl rfl rfl rfl rfl ?_) | refine sy_ov (ov_fieldAddr rfl rfl rfl) rfl rfl ?_ | (refine sy_alloc rfl rfl rfl ?_; intro _)) | (refine sy_cond_t rfl ?_ ?_; focus (first | with_reducible rfl | assumption | omega | (simp <;> first | omega | assumption))))
        refine sy_draw 2 (by kernel_rfl) ?_
        repeat (first | refine dr_op (ov_p rfl) rfl rfl ?_ | refine dr_op (ov_ld 0 rfl rfl rfl) rfl rfl ?_ | refine dr_end ?_)
        repeat (first | refine sy_k rfl rfl ?_ | (refine gO ?_; (refine gS ?_; refine sy_store 3 rfl rfl rfl rfl rfl rfl rfl rfl ?_)) | refine sy_rt ?_)
        refine leave_grow 95 3 ?_
        refine ret2cw 4 rfl rfl rfl rfl rfl rfl fun w' hw' => new_at hw' 0 rfl rfl (by exact PathR.mk' hr none 0)
  · have hr := hi.fin hlt
    repeat (first | refine sy_k rfl rfl ?_ | (refine gO ?_; first | refine sy_ov (ov_p rfl) rfl rfl ?_ | (refine gK ?_; refine sy_ov (ov_len rfl) rfl rfl ?_) | (refine gS ?_; refine sy_store 1 rfl rfl rfl rfl rfl rfl rfl rfl ?_) | refine sy_ov (ov_build rfl rfl rfl) rfl rfl ?_) | (refine sy_cond_f rfl ?_ ?_; focus (first | with_reducible rfl | assumption | omega | (simp <;> first | omega | assumption))) | refine sy_rt ?_)
    refine ret2cw 1 rfl rfl rfl rfl rfl rfl fun w' hw' => new_at hw' 0 rfl rfl (by exact PathR.mk' hr p q)
end Go.Proofs.Yteddjadeenimkaa
