/- Contract of blindfoldlaw14.does: a cursor and the document's cursor, one call of both. -/
import Derived.Test.YteiejcililponaaRCurQ
import Derived.Test.YteiejcililponaaBCX
import Derived.Test.YteiejcililponaaBTR
set_option linter.unusedVariables false
set_option linter.unusedSimpArgs false
namespace Go.Proofs.Yteiejcililponaa
open Go.RowKit Bf
abbrev DoesTo (b : Nat) (p : Option Addr) (q g q2 : Nat) (l : List TokT) (c : CurT) (x : OpT) (c' : CurT) : Prop :=
  CallsE Try.prog 57 [ptr b, .agg ⟨refV g q2 l c⟩, .agg ⟨opV x⟩] (curE b p q l c ++ [vecE g q2 l]) fun u es' => u = .tuple #[.agg ⟨refV g q2 l c'⟩, .bool true] ∧ es' = curE b p q l c' ++ [vecE g q2 l]
abbrev Hd (n : Int) : Prop := -9223372036854775808 ≤ n ∧ n ≤ 9223372036854775807
set_option maxRecDepth 20000 in
theorem does_1 (b : Nat) (p : Option Addr) (q g q2 : Nat) (l : List TokT) (c : CurT) (hl : TokOk l) (hc : CurOk l c) (n a : Int) (s : List UInt8) : DoesTo b p q g q2 l c (1, n, a, s) (nextT l c) := by
  refine sy_enterE rfl rfl (fun w => ?_)
  simp only [initFr, curE, List.cons_append, List.nil_append]
  repeat (first | refine sy_k rfl rfl ?_ | (refine gO ?_; first | refine sy_ov (ov_p rfl) rfl rfl ?_ | (refine gL ?_; refine sy_ov (ov_ld 2 rfl rfl rfl) rfl rfl ?_) | (refine sy_box rfl rfl rfl ?_; intro _) | (refine sy_alloc rfl rfl rfl ?_; intro _)))
  refine sy_ov (ov_callE [vecE g q2 l] rfl (sd (sd (sd (sd (sd sr))))) (rc_peek g q2 l c hl hc)) rfl rfl ?_
  repeat (first | refine sy_k rfl rfl ?_ | (refine gO ?_; first | refine sy_ov (ov_p rfl) rfl rfl ?_ | (refine gL ?_; refine sy_ov (ov_ld 2 rfl rfl rfl) rfl rfl ?_) | (refine gS ?_; refine sy_store 0 rfl rfl rfl rfl rfl rfl rfl rfl ?_) | refine sy_ov (ov_fieldAddr rfl rfl rfl) rfl rfl ?_ | (refine sy_alloc rfl rfl rfl ?_; intro _)) | (refine sy_cond_t rfl ?_ ?_; focus (first | with_reducible rfl | assumption | omega | (simp <;> first | omega | assumption))))
  refine sy_front 5 rfl rfl ?_
  simp only [List.set_cons_zero, List.set_cons_succ, List.eraseIdx_cons_succ, List.eraseIdx_cons_zero]
  refine sy_front 5 rfl rfl ?_
  simp only [List.set_cons_zero, List.set_cons_succ, List.eraseIdx_cons_succ, List.eraseIdx_cons_zero]
  refine sy_drawE _ 7 [(0, false), (1, false), (2, false), (4, false), (3, true), (5, false), (6, true)] (by kernel_rfl) rfl (sd (sd (sk (sd (sk (sk sr)))))) ?_
  repeat (refine dre_rd (fun _ _ => ov_ld 2 rfl rfl rfl) rfl ?_)
  refine dre_rd (fun _ _ => ov_callE [vecE g q2 l] rfl (sd (sd (sd sr))) (rc_next g q2 l c hl hc)) rfl ?_
  repeat (first | refine dre_rd (fun _ _ => ov_p rfl) rfl ?_ | refine dre_rd (fun _ _ => ov_ld 0 rfl rfl rfl) rfl ?_)
  refine dre_ef rfl ?_
  refine sy_callE (curE b p q l c) rfl rfl rfl (cur_next b p q l c hl hc) ?_
  rintro _ _ ⟨rfl, rfl⟩
  simp only [curE, List.cons_append, List.nil_append]
  refine dre_ek (sd (sd (sk (sd (sk (sk sr)))))) ?_
  refine dre_rd (fun _ _ => ov_eqst (xs := tokV (peekT l c)) (ys := tokV (peekT l c)) rfl rfl rfl rfl) rfl ?_
  rw [eqL_tok]
  repeat (first | (refine dre_ef rfl ?_; refine sy_store 3 rfl rfl rfl rfl rfl rfl rfl rfl ?_; refine dre_ek (by first | exact sr | exact sk sr | (repeat first | exact sr | apply sk | apply sd)) ?_) | refine dre_end ?_)
  repeat (first | refine sy_k rfl rfl ?_ | (refine gO ?_; refine sy_ov (ov_p rfl) rfl rfl ?_) | refine sy_rt ?_)
  exact ret2ct 3 rfl rfl rfl rfl rfl rfl fun w' hw' => postE hw' _ (sub_self (by (try unfold curE); repeat first | exact sr | apply sk | apply sd)) rfl ⟨rfl, rfl⟩
theorem rtak_is (l : List TokT) (c : CurT) (k : Int) (s : List UInt8) : rtakT l c k s false = isT l c k s := by unfold rtakT isT; simp
set_option maxRecDepth 20000 in
theorem does_2 (b : Nat) (p : Option Addr) (q g q2 : Nat) (l : List TokT) (c : CurT) (hl : TokOk l) (hc : CurOk l c) (n a : Int) (s : List UInt8) : DoesTo b p q g q2 l c (2, n, a, s) (goT l c (isT l c 4 s)) := by
  have ht := rc_take g q2 l c hl hc 4 s false
  rw [rtak_is] at ht
  refine sy_enterE rfl rfl (fun w => ?_)
  simp only [initFr, curE, List.cons_append, List.nil_append]
  repeat (first | refine sy_k rfl rfl ?_ | (refine gO ?_; first | refine sy_ov (ov_p rfl) rfl rfl ?_ | (refine gL ?_; refine sy_ov (ov_ld 2 rfl rfl rfl) rfl rfl ?_) | (refine sy_box rfl rfl rfl ?_; intro _) | (refine sy_alloc rfl rfl rfl ?_; intro _)))
  refine sy_ov (ov_callE [vecE g q2 l] rfl (sd (sd (sd (sd (sd sr))))) (rc_peek g q2 l c hl hc)) rfl rfl ?_
  repeat (first | refine sy_k rfl rfl ?_ | (refine gO ?_; first | refine sy_ov (ov_p rfl) rfl rfl ?_ | (refine gL ?_; first | refine sy_ov (ov_ld 2 rfl rfl rfl) rfl rfl ?_ | refine sy_ov (ov_ld 3 rfl rfl rfl) rfl rfl ?_) | (refine gS ?_; refine sy_store 0 rfl rfl rfl rfl rfl rfl rfl rfl ?_) | refine sy_ov (ov_fieldAddr rfl rfl rfl) rfl rfl ?_ | (refine sy_alloc rfl rfl rfl ?_; intro _)) | (refine sy_cond_t rfl ?_ ?_; focus (first | with_reducible rfl | assumption | omega | (simp <;> first | omega | assumption))) | (refine sy_cond_f rfl ?_ ?_; focus (first | with_reducible rfl | assumption | omega | (simp <;> first | omega | assumption))))
  refine sy_ov (ov_callE [vecE g q2 l] rfl (by repeat first | exact sr | apply sd) (ht)) rfl rfl ?_
  repeat (first | refine sy_k rfl rfl ?_ | (refine gO ?_; first | refine sy_ov (ov_p rfl) rfl rfl ?_ | (refine gS ?_; refine sy_store 0 rfl rfl rfl rfl rfl rfl rfl rfl ?_) | (refine sy_alloc rfl rfl rfl ?_; intro _)))
  refine sy_front 6 rfl rfl ?_
  simp only [List.set_cons_zero, List.set_cons_succ, List.eraseIdx_cons_succ, List.eraseIdx_cons_zero]
  refine sy_front 6 rfl rfl ?_
  simp only [List.set_cons_zero, List.set_cons_succ, List.eraseIdx_cons_succ, List.eraseIdx_cons_zero]
  refine sy_drawE _ 8 [(0, false), (1, false), (2, false), (3, false), (5, false), (4, true), (6, false), (7, true)] (by kernel_rfl) rfl (sd (sd (sk (sk (sd (sk (sk sr))))))) ?_
  repeat (first | refine dre_rd (fun _ _ => ov_p rfl) rfl ?_ | refine dre_rd (fun _ _ => ov_ld 0 rfl rfl rfl) rfl ?_ | refine dre_rd (fun _ _ => ov_ld 2 rfl rfl rfl) rfl ?_ | refine dre_rd (fun _ _ => ov_fieldAddr rfl rfl rfl) rfl ?_)
  refine dre_ef rfl ?_
  refine sy_callE (curE b p q l c) rfl rfl rfl (cur_mark b p q l c hl hc s) ?_
  rintro _ _ ⟨rfl, rfl⟩
  simp only [curE, List.cons_append, List.nil_append]
  refine dre_ek (sd (sd (sk (sk (sd (sk (sk sr))))))) ?_
  refine dre_rd (fun _ _ => ov_eqb rfl rfl) rfl ?_
  rw [beq_self_eq_true]
  repeat (first | (refine dre_ef rfl ?_; refine sy_store 4 rfl rfl rfl rfl rfl rfl rfl rfl ?_; refine dre_ek (by first | exact sr | exact sk sr | (repeat first | exact sr | apply sk | apply sd)) ?_) | refine dre_end ?_)
  repeat (first | refine sy_k rfl rfl ?_ | (refine gO ?_; refine sy_ov (ov_p rfl) rfl rfl ?_) | refine sy_rt ?_)
  exact ret2ct 4 rfl rfl rfl rfl rfl rfl fun w' hw' => postE hw' _ (sub_self (by (try unfold curE); repeat first | exact sr | apply sk | apply sd)) rfl ⟨rfl, rfl⟩
set_option maxRecDepth 20000 in
theorem does_3 (b : Nat) (p : Option Addr) (q g q2 : Nat) (l : List TokT) (c : CurT) (hl : TokOk l) (hc : CurOk l c) (n a : Int) (s : List UInt8) : DoesTo b p q g q2 l c (3, n, a, s) (goT l c (isT l c 1 s)) := by
  have ht := rc_take g q2 l c hl hc 1 s false
  rw [rtak_is] at ht
  refine sy_enterE rfl rfl (fun w => ?_)
  simp only [initFr, curE, List.cons_append, List.nil_append]
  repeat (first | refine sy_k rfl rfl ?_ | (refine gO ?_; first | refine sy_ov (ov_p rfl) rfl rfl ?_ | (refine gL ?_; refine sy_ov (ov_ld 2 rfl rfl rfl) rfl rfl ?_) | (refine sy_box rfl rfl rfl ?_; intro _) | (refine sy_alloc rfl rfl rfl ?_; intro _)))
  refine sy_ov (ov_callE [vecE g q2 l] rfl (sd (sd (sd (sd (sd sr))))) (rc_peek g q2 l c hl hc)) rfl rfl ?_
  repeat (first | refine sy_k rfl rfl ?_ | (refine gO ?_; first | refine sy_ov (ov_p rfl) rfl rfl ?_ | (refine gL ?_; first | refine sy_ov (ov_ld 2 rfl rfl rfl) rfl rfl ?_ | refine sy_ov (ov_ld 3 rfl rfl rfl) rfl rfl ?_) | (refine gS ?_; refine sy_store 0 rfl rfl rfl rfl rfl rfl rfl rfl ?_) | refine sy_ov (ov_fieldAddr rfl rfl rfl) rfl rfl ?_ | (refine sy_alloc rfl rfl rfl ?_; intro _)) | (refine sy_cond_t rfl ?_ ?_; focus (first | with_reducible rfl | assumption | omega | (simp <;> first | omega | assumption))) | (refine sy_cond_f rfl ?_ ?_; focus (first | with_reducible rfl | assumption | omega | (simp <;> first | omega | assumption))))
  refine sy_ov (ov_callE [vecE g q2 l] rfl (by repeat first | exact sr | apply sd) (ht)) rfl rfl ?_
  repeat (first | refine sy_k rfl rfl ?_ | (refine gO ?_; first | refine sy_ov (ov_p rfl) rfl rfl ?_ | (refine gS ?_; refine sy_store 0 rfl rfl rfl rfl rfl rfl rfl rfl ?_) | (refine sy_alloc rfl rfl rfl ?_; intro _)))
  refine sy_front 6 rfl rfl ?_
  simp only [List.set_cons_zero, List.set_cons_succ, List.eraseIdx_cons_succ, List.eraseIdx_cons_zero]
  refine sy_front 6 rfl rfl ?_
  simp only [List.set_cons_zero, List.set_cons_succ, List.eraseIdx_cons_succ, List.eraseIdx_cons_zero]
  refine sy_drawE _ 8 [(0, false), (1, false), (2, false), (3, false), (5, false), (4, true), (6, false), (7, true)] (by kernel_rfl) rfl (sd (sd (sk (sk (sd (sk (sk sr))))))) ?_
  repeat (first | refine dre_rd (fun _ _ => ov_p rfl) rfl ?_ | refine dre_rd (fun _ _ => ov_ld 0 rfl rfl rfl) rfl ?_ | refine dre_rd (fun _ _ => ov_ld 2 rfl rfl rfl) rfl ?_ | refine dre_rd (fun _ _ => ov_fieldAddr rfl rfl rfl) rfl ?_)
  refine dre_ef rfl ?_
  refine sy_callE (curE b p q l c) rfl rfl rfl (cur_word b p q l c hl hc s) ?_
  rintro _ _ ⟨rfl, rfl⟩
  simp only [curE, List.cons_append, List.nil_append]
  refine dre_ek (sd (sd (sk (sk (sd (sk (sk sr))))))) ?_
  refine dre_rd (fun _ _ => ov_eqb rfl rfl) rfl ?_
  rw [beq_self_eq_true]
  repeat (first | (refine dre_ef rfl ?_; refine sy_store 4 rfl rfl rfl rfl rfl rfl rfl rfl ?_; refine dre_ek (by first | exact sr | exact sk sr | (repeat first | exact sr | apply sk | apply sd)) ?_) | refine dre_end ?_)
  repeat (first | refine sy_k rfl rfl ?_ | (refine gO ?_; refine sy_ov (ov_p rfl) rfl rfl ?_) | refine sy_rt ?_)
  exact ret2ct 4 rfl rfl rfl rfl rfl rfl fun w' hw' => postE hw' _ (sub_self (by (try unfold curE); repeat first | exact sr | apply sk | apply sd)) rfl ⟨rfl, rfl⟩
set_option maxRecDepth 20000 in
theorem does_6 (b : Nat) (p : Option Addr) (q g q2 : Nat) (l : List TokT) (c : CurT) (hl : TokOk l) (hc : CurOk l c) (n a : Int) (s : List UInt8) : DoesTo b p q g q2 l c (6, n, a, s) (failT l c n) := by
  refine sy_enterE rfl rfl (fun w => ?_)
  simp only [initFr, curE, List.cons_append, List.nil_append]
  repeat (first | refine sy_k rfl rfl ?_ | (refine gO ?_; first | refine sy_ov (ov_p rfl) rfl rfl ?_ | (refine gL ?_; refine sy_ov (ov_ld 2 rfl rfl rfl) rfl rfl ?_) | (refine sy_box rfl rfl rfl ?_; intro _) | (refine sy_alloc rfl rfl rfl ?_; intro _)))
  refine sy_ov (ov_callE [vecE g q2 l] rfl (sd (sd (sd (sd (sd sr))))) (rc_peek g q2 l c hl hc)) rfl rfl ?_
  repeat (first | refine sy_k rfl rfl ?_ | (refine gO ?_; first | refine sy_ov (ov_p rfl) rfl rfl ?_ | (refine gL ?_; refine sy_ov (ov_ld 2 rfl rfl rfl) rfl rfl ?_) | (refine gS ?_; refine sy_store 0 rfl rfl rfl rfl rfl rfl rfl rfl ?_) | refine sy_ov (ov_fieldAddr rfl rfl rfl) rfl rfl ?_ | (refine sy_alloc rfl rfl rfl ?_; intro _)) | (refine sy_cond_t rfl ?_ ?_; focus (first | with_reducible rfl | assumption | omega | (simp <;> first | omega | assumption))) | (refine sy_cond_f rfl ?_ ?_; focus (first | with_reducible rfl | assumption | omega | (simp <;> first | omega | assumption))))
  refine sy_front 5 rfl rfl ?_
  simp only [List.set_cons_zero, List.set_cons_succ, List.eraseIdx_cons_succ, List.eraseIdx_cons_zero]
  refine sy_front 5 rfl rfl ?_
  simp only [List.set_cons_zero, List.set_cons_succ, List.eraseIdx_cons_succ, List.eraseIdx_cons_zero]
  refine sy_callE (curE b p q l c) rfl rfl rfl (cur_fail b p q l c hl hc n) ?_
  rintro _ _ ⟨rfl, rfl⟩
  simp only [curE, List.cons_append, List.nil_append]
  refine sy_front 5 rfl rfl ?_
  simp only [List.set_cons_zero, List.set_cons_succ, List.eraseIdx_cons_succ, List.eraseIdx_cons_zero]
  refine sy_front 5 rfl rfl ?_
  simp only [List.set_cons_zero, List.set_cons_succ, List.eraseIdx_cons_succ, List.eraseIdx_cons_zero]
  refine sy_front 5 rfl rfl ?_
  simp only [List.set_cons_zero, List.set_cons_succ, List.eraseIdx_cons_succ, List.eraseIdx_cons_zero]
  refine sy_front 5 rfl rfl ?_
  simp only [List.set_cons_zero, List.set_cons_succ, List.eraseIdx_cons_succ, List.eraseIdx_cons_zero]
  repeat (first | refine sy_k rfl rfl ?_ | (refine gO ?_; first | (refine gL ?_; first | refine sy_ov (ov_ld 0 rfl rfl rfl) rfl rfl ?_ | refine sy_ov (ov_ld 2 rfl rfl rfl) rfl rfl ?_ | refine sy_ov (ov_ld 3 rfl rfl rfl) rfl rfl ?_) | refine sy_ov (ov_fieldAddr rfl rfl rfl) rfl rfl ?_))
  refine sy_ov (ov_callE [vecE g q2 l] rfl (by repeat first | exact sr | apply sd) (rc_fail g q2 l c n (peekT l c).2.1)) rfl rfl ?_
  repeat (first | refine sy_k rfl rfl ?_ | (refine gO ?_; first | refine sy_ov (ov_p rfl) rfl rfl ?_ | (refine gS ?_; refine sy_store 1 rfl rfl rfl rfl rfl rfl rfl rfl ?_)) | refine sy_rt ?_)
  exact ret2ct 1 rfl rfl rfl rfl rfl rfl fun w' hw' => postE hw' _ (sub_self (by (try unfold curE); repeat first | exact sr | apply sk | apply sd)) rfl ⟨rfl, rfl⟩
set_option maxRecDepth 20000 in
theorem does_7 (b : Nat) (p : Option Addr) (q g q2 : Nat) (l : List TokT) (c : CurT) (hl : TokOk l) (hc : CurOk l c) (n a : Int) (s : List UInt8) : DoesTo b p q g q2 l c (7, n, a, s) (failAtT c n a) := by
  refine sy_enterE rfl rfl (fun w => ?_)
  simp only [initFr, curE, List.cons_append, List.nil_append]
  repeat (first | refine sy_k rfl rfl ?_ | (refine gO ?_; first | refine sy_ov (ov_p rfl) rfl rfl ?_ | (refine gL ?_; refine sy_ov (ov_ld 2 rfl rfl rfl) rfl rfl ?_) | (refine sy_box rfl rfl rfl ?_; intro _) | (refine sy_alloc rfl rfl rfl ?_; intro _)))
  refine sy_ov (ov_callE [vecE g q2 l] rfl (sd (sd (sd (sd (sd sr))))) (rc_peek g q2 l c hl hc)) rfl rfl ?_
  repeat (first | refine sy_k rfl rfl ?_ | (refine gO ?_; first | refine sy_ov (ov_p rfl) rfl rfl ?_ | (refine gL ?_; refine sy_ov (ov_ld 2 rfl rfl rfl) rfl rfl ?_) | (refine gS ?_; refine sy_store 0 rfl rfl rfl rfl rfl rfl rfl rfl ?_) | refine sy_ov (ov_fieldAddr rfl rfl rfl) rfl rfl ?_ | (refine sy_alloc rfl rfl rfl ?_; intro _)) | (refine sy_cond_t rfl ?_ ?_; focus (first | with_reducible rfl | assumption | omega | (simp <;> first | omega | assumption))) | (refine sy_cond_f rfl ?_ ?_; focus (first | with_reducible rfl | assumption | omega | (simp <;> first | omega | assumption))))
  refine sy_front 5 rfl rfl ?_
  simp only [List.set_cons_zero, List.set_cons_succ, List.eraseIdx_cons_succ, List.eraseIdx_cons_zero]
  refine sy_front 5 rfl rfl ?_
  simp only [List.set_cons_zero, List.set_cons_succ, List.eraseIdx_cons_succ, List.eraseIdx_cons_zero]
  refine sy_callE (curE b p q l c) rfl rfl rfl (cur_failAt b p q l c n a) ?_
  rintro _ _ ⟨rfl, rfl⟩
  simp only [curE, List.cons_append, List.nil_append]
  refine sy_front 5 rfl rfl ?_
  simp only [List.set_cons_zero, List.set_cons_succ, List.eraseIdx_cons_succ, List.eraseIdx_cons_zero]
  refine sy_front 5 rfl rfl ?_
  simp only [List.set_cons_zero, List.set_cons_succ, List.eraseIdx_cons_succ, List.eraseIdx_cons_zero]
  refine sy_front 5 rfl rfl ?_
  simp only [List.set_cons_zero, List.set_cons_succ, List.eraseIdx_cons_succ, List.eraseIdx_cons_zero]
  refine sy_front 5 rfl rfl ?_
  simp only [List.set_cons_zero, List.set_cons_succ, List.eraseIdx_cons_succ, List.eraseIdx_cons_zero]
  repeat (first | refine sy_k rfl rfl ?_ | (refine gO ?_; first | (refine gL ?_; first | refine sy_ov (ov_ld 2 rfl rfl rfl) rfl rfl ?_ | refine sy_ov (ov_ld 3 rfl rfl rfl) rfl rfl ?_) | refine sy_ov (ov_fieldAddr rfl rfl rfl) rfl rfl ?_))
  refine sy_ov (ov_callE [vecE g q2 l] rfl (by repeat first | exact sr | apply sd) (rc_fail g q2 l c n a)) rfl rfl ?_
  repeat (first | refine sy_k rfl rfl ?_ | (refine gO ?_; first | refine sy_ov (ov_p rfl) rfl rfl ?_ | (refine gS ?_; refine sy_store 1 rfl rfl rfl rfl rfl rfl rfl rfl ?_)) | refine sy_rt ?_)
  exact ret2ct 1 rfl rfl rfl rfl rfl rfl fun w' hw' => postE hw' _ (sub_self (by (try unfold curE); repeat first | exact sr | apply sk | apply sd)) rfl ⟨rfl, rfl⟩
set_option maxRecDepth 20000 in
theorem does_8 (b : Nat) (p : Option Addr) (q g q2 : Nat) (l : List TokT) (c : CurT) (hl : TokOk l) (hc : CurOk l c) (n a : Int) (s : List UInt8) : DoesTo b p q g q2 l c (8, n, a, s) (enterT l c) := by
  have d0 := hc.d0
  have d1 := hc.d1
  have hEq : ((!decide (c.d = 24)) == decide (c.d < 24)) = true := by
    by_cases h : c.d = 24
    · rw [h]; rfl
    · have : c.d < 24 := by omega
      simp [h, this]
  by_cases hd : c.d = 24
  · have he : enterT l c = failAtT c 6 (peekT l c).2.1 := if_pos hd
    refine sy_enterE rfl rfl (fun w => ?_)
    simp only [initFr, curE, List.cons_append, List.nil_append]
    repeat (first | refine sy_k rfl rfl ?_ | (refine gO ?_; first | refine sy_ov (ov_p rfl) rfl rfl ?_ | (refine gL ?_; refine sy_ov (ov_ld 2 rfl rfl rfl) rfl rfl ?_) | (refine sy_box rfl rfl rfl ?_; intro _) | (refine sy_alloc rfl rfl rfl ?_; intro _)))
    refine sy_ov (ov_callE [vecE g q2 l] rfl (sd (sd (sd (sd (sd sr))))) (rc_peek g q2 l c hl hc)) rfl rfl ?_
    repeat (first | refine sy_k rfl rfl ?_ | (refine gO ?_; first | refine sy_ov (ov_p rfl) rfl rfl ?_ | (refine gL ?_; first | refine sy_ov (ov_ld 0 rfl rfl rfl) rfl rfl ?_ | refine sy_ov (ov_ld 2 rfl rfl rfl) rfl rfl ?_ | refine sy_ov (ov_ld 3 rfl rfl rfl) rfl rfl ?_) | (refine gS ?_; refine sy_store 0 rfl rfl rfl rfl rfl rfl rfl rfl ?_) | refine sy_ov (ov_fieldAddr rfl rfl rfl) rfl rfl ?_ | (refine sy_alloc rfl rfl rfl ?_; intro _)) | (refine sy_cond_t rfl ?_ ?_; focus (first | with_reducible rfl | assumption | omega | (simp <;> first | omega | assumption))) | (refine sy_cond_f rfl ?_ ?_; focus (first | with_reducible rfl | assumption | omega | (simp <;> first | omega | assumption))))
    refine sy_ov (ov_callE [vecE g q2 l] rfl (by repeat first | exact sr | apply sd) (rc_fail g q2 l c 6 (peekT l c).2.1)) rfl rfl ?_
    repeat (first | refine sy_k rfl rfl ?_ | (refine gO ?_; (refine gS ?_; refine sy_store 3 rfl rfl rfl rfl rfl rfl rfl rfl ?_)))
    refine sy_front 5 rfl rfl ?_
    simp only [List.set_cons_zero, List.set_cons_succ, List.eraseIdx_cons_succ, List.eraseIdx_cons_zero]
    refine sy_front 5 rfl rfl ?_
    simp only [List.set_cons_zero, List.set_cons_succ, List.eraseIdx_cons_succ, List.eraseIdx_cons_zero]
    refine sy_drawE _ 6 [(0, false), (1, false), (3, false), (2, true), (4, false), (5, true)] (by kernel_rfl) rfl (sd (sd (sk (sd (sk (sk sr)))))) ?_
    repeat (first | refine dre_rd (fun _ _ => ov_p rfl) rfl ?_ | refine dre_rd (fun _ _ => ov_ld 2 rfl rfl rfl) rfl ?_)
    refine dre_ef rfl ?_
    refine sy_callE (curE b p q l c) rfl rfl rfl (cur_enter b p q l c hl hc) ?_
    rintro _ _ ⟨rfl, rfl⟩
    simp only [curE, List.cons_append, List.nil_append]
    refine dre_ek (sd (sd (sk (sd (sk (sk sr)))))) ?_
    refine dre_rd (fun _ _ => ov_eqb rfl rfl) rfl ?_
    rw [hEq]
    repeat (first | (refine dre_ef rfl ?_; refine sy_store 3 rfl rfl rfl rfl rfl rfl rfl rfl ?_; refine dre_ek (by first | exact sr | exact sk sr | (repeat first | exact sr | apply sk | apply sd)) ?_) | refine dre_end ?_)
    repeat (first | refine sy_k rfl rfl ?_ | (refine gO ?_; refine sy_ov (ov_p rfl) rfl rfl ?_) | refine sy_rt ?_)
    rw [he]
    exact ret2ct 3 rfl rfl rfl rfl rfl rfl fun w' hw' => postE hw' _ (sub_self (by (try unfold curE); repeat first | exact sr | apply sk | apply sd)) rfl ⟨rfl, rfl⟩
  · have he : enterT l c = ⟨c.i, c.d + 1, c.e, c.a⟩ := if_neg hd
    refine sy_enterE rfl rfl (fun w => ?_)
    simp only [initFr, curE, List.cons_append, List.nil_append]
    repeat (first | refine sy_k rfl rfl ?_ | (refine gO ?_; first | refine sy_ov (ov_p rfl) rfl rfl ?_ | (refine gL ?_; refine sy_ov (ov_ld 2 rfl rfl rfl) rfl rfl ?_) | (refine sy_box rfl rfl rfl ?_; intro _) | (refine sy_alloc rfl rfl rfl ?_; intro _)))
    refine sy_ov (ov_callE [vecE g q2 l] rfl (sd (sd (sd (sd (sd sr))))) (rc_peek g q2 l c hl hc)) rfl rfl ?_
    repeat (first | refine sy_k rfl rfl ?_ | (refine gO ?_; first | refine sy_ov (ov_p rfl) rfl rfl ?_ | (refine gB ?_; (refine sy_ov (ov_ar rfl rfl rfl ?_ ?_) rfl rfl ?_; omega; omega)) | (refine gL ?_; first | refine sy_ov (ov_ld 2 rfl rfl rfl) rfl rfl ?_ | refine sy_ov (ov_ld 3 rfl rfl rfl) rfl rfl ?_) | (refine gS ?_; first | refine sy_store 0 rfl rfl rfl rfl rfl rfl rfl rfl ?_ | refine sy_store 3 rfl rfl rfl rfl rfl rfl rfl rfl ?_) | refine sy_ov (ov_fieldAddr rfl rfl rfl) rfl rfl ?_ | (refine sy_alloc rfl rfl rfl ?_; intro _)) | (refine sy_cond_t rfl ?_ ?_; focus (first | with_reducible rfl | assumption | omega | (simp <;> first | omega | assumption))) | (refine sy_cond_f rfl ?_ ?_; focus (first | with_reducible rfl | assumption | omega | (simp <;> first | omega | assumption))))
    refine sy_front 5 rfl rfl ?_
    simp only [List.set_cons_zero, List.set_cons_succ, List.eraseIdx_cons_succ, List.eraseIdx_cons_zero]
    refine sy_front 5 rfl rfl ?_
    simp only [List.set_cons_zero, List.set_cons_succ, List.eraseIdx_cons_succ, List.eraseIdx_cons_zero]
    refine sy_drawE _ 6 [(0, false), (1, false), (3, false), (2, true), (4, false), (5, true)] (by kernel_rfl) rfl (sd (sd (sk (sd (sk (sk sr)))))) ?_
    repeat (first | refine dre_rd (fun _ _ => ov_p rfl) rfl ?_ | refine dre_rd (fun _ _ => ov_ld 2 rfl rfl rfl) rfl ?_)
    refine dre_ef rfl ?_
    refine sy_callE (curE b p q l c) rfl rfl rfl (cur_enter b p q l c hl hc) ?_
    rintro _ _ ⟨rfl, rfl⟩
    simp only [curE, List.cons_append, List.nil_append]
    refine dre_ek (sd (sd (sk (sd (sk (sk sr)))))) ?_
    refine dre_rd (fun _ _ => ov_eqb rfl rfl) rfl ?_
    rw [hEq]
    repeat (first | (refine dre_ef rfl ?_; refine sy_store 3 rfl rfl rfl rfl rfl rfl rfl rfl ?_; refine dre_ek (by first | exact sr | exact sk sr | (repeat first | exact sr | apply sk | apply sd)) ?_) | refine dre_end ?_)
    repeat (first | refine sy_k rfl rfl ?_ | (refine gO ?_; refine sy_ov (ov_p rfl) rfl rfl ?_) | refine sy_rt ?_)
    rw [he]
    exact ret2ct 3 rfl rfl rfl rfl rfl rfl fun w' hw' => postE hw' _ (sub_self (by (try unfold curE); repeat first | exact sr | apply sk | apply sd)) rfl ⟨rfl, rfl⟩
set_option maxRecDepth 20000 in
theorem does_9 (b : Nat) (p : Option Addr) (q g q2 : Nat) (l : List TokT) (c : CurT) (hl : TokOk l) (hc : CurOk l c) (n a : Int) (s : List UInt8) : DoesTo b p q g q2 l c (9, n, a, s) (leaveT c) := by
  have d0 := hc.d0
  have d1 := hc.d1
  have hlv := cur_leave b p q l c hc
  by_cases hd : 0 < c.d
  · have he : leaveT c = ⟨c.i, c.d - 1, c.e, c.a⟩ := by unfold leaveT; rw [Int.max_eq_left (by omega)]
    have hk : CurOk l ⟨c.i, c.d - 1, c.e, c.a⟩ := he ▸ hc.leave
    rw [he] at hlv ⊢
    refine sy_enterE rfl rfl (fun w => ?_)
    simp only [initFr, curE, List.cons_append, List.nil_append]
    repeat (first | refine sy_k rfl rfl ?_ | (refine gO ?_; first | refine sy_ov (ov_p rfl) rfl rfl ?_ | (refine gL ?_; refine sy_ov (ov_ld 2 rfl rfl rfl) rfl rfl ?_) | (refine sy_box rfl rfl rfl ?_; intro _) | (refine sy_alloc rfl rfl rfl ?_; intro _)))
    refine sy_ov (ov_callE [vecE g q2 l] rfl (sd (sd (sd (sd (sd sr))))) (rc_peek g q2 l c hl hc)) rfl rfl ?_
    repeat (first | refine sy_k rfl rfl ?_ | (refine gO ?_; first | refine sy_ov (ov_p rfl) rfl rfl ?_ | (refine gL ?_; refine sy_ov (ov_ld 2 rfl rfl rfl) rfl rfl ?_) | (refine gS ?_; refine sy_store 0 rfl rfl rfl rfl rfl rfl rfl rfl ?_) | refine sy_ov (ov_fieldAddr rfl rfl rfl) rfl rfl ?_ | (refine sy_alloc rfl rfl rfl ?_; intro _)) | (refine sy_cond_t rfl ?_ ?_; focus (first | with_reducible rfl | assumption | omega | (simp <;> first | omega | assumption))) | (refine sy_cond_f rfl ?_ ?_; focus (first | with_reducible rfl | assumption | omega | (simp <;> first | omega | assumption))))
    refine sy_front 5 rfl rfl ?_
    simp only [List.set_cons_zero, List.set_cons_succ, List.eraseIdx_cons_succ, List.eraseIdx_cons_zero]
    refine sy_front 5 rfl rfl ?_
    simp only [List.set_cons_zero, List.set_cons_succ, List.eraseIdx_cons_succ, List.eraseIdx_cons_zero]
    refine sy_callE (curE b p q l c) rfl rfl rfl (hlv) ?_
    rintro _ _ ⟨rfl, rfl⟩
    simp only [curE, List.cons_append, List.nil_append]
    refine sy_front 5 rfl rfl ?_
    simp only [List.set_cons_zero, List.set_cons_succ, List.eraseIdx_cons_succ, List.eraseIdx_cons_zero]
    refine sy_front 5 rfl rfl ?_
    simp only [List.set_cons_zero, List.set_cons_succ, List.eraseIdx_cons_succ, List.eraseIdx_cons_zero]
    refine sy_front 5 rfl rfl ?_
    simp only [List.set_cons_zero, List.set_cons_succ, List.eraseIdx_cons_succ, List.eraseIdx_cons_zero]
    refine sy_front 5 rfl rfl ?_
    simp only [List.set_cons_zero, List.set_cons_succ, List.eraseIdx_cons_succ, List.eraseIdx_cons_zero]
    repeat (first | refine sy_k rfl rfl ?_ | (refine gO ?_; first | refine sy_ov (ov_p rfl) rfl rfl ?_ | (refine gB ?_; (refine sy_ov (ov_ar rfl rfl rfl ?_ ?_) rfl rfl ?_; omega; omega)) | (refine gL ?_; refine sy_ov (ov_ld 3 rfl rfl rfl) rfl rfl ?_) | (refine gS ?_; refine sy_store 3 rfl rfl rfl rfl rfl rfl rfl rfl ?_) | refine sy_ov (ov_fieldAddr rfl rfl rfl) rfl rfl ?_) | (refine sy_cond_t rfl ?_ ?_; focus (first | with_reducible rfl | assumption | omega | (simp <;> first | omega | assumption))))
    refine sy_drawE _ 7 [(0, false), (1, false), (2, false), (3, false), (4, false), (5, false), (6, true)] (by kernel_rfl) rfl (sk (sd sr)) ?_
    repeat (first | refine dre_rd (fun _ _ => ov_p rfl) rfl ?_ | refine dre_rd (fun _ _ => ov_ld 2 rfl rfl rfl) rfl ?_)
    refine dre_rd (fun _ _ => ov_callE (curE b p q l ⟨c.i, c.d - 1, c.e, c.a⟩) rfl (sd (sd (sd (sk (sk (List.nil_sublist _)))))) (cur_peek b p q l ⟨c.i, c.d - 1, c.e, c.a⟩ hl hk)) rfl ?_
    repeat (refine dre_rd (fun _ _ => ov_ld 2 rfl rfl rfl) rfl ?_)
    refine dre_rd (fun _ _ => ov_callE [vecE g q2 l] rfl (sd (sd (sd (sd (sd sr))))) (rc_peek g q2 l ⟨c.i, c.d - 1, c.e, c.a⟩ hl hk)) rfl ?_
    refine dre_rd (fun _ _ => ov_eqst (xs := tokV (peekT l ⟨c.i, c.d - 1, c.e, c.a⟩)) (ys := tokV (peekT l ⟨c.i, c.d - 1, c.e, c.a⟩)) rfl rfl rfl rfl) rfl ?_
    rw [eqL_tok]
    repeat (first | (refine dre_ef rfl ?_; refine sy_store 1 rfl rfl rfl rfl rfl rfl rfl rfl ?_; refine dre_ek (by first | exact sr | exact sk sr | (repeat first | exact sr | apply sk | apply sd)) ?_) | refine dre_end ?_)
    repeat (first | refine sy_k rfl rfl ?_ | (refine gO ?_; refine sy_ov (ov_p rfl) rfl rfl ?_) | refine sy_rt ?_)
    exact ret2ct 1 rfl rfl rfl rfl rfl rfl fun w' hw' => postE hw' _ (sub_self (by (try unfold curE); repeat first | exact sr | apply sk | apply sd)) rfl ⟨rfl, rfl⟩
  · have he : leaveT c = c := by unfold leaveT; rw [Int.max_eq_right (by omega), show (0 : Int) = c.d by omega]
    rw [he] at hlv ⊢
    refine sy_enterE rfl rfl (fun w => ?_)
    simp only [initFr, curE, List.cons_append, List.nil_append]
    repeat (first | refine sy_k rfl rfl ?_ | (refine gO ?_; first | refine sy_ov (ov_p rfl) rfl rfl ?_ | (refine gL ?_; refine sy_ov (ov_ld 2 rfl rfl rfl) rfl rfl ?_) | (refine sy_box rfl rfl rfl ?_; intro _) | (refine sy_alloc rfl rfl rfl ?_; intro _)))
    refine sy_ov (ov_callE [vecE g q2 l] rfl (sd (sd (sd (sd (sd sr))))) (rc_peek g q2 l c hl hc)) rfl rfl ?_
    repeat (first | refine sy_k rfl rfl ?_ | (refine gO ?_; first | refine sy_ov (ov_p rfl) rfl rfl ?_ | (refine gL ?_; refine sy_ov (ov_ld 2 rfl rfl rfl) rfl rfl ?_) | (refine gS ?_; refine sy_store 0 rfl rfl rfl rfl rfl rfl rfl rfl ?_) | refine sy_ov (ov_fieldAddr rfl rfl rfl) rfl rfl ?_ | (refine sy_alloc rfl rfl rfl ?_; intro _)) | (refine sy_cond_t rfl ?_ ?_; focus (first | with_reducible rfl | assumption | omega | (simp <;> first | omega | assumption))) | (refine sy_cond_f rfl ?_ ?_; focus (first | with_reducible rfl | assumption | omega | (simp <;> first | omega | assumption))))
    refine sy_front 5 rfl rfl ?_
    simp only [List.set_cons_zero, List.set_cons_succ, List.eraseIdx_cons_succ, List.eraseIdx_cons_zero]
    refine sy_front 5 rfl rfl ?_
    simp only [List.set_cons_zero, List.set_cons_succ, List.eraseIdx_cons_succ, List.eraseIdx_cons_zero]
    refine sy_callE (curE b p q l c) rfl rfl rfl (hlv) ?_
    rintro _ _ ⟨rfl, rfl⟩
    simp only [curE, List.cons_append, List.nil_append]
    refine sy_front 5 rfl rfl ?_
    simp only [List.set_cons_zero, List.set_cons_succ, List.eraseIdx_cons_succ, List.eraseIdx_cons_zero]
    refine sy_front 5 rfl rfl ?_
    simp only [List.set_cons_zero, List.set_cons_succ, List.eraseIdx_cons_succ, List.eraseIdx_cons_zero]
    refine sy_front 5 rfl rfl ?_
    simp only [List.set_cons_zero, List.set_cons_succ, List.eraseIdx_cons_succ, List.eraseIdx_cons_zero]
    refine sy_front 5 rfl rfl ?_
    simp only [List.set_cons_zero, List.set_cons_succ, List.eraseIdx_cons_succ, List.eraseIdx_cons_zero]
    repeat (first | refine sy_k rfl rfl ?_ | (refine gO ?_; first | refine sy_ov (ov_p rfl) rfl rfl ?_ | (refine gL ?_; refine sy_ov (ov_ld 3 rfl rfl rfl) rfl rfl ?_) | refine sy_ov (ov_fieldAddr rfl rfl rfl) rfl rfl ?_) | (refine sy_cond_f rfl ?_ ?_; focus (first | with_reducible rfl | assumption | omega | (simp <;> first | omega | assumption))))
    refine sy_drawE _ 7 [(0, false), (1, false), (2, false), (3, false), (4, false), (5, false), (6, true)] (by kernel_rfl) rfl (sk (sd sr)) ?_
    repeat (first | refine dre_rd (fun _ _ => ov_p rfl) rfl ?_ | refine dre_rd (fun _ _ => ov_ld 2 rfl rfl rfl) rfl ?_)
    refine dre_rd (fun _ _ => ov_callE (curE b p q l c) rfl (sd (sd (sd (sk (sk (List.nil_sublist _)))))) (cur_peek b p q l c hl hc)) rfl ?_
    repeat (refine dre_rd (fun _ _ => ov_ld 2 rfl rfl rfl) rfl ?_)
    refine dre_rd (fun _ _ => ov_callE [vecE g q2 l] rfl (sd (sd (sd (sd (sd sr))))) (rc_peek g q2 l c hl hc)) rfl ?_
    refine dre_rd (fun _ _ => ov_eqst (xs := tokV (peekT l c)) (ys := tokV (peekT l c)) rfl rfl rfl rfl) rfl ?_
    rw [eqL_tok]
    repeat (first | (refine dre_ef rfl ?_; refine sy_store 1 rfl rfl rfl rfl rfl rfl rfl rfl ?_; refine dre_ek (by first | exact sr | exact sk sr | (repeat first | exact sr | apply sk | apply sd)) ?_) | refine dre_end ?_)
    repeat (first | refine sy_k rfl rfl ?_ | (refine gO ?_; refine sy_ov (ov_p rfl) rfl rfl ?_) | refine sy_rt ?_)
    exact ret2ct 1 rfl rfl rfl rfl rfl rfl fun w' hw' => postE hw' _ (sub_self (by (try unfold curE); repeat first | exact sr | apply sk | apply sd)) rfl ⟨rfl, rfl⟩
set_option maxRecDepth 20000 in
theorem does_0 (b : Nat) (p : Option Addr) (q g q2 : Nat) (l : List TokT) (c : CurT) (hl : TokOk l) (hc : CurOk l c) (k n a : Int) (s : List UInt8) (h1 : k ≠ 1) (h2 : k ≠ 2) (h3 : k ≠ 3) (h4 : k ≠ 4) (h5 : k ≠ 5) (h6 : k ≠ 6) (h7 : k ≠ 7) (h8 : k ≠ 8) (h9 : k ≠ 9) : DoesTo b p q g q2 l c (k, n, a, s) c := by
  refine sy_enterE rfl rfl (fun w => ?_)
  simp only [initFr, curE, List.cons_append, List.nil_append]
  repeat (first | refine sy_k rfl rfl ?_ | (refine gO ?_; first | refine sy_ov (ov_p rfl) rfl rfl ?_ | (refine gL ?_; refine sy_ov (ov_ld 2 rfl rfl rfl) rfl rfl ?_) | (refine sy_box rfl rfl rfl ?_; intro _) | (refine sy_alloc rfl rfl rfl ?_; intro _)))
  refine sy_ov (ov_callE [vecE g q2 l] rfl (sd (sd (sd (sd (sd sr))))) (rc_peek g q2 l c hl hc)) rfl rfl ?_
  repeat (first | refine sy_k rfl rfl ?_ | (refine gO ?_; first | refine sy_ov (ov_p rfl) rfl rfl ?_ | (refine gL ?_; refine sy_ov (ov_ld 2 rfl rfl rfl) rfl rfl ?_) | (refine gS ?_; refine sy_store 0 rfl rfl rfl rfl rfl rfl rfl rfl ?_) | refine sy_ov (ov_fieldAddr rfl rfl rfl) rfl rfl ?_ | (refine sy_alloc rfl rfl rfl ?_; intro _)) | (refine sy_cond_f rfl ?_ ?_; focus (first | with_reducible rfl | assumption | omega | (simp <;> first | omega | assumption))))
  refine sy_drawE _ 7 [(0, false), (1, false), (2, false), (3, false), (4, false), (5, false), (6, true)] (by kernel_rfl) rfl (sk (sd sr)) ?_
  repeat (first | refine dre_rd (fun _ _ => ov_p rfl) rfl ?_ | refine dre_rd (fun _ _ => ov_ld 2 rfl rfl rfl) rfl ?_)
  refine dre_rd (fun _ _ => ov_callE (curE b p q l c) rfl (sd (sd (sd (sk (sk (List.nil_sublist _)))))) (cur_peek b p q l c hl hc)) rfl ?_
  repeat (refine dre_rd (fun _ _ => ov_ld 2 rfl rfl rfl) rfl ?_)
  refine dre_rd (fun _ _ => ov_callE [vecE g q2 l] rfl (sd (sd (sd (sd (sd sr))))) (rc_peek g q2 l c hl hc)) rfl ?_
  refine dre_rd (fun _ _ => ov_eqst (xs := tokV (peekT l c)) (ys := tokV (peekT l c)) rfl rfl rfl rfl) rfl ?_
  rw [eqL_tok]
  repeat (first | (refine dre_ef rfl ?_; refine sy_store 1 rfl rfl rfl rfl rfl rfl rfl rfl ?_; refine dre_ek (by first | exact sr | exact sk sr | (repeat first | exact sr | apply sk | apply sd)) ?_) | refine dre_end ?_)
  repeat (first | refine sy_k rfl rfl ?_ | (refine gO ?_; refine sy_ov (ov_p rfl) rfl rfl ?_) | refine sy_rt ?_)
  exact ret2ct 1 rfl rfl rfl rfl rfl rfl fun w' hw' => postE hw' _ (sub_self (by (try unfold curE); repeat first | exact sr | apply sk | apply sd)) rfl ⟨rfl, rfl⟩
end Go.Proofs.Yteiejcililponaa
