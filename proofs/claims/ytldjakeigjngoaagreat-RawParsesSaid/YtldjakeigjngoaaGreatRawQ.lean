/- Contracts: values, as the program reads them: its reader's small methods. -/
import Derived.Test.YtldjakeigjngoaaGreatBRA
import Derived.Test.YtldjakeigjngoaaGreatBCX
import Derived.Test.YtldjakeigjngoaaGreatBOB
import Derived.Test.YtldjakeigjngoaaGreatSyTwoQ
set_option linter.unusedVariables false
set_option linter.unusedSimpArgs false
namespace Go.Proofs.YtldjakeigjngoaaGreat
open Go.RowKit Bf
def rrC (cb : Nat) (m : Int) : List Value := [ptr cb, .int .i64 m]
def rrE (rb cb : Nat) (p : Option Addr) (q : Nat) (l : List TokT) (c : CurT) (m : Int) : List En := curE cb p q l c ++ [blk rb 55 (rrC cb m)]
section
variable (rb cb : Nat) (p : Option Addr) (q : Nat) (l : List TokT) (c : CurT) (m : Int)
set_option maxRecDepth 20000 in
theorem rr_wrong (hl : TokOk l) (hc : CurOk l c) : CallsE Tryz.prog 22 [ptr rb] (rrE rb cb p q l c m) fun u es' => u = .tuple #[] ∧ es' = rrE rb cb p q l (wrongT l c) m := by
 by_cases h0 : (peekT l c).1 = 0
 · have hn : wrongT l c = failT l c 5 := by unfold wrongT; rw [if_pos h0]
   rw [hn]
   refine sy_enterE rfl rfl (fun w => ?_)
   simp only [initFr, rrE, curE, List.cons_append, List.nil_append]
   repeat (first | refine sy_k rfl rfl ?_ | (refine gO ?_; first | refine sy_ov (ov_p rfl) rfl rfl ?_ | (refine gL ?_; refine sy_ov (ov_ld 2 rfl rfl rfl) rfl rfl ?_) | refine sy_ov (ov_fieldAddr rfl rfl rfl) rfl rfl ?_))
   refine sy_order [0, 1, 2] rfl rfl ?_
   simp only [List.set_cons_zero, List.set_cons_succ, List.filterMap_cons, List.filterMap_nil, List.getElem?_cons_zero, List.getElem?_cons_succ]
   refine sy_callE (curE cb p q l _) rfl rfl rfl (cur_peek cb p q l c hl hc) ?_
   rintro _ _ ⟨rfl, rfl⟩
   simp only [curE, List.cons_append, List.nil_append]
   repeat (first | refine sy_k rfl rfl ?_ | (refine gO ?_; first | refine sy_ov (ov_p rfl) rfl rfl ?_ | (refine gL ?_; refine sy_ov (ov_ld 2 rfl rfl rfl) rfl rfl ?_) | refine sy_ov (ov_fieldAddr rfl rfl rfl) rfl rfl ?_ | refine sy_ov (ov_field rfl rfl rfl) rfl rfl ?_) | (refine sy_cond_t rfl ?_ ?_; (first | with_reducible rfl | assumption | omega | (simp <;> first | omega | assumption))))
   refine sy_order [0, 1, 2] rfl rfl ?_
   simp only [List.set_cons_zero, List.set_cons_succ, List.filterMap_cons, List.filterMap_nil, List.getElem?_cons_zero, List.getElem?_cons_succ]
   refine sy_callE (curE cb p q l _) rfl rfl rfl (cur_fail cb p q l c hl hc 5) ?_
   rintro _ _ ⟨rfl, rfl⟩
   simp only [curE, List.cons_append, List.nil_append]
   repeat (refine sy_k rfl rfl ?_)
   exact end0w rfl fun w' hw' => postE hw' _ (sub_self (by (try unfold rrE); (try unfold curE); (try simp only [List.cons_append, List.nil_append]); repeat first | exact sr | apply sk | apply sd)) rfl ⟨rfl, rfl⟩
 · have hn : wrongT l c = failT l c 4 := by unfold wrongT; rw [if_neg h0]
   rw [hn]
   refine sy_enterE rfl rfl (fun w => ?_)
   simp only [initFr, rrE, curE, List.cons_append, List.nil_append]
   repeat (first | refine sy_k rfl rfl ?_ | (refine gO ?_; first | refine sy_ov (ov_p rfl) rfl rfl ?_ | (refine gL ?_; refine sy_ov (ov_ld 2 rfl rfl rfl) rfl rfl ?_) | refine sy_ov (ov_fieldAddr rfl rfl rfl) rfl rfl ?_))
   refine sy_order [0, 1, 2] rfl rfl ?_
   simp only [List.set_cons_zero, List.set_cons_succ, List.filterMap_cons, List.filterMap_nil, List.getElem?_cons_zero, List.getElem?_cons_succ]
   refine sy_callE (curE cb p q l _) rfl rfl rfl (cur_peek cb p q l c hl hc) ?_
   rintro _ _ ⟨rfl, rfl⟩
   simp only [curE, List.cons_append, List.nil_append]
   repeat (first | refine sy_k rfl rfl ?_ | (refine gO ?_; first | refine sy_ov (ov_p rfl) rfl rfl ?_ | (refine gL ?_; refine sy_ov (ov_ld 2 rfl rfl rfl) rfl rfl ?_) | refine sy_ov (ov_fieldAddr rfl rfl rfl) rfl rfl ?_ | refine sy_ov (ov_field rfl rfl rfl) rfl rfl ?_) | (refine sy_cond_f rfl ?_ ?_; (first | with_reducible rfl | assumption | omega | (simp <;> first | omega | assumption))))
   refine sy_order [0, 1, 2] rfl rfl ?_
   simp only [List.set_cons_zero, List.set_cons_succ, List.filterMap_cons, List.filterMap_nil, List.getElem?_cons_zero, List.getElem?_cons_succ]
   refine sy_callE (curE cb p q l _) rfl rfl rfl (cur_fail cb p q l c hl hc 4) ?_
   rintro _ _ ⟨rfl, rfl⟩
   simp only [curE, List.cons_append, List.nil_append]
   repeat (refine sy_k rfl rfl ?_)
   exact end0w rfl fun w' hw' => postE hw' _ (sub_self (by (try unfold rrE); (try unfold curE); (try simp only [List.cons_append, List.nil_append]); repeat first | exact sr | apply sk | apply sd)) rfl ⟨rfl, rfl⟩
def entB (c : CurT) (m : Int) : Bool := decide (c.d ≠ 24) && decide (m ≠ 4096)
def entC (l : List TokT) (c : CurT) (m : Int) : CurT := if c.d = 24 then failT l c 6 else if m = 4096 then failT l ⟨c.i, c.d + 1, c.e, c.a⟩ 8 else ⟨c.i, c.d + 1, c.e, c.a⟩
set_option maxRecDepth 20000 in
theorem rr_enter (hl : TokOk l) (hc : CurOk l c) (hm : 0 ≤ m ∧ m ≤ 4096) : CallsE Tryz.prog 36 [ptr rb] (rrE rb cb p q l c m) fun u es' => u = .bool (entB c m) ∧ es' = rrE rb cb p q l (entC l c m) (if entB c m = true then m + 1 else m) := by
 have hen := cur_enter cb p q l c hl hc
 have hce := hc.enter
 by_cases h24 : c.d = 24
 · have h1 : entB c m = false := by unfold entB; simp [h24]
   have h2 : entC l c m = failT l c 6 := if_pos h24
   have h3 : enterT l c = failT l c 6 := if_pos h24
   rw [h1, h2]
   rw [h3, show (!decide (c.d = 24)) = false by simp [h24]] at hen
   refine sy_enterE rfl rfl (fun w => ?_)
   simp only [initFr, rrE, curE, List.cons_append, List.nil_append]
   repeat (first | refine sy_k rfl rfl ?_ | (refine gO ?_; first | refine sy_ov (ov_p rfl) rfl rfl ?_ | (refine gL ?_; refine sy_ov (ov_ld 2 rfl rfl rfl) rfl rfl ?_) | refine sy_ov (ov_fieldAddr rfl rfl rfl) rfl rfl ?_))
   refine sy_order [0, 1, 2] rfl rfl ?_
   simp only [List.set_cons_zero, List.set_cons_succ, List.filterMap_cons, List.filterMap_nil, List.getElem?_cons_zero, List.getElem?_cons_succ]
   refine sy_callE (curE cb p q l _) rfl rfl rfl (hen) ?_
   rintro _ _ ⟨rfl, rfl⟩
   simp only [curE, List.cons_append, List.nil_append]
   repeat (first | refine sy_k rfl rfl ?_ | (refine gO ?_; refine sy_ov (ov_p rfl) rfl rfl ?_) | (refine sy_cond_t rfl ?_ ?_; (first | with_reducible rfl | assumption | omega | (simp <;> first | omega | assumption))) | refine sy_rt ?_)
   exact ret1w rfl rfl fun w' hw' => postE hw' _ (sub_self (by (try unfold rrE); (try unfold curE); (try simp only [List.cons_append, List.nil_append]); repeat first | exact sr | apply sk | apply sd)) rfl ⟨rfl, rfl⟩
 · have h3 : enterT l c = ⟨c.i, c.d + 1, c.e, c.a⟩ := if_neg h24
   rw [h3, show (!decide (c.d = 24)) = true by simp [h24]] at hen
   rw [h3] at hce
   by_cases hmm : m = 4096
   · have h1 : entB c m = false := by unfold entB; simp [hmm]
     have h2 : entC l c m = failT l ⟨c.i, c.d + 1, c.e, c.a⟩ 8 := by unfold entC; rw [if_neg h24, if_pos hmm]
     rw [h1, h2]
     refine sy_enterE rfl rfl (fun w => ?_)
     simp only [initFr, rrE, curE, List.cons_append, List.nil_append]
     repeat (first | refine sy_k rfl rfl ?_ | (refine gO ?_; first | refine sy_ov (ov_p rfl) rfl rfl ?_ | (refine gL ?_; refine sy_ov (ov_ld 2 rfl rfl rfl) rfl rfl ?_) | refine sy_ov (ov_fieldAddr rfl rfl rfl) rfl rfl ?_))
     refine sy_order [0, 1, 2] rfl rfl ?_
     simp only [List.set_cons_zero, List.set_cons_succ, List.filterMap_cons, List.filterMap_nil, List.getElem?_cons_zero, List.getElem?_cons_succ]
     refine sy_callE (curE cb p q l _) rfl rfl rfl (hen) ?_
     rintro _ _ ⟨rfl, rfl⟩
     simp only [curE, List.cons_append, List.nil_append]
     repeat (first | refine sy_k rfl rfl ?_ | (refine gO ?_; first | refine sy_ov (ov_p rfl) rfl rfl ?_ | (refine gL ?_; refine sy_ov (ov_ld 2 rfl rfl rfl) rfl rfl ?_) | refine sy_ov (ov_fieldAddr rfl rfl rfl) rfl rfl ?_) | (refine sy_cond_t rfl ?_ ?_; (first | with_reducible rfl | assumption | omega | (simp <;> first | omega | assumption))) | (refine sy_cond_f rfl ?_ ?_; (first | with_reducible rfl | assumption | omega | (simp <;> first | omega | assumption))))
     refine sy_order [0, 1, 2] rfl rfl ?_
     simp only [List.set_cons_zero, List.set_cons_succ, List.filterMap_cons, List.filterMap_nil, List.getElem?_cons_zero, List.getElem?_cons_succ]
     refine sy_callE (curE cb p q l _) rfl rfl rfl (cur_fail cb p q l ⟨c.i, c.d + 1, c.e, c.a⟩ hl hce 8) ?_
     rintro _ _ ⟨rfl, rfl⟩
     simp only [curE, List.cons_append, List.nil_append]
     repeat (first | refine sy_k rfl rfl ?_ | (refine gO ?_; refine sy_ov (ov_p rfl) rfl rfl ?_) | refine sy_rt ?_)
     exact ret1w rfl rfl fun w' hw' => postE hw' _ (sub_self (by (try unfold rrE); (try unfold curE); (try simp only [List.cons_append, List.nil_append]); repeat first | exact sr | apply sk | apply sd)) rfl ⟨rfl, rfl⟩
   · have h1 : entB c m = true := by unfold entB; simp [h24, hmm]
     have h2 : entC l c m = ⟨c.i, c.d + 1, c.e, c.a⟩ := by unfold entC; rw [if_neg h24, if_neg hmm]
     rw [h1, h2]
     refine sy_enterE rfl rfl (fun w => ?_)
     simp only [initFr, rrE, curE, List.cons_append, List.nil_append]
     repeat (first | refine sy_k rfl rfl ?_ | (refine gO ?_; first | refine sy_ov (ov_p rfl) rfl rfl ?_ | (refine gL ?_; refine sy_ov (ov_ld 2 rfl rfl rfl) rfl rfl ?_) | refine sy_ov (ov_fieldAddr rfl rfl rfl) rfl rfl ?_))
     refine sy_order [0, 1, 2] rfl rfl ?_
     simp only [List.set_cons_zero, List.set_cons_succ, List.filterMap_cons, List.filterMap_nil, List.getElem?_cons_zero, List.getElem?_cons_succ]
     refine sy_callE (curE cb p q l _) rfl rfl rfl (hen) ?_
     rintro _ _ ⟨rfl, rfl⟩
     simp only [curE, List.cons_append, List.nil_append]
     repeat (first | refine sy_k rfl rfl ?_ | (refine gO ?_; first | refine sy_ov (ov_p rfl) rfl rfl ?_ | (refine gB ?_; (refine sy_ov (ov_ar rfl rfl rfl ?_ ?_) rfl rfl ?_; omega; omega)) | (refine gL ?_; refine sy_ov (ov_ld 2 rfl rfl rfl) rfl rfl ?_) | (refine gS ?_; refine sy_store 2 rfl rfl rfl rfl rfl rfl rfl rfl ?_) | refine sy_ov (ov_fieldAddr rfl rfl rfl) rfl rfl ?_) | (refine sy_cond_f rfl ?_ ?_; (first | with_reducible rfl | assumption | omega | (simp <;> first | omega | assumption))) | refine sy_rt ?_)
     exact ret1w rfl rfl fun w' hw' => postE hw' _ (sub_self (by (try unfold rrE); (try unfold curE); (try simp only [List.cons_append, List.nil_append]); repeat first | exact sr | apply sk | apply sd)) rfl ⟨rfl, rfl⟩
end
end Go.Proofs.YtldjakeigjngoaaGreat