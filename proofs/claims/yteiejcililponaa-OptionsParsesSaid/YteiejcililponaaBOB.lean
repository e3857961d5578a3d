/- BOB: texts of this proof, joined by program: Opt, OptPart, OptParse, OptFmt, WalkOptionsBack. -/
import Derived.Test.YteiejcililponaaBOA
import Derived.Test.YteiejcililponaaBCX
import Derived.Test.YteiejcililponaaL2Q
import Derived.Test.YteiejcililponaaNamesQ
import Derived.Test.YteiejcililponaaBRC
import Derived.Test.YteiejcililponaaBEX
import Derived.Test.YteiejcililponaaTokQ
import Derived.Test.YteiejcililponaaBTR
/- Contracts: options, as the program reads them: its reader's methods. -/
set_option linter.unusedVariables false
set_option linter.unusedSimpArgs false
namespace Go.Proofs.Yteiejcililponaa
open Go.RowKit Bf
abbrev HadT := Bool × Bool × Bool × Bool
def hdL (h : HadT) : List Bool := [h.1, h.2.1, h.2.2.1, h.2.2.2]
def rdC (cb : Nat) (o : OptT) (h : HadT) : List Value := [ptr cb, .int .i64 o.1, .int .i64 o.2.1, .int .i64 o.2.2.1, S o.2.2.2, .bool h.1, .bool h.2.1, .bool h.2.2.1, .bool h.2.2.2]
/-- A reader of options: its cursor, and itself. -/
def rdE (rb cb : Nat) (p : Option Addr) (q : Nat) (l : List TokT) (c : CurT) (o : OptT) (h : HadT) : List En := curE cb p q l c ++ [blk rb 147 (rdC cb o h)]
def wrongT (l : List TokT) (c : CurT) : CurT := failT l c (if (peekT l c).1 = 0 then 5 else 4)
theorem CurOk.wrong {l : List TokT} {c : CurT} (h : CurOk l c) : CurOk l (wrongT l c) := h.fail _
theorem cur_take_t (b : Nat) (p : Option Addr) (q : Nat) (l : List TokT) (c : CurT) (hl : TokOk l) (hc : CurOk l c) (k : Int) (h : takT l c k = true) : CurCalls 52 [.int .i64 k] b p q l c (.tuple #[.agg ⟨tokV (peekT l c)⟩, .bool true]) (nextT l c) := by
  have := cur_take b p q l c hl hc k
  unfold takV goT at this
  rw [h, if_pos rfl, if_pos rfl] at this; exact this
theorem cur_take_f (b : Nat) (p : Option Addr) (q : Nat) (l : List TokT) (c : CurT) (hl : TokOk l) (hc : CurOk l c) (k : Int) (h : takT l c k = false) : CurCalls 52 [.int .i64 k] b p q l c (.tuple #[.agg ⟨tokV ztk⟩, .bool false]) c := by
  have := cur_take b p q l c hl hc k
  unfold takV goT at this
  rw [h, if_neg (by decide), if_neg (by decide)] at this; exact this
section
variable (rb cb : Nat) (p : Option Addr) (q : Nat) (l : List TokT) (c : CurT) (o : OptT) (h : HadT)
set_option maxRecDepth 20000 in
theorem or_wrong (hl : TokOk l) (hc : CurOk l c) : CallsE Try.prog 186 [ptr rb] (rdE rb cb p q l c o h) fun u es' => u = .tuple #[] ∧ es' = rdE rb cb p q l (wrongT l c) o h := by
  by_cases h0 : (peekT l c).1 = 0
  · have hn : wrongT l c = failT l c 5 := by unfold wrongT; rw [if_pos h0]
    rw [hn]
    refine sy_enterE rfl rfl (fun w => ?_)
    simp only [initFr, rdE, curE, List.cons_append, List.nil_append]
    repeat (first | refine sy_k rfl rfl ?_ | (refine gO ?_; first | refine sy_ov (ov_p rfl) rfl rfl ?_ | (refine gL ?_; refine sy_ov (ov_ld 2 rfl rfl rfl) rfl rfl ?_) | refine sy_ov (ov_fieldAddr rfl rfl rfl) rfl rfl ?_))
    refine sy_order [0, 1, 2] rfl rfl ?_
    simp only [List.set_cons_zero, List.set_cons_succ, List.filterMap_cons, List.filterMap_nil, List.getElem?_cons_zero, List.getElem?_cons_succ]
    refine sy_callE (curE cb p q l _) rfl rfl rfl (cur_peek cb p q l c hl hc) ?_
    rintro _ _ ⟨rfl, rfl⟩
    simp only [curE, List.cons_append, List.nil_append]
    repeat (first | refine sy_k rfl rfl ?_ | (refine gO ?_; first | refine sy_ov (ov_p rfl) rfl rfl ?_ | (refine gL ?_; refine sy_ov (ov_ld 2 rfl rfl rfl) rfl rfl ?_) | refine sy_ov (ov_fieldAddr rfl rfl rfl) rfl rfl ?_ | refine sy_ov (ov_field rfl rfl rfl) rfl rfl ?_) | (refine sy_cond_t rfl ?_ ?_; focus (first | with_reducible rfl | assumption | omega | (simp <;> first | omega | assumption))))
    refine sy_order [0, 1, 2] rfl rfl ?_
    simp only [List.set_cons_zero, List.set_cons_succ, List.filterMap_cons, List.filterMap_nil, List.getElem?_cons_zero, List.getElem?_cons_succ]
    refine sy_callE (curE cb p q l _) rfl rfl rfl (cur_fail cb p q l c hl hc 5) ?_
    rintro _ _ ⟨rfl, rfl⟩
    simp only [curE, List.cons_append, List.nil_append]
    repeat (first | refine sy_k rfl rfl ?_ | refine sy_rt ?_)
    exact ret0w rfl fun w' hw' => postE hw' _ (sub_self (by (try unfold rdE); (try unfold curE); (try simp only [List.cons_append, List.nil_append]); repeat first | exact sr | apply sk | apply sd)) rfl ⟨rfl, rfl⟩
  · have hn : wrongT l c = failT l c 4 := by unfold wrongT; rw [if_neg h0]
    rw [hn]
    refine sy_enterE rfl rfl (fun w => ?_)
    simp only [initFr, rdE, curE, List.cons_append, List.nil_append]
    repeat (first | refine sy_k rfl rfl ?_ | (refine gO ?_; first | refine sy_ov (ov_p rfl) rfl rfl ?_ | (refine gL ?_; refine sy_ov (ov_ld 2 rfl rfl rfl) rfl rfl ?_) | refine sy_ov (ov_fieldAddr rfl rfl rfl) rfl rfl ?_))
    refine sy_order [0, 1, 2] rfl rfl ?_
    simp only [List.set_cons_zero, List.set_cons_succ, List.filterMap_cons, List.filterMap_nil, List.getElem?_cons_zero, List.getElem?_cons_succ]
    refine sy_callE (curE cb p q l _) rfl rfl rfl (cur_peek cb p q l c hl hc) ?_
    rintro _ _ ⟨rfl, rfl⟩
    simp only [curE, List.cons_append, List.nil_append]
    repeat (first | refine sy_k rfl rfl ?_ | (refine gO ?_; first | refine sy_ov (ov_p rfl) rfl rfl ?_ | (refine gL ?_; refine sy_ov (ov_ld 2 rfl rfl rfl) rfl rfl ?_) | refine sy_ov (ov_fieldAddr rfl rfl rfl) rfl rfl ?_ | refine sy_ov (ov_field rfl rfl rfl) rfl rfl ?_) | (refine sy_cond_f rfl ?_ ?_; focus (first | with_reducible rfl | assumption | omega | (simp <;> first | omega | assumption))))
    refine sy_order [0, 1, 2] rfl rfl ?_
    simp only [List.set_cons_zero, List.set_cons_succ, List.filterMap_cons, List.filterMap_nil, List.getElem?_cons_zero, List.getElem?_cons_succ]
    refine sy_callE (curE cb p q l _) rfl rfl rfl (cur_fail cb p q l c hl hc 4) ?_
    rintro _ _ ⟨rfl, rfl⟩
    simp only [curE, List.cons_append, List.nil_append]
    repeat (refine sy_k rfl rfl ?_)
    exact end0w rfl fun w' hw' => postE hw' _ (sub_self (by (try unfold rdE); (try unfold curE); (try simp only [List.cons_append, List.nil_append]); repeat first | exact sr | apply sk | apply sd)) rfl ⟨rfl, rfl⟩
/-- What 'name' answers, and leaves. -/
def namTk (l : List TokT) (c : CurT) : TokT := if takT l c 1 = true then peekT l c else ztk
def namCu (l : List TokT) (c : CurT) : CurT := if takT l c 1 = true then nextT l c else wrongT l c
set_option maxRecDepth 20000 in
theorem or_name (hl : TokOk l) (hc : CurOk l c) : CallsE Try.prog 153 [ptr rb] (rdE rb cb p q l c o h) fun u es' => u = .agg ⟨tokV (namTk l c)⟩ ∧ es' = rdE rb cb p q l (namCu l c) o h := by
  by_cases ht : takT l c 1 = true
  · have h1 : namTk l c = peekT l c := if_pos ht
    have h2 : namCu l c = nextT l c := if_pos ht
    rw [h1, h2]
    refine sy_enterE rfl rfl (fun w => ?_)
    simp only [initFr, rdE, curE, List.cons_append, List.nil_append]
    repeat (first | refine sy_k rfl rfl ?_ | (refine gO ?_; first | refine sy_ov (ov_p rfl) rfl rfl ?_ | (refine gL ?_; refine sy_ov (ov_ld 3 rfl rfl rfl) rfl rfl ?_) | refine sy_ov (ov_fieldAddr rfl rfl rfl) rfl rfl ?_ | (refine sy_alloc rfl rfl rfl ?_; intro _)))
    refine sy_order [1, 2, 3, 0] rfl rfl ?_
    simp only [List.set_cons_zero, List.set_cons_succ, List.filterMap_cons, List.filterMap_nil, List.getElem?_cons_zero, List.getElem?_cons_succ]
    refine sy_callE (curE cb p q l _) rfl rfl rfl (cur_take_t cb p q l c hl hc 1 ht) ?_
    rintro _ _ ⟨rfl, rfl⟩
    simp only [curE, List.cons_append, List.nil_append]
    repeat (first | refine sy_k rfl rfl ?_ | (refine gO ?_; first | refine sy_ov (ov_p rfl) rfl rfl ?_ | (refine gL ?_; refine sy_ov (ov_ld 0 rfl rfl rfl) rfl rfl ?_) | (refine gS ?_; first | refine sy_store 0 rfl rfl rfl rfl rfl rfl rfl rfl ?_ | refine sy_store 4 rfl rfl rfl rfl rfl rfl rfl rfl ?_) | (refine sy_alloc rfl rfl rfl ?_; intro _)) | (refine sy_cond_f rfl ?_ ?_; focus (first | with_reducible rfl | assumption | omega | (simp <;> first | omega | assumption))) | refine sy_rt ?_)
    exact ret1cw 4 rfl rfl rfl rfl rfl fun w' hw' => postE hw' _ (sub_self (by (try unfold rdE); (try unfold curE); (try simp only [List.cons_append, List.nil_append]); repeat first | exact sr | apply sk | apply sd)) rfl ⟨rfl, rfl⟩
  · have ht : takT l c 1 = false := by simpa using ht
    have h1 : namTk l c = ztk := by unfold namTk; rw [ht]; rfl
    have h2 : namCu l c = wrongT l c := by unfold namCu; rw [ht]; rfl
    rw [h1, h2]
    refine sy_enterE rfl rfl (fun w => ?_)
    simp only [initFr, rdE, curE, List.cons_append, List.nil_append]
    repeat (first | refine sy_k rfl rfl ?_ | (refine gO ?_; first | refine sy_ov (ov_p rfl) rfl rfl ?_ | (refine gL ?_; refine sy_ov (ov_ld 3 rfl rfl rfl) rfl rfl ?_) | refine sy_ov (ov_fieldAddr rfl rfl rfl) rfl rfl ?_ | (refine sy_alloc rfl rfl rfl ?_; intro _)))
    refine sy_order [1, 2, 3, 0] rfl rfl ?_
    simp only [List.set_cons_zero, List.set_cons_succ, List.filterMap_cons, List.filterMap_nil, List.getElem?_cons_zero, List.getElem?_cons_succ]
    refine sy_callE (curE cb p q l _) rfl rfl rfl (cur_take_f cb p q l c hl hc 1 ht) ?_
    rintro _ _ ⟨rfl, rfl⟩
    simp only [curE, List.cons_append, List.nil_append]
    repeat (first | refine sy_k rfl rfl ?_ | (refine gO ?_; first | refine sy_ov (ov_p rfl) rfl rfl ?_ | (refine gS ?_; refine sy_store 0 rfl rfl rfl rfl rfl rfl rfl rfl ?_) | (refine sy_alloc rfl rfl rfl ?_; intro _)) | (refine sy_cond_t rfl ?_ ?_; focus (first | with_reducible rfl | assumption | omega | (simp <;> first | omega | assumption))))
    refine sy_order [1, 2, 3, 0, 4] rfl rfl ?_
    simp only [List.set_cons_zero, List.set_cons_succ, List.filterMap_cons, List.filterMap_nil, List.getElem?_cons_zero, List.getElem?_cons_succ]
    refine sy_callE (rdE rb cb p q l _ _ _) rfl rfl rfl (or_wrong rb cb p q l c o h hl hc) ?_
    rintro _ _ ⟨rfl, rfl⟩
    simp only [rdE, curE, List.cons_append, List.nil_append]
    repeat (first | refine sy_k rfl rfl ?_ | (refine gO ?_; first | (refine gL ?_; refine sy_ov (ov_ld 3 rfl rfl rfl) rfl rfl ?_) | (refine gS ?_; refine sy_store 4 rfl rfl rfl rfl rfl rfl rfl rfl ?_)) | refine sy_rt ?_)
    exact ret1cw 4 rfl rfl rfl rfl rfl fun w' hw' => postE hw' _ (sub_self (by (try unfold rdE); (try unfold curE); (try simp only [List.cons_append, List.nil_append]); repeat first | exact sr | apply sk | apply sd)) rfl ⟨rfl, rfl⟩
/-- What 'number' answers, and leaves. -/
def numN (l : List TokT) (c : CurT) : Int := if takT l c 2 = true then (peekT l c).2.2.2.2 else 0
def numC (may : Int → Bool) (l : List TokT) (c : CurT) : CurT := if takT l c 2 = true then (if may (peekT l c).2.2.2.2 = true then nextT l c else failAtT (nextT l c) 20 (peekT l c).2.1) else wrongT l c
set_option maxRecDepth 20000 in
theorem or_number {f : FuncId} {fn : Func} [FN Try.prog f fn] (may : Int → Bool) (hm : ∀ n w, Calls Try.prog f #[.int .i64 n] w fun e w' => e = .returned (.bool (may n)) ∧ Below w.heap.size w w') (hl : TokOk l) (hc : CurOk l c) :
    CallsE Try.prog 155 [ptr rb, .func (.func f) #[] #[]] (rdE rb cb p q l c o h) fun u es' => u = .int .i64 (numN l c) ∧ es' = rdE rb cb p q l (numC may l c) o h := by
  by_cases ht : takT l c 2 = true
  · have h1 : numN l c = (peekT l c).2.2.2.2 := if_pos ht
    by_cases hm2 : may (peekT l c).2.2.2.2 = true
    · have h2 : numC may l c = nextT l c := by unfold numC; rw [if_pos ht, if_pos hm2]
      rw [h1, h2]
      refine sy_enterE rfl rfl (fun w => ?_)
      simp only [initFr, rdE, curE, List.cons_append, List.nil_append]
      repeat (first | refine sy_k rfl rfl ?_ | (refine gO ?_; first | refine sy_ov (ov_p rfl) rfl rfl ?_ | (refine gL ?_; refine sy_ov (ov_ld 2 rfl rfl rfl) rfl rfl ?_) | refine sy_ov (ov_fieldAddr rfl rfl rfl) rfl rfl ?_))
      refine sy_order [0, 1, 2] rfl rfl ?_
      simp only [List.set_cons_zero, List.set_cons_succ, List.filterMap_cons, List.filterMap_nil, List.getElem?_cons_zero, List.getElem?_cons_succ]
      refine sy_callE (curE cb p q l _) rfl rfl rfl (cur_take_t cb p q l c hl hc 2 ht) ?_
      rintro _ _ ⟨rfl, rfl⟩
      simp only [curE, List.cons_append, List.nil_append]
      repeat (first | refine sy_k rfl rfl ?_ | (refine gO ?_; first | refine sy_ov (ov_p rfl) rfl rfl ?_ | (refine gL ?_; refine sy_ov (ov_ld 0 rfl rfl rfl) rfl rfl ?_) | (refine gS ?_; refine sy_store 0 rfl rfl rfl rfl rfl rfl rfl rfl ?_) | refine sy_ov (ov_fieldAddr rfl rfl rfl) rfl rfl ?_ | (refine sy_alloc rfl rfl rfl ?_; intro _)) | (refine sy_cond_f rfl ?_ ?_; focus (first | with_reducible rfl | assumption | omega | (simp <;> first | omega | assumption))))
      refine sy_ov (ov_callT rfl rfl rfl (fun w _ => hm _ w)) rfl rfl ?_
      rw [hm2]
      repeat (first | refine sy_k rfl rfl ?_ | (refine gO ?_; first | refine sy_ov (ov_p rfl) rfl rfl ?_ | (refine gL ?_; refine sy_ov (ov_ld 0 rfl rfl rfl) rfl rfl ?_) | refine sy_ov (ov_fieldAddr rfl rfl rfl) rfl rfl ?_) | (refine sy_cond_f rfl ?_ ?_; focus (first | with_reducible rfl | assumption | omega | (simp <;> first | omega | assumption))) | refine sy_rt ?_)
      exact ret1w rfl rfl fun w' hw' => postE hw' _ (sub_self (by (try unfold rdE); (try unfold curE); (try simp only [List.cons_append, List.nil_append]); repeat first | exact sr | apply sk | apply sd)) rfl ⟨rfl, rfl⟩
    · have hm2 : may (peekT l c).2.2.2.2 = false := by simpa using hm2
      have h2 : numC may l c = failAtT (nextT l c) 20 (peekT l c).2.1 := by unfold numC; rw [if_pos ht, hm2]; rfl
      rw [h1, h2]
      refine sy_enterE rfl rfl (fun w => ?_)
      simp only [initFr, rdE, curE, List.cons_append, List.nil_append]
      repeat (first | refine sy_k rfl rfl ?_ | (refine gO ?_; first | refine sy_ov (ov_p rfl) rfl rfl ?_ | (refine gL ?_; refine sy_ov (ov_ld 2 rfl rfl rfl) rfl rfl ?_) | refine sy_ov (ov_fieldAddr rfl rfl rfl) rfl rfl ?_))
      refine sy_order [0, 1, 2] rfl rfl ?_
      simp only [List.set_cons_zero, List.set_cons_succ, List.filterMap_cons, List.filterMap_nil, List.getElem?_cons_zero, List.getElem?_cons_succ]
      refine sy_callE (curE cb p q l _) rfl rfl rfl (cur_take_t cb p q l c hl hc 2 ht) ?_
      rintro _ _ ⟨rfl, rfl⟩
      simp only [curE, List.cons_append, List.nil_append]
      repeat (first | refine sy_k rfl rfl ?_ | (refine gO ?_; first | refine sy_ov (ov_p rfl) rfl rfl ?_ | (refine gL ?_; refine sy_ov (ov_ld 0 rfl rfl rfl) rfl rfl ?_) | (refine gS ?_; refine sy_store 0 rfl rfl rfl rfl rfl rfl rfl rfl ?_) | refine sy_ov (ov_fieldAddr rfl rfl rfl) rfl rfl ?_ | (refine sy_alloc rfl rfl rfl ?_; intro _)) | (refine sy_cond_f rfl ?_ ?_; focus (first | with_reducible rfl | assumption | omega | (simp <;> first | omega | assumption))))
      refine sy_ov (ov_callT rfl rfl rfl (fun w _ => hm _ w)) rfl rfl ?_
      rw [hm2]
      repeat (first | refine sy_k rfl rfl ?_ | (refine gO ?_; refine sy_ov (ov_p rfl) rfl rfl ?_) | (refine sy_cond_t rfl ?_ ?_; focus (first | with_reducible rfl | assumption | omega | (simp <;> first | omega | assumption))))
      refine sy_draw 6 (by kernel_rfl) ?_
      repeat (first | refine dr_op (ov_p rfl) rfl rfl ?_ | refine dr_op (ov_ld 0 rfl rfl rfl) rfl rfl ?_ | refine dr_op (ov_ld 3 rfl rfl rfl) rfl rfl ?_ | refine dr_op (ov_fieldAddr rfl rfl rfl) rfl rfl ?_ | refine dr_end ?_)
      skip
      refine sy_order [1, 2, 3, 0] rfl rfl ?_
      simp only [List.set_cons_zero, List.set_cons_succ, List.filterMap_cons, List.filterMap_nil, List.getElem?_cons_zero, List.getElem?_cons_succ]
      refine sy_callE (curE cb p q l _) rfl rfl rfl (cur_failAt cb p q l (nextT l c) 20 (peekT l c).2.1) ?_
      rintro _ _ ⟨rfl, rfl⟩
      simp only [curE, List.cons_append, List.nil_append]
      repeat (first | refine sy_k rfl rfl ?_ | (refine gO ?_; first | refine sy_ov (ov_p rfl) rfl rfl ?_ | (refine gL ?_; refine sy_ov (ov_ld 3 rfl rfl rfl) rfl rfl ?_) | refine sy_ov (ov_fieldAddr rfl rfl rfl) rfl rfl ?_) | refine sy_rt ?_)
      exact ret1w rfl rfl fun w' hw' => postE hw' _ (sub_self (by (try unfold rdE); (try unfold curE); (try simp only [List.cons_append, List.nil_append]); repeat first | exact sr | apply sk | apply sd)) rfl ⟨rfl, rfl⟩
  · have ht : takT l c 2 = false := by simpa using ht
    have h1 : numN l c = 0 := by unfold numN; rw [ht]; rfl
    have h2 : numC may l c = wrongT l c := by unfold numC; rw [ht]; rfl
    rw [h1, h2]
    refine sy_enterE rfl rfl (fun w => ?_)
    simp only [initFr, rdE, curE, List.cons_append, List.nil_append]
    repeat (first | refine sy_k rfl rfl ?_ | (refine gO ?_; first | refine sy_ov (ov_p rfl) rfl rfl ?_ | (refine gL ?_; refine sy_ov (ov_ld 2 rfl rfl rfl) rfl rfl ?_) | refine sy_ov (ov_fieldAddr rfl rfl rfl) rfl rfl ?_))
    refine sy_order [0, 1, 2] rfl rfl ?_
    simp only [List.set_cons_zero, List.set_cons_succ, List.filterMap_cons, List.filterMap_nil, List.getElem?_cons_zero, List.getElem?_cons_succ]
    refine sy_callE (curE cb p q l _) rfl rfl rfl (cur_take_f cb p q l c hl hc 2 ht) ?_
    rintro _ _ ⟨rfl, rfl⟩
    simp only [curE, List.cons_append, List.nil_append]
    repeat (first | refine sy_k rfl rfl ?_ | (refine gO ?_; first | refine sy_ov (ov_p rfl) rfl rfl ?_ | (refine gS ?_; refine sy_store 0 rfl rfl rfl rfl rfl rfl rfl rfl ?_) | (refine sy_alloc rfl rfl rfl ?_; intro _)) | (refine sy_cond_t rfl ?_ ?_; focus (first | with_reducible rfl | assumption | omega | (simp <;> first | omega | assumption))))
    refine sy_order [1, 2, 3, 0] rfl rfl ?_
    simp only [List.set_cons_zero, List.set_cons_succ, List.filterMap_cons, List.filterMap_nil, List.getElem?_cons_zero, List.getElem?_cons_succ]
    refine sy_callE (rdE rb cb p q l _ _ _) rfl rfl rfl (or_wrong rb cb p q l c o h hl hc) ?_
    rintro _ _ ⟨rfl, rfl⟩
    simp only [rdE, curE, List.cons_append, List.nil_append]
    repeat (first | refine sy_k rfl rfl ?_ | (refine gO ?_; first | refine sy_ov (ov_p rfl) rfl rfl ?_ | (refine gL ?_; refine sy_ov (ov_ld 3 rfl rfl rfl) rfl rfl ?_) | refine sy_ov (ov_fieldAddr rfl rfl rfl) rfl rfl ?_) | refine sy_rt ?_)
    exact ret1w rfl rfl fun w' hw' => postE hw' _ (sub_self (by (try unfold rdE); (try unfold curE); (try simp only [List.cons_append, List.nil_append]); repeat first | exact sr | apply sk | apply sd)) rfl ⟨rfl, rfl⟩
end
set_option maxRecDepth 20000 in
theorem width36_c (n : Int) (w : World) : Calls Try.prog 117 #[.int .i64 n] w fun e w' => e = .returned (.bool (widB n)) ∧ Below w.heap.size w w' := by
  by_cases h1 : 1 ≤ n
  · by_cases h2 : n ≤ 1000
    · have hb : widB n = true := by unfold widB; simp; omega
      rw [hb]
      refine sy_enter rfl rfl ?_
      simp only [initFr]
      repeat (first | refine sy_k rfl rfl ?_ | (refine gO ?_; first | refine sy_ov (ov_p rfl) rfl rfl ?_ | (refine gG ?_; (refine sy_guard_yes rfl rfl rfl rfl rfl ?_ ?_; focus (first | with_reducible rfl | assumption | omega | (simp <;> first | omega | assumption)))) | (refine sy_ov (ov_pick_t rfl rfl ?_) rfl rfl ?_; focus (with_reducible rfl))) | refine sy_rt ?_)
      exact ret1 rfl rfl (by simp [h2])
    · have hb : widB n = false := by unfold widB; simp; omega
      rw [hb]
      refine sy_enter rfl rfl ?_
      simp only [initFr]
      repeat (first | refine sy_k rfl rfl ?_ | (refine gO ?_; first | refine sy_ov (ov_p rfl) rfl rfl ?_ | (refine gG ?_; (refine sy_guard_yes rfl rfl rfl rfl rfl ?_ ?_; focus (first | with_reducible rfl | assumption | omega | (simp <;> first | omega | assumption)))) | (refine sy_ov (ov_pick_t rfl rfl ?_) rfl rfl ?_; focus (with_reducible rfl))) | refine sy_rt ?_)
      exact ret1 rfl rfl (by simp [h2])
  · have hb : widB n = false := by unfold widB; simp; omega
    rw [hb]
    refine sy_enter rfl rfl ?_
    simp only [initFr]
    repeat (first | refine sy_k rfl rfl ?_ | (refine gO ?_; first | refine sy_ov (ov_p rfl) rfl rfl ?_ | (refine gG ?_; (refine sy_guard_no rfl rfl rfl rfl rfl ?_ ?_; focus (first | with_reducible rfl | assumption | omega | (simp <;> first | omega | assumption)))) | refine sy_ov (ov_pick rfl rfl rfl) rfl rfl ?_) | refine sy_rt ?_)
    exact ret1 rfl rfl rfl
set_option maxRecDepth 20000 in
theorem indent36_c (n : Int) (w : World) : Calls Try.prog 118 #[.int .i64 n] w fun e w' => e = .returned (.bool (indB n)) ∧ Below w.heap.size w w' := by
  by_cases h1 : 0 ≤ n
  · by_cases h2 : n ≤ 16
    · have hb : indB n = true := by unfold indB; simp; omega
      rw [hb]
      refine sy_enter rfl rfl ?_
      simp only [initFr]
      repeat (first | refine sy_k rfl rfl ?_ | (refine gO ?_; first | refine sy_ov (ov_p rfl) rfl rfl ?_ | (refine gG ?_; (refine sy_guard_yes rfl rfl rfl rfl rfl ?_ ?_; focus (first | with_reducible rfl | assumption | omega | (simp <;> first | omega | assumption)))) | (refine sy_ov (ov_pick_t rfl rfl ?_) rfl rfl ?_; focus (with_reducible rfl))) | refine sy_rt ?_)
      exact ret1 rfl rfl (by simp [h2])
    · have hb : indB n = false := by unfold indB; simp; omega
      rw [hb]
      refine sy_enter rfl rfl ?_
      simp only [initFr]
      repeat (first | refine sy_k rfl rfl ?_ | (refine gO ?_; first | refine sy_ov (ov_p rfl) rfl rfl ?_ | (refine gG ?_; (refine sy_guard_yes rfl rfl rfl rfl rfl ?_ ?_; focus (first | with_reducible rfl | assumption | omega | (simp <;> first | omega | assumption)))) | (refine sy_ov (ov_pick_t rfl rfl ?_) rfl rfl ?_; focus (with_reducible rfl))) | refine sy_rt ?_)
      exact ret1 rfl rfl (by simp [h2])
  · have hb : indB n = false := by unfold indB; simp; omega
    rw [hb]
    refine sy_enter rfl rfl ?_
    simp only [initFr]
    repeat (first | refine sy_k rfl rfl ?_ | (refine gO ?_; first | refine sy_ov (ov_p rfl) rfl rfl ?_ | (refine gG ?_; (refine sy_guard_no rfl rfl rfl rfl rfl ?_ ?_; focus (first | with_reducible rfl | assumption | omega | (simp <;> first | omega | assumption)))) | refine sy_ov (ov_pick rfl rfl rfl) rfl rfl ?_) | refine sy_rt ?_)
    exact ret1 rfl rfl rfl
set_option maxRecDepth 20000 in
theorem name36_c (m : Int) (w : World) : Calls Try.prog 76 #[.int .i64 m] w fun e w' => e = .returned (S (modL m)) ∧ Below w.heap.size w w' := by
  by_cases h1 : m = 1
  · subst h1
    refine sy_enter rfl rfl ?_
    simp only [initFr]
    repeat (first | refine sy_k rfl rfl ?_ | (refine gO ?_; refine sy_ov (ov_p rfl) rfl rfl ?_) | (refine sy_cond_t rfl ?_ ?_; focus (first | with_reducible rfl | assumption | omega | (simp <;> first | omega | assumption))) | refine sy_rt ?_)
    exact ret1 rfl rfl rfl
  · by_cases h2 : m = 2
    · subst h2
      refine sy_enter rfl rfl ?_
      simp only [initFr]
      repeat (first | refine sy_k rfl rfl ?_ | (refine gO ?_; refine sy_ov (ov_p rfl) rfl rfl ?_) | (refine sy_cond_t rfl ?_ ?_; focus (first | with_reducible rfl | assumption | omega | (simp <;> first | omega | assumption))) | (refine sy_cond_f rfl ?_ ?_; focus (first | with_reducible rfl | assumption | omega | (simp <;> first | omega | assumption))) | refine sy_rt ?_)
      exact ret1 rfl rfl rfl
    · by_cases h3 : m = 3
      · subst h3
        refine sy_enter rfl rfl ?_
        simp only [initFr]
        repeat (first | refine sy_k rfl rfl ?_ | (refine gO ?_; refine sy_ov (ov_p rfl) rfl rfl ?_) | (refine sy_cond_t rfl ?_ ?_; focus (first | with_reducible rfl | assumption | omega | (simp <;> first | omega | assumption))) | (refine sy_cond_f rfl ?_ ?_; focus (first | with_reducible rfl | assumption | omega | (simp <;> first | omega | assumption))) | refine sy_rt ?_)
        exact ret1 rfl rfl rfl
      · have hm : modL m = [] := by unfold modL; rw [if_neg h1, if_neg h2, if_neg h3]
        rw [hm]
        refine sy_enter rfl rfl ?_
        simp only [initFr]
        repeat (first | refine sy_k rfl rfl ?_ | (refine gO ?_; refine sy_ov (ov_p rfl) rfl rfl ?_) | (refine sy_cond_f rfl ?_ ?_; focus (first | with_reducible rfl | assumption | omega | (simp <;> first | omega | assumption))) | refine sy_rt ?_)
        exact ret1 rfl rfl rfl
theorem modN_mod (m : Int) (s : List UInt8) (h1 : 1 ≤ m) (h3 : m ≤ 3) : modL m = s ↔ modN s = m := by
  have hm : m = 1 ∨ m = 2 ∨ m = 3 := by omega
  constructor
  · rintro rfl
    rcases hm with rfl | rfl | rfl <;> decide
  · intro h
    have h0 : modN s ≠ 0 := by omega
    rw [← h]; exact modN_modL h0
set_option maxRecDepth 20000 in
theorem mode36_c (s : List UInt8) (hs : s.length ≤ 4611686018427387000) (w : World) : Calls Try.prog 77 #[S s] w fun e w' => e = .returned (.int .i64 (modN s)) ∧ Below w.heap.size w w' := by
  have hb := modN_le s
  refine sy_enter rfl rfl ?_
  simp only [initFr]
  repeat (first | refine sy_k rfl rfl ?_ | (refine gO ?_; refine sy_ov (ov_p rfl) rfl rfl ?_))
  refine sy_loop (α := Int) (fun m => [(0, S s), (3, .int .i64 m)]) (fun _ => []) (fun m => 1 ≤ m ∧ m ≤ 4 ∧ (modN s = 0 ∨ m ≤ modN s)) (fun m => (4 - m).toNat) 1 ⟨by omega, by omega, by omega⟩ ⟨⟨_, rfl, rfl⟩, ⟨_, rfl, rfl⟩, trivial⟩ (List.nil_sublist _) ?_
  rintro m ⟨m1, m4, hm⟩
  by_cases hlt : m ≤ 3
  · have hml := modN_mod m s m1 hlt
    by_cases he : modL m = s
    · have hmn := hml.1 he
      rw [hmn]
      repeat (first | refine sy_k rfl rfl ?_ | (refine gO ?_; refine sy_ov (ov_p rfl) rfl rfl ?_) | (refine sy_cond_t rfl ?_ ?_; focus (first | with_reducible rfl | assumption | omega | (simp <;> first | omega | assumption))))
      refine sy_ov (ov_call rfl (fun w _ => name36_c m w)) rfl rfl ?_
      rw [he]
      repeat (first | refine sy_k rfl rfl ?_ | (refine gO ?_; refine sy_ov (ov_p rfl) rfl rfl ?_) | (refine sy_cond_t rfl ?_ ?_; focus (first | with_reducible rfl | assumption | omega | (simp <;> first | omega | assumption))) | refine sy_rt ?_)
      exact ret1 rfl rfl rfl
    · have hmn := (not_congr hml).1 he
      repeat (first | refine sy_k rfl rfl ?_ | (refine gO ?_; refine sy_ov (ov_p rfl) rfl rfl ?_) | (refine sy_cond_t rfl ?_ ?_; focus (first | with_reducible rfl | assumption | omega | (simp <;> first | omega | assumption))))
      refine sy_ov (ov_call rfl (fun w _ => name36_c m w)) rfl rfl ?_
      repeat (first | refine sy_k rfl rfl ?_ | (refine gO ?_; first | refine sy_ov (ov_p rfl) rfl rfl ?_ | (refine gB ?_; (refine sy_ov (ov_ar rfl rfl rfl ?_ ?_) rfl rfl ?_; omega; omega))) | (refine sy_cond_f rfl ?_ ?_; focus (first | with_reducible rfl | assumption | omega | (simp <;> first | omega | assumption))))
      refine sy_back (m + 1) ⟨by omega, by omega, by omega⟩ (by omega) ⟨⟨_, rfl, rfl⟩, ⟨_, rfl, rfl⟩, trivial⟩ (List.nil_sublist _)
  · have h0 : modN s = 0 := by omega
    rw [h0]
    repeat (first | refine sy_k rfl rfl ?_ | (refine gO ?_; refine sy_ov (ov_p rfl) rfl rfl ?_) | (refine sy_cond_f rfl ?_ ?_; focus (first | with_reducible rfl | assumption | omega | (simp <;> first | omega | assumption))) | refine sy_rt ?_)
    exact ret1 rfl rfl rfl
set_option maxRecDepth 20000 in
theorem which_c (s : List UInt8) (k : Int) (hk : whN s = k) (w : World) : Calls Try.prog 154 #[S s] w fun e w' => e = .returned (.int .i64 k) ∧ Below w.heap.size w w' := by
  subst hk
  rcases whN_ways s with ⟨h1, rfl⟩ | ⟨h1, rfl⟩ | ⟨h1, rfl⟩ | ⟨h1, rfl⟩ | ⟨h1, n1, n2, n3, n4⟩
  · rw [h1]
    unfold widthL'
    refine sy_enter rfl rfl ?_
    simp only [initFr]
    repeat (first | refine sy_k rfl rfl ?_ | (refine gO ?_; refine sy_ov (ov_p rfl) rfl rfl ?_) | (refine sy_cond_t rfl ?_ ?_; focus (first | with_reducible rfl | assumption | omega | (simp <;> first | omega | assumption))) | refine sy_rt ?_)
    exact ret1 rfl rfl rfl
  · rw [h1]
    unfold indentL
    refine sy_enter rfl rfl ?_
    simp only [initFr]
    repeat (first | refine sy_k rfl rfl ?_ | (refine gO ?_; refine sy_ov (ov_p rfl) rfl rfl ?_) | (refine sy_cond_t rfl ?_ ?_; focus (first | with_reducible rfl | assumption | omega | (simp <;> first | omega | assumption))) | (refine sy_cond_f rfl ?_ ?_; focus (first | with_reducible rfl | assumption | omega | (simp <;> first | omega | assumption))) | refine sy_rt ?_)
    exact ret1 rfl rfl rfl
  · rw [h1]
    unfold modeL
    refine sy_enter rfl rfl ?_
    simp only [initFr]
    repeat (first | refine sy_k rfl rfl ?_ | (refine gO ?_; refine sy_ov (ov_p rfl) rfl rfl ?_) | (refine sy_cond_t rfl ?_ ?_; focus (first | with_reducible rfl | assumption | omega | (simp <;> first | omega | assumption))) | (refine sy_cond_f rfl ?_ ?_; focus (first | with_reducible rfl | assumption | omega | (simp <;> first | omega | assumption))) | refine sy_rt ?_)
    exact ret1 rfl rfl rfl
  · rw [h1]
    unfold obsL
    refine sy_enter rfl rfl ?_
    simp only [initFr]
    repeat (first | refine sy_k rfl rfl ?_ | (refine gO ?_; refine sy_ov (ov_p rfl) rfl rfl ?_) | (refine sy_cond_t rfl ?_ ?_; focus (first | with_reducible rfl | assumption | omega | (simp <;> first | omega | assumption))) | (refine sy_cond_f rfl ?_ ?_; focus (first | with_reducible rfl | assumption | omega | (simp <;> first | omega | assumption))) | refine sy_rt ?_)
    exact ret1 rfl rfl rfl
  · rw [h1]
    unfold widthL' at n1
    unfold indentL at n2
    unfold modeL at n3
    unfold obsL at n4
    refine sy_enter rfl rfl ?_
    simp only [initFr]
    repeat (first | refine sy_k rfl rfl ?_ | (refine gO ?_; refine sy_ov (ov_p rfl) rfl rfl ?_) | (refine sy_cond_f rfl ?_ ?_; focus (first | with_reducible rfl | assumption | omega | (simp <;> first | omega | assumption))) | refine sy_rt ?_)
    exact ret1 rfl rfl rfl
set_option maxRecDepth 20000 in
theorem default_c (w : World) : Calls Try.prog 78 #[] w fun e w' => e = .returned (.agg ⟨optV dopt⟩) ∧ Below w.heap.size w w' := by
  refine sy_enter (args := []) rfl rfl ?_
  simp only [initFr]
  repeat (first | refine sy_k rfl rfl ?_ | (refine gO ?_; first | (refine gS ?_; refine sy_store 0 rfl rfl rfl rfl rfl rfl rfl rfl ?_) | refine sy_ov (ov_build rfl rfl rfl) rfl rfl ?_ | (refine sy_alloc rfl rfl rfl ?_; intro _)) | refine sy_rt ?_)
  exact ret1c 0 rfl rfl rfl rfl rfl rfl
end Go.Proofs.Yteiejcililponaa
/- Contract: a part of options, as the program reads it. -/
set_option linter.unusedVariables false
set_option linter.unusedSimpArgs false
namespace Go.Proofs.Yteiejcililponaa
open Go.RowKit Bf
/-! ### What a part comes to -/
def PartP (l : List TokT) (i : Int) (R : OptT × Int × Int) (c' : CurT) (o' : OptT) (h' : HadT) : Prop :=
  CurOk l c' ∧ ((c'.e ≠ 0 ∧ R = (zopt, c'.e, c'.a)) ∨ (c'.e = 0 ∧ c'.a = 0 ∧ i < c'.i ∧ optL (l.drop c'.i.toNat) o' (hdL h') = R))
def hset (k : Int) (h : HadT) : HadT := if k = 0 then (true, h.2) else if k = 1 then (h.1, true, h.2.2) else if k = 2 then (h.1, h.2.1, true, h.2.2.2) else (h.1, h.2.1, h.2.2.1, true)
theorem hset_hdL (k : Int) (h : HadT) (h0 : 0 ≤ k) (h3 : k ≤ 3) : hdL (hset k h) = (hdL h).set k.toNat true := by
  have : k = 0 ∨ k = 1 ∨ k = 2 ∨ k = 3 := by omega
  rcases this with rfl | rfl | rfl | rfl <;> rfl
theorem whN_bd (s : List UInt8) : 0 ≤ whN s ∧ whN s ≤ 4 := by
  rcases whN_ways s with ⟨h, _⟩ | ⟨h, _⟩ | ⟨h, _⟩ | ⟨h, _⟩ | ⟨h, _⟩ <;> omega
section
variable {l : List TokT} {c c2 c' : CurT} {o o' : OptT} {h : HadT} {R : OptT × Int × Int} {t u v : TokT} {k : Int}
theorem peek_at (e0 : c.e = 0) (ht : l[c.i.toNat]? = some t) : peekT l c = t := by
  rw [peekT_ok l c e0, List.getD_eq_getElem?_getD, ht]; rfl
theorem next_at (e0 : c.e = 0) (ht : l[c.i.toNat]? = some t) (h0 : t.1 ≠ 0) : nextT l c = ⟨c.i + 1, c.d, c.e, c.a⟩ := by
  unfold nextT; rw [peek_at e0 ht, if_neg h0]
theorem wrong_at (e0 : c.e = 0) (ht : l[c.i.toNat]? = some t) : wrongT l c = ⟨c.i, c.d, (oddE t).1, t.2.1⟩ := by
  unfold wrongT failT failAtT oddE
  rw [peek_at e0 ht]
  simp only
  rw [if_pos ⟨e0, by split <;> decide⟩]
theorem CurOk.at (hc : CurOk l c) {i d e a : Int} (h0 : 0 ≤ i) (h1 : i < l.length) (hd : d = c.d) : CurOk l ⟨i, d, e, a⟩ := by
  subst hd; exact ⟨h0, h1, hc.d0, hc.d1⟩
theorem part_bad (hc : CurOk l c') (he : c'.e ≠ 0) (hr : R = (zopt, c'.e, c'.a)) (i : Int) (o' : OptT) (h' : HadT) : PartP l i R c' o' h' := ⟨hc, .inl ⟨he, hr⟩⟩
theorem part_fin (hc : CurOk l c) (hR : optL (l.drop c.i.toNat) o (hdL h) = R) (ht : l[c.i.toNat]? = some t) (hu : l[c.i.toNat + 1]? = some u) (hv : l[c.i.toNat + 2]? = some v) (t1 : t.1 = 1) (hk : whN t.2.2.2.1 = k) (k4 : k ≠ 4) (hh : (hdL h).getD k.toNat false = false)
    (h4 : u.1 = 4 ∧ u.2.2.2.1 = [61]) (hcase : (CurOk l c' ∧ c'.i = c.i + 3 ∧ c'.e = 0 ∧ c'.a = 0 ∧ putO k o v = (o', 0, 0)) ∨ (CurOk l c' ∧ c'.e ≠ 0 ∧ (putO k o v).2 = (c'.e, c'.a))) : PartP l c.i R c' o' (hset k h) := by
  subst hk
  have hb := whN_bd t.2.2.2.1
  have i0 := hc.i0
  rcases hcase with ⟨h1, h2, h3, h5, hp⟩ | ⟨h1, h2, hp⟩
  · refine ⟨h1, .inr ⟨h3, h5, by omega, ?_⟩⟩
    have := opt_step hR ht hu hv t1 k4 hh h4 (by rw [hp])
    rw [hp] at this
    rw [hset_hdL _ _ hb.1 (by omega), h2, show (c.i + 3).toNat = c.i.toNat + 3 by omega]
    exact this
  · refine ⟨h1, .inl ⟨h2, ?_⟩⟩
    have := opt_bad hR ht hu hv t1 k4 hh h4 (by rw [hp]; exact h2)
    rw [this, hp]
/-- A number that may be. -/
theorem part_num (may : Int → Bool) (hc : CurOk l c) (hl : TokOk l) (e0 : c2.e = 0) (a0 : c2.a = 0) (hi : c2.i = c.i + 2) (hc2 : CurOk l c2) (hv : l[c.i.toNat + 2]? = some v) (hp : putO k o v = if v.1 ≠ 2 then (o, oddE v) else if may v.2.2.2.2 = true then (o', 0, 0) else (o, 20, v.2.1)) :
    (CurOk l (numC may l c2) ∧ (numC may l c2).i = c.i + 3 ∧ (numC may l c2).e = 0 ∧ (numC may l c2).a = 0 ∧ v.1 = 2 ∧ numN l c2 = v.2.2.2.2 ∧ putO k o v = (o', 0, 0)) ∨ (CurOk l (numC may l c2) ∧ (numC may l c2).e ≠ 0 ∧ (putO k o v).2 = ((numC may l c2).e, (numC may l c2).a)) := by
  have i0 := hc.i0
  have hv2 : l[c2.i.toNat]? = some v := by rw [hi, show (c.i + 2).toNat = c.i.toNat + 2 by omega]; exact hv
  have hpk := peek_at e0 hv2
  by_cases h2 : v.1 = 2
  · have hn := next_at e0 hv2 (by omega)
    have hcn : CurOk l (nextT l c2) := hc2.next hl
    have ht : takT l c2 2 = true := by unfold takT; rw [hpk, h2]; rfl
    rw [if_neg (by omega)] at hp
    unfold numC numN
    rw [if_pos ht, if_pos ht, hpk]
    by_cases hm : may v.2.2.2.2 = true
    · rw [if_pos hm] at hp ⊢
      refine .inl ⟨hcn, ?_, ?_, ?_, h2, rfl, hp⟩
      · rw [hn]; simp only; omega
      · rw [hn]; exact e0
      · rw [hn]; exact a0
    · rw [if_neg hm] at hp ⊢
      have hf : failAtT (nextT l c2) 20 v.2.1 = ⟨c2.i + 1, c2.d, 20, v.2.1⟩ := by
        unfold failAtT; rw [hn, if_pos ⟨e0, by decide⟩]
      refine .inr ⟨hcn.failAt _ _, ?_, ?_⟩
      · rw [hf]; simp
      · rw [hf, hp]
  · have ht : takT l c2 2 = false := by unfold takT; rw [hpk]; simp [h2]
    rw [if_pos h2] at hp
    unfold numC
    rw [if_neg (by rw [ht]; decide)]
    refine .inr ⟨hc2.wrong, ?_, ?_⟩
    · rw [wrong_at e0 hv2]; exact oddE_ne _
    · rw [wrong_at e0 hv2, hp]; rfl
/-- The state behind a name and a '='. -/
structure In2 (l : List TokT) (c c2 : CurT) (o : OptT) (h : HadT) (R : OptT × Int × Int) (t u v : TokT) (k : Int) : Prop where
  hl : TokOk l
  hc : CurOk l c
  hc2 : CurOk l c2
  e0 : c2.e = 0
  a0 : c2.a = 0
  hi : c2.i = c.i + 2
  hR : optL (l.drop c.i.toNat) o (hdL h) = R
  ht : l[c.i.toNat]? = some t
  hu : l[c.i.toNat + 1]? = some u
  hv : l[c.i.toNat + 2]? = some v
  t1 : t.1 = 1
  hk : whN t.2.2.2.1 = k
  k4 : k ≠ 4
  hh : (hdL h).getD k.toNat false = false
  h4 : u.1 = 4 ∧ u.2.2.2.1 = [61]
theorem In2.fin (x : In2 l c c2 o h R t u v k) (hcase : (CurOk l c' ∧ c'.i = c.i + 3 ∧ c'.e = 0 ∧ c'.a = 0 ∧ putO k o v = (o', 0, 0)) ∨ (CurOk l c' ∧ c'.e ≠ 0 ∧ (putO k o v).2 = (c'.e, c'.a))) : PartP l c.i R c' o' (hset k h) :=
  part_fin x.hc x.hR x.ht x.hu x.hv x.t1 x.hk x.k4 x.hh x.h4 hcase
theorem part0 (x : In2 l c c2 o h R t u v 0) : PartP l c.i R (numC widB l c2) (numN l c2, o.2) (hset 0 h) := by
  rcases part_num (o' := (v.2.2.2.2, o.2)) (k := 0) (o := o) widB x.hc x.hl x.e0 x.a0 x.hi x.hc2 x.hv (by unfold putO; rw [if_pos rfl]) with ⟨h1, h2, h3, h4, h5, h6, h7⟩ | hb
  · rw [h6]; exact x.fin (.inl ⟨h1, h2, h3, h4, h7⟩)
  · exact x.fin (.inr hb)
theorem part1 (x : In2 l c c2 o h R t u v 1) : PartP l c.i R (numC indB l c2) (o.1, numN l c2, o.2.2) (hset 1 h) := by
  rcases part_num (o' := (o.1, v.2.2.2.2, o.2.2)) (k := 1) (o := o) indB x.hc x.hl x.e0 x.a0 x.hi x.hc2 x.hv (by unfold putO; rw [if_neg (by decide), if_pos rfl]) with ⟨h1, h2, h3, h4, h5, h6, h7⟩ | hb
  · rw [h6]; exact x.fin (.inl ⟨h1, h2, h3, h4, h7⟩)
  · exact x.fin (.inr hb)
theorem In2.v2 (x : In2 l c c2 o h R t u v k) : l[c2.i.toNat]? = some v := by
  have i0 := x.hc.i0
  rw [x.hi, show (c.i + 2).toNat = c.i.toNat + 2 by omega]; exact x.hv
theorem In2.nam (x : In2 l c c2 o h R t u v k) (h1 : v.1 = 1) : namTk l c2 = v ∧ namCu l c2 = ⟨c2.i + 1, c2.d, 0, 0⟩ ∧ CurOk l ⟨c2.i + 1, c2.d, 0, 0⟩ := by
  have hpk := peek_at x.e0 x.v2
  have hn := next_at x.e0 x.v2 (by omega)
  have ht : takT l c2 1 = true := by unfold takT; rw [hpk, h1]; rfl
  have hcn := x.hc2.next x.hl
  have e1 : nextT l c2 = ⟨c2.i + 1, c2.d, 0, 0⟩ := by rw [hn, x.e0, x.a0]
  unfold namTk namCu
  rw [if_pos ht, if_pos ht, hpk, e1]
  rw [e1] at hcn
  exact ⟨rfl, rfl, hcn⟩
theorem In2.nonam (x : In2 l c c2 o h R t u v k) (h1 : v.1 ≠ 1) : namTk l c2 = ztk ∧ namCu l c2 = ⟨c2.i, c2.d, (oddE v).1, v.2.1⟩ ∧ CurOk l ⟨c2.i, c2.d, (oddE v).1, v.2.1⟩ := by
  have hpk := peek_at x.e0 x.v2
  have ht : takT l c2 1 = false := by unfold takT; rw [hpk]; simp [h1]
  unfold namTk namCu
  rw [if_neg (by rw [ht]; decide), if_neg (by rw [ht]; decide), wrong_at x.e0 x.v2]
  exact ⟨rfl, rfl, x.hc2.at x.hc2.i0 x.hc2.i1 rfl⟩
theorem part3 (x : In2 l c c2 o h R t u v 3) : PartP l c.i R (namCu l c2) (o.1, o.2.1, o.2.2.1, (namTk l c2).2.2.2.1) (hset 3 h) := by
  by_cases h1 : v.1 = 1
  · obtain ⟨e1, e2, e3⟩ := x.nam h1
    rw [e1, e2]
    refine x.fin (.inl ⟨e3, ?_, rfl, rfl, ?_⟩)
    · have := x.hi; simp only; omega
    · unfold putO; rw [if_neg (by decide), if_neg (by decide), if_neg (by decide), if_neg (by omega)]
  · obtain ⟨e1, e2, e3⟩ := x.nonam h1
    rw [e1, e2]
    refine x.fin (.inr ⟨e3, oddE_ne _, ?_⟩)
    unfold putO; rw [if_neg (by decide), if_neg (by decide), if_neg (by decide), if_pos h1]; rfl
theorem part2_ok (x : In2 l c c2 o h R t u v 2) (h1 : v.1 = 1) (hm : modN v.2.2.2.1 ≠ 0) : PartP l c.i R ⟨c2.i + 1, c2.d, 0, 0⟩ (o.1, o.2.1, modN v.2.2.2.1, o.2.2.2) (hset 2 h) := by
  obtain ⟨e1, e2, e3⟩ := x.nam h1
  refine x.fin (.inl ⟨e3, ?_, rfl, rfl, ?_⟩)
  · have := x.hi; simp only; omega
  · unfold putO; rw [if_neg (by decide), if_neg (by decide), if_pos rfl, if_neg (by omega), if_neg hm]
theorem part2_no (x : In2 l c c2 o h R t u v 2) (h1 : v.1 = 1) (hm : modN v.2.2.2.1 = 0) (o' : OptT) : PartP l c.i R ⟨c2.i + 1, c2.d, 9, v.2.1⟩ o' (hset 2 h) := by
  obtain ⟨e1, e2, e3⟩ := x.nam h1
  refine x.fin (.inr ⟨e3.at e3.i0 e3.i1 rfl, by simp only; decide, ?_⟩)
  unfold putO; rw [if_neg (by decide), if_neg (by decide), if_pos rfl, if_neg (by omega), if_pos hm]
theorem part2_odd (x : In2 l c c2 o h R t u v 2) (h1 : v.1 ≠ 1) (o' : OptT) : PartP l c.i R ⟨c2.i, c2.d, (oddE v).1, v.2.1⟩ o' (hset 2 h) := by
  obtain ⟨e1, e2, e3⟩ := x.nonam h1
  refine x.fin (.inr ⟨e3, oddE_ne _, ?_⟩)
  unfold putO; rw [if_neg (by decide), if_neg (by decide), if_pos rfl, if_pos h1]; rfl
end
theorem part_need {l : List TokT} {i d : Int} {o : OptT} {h : HadT} {R : OptT × Int × Int} {t u : TokT} (hl : TokOk l) (hc : CurOk l ⟨i, d, 0, 0⟩) (ht : l[i.toNat]? = some t) (hu : l[i.toNat + 1]? = some u) (t1 : t.1 = 1) (k4 : whN t.2.2.2.1 ≠ 4) (hh : (hdL h).getD (whN t.2.2.2.1).toNat false = false)
    (hR : optL (l.drop i.toNat) o (hdL h) = R) (h4 : ¬ (u.1 = 4 ∧ u.2.2.2.1 = [61])) (o' : OptT) (h' : HadT) : PartP l i R (needT l ⟨i + 1, d, 0, 0⟩ [61]) o' h' := by
  have i0 := hc.i0
  simp only at i0
  have hu1 : l[(i + 1).toNat]? = some u := by rw [show (i + 1).toNat = i.toNat + 1 by omega]; exact hu
  have hc1 : CurOk l ⟨i + 1, d, 0, 0⟩ := by have := hc.next hl; rw [next_at rfl ht (by omega)] at this; exact this
  have hpk := peek_at (c := ⟨i + 1, d, 0, 0⟩) rfl hu1
  have his : ¬ isT l ⟨i + 1, d, 0, 0⟩ 4 [61] = true := by
    unfold isT; rw [hpk]; simpa using h4
  have hn : needT l ⟨i + 1, d, 0, 0⟩ [61] = ⟨i + 1, d, (oddE u).1, u.2.1⟩ := by
    unfold needT; rw [if_neg his, hpk]
    unfold failT failAtT oddE
    rw [hpk, if_pos ⟨rfl, by split <;> decide⟩]
  rw [hn]
  exact part_bad (hc1.at hc1.i0 hc1.i1 rfl) (oddE_ne _) (opt_eq hR ht hu t1 k4 hh h4) _ _ _
set_option maxRecDepth 20000 in
set_option maxHeartbeats 4000000 in
theorem or_part (rb cb : Nat) (p : Option Addr) (q : Nat) (l : List TokT) (i d : Int) (o : OptT) (h : HadT) (R : OptT × Int × Int) (hl : TokOk l) (hc : CurOk l ⟨i, d, 0, 0⟩) {t : TokT} (ht : l[i.toNat]? = some t) (h0 : t.1 ≠ 0) (hR : optL (l.drop i.toNat) o (hdL h) = R) :
    CallsE Try.prog 109 [ptr rb] (rdE rb cb p q l ⟨i, d, 0, 0⟩ o h) fun u es' => u = .tuple #[] ∧ ∃ c' o' h', es' = rdE rb cb p q l c' o' h' ∧ PartP l i R c' o' h' := by
  have hpk := peek_at (c := ⟨i, d, 0, 0⟩) rfl ht
  have hnm := or_name rb cb p q l ⟨i, d, 0, 0⟩ o h hl hc
  by_cases t1 : t.1 = 1
  · have htk : takT l ⟨i, d, 0, 0⟩ 1 = true := by unfold takT; rw [hpk, t1]; rfl
    have hnx := next_at (c := ⟨i, d, 0, 0⟩) rfl ht h0
    have hc1 := hc.next hl
    rw [hnx] at hc1
    rw [show namTk l ⟨i, d, 0, 0⟩ = t by unfold namTk; rw [if_pos htk, hpk], show namCu l ⟨i, d, 0, 0⟩ = ⟨i + 1, d, 0, 0⟩ by unfold namCu; rw [if_pos htk, hnx]] at hnm
    obtain ⟨k, hk⟩ : ∃ k, whN t.2.2.2.1 = k := ⟨_, rfl⟩
    have hkb := whN_bd t.2.2.2.1
    rw [hk] at hkb
    by_cases k4 : k = 4
    · subst k4
      have hP : ∀ o' h', PartP l i R ⟨i + 1, d, 9, t.2.1⟩ o' h' := part_bad (hc1.at hc1.i0 hc1.i1 rfl) (by simp) (opt_name hl hR ht t1 hk) _
      refine sy_enterE rfl rfl (fun w => ?_)
      simp only [initFr, rdE, curE, List.cons_append, List.nil_append]
      repeat (first | refine sy_k rfl rfl ?_ | (refine gO ?_; refine sy_ov (ov_p rfl) rfl rfl ?_))
      refine sy_order [0, 1, 2] rfl rfl ?_
      simp only [List.set_cons_zero, List.set_cons_succ, List.filterMap_cons, List.filterMap_nil, List.getElem?_cons_zero, List.getElem?_cons_succ]
      refine sy_callE (rdE rb cb p q l _ _ _) rfl rfl rfl (hnm) ?_
      rintro _ _ ⟨rfl, rfl⟩
      simp only [rdE, curE, List.cons_append, List.nil_append]
      repeat (first | refine sy_k rfl rfl ?_ | (refine gO ?_; first | refine sy_ov (ov_p rfl) rfl rfl ?_ | (refine gL ?_; refine sy_ov (ov_ld 3 rfl rfl rfl) rfl rfl ?_) | (refine gS ?_; refine sy_store 0 rfl rfl rfl rfl rfl rfl rfl rfl ?_) | refine sy_ov (ov_fieldAddr rfl rfl rfl) rfl rfl ?_ | (refine sy_alloc rfl rfl rfl ?_; intro _)))
      refine sy_order [1, 2, 3, 0] rfl rfl ?_
      simp only [List.set_cons_zero, List.set_cons_succ, List.filterMap_cons, List.filterMap_nil, List.getElem?_cons_zero, List.getElem?_cons_succ]
      refine sy_callE (curE cb p q l _) rfl rfl rfl (cur_fault cb p q l ⟨i + 1, d, 0, 0⟩) ?_
      rintro _ _ ⟨rfl, rfl⟩
      simp only [curE, List.cons_append, List.nil_append]
      repeat (first | refine sy_k rfl rfl ?_ | (refine gO ?_; first | refine sy_ov (ov_p rfl) rfl rfl ?_ | (refine gL ?_; refine sy_ov (ov_ld 3 rfl rfl rfl) rfl rfl ?_) | refine sy_ov (ov_fieldAddr rfl rfl rfl) rfl rfl ?_ | refine sy_ov (ov_field rfl rfl rfl) rfl rfl ?_) | (refine sy_cond_f rfl ?_ ?_; focus (first | with_reducible rfl | assumption | omega | (simp <;> first | omega | assumption))))
      refine sy_ov (ov_call rfl (fun w _ => which_c _ 4 hk w)) rfl rfl ?_
      repeat (first | refine sy_k rfl rfl ?_ | (refine gO ?_; refine sy_ov (ov_p rfl) rfl rfl ?_) | (refine sy_cond_t rfl ?_ ?_; focus (first | with_reducible rfl | assumption | omega | (simp <;> first | omega | assumption))))
      refine sy_draw 6 (by kernel_rfl) ?_
      repeat (first | refine dr_op (ov_p rfl) rfl rfl ?_ | refine dr_op (ov_ld 2 rfl rfl rfl) rfl rfl ?_ | refine dr_op (ov_ld 3 rfl rfl rfl) rfl rfl ?_ | refine dr_op (ov_fieldAddr rfl rfl rfl) rfl rfl ?_ | refine dr_end ?_)
      skip
      refine sy_order [0, 1, 2, 3] rfl rfl ?_
      simp only [List.set_cons_zero, List.set_cons_succ, List.filterMap_cons, List.filterMap_nil, List.getElem?_cons_zero, List.getElem?_cons_succ]
      refine sy_callE (curE cb p q l _) rfl rfl rfl (cur_failAt cb p q l ⟨i + 1, d, 0, 0⟩ 9 t.2.1) ?_
      rintro _ _ ⟨rfl, rfl⟩
      simp only [curE, List.cons_append, List.nil_append]
      repeat (first | refine sy_k rfl rfl ?_ | refine sy_rt ?_)
      exact ret0w rfl fun w' hw' => postE hw' _ (sub_self (by (try unfold rdE); (try unfold curE); (try simp only [List.cons_append, List.nil_append]); repeat first | exact sr | apply sk | apply sd)) rfl ⟨rfl, _, _, _, rfl, hP _ _⟩
    · obtain ⟨u, hu⟩ := nextTok hl ht h0
      have hu1 : l[(i + 1).toNat]? = some u := by rw [show (i + 1).toNat = i.toNat + 1 by have := hc.i0; simp only at this; omega]; exact hu
      have hneed := cur_need cb p q l ⟨i + 1, d, 0, 0⟩ hl hc1 [61]
      obtain ⟨b0, b1, b2, b3⟩ := h
      by_cases heq : u.1 = 4 ∧ u.2.2.2.1 = [61]
      · have his : isT l ⟨i + 1, d, 0, 0⟩ 4 [61] = true := by
          unfold isT; rw [peek_at rfl hu1]; simp [heq.1, heq.2]
        have hne := hneed
        have hnx2 := next_at (c := ⟨i + 1, d, 0, 0⟩) rfl hu1 (by omega)
        rw [his, show needT l ⟨i + 1, d, 0, 0⟩ [61] = ⟨i + 1 + 1, d, 0, 0⟩ by unfold needT; rw [if_pos his, hnx2]] at hne
        have hc2 : CurOk l ⟨i + 1 + 1, d, 0, 0⟩ := by have := hc1.next hl; rw [hnx2] at this; exact this
        obtain ⟨v, hv⟩ := nextTok hl hu (by omega)
        have hk' : k = 0 ∨ k = 1 ∨ k = 2 ∨ k = 3 := by omega
        rcases hk' with rfl | rfl | rfl | rfl
        · cases b0
          · have x : In2 l ⟨i, d, 0, 0⟩ ⟨i + 1 + 1, d, 0, 0⟩ o (false, b1, b2, b3) R t u v 0 := ⟨hl, hc, hc2, rfl, rfl, by simp only; omega, hR, ht, hu, hv, t1, hk, by decide, rfl, heq⟩
            have hP := part0 x
            refine sy_enterE rfl rfl (fun w => ?_)
            simp only [initFr, rdE, curE, List.cons_append, List.nil_append]
            repeat (first | refine sy_k rfl rfl ?_ | (refine gO ?_; refine sy_ov (ov_p rfl) rfl rfl ?_))
            refine sy_order [0, 1, 2] rfl rfl ?_
            simp only [List.set_cons_zero, List.set_cons_succ, List.filterMap_cons, List.filterMap_nil, List.getElem?_cons_zero, List.getElem?_cons_succ]
            refine sy_callE (rdE rb cb p q l _ _ _) rfl rfl rfl (hnm) ?_
            rintro _ _ ⟨rfl, rfl⟩
            simp only [rdE, curE, List.cons_append, List.nil_append]
            repeat (first | refine sy_k rfl rfl ?_ | (refine gO ?_; first | refine sy_ov (ov_p rfl) rfl rfl ?_ | (refine gL ?_; refine sy_ov (ov_ld 3 rfl rfl rfl) rfl rfl ?_) | (refine gS ?_; refine sy_store 0 rfl rfl rfl rfl rfl rfl rfl rfl ?_) | refine sy_ov (ov_fieldAddr rfl rfl rfl) rfl rfl ?_ | (refine sy_alloc rfl rfl rfl ?_; intro _)))
            refine sy_order [1, 2, 3, 0] rfl rfl ?_
            simp only [List.set_cons_zero, List.set_cons_succ, List.filterMap_cons, List.filterMap_nil, List.getElem?_cons_zero, List.getElem?_cons_succ]
            refine sy_callE (curE cb p q l _) rfl rfl rfl (cur_fault cb p q l ⟨i + 1, d, 0, 0⟩) ?_
            rintro _ _ ⟨rfl, rfl⟩
            simp only [curE, List.cons_append, List.nil_append]
            repeat (first | refine sy_k rfl rfl ?_ | (refine gO ?_; first | refine sy_ov (ov_p rfl) rfl rfl ?_ | (refine gL ?_; refine sy_ov (ov_ld 3 rfl rfl rfl) rfl rfl ?_) | refine sy_ov (ov_fieldAddr rfl rfl rfl) rfl rfl ?_ | refine sy_ov (ov_field rfl rfl rfl) rfl rfl ?_) | (refine sy_cond_f rfl ?_ ?_; focus (first | with_reducible rfl | assumption | omega | (simp <;> first | omega | assumption))))
            refine sy_ov (ov_call rfl (fun w _ => which_c _ 0 hk w)) rfl rfl ?_
            repeat (first | refine sy_k rfl rfl ?_ | (refine gO ?_; first | refine sy_ov (ov_p rfl) rfl rfl ?_ | refine sy_ov (ov_fieldAddr rfl rfl rfl) rfl rfl ?_) | (refine sy_cond_f rfl ?_ ?_; focus (first | with_reducible rfl | assumption | omega | (simp <;> first | omega | assumption))))
            refine sy_ov (ov_arrAddr rfl rfl (by decide) (by decide)) rfl rfl ?_
            repeat (first | refine sy_k rfl rfl ?_ | (refine gO ?_; first | refine sy_ov (ov_p rfl) rfl rfl ?_ | (refine gL ?_; refine sy_ov (ov_ld 2 rfl rfl rfl) rfl rfl ?_) | refine sy_ov (ov_fieldAddr rfl rfl rfl) rfl rfl ?_) | (refine sy_cond_f rfl ?_ ?_; focus (first | with_reducible rfl | assumption | omega | (simp <;> first | omega | assumption))))
            refine sy_ov (ov_arrAddr rfl rfl (by decide) (by decide)) rfl rfl ?_
            repeat (first | refine sy_k rfl rfl ?_ | (refine gO ?_; first | refine sy_ov (ov_p rfl) rfl rfl ?_ | (refine gL ?_; refine sy_ov (ov_ld 2 rfl rfl rfl) rfl rfl ?_) | (refine gS ?_; refine sy_store 2 rfl rfl rfl rfl rfl rfl rfl rfl ?_) | refine sy_ov (ov_fieldAddr rfl rfl rfl) rfl rfl ?_))
            refine sy_order [0, 1, 2, 3] rfl rfl ?_
            simp only [List.set_cons_zero, List.set_cons_succ, List.filterMap_cons, List.filterMap_nil, List.getElem?_cons_zero, List.getElem?_cons_succ]
            refine sy_callE (curE cb p q l _) rfl rfl rfl (hne) ?_
            rintro _ _ ⟨rfl, rfl⟩
            simp only [curE, List.cons_append, List.nil_append]
            repeat (first | refine sy_k rfl rfl ?_ | (refine gO ?_; refine sy_ov (ov_p rfl) rfl rfl ?_) | (refine sy_cond_t rfl ?_ ?_; focus (first | with_reducible rfl | assumption | omega | (simp <;> first | omega | assumption))) | (refine sy_cond_f rfl ?_ ?_; focus (first | with_reducible rfl | assumption | omega | (simp <;> first | omega | assumption))))
            refine sy_order [0, 1, 2, 3] rfl rfl ?_
            simp only [List.set_cons_zero, List.set_cons_succ, List.filterMap_cons, List.filterMap_nil, List.getElem?_cons_zero, List.getElem?_cons_succ]
            refine sy_callE (rdE rb cb p q l ⟨i + 1 + 1, d, 0, 0⟩ o (true, b1, b2, b3)) rfl rfl rfl (or_number rb cb p q l ⟨i + 1 + 1, d, 0, 0⟩ o (true, b1, b2, b3) widB width36_c hl hc2) ?_
            rintro _ _ ⟨rfl, rfl⟩
            simp only [rdE, curE, List.cons_append, List.nil_append]
            repeat (first | refine sy_k rfl rfl ?_ | (refine gO ?_; first | refine sy_ov (ov_p rfl) rfl rfl ?_ | (refine gS ?_; refine sy_store 2 rfl rfl rfl rfl rfl rfl rfl rfl ?_) | refine sy_ov (ov_fieldAddr rfl rfl rfl) rfl rfl ?_))
            exact end0w rfl fun w' hw' => postE hw' _ (sub_self (by (try unfold rdE); (try unfold curE); (try simp only [List.cons_append, List.nil_append]); repeat first | exact sr | apply sk | apply sd)) rfl ⟨rfl, _, _, _, rfl, hP⟩
          · have hP : ∀ o' h', PartP l i R ⟨i + 1, d, 10, t.2.1⟩ o' h' := part_bad (hc1.at hc1.i0 hc1.i1 rfl) (by simp) (opt_twice hl hR ht t1 (by omega) (by rw [hk]; rfl)) _
            refine sy_enterE rfl rfl (fun w => ?_)
            simp only [initFr, rdE, curE, List.cons_append, List.nil_append]
            repeat (first | refine sy_k rfl rfl ?_ | (refine gO ?_; refine sy_ov (ov_p rfl) rfl rfl ?_))
            refine sy_order [0, 1, 2] rfl rfl ?_
            simp only [List.set_cons_zero, List.set_cons_succ, List.filterMap_cons, List.filterMap_nil, List.getElem?_cons_zero, List.getElem?_cons_succ]
            refine sy_callE (rdE rb cb p q l _ _ _) rfl rfl rfl (hnm) ?_
            rintro _ _ ⟨rfl, rfl⟩
            simp only [rdE, curE, List.cons_append, List.nil_append]
            repeat (first | refine sy_k rfl rfl ?_ | (refine gO ?_; first | refine sy_ov (ov_p rfl) rfl rfl ?_ | (refine gL ?_; refine sy_ov (ov_ld 3 rfl rfl rfl) rfl rfl ?_) | (refine gS ?_; refine sy_store 0 rfl rfl rfl rfl rfl rfl rfl rfl ?_) | refine sy_ov (ov_fieldAddr rfl rfl rfl) rfl rfl ?_ | (refine sy_alloc rfl rfl rfl ?_; intro _)))
            refine sy_order [1, 2, 3, 0] rfl rfl ?_
            simp only [List.set_cons_zero, List.set_cons_succ, List.filterMap_cons, List.filterMap_nil, List.getElem?_cons_zero, List.getElem?_cons_succ]
            refine sy_callE (curE cb p q l _) rfl rfl rfl (cur_fault cb p q l ⟨i + 1, d, 0, 0⟩) ?_
            rintro _ _ ⟨rfl, rfl⟩
            simp only [curE, List.cons_append, List.nil_append]
            repeat (first | refine sy_k rfl rfl ?_ | (refine gO ?_; first | refine sy_ov (ov_p rfl) rfl rfl ?_ | (refine gL ?_; refine sy_ov (ov_ld 3 rfl rfl rfl) rfl rfl ?_) | refine sy_ov (ov_fieldAddr rfl rfl rfl) rfl rfl ?_ | refine sy_ov (ov_field rfl rfl rfl) rfl rfl ?_) | (refine sy_cond_f rfl ?_ ?_; focus (first | with_reducible rfl | assumption | omega | (simp <;> first | omega | assumption))))
            refine sy_ov (ov_call rfl (fun w _ => which_c _ 0 hk w)) rfl rfl ?_
            repeat (first | refine sy_k rfl rfl ?_ | (refine gO ?_; first | refine sy_ov (ov_p rfl) rfl rfl ?_ | refine sy_ov (ov_fieldAddr rfl rfl rfl) rfl rfl ?_) | (refine sy_cond_f rfl ?_ ?_; focus (first | with_reducible rfl | assumption | omega | (simp <;> first | omega | assumption))))
            refine sy_ov (ov_arrAddr rfl rfl (by decide) (by decide)) rfl rfl ?_
            repeat (first | refine sy_k rfl rfl ?_ | (refine gO ?_; first | refine sy_ov (ov_p rfl) rfl rfl ?_ | (refine gL ?_; refine sy_ov (ov_ld 2 rfl rfl rfl) rfl rfl ?_)) | (refine sy_cond_t rfl ?_ ?_; focus (first | with_reducible rfl | assumption | omega | (simp <;> first | omega | assumption))))
            refine sy_draw 6 (by kernel_rfl) ?_
            repeat (first | refine dr_op (ov_p rfl) rfl rfl ?_ | refine dr_op (ov_ld 2 rfl rfl rfl) rfl rfl ?_ | refine dr_op (ov_ld 3 rfl rfl rfl) rfl rfl ?_ | refine dr_op (ov_fieldAddr rfl rfl rfl) rfl rfl ?_ | refine dr_end ?_)
            skip
            refine sy_order [0, 1, 2, 3] rfl rfl ?_
            simp only [List.set_cons_zero, List.set_cons_succ, List.filterMap_cons, List.filterMap_nil, List.getElem?_cons_zero, List.getElem?_cons_succ]
            refine sy_callE (curE cb p q l _) rfl rfl rfl (cur_failAt cb p q l ⟨i + 1, d, 0, 0⟩ 10 t.2.1) ?_
            rintro _ _ ⟨rfl, rfl⟩
            simp only [curE, List.cons_append, List.nil_append]
            repeat (first | refine sy_k rfl rfl ?_ | refine sy_rt ?_)
            exact ret0w rfl fun w' hw' => postE hw' _ (sub_self (by (try unfold rdE); (try unfold curE); (try simp only [List.cons_append, List.nil_append]); repeat first | exact sr | apply sk | apply sd)) rfl ⟨rfl, _, _, _, rfl, hP _ _⟩
        · cases b1
          · have x : In2 l ⟨i, d, 0, 0⟩ ⟨i + 1 + 1, d, 0, 0⟩ o (b0, false, b2, b3) R t u v 1 := ⟨hl, hc, hc2, rfl, rfl, by simp only; omega, hR, ht, hu, hv, t1, hk, by decide, rfl, heq⟩
            have hP := part1 x
            refine sy_enterE rfl rfl (fun w => ?_)
            simp only [initFr, rdE, curE, List.cons_append, List.nil_append]
            repeat (first | refine sy_k rfl rfl ?_ | (refine gO ?_; refine sy_ov (ov_p rfl) rfl rfl ?_))
            refine sy_order [0, 1, 2] rfl rfl ?_
            simp only [List.set_cons_zero, List.set_cons_succ, List.filterMap_cons, List.filterMap_nil, List.getElem?_cons_zero, List.getElem?_cons_succ]
            refine sy_callE (rdE rb cb p q l _ _ _) rfl rfl rfl (hnm) ?_
            rintro _ _ ⟨rfl, rfl⟩
            simp only [rdE, curE, List.cons_append, List.nil_append]
            repeat (first | refine sy_k rfl rfl ?_ | (refine gO ?_; first | refine sy_ov (ov_p rfl) rfl rfl ?_ | (refine gL ?_; refine sy_ov (ov_ld 3 rfl rfl rfl) rfl rfl ?_) | (refine gS ?_; refine sy_store 0 rfl rfl rfl rfl rfl rfl rfl rfl ?_) | refine sy_ov (ov_fieldAddr rfl rfl rfl) rfl rfl ?_ | (refine sy_alloc rfl rfl rfl ?_; intro _)))
            refine sy_order [1, 2, 3, 0] rfl rfl ?_
            simp only [List.set_cons_zero, List.set_cons_succ, List.filterMap_cons, List.filterMap_nil, List.getElem?_cons_zero, List.getElem?_cons_succ]
            refine sy_callE (curE cb p q l _) rfl rfl rfl (cur_fault cb p q l ⟨i + 1, d, 0, 0⟩) ?_
            rintro _ _ ⟨rfl, rfl⟩
            simp only [curE, List.cons_append, List.nil_append]
            repeat (first | refine sy_k rfl rfl ?_ | (refine gO ?_; first | refine sy_ov (ov_p rfl) rfl rfl ?_ | (refine gL ?_; refine sy_ov (ov_ld 3 rfl rfl rfl) rfl rfl ?_) | refine sy_ov (ov_fieldAddr rfl rfl rfl) rfl rfl ?_ | refine sy_ov (ov_field rfl rfl rfl) rfl rfl ?_) | (refine sy_cond_f rfl ?_ ?_; focus (first | with_reducible rfl | assumption | omega | (simp <;> first | omega | assumption))))
            refine sy_ov (ov_call rfl (fun w _ => which_c _ 1 hk w)) rfl rfl ?_
            repeat (first | refine sy_k rfl rfl ?_ | (refine gO ?_; first | refine sy_ov (ov_p rfl) rfl rfl ?_ | refine sy_ov (ov_fieldAddr rfl rfl rfl) rfl rfl ?_) | (refine sy_cond_f rfl ?_ ?_; focus (first | with_reducible rfl | assumption | omega | (simp <;> first | omega | assumption))))
            refine sy_ov (ov_arrAddr rfl rfl (by decide) (by decide)) rfl rfl ?_
            repeat (first | refine sy_k rfl rfl ?_ | (refine gO ?_; first | refine sy_ov (ov_p rfl) rfl rfl ?_ | (refine gL ?_; refine sy_ov (ov_ld 2 rfl rfl rfl) rfl rfl ?_) | refine sy_ov (ov_fieldAddr rfl rfl rfl) rfl rfl ?_) | (refine sy_cond_f rfl ?_ ?_; focus (first | with_reducible rfl | assumption | omega | (simp <;> first | omega | assumption))))
            refine sy_ov (ov_arrAddr rfl rfl (by decide) (by decide)) rfl rfl ?_
            repeat (first | refine sy_k rfl rfl ?_ | (refine gO ?_; first | refine sy_ov (ov_p rfl) rfl rfl ?_ | (refine gL ?_; refine sy_ov (ov_ld 2 rfl rfl rfl) rfl rfl ?_) | (refine gS ?_; refine sy_store 2 rfl rfl rfl rfl rfl rfl rfl rfl ?_) | refine sy_ov (ov_fieldAddr rfl rfl rfl) rfl rfl ?_))
            refine sy_order [0, 1, 2, 3] rfl rfl ?_
            simp only [List.set_cons_zero, List.set_cons_succ, List.filterMap_cons, List.filterMap_nil, List.getElem?_cons_zero, List.getElem?_cons_succ]
            refine sy_callE (curE cb p q l _) rfl rfl rfl (hne) ?_
            rintro _ _ ⟨rfl, rfl⟩
            simp only [curE, List.cons_append, List.nil_append]
            repeat (first | refine sy_k rfl rfl ?_ | (refine gO ?_; refine sy_ov (ov_p rfl) rfl rfl ?_) | (refine sy_cond_t rfl ?_ ?_; focus (first | with_reducible rfl | assumption | omega | (simp <;> first | omega | assumption))) | (refine sy_cond_f rfl ?_ ?_; focus (first | with_reducible rfl | assumption | omega | (simp <;> first | omega | assumption))))
            refine sy_order [0, 1, 2, 3] rfl rfl ?_
            simp only [List.set_cons_zero, List.set_cons_succ, List.filterMap_cons, List.filterMap_nil, List.getElem?_cons_zero, List.getElem?_cons_succ]
            refine sy_callE (rdE rb cb p q l ⟨i + 1 + 1, d, 0, 0⟩ o (b0, true, b2, b3)) rfl rfl rfl (or_number rb cb p q l ⟨i + 1 + 1, d, 0, 0⟩ o (b0, true, b2, b3) indB indent36_c hl hc2) ?_
            rintro _ _ ⟨rfl, rfl⟩
            simp only [rdE, curE, List.cons_append, List.nil_append]
            repeat (first | refine sy_k rfl rfl ?_ | (refine gO ?_; first | refine sy_ov (ov_p rfl) rfl rfl ?_ | (refine gS ?_; refine sy_store 2 rfl rfl rfl rfl rfl rfl rfl rfl ?_) | refine sy_ov (ov_fieldAddr rfl rfl rfl) rfl rfl ?_))
            exact end0w rfl fun w' hw' => postE hw' _ (sub_self (by (try unfold rdE); (try unfold curE); (try simp only [List.cons_append, List.nil_append]); repeat first | exact sr | apply sk | apply sd)) rfl ⟨rfl, _, _, _, rfl, hP⟩
          · have hP : ∀ o' h', PartP l i R ⟨i + 1, d, 10, t.2.1⟩ o' h' := part_bad (hc1.at hc1.i0 hc1.i1 rfl) (by simp) (opt_twice hl hR ht t1 (by omega) (by rw [hk]; rfl)) _
            refine sy_enterE rfl rfl (fun w => ?_)
            simp only [initFr, rdE, curE, List.cons_append, List.nil_append]
            repeat (first | refine sy_k rfl rfl ?_ | (refine gO ?_; refine sy_ov (ov_p rfl) rfl rfl ?_))
            refine sy_order [0, 1, 2] rfl rfl ?_
            simp only [List.set_cons_zero, List.set_cons_succ, List.filterMap_cons, List.filterMap_nil, List.getElem?_cons_zero, List.getElem?_cons_succ]
            refine sy_callE (rdE rb cb p q l _ _ _) rfl rfl rfl (hnm) ?_
            rintro _ _ ⟨rfl, rfl⟩
            simp only [rdE, curE, List.cons_append, List.nil_append]
            repeat (first | refine sy_k rfl rfl ?_ | (refine gO ?_; first | refine sy_ov (ov_p rfl) rfl rfl ?_ | (refine gL ?_; refine sy_ov (ov_ld 3 rfl rfl rfl) rfl rfl ?_) | (refine gS ?_; refine sy_store 0 rfl rfl rfl rfl rfl rfl rfl rfl ?_) | refine sy_ov (ov_fieldAddr rfl rfl rfl) rfl rfl ?_ | (refine sy_alloc rfl rfl rfl ?_; intro _)))
            refine sy_order [1, 2, 3, 0] rfl rfl ?_
            simp only [List.set_cons_zero, List.set_cons_succ, List.filterMap_cons, List.filterMap_nil, List.getElem?_cons_zero, List.getElem?_cons_succ]
            refine sy_callE (curE cb p q l _) rfl rfl rfl (cur_fault cb p q l ⟨i + 1, d, 0, 0⟩) ?_
            rintro _ _ ⟨rfl, rfl⟩
            simp only [curE, List.cons_append, List.nil_append]
            repeat (first | refine sy_k rfl rfl ?_ | (refine gO ?_; first | refine sy_ov (ov_p rfl) rfl rfl ?_ | (refine gL ?_; refine sy_ov (ov_ld 3 rfl rfl rfl) rfl rfl ?_) | refine sy_ov (ov_fieldAddr rfl rfl rfl) rfl rfl ?_ | refine sy_ov (ov_field rfl rfl rfl) rfl rfl ?_) | (refine sy_cond_f rfl ?_ ?_; focus (first | with_reducible rfl | assumption | omega | (simp <;> first | omega | assumption))))
            refine sy_ov (ov_call rfl (fun w _ => which_c _ 1 hk w)) rfl rfl ?_
            repeat (first | refine sy_k rfl rfl ?_ | (refine gO ?_; first | refine sy_ov (ov_p rfl) rfl rfl ?_ | refine sy_ov (ov_fieldAddr rfl rfl rfl) rfl rfl ?_) | (refine sy_cond_f rfl ?_ ?_; focus (first | with_reducible rfl | assumption | omega | (simp <;> first | omega | assumption))))
            refine sy_ov (ov_arrAddr rfl rfl (by decide) (by decide)) rfl rfl ?_
            repeat (first | refine sy_k rfl rfl ?_ | (refine gO ?_; first | refine sy_ov (ov_p rfl) rfl rfl ?_ | (refine gL ?_; refine sy_ov (ov_ld 2 rfl rfl rfl) rfl rfl ?_)) | (refine sy_cond_t rfl ?_ ?_; focus (first | with_reducible rfl | assumption | omega | (simp <;> first | omega | assumption))))
            refine sy_draw 6 (by kernel_rfl) ?_
            repeat (first | refine dr_op (ov_p rfl) rfl rfl ?_ | refine dr_op (ov_ld 2 rfl rfl rfl) rfl rfl ?_ | refine dr_op (ov_ld 3 rfl rfl rfl) rfl rfl ?_ | refine dr_op (ov_fieldAddr rfl rfl rfl) rfl rfl ?_ | refine dr_end ?_)
            skip
            refine sy_order [0, 1, 2, 3] rfl rfl ?_
            simp only [List.set_cons_zero, List.set_cons_succ, List.filterMap_cons, List.filterMap_nil, List.getElem?_cons_zero, List.getElem?_cons_succ]
            refine sy_callE (curE cb p q l _) rfl rfl rfl (cur_failAt cb p q l ⟨i + 1, d, 0, 0⟩ 10 t.2.1) ?_
            rintro _ _ ⟨rfl, rfl⟩
            simp only [curE, List.cons_append, List.nil_append]
            repeat (first | refine sy_k rfl rfl ?_ | refine sy_rt ?_)
            exact ret0w rfl fun w' hw' => postE hw' _ (sub_self (by (try unfold rdE); (try unfold curE); (try simp only [List.cons_append, List.nil_append]); repeat first | exact sr | apply sk | apply sd)) rfl ⟨rfl, _, _, _, rfl, hP _ _⟩
        · cases b2
          · have x : In2 l ⟨i, d, 0, 0⟩ ⟨i + 1 + 1, d, 0, 0⟩ o (b0, b1, false, b3) R t u v 2 := ⟨hl, hc, hc2, rfl, rfl, by simp only; omega, hR, ht, hu, hv, t1, hk, by decide, rfl, heq⟩
            have hnm2 := or_name rb cb p q l ⟨i + 1 + 1, d, 0, 0⟩ o (b0, b1, true, b3) hl hc2
            by_cases v1 : v.1 = 1
            · obtain ⟨e1, e2, e3⟩ := x.nam v1
              rw [e1, e2] at hnm2
              have hvl : v.2.2.2.1.length ≤ 1000000000 := (hl.bd v (List.mem_of_getElem? hv)).2
              by_cases hm : modN v.2.2.2.1 = 0
              · have hP := part2_no x v1 hm
                refine sy_enterE rfl rfl (fun w => ?_)
                simp only [initFr, rdE, curE, List.cons_append, List.nil_append]
                repeat (first | refine sy_k rfl rfl ?_ | (refine gO ?_; refine sy_ov (ov_p rfl) rfl rfl ?_))
                refine sy_order [0, 1, 2] rfl rfl ?_
                simp only [List.set_cons_zero, List.set_cons_succ, List.filterMap_cons, List.filterMap_nil, List.getElem?_cons_zero, List.getElem?_cons_succ]
                refine sy_callE (rdE rb cb p q l _ _ _) rfl rfl rfl (hnm) ?_
                rintro _ _ ⟨rfl, rfl⟩
                simp only [rdE, curE, List.cons_append, List.nil_append]
                repeat (first | refine sy_k rfl rfl ?_ | (refine gO ?_; first | refine sy_ov (ov_p rfl) rfl rfl ?_ | (refine gL ?_; refine sy_ov (ov_ld 3 rfl rfl rfl) rfl rfl ?_) | (refine gS ?_; refine sy_store 0 rfl rfl rfl rfl rfl rfl rfl rfl ?_) | refine sy_ov (ov_fieldAddr rfl rfl rfl) rfl rfl ?_ | (refine sy_alloc rfl rfl rfl ?_; intro _)))
                refine sy_order [1, 2, 3, 0] rfl rfl ?_
                simp only [List.set_cons_zero, List.set_cons_succ, List.filterMap_cons, List.filterMap_nil, List.getElem?_cons_zero, List.getElem?_cons_succ]
                refine sy_callE (curE cb p q l _) rfl rfl rfl (cur_fault cb p q l ⟨i + 1, d, 0, 0⟩) ?_
                rintro _ _ ⟨rfl, rfl⟩
                simp only [curE, List.cons_append, List.nil_append]
                repeat (first | refine sy_k rfl rfl ?_ | (refine gO ?_; first | refine sy_ov (ov_p rfl) rfl rfl ?_ | (refine gL ?_; refine sy_ov (ov_ld 3 rfl rfl rfl) rfl rfl ?_) | refine sy_ov (ov_fieldAddr rfl rfl rfl) rfl rfl ?_ | refine sy_ov (ov_field rfl rfl rfl) rfl rfl ?_) | (refine sy_cond_f rfl ?_ ?_; focus (first | with_reducible rfl | assumption | omega | (simp <;> first | omega | assumption))))
                refine sy_ov (ov_call rfl (fun w _ => which_c _ 2 hk w)) rfl rfl ?_
                repeat (first | refine sy_k rfl rfl ?_ | (refine gO ?_; first | refine sy_ov (ov_p rfl) rfl rfl ?_ | refine sy_ov (ov_fieldAddr rfl rfl rfl) rfl rfl ?_) | (refine sy_cond_f rfl ?_ ?_; focus (first | with_reducible rfl | assumption | omega | (simp <;> first | omega | assumption))))
                refine sy_ov (ov_arrAddr rfl rfl (by decide) (by decide)) rfl rfl ?_
                repeat (first | refine sy_k rfl rfl ?_ | (refine gO ?_; first | refine sy_ov (ov_p rfl) rfl rfl ?_ | (refine gL ?_; refine sy_ov (ov_ld 2 rfl rfl rfl) rfl rfl ?_) | refine sy_ov (ov_fieldAddr rfl rfl rfl) rfl rfl ?_) | (refine sy_cond_f rfl ?_ ?_; focus (first | with_reducible rfl | assumption | omega | (simp <;> first | omega | assumption))))
                refine sy_ov (ov_arrAddr rfl rfl (by decide) (by decide)) rfl rfl ?_
                repeat (first | refine sy_k rfl rfl ?_ | (refine gO ?_; first | refine sy_ov (ov_p rfl) rfl rfl ?_ | (refine gL ?_; refine sy_ov (ov_ld 2 rfl rfl rfl) rfl rfl ?_) | (refine gS ?_; refine sy_store 2 rfl rfl rfl rfl rfl rfl rfl rfl ?_) | refine sy_ov (ov_fieldAddr rfl rfl rfl) rfl rfl ?_))
                refine sy_order [0, 1, 2, 3] rfl rfl ?_
                simp only [List.set_cons_zero, List.set_cons_succ, List.filterMap_cons, List.filterMap_nil, List.getElem?_cons_zero, List.getElem?_cons_succ]
                refine sy_callE (curE cb p q l _) rfl rfl rfl (hne) ?_
                rintro _ _ ⟨rfl, rfl⟩
                simp only [curE, List.cons_append, List.nil_append]
                repeat (first | refine sy_k rfl rfl ?_ | (refine gO ?_; refine sy_ov (ov_p rfl) rfl rfl ?_) | (refine sy_cond_t rfl ?_ ?_; focus (first | with_reducible rfl | assumption | omega | (simp <;> first | omega | assumption))) | (refine sy_cond_f rfl ?_ ?_; focus (first | with_reducible rfl | assumption | omega | (simp <;> first | omega | assumption))))
                refine sy_order [0, 1, 2, 3] rfl rfl ?_
                simp only [List.set_cons_zero, List.set_cons_succ, List.filterMap_cons, List.filterMap_nil, List.getElem?_cons_zero, List.getElem?_cons_succ]
                refine sy_callE (rdE rb cb p q l ⟨i + 1 + 1, d, 0, 0⟩ o (b0, b1, true, b3)) rfl rfl rfl (hnm2) ?_
                rintro _ _ ⟨rfl, rfl⟩
                simp only [rdE, curE, List.cons_append, List.nil_append]
                repeat (first | refine sy_k rfl rfl ?_ | (refine gO ?_; first | refine sy_ov (ov_p rfl) rfl rfl ?_ | (refine gL ?_; refine sy_ov (ov_ld 0 rfl rfl rfl) rfl rfl ?_) | (refine gS ?_; refine sy_store 0 rfl rfl rfl rfl rfl rfl rfl rfl ?_) | refine sy_ov (ov_fieldAddr rfl rfl rfl) rfl rfl ?_ | (refine sy_alloc rfl rfl rfl ?_; intro _)))
                refine sy_ov (ov_call rfl (fun w _ => mode36_c _ (by omega) w)) rfl rfl ?_
                repeat (first | refine sy_k rfl rfl ?_ | (refine gO ?_; first | refine sy_ov (ov_p rfl) rfl rfl ?_ | (refine gG ?_; (refine sy_guard_yes rfl rfl rfl rfl rfl ?_ ?_; focus (first | with_reducible rfl | assumption | omega | (simp <;> first | omega | assumption)))) | (refine gL ?_; refine sy_ov (ov_ld 3 rfl rfl rfl) rfl rfl ?_) | (refine gS ?_; refine sy_store 3 rfl rfl rfl rfl rfl rfl rfl rfl ?_) | refine sy_ov (ov_fieldAddr rfl rfl rfl) rfl rfl ?_))
                refine sy_order [1, 2, 3, 0, 4] rfl rfl ?_
                simp only [List.set_cons_zero, List.set_cons_succ, List.filterMap_cons, List.filterMap_nil, List.getElem?_cons_zero, List.getElem?_cons_succ]
                refine sy_callE (curE cb p q l _) rfl rfl rfl (cur_fault cb p q l ⟨i + 1 + 1 + 1, d, 0, 0⟩) ?_
                rintro _ _ ⟨rfl, rfl⟩
                simp only [curE, List.cons_append, List.nil_append]
                repeat (first | refine sy_k rfl rfl ?_ | (refine gO ?_; first | refine sy_ov (ov_p rfl) rfl rfl ?_ | (refine gG ?_; (refine sy_guard_yes rfl rfl rfl rfl rfl ?_ ?_; focus (first | with_reducible rfl | assumption | omega | (simp <;> first | omega | assumption)))) | (refine sy_ov (ov_pick_t rfl rfl ?_) rfl rfl ?_; focus (with_reducible rfl)) | refine sy_ov (ov_field rfl rfl rfl) rfl rfl ?_) | (refine sy_cond_t rfl ?_ ?_; focus (first | with_reducible rfl | assumption | omega | (simp <;> first | omega | assumption))))
                refine sy_draw 6 (by kernel_rfl) ?_
                repeat (first | refine dr_op (ov_p rfl) rfl rfl ?_ | refine dr_op (ov_ld 2 rfl rfl rfl) rfl rfl ?_ | refine dr_op (ov_ld 3 rfl rfl rfl) rfl rfl ?_ | refine dr_op (ov_fieldAddr rfl rfl rfl) rfl rfl ?_ | refine dr_end ?_)
                skip
                refine sy_order [0, 1, 2, 3, 4] rfl rfl ?_
                simp only [List.set_cons_zero, List.set_cons_succ, List.filterMap_cons, List.filterMap_nil, List.getElem?_cons_zero, List.getElem?_cons_succ]
                refine sy_callE (curE cb p q l _) rfl rfl rfl (cur_failAt cb p q l ⟨i + 1 + 1 + 1, d, 0, 0⟩ 9 v.2.1) ?_
                rintro _ _ ⟨rfl, rfl⟩
                simp only [curE, List.cons_append, List.nil_append]
                repeat (refine sy_k rfl rfl ?_)
                exact end0w rfl fun w' hw' => postE hw' _ (sub_self (by (try unfold rdE); (try unfold curE); (try simp only [List.cons_append, List.nil_append]); repeat first | exact sr | apply sk | apply sd)) rfl ⟨rfl, _, _, _, rfl, hP (o.1, o.2.1, modN v.2.2.2.1, o.2.2.2)⟩
              · have hP := part2_ok x v1 hm
                refine sy_enterE rfl rfl (fun w => ?_)
                simp only [initFr, rdE, curE, List.cons_append, List.nil_append]
                repeat (first | refine sy_k rfl rfl ?_ | (refine gO ?_; refine sy_ov (ov_p rfl) rfl rfl ?_))
                refine sy_order [0, 1, 2] rfl rfl ?_
                simp only [List.set_cons_zero, List.set_cons_succ, List.filterMap_cons, List.filterMap_nil, List.getElem?_cons_zero, List.getElem?_cons_succ]
                refine sy_callE (rdE rb cb p q l _ _ _) rfl rfl rfl (hnm) ?_
                rintro _ _ ⟨rfl, rfl⟩
                simp only [rdE, curE, List.cons_append, List.nil_append]
                repeat (first | refine sy_k rfl rfl ?_ | (refine gO ?_; first | refine sy_ov (ov_p rfl) rfl rfl ?_ | (refine gL ?_; refine sy_ov (ov_ld 3 rfl rfl rfl) rfl rfl ?_) | (refine gS ?_; refine sy_store 0 rfl rfl rfl rfl rfl rfl rfl rfl ?_) | refine sy_ov (ov_fieldAddr rfl rfl rfl) rfl rfl ?_ | (refine sy_alloc rfl rfl rfl ?_; intro _)))
                refine sy_order [1, 2, 3, 0] rfl rfl ?_
                simp only [List.set_cons_zero, List.set_cons_succ, List.filterMap_cons, List.filterMap_nil, List.getElem?_cons_zero, List.getElem?_cons_succ]
                refine sy_callE (curE cb p q l _) rfl rfl rfl (cur_fault cb p q l ⟨i + 1, d, 0, 0⟩) ?_
                rintro _ _ ⟨rfl, rfl⟩
                simp only [curE, List.cons_append, List.nil_append]
                repeat (first | refine sy_k rfl rfl ?_ | (refine gO ?_; first | refine sy_ov (ov_p rfl) rfl rfl ?_ | (refine gL ?_; refine sy_ov (ov_ld 3 rfl rfl rfl) rfl rfl ?_) | refine sy_ov (ov_fieldAddr rfl rfl rfl) rfl rfl ?_ | refine sy_ov (ov_field rfl rfl rfl) rfl rfl ?_) | (refine sy_cond_f rfl ?_ ?_; focus (first | with_reducible rfl | assumption | omega | (simp <;> first | omega | assumption))))
                refine sy_ov (ov_call rfl (fun w _ => which_c _ 2 hk w)) rfl rfl ?_
                repeat (first | refine sy_k rfl rfl ?_ | (refine gO ?_; first | refine sy_ov (ov_p rfl) rfl rfl ?_ | refine sy_ov (ov_fieldAddr rfl rfl rfl) rfl rfl ?_) | (refine sy_cond_f rfl ?_ ?_; focus (first | with_reducible rfl | assumption | omega | (simp <;> first | omega | assumption))))
                refine sy_ov (ov_arrAddr rfl rfl (by decide) (by decide)) rfl rfl ?_
                repeat (first | refine sy_k rfl rfl ?_ | (refine gO ?_; first | refine sy_ov (ov_p rfl) rfl rfl ?_ | (refine gL ?_; refine sy_ov (ov_ld 2 rfl rfl rfl) rfl rfl ?_) | refine sy_ov (ov_fieldAddr rfl rfl rfl) rfl rfl ?_) | (refine sy_cond_f rfl ?_ ?_; focus (first | with_reducible rfl | assumption | omega | (simp <;> first | omega | assumption))))
                refine sy_ov (ov_arrAddr rfl rfl (by decide) (by decide)) rfl rfl ?_
                repeat (first | refine sy_k rfl rfl ?_ | (refine gO ?_; first | refine sy_ov (ov_p rfl) rfl rfl ?_ | (refine gL ?_; refine sy_ov (ov_ld 2 rfl rfl rfl) rfl rfl ?_) | (refine gS ?_; refine sy_store 2 rfl rfl rfl rfl rfl rfl rfl rfl ?_) | refine sy_ov (ov_fieldAddr rfl rfl rfl) rfl rfl ?_))
                refine sy_order [0, 1, 2, 3] rfl rfl ?_
                simp only [List.set_cons_zero, List.set_cons_succ, List.filterMap_cons, List.filterMap_nil, List.getElem?_cons_zero, List.getElem?_cons_succ]
                refine sy_callE (curE cb p q l _) rfl rfl rfl (hne) ?_
                rintro _ _ ⟨rfl, rfl⟩
                simp only [curE, List.cons_append, List.nil_append]
                repeat (first | refine sy_k rfl rfl ?_ | (refine gO ?_; refine sy_ov (ov_p rfl) rfl rfl ?_) | (refine sy_cond_t rfl ?_ ?_; focus (first | with_reducible rfl | assumption | omega | (simp <;> first | omega | assumption))) | (refine sy_cond_f rfl ?_ ?_; focus (first | with_reducible rfl | assumption | omega | (simp <;> first | omega | assumption))))
                refine sy_order [0, 1, 2, 3] rfl rfl ?_
                simp only [List.set_cons_zero, List.set_cons_succ, List.filterMap_cons, List.filterMap_nil, List.getElem?_cons_zero, List.getElem?_cons_succ]
                refine sy_callE (rdE rb cb p q l ⟨i + 1 + 1, d, 0, 0⟩ o (b0, b1, true, b3)) rfl rfl rfl (hnm2) ?_
                rintro _ _ ⟨rfl, rfl⟩
                simp only [rdE, curE, List.cons_append, List.nil_append]
                repeat (first | refine sy_k rfl rfl ?_ | (refine gO ?_; first | refine sy_ov (ov_p rfl) rfl rfl ?_ | (refine gL ?_; refine sy_ov (ov_ld 0 rfl rfl rfl) rfl rfl ?_) | (refine gS ?_; refine sy_store 0 rfl rfl rfl rfl rfl rfl rfl rfl ?_) | refine sy_ov (ov_fieldAddr rfl rfl rfl) rfl rfl ?_ | (refine sy_alloc rfl rfl rfl ?_; intro _)))
                refine sy_ov (ov_call rfl (fun w _ => mode36_c _ (by omega) w)) rfl rfl ?_
                repeat (first | refine sy_k rfl rfl ?_ | (refine gO ?_; first | refine sy_ov (ov_p rfl) rfl rfl ?_ | (refine gG ?_; (refine sy_guard_no rfl rfl rfl rfl rfl ?_ ?_; focus (first | with_reducible rfl | assumption | omega | (simp <;> first | omega | assumption)))) | (refine gL ?_; refine sy_ov (ov_ld 3 rfl rfl rfl) rfl rfl ?_) | (refine gS ?_; refine sy_store 3 rfl rfl rfl rfl rfl rfl rfl rfl ?_) | refine sy_ov (ov_pick rfl rfl rfl) rfl rfl ?_ | refine sy_ov (ov_fieldAddr rfl rfl rfl) rfl rfl ?_) | (refine sy_cond_f rfl ?_ ?_; focus (first | with_reducible rfl | assumption | omega | (simp <;> first | omega | assumption))))
                exact end0w rfl fun w' hw' => postE hw' _ (sub_self (by (try unfold rdE); (try unfold curE); (try simp only [List.cons_append, List.nil_append]); repeat first | exact sr | apply sk | apply sd)) rfl ⟨rfl, _, _, _, rfl, hP⟩
            · obtain ⟨e1, e2, e3⟩ := x.nonam v1
              rw [e1, e2] at hnm2
              have hod := oddE_ne v
              have hP := part2_odd x v1
              have hz : modN ztk.2.2.2.1 = 0 := by decide
              refine sy_enterE rfl rfl (fun w => ?_)
              simp only [initFr, rdE, curE, List.cons_append, List.nil_append]
              repeat (first | refine sy_k rfl rfl ?_ | (refine gO ?_; refine sy_ov (ov_p rfl) rfl rfl ?_))
              refine sy_order [0, 1, 2] rfl rfl ?_
              simp only [List.set_cons_zero, List.set_cons_succ, List.filterMap_cons, List.filterMap_nil, List.getElem?_cons_zero, List.getElem?_cons_succ]
              refine sy_callE (rdE rb cb p q l _ _ _) rfl rfl rfl (hnm) ?_
              rintro _ _ ⟨rfl, rfl⟩
              simp only [rdE, curE, List.cons_append, List.nil_append]
              repeat (first | refine sy_k rfl rfl ?_ | (refine gO ?_; first | refine sy_ov (ov_p rfl) rfl rfl ?_ | (refine gL ?_; refine sy_ov (ov_ld 3 rfl rfl rfl) rfl rfl ?_) | (refine gS ?_; refine sy_store 0 rfl rfl rfl rfl rfl rfl rfl rfl ?_) | refine sy_ov (ov_fieldAddr rfl rfl rfl) rfl rfl ?_ | (refine sy_alloc rfl rfl rfl ?_; intro _)))
              refine sy_order [1, 2, 3, 0] rfl rfl ?_
              simp only [List.set_cons_zero, List.set_cons_succ, List.filterMap_cons, List.filterMap_nil, List.getElem?_cons_zero, List.getElem?_cons_succ]
              refine sy_callE (curE cb p q l _) rfl rfl rfl (cur_fault cb p q l ⟨i + 1, d, 0, 0⟩) ?_
              rintro _ _ ⟨rfl, rfl⟩
              simp only [curE, List.cons_append, List.nil_append]
              repeat (first | refine sy_k rfl rfl ?_ | (refine gO ?_; first | refine sy_ov (ov_p rfl) rfl rfl ?_ | (refine gL ?_; refine sy_ov (ov_ld 3 rfl rfl rfl) rfl rfl ?_) | refine sy_ov (ov_fieldAddr rfl rfl rfl) rfl rfl ?_ | refine sy_ov (ov_field rfl rfl rfl) rfl rfl ?_) | (refine sy_cond_f rfl ?_ ?_; focus (first | with_reducible rfl | assumption | omega | (simp <;> first | omega | assumption))))
              refine sy_ov (ov_call rfl (fun w _ => which_c _ 2 hk w)) rfl rfl ?_
              repeat (first | refine sy_k rfl rfl ?_ | (refine gO ?_; first | refine sy_ov (ov_p rfl) rfl rfl ?_ | refine sy_ov (ov_fieldAddr rfl rfl rfl) rfl rfl ?_) | (refine sy_cond_f rfl ?_ ?_; focus (first | with_reducible rfl | assumption | omega | (simp <;> first | omega | assumption))))
              refine sy_ov (ov_arrAddr rfl rfl (by decide) (by decide)) rfl rfl ?_
              repeat (first | refine sy_k rfl rfl ?_ | (refine gO ?_; first | refine sy_ov (ov_p rfl) rfl rfl ?_ | (refine gL ?_; refine sy_ov (ov_ld 2 rfl rfl rfl) rfl rfl ?_) | refine sy_ov (ov_fieldAddr rfl rfl rfl) rfl rfl ?_) | (refine sy_cond_f rfl ?_ ?_; focus (first | with_reducible rfl | assumption | omega | (simp <;> first | omega | assumption))))
              refine sy_ov (ov_arrAddr rfl rfl (by decide) (by decide)) rfl rfl ?_
              repeat (first | refine sy_k rfl rfl ?_ | (refine gO ?_; first | refine sy_ov (ov_p rfl) rfl rfl ?_ | (refine gL ?_; refine sy_ov (ov_ld 2 rfl rfl rfl) rfl rfl ?_) | (refine gS ?_; refine sy_store 2 rfl rfl rfl rfl rfl rfl rfl rfl ?_) | refine sy_ov (ov_fieldAddr rfl rfl rfl) rfl rfl ?_))
              refine sy_order [0, 1, 2, 3] rfl rfl ?_
              simp only [List.set_cons_zero, List.set_cons_succ, List.filterMap_cons, List.filterMap_nil, List.getElem?_cons_zero, List.getElem?_cons_succ]
              refine sy_callE (curE cb p q l _) rfl rfl rfl (hne) ?_
              rintro _ _ ⟨rfl, rfl⟩
              simp only [curE, List.cons_append, List.nil_append]
              repeat (first | refine sy_k rfl rfl ?_ | (refine gO ?_; refine sy_ov (ov_p rfl) rfl rfl ?_) | (refine sy_cond_t rfl ?_ ?_; focus (first | with_reducible rfl | assumption | omega | (simp <;> first | omega | assumption))) | (refine sy_cond_f rfl ?_ ?_; focus (first | with_reducible rfl | assumption | omega | (simp <;> first | omega | assumption))))
              refine sy_order [0, 1, 2, 3] rfl rfl ?_
              simp only [List.set_cons_zero, List.set_cons_succ, List.filterMap_cons, List.filterMap_nil, List.getElem?_cons_zero, List.getElem?_cons_succ]
              refine sy_callE (rdE rb cb p q l ⟨i + 1 + 1, d, 0, 0⟩ o (b0, b1, true, b3)) rfl rfl rfl (hnm2) ?_
              rintro _ _ ⟨rfl, rfl⟩
              simp only [rdE, curE, List.cons_append, List.nil_append]
              repeat (first | refine sy_k rfl rfl ?_ | (refine gO ?_; first | refine sy_ov (ov_p rfl) rfl rfl ?_ | (refine gL ?_; refine sy_ov (ov_ld 0 rfl rfl rfl) rfl rfl ?_) | (refine gS ?_; refine sy_store 0 rfl rfl rfl rfl rfl rfl rfl rfl ?_) | refine sy_ov (ov_fieldAddr rfl rfl rfl) rfl rfl ?_ | (refine sy_alloc rfl rfl rfl ?_; intro _)))
              refine sy_ov (ov_call rfl (fun w _ => mode36_c _ (by decide) w)) rfl rfl ?_
              repeat (first | refine sy_k rfl rfl ?_ | (refine gO ?_; first | refine sy_ov (ov_p rfl) rfl rfl ?_ | (refine gG ?_; (refine sy_guard_yes rfl rfl rfl rfl rfl ?_ ?_; focus (first | with_reducible rfl | assumption | omega | (simp <;> first | omega | assumption)))) | (refine gL ?_; refine sy_ov (ov_ld 3 rfl rfl rfl) rfl rfl ?_) | (refine gS ?_; refine sy_store 3 rfl rfl rfl rfl rfl rfl rfl rfl ?_) | refine sy_ov (ov_fieldAddr rfl rfl rfl) rfl rfl ?_))
              refine sy_order [1, 2, 3, 0, 4] rfl rfl ?_
              simp only [List.set_cons_zero, List.set_cons_succ, List.filterMap_cons, List.filterMap_nil, List.getElem?_cons_zero, List.getElem?_cons_succ]
              refine sy_callE (curE cb p q l _) rfl rfl rfl (cur_fault cb p q l ⟨i + 1 + 1, d, (oddE v).1, v.2.1⟩) ?_
              rintro _ _ ⟨rfl, rfl⟩
              simp only [curE, List.cons_append, List.nil_append]
              repeat (first | refine sy_k rfl rfl ?_ | (refine gO ?_; first | refine sy_ov (ov_p rfl) rfl rfl ?_ | (refine gG ?_; (refine sy_guard_yes rfl rfl rfl rfl rfl ?_ ?_; focus (first | with_reducible rfl | assumption | omega | (simp <;> first | omega | assumption)))) | (refine sy_ov (ov_pick_t rfl rfl ?_) rfl rfl ?_; focus (with_reducible rfl)) | refine sy_ov (ov_field rfl rfl rfl) rfl rfl ?_) | (refine sy_cond_f rfl ?_ ?_; focus (first | with_reducible rfl | assumption | omega | (simp <;> first | omega | assumption))))
              exact end0w rfl fun w' hw' => postE hw' _ (sub_self (by (try unfold rdE); (try unfold curE); (try simp only [List.cons_append, List.nil_append]); repeat first | exact sr | apply sk | apply sd)) rfl ⟨rfl, _, _, _, rfl, hP (o.1, o.2.1, modN ztk.2.2.2.1, o.2.2.2)⟩
          · have hP : ∀ o' h', PartP l i R ⟨i + 1, d, 10, t.2.1⟩ o' h' := part_bad (hc1.at hc1.i0 hc1.i1 rfl) (by simp) (opt_twice hl hR ht t1 (by omega) (by rw [hk]; rfl)) _
            refine sy_enterE rfl rfl (fun w => ?_)
            simp only [initFr, rdE, curE, List.cons_append, List.nil_append]
            repeat (first | refine sy_k rfl rfl ?_ | (refine gO ?_; refine sy_ov (ov_p rfl) rfl rfl ?_))
            refine sy_order [0, 1, 2] rfl rfl ?_
            simp only [List.set_cons_zero, List.set_cons_succ, List.filterMap_cons, List.filterMap_nil, List.getElem?_cons_zero, List.getElem?_cons_succ]
            refine sy_callE (rdE rb cb p q l _ _ _) rfl rfl rfl (hnm) ?_
            rintro _ _ ⟨rfl, rfl⟩
            simp only [rdE, curE, List.cons_append, List.nil_append]
            repeat (first | refine sy_k rfl rfl ?_ | (refine gO ?_; first | refine sy_ov (ov_p rfl) rfl rfl ?_ | (refine gL ?_; refine sy_ov (ov_ld 3 rfl rfl rfl) rfl rfl ?_) | (refine gS ?_; refine sy_store 0 rfl rfl rfl rfl rfl rfl rfl rfl ?_) | refine sy_ov (ov_fieldAddr rfl rfl rfl) rfl rfl ?_ | (refine sy_alloc rfl rfl rfl ?_; intro _)))
            refine sy_order [1, 2, 3, 0] rfl rfl ?_
            simp only [List.set_cons_zero, List.set_cons_succ, List.filterMap_cons, List.filterMap_nil, List.getElem?_cons_zero, List.getElem?_cons_succ]
            refine sy_callE (curE cb p q l _) rfl rfl rfl (cur_fault cb p q l ⟨i + 1, d, 0, 0⟩) ?_
            rintro _ _ ⟨rfl, rfl⟩
            simp only [curE, List.cons_append, List.nil_append]
            repeat (first | refine sy_k rfl rfl ?_ | (refine gO ?_; first | refine sy_ov (ov_p rfl) rfl rfl ?_ | (refine gL ?_; refine sy_ov (ov_ld 3 rfl rfl rfl) rfl rfl ?_) | refine sy_ov (ov_fieldAddr rfl rfl rfl) rfl rfl ?_ | refine sy_ov (ov_field rfl rfl rfl) rfl rfl ?_) | (refine sy_cond_f rfl ?_ ?_; focus (first | with_reducible rfl | assumption | omega | (simp <;> first | omega | assumption))))
            refine sy_ov (ov_call rfl (fun w _ => which_c _ 2 hk w)) rfl rfl ?_
            repeat (first | refine sy_k rfl rfl ?_ | (refine gO ?_; first | refine sy_ov (ov_p rfl) rfl rfl ?_ | refine sy_ov (ov_fieldAddr rfl rfl rfl) rfl rfl ?_) | (refine sy_cond_f rfl ?_ ?_; focus (first | with_reducible rfl | assumption | omega | (simp <;> first | omega | assumption))))
            refine sy_ov (ov_arrAddr rfl rfl (by decide) (by decide)) rfl rfl ?_
            repeat (first | refine sy_k rfl rfl ?_ | (refine gO ?_; first | refine sy_ov (ov_p rfl) rfl rfl ?_ | (refine gL ?_; refine sy_ov (ov_ld 2 rfl rfl rfl) rfl rfl ?_)) | (refine sy_cond_t rfl ?_ ?_; focus (first | with_reducible rfl | assumption | omega | (simp <;> first | omega | assumption))))
            refine sy_draw 6 (by kernel_rfl) ?_
            repeat (first | refine dr_op (ov_p rfl) rfl rfl ?_ | refine dr_op (ov_ld 2 rfl rfl rfl) rfl rfl ?_ | refine dr_op (ov_ld 3 rfl rfl rfl) rfl rfl ?_ | refine dr_op (ov_fieldAddr rfl rfl rfl) rfl rfl ?_ | refine dr_end ?_)
            skip
            refine sy_order [0, 1, 2, 3] rfl rfl ?_
            simp only [List.set_cons_zero, List.set_cons_succ, List.filterMap_cons, List.filterMap_nil, List.getElem?_cons_zero, List.getElem?_cons_succ]
            refine sy_callE (curE cb p q l _) rfl rfl rfl (cur_failAt cb p q l ⟨i + 1, d, 0, 0⟩ 10 t.2.1) ?_
            rintro _ _ ⟨rfl, rfl⟩
            simp only [curE, List.cons_append, List.nil_append]
            repeat (first | refine sy_k rfl rfl ?_ | refine sy_rt ?_)
            exact ret0w rfl fun w' hw' => postE hw' _ (sub_self (by (try unfold rdE); (try unfold curE); (try simp only [List.cons_append, List.nil_append]); repeat first | exact sr | apply sk | apply sd)) rfl ⟨rfl, _, _, _, rfl, hP _ _⟩
        · cases b3
          · have x : In2 l ⟨i, d, 0, 0⟩ ⟨i + 1 + 1, d, 0, 0⟩ o (b0, b1, b2, false) R t u v 3 := ⟨hl, hc, hc2, rfl, rfl, by simp only; omega, hR, ht, hu, hv, t1, hk, by decide, rfl, heq⟩
            have hP := part3 x
            refine sy_enterE rfl rfl (fun w => ?_)
            simp only [initFr, rdE, curE, List.cons_append, List.nil_append]
            repeat (first | refine sy_k rfl rfl ?_ | (refine gO ?_; refine sy_ov (ov_p rfl) rfl rfl ?_))
            refine sy_order [0, 1, 2] rfl rfl ?_
            simp only [List.set_cons_zero, List.set_cons_succ, List.filterMap_cons, List.filterMap_nil, List.getElem?_cons_zero, List.getElem?_cons_succ]
            refine sy_callE (rdE rb cb p q l _ _ _) rfl rfl rfl (hnm) ?_
            rintro _ _ ⟨rfl, rfl⟩
            simp only [rdE, curE, List.cons_append, List.nil_append]
            repeat (first | refine sy_k rfl rfl ?_ | (refine gO ?_; first | refine sy_ov (ov_p rfl) rfl rfl ?_ | (refine gL ?_; refine sy_ov (ov_ld 3 rfl rfl rfl) rfl rfl ?_) | (refine gS ?_; refine sy_store 0 rfl rfl rfl rfl rfl rfl rfl rfl ?_) | refine sy_ov (ov_fieldAddr rfl rfl rfl) rfl rfl ?_ | (refine sy_alloc rfl rfl rfl ?_; intro _)))
            refine sy_order [1, 2, 3, 0] rfl rfl ?_
            simp only [List.set_cons_zero, List.set_cons_succ, List.filterMap_cons, List.filterMap_nil, List.getElem?_cons_zero, List.getElem?_cons_succ]
            refine sy_callE (curE cb p q l _) rfl rfl rfl (cur_fault cb p q l ⟨i + 1, d, 0, 0⟩) ?_
            rintro _ _ ⟨rfl, rfl⟩
            simp only [curE, List.cons_append, List.nil_append]
            repeat (first | refine sy_k rfl rfl ?_ | (refine gO ?_; first | refine sy_ov (ov_p rfl) rfl rfl ?_ | (refine gL ?_; refine sy_ov (ov_ld 3 rfl rfl rfl) rfl rfl ?_) | refine sy_ov (ov_fieldAddr rfl rfl rfl) rfl rfl ?_ | refine sy_ov (ov_field rfl rfl rfl) rfl rfl ?_) | (refine sy_cond_f rfl ?_ ?_; focus (first | with_reducible rfl | assumption | omega | (simp <;> first | omega | assumption))))
            refine sy_ov (ov_call rfl (fun w _ => which_c _ 3 hk w)) rfl rfl ?_
            repeat (first | refine sy_k rfl rfl ?_ | (refine gO ?_; first | refine sy_ov (ov_p rfl) rfl rfl ?_ | refine sy_ov (ov_fieldAddr rfl rfl rfl) rfl rfl ?_) | (refine sy_cond_f rfl ?_ ?_; focus (first | with_reducible rfl | assumption | omega | (simp <;> first | omega | assumption))))
            refine sy_ov (ov_arrAddr rfl rfl (by decide) (by decide)) rfl rfl ?_
            repeat (first | refine sy_k rfl rfl ?_ | (refine gO ?_; first | refine sy_ov (ov_p rfl) rfl rfl ?_ | (refine gL ?_; refine sy_ov (ov_ld 2 rfl rfl rfl) rfl rfl ?_) | refine sy_ov (ov_fieldAddr rfl rfl rfl) rfl rfl ?_) | (refine sy_cond_f rfl ?_ ?_; focus (first | with_reducible rfl | assumption | omega | (simp <;> first | omega | assumption))))
            refine sy_ov (ov_arrAddr rfl rfl (by decide) (by decide)) rfl rfl ?_
            repeat (first | refine sy_k rfl rfl ?_ | (refine gO ?_; first | refine sy_ov (ov_p rfl) rfl rfl ?_ | (refine gL ?_; refine sy_ov (ov_ld 2 rfl rfl rfl) rfl rfl ?_) | (refine gS ?_; refine sy_store 2 rfl rfl rfl rfl rfl rfl rfl rfl ?_) | refine sy_ov (ov_fieldAddr rfl rfl rfl) rfl rfl ?_))
            refine sy_order [0, 1, 2, 3] rfl rfl ?_
            simp only [List.set_cons_zero, List.set_cons_succ, List.filterMap_cons, List.filterMap_nil, List.getElem?_cons_zero, List.getElem?_cons_succ]
            refine sy_callE (curE cb p q l _) rfl rfl rfl (hne) ?_
            rintro _ _ ⟨rfl, rfl⟩
            simp only [curE, List.cons_append, List.nil_append]
            repeat (first | refine sy_k rfl rfl ?_ | (refine gO ?_; refine sy_ov (ov_p rfl) rfl rfl ?_) | (refine sy_cond_t rfl ?_ ?_; focus (first | with_reducible rfl | assumption | omega | (simp <;> first | omega | assumption))) | (refine sy_cond_f rfl ?_ ?_; focus (first | with_reducible rfl | assumption | omega | (simp <;> first | omega | assumption))))
            refine sy_order [0, 1, 2, 3] rfl rfl ?_
            simp only [List.set_cons_zero, List.set_cons_succ, List.filterMap_cons, List.filterMap_nil, List.getElem?_cons_zero, List.getElem?_cons_succ]
            refine sy_callE (rdE rb cb p q l ⟨i + 1 + 1, d, 0, 0⟩ o (b0, b1, b2, true)) rfl rfl rfl (or_name rb cb p q l ⟨i + 1 + 1, d, 0, 0⟩ o (b0, b1, b2, true) hl hc2) ?_
            rintro _ _ ⟨rfl, rfl⟩
            simp only [rdE, curE, List.cons_append, List.nil_append]
            repeat (first | refine sy_k rfl rfl ?_ | (refine gO ?_; first | refine sy_ov (ov_p rfl) rfl rfl ?_ | (refine gS ?_; refine sy_store 2 rfl rfl rfl rfl rfl rfl rfl rfl ?_) | refine sy_ov (ov_fieldAddr rfl rfl rfl) rfl rfl ?_ | refine sy_ov (ov_field rfl rfl rfl) rfl rfl ?_))
            exact end0w rfl fun w' hw' => postE hw' _ (sub_self (by (try unfold rdE); (try unfold curE); (try simp only [List.cons_append, List.nil_append]); repeat first | exact sr | apply sk | apply sd)) rfl ⟨rfl, _, _, _, rfl, hP⟩
          · have hP : ∀ o' h', PartP l i R ⟨i + 1, d, 10, t.2.1⟩ o' h' := part_bad (hc1.at hc1.i0 hc1.i1 rfl) (by simp) (opt_twice hl hR ht t1 (by omega) (by rw [hk]; rfl)) _
            refine sy_enterE rfl rfl (fun w => ?_)
            simp only [initFr, rdE, curE, List.cons_append, List.nil_append]
            repeat (first | refine sy_k rfl rfl ?_ | (refine gO ?_; refine sy_ov (ov_p rfl) rfl rfl ?_))
            refine sy_order [0, 1, 2] rfl rfl ?_
            simp only [List.set_cons_zero, List.set_cons_succ, List.filterMap_cons, List.filterMap_nil, List.getElem?_cons_zero, List.getElem?_cons_succ]
            refine sy_callE (rdE rb cb p q l _ _ _) rfl rfl rfl (hnm) ?_
            rintro _ _ ⟨rfl, rfl⟩
            simp only [rdE, curE, List.cons_append, List.nil_append]
            repeat (first | refine sy_k rfl rfl ?_ | (refine gO ?_; first | refine sy_ov (ov_p rfl) rfl rfl ?_ | (refine gL ?_; refine sy_ov (ov_ld 3 rfl rfl rfl) rfl rfl ?_) | (refine gS ?_; refine sy_store 0 rfl rfl rfl rfl rfl rfl rfl rfl ?_) | refine sy_ov (ov_fieldAddr rfl rfl rfl) rfl rfl ?_ | (refine sy_alloc rfl rfl rfl ?_; intro _)))
            refine sy_order [1, 2, 3, 0] rfl rfl ?_
            simp only [List.set_cons_zero, List.set_cons_succ, List.filterMap_cons, List.filterMap_nil, List.getElem?_cons_zero, List.getElem?_cons_succ]
            refine sy_callE (curE cb p q l _) rfl rfl rfl (cur_fault cb p q l ⟨i + 1, d, 0, 0⟩) ?_
            rintro _ _ ⟨rfl, rfl⟩
            simp only [curE, List.cons_append, List.nil_append]
            repeat (first | refine sy_k rfl rfl ?_ | (refine gO ?_; first | refine sy_ov (ov_p rfl) rfl rfl ?_ | (refine gL ?_; refine sy_ov (ov_ld 3 rfl rfl rfl) rfl rfl ?_) | refine sy_ov (ov_fieldAddr rfl rfl rfl) rfl rfl ?_ | refine sy_ov (ov_field rfl rfl rfl) rfl rfl ?_) | (refine sy_cond_f rfl ?_ ?_; focus (first | with_reducible rfl | assumption | omega | (simp <;> first | omega | assumption))))
            refine sy_ov (ov_call rfl (fun w _ => which_c _ 3 hk w)) rfl rfl ?_
            repeat (first | refine sy_k rfl rfl ?_ | (refine gO ?_; first | refine sy_ov (ov_p rfl) rfl rfl ?_ | refine sy_ov (ov_fieldAddr rfl rfl rfl) rfl rfl ?_) | (refine sy_cond_f rfl ?_ ?_; focus (first | with_reducible rfl | assumption | omega | (simp <;> first | omega | assumption))))
            refine sy_ov (ov_arrAddr rfl rfl (by decide) (by decide)) rfl rfl ?_
            repeat (first | refine sy_k rfl rfl ?_ | (refine gO ?_; first | refine sy_ov (ov_p rfl) rfl rfl ?_ | (refine gL ?_; refine sy_ov (ov_ld 2 rfl rfl rfl) rfl rfl ?_)) | (refine sy_cond_t rfl ?_ ?_; focus (first | with_reducible rfl | assumption | omega | (simp <;> first | omega | assumption))))
            refine sy_draw 6 (by kernel_rfl) ?_
            repeat (first | refine dr_op (ov_p rfl) rfl rfl ?_ | refine dr_op (ov_ld 2 rfl rfl rfl) rfl rfl ?_ | refine dr_op (ov_ld 3 rfl rfl rfl) rfl rfl ?_ | refine dr_op (ov_fieldAddr rfl rfl rfl) rfl rfl ?_ | refine dr_end ?_)
            skip
            refine sy_order [0, 1, 2, 3] rfl rfl ?_
            simp only [List.set_cons_zero, List.set_cons_succ, List.filterMap_cons, List.filterMap_nil, List.getElem?_cons_zero, List.getElem?_cons_succ]
            refine sy_callE (curE cb p q l _) rfl rfl rfl (cur_failAt cb p q l ⟨i + 1, d, 0, 0⟩ 10 t.2.1) ?_
            rintro _ _ ⟨rfl, rfl⟩
            simp only [curE, List.cons_append, List.nil_append]
            repeat (first | refine sy_k rfl rfl ?_ | refine sy_rt ?_)
            exact ret0w rfl fun w' hw' => postE hw' _ (sub_self (by (try unfold rdE); (try unfold curE); (try simp only [List.cons_append, List.nil_append]); repeat first | exact sr | apply sk | apply sd)) rfl ⟨rfl, _, _, _, rfl, hP _ _⟩
      · have his : isT l ⟨i + 1, d, 0, 0⟩ 4 [61] = false := by
          unfold isT; rw [peek_at rfl hu1]
          by_cases h1 : u.1 = 4
          · have h2 : u.2.2.2.1 ≠ [61] := fun h2 => heq ⟨h1, h2⟩
            simp [h2]
          · simp [h1]
        have hne := hneed
        rw [his] at hne
        have hk' : k = 0 ∨ k = 1 ∨ k = 2 ∨ k = 3 := by omega
        rcases hk' with rfl | rfl | rfl | rfl
        · cases b0
          · have hP : ∀ o' h', PartP l i R (needT l ⟨i + 1, d, 0, 0⟩ [61]) o' h' := part_need hl hc ht hu t1 (by rw [hk]; decide) (by rw [hk]; rfl) hR heq
            refine sy_enterE rfl rfl (fun w => ?_)
            simp only [initFr, rdE, curE, List.cons_append, List.nil_append]
            repeat (first | refine sy_k rfl rfl ?_ | (refine gO ?_; refine sy_ov (ov_p rfl) rfl rfl ?_))
            refine sy_order [0, 1, 2] rfl rfl ?_
            simp only [List.set_cons_zero, List.set_cons_succ, List.filterMap_cons, List.filterMap_nil, List.getElem?_cons_zero, List.getElem?_cons_succ]
            refine sy_callE (rdE rb cb p q l _ _ _) rfl rfl rfl (hnm) ?_
            rintro _ _ ⟨rfl, rfl⟩
            simp only [rdE, curE, List.cons_append, List.nil_append]
            repeat (first | refine sy_k rfl rfl ?_ | (refine gO ?_; first | refine sy_ov (ov_p rfl) rfl rfl ?_ | (refine gL ?_; refine sy_ov (ov_ld 3 rfl rfl rfl) rfl rfl ?_) | (refine gS ?_; refine sy_store 0 rfl rfl rfl rfl rfl rfl rfl rfl ?_) | refine sy_ov (ov_fieldAddr rfl rfl rfl) rfl rfl ?_ | (refine sy_alloc rfl rfl rfl ?_; intro _)))
            refine sy_order [1, 2, 3, 0] rfl rfl ?_
            simp only [List.set_cons_zero, List.set_cons_succ, List.filterMap_cons, List.filterMap_nil, List.getElem?_cons_zero, List.getElem?_cons_succ]
            refine sy_callE (curE cb p q l _) rfl rfl rfl (cur_fault cb p q l ⟨i + 1, d, 0, 0⟩) ?_
            rintro _ _ ⟨rfl, rfl⟩
            simp only [curE, List.cons_append, List.nil_append]
            repeat (first | refine sy_k rfl rfl ?_ | (refine gO ?_; first | refine sy_ov (ov_p rfl) rfl rfl ?_ | (refine gL ?_; refine sy_ov (ov_ld 3 rfl rfl rfl) rfl rfl ?_) | refine sy_ov (ov_fieldAddr rfl rfl rfl) rfl rfl ?_ | refine sy_ov (ov_field rfl rfl rfl) rfl rfl ?_) | (refine sy_cond_f rfl ?_ ?_; focus (first | with_reducible rfl | assumption | omega | (simp <;> first | omega | assumption))))
            refine sy_ov (ov_call rfl (fun w _ => which_c _ 0 hk w)) rfl rfl ?_
            repeat (first | refine sy_k rfl rfl ?_ | (refine gO ?_; first | refine sy_ov (ov_p rfl) rfl rfl ?_ | refine sy_ov (ov_fieldAddr rfl rfl rfl) rfl rfl ?_) | (refine sy_cond_f rfl ?_ ?_; focus (first | with_reducible rfl | assumption | omega | (simp <;> first | omega | assumption))))
            refine sy_ov (ov_arrAddr rfl rfl (by decide) (by decide)) rfl rfl ?_
            repeat (first | refine sy_k rfl rfl ?_ | (refine gO ?_; first | refine sy_ov (ov_p rfl) rfl rfl ?_ | (refine gL ?_; refine sy_ov (ov_ld 2 rfl rfl rfl) rfl rfl ?_) | refine sy_ov (ov_fieldAddr rfl rfl rfl) rfl rfl ?_) | (refine sy_cond_f rfl ?_ ?_; focus (first | with_reducible rfl | assumption | omega | (simp <;> first | omega | assumption))))
            refine sy_ov (ov_arrAddr rfl rfl (by decide) (by decide)) rfl rfl ?_
            repeat (first | refine sy_k rfl rfl ?_ | (refine gO ?_; first | refine sy_ov (ov_p rfl) rfl rfl ?_ | (refine gL ?_; refine sy_ov (ov_ld 2 rfl rfl rfl) rfl rfl ?_) | (refine gS ?_; refine sy_store 2 rfl rfl rfl rfl rfl rfl rfl rfl ?_) | refine sy_ov (ov_fieldAddr rfl rfl rfl) rfl rfl ?_))
            refine sy_order [0, 1, 2, 3] rfl rfl ?_
            simp only [List.set_cons_zero, List.set_cons_succ, List.filterMap_cons, List.filterMap_nil, List.getElem?_cons_zero, List.getElem?_cons_succ]
            refine sy_callE (curE cb p q l _) rfl rfl rfl (hne) ?_
            rintro _ _ ⟨rfl, rfl⟩
            simp only [curE, List.cons_append, List.nil_append]
            repeat (first | refine sy_k rfl rfl ?_ | (refine gO ?_; refine sy_ov (ov_p rfl) rfl rfl ?_) | (refine sy_cond_t rfl ?_ ?_; focus (first | with_reducible rfl | assumption | omega | (simp <;> first | omega | assumption))) | refine sy_rt ?_)
            exact ret0w rfl fun w' hw' => postE hw' _ (sub_self (by (try unfold rdE); (try unfold curE); (try simp only [List.cons_append, List.nil_append]); repeat first | exact sr | apply sk | apply sd)) rfl ⟨rfl, _, _, _, rfl, hP o (true, b1, b2, b3)⟩
          · have hP : ∀ o' h', PartP l i R ⟨i + 1, d, 10, t.2.1⟩ o' h' := part_bad (hc1.at hc1.i0 hc1.i1 rfl) (by simp) (opt_twice hl hR ht t1 (by omega) (by rw [hk]; rfl)) _
            refine sy_enterE rfl rfl (fun w => ?_)
            simp only [initFr, rdE, curE, List.cons_append, List.nil_append]
            repeat (first | refine sy_k rfl rfl ?_ | (refine gO ?_; refine sy_ov (ov_p rfl) rfl rfl ?_))
            refine sy_order [0, 1, 2] rfl rfl ?_
            simp only [List.set_cons_zero, List.set_cons_succ, List.filterMap_cons, List.filterMap_nil, List.getElem?_cons_zero, List.getElem?_cons_succ]
            refine sy_callE (rdE rb cb p q l _ _ _) rfl rfl rfl (hnm) ?_
            rintro _ _ ⟨rfl, rfl⟩
            simp only [rdE, curE, List.cons_append, List.nil_append]
            repeat (first | refine sy_k rfl rfl ?_ | (refine gO ?_; first | refine sy_ov (ov_p rfl) rfl rfl ?_ | (refine gL ?_; refine sy_ov (ov_ld 3 rfl rfl rfl) rfl rfl ?_) | (refine gS ?_; refine sy_store 0 rfl rfl rfl rfl rfl rfl rfl rfl ?_) | refine sy_ov (ov_fieldAddr rfl rfl rfl) rfl rfl ?_ | (refine sy_alloc rfl rfl rfl ?_; intro _)))
            refine sy_order [1, 2, 3, 0] rfl rfl ?_
            simp only [List.set_cons_zero, List.set_cons_succ, List.filterMap_cons, List.filterMap_nil, List.getElem?_cons_zero, List.getElem?_cons_succ]
            refine sy_callE (curE cb p q l _) rfl rfl rfl (cur_fault cb p q l ⟨i + 1, d, 0, 0⟩) ?_
            rintro _ _ ⟨rfl, rfl⟩
            simp only [curE, List.cons_append, List.nil_append]
            repeat (first | refine sy_k rfl rfl ?_ | (refine gO ?_; first | refine sy_ov (ov_p rfl) rfl rfl ?_ | (refine gL ?_; refine sy_ov (ov_ld 3 rfl rfl rfl) rfl rfl ?_) | refine sy_ov (ov_fieldAddr rfl rfl rfl) rfl rfl ?_ | refine sy_ov (ov_field rfl rfl rfl) rfl rfl ?_) | (refine sy_cond_f rfl ?_ ?_; focus (first | with_reducible rfl | assumption | omega | (simp <;> first | omega | assumption))))
            refine sy_ov (ov_call rfl (fun w _ => which_c _ 0 hk w)) rfl rfl ?_
            repeat (first | refine sy_k rfl rfl ?_ | (refine gO ?_; first | refine sy_ov (ov_p rfl) rfl rfl ?_ | refine sy_ov (ov_fieldAddr rfl rfl rfl) rfl rfl ?_) | (refine sy_cond_f rfl ?_ ?_; focus (first | with_reducible rfl | assumption | omega | (simp <;> first | omega | assumption))))
            refine sy_ov (ov_arrAddr rfl rfl (by decide) (by decide)) rfl rfl ?_
            repeat (first | refine sy_k rfl rfl ?_ | (refine gO ?_; first | refine sy_ov (ov_p rfl) rfl rfl ?_ | (refine gL ?_; refine sy_ov (ov_ld 2 rfl rfl rfl) rfl rfl ?_)) | (refine sy_cond_t rfl ?_ ?_; focus (first | with_reducible rfl | assumption | omega | (simp <;> first | omega | assumption))))
            refine sy_draw 6 (by kernel_rfl) ?_
            repeat (first | refine dr_op (ov_p rfl) rfl rfl ?_ | refine dr_op (ov_ld 2 rfl rfl rfl) rfl rfl ?_ | refine dr_op (ov_ld 3 rfl rfl rfl) rfl rfl ?_ | refine dr_op (ov_fieldAddr rfl rfl rfl) rfl rfl ?_ | refine dr_end ?_)
            skip
            refine sy_order [0, 1, 2, 3] rfl rfl ?_
            simp only [List.set_cons_zero, List.set_cons_succ, List.filterMap_cons, List.filterMap_nil, List.getElem?_cons_zero, List.getElem?_cons_succ]
            refine sy_callE (curE cb p q l _) rfl rfl rfl (cur_failAt cb p q l ⟨i + 1, d, 0, 0⟩ 10 t.2.1) ?_
            rintro _ _ ⟨rfl, rfl⟩
            simp only [curE, List.cons_append, List.nil_append]
            repeat (first | refine sy_k rfl rfl ?_ | refine sy_rt ?_)
            exact ret0w rfl fun w' hw' => postE hw' _ (sub_self (by (try unfold rdE); (try unfold curE); (try simp only [List.cons_append, List.nil_append]); repeat first | exact sr | apply sk | apply sd)) rfl ⟨rfl, _, _, _, rfl, hP _ _⟩
        · cases b1
          · have hP : ∀ o' h', PartP l i R (needT l ⟨i + 1, d, 0, 0⟩ [61]) o' h' := part_need hl hc ht hu t1 (by rw [hk]; decide) (by rw [hk]; rfl) hR heq
            refine sy_enterE rfl rfl (fun w => ?_)
            simp only [initFr, rdE, curE, List.cons_append, List.nil_append]
            repeat (first | refine sy_k rfl rfl ?_ | (refine gO ?_; refine sy_ov (ov_p rfl) rfl rfl ?_))
            refine sy_order [0, 1, 2] rfl rfl ?_
            simp only [List.set_cons_zero, List.set_cons_succ, List.filterMap_cons, List.filterMap_nil, List.getElem?_cons_zero, List.getElem?_cons_succ]
            refine sy_callE (rdE rb cb p q l _ _ _) rfl rfl rfl (hnm) ?_
            rintro _ _ ⟨rfl, rfl⟩
            simp only [rdE, curE, List.cons_append, List.nil_append]
            repeat (first | refine sy_k rfl rfl ?_ | (refine gO ?_; first | refine sy_ov (ov_p rfl) rfl rfl ?_ | (refine gL ?_; refine sy_ov (ov_ld 3 rfl rfl rfl) rfl rfl ?_) | (refine gS ?_; refine sy_store 0 rfl rfl rfl rfl rfl rfl rfl rfl ?_) | refine sy_ov (ov_fieldAddr rfl rfl rfl) rfl rfl ?_ | (refine sy_alloc rfl rfl rfl ?_; intro _)))
            refine sy_order [1, 2, 3, 0] rfl rfl ?_
            simp only [List.set_cons_zero, List.set_cons_succ, List.filterMap_cons, List.filterMap_nil, List.getElem?_cons_zero, List.getElem?_cons_succ]
            refine sy_callE (curE cb p q l _) rfl rfl rfl (cur_fault cb p q l ⟨i + 1, d, 0, 0⟩) ?_
            rintro _ _ ⟨rfl, rfl⟩
            simp only [curE, List.cons_append, List.nil_append]
            repeat (first | refine sy_k rfl rfl ?_ | (refine gO ?_; first | refine sy_ov (ov_p rfl) rfl rfl ?_ | (refine gL ?_; refine sy_ov (ov_ld 3 rfl rfl rfl) rfl rfl ?_) | refine sy_ov (ov_fieldAddr rfl rfl rfl) rfl rfl ?_ | refine sy_ov (ov_field rfl rfl rfl) rfl rfl ?_) | (refine sy_cond_f rfl ?_ ?_; focus (first | with_reducible rfl | assumption | omega | (simp <;> first | omega | assumption))))
            refine sy_ov (ov_call rfl (fun w _ => which_c _ 1 hk w)) rfl rfl ?_
            repeat (first | refine sy_k rfl rfl ?_ | (refine gO ?_; first | refine sy_ov (ov_p rfl) rfl rfl ?_ | refine sy_ov (ov_fieldAddr rfl rfl rfl) rfl rfl ?_) | (refine sy_cond_f rfl ?_ ?_; focus (first | with_reducible rfl | assumption | omega | (simp <;> first | omega | assumption))))
            refine sy_ov (ov_arrAddr rfl rfl (by decide) (by decide)) rfl rfl ?_
            repeat (first | refine sy_k rfl rfl ?_ | (refine gO ?_; first | refine sy_ov (ov_p rfl) rfl rfl ?_ | (refine gL ?_; refine sy_ov (ov_ld 2 rfl rfl rfl) rfl rfl ?_) | refine sy_ov (ov_fieldAddr rfl rfl rfl) rfl rfl ?_) | (refine sy_cond_f rfl ?_ ?_; focus (first | with_reducible rfl | assumption | omega | (simp <;> first | omega | assumption))))
            refine sy_ov (ov_arrAddr rfl rfl (by decide) (by decide)) rfl rfl ?_
            repeat (first | refine sy_k rfl rfl ?_ | (refine gO ?_; first | refine sy_ov (ov_p rfl) rfl rfl ?_ | (refine gL ?_; refine sy_ov (ov_ld 2 rfl rfl rfl) rfl rfl ?_) | (refine gS ?_; refine sy_store 2 rfl rfl rfl rfl rfl rfl rfl rfl ?_) | refine sy_ov (ov_fieldAddr rfl rfl rfl) rfl rfl ?_))
            refine sy_order [0, 1, 2, 3] rfl rfl ?_
            simp only [List.set_cons_zero, List.set_cons_succ, List.filterMap_cons, List.filterMap_nil, List.getElem?_cons_zero, List.getElem?_cons_succ]
            refine sy_callE (curE cb p q l _) rfl rfl rfl (hne) ?_
            rintro _ _ ⟨rfl, rfl⟩
            simp only [curE, List.cons_append, List.nil_append]
            repeat (first | refine sy_k rfl rfl ?_ | (refine gO ?_; refine sy_ov (ov_p rfl) rfl rfl ?_) | (refine sy_cond_t rfl ?_ ?_; focus (first | with_reducible rfl | assumption | omega | (simp <;> first | omega | assumption))) | refine sy_rt ?_)
            exact ret0w rfl fun w' hw' => postE hw' _ (sub_self (by (try unfold rdE); (try unfold curE); (try simp only [List.cons_append, List.nil_append]); repeat first | exact sr | apply sk | apply sd)) rfl ⟨rfl, _, _, _, rfl, hP o (b0, true, b2, b3)⟩
          · have hP : ∀ o' h', PartP l i R ⟨i + 1, d, 10, t.2.1⟩ o' h' := part_bad (hc1.at hc1.i0 hc1.i1 rfl) (by simp) (opt_twice hl hR ht t1 (by omega) (by rw [hk]; rfl)) _
            refine sy_enterE rfl rfl (fun w => ?_)
            simp only [initFr, rdE, curE, List.cons_append, List.nil_append]
            repeat (first | refine sy_k rfl rfl ?_ | (refine gO ?_; refine sy_ov (ov_p rfl) rfl rfl ?_))
            refine sy_order [0, 1, 2] rfl rfl ?_
            simp only [List.set_cons_zero, List.set_cons_succ, List.filterMap_cons, List.filterMap_nil, List.getElem?_cons_zero, List.getElem?_cons_succ]
            refine sy_callE (rdE rb cb p q l _ _ _) rfl rfl rfl (hnm) ?_
            rintro _ _ ⟨rfl, rfl⟩
            simp only [rdE, curE, List.cons_append, List.nil_append]
            repeat (first | refine sy_k rfl rfl ?_ | (refine gO ?_; first | refine sy_ov (ov_p rfl) rfl rfl ?_ | (refine gL ?_; refine sy_ov (ov_ld 3 rfl rfl rfl) rfl rfl ?_) | (refine gS ?_; refine sy_store 0 rfl rfl rfl rfl rfl rfl rfl rfl ?_) | refine sy_ov (ov_fieldAddr rfl rfl rfl) rfl rfl ?_ | (refine sy_alloc rfl rfl rfl ?_; intro _)))
            refine sy_order [1, 2, 3, 0] rfl rfl ?_
            simp only [List.set_cons_zero, List.set_cons_succ, List.filterMap_cons, List.filterMap_nil, List.getElem?_cons_zero, List.getElem?_cons_succ]
            refine sy_callE (curE cb p q l _) rfl rfl rfl (cur_fault cb p q l ⟨i + 1, d, 0, 0⟩) ?_
            rintro _ _ ⟨rfl, rfl⟩
            simp only [curE, List.cons_append, List.nil_append]
            repeat (first | refine sy_k rfl rfl ?_ | (refine gO ?_; first | refine sy_ov (ov_p rfl) rfl rfl ?_ | (refine gL ?_; refine sy_ov (ov_ld 3 rfl rfl rfl) rfl rfl ?_) | refine sy_ov (ov_fieldAddr rfl rfl rfl) rfl rfl ?_ | refine sy_ov (ov_field rfl rfl rfl) rfl rfl ?_) | (refine sy_cond_f rfl ?_ ?_; focus (first | with_reducible rfl | assumption | omega | (simp <;> first | omega | assumption))))
            refine sy_ov (ov_call rfl (fun w _ => which_c _ 1 hk w)) rfl rfl ?_
            repeat (first | refine sy_k rfl rfl ?_ | (refine gO ?_; first | refine sy_ov (ov_p rfl) rfl rfl ?_ | refine sy_ov (ov_fieldAddr rfl rfl rfl) rfl rfl ?_) | (refine sy_cond_f rfl ?_ ?_; focus (first | with_reducible rfl | assumption | omega | (simp <;> first | omega | assumption))))
            refine sy_ov (ov_arrAddr rfl rfl (by decide) (by decide)) rfl rfl ?_
            repeat (first | refine sy_k rfl rfl ?_ | (refine gO ?_; first | refine sy_ov (ov_p rfl) rfl rfl ?_ | (refine gL ?_; refine sy_ov (ov_ld 2 rfl rfl rfl) rfl rfl ?_)) | (refine sy_cond_t rfl ?_ ?_; focus (first | with_reducible rfl | assumption | omega | (simp <;> first | omega | assumption))))
            refine sy_draw 6 (by kernel_rfl) ?_
            repeat (first | refine dr_op (ov_p rfl) rfl rfl ?_ | refine dr_op (ov_ld 2 rfl rfl rfl) rfl rfl ?_ | refine dr_op (ov_ld 3 rfl rfl rfl) rfl rfl ?_ | refine dr_op (ov_fieldAddr rfl rfl rfl) rfl rfl ?_ | refine dr_end ?_)
            skip
            refine sy_order [0, 1, 2, 3] rfl rfl ?_
            simp only [List.set_cons_zero, List.set_cons_succ, List.filterMap_cons, List.filterMap_nil, List.getElem?_cons_zero, List.getElem?_cons_succ]
            refine sy_callE (curE cb p q l _) rfl rfl rfl (cur_failAt cb p q l ⟨i + 1, d, 0, 0⟩ 10 t.2.1) ?_
            rintro _ _ ⟨rfl, rfl⟩
            simp only [curE, List.cons_append, List.nil_append]
            repeat (first | refine sy_k rfl rfl ?_ | refine sy_rt ?_)
            exact ret0w rfl fun w' hw' => postE hw' _ (sub_self (by (try unfold rdE); (try unfold curE); (try simp only [List.cons_append, List.nil_append]); repeat first | exact sr | apply sk | apply sd)) rfl ⟨rfl, _, _, _, rfl, hP _ _⟩
        · cases b2
          · have hP : ∀ o' h', PartP l i R (needT l ⟨i + 1, d, 0, 0⟩ [61]) o' h' := part_need hl hc ht hu t1 (by rw [hk]; decide) (by rw [hk]; rfl) hR heq
            refine sy_enterE rfl rfl (fun w => ?_)
            simp only [initFr, rdE, curE, List.cons_append, List.nil_append]
            repeat (first | refine sy_k rfl rfl ?_ | (refine gO ?_; refine sy_ov (ov_p rfl) rfl rfl ?_))
            refine sy_order [0, 1, 2] rfl rfl ?_
            simp only [List.set_cons_zero, List.set_cons_succ, List.filterMap_cons, List.filterMap_nil, List.getElem?_cons_zero, List.getElem?_cons_succ]
            refine sy_callE (rdE rb cb p q l _ _ _) rfl rfl rfl (hnm) ?_
            rintro _ _ ⟨rfl, rfl⟩
            simp only [rdE, curE, List.cons_append, List.nil_append]
            repeat (first | refine sy_k rfl rfl ?_ | (refine gO ?_; first | refine sy_ov (ov_p rfl) rfl rfl ?_ | (refine gL ?_; refine sy_ov (ov_ld 3 rfl rfl rfl) rfl rfl ?_) | (refine gS ?_; refine sy_store 0 rfl rfl rfl rfl rfl rfl rfl rfl ?_) | refine sy_ov (ov_fieldAddr rfl rfl rfl) rfl rfl ?_ | (refine sy_alloc rfl rfl rfl ?_; intro _)))
            refine sy_order [1, 2, 3, 0] rfl rfl ?_
            simp only [List.set_cons_zero, List.set_cons_succ, List.filterMap_cons, List.filterMap_nil, List.getElem?_cons_zero, List.getElem?_cons_succ]
            refine sy_callE (curE cb p q l _) rfl rfl rfl (cur_fault cb p q l ⟨i + 1, d, 0, 0⟩) ?_
            rintro _ _ ⟨rfl, rfl⟩
            simp only [curE, List.cons_append, List.nil_append]
            repeat (first | refine sy_k rfl rfl ?_ | (refine gO ?_; first | refine sy_ov (ov_p rfl) rfl rfl ?_ | (refine gL ?_; refine sy_ov (ov_ld 3 rfl rfl rfl) rfl rfl ?_) | refine sy_ov (ov_fieldAddr rfl rfl rfl) rfl rfl ?_ | refine sy_ov (ov_field rfl rfl rfl) rfl rfl ?_) | (refine sy_cond_f rfl ?_ ?_; focus (first | with_reducible rfl | assumption | omega | (simp <;> first | omega | assumption))))
            refine sy_ov (ov_call rfl (fun w _ => which_c _ 2 hk w)) rfl rfl ?_
            repeat (first | refine sy_k rfl rfl ?_ | (refine gO ?_; first | refine sy_ov (ov_p rfl) rfl rfl ?_ | refine sy_ov (ov_fieldAddr rfl rfl rfl) rfl rfl ?_) | (refine sy_cond_f rfl ?_ ?_; focus (first | with_reducible rfl | assumption | omega | (simp <;> first | omega | assumption))))
            refine sy_ov (ov_arrAddr rfl rfl (by decide) (by decide)) rfl rfl ?_
            repeat (first | refine sy_k rfl rfl ?_ | (refine gO ?_; first | refine sy_ov (ov_p rfl) rfl rfl ?_ | (refine gL ?_; refine sy_ov (ov_ld 2 rfl rfl rfl) rfl rfl ?_) | refine sy_ov (ov_fieldAddr rfl rfl rfl) rfl rfl ?_) | (refine sy_cond_f rfl ?_ ?_; focus (first | with_reducible rfl | assumption | omega | (simp <;> first | omega | assumption))))
            refine sy_ov (ov_arrAddr rfl rfl (by decide) (by decide)) rfl rfl ?_
            repeat (first | refine sy_k rfl rfl ?_ | (refine gO ?_; first | refine sy_ov (ov_p rfl) rfl rfl ?_ | (refine gL ?_; refine sy_ov (ov_ld 2 rfl rfl rfl) rfl rfl ?_) | (refine gS ?_; refine sy_store 2 rfl rfl rfl rfl rfl rfl rfl rfl ?_) | refine sy_ov (ov_fieldAddr rfl rfl rfl) rfl rfl ?_))
            refine sy_order [0, 1, 2, 3] rfl rfl ?_
            simp only [List.set_cons_zero, List.set_cons_succ, List.filterMap_cons, List.filterMap_nil, List.getElem?_cons_zero, List.getElem?_cons_succ]
            refine sy_callE (curE cb p q l _) rfl rfl rfl (hne) ?_
            rintro _ _ ⟨rfl, rfl⟩
            simp only [curE, List.cons_append, List.nil_append]
            repeat (first | refine sy_k rfl rfl ?_ | (refine gO ?_; refine sy_ov (ov_p rfl) rfl rfl ?_) | (refine sy_cond_t rfl ?_ ?_; focus (first | with_reducible rfl | assumption | omega | (simp <;> first | omega | assumption))) | refine sy_rt ?_)
            exact ret0w rfl fun w' hw' => postE hw' _ (sub_self (by (try unfold rdE); (try unfold curE); (try simp only [List.cons_append, List.nil_append]); repeat first | exact sr | apply sk | apply sd)) rfl ⟨rfl, _, _, _, rfl, hP o (b0, b1, true, b3)⟩
          · have hP : ∀ o' h', PartP l i R ⟨i + 1, d, 10, t.2.1⟩ o' h' := part_bad (hc1.at hc1.i0 hc1.i1 rfl) (by simp) (opt_twice hl hR ht t1 (by omega) (by rw [hk]; rfl)) _
            refine sy_enterE rfl rfl (fun w => ?_)
            simp only [initFr, rdE, curE, List.cons_append, List.nil_append]
            repeat (first | refine sy_k rfl rfl ?_ | (refine gO ?_; refine sy_ov (ov_p rfl) rfl rfl ?_))
            refine sy_order [0, 1, 2] rfl rfl ?_
            simp only [List.set_cons_zero, List.set_cons_succ, List.filterMap_cons, List.filterMap_nil, List.getElem?_cons_zero, List.getElem?_cons_succ]
            refine sy_callE (rdE rb cb p q l _ _ _) rfl rfl rfl (hnm) ?_
            rintro _ _ ⟨rfl, rfl⟩
            simp only [rdE, curE, List.cons_append, List.nil_append]
            repeat (first | refine sy_k rfl rfl ?_ | (refine gO ?_; first | refine sy_ov (ov_p rfl) rfl rfl ?_ | (refine gL ?_; refine sy_ov (ov_ld 3 rfl rfl rfl) rfl rfl ?_) | (refine gS ?_; refine sy_store 0 rfl rfl rfl rfl rfl rfl rfl rfl ?_) | refine sy_ov (ov_fieldAddr rfl rfl rfl) rfl rfl ?_ | (refine sy_alloc rfl rfl rfl ?_; intro _)))
            refine sy_order [1, 2, 3, 0] rfl rfl ?_
            simp only [List.set_cons_zero, List.set_cons_succ, List.filterMap_cons, List.filterMap_nil, List.getElem?_cons_zero, List.getElem?_cons_succ]
            refine sy_callE (curE cb p q l _) rfl rfl rfl (cur_fault cb p q l ⟨i + 1, d, 0, 0⟩) ?_
            rintro _ _ ⟨rfl, rfl⟩
            simp only [curE, List.cons_append, List.nil_append]
            repeat (first | refine sy_k rfl rfl ?_ | (refine gO ?_; first | refine sy_ov (ov_p rfl) rfl rfl ?_ | (refine gL ?_; refine sy_ov (ov_ld 3 rfl rfl rfl) rfl rfl ?_) | refine sy_ov (ov_fieldAddr rfl rfl rfl) rfl rfl ?_ | refine sy_ov (ov_field rfl rfl rfl) rfl rfl ?_) | (refine sy_cond_f rfl ?_ ?_; focus (first | with_reducible rfl | assumption | omega | (simp <;> first | omega | assumption))))
            refine sy_ov (ov_call rfl (fun w _ => which_c _ 2 hk w)) rfl rfl ?_
            repeat (first | refine sy_k rfl rfl ?_ | (refine gO ?_; first | refine sy_ov (ov_p rfl) rfl rfl ?_ | refine sy_ov (ov_fieldAddr rfl rfl rfl) rfl rfl ?_) | (refine sy_cond_f rfl ?_ ?_; focus (first | with_reducible rfl | assumption | omega | (simp <;> first | omega | assumption))))
            refine sy_ov (ov_arrAddr rfl rfl (by decide) (by decide)) rfl rfl ?_
            repeat (first | refine sy_k rfl rfl ?_ | (refine gO ?_; first | refine sy_ov (ov_p rfl) rfl rfl ?_ | (refine gL ?_; refine sy_ov (ov_ld 2 rfl rfl rfl) rfl rfl ?_)) | (refine sy_cond_t rfl ?_ ?_; focus (first | with_reducible rfl | assumption | omega | (simp <;> first | omega | assumption))))
            refine sy_draw 6 (by kernel_rfl) ?_
            repeat (first | refine dr_op (ov_p rfl) rfl rfl ?_ | refine dr_op (ov_ld 2 rfl rfl rfl) rfl rfl ?_ | refine dr_op (ov_ld 3 rfl rfl rfl) rfl rfl ?_ | refine dr_op (ov_fieldAddr rfl rfl rfl) rfl rfl ?_ | refine dr_end ?_)
            skip
            refine sy_order [0, 1, 2, 3] rfl rfl ?_
            simp only [List.set_cons_zero, List.set_cons_succ, List.filterMap_cons, List.filterMap_nil, List.getElem?_cons_zero, List.getElem?_cons_succ]
            refine sy_callE (curE cb p q l _) rfl rfl rfl (cur_failAt cb p q l ⟨i + 1, d, 0, 0⟩ 10 t.2.1) ?_
            rintro _ _ ⟨rfl, rfl⟩
            simp only [curE, List.cons_append, List.nil_append]
            repeat (first | refine sy_k rfl rfl ?_ | refine sy_rt ?_)
            exact ret0w rfl fun w' hw' => postE hw' _ (sub_self (by (try unfold rdE); (try unfold curE); (try simp only [List.cons_append, List.nil_append]); repeat first | exact sr | apply sk | apply sd)) rfl ⟨rfl, _, _, _, rfl, hP _ _⟩
        · cases b3
          · have hP : ∀ o' h', PartP l i R (needT l ⟨i + 1, d, 0, 0⟩ [61]) o' h' := part_need hl hc ht hu t1 (by rw [hk]; decide) (by rw [hk]; rfl) hR heq
            refine sy_enterE rfl rfl (fun w => ?_)
            simp only [initFr, rdE, curE, List.cons_append, List.nil_append]
            repeat (first | refine sy_k rfl rfl ?_ | (refine gO ?_; refine sy_ov (ov_p rfl) rfl rfl ?_))
            refine sy_order [0, 1, 2] rfl rfl ?_
            simp only [List.set_cons_zero, List.set_cons_succ, List.filterMap_cons, List.filterMap_nil, List.getElem?_cons_zero, List.getElem?_cons_succ]
            refine sy_callE (rdE rb cb p q l _ _ _) rfl rfl rfl (hnm) ?_
            rintro _ _ ⟨rfl, rfl⟩
            simp only [rdE, curE, List.cons_append, List.nil_append]
            repeat (first | refine sy_k rfl rfl ?_ | (refine gO ?_; first | refine sy_ov (ov_p rfl) rfl rfl ?_ | (refine gL ?_; refine sy_ov (ov_ld 3 rfl rfl rfl) rfl rfl ?_) | (refine gS ?_; refine sy_store 0 rfl rfl rfl rfl rfl rfl rfl rfl ?_) | refine sy_ov (ov_fieldAddr rfl rfl rfl) rfl rfl ?_ | (refine sy_alloc rfl rfl rfl ?_; intro _)))
            refine sy_order [1, 2, 3, 0] rfl rfl ?_
            simp only [List.set_cons_zero, List.set_cons_succ, List.filterMap_cons, List.filterMap_nil, List.getElem?_cons_zero, List.getElem?_cons_succ]
            refine sy_callE (curE cb p q l _) rfl rfl rfl (cur_fault cb p q l ⟨i + 1, d, 0, 0⟩) ?_
            rintro _ _ ⟨rfl, rfl⟩
            simp only [curE, List.cons_append, List.nil_append]
            repeat (first | refine sy_k rfl rfl ?_ | (refine gO ?_; first | refine sy_ov (ov_p rfl) rfl rfl ?_ | (refine gL ?_; refine sy_ov (ov_ld 3 rfl rfl rfl) rfl rfl ?_) | refine sy_ov (ov_fieldAddr rfl rfl rfl) rfl rfl ?_ | refine sy_ov (ov_field rfl rfl rfl) rfl rfl ?_) | (refine sy_cond_f rfl ?_ ?_; focus (first | with_reducible rfl | assumption | omega | (simp <;> first | omega | assumption))))
            refine sy_ov (ov_call rfl (fun w _ => which_c _ 3 hk w)) rfl rfl ?_
            repeat (first | refine sy_k rfl rfl ?_ | (refine gO ?_; first | refine sy_ov (ov_p rfl) rfl rfl ?_ | refine sy_ov (ov_fieldAddr rfl rfl rfl) rfl rfl ?_) | (refine sy_cond_f rfl ?_ ?_; focus (first | with_reducible rfl | assumption | omega | (simp <;> first | omega | assumption))))
            refine sy_ov (ov_arrAddr rfl rfl (by decide) (by decide)) rfl rfl ?_
            repeat (first | refine sy_k rfl rfl ?_ | (refine gO ?_; first | refine sy_ov (ov_p rfl) rfl rfl ?_ | (refine gL ?_; refine sy_ov (ov_ld 2 rfl rfl rfl) rfl rfl ?_) | refine sy_ov (ov_fieldAddr rfl rfl rfl) rfl rfl ?_) | (refine sy_cond_f rfl ?_ ?_; focus (first | with_reducible rfl | assumption | omega | (simp <;> first | omega | assumption))))
            refine sy_ov (ov_arrAddr rfl rfl (by decide) (by decide)) rfl rfl ?_
            repeat (first | refine sy_k rfl rfl ?_ | (refine gO ?_; first | refine sy_ov (ov_p rfl) rfl rfl ?_ | (refine gL ?_; refine sy_ov (ov_ld 2 rfl rfl rfl) rfl rfl ?_) | (refine gS ?_; refine sy_store 2 rfl rfl rfl rfl rfl rfl rfl rfl ?_) | refine sy_ov (ov_fieldAddr rfl rfl rfl) rfl rfl ?_))
            refine sy_order [0, 1, 2, 3] rfl rfl ?_
            simp only [List.set_cons_zero, List.set_cons_succ, List.filterMap_cons, List.filterMap_nil, List.getElem?_cons_zero, List.getElem?_cons_succ]
            refine sy_callE (curE cb p q l _) rfl rfl rfl (hne) ?_
            rintro _ _ ⟨rfl, rfl⟩
            simp only [curE, List.cons_append, List.nil_append]
            repeat (first | refine sy_k rfl rfl ?_ | (refine gO ?_; refine sy_ov (ov_p rfl) rfl rfl ?_) | (refine sy_cond_t rfl ?_ ?_; focus (first | with_reducible rfl | assumption | omega | (simp <;> first | omega | assumption))) | refine sy_rt ?_)
            exact ret0w rfl fun w' hw' => postE hw' _ (sub_self (by (try unfold rdE); (try unfold curE); (try simp only [List.cons_append, List.nil_append]); repeat first | exact sr | apply sk | apply sd)) rfl ⟨rfl, _, _, _, rfl, hP o (b0, b1, b2, true)⟩
          · have hP : ∀ o' h', PartP l i R ⟨i + 1, d, 10, t.2.1⟩ o' h' := part_bad (hc1.at hc1.i0 hc1.i1 rfl) (by simp) (opt_twice hl hR ht t1 (by omega) (by rw [hk]; rfl)) _
            refine sy_enterE rfl rfl (fun w => ?_)
            simp only [initFr, rdE, curE, List.cons_append, List.nil_append]
            repeat (first | refine sy_k rfl rfl ?_ | (refine gO ?_; refine sy_ov (ov_p rfl) rfl rfl ?_))
            refine sy_order [0, 1, 2] rfl rfl ?_
            simp only [List.set_cons_zero, List.set_cons_succ, List.filterMap_cons, List.filterMap_nil, List.getElem?_cons_zero, List.getElem?_cons_succ]
            refine sy_callE (rdE rb cb p q l _ _ _) rfl rfl rfl (hnm) ?_
            rintro _ _ ⟨rfl, rfl⟩
            simp only [rdE, curE, List.cons_append, List.nil_append]
            repeat (first | refine sy_k rfl rfl ?_ | (refine gO ?_; first | refine sy_ov (ov_p rfl) rfl rfl ?_ | (refine gL ?_; refine sy_ov (ov_ld 3 rfl rfl rfl) rfl rfl ?_) | (refine gS ?_; refine sy_store 0 rfl rfl rfl rfl rfl rfl rfl rfl ?_) | refine sy_ov (ov_fieldAddr rfl rfl rfl) rfl rfl ?_ | (refine sy_alloc rfl rfl rfl ?_; intro _)))
            refine sy_order [1, 2, 3, 0] rfl rfl ?_
            simp only [List.set_cons_zero, List.set_cons_succ, List.filterMap_cons, List.filterMap_nil, List.getElem?_cons_zero, List.getElem?_cons_succ]
            refine sy_callE (curE cb p q l _) rfl rfl rfl (cur_fault cb p q l ⟨i + 1, d, 0, 0⟩) ?_
            rintro _ _ ⟨rfl, rfl⟩
            simp only [curE, List.cons_append, List.nil_append]
            repeat (first | refine sy_k rfl rfl ?_ | (refine gO ?_; first | refine sy_ov (ov_p rfl) rfl rfl ?_ | (refine gL ?_; refine sy_ov (ov_ld 3 rfl rfl rfl) rfl rfl ?_) | refine sy_ov (ov_fieldAddr rfl rfl rfl) rfl rfl ?_ | refine sy_ov (ov_field rfl rfl rfl) rfl rfl ?_) | (refine sy_cond_f rfl ?_ ?_; focus (first | with_reducible rfl | assumption | omega | (simp <;> first | omega | assumption))))
            refine sy_ov (ov_call rfl (fun w _ => which_c _ 3 hk w)) rfl rfl ?_
            repeat (first | refine sy_k rfl rfl ?_ | (refine gO ?_; first | refine sy_ov (ov_p rfl) rfl rfl ?_ | refine sy_ov (ov_fieldAddr rfl rfl rfl) rfl rfl ?_) | (refine sy_cond_f rfl ?_ ?_; focus (first | with_reducible rfl | assumption | omega | (simp <;> first | omega | assumption))))
            refine sy_ov (ov_arrAddr rfl rfl (by decide) (by decide)) rfl rfl ?_
            repeat (first | refine sy_k rfl rfl ?_ | (refine gO ?_; first | refine sy_ov (ov_p rfl) rfl rfl ?_ | (refine gL ?_; refine sy_ov (ov_ld 2 rfl rfl rfl) rfl rfl ?_)) | (refine sy_cond_t rfl ?_ ?_; focus (first | with_reducible rfl | assumption | omega | (simp <;> first | omega | assumption))))
            refine sy_draw 6 (by kernel_rfl) ?_
            repeat (first | refine dr_op (ov_p rfl) rfl rfl ?_ | refine dr_op (ov_ld 2 rfl rfl rfl) rfl rfl ?_ | refine dr_op (ov_ld 3 rfl rfl rfl) rfl rfl ?_ | refine dr_op (ov_fieldAddr rfl rfl rfl) rfl rfl ?_ | refine dr_end ?_)
            skip
            refine sy_order [0, 1, 2, 3] rfl rfl ?_
            simp only [List.set_cons_zero, List.set_cons_succ, List.filterMap_cons, List.filterMap_nil, List.getElem?_cons_zero, List.getElem?_cons_succ]
            refine sy_callE (curE cb p q l _) rfl rfl rfl (cur_failAt cb p q l ⟨i + 1, d, 0, 0⟩ 10 t.2.1) ?_
            rintro _ _ ⟨rfl, rfl⟩
            simp only [curE, List.cons_append, List.nil_append]
            repeat (first | refine sy_k rfl rfl ?_ | refine sy_rt ?_)
            exact ret0w rfl fun w' hw' => postE hw' _ (sub_self (by (try unfold rdE); (try unfold curE); (try simp only [List.cons_append, List.nil_append]); repeat first | exact sr | apply sk | apply sd)) rfl ⟨rfl, _, _, _, rfl, hP _ _⟩
  · have htk : takT l ⟨i, d, 0, 0⟩ 1 = false := by unfold takT; rw [hpk]; simp [t1]
    rw [show namTk l ⟨i, d, 0, 0⟩ = ztk by unfold namTk; rw [if_neg (by rw [htk]; decide)], show namCu l ⟨i, d, 0, 0⟩ = ⟨i, d, (oddE t).1, t.2.1⟩ by unfold namCu; rw [if_neg (by rw [htk]; decide), wrong_at rfl ht]] at hnm
    have hod := oddE_ne t
    have hP : ∀ o' h', PartP l i R ⟨i, d, (oddE t).1, t.2.1⟩ o' h' := part_bad (hc.at hc.i0 hc.i1 rfl) hod (opt_kind hR ht h0 t1) _
    refine sy_enterE rfl rfl (fun w => ?_)
    simp only [initFr, rdE, curE, List.cons_append, List.nil_append]
    repeat (first | refine sy_k rfl rfl ?_ | (refine gO ?_; refine sy_ov (ov_p rfl) rfl rfl ?_))
    refine sy_order [0, 1, 2] rfl rfl ?_
    simp only [List.set_cons_zero, List.set_cons_succ, List.filterMap_cons, List.filterMap_nil, List.getElem?_cons_zero, List.getElem?_cons_succ]
    refine sy_callE (rdE rb cb p q l _ _ _) rfl rfl rfl (hnm) ?_
    rintro _ _ ⟨rfl, rfl⟩
    simp only [rdE, curE, List.cons_append, List.nil_append]
    repeat (first | refine sy_k rfl rfl ?_ | (refine gO ?_; first | refine sy_ov (ov_p rfl) rfl rfl ?_ | (refine gL ?_; refine sy_ov (ov_ld 3 rfl rfl rfl) rfl rfl ?_) | (refine gS ?_; refine sy_store 0 rfl rfl rfl rfl rfl rfl rfl rfl ?_) | refine sy_ov (ov_fieldAddr rfl rfl rfl) rfl rfl ?_ | (refine sy_alloc rfl rfl rfl ?_; intro _)))
    refine sy_order [1, 2, 3, 0] rfl rfl ?_
    simp only [List.set_cons_zero, List.set_cons_succ, List.filterMap_cons, List.filterMap_nil, List.getElem?_cons_zero, List.getElem?_cons_succ]
    refine sy_callE (curE cb p q l _) rfl rfl rfl (cur_fault cb p q l ⟨i, d, (oddE t).1, t.2.1⟩) ?_
    rintro _ _ ⟨rfl, rfl⟩
    simp only [curE, List.cons_append, List.nil_append]
    repeat (first | refine sy_k rfl rfl ?_ | (refine gO ?_; first | refine sy_ov (ov_p rfl) rfl rfl ?_ | refine sy_ov (ov_field rfl rfl rfl) rfl rfl ?_) | (refine sy_cond_t rfl ?_ ?_; focus (first | with_reducible rfl | assumption | omega | (simp <;> first | omega | assumption))) | refine sy_rt ?_)
    exact ret0w rfl fun w' hw' => postE hw' _ (sub_self (by (try unfold rdE); (try unfold curE); (try simp only [List.cons_append, List.nil_append]); repeat first | exact sr | apply sk | apply sd)) rfl ⟨rfl, _, _, _, rfl, hP _ _⟩
end Go.Proofs.Yteiejcililponaa
/- Contract: options, as the program reads them. -/
set_option linter.unusedVariables false
set_option linter.unusedSimpArgs false
namespace Go.Proofs.Yteiejcililponaa
open Go.RowKit Bf
theorem scanR_a0 {s : List UInt8} {L : List TokT} {a : Int} (h : scanR s = (L, 0, a)) : a = 0 := by
  unfold scanR at h
  split at h
  · cases h
  · have := scanT_clean s _ 0 (Nat.le_refl _)
    rw [h] at this
    unfold comb at this
    simp only [if_true] at this
    exact (Prod.mk.inj (Prod.mk.inj this).2).2.symm
theorem scanR_cnt {s : List UInt8} {L : List TokT} {a : Int} (h : scanR s = (L, 0, a)) : L.length ≤ 65537 := by
  unfold scanR at h
  split at h
  · cases h
  · have h3 := scanT_count s _ 0 (Nat.le_refl _)
    rw [h] at h3
    simp only at h3
    omega
structure OpSt where
  c : CurT
  o : OptT
  h : HadT
def OpInv (l : List TokT) (R : OptT × Int × Int) (x : OpSt) : Prop :=
  CurOk l x.c ∧ ((x.c.e ≠ 0 ∧ R = (zopt, x.c.e, x.c.a)) ∨ (x.c.e = 0 ∧ x.c.a = 0 ∧ optL (l.drop x.c.i.toNat) x.o (hdL x.h) = R))
def opM (l : List TokT) (x : OpSt) : Nat := if x.c.e ≠ 0 then 0 else (l.length - x.c.i).toNat
set_option maxRecDepth 20000 in
set_option maxHeartbeats 4000000 in
theorem popt_c (s : List UInt8) (hs : s.length ≤ 100000000) (w : World) : Calls Try.prog 63 #[S s] w fun e w' => e = .returned (.tuple #[.agg ⟨optV (optP s).1⟩, faultV (optP s).2.1 (optP s).2.2]) ∧ Below w.heap.size w w' := by
  obtain ⟨L, e, a, hL⟩ : ∃ L e a, scanR s = (L, e, a) := ⟨_, _, _, rfl⟩
  by_cases he : e = 0
  · subst he
    have ha := scanR_a0 hL
    subst ha
    have hT := (scanR_toks hL (scanR_cnt hL)).1
    obtain ⟨R, hR⟩ : ∃ R, optP s = R := ⟨_, rfl⟩
    have hR2 : optL L dopt [false, false, false, false] = R := by rw [← hR]; unfold optP; rw [hL]; simp
    have hc0 : CurOk L ⟨0, 0, 0, 0⟩ := ⟨by decide, by have := hT.n; simp only; omega, by decide, by decide⟩
    rw [hR]
    refine sy_enter rfl rfl ?_
    simp only [initFr]
    repeat (first | refine sy_k rfl rfl ?_ | (refine gO ?_; first | refine sy_ov (ov_p rfl) rfl rfl ?_ | (refine sy_alloc rfl rfl rfl ?_; intro _)))
    refine sy_callE [] rfl rfl rfl (cur_new s (by omega)) ?_
    rintro _ _ (⟨hz, cb, p, q, rfl, rfl⟩ | ⟨hz, _⟩)
    · rw [hL]
      dsimp only
      simp only [curE, List.cons_append, List.nil_append]
      rename_i b2 b3
      repeat (first | refine sy_k rfl rfl ?_ | (refine gO ?_; first | refine sy_ov (ov_p rfl) rfl rfl ?_ | (refine gL ?_; refine sy_ov (ov_ld 0 rfl rfl rfl) rfl rfl ?_) | (refine gS ?_; refine sy_store 0 rfl rfl rfl rfl rfl rfl rfl rfl ?_) | refine sy_ov (ov_fieldAddr rfl rfl rfl) rfl rfl ?_ | (refine sy_alloc rfl rfl rfl ?_; intro _)) | (refine sy_cond_f rfl ?_ ?_; focus (first | with_reducible rfl | assumption | omega | (simp <;> first | omega | assumption))))
      refine sy_ov (ov_call rfl (fun w _ => default_c w)) rfl rfl ?_
      repeat (first | refine sy_k rfl rfl ?_ | (refine gO ?_; first | refine sy_ov (ov_p rfl) rfl rfl ?_ | refine sy_ov (ov_build rfl rfl rfl) rfl rfl ?_ | (refine sy_box rfl rfl rfl ?_; intro _)))
      rename_i b5 rb
      refine sy_order [2, 3, 0, 1, 4, 5] rfl rfl ?_
      simp only [List.set_cons_zero, List.set_cons_succ, List.filterMap_cons, List.filterMap_nil, List.getElem?_cons_zero, List.getElem?_cons_succ]
      refine sy_loop (α := OpSt) (fun x => [(2, ptr b2), (3, ptr b3), (5, ptr b5), (6, ptr rb)]) (fun x => rdE rb cb p q L x.c x.o x.h ++ [blk b5 55 [.int .i64 0, .int .i64 0], blk b3 55 [.int .i64 0, .int .i64 0], blk b2 85 (optV zopt)]) (OpInv L R) (opM L) ⟨⟨0, 0, 0, 0⟩, dopt, (false, false, false, false)⟩ ⟨hc0, .inr ⟨rfl, rfl, hR2⟩⟩ ⟨⟨_, rfl, rfl⟩, ⟨_, rfl, rfl⟩, ⟨_, rfl, rfl⟩, ⟨_, rfl, rfl⟩, trivial⟩ sr ?_
      rintro ⟨⟨i, d, e, a⟩, o, h⟩ ⟨hcx, hinv⟩
      dsimp only at hcx hinv ⊢
      simp only [rdE, curE, List.cons_append, List.nil_append]
      have hp := cur_peek cb p q L ⟨i, d, e, a⟩ hT hcx
      by_cases he : e = 0
      · subst he
        obtain ⟨ha, hopt⟩ : a = 0 ∧ optL (L.drop i.toNat) o (hdL h) = R := by
          rcases hinv with ⟨hne, _⟩ | ⟨_, ha, hopt⟩
          · exact absurd rfl hne
          · exact ⟨ha, hopt⟩
        subst ha
        obtain ⟨t, ht, _⟩ := hcx.get
        have ht : L[i.toNat]? = some t := ht
        have hpk := peek_at (c := ⟨i, d, 0, 0⟩) rfl ht
        rw [hpk] at hp
        by_cases t0 : t.1 = 0
        · have hRR := opt_fin hopt ht t0
          rw [hRR]
          repeat (first | refine sy_k rfl rfl ?_ | (refine gO ?_; first | refine sy_ov (ov_p rfl) rfl rfl ?_ | (refine gL ?_; refine sy_ov (ov_ld 2 rfl rfl rfl) rfl rfl ?_) | refine sy_ov (ov_fieldAddr rfl rfl rfl) rfl rfl ?_))
          refine sy_order [0, 1, 2, 3, 4, 5] rfl rfl ?_
          simp only [List.set_cons_zero, List.set_cons_succ, List.filterMap_cons, List.filterMap_nil, List.getElem?_cons_zero, List.getElem?_cons_succ]
          refine sy_callE (curE cb p q L _) rfl rfl rfl (hp) ?_
          rintro _ _ ⟨rfl, rfl⟩
          simp only [curE, List.cons_append, List.nil_append]
          repeat (first | refine sy_k rfl rfl ?_ | (refine gO ?_; first | refine sy_ov (ov_p rfl) rfl rfl ?_ | (refine gL ?_; refine sy_ov (ov_ld 2 rfl rfl rfl) rfl rfl ?_) | refine sy_ov (ov_fieldAddr rfl rfl rfl) rfl rfl ?_ | refine sy_ov (ov_field rfl rfl rfl) rfl rfl ?_) | (refine sy_cond_f rfl ?_ ?_; focus (first | with_reducible rfl | assumption | omega | (simp <;> first | omega | assumption))))
          refine sy_order [0, 1, 2, 3, 4, 5] rfl rfl ?_
          simp only [List.set_cons_zero, List.set_cons_succ, List.filterMap_cons, List.filterMap_nil, List.getElem?_cons_zero, List.getElem?_cons_succ]
          refine sy_callE (curE cb p q L _) rfl rfl rfl (cur_fault cb p q L ⟨i, d, 0, 0⟩) ?_
          rintro _ _ ⟨rfl, rfl⟩
          simp only [curE, List.cons_append, List.nil_append]
          repeat (first | refine sy_k rfl rfl ?_ | (refine gO ?_; first | refine sy_ov (ov_p rfl) rfl rfl ?_ | (refine gL ?_; refine sy_ov (ov_ld 3 rfl rfl rfl) rfl rfl ?_) | (refine gS ?_; refine sy_store 3 rfl rfl rfl rfl rfl rfl rfl rfl ?_) | refine sy_ov (ov_fieldAddr rfl rfl rfl) rfl rfl ?_) | (refine sy_cond_f rfl ?_ ?_; focus (first | with_reducible rfl | assumption | omega | (simp <;> first | omega | assumption))))
          refine sy_drawE _ 6 [(0, false), (1, false), (2, false), (3, false), (4, false), (5, true)] (by kernel_rfl) rfl (sk (sk (sk (sk (sk (sd sr)))))) ?_
          repeat (first | refine dre_rd (fun _ _ => ov_p rfl) rfl ?_ | refine dre_rd (fun _ _ => ov_ld 2 rfl rfl rfl) rfl ?_ | refine dre_rd (fun _ _ => ov_ld 3 rfl rfl rfl) rfl ?_ | refine dre_rd (fun _ _ => ov_fieldAddr rfl rfl rfl) rfl ?_ | (refine dre_ef rfl ?_; refine sy_store 5 rfl rfl rfl rfl rfl rfl rfl rfl ?_; refine dre_ek (by first | exact sr | exact sk sr | (repeat first | exact sr | apply sk | apply sd)) ?_) | refine dre_end ?_)
          repeat (first | refine sy_k rfl rfl ?_ | (refine gO ?_; (refine gS ?_; refine sy_store 4 rfl rfl rfl rfl rfl rfl rfl rfl ?_)) | refine sy_rt ?_)
          exact ret_cc 5 4 rfl rfl rfl rfl rfl rfl rfl rfl rfl rfl
        · repeat (first | refine sy_k rfl rfl ?_ | (refine gO ?_; first | refine sy_ov (ov_p rfl) rfl rfl ?_ | (refine gL ?_; refine sy_ov (ov_ld 2 rfl rfl rfl) rfl rfl ?_) | refine sy_ov (ov_fieldAddr rfl rfl rfl) rfl rfl ?_))
          refine sy_order [0, 1, 2, 3, 4, 5] rfl rfl ?_
          simp only [List.set_cons_zero, List.set_cons_succ, List.filterMap_cons, List.filterMap_nil, List.getElem?_cons_zero, List.getElem?_cons_succ]
          refine sy_callE (curE cb p q L _) rfl rfl rfl (hp) ?_
          rintro _ _ ⟨rfl, rfl⟩
          simp only [curE, List.cons_append, List.nil_append]
          repeat (first | refine sy_k rfl rfl ?_ | (refine gO ?_; first | refine sy_ov (ov_p rfl) rfl rfl ?_ | refine sy_ov (ov_field rfl rfl rfl) rfl rfl ?_) | (refine sy_cond_t rfl ?_ ?_; focus (first | with_reducible rfl | assumption | omega | (simp <;> first | omega | assumption))))
          refine sy_callE (rdE rb cb p q L ⟨i, d, 0, 0⟩ o h) rfl rfl rfl (or_part rb cb p q L i d o h R hT hcx ht t0 hopt) ?_
          rintro _ _ ⟨rfl, c', o', h', rfl, hc', hP⟩
          simp only [rdE, curE, List.cons_append, List.nil_append]
          repeat (refine sy_k rfl rfl ?_)
          have i1 := hcx.i1
          have i1' := hc'.i1
          refine sy_back ⟨c', o', h'⟩ ⟨hc', ?_⟩ ?_ ⟨⟨_, rfl, rfl⟩, ⟨_, rfl, rfl⟩, ⟨_, rfl, rfl⟩, ⟨_, rfl, rfl⟩, trivial⟩ sr
          · rcases hP with hP | ⟨h1, h2, _, h3⟩
            · exact .inl hP
            · exact .inr ⟨h1, h2, h3⟩
          · unfold opM
            dsimp only at i1 ⊢
            rcases hP with ⟨h1, _⟩ | ⟨h1, _, h2, _⟩
            · rw [if_pos h1, if_neg (fun h => h rfl)]; omega
            · rw [if_neg (fun h => h h1), if_neg (fun h => h rfl)]; omega
      · have hRR : R = (zopt, e, a) := by
          rcases hinv with ⟨_, hr⟩ | ⟨h0, _⟩
          · exact hr
          · exact absurd h0 he
        rw [peekT_bad L ⟨i, d, e, a⟩ he] at hp
        rw [hRR]
        repeat (first | refine sy_k rfl rfl ?_ | (refine gO ?_; first | refine sy_ov (ov_p rfl) rfl rfl ?_ | (refine gL ?_; refine sy_ov (ov_ld 2 rfl rfl rfl) rfl rfl ?_) | refine sy_ov (ov_fieldAddr rfl rfl rfl) rfl rfl ?_))
        refine sy_order [0, 1, 2, 3, 4, 5] rfl rfl ?_
        simp only [List.set_cons_zero, List.set_cons_succ, List.filterMap_cons, List.filterMap_nil, List.getElem?_cons_zero, List.getElem?_cons_succ]
        refine sy_callE (curE cb p q L _) rfl rfl rfl (hp) ?_
        rintro _ _ ⟨rfl, rfl⟩
        simp only [curE, List.cons_append, List.nil_append]
        repeat (first | refine sy_k rfl rfl ?_ | (refine gO ?_; first | refine sy_ov (ov_p rfl) rfl rfl ?_ | (refine gL ?_; refine sy_ov (ov_ld 2 rfl rfl rfl) rfl rfl ?_) | refine sy_ov (ov_fieldAddr rfl rfl rfl) rfl rfl ?_ | refine sy_ov (ov_field rfl rfl rfl) rfl rfl ?_) | (refine sy_cond_f rfl ?_ ?_; focus (first | with_reducible rfl | assumption | omega | (simp <;> first | omega | assumption))))
        refine sy_order [0, 1, 2, 3, 4, 5] rfl rfl ?_
        simp only [List.set_cons_zero, List.set_cons_succ, List.filterMap_cons, List.filterMap_nil, List.getElem?_cons_zero, List.getElem?_cons_succ]
        refine sy_callE (curE cb p q L _) rfl rfl rfl (cur_fault cb p q L ⟨i, d, e, a⟩) ?_
        rintro _ _ ⟨rfl, rfl⟩
        simp only [curE, List.cons_append, List.nil_append]
        repeat (first | refine sy_k rfl rfl ?_ | (refine gO ?_; first | refine sy_ov (ov_p rfl) rfl rfl ?_ | (refine gL ?_; refine sy_ov (ov_ld 3 rfl rfl rfl) rfl rfl ?_) | (refine gS ?_; refine sy_store 3 rfl rfl rfl rfl rfl rfl rfl rfl ?_) | refine sy_ov (ov_fieldAddr rfl rfl rfl) rfl rfl ?_) | (refine sy_cond_t rfl ?_ ?_; focus (first | with_reducible rfl | assumption | omega | (simp <;> first | omega | assumption))))
        refine sy_drawE _ 3 [(0, false), (1, false), (2, true)] (by kernel_rfl) rfl (sk (sk (sk (sk (sk (sd sr)))))) ?_
        repeat (first | refine dre_rd (fun _ _ => ov_ld 3 rfl rfl rfl) rfl ?_ | refine dre_rd (fun _ _ => ov_build rfl rfl rfl) rfl ?_ | (refine dre_ef rfl ?_; refine sy_store 5 rfl rfl rfl rfl rfl rfl rfl rfl ?_; refine dre_ek (by first | exact sr | exact sk sr | (repeat first | exact sr | apply sk | apply sd)) ?_) | refine dre_end ?_)
        repeat (first | refine sy_k rfl rfl ?_ | (refine gO ?_; (refine gS ?_; refine sy_store 4 rfl rfl rfl rfl rfl rfl rfl rfl ?_)) | refine sy_rt ?_)
        exact ret_cc 5 4 rfl rfl rfl rfl rfl rfl rfl rfl rfl rfl
    · rw [hL] at hz; exact absurd rfl hz
  · have hR : optP s = (zopt, e, a) := by unfold optP; rw [hL, if_pos he]
    rw [hR]
    refine sy_enter rfl rfl ?_
    simp only [initFr]
    repeat (first | refine sy_k rfl rfl ?_ | (refine gO ?_; first | refine sy_ov (ov_p rfl) rfl rfl ?_ | (refine sy_alloc rfl rfl rfl ?_; intro _)))
    refine sy_callE [] rfl rfl rfl (cur_new s (by omega)) ?_
    rintro _ _ (⟨hz, _⟩ | ⟨hz, rfl, rfl⟩)
    · rw [hL] at hz; exact absurd hz he
    · rw [hL]
      dsimp only
      simp only [List.nil_append]
      rename_i b2 b3
      repeat (first | refine sy_k rfl rfl ?_ | (refine gO ?_; first | refine sy_ov (ov_p rfl) rfl rfl ?_ | (refine gL ?_; refine sy_ov (ov_ld 0 rfl rfl rfl) rfl rfl ?_) | (refine gS ?_; refine sy_store 0 rfl rfl rfl rfl rfl rfl rfl rfl ?_) | refine sy_ov (ov_fieldAddr rfl rfl rfl) rfl rfl ?_ | (refine sy_alloc rfl rfl rfl ?_; intro _)) | (refine sy_cond_t rfl ?_ ?_; focus (first | with_reducible rfl | assumption | omega | (simp <;> first | omega | assumption))))
      refine sy_drawE _ 3 [(0, false), (1, false), (2, true)] (by kernel_rfl) rfl (sk (sk (sd sr))) ?_
      repeat (first | refine dre_rd (fun _ _ => ov_ld 0 rfl rfl rfl) rfl ?_ | refine dre_rd (fun _ _ => ov_build rfl rfl rfl) rfl ?_ | (refine dre_ef rfl ?_; refine sy_store 2 rfl rfl rfl rfl rfl rfl rfl rfl ?_; refine dre_ek (by first | exact sr | exact sk sr | (repeat first | exact sr | apply sk | apply sd)) ?_) | refine dre_end ?_)
      repeat (first | refine sy_k rfl rfl ?_ | (refine gO ?_; (refine gS ?_; refine sy_store 1 rfl rfl rfl rfl rfl rfl rfl rfl ?_)) | refine sy_rt ?_)
      exact ret_cc 2 1 rfl rfl rfl rfl rfl rfl rfl rfl rfl rfl
end Go.Proofs.Yteiejcililponaa
/- Contracts: options that may be, and their text, by the program. -/
set_option linter.unusedVariables false
set_option linter.unusedSimpArgs false
namespace Go.Proofs.Yteiejcililponaa
open Go.RowKit Bf
theorem modL_ne (m : Int) : (modL m = []) ↔ ¬ (1 ≤ m ∧ m ≤ 3) := by
  unfold modL compactL prettyL lineL
  constructor
  · intro h hm
    have : m = 1 ∨ m = 2 ∨ m = 3 := by omega
    rcases this with rfl | rfl | rfl <;> simp at h
  · intro h; rw [if_neg (by omega), if_neg (by omega), if_neg (by omega)]
set_option maxRecDepth 20000 in
set_option maxHeartbeats 4000000 in
theorem pright36_c (o : OptT) (b : Bool) (hb : optB o = b) (hlen : o.2.2.2.length ≤ 9223372036854775807) (w : World) : Calls Try.prog 74 #[.agg ⟨optV o⟩] w fun e w' => e = .returned (.bool b) ∧ Below w.heap.size w w' := by
  obtain ⟨wd, i, m, ob⟩ := o
  simp only at hlen
  subst hb
  by_cases h1 : widB wd = true
  · by_cases h2 : indB i = true
    · by_cases h3 : modL m = []
      · have hb : optB (wd, i, m, ob) = false := by
          have := (modL_ne m).1 h3
          unfold optB; simp only [h1, h2, Bool.true_and]
          have : (decide (1 ≤ m) && decide (m ≤ 3)) = false := by simp; omega
          rw [this]; rfl
        rw [hb]
        refine sy_enter rfl rfl ?_
        simp only [initFr]
        repeat (first | refine sy_k rfl rfl ?_ | (refine gO ?_; first | refine sy_ov (ov_p rfl) rfl rfl ?_ | (refine gL ?_; refine sy_ov (ov_ld 0 rfl rfl rfl) rfl rfl ?_) | refine sy_ov (ov_fieldAddr rfl rfl rfl) rfl rfl ?_ | (refine sy_box rfl rfl rfl ?_; intro _)))
        refine sy_ov (ov_call rfl (fun w _ => width36_c _ w)) rfl rfl ?_
        rw [h1]
        repeat ((refine gO ?_; first | refine sy_ov (ov_p rfl) rfl rfl ?_ | (refine gG ?_; (refine sy_guard_yes rfl rfl rfl rfl rfl ?_ ?_; focus (first | with_reducible rfl | assumption | omega | (simp <;> first | omega | assumption)))) | (refine gL ?_; refine sy_ov (ov_ld 0 rfl rfl rfl) rfl rfl ?_) | refine sy_ov (ov_fieldAddr rfl rfl rfl) rfl rfl ?_))
        refine sy_ov (ov_call rfl (fun w _ => indent36_c _ w)) rfl rfl ?_
        rw [h2]
        repeat ((refine gO ?_; first | refine sy_ov (ov_p rfl) rfl rfl ?_ | (refine gG ?_; (refine sy_guard_yes rfl rfl rfl rfl rfl ?_ ?_; focus (first | with_reducible rfl | assumption | omega | (simp <;> first | omega | assumption)))) | (refine gL ?_; refine sy_ov (ov_ld 0 rfl rfl rfl) rfl rfl ?_) | (refine sy_ov (ov_pick_t rfl rfl ?_) rfl rfl ?_; focus (with_reducible rfl)) | refine sy_ov (ov_fieldAddr rfl rfl rfl) rfl rfl ?_))
        refine sy_ov (ov_call rfl (fun w _ => name36_c _ w)) rfl rfl ?_
        rw [h3]
        repeat (first | refine sy_k rfl rfl ?_ | (refine gO ?_; first | refine sy_ov (ov_p rfl) rfl rfl ?_ | (refine gG ?_; first | refine sy_guard_undef rfl rfl rfl rfl rfl ?_ | (refine sy_guard_yes rfl rfl rfl rfl rfl ?_ ?_; focus (first | with_reducible rfl | assumption | omega | (simp <;> first | omega | assumption))) | (refine sy_guard_no rfl rfl rfl rfl rfl ?_ ?_; focus (first | with_reducible rfl | assumption | omega | (simp <;> first | omega | assumption)))) | (refine sy_ov (ov_pick_t rfl rfl ?_) rfl rfl ?_; focus (with_reducible rfl)) | refine sy_ov (ov_pick rfl rfl rfl) rfl rfl ?_) | refine sy_rt ?_)
        exact ret1 rfl rfl rfl
      · have h3' := (not_congr (modL_ne m)).1 h3
        have hm : (decide (1 ≤ m) && decide (m ≤ 3)) = true := by simp; omega
        by_cases h4 : ob = []
        · have hb : optB (wd, i, m, ob) = true := by unfold optB; simp only [h1, h2, hm, h4]; simp
          rw [hb]
          subst h4
          refine sy_enter rfl rfl ?_
          simp only [initFr]
          repeat (first | refine sy_k rfl rfl ?_ | (refine gO ?_; first | refine sy_ov (ov_p rfl) rfl rfl ?_ | (refine gL ?_; refine sy_ov (ov_ld 0 rfl rfl rfl) rfl rfl ?_) | refine sy_ov (ov_fieldAddr rfl rfl rfl) rfl rfl ?_ | (refine sy_box rfl rfl rfl ?_; intro _)))
          refine sy_ov (ov_call rfl (fun w _ => width36_c _ w)) rfl rfl ?_
          rw [h1]
          repeat ((refine gO ?_; first | refine sy_ov (ov_p rfl) rfl rfl ?_ | (refine gG ?_; (refine sy_guard_yes rfl rfl rfl rfl rfl ?_ ?_; focus (first | with_reducible rfl | assumption | omega | (simp <;> first | omega | assumption)))) | (refine gL ?_; refine sy_ov (ov_ld 0 rfl rfl rfl) rfl rfl ?_) | refine sy_ov (ov_fieldAddr rfl rfl rfl) rfl rfl ?_))
          refine sy_ov (ov_call rfl (fun w _ => indent36_c _ w)) rfl rfl ?_
          rw [h2]
          repeat ((refine gO ?_; first | refine sy_ov (ov_p rfl) rfl rfl ?_ | (refine gG ?_; (refine sy_guard_yes rfl rfl rfl rfl rfl ?_ ?_; focus (first | with_reducible rfl | assumption | omega | (simp <;> first | omega | assumption)))) | (refine gL ?_; refine sy_ov (ov_ld 0 rfl rfl rfl) rfl rfl ?_) | (refine sy_ov (ov_pick_t rfl rfl ?_) rfl rfl ?_; focus (with_reducible rfl)) | refine sy_ov (ov_fieldAddr rfl rfl rfl) rfl rfl ?_))
          refine sy_ov (ov_call rfl (fun w _ => name36_c _ w)) rfl rfl ?_
          repeat (first | refine sy_k rfl rfl ?_ | (refine gO ?_; first | refine sy_ov (ov_p rfl) rfl rfl ?_ | (refine gG ?_; first | (refine sy_guard_yes rfl rfl rfl rfl rfl ?_ ?_; focus (first | with_reducible rfl | assumption | omega | (simp <;> first | omega | assumption))) | (refine sy_guard_no rfl rfl rfl rfl rfl ?_ ?_; focus (first | with_reducible rfl | assumption | omega | (simp <;> first | omega | assumption)))) | (refine gL ?_; refine sy_ov (ov_ld 0 rfl rfl rfl) rfl rfl ?_) | (refine sy_ov (ov_pick_t rfl rfl ?_) rfl rfl ?_; focus (with_reducible rfl)) | refine sy_ov (ov_pick rfl rfl rfl) rfl rfl ?_ | refine sy_ov (ov_fieldAddr rfl rfl rfl) rfl rfl ?_) | refine sy_rt ?_)
          exact ret1 rfl rfl (by simp [h3])
        · have hb : optB (wd, i, m, ob) = namB ob := by unfold optB; simp only [h1, h2, hm, h4]; simp
          rw [hb]
          refine sy_enter rfl rfl ?_
          simp only [initFr]
          repeat (first | refine sy_k rfl rfl ?_ | (refine gO ?_; first | refine sy_ov (ov_p rfl) rfl rfl ?_ | (refine gL ?_; refine sy_ov (ov_ld 0 rfl rfl rfl) rfl rfl ?_) | refine sy_ov (ov_fieldAddr rfl rfl rfl) rfl rfl ?_ | (refine sy_box rfl rfl rfl ?_; intro _)))
          refine sy_ov (ov_call rfl (fun w _ => width36_c _ w)) rfl rfl ?_
          rw [h1]
          repeat ((refine gO ?_; first | refine sy_ov (ov_p rfl) rfl rfl ?_ | (refine gG ?_; (refine sy_guard_yes rfl rfl rfl rfl rfl ?_ ?_; focus (first | with_reducible rfl | assumption | omega | (simp <;> first | omega | assumption)))) | (refine gL ?_; refine sy_ov (ov_ld 0 rfl rfl rfl) rfl rfl ?_) | refine sy_ov (ov_fieldAddr rfl rfl rfl) rfl rfl ?_))
          refine sy_ov (ov_call rfl (fun w _ => indent36_c _ w)) rfl rfl ?_
          rw [h2]
          repeat ((refine gO ?_; first | refine sy_ov (ov_p rfl) rfl rfl ?_ | (refine gG ?_; (refine sy_guard_yes rfl rfl rfl rfl rfl ?_ ?_; focus (first | with_reducible rfl | assumption | omega | (simp <;> first | omega | assumption)))) | (refine gL ?_; refine sy_ov (ov_ld 0 rfl rfl rfl) rfl rfl ?_) | (refine sy_ov (ov_pick_t rfl rfl ?_) rfl rfl ?_; focus (with_reducible rfl)) | refine sy_ov (ov_fieldAddr rfl rfl rfl) rfl rfl ?_))
          refine sy_ov (ov_call rfl (fun w _ => name36_c _ w)) rfl rfl ?_
          repeat ((refine gO ?_; first | refine sy_ov (ov_p rfl) rfl rfl ?_ | (refine gG ?_; (refine sy_guard_yes rfl rfl rfl rfl rfl ?_ ?_; focus (first | with_reducible rfl | assumption | omega | (simp <;> first | omega | assumption)))) | (refine gL ?_; refine sy_ov (ov_ld 0 rfl rfl rfl) rfl rfl ?_) | (refine sy_ov (ov_pick_t rfl rfl ?_) rfl rfl ?_; focus (with_reducible rfl)) | refine sy_ov (ov_fieldAddr rfl rfl rfl) rfl rfl ?_))
          refine sy_ov (ov_call rfl (fun w _ => right_c ob _ rfl (by omega) w)) rfl rfl ?_
          repeat (first | refine sy_k rfl rfl ?_ | (refine gO ?_; first | refine sy_ov (ov_p rfl) rfl rfl ?_ | (refine gG ?_; (refine sy_guard_yes rfl rfl rfl rfl rfl ?_ ?_; focus (first | with_reducible rfl | assumption | omega | (simp <;> first | omega | assumption)))) | (refine sy_ov (ov_pick_t rfl rfl ?_) rfl rfl ?_; focus (with_reducible rfl)) | (refine sy_ov (ov_pick_f rfl rfl ?_) rfl rfl ?_; focus (with_reducible rfl))) | refine sy_rt ?_)
          exact ret1 rfl rfl (by simp [h4])
    · have h2 : indB i = false := by simpa using h2
      have hb : optB (wd, i, m, ob) = false := by unfold optB; simp only [h1, h2]; simp
      rw [hb]
      refine sy_enter rfl rfl ?_
      simp only [initFr]
      repeat (first | refine sy_k rfl rfl ?_ | (refine gO ?_; first | refine sy_ov (ov_p rfl) rfl rfl ?_ | (refine gL ?_; refine sy_ov (ov_ld 0 rfl rfl rfl) rfl rfl ?_) | refine sy_ov (ov_fieldAddr rfl rfl rfl) rfl rfl ?_ | (refine sy_box rfl rfl rfl ?_; intro _)))
      refine sy_ov (ov_call rfl (fun w _ => width36_c _ w)) rfl rfl ?_
      rw [h1]
      repeat ((refine gO ?_; first | refine sy_ov (ov_p rfl) rfl rfl ?_ | (refine gG ?_; (refine sy_guard_yes rfl rfl rfl rfl rfl ?_ ?_; focus (first | with_reducible rfl | assumption | omega | (simp <;> first | omega | assumption)))) | (refine gL ?_; refine sy_ov (ov_ld 0 rfl rfl rfl) rfl rfl ?_) | refine sy_ov (ov_fieldAddr rfl rfl rfl) rfl rfl ?_))
      refine sy_ov (ov_call rfl (fun w _ => indent36_c _ w)) rfl rfl ?_
      rw [h2]
      repeat (first | refine sy_k rfl rfl ?_ | (refine gO ?_; first | refine sy_ov (ov_p rfl) rfl rfl ?_ | (refine gG ?_; first | refine sy_guard_undef rfl rfl rfl rfl rfl ?_ | (refine sy_guard_no rfl rfl rfl rfl rfl ?_ ?_; focus (first | with_reducible rfl | assumption | omega | (simp <;> first | omega | assumption)))) | (refine sy_ov (ov_pick_t rfl rfl ?_) rfl rfl ?_; focus (with_reducible rfl)) | refine sy_ov (ov_pick rfl rfl rfl) rfl rfl ?_) | refine sy_rt ?_)
      exact ret1 rfl rfl rfl
  · have h1 : widB wd = false := by simpa using h1
    have hb : optB (wd, i, m, ob) = false := by unfold optB; simp only [h1]; simp
    rw [hb]
    refine sy_enter rfl rfl ?_
    simp only [initFr]
    repeat (first | refine sy_k rfl rfl ?_ | (refine gO ?_; first | refine sy_ov (ov_p rfl) rfl rfl ?_ | (refine gL ?_; refine sy_ov (ov_ld 0 rfl rfl rfl) rfl rfl ?_) | refine sy_ov (ov_fieldAddr rfl rfl rfl) rfl rfl ?_ | (refine sy_box rfl rfl rfl ?_; intro _)))
    refine sy_ov (ov_call rfl (fun w _ => width36_c _ w)) rfl rfl ?_
    rw [h1]
    repeat (first | refine sy_k rfl rfl ?_ | (refine gO ?_; first | refine sy_ov (ov_p rfl) rfl rfl ?_ | (refine gG ?_; first | refine sy_guard_undef rfl rfl rfl rfl rfl ?_ | (refine sy_guard_no rfl rfl rfl rfl rfl ?_ ?_; focus (first | with_reducible rfl | assumption | omega | (simp <;> first | omega | assumption)))) | refine sy_ov (ov_pick rfl rfl rfl) rfl rfl ?_) | refine sy_rt ?_)
    exact ret1 rfl rfl rfl
set_option maxRecDepth 20000 in
set_option maxHeartbeats 4000000 in
theorem pformat36_c (o : OptT) (hlen : o.2.2.2.length ≤ 9223372036854775807) (w : World) : Calls Try.prog 75 #[.agg ⟨optV o⟩] w fun e w' => e = .returned (S (if optB o = true then fmtO o else [])) ∧ Below w.heap.size w w' := by
  by_cases hb : optB o = true
  · rw [if_pos hb]
    have hl := fmtO_len o hb
    have hr := fun w => pright36_c o true hb hlen w
    obtain ⟨wd, i, m, ob⟩ := o
    have hb' := hb
    unfold optB widB indB at hb'
    simp only [Bool.and_eq_true, Bool.or_eq_true, decide_eq_true_eq] at hb'
    have h1 := putL_len wd (by omega)
    have h2 := putL_len i (by omega)
    have h3 : (modL m).length ≤ 7 := by unfold modL; split <;> (try split) <;> (try split) <;> decide
    have hf : fmtO (wd, i, m, ob) = [119, 105, 100, 116, 104, 61] ++ putL wd ++ [32, 105, 110, 100, 101, 110, 116, 61] ++ putL i ++ [32, 109, 111, 100, 101, 61] ++ modL m ++ tailO ob := by
      unfold fmtO widthL' indentL modeL; simp
    have hob : ob.length ≤ 32 := by
      rcases hb'.2 with h | h
      · rw [h]; decide
      · unfold namB at h; simp only [Bool.and_eq_true, decide_eq_true_eq] at h; exact h.2
    by_cases h4 : ob = []
    · subst h4
      refine sy_enter rfl rfl ?_
      simp only [initFr]
      repeat (first | refine sy_k rfl rfl ?_ | (refine gO ?_; first | refine sy_ov (ov_p rfl) rfl rfl ?_ | (refine gL ?_; refine sy_ov (ov_ld 0 rfl rfl rfl) rfl rfl ?_) | (refine sy_box rfl rfl rfl ?_; intro _)))
      refine sy_ov (ov_call rfl (fun w _ => hr w)) rfl rfl ?_
      repeat (first | refine sy_k rfl rfl ?_ | (refine gO ?_; refine sy_ov (ov_p rfl) rfl rfl ?_) | (refine sy_cond_f rfl ?_ ?_; focus (first | with_reducible rfl | assumption | omega | (simp <;> first | omega | assumption))))
      refine sy_draw 13 (by kernel_rfl) ?_
      repeat (first | refine dr_op (ov_ld 0 rfl rfl rfl) rfl rfl ?_ | refine dr_op (ov_fieldAddr rfl rfl rfl) rfl rfl ?_)
      refine dr_op (ov_call rfl (fun w _ => put_c wd _ rfl (by omega) (by omega) w)) rfl rfl ?_
      repeat (first | (refine dr_op (ov_cat rfl rfl ?_) rfl rfl ?_; focus (first | omega | (simp <;> omega))) | refine dr_op (ov_ld 0 rfl rfl rfl) rfl rfl ?_ | refine dr_op (ov_fieldAddr rfl rfl rfl) rfl rfl ?_)
      refine dr_op (ov_call rfl (fun w _ => put_c i _ rfl (by omega) (by omega) w)) rfl rfl ?_
      repeat (first | (refine dr_op (ov_cat rfl rfl ?_) rfl rfl ?_; focus (first | omega | (simp <;> omega))) | refine dr_op (ov_ld 0 rfl rfl rfl) rfl rfl ?_ | refine dr_op (ov_fieldAddr rfl rfl rfl) rfl rfl ?_)
      refine dr_op (ov_call rfl (fun w _ => name36_c m w)) rfl rfl ?_
      repeat (refine dr_end ?_)
      repeat (first | refine sy_k rfl rfl ?_ | (refine gO ?_; first | refine sy_ov (ov_p rfl) rfl rfl ?_ | (refine gB ?_; (refine sy_ov (ov_cat rfl rfl ?_) rfl rfl ?_; focus (first | omega | (simp <;> omega)))) | (refine gL ?_; refine sy_ov (ov_ld 0 rfl rfl rfl) rfl rfl ?_) | refine sy_ov (ov_fieldAddr rfl rfl rfl) rfl rfl ?_) | (refine sy_cond_f rfl ?_ ?_; focus (first | with_reducible rfl | assumption | omega | (simp <;> first | omega | assumption))) | refine sy_rt ?_)
      exact ret1 rfl rfl (by rw [hf]; simp [tailO])
    · refine sy_enter rfl rfl ?_
      simp only [initFr]
      repeat (first | refine sy_k rfl rfl ?_ | (refine gO ?_; first | refine sy_ov (ov_p rfl) rfl rfl ?_ | (refine gL ?_; refine sy_ov (ov_ld 0 rfl rfl rfl) rfl rfl ?_) | (refine sy_box rfl rfl rfl ?_; intro _)))
      refine sy_ov (ov_call rfl (fun w _ => hr w)) rfl rfl ?_
      repeat (first | refine sy_k rfl rfl ?_ | (refine gO ?_; refine sy_ov (ov_p rfl) rfl rfl ?_) | (refine sy_cond_f rfl ?_ ?_; focus (first | with_reducible rfl | assumption | omega | (simp <;> first | omega | assumption))))
      refine sy_draw 13 (by kernel_rfl) ?_
      repeat (first | refine dr_op (ov_ld 0 rfl rfl rfl) rfl rfl ?_ | refine dr_op (ov_fieldAddr rfl rfl rfl) rfl rfl ?_)
      refine dr_op (ov_call rfl (fun w _ => put_c wd _ rfl (by omega) (by omega) w)) rfl rfl ?_
      repeat (first | (refine dr_op (ov_cat rfl rfl ?_) rfl rfl ?_; focus (first | omega | (simp <;> omega))) | refine dr_op (ov_ld 0 rfl rfl rfl) rfl rfl ?_ | refine dr_op (ov_fieldAddr rfl rfl rfl) rfl rfl ?_)
      refine dr_op (ov_call rfl (fun w _ => put_c i _ rfl (by omega) (by omega) w)) rfl rfl ?_
      repeat (first | (refine dr_op (ov_cat rfl rfl ?_) rfl rfl ?_; focus (first | omega | (simp <;> omega))) | refine dr_op (ov_ld 0 rfl rfl rfl) rfl rfl ?_ | refine dr_op (ov_fieldAddr rfl rfl rfl) rfl rfl ?_)
      refine dr_op (ov_call rfl (fun w _ => name36_c m w)) rfl rfl ?_
      repeat (refine dr_end ?_)
      repeat (first | refine sy_k rfl rfl ?_ | (refine gO ?_; first | refine sy_ov (ov_p rfl) rfl rfl ?_ | (refine gB ?_; (refine sy_ov (ov_cat rfl rfl ?_) rfl rfl ?_; focus (first | omega | (simp <;> omega)))) | (refine gL ?_; refine sy_ov (ov_ld 0 rfl rfl rfl) rfl rfl ?_) | refine sy_ov (ov_fieldAddr rfl rfl rfl) rfl rfl ?_) | (refine sy_cond_t rfl ?_ ?_; focus (first | with_reducible rfl | assumption | omega | (simp <;> first | omega | assumption))) | refine sy_rt ?_)
      exact ret1 rfl rfl (by rw [hf]; simp [tailO, h4, obsL])
  · rw [if_neg hb]
    have hb : optB o = false := by simpa using hb
    have hr := fun w => pright36_c o false hb hlen w
    refine sy_enter rfl rfl ?_
    simp only [initFr]
    repeat (first | refine sy_k rfl rfl ?_ | (refine gO ?_; first | refine sy_ov (ov_p rfl) rfl rfl ?_ | (refine gL ?_; refine sy_ov (ov_ld 0 rfl rfl rfl) rfl rfl ?_) | (refine sy_box rfl rfl rfl ?_; intro _)))
    refine sy_ov (ov_call rfl (fun w _ => hr w)) rfl rfl ?_
    repeat (first | refine sy_k rfl rfl ?_ | (refine gO ?_; refine sy_ov (ov_p rfl) rfl rfl ?_) | (refine sy_cond_t rfl ?_ ?_; focus (first | with_reducible rfl | assumption | omega | (simp <;> first | omega | assumption))) | refine sy_rt ?_)
    exact ret1 rfl rfl rfl
end Go.Proofs.Yteiejcililponaa
/- The walk of blindfoldlaw36.OptionsBack. -/
set_option linter.unusedVariables false
set_option linter.unusedSimpArgs false
namespace Go.Proofs.Yteiejcililponaa
open Go.RowKit Bf
instance : KS Try.prog 85 [.i .i64, .i .i64, .i .i64, .s] := ⟨by kernel_rfl, by kernel_rfl, by kernel_rfl⟩
theorem eqL_opt (o : OptT) : eqL (optV o) (optV o) = true := by simp [eqL, eqC, optV]
theorem eqL_f0 : eqL [.int .i64 0, .int .i64 0] [.int .i64 0, .int .i64 0] = true := by simp [eqL, eqC]
def live36 : List UInt8 := [119, 105, 100, 116, 104, 61, 52, 48, 32, 109, 111, 100, 101, 61, 108, 105, 110, 101]
theorem scan36 : scanR live36 = ([(1, 0, 5, widthL', 0), (4, 5, 6, [61], 0), (2, 6, 8, [], 40), (1, 9, 13, modeL, 0), (4, 13, 14, [61], 0), (1, 14, 18, lineL, 0), (0, 18, 18, [], 0)], 0, 0) :=
  scanR_of (by decide) 40 (by kernel_rfl)
theorem optP36 : optP live36 = ((40, 2, 3, []), 0, 0) := by unfold optP; rw [scan36]; rfl
set_option maxRecDepth 20000 in
theorem lives36_c (w : World) : Calls Try.prog 62 #[] w fun e w' => e = .returned (.bool true) ∧ Below w.heap.size w w' := by
  have hp := fun w => popt_c live36 (by decide) w
  rw [optP36] at hp
  refine sy_enter (args := []) rfl rfl ?_
  simp only [initFr]
  repeat (first | refine sy_k rfl rfl ?_ | (refine gO ?_; refine sy_ov (ov_p rfl) rfl rfl ?_))
  refine sy_ov (ov_call rfl (fun w _ => hp w)) rfl rfl ?_
  repeat (first | refine sy_k rfl rfl ?_ | (refine gO ?_; first | refine sy_ov (ov_p rfl) rfl rfl ?_ | (refine gL ?_; refine sy_ov (ov_ld 0 rfl rfl rfl) rfl rfl ?_) | (refine gS ?_; first | refine sy_store 0 rfl rfl rfl rfl rfl rfl rfl rfl ?_ | refine sy_store 1 rfl rfl rfl rfl rfl rfl rfl rfl ?_) | refine sy_ov (ov_build rfl rfl rfl) rfl rfl ?_ | (refine sy_alloc rfl rfl rfl ?_; intro _)))
  refine sy_ov (ov_eqst (xs := [.int .i64 0, .int .i64 0]) (ys := [.int .i64 0, .int .i64 0]) rfl rfl rfl rfl) rfl rfl ?_
  rw [eqL_f0]
  repeat ((refine gO ?_; first | refine sy_ov (ov_p rfl) rfl rfl ?_ | (refine gG ?_; (refine sy_guard_yes rfl rfl rfl rfl rfl ?_ ?_; focus (first | with_reducible rfl | assumption | omega | (simp <;> first | omega | assumption)))) | (refine gL ?_; refine sy_ov (ov_ld 1 rfl rfl rfl) rfl rfl ?_) | refine sy_ov (ov_build rfl rfl rfl) rfl rfl ?_))
  refine sy_ov (ov_eqst (xs := (optV (40, 2, 3, []))) (ys := (optV (40, 2, 3, []))) rfl rfl rfl rfl) rfl rfl ?_
  rw [eqL_opt]
  repeat (first | refine sy_k rfl rfl ?_ | (refine gO ?_; first | refine sy_ov (ov_p rfl) rfl rfl ?_ | (refine sy_ov (ov_pick_t rfl rfl ?_) rfl rfl ?_; focus (with_reducible rfl))) | refine sy_rt ?_)
  exact ret1 rfl rfl rfl
end Go.Proofs.Yteiejcililponaa
