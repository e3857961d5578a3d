/- Contracts of the document's cursor. -/
import Derived.Test.YteiejcililponaaBCX
import Derived.Test.YteiejcililponaaBRC
import Derived.Test.YteiejcililponaaBRC
import Derived.Test.YteiejcililponaaBEX
set_option linter.unusedVariables false
set_option linter.unusedSimpArgs false
namespace Go.Proofs.Yteiejcililponaa
open Go.RowKit Bf
abbrev vecE (g q : Nat) (l : List TokT) : En := vec 64 5 (.slice (some ⟨g, 0, none⟩) l.length q) l.length (l.flatMap tokV)
/-- The document's cursor: the tokens that are left, the depth, what is wrong. -/
abbrev refV (g q : Nat) (l : List TokT) (c : CurT) : List Value := [.slice (some ⟨g, c.i.toNat * 5, none⟩) (l.length - c.i.toNat) (q - c.i.toNat), .int .i64 c.d, .int .i64 c.e, .int .i64 c.a]
abbrev RefCalls (f : FuncId) (args : List Value) (g q : Nat) (l : List TokT) (v : Value) : Prop := CallsE Try.prog f args [vecE g q l] fun u es' => u = v ∧ es' = [vecE g q l]
set_option maxRecDepth 20000 in
theorem rc_peek (g q : Nat) (l : List TokT) (c : CurT) (hl : TokOk l) (hc : CurOk l c) : RefCalls 58 [.agg ⟨refV g q l c⟩] g q l (.agg ⟨tokV (peekT l c)⟩) := by
  have i0 := hc.i0
  have i1 := hc.i1
  by_cases he : c.e = 0
  · obtain ⟨t, ht, hg⟩ := hc.get
    rw [peekT_ok l c he, hg]
    refine sy_enterE rfl rfl (fun w => ?_)
    simp only [initFr]
    repeat (first | refine sy_k rfl rfl ?_ | (refine gO ?_; first | refine sy_ov (ov_p rfl) rfl rfl ?_ | (refine gL ?_; refine sy_ov (ov_ld 1 rfl rfl rfl) rfl rfl ?_) | refine sy_ov (ov_fieldAddr rfl rfl rfl) rfl rfl ?_ | (refine sy_ov (ov_indexAddr rfl rfl ?_ ?_) rfl rfl ?_; omega; omega) | (refine sy_box rfl rfl rfl ?_; intro _) | (refine sy_alloc rfl rfl rfl ?_; intro _)) | (refine sy_cond_f rfl ?_ ?_; focus (first | with_reducible rfl | assumption | omega | (simp <;> first | omega | assumption))))
    refine sy_ov (ov_loadva 2 (vs := tokV t) rfl rfl rfl rfl (fun j u hj => flat_get tokV 5 (fun _ => rfl) l _ t ht j u hj)) rfl rfl ?_
    repeat (first | refine sy_k rfl rfl ?_ | (refine gO ?_; (refine gS ?_; refine sy_store 0 rfl rfl rfl rfl rfl rfl rfl rfl ?_)) | refine sy_rt ?_)
    exact ret1cw 0 rfl rfl rfl rfl rfl fun w' hw' => postE hw' _ (sub_self (by repeat first | exact sr | apply sk | apply sd)) rfl ⟨rfl, rfl⟩
  · rw [peekT_bad l c he]
    refine sy_enterE rfl rfl (fun w => ?_)
    simp only [initFr]
    repeat (first | refine sy_k rfl rfl ?_ | (refine gO ?_; first | refine sy_ov (ov_p rfl) rfl rfl ?_ | (refine gL ?_; refine sy_ov (ov_ld 1 rfl rfl rfl) rfl rfl ?_) | (refine gS ?_; refine sy_store 0 rfl rfl rfl rfl rfl rfl rfl rfl ?_) | refine sy_ov (ov_fieldAddr rfl rfl rfl) rfl rfl ?_ | refine sy_ov (ov_build rfl rfl rfl) rfl rfl ?_ | (refine sy_box rfl rfl rfl ?_; intro _) | (refine sy_alloc rfl rfl rfl ?_; intro _)) | (refine sy_cond_t rfl ?_ ?_; focus (first | with_reducible rfl | assumption | omega | (simp <;> first | omega | assumption))) | refine sy_rt ?_)
    exact ret1cw 0 rfl rfl rfl rfl rfl fun w' hw' => postE hw' _ (sub_self (by repeat first | exact sr | apply sk | apply sd)) rfl ⟨rfl, rfl⟩
theorem refV_step (g q : Nat) (l : List TokT) (i d e a : Int) (i0 : 0 ≤ i) : refV g q l ⟨i + 1, d, e, a⟩ = [.slice (some ⟨g, i.toNat * 5 + 1 * 5, none⟩) (l.length - i.toNat - 1) (q - i.toNat - 1), .int .i64 d, .int .i64 e, .int .i64 a] := by
  have h1 : (i + 1).toNat = i.toNat + 1 := by omega
  show [Value.slice (some ⟨g, (i + 1).toNat * 5, none⟩) (l.length - (i + 1).toNat) (q - (i + 1).toNat), _, _, _] = _
  rw [h1, Nat.add_mul, show l.length - (i.toNat + 1) = l.length - i.toNat - 1 by omega, show q - (i.toNat + 1) = q - i.toNat - 1 by omega]
set_option maxRecDepth 20000 in
theorem rc_next (g q : Nat) (l : List TokT) (c : CurT) (hl : TokOk l) (hc : CurOk l c) : RefCalls 106 [.agg ⟨refV g q l c⟩] g q l (.agg ⟨refV g q l (nextT l c)⟩) := by
  have i0 := hc.i0
  have i1 := hc.i1
  by_cases he : c.e = 0
  · obtain ⟨t, ht, hg⟩ := hc.get
    by_cases h0 : t.1 = 0
    · have hn : nextT l c = c := by unfold nextT; rw [peekT_ok l c he, hg, if_pos h0]
      rw [hn]
      refine sy_enterE rfl rfl (fun w => ?_)
      simp only [initFr]
      repeat (first | refine sy_k rfl rfl ?_ | (refine gO ?_; first | refine sy_ov (ov_p rfl) rfl rfl ?_ | (refine gG ?_; (refine sy_guard_yes rfl rfl rfl rfl rfl ?_ ?_; focus (first | with_reducible rfl | assumption | omega | (simp <;> first | omega | assumption)))) | (refine gL ?_; refine sy_ov (ov_ld 1 rfl rfl rfl) rfl rfl ?_) | refine sy_ov (ov_fieldAddr rfl rfl rfl) rfl rfl ?_ | (refine sy_ov (ov_indexAddr rfl rfl ?_ ?_) rfl rfl ?_; omega; omega) | (refine sy_box rfl rfl rfl ?_; intro _) | (refine sy_alloc rfl rfl rfl ?_; intro _)))
      refine sy_ov (ov_loadv 2 (v := .int .i64 t.1) rfl rfl rfl (flat_get tokV 5 (fun _ => rfl) l _ t ht 0 _ rfl)) rfl rfl ?_
      repeat (first | refine sy_k rfl rfl ?_ | (refine gO ?_; first | refine sy_ov (ov_p rfl) rfl rfl ?_ | (refine gG ?_; (refine sy_guard_yes rfl rfl rfl rfl rfl ?_ ?_; focus (first | with_reducible rfl | assumption | omega | (simp <;> first | omega | assumption)))) | (refine gL ?_; refine sy_ov (ov_ld 1 rfl rfl rfl) rfl rfl ?_) | (refine gS ?_; refine sy_store 0 rfl rfl rfl rfl rfl rfl rfl rfl ?_) | (refine sy_ov (ov_pick_f rfl rfl ?_) rfl rfl ?_; focus (with_reducible rfl))) | (refine sy_cond_t rfl ?_ ?_; focus (first | with_reducible rfl | assumption | omega | (simp <;> first | omega | assumption))) | refine sy_rt ?_)
      exact ret1cw 0 rfl rfl rfl rfl rfl fun w' hw' => postE hw' _ (sub_self (by repeat first | exact sr | apply sk | apply sd)) rfl ⟨rfl, rfl⟩
    · have hn : nextT l c = ⟨c.i + 1, c.d, c.e, c.a⟩ := by unfold nextT; rw [peekT_ok l c he, hg, if_neg h0]
      rw [hn, refV_step g q l c.i c.d c.e c.a i0]
      have hf := (not_congr (hl.fin _ t ht)).1 h0
      refine sy_enterE rfl rfl (fun w => ?_)
      simp only [initFr]
      refine sy_vecCap 0 rfl fun hq => ?_
      repeat (first | refine sy_k rfl rfl ?_ | (refine gO ?_; first | refine sy_ov (ov_p rfl) rfl rfl ?_ | (refine gG ?_; (refine sy_guard_yes rfl rfl rfl rfl rfl ?_ ?_; focus (first | with_reducible rfl | assumption | omega | (simp <;> first | omega | assumption)))) | (refine gL ?_; refine sy_ov (ov_ld 1 rfl rfl rfl) rfl rfl ?_) | refine sy_ov (ov_fieldAddr rfl rfl rfl) rfl rfl ?_ | (refine sy_ov (ov_indexAddr rfl rfl ?_ ?_) rfl rfl ?_; omega; omega) | (refine sy_box rfl rfl rfl ?_; intro _) | (refine sy_alloc rfl rfl rfl ?_; intro _)))
      refine sy_ov (ov_loadv 2 (v := .int .i64 t.1) rfl rfl rfl (flat_get tokV 5 (fun _ => rfl) l _ t ht 0 _ rfl)) rfl rfl ?_
      repeat (first | refine sy_k rfl rfl ?_ | (refine gO ?_; first | refine sy_ov (ov_p rfl) rfl rfl ?_ | (refine gG ?_; (refine sy_guard_yes rfl rfl rfl rfl rfl ?_ ?_; focus (first | with_reducible rfl | assumption | omega | (simp <;> first | omega | assumption)))) | (refine sy_ov (ov_pick_f rfl rfl ?_) rfl rfl ?_; focus (with_reducible rfl))) | (refine sy_cond_f rfl ?_ ?_; focus (first | with_reducible rfl | assumption | omega | (simp <;> first | omega | assumption))))
      refine sy_draw 7 (by kernel_rfl) ?_
      repeat (first | refine dr_op (ov_ld 1 rfl rfl rfl) rfl rfl ?_ | refine dr_op (ov_fieldAddr rfl rfl rfl) rfl rfl ?_)
      refine dr_op (ov_slLo rfl rfl (by decide) ?_ ?_) rfl rfl ?_
      focus omega
      focus omega
      repeat (first | refine dr_op (ov_ld 1 rfl rfl rfl) rfl rfl ?_ | refine dr_op (ov_fieldAddr rfl rfl rfl) rfl rfl ?_ | refine dr_end ?_)
      repeat (first | refine sy_k rfl rfl ?_ | (refine gO ?_; first | (refine gS ?_; refine sy_store 0 rfl rfl rfl rfl rfl rfl rfl rfl ?_) | refine sy_ov (ov_build rfl rfl rfl) rfl rfl ?_) | refine sy_rt ?_)
      exact ret1cw 0 rfl rfl rfl rfl rfl fun w' hw' => postE hw' _ (sub_self (by repeat first | exact sr | apply sk | apply sd)) rfl ⟨rfl, rfl⟩
  · have hn : nextT l c = c := by unfold nextT; rw [peekT_bad l c he]; rfl
    rw [hn]
    refine sy_enterE rfl rfl (fun w => ?_)
    simp only [initFr]
    repeat (first | refine sy_k rfl rfl ?_ | (refine gO ?_; first | refine sy_ov (ov_p rfl) rfl rfl ?_ | (refine gG ?_; (refine sy_guard_no rfl rfl rfl rfl rfl ?_ ?_; focus (first | with_reducible rfl | assumption | omega | (simp <;> first | omega | assumption)))) | (refine gL ?_; refine sy_ov (ov_ld 1 rfl rfl rfl) rfl rfl ?_) | (refine gS ?_; refine sy_store 0 rfl rfl rfl rfl rfl rfl rfl rfl ?_) | refine sy_ov (ov_pick rfl rfl rfl) rfl rfl ?_ | refine sy_ov (ov_fieldAddr rfl rfl rfl) rfl rfl ?_ | (refine sy_box rfl rfl rfl ?_; intro _) | (refine sy_alloc rfl rfl rfl ?_; intro _)) | (refine sy_cond_t rfl ?_ ?_; focus (first | with_reducible rfl | assumption | omega | (simp <;> first | omega | assumption))) | refine sy_rt ?_)
    exact ret1cw 0 rfl rfl rfl rfl rfl fun w' hw' => postE hw' _ (sub_self (by repeat first | exact sr | apply sk | apply sd)) rfl ⟨rfl, rfl⟩
set_option maxRecDepth 20000 in
theorem rc_fail (g q : Nat) (l : List TokT) (c : CurT) (e a : Int) : RefCalls 108 [.agg ⟨refV g q l c⟩, .int .i64 e, .int .i64 a] g q l (.agg ⟨refV g q l (failAtT c e a)⟩) := by
  by_cases he : c.e = 0
  · by_cases h0 : e = 0
    · rw [show failAtT c e a = c from if_neg (fun h => h.2 h0)]
      refine sy_enterE rfl rfl (fun w => ?_)
      simp only [initFr]
      repeat (first | refine sy_k rfl rfl ?_ | (refine gO ?_; first | refine sy_ov (ov_p rfl) rfl rfl ?_ | (refine gL ?_; refine sy_ov (ov_ld 1 rfl rfl rfl) rfl rfl ?_) | (refine gS ?_; refine sy_store 0 rfl rfl rfl rfl rfl rfl rfl rfl ?_) | refine sy_ov (ov_fieldAddr rfl rfl rfl) rfl rfl ?_ | (refine sy_box rfl rfl rfl ?_; intro _) | (refine sy_alloc rfl rfl rfl ?_; intro _)) | (refine sy_cond_t rfl ?_ ?_; focus (first | with_reducible rfl | assumption | omega | (simp <;> first | omega | assumption))) | (refine sy_cond_f rfl ?_ ?_; focus (first | with_reducible rfl | assumption | omega | (simp <;> first | omega | assumption))) | refine sy_rt ?_)
      exact ret1cw 0 rfl rfl rfl rfl rfl fun w' hw' => postE hw' _ (sub_self (by repeat first | exact sr | apply sk | apply sd)) rfl ⟨rfl, rfl⟩
    · rw [show failAtT c e a = ⟨c.i, c.d, e, a⟩ from if_pos ⟨he, h0⟩]
      refine sy_enterE rfl rfl (fun w => ?_)
      simp only [initFr]
      repeat (first | refine sy_k rfl rfl ?_ | (refine gO ?_; first | refine sy_ov (ov_p rfl) rfl rfl ?_ | (refine gL ?_; refine sy_ov (ov_ld 1 rfl rfl rfl) rfl rfl ?_) | (refine gS ?_; refine sy_store 0 rfl rfl rfl rfl rfl rfl rfl rfl ?_) | refine sy_ov (ov_fieldAddr rfl rfl rfl) rfl rfl ?_ | refine sy_ov (ov_build rfl rfl rfl) rfl rfl ?_ | (refine sy_box rfl rfl rfl ?_; intro _) | (refine sy_alloc rfl rfl rfl ?_; intro _)) | (refine sy_cond_f rfl ?_ ?_; focus (first | with_reducible rfl | assumption | omega | (simp <;> first | omega | assumption))) | refine sy_rt ?_)
      exact ret1cw 0 rfl rfl rfl rfl rfl fun w' hw' => postE hw' _ (sub_self (by repeat first | exact sr | apply sk | apply sd)) rfl ⟨rfl, rfl⟩
  · rw [show failAtT c e a = c from if_neg (fun h => he h.1)]
    refine sy_enterE rfl rfl (fun w => ?_)
    simp only [initFr]
    repeat (first | refine sy_k rfl rfl ?_ | (refine gO ?_; first | refine sy_ov (ov_p rfl) rfl rfl ?_ | (refine gL ?_; refine sy_ov (ov_ld 1 rfl rfl rfl) rfl rfl ?_) | (refine gS ?_; refine sy_store 0 rfl rfl rfl rfl rfl rfl rfl rfl ?_) | refine sy_ov (ov_fieldAddr rfl rfl rfl) rfl rfl ?_ | (refine sy_box rfl rfl rfl ?_; intro _) | (refine sy_alloc rfl rfl rfl ?_; intro _)) | (refine sy_cond_t rfl ?_ ?_; focus (first | with_reducible rfl | assumption | omega | (simp <;> first | omega | assumption))) | refine sy_rt ?_)
    exact ret1cw 0 rfl rfl rfl rfl rfl fun w' hw' => postE hw' _ (sub_self (by repeat first | exact sr | apply sk | apply sd)) rfl ⟨rfl, rfl⟩
/-- What the document's Take answers. -/
def rtakT (l : List TokT) (c : CurT) (k : Int) (t : List UInt8) (any : Bool) : Bool := decide ((peekT l c).1 = k) && (any || decide ((peekT l c).2.2.2.1 = t))
set_option maxRecDepth 20000 in
theorem rc_take (g q : Nat) (l : List TokT) (c : CurT) (hl : TokOk l) (hc : CurOk l c) (k : Int) (t : List UInt8) (any : Bool) : RefCalls 107 [.agg ⟨refV g q l c⟩, .int .i64 k, S t, .bool any] g q l (.tuple #[.agg ⟨refV g q l (goT l c (rtakT l c k t any))⟩, .bool (rtakT l c k t any)]) := by
  by_cases h0 : (peekT l c).1 = k
  · by_cases h1 : any = true
    · have h2 : True := trivial
      have hr : rtakT l c k t any = true := by
        unfold rtakT; simp [h0, h1, h2]
      rw [hr]
      refine sy_enterE rfl rfl (fun w => ?_)
      simp only [initFr]
      repeat (first | refine sy_k rfl rfl ?_ | (refine gO ?_; first | refine sy_ov (ov_p rfl) rfl rfl ?_ | (refine gL ?_; refine sy_ov (ov_ld 1 rfl rfl rfl) rfl rfl ?_) | (refine sy_box rfl rfl rfl ?_; intro _) | (refine sy_alloc rfl rfl rfl ?_; intro _)))
      refine sy_front 2 rfl rfl ?_
      simp only [List.eraseIdx_cons_succ, List.eraseIdx_cons_zero]
      refine sy_callE [vecE g q l] rfl rfl rfl (rc_peek g q l c hl hc) ?_
      rintro _ _ ⟨rfl, rfl⟩
      simp only [List.cons_append, List.nil_append]
      repeat (first | refine sy_k rfl rfl ?_ | (refine gO ?_; first | refine sy_ov (ov_p rfl) rfl rfl ?_ | (refine gG ?_; first | (refine sy_guard_yes rfl rfl rfl rfl rfl ?_ ?_; focus (first | with_reducible rfl | assumption | omega | (simp <;> first | omega | assumption))) | (refine sy_guard_no rfl rfl rfl rfl rfl ?_ ?_; focus (first | with_reducible rfl | assumption | omega | (simp <;> first | omega | assumption)))) | (refine gL ?_; first | refine sy_ov (ov_ld 0 rfl rfl rfl) rfl rfl ?_ | refine sy_ov (ov_ld 3 rfl rfl rfl) rfl rfl ?_) | (refine gS ?_; refine sy_store 0 rfl rfl rfl rfl rfl rfl rfl rfl ?_) | (refine sy_ov (ov_pick_f rfl rfl ?_) rfl rfl ?_; focus (with_reducible rfl)) | refine sy_ov (ov_pick rfl rfl rfl) rfl rfl ?_ | refine sy_ov (ov_fieldAddr rfl rfl rfl) rfl rfl ?_ | (refine sy_alloc rfl rfl rfl ?_; intro _)) | (refine sy_cond_f rfl ?_ ?_; focus (first | with_reducible rfl | assumption | omega | (simp <;> first | omega | assumption))))
      refine sy_front 1 rfl rfl ?_
      simp only [List.eraseIdx_cons_succ, List.eraseIdx_cons_zero]
      refine sy_callE [vecE g q l] rfl rfl rfl (rc_next g q l c hl hc) ?_
      rintro _ _ ⟨rfl, rfl⟩
      simp only [List.cons_append, List.nil_append]
      repeat (first | refine sy_k rfl rfl ?_ | (refine gO ?_; first | refine sy_ov (ov_p rfl) rfl rfl ?_ | (refine gS ?_; refine sy_store 2 rfl rfl rfl rfl rfl rfl rfl rfl ?_)) | refine sy_rt ?_)
      exact ret2ct 2 rfl rfl rfl rfl rfl rfl fun w' hw' => postE hw' _ (sub_self (by repeat first | exact sr | apply sk | apply sd)) rfl ⟨rfl, rfl⟩
    · have h1 : any = false := by simpa using h1
      by_cases h2 : (peekT l c).2.2.2.1 = t
      · have hr : rtakT l c k t any = true := by
          unfold rtakT; simp [h0, h1, h2]
        rw [hr]
        refine sy_enterE rfl rfl (fun w => ?_)
        simp only [initFr]
        repeat (first | refine sy_k rfl rfl ?_ | (refine gO ?_; first | refine sy_ov (ov_p rfl) rfl rfl ?_ | (refine gL ?_; refine sy_ov (ov_ld 1 rfl rfl rfl) rfl rfl ?_) | (refine sy_box rfl rfl rfl ?_; intro _) | (refine sy_alloc rfl rfl rfl ?_; intro _)))
        refine sy_front 2 rfl rfl ?_
        simp only [List.eraseIdx_cons_succ, List.eraseIdx_cons_zero]
        refine sy_callE [vecE g q l] rfl rfl rfl (rc_peek g q l c hl hc) ?_
        rintro _ _ ⟨rfl, rfl⟩
        simp only [List.cons_append, List.nil_append]
        repeat (first | refine sy_k rfl rfl ?_ | (refine gO ?_; first | refine sy_ov (ov_p rfl) rfl rfl ?_ | (refine gG ?_; (refine sy_guard_yes rfl rfl rfl rfl rfl ?_ ?_; focus (first | with_reducible rfl | assumption | omega | (simp <;> first | omega | assumption)))) | (refine gL ?_; first | refine sy_ov (ov_ld 0 rfl rfl rfl) rfl rfl ?_ | refine sy_ov (ov_ld 3 rfl rfl rfl) rfl rfl ?_) | (refine gS ?_; refine sy_store 0 rfl rfl rfl rfl rfl rfl rfl rfl ?_) | (refine sy_ov (ov_pick_t rfl rfl ?_) rfl rfl ?_; focus (with_reducible rfl)) | (refine sy_ov (ov_pick_f rfl rfl ?_) rfl rfl ?_; focus (with_reducible rfl)) | refine sy_ov (ov_fieldAddr rfl rfl rfl) rfl rfl ?_ | (refine sy_alloc rfl rfl rfl ?_; intro _)) | (refine sy_cond_f rfl ?_ ?_; focus (first | with_reducible rfl | assumption | omega | (simp <;> first | omega | assumption))))
        refine sy_front 1 rfl rfl ?_
        simp only [List.eraseIdx_cons_succ, List.eraseIdx_cons_zero]
        refine sy_callE [vecE g q l] rfl rfl rfl (rc_next g q l c hl hc) ?_
        rintro _ _ ⟨rfl, rfl⟩
        simp only [List.cons_append, List.nil_append]
        repeat (first | refine sy_k rfl rfl ?_ | (refine gO ?_; first | refine sy_ov (ov_p rfl) rfl rfl ?_ | (refine gS ?_; refine sy_store 2 rfl rfl rfl rfl rfl rfl rfl rfl ?_)) | refine sy_rt ?_)
        exact ret2ct 2 rfl rfl rfl rfl rfl rfl fun w' hw' => postE hw' _ (sub_self (by repeat first | exact sr | apply sk | apply sd)) rfl ⟨rfl, rfl⟩
      · have hr : rtakT l c k t any = false := by
          unfold rtakT; simp [h0, h1, h2]
        rw [hr]
        refine sy_enterE rfl rfl (fun w => ?_)
        simp only [initFr]
        repeat (first | refine sy_k rfl rfl ?_ | (refine gO ?_; first | refine sy_ov (ov_p rfl) rfl rfl ?_ | (refine gL ?_; refine sy_ov (ov_ld 1 rfl rfl rfl) rfl rfl ?_) | (refine sy_box rfl rfl rfl ?_; intro _) | (refine sy_alloc rfl rfl rfl ?_; intro _)))
        refine sy_front 2 rfl rfl ?_
        simp only [List.eraseIdx_cons_succ, List.eraseIdx_cons_zero]
        refine sy_callE [vecE g q l] rfl rfl rfl (rc_peek g q l c hl hc) ?_
        rintro _ _ ⟨rfl, rfl⟩
        simp only [List.cons_append, List.nil_append]
        repeat (first | refine sy_k rfl rfl ?_ | (refine gO ?_; first | refine sy_ov (ov_p rfl) rfl rfl ?_ | (refine gG ?_; (refine sy_guard_yes rfl rfl rfl rfl rfl ?_ ?_; focus (first | with_reducible rfl | assumption | omega | (simp <;> first | omega | assumption)))) | (refine gL ?_; first | refine sy_ov (ov_ld 0 rfl rfl rfl) rfl rfl ?_ | refine sy_ov (ov_ld 3 rfl rfl rfl) rfl rfl ?_) | (refine gS ?_; first | refine sy_store 0 rfl rfl rfl rfl rfl rfl rfl rfl ?_ | refine sy_store 2 rfl rfl rfl rfl rfl rfl rfl rfl ?_) | (refine sy_ov (ov_pick_t rfl rfl ?_) rfl rfl ?_; focus (with_reducible rfl)) | (refine sy_ov (ov_pick_f rfl rfl ?_) rfl rfl ?_; focus (with_reducible rfl)) | refine sy_ov (ov_fieldAddr rfl rfl rfl) rfl rfl ?_ | (refine sy_alloc rfl rfl rfl ?_; intro _)) | (refine sy_cond_t rfl ?_ ?_; focus (first | with_reducible rfl | assumption | omega | (simp <;> first | omega | assumption))) | refine sy_rt ?_)
        exact ret2ct 2 rfl rfl rfl rfl rfl rfl fun w' hw' => postE hw' _ (sub_self (by repeat first | exact sr | apply sk | apply sd)) rfl ⟨rfl, rfl⟩
  · have h1 : True := trivial
    have h2 : True := trivial
    have hr : rtakT l c k t any = false := by
      unfold rtakT; simp [h0, h1, h2]
    rw [hr]
    refine sy_enterE rfl rfl (fun w => ?_)
    simp only [initFr]
    repeat (first | refine sy_k rfl rfl ?_ | (refine gO ?_; first | refine sy_ov (ov_p rfl) rfl rfl ?_ | (refine gL ?_; refine sy_ov (ov_ld 1 rfl rfl rfl) rfl rfl ?_) | (refine sy_box rfl rfl rfl ?_; intro _) | (refine sy_alloc rfl rfl rfl ?_; intro _)))
    refine sy_front 2 rfl rfl ?_
    simp only [List.eraseIdx_cons_succ, List.eraseIdx_cons_zero]
    refine sy_callE [vecE g q l] rfl rfl rfl (rc_peek g q l c hl hc) ?_
    rintro _ _ ⟨rfl, rfl⟩
    simp only [List.cons_append, List.nil_append]
    repeat (first | refine sy_k rfl rfl ?_ | (refine gO ?_; first | refine sy_ov (ov_p rfl) rfl rfl ?_ | (refine gG ?_; first | refine sy_guard_undef rfl rfl rfl rfl rfl ?_ | (refine sy_guard_no rfl rfl rfl rfl rfl ?_ ?_; focus (first | with_reducible rfl | assumption | omega | (simp <;> first | omega | assumption)))) | (refine gL ?_; first | refine sy_ov (ov_ld 0 rfl rfl rfl) rfl rfl ?_ | refine sy_ov (ov_ld 3 rfl rfl rfl) rfl rfl ?_) | (refine gS ?_; first | refine sy_store 0 rfl rfl rfl rfl rfl rfl rfl rfl ?_ | refine sy_store 2 rfl rfl rfl rfl rfl rfl rfl rfl ?_) | refine sy_ov (ov_pick rfl rfl rfl) rfl rfl ?_ | refine sy_ov (ov_fieldAddr rfl rfl rfl) rfl rfl ?_ | (refine sy_alloc rfl rfl rfl ?_; intro _)) | (refine sy_cond_t rfl ?_ ?_; focus (first | with_reducible rfl | assumption | omega | (simp <;> first | omega | assumption))) | refine sy_rt ?_)
    exact ret2ct 2 rfl rfl rfl rfl rfl rfl fun w' hw' => postE hw' _ (sub_self (by repeat first | exact sr | apply sk | apply sd)) rfl ⟨rfl, rfl⟩
end Go.Proofs.Yteiejcililponaa
