/- BDO: texts of this proof, joined by program: Doc, Doc2, Doc3, Doc4, DocL, PlainDocF. -/
import Derived.Test.YtldjakeigjngoaaPlainDocQ
import Derived.Test.YtldjakeigjngoaaBST
import Derived.Test.YtldjakeigjngoaaBSF
import Derived.Test.YtldjakeigjngoaaBU3
import Derived.Test.YtldjakeigjngoaaOneQ
import Derived.Test.YtldjakeigjngoaaL1Q
import Derived.Test.YtldjakeigjngoaaBldQ
import Derived.Test.YtldjakeigjngoaaSyDrawGQ
import Derived.Lib.IndexLaws
/- Contracts: documents, as the program tells what they are. -/
set_option linter.unusedVariables false
set_option linter.unusedSimpArgs false
namespace Go.Proofs.Ytldjakeigjngoaa
open Go.RowKit Bf
/-- A document in memory, whatever its texts and numbers. -/
inductive DocJ (w : World) : DocA → Prop where
  | mk (k n : Int) (s : List UInt8) (p : Option Addr) (c : Nat) (kids : List DocA) (hb : kids.length ≤ maxLen) (h2 : IsSl w 4 p kids.length (kids.flatMap docV)) (h3 : ∀ x ∈ kids, DocJ w x) : DocJ w (.mk k n s p c kids)
theorem DocIn.toJ {w : World} {t : DocA} (h : DocIn w t) : DocJ w t := by
  induction h with
  | mk k n s p c kids b h2 h3 ih => exact .mk k n s p c kids b.2.2.2 h2 ih
theorem DocJ.bl (t : DocA) : Bl fun w => DocJ w t := fun w w' hb h => by
  induction h with
  | mk k n s p c kids b h2 h3 ih => exact .mk k n s p c kids b (IsSl.bl _ _ _ _ w w' hb h2) ih
theorem DocJ.parts {w : World} {k n : Int} {s : List UInt8} {p : Option Addr} {c : Nat} {kids : List DocA} (h : DocJ w (.mk k n s p c kids)) : kids.length ≤ maxLen ∧ IsSl w 4 p kids.length (kids.flatMap docV) ∧ ∀ x ∈ kids, DocJ w x := by
  cases h with
  | mk _ _ _ _ _ _ hb h2 h3 => exact ⟨hb, h2, h3⟩
theorem sizeD_kid {k n : Int} {s : List UInt8} {p : Option Addr} {c : Nat} {kids : List DocA} {x : DocA} (h : x ∈ kids) : SizeOf.sizeOf x < SizeOf.sizeOf (DocA.mk k n s p c kids) := by
  have := List.sizeOf_lt_of_mem h
  simp; omega
theorem plDs_at {l : List DocA} {i : Nat} {z : DocA} (h : l[i]? = some z) : (plDs l)[i]? = some (plD z) := by rw [plDs_get, h]; rfl
theorem plDs_mem {l : List DocA} {x : DocA} (h : x ∈ l) : plD x ∈ plDs l := by
  obtain ⟨i, hi⟩ := List.mem_iff_getElem?.1 h
  exact List.mem_of_getElem? (plDs_at hi)
/-! ### one more element -/
theorem rightDs_false {l : List DocP} {i : Nat} {x : DocP} (h : rightD x = false) (hx : l[i]? = some x) : rightDs l = false := by
  obtain ⟨hlt, rfl⟩ := List.getElem?_eq_some_iff.1 hx
  have := rightDs_app (l.take i) (l.drop i)
  rw [List.take_append_drop, List.drop_eq_getElem_cons hlt] at this
  rw [this]; simp [rightDs, h]
theorem forceDs_true {l : List DocP} {i : Nat} {x : DocP} (h : forceD x = true) (hx : l[i]? = some x) : forceDs l = true := by
  obtain ⟨hlt, rfl⟩ := List.getElem?_eq_some_iff.1 hx
  have := forceDs_app (l.take i) (l.drop i)
  rw [List.take_append_drop, List.drop_eq_getElem_cons hlt] at this
  rw [this]; simp [forceDs, h]
theorem rightDs_all : ∀ {l : List DocP}, (∀ (j : Nat) x, l[j]? = some x → rightD x = true) → rightDs l = true
  | [], _ => rfl
  | x :: l, h => by simp only [rightDs, Bool.and_eq_true]; exact ⟨h 0 x rfl, rightDs_all fun j y hy => h (j + 1) y hy⟩
theorem forceDs_none : ∀ {l : List DocP}, (∀ (j : Nat) x, l[j]? = some x → forceD x = false) → forceDs l = false
  | [], _ => rfl
  | x :: l, h => by simp only [forceDs, Bool.or_eq_false_iff]; exact ⟨h 0 x rfl, forceDs_none fun j y hy => h (j + 1) y hy⟩
theorem take_snocD (l : List DocP) (i : Nat) (x : DocP) (h : l[i]? = some x) : l.take (i + 1) = l.take i ++ [x] := by
  obtain ⟨hlt, rfl⟩ := List.getElem?_eq_some_iff.1 h
  exact List.take_succ_eq_append_getElem hlt
/-! ### the parts -/
theorem idx10 (s : List UInt8) : decide ((0 : Int) ≤ Go.Lib.indexByte s 10) = decide ((10 : UInt8) ∈ s) := by
  by_cases h : (10 : UInt8) ∈ s
  · have : (0 : Int) ≤ Go.Lib.indexByte s 10 := by
      have h1 := Go.Lib.indexByte_ge s 10
      rcases Int.lt_or_le (Go.Lib.indexByte s 10) 0 with h2 | h2
      · obtain ⟨i, hi⟩ := List.mem_iff_getElem?.1 h
        exact absurd hi (Go.Lib.indexByte_none (by omega) i)
      · exact h2
    simp [h, this]
  · have : ¬ (0 : Int) ≤ Go.Lib.indexByte s 10 := fun h2 => by
      obtain ⟨o, ho⟩ : ∃ o : Nat, Go.Lib.indexByte s 10 = o := ⟨(Go.Lib.indexByte s 10).toNat, by omega⟩
      exact h (List.mem_of_getElem? (Go.Lib.indexByte_some ho).1)
    simp [h, this]
set_option maxRecDepth 20000 in
theorem contains_c (s : List UInt8) (hs : s.length ≤ 9223372036854775807) (w : World) : Calls Try.prog 116 #[S s, S [10]] w fun e w' => e = .returned (.bool (decide ((10 : UInt8) ∈ s))) ∧ Below w.heap.size w w' := by
  have i1 : ∀ w : World, Calls Try.prog 145 #[S s, .int .u8 10] w fun e w' => e = .returned (.int .i64 (Go.Lib.indexByte s 10)) ∧ Below w.heap.size w w' := fun w => by
    refine sy_enter rfl rfl ?_
    simp only [initFr]
    repeat (first | refine sy_k rfl rfl ?_ | (refine gO ?_; refine sy_ov (ov_p rfl) rfl rfl ?_))
    refine sy_ov (ov_extern (vs := [S s, .int .u8 10]) rfl Try.func167 rfl rfl (by kernel_rfl) (by kernel_rfl) (fun w => Go.Lib.run_indexByteString (P := Try.prog) ⟨⟨s⟩⟩ 10 w)) rfl rfl ?_
    repeat (first | refine sy_k rfl rfl ?_ | (refine gO ?_; refine sy_ov (ov_p rfl) rfl rfl ?_) | refine sy_rt ?_)
    exact ret1 rfl rfl rfl
  rw [← idx10]
  by_cases h1 : s = [10]
  · subst h1
    have i2 : ∀ w : World, Calls Try.prog 112 #[S [10], S [10]] w fun e w' => e = .returned (.int .i64 0) ∧ Below w.heap.size w w' := fun w => by
      refine sy_enter rfl rfl ?_
      simp only [initFr]
      repeat (first | refine sy_k rfl rfl ?_ | (refine gO ?_; first | refine sy_ov (ov_p rfl) rfl rfl ?_ | (refine gG ?_; (refine sy_guard_yes rfl rfl rfl rfl rfl ?_ ?_; focus (first | with_reducible rfl | assumption | omega | (simp <;> first | omega | assumption)))) | (refine gK ?_; refine sy_ov (ov_len rfl) rfl rfl ?_) | (refine sy_ov (ov_pick_f rfl rfl ?_) rfl rfl ?_; focus (with_reducible rfl))) | (refine sy_cond_t rfl ?_ ?_; focus (first | with_reducible rfl | assumption | omega | (simp <;> first | omega | assumption))) | refine sy_rt ?_)
      exact ret1 rfl rfl rfl
    have i3 : ∀ w : World, Calls Try.prog 150 #[S [10], S [10]] w fun e w' => e = .returned (.int .i64 0) ∧ Below w.heap.size w w' := fun w => by
      refine sy_enter rfl rfl ?_
      simp only [initFr]
      repeat (first | refine sy_k rfl rfl ?_ | (refine gO ?_; refine sy_ov (ov_p rfl) rfl rfl ?_))
      refine sy_ov (ov_call rfl (fun w _ => i2 w)) rfl rfl ?_
      repeat (first | refine sy_k rfl rfl ?_ | (refine gO ?_; refine sy_ov (ov_p rfl) rfl rfl ?_) | refine sy_rt ?_)
      exact ret1 rfl rfl rfl
    refine sy_enter rfl rfl ?_
    simp only [initFr]
    repeat (first | refine sy_k rfl rfl ?_ | (refine gO ?_; refine sy_ov (ov_p rfl) rfl rfl ?_))
    refine sy_ov (ov_call rfl (fun w _ => i3 w)) rfl rfl ?_
    repeat (first | refine sy_k rfl rfl ?_ | (refine gO ?_; refine sy_ov (ov_p rfl) rfl rfl ?_) | refine sy_rt ?_)
    exact ret1 rfl rfl rfl
  · have i2 : ∀ w : World, Calls Try.prog 112 #[S s, S [10]] w fun e w' => e = .returned (.int .i64 (Go.Lib.indexByte s 10)) ∧ Below w.heap.size w w' := fun w => by
      have h1' : ¬ [10] = s := fun h => h1 h.symm
      refine sy_enter rfl rfl ?_
      simp only [initFr]
      repeat (first | refine sy_k rfl rfl ?_ | (refine gO ?_; first | refine sy_ov (ov_p rfl) rfl rfl ?_ | (refine gG ?_; (refine sy_guard_yes rfl rfl rfl rfl rfl ?_ ?_; focus (first | with_reducible rfl | assumption | omega | (simp <;> first | omega | assumption)))) | (refine gK ?_; refine sy_ov (ov_len rfl) rfl rfl ?_) | (refine sy_ov (ov_pick_f rfl rfl ?_) rfl rfl ?_; focus (with_reducible rfl))) | (refine sy_cond_t rfl ?_ ?_; focus (first | with_reducible rfl | assumption | omega | (simp <;> first | omega | assumption))) | (refine sy_cond_f rfl ?_ ?_; focus (first | with_reducible rfl | assumption | omega | (simp <;> first | omega | assumption))))
      refine sy_ov (ov_index (s := [10]) (i := 0) rfl rfl (by decide) (by decide)) rfl rfl ?_
      skip
      refine sy_ov (ov_call rfl (fun w _ => i1 w)) rfl rfl ?_
      repeat (first | refine sy_k rfl rfl ?_ | (refine gO ?_; refine sy_ov (ov_p rfl) rfl rfl ?_) | refine sy_rt ?_)
      exact ret1 rfl rfl rfl
    have i3 : ∀ w : World, Calls Try.prog 150 #[S s, S [10]] w fun e w' => e = .returned (.int .i64 (Go.Lib.indexByte s 10)) ∧ Below w.heap.size w w' := fun w => by
      refine sy_enter rfl rfl ?_
      simp only [initFr]
      repeat (first | refine sy_k rfl rfl ?_ | (refine gO ?_; refine sy_ov (ov_p rfl) rfl rfl ?_))
      refine sy_ov (ov_call rfl (fun w _ => i2 w)) rfl rfl ?_
      repeat (first | refine sy_k rfl rfl ?_ | (refine gO ?_; refine sy_ov (ov_p rfl) rfl rfl ?_) | refine sy_rt ?_)
      exact ret1 rfl rfl rfl
    refine sy_enter rfl rfl ?_
    simp only [initFr]
    repeat (first | refine sy_k rfl rfl ?_ | (refine gO ?_; refine sy_ov (ov_p rfl) rfl rfl ?_))
    refine sy_ov (ov_call rfl (fun w _ => i3 w)) rfl rfl ?_
    repeat (first | refine sy_k rfl rfl ?_ | (refine gO ?_; refine sy_ov (ov_p rfl) rfl rfl ?_) | refine sy_rt ?_)
    exact ret1 rfl rfl rfl
theorem validD_c (s : List UInt8) (b : Bool) (h : validB s = b) (hs : s.length ≤ maxLen) (w : World) : Calls Try.prog 115 #[S s] w fun e w' => e = .returned (.bool b) ∧ Below w.heap.size w w' :=
  valid_at ⟨⟨s⟩⟩ b w hs h
set_option maxRecDepth 20000 in
set_option maxHeartbeats 4000000 in
theorem own29_c (k n : Int) (s : List UInt8) (p : Option Addr) (c m : Nat) (r : Bool) (hr : ownD k n s m = r) (hs : s.length ≤ maxLen) (hm : m ≤ 9223372036854775807) (w : World) :
    Calls Try.prog 86 #[.agg ⟨[.int .i64 k, .int .i64 n, S s, .slice p m c]⟩] w fun e w' => e = .returned (.bool r) ∧ Below w.heap.size w w' := by
  have hs2 : s.length ≤ 9223372036854775807 := Nat.le_trans hs (by decide)
  subst hr
  obtain ⟨b1, h1⟩ : ∃ b, decide (n = 0) = b := ⟨_, rfl⟩
  obtain ⟨b2, h2⟩ : ∃ b, decide (s = []) = b := ⟨_, rfl⟩
  obtain ⟨b3, h3⟩ : ∃ b, decide ((m : Int) = 0) = b := ⟨_, rfl⟩
  have h3' : decide (m = 0) = b3 := by rw [← h3]; simp
  refine sy_enter rfl rfl ?_
  simp only [initFr]
  repeat (first | refine sy_k rfl rfl ?_ | (refine gO ?_; first | refine sy_ov (ov_p rfl) rfl rfl ?_ | (refine sy_box rfl rfl rfl ?_; intro _)))
  refine sy_draw 12 (by kernel_rfl) ?_
  repeat (first | refine dr_op (ov_p rfl) rfl rfl ?_ | refine dr_op (ov_lens rfl) rfl rfl ?_ | refine dr_op (ov_ld 0 rfl rfl rfl) rfl rfl ?_ | refine dr_op (ov_fieldAddr rfl rfl rfl) rfl rfl ?_ | refine dr_end ?_)
  repeat (first | refine sy_k rfl rfl ?_ | (refine gO ?_; first | refine sy_ov (ov_p rfl) rfl rfl ?_ | (refine gL ?_; refine sy_ov (ov_ld 0 rfl rfl rfl) rfl rfl ?_) | refine sy_ov (ov_fieldAddr rfl rfl rfl) rfl rfl ?_))
  simp only [h1, h2, h3]
  by_cases k1 : k = 1
  · subst k1
    obtain ⟨b4, h4⟩ : ∃ b, validB s = b := ⟨_, rfl⟩
    rw [show ownD 1 n s m = (b1 && b3 && b4 && !decide ((10 : UInt8) ∈ s)) by unfold ownD; rw [if_pos rfl, h1, h3', h4]]
    cases b1 <;> cases b3
    all_goals
      repeat (first | refine sy_k rfl rfl ?_ | (refine gO ?_; first | refine sy_ov (ov_p rfl) rfl rfl ?_ | (refine gG ?_; first | (refine sy_guard_yes rfl rfl rfl rfl rfl ?_ ?_; focus (first | with_reducible rfl | assumption | omega | (simp <;> first | omega | assumption))) | (refine sy_guard_no rfl rfl rfl rfl rfl ?_ ?_; focus (first | with_reducible rfl | assumption | omega | (simp <;> first | omega | assumption)))) | (refine gL ?_; refine sy_ov (ov_ld 0 rfl rfl rfl) rfl rfl ?_) | (refine sy_ov (ov_pick_t rfl rfl ?_) rfl rfl ?_; focus (with_reducible rfl)) | refine sy_ov (ov_pick rfl rfl rfl) rfl rfl ?_ | refine sy_ov (ov_fieldAddr rfl rfl rfl) rfl rfl ?_) | (refine sy_cond_t rfl ?_ ?_; focus (first | with_reducible rfl | assumption | omega | (simp <;> first | omega | assumption))) | refine sy_rt ?_)
      try exact ret1 rfl rfl rfl
    refine sy_ov (ov_call rfl (fun w _ => validD_c s b4 h4 hs w)) rfl rfl ?_
    cases b4
    all_goals
      repeat (first | refine sy_k rfl rfl ?_ | (refine gO ?_; first | refine sy_ov (ov_p rfl) rfl rfl ?_ | (refine gG ?_; first | (refine sy_guard_yes rfl rfl rfl rfl rfl ?_ ?_; focus (first | with_reducible rfl | assumption | omega | (simp <;> first | omega | assumption))) | (refine sy_guard_no rfl rfl rfl rfl rfl ?_ ?_; focus (first | with_reducible rfl | assumption | omega | (simp <;> first | omega | assumption)))) | (refine gL ?_; refine sy_ov (ov_ld 0 rfl rfl rfl) rfl rfl ?_) | (refine sy_ov (ov_pick_t rfl rfl ?_) rfl rfl ?_; focus (with_reducible rfl)) | refine sy_ov (ov_pick rfl rfl rfl) rfl rfl ?_ | refine sy_ov (ov_fieldAddr rfl rfl rfl) rfl rfl ?_) | refine sy_rt ?_)
      try exact ret1 rfl rfl rfl
    refine sy_ov (ov_call rfl (fun w _ => contains_c s hs2 w)) rfl rfl ?_
    repeat (first | refine sy_k rfl rfl ?_ | (refine gO ?_; first | refine sy_ov (ov_p rfl) rfl rfl ?_ | (refine gG ?_; (refine sy_guard_yes rfl rfl rfl rfl rfl ?_ ?_; focus (first | with_reducible rfl | assumption | omega | (simp <;> first | omega | assumption)))) | (refine sy_ov (ov_pick_t rfl rfl ?_) rfl rfl ?_; focus (with_reducible rfl))) | refine sy_rt ?_)
    exact ret1 rfl rfl (by simp)
  · by_cases k2 : k = 2 ∨ k = 3 ∨ k = 4
    · rw [show ownD k n s m = (b2 && b1 && b3) by unfold ownD; rw [if_neg k1, if_pos k2, h1, h2, h3']]
      rcases k2 with rfl | rfl | rfl
      all_goals
        cases b1 <;> cases b2 <;> cases b3
        all_goals
          repeat (first | refine sy_k rfl rfl ?_ | (refine gO ?_; first | refine sy_ov (ov_p rfl) rfl rfl ?_ | (refine gG ?_; first | (refine sy_guard_yes rfl rfl rfl rfl rfl ?_ ?_; focus (first | with_reducible rfl | assumption | omega | (simp <;> first | omega | assumption))) | (refine sy_guard_no rfl rfl rfl rfl rfl ?_ ?_; focus (first | with_reducible rfl | assumption | omega | (simp <;> first | omega | assumption)))) | (refine sy_ov (ov_pick_t rfl rfl ?_) rfl rfl ?_; focus (with_reducible rfl)) | refine sy_ov (ov_pick rfl rfl rfl) rfl rfl ?_) | (refine sy_cond_t rfl ?_ ?_; focus (first | with_reducible rfl | assumption | omega | (simp <;> first | omega | assumption))) | (refine sy_cond_f rfl ?_ ?_; focus (first | with_reducible rfl | assumption | omega | (simp <;> first | omega | assumption))) | refine sy_rt ?_)
          exact ret1 rfl rfl rfl
    · by_cases k5 : k = 5 ∨ k = 7
      · rw [show ownD k n s m = (b2 && b1) by unfold ownD; rw [if_neg k1, if_neg k2, if_pos k5, h1, h2]]
        rcases k5 with rfl | rfl
        all_goals
          cases b1 <;> cases b2
          all_goals
            repeat (first | refine sy_k rfl rfl ?_ | (refine gO ?_; first | refine sy_ov (ov_p rfl) rfl rfl ?_ | (refine gG ?_; first | (refine sy_guard_yes rfl rfl rfl rfl rfl ?_ ?_; focus (first | with_reducible rfl | assumption | omega | (simp <;> first | omega | assumption))) | (refine sy_guard_no rfl rfl rfl rfl rfl ?_ ?_; focus (first | with_reducible rfl | assumption | omega | (simp <;> first | omega | assumption)))) | (refine sy_ov (ov_pick_t rfl rfl ?_) rfl rfl ?_; focus (with_reducible rfl)) | refine sy_ov (ov_pick rfl rfl rfl) rfl rfl ?_) | (refine sy_cond_t rfl ?_ ?_; focus (first | with_reducible rfl | assumption | omega | (simp <;> first | omega | assumption))) | (refine sy_cond_f rfl ?_ ?_; focus (first | with_reducible rfl | assumption | omega | (simp <;> first | omega | assumption))) | refine sy_rt ?_)
            exact ret1 rfl rfl rfl
      · have e1 : ¬ k = 2 := fun h => k2 (.inl h)
        have e2 : ¬ k = 3 := fun h => k2 (.inr (.inl h))
        have e3 : ¬ k = 4 := fun h => k2 (.inr (.inr h))
        have e4 : ¬ k = 5 := fun h => k5 (.inl h)
        have e5 : ¬ k = 7 := fun h => k5 (.inr h)
        by_cases k6 : k = 6
        · subst k6
          obtain ⟨b6, h6⟩ : ∃ b, decide (0 ≤ n) = b := ⟨_, rfl⟩
          obtain ⟨b7, h7⟩ : ∃ b, decide (n ≤ 16) = b := ⟨_, rfl⟩
          rw [show ownD 6 n s m = (b2 && b6 && b7) by unfold ownD; rw [if_neg k1, if_neg k2, if_neg k5, if_pos rfl, h2, h6, h7]]
          cases b2
          · repeat (first | refine sy_k rfl rfl ?_ | (refine gO ?_; first | refine sy_ov (ov_p rfl) rfl rfl ?_ | (refine gG ?_; (refine sy_guard_no rfl rfl rfl rfl rfl ?_ ?_; focus (first | with_reducible rfl | assumption | omega | (simp <;> first | omega | assumption)))) | refine sy_ov (ov_pick rfl rfl rfl) rfl rfl ?_) | (refine sy_cond_t rfl ?_ ?_; focus (first | with_reducible rfl | assumption | omega | (simp <;> first | omega | assumption))) | (refine sy_cond_f rfl ?_ ?_; focus (first | with_reducible rfl | assumption | omega | (simp <;> first | omega | assumption))) | refine sy_rt ?_)
            exact ret1 rfl rfl rfl
          · repeat (first | refine sy_k rfl rfl ?_ | (refine gO ?_; first | refine sy_ov (ov_p rfl) rfl rfl ?_ | (refine gG ?_; (refine sy_guard_yes rfl rfl rfl rfl rfl ?_ ?_; focus (first | with_reducible rfl | assumption | omega | (simp <;> first | omega | assumption)))) | (refine gL ?_; refine sy_ov (ov_ld 0 rfl rfl rfl) rfl rfl ?_) | (refine sy_ov (ov_pick_t rfl rfl ?_) rfl rfl ?_; focus (with_reducible rfl)) | refine sy_ov (ov_fieldAddr rfl rfl rfl) rfl rfl ?_) | (refine sy_cond_t rfl ?_ ?_; focus (first | with_reducible rfl | assumption | omega | (simp <;> first | omega | assumption))) | (refine sy_cond_f rfl ?_ ?_; focus (first | with_reducible rfl | assumption | omega | (simp <;> first | omega | assumption))))
            simp only [h6]
            cases b6
            · repeat (first | refine sy_k rfl rfl ?_ | (refine gO ?_; first | refine sy_ov (ov_p rfl) rfl rfl ?_ | (refine gG ?_; (refine sy_guard_no rfl rfl rfl rfl rfl ?_ ?_; focus (first | with_reducible rfl | assumption | omega | (simp <;> first | omega | assumption)))) | refine sy_ov (ov_pick rfl rfl rfl) rfl rfl ?_) | refine sy_rt ?_)
              exact ret1 rfl rfl rfl
            · repeat (first | refine sy_k rfl rfl ?_ | (refine gO ?_; first | refine sy_ov (ov_p rfl) rfl rfl ?_ | (refine gG ?_; (refine sy_guard_yes rfl rfl rfl rfl rfl ?_ ?_; focus (first | with_reducible rfl | assumption | omega | (simp <;> first | omega | assumption)))) | (refine gL ?_; refine sy_ov (ov_ld 0 rfl rfl rfl) rfl rfl ?_) | (refine sy_ov (ov_pick_t rfl rfl ?_) rfl rfl ?_; focus (with_reducible rfl)) | refine sy_ov (ov_fieldAddr rfl rfl rfl) rfl rfl ?_) | refine sy_rt ?_)
              simp only [h7]
              cases b7
              all_goals
                skip
                exact ret1 rfl rfl rfl
        · rw [show ownD k n s m = false by unfold ownD; rw [if_neg k1, if_neg k2, if_neg k5, if_neg k6]]
          repeat (first | refine sy_k rfl rfl ?_ | (refine gO ?_; refine sy_ov (ov_p rfl) rfl rfl ?_) | (refine sy_cond_f rfl ?_ ?_; focus (first | with_reducible rfl | assumption | omega | (simp <;> first | omega | assumption))) | refine sy_rt ?_)
          exact ret1 rfl rfl rfl
end Go.Proofs.Ytldjakeigjngoaa
/- Contracts: whether documents are right, forced; their flat texts, columns, groups. -/
set_option linter.unusedVariables false
set_option linter.unusedSimpArgs false
namespace Go.Proofs.Ytldjakeigjngoaa
open Go.RowKit Bf
set_option maxRecDepth 20000 in
set_option maxHeartbeats 4000000 in
theorem right29_c : ∀ (m : Nat) (z : DocA), SizeOf.sizeOf z ≤ m → blkD (plD z) ≤ 4000000000000 → ∀ (w : World), DocJ w z → Calls Try.prog 58 #[.agg ⟨docV z⟩] w fun e w' => e = .returned (.bool (rightD (plD z))) ∧ Below w.heap.size w w' := by
  intro m
  induction m with
  | zero => intro z hz; cases z; simp at hz
  | succ m ih =>
    intro z hz hB w hw0
    obtain ⟨k, n, s, p, c, kids⟩ := z
    obtain ⟨hb, hs2, hkid⟩ := hw0.parts
    have hm : kids.length ≤ 9223372036854775807 := hb
    have hst : St (fun _ => False) w (fun w => IsSl w 4 p kids.length (kids.flatMap docV)) := St.start (IsSl.bl _ _ _ _) hs2
    have hstk : ∀ x ∈ kids, St (fun _ => False) w (fun w => DocJ w x) := fun x hx => St.start (DocJ.bl _) (hkid x hx)
    simp only [plD, blkD] at hB
    have hsl : s.length ≤ maxLen := Nat.le_trans (by omega : s.length ≤ 4000000000000) (by decide)
    obtain ⟨o, ho⟩ : ∃ o, ownD k n s kids.length = o := ⟨_, rfl⟩
    have hown := own29_c k n s p c kids.length o ho hsl hm
    obtain ⟨r, hr⟩ : ∃ r, rightDs (plDs kids) = r := ⟨_, rfl⟩
    rw [show rightD (plD (.mk k n s p c kids)) = (o && r) by simp only [plD, rightD, plDs_len, ho, hr]]
    cases o
    · refine sy_enter rfl rfl ?_
      simp only [initFr]
      repeat (first | refine sy_k rfl rfl ?_ | (refine gO ?_; first | refine sy_ov (ov_p rfl) rfl rfl ?_ | (refine gL ?_; refine sy_ov (ov_ld 0 rfl rfl rfl) rfl rfl ?_) | (refine sy_box rfl rfl rfl ?_; intro _)))
      refine sy_ov (ov_call rfl (fun w _ => hown w)) rfl rfl ?_
      repeat (first | refine sy_k rfl rfl ?_ | (refine gO ?_; refine sy_ov (ov_p rfl) rfl rfl ?_) | (refine sy_cond_t rfl ?_ ?_; focus (first | with_reducible rfl | assumption | omega | (simp <;> first | omega | assumption))) | refine sy_rt ?_)
      exact ret1 rfl rfl rfl
    · rw [Bool.true_and]
      refine sy_enter rfl rfl ?_
      simp only [initFr]
      repeat (first | refine sy_k rfl rfl ?_ | (refine gO ?_; first | refine sy_ov (ov_p rfl) rfl rfl ?_ | (refine gL ?_; refine sy_ov (ov_ld 0 rfl rfl rfl) rfl rfl ?_) | (refine sy_box rfl rfl rfl ?_; intro _)))
      refine sy_ov (ov_call rfl (fun w _ => hown w)) rfl rfl ?_
      repeat (first | refine sy_k rfl rfl ?_ | (refine gO ?_; first | refine sy_ov (ov_p rfl) rfl rfl ?_ | (refine gK ?_; refine sy_ov (ov_lens rfl) rfl rfl ?_) | (refine gL ?_; refine sy_ov (ov_ld 0 rfl rfl rfl) rfl rfl ?_) | refine sy_ov (ov_fieldAddr rfl rfl rfl) rfl rfl ?_) | (refine sy_cond_f rfl ?_ ?_; focus (first | with_reducible rfl | assumption | omega | (simp <;> first | omega | assumption))))
      refine sy_loop (α := Int) (fun i => [(9, .slice p kids.length c), (10, .int .i64 (kids.length : Int)), (11, .int .i64 i)]) (fun _ => []) (fun i => 0 ≤ i ∧ i ≤ kids.length ∧ ∀ (j : Nat) x, j < i.toNat → (plDs kids)[j]? = some x → rightD x = true) (fun i => (kids.length - i).toNat) 0 ⟨by omega, by omega, fun j x h => by simp at h⟩ ⟨⟨_, rfl, rfl⟩, ⟨_, rfl, rfl⟩, ⟨_, rfl, rfl⟩, trivial⟩ (List.nil_sublist _) ?_
      rintro i ⟨i0, i1, hinv⟩
      by_cases hlt : i < kids.length
      · obtain ⟨x, hx⟩ : ∃ x, kids[i.toNat]? = some x := ⟨_, List.getElem?_eq_getElem (by omega)⟩
        have hxm := List.mem_of_getElem? hx
        obtain ⟨b, off, hp, hat⟩ := hst.addr (by omega)
        subst hp
        have hsz := sizeD_kid (k := k) (n := n) (s := s) (p := some ⟨b, off, none⟩) (c := c) hxm
        have hpx := plDs_at hx
        have hxj := hstk _ hxm
        have hxB : blkD (plD x) ≤ blkDs (plDs kids) := blkDs_mem (plDs_mem hxm)
        have hi1 : (i + 1).toNat = i.toNat + 1 := by omega
        have hrec := ih x (by omega) (by omega)
        obtain ⟨q, hq⟩ : ∃ q, rightD (plD x) = q := ⟨_, rfl⟩
        rw [hq] at hrec
        repeat (first | refine sy_k rfl rfl ?_ | (refine gO ?_; first | refine sy_ov (ov_p rfl) rfl rfl ?_ | (refine sy_ov (ov_indexAddr rfl rfl ?_ ?_) rfl rfl ?_; omega; omega)) | (refine sy_cond_t rfl ?_ ?_; focus (first | with_reducible rfl | assumption | omega | (simp <;> first | omega | assumption))))
        refine sy_ov (ov_elem (f := docV) hat hx rfl rfl docV_len) rfl rfl ?_
        obtain ⟨xk, xn, xs, xp, xc, xkids⟩ := x
        cases q
        · have hf : r = false := by rw [← hr]; exact rightDs_false hq hpx
          subst hf
          repeat (first | refine sy_k rfl rfl ?_ | (refine gO ?_; first | (refine gL ?_; refine sy_ov (ov_ld 0 rfl rfl rfl) rfl rfl ?_) | (refine gS ?_; refine sy_store 0 rfl rfl rfl rfl rfl rfl rfl rfl ?_) | (refine sy_alloc rfl rfl rfl ?_; intro _)))
          refine sy_ov (ov_call rfl (fun w hw => hrec w (hxj.at hw))) rfl rfl ?_
          repeat (first | refine sy_k rfl rfl ?_ | (refine gO ?_; refine sy_ov (ov_p rfl) rfl rfl ?_) | (refine sy_cond_t rfl ?_ ?_; focus (first | with_reducible rfl | assumption | omega | (simp <;> first | omega | assumption))) | refine sy_rt ?_)
          exact ret1 rfl rfl rfl
        · repeat (first | refine sy_k rfl rfl ?_ | (refine gO ?_; first | (refine gL ?_; refine sy_ov (ov_ld 0 rfl rfl rfl) rfl rfl ?_) | (refine gS ?_; refine sy_store 0 rfl rfl rfl rfl rfl rfl rfl rfl ?_) | (refine sy_alloc rfl rfl rfl ?_; intro _)))
          refine sy_ov (ov_call rfl (fun w hw => hrec w (hxj.at hw))) rfl rfl ?_
          repeat (first | refine sy_k rfl rfl ?_ | (refine gO ?_; first | refine sy_ov (ov_p rfl) rfl rfl ?_ | (refine gB ?_; (refine sy_ov (ov_ar rfl rfl rfl ?_ ?_) rfl rfl ?_; omega; omega))) | (refine sy_cond_f rfl ?_ ?_; focus (first | with_reducible rfl | assumption | omega | (simp <;> first | omega | assumption))))
          refine sy_back (i + 1) ⟨by omega, by omega, ?_⟩ (by omega) ⟨⟨_, rfl, rfl⟩, ⟨_, rfl, rfl⟩, ⟨_, rfl, rfl⟩, trivial⟩ (List.nil_sublist _)
          intro j u hj hu
          by_cases hji : j < i.toNat
          · exact hinv j u hji hu
          · have : j = i.toNat := by omega
            subst this
            rw [hpx] at hu; cases hu; exact hq
      · have ht : r = true := by
          rw [← hr]
          exact rightDs_all fun j x hx => hinv j x (by have := (List.getElem?_eq_some_iff.1 hx).1; rw [plDs_len] at this; omega) hx
        subst ht
        repeat (first | refine sy_k rfl rfl ?_ | (refine gO ?_; refine sy_ov (ov_p rfl) rfl rfl ?_) | (refine sy_cond_f rfl ?_ ?_; focus (first | with_reducible rfl | assumption | omega | (simp <;> first | omega | assumption))) | refine sy_rt ?_)
        exact ret1 rfl rfl rfl
set_option maxRecDepth 20000 in
set_option maxHeartbeats 4000000 in
theorem forced29_c : ∀ (m : Nat) (z : DocA), SizeOf.sizeOf z ≤ m → ∀ (w : World), DocJ w z → Calls Try.prog 56 #[.agg ⟨docV z⟩] w fun e w' => e = .returned (.bool (forceD (plD z))) ∧ Below w.heap.size w w' := by
  intro m
  induction m with
  | zero => intro z hz; cases z; simp at hz
  | succ m ih =>
    intro z hz w hw0
    obtain ⟨k, n, s, p, c, kids⟩ := z
    obtain ⟨hb, hs2, hkid⟩ := hw0.parts
    have hm : kids.length ≤ 9223372036854775807 := hb
    have hst : St (fun _ => False) w (fun w => IsSl w 4 p kids.length (kids.flatMap docV)) := St.start (IsSl.bl _ _ _ _) hs2
    have hstk : ∀ x ∈ kids, St (fun _ => False) w (fun w => DocJ w x) := fun x hx => St.start (DocJ.bl _) (hkid x hx)
    by_cases k4 : k = 4
    · rw [show forceD (plD (.mk k n s p c kids)) = true by simp [plD, forceD, k4]]
      refine sy_enter rfl rfl ?_
      simp only [initFr]
      repeat (first | refine sy_k rfl rfl ?_ | (refine gO ?_; first | refine sy_ov (ov_p rfl) rfl rfl ?_ | (refine gL ?_; refine sy_ov (ov_ld 0 rfl rfl rfl) rfl rfl ?_) | refine sy_ov (ov_fieldAddr rfl rfl rfl) rfl rfl ?_ | (refine sy_box rfl rfl rfl ?_; intro _)) | (refine sy_cond_t rfl ?_ ?_; focus (first | with_reducible rfl | assumption | omega | (simp <;> first | omega | assumption))) | refine sy_rt ?_)
      exact ret1 rfl rfl rfl
    · obtain ⟨r, hr⟩ : ∃ r, forceDs (plDs kids) = r := ⟨_, rfl⟩
      rw [show forceD (plD (.mk k n s p c kids)) = r by simp [plD, forceD, k4, hr]]
      refine sy_enter rfl rfl ?_
      simp only [initFr]
      repeat (first | refine sy_k rfl rfl ?_ | (refine gO ?_; first | refine sy_ov (ov_p rfl) rfl rfl ?_ | (refine gK ?_; refine sy_ov (ov_lens rfl) rfl rfl ?_) | (refine gL ?_; refine sy_ov (ov_ld 0 rfl rfl rfl) rfl rfl ?_) | refine sy_ov (ov_fieldAddr rfl rfl rfl) rfl rfl ?_ | (refine sy_box rfl rfl rfl ?_; intro _)) | (refine sy_cond_f rfl ?_ ?_; focus (first | with_reducible rfl | assumption | omega | (simp <;> first | omega | assumption))))
      refine sy_loop (α := Int) (fun i => [(9, .slice p kids.length c), (10, .int .i64 (kids.length : Int)), (11, .int .i64 i)]) (fun _ => []) (fun i => 0 ≤ i ∧ i ≤ kids.length ∧ ∀ (j : Nat) x, j < i.toNat → (plDs kids)[j]? = some x → forceD x = false) (fun i => (kids.length - i).toNat) 0 ⟨by omega, by omega, fun j x h => by simp at h⟩ ⟨⟨_, rfl, rfl⟩, ⟨_, rfl, rfl⟩, ⟨_, rfl, rfl⟩, trivial⟩ (List.nil_sublist _) ?_
      rintro i ⟨i0, i1, hinv⟩
      by_cases hlt : i < kids.length
      · obtain ⟨x, hx⟩ : ∃ x, kids[i.toNat]? = some x := ⟨_, List.getElem?_eq_getElem (by omega)⟩
        have hxm := List.mem_of_getElem? hx
        obtain ⟨b, off, hp, hat⟩ := hst.addr (by omega)
        subst hp
        have hsz := sizeD_kid (k := k) (n := n) (s := s) (p := some ⟨b, off, none⟩) (c := c) hxm
        have hpx := plDs_at hx
        have hxj := hstk _ hxm
        have hxB : blkD (plD x) ≤ blkDs (plDs kids) := blkDs_mem (plDs_mem hxm)
        have hi1 : (i + 1).toNat = i.toNat + 1 := by omega
        have hrec := ih x (by omega)
        obtain ⟨q, hq⟩ : ∃ q, forceD (plD x) = q := ⟨_, rfl⟩
        rw [hq] at hrec
        repeat (first | refine sy_k rfl rfl ?_ | (refine gO ?_; first | refine sy_ov (ov_p rfl) rfl rfl ?_ | (refine sy_ov (ov_indexAddr rfl rfl ?_ ?_) rfl rfl ?_; omega; omega)) | (refine sy_cond_t rfl ?_ ?_; focus (first | with_reducible rfl | assumption | omega | (simp <;> first | omega | assumption))))
        refine sy_ov (ov_elem (f := docV) hat hx rfl rfl docV_len) rfl rfl ?_
        obtain ⟨xk, xn, xs, xp, xc, xkids⟩ := x
        cases q
        · repeat (first | refine sy_k rfl rfl ?_ | (refine gO ?_; first | (refine gL ?_; refine sy_ov (ov_ld 0 rfl rfl rfl) rfl rfl ?_) | (refine gS ?_; refine sy_store 0 rfl rfl rfl rfl rfl rfl rfl rfl ?_) | (refine sy_alloc rfl rfl rfl ?_; intro _)))
          refine sy_ov (ov_call rfl (fun w hw => hrec w (hxj.at hw))) rfl rfl ?_
          repeat (first | refine sy_k rfl rfl ?_ | (refine gO ?_; first | refine sy_ov (ov_p rfl) rfl rfl ?_ | (refine gB ?_; (refine sy_ov (ov_ar rfl rfl rfl ?_ ?_) rfl rfl ?_; omega; omega))) | (refine sy_cond_f rfl ?_ ?_; focus (first | with_reducible rfl | assumption | omega | (simp <;> first | omega | assumption))))
          refine sy_back (i + 1) ⟨by omega, by omega, ?_⟩ (by omega) ⟨⟨_, rfl, rfl⟩, ⟨_, rfl, rfl⟩, ⟨_, rfl, rfl⟩, trivial⟩ (List.nil_sublist _)
          intro j u hj hu
          by_cases hji : j < i.toNat
          · exact hinv j u hji hu
          · have : j = i.toNat := by omega
            subst this
            rw [hpx] at hu; cases hu; exact hq
        · have hf : r = true := by rw [← hr]; exact forceDs_true hq hpx
          subst hf
          repeat (first | refine sy_k rfl rfl ?_ | (refine gO ?_; first | (refine gL ?_; refine sy_ov (ov_ld 0 rfl rfl rfl) rfl rfl ?_) | (refine gS ?_; refine sy_store 0 rfl rfl rfl rfl rfl rfl rfl rfl ?_) | (refine sy_alloc rfl rfl rfl ?_; intro _)))
          refine sy_ov (ov_call rfl (fun w hw => hrec w (hxj.at hw))) rfl rfl ?_
          repeat (first | refine sy_k rfl rfl ?_ | (refine gO ?_; refine sy_ov (ov_p rfl) rfl rfl ?_) | (refine sy_cond_t rfl ?_ ?_; focus (first | with_reducible rfl | assumption | omega | (simp <;> first | omega | assumption))) | refine sy_rt ?_)
          exact ret1 rfl rfl rfl
      · have ht : r = false := by
          rw [← hr]
          exact forceDs_none fun j x hx => hinv j x (by have := (List.getElem?_eq_some_iff.1 hx).1; rw [plDs_len] at this; omega) hx
        subst ht
        repeat (first | refine sy_k rfl rfl ?_ | (refine gO ?_; refine sy_ov (ov_p rfl) rfl rfl ?_) | (refine sy_cond_f rfl ?_ ?_; focus (first | with_reducible rfl | assumption | omega | (simp <;> first | omega | assumption))) | refine sy_rt ?_)
        exact ret1 rfl rfl rfl
set_option maxRecDepth 20000 in
set_option maxHeartbeats 4000000 in
theorem columns29_c : ∀ (m : Nat) (z : DocA), SizeOf.sizeOf z ≤ m → blkD (plD z) ≤ 4000000000000 → ∀ (w : World), DocJ w z → Calls Try.prog 61 #[.agg ⟨docV z⟩] w fun e w' => e = .returned (.int .i64 (colD (plD z))) ∧ Below w.heap.size w w' := by
  intro m
  induction m with
  | zero => intro z hz; cases z; simp at hz
  | succ m ih =>
    intro z hz hB w hw0
    obtain ⟨k, n, s, p, c, kids⟩ := z
    obtain ⟨hb, hs2, hkid⟩ := hw0.parts
    have hm : kids.length ≤ 9223372036854775807 := hb
    have hst : St (fun _ => False) w (fun w => IsSl w 4 p kids.length (kids.flatMap docV)) := St.start (IsSl.bl _ _ _ _) hs2
    have hstk : ∀ x ∈ kids, St (fun _ => False) w (fun w => DocJ w x) := fun x hx => St.start (DocJ.bl _) (hkid x hx)
    simp only [plD, blkD] at hB
    have hwd := widthL_bd _ s (Nat.le_refl _)
    have hcd := colDs_bd (plDs kids)
    obtain ⟨W, hW⟩ : ∃ W, widthL s = W := ⟨_, rfl⟩
    have hwc := width_c s W hW (by omega)
    rw [hW] at hwd
    obtain ⟨A, hA⟩ : ∃ A : Int, (if k = 2 then 1 else W) = A := ⟨_, rfl⟩
    have hA2 : 0 ≤ A ∧ A ≤ 2 * s.length + 1 := by rw [← hA]; split <;> omega
    rw [show colD (plD (.mk k n s p c kids)) = A + colDs (plDs kids) by simp only [plD, colD, hW, hA]]
    have htk : ∀ i : Nat, 0 ≤ colDs ((plDs kids).take i) ∧ colDs ((plDs kids).take i) ≤ 2 * blkDs (plDs kids) := fun i => by
      have h1 := colDs_bd ((plDs kids).take i)
      have h2 := blkDs_take (plDs kids) i
      omega
    refine sy_enter rfl rfl ?_
    simp only [initFr]
    repeat (first | refine sy_k rfl rfl ?_ | (refine gO ?_; first | refine sy_ov (ov_p rfl) rfl rfl ?_ | (refine gL ?_; refine sy_ov (ov_ld 0 rfl rfl rfl) rfl rfl ?_) | refine sy_ov (ov_fieldAddr rfl rfl rfl) rfl rfl ?_ | (refine sy_box rfl rfl rfl ?_; intro _)))
    refine sy_ov (ov_call rfl (fun w _ => hwc w)) rfl rfl ?_
    by_cases k2 : k = 2
    · rw [if_pos k2] at hA
      subst hA
      repeat (first | refine sy_k rfl rfl ?_ | (refine gO ?_; first | refine sy_ov (ov_p rfl) rfl rfl ?_ | (refine gK ?_; refine sy_ov (ov_lens rfl) rfl rfl ?_) | (refine gL ?_; refine sy_ov (ov_ld 0 rfl rfl rfl) rfl rfl ?_) | refine sy_ov (ov_fieldAddr rfl rfl rfl) rfl rfl ?_) | (refine sy_cond_t rfl ?_ ?_; focus (first | with_reducible rfl | assumption | omega | (simp <;> first | omega | assumption))))
      refine sy_loop (α := Int) (fun i => [(3, .int .i64 (1 + colDs ((plDs kids).take i.toNat))), (13, .slice p kids.length c), (14, .int .i64 (kids.length : Int)), (15, .int .i64 i)]) (fun _ => []) (fun i => 0 ≤ i ∧ i ≤ kids.length) (fun i => (kids.length - i).toNat) 0 ⟨by omega, by omega⟩ ⟨⟨_, rfl, by simp [colDs]⟩, ⟨_, rfl, rfl⟩, ⟨_, rfl, rfl⟩, ⟨_, rfl, rfl⟩, trivial⟩ (List.nil_sublist _) ?_
      rintro i ⟨i0, i1⟩
      have ht := htk i.toNat
      by_cases hlt : i < kids.length
      · obtain ⟨x, hx⟩ : ∃ x, kids[i.toNat]? = some x := ⟨_, List.getElem?_eq_getElem (by omega)⟩
        have hxm := List.mem_of_getElem? hx
        obtain ⟨b, off, hp, hat⟩ := hst.addr (by omega)
        subst hp
        have hsz := sizeD_kid (k := k) (n := n) (s := s) (p := some ⟨b, off, none⟩) (c := c) hxm
        have hpx := plDs_at hx
        have hxj := hstk _ hxm
        have hxB : blkD (plD x) ≤ blkDs (plDs kids) := blkDs_mem (plDs_mem hxm)
        have hi1 : (i + 1).toNat = i.toNat + 1 := by omega
        have hrec := ih x (by omega) (by omega)
        have ht1 := htk (i.toNat + 1)
        have hstep : colDs ((plDs kids).take (i + 1).toNat) = colDs ((plDs kids).take i.toNat) + colD (plD x) := by rw [hi1, take_snocD _ _ _ hpx, colDs_app]; simp [colDs]
        have hxc := colD_bd (plD x)
        repeat (first | refine sy_k rfl rfl ?_ | (refine gO ?_; first | refine sy_ov (ov_p rfl) rfl rfl ?_ | (refine sy_ov (ov_indexAddr rfl rfl ?_ ?_) rfl rfl ?_; omega; omega)) | (refine sy_cond_t rfl ?_ ?_; focus (first | with_reducible rfl | assumption | omega | (simp <;> first | omega | assumption))))
        refine sy_ov (ov_elem (f := docV) hat hx rfl rfl docV_len) rfl rfl ?_
        obtain ⟨xk, xn, xs, xp, xc, xkids⟩ := x
        repeat (first | refine sy_k rfl rfl ?_ | (refine gO ?_; first | refine sy_ov (ov_p rfl) rfl rfl ?_ | (refine gL ?_; refine sy_ov (ov_ld 0 rfl rfl rfl) rfl rfl ?_) | (refine gS ?_; refine sy_store 0 rfl rfl rfl rfl rfl rfl rfl rfl ?_) | (refine sy_alloc rfl rfl rfl ?_; intro _)))
        refine sy_ov (ov_call rfl (fun w hw => hrec w (hxj.at hw))) rfl rfl ?_
        repeat (first | refine sy_k rfl rfl ?_ | (refine gO ?_; first | refine sy_ov (ov_p rfl) rfl rfl ?_ | (refine gB ?_; (refine sy_ov (ov_ar rfl rfl rfl ?_ ?_) rfl rfl ?_; omega; omega))))
        refine sy_back (i + 1) ⟨by omega, by omega⟩ (by omega) ⟨⟨_, rfl, ?_⟩, ⟨_, rfl, rfl⟩, ⟨_, rfl, rfl⟩, ⟨_, rfl, rfl⟩, trivial⟩ (List.nil_sublist _)
        rw [hstep, Int.add_assoc]
      · have hall : (plDs kids).take i.toNat = plDs kids := by rw [List.take_of_length_le]; rw [plDs_len]; omega
        rw [hall]
        repeat (first | refine sy_k rfl rfl ?_ | (refine gO ?_; refine sy_ov (ov_p rfl) rfl rfl ?_) | (refine sy_cond_f rfl ?_ ?_; focus (first | with_reducible rfl | assumption | omega | (simp <;> first | omega | assumption))) | refine sy_rt ?_)
        exact ret1 rfl rfl rfl
    · rw [if_neg k2] at hA
      subst hA
      repeat (first | refine sy_k rfl rfl ?_ | (refine gO ?_; first | refine sy_ov (ov_p rfl) rfl rfl ?_ | (refine gK ?_; refine sy_ov (ov_lens rfl) rfl rfl ?_) | (refine gL ?_; refine sy_ov (ov_ld 0 rfl rfl rfl) rfl rfl ?_) | refine sy_ov (ov_fieldAddr rfl rfl rfl) rfl rfl ?_) | (refine sy_cond_f rfl ?_ ?_; focus (first | with_reducible rfl | assumption | omega | (simp <;> first | omega | assumption))))
      refine sy_loop (α := Int) (fun i => [(3, .int .i64 (W + colDs ((plDs kids).take i.toNat))), (13, .slice p kids.length c), (14, .int .i64 (kids.length : Int)), (15, .int .i64 i)]) (fun _ => []) (fun i => 0 ≤ i ∧ i ≤ kids.length) (fun i => (kids.length - i).toNat) 0 ⟨by omega, by omega⟩ ⟨⟨_, rfl, by simp [colDs]⟩, ⟨_, rfl, rfl⟩, ⟨_, rfl, rfl⟩, ⟨_, rfl, rfl⟩, trivial⟩ (List.nil_sublist _) ?_
      rintro i ⟨i0, i1⟩
      have ht := htk i.toNat
      by_cases hlt : i < kids.length
      · obtain ⟨x, hx⟩ : ∃ x, kids[i.toNat]? = some x := ⟨_, List.getElem?_eq_getElem (by omega)⟩
        have hxm := List.mem_of_getElem? hx
        obtain ⟨b, off, hp, hat⟩ := hst.addr (by omega)
        subst hp
        have hsz := sizeD_kid (k := k) (n := n) (s := s) (p := some ⟨b, off, none⟩) (c := c) hxm
        have hpx := plDs_at hx
        have hxj := hstk _ hxm
        have hxB : blkD (plD x) ≤ blkDs (plDs kids) := blkDs_mem (plDs_mem hxm)
        have hi1 : (i + 1).toNat = i.toNat + 1 := by omega
        have hrec := ih x (by omega) (by omega)
        have ht1 := htk (i.toNat + 1)
        have hstep : colDs ((plDs kids).take (i + 1).toNat) = colDs ((plDs kids).take i.toNat) + colD (plD x) := by rw [hi1, take_snocD _ _ _ hpx, colDs_app]; simp [colDs]
        have hxc := colD_bd (plD x)
        repeat (first | refine sy_k rfl rfl ?_ | (refine gO ?_; first | refine sy_ov (ov_p rfl) rfl rfl ?_ | (refine sy_ov (ov_indexAddr rfl rfl ?_ ?_) rfl rfl ?_; omega; omega)) | (refine sy_cond_t rfl ?_ ?_; focus (first | with_reducible rfl | assumption | omega | (simp <;> first | omega | assumption))))
        refine sy_ov (ov_elem (f := docV) hat hx rfl rfl docV_len) rfl rfl ?_
        obtain ⟨xk, xn, xs, xp, xc, xkids⟩ := x
        repeat (first | refine sy_k rfl rfl ?_ | (refine gO ?_; first | refine sy_ov (ov_p rfl) rfl rfl ?_ | (refine gL ?_; refine sy_ov (ov_ld 0 rfl rfl rfl) rfl rfl ?_) | (refine gS ?_; refine sy_store 0 rfl rfl rfl rfl rfl rfl rfl rfl ?_) | (refine sy_alloc rfl rfl rfl ?_; intro _)))
        refine sy_ov (ov_call rfl (fun w hw => hrec w (hxj.at hw))) rfl rfl ?_
        repeat (first | refine sy_k rfl rfl ?_ | (refine gO ?_; first | refine sy_ov (ov_p rfl) rfl rfl ?_ | (refine gB ?_; (refine sy_ov (ov_ar rfl rfl rfl ?_ ?_) rfl rfl ?_; omega; omega))))
        refine sy_back (i + 1) ⟨by omega, by omega⟩ (by omega) ⟨⟨_, rfl, ?_⟩, ⟨_, rfl, rfl⟩, ⟨_, rfl, rfl⟩, ⟨_, rfl, rfl⟩, trivial⟩ (List.nil_sublist _)
        rw [hstep, Int.add_assoc]
      · have hall : (plDs kids).take i.toNat = plDs kids := by rw [List.take_of_length_le]; rw [plDs_len]; omega
        rw [hall]
        repeat (first | refine sy_k rfl rfl ?_ | (refine gO ?_; refine sy_ov (ov_p rfl) rfl rfl ?_) | (refine sy_cond_f rfl ?_ ?_; focus (first | with_reducible rfl | assumption | omega | (simp <;> first | omega | assumption))) | refine sy_rt ?_)
        exact ret1 rfl rfl rfl
set_option maxRecDepth 20000 in
set_option maxHeartbeats 4000000 in
theorem groups29_c : ∀ (m : Nat) (z : DocA), SizeOf.sizeOf z ≤ m → blkD (plD z) ≤ 4000000000000 → ∀ (w : World), DocJ w z → Calls Try.prog 34 #[.agg ⟨docV z⟩] w fun e w' => e = .returned (.int .i64 (grpD (plD z))) ∧ Below w.heap.size w w' := by
  intro m
  induction m with
  | zero => intro z hz; cases z; simp at hz
  | succ m ih =>
    intro z hz hB w hw0
    obtain ⟨k, n, s, p, c, kids⟩ := z
    obtain ⟨hb, hs2, hkid⟩ := hw0.parts
    have hm : kids.length ≤ 9223372036854775807 := hb
    have hst : St (fun _ => False) w (fun w => IsSl w 4 p kids.length (kids.flatMap docV)) := St.start (IsSl.bl _ _ _ _) hs2
    have hstk : ∀ x ∈ kids, St (fun _ => False) w (fun w => DocJ w x) := fun x hx => St.start (DocJ.bl _) (hkid x hx)
    simp only [plD, blkD] at hB
    obtain ⟨A, hA⟩ : ∃ A : Int, (if k = 7 then 1 else 0) = A := ⟨_, rfl⟩
    rw [show grpD (plD (.mk k n s p c kids)) = A + grpDs (plDs kids) by simp only [plD, grpD, hA]]
    have htk : ∀ i : Nat, 0 ≤ grpDs ((plDs kids).take i) ∧ grpDs ((plDs kids).take i) ≤ blkDs (plDs kids) := fun i => by
      have h1 := grpDs_bd ((plDs kids).take i)
      have h2 := blkDs_take (plDs kids) i
      omega
    by_cases k2 : k = 7
    · rw [if_pos k2] at hA
      subst hA
      refine sy_enter rfl rfl ?_
      simp only [initFr]
      repeat (first | refine sy_k rfl rfl ?_ | (refine gO ?_; first | refine sy_ov (ov_p rfl) rfl rfl ?_ | (refine gK ?_; refine sy_ov (ov_lens rfl) rfl rfl ?_) | (refine gL ?_; refine sy_ov (ov_ld 0 rfl rfl rfl) rfl rfl ?_) | refine sy_ov (ov_fieldAddr rfl rfl rfl) rfl rfl ?_ | (refine sy_box rfl rfl rfl ?_; intro _)) | (refine sy_cond_t rfl ?_ ?_; focus (first | with_reducible rfl | assumption | omega | (simp <;> first | omega | assumption))))
      refine sy_loop (α := Int) (fun i => [(3, .int .i64 (1 + grpDs ((plDs kids).take i.toNat))), (10, .slice p kids.length c), (11, .int .i64 (kids.length : Int)), (12, .int .i64 i)]) (fun _ => []) (fun i => 0 ≤ i ∧ i ≤ kids.length) (fun i => (kids.length - i).toNat) 0 ⟨by omega, by omega⟩ ⟨⟨_, rfl, by simp [grpDs]⟩, ⟨_, rfl, rfl⟩, ⟨_, rfl, rfl⟩, ⟨_, rfl, rfl⟩, trivial⟩ (List.nil_sublist _) ?_
      rintro i ⟨i0, i1⟩
      have ht := htk i.toNat
      by_cases hlt : i < kids.length
      · obtain ⟨x, hx⟩ : ∃ x, kids[i.toNat]? = some x := ⟨_, List.getElem?_eq_getElem (by omega)⟩
        have hxm := List.mem_of_getElem? hx
        obtain ⟨b, off, hp, hat⟩ := hst.addr (by omega)
        subst hp
        have hsz := sizeD_kid (k := k) (n := n) (s := s) (p := some ⟨b, off, none⟩) (c := c) hxm
        have hpx := plDs_at hx
        have hxj := hstk _ hxm
        have hxB : blkD (plD x) ≤ blkDs (plDs kids) := blkDs_mem (plDs_mem hxm)
        have hi1 : (i + 1).toNat = i.toNat + 1 := by omega
        have hrec := ih x (by omega) (by omega)
        have ht1 := htk (i.toNat + 1)
        have hstep : grpDs ((plDs kids).take (i + 1).toNat) = grpDs ((plDs kids).take i.toNat) + grpD (plD x) := by rw [hi1, take_snocD _ _ _ hpx, grpDs_app]; simp [grpDs]
        have hxc := grpD_bd (plD x)
        repeat (first | refine sy_k rfl rfl ?_ | (refine gO ?_; first | refine sy_ov (ov_p rfl) rfl rfl ?_ | (refine sy_ov (ov_indexAddr rfl rfl ?_ ?_) rfl rfl ?_; omega; omega)) | (refine sy_cond_t rfl ?_ ?_; focus (first | with_reducible rfl | assumption | omega | (simp <;> first | omega | assumption))))
        refine sy_ov (ov_elem (f := docV) hat hx rfl rfl docV_len) rfl rfl ?_
        obtain ⟨xk, xn, xs, xp, xc, xkids⟩ := x
        repeat (first | refine sy_k rfl rfl ?_ | (refine gO ?_; first | refine sy_ov (ov_p rfl) rfl rfl ?_ | (refine gL ?_; refine sy_ov (ov_ld 0 rfl rfl rfl) rfl rfl ?_) | (refine gS ?_; refine sy_store 0 rfl rfl rfl rfl rfl rfl rfl rfl ?_) | (refine sy_alloc rfl rfl rfl ?_; intro _)))
        refine sy_ov (ov_call rfl (fun w hw => hrec w (hxj.at hw))) rfl rfl ?_
        repeat (first | refine sy_k rfl rfl ?_ | (refine gO ?_; first | refine sy_ov (ov_p rfl) rfl rfl ?_ | (refine gB ?_; (refine sy_ov (ov_ar rfl rfl rfl ?_ ?_) rfl rfl ?_; omega; omega))))
        refine sy_back (i + 1) ⟨by omega, by omega⟩ (by omega) ⟨⟨_, rfl, ?_⟩, ⟨_, rfl, rfl⟩, ⟨_, rfl, rfl⟩, ⟨_, rfl, rfl⟩, trivial⟩ (List.nil_sublist _)
        rw [hstep, Int.add_assoc]
      · have hall : (plDs kids).take i.toNat = plDs kids := by rw [List.take_of_length_le]; rw [plDs_len]; omega
        rw [hall]
        repeat (first | refine sy_k rfl rfl ?_ | (refine gO ?_; refine sy_ov (ov_p rfl) rfl rfl ?_) | (refine sy_cond_f rfl ?_ ?_; focus (first | with_reducible rfl | assumption | omega | (simp <;> first | omega | assumption))) | refine sy_rt ?_)
        exact ret1 rfl rfl rfl
    · rw [if_neg k2] at hA
      subst hA
      refine sy_enter rfl rfl ?_
      simp only [initFr]
      repeat (first | refine sy_k rfl rfl ?_ | (refine gO ?_; first | refine sy_ov (ov_p rfl) rfl rfl ?_ | (refine gK ?_; refine sy_ov (ov_lens rfl) rfl rfl ?_) | (refine gL ?_; refine sy_ov (ov_ld 0 rfl rfl rfl) rfl rfl ?_) | refine sy_ov (ov_fieldAddr rfl rfl rfl) rfl rfl ?_ | (refine sy_box rfl rfl rfl ?_; intro _)) | (refine sy_cond_f rfl ?_ ?_; focus (first | with_reducible rfl | assumption | omega | (simp <;> first | omega | assumption))))
      refine sy_loop (α := Int) (fun i => [(3, .int .i64 (0 + grpDs ((plDs kids).take i.toNat))), (10, .slice p kids.length c), (11, .int .i64 (kids.length : Int)), (12, .int .i64 i)]) (fun _ => []) (fun i => 0 ≤ i ∧ i ≤ kids.length) (fun i => (kids.length - i).toNat) 0 ⟨by omega, by omega⟩ ⟨⟨_, rfl, by simp [grpDs]⟩, ⟨_, rfl, rfl⟩, ⟨_, rfl, rfl⟩, ⟨_, rfl, rfl⟩, trivial⟩ (List.nil_sublist _) ?_
      rintro i ⟨i0, i1⟩
      have ht := htk i.toNat
      by_cases hlt : i < kids.length
      · obtain ⟨x, hx⟩ : ∃ x, kids[i.toNat]? = some x := ⟨_, List.getElem?_eq_getElem (by omega)⟩
        have hxm := List.mem_of_getElem? hx
        obtain ⟨b, off, hp, hat⟩ := hst.addr (by omega)
        subst hp
        have hsz := sizeD_kid (k := k) (n := n) (s := s) (p := some ⟨b, off, none⟩) (c := c) hxm
        have hpx := plDs_at hx
        have hxj := hstk _ hxm
        have hxB : blkD (plD x) ≤ blkDs (plDs kids) := blkDs_mem (plDs_mem hxm)
        have hi1 : (i + 1).toNat = i.toNat + 1 := by omega
        have hrec := ih x (by omega) (by omega)
        have ht1 := htk (i.toNat + 1)
        have hstep : grpDs ((plDs kids).take (i + 1).toNat) = grpDs ((plDs kids).take i.toNat) + grpD (plD x) := by rw [hi1, take_snocD _ _ _ hpx, grpDs_app]; simp [grpDs]
        have hxc := grpD_bd (plD x)
        repeat (first | refine sy_k rfl rfl ?_ | (refine gO ?_; first | refine sy_ov (ov_p rfl) rfl rfl ?_ | (refine sy_ov (ov_indexAddr rfl rfl ?_ ?_) rfl rfl ?_; omega; omega)) | (refine sy_cond_t rfl ?_ ?_; focus (first | with_reducible rfl | assumption | omega | (simp <;> first | omega | assumption))))
        refine sy_ov (ov_elem (f := docV) hat hx rfl rfl docV_len) rfl rfl ?_
        obtain ⟨xk, xn, xs, xp, xc, xkids⟩ := x
        repeat (first | refine sy_k rfl rfl ?_ | (refine gO ?_; first | refine sy_ov (ov_p rfl) rfl rfl ?_ | (refine gL ?_; refine sy_ov (ov_ld 0 rfl rfl rfl) rfl rfl ?_) | (refine gS ?_; refine sy_store 0 rfl rfl rfl rfl rfl rfl rfl rfl ?_) | (refine sy_alloc rfl rfl rfl ?_; intro _)))
        refine sy_ov (ov_call rfl (fun w hw => hrec w (hxj.at hw))) rfl rfl ?_
        repeat (first | refine sy_k rfl rfl ?_ | (refine gO ?_; first | refine sy_ov (ov_p rfl) rfl rfl ?_ | (refine gB ?_; (refine sy_ov (ov_ar rfl rfl rfl ?_ ?_) rfl rfl ?_; omega; omega))))
        refine sy_back (i + 1) ⟨by omega, by omega⟩ (by omega) ⟨⟨_, rfl, ?_⟩, ⟨_, rfl, rfl⟩, ⟨_, rfl, rfl⟩, ⟨_, rfl, rfl⟩, trivial⟩ (List.nil_sublist _)
        rw [hstep, Int.add_assoc]
      · have hall : (plDs kids).take i.toNat = plDs kids := by rw [List.take_of_length_le]; rw [plDs_len]; omega
        rw [hall]
        repeat (first | refine sy_k rfl rfl ?_ | (refine gO ?_; refine sy_ov (ov_p rfl) rfl rfl ?_) | (refine sy_cond_f rfl ?_ ?_; focus (first | with_reducible rfl | assumption | omega | (simp <;> first | omega | assumption))) | refine sy_rt ?_)
        exact ret1 rfl rfl rfl
set_option maxRecDepth 20000 in
set_option maxHeartbeats 4000000 in
theorem width29_c (z : DocA) (hB : blkD (plD z) ≤ 4000000000000) (n : Int) (b : Bool) (hb : (rightD (plD z) && !forceD (plD z)) = b) (hn : (if b = true then colD (plD z) else 0) = n) (w : World) (hw0 : DocJ w z) : Calls Try.prog 33 #[.agg ⟨docV z⟩] w fun e w' => e = .returned (.tuple #[.int .i64 n, .bool b]) ∧ Below w.heap.size w w' := by
  have hJ : St (fun _ => False) w (fun w => DocJ w z) := St.start (DocJ.bl z) hw0
  have hr := fun w h => right29_c _ z (Nat.le_refl _) hB w h
  have hf := fun w h => forced29_c _ z (Nat.le_refl _) w h
  have hc := fun w h => columns29_c _ z (Nat.le_refl _) hB w h
  obtain ⟨R, hR⟩ : ∃ R, rightD (plD z) = R := ⟨_, rfl⟩
  obtain ⟨F, hF⟩ : ∃ F, forceD (plD z) = F := ⟨_, rfl⟩
  rw [hR] at hr hb
  rw [hF] at hf hb
  subst hb
  obtain ⟨k, n', s, p, c, kids⟩ := z
  cases R
  · subst hn
    refine sy_enter rfl rfl ?_
    simp only [initFr]
    repeat (first | refine sy_k rfl rfl ?_ | (refine gO ?_; first | refine sy_ov (ov_p rfl) rfl rfl ?_ | (refine gL ?_; refine sy_ov (ov_ld 0 rfl rfl rfl) rfl rfl ?_) | (refine sy_box rfl rfl rfl ?_; intro _)))
    refine sy_ov (ov_call rfl (fun w hw => hr w (hJ.at hw))) rfl rfl ?_
    repeat (first | refine sy_k rfl rfl ?_ | (refine gO ?_; first | refine sy_ov (ov_p rfl) rfl rfl ?_ | (refine gG ?_; (refine sy_guard_no rfl rfl rfl rfl rfl ?_ ?_; focus (first | with_reducible rfl | assumption | omega | (simp <;> first | omega | assumption)))) | refine sy_ov (ov_pick rfl rfl rfl) rfl rfl ?_) | (refine sy_cond_t rfl ?_ ?_; focus (first | with_reducible rfl | assumption | omega | (simp <;> first | omega | assumption))) | refine sy_rt ?_)
    exact ret2 rfl rfl rfl rfl
  · cases F
    · simp only [Bool.not_false, Bool.and_self, if_true] at hn
      rw [hn] at hc
      refine sy_enter rfl rfl ?_
      simp only [initFr]
      repeat (first | refine sy_k rfl rfl ?_ | (refine gO ?_; first | refine sy_ov (ov_p rfl) rfl rfl ?_ | (refine gL ?_; refine sy_ov (ov_ld 0 rfl rfl rfl) rfl rfl ?_) | (refine sy_box rfl rfl rfl ?_; intro _)))
      refine sy_ov (ov_call rfl (fun w hw => hr w (hJ.at hw))) rfl rfl ?_
      repeat ((refine gO ?_; first | refine sy_ov (ov_p rfl) rfl rfl ?_ | (refine gG ?_; (refine sy_guard_yes rfl rfl rfl rfl rfl ?_ ?_; focus (first | with_reducible rfl | assumption | omega | (simp <;> first | omega | assumption)))) | (refine gL ?_; refine sy_ov (ov_ld 0 rfl rfl rfl) rfl rfl ?_)))
      refine sy_ov (ov_call rfl (fun w hw => hf w (hJ.at hw))) rfl rfl ?_
      repeat (first | refine sy_k rfl rfl ?_ | (refine gO ?_; first | (refine gL ?_; refine sy_ov (ov_ld 0 rfl rfl rfl) rfl rfl ?_) | (refine sy_ov (ov_pick_f rfl rfl ?_) rfl rfl ?_; focus (with_reducible rfl))) | (refine sy_cond_f rfl ?_ ?_; focus (first | with_reducible rfl | assumption | omega | (simp <;> first | omega | assumption))))
      refine sy_ov (ov_call rfl (fun w hw => hc w (hJ.at hw))) rfl rfl ?_
      repeat (first | refine sy_k rfl rfl ?_ | (refine gO ?_; refine sy_ov (ov_p rfl) rfl rfl ?_) | refine sy_rt ?_)
      exact ret2 rfl rfl rfl rfl
    · subst hn
      refine sy_enter rfl rfl ?_
      simp only [initFr]
      repeat (first | refine sy_k rfl rfl ?_ | (refine gO ?_; first | refine sy_ov (ov_p rfl) rfl rfl ?_ | (refine gL ?_; refine sy_ov (ov_ld 0 rfl rfl rfl) rfl rfl ?_) | (refine sy_box rfl rfl rfl ?_; intro _)))
      refine sy_ov (ov_call rfl (fun w hw => hr w (hJ.at hw))) rfl rfl ?_
      repeat ((refine gO ?_; first | refine sy_ov (ov_p rfl) rfl rfl ?_ | (refine gG ?_; (refine sy_guard_yes rfl rfl rfl rfl rfl ?_ ?_; focus (first | with_reducible rfl | assumption | omega | (simp <;> first | omega | assumption)))) | (refine gL ?_; refine sy_ov (ov_ld 0 rfl rfl rfl) rfl rfl ?_)))
      refine sy_ov (ov_call rfl (fun w hw => hf w (hJ.at hw))) rfl rfl ?_
      repeat (first | refine sy_k rfl rfl ?_ | (refine gO ?_; first | refine sy_ov (ov_p rfl) rfl rfl ?_ | (refine sy_ov (ov_pick_f rfl rfl ?_) rfl rfl ?_; focus (with_reducible rfl))) | (refine sy_cond_t rfl ?_ ?_; focus (first | with_reducible rfl | assumption | omega | (simp <;> first | omega | assumption))) | refine sy_rt ?_)
      exact ret2 rfl rfl rfl rfl
end Go.Proofs.Ytldjakeigjngoaa
/- Contracts: the flat text of a document; how many there are; whether two are the same. -/
set_option linter.unusedVariables false
set_option linter.unusedSimpArgs false
namespace Go.Proofs.Ytldjakeigjngoaa
open Go.RowKit Bf
abbrev ptrD (b : Nat) : Value := .pointer (some ⟨b, 0, none⟩)
/-- What a document's writing leaves. -/
def DwP (b : Nat) (s : List UInt8) (u : Value) (es : List En) : Prop := u = .tuple #[] ∧ ∃ v, es = [bld b v s]
def DwSpec (z : DocA) : Prop := ∀ (b : Nat) (v : Value) (t : List UInt8), t.length + blkD (plD z) ≤ 60000000000000 → ∀ w : World, HpOk (domL [bld b v t]) w [bld b v t] w → St (domL [bld b v t]) w (fun w => DocJ w z) →
  Calls Try.prog 59 #[ptrD b, .agg ⟨docV z⟩] w (PostE [bld b v t] w (DwP b (t ++ flatD (plD z))))
structure DwS where
  i : Int
  v : Value
set_option maxRecDepth 20000 in
set_option maxHeartbeats 8000000 in
theorem write29_c : ∀ (m : Nat) (z : DocA), SizeOf.sizeOf z ≤ m → DwSpec z := by
  intro m
  induction m with
  | zero => intro z hz; cases z; simp at hz
  | succ m ih =>
    intro z hz b v t hlen w hw0 hJ
    obtain ⟨k, n, s, p, c, kids⟩ := z
    have hkw : ∀ x ∈ kids, DwSpec x := fun x hx => ih x (by have := sizeD_kid (k := k) (n := n) (s := s) (p := p) (c := c) hx; omega)
    have hm : kids.length ≤ 9223372036854775807 := (hJ w (Keep.refl _ _)).parts.1
    have hst : St (domL [bld b v t]) w (fun w => IsSl w 4 p kids.length (kids.flatMap docV)) := hJ.imp fun w h => h.parts.2.1
    simp only [plD, blkD] at hlen
    simp only [plD, flatD]
    by_cases k1 : k = 1
    · subst k1
      rw [if_pos rfl]
      refine sy_enterEw hw0 rfl rfl ?_
      simp only [initFr]
      repeat (first | refine sy_k rfl rfl ?_ | (refine gO ?_; first | refine sy_ov (ov_p rfl) rfl rfl ?_ | (refine gL ?_; refine sy_ov (ov_ld 0 rfl rfl rfl) rfl rfl ?_) | refine sy_ov (ov_fieldAddr rfl rfl rfl) rfl rfl ?_ | (refine sy_box rfl rfl rfl ?_; intro _)) | (refine sy_cond_t rfl ?_ ?_; focus (first | with_reducible rfl | assumption | omega | (simp <;> first | omega | assumption))))
      rename_i b3
      refine sy_works 1 rfl rfl rfl (writeString_w b v t s (by first | omega | (simp; done) | (simp; omega)) (by first | omega | (simp; done) | (simp; omega))) ?_
      rintro r e' ⟨rfl, v', rfl⟩
      simp only [List.set_cons_zero, List.set_cons_succ]
      have hl0 : (t ++ s).length = t.length + s.length := by simp
      repeat (first | refine sy_k rfl rfl ?_ | (refine gO ?_; first | refine sy_ov (ov_p rfl) rfl rfl ?_ | (refine gK ?_; refine sy_ov (ov_lens rfl) rfl rfl ?_) | (refine gL ?_; refine sy_ov (ov_ld 0 rfl rfl rfl) rfl rfl ?_) | refine sy_ov (ov_fieldAddr rfl rfl rfl) rfl rfl ?_))
      have e0 : bld b v' (t ++ s) = bld b v' ((t ++ s) ++ flatDs ((plDs kids).take (0 : Int).toNat)) := by simp [flatDs]
      refine sy_loop (α := DwS) (fun x => [(0, ptrD b), (19, .slice p kids.length c), (20, .int .i64 (kids.length : Int)), (21, .int .i64 x.i)]) (fun x => [blk b3 38 (docV (.mk 1 n s p c kids)), bld b x.v ((t ++ s) ++ flatDs ((plDs kids).take x.i.toNat))]) (fun x => 0 ≤ x.i ∧ x.i ≤ kids.length) (fun x => (kids.length - x.i).toNat) ⟨0, v'⟩ ⟨Int.le_refl _, by dsimp only; omega⟩ ⟨⟨_, rfl, rfl⟩, ⟨_, rfl, rfl⟩, ⟨_, rfl, rfl⟩, ⟨_, rfl, rfl⟩, trivial⟩ (by dsimp only; rw [← e0]; exact sr) ?_
      rintro ⟨i, vv⟩ ⟨i0, i1⟩
      dsimp only at i0 i1 ⊢
      obtain ⟨T, hT⟩ : ∃ T, (t ++ s) ++ flatDs ((plDs kids).take i.toNat) = T := ⟨_, rfl⟩
      have hTl : T.length ≤ ((t ++ s)).length + blkDs ((plDs kids).take i.toNat) := by
        rw [← hT, List.length_append]; have := flatDs_le ((plDs kids).take i.toNat); omega
      rw [hT]
      by_cases hlt : i < kids.length
      · obtain ⟨x, hx⟩ : ∃ x, kids[i.toNat]? = some x := ⟨_, List.getElem?_eq_getElem (by omega)⟩
        have hxm := List.mem_of_getElem? hx
        obtain ⟨bk, off, hp, hat⟩ := hst.addr (by omega)
        subst hp
        have hxj : St (domL [bld b v t]) w (fun w => DocJ w x) := hJ.imp fun w h => h.parts.2.2 x hxm
        have hrec := hkw x hxm
        have hpx := plDs_at hx
        have hi1 : (i + 1).toNat = i.toNat + 1 := by omega
        have hstep : T ++ flatD (plD x) = (t ++ s) ++ flatDs ((plDs kids).take (i + 1).toNat) := by
          rw [hi1, take_snocD _ _ _ hpx, flatDs_app, ← hT]; simp [flatDs]
        have hbs : blkDs ((plDs kids).take i.toNat) + blkD (plD x) ≤ blkDs (plDs kids) := by
          have h1 := blkDs_take (plDs kids) (i.toNat + 1)
          rw [take_snocD _ _ _ hpx, blkDs_app] at h1
          simp only [blkDs] at h1; omega
        repeat (first | refine sy_k rfl rfl ?_ | (refine gO ?_; first | refine sy_ov (ov_p rfl) rfl rfl ?_ | (refine sy_ov (ov_indexAddr rfl rfl ?_ ?_) rfl rfl ?_; omega; omega)) | (refine sy_cond_t rfl ?_ ?_; focus (first | with_reducible rfl | assumption | omega | (simp <;> first | omega | assumption))))
        refine sy_ov (ov_elem (f := docV) hat hx rfl rfl docV_len) rfl rfl ?_
        obtain ⟨xk, xn, xs, xp, xc, xkids⟩ := x
        repeat (first | refine sy_k rfl rfl ?_ | (refine gO ?_; first | refine sy_ov (ov_p rfl) rfl rfl ?_ | (refine gL ?_; refine sy_ov (ov_ld 0 rfl rfl rfl) rfl rfl ?_) | (refine gS ?_; refine sy_store 0 rfl rfl rfl rfl rfl rfl rfl rfl ?_) | (refine sy_alloc rfl rfl rfl ?_; intro _)))
        refine sy_front 2 rfl rfl ?_
        simp only [List.eraseIdx_cons_succ, List.eraseIdx_cons_zero]
        refine sy_callEw [bld b vv T] rfl rfl rfl (fun w hw => hrec b vv T (by omega) w hw.self (hxj.callE hw)) ?_
        rintro u es' ⟨rfl, v2, rfl⟩
        simp only [List.cons_append, List.nil_append]
        repeat (first | refine sy_k rfl rfl ?_ | (refine gO ?_; first | refine sy_ov (ov_p rfl) rfl rfl ?_ | (refine gB ?_; (refine sy_ov (ov_ar rfl rfl rfl ?_ ?_) rfl rfl ?_; omega; omega))))
        refine sy_order [2, 0, 1] rfl rfl ?_
        simp only [List.set_cons_zero, List.set_cons_succ, List.filterMap_cons, List.filterMap_nil, List.getElem?_cons_zero, List.getElem?_cons_succ]
        refine sy_back ⟨i + 1, v2⟩ ⟨by dsimp only; omega, by dsimp only; omega⟩ (by dsimp only; omega) ⟨⟨_, rfl, rfl⟩, ⟨_, rfl, rfl⟩, ⟨_, rfl, rfl⟩, ⟨_, rfl, rfl⟩, trivial⟩ (by dsimp only; rw [← hstep]; exact sk (sk (List.nil_sublist _)))
      · have hall : (plDs kids).take i.toNat = plDs kids := by rw [List.take_of_length_le]; rw [plDs_len]; omega
        rw [hall] at hT
        repeat (first | refine sy_k rfl rfl ?_ | (refine gO ?_; refine sy_ov (ov_p rfl) rfl rfl ?_) | (refine sy_cond_f rfl ?_ ?_; focus (first | with_reducible rfl | assumption | omega | (simp <;> first | omega | assumption))))
        refine end0w rfl fun w' hw' => postE hw' [bld b vv T] (sub_self (sd sr)) rfl ⟨rfl, vv, ?_⟩
        rw [← hT]; simp only [List.append_assoc, List.nil_append]
    · by_cases k2 : k = 2
      · subst k2
        rw [if_neg k1, if_pos rfl]
        refine sy_enterEw hw0 rfl rfl ?_
        simp only [initFr]
        repeat (first | refine sy_k rfl rfl ?_ | (refine gO ?_; first | refine sy_ov (ov_p rfl) rfl rfl ?_ | (refine gL ?_; refine sy_ov (ov_ld 0 rfl rfl rfl) rfl rfl ?_) | refine sy_ov (ov_fieldAddr rfl rfl rfl) rfl rfl ?_ | (refine sy_box rfl rfl rfl ?_; intro _)) | (refine sy_cond_t rfl ?_ ?_; focus (first | with_reducible rfl | assumption | omega | (simp <;> first | omega | assumption))) | (refine sy_cond_f rfl ?_ ?_; focus (first | with_reducible rfl | assumption | omega | (simp <;> first | omega | assumption))))
        rename_i b3
        refine sy_works 1 rfl rfl rfl (writeByte_w b v t 32 (by omega) (by omega) (by first | omega | (simp; done) | (simp; omega))) ?_
        rintro r e' ⟨rfl, v', rfl⟩
        simp only [List.set_cons_zero, List.set_cons_succ]
        have hl0 : (t ++ [32]).length = t.length + 1 := by simp
        repeat (first | refine sy_k rfl rfl ?_ | (refine gO ?_; first | refine sy_ov (ov_p rfl) rfl rfl ?_ | (refine gK ?_; refine sy_ov (ov_lens rfl) rfl rfl ?_) | (refine gL ?_; refine sy_ov (ov_ld 0 rfl rfl rfl) rfl rfl ?_) | refine sy_ov (ov_fieldAddr rfl rfl rfl) rfl rfl ?_))
        have e0 : bld b v' (t ++ [32]) = bld b v' ((t ++ [32]) ++ flatDs ((plDs kids).take (0 : Int).toNat)) := by simp [flatDs]
        refine sy_loop (α := DwS) (fun x => [(0, ptrD b), (19, .slice p kids.length c), (20, .int .i64 (kids.length : Int)), (21, .int .i64 x.i)]) (fun x => [blk b3 38 (docV (.mk 2 n s p c kids)), bld b x.v ((t ++ [32]) ++ flatDs ((plDs kids).take x.i.toNat))]) (fun x => 0 ≤ x.i ∧ x.i ≤ kids.length) (fun x => (kids.length - x.i).toNat) ⟨0, v'⟩ ⟨Int.le_refl _, by dsimp only; omega⟩ ⟨⟨_, rfl, rfl⟩, ⟨_, rfl, rfl⟩, ⟨_, rfl, rfl⟩, ⟨_, rfl, rfl⟩, trivial⟩ (by dsimp only; rw [← e0]; exact sr) ?_
        rintro ⟨i, vv⟩ ⟨i0, i1⟩
        dsimp only at i0 i1 ⊢
        obtain ⟨T, hT⟩ : ∃ T, (t ++ [32]) ++ flatDs ((plDs kids).take i.toNat) = T := ⟨_, rfl⟩
        have hTl : T.length ≤ ((t ++ [32])).length + blkDs ((plDs kids).take i.toNat) := by
          rw [← hT, List.length_append]; have := flatDs_le ((plDs kids).take i.toNat); omega
        rw [hT]
        by_cases hlt : i < kids.length
        · obtain ⟨x, hx⟩ : ∃ x, kids[i.toNat]? = some x := ⟨_, List.getElem?_eq_getElem (by omega)⟩
          have hxm := List.mem_of_getElem? hx
          obtain ⟨bk, off, hp, hat⟩ := hst.addr (by omega)
          subst hp
          have hxj : St (domL [bld b v t]) w (fun w => DocJ w x) := hJ.imp fun w h => h.parts.2.2 x hxm
          have hrec := hkw x hxm
          have hpx := plDs_at hx
          have hi1 : (i + 1).toNat = i.toNat + 1 := by omega
          have hstep : T ++ flatD (plD x) = (t ++ [32]) ++ flatDs ((plDs kids).take (i + 1).toNat) := by
            rw [hi1, take_snocD _ _ _ hpx, flatDs_app, ← hT]; simp [flatDs]
          have hbs : blkDs ((plDs kids).take i.toNat) + blkD (plD x) ≤ blkDs (plDs kids) := by
            have h1 := blkDs_take (plDs kids) (i.toNat + 1)
            rw [take_snocD _ _ _ hpx, blkDs_app] at h1
            simp only [blkDs] at h1; omega
          repeat (first | refine sy_k rfl rfl ?_ | (refine gO ?_; first | refine sy_ov (ov_p rfl) rfl rfl ?_ | (refine sy_ov (ov_indexAddr rfl rfl ?_ ?_) rfl rfl ?_; omega; omega)) | (refine sy_cond_t rfl ?_ ?_; focus (first | with_reducible rfl | assumption | omega | (simp <;> first | omega | assumption))))
          refine sy_ov (ov_elem (f := docV) hat hx rfl rfl docV_len) rfl rfl ?_
          obtain ⟨xk, xn, xs, xp, xc, xkids⟩ := x
          repeat (first | refine sy_k rfl rfl ?_ | (refine gO ?_; first | refine sy_ov (ov_p rfl) rfl rfl ?_ | (refine gL ?_; refine sy_ov (ov_ld 0 rfl rfl rfl) rfl rfl ?_) | (refine gS ?_; refine sy_store 0 rfl rfl rfl rfl rfl rfl rfl rfl ?_) | (refine sy_alloc rfl rfl rfl ?_; intro _)))
          refine sy_front 2 rfl rfl ?_
          simp only [List.eraseIdx_cons_succ, List.eraseIdx_cons_zero]
          refine sy_callEw [bld b vv T] rfl rfl rfl (fun w hw => hrec b vv T (by omega) w hw.self (hxj.callE hw)) ?_
          rintro u es' ⟨rfl, v2, rfl⟩
          simp only [List.cons_append, List.nil_append]
          repeat (first | refine sy_k rfl rfl ?_ | (refine gO ?_; first | refine sy_ov (ov_p rfl) rfl rfl ?_ | (refine gB ?_; (refine sy_ov (ov_ar rfl rfl rfl ?_ ?_) rfl rfl ?_; omega; omega))))
          refine sy_order [2, 0, 1] rfl rfl ?_
          simp only [List.set_cons_zero, List.set_cons_succ, List.filterMap_cons, List.filterMap_nil, List.getElem?_cons_zero, List.getElem?_cons_succ]
          refine sy_back ⟨i + 1, v2⟩ ⟨by dsimp only; omega, by dsimp only; omega⟩ (by dsimp only; omega) ⟨⟨_, rfl, rfl⟩, ⟨_, rfl, rfl⟩, ⟨_, rfl, rfl⟩, ⟨_, rfl, rfl⟩, trivial⟩ (by dsimp only; rw [← hstep]; exact sk (sk (List.nil_sublist _)))
        · have hall : (plDs kids).take i.toNat = plDs kids := by rw [List.take_of_length_le]; rw [plDs_len]; omega
          rw [hall] at hT
          repeat (first | refine sy_k rfl rfl ?_ | (refine gO ?_; refine sy_ov (ov_p rfl) rfl rfl ?_) | (refine sy_cond_f rfl ?_ ?_; focus (first | with_reducible rfl | assumption | omega | (simp <;> first | omega | assumption))))
          refine end0w rfl fun w' hw' => postE hw' [bld b vv T] (sub_self (sd sr)) rfl ⟨rfl, vv, ?_⟩
          rw [← hT]; simp only [List.append_assoc, List.nil_append]
      · rw [if_neg k1, if_neg k2]
        refine sy_enterEw hw0 rfl rfl ?_
        simp only [initFr]
        repeat (first | refine sy_k rfl rfl ?_ | (refine gO ?_; first | refine sy_ov (ov_p rfl) rfl rfl ?_ | (refine gK ?_; refine sy_ov (ov_lens rfl) rfl rfl ?_) | (refine gL ?_; refine sy_ov (ov_ld 0 rfl rfl rfl) rfl rfl ?_) | refine sy_ov (ov_fieldAddr rfl rfl rfl) rfl rfl ?_ | (refine sy_box rfl rfl rfl ?_; intro _)) | (refine sy_cond_f rfl ?_ ?_; focus (first | with_reducible rfl | assumption | omega | (simp <;> first | omega | assumption))))
        rename_i b3
        have hl0 : (t ++ []).length = t.length := by simp
        have e0 : bld b v t = bld b v ((t ++ []) ++ flatDs ((plDs kids).take (0 : Int).toNat)) := by simp [flatDs]
        refine sy_loop (α := DwS) (fun x => [(0, ptrD b), (19, .slice p kids.length c), (20, .int .i64 (kids.length : Int)), (21, .int .i64 x.i)]) (fun x => [blk b3 38 (docV (.mk k n s p c kids)), bld b x.v ((t ++ []) ++ flatDs ((plDs kids).take x.i.toNat))]) (fun x => 0 ≤ x.i ∧ x.i ≤ kids.length) (fun x => (kids.length - x.i).toNat) ⟨0, v⟩ ⟨Int.le_refl _, by dsimp only; omega⟩ ⟨⟨_, rfl, rfl⟩, ⟨_, rfl, rfl⟩, ⟨_, rfl, rfl⟩, ⟨_, rfl, rfl⟩, trivial⟩ (by dsimp only; rw [← e0]; exact sr) ?_
        rintro ⟨i, vv⟩ ⟨i0, i1⟩
        dsimp only at i0 i1 ⊢
        obtain ⟨T, hT⟩ : ∃ T, (t ++ []) ++ flatDs ((plDs kids).take i.toNat) = T := ⟨_, rfl⟩
        have hTl : T.length ≤ ((t ++ [])).length + blkDs ((plDs kids).take i.toNat) := by
          rw [← hT, List.length_append]; have := flatDs_le ((plDs kids).take i.toNat); omega
        rw [hT]
        by_cases hlt : i < kids.length
        · obtain ⟨x, hx⟩ : ∃ x, kids[i.toNat]? = some x := ⟨_, List.getElem?_eq_getElem (by omega)⟩
          have hxm := List.mem_of_getElem? hx
          obtain ⟨bk, off, hp, hat⟩ := hst.addr (by omega)
          subst hp
          have hxj : St (domL [bld b v t]) w (fun w => DocJ w x) := hJ.imp fun w h => h.parts.2.2 x hxm
          have hrec := hkw x hxm
          have hpx := plDs_at hx
          have hi1 : (i + 1).toNat = i.toNat + 1 := by omega
          have hstep : T ++ flatD (plD x) = (t ++ []) ++ flatDs ((plDs kids).take (i + 1).toNat) := by
            rw [hi1, take_snocD _ _ _ hpx, flatDs_app, ← hT]; simp [flatDs]
          have hbs : blkDs ((plDs kids).take i.toNat) + blkD (plD x) ≤ blkDs (plDs kids) := by
            have h1 := blkDs_take (plDs kids) (i.toNat + 1)
            rw [take_snocD _ _ _ hpx, blkDs_app] at h1
            simp only [blkDs] at h1; omega
          repeat (first | refine sy_k rfl rfl ?_ | (refine gO ?_; first | refine sy_ov (ov_p rfl) rfl rfl ?_ | (refine sy_ov (ov_indexAddr rfl rfl ?_ ?_) rfl rfl ?_; omega; omega)) | (refine sy_cond_t rfl ?_ ?_; focus (first | with_reducible rfl | assumption | omega | (simp <;> first | omega | assumption))))
          refine sy_ov (ov_elem (f := docV) hat hx rfl rfl docV_len) rfl rfl ?_
          obtain ⟨xk, xn, xs, xp, xc, xkids⟩ := x
          repeat (first | refine sy_k rfl rfl ?_ | (refine gO ?_; first | refine sy_ov (ov_p rfl) rfl rfl ?_ | (refine gL ?_; refine sy_ov (ov_ld 0 rfl rfl rfl) rfl rfl ?_) | (refine gS ?_; refine sy_store 0 rfl rfl rfl rfl rfl rfl rfl rfl ?_) | (refine sy_alloc rfl rfl rfl ?_; intro _)))
          refine sy_front 2 rfl rfl ?_
          simp only [List.eraseIdx_cons_succ, List.eraseIdx_cons_zero]
          refine sy_callEw [bld b vv T] rfl rfl rfl (fun w hw => hrec b vv T (by omega) w hw.self (hxj.callE hw)) ?_
          rintro u es' ⟨rfl, v2, rfl⟩
          simp only [List.cons_append, List.nil_append]
          repeat (first | refine sy_k rfl rfl ?_ | (refine gO ?_; first | refine sy_ov (ov_p rfl) rfl rfl ?_ | (refine gB ?_; (refine sy_ov (ov_ar rfl rfl rfl ?_ ?_) rfl rfl ?_; omega; omega))))
          refine sy_order [2, 0, 1] rfl rfl ?_
          simp only [List.set_cons_zero, List.set_cons_succ, List.filterMap_cons, List.filterMap_nil, List.getElem?_cons_zero, List.getElem?_cons_succ]
          refine sy_back ⟨i + 1, v2⟩ ⟨by dsimp only; omega, by dsimp only; omega⟩ (by dsimp only; omega) ⟨⟨_, rfl, rfl⟩, ⟨_, rfl, rfl⟩, ⟨_, rfl, rfl⟩, ⟨_, rfl, rfl⟩, trivial⟩ (by dsimp only; rw [← hstep]; exact sk (sk (List.nil_sublist _)))
        · have hall : (plDs kids).take i.toNat = plDs kids := by rw [List.take_of_length_le]; rw [plDs_len]; omega
          rw [hall] at hT
          repeat (first | refine sy_k rfl rfl ?_ | (refine gO ?_; refine sy_ov (ov_p rfl) rfl rfl ?_) | (refine sy_cond_f rfl ?_ ?_; focus (first | with_reducible rfl | assumption | omega | (simp <;> first | omega | assumption))))
          refine end0w rfl fun w' hw' => postE hw' [bld b vv T] (sub_self (sd sr)) rfl ⟨rfl, vv, ?_⟩
          rw [← hT]; simp only [List.append_assoc, List.nil_append]
set_option maxRecDepth 20000 in
set_option maxHeartbeats 4000000 in
theorem flat29_c (z : DocA) (hB : blkD (plD z) ≤ 4000000000000) (o : List UInt8) (b : Bool) (hb : (rightD (plD z) && !forceD (plD z)) = b) (ho : (if b = true then flatD (plD z) else []) = o) (w : World) (hw0 : DocJ w z) : Calls Try.prog 32 #[.agg ⟨docV z⟩] w fun e w' => e = .returned (.tuple #[S o, .bool b]) ∧ Below w.heap.size w w' := by
  have hJ : St (fun _ => False) w (fun w => DocJ w z) := St.start (DocJ.bl z) hw0
  have hr := fun w h => right29_c _ z (Nat.le_refl _) hB w h
  have hf := fun w h => forced29_c _ z (Nat.le_refl _) w h
  have hwr := write29_c _ z (Nat.le_refl _)
  obtain ⟨R, hR⟩ : ∃ R, rightD (plD z) = R := ⟨_, rfl⟩
  obtain ⟨F, hF⟩ : ∃ F, forceD (plD z) = F := ⟨_, rfl⟩
  rw [hR] at hr hb
  rw [hF] at hf hb
  subst hb
  have hfl := flatD_le (plD z)
  obtain ⟨k, n', s, p, c, kids⟩ := z
  cases R
  · subst ho
    refine sy_enter rfl rfl ?_
    simp only [initFr]
    repeat (first | refine sy_k rfl rfl ?_ | (refine gO ?_; first | refine sy_ov (ov_p rfl) rfl rfl ?_ | (refine gL ?_; refine sy_ov (ov_ld 0 rfl rfl rfl) rfl rfl ?_) | (refine sy_box rfl rfl rfl ?_; intro _)))
    refine sy_ov (ov_call rfl (fun w hw => hr w (hJ.at hw))) rfl rfl ?_
    repeat (first | refine sy_k rfl rfl ?_ | (refine gO ?_; first | refine sy_ov (ov_p rfl) rfl rfl ?_ | (refine gG ?_; (refine sy_guard_no rfl rfl rfl rfl rfl ?_ ?_; focus (first | with_reducible rfl | assumption | omega | (simp <;> first | omega | assumption)))) | refine sy_ov (ov_pick rfl rfl rfl) rfl rfl ?_) | (refine sy_cond_t rfl ?_ ?_; focus (first | with_reducible rfl | assumption | omega | (simp <;> first | omega | assumption))) | refine sy_rt ?_)
    exact ret2 rfl rfl rfl rfl
  · cases F
    · simp only [Bool.not_false, Bool.and_self, if_true] at ho
      rw [ho] at hfl
      refine sy_enter rfl rfl ?_
      simp only [initFr]
      repeat (first | refine sy_k rfl rfl ?_ | (refine gO ?_; first | refine sy_ov (ov_p rfl) rfl rfl ?_ | (refine gL ?_; refine sy_ov (ov_ld 0 rfl rfl rfl) rfl rfl ?_) | (refine sy_box rfl rfl rfl ?_; intro _)))
      refine sy_ov (ov_call rfl (fun w hw => hr w (hJ.at hw))) rfl rfl ?_
      repeat ((refine gO ?_; first | refine sy_ov (ov_p rfl) rfl rfl ?_ | (refine gG ?_; (refine sy_guard_yes rfl rfl rfl rfl rfl ?_ ?_; focus (first | with_reducible rfl | assumption | omega | (simp <;> first | omega | assumption)))) | (refine gL ?_; refine sy_ov (ov_ld 0 rfl rfl rfl) rfl rfl ?_)))
      refine sy_ov (ov_call rfl (fun w hw => hf w (hJ.at hw))) rfl rfl ?_
      repeat (first | refine sy_k rfl rfl ?_ | (refine gO ?_; first | (refine gL ?_; refine sy_ov (ov_ld 1 rfl rfl rfl) rfl rfl ?_) | (refine sy_ov (ov_pick_f rfl rfl ?_) rfl rfl ?_; focus (with_reducible rfl)) | (refine sy_alloc rfl rfl rfl ?_; intro _)) | (refine sy_cond_f rfl ?_ ?_; focus (first | with_reducible rfl | assumption | omega | (simp <;> first | omega | assumption))))
      refine sy_newBld ?_
      skip
      rename_i b4
      refine sy_callEw [bld b4 (.slice none 0 0) []] rfl rfl rfl (fun w hw => hwr b4 (.slice none 0 0) [] (by simp only [List.length_nil]; omega) w hw.self (hJ.callE hw)) ?_
      rintro u es' ⟨rfl, v2, rfl⟩
      simp only [List.cons_append, List.nil_append, ho]
      repeat (refine sy_k rfl rfl ?_)
      refine sy_works 0 rfl rfl rfl (string_w b4 v2 o (by first | omega | (simp; done) | (simp; omega))) ?_
      rintro r e' ⟨rfl, rfl⟩
      repeat (first | refine sy_k rfl rfl ?_ | (refine gO ?_; refine sy_ov (ov_p rfl) rfl rfl ?_) | refine sy_rt ?_)
      exact ret2 rfl rfl rfl rfl
    · subst ho
      refine sy_enter rfl rfl ?_
      simp only [initFr]
      repeat (first | refine sy_k rfl rfl ?_ | (refine gO ?_; first | refine sy_ov (ov_p rfl) rfl rfl ?_ | (refine gL ?_; refine sy_ov (ov_ld 0 rfl rfl rfl) rfl rfl ?_) | (refine sy_box rfl rfl rfl ?_; intro _)))
      refine sy_ov (ov_call rfl (fun w hw => hr w (hJ.at hw))) rfl rfl ?_
      repeat ((refine gO ?_; first | refine sy_ov (ov_p rfl) rfl rfl ?_ | (refine gG ?_; (refine sy_guard_yes rfl rfl rfl rfl rfl ?_ ?_; focus (first | with_reducible rfl | assumption | omega | (simp <;> first | omega | assumption)))) | (refine gL ?_; refine sy_ov (ov_ld 0 rfl rfl rfl) rfl rfl ?_)))
      refine sy_ov (ov_call rfl (fun w hw => hf w (hJ.at hw))) rfl rfl ?_
      repeat (first | refine sy_k rfl rfl ?_ | (refine gO ?_; first | refine sy_ov (ov_p rfl) rfl rfl ?_ | (refine sy_ov (ov_pick_f rfl rfl ?_) rfl rfl ?_; focus (with_reducible rfl))) | (refine sy_cond_t rfl ?_ ?_; focus (first | with_reducible rfl | assumption | omega | (simp <;> first | omega | assumption))) | refine sy_rt ?_)
      exact ret2 rfl rfl rfl rfl
/-! ### how many, and the same -/
def SzP (u : Value) (es : List En) : Prop := ∃ a b : Int, u = .tuple #[.int .i64 a, .int .i64 b] ∧ es = []
structure SzS where
  i : Int
  a : Int
  b : Int
set_option maxRecDepth 20000 in
set_option maxHeartbeats 4000000 in
theorem size29_c : ∀ (m : Nat) (z : DocA), SizeOf.sizeOf z ≤ m → ∀ (w : World), DocJ w z → Calls Try.prog 55 #[.agg ⟨docV z⟩] w (PostN w SzP) := by
  intro m
  induction m with
  | zero => intro z hz; cases z; simp at hz
  | succ m ih =>
    intro z hz w hw0
    obtain ⟨k, n, s, p, c, kids⟩ := z
    obtain ⟨hb, hs2, hkid⟩ := hw0.parts
    have hm : kids.length ≤ 9223372036854775807 := hb
    have hst : St (fun _ => False) w (fun w => IsSl w 4 p kids.length (kids.flatMap docV)) := St.start (IsSl.bl _ _ _ _) hs2
    have hstk : ∀ x ∈ kids, St (fun _ => False) w (fun w => DocJ w x) := fun x hx => St.start (DocJ.bl _) (hkid x hx)
    refine sy_enter rfl rfl ?_
    simp only [initFr]
    repeat (first | refine sy_k rfl rfl ?_ | (refine gO ?_; first | refine sy_ov (ov_p rfl) rfl rfl ?_ | (refine sy_box rfl rfl rfl ?_; intro _)))
    refine sy_draw 4 (by kernel_rfl) ?_
    repeat (first | refine dr_op (ov_p rfl) rfl rfl ?_ | refine dr_op (ov_len rfl) rfl rfl ?_ | refine dr_op (ov_ld 0 rfl rfl rfl) rfl rfl ?_ | refine dr_op (ov_fieldAddr rfl rfl rfl) rfl rfl ?_ | refine dr_end ?_)
    repeat (first | refine sy_k rfl rfl ?_ | (refine gO ?_; refine sy_ov (ov_p rfl) rfl rfl ?_))
    rename_i b1
    refine sy_loop (α := SzS) (fun x => [(1, ptrD b1), (4, .int .i64 x.a), (5, .int .i64 x.b), (6, .int .i64 x.i)]) (fun _ => [blk b1 38 (docV (.mk k n s p c kids))]) (fun x => 0 ≤ x.i ∧ x.i ≤ kids.length) (fun x => (kids.length - x.i).toNat) ⟨0, 1, s.length⟩ ⟨by dsimp only; omega, by dsimp only; omega⟩ ⟨⟨_, rfl, rfl⟩, ⟨_, rfl, rfl⟩, ⟨_, rfl, rfl⟩, ⟨_, rfl, rfl⟩, trivial⟩ sr ?_
    rintro ⟨i, a, bb⟩ ⟨i0, i1⟩
    dsimp only at i0 i1 ⊢
    by_cases hlt : i < kids.length
    · obtain ⟨x, hx⟩ : ∃ x, kids[i.toNat]? = some x := ⟨_, List.getElem?_eq_getElem (by omega)⟩
      have hxm := List.mem_of_getElem? hx
      obtain ⟨b, off, hp, hat⟩ := hst.addr (by omega)
      subst hp
      have hsz := sizeD_kid (k := k) (n := n) (s := s) (p := some ⟨b, off, none⟩) (c := c) hxm
      have hxj := hstk _ hxm
      have hrec := ih x (by omega)
      repeat (first | refine sy_k rfl rfl ?_ | (refine gO ?_; first | refine sy_ov (ov_p rfl) rfl rfl ?_ | (refine gK ?_; refine sy_ov (ov_lens rfl) rfl rfl ?_) | (refine gL ?_; refine sy_ov (ov_ld 0 rfl rfl rfl) rfl rfl ?_) | refine sy_ov (ov_fieldAddr rfl rfl rfl) rfl rfl ?_ | (refine sy_ov (ov_indexAddr rfl rfl ?_ ?_) rfl rfl ?_; omega; omega)) | (refine sy_cond_t rfl ?_ ?_; focus (first | with_reducible rfl | assumption | omega | (simp <;> first | omega | assumption))))
      refine sy_ov (ov_elem (f := docV) hat hx rfl rfl docV_len) rfl rfl ?_
      obtain ⟨xk, xn, xs, xp, xc, xkids⟩ := x
      skip
      refine sy_callN rfl rfl (fun w hw => hrec w (hxj.at hw)) ?_
      rintro u es' ⟨a2, b2, rfl, rfl⟩
      simp only [List.cons_append, List.nil_append]
      repeat (first | refine sy_k rfl rfl ?_ | (refine gO ?_; refine sy_ov (ov_p rfl) rfl rfl ?_))
      refine sy_ov (ov_addw rfl rfl) rfl rfl ?_
      repeat (first | refine sy_k rfl rfl ?_ | (refine gO ?_; refine sy_ov (ov_p rfl) rfl rfl ?_))
      refine sy_ov (ov_addw rfl rfl) rfl rfl ?_
      repeat (first | refine sy_k rfl rfl ?_ | (refine gO ?_; first | refine sy_ov (ov_p rfl) rfl rfl ?_ | (refine gB ?_; (refine sy_ov (ov_ar rfl rfl rfl ?_ ?_) rfl rfl ?_; omega; omega))))
      refine sy_back ⟨i + 1, _, _⟩ ⟨by dsimp only; omega, by dsimp only; omega⟩ (by dsimp only; omega) ⟨⟨_, rfl, rfl⟩, ⟨_, rfl, rfl⟩, ⟨_, rfl, rfl⟩, ⟨_, rfl, rfl⟩, trivial⟩ sr
    · repeat (first | refine sy_k rfl rfl ?_ | (refine gO ?_; first | refine sy_ov (ov_p rfl) rfl rfl ?_ | (refine gK ?_; refine sy_ov (ov_lens rfl) rfl rfl ?_) | (refine gL ?_; refine sy_ov (ov_ld 0 rfl rfl rfl) rfl rfl ?_) | refine sy_ov (ov_fieldAddr rfl rfl rfl) rfl rfl ?_) | (refine sy_cond_f rfl ?_ ?_; focus (first | with_reducible rfl | assumption | omega | (simp <;> first | omega | assumption))) | refine sy_rt ?_)
      refine ret2w rfl rfl rfl fun w' hw' => ⟨_, [], ⟨_, _, rfl, rfl⟩, rfl, hw'.weaken (List.nil_sublist _)⟩
def GrP (u : Value) (es : List En) : Prop := ∃ g : Bool, u = .bool g ∧ es = []
set_option maxRecDepth 20000 in
set_option maxHeartbeats 4000000 in
theorem great29_c (z : DocA) (w : World) (hw0 : DocJ w z) : Calls Try.prog 15 #[.agg ⟨docV z⟩] w (PostN w GrP) := by
  have hJ : St (fun _ => False) w (fun w => DocJ w z) := St.start (DocJ.bl z) hw0
  have hs := size29_c _ z (Nat.le_refl _)
  obtain ⟨k, n', s, p, c, kids⟩ := z
  refine sy_enter rfl rfl ?_
  simp only [initFr]
  repeat (first | refine sy_k rfl rfl ?_ | (refine gO ?_; first | refine sy_ov (ov_p rfl) rfl rfl ?_ | (refine gL ?_; refine sy_ov (ov_ld 0 rfl rfl rfl) rfl rfl ?_) | (refine sy_box rfl rfl rfl ?_; intro _)))
  refine sy_callN rfl rfl (fun w hw => hs w (hJ.at hw)) ?_
  rintro u es' ⟨a, b, rfl, rfl⟩
  simp only [List.cons_append, List.nil_append]
  by_cases h1 : 2000 < a
  · repeat (first | refine sy_k rfl rfl ?_ | (refine gO ?_; first | refine sy_ov (ov_p rfl) rfl rfl ?_ | (refine gG ?_; (refine sy_guard_no rfl rfl rfl rfl rfl ?_ ?_; focus (first | with_reducible rfl | assumption | omega | (simp <;> first | omega | assumption)))) | refine sy_ov (ov_pick rfl rfl rfl) rfl rfl ?_) | refine sy_rt ?_)
    exact ret1w rfl rfl fun w' hw' => ⟨_, [], ⟨_, rfl, rfl⟩, rfl, hw'.weaken (List.nil_sublist _)⟩
  · repeat (first | refine sy_k rfl rfl ?_ | (refine gO ?_; first | refine sy_ov (ov_p rfl) rfl rfl ?_ | (refine gG ?_; (refine sy_guard_yes rfl rfl rfl rfl rfl ?_ ?_; focus (first | with_reducible rfl | assumption | omega | (simp <;> first | omega | assumption)))) | (refine sy_ov (ov_pick_f rfl rfl ?_) rfl rfl ?_; focus (with_reducible rfl))) | refine sy_rt ?_)
    exact ret1w rfl rfl fun w' hw' => ⟨_, [], ⟨_, rfl, rfl⟩, rfl, hw'.weaken (List.nil_sublist _)⟩
set_option maxRecDepth 20000 in
set_option maxHeartbeats 4000000 in
/-- A document is the same as one that is like it. -/
theorem same29_c : ∀ (m : Nat) (z : DocA), SizeOf.sizeOf z ≤ m → ∀ (z2 : DocA) (w : World), plD z = plD z2 → DocJ w z → DocJ w z2 → Calls Try.prog 17 #[.agg ⟨docV z⟩, .agg ⟨docV z2⟩] w fun e w' => e = .returned (.bool true) ∧ Below w.heap.size w w' := by
  intro m
  induction m with
  | zero => intro z hz; cases z; simp at hz
  | succ m ih =>
    intro z hz z2 w he hw0 hw2
    obtain ⟨k, n, s, p, c, kids⟩ := z
    obtain ⟨k2, n2, s2, p2, c2, kids2⟩ := z2
    simp only [plD, DocP.mk.injEq] at he
    obtain ⟨rfl, rfl, rfl, hkk⟩ := he
    have hll : kids.length = kids2.length := by rw [← plDs_len, hkk, plDs_len]
    have hlli : (kids.length : Int) = kids2.length := by rw [hll]
    obtain ⟨hb, hs2, hkid⟩ := hw0.parts
    have hm : kids.length ≤ 9223372036854775807 := hb
    have hst : St (fun _ => False) w (fun w => IsSl w 4 p kids.length (kids.flatMap docV)) := St.start (IsSl.bl _ _ _ _) hs2
    have hstk : ∀ x ∈ kids, St (fun _ => False) w (fun w => DocJ w x) := fun x hx => St.start (DocJ.bl _) (hkid x hx)
    obtain ⟨hb', hs2', hkid'⟩ := hw2.parts
    have hst' : St (fun _ => False) w (fun w => IsSl w 4 p2 kids2.length (kids2.flatMap docV)) := St.start (IsSl.bl _ _ _ _) hs2'
    have hstk' : ∀ x ∈ kids2, St (fun _ => False) w (fun w => DocJ w x) := fun x hx => St.start (DocJ.bl _) (hkid' x hx)
    refine sy_enter rfl rfl ?_
    simp only [initFr]
    repeat (first | refine sy_k rfl rfl ?_ | (refine gO ?_; first | refine sy_ov (ov_p rfl) rfl rfl ?_ | (refine gG ?_; (refine sy_guard_yes rfl rfl rfl rfl rfl ?_ ?_; focus (first | with_reducible rfl | assumption | omega | (simp <;> first | omega | assumption)))) | (refine gK ?_; refine sy_ov (ov_lens rfl) rfl rfl ?_) | (refine gL ?_; first | refine sy_ov (ov_ld 0 rfl rfl rfl) rfl rfl ?_ | refine sy_ov (ov_ld 1 rfl rfl rfl) rfl rfl ?_) | (refine sy_ov (ov_pick_f rfl rfl ?_) rfl rfl ?_; focus (with_reducible rfl)) | refine sy_ov (ov_fieldAddr rfl rfl rfl) rfl rfl ?_ | (refine sy_box rfl rfl rfl ?_; intro _)) | (refine sy_cond_f rfl ?_ ?_; focus (first | with_reducible rfl | assumption | omega | (simp <;> first | omega | assumption))))
    rename_i b1 b2
    refine sy_loop (α := Int) (fun i => [(2, ptrD b1), (3, ptrD b2), (5, .int .i64 i)]) (fun _ => [blk b2 38 (docV (.mk k n s p2 c2 kids2)), blk b1 38 (docV (.mk k n s p c kids))]) (fun i => 0 ≤ i ∧ i ≤ kids.length) (fun i => (kids.length - i).toNat) 0 ⟨by omega, by omega⟩ ⟨⟨_, rfl, rfl⟩, ⟨_, rfl, rfl⟩, ⟨_, rfl, rfl⟩, trivial⟩ sr ?_
    rintro i ⟨i0, i1⟩
    by_cases hlt : i < kids.length
    · obtain ⟨x, hx⟩ : ∃ x, kids[i.toNat]? = some x := ⟨_, List.getElem?_eq_getElem (by omega)⟩
      obtain ⟨y, hy⟩ : ∃ y, kids2[i.toNat]? = some y := ⟨_, List.getElem?_eq_getElem (by omega)⟩
      have hxm := List.mem_of_getElem? hx
      have hym := List.mem_of_getElem? hy
      obtain ⟨b, off, hp, hat⟩ := hst.addr (by omega)
      obtain ⟨b', off', hp', hat'⟩ := hst'.addr (by omega)
      subst hp
      subst hp'
      have hsz := sizeD_kid (k := k) (n := n) (s := s) (p := some ⟨b, off, none⟩) (c := c) hxm
      have hxj := hstk _ hxm
      have hyj := hstk' _ hym
      have hxy : plD x = plD y := by
        have h1 := plDs_at hx
        have h2 := plDs_at hy
        rw [hkk, h2] at h1; exact (Option.some.inj h1).symm
      have hrec := fun w h1 h2 => ih x (by omega) y w hxy h1 h2
      repeat (first | refine sy_k rfl rfl ?_ | (refine gO ?_; first | refine sy_ov (ov_p rfl) rfl rfl ?_ | (refine gK ?_; refine sy_ov (ov_lens rfl) rfl rfl ?_) | (refine gL ?_; refine sy_ov (ov_ld 1 rfl rfl rfl) rfl rfl ?_) | refine sy_ov (ov_fieldAddr rfl rfl rfl) rfl rfl ?_) | (refine sy_cond_t rfl ?_ ?_; focus (first | with_reducible rfl | assumption | omega | (simp <;> first | omega | assumption))))
      refine sy_draw 10 (by kernel_rfl) ?_
      repeat (first | refine dr_op (ov_p rfl) rfl rfl ?_ | refine dr_op (ov_ld 1 rfl rfl rfl) rfl rfl ?_ | refine dr_op (ov_fieldAddr rfl rfl rfl) rfl rfl ?_ | (refine dr_op (ov_indexAddr rfl rfl ?_ ?_) rfl rfl ?_; omega; omega))
      refine dr_op (ov_elem (f := docV) hat hx rfl rfl docV_len) rfl rfl ?_
      repeat (first | refine dr_op (ov_p rfl) rfl rfl ?_ | refine dr_op (ov_ld 0 rfl rfl rfl) rfl rfl ?_ | refine dr_op (ov_fieldAddr rfl rfl rfl) rfl rfl ?_ | (refine dr_op (ov_indexAddr rfl rfl ?_ ?_) rfl rfl ?_; omega; omega))
      refine dr_op (ov_elem (f := docV) hat' hy rfl rfl docV_len) rfl rfl ?_
      repeat (refine dr_end ?_)
      obtain ⟨xk, xn, xs, xp, xc, xkids⟩ := x
      obtain ⟨yk, yn, ys, yp, yc, ykids⟩ := y
      skip
      refine sy_ov (ov_call rfl (fun w hw => hrec w (hxj.at hw) (hyj.at hw))) rfl rfl ?_
      repeat (first | refine sy_k rfl rfl ?_ | (refine gO ?_; first | refine sy_ov (ov_p rfl) rfl rfl ?_ | (refine gB ?_; (refine sy_ov (ov_ar rfl rfl rfl ?_ ?_) rfl rfl ?_; omega; omega))) | (refine sy_cond_f rfl ?_ ?_; focus (first | with_reducible rfl | assumption | omega | (simp <;> first | omega | assumption))))
      refine sy_back (i + 1) ⟨by omega, by omega⟩ (by omega) ⟨⟨_, rfl, rfl⟩, ⟨_, rfl, rfl⟩, ⟨_, rfl, rfl⟩, trivial⟩ sr
    · repeat (first | refine sy_k rfl rfl ?_ | (refine gO ?_; first | refine sy_ov (ov_p rfl) rfl rfl ?_ | (refine gK ?_; refine sy_ov (ov_lens rfl) rfl rfl ?_) | (refine gL ?_; refine sy_ov (ov_ld 1 rfl rfl rfl) rfl rfl ?_) | refine sy_ov (ov_fieldAddr rfl rfl rfl) rfl rfl ?_) | (refine sy_cond_f rfl ?_ ?_; focus (first | with_reducible rfl | assumption | omega | (simp <;> first | omega | assumption))) | refine sy_rt ?_)
      exact ret1 rfl rfl rfl
end Go.Proofs.Ytldjakeigjngoaa
/- Contracts: how documents are made. -/
set_option linter.unusedVariables false
set_option linter.unusedSimpArgs false
namespace Go.Proofs.Ytldjakeigjngoaa
open Go.RowKit Bf
theorem oneAll_docs : ∀ (l : List DocA), oneAll (l.flatMap docV) = true
  | [] => rfl
  | .mk k n s p c kids :: l => by rw [List.flatMap_cons]; show oneAll (_ :: _ :: _ :: _ :: (l.flatMap docV)) = true; simp only [oneAll, oneAll_docs l]; rfl
/-- A document that was made, and its row. -/
def vecD (p : Option Addr) (q : Nat) (l : List DocA) : En := vec 38 4 (.slice p l.length q) l.length (l.flatMap docV)
def MkP (k n : Int) (l : List DocA) (u : Value) (es : List En) : Prop := ∃ p q, u = .agg ⟨docV (.mk k n [] p q l)⟩ ∧ es = [vecD p q l]
theorem docJ_vec {D : Nat → Prop} {w0 w : World} {hp : List En} (hw : HpOk D w0 hp w) {i : Nat} {p : Option Addr} {q : Nat} {l : List DocA} (hi : hp[i]? = some (vecD p q l)) (k n : Int) (s : List UInt8) (hl : l.length ≤ 1000000000000) (hk : ∀ x ∈ l, DocJ w x) : DocJ w (.mk k n s p q l) :=
  .mk k n s p q l (Nat.le_trans hl (by decide)) (vec_isSl hw hi) hk
theorem docJ_blk {D : Nat → Prop} {w0 w : World} {hp : List En} (hw : HpOk D w0 hp w) {i b : Nat} {l : List DocA} {m : Nat} {cs : List Value} (hi : hp[i]? = some (blk b 38 cs)) (hc : cs = l.flatMap docV) (hm : cs.length = m * 4) (hlm : m = l.length) (k n : Int) (s : List UInt8) (hl : l.length ≤ 1000000000000) (hk : ∀ x ∈ l, DocJ w x) : IsSl w 4 (some ⟨b, 0, none⟩) l.length (l.flatMap docV) := by
  subst hlm
  rw [← hc]
  exact ⟨hm, .inr ⟨b, 0, rfl, fun j u hj => by rw [Nat.zero_add, hw.cell hi]; exact hj⟩⟩
set_option maxRecDepth 20000 in
theorem text29_c (s : List UInt8) (w : World) : Calls Try.prog 18 #[S s] w fun e w' => e = .returned (.agg ⟨docV (.mk 1 0 s none 0 [])⟩) ∧ Below w.heap.size w w' := by
  refine sy_enter rfl rfl ?_
  simp only [initFr]
  repeat (first | refine sy_k rfl rfl ?_ | (refine gO ?_; first | refine sy_ov (ov_p rfl) rfl rfl ?_ | (refine gS ?_; refine sy_store 0 rfl rfl rfl rfl rfl rfl rfl rfl ?_) | refine sy_ov (ov_build rfl rfl rfl) rfl rfl ?_ | (refine sy_alloc rfl rfl rfl ?_; intro _)) | refine sy_rt ?_)
  exact ret1c 0 rfl rfl rfl rfl rfl rfl
set_option maxRecDepth 20000 in
theorem line29_c (w : World) : Calls Try.prog 19 #[] w fun e w' => e = .returned (.agg ⟨docV (.mk 2 0 [] none 0 [])⟩) ∧ Below w.heap.size w w' := by
  refine sy_enter (args := []) rfl rfl ?_
  simp only [initFr]
  repeat (first | refine sy_k rfl rfl ?_ | (refine gO ?_; first | (refine gS ?_; refine sy_store 0 rfl rfl rfl rfl rfl rfl rfl rfl ?_) | refine sy_ov (ov_build rfl rfl rfl) rfl rfl ?_ | (refine sy_alloc rfl rfl rfl ?_; intro _)) | refine sy_rt ?_)
  exact ret1c 0 rfl rfl rfl rfl rfl rfl
set_option maxRecDepth 20000 in
theorem soft29_c (w : World) : Calls Try.prog 20 #[] w fun e w' => e = .returned (.agg ⟨docV (.mk 3 0 [] none 0 [])⟩) ∧ Below w.heap.size w w' := by
  refine sy_enter (args := []) rfl rfl ?_
  simp only [initFr]
  repeat (first | refine sy_k rfl rfl ?_ | (refine gO ?_; first | (refine gS ?_; refine sy_store 0 rfl rfl rfl rfl rfl rfl rfl rfl ?_) | refine sy_ov (ov_build rfl rfl rfl) rfl rfl ?_ | (refine sy_alloc rfl rfl rfl ?_; intro _)) | refine sy_rt ?_)
  exact ret1c 0 rfl rfl rfl rfl rfl rfl
set_option maxRecDepth 20000 in
theorem hard29_c (w : World) : Calls Try.prog 21 #[] w fun e w' => e = .returned (.agg ⟨docV (.mk 4 0 [] none 0 [])⟩) ∧ Below w.heap.size w w' := by
  refine sy_enter (args := []) rfl rfl ?_
  simp only [initFr]
  repeat (first | refine sy_k rfl rfl ?_ | (refine gO ?_; first | (refine gS ?_; refine sy_store 0 rfl rfl rfl rfl rfl rfl rfl rfl ?_) | refine sy_ov (ov_build rfl rfl rfl) rfl rfl ?_ | (refine sy_alloc rfl rfl rfl ?_; intro _)) | refine sy_rt ?_)
  exact ret1c 0 rfl rfl rfl rfl rfl rfl
set_option maxRecDepth 20000 in
theorem cat29_c (l : List DocA) (p : Option Addr) (c : Nat) (hl : l.length ≤ 1000000000000) (w : World) (hs : IsSl w 4 p l.length (l.flatMap docV)) : Calls Try.prog 22 #[.slice p l.length c] w (PostN w (MkP 5 0 l)) := by
  have hst : St (fun _ => False) w (fun w => IsSl w 4 p l.length (l.flatMap docV)) := St.start (IsSl.bl _ _ _ _) hs
  have hone := oneAll_docs l
  refine sy_enter rfl rfl ?_
  simp only [initFr]
  repeat (first | refine sy_k rfl rfl ?_ | (refine gO ?_; first | refine sy_ov (ov_p rfl) rfl rfl ?_ | (refine sy_alloc rfl rfl rfl ?_; intro _)))
  refine sy_grow 38 4 ?_
  refine sy_appendSl 0 rfl rfl rfl rfl rfl rfl rfl (fun w hw => hst.at hw) hone (by omega) (by show _ * 56 ≤ _; omega) ?_
  intro p' q'
  repeat (first | refine sy_k rfl rfl ?_ | (refine gO ?_; first | (refine gS ?_; refine sy_store 1 rfl rfl rfl rfl rfl rfl rfl rfl ?_) | refine sy_ov (ov_build rfl rfl rfl) rfl rfl ?_) | refine sy_rt ?_)
  refine ret1cw 1 rfl rfl rfl rfl rfl fun w' hw' => ?_
  exact ⟨_, _, ⟨p', q', rfl, rfl⟩, rfl, hw'.weaken (sk (List.nil_sublist _))⟩
set_option maxRecDepth 20000 in
theorem group29_c (l : List DocA) (p : Option Addr) (c : Nat) (hl : l.length ≤ 1000000000000) (w : World) (hs : IsSl w 4 p l.length (l.flatMap docV)) : Calls Try.prog 24 #[.slice p l.length c] w (PostN w (MkP 7 0 l)) := by
  have hst : St (fun _ => False) w (fun w => IsSl w 4 p l.length (l.flatMap docV)) := St.start (IsSl.bl _ _ _ _) hs
  have hone := oneAll_docs l
  refine sy_enter rfl rfl ?_
  simp only [initFr]
  repeat (first | refine sy_k rfl rfl ?_ | (refine gO ?_; first | refine sy_ov (ov_p rfl) rfl rfl ?_ | (refine sy_alloc rfl rfl rfl ?_; intro _)))
  refine sy_grow 38 4 ?_
  refine sy_appendSl 0 rfl rfl rfl rfl rfl rfl rfl (fun w hw => hst.at hw) hone (by omega) (by show _ * 56 ≤ _; omega) ?_
  intro p' q'
  repeat (first | refine sy_k rfl rfl ?_ | (refine gO ?_; first | (refine gS ?_; refine sy_store 1 rfl rfl rfl rfl rfl rfl rfl rfl ?_) | refine sy_ov (ov_build rfl rfl rfl) rfl rfl ?_) | refine sy_rt ?_)
  refine ret1cw 1 rfl rfl rfl rfl rfl fun w' hw' => ?_
  exact ⟨_, _, ⟨p', q', rfl, rfl⟩, rfl, hw'.weaken (sk (List.nil_sublist _))⟩
set_option maxRecDepth 20000 in
theorem nest29_c (n : Int) (l : List DocA) (p : Option Addr) (c : Nat) (hl : l.length ≤ 1000000000000) (w : World) (hs : IsSl w 4 p l.length (l.flatMap docV)) : Calls Try.prog 23 #[.int .i64 n, .slice p l.length c] w (PostN w (MkP 6 n l)) := by
  have hst : St (fun _ => False) w (fun w => IsSl w 4 p l.length (l.flatMap docV)) := St.start (IsSl.bl _ _ _ _) hs
  have hone := oneAll_docs l
  refine sy_enter rfl rfl ?_
  simp only [initFr]
  repeat (first | refine sy_k rfl rfl ?_ | (refine gO ?_; first | refine sy_ov (ov_p rfl) rfl rfl ?_ | (refine sy_alloc rfl rfl rfl ?_; intro _)))
  refine sy_grow 38 4 ?_
  refine sy_appendSl 0 rfl rfl rfl rfl rfl rfl rfl (fun w hw => hst.at hw) hone (by omega) (by show _ * 56 ≤ _; omega) ?_
  intro p' q'
  repeat (first | refine sy_k rfl rfl ?_ | (refine gO ?_; first | (refine gS ?_; refine sy_store 1 rfl rfl rfl rfl rfl rfl rfl rfl ?_) | refine sy_ov (ov_build rfl rfl rfl) rfl rfl ?_) | refine sy_rt ?_)
  refine ret1cw 1 rfl rfl rfl rfl rfl fun w' hw' => ?_
  exact ⟨_, _, ⟨p', q', rfl, rfl⟩, rfl, hw'.weaken (sk (List.nil_sublist _))⟩
/-! ### with another one between -/
def joinS (b : DocA) : List DocA → List DocA
  | [] => []
  | x :: r => x :: r.flatMap fun y => [b, y]
theorem joinS_snoc (b x : DocA) : ∀ (l : List DocA), l ≠ [] → joinS b (l ++ [x]) = joinS b l ++ [b, x]
  | [], h => absurd rfl h
  | y :: l, _ => by simp [joinS]
theorem joinS_len (b : DocA) : ∀ (l : List DocA), (joinS b l).length ≤ 2 * l.length
  | [] => Nat.le_refl _
  | x :: l => by
    have : (l.flatMap fun y => [b, y]).length = 2 * l.length := by
      induction l with
      | nil => rfl
      | cons y l ih => rw [List.flatMap_cons, List.length_append, ih, List.length_cons]; simp; omega
    simp only [joinS, List.length_cons, this]; omega
theorem joinS_mem (b : DocA) {l : List DocA} {y : DocA} (h : y ∈ joinS b l) : y = b ∨ y ∈ l := by
  cases l with
  | nil => cases h
  | cons x l =>
    simp only [joinS, List.mem_cons, List.mem_flatMap, List.not_mem_nil, or_false] at h ⊢
    rcases h with rfl | ⟨z, hz, rfl | rfl⟩
    · exact .inr (.inl rfl)
    · exact .inl rfl
    · exact .inr (.inr hz)
theorem take_snocA (l : List DocA) (i : Nat) (x : DocA) (h : l[i]? = some x) : l.take (i + 1) = l.take i ++ [x] := by
  obtain ⟨hlt, rfl⟩ := List.getElem?_eq_some_iff.1 h
  exact List.take_succ_eq_append_getElem hlt
theorem joinS_step (b : DocA) (l : List DocA) (i : Nat) (x : DocA) (h : l[i]? = some x) : joinS b (l.take (i + 1)) = joinS b (l.take i) ++ (if i = 0 then [x] else [b, x]) := by
  rw [take_snocA _ _ _ h]
  by_cases h0 : i = 0
  · subst h0; simp [joinS]
  · rw [if_neg h0, joinS_snoc]
    intro hn
    have h1 := (List.getElem?_eq_some_iff.1 h).1
    have h2 := congrArg List.length hn
    rw [List.length_take, List.length_nil] at h2; omega
structure JoS where
  i : Nat
  p : Option Addr
  q : Nat
  o : List DocA
set_option maxRecDepth 20000 in
set_option maxHeartbeats 4000000 in
theorem join29_c (b : DocA) (l : List DocA) (p : Option Addr) (c : Nat) (hl : l.length ≤ 400000000000) (w : World) (hs : IsSl w 4 p l.length (l.flatMap docV)) : Calls Try.prog 25 #[.agg ⟨docV b⟩, .slice p l.length c] w (PostN w (MkP 5 0 (joinS b l))) := by
  have hst : St (fun _ => False) w (fun w => IsSl w 4 p l.length (l.flatMap docV)) := St.start (IsSl.bl _ _ _ _) hs
  have hjl := joinS_len b l
  obtain ⟨J, hJ⟩ : ∃ J, joinS b l = J := ⟨_, rfl⟩
  rw [hJ] at hjl
  rw [hJ]
  obtain ⟨bk, bn, bs, bp, bc, bkids⟩ := b
  refine sy_enter rfl rfl ?_
  simp only [initFr]
  repeat (first | refine sy_k rfl rfl ?_ | (refine gO ?_; first | refine sy_ov (ov_p rfl) rfl rfl ?_ | (refine gK ?_; refine sy_ov (ov_lens rfl) rfl rfl ?_) | (refine sy_box rfl rfl rfl ?_; intro _) | (refine sy_alloc rfl rfl rfl ?_; intro _)))
  rename_i b2 b4
  refine sy_grow 38 4 ?_
  refine sy_loop (α := JoS) (fun x => [(2, ptrD b2), (4, ptrD b4), (5, .slice x.p x.o.length x.q), (8, .slice p l.length c), (9, .int .i64 (l.length : Int)), (10, .int .i64 (x.i : Int))])
    (fun x => [vecD x.p x.q x.o, blk b4 38 [.int .i64 0, .int .i64 0, S [], .slice none 0 0], blk b2 38 (docV (.mk bk bn bs bp bc bkids))])
    (fun x => x.i ≤ l.length ∧ x.o = joinS (.mk bk bn bs bp bc bkids) (l.take x.i)) (fun x => l.length - x.i) ⟨0, none, 0, []⟩ ⟨Nat.zero_le _, rfl⟩ ⟨⟨_, rfl, rfl⟩, ⟨_, rfl, rfl⟩, ⟨_, rfl, rfl⟩, ⟨_, rfl, rfl⟩, ⟨_, rfl, rfl⟩, ⟨_, rfl, rfl⟩, trivial⟩ sr ?_
  rintro ⟨i, op, oq, o⟩ ⟨i1, ho⟩
  dsimp only at i1 ho ⊢
  have hol := joinS_len (.mk bk bn bs bp bc bkids) (l.take i)
  rw [← ho, List.length_take] at hol
  by_cases hlt : (i : Int) < l.length
  · obtain ⟨x, hx⟩ : ∃ x, l[i]? = some x := ⟨_, List.getElem?_eq_getElem (by omega)⟩
    obtain ⟨bb, off, hp, hat⟩ := hst.addr (by omega)
    subst hp
    have hstep := joinS_step (.mk bk bn bs bp bc bkids) l i x hx
    rw [← ho] at hstep
    obtain ⟨xk, xn, xs, xp, xc, xkids⟩ := x
    have hx1 : oneAll (docV (.mk xk xn xs xp xc xkids)) = true := rfl
    have hb1 : oneAll (docV (.mk bk bn bs bp bc bkids)) = true := rfl
    simp only [vecD]
    by_cases h0 : i = 0
    · rw [if_pos h0] at hstep
      have e1 : (o ++ [DocA.mk xk xn xs xp xc xkids]).length = o.length + 1 := by simp
      have e2 : (o ++ [DocA.mk xk xn xs xp xc xkids]).flatMap docV = o.flatMap docV ++ docV (.mk xk xn xs xp xc xkids) := by simp
      repeat (first | refine sy_k rfl rfl ?_ | (refine gO ?_; first | refine sy_ov (ov_p rfl) rfl rfl ?_ | (refine sy_ov (ov_indexAddr rfl rfl ?_ ?_) rfl rfl ?_; omega; omega)) | (refine sy_cond_t rfl ?_ ?_; focus (first | with_reducible rfl | assumption | omega | (simp <;> first | omega | assumption))))
      refine sy_ov (ov_elem (f := docV) hat hx rfl rfl docV_len) rfl rfl ?_
      repeat (first | refine sy_k rfl rfl ?_ | (refine gO ?_; first | refine sy_ov (ov_p rfl) rfl rfl ?_ | (refine gL ?_; refine sy_ov (ov_ld 0 rfl rfl rfl) rfl rfl ?_) | (refine gS ?_; refine sy_store 0 rfl rfl rfl rfl rfl rfl rfl rfl ?_) | (refine sy_alloc rfl rfl rfl ?_; intro _)) | (refine sy_cond_f rfl ?_ ?_; focus (first | with_reducible rfl | assumption | omega | (simp <;> first | omega | assumption))))
      refine sy_buildSlice rfl rfl rfl rfl rfl rfl rfl rfl ?_
      intro nb
      refine sy_append 2 0 rfl rfl rfl rfl rfl rfl rfl rfl hx1 rfl rfl (by omega) (by show (_ + 1) * 56 ≤ _; omega) ?_
      intro p1 q1
      repeat (first | refine sy_k rfl rfl ?_ | (refine gO ?_; first | refine sy_ov (ov_p rfl) rfl rfl ?_ | (refine gB ?_; (refine sy_ov (ov_ar rfl rfl rfl ?_ ?_) rfl rfl ?_; omega; omega))))
      refine sy_back ⟨i + 1, some p1, q1, o ++ [.mk xk xn xs xp xc xkids]⟩ ⟨by dsimp only; omega, hstep.symm⟩ (by dsimp only; omega) ⟨⟨_, rfl, rfl⟩, ⟨_, rfl, rfl⟩, ⟨_, rfl, by dsimp only; rw [e1]⟩, ⟨_, rfl, rfl⟩, ⟨_, rfl, rfl⟩, ⟨_, rfl, by dsimp only; congr 1⟩, trivial⟩ (by simp only [vecD, e1, e2]; exact sd (sd sr))
    · rw [if_neg h0] at hstep
      have e1 : (o ++ [DocA.mk bk bn bs bp bc bkids, DocA.mk xk xn xs xp xc xkids]).length = o.length + 1 + 1 := by simp
      have e2 : (o ++ [DocA.mk bk bn bs bp bc bkids, DocA.mk xk xn xs xp xc xkids]).flatMap docV = o.flatMap docV ++ docV (.mk bk bn bs bp bc bkids) ++ docV (.mk xk xn xs xp xc xkids) := by simp
      repeat (first | refine sy_k rfl rfl ?_ | (refine gO ?_; first | refine sy_ov (ov_p rfl) rfl rfl ?_ | (refine sy_ov (ov_indexAddr rfl rfl ?_ ?_) rfl rfl ?_; omega; omega)) | (refine sy_cond_t rfl ?_ ?_; focus (first | with_reducible rfl | assumption | omega | (simp <;> first | omega | assumption))))
      refine sy_ov (ov_elem (f := docV) hat hx rfl rfl docV_len) rfl rfl ?_
      repeat (first | refine sy_k rfl rfl ?_ | (refine gO ?_; first | refine sy_ov (ov_p rfl) rfl rfl ?_ | (refine gL ?_; refine sy_ov (ov_ld 3 rfl rfl rfl) rfl rfl ?_) | (refine gS ?_; refine sy_store 0 rfl rfl rfl rfl rfl rfl rfl rfl ?_) | (refine sy_alloc rfl rfl rfl ?_; intro _)) | (refine sy_cond_t rfl ?_ ?_; focus (first | with_reducible rfl | assumption | omega | (simp <;> first | omega | assumption))))
      refine sy_buildSlice rfl rfl rfl rfl rfl rfl rfl rfl ?_
      intro nb
      refine sy_append 2 0 rfl rfl rfl rfl rfl rfl rfl rfl hb1 rfl rfl (by omega) (by show (_ + 1) * 56 ≤ _; omega) ?_
      intro p1 q1
      repeat (first | refine sy_k rfl rfl ?_ | (refine gO ?_; first | refine sy_ov (ov_p rfl) rfl rfl ?_ | (refine gL ?_; refine sy_ov (ov_ld 1 rfl rfl rfl) rfl rfl ?_)))
      refine sy_buildSlice rfl rfl rfl rfl rfl rfl rfl rfl ?_
      intro nb2
      refine sy_append 3 0 rfl rfl rfl rfl rfl rfl rfl rfl hx1 rfl rfl (by omega) (by show (_ + 1) * 56 ≤ _; omega) ?_
      intro p2 q2
      repeat (first | refine sy_k rfl rfl ?_ | (refine gO ?_; first | refine sy_ov (ov_p rfl) rfl rfl ?_ | (refine gB ?_; (refine sy_ov (ov_ar rfl rfl rfl ?_ ?_) rfl rfl ?_; omega; omega))))
      refine sy_back ⟨i + 1, some p2, q2, o ++ [.mk bk bn bs bp bc bkids, .mk xk xn xs xp xc xkids]⟩ ⟨by dsimp only; omega, hstep.symm⟩ (by dsimp only; omega) ⟨⟨_, rfl, rfl⟩, ⟨_, rfl, rfl⟩, ⟨_, rfl, by dsimp only; rw [e1]⟩, ⟨_, rfl, rfl⟩, ⟨_, rfl, rfl⟩, ⟨_, rfl, by dsimp only; congr 1⟩, trivial⟩ (by simp only [vecD, e1, e2]; exact sd (sd (sd sr)))
  · have hall : o = J := by rw [ho, List.take_of_length_le (by omega), hJ]
    subst hall
    repeat (first | refine sy_k rfl rfl ?_ | (refine gO ?_; refine sy_ov (ov_p rfl) rfl rfl ?_) | (refine sy_cond_f rfl ?_ ?_; focus (first | with_reducible rfl | assumption | omega | (simp <;> first | omega | assumption))))
    refine sy_callN rfl rfl (fun w hw => cat29_c o op oq (by omega) w (vec_isSl hw (i := 0) rfl)) ?_
    rintro u es' ⟨p', q', rfl, rfl⟩
    simp only [List.cons_append, List.nil_append]
    repeat (first | refine sy_k rfl rfl ?_ | (refine gO ?_; (refine gS ?_; refine sy_store 2 rfl rfl rfl rfl rfl rfl rfl rfl ?_)) | refine sy_rt ?_)
    refine ret1cw 2 rfl rfl rfl rfl rfl fun w' hw' => ?_
    exact ⟨_, _, ⟨p', q', rfl, rfl⟩, rfl, hw'.weaken (sk (List.nil_sublist _))⟩
end Go.Proofs.Ytldjakeigjngoaa
/- Contract: the example of the chapter of documents. -/
set_option linter.unusedVariables false
set_option linter.unusedSimpArgs false
namespace Go.Proofs.Ytldjakeigjngoaa
open Go.RowKit Bf
theorem St.leD {C C' : Cx} {R : World → Prop} (h : St C.D C.w0 R) (hC : CxLe C C') : St C'.D C'.w0 R := fun w hk => h w (hC.keep w hk)
theorem docJ0 (w : World) (k n : Int) (s : List UInt8) : DocJ w (.mk k n s none 0 []) := .mk k n s none 0 [] (Nat.zero_le _) (IsSl.nil _ _ _) (fun x hx => by cases hx)
theorem valid_97 : validB [97] = true := by
  have h : decS [97] = (97, 1, true) := by decide
  unfold validB; rw [badL_ok _ _ _ (by simp) h]; simp [badL_nil]
theorem valid_98 : validB [98] = true := by
  have h : decS [98] = (98, 1, true) := by decide
  unfold validB; rw [badL_ok _ _ _ (by simp) h]; simp [badL_nil]
def kids29 : List DocA := [.mk 1 0 [97] none 0 [], .mk 2 0 [] none 0 [], .mk 1 0 [98] none 0 []]
theorem kids29_J (w : World) : ∀ x ∈ kids29, DocJ w x := fun x hx => by
  simp only [kids29, List.mem_cons, List.not_mem_nil, or_false] at hx
  rcases hx with rfl | rfl | rfl <;> exact docJ0 _ _ _ _
set_option maxRecDepth 20000 in
set_option maxHeartbeats 4000000 in
theorem lives29_c (w : World) : Calls Try.prog 16 #[] w fun e w' => e = .returned (.bool true) ∧ Below w.heap.size w w' := by
  refine sy_enter (args := []) rfl rfl ?_
  simp only [initFr]
  repeat (first | refine sy_k rfl rfl ?_ | (refine gO ?_; refine sy_ov (ov_p rfl) rfl rfl ?_))
  refine sy_ov (ov_call rfl (fun w _ => text29_c [97] w)) rfl rfl ?_
  skip
  refine sy_ov (ov_call rfl (fun w _ => line29_c w)) rfl rfl ?_
  skip
  refine sy_ov (ov_call rfl (fun w _ => text29_c [98] w)) rfl rfl ?_
  skip
  refine sy_buildSlice rfl rfl rfl rfl rfl rfl rfl rfl ?_
  intro nb
  skip
  refine sy_callN rfl rfl (fun w hw => cat29_c kids29 (some ⟨nb, 0, none⟩) 3 (by decide) w (docJ_blk hw (i := 0) (m := 3) (l := kids29) rfl rfl rfl rfl 0 0 [] (by decide) (kids29_J w))) ?_
  rintro u es' ⟨p, q, rfl, rfl⟩
  simp only [List.cons_append, List.nil_append]
  refine sy_ov (ov_call rfl (fun w hw => flat29_c (.mk 5 0 [] p q kids29) (by simp [kids29, plD, plDs, blkD, blkDs]) [97, 32, 98] true (by simp [kids29, plD, plDs, rightD, rightDs, forceD, forceDs, ownD, valid_97, valid_98]) (by simp [kids29, plD, plDs, flatD, flatDs]) w (docJ_vec hw (i := 0) rfl 5 0 [] (by decide) (kids29_J w)))) rfl rfl ?_
  repeat (first | refine sy_k rfl rfl ?_ | (refine gO ?_; first | refine sy_ov (ov_p rfl) rfl rfl ?_ | (refine gG ?_; (refine sy_guard_yes rfl rfl rfl rfl rfl ?_ ?_; focus (first | with_reducible rfl | assumption | omega | (simp <;> first | omega | assumption)))) | (refine sy_ov (ov_pick_t rfl rfl ?_) rfl rfl ?_; focus (with_reducible rfl))))
  refine sy_ov (ov_call rfl (fun w _ => hard29_c w)) rfl rfl ?_
  repeat ((refine gO ?_; (refine gG ?_; (refine sy_guard_yes rfl rfl rfl rfl rfl ?_ ?_; focus (first | with_reducible rfl | assumption | omega | (simp <;> first | omega | assumption))))))
  refine sy_ov (ov_call rfl (fun w _ => forced29_c _ (.mk 4 0 [] none 0 []) (Nat.le_refl _) w (docJ0 w _ _ _))) rfl rfl ?_
  repeat (first | refine sy_k rfl rfl ?_ | (refine gO ?_; first | refine sy_ov (ov_p rfl) rfl rfl ?_ | (refine sy_ov (ov_pick_t rfl rfl ?_) rfl rfl ?_; focus (with_reducible rfl))) | refine sy_rt ?_)
  exact ret1 rfl rfl (by simp [plD, forceD])
end Go.Proofs.Ytldjakeigjngoaa
/- Plain: what the flat texts of documents made of others are. -/
set_option linter.unusedVariables false
set_option linter.unusedSimpArgs false
namespace Go.Proofs.Ytldjakeigjngoaa
open Go.RowKit Bf
/-- Two documents, one behind the other. -/
theorem flat_two (k : Int) (hk : k = 5 ∨ k = 7) (x y : DocP) : rightD (.mk k 0 [] [x, y]) = (rightD x && rightD y) ∧ forceD (.mk k 0 [] [x, y]) = (forceD x || forceD y) ∧ flatD (.mk k 0 [] [x, y]) = flatD x ++ flatD y := by
  rcases hk with rfl | rfl <;> simp [rightD, rightDs, forceD, forceDs, flatD, flatDs, ownD]
theorem flat_nest (x : DocP) : rightD (.mk 6 3 [] [x]) = rightD x ∧ forceD (.mk 6 3 [] [x]) = forceD x ∧ flatD (.mk 6 3 [] [x]) = flatD x := by
  simp [rightD, rightDs, forceD, forceDs, flatD, flatDs, ownD]
theorem flat_three (k j : Int) (hk : k = 5 ∨ k = 7) (hj : j = 2 ∨ j = 3) (x y : DocP) : rightD (.mk k 0 [] [x, .mk j 0 [] [], y]) = (rightD x && rightD y) ∧ forceD (.mk k 0 [] [x, .mk j 0 [] [], y]) = (forceD x || forceD y) ∧
    flatD (.mk k 0 [] [x, .mk j 0 [] [], y]) = flatD x ++ ((if j = 2 then [32] else []) ++ flatD y) := by
  rcases hk with rfl | rfl <;> rcases hj with rfl | rfl <;> simp [rightD, rightDs, forceD, forceDs, flatD, flatDs, ownD]
theorem col_three (x y : DocP) : colD (.mk 5 0 [] [x, .mk 2 0 [] [], y]) = colD x + colD y + 1 := by
  simp [colD, colDs, widthL_nil]; omega
theorem grp_two (x y : DocP) : grpD (.mk 7 0 [] [x, y]) = grpD x + grpD y + 1 := by
  simp [grpD, grpDs]; omega
theorem all1 {α : Type} {P : α → Prop} {a : α} (ha : P a) : ∀ x ∈ [a], P x := fun x hx => by
  simp only [List.mem_cons, List.not_mem_nil, or_false] at hx; subst hx; exact ha
theorem all2 {α : Type} {P : α → Prop} {a b : α} (ha : P a) (hb : P b) : ∀ x ∈ [a, b], P x := fun x hx => by
  simp only [List.mem_cons, List.not_mem_nil, or_false] at hx
  rcases hx with rfl | rfl
  · exact ha
  · exact hb
theorem all3 {α : Type} {P : α → Prop} {a b c : α} (ha : P a) (hb : P b) (hc : P c) : ∀ x ∈ [a, b, c], P x := fun x hx => by
  simp only [List.mem_cons, List.not_mem_nil, or_false] at hx
  rcases hx with rfl | rfl | rfl
  · exact ha
  · exact hb
  · exact hc
theorem grp_nest (x y : DocP) (k n : Int) (s : List UInt8) : rightD (.mk 7 0 [] [.mk 6 3 [] [x], .mk 3 0 [] [], y]) = (rightD x && rightD y) ∧ forceD (.mk 7 0 [] [.mk 6 3 [] [x], .mk 3 0 [] [], y]) = (forceD x || forceD y) ∧ flatD (.mk 7 0 [] [.mk 6 3 [] [x], .mk 3 0 [] [], y]) = flatD x ++ flatD y := by
  obtain ⟨h1, h2, h3⟩ := flat_three 7 3 (.inr rfl) (.inr rfl) (.mk 6 3 [] [x]) y
  obtain ⟨g1, g2, g3⟩ := flat_nest x
  rw [h1, h2, h3, g1, g2, g3]; exact ⟨rfl, rfl, rfl⟩
end Go.Proofs.Ytldjakeigjngoaa
