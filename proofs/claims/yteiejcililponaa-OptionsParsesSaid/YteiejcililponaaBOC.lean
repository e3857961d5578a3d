/- BOC: texts of this proof, joined by program: ROpt, ROpt2, ROptParse. -/
import Derived.Test.YteiejcililponaaBOB
import Derived.Test.YteiejcililponaaBTR
/- Contracts: options, by the document: odd tokens, modes, options that may be. -/
set_option linter.unusedVariables false
set_option linter.unusedSimpArgs false
namespace Go.Proofs.Yteiejcililponaa
open Go.RowKit Bf
set_option maxRecDepth 20000 in
theorem rodd_c (t : TokT) (w : World) : Calls Try.prog 110 #[.agg ⟨tokV t⟩] w fun e w' => e = .returned (faultV (oddE t).1 (oddE t).2) ∧ Below w.heap.size w w' := by
  by_cases h0 : t.1 = 0
  · have h : oddE t = (5, t.2.1) := by unfold oddE; rw [if_pos h0]
    rw [h]
    refine sy_enter rfl rfl ?_
    simp only [initFr]
    repeat (first | refine sy_k rfl rfl ?_ | (refine gO ?_; first | refine sy_ov (ov_p rfl) rfl rfl ?_ | (refine gL ?_; refine sy_ov (ov_ld 1 rfl rfl rfl) rfl rfl ?_) | (refine gS ?_; refine sy_store 0 rfl rfl rfl rfl rfl rfl rfl rfl ?_) | refine sy_ov (ov_fieldAddr rfl rfl rfl) rfl rfl ?_ | refine sy_ov (ov_build rfl rfl rfl) rfl rfl ?_ | (refine sy_box rfl rfl rfl ?_; intro _) | (refine sy_alloc rfl rfl rfl ?_; intro _)) | (refine sy_cond_t rfl ?_ ?_; focus (first | with_reducible rfl | assumption | omega | (simp <;> first | omega | assumption))) | refine sy_rt ?_)
    exact ret1c 0 rfl rfl rfl rfl rfl rfl
  · have h : oddE t = (4, t.2.1) := by unfold oddE; rw [if_neg h0]
    rw [h]
    refine sy_enter rfl rfl ?_
    simp only [initFr]
    repeat (first | refine sy_k rfl rfl ?_ | (refine gO ?_; first | refine sy_ov (ov_p rfl) rfl rfl ?_ | (refine gL ?_; refine sy_ov (ov_ld 1 rfl rfl rfl) rfl rfl ?_) | (refine gS ?_; refine sy_store 0 rfl rfl rfl rfl rfl rfl rfl rfl ?_) | refine sy_ov (ov_fieldAddr rfl rfl rfl) rfl rfl ?_ | refine sy_ov (ov_build rfl rfl rfl) rfl rfl ?_ | (refine sy_box rfl rfl rfl ?_; intro _) | (refine sy_alloc rfl rfl rfl ?_; intro _)) | (refine sy_cond_f rfl ?_ ?_; focus (first | with_reducible rfl | assumption | omega | (simp <;> first | omega | assumption))) | refine sy_rt ?_)
    exact ret1c 0 rfl rfl rfl rfl rfl rfl
set_option maxRecDepth 20000 in
theorem rname36_c (m : Int) (w : World) : Calls Try.prog 73 #[.int .i64 m] w fun e w' => e = .returned (S (modL m)) ∧ Below w.heap.size w w' := by
  by_cases h1 : m < 1
  · have hm : modL m = [] := (modL_ne m).2 (by omega)
    rw [hm]
    refine sy_enter rfl rfl ?_
    simp only [initFr]
    repeat (first | refine sy_k rfl rfl ?_ | (refine gO ?_; refine sy_ov (ov_p rfl) rfl rfl ?_))
    refine sy_buildSlice rfl rfl rfl rfl rfl rfl rfl rfl ?_
    intro nb
    repeat (first | refine sy_k rfl rfl ?_ | (refine gO ?_; first | refine sy_ov (ov_p rfl) rfl rfl ?_ | (refine gG ?_; (refine sy_guard_no rfl rfl rfl rfl rfl ?_ ?_; focus (first | with_reducible rfl | assumption | omega | (simp <;> first | omega | assumption)))) | refine sy_ov (ov_pick rfl rfl rfl) rfl rfl ?_) | (refine sy_cond_t rfl ?_ ?_; focus (first | with_reducible rfl | assumption | omega | (simp <;> first | omega | assumption))) | refine sy_rt ?_)
    exact ret1 rfl rfl rfl
  · by_cases h3 : m > 3
    · have hm : modL m = [] := (modL_ne m).2 (by omega)
      rw [hm]
      refine sy_enter rfl rfl ?_
      simp only [initFr]
      repeat (first | refine sy_k rfl rfl ?_ | (refine gO ?_; refine sy_ov (ov_p rfl) rfl rfl ?_))
      refine sy_buildSlice rfl rfl rfl rfl rfl rfl rfl rfl ?_
      intro nb
      repeat (first | refine sy_k rfl rfl ?_ | (refine gO ?_; first | refine sy_ov (ov_p rfl) rfl rfl ?_ | (refine gG ?_; (refine sy_guard_yes rfl rfl rfl rfl rfl ?_ ?_; focus (first | with_reducible rfl | assumption | omega | (simp <;> first | omega | assumption)))) | (refine sy_ov (ov_pick_f rfl rfl ?_) rfl rfl ?_; focus (with_reducible rfl))) | (refine sy_cond_t rfl ?_ ?_; focus (first | with_reducible rfl | assumption | omega | (simp <;> first | omega | assumption))) | refine sy_rt ?_)
      exact ret1 rfl rfl rfl
    · have hm : m = 1 ∨ m = 2 ∨ m = 3 := by omega
      rcases hm with rfl | rfl | rfl
      all_goals
        refine sy_enter rfl rfl ?_
        simp only [initFr]
        repeat (first | refine sy_k rfl rfl ?_ | (refine gO ?_; refine sy_ov (ov_p rfl) rfl rfl ?_))
        refine sy_buildSlice rfl rfl rfl rfl rfl rfl rfl rfl ?_
        intro nb
        repeat (first | refine sy_k rfl rfl ?_ | (refine gO ?_; first | refine sy_ov (ov_p rfl) rfl rfl ?_ | (refine gG ?_; (refine sy_guard_yes rfl rfl rfl rfl rfl ?_ ?_; focus (first | with_reducible rfl | assumption | omega | (simp <;> first | omega | assumption)))) | (refine gL ?_; refine sy_ov (ov_ld 0 rfl rfl rfl) rfl rfl ?_) | (refine sy_ov (ov_pick_f rfl rfl ?_) rfl rfl ?_; focus (with_reducible rfl)) | (refine sy_ov (ov_indexAddr rfl rfl ?_ ?_) rfl rfl ?_; omega; omega)) | (refine sy_cond_f rfl ?_ ?_; focus (first | with_reducible rfl | assumption | omega | (simp <;> first | omega | assumption))) | refine sy_rt ?_)
        exact ret1 rfl rfl rfl
set_option maxRecDepth 20000 in
set_option maxHeartbeats 4000000 in
theorem rright36_c (o : OptT) (b : Bool) (hb : optB o = b) (hlen : o.2.2.2.length ≤ 9223372036854775807) (w : World) : Calls Try.prog 71 #[.agg ⟨optV o⟩] w fun e w' => e = .returned (.bool b) ∧ Below w.heap.size w w' := by
  obtain ⟨wd, i, m, ob⟩ := o
  simp only at hlen
  have hf : ∀ (h : ¬ (1 ≤ wd ∧ wd ≤ 1000 ∧ 0 ≤ i ∧ i ≤ 16 ∧ 1 ≤ m ∧ m ≤ 3)), b = false := fun h => by
    rw [← hb]; unfold optB widB indB
    simp only [Bool.and_eq_false_iff, decide_eq_false_iff_not]
    omega
  by_cases h1 : wd > 0
  · by_cases h2 : wd < 1001
    · by_cases h3 : i ≥ 0
      · by_cases h4 : i < 17
        · by_cases h5 : m > 0
          · by_cases h6 : m < 4
            · have hb2 : (decide (ob = []) || namB ob) = b := by
                rw [← hb]; unfold optB widB indB
                have e1 : (decide (1 ≤ wd) && decide (wd ≤ 1000)) = true := by simp; omega
                have e2 : (decide (0 ≤ i) && decide (i ≤ 16)) = true := by simp; omega
                have e3 : (decide (1 ≤ m) && decide (m ≤ 3)) = true := by simp; omega
                simp only [e1, e2, e3, Bool.true_and]
              by_cases h7 : ob = []
              · subst h7
                have hb3 : b = true := by rw [← hb2]; rfl
                rw [hb3]
                refine sy_enter rfl rfl ?_
                simp only [initFr]
                repeat (first | refine sy_k rfl rfl ?_ | (refine gO ?_; first | refine sy_ov (ov_p rfl) rfl rfl ?_ | (refine gG ?_; first | (refine sy_guard_yes rfl rfl rfl rfl rfl ?_ ?_; focus (first | with_reducible rfl | assumption | omega | (simp <;> first | omega | assumption))) | (refine sy_guard_no rfl rfl rfl rfl rfl ?_ ?_; focus (first | with_reducible rfl | assumption | omega | (simp <;> first | omega | assumption)))) | (refine gL ?_; refine sy_ov (ov_ld 0 rfl rfl rfl) rfl rfl ?_) | (refine sy_ov (ov_pick_t rfl rfl ?_) rfl rfl ?_; focus (with_reducible rfl)) | refine sy_ov (ov_pick rfl rfl rfl) rfl rfl ?_ | refine sy_ov (ov_fieldAddr rfl rfl rfl) rfl rfl ?_ | (refine sy_box rfl rfl rfl ?_; intro _)) | refine sy_rt ?_)
                exact ret1 rfl rfl (by first | rfl | simp_all)
              · have hb3 : namB ob = b := by rw [← hb2]; simp [h7]
                refine sy_enter rfl rfl ?_
                simp only [initFr]
                repeat (first | refine sy_k rfl rfl ?_ | (refine gO ?_; first | refine sy_ov (ov_p rfl) rfl rfl ?_ | (refine gG ?_; (refine sy_guard_yes rfl rfl rfl rfl rfl ?_ ?_; focus (first | with_reducible rfl | assumption | omega | (simp <;> first | omega | assumption)))) | (refine gL ?_; refine sy_ov (ov_ld 0 rfl rfl rfl) rfl rfl ?_) | (refine sy_ov (ov_pick_t rfl rfl ?_) rfl rfl ?_; focus (with_reducible rfl)) | refine sy_ov (ov_fieldAddr rfl rfl rfl) rfl rfl ?_ | (refine sy_box rfl rfl rfl ?_; intro _)))
                refine sy_ov (ov_call rfl (fun w _ => rright_c ob b hb3 (by omega) w)) rfl rfl ?_
                repeat (first | refine sy_k rfl rfl ?_ | (refine gO ?_; first | refine sy_ov (ov_p rfl) rfl rfl ?_ | (refine gG ?_; (refine sy_guard_yes rfl rfl rfl rfl rfl ?_ ?_; focus (first | with_reducible rfl | assumption | omega | (simp <;> first | omega | assumption)))) | (refine sy_ov (ov_pick_t rfl rfl ?_) rfl rfl ?_; focus (with_reducible rfl)) | (refine sy_ov (ov_pick_f rfl rfl ?_) rfl rfl ?_; focus (with_reducible rfl))) | refine sy_rt ?_)
                exact ret1 rfl rfl (by simp [h7])
            · rw [hf (by omega)]
              refine sy_enter rfl rfl ?_
              simp only [initFr]
              repeat (first | refine sy_k rfl rfl ?_ | (refine gO ?_; first | refine sy_ov (ov_p rfl) rfl rfl ?_ | (refine gG ?_; first | refine sy_guard_undef rfl rfl rfl rfl rfl ?_ | (refine sy_guard_yes rfl rfl rfl rfl rfl ?_ ?_; focus (first | with_reducible rfl | assumption | omega | (simp <;> first | omega | assumption))) | (refine sy_guard_no rfl rfl rfl rfl rfl ?_ ?_; focus (first | with_reducible rfl | assumption | omega | (simp <;> first | omega | assumption)))) | (refine gL ?_; refine sy_ov (ov_ld 0 rfl rfl rfl) rfl rfl ?_) | (refine sy_ov (ov_pick_t rfl rfl ?_) rfl rfl ?_; focus (with_reducible rfl)) | refine sy_ov (ov_pick rfl rfl rfl) rfl rfl ?_ | refine sy_ov (ov_fieldAddr rfl rfl rfl) rfl rfl ?_ | (refine sy_box rfl rfl rfl ?_; intro _)) | refine sy_rt ?_)
              exact ret1 rfl rfl (by first | rfl | simp_all)
          · rw [hf (by omega)]
            refine sy_enter rfl rfl ?_
            simp only [initFr]
            repeat (first | refine sy_k rfl rfl ?_ | (refine gO ?_; first | refine sy_ov (ov_p rfl) rfl rfl ?_ | (refine gG ?_; first | refine sy_guard_undef rfl rfl rfl rfl rfl ?_ | (refine sy_guard_yes rfl rfl rfl rfl rfl ?_ ?_; focus (first | with_reducible rfl | assumption | omega | (simp <;> first | omega | assumption))) | (refine sy_guard_no rfl rfl rfl rfl rfl ?_ ?_; focus (first | with_reducible rfl | assumption | omega | (simp <;> first | omega | assumption)))) | (refine gL ?_; refine sy_ov (ov_ld 0 rfl rfl rfl) rfl rfl ?_) | (refine sy_ov (ov_pick_t rfl rfl ?_) rfl rfl ?_; focus (with_reducible rfl)) | refine sy_ov (ov_pick rfl rfl rfl) rfl rfl ?_ | refine sy_ov (ov_fieldAddr rfl rfl rfl) rfl rfl ?_ | (refine sy_box rfl rfl rfl ?_; intro _)) | refine sy_rt ?_)
            exact ret1 rfl rfl (by first | rfl | simp_all)
        · rw [hf (by omega)]
          refine sy_enter rfl rfl ?_
          simp only [initFr]
          repeat (first | refine sy_k rfl rfl ?_ | (refine gO ?_; first | refine sy_ov (ov_p rfl) rfl rfl ?_ | (refine gG ?_; first | refine sy_guard_undef rfl rfl rfl rfl rfl ?_ | (refine sy_guard_yes rfl rfl rfl rfl rfl ?_ ?_; focus (first | with_reducible rfl | assumption | omega | (simp <;> first | omega | assumption))) | (refine sy_guard_no rfl rfl rfl rfl rfl ?_ ?_; focus (first | with_reducible rfl | assumption | omega | (simp <;> first | omega | assumption)))) | (refine gL ?_; refine sy_ov (ov_ld 0 rfl rfl rfl) rfl rfl ?_) | (refine sy_ov (ov_pick_t rfl rfl ?_) rfl rfl ?_; focus (with_reducible rfl)) | refine sy_ov (ov_pick rfl rfl rfl) rfl rfl ?_ | refine sy_ov (ov_fieldAddr rfl rfl rfl) rfl rfl ?_ | (refine sy_box rfl rfl rfl ?_; intro _)) | refine sy_rt ?_)
          exact ret1 rfl rfl (by first | rfl | simp_all)
      · rw [hf (by omega)]
        refine sy_enter rfl rfl ?_
        simp only [initFr]
        repeat (first | refine sy_k rfl rfl ?_ | (refine gO ?_; first | refine sy_ov (ov_p rfl) rfl rfl ?_ | (refine gG ?_; first | refine sy_guard_undef rfl rfl rfl rfl rfl ?_ | (refine sy_guard_yes rfl rfl rfl rfl rfl ?_ ?_; focus (first | with_reducible rfl | assumption | omega | (simp <;> first | omega | assumption))) | (refine sy_guard_no rfl rfl rfl rfl rfl ?_ ?_; focus (first | with_reducible rfl | assumption | omega | (simp <;> first | omega | assumption)))) | (refine gL ?_; refine sy_ov (ov_ld 0 rfl rfl rfl) rfl rfl ?_) | (refine sy_ov (ov_pick_t rfl rfl ?_) rfl rfl ?_; focus (with_reducible rfl)) | refine sy_ov (ov_pick rfl rfl rfl) rfl rfl ?_ | refine sy_ov (ov_fieldAddr rfl rfl rfl) rfl rfl ?_ | (refine sy_box rfl rfl rfl ?_; intro _)) | refine sy_rt ?_)
        exact ret1 rfl rfl (by first | rfl | simp_all)
    · rw [hf (by omega)]
      refine sy_enter rfl rfl ?_
      simp only [initFr]
      repeat (first | refine sy_k rfl rfl ?_ | (refine gO ?_; first | refine sy_ov (ov_p rfl) rfl rfl ?_ | (refine gG ?_; first | refine sy_guard_undef rfl rfl rfl rfl rfl ?_ | (refine sy_guard_yes rfl rfl rfl rfl rfl ?_ ?_; focus (first | with_reducible rfl | assumption | omega | (simp <;> first | omega | assumption))) | (refine sy_guard_no rfl rfl rfl rfl rfl ?_ ?_; focus (first | with_reducible rfl | assumption | omega | (simp <;> first | omega | assumption)))) | (refine gL ?_; refine sy_ov (ov_ld 0 rfl rfl rfl) rfl rfl ?_) | (refine sy_ov (ov_pick_t rfl rfl ?_) rfl rfl ?_; focus (with_reducible rfl)) | refine sy_ov (ov_pick rfl rfl rfl) rfl rfl ?_ | refine sy_ov (ov_fieldAddr rfl rfl rfl) rfl rfl ?_ | (refine sy_box rfl rfl rfl ?_; intro _)) | refine sy_rt ?_)
      exact ret1 rfl rfl (by first | rfl | simp_all)
  · rw [hf (by omega)]
    refine sy_enter rfl rfl ?_
    simp only [initFr]
    repeat (first | refine sy_k rfl rfl ?_ | (refine gO ?_; first | refine sy_ov (ov_p rfl) rfl rfl ?_ | (refine gG ?_; first | refine sy_guard_undef rfl rfl rfl rfl rfl ?_ | (refine sy_guard_no rfl rfl rfl rfl rfl ?_ ?_; focus (first | with_reducible rfl | assumption | omega | (simp <;> first | omega | assumption)))) | (refine gL ?_; refine sy_ov (ov_ld 0 rfl rfl rfl) rfl rfl ?_) | refine sy_ov (ov_pick rfl rfl rfl) rfl rfl ?_ | refine sy_ov (ov_fieldAddr rfl rfl rfl) rfl rfl ?_ | (refine sy_box rfl rfl rfl ?_; intro _)) | refine sy_rt ?_)
    exact ret1 rfl rfl (by first | rfl | simp_all)
end Go.Proofs.Yteiejcililponaa
/- Contracts: options, by the document: the first place of a text; a part is set. -/
set_option linter.unusedVariables false
set_option linter.unusedSimpArgs false
namespace Go.Proofs.Yteiejcililponaa
open Go.RowKit Bf
def strV (s : List UInt8) : List Value := [S s]
def fndL : List (List UInt8) → List UInt8 → Int
  | [], _ => -1
  | x :: l, s => if x = s then 0 else if fndL l s = -1 then -1 else fndL l s + 1
theorem fndL_at : ∀ (l : List (List UInt8)) (s : List UInt8) (i : Nat), (∀ j x, j < i → l[j]? = some x → x ≠ s) → l[i]? = some s → fndL l s = i
  | [], s, i, _, h => by simp at h
  | x :: l, s, 0, _, h => by simp at h; simp [fndL, h]
  | x :: l, s, i + 1, h0, h => by
    have hx : x ≠ s := h0 0 x (by omega) rfl
    have ih := fndL_at l s i (fun j y hj hy => h0 (j + 1) y (by omega) (by simpa using hy)) (by simpa using h)
    unfold fndL
    rw [if_neg hx, ih, if_neg (by omega)]; omega
theorem fndL_no : ∀ (l : List (List UInt8)) (s : List UInt8), (∀ (j : Nat) x, l[j]? = some x → x ≠ s) → fndL l s = -1
  | [], s, _ => rfl
  | x :: l, s, h => by
    have hx : x ≠ s := h 0 x rfl
    have ih := fndL_no l s (fun j y hy => h (j + 1) y (by simpa using hy))
    unfold fndL
    rw [if_neg hx, ih, if_pos rfl]
theorem fndL_mem (l : List (List UInt8)) (s : List UInt8) : (0 ≤ fndL l s) ↔ s ∈ l := by
  induction l with
  | nil => simp [fndL]
  | cons x l ih =>
    unfold fndL
    by_cases hx : x = s
    · rw [if_pos hx]; simp [hx]
    · rw [if_neg hx]
      have hb : -1 ≤ fndL l s := by
        clear ih
        induction l with
        | nil => simp [fndL]
        | cons y l ih2 => unfold fndL; split <;> (try split) <;> omega
      have hne : s ≠ x := fun e => hx e.symm
      by_cases h1 : fndL l s = -1
      · rw [if_pos h1]
        have := (not_congr ih).1 (by omega)
        simp [hne, this]
      · rw [if_neg h1]
        have := ih.1 (by omega)
        simp [this]; omega
set_option maxRecDepth 20000 in
set_option maxHeartbeats 2000000 in
theorem rfind_c (w : World) (p : Option Addr) (n c : Nat) (l : List (List UInt8)) (s : List UInt8) (hl : l.length = n) (hn : n ≤ 4611686018427387000) (hs : IsSl w 1 p n (l.flatMap strV)) :
    Calls Try.prog 111 #[.slice p n c, S s] w fun e w' => e = .returned (.int .i64 (fndL l s)) ∧ Below w.heap.size w w' := by
  have hst : St (fun _ => False) w (fun w => IsSl w 1 p n (l.flatMap strV)) := St.start (IsSl.bl _ _ _ _) hs
  refine sy_enter rfl rfl ?_
  simp only [initFr]
  repeat (first | refine sy_k rfl rfl ?_ | (refine gO ?_; refine sy_ov (ov_p rfl) rfl rfl ?_))
  refine sy_loop (α := Int) (fun i => [(0, .slice p n c), (1, S s), (5, .int .i64 i)]) (fun _ => []) (fun i => 0 ≤ i ∧ i ≤ n ∧ ∀ (j : Nat) x, j < i.toNat → l[j]? = some x → x ≠ s) (fun i => (n - i).toNat) 0 ⟨by omega, by omega, fun j x h => by simp at h⟩ ⟨⟨_, rfl, rfl⟩, ⟨_, rfl, rfl⟩, ⟨_, rfl, rfl⟩, trivial⟩ (List.nil_sublist _) ?_
  rintro i ⟨i0, i1, hno⟩
  by_cases hlt : i < n
  · have hil : i.toNat < l.length := by omega
    obtain ⟨x, hx⟩ : ∃ x, l[i.toNat]? = some x := ⟨_, List.getElem?_eq_getElem hil⟩
    obtain ⟨b, off, hp, hat⟩ := hst.addr (by omega)
    subst hp
    by_cases he : x = s
    · subst he
      have hf := fndL_at l x i.toNat hno hx
      rw [hf]
      repeat (first | refine sy_k rfl rfl ?_ | (refine gO ?_; first | refine sy_ov (ov_p rfl) rfl rfl ?_ | (refine gK ?_; refine sy_ov (ov_lens rfl) rfl rfl ?_) | (refine sy_ov (ov_indexAddr rfl rfl ?_ ?_) rfl rfl ?_; omega; omega)) | (refine sy_cond_t rfl ?_ ?_; focus (first | with_reducible rfl | assumption | omega | (simp <;> first | omega | assumption))))
      refine sy_ov (ov_cell (f := strV) (j := 0) (k := 1) hat hx rfl rfl rfl (fun _ => rfl)) rfl rfl ?_
      repeat (first | refine sy_k rfl rfl ?_ | (refine gO ?_; refine sy_ov (ov_p rfl) rfl rfl ?_) | (refine sy_cond_t rfl ?_ ?_; focus (first | with_reducible rfl | assumption | omega | (simp <;> first | omega | assumption))) | refine sy_rt ?_)
      exact ret1 rfl rfl (by congr 1; omega)
    · repeat (first | refine sy_k rfl rfl ?_ | (refine gO ?_; first | refine sy_ov (ov_p rfl) rfl rfl ?_ | (refine gK ?_; refine sy_ov (ov_lens rfl) rfl rfl ?_) | (refine sy_ov (ov_indexAddr rfl rfl ?_ ?_) rfl rfl ?_; omega; omega)) | (refine sy_cond_t rfl ?_ ?_; focus (first | with_reducible rfl | assumption | omega | (simp <;> first | omega | assumption))))
      refine sy_ov (ov_cell (f := strV) (j := 0) (k := 1) hat hx rfl rfl rfl (fun _ => rfl)) rfl rfl ?_
      repeat (first | refine sy_k rfl rfl ?_ | (refine gO ?_; first | refine sy_ov (ov_p rfl) rfl rfl ?_ | (refine gB ?_; (refine sy_ov (ov_ar rfl rfl rfl ?_ ?_) rfl rfl ?_; omega; omega))) | (refine sy_cond_f rfl ?_ ?_; focus (first | with_reducible rfl | assumption | omega | (simp <;> first | omega | assumption))))
      refine sy_back (i + 1) ⟨by omega, by omega, ?_⟩ (by omega) ⟨⟨_, rfl, rfl⟩, ⟨_, rfl, rfl⟩, ⟨_, rfl, rfl⟩, trivial⟩ (List.nil_sublist _)
      intro j y hj hy
      by_cases hji : j < i.toNat
      · exact hno j y hji hy
      · have : j = i.toNat := by omega
        subst this
        rw [hx] at hy; cases hy; exact he
  · have hf := fndL_no l s (fun j x hx => hno j x (by have := (List.getElem?_eq_some_iff.1 hx).1; omega) hx)
    rw [hf]
    repeat (first | refine sy_k rfl rfl ?_ | (refine gO ?_; first | refine sy_ov (ov_p rfl) rfl rfl ?_ | (refine gK ?_; refine sy_ov (ov_lens rfl) rfl rfl ?_)) | (refine sy_cond_f rfl ?_ ?_; focus (first | with_reducible rfl | assumption | omega | (simp <;> first | omega | assumption))) | refine sy_rt ?_)
    exact ret1 rfl rfl rfl
def nmL (k : Int) : List UInt8 := if k = 0 then widthL' else if k = 1 then indentL else if k = 2 then modeL else obsL
set_option maxRecDepth 20000 in
set_option maxHeartbeats 8000000 in
theorem rset_c (o : OptT) (k : Int) (hk : 0 ≤ k ∧ k ≤ 3) (v : TokT) (hol : o.2.2.2.length ≤ 4611686018427387000) (hvl : v.2.2.2.1.length ≤ 4611686018427387000) (w : World) :
    Calls Try.prog 112 #[.agg ⟨optV o⟩, S (nmL k), .agg ⟨tokV v⟩] w fun e w' => e = .returned (.tuple #[.agg ⟨optV (setO k o v).1⟩, faultV (setO k o v).2.1 (setO k o v).2.2]) ∧ Below w.heap.size w w' := by
  have hk' : k = 0 ∨ k = 1 ∨ k = 2 ∨ k = 3 := by omega
  have hmn := modN_le v.2.2.2.1
  obtain ⟨wd, i, m, ob⟩ := o
  simp only at hol
  rcases hk' with rfl | rfl | rfl | rfl
  · show Calls Try.prog 112 #[.agg ⟨optV (wd, i, m, ob)⟩, S [119, 105, 100, 116, 104], .agg ⟨tokV v⟩] w _
    by_cases h1 : v.1 = 2
    · obtain ⟨b, hb⟩ : ∃ b, optB (v.2.2.2.2, i, m, ob) = b := ⟨_, rfl⟩
      cases b
      · have hS : setO 0 (wd, i, m, ob) v = ((v.2.2.2.2, i, m, ob), 20, v.2.1) := by
          unfold setO newO; rw [if_neg (by simp [h1])]; simp [hb]
        rw [hS]
        refine sy_enter rfl rfl ?_
        simp only [initFr]
        repeat (first | refine sy_k rfl rfl ?_ | (refine gO ?_; first | refine sy_ov (ov_p rfl) rfl rfl ?_ | (refine gG ?_; first | (refine sy_guard_yes rfl rfl rfl rfl rfl ?_ ?_; focus (first | with_reducible rfl | assumption | omega | (simp <;> first | omega | assumption))) | (refine sy_guard_no rfl rfl rfl rfl rfl ?_ ?_; focus (first | with_reducible rfl | assumption | omega | (simp <;> first | omega | assumption)))) | (refine gL ?_; first | refine sy_ov (ov_ld 2 rfl rfl rfl) rfl rfl ?_ | refine sy_ov (ov_ld 3 rfl rfl rfl) rfl rfl ?_) | (refine gS ?_; refine sy_store 3 rfl rfl rfl rfl rfl rfl rfl rfl ?_) | (refine sy_ov (ov_pick_t rfl rfl ?_) rfl rfl ?_; focus (with_reducible rfl)) | (refine sy_ov (ov_pick_f rfl rfl ?_) rfl rfl ?_; focus (with_reducible rfl)) | refine sy_ov (ov_pick rfl rfl rfl) rfl rfl ?_ | refine sy_ov (ov_fieldAddr rfl rfl rfl) rfl rfl ?_ | (refine sy_box rfl rfl rfl ?_; intro _) | (refine sy_alloc rfl rfl rfl ?_; intro _)) | (refine sy_cond_t rfl ?_ ?_; focus (first | with_reducible rfl | assumption | omega | (simp <;> first | omega | assumption))) | (refine sy_cond_f rfl ?_ ?_; focus (first | with_reducible rfl | assumption | omega | (simp <;> first | omega | assumption))))
        refine sy_ov (ov_call rfl (fun w _ => rright36_c (v.2.2.2.2, i, m, ob) false hb (by simp only; omega) w)) rfl rfl ?_
        repeat (first | refine sy_k rfl rfl ?_ | (refine gO ?_; refine sy_ov (ov_p rfl) rfl rfl ?_) | (refine sy_cond_t rfl ?_ ?_; focus (first | with_reducible rfl | assumption | omega | (simp <;> first | omega | assumption))) | (refine sy_cond_f rfl ?_ ?_; focus (first | with_reducible rfl | assumption | omega | (simp <;> first | omega | assumption))))
        refine sy_drawE _ 5 [(0, false), (1, false), (2, false), (3, false), (4, true)] (by kernel_rfl) rfl (sk (sd (sk (sk sr)))) ?_
        repeat (first | refine dre_rd (fun _ _ => ov_ld 1 rfl rfl rfl) rfl ?_ | refine dre_rd (fun _ _ => ov_ld 2 rfl rfl rfl) rfl ?_ | refine dre_rd (fun _ _ => ov_fieldAddr rfl rfl rfl) rfl ?_ | refine dre_rd (fun _ _ => ov_build rfl rfl rfl) rfl ?_ | (refine dre_ef rfl ?_; refine sy_store 1 rfl rfl rfl rfl rfl rfl rfl rfl ?_; refine dre_ek (by first | exact sr | exact sk sr | (repeat first | exact sr | apply sk | apply sd)) ?_) | refine dre_end ?_)
        repeat (first | refine sy_k rfl rfl ?_ | (refine gO ?_; (refine gS ?_; refine sy_store 0 rfl rfl rfl rfl rfl rfl rfl rfl ?_)) | refine sy_rt ?_)
        exact ret_cc 1 0 rfl rfl rfl rfl rfl rfl rfl rfl rfl rfl
      · have hS : setO 0 (wd, i, m, ob) v = ((v.2.2.2.2, i, m, ob), 0, 0) := by
          unfold setO newO; rw [if_neg (by simp [h1])]; simp [hb]
        rw [hS]
        refine sy_enter rfl rfl ?_
        simp only [initFr]
        repeat (first | refine sy_k rfl rfl ?_ | (refine gO ?_; first | refine sy_ov (ov_p rfl) rfl rfl ?_ | (refine gG ?_; first | (refine sy_guard_yes rfl rfl rfl rfl rfl ?_ ?_; focus (first | with_reducible rfl | assumption | omega | (simp <;> first | omega | assumption))) | (refine sy_guard_no rfl rfl rfl rfl rfl ?_ ?_; focus (first | with_reducible rfl | assumption | omega | (simp <;> first | omega | assumption)))) | (refine gL ?_; first | refine sy_ov (ov_ld 2 rfl rfl rfl) rfl rfl ?_ | refine sy_ov (ov_ld 3 rfl rfl rfl) rfl rfl ?_) | (refine gS ?_; refine sy_store 3 rfl rfl rfl rfl rfl rfl rfl rfl ?_) | (refine sy_ov (ov_pick_t rfl rfl ?_) rfl rfl ?_; focus (with_reducible rfl)) | (refine sy_ov (ov_pick_f rfl rfl ?_) rfl rfl ?_; focus (with_reducible rfl)) | refine sy_ov (ov_pick rfl rfl rfl) rfl rfl ?_ | refine sy_ov (ov_fieldAddr rfl rfl rfl) rfl rfl ?_ | (refine sy_box rfl rfl rfl ?_; intro _) | (refine sy_alloc rfl rfl rfl ?_; intro _)) | (refine sy_cond_t rfl ?_ ?_; focus (first | with_reducible rfl | assumption | omega | (simp <;> first | omega | assumption))) | (refine sy_cond_f rfl ?_ ?_; focus (first | with_reducible rfl | assumption | omega | (simp <;> first | omega | assumption))))
        refine sy_ov (ov_call rfl (fun w _ => rright36_c (v.2.2.2.2, i, m, ob) true hb (by simp only; omega) w)) rfl rfl ?_
        repeat (first | refine sy_k rfl rfl ?_ | (refine gO ?_; first | (refine gL ?_; refine sy_ov (ov_ld 3 rfl rfl rfl) rfl rfl ?_) | (refine gS ?_; first | refine sy_store 0 rfl rfl rfl rfl rfl rfl rfl rfl ?_ | refine sy_store 1 rfl rfl rfl rfl rfl rfl rfl rfl ?_) | refine sy_ov (ov_build rfl rfl rfl) rfl rfl ?_) | (refine sy_cond_t rfl ?_ ?_; focus (first | with_reducible rfl | assumption | omega | (simp <;> first | omega | assumption))) | refine sy_rt ?_)
        exact ret_cc 1 0 rfl rfl rfl rfl rfl rfl rfl rfl rfl rfl
    · have hS : setO 0 (wd, i, m, ob) v = ((wd, i, m, ob), oddE v) := by
        unfold setO; rw [if_pos (by simp [h1])]
      rw [hS]
      refine sy_enter rfl rfl ?_
      simp only [initFr]
      repeat (first | refine sy_k rfl rfl ?_ | (refine gO ?_; first | refine sy_ov (ov_p rfl) rfl rfl ?_ | (refine gG ?_; first | refine sy_guard_undef rfl rfl rfl rfl rfl ?_ | (refine sy_guard_yes rfl rfl rfl rfl rfl ?_ ?_; focus (first | with_reducible rfl | assumption | omega | (simp <;> first | omega | assumption))) | (refine sy_guard_no rfl rfl rfl rfl rfl ?_ ?_; focus (first | with_reducible rfl | assumption | omega | (simp <;> first | omega | assumption)))) | (refine gL ?_; refine sy_ov (ov_ld 2 rfl rfl rfl) rfl rfl ?_) | (refine sy_ov (ov_pick_t rfl rfl ?_) rfl rfl ?_; focus (with_reducible rfl)) | refine sy_ov (ov_pick rfl rfl rfl) rfl rfl ?_ | refine sy_ov (ov_fieldAddr rfl rfl rfl) rfl rfl ?_ | (refine sy_box rfl rfl rfl ?_; intro _) | (refine sy_alloc rfl rfl rfl ?_; intro _)) | (refine sy_cond_t rfl ?_ ?_; focus (first | with_reducible rfl | assumption | omega | (simp <;> first | omega | assumption))))
      refine sy_draw 3 (by kernel_rfl) ?_
      repeat (first | refine dr_op (ov_ld 2 rfl rfl rfl) rfl rfl ?_ | refine dr_op (ov_ld 3 rfl rfl rfl) rfl rfl ?_)
      refine dr_op (ov_call rfl (fun w _ => rodd_c v w)) rfl rfl ?_
      repeat (refine dr_end ?_)
      repeat (first | refine sy_k rfl rfl ?_ | (refine gO ?_; (refine gS ?_; first | refine sy_store 0 rfl rfl rfl rfl rfl rfl rfl rfl ?_ | refine sy_store 1 rfl rfl rfl rfl rfl rfl rfl rfl ?_)) | refine sy_rt ?_)
      exact ret_cc 1 0 rfl rfl rfl rfl rfl rfl rfl rfl rfl rfl
  · show Calls Try.prog 112 #[.agg ⟨optV (wd, i, m, ob)⟩, S [105, 110, 100, 101, 110, 116], .agg ⟨tokV v⟩] w _
    by_cases h1 : v.1 = 2
    · obtain ⟨b, hb⟩ : ∃ b, optB (wd, v.2.2.2.2, m, ob) = b := ⟨_, rfl⟩
      cases b
      · have hS : setO 1 (wd, i, m, ob) v = ((wd, v.2.2.2.2, m, ob), 20, v.2.1) := by
          unfold setO newO; rw [if_neg (by simp [h1])]; simp [hb]
        rw [hS]
        refine sy_enter rfl rfl ?_
        simp only [initFr]
        repeat (first | refine sy_k rfl rfl ?_ | (refine gO ?_; first | refine sy_ov (ov_p rfl) rfl rfl ?_ | (refine gG ?_; first | (refine sy_guard_yes rfl rfl rfl rfl rfl ?_ ?_; focus (first | with_reducible rfl | assumption | omega | (simp <;> first | omega | assumption))) | (refine sy_guard_no rfl rfl rfl rfl rfl ?_ ?_; focus (first | with_reducible rfl | assumption | omega | (simp <;> first | omega | assumption)))) | (refine gL ?_; first | refine sy_ov (ov_ld 2 rfl rfl rfl) rfl rfl ?_ | refine sy_ov (ov_ld 3 rfl rfl rfl) rfl rfl ?_) | (refine gS ?_; refine sy_store 3 rfl rfl rfl rfl rfl rfl rfl rfl ?_) | (refine sy_ov (ov_pick_t rfl rfl ?_) rfl rfl ?_; focus (with_reducible rfl)) | (refine sy_ov (ov_pick_f rfl rfl ?_) rfl rfl ?_; focus (with_reducible rfl)) | refine sy_ov (ov_pick rfl rfl rfl) rfl rfl ?_ | refine sy_ov (ov_fieldAddr rfl rfl rfl) rfl rfl ?_ | (refine sy_box rfl rfl rfl ?_; intro _) | (refine sy_alloc rfl rfl rfl ?_; intro _)) | (refine sy_cond_t rfl ?_ ?_; focus (first | with_reducible rfl | assumption | omega | (simp <;> first | omega | assumption))) | (refine sy_cond_f rfl ?_ ?_; focus (first | with_reducible rfl | assumption | omega | (simp <;> first | omega | assumption))))
        refine sy_ov (ov_call rfl (fun w _ => rright36_c (wd, v.2.2.2.2, m, ob) false hb (by simp only; omega) w)) rfl rfl ?_
        repeat (first | refine sy_k rfl rfl ?_ | (refine gO ?_; refine sy_ov (ov_p rfl) rfl rfl ?_) | (refine sy_cond_t rfl ?_ ?_; focus (first | with_reducible rfl | assumption | omega | (simp <;> first | omega | assumption))) | (refine sy_cond_f rfl ?_ ?_; focus (first | with_reducible rfl | assumption | omega | (simp <;> first | omega | assumption))))
        refine sy_drawE _ 5 [(0, false), (1, false), (2, false), (3, false), (4, true)] (by kernel_rfl) rfl (sk (sd (sk (sk sr)))) ?_
        repeat (first | refine dre_rd (fun _ _ => ov_ld 1 rfl rfl rfl) rfl ?_ | refine dre_rd (fun _ _ => ov_ld 2 rfl rfl rfl) rfl ?_ | refine dre_rd (fun _ _ => ov_fieldAddr rfl rfl rfl) rfl ?_ | refine dre_rd (fun _ _ => ov_build rfl rfl rfl) rfl ?_ | (refine dre_ef rfl ?_; refine sy_store 1 rfl rfl rfl rfl rfl rfl rfl rfl ?_; refine dre_ek (by first | exact sr | exact sk sr | (repeat first | exact sr | apply sk | apply sd)) ?_) | refine dre_end ?_)
        repeat (first | refine sy_k rfl rfl ?_ | (refine gO ?_; (refine gS ?_; refine sy_store 0 rfl rfl rfl rfl rfl rfl rfl rfl ?_)) | refine sy_rt ?_)
        exact ret_cc 1 0 rfl rfl rfl rfl rfl rfl rfl rfl rfl rfl
      · have hS : setO 1 (wd, i, m, ob) v = ((wd, v.2.2.2.2, m, ob), 0, 0) := by
          unfold setO newO; rw [if_neg (by simp [h1])]; simp [hb]
        rw [hS]
        refine sy_enter rfl rfl ?_
        simp only [initFr]
        repeat (first | refine sy_k rfl rfl ?_ | (refine gO ?_; first | refine sy_ov (ov_p rfl) rfl rfl ?_ | (refine gG ?_; first | (refine sy_guard_yes rfl rfl rfl rfl rfl ?_ ?_; focus (first | with_reducible rfl | assumption | omega | (simp <;> first | omega | assumption))) | (refine sy_guard_no rfl rfl rfl rfl rfl ?_ ?_; focus (first | with_reducible rfl | assumption | omega | (simp <;> first | omega | assumption)))) | (refine gL ?_; first | refine sy_ov (ov_ld 2 rfl rfl rfl) rfl rfl ?_ | refine sy_ov (ov_ld 3 rfl rfl rfl) rfl rfl ?_) | (refine gS ?_; refine sy_store 3 rfl rfl rfl rfl rfl rfl rfl rfl ?_) | (refine sy_ov (ov_pick_t rfl rfl ?_) rfl rfl ?_; focus (with_reducible rfl)) | (refine sy_ov (ov_pick_f rfl rfl ?_) rfl rfl ?_; focus (with_reducible rfl)) | refine sy_ov (ov_pick rfl rfl rfl) rfl rfl ?_ | refine sy_ov (ov_fieldAddr rfl rfl rfl) rfl rfl ?_ | (refine sy_box rfl rfl rfl ?_; intro _) | (refine sy_alloc rfl rfl rfl ?_; intro _)) | (refine sy_cond_t rfl ?_ ?_; focus (first | with_reducible rfl | assumption | omega | (simp <;> first | omega | assumption))) | (refine sy_cond_f rfl ?_ ?_; focus (first | with_reducible rfl | assumption | omega | (simp <;> first | omega | assumption))))
        refine sy_ov (ov_call rfl (fun w _ => rright36_c (wd, v.2.2.2.2, m, ob) true hb (by simp only; omega) w)) rfl rfl ?_
        repeat (first | refine sy_k rfl rfl ?_ | (refine gO ?_; first | (refine gL ?_; refine sy_ov (ov_ld 3 rfl rfl rfl) rfl rfl ?_) | (refine gS ?_; first | refine sy_store 0 rfl rfl rfl rfl rfl rfl rfl rfl ?_ | refine sy_store 1 rfl rfl rfl rfl rfl rfl rfl rfl ?_) | refine sy_ov (ov_build rfl rfl rfl) rfl rfl ?_) | (refine sy_cond_t rfl ?_ ?_; focus (first | with_reducible rfl | assumption | omega | (simp <;> first | omega | assumption))) | refine sy_rt ?_)
        exact ret_cc 1 0 rfl rfl rfl rfl rfl rfl rfl rfl rfl rfl
    · have hS : setO 1 (wd, i, m, ob) v = ((wd, i, m, ob), oddE v) := by
        unfold setO; rw [if_pos (by simp [h1])]
      rw [hS]
      refine sy_enter rfl rfl ?_
      simp only [initFr]
      repeat (first | refine sy_k rfl rfl ?_ | (refine gO ?_; first | refine sy_ov (ov_p rfl) rfl rfl ?_ | (refine gG ?_; first | refine sy_guard_undef rfl rfl rfl rfl rfl ?_ | (refine sy_guard_yes rfl rfl rfl rfl rfl ?_ ?_; focus (first | with_reducible rfl | assumption | omega | (simp <;> first | omega | assumption))) | (refine sy_guard_no rfl rfl rfl rfl rfl ?_ ?_; focus (first | with_reducible rfl | assumption | omega | (simp <;> first | omega | assumption)))) | (refine gL ?_; refine sy_ov (ov_ld 2 rfl rfl rfl) rfl rfl ?_) | (refine sy_ov (ov_pick_t rfl rfl ?_) rfl rfl ?_; focus (with_reducible rfl)) | (refine sy_ov (ov_pick_f rfl rfl ?_) rfl rfl ?_; focus (with_reducible rfl)) | refine sy_ov (ov_pick rfl rfl rfl) rfl rfl ?_ | refine sy_ov (ov_fieldAddr rfl rfl rfl) rfl rfl ?_ | (refine sy_box rfl rfl rfl ?_; intro _) | (refine sy_alloc rfl rfl rfl ?_; intro _)) | (refine sy_cond_t rfl ?_ ?_; focus (first | with_reducible rfl | assumption | omega | (simp <;> first | omega | assumption))))
      refine sy_draw 3 (by kernel_rfl) ?_
      repeat (first | refine dr_op (ov_ld 2 rfl rfl rfl) rfl rfl ?_ | refine dr_op (ov_ld 3 rfl rfl rfl) rfl rfl ?_)
      refine dr_op (ov_call rfl (fun w _ => rodd_c v w)) rfl rfl ?_
      repeat (refine dr_end ?_)
      repeat (first | refine sy_k rfl rfl ?_ | (refine gO ?_; (refine gS ?_; first | refine sy_store 0 rfl rfl rfl rfl rfl rfl rfl rfl ?_ | refine sy_store 1 rfl rfl rfl rfl rfl rfl rfl rfl ?_)) | refine sy_rt ?_)
      exact ret_cc 1 0 rfl rfl rfl rfl rfl rfl rfl rfl rfl rfl
  · show Calls Try.prog 112 #[.agg ⟨optV (wd, i, m, ob)⟩, S [109, 111, 100, 101], .agg ⟨tokV v⟩] w _
    by_cases h1 : v.1 = 1
    · obtain ⟨b, hb⟩ : ∃ b, optB (wd, i, modN v.2.2.2.1, ob) = b := ⟨_, rfl⟩
      cases b
      · have hS : setO 2 (wd, i, m, ob) v = ((wd, i, modN v.2.2.2.1, ob), 9, v.2.1) := by
          unfold setO newO; rw [if_neg (by simp [h1])]; simp [hb]
        rw [hS]
        refine sy_enter rfl rfl ?_
        simp only [initFr]
        repeat (first | refine sy_k rfl rfl ?_ | (refine gO ?_; first | refine sy_ov (ov_p rfl) rfl rfl ?_ | (refine gG ?_; first | (refine sy_guard_yes rfl rfl rfl rfl rfl ?_ ?_; focus (first | with_reducible rfl | assumption | omega | (simp <;> first | omega | assumption))) | (refine sy_guard_no rfl rfl rfl rfl rfl ?_ ?_; focus (first | with_reducible rfl | assumption | omega | (simp <;> first | omega | assumption)))) | (refine gL ?_; refine sy_ov (ov_ld 2 rfl rfl rfl) rfl rfl ?_) | (refine gS ?_; refine sy_store 3 rfl rfl rfl rfl rfl rfl rfl rfl ?_) | (refine sy_ov (ov_pick_t rfl rfl ?_) rfl rfl ?_; focus (with_reducible rfl)) | (refine sy_ov (ov_pick_f rfl rfl ?_) rfl rfl ?_; focus (with_reducible rfl)) | refine sy_ov (ov_pick rfl rfl rfl) rfl rfl ?_ | refine sy_ov (ov_fieldAddr rfl rfl rfl) rfl rfl ?_ | (refine sy_box rfl rfl rfl ?_; intro _) | (refine sy_alloc rfl rfl rfl ?_; intro _)) | (refine sy_cond_t rfl ?_ ?_; focus (first | with_reducible rfl | assumption | omega | (simp <;> first | omega | assumption))) | (refine sy_cond_f rfl ?_ ?_; focus (first | with_reducible rfl | assumption | omega | (simp <;> first | omega | assumption))))
        rename_i b3 b5 b6 b7
        refine sy_loop (α := Int) (fun x => [(3, ptr b3), (5, ptr b5), (6, ptr b6), (7, ptr b7), (8, .bool false), (9, .int .i64 x)]) (fun x => [blk b7 55 [.int .i64 0, .int .i64 0], blk b6 85 (optV zopt), blk b5 64 (tokV v), blk b3 85 (optV (wd, i, (if modN v.2.2.2.1 < x then modN v.2.2.2.1 else 0), ob))]) (fun x => 1 ≤ x ∧ x ≤ 4) (fun x => (4 - x).toNat) 1 ⟨by omega, by omega⟩ ⟨⟨_, rfl, rfl⟩, ⟨_, rfl, rfl⟩, ⟨_, rfl, rfl⟩, ⟨_, rfl, rfl⟩, ⟨_, rfl, rfl⟩, ⟨_, rfl, rfl⟩, trivial⟩ (by rw [show (if modN v.2.2.2.1 < 1 then modN v.2.2.2.1 else 0) = 0 by split <;> omega]; exact sr) ?_
        rintro x ⟨x1, x4⟩
        by_cases hlt : x < 4
        · have hml := modN_mod x v.2.2.2.1 x1 (by omega)
          by_cases he : modL x = v.2.2.2.1
          · have hmx := hml.1 he
            repeat (first | refine sy_k rfl rfl ?_ | (refine gO ?_; refine sy_ov (ov_p rfl) rfl rfl ?_) | (refine sy_cond_t rfl ?_ ?_; focus (first | with_reducible rfl | assumption | omega | (simp <;> first | omega | assumption))))
            refine sy_draw 4 (by kernel_rfl) ?_
            repeat (refine dr_op (ov_p rfl) rfl rfl ?_)
            refine dr_op (ov_call rfl (fun w _ => rname36_c x w)) rfl rfl ?_
            rw [he]
            repeat (first | refine dr_op (ov_ld 2 rfl rfl rfl) rfl rfl ?_ | refine dr_op (ov_fieldAddr rfl rfl rfl) rfl rfl ?_ | refine dr_end ?_)
            repeat (first | refine sy_k rfl rfl ?_ | (refine gO ?_; first | refine sy_ov (ov_p rfl) rfl rfl ?_ | (refine gB ?_; (refine sy_ov (ov_ar rfl rfl rfl ?_ ?_) rfl rfl ?_; omega; omega)) | (refine gS ?_; refine sy_store 3 rfl rfl rfl rfl rfl rfl rfl rfl ?_) | refine sy_ov (ov_fieldAddr rfl rfl rfl) rfl rfl ?_) | (refine sy_cond_t rfl ?_ ?_; focus (first | with_reducible rfl | assumption | omega | (simp <;> first | omega | assumption))))
            refine sy_back (x + 1) ⟨by omega, by omega⟩ (by omega) ⟨⟨_, rfl, rfl⟩, ⟨_, rfl, rfl⟩, ⟨_, rfl, rfl⟩, ⟨_, rfl, rfl⟩, ⟨_, rfl, rfl⟩, ⟨_, rfl, rfl⟩, trivial⟩ ?_
            rw [show (if modN v.2.2.2.1 < x + 1 then modN v.2.2.2.1 else 0) = x by rw [if_pos (by omega)]; exact hmx]
            exact sr
          · have hmx := (not_congr hml).1 he
            repeat (first | refine sy_k rfl rfl ?_ | (refine gO ?_; refine sy_ov (ov_p rfl) rfl rfl ?_) | (refine sy_cond_t rfl ?_ ?_; focus (first | with_reducible rfl | assumption | omega | (simp <;> first | omega | assumption))))
            refine sy_draw 4 (by kernel_rfl) ?_
            repeat (refine dr_op (ov_p rfl) rfl rfl ?_)
            refine dr_op (ov_call rfl (fun w _ => rname36_c x w)) rfl rfl ?_
            repeat (first | refine dr_op (ov_ld 2 rfl rfl rfl) rfl rfl ?_ | refine dr_op (ov_fieldAddr rfl rfl rfl) rfl rfl ?_ | refine dr_end ?_)
            repeat (first | refine sy_k rfl rfl ?_ | (refine gO ?_; first | refine sy_ov (ov_p rfl) rfl rfl ?_ | (refine gB ?_; (refine sy_ov (ov_ar rfl rfl rfl ?_ ?_) rfl rfl ?_; omega; omega))) | (refine sy_cond_f rfl ?_ ?_; focus (first | with_reducible rfl | assumption | omega | (simp <;> first | omega | assumption))))
            refine sy_back (x + 1) ⟨by omega, by omega⟩ (by omega) ⟨⟨_, rfl, rfl⟩, ⟨_, rfl, rfl⟩, ⟨_, rfl, rfl⟩, ⟨_, rfl, rfl⟩, ⟨_, rfl, rfl⟩, ⟨_, rfl, rfl⟩, trivial⟩ ?_
            rw [show (if modN v.2.2.2.1 < x + 1 then modN v.2.2.2.1 else 0) = (if modN v.2.2.2.1 < x then modN v.2.2.2.1 else 0) by split <;> split <;> omega]
            exact sr
        · have hx4 : x = 4 := by omega
          subst hx4
          rw [show (if modN v.2.2.2.1 < 4 then modN v.2.2.2.1 else 0) = modN v.2.2.2.1 by rw [if_pos (by omega)]]
          repeat (first | refine sy_k rfl rfl ?_ | (refine gO ?_; first | refine sy_ov (ov_p rfl) rfl rfl ?_ | (refine gL ?_; refine sy_ov (ov_ld 3 rfl rfl rfl) rfl rfl ?_)) | (refine sy_cond_f rfl ?_ ?_; focus (first | with_reducible rfl | assumption | omega | (simp <;> first | omega | assumption))))
          refine sy_ov (ov_call rfl (fun w _ => rright36_c (wd, i, modN v.2.2.2.1, ob) false hb (by simp only; omega) w)) rfl rfl ?_
          repeat (first | refine sy_k rfl rfl ?_ | (refine gO ?_; refine sy_ov (ov_p rfl) rfl rfl ?_) | (refine sy_cond_f rfl ?_ ?_; focus (first | with_reducible rfl | assumption | omega | (simp <;> first | omega | assumption))))
          refine sy_drawE _ 5 [(0, false), (1, false), (2, false), (3, false), (4, true)] (by kernel_rfl) rfl (sk (sd (sk (sk sr)))) ?_
          repeat (first | refine dre_rd (fun _ _ => ov_ld 1 rfl rfl rfl) rfl ?_ | refine dre_rd (fun _ _ => ov_ld 2 rfl rfl rfl) rfl ?_ | refine dre_rd (fun _ _ => ov_fieldAddr rfl rfl rfl) rfl ?_ | refine dre_rd (fun _ _ => ov_build rfl rfl rfl) rfl ?_ | (refine dre_ef rfl ?_; refine sy_store 1 rfl rfl rfl rfl rfl rfl rfl rfl ?_; refine dre_ek (by first | exact sr | exact sk sr | (repeat first | exact sr | apply sk | apply sd)) ?_) | refine dre_end ?_)
          repeat (first | refine sy_k rfl rfl ?_ | (refine gO ?_; (refine gS ?_; refine sy_store 0 rfl rfl rfl rfl rfl rfl rfl rfl ?_)) | refine sy_rt ?_)
          exact ret_cc 1 0 rfl rfl rfl rfl rfl rfl rfl rfl rfl rfl
      · have hS : setO 2 (wd, i, m, ob) v = ((wd, i, modN v.2.2.2.1, ob), 0, 0) := by
          unfold setO newO; rw [if_neg (by simp [h1])]; simp [hb]
        rw [hS]
        refine sy_enter rfl rfl ?_
        simp only [initFr]
        repeat (first | refine sy_k rfl rfl ?_ | (refine gO ?_; first | refine sy_ov (ov_p rfl) rfl rfl ?_ | (refine gG ?_; first | (refine sy_guard_yes rfl rfl rfl rfl rfl ?_ ?_; focus (first | with_reducible rfl | assumption | omega | (simp <;> first | omega | assumption))) | (refine sy_guard_no rfl rfl rfl rfl rfl ?_ ?_; focus (first | with_reducible rfl | assumption | omega | (simp <;> first | omega | assumption)))) | (refine gL ?_; refine sy_ov (ov_ld 2 rfl rfl rfl) rfl rfl ?_) | (refine gS ?_; refine sy_store 3 rfl rfl rfl rfl rfl rfl rfl rfl ?_) | (refine sy_ov (ov_pick_t rfl rfl ?_) rfl rfl ?_; focus (with_reducible rfl)) | (refine sy_ov (ov_pick_f rfl rfl ?_) rfl rfl ?_; focus (with_reducible rfl)) | refine sy_ov (ov_pick rfl rfl rfl) rfl rfl ?_ | refine sy_ov (ov_fieldAddr rfl rfl rfl) rfl rfl ?_ | (refine sy_box rfl rfl rfl ?_; intro _) | (refine sy_alloc rfl rfl rfl ?_; intro _)) | (refine sy_cond_t rfl ?_ ?_; focus (first | with_reducible rfl | assumption | omega | (simp <;> first | omega | assumption))) | (refine sy_cond_f rfl ?_ ?_; focus (first | with_reducible rfl | assumption | omega | (simp <;> first | omega | assumption))))
        rename_i b3 b5 b6 b7
        refine sy_loop (α := Int) (fun x => [(3, ptr b3), (5, ptr b5), (6, ptr b6), (7, ptr b7), (8, .bool false), (9, .int .i64 x)]) (fun x => [blk b7 55 [.int .i64 0, .int .i64 0], blk b6 85 (optV zopt), blk b5 64 (tokV v), blk b3 85 (optV (wd, i, (if modN v.2.2.2.1 < x then modN v.2.2.2.1 else 0), ob))]) (fun x => 1 ≤ x ∧ x ≤ 4) (fun x => (4 - x).toNat) 1 ⟨by omega, by omega⟩ ⟨⟨_, rfl, rfl⟩, ⟨_, rfl, rfl⟩, ⟨_, rfl, rfl⟩, ⟨_, rfl, rfl⟩, ⟨_, rfl, rfl⟩, ⟨_, rfl, rfl⟩, trivial⟩ (by rw [show (if modN v.2.2.2.1 < 1 then modN v.2.2.2.1 else 0) = 0 by split <;> omega]; exact sr) ?_
        rintro x ⟨x1, x4⟩
        by_cases hlt : x < 4
        · have hml := modN_mod x v.2.2.2.1 x1 (by omega)
          by_cases he : modL x = v.2.2.2.1
          · have hmx := hml.1 he
            repeat (first | refine sy_k rfl rfl ?_ | (refine gO ?_; refine sy_ov (ov_p rfl) rfl rfl ?_) | (refine sy_cond_t rfl ?_ ?_; focus (first | with_reducible rfl | assumption | omega | (simp <;> first | omega | assumption))))
            refine sy_draw 4 (by kernel_rfl) ?_
            repeat (refine dr_op (ov_p rfl) rfl rfl ?_)
            refine dr_op (ov_call rfl (fun w _ => rname36_c x w)) rfl rfl ?_
            rw [he]
            repeat (first | refine dr_op (ov_ld 2 rfl rfl rfl) rfl rfl ?_ | refine dr_op (ov_fieldAddr rfl rfl rfl) rfl rfl ?_ | refine dr_end ?_)
            repeat (first | refine sy_k rfl rfl ?_ | (refine gO ?_; first | refine sy_ov (ov_p rfl) rfl rfl ?_ | (refine gB ?_; (refine sy_ov (ov_ar rfl rfl rfl ?_ ?_) rfl rfl ?_; omega; omega)) | (refine gS ?_; refine sy_store 3 rfl rfl rfl rfl rfl rfl rfl rfl ?_) | refine sy_ov (ov_fieldAddr rfl rfl rfl) rfl rfl ?_) | (refine sy_cond_t rfl ?_ ?_; focus (first | with_reducible rfl | assumption | omega | (simp <;> first | omega | assumption))))
            refine sy_back (x + 1) ⟨by omega, by omega⟩ (by omega) ⟨⟨_, rfl, rfl⟩, ⟨_, rfl, rfl⟩, ⟨_, rfl, rfl⟩, ⟨_, rfl, rfl⟩, ⟨_, rfl, rfl⟩, ⟨_, rfl, rfl⟩, trivial⟩ ?_
            rw [show (if modN v.2.2.2.1 < x + 1 then modN v.2.2.2.1 else 0) = x by rw [if_pos (by omega)]; exact hmx]
            exact sr
          · have hmx := (not_congr hml).1 he
            repeat (first | refine sy_k rfl rfl ?_ | (refine gO ?_; refine sy_ov (ov_p rfl) rfl rfl ?_) | (refine sy_cond_t rfl ?_ ?_; focus (first | with_reducible rfl | assumption | omega | (simp <;> first | omega | assumption))))
            refine sy_draw 4 (by kernel_rfl) ?_
            repeat (refine dr_op (ov_p rfl) rfl rfl ?_)
            refine dr_op (ov_call rfl (fun w _ => rname36_c x w)) rfl rfl ?_
            repeat (first | refine dr_op (ov_ld 2 rfl rfl rfl) rfl rfl ?_ | refine dr_op (ov_fieldAddr rfl rfl rfl) rfl rfl ?_ | refine dr_end ?_)
            repeat (first | refine sy_k rfl rfl ?_ | (refine gO ?_; first | refine sy_ov (ov_p rfl) rfl rfl ?_ | (refine gB ?_; (refine sy_ov (ov_ar rfl rfl rfl ?_ ?_) rfl rfl ?_; omega; omega))) | (refine sy_cond_f rfl ?_ ?_; focus (first | with_reducible rfl | assumption | omega | (simp <;> first | omega | assumption))))
            refine sy_back (x + 1) ⟨by omega, by omega⟩ (by omega) ⟨⟨_, rfl, rfl⟩, ⟨_, rfl, rfl⟩, ⟨_, rfl, rfl⟩, ⟨_, rfl, rfl⟩, ⟨_, rfl, rfl⟩, ⟨_, rfl, rfl⟩, trivial⟩ ?_
            rw [show (if modN v.2.2.2.1 < x + 1 then modN v.2.2.2.1 else 0) = (if modN v.2.2.2.1 < x then modN v.2.2.2.1 else 0) by split <;> split <;> omega]
            exact sr
        · have hx4 : x = 4 := by omega
          subst hx4
          rw [show (if modN v.2.2.2.1 < 4 then modN v.2.2.2.1 else 0) = modN v.2.2.2.1 by rw [if_pos (by omega)]]
          repeat (first | refine sy_k rfl rfl ?_ | (refine gO ?_; first | refine sy_ov (ov_p rfl) rfl rfl ?_ | (refine gL ?_; refine sy_ov (ov_ld 3 rfl rfl rfl) rfl rfl ?_)) | (refine sy_cond_f rfl ?_ ?_; focus (first | with_reducible rfl | assumption | omega | (simp <;> first | omega | assumption))))
          refine sy_ov (ov_call rfl (fun w _ => rright36_c (wd, i, modN v.2.2.2.1, ob) true hb (by simp only; omega) w)) rfl rfl ?_
          repeat (first | refine sy_k rfl rfl ?_ | (refine gO ?_; first | (refine gL ?_; refine sy_ov (ov_ld 3 rfl rfl rfl) rfl rfl ?_) | (refine gS ?_; first | refine sy_store 0 rfl rfl rfl rfl rfl rfl rfl rfl ?_ | refine sy_store 1 rfl rfl rfl rfl rfl rfl rfl rfl ?_) | refine sy_ov (ov_build rfl rfl rfl) rfl rfl ?_) | (refine sy_cond_t rfl ?_ ?_; focus (first | with_reducible rfl | assumption | omega | (simp <;> first | omega | assumption))) | refine sy_rt ?_)
          exact ret_cc 1 0 rfl rfl rfl rfl rfl rfl rfl rfl rfl rfl
    · have hS : setO 2 (wd, i, m, ob) v = ((wd, i, m, ob), oddE v) := by
        unfold setO; rw [if_pos (by simp [h1])]
      rw [hS]
      refine sy_enter rfl rfl ?_
      simp only [initFr]
      repeat (first | refine sy_k rfl rfl ?_ | (refine gO ?_; first | refine sy_ov (ov_p rfl) rfl rfl ?_ | (refine gG ?_; first | (refine sy_guard_yes rfl rfl rfl rfl rfl ?_ ?_; focus (first | with_reducible rfl | assumption | omega | (simp <;> first | omega | assumption))) | (refine sy_guard_no rfl rfl rfl rfl rfl ?_ ?_; focus (first | with_reducible rfl | assumption | omega | (simp <;> first | omega | assumption)))) | (refine gL ?_; refine sy_ov (ov_ld 2 rfl rfl rfl) rfl rfl ?_) | (refine sy_ov (ov_pick_t rfl rfl ?_) rfl rfl ?_; focus (with_reducible rfl)) | (refine sy_ov (ov_pick_f rfl rfl ?_) rfl rfl ?_; focus (with_reducible rfl)) | refine sy_ov (ov_pick rfl rfl rfl) rfl rfl ?_ | refine sy_ov (ov_fieldAddr rfl rfl rfl) rfl rfl ?_ | (refine sy_box rfl rfl rfl ?_; intro _) | (refine sy_alloc rfl rfl rfl ?_; intro _)) | (refine sy_cond_t rfl ?_ ?_; focus (first | with_reducible rfl | assumption | omega | (simp <;> first | omega | assumption))))
      refine sy_draw 3 (by kernel_rfl) ?_
      repeat (first | refine dr_op (ov_ld 2 rfl rfl rfl) rfl rfl ?_ | refine dr_op (ov_ld 3 rfl rfl rfl) rfl rfl ?_)
      refine dr_op (ov_call rfl (fun w _ => rodd_c v w)) rfl rfl ?_
      repeat (refine dr_end ?_)
      repeat (first | refine sy_k rfl rfl ?_ | (refine gO ?_; (refine gS ?_; first | refine sy_store 0 rfl rfl rfl rfl rfl rfl rfl rfl ?_ | refine sy_store 1 rfl rfl rfl rfl rfl rfl rfl rfl ?_)) | refine sy_rt ?_)
      exact ret_cc 1 0 rfl rfl rfl rfl rfl rfl rfl rfl rfl rfl
  · show Calls Try.prog 112 #[.agg ⟨optV (wd, i, m, ob)⟩, S [111, 98, 115, 101, 114, 118, 101, 114], .agg ⟨tokV v⟩] w _
    by_cases h1 : v.1 = 1
    · obtain ⟨b, hb⟩ : ∃ b, optB (wd, i, m, v.2.2.2.1) = b := ⟨_, rfl⟩
      cases b
      · have hS : setO 3 (wd, i, m, ob) v = ((wd, i, m, v.2.2.2.1), 9, v.2.1) := by
          unfold setO newO; rw [if_neg (by simp [h1])]; simp [hb]
        rw [hS]
        refine sy_enter rfl rfl ?_
        simp only [initFr]
        repeat (first | refine sy_k rfl rfl ?_ | (refine gO ?_; first | refine sy_ov (ov_p rfl) rfl rfl ?_ | (refine gG ?_; first | (refine sy_guard_yes rfl rfl rfl rfl rfl ?_ ?_; focus (first | with_reducible rfl | assumption | omega | (simp <;> first | omega | assumption))) | (refine sy_guard_no rfl rfl rfl rfl rfl ?_ ?_; focus (first | with_reducible rfl | assumption | omega | (simp <;> first | omega | assumption)))) | (refine gL ?_; first | refine sy_ov (ov_ld 2 rfl rfl rfl) rfl rfl ?_ | refine sy_ov (ov_ld 3 rfl rfl rfl) rfl rfl ?_) | (refine gS ?_; refine sy_store 3 rfl rfl rfl rfl rfl rfl rfl rfl ?_) | (refine sy_ov (ov_pick_t rfl rfl ?_) rfl rfl ?_; focus (with_reducible rfl)) | (refine sy_ov (ov_pick_f rfl rfl ?_) rfl rfl ?_; focus (with_reducible rfl)) | refine sy_ov (ov_pick rfl rfl rfl) rfl rfl ?_ | refine sy_ov (ov_fieldAddr rfl rfl rfl) rfl rfl ?_ | (refine sy_box rfl rfl rfl ?_; intro _) | (refine sy_alloc rfl rfl rfl ?_; intro _)) | (refine sy_cond_f rfl ?_ ?_; focus (first | with_reducible rfl | assumption | omega | (simp <;> first | omega | assumption))))
        refine sy_ov (ov_call rfl (fun w _ => rright36_c (wd, i, m, v.2.2.2.1) false hb (by simp only; omega) w)) rfl rfl ?_
        repeat (first | refine sy_k rfl rfl ?_ | (refine gO ?_; refine sy_ov (ov_p rfl) rfl rfl ?_) | (refine sy_cond_f rfl ?_ ?_; focus (first | with_reducible rfl | assumption | omega | (simp <;> first | omega | assumption))))
        refine sy_drawE _ 5 [(0, false), (1, false), (2, false), (3, false), (4, true)] (by kernel_rfl) rfl (sk (sd (sk (sk sr)))) ?_
        repeat (first | refine dre_rd (fun _ _ => ov_ld 1 rfl rfl rfl) rfl ?_ | refine dre_rd (fun _ _ => ov_ld 2 rfl rfl rfl) rfl ?_ | refine dre_rd (fun _ _ => ov_fieldAddr rfl rfl rfl) rfl ?_ | refine dre_rd (fun _ _ => ov_build rfl rfl rfl) rfl ?_ | (refine dre_ef rfl ?_; refine sy_store 1 rfl rfl rfl rfl rfl rfl rfl rfl ?_; refine dre_ek (by first | exact sr | exact sk sr | (repeat first | exact sr | apply sk | apply sd)) ?_) | refine dre_end ?_)
        repeat (first | refine sy_k rfl rfl ?_ | (refine gO ?_; (refine gS ?_; refine sy_store 0 rfl rfl rfl rfl rfl rfl rfl rfl ?_)) | refine sy_rt ?_)
        exact ret_cc 1 0 rfl rfl rfl rfl rfl rfl rfl rfl rfl rfl
      · have hS : setO 3 (wd, i, m, ob) v = ((wd, i, m, v.2.2.2.1), 0, 0) := by
          unfold setO newO; rw [if_neg (by simp [h1])]; simp [hb]
        rw [hS]
        refine sy_enter rfl rfl ?_
        simp only [initFr]
        repeat (first | refine sy_k rfl rfl ?_ | (refine gO ?_; first | refine sy_ov (ov_p rfl) rfl rfl ?_ | (refine gG ?_; first | (refine sy_guard_yes rfl rfl rfl rfl rfl ?_ ?_; focus (first | with_reducible rfl | assumption | omega | (simp <;> first | omega | assumption))) | (refine sy_guard_no rfl rfl rfl rfl rfl ?_ ?_; focus (first | with_reducible rfl | assumption | omega | (simp <;> first | omega | assumption)))) | (refine gL ?_; first | refine sy_ov (ov_ld 2 rfl rfl rfl) rfl rfl ?_ | refine sy_ov (ov_ld 3 rfl rfl rfl) rfl rfl ?_) | (refine gS ?_; refine sy_store 3 rfl rfl rfl rfl rfl rfl rfl rfl ?_) | (refine sy_ov (ov_pick_t rfl rfl ?_) rfl rfl ?_; focus (with_reducible rfl)) | (refine sy_ov (ov_pick_f rfl rfl ?_) rfl rfl ?_; focus (with_reducible rfl)) | refine sy_ov (ov_pick rfl rfl rfl) rfl rfl ?_ | refine sy_ov (ov_fieldAddr rfl rfl rfl) rfl rfl ?_ | (refine sy_box rfl rfl rfl ?_; intro _) | (refine sy_alloc rfl rfl rfl ?_; intro _)) | (refine sy_cond_f rfl ?_ ?_; focus (first | with_reducible rfl | assumption | omega | (simp <;> first | omega | assumption))))
        refine sy_ov (ov_call rfl (fun w _ => rright36_c (wd, i, m, v.2.2.2.1) true hb (by simp only; omega) w)) rfl rfl ?_
        repeat (first | refine sy_k rfl rfl ?_ | (refine gO ?_; first | (refine gL ?_; refine sy_ov (ov_ld 3 rfl rfl rfl) rfl rfl ?_) | (refine gS ?_; first | refine sy_store 0 rfl rfl rfl rfl rfl rfl rfl rfl ?_ | refine sy_store 1 rfl rfl rfl rfl rfl rfl rfl rfl ?_) | refine sy_ov (ov_build rfl rfl rfl) rfl rfl ?_) | (refine sy_cond_t rfl ?_ ?_; focus (first | with_reducible rfl | assumption | omega | (simp <;> first | omega | assumption))) | refine sy_rt ?_)
        exact ret_cc 1 0 rfl rfl rfl rfl rfl rfl rfl rfl rfl rfl
    · have hS : setO 3 (wd, i, m, ob) v = ((wd, i, m, ob), oddE v) := by
        unfold setO; rw [if_pos (by simp [h1])]
      rw [hS]
      refine sy_enter rfl rfl ?_
      simp only [initFr]
      repeat (first | refine sy_k rfl rfl ?_ | (refine gO ?_; first | refine sy_ov (ov_p rfl) rfl rfl ?_ | (refine gG ?_; first | (refine sy_guard_yes rfl rfl rfl rfl rfl ?_ ?_; focus (first | with_reducible rfl | assumption | omega | (simp <;> first | omega | assumption))) | (refine sy_guard_no rfl rfl rfl rfl rfl ?_ ?_; focus (first | with_reducible rfl | assumption | omega | (simp <;> first | omega | assumption)))) | (refine gL ?_; refine sy_ov (ov_ld 2 rfl rfl rfl) rfl rfl ?_) | (refine sy_ov (ov_pick_t rfl rfl ?_) rfl rfl ?_; focus (with_reducible rfl)) | (refine sy_ov (ov_pick_f rfl rfl ?_) rfl rfl ?_; focus (with_reducible rfl)) | refine sy_ov (ov_pick rfl rfl rfl) rfl rfl ?_ | refine sy_ov (ov_fieldAddr rfl rfl rfl) rfl rfl ?_ | (refine sy_box rfl rfl rfl ?_; intro _) | (refine sy_alloc rfl rfl rfl ?_; intro _)) | (refine sy_cond_t rfl ?_ ?_; focus (first | with_reducible rfl | assumption | omega | (simp <;> first | omega | assumption))))
      refine sy_draw 3 (by kernel_rfl) ?_
      repeat (first | refine dr_op (ov_ld 2 rfl rfl rfl) rfl rfl ?_ | refine dr_op (ov_ld 3 rfl rfl rfl) rfl rfl ?_)
      refine dr_op (ov_call rfl (fun w _ => rodd_c v w)) rfl rfl ?_
      repeat (refine dr_end ?_)
      repeat (first | refine sy_k rfl rfl ?_ | (refine gO ?_; (refine gS ?_; first | refine sy_store 0 rfl rfl rfl rfl rfl rfl rfl rfl ?_ | refine sy_store 1 rfl rfl rfl rfl rfl rfl rfl rfl ?_)) | refine sy_rt ?_)
      exact ret_cc 1 0 rfl rfl rfl rfl rfl rfl rfl rfl rfl rfl
end Go.Proofs.Yteiejcililponaa
/- Contract: options, as the document reads them. -/
set_option linter.unusedVariables false
set_option linter.unusedSimpArgs false
namespace Go.Proofs.Yteiejcililponaa
open Go.RowKit Bf
/-- The m-th token from a place on, cell by cell. -/
theorem tok_get {L : List TokT} {i m : Nat} {t : TokT} (ht : L[i + m]? = some t) {j : Nat} {u : Value} (hj : (tokV t)[j]? = some u) : (L.flatMap tokV)[i * 5 + m * 5 + j]? = some u := by
  have := flat_get tokV 5 (fun _ => rfl) L (i + m) t ht j u hj
  rw [Nat.add_mul] at this; exact this
abbrev tslV (g q i n : Nat) : Value := .slice (some ⟨g, i * 5, none⟩) (n - i) (q - i)
theorem tsl_step (g q i n : Nat) : Value.slice (some ⟨g, i * 5 + (3 : Int).toNat * 5, none⟩) (n - i - (3 : Int).toNat) (q - i - (3 : Int).toNat) = tslV g q (i + 3) n := by
  show Value.slice (some ⟨g, i * 5 + 3 * 5, none⟩) (n - i - 3) (q - i - 3) = .slice (some ⟨g, (i + 3) * 5, none⟩) (n - (i + 3)) (q - (i + 3))
  rw [Nat.add_mul, Nat.sub_sub, Nat.sub_sub]
structure RoSt where
  i : Nat
  o : OptT
  H : List (List UInt8)
  p : Option Addr
  q : Nat
def RoInv (L : List TokT) (R : OptT × Int × Int) (x : RoSt) : Prop := x.i < L.length ∧ optL (L.drop x.i) x.o (hadL x.H) = R ∧ optB x.o = true ∧ x.H.length ≤ x.i
theorem optB_len {o : OptT} (h : optB o = true) : o.2.2.2.length ≤ 32 := by
  unfold optB at h
  simp only [Bool.and_eq_true, Bool.or_eq_true, decide_eq_true_eq] at h
  rcases h.2 with h | h
  · rw [h]; decide
  · unfold namB at h; simp only [Bool.and_eq_true, decide_eq_true_eq] at h; exact h.2
theorem nm_of {s : List UInt8} {k : Int} (hk : whN s = k) (k4 : k ≠ 4) : s = nmL k ∧ 0 ≤ k ∧ k ≤ 3 := by
  rcases whN_ways s with ⟨h, rfl⟩ | ⟨h, rfl⟩ | ⟨h, rfl⟩ | ⟨h, rfl⟩ | ⟨h, _⟩
  · rw [h] at hk; subst hk; exact ⟨rfl, by decide, by decide⟩
  · rw [h] at hk; subst hk; exact ⟨rfl, by decide, by decide⟩
  · rw [h] at hk; subst hk; exact ⟨rfl, by decide, by decide⟩
  · rw [h] at hk; subst hk; exact ⟨rfl, by decide, by decide⟩
  · rw [h] at hk; exact absurd hk.symm k4
theorem putO_kind {k : Int} {o : OptT} {v : TokT} (h : (putO k o v).2.1 = 0) : v.1 ≠ 0 := by
  intro h0
  have h1 : v.1 ≠ 1 := by omega
  have h2 : v.1 ≠ 2 := by omega
  unfold putO at h
  simp only [if_pos h1, if_pos h2] at h
  have := oddE_ne v
  split at h
  · exact this h
  · split at h
    · exact this h
    · split at h
      · exact this h
      · exact this h
set_option maxRecDepth 20000 in
set_option maxHeartbeats 8000000 in
theorem ropt_c (s : List UInt8) (hs : s.length ≤ 100000000) (w : World) : Calls Try.prog 64 #[S s] w fun e w' => e = .returned (.tuple #[.agg ⟨optV (optP s).1⟩, faultV (optP s).2.1 (optP s).2.2]) ∧ Below w.heap.size w w' := by
  obtain ⟨L, e, a, hL⟩ : ∃ L e a, scanR s = (L, e, a) := ⟨_, _, _, rfl⟩
  by_cases he : e = 0
  · subst he
    have ha := scanR_a0 hL
    subst ha
    have hT := (scanR_toks hL (scanR_cnt hL)).1
    have hN : NamOk L := by have := scanR_nam s; rw [hL] at this; exact this
    have hbig := hT.big
    obtain ⟨R, hR⟩ : ∃ R, optP s = R := ⟨_, rfl⟩
    have hR2 : optL L dopt (hadL []) = R := by rw [← hR]; unfold optP; rw [hL]; simp [hadL]
    rw [hR]
    refine sy_enter rfl rfl ?_
    simp only [initFr]
    repeat (first | refine sy_k rfl rfl ?_ | (refine gO ?_; first | refine sy_ov (ov_p rfl) rfl rfl ?_ | (refine sy_alloc rfl rfl rfl ?_; intro _)))
    refine sy_calln rfl rfl (fun w _ => rscan_c s (by omega) w) ?_
    rintro _ _ ⟨p, q, rfl, rfl⟩
    rw [hL]
    dsimp only
    refine sy_vecAddr 0 rfl hT.n ?_
    rintro g rfl
    refine sy_vecCap 0 rfl fun hq => ?_
    repeat (first | refine sy_k rfl rfl ?_ | (refine gO ?_; first | refine sy_ov (ov_p rfl) rfl rfl ?_ | (refine gL ?_; refine sy_ov (ov_ld 0 rfl rfl rfl) rfl rfl ?_) | (refine gS ?_; refine sy_store 0 rfl rfl rfl rfl rfl rfl rfl rfl ?_) | refine sy_ov (ov_fieldAddr rfl rfl rfl) rfl rfl ?_ | refine sy_ov (ov_build rfl rfl rfl) rfl rfl ?_ | (refine sy_alloc rfl rfl rfl ?_; intro _)) | (refine sy_cond_f rfl ?_ ?_; focus (first | with_reducible rfl | assumption | omega | (simp <;> first | omega | assumption))))
    rename_i b2 b3 b5 b6
    refine sy_grow 9 1 ?_
    refine sy_order [1, 2, 4, 5, 0, 3] rfl rfl ?_
    simp only [List.set_cons_zero, List.set_cons_succ, List.filterMap_cons, List.filterMap_nil, List.getElem?_cons_zero, List.getElem?_cons_succ]
    refine sy_loop (α := RoSt) (fun x => [(2, ptr b2), (3, ptr b3), (4, tslV g q x.i L.length), (5, ptr b5), (6, ptr b6), (7, .slice x.p x.H.length x.q)]) (fun x => [blk b6 85 (optV x.o), blk b5 55 [.int .i64 0, .int .i64 0], blk b3 55 [.int .i64 0, .int .i64 0], blk b2 85 (optV zopt), vec 9 1 (.slice x.p x.H.length x.q) x.H.length (x.H.flatMap strV), vec 64 5 (.slice (some ⟨g, 0, none⟩) L.length q) L.length (L.flatMap tokV)]) (RoInv L R) (fun x => L.length - x.i) ⟨0, dopt, [], none, 0⟩ ⟨hT.n, hR2, by decide, by decide⟩ ⟨⟨_, rfl, rfl⟩, ⟨_, rfl, rfl⟩, ⟨_, rfl, by simp⟩, ⟨_, rfl, rfl⟩, ⟨_, rfl, rfl⟩, ⟨_, rfl, rfl⟩, trivial⟩ sr ?_
    rintro ⟨i, o, H, p, q2⟩ ⟨hi, hopt, ho, hH⟩
    dsimp only at hi hopt ho hH ⊢
    obtain ⟨t, ht⟩ : ∃ t, L[i]? = some t := ⟨_, List.getElem?_eq_getElem hi⟩
    have hol := optB_len ho
    have htl : t.2.2.2.1.length ≤ 1000000000 := (hT.bd t (List.mem_of_getElem? ht)).2
    by_cases t0 : t.1 = 0
    · have hRR := opt_fin hopt ht t0
      rw [hRR]
      repeat (first | refine sy_k rfl rfl ?_ | (refine gO ?_; first | refine sy_ov (ov_p rfl) rfl rfl ?_ | refine sy_ov (ov_fieldAddr rfl rfl rfl) rfl rfl ?_ | (refine sy_ov (ov_indexAddr rfl rfl ?_ ?_) rfl rfl ?_; omega; omega)))
      refine sy_ov (ov_loadv 5 (v := .int .i64 t.1) rfl rfl rfl (tok_get (m := 0) ht rfl)) rfl rfl ?_
      repeat (first | refine sy_k rfl rfl ?_ | (refine gO ?_; first | refine sy_ov (ov_p rfl) rfl rfl ?_ | (refine gL ?_; refine sy_ov (ov_ld 0 rfl rfl rfl) rfl rfl ?_) | (refine gS ?_; first | refine sy_store 2 rfl rfl rfl rfl rfl rfl rfl rfl ?_ | refine sy_store 3 rfl rfl rfl rfl rfl rfl rfl rfl ?_) | refine sy_ov (ov_build rfl rfl rfl) rfl rfl ?_) | (refine sy_cond_f rfl ?_ ?_; focus (first | with_reducible rfl | assumption | omega | (simp <;> first | omega | assumption))) | refine sy_rt ?_)
      exact ret_cc 3 2 rfl rfl rfl rfl rfl rfl rfl rfl rfl rfl
    · obtain ⟨u, hu⟩ := nextTok hT ht t0
      by_cases t1 : t.1 = 1
      · obtain ⟨k, hk⟩ : ∃ k, whN t.2.2.2.1 = k := ⟨_, rfl⟩
        by_cases k4 : k = 4
        · subst k4
          have hRR := opt_name hT hopt ht t1 hk
          rw [hRR]
          rcases whN_ways t.2.2.2.1 with ⟨h, _⟩ | ⟨h, _⟩ | ⟨h, _⟩ | ⟨h, _⟩ | ⟨_, n1, n2, n3, n4⟩
          focus (rw [h] at hk; cases hk)
          focus (rw [h] at hk; cases hk)
          focus (rw [h] at hk; cases hk)
          focus (rw [h] at hk; cases hk)
          unfold widthL' at n1
          unfold indentL at n2
          unfold modeL at n3
          unfold obsL at n4
          repeat (first | refine sy_k rfl rfl ?_ | (refine gO ?_; first | refine sy_ov (ov_p rfl) rfl rfl ?_ | refine sy_ov (ov_fieldAddr rfl rfl rfl) rfl rfl ?_ | (refine sy_ov (ov_indexAddr rfl rfl ?_ ?_) rfl rfl ?_; omega; omega)))
          refine sy_ov (ov_loadv 5 (v := .int .i64 t.1) rfl rfl rfl (tok_get (m := 0) ht rfl)) rfl rfl ?_
          repeat (first | refine sy_k rfl rfl ?_ | (refine gO ?_; first | refine sy_ov (ov_p rfl) rfl rfl ?_ | (refine sy_ov (ov_indexAddr rfl rfl ?_ ?_) rfl rfl ?_; omega; omega)) | (refine sy_cond_t rfl ?_ ?_; focus (first | with_reducible rfl | assumption | omega | (simp <;> first | omega | assumption))))
          refine sy_ov (ov_loadva 5 rfl rfl rfl rfl (fun j u hj => tok_get (m := 0) ht hj)) rfl rfl ?_
          repeat (first | refine sy_k rfl rfl ?_ | (refine gO ?_; first | refine sy_ov (ov_p rfl) rfl rfl ?_ | (refine gG ?_; (refine sy_guard_yes rfl rfl rfl rfl rfl ?_ ?_; focus (first | with_reducible rfl | assumption | omega | (simp <;> first | omega | assumption)))) | (refine gL ?_; refine sy_ov (ov_ld 0 rfl rfl rfl) rfl rfl ?_) | (refine gS ?_; refine sy_store 0 rfl rfl rfl rfl rfl rfl rfl rfl ?_) | (refine sy_ov (ov_pick_t rfl rfl ?_) rfl rfl ?_; focus (with_reducible rfl)) | refine sy_ov (ov_fieldAddr rfl rfl rfl) rfl rfl ?_ | (refine sy_alloc rfl rfl rfl ?_; intro _)) | (refine sy_cond_t rfl ?_ ?_; focus (first | with_reducible rfl | assumption | omega | (simp <;> first | omega | assumption))) | (refine sy_cond_f rfl ?_ ?_; focus (first | with_reducible rfl | assumption | omega | (simp <;> first | omega | assumption))))
          refine sy_drawE _ 5 [(0, false), (1, false), (2, false), (3, false), (4, true)] (by kernel_rfl) rfl (sk (sk (sk (sk (sd sr))))) ?_
          repeat (first | refine dre_rd (fun _ _ => ov_ld 0 rfl rfl rfl) rfl ?_ | refine dre_rd (fun _ _ => ov_fieldAddr rfl rfl rfl) rfl ?_ | refine dre_rd (fun _ _ => ov_build rfl rfl rfl) rfl ?_ | (refine dre_ef rfl ?_; refine sy_store 4 rfl rfl rfl rfl rfl rfl rfl rfl ?_; refine dre_ek (by first | exact sr | exact sk sr | (repeat first | exact sr | apply sk | apply sd)) ?_) | refine dre_end ?_)
          repeat (first | refine sy_k rfl rfl ?_ | (refine gO ?_; (refine gS ?_; refine sy_store 3 rfl rfl rfl rfl rfl rfl rfl rfl ?_)) | refine sy_rt ?_)
          exact ret_cc 4 3 rfl rfl rfl rfl rfl rfl rfl rfl rfl rfl
        · obtain ⟨hnm, k0, k3⟩ := nm_of hk k4
          have hfm := fndL_mem H t.2.2.2.1
          have hgt := had_get (s := t.2.2.2.1) (H := H) (by omega)
          have hst := had_set (s := t.2.2.2.1) (H := H) (by omega)
          by_cases hm : t.2.2.2.1 ∈ H
          · have hge := hfm.2 hm
            have hRR := opt_twice hT hopt ht t1 (by omega) (by rw [hgt]; simpa using hm)
            rw [hRR]
            have hk' : k = 0 ∨ k = 1 ∨ k = 2 ∨ k = 3 := by omega
            clear hR hR2
            rcases hk' with rfl | rfl | rfl | rfl
            · obtain ⟨tk, ta, te, tx, tn⟩ := t
              have hnm : tx = [119, 105, 100, 116, 104] := hnm
              subst hnm
              dsimp only at hge t0 t1 hk htl
              repeat (first | refine sy_k rfl rfl ?_ | (refine gO ?_; first | refine sy_ov (ov_p rfl) rfl rfl ?_ | refine sy_ov (ov_fieldAddr rfl rfl rfl) rfl rfl ?_ | (refine sy_ov (ov_indexAddr rfl rfl ?_ ?_) rfl rfl ?_; omega; omega)))
              refine sy_ov (ov_loadv 5 (v := .int .i64 tk) rfl rfl rfl (tok_get (m := 0) ht rfl)) rfl rfl ?_
              repeat (first | refine sy_k rfl rfl ?_ | (refine gO ?_; first | refine sy_ov (ov_p rfl) rfl rfl ?_ | (refine sy_ov (ov_indexAddr rfl rfl ?_ ?_) rfl rfl ?_; omega; omega)) | (refine sy_cond_t rfl ?_ ?_; focus (first | with_reducible rfl | assumption | omega | (simp <;> first | omega | assumption))))
              refine sy_ov (ov_loadva 5 rfl rfl rfl rfl (fun j u hj => tok_get (m := 0) ht hj)) rfl rfl ?_
              repeat (first | refine sy_k rfl rfl ?_ | (refine gO ?_; first | refine sy_ov (ov_p rfl) rfl rfl ?_ | (refine gG ?_; (refine sy_guard_no rfl rfl rfl rfl rfl ?_ ?_; focus (first | with_reducible rfl | assumption | omega | (simp <;> first | omega | assumption)))) | (refine gL ?_; refine sy_ov (ov_ld 0 rfl rfl rfl) rfl rfl ?_) | (refine gS ?_; refine sy_store 0 rfl rfl rfl rfl rfl rfl rfl rfl ?_) | refine sy_ov (ov_pick rfl rfl rfl) rfl rfl ?_ | refine sy_ov (ov_fieldAddr rfl rfl rfl) rfl rfl ?_ | (refine sy_alloc rfl rfl rfl ?_; intro _)) | (refine sy_cond_f rfl ?_ ?_; focus (first | with_reducible rfl | assumption | omega | (simp <;> first | omega | assumption))))
              refine sy_ov (ov_call rfl (fun w hw => rfind_c w _ _ _ H [119, 105, 100, 116, 104] rfl (by omega) (vec_isSl hw (i := 5) rfl))) rfl rfl ?_
              repeat (first | refine sy_k rfl rfl ?_ | (refine gO ?_; refine sy_ov (ov_p rfl) rfl rfl ?_) | (refine sy_cond_t rfl ?_ ?_; focus (first | with_reducible rfl | assumption | omega | (simp <;> first | omega | assumption))))
              refine sy_drawE _ 5 [(0, false), (1, false), (2, false), (3, false), (4, true)] (by kernel_rfl) rfl (sk (sk (sk (sk (sd sr))))) ?_
              repeat (first | refine dre_rd (fun _ _ => ov_ld 0 rfl rfl rfl) rfl ?_ | refine dre_rd (fun _ _ => ov_fieldAddr rfl rfl rfl) rfl ?_ | refine dre_rd (fun _ _ => ov_build rfl rfl rfl) rfl ?_ | (refine dre_ef rfl ?_; refine sy_store 4 rfl rfl rfl rfl rfl rfl rfl rfl ?_; refine dre_ek (by first | exact sr | exact sk sr | (repeat first | exact sr | apply sk | apply sd)) ?_) | refine dre_end ?_)
              repeat (first | refine sy_k rfl rfl ?_ | (refine gO ?_; (refine gS ?_; refine sy_store 3 rfl rfl rfl rfl rfl rfl rfl rfl ?_)) | refine sy_rt ?_)
              exact ret_cc 4 3 rfl rfl rfl rfl rfl rfl rfl rfl rfl rfl
            · obtain ⟨tk, ta, te, tx, tn⟩ := t
              have hnm : tx = [105, 110, 100, 101, 110, 116] := hnm
              subst hnm
              dsimp only at hge t0 t1 hk htl
              repeat (first | refine sy_k rfl rfl ?_ | (refine gO ?_; first | refine sy_ov (ov_p rfl) rfl rfl ?_ | refine sy_ov (ov_fieldAddr rfl rfl rfl) rfl rfl ?_ | (refine sy_ov (ov_indexAddr rfl rfl ?_ ?_) rfl rfl ?_; omega; omega)))
              refine sy_ov (ov_loadv 5 (v := .int .i64 tk) rfl rfl rfl (tok_get (m := 0) ht rfl)) rfl rfl ?_
              repeat (first | refine sy_k rfl rfl ?_ | (refine gO ?_; first | refine sy_ov (ov_p rfl) rfl rfl ?_ | (refine sy_ov (ov_indexAddr rfl rfl ?_ ?_) rfl rfl ?_; omega; omega)) | (refine sy_cond_t rfl ?_ ?_; focus (first | with_reducible rfl | assumption | omega | (simp <;> first | omega | assumption))))
              refine sy_ov (ov_loadva 5 rfl rfl rfl rfl (fun j u hj => tok_get (m := 0) ht hj)) rfl rfl ?_
              repeat (first | refine sy_k rfl rfl ?_ | (refine gO ?_; first | refine sy_ov (ov_p rfl) rfl rfl ?_ | (refine gG ?_; first | (refine sy_guard_yes rfl rfl rfl rfl rfl ?_ ?_; focus (first | with_reducible rfl | assumption | omega | (simp <;> first | omega | assumption))) | (refine sy_guard_no rfl rfl rfl rfl rfl ?_ ?_; focus (first | with_reducible rfl | assumption | omega | (simp <;> first | omega | assumption)))) | (refine gL ?_; refine sy_ov (ov_ld 0 rfl rfl rfl) rfl rfl ?_) | (refine gS ?_; refine sy_store 0 rfl rfl rfl rfl rfl rfl rfl rfl ?_) | (refine sy_ov (ov_pick_t rfl rfl ?_) rfl rfl ?_; focus (with_reducible rfl)) | refine sy_ov (ov_pick rfl rfl rfl) rfl rfl ?_ | refine sy_ov (ov_fieldAddr rfl rfl rfl) rfl rfl ?_ | (refine sy_alloc rfl rfl rfl ?_; intro _)) | (refine sy_cond_f rfl ?_ ?_; focus (first | with_reducible rfl | assumption | omega | (simp <;> first | omega | assumption))))
              refine sy_ov (ov_call rfl (fun w hw => rfind_c w _ _ _ H [105, 110, 100, 101, 110, 116] rfl (by omega) (vec_isSl hw (i := 5) rfl))) rfl rfl ?_
              repeat (first | refine sy_k rfl rfl ?_ | (refine gO ?_; refine sy_ov (ov_p rfl) rfl rfl ?_) | (refine sy_cond_t rfl ?_ ?_; focus (first | with_reducible rfl | assumption | omega | (simp <;> first | omega | assumption))))
              refine sy_drawE _ 5 [(0, false), (1, false), (2, false), (3, false), (4, true)] (by kernel_rfl) rfl (sk (sk (sk (sk (sd sr))))) ?_
              repeat (first | refine dre_rd (fun _ _ => ov_ld 0 rfl rfl rfl) rfl ?_ | refine dre_rd (fun _ _ => ov_fieldAddr rfl rfl rfl) rfl ?_ | refine dre_rd (fun _ _ => ov_build rfl rfl rfl) rfl ?_ | (refine dre_ef rfl ?_; refine sy_store 4 rfl rfl rfl rfl rfl rfl rfl rfl ?_; refine dre_ek (by first | exact sr | exact sk sr | (repeat first | exact sr | apply sk | apply sd)) ?_) | refine dre_end ?_)
              repeat (first | refine sy_k rfl rfl ?_ | (refine gO ?_; (refine gS ?_; refine sy_store 3 rfl rfl rfl rfl rfl rfl rfl rfl ?_)) | refine sy_rt ?_)
              exact ret_cc 4 3 rfl rfl rfl rfl rfl rfl rfl rfl rfl rfl
            · obtain ⟨tk, ta, te, tx, tn⟩ := t
              have hnm : tx = [109, 111, 100, 101] := hnm
              subst hnm
              dsimp only at hge t0 t1 hk htl
              repeat (first | refine sy_k rfl rfl ?_ | (refine gO ?_; first | refine sy_ov (ov_p rfl) rfl rfl ?_ | refine sy_ov (ov_fieldAddr rfl rfl rfl) rfl rfl ?_ | (refine sy_ov (ov_indexAddr rfl rfl ?_ ?_) rfl rfl ?_; omega; omega)))
              refine sy_ov (ov_loadv 5 (v := .int .i64 tk) rfl rfl rfl (tok_get (m := 0) ht rfl)) rfl rfl ?_
              repeat (first | refine sy_k rfl rfl ?_ | (refine gO ?_; first | refine sy_ov (ov_p rfl) rfl rfl ?_ | (refine sy_ov (ov_indexAddr rfl rfl ?_ ?_) rfl rfl ?_; omega; omega)) | (refine sy_cond_t rfl ?_ ?_; focus (first | with_reducible rfl | assumption | omega | (simp <;> first | omega | assumption))))
              refine sy_ov (ov_loadva 5 rfl rfl rfl rfl (fun j u hj => tok_get (m := 0) ht hj)) rfl rfl ?_
              repeat (first | refine sy_k rfl rfl ?_ | (refine gO ?_; first | refine sy_ov (ov_p rfl) rfl rfl ?_ | (refine gG ?_; first | (refine sy_guard_yes rfl rfl rfl rfl rfl ?_ ?_; focus (first | with_reducible rfl | assumption | omega | (simp <;> first | omega | assumption))) | (refine sy_guard_no rfl rfl rfl rfl rfl ?_ ?_; focus (first | with_reducible rfl | assumption | omega | (simp <;> first | omega | assumption)))) | (refine gL ?_; refine sy_ov (ov_ld 0 rfl rfl rfl) rfl rfl ?_) | (refine gS ?_; refine sy_store 0 rfl rfl rfl rfl rfl rfl rfl rfl ?_) | (refine sy_ov (ov_pick_t rfl rfl ?_) rfl rfl ?_; focus (with_reducible rfl)) | refine sy_ov (ov_pick rfl rfl rfl) rfl rfl ?_ | refine sy_ov (ov_fieldAddr rfl rfl rfl) rfl rfl ?_ | (refine sy_alloc rfl rfl rfl ?_; intro _)) | (refine sy_cond_f rfl ?_ ?_; focus (first | with_reducible rfl | assumption | omega | (simp <;> first | omega | assumption))))
              refine sy_ov (ov_call rfl (fun w hw => rfind_c w _ _ _ H [109, 111, 100, 101] rfl (by omega) (vec_isSl hw (i := 5) rfl))) rfl rfl ?_
              repeat (first | refine sy_k rfl rfl ?_ | (refine gO ?_; refine sy_ov (ov_p rfl) rfl rfl ?_) | (refine sy_cond_t rfl ?_ ?_; focus (first | with_reducible rfl | assumption | omega | (simp <;> first | omega | assumption))))
              refine sy_drawE _ 5 [(0, false), (1, false), (2, false), (3, false), (4, true)] (by kernel_rfl) rfl (sk (sk (sk (sk (sd sr))))) ?_
              repeat (first | refine dre_rd (fun _ _ => ov_ld 0 rfl rfl rfl) rfl ?_ | refine dre_rd (fun _ _ => ov_fieldAddr rfl rfl rfl) rfl ?_ | refine dre_rd (fun _ _ => ov_build rfl rfl rfl) rfl ?_ | (refine dre_ef rfl ?_; refine sy_store 4 rfl rfl rfl rfl rfl rfl rfl rfl ?_; refine dre_ek (by first | exact sr | exact sk sr | (repeat first | exact sr | apply sk | apply sd)) ?_) | refine dre_end ?_)
              repeat (first | refine sy_k rfl rfl ?_ | (refine gO ?_; (refine gS ?_; refine sy_store 3 rfl rfl rfl rfl rfl rfl rfl rfl ?_)) | refine sy_rt ?_)
              exact ret_cc 4 3 rfl rfl rfl rfl rfl rfl rfl rfl rfl rfl
            · obtain ⟨tk, ta, te, tx, tn⟩ := t
              have hnm : tx = [111, 98, 115, 101, 114, 118, 101, 114] := hnm
              subst hnm
              dsimp only at hge t0 t1 hk htl
              repeat (first | refine sy_k rfl rfl ?_ | (refine gO ?_; first | refine sy_ov (ov_p rfl) rfl rfl ?_ | refine sy_ov (ov_fieldAddr rfl rfl rfl) rfl rfl ?_ | (refine sy_ov (ov_indexAddr rfl rfl ?_ ?_) rfl rfl ?_; omega; omega)))
              refine sy_ov (ov_loadv 5 (v := .int .i64 tk) rfl rfl rfl (tok_get (m := 0) ht rfl)) rfl rfl ?_
              repeat (first | refine sy_k rfl rfl ?_ | (refine gO ?_; first | refine sy_ov (ov_p rfl) rfl rfl ?_ | (refine sy_ov (ov_indexAddr rfl rfl ?_ ?_) rfl rfl ?_; omega; omega)) | (refine sy_cond_t rfl ?_ ?_; focus (first | with_reducible rfl | assumption | omega | (simp <;> first | omega | assumption))))
              refine sy_ov (ov_loadva 5 rfl rfl rfl rfl (fun j u hj => tok_get (m := 0) ht hj)) rfl rfl ?_
              repeat (first | refine sy_k rfl rfl ?_ | (refine gO ?_; first | refine sy_ov (ov_p rfl) rfl rfl ?_ | (refine gG ?_; (refine sy_guard_yes rfl rfl rfl rfl rfl ?_ ?_; focus (first | with_reducible rfl | assumption | omega | (simp <;> first | omega | assumption)))) | (refine gL ?_; refine sy_ov (ov_ld 0 rfl rfl rfl) rfl rfl ?_) | (refine gS ?_; refine sy_store 0 rfl rfl rfl rfl rfl rfl rfl rfl ?_) | (refine sy_ov (ov_pick_t rfl rfl ?_) rfl rfl ?_; focus (with_reducible rfl)) | refine sy_ov (ov_fieldAddr rfl rfl rfl) rfl rfl ?_ | (refine sy_alloc rfl rfl rfl ?_; intro _)) | (refine sy_cond_f rfl ?_ ?_; focus (first | with_reducible rfl | assumption | omega | (simp <;> first | omega | assumption))))
              refine sy_ov (ov_call rfl (fun w hw => rfind_c w _ _ _ H [111, 98, 115, 101, 114, 118, 101, 114] rfl (by omega) (vec_isSl hw (i := 5) rfl))) rfl rfl ?_
              repeat (first | refine sy_k rfl rfl ?_ | (refine gO ?_; refine sy_ov (ov_p rfl) rfl rfl ?_) | (refine sy_cond_t rfl ?_ ?_; focus (first | with_reducible rfl | assumption | omega | (simp <;> first | omega | assumption))))
              refine sy_drawE _ 5 [(0, false), (1, false), (2, false), (3, false), (4, true)] (by kernel_rfl) rfl (sk (sk (sk (sk (sd sr))))) ?_
              repeat (first | refine dre_rd (fun _ _ => ov_ld 0 rfl rfl rfl) rfl ?_ | refine dre_rd (fun _ _ => ov_fieldAddr rfl rfl rfl) rfl ?_ | refine dre_rd (fun _ _ => ov_build rfl rfl rfl) rfl ?_ | (refine dre_ef rfl ?_; refine sy_store 4 rfl rfl rfl rfl rfl rfl rfl rfl ?_; refine dre_ek (by first | exact sr | exact sk sr | (repeat first | exact sr | apply sk | apply sd)) ?_) | refine dre_end ?_)
              repeat (first | refine sy_k rfl rfl ?_ | (refine gO ?_; (refine gS ?_; refine sy_store 3 rfl rfl rfl rfl rfl rfl rfl rfl ?_)) | refine sy_rt ?_)
              exact ret_cc 4 3 rfl rfl rfl rfl rfl rfl rfl rfl rfl rfl
          · have hge := (not_congr hfm).2 hm
            have hh : (hadL H).getD (whN t.2.2.2.1).toNat false = false := by rw [hgt]; simpa using hm
            have hk' : k = 0 ∨ k = 1 ∨ k = 2 ∨ k = 3 := by omega
            rcases hk' with rfl | rfl | rfl | rfl
            · obtain ⟨tk, ta, te, tx, tn⟩ := t
              have hnm : tx = [119, 105, 100, 116, 104] := hnm
              subst hnm
              dsimp only at hge t0 t1 hk htl
              have hi1 := (List.getElem?_eq_some_iff.1 hu).1
              by_cases u1 : u.1 = 4
              · by_cases u2 : u.2.2.2.1 = [61]
                · obtain ⟨v, hv⟩ := nextTok hT hu (by omega)
                  have hi2 := (List.getElem?_eq_some_iff.1 hv).1
                  have hvn : v.1 = 1 → namB v.2.2.2.1 = true := hN v (List.mem_of_getElem? hv)
                  have hvl : v.2.2.2.1.length ≤ 1000000000 := (hT.bd v (List.mem_of_getElem? hv)).2
                  obtain ⟨hs2, hs1⟩ := setO_putO 0 ho hvn
                  have hrs : ∀ w, Calls Try.prog 112 #[.agg ⟨optV o⟩, S [119, 105, 100, 116, 104], .agg ⟨tokV v⟩] w fun e w' => e = .returned (.tuple #[.agg ⟨optV (setO 0 o v).1⟩, faultV (setO 0 o v).2.1 (setO 0 o v).2.2]) ∧ Below w.heap.size w w' := fun w => rset_c o 0 (by decide) v (by omega) (by omega) w
                  by_cases hf : (putO 0 o v).2.1 = 0
                  · have hz : (putO 0 o v).2.2 = 0 := putO_z 0 o v hf
                    have hse : setO 0 o v = ((putO 0 o v).1, 0, 0) := Prod.ext (hs1 hf) (by rw [hs2]; exact Prod.ext hf hz)
                    rw [hse] at hrs
                    have hstep := opt_step hopt ht hu hv t1 (by rw [hk]; decide) hh ⟨u1, u2⟩ (by rw [hk]; exact hf)
                    rw [hst, hk] at hstep
                    have ho' := putO_right 0 ho hvn hf
                    obtain ⟨x3, hx3⟩ := nextTok hT hv (putO_kind hf)
                    have hi3 := (List.getElem?_eq_some_iff.1 hx3).1
                    obtain ⟨o', ho2⟩ : ∃ o', (putO 0 o v).1 = o' := ⟨_, rfl⟩
                    rw [ho2] at hstep ho' hrs
                    have e1 : (H ++ [([119, 105, 100, 116, 104] : List UInt8)]).length = H.length + 1 := by simp
                    have e2 : (H ++ [([119, 105, 100, 116, 104] : List UInt8)]).flatMap strV = H.flatMap strV ++ [S [119, 105, 100, 116, 104]] := by simp [strV]
                    repeat (first | refine sy_k rfl rfl ?_ | (refine gO ?_; first | refine sy_ov (ov_p rfl) rfl rfl ?_ | refine sy_ov (ov_fieldAddr rfl rfl rfl) rfl rfl ?_ | (refine sy_ov (ov_indexAddr rfl rfl ?_ ?_) rfl rfl ?_; omega; omega)))
                    refine sy_ov (ov_loadv 5 (v := .int .i64 tk) rfl rfl rfl (tok_get (m := 0) ht rfl)) rfl rfl ?_
                    repeat (first | refine sy_k rfl rfl ?_ | (refine gO ?_; first | refine sy_ov (ov_p rfl) rfl rfl ?_ | (refine sy_ov (ov_indexAddr rfl rfl ?_ ?_) rfl rfl ?_; omega; omega)) | (refine sy_cond_t rfl ?_ ?_; focus (first | with_reducible rfl | assumption | omega | (simp <;> first | omega | assumption))))
                    refine sy_ov (ov_loadva 5 rfl rfl rfl rfl (fun j u hj => tok_get (m := 0) ht hj)) rfl rfl ?_
                    repeat (first | refine sy_k rfl rfl ?_ | (refine gO ?_; first | refine sy_ov (ov_p rfl) rfl rfl ?_ | (refine gG ?_; (refine sy_guard_no rfl rfl rfl rfl rfl ?_ ?_; focus (first | with_reducible rfl | assumption | omega | (simp <;> first | omega | assumption)))) | (refine gL ?_; refine sy_ov (ov_ld 0 rfl rfl rfl) rfl rfl ?_) | (refine gS ?_; refine sy_store 0 rfl rfl rfl rfl rfl rfl rfl rfl ?_) | refine sy_ov (ov_pick rfl rfl rfl) rfl rfl ?_ | refine sy_ov (ov_fieldAddr rfl rfl rfl) rfl rfl ?_ | (refine sy_alloc rfl rfl rfl ?_; intro _)) | (refine sy_cond_f rfl ?_ ?_; focus (first | with_reducible rfl | assumption | omega | (simp <;> first | omega | assumption))))
                    refine sy_ov (ov_call rfl (fun w hw => rfind_c w _ _ _ H [119, 105, 100, 116, 104] rfl (by omega) (vec_isSl hw (i := 5) rfl))) rfl rfl ?_
                    repeat (first | refine sy_k rfl rfl ?_ | (refine gO ?_; first | refine sy_ov (ov_p rfl) rfl rfl ?_ | (refine gL ?_; refine sy_ov (ov_ld 0 rfl rfl rfl) rfl rfl ?_) | refine sy_ov (ov_fieldAddr rfl rfl rfl) rfl rfl ?_) | (refine sy_cond_f rfl ?_ ?_; focus (first | with_reducible rfl | assumption | omega | (simp <;> first | omega | assumption))))
                    refine sy_buildSlice rfl rfl rfl rfl rfl rfl rfl rfl ?_
                    intro nb
                    refine sy_append 6 0 rfl rfl rfl rfl rfl rfl rfl rfl rfl rfl rfl (by omega) (by refine Nat.le_trans (Nat.mul_le_mul_left _ (Nat.le_of_ble_eq_true (m := 1024) rfl)) ?_; omega) ?_
                    intro p' q'
                    refine sy_weaken (fun _ _ h => h) (sd sr) ?_
                    repeat (first | refine sy_k rfl rfl ?_ | (refine gO ?_; first | refine sy_ov (ov_p rfl) rfl rfl ?_ | refine sy_ov (ov_fieldAddr rfl rfl rfl) rfl rfl ?_ | (refine sy_ov (ov_indexAddr rfl rfl ?_ ?_) rfl rfl ?_; omega; omega)))
                    refine sy_ov (ov_loadv 6 (v := .int .i64 u.1) rfl rfl rfl (tok_get (m := 1) hu rfl)) rfl rfl ?_
                    repeat ((refine gO ?_; first | refine sy_ov (ov_p rfl) rfl rfl ?_ | (refine gG ?_; (refine sy_guard_yes rfl rfl rfl rfl rfl ?_ ?_; focus (first | with_reducible rfl | assumption | omega | (simp <;> first | omega | assumption)))) | refine sy_ov (ov_fieldAddr rfl rfl rfl) rfl rfl ?_ | (refine sy_ov (ov_indexAddr rfl rfl ?_ ?_) rfl rfl ?_; omega; omega)))
                    refine sy_ov (ov_loadv 6 (v := S u.2.2.2.1) rfl rfl rfl (tok_get (m := 1) hu rfl)) rfl rfl ?_
                    repeat (first | refine sy_k rfl rfl ?_ | (refine gO ?_; first | refine sy_ov (ov_p rfl) rfl rfl ?_ | (refine gG ?_; (refine sy_guard_yes rfl rfl rfl rfl rfl ?_ ?_; focus (first | with_reducible rfl | assumption | omega | (simp <;> first | omega | assumption)))) | (refine sy_ov (ov_pick_f rfl rfl ?_) rfl rfl ?_; focus (with_reducible rfl))) | (refine sy_cond_f rfl ?_ ?_; focus (first | with_reducible rfl | assumption | omega | (simp <;> first | omega | assumption))))
                    refine sy_drawE _ 11 [(1, false), (2, false), (3, false), (4, false), (5, false), (0, true), (6, false), (7, false), (8, false), (9, false), (10, true)] (by kernel_rfl) rfl (sk (sd sr)) ?_
                    repeat (first | refine dre_rd (fun _ _ => ov_p rfl) rfl ?_ | refine dre_rd (fun _ _ => ov_ld 0 rfl rfl rfl) rfl ?_ | refine dre_rd (fun _ _ => ov_fieldAddr rfl rfl rfl) rfl ?_ | (refine dre_rd (fun _ _ => ov_indexAddr rfl rfl ?_ ?_) rfl ?_; omega; omega))
                    refine dre_rd (fun _ _ => ov_loadva 5 rfl rfl rfl rfl (fun j u hj => tok_get (m := 2) hv hj)) rfl ?_
                    refine dre_ef rfl ?_
                    refine sy_ov (ov_ld 1 rfl rfl rfl) rfl rfl ?_
                    refine dre_ek (sk (sd sr)) ?_
                    refine dre_rd (fun _ _ => ov_call rfl (fun w _ => hrs w)) rfl ?_
                    repeat (first | refine dre_rd (fun _ _ => ov_p rfl) rfl ?_ | (refine dre_ef rfl ?_; refine sy_store 1 rfl rfl rfl rfl rfl rfl rfl rfl ?_; refine dre_ek (by first | exact sr | exact sk sr | (repeat first | exact sr | apply sk | apply sd)) ?_) | refine dre_end ?_)
                    repeat (first | refine sy_k rfl rfl ?_ | (refine gO ?_; first | refine sy_ov (ov_p rfl) rfl rfl ?_ | (refine gL ?_; refine sy_ov (ov_ld 2 rfl rfl rfl) rfl rfl ?_) | (refine gS ?_; refine sy_store 2 rfl rfl rfl rfl rfl rfl rfl rfl ?_) | refine sy_ov (ov_fieldAddr rfl rfl rfl) rfl rfl ?_) | (refine sy_cond_f rfl ?_ ?_; focus (first | with_reducible rfl | assumption | omega | (simp <;> first | omega | assumption))))
                    refine sy_ov (ov_slLo rfl rfl (by decide) ?_ ?_) rfl rfl ?_
                    focus omega
                    focus omega
                    repeat (first | refine sy_k rfl rfl ?_ | (refine gO ?_; refine sy_ov (ov_p rfl) rfl rfl ?_))
                    refine sy_back ⟨i + 3, o', H ++ [([119, 105, 100, 116, 104] : List UInt8)], some p', q'⟩ ⟨hi3, hstep, ho', by dsimp only; omega⟩ (by dsimp only; omega) ⟨⟨_, rfl, rfl⟩, ⟨_, rfl, rfl⟩, ⟨_, rfl, tsl_step g q i L.length⟩, ⟨_, rfl, rfl⟩, ⟨_, rfl, rfl⟩, ⟨_, rfl, by dsimp only; rw [e1]⟩, trivial⟩ (by dsimp only; rw [e1, e2]; exact sd sr)
                  · have hRR := opt_bad hopt ht hu hv t1 (by rw [hk]; decide) hh ⟨u1, u2⟩ (by rw [hk]; exact hf)
                    rw [hk] at hRR
                    rw [← hs2] at hRR hf
                    rw [hRR]
                    repeat (first | refine sy_k rfl rfl ?_ | (refine gO ?_; first | refine sy_ov (ov_p rfl) rfl rfl ?_ | refine sy_ov (ov_fieldAddr rfl rfl rfl) rfl rfl ?_ | (refine sy_ov (ov_indexAddr rfl rfl ?_ ?_) rfl rfl ?_; omega; omega)))
                    refine sy_ov (ov_loadv 5 (v := .int .i64 tk) rfl rfl rfl (tok_get (m := 0) ht rfl)) rfl rfl ?_
                    repeat (first | refine sy_k rfl rfl ?_ | (refine gO ?_; first | refine sy_ov (ov_p rfl) rfl rfl ?_ | (refine sy_ov (ov_indexAddr rfl rfl ?_ ?_) rfl rfl ?_; omega; omega)) | (refine sy_cond_t rfl ?_ ?_; focus (first | with_reducible rfl | assumption | omega | (simp <;> first | omega | assumption))))
                    refine sy_ov (ov_loadva 5 rfl rfl rfl rfl (fun j u hj => tok_get (m := 0) ht hj)) rfl rfl ?_
                    repeat (first | refine sy_k rfl rfl ?_ | (refine gO ?_; first | refine sy_ov (ov_p rfl) rfl rfl ?_ | (refine gG ?_; (refine sy_guard_no rfl rfl rfl rfl rfl ?_ ?_; focus (first | with_reducible rfl | assumption | omega | (simp <;> first | omega | assumption)))) | (refine gL ?_; refine sy_ov (ov_ld 0 rfl rfl rfl) rfl rfl ?_) | (refine gS ?_; refine sy_store 0 rfl rfl rfl rfl rfl rfl rfl rfl ?_) | refine sy_ov (ov_pick rfl rfl rfl) rfl rfl ?_ | refine sy_ov (ov_fieldAddr rfl rfl rfl) rfl rfl ?_ | (refine sy_alloc rfl rfl rfl ?_; intro _)) | (refine sy_cond_f rfl ?_ ?_; focus (first | with_reducible rfl | assumption | omega | (simp <;> first | omega | assumption))))
                    refine sy_ov (ov_call rfl (fun w hw => rfind_c w _ _ _ H [119, 105, 100, 116, 104] rfl (by omega) (vec_isSl hw (i := 5) rfl))) rfl rfl ?_
                    repeat (first | refine sy_k rfl rfl ?_ | (refine gO ?_; first | refine sy_ov (ov_p rfl) rfl rfl ?_ | (refine gL ?_; refine sy_ov (ov_ld 0 rfl rfl rfl) rfl rfl ?_) | refine sy_ov (ov_fieldAddr rfl rfl rfl) rfl rfl ?_) | (refine sy_cond_f rfl ?_ ?_; focus (first | with_reducible rfl | assumption | omega | (simp <;> first | omega | assumption))))
                    refine sy_buildSlice rfl rfl rfl rfl rfl rfl rfl rfl ?_
                    intro nb
                    refine sy_append 6 0 rfl rfl rfl rfl rfl rfl rfl rfl rfl rfl rfl (by omega) (by refine Nat.le_trans (Nat.mul_le_mul_left _ (Nat.le_of_ble_eq_true (m := 1024) rfl)) ?_; omega) ?_
                    intro p' q'
                    refine sy_weaken (fun _ _ h => h) (sd sr) ?_
                    repeat (first | refine sy_k rfl rfl ?_ | (refine gO ?_; first | refine sy_ov (ov_p rfl) rfl rfl ?_ | refine sy_ov (ov_fieldAddr rfl rfl rfl) rfl rfl ?_ | (refine sy_ov (ov_indexAddr rfl rfl ?_ ?_) rfl rfl ?_; omega; omega)))
                    refine sy_ov (ov_loadv 6 (v := .int .i64 u.1) rfl rfl rfl (tok_get (m := 1) hu rfl)) rfl rfl ?_
                    repeat ((refine gO ?_; first | refine sy_ov (ov_p rfl) rfl rfl ?_ | (refine gG ?_; (refine sy_guard_yes rfl rfl rfl rfl rfl ?_ ?_; focus (first | with_reducible rfl | assumption | omega | (simp <;> first | omega | assumption)))) | refine sy_ov (ov_fieldAddr rfl rfl rfl) rfl rfl ?_ | (refine sy_ov (ov_indexAddr rfl rfl ?_ ?_) rfl rfl ?_; omega; omega)))
                    refine sy_ov (ov_loadv 6 (v := S u.2.2.2.1) rfl rfl rfl (tok_get (m := 1) hu rfl)) rfl rfl ?_
                    repeat (first | refine sy_k rfl rfl ?_ | (refine gO ?_; first | refine sy_ov (ov_p rfl) rfl rfl ?_ | (refine gG ?_; (refine sy_guard_yes rfl rfl rfl rfl rfl ?_ ?_; focus (first | with_reducible rfl | assumption | omega | (simp <;> first | omega | assumption)))) | (refine sy_ov (ov_pick_f rfl rfl ?_) rfl rfl ?_; focus (with_reducible rfl))) | (refine sy_cond_f rfl ?_ ?_; focus (first | with_reducible rfl | assumption | omega | (simp <;> first | omega | assumption))))
                    refine sy_drawE _ 11 [(1, false), (2, false), (3, false), (4, false), (5, false), (0, true), (6, false), (7, false), (8, false), (9, false), (10, true)] (by kernel_rfl) rfl (sk (sd sr)) ?_
                    repeat (first | refine dre_rd (fun _ _ => ov_p rfl) rfl ?_ | refine dre_rd (fun _ _ => ov_ld 0 rfl rfl rfl) rfl ?_ | refine dre_rd (fun _ _ => ov_fieldAddr rfl rfl rfl) rfl ?_ | (refine dre_rd (fun _ _ => ov_indexAddr rfl rfl ?_ ?_) rfl ?_; omega; omega))
                    refine dre_rd (fun _ _ => ov_loadva 5 rfl rfl rfl rfl (fun j u hj => tok_get (m := 2) hv hj)) rfl ?_
                    refine dre_ef rfl ?_
                    refine sy_ov (ov_ld 1 rfl rfl rfl) rfl rfl ?_
                    refine dre_ek (sk (sd sr)) ?_
                    refine dre_rd (fun _ _ => ov_call rfl (fun w _ => hrs w)) rfl ?_
                    repeat (first | refine dre_rd (fun _ _ => ov_p rfl) rfl ?_ | (refine dre_ef rfl ?_; refine sy_store 1 rfl rfl rfl rfl rfl rfl rfl rfl ?_; refine dre_ek (by first | exact sr | exact sk sr | (repeat first | exact sr | apply sk | apply sd)) ?_) | refine dre_end ?_)
                    repeat (first | refine sy_k rfl rfl ?_ | (refine gO ?_; first | refine sy_ov (ov_p rfl) rfl rfl ?_ | (refine gL ?_; refine sy_ov (ov_ld 2 rfl rfl rfl) rfl rfl ?_) | (refine gS ?_; refine sy_store 2 rfl rfl rfl rfl rfl rfl rfl rfl ?_) | refine sy_ov (ov_fieldAddr rfl rfl rfl) rfl rfl ?_) | (refine sy_cond_t rfl ?_ ?_; focus (first | with_reducible rfl | assumption | omega | (simp <;> first | omega | assumption))))
                    refine sy_drawE _ 3 [(0, false), (1, false), (2, true)] (by kernel_rfl) rfl (sk (sk (sk (sk (sd sr))))) ?_
                    repeat (first | refine dre_rd (fun _ _ => ov_ld 2 rfl rfl rfl) rfl ?_ | refine dre_rd (fun _ _ => ov_build rfl rfl rfl) rfl ?_ | (refine dre_ef rfl ?_; refine sy_store 4 rfl rfl rfl rfl rfl rfl rfl rfl ?_; refine dre_ek (by first | exact sr | exact sk sr | (repeat first | exact sr | apply sk | apply sd)) ?_) | refine dre_end ?_)
                    repeat (first | refine sy_k rfl rfl ?_ | (refine gO ?_; (refine gS ?_; refine sy_store 3 rfl rfl rfl rfl rfl rfl rfl rfl ?_)) | refine sy_rt ?_)
                    exact ret_cc 4 3 rfl rfl rfl rfl rfl rfl rfl rfl rfl rfl
                · have hRR := opt_eq hopt ht hu t1 (by rw [hk]; decide) hh (fun h => u2 h.2)
                  rw [hRR]
                  repeat (first | refine sy_k rfl rfl ?_ | (refine gO ?_; first | refine sy_ov (ov_p rfl) rfl rfl ?_ | refine sy_ov (ov_fieldAddr rfl rfl rfl) rfl rfl ?_ | (refine sy_ov (ov_indexAddr rfl rfl ?_ ?_) rfl rfl ?_; omega; omega)))
                  refine sy_ov (ov_loadv 5 (v := .int .i64 tk) rfl rfl rfl (tok_get (m := 0) ht rfl)) rfl rfl ?_
                  repeat (first | refine sy_k rfl rfl ?_ | (refine gO ?_; first | refine sy_ov (ov_p rfl) rfl rfl ?_ | (refine sy_ov (ov_indexAddr rfl rfl ?_ ?_) rfl rfl ?_; omega; omega)) | (refine sy_cond_t rfl ?_ ?_; focus (first | with_reducible rfl | assumption | omega | (simp <;> first | omega | assumption))))
                  refine sy_ov (ov_loadva 5 rfl rfl rfl rfl (fun j u hj => tok_get (m := 0) ht hj)) rfl rfl ?_
                  repeat (first | refine sy_k rfl rfl ?_ | (refine gO ?_; first | refine sy_ov (ov_p rfl) rfl rfl ?_ | (refine gG ?_; (refine sy_guard_no rfl rfl rfl rfl rfl ?_ ?_; focus (first | with_reducible rfl | assumption | omega | (simp <;> first | omega | assumption)))) | (refine gL ?_; refine sy_ov (ov_ld 0 rfl rfl rfl) rfl rfl ?_) | (refine gS ?_; refine sy_store 0 rfl rfl rfl rfl rfl rfl rfl rfl ?_) | refine sy_ov (ov_pick rfl rfl rfl) rfl rfl ?_ | refine sy_ov (ov_fieldAddr rfl rfl rfl) rfl rfl ?_ | (refine sy_alloc rfl rfl rfl ?_; intro _)) | (refine sy_cond_f rfl ?_ ?_; focus (first | with_reducible rfl | assumption | omega | (simp <;> first | omega | assumption))))
                  refine sy_ov (ov_call rfl (fun w hw => rfind_c w _ _ _ H [119, 105, 100, 116, 104] rfl (by omega) (vec_isSl hw (i := 5) rfl))) rfl rfl ?_
                  repeat (first | refine sy_k rfl rfl ?_ | (refine gO ?_; first | refine sy_ov (ov_p rfl) rfl rfl ?_ | (refine gL ?_; refine sy_ov (ov_ld 0 rfl rfl rfl) rfl rfl ?_) | refine sy_ov (ov_fieldAddr rfl rfl rfl) rfl rfl ?_) | (refine sy_cond_f rfl ?_ ?_; focus (first | with_reducible rfl | assumption | omega | (simp <;> first | omega | assumption))))
                  refine sy_buildSlice rfl rfl rfl rfl rfl rfl rfl rfl ?_
                  intro nb
                  refine sy_append 6 0 rfl rfl rfl rfl rfl rfl rfl rfl rfl rfl rfl (by omega) (by refine Nat.le_trans (Nat.mul_le_mul_left _ (Nat.le_of_ble_eq_true (m := 1024) rfl)) ?_; omega) ?_
                  intro p' q'
                  refine sy_weaken (fun _ _ h => h) (sd sr) ?_
                  repeat (first | refine sy_k rfl rfl ?_ | (refine gO ?_; first | refine sy_ov (ov_p rfl) rfl rfl ?_ | refine sy_ov (ov_fieldAddr rfl rfl rfl) rfl rfl ?_ | (refine sy_ov (ov_indexAddr rfl rfl ?_ ?_) rfl rfl ?_; omega; omega)))
                  refine sy_ov (ov_loadv 6 (v := .int .i64 u.1) rfl rfl rfl (tok_get (m := 1) hu rfl)) rfl rfl ?_
                  repeat ((refine gO ?_; first | refine sy_ov (ov_p rfl) rfl rfl ?_ | (refine gG ?_; (refine sy_guard_yes rfl rfl rfl rfl rfl ?_ ?_; focus (first | with_reducible rfl | assumption | omega | (simp <;> first | omega | assumption)))) | refine sy_ov (ov_fieldAddr rfl rfl rfl) rfl rfl ?_ | (refine sy_ov (ov_indexAddr rfl rfl ?_ ?_) rfl rfl ?_; omega; omega)))
                  refine sy_ov (ov_loadv 6 (v := S u.2.2.2.1) rfl rfl rfl (tok_get (m := 1) hu rfl)) rfl rfl ?_
                  repeat (first | refine sy_k rfl rfl ?_ | (refine gO ?_; first | refine sy_ov (ov_p rfl) rfl rfl ?_ | (refine gG ?_; (refine sy_guard_yes rfl rfl rfl rfl rfl ?_ ?_; focus (first | with_reducible rfl | assumption | omega | (simp <;> first | omega | assumption)))) | (refine sy_ov (ov_pick_f rfl rfl ?_) rfl rfl ?_; focus (with_reducible rfl)) | (refine sy_ov (ov_indexAddr rfl rfl ?_ ?_) rfl rfl ?_; omega; omega) | refine sy_ov (ov_build rfl rfl rfl) rfl rfl ?_) | (refine sy_cond_t rfl ?_ ?_; focus (first | with_reducible rfl | assumption | omega | (simp <;> first | omega | assumption))))
                  refine sy_ov (ov_loadva 6 rfl rfl rfl rfl (fun j u hj => tok_get (m := 1) hu hj)) rfl rfl ?_
                  skip
                  refine sy_ov (ov_call rfl (fun w _ => rodd_c u w)) rfl rfl ?_
                  repeat (first | refine sy_k rfl rfl ?_ | (refine gO ?_; (refine gS ?_; first | refine sy_store 3 rfl rfl rfl rfl rfl rfl rfl rfl ?_ | refine sy_store 4 rfl rfl rfl rfl rfl rfl rfl rfl ?_)) | refine sy_rt ?_)
                  exact ret_cc 4 3 rfl rfl rfl rfl rfl rfl rfl rfl rfl rfl
              · have hRR := opt_eq hopt ht hu t1 (by rw [hk]; decide) hh (fun h => u1 h.1)
                rw [hRR]
                repeat (first | refine sy_k rfl rfl ?_ | (refine gO ?_; first | refine sy_ov (ov_p rfl) rfl rfl ?_ | refine sy_ov (ov_fieldAddr rfl rfl rfl) rfl rfl ?_ | (refine sy_ov (ov_indexAddr rfl rfl ?_ ?_) rfl rfl ?_; omega; omega)))
                refine sy_ov (ov_loadv 5 (v := .int .i64 tk) rfl rfl rfl (tok_get (m := 0) ht rfl)) rfl rfl ?_
                repeat (first | refine sy_k rfl rfl ?_ | (refine gO ?_; first | refine sy_ov (ov_p rfl) rfl rfl ?_ | (refine sy_ov (ov_indexAddr rfl rfl ?_ ?_) rfl rfl ?_; omega; omega)) | (refine sy_cond_t rfl ?_ ?_; focus (first | with_reducible rfl | assumption | omega | (simp <;> first | omega | assumption))))
                refine sy_ov (ov_loadva 5 rfl rfl rfl rfl (fun j u hj => tok_get (m := 0) ht hj)) rfl rfl ?_
                repeat (first | refine sy_k rfl rfl ?_ | (refine gO ?_; first | refine sy_ov (ov_p rfl) rfl rfl ?_ | (refine gG ?_; (refine sy_guard_no rfl rfl rfl rfl rfl ?_ ?_; focus (first | with_reducible rfl | assumption | omega | (simp <;> first | omega | assumption)))) | (refine gL ?_; refine sy_ov (ov_ld 0 rfl rfl rfl) rfl rfl ?_) | (refine gS ?_; refine sy_store 0 rfl rfl rfl rfl rfl rfl rfl rfl ?_) | refine sy_ov (ov_pick rfl rfl rfl) rfl rfl ?_ | refine sy_ov (ov_fieldAddr rfl rfl rfl) rfl rfl ?_ | (refine sy_alloc rfl rfl rfl ?_; intro _)) | (refine sy_cond_f rfl ?_ ?_; focus (first | with_reducible rfl | assumption | omega | (simp <;> first | omega | assumption))))
                refine sy_ov (ov_call rfl (fun w hw => rfind_c w _ _ _ H [119, 105, 100, 116, 104] rfl (by omega) (vec_isSl hw (i := 5) rfl))) rfl rfl ?_
                repeat (first | refine sy_k rfl rfl ?_ | (refine gO ?_; first | refine sy_ov (ov_p rfl) rfl rfl ?_ | (refine gL ?_; refine sy_ov (ov_ld 0 rfl rfl rfl) rfl rfl ?_) | refine sy_ov (ov_fieldAddr rfl rfl rfl) rfl rfl ?_) | (refine sy_cond_f rfl ?_ ?_; focus (first | with_reducible rfl | assumption | omega | (simp <;> first | omega | assumption))))
                refine sy_buildSlice rfl rfl rfl rfl rfl rfl rfl rfl ?_
                intro nb
                refine sy_append 6 0 rfl rfl rfl rfl rfl rfl rfl rfl rfl rfl rfl (by omega) (by refine Nat.le_trans (Nat.mul_le_mul_left _ (Nat.le_of_ble_eq_true (m := 1024) rfl)) ?_; omega) ?_
                intro p' q'
                refine sy_weaken (fun _ _ h => h) (sd sr) ?_
                repeat (first | refine sy_k rfl rfl ?_ | (refine gO ?_; first | refine sy_ov (ov_p rfl) rfl rfl ?_ | refine sy_ov (ov_fieldAddr rfl rfl rfl) rfl rfl ?_ | (refine sy_ov (ov_indexAddr rfl rfl ?_ ?_) rfl rfl ?_; omega; omega)))
                refine sy_ov (ov_loadv 6 (v := .int .i64 u.1) rfl rfl rfl (tok_get (m := 1) hu rfl)) rfl rfl ?_
                repeat (first | refine sy_k rfl rfl ?_ | (refine gO ?_; first | refine sy_ov (ov_p rfl) rfl rfl ?_ | (refine gG ?_; (refine sy_guard_no rfl rfl rfl rfl rfl ?_ ?_; focus (first | with_reducible rfl | assumption | omega | (simp <;> first | omega | assumption)))) | refine sy_ov (ov_pick rfl rfl rfl) rfl rfl ?_ | (refine sy_ov (ov_indexAddr rfl rfl ?_ ?_) rfl rfl ?_; omega; omega) | refine sy_ov (ov_build rfl rfl rfl) rfl rfl ?_) | (refine sy_cond_t rfl ?_ ?_; focus (first | with_reducible rfl | assumption | omega | (simp <;> first | omega | assumption))))
                refine sy_ov (ov_loadva 6 rfl rfl rfl rfl (fun j u hj => tok_get (m := 1) hu hj)) rfl rfl ?_
                skip
                refine sy_ov (ov_call rfl (fun w _ => rodd_c u w)) rfl rfl ?_
                repeat (first | refine sy_k rfl rfl ?_ | (refine gO ?_; (refine gS ?_; first | refine sy_store 3 rfl rfl rfl rfl rfl rfl rfl rfl ?_ | refine sy_store 4 rfl rfl rfl rfl rfl rfl rfl rfl ?_)) | refine sy_rt ?_)
                exact ret_cc 4 3 rfl rfl rfl rfl rfl rfl rfl rfl rfl rfl
            · obtain ⟨tk, ta, te, tx, tn⟩ := t
              have hnm : tx = [105, 110, 100, 101, 110, 116] := hnm
              subst hnm
              dsimp only at hge t0 t1 hk htl
              have hi1 := (List.getElem?_eq_some_iff.1 hu).1
              by_cases u1 : u.1 = 4
              · by_cases u2 : u.2.2.2.1 = [61]
                · obtain ⟨v, hv⟩ := nextTok hT hu (by omega)
                  have hi2 := (List.getElem?_eq_some_iff.1 hv).1
                  have hvn : v.1 = 1 → namB v.2.2.2.1 = true := hN v (List.mem_of_getElem? hv)
                  have hvl : v.2.2.2.1.length ≤ 1000000000 := (hT.bd v (List.mem_of_getElem? hv)).2
                  obtain ⟨hs2, hs1⟩ := setO_putO 1 ho hvn
                  have hrs : ∀ w, Calls Try.prog 112 #[.agg ⟨optV o⟩, S [105, 110, 100, 101, 110, 116], .agg ⟨tokV v⟩] w fun e w' => e = .returned (.tuple #[.agg ⟨optV (setO 1 o v).1⟩, faultV (setO 1 o v).2.1 (setO 1 o v).2.2]) ∧ Below w.heap.size w w' := fun w => rset_c o 1 (by decide) v (by omega) (by omega) w
                  by_cases hf : (putO 1 o v).2.1 = 0
                  · have hz : (putO 1 o v).2.2 = 0 := putO_z 1 o v hf
                    have hse : setO 1 o v = ((putO 1 o v).1, 0, 0) := Prod.ext (hs1 hf) (by rw [hs2]; exact Prod.ext hf hz)
                    rw [hse] at hrs
                    have hstep := opt_step hopt ht hu hv t1 (by rw [hk]; decide) hh ⟨u1, u2⟩ (by rw [hk]; exact hf)
                    rw [hst, hk] at hstep
                    have ho' := putO_right 1 ho hvn hf
                    obtain ⟨x3, hx3⟩ := nextTok hT hv (putO_kind hf)
                    have hi3 := (List.getElem?_eq_some_iff.1 hx3).1
                    obtain ⟨o', ho2⟩ : ∃ o', (putO 1 o v).1 = o' := ⟨_, rfl⟩
                    rw [ho2] at hstep ho' hrs
                    have e1 : (H ++ [([105, 110, 100, 101, 110, 116] : List UInt8)]).length = H.length + 1 := by simp
                    have e2 : (H ++ [([105, 110, 100, 101, 110, 116] : List UInt8)]).flatMap strV = H.flatMap strV ++ [S [105, 110, 100, 101, 110, 116]] := by simp [strV]
                    repeat (first | refine sy_k rfl rfl ?_ | (refine gO ?_; first | refine sy_ov (ov_p rfl) rfl rfl ?_ | refine sy_ov (ov_fieldAddr rfl rfl rfl) rfl rfl ?_ | (refine sy_ov (ov_indexAddr rfl rfl ?_ ?_) rfl rfl ?_; omega; omega)))
                    refine sy_ov (ov_loadv 5 (v := .int .i64 tk) rfl rfl rfl (tok_get (m := 0) ht rfl)) rfl rfl ?_
                    repeat (first | refine sy_k rfl rfl ?_ | (refine gO ?_; first | refine sy_ov (ov_p rfl) rfl rfl ?_ | (refine sy_ov (ov_indexAddr rfl rfl ?_ ?_) rfl rfl ?_; omega; omega)) | (refine sy_cond_t rfl ?_ ?_; focus (first | with_reducible rfl | assumption | omega | (simp <;> first | omega | assumption))))
                    refine sy_ov (ov_loadva 5 rfl rfl rfl rfl (fun j u hj => tok_get (m := 0) ht hj)) rfl rfl ?_
                    repeat (first | refine sy_k rfl rfl ?_ | (refine gO ?_; first | refine sy_ov (ov_p rfl) rfl rfl ?_ | (refine gG ?_; first | (refine sy_guard_yes rfl rfl rfl rfl rfl ?_ ?_; focus (first | with_reducible rfl | assumption | omega | (simp <;> first | omega | assumption))) | (refine sy_guard_no rfl rfl rfl rfl rfl ?_ ?_; focus (first | with_reducible rfl | assumption | omega | (simp <;> first | omega | assumption)))) | (refine gL ?_; refine sy_ov (ov_ld 0 rfl rfl rfl) rfl rfl ?_) | (refine gS ?_; refine sy_store 0 rfl rfl rfl rfl rfl rfl rfl rfl ?_) | (refine sy_ov (ov_pick_t rfl rfl ?_) rfl rfl ?_; focus (with_reducible rfl)) | refine sy_ov (ov_pick rfl rfl rfl) rfl rfl ?_ | refine sy_ov (ov_fieldAddr rfl rfl rfl) rfl rfl ?_ | (refine sy_alloc rfl rfl rfl ?_; intro _)) | (refine sy_cond_f rfl ?_ ?_; focus (first | with_reducible rfl | assumption | omega | (simp <;> first | omega | assumption))))
                    refine sy_ov (ov_call rfl (fun w hw => rfind_c w _ _ _ H [105, 110, 100, 101, 110, 116] rfl (by omega) (vec_isSl hw (i := 5) rfl))) rfl rfl ?_
                    repeat (first | refine sy_k rfl rfl ?_ | (refine gO ?_; first | refine sy_ov (ov_p rfl) rfl rfl ?_ | (refine gL ?_; refine sy_ov (ov_ld 0 rfl rfl rfl) rfl rfl ?_) | refine sy_ov (ov_fieldAddr rfl rfl rfl) rfl rfl ?_) | (refine sy_cond_f rfl ?_ ?_; focus (first | with_reducible rfl | assumption | omega | (simp <;> first | omega | assumption))))
                    refine sy_buildSlice rfl rfl rfl rfl rfl rfl rfl rfl ?_
                    intro nb
                    refine sy_append 6 0 rfl rfl rfl rfl rfl rfl rfl rfl rfl rfl rfl (by omega) (by refine Nat.le_trans (Nat.mul_le_mul_left _ (Nat.le_of_ble_eq_true (m := 1024) rfl)) ?_; omega) ?_
                    intro p' q'
                    refine sy_weaken (fun _ _ h => h) (sd sr) ?_
                    repeat (first | refine sy_k rfl rfl ?_ | (refine gO ?_; first | refine sy_ov (ov_p rfl) rfl rfl ?_ | refine sy_ov (ov_fieldAddr rfl rfl rfl) rfl rfl ?_ | (refine sy_ov (ov_indexAddr rfl rfl ?_ ?_) rfl rfl ?_; omega; omega)))
                    refine sy_ov (ov_loadv 6 (v := .int .i64 u.1) rfl rfl rfl (tok_get (m := 1) hu rfl)) rfl rfl ?_
                    repeat ((refine gO ?_; first | refine sy_ov (ov_p rfl) rfl rfl ?_ | (refine gG ?_; (refine sy_guard_yes rfl rfl rfl rfl rfl ?_ ?_; focus (first | with_reducible rfl | assumption | omega | (simp <;> first | omega | assumption)))) | refine sy_ov (ov_fieldAddr rfl rfl rfl) rfl rfl ?_ | (refine sy_ov (ov_indexAddr rfl rfl ?_ ?_) rfl rfl ?_; omega; omega)))
                    refine sy_ov (ov_loadv 6 (v := S u.2.2.2.1) rfl rfl rfl (tok_get (m := 1) hu rfl)) rfl rfl ?_
                    repeat (first | refine sy_k rfl rfl ?_ | (refine gO ?_; first | refine sy_ov (ov_p rfl) rfl rfl ?_ | (refine gG ?_; (refine sy_guard_yes rfl rfl rfl rfl rfl ?_ ?_; focus (first | with_reducible rfl | assumption | omega | (simp <;> first | omega | assumption)))) | (refine sy_ov (ov_pick_f rfl rfl ?_) rfl rfl ?_; focus (with_reducible rfl))) | (refine sy_cond_f rfl ?_ ?_; focus (first | with_reducible rfl | assumption | omega | (simp <;> first | omega | assumption))))
                    refine sy_drawE _ 11 [(1, false), (2, false), (3, false), (4, false), (5, false), (0, true), (6, false), (7, false), (8, false), (9, false), (10, true)] (by kernel_rfl) rfl (sk (sd sr)) ?_
                    repeat (first | refine dre_rd (fun _ _ => ov_p rfl) rfl ?_ | refine dre_rd (fun _ _ => ov_ld 0 rfl rfl rfl) rfl ?_ | refine dre_rd (fun _ _ => ov_fieldAddr rfl rfl rfl) rfl ?_ | (refine dre_rd (fun _ _ => ov_indexAddr rfl rfl ?_ ?_) rfl ?_; omega; omega))
                    refine dre_rd (fun _ _ => ov_loadva 5 rfl rfl rfl rfl (fun j u hj => tok_get (m := 2) hv hj)) rfl ?_
                    refine dre_ef rfl ?_
                    refine sy_ov (ov_ld 1 rfl rfl rfl) rfl rfl ?_
                    refine dre_ek (sk (sd sr)) ?_
                    refine dre_rd (fun _ _ => ov_call rfl (fun w _ => hrs w)) rfl ?_
                    repeat (first | refine dre_rd (fun _ _ => ov_p rfl) rfl ?_ | (refine dre_ef rfl ?_; refine sy_store 1 rfl rfl rfl rfl rfl rfl rfl rfl ?_; refine dre_ek (by first | exact sr | exact sk sr | (repeat first | exact sr | apply sk | apply sd)) ?_) | refine dre_end ?_)
                    repeat (first | refine sy_k rfl rfl ?_ | (refine gO ?_; first | refine sy_ov (ov_p rfl) rfl rfl ?_ | (refine gL ?_; refine sy_ov (ov_ld 2 rfl rfl rfl) rfl rfl ?_) | (refine gS ?_; refine sy_store 2 rfl rfl rfl rfl rfl rfl rfl rfl ?_) | refine sy_ov (ov_fieldAddr rfl rfl rfl) rfl rfl ?_) | (refine sy_cond_f rfl ?_ ?_; focus (first | with_reducible rfl | assumption | omega | (simp <;> first | omega | assumption))))
                    refine sy_ov (ov_slLo rfl rfl (by decide) ?_ ?_) rfl rfl ?_
                    focus omega
                    focus omega
                    repeat (first | refine sy_k rfl rfl ?_ | (refine gO ?_; refine sy_ov (ov_p rfl) rfl rfl ?_))
                    refine sy_back ⟨i + 3, o', H ++ [([105, 110, 100, 101, 110, 116] : List UInt8)], some p', q'⟩ ⟨hi3, hstep, ho', by dsimp only; omega⟩ (by dsimp only; omega) ⟨⟨_, rfl, rfl⟩, ⟨_, rfl, rfl⟩, ⟨_, rfl, tsl_step g q i L.length⟩, ⟨_, rfl, rfl⟩, ⟨_, rfl, rfl⟩, ⟨_, rfl, by dsimp only; rw [e1]⟩, trivial⟩ (by dsimp only; rw [e1, e2]; exact sd sr)
                  · have hRR := opt_bad hopt ht hu hv t1 (by rw [hk]; decide) hh ⟨u1, u2⟩ (by rw [hk]; exact hf)
                    rw [hk] at hRR
                    rw [← hs2] at hRR hf
                    rw [hRR]
                    repeat (first | refine sy_k rfl rfl ?_ | (refine gO ?_; first | refine sy_ov (ov_p rfl) rfl rfl ?_ | refine sy_ov (ov_fieldAddr rfl rfl rfl) rfl rfl ?_ | (refine sy_ov (ov_indexAddr rfl rfl ?_ ?_) rfl rfl ?_; omega; omega)))
                    refine sy_ov (ov_loadv 5 (v := .int .i64 tk) rfl rfl rfl (tok_get (m := 0) ht rfl)) rfl rfl ?_
                    repeat (first | refine sy_k rfl rfl ?_ | (refine gO ?_; first | refine sy_ov (ov_p rfl) rfl rfl ?_ | (refine sy_ov (ov_indexAddr rfl rfl ?_ ?_) rfl rfl ?_; omega; omega)) | (refine sy_cond_t rfl ?_ ?_; focus (first | with_reducible rfl | assumption | omega | (simp <;> first | omega | assumption))))
                    refine sy_ov (ov_loadva 5 rfl rfl rfl rfl (fun j u hj => tok_get (m := 0) ht hj)) rfl rfl ?_
                    repeat (first | refine sy_k rfl rfl ?_ | (refine gO ?_; first | refine sy_ov (ov_p rfl) rfl rfl ?_ | (refine gG ?_; first | (refine sy_guard_yes rfl rfl rfl rfl rfl ?_ ?_; focus (first | with_reducible rfl | assumption | omega | (simp <;> first | omega | assumption))) | (refine sy_guard_no rfl rfl rfl rfl rfl ?_ ?_; focus (first | with_reducible rfl | assumption | omega | (simp <;> first | omega | assumption)))) | (refine gL ?_; refine sy_ov (ov_ld 0 rfl rfl rfl) rfl rfl ?_) | (refine gS ?_; refine sy_store 0 rfl rfl rfl rfl rfl rfl rfl rfl ?_) | (refine sy_ov (ov_pick_t rfl rfl ?_) rfl rfl ?_; focus (with_reducible rfl)) | refine sy_ov (ov_pick rfl rfl rfl) rfl rfl ?_ | refine sy_ov (ov_fieldAddr rfl rfl rfl) rfl rfl ?_ | (refine sy_alloc rfl rfl rfl ?_; intro _)) | (refine sy_cond_f rfl ?_ ?_; focus (first | with_reducible rfl | assumption | omega | (simp <;> first | omega | assumption))))
                    refine sy_ov (ov_call rfl (fun w hw => rfind_c w _ _ _ H [105, 110, 100, 101, 110, 116] rfl (by omega) (vec_isSl hw (i := 5) rfl))) rfl rfl ?_
                    repeat (first | refine sy_k rfl rfl ?_ | (refine gO ?_; first | refine sy_ov (ov_p rfl) rfl rfl ?_ | (refine gL ?_; refine sy_ov (ov_ld 0 rfl rfl rfl) rfl rfl ?_) | refine sy_ov (ov_fieldAddr rfl rfl rfl) rfl rfl ?_) | (refine sy_cond_f rfl ?_ ?_; focus (first | with_reducible rfl | assumption | omega | (simp <;> first | omega | assumption))))
                    refine sy_buildSlice rfl rfl rfl rfl rfl rfl rfl rfl ?_
                    intro nb
                    refine sy_append 6 0 rfl rfl rfl rfl rfl rfl rfl rfl rfl rfl rfl (by omega) (by refine Nat.le_trans (Nat.mul_le_mul_left _ (Nat.le_of_ble_eq_true (m := 1024) rfl)) ?_; omega) ?_
                    intro p' q'
                    refine sy_weaken (fun _ _ h => h) (sd sr) ?_
                    repeat (first | refine sy_k rfl rfl ?_ | (refine gO ?_; first | refine sy_ov (ov_p rfl) rfl rfl ?_ | refine sy_ov (ov_fieldAddr rfl rfl rfl) rfl rfl ?_ | (refine sy_ov (ov_indexAddr rfl rfl ?_ ?_) rfl rfl ?_; omega; omega)))
                    refine sy_ov (ov_loadv 6 (v := .int .i64 u.1) rfl rfl rfl (tok_get (m := 1) hu rfl)) rfl rfl ?_
                    repeat ((refine gO ?_; first | refine sy_ov (ov_p rfl) rfl rfl ?_ | (refine gG ?_; (refine sy_guard_yes rfl rfl rfl rfl rfl ?_ ?_; focus (first | with_reducible rfl | assumption | omega | (simp <;> first | omega | assumption)))) | refine sy_ov (ov_fieldAddr rfl rfl rfl) rfl rfl ?_ | (refine sy_ov (ov_indexAddr rfl rfl ?_ ?_) rfl rfl ?_; omega; omega)))
                    refine sy_ov (ov_loadv 6 (v := S u.2.2.2.1) rfl rfl rfl (tok_get (m := 1) hu rfl)) rfl rfl ?_
                    repeat (first | refine sy_k rfl rfl ?_ | (refine gO ?_; first | refine sy_ov (ov_p rfl) rfl rfl ?_ | (refine gG ?_; (refine sy_guard_yes rfl rfl rfl rfl rfl ?_ ?_; focus (first | with_reducible rfl | assumption | omega | (simp <;> first | omega | assumption)))) | (refine sy_ov (ov_pick_f rfl rfl ?_) rfl rfl ?_; focus (with_reducible rfl))) | (refine sy_cond_f rfl ?_ ?_; focus (first | with_reducible rfl | assumption | omega | (simp <;> first | omega | assumption))))
                    refine sy_drawE _ 11 [(1, false), (2, false), (3, false), (4, false), (5, false), (0, true), (6, false), (7, false), (8, false), (9, false), (10, true)] (by kernel_rfl) rfl (sk (sd sr)) ?_
                    repeat (first | refine dre_rd (fun _ _ => ov_p rfl) rfl ?_ | refine dre_rd (fun _ _ => ov_ld 0 rfl rfl rfl) rfl ?_ | refine dre_rd (fun _ _ => ov_fieldAddr rfl rfl rfl) rfl ?_ | (refine dre_rd (fun _ _ => ov_indexAddr rfl rfl ?_ ?_) rfl ?_; omega; omega))
                    refine dre_rd (fun _ _ => ov_loadva 5 rfl rfl rfl rfl (fun j u hj => tok_get (m := 2) hv hj)) rfl ?_
                    refine dre_ef rfl ?_
                    refine sy_ov (ov_ld 1 rfl rfl rfl) rfl rfl ?_
                    refine dre_ek (sk (sd sr)) ?_
                    refine dre_rd (fun _ _ => ov_call rfl (fun w _ => hrs w)) rfl ?_
                    repeat (first | refine dre_rd (fun _ _ => ov_p rfl) rfl ?_ | (refine dre_ef rfl ?_; refine sy_store 1 rfl rfl rfl rfl rfl rfl rfl rfl ?_; refine dre_ek (by first | exact sr | exact sk sr | (repeat first | exact sr | apply sk | apply sd)) ?_) | refine dre_end ?_)
                    repeat (first | refine sy_k rfl rfl ?_ | (refine gO ?_; first | refine sy_ov (ov_p rfl) rfl rfl ?_ | (refine gL ?_; refine sy_ov (ov_ld 2 rfl rfl rfl) rfl rfl ?_) | (refine gS ?_; refine sy_store 2 rfl rfl rfl rfl rfl rfl rfl rfl ?_) | refine sy_ov (ov_fieldAddr rfl rfl rfl) rfl rfl ?_) | (refine sy_cond_t rfl ?_ ?_; focus (first | with_reducible rfl | assumption | omega | (simp <;> first | omega | assumption))))
                    refine sy_drawE _ 3 [(0, false), (1, false), (2, true)] (by kernel_rfl) rfl (sk (sk (sk (sk (sd sr))))) ?_
                    repeat (first | refine dre_rd (fun _ _ => ov_ld 2 rfl rfl rfl) rfl ?_ | refine dre_rd (fun _ _ => ov_build rfl rfl rfl) rfl ?_ | (refine dre_ef rfl ?_; refine sy_store 4 rfl rfl rfl rfl rfl rfl rfl rfl ?_; refine dre_ek (by first | exact sr | exact sk sr | (repeat first | exact sr | apply sk | apply sd)) ?_) | refine dre_end ?_)
                    repeat (first | refine sy_k rfl rfl ?_ | (refine gO ?_; (refine gS ?_; refine sy_store 3 rfl rfl rfl rfl rfl rfl rfl rfl ?_)) | refine sy_rt ?_)
                    exact ret_cc 4 3 rfl rfl rfl rfl rfl rfl rfl rfl rfl rfl
                · have hRR := opt_eq hopt ht hu t1 (by rw [hk]; decide) hh (fun h => u2 h.2)
                  rw [hRR]
                  repeat (first | refine sy_k rfl rfl ?_ | (refine gO ?_; first | refine sy_ov (ov_p rfl) rfl rfl ?_ | refine sy_ov (ov_fieldAddr rfl rfl rfl) rfl rfl ?_ | (refine sy_ov (ov_indexAddr rfl rfl ?_ ?_) rfl rfl ?_; omega; omega)))
                  refine sy_ov (ov_loadv 5 (v := .int .i64 tk) rfl rfl rfl (tok_get (m := 0) ht rfl)) rfl rfl ?_
                  repeat (first | refine sy_k rfl rfl ?_ | (refine gO ?_; first | refine sy_ov (ov_p rfl) rfl rfl ?_ | (refine sy_ov (ov_indexAddr rfl rfl ?_ ?_) rfl rfl ?_; omega; omega)) | (refine sy_cond_t rfl ?_ ?_; focus (first | with_reducible rfl | assumption | omega | (simp <;> first | omega | assumption))))
                  refine sy_ov (ov_loadva 5 rfl rfl rfl rfl (fun j u hj => tok_get (m := 0) ht hj)) rfl rfl ?_
                  repeat (first | refine sy_k rfl rfl ?_ | (refine gO ?_; first | refine sy_ov (ov_p rfl) rfl rfl ?_ | (refine gG ?_; first | (refine sy_guard_yes rfl rfl rfl rfl rfl ?_ ?_; focus (first | with_reducible rfl | assumption | omega | (simp <;> first | omega | assumption))) | (refine sy_guard_no rfl rfl rfl rfl rfl ?_ ?_; focus (first | with_reducible rfl | assumption | omega | (simp <;> first | omega | assumption)))) | (refine gL ?_; refine sy_ov (ov_ld 0 rfl rfl rfl) rfl rfl ?_) | (refine gS ?_; refine sy_store 0 rfl rfl rfl rfl rfl rfl rfl rfl ?_) | (refine sy_ov (ov_pick_t rfl rfl ?_) rfl rfl ?_; focus (with_reducible rfl)) | refine sy_ov (ov_pick rfl rfl rfl) rfl rfl ?_ | refine sy_ov (ov_fieldAddr rfl rfl rfl) rfl rfl ?_ | (refine sy_alloc rfl rfl rfl ?_; intro _)) | (refine sy_cond_f rfl ?_ ?_; focus (first | with_reducible rfl | assumption | omega | (simp <;> first | omega | assumption))))
                  refine sy_ov (ov_call rfl (fun w hw => rfind_c w _ _ _ H [105, 110, 100, 101, 110, 116] rfl (by omega) (vec_isSl hw (i := 5) rfl))) rfl rfl ?_
                  repeat (first | refine sy_k rfl rfl ?_ | (refine gO ?_; first | refine sy_ov (ov_p rfl) rfl rfl ?_ | (refine gL ?_; refine sy_ov (ov_ld 0 rfl rfl rfl) rfl rfl ?_) | refine sy_ov (ov_fieldAddr rfl rfl rfl) rfl rfl ?_) | (refine sy_cond_f rfl ?_ ?_; focus (first | with_reducible rfl | assumption | omega | (simp <;> first | omega | assumption))))
                  refine sy_buildSlice rfl rfl rfl rfl rfl rfl rfl rfl ?_
                  intro nb
                  refine sy_append 6 0 rfl rfl rfl rfl rfl rfl rfl rfl rfl rfl rfl (by omega) (by refine Nat.le_trans (Nat.mul_le_mul_left _ (Nat.le_of_ble_eq_true (m := 1024) rfl)) ?_; omega) ?_
                  intro p' q'
                  refine sy_weaken (fun _ _ h => h) (sd sr) ?_
                  repeat (first | refine sy_k rfl rfl ?_ | (refine gO ?_; first | refine sy_ov (ov_p rfl) rfl rfl ?_ | refine sy_ov (ov_fieldAddr rfl rfl rfl) rfl rfl ?_ | (refine sy_ov (ov_indexAddr rfl rfl ?_ ?_) rfl rfl ?_; omega; omega)))
                  refine sy_ov (ov_loadv 6 (v := .int .i64 u.1) rfl rfl rfl (tok_get (m := 1) hu rfl)) rfl rfl ?_
                  repeat ((refine gO ?_; first | refine sy_ov (ov_p rfl) rfl rfl ?_ | (refine gG ?_; (refine sy_guard_yes rfl rfl rfl rfl rfl ?_ ?_; focus (first | with_reducible rfl | assumption | omega | (simp <;> first | omega | assumption)))) | refine sy_ov (ov_fieldAddr rfl rfl rfl) rfl rfl ?_ | (refine sy_ov (ov_indexAddr rfl rfl ?_ ?_) rfl rfl ?_; omega; omega)))
                  refine sy_ov (ov_loadv 6 (v := S u.2.2.2.1) rfl rfl rfl (tok_get (m := 1) hu rfl)) rfl rfl ?_
                  repeat (first | refine sy_k rfl rfl ?_ | (refine gO ?_; first | refine sy_ov (ov_p rfl) rfl rfl ?_ | (refine gG ?_; (refine sy_guard_yes rfl rfl rfl rfl rfl ?_ ?_; focus (first | with_reducible rfl | assumption | omega | (simp <;> first | omega | assumption)))) | (refine sy_ov (ov_pick_f rfl rfl ?_) rfl rfl ?_; focus (with_reducible rfl)) | (refine sy_ov (ov_indexAddr rfl rfl ?_ ?_) rfl rfl ?_; omega; omega) | refine sy_ov (ov_build rfl rfl rfl) rfl rfl ?_) | (refine sy_cond_t rfl ?_ ?_; focus (first | with_reducible rfl | assumption | omega | (simp <;> first | omega | assumption))))
                  refine sy_ov (ov_loadva 6 rfl rfl rfl rfl (fun j u hj => tok_get (m := 1) hu hj)) rfl rfl ?_
                  skip
                  refine sy_ov (ov_call rfl (fun w _ => rodd_c u w)) rfl rfl ?_
                  repeat (first | refine sy_k rfl rfl ?_ | (refine gO ?_; (refine gS ?_; first | refine sy_store 3 rfl rfl rfl rfl rfl rfl rfl rfl ?_ | refine sy_store 4 rfl rfl rfl rfl rfl rfl rfl rfl ?_)) | refine sy_rt ?_)
                  exact ret_cc 4 3 rfl rfl rfl rfl rfl rfl rfl rfl rfl rfl
              · have hRR := opt_eq hopt ht hu t1 (by rw [hk]; decide) hh (fun h => u1 h.1)
                rw [hRR]
                repeat (first | refine sy_k rfl rfl ?_ | (refine gO ?_; first | refine sy_ov (ov_p rfl) rfl rfl ?_ | refine sy_ov (ov_fieldAddr rfl rfl rfl) rfl rfl ?_ | (refine sy_ov (ov_indexAddr rfl rfl ?_ ?_) rfl rfl ?_; omega; omega)))
                refine sy_ov (ov_loadv 5 (v := .int .i64 tk) rfl rfl rfl (tok_get (m := 0) ht rfl)) rfl rfl ?_
                repeat (first | refine sy_k rfl rfl ?_ | (refine gO ?_; first | refine sy_ov (ov_p rfl) rfl rfl ?_ | (refine sy_ov (ov_indexAddr rfl rfl ?_ ?_) rfl rfl ?_; omega; omega)) | (refine sy_cond_t rfl ?_ ?_; focus (first | with_reducible rfl | assumption | omega | (simp <;> first | omega | assumption))))
                refine sy_ov (ov_loadva 5 rfl rfl rfl rfl (fun j u hj => tok_get (m := 0) ht hj)) rfl rfl ?_
                repeat (first | refine sy_k rfl rfl ?_ | (refine gO ?_; first | refine sy_ov (ov_p rfl) rfl rfl ?_ | (refine gG ?_; first | (refine sy_guard_yes rfl rfl rfl rfl rfl ?_ ?_; focus (first | with_reducible rfl | assumption | omega | (simp <;> first | omega | assumption))) | (refine sy_guard_no rfl rfl rfl rfl rfl ?_ ?_; focus (first | with_reducible rfl | assumption | omega | (simp <;> first | omega | assumption)))) | (refine gL ?_; refine sy_ov (ov_ld 0 rfl rfl rfl) rfl rfl ?_) | (refine gS ?_; refine sy_store 0 rfl rfl rfl rfl rfl rfl rfl rfl ?_) | (refine sy_ov (ov_pick_t rfl rfl ?_) rfl rfl ?_; focus (with_reducible rfl)) | refine sy_ov (ov_pick rfl rfl rfl) rfl rfl ?_ | refine sy_ov (ov_fieldAddr rfl rfl rfl) rfl rfl ?_ | (refine sy_alloc rfl rfl rfl ?_; intro _)) | (refine sy_cond_f rfl ?_ ?_; focus (first | with_reducible rfl | assumption | omega | (simp <;> first | omega | assumption))))
                refine sy_ov (ov_call rfl (fun w hw => rfind_c w _ _ _ H [105, 110, 100, 101, 110, 116] rfl (by omega) (vec_isSl hw (i := 5) rfl))) rfl rfl ?_
                repeat (first | refine sy_k rfl rfl ?_ | (refine gO ?_; first | refine sy_ov (ov_p rfl) rfl rfl ?_ | (refine gL ?_; refine sy_ov (ov_ld 0 rfl rfl rfl) rfl rfl ?_) | refine sy_ov (ov_fieldAddr rfl rfl rfl) rfl rfl ?_) | (refine sy_cond_f rfl ?_ ?_; focus (first | with_reducible rfl | assumption | omega | (simp <;> first | omega | assumption))))
                refine sy_buildSlice rfl rfl rfl rfl rfl rfl rfl rfl ?_
                intro nb
                refine sy_append 6 0 rfl rfl rfl rfl rfl rfl rfl rfl rfl rfl rfl (by omega) (by refine Nat.le_trans (Nat.mul_le_mul_left _ (Nat.le_of_ble_eq_true (m := 1024) rfl)) ?_; omega) ?_
                intro p' q'
                refine sy_weaken (fun _ _ h => h) (sd sr) ?_
                repeat (first | refine sy_k rfl rfl ?_ | (refine gO ?_; first | refine sy_ov (ov_p rfl) rfl rfl ?_ | refine sy_ov (ov_fieldAddr rfl rfl rfl) rfl rfl ?_ | (refine sy_ov (ov_indexAddr rfl rfl ?_ ?_) rfl rfl ?_; omega; omega)))
                refine sy_ov (ov_loadv 6 (v := .int .i64 u.1) rfl rfl rfl (tok_get (m := 1) hu rfl)) rfl rfl ?_
                repeat (first | refine sy_k rfl rfl ?_ | (refine gO ?_; first | refine sy_ov (ov_p rfl) rfl rfl ?_ | (refine gG ?_; (refine sy_guard_no rfl rfl rfl rfl rfl ?_ ?_; focus (first | with_reducible rfl | assumption | omega | (simp <;> first | omega | assumption)))) | refine sy_ov (ov_pick rfl rfl rfl) rfl rfl ?_ | (refine sy_ov (ov_indexAddr rfl rfl ?_ ?_) rfl rfl ?_; omega; omega) | refine sy_ov (ov_build rfl rfl rfl) rfl rfl ?_) | (refine sy_cond_t rfl ?_ ?_; focus (first | with_reducible rfl | assumption | omega | (simp <;> first | omega | assumption))))
                refine sy_ov (ov_loadva 6 rfl rfl rfl rfl (fun j u hj => tok_get (m := 1) hu hj)) rfl rfl ?_
                skip
                refine sy_ov (ov_call rfl (fun w _ => rodd_c u w)) rfl rfl ?_
                repeat (first | refine sy_k rfl rfl ?_ | (refine gO ?_; (refine gS ?_; first | refine sy_store 3 rfl rfl rfl rfl rfl rfl rfl rfl ?_ | refine sy_store 4 rfl rfl rfl rfl rfl rfl rfl rfl ?_)) | refine sy_rt ?_)
                exact ret_cc 4 3 rfl rfl rfl rfl rfl rfl rfl rfl rfl rfl
            · obtain ⟨tk, ta, te, tx, tn⟩ := t
              have hnm : tx = [109, 111, 100, 101] := hnm
              subst hnm
              dsimp only at hge t0 t1 hk htl
              have hi1 := (List.getElem?_eq_some_iff.1 hu).1
              by_cases u1 : u.1 = 4
              · by_cases u2 : u.2.2.2.1 = [61]
                · obtain ⟨v, hv⟩ := nextTok hT hu (by omega)
                  have hi2 := (List.getElem?_eq_some_iff.1 hv).1
                  have hvn : v.1 = 1 → namB v.2.2.2.1 = true := hN v (List.mem_of_getElem? hv)
                  have hvl : v.2.2.2.1.length ≤ 1000000000 := (hT.bd v (List.mem_of_getElem? hv)).2
                  obtain ⟨hs2, hs1⟩ := setO_putO 2 ho hvn
                  have hrs : ∀ w, Calls Try.prog 112 #[.agg ⟨optV o⟩, S [109, 111, 100, 101], .agg ⟨tokV v⟩] w fun e w' => e = .returned (.tuple #[.agg ⟨optV (setO 2 o v).1⟩, faultV (setO 2 o v).2.1 (setO 2 o v).2.2]) ∧ Below w.heap.size w w' := fun w => rset_c o 2 (by decide) v (by omega) (by omega) w
                  by_cases hf : (putO 2 o v).2.1 = 0
                  · have hz : (putO 2 o v).2.2 = 0 := putO_z 2 o v hf
                    have hse : setO 2 o v = ((putO 2 o v).1, 0, 0) := Prod.ext (hs1 hf) (by rw [hs2]; exact Prod.ext hf hz)
                    rw [hse] at hrs
                    have hstep := opt_step hopt ht hu hv t1 (by rw [hk]; decide) hh ⟨u1, u2⟩ (by rw [hk]; exact hf)
                    rw [hst, hk] at hstep
                    have ho' := putO_right 2 ho hvn hf
                    obtain ⟨x3, hx3⟩ := nextTok hT hv (putO_kind hf)
                    have hi3 := (List.getElem?_eq_some_iff.1 hx3).1
                    obtain ⟨o', ho2⟩ : ∃ o', (putO 2 o v).1 = o' := ⟨_, rfl⟩
                    rw [ho2] at hstep ho' hrs
                    have e1 : (H ++ [([109, 111, 100, 101] : List UInt8)]).length = H.length + 1 := by simp
                    have e2 : (H ++ [([109, 111, 100, 101] : List UInt8)]).flatMap strV = H.flatMap strV ++ [S [109, 111, 100, 101]] := by simp [strV]
                    repeat (first | refine sy_k rfl rfl ?_ | (refine gO ?_; first | refine sy_ov (ov_p rfl) rfl rfl ?_ | refine sy_ov (ov_fieldAddr rfl rfl rfl) rfl rfl ?_ | (refine sy_ov (ov_indexAddr rfl rfl ?_ ?_) rfl rfl ?_; omega; omega)))
                    refine sy_ov (ov_loadv 5 (v := .int .i64 tk) rfl rfl rfl (tok_get (m := 0) ht rfl)) rfl rfl ?_
                    repeat (first | refine sy_k rfl rfl ?_ | (refine gO ?_; first | refine sy_ov (ov_p rfl) rfl rfl ?_ | (refine sy_ov (ov_indexAddr rfl rfl ?_ ?_) rfl rfl ?_; omega; omega)) | (refine sy_cond_t rfl ?_ ?_; focus (first | with_reducible rfl | assumption | omega | (simp <;> first | omega | assumption))))
                    refine sy_ov (ov_loadva 5 rfl rfl rfl rfl (fun j u hj => tok_get (m := 0) ht hj)) rfl rfl ?_
                    repeat (first | refine sy_k rfl rfl ?_ | (refine gO ?_; first | refine sy_ov (ov_p rfl) rfl rfl ?_ | (refine gG ?_; first | (refine sy_guard_yes rfl rfl rfl rfl rfl ?_ ?_; focus (first | with_reducible rfl | assumption | omega | (simp <;> first | omega | assumption))) | (refine sy_guard_no rfl rfl rfl rfl rfl ?_ ?_; focus (first | with_reducible rfl | assumption | omega | (simp <;> first | omega | assumption)))) | (refine gL ?_; refine sy_ov (ov_ld 0 rfl rfl rfl) rfl rfl ?_) | (refine gS ?_; refine sy_store 0 rfl rfl rfl rfl rfl rfl rfl rfl ?_) | (refine sy_ov (ov_pick_t rfl rfl ?_) rfl rfl ?_; focus (with_reducible rfl)) | refine sy_ov (ov_pick rfl rfl rfl) rfl rfl ?_ | refine sy_ov (ov_fieldAddr rfl rfl rfl) rfl rfl ?_ | (refine sy_alloc rfl rfl rfl ?_; intro _)) | (refine sy_cond_f rfl ?_ ?_; focus (first | with_reducible rfl | assumption | omega | (simp <;> first | omega | assumption))))
                    refine sy_ov (ov_call rfl (fun w hw => rfind_c w _ _ _ H [109, 111, 100, 101] rfl (by omega) (vec_isSl hw (i := 5) rfl))) rfl rfl ?_
                    repeat (first | refine sy_k rfl rfl ?_ | (refine gO ?_; first | refine sy_ov (ov_p rfl) rfl rfl ?_ | (refine gL ?_; refine sy_ov (ov_ld 0 rfl rfl rfl) rfl rfl ?_) | refine sy_ov (ov_fieldAddr rfl rfl rfl) rfl rfl ?_) | (refine sy_cond_f rfl ?_ ?_; focus (first | with_reducible rfl | assumption | omega | (simp <;> first | omega | assumption))))
                    refine sy_buildSlice rfl rfl rfl rfl rfl rfl rfl rfl ?_
                    intro nb
                    refine sy_append 6 0 rfl rfl rfl rfl rfl rfl rfl rfl rfl rfl rfl (by omega) (by refine Nat.le_trans (Nat.mul_le_mul_left _ (Nat.le_of_ble_eq_true (m := 1024) rfl)) ?_; omega) ?_
                    intro p' q'
                    refine sy_weaken (fun _ _ h => h) (sd sr) ?_
                    repeat (first | refine sy_k rfl rfl ?_ | (refine gO ?_; first | refine sy_ov (ov_p rfl) rfl rfl ?_ | refine sy_ov (ov_fieldAddr rfl rfl rfl) rfl rfl ?_ | (refine sy_ov (ov_indexAddr rfl rfl ?_ ?_) rfl rfl ?_; omega; omega)))
                    refine sy_ov (ov_loadv 6 (v := .int .i64 u.1) rfl rfl rfl (tok_get (m := 1) hu rfl)) rfl rfl ?_
                    repeat ((refine gO ?_; first | refine sy_ov (ov_p rfl) rfl rfl ?_ | (refine gG ?_; (refine sy_guard_yes rfl rfl rfl rfl rfl ?_ ?_; focus (first | with_reducible rfl | assumption | omega | (simp <;> first | omega | assumption)))) | refine sy_ov (ov_fieldAddr rfl rfl rfl) rfl rfl ?_ | (refine sy_ov (ov_indexAddr rfl rfl ?_ ?_) rfl rfl ?_; omega; omega)))
                    refine sy_ov (ov_loadv 6 (v := S u.2.2.2.1) rfl rfl rfl (tok_get (m := 1) hu rfl)) rfl rfl ?_
                    repeat (first | refine sy_k rfl rfl ?_ | (refine gO ?_; first | refine sy_ov (ov_p rfl) rfl rfl ?_ | (refine gG ?_; (refine sy_guard_yes rfl rfl rfl rfl rfl ?_ ?_; focus (first | with_reducible rfl | assumption | omega | (simp <;> first | omega | assumption)))) | (refine sy_ov (ov_pick_f rfl rfl ?_) rfl rfl ?_; focus (with_reducible rfl))) | (refine sy_cond_f rfl ?_ ?_; focus (first | with_reducible rfl | assumption | omega | (simp <;> first | omega | assumption))))
                    refine sy_drawE _ 11 [(1, false), (2, false), (3, false), (4, false), (5, false), (0, true), (6, false), (7, false), (8, false), (9, false), (10, true)] (by kernel_rfl) rfl (sk (sd sr)) ?_
                    repeat (first | refine dre_rd (fun _ _ => ov_p rfl) rfl ?_ | refine dre_rd (fun _ _ => ov_ld 0 rfl rfl rfl) rfl ?_ | refine dre_rd (fun _ _ => ov_fieldAddr rfl rfl rfl) rfl ?_ | (refine dre_rd (fun _ _ => ov_indexAddr rfl rfl ?_ ?_) rfl ?_; omega; omega))
                    refine dre_rd (fun _ _ => ov_loadva 5 rfl rfl rfl rfl (fun j u hj => tok_get (m := 2) hv hj)) rfl ?_
                    refine dre_ef rfl ?_
                    refine sy_ov (ov_ld 1 rfl rfl rfl) rfl rfl ?_
                    refine dre_ek (sk (sd sr)) ?_
                    refine dre_rd (fun _ _ => ov_call rfl (fun w _ => hrs w)) rfl ?_
                    repeat (first | refine dre_rd (fun _ _ => ov_p rfl) rfl ?_ | (refine dre_ef rfl ?_; refine sy_store 1 rfl rfl rfl rfl rfl rfl rfl rfl ?_; refine dre_ek (by first | exact sr | exact sk sr | (repeat first | exact sr | apply sk | apply sd)) ?_) | refine dre_end ?_)
                    repeat (first | refine sy_k rfl rfl ?_ | (refine gO ?_; first | refine sy_ov (ov_p rfl) rfl rfl ?_ | (refine gL ?_; refine sy_ov (ov_ld 2 rfl rfl rfl) rfl rfl ?_) | (refine gS ?_; refine sy_store 2 rfl rfl rfl rfl rfl rfl rfl rfl ?_) | refine sy_ov (ov_fieldAddr rfl rfl rfl) rfl rfl ?_) | (refine sy_cond_f rfl ?_ ?_; focus (first | with_reducible rfl | assumption | omega | (simp <;> first | omega | assumption))))
                    refine sy_ov (ov_slLo rfl rfl (by decide) ?_ ?_) rfl rfl ?_
                    focus omega
                    focus omega
                    repeat (first | refine sy_k rfl rfl ?_ | (refine gO ?_; refine sy_ov (ov_p rfl) rfl rfl ?_))
                    refine sy_back ⟨i + 3, o', H ++ [([109, 111, 100, 101] : List UInt8)], some p', q'⟩ ⟨hi3, hstep, ho', by dsimp only; omega⟩ (by dsimp only; omega) ⟨⟨_, rfl, rfl⟩, ⟨_, rfl, rfl⟩, ⟨_, rfl, tsl_step g q i L.length⟩, ⟨_, rfl, rfl⟩, ⟨_, rfl, rfl⟩, ⟨_, rfl, by dsimp only; rw [e1]⟩, trivial⟩ (by dsimp only; rw [e1, e2]; exact sd sr)
                  · have hRR := opt_bad hopt ht hu hv t1 (by rw [hk]; decide) hh ⟨u1, u2⟩ (by rw [hk]; exact hf)
                    rw [hk] at hRR
                    rw [← hs2] at hRR hf
                    rw [hRR]
                    repeat (first | refine sy_k rfl rfl ?_ | (refine gO ?_; first | refine sy_ov (ov_p rfl) rfl rfl ?_ | refine sy_ov (ov_fieldAddr rfl rfl rfl) rfl rfl ?_ | (refine sy_ov (ov_indexAddr rfl rfl ?_ ?_) rfl rfl ?_; omega; omega)))
                    refine sy_ov (ov_loadv 5 (v := .int .i64 tk) rfl rfl rfl (tok_get (m := 0) ht rfl)) rfl rfl ?_
                    repeat (first | refine sy_k rfl rfl ?_ | (refine gO ?_; first | refine sy_ov (ov_p rfl) rfl rfl ?_ | (refine sy_ov (ov_indexAddr rfl rfl ?_ ?_) rfl rfl ?_; omega; omega)) | (refine sy_cond_t rfl ?_ ?_; focus (first | with_reducible rfl | assumption | omega | (simp <;> first | omega | assumption))))
                    refine sy_ov (ov_loadva 5 rfl rfl rfl rfl (fun j u hj => tok_get (m := 0) ht hj)) rfl rfl ?_
                    repeat (first | refine sy_k rfl rfl ?_ | (refine gO ?_; first | refine sy_ov (ov_p rfl) rfl rfl ?_ | (refine gG ?_; first | (refine sy_guard_yes rfl rfl rfl rfl rfl ?_ ?_; focus (first | with_reducible rfl | assumption | omega | (simp <;> first | omega | assumption))) | (refine sy_guard_no rfl rfl rfl rfl rfl ?_ ?_; focus (first | with_reducible rfl | assumption | omega | (simp <;> first | omega | assumption)))) | (refine gL ?_; refine sy_ov (ov_ld 0 rfl rfl rfl) rfl rfl ?_) | (refine gS ?_; refine sy_store 0 rfl rfl rfl rfl rfl rfl rfl rfl ?_) | (refine sy_ov (ov_pick_t rfl rfl ?_) rfl rfl ?_; focus (with_reducible rfl)) | refine sy_ov (ov_pick rfl rfl rfl) rfl rfl ?_ | refine sy_ov (ov_fieldAddr rfl rfl rfl) rfl rfl ?_ | (refine sy_alloc rfl rfl rfl ?_; intro _)) | (refine sy_cond_f rfl ?_ ?_; focus (first | with_reducible rfl | assumption | omega | (simp <;> first | omega | assumption))))
                    refine sy_ov (ov_call rfl (fun w hw => rfind_c w _ _ _ H [109, 111, 100, 101] rfl (by omega) (vec_isSl hw (i := 5) rfl))) rfl rfl ?_
                    repeat (first | refine sy_k rfl rfl ?_ | (refine gO ?_; first | refine sy_ov (ov_p rfl) rfl rfl ?_ | (refine gL ?_; refine sy_ov (ov_ld 0 rfl rfl rfl) rfl rfl ?_) | refine sy_ov (ov_fieldAddr rfl rfl rfl) rfl rfl ?_) | (refine sy_cond_f rfl ?_ ?_; focus (first | with_reducible rfl | assumption | omega | (simp <;> first | omega | assumption))))
                    refine sy_buildSlice rfl rfl rfl rfl rfl rfl rfl rfl ?_
                    intro nb
                    refine sy_append 6 0 rfl rfl rfl rfl rfl rfl rfl rfl rfl rfl rfl (by omega) (by refine Nat.le_trans (Nat.mul_le_mul_left _ (Nat.le_of_ble_eq_true (m := 1024) rfl)) ?_; omega) ?_
                    intro p' q'
                    refine sy_weaken (fun _ _ h => h) (sd sr) ?_
                    repeat (first | refine sy_k rfl rfl ?_ | (refine gO ?_; first | refine sy_ov (ov_p rfl) rfl rfl ?_ | refine sy_ov (ov_fieldAddr rfl rfl rfl) rfl rfl ?_ | (refine sy_ov (ov_indexAddr rfl rfl ?_ ?_) rfl rfl ?_; omega; omega)))
                    refine sy_ov (ov_loadv 6 (v := .int .i64 u.1) rfl rfl rfl (tok_get (m := 1) hu rfl)) rfl rfl ?_
                    repeat ((refine gO ?_; first | refine sy_ov (ov_p rfl) rfl rfl ?_ | (refine gG ?_; (refine sy_guard_yes rfl rfl rfl rfl rfl ?_ ?_; focus (first | with_reducible rfl | assumption | omega | (simp <;> first | omega | assumption)))) | refine sy_ov (ov_fieldAddr rfl rfl rfl) rfl rfl ?_ | (refine sy_ov (ov_indexAddr rfl rfl ?_ ?_) rfl rfl ?_; omega; omega)))
                    refine sy_ov (ov_loadv 6 (v := S u.2.2.2.1) rfl rfl rfl (tok_get (m := 1) hu rfl)) rfl rfl ?_
                    repeat (first | refine sy_k rfl rfl ?_ | (refine gO ?_; first | refine sy_ov (ov_p rfl) rfl rfl ?_ | (refine gG ?_; (refine sy_guard_yes rfl rfl rfl rfl rfl ?_ ?_; focus (first | with_reducible rfl | assumption | omega | (simp <;> first | omega | assumption)))) | (refine sy_ov (ov_pick_f rfl rfl ?_) rfl rfl ?_; focus (with_reducible rfl))) | (refine sy_cond_f rfl ?_ ?_; focus (first | with_reducible rfl | assumption | omega | (simp <;> first | omega | assumption))))
                    refine sy_drawE _ 11 [(1, false), (2, false), (3, false), (4, false), (5, false), (0, true), (6, false), (7, false), (8, false), (9, false), (10, true)] (by kernel_rfl) rfl (sk (sd sr)) ?_
                    repeat (first | refine dre_rd (fun _ _ => ov_p rfl) rfl ?_ | refine dre_rd (fun _ _ => ov_ld 0 rfl rfl rfl) rfl ?_ | refine dre_rd (fun _ _ => ov_fieldAddr rfl rfl rfl) rfl ?_ | (refine dre_rd (fun _ _ => ov_indexAddr rfl rfl ?_ ?_) rfl ?_; omega; omega))
                    refine dre_rd (fun _ _ => ov_loadva 5 rfl rfl rfl rfl (fun j u hj => tok_get (m := 2) hv hj)) rfl ?_
                    refine dre_ef rfl ?_
                    refine sy_ov (ov_ld 1 rfl rfl rfl) rfl rfl ?_
                    refine dre_ek (sk (sd sr)) ?_
                    refine dre_rd (fun _ _ => ov_call rfl (fun w _ => hrs w)) rfl ?_
                    repeat (first | refine dre_rd (fun _ _ => ov_p rfl) rfl ?_ | (refine dre_ef rfl ?_; refine sy_store 1 rfl rfl rfl rfl rfl rfl rfl rfl ?_; refine dre_ek (by first | exact sr | exact sk sr | (repeat first | exact sr | apply sk | apply sd)) ?_) | refine dre_end ?_)
                    repeat (first | refine sy_k rfl rfl ?_ | (refine gO ?_; first | refine sy_ov (ov_p rfl) rfl rfl ?_ | (refine gL ?_; refine sy_ov (ov_ld 2 rfl rfl rfl) rfl rfl ?_) | (refine gS ?_; refine sy_store 2 rfl rfl rfl rfl rfl rfl rfl rfl ?_) | refine sy_ov (ov_fieldAddr rfl rfl rfl) rfl rfl ?_) | (refine sy_cond_t rfl ?_ ?_; focus (first | with_reducible rfl | assumption | omega | (simp <;> first | omega | assumption))))
                    refine sy_drawE _ 3 [(0, false), (1, false), (2, true)] (by kernel_rfl) rfl (sk (sk (sk (sk (sd sr))))) ?_
                    repeat (first | refine dre_rd (fun _ _ => ov_ld 2 rfl rfl rfl) rfl ?_ | refine dre_rd (fun _ _ => ov_build rfl rfl rfl) rfl ?_ | (refine dre_ef rfl ?_; refine sy_store 4 rfl rfl rfl rfl rfl rfl rfl rfl ?_; refine dre_ek (by first | exact sr | exact sk sr | (repeat first | exact sr | apply sk | apply sd)) ?_) | refine dre_end ?_)
                    repeat (first | refine sy_k rfl rfl ?_ | (refine gO ?_; (refine gS ?_; refine sy_store 3 rfl rfl rfl rfl rfl rfl rfl rfl ?_)) | refine sy_rt ?_)
                    exact ret_cc 4 3 rfl rfl rfl rfl rfl rfl rfl rfl rfl rfl
                · have hRR := opt_eq hopt ht hu t1 (by rw [hk]; decide) hh (fun h => u2 h.2)
                  rw [hRR]
                  repeat (first | refine sy_k rfl rfl ?_ | (refine gO ?_; first | refine sy_ov (ov_p rfl) rfl rfl ?_ | refine sy_ov (ov_fieldAddr rfl rfl rfl) rfl rfl ?_ | (refine sy_ov (ov_indexAddr rfl rfl ?_ ?_) rfl rfl ?_; omega; omega)))
                  refine sy_ov (ov_loadv 5 (v := .int .i64 tk) rfl rfl rfl (tok_get (m := 0) ht rfl)) rfl rfl ?_
                  repeat (first | refine sy_k rfl rfl ?_ | (refine gO ?_; first | refine sy_ov (ov_p rfl) rfl rfl ?_ | (refine sy_ov (ov_indexAddr rfl rfl ?_ ?_) rfl rfl ?_; omega; omega)) | (refine sy_cond_t rfl ?_ ?_; focus (first | with_reducible rfl | assumption | omega | (simp <;> first | omega | assumption))))
                  refine sy_ov (ov_loadva 5 rfl rfl rfl rfl (fun j u hj => tok_get (m := 0) ht hj)) rfl rfl ?_
                  repeat (first | refine sy_k rfl rfl ?_ | (refine gO ?_; first | refine sy_ov (ov_p rfl) rfl rfl ?_ | (refine gG ?_; first | (refine sy_guard_yes rfl rfl rfl rfl rfl ?_ ?_; focus (first | with_reducible rfl | assumption | omega | (simp <;> first | omega | assumption))) | (refine sy_guard_no rfl rfl rfl rfl rfl ?_ ?_; focus (first | with_reducible rfl | assumption | omega | (simp <;> first | omega | assumption)))) | (refine gL ?_; refine sy_ov (ov_ld 0 rfl rfl rfl) rfl rfl ?_) | (refine gS ?_; refine sy_store 0 rfl rfl rfl rfl rfl rfl rfl rfl ?_) | (refine sy_ov (ov_pick_t rfl rfl ?_) rfl rfl ?_; focus (with_reducible rfl)) | refine sy_ov (ov_pick rfl rfl rfl) rfl rfl ?_ | refine sy_ov (ov_fieldAddr rfl rfl rfl) rfl rfl ?_ | (refine sy_alloc rfl rfl rfl ?_; intro _)) | (refine sy_cond_f rfl ?_ ?_; focus (first | with_reducible rfl | assumption | omega | (simp <;> first | omega | assumption))))
                  refine sy_ov (ov_call rfl (fun w hw => rfind_c w _ _ _ H [109, 111, 100, 101] rfl (by omega) (vec_isSl hw (i := 5) rfl))) rfl rfl ?_
                  repeat (first | refine sy_k rfl rfl ?_ | (refine gO ?_; first | refine sy_ov (ov_p rfl) rfl rfl ?_ | (refine gL ?_; refine sy_ov (ov_ld 0 rfl rfl rfl) rfl rfl ?_) | refine sy_ov (ov_fieldAddr rfl rfl rfl) rfl rfl ?_) | (refine sy_cond_f rfl ?_ ?_; focus (first | with_reducible rfl | assumption | omega | (simp <;> first | omega | assumption))))
                  refine sy_buildSlice rfl rfl rfl rfl rfl rfl rfl rfl ?_
                  intro nb
                  refine sy_append 6 0 rfl rfl rfl rfl rfl rfl rfl rfl rfl rfl rfl (by omega) (by refine Nat.le_trans (Nat.mul_le_mul_left _ (Nat.le_of_ble_eq_true (m := 1024) rfl)) ?_; omega) ?_
                  intro p' q'
                  refine sy_weaken (fun _ _ h => h) (sd sr) ?_
                  repeat (first | refine sy_k rfl rfl ?_ | (refine gO ?_; first | refine sy_ov (ov_p rfl) rfl rfl ?_ | refine sy_ov (ov_fieldAddr rfl rfl rfl) rfl rfl ?_ | (refine sy_ov (ov_indexAddr rfl rfl ?_ ?_) rfl rfl ?_; omega; omega)))
                  refine sy_ov (ov_loadv 6 (v := .int .i64 u.1) rfl rfl rfl (tok_get (m := 1) hu rfl)) rfl rfl ?_
                  repeat ((refine gO ?_; first | refine sy_ov (ov_p rfl) rfl rfl ?_ | (refine gG ?_; (refine sy_guard_yes rfl rfl rfl rfl rfl ?_ ?_; focus (first | with_reducible rfl | assumption | omega | (simp <;> first | omega | assumption)))) | refine sy_ov (ov_fieldAddr rfl rfl rfl) rfl rfl ?_ | (refine sy_ov (ov_indexAddr rfl rfl ?_ ?_) rfl rfl ?_; omega; omega)))
                  refine sy_ov (ov_loadv 6 (v := S u.2.2.2.1) rfl rfl rfl (tok_get (m := 1) hu rfl)) rfl rfl ?_
                  repeat (first | refine sy_k rfl rfl ?_ | (refine gO ?_; first | refine sy_ov (ov_p rfl) rfl rfl ?_ | (refine gG ?_; (refine sy_guard_yes rfl rfl rfl rfl rfl ?_ ?_; focus (first | with_reducible rfl | assumption | omega | (simp <;> first | omega | assumption)))) | (refine sy_ov (ov_pick_f rfl rfl ?_) rfl rfl ?_; focus (with_reducible rfl)) | (refine sy_ov (ov_indexAddr rfl rfl ?_ ?_) rfl rfl ?_; omega; omega) | refine sy_ov (ov_build rfl rfl rfl) rfl rfl ?_) | (refine sy_cond_t rfl ?_ ?_; focus (first | with_reducible rfl | assumption | omega | (simp <;> first | omega | assumption))))
                  refine sy_ov (ov_loadva 6 rfl rfl rfl rfl (fun j u hj => tok_get (m := 1) hu hj)) rfl rfl ?_
                  skip
                  refine sy_ov (ov_call rfl (fun w _ => rodd_c u w)) rfl rfl ?_
                  repeat (first | refine sy_k rfl rfl ?_ | (refine gO ?_; (refine gS ?_; first | refine sy_store 3 rfl rfl rfl rfl rfl rfl rfl rfl ?_ | refine sy_store 4 rfl rfl rfl rfl rfl rfl rfl rfl ?_)) | refine sy_rt ?_)
                  exact ret_cc 4 3 rfl rfl rfl rfl rfl rfl rfl rfl rfl rfl
              · have hRR := opt_eq hopt ht hu t1 (by rw [hk]; decide) hh (fun h => u1 h.1)
                rw [hRR]
                repeat (first | refine sy_k rfl rfl ?_ | (refine gO ?_; first | refine sy_ov (ov_p rfl) rfl rfl ?_ | refine sy_ov (ov_fieldAddr rfl rfl rfl) rfl rfl ?_ | (refine sy_ov (ov_indexAddr rfl rfl ?_ ?_) rfl rfl ?_; omega; omega)))
                refine sy_ov (ov_loadv 5 (v := .int .i64 tk) rfl rfl rfl (tok_get (m := 0) ht rfl)) rfl rfl ?_
                repeat (first | refine sy_k rfl rfl ?_ | (refine gO ?_; first | refine sy_ov (ov_p rfl) rfl rfl ?_ | (refine sy_ov (ov_indexAddr rfl rfl ?_ ?_) rfl rfl ?_; omega; omega)) | (refine sy_cond_t rfl ?_ ?_; focus (first | with_reducible rfl | assumption | omega | (simp <;> first | omega | assumption))))
                refine sy_ov (ov_loadva 5 rfl rfl rfl rfl (fun j u hj => tok_get (m := 0) ht hj)) rfl rfl ?_
                repeat (first | refine sy_k rfl rfl ?_ | (refine gO ?_; first | refine sy_ov (ov_p rfl) rfl rfl ?_ | (refine gG ?_; first | (refine sy_guard_yes rfl rfl rfl rfl rfl ?_ ?_; focus (first | with_reducible rfl | assumption | omega | (simp <;> first | omega | assumption))) | (refine sy_guard_no rfl rfl rfl rfl rfl ?_ ?_; focus (first | with_reducible rfl | assumption | omega | (simp <;> first | omega | assumption)))) | (refine gL ?_; refine sy_ov (ov_ld 0 rfl rfl rfl) rfl rfl ?_) | (refine gS ?_; refine sy_store 0 rfl rfl rfl rfl rfl rfl rfl rfl ?_) | (refine sy_ov (ov_pick_t rfl rfl ?_) rfl rfl ?_; focus (with_reducible rfl)) | refine sy_ov (ov_pick rfl rfl rfl) rfl rfl ?_ | refine sy_ov (ov_fieldAddr rfl rfl rfl) rfl rfl ?_ | (refine sy_alloc rfl rfl rfl ?_; intro _)) | (refine sy_cond_f rfl ?_ ?_; focus (first | with_reducible rfl | assumption | omega | (simp <;> first | omega | assumption))))
                refine sy_ov (ov_call rfl (fun w hw => rfind_c w _ _ _ H [109, 111, 100, 101] rfl (by omega) (vec_isSl hw (i := 5) rfl))) rfl rfl ?_
                repeat (first | refine sy_k rfl rfl ?_ | (refine gO ?_; first | refine sy_ov (ov_p rfl) rfl rfl ?_ | (refine gL ?_; refine sy_ov (ov_ld 0 rfl rfl rfl) rfl rfl ?_) | refine sy_ov (ov_fieldAddr rfl rfl rfl) rfl rfl ?_) | (refine sy_cond_f rfl ?_ ?_; focus (first | with_reducible rfl | assumption | omega | (simp <;> first | omega | assumption))))
                refine sy_buildSlice rfl rfl rfl rfl rfl rfl rfl rfl ?_
                intro nb
                refine sy_append 6 0 rfl rfl rfl rfl rfl rfl rfl rfl rfl rfl rfl (by omega) (by refine Nat.le_trans (Nat.mul_le_mul_left _ (Nat.le_of_ble_eq_true (m := 1024) rfl)) ?_; omega) ?_
                intro p' q'
                refine sy_weaken (fun _ _ h => h) (sd sr) ?_
                repeat (first | refine sy_k rfl rfl ?_ | (refine gO ?_; first | refine sy_ov (ov_p rfl) rfl rfl ?_ | refine sy_ov (ov_fieldAddr rfl rfl rfl) rfl rfl ?_ | (refine sy_ov (ov_indexAddr rfl rfl ?_ ?_) rfl rfl ?_; omega; omega)))
                refine sy_ov (ov_loadv 6 (v := .int .i64 u.1) rfl rfl rfl (tok_get (m := 1) hu rfl)) rfl rfl ?_
                repeat (first | refine sy_k rfl rfl ?_ | (refine gO ?_; first | refine sy_ov (ov_p rfl) rfl rfl ?_ | (refine gG ?_; (refine sy_guard_no rfl rfl rfl rfl rfl ?_ ?_; focus (first | with_reducible rfl | assumption | omega | (simp <;> first | omega | assumption)))) | refine sy_ov (ov_pick rfl rfl rfl) rfl rfl ?_ | (refine sy_ov (ov_indexAddr rfl rfl ?_ ?_) rfl rfl ?_; omega; omega) | refine sy_ov (ov_build rfl rfl rfl) rfl rfl ?_) | (refine sy_cond_t rfl ?_ ?_; focus (first | with_reducible rfl | assumption | omega | (simp <;> first | omega | assumption))))
                refine sy_ov (ov_loadva 6 rfl rfl rfl rfl (fun j u hj => tok_get (m := 1) hu hj)) rfl rfl ?_
                skip
                refine sy_ov (ov_call rfl (fun w _ => rodd_c u w)) rfl rfl ?_
                repeat (first | refine sy_k rfl rfl ?_ | (refine gO ?_; (refine gS ?_; first | refine sy_store 3 rfl rfl rfl rfl rfl rfl rfl rfl ?_ | refine sy_store 4 rfl rfl rfl rfl rfl rfl rfl rfl ?_)) | refine sy_rt ?_)
                exact ret_cc 4 3 rfl rfl rfl rfl rfl rfl rfl rfl rfl rfl
            · obtain ⟨tk, ta, te, tx, tn⟩ := t
              have hnm : tx = [111, 98, 115, 101, 114, 118, 101, 114] := hnm
              subst hnm
              dsimp only at hge t0 t1 hk htl
              have hi1 := (List.getElem?_eq_some_iff.1 hu).1
              by_cases u1 : u.1 = 4
              · by_cases u2 : u.2.2.2.1 = [61]
                · obtain ⟨v, hv⟩ := nextTok hT hu (by omega)
                  have hi2 := (List.getElem?_eq_some_iff.1 hv).1
                  have hvn : v.1 = 1 → namB v.2.2.2.1 = true := hN v (List.mem_of_getElem? hv)
                  have hvl : v.2.2.2.1.length ≤ 1000000000 := (hT.bd v (List.mem_of_getElem? hv)).2
                  obtain ⟨hs2, hs1⟩ := setO_putO 3 ho hvn
                  have hrs : ∀ w, Calls Try.prog 112 #[.agg ⟨optV o⟩, S [111, 98, 115, 101, 114, 118, 101, 114], .agg ⟨tokV v⟩] w fun e w' => e = .returned (.tuple #[.agg ⟨optV (setO 3 o v).1⟩, faultV (setO 3 o v).2.1 (setO 3 o v).2.2]) ∧ Below w.heap.size w w' := fun w => rset_c o 3 (by decide) v (by omega) (by omega) w
                  by_cases hf : (putO 3 o v).2.1 = 0
                  · have hz : (putO 3 o v).2.2 = 0 := putO_z 3 o v hf
                    have hse : setO 3 o v = ((putO 3 o v).1, 0, 0) := Prod.ext (hs1 hf) (by rw [hs2]; exact Prod.ext hf hz)
                    rw [hse] at hrs
                    have hstep := opt_step hopt ht hu hv t1 (by rw [hk]; decide) hh ⟨u1, u2⟩ (by rw [hk]; exact hf)
                    rw [hst, hk] at hstep
                    have ho' := putO_right 3 ho hvn hf
                    obtain ⟨x3, hx3⟩ := nextTok hT hv (putO_kind hf)
                    have hi3 := (List.getElem?_eq_some_iff.1 hx3).1
                    obtain ⟨o', ho2⟩ : ∃ o', (putO 3 o v).1 = o' := ⟨_, rfl⟩
                    rw [ho2] at hstep ho' hrs
                    have e1 : (H ++ [([111, 98, 115, 101, 114, 118, 101, 114] : List UInt8)]).length = H.length + 1 := by simp
                    have e2 : (H ++ [([111, 98, 115, 101, 114, 118, 101, 114] : List UInt8)]).flatMap strV = H.flatMap strV ++ [S [111, 98, 115, 101, 114, 118, 101, 114]] := by simp [strV]
                    repeat (first | refine sy_k rfl rfl ?_ | (refine gO ?_; first | refine sy_ov (ov_p rfl) rfl rfl ?_ | refine sy_ov (ov_fieldAddr rfl rfl rfl) rfl rfl ?_ | (refine sy_ov (ov_indexAddr rfl rfl ?_ ?_) rfl rfl ?_; omega; omega)))
                    refine sy_ov (ov_loadv 5 (v := .int .i64 tk) rfl rfl rfl (tok_get (m := 0) ht rfl)) rfl rfl ?_
                    repeat (first | refine sy_k rfl rfl ?_ | (refine gO ?_; first | refine sy_ov (ov_p rfl) rfl rfl ?_ | (refine sy_ov (ov_indexAddr rfl rfl ?_ ?_) rfl rfl ?_; omega; omega)) | (refine sy_cond_t rfl ?_ ?_; focus (first | with_reducible rfl | assumption | omega | (simp <;> first | omega | assumption))))
                    refine sy_ov (ov_loadva 5 rfl rfl rfl rfl (fun j u hj => tok_get (m := 0) ht hj)) rfl rfl ?_
                    repeat (first | refine sy_k rfl rfl ?_ | (refine gO ?_; first | refine sy_ov (ov_p rfl) rfl rfl ?_ | (refine gG ?_; (refine sy_guard_yes rfl rfl rfl rfl rfl ?_ ?_; focus (first | with_reducible rfl | assumption | omega | (simp <;> first | omega | assumption)))) | (refine gL ?_; refine sy_ov (ov_ld 0 rfl rfl rfl) rfl rfl ?_) | (refine gS ?_; refine sy_store 0 rfl rfl rfl rfl rfl rfl rfl rfl ?_) | (refine sy_ov (ov_pick_t rfl rfl ?_) rfl rfl ?_; focus (with_reducible rfl)) | refine sy_ov (ov_fieldAddr rfl rfl rfl) rfl rfl ?_ | (refine sy_alloc rfl rfl rfl ?_; intro _)) | (refine sy_cond_f rfl ?_ ?_; focus (first | with_reducible rfl | assumption | omega | (simp <;> first | omega | assumption))))
                    refine sy_ov (ov_call rfl (fun w hw => rfind_c w _ _ _ H [111, 98, 115, 101, 114, 118, 101, 114] rfl (by omega) (vec_isSl hw (i := 5) rfl))) rfl rfl ?_
                    repeat (first | refine sy_k rfl rfl ?_ | (refine gO ?_; first | refine sy_ov (ov_p rfl) rfl rfl ?_ | (refine gL ?_; refine sy_ov (ov_ld 0 rfl rfl rfl) rfl rfl ?_) | refine sy_ov (ov_fieldAddr rfl rfl rfl) rfl rfl ?_) | (refine sy_cond_f rfl ?_ ?_; focus (first | with_reducible rfl | assumption | omega | (simp <;> first | omega | assumption))))
                    refine sy_buildSlice rfl rfl rfl rfl rfl rfl rfl rfl ?_
                    intro nb
                    refine sy_append 6 0 rfl rfl rfl rfl rfl rfl rfl rfl rfl rfl rfl (by omega) (by refine Nat.le_trans (Nat.mul_le_mul_left _ (Nat.le_of_ble_eq_true (m := 1024) rfl)) ?_; omega) ?_
                    intro p' q'
                    refine sy_weaken (fun _ _ h => h) (sd sr) ?_
                    repeat (first | refine sy_k rfl rfl ?_ | (refine gO ?_; first | refine sy_ov (ov_p rfl) rfl rfl ?_ | refine sy_ov (ov_fieldAddr rfl rfl rfl) rfl rfl ?_ | (refine sy_ov (ov_indexAddr rfl rfl ?_ ?_) rfl rfl ?_; omega; omega)))
                    refine sy_ov (ov_loadv 6 (v := .int .i64 u.1) rfl rfl rfl (tok_get (m := 1) hu rfl)) rfl rfl ?_
                    repeat ((refine gO ?_; first | refine sy_ov (ov_p rfl) rfl rfl ?_ | (refine gG ?_; (refine sy_guard_yes rfl rfl rfl rfl rfl ?_ ?_; focus (first | with_reducible rfl | assumption | omega | (simp <;> first | omega | assumption)))) | refine sy_ov (ov_fieldAddr rfl rfl rfl) rfl rfl ?_ | (refine sy_ov (ov_indexAddr rfl rfl ?_ ?_) rfl rfl ?_; omega; omega)))
                    refine sy_ov (ov_loadv 6 (v := S u.2.2.2.1) rfl rfl rfl (tok_get (m := 1) hu rfl)) rfl rfl ?_
                    repeat (first | refine sy_k rfl rfl ?_ | (refine gO ?_; first | refine sy_ov (ov_p rfl) rfl rfl ?_ | (refine gG ?_; (refine sy_guard_yes rfl rfl rfl rfl rfl ?_ ?_; focus (first | with_reducible rfl | assumption | omega | (simp <;> first | omega | assumption)))) | (refine sy_ov (ov_pick_f rfl rfl ?_) rfl rfl ?_; focus (with_reducible rfl))) | (refine sy_cond_f rfl ?_ ?_; focus (first | with_reducible rfl | assumption | omega | (simp <;> first | omega | assumption))))
                    refine sy_drawE _ 11 [(1, false), (2, false), (3, false), (4, false), (5, false), (0, true), (6, false), (7, false), (8, false), (9, false), (10, true)] (by kernel_rfl) rfl (sk (sd sr)) ?_
                    repeat (first | refine dre_rd (fun _ _ => ov_p rfl) rfl ?_ | refine dre_rd (fun _ _ => ov_ld 0 rfl rfl rfl) rfl ?_ | refine dre_rd (fun _ _ => ov_fieldAddr rfl rfl rfl) rfl ?_ | (refine dre_rd (fun _ _ => ov_indexAddr rfl rfl ?_ ?_) rfl ?_; omega; omega))
                    refine dre_rd (fun _ _ => ov_loadva 5 rfl rfl rfl rfl (fun j u hj => tok_get (m := 2) hv hj)) rfl ?_
                    refine dre_ef rfl ?_
                    refine sy_ov (ov_ld 1 rfl rfl rfl) rfl rfl ?_
                    refine dre_ek (sk (sd sr)) ?_
                    refine dre_rd (fun _ _ => ov_call rfl (fun w _ => hrs w)) rfl ?_
                    repeat (first | refine dre_rd (fun _ _ => ov_p rfl) rfl ?_ | (refine dre_ef rfl ?_; refine sy_store 1 rfl rfl rfl rfl rfl rfl rfl rfl ?_; refine dre_ek (by first | exact sr | exact sk sr | (repeat first | exact sr | apply sk | apply sd)) ?_) | refine dre_end ?_)
                    repeat (first | refine sy_k rfl rfl ?_ | (refine gO ?_; first | refine sy_ov (ov_p rfl) rfl rfl ?_ | (refine gL ?_; refine sy_ov (ov_ld 2 rfl rfl rfl) rfl rfl ?_) | (refine gS ?_; refine sy_store 2 rfl rfl rfl rfl rfl rfl rfl rfl ?_) | refine sy_ov (ov_fieldAddr rfl rfl rfl) rfl rfl ?_) | (refine sy_cond_f rfl ?_ ?_; focus (first | with_reducible rfl | assumption | omega | (simp <;> first | omega | assumption))))
                    refine sy_ov (ov_slLo rfl rfl (by decide) ?_ ?_) rfl rfl ?_
                    focus omega
                    focus omega
                    repeat (first | refine sy_k rfl rfl ?_ | (refine gO ?_; refine sy_ov (ov_p rfl) rfl rfl ?_))
                    refine sy_back ⟨i + 3, o', H ++ [([111, 98, 115, 101, 114, 118, 101, 114] : List UInt8)], some p', q'⟩ ⟨hi3, hstep, ho', by dsimp only; omega⟩ (by dsimp only; omega) ⟨⟨_, rfl, rfl⟩, ⟨_, rfl, rfl⟩, ⟨_, rfl, tsl_step g q i L.length⟩, ⟨_, rfl, rfl⟩, ⟨_, rfl, rfl⟩, ⟨_, rfl, by dsimp only; rw [e1]⟩, trivial⟩ (by dsimp only; rw [e1, e2]; exact sd sr)
                  · have hRR := opt_bad hopt ht hu hv t1 (by rw [hk]; decide) hh ⟨u1, u2⟩ (by rw [hk]; exact hf)
                    rw [hk] at hRR
                    rw [← hs2] at hRR hf
                    rw [hRR]
                    repeat (first | refine sy_k rfl rfl ?_ | (refine gO ?_; first | refine sy_ov (ov_p rfl) rfl rfl ?_ | refine sy_ov (ov_fieldAddr rfl rfl rfl) rfl rfl ?_ | (refine sy_ov (ov_indexAddr rfl rfl ?_ ?_) rfl rfl ?_; omega; omega)))
                    refine sy_ov (ov_loadv 5 (v := .int .i64 tk) rfl rfl rfl (tok_get (m := 0) ht rfl)) rfl rfl ?_
                    repeat (first | refine sy_k rfl rfl ?_ | (refine gO ?_; first | refine sy_ov (ov_p rfl) rfl rfl ?_ | (refine sy_ov (ov_indexAddr rfl rfl ?_ ?_) rfl rfl ?_; omega; omega)) | (refine sy_cond_t rfl ?_ ?_; focus (first | with_reducible rfl | assumption | omega | (simp <;> first | omega | assumption))))
                    refine sy_ov (ov_loadva 5 rfl rfl rfl rfl (fun j u hj => tok_get (m := 0) ht hj)) rfl rfl ?_
                    repeat (first | refine sy_k rfl rfl ?_ | (refine gO ?_; first | refine sy_ov (ov_p rfl) rfl rfl ?_ | (refine gG ?_; (refine sy_guard_yes rfl rfl rfl rfl rfl ?_ ?_; focus (first | with_reducible rfl | assumption | omega | (simp <;> first | omega | assumption)))) | (refine gL ?_; refine sy_ov (ov_ld 0 rfl rfl rfl) rfl rfl ?_) | (refine gS ?_; refine sy_store 0 rfl rfl rfl rfl rfl rfl rfl rfl ?_) | (refine sy_ov (ov_pick_t rfl rfl ?_) rfl rfl ?_; focus (with_reducible rfl)) | refine sy_ov (ov_fieldAddr rfl rfl rfl) rfl rfl ?_ | (refine sy_alloc rfl rfl rfl ?_; intro _)) | (refine sy_cond_f rfl ?_ ?_; focus (first | with_reducible rfl | assumption | omega | (simp <;> first | omega | assumption))))
                    refine sy_ov (ov_call rfl (fun w hw => rfind_c w _ _ _ H [111, 98, 115, 101, 114, 118, 101, 114] rfl (by omega) (vec_isSl hw (i := 5) rfl))) rfl rfl ?_
                    repeat (first | refine sy_k rfl rfl ?_ | (refine gO ?_; first | refine sy_ov (ov_p rfl) rfl rfl ?_ | (refine gL ?_; refine sy_ov (ov_ld 0 rfl rfl rfl) rfl rfl ?_) | refine sy_ov (ov_fieldAddr rfl rfl rfl) rfl rfl ?_) | (refine sy_cond_f rfl ?_ ?_; focus (first | with_reducible rfl | assumption | omega | (simp <;> first | omega | assumption))))
                    refine sy_buildSlice rfl rfl rfl rfl rfl rfl rfl rfl ?_
                    intro nb
                    refine sy_append 6 0 rfl rfl rfl rfl rfl rfl rfl rfl rfl rfl rfl (by omega) (by refine Nat.le_trans (Nat.mul_le_mul_left _ (Nat.le_of_ble_eq_true (m := 1024) rfl)) ?_; omega) ?_
                    intro p' q'
                    refine sy_weaken (fun _ _ h => h) (sd sr) ?_
                    repeat (first | refine sy_k rfl rfl ?_ | (refine gO ?_; first | refine sy_ov (ov_p rfl) rfl rfl ?_ | refine sy_ov (ov_fieldAddr rfl rfl rfl) rfl rfl ?_ | (refine sy_ov (ov_indexAddr rfl rfl ?_ ?_) rfl rfl ?_; omega; omega)))
                    refine sy_ov (ov_loadv 6 (v := .int .i64 u.1) rfl rfl rfl (tok_get (m := 1) hu rfl)) rfl rfl ?_
                    repeat ((refine gO ?_; first | refine sy_ov (ov_p rfl) rfl rfl ?_ | (refine gG ?_; (refine sy_guard_yes rfl rfl rfl rfl rfl ?_ ?_; focus (first | with_reducible rfl | assumption | omega | (simp <;> first | omega | assumption)))) | refine sy_ov (ov_fieldAddr rfl rfl rfl) rfl rfl ?_ | (refine sy_ov (ov_indexAddr rfl rfl ?_ ?_) rfl rfl ?_; omega; omega)))
                    refine sy_ov (ov_loadv 6 (v := S u.2.2.2.1) rfl rfl rfl (tok_get (m := 1) hu rfl)) rfl rfl ?_
                    repeat (first | refine sy_k rfl rfl ?_ | (refine gO ?_; first | refine sy_ov (ov_p rfl) rfl rfl ?_ | (refine gG ?_; (refine sy_guard_yes rfl rfl rfl rfl rfl ?_ ?_; focus (first | with_reducible rfl | assumption | omega | (simp <;> first | omega | assumption)))) | (refine sy_ov (ov_pick_f rfl rfl ?_) rfl rfl ?_; focus (with_reducible rfl))) | (refine sy_cond_f rfl ?_ ?_; focus (first | with_reducible rfl | assumption | omega | (simp <;> first | omega | assumption))))
                    refine sy_drawE _ 11 [(1, false), (2, false), (3, false), (4, false), (5, false), (0, true), (6, false), (7, false), (8, false), (9, false), (10, true)] (by kernel_rfl) rfl (sk (sd sr)) ?_
                    repeat (first | refine dre_rd (fun _ _ => ov_p rfl) rfl ?_ | refine dre_rd (fun _ _ => ov_ld 0 rfl rfl rfl) rfl ?_ | refine dre_rd (fun _ _ => ov_fieldAddr rfl rfl rfl) rfl ?_ | (refine dre_rd (fun _ _ => ov_indexAddr rfl rfl ?_ ?_) rfl ?_; omega; omega))
                    refine dre_rd (fun _ _ => ov_loadva 5 rfl rfl rfl rfl (fun j u hj => tok_get (m := 2) hv hj)) rfl ?_
                    refine dre_ef rfl ?_
                    refine sy_ov (ov_ld 1 rfl rfl rfl) rfl rfl ?_
                    refine dre_ek (sk (sd sr)) ?_
                    refine dre_rd (fun _ _ => ov_call rfl (fun w _ => hrs w)) rfl ?_
                    repeat (first | refine dre_rd (fun _ _ => ov_p rfl) rfl ?_ | (refine dre_ef rfl ?_; refine sy_store 1 rfl rfl rfl rfl rfl rfl rfl rfl ?_; refine dre_ek (by first | exact sr | exact sk sr | (repeat first | exact sr | apply sk | apply sd)) ?_) | refine dre_end ?_)
                    repeat (first | refine sy_k rfl rfl ?_ | (refine gO ?_; first | refine sy_ov (ov_p rfl) rfl rfl ?_ | (refine gL ?_; refine sy_ov (ov_ld 2 rfl rfl rfl) rfl rfl ?_) | (refine gS ?_; refine sy_store 2 rfl rfl rfl rfl rfl rfl rfl rfl ?_) | refine sy_ov (ov_fieldAddr rfl rfl rfl) rfl rfl ?_) | (refine sy_cond_t rfl ?_ ?_; focus (first | with_reducible rfl | assumption | omega | (simp <;> first | omega | assumption))))
                    refine sy_drawE _ 3 [(0, false), (1, false), (2, true)] (by kernel_rfl) rfl (sk (sk (sk (sk (sd sr))))) ?_
                    repeat (first | refine dre_rd (fun _ _ => ov_ld 2 rfl rfl rfl) rfl ?_ | refine dre_rd (fun _ _ => ov_build rfl rfl rfl) rfl ?_ | (refine dre_ef rfl ?_; refine sy_store 4 rfl rfl rfl rfl rfl rfl rfl rfl ?_; refine dre_ek (by first | exact sr | exact sk sr | (repeat first | exact sr | apply sk | apply sd)) ?_) | refine dre_end ?_)
                    repeat (first | refine sy_k rfl rfl ?_ | (refine gO ?_; (refine gS ?_; refine sy_store 3 rfl rfl rfl rfl rfl rfl rfl rfl ?_)) | refine sy_rt ?_)
                    exact ret_cc 4 3 rfl rfl rfl rfl rfl rfl rfl rfl rfl rfl
                · have hRR := opt_eq hopt ht hu t1 (by rw [hk]; decide) hh (fun h => u2 h.2)
                  rw [hRR]
                  repeat (first | refine sy_k rfl rfl ?_ | (refine gO ?_; first | refine sy_ov (ov_p rfl) rfl rfl ?_ | refine sy_ov (ov_fieldAddr rfl rfl rfl) rfl rfl ?_ | (refine sy_ov (ov_indexAddr rfl rfl ?_ ?_) rfl rfl ?_; omega; omega)))
                  refine sy_ov (ov_loadv 5 (v := .int .i64 tk) rfl rfl rfl (tok_get (m := 0) ht rfl)) rfl rfl ?_
                  repeat (first | refine sy_k rfl rfl ?_ | (refine gO ?_; first | refine sy_ov (ov_p rfl) rfl rfl ?_ | (refine sy_ov (ov_indexAddr rfl rfl ?_ ?_) rfl rfl ?_; omega; omega)) | (refine sy_cond_t rfl ?_ ?_; focus (first | with_reducible rfl | assumption | omega | (simp <;> first | omega | assumption))))
                  refine sy_ov (ov_loadva 5 rfl rfl rfl rfl (fun j u hj => tok_get (m := 0) ht hj)) rfl rfl ?_
                  repeat (first | refine sy_k rfl rfl ?_ | (refine gO ?_; first | refine sy_ov (ov_p rfl) rfl rfl ?_ | (refine gG ?_; (refine sy_guard_yes rfl rfl rfl rfl rfl ?_ ?_; focus (first | with_reducible rfl | assumption | omega | (simp <;> first | omega | assumption)))) | (refine gL ?_; refine sy_ov (ov_ld 0 rfl rfl rfl) rfl rfl ?_) | (refine gS ?_; refine sy_store 0 rfl rfl rfl rfl rfl rfl rfl rfl ?_) | (refine sy_ov (ov_pick_t rfl rfl ?_) rfl rfl ?_; focus (with_reducible rfl)) | refine sy_ov (ov_fieldAddr rfl rfl rfl) rfl rfl ?_ | (refine sy_alloc rfl rfl rfl ?_; intro _)) | (refine sy_cond_f rfl ?_ ?_; focus (first | with_reducible rfl | assumption | omega | (simp <;> first | omega | assumption))))
                  refine sy_ov (ov_call rfl (fun w hw => rfind_c w _ _ _ H [111, 98, 115, 101, 114, 118, 101, 114] rfl (by omega) (vec_isSl hw (i := 5) rfl))) rfl rfl ?_
                  repeat (first | refine sy_k rfl rfl ?_ | (refine gO ?_; first | refine sy_ov (ov_p rfl) rfl rfl ?_ | (refine gL ?_; refine sy_ov (ov_ld 0 rfl rfl rfl) rfl rfl ?_) | refine sy_ov (ov_fieldAddr rfl rfl rfl) rfl rfl ?_) | (refine sy_cond_f rfl ?_ ?_; focus (first | with_reducible rfl | assumption | omega | (simp <;> first | omega | assumption))))
                  refine sy_buildSlice rfl rfl rfl rfl rfl rfl rfl rfl ?_
                  intro nb
                  refine sy_append 6 0 rfl rfl rfl rfl rfl rfl rfl rfl rfl rfl rfl (by omega) (by refine Nat.le_trans (Nat.mul_le_mul_left _ (Nat.le_of_ble_eq_true (m := 1024) rfl)) ?_; omega) ?_
                  intro p' q'
                  refine sy_weaken (fun _ _ h => h) (sd sr) ?_
                  repeat (first | refine sy_k rfl rfl ?_ | (refine gO ?_; first | refine sy_ov (ov_p rfl) rfl rfl ?_ | refine sy_ov (ov_fieldAddr rfl rfl rfl) rfl rfl ?_ | (refine sy_ov (ov_indexAddr rfl rfl ?_ ?_) rfl rfl ?_; omega; omega)))
                  refine sy_ov (ov_loadv 6 (v := .int .i64 u.1) rfl rfl rfl (tok_get (m := 1) hu rfl)) rfl rfl ?_
                  repeat ((refine gO ?_; first | refine sy_ov (ov_p rfl) rfl rfl ?_ | (refine gG ?_; (refine sy_guard_yes rfl rfl rfl rfl rfl ?_ ?_; focus (first | with_reducible rfl | assumption | omega | (simp <;> first | omega | assumption)))) | refine sy_ov (ov_fieldAddr rfl rfl rfl) rfl rfl ?_ | (refine sy_ov (ov_indexAddr rfl rfl ?_ ?_) rfl rfl ?_; omega; omega)))
                  refine sy_ov (ov_loadv 6 (v := S u.2.2.2.1) rfl rfl rfl (tok_get (m := 1) hu rfl)) rfl rfl ?_
                  repeat (first | refine sy_k rfl rfl ?_ | (refine gO ?_; first | refine sy_ov (ov_p rfl) rfl rfl ?_ | (refine gG ?_; (refine sy_guard_yes rfl rfl rfl rfl rfl ?_ ?_; focus (first | with_reducible rfl | assumption | omega | (simp <;> first | omega | assumption)))) | (refine sy_ov (ov_pick_f rfl rfl ?_) rfl rfl ?_; focus (with_reducible rfl)) | (refine sy_ov (ov_indexAddr rfl rfl ?_ ?_) rfl rfl ?_; omega; omega) | refine sy_ov (ov_build rfl rfl rfl) rfl rfl ?_) | (refine sy_cond_t rfl ?_ ?_; focus (first | with_reducible rfl | assumption | omega | (simp <;> first | omega | assumption))))
                  refine sy_ov (ov_loadva 6 rfl rfl rfl rfl (fun j u hj => tok_get (m := 1) hu hj)) rfl rfl ?_
                  skip
                  refine sy_ov (ov_call rfl (fun w _ => rodd_c u w)) rfl rfl ?_
                  repeat (first | refine sy_k rfl rfl ?_ | (refine gO ?_; (refine gS ?_; first | refine sy_store 3 rfl rfl rfl rfl rfl rfl rfl rfl ?_ | refine sy_store 4 rfl rfl rfl rfl rfl rfl rfl rfl ?_)) | refine sy_rt ?_)
                  exact ret_cc 4 3 rfl rfl rfl rfl rfl rfl rfl rfl rfl rfl
              · have hRR := opt_eq hopt ht hu t1 (by rw [hk]; decide) hh (fun h => u1 h.1)
                rw [hRR]
                repeat (first | refine sy_k rfl rfl ?_ | (refine gO ?_; first | refine sy_ov (ov_p rfl) rfl rfl ?_ | refine sy_ov (ov_fieldAddr rfl rfl rfl) rfl rfl ?_ | (refine sy_ov (ov_indexAddr rfl rfl ?_ ?_) rfl rfl ?_; omega; omega)))
                refine sy_ov (ov_loadv 5 (v := .int .i64 tk) rfl rfl rfl (tok_get (m := 0) ht rfl)) rfl rfl ?_
                repeat (first | refine sy_k rfl rfl ?_ | (refine gO ?_; first | refine sy_ov (ov_p rfl) rfl rfl ?_ | (refine sy_ov (ov_indexAddr rfl rfl ?_ ?_) rfl rfl ?_; omega; omega)) | (refine sy_cond_t rfl ?_ ?_; focus (first | with_reducible rfl | assumption | omega | (simp <;> first | omega | assumption))))
                refine sy_ov (ov_loadva 5 rfl rfl rfl rfl (fun j u hj => tok_get (m := 0) ht hj)) rfl rfl ?_
                repeat (first | refine sy_k rfl rfl ?_ | (refine gO ?_; first | refine sy_ov (ov_p rfl) rfl rfl ?_ | (refine gG ?_; (refine sy_guard_yes rfl rfl rfl rfl rfl ?_ ?_; focus (first | with_reducible rfl | assumption | omega | (simp <;> first | omega | assumption)))) | (refine gL ?_; refine sy_ov (ov_ld 0 rfl rfl rfl) rfl rfl ?_) | (refine gS ?_; refine sy_store 0 rfl rfl rfl rfl rfl rfl rfl rfl ?_) | (refine sy_ov (ov_pick_t rfl rfl ?_) rfl rfl ?_; focus (with_reducible rfl)) | refine sy_ov (ov_fieldAddr rfl rfl rfl) rfl rfl ?_ | (refine sy_alloc rfl rfl rfl ?_; intro _)) | (refine sy_cond_f rfl ?_ ?_; focus (first | with_reducible rfl | assumption | omega | (simp <;> first | omega | assumption))))
                refine sy_ov (ov_call rfl (fun w hw => rfind_c w _ _ _ H [111, 98, 115, 101, 114, 118, 101, 114] rfl (by omega) (vec_isSl hw (i := 5) rfl))) rfl rfl ?_
                repeat (first | refine sy_k rfl rfl ?_ | (refine gO ?_; first | refine sy_ov (ov_p rfl) rfl rfl ?_ | (refine gL ?_; refine sy_ov (ov_ld 0 rfl rfl rfl) rfl rfl ?_) | refine sy_ov (ov_fieldAddr rfl rfl rfl) rfl rfl ?_) | (refine sy_cond_f rfl ?_ ?_; focus (first | with_reducible rfl | assumption | omega | (simp <;> first | omega | assumption))))
                refine sy_buildSlice rfl rfl rfl rfl rfl rfl rfl rfl ?_
                intro nb
                refine sy_append 6 0 rfl rfl rfl rfl rfl rfl rfl rfl rfl rfl rfl (by omega) (by refine Nat.le_trans (Nat.mul_le_mul_left _ (Nat.le_of_ble_eq_true (m := 1024) rfl)) ?_; omega) ?_
                intro p' q'
                refine sy_weaken (fun _ _ h => h) (sd sr) ?_
                repeat (first | refine sy_k rfl rfl ?_ | (refine gO ?_; first | refine sy_ov (ov_p rfl) rfl rfl ?_ | refine sy_ov (ov_fieldAddr rfl rfl rfl) rfl rfl ?_ | (refine sy_ov (ov_indexAddr rfl rfl ?_ ?_) rfl rfl ?_; omega; omega)))
                refine sy_ov (ov_loadv 6 (v := .int .i64 u.1) rfl rfl rfl (tok_get (m := 1) hu rfl)) rfl rfl ?_
                repeat (first | refine sy_k rfl rfl ?_ | (refine gO ?_; first | refine sy_ov (ov_p rfl) rfl rfl ?_ | (refine gG ?_; (refine sy_guard_no rfl rfl rfl rfl rfl ?_ ?_; focus (first | with_reducible rfl | assumption | omega | (simp <;> first | omega | assumption)))) | refine sy_ov (ov_pick rfl rfl rfl) rfl rfl ?_ | (refine sy_ov (ov_indexAddr rfl rfl ?_ ?_) rfl rfl ?_; omega; omega) | refine sy_ov (ov_build rfl rfl rfl) rfl rfl ?_) | (refine sy_cond_t rfl ?_ ?_; focus (first | with_reducible rfl | assumption | omega | (simp <;> first | omega | assumption))))
                refine sy_ov (ov_loadva 6 rfl rfl rfl rfl (fun j u hj => tok_get (m := 1) hu hj)) rfl rfl ?_
                skip
                refine sy_ov (ov_call rfl (fun w _ => rodd_c u w)) rfl rfl ?_
                repeat (first | refine sy_k rfl rfl ?_ | (refine gO ?_; (refine gS ?_; first | refine sy_store 3 rfl rfl rfl rfl rfl rfl rfl rfl ?_ | refine sy_store 4 rfl rfl rfl rfl rfl rfl rfl rfl ?_)) | refine sy_rt ?_)
                exact ret_cc 4 3 rfl rfl rfl rfl rfl rfl rfl rfl rfl rfl
      · have hRR := opt_kind hopt ht t0 t1
        rw [hRR]
        repeat (first | refine sy_k rfl rfl ?_ | (refine gO ?_; first | refine sy_ov (ov_p rfl) rfl rfl ?_ | refine sy_ov (ov_fieldAddr rfl rfl rfl) rfl rfl ?_ | (refine sy_ov (ov_indexAddr rfl rfl ?_ ?_) rfl rfl ?_; omega; omega)))
        refine sy_ov (ov_loadv 5 (v := .int .i64 t.1) rfl rfl rfl (tok_get (m := 0) ht rfl)) rfl rfl ?_
        repeat (first | refine sy_k rfl rfl ?_ | (refine gO ?_; first | refine sy_ov (ov_p rfl) rfl rfl ?_ | (refine sy_ov (ov_indexAddr rfl rfl ?_ ?_) rfl rfl ?_; omega; omega)) | (refine sy_cond_t rfl ?_ ?_; focus (first | with_reducible rfl | assumption | omega | (simp <;> first | omega | assumption))))
        refine sy_ov (ov_loadva 5 rfl rfl rfl rfl (fun j u hj => tok_get (m := 0) ht hj)) rfl rfl ?_
        repeat (first | refine sy_k rfl rfl ?_ | (refine gO ?_; first | refine sy_ov (ov_p rfl) rfl rfl ?_ | (refine gL ?_; refine sy_ov (ov_ld 0 rfl rfl rfl) rfl rfl ?_) | (refine gS ?_; refine sy_store 0 rfl rfl rfl rfl rfl rfl rfl rfl ?_) | refine sy_ov (ov_fieldAddr rfl rfl rfl) rfl rfl ?_ | refine sy_ov (ov_build rfl rfl rfl) rfl rfl ?_ | (refine sy_alloc rfl rfl rfl ?_; intro _)) | (refine sy_cond_t rfl ?_ ?_; focus (first | with_reducible rfl | assumption | omega | (simp <;> first | omega | assumption))))
        refine sy_ov (ov_call rfl (fun w _ => rodd_c t w)) rfl rfl ?_
        repeat (first | refine sy_k rfl rfl ?_ | (refine gO ?_; (refine gS ?_; first | refine sy_store 3 rfl rfl rfl rfl rfl rfl rfl rfl ?_ | refine sy_store 4 rfl rfl rfl rfl rfl rfl rfl rfl ?_)) | refine sy_rt ?_)
        exact ret_cc 4 3 rfl rfl rfl rfl rfl rfl rfl rfl rfl rfl
  · have hR : optP s = (zopt, e, a) := by unfold optP; rw [hL, if_pos he]
    rw [hR]
    refine sy_enter rfl rfl ?_
    simp only [initFr]
    repeat (first | refine sy_k rfl rfl ?_ | (refine gO ?_; first | refine sy_ov (ov_p rfl) rfl rfl ?_ | (refine sy_alloc rfl rfl rfl ?_; intro _)))
    refine sy_calln rfl rfl (fun w _ => rscan_c s (by omega) w) ?_
    rintro _ _ ⟨p, q, rfl, rfl⟩
    rw [hL]
    dsimp only
    repeat (first | refine sy_k rfl rfl ?_ | (refine gO ?_; first | refine sy_ov (ov_p rfl) rfl rfl ?_ | (refine gL ?_; refine sy_ov (ov_ld 0 rfl rfl rfl) rfl rfl ?_) | (refine gS ?_; refine sy_store 0 rfl rfl rfl rfl rfl rfl rfl rfl ?_) | refine sy_ov (ov_fieldAddr rfl rfl rfl) rfl rfl ?_ | (refine sy_alloc rfl rfl rfl ?_; intro _)) | (refine sy_cond_t rfl ?_ ?_; focus (first | with_reducible rfl | assumption | omega | (simp <;> first | omega | assumption))))
    refine sy_drawE _ 3 [(0, false), (1, false), (2, true)] (by kernel_rfl) rfl (sk (sk (sk (sd sr)))) ?_
    repeat (first | refine dre_rd (fun _ _ => ov_ld 0 rfl rfl rfl) rfl ?_ | refine dre_rd (fun _ _ => ov_build rfl rfl rfl) rfl ?_ | (refine dre_ef rfl ?_; refine sy_store 3 rfl rfl rfl rfl rfl rfl rfl rfl ?_; refine dre_ek (by first | exact sr | exact sk sr | (repeat first | exact sr | apply sk | apply sd)) ?_) | refine dre_end ?_)
    repeat (first | refine sy_k rfl rfl ?_ | (refine gO ?_; (refine gS ?_; refine sy_store 2 rfl rfl rfl rfl rfl rfl rfl rfl ?_)) | refine sy_rt ?_)
    exact ret_cc 3 2 rfl rfl rfl rfl rfl rfl rfl rfl rfl rfl
end Go.Proofs.Yteiejcililponaa
