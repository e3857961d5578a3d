/- Contracts: the reference's Same of paths. -/
import Derived.Test.YteddjadeenimkaaPaths3Q
set_option linter.unusedVariables false
set_option linter.unusedSimpArgs false
namespace Go.Proofs.Yteddjadeenimkaa
open Go.RowKit Bf
instance : KS Try.prog 95 [.i .i64, .i .i64, .s] := ⟨by kernel_rfl, by kernel_rfl, by kernel_rfl⟩
theorem eqL_self (x : StepT) : eqL (stpV x) (stpV x) = true := by simp [eqL, eqC, stpV]
/-- Where the second path begins the first one. -/
theorem rpbegins_t (w : World) (p : Option Addr) (n c : Nat) (l : List StepT) (hl : l.length = n) (hn : n ≤ 4611686018427387000) (hs : IsSl w 3 p n (l.flatMap stpV)) (p' : Option Addr) (n' c' : Nat) (l' : List StepT) (hl' : l'.length = n') (hs' : IsSl w 3 p' n' (l'.flatMap stpV)) (hpre : l.take n' = l') :
    Calls Try.prog 83 #[.slice p n c, .slice p' n' c'] w fun e w' => e = .returned (.bool true) ∧ Below w.heap.size w w' := by
  have hst : St (fun _ => False) w (fun w => IsSl w 3 p n (l.flatMap stpV)) := St.start (IsSl.bl _ _ _ _) hs
  have hst' : St (fun _ => False) w (fun w => IsSl w 3 p' n' (l'.flatMap stpV)) := St.start (IsSl.bl _ _ _ _) hs'
  have hle : n' ≤ n := by have := congrArg List.length hpre; rw [List.length_take] at this; omega
  refine sy_enter rfl rfl ?_
  simp only [initFr]
  repeat (first | refine sy_k rfl rfl ?_ | (refine gO ?_; refine sy_ov (ov_p rfl) rfl rfl ?_))
  refine sy_loop (α := Int) (fun i => [(0, .slice p n c), (1, .slice p' n' c'), (5, .int .i64 i)]) (fun _ => []) (fun i => 0 ≤ i ∧ i ≤ n') (fun i => (n' - i).toNat) 0 ⟨by omega, by omega⟩ ⟨⟨_, rfl, rfl⟩, ⟨_, rfl, rfl⟩, ⟨_, rfl, rfl⟩, trivial⟩ (List.nil_sublist _) ?_
  rintro i ⟨i0, i1⟩
  by_cases hlt : i < n'
  · obtain ⟨k, m, s, hx'⟩ := steps_get l' i n' hl' i0 hlt
    have hx : l[i.toNat]? = some (k, m, s) := by rw [← hpre, List.getElem?_take, if_pos (by omega)] at hx'; exact hx'
    obtain ⟨b, off, hp, hat⟩ := hst.addr (by omega)
    obtain ⟨b', off', hp', hat'⟩ := hst'.addr (by omega)
    subst hp
    subst hp'
    repeat (first | refine sy_k rfl rfl ?_ | (refine gO ?_; first | refine sy_ov (ov_p rfl) rfl rfl ?_ | (refine gK ?_; refine sy_ov (ov_lens rfl) rfl rfl ?_)) | (refine sy_cond_t rfl ?_ ?_; focus (first | with_reducible rfl | assumption | omega | (simp <;> first | omega | assumption))))
    refine sy_draw 13 (by kernel_rfl) ?_
    repeat (first | refine dr_op (ov_p rfl) rfl rfl ?_ | refine dr_op (ov_lens rfl) rfl rfl ?_ | (refine dr_yes rfl rfl rfl rfl ?_ (ov_p rfl) rfl ?_; focus (first | with_reducible rfl | assumption | omega | (simp <;> first | omega | assumption))) | (refine dr_yes rfl rfl rfl rfl ?_ (ov_indexAddr rfl rfl ?_ ?_) rfl ?_; (focus (first | with_reducible rfl | assumption | omega | (simp <;> first | omega | assumption))); omega; omega))
    refine dr_yes rfl rfl rfl rfl ?_ (ov_elem (f := stpV) hat hx rfl rfl (fun _ => rfl)) rfl ?_
    focus (first | with_reducible rfl | assumption | omega | (simp <;> first | omega | assumption))
    repeat (first | (refine dr_yes rfl rfl rfl rfl ?_ (ov_p rfl) rfl ?_; focus (first | with_reducible rfl | assumption | omega | (simp <;> first | omega | assumption))) | (refine dr_yes rfl rfl rfl rfl ?_ (ov_indexAddr rfl rfl ?_ ?_) rfl ?_; (focus (first | with_reducible rfl | assumption | omega | (simp <;> first | omega | assumption))); omega; omega))
    refine dr_yes rfl rfl rfl rfl ?_ (ov_elem (f := stpV) hat' hx' rfl rfl (fun _ => rfl)) rfl ?_
    focus (first | with_reducible rfl | assumption | omega | (simp <;> first | omega | assumption))
    repeat (refine dr_end ?_)
    refine sy_guard_yes rfl rfl rfl rfl rfl (by first | with_reducible rfl | (simp <;> omega)) ?_
    refine sy_ov (ov_nest (xs := stpV (k, m, s)) (ys := stpV (k, m, s)) rfl rfl rfl rfl) rfl rfl ?_
    rw [eqL_self]
    repeat (first | refine sy_k rfl rfl ?_ | (refine gO ?_; first | refine sy_ov (ov_p rfl) rfl rfl ?_ | (refine gB ?_; (refine sy_ov (ov_ar rfl rfl rfl ?_ ?_) rfl rfl ?_; omega; omega)) | (refine sy_ov (ov_pick_f rfl rfl ?_) rfl rfl ?_; focus (with_reducible rfl))) | (refine sy_cond_f rfl ?_ ?_; focus (first | with_reducible rfl | assumption | omega | (simp <;> first | omega | assumption))))
    refine sy_back (i + 1) ⟨by omega, by omega⟩ (by omega) ⟨⟨_, rfl, rfl⟩, ⟨_, rfl, rfl⟩, ⟨_, rfl, rfl⟩, trivial⟩ (List.nil_sublist _)
  · repeat (first | refine sy_k rfl rfl ?_ | (refine gO ?_; first | refine sy_ov (ov_p rfl) rfl rfl ?_ | (refine gK ?_; refine sy_ov (ov_lens rfl) rfl rfl ?_)) | (refine sy_cond_f rfl ?_ ?_; focus (first | with_reducible rfl | assumption | omega | (simp <;> first | omega | assumption))) | refine sy_rt ?_)
    exact ret1 rfl rfl rfl
theorem rpsame_t (w : World) (p : Option Addr) (n c : Nat) (l : List StepT) (hl : l.length = n) (hn : n ≤ 4611686018427387000) (hs : IsSl w 3 p n (l.flatMap stpV)) (p' : Option Addr) (c' : Nat) (hs' : IsSl w 3 p' n (l.flatMap stpV)) :
    Calls Try.prog 31 #[.slice p n c, .slice p' n c'] w fun e w' => e = .returned (.bool true) ∧ Below w.heap.size w w' := by
  have hst : St (fun _ => False) w (fun w => IsSl w 3 p n (l.flatMap stpV)) := St.start (IsSl.bl _ _ _ _) hs
  have hst' : St (fun _ => False) w (fun w => IsSl w 3 p' n (l.flatMap stpV)) := St.start (IsSl.bl _ _ _ _) hs'
  refine sy_enter rfl rfl ?_
  simp only [initFr]
  repeat (first | refine sy_k rfl rfl ?_ | (refine gO ?_; first | refine sy_ov (ov_p rfl) rfl rfl ?_ | (refine gG ?_; (refine sy_guard_yes rfl rfl rfl rfl rfl ?_ ?_; focus (first | with_reducible rfl | assumption | omega | (simp <;> first | omega | assumption)))) | (refine gK ?_; refine sy_ov (ov_lens rfl) rfl rfl ?_)))
  refine sy_ov (ov_call rfl (fun w hw => rpbegins_t w p n c l hl hn (hst.at hw) p' n c' l hl (hst'.at hw) (List.take_of_length_le (by omega)))) rfl rfl ?_
  repeat (first | refine sy_k rfl rfl ?_ | (refine gO ?_; first | refine sy_ov (ov_p rfl) rfl rfl ?_ | (refine sy_ov (ov_pick_t rfl rfl ?_) rfl rfl ?_; focus (with_reducible rfl))) | refine sy_rt ?_)
  exact ret1 rfl rfl rfl
end Go.Proofs.Yteddjadeenimkaa
