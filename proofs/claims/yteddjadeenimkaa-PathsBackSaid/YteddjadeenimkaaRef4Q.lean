/- Contracts of the reference of layer 4: Unit, Width; columns of texts that are well-formed. -/
import Derived.Test.YteddjadeenimkaaRef3Q
import Derived.Test.YteddjadeenimkaaPlainEsc2Q
set_option linter.unusedVariables false
set_option linter.unusedSimpArgs false
namespace Go.Proofs.Yteddjadeenimkaa
open Go.RowKit Bf
set_option maxRecDepth 20000 in
set_option maxHeartbeats 1000000 in
theorem runit4_c (s : List UInt8) (i c : Int) (n : Nat) (h : unitAt s i = (c, n)) (h0 : 0 ≤ i) (h1 : i < s.length) (hs : s.length ≤ 4611686018427387000) (w : World) :
    Calls Try.prog 80 #[S s, .int .i64 i] w fun e w' => e = .returned (.tuple #[.int .i64 c, .int .i64 (n : Int)]) ∧ Below w.heap.size w w' := by
  obtain ⟨r, m, ok, hd⟩ := trip (decAt s i)
  have hv := decS_val2 (s.drop i.toNat)
  have hd' := hd
  rw [decAt_in' s i h0 h1] at hd'
  rw [hd'] at hv
  simp only at hv
  have hu : unitAt s i = unitS (s.drop i.toNat) := by unfold unitAt; rw [if_neg (by omega)]
  have hne : s.drop i.toNat ≠ [] := by intro e; have := congrArg List.length e; simp at this; omega
  rw [hu] at h
  cases ok
  · rw [unitS_bad _ r m hne hd'] at h
    obtain ⟨rfl, rfl⟩ := Prod.mk.inj h
    refine sy_enter rfl rfl ?_
    simp only [initFr]
    repeat (first | refine sy_k rfl rfl ?_ | (refine gO ?_; refine sy_ov (ov_p rfl) rfl rfl ?_))
    refine sy_ov (ov_call rfl (fun w _ => rdecode_c s i r m false hd hs (by omega) (by omega) w)) rfl rfl ?_
    repeat (first | refine sy_k rfl rfl ?_ | (refine gO ?_; refine sy_ov (ov_p rfl) rfl rfl ?_) | (refine sy_cond_t rfl ?_ ?_; focus (first | with_reducible rfl | assumption | omega | (simp <;> first | omega | assumption))) | refine sy_rt ?_)
    exact ret2 rfl rfl rfl rfl
  · rw [unitS_ok _ r m hne hd'] at h
    obtain ⟨rfl, rfl⟩ := Prod.mk.inj h
    refine sy_enter rfl rfl ?_
    simp only [initFr]
    repeat (first | refine sy_k rfl rfl ?_ | (refine gO ?_; refine sy_ov (ov_p rfl) rfl rfl ?_))
    refine sy_ov (ov_call rfl (fun w _ => rdecode_c s i r m true hd hs (by omega) (by omega) w)) rfl rfl ?_
    repeat (first | refine sy_k rfl rfl ?_ | (refine gO ?_; refine sy_ov (ov_p rfl) rfl rfl ?_) | (refine sy_cond_f rfl ?_ ?_; focus (first | with_reducible rfl | assumption | omega | (simp <;> first | omega | assumption))))
    refine sy_ov (ov_call rfl (fun w _ => size_c r _ rfl (by omega) w)) rfl rfl ?_
    repeat (first | refine sy_k rfl rfl ?_ | (refine gO ?_; refine sy_ov (ov_p rfl) rfl rfl ?_) | refine sy_rt ?_)
    exact ret2 rfl rfl rfl rfl
set_option maxRecDepth 20000 in
set_option maxHeartbeats 1000000 in
theorem rwidth_c : ∀ (m : Nat) (s : List UInt8) (c : Int), s.length ≤ m → widthL s = c → s.length ≤ 4611686018427387000 → ∀ w : World,
    Calls Try.prog 59 #[S s] w fun e w' => e = .returned (.int .i64 c) ∧ Below w.heap.size w w' := by
  intro m
  induction m with
  | zero =>
    intro s c hm h hs w
    have hn : s = [] := List.length_eq_zero_iff.1 (by omega)
    subst hn; rw [widthL_nil] at h; subst h
    refine sy_enter rfl rfl ?_
    simp only [initFr]
    repeat (first | refine sy_k rfl rfl ?_ | (refine gO ?_; refine sy_ov (ov_p rfl) rfl rfl ?_) | (refine sy_cond_t rfl ?_ ?_; focus (first | with_reducible rfl | assumption | omega | (simp <;> first | omega | assumption))) | refine sy_rt ?_)
    exact ret1 rfl rfl rfl
  | succ m ih =>
    intro s c hm h hs w
    by_cases hn : s = []
    · subst hn; rw [widthL_nil] at h; subst h
      refine sy_enter rfl rfl ?_
      simp only [initFr]
      repeat (first | refine sy_k rfl rfl ?_ | (refine gO ?_; refine sy_ov (ov_p rfl) rfl rfl ?_) | (refine sy_cond_t rfl ?_ ?_; focus (first | with_reducible rfl | assumption | omega | (simp <;> first | omega | assumption))) | refine sy_rt ?_)
      exact ret1 rfl rfl rfl
    · have hp : 1 ≤ s.length := List.length_pos_iff.2 hn
      obtain ⟨k, n, hu⟩ : ∃ k n, unitS s = (k, n) := ⟨_, _, rfl⟩
      have hua : unitAt s 0 = (k, n) := by unfold unitAt; rw [if_neg (by omega)]; exact hu
      have hb := unitS_bd s
      have hst := widthL_step s hn
      rw [hu] at hb hst
      simp only at hb hst
      have hb1 := hb.2.2.2.1 hn
      have hdl : (s.drop n).length = s.length - n := List.length_drop
      have hw := widthL_bd _ (s.drop n) (Nat.le_refl _)
      have hi := ih (s.drop n) _ (by omega) rfl (by omega)
      obtain ⟨x, hx⟩ : ∃ x, widthL (s.drop n) = x := ⟨_, rfl⟩
      rw [hx] at hi hw hst
      rw [h] at hst
      subst hst
      refine sy_enter rfl rfl ?_
      simp only [initFr]
      repeat (first | refine sy_k rfl rfl ?_ | (refine gO ?_; refine sy_ov (ov_p rfl) rfl rfl ?_) | (refine sy_cond_f rfl ?_ ?_; focus (first | with_reducible rfl | assumption | omega | (simp <;> first | omega | assumption))))
      refine sy_ov (ov_call rfl (fun w _ => runit4_c s 0 k n hua (by omega) (by omega) hs w)) rfl rfl ?_
      repeat (first | refine sy_k rfl rfl ?_ | (refine gO ?_; first | refine sy_ov (ov_p rfl) rfl rfl ?_ | (refine gI ?_; (refine sy_ov (ov_slice_lo rfl rfl ?_ ?_) rfl rfl ?_; omega; omega))))
      refine sy_ov (ov_call rfl (fun w _ => hi w)) rfl rfl ?_
      repeat (first | refine sy_k rfl rfl ?_ | (refine gO ?_; first | refine sy_ov (ov_p rfl) rfl rfl ?_ | (refine gB ?_; (refine sy_ov (ov_ar rfl rfl rfl ?_ ?_) rfl rfl ?_; omega; omega))) | refine sy_rt ?_)
      exact ret1 rfl rfl rfl
theorem widthL_enc : ∀ (zs : List Int) (t : List UInt8), (∀ z ∈ zs, scalarB z = true) → widthL (encAll zs ++ t) = widthL (encAll zs) + widthL t
  | [], t, _ => by show widthL t = widthL [] + widthL t; rw [widthL_nil]; omega
  | z :: zs, t, h => by
    have hz := h z (by simp)
    have one : ∀ u, widthL (encL z ++ u) = runeC z + widthL u := fun u => by
      have hne : encL z ++ u ≠ [] := by intro e; exact encL_ne z hz (List.append_eq_nil_iff.1 e).1
      rw [widthL_step _ hne, unitS_ok _ _ _ hne (dec_enc z u hz)]
      simp
    have e : encAll (z :: zs) = encL z ++ encAll zs := rfl
    have ih := widthL_enc zs t fun y hy => h y (by simp [hy])
    rw [e, List.append_assoc, one, one, ih]; omega
theorem rune_34 : runeC 34 = 1 := by kernel_rfl
theorem widthL_34 (t : List UInt8) : widthL (34 :: t) = 1 + widthL t := by
  have h := widthL_enc [34] t (by decide)
  have h2 : widthL [34] = 1 := by
    have : decS [34] = (34, 1, true) := by decide
    rw [widthL_step _ (by simp), unitS_ok _ _ _ (by simp) this, rune_34]
    show 1 + widthL [] = 1
    rw [widthL_nil]; rfl
  have e : encAll [34] = [34] := by decide
  rw [e, h2] at h; exact h
theorem widthL_bodyQ (l t : List UInt8) : widthL (bodyQ l ++ t) = widthL (bodyQ l) + widthL t := by
  obtain ⟨zs, h1, h2⟩ := bodyQ_safe _ l (Nat.le_refl _)
  rw [h1]; exact widthL_enc zs t fun z hz => (h2 z hz).1
theorem widthL_unitE (l t : List UInt8) (hl : l ≠ []) : widthL ((unitE l).1 ++ t) = widthL (unitE l).1 + widthL t := by
  obtain ⟨zs, h1, h2⟩ := unitE_safe l hl
  rw [h1]; exact widthL_enc zs t fun z hz => (h2 z hz).1
theorem widthL_quote (l : List UInt8) : widthL (quoteL l) = 2 + widthL (bodyQ l) := by
  show widthL (34 :: (bodyQ l ++ [34])) = _
  have := widthL_34 []
  rw [widthL_nil] at this
  rw [widthL_34, widthL_bodyQ, this]; omega
def ColInv (s : List UInt8) (a : Int × Int) : Prop := 0 ≤ a.1 ∧ a.1 ≤ s.length ∧ 0 ≤ a.2 ∧ a.2 ≤ 2 + 20 * a.1 ∧ widthL (quoteL s) = a.2 + widthL (bodyQ (s.drop a.1.toNat))
set_option maxRecDepth 20000 in
set_option maxHeartbeats 1000000 in
theorem columns_c (s : List UInt8) (c : Int) (h : widthL (quoteL s) = c) (hs : s.length ≤ 4000000000000) (w : World) :
    Calls Try.prog 58 #[S s] w fun e w' => e = .returned (.int .i64 c) ∧ Below w.heap.size w w' := by
  subst h
  refine sy_enter rfl rfl ?_
  simp only [initFr]
  repeat (first | refine sy_k rfl rfl ?_ | (refine gO ?_; refine sy_ov (ov_p rfl) rfl rfl ?_))
  refine sy_loop (α := Int × Int) (fun a => [(0, S s), (3, .int .i64 a.2), (4, .int .i64 a.1)]) (fun a => []) (ColInv s) (fun a => (s.length - a.1).toNat) (0, 2) ?_ ?_ (List.Sublist.refl _) ?_
  · exact ⟨by simp, by simp, by simp, by simp, by simp only; rw [widthL_quote]; rfl⟩
  · exact ⟨⟨_, rfl, rfl⟩, ⟨_, rfl, rfl⟩, ⟨_, rfl, rfl⟩, trivial⟩
  rintro ⟨i, acc⟩ ⟨i1, i2, i3, i4, i5⟩
  simp only at i1 i2 i3 i4 i5
  repeat (first | refine sy_k rfl rfl ?_ | (refine gO ?_; first | refine sy_ov (ov_p rfl) rfl rfl ?_ | (refine gK ?_; refine sy_ov (ov_len rfl) rfl rfl ?_)))
  refine sy_cond rfl (fun h => ?_) (fun h => ?_)
  · simp only [decide_eq_true_eq] at h
    have hne : s.drop i.toNat ≠ [] := by intro e; have := congrArg List.length e; simp at this; omega
    have hb := unitE_bd _ hne
    rw [List.length_drop] at hb
    have hst := bodyQ_step _ hne
    have hwu := widthL_unitE _ (bodyQ ((s.drop i.toNat).drop (unitE (s.drop i.toNat)).2)) hne
    rw [← hst] at hwu
    obtain ⟨o, n, hu⟩ : ∃ o n, unitE (s.drop i.toNat) = (o, n) := ⟨_, _, rfl⟩
    have hua : unitEAt s i = (o, n) := by unfold unitEAt; rw [if_neg (by omega)]; exact hu
    rw [hu, List.drop_drop] at hwu
    rw [hu] at hb
    simp only at hb hwu
    have hwo := widthL_bd _ o (Nat.le_refl _)
    obtain ⟨x, hx⟩ : ∃ x, widthL o = x := ⟨_, rfl⟩
    rw [hx] at hwo hwu
    rw [hwu] at i5
    repeat (first | refine sy_k rfl rfl ?_ | (refine gO ?_; refine sy_ov (ov_p rfl) rfl rfl ?_))
    refine sy_ov (ov_call rfl (fun w _ => unitE_c s i o n hua (by omega) (by omega) (by omega) w)) rfl rfl ?_
    repeat (first | refine sy_k rfl rfl ?_ | (refine gO ?_; refine sy_ov (ov_p rfl) rfl rfl ?_))
    refine sy_ov (ov_call rfl (fun w _ => width_c o x hx (by omega) w)) rfl rfl ?_
    repeat (first | refine sy_k rfl rfl ?_ | (refine gO ?_; first | refine sy_ov (ov_p rfl) rfl rfl ?_ | (refine gB ?_; (refine sy_ov (ov_ar rfl rfl rfl ?_ ?_) rfl rfl ?_; omega; omega))))
    refine sy_back (i + n, acc + x) ?_ ?_ ?_ (List.Sublist.refl _)
    · exact ⟨by omega, by omega, by simp only; omega, by simp only; omega, by rw [i5, show (i + (n : Int)).toNat = i.toNat + n by omega]; simp only; omega⟩
    · show Int.toNat _ < Int.toNat _; omega
    · exact ⟨⟨_, rfl, rfl⟩, ⟨_, rfl, rfl⟩, ⟨_, rfl, rfl⟩, trivial⟩
  · simp only [decide_eq_false_iff_not] at h
    rw [List.drop_of_length_le (by omega), bodyQ_nil, widthL_nil] at i5
    repeat (first | refine sy_k rfl rfl ?_ | (refine gO ?_; refine sy_ov (ov_p rfl) rfl rfl ?_) | refine sy_rt ?_)
    exact ret1 rfl rfl (by rw [i5]; simp)
end Go.Proofs.Yteddjadeenimkaa
