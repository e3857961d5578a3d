/- Plain: the steps that a text gives are within bounds; how long a path's text is. -/
import Derived.Test.YteddjadeenimkaaPaths3Q
set_option linter.unusedVariables false
set_option linter.unusedSimpArgs false
namespace Go.Proofs.Yteddjadeenimkaa
open Go.RowKit Bf
theorem takeS_i64 (l : List UInt8) (a : Int) : -9223372036854775808 ≤ (takeS l a).1 ∧ (takeS l a).1 ≤ 9223372036854775807 := takeS_bd l a
theorem stepL_StepOk (l : List UInt8) {x : StepT} {n p : Int} (h : stepL l = (x, n, 0, p)) : StepOk x := by
  have hb := stepL_good l x n p h
  unfold StepOk
  cases l with
  | nil => cases h
  | cons c r =>
    rw [stepL_cons] at h
    have nm : ∀ k, (k = 1 ∨ k = 5) → namedL k r = (x, n, 0, p) → (-9223372036854775808 ≤ x.1 ∧ x.1 ≤ 9223372036854775807) ∧ (-9223372036854775808 ≤ x.2.1 ∧ x.2.1 ≤ 9223372036854775807) ∧ x.2.2.length ≤ maxLen := fun k hk h => by
      unfold namedL at h
      split at h
      · rename_i hn
        simp only [Prod.mk.injEq] at h
        obtain ⟨rfl, _⟩ := h
        unfold namB at hn
        simp only [Bool.and_eq_true, decide_eq_true_eq] at hn
        refine ⟨by simp only; omega, by simp, ?_⟩
        unfold maxLen; simp only; omega
      · simp at h
    split at h
    · exact nm 1 (.inl rfl) h
    · split at h
      · exact nm 5 (.inr rfl) h
      · split at h
        · unfold itemL at h
          split at h
          · simp only [Prod.mk.injEq] at h; obtain ⟨rfl, _⟩ := h; exact ⟨by simp, by simp, by simp⟩
          · split at h
            · rename_i hne
              simp only [Prod.mk.injEq] at h
              exact absurd h.2.2.1 hne
            · split at h
              · simp at h
              · split at h
                · simp only [Prod.mk.injEq] at h; obtain ⟨rfl, _⟩ := h
                  exact ⟨by simp, takeS_i64 r 0, by simp⟩
                · simp at h
        · split at h
          · simp only [Prod.mk.injEq] at h; obtain ⟨rfl, _⟩ := h; exact ⟨by simp, by simp, by simp⟩
          · simp at h
theorem pathL_StepOk : ∀ (m : Nat) (s : List UInt8) (k : Nat), s.length ≤ m → ∀ x ∈ (pathL k s).1, StepOk x := by
  intro m
  induction m with
  | zero =>
    intro s k h x hx
    have : s = [] := List.length_eq_zero_iff.1 (by omega)
    subst this
    rw [pathL_nil] at hx; cases hx
  | succ m ih =>
    intro s k h x hx
    by_cases h0 : s = []
    · subst h0; rw [pathL_nil] at hx; cases hx
    · by_cases hk : k = 64
      · subst hk; rw [pathL_many s h0] at hx; cases hx
      · rcases hs : stepL s with ⟨y, n, e, p⟩
        by_cases he : e = 0
        · subst he
          have hg := stepL_good s y n p hs
          rw [pathL, dif_neg h0, if_neg hk, dif_pos (by rw [hs]), hs] at hx
          simp only at hx
          split at hx
          · rcases List.mem_cons.1 hx with rfl | hx
            · exact stepL_StepOk s hs
            · exact ih (s.drop n.toNat) (k + 1) (by rw [List.length_drop]; omega) x hx
          · cases hx
        · rw [pathL_bad k s h0 hk hs he] at hx; cases hx
theorem fmtL_len : ∀ (l : List StepT), (∀ x ∈ l, stepB x = true) → (∀ x ∈ l, StepOk x) → (fmtL l).length ≤ 40 * l.length
  | [], _, _ => by simp [fmtL]
  | (k, n, s) :: l, hb, ho => by
    have h1 := fmtL_len l (fun x hx => hb x (List.mem_cons_of_mem _ hx)) (fun x hx => ho x (List.mem_cons_of_mem _ hx))
    have hx := hb _ (List.mem_cons_self (l := l))
    have hs : s.length ≤ 32 := by
      unfold stepB at hx
      simp only at hx
      split at hx
      · simp only [Bool.and_eq_true] at hx
        have := hx.2; unfold namB at this
        simp only [Bool.and_eq_true, decide_eq_true_eq] at this; omega
      · split at hx
        · simp only [Bool.and_eq_true, decide_eq_true_eq] at hx; rw [hx.2]; simp
        · split at hx
          · simp only [Bool.and_eq_true, decide_eq_true_eq] at hx; rw [hx.2]; simp
          · cases hx
    have h2 := stepX_len k n s (ho _ (List.mem_cons_self (l := l))).2.1 hs
    have e : fmtL ((k, n, s) :: l) = stepX (k, n, s) ++ fmtL l := rfl
    rw [e, List.length_append, List.length_cons]; omega
theorem pathB_iff (l : List StepT) : pathB l = true ↔ l.length ≤ 64 ∧ ∀ x ∈ l, stepB x = true := by
  unfold pathB; simp
/-- A path is read from its text. -/
theorem path_back {l : List StepT} (h : pathB l = true) (ho : ∀ x ∈ l, StepOk x) : pathL 0 (fmtL l) = (l, 0, 0) ∧ (fmtL l).length ≤ 2560 := by
  obtain ⟨h1, h2⟩ := (pathB_iff l).1 h
  refine ⟨pathL_fmt l 0 (by omega) (fun x hx => ⟨h2 x hx, (ho x hx).2.1.2⟩), ?_⟩
  have := fmtL_len l h2 ho; omega
/-- A text that is a path's is that path's. -/
theorem back_path {s : List UInt8} {l : List StepT} {a : Int} (h : pathL 0 s = (l, 0, a)) : a = 0 ∧ pathB l = true ∧ fmtL l = s ∧ (∀ x ∈ l, StepOk x) := by
  have h1 := fmt_pathL _ s 0 l a (Nat.le_refl _) (by omega) h
  have h2 := pathL_clean 0 s (by rw [h])
  rw [h] at h2
  refine ⟨h2, (pathB_iff l).2 ⟨by omega, h1.2.1⟩, h1.2.2, ?_⟩
  have := pathL_StepOk _ s 0 (Nat.le_refl _)
  rw [h] at this; exact this
end Go.Proofs.Yteddjadeenimkaa
