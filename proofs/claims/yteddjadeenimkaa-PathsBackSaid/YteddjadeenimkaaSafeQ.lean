/- Contracts of the package safe and of the references of layers 4 and 6: First, Is, Scrub. -/
import Derived.Test.YteddjadeenimkaaRef4Q
import Derived.Test.YteddjadeenimkaaPlainEsc2Q
set_option linter.unusedVariables false
set_option linter.unusedSimpArgs false
namespace Go.Proofs.Yteddjadeenimkaa
open Go.RowKit Bf
/-- What keeps the unit at the head from a terminal: the error's number. -/
def badS (l : List UInt8) : Int := if (decS l).2.2 = false then 2 else if (decS l).1 ≠ 10 ∧ unsafeB (decS l).1 = true then 3 else 0
theorem unsafe_kind (r : Int) : unsafeB r = true ↔ kindT r ≠ 0 := by unfold unsafeB; simp
set_option maxRecDepth 20000 in
set_option maxHeartbeats 1000000 in
theorem rbad_c (s : List UInt8) (i c : Int) (h : badS (s.drop i.toNat) = c) (h0 : 0 ≤ i) (h1 : i < s.length) (hs : s.length ≤ 4611686018427387000) (w : World) :
    Calls Try.prog 79 #[S s, .int .i64 i] w fun e w' => e = .returned (.int .i64 c) ∧ Below w.heap.size w w' := by
  subst h
  obtain ⟨r, m, ok, hd⟩ := trip (decAt s i)
  have hv := decS_val2 (s.drop i.toNat)
  have hd' := hd
  rw [decAt_in' s i h0 h1] at hd'
  rw [hd'] at hv
  simp only at hv
  have hb : badS (s.drop i.toNat) = if ok = false then 2 else if r ≠ 10 ∧ unsafeB r = true then 3 else 0 := by unfold badS; rw [hd']
  cases ok
  · refine sy_enter rfl rfl ?_
    simp only [initFr]
    repeat (first | refine sy_k rfl rfl ?_ | (refine gO ?_; refine sy_ov (ov_p rfl) rfl rfl ?_))
    refine sy_ov (ov_call rfl (fun w _ => rdecode_c s i r m false hd hs (by omega) (by omega) w)) rfl rfl ?_
    repeat (first | refine sy_k rfl rfl ?_ | (refine gO ?_; refine sy_ov (ov_p rfl) rfl rfl ?_) | (refine sy_cond_t rfl ?_ ?_; focus (first | with_reducible rfl | assumption | omega | (simp <;> first | omega | assumption))) | refine sy_rt ?_)
    exact ret1 rfl rfl (by rw [hb]; rfl)
  · rw [if_neg (by simp)] at hb
    by_cases hr : r = 10
    · refine sy_enter rfl rfl ?_
      simp only [initFr]
      repeat (first | refine sy_k rfl rfl ?_ | (refine gO ?_; refine sy_ov (ov_p rfl) rfl rfl ?_))
      refine sy_ov (ov_call rfl (fun w _ => rdecode_c s i r m true hd hs (by omega) (by omega) w)) rfl rfl ?_
      repeat (first | refine sy_k rfl rfl ?_ | (refine gO ?_; first | refine sy_ov (ov_p rfl) rfl rfl ?_ | (refine gG ?_; (refine sy_guard_no rfl rfl rfl rfl rfl ?_ ?_; focus (first | with_reducible rfl | assumption | omega | (simp <;> first | omega | assumption)))) | refine sy_ov (ov_pick rfl rfl rfl) rfl rfl ?_) | (refine sy_cond_f rfl ?_ ?_; focus (first | with_reducible rfl | assumption | omega | (simp <;> first | omega | assumption))) | refine sy_rt ?_)
      exact ret1 rfl rfl (by rw [hb, if_neg (by simp [hr])])
    · by_cases hk : kindT r = 0
      · refine sy_enter rfl rfl ?_
        simp only [initFr]
        repeat (first | refine sy_k rfl rfl ?_ | (refine gO ?_; refine sy_ov (ov_p rfl) rfl rfl ?_))
        refine sy_ov (ov_call rfl (fun w _ => rdecode_c s i r m true hd hs (by omega) (by omega) w)) rfl rfl ?_
        repeat (first | refine sy_k rfl rfl ?_ | (refine gO ?_; first | refine sy_ov (ov_p rfl) rfl rfl ?_ | (refine gG ?_; (refine sy_guard_yes rfl rfl rfl rfl rfl ?_ ?_; focus (first | with_reducible rfl | assumption | omega | (simp <;> first | omega | assumption))))) | (refine sy_cond_f rfl ?_ ?_; focus (first | with_reducible rfl | assumption | omega | (simp <;> first | omega | assumption))))
        refine sy_ov (ov_call rfl (fun w _ => rkind_c r 0 hk (by omega) w)) rfl rfl ?_
        repeat (first | refine sy_k rfl rfl ?_ | (refine gO ?_; first | refine sy_ov (ov_p rfl) rfl rfl ?_ | (refine gG ?_; (refine sy_guard_yes rfl rfl rfl rfl rfl ?_ ?_; focus (first | with_reducible rfl | assumption | omega | (simp <;> first | omega | assumption)))) | (refine sy_ov (ov_pick_t rfl rfl ?_) rfl rfl ?_; focus (with_reducible rfl))) | (refine sy_cond_f rfl ?_ ?_; focus (first | with_reducible rfl | assumption | omega | (simp <;> first | omega | assumption))) | refine sy_rt ?_)
        exact ret1 rfl rfl (by rw [hb, if_neg (by rw [unsafe_kind]; simp [hk])])
      · refine sy_enter rfl rfl ?_
        simp only [initFr]
        repeat (first | refine sy_k rfl rfl ?_ | (refine gO ?_; refine sy_ov (ov_p rfl) rfl rfl ?_))
        refine sy_ov (ov_call rfl (fun w _ => rdecode_c s i r m true hd hs (by omega) (by omega) w)) rfl rfl ?_
        repeat (first | refine sy_k rfl rfl ?_ | (refine gO ?_; first | refine sy_ov (ov_p rfl) rfl rfl ?_ | (refine gG ?_; (refine sy_guard_yes rfl rfl rfl rfl rfl ?_ ?_; focus (first | with_reducible rfl | assumption | omega | (simp <;> first | omega | assumption))))) | (refine sy_cond_f rfl ?_ ?_; focus (first | with_reducible rfl | assumption | omega | (simp <;> first | omega | assumption))))
        refine sy_ov (ov_call rfl (fun w _ => rkind_c r _ rfl (by omega) w)) rfl rfl ?_
        repeat (first | refine sy_k rfl rfl ?_ | (refine gO ?_; first | refine sy_ov (ov_p rfl) rfl rfl ?_ | (refine gG ?_; (refine sy_guard_yes rfl rfl rfl rfl rfl ?_ ?_; focus (first | with_reducible rfl | assumption | omega | (simp <;> first | omega | assumption)))) | (refine sy_ov (ov_pick_t rfl rfl ?_) rfl rfl ?_; focus (with_reducible rfl))) | (refine sy_cond_t rfl ?_ ?_; focus (first | with_reducible rfl | assumption | omega | (simp <;> first | omega | assumption))) | refine sy_rt ?_)
        exact ret1 rfl rfl (by rw [hb, if_pos ⟨hr, (unsafe_kind r).2 hk⟩])
/-- The first place of what may not reach a terminal. -/
def firstL (l : List UInt8) : Nat := if h : l = [] then 0 else if badS l = 0 then (decS l).2.1 + firstL (l.drop (decS l).2.1) else 0
termination_by l.length
decreasing_by exact decS_drop_lt l h
theorem firstL_nil : firstL [] = 0 := by rw [firstL, dif_pos rfl]
theorem firstL_ok (l : List UInt8) (h : l ≠ []) (hb : badS l = 0) : firstL l = (decS l).2.1 + firstL (l.drop (decS l).2.1) := by rw [firstL, dif_neg h, if_pos hb]
theorem firstL_bad (l : List UInt8) (hb : badS l ≠ 0) : firstL l = 0 := by
  rw [firstL, if_neg hb]; split <;> rfl
theorem drop_ne' (s : List UInt8) (i : Int) (h0 : 0 ≤ i) (h1 : i < s.length) : s.drop i.toNat ≠ [] := by intro e; have := congrArg List.length e; simp at this; omega
structure FirstInv (s : List UInt8) (i : Int) : Prop where
  i0 : 0 ≤ i
  i1 : i ≤ s.length
  first : (firstL s : Int) = i + firstL (s.drop i.toNat)
theorem FirstInv.step {s : List UInt8} {i : Int} (h : FirstInv s i) (hlt : i < s.length) (hb : badS (s.drop i.toNat) = 0) {r : Int} {n : Nat} {ok : Bool} (hd : decS (s.drop i.toNat) = (r, n, ok)) : FirstInv s (i + n) ∧ 1 ≤ n := by
  have hne := drop_ne' s i h.i0 hlt
  have hl := decS_len (s.drop i.toNat)
  have hf := firstL_ok _ hne hb
  rw [hd, List.length_drop] at hl
  rw [hd, List.drop_drop] at hf
  have h1 := hl.2.1 hne
  have h0 := h.i0
  have hfi := h.first
  simp only at hl h1 hf
  exact ⟨⟨by omega, by omega, by rw [hfi, hf, show (i + (n : Int)).toNat = i.toNat + n by omega]; omega⟩, h1⟩
set_option maxRecDepth 20000 in
set_option maxHeartbeats 1000000 in
theorem rfirst_c (s : List UInt8) (n : Nat) (h : firstL s = n) (hs : s.length ≤ 4611686018427387000) (w : World) :
    Calls Try.prog 25 #[S s] w fun e w' => e = .returned (.int .i64 (n : Int)) ∧ Below w.heap.size w w' := by
  subst h
  refine sy_enter rfl rfl ?_
  simp only [initFr]
  repeat (first | refine sy_k rfl rfl ?_ | (refine gO ?_; refine sy_ov (ov_p rfl) rfl rfl ?_))
  refine sy_loop (α := Int) (fun i => [(0, S s), (3, .int .i64 i)]) (fun _ => []) (FirstInv s) (fun i => (s.length - i).toNat) 0 ⟨by omega, by omega, by simp⟩ ⟨⟨_, rfl, rfl⟩, ⟨_, rfl, rfl⟩, trivial⟩ (List.nil_sublist _) ?_
  intro i hi
  have i0 := hi.i0
  have i1 := hi.i1
  have i2 := hi.first
  by_cases hlt : i < s.length
  · by_cases hb : badS (s.drop i.toNat) = 0
    · obtain ⟨r, n, ok, hd⟩ := trip (decS (s.drop i.toNat))
      obtain ⟨hst, hn⟩ := hi.step hlt hb hd
      have hok : ok = true := by
        cases ok
        · unfold badS at hb; rw [hd] at hb; simp at hb
        · rfl
      subst hok
      have hu : unitAt s i = (runeC r, n) := by unfold unitAt; rw [if_neg (by omega)]; exact unitS_ok _ r n (drop_ne' s i i0 hlt) hd
      repeat (first | refine sy_k rfl rfl ?_ | (refine gO ?_; first | refine sy_ov (ov_p rfl) rfl rfl ?_ | (refine gG ?_; (refine sy_guard_yes rfl rfl rfl rfl rfl ?_ ?_; focus (first | with_reducible rfl | assumption | omega | (simp <;> first | omega | assumption)))) | (refine gK ?_; refine sy_ov (ov_len rfl) rfl rfl ?_)))
      refine sy_ov (ov_call rfl (fun w _ => rbad_c s i 0 hb i0 hlt hs w)) rfl rfl ?_
      repeat (first | refine sy_k rfl rfl ?_ | (refine gO ?_; first | refine sy_ov (ov_p rfl) rfl rfl ?_ | (refine gG ?_; (refine sy_guard_yes rfl rfl rfl rfl rfl ?_ ?_; focus (first | with_reducible rfl | assumption | omega | (simp <;> first | omega | assumption)))) | (refine sy_ov (ov_pick_t rfl rfl ?_) rfl rfl ?_; focus (with_reducible rfl))) | (refine sy_cond_t rfl ?_ ?_; focus (first | with_reducible rfl | assumption | omega | (simp <;> first | omega | assumption))))
      refine sy_ov (ov_call rfl (fun w _ => runit4_c s i _ n hu i0 hlt hs w)) rfl rfl ?_
      repeat (first | refine sy_k rfl rfl ?_ | (refine gO ?_; refine sy_ov (ov_p rfl) rfl rfl ?_))
      have := hst.i1
      repeat (first | refine sy_k rfl rfl ?_ | (refine gO ?_; first | refine sy_ov (ov_p rfl) rfl rfl ?_ | (refine gB ?_; (refine sy_ov (ov_ar rfl rfl rfl ?_ ?_) rfl rfl ?_; omega; omega))))
      refine sy_back (i + n) hst (by omega) ⟨⟨_, rfl, rfl⟩, ⟨_, rfl, rfl⟩, trivial⟩ (List.nil_sublist _)
    · rw [firstL_bad _ hb] at i2
      repeat (first | refine sy_k rfl rfl ?_ | (refine gO ?_; first | refine sy_ov (ov_p rfl) rfl rfl ?_ | (refine gG ?_; (refine sy_guard_yes rfl rfl rfl rfl rfl ?_ ?_; focus (first | with_reducible rfl | assumption | omega | (simp <;> first | omega | assumption)))) | (refine gK ?_; refine sy_ov (ov_len rfl) rfl rfl ?_)))
      refine sy_ov (ov_call rfl (fun w _ => rbad_c s i _ rfl i0 hlt hs w)) rfl rfl ?_
      repeat (first | refine sy_k rfl rfl ?_ | (refine gO ?_; first | refine sy_ov (ov_p rfl) rfl rfl ?_ | (refine gG ?_; (refine sy_guard_yes rfl rfl rfl rfl rfl ?_ ?_; focus (first | with_reducible rfl | assumption | omega | (simp <;> first | omega | assumption)))) | (refine sy_ov (ov_pick_t rfl rfl ?_) rfl rfl ?_; focus (with_reducible rfl))) | (refine sy_cond_f rfl ?_ ?_; focus (first | with_reducible rfl | assumption | omega | (simp <;> first | omega | assumption))) | refine sy_rt ?_)
      exact ret1 rfl rfl (by rw [i2]; simp)
  · rw [List.drop_of_length_le (by omega), firstL_nil] at i2
    repeat (first | refine sy_k rfl rfl ?_ | (refine gO ?_; first | refine sy_ov (ov_p rfl) rfl rfl ?_ | (refine gG ?_; (refine sy_guard_no rfl rfl rfl rfl rfl ?_ ?_; focus (first | with_reducible rfl | assumption | omega | (simp <;> first | omega | assumption)))) | (refine gK ?_; refine sy_ov (ov_len rfl) rfl rfl ?_) | refine sy_ov (ov_pick rfl rfl rfl) rfl rfl ?_) | (refine sy_cond_f rfl ?_ ?_; focus (first | with_reducible rfl | assumption | omega | (simp <;> first | omega | assumption))) | refine sy_rt ?_)
    exact ret1 rfl rfl (by rw [i2]; simp)
set_option maxRecDepth 20000 in
set_option maxHeartbeats 1000000 in
theorem first_c (s : List UInt8) (n : Nat) (h : firstL s = n) (hs : s.length ≤ 4611686018427387000) (w : World) :
    Calls Try.prog 26 #[S s] w fun e w' => e = .returned (.int .i64 (n : Int)) ∧ Below w.heap.size w w' := by
  subst h
  refine sy_enter rfl rfl ?_
  simp only [initFr]
  repeat (first | refine sy_k rfl rfl ?_ | (refine gO ?_; refine sy_ov (ov_p rfl) rfl rfl ?_))
  refine sy_loop (α := Int) (fun i => [(0, S s), (3, .int .i64 i)]) (fun _ => []) (FirstInv s) (fun i => (s.length - i).toNat) 0 ⟨by omega, by omega, by simp⟩ ⟨⟨_, rfl, rfl⟩, ⟨_, rfl, rfl⟩, trivial⟩ (List.nil_sublist _) ?_
  intro i hi
  have i0 := hi.i0
  have i1 := hi.i1
  have i2 := hi.first
  by_cases hlt : i < s.length
  · obtain ⟨r, n, ok, hd⟩ := trip (decS (s.drop i.toNat))
    have hda : decAt s i = (r, n, ok) := by rw [decAt_in' s i i0 hlt]; exact hd
    have hv := decS_val2 (s.drop i.toNat)
    rw [hd] at hv
    simp only at hv
    have hb : badS (s.drop i.toNat) = if ok = false then 2 else if r ≠ 10 ∧ unsafeB r = true then 3 else 0 := by unfold badS; rw [hd]
    repeat (first | refine sy_k rfl rfl ?_ | (refine gO ?_; first | refine sy_ov (ov_p rfl) rfl rfl ?_ | (refine gK ?_; refine sy_ov (ov_len rfl) rfl rfl ?_)) | (refine sy_cond_t rfl ?_ ?_; focus (first | with_reducible rfl | assumption | omega | (simp <;> first | omega | assumption))))
    refine sy_ov (ov_call rfl (fun w _ => decode_c s i r n ok hda hs (by omega) (by omega) w)) rfl rfl ?_
    cases ok
    · rw [firstL_bad (s.drop i.toNat) (by rw [hb]; simp)] at i2
      repeat (first | refine sy_k rfl rfl ?_ | (refine gO ?_; first | refine sy_ov (ov_p rfl) rfl rfl ?_ | (refine gG ?_; first | refine sy_guard_undef rfl rfl rfl rfl rfl ?_ | (refine sy_guard_no rfl rfl rfl rfl rfl ?_ ?_; focus (first | with_reducible rfl | assumption | omega | (simp <;> first | omega | assumption)))) | refine sy_ov (ov_pick rfl rfl rfl) rfl rfl ?_) | (refine sy_cond_t rfl ?_ ?_; focus (first | with_reducible rfl | assumption | omega | (simp <;> first | omega | assumption))) | refine sy_rt ?_)
      exact ret1 rfl rfl (by rw [i2]; simp)
    · rw [if_neg (by simp)] at hb
      by_cases hr : r = 10
      · rw [if_neg (by simp [hr])] at hb
        obtain ⟨hst, hn⟩ := hi.step hlt hb hd
        have := hst.i1
        repeat (first | refine sy_k rfl rfl ?_ | (refine gO ?_; first | refine sy_ov (ov_p rfl) rfl rfl ?_ | (refine gG ?_; first | (refine sy_guard_yes rfl rfl rfl rfl rfl ?_ ?_; focus (first | with_reducible rfl | assumption | omega | (simp <;> first | omega | assumption))) | (refine sy_guard_no rfl rfl rfl rfl rfl ?_ ?_; focus (first | with_reducible rfl | assumption | omega | (simp <;> first | omega | assumption)))) | (refine gB ?_; (refine sy_ov (ov_ar rfl rfl rfl ?_ ?_) rfl rfl ?_; omega; omega)) | (refine sy_ov (ov_pick_f rfl rfl ?_) rfl rfl ?_; focus (with_reducible rfl)) | refine sy_ov (ov_pick rfl rfl rfl) rfl rfl ?_) | (refine sy_cond_f rfl ?_ ?_; focus (first | with_reducible rfl | assumption | omega | (simp <;> first | omega | assumption))))
        refine sy_back (i + n) hst (by omega) ⟨⟨_, rfl, rfl⟩, ⟨_, rfl, rfl⟩, trivial⟩ (List.nil_sublist _)
      · obtain ⟨u, hu⟩ : ∃ u, unsafeB r = u := ⟨_, rfl⟩
        cases u
        · rw [if_neg (by simp [hu])] at hb
          obtain ⟨hst, hn⟩ := hi.step hlt hb hd
          have := hst.i1
          repeat (first | refine sy_k rfl rfl ?_ | (refine gO ?_; first | refine sy_ov (ov_p rfl) rfl rfl ?_ | (refine gG ?_; (refine sy_guard_yes rfl rfl rfl rfl rfl ?_ ?_; focus (first | with_reducible rfl | assumption | omega | (simp <;> first | omega | assumption))))))
          refine sy_ov (ov_call rfl (fun w _ => isUnsafe_c r false hu (by omega) w)) rfl rfl ?_
          repeat (first | refine sy_k rfl rfl ?_ | (refine gO ?_; first | refine sy_ov (ov_p rfl) rfl rfl ?_ | (refine gG ?_; (refine sy_guard_yes rfl rfl rfl rfl rfl ?_ ?_; focus (first | with_reducible rfl | assumption | omega | (simp <;> first | omega | assumption)))) | (refine gB ?_; (refine sy_ov (ov_ar rfl rfl rfl ?_ ?_) rfl rfl ?_; omega; omega)) | (refine sy_ov (ov_pick_t rfl rfl ?_) rfl rfl ?_; focus (with_reducible rfl)) | (refine sy_ov (ov_pick_f rfl rfl ?_) rfl rfl ?_; focus (with_reducible rfl))) | (refine sy_cond_f rfl ?_ ?_; focus (first | with_reducible rfl | assumption | omega | (simp <;> first | omega | assumption))))
          refine sy_back (i + n) hst (by omega) ⟨⟨_, rfl, rfl⟩, ⟨_, rfl, rfl⟩, trivial⟩ (List.nil_sublist _)
        · rw [if_pos ⟨hr, hu⟩] at hb
          rw [firstL_bad (s.drop i.toNat) (by rw [hb]; decide)] at i2
          repeat (first | refine sy_k rfl rfl ?_ | (refine gO ?_; first | refine sy_ov (ov_p rfl) rfl rfl ?_ | (refine gG ?_; (refine sy_guard_yes rfl rfl rfl rfl rfl ?_ ?_; focus (first | with_reducible rfl | assumption | omega | (simp <;> first | omega | assumption))))))
          refine sy_ov (ov_call rfl (fun w _ => isUnsafe_c r true hu (by omega) w)) rfl rfl ?_
          repeat (first | refine sy_k rfl rfl ?_ | (refine gO ?_; first | refine sy_ov (ov_p rfl) rfl rfl ?_ | (refine gG ?_; (refine sy_guard_yes rfl rfl rfl rfl rfl ?_ ?_; focus (first | with_reducible rfl | assumption | omega | (simp <;> first | omega | assumption)))) | (refine sy_ov (ov_pick_t rfl rfl ?_) rfl rfl ?_; focus (with_reducible rfl)) | (refine sy_ov (ov_pick_f rfl rfl ?_) rfl rfl ?_; focus (with_reducible rfl))) | (refine sy_cond_t rfl ?_ ?_; focus (first | with_reducible rfl | assumption | omega | (simp <;> first | omega | assumption))) | refine sy_rt ?_)
          exact ret1 rfl rfl (by rw [i2]; simp)
  · rw [List.drop_of_length_le (by omega), firstL_nil] at i2
    have : i = s.length := by omega
    repeat (first | refine sy_k rfl rfl ?_ | (refine gO ?_; first | refine sy_ov (ov_p rfl) rfl rfl ?_ | (refine gK ?_; refine sy_ov (ov_len rfl) rfl rfl ?_)) | (refine sy_cond_f rfl ?_ ?_; focus (first | with_reducible rfl | assumption | omega | (simp <;> first | omega | assumption))) | refine sy_rt ?_)
    exact ret1 rfl rfl (by rw [i2, this]; simp)
set_option maxRecDepth 20000 in
theorem is_c (s : List UInt8) (n : Nat) (h : firstL s = n) (hs : s.length ≤ 4611686018427387000) (w : World) :
    Calls Try.prog 27 #[S s] w fun e w' => e = .returned (.bool (decide ((n : Int) = s.length))) ∧ Below w.heap.size w w' := by
  refine sy_enter rfl rfl ?_
  simp only [initFr]
  repeat (first | refine sy_k rfl rfl ?_ | (refine gO ?_; refine sy_ov (ov_p rfl) rfl rfl ?_))
  refine sy_ov (ov_call rfl (fun w _ => first_c s n h hs w)) rfl rfl ?_
  repeat (first | refine sy_k rfl rfl ?_ | (refine gO ?_; first | refine sy_ov (ov_p rfl) rfl rfl ?_ | (refine gK ?_; refine sy_ov (ov_len rfl) rfl rfl ?_)) | refine sy_rt ?_)
  exact ret1 rfl rfl rfl
end Go.Proofs.Yteddjadeenimkaa
