/- BRF: texts of this proof, joined by program: Ref3, Ref4. -/
import Derived.Test.YtkaeihlpdceokaaEscQ
import Derived.Test.YtkaeihlpdceokaaBUB
import Derived.Test.YtkaeihlpdceokaaBPL
/- Contracts of the references of layers 2 to 4: Has, Kind, Size, Unit; the reference's Decode over lists. -/
set_option linter.unusedVariables false
set_option linter.unusedSimpArgs false
namespace Go.Proofs.Ytkaeihlpdceokaa
open Go.RowKit Bf
theorem rdecode_c (s : List UInt8) (i r : Int) (n : Nat) (b : Bool) (h : decAt s i = (r, n, b)) (hs : s.length ≤ 4611686018427387000) (h1 : -9223372036854775808 ≤ i) (h2 : i ≤ 9223372036854775807) (w : World) :
 Calls Try.prog 20 #[S s, .int .i64 i] w fun e w' => e = .returned (.tuple #[.int .i32 r, .int .i64 (n : Int), .bool b]) ∧ Below w.heap.size w w' :=
 rdecode_at ⟨⟨s⟩⟩ i r n b w (by show s.length ≤ maxLen; unfold maxLen; omega) ⟨h1, h2⟩ h
set_option maxRecDepth 200000 in
set_option maxHeartbeats 4000000 in
theorem rwide_any (w : World) : Calls Try.prog 37 #[] w fun e w' => e = .returned (.slice (some ⟨w.heap.size, 0, none⟩) 116 116) ∧ w.alloc (.cells (spans wideT).toArray 71) = w' := by
 exact calls_run (fuel := 20) (n := 1) (by kernel_rfl)
set_option maxRecDepth 200000 in
set_option maxHeartbeats 4000000 in
theorem rzero_any (w : World) : Calls Try.prog 38 #[] w fun e w' => e = .returned (.slice (some ⟨w.heap.size, 0, none⟩) 82 82) ∧ w.alloc (.cells (spans zeroT).toArray 71) = w' := by
 exact calls_run (fuel := 20) (n := 1) (by kernel_rfl)
theorem rtab_c {f : FuncId} {T : List (Int × Int)} {n : Nat} (h : ∀ w, Calls Try.prog f #[] w fun e w' => e = .returned (.slice (some ⟨w.heap.size, 0, none⟩) n n) ∧ w.alloc (.cells (spans T).toArray 71) = w') (w : World) :
 Calls Try.prog f ([] : List Value).toArray w fun x w' => ∃ v e', (∃ b, v = .slice (some ⟨b, 0, none⟩) n n ∧ e' = blk b 71 (spans T)) ∧ x = .returned v ∧ e'.holds w' ∧ Below w.heap.size w w' ∧ ∀ b, e'.dom b → w.heap.size ≤ b ∧ b < w'.heap.size :=
 (h w).mono fun e w' ⟨he, hw⟩ => by
   subst hw
   refine ⟨_, _, ⟨_, rfl, rfl⟩, he, ?_, (Below.refl _ _).alloc (Nat.le_refl _) _, ?_⟩
   · show (w.heap.push _)[w.heap.size]? = _; simp
   · rintro b rfl; show _ ∧ _ < (w.heap.push _).size; simp
def tabOk (T : List (Int × Int)) : Bool := T.all fun p => decide (0 ≤ p.1) && decide (p.2 ≤ 1114111)
theorem tabOk_get {T : List (Int × Int)} (h : tabOk T = true) (i : Nat) (hi : i < T.length) : 0 ≤ T[i].1 ∧ T[i].2 ≤ 1114111 := by
 have := List.all_eq_true.1 h T[i] (List.getElem_mem hi)
 simpa using this
theorem hasT_none {T : List (Int × Int)} {r : Int} (h : ∀ (i : Nat) (hi : i < T.length), ¬ (T[i].1 ≤ r ∧ r ≤ T[i].2)) : hasT T r = false :=
 hasT_no (lo := 0) (hi := 0) (fun i hi _ => h i hi) (Nat.le_refl _)
set_option maxRecDepth 20000 in
set_option maxHeartbeats 1000000 in
theorem has_w (T : List (Int × Int)) (n b : Nat) (r : Int) (ok : Bool) (ht : tabOk T = true) (hl : T.length = n) (hn : n ≤ 100000) (hr : -2147483648 ≤ r ∧ r ≤ 2147483647) (h : hasT T r = ok) :
 Works Try.prog 36 [.slice (some ⟨b, 0, none⟩) n n, .int .i32 r] (blk b 71 (spans T)) (fun v e' => v = .bool ok ∧ e' = blk b 71 (spans T)) := by
 intro w he hd
 subst hl
 refine sy_enter1 rfl rfl he hd ?_
 simp only [initFr]
 repeat (first | refine yK ?_ | (refine gO ?_; refine yP ?_))
 refine sy_loop (α := Int) (fun i => [(0, .slice (some ⟨b, 0, none⟩) T.length T.length), (1, .int .i32 r), (5, .int .i64 i)]) (fun _ => [blk b 71 (spans T)]) (fun i => 0 ≤ i ∧ i ≤ T.length ∧ ∀ (j : Nat) (hj : j < T.length), (j : Int) < i → ¬ (T[j].1 ≤ r ∧ r ≤ T[j].2)) (fun i => (T.length - i).toNat) 0 ⟨by omega, by omega, fun j hj hj' => by omega⟩ ⟨⟨_, rfl, rfl⟩, ⟨_, rfl, rfl⟩, ⟨_, rfl, rfl⟩, trivial⟩ (List.Sublist.refl _) ?_
 rintro i ⟨i0, i1, i2⟩
 repeat (first | refine yK ?_ | (refine gO ?_; first | refine yP ?_ | (refine gK ?_; refine sy_ov (ov_lens rfl) rfl rfl ?_)))
 refine sy_cond rfl (fun hc => ?_) (fun hc => ?_)
 · simp only [decide_eq_true_eq] at hc
   have hi : i.toNat < T.length := by omega
   have hg := spans_get T i.toNat hi
   have hto := tabOk_get ht i.toNat hi
   have e0 : (spans T)[0 + i.toNat * 2 + 0]? = some (.int .i32 T[i.toNat].1) := by rw [show 0 + i.toNat * 2 + 0 = 2 * i.toNat by omega]; exact hg.1
   have e1 : (spans T)[0 + i.toNat * 2 + 1]? = some (.int .i32 T[i.toNat].2) := by rw [show 0 + i.toNat * 2 + 1 = 2 * i.toNat + 1 by omega]; exact hg.2
   have next : ¬ (T[i.toNat].1 ≤ r ∧ r ≤ T[i.toNat].2) → ∀ (j : Nat) (hj : j < T.length), (j : Int) < i + 1 → ¬ (T[j].1 ≤ r ∧ r ≤ T[j].2) := fun hno j hj hj' => by
    by_cases e : j = i.toNat
    · subst e; exact hno
    · exact i2 j hj (by omega)
   repeat (first | refine yK ?_ | (refine gO ?_; refine yP ?_))
   by_cases q0 : 0 ≤ r ∧ r ≤ 1114111
   · obtain ⟨q1, q2⟩ := q0
     repeat ((refine gO ?_; first | refine yP ?_ | (refine gG ?_; refine yG ?_) | refine yM ?_ | refine yF ?_ | (refine sy_ov (ov_indexAddr rfl rfl ?_ ?_) rfl rfl ?_; omega; omega)))
     refine sy_ov (ov_load 0 rfl rfl rfl e0) rfl rfl ?_
     repeat ((refine gO ?_; first | refine yP ?_ | (refine gG ?_; refine yG ?_) | refine yM ?_))
     by_cases q3 : T[i.toNat].1 ≤ r
     · repeat ((refine gO ?_; first | refine yP ?_ | (refine gG ?_; refine yG ?_) | refine yF ?_ | (refine sy_ov (ov_indexAddr rfl rfl ?_ ?_) rfl rfl ?_; omega; omega)))
       refine sy_ov (ov_load 0 rfl rfl rfl e1) rfl rfl ?_
       repeat (first | refine yK ?_ | (refine gO ?_; first | refine yP ?_ | (refine gG ?_; refine yG ?_) | refine yM ?_))
       by_cases q4 : r ≤ T[i.toNat].2
       · repeat (first | refine yK ?_ | (refine gO ?_; refine yP ?_) | refine yT ?_ | refine sy_rt ?_)
         exact ret1w rfl rfl fun w' hw' => ⟨_, _, ⟨by rw [← h, hasT_yes hi q3 q4], rfl⟩, rfl, (hw'.get (i := 0) rfl).1, hw'.keep, fun k hk => ⟨((hw'.get (i := 0) rfl).2 k hk).2, ((hw'.get (i := 0) rfl).2 k hk).1⟩⟩
       · repeat (first | refine yK ?_ | (refine gO ?_; first | refine yP ?_ | (refine gB ?_; (refine sy_ov (ov_ar rfl rfl rfl ?_ ?_) rfl rfl ?_; omega; omega))) | refine yN ?_)
         refine sy_back (i + 1) ⟨by omega, by omega, next (fun hh => q4 hh.2)⟩ (by omega) ⟨⟨_, rfl, rfl⟩, ⟨_, rfl, rfl⟩, ⟨_, rfl, rfl⟩, trivial⟩ (List.Sublist.refl _)
     · repeat (first | refine yK ?_ | (refine gO ?_; first | refine yP ?_ | (refine gG ?_; refine yH ?_) | (refine gB ?_; (refine sy_ov (ov_ar rfl rfl rfl ?_ ?_) rfl rfl ?_; omega; omega)) | refine sy_ov (ov_pick rfl rfl rfl) rfl rfl ?_) | refine yN ?_)
       refine sy_back (i + 1) ⟨by omega, by omega, next (fun hh => q3 hh.1)⟩ (by omega) ⟨⟨_, rfl, rfl⟩, ⟨_, rfl, rfl⟩, ⟨_, rfl, rfl⟩, trivial⟩ (List.Sublist.refl _)
   · have hno : ¬ (T[i.toNat].1 ≤ r ∧ r ≤ T[i.toNat].2) := by omega
     by_cases q1 : 0 ≤ r
     · have q2 : ¬ r ≤ 1114111 := by omega
       repeat (first | refine yK ?_ | (refine gO ?_; first | refine yP ?_ | (refine gG ?_; first | refine yG ?_ | refine yH ?_) | (refine gB ?_; (refine sy_ov (ov_ar rfl rfl rfl ?_ ?_) rfl rfl ?_; omega; omega)) | refine yM ?_ | refine sy_ov (ov_pick rfl rfl rfl) rfl rfl ?_) | refine yN ?_)
       refine sy_back (i + 1) ⟨by omega, by omega, next hno⟩ (by omega) ⟨⟨_, rfl, rfl⟩, ⟨_, rfl, rfl⟩, ⟨_, rfl, rfl⟩, trivial⟩ (List.Sublist.refl _)
     · repeat (first | refine yK ?_ | (refine gO ?_; first | refine yP ?_ | (refine gG ?_; refine yH ?_) | (refine gB ?_; (refine sy_ov (ov_ar rfl rfl rfl ?_ ?_) rfl rfl ?_; omega; omega)) | refine sy_ov (ov_pick rfl rfl rfl) rfl rfl ?_) | refine yN ?_)
       refine sy_back (i + 1) ⟨by omega, by omega, next hno⟩ (by omega) ⟨⟨_, rfl, rfl⟩, ⟨_, rfl, rfl⟩, ⟨_, rfl, rfl⟩, trivial⟩ (List.Sublist.refl _)
 · simp only [decide_eq_false_iff_not] at hc
   repeat (first | refine yK ?_ | (refine gO ?_; refine yP ?_) | refine sy_rt ?_)
   exact ret1w rfl rfl fun w' hw' => ⟨_, _, ⟨by rw [← h, hasT_none fun j hj => i2 j hj (by omega)], rfl⟩, rfl, (hw'.get (i := 0) rfl).1, hw'.keep, fun k hk => ⟨((hw'.get (i := 0) rfl).2 k hk).2, ((hw'.get (i := 0) rfl).2 k hk).1⟩⟩
set_option maxRecDepth 20000 in
set_option maxHeartbeats 1000000 in
theorem size_c (r c : Int) (h : runeC r = c) (hr : -2147483648 ≤ r ∧ r ≤ 2147483647) (w : World) : Calls Try.prog 30 #[.int .i32 r] w fun e w' => e = .returned (.int .i64 c) ∧ Below w.heap.size w w' := by
 subst h
 obtain ⟨x, hx⟩ : ∃ x, hasT wideT r = x := ⟨_, rfl⟩
 obtain ⟨y, hy⟩ : ∃ y, hasT zeroT r = y := ⟨_, rfl⟩
 have hk : runeC r = if x then 2 else if y then 0 else 1 := by unfold runeC; rw [hx, hy]
 refine sy_enter rfl rfl ?_
 simp only [initFr]
 repeat (first | refine yK ?_ | (refine gO ?_; refine yP ?_))
 refine sy_calln rfl rfl (fun w _ => rtab_c rwide_any w) ?_
 rintro v e' ⟨b1, rfl, rfl⟩
 repeat ((refine gO ?_; refine yP ?_))
 refine sy_works 0 rfl rfl rfl (has_w wideT 116 b1 r x (by decide +kernel) rfl (by decide) hr hx) ?_
 rintro v e' ⟨rfl, rfl⟩
 cases x
 · repeat (first | refine yK ?_ | refine yN ?_)
   refine sy_calln rfl rfl (fun w _ => rtab_c rzero_any w) ?_
   rintro v e' ⟨b2, rfl, rfl⟩
   repeat ((refine gO ?_; refine yP ?_))
   refine sy_works 0 rfl rfl rfl (has_w zeroT 82 b2 r y (by decide +kernel) rfl (by decide) hr hy) ?_
   rintro v e' ⟨rfl, rfl⟩
   cases y
   · repeat (first | refine yK ?_ | (refine gO ?_; refine yP ?_) | refine yN ?_ | refine sy_rt ?_)
     exact ret1 rfl rfl (by rw [hk]; rfl)
   · repeat (first | refine yK ?_ | (refine gO ?_; refine yP ?_) | refine yT ?_ | refine sy_rt ?_)
     exact ret1 rfl rfl (by rw [hk]; rfl)
 · repeat (first | refine yK ?_ | (refine gO ?_; refine yP ?_) | refine yT ?_ | refine sy_rt ?_)
   exact ret1 rfl rfl (by rw [hk]; rfl)
end Go.Proofs.Ytkaeihlpdceokaa
/- Contracts of the reference of layer 4: Unit, Width; columns of texts that are well-formed. -/
namespace Go.Proofs.Ytkaeihlpdceokaa
open Go.RowKit Bf
set_option maxRecDepth 20000 in
set_option maxHeartbeats 1000000 in
theorem runit4_c (s : List UInt8) (i c : Int) (n : Nat) (h : unitAt s i = (c, n)) (h0 : 0 ≤ i) (h1 : i < s.length) (hs : s.length ≤ 4611686018427387000) (w : World) :
 Calls Try.prog 21 #[S s, .int .i64 i] w fun e w' => e = .returned (.tuple #[.int .i64 c, .int .i64 (n : Int)]) ∧ Below w.heap.size w w' := by
 obtain ⟨r, m, ok, hd⟩ := trip (decAt s i)
 have hv := decS_val2 (s.drop i.toNat)
 have hd' := hd
 rw [decAt_in' s i h0 h1] at hd'
 rw [hd'] at hv
 simp only at hv
 have hu : unitAt s i = unitS (s.drop i.toNat) := by unfold unitAt; rw [if_neg (by omega)]
 have hne : s.drop i.toNat ≠ [] := by intro e; have := congrArg List.length e; simp at this; omega
 rw [hu] at h
 cases ok
 · rw [unitS_bad _ r m hne hd'] at h
   obtain ⟨rfl, rfl⟩ := Prod.mk.inj h
   refine sy_enter rfl rfl ?_
   simp only [initFr]
   repeat (first | refine yK ?_ | (refine gO ?_; refine yP ?_))
   refine sy_ov (ov_call rfl (fun w _ => rdecode_c s i r m false hd hs (by omega) (by omega) w)) rfl rfl ?_
   repeat (first | refine yK ?_ | (refine gO ?_; refine yP ?_) | refine yT ?_ | refine sy_rt ?_)
   exact ret2 rfl rfl rfl rfl
 · rw [unitS_ok _ r m hne hd'] at h
   obtain ⟨rfl, rfl⟩ := Prod.mk.inj h
   refine sy_enter rfl rfl ?_
   simp only [initFr]
   repeat (first | refine yK ?_ | (refine gO ?_; refine yP ?_))
   refine sy_ov (ov_call rfl (fun w _ => rdecode_c s i r m true hd hs (by omega) (by omega) w)) rfl rfl ?_
   repeat (first | refine yK ?_ | (refine gO ?_; refine yP ?_) | refine yN ?_)
   refine sy_ov (ov_call rfl (fun w _ => size_c r _ rfl (by omega) w)) rfl rfl ?_
   repeat (first | refine yK ?_ | (refine gO ?_; refine yP ?_) | refine sy_rt ?_)
   exact ret2 rfl rfl rfl rfl
set_option maxRecDepth 20000 in
set_option maxHeartbeats 1000000 in
theorem rwidth_c : ∀ (m : Nat) (s : List UInt8) (c : Int), s.length ≤ m → widthL s = c → s.length ≤ 4611686018427387000 → ∀ w : World,
 Calls Try.prog 14 #[S s] w fun e w' => e = .returned (.int .i64 c) ∧ Below w.heap.size w w' := by
 intro m
 induction m with
 | zero =>
  intro s c hm h hs w
  have hn : s = [] := List.length_eq_zero_iff.1 (by omega)
  subst hn; rw [widthL_nil] at h; subst h
  refine sy_enter rfl rfl ?_
  simp only [initFr]
  repeat (first | refine yK ?_ | (refine gO ?_; refine yP ?_) | refine yT ?_ | refine sy_rt ?_)
  exact ret1 rfl rfl rfl
 | succ m ih =>
  intro s c hm h hs w
  by_cases hn : s = []
  · subst hn; rw [widthL_nil] at h; subst h
    refine sy_enter rfl rfl ?_
    simp only [initFr]
    repeat (first | refine yK ?_ | (refine gO ?_; refine yP ?_) | refine yT ?_ | refine sy_rt ?_)
    exact ret1 rfl rfl rfl
  · have hp : 1 ≤ s.length := List.length_pos_iff.2 hn
    obtain ⟨k, n, hu⟩ : ∃ k n, unitS s = (k, n) := ⟨_, _, rfl⟩
    have hua : unitAt s 0 = (k, n) := by unfold unitAt; rw [if_neg (by omega)]; exact hu
    have hb := unitS_bd s
    have hst := widthL_step s hn
    rw [hu] at hb hst
    simp only at hb hst
    have hb1 := hb.2.2.2.1 hn
    have hdl : (s.drop n).length = s.length - n := List.length_drop
    have hw := widthL_bd _ (s.drop n) (Nat.le_refl _)
    have hi := ih (s.drop n) _ (by omega) rfl (by omega)
    obtain ⟨x, hx⟩ : ∃ x, widthL (s.drop n) = x := ⟨_, rfl⟩
    rw [hx] at hi hw hst
    rw [h] at hst
    subst hst
    refine sy_enter rfl rfl ?_
    simp only [initFr]
    repeat (first | refine yK ?_ | (refine gO ?_; refine yP ?_) | refine yN ?_)
    refine sy_ov (ov_call rfl (fun w _ => runit4_c s 0 k n hua (by omega) (by omega) hs w)) rfl rfl ?_
    repeat (first | refine yK ?_ | (refine gO ?_; first | refine yP ?_ | (refine gI ?_; (refine sy_ov (ov_slice_lo rfl rfl ?_ ?_) rfl rfl ?_; omega; omega))))
    refine sy_ov (ov_call rfl (fun w _ => hi w)) rfl rfl ?_
    repeat (first | refine yK ?_ | (refine gO ?_; first | refine yP ?_ | (refine gB ?_; (refine sy_ov (ov_ar rfl rfl rfl ?_ ?_) rfl rfl ?_; omega; omega))) | refine sy_rt ?_)
    exact ret1 rfl rfl rfl
end Go.Proofs.Ytkaeihlpdceokaa