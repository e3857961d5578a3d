/- Contracts of the package paths, and of the reference's paths: reading. -/
import Derived.Test.YteddjadeenimkaaStepsQ
import Derived.Test.YteddjadeenimkaaNamesQ
import Derived.Test.YteddjadeenimkaaL2Q
import Derived.Test.YteddjadeenimkaaBEX
set_option linter.unusedVariables false
set_option linter.unusedSimpArgs false
namespace Go.Proofs.Yteddjadeenimkaa
open Go.RowKit Bf
section
variable {P : Program} {fr : Fr} {hp : List En}
/-- Results: a cell, a slot, a cell. -/
theorem ret_ctc (i j : Nat) {fn : Func} {c t d : Tmp} {ct dt : TypeId} {cd dd : TypeDesc} {ci di : TypeInfo} [TU P ct cd] [TI P ct ci] [TU P dt dd] [TI P dt di] {w0 : World} {n b b' : Nat} {e e' : TypeId} {cs ds : List Value} {v v0 : Value} (hr : fn.results = #[.cell c ct, .tmp t, .cell d dt])
    (hc : get c fr = some (.pointer (some ⟨b, 0, none⟩))) (hv : get t fr = some v) (hd : get d fr = some (.pointer (some ⟨b', 0, none⟩))) (hi : hp[i]? = some (blk b e cs)) (hj : hp[j]? = some (blk b' e' ds)) (ha : isAggD cd = true) (ha' : isAggD dd = true) (hn : Nat.ble (0 + ci.size) cs.length = true) (hn' : Nat.ble (0 + di.size) ds.length = true)
    (he : Value.tuple #[.agg ⟨cs.take ci.size⟩, v, .agg ⟨ds.take di.size⟩] = v0) :
    Leave P ⟨fun _ => False, w0, n, bodyPost P fn fun e w' => e = .returned v0 ∧ Below w0.heap.size w0 w'⟩ .ret [] fr hp := .mk fun a w ha1 hw => by
  subst he
  have hl := loadVar_ok (P := P) (t := ct) hw hi ha hn
  have hl' := loadVar_ok (P := P) (t := dt) hw hj ha' hn'
  have hs := ha1.slot c _ hc
  have hs1 := ha1.slot t _ hv
  have hs2 := ha1.slot d _ hd
  rw [Array.getD_eq_getD_getElem?] at hs hs1 hs2
  have hq : (results fn a.tmps).run P w = .ok (.tuple #[.agg ⟨cs.take ci.size⟩, v, .agg ⟨ds.take di.size⟩]) w := by
    simp [results, hr, hs, hs1, hs2, asAddr, hl, hl']
  show bodyPost P fn (fun e w' => e = .returned _ ∧ Below w0.heap.size w0 w') .ret a w
  exact bodyPost_ret hq ha1.defers (And.intro rfl hw.below)
/-- Results: a slot, a cell; whatever is asked of the world behind. -/
theorem ret2cw (i : Nat) {D : Nat → Prop} {fn : Func} {t c : Tmp} {ct : TypeId} {d : TypeDesc} {ti : TypeInfo} [hd : TU P ct d] [hti : TI P ct ti] {w0 : World} {n b : Nat} {e : TypeId} {cs : List Value} {v : Value} {R : Ending → World → Prop} (hr : fn.results = #[.tmp t, .cell c ct]) (hv : get t fr = some v) (hc : get c fr = some (.pointer (some ⟨b, 0, none⟩))) (hi : hp[i]? = some (blk b e cs)) (ha : isAggD d = true) (hn : Nat.ble (0 + ti.size) cs.length = true)
    (h : ∀ w, HpOk D w0 hp w → R (.returned (.tuple #[v, .agg ⟨cs.take ti.size⟩])) w) : Leave P ⟨D, w0, n, bodyPost P fn R⟩ .ret [] fr hp := .mk fun a w ha' hw => by
  have hl := loadVar_ok (P := P) (t := ct) hw hi ha hn
  have hs := ha'.slot c _ hc
  have hs1 := ha'.slot t _ hv
  rw [Array.getD_eq_getD_getElem?] at hs hs1
  have hq : (results fn a.tmps).run P w = .ok (.tuple #[v, .agg ⟨cs.take ti.size⟩]) w := by
    simp [results, hr, hs, hs1, asAddr, hl]
  show bodyPost P fn R .ret a w
  exact bodyPost_ret hq ha'.defers (h w hw)
end
/-- What the reading of a step gives: the step, the place behind it, what is wrong. -/
def rdV (i : Int) (r : RdT) : Value := .tuple #[.agg ⟨stpV r.1⟩, .int .i64 (if r.2.2.1 = 0 then i + r.2.1 else 0), faultV r.2.2.1 (if r.2.2.1 = 0 then 0 else i + r.2.2.2)]
theorem rdV0 (i n p : Int) (x : StepT) : rdV i (x, n, 0, p) = .tuple #[.agg ⟨stpV x⟩, .int .i64 (i + n), faultV 0 0] := by simp [rdV]
theorem rdV1 (i n p : Int) (x : StepT) {e : Int} (he : e ≠ 0) : rdV i (x, n, e, p) = .tuple #[.agg ⟨stpV x⟩, .int .i64 0, faultV e (i + p)] := by simp [rdV, he]
theorem tup3 {a a' c c' : Value} {n m : Int} (h1 : a = a') (h2 : n = m) (h3 : c = c') : Value.tuple #[a, .int .i64 n, c] = .tuple #[a', .int .i64 m, c'] := by rw [h1, h2, h3]
theorem namB_len (s : List UInt8) (h : namB s = true) : s.length ≤ 32 := by unfold namB at h; simp only [Bool.and_eq_true, decide_eq_true_eq] at h; exact h.2
set_option maxRecDepth 20000 in
theorem named_c (s : List UInt8) (i k : Int) (h0 : 0 ≤ i) (h1 : i < s.length) (hs : s.length ≤ 4611686018427387000) (w : World) :
    Calls Try.prog 124 #[S s, .int .i64 (i + 1), .int .i64 k] w fun x w' => x = .returned (rdV i (namedL k (s.drop (i + 1).toNat))) ∧ Below w.heap.size w w' := by
  obtain ⟨r, hr⟩ : ∃ r, s.drop (i + 1).toNat = r := ⟨_, rfl⟩
  have hrl : r.length = s.length - (i + 1).toNat := by rw [← hr, List.length_drop]
  have hle := namN_le r
  obtain ⟨e, he⟩ : ∃ e, takeN s (i + 1) = (r.take (namN r), e) ∧ (namB (r.take (namN r)) = true → e = i + 1 + namN r) := by
    unfold takeN
    by_cases c : (s.length : Int) ≤ i + 1
    · rw [if_pos (.inr c)]
      have : r = [] := List.length_eq_zero_iff.1 (by omega)
      subst this
      exact ⟨0, by simp, fun h => by simp [namB] at h⟩
    · rw [if_neg (by omega), hr]; exact ⟨_, rfl, fun _ => rfl⟩
  rw [hr]
  obtain ⟨x, hx⟩ : ∃ x, r.take (namN r) = x := ⟨_, rfl⟩
  have hxl : x.length ≤ s.length := by rw [← hx, List.length_take]; omega
  rw [hx] at he
  unfold namedL
  rw [hx]
  cases hb : namB x with
  | true =>
    have hen := he.2 hb
    subst hen
    rw [if_pos rfl]
    refine sy_enter rfl rfl ?_
    simp only [initFr]
    repeat (first | refine sy_k rfl rfl ?_ | (refine gO ?_; first | refine sy_ov (ov_p rfl) rfl rfl ?_ | (refine sy_alloc rfl rfl rfl ?_; intro _)))
    refine sy_ov (ov_call rfl (fun w _ => take_c s (i + 1) _ _ he.1 (by omega) w)) rfl rfl ?_
    repeat (first | refine sy_k rfl rfl ?_ | (refine gO ?_; refine sy_ov (ov_p rfl) rfl rfl ?_))
    refine sy_ov (ov_call rfl (fun w _ => right_c x true hb (by omega) w)) rfl rfl ?_
    repeat (first | refine sy_k rfl rfl ?_ | (refine gO ?_; first | refine sy_ov (ov_p rfl) rfl rfl ?_ | (refine gS ?_; first | refine sy_store 0 rfl rfl rfl rfl rfl rfl rfl rfl ?_ | refine sy_store 1 rfl rfl rfl rfl rfl rfl rfl rfl ?_) | refine sy_ov (ov_build rfl rfl rfl) rfl rfl ?_) | (refine sy_cond_f rfl ?_ ?_; focus (first | with_reducible rfl | assumption | omega | (simp <;> first | omega | assumption))) | refine sy_rt ?_)
    exact ret_ctc 1 0 rfl rfl rfl rfl rfl rfl rfl rfl rfl rfl (by rw [rdV0]; refine tup3 rfl ?_ rfl; omega)
  | false =>
    rw [if_neg (by decide)]
    refine sy_enter rfl rfl ?_
    simp only [initFr]
    repeat (first | refine sy_k rfl rfl ?_ | (refine gO ?_; first | refine sy_ov (ov_p rfl) rfl rfl ?_ | (refine sy_alloc rfl rfl rfl ?_; intro _)))
    refine sy_ov (ov_call rfl (fun w _ => take_c s (i + 1) _ _ he.1 (by omega) w)) rfl rfl ?_
    repeat (first | refine sy_k rfl rfl ?_ | (refine gO ?_; refine sy_ov (ov_p rfl) rfl rfl ?_))
    refine sy_ov (ov_call rfl (fun w _ => right_c x false hb (by omega) w)) rfl rfl ?_
    repeat (first | refine sy_k rfl rfl ?_ | (refine gO ?_; first | refine sy_ov (ov_p rfl) rfl rfl ?_ | (refine gS ?_; first | refine sy_store 0 rfl rfl rfl rfl rfl rfl rfl rfl ?_ | refine sy_store 1 rfl rfl rfl rfl rfl rfl rfl rfl ?_) | refine sy_ov (ov_build rfl rfl rfl) rfl rfl ?_) | (refine sy_cond_t rfl ?_ ?_; focus (first | with_reducible rfl | assumption | omega | (simp <;> first | omega | assumption))) | refine sy_rt ?_)
    exact ret_ctc 1 0 rfl rfl rfl rfl rfl rfl rfl rfl rfl rfl (by rw [rdV1]; (focus (refine tup3 rfl rfl (congrArg (faultV _) ?_); omega)); first | assumption | decide)
theorem get_bt (s : List UInt8) (a : Int) (j : Nat) (c : UInt8) (h0 : 0 ≤ a) : (s.drop a.toNat)[j]? = some c ↔ a + j < s.length ∧ bt s (a + j) = (c.toNat : Int) := by
  rw [List.getElem?_drop]
  by_cases h : a.toNat + j < s.length
  · have := bt_some s (a.toNat + j) h c
    rw [← this, show ((a.toNat + j : Nat) : Int) = a + j by omega]
    constructor
    · intro h2; exact ⟨by omega, h2⟩
    · intro h2; exact h2.2
  · rw [List.getElem?_eq_none (by omega)]
    constructor
    · intro h2; cases h2
    · intro h2; omega
/-- What stands behind a bracket. -/
theorem item_ways (s : List UInt8) (i : Int) (h0 : 0 ≤ i) (h1 : i < s.length) : ∃ v e f p, takeS s (i + 1) = (v, e, f, p) ∧
    (i + 1 < s.length → bt s (i + 1) = 93 → itemL (s.drop (i + 1).toNat) = ((3, 0, []), 2, 0, 0)) ∧
    (¬ (i + 1 < s.length ∧ bt s (i + 1) = 93) →
      (f ≠ 0 → itemL (s.drop (i + 1).toNat) = (zst, 0, f, p - i)) ∧
      (f = 0 → 0 ≤ e ∧ e ≤ s.length ∧ (v < 0 → itemL (s.drop (i + 1).toNat) = (zst, 0, 20, 1)) ∧
        (0 ≤ v → e < s.length → bt s e = 93 → itemL (s.drop (i + 1).toNat) = ((2, v, []), e + 1 - i, 0, 0)) ∧
        (0 ≤ v → ¬ (e < s.length ∧ bt s e = 93) → itemL (s.drop (i + 1).toNat) = (zst, 0, 4, e - i)))) := by
  obtain ⟨v, e, f, p, ht⟩ : ∃ v e f p, takeS (s.drop (i + 1).toNat) 0 = (v, e, f, p) := ⟨_, _, _, _, rfl⟩
  have hd := takeAt_drop s (i + 1).toNat (by omega)
  rw [ht, show (((i + 1).toNat : Nat) : Int) = i + 1 by omega] at hd
  have hz := get_bt s (i + 1) 0 93 (by omega)
  refine ⟨_, _, _, _, hd, fun a b => ?_, fun hn => ?_⟩
  · unfold itemL; rw [if_pos (hz.2 ⟨by omega, by simpa using b⟩)]
  · have hz' : ¬ (s.drop (i + 1).toNat)[0]? = some 93 := fun h => hn (by have := hz.1 h; exact ⟨by omega, by simpa using this.2⟩)
    unfold itemL
    rw [if_neg hz', ht]
    simp only
    refine ⟨fun hf => ?_, fun hf => ?_⟩
    · rw [if_pos hf, if_neg hf]; refine Prod.ext rfl (Prod.ext rfl (Prod.ext rfl ?_)); simp only; omega
    · subst hf
      obtain ⟨g1, g2, g3, _⟩ := takeS_good _ v e p ht
      rw [List.length_drop] at g2
      simp only [if_true, ne_eq, not_true_eq_false, if_false]
      have hz2 := get_bt s (i + 1) e.toNat 93 (by omega)
      rw [show ((e.toNat : Nat) : Int) = e by omega] at hz2
      refine ⟨by omega, by omega, fun hv => if_pos hv, fun hv hlt hb => ?_, fun hv hb => ?_⟩
      · rw [if_neg (by omega), if_pos (hz2.2 ⟨hlt, hb⟩)]; refine Prod.ext rfl (Prod.ext ?_ rfl); simp only; omega
      · rw [if_neg (by omega), if_neg (fun h => hb (by have := hz2.1 h; exact ⟨this.1, this.2⟩))]; refine Prod.ext rfl (Prod.ext rfl (Prod.ext rfl ?_)); simp only; omega
set_option maxRecDepth 20000 in
set_option maxHeartbeats 1000000 in
theorem item_c (s : List UInt8) (i : Int) (h0 : 0 ≤ i) (h1 : i < s.length) (hs : s.length ≤ 4611686018427387000) (w : World) :
    Calls Try.prog 125 #[S s, .int .i64 (i + 1)] w fun x w' => x = .returned (rdV i (itemL (s.drop (i + 1).toNat))) ∧ Below w.heap.size w w' := by
  obtain ⟨v, e, f, p, ht, i1, i2⟩ := item_ways s i h0 h1
  have tail : ¬ (i + 1 < s.length ∧ bt s (i + 1) = 93) → Calls Try.prog 125 #[S s, .int .i64 (i + 1)] w fun x w' => x = .returned (rdV i (itemL (s.drop (i + 1).toNat))) ∧ Below w.heap.size w w' := by
    intro hn
    obtain ⟨j1, j2⟩ := i2 hn
    have start : ∀ (Q : Prop), (i + 1 < s.length → bt s (i + 1) ≠ 93 → Q) → (¬ i + 1 < s.length → Q) → Q := fun Q a b => by
      by_cases c : i + 1 < s.length
      · exact a c (fun h => hn ⟨c, h⟩)
      · exact b c
    by_cases hf : f = 0
    · subst hf
      obtain ⟨e0, e1, k1, k2, k3⟩ := j2 rfl
      by_cases hv : v < 0
      · have hi := k1 hv
        refine start _ (fun c1 c2 => ?_) (fun c1 => ?_)
        all_goals
          refine sy_enter rfl rfl ?_
          simp only [initFr]
          repeat (first | refine sy_k rfl rfl ?_ | (refine gO ?_; first | refine sy_ov (ov_p rfl) rfl rfl ?_ | (refine gG ?_; first | (refine sy_guard_yes rfl rfl rfl rfl rfl ?_ ?_; focus (first | with_reducible rfl | assumption | omega | (simp <;> first | omega | assumption))) | (refine sy_guard_no rfl rfl rfl rfl rfl ?_ ?_; focus (first | with_reducible rfl | assumption | omega | (simp <;> first | omega | assumption)))) | (refine gK ?_; refine sy_ov (ov_len rfl) rfl rfl ?_) | (refine sy_ov (ov_pick_t rfl rfl ?_) rfl rfl ?_; focus (with_reducible rfl)) | refine sy_ov (ov_pick rfl rfl rfl) rfl rfl ?_ | (refine sy_ov (ov_index rfl rfl ?_ ?_) rfl rfl ?_; omega; omega) | (refine sy_alloc rfl rfl rfl ?_; intro _)) | (refine sy_cond_f rfl ?_ ?_; focus (first | with_reducible rfl | assumption | omega | (simp <;> first | omega | assumption))))
          refine sy_ov (ov_call rfl (fun w _ => dtake_c s (i + 1) v e 0 p ht (by omega) (by omega) (by omega) w)) rfl rfl ?_
          repeat (first | refine sy_k rfl rfl ?_ | (refine gO ?_; first | refine sy_ov (ov_p rfl) rfl rfl ?_ | (refine gL ?_; refine sy_ov (ov_ld 0 rfl rfl rfl) rfl rfl ?_) | (refine gS ?_; first | refine sy_store 0 rfl rfl rfl rfl rfl rfl rfl rfl ?_ | refine sy_store 1 rfl rfl rfl rfl rfl rfl rfl rfl ?_ | refine sy_store 2 rfl rfl rfl rfl rfl rfl rfl rfl ?_) | refine sy_ov (ov_fieldAddr rfl rfl rfl) rfl rfl ?_ | refine sy_ov (ov_build rfl rfl rfl) rfl rfl ?_ | (refine sy_alloc rfl rfl rfl ?_; intro _)) | (refine sy_cond_t rfl ?_ ?_; focus (first | with_reducible rfl | assumption | omega | (simp <;> first | omega | assumption))) | (refine sy_cond_f rfl ?_ ?_; focus (first | with_reducible rfl | assumption | omega | (simp <;> first | omega | assumption))) | refine sy_rt ?_)
          exact ret_ctc 2 1 rfl rfl rfl rfl rfl rfl rfl rfl rfl rfl (by rw [hi]; rw [rdV1]; (focus (refine tup3 rfl rfl (congrArg (faultV _) ?_); omega)); first | assumption | decide)
      · by_cases he : e = s.length
        · have hi := k3 (by omega) (by omega)
          refine start _ (fun c1 c2 => ?_) (fun c1 => ?_)
          all_goals
            refine sy_enter rfl rfl ?_
            simp only [initFr]
            repeat (first | refine sy_k rfl rfl ?_ | (refine gO ?_; first | refine sy_ov (ov_p rfl) rfl rfl ?_ | (refine gG ?_; first | (refine sy_guard_yes rfl rfl rfl rfl rfl ?_ ?_; focus (first | with_reducible rfl | assumption | omega | (simp <;> first | omega | assumption))) | (refine sy_guard_no rfl rfl rfl rfl rfl ?_ ?_; focus (first | with_reducible rfl | assumption | omega | (simp <;> first | omega | assumption)))) | (refine gK ?_; refine sy_ov (ov_len rfl) rfl rfl ?_) | (refine sy_ov (ov_pick_t rfl rfl ?_) rfl rfl ?_; focus (with_reducible rfl)) | refine sy_ov (ov_pick rfl rfl rfl) rfl rfl ?_ | (refine sy_ov (ov_index rfl rfl ?_ ?_) rfl rfl ?_; omega; omega) | (refine sy_alloc rfl rfl rfl ?_; intro _)) | (refine sy_cond_f rfl ?_ ?_; focus (first | with_reducible rfl | assumption | omega | (simp <;> first | omega | assumption))))
            refine sy_ov (ov_call rfl (fun w _ => dtake_c s (i + 1) v e 0 p ht (by omega) (by omega) (by omega) w)) rfl rfl ?_
            repeat (first | refine sy_k rfl rfl ?_ | (refine gO ?_; first | refine sy_ov (ov_p rfl) rfl rfl ?_ | (refine gG ?_; (refine sy_guard_no rfl rfl rfl rfl rfl ?_ ?_; focus (first | with_reducible rfl | assumption | omega | (simp <;> first | omega | assumption)))) | (refine gK ?_; refine sy_ov (ov_len rfl) rfl rfl ?_) | (refine gL ?_; refine sy_ov (ov_ld 0 rfl rfl rfl) rfl rfl ?_) | (refine gS ?_; first | refine sy_store 0 rfl rfl rfl rfl rfl rfl rfl rfl ?_ | refine sy_store 1 rfl rfl rfl rfl rfl rfl rfl rfl ?_ | refine sy_store 2 rfl rfl rfl rfl rfl rfl rfl rfl ?_) | refine sy_ov (ov_pick rfl rfl rfl) rfl rfl ?_ | refine sy_ov (ov_fieldAddr rfl rfl rfl) rfl rfl ?_ | refine sy_ov (ov_build rfl rfl rfl) rfl rfl ?_ | (refine sy_alloc rfl rfl rfl ?_; intro _)) | (refine sy_cond_t rfl ?_ ?_; focus (first | with_reducible rfl | assumption | omega | (simp <;> first | omega | assumption))) | (refine sy_cond_f rfl ?_ ?_; focus (first | with_reducible rfl | assumption | omega | (simp <;> first | omega | assumption))) | refine sy_rt ?_)
            exact ret_ctc 2 1 rfl rfl rfl rfl rfl rfl rfl rfl rfl rfl (by rw [hi]; rw [rdV1]; (focus (refine tup3 rfl rfl (congrArg (faultV _) ?_); omega)); first | assumption | decide)
        · have hel : e < s.length := by omega
          by_cases hb : bt s e = 93
          · have hi := k2 (by omega) (by omega) hb
            refine start _ (fun c1 c2 => ?_) (fun c1 => ?_)
            all_goals
              refine sy_enter rfl rfl ?_
              simp only [initFr]
              repeat (first | refine sy_k rfl rfl ?_ | (refine gO ?_; first | refine sy_ov (ov_p rfl) rfl rfl ?_ | (refine gG ?_; first | (refine sy_guard_yes rfl rfl rfl rfl rfl ?_ ?_; focus (first | with_reducible rfl | assumption | omega | (simp <;> first | omega | assumption))) | (refine sy_guard_no rfl rfl rfl rfl rfl ?_ ?_; focus (first | with_reducible rfl | assumption | omega | (simp <;> first | omega | assumption)))) | (refine gK ?_; refine sy_ov (ov_len rfl) rfl rfl ?_) | (refine sy_ov (ov_pick_t rfl rfl ?_) rfl rfl ?_; focus (with_reducible rfl)) | refine sy_ov (ov_pick rfl rfl rfl) rfl rfl ?_ | (refine sy_ov (ov_index rfl rfl ?_ ?_) rfl rfl ?_; omega; omega) | (refine sy_alloc rfl rfl rfl ?_; intro _)) | (refine sy_cond_f rfl ?_ ?_; focus (first | with_reducible rfl | assumption | omega | (simp <;> first | omega | assumption))))
              refine sy_ov (ov_call rfl (fun w _ => dtake_c s (i + 1) v e 0 p ht (by omega) (by omega) (by omega) w)) rfl rfl ?_
              repeat (first | refine sy_k rfl rfl ?_ | (refine gO ?_; first | refine sy_ov (ov_p rfl) rfl rfl ?_ | (refine gG ?_; (refine sy_guard_yes rfl rfl rfl rfl rfl ?_ ?_; focus (first | with_reducible rfl | assumption | omega | (simp <;> first | omega | assumption)))) | (refine gB ?_; (refine sy_ov (ov_ar rfl rfl rfl ?_ ?_) rfl rfl ?_; omega; omega)) | (refine gK ?_; refine sy_ov (ov_len rfl) rfl rfl ?_) | (refine gL ?_; refine sy_ov (ov_ld 0 rfl rfl rfl) rfl rfl ?_) | (refine gS ?_; first | refine sy_store 0 rfl rfl rfl rfl rfl rfl rfl rfl ?_ | refine sy_store 1 rfl rfl rfl rfl rfl rfl rfl rfl ?_ | refine sy_store 2 rfl rfl rfl rfl rfl rfl rfl rfl ?_) | (refine sy_ov (ov_pick_f rfl rfl ?_) rfl rfl ?_; focus (with_reducible rfl)) | refine sy_ov (ov_fieldAddr rfl rfl rfl) rfl rfl ?_ | (refine sy_ov (ov_index rfl rfl ?_ ?_) rfl rfl ?_; omega; omega) | refine sy_ov (ov_build rfl rfl rfl) rfl rfl ?_ | (refine sy_alloc rfl rfl rfl ?_; intro _)) | (refine sy_cond_f rfl ?_ ?_; focus (first | with_reducible rfl | assumption | omega | (simp <;> first | omega | assumption))) | refine sy_rt ?_)
              exact ret_ctc 2 1 rfl rfl rfl rfl rfl rfl rfl rfl rfl rfl (by rw [hi]; rw [rdV0]; refine tup3 rfl ?_ rfl; omega)
          · have hi := k3 (by omega) (fun h => hb h.2)
            refine start _ (fun c1 c2 => ?_) (fun c1 => ?_)
            all_goals
              refine sy_enter rfl rfl ?_
              simp only [initFr]
              repeat (first | refine sy_k rfl rfl ?_ | (refine gO ?_; first | refine sy_ov (ov_p rfl) rfl rfl ?_ | (refine gG ?_; first | (refine sy_guard_yes rfl rfl rfl rfl rfl ?_ ?_; focus (first | with_reducible rfl | assumption | omega | (simp <;> first | omega | assumption))) | (refine sy_guard_no rfl rfl rfl rfl rfl ?_ ?_; focus (first | with_reducible rfl | assumption | omega | (simp <;> first | omega | assumption)))) | (refine gK ?_; refine sy_ov (ov_len rfl) rfl rfl ?_) | (refine sy_ov (ov_pick_t rfl rfl ?_) rfl rfl ?_; focus (with_reducible rfl)) | refine sy_ov (ov_pick rfl rfl rfl) rfl rfl ?_ | (refine sy_ov (ov_index rfl rfl ?_ ?_) rfl rfl ?_; omega; omega) | (refine sy_alloc rfl rfl rfl ?_; intro _)) | (refine sy_cond_f rfl ?_ ?_; focus (first | with_reducible rfl | assumption | omega | (simp <;> first | omega | assumption))))
              refine sy_ov (ov_call rfl (fun w _ => dtake_c s (i + 1) v e 0 p ht (by omega) (by omega) (by omega) w)) rfl rfl ?_
              repeat (first | refine sy_k rfl rfl ?_ | (refine gO ?_; first | refine sy_ov (ov_p rfl) rfl rfl ?_ | (refine gG ?_; (refine sy_guard_yes rfl rfl rfl rfl rfl ?_ ?_; focus (first | with_reducible rfl | assumption | omega | (simp <;> first | omega | assumption)))) | (refine gK ?_; refine sy_ov (ov_len rfl) rfl rfl ?_) | (refine gL ?_; refine sy_ov (ov_ld 0 rfl rfl rfl) rfl rfl ?_) | (refine gS ?_; first | refine sy_store 0 rfl rfl rfl rfl rfl rfl rfl rfl ?_ | refine sy_store 1 rfl rfl rfl rfl rfl rfl rfl rfl ?_ | refine sy_store 2 rfl rfl rfl rfl rfl rfl rfl rfl ?_) | (refine sy_ov (ov_pick_f rfl rfl ?_) rfl rfl ?_; focus (with_reducible rfl)) | refine sy_ov (ov_fieldAddr rfl rfl rfl) rfl rfl ?_ | (refine sy_ov (ov_index rfl rfl ?_ ?_) rfl rfl ?_; omega; omega) | refine sy_ov (ov_build rfl rfl rfl) rfl rfl ?_ | (refine sy_alloc rfl rfl rfl ?_; intro _)) | (refine sy_cond_t rfl ?_ ?_; focus (first | with_reducible rfl | assumption | omega | (simp <;> first | omega | assumption))) | (refine sy_cond_f rfl ?_ ?_; focus (first | with_reducible rfl | assumption | omega | (simp <;> first | omega | assumption))) | refine sy_rt ?_)
              exact ret_ctc 2 1 rfl rfl rfl rfl rfl rfl rfl rfl rfl rfl (by rw [hi]; rw [rdV1]; (focus (refine tup3 rfl rfl (congrArg (faultV _) ?_); omega)); first | assumption | decide)
    · have hi := j1 hf
      refine start _ (fun c1 c2 => ?_) (fun c1 => ?_)
      all_goals
        refine sy_enter rfl rfl ?_
        simp only [initFr]
        repeat (first | refine sy_k rfl rfl ?_ | (refine gO ?_; first | refine sy_ov (ov_p rfl) rfl rfl ?_ | (refine gG ?_; first | (refine sy_guard_yes rfl rfl rfl rfl rfl ?_ ?_; focus (first | with_reducible rfl | assumption | omega | (simp <;> first | omega | assumption))) | (refine sy_guard_no rfl rfl rfl rfl rfl ?_ ?_; focus (first | with_reducible rfl | assumption | omega | (simp <;> first | omega | assumption)))) | (refine gK ?_; refine sy_ov (ov_len rfl) rfl rfl ?_) | (refine sy_ov (ov_pick_t rfl rfl ?_) rfl rfl ?_; focus (with_reducible rfl)) | refine sy_ov (ov_pick rfl rfl rfl) rfl rfl ?_ | (refine sy_ov (ov_index rfl rfl ?_ ?_) rfl rfl ?_; omega; omega) | (refine sy_alloc rfl rfl rfl ?_; intro _)) | (refine sy_cond_f rfl ?_ ?_; focus (first | with_reducible rfl | assumption | omega | (simp <;> first | omega | assumption))))
        refine sy_ov (ov_call rfl (fun w _ => dtake_c s (i + 1) v e f p ht (by omega) (by omega) (by omega) w)) rfl rfl ?_
        repeat (first | refine sy_k rfl rfl ?_ | (refine gO ?_; first | refine sy_ov (ov_p rfl) rfl rfl ?_ | (refine gL ?_; refine sy_ov (ov_ld 0 rfl rfl rfl) rfl rfl ?_) | (refine gS ?_; refine sy_store 0 rfl rfl rfl rfl rfl rfl rfl rfl ?_) | refine sy_ov (ov_fieldAddr rfl rfl rfl) rfl rfl ?_ | (refine sy_alloc rfl rfl rfl ?_; intro _)) | (refine sy_cond_t rfl ?_ ?_; focus (first | with_reducible rfl | assumption | omega | (simp <;> first | omega | assumption))))
        refine sy_drawE _ 4 [(0, false), (1, false), (2, true), (3, false)] (by kernel_rfl) rfl (sk (sk (sd sr))) ?_
        repeat (first | refine dre_rd (fun _ _ => ov_p rfl) rfl ?_ | refine dre_rd (fun _ _ => ov_ld 0 rfl rfl rfl) rfl ?_ | refine dre_rd (fun _ _ => ov_build rfl rfl rfl) rfl ?_ | (refine dre_ef rfl ?_; refine sy_store 2 rfl rfl rfl rfl rfl rfl rfl rfl ?_; refine dre_ek (by first | exact sr | exact sk sr | (repeat first | exact sr | apply sk | apply sd)) ?_) | refine dre_end ?_)
        repeat (first | refine sy_k rfl rfl ?_ | (refine gO ?_; (refine gS ?_; refine sy_store 1 rfl rfl rfl rfl rfl rfl rfl rfl ?_)) | refine sy_rt ?_)
        exact ret_ctc 2 1 rfl rfl rfl rfl rfl rfl rfl rfl rfl rfl (by rw [hi]; rw [rdV1]; (focus (refine tup3 rfl rfl (congrArg (faultV _) ?_); omega)); first | assumption | decide)
  by_cases c1 : i + 1 < s.length
  · by_cases c2 : bt s (i + 1) = 93
    · have hi := i1 c1 c2
      refine sy_enter rfl rfl ?_
      simp only [initFr]
      repeat (first | refine sy_k rfl rfl ?_ | (refine gO ?_; first | refine sy_ov (ov_p rfl) rfl rfl ?_ | (refine gG ?_; (refine sy_guard_yes rfl rfl rfl rfl rfl ?_ ?_; focus (first | with_reducible rfl | assumption | omega | (simp <;> first | omega | assumption)))) | (refine gB ?_; (refine sy_ov (ov_ar rfl rfl rfl ?_ ?_) rfl rfl ?_; omega; omega)) | (refine gK ?_; refine sy_ov (ov_len rfl) rfl rfl ?_) | (refine gS ?_; first | refine sy_store 0 rfl rfl rfl rfl rfl rfl rfl rfl ?_ | refine sy_store 1 rfl rfl rfl rfl rfl rfl rfl rfl ?_) | (refine sy_ov (ov_pick_t rfl rfl ?_) rfl rfl ?_; focus (with_reducible rfl)) | (refine sy_ov (ov_index rfl rfl ?_ ?_) rfl rfl ?_; omega; omega) | refine sy_ov (ov_build rfl rfl rfl) rfl rfl ?_ | (refine sy_alloc rfl rfl rfl ?_; intro _)) | (refine sy_cond_t rfl ?_ ?_; focus (first | with_reducible rfl | assumption | omega | (simp <;> first | omega | assumption))) | refine sy_rt ?_)
      exact ret_ctc 1 0 rfl rfl rfl rfl rfl rfl rfl rfl rfl rfl (by rw [hi]; rw [rdV0]; refine tup3 rfl ?_ rfl; omega)
    · exact tail (fun h => c2 h.2)
  · exact tail (fun h => c1 h.1)
theorem stepL_at (s : List UInt8) (i : Int) (h0 : 0 ≤ i) (h1 : i < s.length) : stepL (s.drop i.toNat) = if bt s i = 46 then namedL 1 (s.drop (i + 1).toNat) else if bt s i = 33 then namedL 5 (s.drop (i + 1).toNat) else if bt s i = 91 then itemL (s.drop (i + 1).toNat) else if bt s i = 63 then ((4, 0, []), 1, 0, 0) else (zst, 0, 4, 0) := by
  obtain ⟨c, l, hd, hb⟩ := bt_nat s i h0 h1
  have hd2 : s.drop (i + 1).toNat = l := by rw [show (i + 1).toNat = i.toNat + 1 by omega, ← List.drop_drop, hd]; rfl
  rw [hd, hd2, hb, stepL_cons]
  have e : ∀ k : UInt8, ((c.toNat : Int) = (k.toNat : Int)) ↔ c = k := fun k => ⟨fun h => UInt8.toNat_inj.1 (by omega), fun h => by rw [h]⟩
  have e1 := e 46
  have e2 := e 33
  have e3 := e 91
  have e4 := e 63
  simp only [show (((46 : UInt8).toNat : Nat) : Int) = 46 from rfl, show (((33 : UInt8).toNat : Nat) : Int) = 33 from rfl, show (((91 : UInt8).toNat : Nat) : Int) = 91 from rfl, show (((63 : UInt8).toNat : Nat) : Int) = 63 from rfl] at e1 e2 e3 e4
  simp only [e1, e2, e3, e4]
theorem rdV_shape (i : Int) (r : RdT) : ∃ x e f p, r = (x, e, f, p) := ⟨_, _, _, _, rfl⟩
set_option maxRecDepth 20000 in
set_option maxHeartbeats 1000000 in
theorem step_c (s : List UInt8) (i : Int) (h0 : 0 ≤ i) (h1 : i < s.length) (hs : s.length ≤ 4611686018427387000) (w : World) :
    Calls Try.prog 81 #[S s, .int .i64 i] w fun x w' => x = .returned (rdV i (stepL (s.drop i.toNat))) ∧ Below w.heap.size w w' := by
  rw [stepL_at s i h0 h1]
  by_cases c1 : bt s i = 46
  · rw [if_pos c1]
    refine sy_enter rfl rfl ?_
    simp only [initFr]
    repeat (first | refine sy_k rfl rfl ?_ | (refine gO ?_; first | refine sy_ov (ov_p rfl) rfl rfl ?_ | (refine gB ?_; (refine sy_ov (ov_ar rfl rfl rfl ?_ ?_) rfl rfl ?_; omega; omega)) | (refine sy_ov (ov_index rfl rfl ?_ ?_) rfl rfl ?_; omega; omega) | (refine sy_alloc rfl rfl rfl ?_; intro _)) | (refine sy_cond_t rfl ?_ ?_; focus (first | with_reducible rfl | assumption | omega | (simp <;> first | omega | assumption))))
    refine sy_ov (ov_call rfl (fun w _ => named_c s i 1 h0 h1 hs w)) rfl rfl ?_
    repeat (first | refine sy_k rfl rfl ?_ | (refine gO ?_; first | refine sy_ov (ov_p rfl) rfl rfl ?_ | (refine gS ?_; first | refine sy_store 0 rfl rfl rfl rfl rfl rfl rfl rfl ?_ | refine sy_store 1 rfl rfl rfl rfl rfl rfl rfl rfl ?_)) | refine sy_rt ?_)
    exact ret_ctc 1 0 rfl rfl rfl rfl rfl rfl rfl rfl rfl rfl rfl
  · rw [if_neg c1]
    by_cases c2 : bt s i = 33
    · rw [if_pos c2]
      refine sy_enter rfl rfl ?_
      simp only [initFr]
      repeat (first | refine sy_k rfl rfl ?_ | (refine gO ?_; first | refine sy_ov (ov_p rfl) rfl rfl ?_ | (refine gB ?_; (refine sy_ov (ov_ar rfl rfl rfl ?_ ?_) rfl rfl ?_; omega; omega)) | (refine sy_ov (ov_index rfl rfl ?_ ?_) rfl rfl ?_; omega; omega) | (refine sy_alloc rfl rfl rfl ?_; intro _)) | (refine sy_cond_t rfl ?_ ?_; focus (first | with_reducible rfl | assumption | omega | (simp <;> first | omega | assumption))) | (refine sy_cond_f rfl ?_ ?_; focus (first | with_reducible rfl | assumption | omega | (simp <;> first | omega | assumption))))
      refine sy_ov (ov_call rfl (fun w _ => named_c s i 5 h0 h1 hs w)) rfl rfl ?_
      repeat (first | refine sy_k rfl rfl ?_ | (refine gO ?_; first | refine sy_ov (ov_p rfl) rfl rfl ?_ | (refine gS ?_; first | refine sy_store 0 rfl rfl rfl rfl rfl rfl rfl rfl ?_ | refine sy_store 1 rfl rfl rfl rfl rfl rfl rfl rfl ?_)) | refine sy_rt ?_)
      exact ret_ctc 1 0 rfl rfl rfl rfl rfl rfl rfl rfl rfl rfl rfl
    · rw [if_neg c2]
      by_cases c3 : bt s i = 91
      · rw [if_pos c3]
        refine sy_enter rfl rfl ?_
        simp only [initFr]
        repeat (first | refine sy_k rfl rfl ?_ | (refine gO ?_; first | refine sy_ov (ov_p rfl) rfl rfl ?_ | (refine gB ?_; (refine sy_ov (ov_ar rfl rfl rfl ?_ ?_) rfl rfl ?_; omega; omega)) | (refine sy_ov (ov_index rfl rfl ?_ ?_) rfl rfl ?_; omega; omega) | (refine sy_alloc rfl rfl rfl ?_; intro _)) | (refine sy_cond_t rfl ?_ ?_; focus (first | with_reducible rfl | assumption | omega | (simp <;> first | omega | assumption))) | (refine sy_cond_f rfl ?_ ?_; focus (first | with_reducible rfl | assumption | omega | (simp <;> first | omega | assumption))))
        refine sy_ov (ov_call rfl (fun w _ => item_c s i h0 h1 hs w)) rfl rfl ?_
        repeat (first | refine sy_k rfl rfl ?_ | (refine gO ?_; first | refine sy_ov (ov_p rfl) rfl rfl ?_ | (refine gS ?_; first | refine sy_store 0 rfl rfl rfl rfl rfl rfl rfl rfl ?_ | refine sy_store 1 rfl rfl rfl rfl rfl rfl rfl rfl ?_)) | refine sy_rt ?_)
        exact ret_ctc 1 0 rfl rfl rfl rfl rfl rfl rfl rfl rfl rfl rfl
      · rw [if_neg c3]
        by_cases c4 : bt s i = 63
        · rw [if_pos c4]
          refine sy_enter rfl rfl ?_
          simp only [initFr]
          repeat (first | refine sy_k rfl rfl ?_ | (refine gO ?_; first | refine sy_ov (ov_p rfl) rfl rfl ?_ | (refine gB ?_; (refine sy_ov (ov_ar rfl rfl rfl ?_ ?_) rfl rfl ?_; omega; omega)) | (refine gS ?_; first | refine sy_store 0 rfl rfl rfl rfl rfl rfl rfl rfl ?_ | refine sy_store 1 rfl rfl rfl rfl rfl rfl rfl rfl ?_) | (refine sy_ov (ov_index rfl rfl ?_ ?_) rfl rfl ?_; omega; omega) | refine sy_ov (ov_build rfl rfl rfl) rfl rfl ?_ | (refine sy_alloc rfl rfl rfl ?_; intro _)) | (refine sy_cond_t rfl ?_ ?_; focus (first | with_reducible rfl | assumption | omega | (simp <;> first | omega | assumption))) | (refine sy_cond_f rfl ?_ ?_; focus (first | with_reducible rfl | assumption | omega | (simp <;> first | omega | assumption))) | refine sy_rt ?_)
          exact ret_ctc 1 0 rfl rfl rfl rfl rfl rfl rfl rfl rfl rfl (by rw [rdV0]; refine tup3 rfl ?_ rfl; omega)
        · rw [if_neg c4]
          refine sy_enter rfl rfl ?_
          simp only [initFr]
          repeat (first | refine sy_k rfl rfl ?_ | (refine gO ?_; first | refine sy_ov (ov_p rfl) rfl rfl ?_ | (refine gS ?_; first | refine sy_store 0 rfl rfl rfl rfl rfl rfl rfl rfl ?_ | refine sy_store 1 rfl rfl rfl rfl rfl rfl rfl rfl ?_) | (refine sy_ov (ov_index rfl rfl ?_ ?_) rfl rfl ?_; omega; omega) | refine sy_ov (ov_build rfl rfl rfl) rfl rfl ?_ | (refine sy_alloc rfl rfl rfl ?_; intro _)) | (refine sy_cond_f rfl ?_ ?_; focus (first | with_reducible rfl | assumption | omega | (simp <;> first | omega | assumption))) | refine sy_rt ?_)
          exact ret_ctc 1 0 rfl rfl rfl rfl rfl rfl rfl rfl rfl rfl (by rw [rdV1]; (focus (refine tup3 rfl rfl (congrArg (faultV _) ?_); omega)); first | assumption | decide)
end Go.Proofs.Yteddjadeenimkaa
