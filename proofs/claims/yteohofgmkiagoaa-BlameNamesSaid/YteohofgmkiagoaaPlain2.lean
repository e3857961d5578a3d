/- Plain facts on numbers' texts: no program in sight. -/
import Derived.Test.YteohofgmkiagoaaPlain
import GoSem.Op.String
set_option linter.unusedVariables false
set_option linter.unusedSimpArgs false
namespace Bf
def decL (n : Nat) : List UInt8 := if n < 10 then [UInt8.ofNat (48 + n)] else decL (n / 10) ++ [UInt8.ofNat (48 + n % 10)]
termination_by n
decreasing_by omega
def putL (n : Int) : List UInt8 := if n < 0 then 45 :: decL n.natAbs else decL n.natAbs
theorem decL_lt (n : Nat) (h : n < 10) : decL n = [UInt8.ofNat (48 + n)] := by rw [decL, if_pos h]
theorem decL_ge (n : Nat) (h : ¬ n < 10) : decL n = decL (n / 10) ++ [UInt8.ofNat (48 + n % 10)] := by rw [decL, if_neg h]
theorem putL_neg1 (n : Int) (h : n < 0) (h' : -10 < n) : putL n = 45 :: putL (-n) := by
  unfold putL; rw [if_pos h, if_neg (by omega), Int.natAbs_neg]
theorem putL_neg2 (n : Int) (h : n ≤ -10) : putL n = putL (n.tdiv 10) ++ putL (-(n.tmod 10)) := by
  have e1 : n.tdiv 10 = -((-n) / 10) := tdiv_neg10 n (by omega)
  have e2 : n.tmod 10 = n - 10 * n.tdiv 10 := by have := Int.tmod_add_mul_tdiv n 10; omega
  unfold putL; rw [if_pos (by omega), if_pos (by omega), if_neg (by omega), decL_ge n.natAbs (by omega), decL_lt (-(n.tmod 10)).natAbs (by omega)]
  have : (n.tdiv 10).natAbs = n.natAbs / 10 := by omega
  have h2 : (-(n.tmod 10)).natAbs = n.natAbs % 10 := by omega
  rw [this, h2]; rfl
theorem putL_pos2 (n : Int) (h : 10 ≤ n) : putL n = putL (n.tdiv 10) ++ putL (n.tmod 10) := by
  have e1 : n.tdiv 10 = n / 10 := Int.tdiv_eq_ediv_of_nonneg (by omega)
  have e2 : n.tmod 10 = n % 10 := Int.tmod_eq_emod_of_nonneg (by omega)
  unfold putL; rw [if_neg (by omega), if_neg (by omega), if_neg (by omega), decL_ge n.natAbs (by omega), decL_lt (n.tmod 10).natAbs (by omega)]
  have : (n.tdiv 10).natAbs = n.natAbs / 10 := by omega
  have h2 : (n.tmod 10).natAbs = n.natAbs % 10 := by omega
  rw [this, h2]
theorem putL_lt (n : Int) (h : 0 ≤ n) (h' : n < 10) : putL n = [UInt8.ofNat (48 + n).toNat] := by
  unfold putL; rw [if_neg (by omega), decL_lt _ (by omega)]; congr; omega
theorem decL_len (n : Nat) : ∀ k, n < 10 ^ k → 0 < k → (decL n).length ≤ k := by
  induction n using Nat.strongRecOn with
  | _ n ih =>
    intro k hk h0
    by_cases h : n < 10
    · rw [decL_lt n h]; simp; omega
    · rw [decL_ge n h]
      obtain ⟨k, rfl⟩ : ∃ j, k = j + 1 := ⟨k - 1, by omega⟩
      have hk0 : 0 < k := by
        rcases Nat.eq_zero_or_pos k with rfl | h
        · omega
        · exact h
      have := ih (n / 10) (by omega) k (by rw [Nat.pow_succ] at hk; omega) hk0
      simp; omega
theorem putL_len (n : Int) (h : -9223372036854775808 ≤ n ∧ n ≤ 9223372036854775807) : (putL n).length ≤ 20 := by
  have := decL_len n.natAbs 19 (by omega) (by omega)
  unfold putL; split <;> simp <;> omega

/-! ### texts of digits, held against one another -/
theorem numVal_lt (l : List UInt8) (hd : ∀ c ∈ l, isDig c = true) (a : Nat) : numVal l a < (a + 1) * 10 ^ l.length := by
  induction l generalizing a with
  | nil => simp [numVal]
  | cons c l ih =>
    have h1 := ih (fun x hx => hd x (by simp [hx])) (a * 10 + digVal c)
    have hc : digVal c ≤ 9 := by have := hd c (by simp); unfold isDig at this; unfold digVal; simp at this; omega
    rw [numVal_cons, List.length_cons, Nat.pow_succ]
    calc numVal l (a * 10 + digVal c) < (a * 10 + digVal c + 1) * 10 ^ l.length := h1
      _ ≤ ((a + 1) * 10) * 10 ^ l.length := Nat.mul_le_mul_right _ (by omega)
      _ = (a + 1) * (10 ^ l.length * 10) := by rw [Nat.mul_assoc, Nat.mul_comm 10]
theorem numVal_ge' (l : List UInt8) (a : Nat) : a * 10 ^ l.length ≤ numVal l a := by
  induction l generalizing a with
  | nil => simp [numVal]
  | cons c l ih =>
    have h1 := ih (a * 10 + digVal c)
    rw [numVal_cons, List.length_cons, Nat.pow_succ]
    calc a * (10 ^ l.length * 10) = (a * 10) * 10 ^ l.length := by rw [Nat.mul_comm (10 ^ l.length), Nat.mul_assoc]
      _ ≤ (a * 10 + digVal c) * 10 ^ l.length := Nat.mul_le_mul_right _ (by omega)
      _ ≤ _ := h1
theorem less_numVal : ∀ (l m : List UInt8), l.length = m.length → (∀ c ∈ l, isDig c = true) → (∀ c ∈ m, isDig c = true) → ∀ a,
    Go.Op.bytesLess l m = decide (numVal l a < numVal m a) ∧ ((l == m) = decide (numVal l a = numVal m a)) := by
  intro l
  induction l with
  | nil =>
    intro m hm _ _ a
    cases m with
    | nil => simp [Go.Op.bytesLess]
    | cons => simp at hm
  | cons c l ih =>
    intro m hm hl hm' a
    cases m with
    | nil => simp at hm
    | cons d m =>
      have hlen : l.length = m.length := by simpa using hm
      have hc := hl c (by simp)
      have hd := hm' d (by simp)
      have hl2 : ∀ x ∈ l, isDig x = true := fun x hx => hl x (by simp [hx])
      have hm2 : ∀ x ∈ m, isDig x = true := fun x hx => hm' x (by simp [hx])
      rw [numVal_cons, numVal_cons]
      by_cases e : c = d
      · subst e
        have := ih m hlen hl2 hm2 (a * 10 + digVal c)
        simp [Go.Op.bytesLess, this.1, ← this.2]
      · have hne : digVal c ≠ digVal d := by
          intro h; apply e; apply UInt8.toNat_inj.1; unfold digVal at h; unfold isDig at hc hd; simp at hc hd; omega
        have l1 := numVal_lt l hl2 (a * 10 + digVal c)
        have g1 := numVal_ge' l (a * 10 + digVal c)
        have l2 := numVal_lt m hm2 (a * 10 + digVal d)
        have g2 := numVal_ge' m (a * 10 + digVal d)
        rw [← hlen] at l2 g2
        have hcd : c < d ↔ digVal c < digVal d := by
          rw [UInt8.lt_iff_toNat_lt]; unfold digVal; unfold isDig at hc hd; simp at hc hd; omega
        simp only [Go.Op.bytesLess, beq_eq_false_iff_ne.2 e, Bool.false_and, Bool.or_false]
        have key : ∀ p q : Nat, p < q → (p + 1) * 10 ^ l.length ≤ q * 10 ^ l.length := fun p q h => Nat.mul_le_mul_right _ h
        rcases Nat.lt_or_gt_of_ne hne with h | h
        · have := key (a * 10 + digVal c) (a * 10 + digVal d) (by omega)
          have h3 : numVal l (a * 10 + digVal c) < numVal m (a * 10 + digVal d) := by omega
          have h4 : (c == d) = false := beq_eq_false_iff_ne.2 e
          refine ⟨by simp [hcd.2 h, h3], ?_⟩
          rw [show ((c :: l) == (d :: m)) = false by simp [e]]; simp; omega
        · have := key (a * 10 + digVal d) (a * 10 + digVal c) (by omega)
          have h3 : numVal m (a * 10 + digVal d) < numVal l (a * 10 + digVal c) := by omega
          refine ⟨by simp [hcd]; omega, ?_⟩
          rw [show ((c :: l) == (d :: m)) = false by simp [e]]; simp; omega
def greatB (l m : List UInt8) : Bool := if l.length ≠ m.length then decide (m.length < l.length) else (!Go.Op.bytesLess l m && !(l == m))
def mostL (minus : Bool) : List UInt8 := if minus then [57, 50, 50, 51, 51, 55, 50, 48, 51, 54, 56, 53, 52, 55, 55, 53, 56, 48, 56] else [57, 50, 50, 51, 51, 55, 50, 48, 51, 54, 56, 53, 52, 55, 55, 53, 56, 48, 55]
theorem mostL_val (m : Bool) : numVal (mostL m) 0 = most m ∧ (mostL m).length = 19 ∧ ∀ c ∈ mostL m, isDig c = true := by
  cases m <;> decide
/-- Digits with no 0 ahead are more than the greatest number just where their value is. -/
theorem greatB_val (l : List UInt8) (m : Bool) (hd : ∀ c ∈ l, isDig c = true) (hz : ∀ c r, l = c :: r → c.toNat = 48 → r = []) :
    greatB l (mostL m) = !valB (numVal l 0) m := by
  obtain ⟨h1, h2, h3⟩ := mostL_val m
  have hm : most m ≤ 9223372036854775808 := by unfold most; split <;> omega
  have hm' : 9223372036854775807 ≤ most m := by unfold most; split <;> omega
  unfold greatB valB
  by_cases hl : l.length = 19
  · rw [if_neg (by rw [hl, h2]; simp), (less_numVal l (mostL m) (by rw [hl, h2]) hd h3 0).1, (less_numVal l (mostL m) (by rw [hl, h2]) hd h3 0).2, h1]
    by_cases a : numVal l 0 < most m
    · simp [a]; omega
    · by_cases b : numVal l 0 = most m
      · simp [b]
      · simp [a, b]; omega
  · rw [if_pos (by rw [h2]; exact hl), h2]
    have hlt := numVal_lt l hd 0
    by_cases hlen : l.length < 19
    · have : 10 ^ l.length ≤ 10 ^ 18 := Nat.pow_le_pow_right (by omega) (by omega)
      have : numVal l 0 ≤ most m := by omega
      simp [this]; omega
    · have hlen' : 19 < l.length := by omega
      cases l with
      | nil => simp at hlen'
      | cons c r =>
        have hc : c.toNat ≠ 48 := fun h => by have := hz c r rfl h; subst this; simp at hlen'
        have hc1 : 1 ≤ digVal c := by have := hd c (by simp); unfold isDig at this; simp at this; unfold digVal; omega
        have hge := numVal_ge' r (digVal c)
        have hp : 10 ^ 19 ≤ 10 ^ r.length := Nat.pow_le_pow_right (by omega) (by simp at hlen'; omega)
        have hmul : 1 * 10 ^ r.length ≤ digVal c * 10 ^ r.length := Nat.mul_le_mul_right _ hc1
        have : numVal (c :: r) 0 = numVal r (digVal c) := by simp [numVal_cons]
        rw [this]
        have hbig : most m < numVal r (digVal c) := by omega
        simp [Nat.not_le.2 hbig]; simpa using hlen'

/-- Where a run of digits begins and ends. -/
theorem runL_at (s : ByteArray) : ∀ (n fr : Nat), s.size - fr ≤ n → (∀ j (h : j < s.size), fr ≤ j → j < fr + runL (s.data.toList.drop fr) → isDig s[j] = true) ∧ (∀ (h : fr + runL (s.data.toList.drop fr) < s.size), isDig s[fr + runL (s.data.toList.drop fr)] = false) := by
  intro n
  induction n with
  | zero =>
    intro fr hn
    rw [drop_all s fr (by omega)]
    exact ⟨fun j h h1 h2 => by omega, fun h => by simp [runL] at h; omega⟩
  | succ n ih =>
    intro fr hn
    by_cases hlt : fr < s.size
    · obtain ⟨i1, i2⟩ := ih (fr + 1) (by omega)
      have e := toList_drop_cons s fr hlt
      cases hd : isDig s[fr] with
      | true =>
        have er : runL (s.data.toList.drop fr) = runL (s.data.toList.drop (fr + 1)) + 1 := by rw [e]; simp [runL, hd]
        have e2 : fr + runL (s.data.toList.drop fr) = fr + 1 + runL (s.data.toList.drop (fr + 1)) := by omega
        refine ⟨fun j h h1 h2 => ?_, fun h => ?_⟩
        · rcases Nat.lt_or_ge fr j with h3 | h3
          · exact i1 j h (by omega) (by omega)
          · obtain rfl : j = fr := by omega
            exact hd
        · have := i2 (by omega); simp only [e2]; exact this
      | false =>
        have er : runL (s.data.toList.drop fr) = 0 := by rw [e]; simp [runL, hd]
        refine ⟨fun j h h1 h2 => by omega, fun h => ?_⟩
        simp only [er, Nat.add_zero]; exact hd
    · rw [drop_all s fr (by omega)]
      exact ⟨fun j h h1 h2 => by omega, fun h => by simp [runL] at h; omega⟩
theorem take_drop_cons (s : ByteArray) (i E : Nat) (h : i < E) (hE : E ≤ s.size) : (s.data.toList.drop i).take (E - i) = s[i]'(by omega) :: (s.data.toList.drop (i + 1)).take (E - (i + 1)) := by
  rw [toList_drop_cons s i (by omega), show E - i = (E - (i + 1)) + 1 by omega, List.take_succ_cons]

theorem take_ways (s : ByteArray) (k fr : Nat) (m : Bool) (hk : k ≤ s.size) (hmm : (s.data.toList[k]? == some 45) = m) (hfr : fr = if m then k + 1 else k) (hle : fr ≤ s.size) :
    ∃ E : Nat, fr ≤ E ∧ E ≤ s.size ∧ (∀ j (h : j < s.size), fr ≤ j → j < E → isDig s[j] = true) ∧ (∀ h : E < s.size, isDig s[E] = false)
      ∧ (E = fr → fr = s.size → takeS s.data.toList k = (0, 0, 5, (E : Int))) ∧ (E = fr → fr < s.size → takeS s.data.toList k = (0, 0, 19, (E : Int)))
      ∧ (∀ h : fr < s.size, fr < E → s[fr].toNat = 48 → (1 < E - fr ∨ m = true) → takeS s.data.toList k = (0, 0, 19, (k : Int)))
      ∧ (∀ h : fr < s.size, fr < E → ¬ (s[fr].toNat = 48 ∧ (1 < E - fr ∨ m = true)) →
          greatB ((s.data.toList.drop fr).take (E - fr)) (mostL m) = !valB (numVal ((s.data.toList.drop fr).take (E - fr)) 0) m
          ∧ takeS s.data.toList k = if valB (numVal ((s.data.toList.drop fr).take (E - fr)) 0) m then (valN (numVal ((s.data.toList.drop fr).take (E - fr)) 0) m, (E : Int), 0, 0) else (0, 0, 13, (k : Int))) := by
  obtain ⟨w0, w1, w2, w3⟩ := takeAt_ways s.data.toList k m hmm fr hfr _ rfl
  obtain ⟨hd1, hd2⟩ := runL_at s s.size fr (by omega)
  have hle2 := runL_drop_le s.data.toList fr (by rw [toList_length]; exact hle)
  have hall := runL_all (s.data.toList.drop fr) _ (Nat.le_refl _)
  rw [toList_length] at hle2 w0 w1
  rw [takeS_in _ _ (by rw [toList_length]; exact hk)]
  refine ⟨fr + runL (s.data.toList.drop fr), by omega, hle2, hd1, hd2, ?_, ?_, ?_, ?_⟩
  · intro h1 h2; rw [w0 ⟨by omega, h2⟩, h1]
  · intro h1 h2; rw [w1 ⟨by omega, by omega⟩, h1]
  · intro h h1 h2 h3
    have hgz : s.data.toList[fr]? = some s[fr] := by rw [List.getElem?_eq_getElem (by rw [toList_length]; exact h)]; rfl
    refine w2 (by omega) ⟨?_, by rw [show fr + runL (s.data.toList.drop fr) - fr = runL (s.data.toList.drop fr) by omega] at h3; exact h3⟩
    rw [hgz]; congr 1; exact UInt8.toNat_inj.1 h2
  · intro h h1 h2
    have hgz : s.data.toList[fr]? = some s[fr] := by rw [List.getElem?_eq_getElem (by rw [toList_length]; exact h)]; rfl
    have e : fr + runL (s.data.toList.drop fr) - fr = runL (s.data.toList.drop fr) := by omega
    rw [e] at h2 ⊢
    refine ⟨greatB_val _ m hall ?_, ?_⟩
    · intro c r hcr hc
      have e2 := take_drop_cons s fr (fr + runL (s.data.toList.drop fr)) (by omega) hle2
      rw [e, hcr] at e2
      have ec : c = s[fr] := (List.cons.inj e2).1
      have er := (List.cons.inj e2).2
      have hn : ¬ 1 < runL (s.data.toList.drop fr) := fun h3 => h2 ⟨by rw [← ec]; exact hc, Or.inl h3⟩
      rw [er]; simp; omega
    · rw [w3 (by omega) (fun hh => h2 ⟨?_, hh.2⟩)]; simp
      have := hh.1; rw [hgz] at this; have := Option.some.inj this; rw [this]; rfl
end Bf
