/- Plain facts: a number's text is read back as that number; digits that are read are that number's text. -/
import Derived.Test.YteohofgmkiagoaaPlain2
set_option linter.unusedVariables false
set_option linter.unusedSimpArgs false
namespace Bf
theorem isDig_ofNat (d : Nat) (h : d < 10) : isDig (UInt8.ofNat (48 + d)) = true ∧ digVal (UInt8.ofNat (48 + d)) = d := by
  have : (UInt8.ofNat (48 + d)).toNat = 48 + d := by simp; omega
  unfold isDig digVal; rw [this]; simp; omega
theorem numVal_append (l m : List UInt8) (a : Nat) : numVal (l ++ m) a = numVal m (numVal l a) := by
  induction l generalizing a with
  | nil => rfl
  | cons c l ih => simp [numVal, ih]
theorem decL_facts (n : Nat) : (∀ c ∈ decL n, isDig c = true) ∧ numVal (decL n) 0 = n ∧ decL n ≠ [] ∧ (∀ c r, decL n = c :: r → c.toNat = 48 → n = 0) := by
  induction n using Nat.strongRecOn with
  | _ n ih =>
    by_cases h : n < 10
    · obtain ⟨h1, h2⟩ := isDig_ofNat n h
      have h3 : (UInt8.ofNat (48 + n)).toNat = 48 + n := by simp; omega
      rw [decL_lt n h]
      generalize UInt8.ofNat (48 + n) = x at *
      refine ⟨by simpa using h1, by simp [numVal, h2], by simp, ?_⟩
      intro c r hcr hc
      obtain ⟨rfl, _⟩ := List.cons.inj hcr
      omega
    · obtain ⟨i1, i2, i3, i4⟩ := ih (n / 10) (by omega)
      obtain ⟨h1, h2⟩ := isDig_ofNat (n % 10) (by omega)
      rw [decL_ge n h]
      generalize UInt8.ofNat (48 + n % 10) = x at *
      refine ⟨?_, ?_, by simp, ?_⟩
      · intro c hc; simp at hc; rcases hc with hc | hc
        · exact i1 c hc
        · subst hc; exact h1
      · rw [numVal_append, i2]; simp [numVal, h2]; omega
      · intro c r hcr hc
        cases hd : decL (n / 10) with
        | nil => exact absurd hd i3
        | cons d q => rw [hd] at hcr; have := (List.cons.inj hcr).1; subst this; have := i4 d q hd hc; omega
/-- Digits with no 0 ahead are the text of their value. -/
theorem decL_numVal (l : List UInt8) : ∀ (n : Nat), l.length = n → (∀ c ∈ l, isDig c = true) → l ≠ [] → (∀ c r, l = c :: r → c.toNat = 48 → r = []) → decL (numVal l 0) = l := by
  intro n
  induction n generalizing l with
  | zero => intro h _ hne; exact absurd (List.length_eq_zero_iff.1 h) hne
  | succ n ih =>
    intro hlen hd hne hz
    obtain ⟨m, c, rfl⟩ : ∃ m c, l = m ++ [c] := ⟨l.dropLast, l.getLast hne, (List.dropLast_concat_getLast hne).symm⟩
    have hc := hd c (by simp)
    have hcv : digVal c < 10 ∧ UInt8.ofNat (48 + digVal c) = c := by
      have := hc; unfold isDig at this; simp at this; unfold digVal
      refine ⟨by omega, ?_⟩
      apply UInt8.toNat_inj.1; simp; omega
    rw [numVal_append]
    simp only [numVal]
    by_cases hm : m = []
    · subst hm; simp only [numVal]; rw [decL_lt _ (by omega)]; simp [hcv.2]
    · have hm1 : ∀ d ∈ m, isDig d = true := fun d h => hd d (by simp [h])
      have hm2 : ∀ d r, m = d :: r → d.toNat = 48 → r = [] := by
        intro d r hr h48
        have := hz d (r ++ [c]) (by rw [hr]; rfl) h48
        simp at this
      have e := ih m (by simpa using hlen) hm1 hm hm2
      have hpos : numVal m 0 ≠ 0 := by
        intro h0; rw [h0] at e
        rw [decL_lt 0 (by omega)] at e
        have := hz (UInt8.ofNat (48 + 0)) [c] (by rw [← e]; rfl) (by decide)
        simp at this
      rw [decL_ge _ (by omega), show (numVal m 0 * 10 + digVal c) / 10 = numVal m 0 by omega, show (numVal m 0 * 10 + digVal c) % 10 = digVal c by omega, e, hcv.2]
theorem runL_append (l t : List UInt8) (hd : ∀ c ∈ l, isDig c = true) (ht : ∀ c r, t = c :: r → isDig c = false) : runL (l ++ t) = l.length := by
  induction l with
  | nil => cases t with
    | nil => rfl
    | cons c r => simp [runL, ht c r rfl]
  | cons c l ih => simp [runL, hd c (by simp), ih (fun x hx => hd x (by simp [hx]))]
/-- A number's text is read, whatever stands behind it but a digit. -/
theorem takeS_putL (n : Int) (t : List UInt8) (hn : -9223372036854775808 ≤ n ∧ n ≤ 9223372036854775807) (ht : ∀ c r, t = c :: r → isDig c = false) :
    takeS (putL n ++ t) 0 = (n, ((putL n).length : Int), 0, 0) := by
  have h0 := takeS_in (putL n ++ t) 0 (Nat.zero_le _)
  simp only [Int.natCast_zero, Int.cast_ofNat_Int] at h0
  rw [h0]
  obtain ⟨d1, d2, d3, d4⟩ := decL_facts n.natAbs
  have hr := runL_append (decL n.natAbs) t d1 ht
  have hlen : (decL n.natAbs).length ≠ 0 := fun h => d3 (List.length_eq_zero_iff.1 h)
  by_cases hneg : n < 0
  · have hp : putL n = 45 :: decL n.natAbs := by unfold putL; rw [if_pos hneg]
    have w := (takeAt_ways (putL n ++ t) 0 true (by rw [hp]; rfl) 1 rfl (decL n.natAbs).length (by rw [hp]; exact hr)).2.2.2
    rw [w hlen ?_]
    · have hx : ((putL n ++ t).drop 1).take (decL n.natAbs).length = decL n.natAbs := by rw [hp]; simp
      rw [hx, d2]
      obtain ⟨e1, e2⟩ := val_minus n.natAbs (by omega)
      rw [e1, if_pos rfl, e2, hp]; simp; omega
    · rintro ⟨h1, _⟩
      rw [hp] at h1
      cases hd : decL n.natAbs with
      | nil => exact d3 hd
      | cons c r =>
        rw [hd] at h1; simp at h1
        have := d4 c r hd (by rw [h1]; rfl)
        omega
  · have hp : putL n = decL n.natAbs := by unfold putL; rw [if_neg hneg]
    have hm : ((putL n ++ t)[0]? == some 45) = false := by
      rw [hp]
      cases hd : decL n.natAbs with
      | nil => exact absurd hd d3
      | cons c r => simp; intro h; have := d1 c (by rw [hd]; simp); rw [h] at this; revert this; decide
    have w := (takeAt_ways (putL n ++ t) 0 false hm 0 rfl (decL n.natAbs).length (by rw [hp]; exact hr)).2.2.2
    rw [w hlen ?_]
    · have hx : ((putL n ++ t).drop 0).take (decL n.natAbs).length = decL n.natAbs := by rw [hp]; simp
      rw [hx, d2]
      obtain ⟨e1, e2⟩ := val_plus n.natAbs (by omega)
      rw [e1, if_pos rfl, e2, hp]; simp; omega
    · rintro ⟨h1, h2⟩
      rw [hp] at h1
      cases hd : decL n.natAbs with
      | nil => exact d3 hd
      | cons c r =>
        rw [hd] at h1 h2; simp at h1 h2
        have h3 := d4 c r hd (by rw [h1]; rfl)
        rw [h3, decL_lt 0 (by omega)] at hd
        have := (List.cons.inj hd).2
        rw [← this] at h2; simp at h2
theorem parseS_putL (n : Int) (hn : -9223372036854775808 ≤ n ∧ n ≤ 9223372036854775807) : parseS (putL n) = (n, 0, 0) := by
  have := takeS_putL n [] hn (by simp)
  rw [List.append_nil] at this
  unfold parseS; simp [this]
/-- A text that is a number is that number's. -/
theorem putL_parseS (l : List UInt8) (x : Int) (h : parseS l = (x, 0, 0)) : putL x = l := by
  unfold parseS at h
  simp only at h
  by_cases he : (takeS l 0).2.2.1 = 0
  · rw [if_neg (by simpa using he)] at h
    by_cases hl : (takeS l 0).2.1 < l.length
    · rw [if_pos hl] at h; simp at h
    · rw [if_neg hl] at h
      have hx : (takeS l 0).1 = x := (Prod.mk.inj h).1
      have h0 := takeS_in l 0 (Nat.zero_le _)
      rw [show ((0 : Nat) : Int) = 0 from rfl] at h0
      rw [h0] at he hl hx
      generalize hm : (l[0]? == some 45) = m at *
      obtain ⟨fr, hfr⟩ : ∃ fr, fr = if m then 0 + 1 else 0 := ⟨_, rfl⟩
      obtain ⟨w0, w1, w2, w3⟩ := takeAt_ways l 0 m hm fr hfr _ rfl
      by_cases hz : runL (l.drop fr) = 0
      · by_cases e : fr = l.length
        · rw [w0 ⟨hz, e⟩] at he; simp at he
        · rw [w1 ⟨hz, e⟩] at he; simp at he
      · by_cases hb : l[fr]? = some 48 ∧ (1 < runL (l.drop fr) ∨ m = true)
        · rw [w2 hz hb] at he; simp at he
        · have w := w3 hz hb
          obtain ⟨ds, hds⟩ : ∃ ds, (l.drop fr).take (runL (l.drop fr)) = ds := ⟨_, rfl⟩
          rw [hds] at w
          by_cases hv : valB (numVal ds 0) m = true
          · rw [if_pos hv] at w
            rw [w] at hl hx
            simp only at hl hx
            have hle := runL_le (l.drop fr)
            have hall : l.drop fr = ds := by rw [← hds, List.take_of_length_le]; simp at hle ⊢; omega
            have hdig : ∀ c ∈ ds, isDig c = true := by rw [← hds]; exact runL_all _ _ (Nat.le_refl _)
            have hne : ds ≠ [] := by intro h; rw [hall, h] at hz; exact hz rfl
            have hz2 : ∀ c r, ds = c :: r → c.toNat = 48 → r = [] := by
              intro c r hcr hc
              have h1 : l[fr]? = some 48 := by
                have : (l.drop fr)[0]? = some c := by rw [hall, hcr]; rfl
                rw [List.getElem?_drop] at this; simp at this; rw [this]; congr 1; exact UInt8.toNat_inj.1 hc
              have h2 : ¬ 1 < runL (l.drop fr) := fun h => hb ⟨h1, Or.inl h⟩
              have h3 : runL (l.drop fr) = (l.drop fr).length := by
                have : ds.length ≤ runL (l.drop fr) := by rw [← hds]; simp; omega
                rw [hall] at this ⊢; have := runL_le ds; omega
              rw [h3, hall, hcr] at h2
              cases r with
              | nil => rfl
              | cons a b => simp at h2
            have hdec := decL_numVal ds _ rfl hdig hne hz2
            cases m with
            | false =>
              simp at hfr; subst hfr
              have hvle : numVal ds 0 ≤ 9223372036854775807 := by unfold valB most at hv; simpa using hv
              rw [(val_plus _ (by omega)).2] at hx
              subst hx
              unfold putL; rw [if_neg (by omega)]; simp only [Int.natAbs_natCast]; rw [hdec, ← hall]; rfl
            | true =>
              simp at hfr; subst hfr
              have hvle : numVal ds 0 ≤ 9223372036854775808 := by unfold valB most at hv; simpa using hv
              rw [(val_minus _ hvle).2] at hx
              have hpos : numVal ds 0 ≠ 0 := by
                intro h; rw [h, decL_lt 0 (by omega)] at hdec
                have h1 : l[1]? = some 48 := by
                  have : (l.drop 1)[0]? = some 48 := by rw [hall, ← hdec]; rfl
                  rw [List.getElem?_drop] at this; simpa using this
                exact hb ⟨h1, Or.inr rfl⟩
              subst hx
              unfold putL; rw [if_pos (by omega)]; simp only [Int.natAbs_neg, Int.natAbs_natCast]; rw [hdec, ← hall]
              cases l with
              | nil => simp at hm
              | cons c l => simp at hm; rw [hm]; rfl
          · rw [if_neg hv] at w; rw [w] at he; simp at he
  · rw [if_pos he] at h; simp at h; exact absurd h.2.1 he
theorem valN_bd (v : Nat) (m : Bool) : -9223372036854775808 ≤ valN v m ∧ valN v m ≤ 9223372036854775807 := by
  unfold valN most; cases m <;> simp <;> split <;> omega
theorem ite_ind {α : Type} (P : α → Prop) (c : Prop) [Decidable c] (x y : α) (hx : P x) (hy : P y) : P (if c then x else y) := by split <;> assumption
def InI (r : Int × Int × Int × Int) : Prop := -9223372036854775808 ≤ r.1 ∧ r.1 ≤ 9223372036854775807
theorem takeS_bd (l : List UInt8) (a : Int) : InI (takeS l a) := by
  have z : ∀ x, InI (0, x) := fun x => by unfold InI; simp
  unfold takeS takeAt
  refine ite_ind InI _ _ _ (z _) (ite_ind InI _ _ _ (z _) (ite_ind InI _ _ _ (z _) (ite_ind InI _ _ _ (valN_bd _ _) (z _))))
theorem parseS_bd (l : List UInt8) (x f a : Int) (h : parseS l = (x, f, a)) : -9223372036854775808 ≤ x ∧ x ≤ 9223372036854775807 := by
  have := takeS_bd l 0
  unfold parseS at h; simp only at h
  split at h
  · obtain ⟨rfl, _⟩ := Prod.mk.inj h; decide
  · split at h
    · obtain ⟨rfl, _⟩ := Prod.mk.inj h; decide
    · obtain ⟨rfl, _⟩ := Prod.mk.inj h; exact this
end Bf
