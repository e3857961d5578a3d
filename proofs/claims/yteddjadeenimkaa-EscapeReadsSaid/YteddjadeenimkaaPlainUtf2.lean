/- Plain facts: the reference's way to decode is the table's. No program in sight. -/
import Derived.Test.YteddjadeenimkaaPlainUtf
set_option linter.unusedVariables false
set_option linter.unusedSimpArgs false
namespace Bf
theorem u8_toNat (x : Int) (h0 : 0 ≤ x) (h1 : x < 256) : ((u8 x).toNat : Int) = x := by
  unfold u8; rw [UInt8.toNat_ofNat', Nat.mod_eq_of_lt (by omega)]; omega
theorem u8_eq (x : Int) (a : UInt8) (h0 : 0 ≤ x) (h1 : x < 256) (h : x = a.toNat) : u8 x = a := by
  apply UInt8.toNat_inj.1; have := u8_toNat x h0 h1; omega
theorem lead1 (x : Int) (h : x < 128) : leadS x = (1, 128, 191) := by unfold leadS; rw [if_pos h]
theorem lead0 (x : Int) (h : 128 ≤ x) (h' : x < 194) : leadS x = (0, 128, 191) := by unfold leadS; rw [if_neg (by omega), if_pos h']
theorem lead0' (x : Int) (h : 244 < x) : leadS x = (0, 128, 191) := by
  unfold leadS; rw [if_neg (by omega), if_neg (by omega), if_neg (by omega), if_neg (by omega), if_neg (by omega), if_neg (by omega), if_neg (by omega), if_neg (by omega), if_neg (by omega), if_neg (by omega)]
theorem lead2 (x : Int) (h : 194 ≤ x) (h' : x < 224) : leadS x = (2, 128, 191) := by unfold leadS; rw [if_neg (by omega), if_neg (by omega), if_pos h']
theorem lead3 (x : Int) (h : 224 ≤ x) (h' : x < 240) : leadS x = (3, if x = 224 then 160 else 128, if x = 237 then 159 else 191) := by
  unfold leadS; rw [if_neg (by omega), if_neg (by omega), if_neg (by omega)]
  by_cases a : x = 224
  · subst a; rfl
  · rw [if_neg a, if_neg a]
    by_cases b : x < 237
    · rw [if_pos b, if_neg (by omega)]
    · by_cases c : x = 237
      · subst c; rfl
      · rw [if_neg b, if_neg c, if_neg c, if_pos h']
theorem lead4 (x : Int) (h : 240 ≤ x) (h' : x ≤ 244) : leadS x = (4, if x = 240 then 144 else 128, if x = 244 then 143 else 191) := by
  unfold leadS; rw [if_neg (by omega), if_neg (by omega), if_neg (by omega), if_neg (by omega), if_neg (by omega), if_neg (by omega), if_neg (by omega)]
  by_cases a : x = 240
  · subst a; rfl
  · rw [if_neg a, if_neg a]
    by_cases b : x < 244
    · rw [if_pos b, if_neg (by omega)]
    · have : x = 244 := by omega
      subst this; rfl
/-- May a byte stand second behind a lead? -/
def good2 (a b : UInt8) : Prop := (leadS a.toNat).2.1 ≤ (b.toNat : Int) ∧ (b.toNat : Int) ≤ (leadS a.toNat).2.2
instance (a b : UInt8) : Decidable (good2 a b) := by unfold good2; infer_instance
def cont (c : UInt8) : Prop := 128 ≤ (c.toNat : Int) ∧ (c.toNat : Int) ≤ 191
instance (c : UInt8) : Decidable (cont c) := by unfold cont; infer_instance
def want (a : UInt8) : Int := (leadS a.toNat).1
theorem decS_0 (a : UInt8) (t : List UInt8) (h : want a = 0) : decS (a :: t) = (0, 1, false) := by unfold want at h; unfold decS; simp only; rw [if_pos h]
theorem decS_1 (a : UInt8) (t : List UInt8) (h : want a = 1) : decS (a :: t) = ((a.toNat : Int), 1, true) := by
  unfold want at h; unfold decS; simp only; rw [if_neg (by omega), h]; simp [scanL, valL]
theorem decS_k1 (a : UInt8) (h : 2 ≤ want a) : decS [a] = (0, 1, false) := by
  unfold want at h; unfold decS; simp only; rw [if_neg (by omega), if_neg]
  · have : scanL (leadS a.toNat).2.1 (leadS a.toNat).2.2 ((leadS a.toNat).1.toNat - 1) [] = 0 := by have := (scanL_le (leadS a.toNat).2.1 (leadS a.toNat).2.2 ((leadS a.toNat).1.toNat - 1) []).2; simpa using this
    rw [this]
  · have : scanL (leadS a.toNat).2.1 (leadS a.toNat).2.2 ((leadS a.toNat).1.toNat - 1) [] = 0 := by have := (scanL_le (leadS a.toNat).2.1 (leadS a.toNat).2.2 ((leadS a.toNat).1.toNat - 1) []).2; simpa using this
    rw [this]; omega
theorem decS_bad2 (a b : UInt8) (t : List UInt8) (h : 2 ≤ want a) (hb : ¬ good2 a b) : decS (a :: b :: t) = (0, 1, false) := by
  unfold want at h; unfold good2 at hb; unfold decS; simp only
  obtain ⟨m, hm⟩ : ∃ m, (leadS a.toNat).1.toNat - 1 = m + 1 := ⟨(leadS a.toNat).1.toNat - 2, by omega⟩
  rw [if_neg (by omega), hm]; simp only [scanL, if_neg hb]; rw [if_neg (by omega)]
theorem decS_2 (a b : UInt8) (t : List UInt8) (h : want a = 2) (hb : good2 a b) : decS (a :: b :: t) = (valL [a, b], 2, true) := by
  unfold want at h; unfold good2 at hb; unfold decS; simp only; rw [if_neg (by omega), h]
  simp [scanL, hb]
theorem decS_k2 (a b : UInt8) (h : 3 ≤ want a) (hb : good2 a b) : decS [a, b] = (0, 2, false) := by
  have h4 := (leadS_bd a.toNat).2
  unfold want at h; unfold good2 at hb; unfold decS; simp only
  rcases (by omega : (leadS a.toNat).1 = 3 ∨ (leadS a.toNat).1 = 4) with e | e <;> (rw [if_neg (by omega), e]; simp [scanL, hb])
theorem decS_bad3 (a b c : UInt8) (t : List UInt8) (h : 3 ≤ want a) (hb : good2 a b) (hc : ¬ cont c) : decS (a :: b :: c :: t) = (0, 2, false) := by
  have h4 := (leadS_bd a.toNat).2
  unfold want at h; unfold good2 at hb; unfold cont at hc; unfold decS; simp only
  rcases (by omega : (leadS a.toNat).1 = 3 ∨ (leadS a.toNat).1 = 4) with e | e
  · rw [if_neg (by omega), e]; simp only [show (3 : Int).toNat - 1 = 2 from rfl, scanL, if_pos hb, if_neg hc]; rfl
  · rw [if_neg (by omega), e]; simp only [show (4 : Int).toNat - 1 = 3 from rfl, scanL, if_pos hb, if_neg hc]; rfl
theorem decS_3 (a b c : UInt8) (t : List UInt8) (h : want a = 3) (hb : good2 a b) (hc : cont c) : decS (a :: b :: c :: t) = (valL [a, b, c], 3, true) := by
  unfold want at h; unfold good2 at hb; unfold cont at hc; unfold decS; simp only; rw [if_neg (by omega), h]
  simp only [show (3 : Int).toNat - 1 = 2 from rfl, scanL, if_pos hb, if_pos hc]; rfl
theorem decS_k3 (a b c : UInt8) (h : want a = 4) (hb : good2 a b) (hc : cont c) : decS [a, b, c] = (0, 3, false) := by
  unfold want at h; unfold good2 at hb; unfold cont at hc; unfold decS; simp only; rw [if_neg (by omega), h]
  simp only [show (4 : Int).toNat - 1 = 3 from rfl, scanL, if_pos hb, if_pos hc]; rfl
theorem decS_bad4 (a b c d : UInt8) (t : List UInt8) (h : want a = 4) (hb : good2 a b) (hc : cont c) (hd : ¬ cont d) : decS (a :: b :: c :: d :: t) = (0, 3, false) := by
  unfold want at h; unfold good2 at hb; unfold cont at hc hd; unfold decS; simp only; rw [if_neg (by omega), h]
  simp only [show (4 : Int).toNat - 1 = 3 from rfl, scanL, if_pos hb, if_pos hc, if_neg hd]; rfl
theorem decS_4 (a b c d : UInt8) (t : List UInt8) (h : want a = 4) (hb : good2 a b) (hc : cont c) (hd : cont d) : decS (a :: b :: c :: d :: t) = (valL [a, b, c, d], 4, true) := by
  unfold want at h; unfold good2 at hb; unfold cont at hc hd; unfold decS; simp only; rw [if_neg (by omega), h]
  simp only [show (4 : Int).toNat - 1 = 3 from rfl, scanL, if_pos hb, if_pos hc, if_pos hd]; rfl
/-- What a lead's number says of it, and of the second byte. -/
theorem want_cases (a : UInt8) : (want a = 0 ∧ (128 ≤ (a.toNat : Int) ∧ (a.toNat : Int) < 194 ∨ 244 < (a.toNat : Int))) ∨ (want a = 1 ∧ (a.toNat : Int) < 128)
    ∨ (want a = 2 ∧ 194 ≤ (a.toNat : Int) ∧ (a.toNat : Int) < 224 ∧ ∀ b, good2 a b ↔ cont b)
    ∨ (want a = 3 ∧ 224 ≤ (a.toNat : Int) ∧ (a.toNat : Int) < 240 ∧ ∀ b, good2 a b ↔ cont b ∧ ((a.toNat : Int) = 224 → 160 ≤ (b.toNat : Int)) ∧ ((a.toNat : Int) = 237 → (b.toNat : Int) ≤ 159))
    ∨ (want a = 4 ∧ 240 ≤ (a.toNat : Int) ∧ (a.toNat : Int) ≤ 244 ∧ ∀ b, good2 a b ↔ cont b ∧ ((a.toNat : Int) = 240 → 144 ≤ (b.toNat : Int)) ∧ ((a.toNat : Int) = 244 → (b.toNat : Int) ≤ 143)) := by
  unfold want good2 cont
  generalize (a.toNat : Int) = x at *
  by_cases h1 : x < 128
  · rw [lead1 x h1]; exact Or.inr (Or.inl ⟨rfl, h1⟩)
  by_cases h2 : x < 194
  · rw [lead0 x (by omega) h2]; exact Or.inl ⟨rfl, Or.inl ⟨by omega, h2⟩⟩
  by_cases h3 : x < 224
  · rw [lead2 x (by omega) h3]; exact Or.inr (Or.inr (Or.inl ⟨rfl, by omega, h3, fun b => Iff.rfl⟩))
  by_cases h4 : x < 240
  · rw [lead3 x (by omega) h4]
    refine Or.inr (Or.inr (Or.inr (Or.inl ⟨rfl, by omega, h4, fun b => ?_⟩)))
    simp only; generalize (b.toNat : Int) = y
    split <;> split <;> omega
  by_cases h5 : x ≤ 244
  · rw [lead4 x (by omega) h5]
    refine Or.inr (Or.inr (Or.inr (Or.inr ⟨rfl, by omega, h5, fun b => ?_⟩)))
    simp only; generalize (b.toNat : Int) = y
    split <;> split <;> omega
  · rw [lead0' x (by omega)]; exact Or.inl ⟨rfl, Or.inr (by omega)⟩
end Bf
