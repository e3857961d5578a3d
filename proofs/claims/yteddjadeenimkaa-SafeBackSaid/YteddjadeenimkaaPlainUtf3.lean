/- Plain facts: what is encoded is decoded, and what is well-formed is what its scalar is encoded as; the reference's Decode. No program in sight. -/
import Derived.Test.YteddjadeenimkaaPlainUtf2
set_option linter.unusedVariables false
set_option linter.unusedSimpArgs false
namespace Bf
theorem want1 (a : UInt8) (h : (a.toNat : Int) < 128) : want a = 1 := by rcases want_cases a with ⟨h1, h2⟩ | ⟨h1, h2⟩ | ⟨h1, h2, h3, _⟩ | ⟨h1, h2, h3, _⟩ | ⟨h1, h2, h3, _⟩ <;> omega
theorem want2 (a : UInt8) (h : 194 ≤ (a.toNat : Int)) (h' : (a.toNat : Int) < 224) : want a = 2 ∧ ∀ b, good2 a b ↔ cont b := by
  rcases want_cases a with ⟨h1, h2⟩ | ⟨h1, h2⟩ | ⟨h1, h2, h3, h4⟩ | ⟨h1, h2, h3, _⟩ | ⟨h1, h2, h3, _⟩
  · omega
  · omega
  · exact ⟨h1, h4⟩
  · omega
  · omega
theorem want3 (a : UInt8) (h : 224 ≤ (a.toNat : Int)) (h' : (a.toNat : Int) < 240) : want a = 3 ∧ ∀ b, good2 a b ↔ cont b ∧ ((a.toNat : Int) = 224 → 160 ≤ (b.toNat : Int)) ∧ ((a.toNat : Int) = 237 → (b.toNat : Int) ≤ 159) := by
  rcases want_cases a with ⟨h1, h2⟩ | ⟨h1, h2⟩ | ⟨h1, h2, h3, h4⟩ | ⟨h1, h2, h3, h4⟩ | ⟨h1, h2, h3, _⟩
  · omega
  · omega
  · omega
  · exact ⟨h1, h4⟩
  · omega
theorem want4 (a : UInt8) (h : 240 ≤ (a.toNat : Int)) (h' : (a.toNat : Int) ≤ 244) : want a = 4 ∧ ∀ b, good2 a b ↔ cont b ∧ ((a.toNat : Int) = 240 → 144 ≤ (b.toNat : Int)) ∧ ((a.toNat : Int) = 244 → (b.toNat : Int) ≤ 143) := by
  rcases want_cases a with ⟨h1, h2⟩ | ⟨h1, h2⟩ | ⟨h1, h2, h3, h4⟩ | ⟨h1, h2, h3, h4⟩ | ⟨h1, h2, h3, h4⟩
  · omega
  · omega
  · omega
  · omega
  · exact ⟨h1, h4⟩
theorem dec_enc (n : Int) (t : List UInt8) (h : scalarB n = true) : decS (encL n ++ t) = (n, (encL n).length, true) := by
  obtain ⟨b0, b1, b2⟩ := scalarB_true h
  by_cases c1 : n < 128
  · rw [encL_1 n h c1]
    have e := u8_toNat n b0 (by omega)
    rw [List.cons_append, decS_1 _ _ (want1 _ (by omega)), e]; rfl
  by_cases c2 : n < 2048
  · rw [encL_2 n h c1 c2]
    have e := u8_toNat (192 + n / 64) (by omega) (by omega)
    have e2 := u8_toNat (128 + n % 64) (by omega) (by omega)
    obtain ⟨w, g⟩ := want2 (u8 (192 + n / 64)) (by omega) (by omega)
    rw [List.cons_append, List.cons_append, decS_2 _ _ _ w ((g _).2 ⟨by omega, by omega⟩)]
    simp only [valL, e, e2]
    refine Prod.ext ?_ rfl
    simp only; omega
  by_cases c3 : n < 65536
  · rw [encL_3 n h c1 c2 c3]
    have e := u8_toNat (224 + n / 4096) (by omega) (by omega)
    have e2 := u8_toNat (128 + n / 64 % 64) (by omega) (by omega)
    have e3 := u8_toNat (128 + n % 64) (by omega) (by omega)
    obtain ⟨w, g⟩ := want3 (u8 (224 + n / 4096)) (by omega) (by omega)
    rw [List.cons_append, List.cons_append, List.cons_append, decS_3 _ _ _ _ w ((g _).2 ⟨⟨by omega, by omega⟩, by omega, by omega⟩) ⟨by omega, by omega⟩]
    simp only [valL, e, e2, e3]
    refine Prod.ext ?_ rfl
    simp only; omega
  · rw [encL_4 n h c1 c2 c3]
    have e := u8_toNat (240 + n / 262144) (by omega) (by omega)
    have e2 := u8_toNat (128 + n / 4096 % 64) (by omega) (by omega)
    have e3 := u8_toNat (128 + n / 64 % 64) (by omega) (by omega)
    have e4 := u8_toNat (128 + n % 64) (by omega) (by omega)
    obtain ⟨w, g⟩ := want4 (u8 (240 + n / 262144)) (by omega) (by omega)
    rw [List.cons_append, List.cons_append, List.cons_append, List.cons_append, decS_4 _ _ _ _ _ w ((g _).2 ⟨⟨by omega, by omega⟩, by omega, by omega⟩) ⟨by omega, by omega⟩ ⟨by omega, by omega⟩]
    simp only [valL, e, e2, e3, e4]
    refine Prod.ext ?_ rfl
    simp only; omega
theorem scalarB_mk {n : Int} (h0 : 0 ≤ n) (h1 : n ≤ 1114111) (h2 : n < 55296 ∨ 57343 < n) : scalarB n = true := by
  unfold scalarB; simp; omega
theorem enc_1 (a : UInt8) (h : want a = 1) : scalarB a.toNat = true ∧ encL a.toNat = [a] := by
  have hb := a.toNat_lt
  rcases want_cases a with ⟨h1, h2⟩ | ⟨h1, h2⟩ | ⟨h1, h2, h3, _⟩ | ⟨h1, h2, h3, _⟩ | ⟨h1, h2, h3, _⟩ <;> try omega
  have hs : scalarB a.toNat = true := scalarB_mk (by omega) (by omega) (by omega)
  exact ⟨hs, by rw [encL_1 _ hs (by omega), u8_eq _ a (by omega) (by omega) rfl]⟩
theorem enc_2 (a b : UInt8) (h : want a = 2) (hg : good2 a b) : scalarB (valL [a, b]) = true ∧ encL (valL [a, b]) = [a, b] := by
  have hb := a.toNat_lt
  rcases want_cases a with ⟨h1, h2⟩ | ⟨h1, h2⟩ | ⟨h1, h2, h3, h4⟩ | ⟨h1, h2, h3, _⟩ | ⟨h1, h2, h3, _⟩ <;> try omega
  obtain ⟨g1, g2⟩ := (h4 b).1 hg
  have e : valL [a, b] = (a.toNat : Int) % 32 * 64 + (b.toNat : Int) % 64 := rfl
  have hs : scalarB (valL [a, b]) = true := scalarB_mk (by omega) (by omega) (by omega)
  exact ⟨hs, by rw [encL_2 _ hs (by omega) (by omega), u8_eq _ a (by omega) (by omega) (by omega), u8_eq _ b (by omega) (by omega) (by omega)]⟩
theorem enc_3 (a b c : UInt8) (h : want a = 3) (hg : good2 a b) (hc : cont c) : scalarB (valL [a, b, c]) = true ∧ encL (valL [a, b, c]) = [a, b, c] := by
  have hb := a.toNat_lt
  rcases want_cases a with ⟨h1, h2⟩ | ⟨h1, h2⟩ | ⟨h1, h2, h3, h4⟩ | ⟨h1, h2, h3, h4⟩ | ⟨h1, h2, h3, _⟩ <;> try omega
  obtain ⟨⟨g1, g2⟩, g3, g4⟩ := (h4 b).1 hg
  obtain ⟨k1, k2⟩ := hc
  have e : valL [a, b, c] = ((a.toNat : Int) % 16 * 64 + (b.toNat : Int) % 64) * 64 + (c.toNat : Int) % 64 := rfl
  have hs : scalarB (valL [a, b, c]) = true := scalarB_mk (by omega) (by omega) (by omega)
  exact ⟨hs, by rw [encL_3 _ hs (by omega) (by omega) (by omega), u8_eq _ a (by omega) (by omega) (by omega), u8_eq _ b (by omega) (by omega) (by omega), u8_eq _ c (by omega) (by omega) (by omega)]⟩
theorem enc_4 (a b c d : UInt8) (h : want a = 4) (hg : good2 a b) (hc : cont c) (hd : cont d) : scalarB (valL [a, b, c, d]) = true ∧ encL (valL [a, b, c, d]) = [a, b, c, d] := by
  have hb := a.toNat_lt
  rcases want_cases a with ⟨h1, h2⟩ | ⟨h1, h2⟩ | ⟨h1, h2, h3, h4⟩ | ⟨h1, h2, h3, h4⟩ | ⟨h1, h2, h3, h4⟩ <;> try omega
  obtain ⟨⟨g1, g2⟩, g3, g4⟩ := (h4 b).1 hg
  obtain ⟨k1, k2⟩ := hc
  obtain ⟨k3, k4⟩ := hd
  have e : valL [a, b, c, d] = (((a.toNat : Int) % 8 * 64 + (b.toNat : Int) % 64) * 64 + (c.toNat : Int) % 64) * 64 + (d.toNat : Int) % 64 := rfl
  have hs : scalarB (valL [a, b, c, d]) = true := scalarB_mk (by omega) (by omega) (by omega)
  exact ⟨hs, by rw [encL_4 _ hs (by omega) (by omega) (by omega), u8_eq _ a (by omega) (by omega) (by omega), u8_eq _ b (by omega) (by omega) (by omega), u8_eq _ c (by omega) (by omega) (by omega), u8_eq _ d (by omega) (by omega) (by omega)]⟩

/-! ### the reference -/
/-- What so many bytes would be. -/
def reckL : List UInt8 → Int
  | [a] => a.toNat
  | [a, b] => ((a.toNat : Int) - 192) * 64 + ((b.toNat : Int) - 128)
  | [a, b, c] => ((a.toNat : Int) - 224) * 4096 + ((b.toNat : Int) - 128) * 64 + ((c.toNat : Int) - 128)
  | [a, b, c, d] => ((a.toNat : Int) - 240) * 262144 + ((b.toNat : Int) - 128) * 4096 + ((c.toNat : Int) - 128) * 64 + ((d.toNat : Int) - 128)
  | _ => 0
/-- Are bytes those of what they would be? -/
def isB (p : List UInt8) : Bool := scalarB (reckL p) && encL (reckL p) == p
theorem isB_dec (p : List UInt8) (t : List UInt8) (h : isB p = true) : decS (p ++ t) = (reckL p, p.length, true) := by
  unfold isB at h; simp at h
  have := dec_enc (reckL p) t h.1
  rw [h.2] at this; exact this
theorem isB_1 (a : UInt8) : isB [a] = decide (want a = 1) := by
  by_cases h : want a = 1
  · obtain ⟨h1, h2⟩ := enc_1 a h
    unfold isB; simp only [reckL, h1, h2]; simp [h]
  · cases hb : isB [a]
    · simp [h]
    · have := isB_dec [a] [] hb
      exfalso
      rcases want_cases a with ⟨h1, _⟩ | ⟨h1, _⟩ | ⟨h1, _⟩ | ⟨h1, _⟩ | ⟨h1, _⟩
      · rw [List.append_nil, decS_0 a [] h1] at this; simp at this
      · exact h h1
      all_goals (rw [List.append_nil, decS_k1 a (by omega)] at this; simp at this)
theorem reck_2 (a b : UInt8) (h : want a = 2) (hg : good2 a b) : reckL [a, b] = valL [a, b] := by
  rcases want_cases a with ⟨h1, h2⟩ | ⟨h1, h2⟩ | ⟨h1, h2, h3, h4⟩ | ⟨h1, h2, h3, _⟩ | ⟨h1, h2, h3, _⟩ <;> try omega
  obtain ⟨g1, g2⟩ := (h4 b).1 hg
  simp only [reckL, valL]; omega
theorem reck_3 (a b c : UInt8) (h : want a = 3) (hg : good2 a b) (hc : cont c) : reckL [a, b, c] = valL [a, b, c] := by
  rcases want_cases a with ⟨h1, h2⟩ | ⟨h1, h2⟩ | ⟨h1, h2, h3, h4⟩ | ⟨h1, h2, h3, h4⟩ | ⟨h1, h2, h3, _⟩ <;> try omega
  obtain ⟨⟨g1, g2⟩, _⟩ := (h4 b).1 hg
  obtain ⟨k1, k2⟩ := hc
  simp only [reckL, valL]; omega
theorem reck_4 (a b c d : UInt8) (h : want a = 4) (hg : good2 a b) (hc : cont c) (hd : cont d) : reckL [a, b, c, d] = valL [a, b, c, d] := by
  rcases want_cases a with ⟨h1, h2⟩ | ⟨h1, h2⟩ | ⟨h1, h2, h3, h4⟩ | ⟨h1, h2, h3, h4⟩ | ⟨h1, h2, h3, h4⟩ <;> try omega
  obtain ⟨⟨g1, g2⟩, _⟩ := (h4 b).1 hg
  obtain ⟨k1, k2⟩ := hc
  obtain ⟨k3, k4⟩ := hd
  simp only [reckL, valL]; omega
theorem isB_2 (a b : UInt8) : isB [a, b] = decide (want a = 2 ∧ good2 a b) := by
  by_cases h : want a = 2 ∧ good2 a b
  · obtain ⟨h1, h2⟩ := enc_2 a b h.1 h.2
    unfold isB; rw [reck_2 a b h.1 h.2, h1, h2]; simp [h]
  · cases hb : isB [a, b]
    · simp [h]
    · have e := isB_dec [a, b] [] hb
      exfalso
      rw [List.append_nil] at e
      by_cases hg : good2 a b
      · rcases want_cases a with ⟨h1, _⟩ | ⟨h1, _⟩ | ⟨h1, _⟩ | ⟨h1, _⟩ | ⟨h1, _⟩
        · rw [decS_0 a _ h1] at e; simp at e
        · rw [decS_1 a _ h1] at e; simp at e
        · exact h ⟨h1, hg⟩
        all_goals (rw [decS_k2 a b (by omega) hg] at e; simp at e)
      · rcases want_cases a with ⟨h1, _⟩ | ⟨h1, _⟩ | ⟨h1, _⟩ | ⟨h1, _⟩ | ⟨h1, _⟩
        · rw [decS_0 a _ h1] at e; simp at e
        · rw [decS_1 a _ h1] at e; simp at e
        all_goals (rw [decS_bad2 a b _ (by omega) hg] at e; simp at e)
theorem isB_3 (a b c : UInt8) : isB [a, b, c] = decide (want a = 3 ∧ good2 a b ∧ cont c) := by
  by_cases h : want a = 3 ∧ good2 a b ∧ cont c
  · obtain ⟨h1, h2⟩ := enc_3 a b c h.1 h.2.1 h.2.2
    unfold isB; rw [reck_3 a b c h.1 h.2.1 h.2.2, h1, h2]; simp [h]
  · cases hb : isB [a, b, c]
    · simp [h]
    · have e := isB_dec [a, b, c] [] hb
      exfalso
      rw [List.append_nil] at e
      by_cases hg : good2 a b
      · by_cases hc : cont c
        · rcases want_cases a with ⟨h1, _⟩ | ⟨h1, _⟩ | ⟨h1, _⟩ | ⟨h1, _⟩ | ⟨h1, _⟩
          · rw [decS_0 a _ h1] at e; simp at e
          · rw [decS_1 a _ h1] at e; simp at e
          · rw [decS_2 a b _ h1 hg] at e; simp at e
          · exact h ⟨h1, hg, hc⟩
          · rw [decS_k3 a b c h1 hg hc] at e; simp at e
        · rcases want_cases a with ⟨h1, _⟩ | ⟨h1, _⟩ | ⟨h1, _⟩ | ⟨h1, _⟩ | ⟨h1, _⟩
          · rw [decS_0 a _ h1] at e; simp at e
          · rw [decS_1 a _ h1] at e; simp at e
          · rw [decS_2 a b _ h1 hg] at e; simp at e
          all_goals (rw [decS_bad3 a b c _ (by omega) hg hc] at e; simp at e)
      · rcases want_cases a with ⟨h1, _⟩ | ⟨h1, _⟩ | ⟨h1, _⟩ | ⟨h1, _⟩ | ⟨h1, _⟩
        · rw [decS_0 a _ h1] at e; simp at e
        · rw [decS_1 a _ h1] at e; simp at e
        all_goals (rw [decS_bad2 a b _ (by omega) hg] at e; simp at e)
theorem isB_4 (a b c d : UInt8) : isB [a, b, c, d] = decide (want a = 4 ∧ good2 a b ∧ cont c ∧ cont d) := by
  by_cases h : want a = 4 ∧ good2 a b ∧ cont c ∧ cont d
  · obtain ⟨h1, h2⟩ := enc_4 a b c d h.1 h.2.1 h.2.2.1 h.2.2.2
    unfold isB; rw [reck_4 a b c d h.1 h.2.1 h.2.2.1 h.2.2.2, h1, h2]; simp [h]
  · cases hb : isB [a, b, c, d]
    · simp [h]
    · have e := isB_dec [a, b, c, d] [] hb
      exfalso
      rw [List.append_nil] at e
      by_cases hg : good2 a b
      · by_cases hc : cont c
        · rcases want_cases a with ⟨h1, _⟩ | ⟨h1, _⟩ | ⟨h1, _⟩ | ⟨h1, _⟩ | ⟨h1, _⟩
          · rw [decS_0 a _ h1] at e; simp at e
          · rw [decS_1 a _ h1] at e; simp at e
          · rw [decS_2 a b _ h1 hg] at e; simp at e
          · rw [decS_3 a b c _ h1 hg hc] at e; simp at e
          · by_cases hd : cont d
            · exact h ⟨h1, hg, hc, hd⟩
            · rw [decS_bad4 a b c d _ h1 hg hc hd] at e; simp at e
        · rcases want_cases a with ⟨h1, _⟩ | ⟨h1, _⟩ | ⟨h1, _⟩ | ⟨h1, _⟩ | ⟨h1, _⟩
          · rw [decS_0 a _ h1] at e; simp at e
          · rw [decS_1 a _ h1] at e; simp at e
          · rw [decS_2 a b _ h1 hg] at e; simp at e
          all_goals (rw [decS_bad3 a b c _ (by omega) hg hc] at e; simp at e)
      · rcases want_cases a with ⟨h1, _⟩ | ⟨h1, _⟩ | ⟨h1, _⟩ | ⟨h1, _⟩ | ⟨h1, _⟩
        · rw [decS_0 a _ h1] at e; simp at e
        · rw [decS_1 a _ h1] at e; simp at e
        all_goals (rw [decS_bad2 a b _ (by omega) hg] at e; simp at e)
end Bf
