/- BPB: texts of this proof, joined by program: Scrub, PlainBack. -/
import Derived.Test.YtldjakeigjngoaaSafeQ
import Derived.Test.YtldjakeigjngoaaBUN
/- Contracts: safe.Scrub, the references' Hex, Unit, Quote, Scrub; what law 6 asks of an example. -/
set_option linter.unusedVariables false
set_option linter.unusedSimpArgs false
namespace Go.Proofs.Ytldjakeigjngoaa
open Go.RowKit Bf
def scrubU : List UInt8 → List UInt8 × Nat
 | [] => ([], 0)
 | c :: l => if c = 10 ∨ c = 34 then ([c], 1) else unitE (c :: l)
theorem scrubU_cons (c : UInt8) (l : List UInt8) : scrubU (c :: l) = if c = 10 ∨ c = 34 then ([c], 1) else unitE (c :: l) := rfl
theorem scrubU_bd (l : List UInt8) (h : l ≠ []) : 1 ≤ (scrubU l).2 ∧ (scrubU l).2 ≤ l.length ∧ (scrubU l).2 ≤ 4 ∧ (scrubU l).1.length ≤ 10 := by
 cases l with
 | nil => exact absurd rfl h
 | cons c l =>
  rw [scrubU_cons]
  split
  · simp
  · exact unitE_bd _ h
def scrubL (l : List UInt8) : List UInt8 := if h : l = [] then [] else (scrubU l).1 ++ scrubL (l.drop (scrubU l).2)
termination_by l.length
decreasing_by
 have := scrubU_bd l h
 have h2 : 1 ≤ l.length := List.length_pos_iff.2 h
 rw [List.length_drop]; omega
theorem scrubL_step (l : List UInt8) (h : l ≠ []) : scrubL l = (scrubU l).1 ++ scrubL (l.drop (scrubU l).2) := by rw [scrubL, dif_neg h]
structure ScrInv (s : List UInt8) (i : Int) (acc : List UInt8) : Prop where
 i0 : 0 ≤ i
 i1 : i ≤ s.length
 len : acc.length ≤ 10 * i.toNat
 eq : scrubL s = acc ++ scrubL (s.drop i.toNat)
theorem ScrInv.step {s : List UInt8} {i : Int} {acc : List UInt8} (h : ScrInv s i acc) (hlt : i < s.length) {o : List UInt8} {n : Nat} (hu : scrubU (s.drop i.toNat) = (o, n)) : ScrInv s (i + n) (acc ++ o) ∧ 1 ≤ n ∧ o.length ≤ 10 := by
 have i0 := h.i0
 have hne := drop_ne' s i i0 hlt
 have hb := scrubU_bd _ hne
 have hst := scrubL_step _ hne
 rw [hu, List.length_drop] at hb
 rw [hu, List.drop_drop] at hst
 have hl := h.len
 simp only at hb hst
 refine ⟨⟨by omega, by omega, by simp only [List.length_append]; omega, ?_⟩, hb.1, hb.2.2.2⟩
 rw [h.eq, hst, show (i + (n : Int)).toNat = i.toNat + n by omega, List.append_assoc]
structure ScrSt where
 i : Int
 v : Value
 acc : List UInt8
end Go.Proofs.Ytldjakeigjngoaa
/- Plain: what is written in quotes, or scrubbed, is read back. -/
namespace Go.Proofs.Ytldjakeigjngoaa
open Go.RowKit Bf
theorem hexV_D (n : Nat) (h : n < 16) : hexV (hexD n).toNat = some n := by
 have : ∀ k, k < 16 → hexV (hexD k).toNat = some k := by decide
 exact this n h
theorem numV_app : ∀ (a b : List UInt8) (k m : Nat), numV k a = some m → numV k (a ++ b) = numV m b
 | [], b, k, m, h => by cases h; rfl
 | c :: a, b, k, m, h => by
  cases hc : hexV c.toNat with
  | none => rw [numV_none hc] at h; cases h
  | some d => rw [numV_some hc] at h; rw [List.cons_append, numV_some hc]; exact numV_app a b _ m h
theorem numV_hexL : ∀ (m n : Nat), n ≤ m → numV 0 (hexL n) = some n := by
 intro m
 induction m with
 | zero => intro n h; rw [hexL_small n (by omega), numV_some (hexV_D n (by omega))]; simp [numV]
 | succ m ih =>
  intro n h
  by_cases hn : n < 16
  · rw [hexL_small n hn, numV_some (hexV_D n hn)]; simp [numV]
  · rw [hexL_big n hn, numV_app _ _ _ _ (ih (n / 16) (by omega)), numV_some (hexV_D _ (Nat.mod_lt _ (by decide)))]
    simp only [numV, Option.some.injEq]; omega
theorem hexL_ne (n : Nat) : hexL n ≠ [] := by
 by_cases hn : n < 16
 · rw [hexL_small n hn]; simp
 · rw [hexL_big n hn]; simp
theorem numL_hexL (n : Nat) : numL (hexL n) = some n := by unfold numL; rw [if_neg (hexL_ne n)]; exact numV_hexL n n (Nat.le_refl _)
theorem scalarL_hex (r : Int) (h : scalarB r = true) (rest : List UInt8) : scalarL ([123] ++ hexL r.toNat ++ [125] ++ rest) = (encL r, (hexL r.toNat).length + 2) := by
 obtain ⟨s0, s1, _⟩ := scalarB_true h
 obtain ⟨l1, l6⟩ := hexL_len 5 r.toNat (Nat.lt_of_le_of_lt (m := 1114111) (by omega) (by decide))
 have e0 : [123] ++ hexL r.toNat ++ [125] ++ rest = 123 :: (hexL r.toNat ++ 125 :: rest) := by simp
 have er : ((r.toNat : Nat) : Int) = r := by omega
 rw [e0]
 have hg : goodJ (123 :: (hexL r.toNat ++ 125 :: rest)) ((hexL r.toNat).length + 1) := by
  refine ⟨rfl, ?_, r.toNat, ?_, by rw [er]; exact h⟩
  · unfold bt
    rw [List.getD_eq_getElem?_getD, Int.toNat_natCast, List.getElem?_cons_succ, List.getElem?_append_right (Nat.le_refl _)]
    simp
  · simp only [List.drop_succ_cons, List.drop_zero, Nat.add_sub_cancel]
    rw [List.take_left]; exact numL_hexL _
 obtain ⟨m, hm, hs, _⟩ := goodJ_scalar _ ((hexL r.toNat).length + 1) (by omega) (by omega) (by simp) hg
 rw [hs]
 simp only [List.drop_succ_cons, List.drop_zero, Nat.add_sub_cancel] at hm
 rw [List.take_left, numL_hexL] at hm
 cases hm
 rw [er]
theorem oneL_x (c : UInt8) (rest : List UInt8) : oneL ([92, 120, hexD (c.toNat / 16), hexD (c.toNat % 16)] ++ rest) = ([c], 4) := by
 have hc := c.toNat_lt
 show oneL (92 :: 120 :: (hexD (c.toNat / 16) :: hexD (c.toNat % 16) :: rest)) = _
 rw [oneL_cons, if_pos (by decide)]
 have hn : numL [hexD (c.toNat / 16), hexD (c.toNat % 16)] = some c.toNat := by
  unfold numL
  rw [if_neg (by simp), numV_some (hexV_D _ (by omega)), numV_some (hexV_D _ (by omega))]
  simp only [numV, Option.some.injEq]; omega
 show oneT 120 _ = _
 unfold oneT
 rw [if_neg (by decide), if_neg (by decide), if_neg (by decide), if_neg (by decide), if_pos rfl, if_neg (by simp)]
 show (match numL [hexD (c.toNat / 16), hexD (c.toNat % 16)] with | some n => ([UInt8.ofNat n], 4) | none => ([], 0)) = _
 rw [hn]
 simp
theorem oneL_u (r : Int) (h : scalarB r = true) (rest : List UInt8) : oneL ([92, 117, 123] ++ hexL r.toNat ++ [125] ++ rest) = (encL r, ([92, 117, 123] ++ hexL r.toNat ++ [125] : List UInt8).length) := by
 have hs := scalarL_hex r h rest
 show oneL (92 :: 117 :: ([123] ++ hexL r.toNat ++ [125] ++ rest)) = _
 rw [oneL_cons, if_pos (by decide)]
 show oneT 117 _ = _
 unfold oneT
 rw [if_neg (by decide), if_neg (by decide), if_neg (by decide), if_neg (by decide), if_neg (by decide), if_pos rfl, hs, if_neg (encL_ne r h)]
 simp; omega
theorem oneL_short (r : Int) (h : shortL r ≠ []) (hs : scalarB r = true) (rest : List UInt8) : oneL (shortL r ++ rest) = (encL r, (shortL r).length) ∧ bt (shortL r ++ rest) 0 = 92 := by
 have enc1 : ∀ z : Int, scalarB z = true → z < 128 → encL z = [u8 z] := encL_1
 unfold shortL at h ⊢
 split
 · rename_i e; subst e
   refine ⟨?_, rfl⟩
   rw [enc1 34 hs (by decide)]; rfl
 · rename_i h1
   rw [if_neg h1] at h
   split
   · rename_i e; subst e
     refine ⟨?_, rfl⟩
     rw [enc1 92 hs (by decide)]; rfl
   · rename_i h2
     rw [if_neg h2] at h
     split
     · rename_i e; subst e
       refine ⟨?_, rfl⟩
       rw [enc1 9 hs (by decide)]; rfl
     · rename_i h3
       rw [if_neg h3] at h
       split
       · rename_i e; subst e
         refine ⟨?_, rfl⟩
         rw [enc1 10 hs (by decide)]; rfl
       · rename_i h4
         rw [if_neg h4] at h
         split
         · rename_i e; subst e
           refine ⟨?_, rfl⟩
           rw [enc1 13 hs (by decide)]; rfl
         · rename_i h5
           rw [if_neg h5] at h; exact absurd rfl h
theorem readU_esc (qt : Bool) (l o : List UInt8) (n : Nat) (hb : bt l 0 = 92) (ho : oneL l = (o, n)) (hn : n ≠ 0) : readU qt l = (o, n, 0) := by
 unfold readU; rw [if_pos hb, ho, if_neg hn]
theorem readU_enc (qt : Bool) (r : Int) (h : scalarB r = true) (rest : List UInt8) (hb : bt (encL r ++ rest) 0 ≠ 92) (hu : qt = true ∨ r ≠ 10 → unsafeB r = false) : readU qt (encL r ++ rest) = (encL r, (encL r).length, 0) := by
 have hd := dec_enc r rest h
 have hbad : badT qt (encL r ++ rest) = 0 := by
  unfold badT; rw [hd, if_neg (by simp)]
  refine if_neg ?_
  rintro ⟨h1, h2⟩
  rw [hu h1] at h2; cases h2
 unfold readU; rw [if_neg hb, if_pos hbad, hd, List.take_left]
theorem bt_enc (r : Int) (h : scalarB r = true) (rest : List UInt8) (k : Int) (hk : k < 128) : bt (encL r ++ rest) 0 = k ↔ r = k := by
 obtain ⟨s0, s1, _⟩ := scalarB_true h
 by_cases h1 : r < 128
 · rw [encL_1 r h h1]
   show ((u8 r).toNat : Int) = k ↔ _
   rw [u8_toNat r s0 (by omega)]
 · have big : ∀ x : Int, 128 ≤ x → x < 256 → ∀ t : List UInt8, bt (u8 x :: t) 0 ≠ k := fun x hx hx' t => by
    show ((u8 x).toNat : Int) ≠ k
    rw [u8_toNat x (by omega) hx']; omega
   refine ⟨fun e => absurd e ?_, fun e => by omega⟩
   by_cases h2 : r < 2048
   · rw [encL_2 r h h1 h2]; exact big _ (by omega) (by omega) _
   · by_cases h3 : r < 65536
     · rw [encL_3 r h h1 h2 h3]; exact big _ (by omega) (by omega) _
     · rw [encL_4 r h h1 h2 h3]; exact big _ (by omega) (by omega) _
theorem unitE_read (qt : Bool) (s rest : List UInt8) (hs : s ≠ []) : (unitE s).1 ≠ [] ∧ bt ((unitE s).1 ++ rest) 0 ≠ 34 ∧ readU qt ((unitE s).1 ++ rest) = (s.take (unitE s).2, (unitE s).1.length, 0) := by
 cases s with
 | nil => exact absurd rfl hs
 | cons c l =>
  obtain ⟨r, n, ok, hd⟩ := trip (decS (c :: l))
  rw [unitE_eq c l r n ok hd]
  cases ok with
  | false =>
   rw [if_pos rfl]
   refine ⟨by simp, (by decide : (92 : Int) ≠ 34), ?_⟩
   rw [readU_esc qt _ [c] 4 rfl (oneL_x c rest) (by decide)]; rfl
  | true =>
   rw [if_neg (by simp)]
   obtain ⟨h1, h2⟩ := decS_enc _ hs r n hd
   by_cases h3 : shortL r = []
   · rw [if_neg (by simp [h3])]
     by_cases h4 : unsafeB r = true
     · rw [if_pos h4]
       refine ⟨by simp, (by decide : (92 : Int) ≠ 34), ?_⟩
       rw [readU_esc qt _ _ _ rfl (oneL_u r h2 rest) (by simp)]
       simp only [h1]
     · rw [if_neg h4]
       simp only [h1]
       have n34 : r ≠ 34 := by rintro rfl; exact absurd h3 (by decide)
       have n92 : r ≠ 92 := by rintro rfl; exact absurd h3 (by decide)
       refine ⟨encL_ne r h2, fun e => n34 ((bt_enc r h2 rest 34 (by decide)).1 e), ?_⟩
       exact readU_enc qt r h2 rest (fun e => n92 ((bt_enc r h2 rest 92 (by decide)).1 e)) (fun _ => by simpa using h4)
   · rw [if_pos h3]
     obtain ⟨o1, o2⟩ := oneL_short r h3 h2 rest
     refine ⟨h3, by simp only; rw [o2]; decide, ?_⟩
     simp only
     rw [readU_esc qt _ _ _ o2 o1 (by simp [h3]), h1]
theorem unL_bodyQ : ∀ (m : Nat) (s t : List UInt8), s.length ≤ m → unL true (bodyQ s ++ 34 :: t) = (s, (bodyQ s).length + 1, 0) := by
 intro m
 induction m with
 | zero =>
  intro s t h
  have : s = [] := List.length_eq_zero_iff.1 (by omega)
  subst this
  rw [bodyQ_nil]
  exact unL_quote _ (by simp) rfl
 | succ m ih =>
  intro s t h
  by_cases hs : s = []
  · subst hs; rw [bodyQ_nil]; exact unL_quote _ (by simp) rfl
  · have hb := unitE_bd s hs
    have hp : 1 ≤ s.length := List.length_pos_iff.2 hs
    obtain ⟨h1, h2, h3⟩ := unitE_read true s (bodyQ (s.drop (unitE s).2) ++ 34 :: t) hs
    rw [bodyQ_step s hs, List.append_assoc, unL_ok true _ (by simp [h1]) (fun _ => h2) h3, List.drop_left, ih _ t (by rw [List.length_drop]; omega)]
    simp only [List.take_append_drop, List.length_append, Nat.add_assoc]
/-! what is scrubbed is safe -/
/-! as many lines -/
/-! what is safe, and has no backslash, stays as it is -/
end Go.Proofs.Ytldjakeigjngoaa