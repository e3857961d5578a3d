/- BPL: texts of this proof, joined by program: Plain, Plain2, Plain3, PlainUtf, PlainUtf2, PlainUtf3, PlainUtf4, PlainPin, PlainEsc, PlainNames, PlainPaths. -/
import GoSem.Core.Value
import GoSem.Op.String
/- Plain facts on lists of bytes and numbers: no program in sight. -/
set_option linter.unusedVariables false
set_option linter.unusedSimpArgs false
namespace Bf
theorem toList_length (s : ByteArray) : s.data.toList.length = s.size := by simp
/-! ### digits -/
def isDig (c : UInt8) : Bool := decide (48 ≤ c.toNat) && decide (c.toNat ≤ 57)
def runL : List UInt8 → Nat
 | [] => 0
 | c :: l => if isDig c then runL l + 1 else 0
theorem runL_le (l : List UInt8) : runL l ≤ l.length := by
 induction l with
 | nil => simp [runL]
 | cons c l ih => unfold runL; split <;> simp <;> omega
def digVal (c : UInt8) : Nat := c.toNat - 48
def numVal : List UInt8 → Nat → Nat
 | [], a => a
 | c :: l, a => numVal l (a * 10 + digVal c)
def most (minus : Bool) : Nat := if minus then 9223372036854775808 else 9223372036854775807
def valB (v : Nat) (minus : Bool) : Bool := decide (v ≤ most minus)
def valN (v : Nat) (minus : Bool) : Int := if v ≤ most minus then (if minus then -(v : Int) else v) else 0
theorem val_minus (v : Nat) (h : v ≤ 9223372036854775808) : valB v true = true ∧ valN v true = -(v : Int) := by
 unfold valB valN most; simp [h]
theorem val_plus (v : Nat) (h : v < 9223372036854775808) : valB v false = true ∧ valN v false = v := by
 unfold valB valN most
 have : v ≤ 9223372036854775807 := by omega
 simp [this]
theorem tdiv_neg10 (x : Int) (h : x ≤ 0) : x.tdiv 10 = -((-x) / 10) := by
 have h1 : (-x).tdiv 10 = (-x) / 10 := Int.tdiv_eq_ediv_of_nonneg (by omega)
 rw [Int.neg_tdiv] at h1; omega
theorem runL_all (l : List UInt8) : ∀ n, n ≤ runL l → ∀ c ∈ l.take n, isDig c = true := by
 induction l with
 | nil => simp
 | cons c l ih =>
  intro n hn; unfold runL at hn
  cases n with
  | zero => simp
  | succ n =>
   split at hn
   · rename_i h; intro d hd; simp at hd; rcases hd with rfl | hd
     · exact h
     · exact ih n (by omega) d hd
   · omega
def takeAt (l : List UInt8) (k : Nat) : Int × Int × Int × Int :=
 let minus := l[k]? == some 45
 let fr := if minus then k + 1 else k
 let many := runL (l.drop fr)
 let v := numVal ((l.drop fr).take many) 0
 if many = 0 then (0, 0, if fr = l.length then 5 else 19, (fr : Int))
 else if l[fr]? = some 48 ∧ (1 < many ∨ minus = true) then (0, 0, 19, (k : Int))
 else if valB v minus then (valN v minus, (fr : Int) + many, 0, 0) else (0, 0, 13, (k : Int))
def takeS (l : List UInt8) (at_ : Int) : Int × Int × Int × Int :=
 if at_ < 0 ∨ (l.length : Int) < at_ then (0, 0, 1, 0) else takeAt l at_.toNat
theorem takeS_in (l : List UInt8) (k : Nat) (h : k ≤ l.length) : takeS l k = takeAt l k := by
 unfold takeS; rw [if_neg (by omega)]; simp
theorem takeAt_ways (l : List UInt8) (k : Nat) (m : Bool) (hm : (l[k]? == some 45) = m) (fr : Nat) (hfr : fr = if m then k + 1 else k)
 (many : Nat) (hmany : runL (l.drop fr) = many) :
 (many = 0 ∧ fr = l.length → takeAt l k = (0, 0, 5, (fr : Int))) ∧ (many = 0 ∧ fr ≠ l.length → takeAt l k = (0, 0, 19, (fr : Int)))
 ∧ (many ≠ 0 → l[fr]? = some 48 ∧ (1 < many ∨ m = true) → takeAt l k = (0, 0, 19, (k : Int)))
 ∧ (many ≠ 0 → ¬ (l[fr]? = some 48 ∧ (1 < many ∨ m = true)) → takeAt l k = if valB (numVal ((l.drop fr).take many) 0) m then (valN (numVal ((l.drop fr).take many) 0) m, (fr : Int) + many, 0, 0) else (0, 0, 13, (k : Int))) := by
 have e : takeAt l k = if many = 0 then (0, 0, if fr = l.length then 5 else 19, (fr : Int))
  else if l[fr]? = some 48 ∧ (1 < many ∨ m = true) then (0, 0, 19, (k : Int))
  else if valB (numVal ((l.drop fr).take many) 0) m then (valN (numVal ((l.drop fr).take many) 0) m, (fr : Int) + many, 0, 0) else (0, 0, 13, (k : Int)) := by
  unfold takeAt; simp only [hm, ← hfr, hmany]
 rw [e]
 refine ⟨fun ⟨h, h'⟩ => by rw [if_pos h, if_pos h'], fun ⟨h, h'⟩ => by rw [if_pos h, if_neg h'], fun h h' => by rw [if_neg h, if_pos h'], fun h h' => by rw [if_neg h, if_neg h']⟩
def parseS (l : List UInt8) : Int × Int × Int :=
 let r := takeS l 0
 if r.2.2.1 ≠ 0 then (0, r.2.2.1, r.2.2.2) else if r.2.1 < l.length then (0, 19, r.2.1) else (r.1, 0, 0)
end Bf
/- Plain facts on numbers' texts: no program in sight. -/
namespace Bf
def decL (n : Nat) : List UInt8 := if n < 10 then [UInt8.ofNat (48 + n)] else decL (n / 10) ++ [UInt8.ofNat (48 + n % 10)]
termination_by n
decreasing_by omega
def putL (n : Int) : List UInt8 := if n < 0 then 45 :: decL n.natAbs else decL n.natAbs
theorem decL_lt (n : Nat) (h : n < 10) : decL n = [UInt8.ofNat (48 + n)] := by rw [decL, if_pos h]
theorem decL_ge (n : Nat) (h : ¬ n < 10) : decL n = decL (n / 10) ++ [UInt8.ofNat (48 + n % 10)] := by rw [decL, if_neg h]
theorem putL_neg1 (n : Int) (h : n < 0) (h' : -10 < n) : putL n = 45 :: putL (-n) := by
 unfold putL; rw [if_pos h, if_neg (by omega), Int.natAbs_neg]
theorem putL_neg2 (n : Int) (h : n ≤ -10) : putL n = putL (n.tdiv 10) ++ putL (-(n.tmod 10)) := by
 have e1 : n.tdiv 10 = -((-n) / 10) := tdiv_neg10 n (by omega)
 have e2 : n.tmod 10 = n - 10 * n.tdiv 10 := by have := Int.tmod_add_mul_tdiv n 10; omega
 unfold putL; rw [if_pos (by omega), if_pos (by omega), if_neg (by omega), decL_ge n.natAbs (by omega), decL_lt (-(n.tmod 10)).natAbs (by omega)]
 have : (n.tdiv 10).natAbs = n.natAbs / 10 := by omega
 have h2 : (-(n.tmod 10)).natAbs = n.natAbs % 10 := by omega
 rw [this, h2]; rfl
theorem putL_pos2 (n : Int) (h : 10 ≤ n) : putL n = putL (n.tdiv 10) ++ putL (n.tmod 10) := by
 have e1 : n.tdiv 10 = n / 10 := Int.tdiv_eq_ediv_of_nonneg (by omega)
 have e2 : n.tmod 10 = n % 10 := Int.tmod_eq_emod_of_nonneg (by omega)
 unfold putL; rw [if_neg (by omega), if_neg (by omega), if_neg (by omega), decL_ge n.natAbs (by omega), decL_lt (n.tmod 10).natAbs (by omega)]
 have : (n.tdiv 10).natAbs = n.natAbs / 10 := by omega
 have h2 : (n.tmod 10).natAbs = n.natAbs % 10 := by omega
 rw [this, h2]
theorem putL_lt (n : Int) (h : 0 ≤ n) (h' : n < 10) : putL n = [UInt8.ofNat (48 + n).toNat] := by
 unfold putL; rw [if_neg (by omega), decL_lt _ (by omega)]; congr; omega
theorem decL_len (n : Nat) : ∀ k, n < 10 ^ k → 0 < k → (decL n).length ≤ k := by
 induction n using Nat.strongRecOn with
 | _ n ih =>
  intro k hk h0
  by_cases h : n < 10
  · rw [decL_lt n h]; simp; omega
  · rw [decL_ge n h]
    obtain ⟨k, rfl⟩ : ∃ j, k = j + 1 := ⟨k - 1, by omega⟩
    have hk0 : 0 < k := by
     rcases Nat.eq_zero_or_pos k with rfl | h
     · omega
     · exact h
    have := ih (n / 10) (by omega) k (by rw [Nat.pow_succ] at hk; omega) hk0
    simp; omega
theorem putL_len (n : Int) (h : -9223372036854775808 ≤ n ∧ n ≤ 9223372036854775807) : (putL n).length ≤ 20 := by
 have := decL_len n.natAbs 19 (by omega) (by omega)
 unfold putL; split <;> simp <;> omega
/-! ### texts of digits, held against one another -/
end Bf
/- Plain facts: a number's text is read back as that number; digits that are read are that number's text. -/
namespace Bf
theorem numVal_append (l m : List UInt8) (a : Nat) : numVal (l ++ m) a = numVal m (numVal l a) := by
 induction l generalizing a with
 | nil => rfl
 | cons c l ih => simp [numVal, ih]
theorem decL_numVal (l : List UInt8) : ∀ (n : Nat), l.length = n → (∀ c ∈ l, isDig c = true) → l ≠ [] → (∀ c r, l = c :: r → c.toNat = 48 → r = []) → decL (numVal l 0) = l := by
 intro n
 induction n generalizing l with
 | zero => intro h _ hne; exact absurd (List.length_eq_zero_iff.1 h) hne
 | succ n ih =>
  intro hlen hd hne hz
  obtain ⟨m, c, rfl⟩ : ∃ m c, l = m ++ [c] := ⟨l.dropLast, l.getLast hne, (List.dropLast_concat_getLast hne).symm⟩
  have hc := hd c (by simp)
  have hcv : digVal c < 10 ∧ UInt8.ofNat (48 + digVal c) = c := by
   have := hc; unfold isDig at this; simp at this; unfold digVal
   refine ⟨by omega, ?_⟩
   apply UInt8.toNat_inj.1; simp; omega
  rw [numVal_append]
  simp only [numVal]
  by_cases hm : m = []
  · subst hm; simp only [numVal]; rw [decL_lt _ (by omega)]; simp [hcv.2]
  · have hm1 : ∀ d ∈ m, isDig d = true := fun d h => hd d (by simp [h])
    have hm2 : ∀ d r, m = d :: r → d.toNat = 48 → r = [] := by
     intro d r hr h48
     have := hz d (r ++ [c]) (by rw [hr]; rfl) h48
     simp at this
    have e := ih m (by simpa using hlen) hm1 hm hm2
    have hpos : numVal m 0 ≠ 0 := by
     intro h0; rw [h0] at e
     rw [decL_lt 0 (by omega)] at e
     have := hz (UInt8.ofNat (48 + 0)) [c] (by rw [← e]; rfl) (by decide)
     simp at this
    rw [decL_ge _ (by omega), show (numVal m 0 * 10 + digVal c) / 10 = numVal m 0 by omega, show (numVal m 0 * 10 + digVal c) % 10 = digVal c by omega, e, hcv.2]
theorem putL_parseS (l : List UInt8) (x : Int) (h : parseS l = (x, 0, 0)) : putL x = l := by
 unfold parseS at h
 simp only at h
 by_cases he : (takeS l 0).2.2.1 = 0
 · rw [if_neg (by simpa using he)] at h
   by_cases hl : (takeS l 0).2.1 < l.length
   · rw [if_pos hl] at h; simp at h
   · rw [if_neg hl] at h
     have hx : (takeS l 0).1 = x := (Prod.mk.inj h).1
     have h0 := takeS_in l 0 (Nat.zero_le _)
     rw [show ((0 : Nat) : Int) = 0 from rfl] at h0
     rw [h0] at he hl hx
     generalize hm : (l[0]? == some 45) = m at *
     obtain ⟨fr, hfr⟩ : ∃ fr, fr = if m then 0 + 1 else 0 := ⟨_, rfl⟩
     obtain ⟨w0, w1, w2, w3⟩ := takeAt_ways l 0 m hm fr hfr _ rfl
     by_cases hz : runL (l.drop fr) = 0
     · by_cases e : fr = l.length
       · rw [w0 ⟨hz, e⟩] at he; simp at he
       · rw [w1 ⟨hz, e⟩] at he; simp at he
     · by_cases hb : l[fr]? = some 48 ∧ (1 < runL (l.drop fr) ∨ m = true)
       · rw [w2 hz hb] at he; simp at he
       · have w := w3 hz hb
         obtain ⟨ds, hds⟩ : ∃ ds, (l.drop fr).take (runL (l.drop fr)) = ds := ⟨_, rfl⟩
         rw [hds] at w
         by_cases hv : valB (numVal ds 0) m = true
         · rw [if_pos hv] at w
           rw [w] at hl hx
           simp only at hl hx
           have hle := runL_le (l.drop fr)
           have hall : l.drop fr = ds := by rw [← hds, List.take_of_length_le]; simp at hle ⊢; omega
           have hdig : ∀ c ∈ ds, isDig c = true := by rw [← hds]; exact runL_all _ _ (Nat.le_refl _)
           have hne : ds ≠ [] := by intro h; rw [hall, h] at hz; exact hz rfl
           have hz2 : ∀ c r, ds = c :: r → c.toNat = 48 → r = [] := by
            intro c r hcr hc
            have h1 : l[fr]? = some 48 := by
             have : (l.drop fr)[0]? = some c := by rw [hall, hcr]; rfl
             rw [List.getElem?_drop] at this; simp at this; rw [this]; congr 1; exact UInt8.toNat_inj.1 hc
            have h2 : ¬ 1 < runL (l.drop fr) := fun h => hb ⟨h1, Or.inl h⟩
            have h3 : runL (l.drop fr) = (l.drop fr).length := by
             have : ds.length ≤ runL (l.drop fr) := by rw [← hds]; simp; omega
             rw [hall] at this ⊢; have := runL_le ds; omega
            rw [h3, hall, hcr] at h2
            cases r with
            | nil => rfl
            | cons a b => simp at h2
           have hdec := decL_numVal ds _ rfl hdig hne hz2
           cases m with
           | false =>
            simp at hfr; subst hfr
            have hvle : numVal ds 0 ≤ 9223372036854775807 := by unfold valB most at hv; simpa using hv
            rw [(val_plus _ (by omega)).2] at hx
            subst hx
            unfold putL; rw [if_neg (by omega)]; simp only [Int.natAbs_natCast]; rw [hdec, ← hall]; rfl
           | true =>
            simp at hfr; subst hfr
            have hvle : numVal ds 0 ≤ 9223372036854775808 := by unfold valB most at hv; simpa using hv
            rw [(val_minus _ hvle).2] at hx
            have hpos : numVal ds 0 ≠ 0 := by
             intro h; rw [h, decL_lt 0 (by omega)] at hdec
             have h1 : l[1]? = some 48 := by
              have : (l.drop 1)[0]? = some 48 := by rw [hall, ← hdec]; rfl
              rw [List.getElem?_drop] at this; simpa using this
             exact hb ⟨h1, Or.inr rfl⟩
            subst hx
            unfold putL; rw [if_pos (by omega)]; simp only [Int.natAbs_neg, Int.natAbs_natCast]; rw [hdec, ← hall]
            cases l with
            | nil => simp at hm
            | cons c l => simp at hm; rw [hm]; rfl
         · rw [if_neg hv] at w; rw [w] at he; simp at he
 · rw [if_pos he] at h; simp at h; exact absurd h.2.1 he
end Bf
/- Plain facts: UTF-8. No program in sight. -/
namespace Bf
def leadS (n : Int) : Int × Int × Int :=
 if n < 128 then (1, 128, 191) else if n < 194 then (0, 128, 191) else if n < 224 then (2, 128, 191)
 else if n = 224 then (3, 160, 191) else if n < 237 then (3, 128, 191) else if n = 237 then (3, 128, 159) else if n < 240 then (3, 128, 191)
 else if n = 240 then (4, 144, 191) else if n < 244 then (4, 128, 191) else if n = 244 then (4, 128, 143) else (0, 128, 191)
def u8 (n : Int) : UInt8 := UInt8.ofNat n.toNat
end Bf
/- Plain facts: the reference's way to decode is the table's. No program in sight. -/
namespace Bf
def good2 (a b : UInt8) : Prop := (leadS a.toNat).2.1 ≤ (b.toNat : Int) ∧ (b.toNat : Int) ≤ (leadS a.toNat).2.2
instance (a b : UInt8) : Decidable (good2 a b) := by unfold good2; infer_instance
def cont (c : UInt8) : Prop := 128 ≤ (c.toNat : Int) ∧ (c.toNat : Int) ≤ 191
instance (c : UInt8) : Decidable (cont c) := by unfold cont; infer_instance
def want (a : UInt8) : Int := (leadS a.toNat).1
end Bf
/- Plain facts: what is encoded is decoded, and what is well-formed is what its scalar is encoded as; the reference's Decode. No program in sight. -/
namespace Bf
/-! ### the reference -/
end Bf
/- Plain facts: scalars written one behind the other. No program in sight. -/
namespace Bf
end Bf
/- Plain facts: tables of runes. No program in sight. -/
namespace Bf
end Bf
/- Plain: how texts are written in quotes. -/
namespace Bf
end Bf
/- Plain: names, and paths as text. No program in sight. -/
namespace Bf
def letB (c : UInt8) : Bool := decide (97 ≤ c.toNat) && decide (c.toNat ≤ 122)
def sigB (c : UInt8) : Bool := letB c || (decide (48 ≤ c.toNat) && decide (c.toNat ≤ 57)) || decide (c.toNat = 95)
def sigL : List UInt8 → Nat
 | [] => 0
 | c :: l => if sigB c then sigL l + 1 else 0
theorem sigL_cons (c : UInt8) (l : List UInt8) : sigL (c :: l) = if sigB c then sigL l + 1 else 0 := rfl
def namN : List UInt8 → Nat
 | [] => 0
 | c :: l => if letB c then sigL l + 1 else 0
theorem namN_cons (c : UInt8) (l : List UInt8) : namN (c :: l) = if letB c then sigL l + 1 else 0 := rfl
def namB (l : List UInt8) : Bool := decide (l ≠ []) && decide (namN l = l.length) && decide (l.length ≤ 32)
theorem let_sig {c : UInt8} (h : letB c = true) : sigB c = true := by unfold sigB; rw [h]; rfl
theorem namN_sig (l : List UInt8) : namN l ≤ sigL l := by
 cases l with
 | nil => exact Nat.le_refl 0
 | cons c l =>
  rw [namN_cons, sigL_cons]
  split
  · rename_i h; rw [if_pos (let_sig h)]; exact Nat.le_refl _
  · exact Nat.zero_le _
theorem sigL_le (l : List UInt8) : sigL l ≤ l.length := by
 induction l with
 | nil => exact Nat.le_refl 0
 | cons c l ih => rw [sigL_cons]; split <;> simp only [List.length_cons] <;> omega
theorem namN_le (l : List UInt8) : namN l ≤ l.length := Nat.le_trans (namN_sig l) (sigL_le l)
/-! numbers, wherever they stand -/
end Bf
/- Plain: paths as text. No program in sight. -/
namespace Bf
abbrev StepT := Int × Int × List UInt8
def stepB (x : StepT) : Bool :=
 if x.1 = 1 ∨ x.1 = 5 then decide (x.2.1 = 0) && namB x.2.2 else if x.1 = 2 then decide (0 ≤ x.2.1) && decide (x.2.2 = []) else if x.1 = 3 ∨ x.1 = 4 then decide (x.2.1 = 0) && decide (x.2.2 = []) else false
def stepX (x : StepT) : List UInt8 := if x.1 = 1 then 46 :: x.2.2 else if x.1 = 2 then 91 :: (putL x.2.1 ++ [93]) else if x.1 = 3 then [91, 93] else if x.1 = 4 then [63] else 33 :: x.2.2
def zst : StepT := (0, 0, [])
abbrev RdT := StepT × Int × Int × Int
def namedL (k : Int) (r : List UInt8) : RdT := if namB (r.take (namN r)) then ((k, 0, r.take (namN r)), 1 + namN r, 0, 0) else (zst, 0, 9, 1)
def itemL (r : List UInt8) : RdT :=
 if r[0]? = some 93 then ((3, 0, []), 2, 0, 0)
 else if (takeS r 0).2.2.1 ≠ 0 then (zst, 0, (takeS r 0).2.2.1, 1 + (takeS r 0).2.2.2)
 else if (takeS r 0).1 < 0 then (zst, 0, 20, 1)
 else if r[(takeS r 0).2.1.toNat]? = some 93 then ((2, (takeS r 0).1, []), 2 + (takeS r 0).2.1, 0, 0) else (zst, 0, 4, 1 + (takeS r 0).2.1)
def stepL : List UInt8 → RdT
 | [] => (zst, 0, 4, 0)
 | c :: r => if c = 46 then namedL 1 r else if c = 33 then namedL 5 r else if c = 91 then itemL r else if c = 63 then ((4, 0, []), 1, 0, 0) else (zst, 0, 4, 0)
theorem stepL_cons (c : UInt8) (r : List UInt8) : stepL (c :: r) = if c = 46 then namedL 1 r else if c = 33 then namedL 5 r else if c = 91 then itemL r else if c = 63 then ((4, 0, []), 1, 0, 0) else (zst, 0, 4, 0) := rfl
theorem runL_take (l : List UInt8) : runL (l.take (runL l)) = runL l := by
 induction l with
 | nil => rfl
 | cons c l ih =>
  by_cases h : isDig c = true
  · have e : runL (c :: l) = runL l + 1 := by simp [runL, h]
    rw [e, List.take_succ_cons]; simp [runL, h, ih]
  · have e : runL (c :: l) = 0 := by simp [runL, h]
    rw [e]; rfl
theorem takeS_good (l : List UInt8) (v e p : Int) (h : takeS l 0 = (v, e, 0, p)) : 1 ≤ e ∧ e ≤ l.length ∧ p = 0 ∧ takeS (l.take e.toNat) 0 = (v, e, 0, 0) := by
 have h0 : takeS l 0 = takeAt l 0 := takeS_in l 0 (Nat.zero_le _)
 rw [h0] at h
 obtain ⟨m, hm⟩ : ∃ m, (l[0]? == some 45) = m := ⟨_, rfl⟩
 obtain ⟨fr, hfr⟩ : ∃ fr, fr = if m then 0 + 1 else 0 := ⟨_, rfl⟩
 obtain ⟨many, hmany⟩ : ∃ many, runL (l.drop fr) = many := ⟨_, rfl⟩
 obtain ⟨a1, a2, a3, a4⟩ := takeAt_ways l 0 m hm fr hfr many hmany
 have hrl := runL_le (l.drop fr)
 rw [hmany, List.length_drop] at hrl
 by_cases c1 : many = 0
 · by_cases c2 : fr = l.length
   · rw [a1 ⟨c1, c2⟩] at h; simp at h
   · rw [a2 ⟨c1, c2⟩] at h; simp at h
 · by_cases c3 : l[fr]? = some 48 ∧ (1 < many ∨ m = true)
   · rw [a3 c1 c3] at h; simp at h
   · have a4' := a4 c1 c3
     rw [a4'] at h
     cases hv : valB (numVal ((l.drop fr).take many) 0) m with
     | false => rw [hv] at h; simp at h
     | true =>
      rw [hv] at h
      simp only [if_true, Prod.mk.injEq] at h
      obtain ⟨h1, h2, _, h4⟩ := h
      have he : e.toNat = fr + many := by omega
      have hle : fr + many ≤ l.length := by omega
      refine ⟨by omega, by omega, h4.symm, ?_⟩
      rw [he, show takeS (l.take (fr + many)) 0 = takeAt (l.take (fr + many)) 0 from takeS_in _ 0 (Nat.zero_le _)]
      have e0 : (l.take (fr + many))[0]? = l[0]? := List.getElem?_take_of_lt (by omega)
      have ef : (l.take (fr + many))[fr]? = l[fr]? := List.getElem?_take_of_lt (by omega)
      have ed : (l.take (fr + many)).drop fr = (l.drop fr).take many := by rw [List.drop_take]; congr 1; omega
      have hmm : runL ((l.take (fr + many)).drop fr) = many := by rw [ed, ← hmany]; exact runL_take _
      obtain ⟨_, _, _, b4⟩ := takeAt_ways (l.take (fr + many)) 0 m (by rw [e0]; exact hm) fr hfr many hmm
      rw [b4 c1 (by rw [ef]; exact c3), ed, List.take_take, Nat.min_self, hv]
      simp only [if_true]; rw [h1, h2]
theorem takeS_put (l : List UInt8) (v e p : Int) (h : takeS l 0 = (v, e, 0, p)) : putL v = l.take e.toNat := by
 obtain ⟨h1, h2, h3, h4⟩ := takeS_good l v e p h
 refine putL_parseS _ _ ?_
 unfold parseS
 rw [h4]
 simp; omega
theorem stepL_good (l : List UInt8) (x : StepT) (n p : Int) (h : stepL l = (x, n, 0, p)) : 1 ≤ n ∧ n ≤ l.length ∧ stepB x = true ∧ stepX x = l.take n.toNat := by
 cases l with
 | nil => simp [stepL] at h
 | cons c r =>
  have named : ∀ k : Int, (k = 1 ∨ k = 5) → namedL k r = (x, n, 0, p) → 1 ≤ n ∧ n ≤ r.length + 1 ∧ stepB x = true ∧ x = (k, 0, r.take (namN r)) ∧ n = 1 + namN r := by
   intro k hk hx
   unfold namedL at hx
   split at hx
   · rename_i hb
     cases hx
     have := namN_le r
     refine ⟨by omega, by omega, ?_, rfl, rfl⟩
     unfold stepB; rw [if_pos hk]; simp [hb]
   · simp at hx
  rw [stepL_cons] at h
  simp only [List.length_cons]
  split at h
  · rename_i hc
    obtain ⟨h1, h2, h3, h4, h5⟩ := named 1 (.inl rfl) h
    subst hc; subst h4; subst h5
    refine ⟨h1, by omega, h3, ?_⟩
    rw [show ((1 : Int) + namN r).toNat = namN r + 1 by omega]; rfl
  · split at h
    · rename_i hc
      obtain ⟨h1, h2, h3, h4, h5⟩ := named 5 (.inr rfl) h
      subst hc; subst h4; subst h5
      refine ⟨h1, by omega, h3, ?_⟩
      rw [show ((1 : Int) + namN r).toNat = namN r + 1 by omega]; rfl
    · split at h
      · rename_i hc
        subst hc
        unfold itemL at h
        split at h
        · rename_i h93
          cases h
          cases r with
          | nil => simp at h93
          | cons d r =>
           simp only [List.getElem?_cons_zero, Option.some.injEq] at h93
           subst h93
           exact ⟨by omega, by simp; omega, rfl, rfl⟩
        · split at h
          · rename_i he; simp only [Prod.mk.injEq] at h; exact absurd h.2.2.1 he
          · rename_i he
            have he : (takeS r 0).2.2.1 = 0 := by simpa using he
            obtain ⟨v, e, f, q, ht⟩ : ∃ v e f q, takeS r 0 = (v, e, f, q) := ⟨_, _, _, _, rfl⟩
            rw [ht] at h he
            simp only at h he
            subst he
            obtain ⟨t1, t2, t3, _⟩ := takeS_good r v e q ht
            have t5 := takeS_put r v e q ht
            split at h
            · simp at h
            · rename_i hv
              split at h
              · rename_i h93
                cases h
                have hlt : e.toNat < r.length := (List.getElem?_eq_some_iff.1 h93).1
                refine ⟨by omega, by omega, ?_, ?_⟩
                · unfold stepB; rw [if_neg (by simp), if_pos rfl]; simp; omega
                · show 91 :: (putL v ++ [93]) = _
                  rw [show ((2 : Int) + e).toNat = (e.toNat + 1) + 1 by omega, List.take_succ_cons, t5, List.take_add_one, h93]; rfl
              · simp at h
      · split at h
        · rename_i hc
          cases h; subst hc
          exact ⟨by omega, by omega, rfl, rfl⟩
        · simp at h
def pathL (k : Nat) (l : List UInt8) : List StepT × Int × Int :=
 if h0 : l = [] then ([], 0, 0) else if k = 64 then ([], 8, 0)
 else if h : (stepL l).2.2.1 = 0 then
  if (pathL (k + 1) (l.drop (stepL l).2.1.toNat)).2.1 = 0 then ((stepL l).1 :: (pathL (k + 1) (l.drop (stepL l).2.1.toNat)).1, 0, 0)
  else ([], (pathL (k + 1) (l.drop (stepL l).2.1.toNat)).2.1, (stepL l).2.1 + (pathL (k + 1) (l.drop (stepL l).2.1.toNat)).2.2)
 else ([], (stepL l).2.2.1, (stepL l).2.2.2)
termination_by l.length
decreasing_by
 all_goals
  have := stepL_good l (stepL l).1 (stepL l).2.1 (stepL l).2.2.2 (by rw [← h])
  have h3 : 1 ≤ l.length := List.length_pos_iff.2 h0
  rw [List.length_drop]; omega
theorem pathL_many (l : List UInt8) (h : l ≠ []) : pathL 64 l = ([], 8, 0) := by rw [pathL, dif_neg h, if_pos rfl]
theorem pathL_ok (k : Nat) (l : List UInt8) (h : l ≠ []) (hk : k ≠ 64) {x : StepT} {n p : Int} (hs : stepL l = (x, n, 0, p)) :
 pathL k l = if (pathL (k + 1) (l.drop n.toNat)).2.1 = 0 then (x :: (pathL (k + 1) (l.drop n.toNat)).1, 0, 0) else ([], (pathL (k + 1) (l.drop n.toNat)).2.1, n + (pathL (k + 1) (l.drop n.toNat)).2.2) := by
 rw [pathL, dif_neg h, if_neg hk, dif_pos (by rw [hs]), hs]
structure PInv (s : List UInt8) (i : Int) (acc : List StepT) : Prop where
 i0 : 0 ≤ i
 i1 : i ≤ s.length
 k : acc.length ≤ 64
 eq : pathL 0 s = if (pathL acc.length (s.drop i.toNat)).2.1 = 0 then (acc ++ (pathL acc.length (s.drop i.toNat)).1, 0, 0) else ([], (pathL acc.length (s.drop i.toNat)).2.1, i + (pathL acc.length (s.drop i.toNat)).2.2)
theorem pathL_clean (k : Nat) (l : List UInt8) : (pathL k l).2.1 = 0 → (pathL k l).2.2 = 0 := by
 intro h
 rw [pathL] at h ⊢
 split
 · rfl
 · rename_i h0
   rw [dif_neg h0] at h
   split
   · rfl
   · rename_i h1
     rw [if_neg h1] at h
     split
     · rename_i h2
       rw [dif_pos h2] at h
       split
       · rfl
       · rename_i h3; rw [if_neg h3] at h; exact absurd h h3
     · rename_i h2; rw [dif_neg h2] at h; exact absurd h h2
theorem pathL_err (k : Nat) (l : List UInt8) : (pathL k l).2.1 ≠ 0 → (pathL k l).1 = [] := by
 intro h
 rw [pathL] at h ⊢
 split
 · rfl
 · rename_i h0
   rw [dif_neg h0] at h
   split
   · rfl
   · rename_i h1
     rw [if_neg h1] at h
     split
     · rename_i h2
       rw [dif_pos h2] at h
       split
       · rename_i h3; rw [if_pos h3] at h; exact absurd rfl h
       · rfl
     · rfl
theorem PInv.start (s : List UInt8) : PInv s 0 [] := by
 refine ⟨Int.le_refl 0, by omega, Nat.zero_le _, ?_⟩
 simp only [List.length_nil, Int.toNat_zero, List.drop_zero, List.nil_append, Int.zero_add]
 have h1 := pathL_clean 0 s
 have h2 := pathL_err 0 s
 split
 · rename_i h; exact Prod.ext rfl (Prod.ext h (h1 h))
 · rename_i h; exact Prod.ext (h2 h) rfl
theorem drop_ne0 (s : List UInt8) (i : Int) (h0 : 0 ≤ i) (h1 : i < s.length) : s.drop i.toNat ≠ [] := by intro e; have := congrArg List.length e; simp at this; omega
theorem PInv.step {s : List UInt8} {i : Int} {acc : List StepT} (h : PInv s i acc) (hlt : i < s.length) (hk : acc.length ≠ 64) {x : StepT} {n p : Int} (hs : stepL (s.drop i.toNat) = (x, n, 0, p)) : PInv s (i + n) (acc ++ [x]) ∧ 1 ≤ n := by
 have hg := stepL_good _ x n p hs
 rw [List.length_drop] at hg
 have i0 := h.i0
 have hkk := h.k
 refine ⟨⟨by omega, by omega, by simp; omega, ?_⟩, hg.1⟩
 rw [h.eq, pathL_ok _ _ (drop_ne0 s i i0 hlt) hk hs, List.drop_drop, show (i + n).toNat = i.toNat + n.toNat by omega]
 have e : (acc ++ [x]).length = acc.length + 1 := by simp
 rw [e]
 by_cases hz : (pathL (acc.length + 1) (s.drop (i.toNat + n.toNat))).2.1 = 0
 · rw [if_pos hz]
   simp [hz]
 · rw [if_neg hz]
   simp only [hz, if_false]
   rw [Int.add_assoc]
theorem PInv.many {s : List UInt8} {i : Int} {acc : List StepT} (h : PInv s i acc) (hlt : i < s.length) (hk : acc.length = 64) : pathL 0 s = ([], 8, i) := by
 rw [h.eq, hk, pathL_many _ (drop_ne0 s i h.i0 hlt)]; simp
/-! round trips -/
end Bf