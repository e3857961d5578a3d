/- BPL: texts of this proof, joined by program: Plain, Plain2, Plain3, PlainUtf, PlainUtf2, PlainUtf3, PlainUtf4, PlainPin, PlainEsc, PlainNames, PlainPaths. -/
import GoSem.Core.Value
import GoSem.Op.String
/- Plain facts on lists of bytes and numbers: no program in sight. -/
set_option linter.unusedVariables false
set_option linter.unusedSimpArgs false
namespace Bf
theorem toList_drop_cons (s : ByteArray) (k : Nat) (h : k < s.size) : s.data.toList.drop k = s[k] :: s.data.toList.drop (k + 1) := by
 have h' : k < s.data.toList.length := by simpa using h
 rw [List.drop_eq_getElem_cons h']; rfl
theorem toList_length (s : ByteArray) : s.data.toList.length = s.size := by simp
theorem drop_all (s : ByteArray) (k : Nat) (h : s.size ≤ k) : s.data.toList.drop k = [] := by
 apply List.drop_of_length_le; rw [toList_length]; exact h
/-! ### digits -/
def isDig (c : UInt8) : Bool := decide (48 ≤ c.toNat) && decide (c.toNat ≤ 57)
def runL : List UInt8 → Nat
 | [] => 0
 | c :: l => if isDig c then runL l + 1 else 0
theorem runL_le (l : List UInt8) : runL l ≤ l.length := by
 induction l with
 | nil => simp [runL]
 | cons c l ih => unfold runL; split <;> simp <;> omega
def digVal (c : UInt8) : Nat := c.toNat - 48
def numVal : List UInt8 → Nat → Nat
 | [], a => a
 | c :: l, a => numVal l (a * 10 + digVal c)
def most (minus : Bool) : Nat := if minus then 9223372036854775808 else 9223372036854775807
def valB (v : Nat) (minus : Bool) : Bool := decide (v ≤ most minus)
def valN (v : Nat) (minus : Bool) : Int := if v ≤ most minus then (if minus then -(v : Int) else v) else 0
theorem val_minus (v : Nat) (h : v ≤ 9223372036854775808) : valB v true = true ∧ valN v true = -(v : Int) := by
 unfold valB valN most; simp [h]
theorem val_plus (v : Nat) (h : v < 9223372036854775808) : valB v false = true ∧ valN v false = v := by
 unfold valB valN most
 have : v ≤ 9223372036854775807 := by omega
 simp [this]
theorem extract_toList (s : ByteArray) (a b : Nat) : (s.extract a b).data.toList = (s.data.toList.drop a).take (b - a) := by
 rw [ByteArray.data_extract, Array.toList_extract, List.extract_eq_take_drop]
theorem extract_rest (s : ByteArray) (a : Nat) : (s.extract a s.size).data.toList = s.data.toList.drop a := by
 rw [extract_toList, List.take_of_length_le]; simp
theorem runL_all (l : List UInt8) : ∀ n, n ≤ runL l → ∀ c ∈ l.take n, isDig c = true := by
 induction l with
 | nil => simp
 | cons c l ih =>
  intro n hn; unfold runL at hn
  cases n with
  | zero => simp
  | succ n =>
   split at hn
   · rename_i h; intro d hd; simp at hd; rcases hd with rfl | hd
     · exact h
     · exact ih n (by omega) d hd
   · omega
def takeAt (l : List UInt8) (k : Nat) : Int × Int × Int × Int :=
 let minus := l[k]? == some 45
 let fr := if minus then k + 1 else k
 let many := runL (l.drop fr)
 let v := numVal ((l.drop fr).take many) 0
 if many = 0 then (0, 0, if fr = l.length then 5 else 19, (fr : Int))
 else if l[fr]? = some 48 ∧ (1 < many ∨ minus = true) then (0, 0, 19, (k : Int))
 else if valB v minus then (valN v minus, (fr : Int) + many, 0, 0) else (0, 0, 13, (k : Int))
def takeS (l : List UInt8) (at_ : Int) : Int × Int × Int × Int :=
 if at_ < 0 ∨ (l.length : Int) < at_ then (0, 0, 1, 0) else takeAt l at_.toNat
theorem takeS_in (l : List UInt8) (k : Nat) (h : k ≤ l.length) : takeS l k = takeAt l k := by
 unfold takeS; rw [if_neg (by omega)]; simp
theorem takeAt_ways (l : List UInt8) (k : Nat) (m : Bool) (hm : (l[k]? == some 45) = m) (fr : Nat) (hfr : fr = if m then k + 1 else k)
 (many : Nat) (hmany : runL (l.drop fr) = many) :
 (many = 0 ∧ fr = l.length → takeAt l k = (0, 0, 5, (fr : Int))) ∧ (many = 0 ∧ fr ≠ l.length → takeAt l k = (0, 0, 19, (fr : Int)))
 ∧ (many ≠ 0 → l[fr]? = some 48 ∧ (1 < many ∨ m = true) → takeAt l k = (0, 0, 19, (k : Int)))
 ∧ (many ≠ 0 → ¬ (l[fr]? = some 48 ∧ (1 < many ∨ m = true)) → takeAt l k = if valB (numVal ((l.drop fr).take many) 0) m then (valN (numVal ((l.drop fr).take many) 0) m, (fr : Int) + many, 0, 0) else (0, 0, 13, (k : Int))) := by
 have e : takeAt l k = if many = 0 then (0, 0, if fr = l.length then 5 else 19, (fr : Int))
  else if l[fr]? = some 48 ∧ (1 < many ∨ m = true) then (0, 0, 19, (k : Int))
  else if valB (numVal ((l.drop fr).take many) 0) m then (valN (numVal ((l.drop fr).take many) 0) m, (fr : Int) + many, 0, 0) else (0, 0, 13, (k : Int)) := by
  unfold takeAt; simp only [hm, ← hfr, hmany]
 rw [e]
 refine ⟨fun ⟨h, h'⟩ => by rw [if_pos h, if_pos h'], fun ⟨h, h'⟩ => by rw [if_pos h, if_neg h'], fun h h' => by rw [if_neg h, if_pos h'], fun h h' => by rw [if_neg h, if_neg h']⟩
def parseS (l : List UInt8) : Int × Int × Int :=
 let r := takeS l 0
 if r.2.2.1 ≠ 0 then (0, r.2.2.1, r.2.2.2) else if r.2.1 < l.length then (0, 19, r.2.1) else (r.1, 0, 0)
end Bf
/- Plain facts on numbers' texts: no program in sight. -/
namespace Bf
def decL (n : Nat) : List UInt8 := if n < 10 then [UInt8.ofNat (48 + n)] else decL (n / 10) ++ [UInt8.ofNat (48 + n % 10)]
termination_by n
decreasing_by omega
def putL (n : Int) : List UInt8 := if n < 0 then 45 :: decL n.natAbs else decL n.natAbs
theorem decL_lt (n : Nat) (h : n < 10) : decL n = [UInt8.ofNat (48 + n)] := by rw [decL, if_pos h]
theorem decL_ge (n : Nat) (h : ¬ n < 10) : decL n = decL (n / 10) ++ [UInt8.ofNat (48 + n % 10)] := by rw [decL, if_neg h]
/-! ### texts of digits, held against one another -/
end Bf
/- Plain facts: a number's text is read back as that number; digits that are read are that number's text. -/
namespace Bf
theorem numVal_append (l m : List UInt8) (a : Nat) : numVal (l ++ m) a = numVal m (numVal l a) := by
 induction l generalizing a with
 | nil => rfl
 | cons c l ih => simp [numVal, ih]
theorem decL_numVal (l : List UInt8) : ∀ (n : Nat), l.length = n → (∀ c ∈ l, isDig c = true) → l ≠ [] → (∀ c r, l = c :: r → c.toNat = 48 → r = []) → decL (numVal l 0) = l := by
 intro n
 induction n generalizing l with
 | zero => intro h _ hne; exact absurd (List.length_eq_zero_iff.1 h) hne
 | succ n ih =>
  intro hlen hd hne hz
  obtain ⟨m, c, rfl⟩ : ∃ m c, l = m ++ [c] := ⟨l.dropLast, l.getLast hne, (List.dropLast_concat_getLast hne).symm⟩
  have hc := hd c (by simp)
  have hcv : digVal c < 10 ∧ UInt8.ofNat (48 + digVal c) = c := by
   have := hc; unfold isDig at this; simp at this; unfold digVal
   refine ⟨by omega, ?_⟩
   apply UInt8.toNat_inj.1; simp; omega
  rw [numVal_append]
  simp only [numVal]
  by_cases hm : m = []
  · subst hm; simp only [numVal]; rw [decL_lt _ (by omega)]; simp [hcv.2]
  · have hm1 : ∀ d ∈ m, isDig d = true := fun d h => hd d (by simp [h])
    have hm2 : ∀ d r, m = d :: r → d.toNat = 48 → r = [] := by
     intro d r hr h48
     have := hz d (r ++ [c]) (by rw [hr]; rfl) h48
     simp at this
    have e := ih m (by simpa using hlen) hm1 hm hm2
    have hpos : numVal m 0 ≠ 0 := by
     intro h0; rw [h0] at e
     rw [decL_lt 0 (by omega)] at e
     have := hz (UInt8.ofNat (48 + 0)) [c] (by rw [← e]; rfl) (by decide)
     simp at this
    rw [decL_ge _ (by omega), show (numVal m 0 * 10 + digVal c) / 10 = numVal m 0 by omega, show (numVal m 0 * 10 + digVal c) % 10 = digVal c by omega, e, hcv.2]
theorem putL_parseS (l : List UInt8) (x : Int) (h : parseS l = (x, 0, 0)) : putL x = l := by
 unfold parseS at h
 simp only at h
 by_cases he : (takeS l 0).2.2.1 = 0
 · rw [if_neg (by simpa using he)] at h
   by_cases hl : (takeS l 0).2.1 < l.length
   · rw [if_pos hl] at h; simp at h
   · rw [if_neg hl] at h
     have hx : (takeS l 0).1 = x := (Prod.mk.inj h).1
     have h0 := takeS_in l 0 (Nat.zero_le _)
     rw [show ((0 : Nat) : Int) = 0 from rfl] at h0
     rw [h0] at he hl hx
     generalize hm : (l[0]? == some 45) = m at *
     obtain ⟨fr, hfr⟩ : ∃ fr, fr = if m then 0 + 1 else 0 := ⟨_, rfl⟩
     obtain ⟨w0, w1, w2, w3⟩ := takeAt_ways l 0 m hm fr hfr _ rfl
     by_cases hz : runL (l.drop fr) = 0
     · by_cases e : fr = l.length
       · rw [w0 ⟨hz, e⟩] at he; simp at he
       · rw [w1 ⟨hz, e⟩] at he; simp at he
     · by_cases hb : l[fr]? = some 48 ∧ (1 < runL (l.drop fr) ∨ m = true)
       · rw [w2 hz hb] at he; simp at he
       · have w := w3 hz hb
         obtain ⟨ds, hds⟩ : ∃ ds, (l.drop fr).take (runL (l.drop fr)) = ds := ⟨_, rfl⟩
         rw [hds] at w
         by_cases hv : valB (numVal ds 0) m = true
         · rw [if_pos hv] at w
           rw [w] at hl hx
           simp only at hl hx
           have hle := runL_le (l.drop fr)
           have hall : l.drop fr = ds := by rw [← hds, List.take_of_length_le]; simp at hle ⊢; omega
           have hdig : ∀ c ∈ ds, isDig c = true := by rw [← hds]; exact runL_all _ _ (Nat.le_refl _)
           have hne : ds ≠ [] := by intro h; rw [hall, h] at hz; exact hz rfl
           have hz2 : ∀ c r, ds = c :: r → c.toNat = 48 → r = [] := by
            intro c r hcr hc
            have h1 : l[fr]? = some 48 := by
             have : (l.drop fr)[0]? = some c := by rw [hall, hcr]; rfl
             rw [List.getElem?_drop] at this; simp at this; rw [this]; congr 1; exact UInt8.toNat_inj.1 hc
            have h2 : ¬ 1 < runL (l.drop fr) := fun h => hb ⟨h1, Or.inl h⟩
            have h3 : runL (l.drop fr) = (l.drop fr).length := by
             have : ds.length ≤ runL (l.drop fr) := by rw [← hds]; simp; omega
             rw [hall] at this ⊢; have := runL_le ds; omega
            rw [h3, hall, hcr] at h2
            cases r with
            | nil => rfl
            | cons a b => simp at h2
           have hdec := decL_numVal ds _ rfl hdig hne hz2
           cases m with
           | false =>
            simp at hfr; subst hfr
            have hvle : numVal ds 0 ≤ 9223372036854775807 := by unfold valB most at hv; simpa using hv
            rw [(val_plus _ (by omega)).2] at hx
            subst hx
            unfold putL; rw [if_neg (by omega)]; simp only [Int.natAbs_natCast]; rw [hdec, ← hall]; rfl
           | true =>
            simp at hfr; subst hfr
            have hvle : numVal ds 0 ≤ 9223372036854775808 := by unfold valB most at hv; simpa using hv
            rw [(val_minus _ hvle).2] at hx
            have hpos : numVal ds 0 ≠ 0 := by
             intro h; rw [h, decL_lt 0 (by omega)] at hdec
             have h1 : l[1]? = some 48 := by
              have : (l.drop 1)[0]? = some 48 := by rw [hall, ← hdec]; rfl
              rw [List.getElem?_drop] at this; simpa using this
             exact hb ⟨h1, Or.inr rfl⟩
            subst hx
            unfold putL; rw [if_pos (by omega)]; simp only [Int.natAbs_neg, Int.natAbs_natCast]; rw [hdec, ← hall]
            cases l with
            | nil => simp at hm
            | cons c l => simp at hm; rw [hm]; rfl
         · rw [if_neg hv] at w; rw [w] at he; simp at he
 · rw [if_pos he] at h; simp at h; exact absurd h.2.1 he
end Bf
/- Plain facts: UTF-8. No program in sight. -/
namespace Bf
def leadS (n : Int) : Int × Int × Int :=
 if n < 128 then (1, 128, 191) else if n < 194 then (0, 128, 191) else if n < 224 then (2, 128, 191)
 else if n = 224 then (3, 160, 191) else if n < 237 then (3, 128, 191) else if n = 237 then (3, 128, 159) else if n < 240 then (3, 128, 191)
 else if n = 240 then (4, 144, 191) else if n < 244 then (4, 128, 191) else if n = 244 then (4, 128, 143) else (0, 128, 191)
def scanL (lo hi : Int) : Nat → List UInt8 → Nat
 | 0, _ => 0
 | _ + 1, [] => 0
 | m + 1, b :: l => if lo ≤ (b.toNat : Int) ∧ (b.toNat : Int) ≤ hi then scanL 128 191 m l + 1 else 0
def valL : List UInt8 → Int
 | [a] => a.toNat
 | [a, b] => (a.toNat : Int) % 32 * 64 + (b.toNat : Int) % 64
 | [a, b, c] => ((a.toNat : Int) % 16 * 64 + (b.toNat : Int) % 64) * 64 + (c.toNat : Int) % 64
 | [a, b, c, d] => (((a.toNat : Int) % 8 * 64 + (b.toNat : Int) % 64) * 64 + (c.toNat : Int) % 64) * 64 + (d.toNat : Int) % 64
 | _ => 0
def decS : List UInt8 → Int × Nat × Bool
 | [] => (0, 0, false)
 | c :: l =>
  let r := leadS c.toNat
  if r.1 = 0 then (0, 1, false)
  else if scanL r.2.1 r.2.2 (r.1.toNat - 1) l = r.1.toNat - 1 then (valL ((c :: l).take r.1.toNat), r.1.toNat, true)
  else (0, 1 + scanL r.2.1 r.2.2 (r.1.toNat - 1) l, false)
theorem scanL_le (lo hi : Int) (m : Nat) (l : List UInt8) : scanL lo hi m l ≤ m ∧ scanL lo hi m l ≤ l.length := by
 induction m generalizing lo hi l with
 | zero => simp [scanL]
 | succ m ih =>
  cases l with
  | nil => simp [scanL]
  | cons b l =>
   unfold scanL; split
   · have := ih 128 191 l; simp; omega
   · simp
theorem leadS_bd (n : Int) : 0 ≤ (leadS n).1 ∧ (leadS n).1 ≤ 4 := by
 unfold leadS; repeat (first | (split; decide) | decide)
theorem decS_len (l : List UInt8) : (decS l).2.1 ≤ l.length ∧ (l ≠ [] → 1 ≤ (decS l).2.1) ∧ (decS l).2.1 ≤ 4 := by
 cases l with
 | nil => simp [decS]
 | cons c l =>
  have hb := leadS_bd c.toNat
  unfold decS; simp only
  have hs := scanL_le (leadS c.toNat).2.1 (leadS c.toNat).2.2 ((leadS c.toNat).1.toNat - 1) l
  split
  · simp
  · split
    · simp; omega
    · simp; omega
def scalarB (n : Int) : Bool := decide (0 ≤ n) && decide (n ≤ 1114111) && (decide (n < 55296) || decide (57343 < n))
def u8 (n : Int) : UInt8 := UInt8.ofNat n.toNat
def encL (n : Int) : List UInt8 :=
 if scalarB n = false then [] else if n < 128 then [u8 n] else if n < 2048 then [u8 (192 + n / 64), u8 (128 + n % 64)]
 else if n < 65536 then [u8 (224 + n / 4096), u8 (128 + n / 64 % 64), u8 (128 + n % 64)]
 else [u8 (240 + n / 262144), u8 (128 + n / 4096 % 64), u8 (128 + n / 64 % 64), u8 (128 + n % 64)]
def encB (n : Int) : ByteArray := ⟨(encL n).toArray⟩
theorem encB_list (n : Int) : (encB n).data.toList = encL n := by unfold encB; simp
theorem encL_no (n : Int) (h : scalarB n = false) : encL n = [] := by unfold encL; rw [if_pos h]
theorem encL_1 (n : Int) (h : scalarB n = true) (h1 : n < 128) : encL n = [u8 n] := by unfold encL; rw [if_neg (by simp [h]), if_pos h1]
theorem encL_2 (n : Int) (h : scalarB n = true) (h1 : ¬ n < 128) (h2 : n < 2048) : encL n = [u8 (192 + n / 64), u8 (128 + n % 64)] := by unfold encL; rw [if_neg (by simp [h]), if_neg h1, if_pos h2]
theorem encL_3 (n : Int) (h : scalarB n = true) (h1 : ¬ n < 128) (h2 : ¬ n < 2048) (h3 : n < 65536) : encL n = [u8 (224 + n / 4096), u8 (128 + n / 64 % 64), u8 (128 + n % 64)] := by
 unfold encL; rw [if_neg (by simp [h]), if_neg h1, if_neg h2, if_pos h3]
theorem encL_4 (n : Int) (h : scalarB n = true) (h1 : ¬ n < 128) (h2 : ¬ n < 2048) (h3 : ¬ n < 65536) :
 encL n = [u8 (240 + n / 262144), u8 (128 + n / 4096 % 64), u8 (128 + n / 64 % 64), u8 (128 + n % 64)] := by
 unfold encL; rw [if_neg (by simp [h]), if_neg h1, if_neg h2, if_neg h3]
theorem scalarB_true {n : Int} (h : scalarB n = true) : 0 ≤ n ∧ n ≤ 1114111 ∧ (n < 55296 ∨ 57343 < n) := by
 unfold scalarB at h; simp at h; omega
theorem scalarB_false {n : Int} (h : scalarB n = false) : n < 0 ∨ 1114111 < n ∨ (55296 ≤ n ∧ n ≤ 57343) := by
 unfold scalarB at h; simp at h; omega
theorem encL_len (n : Int) : (encL n).length ≤ 4 := by
 unfold encL; split
 · simp
 · split
   · simp
   · split
     · simp
     · split <;> simp
theorem decS_drop_lt (l : List UInt8) (h : l ≠ []) : (l.drop (decS l).2.1).length < l.length := by
 have := (decS_len l).2.1 h
 have h2 : 0 < l.length := List.length_pos_iff.2 h
 simp; omega
def badL (l : List UInt8) : Nat := if h : l = [] then 0 else if (decS l).2.2 = true then (decS l).2.1 + badL (l.drop (decS l).2.1) else 0
termination_by l.length
decreasing_by exact decS_drop_lt l h
def runesL (l : List UInt8) : List Int := if h : l = [] then [] else if (decS l).2.2 = true then (decS l).1 :: runesL (l.drop (decS l).2.1) else []
termination_by l.length
decreasing_by exact decS_drop_lt l h
def countL (l : List UInt8) : Nat := if h : l = [] then 0 else countL (l.drop (decS l).2.1) + 1
termination_by l.length
decreasing_by exact decS_drop_lt l h
theorem badL_nil : badL [] = 0 := by rw [badL, dif_pos rfl]
theorem runesL_nil : runesL [] = [] := by rw [runesL, dif_pos rfl]
theorem countL_nil : countL [] = 0 := by rw [countL, dif_pos rfl]
theorem badL_ok (l : List UInt8) (r : Int) (n : Nat) (h : l ≠ []) (hd : decS l = (r, n, true)) : badL l = n + badL (l.drop n) := by rw [badL, dif_neg h, hd, if_pos rfl]
theorem badL_bad (l : List UInt8) (r : Int) (n : Nat) (hd : decS l = (r, n, false)) : badL l = 0 := by
 rw [badL]; split
 · rfl
 · rw [hd]; rfl
theorem runesL_ok (l : List UInt8) (r : Int) (n : Nat) (h : l ≠ []) (hd : decS l = (r, n, true)) : runesL l = r :: runesL (l.drop n) := by rw [runesL, dif_neg h, hd, if_pos rfl]
theorem runesL_bad (l : List UInt8) (r : Int) (n : Nat) (hd : decS l = (r, n, false)) : runesL l = [] := by
 rw [runesL]; split
 · rfl
 · rw [hd]; rfl
theorem countL_step (l : List UInt8) (r : Int) (n : Nat) (b : Bool) (h : l ≠ []) (hd : decS l = (r, n, b)) : countL l = countL (l.drop n) + 1 := by rw [countL, dif_neg h, hd]
theorem badL_le : ∀ (m : Nat) (l : List UInt8), l.length ≤ m → badL l ≤ l.length := by
 intro m
 induction m with
 | zero => intro l h; have : l = [] := List.length_eq_zero_iff.1 (by omega); subst this; simp [badL_nil]
 | succ m ih =>
  intro l h
  by_cases hl : l = []
  · subst hl; simp [badL_nil]
  · obtain ⟨r, n, b, hd⟩ : ∃ r n b, decS l = (r, n, b) := ⟨_, _, _, rfl⟩
    have hn := decS_len l
    rw [hd] at hn
    simp only at hn
    cases b
    · rw [badL_bad l r n hd]; omega
    · rw [badL_ok l r n hl hd]
      have := ih (l.drop n) (by have := hn.2.1 hl; simp; omega)
      simp at this; have := hn.1; omega
end Bf
/- Plain facts: the reference's way to decode is the table's. No program in sight. -/
namespace Bf
theorem u8_toNat (x : Int) (h0 : 0 ≤ x) (h1 : x < 256) : ((u8 x).toNat : Int) = x := by
 unfold u8; rw [UInt8.toNat_ofNat', Nat.mod_eq_of_lt (by omega)]; omega
theorem u8_eq (x : Int) (a : UInt8) (h0 : 0 ≤ x) (h1 : x < 256) (h : x = a.toNat) : u8 x = a := by
 apply UInt8.toNat_inj.1; have := u8_toNat x h0 h1; omega
theorem lead1 (x : Int) (h : x < 128) : leadS x = (1, 128, 191) := by unfold leadS; rw [if_pos h]
theorem lead0 (x : Int) (h : 128 ≤ x) (h' : x < 194) : leadS x = (0, 128, 191) := by unfold leadS; rw [if_neg (by omega), if_pos h']
theorem lead0' (x : Int) (h : 244 < x) : leadS x = (0, 128, 191) := by
 unfold leadS; rw [if_neg (by omega), if_neg (by omega), if_neg (by omega), if_neg (by omega), if_neg (by omega), if_neg (by omega), if_neg (by omega), if_neg (by omega), if_neg (by omega), if_neg (by omega)]
theorem lead2 (x : Int) (h : 194 ≤ x) (h' : x < 224) : leadS x = (2, 128, 191) := by unfold leadS; rw [if_neg (by omega), if_neg (by omega), if_pos h']
theorem lead3 (x : Int) (h : 224 ≤ x) (h' : x < 240) : leadS x = (3, if x = 224 then 160 else 128, if x = 237 then 159 else 191) := by
 unfold leadS; rw [if_neg (by omega), if_neg (by omega), if_neg (by omega)]
 by_cases a : x = 224
 · subst a; rfl
 · rw [if_neg a, if_neg a]
   by_cases b : x < 237
   · rw [if_pos b, if_neg (by omega)]
   · by_cases c : x = 237
     · subst c; rfl
     · rw [if_neg b, if_neg c, if_neg c, if_pos h']
theorem lead4 (x : Int) (h : 240 ≤ x) (h' : x ≤ 244) : leadS x = (4, if x = 240 then 144 else 128, if x = 244 then 143 else 191) := by
 unfold leadS; rw [if_neg (by omega), if_neg (by omega), if_neg (by omega), if_neg (by omega), if_neg (by omega), if_neg (by omega), if_neg (by omega)]
 by_cases a : x = 240
 · subst a; rfl
 · rw [if_neg a, if_neg a]
   by_cases b : x < 244
   · rw [if_pos b, if_neg (by omega)]
   · have : x = 244 := by omega
     subst this; rfl
def good2 (a b : UInt8) : Prop := (leadS a.toNat).2.1 ≤ (b.toNat : Int) ∧ (b.toNat : Int) ≤ (leadS a.toNat).2.2
instance (a b : UInt8) : Decidable (good2 a b) := by unfold good2; infer_instance
def cont (c : UInt8) : Prop := 128 ≤ (c.toNat : Int) ∧ (c.toNat : Int) ≤ 191
instance (c : UInt8) : Decidable (cont c) := by unfold cont; infer_instance
def want (a : UInt8) : Int := (leadS a.toNat).1
theorem decS_0 (a : UInt8) (t : List UInt8) (h : want a = 0) : decS (a :: t) = (0, 1, false) := by unfold want at h; unfold decS; simp only; rw [if_pos h]
theorem decS_1 (a : UInt8) (t : List UInt8) (h : want a = 1) : decS (a :: t) = ((a.toNat : Int), 1, true) := by
 unfold want at h; unfold decS; simp only; rw [if_neg (by omega), h]; simp [scanL, valL]
theorem decS_k1 (a : UInt8) (h : 2 ≤ want a) : decS [a] = (0, 1, false) := by
 unfold want at h; unfold decS; simp only; rw [if_neg (by omega), if_neg]
 · have : scanL (leadS a.toNat).2.1 (leadS a.toNat).2.2 ((leadS a.toNat).1.toNat - 1) [] = 0 := by have := (scanL_le (leadS a.toNat).2.1 (leadS a.toNat).2.2 ((leadS a.toNat).1.toNat - 1) []).2; simpa using this
   rw [this]
 · have : scanL (leadS a.toNat).2.1 (leadS a.toNat).2.2 ((leadS a.toNat).1.toNat - 1) [] = 0 := by have := (scanL_le (leadS a.toNat).2.1 (leadS a.toNat).2.2 ((leadS a.toNat).1.toNat - 1) []).2; simpa using this
   rw [this]; omega
theorem decS_bad2 (a b : UInt8) (t : List UInt8) (h : 2 ≤ want a) (hb : ¬ good2 a b) : decS (a :: b :: t) = (0, 1, false) := by
 unfold want at h; unfold good2 at hb; unfold decS; simp only
 obtain ⟨m, hm⟩ : ∃ m, (leadS a.toNat).1.toNat - 1 = m + 1 := ⟨(leadS a.toNat).1.toNat - 2, by omega⟩
 rw [if_neg (by omega), hm]; simp only [scanL, if_neg hb]; rw [if_neg (by omega)]
theorem decS_2 (a b : UInt8) (t : List UInt8) (h : want a = 2) (hb : good2 a b) : decS (a :: b :: t) = (valL [a, b], 2, true) := by
 unfold want at h; unfold good2 at hb; unfold decS; simp only; rw [if_neg (by omega), h]
 simp [scanL, hb]
theorem decS_k2 (a b : UInt8) (h : 3 ≤ want a) (hb : good2 a b) : decS [a, b] = (0, 2, false) := by
 have h4 := (leadS_bd a.toNat).2
 unfold want at h; unfold good2 at hb; unfold decS; simp only
 rcases (by omega : (leadS a.toNat).1 = 3 ∨ (leadS a.toNat).1 = 4) with e | e <;> (rw [if_neg (by omega), e]; simp [scanL, hb])
theorem decS_bad3 (a b c : UInt8) (t : List UInt8) (h : 3 ≤ want a) (hb : good2 a b) (hc : ¬ cont c) : decS (a :: b :: c :: t) = (0, 2, false) := by
 have h4 := (leadS_bd a.toNat).2
 unfold want at h; unfold good2 at hb; unfold cont at hc; unfold decS; simp only
 rcases (by omega : (leadS a.toNat).1 = 3 ∨ (leadS a.toNat).1 = 4) with e | e
 · rw [if_neg (by omega), e]; simp only [show (3 : Int).toNat - 1 = 2 from rfl, scanL, if_pos hb, if_neg hc]; rfl
 · rw [if_neg (by omega), e]; simp only [show (4 : Int).toNat - 1 = 3 from rfl, scanL, if_pos hb, if_neg hc]; rfl
theorem decS_3 (a b c : UInt8) (t : List UInt8) (h : want a = 3) (hb : good2 a b) (hc : cont c) : decS (a :: b :: c :: t) = (valL [a, b, c], 3, true) := by
 unfold want at h; unfold good2 at hb; unfold cont at hc; unfold decS; simp only; rw [if_neg (by omega), h]
 simp only [show (3 : Int).toNat - 1 = 2 from rfl, scanL, if_pos hb, if_pos hc]; rfl
theorem decS_k3 (a b c : UInt8) (h : want a = 4) (hb : good2 a b) (hc : cont c) : decS [a, b, c] = (0, 3, false) := by
 unfold want at h; unfold good2 at hb; unfold cont at hc; unfold decS; simp only; rw [if_neg (by omega), h]
 simp only [show (4 : Int).toNat - 1 = 3 from rfl, scanL, if_pos hb, if_pos hc]; rfl
theorem decS_bad4 (a b c d : UInt8) (t : List UInt8) (h : want a = 4) (hb : good2 a b) (hc : cont c) (hd : ¬ cont d) : decS (a :: b :: c :: d :: t) = (0, 3, false) := by
 unfold want at h; unfold good2 at hb; unfold cont at hc hd; unfold decS; simp only; rw [if_neg (by omega), h]
 simp only [show (4 : Int).toNat - 1 = 3 from rfl, scanL, if_pos hb, if_pos hc, if_neg hd]; rfl
theorem decS_4 (a b c d : UInt8) (t : List UInt8) (h : want a = 4) (hb : good2 a b) (hc : cont c) (hd : cont d) : decS (a :: b :: c :: d :: t) = (valL [a, b, c, d], 4, true) := by
 unfold want at h; unfold good2 at hb; unfold cont at hc hd; unfold decS; simp only; rw [if_neg (by omega), h]
 simp only [show (4 : Int).toNat - 1 = 3 from rfl, scanL, if_pos hb, if_pos hc, if_pos hd]; rfl
theorem want_cases (a : UInt8) : (want a = 0 ∧ (128 ≤ (a.toNat : Int) ∧ (a.toNat : Int) < 194 ∨ 244 < (a.toNat : Int))) ∨ (want a = 1 ∧ (a.toNat : Int) < 128)
 ∨ (want a = 2 ∧ 194 ≤ (a.toNat : Int) ∧ (a.toNat : Int) < 224 ∧ ∀ b, good2 a b ↔ cont b)
 ∨ (want a = 3 ∧ 224 ≤ (a.toNat : Int) ∧ (a.toNat : Int) < 240 ∧ ∀ b, good2 a b ↔ cont b ∧ ((a.toNat : Int) = 224 → 160 ≤ (b.toNat : Int)) ∧ ((a.toNat : Int) = 237 → (b.toNat : Int) ≤ 159))
 ∨ (want a = 4 ∧ 240 ≤ (a.toNat : Int) ∧ (a.toNat : Int) ≤ 244 ∧ ∀ b, good2 a b ↔ cont b ∧ ((a.toNat : Int) = 240 → 144 ≤ (b.toNat : Int)) ∧ ((a.toNat : Int) = 244 → (b.toNat : Int) ≤ 143)) := by
 unfold want good2 cont
 generalize (a.toNat : Int) = x at *
 by_cases h1 : x < 128
 · rw [lead1 x h1]; exact Or.inr (Or.inl ⟨rfl, h1⟩)
 by_cases h2 : x < 194
 · rw [lead0 x (by omega) h2]; exact Or.inl ⟨rfl, Or.inl ⟨by omega, h2⟩⟩
 by_cases h3 : x < 224
 · rw [lead2 x (by omega) h3]; exact Or.inr (Or.inr (Or.inl ⟨rfl, by omega, h3, fun b => Iff.rfl⟩))
 by_cases h4 : x < 240
 · rw [lead3 x (by omega) h4]
   refine Or.inr (Or.inr (Or.inr (Or.inl ⟨rfl, by omega, h4, fun b => ?_⟩)))
   simp only; generalize (b.toNat : Int) = y
   split <;> split <;> omega
 by_cases h5 : x ≤ 244
 · rw [lead4 x (by omega) h5]
   refine Or.inr (Or.inr (Or.inr (Or.inr ⟨rfl, by omega, h5, fun b => ?_⟩)))
   simp only; generalize (b.toNat : Int) = y
   split <;> split <;> omega
 · rw [lead0' x (by omega)]; exact Or.inl ⟨rfl, Or.inr (by omega)⟩
end Bf
/- Plain facts: what is encoded is decoded, and what is well-formed is what its scalar is encoded as; the reference's Decode. No program in sight. -/
namespace Bf
theorem want1 (a : UInt8) (h : (a.toNat : Int) < 128) : want a = 1 := by rcases want_cases a with ⟨h1, h2⟩ | ⟨h1, h2⟩ | ⟨h1, h2, h3, _⟩ | ⟨h1, h2, h3, _⟩ | ⟨h1, h2, h3, _⟩ <;> omega
theorem want2 (a : UInt8) (h : 194 ≤ (a.toNat : Int)) (h' : (a.toNat : Int) < 224) : want a = 2 ∧ ∀ b, good2 a b ↔ cont b := by
 rcases want_cases a with ⟨h1, h2⟩ | ⟨h1, h2⟩ | ⟨h1, h2, h3, h4⟩ | ⟨h1, h2, h3, _⟩ | ⟨h1, h2, h3, _⟩
 · omega
 · omega
 · exact ⟨h1, h4⟩
 · omega
 · omega
theorem want3 (a : UInt8) (h : 224 ≤ (a.toNat : Int)) (h' : (a.toNat : Int) < 240) : want a = 3 ∧ ∀ b, good2 a b ↔ cont b ∧ ((a.toNat : Int) = 224 → 160 ≤ (b.toNat : Int)) ∧ ((a.toNat : Int) = 237 → (b.toNat : Int) ≤ 159) := by
 rcases want_cases a with ⟨h1, h2⟩ | ⟨h1, h2⟩ | ⟨h1, h2, h3, h4⟩ | ⟨h1, h2, h3, h4⟩ | ⟨h1, h2, h3, _⟩
 · omega
 · omega
 · omega
 · exact ⟨h1, h4⟩
 · omega
theorem want4 (a : UInt8) (h : 240 ≤ (a.toNat : Int)) (h' : (a.toNat : Int) ≤ 244) : want a = 4 ∧ ∀ b, good2 a b ↔ cont b ∧ ((a.toNat : Int) = 240 → 144 ≤ (b.toNat : Int)) ∧ ((a.toNat : Int) = 244 → (b.toNat : Int) ≤ 143) := by
 rcases want_cases a with ⟨h1, h2⟩ | ⟨h1, h2⟩ | ⟨h1, h2, h3, h4⟩ | ⟨h1, h2, h3, h4⟩ | ⟨h1, h2, h3, h4⟩
 · omega
 · omega
 · omega
 · omega
 · exact ⟨h1, h4⟩
theorem dec_enc (n : Int) (t : List UInt8) (h : scalarB n = true) : decS (encL n ++ t) = (n, (encL n).length, true) := by
 obtain ⟨b0, b1, b2⟩ := scalarB_true h
 by_cases c1 : n < 128
 · rw [encL_1 n h c1]
   have e := u8_toNat n b0 (by omega)
   rw [List.cons_append, decS_1 _ _ (want1 _ (by omega)), e]; rfl
 by_cases c2 : n < 2048
 · rw [encL_2 n h c1 c2]
   have e := u8_toNat (192 + n / 64) (by omega) (by omega)
   have e2 := u8_toNat (128 + n % 64) (by omega) (by omega)
   obtain ⟨w, g⟩ := want2 (u8 (192 + n / 64)) (by omega) (by omega)
   rw [List.cons_append, List.cons_append, decS_2 _ _ _ w ((g _).2 ⟨by omega, by omega⟩)]
   simp only [valL, e, e2]
   refine Prod.ext ?_ rfl
   simp only; omega
 by_cases c3 : n < 65536
 · rw [encL_3 n h c1 c2 c3]
   have e := u8_toNat (224 + n / 4096) (by omega) (by omega)
   have e2 := u8_toNat (128 + n / 64 % 64) (by omega) (by omega)
   have e3 := u8_toNat (128 + n % 64) (by omega) (by omega)
   obtain ⟨w, g⟩ := want3 (u8 (224 + n / 4096)) (by omega) (by omega)
   rw [List.cons_append, List.cons_append, List.cons_append, decS_3 _ _ _ _ w ((g _).2 ⟨⟨by omega, by omega⟩, by omega, by omega⟩) ⟨by omega, by omega⟩]
   simp only [valL, e, e2, e3]
   refine Prod.ext ?_ rfl
   simp only; omega
 · rw [encL_4 n h c1 c2 c3]
   have e := u8_toNat (240 + n / 262144) (by omega) (by omega)
   have e2 := u8_toNat (128 + n / 4096 % 64) (by omega) (by omega)
   have e3 := u8_toNat (128 + n / 64 % 64) (by omega) (by omega)
   have e4 := u8_toNat (128 + n % 64) (by omega) (by omega)
   obtain ⟨w, g⟩ := want4 (u8 (240 + n / 262144)) (by omega) (by omega)
   rw [List.cons_append, List.cons_append, List.cons_append, List.cons_append, decS_4 _ _ _ _ _ w ((g _).2 ⟨⟨by omega, by omega⟩, by omega, by omega⟩) ⟨by omega, by omega⟩ ⟨by omega, by omega⟩]
   simp only [valL, e, e2, e3, e4]
   refine Prod.ext ?_ rfl
   simp only; omega
theorem scalarB_mk {n : Int} (h0 : 0 ≤ n) (h1 : n ≤ 1114111) (h2 : n < 55296 ∨ 57343 < n) : scalarB n = true := by
 unfold scalarB; simp; omega
theorem enc_1 (a : UInt8) (h : want a = 1) : scalarB a.toNat = true ∧ encL a.toNat = [a] := by
 have hb := a.toNat_lt
 rcases want_cases a with ⟨h1, h2⟩ | ⟨h1, h2⟩ | ⟨h1, h2, h3, _⟩ | ⟨h1, h2, h3, _⟩ | ⟨h1, h2, h3, _⟩ <;> try omega
 have hs : scalarB a.toNat = true := scalarB_mk (by omega) (by omega) (by omega)
 exact ⟨hs, by rw [encL_1 _ hs (by omega), u8_eq _ a (by omega) (by omega) rfl]⟩
theorem enc_2 (a b : UInt8) (h : want a = 2) (hg : good2 a b) : scalarB (valL [a, b]) = true ∧ encL (valL [a, b]) = [a, b] := by
 have hb := a.toNat_lt
 rcases want_cases a with ⟨h1, h2⟩ | ⟨h1, h2⟩ | ⟨h1, h2, h3, h4⟩ | ⟨h1, h2, h3, _⟩ | ⟨h1, h2, h3, _⟩ <;> try omega
 obtain ⟨g1, g2⟩ := (h4 b).1 hg
 have e : valL [a, b] = (a.toNat : Int) % 32 * 64 + (b.toNat : Int) % 64 := rfl
 have hs : scalarB (valL [a, b]) = true := scalarB_mk (by omega) (by omega) (by omega)
 exact ⟨hs, by rw [encL_2 _ hs (by omega) (by omega), u8_eq _ a (by omega) (by omega) (by omega), u8_eq _ b (by omega) (by omega) (by omega)]⟩
theorem enc_3 (a b c : UInt8) (h : want a = 3) (hg : good2 a b) (hc : cont c) : scalarB (valL [a, b, c]) = true ∧ encL (valL [a, b, c]) = [a, b, c] := by
 have hb := a.toNat_lt
 rcases want_cases a with ⟨h1, h2⟩ | ⟨h1, h2⟩ | ⟨h1, h2, h3, h4⟩ | ⟨h1, h2, h3, h4⟩ | ⟨h1, h2, h3, _⟩ <;> try omega
 obtain ⟨⟨g1, g2⟩, g3, g4⟩ := (h4 b).1 hg
 obtain ⟨k1, k2⟩ := hc
 have e : valL [a, b, c] = ((a.toNat : Int) % 16 * 64 + (b.toNat : Int) % 64) * 64 + (c.toNat : Int) % 64 := rfl
 have hs : scalarB (valL [a, b, c]) = true := scalarB_mk (by omega) (by omega) (by omega)
 exact ⟨hs, by rw [encL_3 _ hs (by omega) (by omega) (by omega), u8_eq _ a (by omega) (by omega) (by omega), u8_eq _ b (by omega) (by omega) (by omega), u8_eq _ c (by omega) (by omega) (by omega)]⟩
theorem enc_4 (a b c d : UInt8) (h : want a = 4) (hg : good2 a b) (hc : cont c) (hd : cont d) : scalarB (valL [a, b, c, d]) = true ∧ encL (valL [a, b, c, d]) = [a, b, c, d] := by
 have hb := a.toNat_lt
 rcases want_cases a with ⟨h1, h2⟩ | ⟨h1, h2⟩ | ⟨h1, h2, h3, h4⟩ | ⟨h1, h2, h3, h4⟩ | ⟨h1, h2, h3, h4⟩ <;> try omega
 obtain ⟨⟨g1, g2⟩, g3, g4⟩ := (h4 b).1 hg
 obtain ⟨k1, k2⟩ := hc
 obtain ⟨k3, k4⟩ := hd
 have e : valL [a, b, c, d] = (((a.toNat : Int) % 8 * 64 + (b.toNat : Int) % 64) * 64 + (c.toNat : Int) % 64) * 64 + (d.toNat : Int) % 64 := rfl
 have hs : scalarB (valL [a, b, c, d]) = true := scalarB_mk (by omega) (by omega) (by omega)
 exact ⟨hs, by rw [encL_4 _ hs (by omega) (by omega) (by omega), u8_eq _ a (by omega) (by omega) (by omega), u8_eq _ b (by omega) (by omega) (by omega), u8_eq _ c (by omega) (by omega) (by omega), u8_eq _ d (by omega) (by omega) (by omega)]⟩
/-! ### the reference -/
def reckL : List UInt8 → Int
 | [a] => a.toNat
 | [a, b] => ((a.toNat : Int) - 192) * 64 + ((b.toNat : Int) - 128)
 | [a, b, c] => ((a.toNat : Int) - 224) * 4096 + ((b.toNat : Int) - 128) * 64 + ((c.toNat : Int) - 128)
 | [a, b, c, d] => ((a.toNat : Int) - 240) * 262144 + ((b.toNat : Int) - 128) * 4096 + ((c.toNat : Int) - 128) * 64 + ((d.toNat : Int) - 128)
 | _ => 0
def isB (p : List UInt8) : Bool := scalarB (reckL p) && encL (reckL p) == p
theorem isB_dec (p : List UInt8) (t : List UInt8) (h : isB p = true) : decS (p ++ t) = (reckL p, p.length, true) := by
 unfold isB at h; simp at h
 have := dec_enc (reckL p) t h.1
 rw [h.2] at this; exact this
theorem isB_1 (a : UInt8) : isB [a] = decide (want a = 1) := by
 by_cases h : want a = 1
 · obtain ⟨h1, h2⟩ := enc_1 a h
   unfold isB; simp only [reckL, h1, h2]; simp [h]
 · cases hb : isB [a]
   · simp [h]
   · have := isB_dec [a] [] hb
     exfalso
     rcases want_cases a with ⟨h1, _⟩ | ⟨h1, _⟩ | ⟨h1, _⟩ | ⟨h1, _⟩ | ⟨h1, _⟩
     · rw [List.append_nil, decS_0 a [] h1] at this; simp at this
     · exact h h1
     all_goals (rw [List.append_nil, decS_k1 a (by omega)] at this; simp at this)
theorem reck_2 (a b : UInt8) (h : want a = 2) (hg : good2 a b) : reckL [a, b] = valL [a, b] := by
 rcases want_cases a with ⟨h1, h2⟩ | ⟨h1, h2⟩ | ⟨h1, h2, h3, h4⟩ | ⟨h1, h2, h3, _⟩ | ⟨h1, h2, h3, _⟩ <;> try omega
 obtain ⟨g1, g2⟩ := (h4 b).1 hg
 simp only [reckL, valL]; omega
theorem reck_3 (a b c : UInt8) (h : want a = 3) (hg : good2 a b) (hc : cont c) : reckL [a, b, c] = valL [a, b, c] := by
 rcases want_cases a with ⟨h1, h2⟩ | ⟨h1, h2⟩ | ⟨h1, h2, h3, h4⟩ | ⟨h1, h2, h3, h4⟩ | ⟨h1, h2, h3, _⟩ <;> try omega
 obtain ⟨⟨g1, g2⟩, _⟩ := (h4 b).1 hg
 obtain ⟨k1, k2⟩ := hc
 simp only [reckL, valL]; omega
theorem reck_4 (a b c d : UInt8) (h : want a = 4) (hg : good2 a b) (hc : cont c) (hd : cont d) : reckL [a, b, c, d] = valL [a, b, c, d] := by
 rcases want_cases a with ⟨h1, h2⟩ | ⟨h1, h2⟩ | ⟨h1, h2, h3, h4⟩ | ⟨h1, h2, h3, h4⟩ | ⟨h1, h2, h3, h4⟩ <;> try omega
 obtain ⟨⟨g1, g2⟩, _⟩ := (h4 b).1 hg
 obtain ⟨k1, k2⟩ := hc
 obtain ⟨k3, k4⟩ := hd
 simp only [reckL, valL]; omega
theorem isB_2 (a b : UInt8) : isB [a, b] = decide (want a = 2 ∧ good2 a b) := by
 by_cases h : want a = 2 ∧ good2 a b
 · obtain ⟨h1, h2⟩ := enc_2 a b h.1 h.2
   unfold isB; rw [reck_2 a b h.1 h.2, h1, h2]; simp [h]
 · cases hb : isB [a, b]
   · simp [h]
   · have e := isB_dec [a, b] [] hb
     exfalso
     rw [List.append_nil] at e
     by_cases hg : good2 a b
     · rcases want_cases a with ⟨h1, _⟩ | ⟨h1, _⟩ | ⟨h1, _⟩ | ⟨h1, _⟩ | ⟨h1, _⟩
       · rw [decS_0 a _ h1] at e; simp at e
       · rw [decS_1 a _ h1] at e; simp at e
       · exact h ⟨h1, hg⟩
       all_goals (rw [decS_k2 a b (by omega) hg] at e; simp at e)
     · rcases want_cases a with ⟨h1, _⟩ | ⟨h1, _⟩ | ⟨h1, _⟩ | ⟨h1, _⟩ | ⟨h1, _⟩
       · rw [decS_0 a _ h1] at e; simp at e
       · rw [decS_1 a _ h1] at e; simp at e
       all_goals (rw [decS_bad2 a b _ (by omega) hg] at e; simp at e)
theorem isB_3 (a b c : UInt8) : isB [a, b, c] = decide (want a = 3 ∧ good2 a b ∧ cont c) := by
 by_cases h : want a = 3 ∧ good2 a b ∧ cont c
 · obtain ⟨h1, h2⟩ := enc_3 a b c h.1 h.2.1 h.2.2
   unfold isB; rw [reck_3 a b c h.1 h.2.1 h.2.2, h1, h2]; simp [h]
 · cases hb : isB [a, b, c]
   · simp [h]
   · have e := isB_dec [a, b, c] [] hb
     exfalso
     rw [List.append_nil] at e
     by_cases hg : good2 a b
     · by_cases hc : cont c
       · rcases want_cases a with ⟨h1, _⟩ | ⟨h1, _⟩ | ⟨h1, _⟩ | ⟨h1, _⟩ | ⟨h1, _⟩
         · rw [decS_0 a _ h1] at e; simp at e
         · rw [decS_1 a _ h1] at e; simp at e
         · rw [decS_2 a b _ h1 hg] at e; simp at e
         · exact h ⟨h1, hg, hc⟩
         · rw [decS_k3 a b c h1 hg hc] at e; simp at e
       · rcases want_cases a with ⟨h1, _⟩ | ⟨h1, _⟩ | ⟨h1, _⟩ | ⟨h1, _⟩ | ⟨h1, _⟩
         · rw [decS_0 a _ h1] at e; simp at e
         · rw [decS_1 a _ h1] at e; simp at e
         · rw [decS_2 a b _ h1 hg] at e; simp at e
         all_goals (rw [decS_bad3 a b c _ (by omega) hg hc] at e; simp at e)
     · rcases want_cases a with ⟨h1, _⟩ | ⟨h1, _⟩ | ⟨h1, _⟩ | ⟨h1, _⟩ | ⟨h1, _⟩
       · rw [decS_0 a _ h1] at e; simp at e
       · rw [decS_1 a _ h1] at e; simp at e
       all_goals (rw [decS_bad2 a b _ (by omega) hg] at e; simp at e)
theorem isB_4 (a b c d : UInt8) : isB [a, b, c, d] = decide (want a = 4 ∧ good2 a b ∧ cont c ∧ cont d) := by
 by_cases h : want a = 4 ∧ good2 a b ∧ cont c ∧ cont d
 · obtain ⟨h1, h2⟩ := enc_4 a b c d h.1 h.2.1 h.2.2.1 h.2.2.2
   unfold isB; rw [reck_4 a b c d h.1 h.2.1 h.2.2.1 h.2.2.2, h1, h2]; simp [h]
 · cases hb : isB [a, b, c, d]
   · simp [h]
   · have e := isB_dec [a, b, c, d] [] hb
     exfalso
     rw [List.append_nil] at e
     by_cases hg : good2 a b
     · by_cases hc : cont c
       · rcases want_cases a with ⟨h1, _⟩ | ⟨h1, _⟩ | ⟨h1, _⟩ | ⟨h1, _⟩ | ⟨h1, _⟩
         · rw [decS_0 a _ h1] at e; simp at e
         · rw [decS_1 a _ h1] at e; simp at e
         · rw [decS_2 a b _ h1 hg] at e; simp at e
         · rw [decS_3 a b c _ h1 hg hc] at e; simp at e
         · by_cases hd : cont d
           · exact h ⟨h1, hg, hc, hd⟩
           · rw [decS_bad4 a b c d _ h1 hg hc hd] at e; simp at e
       · rcases want_cases a with ⟨h1, _⟩ | ⟨h1, _⟩ | ⟨h1, _⟩ | ⟨h1, _⟩ | ⟨h1, _⟩
         · rw [decS_0 a _ h1] at e; simp at e
         · rw [decS_1 a _ h1] at e; simp at e
         · rw [decS_2 a b _ h1 hg] at e; simp at e
         all_goals (rw [decS_bad3 a b c _ (by omega) hg hc] at e; simp at e)
     · rcases want_cases a with ⟨h1, _⟩ | ⟨h1, _⟩ | ⟨h1, _⟩ | ⟨h1, _⟩ | ⟨h1, _⟩
       · rw [decS_0 a _ h1] at e; simp at e
       · rw [decS_1 a _ h1] at e; simp at e
       all_goals (rw [decS_bad2 a b _ (by omega) hg] at e; simp at e)
end Bf
/- Plain facts: scalars written one behind the other. No program in sight. -/
namespace Bf
end Bf
/- Plain facts: tables of runes. No program in sight. -/
namespace Bf
def zeroT : List (Int × Int) := [(768, 879), (1155, 1161), (1425, 1469), (1471, 1471), (1473, 1474), (1476, 1477), (1479, 1479), (1552, 1562), (1611, 1631), (1648, 1648), (1750, 1756), (1759, 1764), (1767, 1768), (1770, 1773), (1809, 1809), (1840, 1866), (1958, 1968), (2027, 2035), (2070, 2073), (2075, 2083), (2085, 2087), (2089, 2093), (2137, 2139), (2259, 2273), (2275, 2306), (2362, 2362), (2364, 2364), (2369, 2376), (2381, 2381), (2385, 2391), (2402, 2403), (2433, 2433), (2492, 2492), (2497, 2500), (2509, 2509), (2561, 2562), (2620, 2620), (2625, 2626), (2631, 2632), (2635, 2637), (3633, 3633), (3636, 3642), (3655, 3662), (3761, 3761), (3764, 3772), (3784, 3789), (4448, 4607), (4957, 4959), (5906, 5908), (6068, 6069), (6071, 6077), (6155, 6157), (6832, 6846), (7616, 7673), (7675, 7679), (8203, 8207), (8232, 8238), (8288, 8303), (8400, 8432), (12330, 12333), (12441, 12442), (42607, 42610), (42612, 42621), (42654, 42655), (42736, 42737), (43232, 43249), (64286, 64286), (65024, 65039), (65056, 65071), (65279, 65279), (65529, 65531), (66045, 66045), (68097, 68099), (68101, 68102), (68108, 68111), (119143, 119145), (119155, 119170), (119173, 119179), (119210, 119213), (917505, 917505), (917536, 917631), (917760, 917999)]
def wideT : List (Int × Int) := [(4352, 4447), (8986, 8987), (9001, 9002), (9193, 9196), (9200, 9200), (9203, 9203), (9725, 9726), (9748, 9749), (9800, 9811), (9855, 9855), (9875, 9875), (9889, 9889), (9898, 9899), (9917, 9918), (9924, 9925), (9934, 9934), (9940, 9940), (9962, 9962), (9970, 9971), (9973, 9973), (9978, 9978), (9981, 9981), (9989, 9989), (9994, 9995), (10024, 10024), (10060, 10060), (10062, 10062), (10067, 10069), (10071, 10071), (10133, 10135), (10160, 10160), (10175, 10175), (11035, 11036), (11088, 11088), (11093, 11093), (11904, 11929), (11931, 12019), (12032, 12245), (12272, 12283), (12288, 12329), (12334, 12350), (12353, 12438), (12443, 12543), (12549, 12591), (12593, 12686), (12688, 12730), (12736, 12771), (12784, 12830), (12832, 12871), (12880, 19903), (19968, 42124), (42128, 42182), (43360, 43388), (44032, 55203), (63744, 64255), (65040, 65049), (65072, 65106), (65108, 65126), (65128, 65131), (65281, 65376), (65504, 65510), (94176, 94179), (94208, 100343), (100352, 101106), (110592, 110878), (110928, 110930), (110948, 110951), (110960, 111355), (126980, 126980), (127183, 127183), (127374, 127374), (127377, 127386), (127488, 127490), (127504, 127547), (127552, 127560), (127568, 127569), (127584, 127589), (127744, 127776), (127789, 127797), (127799, 127868), (127870, 127891), (127904, 127946), (127951, 127955), (127968, 127984), (127988, 127988), (127992, 128062), (128064, 128064), (128066, 128252), (128255, 128317), (128331, 128334), (128336, 128359), (128378, 128378), (128405, 128406), (128420, 128420), (128507, 128591), (128640, 128709), (128716, 128716), (128720, 128722), (128725, 128727), (128747, 128748), (128756, 128764), (128992, 129003), (129292, 129338), (129340, 129349), (129351, 129400), (129402, 129483), (129485, 129535), (129648, 129652), (129656, 129658), (129664, 129670), (129680, 129704), (129712, 129718), (129728, 129730), (129744, 129750), (131072, 196605), (196608, 262141)]
def controlT : List (Int × Int) := [(0, 31), (127, 159)]
def bidiT : List (Int × Int) := [(1564, 1564), (8206, 8207), (8234, 8238), (8294, 8297)]
def formatT : List (Int × Int) := [(173, 173), (1536, 1541), (1757, 1757), (1807, 1807), (2274, 2274), (6158, 6158), (8203, 8205), (8288, 8292), (8298, 8303), (65279, 65279), (65529, 65531), (69821, 69821), (69837, 69837), (113824, 113827), (119155, 119162), (917505, 917505), (917536, 917631)]
def separatorT : List (Int × Int) := [(8232, 8233)]
def hasT (l : List (Int × Int)) (r : Int) : Bool := l.any fun p => decide (p.1 ≤ r) && decide (r ≤ p.2)
def orderT : List (Int × Int) → Bool
 | [] => true
 | [p] => decide (p.1 ≤ p.2)
 | p :: q :: l => decide (p.1 ≤ p.2) && decide (p.2 < q.1) && orderT (q :: l)
theorem orderT_head {p : Int × Int} {l : List (Int × Int)} (h : orderT (p :: l) = true) : p.1 ≤ p.2 ∧ orderT l = true ∧ ∀ q ∈ l, p.2 < q.1 := by
 induction l generalizing p with
 | nil => simp [orderT] at h; exact ⟨h, rfl, by simp⟩
 | cons q l ih =>
  simp [orderT] at h
  obtain ⟨⟨h1, h2⟩, h3⟩ := h
  obtain ⟨i1, i2, i3⟩ := ih h3
  refine ⟨h1, h3, ?_⟩
  intro x hx
  rcases List.mem_cons.1 hx with rfl | hx
  · exact h2
  · have := i3 x hx; omega
theorem orderT_get {l : List (Int × Int)} (h : orderT l = true) : (∀ i (hi : i < l.length), l[i].1 ≤ l[i].2) ∧ ∀ i j (hi : i < l.length) (hj : j < l.length), i < j → l[i].2 < l[j].1 := by
 induction l with
 | nil => exact ⟨fun i hi => by simp at hi, fun i j hi => by simp at hi⟩
 | cons p l ih =>
  obtain ⟨h1, h2, h3⟩ := orderT_head h
  obtain ⟨i1, i2⟩ := ih h2
  refine ⟨?_, ?_⟩
  · intro i hi
    cases i with
    | zero => exact h1
    | succ i => simpa using i1 i (by simpa using hi)
  · intro i j hi hj hij
    cases j with
    | zero => omega
    | succ j =>
     cases i with
     | zero => simpa using h3 _ (List.getElem_mem (by simpa using hj))
     | succ i => simpa using i2 i j (by simpa using hi) (by simpa using hj) (by omega)
def OutT (l : List (Int × Int)) (r : Int) (lo hi : Nat) : Prop := ∀ i (h : i < l.length), i < lo ∨ hi ≤ i → ¬ (l[i].1 ≤ r ∧ r ≤ l[i].2)
theorem outT_left {l : List (Int × Int)} {r : Int} {lo hi mid : Nat} (ho : orderT l = true) (h : OutT l r lo hi) (hm : mid < l.length) (hr : r < l[mid].1) : OutT l r lo mid := by
 obtain ⟨o1, o2⟩ := orderT_get ho
 intro i hi hor
 rcases hor with a | a
 · exact h i hi (Or.inl a)
 · rcases Nat.lt_or_eq_of_le a with b | b
   · have := o2 mid i hm hi b; have := o1 mid hm; intro hc; omega
   · subst b; intro hc; omega
theorem outT_right {l : List (Int × Int)} {r : Int} {lo hi mid : Nat} (ho : orderT l = true) (h : OutT l r lo hi) (hm : mid < l.length) (hr : l[mid].2 < r) : OutT l r (mid + 1) hi := by
 obtain ⟨o1, o2⟩ := orderT_get ho
 intro i hi hor
 rcases hor with a | a
 · rcases Nat.lt_or_eq_of_le (Nat.le_of_lt_succ a) with b | b
   · have := o2 i mid hi hm b; have := o1 mid hm; intro hc; omega
   · subst b; intro hc; omega
 · exact h i hi (Or.inr a)
theorem hasT_yes {l : List (Int × Int)} {r : Int} {i : Nat} (h : i < l.length) (h1 : l[i].1 ≤ r) (h2 : r ≤ l[i].2) : hasT l r = true := by
 unfold hasT; rw [List.any_eq_true]; exact ⟨l[i], List.getElem_mem h, by simp [h1, h2]⟩
theorem hasT_no {l : List (Int × Int)} {r : Int} {lo hi : Nat} (h : OutT l r lo hi) (hle : hi ≤ lo) : hasT l r = false := by
 unfold hasT; rw [List.any_eq_false]
 intro p hp
 obtain ⟨i, hi, rfl⟩ := List.getElem_of_mem hp
 have := h i hi (by omega)
 simp; omega
theorem outT_start (l : List (Int × Int)) (r : Int) : OutT l r 0 l.length := fun i h hor => by omega
theorem zero_order : orderT zeroT = true := by decide +kernel
theorem wide_order : orderT wideT = true := by decide +kernel
end Bf
/- Plain: how texts are written in quotes. -/
namespace Bf
def kindT (r : Int) : Int := if hasT controlT r then 1 else if hasT bidiT r then 2 else if hasT formatT r then 3 else if hasT separatorT r then 4 else 0
def unsafeB (r : Int) : Bool := !decide (kindT r = 0)
theorem valL_bd2 (l : List UInt8) : 0 ≤ valL l ∧ valL l ≤ 2097151 := by
 have ub : ∀ c : UInt8, (c.toNat : Int) < 256 := fun c => by have := c.toNat_lt; omega
 match l with
 | [] => exact ⟨Int.le_refl 0, by simp only [valL]; omega⟩
 | [a] => have := ub a; simp only [valL]; omega
 | [a, b] => simp only [valL]; omega
 | [a, b, c] => simp only [valL]; omega
 | [a, b, c, d] => simp only [valL]; omega
 | _ :: _ :: _ :: _ :: _ :: _ => simp only [valL]; omega
theorem decS_val2 (l : List UInt8) : 0 ≤ (decS l).1 ∧ (decS l).1 ≤ 2097151 := by
 cases l with
 | nil => exact ⟨Int.le_refl 0, by simp only [decS]; omega⟩
 | cons c l =>
  have hv : ∀ k, 0 ≤ valL k ∧ valL k ≤ 2097151 := valL_bd2
  unfold decS; simp only
  generalize valL = V at hv ⊢
  split
  · exact ⟨by omega, by omega⟩
  · split
    · exact hv _
    · exact ⟨by omega, by omega⟩
theorem trip {α β γ : Type} (d : α × β × γ) : ∃ r n ok, d = (r, n, ok) := ⟨d.1, d.2.1, d.2.2, rfl⟩
end Bf
/- Plain: names, and paths as text. No program in sight. -/
namespace Bf
def letB (c : UInt8) : Bool := decide (97 ≤ c.toNat) && decide (c.toNat ≤ 122)
def sigB (c : UInt8) : Bool := letB c || (decide (48 ≤ c.toNat) && decide (c.toNat ≤ 57)) || decide (c.toNat = 95)
def sigL : List UInt8 → Nat
 | [] => 0
 | c :: l => if sigB c then sigL l + 1 else 0
theorem sigL_cons (c : UInt8) (l : List UInt8) : sigL (c :: l) = if sigB c then sigL l + 1 else 0 := rfl
def namN : List UInt8 → Nat
 | [] => 0
 | c :: l => if letB c then sigL l + 1 else 0
theorem namN_cons (c : UInt8) (l : List UInt8) : namN (c :: l) = if letB c then sigL l + 1 else 0 := rfl
def namB (l : List UInt8) : Bool := decide (l ≠ []) && decide (namN l = l.length) && decide (l.length ≤ 32)
theorem let_sig {c : UInt8} (h : letB c = true) : sigB c = true := by unfold sigB; rw [h]; rfl
theorem namN_sig (l : List UInt8) : namN l ≤ sigL l := by
 cases l with
 | nil => exact Nat.le_refl 0
 | cons c l =>
  rw [namN_cons, sigL_cons]
  split
  · rename_i h; rw [if_pos (let_sig h)]; exact Nat.le_refl _
  · exact Nat.zero_le _
theorem sigL_le (l : List UInt8) : sigL l ≤ l.length := by
 induction l with
 | nil => exact Nat.le_refl 0
 | cons c l ih => rw [sigL_cons]; split <;> simp only [List.length_cons] <;> omega
theorem namN_le (l : List UInt8) : namN l ≤ l.length := Nat.le_trans (namN_sig l) (sigL_le l)
/-! numbers, wherever they stand -/
end Bf
/- Plain: paths as text. No program in sight. -/
namespace Bf
abbrev StepT := Int × Int × List UInt8
def stepB (x : StepT) : Bool :=
 if x.1 = 1 ∨ x.1 = 5 then decide (x.2.1 = 0) && namB x.2.2 else if x.1 = 2 then decide (0 ≤ x.2.1) && decide (x.2.2 = []) else if x.1 = 3 ∨ x.1 = 4 then decide (x.2.1 = 0) && decide (x.2.2 = []) else false
def stepX (x : StepT) : List UInt8 := if x.1 = 1 then 46 :: x.2.2 else if x.1 = 2 then 91 :: (putL x.2.1 ++ [93]) else if x.1 = 3 then [91, 93] else if x.1 = 4 then [63] else 33 :: x.2.2
def zst : StepT := (0, 0, [])
abbrev RdT := StepT × Int × Int × Int
def namedL (k : Int) (r : List UInt8) : RdT := if namB (r.take (namN r)) then ((k, 0, r.take (namN r)), 1 + namN r, 0, 0) else (zst, 0, 9, 1)
def itemL (r : List UInt8) : RdT :=
 if r[0]? = some 93 then ((3, 0, []), 2, 0, 0)
 else if (takeS r 0).2.2.1 ≠ 0 then (zst, 0, (takeS r 0).2.2.1, 1 + (takeS r 0).2.2.2)
 else if (takeS r 0).1 < 0 then (zst, 0, 20, 1)
 else if r[(takeS r 0).2.1.toNat]? = some 93 then ((2, (takeS r 0).1, []), 2 + (takeS r 0).2.1, 0, 0) else (zst, 0, 4, 1 + (takeS r 0).2.1)
def stepL : List UInt8 → RdT
 | [] => (zst, 0, 4, 0)
 | c :: r => if c = 46 then namedL 1 r else if c = 33 then namedL 5 r else if c = 91 then itemL r else if c = 63 then ((4, 0, []), 1, 0, 0) else (zst, 0, 4, 0)
theorem stepL_cons (c : UInt8) (r : List UInt8) : stepL (c :: r) = if c = 46 then namedL 1 r else if c = 33 then namedL 5 r else if c = 91 then itemL r else if c = 63 then ((4, 0, []), 1, 0, 0) else (zst, 0, 4, 0) := rfl
theorem runL_take (l : List UInt8) : runL (l.take (runL l)) = runL l := by
 induction l with
 | nil => rfl
 | cons c l ih =>
  by_cases h : isDig c = true
  · have e : runL (c :: l) = runL l + 1 := by simp [runL, h]
    rw [e, List.take_succ_cons]; simp [runL, h, ih]
  · have e : runL (c :: l) = 0 := by simp [runL, h]
    rw [e]; rfl
theorem takeS_good (l : List UInt8) (v e p : Int) (h : takeS l 0 = (v, e, 0, p)) : 1 ≤ e ∧ e ≤ l.length ∧ p = 0 ∧ takeS (l.take e.toNat) 0 = (v, e, 0, 0) := by
 have h0 : takeS l 0 = takeAt l 0 := takeS_in l 0 (Nat.zero_le _)
 rw [h0] at h
 obtain ⟨m, hm⟩ : ∃ m, (l[0]? == some 45) = m := ⟨_, rfl⟩
 obtain ⟨fr, hfr⟩ : ∃ fr, fr = if m then 0 + 1 else 0 := ⟨_, rfl⟩
 obtain ⟨many, hmany⟩ : ∃ many, runL (l.drop fr) = many := ⟨_, rfl⟩
 obtain ⟨a1, a2, a3, a4⟩ := takeAt_ways l 0 m hm fr hfr many hmany
 have hrl := runL_le (l.drop fr)
 rw [hmany, List.length_drop] at hrl
 by_cases c1 : many = 0
 · by_cases c2 : fr = l.length
   · rw [a1 ⟨c1, c2⟩] at h; simp at h
   · rw [a2 ⟨c1, c2⟩] at h; simp at h
 · by_cases c3 : l[fr]? = some 48 ∧ (1 < many ∨ m = true)
   · rw [a3 c1 c3] at h; simp at h
   · have a4' := a4 c1 c3
     rw [a4'] at h
     cases hv : valB (numVal ((l.drop fr).take many) 0) m with
     | false => rw [hv] at h; simp at h
     | true =>
      rw [hv] at h
      simp only [if_true, Prod.mk.injEq] at h
      obtain ⟨h1, h2, _, h4⟩ := h
      have he : e.toNat = fr + many := by omega
      have hle : fr + many ≤ l.length := by omega
      refine ⟨by omega, by omega, h4.symm, ?_⟩
      rw [he, show takeS (l.take (fr + many)) 0 = takeAt (l.take (fr + many)) 0 from takeS_in _ 0 (Nat.zero_le _)]
      have e0 : (l.take (fr + many))[0]? = l[0]? := List.getElem?_take_of_lt (by omega)
      have ef : (l.take (fr + many))[fr]? = l[fr]? := List.getElem?_take_of_lt (by omega)
      have ed : (l.take (fr + many)).drop fr = (l.drop fr).take many := by rw [List.drop_take]; congr 1; omega
      have hmm : runL ((l.take (fr + many)).drop fr) = many := by rw [ed, ← hmany]; exact runL_take _
      obtain ⟨_, _, _, b4⟩ := takeAt_ways (l.take (fr + many)) 0 m (by rw [e0]; exact hm) fr hfr many hmm
      rw [b4 c1 (by rw [ef]; exact c3), ed, List.take_take, Nat.min_self, hv]
      simp only [if_true]; rw [h1, h2]
theorem takeS_put (l : List UInt8) (v e p : Int) (h : takeS l 0 = (v, e, 0, p)) : putL v = l.take e.toNat := by
 obtain ⟨h1, h2, h3, h4⟩ := takeS_good l v e p h
 refine putL_parseS _ _ ?_
 unfold parseS
 rw [h4]
 simp; omega
theorem stepL_good (l : List UInt8) (x : StepT) (n p : Int) (h : stepL l = (x, n, 0, p)) : 1 ≤ n ∧ n ≤ l.length ∧ stepB x = true ∧ stepX x = l.take n.toNat := by
 cases l with
 | nil => simp [stepL] at h
 | cons c r =>
  have named : ∀ k : Int, (k = 1 ∨ k = 5) → namedL k r = (x, n, 0, p) → 1 ≤ n ∧ n ≤ r.length + 1 ∧ stepB x = true ∧ x = (k, 0, r.take (namN r)) ∧ n = 1 + namN r := by
   intro k hk hx
   unfold namedL at hx
   split at hx
   · rename_i hb
     cases hx
     have := namN_le r
     refine ⟨by omega, by omega, ?_, rfl, rfl⟩
     unfold stepB; rw [if_pos hk]; simp [hb]
   · simp at hx
  rw [stepL_cons] at h
  simp only [List.length_cons]
  split at h
  · rename_i hc
    obtain ⟨h1, h2, h3, h4, h5⟩ := named 1 (.inl rfl) h
    subst hc; subst h4; subst h5
    refine ⟨h1, by omega, h3, ?_⟩
    rw [show ((1 : Int) + namN r).toNat = namN r + 1 by omega]; rfl
  · split at h
    · rename_i hc
      obtain ⟨h1, h2, h3, h4, h5⟩ := named 5 (.inr rfl) h
      subst hc; subst h4; subst h5
      refine ⟨h1, by omega, h3, ?_⟩
      rw [show ((1 : Int) + namN r).toNat = namN r + 1 by omega]; rfl
    · split at h
      · rename_i hc
        subst hc
        unfold itemL at h
        split at h
        · rename_i h93
          cases h
          cases r with
          | nil => simp at h93
          | cons d r =>
           simp only [List.getElem?_cons_zero, Option.some.injEq] at h93
           subst h93
           exact ⟨by omega, by simp; omega, rfl, rfl⟩
        · split at h
          · rename_i he; simp only [Prod.mk.injEq] at h; exact absurd h.2.2.1 he
          · rename_i he
            have he : (takeS r 0).2.2.1 = 0 := by simpa using he
            obtain ⟨v, e, f, q, ht⟩ : ∃ v e f q, takeS r 0 = (v, e, f, q) := ⟨_, _, _, _, rfl⟩
            rw [ht] at h he
            simp only at h he
            subst he
            obtain ⟨t1, t2, t3, _⟩ := takeS_good r v e q ht
            have t5 := takeS_put r v e q ht
            split at h
            · simp at h
            · rename_i hv
              split at h
              · rename_i h93
                cases h
                have hlt : e.toNat < r.length := (List.getElem?_eq_some_iff.1 h93).1
                refine ⟨by omega, by omega, ?_, ?_⟩
                · unfold stepB; rw [if_neg (by simp), if_pos rfl]; simp; omega
                · show 91 :: (putL v ++ [93]) = _
                  rw [show ((2 : Int) + e).toNat = (e.toNat + 1) + 1 by omega, List.take_succ_cons, t5, List.take_add_one, h93]; rfl
              · simp at h
      · split at h
        · rename_i hc
          cases h; subst hc
          exact ⟨by omega, by omega, rfl, rfl⟩
        · simp at h
def pathL (k : Nat) (l : List UInt8) : List StepT × Int × Int :=
 if h0 : l = [] then ([], 0, 0) else if k = 64 then ([], 8, 0)
 else if h : (stepL l).2.2.1 = 0 then
  if (pathL (k + 1) (l.drop (stepL l).2.1.toNat)).2.1 = 0 then ((stepL l).1 :: (pathL (k + 1) (l.drop (stepL l).2.1.toNat)).1, 0, 0)
  else ([], (pathL (k + 1) (l.drop (stepL l).2.1.toNat)).2.1, (stepL l).2.1 + (pathL (k + 1) (l.drop (stepL l).2.1.toNat)).2.2)
 else ([], (stepL l).2.2.1, (stepL l).2.2.2)
termination_by l.length
decreasing_by
 all_goals
  have := stepL_good l (stepL l).1 (stepL l).2.1 (stepL l).2.2.2 (by rw [← h])
  have h3 : 1 ≤ l.length := List.length_pos_iff.2 h0
  rw [List.length_drop]; omega
theorem pathL_nil (k : Nat) : pathL k [] = ([], 0, 0) := by rw [pathL, dif_pos rfl]
theorem pathL_many (l : List UInt8) (h : l ≠ []) : pathL 64 l = ([], 8, 0) := by rw [pathL, dif_neg h, if_pos rfl]
theorem pathL_bad (k : Nat) (l : List UInt8) (h : l ≠ []) (hk : k ≠ 64) {x : StepT} {n e p : Int} (hs : stepL l = (x, n, e, p)) (he : e ≠ 0) : pathL k l = ([], e, p) := by
 rw [pathL, dif_neg h, if_neg hk, dif_neg (by rw [hs]; exact he), hs]
theorem pathL_ok (k : Nat) (l : List UInt8) (h : l ≠ []) (hk : k ≠ 64) {x : StepT} {n p : Int} (hs : stepL l = (x, n, 0, p)) :
 pathL k l = if (pathL (k + 1) (l.drop n.toNat)).2.1 = 0 then (x :: (pathL (k + 1) (l.drop n.toNat)).1, 0, 0) else ([], (pathL (k + 1) (l.drop n.toNat)).2.1, n + (pathL (k + 1) (l.drop n.toNat)).2.2) := by
 rw [pathL, dif_neg h, if_neg hk, dif_pos (by rw [hs]), hs]
structure PInv (s : List UInt8) (i : Int) (acc : List StepT) : Prop where
 i0 : 0 ≤ i
 i1 : i ≤ s.length
 k : acc.length ≤ 64
 eq : pathL 0 s = if (pathL acc.length (s.drop i.toNat)).2.1 = 0 then (acc ++ (pathL acc.length (s.drop i.toNat)).1, 0, 0) else ([], (pathL acc.length (s.drop i.toNat)).2.1, i + (pathL acc.length (s.drop i.toNat)).2.2)
theorem pathL_clean (k : Nat) (l : List UInt8) : (pathL k l).2.1 = 0 → (pathL k l).2.2 = 0 := by
 intro h
 rw [pathL] at h ⊢
 split
 · rfl
 · rename_i h0
   rw [dif_neg h0] at h
   split
   · rfl
   · rename_i h1
     rw [if_neg h1] at h
     split
     · rename_i h2
       rw [dif_pos h2] at h
       split
       · rfl
       · rename_i h3; rw [if_neg h3] at h; exact absurd h h3
     · rename_i h2; rw [dif_neg h2] at h; exact absurd h h2
theorem pathL_err (k : Nat) (l : List UInt8) : (pathL k l).2.1 ≠ 0 → (pathL k l).1 = [] := by
 intro h
 rw [pathL] at h ⊢
 split
 · rfl
 · rename_i h0
   rw [dif_neg h0] at h
   split
   · rfl
   · rename_i h1
     rw [if_neg h1] at h
     split
     · rename_i h2
       rw [dif_pos h2] at h
       split
       · rename_i h3; rw [if_pos h3] at h; exact absurd rfl h
       · rfl
     · rfl
theorem PInv.start (s : List UInt8) : PInv s 0 [] := by
 refine ⟨Int.le_refl 0, by omega, Nat.zero_le _, ?_⟩
 simp only [List.length_nil, Int.toNat_zero, List.drop_zero, List.nil_append, Int.zero_add]
 have h1 := pathL_clean 0 s
 have h2 := pathL_err 0 s
 split
 · rename_i h; exact Prod.ext rfl (Prod.ext h (h1 h))
 · rename_i h; exact Prod.ext (h2 h) rfl
theorem drop_ne0 (s : List UInt8) (i : Int) (h0 : 0 ≤ i) (h1 : i < s.length) : s.drop i.toNat ≠ [] := by intro e; have := congrArg List.length e; simp at this; omega
theorem PInv.step {s : List UInt8} {i : Int} {acc : List StepT} (h : PInv s i acc) (hlt : i < s.length) (hk : acc.length ≠ 64) {x : StepT} {n p : Int} (hs : stepL (s.drop i.toNat) = (x, n, 0, p)) : PInv s (i + n) (acc ++ [x]) ∧ 1 ≤ n := by
 have hg := stepL_good _ x n p hs
 rw [List.length_drop] at hg
 have i0 := h.i0
 have hkk := h.k
 refine ⟨⟨by omega, by omega, by simp; omega, ?_⟩, hg.1⟩
 rw [h.eq, pathL_ok _ _ (drop_ne0 s i i0 hlt) hk hs, List.drop_drop, show (i + n).toNat = i.toNat + n.toNat by omega]
 have e : (acc ++ [x]).length = acc.length + 1 := by simp
 rw [e]
 by_cases hz : (pathL (acc.length + 1) (s.drop (i.toNat + n.toNat))).2.1 = 0
 · rw [if_pos hz]
   simp [hz]
 · rw [if_neg hz]
   simp only [hz, if_false]
   rw [Int.add_assoc]
theorem PInv.bad {s : List UInt8} {i : Int} {acc : List StepT} (h : PInv s i acc) (hlt : i < s.length) (hk : acc.length ≠ 64) {x : StepT} {n e p : Int} (hs : stepL (s.drop i.toNat) = (x, n, e, p)) (he : e ≠ 0) : pathL 0 s = ([], e, i + p) := by
 rw [h.eq, pathL_bad _ _ (drop_ne0 s i h.i0 hlt) hk hs he, if_neg he]
theorem PInv.many {s : List UInt8} {i : Int} {acc : List StepT} (h : PInv s i acc) (hlt : i < s.length) (hk : acc.length = 64) : pathL 0 s = ([], 8, i) := by
 rw [h.eq, hk, pathL_many _ (drop_ne0 s i h.i0 hlt)]; simp
theorem PInv.fin {s : List UInt8} {i : Int} {acc : List StepT} (h : PInv s i acc) (hlt : ¬ i < s.length) : pathL 0 s = (acc, 0, 0) := by
 rw [h.eq, show s.drop i.toNat = [] from List.drop_of_length_le (by have := h.i0; omega), pathL_nil]; simp
/-! round trips -/
end Bf