/- BUA: texts of this proof, joined by program: Utf, Utf2. -/
import Derived.Test.YtkaeihlpdceokaaBBA
import Derived.Test.YtkaeihlpdceokaaBPL
/- Contracts of the package utf: lead, value. -/
set_option linter.unusedVariables false
set_option linter.unusedSimpArgs false
namespace Go.Proofs.Ytkaeihlpdceokaa
open Go.RowKit Bf
def leadV (r : Int × Int × Int) : Value := .tuple #[.int .i64 r.1, .int .u8 r.2.1, .int .u8 r.2.2]
set_option maxRecDepth 20000 in
set_option maxHeartbeats 1000000 in
theorem lead_any (n : Int) (w : World) (h0 : 0 ≤ n) (h1 : n ≤ 255) :
 Calls Try.prog 40 #[.int .u8 n] w fun e w' => e = .returned (leadV (leadS n)) ∧ w = w' := by
 by_cases c1 : n < 128
 · have hr : leadS n = (1, 128, 191) := by unfold leadS; rw [if_pos c1]
   have HR := Lib.hid hr; clear hr
   go_enter Try.func40, Try.ntmps40
   go_wp2
   go_ret3
   exact ⟨by rw [HR.out]; rfl, rfl⟩
 by_cases c2 : n < 194
 · have hr : leadS n = (0, 128, 191) := by unfold leadS; rw [if_neg c1, if_pos c2]
   have HR := Lib.hid hr; clear hr
   go_enter Try.func40, Try.ntmps40
   go_wp2
   go_ret3
   exact ⟨by rw [HR.out]; rfl, rfl⟩
 by_cases c3 : n < 224
 · have hr : leadS n = (2, 128, 191) := by unfold leadS; rw [if_neg c1, if_neg c2, if_pos c3]
   have HR := Lib.hid hr; clear hr
   go_enter Try.func40, Try.ntmps40
   go_wp2
   go_ret3
   exact ⟨by rw [HR.out]; rfl, rfl⟩
 by_cases c4 : n = 224
 · have hr : leadS n = (3, 160, 191) := by unfold leadS; rw [if_neg c1, if_neg c2, if_neg c3, if_pos c4]
   subst c4; clear c1 c2 c3
   have HR := Lib.hid hr; clear hr
   go_enter Try.func40, Try.ntmps40
   go_wp2
   go_ret3
   exact ⟨by rw [HR.out]; rfl, rfl⟩
 by_cases c5 : n < 237
 · have hr : leadS n = (3, 128, 191) := by unfold leadS; rw [if_neg c1, if_neg c2, if_neg c3, if_neg c4, if_pos c5]
   have c3 : 224 < n := by omega
   clear c4
   have HR := Lib.hid hr; clear hr
   go_enter Try.func40, Try.ntmps40
   go_wp2
   go_ret3
   exact ⟨by rw [HR.out]; rfl, rfl⟩
 by_cases c6 : n = 237
 · have hr : leadS n = (3, 128, 159) := by unfold leadS; rw [if_neg c1, if_neg c2, if_neg c3, if_neg c4, if_neg c5, if_pos c6]
   subst c6; clear c1 c2 c3 c4 c5
   have HR := Lib.hid hr; clear hr
   go_enter Try.func40, Try.ntmps40
   go_wp2
   go_ret3
   exact ⟨by rw [HR.out]; rfl, rfl⟩
 by_cases c7 : n < 240
 · have hr : leadS n = (3, 128, 191) := by unfold leadS; rw [if_neg c1, if_neg c2, if_neg c3, if_neg c4, if_neg c5, if_neg c6, if_pos c7]
   have c3 : 237 < n := by omega
   clear c4 c6
   have HR := Lib.hid hr; clear hr
   go_enter Try.func40, Try.ntmps40
   go_wp2
   go_ret3
   exact ⟨by rw [HR.out]; rfl, rfl⟩
 by_cases c8 : n = 240
 · have hr : leadS n = (4, 144, 191) := by unfold leadS; rw [if_neg c1, if_neg c2, if_neg c3, if_neg c4, if_neg c5, if_neg c6, if_neg c7, if_pos c8]
   subst c8; clear c1 c2 c3 c4 c5 c6 c7
   have HR := Lib.hid hr; clear hr
   go_enter Try.func40, Try.ntmps40
   go_wp2
   go_ret3
   exact ⟨by rw [HR.out]; rfl, rfl⟩
 by_cases c9 : n < 244
 · have hr : leadS n = (4, 128, 191) := by unfold leadS; rw [if_neg c1, if_neg c2, if_neg c3, if_neg c4, if_neg c5, if_neg c6, if_neg c7, if_neg c8, if_pos c9]
   have c3 : 240 < n := by omega
   clear c4 c6 c8
   have HR := Lib.hid hr; clear hr
   go_enter Try.func40, Try.ntmps40
   go_wp2
   go_ret3
   exact ⟨by rw [HR.out]; rfl, rfl⟩
 by_cases c10 : n = 244
 · have hr : leadS n = (4, 128, 143) := by unfold leadS; rw [if_neg c1, if_neg c2, if_neg c3, if_neg c4, if_neg c5, if_neg c6, if_neg c7, if_neg c8, if_neg c9, if_pos c10]
   subst c10; clear c1 c2 c3 c4 c5 c6 c7 c8 c9
   have HR := Lib.hid hr; clear hr
   go_enter Try.func40, Try.ntmps40
   go_wp2
   go_ret3
   exact ⟨by rw [HR.out]; rfl, rfl⟩
 have hr : leadS n = (0, 128, 191) := by unfold leadS; rw [if_neg c1, if_neg c2, if_neg c3, if_neg c4, if_neg c5, if_neg c6, if_neg c7, if_neg c8, if_neg c9, if_neg c10]
 have c3 : 244 < n := by omega
 clear c4 c6 c8 c10
 have HR := Lib.hid hr; clear hr
 go_enter Try.func40, Try.ntmps40
 go_wp2
 go_ret3
 exact ⟨by rw [HR.out]; rfl, rfl⟩
theorem ub (c : UInt8) : (c.toNat : Int) < 256 := by have := c.toNat_lt; omega
theorem i32_and31 {x : Int} (h₀ : 0 ≤ x) (h₁ : x < 2147483648) : bits .and .i32 x 31 = x % 32 := bits_mask .i32 31 (by decide) wraps_i32 5 (by decide) x h₀ h₁
theorem i32_and15 {x : Int} (h₀ : 0 ≤ x) (h₁ : x < 2147483648) : bits .and .i32 x 15 = x % 16 := bits_mask .i32 31 (by decide) wraps_i32 4 (by decide) x h₀ h₁
theorem i32_and7 {x : Int} (h₀ : 0 ≤ x) (h₁ : x < 2147483648) : bits .and .i32 x 7 = x % 8 := bits_mask .i32 31 (by decide) wraps_i32 3 (by decide) x h₀ h₁
theorem value1 (s : ByteArray) (w : World) (h : 1 ≤ s.size) (h' : s.size ≤ 1) :
 Calls Try.prog 41 #[.string s] w fun e w' => e = .returned (.int .i32 (valL [s[0]])) ∧ Below w.heap.size w w' := by
 have u0 := ub s[0]
 have l0 : 0 < s.size := by omega
 have t1 : ((s.size : Int) == 1) = true := by simp; omega
 have t2 : ((s.size : Int) == 2) = false := by simp; omega
 have t3 : ((s.size : Int) == 3) = false := by simp; omega
 have t4 : ((s.size : Int) == 4) = false := by simp; omega
 go_enter Try.func41, Try.ntmps41
 go_wp2
 go_ret
 refine ⟨rfl, ?_⟩
 repeat (first | exact Below.refl _ _ | refine bl_alloc ?_ _ | refine Below.drew ?_ | refine bl_drewN ?_ _ | refine bl_set ?_ (by first | (simp; done) | (simp; omega)) _ | refine bl_step ?_ (by assumption))
set_option maxRecDepth 50000 in
theorem value2 (s : ByteArray) (w : World) (h : 2 ≤ s.size) (h' : s.size ≤ 2) :
 Calls Try.prog 41 #[.string s] w fun e w' => e = .returned (.int .i32 (valL [s[0], s[1]])) ∧ Below w.heap.size w w' := by
 have u0 := ub s[0]
 have u1 := ub s[1]
 have l0 : 0 < s.size := by omega
 have l1 : 1 < s.size := by omega
 have t1 : ((s.size : Int) == 1) = false := by simp; omega
 have t2 : ((s.size : Int) == 2) = true := by simp; omega
 have t3 : ((s.size : Int) == 3) = false := by simp; omega
 have t4 : ((s.size : Int) == 4) = false := by simp; omega
 have sh : (7 : Int) - (s.size : Int) = 5 := by omega
 have e1 : bits .and .i32 (s[0].toNat : Int) 31 = (s[0].toNat : Int) % 32 := i32_and31 (by omega) (by omega)
 have e2 : bits .or .i32 (((s[0].toNat : Int) % 32) * 64) ((s[1].toNat : Int) % 64) = ((s[0].toNat : Int) % 32) * 64 + (s[1].toNat : Int) % 64 := i32_or6 _ _ (by omega) (by omega) (by omega) (by omega) (by omega)
 go_enter Try.func41, Try.ntmps41
 go_wp2
 go_region
 go_wp2
 go_ret
 refine ⟨rfl, ?_⟩
 repeat (first | exact Below.refl _ _ | refine bl_alloc ?_ _ | refine Below.drew ?_ | refine bl_drewN ?_ _ | refine bl_set ?_ (by first | (simp; done) | (simp; omega)) _ | refine bl_step ?_ (by assumption))
set_option maxRecDepth 50000 in
theorem value3 (s : ByteArray) (w : World) (h : 3 ≤ s.size) (h' : s.size ≤ 3) :
 Calls Try.prog 41 #[.string s] w fun e w' => e = .returned (.int .i32 (valL [s[0], s[1], s[2]])) ∧ Below w.heap.size w w' := by
 have u0 := ub s[0]
 have u1 := ub s[1]
 have u2 := ub s[2]
 have l0 : 0 < s.size := by omega
 have l1 : 1 < s.size := by omega
 have l2 : 2 < s.size := by omega
 have t1 : ((s.size : Int) == 1) = false := by simp; omega
 have t2 : ((s.size : Int) == 2) = false := by simp; omega
 have t3 : ((s.size : Int) == 3) = true := by simp; omega
 have t4 : ((s.size : Int) == 4) = false := by simp; omega
 have sh : (7 : Int) - (s.size : Int) = 4 := by omega
 have e1 : bits .and .i32 (s[0].toNat : Int) 15 = (s[0].toNat : Int) % 16 := i32_and15 (by omega) (by omega)
 have e2 : bits .or .i32 (((s[0].toNat : Int) % 16) * 64) ((s[1].toNat : Int) % 64) = ((s[0].toNat : Int) % 16) * 64 + (s[1].toNat : Int) % 64 := i32_or6 _ _ (by omega) (by omega) (by omega) (by omega) (by omega)
 have e3 : bits .or .i32 ((((s[0].toNat : Int) % 16) * 64 + (s[1].toNat : Int) % 64) * 64) ((s[2].toNat : Int) % 64) = (((s[0].toNat : Int) % 16) * 64 + (s[1].toNat : Int) % 64) * 64 + (s[2].toNat : Int) % 64 := i32_or6 _ _ (by omega) (by omega) (by omega) (by omega) (by omega)
 go_enter Try.func41, Try.ntmps41
 go_wp2
 go_region
 go_wp2
 go_ret
 refine ⟨rfl, ?_⟩
 repeat (first | exact Below.refl _ _ | refine bl_alloc ?_ _ | refine Below.drew ?_ | refine bl_drewN ?_ _ | refine bl_set ?_ (by first | (simp; done) | (simp; omega)) _ | refine bl_step ?_ (by assumption))
set_option maxRecDepth 50000 in
theorem value4 (s : ByteArray) (w : World) (h : 4 ≤ s.size) (h' : s.size ≤ 4) :
 Calls Try.prog 41 #[.string s] w fun e w' => e = .returned (.int .i32 (valL [s[0], s[1], s[2], s[3]])) ∧ Below w.heap.size w w' := by
 have u0 := ub s[0]
 have u1 := ub s[1]
 have u2 := ub s[2]
 have u3 := ub s[3]
 have l0 : 0 < s.size := by omega
 have l1 : 1 < s.size := by omega
 have l2 : 2 < s.size := by omega
 have l3 : 3 < s.size := by omega
 have t1 : ((s.size : Int) == 1) = false := by simp; omega
 have t2 : ((s.size : Int) == 2) = false := by simp; omega
 have t3 : ((s.size : Int) == 3) = false := by simp; omega
 have t4 : ((s.size : Int) == 4) = true := by simp; omega
 have sh : (7 : Int) - (s.size : Int) = 3 := by omega
 have e1 : bits .and .i32 (s[0].toNat : Int) 7 = (s[0].toNat : Int) % 8 := i32_and7 (by omega) (by omega)
 have e2 : bits .or .i32 (((s[0].toNat : Int) % 8) * 64) ((s[1].toNat : Int) % 64) = ((s[0].toNat : Int) % 8) * 64 + (s[1].toNat : Int) % 64 := i32_or6 _ _ (by omega) (by omega) (by omega) (by omega) (by omega)
 have e3 : bits .or .i32 ((((s[0].toNat : Int) % 8) * 64 + (s[1].toNat : Int) % 64) * 64) ((s[2].toNat : Int) % 64) = (((s[0].toNat : Int) % 8) * 64 + (s[1].toNat : Int) % 64) * 64 + (s[2].toNat : Int) % 64 := i32_or6 _ _ (by omega) (by omega) (by omega) (by omega) (by omega)
 have e4 : bits .or .i32 (((((s[0].toNat : Int) % 8) * 64 + (s[1].toNat : Int) % 64) * 64 + (s[2].toNat : Int) % 64) * 64) ((s[3].toNat : Int) % 64) = ((((s[0].toNat : Int) % 8) * 64 + (s[1].toNat : Int) % 64) * 64 + (s[2].toNat : Int) % 64) * 64 + (s[3].toNat : Int) % 64 := i32_or6 _ _ (by omega) (by omega) (by omega) (by omega) (by omega)
 go_enter Try.func41, Try.ntmps41
 go_wp2
 go_region
 go_wp2
 go_ret
 refine ⟨rfl, ?_⟩
 repeat (first | exact Below.refl _ _ | refine bl_alloc ?_ _ | refine Below.drew ?_ | refine bl_drewN ?_ _ | refine bl_set ?_ (by first | (simp; done) | (simp; omega)) _ | refine bl_step ?_ (by assumption))
theorem value_at (t : ByteArray) (v : Int) (w : World) (h : Hid (valL t.data.toList = v)) (h1 : 1 ≤ t.size) (h4 : t.size ≤ 4) :
 Calls Try.prog 41 #[.string t] w fun e w' => e = .returned (.int .i32 v) ∧ Below w.heap.size w w' := by
 obtain ⟨⟨l⟩⟩ := t
 have hl : 1 ≤ l.length := h1
 have hl4 : l.length ≤ 4 := h4
 have hv := h.out
 subst hv
 match l, hl, hl4 with
 | [a], _, _ => exact value1 ⟨#[a]⟩ w (Nat.le_refl 1) (Nat.le_refl 1)
 | [a, b], _, _ => exact value2 ⟨#[a, b]⟩ w (Nat.le_refl 2) (Nat.le_refl 2)
 | [a, b, c], _, _ => exact value3 ⟨#[a, b, c]⟩ w (Nat.le_refl 3) (Nat.le_refl 3)
 | [a, b, c, d], _, _ => exact value4 ⟨#[a, b, c, d]⟩ w (Nat.le_refl 4) (Nat.le_refl 4)
end Go.Proofs.Ytkaeihlpdceokaa
/- Contracts of the package utf: Decode. -/
namespace Go.Proofs.Ytkaeihlpdceokaa
open Go.RowKit Bf
def decV (r : Int × Nat × Bool) : Value := .tuple #[.int .i32 r.1, .int .i64 (r.2.1 : Int), .bool r.2.2]
def decAt (l : List UInt8) (a : Int) : Int × Nat × Bool := if a < 0 ∨ (l.length : Int) ≤ a then (0, 0, false) else decS (l.drop a.toNat)
theorem lead_at (n wt lo hi : Int) (w : World) (h0 : 0 ≤ n) (h1 : n ≤ 255) (h : Hid (leadS n = (wt, lo, hi))) :
 Calls Try.prog 40 #[.int .u8 n] w fun e w' => e = .returned (.tuple #[.int .i64 wt, .int .u8 lo, .int .u8 hi]) ∧ w = w' := by
 have := lead_any n w h0 h1; rw [h.out] at this; exact this
theorem leadS_bd2 (n : Int) : 0 ≤ (leadS n).2.1 ∧ (leadS n).2.1 ≤ 255 ∧ 0 ≤ (leadS n).2.2 ∧ (leadS n).2.2 ≤ 255 := by
 unfold leadS; repeat (first | (split; decide) | decide)
def DecRel (t : ByteArray) (W : Nat) (lo0 hi0 : Int) (lo hi i : Value) : Prop :=
 ∃ (j : Nat) (p q : Int), i = .int .i64 j ∧ lo = .int .u8 p ∧ hi = .int .u8 q ∧ 1 ≤ j ∧ j ≤ W ∧ 0 ≤ p ∧ p ≤ 255 ∧ 0 ≤ q ∧ q ≤ 255 ∧ scanL lo0 hi0 (W - 1) (t.data.toList.drop 1) + 1 = j + scanL p q (W - j) (t.data.toList.drop j)
theorem scan_step (t : ByteArray) (W j : Nat) (p q : Int) (hj : j < W) (hlt : j < t.size) :
 scanL p q (W - j) (t.data.toList.drop j) = if p ≤ (t[j].toNat : Int) ∧ (t[j].toNat : Int) ≤ q then scanL 128 191 (W - (j + 1)) (t.data.toList.drop (j + 1)) + 1 else 0 := by
 rw [toList_drop_cons t j hlt, show W - j = (W - (j + 1)) + 1 by omega]; rfl
set_option maxRecDepth 20000 in
set_option maxHeartbeats 1000000 in
theorem decode_out (s : ByteArray) (a : Int) (w : World) (hs : s.size ≤ maxLen) (ha : -9223372036854775808 ≤ a ∧ a ≤ 9223372036854775807) (h : a < 0 ∨ (s.size : Int) ≤ a) :
 Calls Try.prog 33 #[.string s, .int .i64 a] w fun e w' => e = .returned (decV (decAt s.data.toList a)) ∧ Below w.heap.size w w' := by
 unfold maxLen at hs
 have HO : Hid (decAt s.data.toList a = (0, 0, false)) := by unfold decAt; rw [if_pos (by rw [toList_length]; exact h)]; rfl
 obtain ⟨ha1, ha2⟩ := ha
 by_cases h0 : a < 0
 · clear h
   go_enter Try.func33, Try.ntmps33
   go_wp2
   all_goals (go_ret3; refine ⟨by rw [HO.out]; rfl, ?_⟩)
   repeat (first | exact Below.refl _ _ | refine bl_alloc ?_ _ | refine Below.drew ?_ | refine bl_drewN ?_ _ | refine bl_set ?_ (by first | (simp; done) | (simp; omega)) _ | refine bl_step ?_ (by assumption))
 · have h1 : (s.size : Int) ≤ a := by omega
   clear h
   go_enter Try.func33, Try.ntmps33
   go_wp2
   all_goals (go_ret3; refine ⟨by rw [HO.out]; rfl, ?_⟩)
   repeat (first | exact Below.refl _ _ | refine bl_alloc ?_ _ | refine Below.drew ?_ | refine bl_drewN ?_ _ | refine bl_set ?_ (by first | (simp; done) | (simp; omega)) _ | refine bl_step ?_ (by assumption))
set_option maxRecDepth 20000 in
set_option maxHeartbeats 1000000 in
theorem decode_in (s : ByteArray) (k : Nat) (w : World) (hs : s.size ≤ maxLen) (hk : k < s.size) :
 Calls Try.prog 33 #[.string s, .int .i64 k] w fun e w' => e = .returned (decV (decAt s.data.toList k)) ∧ Below w.heap.size w w' := by
 unfold maxLen at hs
 obtain ⟨t, ht⟩ : ∃ t, s.extract k s.size = t := ⟨_, rfl⟩
 have htl : t.data.toList = s.data.toList.drop k := by rw [← ht]; exact extract_rest s k
 have htn : t.size = s.size - k := by rw [← ht, ByteArray.size_extract]; omega
 have htn0 : 0 < t.size := by omega
 have hts : t.size ≤ 9223372036854775807 := by omega
 have hd : decAt s.data.toList k = decS t.data.toList := by unfold decAt; rw [if_neg (by rw [toList_length]; omega), htl]; rfl
 have hc := toList_drop_cons t 0 htn0
 rw [List.drop_zero] at hc
 have ub0 := ub t[0]
 obtain ⟨wt, lo, hi, hl⟩ : ∃ wt lo hi, leadS (t[0].toNat : Int) = (wt, lo, hi) := ⟨_, _, _, rfl⟩
 have hb := leadS_bd (t[0].toNat : Int)
 have hb2 := leadS_bd2 (t[0].toNat : Int)
 rw [hl] at hb hb2
 obtain ⟨g1, g2, g3, g4⟩ := hb2
 obtain ⟨g5, g6⟩ := hb
 simp only at g1 g2 g3 g4 g5 g6
 have HL := Lib.hid hl
 have HE : Hid (decS t.data.toList = if wt = 0 then (0, 1, false) else if scanL lo hi (wt.toNat - 1) (t.data.toList.drop 1) = wt.toNat - 1 then (valL (t.data.toList.take wt.toNat), wt.toNat, true) else (0, 1 + scanL lo hi (wt.toNat - 1) (t.data.toList.drop 1), false)) := by
  have : decS t.data.toList = decS (t[0] :: t.data.toList.drop 1) := by rw [← hc]
  rw [this]; unfold decS; simp only [hl]; rw [← hc]; rfl
 have HD := Lib.hid hd
 clear hd hc htl htn hl
 by_cases hw0 : wt < 1
 · have HO : Hid (decAt s.data.toList k = (0, 1, false)) := by rw [HD.out, HE.out, if_pos (by omega)]; rfl
   go_enter Try.func33, Try.ntmps33
   go_wp2_with (go_at_call 40; refine (lead_at _ _ _ _ _ (by omega) (by omega) HL).mono ?_; rintro e w' ⟨rfl, rfl⟩)
   all_goals (go_ret3; refine ⟨by rw [HO.out]; rfl, ?_⟩)
   repeat (first | exact Below.refl _ _ | refine bl_alloc ?_ _ | refine Below.drew ?_ | refine bl_drewN ?_ _ | refine bl_set ?_ (by first | (simp; done) | (simp; omega)) _ | refine bl_step ?_ (by assumption))
 · obtain ⟨W, rfl⟩ := Int.eq_ofNat_of_zero_le g5
   have HE2 : Hid (∀ m, scanL lo hi (W - 1) (t.data.toList.drop 1) = m → decAt s.data.toList k = if m = W - 1 then (valL (t.data.toList.take W), W, true) else (0, 1 + m, false)) := by
    intro m hm; rw [HD.out, HE.out, if_neg (by omega)]; simp only [Int.toNat_natCast, hm]
   have q1 : decide ((k : Int) < 0) = false := by simp
   have q2 : decide (s.size ≤ k) = false := by simp; omega
   have hW : 1 ≤ W := by omega
   clear HE HD g5
   go_enter Try.func33, Try.ntmps33
   go_wp2_with (go_at_call 40; refine (lead_at _ _ _ _ _ (by omega) (by omega) HL).mono ?_; rintro e w' ⟨rfl, rfl⟩)
   go_loop [8, 9, 10] (fun p q i => DecRel t W lo hi p q i) (fun _ _ i => W - (intOf i).toNat)
   case atStart => exact ⟨1, lo, hi, rfl, rfl, rfl, by omega, by omega, by omega, by omega, by omega, by omega, by omega⟩
   case round =>
    obtain ⟨j, p, q, rfl, rfl, rfl, h1, h2, h3, h4, h5, h6, hr⟩ := hrel
    by_cases hj : j < W
    · by_cases hlt : j < t.size
      · have st := scan_step t W j p q hj hlt
        by_cases hgd : p ≤ (t[j].toNat : Int) ∧ (t[j].toNat : Int) ≤ q
        · obtain ⟨hg1, hg2⟩ := hgd
          rw [if_pos ⟨hg1, hg2⟩] at st
          rw [st] at hr
          have HRr := Lib.hid hr
          clear st hr
          go_wp2
          exact ⟨⟨j + 1, 128, 191, by go_num, rfl, rfl, by omega, by omega, by omega, by omega, by omega, by omega, by have := HRr.out; omega⟩, by simp [intOf]; omega⟩
        · rw [if_neg hgd] at st
          rw [st] at hr
          have HO : Hid (decAt s.data.toList k = (0, j, false)) := by rw [HE2.out (j - 1) (by omega), if_neg (by omega)]; congr; omega
          clear hr st
          by_cases hp : (t[j].toNat : Int) < p
          · clear hgd
            go_wp2
            all_goals (go_ret3; refine ⟨by rw [HO.out]; rfl, ?_⟩)
            repeat (first | exact Below.refl _ _ | refine bl_alloc ?_ _ | refine Below.drew ?_ | refine bl_drewN ?_ _ | refine bl_set ?_ (by first | (simp; done) | (simp; omega)) _ | refine bl_step ?_ (by assumption))
          · have hq : q < (t[j].toNat : Int) := by omega
            clear hgd
            go_wp2
            all_goals (go_ret3; refine ⟨by rw [HO.out]; rfl, ?_⟩)
            repeat (first | exact Below.refl _ _ | refine bl_alloc ?_ _ | refine Below.drew ?_ | refine bl_drewN ?_ _ | refine bl_set ?_ (by first | (simp; done) | (simp; omega)) _ | refine bl_step ?_ (by assumption))
      · have hdr : scanL p q (W - j) (t.data.toList.drop j) = 0 := by rw [drop_all t j (by omega)]; cases W - j <;> rfl
        rw [hdr] at hr
        have HO : Hid (decAt s.data.toList k = (0, j, false)) := by rw [HE2.out (j - 1) (by omega), if_neg (by omega)]; congr; omega
        clear hr hdr
        go_wp2
        all_goals (go_ret3; refine ⟨by rw [HO.out]; rfl, ?_⟩)
        repeat (first | exact Below.refl _ _ | refine bl_alloc ?_ _ | refine Below.drew ?_ | refine bl_drewN ?_ _ | refine bl_set ?_ (by first | (simp; done) | (simp; omega)) _ | refine bl_step ?_ (by assumption))
    · obtain rfl : j = W := by omega
      rw [Nat.sub_self, show scanL p q 0 (t.data.toList.drop j) = 0 from by simp [scanL]] at hr
      have hz : scanL lo hi (j - 1) (t.data.toList.drop 1) = j - 1 := by omega
      have hsz := (scanL_le lo hi (j - 1) (t.data.toList.drop 1)).2
      rw [hz, List.length_drop, toList_length] at hsz
      have hjt : j ≤ t.size := by omega
      have HO : Hid (decAt s.data.toList k = (valL (t.data.toList.take j), j, true)) := by rw [HE2.out (j - 1) hz, if_pos rfl]; rfl
      have HV : Hid (valL (t.extract 0 j).data.toList = valL (t.data.toList.take j)) := by rw [extract_toList]; rfl
      have hx1 : 1 ≤ (t.extract 0 j).size := by rw [ByteArray.size_extract]; omega
      have hx2 : (t.extract 0 j).size ≤ 4 := by rw [ByteArray.size_extract]; omega
      clear hr hz hsz
      go_wp2_with (go_at_call 41; refine (value_at _ _ _ HV hx1 hx2).mono ?_; rintro e w' ⟨rfl, hb⟩; obtain ⟨kc, kf, kl, km, kn⟩ := bfacts hb)
      all_goals (go_ret3; refine ⟨by rw [HO.out]; rfl, ?_⟩)
      repeat (first | exact Below.refl _ _ | refine bl_alloc ?_ _ | refine Below.drew ?_ | refine bl_drewN ?_ _ | refine bl_set ?_ (by first | (simp; done) | (simp; omega)) _ | refine bl_step ?_ (by assumption))
theorem decode_any (s : ByteArray) (a : Int) (w : World) (hs : s.size ≤ maxLen) (ha : -9223372036854775808 ≤ a ∧ a ≤ 9223372036854775807) :
 Calls Try.prog 33 #[.string s, .int .i64 a] w fun e w' => e = .returned (decV (decAt s.data.toList a)) ∧ Below w.heap.size w w' := by
 by_cases h : a < 0 ∨ (s.size : Int) ≤ a
 · exact decode_out s a w hs ha h
 · obtain ⟨k, rfl⟩ := Int.eq_ofNat_of_zero_le (show 0 ≤ a by omega)
   exact decode_in s k w hs (by omega)
theorem decode_at (s : ByteArray) (a r : Int) (n : Nat) (b : Bool) (w : World) (hs : s.size ≤ maxLen) (ha : -9223372036854775808 ≤ a ∧ a ≤ 9223372036854775807)
 (h : Hid (decAt s.data.toList a = (r, n, b))) :
 Calls Try.prog 33 #[.string s, .int .i64 a] w fun e w' => e = .returned (.tuple #[.int .i32 r, .int .i64 (n : Int), .bool b]) ∧ Below w.heap.size w w' := by
 have := decode_any s a w hs ha; rw [h.out] at this; exact this
end Go.Proofs.Ytkaeihlpdceokaa