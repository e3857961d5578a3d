/- Contracts of the package utf: lead, value. -/
import Derived.Test.YtldjakeigjngoaaBaseQ
import Derived.Test.YtldjakeigjngoaaBPL
set_option linter.unusedVariables false
set_option linter.unusedSimpArgs false
namespace Go.Proofs.Ytldjakeigjngoaa
open Go.RowKit Bf

def leadV (r : Int × Int × Int) : Value := .tuple #[.int .i64 r.1, .int .u8 r.2.1, .int .u8 r.2.2]
set_option maxRecDepth 20000 in
set_option maxHeartbeats 1000000 in
theorem lead_any (n : Int) (w : World) (h0 : 0 ≤ n) (h1 : n ≤ 255) :
    Calls Try.prog 169 #[.int .u8 n] w fun e w' => e = .returned (leadV (leadS n)) ∧ w = w' := by
  by_cases c1 : n < 128
  · have hr : leadS n = (1, 128, 191) := by unfold leadS; rw [if_pos c1]
    have HR := Lib.hid hr; clear hr
    go_enter Try.func169, Try.ntmps169
    go_wp2
    go_ret3
    exact ⟨by rw [HR.out]; rfl, rfl⟩
  by_cases c2 : n < 194
  · have hr : leadS n = (0, 128, 191) := by unfold leadS; rw [if_neg c1, if_pos c2]
    have HR := Lib.hid hr; clear hr
    go_enter Try.func169, Try.ntmps169
    go_wp2
    go_ret3
    exact ⟨by rw [HR.out]; rfl, rfl⟩
  by_cases c3 : n < 224
  · have hr : leadS n = (2, 128, 191) := by unfold leadS; rw [if_neg c1, if_neg c2, if_pos c3]
    have HR := Lib.hid hr; clear hr
    go_enter Try.func169, Try.ntmps169
    go_wp2
    go_ret3
    exact ⟨by rw [HR.out]; rfl, rfl⟩
  by_cases c4 : n = 224
  · have hr : leadS n = (3, 160, 191) := by unfold leadS; rw [if_neg c1, if_neg c2, if_neg c3, if_pos c4]
    subst c4; clear c1 c2 c3
    have HR := Lib.hid hr; clear hr
    go_enter Try.func169, Try.ntmps169
    go_wp2
    go_ret3
    exact ⟨by rw [HR.out]; rfl, rfl⟩
  by_cases c5 : n < 237
  · have hr : leadS n = (3, 128, 191) := by unfold leadS; rw [if_neg c1, if_neg c2, if_neg c3, if_neg c4, if_pos c5]
    have c3 : 224 < n := by omega
    clear c4
    have HR := Lib.hid hr; clear hr
    go_enter Try.func169, Try.ntmps169
    go_wp2
    go_ret3
    exact ⟨by rw [HR.out]; rfl, rfl⟩
  by_cases c6 : n = 237
  · have hr : leadS n = (3, 128, 159) := by unfold leadS; rw [if_neg c1, if_neg c2, if_neg c3, if_neg c4, if_neg c5, if_pos c6]
    subst c6; clear c1 c2 c3 c4 c5
    have HR := Lib.hid hr; clear hr
    go_enter Try.func169, Try.ntmps169
    go_wp2
    go_ret3
    exact ⟨by rw [HR.out]; rfl, rfl⟩
  by_cases c7 : n < 240
  · have hr : leadS n = (3, 128, 191) := by unfold leadS; rw [if_neg c1, if_neg c2, if_neg c3, if_neg c4, if_neg c5, if_neg c6, if_pos c7]
    have c3 : 237 < n := by omega
    clear c4 c6
    have HR := Lib.hid hr; clear hr
    go_enter Try.func169, Try.ntmps169
    go_wp2
    go_ret3
    exact ⟨by rw [HR.out]; rfl, rfl⟩
  by_cases c8 : n = 240
  · have hr : leadS n = (4, 144, 191) := by unfold leadS; rw [if_neg c1, if_neg c2, if_neg c3, if_neg c4, if_neg c5, if_neg c6, if_neg c7, if_pos c8]
    subst c8; clear c1 c2 c3 c4 c5 c6 c7
    have HR := Lib.hid hr; clear hr
    go_enter Try.func169, Try.ntmps169
    go_wp2
    go_ret3
    exact ⟨by rw [HR.out]; rfl, rfl⟩
  by_cases c9 : n < 244
  · have hr : leadS n = (4, 128, 191) := by unfold leadS; rw [if_neg c1, if_neg c2, if_neg c3, if_neg c4, if_neg c5, if_neg c6, if_neg c7, if_neg c8, if_pos c9]
    have c3 : 240 < n := by omega
    clear c4 c6 c8
    have HR := Lib.hid hr; clear hr
    go_enter Try.func169, Try.ntmps169
    go_wp2
    go_ret3
    exact ⟨by rw [HR.out]; rfl, rfl⟩
  by_cases c10 : n = 244
  · have hr : leadS n = (4, 128, 143) := by unfold leadS; rw [if_neg c1, if_neg c2, if_neg c3, if_neg c4, if_neg c5, if_neg c6, if_neg c7, if_neg c8, if_neg c9, if_pos c10]
    subst c10; clear c1 c2 c3 c4 c5 c6 c7 c8 c9
    have HR := Lib.hid hr; clear hr
    go_enter Try.func169, Try.ntmps169
    go_wp2
    go_ret3
    exact ⟨by rw [HR.out]; rfl, rfl⟩
  have hr : leadS n = (0, 128, 191) := by unfold leadS; rw [if_neg c1, if_neg c2, if_neg c3, if_neg c4, if_neg c5, if_neg c6, if_neg c7, if_neg c8, if_neg c9, if_neg c10]
  have c3 : 244 < n := by omega
  clear c4 c6 c8 c10
  have HR := Lib.hid hr; clear hr
  go_enter Try.func169, Try.ntmps169
  go_wp2
  go_ret3
  exact ⟨by rw [HR.out]; rfl, rfl⟩

theorem ub (c : UInt8) : (c.toNat : Int) < 256 := by have := c.toNat_lt; omega
theorem i32_and31 {x : Int} (h₀ : 0 ≤ x) (h₁ : x < 2147483648) : bits .and .i32 x 31 = x % 32 := bits_mask .i32 31 (by decide) wraps_i32 5 (by decide) x h₀ h₁
theorem i32_and15 {x : Int} (h₀ : 0 ≤ x) (h₁ : x < 2147483648) : bits .and .i32 x 15 = x % 16 := bits_mask .i32 31 (by decide) wraps_i32 4 (by decide) x h₀ h₁
theorem i32_and7 {x : Int} (h₀ : 0 ≤ x) (h₁ : x < 2147483648) : bits .and .i32 x 7 = x % 8 := bits_mask .i32 31 (by decide) wraps_i32 3 (by decide) x h₀ h₁
theorem value1 (s : ByteArray) (w : World) (h : 1 ≤ s.size) (h' : s.size ≤ 1) :
    Calls Try.prog 170 #[.string s] w fun e w' => e = .returned (.int .i32 (valL [s[0]])) ∧ Below w.heap.size w w' := by
  have u0 := ub s[0]
  have l0 : 0 < s.size := by omega
  have t1 : ((s.size : Int) == 1) = true := by simp; omega
  have t2 : ((s.size : Int) == 2) = false := by simp; omega
  have t3 : ((s.size : Int) == 3) = false := by simp; omega
  have t4 : ((s.size : Int) == 4) = false := by simp; omega
  go_enter Try.func170, Try.ntmps170
  go_wp2
  go_ret
  refine ⟨rfl, ?_⟩
  repeat (first | exact Below.refl _ _ | refine bl_alloc ?_ _ | refine Below.drew ?_ | refine bl_drewN ?_ _ | refine bl_set ?_ (by first | (simp; done) | (simp; omega)) _ | refine bl_step ?_ (by assumption))
set_option maxRecDepth 50000 in
theorem value2 (s : ByteArray) (w : World) (h : 2 ≤ s.size) (h' : s.size ≤ 2) :
    Calls Try.prog 170 #[.string s] w fun e w' => e = .returned (.int .i32 (valL [s[0], s[1]])) ∧ Below w.heap.size w w' := by
  have u0 := ub s[0]
  have u1 := ub s[1]
  have l0 : 0 < s.size := by omega
  have l1 : 1 < s.size := by omega
  have t1 : ((s.size : Int) == 1) = false := by simp; omega
  have t2 : ((s.size : Int) == 2) = true := by simp; omega
  have t3 : ((s.size : Int) == 3) = false := by simp; omega
  have t4 : ((s.size : Int) == 4) = false := by simp; omega
  have sh : (7 : Int) - (s.size : Int) = 5 := by omega
  have e1 : bits .and .i32 (s[0].toNat : Int) 31 = (s[0].toNat : Int) % 32 := i32_and31 (by omega) (by omega)
  have e2 : bits .or .i32 (((s[0].toNat : Int) % 32) * 64) ((s[1].toNat : Int) % 64) = ((s[0].toNat : Int) % 32) * 64 + (s[1].toNat : Int) % 64 := i32_or6 _ _ (by omega) (by omega) (by omega) (by omega) (by omega)
  go_enter Try.func170, Try.ntmps170
  go_wp2
  go_region
  go_wp2
  go_ret
  refine ⟨rfl, ?_⟩
  repeat (first | exact Below.refl _ _ | refine bl_alloc ?_ _ | refine Below.drew ?_ | refine bl_drewN ?_ _ | refine bl_set ?_ (by first | (simp; done) | (simp; omega)) _ | refine bl_step ?_ (by assumption))
set_option maxRecDepth 50000 in
theorem value3 (s : ByteArray) (w : World) (h : 3 ≤ s.size) (h' : s.size ≤ 3) :
    Calls Try.prog 170 #[.string s] w fun e w' => e = .returned (.int .i32 (valL [s[0], s[1], s[2]])) ∧ Below w.heap.size w w' := by
  have u0 := ub s[0]
  have u1 := ub s[1]
  have u2 := ub s[2]
  have l0 : 0 < s.size := by omega
  have l1 : 1 < s.size := by omega
  have l2 : 2 < s.size := by omega
  have t1 : ((s.size : Int) == 1) = false := by simp; omega
  have t2 : ((s.size : Int) == 2) = false := by simp; omega
  have t3 : ((s.size : Int) == 3) = true := by simp; omega
  have t4 : ((s.size : Int) == 4) = false := by simp; omega
  have sh : (7 : Int) - (s.size : Int) = 4 := by omega
  have e1 : bits .and .i32 (s[0].toNat : Int) 15 = (s[0].toNat : Int) % 16 := i32_and15 (by omega) (by omega)
  have e2 : bits .or .i32 (((s[0].toNat : Int) % 16) * 64) ((s[1].toNat : Int) % 64) = ((s[0].toNat : Int) % 16) * 64 + (s[1].toNat : Int) % 64 := i32_or6 _ _ (by omega) (by omega) (by omega) (by omega) (by omega)
  have e3 : bits .or .i32 ((((s[0].toNat : Int) % 16) * 64 + (s[1].toNat : Int) % 64) * 64) ((s[2].toNat : Int) % 64) = (((s[0].toNat : Int) % 16) * 64 + (s[1].toNat : Int) % 64) * 64 + (s[2].toNat : Int) % 64 := i32_or6 _ _ (by omega) (by omega) (by omega) (by omega) (by omega)
  go_enter Try.func170, Try.ntmps170
  go_wp2
  go_region
  go_wp2
  go_ret
  refine ⟨rfl, ?_⟩
  repeat (first | exact Below.refl _ _ | refine bl_alloc ?_ _ | refine Below.drew ?_ | refine bl_drewN ?_ _ | refine bl_set ?_ (by first | (simp; done) | (simp; omega)) _ | refine bl_step ?_ (by assumption))
set_option maxRecDepth 50000 in
theorem value4 (s : ByteArray) (w : World) (h : 4 ≤ s.size) (h' : s.size ≤ 4) :
    Calls Try.prog 170 #[.string s] w fun e w' => e = .returned (.int .i32 (valL [s[0], s[1], s[2], s[3]])) ∧ Below w.heap.size w w' := by
  have u0 := ub s[0]
  have u1 := ub s[1]
  have u2 := ub s[2]
  have u3 := ub s[3]
  have l0 : 0 < s.size := by omega
  have l1 : 1 < s.size := by omega
  have l2 : 2 < s.size := by omega
  have l3 : 3 < s.size := by omega
  have t1 : ((s.size : Int) == 1) = false := by simp; omega
  have t2 : ((s.size : Int) == 2) = false := by simp; omega
  have t3 : ((s.size : Int) == 3) = false := by simp; omega
  have t4 : ((s.size : Int) == 4) = true := by simp; omega
  have sh : (7 : Int) - (s.size : Int) = 3 := by omega
  have e1 : bits .and .i32 (s[0].toNat : Int) 7 = (s[0].toNat : Int) % 8 := i32_and7 (by omega) (by omega)
  have e2 : bits .or .i32 (((s[0].toNat : Int) % 8) * 64) ((s[1].toNat : Int) % 64) = ((s[0].toNat : Int) % 8) * 64 + (s[1].toNat : Int) % 64 := i32_or6 _ _ (by omega) (by omega) (by omega) (by omega) (by omega)
  have e3 : bits .or .i32 ((((s[0].toNat : Int) % 8) * 64 + (s[1].toNat : Int) % 64) * 64) ((s[2].toNat : Int) % 64) = (((s[0].toNat : Int) % 8) * 64 + (s[1].toNat : Int) % 64) * 64 + (s[2].toNat : Int) % 64 := i32_or6 _ _ (by omega) (by omega) (by omega) (by omega) (by omega)
  have e4 : bits .or .i32 (((((s[0].toNat : Int) % 8) * 64 + (s[1].toNat : Int) % 64) * 64 + (s[2].toNat : Int) % 64) * 64) ((s[3].toNat : Int) % 64) = ((((s[0].toNat : Int) % 8) * 64 + (s[1].toNat : Int) % 64) * 64 + (s[2].toNat : Int) % 64) * 64 + (s[3].toNat : Int) % 64 := i32_or6 _ _ (by omega) (by omega) (by omega) (by omega) (by omega)
  go_enter Try.func170, Try.ntmps170
  go_wp2
  go_region
  go_wp2
  go_ret
  refine ⟨rfl, ?_⟩
  repeat (first | exact Below.refl _ _ | refine bl_alloc ?_ _ | refine Below.drew ?_ | refine bl_drewN ?_ _ | refine bl_set ?_ (by first | (simp; done) | (simp; omega)) _ | refine bl_step ?_ (by assumption))
/-- value, at bytes that are one to four. -/
theorem value_at (t : ByteArray) (v : Int) (w : World) (h : Hid (valL t.data.toList = v)) (h1 : 1 ≤ t.size) (h4 : t.size ≤ 4) :
    Calls Try.prog 170 #[.string t] w fun e w' => e = .returned (.int .i32 v) ∧ Below w.heap.size w w' := by
  obtain ⟨⟨l⟩⟩ := t
  have hl : 1 ≤ l.length := h1
  have hl4 : l.length ≤ 4 := h4
  have hv := h.out
  subst hv
  match l, hl, hl4 with
  | [a], _, _ => exact value1 ⟨#[a]⟩ w (Nat.le_refl 1) (Nat.le_refl 1)
  | [a, b], _, _ => exact value2 ⟨#[a, b]⟩ w (Nat.le_refl 2) (Nat.le_refl 2)
  | [a, b, c], _, _ => exact value3 ⟨#[a, b, c]⟩ w (Nat.le_refl 3) (Nat.le_refl 3)
  | [a, b, c, d], _, _ => exact value4 ⟨#[a, b, c, d]⟩ w (Nat.le_refl 4) (Nat.le_refl 4)
end Go.Proofs.Ytldjakeigjngoaa
