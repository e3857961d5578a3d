/- Contracts: the reference's reckoned, begins, left. -/
import Derived.Test.YteiejcililponaaBU3
import Derived.Test.YteiejcililponaaBase2Q
import Derived.Test.YteiejcililponaaBPL
import Derived.Deep.RegionWith
set_option linter.unusedVariables false
set_option linter.unusedSimpArgs false
namespace Go.Proofs.Yteiejcililponaa
open Go.RowKit Bf

/-- What stands at place m of the array, once j bytes are in. -/
def reckAt (s : ByteArray) (j m : Nat) : Int := if h : m < j ∧ m < s.size then (s[m].toNat : Int) - 128 else 0
def reckC (s : ByteArray) (j : Nat) : Array Value := #[.int .i64 (reckAt s j 0), .int .i64 (reckAt s j 1), .int .i64 (reckAt s j 2), .int .i64 (reckAt s j 3)]
theorem reckC_get (s : ByteArray) (j m : Nat) (h : m < 4) : (reckC s j)[m]? = some (.int .i64 (reckAt s j m)) := by
  unfold reckC
  match m, h with
  | 0, _ => rfl
  | 1, _ => rfl
  | 2, _ => rfl
  | 3, _ => rfl
theorem reckC_step (s : ByteArray) (j : Nat) (h : j < 4) (hs : j < s.size) : (reckC s j).setIfInBounds j (.int .i64 ((s[j].toNat : Int) - 128)) = reckC s (j + 1) := by
  apply Array.ext_getElem?
  intro m
  rw [Array.getElem?_setIfInBounds]
  by_cases e : j = m
  · subst e
    rw [if_pos rfl, if_pos (by unfold reckC; simpa using h), reckC_get s (j + 1) j h]
    unfold reckAt; rw [dif_pos ⟨by omega, hs⟩]
  · rw [if_neg e]
    by_cases hm : m < 4
    · rw [reckC_get s j m hm, reckC_get s (j + 1) m hm]
      congr 2; unfold reckAt
      by_cases h1 : m < j ∧ m < s.size
      · rw [dif_pos h1, dif_pos ⟨by omega, h1.2⟩]
      · rw [dif_neg h1, dif_neg (by omega)]
    · rw [Array.getElem?_eq_none (by unfold reckC; simp; omega), Array.getElem?_eq_none (by unfold reckC; simp; omega)]
theorem reckC_zero (s : ByteArray) : reckC s 0 = #[.int .i64 0, .int .i64 0, .int .i64 0, .int .i64 0] := by
  unfold reckC reckAt; simp
theorem toList_1 (s : ByteArray) (h : 1 ≤ s.size) (h' : s.size ≤ 1) : s.data.toList = [s[0]] := by
  have e : s.data.toList = s.data.toList.drop 0 := by simp
  rw [e, toList_drop_cons s 0 (by omega), drop_all s 1 (by omega)]
theorem toList_2 (s : ByteArray) (h : 2 ≤ s.size) (h' : s.size ≤ 2) : s.data.toList = [s[0], s[1]] := by
  have e : s.data.toList = s.data.toList.drop 0 := by simp
  rw [e, toList_drop_cons s 0 (by omega), toList_drop_cons s 1 (by omega), drop_all s 2 (by omega)]
theorem toList_3 (s : ByteArray) (h : 3 ≤ s.size) (h' : s.size ≤ 3) : s.data.toList = [s[0], s[1], s[2]] := by
  have e : s.data.toList = s.data.toList.drop 0 := by simp
  rw [e, toList_drop_cons s 0 (by omega), toList_drop_cons s 1 (by omega), toList_drop_cons s 2 (by omega), drop_all s 3 (by omega)]
theorem toList_4 (s : ByteArray) (h : 4 ≤ s.size) (h' : s.size ≤ 4) : s.data.toList = [s[0], s[1], s[2], s[3]] := by
  have e : s.data.toList = s.data.toList.drop 0 := by simp
  rw [e, toList_drop_cons s 0 (by omega), toList_drop_cons s 1 (by omega), toList_drop_cons s 2 (by omega), toList_drop_cons s 3 (by omega), drop_all s 4 (by omega)]
def ReckRel (s : ByteArray) (w : World) (i : Value) (wr : World) : Prop := ∃ j : Nat, i = .int .i64 j ∧ j ≤ s.size ∧ wr = w.alloc (.cells (reckC s j) 205)
set_option maxRecDepth 20000 in
set_option maxHeartbeats 1000000 in
theorem reckoned_any (s : ByteArray) (w : World) (h1 : 1 ≤ s.size) (h4 : s.size ≤ 4) :
    Calls Try.prog 140 #[.string s] w fun e w' => e = .returned (.int .i64 (reckL s.data.toList)) ∧ Below w.heap.size w w' := by
  go_enter Try.func140, Try.ntmps140
  go_wp2
  go_loopw [4] (fun i wr => ReckRel s w i wr) (fun i _ => s.size - (intOf i).toNat)
  case atStart => exact ⟨0, rfl, Nat.zero_le _, by rw [reckC_zero]⟩
  case round =>
    obtain ⟨j, rfl, hj, rfl⟩ := hrel
    by_cases hlt : j < s.size
    · have hx := reckC_get s j j (by omega)
      have hst := reckC_step s j (by omega) hlt
      have ub := ub s[j]
      have hj4 : j < 4 := by omega
      go_wp2
      exact ⟨⟨j + 1, by go_num, by omega, rfl⟩, by simp [intOf]; omega⟩
    · obtain ⟨k, hk⟩ : ∃ k, s.size = k := ⟨_, rfl⟩
      by_cases c1 : s.size = 1
      · have l1 : 1 ≤ s.size := by omega
        have l2 : s.size ≤ 1 := by omega
        clear c1 hk
        have t1 : ((s.size : Int) == 1) = true := by simp; omega
        have t2 : ((s.size : Int) == 2) = false := by simp; omega
        have t3 : ((s.size : Int) == 3) = false := by simp; omega
        have t4 : ((s.size : Int) == 4) = false := by simp; omega
        have b0 := ub s[0]
        have x0 : (reckC s j)[0]? = some (.int .i64 ((s[0].toNat : Int) - 128)) := by rw [reckC_get s j 0 (by omega)]; unfold reckAt; rw [dif_pos ⟨by omega, by omega⟩]
        have HR : Hid (reckL s.data.toList = (s[0].toNat : Int)) := by rw [toList_1 s l1 l2]; simp only [reckL, Hid] <;> omega
        go_wp2
        all_goals (go_ret; refine ⟨by rw [HR.out]; rfl, ?_⟩)
        repeat (first | exact Below.refl _ _ | refine bl_alloc ?_ _ | refine Below.drew ?_ | refine bl_drewN ?_ _ | refine bl_set ?_ (by first | (simp; done) | (simp; omega)) _ | refine bl_step ?_ (by assumption))
      by_cases c2 : s.size = 2
      · have l1 : 2 ≤ s.size := by omega
        have l2 : s.size ≤ 2 := by omega
        clear c2 hk
        have t1 : ((s.size : Int) == 1) = false := by simp; omega
        have t2 : ((s.size : Int) == 2) = true := by simp; omega
        have t3 : ((s.size : Int) == 3) = false := by simp; omega
        have t4 : ((s.size : Int) == 4) = false := by simp; omega
        have b0 := ub s[0]
        have x0 : (reckC s j)[0]? = some (.int .i64 ((s[0].toNat : Int) - 128)) := by rw [reckC_get s j 0 (by omega)]; unfold reckAt; rw [dif_pos ⟨by omega, by omega⟩]
        have b1 := ub s[1]
        have x1 : (reckC s j)[1]? = some (.int .i64 ((s[1].toNat : Int) - 128)) := by rw [reckC_get s j 1 (by omega)]; unfold reckAt; rw [dif_pos ⟨by omega, by omega⟩]
        have HR : Hid (reckL s.data.toList = ((s[0].toNat : Int) - 128 - 64) * 64 + ((s[1].toNat : Int) - 128)) := by rw [toList_2 s l1 l2]; simp only [reckL, Hid] <;> omega
        go_wp2
        all_goals (go_ret; refine ⟨by rw [HR.out]; rfl, ?_⟩)
        repeat (first | exact Below.refl _ _ | refine bl_alloc ?_ _ | refine Below.drew ?_ | refine bl_drewN ?_ _ | refine bl_set ?_ (by first | (simp; done) | (simp; omega)) _ | refine bl_step ?_ (by assumption))
      by_cases c3 : s.size = 3
      · have l1 : 3 ≤ s.size := by omega
        have l2 : s.size ≤ 3 := by omega
        clear c3 hk
        have t1 : ((s.size : Int) == 1) = false := by simp; omega
        have t2 : ((s.size : Int) == 2) = false := by simp; omega
        have t3 : ((s.size : Int) == 3) = true := by simp; omega
        have t4 : ((s.size : Int) == 4) = false := by simp; omega
        have b0 := ub s[0]
        have x0 : (reckC s j)[0]? = some (.int .i64 ((s[0].toNat : Int) - 128)) := by rw [reckC_get s j 0 (by omega)]; unfold reckAt; rw [dif_pos ⟨by omega, by omega⟩]
        have b1 := ub s[1]
        have x1 : (reckC s j)[1]? = some (.int .i64 ((s[1].toNat : Int) - 128)) := by rw [reckC_get s j 1 (by omega)]; unfold reckAt; rw [dif_pos ⟨by omega, by omega⟩]
        have b2 := ub s[2]
        have x2 : (reckC s j)[2]? = some (.int .i64 ((s[2].toNat : Int) - 128)) := by rw [reckC_get s j 2 (by omega)]; unfold reckAt; rw [dif_pos ⟨by omega, by omega⟩]
        have HR : Hid (reckL s.data.toList = ((s[0].toNat : Int) - 128 - 96) * 4096 + ((s[1].toNat : Int) - 128) * 64 + ((s[2].toNat : Int) - 128)) := by rw [toList_3 s l1 l2]; simp only [reckL, Hid] <;> omega
        go_wp2
        all_goals (go_ret; refine ⟨by rw [HR.out]; rfl, ?_⟩)
        repeat (first | exact Below.refl _ _ | refine bl_alloc ?_ _ | refine Below.drew ?_ | refine bl_drewN ?_ _ | refine bl_set ?_ (by first | (simp; done) | (simp; omega)) _ | refine bl_step ?_ (by assumption))
      by_cases c4 : s.size = 4
      · have l1 : 4 ≤ s.size := by omega
        have l2 : s.size ≤ 4 := by omega
        clear c4 hk
        have t1 : ((s.size : Int) == 1) = false := by simp; omega
        have t2 : ((s.size : Int) == 2) = false := by simp; omega
        have t3 : ((s.size : Int) == 3) = false := by simp; omega
        have t4 : ((s.size : Int) == 4) = true := by simp; omega
        have b0 := ub s[0]
        have x0 : (reckC s j)[0]? = some (.int .i64 ((s[0].toNat : Int) - 128)) := by rw [reckC_get s j 0 (by omega)]; unfold reckAt; rw [dif_pos ⟨by omega, by omega⟩]
        have b1 := ub s[1]
        have x1 : (reckC s j)[1]? = some (.int .i64 ((s[1].toNat : Int) - 128)) := by rw [reckC_get s j 1 (by omega)]; unfold reckAt; rw [dif_pos ⟨by omega, by omega⟩]
        have b2 := ub s[2]
        have x2 : (reckC s j)[2]? = some (.int .i64 ((s[2].toNat : Int) - 128)) := by rw [reckC_get s j 2 (by omega)]; unfold reckAt; rw [dif_pos ⟨by omega, by omega⟩]
        have b3 := ub s[3]
        have x3 : (reckC s j)[3]? = some (.int .i64 ((s[3].toNat : Int) - 128)) := by rw [reckC_get s j 3 (by omega)]; unfold reckAt; rw [dif_pos ⟨by omega, by omega⟩]
        have HR : Hid (reckL s.data.toList = ((s[0].toNat : Int) - 128 - 112) * 262144 + ((s[1].toNat : Int) - 128) * 4096 + ((s[2].toNat : Int) - 128) * 64 + ((s[3].toNat : Int) - 128)) := by rw [toList_4 s l1 l2]; simp only [reckL, Hid] <;> omega
        go_wp2
        all_goals (go_ret; refine ⟨by rw [HR.out]; rfl, ?_⟩)
        repeat (first | exact Below.refl _ _ | refine bl_alloc ?_ _ | refine Below.drew ?_ | refine bl_drewN ?_ _ | refine bl_set ?_ (by first | (simp; done) | (simp; omega)) _ | refine bl_step ?_ (by assumption))
      omega
theorem reckoned_at (s : ByteArray) (v : Int) (w : World) (h1 : 1 ≤ s.size) (h4 : s.size ≤ 4) (h : Hid (reckL s.data.toList = v)) :
    Calls Try.prog 140 #[.string s] w fun e w' => e = .returned (.int .i64 v) ∧ Below w.heap.size w w' := by
  have := reckoned_any s w h1 h4; rw [h.out] at this; exact this
/-- Do the bytes of a number, if it is a scalar, begin with others, and go on? -/
def beginsB (n : Int) (p : List UInt8) : Bool := decide (p.length < (encL n).length) && ((encL n).take p.length == p)
theorem encB_size (n : Int) : (encB n).size = (encL n).length := by rw [← encB_list, toList_length]
theorem begins_at (n : Int) (p : ByteArray) (b : Bool) (w : World) (hn : -2147483648 ≤ n) (hn2 : n ≤ 2147483647) (hp : p.size ≤ 4) (h : Hid (beginsB n p.data.toList = b)) :
    Calls Try.prog 179 #[.int .i64 n, .string p] w fun e w' => e = .returned (.bool b) ∧ Below w.heap.size w w' := by
  have hb := h.out
  have hl := encL_len n
  rw [← encB_size] at hl
  unfold beginsB at hb
  rw [toList_length, ← encB_size] at hb
  by_cases hlt : p.size < (encB n).size
  · have hq : (((encB n).extract 0 p.size).toList == p.toList) = b := by
      rw [← hb, ByteArray.toList_eq, ByteArray.toList_eq, extract_toList, encB_list]; simp [hlt]
    clear hb h
    go_enter Try.func179, Try.ntmps179
    go_wp2_with (go_at_call 142; refine (rencode_any _ _).mono ?_; rintro e w1 ⟨rfl, hb⟩)
    go_ret
    refine ⟨by rfl, ?_⟩
    repeat (first | exact Below.refl _ _ | refine bl_alloc ?_ _ | refine Below.drew ?_ | refine bl_drewN ?_ _ | refine bl_set ?_ (by first | (simp; done) | (simp; omega)) _ | refine bl_step ?_ (by assumption))
  · have hq : b = false := by rw [← hb]; simp [hlt]
    subst hq
    clear hb h
    go_enter Try.func179, Try.ntmps179
    go_wp2_with (go_at_call 142; refine (rencode_any _ _).mono ?_; rintro e w1 ⟨rfl, hb⟩)
    go_ret
    refine ⟨by rfl, ?_⟩
    repeat (first | exact Below.refl _ _ | refine bl_alloc ?_ _ | refine Below.drew ?_ | refine bl_drewN ?_ _ | refine bl_set ?_ (by first | (simp; done) | (simp; omega)) _ | refine bl_step ?_ (by assumption))
/-- Bytes, with so many others behind them, up to four. -/
def extL (c : UInt8) (p : List UInt8) (j : Nat) : List UInt8 := p ++ List.replicate (min j (4 - p.length)) c
def extB (c : UInt8) (p : ByteArray) (j : Nat) : ByteArray := ⟨(extL c p.data.toList j).toArray⟩
theorem extB_list (c : UInt8) (p : ByteArray) (j : Nat) : (extB c p j).data.toList = extL c p.data.toList j := by unfold extB; simp
theorem extB_size (c : UInt8) (p : ByteArray) (j : Nat) : (extB c p j).size = p.size + min j (4 - p.size) := by
  rw [← toList_length, extB_list]; unfold extL; rw [List.length_append, List.length_replicate, toList_length]
theorem extB_zero (c : UInt8) (p : ByteArray) : extB c p 0 = p := by unfold extB extL; simp
theorem extB_step (c : UInt8) (p : ByteArray) (j : Nat) (h : (extB c p j).size < 4) : extB c p j ++ ⟨#[c]⟩ = extB c p (j + 1) := by
  rw [extB_size] at h
  apply ByteArray.ext; apply Array.ext'
  have e1 : min (j + 1) (4 - p.data.toList.length) = min j (4 - p.data.toList.length) + 1 := by rw [toList_length]; omega
  simp only [ByteArray.data_append, Array.toList_append, extB_list, extL, e1, List.replicate_succ', List.append_assoc]
theorem extB_full (c : UInt8) (p : ByteArray) (j : Nat) (h : ¬ (extB c p j).size < 4) (hp : p.size ≤ 4) : extB c p j = extB c p (j + 1) := by
  rw [extB_size] at h
  unfold extB extL
  rw [toList_length, show min (j + 1) (4 - p.size) = min j (4 - p.size) by omega]
def chkB (p : List UInt8) (j : Nat) : Bool := decide (p.length < (extL 128 p j).length) && (beginsB (reckL (extL 128 p j)) p || beginsB (reckL (extL 191 p j)) p)
def leftFrom (p : List UInt8) (j : Nat) : Bool := (decide (j ≤ 0) && chkB p 0) || (decide (j ≤ 1) && chkB p 1) || (decide (j ≤ 2) && chkB p 2) || (decide (j ≤ 3) && chkB p 3)
theorem leftFrom_step (p : List UInt8) (j : Nat) (h : j < 4) : leftFrom p j = (chkB p j || leftFrom p (j + 1)) := by
  match j, h with
  | 0, _ => unfold leftFrom; cases chkB p 0 <;> simp
  | 1, _ => unfold leftFrom; cases chkB p 1 <;> simp
  | 2, _ => unfold leftFrom; cases chkB p 2 <;> simp
  | 3, _ => unfold leftFrom; cases chkB p 3 <;> simp
theorem leftFrom_4 (p : List UInt8) : leftFrom p 4 = false := by unfold leftFrom; simp
def LeftRel (p : ByteArray) (a z i : Value) : Prop := ∃ j : Nat, i = .int .i64 j ∧ a = .string (extB 128 p j) ∧ z = .string (extB 191 p j) ∧ j ≤ 4 ∧ leftFrom p.data.toList 0 = leftFrom p.data.toList j
theorem reckL_bd (l : List UInt8) : -2147483648 ≤ reckL l ∧ reckL l ≤ 2147483647 := by
  match l with
  | [] => decide
  | [a] => have := ub a; simp only [reckL]; omega
  | [a, b] => have := ub a; have := ub b; simp only [reckL]; omega
  | [a, b, c] => have := ub a; have := ub b; have := ub c; simp only [reckL]; omega
  | [a, b, c, d] => have := ub a; have := ub b; have := ub c; have := ub d; simp only [reckL]; omega
  | _ :: _ :: _ :: _ :: _ :: _ => simp only [reckL]; omega
set_option maxRecDepth 20000 in
set_option maxHeartbeats 4000000 in
theorem left_any (p : ByteArray) (w : World) (hp : 1 ≤ p.size) (hp4 : p.size ≤ 4) :
    Calls Try.prog 143 #[.string p] w fun e w' => e = .returned (.bool (leftFrom p.data.toList 0)) ∧ Below w.heap.size w w' := by
  go_enter Try.func143, Try.ntmps143
  go_wp2
  go_loopw [3, 4, 5] (fun a z i wr => LeftRel p a z i ∧ Below w.heap.size w wr) (fun _ _ i _ => 4 - (intOf i).toNat)
  case atStart => exact ⟨⟨0, rfl, by rw [extB_zero], by rw [extB_zero], by omega, rfl⟩, Below.refl _ _⟩
  case round =>
    obtain ⟨⟨j, rfl, rfl, rfl, hj, hr⟩, hb0⟩ := hrel
    by_cases hlt : j < 4
    · have s1 := extB_size 128 p j
      have s2 := extB_size 191 p j
      obtain ⟨ra, hra⟩ : ∃ r, reckL (extB 128 p j).data.toList = r := ⟨_, rfl⟩
      obtain ⟨rz, hrz⟩ : ∃ r, reckL (extB 191 p j).data.toList = r := ⟨_, rfl⟩
      obtain ⟨a1, a2⟩ := reckL_bd (extB 128 p j).data.toList
      obtain ⟨z1, z2⟩ := reckL_bd (extB 191 p j).data.toList
      rw [hra] at a1 a2
      rw [hrz] at z1 z2
      have e1 : 1 ≤ (extB 128 p j).size := by omega
      have e2 : (extB 128 p j).size ≤ 4 := by omega
      have e3 : 1 ≤ (extB 191 p j).size := by omega
      have e4 : (extB 191 p j).size ≤ 4 := by omega
      have hstep := leftFrom_step p.data.toList j hlt
      have hchk : chkB p.data.toList j = (decide (p.size < (extB 128 p j).size) && (beginsB ra p.data.toList || beginsB rz p.data.toList)) := by
        unfold chkB; rw [← extB_list, ← extB_list, hra, hrz, toList_length, toList_length]
      obtain ⟨ba, hba⟩ : ∃ b, beginsB ra p.data.toList = b := ⟨_, rfl⟩
      obtain ⟨bz, hbz⟩ : ∃ b, beginsB rz p.data.toList = b := ⟨_, rfl⟩
      rw [hba, hbz] at hchk
      have HA := Lib.hid hra
      have HZ := Lib.hid hrz
      have HBA := Lib.hid hba
      have HBZ := Lib.hid hbz
      clear hra hrz hba hbz
      have K4 : (extB 191 p j).size ≤ (extB 128 p j).size ∧ (extB 128 p j).size ≤ (extB 191 p j).size := by omega
      obtain ⟨k1, k2⟩ := K4
      by_cases hl : p.size < (extB 128 p j).size
      · simp only [hl, decide_true, Bool.true_and] at hchk
        cases ba
        · cases bz
          · have hn : leftFrom p.data.toList 0 = leftFrom p.data.toList (j + 1) := by rw [hr, hstep, hchk]; rfl
            have HN := Lib.hid hn
            by_cases h4 : (extB 128 p j).size < 4
            · have E1 := extB_step 128 p j h4
              have E2 := extB_step 191 p j (by omega)
              clear hr hstep hchk hn s1 s2
              go_wp2_with (first | (go_at_call 140; with_reducible refine (reckoned_at (extB 128 p j) _ _ e1 e2 HA).mono ?_; rintro e w1 ⟨rfl, hb⟩) | (go_at_call 140; with_reducible refine (reckoned_at (extB 191 p j) _ _ e3 e4 HZ).mono ?_; rintro e w1 ⟨rfl, hb⟩) | (go_at_call 179; with_reducible refine (begins_at ra _ _ _ a1 a2 hp4 HBA).mono ?_; rintro e w1 ⟨rfl, hb⟩) | (go_at_call 179; with_reducible refine (begins_at rz _ _ _ z1 z2 hp4 HBZ).mono ?_; rintro e w1 ⟨rfl, hb⟩))
              refine ⟨⟨⟨j + 1, by go_num, rfl, rfl, by omega, HN.out⟩, ?_⟩, by simp [intOf]; omega⟩
              repeat (first | exact Below.refl _ _ | refine bl_alloc ?_ _ | refine Below.drew ?_ | refine bl_drewN ?_ _ | refine bl_set ?_ (by first | (simp; done) | (simp; omega)) _ | refine bl_step ?_ (by assumption))
            · have F1 := Lib.hid (extB_full 128 p j h4 hp4)
              have F2 := Lib.hid (extB_full 191 p j (by omega) hp4)
              clear hr hstep hchk hn s1 s2
              go_wp2_with (first | (go_at_call 140; with_reducible refine (reckoned_at (extB 128 p j) _ _ e1 e2 HA).mono ?_; rintro e w1 ⟨rfl, hb⟩) | (go_at_call 140; with_reducible refine (reckoned_at (extB 191 p j) _ _ e3 e4 HZ).mono ?_; rintro e w1 ⟨rfl, hb⟩) | (go_at_call 179; with_reducible refine (begins_at ra _ _ _ a1 a2 hp4 HBA).mono ?_; rintro e w1 ⟨rfl, hb⟩) | (go_at_call 179; with_reducible refine (begins_at rz _ _ _ z1 z2 hp4 HBZ).mono ?_; rintro e w1 ⟨rfl, hb⟩))
              refine ⟨⟨⟨j + 1, by go_num, by rw [← F1.out], by rw [← F2.out], by omega, HN.out⟩, ?_⟩, by simp [intOf]; omega⟩
              repeat (first | exact Below.refl _ _ | refine bl_alloc ?_ _ | refine Below.drew ?_ | refine bl_drewN ?_ _ | refine bl_set ?_ (by first | (simp; done) | (simp; omega)) _ | refine bl_step ?_ (by assumption))
          · have HR : Hid (leftFrom p.data.toList 0 = true) := by rw [hr, hstep, hchk]; rfl
            clear hr hstep hchk s1 s2
            go_wp2_with (first | (go_at_call 140; with_reducible refine (reckoned_at (extB 128 p j) _ _ e1 e2 HA).mono ?_; rintro e w1 ⟨rfl, hb⟩) | (go_at_call 140; with_reducible refine (reckoned_at (extB 191 p j) _ _ e3 e4 HZ).mono ?_; rintro e w1 ⟨rfl, hb⟩) | (go_at_call 179; with_reducible refine (begins_at ra _ _ _ a1 a2 hp4 HBA).mono ?_; rintro e w1 ⟨rfl, hb⟩) | (go_at_call 179; with_reducible refine (begins_at rz _ _ _ z1 z2 hp4 HBZ).mono ?_; rintro e w1 ⟨rfl, hb⟩))
            go_ret
            refine ⟨by rw [HR.out]; rfl, ?_⟩
            repeat (first | exact Below.refl _ _ | refine bl_alloc ?_ _ | refine Below.drew ?_ | refine bl_drewN ?_ _ | refine bl_set ?_ (by first | (simp; done) | (simp; omega)) _ | refine bl_step ?_ (by assumption))
        · have HR : Hid (leftFrom p.data.toList 0 = true) := by rw [hr, hstep, hchk]; rfl
          clear hr hstep hchk s1 s2
          go_wp2_with (first | (go_at_call 140; with_reducible refine (reckoned_at (extB 128 p j) _ _ e1 e2 HA).mono ?_; rintro e w1 ⟨rfl, hb⟩) | (go_at_call 140; with_reducible refine (reckoned_at (extB 191 p j) _ _ e3 e4 HZ).mono ?_; rintro e w1 ⟨rfl, hb⟩) | (go_at_call 179; with_reducible refine (begins_at ra _ _ _ a1 a2 hp4 HBA).mono ?_; rintro e w1 ⟨rfl, hb⟩) | (go_at_call 179; with_reducible refine (begins_at rz _ _ _ z1 z2 hp4 HBZ).mono ?_; rintro e w1 ⟨rfl, hb⟩))
          go_ret
          refine ⟨by rw [HR.out]; rfl, ?_⟩
          repeat (first | exact Below.refl _ _ | refine bl_alloc ?_ _ | refine Below.drew ?_ | refine bl_drewN ?_ _ | refine bl_set ?_ (by first | (simp; done) | (simp; omega)) _ | refine bl_step ?_ (by assumption))
      · have hn : leftFrom p.data.toList 0 = leftFrom p.data.toList (j + 1) := by rw [hr, hstep, hchk]; simp [hl]
        have HN := Lib.hid hn
        by_cases h4 : (extB 128 p j).size < 4
        · have E1 := extB_step 128 p j h4
          have E2 := extB_step 191 p j (by omega)
          clear hr hstep hchk hn s1 s2
          go_wp2_with (first | (go_at_call 140; with_reducible refine (reckoned_at (extB 128 p j) _ _ e1 e2 HA).mono ?_; rintro e w1 ⟨rfl, hb⟩) | (go_at_call 140; with_reducible refine (reckoned_at (extB 191 p j) _ _ e3 e4 HZ).mono ?_; rintro e w1 ⟨rfl, hb⟩) | (go_at_call 179; with_reducible refine (begins_at ra _ _ _ a1 a2 hp4 HBA).mono ?_; rintro e w1 ⟨rfl, hb⟩) | (go_at_call 179; with_reducible refine (begins_at rz _ _ _ z1 z2 hp4 HBZ).mono ?_; rintro e w1 ⟨rfl, hb⟩))
          refine ⟨⟨⟨j + 1, by go_num, rfl, rfl, by omega, HN.out⟩, ?_⟩, by simp [intOf]; omega⟩
          repeat (first | exact Below.refl _ _ | refine bl_alloc ?_ _ | refine Below.drew ?_ | refine bl_drewN ?_ _ | refine bl_set ?_ (by first | (simp; done) | (simp; omega)) _ | refine bl_step ?_ (by assumption))
        · have F1 := Lib.hid (extB_full 128 p j h4 hp4)
          have F2 := Lib.hid (extB_full 191 p j (by omega) hp4)
          clear hr hstep hchk hn s1 s2
          go_wp2_with (first | (go_at_call 140; with_reducible refine (reckoned_at (extB 128 p j) _ _ e1 e2 HA).mono ?_; rintro e w1 ⟨rfl, hb⟩) | (go_at_call 140; with_reducible refine (reckoned_at (extB 191 p j) _ _ e3 e4 HZ).mono ?_; rintro e w1 ⟨rfl, hb⟩) | (go_at_call 179; with_reducible refine (begins_at ra _ _ _ a1 a2 hp4 HBA).mono ?_; rintro e w1 ⟨rfl, hb⟩) | (go_at_call 179; with_reducible refine (begins_at rz _ _ _ z1 z2 hp4 HBZ).mono ?_; rintro e w1 ⟨rfl, hb⟩))
          refine ⟨⟨⟨j + 1, by go_num, by rw [← F1.out], by rw [← F2.out], by omega, HN.out⟩, ?_⟩, by simp [intOf]; omega⟩
          repeat (first | exact Below.refl _ _ | refine bl_alloc ?_ _ | refine Below.drew ?_ | refine bl_drewN ?_ _ | refine bl_set ?_ (by first | (simp; done) | (simp; omega)) _ | refine bl_step ?_ (by assumption))
    · obtain rfl : j = 4 := by omega
      rw [leftFrom_4] at hr
      have HR := Lib.hid hr
      clear hr
      go_wp2
      go_ret
      refine ⟨by rw [HR.out]; rfl, ?_⟩
      repeat (first | exact Below.refl _ _ | refine bl_alloc ?_ _ | refine Below.drew ?_ | refine bl_drewN ?_ _ | refine bl_set ?_ (by first | (simp; done) | (simp; omega)) _ | refine bl_step ?_ (by assumption))
end Go.Proofs.Yteiejcililponaa
