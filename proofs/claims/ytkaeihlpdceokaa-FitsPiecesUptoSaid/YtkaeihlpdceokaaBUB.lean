/- BUB: texts of this proof, joined by program: Utf5, Utf6, Utf7. -/
import Derived.Test.YtkaeihlpdceokaaBU3
import Derived.Test.YtkaeihlpdceokaaBBA
import Derived.Test.YtkaeihlpdceokaaBPL
import Derived.Deep.RegionWith
import Derived.Deep.QuietTactic
import Derived.BigQuiet
/- Contracts: the reference's reckoned, begins, left. -/
set_option linter.unusedVariables false
set_option linter.unusedSimpArgs false
namespace Go.Proofs.Ytkaeihlpdceokaa
open Go.RowKit Bf
def reckAt (s : ByteArray) (j m : Nat) : Int := if h : m < j ∧ m < s.size then (s[m].toNat : Int) - 128 else 0
def reckC (s : ByteArray) (j : Nat) : Array Value := #[.int .i64 (reckAt s j 0), .int .i64 (reckAt s j 1), .int .i64 (reckAt s j 2), .int .i64 (reckAt s j 3)]
theorem reckC_get (s : ByteArray) (j m : Nat) (h : m < 4) : (reckC s j)[m]? = some (.int .i64 (reckAt s j m)) := by
 unfold reckC
 match m, h with
 | 0, _ => rfl
 | 1, _ => rfl
 | 2, _ => rfl
 | 3, _ => rfl
theorem reckC_step (s : ByteArray) (j : Nat) (h : j < 4) (hs : j < s.size) : (reckC s j).setIfInBounds j (.int .i64 ((s[j].toNat : Int) - 128)) = reckC s (j + 1) := by
 apply Array.ext_getElem?
 intro m
 rw [Array.getElem?_setIfInBounds]
 by_cases e : j = m
 · subst e
   rw [if_pos rfl, if_pos (by unfold reckC; simpa using h), reckC_get s (j + 1) j h]
   unfold reckAt; rw [dif_pos ⟨by omega, hs⟩]
 · rw [if_neg e]
   by_cases hm : m < 4
   · rw [reckC_get s j m hm, reckC_get s (j + 1) m hm]
     congr 2; unfold reckAt
     by_cases h1 : m < j ∧ m < s.size
     · rw [dif_pos h1, dif_pos ⟨by omega, h1.2⟩]
     · rw [dif_neg h1, dif_neg (by omega)]
   · rw [Array.getElem?_eq_none (by unfold reckC; simp; omega), Array.getElem?_eq_none (by unfold reckC; simp; omega)]
theorem reckC_zero (s : ByteArray) : reckC s 0 = #[.int .i64 0, .int .i64 0, .int .i64 0, .int .i64 0] := by
 unfold reckC reckAt; simp
theorem toList_1 (s : ByteArray) (h : 1 ≤ s.size) (h' : s.size ≤ 1) : s.data.toList = [s[0]] := by
 have e : s.data.toList = s.data.toList.drop 0 := by simp
 rw [e, toList_drop_cons s 0 (by omega), drop_all s 1 (by omega)]
theorem toList_2 (s : ByteArray) (h : 2 ≤ s.size) (h' : s.size ≤ 2) : s.data.toList = [s[0], s[1]] := by
 have e : s.data.toList = s.data.toList.drop 0 := by simp
 rw [e, toList_drop_cons s 0 (by omega), toList_drop_cons s 1 (by omega), drop_all s 2 (by omega)]
theorem toList_3 (s : ByteArray) (h : 3 ≤ s.size) (h' : s.size ≤ 3) : s.data.toList = [s[0], s[1], s[2]] := by
 have e : s.data.toList = s.data.toList.drop 0 := by simp
 rw [e, toList_drop_cons s 0 (by omega), toList_drop_cons s 1 (by omega), toList_drop_cons s 2 (by omega), drop_all s 3 (by omega)]
theorem toList_4 (s : ByteArray) (h : 4 ≤ s.size) (h' : s.size ≤ 4) : s.data.toList = [s[0], s[1], s[2], s[3]] := by
 have e : s.data.toList = s.data.toList.drop 0 := by simp
 rw [e, toList_drop_cons s 0 (by omega), toList_drop_cons s 1 (by omega), toList_drop_cons s 2 (by omega), toList_drop_cons s 3 (by omega), drop_all s 4 (by omega)]
def ReckRel (s : ByteArray) (w : World) (i : Value) (wr : World) : Prop := ∃ j : Nat, i = .int .i64 j ∧ j ≤ s.size ∧ wr = w.alloc (.cells (reckC s j) 61)
set_option maxRecDepth 20000 in
set_option maxHeartbeats 1000000 in
theorem reckoned_any (s : ByteArray) (w : World) (h1 : 1 ≤ s.size) (h4 : s.size ≤ 4) :
 Calls Try.prog 26 #[.string s] w fun e w' => e = .returned (.int .i64 (reckL s.data.toList)) ∧ Below w.heap.size w w' := by
 go_enter Try.func26, Try.ntmps26
 go_wp2
 go_loopw [4] (fun i wr => ReckRel s w i wr) (fun i _ => s.size - (intOf i).toNat)
 case atStart => exact ⟨0, rfl, Nat.zero_le _, by rw [reckC_zero]⟩
 case round =>
  obtain ⟨j, rfl, hj, rfl⟩ := hrel
  by_cases hlt : j < s.size
  · have hx := reckC_get s j j (by omega)
    have hst := reckC_step s j (by omega) hlt
    have ub := ub s[j]
    have hj4 : j < 4 := by omega
    go_wp2
    exact ⟨⟨j + 1, by go_num, by omega, rfl⟩, by simp [intOf]; omega⟩
  · obtain ⟨k, hk⟩ : ∃ k, s.size = k := ⟨_, rfl⟩
    by_cases c1 : s.size = 1
    · have l1 : 1 ≤ s.size := by omega
      have l2 : s.size ≤ 1 := by omega
      clear c1 hk
      have t1 : ((s.size : Int) == 1) = true := by simp; omega
      have t2 : ((s.size : Int) == 2) = false := by simp; omega
      have t3 : ((s.size : Int) == 3) = false := by simp; omega
      have t4 : ((s.size : Int) == 4) = false := by simp; omega
      have b0 := ub s[0]
      have x0 : (reckC s j)[0]? = some (.int .i64 ((s[0].toNat : Int) - 128)) := by rw [reckC_get s j 0 (by omega)]; unfold reckAt; rw [dif_pos ⟨by omega, by omega⟩]
      have HR : Hid (reckL s.data.toList = (s[0].toNat : Int)) := by rw [toList_1 s l1 l2]; simp only [reckL, Hid] <;> omega
      go_wp2
      all_goals (go_ret; refine ⟨by rw [HR.out]; rfl, ?_⟩)
      repeat (first | exact Below.refl _ _ | refine bl_alloc ?_ _ | refine Below.drew ?_ | refine bl_drewN ?_ _ | refine bl_set ?_ (by first | (simp; done) | (simp; omega)) _ | refine bl_step ?_ (by assumption))
    by_cases c2 : s.size = 2
    · have l1 : 2 ≤ s.size := by omega
      have l2 : s.size ≤ 2 := by omega
      clear c2 hk
      have t1 : ((s.size : Int) == 1) = false := by simp; omega
      have t2 : ((s.size : Int) == 2) = true := by simp; omega
      have t3 : ((s.size : Int) == 3) = false := by simp; omega
      have t4 : ((s.size : Int) == 4) = false := by simp; omega
      have b0 := ub s[0]
      have x0 : (reckC s j)[0]? = some (.int .i64 ((s[0].toNat : Int) - 128)) := by rw [reckC_get s j 0 (by omega)]; unfold reckAt; rw [dif_pos ⟨by omega, by omega⟩]
      have b1 := ub s[1]
      have x1 : (reckC s j)[1]? = some (.int .i64 ((s[1].toNat : Int) - 128)) := by rw [reckC_get s j 1 (by omega)]; unfold reckAt; rw [dif_pos ⟨by omega, by omega⟩]
      have HR : Hid (reckL s.data.toList = ((s[0].toNat : Int) - 128 - 64) * 64 + ((s[1].toNat : Int) - 128)) := by rw [toList_2 s l1 l2]; simp only [reckL, Hid] <;> omega
      go_wp2
      all_goals (go_ret; refine ⟨by rw [HR.out]; rfl, ?_⟩)
      repeat (first | exact Below.refl _ _ | refine bl_alloc ?_ _ | refine Below.drew ?_ | refine bl_drewN ?_ _ | refine bl_set ?_ (by first | (simp; done) | (simp; omega)) _ | refine bl_step ?_ (by assumption))
    by_cases c3 : s.size = 3
    · have l1 : 3 ≤ s.size := by omega
      have l2 : s.size ≤ 3 := by omega
      clear c3 hk
      have t1 : ((s.size : Int) == 1) = false := by simp; omega
      have t2 : ((s.size : Int) == 2) = false := by simp; omega
      have t3 : ((s.size : Int) == 3) = true := by simp; omega
      have t4 : ((s.size : Int) == 4) = false := by simp; omega
      have b0 := ub s[0]
      have x0 : (reckC s j)[0]? = some (.int .i64 ((s[0].toNat : Int) - 128)) := by rw [reckC_get s j 0 (by omega)]; unfold reckAt; rw [dif_pos ⟨by omega, by omega⟩]
      have b1 := ub s[1]
      have x1 : (reckC s j)[1]? = some (.int .i64 ((s[1].toNat : Int) - 128)) := by rw [reckC_get s j 1 (by omega)]; unfold reckAt; rw [dif_pos ⟨by omega, by omega⟩]
      have b2 := ub s[2]
      have x2 : (reckC s j)[2]? = some (.int .i64 ((s[2].toNat : Int) - 128)) := by rw [reckC_get s j 2 (by omega)]; unfold reckAt; rw [dif_pos ⟨by omega, by omega⟩]
      have HR : Hid (reckL s.data.toList = ((s[0].toNat : Int) - 128 - 96) * 4096 + ((s[1].toNat : Int) - 128) * 64 + ((s[2].toNat : Int) - 128)) := by rw [toList_3 s l1 l2]; simp only [reckL, Hid] <;> omega
      go_wp2
      all_goals (go_ret; refine ⟨by rw [HR.out]; rfl, ?_⟩)
      repeat (first | exact Below.refl _ _ | refine bl_alloc ?_ _ | refine Below.drew ?_ | refine bl_drewN ?_ _ | refine bl_set ?_ (by first | (simp; done) | (simp; omega)) _ | refine bl_step ?_ (by assumption))
    by_cases c4 : s.size = 4
    · have l1 : 4 ≤ s.size := by omega
      have l2 : s.size ≤ 4 := by omega
      clear c4 hk
      have t1 : ((s.size : Int) == 1) = false := by simp; omega
      have t2 : ((s.size : Int) == 2) = false := by simp; omega
      have t3 : ((s.size : Int) == 3) = false := by simp; omega
      have t4 : ((s.size : Int) == 4) = true := by simp; omega
      have b0 := ub s[0]
      have x0 : (reckC s j)[0]? = some (.int .i64 ((s[0].toNat : Int) - 128)) := by rw [reckC_get s j 0 (by omega)]; unfold reckAt; rw [dif_pos ⟨by omega, by omega⟩]
      have b1 := ub s[1]
      have x1 : (reckC s j)[1]? = some (.int .i64 ((s[1].toNat : Int) - 128)) := by rw [reckC_get s j 1 (by omega)]; unfold reckAt; rw [dif_pos ⟨by omega, by omega⟩]
      have b2 := ub s[2]
      have x2 : (reckC s j)[2]? = some (.int .i64 ((s[2].toNat : Int) - 128)) := by rw [reckC_get s j 2 (by omega)]; unfold reckAt; rw [dif_pos ⟨by omega, by omega⟩]
      have b3 := ub s[3]
      have x3 : (reckC s j)[3]? = some (.int .i64 ((s[3].toNat : Int) - 128)) := by rw [reckC_get s j 3 (by omega)]; unfold reckAt; rw [dif_pos ⟨by omega, by omega⟩]
      have HR : Hid (reckL s.data.toList = ((s[0].toNat : Int) - 128 - 112) * 262144 + ((s[1].toNat : Int) - 128) * 4096 + ((s[2].toNat : Int) - 128) * 64 + ((s[3].toNat : Int) - 128)) := by rw [toList_4 s l1 l2]; simp only [reckL, Hid] <;> omega
      go_wp2
      all_goals (go_ret; refine ⟨by rw [HR.out]; rfl, ?_⟩)
      repeat (first | exact Below.refl _ _ | refine bl_alloc ?_ _ | refine Below.drew ?_ | refine bl_drewN ?_ _ | refine bl_set ?_ (by first | (simp; done) | (simp; omega)) _ | refine bl_step ?_ (by assumption))
    omega
theorem reckoned_at (s : ByteArray) (v : Int) (w : World) (h1 : 1 ≤ s.size) (h4 : s.size ≤ 4) (h : Hid (reckL s.data.toList = v)) :
 Calls Try.prog 26 #[.string s] w fun e w' => e = .returned (.int .i64 v) ∧ Below w.heap.size w w' := by
 have := reckoned_any s w h1 h4; rw [h.out] at this; exact this
def beginsB (n : Int) (p : List UInt8) : Bool := decide (p.length < (encL n).length) && ((encL n).take p.length == p)
theorem encB_size (n : Int) : (encB n).size = (encL n).length := by rw [← encB_list, toList_length]
theorem begins_at (n : Int) (p : ByteArray) (b : Bool) (w : World) (hn : -2147483648 ≤ n) (hn2 : n ≤ 2147483647) (hp : p.size ≤ 4) (h : Hid (beginsB n p.data.toList = b)) :
 Calls Try.prog 35 #[.int .i64 n, .string p] w fun e w' => e = .returned (.bool b) ∧ Below w.heap.size w w' := by
 have hb := h.out
 have hl := encL_len n
 rw [← encB_size] at hl
 unfold beginsB at hb
 rw [toList_length, ← encB_size] at hb
 by_cases hlt : p.size < (encB n).size
 · have hq : (((encB n).extract 0 p.size).toList == p.toList) = b := by
    rw [← hb, ByteArray.toList_eq, ByteArray.toList_eq, extract_toList, encB_list]; simp [hlt]
   clear hb h
   go_enter Try.func35, Try.ntmps35
   go_wp2_with (go_at_call 28; refine (rencode_any _ _).mono ?_; rintro e w1 ⟨rfl, hb⟩)
   go_ret
   refine ⟨by rfl, ?_⟩
   repeat (first | exact Below.refl _ _ | refine bl_alloc ?_ _ | refine Below.drew ?_ | refine bl_drewN ?_ _ | refine bl_set ?_ (by first | (simp; done) | (simp; omega)) _ | refine bl_step ?_ (by assumption))
 · have hq : b = false := by rw [← hb]; simp [hlt]
   subst hq
   clear hb h
   go_enter Try.func35, Try.ntmps35
   go_wp2_with (go_at_call 28; refine (rencode_any _ _).mono ?_; rintro e w1 ⟨rfl, hb⟩)
   go_ret
   refine ⟨by rfl, ?_⟩
   repeat (first | exact Below.refl _ _ | refine bl_alloc ?_ _ | refine Below.drew ?_ | refine bl_drewN ?_ _ | refine bl_set ?_ (by first | (simp; done) | (simp; omega)) _ | refine bl_step ?_ (by assumption))
def extL (c : UInt8) (p : List UInt8) (j : Nat) : List UInt8 := p ++ List.replicate (min j (4 - p.length)) c
def extB (c : UInt8) (p : ByteArray) (j : Nat) : ByteArray := ⟨(extL c p.data.toList j).toArray⟩
theorem extB_list (c : UInt8) (p : ByteArray) (j : Nat) : (extB c p j).data.toList = extL c p.data.toList j := by unfold extB; simp
theorem extB_size (c : UInt8) (p : ByteArray) (j : Nat) : (extB c p j).size = p.size + min j (4 - p.size) := by
 rw [← toList_length, extB_list]; unfold extL; rw [List.length_append, List.length_replicate, toList_length]
theorem extB_zero (c : UInt8) (p : ByteArray) : extB c p 0 = p := by unfold extB extL; simp
theorem extB_step (c : UInt8) (p : ByteArray) (j : Nat) (h : (extB c p j).size < 4) : extB c p j ++ ⟨#[c]⟩ = extB c p (j + 1) := by
 rw [extB_size] at h
 apply ByteArray.ext; apply Array.ext'
 have e1 : min (j + 1) (4 - p.data.toList.length) = min j (4 - p.data.toList.length) + 1 := by rw [toList_length]; omega
 simp only [ByteArray.data_append, Array.toList_append, extB_list, extL, e1, List.replicate_succ', List.append_assoc]
theorem extB_full (c : UInt8) (p : ByteArray) (j : Nat) (h : ¬ (extB c p j).size < 4) (hp : p.size ≤ 4) : extB c p j = extB c p (j + 1) := by
 rw [extB_size] at h
 unfold extB extL
 rw [toList_length, show min (j + 1) (4 - p.size) = min j (4 - p.size) by omega]
def chkB (p : List UInt8) (j : Nat) : Bool := decide (p.length < (extL 128 p j).length) && (beginsB (reckL (extL 128 p j)) p || beginsB (reckL (extL 191 p j)) p)
def leftFrom (p : List UInt8) (j : Nat) : Bool := (decide (j ≤ 0) && chkB p 0) || (decide (j ≤ 1) && chkB p 1) || (decide (j ≤ 2) && chkB p 2) || (decide (j ≤ 3) && chkB p 3)
theorem leftFrom_step (p : List UInt8) (j : Nat) (h : j < 4) : leftFrom p j = (chkB p j || leftFrom p (j + 1)) := by
 match j, h with
 | 0, _ => unfold leftFrom; cases chkB p 0 <;> simp
 | 1, _ => unfold leftFrom; cases chkB p 1 <;> simp
 | 2, _ => unfold leftFrom; cases chkB p 2 <;> simp
 | 3, _ => unfold leftFrom; cases chkB p 3 <;> simp
theorem leftFrom_4 (p : List UInt8) : leftFrom p 4 = false := by unfold leftFrom; simp
def LeftRel (p : ByteArray) (a z i : Value) : Prop := ∃ j : Nat, i = .int .i64 j ∧ a = .string (extB 128 p j) ∧ z = .string (extB 191 p j) ∧ j ≤ 4 ∧ leftFrom p.data.toList 0 = leftFrom p.data.toList j
theorem reckL_bd (l : List UInt8) : -2147483648 ≤ reckL l ∧ reckL l ≤ 2147483647 := by
 match l with
 | [] => decide
 | [a] => have := ub a; simp only [reckL]; omega
 | [a, b] => have := ub a; have := ub b; simp only [reckL]; omega
 | [a, b, c] => have := ub a; have := ub b; have := ub c; simp only [reckL]; omega
 | [a, b, c, d] => have := ub a; have := ub b; have := ub c; have := ub d; simp only [reckL]; omega
 | _ :: _ :: _ :: _ :: _ :: _ => simp only [reckL]; omega
set_option maxRecDepth 20000 in
set_option maxHeartbeats 4000000 in
theorem left_any (p : ByteArray) (w : World) (hp : 1 ≤ p.size) (hp4 : p.size ≤ 4) :
 Calls Try.prog 29 #[.string p] w fun e w' => e = .returned (.bool (leftFrom p.data.toList 0)) ∧ Below w.heap.size w w' := by
 go_enter Try.func29, Try.ntmps29
 go_wp2
 go_loopw [3, 4, 5] (fun a z i wr => LeftRel p a z i ∧ Below w.heap.size w wr) (fun _ _ i _ => 4 - (intOf i).toNat)
 case atStart => exact ⟨⟨0, rfl, by rw [extB_zero], by rw [extB_zero], by omega, rfl⟩, Below.refl _ _⟩
 case round =>
  obtain ⟨⟨j, rfl, rfl, rfl, hj, hr⟩, hb0⟩ := hrel
  by_cases hlt : j < 4
  · have s1 := extB_size 128 p j
    have s2 := extB_size 191 p j
    obtain ⟨ra, hra⟩ : ∃ r, reckL (extB 128 p j).data.toList = r := ⟨_, rfl⟩
    obtain ⟨rz, hrz⟩ : ∃ r, reckL (extB 191 p j).data.toList = r := ⟨_, rfl⟩
    obtain ⟨a1, a2⟩ := reckL_bd (extB 128 p j).data.toList
    obtain ⟨z1, z2⟩ := reckL_bd (extB 191 p j).data.toList
    rw [hra] at a1 a2
    rw [hrz] at z1 z2
    have e1 : 1 ≤ (extB 128 p j).size := by omega
    have e2 : (extB 128 p j).size ≤ 4 := by omega
    have e3 : 1 ≤ (extB 191 p j).size := by omega
    have e4 : (extB 191 p j).size ≤ 4 := by omega
    have hstep := leftFrom_step p.data.toList j hlt
    have hchk : chkB p.data.toList j = (decide (p.size < (extB 128 p j).size) && (beginsB ra p.data.toList || beginsB rz p.data.toList)) := by
     unfold chkB; rw [← extB_list, ← extB_list, hra, hrz, toList_length, toList_length]
    obtain ⟨ba, hba⟩ : ∃ b, beginsB ra p.data.toList = b := ⟨_, rfl⟩
    obtain ⟨bz, hbz⟩ : ∃ b, beginsB rz p.data.toList = b := ⟨_, rfl⟩
    rw [hba, hbz] at hchk
    have HA := Lib.hid hra
    have HZ := Lib.hid hrz
    have HBA := Lib.hid hba
    have HBZ := Lib.hid hbz
    clear hra hrz hba hbz
    have K4 : (extB 191 p j).size ≤ (extB 128 p j).size ∧ (extB 128 p j).size ≤ (extB 191 p j).size := by omega
    obtain ⟨k1, k2⟩ := K4
    by_cases hl : p.size < (extB 128 p j).size
    · simp only [hl, decide_true, Bool.true_and] at hchk
      cases ba
      · cases bz
        · have hn : leftFrom p.data.toList 0 = leftFrom p.data.toList (j + 1) := by rw [hr, hstep, hchk]; rfl
          have HN := Lib.hid hn
          by_cases h4 : (extB 128 p j).size < 4
          · have E1 := extB_step 128 p j h4
            have E2 := extB_step 191 p j (by omega)
            clear hr hstep hchk hn s1 s2
            go_wp2_with (first | (go_at_call 26; with_reducible refine (reckoned_at (extB 128 p j) _ _ e1 e2 HA).mono ?_; rintro e w1 ⟨rfl, hb⟩) | (go_at_call 26; with_reducible refine (reckoned_at (extB 191 p j) _ _ e3 e4 HZ).mono ?_; rintro e w1 ⟨rfl, hb⟩) | (go_at_call 35; with_reducible refine (begins_at ra _ _ _ a1 a2 hp4 HBA).mono ?_; rintro e w1 ⟨rfl, hb⟩) | (go_at_call 35; with_reducible refine (begins_at rz _ _ _ z1 z2 hp4 HBZ).mono ?_; rintro e w1 ⟨rfl, hb⟩))
            refine ⟨⟨⟨j + 1, by go_num, rfl, rfl, by omega, HN.out⟩, ?_⟩, by simp [intOf]; omega⟩
            repeat (first | exact Below.refl _ _ | refine bl_alloc ?_ _ | refine Below.drew ?_ | refine bl_drewN ?_ _ | refine bl_set ?_ (by first | (simp; done) | (simp; omega)) _ | refine bl_step ?_ (by assumption))
          · have F1 := Lib.hid (extB_full 128 p j h4 hp4)
            have F2 := Lib.hid (extB_full 191 p j (by omega) hp4)
            clear hr hstep hchk hn s1 s2
            go_wp2_with (first | (go_at_call 26; with_reducible refine (reckoned_at (extB 128 p j) _ _ e1 e2 HA).mono ?_; rintro e w1 ⟨rfl, hb⟩) | (go_at_call 26; with_reducible refine (reckoned_at (extB 191 p j) _ _ e3 e4 HZ).mono ?_; rintro e w1 ⟨rfl, hb⟩) | (go_at_call 35; with_reducible refine (begins_at ra _ _ _ a1 a2 hp4 HBA).mono ?_; rintro e w1 ⟨rfl, hb⟩) | (go_at_call 35; with_reducible refine (begins_at rz _ _ _ z1 z2 hp4 HBZ).mono ?_; rintro e w1 ⟨rfl, hb⟩))
            refine ⟨⟨⟨j + 1, by go_num, by rw [← F1.out], by rw [← F2.out], by omega, HN.out⟩, ?_⟩, by simp [intOf]; omega⟩
            repeat (first | exact Below.refl _ _ | refine bl_alloc ?_ _ | refine Below.drew ?_ | refine bl_drewN ?_ _ | refine bl_set ?_ (by first | (simp; done) | (simp; omega)) _ | refine bl_step ?_ (by assumption))
        · have HR : Hid (leftFrom p.data.toList 0 = true) := by rw [hr, hstep, hchk]; rfl
          clear hr hstep hchk s1 s2
          go_wp2_with (first | (go_at_call 26; with_reducible refine (reckoned_at (extB 128 p j) _ _ e1 e2 HA).mono ?_; rintro e w1 ⟨rfl, hb⟩) | (go_at_call 26; with_reducible refine (reckoned_at (extB 191 p j) _ _ e3 e4 HZ).mono ?_; rintro e w1 ⟨rfl, hb⟩) | (go_at_call 35; with_reducible refine (begins_at ra _ _ _ a1 a2 hp4 HBA).mono ?_; rintro e w1 ⟨rfl, hb⟩) | (go_at_call 35; with_reducible refine (begins_at rz _ _ _ z1 z2 hp4 HBZ).mono ?_; rintro e w1 ⟨rfl, hb⟩))
          go_ret
          refine ⟨by rw [HR.out]; rfl, ?_⟩
          repeat (first | exact Below.refl _ _ | refine bl_alloc ?_ _ | refine Below.drew ?_ | refine bl_drewN ?_ _ | refine bl_set ?_ (by first | (simp; done) | (simp; omega)) _ | refine bl_step ?_ (by assumption))
      · have HR : Hid (leftFrom p.data.toList 0 = true) := by rw [hr, hstep, hchk]; rfl
        clear hr hstep hchk s1 s2
        go_wp2_with (first | (go_at_call 26; with_reducible refine (reckoned_at (extB 128 p j) _ _ e1 e2 HA).mono ?_; rintro e w1 ⟨rfl, hb⟩) | (go_at_call 26; with_reducible refine (reckoned_at (extB 191 p j) _ _ e3 e4 HZ).mono ?_; rintro e w1 ⟨rfl, hb⟩) | (go_at_call 35; with_reducible refine (begins_at ra _ _ _ a1 a2 hp4 HBA).mono ?_; rintro e w1 ⟨rfl, hb⟩) | (go_at_call 35; with_reducible refine (begins_at rz _ _ _ z1 z2 hp4 HBZ).mono ?_; rintro e w1 ⟨rfl, hb⟩))
        go_ret
        refine ⟨by rw [HR.out]; rfl, ?_⟩
        repeat (first | exact Below.refl _ _ | refine bl_alloc ?_ _ | refine Below.drew ?_ | refine bl_drewN ?_ _ | refine bl_set ?_ (by first | (simp; done) | (simp; omega)) _ | refine bl_step ?_ (by assumption))
    · have hn : leftFrom p.data.toList 0 = leftFrom p.data.toList (j + 1) := by rw [hr, hstep, hchk]; simp [hl]
      have HN := Lib.hid hn
      by_cases h4 : (extB 128 p j).size < 4
      · have E1 := extB_step 128 p j h4
        have E2 := extB_step 191 p j (by omega)
        clear hr hstep hchk hn s1 s2
        go_wp2_with (first | (go_at_call 26; with_reducible refine (reckoned_at (extB 128 p j) _ _ e1 e2 HA).mono ?_; rintro e w1 ⟨rfl, hb⟩) | (go_at_call 26; with_reducible refine (reckoned_at (extB 191 p j) _ _ e3 e4 HZ).mono ?_; rintro e w1 ⟨rfl, hb⟩) | (go_at_call 35; with_reducible refine (begins_at ra _ _ _ a1 a2 hp4 HBA).mono ?_; rintro e w1 ⟨rfl, hb⟩) | (go_at_call 35; with_reducible refine (begins_at rz _ _ _ z1 z2 hp4 HBZ).mono ?_; rintro e w1 ⟨rfl, hb⟩))
        refine ⟨⟨⟨j + 1, by go_num, rfl, rfl, by omega, HN.out⟩, ?_⟩, by simp [intOf]; omega⟩
        repeat (first | exact Below.refl _ _ | refine bl_alloc ?_ _ | refine Below.drew ?_ | refine bl_drewN ?_ _ | refine bl_set ?_ (by first | (simp; done) | (simp; omega)) _ | refine bl_step ?_ (by assumption))
      · have F1 := Lib.hid (extB_full 128 p j h4 hp4)
        have F2 := Lib.hid (extB_full 191 p j (by omega) hp4)
        clear hr hstep hchk hn s1 s2
        go_wp2_with (first | (go_at_call 26; with_reducible refine (reckoned_at (extB 128 p j) _ _ e1 e2 HA).mono ?_; rintro e w1 ⟨rfl, hb⟩) | (go_at_call 26; with_reducible refine (reckoned_at (extB 191 p j) _ _ e3 e4 HZ).mono ?_; rintro e w1 ⟨rfl, hb⟩) | (go_at_call 35; with_reducible refine (begins_at ra _ _ _ a1 a2 hp4 HBA).mono ?_; rintro e w1 ⟨rfl, hb⟩) | (go_at_call 35; with_reducible refine (begins_at rz _ _ _ z1 z2 hp4 HBZ).mono ?_; rintro e w1 ⟨rfl, hb⟩))
        refine ⟨⟨⟨j + 1, by go_num, by rw [← F1.out], by rw [← F2.out], by omega, HN.out⟩, ?_⟩, by simp [intOf]; omega⟩
        repeat (first | exact Below.refl _ _ | refine bl_alloc ?_ _ | refine Below.drew ?_ | refine bl_drewN ?_ _ | refine bl_set ?_ (by first | (simp; done) | (simp; omega)) _ | refine bl_step ?_ (by assumption))
  · obtain rfl : j = 4 := by omega
    rw [leftFrom_4] at hr
    have HR := Lib.hid hr
    clear hr
    go_wp2
    go_ret
    refine ⟨by rw [HR.out]; rfl, ?_⟩
    repeat (first | exact Below.refl _ _ | refine bl_alloc ?_ _ | refine Below.drew ?_ | refine bl_drewN ?_ _ | refine bl_set ?_ (by first | (simp; done) | (simp; omega)) _ | refine bl_step ?_ (by assumption))
end Go.Proofs.Ytkaeihlpdceokaa
/- Contracts: the reference's Decode. -/
namespace Go.Proofs.Ytkaeihlpdceokaa
open Go.RowKit Bf
theorem begins_true {n : Int} {p : List UInt8} (h : beginsB n p = true) : scalarB n = true ∧ ∃ r, r ≠ [] ∧ encL n = p ++ r := by
 unfold beginsB at h; simp at h
 obtain ⟨h1, h2⟩ := h
 refine ⟨?_, (encL n).drop p.length, ?_, ?_⟩
 · cases hs : scalarB n
   · rw [encL_no n hs] at h1; simp at h1
   · rfl
 · intro e; have := congrArg List.length e; simp at this; omega
 · have e := List.take_append_drop p.length (encL n); rw [h2] at e; exact e.symm
theorem begins_mk {n : Int} {p r : List UInt8} (h : encL n = p ++ r) (hr : r ≠ []) : beginsB n p = true := by
 unfold beginsB; rw [h]; simp; exact List.length_pos_iff.2 hr
theorem begins_2 {n : Int} {a b : UInt8} (h : beginsB n [a, b] = true) : 3 ≤ want a ∧ good2 a b := by
 obtain ⟨hs, r, hr, e⟩ := begins_true h
 have d := dec_enc n [] hs
 rw [List.append_nil, e] at d
 have hlen : 3 ≤ ([a, b] ++ r).length := by have := List.length_pos_iff.2 hr; simp; omega
 rcases want_cases a with ⟨h1, _⟩ | ⟨h1, _⟩ | ⟨h1, _⟩ | ⟨h1, _⟩ | ⟨h1, _⟩
 · rw [List.cons_append, decS_0 a _ h1] at d; simp at d
 · rw [List.cons_append, decS_1 a _ h1] at d; simp at d
 all_goals
  by_cases hg : good2 a b
  · first
     | (rw [List.cons_append, List.cons_append, decS_2 a b _ h1 hg] at d; simp at d; exact absurd d.2 (by simpa using hr))
     | exact ⟨by omega, hg⟩
  · rw [List.cons_append, List.cons_append, decS_bad2 a b _ (by omega) hg] at d; simp at d
theorem begins_3 {n : Int} {a b c : UInt8} (h : beginsB n [a, b, c] = true) : want a = 4 ∧ good2 a b ∧ cont c := by
 obtain ⟨hs, r, hr, e⟩ := begins_true h
 have d := dec_enc n [] hs
 rw [List.append_nil, e] at d
 rcases want_cases a with ⟨h1, _⟩ | ⟨h1, _⟩ | ⟨h1, _⟩ | ⟨h1, _⟩ | ⟨h1, _⟩
 · rw [List.cons_append, decS_0 a _ h1] at d; simp at d
 · rw [List.cons_append, decS_1 a _ h1] at d; simp at d
 all_goals
  by_cases hg : good2 a b
  · first
     | (rw [List.cons_append, List.cons_append, decS_2 a b _ h1 hg] at d; simp at d; done)
     | (rw [List.cons_append, List.cons_append, decS_2 a b _ h1 hg] at d; simp at d; omega)
     | (by_cases hc : cont c
        · first
           | exact ⟨h1, hg, hc⟩
           | (rw [List.cons_append, List.cons_append, List.cons_append, decS_3 a b c _ h1 hg hc] at d; simp at d; exact absurd d.2 (by simpa using hr))
        · rw [List.cons_append, List.cons_append, List.cons_append, decS_bad3 a b c _ (by omega) hg hc] at d; simp at d)
  · rw [List.cons_append, List.cons_append, decS_bad2 a b _ (by omega) hg] at d; simp at d
theorem isB_enc {p : List UInt8} (h : isB p = true) : encL (reckL p) = p := by unfold isB at h; simp at h; exact h.2
theorem left_2 (a b : UInt8) : leftFrom [a, b] 0 = decide (3 ≤ want a ∧ good2 a b) := by
 have c0 : chkB [a, b] 0 = false := by unfold chkB extL; simp
 have c1 : chkB [a, b] 1 = (beginsB (reckL [a, b, 128]) [a, b] || beginsB (reckL [a, b, 191]) [a, b]) := by unfold chkB extL; simp
 have c2 : chkB [a, b] 2 = (beginsB (reckL [a, b, 128, 128]) [a, b] || beginsB (reckL [a, b, 191, 191]) [a, b]) := by unfold chkB extL; simp
 have c3 : chkB [a, b] 3 = (beginsB (reckL [a, b, 128, 128]) [a, b] || beginsB (reckL [a, b, 191, 191]) [a, b]) := by unfold chkB extL; simp
 have k128 : cont 128 := by decide
 by_cases h : 3 ≤ want a ∧ good2 a b
 · have h4 : want a ≤ 4 := (leadS_bd a.toNat).2
   have : chkB [a, b] 1 = true ∨ chkB [a, b] 2 = true := by
    rcases (by omega : want a = 3 ∨ want a = 4) with e | e
    · have : isB [a, b, 128] = true := by rw [isB_3]; simp [e, h.2, k128]
      have hb := begins_mk (n := reckL [a, b, 128]) (p := [a, b]) (r := [128]) (isB_enc this) (by simp)
      left; rw [c1, hb, Bool.true_or]
    · have : isB [a, b, 128, 128] = true := by rw [isB_4]; simp [e, h.2, k128]
      have hb := begins_mk (n := reckL [a, b, 128, 128]) (p := [a, b]) (r := [128, 128]) (isB_enc this) (by simp)
      right; rw [c2, hb, Bool.true_or]
   unfold leftFrom; rcases this with e | e <;> rw [e] <;> simp [h]
 · have n1 : ∀ n, beginsB n [a, b] = false := by
    intro n; cases hb : beginsB n [a, b]
    · rfl
    · exact absurd (begins_2 hb) h
   unfold leftFrom; rw [c0, c1, c2, c3]; simp only [n1]; simp [h]
theorem left_3 (a b c : UInt8) : leftFrom [a, b, c] 0 = decide (want a = 4 ∧ good2 a b ∧ cont c) := by
 have c0 : chkB [a, b, c] 0 = false := by unfold chkB extL; simp
 have c1 : chkB [a, b, c] 1 = (beginsB (reckL [a, b, c, 128]) [a, b, c] || beginsB (reckL [a, b, c, 191]) [a, b, c]) := by unfold chkB extL; simp
 have c2 : chkB [a, b, c] 2 = (beginsB (reckL [a, b, c, 128]) [a, b, c] || beginsB (reckL [a, b, c, 191]) [a, b, c]) := by unfold chkB extL; simp
 have c3 : chkB [a, b, c] 3 = (beginsB (reckL [a, b, c, 128]) [a, b, c] || beginsB (reckL [a, b, c, 191]) [a, b, c]) := by unfold chkB extL; simp
 have k128 : cont 128 := by decide
 by_cases h : want a = 4 ∧ good2 a b ∧ cont c
 · have : isB [a, b, c, 128] = true := by rw [isB_4]; simp [h, k128]
   have hb := begins_mk (n := reckL [a, b, c, 128]) (p := [a, b, c]) (r := [128]) (isB_enc this) (by simp)
   rw [hb, Bool.true_or] at c1
   unfold leftFrom; rw [c1]; simp [h]
 · have n1 : ∀ n, beginsB n [a, b, c] = false := by
    intro n; cases hb : beginsB n [a, b, c]
    · rfl
    · exact absurd (begins_3 hb) h
   unfold leftFrom; rw [c0, c1, c2, c3]; simp only [n1]; simp [h]
def RefOk (l : List UInt8) (r : Int) (n : Nat) : Prop := (∀ m, 1 ≤ m → m < n → isB (l.take m) = false) ∧ isB (l.take n) = true ∧ reckL (l.take n) = r
def RefBad (l : List UInt8) (r : Int) (n : Nat) : Prop := r = 0 ∧ 1 ≤ n ∧ n ≤ 3 ∧ n ≤ l.length ∧ (∀ m, 1 ≤ m → m ≤ 4 → m ≤ l.length → isB (l.take m) = false)
 ∧ (2 ≤ l.length → leftFrom (l.take 2) 0 = decide (2 ≤ n)) ∧ (3 ≤ l.length → leftFrom (l.take 3) 0 = decide (n = 3))
theorem f1 (a : UInt8) (h : want a ≠ 1) : isB [a] = false := by rw [isB_1]; simp [h]
theorem f2 (a b : UInt8) (h : ¬ (want a = 2 ∧ good2 a b)) : isB [a, b] = false := by rw [isB_2]; simp only [h, decide_false]
theorem f3 (a b c : UInt8) (h : ¬ (want a = 3 ∧ good2 a b ∧ cont c)) : isB [a, b, c] = false := by rw [isB_3]; simp only [h, decide_false]
theorem f4 (a b c d : UInt8) (h : ¬ (want a = 4 ∧ good2 a b ∧ cont c ∧ cont d)) : isB [a, b, c, d] = false := by rw [isB_4]; simp only [h, decide_false]
theorem isB_upto (a : UInt8) (l : List UInt8) (h1 : want a ≠ 1) (h2 : ∀ b, l.head? = some b → ¬ (want a = 2 ∧ good2 a b))
 (h3 : ∀ b c, l.take 2 = [b, c] → ¬ (want a = 3 ∧ good2 a b ∧ cont c)) (h4 : ∀ b c d, l.take 3 = [b, c, d] → ¬ (want a = 4 ∧ good2 a b ∧ cont c ∧ cont d)) :
 ∀ m, 1 ≤ m → m ≤ 4 → m ≤ (a :: l).length → isB ((a :: l).take m) = false := by
 intro m x y z
 rcases (by omega : m = 1 ∨ m = 2 ∨ m = 3 ∨ m = 4) with rfl | rfl | rfl | rfl
 · simpa using f1 a h1
 · cases l with
   | nil => simp at z
   | cons b l => simpa using f2 a b (h2 b rfl)
 · cases l with
   | nil => simp at z
   | cons b l =>
    cases l with
    | nil => simp at z
    | cons c l => simpa using f3 a b c (h3 b c rfl)
 · cases l with
   | nil => simp at z
   | cons b l =>
    cases l with
    | nil => simp at z
    | cons c l =>
     cases l with
     | nil => simp at z
     | cons d l => simpa using f4 a b c d (h4 b c d rfl)
theorem lefts (a : UInt8) (l : List UInt8) (n : Nat) (h2 : ∀ b, l.head? = some b → ((3 ≤ want a ∧ good2 a b) ↔ 2 ≤ n)) (h3 : ∀ b c, l.take 2 = [b, c] → ((want a = 4 ∧ good2 a b ∧ cont c) ↔ n = 3)) :
 (2 ≤ (a :: l).length → leftFrom ((a :: l).take 2) 0 = decide (2 ≤ n)) ∧ (3 ≤ (a :: l).length → leftFrom ((a :: l).take 3) 0 = decide (n = 3)) := by
 refine ⟨fun z => ?_, fun z => ?_⟩
 · cases l with
   | nil => simp at z
   | cons b l =>
    have := left_2 a b
    simp only [List.take_succ_cons, List.take_zero]; rw [this]; exact decide_eq_decide.2 (h2 b rfl)
 · cases l with
   | nil => simp at z
   | cons b l =>
    cases l with
    | nil => simp at z
    | cons c l =>
     have := left_3 a b c
     simp only [List.take_succ_cons, List.take_zero]; rw [this]; exact decide_eq_decide.2 (h3 b c rfl)
theorem ref_dec (a : UInt8) (l : List UInt8) : ∃ r n ok, decS (a :: l) = (r, n, ok) ∧ n ≤ (a :: l).length ∧ 1 ≤ n ∧ n ≤ 4 ∧ (ok = true → RefOk (a :: l) r n) ∧ (ok = false → RefBad (a :: l) r n) := by
 have h4 : want a ≤ 4 := (leadS_bd a.toNat).2
 have h0 : 0 ≤ want a := (leadS_bd a.toNat).1
 by_cases w0 : want a = 0
 · refine ⟨_, _, _, decS_0 a l w0, by simp, by omega, by omega, (by simp), fun _ => ⟨rfl, by omega, by omega, by simp, isB_upto a l (by omega) (fun b _ h => by omega) (fun b c _ h => by omega) (fun b c d _ h => by omega), lefts a l 1 (fun b _ => ⟨fun h => by omega, fun h => by omega⟩) (fun b c _ => ⟨fun h => by omega, fun h => by omega⟩)⟩⟩
 by_cases w1 : want a = 1
 · refine ⟨_, _, _, decS_1 a l w1, by simp, by omega, by omega, fun _ => ⟨fun m x y => by omega, by simp [isB_1, w1], by simp [reckL]⟩, (by simp)⟩
 cases l with
 | nil =>
  refine ⟨_, _, _, decS_k1 a (by omega), by simp, by omega, by omega, (by simp), fun _ => ⟨rfl, by omega, by omega, by simp, isB_upto a [] w1 (fun b h => by simp at h) (fun b c h => by simp at h) (fun b c d h => by simp at h), lefts a [] 1 (fun b h => by simp at h) (fun b c h => by simp at h)⟩⟩
 | cons b l =>
  by_cases hg : good2 a b
  rotate_left
  · have hb : ∀ b', (b :: l).head? = some b' → ¬ good2 a b' := by intro b' e; simp at e; subst e; exact hg
    have hb2 : ∀ b' c, (b :: l).take 2 = [b', c] → ¬ good2 a b' := by intro b' c e; simp at e; rw [← e.1]; exact hg
    have hb3 : ∀ b' c d, (b :: l).take 3 = [b', c, d] → ¬ good2 a b' := by intro b' c d e; simp at e; rw [← e.1]; exact hg
    refine ⟨_, _, _, decS_bad2 a b l (by omega) hg, by simp, by omega, by omega, (by simp), fun _ => ⟨rfl, by omega, by omega, by simp, isB_upto a _ w1 (fun b e h => hb b e h.2) (fun b c e h => hb2 b c e h.2.1) (fun b c d e h => hb3 b c d e h.2.1), lefts a _ 1 (fun b e => ⟨fun h => absurd h.2 (hb b e), fun h => by omega⟩) (fun b c e => ⟨fun h => absurd h.2.1 (hb2 b c e), fun h => by omega⟩)⟩⟩
  by_cases w2 : want a = 2
  · refine ⟨_, _, _, decS_2 a b l w2 hg, by simp, by omega, by omega, fun _ => ⟨fun m x y => ?_, by simp [isB_2, w2, hg], by simp; exact reck_2 a b w2 hg⟩, (by simp)⟩
    obtain rfl : m = 1 := by omega
    simpa using f1 a w1
  cases l with
  | nil =>
   refine ⟨_, _, _, decS_k2 a b (by omega) hg, by simp, by omega, by omega, (by simp), fun _ => ⟨rfl, by omega, by omega, by simp, isB_upto a [b] w1 (fun b e h => w2 h.1) (fun b c h => by simp at h) (fun b c d h => by simp at h), lefts a [b] 2 (fun b' e => ⟨fun h => by omega, fun h => ⟨by omega, by simp at e; rw [← e]; exact hg⟩⟩) (fun b c h => by simp at h)⟩⟩
  | cons c l =>
   by_cases hc : cont c
   rotate_left
   · have hc2 : ∀ b' c', (b :: c :: l).take 2 = [b', c'] → ¬ cont c' := by intro b' c' e; simp at e; rw [← e.2]; exact hc
     have hc3 : ∀ b' c' d, (b :: c :: l).take 3 = [b', c', d] → ¬ cont c' := by intro b' c' d e; simp at e; rw [← e.2.1]; exact hc
     refine ⟨_, _, _, decS_bad3 a b c l (by omega) hg hc, by simp, by omega, by omega, (by simp), fun _ => ⟨rfl, by omega, by omega, by simp, isB_upto a _ w1 (fun b e h => w2 h.1) (fun b c e h => hc2 b c e h.2.2) (fun b c d e h => hc3 b c d e h.2.2.1), lefts a _ 2 (fun b' e => ⟨fun h => by omega, fun h => ⟨by omega, by simp at e; rw [← e]; exact hg⟩⟩) (fun b c e => ⟨fun h => absurd h.2.2 (hc2 b c e), fun h => by omega⟩)⟩⟩
   by_cases w3 : want a = 3
   · refine ⟨_, _, _, decS_3 a b c l w3 hg hc, by simp, by omega, by omega, fun _ => ⟨fun m x y => ?_, by simp [isB_3, w3, hg, hc], by simp; exact reck_3 a b c w3 hg hc⟩, (by simp)⟩
     rcases (by omega : m = 1 ∨ m = 2) with rfl | rfl
     · simpa using f1 a w1
     · simpa using f2 a b (fun h => w2 h.1)
   have w4 : want a = 4 := by omega
   cases l with
   | nil =>
    refine ⟨_, _, _, decS_k3 a b c w4 hg hc, by simp, by omega, by omega, (by simp), fun _ => ⟨rfl, by omega, by omega, by simp, isB_upto a [b, c] w1 (fun b e h => w2 h.1) (fun b c e h => w3 h.1) (fun b c d h => by simp at h), lefts a [b, c] 3 (fun b' e => ⟨fun h => by omega, fun h => ⟨by omega, by simp at e; rw [← e]; exact hg⟩⟩) (fun b' c' e => ⟨fun h => rfl, fun h => ⟨w4, by simp at e; rw [← e.1]; exact hg, by simp at e; rw [← e.2]; exact hc⟩⟩)⟩⟩
   | cons d l =>
    by_cases hd : cont d
    rotate_left
    · have hd3 : ∀ b' c' d', (b :: c :: d :: l).take 3 = [b', c', d'] → ¬ cont d' := by intro b' c' d' e; simp at e; rw [← e.2.2]; exact hd
      refine ⟨_, _, _, decS_bad4 a b c d l w4 hg hc hd, by simp, by omega, by omega, (by simp), fun _ => ⟨rfl, by omega, by omega, by simp, isB_upto a _ w1 (fun b e h => w2 h.1) (fun b c e h => w3 h.1) (fun b c d e h => hd3 b c d e h.2.2.2), lefts a _ 3 (fun b' e => ⟨fun h => by omega, fun h => ⟨by omega, by simp at e; rw [← e]; exact hg⟩⟩) (fun b' c' e => ⟨fun h => rfl, fun h => ⟨w4, by simp at e; rw [← e.1]; exact hg, by simp at e; rw [← e.2]; exact hc⟩⟩)⟩⟩
    · refine ⟨_, _, _, decS_4 a b c d l w4 hg hc hd, by simp, by omega, by omega, fun _ => ⟨fun m x y => ?_, by simp [isB_4, w4, hg, hc, hd], by simp; exact reck_4 a b c d w4 hg hc hd⟩, (by simp)⟩
      rcases (by omega : m = 1 ∨ m = 2 ∨ m = 3) with rfl | rfl | rfl
      · simpa using f1 a w1
      · simpa using f2 a b (fun h => w2 h.1)
      · simpa using f3 a b c (fun h => w3 h.1)
end Go.Proofs.Ytkaeihlpdceokaa
/- Contracts: the reference's Decode, walked. -/
namespace Go.Proofs.Ytkaeihlpdceokaa
open Go.RowKit Bf
set_option maxRecDepth 20000 in
set_option maxHeartbeats 1000000 in
theorem rdecode_out (s : ByteArray) (a : Int) (w : World) (hs : s.size ≤ maxLen) (ha : -9223372036854775808 ≤ a ∧ a ≤ 9223372036854775807) (h : a < 0 ∨ (s.size : Int) ≤ a) :
 Calls Try.prog 20 #[.string s, .int .i64 a] w fun e w' => e = .returned (decV (decAt s.data.toList a)) ∧ Below w.heap.size w w' := by
 unfold maxLen at hs
 have HO : Hid (decAt s.data.toList a = (0, 0, false)) := by unfold decAt; rw [if_pos (by rw [toList_length]; exact h)]; rfl
 obtain ⟨ha1, ha2⟩ := ha
 by_cases h0 : a < 0
 · clear h
   go_enter Try.func20, Try.ntmps20
   go_wp2
   all_goals (go_ret3; refine ⟨by rw [HO.out]; rfl, ?_⟩)
   repeat (first | exact Below.refl _ _ | refine bl_alloc ?_ _ | refine Below.drew ?_ | refine bl_drewN ?_ _ | refine bl_set ?_ (by first | (simp; done) | (simp; omega)) _ | refine bl_step ?_ (by assumption))
 · have h1 : (s.size : Int) ≤ a := by omega
   clear h
   go_enter Try.func20, Try.ntmps20
   go_wp2
   all_goals (go_ret3; refine ⟨by rw [HO.out]; rfl, ?_⟩)
   repeat (first | exact Below.refl _ _ | refine bl_alloc ?_ _ | refine Below.drew ?_ | refine bl_drewN ?_ _ | refine bl_set ?_ (by first | (simp; done) | (simp; omega)) _ | refine bl_step ?_ (by assumption))
theorem left_at (p : ByteArray) (b : Bool) (w : World) (hp : 1 ≤ p.size) (hp4 : p.size ≤ 4) (h : Hid (leftFrom p.data.toList 0 = b)) :
 Calls Try.prog 29 #[.string p] w fun e w' => e = .returned (.bool b) ∧ Below w.heap.size w w' := by
 have := left_any p w hp hp4; rw [h.out] at this; exact this
def RdRel2 (n : Nat) (m i : Value) : Prop := ∃ j : Nat, i = .int .i64 j ∧ 2 ≤ j ∧ j ≤ 4 ∧ m = .int .i64 (min n (j - 1) : Nat)
theorem rdRel2_start (n : Nat) (h : 1 ≤ n) : RdRel2 n (.int .i64 1) (.int .i64 2) := ⟨2, rfl, by omega, by omega, by rw [show min n (2 - 1) = 1 by omega]; rfl⟩
def RdRel (J : Nat) (i : Value) : Prop := ∃ j : Nat, i = .int .i64 j ∧ 1 ≤ j ∧ j ≤ J
set_option maxRecDepth 20000 in
set_option maxHeartbeats 2000000 in
theorem rdecode_in (s : ByteArray) (k : Nat) (w : World) (hs : s.size ≤ maxLen) (hk : k < s.size) :
 Calls Try.prog 20 #[.string s, .int .i64 k] w fun e w' => e = .returned (decV (decAt s.data.toList k)) ∧ Below w.heap.size w w' := by
 unfold maxLen at hs
 obtain ⟨t, ht⟩ : ∃ t, s.extract k s.size = t := ⟨_, rfl⟩
 have htl : t.data.toList = s.data.toList.drop k := by rw [← ht]; exact extract_rest s k
 have htn : t.size = s.size - k := by rw [← ht, ByteArray.size_extract]; omega
 have htn0 : 0 < t.size := by omega
 have hts : t.size ≤ 9223372036854775807 := by omega
 have hd : decAt s.data.toList k = decS t.data.toList := by unfold decAt; rw [if_neg (by rw [toList_length]; omega), htl]; rfl
 have hc := toList_drop_cons t 0 htn0
 rw [List.drop_zero] at hc
 obtain ⟨r, n, ok, hdec, hn1, hn2, hn3, hOk, hBad⟩ := ref_dec t[0] (t.data.toList.drop (0 + 1))
 rw [← hc] at hdec hn1 hOk hBad
 rw [toList_length] at hn1
 have HO : Hid (decAt s.data.toList k = (r, n, ok)) := by rw [hd]; exact hdec
 have q1 : decide ((k : Int) < 0) = false := by simp
 have q2 : decide (s.size ≤ k) = false := by simp; omega
 clear hd hc htl htn hdec
 cases ok
 · obtain ⟨e0, g1, g2, g3, g4, g5, g6⟩ := hBad rfl
   rw [toList_length] at g3 g4 g5 g6
   subst e0
   have O1 := Lib.hid g4
   have L2 := Lib.hid g5
   have L3 := Lib.hid g6
   obtain ⟨J, hJ⟩ : ∃ J, J = min 4 t.size + 1 := ⟨_, rfl⟩
   have J1 : J ≤ 5 := by omega
   have J2 : J ≤ t.size + 1 := by omega
   have J3 : 5 ≤ J ∨ t.size + 1 ≤ J := by omega
   have J4 : 1 ≤ J := by omega
   clear hOk hBad g4 g5 g6 hJ
   go_enter Try.func20, Try.ntmps20
   go_wp2
   go_loopw [7] (fun i wr => RdRel J i ∧ Below w.heap.size w wr) (fun i _ => 5 - (intOf i).toNat)
   case atStart => exact ⟨⟨1, rfl, by omega, by omega⟩, Below.refl _ _⟩
   case round =>
    obtain ⟨⟨j, rfl, h1, h2⟩, hb0⟩ := hrel
    by_cases hj : j < J
    · have hj4 : j ≤ 4 := by omega
      have hjt : j ≤ t.size := by omega
      have hf := O1.out j h1 hj4 hjt
      obtain ⟨v, hv⟩ : ∃ v, reckL (t.extract 0 j).data.toList = v := ⟨_, rfl⟩
      have HV := Lib.hid hv
      have hx1 : 1 ≤ (t.extract 0 j).size := by rw [ByteArray.size_extract]; omega
      have hx2 : (t.extract 0 j).size ≤ 4 := by rw [ByteArray.size_extract]; omega
      obtain ⟨v1, v2⟩ := reckL_bd (t.extract 0 j).data.toList
      rw [hv] at v1 v2
      have hex : (t.extract 0 j).data.toList = t.data.toList.take j := by rw [extract_toList]; rfl
      have hisB : isB (t.data.toList.take j) = (scalarB v && encL v == t.data.toList.take j) := by unfold isB; rw [← hex, hv]
      obtain ⟨sc, hsc⟩ : ∃ b, scalarB v = b := ⟨_, rfl⟩
      have HS := Lib.hid hsc
      rw [hsc] at hisB
      rw [hisB] at hf
      have hEq : sc = true → ((encB v).toList == (t.extract 0 j).toList) = false := by
       intro e; rw [e, Bool.true_and] at hf; rw [ByteArray.toList_eq, ByteArray.toList_eq, encB_list, hex]; exact hf
      clear hf hisB hex hv hsc
      cases sc
      · clear hEq
        go_wp2_with (go_at_call 26; refine (reckoned_at _ _ _ hx1 hx2 HV).mono ?_; rintro e w1 ⟨rfl, hb⟩)
        go_quiet ((go_at_call 27; exact Calls.quiet_of_same ((rscalar_at _ _ _ HS).mono fun e w' h => ⟨h.1, h.2.symm⟩)))
        all_goals go_wp2
        all_goals refine ⟨⟨⟨j + 1, by go_num, by omega, by omega⟩, ?_⟩, by simp [intOf]; omega⟩
        repeat (first | exact Below.refl _ _ | refine bl_alloc ?_ _ | refine Below.drew ?_ | refine bl_drewN ?_ _ | refine bl_set ?_ (by first | (simp; done) | (simp; omega)) _ | refine bl_step ?_ (by assumption))
      · have hEq := hEq rfl
        go_wp2_with (go_at_call 26; refine (reckoned_at _ _ _ hx1 hx2 HV).mono ?_; rintro e w1 ⟨rfl, hb⟩)
        go_region_with (first | (go_at_call 27; refine (rscalar_at _ _ _ HS).mono ?_; rintro e w1 ⟨rfl, rfl⟩) | (go_at_call 28; refine (rencode_any _ _).mono ?_; rintro e w1 ⟨rfl, hb⟩))
        all_goals go_wp2
        all_goals refine ⟨⟨⟨j + 1, by go_num, by omega, by omega⟩, ?_⟩, by simp [intOf]; omega⟩
        repeat (first | exact Below.refl _ _ | refine bl_alloc ?_ _ | refine Below.drew ?_ | refine bl_drewN ?_ _ | refine bl_set ?_ (by first | (simp; done) | (simp; omega)) _ | refine bl_step ?_ (by assumption))
    · by_cases hj5 : j < 5
      · have hjt : t.size < j := by omega
        have q3 : decide ((j : Int) < 5) = true := by simp; omega
        have q4 : decide (j ≤ t.size) = false := by simp; omega
        go_wp2
        go_loopw [9, 10] (fun m i wr => RdRel2 n m i ∧ Below w.heap.size w wr) (fun _ i _ => 4 - (intOf i).toNat)
        case atStart => exact ⟨rdRel2_start n (by omega), hb0⟩
        case round =>
         obtain ⟨⟨i, rfl, i1, i2, rfl⟩, hb1⟩ := hrel
         obtain ⟨M, hM⟩ : ∃ M, min n (i - 1) = M := ⟨_, rfl⟩
         rw [hM]
         by_cases hi : i < 4 ∧ i ≤ t.size
         · obtain ⟨hi4, hit⟩ := hi
           have hy1 : 1 ≤ (t.extract 0 i).size := by rw [ByteArray.size_extract]; omega
           have hy2 : (t.extract 0 i).size ≤ 4 := by rw [ByteArray.size_extract]; omega
           have hlf : leftFrom (t.extract 0 i).data.toList 0 = decide (i ≤ n) := by
            have : (t.extract 0 i).data.toList = t.data.toList.take i := by rw [extract_toList]; rfl
            rw [this]
            rcases (by omega : i = 2 ∨ i = 3) with rfl | rfl
            · exact L2.out hit
            · rw [L3.out hit]; exact decide_eq_decide.2 (by omega)
           have HLF := Lib.hid hlf
           by_cases hin : i ≤ n
           · have hb : decide (i ≤ n) = true := by simp [hin]
             have HL : Hid (leftFrom (t.extract 0 i).data.toList 0 = true) := by rw [hlf]; exact hb
             have HM : Hid (min n (i + 1 - 1) = i) := by show min n (i + 1 - 1) = i; omega
             clear hlf hb hM
             go_wp2_with (go_at_call 29; refine (left_at _ _ _ hy1 hy2 HL).mono ?_; rintro e w1 ⟨rfl, hb⟩)
             refine ⟨⟨⟨i + 1, by go_num, by omega, by omega, by rw [HM.out]⟩, ?_⟩, by simp [intOf]; omega⟩
             repeat (first | exact Below.refl _ _ | refine bl_alloc ?_ _ | refine Below.drew ?_ | refine bl_drewN ?_ _ | refine bl_set ?_ (by first | (simp; done) | (simp; omega)) _ | refine bl_step ?_ (by assumption))
           · have hb : decide (i ≤ n) = false := by simp; omega
             have HL : Hid (leftFrom (t.extract 0 i).data.toList 0 = false) := by rw [hlf]; exact hb
             have HM : Hid (min n (i + 1 - 1) = M) := by show min n (i + 1 - 1) = M; omega
             clear hlf hb hM
             go_wp2_with (go_at_call 29; refine (left_at _ _ _ hy1 hy2 HL).mono ?_; rintro e w1 ⟨rfl, hb⟩)
             refine ⟨⟨⟨i + 1, by go_num, by omega, by omega, by rw [HM.out]⟩, ?_⟩, by simp [intOf]; omega⟩
             repeat (first | exact Below.refl _ _ | refine bl_alloc ?_ _ | refine Below.drew ?_ | refine bl_drewN ?_ _ | refine bl_set ?_ (by first | (simp; done) | (simp; omega)) _ | refine bl_step ?_ (by assumption))
         · obtain rfl : n = M := by omega
           clear hM
           by_cases hi4 : i < 4
           · have hit : t.size < i := by omega
             clear hi
             go_wp2
             all_goals (go_ret3; refine ⟨by rw [HO.out]; rfl, ?_⟩)
             repeat (first | exact Below.refl _ _ | refine bl_alloc ?_ _ | refine Below.drew ?_ | refine bl_drewN ?_ _ | refine bl_set ?_ (by first | (simp; done) | (simp; omega)) _ | refine bl_step ?_ (by assumption))
           · have hi4' : 4 ≤ i := by omega
             clear hi
             go_wp2
             all_goals (go_ret3; refine ⟨by rw [HO.out]; rfl, ?_⟩)
             repeat (first | exact Below.refl _ _ | refine bl_alloc ?_ _ | refine Below.drew ?_ | refine bl_drewN ?_ _ | refine bl_set ?_ (by first | (simp; done) | (simp; omega)) _ | refine bl_step ?_ (by assumption))
      · have hj5' : 5 ≤ j := by omega
        have q3 : decide ((j : Int) < 5) = false := by simp; omega
        go_wp2
        go_loopw [9, 10] (fun m i wr => RdRel2 n m i ∧ Below w.heap.size w wr) (fun _ i _ => 4 - (intOf i).toNat)
        case atStart => exact ⟨rdRel2_start n (by omega), hb0⟩
        case round =>
         obtain ⟨⟨i, rfl, i1, i2, rfl⟩, hb1⟩ := hrel
         obtain ⟨M, hM⟩ : ∃ M, min n (i - 1) = M := ⟨_, rfl⟩
         rw [hM]
         by_cases hi : i < 4 ∧ i ≤ t.size
         · obtain ⟨hi4, hit⟩ := hi
           have hy1 : 1 ≤ (t.extract 0 i).size := by rw [ByteArray.size_extract]; omega
           have hy2 : (t.extract 0 i).size ≤ 4 := by rw [ByteArray.size_extract]; omega
           have hlf : leftFrom (t.extract 0 i).data.toList 0 = decide (i ≤ n) := by
            have : (t.extract 0 i).data.toList = t.data.toList.take i := by rw [extract_toList]; rfl
            rw [this]
            rcases (by omega : i = 2 ∨ i = 3) with rfl | rfl
            · exact L2.out hit
            · rw [L3.out hit]; exact decide_eq_decide.2 (by omega)
           have HLF := Lib.hid hlf
           by_cases hin : i ≤ n
           · have hb : decide (i ≤ n) = true := by simp [hin]
             have HL : Hid (leftFrom (t.extract 0 i).data.toList 0 = true) := by rw [hlf]; exact hb
             have HM : Hid (min n (i + 1 - 1) = i) := by show min n (i + 1 - 1) = i; omega
             clear hlf hb hM
             go_wp2_with (go_at_call 29; refine (left_at _ _ _ hy1 hy2 HL).mono ?_; rintro e w1 ⟨rfl, hb⟩)
             refine ⟨⟨⟨i + 1, by go_num, by omega, by omega, by rw [HM.out]⟩, ?_⟩, by simp [intOf]; omega⟩
             repeat (first | exact Below.refl _ _ | refine bl_alloc ?_ _ | refine Below.drew ?_ | refine bl_drewN ?_ _ | refine bl_set ?_ (by first | (simp; done) | (simp; omega)) _ | refine bl_step ?_ (by assumption))
           · have hb : decide (i ≤ n) = false := by simp; omega
             have HL : Hid (leftFrom (t.extract 0 i).data.toList 0 = false) := by rw [hlf]; exact hb
             have HM : Hid (min n (i + 1 - 1) = M) := by show min n (i + 1 - 1) = M; omega
             clear hlf hb hM
             go_wp2_with (go_at_call 29; refine (left_at _ _ _ hy1 hy2 HL).mono ?_; rintro e w1 ⟨rfl, hb⟩)
             refine ⟨⟨⟨i + 1, by go_num, by omega, by omega, by rw [HM.out]⟩, ?_⟩, by simp [intOf]; omega⟩
             repeat (first | exact Below.refl _ _ | refine bl_alloc ?_ _ | refine Below.drew ?_ | refine bl_drewN ?_ _ | refine bl_set ?_ (by first | (simp; done) | (simp; omega)) _ | refine bl_step ?_ (by assumption))
         · obtain rfl : n = M := by omega
           clear hM
           by_cases hi4 : i < 4
           · have hit : t.size < i := by omega
             clear hi
             go_wp2
             all_goals (go_ret3; refine ⟨by rw [HO.out]; rfl, ?_⟩)
             repeat (first | exact Below.refl _ _ | refine bl_alloc ?_ _ | refine Below.drew ?_ | refine bl_drewN ?_ _ | refine bl_set ?_ (by first | (simp; done) | (simp; omega)) _ | refine bl_step ?_ (by assumption))
           · have hi4' : 4 ≤ i := by omega
             clear hi
             go_wp2
             all_goals (go_ret3; refine ⟨by rw [HO.out]; rfl, ?_⟩)
             repeat (first | exact Below.refl _ _ | refine bl_alloc ?_ _ | refine Below.drew ?_ | refine bl_drewN ?_ _ | refine bl_set ?_ (by first | (simp; done) | (simp; omega)) _ | refine bl_step ?_ (by assumption))
 · obtain ⟨o1, o2, o3⟩ := hOk rfl
   have O1 := Lib.hid o1
   have O2 := Lib.hid o2
   have O3 := Lib.hid o3
   clear hOk hBad o1 o2 o3
   go_enter Try.func20, Try.ntmps20
   go_wp2
   go_loopw [7] (fun i wr => RdRel n i ∧ Below w.heap.size w wr) (fun i _ => 5 - (intOf i).toNat)
   case atStart => exact ⟨⟨1, rfl, by omega, by omega⟩, Below.refl _ _⟩
   case round =>
    obtain ⟨⟨j, rfl, h1, h2⟩, hb0⟩ := hrel
    by_cases hj : j < n
    · have hf := O1.out j h1 hj
      obtain ⟨v, hv⟩ : ∃ v, reckL (t.extract 0 j).data.toList = v := ⟨_, rfl⟩
      have HV := Lib.hid hv
      have hx1 : 1 ≤ (t.extract 0 j).size := by rw [ByteArray.size_extract]; omega
      have hx2 : (t.extract 0 j).size ≤ 4 := by rw [ByteArray.size_extract]; omega
      obtain ⟨v1, v2⟩ := reckL_bd (t.extract 0 j).data.toList
      rw [hv] at v1 v2
      have hex : (t.extract 0 j).data.toList = t.data.toList.take j := by rw [extract_toList]; rfl
      have hisB : isB (t.data.toList.take j) = (scalarB v && encL v == t.data.toList.take j) := by unfold isB; rw [← hex, hv]
      obtain ⟨sc, hsc⟩ : ∃ b, scalarB v = b := ⟨_, rfl⟩
      have HS := Lib.hid hsc
      rw [hsc] at hisB
      rw [hisB] at hf
      have hEq : sc = true → ((encB v).toList == (t.extract 0 j).toList) = false := by
       intro e; rw [e, Bool.true_and] at hf; rw [ByteArray.toList_eq, ByteArray.toList_eq, encB_list, hex]; exact hf
      clear hf hisB hex hv hsc
      cases sc
      · clear hEq
        go_wp2_with (go_at_call 26; refine (reckoned_at _ _ _ hx1 hx2 HV).mono ?_; rintro e w1 ⟨rfl, hb⟩)
        go_quiet ((go_at_call 27; exact Calls.quiet_of_same ((rscalar_at _ _ _ HS).mono fun e w' h => ⟨h.1, h.2.symm⟩)))
        all_goals go_wp2
        all_goals refine ⟨⟨⟨j + 1, by go_num, by omega, by omega⟩, ?_⟩, by simp [intOf]; omega⟩
        repeat (first | exact Below.refl _ _ | refine bl_alloc ?_ _ | refine Below.drew ?_ | refine bl_drewN ?_ _ | refine bl_set ?_ (by first | (simp; done) | (simp; omega)) _ | refine bl_step ?_ (by assumption))
      · have hEq := hEq rfl
        go_wp2_with (go_at_call 26; refine (reckoned_at _ _ _ hx1 hx2 HV).mono ?_; rintro e w1 ⟨rfl, hb⟩)
        go_region_with (first | (go_at_call 27; refine (rscalar_at _ _ _ HS).mono ?_; rintro e w1 ⟨rfl, rfl⟩) | (go_at_call 28; refine (rencode_any _ _).mono ?_; rintro e w1 ⟨rfl, hb⟩))
        all_goals go_wp2
        all_goals refine ⟨⟨⟨j + 1, by go_num, by omega, by omega⟩, ?_⟩, by simp [intOf]; omega⟩
        repeat (first | exact Below.refl _ _ | refine bl_alloc ?_ _ | refine Below.drew ?_ | refine bl_drewN ?_ _ | refine bl_set ?_ (by first | (simp; done) | (simp; omega)) _ | refine bl_step ?_ (by assumption))
    · obtain rfl : j = n := by omega
      have hf := O2.out
      obtain ⟨v, hv⟩ : ∃ v, reckL (t.extract 0 j).data.toList = v := ⟨_, rfl⟩
      have HV := Lib.hid hv
      have hx1 : 1 ≤ (t.extract 0 j).size := by rw [ByteArray.size_extract]; omega
      have hx2 : (t.extract 0 j).size ≤ 4 := by rw [ByteArray.size_extract]; omega
      obtain ⟨v1, v2⟩ := reckL_bd (t.extract 0 j).data.toList
      rw [hv] at v1 v2
      have hex : (t.extract 0 j).data.toList = t.data.toList.take j := by rw [extract_toList]; rfl
      have hisB : isB (t.data.toList.take j) = (scalarB v && encL v == t.data.toList.take j) := by unfold isB; rw [← hex, hv]
      obtain ⟨sc, hsc⟩ : ∃ b, scalarB v = b := ⟨_, rfl⟩
      have HS := Lib.hid hsc
      rw [hsc] at hisB
      rw [hisB, Bool.and_eq_true] at hf
      obtain ⟨f1, f2⟩ := hf
      subst f1
      have hEq : ((encB v).toList == (t.extract 0 j).toList) = true := by
       rw [ByteArray.toList_eq, ByteArray.toList_eq, encB_list, hex]; exact f2
      have hvr : v = r := by rw [← O3.out, ← hex, hv]
      subst hvr
      clear hisB hex hv f2 hsc
      go_wp2_with (go_at_call 26; refine (reckoned_at _ _ _ hx1 hx2 HV).mono ?_; rintro e w1 ⟨rfl, hb⟩)
      go_region_with (first | (go_at_call 27; refine (rscalar_at _ _ _ HS).mono ?_; rintro e w1 ⟨rfl, rfl⟩) | (go_at_call 28; refine (rencode_any _ _).mono ?_; rintro e w1 ⟨rfl, hb⟩))
      all_goals go_wp2
      all_goals (go_ret3; refine ⟨by rw [HO.out]; rfl, ?_⟩)
      repeat (first | exact Below.refl _ _ | refine bl_alloc ?_ _ | refine Below.drew ?_ | refine bl_drewN ?_ _ | refine bl_set ?_ (by first | (simp; done) | (simp; omega)) _ | refine bl_step ?_ (by assumption))
theorem rdecode_any (s : ByteArray) (a : Int) (w : World) (hs : s.size ≤ maxLen) (ha : -9223372036854775808 ≤ a ∧ a ≤ 9223372036854775807) :
 Calls Try.prog 20 #[.string s, .int .i64 a] w fun e w' => e = .returned (decV (decAt s.data.toList a)) ∧ Below w.heap.size w w' := by
 by_cases h : a < 0 ∨ (s.size : Int) ≤ a
 · exact rdecode_out s a w hs ha h
 · obtain ⟨k, rfl⟩ := Int.eq_ofNat_of_zero_le (show 0 ≤ a by omega)
   exact rdecode_in s k w hs (by omega)
theorem rdecode_at (s : ByteArray) (a r : Int) (n : Nat) (b : Bool) (w : World) (hs : s.size ≤ maxLen) (ha : -9223372036854775808 ≤ a ∧ a ≤ 9223372036854775807)
 (h : Hid (decAt s.data.toList a = (r, n, b))) :
 Calls Try.prog 20 #[.string s, .int .i64 a] w fun e w' => e = .returned (.tuple #[.int .i32 r, .int .i64 (n : Int), .bool b]) ∧ Below w.heap.size w w' := by
 have := rdecode_any s a w hs ha; rw [h.out] at this; exact this
end Go.Proofs.Ytkaeihlpdceokaa