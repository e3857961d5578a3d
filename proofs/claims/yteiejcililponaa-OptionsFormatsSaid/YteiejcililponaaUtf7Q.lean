/- Contracts: the reference's Decode, walked. -/
import Derived.Test.YteiejcililponaaUtf6Q
import Derived.Deep.QuietTactic
import Derived.BigQuiet
set_option linter.unusedVariables false
set_option linter.unusedSimpArgs false
namespace Go.Proofs.Yteiejcililponaa
open Go.RowKit Bf

set_option maxRecDepth 20000 in
set_option maxHeartbeats 1000000 in
theorem rdecode_out (s : ByteArray) (a : Int) (w : World) (hs : s.size ≤ maxLen) (ha : -9223372036854775808 ≤ a ∧ a ≤ 9223372036854775807) (h : a < 0 ∨ (s.size : Int) ≤ a) :
    Calls Try.prog 98 #[.string s, .int .i64 a] w fun e w' => e = .returned (decV (decAt s.data.toList a)) ∧ Below w.heap.size w w' := by
  unfold maxLen at hs
  have HO : Hid (decAt s.data.toList a = (0, 0, false)) := by unfold decAt; rw [if_pos (by rw [toList_length]; exact h)]; rfl
  obtain ⟨ha1, ha2⟩ := ha
  by_cases h0 : a < 0
  · clear h
    go_enter Try.func98, Try.ntmps98
    go_wp2
    all_goals (go_ret3; refine ⟨by rw [HO.out]; rfl, ?_⟩)
    repeat (first | exact Below.refl _ _ | refine bl_alloc ?_ _ | refine Below.drew ?_ | refine bl_drewN ?_ _ | refine bl_set ?_ (by first | (simp; done) | (simp; omega)) _ | refine bl_step ?_ (by assumption))
  · have h1 : (s.size : Int) ≤ a := by omega
    clear h
    go_enter Try.func98, Try.ntmps98
    go_wp2
    all_goals (go_ret3; refine ⟨by rw [HO.out]; rfl, ?_⟩)
    repeat (first | exact Below.refl _ _ | refine bl_alloc ?_ _ | refine Below.drew ?_ | refine bl_drewN ?_ _ | refine bl_set ?_ (by first | (simp; done) | (simp; omega)) _ | refine bl_step ?_ (by assumption))
theorem left_at (p : ByteArray) (b : Bool) (w : World) (hp : 1 ≤ p.size) (hp4 : p.size ≤ 4) (h : Hid (leftFrom p.data.toList 0 = b)) :
    Calls Try.prog 143 #[.string p] w fun e w' => e = .returned (.bool b) ∧ Below w.heap.size w w' := by
  have := left_any p w hp hp4; rw [h.out] at this; exact this
/-- The second loop's place, and how many bytes so far. -/
def RdRel2 (n : Nat) (m i : Value) : Prop := ∃ j : Nat, i = .int .i64 j ∧ 2 ≤ j ∧ j ≤ 4 ∧ m = .int .i64 (min n (j - 1) : Nat)
theorem rdRel2_start (n : Nat) (h : 1 ≤ n) : RdRel2 n (.int .i64 1) (.int .i64 2) := ⟨2, rfl, by omega, by omega, by rw [show min n (2 - 1) = 1 by omega]; rfl⟩
/-- The first loop's place. -/
def RdRel (J : Nat) (i : Value) : Prop := ∃ j : Nat, i = .int .i64 j ∧ 1 ≤ j ∧ j ≤ J
set_option maxRecDepth 20000 in
set_option maxHeartbeats 2000000 in
theorem rdecode_in (s : ByteArray) (k : Nat) (w : World) (hs : s.size ≤ maxLen) (hk : k < s.size) :
    Calls Try.prog 98 #[.string s, .int .i64 k] w fun e w' => e = .returned (decV (decAt s.data.toList k)) ∧ Below w.heap.size w w' := by
  unfold maxLen at hs
  obtain ⟨t, ht⟩ : ∃ t, s.extract k s.size = t := ⟨_, rfl⟩
  have htl : t.data.toList = s.data.toList.drop k := by rw [← ht]; exact extract_rest s k
  have htn : t.size = s.size - k := by rw [← ht, ByteArray.size_extract]; omega
  have htn0 : 0 < t.size := by omega
  have hts : t.size ≤ 9223372036854775807 := by omega
  have hd : decAt s.data.toList k = decS t.data.toList := by unfold decAt; rw [if_neg (by rw [toList_length]; omega), htl]; rfl
  have hc := toList_drop_cons t 0 htn0
  rw [List.drop_zero] at hc
  obtain ⟨r, n, ok, hdec, hn1, hn2, hn3, hOk, hBad⟩ := ref_dec t[0] (t.data.toList.drop (0 + 1))
  rw [← hc] at hdec hn1 hOk hBad
  rw [toList_length] at hn1
  have HO : Hid (decAt s.data.toList k = (r, n, ok)) := by rw [hd]; exact hdec
  have q1 : decide ((k : Int) < 0) = false := by simp
  have q2 : decide (s.size ≤ k) = false := by simp; omega
  clear hd hc htl htn hdec
  cases ok
  · obtain ⟨e0, g1, g2, g3, g4, g5, g6⟩ := hBad rfl
    rw [toList_length] at g3 g4 g5 g6
    subst e0
    have O1 := Lib.hid g4
    have L2 := Lib.hid g5
    have L3 := Lib.hid g6
    obtain ⟨J, hJ⟩ : ∃ J, J = min 4 t.size + 1 := ⟨_, rfl⟩
    have J1 : J ≤ 5 := by omega
    have J2 : J ≤ t.size + 1 := by omega
    have J3 : 5 ≤ J ∨ t.size + 1 ≤ J := by omega
    have J4 : 1 ≤ J := by omega
    clear hOk hBad g4 g5 g6 hJ
    go_enter Try.func98, Try.ntmps98
    go_wp2
    go_loopw [7] (fun i wr => RdRel J i ∧ Below w.heap.size w wr) (fun i _ => 5 - (intOf i).toNat)
    case atStart => exact ⟨⟨1, rfl, by omega, by omega⟩, Below.refl _ _⟩
    case round =>
      obtain ⟨⟨j, rfl, h1, h2⟩, hb0⟩ := hrel
      by_cases hj : j < J
      · have hj4 : j ≤ 4 := by omega
        have hjt : j ≤ t.size := by omega
        have hf := O1.out j h1 hj4 hjt
        obtain ⟨v, hv⟩ : ∃ v, reckL (t.extract 0 j).data.toList = v := ⟨_, rfl⟩
        have HV := Lib.hid hv
        have hx1 : 1 ≤ (t.extract 0 j).size := by rw [ByteArray.size_extract]; omega
        have hx2 : (t.extract 0 j).size ≤ 4 := by rw [ByteArray.size_extract]; omega
        obtain ⟨v1, v2⟩ := reckL_bd (t.extract 0 j).data.toList
        rw [hv] at v1 v2
        have hex : (t.extract 0 j).data.toList = t.data.toList.take j := by rw [extract_toList]; rfl
        have hisB : isB (t.data.toList.take j) = (scalarB v && encL v == t.data.toList.take j) := by unfold isB; rw [← hex, hv]
        obtain ⟨sc, hsc⟩ : ∃ b, scalarB v = b := ⟨_, rfl⟩
        have HS := Lib.hid hsc
        rw [hsc] at hisB
        rw [hisB] at hf
        have hEq : sc = true → ((encB v).toList == (t.extract 0 j).toList) = false := by
          intro e; rw [e, Bool.true_and] at hf; rw [ByteArray.toList_eq, ByteArray.toList_eq, encB_list, hex]; exact hf
        clear hf hisB hex hv hsc
        cases sc
        · clear hEq
          go_wp2_with (go_at_call 140; refine (reckoned_at _ _ _ hx1 hx2 HV).mono ?_; rintro e w1 ⟨rfl, hb⟩)
          go_quiet ((go_at_call 141; exact Calls.quiet_of_same ((rscalar_at _ _ _ HS).mono fun e w' h => ⟨h.1, h.2.symm⟩)))
          all_goals go_wp2
          all_goals refine ⟨⟨⟨j + 1, by go_num, by omega, by omega⟩, ?_⟩, by simp [intOf]; omega⟩
          repeat (first | exact Below.refl _ _ | refine bl_alloc ?_ _ | refine Below.drew ?_ | refine bl_drewN ?_ _ | refine bl_set ?_ (by first | (simp; done) | (simp; omega)) _ | refine bl_step ?_ (by assumption))
        · have hEq := hEq rfl
          go_wp2_with (go_at_call 140; refine (reckoned_at _ _ _ hx1 hx2 HV).mono ?_; rintro e w1 ⟨rfl, hb⟩)
          go_region_with (first | (go_at_call 141; refine (rscalar_at _ _ _ HS).mono ?_; rintro e w1 ⟨rfl, rfl⟩) | (go_at_call 142; refine (rencode_any _ _).mono ?_; rintro e w1 ⟨rfl, hb⟩))
          all_goals go_wp2
          all_goals refine ⟨⟨⟨j + 1, by go_num, by omega, by omega⟩, ?_⟩, by simp [intOf]; omega⟩
          repeat (first | exact Below.refl _ _ | refine bl_alloc ?_ _ | refine Below.drew ?_ | refine bl_drewN ?_ _ | refine bl_set ?_ (by first | (simp; done) | (simp; omega)) _ | refine bl_step ?_ (by assumption))
      · by_cases hj5 : j < 5
        · have hjt : t.size < j := by omega
          have q3 : decide ((j : Int) < 5) = true := by simp; omega
          have q4 : decide (j ≤ t.size) = false := by simp; omega
          go_wp2
          go_loopw [9, 10] (fun m i wr => RdRel2 n m i ∧ Below w.heap.size w wr) (fun _ i _ => 4 - (intOf i).toNat)
          case atStart => exact ⟨rdRel2_start n (by omega), hb0⟩
          case round =>
            obtain ⟨⟨i, rfl, i1, i2, rfl⟩, hb1⟩ := hrel
            obtain ⟨M, hM⟩ : ∃ M, min n (i - 1) = M := ⟨_, rfl⟩
            rw [hM]
            by_cases hi : i < 4 ∧ i ≤ t.size
            · obtain ⟨hi4, hit⟩ := hi
              have hy1 : 1 ≤ (t.extract 0 i).size := by rw [ByteArray.size_extract]; omega
              have hy2 : (t.extract 0 i).size ≤ 4 := by rw [ByteArray.size_extract]; omega
              have hlf : leftFrom (t.extract 0 i).data.toList 0 = decide (i ≤ n) := by
                have : (t.extract 0 i).data.toList = t.data.toList.take i := by rw [extract_toList]; rfl
                rw [this]
                rcases (by omega : i = 2 ∨ i = 3) with rfl | rfl
                · exact L2.out hit
                · rw [L3.out hit]; exact decide_eq_decide.2 (by omega)
              have HLF := Lib.hid hlf
              by_cases hin : i ≤ n
              · have hb : decide (i ≤ n) = true := by simp [hin]
                have HL : Hid (leftFrom (t.extract 0 i).data.toList 0 = true) := by rw [hlf]; exact hb
                have HM : Hid (min n (i + 1 - 1) = i) := by show min n (i + 1 - 1) = i; omega
                clear hlf hb hM
                go_wp2_with (go_at_call 143; refine (left_at _ _ _ hy1 hy2 HL).mono ?_; rintro e w1 ⟨rfl, hb⟩)
                refine ⟨⟨⟨i + 1, by go_num, by omega, by omega, by rw [HM.out]⟩, ?_⟩, by simp [intOf]; omega⟩
                repeat (first | exact Below.refl _ _ | refine bl_alloc ?_ _ | refine Below.drew ?_ | refine bl_drewN ?_ _ | refine bl_set ?_ (by first | (simp; done) | (simp; omega)) _ | refine bl_step ?_ (by assumption))
              · have hb : decide (i ≤ n) = false := by simp; omega
                have HL : Hid (leftFrom (t.extract 0 i).data.toList 0 = false) := by rw [hlf]; exact hb
                have HM : Hid (min n (i + 1 - 1) = M) := by show min n (i + 1 - 1) = M; omega
                clear hlf hb hM
                go_wp2_with (go_at_call 143; refine (left_at _ _ _ hy1 hy2 HL).mono ?_; rintro e w1 ⟨rfl, hb⟩)
                refine ⟨⟨⟨i + 1, by go_num, by omega, by omega, by rw [HM.out]⟩, ?_⟩, by simp [intOf]; omega⟩
                repeat (first | exact Below.refl _ _ | refine bl_alloc ?_ _ | refine Below.drew ?_ | refine bl_drewN ?_ _ | refine bl_set ?_ (by first | (simp; done) | (simp; omega)) _ | refine bl_step ?_ (by assumption))
            · obtain rfl : n = M := by omega
              clear hM
              by_cases hi4 : i < 4
              · have hit : t.size < i := by omega
                clear hi
                go_wp2
                all_goals (go_ret3; refine ⟨by rw [HO.out]; rfl, ?_⟩)
                repeat (first | exact Below.refl _ _ | refine bl_alloc ?_ _ | refine Below.drew ?_ | refine bl_drewN ?_ _ | refine bl_set ?_ (by first | (simp; done) | (simp; omega)) _ | refine bl_step ?_ (by assumption))
              · have hi4' : 4 ≤ i := by omega
                clear hi
                go_wp2
                all_goals (go_ret3; refine ⟨by rw [HO.out]; rfl, ?_⟩)
                repeat (first | exact Below.refl _ _ | refine bl_alloc ?_ _ | refine Below.drew ?_ | refine bl_drewN ?_ _ | refine bl_set ?_ (by first | (simp; done) | (simp; omega)) _ | refine bl_step ?_ (by assumption))
        · have hj5' : 5 ≤ j := by omega
          have q3 : decide ((j : Int) < 5) = false := by simp; omega
          go_wp2
          go_loopw [9, 10] (fun m i wr => RdRel2 n m i ∧ Below w.heap.size w wr) (fun _ i _ => 4 - (intOf i).toNat)
          case atStart => exact ⟨rdRel2_start n (by omega), hb0⟩
          case round =>
            obtain ⟨⟨i, rfl, i1, i2, rfl⟩, hb1⟩ := hrel
            obtain ⟨M, hM⟩ : ∃ M, min n (i - 1) = M := ⟨_, rfl⟩
            rw [hM]
            by_cases hi : i < 4 ∧ i ≤ t.size
            · obtain ⟨hi4, hit⟩ := hi
              have hy1 : 1 ≤ (t.extract 0 i).size := by rw [ByteArray.size_extract]; omega
              have hy2 : (t.extract 0 i).size ≤ 4 := by rw [ByteArray.size_extract]; omega
              have hlf : leftFrom (t.extract 0 i).data.toList 0 = decide (i ≤ n) := by
                have : (t.extract 0 i).data.toList = t.data.toList.take i := by rw [extract_toList]; rfl
                rw [this]
                rcases (by omega : i = 2 ∨ i = 3) with rfl | rfl
                · exact L2.out hit
                · rw [L3.out hit]; exact decide_eq_decide.2 (by omega)
              have HLF := Lib.hid hlf
              by_cases hin : i ≤ n
              · have hb : decide (i ≤ n) = true := by simp [hin]
                have HL : Hid (leftFrom (t.extract 0 i).data.toList 0 = true) := by rw [hlf]; exact hb
                have HM : Hid (min n (i + 1 - 1) = i) := by show min n (i + 1 - 1) = i; omega
                clear hlf hb hM
                go_wp2_with (go_at_call 143; refine (left_at _ _ _ hy1 hy2 HL).mono ?_; rintro e w1 ⟨rfl, hb⟩)
                refine ⟨⟨⟨i + 1, by go_num, by omega, by omega, by rw [HM.out]⟩, ?_⟩, by simp [intOf]; omega⟩
                repeat (first | exact Below.refl _ _ | refine bl_alloc ?_ _ | refine Below.drew ?_ | refine bl_drewN ?_ _ | refine bl_set ?_ (by first | (simp; done) | (simp; omega)) _ | refine bl_step ?_ (by assumption))
              · have hb : decide (i ≤ n) = false := by simp; omega
                have HL : Hid (leftFrom (t.extract 0 i).data.toList 0 = false) := by rw [hlf]; exact hb
                have HM : Hid (min n (i + 1 - 1) = M) := by show min n (i + 1 - 1) = M; omega
                clear hlf hb hM
                go_wp2_with (go_at_call 143; refine (left_at _ _ _ hy1 hy2 HL).mono ?_; rintro e w1 ⟨rfl, hb⟩)
                refine ⟨⟨⟨i + 1, by go_num, by omega, by omega, by rw [HM.out]⟩, ?_⟩, by simp [intOf]; omega⟩
                repeat (first | exact Below.refl _ _ | refine bl_alloc ?_ _ | refine Below.drew ?_ | refine bl_drewN ?_ _ | refine bl_set ?_ (by first | (simp; done) | (simp; omega)) _ | refine bl_step ?_ (by assumption))
            · obtain rfl : n = M := by omega
              clear hM
              by_cases hi4 : i < 4
              · have hit : t.size < i := by omega
                clear hi
                go_wp2
                all_goals (go_ret3; refine ⟨by rw [HO.out]; rfl, ?_⟩)
                repeat (first | exact Below.refl _ _ | refine bl_alloc ?_ _ | refine Below.drew ?_ | refine bl_drewN ?_ _ | refine bl_set ?_ (by first | (simp; done) | (simp; omega)) _ | refine bl_step ?_ (by assumption))
              · have hi4' : 4 ≤ i := by omega
                clear hi
                go_wp2
                all_goals (go_ret3; refine ⟨by rw [HO.out]; rfl, ?_⟩)
                repeat (first | exact Below.refl _ _ | refine bl_alloc ?_ _ | refine Below.drew ?_ | refine bl_drewN ?_ _ | refine bl_set ?_ (by first | (simp; done) | (simp; omega)) _ | refine bl_step ?_ (by assumption))
  · obtain ⟨o1, o2, o3⟩ := hOk rfl
    have O1 := Lib.hid o1
    have O2 := Lib.hid o2
    have O3 := Lib.hid o3
    clear hOk hBad o1 o2 o3
    go_enter Try.func98, Try.ntmps98
    go_wp2
    go_loopw [7] (fun i wr => RdRel n i ∧ Below w.heap.size w wr) (fun i _ => 5 - (intOf i).toNat)
    case atStart => exact ⟨⟨1, rfl, by omega, by omega⟩, Below.refl _ _⟩
    case round =>
      obtain ⟨⟨j, rfl, h1, h2⟩, hb0⟩ := hrel
      by_cases hj : j < n
      · have hf := O1.out j h1 hj
        obtain ⟨v, hv⟩ : ∃ v, reckL (t.extract 0 j).data.toList = v := ⟨_, rfl⟩
        have HV := Lib.hid hv
        have hx1 : 1 ≤ (t.extract 0 j).size := by rw [ByteArray.size_extract]; omega
        have hx2 : (t.extract 0 j).size ≤ 4 := by rw [ByteArray.size_extract]; omega
        obtain ⟨v1, v2⟩ := reckL_bd (t.extract 0 j).data.toList
        rw [hv] at v1 v2
        have hex : (t.extract 0 j).data.toList = t.data.toList.take j := by rw [extract_toList]; rfl
        have hisB : isB (t.data.toList.take j) = (scalarB v && encL v == t.data.toList.take j) := by unfold isB; rw [← hex, hv]
        obtain ⟨sc, hsc⟩ : ∃ b, scalarB v = b := ⟨_, rfl⟩
        have HS := Lib.hid hsc
        rw [hsc] at hisB
        rw [hisB] at hf
        have hEq : sc = true → ((encB v).toList == (t.extract 0 j).toList) = false := by
          intro e; rw [e, Bool.true_and] at hf; rw [ByteArray.toList_eq, ByteArray.toList_eq, encB_list, hex]; exact hf
        clear hf hisB hex hv hsc
        cases sc
        · clear hEq
          go_wp2_with (go_at_call 140; refine (reckoned_at _ _ _ hx1 hx2 HV).mono ?_; rintro e w1 ⟨rfl, hb⟩)
          go_quiet ((go_at_call 141; exact Calls.quiet_of_same ((rscalar_at _ _ _ HS).mono fun e w' h => ⟨h.1, h.2.symm⟩)))
          all_goals go_wp2
          all_goals refine ⟨⟨⟨j + 1, by go_num, by omega, by omega⟩, ?_⟩, by simp [intOf]; omega⟩
          repeat (first | exact Below.refl _ _ | refine bl_alloc ?_ _ | refine Below.drew ?_ | refine bl_drewN ?_ _ | refine bl_set ?_ (by first | (simp; done) | (simp; omega)) _ | refine bl_step ?_ (by assumption))
        · have hEq := hEq rfl
          go_wp2_with (go_at_call 140; refine (reckoned_at _ _ _ hx1 hx2 HV).mono ?_; rintro e w1 ⟨rfl, hb⟩)
          go_region_with (first | (go_at_call 141; refine (rscalar_at _ _ _ HS).mono ?_; rintro e w1 ⟨rfl, rfl⟩) | (go_at_call 142; refine (rencode_any _ _).mono ?_; rintro e w1 ⟨rfl, hb⟩))
          all_goals go_wp2
          all_goals refine ⟨⟨⟨j + 1, by go_num, by omega, by omega⟩, ?_⟩, by simp [intOf]; omega⟩
          repeat (first | exact Below.refl _ _ | refine bl_alloc ?_ _ | refine Below.drew ?_ | refine bl_drewN ?_ _ | refine bl_set ?_ (by first | (simp; done) | (simp; omega)) _ | refine bl_step ?_ (by assumption))
      · obtain rfl : j = n := by omega
        have hf := O2.out
        obtain ⟨v, hv⟩ : ∃ v, reckL (t.extract 0 j).data.toList = v := ⟨_, rfl⟩
        have HV := Lib.hid hv
        have hx1 : 1 ≤ (t.extract 0 j).size := by rw [ByteArray.size_extract]; omega
        have hx2 : (t.extract 0 j).size ≤ 4 := by rw [ByteArray.size_extract]; omega
        obtain ⟨v1, v2⟩ := reckL_bd (t.extract 0 j).data.toList
        rw [hv] at v1 v2
        have hex : (t.extract 0 j).data.toList = t.data.toList.take j := by rw [extract_toList]; rfl
        have hisB : isB (t.data.toList.take j) = (scalarB v && encL v == t.data.toList.take j) := by unfold isB; rw [← hex, hv]
        obtain ⟨sc, hsc⟩ : ∃ b, scalarB v = b := ⟨_, rfl⟩
        have HS := Lib.hid hsc
        rw [hsc] at hisB
        rw [hisB, Bool.and_eq_true] at hf
        obtain ⟨f1, f2⟩ := hf
        subst f1
        have hEq : ((encB v).toList == (t.extract 0 j).toList) = true := by
          rw [ByteArray.toList_eq, ByteArray.toList_eq, encB_list, hex]; exact f2
        have hvr : v = r := by rw [← O3.out, ← hex, hv]
        subst hvr
        clear hisB hex hv f2 hsc
        go_wp2_with (go_at_call 140; refine (reckoned_at _ _ _ hx1 hx2 HV).mono ?_; rintro e w1 ⟨rfl, hb⟩)
        go_region_with (first | (go_at_call 141; refine (rscalar_at _ _ _ HS).mono ?_; rintro e w1 ⟨rfl, rfl⟩) | (go_at_call 142; refine (rencode_any _ _).mono ?_; rintro e w1 ⟨rfl, hb⟩))
        all_goals go_wp2
        all_goals (go_ret3; refine ⟨by rw [HO.out]; rfl, ?_⟩)
        repeat (first | exact Below.refl _ _ | refine bl_alloc ?_ _ | refine Below.drew ?_ | refine bl_drewN ?_ _ | refine bl_set ?_ (by first | (simp; done) | (simp; omega)) _ | refine bl_step ?_ (by assumption))
theorem rdecode_any (s : ByteArray) (a : Int) (w : World) (hs : s.size ≤ maxLen) (ha : -9223372036854775808 ≤ a ∧ a ≤ 9223372036854775807) :
    Calls Try.prog 98 #[.string s, .int .i64 a] w fun e w' => e = .returned (decV (decAt s.data.toList a)) ∧ Below w.heap.size w w' := by
  by_cases h : a < 0 ∨ (s.size : Int) ≤ a
  · exact rdecode_out s a w hs ha h
  · obtain ⟨k, rfl⟩ := Int.eq_ofNat_of_zero_le (show 0 ≤ a by omega)
    exact rdecode_in s k w hs (by omega)
theorem rdecode_at (s : ByteArray) (a r : Int) (n : Nat) (b : Bool) (w : World) (hs : s.size ≤ maxLen) (ha : -9223372036854775808 ≤ a ∧ a ≤ 9223372036854775807)
    (h : Hid (decAt s.data.toList a = (r, n, b))) :
    Calls Try.prog 98 #[.string s, .int .i64 a] w fun e w' => e = .returned (.tuple #[.int .i32 r, .int .i64 (n : Int), .bool b]) ∧ Below w.heap.size w w' := by
  have := rdecode_any s a w hs ha; rw [h.out] at this; exact this
end Go.Proofs.Yteiejcililponaa
