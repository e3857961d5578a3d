/- Contracts of the package utf: Decode. -/
import Derived.Test.YtldjakeigjngoaaUtfQ
set_option linter.unusedVariables false
set_option linter.unusedSimpArgs false
namespace Go.Proofs.Ytldjakeigjngoaa
open Go.RowKit Bf

def decV (r : Int × Nat × Bool) : Value := .tuple #[.int .i32 r.1, .int .i64 (r.2.1 : Int), .bool r.2.2]
/-- What stands at a place. -/
def decAt (l : List UInt8) (a : Int) : Int × Nat × Bool := if a < 0 ∨ (l.length : Int) ≤ a then (0, 0, false) else decS (l.drop a.toNat)
theorem lead_at (n wt lo hi : Int) (w : World) (h0 : 0 ≤ n) (h1 : n ≤ 255) (h : Hid (leadS n = (wt, lo, hi))) :
    Calls Try.prog 169 #[.int .u8 n] w fun e w' => e = .returned (.tuple #[.int .i64 wt, .int .u8 lo, .int .u8 hi]) ∧ w = w' := by
  have := lead_any n w h0 h1; rw [h.out] at this; exact this
theorem leadS_bd2 (n : Int) : 0 ≤ (leadS n).2.1 ∧ (leadS n).2.1 ≤ 255 ∧ 0 ≤ (leadS n).2.2 ∧ (leadS n).2.2 ≤ 255 := by
  unfold leadS; repeat (first | (split; decide) | decide)
/-- The loop's slots: the place, and between which the byte there must lie. -/
def DecRel (t : ByteArray) (W : Nat) (lo0 hi0 : Int) (lo hi i : Value) : Prop :=
  ∃ (j : Nat) (p q : Int), i = .int .i64 j ∧ lo = .int .u8 p ∧ hi = .int .u8 q ∧ 1 ≤ j ∧ j ≤ W ∧ 0 ≤ p ∧ p ≤ 255 ∧ 0 ≤ q ∧ q ≤ 255 ∧ scanL lo0 hi0 (W - 1) (t.data.toList.drop 1) + 1 = j + scanL p q (W - j) (t.data.toList.drop j)
theorem scan_step (t : ByteArray) (W j : Nat) (p q : Int) (hj : j < W) (hlt : j < t.size) :
    scanL p q (W - j) (t.data.toList.drop j) = if p ≤ (t[j].toNat : Int) ∧ (t[j].toNat : Int) ≤ q then scanL 128 191 (W - (j + 1)) (t.data.toList.drop (j + 1)) + 1 else 0 := by
  rw [toList_drop_cons t j hlt, show W - j = (W - (j + 1)) + 1 by omega]; rfl
set_option maxRecDepth 20000 in
set_option maxHeartbeats 1000000 in
theorem decode_out (s : ByteArray) (a : Int) (w : World) (hs : s.size ≤ maxLen) (ha : -9223372036854775808 ≤ a ∧ a ≤ 9223372036854775807) (h : a < 0 ∨ (s.size : Int) ≤ a) :
    Calls Try.prog 152 #[.string s, .int .i64 a] w fun e w' => e = .returned (decV (decAt s.data.toList a)) ∧ Below w.heap.size w w' := by
  unfold maxLen at hs
  have HO : Hid (decAt s.data.toList a = (0, 0, false)) := by unfold decAt; rw [if_pos (by rw [toList_length]; exact h)]; rfl
  obtain ⟨ha1, ha2⟩ := ha
  by_cases h0 : a < 0
  · clear h
    go_enter Try.func152, Try.ntmps152
    go_wp2
    all_goals (go_ret3; refine ⟨by rw [HO.out]; rfl, ?_⟩)
    repeat (first | exact Below.refl _ _ | refine bl_alloc ?_ _ | refine Below.drew ?_ | refine bl_drewN ?_ _ | refine bl_set ?_ (by first | (simp; done) | (simp; omega)) _ | refine bl_step ?_ (by assumption))
  · have h1 : (s.size : Int) ≤ a := by omega
    clear h
    go_enter Try.func152, Try.ntmps152
    go_wp2
    all_goals (go_ret3; refine ⟨by rw [HO.out]; rfl, ?_⟩)
    repeat (first | exact Below.refl _ _ | refine bl_alloc ?_ _ | refine Below.drew ?_ | refine bl_drewN ?_ _ | refine bl_set ?_ (by first | (simp; done) | (simp; omega)) _ | refine bl_step ?_ (by assumption))
set_option maxRecDepth 20000 in
set_option maxHeartbeats 1000000 in
theorem decode_in (s : ByteArray) (k : Nat) (w : World) (hs : s.size ≤ maxLen) (hk : k < s.size) :
    Calls Try.prog 152 #[.string s, .int .i64 k] w fun e w' => e = .returned (decV (decAt s.data.toList k)) ∧ Below w.heap.size w w' := by
  unfold maxLen at hs
  obtain ⟨t, ht⟩ : ∃ t, s.extract k s.size = t := ⟨_, rfl⟩
  have htl : t.data.toList = s.data.toList.drop k := by rw [← ht]; exact extract_rest s k
  have htn : t.size = s.size - k := by rw [← ht, ByteArray.size_extract]; omega
  have htn0 : 0 < t.size := by omega
  have hts : t.size ≤ 9223372036854775807 := by omega
  have hd : decAt s.data.toList k = decS t.data.toList := by unfold decAt; rw [if_neg (by rw [toList_length]; omega), htl]; rfl
  have hc := toList_drop_cons t 0 htn0
  rw [List.drop_zero] at hc
  have ub0 := ub t[0]
  obtain ⟨wt, lo, hi, hl⟩ : ∃ wt lo hi, leadS (t[0].toNat : Int) = (wt, lo, hi) := ⟨_, _, _, rfl⟩
  have hb := leadS_bd (t[0].toNat : Int)
  have hb2 := leadS_bd2 (t[0].toNat : Int)
  rw [hl] at hb hb2
  obtain ⟨g1, g2, g3, g4⟩ := hb2
  obtain ⟨g5, g6⟩ := hb
  simp only at g1 g2 g3 g4 g5 g6
  have HL := Lib.hid hl
  have HE : Hid (decS t.data.toList = if wt = 0 then (0, 1, false) else if scanL lo hi (wt.toNat - 1) (t.data.toList.drop 1) = wt.toNat - 1 then (valL (t.data.toList.take wt.toNat), wt.toNat, true) else (0, 1 + scanL lo hi (wt.toNat - 1) (t.data.toList.drop 1), false)) := by
    have : decS t.data.toList = decS (t[0] :: t.data.toList.drop 1) := by rw [← hc]
    rw [this]; unfold decS; simp only [hl]; rw [← hc]; rfl
  have HD := Lib.hid hd
  clear hd hc htl htn hl
  by_cases hw0 : wt < 1
  · have HO : Hid (decAt s.data.toList k = (0, 1, false)) := by rw [HD.out, HE.out, if_pos (by omega)]; rfl
    go_enter Try.func152, Try.ntmps152
    go_wp2_with (go_at_call 169; refine (lead_at _ _ _ _ _ (by omega) (by omega) HL).mono ?_; rintro e w' ⟨rfl, rfl⟩)
    all_goals (go_ret3; refine ⟨by rw [HO.out]; rfl, ?_⟩)
    repeat (first | exact Below.refl _ _ | refine bl_alloc ?_ _ | refine Below.drew ?_ | refine bl_drewN ?_ _ | refine bl_set ?_ (by first | (simp; done) | (simp; omega)) _ | refine bl_step ?_ (by assumption))
  · obtain ⟨W, rfl⟩ := Int.eq_ofNat_of_zero_le g5
    have HE2 : Hid (∀ m, scanL lo hi (W - 1) (t.data.toList.drop 1) = m → decAt s.data.toList k = if m = W - 1 then (valL (t.data.toList.take W), W, true) else (0, 1 + m, false)) := by
      intro m hm; rw [HD.out, HE.out, if_neg (by omega)]; simp only [Int.toNat_natCast, hm]
    have q1 : decide ((k : Int) < 0) = false := by simp
    have q2 : decide (s.size ≤ k) = false := by simp; omega
    have hW : 1 ≤ W := by omega
    clear HE HD g5
    go_enter Try.func152, Try.ntmps152
    go_wp2_with (go_at_call 169; refine (lead_at _ _ _ _ _ (by omega) (by omega) HL).mono ?_; rintro e w' ⟨rfl, rfl⟩)
    go_loop [8, 9, 10] (fun p q i => DecRel t W lo hi p q i) (fun _ _ i => W - (intOf i).toNat)
    case atStart => exact ⟨1, lo, hi, rfl, rfl, rfl, by omega, by omega, by omega, by omega, by omega, by omega, by omega⟩
    case round =>
      obtain ⟨j, p, q, rfl, rfl, rfl, h1, h2, h3, h4, h5, h6, hr⟩ := hrel
      by_cases hj : j < W
      · by_cases hlt : j < t.size
        · have st := scan_step t W j p q hj hlt
          by_cases hgd : p ≤ (t[j].toNat : Int) ∧ (t[j].toNat : Int) ≤ q
          · obtain ⟨hg1, hg2⟩ := hgd
            rw [if_pos ⟨hg1, hg2⟩] at st
            rw [st] at hr
            have HRr := Lib.hid hr
            clear st hr
            go_wp2
            exact ⟨⟨j + 1, 128, 191, by go_num, rfl, rfl, by omega, by omega, by omega, by omega, by omega, by omega, by have := HRr.out; omega⟩, by simp [intOf]; omega⟩
          · rw [if_neg hgd] at st
            rw [st] at hr
            have HO : Hid (decAt s.data.toList k = (0, j, false)) := by rw [HE2.out (j - 1) (by omega), if_neg (by omega)]; congr; omega
            clear hr st
            by_cases hp : (t[j].toNat : Int) < p
            · clear hgd
              go_wp2
              all_goals (go_ret3; refine ⟨by rw [HO.out]; rfl, ?_⟩)
              repeat (first | exact Below.refl _ _ | refine bl_alloc ?_ _ | refine Below.drew ?_ | refine bl_drewN ?_ _ | refine bl_set ?_ (by first | (simp; done) | (simp; omega)) _ | refine bl_step ?_ (by assumption))
            · have hq : q < (t[j].toNat : Int) := by omega
              clear hgd
              go_wp2
              all_goals (go_ret3; refine ⟨by rw [HO.out]; rfl, ?_⟩)
              repeat (first | exact Below.refl _ _ | refine bl_alloc ?_ _ | refine Below.drew ?_ | refine bl_drewN ?_ _ | refine bl_set ?_ (by first | (simp; done) | (simp; omega)) _ | refine bl_step ?_ (by assumption))
        · have hdr : scanL p q (W - j) (t.data.toList.drop j) = 0 := by rw [drop_all t j (by omega)]; cases W - j <;> rfl
          rw [hdr] at hr
          have HO : Hid (decAt s.data.toList k = (0, j, false)) := by rw [HE2.out (j - 1) (by omega), if_neg (by omega)]; congr; omega
          clear hr hdr
          go_wp2
          all_goals (go_ret3; refine ⟨by rw [HO.out]; rfl, ?_⟩)
          repeat (first | exact Below.refl _ _ | refine bl_alloc ?_ _ | refine Below.drew ?_ | refine bl_drewN ?_ _ | refine bl_set ?_ (by first | (simp; done) | (simp; omega)) _ | refine bl_step ?_ (by assumption))
      · obtain rfl : j = W := by omega
        rw [Nat.sub_self, show scanL p q 0 (t.data.toList.drop j) = 0 from by simp [scanL]] at hr
        have hz : scanL lo hi (j - 1) (t.data.toList.drop 1) = j - 1 := by omega
        have hsz := (scanL_le lo hi (j - 1) (t.data.toList.drop 1)).2
        rw [hz, List.length_drop, toList_length] at hsz
        have hjt : j ≤ t.size := by omega
        have HO : Hid (decAt s.data.toList k = (valL (t.data.toList.take j), j, true)) := by rw [HE2.out (j - 1) hz, if_pos rfl]; rfl
        have HV : Hid (valL (t.extract 0 j).data.toList = valL (t.data.toList.take j)) := by rw [extract_toList]; rfl
        have hx1 : 1 ≤ (t.extract 0 j).size := by rw [ByteArray.size_extract]; omega
        have hx2 : (t.extract 0 j).size ≤ 4 := by rw [ByteArray.size_extract]; omega
        clear hr hz hsz
        go_wp2_with (go_at_call 170; refine (value_at _ _ _ HV hx1 hx2).mono ?_; rintro e w' ⟨rfl, hb⟩; obtain ⟨kc, kf, kl, km, kn⟩ := bfacts hb)
        all_goals (go_ret3; refine ⟨by rw [HO.out]; rfl, ?_⟩)
        repeat (first | exact Below.refl _ _ | refine bl_alloc ?_ _ | refine Below.drew ?_ | refine bl_drewN ?_ _ | refine bl_set ?_ (by first | (simp; done) | (simp; omega)) _ | refine bl_step ?_ (by assumption))
theorem decode_any (s : ByteArray) (a : Int) (w : World) (hs : s.size ≤ maxLen) (ha : -9223372036854775808 ≤ a ∧ a ≤ 9223372036854775807) :
    Calls Try.prog 152 #[.string s, .int .i64 a] w fun e w' => e = .returned (decV (decAt s.data.toList a)) ∧ Below w.heap.size w w' := by
  by_cases h : a < 0 ∨ (s.size : Int) ≤ a
  · exact decode_out s a w hs ha h
  · obtain ⟨k, rfl⟩ := Int.eq_ofNat_of_zero_le (show 0 ≤ a by omega)
    exact decode_in s k w hs (by omega)
theorem decode_at (s : ByteArray) (a r : Int) (n : Nat) (b : Bool) (w : World) (hs : s.size ≤ maxLen) (ha : -9223372036854775808 ≤ a ∧ a ≤ 9223372036854775807)
    (h : Hid (decAt s.data.toList a = (r, n, b))) :
    Calls Try.prog 152 #[.string s, .int .i64 a] w fun e w' => e = .returned (.tuple #[.int .i32 r, .int .i64 (n : Int), .bool b]) ∧ Below w.heap.size w w' := by
  have := decode_any s a w hs ha; rw [h.out] at this; exact this
end Go.Proofs.Ytldjakeigjngoaa
