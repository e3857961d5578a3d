/- BU3: texts of this proof, joined by program: Utf3, Utf4. -/
import Derived.Test.YtkaeihlpdceokaaBUA
/- Contracts: Scalar and Encode, of the program and of the reference. -/
set_option linter.unusedVariables false
set_option linter.unusedSimpArgs false
namespace Go.Proofs.Ytkaeihlpdceokaa
open Go.RowKit Bf
theorem rscalar_any (n : Int) (w : World) : Calls Try.prog 27 #[.int .i32 n] w fun e w' => e = .returned (.bool (scalarB n)) ∧ w = w' := by
 cases hb : scalarB n
 · have HR : Hid (scalarB n = false) := hb
   rcases scalarB_false hb with h | h | ⟨h, h'⟩
   · clear hb
     go_enter Try.func27, Try.ntmps27
     go_wp2
     all_goals (go_ret; exact ⟨by first | rfl | (simp; try omega), rfl⟩)
   · clear hb
     have h0 : 0 ≤ n := by omega
     go_enter Try.func27, Try.ntmps27
     go_wp2
     all_goals (go_ret; exact ⟨by first | rfl | (simp; try omega), rfl⟩)
   · clear hb
     have h0 : 0 ≤ n := by omega
     have h1 : n ≤ 1114111 := by omega
     go_enter Try.func27, Try.ntmps27
     go_wp2
     all_goals (go_ret; exact ⟨by first | rfl | (simp; try omega), rfl⟩)
 · have HR : Hid (scalarB n = true) := hb
   obtain ⟨h0, h1, h2⟩ := scalarB_true hb
   clear hb
   by_cases h3 : n < 55296
   · clear h2
     go_enter Try.func27, Try.ntmps27
     go_wp2
     all_goals (go_ret; exact ⟨by first | rfl | (simp; try omega), rfl⟩)
   · have h4 : 57343 < n := by omega
     clear h2
     go_enter Try.func27, Try.ntmps27
     go_wp2
     all_goals (go_ret; exact ⟨by first | rfl | (simp; try omega), rfl⟩)
theorem rscalar_at (n : Int) (b : Bool) (w : World) (h : Hid (scalarB n = b)) : Calls Try.prog 27 #[.int .i32 n] w fun e w' => e = .returned (.bool b) ∧ w = w' := by
 have := rscalar_any n w; rw [h.out] at this; exact this
set_option maxHeartbeats 1000000 in
theorem rencode_any (n : Int) (w : World) : Calls Try.prog 28 #[.int .i32 n] w fun e w' => e = .returned (.string (encB n)) ∧ Below w.heap.size w w' := by
 cases hb : scalarB n
 · have HS : Hid (scalarB n = false) := hb
   have HR : Hid (encB n = ⟨#[]⟩) := by unfold encB; rw [encL_no n hb]; rfl
   clear hb
   go_enter Try.func28, Try.ntmps28
   go_wp2_with (go_at_call 27; refine (rscalar_at _ _ _ HS).mono ?_; rintro e w1 ⟨rfl, rfl⟩)
   go_ret
   refine ⟨by rw [HR.out]; rfl, ?_⟩
   repeat (first | exact Below.refl _ _ | refine bl_alloc ?_ _ | refine Below.drew ?_ | refine bl_drewN ?_ _ | refine bl_set ?_ (by first | (simp; done) | (simp; omega)) _ | refine bl_step ?_ (by assumption))
 · have HS : Hid (scalarB n = true) := hb
   obtain ⟨h0, h1, h2⟩ := scalarB_true hb
   by_cases c1 : n < 128
   · have HR : Hid (encB n = ⟨#[u8 n]⟩) := by unfold encB; rw [encL_1 n hb c1]; rfl
     clear hb h2
     go_enter Try.func28, Try.ntmps28
     go_wp2_with (go_at_call 27; refine (rscalar_at _ _ _ HS).mono ?_; rintro e w1 ⟨rfl, rfl⟩)
     go_ret
     refine ⟨by rw [HR.out]; rfl, ?_⟩
     repeat (first | exact Below.refl _ _ | refine bl_alloc ?_ _ | refine Below.drew ?_ | refine bl_drewN ?_ _ | refine bl_set ?_ (by first | (simp; done) | (simp; omega)) _ | refine bl_step ?_ (by assumption))
   by_cases c2 : n < 2048
   · have HR : Hid (encB n = ⟨#[u8 (192 + n / 64), u8 (128 + n % 64)]⟩) := by unfold encB; rw [encL_2 n hb c1 c2]; rfl
     clear hb h2
     go_enter Try.func28, Try.ntmps28
     go_wp2_with (go_at_call 27; refine (rscalar_at _ _ _ HS).mono ?_; rintro e w1 ⟨rfl, rfl⟩)
     go_ret
     refine ⟨by rw [HR.out]; rfl, ?_⟩
     repeat (first | exact Below.refl _ _ | refine bl_alloc ?_ _ | refine Below.drew ?_ | refine bl_drewN ?_ _ | refine bl_set ?_ (by first | (simp; done) | (simp; omega)) _ | refine bl_step ?_ (by assumption))
   by_cases c3 : n < 65536
   · have HR : Hid (encB n = ⟨#[u8 (224 + n / 4096), u8 (128 + n / 64 % 64), u8 (128 + n % 64)]⟩) := by unfold encB; rw [encL_3 n hb c1 c2 c3]; rfl
     clear hb h2
     go_enter Try.func28, Try.ntmps28
     go_wp2_with (go_at_call 27; refine (rscalar_at _ _ _ HS).mono ?_; rintro e w1 ⟨rfl, rfl⟩)
     go_ret
     refine ⟨by rw [HR.out]; rfl, ?_⟩
     repeat (first | exact Below.refl _ _ | refine bl_alloc ?_ _ | refine Below.drew ?_ | refine bl_drewN ?_ _ | refine bl_set ?_ (by first | (simp; done) | (simp; omega)) _ | refine bl_step ?_ (by assumption))
   · have HR : Hid (encB n = ⟨#[u8 (240 + n / 262144), u8 (128 + n / 4096 % 64), u8 (128 + n / 64 % 64), u8 (128 + n % 64)]⟩) := by unfold encB; rw [encL_4 n hb c1 c2 c3]; rfl
     clear hb h2
     go_enter Try.func28, Try.ntmps28
     go_wp2_with (go_at_call 27; refine (rscalar_at _ _ _ HS).mono ?_; rintro e w1 ⟨rfl, rfl⟩)
     go_ret
     refine ⟨by rw [HR.out]; rfl, ?_⟩
     repeat (first | exact Below.refl _ _ | refine bl_alloc ?_ _ | refine Below.drew ?_ | refine bl_drewN ?_ _ | refine bl_set ?_ (by first | (simp; done) | (simp; omega)) _ | refine bl_step ?_ (by assumption))
end Go.Proofs.Ytkaeihlpdceokaa
/- Contracts: utf.Bad, Valid, Count. -/
namespace Go.Proofs.Ytkaeihlpdceokaa
open Go.RowKit Bf
theorem decAt_in (l : List UInt8) (k : Nat) (h : k < l.length) : decAt l k = decS (l.drop k) := by unfold decAt; rw [if_neg (by omega)]; simp
theorem drop_ne (s : ByteArray) (k : Nat) (h : k < s.size) : s.data.toList.drop k ≠ [] := by
 intro e; have := congrArg List.length e; simp at this; omega
def BadRel (s : ByteArray) (i : Value) : Prop := ∃ k : Nat, i = .int .i64 k ∧ k ≤ s.size ∧ badL s.data.toList = k + badL (s.data.toList.drop k)
set_option maxHeartbeats 400000 in
theorem bad_any (s : ByteArray) (w : World) (hs : s.size ≤ maxLen) :
 Calls Try.prog 31 #[.string s] w fun e w' => e = .returned (.int .i64 (badL s.data.toList : Int)) ∧ Below w.heap.size w w' := by
 have hs' := hs
 unfold maxLen at hs'
 go_enter Try.func31, Try.ntmps31
 go_wp2
 go_loopw [3] (fun i wr => BadRel s i ∧ Below w.heap.size w wr) (fun i _ => s.size - (intOf i).toNat)
 case atStart => exact ⟨⟨0, rfl, Nat.zero_le _, by simp⟩, Below.refl _ _⟩
 case round =>
  obtain ⟨⟨k, rfl, hk, hr⟩, hb0⟩ := hrel
  have Hr := Lib.hid hr; clear hr
  by_cases hlt : k < s.size
  · obtain ⟨r, n, b, hd⟩ : ∃ r n b, decS (s.data.toList.drop k) = (r, n, b) := ⟨_, _, _, rfl⟩
    have hne := drop_ne s k hlt
    have hlen := decS_len (s.data.toList.drop k)
    rw [hd, List.length_drop, toList_length] at hlen
    obtain ⟨n1, n2, n3⟩ := hlen
    have n2' := n2 hne
    simp only at n1 n2' n3
    have HD : Hid (decAt s.data.toList k = (r, n, b)) := by rw [decAt_in _ _ (by rw [toList_length]; exact hlt)]; exact hd
    cases b
    · have HR : Hid (badL s.data.toList = k) := by rw [Hr.out, badL_bad _ _ _ hd]; rfl
      clear hd hne n2
      go_wp2_with (go_at_call 33; refine (decode_at _ _ _ _ _ _ hs (by omega) HD).mono ?_; rintro e w1 ⟨rfl, hb⟩)
      go_ret
      refine ⟨by rw [HR.out]; rfl, ?_⟩
      repeat (first | exact Below.refl _ _ | refine bl_alloc ?_ _ | refine Below.drew ?_ | refine bl_drewN ?_ _ | refine bl_set ?_ (by first | (simp; done) | (simp; omega)) _ | refine bl_step ?_ (by assumption))
    · have HR : Hid (badL s.data.toList = (k + n : Nat) + badL (s.data.toList.drop (k + n))) := by rw [Hr.out, badL_ok _ _ _ hne hd, List.drop_drop]; simp [Hid]; omega
      clear hd hne n2
      go_wp2_with (go_at_call 33; refine (decode_at _ _ _ _ _ _ hs (by omega) HD).mono ?_; rintro e w1 ⟨rfl, hb⟩)
      refine ⟨⟨⟨k + n, by go_num, by omega, HR.out⟩, ?_⟩, by simp [intOf]; omega⟩
      repeat (first | exact Below.refl _ _ | refine bl_alloc ?_ _ | refine Below.drew ?_ | refine bl_drewN ?_ _ | refine bl_set ?_ (by first | (simp; done) | (simp; omega)) _ | refine bl_step ?_ (by assumption))
  · have HR : Hid (badL s.data.toList = k) := by rw [Hr.out, drop_all s k (by omega), badL_nil]; rfl
    go_wp2
    go_ret
    refine ⟨by rw [HR.out]; rfl, ?_⟩
    repeat (first | exact Below.refl _ _ | refine bl_alloc ?_ _ | refine Below.drew ?_ | refine bl_drewN ?_ _ | refine bl_set ?_ (by first | (simp; done) | (simp; omega)) _ | refine bl_step ?_ (by assumption))
theorem bad_at (s : ByteArray) (m : Nat) (w : World) (hs : s.size ≤ maxLen) (h : Hid (badL s.data.toList = m)) :
 Calls Try.prog 31 #[.string s] w fun e w' => e = .returned (.int .i64 (m : Int)) ∧ Below w.heap.size w w' := by
 have := bad_any s w hs; rw [h.out] at this; exact this
def validB (l : List UInt8) : Bool := decide (badL l = l.length)
theorem valid_at (s : ByteArray) (b : Bool) (w : World) (hs : s.size ≤ maxLen) (h : Hid (validB s.data.toList = b)) :
 Calls Try.prog 23 #[.string s] w fun e w' => e = .returned (.bool b) ∧ Below w.heap.size w w' := by
 have hv := h.out
 unfold validB at hv
 rw [toList_length] at hv
 have hq : ((badL s.data.toList : Int) == (s.size : Int)) = b := by rw [← hv]; cases h' : decide (badL s.data.toList = s.size) <;> simp at h' ⊢ <;> omega
 obtain ⟨m, hm⟩ : ∃ m, badL s.data.toList = m := ⟨_, rfl⟩
 rw [hm] at hq
 have HM := Lib.hid hm
 clear hv hm
 go_enter Try.func23, Try.ntmps23
 go_wp2_with (go_at_call 31; refine (bad_at _ m _ hs HM).mono ?_; rintro e w1 ⟨rfl, hb⟩)
 go_ret
 refine ⟨by rfl, ?_⟩
 repeat (first | exact Below.refl _ _ | refine bl_alloc ?_ _ | refine Below.drew ?_ | refine bl_drewN ?_ _ | refine bl_set ?_ (by first | (simp; done) | (simp; omega)) _ | refine bl_step ?_ (by assumption))
end Go.Proofs.Ytkaeihlpdceokaa