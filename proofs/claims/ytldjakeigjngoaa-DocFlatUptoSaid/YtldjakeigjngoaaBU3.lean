/- BU3: texts of this proof, joined by program: Utf3, Utf4. -/
import Derived.Test.YtldjakeigjngoaaUtf2Q
/- Contracts: Scalar and Encode, of the program and of the reference. -/
set_option linter.unusedVariables false
set_option linter.unusedSimpArgs false
namespace Go.Proofs.Ytldjakeigjngoaa
open Go.RowKit Bf

end Go.Proofs.Ytldjakeigjngoaa
/- Contracts: utf.Bad, Valid, Count. -/
set_option linter.unusedVariables false
set_option linter.unusedSimpArgs false
namespace Go.Proofs.Ytldjakeigjngoaa
open Go.RowKit Bf

theorem decAt_in (l : List UInt8) (k : Nat) (h : k < l.length) : decAt l k = decS (l.drop k) := by unfold decAt; rw [if_neg (by omega)]; simp
theorem drop_ne (s : ByteArray) (k : Nat) (h : k < s.size) : s.data.toList.drop k ≠ [] := by
  intro e; have := congrArg List.length e; simp at this; omega
def BadRel (s : ByteArray) (i : Value) : Prop := ∃ k : Nat, i = .int .i64 k ∧ k ≤ s.size ∧ badL s.data.toList = k + badL (s.data.toList.drop k)
set_option maxHeartbeats 400000 in
theorem bad_any (s : ByteArray) (w : World) (hs : s.size ≤ maxLen) :
    Calls Try.prog 149 #[.string s] w fun e w' => e = .returned (.int .i64 (badL s.data.toList : Int)) ∧ Below w.heap.size w w' := by
  have hs' := hs
  unfold maxLen at hs'
  go_enter Try.func149, Try.ntmps149
  go_wp2
  go_loopw [3] (fun i wr => BadRel s i ∧ Below w.heap.size w wr) (fun i _ => s.size - (intOf i).toNat)
  case atStart => exact ⟨⟨0, rfl, Nat.zero_le _, by simp⟩, Below.refl _ _⟩
  case round =>
    obtain ⟨⟨k, rfl, hk, hr⟩, hb0⟩ := hrel
    have Hr := Lib.hid hr; clear hr
    by_cases hlt : k < s.size
    · obtain ⟨r, n, b, hd⟩ : ∃ r n b, decS (s.data.toList.drop k) = (r, n, b) := ⟨_, _, _, rfl⟩
      have hne := drop_ne s k hlt
      have hlen := decS_len (s.data.toList.drop k)
      rw [hd, List.length_drop, toList_length] at hlen
      obtain ⟨n1, n2, n3⟩ := hlen
      have n2' := n2 hne
      simp only at n1 n2' n3
      have HD : Hid (decAt s.data.toList k = (r, n, b)) := by rw [decAt_in _ _ (by rw [toList_length]; exact hlt)]; exact hd
      cases b
      · have HR : Hid (badL s.data.toList = k) := by rw [Hr.out, badL_bad _ _ _ hd]; rfl
        clear hd hne n2
        go_wp2_with (go_at_call 152; refine (decode_at _ _ _ _ _ _ hs (by omega) HD).mono ?_; rintro e w1 ⟨rfl, hb⟩)
        go_ret
        refine ⟨by rw [HR.out]; rfl, ?_⟩
        repeat (first | exact Below.refl _ _ | refine bl_alloc ?_ _ | refine Below.drew ?_ | refine bl_drewN ?_ _ | refine bl_set ?_ (by first | (simp; done) | (simp; omega)) _ | refine bl_step ?_ (by assumption))
      · have HR : Hid (badL s.data.toList = (k + n : Nat) + badL (s.data.toList.drop (k + n))) := by rw [Hr.out, badL_ok _ _ _ hne hd, List.drop_drop]; simp [Hid]; omega
        clear hd hne n2
        go_wp2_with (go_at_call 152; refine (decode_at _ _ _ _ _ _ hs (by omega) HD).mono ?_; rintro e w1 ⟨rfl, hb⟩)
        refine ⟨⟨⟨k + n, by go_num, by omega, HR.out⟩, ?_⟩, by simp [intOf]; omega⟩
        repeat (first | exact Below.refl _ _ | refine bl_alloc ?_ _ | refine Below.drew ?_ | refine bl_drewN ?_ _ | refine bl_set ?_ (by first | (simp; done) | (simp; omega)) _ | refine bl_step ?_ (by assumption))
    · have HR : Hid (badL s.data.toList = k) := by rw [Hr.out, drop_all s k (by omega), badL_nil]; rfl
      go_wp2
      go_ret
      refine ⟨by rw [HR.out]; rfl, ?_⟩
      repeat (first | exact Below.refl _ _ | refine bl_alloc ?_ _ | refine Below.drew ?_ | refine bl_drewN ?_ _ | refine bl_set ?_ (by first | (simp; done) | (simp; omega)) _ | refine bl_step ?_ (by assumption))
theorem bad_at (s : ByteArray) (m : Nat) (w : World) (hs : s.size ≤ maxLen) (h : Hid (badL s.data.toList = m)) :
    Calls Try.prog 149 #[.string s] w fun e w' => e = .returned (.int .i64 (m : Int)) ∧ Below w.heap.size w w' := by
  have := bad_any s w hs; rw [h.out] at this; exact this
def validB (l : List UInt8) : Bool := decide (badL l = l.length)
theorem valid_at (s : ByteArray) (b : Bool) (w : World) (hs : s.size ≤ maxLen) (h : Hid (validB s.data.toList = b)) :
    Calls Try.prog 115 #[.string s] w fun e w' => e = .returned (.bool b) ∧ Below w.heap.size w w' := by
  have hv := h.out
  unfold validB at hv
  rw [toList_length] at hv
  have hq : ((badL s.data.toList : Int) == (s.size : Int)) = b := by rw [← hv]; cases h' : decide (badL s.data.toList = s.size) <;> simp at h' ⊢ <;> omega
  obtain ⟨m, hm⟩ : ∃ m, badL s.data.toList = m := ⟨_, rfl⟩
  rw [hm] at hq
  have HM := Lib.hid hm
  clear hv hm
  go_enter Try.func115, Try.ntmps115
  go_wp2_with (go_at_call 149; refine (bad_at _ m _ hs HM).mono ?_; rintro e w1 ⟨rfl, hb⟩)
  go_ret
  refine ⟨by rfl, ?_⟩
  repeat (first | exact Below.refl _ _ | refine bl_alloc ?_ _ | refine Below.drew ?_ | refine bl_drewN ?_ _ | refine bl_set ?_ (by first | (simp; done) | (simp; omega)) _ | refine bl_step ?_ (by assumption))
end Go.Proofs.Ytldjakeigjngoaa
