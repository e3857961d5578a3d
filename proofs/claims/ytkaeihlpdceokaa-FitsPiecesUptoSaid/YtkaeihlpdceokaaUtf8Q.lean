/- Contracts: utf.Runes, and the reference's Walk and Same. -/
import Derived.Test.YtkaeihlpdceokaaBUB
import Derived.Test.YtkaeihlpdceokaaBBA
import Derived.Deep.QuietTactic
import Derived.BigQuiet
set_option linter.unusedVariables false
set_option linter.unusedSimpArgs false
namespace Go.Proofs.Ytkaeihlpdceokaa
open Go.RowKit Bf
theorem info_i32 : (Try.prog.info? 21).map (fun i => (i.zero, i.size, i.bytes)) = some (some (.int .i32 0), 1, 4) := by kernel_rfl
theorem ints_snoc (k : IntKind) (zs : List Int) (r : Int) : ints k zs ++ [.int k r] = ints k (zs ++ [r]) := by unfold ints; simp
def WalkPost (w : World) (l : List UInt8) (e : Ending) (w' : World) : Prop :=
 ∃ v, e = .returned (.tuple #[v, .int .i64 (badL l : Int), .int .i64 (countL l : Int)]) ∧ Rd w' v (runesL l).length 1 (ints .i32 (runesL l)) ∧ Below w.heap.size w w'
def WalkRel (s : ByteArray) (w : World) (out bad many at_ : Value) (wr : World) : Prop :=
 ∃ (k c : Nat) (acc : List Int) (b : Int), at_ = .int .i64 k ∧ many = .int .i64 c ∧ bad = .int .i64 b ∧ k ≤ s.size ∧ c ≤ k ∧ acc.length ≤ k ∧ wr.ownsRow w.heap.size 21 1 out acc.length (ints .i32 acc)
  ∧ countL s.data.toList = c + countL (s.data.toList.drop k)
  ∧ ((b = -1 ∧ badL s.data.toList = k + badL (s.data.toList.drop k) ∧ runesL s.data.toList = acc ++ runesL (s.data.toList.drop k)) ∨ (0 ≤ b ∧ b ≤ 2000000 ∧ (badL s.data.toList : Int) = b ∧ runesL s.data.toList = acc))
  ∧ Below w.heap.size w wr
set_option maxHeartbeats 2000000 in
theorem rwalk_any (s : ByteArray) (w : World) (hs0 : s.size ≤ 2000000) :
 Calls Try.prog 13 #[.string s] w (WalkPost w s.data.toList) := by
 have hs : s.size ≤ maxLen := by unfold maxLen; omega
 go_enter Try.func13, Try.ntmps13
 go_wp2
 go_loopw [5, 6, 7, 8] (fun out bad many i wr => WalkRel s w out bad many i wr) (fun _ _ _ i _ => s.size - (intOf i).toNat)
 case atStart => exact ⟨0, 0, [], -1, rfl, rfl, rfl, Nat.zero_le _, Nat.zero_le _, Nat.zero_le _, World.ownsRow_nil _ _ _ _, by simp, Or.inl ⟨rfl, by simp, by simp⟩, Below.refl _ _⟩
 case round =>
  obtain ⟨k, c, acc, b, rfl, rfl, rfl, hk, hc, hacc, hown, hct, hor, hb0⟩ := hrel
  have H3 := Lib.hid hct; clear hct
  rcases hor with ⟨rfl, hb1, hr1⟩ | ⟨p1, p2, hb1, hr1⟩
  · have H1 := Lib.hid hb1; have H2 := Lib.hid hr1; clear hb1 hr1
    by_cases hlt : k < s.size
    · obtain ⟨r, n, bo, hd⟩ : ∃ r n b, decS (s.data.toList.drop k) = (r, n, b) := ⟨_, _, _, rfl⟩
      have hne := drop_ne s k hlt
      have hlen := decS_len (s.data.toList.drop k)
      rw [hd, List.length_drop, toList_length] at hlen
      obtain ⟨n1, n2, n3⟩ := hlen
      have n2' := n2 hne
      simp only at n1 n2' n3
      have HD : Hid (decAt s.data.toList k = (r, n, bo)) := by rw [decAt_in _ _ (by rw [toList_length]; exact hlt)]; exact hd
      have HC : Hid (countL s.data.toList = (c + 1 : Nat) + countL (s.data.toList.drop (k + n))) := by rw [H3.out, countL_step _ _ _ _ hne hd, List.drop_drop]; simp [Hid]; omega
      cases bo
      · have HB : Hid ((badL s.data.toList : Int) = k) := by rw [H1.out, badL_bad _ _ _ hd]; rfl
        have HR : Hid (runesL s.data.toList = acc) := by rw [H2.out, runesL_bad _ _ _ hd, List.append_nil]; rfl
        clear hd hne n2
        go_wp2_with (first | (go_at_call 20; refine (rdecode_at _ _ _ _ _ _ hs (by omega) HD).mono ?_; rintro e w1 ⟨rfl, hb⟩; have hown1 := ownsRow_below hown hb) | (at_builtin; refine app1 rfl _ _ 44 rfl w.heap.size 21 (.int .i32 0) 4 Try.underlying44 info_i32 rfl _ _ _ rfl hown1 (.int .i32 r) rfl _ rfl rfl (by unfold maxLen; omega) (by omega) (Nat.le_trans hb0.size hb.size) ?_; intro v' w2 hown2 hb2 hsz2))
        refine ⟨⟨k + n, c + 1, acc, k, by go_num, by go_num, rfl, by omega, by omega, by omega, hown1, HC.out, Or.inr ⟨by omega, by omega, HB.out, HR.out⟩, ?_⟩, by simp [intOf]; omega⟩
        repeat (first | exact Below.refl _ _ | refine bl_alloc ?_ _ | refine Below.drew ?_ | refine bl_drewN ?_ _ | refine bl_set ?_ (by first | (simp; done) | (simp; omega)) _ | refine bl_step ?_ (by assumption))
      · have HB : Hid (badL s.data.toList = (k + n : Nat) + badL (s.data.toList.drop (k + n))) := by rw [H1.out, badL_ok _ _ _ hne hd, List.drop_drop]; simp [Hid]; omega
        have HR : Hid (runesL s.data.toList = (acc ++ [r]) ++ runesL (s.data.toList.drop (k + n))) := by rw [H2.out, runesL_ok _ _ _ hne hd, List.drop_drop]; simp [Hid]
        clear hd hne n2
        go_wp2_with (first | (go_at_call 20; refine (rdecode_at _ _ _ _ _ _ hs (by omega) HD).mono ?_; rintro e w1 ⟨rfl, hb⟩; have hown1 := ownsRow_below hown hb) | (at_builtin; refine app1 rfl _ _ 44 rfl w.heap.size 21 (.int .i32 0) 4 Try.underlying44 info_i32 rfl _ _ _ rfl hown1 (.int .i32 r) rfl _ rfl rfl (by unfold maxLen; omega) (by omega) (Nat.le_trans hb0.size hb.size) ?_; intro v' w2 hown2 hb2 hsz2))
        refine ⟨⟨k + n, c + 1, acc ++ [r], -1, by go_num, by go_num, rfl, by omega, by omega, by simp; omega, by rw [← ints_snoc]; simpa using hown2, HC.out, Or.inl ⟨rfl, HB.out, HR.out⟩, ?_⟩, by simp [intOf]; omega⟩
        exact (bl_step hb0 hb).trans hb2
    · have HB : Hid (badL s.data.toList = k) := by rw [H1.out, drop_all s k (by omega), badL_nil]; rfl
      have HR : Hid (runesL s.data.toList = acc) := by rw [H2.out, drop_all s k (by omega), runesL_nil, List.append_nil]; rfl
      have HC : Hid (countL s.data.toList = c) := by rw [H3.out, drop_all s k (by omega), countL_nil]; rfl
      have hks : k = s.size := by omega
      have HK := Lib.hid hks
      clear hks
      go_wp2
      go_ret3
      refine ⟨_, by rw [HB.out, HC.out, HK.out]; rfl, by rw [HR.out]; exact ownsRow_rd hown, ?_⟩
      repeat (first | exact Below.refl _ _ | refine bl_alloc ?_ _ | refine Below.drew ?_ | refine bl_drewN ?_ _ | refine bl_set ?_ (by first | (simp; done) | (simp; omega)) _ | refine bl_step ?_ (by assumption))
  · have HB := Lib.hid hb1; have HR := Lib.hid hr1; clear hb1 hr1
    by_cases hlt : k < s.size
    · obtain ⟨r, n, bo, hd⟩ : ∃ r n b, decS (s.data.toList.drop k) = (r, n, b) := ⟨_, _, _, rfl⟩
      have hne := drop_ne s k hlt
      have hlen := decS_len (s.data.toList.drop k)
      rw [hd, List.length_drop, toList_length] at hlen
      obtain ⟨n1, n2, n3⟩ := hlen
      have n2' := n2 hne
      simp only at n1 n2' n3
      have HD : Hid (decAt s.data.toList k = (r, n, bo)) := by rw [decAt_in _ _ (by rw [toList_length]; exact hlt)]; exact hd
      have HC : Hid (countL s.data.toList = (c + 1 : Nat) + countL (s.data.toList.drop (k + n))) := by rw [H3.out, countL_step _ _ _ _ hne hd, List.drop_drop]; simp [Hid]; omega
      clear hd hne n2
      cases bo
      all_goals (
       go_wp2_with (first | (go_at_call 20; refine (rdecode_at _ _ _ _ _ _ hs (by omega) HD).mono ?_; rintro e w1 ⟨rfl, hb⟩; have hown1 := ownsRow_below hown hb) | (at_builtin; refine app1 rfl _ _ 44 rfl w.heap.size 21 (.int .i32 0) 4 Try.underlying44 info_i32 rfl _ _ _ rfl hown1 (.int .i32 r) rfl _ rfl rfl (by unfold maxLen; omega) (by omega) (Nat.le_trans hb0.size hb.size) ?_; intro v' w2 hown2 hb2 hsz2))
       refine ⟨⟨k + n, c + 1, acc, b, by go_num, by go_num, rfl, by omega, by omega, by omega, hown1, HC.out, Or.inr ⟨by omega, by omega, HB.out, HR.out⟩, ?_⟩, by simp [intOf]; omega⟩
       repeat (first | exact Below.refl _ _ | refine bl_alloc ?_ _ | refine Below.drew ?_ | refine bl_drewN ?_ _ | refine bl_set ?_ (by first | (simp; done) | (simp; omega)) _ | refine bl_step ?_ (by assumption))
       )
    · have HC : Hid (countL s.data.toList = c) := by rw [H3.out, drop_all s k (by omega), countL_nil]; rfl
      go_wp2
      go_ret3
      refine ⟨_, by rw [HB.out, HC.out]; rfl, by rw [HR.out]; exact ownsRow_rd hown, ?_⟩
      repeat (first | exact Below.refl _ _ | refine bl_alloc ?_ _ | refine Below.drew ?_ | refine bl_drewN ?_ _ | refine bl_set ?_ (by first | (simp; done) | (simp; omega)) _ | refine bl_step ?_ (by assumption))
end Go.Proofs.Ytkaeihlpdceokaa