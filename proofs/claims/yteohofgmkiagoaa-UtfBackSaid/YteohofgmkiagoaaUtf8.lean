/- Contracts: utf.Runes, and the reference's Walk and Same. -/
import Derived.Test.YteohofgmkiagoaaUtf7
import Derived.Test.YteohofgmkiagoaaMem
import Derived.Deep.QuietTactic
import Derived.BigQuiet
set_option linter.unusedVariables false
set_option linter.unusedSimpArgs false
namespace Go.Proofs.Yteohofgmkiagoaa
open Go.RowKit Bf

theorem info_i32 : (Try.prog.info? 21).map (fun i => (i.zero, i.size, i.bytes)) = some (some (.int .i32 0), 1, 4) := by kernel_rfl
theorem ints_snoc (k : IntKind) (zs : List Int) (r : Int) : ints k zs ++ [.int k r] = ints k (zs ++ [r]) := by unfold ints; simp
def RunesPost (w : World) (l : List UInt8) (e : Ending) (w' : World) : Prop :=
  ∃ v, e = .returned (.tuple #[v, .int .i64 (badL l : Int)]) ∧ Rd w' v (runesL l).length 1 (ints .i32 (runesL l)) ∧ Below w.heap.size w w'
def RunesRel (s : ByteArray) (w : World) (out at_ : Value) (wr : World) : Prop :=
  ∃ (k : Nat) (acc : List Int), at_ = .int .i64 k ∧ k ≤ s.size ∧ acc.length ≤ k ∧ wr.ownsRow w.heap.size 21 1 out acc.length (ints .i32 acc)
    ∧ badL s.data.toList = k + badL (s.data.toList.drop k) ∧ runesL s.data.toList = acc ++ runesL (s.data.toList.drop k) ∧ Below w.heap.size w wr
set_option maxHeartbeats 1000000 in
theorem runes_any (s : ByteArray) (w : World) (hs0 : s.size ≤ 1000000) :
    Calls Try.prog 37 #[.string s] w (RunesPost w s.data.toList) := by
  have hs : s.size ≤ maxLen := by unfold maxLen; omega
  go_enter Try.func37, Try.ntmps37
  go_wp2
  go_loopw [4, 5] (fun out i wr => RunesRel s w out i wr) (fun _ i _ => s.size - (intOf i).toNat)
  case atStart => exact ⟨0, [], rfl, Nat.zero_le _, Nat.zero_le _, World.ownsRow_nil _ _ _ _, by simp, by simp, Below.refl _ _⟩
  case round =>
    obtain ⟨k, acc, rfl, hk, hacc, hown, hb1, hr1, hb0⟩ := hrel
    have H1 := Lib.hid hb1; have H2 := Lib.hid hr1; clear hb1 hr1
    by_cases hlt : k < s.size
    · obtain ⟨r, n, b, hd⟩ : ∃ r n b, decS (s.data.toList.drop k) = (r, n, b) := ⟨_, _, _, rfl⟩
      have hne := drop_ne s k hlt
      have hlen := decS_len (s.data.toList.drop k)
      rw [hd, List.length_drop, toList_length] at hlen
      obtain ⟨n1, n2, n3⟩ := hlen
      have n2' := n2 hne
      simp only at n1 n2' n3
      have HD : Hid (decAt s.data.toList k = (r, n, b)) := by rw [decAt_in _ _ (by rw [toList_length]; exact hlt)]; exact hd
      cases b
      · have HB : Hid (badL s.data.toList = k) := by rw [H1.out, badL_bad _ _ _ hd]; rfl
        have HR : Hid (runesL s.data.toList = acc) := by rw [H2.out, runesL_bad _ _ _ hd, List.append_nil]; rfl
        clear hd hne n2
        go_wp2_with (go_at_call 24; refine (decode_at _ _ _ _ _ _ hs (by omega) HD).mono ?_; rintro e w1 ⟨rfl, hb⟩; have hown1 := ownsRow_below hown hb)
        go_ret2
        refine ⟨_, by rw [HB.out]; rfl, by rw [HR.out]; exact ownsRow_rd hown1, ?_⟩
        repeat (first | exact Below.refl _ _ | refine bl_alloc ?_ _ | refine Below.drew ?_ | refine bl_drewN ?_ _ | refine bl_set ?_ (by first | (simp; done) | (simp; omega)) _ | refine bl_step ?_ (by assumption))
      · have HB : Hid (badL s.data.toList = (k + n : Nat) + badL (s.data.toList.drop (k + n))) := by rw [H1.out, badL_ok _ _ _ hne hd, List.drop_drop]; simp [Hid]; omega
        have HR : Hid (runesL s.data.toList = (acc ++ [r]) ++ runesL (s.data.toList.drop (k + n))) := by rw [H2.out, runesL_ok _ _ _ hne hd, List.drop_drop]; simp [Hid]
        clear hd hne n2
        go_wp2_with (first | (go_at_call 24; refine (decode_at _ _ _ _ _ _ hs (by omega) HD).mono ?_; rintro e w1 ⟨rfl, hb⟩; have hown1 := ownsRow_below hown hb) | (at_builtin; refine app1 rfl _ _ 43 rfl w.heap.size 21 (.int .i32 0) 4 Try.underlying43 info_i32 rfl _ _ _ rfl hown1 (.int .i32 r) rfl _ rfl rfl (by unfold maxLen; omega) (by omega) (Nat.le_trans hb0.size hb.size) ?_; intro v' w2 hown2 hb2 hsz2))
        refine ⟨⟨k + n, acc ++ [r], by go_num, by omega, by simp; omega, by rw [← ints_snoc]; simpa using hown2, HB.out, HR.out, ?_⟩, by simp [intOf]; omega⟩
        exact (bl_step hb0 hb).trans hb2
    · have HB : Hid (badL s.data.toList = k) := by rw [H1.out, drop_all s k (by omega), badL_nil]; rfl
      have HR : Hid (runesL s.data.toList = acc) := by rw [H2.out, drop_all s k (by omega), runesL_nil, List.append_nil]; rfl
      go_wp2
      go_ret2
      refine ⟨_, by rw [HB.out]; rfl, by rw [HR.out]; exact ownsRow_rd hown, ?_⟩
      repeat (first | exact Below.refl _ _ | refine bl_alloc ?_ _ | refine Below.drew ?_ | refine bl_drewN ?_ _ | refine bl_set ?_ (by first | (simp; done) | (simp; omega)) _ | refine bl_step ?_ (by assumption))
def WalkPost (w : World) (l : List UInt8) (e : Ending) (w' : World) : Prop :=
  ∃ v, e = .returned (.tuple #[v, .int .i64 (badL l : Int), .int .i64 (countL l : Int)]) ∧ Rd w' v (runesL l).length 1 (ints .i32 (runesL l)) ∧ Below w.heap.size w w'
def WalkRel (s : ByteArray) (w : World) (out bad many at_ : Value) (wr : World) : Prop :=
  ∃ (k c : Nat) (acc : List Int) (b : Int), at_ = .int .i64 k ∧ many = .int .i64 c ∧ bad = .int .i64 b ∧ k ≤ s.size ∧ c ≤ k ∧ acc.length ≤ k ∧ wr.ownsRow w.heap.size 21 1 out acc.length (ints .i32 acc)
    ∧ countL s.data.toList = c + countL (s.data.toList.drop k)
    ∧ ((b = -1 ∧ badL s.data.toList = k + badL (s.data.toList.drop k) ∧ runesL s.data.toList = acc ++ runesL (s.data.toList.drop k)) ∨ (0 ≤ b ∧ b ≤ 1000000 ∧ (badL s.data.toList : Int) = b ∧ runesL s.data.toList = acc))
    ∧ Below w.heap.size w wr
set_option maxHeartbeats 2000000 in
theorem rwalk_any (s : ByteArray) (w : World) (hs0 : s.size ≤ 1000000) :
    Calls Try.prog 36 #[.string s] w (WalkPost w s.data.toList) := by
  have hs : s.size ≤ maxLen := by unfold maxLen; omega
  go_enter Try.func36, Try.ntmps36
  go_wp2
  go_loopw [5, 6, 7, 8] (fun out bad many i wr => WalkRel s w out bad many i wr) (fun _ _ _ i _ => s.size - (intOf i).toNat)
  case atStart => exact ⟨0, 0, [], -1, rfl, rfl, rfl, Nat.zero_le _, Nat.zero_le _, Nat.zero_le _, World.ownsRow_nil _ _ _ _, by simp, Or.inl ⟨rfl, by simp, by simp⟩, Below.refl _ _⟩
  case round =>
    obtain ⟨k, c, acc, b, rfl, rfl, rfl, hk, hc, hacc, hown, hct, hor, hb0⟩ := hrel
    have H3 := Lib.hid hct; clear hct
    rcases hor with ⟨rfl, hb1, hr1⟩ | ⟨p1, p2, hb1, hr1⟩
    · have H1 := Lib.hid hb1; have H2 := Lib.hid hr1; clear hb1 hr1
      by_cases hlt : k < s.size
      · obtain ⟨r, n, bo, hd⟩ : ∃ r n b, decS (s.data.toList.drop k) = (r, n, b) := ⟨_, _, _, rfl⟩
        have hne := drop_ne s k hlt
        have hlen := decS_len (s.data.toList.drop k)
        rw [hd, List.length_drop, toList_length] at hlen
        obtain ⟨n1, n2, n3⟩ := hlen
        have n2' := n2 hne
        simp only at n1 n2' n3
        have HD : Hid (decAt s.data.toList k = (r, n, bo)) := by rw [decAt_in _ _ (by rw [toList_length]; exact hlt)]; exact hd
        have HC : Hid (countL s.data.toList = (c + 1 : Nat) + countL (s.data.toList.drop (k + n))) := by rw [H3.out, countL_step _ _ _ _ hne hd, List.drop_drop]; simp [Hid]; omega
        cases bo
        · have HB : Hid ((badL s.data.toList : Int) = k) := by rw [H1.out, badL_bad _ _ _ hd]; rfl
          have HR : Hid (runesL s.data.toList = acc) := by rw [H2.out, runesL_bad _ _ _ hd, List.append_nil]; rfl
          clear hd hne n2
          go_wp2_with (first | (go_at_call 25; refine (rdecode_at _ _ _ _ _ _ hs (by omega) HD).mono ?_; rintro e w1 ⟨rfl, hb⟩; have hown1 := ownsRow_below hown hb) | (at_builtin; refine app1 rfl _ _ 43 rfl w.heap.size 21 (.int .i32 0) 4 Try.underlying43 info_i32 rfl _ _ _ rfl hown1 (.int .i32 r) rfl _ rfl rfl (by unfold maxLen; omega) (by omega) (Nat.le_trans hb0.size hb.size) ?_; intro v' w2 hown2 hb2 hsz2))
          refine ⟨⟨k + n, c + 1, acc, k, by go_num, by go_num, rfl, by omega, by omega, by omega, hown1, HC.out, Or.inr ⟨by omega, by omega, HB.out, HR.out⟩, ?_⟩, by simp [intOf]; omega⟩
          repeat (first | exact Below.refl _ _ | refine bl_alloc ?_ _ | refine Below.drew ?_ | refine bl_drewN ?_ _ | refine bl_set ?_ (by first | (simp; done) | (simp; omega)) _ | refine bl_step ?_ (by assumption))
        · have HB : Hid (badL s.data.toList = (k + n : Nat) + badL (s.data.toList.drop (k + n))) := by rw [H1.out, badL_ok _ _ _ hne hd, List.drop_drop]; simp [Hid]; omega
          have HR : Hid (runesL s.data.toList = (acc ++ [r]) ++ runesL (s.data.toList.drop (k + n))) := by rw [H2.out, runesL_ok _ _ _ hne hd, List.drop_drop]; simp [Hid]
          clear hd hne n2
          go_wp2_with (first | (go_at_call 25; refine (rdecode_at _ _ _ _ _ _ hs (by omega) HD).mono ?_; rintro e w1 ⟨rfl, hb⟩; have hown1 := ownsRow_below hown hb) | (at_builtin; refine app1 rfl _ _ 43 rfl w.heap.size 21 (.int .i32 0) 4 Try.underlying43 info_i32 rfl _ _ _ rfl hown1 (.int .i32 r) rfl _ rfl rfl (by unfold maxLen; omega) (by omega) (Nat.le_trans hb0.size hb.size) ?_; intro v' w2 hown2 hb2 hsz2))
          refine ⟨⟨k + n, c + 1, acc ++ [r], -1, by go_num, by go_num, rfl, by omega, by omega, by simp; omega, by rw [← ints_snoc]; simpa using hown2, HC.out, Or.inl ⟨rfl, HB.out, HR.out⟩, ?_⟩, by simp [intOf]; omega⟩
          exact (bl_step hb0 hb).trans hb2
      · have HB : Hid (badL s.data.toList = k) := by rw [H1.out, drop_all s k (by omega), badL_nil]; rfl
        have HR : Hid (runesL s.data.toList = acc) := by rw [H2.out, drop_all s k (by omega), runesL_nil, List.append_nil]; rfl
        have HC : Hid (countL s.data.toList = c) := by rw [H3.out, drop_all s k (by omega), countL_nil]; rfl
        have hks : k = s.size := by omega
        have HK := Lib.hid hks
        clear hks
        go_wp2
        go_ret3
        refine ⟨_, by rw [HB.out, HC.out, HK.out]; rfl, by rw [HR.out]; exact ownsRow_rd hown, ?_⟩
        repeat (first | exact Below.refl _ _ | refine bl_alloc ?_ _ | refine Below.drew ?_ | refine bl_drewN ?_ _ | refine bl_set ?_ (by first | (simp; done) | (simp; omega)) _ | refine bl_step ?_ (by assumption))
    · have HB := Lib.hid hb1; have HR := Lib.hid hr1; clear hb1 hr1
      by_cases hlt : k < s.size
      · obtain ⟨r, n, bo, hd⟩ : ∃ r n b, decS (s.data.toList.drop k) = (r, n, b) := ⟨_, _, _, rfl⟩
        have hne := drop_ne s k hlt
        have hlen := decS_len (s.data.toList.drop k)
        rw [hd, List.length_drop, toList_length] at hlen
        obtain ⟨n1, n2, n3⟩ := hlen
        have n2' := n2 hne
        simp only at n1 n2' n3
        have HD : Hid (decAt s.data.toList k = (r, n, bo)) := by rw [decAt_in _ _ (by rw [toList_length]; exact hlt)]; exact hd
        have HC : Hid (countL s.data.toList = (c + 1 : Nat) + countL (s.data.toList.drop (k + n))) := by rw [H3.out, countL_step _ _ _ _ hne hd, List.drop_drop]; simp [Hid]; omega
        clear hd hne n2
        cases bo
        all_goals (
          go_wp2_with (first | (go_at_call 25; refine (rdecode_at _ _ _ _ _ _ hs (by omega) HD).mono ?_; rintro e w1 ⟨rfl, hb⟩; have hown1 := ownsRow_below hown hb) | (at_builtin; refine app1 rfl _ _ 43 rfl w.heap.size 21 (.int .i32 0) 4 Try.underlying43 info_i32 rfl _ _ _ rfl hown1 (.int .i32 r) rfl _ rfl rfl (by unfold maxLen; omega) (by omega) (Nat.le_trans hb0.size hb.size) ?_; intro v' w2 hown2 hb2 hsz2))
          refine ⟨⟨k + n, c + 1, acc, b, by go_num, by go_num, rfl, by omega, by omega, by omega, hown1, HC.out, Or.inr ⟨by omega, by omega, HB.out, HR.out⟩, ?_⟩, by simp [intOf]; omega⟩
          repeat (first | exact Below.refl _ _ | refine bl_alloc ?_ _ | refine Below.drew ?_ | refine bl_drewN ?_ _ | refine bl_set ?_ (by first | (simp; done) | (simp; omega)) _ | refine bl_step ?_ (by assumption))
          )
      · have HC : Hid (countL s.data.toList = c) := by rw [H3.out, drop_all s k (by omega), countL_nil]; rfl
        go_wp2
        go_ret3
        refine ⟨_, by rw [HB.out, HC.out]; rfl, by rw [HR.out]; exact ownsRow_rd hown, ?_⟩
        repeat (first | exact Below.refl _ _ | refine bl_alloc ?_ _ | refine Below.drew ?_ | refine bl_drewN ?_ _ | refine bl_set ?_ (by first | (simp; done) | (simp; omega)) _ | refine bl_step ?_ (by assumption))
/-- The places before i are the same. -/
def SameRel (w : World) (za zb : List Int) (i : Value) (wr : World) : Prop := ∃ k : Nat, i = .int .i64 k ∧ k ≤ za.length ∧ za.take k = zb.take k ∧ Below w.heap.size w wr
theorem same_any (va vb : Value) (za zb : List Int) (b : Bool) (w : World) (ha : Rd w va za.length 1 (ints .i32 za)) (hb : Rd w vb zb.length 1 (ints .i32 zb)) (h : Hid (decide (za = zb) = b))
    (hla : za.length ≤ 1000000) (hlb : zb.length ≤ 1000000) :
    Calls Try.prog 38 #[va, vb] w fun e w' => e = .returned (.bool b) ∧ Below w.heap.size w w' := by
  obtain ⟨_, ha2⟩ := ha
  obtain ⟨_, hb2⟩ := hb
  by_cases hl : za.length = zb.length
  · by_cases hz : za.length = 0
    · have hb0 : b = true := by
        rw [← h.out]; simp
        rw [List.length_eq_zero_iff.1 hz, List.length_eq_zero_iff.1 (by omega : zb.length = 0)]
      subst hb0
      have hva : ∃ a c, va = .slice a 0 c := by
        rcases ha2 with ⟨_, h1⟩ | ⟨g, off, cap, h1, _⟩
        · exact h1
        · exact ⟨_, cap, by rw [h1, hz]⟩
      have hvb : ∃ a c, vb = .slice a 0 c := by
        rcases hb2 with ⟨_, h1⟩ | ⟨g, off, cap, h1, _⟩
        · exact h1
        · exact ⟨_, cap, by rw [h1, ← hl, hz]⟩
      obtain ⟨a1, c1, rfl⟩ := hva
      obtain ⟨a2, c2, rfl⟩ := hvb
      clear ha2 hb2 h hl hz
      go_enter Try.func38, Try.ntmps38
      go_wp2
      go_loop [5] (fun i => i = .int .i64 0) (fun _ => 0)
      case atStart => rfl
      case round =>
        subst hrel
        go_wp2
        go_ret
        refine ⟨by rfl, ?_⟩
        repeat (first | exact Below.refl _ _ | refine bl_alloc ?_ _ | refine Below.drew ?_ | refine bl_drewN ?_ _ | refine bl_set ?_ (by first | (simp; done) | (simp; omega)) _ | refine bl_step ?_ (by assumption))
    · rcases ha2 with ⟨h2, _⟩ | ⟨g, off, cap, rfl, hg, _, _, hx⟩
      · exact absurd h2 hz
      rcases hb2 with ⟨h2, _⟩ | ⟨g2, off2, cap2, rfl, hg2, _, _, hx2⟩
      · exact absurd h2 (by omega)
      have HX := Lib.hid hx; have HX2 := Lib.hid hx2
      clear hx hx2
      rw [← hl]
      have HL := Lib.hid hl
      clear hl hz hlb
      obtain ⟨n, hn⟩ : ∃ n, za.length = n := ⟨_, rfl⟩
      rw [hn] at hla ⊢
      have HN := Lib.hid hn
      clear hn
      go_enter Try.func38, Try.ntmps38
      go_wp2
      go_loopw [5] (fun i wr => SameRel w za zb i wr) (fun i _ => n - (intOf i).toNat)
      case atStart => exact ⟨0, rfl, Nat.zero_le _, by simp, Below.refl _ _⟩
      case round =>
        obtain ⟨k, rfl, hk, htk, hbw⟩ := hrel
        rw [HN.out] at hk
        by_cases hlt : k < n
        · have hka : k < za.length := by rw [HN.out]; exact hlt
          have hkb : k < zb.length := by rw [← HL.out]; exact hka
          have x1 : wr.cell? ⟨g, off + k, none⟩ = some (.int .i32 za[k]) := by
            rw [hbw.cell (p := ⟨g, off + k, none⟩) hg]; have := HX.out k (by unfold ints; simpa using hka); rw [this]; unfold ints; simp
          have x2 : wr.cell? ⟨g2, off2 + k, none⟩ = some (.int .i32 zb[k]) := by
            rw [hbw.cell (p := ⟨g2, off2 + k, none⟩) hg2]; have := HX2.out k (by unfold ints; simpa using hkb); rw [this]; unfold ints; simp
          have y0 : (0 : Int) ≤ k := by omega
          have y1 : (k : Int) < n := by omega
          obtain ⟨A, hA⟩ : ∃ A, za[k] = A := ⟨_, rfl⟩
          obtain ⟨B, hB⟩ : ∃ B, zb[k] = B := ⟨_, rfl⟩
          rw [hA] at x1
          rw [hB] at x2
          by_cases hAB : A = B
          · have ht : (A != B) = false := by simp [hAB]
            have ht' : (A == B) = true := by simp [hAB]
            have HT : Hid (za.take (k + 1) = zb.take (k + 1)) := by
              rw [List.take_succ_eq_append_getElem hka, List.take_succ_eq_append_getElem hkb, htk, hA, hB, hAB]; rfl
            clear htk hA hB hAB
            go_wp2
            go_quiet (fail)
            go_wp2
            refine ⟨⟨k + 1, by go_num, by rw [HN.out]; omega, HT.out, ?_⟩, by simp [intOf]; omega⟩
            repeat (first | exact Below.refl _ _ | refine bl_alloc ?_ _ | refine Below.drew ?_ | refine bl_drewN ?_ _ | refine bl_set ?_ (by first | (simp; done) | (simp; omega)) _ | refine bl_step ?_ (by assumption))
          · have ht : (A != B) = true := by simp [hAB]
            have ht' : (A == B) = false := by simp [hAB]
            have hb0 : Hid (b = false) := by
              rw [← h.out]; simp; intro e; subst e; exact hAB (by rw [← hA, ← hB])
            clear htk hA hB hAB
            go_wp2
            go_quiet (fail)
            go_wp2
            go_ret
            refine ⟨by rw [hb0.out]; rfl, ?_⟩
            repeat (first | exact Below.refl _ _ | refine bl_alloc ?_ _ | refine Below.drew ?_ | refine bl_drewN ?_ _ | refine bl_set ?_ (by first | (simp; done) | (simp; omega)) _ | refine bl_step ?_ (by assumption))
        · have hb0 : Hid (b = true) := by
            have : za = zb := by
              have h1 : za.take k = za := List.take_of_length_le (by rw [HN.out]; omega)
              have h2 : zb.take k = zb := List.take_of_length_le (by rw [← HL.out, HN.out]; omega)
              rw [h1, h2] at htk; exact htk
            rw [← h.out]; simp [Hid, this]
          clear htk
          go_wp2
          go_ret
          refine ⟨by rw [hb0.out]; rfl, ?_⟩
          repeat (first | exact Below.refl _ _ | refine bl_alloc ?_ _ | refine Below.drew ?_ | refine bl_drewN ?_ _ | refine bl_set ?_ (by first | (simp; done) | (simp; omega)) _ | refine bl_step ?_ (by assumption))
  · have hb0 : b = false := by rw [← h.out]; simp; intro e; exact hl (by rw [e])
    subst hb0
    have ht : ((za.length : Int) != (zb.length : Int)) = true := by simp; omega
    have hva : ∃ a c, va = .slice a za.length c := by
      rcases ha2 with ⟨h2, a, c, h1⟩ | ⟨g, off, cap, h1, _⟩
      · exact ⟨a, c, by rw [h1, h2]⟩
      · exact ⟨_, cap, h1⟩
    have hvb : ∃ a c, vb = .slice a zb.length c := by
      rcases hb2 with ⟨h2, a, c, h1⟩ | ⟨g, off, cap, h1, _⟩
      · exact ⟨a, c, by rw [h1, h2]⟩
      · exact ⟨_, cap, h1⟩
    obtain ⟨a1, c1, rfl⟩ := hva
    obtain ⟨a2, c2, rfl⟩ := hvb
    clear ha2 hb2 h hl
    go_enter Try.func38, Try.ntmps38
    go_wp2
    go_ret
    refine ⟨by rfl, ?_⟩
    repeat (first | exact Below.refl _ _ | refine bl_alloc ?_ _ | refine Below.drew ?_ | refine bl_drewN ?_ _ | refine bl_set ?_ (by first | (simp; done) | (simp; omega)) _ | refine bl_step ?_ (by assumption))
end Go.Proofs.Yteohofgmkiagoaa
