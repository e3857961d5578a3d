/- BPI: texts of this proof, joined by program: Pinned, Pinned2. -/
import Derived.Test.YtkaeihlpdceokaaBBA
import Derived.Test.YtkaeihlpdceokaaBPL
/- Contracts of the package pinned: the tables, and the search in them. -/
set_option linter.unusedVariables false
set_option linter.unusedSimpArgs false
namespace Go.Proofs.Ytkaeihlpdceokaa
open Go.RowKit Bf
def spans (l : List (Int × Int)) : List Value := l.flatMap fun p => [.int .i32 p.1, .int .i32 p.2]
theorem spans_len (l : List (Int × Int)) : (spans l).length = l.length * 2 := by
 unfold spans; induction l with
 | nil => rfl
 | cons p l ih => simp at ih ⊢; omega
theorem spans_get (l : List (Int × Int)) (i : Nat) (h : i < l.length) : (spans l)[2 * i]? = some (.int .i32 l[i].1) ∧ (spans l)[2 * i + 1]? = some (.int .i32 l[i].2) := by
 induction l generalizing i with
 | nil => simp at h
 | cons p l ih =>
  have e : spans (p :: l) = .int .i32 p.1 :: .int .i32 p.2 :: spans l := by simp [spans]
  cases i with
  | zero => rw [e]; exact ⟨rfl, rfl⟩
  | succ i =>
   have := ih i (by simpa using h)
   rw [e, show 2 * (i + 1) = 2 * i + 1 + 1 by omega, show 2 * i + 1 + 1 + 1 = (2 * i + 1) + 1 + 1 by omega]
   simpa using this
theorem rd_new (w : World) (e : TypeId) (n size : Nat) (xs : List Value) (h : xs.length = n * size) (hn : n ≤ maxLen) : Rd (w.alloc (.cells xs.toArray e)) (.slice (some ⟨w.heap.size, 0, none⟩) n n) n size xs :=
 ⟨h, Or.inr ⟨w.heap.size, 0, n, rfl, by simp, Nat.le_refl _, hn, fun j hj => by rw [World.cell?_alloc_mark]; simp [List.getElem?_eq_getElem hj]⟩⟩
set_option maxRecDepth 200000 in
set_option maxHeartbeats 4000000 in
theorem zero_any (w : World) : Calls Try.prog 50 #[] w fun e w' => e = .returned (.slice (some ⟨w.heap.size, 0, none⟩) 82 82) ∧ w.alloc (.cells (spans zeroT).toArray 82) = w' := by
 exact calls_run (fuel := 20) (n := 1) (by kernel_rfl)
set_option maxRecDepth 200000 in
set_option maxHeartbeats 4000000 in
theorem wide_any (w : World) : Calls Try.prog 49 #[] w fun e w' => e = .returned (.slice (some ⟨w.heap.size, 0, none⟩) 116 116) ∧ w.alloc (.cells (spans wideT).toArray 82) = w' := by
 exact calls_run (fuel := 20) (n := 1) (by kernel_rfl)
end Go.Proofs.Ytkaeihlpdceokaa
/- Contracts of the package pinned: the search, IsWide, IsZero, Kind, IsUnsafe. -/
namespace Go.Proofs.Ytkaeihlpdceokaa
open Go.RowKit Bf
def InRel (l : List (Int × Int)) (r : Int) (lo hi : Value) : Prop := ∃ a b : Nat, lo = .int .i64 a ∧ hi = .int .i64 b ∧ a ≤ l.length ∧ b ≤ l.length ∧ OutT l r a b
set_option maxHeartbeats 1000000 in
theorem in_any (l : List (Int × Int)) (v : Value) (r : Int) (w : World) (ho : orderT l = true) (hl : l.length ≤ 100000) (hr : -2147483648 ≤ r ∧ r ≤ 2147483647)
 (hrd : Rd w v l.length 2 (spans l)) :
 Calls Try.prog 48 #[v, .int .i32 r] w fun e w' => e = .returned (.bool (hasT l r)) ∧ w = w' := by
 obtain ⟨r1, r2⟩ := hr
 obtain ⟨_, hx⟩ := hrd
 have HO := Lib.hid ho
 clear ho
 rcases hx with ⟨hz, a, c, rfl⟩ | ⟨g, off, cap, rfl, hg, _, _, hc⟩
 · have HR : Hid (hasT l r = false) := by rw [List.length_eq_zero_iff.1 hz]; rfl
   clear hz hl
   go_enter Try.func48, Try.ntmps48
   go_wp2
   go_loop [5, 6] (fun lo hi => lo = .int .i64 0 ∧ hi = .int .i64 0) (fun _ _ => 0)
   case atStart => exact ⟨rfl, rfl⟩
   case round =>
    obtain ⟨rfl, rfl⟩ := hrel
    go_wp2
    go_ret
    exact ⟨by rw [HR.out]; rfl, rfl⟩
 · have HC : Hid (∀ i (h : i < l.length), w.cell? ⟨g, off + i * 2, none⟩ = some (.int .i32 l[i].1) ∧ w.cell? ⟨g, off + i * 2 + 1, none⟩ = some (.int .i32 l[i].2)) := by
    intro i hi
    have hsl := spans_len l
    obtain ⟨g1, g2⟩ := spans_get l i hi
    have c1 := hc (2 * i) (by omega)
    have c2 := hc (2 * i + 1) (by omega)
    rw [List.getElem?_eq_getElem (by omega)] at g1 g2
    rw [Option.some.inj g1] at c1
    rw [Option.some.inj g2] at c2
    rw [show off + i * 2 = off + 2 * i by omega, show off + 2 * i + 1 = off + (2 * i + 1) by omega]
    exact ⟨c1, c2⟩
   clear hc
   obtain ⟨n, hn⟩ : ∃ n, l.length = n := ⟨_, rfl⟩
   rw [hn] at hl ⊢
   have HN := Lib.hid hn
   clear hn
   go_enter Try.func48, Try.ntmps48
   go_wp2
   go_loop [5, 6] (fun lo hi => InRel l r lo hi) (fun lo hi => ((intOf hi) - (intOf lo)).toNat)
   case atStart => exact ⟨0, n, rfl, rfl, Nat.zero_le _, by rw [HN.out]; exact Nat.le_refl _, by rw [← HN.out]; exact outT_start l r⟩
   case round =>
    obtain ⟨a, b, rfl, rfl, ha, hb, hout⟩ := hrel
    rw [HN.out] at ha hb
    have HOut := Lib.hid hout
    clear hout
    by_cases hab : a < b
    · obtain ⟨m, hm⟩ : ∃ m, m = a + (b - a) / 2 := ⟨_, rfl⟩
      have hmid : (a : Int) + ((b : Int) - a) / 2 = m := by omega
      have hml : m < l.length := by rw [HN.out]; omega
      have m1 : a ≤ m := by omega
      have m2 : m < b := by omega
      have m3 : (0 : Int) ≤ m := by omega
      have m4 : (m : Int) < n := by omega
      obtain ⟨c1, c2⟩ := HC.out m hml
      obtain ⟨P, hP⟩ : ∃ P, l[m].1 = P := ⟨_, rfl⟩
      obtain ⟨Q, hQ⟩ : ∃ Q, l[m].2 = Q := ⟨_, rfl⟩
      rw [hP] at c1
      rw [hQ] at c2
      clear hm
      by_cases t1 : r < P
      · have hl1 := Lib.hid (outT_left HO.out HOut.out hml (by rw [hP]; exact t1))
        clear hP hQ
        go_wp2
        exact ⟨⟨a, m, rfl, rfl, by rw [HN.out]; exact ha, by rw [HN.out]; omega, hl1.out⟩, by simp [intOf]; omega⟩
      · by_cases t2 : Q < r
        · have hl1 := Lib.hid (outT_right HO.out HOut.out hml (by rw [hQ]; exact t2))
          clear hP hQ
          go_wp2
          exact ⟨⟨m + 1, b, by go_num, rfl, by rw [HN.out]; omega, by rw [HN.out]; exact hb, hl1.out⟩, by simp [intOf]; omega⟩
        · have HR : Hid (hasT l r = true) := hasT_yes hml (by rw [hP]; omega) (by rw [hQ]; omega)
          clear hP hQ
          go_wp2
          go_ret
          exact ⟨by rw [HR.out]; rfl, rfl⟩
    · have HR : Hid (hasT l r = false) := hasT_no HOut.out (by omega)
      go_wp2
      go_ret
      exact ⟨by rw [HR.out]; rfl, rfl⟩
theorem in_at (l : List (Int × Int)) (b : Bool) (v : Value) (n : Nat) (r : Int) (w : World) (ho : Hid (orderT l = true)) (hl : Hid (l.length = n)) (hn : n ≤ 100000) (hr : -2147483648 ≤ r ∧ r ≤ 2147483647)
 (hrd : Hid (Rd w v n 2 (spans l))) (h : Hid (hasT l r = b)) :
 Calls Try.prog 48 #[v, .int .i32 r] w fun e w' => e = .returned (.bool b) ∧ w = w' := by
 have hl' := hl.out; subst hl'
 have := in_any l v r w ho.out hn hr hrd.out; rw [h.out] at this; exact this
theorem isWide_any (r : Int) (w : World) (hr : -2147483648 ≤ r ∧ r ≤ 2147483647) :
 Calls Try.prog 42 #[.int .i32 r] w fun e w' => e = .returned (.bool (hasT wideT r)) ∧ Below w.heap.size w w' := by
 go_enter Try.func42, Try.ntmps42
 go_wp2_with fail
 refine (wide_any _).mono ?_
 rintro e w1 ⟨rfl, rfl⟩
 go_wp2_with fail
 refine (in_at wideT _ _ 116 r _ wide_order rfl (by decide) hr (rd_new w 82 116 2 (spans wideT) rfl (by decide)) rfl).mono ?_
 rintro e w1 ⟨rfl, rfl⟩
 go_wp2
 go_ret
 refine ⟨rfl, ?_⟩
 repeat (first | exact Below.refl _ _ | refine bl_alloc ?_ _ | refine Below.drew ?_ | refine bl_drewN ?_ _ | refine bl_set ?_ (by first | (simp; done) | (simp; omega)) _ | refine bl_step ?_ (by assumption))
theorem isZero_any (r : Int) (w : World) (hr : -2147483648 ≤ r ∧ r ≤ 2147483647) :
 Calls Try.prog 43 #[.int .i32 r] w fun e w' => e = .returned (.bool (hasT zeroT r)) ∧ Below w.heap.size w w' := by
 go_enter Try.func43, Try.ntmps43
 go_wp2_with fail
 refine (zero_any _).mono ?_
 rintro e w1 ⟨rfl, rfl⟩
 go_wp2_with fail
 refine (in_at zeroT _ _ 82 r _ zero_order rfl (by decide) hr (rd_new w 82 82 2 (spans zeroT) rfl (by decide)) rfl).mono ?_
 rintro e w1 ⟨rfl, rfl⟩
 go_wp2
 go_ret
 refine ⟨rfl, ?_⟩
 repeat (first | exact Below.refl _ _ | refine bl_alloc ?_ _ | refine Below.drew ?_ | refine bl_drewN ?_ _ | refine bl_set ?_ (by first | (simp; done) | (simp; omega)) _ | refine bl_step ?_ (by assumption))
end Go.Proofs.Ytkaeihlpdceokaa