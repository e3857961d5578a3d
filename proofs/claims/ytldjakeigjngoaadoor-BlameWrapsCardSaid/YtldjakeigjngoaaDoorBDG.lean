/- BDG: texts of this proof, joined by program: Digits2, Digits3, Digits4, Digits5. -/
import Derived.Test.YtldjakeigjngoaaDoorBBA
import Derived.RegionTactic
import Derived.Test.YtldjakeigjngoaaDoorBPL
/- Contracts of the package digits, continued: Parse. -/
set_option linter.unusedVariables false
set_option linter.unusedSimpArgs false
namespace Go.Proofs.YtldjakeigjngoaaDoor
open Go.RowKit Bf
end Go.Proofs.YtldjakeigjngoaaDoor
/- Contracts: the reference's Put. -/
namespace Go.Proofs.YtldjakeigjngoaaDoor
open Go.RowKit Bf
set_option maxRecDepth 20000 in
theorem refput_any : ∀ (m : Nat) (n : Int) (w : World), n.natAbs ≤ m → (n < 0 → n.natAbs + 20 ≤ m) → -9223372036854775808 ≤ n ∧ n ≤ 9223372036854775807 →
 Calls Tryd.prog 34 #[.int .i64 n] w fun e w' => e = .returned (.string ⟨(putL n).toArray⟩) ∧ Below w.heap.size w w' := by
 intro m
 induction m with
 | zero =>
  intro n w hn _ _
  have h0 : 0 ≤ n := by omega
  have h1 : n < 10 := by omega
  clear hn
  have HR := Lib.hid (putL_lt n h0 h1)
  go_enter Tryd.func34, Tryd.ntmps34
  go_wp2
  go_ret
  refine ⟨by rw [HR.out]; rfl, ?_⟩
  repeat (first | exact Below.refl _ _ | refine bl_alloc ?_ _ | refine Below.drew ?_ | refine bl_drewN ?_ _ | refine bl_set ?_ (by first | (simp; done) | (simp; omega)) _ | refine bl_step ?_ (by assumption))
 | succ m ih =>
  intro n w hn hn' hr
  obtain ⟨r1, r2⟩ := hr
  have IH := Lib.hid ih; clear ih
  by_cases h0 : n < 0
  · by_cases h1 : -10 < n
    · have HR := Lib.hid (putL_neg1 n h0 h1)
      have l1 := putL_len (-n) (by omega)
      go_enter Tryd.func34, Tryd.ntmps34
      go_wp2_with (go_at_call 34; refine (IH.out _ _ (by omega) (by omega) (by omega)).mono ?_; rintro e w1 ⟨rfl, hb⟩; obtain ⟨kc, kf, kl, km, kn⟩ := bfacts hb)
      go_ret
      refine ⟨by rw [HR.out]; simp [mk_append], ?_⟩
      repeat (first | exact Below.refl _ _ | refine bl_alloc ?_ _ | refine Below.drew ?_ | refine bl_drewN ?_ _ | refine bl_set ?_ (by first | (simp; done) | (simp; omega)) _ | refine bl_step ?_ (by assumption))
    · have HR := Lib.hid (putL_neg2 n (by omega))
      have ht := tdiv_neg10 n (by omega)
      have ht2 : n.tmod 10 = n - 10 * n.tdiv 10 := by have := Int.tmod_add_mul_tdiv n 10; omega
      have l1 := putL_len (n.tdiv 10) (by omega)
      have l2 := putL_len (-(n.tmod 10)) (by omega)
      have b1 : n < n.tdiv 10 := by omega
      have b2 : n.tdiv 10 < 0 := by omega
      have b3 : 0 ≤ -(n.tmod 10) := by omega
      have b4 : -(n.tmod 10) < 10 := by omega
      clear ht ht2
      go_enter Tryd.func34, Tryd.ntmps34
      go_wp2_with (go_at_call 34; refine (IH.out _ _ (by omega) (by omega) (by omega)).mono ?_; rintro e w1 ⟨rfl, hb⟩; obtain ⟨kc, kf, kl, km, kn⟩ := bfacts hb)
      go_ret
      refine ⟨by rw [HR.out]; simp [mk_append], ?_⟩
      repeat (first | exact Below.refl _ _ | refine bl_alloc ?_ _ | refine Below.drew ?_ | refine bl_drewN ?_ _ | refine bl_set ?_ (by first | (simp; done) | (simp; omega)) _ | refine bl_step ?_ (by assumption))
  · by_cases h1 : n < 10
    · have HR := Lib.hid (putL_lt n (by omega) h1)
      go_enter Tryd.func34, Tryd.ntmps34
      go_wp2_with (go_at_call 34; refine (IH.out _ _ (by omega) (by omega) (by omega)).mono ?_; rintro e w1 ⟨rfl, hb⟩; obtain ⟨kc, kf, kl, km, kn⟩ := bfacts hb)
      go_ret
      refine ⟨by rw [HR.out]; rfl, ?_⟩
      repeat (first | exact Below.refl _ _ | refine bl_alloc ?_ _ | refine Below.drew ?_ | refine bl_drewN ?_ _ | refine bl_set ?_ (by first | (simp; done) | (simp; omega)) _ | refine bl_step ?_ (by assumption))
    · have HR := Lib.hid (putL_pos2 n (by omega))
      have e1 : n.tdiv 10 = n / 10 := Int.tdiv_eq_ediv_of_nonneg (by omega)
      have e2 : n.tmod 10 = n % 10 := Int.tmod_eq_emod_of_nonneg (by omega)
      rw [e1, e2] at HR
      have l1 := putL_len (n / 10) (by omega)
      have l2 := putL_len (n % 10) (by omega)
      clear e1 e2
      go_enter Tryd.func34, Tryd.ntmps34
      go_wp2_with (go_at_call 34; refine (IH.out _ _ (by omega) (by omega) (by omega)).mono ?_; rintro e w1 ⟨rfl, hb⟩; obtain ⟨kc, kf, kl, km, kn⟩ := bfacts hb)
      go_ret
      refine ⟨by rw [HR.out]; simp [mk_append], ?_⟩
      repeat (first | exact Below.refl _ _ | refine bl_alloc ?_ _ | refine Below.drew ?_ | refine bl_drewN ?_ _ | refine bl_set ?_ (by first | (simp; done) | (simp; omega)) _ | refine bl_step ?_ (by assumption))
end Go.Proofs.YtldjakeigjngoaaDoor
/- Contracts: the text of a number (digits.Put). -/
namespace Go.Proofs.YtldjakeigjngoaaDoor
open Go.RowKit Bf
def PutInv (N v a : Nat) (C : Array Value) : Prop :=
 C.size = 20 ∧ v < 10 ^ a ∧ ∃ ds : List UInt8, ds.length + a = 20 ∧ (∀ j (h : j < ds.length), C[a + j]? = some (.int .u8 (ds[j].toNat : Int))) ∧ decL N = (if v = 0 ∧ a < 20 then [] else decL v) ++ ds
theorem putInv_step {N v b : Nat} {C : Array Value} (h : PutInv N v (b + 1) C) (hb : b = 19 ∨ 0 < v) :
 PutInv N (v / 10) b (C.setIfInBounds b (.int .u8 (48 + (v : Int) % 10))) ∧ ∃ x, C[b]? = some x := by
 obtain ⟨hC, hv, ds, hl, hc, hd⟩ := h
 have hbC : b < C.size := by omega
 have ht : (UInt8.ofNat (48 + v % 10)).toNat = 48 + v % 10 := by simp; omega
 refine ⟨⟨by simpa using hC, by rw [Nat.pow_succ] at hv; omega, UInt8.ofNat (48 + v % 10) :: ds, by simp; omega, ?_, ?_⟩, ⟨C[b], by rw [Array.getElem?_eq_getElem hbC]⟩⟩
 · intro j hj
   cases j with
   | zero => rw [Nat.add_zero, Array.getElem?_setIfInBounds, if_pos rfl, if_pos hbC]; simp only [List.getElem_cons_zero, ht]; simp
   | succ j =>
    rw [Array.getElem?_setIfInBounds, if_neg (by omega)]
    have := hc j (by simpa using hj)
    rw [show b + (j + 1) = b + 1 + j by omega, this]; simp
 · rw [hd, if_neg (by omega)]
   by_cases h10 : v < 10
   · rw [decL_lt v h10, if_pos ⟨by omega, by omega⟩, Nat.mod_eq_of_lt h10]; rfl
   · rw [decL_ge v h10, if_neg (by omega)]; simp
theorem putInv_done {N a : Nat} {C : Array Value} (h : PutInv N 0 a C) (ha : a < 20) :
 ∃ ds : List UInt8, decL N = ds ∧ ds.length + a = 20 ∧ ∀ j (h : j < ds.length), C[a + j]? = some (.int .u8 (ds[j].toNat : Int)) := by
 obtain ⟨hC, hv, ds, hl, hc, hd⟩ := h
 exact ⟨ds, by rw [hd, if_pos ⟨rfl, ha⟩]; rfl, hl, hc⟩
theorem conv_tail (w : World) (C : Array Value) (a k c : Nat) (l : List UInt8) (hk : k = l.length) (hc : ∀ j (h : j < l.length), C[a + j]? = some (.int .u8 (l[j].toNat : Int))) :
 (convert 87 9 (.slice (some ⟨w.heap.size, a, none⟩) k c)).run Tryd.prog (w.alloc (.cells C 86)) = .ok (.string ⟨l.toArray⟩) (w.alloc (.cells C 86)) := by
 subst hk
 refine run_convert_bytes_back _ _ _ _ _ _ l Tryd.underlying87 Tryd.underlying5 Tryd.underlying9 (fun j hj => ?_)
 have : (⟨w.heap.size, a, none⟩ : Addr).add j = ⟨w.heap.size, a + j, none⟩ := by simp [Addr.add]
 rw [this, World.cell?_alloc_mark]; exact hc j hj
theorem elem20 : Tryd.prog.elem 86 = 5 := by kernel_rfl
theorem u64_negneg (N : Nat) (h0 : 0 < N) (h : N ≤ 9223372036854775808) : IntKind.u64.wrap (-IntKind.u64.wrap (-(N : Int))) = N := by
 simp only [IntKind.wrap, IntKind.signed, IntKind.bits]; simp; omega
theorem len20 : Tryd.prog.arrayLen 86 = 20 := by kernel_rfl
set_option maxRecDepth 100000 in
theorem size20 (w : World) : (sizeOf (Tryd.prog.elem 86)).run Tryd.prog w = .ok 1 w := by
 rw [show Tryd.prog.elem 86 = 5 from by kernel_rfl]; simp [go_sem]
theorem slice20 (W : World) (b a : Nat) (h : a < 20) :
 (Instr.sliceAt 86 (.pointer (some ⟨b, 0, none⟩)) (some (.int .i64 (a : Int))) none none).run Tryd.prog W = .ok (.slice (some ⟨b, a, none⟩) (20 - a) (20 - a)) W := by
 rw [run_sliceAt_array_l W 86 ⟨b, 0, none⟩ (by rw [len20, elem20]; exact Tryd.underlying86) .i64 a (by omega) (by rw [len20]; omega), size20, len20]
 simp [slicedAt, Result.andThen, Addr.add]
 rw [if_neg (by omega)]; split
 · rename_i h; subst h; rfl
 · rfl
set_option maxRecDepth 20000 in
set_option maxHeartbeats 400000 in
theorem put_pos (n : Int) (w : World) (hn : 0 ≤ n) (hn2 : n ≤ 9223372036854775807) :
 Calls Tryd.prog 31 #[.int .i64 n] w fun e w' => e = .returned (.string ⟨(putL n).toArray⟩) ∧ Below w.heap.size w w' := by
 obtain ⟨N, rfl⟩ := Int.eq_ofNat_of_zero_le hn
 have hN : N ≤ 9223372036854775808 := by omega
 have HP : Hid (putL N = decL N) := by unfold putL; rw [if_neg (by omega)]; rfl
 have hb := decL_len N 19 (by omega) (by omega)
 go_enter Tryd.func31, Tryd.ntmps31
 go_wp2
 go_loopw [4, 6] (fun u t wr => ∃ (v : Nat) (a : Nat) (C : Array Value), u = .int .u64 v ∧ t = .int .i64 a ∧ a ≤ 20 ∧ v ≤ 9223372036854775808 ∧ PutInv N v a C ∧ wr = w.alloc (.cells C 86)) (fun _ i _ => (intOf i).toNat)
 case atStart => exact ⟨N, 20, _, by first | rfl | rw [u64_negneg N (by omega) hN], rfl, by omega, hN, ⟨rfl, by omega, [], rfl, fun j h => by simp at h, by simp⟩, rfl⟩
 case round =>
  obtain ⟨v, a, C, rfl, rfl, ha, hv, hI, rfl⟩ := hrel
  by_cases hgo : a = 20 ∨ 0 < v
  · obtain ⟨b, rfl⟩ : ∃ b, a = b + 1 := ⟨a - 1, by rcases hgo with h | h; omega; obtain ⟨_, h2, _⟩ := hI; rcases Nat.eq_zero_or_pos a with rfl | h3; simp at h2; omega; omega⟩
    obtain ⟨hI', x, hx⟩ := putInv_step hI (by omega)
    clear hI
    by_cases h20 : b = 19
    · subst h20
      clear hgo
      go_wp2
      exact ⟨⟨v / 10, 19, _, by simp, rfl, by omega, by omega, hI', rfl⟩, by simp [intOf]⟩
    · have ht : ((b : Int) + 1 == 20) = false := by simp; omega
      have hv0 : 0 < v := by omega
      clear hgo
      go_wp2
      exact ⟨⟨v / 10, b, _, by simp, rfl, by omega, by omega, hI', rfl⟩, by simp [intOf]⟩
  · have ha' : a < 20 := by omega
    obtain rfl : v = 0 := by omega
    obtain ⟨ds, hds, hl, hc⟩ := putInv_done hI ha'
    have hlen : ds.length ≤ 20 := by omega
    have hcv := conv_tail w C a (20 - a) (20 - a) ds (by omega) hc
    have ht : ((a : Int) == 20) = false := by simp; omega
    have HL := Lib.hid hl; have HD := Lib.hid hds
    clear hI hc hl hgo hds
    have hsl := fun W b => slice20 W b a ha'
    go_wp2
    go_ret
    refine ⟨by rw [HP.out, HD.out]; first | rfl | simp [mk_append], ?_⟩
    repeat (first | exact Below.refl _ _ | refine bl_alloc ?_ _ | refine Below.drew ?_ | refine bl_drewN ?_ _ | refine bl_set ?_ (by first | (simp; done) | (simp; omega)) _ | refine bl_step ?_ (by assumption))
set_option maxRecDepth 20000 in
set_option maxHeartbeats 400000 in
theorem put_neg (n : Int) (w : World) (hn : n < 0) (hn2 : -9223372036854775808 ≤ n) :
 Calls Tryd.prog 31 #[.int .i64 n] w fun e w' => e = .returned (.string ⟨(putL n).toArray⟩) ∧ Below w.heap.size w w' := by
 obtain ⟨N, hNn⟩ : ∃ N : Nat, N = n.natAbs := ⟨_, rfl⟩
 have hN : N ≤ 9223372036854775808 := by omega
 have hN0 : 0 < N := by omega
 have HP : Hid (putL n = 45 :: decL N) := by unfold putL; rw [if_pos hn, hNn]; rfl
 have hb := decL_len N 19 (by omega) (by omega)
 obtain rfl : n = -(N : Int) := by omega
 clear hNn
 go_enter Tryd.func31, Tryd.ntmps31
 go_wp2
 go_loopw [4, 6] (fun u t wr => ∃ (v : Nat) (a : Nat) (C : Array Value), u = .int .u64 v ∧ t = .int .i64 a ∧ a ≤ 20 ∧ v ≤ 9223372036854775808 ∧ PutInv N v a C ∧ wr = w.alloc (.cells C 86)) (fun _ i _ => (intOf i).toNat)
 case atStart => exact ⟨N, 20, _, by first | rfl | rw [u64_negneg N (by omega) hN], rfl, by omega, hN, ⟨rfl, by omega, [], rfl, fun j h => by simp at h, by simp⟩, rfl⟩
 case round =>
  obtain ⟨v, a, C, rfl, rfl, ha, hv, hI, rfl⟩ := hrel
  by_cases hgo : a = 20 ∨ 0 < v
  · obtain ⟨b, rfl⟩ : ∃ b, a = b + 1 := ⟨a - 1, by rcases hgo with h | h; omega; obtain ⟨_, h2, _⟩ := hI; rcases Nat.eq_zero_or_pos a with rfl | h3; simp at h2; omega; omega⟩
    obtain ⟨hI', x, hx⟩ := putInv_step hI (by omega)
    clear hI
    by_cases h20 : b = 19
    · subst h20
      clear hgo
      go_wp2
      exact ⟨⟨v / 10, 19, _, by simp, rfl, by omega, by omega, hI', rfl⟩, by simp [intOf]⟩
    · have ht : ((b : Int) + 1 == 20) = false := by simp; omega
      have hv0 : 0 < v := by omega
      clear hgo
      go_wp2
      exact ⟨⟨v / 10, b, _, by simp, rfl, by omega, by omega, hI', rfl⟩, by simp [intOf]⟩
  · have ha' : a < 20 := by omega
    obtain rfl : v = 0 := by omega
    obtain ⟨ds, hds, hl, hc⟩ := putInv_done hI ha'
    have hlen : ds.length ≤ 20 := by omega
    have hcv := conv_tail w C a (20 - a) (20 - a) ds (by omega) hc
    have ht : ((a : Int) == 20) = false := by simp; omega
    have HL := Lib.hid hl; have HD := Lib.hid hds
    clear hI hc hl hgo hds
    have hsl := fun W b => slice20 W b a ha'
    go_wp2
    go_ret
    refine ⟨by rw [HP.out, HD.out]; first | rfl | simp [mk_append], ?_⟩
    repeat (first | exact Below.refl _ _ | refine bl_alloc ?_ _ | refine Below.drew ?_ | refine bl_drewN ?_ _ | refine bl_set ?_ (by first | (simp; done) | (simp; omega)) _ | refine bl_step ?_ (by assumption))
end Go.Proofs.YtldjakeigjngoaaDoor
/- Contracts: digits.Put whole, Columns, and the law's own small function. -/
namespace Go.Proofs.YtldjakeigjngoaaDoor
open Go.RowKit Bf
theorem put_any (n : Int) (w : World) (h : -9223372036854775808 ≤ n ∧ n ≤ 9223372036854775807) :
 Calls Tryd.prog 31 #[.int .i64 n] w fun e w' => e = .returned (.string ⟨(putL n).toArray⟩) ∧ Below w.heap.size w w' := by
 by_cases h0 : n < 0
 · exact put_neg n w h0 h.1
 · exact put_pos n w (by omega) h.2
end Go.Proofs.YtldjakeigjngoaaDoor