/- The walk of blindfoldlaw01.UtfBack. -/
import Derived.Test.YteohofgmkiagoaaWalkUtfBads
import Derived.Test.YteohofgmkiagoaaPlainUtf4
set_option linter.unusedVariables false
set_option linter.unusedSimpArgs false
namespace Go.Proofs.Yteohofgmkiagoaa
open Go.RowKit Bf
def catB (zs : List Int) (k : Nat) : ByteArray := ⟨(encAll (zs.take k)).toArray⟩
theorem catB_list (zs : List Int) (k : Nat) : (catB zs k).data.toList = encAll (zs.take k) := by unfold catB; simp
theorem catB_size (zs : List Int) (k : Nat) : (catB zs k).size ≤ 4 * k := by
  rw [← toList_length, catB_list]; have := encAll_len (zs.take k); have h2 := List.length_take_le k zs; omega
theorem catB_step (zs : List Int) (k : Nat) (h : k < zs.length) : catB zs k ++ encB zs[k] = catB zs (k + 1) := by
  unfold catB encB; rw [mk_append, encAll_snoc zs k h]
def BackRel (w : World) (zs : List Int) (s kept i : Value) (wr : World) : Prop :=
  ∃ k : Nat, i = .int .i64 k ∧ k ≤ zs.length ∧ s = .string (catB zs k) ∧ wr.ownsRow w.heap.size 21 1 kept (keptL (zs.take k)).length (ints .i32 (keptL (zs.take k))) ∧ Below w.heap.size w wr
set_option maxHeartbeats 2000000 in
theorem utfBack_walk (w : World) (a : Option Addr) (len cap : Nat) (z : List Int) (h : IsRow .i32 w a len cap z) :
    Calls Try.prog 10 #[.slice a len cap] w fun e w' => e = .returned (.bool true) ∧ Below w.heap.size w w' := by
  have hrd := isRow_rd h
  have hwf : ∀ j, 0 ≤ j → True := fun _ _ => trivial
  clear h hwf
  by_cases h5 : 2000 < len
  · go_enter Try.func10, Try.ntmps10
    go_wp2_with (go_at_call 26; refine (lives01_any _).mono ?_; rintro e w1 ⟨rfl, hb⟩)
    go_ret
    refine ⟨by rfl, ?_⟩
    repeat (first | exact Below.refl _ _ | refine bl_alloc ?_ _ | refine Below.drew ?_ | refine bl_drewN ?_ _ | refine bl_set ?_ (by first | (simp; done) | (simp; omega)) _ | refine bl_step ?_ (by assumption))
  · obtain ⟨zs, hzs⟩ : ∃ zs, z.take len = zs := ⟨_, rfl⟩
    rw [hzs] at hrd
    obtain ⟨hlen, hx⟩ := hrd
    have hl : zs.length = len := by simpa [ints] using hlen
    clear hzs hlen
    have HL := Lib.hid hl
    have HX := Lib.hid hx
    clear hl hx
    go_enter Try.func10, Try.ntmps10
    go_wp2
    go_loopw [3, 4, 5] (fun s kept i wr => BackRel w zs s kept i wr) (fun _ _ i _ => len - (intOf i).toNat)
    case atStart => exact ⟨0, rfl, Nat.zero_le _, rfl, World.ownsRow_nil _ _ _ _, Below.refl _ _⟩
    case round =>
      obtain ⟨k, rfl, hk, rfl, hown, hb0⟩ := hrel
      rw [HL.out] at hk
      have hcs := catB_size zs k
      by_cases hlt : k < len
      · have hkz : k < zs.length := by rw [HL.out]; exact hlt
        rcases HX.out with ⟨e0, _⟩ | ⟨g, off, cap', e1, hg, _, _, hc⟩
        · omega
        obtain ⟨rfl, rfl⟩ : a = some ⟨g, off, none⟩ ∧ cap = cap' := by injection e1 with e1 _ e3; exact ⟨e1, e3⟩
        have hcell : wr.cell? ⟨g, off + k, none⟩ = some (.int .i32 zs[k]) := by
          rw [hb0.cell (p := ⟨g, off + k, none⟩) hg]; have := hc k (by simpa [ints] using hkz); rw [this]; simp [ints]
        have hst := catB_step zs k hkz
        have hks := keptL_snoc zs k hkz
        obtain ⟨Z, hZ⟩ : ∃ Z, zs[k] = Z := ⟨_, rfl⟩
        rw [hZ] at hcell hst hks
        have hen : (encB Z).size ≤ 4 := by rw [encB_size]; exact encL_len Z
        have hgw : g < wr.heap.size := Nat.lt_of_lt_of_le hg hb0.size
        have y0 : (0 : Int) ≤ k := by omega
        have y1 : (k : Int) < len := by omega
        have hkl := keptL_len (zs.take k)
        have hkl2 := List.length_take_le k zs
        obtain ⟨sc, hsc⟩ : ∃ sc, scalarB Z = sc := ⟨_, rfl⟩
        rw [hsc] at hks
        have HS := Lib.hid hsc
        have HK := Lib.hid hks
        clear hks hsc hZ e1 hc
        cases sc
        · go_wp2_with (first | (go_at_call 27; refine (encode_any _ _).mono ?_; rintro e w1 ⟨rfl, hb⟩; have hown1 := ownsRow_below hown hb; obtain ⟨kc, kf, kl, km, kn⟩ := bfacts hb) | (go_at_call 29; refine (scalar_at _ _ _ HS).mono ?_; rintro e w2 ⟨rfl, rfl⟩))
          refine ⟨⟨k + 1, by go_num, by rw [HL.out]; omega, rfl, ?_, ?_⟩, by simp [intOf]; omega⟩
          · have := HK.out; simp only [Bool.false_eq_true, if_false] at this; rw [this]; exact hown1
          · repeat (first | exact Below.refl _ _ | refine bl_alloc ?_ _ | refine Below.drew ?_ | refine bl_drewN ?_ _ | refine bl_set ?_ (by first | (simp; done) | (simp; omega)) _ | refine bl_step ?_ (by assumption))
        · go_wp2_with (first | (go_at_call 27; refine (encode_any _ _).mono ?_; rintro e w1 ⟨rfl, hb⟩; have hown1 := ownsRow_below hown hb; obtain ⟨kc, kf, kl, km, kn⟩ := bfacts hb) | (go_at_call 29; refine (scalar_at _ _ _ HS).mono ?_; rintro e w2 ⟨rfl, rfl⟩) | (at_builtin; refine app1 rfl _ _ 43 rfl w.heap.size 21 (.int .i32 0) 4 Try.underlying43 info_i32 rfl _ _ _ rfl hown1 (.int .i32 Z) rfl _ rfl rfl (by unfold maxLen; omega) (by omega) (Nat.le_trans hb0.size hb.size) ?_; intro v' w2 hown2 hb2 hsz2))
          refine ⟨⟨k + 1, by go_num, by rw [HL.out]; omega, rfl, ?_, (bl_step hb0 hb).trans hb2⟩, by simp [intOf]; omega⟩
          have := HK.out; simp only [if_true] at this; rw [this, ← ints_snoc]; simpa using hown2
      · have hkl : zs.take k = zs := List.take_of_length_le (by rw [HL.out]; omega)
        obtain ⟨f1, f2, f3⟩ := encAll_facts zs
        rw [hkl] at hown
        have hcl : (catB zs k).data.toList = encAll zs := by rw [catB_list, hkl]
        have hsz : (catB zs k).size = (encAll zs).length := by rw [← toList_length, hcl]
        obtain ⟨t, ht⟩ : ∃ t, catB zs k = t := ⟨_, rfl⟩
        rw [ht] at hcl hsz hcs ⊢
        rw [← hcl] at f1 f2 f3
        rw [toList_length] at f1
        have HB : Hid (badL t.data.toList = t.size) := f1
        have HR : Hid (runesL t.data.toList = keptL zs) := f2
        have HC : Hid (countL t.data.toList = (keptL zs).length) := f3
        have HV : Hid (validB t.data.toList = true) := by unfold validB; rw [f1, toList_length]; simp [Hid]
        have hs6 : t.size ≤ 1000000 := by omega
        have hsm : t.size ≤ maxLen := by unfold maxLen; omega
        have hk6 := keptL_len zs
        rw [HL.out] at hk6
        have hk7 : (keptL zs).length ≤ 1000000 := by omega
        have HO := Lib.hid hown
        clear f1 f2 f3 hcl hsz ht hkl hown
        go_wp2_with fail
        refine (runes_any _ _ hs6).mono ?_
        rintro e w2 ⟨v2, rfl, hrd2, hb2⟩
        rw [HR.out] at hrd2
        rw [HB.out]
        have HA := Lib.hid hrd2
        have hown2 := ownsRow_below HO.out hb2
        have HA2 := Lib.hid (ownsRow_rd hown2)
        obtain ⟨kv, hkv⟩ : ∃ ksl : Value × Option Addr × Nat, u4 = .slice ksl.2.1 (keptL zs).length ksl.2.2 := by
          rcases (ownsRow_rd hown2).2 with ⟨h1, a, c, h2⟩ | ⟨g, off, c, h1, _⟩
          · exact ⟨(.nilIface, a, c), by rw [h2, h1]⟩
          · exact ⟨(.nilIface, _, c), h1⟩
        subst hkv
        clear hown2 hrd2
        go_wp2_with (first | (go_at_call 26; refine (lives01_any _).mono ?_; rintro e w1 ⟨rfl, hb⟩) | (go_at_call 40; refine (valid_at _ _ _ hsm HV).mono ?_; rintro e w3 ⟨rfl, hb⟩) | (go_at_call 41; refine (count_at _ _ _ hsm HC).mono ?_; rintro e w1 ⟨rfl, hb⟩) | (go_at_call 38; refine (same_eq _ _ _ _ (HA.out.below (by assumption)) (HA2.out.below (by assumption)) hk7).mono ?_; rintro e w1 ⟨rfl, hb⟩))
        all_goals (go_ret; refine ⟨by first | rfl | simp, ?_⟩)
        repeat (first | exact Below.refl _ _ | refine bl_alloc ?_ _ | refine Below.drew ?_ | refine bl_drewN ?_ _ | refine bl_set ?_ (by first | (simp; done) | (simp; omega)) _ | refine bl_step ?_ (by assumption))
end Go.Proofs.Yteohofgmkiagoaa
