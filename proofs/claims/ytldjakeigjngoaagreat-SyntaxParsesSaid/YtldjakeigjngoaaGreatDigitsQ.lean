/- Contracts of the package digits. -/
import Derived.Test.YtldjakeigjngoaaGreatBBA
set_option linter.unusedVariables false
set_option linter.unusedSimpArgs false
namespace Go.Proofs.YtldjakeigjngoaaGreat
open Go.RowKit Bf
set_option maxHeartbeats 400000 in
theorem run_any (s : ByteArray) (w : World) (hs : s.size ≤ maxLen) :
 Calls Tryz.prog 129 #[.string s] w fun e w' => e = .returned (.int .i64 (runL s.data.toList)) ∧ w = w' := by
 unfold maxLen at hs
 go_enter Tryz.func129, Tryz.ntmps129
 go_wp2
 go_loop [6] (fun i => ∃ k : Nat, k ≤ s.size ∧ i = .int .i64 k ∧ Hid (runL s.data.toList = k + runL (s.data.toList.drop k))) (fun i => s.size - (intOf i).toNat)
 case atStart => exact ⟨0, Nat.zero_le _, rfl, by simp [Hid]⟩
 case round =>
  obtain ⟨k, hk, rfl, hr⟩ := hrel
  by_cases hlt : k < s.size
  · have hd := toList_drop_cons s k hlt
    have hy : isDig s[k] = true → runL s.data.toList = (k + 1 : Nat) + runL (s.data.toList.drop (k + 1)) := by
     intro h; rw [hr.out, hd]; simp only [runL, h, if_true]; omega
    have hn : isDig s[k] = false → runL s.data.toList = k := by
     intro h; rw [hr.out, hd]; simp [runL, h]
    unfold isDig at hy hn
    have Hy := Lib.hid hy; have Hn := Lib.hid hn; clear hd hy hn
    go_wp2
    · go_ret
      exact ⟨ret_int (by rw [Hn.out (by simp; omega)]), rfl⟩
    · go_round
      case rel => exact ⟨k + 1, by omega, by go_num, Hy.out (by simp; omega)⟩
      case measure => simp [intOf]; omega
    · go_ret
      exact ⟨ret_int (by rw [Hn.out (by simp; omega)]), rfl⟩
  · go_wp2
    go_ret
    exact ⟨ret_int (by rw [hr.out, drop_all s k (by omega)]; simp [runL]; omega), rfl⟩
theorem isDig_bd {c : UInt8} (h : isDig c = true) : 48 ≤ c.toNat ∧ c.toNat ≤ 57 := by
 unfold isDig at h; simpa using h
set_option maxHeartbeats 400000 in
theorem value_any (s : ByteArray) (minus : Bool) (w : World) (hs : s.size ≤ maxLen) (hd : ∀ c ∈ s.data.toList, isDig c = true) :
 Calls Tryz.prog 130 #[.string s, .bool minus] w fun e w' => e = .returned (.tuple #[.int .i64 (valN (numVal s.data.toList 0) minus), .bool (valB (numVal s.data.toList 0) minus)]) ∧ w = w' := by
 unfold maxLen at hs
 have Hd := Lib.hid hd; clear hd
 go_enter Tryz.func130, Tryz.ntmps130
 go_wp2
 go_loop [6, 11] (fun n i => ∃ k a : Nat, k ≤ s.size ∧ i = .int .i64 k ∧ n = .int .i64 (-(a : Int)) ∧ a ≤ 9223372036854775808 ∧ Hid (numVal s.data.toList 0 = numVal (s.data.toList.drop k) a)) (fun _ i => s.size - (intOf i).toNat)
 case atStart => exact ⟨0, 0, Nat.zero_le _, rfl, rfl, by omega, by simp [Hid]⟩
 case round =>
  obtain ⟨k, a, hk, rfl, rfl, ha, hr⟩ := hrel
  by_cases hlt : k < s.size
  · have hdr := toList_drop_cons s k hlt
    obtain ⟨hd1, hd2⟩ := isDig_bd (Hd.out _ (get_mem s k hlt))
    have ht := tdiv_neg10 (-9223372036854775808 + ((s[k].toNat : Int) - 48)) (by omega)
    by_cases hov : a * 10 + (s[k].toNat - 48) ≤ 9223372036854775808
    · have hlt2 : ¬ -(a : Int) < (-9223372036854775808 + ((s[k].toNat : Int) - 48)).tdiv 10 := by rw [ht]; omega
      have hr' : Hid (numVal s.data.toList 0 = numVal (s.data.toList.drop (k + 1)) (a * 10 + (s[k].toNat - 48))) := by
       have := hr.out; rw [hdr] at this; exact this
      clear hdr ht
      go_wp2
      go_round
      case rel => exact ⟨k + 1, a * 10 + (s[k].toNat - 48), by omega, by go_num, by go_num, by omega, hr'⟩
      case measure => simp [intOf]; omega
    · have hlt2 : -(a : Int) < (-9223372036854775808 + ((s[k].toNat : Int) - 48)).tdiv 10 := by rw [ht]; omega
      have hb : 9223372036854775808 < numVal s.data.toList 0 := by
       rw [hr.out, hdr]; exact numVal_big _ _ _ (by unfold digVal; omega)
      obtain ⟨e1, e2⟩ := val_over _ minus hb
      have E1 := Lib.hid e1; have E2 := Lib.hid e2
      clear hdr ht hb e1 e2
      go_wp2
      go_ret2
      exact ⟨by rw [E1.out, E2.out]; rfl, rfl⟩
  · have hv : numVal s.data.toList 0 = a := by rw [hr.out, drop_all s k (by omega)]; rfl
    have Hv := Lib.hid hv; clear hv
    cases minus
    · by_cases hl : a = 9223372036854775808
      · obtain ⟨e1, e2⟩ := val_least a hl
        have E1 := Lib.hid e1; have E2 := Lib.hid e2
        have hl' : ((-(a : Int)) == -9223372036854775808) = true := by simp; omega
        clear hl e1 e2
        go_wp2
        go_ret2
        exact ⟨by rw [Hv.out, E1.out, E2.out]; rfl, rfl⟩
      · obtain ⟨e1, e2⟩ := val_plus a (by omega)
        have E1 := Lib.hid e1; have E2 := Lib.hid e2
        have hl' : ((-(a : Int)) == -9223372036854775808) = false := by simp; omega
        clear e1 e2
        go_wp2
        go_ret2
        exact ⟨by rw [Hv.out, E1.out, E2.out]; simp, rfl⟩
    · obtain ⟨e1, e2⟩ := val_minus a ha
      have E1 := Lib.hid e1; have E2 := Lib.hid e2
      clear e1 e2
      go_wp2
      go_ret2
      exact ⟨by rw [Hv.out, E1.out, E2.out]; rfl, rfl⟩
theorem run_at (s : ByteArray) (many : Nat) (w : World) (hs : s.size ≤ maxLen) (h : Hid (runL s.data.toList = many)) :
 Calls Tryz.prog 129 #[.string s] w fun e w' => e = .returned (.int .i64 many) ∧ w = w' := by
 have := run_any s w hs; rw [h.out] at this; exact this
theorem dvalue_at (s : ByteArray) (minus : Bool) (n : Int) (ok : Bool) (w : World) (hs : s.size ≤ maxLen) (hd : Hid (∀ c ∈ s.data.toList, isDig c = true))
 (h : Hid (valN (numVal s.data.toList 0) minus = n)) (h' : Hid (valB (numVal s.data.toList 0) minus = ok)) :
 Calls Tryz.prog 130 #[.string s, .bool minus] w fun e w' => e = .returned (.tuple #[.int .i64 n, .bool ok]) ∧ w = w' := by
 have := value_any s minus w hs hd.out; rw [h.out, h'.out] at this; exact this
def takeV (r : Int × Int × Int × Int) : Value := .tuple #[.int .i64 r.1, .int .i64 r.2.1, .agg #[.int .i64 r.2.2.1, .int .i64 r.2.2.2]]
set_option maxHeartbeats 1000000 in
theorem take_out (s : ByteArray) (a : Int) (w : World) (hs : s.size ≤ maxLen) (ha : -9223372036854775808 ≤ a ∧ a ≤ 9223372036854775807) (h : a < 0 ∨ (s.size : Int) < a) :
 Calls Tryz.prog 110 #[.string s, .int .i64 a] w fun e w' => e = .returned (takeV (takeS s.data.toList a)) ∧ Below w.heap.size w w' := by
 unfold maxLen at hs
 have HR := Lib.hid (takeS_out s.data.toList a (by rw [toList_length]; exact h))
 obtain ⟨ha1, ha2⟩ := ha
 by_cases h0 : a < 0
 · clear h
   go_enter Tryz.func110, Tryz.ntmps110
   go_wp2
   all_goals (refine bodyPost_ret (v := takeV (0, 0, 1, 0)) (by simp [results, Tryz.results110, go_sem] <;> rfl) rfl ⟨by rw [HR.out], ?_⟩; repeat (first | exact Below.refl _ _ | refine Below.setCell ?_ (by simp) _ | refine Below.alloc ?_ (by simp) _))
 · have h1 : (s.size : Int) < a := by omega
   clear h
   go_enter Tryz.func110, Tryz.ntmps110
   go_wp2
   all_goals (refine bodyPost_ret (v := takeV (0, 0, 1, 0)) (by simp [results, Tryz.results110, go_sem] <;> rfl) rfl ⟨by rw [HR.out], ?_⟩; repeat (first | exact Below.refl _ _ | refine Below.setCell ?_ (by simp) _ | refine Below.alloc ?_ (by simp) _))
set_option maxHeartbeats 2000000 in
theorem take_in1 (s : ByteArray) (k : Nat) (w : World) (hs : s.size ≤ maxLen) (hk : k < s.size) (hm : ((s[k].toNat : Int) == 45) = true) :
 Calls Tryz.prog 110 #[.string s, .int .i64 k] w fun e w' => e = .returned (takeV (takeS s.data.toList k)) ∧ Below w.heap.size w w' := by
 unfold maxLen at hs
 have hmm : (s.data.toList[k]? == some 45) = true := by
  rw [List.getElem?_eq_getElem (by rw [toList_length]; exact hk)]; simp at hm ⊢; exact UInt8.toNat_inj.1 (by have : (45:UInt8).toNat = 45 := rfl; rw [this]; exact_mod_cast hm)
 have hfr : k + 1 = if true = true then k + 1 else k := by simp
 obtain ⟨w0, w1, w2, w3⟩ := takeAt_ways s.data.toList k true hmm (k + 1) hfr _ rfl
 obtain ⟨many, hmany⟩ : ∃ many, runL (s.data.toList.drop (k + 1)) = many := ⟨_, rfl⟩
 rw [hmany] at w0 w1 w2 w3
 have hb1 : k + 1 + many ≤ s.size := by have := runL_drop_le s.data.toList (k + 1) (by rw [toList_length]; omega); rw [hmany, toList_length] at this; exact this
 have Hmany : Hid (runL (s.extract (k + 1) s.size).data.toList = many) := by rw [extract_rest]; exact hmany
 have hsz1 : (s.extract (k + 1) s.size).size ≤ maxLen := by rw [ByteArray.size_extract]; unfold maxLen; omega
 by_cases hz : many = 0
 · by_cases he : k + 1 = s.size
   · have HR : Hid (takeS s.data.toList k = (0, 0, 5, ((k + 1 : Nat) : Int))) := by rw [takeS_in _ _ (by rw [toList_length]; omega)]; exact w0 ⟨hz, by rw [toList_length]; exact he⟩
     have ht1 : ((many : Int) == 0) = true := by simp [hz]
     have ht2 : (((k + 1 : Nat) : Int) == (s.size : Int)) = true := by simp [he]
     try simp only [Int.natCast_add, Int.cast_ofNat_Int] at HR ht2
     clear w0 w1 w2 w3 hz he hmany hmm hfr
     go_enter Tryz.func110, Tryz.ntmps110
     go_wp2_with (first | (go_at_call 129; refine (run_at _ many _ hsz1 Hmany).mono ?_; rintro e w' ⟨rfl, rfl⟩) | (go_at_call 130; refine (dvalue_at _ _ n _ _ hsz2 Hdig Hn Hok).mono ?_; rintro e w' ⟨rfl, rfl⟩))
     all_goals (refine bodyPost_ret (v := takeV (_, _, _, _)) (by simp [results, Tryz.results110, go_sem] <;> rfl) rfl ⟨by rw [HR.out], ?_⟩; repeat (first | exact Below.refl _ _ | refine Below.setCell ?_ (by simp) _ | refine Below.alloc ?_ (by simp) _))
   · have HR : Hid (takeS s.data.toList k = (0, 0, 19, ((k + 1 : Nat) : Int))) := by rw [takeS_in _ _ (by rw [toList_length]; omega)]; exact w1 ⟨hz, by rw [toList_length]; exact he⟩
     have ht1 : ((many : Int) == 0) = true := by simp [hz]
     have ht2 : (((k + 1 : Nat) : Int) == (s.size : Int)) = false := by simp; omega
     try simp only [Int.natCast_add, Int.cast_ofNat_Int] at HR ht2
     clear w0 w1 w2 w3 hz he hmany hmm hfr
     go_enter Tryz.func110, Tryz.ntmps110
     go_wp2_with (first | (go_at_call 129; refine (run_at _ many _ hsz1 Hmany).mono ?_; rintro e w' ⟨rfl, rfl⟩) | (go_at_call 130; refine (dvalue_at _ _ n _ _ hsz2 Hdig Hn Hok).mono ?_; rintro e w' ⟨rfl, rfl⟩))
     all_goals (refine bodyPost_ret (v := takeV (_, _, _, _)) (by simp [results, Tryz.results110, go_sem] <;> rfl) rfl ⟨by rw [HR.out], ?_⟩; repeat (first | exact Below.refl _ _ | refine Below.setCell ?_ (by simp) _ | refine Below.alloc ?_ (by simp) _))
 · have ht1 : ((many : Int) == 0) = false := by simp [hz]
   have hlt : k + 1 < s.size := by omega
   have hgz : s.data.toList[k + 1]? = some s[k + 1] := by rw [List.getElem?_eq_getElem (by rw [toList_length]; exact hlt)]; rfl
   have hgz' : (s.data.toList[k + 1]? = some 48) = (s[k + 1].toNat = 48) := by rw [hgz]; simp [← UInt8.toNat_inj]
   rw [hgz'] at w2 w3
   by_cases hbad : s[k + 1].toNat = 48 ∧ (1 < many ∨ true = true)
   · have HR : Hid (takeS s.data.toList k = (0, 0, 19, (k : Int))) := by rw [takeS_in _ _ (by rw [toList_length]; omega)]; exact w2 hz hbad
     have ht3 : ((s[k + 1].toNat : Int) == 48) = true := by simp; omega
     have ht4 := hbad.2
     simp only [or_true, or_false, Bool.false_eq_true] at ht4
     clear w0 w1 w2 w3 hz hgz hgz' hbad hmany hmm hfr
     go_enter Tryz.func110, Tryz.ntmps110
     go_wp2_with (first | (go_at_call 129; refine (run_at _ many _ hsz1 Hmany).mono ?_; rintro e w' ⟨rfl, rfl⟩) | (go_at_call 130; refine (dvalue_at _ _ n _ _ hsz2 Hdig Hn Hok).mono ?_; rintro e w' ⟨rfl, rfl⟩))
     all_goals (refine bodyPost_ret (v := takeV (_, _, _, _)) (by simp [results, Tryz.results110, go_sem] <;> rfl) rfl ⟨by rw [HR.out], ?_⟩; repeat (first | exact Below.refl _ _ | refine Below.setCell ?_ (by simp) _ | refine Below.alloc ?_ (by simp) _))
   · have hdig : ∀ c ∈ (s.extract (k + 1) (k + 1 + many)).data.toList, isDig c = true := by
      rw [extract_toList, show k + 1 + many - (k + 1) = many by omega]; exact runL_all _ _ (by rw [hmany]; exact Nat.le_refl _)
     have hv := w3 hz hbad
     have hnv : numVal (s.extract (k + 1) (k + 1 + many)).data.toList 0 = numVal ((s.data.toList.drop (k + 1)).take many) 0 := by
      rw [extract_toList, show k + 1 + many - (k + 1) = many by omega]
     rw [← hnv] at hv
     have Hdig := Lib.hid hdig
     have hsz2 : (s.extract (k + 1) (k + 1 + many)).size ≤ maxLen := by rw [ByteArray.size_extract]; unfold maxLen; omega
     obtain ⟨n, hn⟩ : ∃ n, valN (numVal (s.extract (k + 1) (k + 1 + many)).data.toList 0) true = n := ⟨_, rfl⟩
     obtain ⟨ok, hok⟩ : ∃ ok, valB (numVal (s.extract (k + 1) (k + 1 + many)).data.toList 0) true = ok := ⟨_, rfl⟩
     have Hn := Lib.hid hn
     have Hok := Lib.hid hok
     rw [hn, hok] at hv
     have HR : Hid (takeS s.data.toList k = if ok = true then (n, ((k + 1 : Nat) : Int) + many, 0, 0) else (0, 0, 13, (k : Int))) := by
      rw [takeS_in _ _ (by rw [toList_length]; omega)]; exact hv
     try simp only [Int.natCast_add, Int.cast_ofNat_Int] at HR
     have ht3 : s[k + 1].toNat = 48 → ¬ (1 < many ∨ true = true) := fun h h' => hbad ⟨h, h'⟩
     clear w0 w1 w2 w3 hz hgz hgz' hbad hmany hn hok hv hnv hdig hmm hfr
     by_cases h48 : s[k + 1].toNat = 48
     · have ht4 := ht3 h48
       have ht5 : ((s[k + 1].toNat : Int) == 48) = true := by simp; omega
       simp only [or_true, or_false, Bool.false_eq_true, not_true_eq_false] at ht4
       all_goals clear ht3 h48
       all_goals cases ok
       all_goals (first | rw [if_neg Bool.false_ne_true] at HR | rw [if_pos rfl] at HR)
       all_goals (
        go_enter Tryz.func110, Tryz.ntmps110
        go_wp2_with (first | (go_at_call 129; refine (run_at _ many _ hsz1 Hmany).mono ?_; rintro e w' ⟨rfl, rfl⟩) | (go_at_call 130; refine (dvalue_at _ _ n _ _ hsz2 Hdig Hn Hok).mono ?_; rintro e w' ⟨rfl, rfl⟩))
        all_goals (refine bodyPost_ret (v := takeV (_, _, _, _)) (by simp [results, Tryz.results110, go_sem] <;> rfl) rfl ⟨by rw [HR.out], ?_⟩; repeat (first | exact Below.refl _ _ | refine Below.setCell ?_ (by simp) _ | refine Below.alloc ?_ (by simp) _))
        )
     · have ht5 : ((s[k + 1].toNat : Int) == 48) = false := by simp; omega
       clear ht3 h48
       cases ok
       all_goals (first | rw [if_neg Bool.false_ne_true] at HR | rw [if_pos rfl] at HR)
       all_goals (
        go_enter Tryz.func110, Tryz.ntmps110
        go_wp2_with (first | (go_at_call 129; refine (run_at _ many _ hsz1 Hmany).mono ?_; rintro e w' ⟨rfl, rfl⟩) | (go_at_call 130; refine (dvalue_at _ _ n _ _ hsz2 Hdig Hn Hok).mono ?_; rintro e w' ⟨rfl, rfl⟩))
        all_goals (refine bodyPost_ret (v := takeV (_, _, _, _)) (by simp [results, Tryz.results110, go_sem] <;> rfl) rfl ⟨by rw [HR.out], ?_⟩; repeat (first | exact Below.refl _ _ | refine Below.setCell ?_ (by simp) _ | refine Below.alloc ?_ (by simp) _))
        )
set_option maxHeartbeats 2000000 in
theorem take_in2 (s : ByteArray) (k : Nat) (w : World) (hs : s.size ≤ maxLen) (hk : k < s.size) (hm : ((s[k].toNat : Int) == 45) = false) :
 Calls Tryz.prog 110 #[.string s, .int .i64 k] w fun e w' => e = .returned (takeV (takeS s.data.toList k)) ∧ Below w.heap.size w w' := by
 unfold maxLen at hs
 have hmm : (s.data.toList[k]? == some 45) = false := by
  rw [List.getElem?_eq_getElem (by rw [toList_length]; exact hk)]; simp at hm ⊢; intro h; apply hm; have : s[k] = 45 := h; rw [this]; rfl
 have hfr : k = if false = true then k + 1 else k := by simp
 obtain ⟨w0, w1, w2, w3⟩ := takeAt_ways s.data.toList k false hmm (k) hfr _ rfl
 obtain ⟨many, hmany⟩ : ∃ many, runL (s.data.toList.drop (k)) = many := ⟨_, rfl⟩
 rw [hmany] at w0 w1 w2 w3
 have hb1 : k + many ≤ s.size := by have := runL_drop_le s.data.toList (k) (by rw [toList_length]; omega); rw [hmany, toList_length] at this; exact this
 have Hmany : Hid (runL (s.extract (k) s.size).data.toList = many) := by rw [extract_rest]; exact hmany
 have hsz1 : (s.extract (k) s.size).size ≤ maxLen := by rw [ByteArray.size_extract]; unfold maxLen; omega
 by_cases hz : many = 0
 · by_cases he : k = s.size
   · have HR : Hid (takeS s.data.toList k = (0, 0, 5, ((k : Nat) : Int))) := by rw [takeS_in _ _ (by rw [toList_length]; omega)]; exact w0 ⟨hz, by rw [toList_length]; exact he⟩
     have ht1 : ((many : Int) == 0) = true := by simp [hz]
     have ht2 : (((k : Nat) : Int) == (s.size : Int)) = true := by simp [he]
     try simp only [Int.natCast_add, Int.cast_ofNat_Int] at HR ht2
     clear w0 w1 w2 w3 hz he hmany hmm hfr
     go_enter Tryz.func110, Tryz.ntmps110
     go_wp2_with (first | (go_at_call 129; refine (run_at _ many _ hsz1 Hmany).mono ?_; rintro e w' ⟨rfl, rfl⟩) | (go_at_call 130; refine (dvalue_at _ _ n _ _ hsz2 Hdig Hn Hok).mono ?_; rintro e w' ⟨rfl, rfl⟩))
     all_goals (refine bodyPost_ret (v := takeV (_, _, _, _)) (by simp [results, Tryz.results110, go_sem] <;> rfl) rfl ⟨by rw [HR.out], ?_⟩; repeat (first | exact Below.refl _ _ | refine Below.setCell ?_ (by simp) _ | refine Below.alloc ?_ (by simp) _))
   · have HR : Hid (takeS s.data.toList k = (0, 0, 19, ((k : Nat) : Int))) := by rw [takeS_in _ _ (by rw [toList_length]; omega)]; exact w1 ⟨hz, by rw [toList_length]; exact he⟩
     have ht1 : ((many : Int) == 0) = true := by simp [hz]
     have ht2 : (((k : Nat) : Int) == (s.size : Int)) = false := by simp; omega
     try simp only [Int.natCast_add, Int.cast_ofNat_Int] at HR ht2
     clear w0 w1 w2 w3 hz he hmany hmm hfr
     go_enter Tryz.func110, Tryz.ntmps110
     go_wp2_with (first | (go_at_call 129; refine (run_at _ many _ hsz1 Hmany).mono ?_; rintro e w' ⟨rfl, rfl⟩) | (go_at_call 130; refine (dvalue_at _ _ n _ _ hsz2 Hdig Hn Hok).mono ?_; rintro e w' ⟨rfl, rfl⟩))
     all_goals (refine bodyPost_ret (v := takeV (_, _, _, _)) (by simp [results, Tryz.results110, go_sem] <;> rfl) rfl ⟨by rw [HR.out], ?_⟩; repeat (first | exact Below.refl _ _ | refine Below.setCell ?_ (by simp) _ | refine Below.alloc ?_ (by simp) _))
 · have ht1 : ((many : Int) == 0) = false := by simp [hz]
   have hlt : k < s.size := by omega
   have hgz : s.data.toList[k]? = some s[k] := by rw [List.getElem?_eq_getElem (by rw [toList_length]; exact hlt)]; rfl
   have hgz' : (s.data.toList[k]? = some 48) = (s[k].toNat = 48) := by rw [hgz]; simp [← UInt8.toNat_inj]
   rw [hgz'] at w2 w3
   by_cases hbad : s[k].toNat = 48 ∧ (1 < many ∨ false = true)
   · have HR : Hid (takeS s.data.toList k = (0, 0, 19, (k : Int))) := by rw [takeS_in _ _ (by rw [toList_length]; omega)]; exact w2 hz hbad
     have ht3 : ((s[k].toNat : Int) == 48) = true := by simp; omega
     have ht4 := hbad.2
     simp only [or_true, or_false, Bool.false_eq_true] at ht4
     clear w0 w1 w2 w3 hz hgz hgz' hbad hmany hmm hfr
     go_enter Tryz.func110, Tryz.ntmps110
     go_wp2_with (first | (go_at_call 129; refine (run_at _ many _ hsz1 Hmany).mono ?_; rintro e w' ⟨rfl, rfl⟩) | (go_at_call 130; refine (dvalue_at _ _ n _ _ hsz2 Hdig Hn Hok).mono ?_; rintro e w' ⟨rfl, rfl⟩))
     all_goals (refine bodyPost_ret (v := takeV (_, _, _, _)) (by simp [results, Tryz.results110, go_sem] <;> rfl) rfl ⟨by rw [HR.out], ?_⟩; repeat (first | exact Below.refl _ _ | refine Below.setCell ?_ (by simp) _ | refine Below.alloc ?_ (by simp) _))
   · have hdig : ∀ c ∈ (s.extract (k) (k + many)).data.toList, isDig c = true := by
      rw [extract_toList, show k + many - (k) = many by omega]; exact runL_all _ _ (by rw [hmany]; exact Nat.le_refl _)
     have hv := w3 hz hbad
     have hnv : numVal (s.extract (k) (k + many)).data.toList 0 = numVal ((s.data.toList.drop (k)).take many) 0 := by
      rw [extract_toList, show k + many - (k) = many by omega]
     rw [← hnv] at hv
     have Hdig := Lib.hid hdig
     have hsz2 : (s.extract (k) (k + many)).size ≤ maxLen := by rw [ByteArray.size_extract]; unfold maxLen; omega
     obtain ⟨n, hn⟩ : ∃ n, valN (numVal (s.extract (k) (k + many)).data.toList 0) false = n := ⟨_, rfl⟩
     obtain ⟨ok, hok⟩ : ∃ ok, valB (numVal (s.extract (k) (k + many)).data.toList 0) false = ok := ⟨_, rfl⟩
     have Hn := Lib.hid hn
     have Hok := Lib.hid hok
     rw [hn, hok] at hv
     have HR : Hid (takeS s.data.toList k = if ok = true then (n, ((k : Nat) : Int) + many, 0, 0) else (0, 0, 13, (k : Int))) := by
      rw [takeS_in _ _ (by rw [toList_length]; omega)]; exact hv
     try simp only [Int.natCast_add, Int.cast_ofNat_Int] at HR
     have ht3 : s[k].toNat = 48 → ¬ (1 < many ∨ false = true) := fun h h' => hbad ⟨h, h'⟩
     clear w0 w1 w2 w3 hz hgz hgz' hbad hmany hn hok hv hnv hdig hmm hfr
     by_cases h48 : s[k].toNat = 48
     · have ht4 := ht3 h48
       have ht5 : ((s[k].toNat : Int) == 48) = true := by simp; omega
       simp only [or_true, or_false, Bool.false_eq_true, not_true_eq_false] at ht4
       all_goals clear ht3 h48
       all_goals cases ok
       all_goals (first | rw [if_neg Bool.false_ne_true] at HR | rw [if_pos rfl] at HR)
       all_goals (
        go_enter Tryz.func110, Tryz.ntmps110
        go_wp2_with (first | (go_at_call 129; refine (run_at _ many _ hsz1 Hmany).mono ?_; rintro e w' ⟨rfl, rfl⟩) | (go_at_call 130; refine (dvalue_at _ _ n _ _ hsz2 Hdig Hn Hok).mono ?_; rintro e w' ⟨rfl, rfl⟩))
        all_goals (refine bodyPost_ret (v := takeV (_, _, _, _)) (by simp [results, Tryz.results110, go_sem] <;> rfl) rfl ⟨by rw [HR.out], ?_⟩; repeat (first | exact Below.refl _ _ | refine Below.setCell ?_ (by simp) _ | refine Below.alloc ?_ (by simp) _))
        )
     · have ht5 : ((s[k].toNat : Int) == 48) = false := by simp; omega
       clear ht3 h48
       cases ok
       all_goals (first | rw [if_neg Bool.false_ne_true] at HR | rw [if_pos rfl] at HR)
       all_goals (
        go_enter Tryz.func110, Tryz.ntmps110
        go_wp2_with (first | (go_at_call 129; refine (run_at _ many _ hsz1 Hmany).mono ?_; rintro e w' ⟨rfl, rfl⟩) | (go_at_call 130; refine (dvalue_at _ _ n _ _ hsz2 Hdig Hn Hok).mono ?_; rintro e w' ⟨rfl, rfl⟩))
        all_goals (refine bodyPost_ret (v := takeV (_, _, _, _)) (by simp [results, Tryz.results110, go_sem] <;> rfl) rfl ⟨by rw [HR.out], ?_⟩; repeat (first | exact Below.refl _ _ | refine Below.setCell ?_ (by simp) _ | refine Below.alloc ?_ (by simp) _))
        )
set_option maxHeartbeats 2000000 in
theorem take_in3 (s : ByteArray) (k : Nat) (w : World) (hs : s.size ≤ maxLen) (hk : k ≤ s.size) (hk' : s.size ≤ k) :
 Calls Tryz.prog 110 #[.string s, .int .i64 k] w fun e w' => e = .returned (takeV (takeS s.data.toList k)) ∧ Below w.heap.size w w' := by
 unfold maxLen at hs
 obtain ⟨many, hmany⟩ : ∃ many, runL (s.data.toList.drop k) = many := ⟨_, rfl⟩
 have hz : many = 0 := by rw [← hmany, drop_all s _ hk']; rfl
 have hmm : (s.data.toList[k]? == some 45) = false := by rw [List.getElem?_eq_none (by rw [toList_length]; exact hk')]; rfl
 have HR : Hid (takeS s.data.toList k = (0, 0, 5, (k : Int))) := by
  rw [takeS_in _ _ (by rw [toList_length]; exact hk)]
  exact (takeAt_ways s.data.toList k false hmm k rfl many hmany).1 ⟨hz, by rw [toList_length]; omega⟩
 have Hmany : Hid (runL (s.extract k s.size).data.toList = many) := by rw [extract_rest]; exact hmany
 have hsz1 : (s.extract k s.size).size ≤ maxLen := by rw [ByteArray.size_extract]; unfold maxLen; omega
 have ht1 : ((many : Int) == 0) = true := by simp [hz]
 have ht2 : ((k : Int) == (s.size : Int)) = true := by simp; omega
 clear hz hmany hmm
 go_enter Tryz.func110, Tryz.ntmps110
 go_wp2_with (go_at_call 129; refine (run_at _ many _ hsz1 Hmany).mono ?_; rintro e w' ⟨rfl, rfl⟩)
 all_goals (refine bodyPost_ret (v := takeV (_, _, _, _)) (by simp [results, Tryz.results110, go_sem] <;> rfl) rfl ⟨by rw [HR.out], ?_⟩; repeat (first | exact Below.refl _ _ | refine Below.setCell ?_ (by simp) _ | refine Below.alloc ?_ (by simp) _))
theorem take_any (s : ByteArray) (a : Int) (w : World) (hs : s.size ≤ maxLen) (ha : -9223372036854775808 ≤ a ∧ a ≤ 9223372036854775807) :
 Calls Tryz.prog 110 #[.string s, .int .i64 a] w fun e w' => e = .returned (takeV (takeS s.data.toList a)) ∧ Below w.heap.size w w' := by
 by_cases h : a < 0 ∨ (s.size : Int) < a
 · exact take_out s a w hs ha h
 · obtain ⟨k, rfl⟩ := Int.eq_ofNat_of_zero_le (show 0 ≤ a by omega)
   by_cases hk : k < s.size
   · by_cases hm : ((s[k].toNat : Int) == 45) = true
     · exact take_in1 s k w hs hk hm
     · exact take_in2 s k w hs hk (by simpa using hm)
   · exact take_in3 s k w hs (by omega) (by omega)
end Go.Proofs.YtldjakeigjngoaaGreat