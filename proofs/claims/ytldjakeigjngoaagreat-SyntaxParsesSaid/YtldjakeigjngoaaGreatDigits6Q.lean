/- Contracts: the reference's isDigit, great and Take. -/
import Derived.Test.YtldjakeigjngoaaGreatBDG
set_option linter.unusedVariables false
set_option linter.unusedSimpArgs false
namespace Go.Proofs.YtldjakeigjngoaaGreat
open Go.RowKit Bf
theorem rdig_yes (n : Int) (w : World) (h : 48 ≤ n) (h' : n ≤ 57) :
 Calls Tryz.prog 116 #[.int .u8 n] w fun e w' => e = .returned (.bool true) ∧ w = w' := by
 go_enter Tryz.func116, Tryz.ntmps116
 go_wp2
 go_ret
 exact ⟨by simp [h'], rfl⟩
theorem rdig_no (n : Int) (w : World) (h : n < 48 ∨ 57 < n) :
 Calls Tryz.prog 116 #[.int .u8 n] w fun e w' => e = .returned (.bool false) ∧ w = w' := by
 go_enter Tryz.func116, Tryz.ntmps116
 go_wp2
 all_goals (go_ret; exact ⟨by simp; try omega, rfl⟩)
theorem great_any (s m : ByteArray) (w : World) (hs : s.size ≤ maxLen) (hm : m.size ≤ maxLen) :
 Calls Tryz.prog 117 #[.string s, .string m] w fun e w' => e = .returned (.bool (greatB s.data.toList m.data.toList)) ∧ w = w' := by
 unfold maxLen at hs hm
 have HG : Hid (∀ b : Bool, ((s.size : Int) != (m.size : Int)) = b → greatB s.data.toList m.data.toList = if b then decide (m.size < s.size) else (!Op.bytesLess s.toList m.toList && !s.toList == m.toList)) := by
  rintro b rfl
  unfold greatB; rw [toList_length, toList_length, ByteArray.toList_eq, ByteArray.toList_eq]
  by_cases h : s.size = m.size
  · simp [h]
  · have : ((s.size : Int) != (m.size : Int)) = true := by simp; omega
    rw [this]; simp [h]
 go_enter Tryz.func117, Tryz.ntmps117
 go_wp2
 all_goals (rename_i h; go_ret; exact ⟨by rw [HG.out _ h]; rfl, rfl⟩)
theorem great_at (s m : ByteArray) (g : Bool) (w : World) (hs : s.size ≤ maxLen) (hm : m.size ≤ maxLen) (h : Hid (greatB s.data.toList m.data.toList = g)) :
 Calls Tryz.prog 117 #[.string s, .string m] w fun e w' => e = .returned (.bool g) ∧ w = w' := by
 have := great_any s m w hs hm; rw [h.out] at this; exact this
set_option maxHeartbeats 1000000 in
theorem rtake_out (s : ByteArray) (a : Int) (w : World) (hs : s.size ≤ maxLen) (ha : -9223372036854775808 ≤ a ∧ a ≤ 9223372036854775807) (h : a < 0 ∨ (s.size : Int) < a) :
 Calls Tryz.prog 94 #[.string s, .int .i64 a] w fun e w' => e = .returned (takeV (takeS s.data.toList a)) ∧ Below w.heap.size w w' := by
 unfold maxLen at hs
 have HR := Lib.hid (takeS_out s.data.toList a (by rw [toList_length]; exact h))
 obtain ⟨ha1, ha2⟩ := ha
 by_cases h0 : a < 0
 · clear h
   go_enter Tryz.func94, Tryz.ntmps94
   go_wp2
   all_goals (refine bodyPost_ret (v := takeV (0, 0, 1, 0)) (by simp [results, Tryz.results94, go_sem]; rfl) rfl ⟨by rw [HR.out], ?_⟩)
   repeat (first | exact Below.refl _ _ | refine bl_alloc ?_ _ | refine Below.drew ?_ | refine bl_drewN ?_ _ | refine bl_set ?_ (by first | (simp; done) | (simp; omega)) _ | refine bl_step ?_ (by assumption))
 · have h1 : (s.size : Int) < a := by omega
   clear h
   go_enter Tryz.func94, Tryz.ntmps94
   go_wp2
   all_goals (refine bodyPost_ret (v := takeV (0, 0, 1, 0)) (by simp [results, Tryz.results94, go_sem]; rfl) rfl ⟨by rw [HR.out], ?_⟩)
   repeat (first | exact Below.refl _ _ | refine bl_alloc ?_ _ | refine Below.drew ?_ | refine bl_drewN ?_ _ | refine bl_set ?_ (by first | (simp; done) | (simp; omega)) _ | refine bl_step ?_ (by assumption))
def RTRel (fr E : Nat) (e : Value) : Prop := ∃ en : Nat, e = .int .i64 en ∧ fr ≤ en ∧ en ≤ E
def RTRel2 (s : ByteArray) (m : Bool) (V fr E : Nat) (n i : Value) : Prop :=
 ∃ a j : Nat, i = .int .i64 j ∧ n = .int .i64 (if m then -(a : Int) else a) ∧ fr ≤ j ∧ j ≤ E ∧ a ≤ V ∧ V = numVal ((s.data.toList.drop j).take (E - j)) a
set_option maxHeartbeats 2000000 in
theorem rtake_in1 (s : ByteArray) (k : Nat) (w : World) (hs : s.size ≤ maxLen) (hk : k < s.size) (hm : ((s[k].toNat : Int) == 45) = true) :
 Calls Tryz.prog 94 #[.string s, .int .i64 k] w fun e w' => e = .returned (takeV (takeS s.data.toList k)) ∧ Below w.heap.size w w' := by
 unfold maxLen at hs
 have hmm : (s.data.toList[k]? == some 45) = true := by
  rw [List.getElem?_eq_getElem (by rw [toList_length]; exact hk)]; simp at hm ⊢; exact UInt8.toNat_inj.1 (by have : (45:UInt8).toNat = 45 := rfl; rw [this]; exact_mod_cast hm)
 have hfr : k + 1 = if true = true then k + 1 else k := by simp
 have q1 : decide ((k : Int) < 0) = false := by simp
 have q2 : decide (s.size < k) = false := by simp; omega
 obtain ⟨E, hb0, hb1, hd1, hd2, v0, v1, v2, v3⟩ := take_ways s k (k + 1) true (by omega) hmm hfr (by omega)
 have HD1 := Lib.hid hd1
 have HD2 := Lib.hid hd2
 clear hd1 hd2 hmm hfr
 have hsz2 : (s.extract (k + 1) E).size ≤ maxLen := by rw [ByteArray.size_extract]; unfold maxLen; omega
 by_cases hz : E = k + 1
 · have ht1 : ((E : Int) == ((k + 1 : Nat) : Int)) = true := by simp; omega
   try simp only [Int.natCast_add, Int.cast_ofNat_Int] at ht1
   by_cases he : k + 1 = s.size
   · have HR := Lib.hid (v0 hz he)
     have ht2 : ((E : Int) == (s.size : Int)) = true := by simp; omega
     clear v0 v1 v2 v3 hz he hsz2
     go_enter Tryz.func94, Tryz.ntmps94
     go_wp2
     go_loop [10] (fun e => RTRel (k + 1) E e) (fun e => s.size - (intOf e).toNat)
     case atStart => exact ⟨k + 1, by simp, by omega, by omega⟩
     case round =>
      obtain ⟨en, rfl, h1, h2⟩ := hrel
      by_cases hgo : en < E
      · obtain ⟨d1, d2⟩ := isDig_bd (HD1.out en (by omega) h1 hgo)
        go_wp2_with (go_at_call 116; refine (rdig_yes _ _ (by omega) (by omega)).mono ?_; rintro e w' ⟨rfl, rfl⟩)
        go_round
        case rel => exact ⟨en + 1, by go_num, by omega, by omega⟩
        case measure => simp [intOf]; omega
      · obtain rfl : E = en := by omega
        clear hgo h1 h2
        by_cases hEs : E < s.size
        · have hnd := HD2.out hEs
          have hnd' : (s[E].toNat : Int) < 48 ∨ 57 < (s[E].toNat : Int) := by unfold isDig at hnd; simp at hnd; omega
          clear hnd
          go_wp2_with (first | (go_at_call 116; refine (rdig_no _ _ (by assumption)).mono ?_; rintro e w' ⟨rfl, rfl⟩) )
          all_goals (refine bodyPost_ret (v := takeV (_, _, _, _)) (by simp [results, Tryz.results94, go_sem]; rfl) rfl ⟨by rw [HR.out], ?_⟩)
          repeat (first | exact Below.refl _ _ | refine bl_alloc ?_ _ | refine Below.drew ?_ | refine bl_drewN ?_ _ | refine bl_set ?_ (by first | (simp; done) | (simp; omega)) _ | refine bl_step ?_ (by assumption))
        · go_wp2_with (first | (go_at_call 116; fail) )
          all_goals (refine bodyPost_ret (v := takeV (_, _, _, _)) (by simp [results, Tryz.results94, go_sem]; rfl) rfl ⟨by rw [HR.out], ?_⟩)
          repeat (first | exact Below.refl _ _ | refine bl_alloc ?_ _ | refine Below.drew ?_ | refine bl_drewN ?_ _ | refine bl_set ?_ (by first | (simp; done) | (simp; omega)) _ | refine bl_step ?_ (by assumption))
   · have HR := Lib.hid (v1 hz (by omega))
     have ht2 : ((E : Int) == (s.size : Int)) = false := by simp; omega
     clear v0 v1 v2 v3 hz he hsz2
     go_enter Tryz.func94, Tryz.ntmps94
     go_wp2
     go_loop [10] (fun e => RTRel (k + 1) E e) (fun e => s.size - (intOf e).toNat)
     case atStart => exact ⟨k + 1, by simp, by omega, by omega⟩
     case round =>
      obtain ⟨en, rfl, h1, h2⟩ := hrel
      by_cases hgo : en < E
      · obtain ⟨d1, d2⟩ := isDig_bd (HD1.out en (by omega) h1 hgo)
        go_wp2_with (go_at_call 116; refine (rdig_yes _ _ (by omega) (by omega)).mono ?_; rintro e w' ⟨rfl, rfl⟩)
        go_round
        case rel => exact ⟨en + 1, by go_num, by omega, by omega⟩
        case measure => simp [intOf]; omega
      · obtain rfl : E = en := by omega
        clear hgo h1 h2
        by_cases hEs : E < s.size
        · have hnd := HD2.out hEs
          have hnd' : (s[E].toNat : Int) < 48 ∨ 57 < (s[E].toNat : Int) := by unfold isDig at hnd; simp at hnd; omega
          clear hnd
          go_wp2_with (first | (go_at_call 116; refine (rdig_no _ _ (by assumption)).mono ?_; rintro e w' ⟨rfl, rfl⟩) )
          all_goals (refine bodyPost_ret (v := takeV (_, _, _, _)) (by simp [results, Tryz.results94, go_sem]; rfl) rfl ⟨by rw [HR.out], ?_⟩)
          repeat (first | exact Below.refl _ _ | refine bl_alloc ?_ _ | refine Below.drew ?_ | refine bl_drewN ?_ _ | refine bl_set ?_ (by first | (simp; done) | (simp; omega)) _ | refine bl_step ?_ (by assumption))
        · go_wp2_with (first | (go_at_call 116; fail) )
          all_goals (refine bodyPost_ret (v := takeV (_, _, _, _)) (by simp [results, Tryz.results94, go_sem]; rfl) rfl ⟨by rw [HR.out], ?_⟩)
          repeat (first | exact Below.refl _ _ | refine bl_alloc ?_ _ | refine Below.drew ?_ | refine bl_drewN ?_ _ | refine bl_set ?_ (by first | (simp; done) | (simp; omega)) _ | refine bl_step ?_ (by assumption))
 · have ht1 : ((E : Int) == ((k + 1 : Nat) : Int)) = false := by simp; omega
   try simp only [Int.natCast_add, Int.cast_ofNat_Int] at ht1
   have hlt : k + 1 < E := by omega
   by_cases hbad : s[k + 1].toNat = 48 ∧ (1 < E - (k + 1) ∨ true = true)
   · have HR := Lib.hid (v2 (by omega) hlt hbad.1 hbad.2)
     have ht3 : ((s[k + 1].toNat : Int) == 48) = true := by simp; omega
     have hb2 := hbad.2
     simp only [or_true, or_false, Bool.false_eq_true] at hb2
     clear v0 v1 v2 v3 hz hbad hsz2
     go_enter Tryz.func94, Tryz.ntmps94
     go_wp2
     go_loop [10] (fun e => RTRel (k + 1) E e) (fun e => s.size - (intOf e).toNat)
     case atStart => exact ⟨k + 1, by simp, by omega, by omega⟩
     case round =>
      obtain ⟨en, rfl, h1, h2⟩ := hrel
      by_cases hgo : en < E
      · obtain ⟨d1, d2⟩ := isDig_bd (HD1.out en (by omega) h1 hgo)
        go_wp2_with (go_at_call 116; refine (rdig_yes _ _ (by omega) (by omega)).mono ?_; rintro e w' ⟨rfl, rfl⟩)
        go_round
        case rel => exact ⟨en + 1, by go_num, by omega, by omega⟩
        case measure => simp [intOf]; omega
      · obtain rfl : E = en := by omega
        clear hgo h1 h2
        by_cases hEs : E < s.size
        · have hnd := HD2.out hEs
          have hnd' : (s[E].toNat : Int) < 48 ∨ 57 < (s[E].toNat : Int) := by unfold isDig at hnd; simp at hnd; omega
          clear hnd
          go_wp2_with (first | (go_at_call 116; refine (rdig_no _ _ (by assumption)).mono ?_; rintro e w' ⟨rfl, rfl⟩) )
          all_goals (refine bodyPost_ret (v := takeV (_, _, _, _)) (by simp [results, Tryz.results94, go_sem]; rfl) rfl ⟨by rw [HR.out], ?_⟩)
          repeat (first | exact Below.refl _ _ | refine bl_alloc ?_ _ | refine Below.drew ?_ | refine bl_drewN ?_ _ | refine bl_set ?_ (by first | (simp; done) | (simp; omega)) _ | refine bl_step ?_ (by assumption))
        · go_wp2_with (first | (go_at_call 116; fail) )
          all_goals (refine bodyPost_ret (v := takeV (_, _, _, _)) (by simp [results, Tryz.results94, go_sem]; rfl) rfl ⟨by rw [HR.out], ?_⟩)
          repeat (first | exact Below.refl _ _ | refine bl_alloc ?_ _ | refine Below.drew ?_ | refine bl_drewN ?_ _ | refine bl_set ?_ (by first | (simp; done) | (simp; omega)) _ | refine bl_step ?_ (by assumption))
   · obtain ⟨hg, hr⟩ := v3 (by omega) hlt hbad
     obtain ⟨V, hV⟩ : ∃ V, numVal ((s.data.toList.drop (k + 1)).take (E - (k + 1))) 0 = V := ⟨_, rfl⟩
     rw [hV] at hg hr
     rw [← extract_toList] at hg
     have HV : Hid (numVal ((s.data.toList.drop (k + 1)).take (E - (k + 1))) 0 = V) := hV
     have hb3 : ((s[k + 1].toNat : Int) == 48) = false ∨ (((s[k + 1].toNat : Int) == 48) = true ∧ E - (k + 1) ≤ 1 ∧ true = false) := by
      by_cases h48 : s[k + 1].toNat = 48
      · refine Or.inr ⟨by simp; omega, ?_, ?_⟩
        · exact Nat.not_lt.1 fun h => hbad ⟨h48, Or.inl h⟩
        · cases hmm : true
          · rfl
          · exact absurd ⟨h48, Or.inr hmm⟩ hbad
      · exact Or.inl (by simp; omega)
     by_cases hbig : V ≤ most true
     · have hv1 : valB V true = true := by unfold valB; simp [hbig]
       have hv2 : valN V true = -(V : Int) := by unfold valN; rw [if_pos hbig]; simp
       have HG : Hid (greatB (s.extract (k + 1) E).data.toList (mostL true) = false) := by rw [hg, hv1]; rfl
       have HR : Hid (takeS s.data.toList k = (-(V : Int), (E : Int), 0, 0)) := by rw [hr, hv1, if_pos rfl, hv2]; rfl
       have hVb : V ≤ 9223372036854775808 := hbig
       clear v0 v1 v2 v3 hz hg hr hV hbig hv1 hv2 hbad
       rcases hb3 with ht3 | ⟨ht3, ht4, ⟨⟩⟩
       all_goals (
        go_enter Tryz.func94, Tryz.ntmps94
        go_wp2
        go_loop [10] (fun e => RTRel (k + 1) E e) (fun e => s.size - (intOf e).toNat)
        case atStart => exact ⟨k + 1, by simp, by omega, by omega⟩
        case round =>
         obtain ⟨en, rfl, h1, h2⟩ := hrel
         by_cases hgo : en < E
         · obtain ⟨d1, d2⟩ := isDig_bd (HD1.out en (by omega) h1 hgo)
           go_wp2_with (go_at_call 116; refine (rdig_yes _ _ (by omega) (by omega)).mono ?_; rintro e w' ⟨rfl, rfl⟩)
           go_round
           case rel => exact ⟨en + 1, by go_num, by omega, by omega⟩
           case measure => simp [intOf]; omega
         · obtain rfl : E = en := by omega
           clear hgo h1 h2
           by_cases hEs : E < s.size
           · have hnd := HD2.out hEs
             have hnd' : (s[E].toNat : Int) < 48 ∨ 57 < (s[E].toNat : Int) := by unfold isDig at hnd; simp at hnd; omega
             clear hnd
             go_wp2_with (first | (go_at_call 116; refine (rdig_no _ _ (by assumption)).mono ?_; rintro e w' ⟨rfl, rfl⟩) | (go_at_call 117; refine (great_at _ _ _ _ hsz2 (by decide) HG).mono ?_; rintro e w' ⟨rfl, rfl⟩))
             go_loop [11, 12] (fun n i => RTRel2 s true V (k + 1) E n i) (fun _ i => E - (intOf i).toNat)
             case atStart => exact ⟨0, k + 1, by simp, by simp, by omega, by omega, by omega, HV.out.symm⟩
             case round =>
              obtain ⟨a, j, rfl, rfl, h1, h2, h3, hr⟩ := hrel
              have Hr := Lib.hid hr; clear hr
              try rw [if_pos rfl]
              try rw [if_neg Bool.false_ne_true]
              by_cases hlt : j < E
              · obtain ⟨d1, d2⟩ := isDig_bd (HD1.out j (by omega) h1 hlt)
                have hc := Hr.out
                rw [take_drop_cons s j E hlt hb1, numVal_cons] at hc
                have h4 := numVal_ge ((s.data.toList.drop (j + 1)).take (E - (j + 1))) (a * 10 + digVal s[j])
                rw [← hc] at h4
                have HC := Lib.hid hc
                unfold digVal at h4
                clear hc
                go_wp2
                go_round
                case rel => exact ⟨a * 10 + (s[j].toNat - 48), j + 1, by go_num, by simp only [if_true, Bool.false_eq_true, if_false]; congr 1; omega, by omega, by omega, by omega, HC.out⟩
                case measure => simp [intOf]; omega
              · obtain rfl : j = E := by omega
                have hv : V = a := by rw [Hr.out, Nat.sub_self]; rfl
                subst hv
                go_wp2
                all_goals (refine bodyPost_ret (v := takeV (_, _, _, _)) (by simp [results, Tryz.results94, go_sem]; rfl) rfl ⟨by rw [HR.out], ?_⟩)
                repeat (first | exact Below.refl _ _ | refine bl_alloc ?_ _ | refine Below.drew ?_ | refine bl_drewN ?_ _ | refine bl_set ?_ (by first | (simp; done) | (simp; omega)) _ | refine bl_step ?_ (by assumption))
           · go_wp2_with (first | (go_at_call 116; fail) | (go_at_call 117; refine (great_at _ _ _ _ hsz2 (by decide) HG).mono ?_; rintro e w' ⟨rfl, rfl⟩))
             go_loop [11, 12] (fun n i => RTRel2 s true V (k + 1) E n i) (fun _ i => E - (intOf i).toNat)
             case atStart => exact ⟨0, k + 1, by simp, by simp, by omega, by omega, by omega, HV.out.symm⟩
             case round =>
              obtain ⟨a, j, rfl, rfl, h1, h2, h3, hr⟩ := hrel
              have Hr := Lib.hid hr; clear hr
              try rw [if_pos rfl]
              try rw [if_neg Bool.false_ne_true]
              by_cases hlt : j < E
              · obtain ⟨d1, d2⟩ := isDig_bd (HD1.out j (by omega) h1 hlt)
                have hc := Hr.out
                rw [take_drop_cons s j E hlt hb1, numVal_cons] at hc
                have h4 := numVal_ge ((s.data.toList.drop (j + 1)).take (E - (j + 1))) (a * 10 + digVal s[j])
                rw [← hc] at h4
                have HC := Lib.hid hc
                unfold digVal at h4
                clear hc
                go_wp2
                go_round
                case rel => exact ⟨a * 10 + (s[j].toNat - 48), j + 1, by go_num, by simp only [if_true, Bool.false_eq_true, if_false]; congr 1; omega, by omega, by omega, by omega, HC.out⟩
                case measure => simp [intOf]; omega
              · obtain rfl : j = E := by omega
                have hv : V = a := by rw [Hr.out, Nat.sub_self]; rfl
                subst hv
                go_wp2
                all_goals (refine bodyPost_ret (v := takeV (_, _, _, _)) (by simp [results, Tryz.results94, go_sem]; rfl) rfl ⟨by rw [HR.out], ?_⟩)
                repeat (first | exact Below.refl _ _ | refine bl_alloc ?_ _ | refine Below.drew ?_ | refine bl_drewN ?_ _ | refine bl_set ?_ (by first | (simp; done) | (simp; omega)) _ | refine bl_step ?_ (by assumption))
        )
     · have hv1 : valB V true = false := by unfold valB; simp [hbig]
       have HG : Hid (greatB (s.extract (k + 1) E).data.toList (mostL true) = true) := by rw [hg, hv1]; rfl
       have HR : Hid (takeS s.data.toList k = (0, 0, 13, (k : Int))) := by rw [hr, hv1, if_neg (by decide)]; rfl
       clear v0 v1 v2 v3 hz hg hr hV hbig hv1 hbad
       rcases hb3 with ht3 | ⟨ht3, ht4, ⟨⟩⟩
       all_goals (
        go_enter Tryz.func94, Tryz.ntmps94
        go_wp2
        go_loop [10] (fun e => RTRel (k + 1) E e) (fun e => s.size - (intOf e).toNat)
        case atStart => exact ⟨k + 1, by simp, by omega, by omega⟩
        case round =>
         obtain ⟨en, rfl, h1, h2⟩ := hrel
         by_cases hgo : en < E
         · obtain ⟨d1, d2⟩ := isDig_bd (HD1.out en (by omega) h1 hgo)
           go_wp2_with (go_at_call 116; refine (rdig_yes _ _ (by omega) (by omega)).mono ?_; rintro e w' ⟨rfl, rfl⟩)
           go_round
           case rel => exact ⟨en + 1, by go_num, by omega, by omega⟩
           case measure => simp [intOf]; omega
         · obtain rfl : E = en := by omega
           clear hgo h1 h2
           by_cases hEs : E < s.size
           · have hnd := HD2.out hEs
             have hnd' : (s[E].toNat : Int) < 48 ∨ 57 < (s[E].toNat : Int) := by unfold isDig at hnd; simp at hnd; omega
             clear hnd
             go_wp2_with (first | (go_at_call 116; refine (rdig_no _ _ (by assumption)).mono ?_; rintro e w' ⟨rfl, rfl⟩) | (go_at_call 117; refine (great_at _ _ _ _ hsz2 (by decide) HG).mono ?_; rintro e w' ⟨rfl, rfl⟩))
             all_goals (refine bodyPost_ret (v := takeV (_, _, _, _)) (by simp [results, Tryz.results94, go_sem]; rfl) rfl ⟨by rw [HR.out], ?_⟩)
             repeat (first | exact Below.refl _ _ | refine bl_alloc ?_ _ | refine Below.drew ?_ | refine bl_drewN ?_ _ | refine bl_set ?_ (by first | (simp; done) | (simp; omega)) _ | refine bl_step ?_ (by assumption))
           · go_wp2_with (first | (go_at_call 116; fail) | (go_at_call 117; refine (great_at _ _ _ _ hsz2 (by decide) HG).mono ?_; rintro e w' ⟨rfl, rfl⟩))
             all_goals (refine bodyPost_ret (v := takeV (_, _, _, _)) (by simp [results, Tryz.results94, go_sem]; rfl) rfl ⟨by rw [HR.out], ?_⟩)
             repeat (first | exact Below.refl _ _ | refine bl_alloc ?_ _ | refine Below.drew ?_ | refine bl_drewN ?_ _ | refine bl_set ?_ (by first | (simp; done) | (simp; omega)) _ | refine bl_step ?_ (by assumption))
        )
set_option maxHeartbeats 2000000 in
theorem rtake_in2 (s : ByteArray) (k : Nat) (w : World) (hs : s.size ≤ maxLen) (hk : k < s.size) (hm : ((s[k].toNat : Int) == 45) = false) :
 Calls Tryz.prog 94 #[.string s, .int .i64 k] w fun e w' => e = .returned (takeV (takeS s.data.toList k)) ∧ Below w.heap.size w w' := by
 unfold maxLen at hs
 have hmm : (s.data.toList[k]? == some 45) = false := by
  rw [List.getElem?_eq_getElem (by rw [toList_length]; exact hk)]; simp at hm ⊢; intro h; apply hm; have : s[k] = 45 := h; rw [this]; rfl
 have hfr : k = if false = true then k + 1 else k := by simp
 have q1 : decide ((k : Int) < 0) = false := by simp
 have q2 : decide (s.size < k) = false := by simp; omega
 obtain ⟨E, hb0, hb1, hd1, hd2, v0, v1, v2, v3⟩ := take_ways s k (k) false (by omega) hmm hfr (by omega)
 have HD1 := Lib.hid hd1
 have HD2 := Lib.hid hd2
 clear hd1 hd2 hmm hfr
 have hsz2 : (s.extract (k) E).size ≤ maxLen := by rw [ByteArray.size_extract]; unfold maxLen; omega
 by_cases hz : E = k
 · have ht1 : ((E : Int) == ((k : Nat) : Int)) = true := by simp; omega
   try simp only [Int.natCast_add, Int.cast_ofNat_Int] at ht1
   by_cases he : k = s.size
   · have HR := Lib.hid (v0 hz he)
     have ht2 : ((E : Int) == (s.size : Int)) = true := by simp; omega
     clear v0 v1 v2 v3 hz he hsz2
     go_enter Tryz.func94, Tryz.ntmps94
     go_wp2
     go_loop [10] (fun e => RTRel (k) E e) (fun e => s.size - (intOf e).toNat)
     case atStart => exact ⟨k, by simp, by omega, by omega⟩
     case round =>
      obtain ⟨en, rfl, h1, h2⟩ := hrel
      by_cases hgo : en < E
      · obtain ⟨d1, d2⟩ := isDig_bd (HD1.out en (by omega) h1 hgo)
        go_wp2_with (go_at_call 116; refine (rdig_yes _ _ (by omega) (by omega)).mono ?_; rintro e w' ⟨rfl, rfl⟩)
        go_round
        case rel => exact ⟨en + 1, by go_num, by omega, by omega⟩
        case measure => simp [intOf]; omega
      · obtain rfl : E = en := by omega
        clear hgo h1 h2
        by_cases hEs : E < s.size
        · have hnd := HD2.out hEs
          have hnd' : (s[E].toNat : Int) < 48 ∨ 57 < (s[E].toNat : Int) := by unfold isDig at hnd; simp at hnd; omega
          clear hnd
          go_wp2_with (first | (go_at_call 116; refine (rdig_no _ _ (by assumption)).mono ?_; rintro e w' ⟨rfl, rfl⟩) )
          all_goals (refine bodyPost_ret (v := takeV (_, _, _, _)) (by simp [results, Tryz.results94, go_sem]; rfl) rfl ⟨by rw [HR.out], ?_⟩)
          repeat (first | exact Below.refl _ _ | refine bl_alloc ?_ _ | refine Below.drew ?_ | refine bl_drewN ?_ _ | refine bl_set ?_ (by first | (simp; done) | (simp; omega)) _ | refine bl_step ?_ (by assumption))
        · go_wp2_with (first | (go_at_call 116; fail) )
          all_goals (refine bodyPost_ret (v := takeV (_, _, _, _)) (by simp [results, Tryz.results94, go_sem]; rfl) rfl ⟨by rw [HR.out], ?_⟩)
          repeat (first | exact Below.refl _ _ | refine bl_alloc ?_ _ | refine Below.drew ?_ | refine bl_drewN ?_ _ | refine bl_set ?_ (by first | (simp; done) | (simp; omega)) _ | refine bl_step ?_ (by assumption))
   · have HR := Lib.hid (v1 hz (by omega))
     have ht2 : ((E : Int) == (s.size : Int)) = false := by simp; omega
     clear v0 v1 v2 v3 hz he hsz2
     go_enter Tryz.func94, Tryz.ntmps94
     go_wp2
     go_loop [10] (fun e => RTRel (k) E e) (fun e => s.size - (intOf e).toNat)
     case atStart => exact ⟨k, by simp, by omega, by omega⟩
     case round =>
      obtain ⟨en, rfl, h1, h2⟩ := hrel
      by_cases hgo : en < E
      · obtain ⟨d1, d2⟩ := isDig_bd (HD1.out en (by omega) h1 hgo)
        go_wp2_with (go_at_call 116; refine (rdig_yes _ _ (by omega) (by omega)).mono ?_; rintro e w' ⟨rfl, rfl⟩)
        go_round
        case rel => exact ⟨en + 1, by go_num, by omega, by omega⟩
        case measure => simp [intOf]; omega
      · obtain rfl : E = en := by omega
        clear hgo h1 h2
        by_cases hEs : E < s.size
        · have hnd := HD2.out hEs
          have hnd' : (s[E].toNat : Int) < 48 ∨ 57 < (s[E].toNat : Int) := by unfold isDig at hnd; simp at hnd; omega
          clear hnd
          go_wp2_with (first | (go_at_call 116; refine (rdig_no _ _ (by assumption)).mono ?_; rintro e w' ⟨rfl, rfl⟩) )
          all_goals (refine bodyPost_ret (v := takeV (_, _, _, _)) (by simp [results, Tryz.results94, go_sem]; rfl) rfl ⟨by rw [HR.out], ?_⟩)
          repeat (first | exact Below.refl _ _ | refine bl_alloc ?_ _ | refine Below.drew ?_ | refine bl_drewN ?_ _ | refine bl_set ?_ (by first | (simp; done) | (simp; omega)) _ | refine bl_step ?_ (by assumption))
        · go_wp2_with (first | (go_at_call 116; fail) )
          all_goals (refine bodyPost_ret (v := takeV (_, _, _, _)) (by simp [results, Tryz.results94, go_sem]; rfl) rfl ⟨by rw [HR.out], ?_⟩)
          repeat (first | exact Below.refl _ _ | refine bl_alloc ?_ _ | refine Below.drew ?_ | refine bl_drewN ?_ _ | refine bl_set ?_ (by first | (simp; done) | (simp; omega)) _ | refine bl_step ?_ (by assumption))
 · have ht1 : ((E : Int) == ((k : Nat) : Int)) = false := by simp; omega
   try simp only [Int.natCast_add, Int.cast_ofNat_Int] at ht1
   have hlt : k < E := by omega
   by_cases hbad : s[k].toNat = 48 ∧ (1 < E - (k) ∨ false = true)
   · have HR := Lib.hid (v2 (by omega) hlt hbad.1 hbad.2)
     have ht3 : ((s[k].toNat : Int) == 48) = true := by simp; omega
     have hb2 := hbad.2
     simp only [or_true, or_false, Bool.false_eq_true] at hb2
     clear v0 v1 v2 v3 hz hbad hsz2
     go_enter Tryz.func94, Tryz.ntmps94
     go_wp2
     go_loop [10] (fun e => RTRel (k) E e) (fun e => s.size - (intOf e).toNat)
     case atStart => exact ⟨k, by simp, by omega, by omega⟩
     case round =>
      obtain ⟨en, rfl, h1, h2⟩ := hrel
      by_cases hgo : en < E
      · obtain ⟨d1, d2⟩ := isDig_bd (HD1.out en (by omega) h1 hgo)
        go_wp2_with (go_at_call 116; refine (rdig_yes _ _ (by omega) (by omega)).mono ?_; rintro e w' ⟨rfl, rfl⟩)
        go_round
        case rel => exact ⟨en + 1, by go_num, by omega, by omega⟩
        case measure => simp [intOf]; omega
      · obtain rfl : E = en := by omega
        clear hgo h1 h2
        by_cases hEs : E < s.size
        · have hnd := HD2.out hEs
          have hnd' : (s[E].toNat : Int) < 48 ∨ 57 < (s[E].toNat : Int) := by unfold isDig at hnd; simp at hnd; omega
          clear hnd
          go_wp2_with (first | (go_at_call 116; refine (rdig_no _ _ (by assumption)).mono ?_; rintro e w' ⟨rfl, rfl⟩) )
          all_goals (refine bodyPost_ret (v := takeV (_, _, _, _)) (by simp [results, Tryz.results94, go_sem]; rfl) rfl ⟨by rw [HR.out], ?_⟩)
          repeat (first | exact Below.refl _ _ | refine bl_alloc ?_ _ | refine Below.drew ?_ | refine bl_drewN ?_ _ | refine bl_set ?_ (by first | (simp; done) | (simp; omega)) _ | refine bl_step ?_ (by assumption))
        · go_wp2_with (first | (go_at_call 116; fail) )
          all_goals (refine bodyPost_ret (v := takeV (_, _, _, _)) (by simp [results, Tryz.results94, go_sem]; rfl) rfl ⟨by rw [HR.out], ?_⟩)
          repeat (first | exact Below.refl _ _ | refine bl_alloc ?_ _ | refine Below.drew ?_ | refine bl_drewN ?_ _ | refine bl_set ?_ (by first | (simp; done) | (simp; omega)) _ | refine bl_step ?_ (by assumption))
   · obtain ⟨hg, hr⟩ := v3 (by omega) hlt hbad
     obtain ⟨V, hV⟩ : ∃ V, numVal ((s.data.toList.drop (k)).take (E - (k))) 0 = V := ⟨_, rfl⟩
     rw [hV] at hg hr
     rw [← extract_toList] at hg
     have HV : Hid (numVal ((s.data.toList.drop (k)).take (E - (k))) 0 = V) := hV
     have hb3 : ((s[k].toNat : Int) == 48) = false ∨ (((s[k].toNat : Int) == 48) = true ∧ E - (k) ≤ 1 ∧ false = false) := by
      by_cases h48 : s[k].toNat = 48
      · refine Or.inr ⟨by simp; omega, ?_, ?_⟩
        · exact Nat.not_lt.1 fun h => hbad ⟨h48, Or.inl h⟩
        · cases hmm : false
          · rfl
          · exact absurd ⟨h48, Or.inr hmm⟩ hbad
      · exact Or.inl (by simp; omega)
     by_cases hbig : V ≤ most false
     · have hv1 : valB V false = true := by unfold valB; simp [hbig]
       have hv2 : valN V false = (V : Int) := by unfold valN; rw [if_pos hbig]; simp
       have HG : Hid (greatB (s.extract (k) E).data.toList (mostL false) = false) := by rw [hg, hv1]; rfl
       have HR : Hid (takeS s.data.toList k = ((V : Int), (E : Int), 0, 0)) := by rw [hr, hv1, if_pos rfl, hv2]; rfl
       have hVb : V ≤ 9223372036854775807 := hbig
       clear v0 v1 v2 v3 hz hg hr hV hbig hv1 hv2 hbad
       rcases hb3 with ht3 | ⟨ht3, ht4, ⟨⟩⟩
       all_goals (
        go_enter Tryz.func94, Tryz.ntmps94
        go_wp2
        go_loop [10] (fun e => RTRel (k) E e) (fun e => s.size - (intOf e).toNat)
        case atStart => exact ⟨k, by simp, by omega, by omega⟩
        case round =>
         obtain ⟨en, rfl, h1, h2⟩ := hrel
         by_cases hgo : en < E
         · obtain ⟨d1, d2⟩ := isDig_bd (HD1.out en (by omega) h1 hgo)
           go_wp2_with (go_at_call 116; refine (rdig_yes _ _ (by omega) (by omega)).mono ?_; rintro e w' ⟨rfl, rfl⟩)
           go_round
           case rel => exact ⟨en + 1, by go_num, by omega, by omega⟩
           case measure => simp [intOf]; omega
         · obtain rfl : E = en := by omega
           clear hgo h1 h2
           by_cases hEs : E < s.size
           · have hnd := HD2.out hEs
             have hnd' : (s[E].toNat : Int) < 48 ∨ 57 < (s[E].toNat : Int) := by unfold isDig at hnd; simp at hnd; omega
             clear hnd
             go_wp2_with (first | (go_at_call 116; refine (rdig_no _ _ (by assumption)).mono ?_; rintro e w' ⟨rfl, rfl⟩) | (go_at_call 117; refine (great_at _ _ _ _ hsz2 (by decide) HG).mono ?_; rintro e w' ⟨rfl, rfl⟩))
             go_loop [11, 12] (fun n i => RTRel2 s false V (k) E n i) (fun _ i => E - (intOf i).toNat)
             case atStart => exact ⟨0, k, by simp, by simp, by omega, by omega, by omega, HV.out.symm⟩
             case round =>
              obtain ⟨a, j, rfl, rfl, h1, h2, h3, hr⟩ := hrel
              have Hr := Lib.hid hr; clear hr
              try rw [if_pos rfl]
              try rw [if_neg Bool.false_ne_true]
              by_cases hlt : j < E
              · obtain ⟨d1, d2⟩ := isDig_bd (HD1.out j (by omega) h1 hlt)
                have hc := Hr.out
                rw [take_drop_cons s j E hlt hb1, numVal_cons] at hc
                have h4 := numVal_ge ((s.data.toList.drop (j + 1)).take (E - (j + 1))) (a * 10 + digVal s[j])
                rw [← hc] at h4
                have HC := Lib.hid hc
                unfold digVal at h4
                clear hc
                go_wp2
                go_round
                case rel => exact ⟨a * 10 + (s[j].toNat - 48), j + 1, by go_num, by simp only [if_true, Bool.false_eq_true, if_false]; congr 1; omega, by omega, by omega, by omega, HC.out⟩
                case measure => simp [intOf]; omega
              · obtain rfl : j = E := by omega
                have hv : V = a := by rw [Hr.out, Nat.sub_self]; rfl
                subst hv
                go_wp2
                all_goals (refine bodyPost_ret (v := takeV (_, _, _, _)) (by simp [results, Tryz.results94, go_sem]; rfl) rfl ⟨by rw [HR.out], ?_⟩)
                repeat (first | exact Below.refl _ _ | refine bl_alloc ?_ _ | refine Below.drew ?_ | refine bl_drewN ?_ _ | refine bl_set ?_ (by first | (simp; done) | (simp; omega)) _ | refine bl_step ?_ (by assumption))
           · go_wp2_with (first | (go_at_call 116; fail) | (go_at_call 117; refine (great_at _ _ _ _ hsz2 (by decide) HG).mono ?_; rintro e w' ⟨rfl, rfl⟩))
             go_loop [11, 12] (fun n i => RTRel2 s false V (k) E n i) (fun _ i => E - (intOf i).toNat)
             case atStart => exact ⟨0, k, by simp, by simp, by omega, by omega, by omega, HV.out.symm⟩
             case round =>
              obtain ⟨a, j, rfl, rfl, h1, h2, h3, hr⟩ := hrel
              have Hr := Lib.hid hr; clear hr
              try rw [if_pos rfl]
              try rw [if_neg Bool.false_ne_true]
              by_cases hlt : j < E
              · obtain ⟨d1, d2⟩ := isDig_bd (HD1.out j (by omega) h1 hlt)
                have hc := Hr.out
                rw [take_drop_cons s j E hlt hb1, numVal_cons] at hc
                have h4 := numVal_ge ((s.data.toList.drop (j + 1)).take (E - (j + 1))) (a * 10 + digVal s[j])
                rw [← hc] at h4
                have HC := Lib.hid hc
                unfold digVal at h4
                clear hc
                go_wp2
                go_round
                case rel => exact ⟨a * 10 + (s[j].toNat - 48), j + 1, by go_num, by simp only [if_true, Bool.false_eq_true, if_false]; congr 1; omega, by omega, by omega, by omega, HC.out⟩
                case measure => simp [intOf]; omega
              · obtain rfl : j = E := by omega
                have hv : V = a := by rw [Hr.out, Nat.sub_self]; rfl
                subst hv
                go_wp2
                all_goals (refine bodyPost_ret (v := takeV (_, _, _, _)) (by simp [results, Tryz.results94, go_sem]; rfl) rfl ⟨by rw [HR.out], ?_⟩)
                repeat (first | exact Below.refl _ _ | refine bl_alloc ?_ _ | refine Below.drew ?_ | refine bl_drewN ?_ _ | refine bl_set ?_ (by first | (simp; done) | (simp; omega)) _ | refine bl_step ?_ (by assumption))
        )
     · have hv1 : valB V false = false := by unfold valB; simp [hbig]
       have HG : Hid (greatB (s.extract (k) E).data.toList (mostL false) = true) := by rw [hg, hv1]; rfl
       have HR : Hid (takeS s.data.toList k = (0, 0, 13, (k : Int))) := by rw [hr, hv1, if_neg (by decide)]; rfl
       clear v0 v1 v2 v3 hz hg hr hV hbig hv1 hbad
       rcases hb3 with ht3 | ⟨ht3, ht4, ⟨⟩⟩
       all_goals (
        go_enter Tryz.func94, Tryz.ntmps94
        go_wp2
        go_loop [10] (fun e => RTRel (k) E e) (fun e => s.size - (intOf e).toNat)
        case atStart => exact ⟨k, by simp, by omega, by omega⟩
        case round =>
         obtain ⟨en, rfl, h1, h2⟩ := hrel
         by_cases hgo : en < E
         · obtain ⟨d1, d2⟩ := isDig_bd (HD1.out en (by omega) h1 hgo)
           go_wp2_with (go_at_call 116; refine (rdig_yes _ _ (by omega) (by omega)).mono ?_; rintro e w' ⟨rfl, rfl⟩)
           go_round
           case rel => exact ⟨en + 1, by go_num, by omega, by omega⟩
           case measure => simp [intOf]; omega
         · obtain rfl : E = en := by omega
           clear hgo h1 h2
           by_cases hEs : E < s.size
           · have hnd := HD2.out hEs
             have hnd' : (s[E].toNat : Int) < 48 ∨ 57 < (s[E].toNat : Int) := by unfold isDig at hnd; simp at hnd; omega
             clear hnd
             go_wp2_with (first | (go_at_call 116; refine (rdig_no _ _ (by assumption)).mono ?_; rintro e w' ⟨rfl, rfl⟩) | (go_at_call 117; refine (great_at _ _ _ _ hsz2 (by decide) HG).mono ?_; rintro e w' ⟨rfl, rfl⟩))
             all_goals (refine bodyPost_ret (v := takeV (_, _, _, _)) (by simp [results, Tryz.results94, go_sem]; rfl) rfl ⟨by rw [HR.out], ?_⟩)
             repeat (first | exact Below.refl _ _ | refine bl_alloc ?_ _ | refine Below.drew ?_ | refine bl_drewN ?_ _ | refine bl_set ?_ (by first | (simp; done) | (simp; omega)) _ | refine bl_step ?_ (by assumption))
           · go_wp2_with (first | (go_at_call 116; fail) | (go_at_call 117; refine (great_at _ _ _ _ hsz2 (by decide) HG).mono ?_; rintro e w' ⟨rfl, rfl⟩))
             all_goals (refine bodyPost_ret (v := takeV (_, _, _, _)) (by simp [results, Tryz.results94, go_sem]; rfl) rfl ⟨by rw [HR.out], ?_⟩)
             repeat (first | exact Below.refl _ _ | refine bl_alloc ?_ _ | refine Below.drew ?_ | refine bl_drewN ?_ _ | refine bl_set ?_ (by first | (simp; done) | (simp; omega)) _ | refine bl_step ?_ (by assumption))
        )
set_option maxHeartbeats 2000000 in
theorem rtake_in3 (s : ByteArray) (k : Nat) (w : World) (hs : s.size ≤ maxLen) (hk : k ≤ s.size) (hk' : s.size ≤ k) :
 Calls Tryz.prog 94 #[.string s, .int .i64 k] w fun e w' => e = .returned (takeV (takeS s.data.toList k)) ∧ Below w.heap.size w w' := by
 unfold maxLen at hs
 have hmm : (s.data.toList[k]? == some 45) = false := by rw [List.getElem?_eq_none (by rw [toList_length]; exact hk')]; rfl
 have hfr : k = if false = true then k + 1 else k := by simp
 have q1 : decide ((k : Int) < 0) = false := by simp
 have q2 : decide (s.size < k) = false := by simp; omega
 obtain ⟨E, hb0, hb1, hd1, hd2, v0, v1, v2, v3⟩ := take_ways s k k false (by omega) hmm hfr (by omega)
 have hr := v0 (by omega) (by omega)
 obtain rfl : E = k := by omega
 have HR := Lib.hid hr
 have ht2 : ((E : Int) == (s.size : Int)) = true := by simp; omega
 clear v0 v1 v2 v3 hmm hfr hd1 hd2 hr hb0 hb1
 go_enter Tryz.func94, Tryz.ntmps94
 go_wp2
 go_loop [10] (fun e => RTRel E E e) (fun e => s.size - (intOf e).toNat)
 case atStart => exact ⟨E, rfl, by omega, by omega⟩
 case round =>
  obtain ⟨en, rfl, h1, h2⟩ := hrel
  obtain rfl : E = en := by omega
  clear h1 h2
  go_wp2
  all_goals (refine bodyPost_ret (v := takeV (_, _, _, _)) (by simp [results, Tryz.results94, go_sem]; rfl) rfl ⟨by rw [HR.out], ?_⟩)
  repeat (first | exact Below.refl _ _ | refine bl_alloc ?_ _ | refine Below.drew ?_ | refine bl_drewN ?_ _ | refine bl_set ?_ (by first | (simp; done) | (simp; omega)) _ | refine bl_step ?_ (by assumption))
theorem rtake_any (s : ByteArray) (a : Int) (w : World) (hs : s.size ≤ maxLen) (ha : -9223372036854775808 ≤ a ∧ a ≤ 9223372036854775807) :
 Calls Tryz.prog 94 #[.string s, .int .i64 a] w fun e w' => e = .returned (takeV (takeS s.data.toList a)) ∧ Below w.heap.size w w' := by
 by_cases h : a < 0 ∨ (s.size : Int) < a
 · exact rtake_out s a w hs ha h
 · obtain ⟨k, rfl⟩ := Int.eq_ofNat_of_zero_le (show 0 ≤ a by omega)
   by_cases hk : k < s.size
   · by_cases hm : ((s[k].toNat : Int) == 45) = true
     · exact rtake_in1 s k w hs hk hm
     · exact rtake_in2 s k w hs hk (by simpa using hm)
   · exact rtake_in3 s k w hs (by omega) (by omega)
theorem rtake_at (s : ByteArray) (a : Int) (n en f at_ : Int) (w : World) (hs : s.size ≤ maxLen) (ha : -9223372036854775808 ≤ a ∧ a ≤ 9223372036854775807)
 (h : Hid (takeS s.data.toList a = (n, en, f, at_))) :
 Calls Tryz.prog 94 #[.string s, .int .i64 a] w fun e w' => e = .returned (.tuple #[.int .i64 n, .int .i64 en, .agg #[.int .i64 f, .int .i64 at_]]) ∧ Below w.heap.size w w' := by
 have := rtake_any s a w hs ha; rw [h.out] at this; exact this
end Go.Proofs.YtldjakeigjngoaaGreat