/- Contracts of the reference of layer 5: Hex, Unit, Quote. -/
import Derived.Test.YteddjadeenimkaaRef3
import Derived.Test.YteddjadeenimkaaPlainEsc2
set_option linter.unusedVariables false
set_option linter.unusedSimpArgs false
namespace Go.Proofs.Yteddjadeenimkaa
open Go.RowKit Bf
set_option maxRecDepth 20000 in
set_option maxHeartbeats 1000000 in
theorem rhex_c : ∀ (m : Nat) (n : Int) (s : List UInt8), n.toNat ≤ m → 0 ≤ n → n ≤ 9223372036854775807 → hexL n.toNat = s → ∀ w : World,
    Calls Try.prog 61 #[.int .i64 n] w fun e w' => e = .returned (S s) ∧ Below w.heap.size w w' := by
  intro m
  induction m with
  | zero =>
    intro n s hm h0 h1 h w
    have hn : n < 16 := by omega
    have e : n + 1 - n = 1 := by omega
    rw [hexL_small _ (by omega), ← digs_at n.toNat (by omega) 1 rfl] at h
    subst h
    refine sy_enter rfl rfl ?_
    simp only [initFr]
    repeat (first | refine sy_k rfl rfl ?_ | (refine gO ?_; first | refine sy_ov (ov_p rfl) rfl rfl ?_ | (refine gB ?_; (refine sy_ov (ov_ar rfl rfl rfl ?_ ?_) rfl rfl ?_; omega; omega)) | (refine gI ?_; (refine sy_ov (ov_slice rfl rfl rfl ?_ ?_ ?_) rfl rfl ?_; (focus (first | omega | (simp <;> omega))); (focus (first | omega | (simp <;> omega))); focus (first | omega | (simp <;> omega))))) | (refine sy_cond_t rfl ?_ ?_; focus (first | with_reducible rfl | assumption | omega | (simp <;> first | omega | assumption))) | refine sy_rt ?_)
    refine ret1 rfl rfl ?_
    rw [e]; rfl
  | succ m ih =>
    intro n s hm h0 h1 h w
    by_cases hn : n < 16
    · have e : n + 1 - n = 1 := by omega
      rw [hexL_small _ (by omega), ← digs_at n.toNat (by omega) 1 rfl] at h
      subst h
      refine sy_enter rfl rfl ?_
      simp only [initFr]
      repeat (first | refine sy_k rfl rfl ?_ | (refine gO ?_; first | refine sy_ov (ov_p rfl) rfl rfl ?_ | (refine gB ?_; (refine sy_ov (ov_ar rfl rfl rfl ?_ ?_) rfl rfl ?_; omega; omega)) | (refine gI ?_; (refine sy_ov (ov_slice rfl rfl rfl ?_ ?_ ?_) rfl rfl ?_; (focus (first | omega | (simp <;> omega))); (focus (first | omega | (simp <;> omega))); focus (first | omega | (simp <;> omega))))) | (refine sy_cond_t rfl ?_ ?_; focus (first | with_reducible rfl | assumption | omega | (simp <;> first | omega | assumption))) | refine sy_rt ?_)
      refine ret1 rfl rfl ?_
      rw [e]; rfl
    · have e1 : (n / 16).toNat = n.toNat / 16 := by omega
      have e2 : (n % 16).toNat = n.toNat % 16 := by omega
      have hx := hexL_len 15 (n.toNat / 16) (Nat.lt_of_le_of_lt (m := 9223372036854775807) (by omega) (by decide))
      rw [hexL_big _ (by omega)] at h
      subst h
      have hi := ih (n / 16) (hexL (n.toNat / 16)) (by omega) (by omega) (by omega) (by rw [e1])
      refine sy_enter rfl rfl ?_
      simp only [initFr]
      repeat (first | refine sy_k rfl rfl ?_ | (refine gO ?_; refine sy_ov (ov_p rfl) rfl rfl ?_) | (refine sy_cond_f rfl ?_ ?_; focus (first | with_reducible rfl | assumption | omega | (simp <;> first | omega | assumption))))
      refine sy_draw 11 (by kernel_rfl) ?_
      repeat (first | refine dr_op (ov_p rfl) rfl rfl ?_ | (refine dr_op (ov_quok rfl rfl ?_ ?_ ?_) rfl rfl ?_; omega; omega; omega))
      refine dr_op (ov_call rfl (fun w _ => hi w)) rfl rfl ?_
      repeat (first | refine dr_op (ov_p rfl) rfl rfl ?_ | (refine dr_op (ov_ar rfl rfl rfl ?_ ?_) rfl rfl ?_; omega; omega) | (refine dr_op (ov_cat rfl rfl ?_) rfl rfl ?_; focus (first | omega | (simp <;> omega))) | (refine dr_op (ov_rem_n rfl rfl ?_ ?_) rfl rfl ?_; omega; omega) | (refine dr_op (ov_slice rfl rfl rfl ?_ ?_ ?_) rfl rfl ?_; (focus (first | omega | (simp <;> omega))); (focus (first | omega | (simp <;> omega))); focus (first | omega | (simp <;> omega))) | refine dr_end ?_)
      repeat (first | refine sy_k rfl rfl ?_ | (refine gO ?_; refine sy_ov (ov_p rfl) rfl rfl ?_) | refine sy_rt ?_)
      refine ret1 rfl rfl ?_
      show S (hexL (n.toNat / 16) ++ (digs.drop (n % 16).toNat).take _) = _
      rw [digs_at _ (by omega) _ (by omega), e2]
theorem enc_lo (l : List UInt8) (hl : l ≠ []) (r : Int) (n : Nat) (h : decS l = (r, n, true)) (h0 : 0 ≤ r) (h1 : r < 128) : n = 1 ∧ l.take 1 = [u8 r] := by
  obtain ⟨he, hs⟩ := decS_enc l hl r n h
  rw [encL_1 _ hs h1] at he
  have hb := decS_len l
  rw [h] at hb
  have hlen := congrArg List.length he
  rw [List.length_take] at hlen
  have h2 := hb.1
  simp only [List.length_singleton] at hlen h2
  have hn : n = 1 := by omega
  subst hn
  exact ⟨rfl, he⟩
set_option maxRecDepth 20000 in
set_option maxHeartbeats 1000000 in
theorem runit5_c (s : List UInt8) (i : Int) (out : List UInt8) (m : Nat) (h : unitE (s.drop i.toNat) = (out, m)) (hs : s.length ≤ 4611686018427387000) (h1 : 0 ≤ i) (h2 : i < s.length) (w : World) :
    Calls Try.prog 56 #[S s, .int .i64 i] w fun e w' => e = .returned (.tuple #[S out, .int .i64 (m : Int)]) ∧ Below w.heap.size w w' := by
  obtain ⟨c, l, hd, hb⟩ := bt_nat s i h1 h2
  rw [hd] at h
  obtain ⟨r, n, ok, hdec⟩ := trip (decS (c :: l))
  have hda : decAt s i = (r, n, ok) := by rw [decAt_in' s i h1 h2, hd, hdec]
  have hlen := decS_len (c :: l)
  have hv := decS_val2 (c :: l)
  rw [unitE_eq c l r n ok hdec] at h
  rw [hdec] at hlen hv
  simp only at hlen hv
  have hlen1 := hlen.2.1 (by simp)
  have hll : (c :: l).length = s.length - i.toNat := by rw [← hd, List.length_drop]
  have hbd := bt_bd s i
  have hc := c.toNat_lt
  have ht1 : (s.drop i.toNat).take (i + 1 - i).toNat = (c :: l).take 1 := by rw [hd, show i + 1 - i = 1 by omega]; rfl
  cases ok
  · rw [if_pos rfl] at h
    obtain ⟨rfl, rfl⟩ := Prod.mk.inj h
    refine sy_enter rfl rfl ?_
    simp only [initFr]
    repeat (first | refine sy_k rfl rfl ?_ | (refine gO ?_; refine sy_ov (ov_p rfl) rfl rfl ?_))
    refine sy_ov (ov_call rfl (fun w _ => rdecode_c s i r n false hda hs (by omega) (by omega) w)) rfl rfl ?_
    repeat (first | refine sy_k rfl rfl ?_ | (refine gO ?_; first | refine sy_ov (ov_p rfl) rfl rfl ?_ | (refine gB ?_; (refine sy_ov (ov_quok rfl rfl ?_ ?_ ?_) rfl rfl ?_; omega; omega; omega)) | (refine sy_ov (ov_index rfl rfl ?_ ?_) rfl rfl ?_; omega; omega) | (refine sy_ov (ov_convk rfl ?_ ?_) rfl rfl ?_; omega; omega)) | (refine sy_cond_t rfl ?_ ?_; focus (first | with_reducible rfl | assumption | omega | (simp <;> first | omega | assumption))))
    refine sy_ov (ov_call rfl (fun w _ => rhex_c _ (bt s i / 16) _ (Nat.le_refl _) (by omega) (by omega) (hexL_small _ (by omega)) w)) rfl rfl ?_
    repeat ((refine gO ?_; first | refine sy_ov (ov_p rfl) rfl rfl ?_ | (refine gB ?_; first | (refine sy_ov (ov_cat rfl rfl ?_) rfl rfl ?_; focus (first | omega | (simp <;> omega))) | (refine sy_ov (ov_rem_n rfl rfl ?_ ?_) rfl rfl ?_; omega; omega))))
    refine sy_ov (ov_call rfl (fun w _ => rhex_c _ (bt s i % 16) _ (Nat.le_refl _) (by omega) (by omega) (hexL_small _ (by omega)) w)) rfl rfl ?_
    repeat (first | refine sy_k rfl rfl ?_ | (refine gO ?_; first | refine sy_ov (ov_p rfl) rfl rfl ?_ | (refine gB ?_; (refine sy_ov (ov_cat rfl rfl ?_) rfl rfl ?_; focus (first | omega | (simp <;> omega))))) | refine sy_rt ?_)
    refine ret2 rfl rfl rfl ?_
    rw [hb]; rfl
  · rw [if_neg (by simp)] at h
    by_cases q1 : r = 34
    · subst q1
      obtain ⟨rfl, he⟩ := enc_lo _ (by simp) _ _ hdec (by omega) (by omega)
      rw [if_pos (by decide)] at h
      obtain ⟨rfl, rfl⟩ := Prod.mk.inj h
      refine sy_enter rfl rfl ?_
      simp only [initFr]
      repeat (first | refine sy_k rfl rfl ?_ | (refine gO ?_; refine sy_ov (ov_p rfl) rfl rfl ?_))
      refine sy_ov (ov_call rfl (fun w _ => rdecode_c s i 34 1 true hda hs (by omega) (by omega) w)) rfl rfl ?_
      repeat (first | refine sy_k rfl rfl ?_ | (refine gO ?_; first | refine sy_ov (ov_p rfl) rfl rfl ?_ | (refine gG ?_; (refine sy_guard_no rfl rfl rfl rfl rfl ?_ ?_; focus (first | with_reducible rfl | assumption | omega | (simp <;> first | omega | assumption)))) | (refine gB ?_; first | (refine sy_ov (ov_ar rfl rfl rfl ?_ ?_) rfl rfl ?_; omega; omega) | (refine sy_ov (ov_cat rfl rfl ?_) rfl rfl ?_; focus (first | omega | (simp <;> omega)))) | (refine gI ?_; (refine sy_ov (ov_slice rfl rfl rfl ?_ ?_ ?_) rfl rfl ?_; (focus (first | omega | (simp <;> omega))); (focus (first | omega | (simp <;> omega))); focus (first | omega | (simp <;> omega)))) | refine sy_ov (ov_pick rfl rfl rfl) rfl rfl ?_) | (refine sy_cond_t rfl ?_ ?_; focus (first | with_reducible rfl | assumption | omega | (simp <;> first | omega | assumption))) | (refine sy_cond_f rfl ?_ ?_; focus (first | with_reducible rfl | assumption | omega | (simp <;> first | omega | assumption))) | refine sy_rt ?_)
      refine ret2 rfl rfl rfl ?_
      rw [ht1, he]; rfl
    · by_cases q2 : r = 92
      · subst q2
        obtain ⟨rfl, he⟩ := enc_lo _ (by simp) _ _ hdec (by omega) (by omega)
        rw [if_pos (by decide)] at h
        obtain ⟨rfl, rfl⟩ := Prod.mk.inj h
        refine sy_enter rfl rfl ?_
        simp only [initFr]
        repeat (first | refine sy_k rfl rfl ?_ | (refine gO ?_; refine sy_ov (ov_p rfl) rfl rfl ?_))
        refine sy_ov (ov_call rfl (fun w _ => rdecode_c s i 92 1 true hda hs (by omega) (by omega) w)) rfl rfl ?_
        repeat (first | refine sy_k rfl rfl ?_ | (refine gO ?_; first | refine sy_ov (ov_p rfl) rfl rfl ?_ | (refine gG ?_; (refine sy_guard_yes rfl rfl rfl rfl rfl ?_ ?_; focus (first | with_reducible rfl | assumption | omega | (simp <;> first | omega | assumption)))) | (refine gB ?_; first | (refine sy_ov (ov_ar rfl rfl rfl ?_ ?_) rfl rfl ?_; omega; omega) | (refine sy_ov (ov_cat rfl rfl ?_) rfl rfl ?_; focus (first | omega | (simp <;> omega)))) | (refine gI ?_; (refine sy_ov (ov_slice rfl rfl rfl ?_ ?_ ?_) rfl rfl ?_; (focus (first | omega | (simp <;> omega))); (focus (first | omega | (simp <;> omega))); focus (first | omega | (simp <;> omega)))) | (refine sy_ov (ov_pick_f rfl rfl ?_) rfl rfl ?_; focus (with_reducible rfl))) | (refine sy_cond_t rfl ?_ ?_; focus (first | with_reducible rfl | assumption | omega | (simp <;> first | omega | assumption))) | (refine sy_cond_f rfl ?_ ?_; focus (first | with_reducible rfl | assumption | omega | (simp <;> first | omega | assumption))) | refine sy_rt ?_)
        refine ret2 rfl rfl rfl ?_
        rw [ht1, he]; rfl
      · by_cases q3 : r = 9
        · subst q3
          obtain ⟨rfl, he⟩ := enc_lo _ (by simp) _ _ hdec (by omega) (by omega)
          rw [if_pos (by decide)] at h
          obtain ⟨rfl, rfl⟩ := Prod.mk.inj h
          refine sy_enter rfl rfl ?_
          simp only [initFr]
          repeat (first | refine sy_k rfl rfl ?_ | (refine gO ?_; refine sy_ov (ov_p rfl) rfl rfl ?_))
          refine sy_ov (ov_call rfl (fun w _ => rdecode_c s i 9 1 true hda hs (by omega) (by omega) w)) rfl rfl ?_
          repeat (first | refine sy_k rfl rfl ?_ | (refine gO ?_; first | refine sy_ov (ov_p rfl) rfl rfl ?_ | (refine gG ?_; (refine sy_guard_yes rfl rfl rfl rfl rfl ?_ ?_; focus (first | with_reducible rfl | assumption | omega | (simp <;> first | omega | assumption)))) | (refine sy_ov (ov_pick_f rfl rfl ?_) rfl rfl ?_; focus (with_reducible rfl))) | (refine sy_cond_t rfl ?_ ?_; focus (first | with_reducible rfl | assumption | omega | (simp <;> first | omega | assumption))) | (refine sy_cond_f rfl ?_ ?_; focus (first | with_reducible rfl | assumption | omega | (simp <;> first | omega | assumption))) | refine sy_rt ?_)
          exact ret2 rfl rfl rfl rfl
        · by_cases q4 : r = 10
          · subst q4
            obtain ⟨rfl, he⟩ := enc_lo _ (by simp) _ _ hdec (by omega) (by omega)
            rw [if_pos (by decide)] at h
            obtain ⟨rfl, rfl⟩ := Prod.mk.inj h
            refine sy_enter rfl rfl ?_
            simp only [initFr]
            repeat (first | refine sy_k rfl rfl ?_ | (refine gO ?_; refine sy_ov (ov_p rfl) rfl rfl ?_))
            refine sy_ov (ov_call rfl (fun w _ => rdecode_c s i 10 1 true hda hs (by omega) (by omega) w)) rfl rfl ?_
            repeat (first | refine sy_k rfl rfl ?_ | (refine gO ?_; first | refine sy_ov (ov_p rfl) rfl rfl ?_ | (refine gG ?_; (refine sy_guard_yes rfl rfl rfl rfl rfl ?_ ?_; focus (first | with_reducible rfl | assumption | omega | (simp <;> first | omega | assumption)))) | (refine sy_ov (ov_pick_f rfl rfl ?_) rfl rfl ?_; focus (with_reducible rfl))) | (refine sy_cond_t rfl ?_ ?_; focus (first | with_reducible rfl | assumption | omega | (simp <;> first | omega | assumption))) | (refine sy_cond_f rfl ?_ ?_; focus (first | with_reducible rfl | assumption | omega | (simp <;> first | omega | assumption))) | refine sy_rt ?_)
            exact ret2 rfl rfl rfl rfl
          · by_cases q5 : r = 13
            · subst q5
              obtain ⟨rfl, he⟩ := enc_lo _ (by simp) _ _ hdec (by omega) (by omega)
              rw [if_pos (by decide)] at h
              obtain ⟨rfl, rfl⟩ := Prod.mk.inj h
              refine sy_enter rfl rfl ?_
              simp only [initFr]
              repeat (first | refine sy_k rfl rfl ?_ | (refine gO ?_; refine sy_ov (ov_p rfl) rfl rfl ?_))
              refine sy_ov (ov_call rfl (fun w _ => rdecode_c s i 13 1 true hda hs (by omega) (by omega) w)) rfl rfl ?_
              repeat (first | refine sy_k rfl rfl ?_ | (refine gO ?_; first | refine sy_ov (ov_p rfl) rfl rfl ?_ | (refine gG ?_; (refine sy_guard_yes rfl rfl rfl rfl rfl ?_ ?_; focus (first | with_reducible rfl | assumption | omega | (simp <;> first | omega | assumption)))) | (refine sy_ov (ov_pick_f rfl rfl ?_) rfl rfl ?_; focus (with_reducible rfl))) | (refine sy_cond_t rfl ?_ ?_; focus (first | with_reducible rfl | assumption | omega | (simp <;> first | omega | assumption))) | (refine sy_cond_f rfl ?_ ?_; focus (first | with_reducible rfl | assumption | omega | (simp <;> first | omega | assumption))) | refine sy_rt ?_)
              exact ret2 rfl rfl rfl rfl
            · have hsh : shortL r = [] := by unfold shortL; rw [if_neg q1, if_neg q2, if_neg q3, if_neg q4, if_neg q5]
              rw [if_neg (by simp [hsh])] at h
              obtain ⟨k, hk⟩ : ∃ k, kindT r = k := ⟨_, rfl⟩
              have hu : unsafeB r = !decide (k = 0) := by unfold unsafeB; rw [hk]
              by_cases q6 : k = 0
              · rw [if_neg (by simp [hu, q6])] at h
                obtain ⟨rfl, rfl⟩ := Prod.mk.inj h
                refine sy_enter rfl rfl ?_
                simp only [initFr]
                repeat (first | refine sy_k rfl rfl ?_ | (refine gO ?_; refine sy_ov (ov_p rfl) rfl rfl ?_))
                refine sy_ov (ov_call rfl (fun w _ => rdecode_c s i r n true hda hs (by omega) (by omega) w)) rfl rfl ?_
                repeat (first | refine sy_k rfl rfl ?_ | (refine gO ?_; first | refine sy_ov (ov_p rfl) rfl rfl ?_ | (refine gG ?_; (refine sy_guard_yes rfl rfl rfl rfl rfl ?_ ?_; focus (first | with_reducible rfl | assumption | omega | (simp <;> first | omega | assumption)))) | (refine sy_ov (ov_pick_f rfl rfl ?_) rfl rfl ?_; focus (with_reducible rfl))) | (refine sy_cond_f rfl ?_ ?_; focus (first | with_reducible rfl | assumption | omega | (simp <;> first | omega | assumption))))
                refine sy_ov (ov_call rfl (fun w _ => rkind_c r k hk (by omega) w)) rfl rfl ?_
                repeat (first | refine sy_k rfl rfl ?_ | (refine gO ?_; first | refine sy_ov (ov_p rfl) rfl rfl ?_ | (refine gB ?_; (refine sy_ov (ov_ar rfl rfl rfl ?_ ?_) rfl rfl ?_; omega; omega)) | (refine gI ?_; (refine sy_ov (ov_slice rfl rfl rfl ?_ ?_ ?_) rfl rfl ?_; (focus (first | omega | (simp <;> omega))); (focus (first | omega | (simp <;> omega))); focus (first | omega | (simp <;> omega))))) | (refine sy_cond_f rfl ?_ ?_; focus (first | with_reducible rfl | assumption | omega | (simp <;> first | omega | assumption))) | refine sy_rt ?_)
                refine ret2 rfl rfl rfl ?_
                rw [show i + (n : Int) - i = n by omega, hd]; rfl
              · rw [if_pos (by simp [hu, q6])] at h
                obtain ⟨rfl, rfl⟩ := Prod.mk.inj h
                have hx := hexL_len 5 r.toNat (Nat.lt_of_le_of_lt (m := 2097151) (by omega) (by decide))
                refine sy_enter rfl rfl ?_
                simp only [initFr]
                repeat (first | refine sy_k rfl rfl ?_ | (refine gO ?_; refine sy_ov (ov_p rfl) rfl rfl ?_))
                refine sy_ov (ov_call rfl (fun w _ => rdecode_c s i r n true hda hs (by omega) (by omega) w)) rfl rfl ?_
                repeat (first | refine sy_k rfl rfl ?_ | (refine gO ?_; first | refine sy_ov (ov_p rfl) rfl rfl ?_ | (refine gG ?_; (refine sy_guard_yes rfl rfl rfl rfl rfl ?_ ?_; focus (first | with_reducible rfl | assumption | omega | (simp <;> first | omega | assumption)))) | (refine sy_ov (ov_pick_f rfl rfl ?_) rfl rfl ?_; focus (with_reducible rfl))) | (refine sy_cond_f rfl ?_ ?_; focus (first | with_reducible rfl | assumption | omega | (simp <;> first | omega | assumption))))
                refine sy_ov (ov_call rfl (fun w _ => rkind_c r k hk (by omega) w)) rfl rfl ?_
                repeat (first | refine sy_k rfl rfl ?_ | (refine gO ?_; first | refine sy_ov (ov_p rfl) rfl rfl ?_ | (refine sy_ov (ov_convk rfl ?_ ?_) rfl rfl ?_; omega; omega)) | (refine sy_cond_t rfl ?_ ?_; focus (first | with_reducible rfl | assumption | omega | (simp <;> first | omega | assumption))))
                refine sy_ov (ov_call rfl (fun w _ => rhex_c _ r _ (Nat.le_refl _) (by omega) (by omega) rfl w)) rfl rfl ?_
                repeat (first | refine sy_k rfl rfl ?_ | (refine gO ?_; first | refine sy_ov (ov_p rfl) rfl rfl ?_ | (refine gB ?_; (refine sy_ov (ov_cat rfl rfl ?_) rfl rfl ?_; focus (first | omega | (simp <;> omega))))) | refine sy_rt ?_)
                exact ret2 rfl rfl rfl rfl
def RQuoInv (s : List UInt8) (a : Int × List UInt8) : Prop := 0 ≤ a.1 ∧ a.1 ≤ s.length ∧ a.2.length ≤ 1 + 10 * a.1.toNat ∧ 34 :: bodyQ s = a.2 ++ bodyQ (s.drop a.1.toNat)
set_option maxRecDepth 20000 in
set_option maxHeartbeats 1000000 in
theorem rquote_c (s q : List UInt8) (h : quoteL s = q) (hs : s.length ≤ 4000000000000) (w : World) :
    Calls Try.prog 57 #[S s] w fun e w' => e = .returned (S q) ∧ Below w.heap.size w w' := by
  subst h
  refine sy_enter rfl rfl ?_
  simp only [initFr]
  repeat (first | refine sy_k rfl rfl ?_ | (refine gO ?_; refine sy_ov (ov_p rfl) rfl rfl ?_))
  refine sy_loop (α := Int × List UInt8) (fun a => [(0, S s), (3, S a.2), (4, .int .i64 a.1)]) (fun a => []) (RQuoInv s) (fun a => (s.length - a.1).toNat) (0, [34]) ?_ ?_ (List.Sublist.refl _) ?_
  · exact ⟨by simp, by simp, by simp, by simp⟩
  · exact ⟨⟨_, rfl, rfl⟩, ⟨_, rfl, rfl⟩, ⟨_, rfl, rfl⟩, trivial⟩
  rintro ⟨i, acc⟩ ⟨i1, i2, i3, i4⟩
  simp only at i1 i2 i3 i4
  repeat (first | refine sy_k rfl rfl ?_ | (refine gO ?_; first | refine sy_ov (ov_p rfl) rfl rfl ?_ | (refine gK ?_; refine sy_ov (ov_len rfl) rfl rfl ?_)))
  refine sy_cond rfl (fun h => ?_) (fun h => ?_)
  · simp only [decide_eq_true_eq] at h
    have hne : s.drop i.toNat ≠ [] := by intro e; have := congrArg List.length e; simp at this; omega
    have hb := unitE_bd _ hne
    rw [List.length_drop] at hb
    have hst := bodyQ_step _ hne
    obtain ⟨o, n, hu⟩ : ∃ o n, unitE (s.drop i.toNat) = (o, n) := ⟨_, _, rfl⟩
    rw [hu, List.drop_drop] at hst
    rw [hu] at hb
    simp only at hb hst
    rw [hst, ← List.append_assoc] at i4
    repeat (first | refine sy_k rfl rfl ?_ | (refine gO ?_; refine sy_ov (ov_p rfl) rfl rfl ?_))
    refine sy_ov (ov_call rfl (fun w _ => runit5_c s i o n hu (by omega) (by omega) (by omega) w)) rfl rfl ?_
    repeat (first | refine sy_k rfl rfl ?_ | (refine gO ?_; first | refine sy_ov (ov_p rfl) rfl rfl ?_ | (refine gB ?_; first | (refine sy_ov (ov_ar rfl rfl rfl ?_ ?_) rfl rfl ?_; omega; omega) | (refine sy_ov (ov_cat rfl rfl ?_) rfl rfl ?_; focus (first | omega | (simp <;> omega))))))
    refine sy_back (i + n, acc ++ o) ?_ ?_ ?_ (List.Sublist.refl _)
    · exact ⟨by omega, by omega, by simp; omega, by rw [i4, show (i + (n : Int)).toNat = i.toNat + n by omega]⟩
    · show Int.toNat _ < Int.toNat _; omega
    · exact ⟨⟨_, rfl, rfl⟩, ⟨_, rfl, rfl⟩, ⟨_, rfl, rfl⟩, trivial⟩
  · simp only [decide_eq_false_iff_not] at h
    rw [List.drop_of_length_le (by omega), bodyQ_nil, List.append_nil] at i4
    repeat (first | refine sy_k rfl rfl ?_ | (refine gO ?_; first | refine sy_ov (ov_p rfl) rfl rfl ?_ | (refine gB ?_; (refine sy_ov (ov_cat rfl rfl ?_) rfl rfl ?_; focus (first | omega | (simp <;> omega))))) | refine sy_rt ?_)
    refine ret1 rfl rfl ?_
    unfold quoteL; rw [i4]
end Go.Proofs.Yteddjadeenimkaa
