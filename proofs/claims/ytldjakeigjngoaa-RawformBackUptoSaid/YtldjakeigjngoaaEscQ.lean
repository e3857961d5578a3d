/- Contracts of pinned.Kind, pinned.IsUnsafe, and of the package escape: writing. -/
import Derived.Test.YtldjakeigjngoaaBldQ
import Derived.Test.YtldjakeigjngoaaBPL
import Derived.Test.YtldjakeigjngoaaL1Q
set_option linter.unusedVariables false
set_option linter.unusedSimpArgs false
namespace Go.Proofs.Ytldjakeigjngoaa
open Go.RowKit Bf
theorem tab_c {f : FuncId} {T : List (Int × Int)} {n : Nat} (h : ∀ w, Calls Try.prog f #[] w fun e w' => e = .returned (.slice (some ⟨w.heap.size, 0, none⟩) n n) ∧ w.alloc (.cells (spans T).toArray 219) = w') (w : World) :
 Calls Try.prog f ([] : List Value).toArray w fun x w' => ∃ v e', (∃ b, v = .slice (some ⟨b, 0, none⟩) n n ∧ e' = blk b 219 (spans T)) ∧ x = .returned v ∧ e'.holds w' ∧ Below w.heap.size w w' ∧ ∀ b, e'.dom b → w.heap.size ≤ b ∧ b < w'.heap.size :=
 (h w).mono fun e w' ⟨he, hw⟩ => by
   subst hw
   refine ⟨_, _, ⟨_, rfl, rfl⟩, he, ?_, (Below.refl _ _).alloc (Nat.le_refl _) _, ?_⟩
   · show (w.heap.push _)[w.heap.size]? = _; simp
   · rintro b rfl; show _ ∧ _ < (w.heap.push _).size; simp
theorem in_c (T : List (Int × Int)) (n b : Nat) (r : Int) (ok : Bool) (w : World) (ho : orderT T = true) (hl : T.length = n) (hn : n ≤ 100000) (hr : -2147483648 ≤ r ∧ r ≤ 2147483647) (h : hasT T r = ok) {D : Nat → Prop} {w0 : World} {hp : List En} (hw : HpOk D w0 hp w) (i : Nat) (hi : hp[i]? = some (blk b 219 (spans T))) :
 Calls Try.prog 182 #[.slice (some ⟨b, 0, none⟩) n n, .int .i32 r] w fun e w' => e = .returned (.bool ok) ∧ Below w.heap.size w w' := by
 have hh : w.heap[b]? = some (.cells (spans T).toArray 219 (0, 0)) := (hw.get hi).1
 have hlen := spans_len T
 refine (in_at T ok _ n r w ho hl hn hr ⟨by rw [hlen, hl], .inr ⟨b, 0, n, rfl, ((hw.get hi).2 b rfl).2, Nat.le_refl _, by unfold maxLen; omega, fun j hj => ?_⟩⟩ h).mono ?_
 · simp [World.cell?, hh, hj]
 · rintro e w' ⟨he, rfl⟩; exact ⟨he, Below.refl _ _⟩
set_option maxRecDepth 20000 in
theorem kind_c (r : Int) (hr : -2147483648 ≤ r ∧ r ≤ 2147483647) (w : World) : Calls Try.prog 173 #[.int .i32 r] w fun e w' => e = .returned (.int .i64 (kindT r)) ∧ Below w.heap.size w w' := by
 obtain ⟨a, ha⟩ : ∃ a, hasT controlT r = a := ⟨_, rfl⟩
 obtain ⟨b, hb⟩ : ∃ b, hasT bidiT r = b := ⟨_, rfl⟩
 obtain ⟨c, hc⟩ : ∃ c, hasT formatT r = c := ⟨_, rfl⟩
 obtain ⟨d, hd⟩ : ∃ d, hasT separatorT r = d := ⟨_, rfl⟩
 have hk : kindT r = if a then 1 else if b then 2 else if c then 3 else if d then 4 else 0 := by unfold kindT; rw [ha, hb, hc, hd]
 refine sy_enter rfl rfl ?_
 simp only [initFr]
 repeat (first | refine sy_k rfl rfl ?_ | (refine gO ?_; refine sy_ov (ov_p rfl) rfl rfl ?_))
 refine sy_calln rfl rfl (fun w _ => tab_c control_any w) ?_
 rintro v e' ⟨b1, rfl, rfl⟩
 repeat ((refine gO ?_; refine sy_ov (ov_p rfl) rfl rfl ?_))
 refine sy_ov (ov_call rfl (fun w hw => in_c controlT 2 b1 r a w control_order rfl (by decide) hr ha hw 0 rfl)) rfl rfl ?_
 cases a
 · repeat (first | refine sy_k rfl rfl ?_ | (refine gO ?_; refine sy_ov (ov_p rfl) rfl rfl ?_) | (refine sy_cond_f rfl ?_ ?_; (first | with_reducible rfl | assumption | omega | (simp <;> first | omega | assumption))))
   refine sy_calln rfl rfl (fun w _ => tab_c bidi_any w) ?_
   rintro v e' ⟨b2, rfl, rfl⟩
   repeat ((refine gO ?_; refine sy_ov (ov_p rfl) rfl rfl ?_))
   refine sy_ov (ov_call rfl (fun w hw => in_c bidiT 4 b2 r b w bidi_order rfl (by decide) hr hb hw 0 rfl)) rfl rfl ?_
   cases b
   · repeat (first | refine sy_k rfl rfl ?_ | (refine gO ?_; refine sy_ov (ov_p rfl) rfl rfl ?_) | (refine sy_cond_f rfl ?_ ?_; (first | with_reducible rfl | assumption | omega | (simp <;> first | omega | assumption))))
     refine sy_calln rfl rfl (fun w _ => tab_c format_any w) ?_
     rintro v e' ⟨b3, rfl, rfl⟩
     repeat ((refine gO ?_; refine sy_ov (ov_p rfl) rfl rfl ?_))
     refine sy_ov (ov_call rfl (fun w hw => in_c formatT 17 b3 r c w format_order rfl (by decide) hr hc hw 0 rfl)) rfl rfl ?_
     cases c
     · repeat (first | refine sy_k rfl rfl ?_ | (refine gO ?_; refine sy_ov (ov_p rfl) rfl rfl ?_) | (refine sy_cond_f rfl ?_ ?_; (first | with_reducible rfl | assumption | omega | (simp <;> first | omega | assumption))))
       refine sy_calln rfl rfl (fun w _ => tab_c separator_any w) ?_
       rintro v e' ⟨b4, rfl, rfl⟩
       repeat ((refine gO ?_; refine sy_ov (ov_p rfl) rfl rfl ?_))
       refine sy_ov (ov_call rfl (fun w hw => in_c separatorT 1 b4 r d w separator_order rfl (by decide) hr hd hw 0 rfl)) rfl rfl ?_
       cases d
       · repeat (first | refine sy_k rfl rfl ?_ | (refine gO ?_; refine sy_ov (ov_p rfl) rfl rfl ?_) | (refine sy_cond_f rfl ?_ ?_; (first | with_reducible rfl | assumption | omega | (simp <;> first | omega | assumption))) | refine sy_rt ?_)
         exact ret1 rfl rfl (by rw [hk]; rfl)
       · repeat (first | refine sy_k rfl rfl ?_ | (refine gO ?_; refine sy_ov (ov_p rfl) rfl rfl ?_) | (refine sy_cond_t rfl ?_ ?_; (first | with_reducible rfl | assumption | omega | (simp <;> first | omega | assumption))) | refine sy_rt ?_)
         exact ret1 rfl rfl (by rw [hk]; rfl)
     · repeat (first | refine sy_k rfl rfl ?_ | (refine gO ?_; refine sy_ov (ov_p rfl) rfl rfl ?_) | (refine sy_cond_t rfl ?_ ?_; (first | with_reducible rfl | assumption | omega | (simp <;> first | omega | assumption))) | refine sy_rt ?_)
       exact ret1 rfl rfl (by rw [hk]; rfl)
   · repeat (first | refine sy_k rfl rfl ?_ | (refine gO ?_; refine sy_ov (ov_p rfl) rfl rfl ?_) | (refine sy_cond_t rfl ?_ ?_; (first | with_reducible rfl | assumption | omega | (simp <;> first | omega | assumption))) | refine sy_rt ?_)
     exact ret1 rfl rfl (by rw [hk]; rfl)
 · repeat (first | refine sy_k rfl rfl ?_ | (refine gO ?_; refine sy_ov (ov_p rfl) rfl rfl ?_) | (refine sy_cond_t rfl ?_ ?_; (first | with_reducible rfl | assumption | omega | (simp <;> first | omega | assumption))) | refine sy_rt ?_)
   exact ret1 rfl rfl (by rw [hk]; rfl)
set_option maxRecDepth 20000 in
theorem isUnsafe_c (r : Int) (b : Bool) (h : unsafeB r = b) (hr : -2147483648 ≤ r ∧ r ≤ 2147483647) (w : World) : Calls Try.prog 158 #[.int .i32 r] w fun e w' => e = .returned (.bool b) ∧ Below w.heap.size w w' := by
 subst h
 refine sy_enter rfl rfl ?_
 simp only [initFr]
 repeat (first | refine sy_k rfl rfl ?_ | (refine gO ?_; refine sy_ov (ov_p rfl) rfl rfl ?_))
 refine sy_ov (ov_call rfl (fun w _ => kind_c r hr w)) rfl rfl ?_
 repeat (first | refine sy_k rfl rfl ?_ | (refine gO ?_; refine sy_ov (ov_p rfl) rfl rfl ?_) | refine sy_rt ?_)
 exact ret1 rfl rfl rfl
set_option maxRecDepth 20000 in
theorem short_c (r : Int) (s : List UInt8) (h : shortL r = s) (w : World) : Calls Try.prog 165 #[.int .i32 r] w fun e w' => e = .returned (S s) ∧ Below w.heap.size w w' := by
 subst h
 by_cases h1 : r = 34
 · subst h1
   refine sy_enter rfl rfl ?_
   simp only [initFr]
   repeat (first | refine sy_k rfl rfl ?_ | (refine gO ?_; refine sy_ov (ov_p rfl) rfl rfl ?_) | (refine sy_cond_t rfl ?_ ?_; (first | with_reducible rfl | assumption | omega | (simp <;> first | omega | assumption))) | refine sy_rt ?_)
   exact ret1 rfl rfl rfl
 · by_cases h2 : r = 92
   · subst h2
     refine sy_enter rfl rfl ?_
     simp only [initFr]
     repeat (first | refine sy_k rfl rfl ?_ | (refine gO ?_; refine sy_ov (ov_p rfl) rfl rfl ?_) | (refine sy_cond_t rfl ?_ ?_; (first | with_reducible rfl | assumption | omega | (simp <;> first | omega | assumption))) | (refine sy_cond_f rfl ?_ ?_; (first | with_reducible rfl | assumption | omega | (simp <;> first | omega | assumption))) | refine sy_rt ?_)
     exact ret1 rfl rfl rfl
   · by_cases h3 : r = 9
     · subst h3
       refine sy_enter rfl rfl ?_
       simp only [initFr]
       repeat (first | refine sy_k rfl rfl ?_ | (refine gO ?_; refine sy_ov (ov_p rfl) rfl rfl ?_) | (refine sy_cond_t rfl ?_ ?_; (first | with_reducible rfl | assumption | omega | (simp <;> first | omega | assumption))) | (refine sy_cond_f rfl ?_ ?_; (first | with_reducible rfl | assumption | omega | (simp <;> first | omega | assumption))) | refine sy_rt ?_)
       exact ret1 rfl rfl rfl
     · by_cases h4 : r = 10
       · subst h4
         refine sy_enter rfl rfl ?_
         simp only [initFr]
         repeat (first | refine sy_k rfl rfl ?_ | (refine gO ?_; refine sy_ov (ov_p rfl) rfl rfl ?_) | (refine sy_cond_t rfl ?_ ?_; (first | with_reducible rfl | assumption | omega | (simp <;> first | omega | assumption))) | (refine sy_cond_f rfl ?_ ?_; (first | with_reducible rfl | assumption | omega | (simp <;> first | omega | assumption))) | refine sy_rt ?_)
         exact ret1 rfl rfl rfl
       · by_cases h5 : r = 13
         · subst h5
           refine sy_enter rfl rfl ?_
           simp only [initFr]
           repeat (first | refine sy_k rfl rfl ?_ | (refine gO ?_; refine sy_ov (ov_p rfl) rfl rfl ?_) | (refine sy_cond_t rfl ?_ ?_; (first | with_reducible rfl | assumption | omega | (simp <;> first | omega | assumption))) | (refine sy_cond_f rfl ?_ ?_; (first | with_reducible rfl | assumption | omega | (simp <;> first | omega | assumption))) | refine sy_rt ?_)
           exact ret1 rfl rfl rfl
         · have hs : shortL r = [] := by unfold shortL; rw [if_neg h1, if_neg h2, if_neg h3, if_neg h4, if_neg h5]
           refine sy_enter rfl rfl ?_
           simp only [initFr]
           repeat (first | refine sy_k rfl rfl ?_ | (refine gO ?_; refine sy_ov (ov_p rfl) rfl rfl ?_) | (refine sy_cond_f rfl ?_ ?_; (first | with_reducible rfl | assumption | omega | (simp <;> first | omega | assumption))) | refine sy_rt ?_)
           exact ret1 rfl rfl (by rw [hs])
def HexInv (n : Int) (a : List UInt8 × Int) : Prop := 0 ≤ a.2 ∧ a.2 ≤ n ∧ (a.1.length : Int) + a.2 ≤ n + 1 ∧ hexL n.toNat = (if a.2 = 0 then [] else hexL a.2.toNat) ++ a.1
theorem hex_split (m : Int) (h0 : 0 ≤ m) : hexL m.toNat = (if m / 16 = 0 then [] else hexL (m / 16).toNat) ++ [hexD (m % 16).toNat] := by
 have e1 : (m / 16).toNat = m.toNat / 16 := by omega
 have e2 : (m % 16).toNat = m.toNat % 16 := by omega
 rw [e1, e2]
 by_cases h : m.toNat < 16
 · rw [hexL_small _ h, if_pos (by omega), Nat.mod_eq_of_lt h]; rfl
 · rw [hexL_big _ h, if_neg (by omega)]
set_option maxRecDepth 20000 in
theorem hex_c (n : Int) (s : List UInt8) (h0 : 0 ≤ n) (h1 : n ≤ 4294967295) (h : hexL n.toNat = s) (w : World) : Calls Try.prog 166 #[.int .u32 n] w fun e w' => e = .returned (S s) ∧ Below w.heap.size w w' := by
 subst h
 have hq := hex_split n h0
 refine sy_enter rfl rfl ?_
 simp only [initFr]
 repeat (first | refine sy_k rfl rfl ?_ | (refine gO ?_; first | refine sy_ov (ov_p rfl) rfl rfl ?_ | (refine gB ?_; first | (refine sy_ov (ov_ar rfl rfl rfl ?_ ?_) rfl rfl ?_; omega; omega) | (refine sy_ov (ov_rem_n rfl rfl ?_ ?_) rfl rfl ?_; omega; omega) | (refine sy_ov (ov_quok rfl rfl ?_ ?_ ?_) rfl rfl ?_; omega; omega; omega)) | (refine gI ?_; (refine sy_ov (ov_slice rfl rfl rfl ?_ ?_ ?_) rfl rfl ?_; (focus (first | omega | (simp <;> omega))); (focus (first | omega | (simp <;> omega))); focus (first | omega | (simp <;> omega))))))
 refine sy_loop (α := List UInt8 × Int) (fun a => [(3, S a.1), (0, .int .u32 a.2)]) (fun _ => []) (HexInv n) (fun a => a.2.toNat) ([hexD (n % 16).toNat], n / 16) ?_ ?_ (List.nil_sublist _) ?_
 · exact ⟨by omega, by omega, by simp; omega, hq⟩
 · refine ⟨⟨_, rfl, ?_⟩, ⟨_, rfl, rfl⟩, trivial⟩
   show S ((digs.drop (n % 16).toNat).take _) = _
   rw [digs_at _ (by omega) _ (by omega)]
 rintro ⟨acc, m⟩ ⟨i1, i0, i2, i3⟩
 simp only at i1 i0 i2 i3
 have hm := hex_split m i1
 have hml : m ≤ 4294967295 := by omega
 repeat (first | refine sy_k rfl rfl ?_ | (refine gO ?_; refine sy_ov (ov_p rfl) rfl rfl ?_))
 refine sy_cond rfl (fun h => ?_) (fun h => ?_)
 · simp only [decide_eq_true_eq] at h
   rw [if_neg (by omega), hm, List.append_assoc] at i3
   repeat (first | refine sy_k rfl rfl ?_ | (refine gO ?_; first | refine sy_ov (ov_p rfl) rfl rfl ?_ | (refine gB ?_; first | (refine sy_ov (ov_ar rfl rfl rfl ?_ ?_) rfl rfl ?_; omega; omega) | (refine sy_ov (ov_cat rfl rfl ?_) rfl rfl ?_; focus (first | omega | (simp <;> omega))) | (refine sy_ov (ov_rem_n rfl rfl ?_ ?_) rfl rfl ?_; omega; omega) | (refine sy_ov (ov_quok rfl rfl ?_ ?_ ?_) rfl rfl ?_; omega; omega; omega)) | (refine gI ?_; (refine sy_ov (ov_slice rfl rfl rfl ?_ ?_ ?_) rfl rfl ?_; (focus (first | omega | (simp <;> omega))); (focus (first | omega | (simp <;> omega))); focus (first | omega | (simp <;> omega))))))
   refine sy_back ([hexD (m % 16).toNat] ++ acc, m / 16) ?_ ?_ ?_ (List.nil_sublist _)
   · exact ⟨by omega, by omega, by simp; omega, i3⟩
   · show Int.toNat _ < Int.toNat _; omega
   · refine ⟨⟨_, rfl, ?_⟩, ⟨_, rfl, rfl⟩, trivial⟩
     show S ((digs.drop (m % 16).toNat).take _ ++ acc) = _
     rw [digs_at _ (by omega) _ (by omega)]
 · simp only [decide_eq_false_iff_not] at h
   rw [if_pos (by omega)] at i3
   repeat (first | refine sy_k rfl rfl ?_ | (refine gO ?_; refine sy_ov (ov_p rfl) rfl rfl ?_) | refine sy_rt ?_)
   exact ret1 rfl rfl (by rw [i3]; rfl)
theorem bt_nat (s : List UInt8) (i : Int) (h0 : 0 ≤ i) (h1 : i < s.length) : ∃ c l, s.drop i.toNat = c :: l ∧ bt s i = (c.toNat : Int) := by
 have h : i.toNat < s.length := by omega
 refine ⟨s[i.toNat], s.drop (i.toNat + 1), List.drop_eq_getElem_cons h, ?_⟩
 unfold bt; rw [List.getD_eq_getElem?_getD, List.getElem?_eq_getElem h]; rfl
theorem decAt_out (s : List UInt8) (i : Int) (h : i < 0 ∨ (s.length : Int) ≤ i) : decAt s i = (0, 0, false) := by unfold decAt; rw [if_pos h]
theorem decAt_in' (s : List UInt8) (i : Int) (h0 : 0 ≤ i) (h1 : i < s.length) : decAt s i = decS (s.drop i.toNat) := by unfold decAt; rw [if_neg (by omega)]
set_option maxRecDepth 20000 in
set_option maxHeartbeats 1000000 in
theorem unitE_c (s : List UInt8) (i : Int) (out : List UInt8) (m : Nat) (h : unitEAt s i = (out, m)) (hs : s.length ≤ 4611686018427387000) (h1 : -9223372036854775808 ≤ i) (h2 : i ≤ 9223372036854775807) (w : World) :
 Calls Try.prog 140 #[S s, .int .i64 i] w fun e w' => e = .returned (.tuple #[S out, .int .i64 (m : Int)]) ∧ Below w.heap.size w w' := by
 by_cases ho : i < 0 ∨ (s.length : Int) ≤ i
 · unfold unitEAt at h
   rw [if_pos ho] at h
   obtain ⟨rfl, rfl⟩ := Prod.mk.inj h
   refine sy_enter rfl rfl ?_
   simp only [initFr]
   repeat (first | refine sy_k rfl rfl ?_ | (refine gO ?_; refine sy_ov (ov_p rfl) rfl rfl ?_))
   refine sy_ov (ov_call rfl (fun w _ => decode_c s i 0 0 false (decAt_out s i ho) hs h1 h2 w)) rfl rfl ?_
   repeat (first | refine sy_k rfl rfl ?_ | (refine gO ?_; refine sy_ov (ov_p rfl) rfl rfl ?_) | (refine sy_cond_t rfl ?_ ?_; (first | with_reducible rfl | assumption | omega | (simp <;> first | omega | assumption))) | refine sy_rt ?_)
   exact ret2 rfl rfl rfl rfl
 · have h0 : 0 ≤ i := by omega
   have hl : i < s.length := by omega
   obtain ⟨c, l, hd, hb⟩ := bt_nat s i h0 hl
   unfold unitEAt at h
   rw [if_neg ho, hd] at h
   obtain ⟨r, n, ok, hdec⟩ := trip (decS (c :: l))
   have hda : decAt s i = (r, n, ok) := by rw [decAt_in' s i h0 hl, hd, hdec]
   have hlen := decS_len (c :: l)
   have hv := decS_val2 (c :: l)
   rw [unitE_eq c l r n ok hdec] at h
   rw [hdec] at hlen hv
   simp only at hlen hv
   have hlen1 := hlen.2.1 (by simp)
   have hll : (c :: l).length = s.length - i.toNat := by rw [← hd, List.length_drop]
   have hbd := bt_bd s i
   have hc := c.toNat_lt
   cases ok
   · rw [if_pos rfl] at h
     obtain ⟨rfl, rfl⟩ := Prod.mk.inj h
     refine sy_enter rfl rfl ?_
     simp only [initFr]
     repeat (first | refine sy_k rfl rfl ?_ | (refine gO ?_; refine sy_ov (ov_p rfl) rfl rfl ?_))
     refine sy_ov (ov_call rfl (fun w _ => decode_c s i r n false hda hs h1 h2 w)) rfl rfl ?_
     repeat (first | refine sy_k rfl rfl ?_ | (refine gO ?_; first | refine sy_ov (ov_p rfl) rfl rfl ?_ | (refine sy_ov (ov_index rfl rfl ?_ ?_) rfl rfl ?_; omega; omega)) | (refine sy_cond_t rfl ?_ ?_; (first | with_reducible rfl | assumption | omega | (simp <;> first | omega | assumption))) | (refine sy_cond_f rfl ?_ ?_; (first | with_reducible rfl | assumption | omega | (simp <;> first | omega | assumption))))
     refine sy_draw 14 (by kernel_rfl) ?_
     repeat (first | refine dr_op (ov_p rfl) rfl rfl ?_ | (refine dr_op (ov_ar rfl rfl rfl ?_ ?_) rfl rfl ?_; omega; omega) | (refine dr_op (ov_cat rfl rfl ?_) rfl rfl ?_; focus (first | omega | (simp <;> omega))) | (refine dr_op (ov_rem_n rfl rfl ?_ ?_) rfl rfl ?_; omega; omega) | (refine dr_op (ov_quok rfl rfl ?_ ?_ ?_) rfl rfl ?_; omega; omega; omega) | (refine dr_op (ov_slice rfl rfl rfl ?_ ?_ ?_) rfl rfl ?_; (focus (first | omega | (simp <;> omega))); (focus (first | omega | (simp <;> omega))); focus (first | omega | (simp <;> omega))) | refine dr_end ?_)
     repeat (first | refine sy_k rfl rfl ?_ | (refine gO ?_; refine sy_ov (ov_p rfl) rfl rfl ?_) | refine sy_rt ?_)
     refine ret2 rfl rfl rfl ?_
     show Value.tuple #[S ([92, 120] ++ (digs.drop (bt s i / 16).toNat).take _ ++ (digs.drop (bt s i % 16).toNat).take _), _] = _
     rw [digs_at _ (by omega) _ (by omega), digs_at _ (by omega) _ (by omega), hb]
     rfl
   · rw [if_neg (by simp)] at h
     by_cases hsh : shortL r = []
     · rw [if_neg (by simp [hsh])] at h
       by_cases hu : unsafeB r = true
       · rw [if_pos hu] at h
         obtain ⟨rfl, rfl⟩ := Prod.mk.inj h
         have hx := hexL_len 5 r.toNat (Nat.lt_of_le_of_lt (m := 2097151) (by omega) (by decide))
         refine sy_enter rfl rfl ?_
         simp only [initFr]
         repeat (first | refine sy_k rfl rfl ?_ | (refine gO ?_; refine sy_ov (ov_p rfl) rfl rfl ?_))
         refine sy_ov (ov_call rfl (fun w _ => decode_c s i r n true hda hs h1 h2 w)) rfl rfl ?_
         repeat (first | refine sy_k rfl rfl ?_ | (refine gO ?_; refine sy_ov (ov_p rfl) rfl rfl ?_) | (refine sy_cond_f rfl ?_ ?_; (first | with_reducible rfl | assumption | omega | (simp <;> first | omega | assumption))))
         refine sy_ov (ov_call rfl (fun w _ => short_c r [] hsh w)) rfl rfl ?_
         repeat (first | refine sy_k rfl rfl ?_ | (refine gO ?_; refine sy_ov (ov_p rfl) rfl rfl ?_) | (refine sy_cond_f rfl ?_ ?_; (first | with_reducible rfl | assumption | omega | (simp <;> first | omega | assumption))))
         refine sy_ov (ov_call rfl (fun w _ => isUnsafe_c r true hu (by omega) w)) rfl rfl ?_
         repeat (first | refine sy_k rfl rfl ?_ | (refine gO ?_; first | refine sy_ov (ov_p rfl) rfl rfl ?_ | (refine sy_ov (ov_convk rfl ?_ ?_) rfl rfl ?_; omega; omega)) | (refine sy_cond_t rfl ?_ ?_; (first | with_reducible rfl | assumption | omega | (simp <;> first | omega | assumption))))
         refine sy_ov (ov_call rfl (fun w _ => hex_c r _ (by omega) (by omega) rfl w)) rfl rfl ?_
         repeat (first | refine sy_k rfl rfl ?_ | (refine gO ?_; first | refine sy_ov (ov_p rfl) rfl rfl ?_ | (refine gB ?_; (refine sy_ov (ov_cat rfl rfl ?_) rfl rfl ?_; focus (first | omega | (simp <;> omega))))) | refine sy_rt ?_)
         exact ret2 rfl rfl rfl rfl
       · rw [if_neg hu] at h
         obtain ⟨rfl, rfl⟩ := Prod.mk.inj h
         have hu' : unsafeB r = false := by simpa using hu
         refine sy_enter rfl rfl ?_
         simp only [initFr]
         repeat (first | refine sy_k rfl rfl ?_ | (refine gO ?_; refine sy_ov (ov_p rfl) rfl rfl ?_))
         refine sy_ov (ov_call rfl (fun w _ => decode_c s i r n true hda hs h1 h2 w)) rfl rfl ?_
         repeat (first | refine sy_k rfl rfl ?_ | (refine gO ?_; refine sy_ov (ov_p rfl) rfl rfl ?_) | (refine sy_cond_f rfl ?_ ?_; (first | with_reducible rfl | assumption | omega | (simp <;> first | omega | assumption))))
         refine sy_ov (ov_call rfl (fun w _ => short_c r [] hsh w)) rfl rfl ?_
         repeat (first | refine sy_k rfl rfl ?_ | (refine gO ?_; refine sy_ov (ov_p rfl) rfl rfl ?_) | (refine sy_cond_f rfl ?_ ?_; (first | with_reducible rfl | assumption | omega | (simp <;> first | omega | assumption))))
         refine sy_ov (ov_call rfl (fun w _ => isUnsafe_c r false hu' (by omega) w)) rfl rfl ?_
         repeat (first | refine sy_k rfl rfl ?_ | (refine gO ?_; first | refine sy_ov (ov_p rfl) rfl rfl ?_ | (refine gB ?_; (refine sy_ov (ov_ar rfl rfl rfl ?_ ?_) rfl rfl ?_; omega; omega)) | (refine gI ?_; (refine sy_ov (ov_slice rfl rfl rfl ?_ ?_ ?_) rfl rfl ?_; (focus (first | omega | (simp <;> omega))); (focus (first | omega | (simp <;> omega))); focus (first | omega | (simp <;> omega))))) | (refine sy_cond_f rfl ?_ ?_; (first | with_reducible rfl | assumption | omega | (simp <;> first | omega | assumption))) | refine sy_rt ?_)
         refine ret2 rfl rfl rfl ?_
         rw [show i + (n : Int) - i = n by omega, hd]; rfl
     · rw [if_pos hsh] at h
       obtain ⟨rfl, rfl⟩ := Prod.mk.inj h
       refine sy_enter rfl rfl ?_
       simp only [initFr]
       repeat (first | refine sy_k rfl rfl ?_ | (refine gO ?_; refine sy_ov (ov_p rfl) rfl rfl ?_))
       refine sy_ov (ov_call rfl (fun w _ => decode_c s i r n true hda hs h1 h2 w)) rfl rfl ?_
       repeat (first | refine sy_k rfl rfl ?_ | (refine gO ?_; refine sy_ov (ov_p rfl) rfl rfl ?_) | (refine sy_cond_f rfl ?_ ?_; (first | with_reducible rfl | assumption | omega | (simp <;> first | omega | assumption))))
       refine sy_ov (ov_call rfl (fun w _ => short_c r _ rfl w)) rfl rfl ?_
       repeat (first | refine sy_k rfl rfl ?_ | (refine gO ?_; refine sy_ov (ov_p rfl) rfl rfl ?_) | (refine sy_cond_t rfl ?_ ?_; (first | with_reducible rfl | assumption | omega | (simp <;> first | omega | assumption))) | refine sy_rt ?_)
       exact ret2 rfl rfl rfl rfl
def QuoInv (s : List UInt8) (a : Int × Value × List UInt8) : Prop := 0 ≤ a.1 ∧ a.1 ≤ s.length ∧ a.2.2.length ≤ 1 + 10 * a.1.toNat ∧ 34 :: bodyQ s = a.2.2 ++ bodyQ (s.drop a.1.toNat)
set_option maxRecDepth 20000 in
set_option maxHeartbeats 1000000 in
theorem quote_c (s q : List UInt8) (h : quoteL s = q) (hs : s.length ≤ 4000000000000) (w : World) :
 Calls Try.prog 105 #[S s] w fun e w' => e = .returned (S q) ∧ Below w.heap.size w w' := by
 subst h
 refine sy_enter rfl rfl ?_
 simp only [initFr]
 repeat (first | refine sy_k rfl rfl ?_ | (refine gO ?_; first | refine sy_ov (ov_p rfl) rfl rfl ?_ | (refine sy_alloc rfl rfl rfl ?_; intro _)))
 rename_i b
 refine sy_newBld ?_
 refine sy_works 0 rfl rfl rfl (writeByte_w b _ [] 34 (by omega) (by omega) (by first | omega | (simp; done) | (simp; omega))) ?_
 rintro r e' ⟨rfl, v', rfl⟩
 repeat (first | refine sy_k rfl rfl ?_ | (refine gO ?_; refine sy_ov (ov_p rfl) rfl rfl ?_))
 refine sy_loop (α := Int × Value × List UInt8) (fun a => [(0, S s), (3, .pointer (some ⟨b, 0, none⟩)), (4, .int .i64 a.1)]) (fun a => [bld b a.2.1 a.2.2]) (QuoInv s) (fun a => (s.length - a.1).toNat) (0, v', [34]) ?_ ?_ (List.Sublist.refl _) ?_
 · exact ⟨by simp, by simp, by simp, by simp⟩
 · exact ⟨⟨_, rfl, rfl⟩, ⟨_, rfl, rfl⟩, ⟨_, rfl, rfl⟩, trivial⟩
 rintro ⟨i, v, acc⟩ ⟨i1, i2, i3, i4⟩
 simp only at i1 i2 i3 i4
 repeat (first | refine sy_k rfl rfl ?_ | (refine gO ?_; first | refine sy_ov (ov_p rfl) rfl rfl ?_ | (refine gK ?_; refine sy_ov (ov_len rfl) rfl rfl ?_)))
 refine sy_cond rfl (fun h => ?_) (fun h => ?_)
 · simp only [decide_eq_true_eq] at h
   have hne : s.drop i.toNat ≠ [] := by intro e; have := congrArg List.length e; simp at this; omega
   have hb := unitE_bd _ hne
   rw [List.length_drop] at hb
   have hst := bodyQ_step _ hne
   obtain ⟨o, n, hu⟩ : ∃ o n, unitE (s.drop i.toNat) = (o, n) := ⟨_, _, rfl⟩
   have hua : unitEAt s i = (o, n) := by unfold unitEAt; rw [if_neg (by omega)]; exact hu
   rw [hu, List.drop_drop] at hst
   rw [hu] at hb
   simp only at hb hst
   rw [hst, ← List.append_assoc] at i4
   repeat (first | refine sy_k rfl rfl ?_ | (refine gO ?_; refine sy_ov (ov_p rfl) rfl rfl ?_))
   refine sy_ov (ov_call rfl (fun w _ => unitE_c s i o n hua (by omega) (by omega) (by omega) w)) rfl rfl ?_
   repeat (first | refine sy_k rfl rfl ?_ | (refine gO ?_; refine sy_ov (ov_p rfl) rfl rfl ?_))
   refine sy_works 0 rfl rfl rfl (writeString_w b v acc o (by first | omega | (simp; done) | (simp; omega)) (by first | omega | (simp; done) | (simp; omega))) ?_
   rintro r e' ⟨rfl, v', rfl⟩
   repeat (first | refine sy_k rfl rfl ?_ | (refine gO ?_; first | refine sy_ov (ov_p rfl) rfl rfl ?_ | (refine gB ?_; (refine sy_ov (ov_ar rfl rfl rfl ?_ ?_) rfl rfl ?_; omega; omega))))
   refine sy_back (i + n, v', acc ++ o) ?_ ?_ ?_ (List.Sublist.refl _)
   · exact ⟨by omega, by omega, by simp; omega, by rw [i4, show (i + (n : Int)).toNat = i.toNat + n by omega]⟩
   · show Int.toNat _ < Int.toNat _; omega
   · exact ⟨⟨_, rfl, rfl⟩, ⟨_, rfl, rfl⟩, ⟨_, rfl, rfl⟩, trivial⟩
 · simp only [decide_eq_false_iff_not] at h
   rw [List.drop_of_length_le (by omega), bodyQ_nil, List.append_nil] at i4
   repeat (refine sy_k rfl rfl ?_)
   refine sy_works 0 rfl rfl rfl (writeByte_w b v acc 34 (by omega) (by omega) (by first | omega | (simp; done) | (simp; omega))) ?_
   rintro r e' ⟨rfl, v', rfl⟩
   repeat (refine sy_k rfl rfl ?_)
   refine sy_works 0 rfl rfl rfl (string_w b v' (acc ++ [34]) (by first | omega | (simp; done) | (simp; omega))) ?_
   rintro r e' ⟨rfl, rfl⟩
   repeat (first | refine sy_k rfl rfl ?_ | (refine gO ?_; refine sy_ov (ov_p rfl) rfl rfl ?_) | refine sy_rt ?_)
   refine ret1 rfl rfl ?_
   unfold quoteL; rw [i4]
end Go.Proofs.Ytldjakeigjngoaa