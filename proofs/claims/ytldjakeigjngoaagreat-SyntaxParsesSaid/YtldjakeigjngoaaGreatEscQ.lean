/- Contracts of pinned.Kind, pinned.IsUnsafe, and of the package escape: writing. -/
import Derived.Test.YtldjakeigjngoaaGreatBldQ
import Derived.Test.YtldjakeigjngoaaGreatBPL
import Derived.Test.YtldjakeigjngoaaGreatL1Q
set_option linter.unusedVariables false
set_option linter.unusedSimpArgs false
namespace Go.Proofs.YtldjakeigjngoaaGreat
open Go.RowKit Bf
theorem tab_c {f : FuncId} {T : List (Int × Int)} {n : Nat} (h : ∀ w, Calls Tryz.prog f #[] w fun e w' => e = .returned (.slice (some ⟨w.heap.size, 0, none⟩) n n) ∧ w.alloc (.cells (spans T).toArray 199) = w') (w : World) :
 Calls Tryz.prog f ([] : List Value).toArray w fun x w' => ∃ v e', (∃ b, v = .slice (some ⟨b, 0, none⟩) n n ∧ e' = blk b 199 (spans T)) ∧ x = .returned v ∧ e'.holds w' ∧ Below w.heap.size w w' ∧ ∀ b, e'.dom b → w.heap.size ≤ b ∧ b < w'.heap.size :=
 (h w).mono fun e w' ⟨he, hw⟩ => by
   subst hw
   refine ⟨_, _, ⟨_, rfl, rfl⟩, he, ?_, (Below.refl _ _).alloc (Nat.le_refl _) _, ?_⟩
   · show (w.heap.push _)[w.heap.size]? = _; simp
   · rintro b rfl; show _ ∧ _ < (w.heap.push _).size; simp
theorem in_c (T : List (Int × Int)) (n b : Nat) (r : Int) (ok : Bool) (w : World) (ho : orderT T = true) (hl : T.length = n) (hn : n ≤ 100000) (hr : -2147483648 ≤ r ∧ r ≤ 2147483647) (h : hasT T r = ok) {D : Nat → Prop} {w0 : World} {hp : List En} (hw : HpOk D w0 hp w) (i : Nat) (hi : hp[i]? = some (blk b 199 (spans T))) :
 Calls Tryz.prog 140 #[.slice (some ⟨b, 0, none⟩) n n, .int .i32 r] w fun e w' => e = .returned (.bool ok) ∧ Below w.heap.size w w' := by
 have hh : w.heap[b]? = some (.cells (spans T).toArray 199 (0, 0)) := (hw.get hi).1
 have hlen := spans_len T
 refine (in_at T ok _ n r w ho hl hn hr ⟨by rw [hlen, hl], .inr ⟨b, 0, n, rfl, ((hw.get hi).2 b rfl).2, Nat.le_refl _, by unfold maxLen; omega, fun j hj => ?_⟩⟩ h).mono ?_
 · simp [World.cell?, hh, hj]
 · rintro e w' ⟨he, rfl⟩; exact ⟨he, Below.refl _ _⟩
set_option maxRecDepth 20000 in
theorem kind_c (r : Int) (hr : -2147483648 ≤ r ∧ r ≤ 2147483647) (w : World) : Calls Tryz.prog 124 #[.int .i32 r] w fun e w' => e = .returned (.int .i64 (kindT r)) ∧ Below w.heap.size w w' := by
 obtain ⟨a, ha⟩ : ∃ a, hasT controlT r = a := ⟨_, rfl⟩
 obtain ⟨b, hb⟩ : ∃ b, hasT bidiT r = b := ⟨_, rfl⟩
 obtain ⟨c, hc⟩ : ∃ c, hasT formatT r = c := ⟨_, rfl⟩
 obtain ⟨d, hd⟩ : ∃ d, hasT separatorT r = d := ⟨_, rfl⟩
 have hk : kindT r = if a then 1 else if b then 2 else if c then 3 else if d then 4 else 0 := by unfold kindT; rw [ha, hb, hc, hd]
 refine sy_enter rfl rfl ?_
 simp only [initFr]
 repeat (first | refine yK ?_ | refine yP ?_)
 refine sy_calln rfl rfl (fun w _ => tab_c control_any w) ?_
 rintro v e' ⟨b1, rfl, rfl⟩
 repeat refine yP ?_
 refine sy_ov (ov_call rfl (fun w hw => in_c controlT 2 b1 r a w control_order rfl (by decide) hr ha hw 0 rfl)) rfl rfl ?_
 cases a
 · repeat (first | refine yK ?_ | refine yP ?_ | refine yN ?_)
   refine sy_calln rfl rfl (fun w _ => tab_c bidi_any w) ?_
   rintro v e' ⟨b2, rfl, rfl⟩
   repeat refine yP ?_
   refine sy_ov (ov_call rfl (fun w hw => in_c bidiT 4 b2 r b w bidi_order rfl (by decide) hr hb hw 0 rfl)) rfl rfl ?_
   cases b
   · repeat (first | refine yK ?_ | refine yP ?_ | refine yN ?_)
     refine sy_calln rfl rfl (fun w _ => tab_c format_any w) ?_
     rintro v e' ⟨b3, rfl, rfl⟩
     repeat refine yP ?_
     refine sy_ov (ov_call rfl (fun w hw => in_c formatT 17 b3 r c w format_order rfl (by decide) hr hc hw 0 rfl)) rfl rfl ?_
     cases c
     · repeat (first | refine yK ?_ | refine yP ?_ | refine yN ?_)
       refine sy_calln rfl rfl (fun w _ => tab_c separator_any w) ?_
       rintro v e' ⟨b4, rfl, rfl⟩
       repeat refine yP ?_
       refine sy_ov (ov_call rfl (fun w hw => in_c separatorT 1 b4 r d w separator_order rfl (by decide) hr hd hw 0 rfl)) rfl rfl ?_
       cases d
       · repeat (first | refine yK ?_ | refine yP ?_ | refine yN ?_ | refine sy_rt ?_)
         exact ret1 rfl rfl (by rw [hk]; rfl)
       · repeat (first | refine yK ?_ | refine yP ?_ | refine yT ?_ | refine sy_rt ?_)
         exact ret1 rfl rfl (by rw [hk]; rfl)
     · repeat (first | refine yK ?_ | refine yP ?_ | refine yT ?_ | refine sy_rt ?_)
       exact ret1 rfl rfl (by rw [hk]; rfl)
   · repeat (first | refine yK ?_ | refine yP ?_ | refine yT ?_ | refine sy_rt ?_)
     exact ret1 rfl rfl (by rw [hk]; rfl)
 · repeat (first | refine yK ?_ | refine yP ?_ | refine yT ?_ | refine sy_rt ?_)
   exact ret1 rfl rfl (by rw [hk]; rfl)
set_option maxRecDepth 20000 in
theorem isUnsafe_c (r : Int) (b : Bool) (h : unsafeB r = b) (hr : -2147483648 ≤ r ∧ r ≤ 2147483647) (w : World) : Calls Tryz.prog 106 #[.int .i32 r] w fun e w' => e = .returned (.bool b) ∧ Below w.heap.size w w' := by
 subst h
 refine sy_enter rfl rfl ?_
 simp only [initFr]
 repeat (first | refine yK ?_ | refine yP ?_)
 refine sy_ov (ov_call rfl (fun w _ => kind_c r hr w)) rfl rfl ?_
 repeat (first | refine yK ?_ | refine yP ?_ | refine sy_rt ?_)
 exact ret1 rfl rfl rfl
theorem bt_nat (s : List UInt8) (i : Int) (h0 : 0 ≤ i) (h1 : i < s.length) : ∃ c l, s.drop i.toNat = c :: l ∧ bt s i = (c.toNat : Int) := by
 have h : i.toNat < s.length := by omega
 refine ⟨s[i.toNat], s.drop (i.toNat + 1), List.drop_eq_getElem_cons h, ?_⟩
 unfold bt; rw [List.getD_eq_getElem?_getD, List.getElem?_eq_getElem h]; rfl
theorem decAt_in' (s : List UInt8) (i : Int) (h0 : 0 ≤ i) (h1 : i < s.length) : decAt s i = decS (s.drop i.toNat) := by unfold decAt; rw [if_neg (by omega)]
end Go.Proofs.YtldjakeigjngoaaGreat