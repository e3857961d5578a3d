/- blindfoldlaw16.SyntaxParses answers true for every input and leaves what it is given as it was: Parse returns the schema or the fault that the chapter specifies. No condition. -/
/- LawSyntaxParsesQ: texts of this proof, joined by program: Lives16, WalkSynParses, LawSyntaxParses. -/
import Derived.Test.YtldjakeigjngoaaGreatBSU
import Derived.Test.YtldjakeigjngoaaGreatBSY
import Derived.Test.YtldjakeigjngoaaGreatBSZ
import Derived.Test.YtldjakeigjngoaaGreatFactsQ
import Derived.ProofKit
import Derived.OpenShut
import Derived.ShutString
import Derived.ChangeOld
import Derived.Below
import Derived.SizedLaws
set_option linter.unusedVariables false
set_option linter.unusedSimpArgs false
namespace Go.Proofs.YtldjakeigjngoaaGreat
open Go.RowKit Bf
def live16 : List UInt8 := [105, 110, 116, 40, 48, 46, 46, 57, 41]
theorem scan16 : scanR live16 = ([(1, 0, 3, [105, 110, 116], 0), (4, 3, 4, [40], 0), (2, 4, 5, [], 0), (4, 5, 7, [46, 46], 0), (2, 7, 8, [], 9), (4, 8, 9, [41], 0), (0, 9, 9, [], 0)], 0, 0) :=
 scanR_of (by decide) 40 (by kernel_rfl)
theorem typ16 : typR live16 = (.mk 2 0 0 9 0 [] [] zw, 0, 0) := by
 unfold typR; rw [scan16]; rfl
theorem eqL_self2 (e a : Int) : eqL [.int .i64 e, .int .i64 a] [.int .i64 e, .int .i64 a] = true := by simp [eqL, eqC]
theorem typ_at {D : Nat → Prop} {w0 w : World} {hp : List En} (hw : HpOk D w0 hp w) {i : Nat} {z : TypA} (hi : hp[i]? = some (typE z)) : TypJ w z := (hw.get hi).1
set_option maxRecDepth 20000 in
set_option maxHeartbeats 4000000 in
theorem lives16_c (w : World) : Calls Tryz.prog 10 #[] w fun e w' => e = .returned (.bool true) ∧ Below w.heap.size w w' := by
 refine sy_enter (args := []) rfl rfl ?_
 simp only [initFr]
 repeat (first | refine yK ?_ | refine yP ?_)
 refine sy_callE [] rfl rfl rfl (sx_type live16 (by decide)) ?_
 rintro _ _ ⟨z, rfl, hz, rfl⟩
 rw [typ16] at hz ⊢
 obtain ⟨k, a, lo, hi, most, ns, pp, cp, parts, nm⟩ := z
 simp only [plT, TypP.mk.injEq] at hz
 obtain ⟨rfl, rfl, rfl, rfl, rfl, _, _, _⟩ := hz
 simp only [cX]
 repeat (first | refine yK ?_ | refine yP ?_ | refine yL 0 ?_ | refine yS 0 ?_ | refine yS 1 ?_ | refine yB ?_ | (refine yA ?_; intro _))
 refine sy_ov (ov_eqst (xs := [.int .i64 0, .int .i64 0]) (ys := [.int .i64 0, .int .i64 0]) rfl rfl rfl rfl) rfl rfl ?_
 rw [eqL_self2]
 repeat (first | refine yK ?_ | refine yP ?_ | refine yG ?_ | refine yL 1 ?_ | refine yM ?_ | refine yF ?_ | refine sy_rt ?_)
 exact ret1 rfl rfl rfl
theorem sch_at {D : Nat → Prop} {w0 w : World} {hp : List En} (hw : HpOk D w0 hp w) {i : Nat} {z : SchA} (hi : hp[i]? = some (schE z)) : SchJ w z := (hw.get hi).1
set_option maxRecDepth 20000 in
set_option maxHeartbeats 4000000 in
theorem synParses_walk (s : ByteArray) (hs0 : s.size ≤ 140737488351232) (w : World) : Calls Tryz.prog 5 #[.string s] w fun e w' => e = .returned (.bool true) ∧ Below w.heap.size w w' := by
 obtain ⟨⟨q⟩⟩ := s
 have hq : q.length ≤ 140737488351232 := hs0
 by_cases h1 : 4000 < q.length
 · refine sy_enter rfl rfl ?_
   simp only [initFr]
   repeat (first | refine yK ?_ | refine yP ?_ | refine sy_guard_undef rfl rfl rfl rfl rfl ?_ | refine yG ?_ | refine yH ?_ | (refine yR ?_ ?_ ?_; omega; omega) | (refine sy_ov (ov_cat rfl rfl ?_) rfl rfl ?_; focus (first | omega | (simp <;> omega))) | (refine sy_ov (ov_rem_n rfl rfl ?_ ?_) rfl rfl ?_; omega; omega) | (refine sy_ov (ov_quok rfl rfl ?_ ?_ ?_) rfl rfl ?_; omega; omega; omega) | refine sy_ov (ov_eqb rfl rfl) rfl rfl ?_ | refine sy_ov (ov_neb rfl rfl) rfl rfl ?_ | refine yU ?_ | refine sy_ov (ov_lens rfl) rfl rfl ?_ | refine sy_ov (ov_max rfl rfl) rfl rfl ?_ | refine sy_ov (ov_min rfl rfl) rfl rfl ?_ | refine yL 0 ?_ | refine yL 1 ?_ | refine yL 2 ?_ | refine yL 3 ?_ | refine yL 4 ?_ | refine yS 0 ?_ | refine yS 1 ?_ | refine yS 2 ?_ | refine yS 3 ?_ | refine yS 4 ?_ | (refine sy_ov (ov_slice rfl rfl rfl ?_ ?_ ?_) rfl rfl ?_; (focus (first | omega | (simp <;> omega))); (focus (first | omega | (simp <;> omega))); focus (first | omega | (simp <;> omega))) | (refine yV ?_ ?_ ?_; omega; omega) | (refine sy_ov (ov_slice_hi rfl rfl ?_ ?_) rfl rfl ?_; omega; omega) | refine yM ?_ | refine yE ?_ | refine sy_ov (ov_pick rfl rfl rfl) rfl rfl ?_ | refine yF ?_ | refine yI ?_ | refine sy_ov (ov_field rfl rfl rfl) rfl rfl ?_ | refine sy_ov (ov_fielda rfl rfl) rfl rfl ?_ | (refine yD ?_ ?_ ?_; omega; omega) | refine yB ?_ | (refine sy_ov (ov_convk rfl ?_ ?_) rfl rfl ?_; omega; omega) | refine sy_ov (ov_conv rfl) rfl rfl ?_ | (refine yX ?_; intro _) | (refine yA ?_; intro _) | refine yT ?_ | refine yN ?_ | refine sy_rt ?_)
   refine sy_ov (ov_call rfl (fun w _ => lives16_c w)) rfl rfl ?_
   repeat (first | refine yK ?_ | refine yP ?_ | refine sy_guard_undef rfl rfl rfl rfl rfl ?_ | refine yG ?_ | refine yH ?_ | (refine yR ?_ ?_ ?_; omega; omega) | (refine sy_ov (ov_cat rfl rfl ?_) rfl rfl ?_; focus (first | omega | (simp <;> omega))) | (refine sy_ov (ov_rem_n rfl rfl ?_ ?_) rfl rfl ?_; omega; omega) | (refine sy_ov (ov_quok rfl rfl ?_ ?_ ?_) rfl rfl ?_; omega; omega; omega) | refine sy_ov (ov_eqb rfl rfl) rfl rfl ?_ | refine sy_ov (ov_neb rfl rfl) rfl rfl ?_ | refine yU ?_ | refine sy_ov (ov_lens rfl) rfl rfl ?_ | refine sy_ov (ov_max rfl rfl) rfl rfl ?_ | refine sy_ov (ov_min rfl rfl) rfl rfl ?_ | refine yL 0 ?_ | refine yL 1 ?_ | refine yL 2 ?_ | refine yL 3 ?_ | refine yL 4 ?_ | refine yS 0 ?_ | refine yS 1 ?_ | refine yS 2 ?_ | refine yS 3 ?_ | refine yS 4 ?_ | (refine sy_ov (ov_slice rfl rfl rfl ?_ ?_ ?_) rfl rfl ?_; (focus (first | omega | (simp <;> omega))); (focus (first | omega | (simp <;> omega))); focus (first | omega | (simp <;> omega))) | (refine yV ?_ ?_ ?_; omega; omega) | (refine sy_ov (ov_slice_hi rfl rfl ?_ ?_) rfl rfl ?_; omega; omega) | refine yM ?_ | refine yE ?_ | refine sy_ov (ov_pick rfl rfl rfl) rfl rfl ?_ | refine yF ?_ | refine yI ?_ | refine sy_ov (ov_field rfl rfl rfl) rfl rfl ?_ | refine sy_ov (ov_fielda rfl rfl) rfl rfl ?_ | (refine yD ?_ ?_ ?_; omega; omega) | refine yB ?_ | (refine sy_ov (ov_convk rfl ?_ ?_) rfl rfl ?_; omega; omega) | refine sy_ov (ov_conv rfl) rfl rfl ?_ | (refine yX ?_; intro _) | (refine yA ?_; intro _) | refine yT ?_ | refine yN ?_ | refine sy_rt ?_)
   exact ret1 rfl rfl rfl
 · refine sy_enter rfl rfl ?_
   simp only [initFr]
   repeat (first | refine yK ?_ | refine yP ?_ | refine sy_guard_undef rfl rfl rfl rfl rfl ?_ | refine yG ?_ | refine yH ?_ | (refine yR ?_ ?_ ?_; omega; omega) | (refine sy_ov (ov_cat rfl rfl ?_) rfl rfl ?_; focus (first | omega | (simp <;> omega))) | (refine sy_ov (ov_rem_n rfl rfl ?_ ?_) rfl rfl ?_; omega; omega) | (refine sy_ov (ov_quok rfl rfl ?_ ?_ ?_) rfl rfl ?_; omega; omega; omega) | refine sy_ov (ov_eqb rfl rfl) rfl rfl ?_ | refine sy_ov (ov_neb rfl rfl) rfl rfl ?_ | refine yU ?_ | refine sy_ov (ov_lens rfl) rfl rfl ?_ | refine sy_ov (ov_max rfl rfl) rfl rfl ?_ | refine sy_ov (ov_min rfl rfl) rfl rfl ?_ | refine yL 0 ?_ | refine yL 1 ?_ | refine yL 2 ?_ | refine yL 3 ?_ | refine yL 4 ?_ | refine yS 0 ?_ | refine yS 1 ?_ | refine yS 2 ?_ | refine yS 3 ?_ | refine yS 4 ?_ | (refine sy_ov (ov_slice rfl rfl rfl ?_ ?_ ?_) rfl rfl ?_; (focus (first | omega | (simp <;> omega))); (focus (first | omega | (simp <;> omega))); focus (first | omega | (simp <;> omega))) | (refine yV ?_ ?_ ?_; omega; omega) | (refine sy_ov (ov_slice_hi rfl rfl ?_ ?_) rfl rfl ?_; omega; omega) | refine yM ?_ | refine yE ?_ | refine sy_ov (ov_pick rfl rfl rfl) rfl rfl ?_ | refine yF ?_ | refine yI ?_ | refine sy_ov (ov_field rfl rfl rfl) rfl rfl ?_ | refine sy_ov (ov_fielda rfl rfl) rfl rfl ?_ | (refine yD ?_ ?_ ?_; omega; omega) | refine yB ?_ | (refine sy_ov (ov_convk rfl ?_ ?_) rfl rfl ?_; omega; omega) | refine sy_ov (ov_conv rfl) rfl rfl ?_ | (refine yX ?_; intro _) | (refine yA ?_; intro _) | refine yT ?_ | refine yN ?_ | refine sy_rt ?_)
   refine sy_callE [] rfl rfl rfl (sx_parse q (by omega)) ?_
   rintro _ _ ⟨z, rfl, hz, rfl⟩
   obtain ⟨lv, od, tp, tc, ty, ⟨k, a, lo, hi, most, ns, pp, cp, parts, nm⟩⟩ := z
   simp only [cX]
   repeat (first | refine yK ?_ | refine yP ?_ | refine sy_guard_undef rfl rfl rfl rfl rfl ?_ | refine yG ?_ | refine yH ?_ | (refine yR ?_ ?_ ?_; omega; omega) | (refine sy_ov (ov_cat rfl rfl ?_) rfl rfl ?_; focus (first | omega | (simp <;> omega))) | (refine sy_ov (ov_rem_n rfl rfl ?_ ?_) rfl rfl ?_; omega; omega) | (refine sy_ov (ov_quok rfl rfl ?_ ?_ ?_) rfl rfl ?_; omega; omega; omega) | refine sy_ov (ov_eqb rfl rfl) rfl rfl ?_ | refine sy_ov (ov_neb rfl rfl) rfl rfl ?_ | refine yU ?_ | refine sy_ov (ov_lens rfl) rfl rfl ?_ | refine sy_ov (ov_max rfl rfl) rfl rfl ?_ | refine sy_ov (ov_min rfl rfl) rfl rfl ?_ | refine yL 0 ?_ | refine yL 1 ?_ | refine yL 2 ?_ | refine yL 3 ?_ | refine yL 4 ?_ | refine yS 0 ?_ | refine yS 1 ?_ | refine yS 2 ?_ | refine yS 3 ?_ | refine yS 4 ?_ | (refine sy_ov (ov_slice rfl rfl rfl ?_ ?_ ?_) rfl rfl ?_; (focus (first | omega | (simp <;> omega))); (focus (first | omega | (simp <;> omega))); focus (first | omega | (simp <;> omega))) | (refine yV ?_ ?_ ?_; omega; omega) | (refine sy_ov (ov_slice_hi rfl rfl ?_ ?_) rfl rfl ?_; omega; omega) | refine yM ?_ | refine yE ?_ | refine sy_ov (ov_pick rfl rfl rfl) rfl rfl ?_ | refine yF ?_ | refine yI ?_ | refine sy_ov (ov_field rfl rfl rfl) rfl rfl ?_ | refine sy_ov (ov_fielda rfl rfl) rfl rfl ?_ | (refine yD ?_ ?_ ?_; omega; omega) | refine yB ?_ | (refine sy_ov (ov_convk rfl ?_ ?_) rfl rfl ?_; omega; omega) | refine sy_ov (ov_conv rfl) rfl rfl ?_ | (refine yX ?_; intro _) | (refine yA ?_; intro _) | refine yT ?_ | refine yN ?_ | refine sy_rt ?_)
   refine sy_callN rfl rfl (fun w _ => rq_parse q (by omega) w) ?_
   rintro _ _ ⟨z2, rfl, hz2, rfl⟩
   obtain ⟨lv', od', tp', tc', ty', ⟨k', a', lo', hi', most', ns', pp', cp', parts', nm'⟩⟩ := z2
   simp only [cX]
   repeat (first | refine yK ?_ | refine yP ?_ | refine sy_guard_undef rfl rfl rfl rfl rfl ?_ | refine yG ?_ | refine yH ?_ | (refine yR ?_ ?_ ?_; omega; omega) | (refine sy_ov (ov_cat rfl rfl ?_) rfl rfl ?_; focus (first | omega | (simp <;> omega))) | (refine sy_ov (ov_rem_n rfl rfl ?_ ?_) rfl rfl ?_; omega; omega) | (refine sy_ov (ov_quok rfl rfl ?_ ?_ ?_) rfl rfl ?_; omega; omega; omega) | refine sy_ov (ov_eqb rfl rfl) rfl rfl ?_ | refine sy_ov (ov_neb rfl rfl) rfl rfl ?_ | refine yU ?_ | refine sy_ov (ov_lens rfl) rfl rfl ?_ | refine sy_ov (ov_max rfl rfl) rfl rfl ?_ | refine sy_ov (ov_min rfl rfl) rfl rfl ?_ | refine yL 0 ?_ | refine yL 1 ?_ | refine yL 2 ?_ | refine yL 3 ?_ | refine yL 4 ?_ | refine yS 0 ?_ | refine yS 1 ?_ | refine yS 2 ?_ | refine yS 3 ?_ | refine yS 4 ?_ | (refine sy_ov (ov_slice rfl rfl rfl ?_ ?_ ?_) rfl rfl ?_; (focus (first | omega | (simp <;> omega))); (focus (first | omega | (simp <;> omega))); focus (first | omega | (simp <;> omega))) | (refine yV ?_ ?_ ?_; omega; omega) | (refine sy_ov (ov_slice_hi rfl rfl ?_ ?_) rfl rfl ?_; omega; omega) | refine yM ?_ | refine yE ?_ | refine sy_ov (ov_pick rfl rfl rfl) rfl rfl ?_ | refine yF ?_ | refine yI ?_ | refine sy_ov (ov_field rfl rfl rfl) rfl rfl ?_ | refine sy_ov (ov_fielda rfl rfl) rfl rfl ?_ | (refine yD ?_ ?_ ?_; omega; omega) | refine yB ?_ | (refine sy_ov (ov_convk rfl ?_ ?_) rfl rfl ?_; omega; omega) | refine sy_ov (ov_conv rfl) rfl rfl ?_ | (refine yX ?_; intro _) | (refine yA ?_; intro _) | refine yT ?_ | refine yN ?_ | refine sy_rt ?_)
   refine sy_ov (ov_call rfl (fun w hw => rq_all ⟨lv, od, tp, tc, ty, .mk k a lo hi most ns pp cp parts nm⟩ ⟨lv', od', tp', tc', ty', .mk k' a' lo' hi' most' ns' pp' cp' parts' nm'⟩ w (sch_at (i := 5) hw rfl) (sch_at (i := 2) hw rfl) (by rw [hz, hz2]))) rfl rfl ?_
   repeat (first | refine yK ?_ | refine yP ?_ | refine sy_guard_undef rfl rfl rfl rfl rfl ?_ | refine yG ?_ | refine yH ?_ | (refine yR ?_ ?_ ?_; omega; omega) | (refine sy_ov (ov_cat rfl rfl ?_) rfl rfl ?_; focus (first | omega | (simp <;> omega))) | (refine sy_ov (ov_rem_n rfl rfl ?_ ?_) rfl rfl ?_; omega; omega) | (refine sy_ov (ov_quok rfl rfl ?_ ?_ ?_) rfl rfl ?_; omega; omega; omega) | refine sy_ov (ov_eqb rfl rfl) rfl rfl ?_ | refine sy_ov (ov_neb rfl rfl) rfl rfl ?_ | refine yU ?_ | refine sy_ov (ov_lens rfl) rfl rfl ?_ | refine sy_ov (ov_max rfl rfl) rfl rfl ?_ | refine sy_ov (ov_min rfl rfl) rfl rfl ?_ | refine yL 0 ?_ | refine yL 1 ?_ | refine yL 2 ?_ | refine yL 3 ?_ | refine yL 4 ?_ | refine yS 0 ?_ | refine yS 1 ?_ | refine yS 2 ?_ | refine yS 3 ?_ | refine yS 4 ?_ | (refine sy_ov (ov_slice rfl rfl rfl ?_ ?_ ?_) rfl rfl ?_; (focus (first | omega | (simp <;> omega))); (focus (first | omega | (simp <;> omega))); focus (first | omega | (simp <;> omega))) | (refine yV ?_ ?_ ?_; omega; omega) | (refine sy_ov (ov_slice_hi rfl rfl ?_ ?_) rfl rfl ?_; omega; omega) | refine yM ?_ | refine yE ?_ | refine sy_ov (ov_pick rfl rfl rfl) rfl rfl ?_ | refine yF ?_ | refine yI ?_ | refine sy_ov (ov_field rfl rfl rfl) rfl rfl ?_ | refine sy_ov (ov_fielda rfl rfl) rfl rfl ?_ | (refine yD ?_ ?_ ?_; omega; omega) | refine yB ?_ | (refine sy_ov (ov_convk rfl ?_ ?_) rfl rfl ?_; omega; omega) | refine sy_ov (ov_conv rfl) rfl rfl ?_ | (refine yX ?_; intro _) | (refine yA ?_; intro _) | refine yT ?_ | refine yN ?_ | refine sy_rt ?_)
   refine sy_ov (ov_eqst (xs := [.int .i64 (schR q).2.1, .int .i64 (schR q).2.2]) (ys := [.int .i64 (schR q).2.1, .int .i64 (schR q).2.2]) rfl rfl rfl rfl) rfl rfl ?_
   rw [eqL_self2]
   repeat (first | refine yK ?_ | refine yP ?_ | refine sy_guard_undef rfl rfl rfl rfl rfl ?_ | refine yG ?_ | refine yH ?_ | (refine yR ?_ ?_ ?_; omega; omega) | (refine sy_ov (ov_cat rfl rfl ?_) rfl rfl ?_; focus (first | omega | (simp <;> omega))) | (refine sy_ov (ov_rem_n rfl rfl ?_ ?_) rfl rfl ?_; omega; omega) | (refine sy_ov (ov_quok rfl rfl ?_ ?_ ?_) rfl rfl ?_; omega; omega; omega) | refine sy_ov (ov_eqb rfl rfl) rfl rfl ?_ | refine sy_ov (ov_neb rfl rfl) rfl rfl ?_ | refine yU ?_ | refine sy_ov (ov_lens rfl) rfl rfl ?_ | refine sy_ov (ov_max rfl rfl) rfl rfl ?_ | refine sy_ov (ov_min rfl rfl) rfl rfl ?_ | refine yL 0 ?_ | refine yL 1 ?_ | refine yL 2 ?_ | refine yL 3 ?_ | refine yL 4 ?_ | refine yS 0 ?_ | refine yS 1 ?_ | refine yS 2 ?_ | refine yS 3 ?_ | refine yS 4 ?_ | (refine sy_ov (ov_slice rfl rfl rfl ?_ ?_ ?_) rfl rfl ?_; (focus (first | omega | (simp <;> omega))); (focus (first | omega | (simp <;> omega))); focus (first | omega | (simp <;> omega))) | (refine yV ?_ ?_ ?_; omega; omega) | (refine sy_ov (ov_slice_hi rfl rfl ?_ ?_) rfl rfl ?_; omega; omega) | refine yM ?_ | refine yE ?_ | refine sy_ov (ov_pick rfl rfl rfl) rfl rfl ?_ | refine yF ?_ | refine yI ?_ | refine sy_ov (ov_field rfl rfl rfl) rfl rfl ?_ | refine sy_ov (ov_fielda rfl rfl) rfl rfl ?_ | (refine yD ?_ ?_ ?_; omega; omega) | refine yB ?_ | (refine sy_ov (ov_convk rfl ?_ ?_) rfl rfl ?_; omega; omega) | refine sy_ov (ov_conv rfl) rfl rfl ?_ | (refine yX ?_; intro _) | (refine yA ?_; intro _) | refine yT ?_ | refine yN ?_ | refine sy_rt ?_)
   refine sy_ov (ov_call rfl (fun w _ => lives16_c w)) rfl rfl ?_
   repeat (first | refine yK ?_ | refine yP ?_ | refine sy_guard_undef rfl rfl rfl rfl rfl ?_ | refine yG ?_ | refine yH ?_ | (refine yR ?_ ?_ ?_; omega; omega) | (refine sy_ov (ov_cat rfl rfl ?_) rfl rfl ?_; focus (first | omega | (simp <;> omega))) | (refine sy_ov (ov_rem_n rfl rfl ?_ ?_) rfl rfl ?_; omega; omega) | (refine sy_ov (ov_quok rfl rfl ?_ ?_ ?_) rfl rfl ?_; omega; omega; omega) | refine sy_ov (ov_eqb rfl rfl) rfl rfl ?_ | refine sy_ov (ov_neb rfl rfl) rfl rfl ?_ | refine yU ?_ | refine sy_ov (ov_lens rfl) rfl rfl ?_ | refine sy_ov (ov_max rfl rfl) rfl rfl ?_ | refine sy_ov (ov_min rfl rfl) rfl rfl ?_ | refine yL 0 ?_ | refine yL 1 ?_ | refine yL 2 ?_ | refine yL 3 ?_ | refine yL 4 ?_ | refine yS 0 ?_ | refine yS 1 ?_ | refine yS 2 ?_ | refine yS 3 ?_ | refine yS 4 ?_ | (refine sy_ov (ov_slice rfl rfl rfl ?_ ?_ ?_) rfl rfl ?_; (focus (first | omega | (simp <;> omega))); (focus (first | omega | (simp <;> omega))); focus (first | omega | (simp <;> omega))) | (refine yV ?_ ?_ ?_; omega; omega) | (refine sy_ov (ov_slice_hi rfl rfl ?_ ?_) rfl rfl ?_; omega; omega) | refine yM ?_ | refine yE ?_ | refine sy_ov (ov_pick rfl rfl rfl) rfl rfl ?_ | refine yF ?_ | refine yI ?_ | refine sy_ov (ov_field rfl rfl rfl) rfl rfl ?_ | refine sy_ov (ov_fielda rfl rfl) rfl rfl ?_ | (refine yD ?_ ?_ ?_; omega; omega) | refine yB ?_ | (refine sy_ov (ov_convk rfl ?_ ?_) rfl rfl ?_; omega; omega) | refine sy_ov (ov_conv rfl) rfl rfl ?_ | (refine yX ?_; intro _) | (refine yA ?_; intro _) | refine yT ?_ | refine yN ?_ | refine sy_rt ?_)
   exact ret1 rfl rfl rfl
end Go.Proofs.YtldjakeigjngoaaGreat
namespace Go.Proofs.YtldjakeigjngoaaGreat.syntaxParses
open Go.ChangeShapes Go.WideShapes Go.ChangeAt Go.RowKit
open Go.ChangeMaps (open_string shut_string)
theorem own : ownKnob Tryz.prog.godebug = none := own_t
theorem laidOut : laidOutB Tryz.prog = true := laidOut_t
set_option maxRecDepth 100000 in
theorem lifted (os : Os) (started : os.Started) (H : Type) (enc : TypeId × Value → H) :
 ReturnsInHanded {} Tryz.checked os 5 .any (Rows.syntaxParsesSpec.pre6 enc Tryz.prog Tryz.f5 Rows.syntaxParsesRow.domain false) (Rows.syntaxParsesSpec.post enc Tryz.prog Tryz.f5 false true false false) := by
 refine returnsInHanded_of_change_sized (C := Tryz.checked) own started (by kernel_rfl) Tryz.func5
  (ChangeSpec.witness6 (enc := enc) (C := Tryz.checked) false ⟨#[], #[.string ByteArray.empty], []⟩ 8 (by kernel_rfl) (by kernel_rfl) (by kernel_rfl) (by kernel_rfl)) ?_
 intro W base args ds gs before hval0 hW hcnd hsz0 _
 have hval : ∀ (j : Nat) t v, Tryz.f5.params[j]? = some t → args[j]? = some v → Value.okWide Tryz.prog W .any base t v := hval0
 have hW' := hW
 obtain ⟨p, q, hA0, hV, rfl, hfz, hnd⟩ := hW
 have hA : DataW.TrodAll enc Tryz.prog W 0 (fun _ => true) true Tryz.f5.params.toList args.toList ds p := hA0
 have hsz : (DataW.weightsEach Tryz.prog (Tryz.f5.params.toList ++ Rows.syntaxParsesSpec.plain.varTypes Tryz.prog) (ds ++ gs)).all (· ≤ reachBytes) = true := hsz0
 rw [Tryz.params5] at hA hval hsz
 obtain ⟨v0, vs0, d0, ds0, p0, q0, hargs, rfl, rfl, h0, r0⟩ := trodAll_cons hA
 obtain ⟨rfl, rfl, rfl⟩ := trodAll_nil r0
 obtain rfl : args = #[v0] := by cases args; simp_all
 obtain ⟨rfl, rfl⟩ := trodVars_none hV
 obtain ⟨a0, rfl, rfl, rfl, w0⟩ := open_string Tryz.underlying9 (hval 0 9 v0 rfl rfl) h0
 have sz0 : a0.size ≤ 140737488351232 := by have := sized_string hsz (j := 0) (t := 9) rfl rfl; simpa [reachBytes] using this
 clear hA0 hval0
 refine (synParses_walk a0 sz0 W).mono fun e W' ⟨he, bel⟩ => ?_
 subst he
 exact ⟨_, rfl, _, _, _, [], _, [], hW', trodAll_mk1 (shut_bool Tryz.underlying4 _), (trodAll_cons_mk (shut_string Tryz.underlying9 w0) trodAll_mk0), rfl, bel.frame _, fun h => by cases h⟩
theorem inPlace_t : (Rows.syntaxParsesRow.inPlace == Tryz.prog.inPlace 5) = true := by kernel_rfl
theorem unfollowed_t : (Rows.syntaxParsesRow.unfollowed == Tryz.prog.unfollowed 5) = true := by kernel_rfl
theorem recurses_t : (Rows.syntaxParsesRow.recurses == Tryz.prog.recurses 5) = true := by kernel_rfl
theorem named_t : (Rows.syntaxParsesRow.named == Tryz.prog.varsNamed 5) = true := by kernel_rfl
theorem closed : joinedFacts Tryz.pinned.checked.prog 5 Tryz.f5 Rows.syntaxParsesSpec Rows.syntaxParsesRow = true :=
 and_t (and_t (and_t (and_t (and_t (and_t (and_t (and_t (and_t (and_t (and_t (and_t (and_t (and_t (and_t (and_t (and_t (and_t (and_t (and_t (and_t (and_t (and_t (and_t (and_t (and_t (and_t (and_t (and_t (and_t (and_t (by kernel_rfl) laidOut_t) mapsRowed_t) (by kernel_rfl)) (by kernel_rfl)) (by kernel_rfl)) stops_t) (by kernel_rfl)) stopKnobs_t) inPlace_t) unfollowed_t) recurses_t) named_t) (by kernel_rfl)) (by kernel_rfl)) (by kernel_rfl)) (by kernel_rfl)) (by kernel_rfl)) (by kernel_rfl)) (by kernel_rfl)) (by kernel_rfl)) (by kernel_rfl)) plainKeys_t) (by kernel_rfl)) stopsHeard_t) mayEnter_t) lifts_t) make_t) (by kernel_rfl)) (by kernel_rfl)) (by kernel_rfl)) (by kernel_rfl)
theorem over : Rows.syntaxParsesRow.holds Tryz.pinned (OpenSpec.ofChange Rows.syntaxParsesSpec) :=
 OpenClaim.holds_of_wide 5 Tryz.f5 rfl rfl rfl rfl rfl rfl rfl ⟨rfl, rfl, rfl, rfl, rfl⟩ rfl rfl rfl rfl rfl (by kernel_rfl) Tryz.func5 closed
  (of_decide_eq_true (by kernel_rfl)) (by unfold Func.isWrapper; first | (rw [if_pos (by decide +kernel)]; kernel_rfl) | (rw [if_neg (by decide +kernel)]; exact ⟨rfl, rfl⟩))
  (fun os started H enc _ => lifted os started H enc)
theorem proved : Rows.SyntaxParsesSaid := over
#print axioms proved
end Go.Proofs.YtldjakeigjngoaaGreat.syntaxParses