/- blindfoldlaw30.FitsPieces in its second form: the pieces of a document are those that the chapter specifies, provided that the document has no more than 1,048,576 values and letters. -/
import Derived.Test.YtkaeihlpdceokaaWalkFitsQ
import Derived.Test.YtkaeihlpdceokaaBulkQ
import Derived.Test.YtkaeihlpdceokaaFactsQ
import Derived.ProofKit
import Derived.OpenShut
import Derived.ShutString
import Derived.ChangeOld
import Derived.Below
import Derived.SizedLaws
import Derived.JoinedCond
set_option linter.unusedVariables false
set_option linter.unusedSimpArgs false
namespace Go.Proofs.Ytkaeihlpdceokaa.fitsPieces
open Go.ChangeShapes Go.WideShapes Go.ChangeAt Go.RowKit
open Go.ChangeMaps (open_string shut_string)
theorem own : ownKnob Try.prog.godebug = none := own_t
theorem laidOut : laidOutB Try.prog = true := laidOut_t
set_option maxRecDepth 100000 in
theorem contract (H : Type) (enc : TypeId × Value → H) (W : World) (base : Nat) (args : Array Value) (ds gs : List (DataW H)) (before : List MemPlace)
 (hval0 : ∀ (j : Nat) t v, Try.f3.params[j]? = some t → args[j]? = some v → Value.okWide Try.prog W .any base t v)
 (hW : DataW.Whole enc Try.prog Try.f3.params.toList Rows.fitsPiecesSpec.vars false W args.toList ds gs before) (hcap : Rows.uptoSmall H (ds ++ gs) = true) :
 Calls Try.prog 3 args W fun e W' => ∃ v, e = .returned v ∧ Rows.fitsPiecesSpec.post enc Try.prog Try.f3 false true false false W args v W' := by
 have hval : ∀ (j : Nat) t v, Try.f3.params[j]? = some t → args[j]? = some v → Value.okWide Try.prog W .any base t v := hval0
 have hW' := hW
 obtain ⟨p, q, hA0, hV, rfl, hfz, hnd⟩ := hW
 have hA : DataW.TrodAll enc Try.prog W 0 (fun _ => true) true Try.f3.params.toList args.toList ds p := hA0
 rw [Try.params3] at hA hval
 obtain ⟨v0, vs0, d0, ds0, p0, q0, hargs, rfl, rfl, h0, r0⟩ := trodAll_cons hA
 obtain ⟨rfl, rfl, rfl⟩ := trodAll_nil r0
 obtain rfl : args = #[v0] := by cases args; simp_all
 obtain ⟨rfl, rfl⟩ := trodVars_none hV
 have hbulk : Rows.uptoBulkAll [d0] ≤ 1048576 := of_decide_eq_true hcap
 obtain ⟨cs0, rfl, hz0⟩ := okWide_struct Try.underlying24 (hval 0 24 v0 rfl rfl)
 have k0 := h0
 have lt0 : ∀ x ∈ p0, x.block < W.heap.size := by obtain ⟨m, hm⟩ := k0; exact DataW.trod_lt m _ _ _ hm
 obtain ⟨f0, hf0⟩ := h0
 obtain ⟨z0, hv0, ho0, hb0⟩ := open_docB _ (Nat.le_refl _) hf0
 obtain ⟨cl0⟩ := cs0
 have hv0 : cl0 = _ := hv0
 subst hv0
 clear hA0 hval0
 refine (fitsPieces_walk W z0 ho0.toJ (by simp only [Rows.uptoBulkAll] at hbulk; simp only at hb0; omega)).mono fun e W' ⟨he, bel⟩ => ?_
 subst he
 exact ⟨_, rfl, _, _, _, [], _, [], hW', trodAll_mk1 (shut_bool Try.underlying4 _), (trodAll_cons_mk (Below.trod laidOut (by kernel_rfl) (of_decide_eq_true (by kernel_rfl)) k0 bel lt0) trodAll_mk0), rfl, bel.frame _, fun h => by cases h⟩
set_option maxRecDepth 100000 in
theorem lifted (os : Os) (started : os.Started) (H : Type) (enc : TypeId × Value → H) (F : Stop.Interp) :
 ReturnsInHanded {} Try.checked os 3 .any ((Rows.OpenSpec.upto Rows.fitsPiecesSpec).pre6 enc Try.prog Try.f3 Rows.fitsPiecesUptoRow.domain false) (((Rows.OpenSpec.upto Rows.fitsPiecesSpec).at F).post enc Try.prog Try.f3 false true false false) := by
 refine returnsInHanded_of_cond (C := Try.checked) (s := Rows.OpenSpec.upto Rows.fitsPiecesSpec) (k := Rows.uptoSmall) rfl own started (by kernel_rfl) Try.func3
  (OpenSpec.witness (enc := enc) (C := Try.checked) (s := Rows.OpenSpec.upto Rows.fitsPiecesSpec) (k := Rows.uptoSmall) rfl false ⟨#[], #[.agg #[.int .i64 0, .int .i64 0, .string ByteArray.empty, .slice none 0 0]], []⟩ 8 (by kernel_rfl) (by kernel_rfl) (by kernel_rfl)
    (x := ([.agg [.lit (.int .i64 0), .lit (.int .i64 0), .lit (.string []), .nil]], [], [])) (by kernel_rfl) rfl (by kernel_rfl)) ?_
 intro W base args ds gs before hval hW _ hcap _
 exact contract H enc W base args ds gs before hval hW hcap
theorem inPlace_t : (Rows.fitsPiecesUptoRow.inPlace == Try.prog.inPlace 3) = true := by kernel_rfl
theorem unfollowed_t : (Rows.fitsPiecesUptoRow.unfollowed == Try.prog.unfollowed 3) = true := by kernel_rfl
theorem recurses_t : (Rows.fitsPiecesUptoRow.recurses == Try.prog.recurses 3) = true := by kernel_rfl
theorem named_t : (Rows.fitsPiecesUptoRow.named == Try.prog.varsNamed 3) = true := by kernel_rfl
theorem closed : joinedFacts Try.pinned.checked.prog 3 Try.f3 (Rows.OpenSpec.upto Rows.fitsPiecesSpec).bare Rows.fitsPiecesUptoRow = true :=
 and_t (and_t (and_t (and_t (and_t (and_t (and_t (and_t (and_t (and_t (and_t (and_t (and_t (and_t (and_t (and_t (and_t (and_t (and_t (and_t (and_t (and_t (and_t (and_t (and_t (and_t (and_t (and_t (and_t (and_t (and_t (by kernel_rfl) laidOut_t) mapsRowed_t) (by kernel_rfl)) (by kernel_rfl)) (by kernel_rfl)) stops_t) (by kernel_rfl)) stopKnobs_t) inPlace_t) unfollowed_t) recurses_t) named_t) (by kernel_rfl)) (by kernel_rfl)) (by kernel_rfl)) (by kernel_rfl)) (by kernel_rfl)) (by kernel_rfl)) (by kernel_rfl)) (by kernel_rfl)) (by kernel_rfl)) plainKeys_t) (by kernel_rfl)) stopsHeard_t) mayEnter_t) lifts_t) make_t) (by kernel_rfl)) (by kernel_rfl)) (by kernel_rfl)) (by kernel_rfl)
theorem over : Rows.fitsPiecesUptoRow.holds Try.pinned (Rows.OpenSpec.upto Rows.fitsPiecesSpec) :=
 OpenClaim.holds_of_cond 3 Try.f3 rfl rfl rfl rfl rfl rfl rfl ⟨rfl, rfl, rfl, rfl, rfl⟩ rfl rfl rfl rfl rfl (by kernel_rfl) Try.func3 closed
  (of_decide_eq_true (by kernel_rfl)) (by unfold Func.isWrapper; first | (rw [if_pos (by decide +kernel)]; kernel_rfl) | (rw [if_neg (by decide +kernel)]; exact ⟨rfl, rfl⟩))
  (fun os started H enc _ F => lifted os started H enc F)
theorem proved : Rows.FitsPiecesUptoSaid := over
#print axioms proved
end Go.Proofs.Ytkaeihlpdceokaa.fitsPieces