/- The walk of blindfoldlaw37.BlameNames. -/
import Derived.Test.YtldjakeigjngoaaDoorBlame2Q
set_option linter.unusedVariables false
set_option linter.unusedSimpArgs false
namespace Go.Proofs.YtldjakeigjngoaaDoor
open Go.RowKit Bf
theorem new_any (st e a : Int) (w : World) (h : (e == 0) = false) :
 Calls Tryd.prog 6 #[.int .i64 st, .agg #[.int .i64 e, .int .i64 a]] w fun e' w' => e' = .returned (.iface 35 (.pointer (some ⟨w.heap.size + 1, 0, none⟩)))
  ∧ (w.alloc (.cells #[.int .i64 e, .int .i64 a] 24)).alloc (.cells #[.int .i64 st, .int .i64 e, .int .i64 a] 26) = w' := by
 go_enter Tryd.func6, Tryd.ntmps6
 go_wp2
 go_ret
 exact ⟨rfl, rfl⟩
theorem ta_err (a : Addr) (w : World) : (Instr.typeAssert (.iface 35 (.pointer (some a))) 28 35 true).run Tryd.prog w = .ok (.tuple #[.pointer (some a), .bool true]) w := by kernel_rfl
attribute [go_sem] ta_err
set_option maxRecDepth 20000 in
theorem say_err (b : Nat) (st e a : Int) (w : World) (ha : -9223372036854775808 ≤ a ∧ a ≤ 9223372036854775807) (hb : b < w.heap.size) (h1 : w.cell? ⟨b, 0, none⟩ = some (.int .i64 st)) (h2 : w.cell? ⟨b, 1, none⟩ = some (.int .i64 e)) (h3 : w.cell? ⟨b, 2, none⟩ = some (.int .i64 a)) :
 Calls Tryd.prog 8 #[.iface 35 (.pointer (some ⟨b, 0, none⟩))] w fun e' w' => e' = .returned (.string (errB st e a)) ∧ Below w.heap.size w w' := by
 go_enter Tryd.func8, Tryd.ntmps8
 go_wp2_with (go_at_call 11; refine (error_any b st e a _ ha hb h1 h2 h3).mono ?_; rintro e' w1 ⟨rfl, hb1⟩)
 go_ret
 exact ⟨rfl, hb1⟩
theorem err247 : ((errB 2 4 7).toList == [115, 121, 110, 116, 97, 120, 58, 32, 116, 111, 107, 101, 110, 32, 97, 116, 32, 55]) = true := by
 have : putL 7 = [55] := by rw [putL_lt 7 (by omega) (by omega)]; decide
 have h2 : putB 7 = ⟨#[55]⟩ := by unfold putB; rw [this]
 unfold errB; rw [h2, ByteArray.toList_eq]; decide
set_option maxRecDepth 20000 in
theorem lives37_any (w : World) :
 Calls Tryd.prog 10 #[] w fun e w' => e = .returned (.bool true) ∧ Below w.heap.size w w' := by
 have hq := err247
 go_enter Tryd.func10, Tryd.ntmps10
 go_wp2_with fail
 refine (new_any 2 4 7 _ (by decide)).mono ?_
 rintro e w1 ⟨rfl, rfl⟩
 go_wp2_with fail
 refine (say_err (w.heap.size + 1) 2 4 7 _ (by omega) (by simp) (by simp [go_sem]) (by simp [go_sem]) (by simp [go_sem])).mono ?_
 rintro e w1 ⟨rfl, hb⟩
 go_wp2
 go_ret
 refine ⟨by rfl, ?_⟩
 repeat (first | exact Below.refl _ _ | refine bl_alloc ?_ _ | refine Below.drew ?_ | refine bl_drewN ?_ _ | refine bl_set ?_ (by first | (simp; done) | (simp; omega)) _ | refine bl_step ?_ (by assumption))
end Go.Proofs.YtldjakeigjngoaaDoor