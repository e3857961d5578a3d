/- Contracts: names of stages and codes, of the program and of the reference. -/
import Derived.Test.YtldjakeigjngoaaDoorBBA
import Derived.Test.YtldjakeigjngoaaDoorPlainBlameQ
set_option linter.unusedVariables false
set_option linter.unusedSimpArgs false
namespace Go.Proofs.YtldjakeigjngoaaDoor
open Go.RowKit Bf
set_option maxRecDepth 50000 in
set_option maxHeartbeats 4000000 in
theorem stage_any (n : Int) (w : World) : Calls Tryd.prog 30 #[.int .i64 n] w fun e w' => e = .returned (.string (stageB n)) ∧ Below w.heap.size w w' := by
 by_cases h1 : n < 1
 · have HR := Lib.hid (stageB_out n (Or.inl h1))
   go_enter Tryd.func30, Tryd.ntmps30
   go_wp2
   go_ret
   refine ⟨by rw [HR.out]; rfl, ?_⟩
   repeat (first | exact Below.refl _ _ | refine bl_alloc ?_ _ | refine Below.drew ?_ | refine bl_drewN ?_ _ | refine bl_set ?_ (by first | (simp; done) | (simp; omega)) _ | refine bl_step ?_ (by assumption))
 by_cases h2 : 10 < n
 · have HR := Lib.hid (stageB_out n (Or.inr h2))
   go_enter Tryd.func30, Tryd.ntmps30
   go_wp2
   go_ret
   refine ⟨by rw [HR.out]; rfl, ?_⟩
   repeat (first | exact Below.refl _ _ | refine bl_alloc ?_ _ | refine Below.drew ?_ | refine bl_drewN ?_ _ | refine bl_set ?_ (by first | (simp; done) | (simp; omega)) _ | refine bl_step ?_ (by assumption))
 rcases (by omega : n = 1 ∨ n = 2 ∨ n = 3 ∨ n = 4 ∨ n = 5 ∨ n = 6 ∨ n = 7 ∨ n = 8 ∨ n = 9 ∨ n = 10) with rfl | rfl | rfl | rfl | rfl | rfl | rfl | rfl | rfl | rfl
 all_goals (
  clear h1 h2
  go_enter Tryd.func30, Tryd.ntmps30
  go_wp2
  go_ret
  refine ⟨by rfl, ?_⟩
  repeat (first | exact Below.refl _ _ | refine bl_alloc ?_ _ | refine Below.drew ?_ | refine bl_drewN ?_ _ | refine bl_set ?_ (by first | (simp; done) | (simp; omega)) _ | refine bl_step ?_ (by assumption))
  )
set_option maxRecDepth 50000 in
set_option maxHeartbeats 4000000 in
theorem code_any (n : Int) (w : World) : Calls Tryd.prog 29 #[.int .i64 n] w fun e w' => e = .returned (.string (codeB n)) ∧ Below w.heap.size w w' := by
 by_cases h1 : n < 0
 · have HR := Lib.hid (codeB_out n (Or.inl h1))
   go_enter Tryd.func29, Tryd.ntmps29
   go_wp2
   go_ret
   refine ⟨by rw [HR.out]; rfl, ?_⟩
   repeat (first | exact Below.refl _ _ | refine bl_alloc ?_ _ | refine Below.drew ?_ | refine bl_drewN ?_ _ | refine bl_set ?_ (by first | (simp; done) | (simp; omega)) _ | refine bl_step ?_ (by assumption))
 by_cases h2 : 20 < n
 · have HR := Lib.hid (codeB_out n (Or.inr h2))
   go_enter Tryd.func29, Tryd.ntmps29
   go_wp2
   go_ret
   refine ⟨by rw [HR.out]; rfl, ?_⟩
   repeat (first | exact Below.refl _ _ | refine bl_alloc ?_ _ | refine Below.drew ?_ | refine bl_drewN ?_ _ | refine bl_set ?_ (by first | (simp; done) | (simp; omega)) _ | refine bl_step ?_ (by assumption))
 rcases (by omega : n = 0 ∨ n = 1 ∨ n = 2 ∨ n = 3 ∨ n = 4 ∨ n = 5 ∨ n = 6 ∨ n = 7 ∨ n = 8 ∨ n = 9 ∨ n = 10 ∨ n = 11 ∨ n = 12 ∨ n = 13 ∨ n = 14 ∨ n = 15 ∨ n = 16 ∨ n = 17 ∨ n = 18 ∨ n = 19 ∨ n = 20) with rfl | rfl | rfl | rfl | rfl | rfl | rfl | rfl | rfl | rfl | rfl | rfl | rfl | rfl | rfl | rfl | rfl | rfl | rfl | rfl | rfl
 all_goals (
  clear h1 h2
  go_enter Tryd.func29, Tryd.ntmps29
  go_wp2
  go_ret
  refine ⟨by rfl, ?_⟩
  repeat (first | exact Below.refl _ _ | refine bl_alloc ?_ _ | refine Below.drew ?_ | refine bl_drewN ?_ _ | refine bl_set ?_ (by first | (simp; done) | (simp; omega)) _ | refine bl_step ?_ (by assumption))
  )
set_option maxRecDepth 50000 in
set_option maxHeartbeats 4000000 in
theorem rstage_any (n : Int) (w : World) : Calls Tryd.prog 32 #[.int .i64 n] w fun e w' => e = .returned (.string (stageB n)) ∧ Below w.heap.size w w' := by
 by_cases h1 : n < 1
 · have HR := Lib.hid (stageB_out n (Or.inl h1))
   go_enter Tryd.func32, Tryd.ntmps32
   go_wp2
   go_ret
   refine ⟨by rw [HR.out]; rfl, ?_⟩
   repeat (first | exact Below.refl _ _ | refine bl_alloc ?_ _ | refine Below.drew ?_ | refine bl_drewN ?_ _ | refine bl_set ?_ (by first | (simp; done) | (simp; omega)) _ | refine bl_step ?_ (by assumption))
 by_cases h2 : 10 < n
 · have HR := Lib.hid (stageB_out n (Or.inr h2))
   go_enter Tryd.func32, Tryd.ntmps32
   go_wp2
   go_ret
   refine ⟨by rw [HR.out]; rfl, ?_⟩
   repeat (first | exact Below.refl _ _ | refine bl_alloc ?_ _ | refine Below.drew ?_ | refine bl_drewN ?_ _ | refine bl_set ?_ (by first | (simp; done) | (simp; omega)) _ | refine bl_step ?_ (by assumption))
 rcases (by omega : n = 1 ∨ n = 2 ∨ n = 3 ∨ n = 4 ∨ n = 5 ∨ n = 6 ∨ n = 7 ∨ n = 8 ∨ n = 9 ∨ n = 10) with rfl | rfl | rfl | rfl | rfl | rfl | rfl | rfl | rfl | rfl
 all_goals (
  clear h1 h2
  go_enter Tryd.func32, Tryd.ntmps32
  go_wp2
  go_ret
  refine ⟨by rfl, ?_⟩
  repeat (first | exact Below.refl _ _ | refine bl_alloc ?_ _ | refine Below.drew ?_ | refine bl_drewN ?_ _ | refine bl_set ?_ (by first | (simp; done) | (simp; omega)) _ | refine bl_step ?_ (by assumption))
  )
set_option maxRecDepth 50000 in
set_option maxHeartbeats 4000000 in
theorem rcode_any (n : Int) (w : World) : Calls Tryd.prog 33 #[.int .i64 n] w fun e w' => e = .returned (.string (codeB n)) ∧ Below w.heap.size w w' := by
 by_cases h1 : n < 0
 · have HR := Lib.hid (codeB_out n (Or.inl h1))
   go_enter Tryd.func33, Tryd.ntmps33
   go_wp2
   go_ret
   refine ⟨by rw [HR.out]; rfl, ?_⟩
   repeat (first | exact Below.refl _ _ | refine bl_alloc ?_ _ | refine Below.drew ?_ | refine bl_drewN ?_ _ | refine bl_set ?_ (by first | (simp; done) | (simp; omega)) _ | refine bl_step ?_ (by assumption))
 by_cases h2 : 20 < n
 · have HR := Lib.hid (codeB_out n (Or.inr h2))
   go_enter Tryd.func33, Tryd.ntmps33
   go_wp2
   go_ret
   refine ⟨by rw [HR.out]; rfl, ?_⟩
   repeat (first | exact Below.refl _ _ | refine bl_alloc ?_ _ | refine Below.drew ?_ | refine bl_drewN ?_ _ | refine bl_set ?_ (by first | (simp; done) | (simp; omega)) _ | refine bl_step ?_ (by assumption))
 rcases (by omega : n = 0 ∨ n = 1 ∨ n = 2 ∨ n = 3 ∨ n = 4 ∨ n = 5 ∨ n = 6 ∨ n = 7 ∨ n = 8 ∨ n = 9 ∨ n = 10 ∨ n = 11 ∨ n = 12 ∨ n = 13 ∨ n = 14 ∨ n = 15 ∨ n = 16 ∨ n = 17 ∨ n = 18 ∨ n = 19 ∨ n = 20) with rfl | rfl | rfl | rfl | rfl | rfl | rfl | rfl | rfl | rfl | rfl | rfl | rfl | rfl | rfl | rfl | rfl | rfl | rfl | rfl | rfl
 all_goals (
  clear h1 h2
  go_enter Tryd.func33, Tryd.ntmps33
  go_wp2
  go_ret
  refine ⟨by rfl, ?_⟩
  repeat (first | exact Below.refl _ _ | refine bl_alloc ?_ _ | refine Below.drew ?_ | refine bl_drewN ?_ _ | refine bl_set ?_ (by first | (simp; done) | (simp; omega)) _ | refine bl_step ?_ (by assumption))
  )
end Go.Proofs.YtldjakeigjngoaaDoor