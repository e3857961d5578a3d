/- Contracts: an error's text. -/
import Derived.Test.YtldjakeigjngoaaDoorBlameQ
import Derived.Test.YtldjakeigjngoaaDoorWalkDigitsBackQ
import Derived.Deep.RegionHeld3
set_option linter.unusedVariables false
set_option linter.unusedSimpArgs false
namespace Go.Proofs.YtldjakeigjngoaaDoor
open Go.RowKit Bf
def errB (st e a : Int) : ByteArray := stageB st ++ ⟨#[58, 32]⟩ ++ codeB e ++ ⟨#[32, 97, 116, 32]⟩ ++ putB a
theorem err_keep {b : Nat} {st e a : Int} {w0 W w' : World} (h : W.cell? ⟨b, 0, none⟩ = some (.int .i64 st) ∧ W.cell? ⟨b, 1, none⟩ = some (.int .i64 e) ∧ W.cell? ⟨b, 2, none⟩ = some (.int .i64 a) ∧ b < W.heap.size ∧ Below w0.heap.size w0 W) (hb : Below W.heap.size W w') :
 w'.cell? ⟨b, 0, none⟩ = some (.int .i64 st) ∧ w'.cell? ⟨b, 1, none⟩ = some (.int .i64 e) ∧ w'.cell? ⟨b, 2, none⟩ = some (.int .i64 a) ∧ b < w'.heap.size ∧ Below w0.heap.size w0 w' := by
 obtain ⟨h1, h2, h3, h4, h5⟩ := h
 exact ⟨by rw [hb.cell (p := ⟨b, 0, none⟩) h4]; exact h1, by rw [hb.cell (p := ⟨b, 1, none⟩) h4]; exact h2, by rw [hb.cell (p := ⟨b, 2, none⟩) h4]; exact h3, Nat.lt_of_lt_of_le h4 hb.size, bl_step h5 hb⟩
set_option maxRecDepth 20000 in
set_option maxHeartbeats 1000000 in
theorem error_any (b : Nat) (st e a : Int) (w : World) (ha : -9223372036854775808 ≤ a ∧ a ≤ 9223372036854775807) (hb : b < w.heap.size) (h1 : w.cell? ⟨b, 0, none⟩ = some (.int .i64 st)) (h2 : w.cell? ⟨b, 1, none⟩ = some (.int .i64 e)) (h3 : w.cell? ⟨b, 2, none⟩ = some (.int .i64 a)) :
 Calls Tryd.prog 11 #[.pointer (some ⟨b, 0, none⟩)] w fun e' w' => e' = .returned (.string (errB st e a)) ∧ Below w.heap.size w w' := by
 have s1 := stageB_size st
 have s2 := codeB_size e
 have s3 : (putB a).size ≤ 20 := by rw [putB_size]; exact putL_len a ha
 have c2 : (ByteArray.mk #[58, 32]).size = 2 := rfl
 have c4 : (ByteArray.mk #[32, 97, 116, 32]).size = 4 := rfl
 have k1 : ∀ W : World, (Op.stringOp .add (stageB st) ⟨#[58, 32]⟩).run Tryd.prog W = .ok (.string (stageB st ++ ⟨#[58, 32]⟩)) W := fun W => run_string_add_sum W _ _ (by omega)
 have k2 : ∀ W : World, (Op.stringOp .add (stageB st ++ ⟨#[58, 32]⟩) (codeB e)).run Tryd.prog W = .ok (.string (stageB st ++ ⟨#[58, 32]⟩ ++ codeB e)) W := fun W => run_string_add_sum W _ _ (by simp only [ByteArray.size_append]; omega)
 have k3 : ∀ W : World, (Op.stringOp .add (stageB st ++ ⟨#[58, 32]⟩ ++ codeB e) ⟨#[32, 97, 116, 32]⟩).run Tryd.prog W = .ok (.string (stageB st ++ ⟨#[58, 32]⟩ ++ codeB e ++ ⟨#[32, 97, 116, 32]⟩)) W := fun W => run_string_add_sum W _ _ (by simp only [ByteArray.size_append]; omega)
 have k4 : ∀ W : World, (Op.stringOp .add (stageB st ++ ⟨#[58, 32]⟩ ++ codeB e ++ ⟨#[32, 97, 116, 32]⟩) (putB a)).run Tryd.prog W = .ok (.string (stageB st ++ ⟨#[58, 32]⟩ ++ codeB e ++ ⟨#[32, 97, 116, 32]⟩ ++ putB a)) W := fun W => run_string_add_sum W _ _ (by simp only [ByteArray.size_append]; omega)
 clear c2 c4 s1 s2 s3
 go_enter Tryd.func11, Tryd.ntmps11
 go_wp2
 go_region_held3 (fun w' => w'.cell? ⟨b, 0, none⟩ = some (.int .i64 st) ∧ w'.cell? ⟨b, 1, none⟩ = some (.int .i64 e) ∧ w'.cell? ⟨b, 2, none⟩ = some (.int .i64 a) ∧ b < w'.heap.size ∧ Below w.heap.size w w') (first | assumption | exact ⟨by simpa using h1, by simpa using h2, by simpa using h3, by simpa using hb, (Below.refl _ _).drew⟩ | exact ⟨by assumption, by assumption, by assumption, by assumption, by assumption⟩ | exact err_keep (by assumption) (by assumption) | exact err_keep ⟨by assumption, by assumption, by assumption, by assumption, by assumption⟩ (by assumption)) (first | (go_at_call 30; refine (stage_any _ _).mono ?_; rintro e w1 ⟨rfl, hb1⟩) | (go_at_call 29; refine (code_any _ _).mono ?_; rintro e w1 ⟨rfl, hb1⟩) | (go_at_call 31; refine (putb_any _ _ ha).mono ?_; rintro e w1 ⟨rfl, hb1⟩))
 go_wp2
 rename_i hH
 go_ret
 exact ⟨rfl, hH.2.2.2.2⟩
end Go.Proofs.YtldjakeigjngoaaDoor