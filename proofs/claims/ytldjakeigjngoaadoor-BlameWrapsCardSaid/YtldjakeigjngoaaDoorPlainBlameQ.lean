/- Plain facts: names of stages and codes. -/
import Derived.Test.YtldjakeigjngoaaDoorBPL
set_option linter.unusedVariables false
set_option linter.unusedSimpArgs false
namespace Bf
def unkB : ByteArray := ⟨#[117, 110, 107, 110, 111, 119, 110]⟩
def stageT : List ByteArray := [⟨#[111, 112, 116, 105, 111, 110, 115]⟩, ⟨#[115, 121, 110, 116, 97, 120]⟩, ⟨#[114, 101, 115, 111, 108, 118, 101]⟩, ⟨#[105, 110, 104, 97, 98, 105, 116]⟩, ⟨#[101, 102, 102, 101, 99, 116]⟩, ⟨#[111, 98, 115, 101, 114, 118, 101, 114]⟩, ⟨#[118, 97, 108, 117, 101]⟩, ⟨#[116, 121, 112, 101]⟩, ⟨#[112, 114, 105, 110, 116]⟩, ⟨#[114, 101, 97, 100]⟩]
def codeT : List ByteArray := [⟨#[111, 107]⟩, ⟨#[97, 114, 103]⟩, ⟨#[117, 116, 102]⟩, ⟨#[99, 104, 97, 114]⟩, ⟨#[116, 111, 107, 101, 110]⟩, ⟨#[101, 110, 100]⟩, ⟨#[100, 101, 112, 116, 104]⟩, ⟨#[115, 105, 122, 101]⟩, ⟨#[109, 97, 110, 121]⟩, ⟨#[110, 97, 109, 101]⟩, ⟨#[116, 119, 105, 99, 101]⟩, ⟨#[108, 111, 111, 112]⟩, ⟨#[98, 111, 117, 110, 100]⟩, ⟨#[110, 117, 109, 98, 101, 114]⟩, ⟨#[116, 121, 112, 101]⟩, ⟨#[109, 105, 115, 115, 105, 110, 103]⟩, ⟨#[101, 115, 99, 97, 112, 101]⟩, ⟨#[108, 101, 118, 101, 108]⟩, ⟨#[102, 108, 111, 119]⟩, ⟨#[102, 111, 114, 109]⟩, ⟨#[114, 97, 110, 103, 101]⟩]
def stageB (n : Int) : ByteArray := if 1 ≤ n ∧ n ≤ 10 then stageT.getD (n - 1).toNat unkB else unkB
def codeB (n : Int) : ByteArray := if 0 ≤ n ∧ n ≤ 20 then codeT.getD n.toNat unkB else unkB
theorem stageB_out (n : Int) (h : n < 1 ∨ 10 < n) : stageB n = unkB := by unfold stageB; rw [if_neg (by omega)]
theorem codeB_out (n : Int) (h : n < 0 ∨ 20 < n) : codeB n = unkB := by unfold codeB; rw [if_neg (by omega)]
theorem stageB_size (n : Int) : (stageB n).size ≤ 10 := by
 by_cases h : n < 1 ∨ 10 < n
 · rw [stageB_out n h]; decide
 · rcases (by omega : n = 1 ∨ n = 2 ∨ n = 3 ∨ n = 4 ∨ n = 5 ∨ n = 6 ∨ n = 7 ∨ n = 8 ∨ n = 9 ∨ n = 10) with rfl | rfl | rfl | rfl | rfl | rfl | rfl | rfl | rfl | rfl <;> decide
theorem codeB_size (n : Int) : (codeB n).size ≤ 10 := by
 by_cases h : n < 0 ∨ 20 < n
 · rw [codeB_out n h]; decide
 · rcases (by omega : n = 0 ∨ n = 1 ∨ n = 2 ∨ n = 3 ∨ n = 4 ∨ n = 5 ∨ n = 6 ∨ n = 7 ∨ n = 8 ∨ n = 9 ∨ n = 10 ∨ n = 11 ∨ n = 12 ∨ n = 13 ∨ n = 14 ∨ n = 15 ∨ n = 16 ∨ n = 17 ∨ n = 18 ∨ n = 19 ∨ n = 20) with rfl | rfl | rfl | rfl | rfl | rfl | rfl | rfl | rfl | rfl | rfl | rfl | rfl | rfl | rfl | rfl | rfl | rfl | rfl | rfl | rfl <;> decide
end Bf