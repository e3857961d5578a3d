/- BTR: texts of this proof, joined by program: RTok, RTok2, WalkTokens. -/
import Derived.Test.YtldjakeigjngoaaBTK
import Derived.Test.YtldjakeigjngoaaNamesQ
import Derived.Test.YtldjakeigjngoaaEscQ
import Derived.Test.YtldjakeigjngoaaBUB
import Derived.Test.YtldjakeigjngoaaBPL
import Derived.Test.YtldjakeigjngoaaBEN
import Derived.Test.YtldjakeigjngoaaBEX
import Derived.Test.YtldjakeigjngoaaBU3
import Derived.Test.YtldjakeigjngoaaBUA
import Derived.Test.YtldjakeigjngoaaBPI
/- Contracts: the reference's marks, tokens, and all tokens of a text. -/
set_option linter.unusedVariables false
set_option linter.unusedSimpArgs false
namespace Go.Proofs.Ytldjakeigjngoaa
open Go.RowKit Bf
end Go.Proofs.Ytldjakeigjngoaa
/- Contracts: the reference cuts a text; rows of tokens are the same. -/
namespace Go.Proofs.Ytldjakeigjngoaa
open Go.RowKit Bf
structure RkSt where
 i : Int
 p : Option Addr
 q : Nat
 acc : List TokT
 b : Bool
instance : KS Try.prog 131 [.i .i64, .i .i64, .i .i64, .s, .i .i64] := ⟨by kernel_rfl, by kernel_rfl, by kernel_rfl⟩
end Go.Proofs.Ytldjakeigjngoaa
/- The walks of blindfoldlaw13.TokensScans and TokensMarks. -/
namespace Go.Proofs.Ytldjakeigjngoaa
open Go.RowKit Bf
def scanF : Nat → List UInt8 → Nat → Option (List TokT × Int × Int)
 | 0, _, _ => none
 | f + 1, s, i => if s.length ≤ i then some ([(0, (i : Int), (i : Int), [], 0)], 0, 0) else if blankB (bt s i) = true then scanF f s (i + 1) else if bt s i = 59 then none
  else if (tokA s i).2.1 ≠ 0 then some ([], (tokA s i).2.1, (tokA s i).2.2) else if (i : Int) < (tokA s i).1.2.2.1 then (scanF f s (tokA s i).1.2.2.1.toNat).map (comb [(tokA s i).1]) else none
theorem scanF_ok : ∀ (f : Nat) (s : List UInt8) (i : Nat) (r : List TokT × Int × Int), scanF f s i = some r → scanT s i = r := by
 intro f
 induction f with
 | zero => intro s i r h; cases h
 | succ f ih =>
  intro s i r h
  unfold scanF at h
  by_cases h0 : s.length ≤ i
  · rw [if_pos h0] at h; cases h; exact scanT_end s i h0
  · rw [if_neg h0] at h
    by_cases hb : blankB (bt s i) = true
    · rw [if_pos hb] at h; rw [scanT_blank s i (by omega) hb]; exact ih s (i + 1) r h
    · rw [if_neg hb] at h
      have hb' : blankB (bt s i) = false := by simpa using hb
      by_cases h59 : bt s i = 59
      · rw [if_pos h59] at h; cases h
      · rw [if_neg h59] at h
        obtain ⟨t, e, p, ht⟩ := trip (tokA s i)
        rw [ht] at h
        by_cases he : e = 0
        · subst he
          rw [if_neg (by simp)] at h
          by_cases hlt : (i : Int) < t.2.2.1
          · rw [if_pos hlt] at h
            obtain ⟨r', h1, h2⟩ := Option.map_eq_some_iff.1 h
            rw [scanT_tok s i (by omega) hb' h59 ht hlt, ih s _ r' h1, h2]
          · rw [if_neg hlt] at h; cases h
        · rw [if_pos he] at h; cases h; exact scanT_tokbad s i (by omega) hb' h59 ht he
theorem scanR_of {s : List UInt8} {r : List TokT × Int × Int} (hs : s.length ≤ 65536) (f : Nat) (h : scanF f s 0 = some r) : scanR s = r := by
 unfold scanR; rw [if_neg (by omega)]; exact scanF_ok f s 0 r h
instance : KS Try.prog 24 [.i .i64, .i .i64] := ⟨by kernel_rfl, by kernel_rfl, by kernel_rfl⟩
theorem scanT_count (s : List UInt8) : ∀ (m i : Nat), s.length - i ≤ m → ((scanT s i).1.length : Int) ≤ (s.length - i : Nat) + 1 := by
 intro m
 induction m with
 | zero => intro i h; rw [scanT_end s i (by omega)]; simp only [List.length_singleton]; omega
 | succ m ih =>
  intro i h
  by_cases h0 : s.length ≤ i
  · rw [scanT_end s i h0]; simp only [List.length_singleton]; omega
  · by_cases hb : blankB (bt s i) = true
    · rw [scanT_blank s i (by omega) hb]; have := ih (i + 1) (by omega); omega
    · have hb' : blankB (bt s i) = false := by simpa using hb
      by_cases h59 : bt s i = 59
      · obtain ⟨n, e, hr⟩ : ∃ n e, remL (s.drop i) = (n, e) := ⟨_, _, rfl⟩
        by_cases he : e = 0
        · subst he
          have hn := remL_semi (s.drop i) (by rw [bt_dropZ]; exact h59) (drop_neN s i (by omega))
          rw [hr] at hn
          rw [scanT_rem s i (by omega) h59 hr hn]; have := ih (i + n) (by simp only at hn; omega); simp only at hn; omega
        · rw [scanT_rembad s i (by omega) h59 hr he]; simp only [List.length_nil]; omega
      · obtain ⟨t, e, p, ht⟩ := trip (tokA s i)
        by_cases he : e = 0
        · subst he
          have hbd := (tokA_bd s i (by omega) ht).1 rfl
          rw [scanT_tok s i (by omega) hb' h59 ht hbd.2.2.1]
          unfold comb
          split
          · have := ih t.2.2.1.toNat (by omega)
            simp only [List.length_append, List.length_singleton]
            omega
          · simp only [List.length_nil]; omega
        · rw [scanT_tokbad s i (by omega) hb' h59 ht he]; simp only [List.length_nil]; omega
end Go.Proofs.Ytldjakeigjngoaa