/- More small laws of the walk: 'string([]byte{..})' where the new row's number is spelled otherwise. -/
import Derived.Test.YtldjakeigjngoaaBaseQ
set_option linter.unusedVariables false
set_option linter.unusedSimpArgs false
namespace Go.Proofs.Ytldjakeigjngoaa
open Go.RowKit Bf
theorem conv1g (w : World) (a : Int) (c n : Nat) (hn : n = w.heap.size) : (convert 97 9 (.slice (some ⟨n, 0, none⟩) 1 c)).run Try.prog (w.alloc (.cells #[.int .u8 a] 5)) = .ok (.string ⟨#[UInt8.ofNat a.toNat]⟩) (w.alloc (.cells #[.int .u8 a] 5)) := by
  subst hn; exact conv1 w a c
theorem conv2g (w : World) (a b : Int) (c n : Nat) (hn : n = w.heap.size) : (convert 97 9 (.slice (some ⟨n, 0, none⟩) 2 c)).run Try.prog (w.alloc (.cells #[.int .u8 a, .int .u8 b] 5)) = .ok (.string ⟨#[UInt8.ofNat a.toNat, UInt8.ofNat b.toNat]⟩) (w.alloc (.cells #[.int .u8 a, .int .u8 b] 5)) := by
  subst hn; exact conv2 w a b c
theorem conv3g (w : World) (a b d : Int) (c n : Nat) (hn : n = w.heap.size) : (convert 97 9 (.slice (some ⟨n, 0, none⟩) 3 c)).run Try.prog (w.alloc (.cells #[.int .u8 a, .int .u8 b, .int .u8 d] 5)) = .ok (.string ⟨#[UInt8.ofNat a.toNat, UInt8.ofNat b.toNat, UInt8.ofNat d.toNat]⟩) (w.alloc (.cells #[.int .u8 a, .int .u8 b, .int .u8 d] 5)) := by
  subst hn; exact conv3 w a b d c
theorem conv4g (w : World) (a b d f : Int) (c n : Nat) (hn : n = w.heap.size) : (convert 97 9 (.slice (some ⟨n, 0, none⟩) 4 c)).run Try.prog (w.alloc (.cells #[.int .u8 a, .int .u8 b, .int .u8 d, .int .u8 f] 5)) = .ok (.string ⟨#[UInt8.ofNat a.toNat, UInt8.ofNat b.toNat, UInt8.ofNat d.toNat, UInt8.ofNat f.toNat]⟩) (w.alloc (.cells #[.int .u8 a, .int .u8 b, .int .u8 d, .int .u8 f] 5)) := by
  subst hn; exact conv4 w a b d f c
attribute [go_sem] conv1g conv2g conv3g conv4g
end Go.Proofs.Ytldjakeigjngoaa
