/- BBA: texts of this proof, joined by program: Base, Base2, Run, Mem. -/
import Derived.Test.YtldjakeigjngoaaDoorRows
import Derived.Test.YtldjakeigjngoaaDoorBPL
import Derived.WalkKit
import Derived.WalkSpells
import Derived.WalkLawsBesides
import Derived.Lib.Hide
import Derived.Outline
import Derived.RegionTactic
import Derived.OwnWalk
import Derived.Laws.AppendOwn
import Derived.OpenShut
/- Small laws of the walk that all texts here share: worlds that grew, strings of bytes. -/
set_option linter.unusedVariables false
set_option linter.unusedSimpArgs false
namespace Go.Proofs.YtldjakeigjngoaaDoor
open Go.RowKit Bf
theorem bfacts {W w1 : World} (hb : Below W.heap.size W w1) : (∀ b o, b < W.heap.size → w1.cell? ⟨b, o, none⟩ = W.cell? ⟨b, o, none⟩) ∧ (∀ b o, b < W.heap.size → w1.frozen? ⟨b, o, none⟩ = W.frozen? ⟨b, o, none⟩) ∧ (∀ b, b < W.heap.size → b < w1.heap.size) ∧ (∀ b, b ≤ W.heap.size → b ≤ w1.heap.size) ∧ (∀ b, b < W.heap.size → b ≤ w1.heap.size) :=
 ⟨fun b o h => hb.cell (p := ⟨b, o, none⟩) h, fun b o h => hb.frozen (p := ⟨b, o, none⟩) h, fun b h => Nat.lt_of_lt_of_le h hb.size, fun b h => Nat.le_trans h hb.size, fun b h => Nat.le_trans (Nat.le_of_lt h) hb.size⟩
theorem bl_step {w W w' : World} (h : Below w.heap.size w W) (h' : Below W.heap.size W w') : Below w.heap.size w w' := h.trans (h'.mono h.size)
theorem bl_alloc {w W : World} (h : Below w.heap.size w W) (o : Obj) : Below w.heap.size w (W.alloc o) := h.alloc h.size o
theorem bl_set {w W : World} (h : Below w.heap.size w W) {p : Addr} (hp : w.heap.size ≤ p.block) (u : Value) : Below w.heap.size w (W.setCell p u) := h.setCell hp u
theorem bl_drewN {w W : World} (h : Below w.heap.size w W) (n : Nat) : Below w.heap.size w (W.drewN n) := ⟨h.os, h.tape, h.output, h.size, h.block⟩
theorem mk_append (a b : List UInt8) : (ByteArray.mk a.toArray) ++ (ByteArray.mk b.toArray) = ⟨(a ++ b).toArray⟩ := by
 apply ByteArray.ext; simp
theorem foldl_push_ints : ∀ (l : List Int) (r : ByteArray), l.foldl (fun r n => r.push (UInt8.ofNat n.toNat)) r = ⟨r.data ++ (l.map fun n => UInt8.ofNat n.toNat).toArray⟩
 | [], r => by simp
 | b :: l, r => by
  simp only [List.foldl_cons]
  rw [foldl_push_ints l]
  simp [ByteArray.push]
theorem conv_row {P : Program} (w : World) (src dst e : TypeId) (ns : List Int) (n c : Nat) (hn : n = ns.length) (hs : P.underlying src = some (.slice e)) (he : P.underlying e = some (.int .u8)) (hd : P.underlying dst = some .string) :
 (convert src dst (.slice (some ⟨w.heap.size, 0, none⟩) n c)).run P (w.alloc (.cells (ns.map (Value.int .u8)).toArray e)) = .ok (.string ⟨(ns.map fun n => UInt8.ofNat n.toNat).toArray⟩) (w.alloc (.cells (ns.map (Value.int .u8)).toArray e)) := by
 subst hn
 rw [run_convert_bytes_string _ src dst e _ _ _ hs he hd]
 have hl := run_loadCells_list (P := P) (w.alloc (.cells (ns.map (Value.int .u8)).toArray e)) ⟨w.heap.size, 0, none⟩ (ns.map (Value.int .u8)) (fun j v hj => by
  have : (⟨w.heap.size, 0, none⟩ : Addr).add j = ⟨w.heap.size, j, none⟩ := by simp [Addr.add]; intro h; exact h.symm
  rw [this, World.cell?_alloc_mark]
  simpa using hj)
 simp only [List.length_map] at hl
 rw [run_bytesToString _ _ ns.length c ns hl, foldl_push_ints]
 have he0 : ByteArray.empty.data = #[] := rfl
 rw [he0]; simp
theorem conv1 (w : World) (a : Int) (c : Nat) : (convert 87 9 (.slice (some ⟨w.heap.size, 0, none⟩) 1 c)).run Tryd.prog (w.alloc (.cells #[.int .u8 a] 5)) = .ok (.string ⟨#[UInt8.ofNat a.toNat]⟩) (w.alloc (.cells #[.int .u8 a] 5)) :=
 conv_row w _ _ _ [a] 1 c rfl Tryd.underlying87 Tryd.underlying5 Tryd.underlying9
theorem conv2 (w : World) (a b : Int) (c : Nat) : (convert 87 9 (.slice (some ⟨w.heap.size, 0, none⟩) 2 c)).run Tryd.prog (w.alloc (.cells #[.int .u8 a, .int .u8 b] 5)) = .ok (.string ⟨#[UInt8.ofNat a.toNat, UInt8.ofNat b.toNat]⟩) (w.alloc (.cells #[.int .u8 a, .int .u8 b] 5)) :=
 conv_row w _ _ _ [a, b] 2 c rfl Tryd.underlying87 Tryd.underlying5 Tryd.underlying9
theorem conv3 (w : World) (a b d : Int) (c : Nat) : (convert 87 9 (.slice (some ⟨w.heap.size, 0, none⟩) 3 c)).run Tryd.prog (w.alloc (.cells #[.int .u8 a, .int .u8 b, .int .u8 d] 5)) = .ok (.string ⟨#[UInt8.ofNat a.toNat, UInt8.ofNat b.toNat, UInt8.ofNat d.toNat]⟩) (w.alloc (.cells #[.int .u8 a, .int .u8 b, .int .u8 d] 5)) :=
 conv_row w _ _ _ [a, b, d] 3 c rfl Tryd.underlying87 Tryd.underlying5 Tryd.underlying9
theorem conv4 (w : World) (a b d f : Int) (c : Nat) : (convert 87 9 (.slice (some ⟨w.heap.size, 0, none⟩) 4 c)).run Tryd.prog (w.alloc (.cells #[.int .u8 a, .int .u8 b, .int .u8 d, .int .u8 f] 5)) = .ok (.string ⟨#[UInt8.ofNat a.toNat, UInt8.ofNat b.toNat, UInt8.ofNat d.toNat, UInt8.ofNat f.toNat]⟩) (w.alloc (.cells #[.int .u8 a, .int .u8 b, .int .u8 d, .int .u8 f] 5)) :=
 conv_row w _ _ _ [a, b, d, f] 4 c rfl Tryd.underlying87 Tryd.underlying5 Tryd.underlying9
attribute [go_sem] conv1 conv2 conv3 conv4
end Go.Proofs.YtldjakeigjngoaaDoor
/- More small laws of the walk: 'string([]byte{..})' where the new row's number is spelled otherwise. -/
namespace Go.Proofs.YtldjakeigjngoaaDoor
open Go.RowKit Bf
theorem conv1g (w : World) (a : Int) (c n : Nat) (hn : n = w.heap.size) : (convert 87 9 (.slice (some ⟨n, 0, none⟩) 1 c)).run Tryd.prog (w.alloc (.cells #[.int .u8 a] 5)) = .ok (.string ⟨#[UInt8.ofNat a.toNat]⟩) (w.alloc (.cells #[.int .u8 a] 5)) := by
 subst hn; exact conv1 w a c
theorem conv2g (w : World) (a b : Int) (c n : Nat) (hn : n = w.heap.size) : (convert 87 9 (.slice (some ⟨n, 0, none⟩) 2 c)).run Tryd.prog (w.alloc (.cells #[.int .u8 a, .int .u8 b] 5)) = .ok (.string ⟨#[UInt8.ofNat a.toNat, UInt8.ofNat b.toNat]⟩) (w.alloc (.cells #[.int .u8 a, .int .u8 b] 5)) := by
 subst hn; exact conv2 w a b c
theorem conv3g (w : World) (a b d : Int) (c n : Nat) (hn : n = w.heap.size) : (convert 87 9 (.slice (some ⟨n, 0, none⟩) 3 c)).run Tryd.prog (w.alloc (.cells #[.int .u8 a, .int .u8 b, .int .u8 d] 5)) = .ok (.string ⟨#[UInt8.ofNat a.toNat, UInt8.ofNat b.toNat, UInt8.ofNat d.toNat]⟩) (w.alloc (.cells #[.int .u8 a, .int .u8 b, .int .u8 d] 5)) := by
 subst hn; exact conv3 w a b d c
theorem conv4g (w : World) (a b d f : Int) (c n : Nat) (hn : n = w.heap.size) : (convert 87 9 (.slice (some ⟨n, 0, none⟩) 4 c)).run Tryd.prog (w.alloc (.cells #[.int .u8 a, .int .u8 b, .int .u8 d, .int .u8 f] 5)) = .ok (.string ⟨#[UInt8.ofNat a.toNat, UInt8.ofNat b.toNat, UInt8.ofNat d.toNat, UInt8.ofNat f.toNat]⟩) (w.alloc (.cells #[.int .u8 a, .int .u8 b, .int .u8 d, .int .u8 f] 5)) := by
 subst hn; exact conv4 w a b d f c
attribute [go_sem] conv1g conv2g conv3g conv4g
end Go.Proofs.YtldjakeigjngoaaDoor
/- Running closed code: a function that carries out what needs no choice, and that what it gives is what the call gives. -/
namespace Go.Proofs.YtldjakeigjngoaaDoor
open Go.RowKit Bf
end Go.Proofs.YtldjakeigjngoaaDoor
/- Slices: what a slice reads as, what a call's own row holds; append of one cell. -/
namespace Go.Proofs.YtldjakeigjngoaaDoor
open Go.RowKit Bf
def Rd (w : World) (v : Value) (n size : Nat) (xs : List Value) : Prop :=
 xs.length = n * size ∧ ((n = 0 ∧ ∃ a c, v = .slice a 0 c) ∨
  ∃ g off cap, v = .slice (some ⟨g, off, none⟩) n cap ∧ g < w.heap.size ∧ n ≤ cap ∧ cap ≤ maxLen ∧ ∀ j (h : j < xs.length), w.cell? ⟨g, off + j, none⟩ = some xs[j])
theorem Rd.below {w w' : World} {v : Value} {n size : Nat} {xs : List Value} (h : Rd w v n size xs) (hb : Below w.heap.size w w') : Rd w' v n size xs := by
 obtain ⟨h1, h2⟩ := h
 refine ⟨h1, ?_⟩
 rcases h2 with h2 | ⟨g, off, cap, hv, hg, hc, hm, hx⟩
 · exact Or.inl h2
 · exact Or.inr ⟨g, off, cap, hv, Nat.lt_of_lt_of_le hg hb.size, hc, hm, fun j hj => by rw [hb.cell (p := ⟨g, off + j, none⟩) hg]; exact hx j hj⟩
end Go.Proofs.YtldjakeigjngoaaDoor