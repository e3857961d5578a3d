/- BEC: texts of this proof, joined by program: FaultIn, ErrorIn, StrsIn, ErrLaid. -/
import Derived.Test.YtldjakeigjngoaaDoorBEX
import Derived.Test.YtldjakeigjngoaaDoorBEB
import Derived.SizedLaws
import Derived.Test.YtldjakeigjngoaaDoorBEA
import Derived.Test.YtldjakeigjngoaaDoorRows
import Derived.Shelf.Vars
import Derived.LaidLaws
import Derived.LaidHandle
import Derived.Stop.Joined
/- A fault that a law is given. -/
set_option linter.unusedVariables false
set_option linter.unusedSimpArgs false
namespace Go.Proofs.YtldjakeigjngoaaDoor
open Go.RowKit Go.Deep
def fltV (z : Int × Int) : List Value := [.int .i64 z.1, .int .i64 z.2]
def FltOk (x : Int × Int) : Prop := (-9223372036854775808 ≤ x.1 ∧ x.1 ≤ 9223372036854775807) ∧ (-9223372036854775808 ≤ x.2 ∧ x.2 ≤ 9223372036854775807)
section
variable {H : Type} {enc : TypeId × Value → H} {w : World} {base : Nat} {spare : Nat → Bool} {held : Bool}
set_option maxRecDepth 20000 in
theorem open_fault {n : Nat} {cs : List Value} {y : DataW H × List MemPlace} (h : DataW.trod enc Tryd.prog w base spare held n 24 cs = some y) : ∃ z, cs = fltV z ∧ FltOk z := by
 obtain ⟨xs, m, _, _, hlen, hxl, hf⟩ := DataW.trod_struct Tryd.underlying24 h
 have hC : Tryd.prog.cellsOf 24 = 2 := by kernel_rfl
 rw [hC] at hlen
 match cs, hlen with
 | [v0, v1], _ =>
  have c0 : Tryd.prog.cellsOf 22 = 1 := by kernel_rfl
  have c1 : Tryd.prog.cellsOf 3 = 1 := by kernel_rfl
  have hx : ∀ i, i < 2 → ∃ y, xs[i]? = some y := fun i hi => ⟨xs[i]'(by rw [hxl]; exact hi), List.getElem?_eq_getElem _⟩
  obtain ⟨y0, hy0⟩ := hx 0 (by omega)
  have e0 : DataW.trod enc Tryd.prog w base spare held m 22 ([v0, v1].take (Tryd.prog.cellsOf 22)) = xs[0]? := hf 0 _ rfl
  rw [c0, hy0] at e0
  have e0 : DataW.trod enc Tryd.prog w base spare held m 22 [v0] = some y0 := e0
  obtain ⟨y1, hy1⟩ := hx 1 (by omega)
  have e1 : DataW.trod enc Tryd.prog w base spare held m 3 ([v1].take (Tryd.prog.cellsOf 3)) = xs[1]? := hf 1 _ rfl
  rw [c1, hy1] at e1
  have e1 : DataW.trod enc Tryd.prog w base spare held m 3 [v1] = some y1 := e1
  obtain ⟨k, hk, _, hk2⟩ := DataW.trod_int Tryd.underlying22 e0
  obtain ⟨i, hi, _, hi2⟩ := DataW.trod_int Tryd.underlying3 e1
  cases hk; cases hi
  exact ⟨(k, i), rfl, bounds_i64 hk2, bounds_i64 hi2⟩
end
end Go.Proofs.YtldjakeigjngoaaDoor
/- An error of the program's type that a law is given. -/
namespace Go.Proofs.YtldjakeigjngoaaDoor
open Go.RowKit Go.Deep
def errV (z : Int × Int × Int) : List Value := [.int .i64 z.1, .int .i64 z.2.1, .int .i64 z.2.2]
section
variable {H : Type} {enc : TypeId × Value → H} {w : World} {base : Nat} {spare : Nat → Bool} {held : Bool}
set_option maxRecDepth 20000 in
theorem open_err {n : Nat} {cs : List Value} {y : DataW H × List MemPlace} (h : DataW.trod enc Tryd.prog w base spare held n 26 cs = some y) : ∃ z, cs = errV z := by
 obtain ⟨xs, m, _, _, hlen, hxl, hf⟩ := DataW.trod_struct Tryd.underlying26 h
 have hC : Tryd.prog.cellsOf 26 = 3 := by kernel_rfl
 rw [hC] at hlen
 match cs, hlen with
 | [v0, v1, v2], _ =>
  have c0 : Tryd.prog.cellsOf 3 = 1 := by kernel_rfl
  have c1 : Tryd.prog.cellsOf 24 = 2 := by kernel_rfl
  have hx : ∀ i, i < 2 → ∃ y, xs[i]? = some y := fun i hi => ⟨xs[i]'(by rw [hxl]; exact hi), List.getElem?_eq_getElem _⟩
  obtain ⟨y0, hy0⟩ := hx 0 (by omega)
  have e0 : DataW.trod enc Tryd.prog w base spare held m 3 ([v0, v1, v2].take (Tryd.prog.cellsOf 3)) = xs[0]? := hf 0 _ rfl
  rw [c0, hy0] at e0
  have e0 : DataW.trod enc Tryd.prog w base spare held m 3 [v0] = some y0 := e0
  obtain ⟨y1, hy1⟩ := hx 1 (by omega)
  have e1 : DataW.trod enc Tryd.prog w base spare held m 24 ([v1, v2].take (Tryd.prog.cellsOf 24)) = xs[1]? := hf 1 _ rfl
  rw [c1, hy1] at e1
  have e1 : DataW.trod enc Tryd.prog w base spare held m 24 [v1, v2] = some y1 := e1
  obtain ⟨k, hk, _, hk2⟩ := DataW.trod_int Tryd.underlying3 e0
  obtain ⟨z, hz, _⟩ := open_fault e1
  cases hk
  cases hz
  exact ⟨(k, z.1, z.2), rfl⟩
end
end Go.Proofs.YtldjakeigjngoaaDoor
/- A row of texts that a law is given. -/
namespace Go.Proofs.YtldjakeigjngoaaDoor
open Go.RowKit Go.Deep
theorem weights_all {H : Type} {P : Program} {e : TypeId} : ∀ {l : List (DataW H)} {d : DataW H}, d ∈ l → ∀ n ∈ d.weights P e, n ∈ DataW.weightsAll P e l
 | d' :: r, d, hd, n, hn => by
  simp only [DataW.weightsAll, List.mem_append]
  rcases List.mem_cons.1 hd with rfl | h
  · exact Or.inl hn
  · exact Or.inr (weights_all h n hn)
section
variable {H : Type} {enc : TypeId × Value → H} {w : World} {base : Nat} {spare : Nat → Bool} {held : Bool}
theorem open_txt {n : Nat} {cs : List Value} {y : DataW H × List MemPlace} (h : DataW.trod enc Tryd.prog w base spare held n 9 cs = some y) : ∃ z : List UInt8, cs = wtV z ∧ True := by
 obtain ⟨s, hs, _, _⟩ := DataW.trod_string Tryd.underlying9 h
 obtain ⟨⟨l⟩⟩ := s
 exact ⟨l, hs, trivial⟩
theorem open_strs {fuel : Nat} {v : Value} {x : DataW H × List MemPlace} (h : DataW.trod enc Tryd.prog w base spare held fuel 42 [v] = some x) :
 ∃ (p : Option Addr) (n c : Nat) (l : List (List UInt8)), v = .slice p n c ∧ l.length = n ∧ n ≤ c ∧ c ≤ maxLen ∧ IsSl w 1 p n (l.flatMap wtV) ∧ ∀ s ∈ l, s.length ∈ x.1.weights Tryd.prog 42 := by
 have hC : Tryd.prog.cellsOf 9 = 1 := by kernel_rfl
 obtain ⟨p, n, c, l, hv, hl, hn, hc, hs, _⟩ := open_rows wtV (fun _ => True) Tryd.underlying42 hC (fun _ => rfl) (by decide) (fun n cs y _ h => open_txt h) h
 refine ⟨p, n, c, l, hv, hl, hn, hc, hs, fun s hs' => ?_⟩
 obtain ⟨i, hi⟩ := List.mem_iff_getElem?.1 hs'
 have hil := (List.getElem?_eq_some_iff.1 hi).1
 rcases DataW.trod_slice Tryd.underlying42 h with h0 | ⟨a, len, cap, elems, rest, m, hm, hcs, hx, _, _, _, hlen, hel, _, _⟩
 · have e1 := List.singleton_inj.1 h0.1
   rw [hv] at e1
   cases e1
   omega
 · have e1 := List.singleton_inj.1 hcs
   rw [hv] at e1
   cases e1
   rcases hs.2 with h0 | ⟨b, off, hp, hat⟩
   · omega
   · cases hp
     have h1 := hel i (by omega)
     rw [hC, List.getElem?_eq_getElem (by omega)] at h1
     obtain ⟨cs', h2, h3⟩ := Option.bind_eq_some_iff.1 h1
     obtain ⟨s', hs2, hs3, _⟩ := DataW.trod_string Tryd.underlying9 h3
     subst hs2
     have h4 := (World.cells?_some h2).2.2 0 (by decide)
     have h5 : w.cell? ⟨b, off + i, none⟩ = some (S s) := hat i _ (by have := flat_get wtV 1 (fun _ => rfl) l i s hi 0 (S s) rfl; simpa using this)
     rw [addr_add, addr_add] at h4
     simp only [Nat.mul_one, Nat.add_zero, List.getElem?_cons_zero] at h4
     rw [h5] at h4
     have e2 : s'.data.toList = s := by
      have := Option.some.inj h4
      have := Value.string.inj this
      exact this ▸ rfl
     rw [hx]
     simp only [DataW.weights, Tryd.underlying42, List.mem_cons, List.mem_append]
     refine .inr (.inl (weights_all (d := .lit (.string s)) ?_ _ (by simp [DataW.weights])))
     refine List.mem_map.2 ⟨elems[i], List.getElem_mem _, ?_⟩
     rw [hs3, e2]
end
end Go.Proofs.YtldjakeigjngoaaDoor
/- errors.errorType as the rows' condition has it (after the kit's worked text ToyasProofs.lean). -/
namespace Go.Proofs.YtldjakeigjngoaaDoor
open Go.ChangeShapes Go.WideShapes Go.RowKit
theorem et_t : Tryd.prog.globalNamed "errors.errorType" = some 0 := by kernel_rfl
theorem rt_t : (Tryd.prog.cutTypes.find? (·.1 == "internal/reflectlite.rtype")).map (·.2) = some 89 := by kernel_rfl
theorem oneRow_t : ((List.range Tryd.prog.types.size).filter fun t => Tryd.prog.rowNamed t [101, 114, 114, 111, 114]) = [28] := by kernel_rfl
theorem handle_t {W : World} (h : laidMetH Tryd.prog [("errors.errorType", Rows.laid_errors_errorType)] W) : ErrT W := by
 have h' : laidMet Tryd.prog [] W ∧ handlesMet Tryd.prog [("errors.errorType", Rows.laid_errors_errorType)] W := h
 obtain ⟨name, u, ty, e1, e2, e3, e4, e5⟩ := h'.2 _ (List.mem_singleton.2 rfl)
 have en : name = [101, 114, 114, 111, 114] := (Option.some.inj e1).symm
 subst en
 obtain rfl := Option.some.inj (rt_t.symm.trans e2)
 have hm : ty ∈ (List.range Tryd.prog.types.size).filter fun t => Tryd.prog.rowNamed t [101, 114, 114, 111, 114] := List.mem_filter.2 ⟨List.mem_range.2 e3, e4⟩
 rw [oneRow_t] at hm
 obtain rfl := List.mem_singleton.1 hm
 have hh : typeHandle Tryd.prog 28 = .pointer (some ⟨4, 28, none⟩) := by kernel_rfl
 rw [hh] at e5
 have := World.var?_cell et_t e5 0
 simpa [ErrT, rtT] using this
noncomputable def laidWorld (os : Os) : World :=
 let w0 := World.holding Tryd.prog os ⟨#[], #[], []⟩
 { w0 with heap := w0.heap.modify 0 fun
  | .cells _ t frozen => .cells #[rtT 28] t frozen
  | o => o }
theorem laid_met (os : Os) (args : Array Value) : laidMetH Tryd.prog [("errors.errorType", Rows.laid_errors_errorType)] ((laidWorld os).forCall (fun _ _ => 0) ⟨#[], args, []⟩).memory :=
 laidMetH_of_parts (laidMet_nil _ _) (by kernel_rfl)
end Go.Proofs.YtldjakeigjngoaaDoor