/- A symbolic walk: maps with whole numbers as keys, and rows of a length that is made. -/
import Derived.Test.YtkaeihlpdceokaaBEN
import Derived.Carry
set_option linter.unusedVariables false
set_option linter.unusedSimpArgs false
namespace Go.Proofs.Ytkaeihlpdceokaa
open Go.RowKit
def mapE (b : Nat) (es : List MapEntry) (clk : Nat) : En := ⟨(· = b), fun w => w.heap[b]? = some (.map es.toArray clk), fun _ _ h hh => (h b rfl).trans hh⟩
section
variable {P : Program} {C : Cx} {k : List It} {fr : Fr} {hp : List En} {all : Array Oper} {l : List Oper} {dst : Option Tmp} {ty : TypeId} {pos : String} {aft : Array Edge} {g : Option (Nat × Bool)}
theorem sy_makeMap {t : TypeId} (hf : Fits C.n dst) (hk : ∀ b, Sy P C (.o all l :: k) (put dst (.map (some b)) fr) (mapE b [] 0 :: hp)) :
 Sy P C (.o all (⟨dst, .makeMap t none, ty, pos, aft, none⟩ :: l) :: k) fr hp :=
 sy_op rfl fun a w ha hw => by
  have hr : (execOp a.eval ⟨dst, .makeMap t none, ty, pos, aft, none⟩).run P w = .ok (.value (.map (some w.heap.size))) (w.alloc (.map #[] 0)) := by
   simp [execOp, run_makeMap]
  unfold Oper.wp; rw [hr]
  refine (hk _).go _ _ (ha.put hf _) (hw.fresh ((Below.refl _ _).alloc (Nat.le_refl _) _) _ (by show (w.heap.push _)[w.heap.size]? = _; simp) (by rintro b rfl; show _ ∧ _ < (w.heap.push _).size; simp))
theorem run_checkKeyI {P : Program} {kt : TypeId} {w : World} (e : Bool) (n : Int) (hkd : P.underlying kt = some (.int .i64)) : (Instr.checkKey e 10000 kt (.int .i64 n)).run P w = .ok () w := by
 rw [show (10000 : Nat) = 9999 + 1 from rfl]
 unfold Instr.checkKey
 simp [underlying, hkd]
theorem run_findKeyI {P : Program} {kt : TypeId} {w : World} {n : Int} {es : List MapEntry} {r : Option (Nat × Value)} (hkd : P.underlying kt = some (.int .i64)) (hr : Instr.findNow (.int .i64) (.int .i64 n) es 0 = some r) : (Instr.findKey kt (.int .i64 n) es).run P w = .ok r w := by
 unfold Instr.findKey
 simp [underlying, hkd, hr]
def findI (k : Int) : List MapEntry → Nat → Option (Option (Nat × Value)) := fun es i => Instr.findNow (.int .i64) (.int .i64 k) es i
theorem ov_lookupI {t kt et : TypeId} {ti : TypeInfo} {z v : Value} {ok : Bool} [hd : TU P t (.map kt et)] [hkd : TU P kt (.int .i64)] [hti : TI P et ti] {x y : Operand} (i : Nat) {b clk : Nat} {es : List MapEntry} {n : Int} {r : Option (Nat × Value)} (hx : ev fr x = some (.map (some b))) (hy : ev fr y = some (.int .i64 n)) (hi : hp[i]? = some (mapE b es clk))
 (hz : ti.zero = some z) (hr : findI n es 0 = some r) (hv : (match r with | some (_, v) => (v, true) | none => (z, false)) = (v, ok)) :
 OV P C fr hp ⟨dst, .lookup t x y true, ty, pos, aft, g⟩ (.tuple #[v, .bool ok]) :=
 ov_read fun rr w hrr hw => by
  have hb : w.heap[b]? = some (.map es.toArray clk) := (hw.get hi).1
  have hr' : Instr.findNow (.int .i64) (.int .i64 n) es 0 = some r := hr
  have hu := hd.h
  have huk := hkd.h
  have hinf := hti.h
  have hg : (getObj b).run P w = .ok (.map es.toArray clk) w := by simp [getObj, Sem.run, hb]
  cases r with
  | none =>
   simp only [Prod.mk.injEq] at hv
   obtain ⟨rfl, rfl⟩ := hv
   simp [execOp, hrr _ _ hx, hrr _ _ hy, Instr.lookup, run_underlying hu, hg, run_checkKeyI _ _ huk, run_findKeyI huk hr', zeroValue, typeInfo, hinf, hz]
  | some p =>
   obtain ⟨j, u⟩ := p
   simp only [Prod.mk.injEq] at hv
   obtain ⟨rfl, rfl⟩ := hv
   simp [execOp, hrr _ _ hx, hrr _ _ hy, Instr.lookup, run_underlying hu, hg, run_checkKeyI _ _ huk, run_findKeyI huk hr']
theorem sy_mapNew {t kt et : TypeId} [hd : TU P t (.map kt et)] [hkd : TU P kt (.int .i64)] {x y z : Operand} (i : Nat) {b clk : Nat} {es : List MapEntry} {n : Int} {v : Value} (hx : ev fr x = some (.map (some b))) (hy : ev fr y = some (.int .i64 n)) (hz : ev fr z = some v) (hi : hp[i]? = some (mapE b es clk)) (hr : findI n es 0 = some none) (hf : Fits C.n dst)
 (hk : Sy P C (.o all l :: k) (put dst undef fr) (hp.set i (mapE b (es ++ [(⟨.int .i64 n, v, clk⟩ : MapEntry)]) (clk + 1)))) :
 Sy P C (.o all (⟨dst, .mapUpdate t x y z, ty, pos, aft, none⟩ :: l) :: k) fr hp :=
 sy_op rfl fun a w ha hw => by
  have hb : w.heap[b]? = some (.map es.toArray clk) := (hw.get hi).1
  have hlt : b < w.heap.size := by
   rcases Nat.lt_or_ge b w.heap.size with h' | h'
   · exact h'
   · rw [Array.getElem?_eq_none h'] at hb; cases hb
  have hr' : Instr.findNow (.int .i64) (.int .i64 n) es 0 = some none := hr
  have hu := hd.h
  have huk := hkd.h
  have hg : (getObj b).run P w = .ok (.map es.toArray clk) w := by simp [getObj, Sem.run, hb]
  have hset : ∀ o, (setObj b o).run P w = .ok () { w with heap := w.heap.setIfInBounds b o } := fun o => by simp [setObj, Sem.run, hb]
  have hrun : (execOp a.eval ⟨dst, .mapUpdate t x y z, ty, pos, aft, none⟩).run P w = .ok .skip { w with heap := w.heap.set! b (.map (es ++ [(⟨.int .i64 n, v, clk⟩ : MapEntry)]).toArray (clk + 1)) } := by
   simp [execOp, ha.ev hx, ha.ev hy, ha.ev hz, Instr.mapUpdate, run_underlying hu, hg, run_checkKeyI _ _ huk, run_findKeyI huk hr', hset]
  unfold Oper.wp; rw [hrun]
  refine hk.go _ _ (ha.put hf _) (hw.regrow hi ?_ ⟨rfl, rfl, rfl, by simp, fun j hj hd => ?_⟩ (fun j hj => ?_))
  · show (w.heap.set! b _)[b]? = _
    simp [hlt]
  · have hne : b ≠ j := fun e => hd e.symm
    show (w.heap.set! b _)[j]? = _
    simp [hne]
  · have hj : j = b := hj
    subst hj
    exact ⟨by simpa using hlt, .inl rfl⟩
theorem sy_makeSlice {t e : TypeId} {ti : TypeInfo} [hd : TU P t (.slice e)] [hti : TI P e ti] {x : Operand} {n : Nat} {z zv : Value} (hx : ev fr x = some (.int .i64 (n : Int))) (hz : ti.zero = some z) (hzc : z.cells = ⟨[zv]⟩) (hs : Nat.beq ti.size 1 = true) (hn : Nat.blt 0 n = true) (hb : ti.bytes * n ≤ 1000000) (hn2 : n ≤ 1000000) (hf : Fits C.n dst)
 (hk : ∀ b, Sy P C (.o all l :: k) (put dst (.slice (some ⟨b, 0, none⟩) n n) fr) (blk b e (List.replicate n zv) :: hp)) :
 Sy P C (.o all (⟨dst, .makeSlice t x x, ty, pos, aft, none⟩ :: l) :: k) fr hp :=
 sy_op rfl fun a w ha hw => by
  have hu := hd.h
  have hinf := hti.h
  have hs' : ti.size = 1 := Nat.eq_of_beq_eq_true hs
  have hn' : 0 < n := by simpa [Nat.blt_eq] using hn
  have hw1 : IntKind.i64.wrap (n : Int) = n := wrap_in _ (by omega) (by omega)
  have hb1 : ¬ ((ti.bytes : Int) * n > 281474976710656) := by
   have : ((ti.bytes * n : Nat) : Int) ≤ 1000000 := by omega
   rw [Int.natCast_mul] at this; omega
  have hroom : ¬ (n * ti.bytes > roomBytes) := by
   have h1 : n * ti.bytes ≤ 1000000 := by rw [Nat.mul_comm]; exact hb
   have h2 : 1000000 ≤ roomBytes := by decide
   omega
  have hcells : (Array.range n).map (fun i => z.cells[i % z.cells.size]!) = (List.replicate n zv).toArray := by
   apply Array.toList_inj.1
   rw [hzc]
   simp only [Array.toList_map, Array.toList_range]
   apply List.ext_getElem?
   intro j
   simp only [List.getElem?_map, List.getElem?_replicate]
   by_cases hj : j < n
   · rw [List.getElem?_range hj, if_pos hj]; simp [Nat.mod_one]
   · rw [List.getElem?_eq_none (by simpa using hj), if_neg hj]; rfl
  have hr : (execOp a.eval ⟨dst, .makeSlice t x x, ty, pos, aft, none⟩).run P w = .ok (.value (.slice (some ⟨w.heap.size, 0, none⟩) n n)) (w.alloc (.cells (List.replicate n zv).toArray e)) := by
   simp [execOp, ha.ev hx, Instr.makeSlice, underlying, hu, asInt, asIntOf, typeInfo, hinf, hw1, hb1, askRoom, hroom, sizeOf, hs', zeroValue, hz, newRow, newObj, hcells]
   rw [if_neg (by omega : ¬ ((n : Int) < 0)), if_neg (by omega : ¬ n = 0)]
   rfl
  unfold Oper.wp; rw [hr]
  exact (hk _).go _ _ (ha.put hf _) (hw.alloc _ e)
end
end Go.Proofs.Ytkaeihlpdceokaa