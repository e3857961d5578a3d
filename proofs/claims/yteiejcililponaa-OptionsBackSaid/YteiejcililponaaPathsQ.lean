/- Contracts of the package paths, and of the reference's paths: reading. -/
import Derived.Test.YteiejcililponaaStepsQ
import Derived.Test.YteiejcililponaaNamesQ
import Derived.Test.YteiejcililponaaL2Q
import Derived.Test.YteiejcililponaaBEX
set_option linter.unusedVariables false
set_option linter.unusedSimpArgs false
namespace Go.Proofs.Yteiejcililponaa
open Go.RowKit Bf
section
variable {P : Program} {fr : Fr} {hp : List En}
/-- Results: a cell, a slot, a cell. -/
theorem ret_ctc (i j : Nat) {fn : Func} {c t d : Tmp} {ct dt : TypeId} {cd dd : TypeDesc} {ci di : TypeInfo} [TU P ct cd] [TI P ct ci] [TU P dt dd] [TI P dt di] {w0 : World} {n b b' : Nat} {e e' : TypeId} {cs ds : List Value} {v v0 : Value} (hr : fn.results = #[.cell c ct, .tmp t, .cell d dt])
    (hc : get c fr = some (.pointer (some ⟨b, 0, none⟩))) (hv : get t fr = some v) (hd : get d fr = some (.pointer (some ⟨b', 0, none⟩))) (hi : hp[i]? = some (blk b e cs)) (hj : hp[j]? = some (blk b' e' ds)) (ha : isAggD cd = true) (ha' : isAggD dd = true) (hn : Nat.ble (0 + ci.size) cs.length = true) (hn' : Nat.ble (0 + di.size) ds.length = true)
    (he : Value.tuple #[.agg ⟨cs.take ci.size⟩, v, .agg ⟨ds.take di.size⟩] = v0) :
    Leave P ⟨fun _ => False, w0, n, bodyPost P fn fun e w' => e = .returned v0 ∧ Below w0.heap.size w0 w'⟩ .ret [] fr hp := .mk fun a w ha1 hw => by
  subst he
  have hl := loadVar_ok (P := P) (t := ct) hw hi ha hn
  have hl' := loadVar_ok (P := P) (t := dt) hw hj ha' hn'
  have hs := ha1.slot c _ hc
  have hs1 := ha1.slot t _ hv
  have hs2 := ha1.slot d _ hd
  rw [Array.getD_eq_getD_getElem?] at hs hs1 hs2
  have hq : (results fn a.tmps).run P w = .ok (.tuple #[.agg ⟨cs.take ci.size⟩, v, .agg ⟨ds.take di.size⟩]) w := by
    simp [results, hr, hs, hs1, hs2, asAddr, hl, hl']
  show bodyPost P fn (fun e w' => e = .returned _ ∧ Below w0.heap.size w0 w') .ret a w
  exact bodyPost_ret hq ha1.defers (And.intro rfl hw.below)
/-- Results: a slot, a cell; whatever is asked of the world behind. -/
theorem ret2cw (i : Nat) {D : Nat → Prop} {fn : Func} {t c : Tmp} {ct : TypeId} {d : TypeDesc} {ti : TypeInfo} [hd : TU P ct d] [hti : TI P ct ti] {w0 : World} {n b : Nat} {e : TypeId} {cs : List Value} {v : Value} {R : Ending → World → Prop} (hr : fn.results = #[.tmp t, .cell c ct]) (hv : get t fr = some v) (hc : get c fr = some (.pointer (some ⟨b, 0, none⟩))) (hi : hp[i]? = some (blk b e cs)) (ha : isAggD d = true) (hn : Nat.ble (0 + ti.size) cs.length = true)
    (h : ∀ w, HpOk D w0 hp w → R (.returned (.tuple #[v, .agg ⟨cs.take ti.size⟩])) w) : Leave P ⟨D, w0, n, bodyPost P fn R⟩ .ret [] fr hp := .mk fun a w ha' hw => by
  have hl := loadVar_ok (P := P) (t := ct) hw hi ha hn
  have hs := ha'.slot c _ hc
  have hs1 := ha'.slot t _ hv
  rw [Array.getD_eq_getD_getElem?] at hs hs1
  have hq : (results fn a.tmps).run P w = .ok (.tuple #[v, .agg ⟨cs.take ti.size⟩]) w := by
    simp [results, hr, hs, hs1, asAddr, hl]
  show bodyPost P fn R .ret a w
  exact bodyPost_ret hq ha'.defers (h w hw)
end
/-- What the reading of a step gives: the step, the place behind it, what is wrong. -/
def rdV (i : Int) (r : RdT) : Value := .tuple #[.agg ⟨stpV r.1⟩, .int .i64 (if r.2.2.1 = 0 then i + r.2.1 else 0), faultV r.2.2.1 (if r.2.2.1 = 0 then 0 else i + r.2.2.2)]
theorem rdV0 (i n p : Int) (x : StepT) : rdV i (x, n, 0, p) = .tuple #[.agg ⟨stpV x⟩, .int .i64 (i + n), faultV 0 0] := by simp [rdV]
theorem rdV1 (i n p : Int) (x : StepT) {e : Int} (he : e ≠ 0) : rdV i (x, n, e, p) = .tuple #[.agg ⟨stpV x⟩, .int .i64 0, faultV e (i + p)] := by simp [rdV, he]
theorem tup3 {a a' c c' : Value} {n m : Int} (h1 : a = a') (h2 : n = m) (h3 : c = c') : Value.tuple #[a, .int .i64 n, c] = .tuple #[a', .int .i64 m, c'] := by rw [h1, h2, h3]
theorem namB_len (s : List UInt8) (h : namB s = true) : s.length ≤ 32 := by unfold namB at h; simp only [Bool.and_eq_true, decide_eq_true_eq] at h; exact h.2
theorem get_bt (s : List UInt8) (a : Int) (j : Nat) (c : UInt8) (h0 : 0 ≤ a) : (s.drop a.toNat)[j]? = some c ↔ a + j < s.length ∧ bt s (a + j) = (c.toNat : Int) := by
  rw [List.getElem?_drop]
  by_cases h : a.toNat + j < s.length
  · have := bt_some s (a.toNat + j) h c
    rw [← this, show ((a.toNat + j : Nat) : Int) = a + j by omega]
    constructor
    · intro h2; exact ⟨by omega, h2⟩
    · intro h2; exact h2.2
  · rw [List.getElem?_eq_none (by omega)]
    constructor
    · intro h2; cases h2
    · intro h2; omega
/-- What stands behind a bracket. -/
theorem item_ways (s : List UInt8) (i : Int) (h0 : 0 ≤ i) (h1 : i < s.length) : ∃ v e f p, takeS s (i + 1) = (v, e, f, p) ∧
    (i + 1 < s.length → bt s (i + 1) = 93 → itemL (s.drop (i + 1).toNat) = ((3, 0, []), 2, 0, 0)) ∧
    (¬ (i + 1 < s.length ∧ bt s (i + 1) = 93) →
      (f ≠ 0 → itemL (s.drop (i + 1).toNat) = (zst, 0, f, p - i)) ∧
      (f = 0 → 0 ≤ e ∧ e ≤ s.length ∧ (v < 0 → itemL (s.drop (i + 1).toNat) = (zst, 0, 20, 1)) ∧
        (0 ≤ v → e < s.length → bt s e = 93 → itemL (s.drop (i + 1).toNat) = ((2, v, []), e + 1 - i, 0, 0)) ∧
        (0 ≤ v → ¬ (e < s.length ∧ bt s e = 93) → itemL (s.drop (i + 1).toNat) = (zst, 0, 4, e - i)))) := by
  obtain ⟨v, e, f, p, ht⟩ : ∃ v e f p, takeS (s.drop (i + 1).toNat) 0 = (v, e, f, p) := ⟨_, _, _, _, rfl⟩
  have hd := takeAt_drop s (i + 1).toNat (by omega)
  rw [ht, show (((i + 1).toNat : Nat) : Int) = i + 1 by omega] at hd
  have hz := get_bt s (i + 1) 0 93 (by omega)
  refine ⟨_, _, _, _, hd, fun a b => ?_, fun hn => ?_⟩
  · unfold itemL; rw [if_pos (hz.2 ⟨by omega, by simpa using b⟩)]
  · have hz' : ¬ (s.drop (i + 1).toNat)[0]? = some 93 := fun h => hn (by have := hz.1 h; exact ⟨by omega, by simpa using this.2⟩)
    unfold itemL
    rw [if_neg hz', ht]
    simp only
    refine ⟨fun hf => ?_, fun hf => ?_⟩
    · rw [if_pos hf, if_neg hf]; refine Prod.ext rfl (Prod.ext rfl (Prod.ext rfl ?_)); simp only; omega
    · subst hf
      obtain ⟨g1, g2, g3, _⟩ := takeS_good _ v e p ht
      rw [List.length_drop] at g2
      simp only [if_true, ne_eq, not_true_eq_false, if_false]
      have hz2 := get_bt s (i + 1) e.toNat 93 (by omega)
      rw [show ((e.toNat : Nat) : Int) = e by omega] at hz2
      refine ⟨by omega, by omega, fun hv => if_pos hv, fun hv hlt hb => ?_, fun hv hb => ?_⟩
      · rw [if_neg (by omega), if_pos (hz2.2 ⟨hlt, hb⟩)]; refine Prod.ext rfl (Prod.ext ?_ rfl); simp only; omega
      · rw [if_neg (by omega), if_neg (fun h => hb (by have := hz2.1 h; exact ⟨this.1, this.2⟩))]; refine Prod.ext rfl (Prod.ext rfl (Prod.ext rfl ?_)); simp only; omega
theorem stepL_at (s : List UInt8) (i : Int) (h0 : 0 ≤ i) (h1 : i < s.length) : stepL (s.drop i.toNat) = if bt s i = 46 then namedL 1 (s.drop (i + 1).toNat) else if bt s i = 33 then namedL 5 (s.drop (i + 1).toNat) else if bt s i = 91 then itemL (s.drop (i + 1).toNat) else if bt s i = 63 then ((4, 0, []), 1, 0, 0) else (zst, 0, 4, 0) := by
  obtain ⟨c, l, hd, hb⟩ := bt_nat s i h0 h1
  have hd2 : s.drop (i + 1).toNat = l := by rw [show (i + 1).toNat = i.toNat + 1 by omega, ← List.drop_drop, hd]; rfl
  rw [hd, hd2, hb, stepL_cons]
  have e : ∀ k : UInt8, ((c.toNat : Int) = (k.toNat : Int)) ↔ c = k := fun k => ⟨fun h => UInt8.toNat_inj.1 (by omega), fun h => by rw [h]⟩
  have e1 := e 46
  have e2 := e 33
  have e3 := e 91
  have e4 := e 63
  simp only [show (((46 : UInt8).toNat : Nat) : Int) = 46 from rfl, show (((33 : UInt8).toNat : Nat) : Int) = 33 from rfl, show (((91 : UInt8).toNat : Nat) : Int) = 91 from rfl, show (((63 : UInt8).toNat : Nat) : Int) = 63 from rfl] at e1 e2 e3 e4
  simp only [e1, e2, e3, e4]
theorem rdV_shape (i : Int) (r : RdT) : ∃ x e f p, r = (x, e, f, p) := ⟨_, _, _, _, rfl⟩
end Go.Proofs.Yteiejcililponaa
