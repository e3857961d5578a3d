/- A symbolic walk: struct literals, slices: literals, elements, append. -/
import Derived.Test.YteddjadeenimkaaSyMem
import Derived.Laws.AppendOwn
set_option linter.unusedVariables false
set_option linter.unusedSimpArgs false
namespace Go.Proofs.Yteddjadeenimkaa
open Go.RowKit

/-! ### struct and slice literals -/
def evp (fr : Fr) : List (Nat × Operand) → Option (List (Nat × Value))
  | [] => some []
  | (i, x) :: r => match ev fr x, evp fr r with
    | some v, some vs => some ((i, v) :: vs)
    | _, _ => none
theorem evp_map {fr : Fr} {r : Operand → Value} (h : ∀ x u, ev fr x = some u → r x = u) : ∀ {xs : List (Nat × Operand)} {vs : List (Nat × Value)}, evp fr xs = some vs → xs.map (fun (i, x) => (i, r x)) = vs
  | [], vs, hx => by have := Option.some.inj hx; subst this; rfl
  | (i, x) :: l, vs, hx => by
    unfold evp at hx
    split at hx
    · rename_i v us h1 h2
      have := Option.some.inj hx; subst this
      rw [List.map_cons, evp_map h h2]; simp [h _ _ h1]
    · cases hx
def cl (v : Value) : List Value := v.cells.toList
def fillL (pl : List (Nat × Nat × Bool)) : List Value → List (Nat × Value) → Option (List Value)
  | cs, [] => some cs
  | cs, (i, v) :: r => match pl[i]? with
    | some (off, size, _) => cond (Nat.beq (cl v).length size && Nat.ble (off + size) cs.length) (fillL pl (upd cs off (cl v)) r) none
    | none => none
theorem foldl_upd (off : Nat) : ∀ (vs : List Value) (cs : List Value) (j : Nat), (vs.zipIdx j).foldl (fun (cs : Array Value) (p : Value × Nat) => cs.setIfInBounds (off + p.2) p.1) ⟨cs⟩ = ⟨upd cs (off + j) vs⟩
  | [], cs, j => rfl
  | v :: vs, cs, j => by
    simp only [List.zipIdx_cons, List.foldl_cons, upd]
    have : (Array.mk cs).setIfInBounds (off + j) v = ⟨cs.set (off + j) v⟩ := by
      apply Array.toList_inj.1; simp
    rw [this]
    exact foldl_upd off vs (cs.set (off + j) v) (j + 1)
theorem fill_fillL (pl : List (Nat × Nat × Bool)) (place : Nat → Option (Nat × Nat)) (hpl : ∀ i, place i = (pl[i]?).map fun p => (p.1, p.2.1)) : ∀ (ps : List (Nat × Value)) (cs out : List Value), fillL pl cs ps = some out → Instr.fill place ⟨cs⟩ ps = some ⟨out⟩
  | [], cs, out, h => by simp [fillL] at h; subst h; rfl
  | (i, v) :: r, cs, out, h => by
    unfold fillL at h
    unfold Instr.fill
    rw [hpl]
    split at h
    · rename_i off size bb he
      rw [he]
      simp only [Option.map_some]
      cases hc : (Nat.beq (cl v).length size && Nat.ble (off + size) cs.length) with
      | false => rw [hc] at h; cases h
      | true =>
        rw [hc] at h
        simp only [cond_true] at h
        rw [Bool.and_eq_true] at hc
        have h1 : v.cells.size = size := by have := Nat.eq_of_beq_eq_true hc.1; unfold cl at this; simpa using this
        have h2 : off + size ≤ cs.length := by simpa using hc.2
        rw [if_neg (by simp [h1]; omega)]
        have hz : v.cells.zipIdx.foldl (fun cs (c, j) => cs.setIfInBounds (off + j) c) (Array.mk cs) = ⟨upd cs off (cl v)⟩ := by
          have := foldl_upd off (cl v) cs 0
          rw [← Array.foldl_toList, Array.toList_zipIdx]
          exact this
        rw [hz]
        exact fill_fillL pl place hpl r _ out h
    · cases h
theorem run_places {P : Program} (w : World) : ∀ (fs : List Field), (∀ f ∈ fs, (P.info? f.type).isSome = true) → (fs.mapM fun f => Functor.map (Prod.mk f.offset) (sizeOf f.type)).run P w = .ok (fs.map fun f => (f.offset, P.cellsOf f.type)) w
  | [], _ => by simp
  | f :: fs, h => by
    have h1 := h f (by simp)
    obtain ⟨i, hi⟩ := Option.isSome_iff_exists.1 h1
    have ih := run_places w fs (fun g hg => h g (by simp [hg]))
    simp only [List.mapM_cons, List.map_cons]
    simp [sizeOf, typeInfo, hi, Program.cellsOf] at ih ⊢
    simp [ih]
section
variable {P : Program} {C : Cx} {k : List It} {fr : Fr} {hp : List En} {all : Array Oper} {l : List Oper} {dst : Option Tmp} {ty : TypeId} {pos : String} {aft : Array Edge} {g : Option (Nat × Bool)}
theorem ov_build {t : TypeId} {ti : TypeInfo} [hti : TI P t ti] {pl : List (Nat × Nat × Bool)} [hpl : PL P t pl] {parts : List (Nat × Operand)} {ps : List (Nat × Value)} {zs out : List Value} (hx : evp fr parts = some ps) (hz : ti.zero = some (.agg ⟨zs⟩)) (hfill : fillL pl zs ps = some out) :
    OV P C fr hp ⟨dst, .build t ⟨parts⟩, ty, pos, aft, g⟩ (.agg ⟨out⟩) := ov_pure (fun r w hr => by
  obtain ⟨fs, hu, hp1, hp2⟩ := hpl.h
  have hpl' := run_places (P := P) w fs (fun f hf => (hp2 f hf).1)
  have hp3 : fs.map (fun f => (f.offset, P.cellsOf f.type)) = pl.map fun p => (p.1, p.2.1) := by rw [← hp1, List.map_map]; rfl
  rw [hp3] at hpl'
  have hf := fill_fillL pl (fun i => (pl[i]?).map fun p => (p.1, p.2.1)) (fun i => rfl) ps zs out hfill
  have hm := evp_map hr hx
  simp [execOp, Instr.build, zeroValue, typeInfo, hti.h, hz, underlying, hu, Value.cells, hm, hpl', hf])
theorem sy_buildSlice {t e : TypeId} {ti : TypeInfo} [hd : TU P t (.slice e)] [hti : TI P e ti] {n : Nat} {parts : List (Nat × Operand)} {ps : List (Nat × Value)} {z : Value} {zs out : List Value} (hx : evp fr parts = some ps) (hn : Nat.ble (n * ti.size) 16777216 = true) (hz : ti.zero = some z)
    (hzs : ((List.range (n * ti.size)).map fun i => (cl z).getD (i % (cl z).length) default) = zs) (hfill : fillL ((List.range n).map fun i => (i * ti.size, ti.size, false)) zs ps = some out) (hlast : (ps.all fun p => Nat.blt p.1 n) = true) (hpos : Nat.beq (n * ti.size) 0 = false) (hf : Fits C.n dst)
    (hk : ∀ b, Sy P C (.o all l :: k) (put dst (.slice (some ⟨b, 0, none⟩) n n) fr) (blk b e out :: hp)) :
    Sy P C (.o all (⟨dst, .buildSlice t n ⟨parts⟩, ty, pos, aft, none⟩ :: l) :: k) fr hp :=
  sy_op rfl fun a w ha hw => by
    have hm := evp_map (fun x u hx => ha.ev hx) hx
    replace hlast : ∀ p ∈ ps, p.1 < n := fun p hp => by simpa [Nat.blt_eq] using List.all_eq_true.1 hlast p hp
    have hn' : ¬ (n * ti.size > 2 ^ 24) := by have : n * ti.size ≤ 16777216 := by simpa using hn
                                              omega
    have hpos' : n * ti.size ≠ 0 := by intro e; rw [e] at hpos; cases hpos
    have hfl : Instr.fill (fun i => some (i * ti.size, ti.size)) ⟨zs⟩ ps = some ⟨out⟩ := by
      have h1 := fill_fillL ((List.range n).map fun i => (i * ti.size, ti.size, false)) (fun i => (((List.range n).map fun i => (i * ti.size, ti.size, false))[i]?).map fun p => (p.1, p.2.1)) (fun i => rfl) ps zs out hfill
      rw [← h1]
      clear hfill hm hx h1 hzs
      revert zs
      induction ps with
      | nil => intro zs; rfl
      | cons p ps ih =>
        intro zs
        obtain ⟨i, v⟩ := p
        have hi := hlast (i, v) (by simp)
        unfold Instr.fill
        have : (((List.range n).map fun i => (i * ti.size, ti.size, false))[i]?).map (fun p => (p.1, p.2.1)) = some (i * ti.size, ti.size) := by simp [hi]
        rw [this]
        simp only
        split
        · rfl
        · have key : ∀ cs : Array Value, Instr.fill (fun i => some (i * ti.size, ti.size)) cs ps = Instr.fill (fun i => (((List.range n).map fun i => (i * ti.size, ti.size, false))[i]?).map fun p => (p.1, p.2.1)) cs ps := fun cs => by cases cs with | mk l => exact ih (fun p hp => hlast p (by simp [hp]))
          exact key _
    have hcells : (Array.range (n * ti.size)).map (fun i => z.cells[i % z.cells.size]!) = ⟨zs⟩ := by
      rw [← hzs]
      apply Array.toList_inj.1
      simp only [Array.toList_map, Array.toList_range]
      apply List.map_congr_left
      intro i _
      unfold cl
      simp [getElem!_def, List.getD_eq_getElem?_getD]
      cases (z.cells[i % z.cells.size]?) <;> rfl
    have hr : (execOp a.eval ⟨dst, .buildSlice t n ⟨parts⟩, ty, pos, aft, none⟩).run P w = .ok (.value (.slice (some ⟨w.heap.size, 0, none⟩) n n)) (w.alloc (.cells out.toArray e)) := by
      simp [execOp, Instr.buildSlice, underlying, hd.h, run_sizeOf' (P := P) (t := e), hn', hpos', zeroValue, typeInfo, hti.h, hz, hcells, hm, hfl, newRow, newObj]
      rfl
    unfold Oper.wp; rw [hr]
    exact (hk _).go _ _ (ha.put hf _) (hw.alloc out e)
/-! ### elements -/
theorem ov_lens {t e : TypeId} [TU P t (.slice e)] {x : Operand} {p : Option Addr} {n c : Nat} (hx : ev fr x = some (.slice p n c)) : OV P C fr hp ⟨dst, .call ⟨.builtin .len, ⟨[x]⟩, ⟨[t]⟩⟩, ty, pos, aft, g⟩ (.int .i64 (n : Int)) :=
  ov_pure (fun r w hr => by simp [execOp, hr _ _ hx, resolve, invoke, builtin, Builtin.len_, underlying, TU.h (P := P) (t := t), goInt])
theorem ov_indexAddr {t e : TypeId} [hd : TU P t (.slice e)] {ti : TypeInfo} [hti : TI P e ti] {x y : Operand} {b off n c : Nat} {ik : IntKind} {i : Int} (hx : ev fr x = some (.slice (some ⟨b, off, none⟩) n c)) (hy : ev fr y = some (.int ik i)) (h0 : 0 ≤ i) (h1 : i < n) :
    OV P C fr hp ⟨dst, .indexAddr t x y, ty, pos, aft, g⟩ (.pointer (some ⟨b, off + i.toNat * ti.size, none⟩)) :=
  ov_pure (fun r w hr => by
    simp [execOp, hr _ _ hx, hr _ _ hy, Instr.indexAt, asIntOf, underlying, hd.h, h0, h1, run_sizeOf' (P := P) (t := e), addr_add])
theorem ov_loadx {t : TypeId} {d : TypeDesc} [hd : TU P t d] {x : Operand} {p : Addr} {v : Value} (hx : ev fr x = some (.pointer (some p))) (ha : isAggD d = false) (h : ∀ w, HpOk C.D C.w0 hp w → w.cell? p = some v) :
    OV P C fr hp ⟨dst, .load t x, ty, pos, aft, g⟩ v :=
  ov_read fun r w hr hw => by
    simp [execOp, hr _ _ hx, Instr.loadAt, Instr.sureAddr, loadVar, run_isAgg (P := P) (t := t) (d := d), ha, load, Sem.run, h w hw]
theorem ov_loadxa {t : TypeId} {d : TypeDesc} {ti : TypeInfo} [hd : TU P t d] [hti : TI P t ti] {x : Operand} {b off : Nat} {vs : List Value} (hx : ev fr x = some (.pointer (some ⟨b, off, none⟩))) (ha : isAggD d = true) (hn : vs.length = ti.size) (h : ∀ w, HpOk C.D C.w0 hp w → ∀ j u, vs[j]? = some u → w.cell? ⟨b, off + j, none⟩ = some u) :
    OV P C fr hp ⟨dst, .load t x, ty, pos, aft, g⟩ (.agg ⟨vs⟩) :=
  ov_read fun r w hr hw => by
    have hl := run_loadCells_list (P := P) (w := w) ⟨b, off, none⟩ vs (fun j u hj => by rw [addr_add]; exact h w hw j u hj)
    rw [hn] at hl
    simp [execOp, hr _ _ hx, Instr.loadAt, Instr.sureAddr, loadVar, run_isAgg (P := P) (t := t) (d := d), ha, run_sizeOf' (P := P) (t := t), hl]
theorem ov_nilCheck {x : Operand} {p : Addr} (hx : ev fr x = some (.pointer (some p))) : OV P C fr hp ⟨dst, .nilCheck x, ty, pos, aft, g⟩ (.pointer (some p)) :=
  ov_pure (fun r w hr => by simp [execOp, hr _ _ hx])
theorem ov_max {ts : Array TypeId} {x y : Operand} {ik : IntKind} {a b : Int} (hx : ev fr x = some (.int ik a)) (hy : ev fr y = some (.int ik b)) : OV P C fr hp ⟨dst, .call ⟨.builtin .max, ⟨[x, y]⟩, ts⟩, ty, pos, aft, g⟩ (.int ik (if b > a then b else a)) :=
  ov_pure (fun r w hr => by
    have := run_max_int2 (P := P) w ts ty ik ik a b
    simp [execOp, hr _ _ hx, hr _ _ hy, resolve, invoke, builtin, this])
theorem ov_min {ts : Array TypeId} {x y : Operand} {ik : IntKind} {a b : Int} (hx : ev fr x = some (.int ik a)) (hy : ev fr y = some (.int ik b)) : OV P C fr hp ⟨dst, .call ⟨.builtin .min, ⟨[x, y]⟩, ts⟩, ty, pos, aft, g⟩ (.int ik (if b < a then b else a)) :=
  ov_pure (fun r w hr => by
    have := run_min_int2 (P := P) w ts ty ik ik a b
    simp [execOp, hr _ _ hx, hr _ _ hy, resolve, invoke, builtin, this])
end
/-! ### a slice that the call lets grow -/
def vec (e : TypeId) (size : Nat) (v : Value) (n : Nat) (cs : List Value) : En :=
  ⟨fun b => v.ownBlock = some b, fun w => w.ownsRow 0 e size v n cs, fun w w' h hh => by
    refine ⟨hh.1, ?_⟩
    rcases hh.2 with h2 | ⟨g, cap, cur, hv, hb, hg, r⟩
    · exact .inl h2
    · exact .inr ⟨g, cap, cur, hv, hb, (h g (by rw [hv]; rfl)).trans hg, r⟩⟩
section
variable {P : Program} {D : Nat → Prop} {w0 : World} {hp : List En}
theorem HpOk.nil {w : World} (h : HpOk D w0 hp w) (e : TypeId) (size : Nat) : HpOk D w0 (vec e size (.slice none 0 0) 0 [] :: hp) w :=
  h.add _ (World.ownsRow_nil w 0 e size) (fun b hb => by cases hb) (fun f _ b hb => by cases hb)
theorem block_lt {w : World} {g : Nat} {o : Obj} (h : w.heap[g]? = some o) : g < w.heap.size := by
  rcases Nat.lt_or_ge g w.heap.size with h' | h'
  · exact h'
  · rw [Array.getElem?_eq_none h'] at h; cases h
theorem append_ok {w : World} (h : HpOk D w0 hp w) {i : Nat} {t ty e : TypeId} {ti : TypeInfo} {z : Value} (ht : P.underlying t = some (.slice e)) (hti : P.info? e = some ti) (hz : ti.zero = some z) (hzs : z.cells.size = ti.size) (hsz : 0 < ti.size)
    {v : Value} {n : Nat} {cs : List Value} (hi : hp[i]? = some (vec e ti.size v n cs)) {a : Addr} {m c : Nat} {news : List Value} (hl : news.length = m * ti.size) (hnews : ∀ j u, news[j]? = some u → w.cell? (a.add j) = some u) (h1 : ∀ u ∈ news, u.oneCell' = true)
    (h63 : n + m ≤ 9223372036854775807) (hbytes : (n + m) * ti.bytes ≤ 140737488355328) (hm : 0 < m) :
    ∃ p q w', (Builtin.append_ #[t, t] ty #[v, .slice (some a) m c]).run P w = .ok (.slice (some p) (n + m) q) w' ∧ HpOk D w0 (hp.set i (vec e ti.size (.slice (some p) (n + m) q) (n + m) (cs ++ news))) w' := by
  have hown := (h.get hi).1
  have hown : w.ownsRow 0 e ti.size v n cs := hown
  have h63' : n + m ≤ maxLen := by unfold maxLen; omega
  obtain ⟨v', w', hr, ho, hg, _⟩ := run_append_own (P := P) w 0 t ty e ti z ti.size ti.bytes ht hti hz rfl rfl hzs hsz v n cs hown a m c news hl hnews h1 h63' hbytes (Nat.zero_le _)
  have shape : ∃ g q, v' = .slice (some ⟨g, 0, none⟩) (n + m) q := by
    rcases ho.2 with ⟨_, h0⟩ | ⟨g, q, cur, hv, _⟩
    · omega
    · exact ⟨g, q, hv⟩
  obtain ⟨g, q, rfl⟩ := shape
  have hlt : g < w'.heap.size := by
    rcases ho.2 with ⟨hv, _⟩ | ⟨g', q', cur, hv, _, hg', _⟩
    · cases hv
    · cases hv; exact block_lt hg'
  have where_ : v.ownBlock = some g ∨ w.heap.size ≤ g := by
    rcases hown.2 with ⟨rfl, rfl⟩ | ⟨g0, cap, cur, rfl, _, hg0, hnc, hcm, hcs, htake⟩
    · right
      have hown' : w.ownsRow w.heap.size e ti.size (.slice none 0 0) 0 cs := ⟨hown.1, .inl ⟨rfl, rfl⟩⟩
      obtain ⟨v2, w2, hr2, ho2, _⟩ := run_append_own (P := P) w w.heap.size t ty e ti z ti.size ti.bytes ht hti hz rfl rfl hzs hsz _ 0 cs hown' a m c news hl hnews h1 h63' hbytes (Nat.le_refl _)
      rw [hr] at hr2
      cases hr2
      rcases ho2.2 with ⟨hv, _⟩ | ⟨g', q', cur', hv, hb, _⟩
      · cases hv
      · cases hv; exact hb
    · by_cases hroom : n + m ≤ cap
      · left
        have hfit : n * ti.size + news.length ≤ cur.size := by rw [hl, hcs, ← Nat.add_mul]; exact Nat.mul_le_mul_right _ hroom
        have hr2 := run_append_room (P := P) w t ty e ti ht hti g0 n cap cur hg0 a m c news hl hnews h1 hroom hfit
        rw [hr] at hr2
        cases hr2; rfl
      · right
        have holds : ∀ j u, cs[j]? = some u → w.cell? ((⟨g0, 0, none⟩ : Addr).add j) = some u := hown.cells (g := g0) rfl
        have hr2 := run_append_grow (P := P) w t ty e ti z ht hti hz ⟨g0, 0, none⟩ n cap cs hown.1 holds a m c news hl hnews (by omega) (by omega) (growslice_fits (by omega) hbytes)
        rw [hr] at hr2
        cases hr2; exact Nat.le_refl _
  refine ⟨⟨g, 0, none⟩, q, w', hr, h.regrow hi ho ⟨hg.os, hg.tape, hg.output, hg.size, fun b hlt' hd => hg.block b hlt' (fun e => hd e.symm)⟩ (fun b hb => ?_)⟩
  have : g = b := by simpa [vec, Value.ownBlock] using hb
  subst this
  exact ⟨hlt, where_⟩
end
section
variable {P : Program} {C : Cx} {k : List It} {fr : Fr} {hp : List En} {all : Array Oper} {l : List Oper} {dst : Option Tmp} {ty : TypeId} {pos : String} {aft : Array Edge} {g : Option (Nat × Bool)}
/-- 'append(out, x..)': out at place i of what the call owns, x.. a row of the call's own at place j. -/
theorem sy_append {t e : TypeId} {ti : TypeInfo} [hd : TU P t (.slice e)] [hti : TI P e ti] {x y : Operand} (i j : Nat) {v z : Value} {n m c b : Nat} {e' : TypeId} {cs news : List Value} (hx : ev fr x = some v) (hy : ev fr y = some (.slice (some ⟨b, 0, none⟩) m c)) (hi : hp[i]? = some (vec e ti.size v n cs)) (hj : hp[j]? = some (blk b e' news))
    (hz : ti.zero = some z) (hzs : Nat.beq (cl z).length ti.size = true) (hsz : Nat.blt 0 ti.size = true) (hl : Nat.beq news.length (m * ti.size) = true) (h1 : oneAll news = true) (hm : Nat.blt 0 m = true) (hf : Fits C.n dst)
    (h63 : n + m ≤ 9223372036854775807) (hbytes : (n + m) * ti.bytes ≤ 140737488355328)
    (hk : ∀ p q, Sy P C (.o all l :: k) (put dst (.slice (some p) (n + m) q) fr) (hp.set i (vec e ti.size (.slice (some p) (n + m) q) (n + m) (cs ++ news)))) :
    Sy P C (.o all (⟨dst, .call ⟨.builtin .append, ⟨[x, y]⟩, ⟨[t, t]⟩⟩, ty, pos, aft, none⟩ :: l) :: k) fr hp :=
  sy_op rfl fun a w ha hw => by
    have hall : ∀ (l : List Value), oneAll l = true → ∀ u ∈ l, u.oneCell' = true := by
      intro l; induction l with
      | nil => intro _ u hu; cases hu
      | cons v l ih => intro h u hu; simp only [oneAll, Bool.and_eq_true] at h; rcases List.mem_cons.1 hu with rfl | hu; exact h.1; exact ih h.2 u hu
    obtain ⟨p, q, w', hr, hw'⟩ := append_ok (P := P) hw (t := t) (ty := ty) (hd.h) (hti.h) hz (by have := Nat.eq_of_beq_eq_true hzs; unfold cl at this; simpa using this) (by simpa [Nat.blt_eq] using hsz) hi (a := ⟨b, 0, none⟩) (m := m) (c := c) (news := news) (Nat.eq_of_beq_eq_true hl)
      (fun x u hu => by rw [addr_add, hw.cell hj]; simpa using hu) (hall _ h1) h63 hbytes (by simpa [Nat.blt_eq] using hm)
    have hr' : (execOp a.eval ⟨dst, .call ⟨.builtin .append, ⟨[x, y]⟩, ⟨[t, t]⟩⟩, ty, pos, aft, none⟩).run P w = .ok (.value (.slice (some p) (n + m) q)) w' := by
      simp [execOp, ha.ev hx, ha.ev hy, resolve, invoke, builtin, hr]
    unfold Oper.wp; rw [hr']
    exact (hk p q).go _ _ (ha.put hf _) hw'
/-- A slice that is nil, to grow. -/
theorem sy_grow (e : TypeId) (size : Nat) (h : Sy P C k fr (vec e size (.slice none 0 0) 0 [] :: hp)) : Sy P C k fr hp :=
  .mk fun a w ha hw => h.go a w ha (hw.nil e size)
/-- What a growing slice holds, read. -/
theorem vec_cell {D : Nat → Prop} {w0 w : World} (h : HpOk D w0 hp w) {i : Nat} {e : TypeId} {size n q m : Nat} {g : Nat} {cs : List Value} (hi : hp[i]? = some (vec e size (.slice (some ⟨g, 0, none⟩) m q) n cs)) {j : Nat} {u : Value} (hj : cs[j]? = some u) : w.cell? ⟨g, j, none⟩ = some u := by
  have hown : w.ownsRow 0 e size (.slice (some ⟨g, 0, none⟩) m q) n cs := (h.get hi).1
  have := hown.cells (g := g) rfl j u hj
  rw [addr_add, Nat.zero_add] at this; exact this
theorem sy_vecAddr (i : Nat) {e : TypeId} {size n m q : Nat} {p : Option Addr} {cs : List Value} (hi : hp[i]? = some (vec e size (.slice p m q) n cs)) (hn : 0 < n) (h : ∀ g, p = some ⟨g, 0, none⟩ → Sy P C k fr hp) : Sy P C k fr hp :=
  .mk fun a w ha hw => by
    have hown : w.ownsRow 0 e size (.slice p m q) n cs := (hw.get hi).1
    rcases hown.2 with ⟨_, h0⟩ | ⟨g, cap, cur, hv, _⟩
    · omega
    · cases hv; exact (h g rfl).go a w ha hw
theorem ov_loadv {t : TypeId} {d : TypeDesc} [hd : TU P t d] {x : Operand} (i : Nat) {e : TypeId} {size n m q g' off : Nat} {cs : List Value} {v : Value} (hx : ev fr x = some (.pointer (some ⟨g', off, none⟩))) (hi : hp[i]? = some (vec e size (.slice (some ⟨g', 0, none⟩) m q) n cs)) (ha : isAggD d = false) (hv : cs[off]? = some v) :
    OV P C fr hp ⟨dst, .load t x, ty, pos, aft, g⟩ v :=
  ov_loadx hx ha fun w hw => vec_cell hw hi hv
theorem ov_loadva {t : TypeId} {d : TypeDesc} {ti : TypeInfo} [hd : TU P t d] [hti : TI P t ti] {x : Operand} (i : Nat) {e : TypeId} {size n m q g' off : Nat} {cs vs : List Value} (hx : ev fr x = some (.pointer (some ⟨g', off, none⟩))) (hi : hp[i]? = some (vec e size (.slice (some ⟨g', 0, none⟩) m q) n cs)) (ha : isAggD d = true) (hn : vs.length = ti.size) (hv : ∀ j u, vs[j]? = some u → cs[off + j]? = some u) :
    OV P C fr hp ⟨dst, .load t x, ty, pos, aft, g⟩ (.agg ⟨vs⟩) :=
  ov_loadxa hx ha hn fun w hw j u hj => vec_cell hw hi (hv j u hj)
/-- A result that lies in new memory, at place i of what the call owns. -/
theorem new_at {w0 w' : World} {x : Ending} {v : Value} {R : Value → En → Prop} {e : En} (hw : HpOk (fun _ => False) w0 hp w') (i : Nat) (hi : hp[i]? = some e) (hx : x = .returned v) (hR : R v e) :
    ∃ v e', R v e' ∧ x = .returned v ∧ e'.holds w' ∧ Below w0.heap.size w0 w' ∧ ∀ b, e'.dom b → w0.heap.size ≤ b ∧ b < w'.heap.size :=
  ⟨v, e, hR, hx, (hw.get hi).1, hw.below, fun b hb => ⟨((hw.get hi).2 b hb).1.resolve_left id, ((hw.get hi).2 b hb).2⟩⟩
end
end Go.Proofs.Yteddjadeenimkaa
