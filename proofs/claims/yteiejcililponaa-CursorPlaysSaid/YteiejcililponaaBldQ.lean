/- Contracts of strings.Builder, as Go's library has it. -/
import Derived.Test.YteiejcililponaaTysQ
import Derived.Lib.Builder
import Derived.Lib.AppendStr
import Derived.Lib.UnsafeStr
set_option linter.unusedVariables false
set_option linter.unusedSimpArgs false
namespace Go.Proofs.Yteiejcililponaa
open Go.RowKit Go.Lib

/-- Bytes as cells. -/
def bys (s : List UInt8) : List Value := s.map fun b => Value.int .u8 b.toNat
theorem bys_length (s : List UInt8) : (bys s).length = s.length := by simp [bys]
theorem bys_append (s t : List UInt8) : bys (s ++ t) = bys s ++ bys t := by simp [bys]
/-- A builder at block b, with v for its buffer, that holds s. -/
def bld (b : Nat) (v : Value) (s : List UInt8) : En :=
  ⟨fun k => k = b ∨ v.ownBlock = some k, fun w => (v.ownBlock ≠ some b ∧ (s = [] → v = .slice none 0 0)) ∧ (w.heap[b]? = some (.cells #[.pointer none, v] 116 (0, 0)) ∨ w.heap[b]? = some (.cells #[.pointer (some ⟨b, 0, none⟩), v] 116 (0, 0))) ∧ w.ownsRow 0 5 1 v s.length (bys s),
   fun w w' h ⟨h1, h2, h3⟩ => ⟨h1, h2.imp (fun h2 => (h b (.inl rfl)).trans h2) (fun h2 => (h b (.inl rfl)).trans h2), (vec 5 1 v s.length (bys s)).loc w w' (fun k hk => h k (.inr hk)) h3⟩⟩
section
variable {P : Program} {C : Cx} {k : List It} {fr : Fr} {hp : List En} {all : Array Oper} {l : List Oper} {dst : Option Tmp} {ty : TypeId} {pos : String} {aft : Array Edge} {g : Option (Nat × Bool)}
theorem ov_eqpn {xt yt e : TypeId} [hd : TU P xt (.pointer e)] {x y : Operand} {p : Option Addr} (hx : ev fr x = some (.pointer p)) (hy : ev fr y = some (.pointer none)) : OV P C fr hp ⟨dst, .binOp .eql xt x y yt, ty, pos, aft, g⟩ (.bool p.isNone) :=
  ov_pure (fun r w hr => by
    have h : ∀ d : Nat, (Op.equalIn (d + 1) xt (.pointer p) (.pointer none)).run P w = .ok p.isNone w := fun d => by cases p <;> simp [Op.equalIn, underlying, hd.h]
    simp [execOp, hr _ _ hx, hr _ _ hy, eqGuard]
    cases p <;> simp [binOp, Op.equal, Op.maxDepth, h 9999])
theorem ov_neps {xt yt e : TypeId} [hd : TU P xt (.pointer e)] {ti : TypeInfo} [hti : TI P e ti] {x y : Operand} {p : Addr} (hx : ev fr x = some (.pointer (some p))) (hy : ev fr y = some (.pointer (some p))) : OV P C fr hp ⟨dst, .binOp .neq xt x y yt, ty, pos, aft, g⟩ (.bool false) :=
  ov_pure (fun r w hr => by
    have := run_neq_ptr_same (P := P) (w := w) p hd.h hti.h
    simp [execOp, hr _ _ hx, hr _ _ hy, eqGuard, this])
theorem shape_blk {D : Nat → Prop} {w0 w : World} (hw : HpOk D w0 hp w) {i b : Nat} {e : TypeId} {cs : List Value} (hi : hp[i]? = some (blk b e cs)) : w.shape? b = some (e, cs.length) := by
  have hh : w.heap[b]? = some (.cells cs.toArray e (0, 0)) := (hw.get hi).1
  simp [World.shape?, hh]
theorem ov_toUnsafe {st dt e e' : TypeId} [hs : TU P st (.pointer e)] [hd : TU P dt .unsafePointer] {ti : TypeInfo} [hti : TI P e ti] {x : Operand} {b off : Nat} (i : Nat) {cs : List Value} (hx : ev fr x = some (.pointer (some ⟨b, off, none⟩))) (hi : hp[i]? = some (blk b e' cs)) (hz : Nat.beq ti.size 0 = false) (ho : Nat.blt off cs.length = true) :
    OV P C fr hp ⟨dst, .convert st dt x, ty, pos, aft, g⟩ (.pointer (some ⟨b, off, none⟩)) :=
  ov_read fun r w hr hw => by
    have hz' : ti.size ≠ 0 := by intro e; rw [e] at hz; cases hz
    have := run_to_unsafe (P := P) (w := w) ⟨b, off, none⟩ hs.h hd.h hti.h hz' (shape_blk hw hi) (by simpa [Nat.blt_eq] using ho)
    simp [execOp, hr _ _ hx, this]
theorem ov_fromUnsafe {st dt e e' : TypeId} [hs : TU P st .unsafePointer] [hd : TU P dt (.pointer e)] {ti : TypeInfo} [hti : TI P e ti] {x : Operand} {b off : Nat} (i : Nat) {cs : List Value} (hx : ev fr x = some (.pointer (some ⟨b, off, none⟩))) (hi : hp[i]? = some (blk b e' cs)) (hlies : liesAt P P.depth e' (cs.length / P.cellsOf e') off e 1 = true) :
    OV P C fr hp ⟨dst, .convert st dt x, ty, pos, aft, g⟩ (.pointer (some ⟨b, off, none⟩)) :=
  ov_read fun r w hr hw => by
    have := run_from_unsafe (P := P) (w := w) ⟨b, off, none⟩ hs.h hd.h hti.h (shape_blk hw hi) hlies
    simp [execOp, hr _ _ hx, this]
theorem ov_extern {f : FuncId} {fn : Func} {e : Array Value → Sem Value} {args : List Operand} {ats : Array TypeId} {vs : List Value} {v : Value} (hx : evs fr args = some vs) (hf : P.funcs[f]? = some fn) (hname : (fn.name == "runtime.NumGoroutine") = false) (hb : fn.body.isNone = true) (hn : Extern.findNext fn = none) (he : Extern.find fn = some e)
    (hrun : ∀ w, (e vs.toArray).run P w = .ok v w) : OV P C fr hp ⟨dst, .call ⟨.value (.func f), ⟨args⟩, ats⟩, ty, pos, aft, g⟩ v :=
  ov_pure (fun r w hr => by
    have h1 := run_callFunc_extern (P := P) hf hname hb hn he vs.toArray w
    have h2 : r (.func f) = .func (.func f) #[] #[] := hr _ _ rfl
    rw [hrun w] at h1
    unfold execOp
    simp [resolve, Deferred.ofValue, invoke, h2, evs_map hr hx, h1])
/-- 'append(buf, s..)', s a text. -/
theorem sy_appendS {t u e : TypeId} {ti : TypeInfo} [hd : TU P t (.slice e)] [hu : TU P u .string] [hti : TI P e ti] {x y : Operand} (i : Nat) {v : Value} {n : Nat} {cs : List Value} {s : List UInt8} (hx : ev fr x = some v) (hy : ev fr y = some (S s)) (hi : hp[i]? = some (vec e 1 v n cs))
    (hz : ti.zero = some (.int .u8 0)) (hsize : ti.size = 1) (hby : ti.bytes = 1) (hf : Fits C.n dst) (h63 : n + s.length ≤ 140737488355328)
    (hk : ∀ p q, (v = .slice none 0 0 → s = [] → (Value.slice p (n + s.length) q) = .slice none 0 0) → Sy P C (.o all l :: k) (put dst (.slice p (n + s.length) q) fr) (hp.set i (vec e 1 (.slice p (n + s.length) q) (n + s.length) (cs ++ bys s)))) :
    Sy P C (.o all (⟨dst, .call ⟨.builtin .append, ⟨[x, y]⟩, ⟨[t, u]⟩⟩, ty, pos, aft, none⟩ :: l) :: k) fr hp :=
  sy_op rfl fun a w ha hw => by
    have hown : w.ownsRow 0 e 1 v n cs := (hw.get hi).1
    obtain ⟨v', w', hr, ho, hg, hnil⟩ := run_append_own_string (P := P) w 0 t u ty e ti hd.h hu.h hti.h hz hsize hby v n cs hown ⟨⟨s⟩⟩ (by show n + s.length ≤ maxLen; unfold maxLen; omega) h63 (Nat.zero_le _)
    have ho : w'.ownsRow 0 e 1 v' (n + s.length) (cs ++ bys s) := ho
    have shape : ∃ p q, v' = .slice p (n + s.length) q := by
      rcases ho.2 with ⟨rfl, h0⟩ | ⟨g, q, cur, hv, _⟩
      · exact ⟨none, 0, by rw [h0]⟩
      · exact ⟨_, q, hv⟩
    -- where the new buffer lies: the one that was, or a new one
    have where_ : ∀ k, v'.ownBlock = some k → v.ownBlock = some k ∨ w.heap.size ≤ k := by
      intro k hk'
      rcases hown.2 with ⟨rfl, rfl⟩ | ⟨g0, cap, cur, rfl, _, hg0, hnc, hcm, hcs, htake⟩
      · right
        have hown' : w.ownsRow w.heap.size e 1 (.slice none 0 0) 0 cs := ⟨hown.1, .inl ⟨rfl, rfl⟩⟩
        obtain ⟨v2, w2, hr2, ho2, _⟩ := run_append_own_string (P := P) w w.heap.size t u ty e ti hd.h hu.h hti.h hz hsize hby _ 0 cs hown' ⟨⟨s⟩⟩ (by show 0 + s.length ≤ maxLen; unfold maxLen; omega) h63 (Nat.le_refl _)
        rw [hr] at hr2
        cases hr2
        rcases ho2.2 with ⟨hv, _⟩ | ⟨g', q', cur', hv, hb, _⟩
        · rw [hv] at hk'; cases hk'
        · rw [hv] at hk'; cases hk'; exact hb
      · rcases ho.2 with ⟨hv, _⟩ | ⟨g', q', cur', hv, _, hg', _⟩
        · rw [hv] at hk'; cases hk'
        · rw [hv] at hk'
          have hk2 : g' = k := by simpa [Value.ownBlock] using hk'
          subst hk2
          by_cases hgk : g' = g0
          · left; subst hgk; rfl
          · right
            -- a call's own row from g' on would lie behind g0 alike: the row is looked at from either number
            rcases Nat.lt_or_ge g' w.heap.size with hlt | hge
            · exfalso
              have hst := hg.block g' hlt (by intro e; cases e; exact hgk rfl)
              by_cases hroom : n + s.length ≤ cap
              · have hfit : n + s.length ≤ cur.size := by omega
                have hr2 := run_append_room_string (P := P) w t u ty e ti hd.h hu.h hti.h hsize g0 n cap cur hg0 ⟨⟨s⟩⟩ hroom hfit
                rw [hr] at hr2
                cases hr2
                cases hv; exact hgk rfl
              · have holds : ∀ j u, cs[j]? = some u → w.cell? ((⟨g0, 0, none⟩ : Addr).add j) = some u := hown.cells (g := g0) rfl
                have hr2 := run_append_grow_string (P := P) w t u ty e ti (.int .u8 0) hd.h hu.h hti.h hz ⟨g0, 0, none⟩ n cap cs (by rw [hsize]; exact hown.1) holds ⟨⟨s⟩⟩ (by show cap < n + s.length; omega) (by show ((n + s.length : Nat) : Int) ≤ _; omega) (by
                  have := growslice_fits (need := n + s.length) (old := cap) (bytes := 1) (by omega) (by omega)
                  rw [hby]; exact this)
                rw [hr] at hr2
                cases hr2
                cases hv; omega
            · exact hge
    have hlt : ∀ k, v'.ownBlock = some k → k < w'.heap.size := by
      intro k hk'
      rcases ho.2 with ⟨hv, _⟩ | ⟨g', q', cur', hv, _, hg', _⟩
      · rw [hv] at hk'; cases hk'
      · rw [hv] at hk'
        have hk2 : g' = k := by simpa [Value.ownBlock] using hk'
        subst hk2; exact block_lt hg'
    have hr' : (execOp a.eval ⟨dst, .call ⟨.builtin .append, ⟨[x, y]⟩, ⟨[t, u]⟩⟩, ty, pos, aft, none⟩).run P w = .ok (.value v') w' := by
      simp [execOp, ha.ev hx, ha.ev hy, resolve, invoke, builtin, hr]
    unfold Oper.wp; rw [hr']
    obtain ⟨p', q', rfl⟩ := shape
    exact (hk p' q' (fun e1 e2 => hnil.2 ⟨e1, by rw [e2]; rfl⟩)).go _ _ (ha.put hf _) (hw.regrow hi ho ⟨hg.os, hg.tape, hg.output, hg.size, fun b hlt' hd' => hg.block b hlt' (fun e' => hd' e'.symm)⟩ (fun b hb => ⟨hlt b hb, where_ b hb⟩))
/-- What a callee does with a piece of its caller's memory. -/
def Works (P : Program) (f : FuncId) (vs : List Value) (e : En) (R : Value → En → Prop) : Prop := ∀ w : World, e.holds w → (∀ b, e.dom b → b < w.heap.size) → Calls P f vs.toArray w fun x w' => ∃ v e', R v e' ∧ x = .returned v ∧ e'.holds w' ∧ Keep e.dom w w' ∧ ∀ b, e'.dom b → b < w'.heap.size ∧ (e.dom b ∨ w.heap.size ≤ b)
theorem sy_works {f : FuncId} {fn : Func} [hfn : FN P f fn] {args : List Operand} {ats : Array TypeId} {vs : List Value} {R : Value → En → Prop} (i : Nat) {e : En} (hx : evs fr args = some vs) (hi : hp[i]? = some e) (hf : Fits C.n dst) (hc : Works P f vs e R)
    (hk : ∀ v e', R v e' → Sy P C (.o all l :: k) (put dst v fr) (hp.set i e')) : Sy P C (.o all (⟨dst, .call ⟨.value (.func f), ⟨args⟩, ats⟩, ty, pos, aft, none⟩ :: l) :: k) fr hp :=
  sy_call1 i hx hi hf (fun w _ => hc w) hk
theorem bld_split {D : Nat → Prop} {w0 w : World} {b : Nat} {v : Value} {s : List UInt8} {rest : List En} (h : HpOk D w0 (bld b v s :: rest) w) :
    (s = [] → v = .slice none 0 0) ∧ ∃ ad, (ad = none ∨ ad = some ⟨b, 0, none⟩) ∧ HpOk D w0 (blk b 116 [.pointer ad, v] :: vec 5 1 v s.length (bys s) :: rest) w := by
  obtain ⟨⟨h1, h2, h3⟩, hd⟩ := h.own _ List.mem_cons_self
  have hs := h.sep
  cases hs with | cons hx hr =>
  have mk : ∀ ad, w.heap[b]? = some (.cells #[.pointer ad, v] 116 (0, 0)) → HpOk D w0 (blk b 116 [.pointer ad, v] :: vec 5 1 v s.length (bys s) :: rest) w := fun ad hb => by
    refine ⟨h.keep, fun e he => ?_, ?_⟩
    · rcases List.mem_cons.1 he with rfl | he
      · exact ⟨hb, fun k hk => hd k (.inl hk)⟩
      · rcases List.mem_cons.1 he with rfl | he
        · exact ⟨h3, fun k hk => hd k (.inr hk)⟩
        · exact h.own e (List.mem_cons_of_mem _ he)
    · refine List.Pairwise.cons (fun f hf k hk => ?_) (List.Pairwise.cons (fun f hf k hk => hx f hf k (.inr hk)) hr)
      rcases List.mem_cons.1 hf with rfl | hf
      · intro hk'; have hkb : k = b := hk; subst hkb; exact h1.1 hk'
      · exact hx f hf k (.inl hk)
  refine ⟨h1.2, ?_⟩
  rcases h2 with h2 | h2
  · exact ⟨_, .inl rfl, mk _ h2⟩
  · exact ⟨_, .inr rfl, mk _ h2⟩
theorem sy_split {b : Nat} {v : Value} {s : List UInt8} {rest : List En} (h : (s = [] → v = .slice none 0 0) → ∀ ad, (ad = none ∨ ad = some ⟨b, 0, none⟩) → Sy P C k fr (blk b 116 [.pointer ad, v] :: vec 5 1 v s.length (bys s) :: rest)) : Sy P C k fr (bld b v s :: rest) :=
  .mk fun a w ha hw => by
    obtain ⟨hn, ad, had, hw'⟩ := bld_split hw
    exact (h hn ad had).go a w ha hw'
theorem bld_of {D : Nat → Prop} {w0 w : World} {b : Nat} {v : Value} {s : List UInt8} {hp : List En} {ad : Option Addr} {n : Nat} {cs : List Value} (h : HpOk D w0 hp w) (i j : Nat) (hi : hp[i]? = some (blk b 116 [.pointer ad, v])) (hj : hp[j]? = some (vec 5 1 v n cs)) (hij : i ≠ j) (hn : n = s.length) (hcs : cs = bys s) (had : ad = none ∨ ad = some ⟨b, 0, none⟩) (hnil : s = [] → v = .slice none 0 0) :
    (bld b v s).holds w ∧ ∀ k, (bld b v s).dom k → k < w.heap.size ∧ (D k ∨ w0.heap.size ≤ k) := by
  subst hn; subst hcs
  have h1 := h.get hi
  have h2 := h.get hj
  have hb : w.heap[b]? = some (.cells #[.pointer ad, v] 116 (0, 0)) := h1.1
  refine ⟨⟨⟨fun e => h.apart hi hj hij b rfl e, hnil⟩, ?_, h2.1⟩, fun k hk => ?_⟩
  · rcases had with rfl | rfl
    · exact .inl hb
    · exact .inr hb
  · rcases hk with hk | hk
    · exact ⟨(h1.2 k hk).2, (h1.2 k hk).1⟩
    · exact ⟨(h2.2 k hk).2, (h2.2 k hk).1⟩
end
theorem bld_shape {b : Nat} {v : Value} {s : List UInt8} {w : World} (h : (bld b v s).holds w) : ∃ p q, v = .slice p s.length q := by
  rcases h.2.2.2 with ⟨h1, h2⟩ | ⟨g, q, cur, hv, _⟩
  · exact ⟨none, 0, by rw [h1, h2]⟩
  · exact ⟨_, q, hv⟩
/-- A builder that was just made. -/
theorem sy_newBld {P : Program} {C : Cx} {k : List It} {fr : Fr} {b : Nat} {rest : List En} (h : Sy P C k fr (bld b (.slice none 0 0) [] :: rest)) : Sy P C k fr (blk b 116 [.pointer none, .slice none 0 0] :: rest) :=
  .mk fun a w ha hw => h.go a w ha (by
    have h1 := hw.own _ List.mem_cons_self
    have hb : w.heap[b]? = some (.cells #[.pointer none, .slice none 0 0] 116 (0, 0)) := h1.1
    have hs := hw.sep
    cases hs with | cons hx hr =>
    refine ⟨hw.keep, fun e he => ?_, List.Pairwise.cons (fun f hf k hk => hx f hf k (hk.elim (fun e => e) (fun e => by cases e))) hr⟩
    rcases List.mem_cons.1 he with rfl | he
    · exact ⟨⟨⟨by simp [Value.ownBlock], fun _ => rfl⟩, .inl hb, World.ownsRow_nil w 0 _ 1⟩, fun k hk => h1.2 k (hk.elim (fun e => e) (fun e => by cases e))⟩
    · exact hw.own e (List.mem_cons_of_mem _ he))
/-! ### the methods -/
def sameBld (b : Nat) (v : Value) (s : List UInt8) : Value → En → Prop := fun r e' => r = .tuple #[] ∧ e' = bld b v s
set_option maxRecDepth 20000 in
theorem copyCheck_w (b : Nat) (v : Value) (s : List UInt8) : Works Try.prog 167 [.pointer (some ⟨b, 0, none⟩)] (bld b v s) (sameBld b v s) := by
  intro w he hd
  refine sy_enter1 rfl rfl he hd ?_
  simp only [initFr]
  refine sy_split fun hnil ad had => ?_
  rcases had with rfl | rfl
  · repeat (first | refine sy_k rfl rfl ?_ | (refine gO ?_; first | refine sy_ov (ov_p rfl) rfl rfl ?_ | (refine gL ?_; refine sy_ov (ov_ld 0 rfl rfl rfl) rfl rfl ?_) | refine sy_ov (ov_fieldAddr rfl rfl rfl) rfl rfl ?_))
    refine sy_ov (ov_eqpn rfl rfl) rfl rfl ?_
    repeat (first | refine sy_k rfl rfl ?_ | (refine gO ?_; refine sy_ov (ov_p rfl) rfl rfl ?_) | (refine sy_cond_t rfl ?_ ?_; focus (first | with_reducible rfl | assumption | omega | (simp <;> first | omega | assumption))))
    refine sy_ov (ov_toUnsafe 0 rfl rfl rfl rfl) rfl rfl ?_
    refine sy_ov (ov_extern (vs := [.pointer (some ⟨b, 0, none⟩)]) rfl Try.func202 rfl rfl (by kernel_rfl) (by kernel_rfl) (fun w => run_noEscape (P := Try.prog) (w := w) _)) rfl rfl ?_
    refine sy_ov (ov_fromUnsafe 0 rfl rfl (by kernel_rfl)) rfl rfl ?_
    repeat (first | refine sy_k rfl rfl ?_ | (refine gO ?_; first | refine sy_ov (ov_p rfl) rfl rfl ?_ | (refine gS ?_; refine sy_store 0 rfl rfl rfl rfl rfl rfl rfl rfl ?_) | refine sy_ov (ov_fieldAddr rfl rfl rfl) rfl rfl ?_))
    refine end0w rfl fun w' hw' => ?_
    obtain ⟨h1, h2⟩ := bld_of (s := s) hw' 0 1 rfl rfl (by decide) rfl rfl (.inr rfl) hnil
    exact ⟨_, _, ⟨rfl, rfl⟩, rfl, h1, hw'.keep, h2⟩
  · repeat (first | refine sy_k rfl rfl ?_ | (refine gO ?_; first | refine sy_ov (ov_p rfl) rfl rfl ?_ | (refine gL ?_; refine sy_ov (ov_ld 0 rfl rfl rfl) rfl rfl ?_) | refine sy_ov (ov_fieldAddr rfl rfl rfl) rfl rfl ?_))
    refine sy_ov (ov_eqpn rfl rfl) rfl rfl ?_
    repeat (first | refine sy_k rfl rfl ?_ | (refine gO ?_; first | refine sy_ov (ov_p rfl) rfl rfl ?_ | (refine gL ?_; refine sy_ov (ov_ld 0 rfl rfl rfl) rfl rfl ?_) | refine sy_ov (ov_fieldAddr rfl rfl rfl) rfl rfl ?_) | (refine sy_cond_f rfl ?_ ?_; focus (first | with_reducible rfl | assumption | omega | (simp <;> first | omega | assumption))))
    refine sy_ov (ov_neps rfl rfl) rfl rfl ?_
    repeat (first | refine sy_k rfl rfl ?_ | (refine sy_cond_f rfl ?_ ?_; focus (first | with_reducible rfl | assumption | omega | (simp <;> first | omega | assumption))))
    refine end0w rfl fun w' hw' => ?_
    obtain ⟨h1, h2⟩ := bld_of (s := s) hw' 0 1 rfl rfl (by decide) rfl rfl (.inr rfl) hnil
    exact ⟨_, _, ⟨rfl, rfl⟩, rfl, h1, hw'.keep, h2⟩
theorem bys_one (c : Int) (h0 : 0 ≤ c) (h1 : c ≤ 255) : [Value.int .u8 c] = bys [UInt8.ofNat c.toNat] := by
  unfold bys
  have : ((UInt8.ofNat c.toNat).toNat : Int) = c := by
    rw [UInt8.toNat_ofNat']; omega
  rw [List.map_cons, this]; rfl
set_option maxRecDepth 20000 in
theorem writeByte_w (b : Nat) (v : Value) (s : List UInt8) (c : Int) (h0 : 0 ≤ c) (h1 : c ≤ 255) (hs : s.length ≤ 70000000000000) :
    Works Try.prog 129 [.pointer (some ⟨b, 0, none⟩), .int .u8 c] (bld b v s) (fun r e' => r = .nilIface ∧ ∃ v', e' = bld b v' (s ++ [UInt8.ofNat c.toNat])) := by
  intro w he hd
  refine sy_enter1 rfl rfl he hd ?_
  simp only [initFr]
  repeat (first | refine sy_k rfl rfl ?_ | (refine gO ?_; refine sy_ov (ov_p rfl) rfl rfl ?_))
  refine sy_works 0 rfl rfl rfl (copyCheck_w b v s) ?_
  rintro r e' ⟨rfl, rfl⟩
  refine sy_split fun hnil ad had => ?_
  repeat (first | refine sy_k rfl rfl ?_ | (refine gO ?_; first | refine sy_ov (ov_p rfl) rfl rfl ?_ | (refine gL ?_; refine sy_ov (ov_ld 0 rfl rfl rfl) rfl rfl ?_) | refine sy_ov (ov_fieldAddr rfl rfl rfl) rfl rfl ?_))
  refine sy_buildSlice rfl rfl rfl rfl rfl rfl rfl rfl ?_
  intro nb
  refine sy_append 2 0 rfl rfl rfl rfl rfl rfl rfl rfl rfl rfl rfl (by omega) (by show (s.length + 1) * 1 ≤ _; omega) ?_
  intro p q
  repeat (first | refine sy_k rfl rfl ?_ | (refine gO ?_; first | refine sy_ov (ov_p rfl) rfl rfl ?_ | (refine gS ?_; refine sy_store 1 rfl rfl rfl rfl rfl rfl rfl rfl ?_) | refine sy_ov (ov_fieldAddr rfl rfl rfl) rfl rfl ?_) | refine sy_rt ?_)
  refine ret1w rfl rfl fun w' hw' => ?_
  obtain ⟨h1, h2⟩ := bld_of (s := s ++ [UInt8.ofNat c.toNat]) hw' 1 2 rfl rfl (by decide) (by simp) (by show bys s ++ [Value.int .u8 c] = _; rw [bys_append, ← bys_one c h0 h1]) had (fun e => by simp at e)
  exact ⟨_, _, ⟨rfl, _, rfl⟩, rfl, h1, hw'.keep, h2⟩
set_option maxRecDepth 20000 in
theorem writeString_w (b : Nat) (v : Value) (s u : List UInt8) (hs : s.length ≤ 70000000000000) (hu : u.length ≤ 70000000000000) :
    Works Try.prog 128 [.pointer (some ⟨b, 0, none⟩), S u] (bld b v s) (fun r e' => r = .tuple #[.int .i64 u.length, .nilIface] ∧ ∃ v', e' = bld b v' (s ++ u)) := by
  intro w he hd
  refine sy_enter1 rfl rfl he hd ?_
  simp only [initFr]
  repeat (first | refine sy_k rfl rfl ?_ | (refine gO ?_; refine sy_ov (ov_p rfl) rfl rfl ?_))
  refine sy_works 0 rfl rfl rfl (copyCheck_w b v s) ?_
  rintro r e' ⟨rfl, rfl⟩
  refine sy_split fun hnil ad had => ?_
  repeat (first | refine sy_k rfl rfl ?_ | (refine gO ?_; first | refine sy_ov (ov_p rfl) rfl rfl ?_ | (refine gL ?_; refine sy_ov (ov_ld 0 rfl rfl rfl) rfl rfl ?_) | refine sy_ov (ov_fieldAddr rfl rfl rfl) rfl rfl ?_))
  refine sy_appendS 1 rfl rfl rfl rfl rfl rfl rfl (by omega) ?_
  intro p q hn2
  repeat (first | refine sy_k rfl rfl ?_ | (refine gO ?_; first | refine sy_ov (ov_p rfl) rfl rfl ?_ | (refine gK ?_; refine sy_ov (ov_len rfl) rfl rfl ?_) | (refine gS ?_; refine sy_store 0 rfl rfl rfl rfl rfl rfl rfl rfl ?_) | refine sy_ov (ov_fieldAddr rfl rfl rfl) rfl rfl ?_) | refine sy_rt ?_)
  refine ret2w rfl rfl rfl fun w' hw' => ?_
  obtain ⟨h1, h2⟩ := bld_of (s := s ++ u) hw' 0 1 rfl rfl (by decide) (by simp) (by rw [bys_append]) had (fun e => by
    rw [List.append_eq_nil_iff] at e; exact hn2 (hnil e.1) e.2)
  exact ⟨_, _, ⟨rfl, _, rfl⟩, rfl, h1, hw'.keep, h2⟩
/-- Nothing that the call needs any more. -/
def gone : En := ⟨fun _ => False, fun _ => True, fun _ _ _ _ => trivial⟩
theorem ov_sliceData_nil {P : Program} {C : Cx} {fr : Fr} {hp : List En} {dst : Option Tmp} {ty : TypeId} {pos : String} {aft : Array Edge} {g : Option (Nat × Bool)} {ts : Array TypeId} {x : Operand} {n c : Nat} (hx : ev fr x = some (.slice none n c)) : OV P C fr hp ⟨dst, .call ⟨.builtin .unsafeSliceData, ⟨[x]⟩, ts⟩, ty, pos, aft, g⟩ (.pointer none) :=
  ov_pure (fun r w hr => by
    have := run_unsafeSliceData_nil (P := P) (w := w) ts ty n c
    simp [execOp, hr _ _ hx, resolve, invoke, builtin, this])
theorem ov_sliceData {P : Program} {C : Cx} {fr : Fr} {hp : List En} {dst : Option Tmp} {ty : TypeId} {pos : String} {aft : Array Edge} {g : Option (Nat × Bool)} {ts : Array TypeId} {x : Operand} {n c : Nat} {a : Addr} (hx : ev fr x = some (.slice (some a) n c)) (hc : c ≠ 0) : OV P C fr hp ⟨dst, .call ⟨.builtin .unsafeSliceData, ⟨[x]⟩, ts⟩, ty, pos, aft, g⟩ (.pointer (some a)) :=
  ov_pure (fun r w hr => by
    have := run_unsafeSliceData_row (P := P) (w := w) ts ty a n c hc
    simp [execOp, hr _ _ hx, resolve, invoke, builtin, this])
theorem ov_unsafeString_nil {P : Program} {C : Cx} {fr : Fr} {hp : List En} {dst : Option Tmp} {ty : TypeId} {pos : String} {aft : Array Edge} {g : Option (Nat × Bool)} {pt it : TypeId} {x y : Operand} {p : Option Addr} (hx : ev fr x = some (.pointer p)) (hy : ev fr y = some (.int .i64 0)) : OV P C fr hp ⟨dst, .call ⟨.builtin .unsafeString, ⟨[x, y]⟩, ⟨[pt, it]⟩⟩, ty, pos, aft, g⟩ (S []) :=
  ov_pure (fun r w hr => by
    have := run_unsafeString_none (P := P) (w := w) pt it ty p
    simp [execOp, hr _ _ hx, hr _ _ hy, resolve, invoke, builtin, this]; rfl)
/-- A text over a row of the call's own: the row is not written any more. -/
theorem sy_unsafeString {P : Program} {C : Cx} {k : List It} {fr : Fr} {hp : List En} {all : Array Oper} {l : List Oper} {dst : Option Tmp} {ty : TypeId} {pos : String} {aft : Array Edge} {pt it e : TypeId} [hpt : TU P pt (.pointer e)] {x y : Operand} {b n c : Nat} {s : List UInt8} (i : Nat) (hx : ev fr x = some (.pointer (some ⟨b, 0, none⟩))) (hy : ev fr y = some (.int .i64 (s.length : Int))) (hi : hp[i]? = some (vec e 1 (.slice (some ⟨b, 0, none⟩) n c) n (bys s))) (hn : n = s.length) (he : P.cellsOf e = 1) (hs : s ≠ []) (hl : s.length ≤ 9223372036854775807) (hf : Fits C.n dst)
    (hk : Sy P C (.o all l :: k) (put dst (S s) fr) (hp.set i gone)) : Sy P C (.o all (⟨dst, .call ⟨.builtin .unsafeString, ⟨[x, y]⟩, ⟨[pt, it]⟩⟩, ty, pos, aft, none⟩ :: l) :: k) fr hp :=
  sy_op rfl fun a w ha hw => by
    subst hn
    have hown : w.ownsRow 0 e 1 (.slice (some ⟨b, 0, none⟩) s.length c) s.length (bys s) := (hw.get hi).1
    have hcells := hown.cells (g := b) rfl
    obtain ⟨_, h2⟩ := hown
    rcases h2 with ⟨h2, _⟩ | ⟨g, cap, cur, hv, _, hg, hnc, hcm, hcs, _⟩
    · cases h2
    · cases hv
      have hsh : w.shape? b = some (e, cur.size) := by simp [World.shape?, hg]
      have hr := run_unsafeString_row (P := P) (w := w) pt it ty e hpt.h he b cur.size hsh s hs (by omega) hl (fun j x hj => hcells j _ (by unfold bys; rw [List.getElem?_map, hj]; rfl))
      have hr' : (execOp a.eval ⟨dst, .call ⟨.builtin .unsafeString, ⟨[x, y]⟩, ⟨[pt, it]⟩⟩, ty, pos, aft, none⟩).run P w = .ok (.value (S s)) (w.freeze ⟨b, 0, none⟩ s.length) := by
        simp [execOp, ha.ev hx, ha.ev hy, resolve, invoke, builtin, hr]
      unfold Oper.wp; rw [hr']
      have hfr : ∀ k, k ≠ b → (w.freeze ⟨b, 0, none⟩ s.length).heap[k]? = w.heap[k]? := fun k hk => by
        unfold World.freeze
        split
        · rfl
        · simp only [Array.getElem?_modify]; rw [if_neg (fun e => hk e.symm)]
      have hsz : (w.freeze ⟨b, 0, none⟩ s.length).heap.size = w.heap.size := by unfold World.freeze; split <;> simp
      refine hk.go _ _ (ha.put hf _) (hw.regrow hi trivial ⟨?_, ?_, ?_, Nat.le_of_eq hsz.symm, fun k _ hk => hfr k (fun e => hk (by rw [e]; rfl))⟩ (fun b hb => hb.elim))
      all_goals (unfold World.freeze; split <;> rfl)
set_option maxRecDepth 20000 in
theorem string_w (b : Nat) (v : Value) (s : List UInt8) (hs : s.length ≤ 140000000000000) :
    Works Try.prog 90 [.pointer (some ⟨b, 0, none⟩)] (bld b v s) (fun r e' => r = S s ∧ e' = gone) := by
  intro w he hd
  obtain ⟨p, q, rfl⟩ := bld_shape he
  have hn0 := he.1.2
  by_cases h0 : s = []
  · subst h0
    cases hn0 rfl
    refine sy_enter1 rfl rfl he hd ?_
    simp only [initFr]
    refine sy_split fun hnil ad had => ?_
    repeat (first | refine sy_k rfl rfl ?_ | (refine gO ?_; refine sy_ov (ov_p rfl) rfl rfl ?_))
    refine sy_draw 10 (by kernel_rfl) ?_
    repeat (first | refine dr_op (ov_p rfl) rfl rfl ?_ | refine dr_op (ov_ld 0 rfl rfl rfl) rfl rfl ?_ | refine dr_op (ov_fieldAddr rfl rfl rfl) rfl rfl ?_)
    refine dr_op (ov_sliceData_nil rfl) rfl rfl ?_
    repeat (first | refine dr_op (ov_p rfl) rfl rfl ?_ | refine dr_op (ov_lens rfl) rfl rfl ?_ | refine dr_op (ov_ld 0 rfl rfl rfl) rfl rfl ?_ | refine dr_op (ov_fieldAddr rfl rfl rfl) rfl rfl ?_ | refine dr_end ?_)
    refine sy_ov (ov_unsafeString_nil rfl rfl) rfl rfl ?_
    repeat (first | refine sy_k rfl rfl ?_ | (refine gO ?_; refine sy_ov (ov_p rfl) rfl rfl ?_) | refine sy_rt ?_)
    exact ret1w rfl rfl fun w' hw' => ⟨_, gone, ⟨rfl, rfl⟩, rfl, trivial, hw'.keep, fun k hk => hk.elim⟩
  · have hq : ∃ g, p = some ⟨g, 0, none⟩ ∧ q ≠ 0 := by
      have hl : 0 < s.length := List.length_pos_iff.2 h0
      rcases he.2.2.2 with ⟨hv, h2⟩ | ⟨g, cap, cur, hv, _, hg, hnc, _⟩
      · omega
      · cases hv; exact ⟨g, rfl, by omega⟩
    obtain ⟨g, rfl, hq⟩ := hq
    refine sy_enter1 rfl rfl he hd ?_
    simp only [initFr]
    refine sy_split fun hnil ad had => ?_
    repeat (first | refine sy_k rfl rfl ?_ | (refine gO ?_; refine sy_ov (ov_p rfl) rfl rfl ?_))
    refine sy_draw 10 (by kernel_rfl) ?_
    repeat (first | refine dr_op (ov_p rfl) rfl rfl ?_ | refine dr_op (ov_ld 0 rfl rfl rfl) rfl rfl ?_ | refine dr_op (ov_fieldAddr rfl rfl rfl) rfl rfl ?_)
    refine dr_op (ov_sliceData rfl hq) rfl rfl ?_
    repeat (first | refine dr_op (ov_p rfl) rfl rfl ?_ | refine dr_op (ov_lens rfl) rfl rfl ?_ | refine dr_op (ov_ld 0 rfl rfl rfl) rfl rfl ?_ | refine dr_op (ov_fieldAddr rfl rfl rfl) rfl rfl ?_ | refine dr_end ?_)
    refine sy_unsafeString 1 rfl rfl rfl rfl (by kernel_rfl) h0 (by omega) rfl ?_
    repeat (first | refine sy_k rfl rfl ?_ | (refine gO ?_; refine sy_ov (ov_p rfl) rfl rfl ?_) | refine sy_rt ?_)
    exact ret1w rfl rfl fun w' hw' => ⟨_, gone, ⟨rfl, rfl⟩, rfl, trivial, hw'.keep, fun k hk => hk.elim⟩
end Go.Proofs.Yteiejcililponaa
