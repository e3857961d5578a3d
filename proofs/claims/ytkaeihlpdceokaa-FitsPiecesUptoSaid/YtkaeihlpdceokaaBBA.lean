/- BBA: texts of this proof, joined by program: Base, Base2, Run, Mem. -/
import Derived.Test.YtkaeihlpdceokaaRows
import Derived.Test.YtkaeihlpdceokaaBPL
import Derived.WalkKit
import Derived.WalkSpells
import Derived.WalkLawsBesides
import Derived.Lib.Hide
import Derived.Outline
import Derived.RegionTactic
import Derived.OwnWalk
import Derived.Laws.AppendOwn
import Derived.OpenShut
/- Small laws of the walk that all texts here share: worlds that grew, strings of bytes. -/
set_option linter.unusedVariables false
set_option linter.unusedSimpArgs false
namespace Go.Proofs.Ytkaeihlpdceokaa
open Go.RowKit Bf
theorem bfacts {W w1 : World} (hb : Below W.heap.size W w1) : (∀ b o, b < W.heap.size → w1.cell? ⟨b, o, none⟩ = W.cell? ⟨b, o, none⟩) ∧ (∀ b o, b < W.heap.size → w1.frozen? ⟨b, o, none⟩ = W.frozen? ⟨b, o, none⟩) ∧ (∀ b, b < W.heap.size → b < w1.heap.size) ∧ (∀ b, b ≤ W.heap.size → b ≤ w1.heap.size) ∧ (∀ b, b < W.heap.size → b ≤ w1.heap.size) :=
 ⟨fun b o h => hb.cell (p := ⟨b, o, none⟩) h, fun b o h => hb.frozen (p := ⟨b, o, none⟩) h, fun b h => Nat.lt_of_lt_of_le h hb.size, fun b h => Nat.le_trans h hb.size, fun b h => Nat.le_trans (Nat.le_of_lt h) hb.size⟩
theorem bl_step {w W w' : World} (h : Below w.heap.size w W) (h' : Below W.heap.size W w') : Below w.heap.size w w' := h.trans (h'.mono h.size)
theorem bl_alloc {w W : World} (h : Below w.heap.size w W) (o : Obj) : Below w.heap.size w (W.alloc o) := h.alloc h.size o
theorem bl_set {w W : World} (h : Below w.heap.size w W) {p : Addr} (hp : w.heap.size ≤ p.block) (u : Value) : Below w.heap.size w (W.setCell p u) := h.setCell hp u
theorem bl_drewN {w W : World} (h : Below w.heap.size w W) (n : Nat) : Below w.heap.size w (W.drewN n) := ⟨h.os, h.tape, h.output, h.size, h.block⟩
theorem foldl_push_ints : ∀ (l : List Int) (r : ByteArray), l.foldl (fun r n => r.push (UInt8.ofNat n.toNat)) r = ⟨r.data ++ (l.map fun n => UInt8.ofNat n.toNat).toArray⟩
 | [], r => by simp
 | b :: l, r => by
  simp only [List.foldl_cons]
  rw [foldl_push_ints l]
  simp [ByteArray.push]
theorem conv_row {P : Program} (w : World) (src dst e : TypeId) (ns : List Int) (n c : Nat) (hn : n = ns.length) (hs : P.underlying src = some (.slice e)) (he : P.underlying e = some (.int .u8)) (hd : P.underlying dst = some .string) :
 (convert src dst (.slice (some ⟨w.heap.size, 0, none⟩) n c)).run P (w.alloc (.cells (ns.map (Value.int .u8)).toArray e)) = .ok (.string ⟨(ns.map fun n => UInt8.ofNat n.toNat).toArray⟩) (w.alloc (.cells (ns.map (Value.int .u8)).toArray e)) := by
 subst hn
 rw [run_convert_bytes_string _ src dst e _ _ _ hs he hd]
 have hl := run_loadCells_list (P := P) (w.alloc (.cells (ns.map (Value.int .u8)).toArray e)) ⟨w.heap.size, 0, none⟩ (ns.map (Value.int .u8)) (fun j v hj => by
  have : (⟨w.heap.size, 0, none⟩ : Addr).add j = ⟨w.heap.size, j, none⟩ := by simp [Addr.add]; intro h; exact h.symm
  rw [this, World.cell?_alloc_mark]
  simpa using hj)
 simp only [List.length_map] at hl
 rw [run_bytesToString _ _ ns.length c ns hl, foldl_push_ints]
 have he0 : ByteArray.empty.data = #[] := rfl
 rw [he0]; simp
theorem conv1 (w : World) (a : Int) (c : Nat) : (convert 62 9 (.slice (some ⟨w.heap.size, 0, none⟩) 1 c)).run Try.prog (w.alloc (.cells #[.int .u8 a] 5)) = .ok (.string ⟨#[UInt8.ofNat a.toNat]⟩) (w.alloc (.cells #[.int .u8 a] 5)) :=
 conv_row w _ _ _ [a] 1 c rfl Try.underlying62 Try.underlying5 Try.underlying9
theorem conv2 (w : World) (a b : Int) (c : Nat) : (convert 62 9 (.slice (some ⟨w.heap.size, 0, none⟩) 2 c)).run Try.prog (w.alloc (.cells #[.int .u8 a, .int .u8 b] 5)) = .ok (.string ⟨#[UInt8.ofNat a.toNat, UInt8.ofNat b.toNat]⟩) (w.alloc (.cells #[.int .u8 a, .int .u8 b] 5)) :=
 conv_row w _ _ _ [a, b] 2 c rfl Try.underlying62 Try.underlying5 Try.underlying9
theorem conv3 (w : World) (a b d : Int) (c : Nat) : (convert 62 9 (.slice (some ⟨w.heap.size, 0, none⟩) 3 c)).run Try.prog (w.alloc (.cells #[.int .u8 a, .int .u8 b, .int .u8 d] 5)) = .ok (.string ⟨#[UInt8.ofNat a.toNat, UInt8.ofNat b.toNat, UInt8.ofNat d.toNat]⟩) (w.alloc (.cells #[.int .u8 a, .int .u8 b, .int .u8 d] 5)) :=
 conv_row w _ _ _ [a, b, d] 3 c rfl Try.underlying62 Try.underlying5 Try.underlying9
theorem conv4 (w : World) (a b d f : Int) (c : Nat) : (convert 62 9 (.slice (some ⟨w.heap.size, 0, none⟩) 4 c)).run Try.prog (w.alloc (.cells #[.int .u8 a, .int .u8 b, .int .u8 d, .int .u8 f] 5)) = .ok (.string ⟨#[UInt8.ofNat a.toNat, UInt8.ofNat b.toNat, UInt8.ofNat d.toNat, UInt8.ofNat f.toNat]⟩) (w.alloc (.cells #[.int .u8 a, .int .u8 b, .int .u8 d, .int .u8 f] 5)) :=
 conv_row w _ _ _ [a, b, d, f] 4 c rfl Try.underlying62 Try.underlying5 Try.underlying9
attribute [go_sem] conv1 conv2 conv3 conv4
end Go.Proofs.Ytkaeihlpdceokaa
/- More small laws of the walk: 'string([]byte{..})' where the new row's number is spelled otherwise. -/
namespace Go.Proofs.Ytkaeihlpdceokaa
open Go.RowKit Bf
theorem conv1g (w : World) (a : Int) (c n : Nat) (hn : n = w.heap.size) : (convert 62 9 (.slice (some ⟨n, 0, none⟩) 1 c)).run Try.prog (w.alloc (.cells #[.int .u8 a] 5)) = .ok (.string ⟨#[UInt8.ofNat a.toNat]⟩) (w.alloc (.cells #[.int .u8 a] 5)) := by
 subst hn; exact conv1 w a c
theorem conv2g (w : World) (a b : Int) (c n : Nat) (hn : n = w.heap.size) : (convert 62 9 (.slice (some ⟨n, 0, none⟩) 2 c)).run Try.prog (w.alloc (.cells #[.int .u8 a, .int .u8 b] 5)) = .ok (.string ⟨#[UInt8.ofNat a.toNat, UInt8.ofNat b.toNat]⟩) (w.alloc (.cells #[.int .u8 a, .int .u8 b] 5)) := by
 subst hn; exact conv2 w a b c
theorem conv3g (w : World) (a b d : Int) (c n : Nat) (hn : n = w.heap.size) : (convert 62 9 (.slice (some ⟨n, 0, none⟩) 3 c)).run Try.prog (w.alloc (.cells #[.int .u8 a, .int .u8 b, .int .u8 d] 5)) = .ok (.string ⟨#[UInt8.ofNat a.toNat, UInt8.ofNat b.toNat, UInt8.ofNat d.toNat]⟩) (w.alloc (.cells #[.int .u8 a, .int .u8 b, .int .u8 d] 5)) := by
 subst hn; exact conv3 w a b d c
theorem conv4g (w : World) (a b d f : Int) (c n : Nat) (hn : n = w.heap.size) : (convert 62 9 (.slice (some ⟨n, 0, none⟩) 4 c)).run Try.prog (w.alloc (.cells #[.int .u8 a, .int .u8 b, .int .u8 d, .int .u8 f] 5)) = .ok (.string ⟨#[UInt8.ofNat a.toNat, UInt8.ofNat b.toNat, UInt8.ofNat d.toNat, UInt8.ofNat f.toNat]⟩) (w.alloc (.cells #[.int .u8 a, .int .u8 b, .int .u8 d, .int .u8 f] 5)) := by
 subst hn; exact conv4 w a b d f c
attribute [go_sem] conv1g conv2g conv3g conv4g
end Go.Proofs.Ytkaeihlpdceokaa
/- Running closed code: a function that carries out what needs no choice, and that what it gives is what the call gives. -/
namespace Go.Proofs.Ytkaeihlpdceokaa
open Go.RowKit Bf
def runOps (P : Program) (call : FuncId → Array Value → World → Option (Value × World)) (ops : Array Oper) : List Oper → Act → World → Option (Act × World)
 | [], a, w => some (a, w)
 | o :: rest, a, w =>
  if Region.wanted o (yielded ops a.tmps) then
   match (execOp a.eval o).run P w with
   | .ok (.value v) w' => runOps P call ops rest (a.put o.dst v) w'
   | .ok .skip w' => runOps P call ops rest (a.put o.dst undef) w'
   | .ok (.enter f args) w' =>
    match call f args w' with
    | some (v, w'') => runOps P call ops rest (a.put o.dst v) w''
    | none => none
   | _ => none
  else runOps P call ops rest (a.put o.dst undef) w
def runCode (P : Program) (call : FuncId → Array Value → World → Option (Value × World)) : Nat → Code → Act → World → Option (Exit × Act × World)
 | 0, _, _, _ => none
 | n + 1, c, a, w =>
  match c with
  | .skip => some (.normal, a, w)
  | .exit id => some (.exit id, a, w)
  | .ret => some (.ret, a, w)
  | .region _ ops false =>
   match runOps P call ops ops.toList a w with
   | some (a', w') => some (.normal, a', w')
   | none => none
  | .seq x y =>
   match runCode P call n x a w with
   | some (.normal, a', w') => runCode P call n y a' w'
   | r => r
  | .cond c x y =>
   match a.eval c with
   | .bool true => runCode P call n x a w
   | .bool false => runCode P call n y a w
   | _ => none
  | .block id b =>
   match runCode P call n b a w with
   | some (.exit id', a', w') => if id' = id then some (.normal, a', w') else some (.exit id', a', w')
   | r => r
  | _ => none
def CallOk (P : Program) (call : FuncId → Array Value → World → Option (Value × World)) : Prop :=
 ∀ f args w v w', call f args w = some (v, w') → Calls P f args w fun e w'' => e = .returned v ∧ w'' = w'
theorem runOps_wp {P : Program} {call : FuncId → Array Value → World → Option (Value × World)} (hc : CallOk P call) {ops : Array Oper} {Q : Exit → Act → World → Prop} :
 ∀ (l : List Oper) (a : Act) (w : World) (a' : Act) (w' : World), runOps P call ops l a w = some (a', w') → Q .normal a' w' → wpList P ops Q l a w := by
 intro l
 induction l with
 | nil => intro a w a' w' h q; simp [runOps] at h; obtain ⟨rfl, rfl⟩ := h; exact q
 | cons o l ih =>
  intro a w a' w' h q
  unfold runOps at h
  unfold wpList
  by_cases hw : Region.wanted o (yielded ops a.tmps) = true
  · rw [if_pos hw] at h ⊢
    left
    unfold Oper.wp
    cases hr : (execOp a.eval o).run P w with
    | ok nx w1 =>
     rw [hr] at h
     cases nx with
     | value v => exact ih _ _ _ _ h q
     | skip => exact ih _ _ _ _ h q
     | enter f args =>
      simp only at h
      cases hcl : call f args w1 with
      | none => rw [hcl] at h; simp at h
      | some r =>
       obtain ⟨v, w2⟩ := r
       rw [hcl] at h
       exact (hc f args w1 v w2 hcl).mono fun e w3 ⟨he, hw3⟩ => by subst he; subst hw3; exact ih _ _ _ _ h q
     | _ => simp at h
    | halt _ _ => rw [hr] at h; simp at h
  · rw [if_neg hw] at h ⊢
    exact ih _ _ _ _ h q
theorem runCode_wp {P : Program} {call : FuncId → Array Value → World → Option (Value × World)} (hc : CallOk P call) :
 ∀ (n : Nat) (c : Code) (a : Act) (w : World) (e : Exit) (a' : Act) (w' : World) (Q : Exit → Act → World → Prop), runCode P call n c a w = some (e, a', w') → Q e a' w' → c.wp P Q a w := by
 intro n
 induction n with
 | zero => intro c a w e a' w' Q h; simp [runCode] at h
 | succ n ih =>
  intro c a w e a' w' Q h q
  unfold runCode at h
  cases c with
  | skip => simp at h; obtain ⟨rfl, rfl, rfl⟩ := h; exact wp_skip q
  | exit id => simp at h; obtain ⟨rfl, rfl, rfl⟩ := h; exact wp_exit q
  | ret => simp at h; obtain ⟨rfl, rfl, rfl⟩ := h; exact wp_ret q
  | region id ops d =>
   cases d
   · simp only at h
     cases hr : runOps P call ops ops.toList a w with
     | none => rw [hr] at h; simp at h
     | some r =>
      obtain ⟨a1, w1⟩ := r
      rw [hr] at h
      simp at h; obtain ⟨rfl, rfl, rfl⟩ := h
      exact wp_region_list (runOps_wp hc _ _ _ _ _ hr q)
   · simp at h
  | seq x y =>
   simp only at h
   refine wp_seq ?_
   cases hr : runCode P call n x a w with
   | none => rw [hr] at h; simp at h
   | some r =>
    obtain ⟨e1, a1, w1⟩ := r
    rw [hr] at h
    cases e1 with
    | normal => exact ih x a w _ _ _ _ hr (ih y a1 w1 _ _ _ _ h q)
    | _ => simp at h; obtain ⟨rfl, rfl, rfl⟩ := h; exact ih x a w _ _ _ _ hr q
  | cond cc x y =>
   simp only at h
   cases hv : a.eval cc with
   | bool t =>
    rw [hv] at h
    cases t
    · exact wp_cond hv (ih y a w _ _ _ _ h q)
    · exact wp_cond hv (ih x a w _ _ _ _ h q)
   | _ => rw [hv] at h; simp at h
  | block id b =>
   simp only at h
   refine wp_block ?_
   cases hr : runCode P call n b a w with
   | none => rw [hr] at h; simp at h
   | some r =>
    obtain ⟨e1, a1, w1⟩ := r
    rw [hr] at h
    cases e1 with
    | exit id' =>
     simp only at h
     refine ih b a w _ _ _ _ hr ?_
     by_cases hid : id' = id
     · rw [if_pos hid] at h; simp at h; obtain ⟨rfl, rfl, rfl⟩ := h; simp only [Exit.inBlock, if_pos hid]; exact q
     · rw [if_neg hid] at h; simp at h; obtain ⟨rfl, rfl, rfl⟩ := h; simp only [Exit.inBlock, if_neg hid]; exact q
    | _ => simp at h; obtain ⟨rfl, rfl, rfl⟩ := h; exact ih b a w _ _ _ _ hr q
  | _ => simp at h
def resOf (fn : Func) (tmps : Array Value) : Option Value :=
 match fn.results with
 | ⟨[.tmp t]⟩ => some (tmps.getD t undef)
 | ⟨[.tmp t, .tmp u]⟩ => some (.tuple #[tmps.getD t undef, tmps.getD u undef])
 | _ => none
theorem resOf_run {fn : Func} {tmps : Array Value} {v : Value} (h : resOf fn tmps = some v) (P : Program) (w : World) : (results fn tmps).run P w = .ok v w := by
 unfold resOf at h
 split at h
 · rename_i t he; have := Option.some.inj h; subst this; exact results_tmp he tmps P w
 · rename_i t u he; have := Option.some.inj h; subst this; exact results_tmp2 he tmps P w
 · simp at h
def runFunc (P : Program) (fuel : Nat) : Nat → FuncId → Array Value → World → Option (Value × World)
 | 0, _, _, _ => none
 | n + 1, f, args, w =>
  match P.funcs[f]? with
  | none => none
  | some fn =>
   match fn.body with
   | none => none
   | some c =>
    match runCode P (runFunc P fuel n) fuel c { tmps := args ++ Array.replicate (fn.ntmps - args.size) undef, defers := [] } w with
    | some (.ret, a, w') =>
     match a.defers, resOf fn a.tmps with
     | [], some v => some (v, w')
     | _, _ => none
    | _ => none
theorem runFunc_ok (P : Program) (fuel : Nat) : ∀ n, CallOk P (runFunc P fuel n) := by
 intro n
 induction n with
 | zero => intro f args w v w' h; simp [runFunc] at h
 | succ n ih =>
  intro f args w v w' h
  unfold runFunc at h
  cases hf : P.funcs[f]? with
  | none => rw [hf] at h; simp at h
  | some fn =>
   rw [hf] at h
   simp only at h
   cases hb : fn.body with
   | none => rw [hb] at h; simp at h
   | some c =>
    rw [hb] at h
    simp only at h
    cases hr : runCode P (runFunc P fuel n) fuel c { tmps := args ++ Array.replicate (fn.ntmps - args.size) undef, defers := [] } w with
    | none => rw [hr] at h; simp at h
    | some r =>
     obtain ⟨e1, a1, w1⟩ := r
     rw [hr] at h
     cases e1 with
     | ret =>
      simp only at h
      cases hd : a1.defers with
      | cons _ _ => rw [hd] at h; simp at h
      | nil =>
       rw [hd] at h
       cases hres : resOf fn a1.tmps with
       | none => rw [hres] at h; simp at h
       | some v1 =>
        rw [hres] at h
        simp at h; obtain ⟨rfl, rfl⟩ := h
        exact calls_of_wp hf hb (runCode_wp ih _ _ _ _ _ _ _ _ hr ⟨hd, v1, resOf_run hres P w1, rfl, rfl⟩)
     | _ => simp at h
theorem calls_run {P : Program} {fuel n : Nat} {f : FuncId} {args : Array Value} {w : World} {v : Value} {w' : World} (h : runFunc P fuel n f args w = some (v, w')) :
 Calls P f args w fun e w'' => e = .returned v ∧ w' = w'' :=
 (runFunc_ok P fuel n f args w v w' h).mono fun _ _ ⟨he, hw⟩ => ⟨he, hw.symm⟩
end Go.Proofs.Ytkaeihlpdceokaa
/- Slices: what a slice reads as, what a call's own row holds; append of one cell. -/
namespace Go.Proofs.Ytkaeihlpdceokaa
open Go.RowKit Bf
def Rd (w : World) (v : Value) (n size : Nat) (xs : List Value) : Prop :=
 xs.length = n * size ∧ ((n = 0 ∧ ∃ a c, v = .slice a 0 c) ∨
  ∃ g off cap, v = .slice (some ⟨g, off, none⟩) n cap ∧ g < w.heap.size ∧ n ≤ cap ∧ cap ≤ maxLen ∧ ∀ j (h : j < xs.length), w.cell? ⟨g, off + j, none⟩ = some xs[j])
theorem Rd.below {w w' : World} {v : Value} {n size : Nat} {xs : List Value} (h : Rd w v n size xs) (hb : Below w.heap.size w w') : Rd w' v n size xs := by
 obtain ⟨h1, h2⟩ := h
 refine ⟨h1, ?_⟩
 rcases h2 with h2 | ⟨g, off, cap, hv, hg, hc, hm, hx⟩
 · exact Or.inl h2
 · exact Or.inr ⟨g, off, cap, hv, Nat.lt_of_lt_of_le hg hb.size, hc, hm, fun j hj => by rw [hb.cell (p := ⟨g, off + j, none⟩) hg]; exact hx j hj⟩
theorem ownsRow_rd {w : World} {base e size : Nat} {v : Value} {n : Nat} {xs : List Value} (h : w.ownsRow base e size v n xs) : Rd w v n size xs := by
 obtain ⟨h1, h2⟩ := h
 refine ⟨h1, ?_⟩
 rcases h2 with ⟨h2, h3⟩ | ⟨g, cap, cur, hv, hb, hg, hn, hm, hs, ht⟩
 · exact Or.inl ⟨h3, none, 0, h2⟩
 · refine Or.inr ⟨g, 0, cap, hv, ?_, hn, hm, fun j hj => ?_⟩
   · rcases Nat.lt_or_ge g w.heap.size with h | h
     · exact h
     · rw [Array.getElem?_eq_none h] at hg; simp at hg
   · have hle : n * size ≤ cap * size := Nat.mul_le_mul_right _ hn
     have hcur : cur[j]? = some xs[j] := by
      have e1 : (cur.toList.take (n * size))[j]? = xs[j]? := by rw [ht]
      rw [List.getElem?_take, if_pos (by omega), Array.getElem?_toList, List.getElem?_eq_getElem hj] at e1
      exact e1
     simp [World.cell?, hg, hcur]
theorem ownsRow_below {w w' : World} {base e size : Nat} {v : Value} {n : Nat} {xs : List Value} (h : w.ownsRow base e size v n xs) (hb : Below w.heap.size w w') : w'.ownsRow base e size v n xs := by
 obtain ⟨h1, h2⟩ := h
 refine ⟨h1, ?_⟩
 rcases h2 with h2 | ⟨g, cap, cur, hv, hg0, hg, r⟩
 · exact Or.inl h2
 · refine Or.inr ⟨g, cap, cur, hv, hg0, ?_, r⟩
   rw [hb.block g ?_]
   · exact hg
   · rcases Nat.lt_or_ge g w.heap.size with h | h
     · exact h
     · rw [Array.getElem?_eq_none h] at hg; simp at hg
theorem grownBy_below {w w' : World} {base e size : Nat} {v : Value} {n : Nat} {xs : List Value} (h : w.ownsRow base e size v n xs) (hg : w.grownBy w' v.ownBlock) (hB : base ≤ w.heap.size) : Below base w w' :=
 (Below.refl base w).grown hg hB fun k hk => (h.lt k hk).1
theorem app1 {P : Program} {w : World} {ops : Array Oper} {rest : List Oper} {o : Oper} {a : Act} {Q : Exit → Act → World → Prop} (hgd : o.guard = none) (s x : Operand) (t : TypeId)
 (ho : o.op = .call { callee := .builtin .append, args := #[s, x], argTypes := #[t, t] })
 (base : Nat) (e : TypeId) (z : Value) (bytes : Nat) (ht : P.underlying t = some (.slice e)) (hinfo : (P.info? e).map (fun i => (i.zero, i.size, i.bytes)) = some (some z, 1, bytes)) (hzs : z.cells.size = 1)
 (v : Value) (n : Nat) (xs : List Value) (hs : a.eval s = v) (hown : w.ownsRow base e 1 v n xs) (u : Value) (hu : u.oneCell' = true)
 (nb : Nat) (hnb : nb = w.heap.size) (hx : a.eval x = .slice (some ⟨nb, 0, none⟩) 1 1)
 (h63 : n + 1 ≤ maxLen) (hbytes : (n + 1) * bytes ≤ 140737488355328) (hbase : base ≤ w.heap.size)
 (h : ∀ v' w', w'.ownsRow base e 1 v' (n + 1) (xs ++ [u]) → Below base w w' → base ≤ w'.heap.size → wpList P ops Q rest (a.put o.dst v') w') :
 wpList P ops Q (o :: rest) a (w.alloc (.cells #[u] e)) := by
 obtain ⟨i0, hi, hz0, hz1, hz2⟩ := info_parts hinfo
 subst hnb
 have hown' := hown.alloc (.cells #[u] e)
 refine wpList_append_own _ hgd s x t ho base e i0 z 1 bytes ht hi hz0 hz1 hz2 hzs (by decide) v n xs hs hown' ⟨w.heap.size, 0, none⟩ 1 1 [u] hx rfl ?_ ?_ h63 hbytes (by simp; omega) ?_
 · intro j y hj
   cases j with
   | zero =>
    simp at hj; subst hj
    have := World.cell?_alloc_mark w #[u] e (0, 0) 0
    simp [Addr.add]
   | succ j => simp at hj
 · intro y hy; simp at hy; subst hy; exact hu
 · intro v' w' h1 h2 h3
   have hb := grownBy_below hown' h2 (by simp; omega)
   have hb2 : Below base w w' := ((Below.refl base w).alloc hbase _).trans hb
   exact h v' w' h1 hb2 (Nat.le_trans hbase hb2.size)
def ints (k : IntKind) (zs : List Int) : List Value := zs.map (Value.int k)
end Go.Proofs.Ytkaeihlpdceokaa