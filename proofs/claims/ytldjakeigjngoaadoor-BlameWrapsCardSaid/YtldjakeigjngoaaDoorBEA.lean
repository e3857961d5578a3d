/- BEA: texts of this proof, joined by program: ErrIs, ErrAs, ErrIs2, ErrAs2. -/
import Derived.Test.YtldjakeigjngoaaDoorBBA
import Derived.Test.YtldjakeigjngoaaDoorBEX
import Derived.Test.YtldjakeigjngoaaDoorBEN
import Derived.LaidEql
import Derived.Stop.Asserts
import Derived.WalkKit
import Derived.RowKitTokens
import Derived.Test.YtldjakeigjngoaaDoorBSF
import Derived.Test.YtldjakeigjngoaaDoorBRC
/- errors.Is at the program's own errors. -/
set_option linter.unusedVariables false
set_option linter.unusedSimpArgs false
namespace Go.Proofs.YtldjakeigjngoaaDoor
open Go.RowKit Go.Extern.Stop
section
variable {P : Program} {C : Cx} {k : List It} {fr : Fr} {hp : List En} {all : Array Oper} {l : List Oper} {dst : Option Tmp} {ty : TypeId} {pos : String} {aft : Array Edge} {g : Option (Nat × Bool)}
theorem ov_ta {xT t : TypeId} {x : Operand} {v r : Value} (hx : ev fr x = some v) (h : ∀ w, (Instr.typeAssert v xT t true).run P w = .ok r w) : OV P C fr hp ⟨dst, .typeAssert x xT t true, ty, pos, aft, g⟩ r :=
 ov_pure fun r w hr => by simp [execOp, hr _ _ hx, h w]
theorem ov_eqP {xt yt : TypeId} {x y : Operand} {u v : Option Addr} {r : Value} (hx : ev fr x = some (.pointer u)) (hy : ev fr y = some (.pointer v)) (h : ∀ w, (binOp .eql xt (.pointer u) (.pointer v)).run P w = .ok r w) : OV P C fr hp ⟨dst, .binOp .eql xt x y yt, ty, pos, aft, g⟩ r :=
 ov_pure fun r w hr => by simp [execOp, hr _ _ hx, hr _ _ hy, eqGuard, h w]
theorem ov_eqI {xt yt t u : TypeId} {x y : Operand} {a b r : Value} (hx : ev fr x = some (.iface t a)) (hy : ev fr y = some (.iface u b)) (h : ∀ w, HpOk C.D C.w0 hp w → (binOp .eql xt (.iface t a) (.iface u b)).run P w = .ok r w) : OV P C fr hp ⟨dst, .binOp .eql xt x y yt, ty, pos, aft, g⟩ r :=
 ov_read fun r w hr hw => by simp [execOp, hr _ _ hx, hr _ _ hy, eqGuard, h w hw]
theorem ov_eqN {xt yt t : TypeId} {x y : Operand} {a r : Value} (hx : ev fr x = some (.iface t a)) (hy : ev fr y = some .nilIface) (h : ∀ w, (binOp .eql xt (.iface t a) .nilIface).run P w = .ok r w) : OV P C fr hp ⟨dst, .binOp .eql xt x y yt, ty, pos, aft, g⟩ r :=
 ov_pure fun r w hr => by simp [execOp, hr _ _ hx, hr _ _ hy, eqGuard, h w]
theorem sy_invoke {t : TypeId} {rv v' : Value} {name : String} {f : FuncId} {fn : Func} [hfn : FN P f fn] {recv : Operand} {args : List Operand} {ats : Array TypeId} {vs : List Value} {v : Value} (hr : ev fr recv = some (.iface t rv)) (hx : evs fr args = some vs) (hm : ∀ w, (Go.method (P.types.size + Made.depth) t rv name).run P w = .ok (f, v') w)
 (hc : ∀ w, HpOk C.D C.w0 hp w → Calls P f (v' :: vs).toArray w fun e w' => e = .returned v ∧ Below w.heap.size w w') : OV P C fr hp ⟨dst, .call ⟨.invoke recv name, ⟨args⟩, ats⟩, ty, pos, aft, g⟩ v :=
 .mk fun r w hr' hw => by
  have h1 : ¬ fn.name = "runtime.NumGoroutine" := by simpa using hfn.name
  have h2 : ¬ fn.body = none := by have := hfn.body; cases hx : fn.body <;> simp_all
  have he : (execOp r ⟨dst, .call ⟨.invoke recv name, ⟨args⟩, ats⟩, ty, pos, aft, g⟩).run P w = .ok (.enter f (v' :: vs).toArray) w := by
   unfold execOp
   simp [resolve, invoke, callMethod, callFunc, hfn.h, h1, h2, hr' _ _ hr, evs_map hr' hx, hm w, program, show ∀ w, Sem.run P (Sem.program Sem.pure) w = .ok P w from fun _ => rfl]
  rw [he]
  exact (hc w hw).mono fun e w' he => ⟨he.1, hw.step he.2⟩
end
def ErrAt (b : Nat) (st e a : Int) (w : World) : Prop := w.heap[b]? = some (.cells #[.int .i64 st, .int .i64 e, .int .i64 a] 26 (0, 0))
theorem ErrAt.bl (b : Nat) (st e a : Int) : Bl fun w => ErrAt b st e a w := fun w w' hb h => by
 have h : w.heap[b]? = some (.cells #[.int .i64 st, .int .i64 e, .int .i64 a] 26 (0, 0)) := h
 have hl : b < w.heap.size := by
  rcases Nat.lt_or_ge b w.heap.size with h' | h'
  · exact h'
  · rw [Array.getElem?_eq_none h'] at h; cases h
 show w'.heap[b]? = _
 rw [hb.block b hl]; exact h
theorem ErrAt.cell {b : Nat} {st e a : Int} {w : World} (h : ErrAt b st e a w) {j : Nat} {u : Value} (hj : [Value.int .i64 st, .int .i64 e, .int .i64 a][j]? = some u) : w.cell? ⟨b, j, none⟩ = some u := by
 have h : w.heap[b]? = some (.cells #[.int .i64 st, .int .i64 e, .int .i64 a] 26 (0, 0)) := h
 simp only [World.cell?, h]
 simpa using hj
theorem pe_ne (a : Addr) (w : World) : (binOp .eql 35 (.pointer (some a)) (.pointer none)).run Tryd.prog w = .ok (.bool false) w := by kernel_rfl
theorem pe_eq (w : World) : (binOp .eql 35 (.pointer none) (.pointer none)).run Tryd.prog w = .ok (.bool true) w := by kernel_rfl
theorem ta_own (a : Addr) (w : World) : (Instr.typeAssert (.iface 35 (.pointer (some a))) 28 35 true).run Tryd.prog w = .ok (.tuple #[.pointer (some a), .bool true]) w := by kernel_rfl
theorem ta_nil (w : World) : (Instr.typeAssert .nilIface 28 35 true).run Tryd.prog w = .ok (.tuple #[.pointer none, .bool false]) w := by kernel_rfl
theorem ta_str (v : Value) (w : World) : (Instr.typeAssert (.iface 57 v) 28 35 true).run Tryd.prog w = .ok (.tuple #[.pointer none, .bool false]) w := by kernel_rfl
theorem hasIs (v : Value) (w : World) : (Instr.typeAssert (.iface 35 v) 28 91 true).run Tryd.prog w = .ok (.tuple #[.iface 35 v, .bool true]) w := run_typeAssert_hasB Tryd.underlying91 (by kernel_rfl) v _ w
theorem noUnwrap (v : Value) (w : World) : (Instr.typeAssert (.iface 35 v) 28 93 true).run Tryd.prog w = .ok (.tuple #[.nilIface, .bool false]) w := run_typeAssert_lacksB Tryd.underlying93 (by kernel_rfl) (by kernel_rfl) v _ w
theorem noUnwraps (v : Value) (w : World) : (Instr.typeAssert (.iface 35 v) 28 95 true).run Tryd.prog w = .ok (.tuple #[.nilIface, .bool false]) w := run_typeAssert_lacksB Tryd.underlying95 (by kernel_rfl) (by kernel_rfl) v _ w
theorem noIsN (v : Value) (w : World) : (Instr.typeAssert (.iface 53 v) 28 91 true).run Tryd.prog w = .ok (.tuple #[.nilIface, .bool false]) w := run_typeAssert_lacksB Tryd.underlying91 (by kernel_rfl) (by kernel_rfl) v _ w
theorem hasUnwrapN (v : Value) (w : World) : (Instr.typeAssert (.iface 53 v) 28 93 true).run Tryd.prog w = .ok (.tuple #[.iface 53 v, .bool true]) w := run_typeAssert_hasB Tryd.underlying93 (by kernel_rfl) v _ w
theorem mIs (v : Value) (w : World) : (Go.method (Tryd.prog.types.size + Made.depth) 35 v "Is").run Tryd.prog w = .ok (12, v) w := by kernel_rfl
theorem mUnwrap (v : Value) (w : World) : (Go.method (Tryd.prog.types.size + Made.depth) 53 v "Unwrap").run Tryd.prog w = .ok (96, v) w := by kernel_rfl
def ownV (r : Nat) : Value := .iface 35 (.pointer (some ⟨r, 0, none⟩))
def noteV (b : Nat) : Value := .iface 53 (.pointer (some ⟨b, 0, none⟩))
def NoteAt (b : Nat) (s : List UInt8) (u : Value) (w : World) : Prop := w.heap[b]? = some (.cells #[S s, u] 65 (0, 0))
theorem NoteAt.bl (b : Nat) (s : List UInt8) (u : Value) : Bl fun w => NoteAt b s u w := fun w w' hb h => by
 have h : w.heap[b]? = some (.cells #[S s, u] 65 (0, 0)) := h
 have hl : b < w.heap.size := by
  rcases Nat.lt_or_ge b w.heap.size with h' | h'
  · exact h'
  · rw [Array.getElem?_eq_none h'] at h; cases h
 show w'.heap[b]? = _
 rw [hb.block b hl]; exact h
theorem NoteAt.cell {b : Nat} {s : List UInt8} {u : Value} {w : World} (h : NoteAt b s u w) {j : Nat} {v : Value} (hj : [S s, u][j]? = some v) : w.cell? ⟨b, j, none⟩ = some v := by
 have h : w.heap[b]? = some (.cells #[S s, u] 65 (0, 0)) := h
 simp only [World.cell?, h]
 simpa using hj
def topV (r : Nat) : List (Nat × List UInt8) → Value
 | [] => ownV r
 | (b, _) :: _ => noteV b
def Ch (st e a : Int) (r : Nat) : List (Nat × List UInt8) → World → Prop
 | [], w => ErrAt r st e a w
 | (b, s) :: l, w => NoteAt b s (topV r l) w ∧ Ch st e a r l w
theorem Ch.bl (st e a : Int) (r : Nat) : ∀ l, Bl fun w => Ch st e a r l w
 | [] => ErrAt.bl r st e a
 | (b, s) :: l => fun w w' hb h => ⟨NoteAt.bl b s (topV r l) w w' hb h.1, Ch.bl st e a r l w w' hb h.2⟩
theorem Ch.root {st e a : Int} {r : Nat} {w : World} : ∀ {l}, Ch st e a r l w → ErrAt r st e a w
 | [], h => h
 | _ :: _, h => Ch.root h.2
theorem eq_pp : (Tryd.prog.info? 35).map (·.comparable) = some true := by kernel_rfl
theorem eq_ps : (Tryd.prog.info? 26).map (·.size) = some 3 := by kernel_rfl
theorem eq_other {r t : Nat} {st e a st2 e2 a2 : Int} {w : World} (hne : r ≠ t) (h1 : ErrAt r st e a w) (h2 : ErrAt t st2 e2 a2 w) : (binOp .eql 28 (.iface 35 (.pointer (some ⟨r, 0, none⟩))) (.iface 35 (.pointer (some ⟨t, 0, none⟩)))).run Tryd.prog w = .ok (.bool false) w := by
 obtain ⟨i, hi, hcmp⟩ := Option.map_eq_some_iff.1 eq_pp
 obtain ⟨j, hj, hjs⟩ := Option.map_eq_some_iff.1 eq_ps
 exact run_eql_iface_ptr_other (P := Tryd.prog) w Tryd.underlying28 Tryd.underlying35 hi hcmp hj (by rw [hjs]; decide) (fun h => hne (by cases h; rfl)) h1 h2
theorem eq_note (b t : Nat) (w : World) : (binOp .eql 28 (.iface 53 (.pointer (some ⟨b, 0, none⟩))) (.iface 35 (.pointer (some ⟨t, 0, none⟩)))).run Tryd.prog w = .ok (.bool false) w := by kernel_rfl
def sameE (st e st2 e2 : Int) : Bool := (decide (st2 = 0) || decide (st2 = st)) && decide (e2 = e)
set_option maxRecDepth 20000 in
set_option maxHeartbeats 4000000 in
theorem isE_c (b t : Nat) (st e a st2 e2 a2 : Int) (w : World) (h1 : ErrAt b st e a w) (h2 : ErrAt t st2 e2 a2 w) : Calls Tryd.prog 12 #[.pointer (some ⟨b, 0, none⟩), ownV t] w fun x w' => x = .returned (.bool (sameE st e st2 e2)) ∧ Below w.heap.size w w' := by
 have s1 : St (fun _ => False) w (fun w => ErrAt b st e a w) := St.start (ErrAt.bl b st e a) h1
 have s2 : St (fun _ => False) w (fun w => ErrAt t st2 e2 a2 w) := St.start (ErrAt.bl t st2 e2 a2) h2
 unfold ownV
 by_cases c1 : st2 = 0
 · refine sy_enter rfl rfl ?_
   simp only [initFr]
   repeat (first | refine yK ?_ | (refine gO ?_; refine yP ?_))
   refine sy_ov (ov_ta rfl (fun w => ta_own _ w)) rfl rfl ?_
   repeat (first | refine yK ?_ | (refine gO ?_; first | refine yP ?_ | (refine gG ?_; refine yG ?_)))
   refine sy_ov (ov_eqP rfl rfl (pe_ne _)) rfl rfl ?_
   repeat ((refine gO ?_; first | refine yP ?_ | (refine gG ?_; refine yG ?_) | refine yE ?_))
   refine sy_ov (ov_eqP rfl rfl (pe_ne _)) rfl rfl ?_
   repeat (first | refine yK ?_ | (refine gO ?_; refine yE ?_) | refine yN ?_)
   refine sy_draw 27 (by kernel_rfl) ?_
   repeat (first | refine dr_op (ov_p rfl) rfl rfl ?_ | refine dr_op (ov_fieldAddr rfl rfl rfl) rfl rfl ?_)
   refine dr_op (ov_loadx (v := .int .i64 st2) rfl rfl (fun w hw => (s2.at hw).cell (j := 0) rfl)) rfl rfl ?_
   repeat (first | (refine dr_op (ov_pick_t rfl rfl ?_) rfl rfl ?_; (first | with_reducible rfl | assumption | omega | (simp <;> first | omega | assumption))) | refine dr_op (ov_p rfl) rfl rfl ?_ | (refine dr_yes rfl rfl rfl rfl ?_ (ov_p rfl) rfl ?_; (first | with_reducible rfl | assumption | omega | (simp <;> first | omega | assumption))) | (refine dr_yes rfl rfl rfl rfl ?_ (ov_fieldAddr rfl rfl rfl) rfl ?_; (first | with_reducible rfl | assumption | omega | (simp <;> first | omega | assumption))) | (refine dr_no rfl rfl rfl rfl ?_ rfl ?_; (first | with_reducible rfl | assumption | omega | (simp <;> first | omega | assumption))))
   refine dr_yes rfl rfl rfl rfl ?_ (ov_loadx (v := .int .i64 e2) rfl rfl (fun w hw => (s2.at hw).cell (j := 1) rfl)) rfl ?_
   focus (first | with_reducible rfl | (simp <;> first | omega | assumption))
   repeat (first | (refine dr_yes rfl rfl rfl rfl ?_ (ov_p rfl) rfl ?_; (first | with_reducible rfl | assumption | omega | (simp <;> first | omega | assumption))) | (refine dr_yes rfl rfl rfl rfl ?_ (ov_fieldAddr rfl rfl rfl) rfl ?_; (first | with_reducible rfl | assumption | omega | (simp <;> first | omega | assumption))))
   refine dr_yes rfl rfl rfl rfl ?_ (ov_loadx (v := .int .i64 e) rfl rfl (fun w hw => (s1.at hw).cell (j := 1) rfl)) rfl ?_
   focus (first | with_reducible rfl | (simp <;> first | omega | assumption))
   repeat (refine dr_end ?_)
   repeat (first | refine yK ?_ | (refine gO ?_; first | refine yP ?_ | (refine gG ?_; refine yG ?_) | refine yM ?_) | refine sy_rt ?_)
   exact ret1 rfl rfl (by simp [sameE, c1])
 · by_cases c2 : st2 = st
   · refine sy_enter rfl rfl ?_
     simp only [initFr]
     repeat (first | refine yK ?_ | (refine gO ?_; refine yP ?_))
     refine sy_ov (ov_ta rfl (fun w => ta_own _ w)) rfl rfl ?_
     repeat (first | refine yK ?_ | (refine gO ?_; first | refine yP ?_ | (refine gG ?_; refine yG ?_)))
     refine sy_ov (ov_eqP rfl rfl (pe_ne _)) rfl rfl ?_
     repeat ((refine gO ?_; first | refine yP ?_ | (refine gG ?_; refine yG ?_) | refine yE ?_))
     refine sy_ov (ov_eqP rfl rfl (pe_ne _)) rfl rfl ?_
     repeat (first | refine yK ?_ | (refine gO ?_; refine yE ?_) | refine yN ?_)
     refine sy_draw 27 (by kernel_rfl) ?_
     repeat (first | refine dr_op (ov_p rfl) rfl rfl ?_ | refine dr_op (ov_fieldAddr rfl rfl rfl) rfl rfl ?_)
     refine dr_op (ov_loadx (v := .int .i64 st2) rfl rfl (fun w hw => (s2.at hw).cell (j := 0) rfl)) rfl rfl ?_
     repeat (first | refine dr_op (ov_p rfl) rfl rfl ?_ | (refine dr_yes rfl rfl rfl rfl ?_ (ov_p rfl) rfl ?_; (first | with_reducible rfl | assumption | omega | (simp <;> first | omega | assumption))) | (refine dr_yes rfl rfl rfl rfl ?_ (ov_fieldAddr rfl rfl rfl) rfl ?_; (first | with_reducible rfl | assumption | omega | (simp <;> first | omega | assumption))))
     refine dr_yes rfl rfl rfl rfl ?_ (ov_loadx (v := .int .i64 st2) rfl rfl (fun w hw => (s2.at hw).cell (j := 0) rfl)) rfl ?_
     focus (first | with_reducible rfl | (simp <;> first | omega | assumption))
     repeat (first | (refine dr_yes rfl rfl rfl rfl ?_ (ov_p rfl) rfl ?_; (first | with_reducible rfl | assumption | omega | (simp <;> first | omega | assumption))) | (refine dr_yes rfl rfl rfl rfl ?_ (ov_fieldAddr rfl rfl rfl) rfl ?_; (first | with_reducible rfl | assumption | omega | (simp <;> first | omega | assumption))))
     refine dr_yes rfl rfl rfl rfl ?_ (ov_loadx (v := .int .i64 st) rfl rfl (fun w hw => (s1.at hw).cell (j := 0) rfl)) rfl ?_
     focus (first | with_reducible rfl | (simp <;> first | omega | assumption))
     repeat (first | (refine dr_op (ov_pick_f rfl rfl ?_) rfl rfl ?_; (first | with_reducible rfl | assumption | omega | (simp <;> first | omega | assumption))) | refine dr_op (ov_p rfl) rfl rfl ?_ | (refine dr_yes rfl rfl rfl rfl ?_ (ov_p rfl) rfl ?_; (first | with_reducible rfl | assumption | omega | (simp <;> first | omega | assumption))) | (refine dr_yes rfl rfl rfl rfl ?_ (ov_fieldAddr rfl rfl rfl) rfl ?_; (first | with_reducible rfl | assumption | omega | (simp <;> first | omega | assumption))))
     refine dr_yes rfl rfl rfl rfl ?_ (ov_loadx (v := .int .i64 e2) rfl rfl (fun w hw => (s2.at hw).cell (j := 1) rfl)) rfl ?_
     focus (first | with_reducible rfl | (simp <;> first | omega | assumption))
     repeat (first | (refine dr_yes rfl rfl rfl rfl ?_ (ov_p rfl) rfl ?_; (first | with_reducible rfl | assumption | omega | (simp <;> first | omega | assumption))) | (refine dr_yes rfl rfl rfl rfl ?_ (ov_fieldAddr rfl rfl rfl) rfl ?_; (first | with_reducible rfl | assumption | omega | (simp <;> first | omega | assumption))))
     refine dr_yes rfl rfl rfl rfl ?_ (ov_loadx (v := .int .i64 e) rfl rfl (fun w hw => (s1.at hw).cell (j := 1) rfl)) rfl ?_
     focus (first | with_reducible rfl | (simp <;> first | omega | assumption))
     repeat (refine dr_end ?_)
     repeat (first | refine yK ?_ | (refine gO ?_; first | refine yP ?_ | (refine gG ?_; refine yG ?_) | refine yM ?_) | refine sy_rt ?_)
     exact ret1 rfl rfl (by simp [sameE, c2])
   · refine sy_enter rfl rfl ?_
     simp only [initFr]
     repeat (first | refine yK ?_ | (refine gO ?_; refine yP ?_))
     refine sy_ov (ov_ta rfl (fun w => ta_own _ w)) rfl rfl ?_
     repeat (first | refine yK ?_ | (refine gO ?_; first | refine yP ?_ | (refine gG ?_; refine yG ?_)))
     refine sy_ov (ov_eqP rfl rfl (pe_ne _)) rfl rfl ?_
     repeat ((refine gO ?_; first | refine yP ?_ | (refine gG ?_; refine yG ?_) | refine yE ?_))
     refine sy_ov (ov_eqP rfl rfl (pe_ne _)) rfl rfl ?_
     repeat (first | refine yK ?_ | (refine gO ?_; refine yE ?_) | refine yN ?_)
     refine sy_draw 27 (by kernel_rfl) ?_
     repeat (first | refine dr_op (ov_p rfl) rfl rfl ?_ | refine dr_op (ov_fieldAddr rfl rfl rfl) rfl rfl ?_)
     refine dr_op (ov_loadx (v := .int .i64 st2) rfl rfl (fun w hw => (s2.at hw).cell (j := 0) rfl)) rfl rfl ?_
     repeat (first | refine dr_op (ov_p rfl) rfl rfl ?_ | (refine dr_yes rfl rfl rfl rfl ?_ (ov_p rfl) rfl ?_; (first | with_reducible rfl | assumption | omega | (simp <;> first | omega | assumption))) | (refine dr_yes rfl rfl rfl rfl ?_ (ov_fieldAddr rfl rfl rfl) rfl ?_; (first | with_reducible rfl | assumption | omega | (simp <;> first | omega | assumption))))
     refine dr_yes rfl rfl rfl rfl ?_ (ov_loadx (v := .int .i64 st2) rfl rfl (fun w hw => (s2.at hw).cell (j := 0) rfl)) rfl ?_
     focus (first | with_reducible rfl | (simp <;> first | omega | assumption))
     repeat (first | (refine dr_yes rfl rfl rfl rfl ?_ (ov_p rfl) rfl ?_; (first | with_reducible rfl | assumption | omega | (simp <;> first | omega | assumption))) | (refine dr_yes rfl rfl rfl rfl ?_ (ov_fieldAddr rfl rfl rfl) rfl ?_; (first | with_reducible rfl | assumption | omega | (simp <;> first | omega | assumption))))
     refine dr_yes rfl rfl rfl rfl ?_ (ov_loadx (v := .int .i64 st) rfl rfl (fun w hw => (s1.at hw).cell (j := 0) rfl)) rfl ?_
     focus (first | with_reducible rfl | (simp <;> first | omega | assumption))
     repeat (first | (refine dr_op (ov_pick_f rfl rfl ?_) rfl rfl ?_; (first | with_reducible rfl | assumption | omega | (simp <;> first | omega | assumption))) | refine dr_op (ov_p rfl) rfl rfl ?_ | refine dr_end ?_ | (refine dr_yes rfl rfl rfl rfl ?_ (ov_p rfl) rfl ?_; (first | with_reducible rfl | assumption | omega | (simp <;> first | omega | assumption))) | (refine dr_no rfl rfl rfl rfl ?_ rfl ?_; (first | with_reducible rfl | assumption | omega | (simp <;> first | omega | assumption))))
     repeat (first | refine yK ?_ | (refine gO ?_; first | refine yP ?_ | (refine gG ?_; refine yH ?_) | refine sy_ov (ov_pick rfl rfl rfl) rfl rfl ?_) | refine sy_rt ?_)
     exact ret1 rfl rfl (by simp [sameE, c1, c2])
theorem isE_nil (b : Nat) (w : World) : Calls Tryd.prog 12 #[.pointer (some ⟨b, 0, none⟩), .nilIface] w fun x w' => x = .returned (.bool false) ∧ Below w.heap.size w w' := by
 refine sy_enter rfl rfl ?_
 simp only [initFr]
 repeat (first | refine yK ?_ | (refine gO ?_; refine yP ?_))
 refine sy_ov (ov_ta rfl (fun w => ta_nil w)) rfl rfl ?_
 repeat (first | refine yK ?_ | (refine gO ?_; first | refine yP ?_ | (refine gG ?_; refine yH ?_) | refine sy_ov (ov_pick rfl rfl rfl) rfl rfl ?_) | refine yT ?_ | refine sy_rt ?_)
 exact ret1 rfl rfl rfl
theorem isE_str (b : Nat) (v : Value) (w : World) : Calls Tryd.prog 12 #[.pointer (some ⟨b, 0, none⟩), .iface 57 v] w fun x w' => x = .returned (.bool false) ∧ Below w.heap.size w w' := by
 refine sy_enter rfl rfl ?_
 simp only [initFr]
 repeat (first | refine yK ?_ | (refine gO ?_; refine yP ?_))
 refine sy_ov (ov_ta rfl (fun w => ta_str v w)) rfl rfl ?_
 repeat (first | refine yK ?_ | (refine gO ?_; first | refine yP ?_ | (refine gG ?_; refine yH ?_) | refine sy_ov (ov_pick rfl rfl rfl) rfl rfl ?_) | refine yT ?_ | refine sy_rt ?_)
 exact ret1 rfl rfl rfl
theorem isE_no (t : Nat) (w : World) : Calls Tryd.prog 12 #[.pointer none, ownV t] w fun x w' => x = .returned (.bool false) ∧ Below w.heap.size w w' := by
 unfold ownV
 refine sy_enter rfl rfl ?_
 simp only [initFr]
 repeat (first | refine yK ?_ | (refine gO ?_; refine yP ?_))
 refine sy_ov (ov_ta rfl (fun w => ta_own _ w)) rfl rfl ?_
 repeat (first | refine yK ?_ | (refine gO ?_; first | refine yP ?_ | (refine gG ?_; refine yG ?_)))
 refine sy_ov (ov_eqP rfl rfl (pe_ne _)) rfl rfl ?_
 repeat ((refine gO ?_; first | refine yP ?_ | (refine gG ?_; refine yG ?_) | refine yE ?_))
 refine sy_ov (ov_eqP rfl rfl pe_eq) rfl rfl ?_
 repeat (first | refine yK ?_ | (refine gO ?_; first | refine yP ?_ | refine yE ?_) | refine yT ?_ | refine sy_rt ?_)
 exact ret1 rfl rfl rfl
end Go.Proofs.YtldjakeigjngoaaDoor
/- errors.As at a pointer to the program's own error type (after the kit's worked text ToyasAs.lean). -/
namespace Go.Proofs.YtldjakeigjngoaaDoor
open Go.RowKit Go.Extern.Stop Go.Stop Go.Extern
theorem as_ext (P : Program) (f : FuncId) (fn : Func) (e : Array Value → Sem Value) (hf : P.funcs[f]? = some fn) (hname : (fn.name == "runtime.NumGoroutine") = false)
 (hb : fn.body.isNone = true) (hn : Extern.findNext fn = none) (he : Extern.find fn = some e) (args : Array Value) (w : World) : (callFunc f args).run P w = ((e args).run P w).andThen fun v w' => .ok (.value v) w' := run_callFunc_extern hf hname hb hn he args w
theorem as_nil (t : Value) (w : World) :
 Calls Tryd.prog 27 #[.nilIface, t] w fun e w' => e = .returned (.bool false) ∧ w' = w := by
 go_enter Tryd.func27, Tryd.ntmps27
 go_wp2
 go_ret
 exact ⟨rfl, rfl⟩
/-! ### CLOSED FACTS ON THE MODEL's ENTRIES FOR internal/reflectlite, at this program's types: 25: *p.E · 27: **p.E · 23: error · 45: reflectlite's rtype · 1: how many package-level variables the dump has -/
theorem as_valueOf27 (t : Addr) (w : World) : (ReflectliteValue.unpack (.iface 52 (.pointer (some t)))).run Tryd.prog w
 = .ok (.agg #[.pointer (some ⟨4, 52, none⟩), .pointer (some ⟨w.heap.size, 0, none⟩), .int .u64 150]) (w.alloc (.cells #[.pointer (some t)] 52)) := by kernel_rfl
theorem as_type27 (a : Addr) (w : World) : (ReflectliteValue.methodAny (ReflectliteValue.valueError "reflectlite.Value.Type" 0) (fun t _ _ _ => ReflectliteType.toType t) #[.agg #[.pointer (some ⟨4, 52, none⟩), .pointer (some a), .int .u64 150]]).run Tryd.prog w
 = .ok (.iface 89 (.agg #[.pointer (some ⟨4, 52, none⟩)])) w := by kernel_rfl
/-! ### THE ENTRIES THAT READ OR WRITE MEMORY: laws with a premise on the cell (after Derived/Lib/ReflectliteSlice.lean's manner: each unfolding a lemma of its own, by rfl) -/
theorem as_rlm (z : Sem Value) (f : TypeId → Addr → Nat → Nat → Sem Value) (v : Value) :
 ReflectliteValue.method z f #[v] = (do match ← ReflectliteValue.parts v with | none => z | some (t, a, fl) => f t a fl (fl % 32)) := rfl
theorem as_parts27 (a : Addr) (w : World) : (ReflectliteValue.parts (.agg #[.pointer (some ⟨4, 52, none⟩), .pointer (some a), .int .u64 150])).run Tryd.prog w = .ok (some (52, a, 150)) w := by kernel_rfl
theorem as_isNil27 (a p : Addr) (W : World) (ha : W.cell? a = some (.pointer (some p))) :
 (ReflectliteValue.method (ReflectliteValue.valueError "reflectlite.Value.IsNil" 0) ReflectliteValue.isNil #[.agg #[.pointer (some ⟨4, 52, none⟩), .pointer (some a), .int .u64 150]]).run Tryd.prog W = .ok (.bool false) W := by
 rw [as_rlm]
 simp only [Sem.run_bind, as_parts27, Result.andThen]
 simp [ReflectliteValue.isNil, loadVar, isAgg, underlying, Tryd.underlying52, ha, Result.andThen]
theorem as_elem27 (w : World) : (ReflectliteType.method ReflectliteType.elem #[.agg #[.pointer (some ⟨4, 52, none⟩)]]).run Tryd.prog w = .ok (.iface 89 (.agg #[.pointer (some ⟨4, 35, none⟩)])) w := by kernel_rfl
theorem as_implements25 (w : World) : (ReflectliteType.relation "Implements" ReflectliteType.implements_ #[.agg #[.pointer (some ⟨4, 35, none⟩)], .iface 89 (.agg #[.pointer (some ⟨4, 28, none⟩)])]).run Tryd.prog w = .ok (.bool true) w := by kernel_rfl
theorem as_typeOf25 (v : Value) (w : World) : (ReflectliteType.typeOf #[.iface 35 v]).run Tryd.prog w = .ok (.iface 89 (.agg #[.pointer (some ⟨4, 35, none⟩)])) w := by kernel_rfl
theorem as_assignable25 (w : World) : (ReflectliteType.relation "AssignableTo" ReflectliteType.assignableTo #[.agg #[.pointer (some ⟨4, 35, none⟩)], .iface 89 (.agg #[.pointer (some ⟨4, 35, none⟩)])]).run Tryd.prog w = .ok (.bool true) w := by kernel_rfl
theorem as_valueOf25 (e : Addr) (w : World) : (ReflectliteValue.unpack (.iface 35 (.pointer (some e)))).run Tryd.prog w
 = .ok (.agg #[.pointer (some ⟨4, 35, none⟩), .pointer (some ⟨w.heap.size, 0, none⟩), .int .u64 150]) (w.alloc (.cells #[.pointer (some e)] 35)) := by kernel_rfl
theorem as_elemOf27 (w : World) : (Rtype.elem? 52).run Tryd.prog w = .ok (some 35) w := by kernel_rfl
theorem as_mk25 (p : Addr) (w : World) : (ReflectliteValue.mk 35 p ReflectliteValue.flagAddr).run Tryd.prog w = .ok (.agg #[.pointer (some ⟨4, 35, none⟩), .pointer (some p), .int .u64 406]) w := by kernel_rfl
theorem as_elemV27 (a p : Addr) (W : World) (ha : W.cell? a = some (.pointer (some p))) :
 (ReflectliteValue.method (ReflectliteValue.valueError "reflectlite.Value.Elem" 0) ReflectliteValue.elem #[.agg #[.pointer (some ⟨4, 52, none⟩), .pointer (some a), .int .u64 150]]).run Tryd.prog W
   = .ok (.agg #[.pointer (some ⟨4, 35, none⟩), .pointer (some p), .int .u64 406]) W := by
 rw [as_rlm]
 simp only [Sem.run_bind, as_parts27, Result.andThen]
 simp [ReflectliteValue.elem, loadVar, isAgg, underlying, Tryd.underlying52, ha, Result.andThen, as_elemOf27, as_mk25]
theorem as_rls (v x : Value) : ReflectliteValue.set #[v, x] = (do
 let (some (dst, a, fl), some (src, b, _)) := (← ReflectliteValue.parts v, ← ReflectliteValue.parts x)
  | unsupported (.noEntry "extern/(internal/reflectlite.Value).Set.zeroValue")
 if fl / ReflectliteValue.flagAddr % 2 == 0 then unsupported (.noEntry "extern/(internal/reflectlite.Value).Set.unaddressable")
 let val ← loadVar src b
 if ← Rtype.directlyAssignable dst src then storeVar dst a val
 else if ← Rtype.implements dst src then
  if (← Rtype.kind src) == 20 then
   match val with
   | .nilIface => unsupported (.noEntry "extern/reflectlite: a nil value of one interface type handed on as a value of another")
   | _ => storeVar dst a val
  else storeVar dst a (.iface src val)
 else panicString ("reflectlite.Set: value of type " ++ (← Rtype.spelt src) ++ " is not assignable to type " ++ (← Rtype.spelt dst))
 pure (.tuple #[])) := rfl
theorem as_parts25a (a : Addr) (w : World) : (ReflectliteValue.parts (.agg #[.pointer (some ⟨4, 35, none⟩), .pointer (some a), .int .u64 406])).run Tryd.prog w = .ok (some (35, a, 406)) w := by kernel_rfl
theorem as_parts25 (a : Addr) (w : World) : (ReflectliteValue.parts (.agg #[.pointer (some ⟨4, 35, none⟩), .pointer (some a), .int .u64 150])).run Tryd.prog w = .ok (some (35, a, 150)) w := by kernel_rfl
theorem as_direct25 (w : World) : (Rtype.directlyAssignable 35 35).run Tryd.prog w = .ok true w := by kernel_rfl
theorem as_set25 (ta b e : Addr) (old : Value) (W : World) (hb : W.cell? b = some (.pointer (some e))) (ht : W.cell? ta = some old) (hf : W.frozen? ta = false) :
 (ReflectliteValue.set #[.agg #[.pointer (some ⟨4, 35, none⟩), .pointer (some ta), .int .u64 406], .agg #[.pointer (some ⟨4, 35, none⟩), .pointer (some b), .int .u64 150]]).run Tryd.prog W
   = .ok (.tuple #[]) (W.setCell ta (.pointer (some e))) := by
 rw [as_rls]
 simp only [Sem.run_bind, as_parts25a, as_parts25, Result.andThen]
 simp [ReflectliteValue.flagAddr, loadVar, isAgg, underlying, Tryd.underlying35, hb, Result.andThen, as_direct25, storeVar, Value.cells, storeCells, Addr.add]
 rw [run_store Tryd.prog W ta _ _ (by rfl)]
 simp [ht, hf]
end Go.Proofs.YtldjakeigjngoaaDoor
/- errors.is and errors.Is at the program's own errors. -/
namespace Go.Proofs.YtldjakeigjngoaaDoor
open Go.RowKit Go.Extern.Stop
section
variable {P : Program} {C : Cx} {k : List It} {fr : Fr} {hp : List En} {dst : Option Tmp} {ty : TypeId} {pos : String} {aft : Array Edge} {g : Option (Nat × Bool)}
theorem unwrap_c (b : Nat) (s : List UInt8) (u : Value) (w : World) (h : NoteAt b s u w) : Calls Tryd.prog 96 #[.pointer (some ⟨b, 0, none⟩)] w fun x w' => x = .returned u ∧ Below w.heap.size w w' := by
 have s1 : St (fun _ => False) w (fun w => NoteAt b s u w) := St.start (NoteAt.bl b s u) h
 refine sy_enter rfl rfl ?_
 simp only [initFr]
 repeat (first | refine yK ?_ | (refine gO ?_; first | refine yP ?_ | refine yF ?_))
 refine sy_ov (ov_loadx (v := u) rfl rfl (fun w hw => (s1.at hw).cell (j := 1) rfl)) rfl rfl ?_
 repeat (first | refine yK ?_ | (refine gO ?_; refine yP ?_) | refine sy_rt ?_)
 exact ret1 rfl rfl rfl
end
section
variable {P : Program} {C : Cx} {k : List It} {fr : Fr} {hp : List En} {dst : Option Tmp} {ty : TypeId} {pos : String} {aft : Array Edge} {g : Option (Nat × Bool)}
theorem ov_ext {f : FuncId} {args : List Operand} {ats : Array TypeId} {vs : List Value} {v : Value} (hx : evs fr args = some vs) (hc : ∀ w, HpOk C.D C.w0 hp w → (callFunc f vs.toArray).run P w = .ok (.value v) w) :
 OV P C fr hp ⟨dst, .call ⟨.value (.func f), ⟨args⟩, ats⟩, ty, pos, aft, g⟩ v :=
 .mk fun r w hr hw => by
  have h3 : r (.func f) = .func (.func f) #[] #[] := hr _ _ rfl
  have he : (execOp r ⟨dst, .call ⟨.value (.func f), ⟨args⟩, ats⟩, ty, pos, aft, g⟩).run P w = .ok (.value v) w := by
   unfold execOp
   simp [resolve, Deferred.ofValue, invoke, h3, evs_map hr hx, hc w hw]
  rw [he]; exact ⟨rfl, hw⟩
theorem ov_exti {t : TypeId} {rv v' : Value} {name : String} {f : FuncId} {recv : Operand} {args : List Operand} {ats : Array TypeId} {vs : List Value} {v : Value} (hr : ev fr recv = some (.iface t rv)) (hx : evs fr args = some vs) (hm : ∀ w, (Go.method (P.types.size + Made.depth) t rv name).run P w = .ok (f, v') w)
 (hc : ∀ w, HpOk C.D C.w0 hp w → (callFunc f (v' :: vs).toArray).run P w = .ok (.value v) w) : OV P C fr hp ⟨dst, .call ⟨.invoke recv name, ⟨args⟩, ats⟩, ty, pos, aft, g⟩ v :=
 .mk fun r w hr' hw => by
  have he : (execOp r ⟨dst, .call ⟨.invoke recv name, ⟨args⟩, ats⟩, ty, pos, aft, g⟩).run P w = .ok (.value v) w := by
   unfold execOp
   have := hc w hw
   simp [this, resolve, invoke, callMethod, hr' _ _ hr, evs_map hr' hx, hm w, program, show ∀ w, Sem.run P (Sem.program Sem.pure) w = .ok P w from fun _ => rfl]
  rw [he]; exact ⟨rfl, hw⟩
theorem ext_run {f : FuncId} {e : Array Value → Sem Value} {args : Array Value} {v : Value} {w w' : World} (h : (callFunc f args).run P w = ((e args).run P w).andThen fun v w' => .ok (.value v) w') (he : (e args).run P w = .ok v w') : (callFunc f args).run P w = .ok (.value v) w' := by rw [h, he]; rfl
theorem ov_eqNN {xt yt : TypeId} {x : Operand} {r : Value} (hx : ev fr x = some .nilIface) (h : ∀ w, (binOp .eql xt .nilIface .nilIface).run P w = .ok r w) : OV P C fr hp ⟨dst, .binOp .eql xt x (.const .nilIface) yt, ty, pos, aft, g⟩ r :=
 ov_pure fun r w hr => by simp [execOp, hr _ _ hx, hr (.const .nilIface) _ rfl, eqGuard, h w]
end
section
variable {P : Program} {C : Cx} {k : List It} {fr : Fr} {hp : List En} {dst : Option Tmp} {ty : TypeId} {pos : String} {aft : Array Edge} {g : Option (Nat × Bool)}
theorem ov_eqNI {xt yt t : TypeId} {x y : Operand} {a r : Value} (hx : ev fr x = some .nilIface) (hy : ev fr y = some (.iface t a)) (h : ∀ w, (binOp .eql xt .nilIface (.iface t a)).run P w = .ok r w) : OV P C fr hp ⟨dst, .binOp .eql xt x y yt, ty, pos, aft, g⟩ r :=
 ov_pure fun r w hr => by simp [execOp, hr _ _ hx, hr _ _ hy, eqGuard, h w]
end
theorem eq_nn (w : World) : (binOp .eql 28 .nilIface .nilIface).run Tryd.prog w = .ok (.bool true) w := by kernel_rfl
theorem eq_nE (b : Nat) (w : World) : (binOp .eql 28 .nilIface (.iface 35 (.pointer (some ⟨b, 0, none⟩)))).run Tryd.prog w = .ok (.bool false) w := by kernel_rfl
theorem eq_nilN (b : Nat) (w : World) : (binOp .eql 28 (.iface 53 (.pointer (some ⟨b, 0, none⟩))) .nilIface).run Tryd.prog w = .ok (.bool false) w := by kernel_rfl
theorem eq_nilE (b : Nat) (w : World) : (binOp .eql 28 (.iface 35 (.pointer (some ⟨b, 0, none⟩))) .nilIface).run Tryd.prog w = .ok (.bool false) w := by kernel_rfl
set_option maxRecDepth 20000 in
set_option maxHeartbeats 4000000 in
theorem eis_c (r t : Nat) (l : List (Nat × List UInt8)) (st e a st2 e2 a2 : Int) (w : World) (h1 : Ch st e a r l w) (h2 : ErrAt t st2 e2 a2 w) (hne : r ≠ t) :
 Calls Tryd.prog 36 #[topV r l, ownV t, .bool true] w fun x w' => x = .returned (.bool (sameE st e st2 e2)) ∧ Below w.heap.size w w' := by
 have s2 : St (fun _ => False) w (fun w => ErrAt t st2 e2 a2 w) := St.start (ErrAt.bl t st2 e2 a2) h2
 have s1 : St (fun _ => False) w (fun w => Ch st e a r l w) := St.start (Ch.bl st e a r l) h1
 refine sy_enter rfl rfl ?_
 simp only [initFr]
 repeat (first | refine yK ?_ | (refine gO ?_; refine yP ?_))
 refine sy_loop (α := List (Nat × List UInt8)) (fun l => [(0, topV r l), (1, ownV t), (2, .bool true)]) (fun _ => []) (fun l => St (fun _ => False) w (fun w => Ch st e a r l w)) (fun l => l.length) l s1 ⟨⟨_, rfl, rfl⟩, ⟨_, rfl, rfl⟩, ⟨_, rfl, rfl⟩, trivial⟩ (List.nil_sublist _) ?_
 intro l s1
 cases l with
 | nil =>
  dsimp only [topV, ownV]
  repeat (first | refine yK ?_ | (refine gO ?_; first | refine yP ?_ | (refine gG ?_; refine yG ?_)))
  refine sy_ov (ov_eqI rfl rfl (fun w hw => eq_other hne (s1.at hw) (s2.at hw))) rfl rfl ?_
  repeat (first | refine yK ?_ | (refine gO ?_; first | refine yP ?_ | refine yM ?_) | refine yN ?_)
  refine sy_ov (ov_ta rfl (fun w => hasIs _ w)) rfl rfl ?_
  repeat (first | refine yK ?_ | (refine gO ?_; first | refine yP ?_ | (refine gG ?_; refine yG ?_)))
  refine sy_ov (sy_invoke rfl rfl (fun w => mIs _ w) (fun w hw => isE_c r t st e a st2 e2 a2 w (s1.at hw) (s2.at hw))) rfl rfl ?_
  cases sameE st e st2 e2 with
  | true =>
   repeat (first | refine yK ?_ | (refine gO ?_; first | refine yP ?_ | refine yM ?_) | refine yT ?_ | refine sy_rt ?_)
   exact ret1 rfl rfl rfl
  | false =>
   repeat (first | refine yK ?_ | (refine gO ?_; first | refine yP ?_ | refine yM ?_) | refine yN ?_)
   refine sy_ov (ov_ta rfl (fun w => noUnwrap _ w)) rfl rfl ?_
   repeat (first | refine yK ?_ | (refine gO ?_; refine yP ?_) | refine yN ?_)
   refine sy_ov (ov_ta rfl (fun w => noUnwraps _ w)) rfl rfl ?_
   repeat (first | refine yK ?_ | (refine gO ?_; refine yP ?_) | refine yN ?_ | refine sy_rt ?_)
   exact ret1 rfl rfl rfl
 | cons p l =>
  obtain ⟨b, s⟩ := p
  have s3 : St (fun _ => False) w (fun w => NoteAt b s (topV r l) w) := s1.imp fun w h => h.1
  have s4 : St (fun _ => False) w (fun w => Ch st e a r l w) := s1.imp fun w h => h.2
  obtain ⟨v0, hv⟩ : ∃ v, v = topV r l := ⟨_, rfl⟩
  rw [← hv] at s3
  have hn : ∀ w, (binOp .eql 28 v0 .nilIface).run Tryd.prog w = .ok (.bool false) w := by
   subst hv; intro w
   cases l with
   | nil => exact eq_nilE r w
   | cons p l => exact eq_nilN p.1 w
  obtain ⟨t0, u0, hv2⟩ : ∃ t u, v0 = .iface t u := by
   subst hv
   cases l with
   | nil => exact ⟨_, _, rfl⟩
   | cons p l => exact ⟨_, _, rfl⟩
  dsimp only [topV, ownV, noteV]
  repeat (first | refine yK ?_ | (refine gO ?_; first | refine yP ?_ | (refine gG ?_; refine yG ?_)))
  refine sy_ov (ov_eqI rfl rfl (fun w hw => eq_note b t w)) rfl rfl ?_
  repeat (first | refine yK ?_ | (refine gO ?_; first | refine yP ?_ | refine yM ?_) | refine yN ?_)
  refine sy_ov (ov_ta rfl (fun w => noIsN _ w)) rfl rfl ?_
  repeat (first | refine yK ?_ | (refine gO ?_; first | refine yP ?_ | (refine gG ?_; refine yH ?_) | refine sy_ov (ov_pick rfl rfl rfl) rfl rfl ?_) | refine yN ?_)
  refine sy_ov (ov_ta rfl (fun w => hasUnwrapN _ w)) rfl rfl ?_
  repeat (first | refine yK ?_ | (refine gO ?_; refine yP ?_) | refine yT ?_)
  refine sy_ov (sy_invoke (args := []) rfl rfl (fun w => mUnwrap _ w) (fun w hw => unwrap_c b s v0 w (s3.at hw))) rfl rfl ?_
  repeat (first | refine yK ?_ | (refine gO ?_; refine yP ?_))
  subst hv2
  refine sy_ov (ov_eqN rfl rfl hn) rfl rfl ?_
  repeat (first | refine yK ?_ | refine yN ?_)
  cases l with
  | nil => cases hv; exact sy_back [] s4 (by simp) ⟨⟨_, rfl, rfl⟩, ⟨_, rfl, rfl⟩, ⟨_, rfl, rfl⟩, trivial⟩ (List.nil_sublist _)
  | cons p l => cases hv; exact sy_back (p :: l) s4 (by simp) ⟨⟨_, rfl, rfl⟩, ⟨_, rfl, rfl⟩, ⟨_, rfl, rfl⟩, trivial⟩ (List.nil_sublist _)
theorem Is_typeOf (v : Value) (w : World) : (Extern.ReflectliteType.typeOf #[.iface 35 v]).run Tryd.prog w = .ok (.iface 89 (.agg #[.pointer (some ⟨4, 35, none⟩)])) w := by kernel_rfl
def compE : Array Value → Sem Value := Extern.ReflectliteType.method fun t => do Extern.Rtype.noPackHeld "Comparable" t; pure (.bool (← typeInfo t).comparable)
theorem Is_comp (w : World) : (compE #[.agg #[.pointer (some ⟨4, 35, none⟩)]]).run Tryd.prog w = .ok (.bool true) w := by kernel_rfl
theorem Is_mComp (v : Value) (w : World) : (Go.method (Tryd.prog.types.size + Made.depth) 89 v "Comparable").run Tryd.prog w = .ok (103, v) w := by kernel_rfl
theorem Is_ext35 (args : Array Value) (w : World) : (callFunc 35 args).run Tryd.prog w = ((Extern.ReflectliteType.typeOf args).run Tryd.prog w).andThen fun v w' => .ok (.value v) w' :=
 as_ext Tryd.prog 35 _ _ Tryd.func35 (by kernel_rfl) (by kernel_rfl) (by kernel_rfl) (by kernel_rfl) args w
theorem Is_extC (args : Array Value) (w : World) : (callFunc 103 args).run Tryd.prog w = ((compE args).run Tryd.prog w).andThen fun v w' => .ok (.value v) w' :=
 as_ext Tryd.prog 103 _ _ Tryd.func103 (by kernel_rfl) (by kernel_rfl) (by kernel_rfl) (by kernel_rfl) args w
theorem eIs_c (r t : Nat) (l : List (Nat × List UInt8)) (st e a st2 e2 a2 : Int) (w : World) (h1 : Ch st e a r l w) (h2 : ErrAt t st2 e2 a2 w) (hne : r ≠ t) :
 Calls Tryd.prog 15 #[topV r l, ownV t] w fun x w' => x = .returned (.bool (sameE st e st2 e2)) ∧ Below w.heap.size w w' := by
 have s2 : St (fun _ => False) w (fun w => ErrAt t st2 e2 a2 w) := St.start (ErrAt.bl t st2 e2 a2) h2
 have s1 : St (fun _ => False) w (fun w => Ch st e a r l w) := St.start (Ch.bl st e a r l) h1
 obtain ⟨v0, hv⟩ : ∃ v, v = topV r l := ⟨_, rfl⟩
 have hn : ∀ w, (binOp .eql 28 v0 .nilIface).run Tryd.prog w = .ok (.bool false) w := by
  subst hv; intro w
  cases l with
  | nil => exact eq_nilE r w
  | cons p l => exact eq_nilN p.1 w
 obtain ⟨t0, u0, hv2⟩ : ∃ t u, v0 = .iface t u := by
  subst hv
  cases l with
  | nil => exact ⟨_, _, rfl⟩
  | cons p l => exact ⟨_, _, rfl⟩
 have hc : ∀ w, Ch st e a r l w → ErrAt t st2 e2 a2 w → Calls Tryd.prog 36 #[v0, ownV t, .bool true] w fun x w' => x = .returned (.bool (sameE st e st2 e2)) ∧ Below w.heap.size w w' := fun w h1 h2 => by rw [hv]; exact eis_c r t l st e a st2 e2 a2 w h1 h2 hne
 rw [← hv]
 clear hv
 subst hv2
 unfold ownV
 refine sy_enter rfl rfl ?_
 simp only [initFr]
 repeat (first | refine yK ?_ | (refine gO ?_; refine yP ?_))
 refine sy_ov (ov_eqN rfl rfl hn) rfl rfl ?_
 repeat ((refine gO ?_; first | refine yP ?_ | (refine gG ?_; refine yG ?_)))
 refine sy_ov (ov_eqN (a := .pointer (some ⟨t, 0, none⟩)) rfl rfl (eq_nilE t)) rfl rfl ?_
 repeat (first | refine yK ?_ | (refine gO ?_; first | refine yP ?_ | refine yE ?_) | refine yN ?_)
 refine sy_ov (ov_ext rfl (fun w hw => ext_run (Is_ext35 _ w) (Is_typeOf (.pointer (some ⟨t, 0, none⟩)) w))) rfl rfl ?_
 skip
 refine sy_ov (ov_exti (args := []) rfl rfl (fun w => Is_mComp _ w) (fun w hw => ext_run (Is_extC _ w) (Is_comp w))) rfl rfl ?_
 repeat (first | refine yK ?_ | (refine gO ?_; refine yP ?_))
 refine sy_ov (ov_call rfl (fun w hw => hc w (s1.at hw) (s2.at hw))) rfl rfl ?_
 repeat (first | refine yK ?_ | (refine gO ?_; refine yP ?_) | refine sy_rt ?_)
 exact ret1 rfl rfl rfl
theorem eIs_nil (t : Nat) (w : World) : Calls Tryd.prog 15 #[.nilIface, ownV t] w fun x w' => x = .returned (.bool false) ∧ Below w.heap.size w w' := by
 unfold ownV
 refine sy_enter rfl rfl ?_
 simp only [initFr]
 repeat (first | refine yK ?_ | (refine gO ?_; refine yP ?_))
 refine sy_ov (ov_eqNN rfl eq_nn) rfl rfl ?_
 repeat (first | refine yK ?_ | (refine gO ?_; first | refine yP ?_ | (refine gG ?_; refine yH ?_) | refine sy_ov (ov_pick rfl rfl rfl) rfl rfl ?_) | refine yT ?_)
 refine sy_ov (ov_eqNI rfl rfl (eq_nE t)) rfl rfl ?_
 repeat (first | refine yK ?_ | (refine gO ?_; refine yP ?_) | refine sy_rt ?_)
 exact ret1 rfl rfl rfl
end Go.Proofs.YtldjakeigjngoaaDoor
/- errors.as and errors.As at a chain of the program's own errors. -/
namespace Go.Proofs.YtldjakeigjngoaaDoor
open Go.RowKit Go.Extern.Stop
section
variable {P : Program} {C : Cx} {k : List It} {fr : Fr} {hp : List En} {all : Array Oper} {l : List Oper} {dst : Option Tmp} {ty : TypeId} {pos : String} {aft : Array Edge} {g : Option (Nat × Bool)}
theorem sy_ext {f : FuncId} {args : List Operand} {ats : Array TypeId} {vs : List Value} (v : Nat → Value) (hp' : Nat → List En) (hx : evs fr args = some vs) (hf : Fits C.n dst)
 (hc : ∀ w, HpOk C.D C.w0 hp w → ∃ b w', (callFunc f vs.toArray).run P w = .ok (.value (v b)) w' ∧ HpOk C.D C.w0 (hp' b) w')
 (hk : ∀ b, Sy P C (.o all l :: k) (put dst (v b) fr) (hp' b)) : Sy P C (.o all (⟨dst, .call ⟨.value (.func f), ⟨args⟩, ats⟩, ty, pos, aft, none⟩ :: l) :: k) fr hp :=
 sy_op rfl fun a w ha hw => by
  obtain ⟨b, w', hr, hw'⟩ := hc w hw
  unfold Oper.wp
  have he : (execOp a.eval ⟨dst, .call ⟨.value (.func f), ⟨args⟩, ats⟩, ty, pos, aft, none⟩).run P w = .ok (.value (v b)) w' := by
   unfold execOp
   simp [resolve, Deferred.ofValue, invoke, Act.eval, ha.evs hx, hr]
  rw [he]
  exact (hk b).go _ _ (ha.put hf _) hw'
end
def pE (r : Nat) : Value := .pointer (some ⟨r, 0, none⟩)
def rvT (a : Nat) : Value := .agg #[.pointer (some ⟨4, 52, none⟩), .pointer (some ⟨a, 0, none⟩), .int .u64 150]
def rtT (t : Nat) : Value := .iface 89 (.agg #[.pointer (some ⟨4, t, none⟩)])
theorem as_eTO {args : Array Value} {v : Value} {w w' : World} (h : (Extern.ReflectliteType.typeOf args).run Tryd.prog w = .ok v w') : (callFunc 35 args).run Tryd.prog w = .ok (.value v) w' :=
 ext_run (as_ext Tryd.prog 35 _ Extern.ReflectliteType.typeOf Tryd.func35 (by kernel_rfl) (by kernel_rfl) (by kernel_rfl) (by kernel_rfl) args w) h
theorem as_eAT {args : Array Value} {v : Value} {w w' : World} (h : ((Extern.ReflectliteType.relation "AssignableTo" Extern.ReflectliteType.assignableTo) args).run Tryd.prog w = .ok v w') : (callFunc 102 args).run Tryd.prog w = .ok (.value v) w' :=
 ext_run (as_ext Tryd.prog 102 _ (Extern.ReflectliteType.relation "AssignableTo" Extern.ReflectliteType.assignableTo) Tryd.func102 (by kernel_rfl) (by kernel_rfl) (by kernel_rfl) (by kernel_rfl) args w) h
theorem as_eEl {args : Array Value} {v : Value} {w w' : World} (h : ((Extern.ReflectliteValue.method (Extern.ReflectliteValue.valueError "reflectlite.Value.Elem" 0) Extern.ReflectliteValue.elem) args).run Tryd.prog w = .ok v w') : (callFunc 62 args).run Tryd.prog w = .ok (.value v) w' :=
 ext_run (as_ext Tryd.prog 62 _ (Extern.ReflectliteValue.method (Extern.ReflectliteValue.valueError "reflectlite.Value.Elem" 0) Extern.ReflectliteValue.elem) Tryd.func62 (by kernel_rfl) (by kernel_rfl) (by kernel_rfl) (by kernel_rfl) args w) h
theorem as_eVO {args : Array Value} {v : Value} {w w' : World} (h : (Extern.ReflectliteValue.unpack (args.getD 0 (.tuple #[]))).run Tryd.prog w = .ok v w') : (callFunc 46 args).run Tryd.prog w = .ok (.value v) w' :=
 ext_run (e := fun args => Extern.ReflectliteValue.unpack (args.getD 0 (.tuple #[]))) (as_ext Tryd.prog 46 _ (fun args => Extern.ReflectliteValue.unpack (args.getD 0 (.tuple #[]))) Tryd.func46 (by kernel_rfl) (by kernel_rfl) (by kernel_rfl) (by kernel_rfl) args w) h
theorem as_eSe {args : Array Value} {v : Value} {w w' : World} (h : (Extern.ReflectliteValue.set args).run Tryd.prog w = .ok v w') : (callFunc 63 args).run Tryd.prog w = .ok (.value v) w' :=
 ext_run (as_ext Tryd.prog 63 _ Extern.ReflectliteValue.set Tryd.func63 (by kernel_rfl) (by kernel_rfl) (by kernel_rfl) (by kernel_rfl) args w) h
theorem as_typeOfN (v : Value) (w : World) : (Extern.ReflectliteType.typeOf #[.iface 53 v]).run Tryd.prog w = .ok (rtT 53) w := by kernel_rfl
theorem as_assN (w : World) : (Extern.ReflectliteType.relation "AssignableTo" Extern.ReflectliteType.assignableTo #[.agg #[.pointer (some ⟨4, 53, none⟩)], rtT 35]).run Tryd.prog w = .ok (.bool false) w := by kernel_rfl
theorem as_mA (t : Nat) (w : World) : (Go.method (Tryd.prog.types.size + Made.depth) 89 (.agg #[.pointer (some ⟨4, t, none⟩)]) "AssignableTo").run Tryd.prog w = .ok (102, .agg #[.pointer (some ⟨4, t, none⟩)]) w := by kernel_rfl
theorem noAsN (v : Value) (w : World) : (Instr.typeAssert (.iface 53 v) 28 111 true).run Tryd.prog w = .ok (.tuple #[.nilIface, .bool false]) w := run_typeAssert_lacksB Tryd.underlying111 (by kernel_rfl) (by kernel_rfl) v _ w
set_option maxRecDepth 20000 in
set_option maxHeartbeats 4000000 in
theorem eas_c (r t0 va : Nat) (old : Value) (l : List (Nat × List UInt8)) (st e a : Int) (w : World) (hs : St (domL [blk t0 35 [old], blk va 52 [pE t0]]) w (fun w => Ch st e a r l w))
 (hw : HpOk (domL [blk t0 35 [old], blk va 52 [pE t0]]) w [blk t0 35 [old], blk va 52 [pE t0]] w) :
 Calls Tryd.prog 49 #[topV r l, .iface 52 (pE t0), rvT va, rtT 35] w (PostE [blk t0 35 [old], blk va 52 [pE t0]] w fun v es' => v = .bool true ∧ es' = [blk t0 35 [pE r], blk va 52 [pE t0]]) := by
 refine sy_enterEw (args := [_, _, _, _]) hw rfl rfl ?_
 simp only [initFr]
 repeat (first | refine yK ?_ | (refine gO ?_; first | refine yP ?_ | (refine sy_box rfl rfl rfl ?_; intro _)))
 rename_i bx
 refine sy_loop (α := List (Nat × List UInt8)) (fun l => [(0, topV r l), (1, .iface 52 (pE t0)), (3, rtT 35), (6, pE bx)]) (fun _ => [blk bx 77 [.pointer (some ⟨4, 52, none⟩), .pointer (some ⟨va, 0, none⟩), .int .u64 150], blk t0 35 [old], blk va 52 [pE t0]])
  (fun l => St (domL [blk t0 35 [old], blk va 52 [pE t0]]) w (fun w => Ch st e a r l w)) (fun l => l.length) l hs ⟨⟨_, rfl, rfl⟩, ⟨_, rfl, rfl⟩, ⟨_, rfl, rfl⟩, ⟨_, rfl, rfl⟩, trivial⟩ (List.Sublist.refl _) ?_
 intro l s1
 cases l with
 | nil =>
  dsimp only [topV, ownV]
  repeat (first | refine yK ?_ | (refine gO ?_; refine yP ?_))
  refine sy_ov (ov_ext rfl (fun w hw => as_eTO (as_typeOf25 (pE r) w))) rfl rfl ?_
  repeat ((refine gO ?_; refine yP ?_))
  refine sy_ov (ov_exti rfl rfl (as_mA _) (fun w hw => as_eAT (as_assignable25 w))) rfl rfl ?_
  repeat (first | refine yK ?_ | (refine gO ?_; (refine gL ?_; refine yL 0 ?_)) | refine yT ?_)
  refine sy_ov (ov_ext rfl (fun w hw => as_eEl (as_elemV27 ⟨va, 0, none⟩ ⟨t0, 0, none⟩ w (hw.cell (i := 2) rfl 0)))) rfl rfl ?_
  repeat ((refine gO ?_; refine yP ?_))
  refine sy_ext (fun b => .agg #[.pointer (some ⟨4, 35, none⟩), .pointer (some ⟨b, 0, none⟩), .int .u64 150]) (fun b => blk b 35 [pE r] :: [blk bx 77 [.pointer (some ⟨4, 52, none⟩), .pointer (some ⟨va, 0, none⟩), .int .u64 150], blk t0 35 [old], blk va 52 [pE t0]]) rfl rfl (fun w hw => ⟨_, _, as_eVO (as_valueOf25 _ w), hw.alloc _ _⟩) ?_
  intro b2
  skip
  refine sy_ext (fun _ => .tuple #[]) (fun _ => [blk b2 35 [pE r], blk bx 77 [.pointer (some ⟨4, 52, none⟩), .pointer (some ⟨va, 0, none⟩), .int .u64 150], blk t0 35 [pE r], blk va 52 [pE t0]]) rfl rfl (fun w hw => ⟨0, _, as_eSe (as_set25 ⟨t0, 0, none⟩ ⟨b2, 0, none⟩ ⟨r, 0, none⟩ old w (hw.cell (i := 0) rfl 0) (hw.cell (i := 2) rfl 0) (hw.thawed (i := 2) rfl 0)), hw.store (i := 2) (off := 0) rfl _⟩) ?_
  intro _
  repeat (first | refine yK ?_ | (refine gO ?_; refine yP ?_) | refine sy_rt ?_)
  exact ret1w rfl rfl fun w' hw' => postE hw' [blk t0 35 [pE r], blk va 52 [pE t0]] (sub_self (sd (sd sr))) rfl ⟨rfl, rfl⟩
 | cons p l =>
  obtain ⟨b, s⟩ := p
  have s3 : St (domL [blk t0 35 [old], blk va 52 [pE t0]]) w (fun w => NoteAt b s (topV r l) w) := s1.imp fun w h => h.1
  have s4 : St (domL [blk t0 35 [old], blk va 52 [pE t0]]) w (fun w => Ch st e a r l w) := s1.imp fun w h => h.2
  obtain ⟨v0, hv⟩ : ∃ v, v = topV r l := ⟨_, rfl⟩
  rw [← hv] at s3
  have hn : ∀ w, (binOp .eql 28 v0 .nilIface).run Tryd.prog w = .ok (.bool false) w := by
   subst hv; intro w
   cases l with
   | nil => exact eq_nilE r w
   | cons p l => exact eq_nilN p.1 w
  obtain ⟨k0, u0, hv2⟩ : ∃ t u, v0 = .iface t u := by
   subst hv
   cases l with
   | nil => exact ⟨_, _, rfl⟩
   | cons p l => exact ⟨_, _, rfl⟩
  dsimp only [topV, ownV, noteV]
  repeat (first | refine yK ?_ | (refine gO ?_; refine yP ?_))
  refine sy_ov (ov_ext rfl (fun w hw => as_eTO (as_typeOfN (pE b) w))) rfl rfl ?_
  repeat ((refine gO ?_; refine yP ?_))
  refine sy_ov (ov_exti rfl rfl (as_mA _) (fun w hw => as_eAT (as_assN w))) rfl rfl ?_
  repeat (first | refine yK ?_ | (refine gO ?_; refine yP ?_) | refine yN ?_)
  refine sy_ov (ov_ta rfl (fun w => noAsN _ w)) rfl rfl ?_
  repeat (first | refine yK ?_ | (refine gO ?_; first | refine yP ?_ | (refine gG ?_; refine yH ?_) | refine sy_ov (ov_pick rfl rfl rfl) rfl rfl ?_) | refine yN ?_)
  refine sy_ov (ov_ta rfl (fun w => hasUnwrapN _ w)) rfl rfl ?_
  repeat (first | refine yK ?_ | (refine gO ?_; refine yP ?_) | refine yT ?_)
  refine sy_ov (sy_invoke (args := []) rfl rfl (fun w => mUnwrap _ w) (fun w hw => unwrap_c b s v0 w (s3.at hw))) rfl rfl ?_
  repeat (first | refine yK ?_ | (refine gO ?_; refine yP ?_))
  subst hv2
  refine sy_ov (ov_eqN rfl rfl hn) rfl rfl ?_
  repeat (first | refine yK ?_ | refine yN ?_)
  cases l with
  | nil => cases hv; exact sy_back [] s4 (by simp) ⟨⟨_, rfl, rfl⟩, ⟨_, rfl, rfl⟩, ⟨_, rfl, rfl⟩, ⟨_, rfl, rfl⟩, trivial⟩ (List.Sublist.refl _)
  | cons p l => cases hv; exact sy_back (p :: l) s4 (by simp) ⟨⟨_, rfl, rfl⟩, ⟨_, rfl, rfl⟩, ⟨_, rfl, rfl⟩, ⟨_, rfl, rfl⟩, trivial⟩ (List.Sublist.refl _)
theorem as_eTy {args : Array Value} {v : Value} {w w' : World} (h : (Extern.ReflectliteValue.methodAny (Extern.ReflectliteValue.valueError "reflectlite.Value.Type" 0) (fun t _ _ _ => Extern.ReflectliteType.toType t) args).run Tryd.prog w = .ok v w') : (callFunc 47 args).run Tryd.prog w = .ok (.value v) w' :=
 ext_run (as_ext Tryd.prog 47 _ (Extern.ReflectliteValue.methodAny (Extern.ReflectliteValue.valueError "reflectlite.Value.Type" 0) (fun t _ _ _ => Extern.ReflectliteType.toType t)) Tryd.func47 (by kernel_rfl) (by kernel_rfl) (by kernel_rfl) (by kernel_rfl) args w) h
theorem as_eIN {args : Array Value} {v : Value} {w w' : World} (h : (Extern.ReflectliteValue.method (Extern.ReflectliteValue.valueError "reflectlite.Value.IsNil" 0) Extern.ReflectliteValue.isNil args).run Tryd.prog w = .ok v w') : (callFunc 48 args).run Tryd.prog w = .ok (.value v) w' :=
 ext_run (as_ext Tryd.prog 48 _ (Extern.ReflectliteValue.method (Extern.ReflectliteValue.valueError "reflectlite.Value.IsNil" 0) Extern.ReflectliteValue.isNil) Tryd.func48 (by kernel_rfl) (by kernel_rfl) (by kernel_rfl) (by kernel_rfl) args w) h
theorem as_eKi {args : Array Value} {v : Value} {w w' : World} (h : (Extern.ReflectliteType.abiMethod (fun t => do pure (.int .u8 (← Extern.Rtype.kind t))) args).run Tryd.prog w = .ok v w') : (callFunc 93 args).run Tryd.prog w = .ok (.value v) w' :=
 ext_run (as_ext Tryd.prog 93 _ (Extern.ReflectliteType.abiMethod fun t => do pure (.int .u8 (← Extern.Rtype.kind t))) Tryd.func93 (by kernel_rfl) (by kernel_rfl) (by kernel_rfl) (by kernel_rfl) args w) h
theorem as_eEt {args : Array Value} {v : Value} {w w' : World} (h : (Extern.ReflectliteType.method Extern.ReflectliteType.elem args).run Tryd.prog w = .ok v w') : (callFunc 104 args).run Tryd.prog w = .ok (.value v) w' :=
 ext_run (as_ext Tryd.prog 104 _ (Extern.ReflectliteType.method Extern.ReflectliteType.elem) Tryd.func104 (by kernel_rfl) (by kernel_rfl) (by kernel_rfl) (by kernel_rfl) args w) h
theorem as_eIm {args : Array Value} {v : Value} {w w' : World} (h : (Extern.ReflectliteType.relation "Implements" Extern.ReflectliteType.implements_ args).run Tryd.prog w = .ok v w') : (callFunc 105 args).run Tryd.prog w = .ok (.value v) w' :=
 ext_run (as_ext Tryd.prog 105 _ (Extern.ReflectliteType.relation "Implements" Extern.ReflectliteType.implements_) Tryd.func105 (by kernel_rfl) (by kernel_rfl) (by kernel_rfl) (by kernel_rfl) args w) h
theorem as_mK (t : Nat) (w : World) : (Go.method (Tryd.prog.types.size + Made.depth) 89 (.agg #[.pointer (some ⟨4, t, none⟩)]) "Kind").run Tryd.prog w = .ok (93, .pointer (some ⟨4, t, none⟩)) w := by kernel_rfl
theorem as_mE (t : Nat) (w : World) : (Go.method (Tryd.prog.types.size + Made.depth) 89 (.agg #[.pointer (some ⟨4, t, none⟩)]) "Elem").run Tryd.prog w = .ok (104, .agg #[.pointer (some ⟨4, t, none⟩)]) w := by kernel_rfl
theorem as_mI (t : Nat) (w : World) : (Go.method (Tryd.prog.types.size + Made.depth) 89 (.agg #[.pointer (some ⟨4, t, none⟩)]) "Implements").run Tryd.prog w = .ok (105, .agg #[.pointer (some ⟨4, t, none⟩)]) w := by kernel_rfl
theorem as_k27' (w : World) : (Extern.ReflectliteType.abiMethod (fun t => do pure (.int .u8 (← Extern.Rtype.kind t))) #[.pointer (some ⟨4, 52, none⟩)]).run Tryd.prog w = .ok (.int .u8 22) w := by kernel_rfl
theorem as_k25' (w : World) : (Extern.ReflectliteType.abiMethod (fun t => do pure (.int .u8 (← Extern.Rtype.kind t))) #[.pointer (some ⟨4, 35, none⟩)]).run Tryd.prog w = .ok (.int .u8 22) w := by kernel_rfl
theorem eq_anyT (v : Value) (w : World) : (binOp .eql 20 (.iface 52 v) .nilIface).run Tryd.prog w = .ok (.bool false) w := by kernel_rfl
def ErrT (w : World) : Prop := w.cell? ⟨0, 0, none⟩ = some (rtT 28)
theorem ErrT.bl : Bl fun w => ErrT w := fun w w' hb h => by
 have hl : 0 < w.heap.size := by
  rcases Nat.eq_zero_or_pos w.heap.size with h0 | h'
  · simp [ErrT, World.cell?, h0] at h
  · exact h'
 have e := hb.block 0 hl
 simp only [ErrT, World.cell?] at h ⊢
 rw [e]; exact h
set_option maxRecDepth 20000 in
set_option maxHeartbeats 4000000 in
theorem eAs_c (r t0 : Nat) (old : Value) (l : List (Nat × List UInt8)) (st e a : Int) (w : World) (hs : St (domL [blk t0 35 [old]]) w (fun w => Ch st e a r l w)) (hg : St (domL [blk t0 35 [old]]) w (fun w => ErrT w))
 (hw : HpOk (domL [blk t0 35 [old]]) w [blk t0 35 [old]] w) :
 Calls Tryd.prog 27 #[topV r l, .iface 52 (pE t0)] w (PostE [blk t0 35 [old]] w fun v es' => v = .bool true ∧ es' = [blk t0 35 [pE r]]) := by
 obtain ⟨v0, hv⟩ : ∃ v, v = topV r l := ⟨_, rfl⟩
 have hn : ∀ w, (binOp .eql 28 v0 .nilIface).run Tryd.prog w = .ok (.bool false) w := by
  subst hv; intro w
  cases l with
  | nil => exact eq_nilE r w
  | cons p l => exact eq_nilN p.1 w
 obtain ⟨k0, u0, hv2⟩ : ∃ t u, v0 = .iface t u := by
  subst hv
  cases l with
  | nil => exact ⟨_, _, rfl⟩
  | cons p l => exact ⟨_, _, rfl⟩
 have hc := fun va w hs hw => hv ▸ eas_c r t0 va old l st e a w hs hw
 rw [← hv]
 clear hv
 subst hv2
 refine sy_enterEw (args := [_, _]) hw rfl rfl ?_
 simp only [initFr]
 repeat (first | refine yK ?_ | (refine gO ?_; refine yP ?_))
 refine sy_ov (ov_eqN rfl rfl hn) rfl rfl ?_
 repeat (first | refine yK ?_ | (refine gO ?_; refine yP ?_) | refine yN ?_)
 refine sy_ov (ov_eqN rfl rfl (eq_anyT _)) rfl rfl ?_
 repeat (first | refine yK ?_ | (refine gO ?_; refine yP ?_) | refine yN ?_)
 refine sy_ext rvT (fun b => blk b 52 [pE t0] :: [blk t0 35 [old]]) rfl rfl (fun w hw => ⟨_, _, as_eVO (as_valueOf27 _ w), hw.alloc _ _⟩) ?_
 intro va
 unfold rvT
 repeat (first | refine yK ?_ | (refine gO ?_; first | (refine gL ?_; refine yL 0 ?_) | (refine gS ?_; refine yS 0 ?_) | (refine yA ?_; intro _)))
 rename_i bx
 refine sy_ov (ov_ext rfl (fun w hw => as_eTy (as_type27 ⟨va, 0, none⟩ w))) rfl rfl ?_
 repeat (first | refine yK ?_ | (refine gO ?_; refine yP ?_))
 refine sy_ov (ov_exti (args := []) rfl rfl (as_mK _) (fun w hw => as_eKi (as_k27' w))) rfl rfl ?_
 repeat ((refine gO ?_; first | refine yP ?_ | (refine gG ?_; refine yG ?_) | (refine gL ?_; refine yL 0 ?_)))
 refine sy_ov (ov_ext rfl (fun w hw => as_eIN (as_isNil27 ⟨va, 0, none⟩ ⟨t0, 0, none⟩ w (hw.cell (i := 1) rfl 0)))) rfl rfl ?_
 repeat (first | refine yK ?_ | (refine gO ?_; first | refine yP ?_ | refine yE ?_) | refine yN ?_)
 refine sy_ov (ov_exti (args := []) rfl rfl (as_mE _) (fun w hw => as_eEt (as_elem27 w))) rfl rfl ?_
 repeat (first | refine yK ?_ | (refine gO ?_; refine yP ?_))
 refine sy_ov (ov_exti (args := []) rfl rfl (as_mK _) (fun w hw => as_eKi (as_k25' w))) rfl rfl ?_
 repeat ((refine gO ?_; first | refine yP ?_ | (refine gG ?_; refine yG ?_)))
 refine sy_ov (ov_loadx rfl rfl (fun w hw => hg.at hw)) rfl rfl ?_
 repeat ((refine gO ?_; (refine gG ?_; refine yG ?_)))
 refine sy_ov (ov_exti rfl rfl (as_mI _) (fun w hw => as_eIm (as_implements25 w))) rfl rfl ?_
 repeat (first | refine yK ?_ | (refine gO ?_; first | refine yP ?_ | (refine gG ?_; refine yG ?_) | (refine gL ?_; refine yL 0 ?_) | refine yM ?_) | refine yN ?_)
 refine sy_order [2, 1, 0] rfl rfl ?_
 skip
 refine sy_callEw [blk t0 35 [old], blk va 52 [pE t0]] rfl rfl rfl (fun w hw => hc va w (hs.callE hw) hw.self) ?_
 rintro v es' ⟨rfl, rfl⟩
 repeat (first | refine yK ?_ | (refine gO ?_; refine yP ?_) | refine sy_rt ?_)
 exact ret1w rfl rfl fun w' hw' => postE hw' [blk t0 35 [pE r]] (sub_self (sk (sd (sd sr)))) rfl ⟨rfl, rfl⟩
end Go.Proofs.YtldjakeigjngoaaDoor