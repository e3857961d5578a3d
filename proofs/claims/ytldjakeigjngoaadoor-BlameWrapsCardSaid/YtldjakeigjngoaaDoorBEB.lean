/- BEB: texts of this proof, joined by program: ErrOf, ErrSay, ErrWrap. -/
import Derived.Test.YtldjakeigjngoaaDoorBEA
import Derived.Test.YtldjakeigjngoaaDoorWalkBlameNamesQ
/- Of, Has, New, Wrap, Say at chains of the program's own errors. -/
set_option linter.unusedVariables false
set_option linter.unusedSimpArgs false
namespace Go.Proofs.YtldjakeigjngoaaDoor
open Go.RowKit Bf
section
variable {P : Program} {C : Cx} {fr : Fr} {hp : List En} {dst : Option Tmp} {ty : TypeId} {pos : String} {aft : Array Edge} {g : Option (Nat × Bool)}
theorem ov_mkE {t e : TypeId} [hd : TU P t (.pointer e)] {x : Operand} {v : Value} (hx : ev fr x = some v) : OV P C fr hp ⟨dst, .makeInterface t x, ty, pos, aft, g⟩ (.iface t v) :=
 ov_pure fun r w hr => by simp [execOp, hr _ _ hx, Instr.makeInterface, underlying, TU.h (P := P) (t := t)]
end
section
variable {P : Program} {k : List It} {fr : Fr} {hp : List En}
theorem ret_tctE (i : Nat) {fn : Func} {t u c : Tmp} {ct : TypeId} {d : TypeDesc} {ti : TypeInfo} [hd : TU P ct d] [hti : TI P ct ti] {w0 : World} {n b : Nat} {e : TypeId} {cs : List Value} {v x v0 : Value} (hr : fn.results = #[.tmp t, .cell c ct, .tmp u]) (hv : get t fr = some v) (hc : get c fr = some (.pointer (some ⟨b, 0, none⟩))) (hx : get u fr = some x) (hi : hp[i]? = some (blk b e cs)) (ha : isAggD d = true) (hn : Nat.ble (0 + ti.size) cs.length = true) (he : Value.tuple #[v, .agg ⟨cs.take ti.size⟩, x] = v0) :
 Leave P ⟨fun _ => False, w0, n, bodyPost P fn fun e w' => e = .returned v0 ∧ Below w0.heap.size w0 w'⟩ .ret [] fr hp := .mk fun a w ha' hw => by
 subst he
 have hl := loadVar_ok (P := P) (t := ct) hw hi ha hn
 have hs := ha'.slot c _ hc
 have hs1 := ha'.slot t _ hv
 have hs2 := ha'.slot u _ hx
 rw [Array.getD_eq_getD_getElem?] at hs hs1 hs2
 have hq : (results fn a.tmps).run P w = .ok (.tuple #[v, .agg ⟨cs.take ti.size⟩, x]) w := by
  simp [results, hr, hs, hs1, hs2, asAddr, hl]
 show bodyPost P fn (fun e w' => e = .returned _ ∧ Below w0.heap.size w0 w') .ret a w
 exact bodyPost_ret hq ha'.defers (And.intro rfl hw.below)
end
theorem ch_lt {st e a : Int} {r : Nat} {l : List (Nat × List UInt8)} {w : World} (h : Ch st e a r l w) : r < w.heap.size := by
 have h : w.heap[r]? = some _ := h.root
 rcases Nat.lt_or_ge r w.heap.size with h' | h'
 · exact h'
 · rw [Array.getElem?_eq_none h'] at h; cases h
def faultV (e a : Int) : Value := .agg ⟨[.int .i64 e, .int .i64 a]⟩
set_option maxRecDepth 20000 in
set_option maxHeartbeats 4000000 in
theorem of_c (r : Nat) (l : List (Nat × List UInt8)) (st e a : Int) (w : World) (h1 : Ch st e a r l w) (hg : ErrT w) : Calls Tryd.prog 7 #[topV r l] w fun x w' => x = .returned (.tuple #[.int .i64 st, faultV e a, .bool true]) ∧ Below w.heap.size w w' := by
 have s1 : St (fun _ => False) w (fun w => Ch st e a r l w) := St.start (Ch.bl st e a r l) h1
 have s2 : St (fun _ => False) w (fun w => ErrAt r st e a w) := s1.imp fun w h => h.root
 have s3 : St (fun _ => False) w ErrT := St.start ErrT.bl hg
 have hc := fun t0 w hs hg hw => eAs_c r t0 (.pointer none) l st e a w hs hg hw
 obtain ⟨v0, hv⟩ : ∃ v, v = topV r l := ⟨_, rfl⟩
 rw [← hv] at hc ⊢
 refine sy_enter rfl rfl ?_
 simp only [initFr]
 repeat (first | refine yK ?_ | (refine gO ?_; first | refine yP ?_ | (refine yA ?_; intro _)))
 rename_i bc t0
 refine sy_ov (ov_mkE rfl) rfl rfl ?_
 skip
 refine sy_callEw [blk t0 35 [.pointer none]] rfl rfl rfl (fun w hw => hc t0 w (s1.callE hw) (s3.callE hw) hw.self) ?_
 rintro v es' ⟨rfl, rfl⟩
 repeat ((refine gO ?_; first | refine yP ?_ | (refine gG ?_; refine yG ?_) | (refine gL ?_; refine yL 0 ?_)))
 refine sy_ov (ov_eqP rfl rfl (pe_ne _)) rfl rfl ?_
 repeat (first | refine yK ?_ | (refine gO ?_; refine yE ?_) | refine yN ?_)
 refine sy_draw 9 (by kernel_rfl) ?_
 repeat (first | refine dr_op (ov_p rfl) rfl rfl ?_ | refine dr_op (ov_ld 0 rfl rfl rfl) rfl rfl ?_ | refine dr_op (ov_fieldAddr rfl rfl rfl) rfl rfl ?_)
 refine dr_op (ov_loadx (v := .int .i64 st) rfl rfl (fun w hw => (s2.at hw).cell (j := 0) rfl)) rfl rfl ?_
 repeat (first | refine dr_op (ov_p rfl) rfl rfl ?_ | refine dr_op (ov_ld 0 rfl rfl rfl) rfl rfl ?_ | refine dr_op (ov_fieldAddr rfl rfl rfl) rfl rfl ?_)
 refine dr_op (ov_loadxa (b := r) (off := 1) (vs := [.int .i64 e, .int .i64 a]) rfl rfl rfl (fun w hw j u hj => ?_)) rfl rfl ?_
 · have := (s2.at hw).cell (j := 1 + j) (u := u) (by rcases j with _ | _ | j <;> simp at hj ⊢ <;> exact hj)
   exact this
 repeat (first | refine dr_op (ov_p rfl) rfl rfl ?_ | refine dr_end ?_)
 repeat (first | refine yK ?_ | (refine gO ?_; first | refine yP ?_ | (refine gS ?_; refine yS 1 ?_)) | refine sy_rt ?_)
 exact ret_tctE 1 rfl rfl rfl rfl rfl rfl rfl rfl
set_option maxRecDepth 20000 in
theorem of_nil (w : World) : Calls Tryd.prog 7 #[.nilIface] w fun x w' => x = .returned (.tuple #[.int .i64 0, faultV 0 0, .bool false]) ∧ Below w.heap.size w w' := by
 refine sy_enter rfl rfl ?_
 simp only [initFr]
 repeat (first | refine yK ?_ | (refine gO ?_; first | refine yP ?_ | (refine yA ?_; intro _)))
 refine sy_ov (ov_mkE rfl) rfl rfl ?_
 skip
 refine sy_ov (ov_call rfl (fun w _ => (as_nil _ w).mono (by rintro e w' ⟨rfl, rfl⟩; exact ⟨rfl, Below.refl _ _⟩))) rfl rfl ?_
 repeat (first | refine yK ?_ | (refine gO ?_; first | refine yP ?_ | (refine gG ?_; refine yH ?_) | (refine gS ?_; refine yS 1 ?_) | refine sy_ov (ov_pick rfl rfl rfl) rfl rfl ?_ | refine yB ?_) | refine yT ?_ | refine sy_rt ?_)
 exact ret_tctE 1 rfl rfl rfl rfl rfl rfl rfl rfl
theorem hpAt {D : Nat → Prop} {w0 w : World} {hp : List En} (h : HpOk D w0 hp w) {i t : Nat} {st e a : Int} (hi : hp[i]? = some (blk t 26 [.int .i64 st, .int .i64 e, .int .i64 a])) : ErrAt t st e a w := (h.get hi).1
set_option maxRecDepth 20000 in
theorem has_c (r : Nat) (l : List (Nat × List UInt8)) (st e a st2 e2 : Int) (w : World) (h1 : Ch st e a r l w) : Calls Tryd.prog 9 #[topV r l, .int .i64 st2, .int .i64 e2] w fun x w' => x = .returned (.bool (sameE st e st2 e2)) ∧ Below w.heap.size w w' := by
 have s1 : St (fun _ => False) w (fun w => Ch st e a r l w) := St.start (Ch.bl st e a r l) h1
 have hlt := ch_lt h1
 have hc := fun t w hs hg hne => eIs_c r t l st e a st2 e2 0 w hs hg hne
 obtain ⟨v0, hv⟩ : ∃ v, v = topV r l := ⟨_, rfl⟩
 rw [← hv] at hc ⊢
 refine sy_enter rfl rfl ?_
 simp only [initFr]
 repeat (first | refine yK ?_ | (refine gO ?_; first | refine yP ?_ | refine yB ?_ | (refine sy_box rfl rfl rfl ?_; intro _)))
 rename_i t
 refine sy_ov (ov_mkE rfl) rfl rfl ?_
 skip
 refine sy_ov (ov_call rfl (fun w hw => hc t w (s1.at hw) (hpAt hw (i := 0) rfl) (by have := ((hw.get (i := 0) rfl).2 t rfl).1; simp at this; omega))) rfl rfl ?_
 repeat (first | refine yK ?_ | (refine gO ?_; refine yP ?_) | refine sy_rt ?_)
 exact ret1 rfl rfl rfl
set_option maxRecDepth 20000 in
theorem has_nil (st2 e2 : Int) (w : World) : Calls Tryd.prog 9 #[.nilIface, .int .i64 st2, .int .i64 e2] w fun x w' => x = .returned (.bool false) ∧ Below w.heap.size w w' := by
 refine sy_enter rfl rfl ?_
 simp only [initFr]
 repeat (first | refine yK ?_ | (refine gO ?_; first | refine yP ?_ | refine yB ?_ | (refine sy_box rfl rfl rfl ?_; intro _)))
 rename_i t
 refine sy_ov (ov_mkE rfl) rfl rfl ?_
 skip
 refine sy_ov (ov_call rfl (fun w _ => eIs_nil t w)) rfl rfl ?_
 repeat (first | refine yK ?_ | (refine gO ?_; refine yP ?_) | refine sy_rt ?_)
 exact ret1 rfl rfl rfl
set_option maxRecDepth 20000 in
theorem newE_c (st e a : Int) (he : e ≠ 0) : CallsE Tryd.prog 6 [.int .i64 st, faultV e a] [] fun u es' => ∃ b, u = ownV b ∧ es' = [blk b 26 [.int .i64 st, .int .i64 e, .int .i64 a]] := by
 unfold faultV
 refine sy_enterE rfl rfl (fun w => ?_)
 simp only [initFr]
 repeat (first | refine yK ?_ | (refine gO ?_; first | refine yP ?_ | (refine gL ?_; refine yL 0 ?_) | refine yF ?_ | refine yB ?_ | (refine sy_box rfl rfl rfl ?_; intro _)) | refine yN ?_)
 rename_i b3 b
 refine sy_ov (ov_mkE rfl) rfl rfl ?_
 repeat (first | refine yK ?_ | (refine gO ?_; refine yP ?_) | refine sy_rt ?_)
 exact ret1w rfl rfl fun w' hw' => postE hw' _ (sub_self (sk (List.nil_sublist _))) rfl ⟨b, rfl, rfl⟩
set_option maxRecDepth 20000 in
theorem new_nil (st a : Int) (w : World) : Calls Tryd.prog 6 #[.int .i64 st, faultV 0 a] w fun x w' => x = .returned .nilIface ∧ Below w.heap.size w w' := by
 unfold faultV
 refine sy_enter rfl rfl ?_
 simp only [initFr]
 repeat (first | refine yK ?_ | (refine gO ?_; first | refine yP ?_ | (refine gL ?_; refine yL 0 ?_) | refine yF ?_ | (refine sy_box rfl rfl rfl ?_; intro _)) | refine yT ?_ | refine sy_rt ?_)
 exact ret1 rfl rfl rfl
set_option maxRecDepth 20000 in
theorem wrap_nil (s : List UInt8) (w : World) : Calls Tryd.prog 16 #[S s, .nilIface] w fun x w' => x = .returned .nilIface ∧ Below w.heap.size w w' := by
 refine sy_enter rfl rfl ?_
 simp only [initFr]
 repeat (first | refine yK ?_ | (refine gO ?_; refine yP ?_))
 refine sy_ov (ov_eqNN rfl eq_nn) rfl rfl ?_
 repeat (first | refine yK ?_ | (refine gO ?_; refine yP ?_) | refine yT ?_ | refine sy_rt ?_)
 exact ret1 rfl rfl rfl
set_option maxRecDepth 20000 in
theorem wrap_c (s : List UInt8) (r : Nat) (l : List (Nat × List UInt8)) : CallsE Tryd.prog 16 [S s, topV r l] [] fun u es' => ∃ b, u = noteV b ∧ es' = [blk b 65 [S s, topV r l]] := by
 obtain ⟨v0, hv⟩ : ∃ v, v = topV r l := ⟨_, rfl⟩
 have hn : ∀ w, (binOp .eql 28 v0 .nilIface).run Tryd.prog w = .ok (.bool false) w := by
  subst hv; intro w
  cases l with
  | nil => exact eq_nilE r w
  | cons p l => exact eq_nilN p.1 w
 obtain ⟨k0, u0, hv2⟩ : ∃ t u, v0 = .iface t u := by
  subst hv
  cases l with
  | nil => exact ⟨_, _, rfl⟩
  | cons p l => exact ⟨_, _, rfl⟩
 rw [← hv]
 clear hv
 subst hv2
 refine sy_enterE rfl rfl (fun w => ?_)
 simp only [initFr]
 repeat (first | refine yK ?_ | (refine gO ?_; refine yP ?_))
 refine sy_ov (ov_eqN rfl rfl hn) rfl rfl ?_
 repeat (first | refine yK ?_ | (refine gO ?_; first | refine yP ?_ | refine yB ?_ | (refine sy_box rfl rfl rfl ?_; intro _)) | refine yN ?_)
 rename_i b
 refine sy_ov (ov_mkE rfl) rfl rfl ?_
 repeat (first | refine yK ?_ | (refine gO ?_; refine yP ?_) | refine sy_rt ?_)
 exact ret1w rfl rfl fun w' hw' => postE hw' _ (sub_self (List.Sublist.refl _)) rfl ⟨b, rfl, rfl⟩
end Go.Proofs.YtldjakeigjngoaaDoor
/- The texts of chains of the program's own errors, on both sides. -/
namespace Go.Proofs.YtldjakeigjngoaaDoor
open Go.RowKit Bf
def erL (st e a : Int) : List UInt8 := (errB st e a).data.toList
def wrpL : List (Nat × List UInt8) → List UInt8 → List UInt8
 | [], t => t
 | (_, s) :: l, t => s ++ [58, 32] ++ wrpL l t
theorem ta_noteE (v : Value) (w : World) : (Instr.typeAssert (.iface 53 v) 28 35 true).run Tryd.prog w = .ok (.tuple #[.pointer none, .bool false]) w := by kernel_rfl
theorem ta_note (a : Addr) (w : World) : (Instr.typeAssert (.iface 53 (.pointer (some a))) 28 53 true).run Tryd.prog w = .ok (.tuple #[.pointer (some a), .bool true]) w := by kernel_rfl
theorem ta_nilN (w : World) : (Instr.typeAssert .nilIface 28 53 true).run Tryd.prog w = .ok (.tuple #[.pointer none, .bool false]) w := by kernel_rfl
set_option maxRecDepth 20000 in
theorem say_c (r : Nat) (st e a : Int) (ha : -9223372036854775808 ≤ a ∧ a ≤ 9223372036854775807) : ∀ (l : List (Nat × List UInt8)) (w : World), (wrpL l (erL st e a)).length ≤ 9223372036854775807 → Ch st e a r l w →
 Calls Tryd.prog 8 #[topV r l] w fun x w' => x = .returned (S (wrpL l (erL st e a))) ∧ Below w.heap.size w w'
 | [], w, _, h => by
  have h : ErrAt r st e a w := h
  exact say_err r st e a w ha (ch_lt (l := []) h) (h.cell (j := 0) rfl) (h.cell (j := 1) rfl) (h.cell (j := 2) rfl)
 | (b, s) :: l, w, hl, h => by
  have hl1 : s.length + 2 + (wrpL l (erL st e a)).length ≤ 9223372036854775807 := by simp [wrpL] at hl; omega
  have ih := fun w h => say_c r st e a ha l w (by omega) h
  have hne : ∀ w, NoteAt b s (topV r l) w → Ch st e a r l w → Calls Tryd.prog 28 #[.pointer (some ⟨b, 0, none⟩)] w fun x w' => x = .returned (S (s ++ [58, 32] ++ wrpL l (erL st e a))) ∧ Below w.heap.size w w' := by
   intro w h1 h2
   have s1 : St (fun _ => False) w (fun w => NoteAt b s (topV r l) w) := St.start (NoteAt.bl b s _) h1
   have s2 : St (fun _ => False) w (fun w => Ch st e a r l w) := St.start (Ch.bl st e a r l) h2
   generalize topV r l = v0 at ih s1
   refine sy_enter rfl rfl ?_
   simp only [initFr]
   repeat (first | refine yK ?_ | (refine gO ?_; refine yP ?_))
   refine sy_draw 10 (by kernel_rfl) ?_
   repeat (first | refine dr_op (ov_p rfl) rfl rfl ?_ | refine dr_op (ov_fieldAddr rfl rfl rfl) rfl rfl ?_)
   refine dr_op (ov_loadx (v := S s) rfl rfl (fun w hw => (s1.at hw).cell (j := 0) rfl)) rfl rfl ?_
   repeat (first | refine dr_op (ov_p rfl) rfl rfl ?_ | (refine dr_op (ov_cat rfl rfl ?_) rfl rfl ?_; focus (first | omega | (simp <;> omega))) | refine dr_op (ov_fieldAddr rfl rfl rfl) rfl rfl ?_)
   refine dr_op (ov_loadx (v := v0) rfl rfl (fun w hw => (s1.at hw).cell (j := 1) rfl)) rfl rfl ?_
   skip
   refine dr_op (ov_call rfl (fun w hw => ih w (s2.at hw))) rfl rfl ?_
   repeat (refine dr_end ?_)
   repeat (first | refine yK ?_ | (refine gO ?_; first | refine yP ?_ | (refine gB ?_; (refine sy_ov (ov_cat rfl rfl ?_) rfl rfl ?_; focus (first | omega | (simp <;> omega))))) | refine sy_rt ?_)
   exact ret1 rfl rfl (by simp)
  have s1 : St (fun _ => False) w (fun w => NoteAt b s (topV r l) w) := St.start (NoteAt.bl b s _) h.1
  have s2 : St (fun _ => False) w (fun w => Ch st e a r l w) := St.start (Ch.bl st e a r l) h.2
  show Calls Tryd.prog 8 #[noteV b] w _
  unfold noteV
  refine sy_enter rfl rfl ?_
  simp only [initFr]
  repeat (first | refine yK ?_ | (refine gO ?_; refine yP ?_))
  refine sy_ov (ov_ta rfl (fun w => ta_noteE _ w)) rfl rfl ?_
  repeat (first | refine yK ?_ | (refine gO ?_; refine yP ?_) | refine yN ?_)
  refine sy_ov (ov_ta rfl (fun w => ta_note _ w)) rfl rfl ?_
  repeat (first | refine yK ?_ | (refine gO ?_; refine yP ?_) | refine yT ?_)
  refine sy_ov (ov_call rfl (fun w hw => hne w (s1.at hw) (s2.at hw))) rfl rfl ?_
  repeat (first | refine yK ?_ | (refine gO ?_; refine yP ?_) | refine sy_rt ?_)
  exact ret1 rfl rfl rfl
theorem say_nil (w : World) : Calls Tryd.prog 8 #[.nilIface] w fun x w' => x = .returned (S []) ∧ Below w.heap.size w w' := by
 refine sy_enter rfl rfl ?_
 simp only [initFr]
 repeat (first | refine yK ?_ | (refine gO ?_; refine yP ?_))
 refine sy_ov (ov_ta rfl (fun w => ta_nil w)) rfl rfl ?_
 repeat (first | refine yK ?_ | (refine gO ?_; refine yP ?_) | refine yN ?_)
 refine sy_ov (ov_ta rfl (fun w => ta_nilN w)) rfl rfl ?_
 repeat (first | refine yK ?_ | (refine gO ?_; refine yP ?_) | refine yN ?_ | refine sy_rt ?_)
 exact ret1 rfl rfl rfl
theorem error_nil (w : World) : Calls Tryd.prog 11 #[.pointer none] w fun x w' => x = .returned (S [111, 107]) ∧ Below w.heap.size w w' := by
 refine sy_enter rfl rfl ?_
 simp only [initFr]
 repeat (first | refine yK ?_ | (refine gO ?_; refine yP ?_))
 refine sy_ov (ov_eqP rfl rfl pe_eq) rfl rfl ?_
 repeat (first | refine yK ?_ | refine yT ?_)
 refine sy_ov (ov_call rfl (fun w _ => code_any 0 w)) rfl rfl ?_
 repeat (first | refine yK ?_ | (refine gO ?_; refine yP ?_) | refine sy_rt ?_)
 exact ret1 rfl rfl rfl
theorem errorE_c (b : Nat) (st e a : Int) (w : World) (ha : -9223372036854775808 ≤ a ∧ a ≤ 9223372036854775807) (h : ErrAt b st e a w) : Calls Tryd.prog 11 #[.pointer (some ⟨b, 0, none⟩)] w fun x w' => x = .returned (S (erL st e a)) ∧ Below w.heap.size w w' :=
 error_any b st e a w ha (ch_lt (l := []) h) (h.cell (j := 0) rfl) (h.cell (j := 1) rfl) (h.cell (j := 2) rfl)
theorem newS_c (s : List UInt8) : CallsE Tryd.prog 13 [S s] [] fun u es' => ∃ b, u = .iface 57 (.pointer (some ⟨b, 0, none⟩)) ∧ es' = [] := by
 refine sy_enterE rfl rfl (fun w => ?_)
 simp only [initFr]
 repeat (first | refine yK ?_ | (refine gO ?_; first | refine yP ?_ | refine yB ?_ | (refine sy_box rfl rfl rfl ?_; intro _)))
 rename_i b
 refine sy_ov (ov_mkE rfl) rfl rfl ?_
 repeat (first | refine yK ?_ | (refine gO ?_; refine yP ?_) | refine sy_rt ?_)
 exact ret1w rfl rfl fun w' hw' => postE hw' [] (sub_self (List.nil_sublist _)) rfl ⟨b, rfl, rfl⟩
theorem rstage_l (n : Int) (w : World) : Calls Tryd.prog 32 #[.int .i64 n] w fun e w' => e = .returned (S (stageB n).data.toList) ∧ Below w.heap.size w w' := rstage_any n w
theorem rcode_l (n : Int) (w : World) : Calls Tryd.prog 33 #[.int .i64 n] w fun e w' => e = .returned (S (codeB n).data.toList) ∧ Below w.heap.size w w' := rcode_any n w
theorem rput_l (n : Int) (w : World) (hn : -9223372036854775808 ≤ n ∧ n ≤ 9223372036854775807) : Calls Tryd.prog 34 #[.int .i64 n] w fun e w' => e = .returned (S (putL n)) ∧ Below w.heap.size w w' := refput_any 9223372036854775900 n w (by omega) (by omega) hn
set_option maxRecDepth 20000 in
theorem rtext_c (st e a : Int) (w : World) (ha : -9223372036854775808 ≤ a ∧ a ≤ 9223372036854775807) : Calls Tryd.prog 14 #[.int .i64 st, faultV e a] w fun x w' => x = .returned (S (erL st e a)) ∧ Below w.heap.size w w' := by
 unfold faultV
 have z1 : (stageB st).data.toList.length ≤ 10 := stageB_size st
 have z2 : (codeB e).data.toList.length ≤ 10 := codeB_size e
 have z3 := putL_len a ha
 have hq1 := rstage_l st
 have hq2 := rcode_l e
 have hE : erL st e a = ((((stageB st).data.toList ++ [58, 32]) ++ (codeB e).data.toList) ++ [32, 97, 116, 32]) ++ putL a := by unfold erL errB; rfl
 rw [hE]
 generalize (stageB st).data.toList = q1 at *
 generalize (codeB e).data.toList = q2 at *
 refine sy_enter rfl rfl ?_
 simp only [initFr]
 repeat (first | refine yK ?_ | (refine gO ?_; first | refine yP ?_ | (refine sy_box rfl rfl rfl ?_; intro _)))
 refine sy_draw 11 (by kernel_rfl) ?_
 repeat (refine dr_op (ov_p rfl) rfl rfl ?_)
 refine dr_op (ov_call rfl (fun w _ => hq1 w)) rfl rfl ?_
 repeat (first | (refine dr_op (ov_cat rfl rfl ?_) rfl rfl ?_; focus (first | omega | (simp <;> omega))) | refine dr_op (ov_ld 0 rfl rfl rfl) rfl rfl ?_ | refine dr_op (ov_fieldAddr rfl rfl rfl) rfl rfl ?_)
 refine dr_op (ov_call rfl (fun w _ => hq2 w)) rfl rfl ?_
 repeat (first | (refine dr_op (ov_cat rfl rfl ?_) rfl rfl ?_; focus (first | omega | (simp <;> omega))) | refine dr_op (ov_ld 0 rfl rfl rfl) rfl rfl ?_ | refine dr_op (ov_fieldAddr rfl rfl rfl) rfl rfl ?_)
 refine dr_op (ov_call rfl (fun w _ => rput_l a w ha)) rfl rfl ?_
 repeat (refine dr_end ?_)
 repeat (first | refine yK ?_ | (refine gO ?_; first | refine yP ?_ | (refine gB ?_; (refine sy_ov (ov_cat rfl rfl ?_) rfl rfl ?_; focus (first | omega | (simp <;> omega))))) | refine sy_rt ?_)
 exact ret1 rfl rfl rfl
end Go.Proofs.YtldjakeigjngoaaDoor
/- Errors that are wrapped again and again: pieces of memory, texts, the document's answer. -/
namespace Go.Proofs.YtldjakeigjngoaaDoor
open Go.RowKit Bf
def wtV (x : List UInt8) : List Value := [S x]
def wrp2 : List (List UInt8) → List UInt8 → List UInt8
 | [], t => t
 | s :: l, t => s ++ [58, 32] ++ wrp2 l t
theorem wrp2_of : ∀ (l : List (Nat × List UInt8)) (t : List UInt8), wrpL l t = wrp2 (l.map (·.2)) t
 | [], _ => rfl
 | (_, s) :: l, t => by simp [wrpL, wrp2, wrp2_of l t]
theorem wrp2_len : ∀ (l : List (List UInt8)) (t : List UInt8), (wrp2 l t).length = (l.map List.length).sum + 2 * l.length + t.length
 | [], _ => by simp [wrp2]
 | s :: l, t => by simp [wrp2, wrp2_len l t]; omega
theorem take_rev {x : List (List UInt8)} {i : Nat} {s : List UInt8} (h : x[i]? = some s) : (x.take (i + 1)).reverse = s :: (x.take i).reverse := by
 obtain ⟨hlt, rfl⟩ := List.getElem?_eq_some_iff.1 h
 rw [List.take_succ_eq_append_getElem hlt]; simp
theorem sum_take (x : List (List UInt8)) (i : Nat) : ((x.take i).reverse.map List.length).sum ≤ (x.map List.length).sum := by
 have h1 : ((x.take i).reverse.map List.length).sum = ((x.take i).map List.length).sum := by rw [List.map_reverse, List.sum_reverse]
 rw [h1]
 conv => rhs; rw [← List.take_append_drop i x, List.map_append, List.sum_append]
 omega
def chE (st e a : Int) (r : Nat) (l : List (Nat × List UInt8)) : En := ⟨fun b => b = r ∨ ∃ p ∈ l, p.1 = b, fun w => Ch st e a r l w, fun w w' h => by
 induction l with
 | nil => intro hh; exact (h r (.inl rfl)).trans hh
 | cons p l ih =>
  intro hh
  refine ⟨(h p.1 (.inr ⟨p, List.mem_cons_self, rfl⟩)).trans hh.1, ih (fun b hb => h b ?_) hh.2⟩
  rcases hb with hb | ⟨q, hq, hqb⟩
  · exact .inl hb
  · exact .inr ⟨q, List.mem_cons_of_mem _ hq, hqb⟩⟩
set_option maxRecDepth 20000 in
set_option maxHeartbeats 4000000 in
theorem rwrapped_c (p : Option Addr) (q : Nat) (x : List (List UInt8)) (t : List UInt8) (w : World) (hn : x.length ≤ 50) (hl : (x.map List.length).sum + t.length ≤ 4611686018427387904) (hs : IsSl w 1 p x.length (x.flatMap wtV)) :
 Calls Tryd.prog 17 #[.slice p x.length q, S t] w fun y w' => y = .returned (S (wrp2 x.reverse t)) ∧ Below w.heap.size w w' := by
 have hst : St (fun _ => False) w (fun w => IsSl w 1 p x.length (x.flatMap wtV)) := St.start (IsSl.bl _ _ _ _) hs
 refine sy_enter rfl rfl ?_
 simp only [initFr]
 repeat (first | refine yK ?_ | (refine gO ?_; refine yP ?_))
 refine sy_loop (α := Nat) (fun i => [(0, .slice p x.length q), (1, S (wrp2 (x.take i).reverse t)), (5, .int .i64 (i : Int))]) (fun _ => []) (fun i => i ≤ x.length) (fun i => x.length - i) 0 (Nat.zero_le _) ⟨⟨_, rfl, rfl⟩, ⟨_, rfl, rfl⟩, ⟨_, rfl, rfl⟩, trivial⟩ (List.nil_sublist _) ?_
 intro i hi
 by_cases hlt : i < x.length
 · obtain ⟨s, hx⟩ : ∃ s, x[i]? = some s := ⟨_, List.getElem?_eq_getElem hlt⟩
   obtain ⟨b, off, hp, hat⟩ := hst.addr (by omega)
   subst hp
   have hd := take_rev hx
   have hz := wrp2_len (x.take (i + 1)).reverse t
   have hz1 := sum_take x (i + 1)
   have hz2 : (x.take (i + 1)).reverse.length ≤ 50 := by simp; omega
   rw [hd] at hz hz1 hz2
   simp only [wrp2, List.length_append, List.length_cons, List.length_nil] at hz
   have hlen : s.length + 2 + (wrp2 (x.take i).reverse t).length ≤ 9223372036854775807 := by
    simp only [List.length_cons] at hz2; omega
   generalize hg : wrp2 (x.take i).reverse t = u at *
   repeat (first | refine yK ?_ | (refine gO ?_; first | refine yP ?_ | (refine gK ?_; refine sy_ov (ov_lens rfl) rfl rfl ?_) | (refine sy_ov (ov_indexAddr rfl rfl ?_ ?_) rfl rfl ?_; omega; omega)) | refine yT ?_)
   refine sy_ov (ov_cell (f := wtV) (j := 0) (k := 1) hat hx rfl rfl rfl (fun _ => rfl)) rfl rfl ?_
   repeat (first | refine yK ?_ | (refine gO ?_; first | refine yP ?_ | (refine gB ?_; first | (refine sy_ov (ov_ar rfl rfl rfl ?_ ?_) rfl rfl ?_; omega; omega) | (refine sy_ov (ov_cat rfl rfl ?_) rfl rfl ?_; focus (first | omega | (simp <;> omega))))))
   refine sy_back (i + 1) (by omega) (by omega) ⟨⟨_, rfl, rfl⟩, ⟨_, rfl, by rw [hd]; simp only [wrp2]; rw [hg]⟩, ⟨_, rfl, by congr 1⟩, trivial⟩ (List.nil_sublist _)
 · have he : i = x.length := by omega
   subst he
   rw [List.take_length]
   repeat (first | refine yK ?_ | (refine gO ?_; first | refine yP ?_ | (refine gK ?_; refine sy_ov (ov_lens rfl) rfl rfl ?_)) | refine yN ?_ | refine sy_rt ?_)
   exact ret1 rfl rfl rfl
end Go.Proofs.YtldjakeigjngoaaDoor