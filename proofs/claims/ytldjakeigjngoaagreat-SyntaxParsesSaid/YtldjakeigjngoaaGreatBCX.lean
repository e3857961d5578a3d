/- BCX: texts of this proof, joined by program: Cur. -/
import Derived.Test.YtldjakeigjngoaaGreatBPT
import Derived.Test.YtldjakeigjngoaaGreatBTK
import Derived.Test.YtldjakeigjngoaaGreatBEN
import Derived.Laws.Pointers
set_option linter.unusedVariables false
set_option linter.unusedSimpArgs false
namespace Go.Proofs.YtldjakeigjngoaaGreat
open Go.RowKit Bf
section
variable {P : Program} {C : Cx} {k : List It} {fr : Fr} {hp : List En} {dst : Option Tmp} {ty : TypeId} {pos : String} {aft : Array Edge} {g : Option (Nat × Bool)}
theorem ov_eqnil {xt yt e : TypeId} [hd : TU P xt (.pointer e)] {x y : Operand} {p : Option Addr} (hx : ev fr x = some (.pointer p)) (hy : ev fr y = some (.pointer none)) : OV P C fr hp ⟨dst, .binOp .eql xt x y yt, ty, pos, aft, g⟩ (.bool p.isNone) :=
 ov_pure (fun r w hr => by
  have hp : P.underlying xt = some (.pointer (P.pointee xt)) := by unfold Program.pointee; rw [hd.h]
  simp [execOp, hr _ _ hx, hr _ _ hy, eqGuard, run_eql_pointer_nil w xt p hp])
theorem ov_nenil {xt yt e : TypeId} [hd : TU P xt (.pointer e)] {x y : Operand} {p : Option Addr} (hx : ev fr x = some (.pointer p)) (hy : ev fr y = some (.pointer none)) : OV P C fr hp ⟨dst, .binOp .neq xt x y yt, ty, pos, aft, g⟩ (.bool (!p.isNone)) :=
 ov_pure (fun r w hr => by
  have hp : P.underlying xt = some (.pointer (P.pointee xt)) := by unfold Program.pointee; rw [hd.h]
  simp [execOp, hr _ _ hx, hr _ _ hy, eqGuard, run_neq_pointer_nil w xt p hp])
theorem ov_velem {α : Type} {f : α → List Value} {l : List α} {t : TypeId} {d : TypeDesc} {ti : TypeInfo} [hd : TU P t d] [hti : TI P t ti] {x : Operand} (i : Nat) {e : TypeId} {n m q g' k : Nat} {y : α} (hx : ev fr x = some (.pointer (some ⟨g', 0 + k * ti.size, none⟩))) (hi : hp[i]? = some (vec e ti.size (.slice (some ⟨g', 0, none⟩) m q) n (l.flatMap f)))
 (ha : isAggD d = true) (hl : l[k]? = some y) (hk : ∀ x, (f x).length = ti.size) : OV P C fr hp ⟨dst, .load t x, ty, pos, aft, g⟩ (.agg ⟨f y⟩) :=
 ov_loadva i hx hi ha (hk y) fun j u hj => by
  rw [Nat.zero_add]; exact flat_get f ti.size hk l k y hl j u hj
theorem sy_rot1 {a b c : En} {r : List En} (h : Sy P C k fr (b :: c :: a :: r)) : Sy P C k fr (a :: b :: c :: r) :=
 sy_perm (((List.Perm.swap a c r).cons b).trans (List.Perm.swap a b (c :: r))) h
end
def curC (p : Option Addr) (n q : Nat) (c : CurT) : List Value := [.slice p n q, .int .i64 c.i, .int .i64 c.d, .int .i64 c.e, .int .i64 c.a]
def curE (b : Nat) (p : Option Addr) (q : Nat) (l : List TokT) (c : CurT) : List En := [blk b 91 (curC p l.length q c), vec 59 5 (.slice p l.length q) l.length (l.flatMap tokV)]
abbrev ptr (b : Nat) : Value := .pointer (some ⟨b, 0, none⟩)
abbrev CurCalls (f : FuncId) (args : List Value) (b : Nat) (p : Option Addr) (q : Nat) (l : List TokT) (c : CurT) (v : Value) (c' : CurT) : Prop :=
 CallsE Tryz.prog f (ptr b :: args) (curE b p q l c) fun u es' => u = v ∧ es' = curE b p q l c'
set_option maxRecDepth 20000 in
theorem cur_peek (b : Nat) (p : Option Addr) (q : Nat) (l : List TokT) (c : CurT) (hl : TokOk l) (hc : CurOk l c) : CurCalls 21 [] b p q l c (.agg ⟨tokV (peekT l c)⟩) c := by
 have i0 := hc.i0
 have i1 := hc.i1
 by_cases he : c.e = 0
 · obtain ⟨t, ht, hg⟩ := hc.get
   rw [peekT_ok l c he, hg]
   refine sy_enterE rfl rfl (fun w => ?_)
   simp only [initFr]
   refine sy_vecAddr 1 rfl hl.n ?_
   rintro g rfl
   repeat (first | refine yK ?_ | refine yP ?_ | (refine yA ?_; intro _))
   refine sy_ov (ov_eqnil rfl rfl) rfl rfl ?_
   repeat (first | refine yK ?_ | refine yP ?_ | refine yL 1 ?_ | refine yF ?_ | refine yN ?_)
   refine sy_draw 8 (by kernel_rfl) ?_
   repeat (first | refine dr_op (ov_p rfl) rfl rfl ?_ | refine dr_op (ov_ld 1 rfl rfl rfl) rfl rfl ?_ | refine dr_op (ov_fieldAddr rfl rfl rfl) rfl rfl ?_ | refine dr_end ?_)
   repeat (refine yD ?_ ?_ ?_; omega; omega)
   refine sy_ov (ov_velem 2 (f := tokV) (k := c.i.toNat) rfl rfl rfl ht (fun _ => rfl)) rfl rfl ?_
   repeat (first | refine yK ?_ | refine yS 0 ?_ | refine sy_rt ?_)
   exact ret1cw 0 rfl rfl rfl rfl rfl fun w' hw' => postE hw' _ (sub_self (by (try unfold curE); repeat first | exact sr | apply sk | apply sd)) rfl ⟨rfl, rfl⟩
 · rw [peekT_bad l c he]
   refine sy_enterE rfl rfl (fun w => ?_)
   simp only [initFr]
   repeat (first | refine yK ?_ | refine yP ?_ | (refine yA ?_; intro _))
   refine sy_ov (ov_eqnil rfl rfl) rfl rfl ?_
   repeat (first | refine yK ?_ | refine yP ?_ | refine yL 1 ?_ | refine yF ?_ | refine yT ?_ | refine yN ?_)
   refine sy_draw 10 (by kernel_rfl) ?_
   repeat (first | refine dr_op (ov_p rfl) rfl rfl ?_ | refine dr_op (ov_ld 1 rfl rfl rfl) rfl rfl ?_ | refine dr_op (ov_fieldAddr rfl rfl rfl) rfl rfl ?_ | refine dr_end ?_)
   repeat (first | refine yK ?_ | refine yS 0 ?_ | refine yB ?_ | refine sy_rt ?_)
   exact ret1cw 0 rfl rfl rfl rfl rfl fun w' hw' => postE hw' _ (sub_self (by (try unfold curE); repeat first | exact sr | apply sk | apply sd)) rfl ⟨rfl, rfl⟩
set_option maxRecDepth 20000 in
theorem cur_step (b : Nat) (p : Option Addr) (q : Nat) (l : List TokT) (c : CurT) (hl : TokOk l) (hc : CurOk l c) : CurCalls 84 [] b p q l c (.tuple #[]) (nextT l c) := by
 have i0 := hc.i0
 have i1 := hc.i1
 have hb := hl.big
 by_cases h0 : (peekT l c).1 = 0
 · have hn : nextT l c = c := if_pos h0
   rw [hn]
   refine sy_enterE rfl rfl (fun w => ?_)
   simp only [initFr]
   repeat (first | refine yK ?_ | refine yP ?_)
   refine sy_callE (curE b p q l c) rfl rfl rfl (cur_peek b p q l c hl hc) ?_
   rintro _ _ ⟨rfl, rfl⟩
   simp only [curE, cX]
   repeat (first | refine yK ?_ | refine yP ?_ | refine sy_ov (ov_field rfl rfl rfl) rfl rfl ?_ | refine yN ?_)
   exact end0w rfl fun w' hw' => postE hw' _ (sub_self (by (try unfold curE); repeat first | exact sr | apply sk | apply sd)) rfl ⟨rfl, rfl⟩
 · have hn : nextT l c = ⟨c.i + 1, c.d, c.e, c.a⟩ := if_neg h0
   rw [hn]
   refine sy_enterE rfl rfl (fun w => ?_)
   simp only [initFr]
   repeat (first | refine yK ?_ | refine yP ?_)
   refine sy_callE (curE b p q l c) rfl rfl rfl (cur_peek b p q l c hl hc) ?_
   rintro _ _ ⟨rfl, rfl⟩
   simp only [curE, cX]
   repeat (first | refine yK ?_ | refine yP ?_ | (refine yR ?_ ?_ ?_; omega; omega) | refine yL 0 ?_ | refine yS 0 ?_ | refine yF ?_ | refine sy_ov (ov_field rfl rfl rfl) rfl rfl ?_ | refine yT ?_)
   exact end0w rfl fun w' hw' => postE hw' _ (sub_self (by (try unfold curE); repeat first | exact sr | apply sk | apply sd)) rfl ⟨rfl, rfl⟩
set_option maxRecDepth 20000 in
theorem cur_is (b : Nat) (p : Option Addr) (q : Nat) (l : List TokT) (c : CurT) (hl : TokOk l) (hc : CurOk l c) (k : Int) (t : List UInt8) : CurCalls 80 [.int .i64 k, S t] b p q l c (.bool (isT l c k t)) (goT l c (isT l c k t)) := by
 by_cases h1 : (peekT l c).1 = k
 · by_cases h2 : (peekT l c).2.2.2.1 = t
   · have hi : isT l c k t = true := by unfold isT; simp [h1, h2]
     rw [hi]
     refine sy_enterE rfl rfl (fun w => ?_)
     simp only [initFr]
     repeat (first | refine yK ?_ | refine yP ?_)
     refine sy_callE (curE b p q l c) rfl rfl rfl (cur_peek b p q l c hl hc) ?_
     rintro _ _ ⟨rfl, rfl⟩
     simp only [curE, cX]
     repeat (first | refine yK ?_ | refine yP ?_ | refine yG ?_ | refine yL 0 ?_ | refine yS 0 ?_ | refine yE ?_ | refine yF ?_ | (refine yA ?_; intro _) | refine yN ?_)
     refine sy_rot1 ?_
     refine sy_callE (curE b p q l c) rfl rfl rfl (cur_step b p q l c hl hc) ?_
     rintro _ _ ⟨rfl, rfl⟩
     simp only [curE, cX]
     repeat (first | refine yK ?_ | refine yP ?_ | refine sy_rt ?_)
     exact ret1w rfl rfl fun w' hw' => postE hw' _ (sub_self (by (try unfold curE); repeat first | exact sr | apply sk | apply sd)) rfl ⟨rfl, rfl⟩
   · have hi : isT l c k t = false := by unfold isT; simp [h1, h2]
     rw [hi]
     refine sy_enterE rfl rfl (fun w => ?_)
     simp only [initFr]
     repeat (first | refine yK ?_ | refine yP ?_)
     refine sy_callE (curE b p q l c) rfl rfl rfl (cur_peek b p q l c hl hc) ?_
     rintro _ _ ⟨rfl, rfl⟩
     simp only [curE, cX]
     repeat (first | refine yK ?_ | refine yP ?_ | refine yG ?_ | refine yL 0 ?_ | refine yS 0 ?_ | refine yE ?_ | refine yF ?_ | (refine yA ?_; intro _) | refine yT ?_ | refine sy_rt ?_)
     exact ret1w rfl rfl fun w' hw' => postE hw' _ (sub_self (by (try unfold curE); repeat first | exact sr | apply sk | apply sd)) rfl ⟨rfl, rfl⟩
 · have hi : isT l c k t = false := by unfold isT; simp [h1]
   rw [hi]
   refine sy_enterE rfl rfl (fun w => ?_)
   simp only [initFr]
   repeat (first | refine yK ?_ | refine yP ?_)
   refine sy_callE (curE b p q l c) rfl rfl rfl (cur_peek b p q l c hl hc) ?_
   rintro _ _ ⟨rfl, rfl⟩
   simp only [curE, cX]
   repeat (first | refine yK ?_ | refine yP ?_ | refine yH ?_ | refine yL 0 ?_ | refine yS 0 ?_ | refine sy_ov (ov_pick rfl rfl rfl) rfl rfl ?_ | refine yF ?_ | (refine yA ?_; intro _) | refine yT ?_ | refine sy_rt ?_)
   exact ret1w rfl rfl fun w' hw' => postE hw' _ (sub_self (by (try unfold curE); repeat first | exact sr | apply sk | apply sd)) rfl ⟨rfl, rfl⟩
theorem cur_mark (b : Nat) (p : Option Addr) (q : Nat) (l : List TokT) (c : CurT) (hl : TokOk l) (hc : CurOk l c) (t : List UInt8) : CurCalls 37 [S t] b p q l c (.bool (isT l c 4 t)) (goT l c (isT l c 4 t)) := by
 refine sy_enterE rfl rfl (fun w => ?_)
 simp only [initFr]
 repeat (first | refine yK ?_ | refine yP ?_)
 refine sy_callE (curE b p q l c) rfl rfl rfl (cur_is b p q l c hl hc 4 t) ?_
 rintro _ _ ⟨rfl, rfl⟩
 simp only [curE, cX]
 repeat (first | refine yK ?_ | refine yP ?_ | refine sy_rt ?_)
 exact ret1w rfl rfl fun w' hw' => postE hw' _ (sub_self (by (try unfold curE); repeat first | exact sr | apply sk | apply sd)) rfl ⟨rfl, rfl⟩
theorem cur_word (b : Nat) (p : Option Addr) (q : Nat) (l : List TokT) (c : CurT) (hl : TokOk l) (hc : CurOk l c) (t : List UInt8) : CurCalls 73 [S t] b p q l c (.bool (isT l c 1 t)) (goT l c (isT l c 1 t)) := by
 refine sy_enterE rfl rfl (fun w => ?_)
 simp only [initFr]
 repeat (first | refine yK ?_ | refine yP ?_)
 refine sy_callE (curE b p q l c) rfl rfl rfl (cur_is b p q l c hl hc 1 t) ?_
 rintro _ _ ⟨rfl, rfl⟩
 simp only [curE, cX]
 repeat (first | refine yK ?_ | refine yP ?_ | refine sy_rt ?_)
 exact ret1w rfl rfl fun w' hw' => postE hw' _ (sub_self (by (try unfold curE); repeat first | exact sr | apply sk | apply sd)) rfl ⟨rfl, rfl⟩
def takV (l : List TokT) (c : CurT) (k : Int) : Value := .tuple #[.agg ⟨tokV (if takT l c k = true then peekT l c else ztk)⟩, .bool (takT l c k)]
set_option maxRecDepth 20000 in
theorem ret2ct (i : Nat) {P : Program} {fr : Fr} {hp : List En} {D : Nat → Prop} {fn : Func} {t c : Tmp} {ct : TypeId} {d : TypeDesc} {ti : TypeInfo} [hd : TU P ct d] [hti : TI P ct ti] {w0 : World} {n b : Nat} {e : TypeId} {cs : List Value} {v : Value} {R : Ending → World → Prop} (hr : fn.results = #[.cell c ct, .tmp t]) (hv : get t fr = some v) (hc : get c fr = some (.pointer (some ⟨b, 0, none⟩))) (hi : hp[i]? = some (blk b e cs)) (ha : isAggD d = true) (hn : Nat.ble (0 + ti.size) cs.length = true)
 (h : ∀ w, HpOk D w0 hp w → R (.returned (.tuple #[.agg ⟨cs.take ti.size⟩, v])) w) : Leave P ⟨D, w0, n, bodyPost P fn R⟩ .ret [] fr hp := .mk fun a w ha' hw => by
 have hl := loadVar_ok (P := P) (t := ct) hw hi ha hn
 have hs := ha'.slot c _ hc
 have hs1 := ha'.slot t _ hv
 rw [Array.getD_eq_getD_getElem?] at hs hs1
 have hq : (results fn a.tmps).run P w = .ok (.tuple #[.agg ⟨cs.take ti.size⟩, v]) w := by
  simp [results, hr, hs, hs1, asAddr, hl]
 show bodyPost P fn R .ret a w
 exact bodyPost_ret hq ha'.defers (h w hw)
set_option maxRecDepth 20000 in
theorem cur_take (b : Nat) (p : Option Addr) (q : Nat) (l : List TokT) (c : CurT) (hl : TokOk l) (hc : CurOk l c) (k : Int) : CurCalls 54 [.int .i64 k] b p q l c (takV l c k) (goT l c (takT l c k)) := by
 by_cases h0 : (peekT l c).1 = 0
 · have hi : takT l c k = false := by unfold takT; simp [h0]
   unfold takV
   rw [hi]
   refine sy_enterE rfl rfl (fun w => ?_)
   simp only [initFr]
   repeat (first | refine yK ?_ | refine yP ?_ | (refine yA ?_; intro _))
   refine sy_rot1 ?_
   refine sy_callE (curE b p q l c) rfl rfl rfl (cur_peek b p q l c hl hc) ?_
   rintro _ _ ⟨rfl, rfl⟩
   simp only [curE, cX]
   repeat (first | refine yK ?_ | refine yP ?_ | refine yH ?_ | refine yL 0 ?_ | refine yS 0 ?_ | refine yS 3 ?_ | refine sy_ov (ov_pick rfl rfl rfl) rfl rfl ?_ | refine yF ?_ | refine yB ?_ | (refine yA ?_; intro _) | refine yT ?_ | refine sy_rt ?_)
   exact ret2ct 3 rfl rfl rfl rfl rfl rfl fun w' hw' => postE hw' _ (sub_self (by (try unfold curE); repeat first | exact sr | apply sk | apply sd)) rfl ⟨rfl, rfl⟩
 · by_cases h1 : (peekT l c).1 = k
   · have hi : takT l c k = true := by unfold takT; simp [h0, h1] <;> omega
     unfold takV
     rw [hi]
     refine sy_enterE rfl rfl (fun w => ?_)
     simp only [initFr]
     repeat (first | refine yK ?_ | refine yP ?_ | (refine yA ?_; intro _))
     refine sy_rot1 ?_
     refine sy_callE (curE b p q l c) rfl rfl rfl (cur_peek b p q l c hl hc) ?_
     rintro _ _ ⟨rfl, rfl⟩
     simp only [curE, cX]
     repeat (first | refine yK ?_ | refine yP ?_ | refine yG ?_ | refine yL 0 ?_ | refine yS 0 ?_ | refine yE ?_ | refine yF ?_ | (refine yA ?_; intro _) | refine yN ?_)
     refine sy_rot1 ?_
     refine sy_callE (curE b p q l c) rfl rfl rfl (cur_step b p q l c hl hc) ?_
     rintro _ _ ⟨rfl, rfl⟩
     simp only [curE, cX]
     repeat (first | refine yK ?_ | refine yP ?_ | refine yL 2 ?_ | refine yS 3 ?_ | refine sy_rt ?_)
     exact ret2ct 3 rfl rfl rfl rfl rfl rfl fun w' hw' => postE hw' _ (sub_self (by (try unfold curE); repeat first | exact sr | apply sk | apply sd)) rfl ⟨rfl, rfl⟩
   · have hi : takT l c k = false := by unfold takT; simp [h1]
     unfold takV
     rw [hi]
     refine sy_enterE rfl rfl (fun w => ?_)
     simp only [initFr]
     repeat (first | refine yK ?_ | refine yP ?_ | (refine yA ?_; intro _))
     refine sy_rot1 ?_
     refine sy_callE (curE b p q l c) rfl rfl rfl (cur_peek b p q l c hl hc) ?_
     rintro _ _ ⟨rfl, rfl⟩
     simp only [curE, cX]
     repeat (first | refine yK ?_ | refine yP ?_ | refine yG ?_ | refine yL 0 ?_ | refine yS 0 ?_ | refine yS 3 ?_ | refine yE ?_ | refine yF ?_ | refine yB ?_ | (refine yA ?_; intro _) | refine yT ?_ | refine sy_rt ?_)
     exact ret2ct 3 rfl rfl rfl rfl rfl rfl fun w' hw' => postE hw' _ (sub_self (by (try unfold curE); repeat first | exact sr | apply sk | apply sd)) rfl ⟨rfl, rfl⟩
set_option maxRecDepth 20000 in
theorem cur_failAt (b : Nat) (p : Option Addr) (q : Nat) (l : List TokT) (c : CurT) (e a : Int) : CurCalls 57 [.int .i64 e, .int .i64 a] b p q l c (.tuple #[]) (failAtT c e a) := by
 by_cases h0 : c.e = 0
 · by_cases h1 : e = 0
   · have hf : failAtT c e a = c := if_neg (fun h => h.2 h1)
     rw [hf]
     refine sy_enterE rfl rfl (fun w => ?_)
     simp only [initFr]
     repeat (first | refine yK ?_ | refine yP ?_)
     refine sy_ov (ov_nenil rfl rfl) rfl rfl ?_
     repeat (first | refine yK ?_ | refine yP ?_ | refine yG ?_ | refine yL 0 ?_ | refine yM ?_ | refine yF ?_ | refine yN ?_)
     exact end0w rfl fun w' hw' => postE hw' _ (sub_self (by (try unfold curE); repeat first | exact sr | apply sk | apply sd)) rfl ⟨rfl, rfl⟩
   · have hf : failAtT c e a = ⟨c.i, c.d, e, a⟩ := if_pos ⟨h0, h1⟩
     rw [hf]
     refine sy_enterE rfl rfl (fun w => ?_)
     simp only [initFr]
     repeat (first | refine yK ?_ | refine yP ?_)
     refine sy_ov (ov_nenil rfl rfl) rfl rfl ?_
     repeat (first | refine yK ?_ | refine yP ?_ | refine yG ?_ | refine yL 0 ?_ | refine yS 0 ?_ | refine yM ?_ | refine yF ?_ | refine yB ?_ | refine yT ?_)
     exact end0w rfl fun w' hw' => postE hw' _ (sub_self (by (try unfold curE); repeat first | exact sr | apply sk | apply sd)) rfl ⟨rfl, rfl⟩
 · have hf : failAtT c e a = c := if_neg (fun h => h0 h.1)
   rw [hf]
   refine sy_enterE rfl rfl (fun w => ?_)
   simp only [initFr]
   repeat (first | refine yK ?_ | refine yP ?_)
   refine sy_ov (ov_nenil rfl rfl) rfl rfl ?_
   repeat (first | refine yK ?_ | refine yP ?_ | refine yG ?_ | refine yH ?_ | refine yL 0 ?_ | refine yM ?_ | refine sy_ov (ov_pick rfl rfl rfl) rfl rfl ?_ | refine yF ?_ | refine yN ?_)
   exact end0w rfl fun w' hw' => postE hw' _ (sub_self (by (try unfold curE); repeat first | exact sr | apply sk | apply sd)) rfl ⟨rfl, rfl⟩
theorem cur_fail (b : Nat) (p : Option Addr) (q : Nat) (l : List TokT) (c : CurT) (hl : TokOk l) (hc : CurOk l c) (e : Int) : CurCalls 43 [.int .i64 e] b p q l c (.tuple #[]) (failT l c e) := by
 refine sy_enterE rfl rfl (fun w => ?_)
 simp only [initFr]
 repeat (first | refine yK ?_ | refine yP ?_)
 refine sy_callE (curE b p q l c) rfl rfl rfl (cur_peek b p q l c hl hc) ?_
 rintro _ _ ⟨rfl, rfl⟩
 simp only [curE, cX]
 repeat refine sy_ov (ov_field rfl rfl rfl) rfl rfl ?_
 refine sy_callE (curE b p q l c) rfl rfl rfl (cur_failAt b p q l c e (peekT l c).2.1) ?_
 rintro _ _ ⟨rfl, rfl⟩
 simp only [curE, cX]
 repeat (refine yK ?_)
 exact end0w rfl fun w' hw' => postE hw' _ (sub_self (by (try unfold curE); repeat first | exact sr | apply sk | apply sd)) rfl ⟨rfl, rfl⟩
set_option maxRecDepth 20000 in
theorem cur_need (b : Nat) (p : Option Addr) (q : Nat) (l : List TokT) (c : CurT) (hl : TokOk l) (hc : CurOk l c) (t : List UInt8) : CurCalls 69 [S t] b p q l c (.bool (isT l c 4 t)) (needT l c t) := by
 have hm := cur_mark b p q l c hl hc t
 cases hi : isT l c 4 t with
 | true =>
  rw [hi] at hm
  have hn : needT l c t = nextT l c := if_pos hi
  rw [hn]
  refine sy_enterE rfl rfl (fun w => ?_)
  simp only [initFr]
  repeat (first | refine yK ?_ | refine yP ?_)
  refine sy_callE (curE b p q l c) rfl rfl rfl hm ?_
  rintro _ _ ⟨rfl, rfl⟩
  simp only [curE, cX]
  repeat (first | refine yK ?_ | refine yP ?_ | refine yT ?_ | refine sy_rt ?_)
  exact ret1w rfl rfl fun w' hw' => postE hw' _ (sub_self (by (try unfold curE); repeat first | exact sr | apply sk | apply sd)) rfl ⟨rfl, rfl⟩
 | false =>
  rw [hi] at hm
  have hg : goT l c false = c := rfl
  rw [hg] at hm
  by_cases h0 : (peekT l c).1 = 0
  · have hn : needT l c t = failT l c 5 := by unfold needT; rw [if_neg (by rw [hi]; decide), if_pos h0]
    rw [hn]
    refine sy_enterE rfl rfl (fun w => ?_)
    simp only [initFr]
    repeat (first | refine yK ?_ | refine yP ?_)
    refine sy_callE (curE b p q l c) rfl rfl rfl hm ?_
    rintro _ _ ⟨rfl, rfl⟩
    simp only [curE, cX]
    repeat (first | refine yK ?_ | refine yP ?_ | refine yN ?_)
    refine sy_callE (curE b p q l c) rfl rfl rfl (cur_peek b p q l c hl hc) ?_
    rintro _ _ ⟨rfl, rfl⟩
    simp only [curE, cX]
    repeat (first | refine yK ?_ | refine yP ?_ | refine sy_ov (ov_field rfl rfl rfl) rfl rfl ?_ | refine yT ?_)
    refine sy_callE (curE b p q l c) rfl rfl rfl (cur_fail b p q l c hl hc 5) ?_
    rintro _ _ ⟨rfl, rfl⟩
    simp only [curE, cX]
    repeat (first | refine yK ?_ | refine yP ?_ | refine sy_rt ?_)
    exact ret1w rfl rfl fun w' hw' => postE hw' _ (sub_self (by (try unfold curE); repeat first | exact sr | apply sk | apply sd)) rfl ⟨rfl, rfl⟩
  · have hn : needT l c t = failT l c 4 := by unfold needT; rw [if_neg (by rw [hi]; decide), if_neg h0]
    rw [hn]
    refine sy_enterE rfl rfl (fun w => ?_)
    simp only [initFr]
    repeat (first | refine yK ?_ | refine yP ?_)
    refine sy_callE (curE b p q l c) rfl rfl rfl hm ?_
    rintro _ _ ⟨rfl, rfl⟩
    simp only [curE, cX]
    repeat (first | refine yK ?_ | refine yP ?_ | refine yN ?_)
    refine sy_callE (curE b p q l c) rfl rfl rfl (cur_peek b p q l c hl hc) ?_
    rintro _ _ ⟨rfl, rfl⟩
    simp only [curE, cX]
    repeat (first | refine yK ?_ | refine yP ?_ | refine sy_ov (ov_field rfl rfl rfl) rfl rfl ?_ | refine yN ?_)
    refine sy_callE (curE b p q l c) rfl rfl rfl (cur_fail b p q l c hl hc 4) ?_
    rintro _ _ ⟨rfl, rfl⟩
    simp only [curE, cX]
    repeat (first | refine yK ?_ | refine yP ?_ | refine sy_rt ?_)
    exact ret1w rfl rfl fun w' hw' => postE hw' _ (sub_self (by (try unfold curE); repeat first | exact sr | apply sk | apply sd)) rfl ⟨rfl, rfl⟩
set_option maxRecDepth 20000 in
theorem cur_enter (b : Nat) (p : Option Addr) (q : Nat) (l : List TokT) (c : CurT) (hl : TokOk l) (hc : CurOk l c) : CurCalls 53 [] b p q l c (.bool (!decide (c.d = 24))) (enterT l c) := by
 have d0 := hc.d0
 have d1 := hc.d1
 by_cases h : c.d = 24
 · have hn : enterT l c = failT l c 6 := if_pos h
   have hv : (!decide (c.d = 24)) = false := by simp [h]
   rw [hn, hv]
   refine sy_enterE rfl rfl (fun w => ?_)
   simp only [initFr]
   repeat (first | refine yK ?_ | refine yP ?_)
   refine sy_ov (ov_eqnil rfl rfl) rfl rfl ?_
   repeat (first | refine yK ?_ | refine yP ?_ | refine yL 0 ?_ | refine yF ?_ | refine yT ?_ | refine yN ?_)
   refine sy_callE (curE b p q l c) rfl rfl rfl (cur_fail b p q l c hl hc 6) ?_
   rintro _ _ ⟨rfl, rfl⟩
   simp only [curE, cX]
   repeat (first | refine yK ?_ | refine yP ?_ | refine sy_rt ?_)
   exact ret1w rfl rfl fun w' hw' => postE hw' _ (sub_self (by (try unfold curE); repeat first | exact sr | apply sk | apply sd)) rfl ⟨rfl, rfl⟩
 · have hn : enterT l c = ⟨c.i, c.d + 1, c.e, c.a⟩ := if_neg h
   have hv : (!decide (c.d = 24)) = true := by simp [h]
   rw [hn, hv]
   refine sy_enterE rfl rfl (fun w => ?_)
   simp only [initFr]
   repeat (first | refine yK ?_ | refine yP ?_)
   refine sy_ov (ov_eqnil rfl rfl) rfl rfl ?_
   repeat (first | refine yK ?_ | refine yP ?_ | (refine yR ?_ ?_ ?_; omega; omega) | refine yL 0 ?_ | refine yS 0 ?_ | refine yF ?_ | refine yN ?_ | refine sy_rt ?_)
   exact ret1w rfl rfl fun w' hw' => postE hw' _ (sub_self (by (try unfold curE); repeat first | exact sr | apply sk | apply sd)) rfl ⟨rfl, rfl⟩
set_option maxRecDepth 20000 in
theorem cur_leave (b : Nat) (p : Option Addr) (q : Nat) (l : List TokT) (c : CurT) (hc : CurOk l c) : CurCalls 42 [] b p q l c (.tuple #[]) (leaveT c) := by
 have d0 := hc.d0
 have d1 := hc.d1
 have e0 : ∀ a b : Int, (if b > a then b else a) = max a b := fun a b => by omega
 refine sy_enterE rfl rfl (fun w => ?_)
 simp only [initFr]
 repeat (first | refine yK ?_ | refine yP ?_)
 refine sy_ov (ov_nenil rfl rfl) rfl rfl ?_
 repeat (first | refine yK ?_ | refine yP ?_ | (refine yR ?_ ?_ ?_; omega; omega) | refine sy_ov (ov_max rfl rfl) rfl rfl ?_ | refine yL 0 ?_ | refine yS 0 ?_ | refine yF ?_ | refine yT ?_)
 simp only [e0]
 skip
 exact end0w rfl fun w' hw' => postE hw' _ (sub_self (by (try unfold curE); repeat first | exact sr | apply sk | apply sd)) rfl ⟨rfl, rfl⟩
set_option maxRecDepth 20000 in
theorem cur_fault (b : Nat) (p : Option Addr) (q : Nat) (l : List TokT) (c : CurT) : CurCalls 20 [] b p q l c (faultV c.e c.a) c := by
 refine sy_enterE rfl rfl (fun w => ?_)
 simp only [initFr]
 repeat (first | refine yK ?_ | refine yP ?_ | (refine yA ?_; intro _))
 refine sy_ov (ov_eqnil rfl rfl) rfl rfl ?_
 repeat (first | refine yK ?_ | refine yP ?_ | refine yL 1 ?_ | refine yS 0 ?_ | refine yF ?_ | refine yN ?_ | refine sy_rt ?_)
 exact ret1cw 0 rfl rfl rfl rfl rfl fun w' hw' => postE hw' _ (sub_self (by (try unfold curE); repeat first | exact sr | apply sk | apply sd)) rfl ⟨rfl, rfl⟩
def NewR (s : List UInt8) (u : Value) (es : List En) : Prop :=
 ((scanR s).2.1 = 0 ∧ ∃ b p q, u = .tuple #[ptr b, faultV 0 0] ∧ es = curE b p q (scanR s).1 ⟨0, 0, 0, 0⟩) ∨ ((scanR s).2.1 ≠ 0 ∧ u = .tuple #[.pointer none, faultV (scanR s).2.1 (scanR s).2.2] ∧ es = [])
set_option maxRecDepth 20000 in
theorem cur_new (s : List UInt8) (hs : s.length ≤ 1000000000000000) : CallsE Tryz.prog 18 [S s] [] (NewR s) := by
 obtain ⟨L, e, a, hL⟩ : ∃ L e a, scanR s = (L, e, a) := ⟨_, _, _, rfl⟩
 by_cases he : e = 0
 · subst he
   have ha : a = 0 := by
    unfold scanR at hL
    split at hL
    · cases hL
    · have := scanT_clean s _ 0 (Nat.le_refl _)
      rw [hL] at this
      unfold comb at this
      simp only [if_true] at this
      exact (Prod.mk.inj (Prod.mk.inj this).2).2.symm
   subst ha
   refine sy_enterE rfl rfl (fun w => ?_)
   simp only [initFr]
   repeat (first | refine yK ?_ | refine yP ?_ | (refine yA ?_; intro _))
   refine sy_calln rfl rfl (fun w _ => scan_c s hs w) ?_
   rintro _ _ ⟨p, q, rfl, rfl⟩
   rw [hL]
   dsimp only
   repeat (first | refine yK ?_ | refine yP ?_ | refine yL 0 ?_ | refine yS 0 ?_ | refine yF ?_ | (refine yA ?_; intro _) | refine yN ?_)
   refine sy_drawE _ 5 [(0, false), (1, false), (3, false), (2, true), (4, false)] (by kernel_rfl) rfl (sk sr) ?_
   repeat (first | refine dre_rd (fun _ _ => ov_p rfl) rfl ?_ | refine dre_rd (fun _ _ => ov_ld 0 rfl rfl rfl) rfl ?_ | refine dre_rd (fun _ _ => ov_build rfl rfl rfl) rfl ?_)
   refine dre_ef rfl ?_
   refine sy_box rfl rfl rfl ?_
   intro nb
   refine dre_ek (by repeat first | exact sr | apply sk | apply sd) ?_
   repeat (first | refine dre_rd (fun _ _ => ov_p rfl) rfl ?_ | refine dre_end ?_)
   repeat (first | refine yK ?_ | refine yS 3 ?_ | refine sy_rt ?_)
   exact ret2cw 3 rfl rfl rfl rfl rfl rfl fun w' hw' => postE hw' (curE nb p q L ⟨0, 0, 0, 0⟩) (sub_self (by unfold curE; repeat first | exact sr | apply sk | apply sd)) rfl (.inl ⟨by rw [hL], nb, p, q, rfl, by rw [hL]⟩)
 · refine sy_enterE rfl rfl (fun w => ?_)
   simp only [initFr]
   repeat (first | refine yK ?_ | refine yP ?_ | (refine yA ?_; intro _))
   refine sy_calln rfl rfl (fun w _ => scan_c s hs w) ?_
   rintro _ _ ⟨p, q, rfl, rfl⟩
   rw [hL]
   dsimp only
   repeat (first | refine yK ?_ | refine yP ?_ | refine yL 0 ?_ | refine yS 0 ?_ | refine yF ?_ | (refine yA ?_; intro _) | refine yT ?_)
   refine sy_draw 2 (by kernel_rfl) ?_
   repeat (first | refine dr_op (ov_p rfl) rfl rfl ?_ | refine dr_op (ov_ld 0 rfl rfl rfl) rfl rfl ?_ | refine dr_end ?_)
   repeat (first | refine yK ?_ | refine yS 2 ?_ | refine sy_rt ?_)
   exact ret2cw 2 rfl rfl rfl rfl rfl rfl fun w' hw' => postE hw' [] (sub_self nl) rfl (.inr ⟨by rw [hL]; exact he, by rw [hL]; rfl, rfl⟩)
end Go.Proofs.YtldjakeigjngoaaGreat