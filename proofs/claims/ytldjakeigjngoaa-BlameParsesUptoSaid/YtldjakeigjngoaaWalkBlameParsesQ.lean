/- The walk of blindfoldlaw37.BlameParses. -/
import Derived.Test.YtldjakeigjngoaaBlm2Q
import Derived.Test.YtldjakeigjngoaaBEN
set_option linter.unusedVariables false
set_option linter.unusedSimpArgs false
namespace Go.Proofs.Ytldjakeigjngoaa
open Go.RowKit Bf
instance : KS Try.prog 24 [.i .i64, .i .i64] := ⟨by kernel_rfl, by kernel_rfl, by kernel_rfl⟩
section
variable {P : Program} {C : Cx} {fr : Fr} {hp : List En} {dst : Option Tmp} {ty : TypeId} {pos : String} {aft : Array Edge} {g : Option (Nat × Bool)}
theorem ov_mki {t e : TypeId} [hd : TU P t (.pointer e)] {x : Operand} {v : Value} (hx : ev fr x = some v) : OV P C fr hp ⟨dst, .makeInterface t x, ty, pos, aft, g⟩ (.iface t v) :=
 ov_pure fun r w hr => by simp [execOp, hr _ _ hx, Instr.makeInterface, underlying, TU.h (P := P) (t := t)]
theorem blk_cellB {D : Nat → Prop} {w0 w : World} (h : HpOk D w0 hp w) {i : Nat} {b : Nat} {e : TypeId} {cs : List Value} (hi : hp[i]? = some (blk b e cs)) {j : Nat} {u : Value} (hj : cs[j]? = some u) : w.cell? ⟨b, j, none⟩ = some u := by
 have hg : w.heap[b]? = some (.cells cs.toArray e (0, 0)) := (h.get hi).1
 have := (List.getElem?_eq_some_iff.1 hj).1
 simp only [World.cell?, hg]
 simpa using hj
end
theorem eqf2 (e a : Int) : eqL [.int .i64 e, .int .i64 a] [.int .i64 e, .int .i64 a] = true := by simp [eqL, eqC]
theorem errB_l (st e a : Int) : Value.string (errB st e a) = S (headB st e ++ putL a) := by
 unfold S errB headB
 congr 1
theorem say_l (b : Nat) (st e a : Int) (w : World) (ha : -9223372036854775808 ≤ a ∧ a ≤ 9223372036854775807) (h1 : w.cell? ⟨b, 0, none⟩ = some (.int .i64 st)) (h2 : w.cell? ⟨b, 1, none⟩ = some (.int .i64 e)) (h3 : w.cell? ⟨b, 2, none⟩ = some (.int .i64 a)) :
 Calls Try.prog 13 #[.iface 88 (.pointer (some ⟨b, 0, none⟩))] w fun e' w' => e' = .returned (S (headB st e ++ putL a)) ∧ Below w.heap.size w w' := by
 rw [← errB_l]
 exact say_err b st e a w ha (cell_lt h1) h1 h2 h3
set_option maxRecDepth 20000 in
theorem new_c (st e a : Int) (he : e ≠ 0) : CallsE Try.prog 14 [.int .i64 st, .agg ⟨[.int .i64 e, .int .i64 a]⟩] [] fun u es' => ∃ b, u = .iface 88 (.pointer (some ⟨b, 0, none⟩)) ∧ es' = [blk b 92 [.int .i64 st, .int .i64 e, .int .i64 a]] := by
 refine sy_enterE rfl rfl (fun w => ?_)
 simp only [initFr]
 repeat (first | refine yK ?_ | (refine gO ?_; first | refine yP ?_ | (refine gL ?_; refine yL 0 ?_) | refine yF ?_ | refine yB ?_ | (refine sy_box rfl rfl rfl ?_; intro _)) | refine yN ?_)
 rename_i b3 b
 refine sy_ov (ov_mki rfl) rfl rfl ?_
 repeat (first | refine yK ?_ | (refine gO ?_; refine yP ?_) | refine sy_rt ?_)
 exact ret1w rfl rfl fun w' hw' => postE hw' _ (sub_self (sk (List.nil_sublist _))) rfl ⟨b, rfl, rfl⟩
theorem head_len (n e x : Int) (hx : -9223372036854775808 ≤ x ∧ x ≤ 9223372036854775807) : (headB n e ++ putL x).length < 4294967281 := by
 have z1 : (stageB n).data.toList.length ≤ 10 := stageB_size n
 have z2 : (codeB e).data.toList.length ≤ 10 := codeB_size e
 have z3 := putL_len x hx
 simp only [headB, colS, atS, List.length_append, List.length_cons, List.length_nil]; omega
set_option maxRecDepth 20000 in
set_option maxHeartbeats 8000000 in
theorem blameParses_walk (m : Int) (s : List UInt8) (st : Int) (fe fa : Int) (hs : s.length < 4294967281) (hfa : -9223372036854775808 ≤ fa ∧ fa ≤ 9223372036854775807) (w : World) (hm : Mx m w) :
 Calls Try.prog 3 #[S s, .int .i64 st, .agg ⟨[.int .i64 fe, .int .i64 fa]⟩] w fun e w' => e = .returned (.bool true) ∧ Below w.heap.size w w' := by
 have hst : St (fun _ => False) w (fun w => Mx m w) := St.start (Mx.bl m) hm
 obtain ⟨n, e, x, ok, hP, hok⟩ : ∃ n e x ok, blamP s = (n, e, x, ok) ∧ ok = decide (0 < n) := ⟨_, _, _, _, rfl, blam_ok s⟩
 subst hok
 have h1 := fun w h => bparse_c s m w hs h
 have h2 := fun w => rbparse_c s (by omega) w
 rw [hP] at h1 h2
 refine sy_enter rfl rfl ?_
 simp only [initFr]
 repeat (first | refine yK ?_ | (refine gO ?_; first | refine yP ?_ | (refine sy_box rfl rfl rfl ?_; intro _)))
 refine sy_ov (ov_call rfl (fun w hw => h1 w (hst.at hw))) rfl rfl ?_
 repeat (first | refine yK ?_ | (refine gO ?_; first | refine yP ?_ | (refine gS ?_; refine yS 0 ?_) | (refine yA ?_; intro _)))
 refine sy_ov (ov_call rfl (fun w _ => h2 w)) rfl rfl ?_
 repeat (first | refine yK ?_ | (refine gO ?_; first | refine yP ?_ | (refine gG ?_; refine yG ?_) | (refine gL ?_; first | refine yL 0 ?_ | refine yL 1 ?_) | (refine gS ?_; refine yS 0 ?_) | (refine yA ?_; intro _)))
 refine sy_ov (ov_nest (xs := [.int .i64 e, .int .i64 x]) (ys := [.int .i64 e, .int .i64 x]) rfl rfl rfl rfl) rfl rfl ?_
 rw [eqf2]
 repeat (first | refine yK ?_ | (refine gO ?_; first | refine yP ?_ | (refine gG ?_; refine yG ?_) | (refine gB ?_; refine sy_ov (ov_neb rfl rfl) rfl rfl ?_) | refine yE ?_) | refine yN ?_)
 by_cases c1 : st < 1
 · repeat (first | refine yK ?_ | (refine gO ?_; first | refine yP ?_ | (refine gG ?_; refine yH ?_) | refine sy_ov (ov_pick rfl rfl rfl) rfl rfl ?_) | refine yT ?_)
   refine sy_ov (ov_call rfl (fun w _ => lives37_any w)) rfl rfl ?_
   repeat (first | refine yK ?_ | (refine gO ?_; refine yP ?_) | refine sy_rt ?_)
   exact ret1 rfl rfl rfl
 by_cases c2 : 10 < st
 · repeat (first | refine yK ?_ | (refine gO ?_; first | refine yP ?_ | (refine gG ?_; first | refine yG ?_ | refine yH ?_) | refine yE ?_ | refine sy_ov (ov_pick rfl rfl rfl) rfl rfl ?_) | refine yT ?_)
   refine sy_ov (ov_call rfl (fun w _ => lives37_any w)) rfl rfl ?_
   repeat (first | refine yK ?_ | (refine gO ?_; refine yP ?_) | refine sy_rt ?_)
   exact ret1 rfl rfl rfl
 by_cases c3 : fe < 1
 · repeat (first | refine yK ?_ | (refine gO ?_; first | refine yP ?_ | (refine gG ?_; first | refine yG ?_ | refine yH ?_) | (refine gL ?_; refine yL 2 ?_) | refine yE ?_ | refine sy_ov (ov_pick rfl rfl rfl) rfl rfl ?_ | refine yF ?_) | refine yT ?_)
   refine sy_ov (ov_call rfl (fun w _ => lives37_any w)) rfl rfl ?_
   repeat (first | refine yK ?_ | (refine gO ?_; refine yP ?_) | refine sy_rt ?_)
   exact ret1 rfl rfl rfl
 by_cases c4 : 20 < fe
 · repeat (first | refine yK ?_ | (refine gO ?_; first | refine yP ?_ | (refine gG ?_; refine yG ?_) | (refine gL ?_; refine yL 2 ?_) | refine yE ?_ | refine yF ?_) | refine yT ?_)
   refine sy_ov (ov_call rfl (fun w _ => lives37_any w)) rfl rfl ?_
   repeat (first | refine yK ?_ | (refine gO ?_; refine yP ?_) | refine sy_rt ?_)
   exact ret1 rfl rfl rfl
 have hp2 := hit_text st fe fa hfa ⟨by omega, by omega⟩ ⟨by omega, by omega⟩
 have h3 := fun w h => bparse_c (headB st fe ++ putL fa) m w (head_len st fe fa hfa) h
 rw [hp2] at h3
 repeat (first | refine yK ?_ | (refine gO ?_; first | refine yP ?_ | (refine gG ?_; refine yG ?_) | (refine gL ?_; refine yL 2 ?_) | refine yE ?_ | refine yF ?_) | refine yN ?_)
 refine sy_callE [] rfl rfl rfl (new_c st fe fa (by omega)) ?_
 rintro _ _ ⟨b, rfl, rfl⟩
 simp only [List.cons_append, List.nil_append]
 skip
 refine sy_ov (ov_call rfl (fun w hw => say_l b st fe fa w hfa (blk_cellB hw (i := 0) rfl rfl) (blk_cellB hw (i := 0) rfl rfl) (blk_cellB hw (i := 0) rfl rfl))) rfl rfl ?_
 skip
 refine sy_ov (ov_call rfl (fun w hw => h3 w (hst.at hw))) rfl rfl ?_
 repeat (first | refine yK ?_ | (refine gO ?_; first | refine yP ?_ | (refine gG ?_; refine yG ?_) | (refine gL ?_; first | refine yL 0 ?_ | refine yL 4 ?_) | (refine gS ?_; refine yS 0 ?_) | (refine yA ?_; intro _)))
 refine sy_ov (ov_eqst (xs := [.int .i64 fe, .int .i64 fa]) (ys := [.int .i64 fe, .int .i64 fa]) rfl rfl rfl rfl) rfl rfl ?_
 rw [eqf2]
 repeat ((refine gO ?_; first | refine yP ?_ | (refine gG ?_; refine yG ?_) | refine yM ?_))
 refine sy_ov (ov_call rfl (fun w _ => lives37_any w)) rfl rfl ?_
 repeat (first | refine yK ?_ | (refine gO ?_; first | refine yP ?_ | refine yM ?_) | refine sy_rt ?_)
 exact ret1 rfl rfl rfl
end Go.Proofs.Ytldjakeigjngoaa