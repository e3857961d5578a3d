/- Contracts: how a text is found among stages and codes; how a text is cut. -/
import Derived.Test.YtldjakeigjngoaaPlainParseQ
import Derived.Test.YtldjakeigjngoaaWalkBlameNamesQ
import Derived.Test.YtldjakeigjngoaaShelfQ
import Derived.Test.YtldjakeigjngoaaBLP
import Derived.Test.YtldjakeigjngoaaBEX
import Derived.Test.YtldjakeigjngoaaBEX
import Derived.Test.YtldjakeigjngoaaBRC
import Derived.Lib.CleanWalkFns
set_option linter.unusedVariables false
set_option linter.unusedSimpArgs false
namespace Go.Proofs.Ytldjakeigjngoaa
open Go.RowKit Bf
def txV (x : List UInt8) : List Value := [S x]
theorem findL_at (l : List (List UInt8)) (s : List UInt8) (i : Nat) (h : ∀ (j : Nat) x, j < i → l[j]? = some x → x ≠ s) (hi : l[i]? = some s) : findL l s = i := by
 induction l generalizing i with
 | nil => simp at hi
 | cons y l ih =>
  cases i with
  | zero =>
   simp only [List.getElem?_cons_zero, Option.some.injEq] at hi
   unfold findL; rw [if_pos hi]; rfl
  | succ i =>
   have h0 : y ≠ s := h 0 y (by omega) rfl
   have := ih i (fun j x hj hx => h (j + 1) x (by omega) (by simpa using hx)) (by simpa using hi)
   unfold findL; rw [if_neg h0, this, if_neg (by omega)]; omega
theorem findL_no (l : List (List UInt8)) (s : List UInt8) (h : ∀ (j : Nat) x, l[j]? = some x → x ≠ s) : findL l s = -1 := by
 induction l with
 | nil => rfl
 | cons y l ih =>
  have h0 : y ≠ s := h 0 y rfl
  have := ih (fun j x hx => h (j + 1) x (by simpa using hx))
  unfold findL; rw [if_neg h0, this, if_pos rfl]
section
variable {P : Program} {C : Cx} {k : List It} {fr : Fr} {hp : List En}
theorem sy_cellsB (i : Nat) {b : Nat} {e : TypeId} {cs : List Value} (cs' : List Value) (hi : hp[i]? = some (blk b e cs)) (hc : cs = cs') (h : Sy P C k fr (hp.set i (blk b e cs'))) : Sy P C k fr hp := by
 subst hc
 have : hp.set i (blk b e cs) = hp := by
  apply List.ext_getElem?; intro j
  by_cases hj : i = j
  · subst hj; rw [hi]
    rw [List.getElem?_set_self (List.getElem?_eq_some_iff.1 hi).1]
  · rw [List.getElem?_set_ne hj]
 rw [this] at h; exact h
theorem sy_blkRowB (i : Nat) {g : Nat} {e : TypeId} {size n : Nat} {cs : List Value} (hi : hp[i]? = some (blk g e cs)) (hc : cs.length = n * size) (hm : n ≤ maxLen) (h : Sy P C k fr (hp.set i (vec e size (.slice (some ⟨g, 0, none⟩) n n) n cs))) : Sy P C k fr hp :=
 .mk fun a w ha hw => h.go a w ha (by
  have hi' : hp[i]? = some (blk g e (cs ++ [])) := by rw [List.append_nil]; exact hi
  exact hw.blkVec hi' (Nat.le_refl n) hm (by rw [List.append_nil]; exact hc) hc)
end
set_option maxRecDepth 20000 in
set_option maxHeartbeats 2000000 in
theorem find_c (p : Option Addr) (q : Nat) (l : List (List UInt8)) (s : List UInt8) (w : World) (hn : l.length ≤ 1000) (hs : IsSl w 1 p l.length (l.flatMap txV)) :
 Calls Try.prog 46 #[.slice p l.length q, S s] w fun e w' => e = .returned (.int .i64 (findL l s)) ∧ Below w.heap.size w w' := by
 have hst : St (fun _ => False) w (fun w => IsSl w 1 p l.length (l.flatMap txV)) := St.start (IsSl.bl _ _ _ _) hs
 refine sy_enter rfl rfl ?_
 simp only [initFr]
 repeat (first | refine yK ?_ | (refine gO ?_; first | refine yP ?_ | (refine gK ?_; refine sy_ov (ov_lens rfl) rfl rfl ?_)))
 refine sy_loop (α := Int) (fun i => [(1, S s), (7, .slice p l.length q), (8, .int .i64 l.length), (9, .int .i64 i)]) (fun _ => []) (fun i => 0 ≤ i ∧ i ≤ l.length ∧ ∀ (j : Nat) x, j < i.toNat → l[j]? = some x → x ≠ s) (fun i => (l.length - i).toNat) 0 ⟨by omega, by omega, fun j x h => by simp at h⟩ ⟨⟨_, rfl, rfl⟩, ⟨_, rfl, rfl⟩, ⟨_, rfl, rfl⟩, ⟨_, rfl, rfl⟩, trivial⟩ (List.nil_sublist _) ?_
 rintro i ⟨i0, i1, hno⟩
 by_cases hlt : i < l.length
 · obtain ⟨x, hx⟩ : ∃ x, l[i.toNat]? = some x := ⟨_, List.getElem?_eq_getElem (by omega)⟩
   obtain ⟨b, off, hp, hat⟩ := hst.addr (by omega)
   subst hp
   by_cases he : x = s
   · subst he
     have hf := findL_at l x i.toNat hno hx
     rw [hf]
     repeat (first | refine yK ?_ | (refine gO ?_; first | refine yP ?_ | (refine sy_ov (ov_indexAddr rfl rfl ?_ ?_) rfl rfl ?_; omega; omega)) | refine yT ?_)
     refine sy_ov (ov_cell (f := txV) (j := 0) (k := 1) hat hx rfl rfl rfl (fun _ => rfl)) rfl rfl ?_
     repeat (first | refine yK ?_ | (refine gO ?_; refine yP ?_) | refine yT ?_ | refine sy_rt ?_)
     exact ret1 rfl rfl (by congr 1; omega)
   · repeat (first | refine yK ?_ | (refine gO ?_; first | refine yP ?_ | (refine sy_ov (ov_indexAddr rfl rfl ?_ ?_) rfl rfl ?_; omega; omega)) | refine yT ?_)
     refine sy_ov (ov_cell (f := txV) (j := 0) (k := 1) hat hx rfl rfl rfl (fun _ => rfl)) rfl rfl ?_
     repeat (first | refine yK ?_ | (refine gO ?_; first | refine yP ?_ | (refine gB ?_; (refine sy_ov (ov_ar rfl rfl rfl ?_ ?_) rfl rfl ?_; omega; omega))) | refine yN ?_)
     refine sy_back (i + 1) ⟨by omega, by omega, ?_⟩ (by omega) ⟨⟨_, rfl, rfl⟩, ⟨_, rfl, rfl⟩, ⟨_, rfl, rfl⟩, ⟨_, rfl, rfl⟩, trivial⟩ (List.nil_sublist _)
     intro j y hj hy
     by_cases hji : j < i.toNat
     · exact hno j y hji hy
     · have : j = i.toNat := by omega
       subst this
       rw [hx] at hy; cases hy; exact he
 · have hf := findL_no l s (fun j x hx => hno j x (by have := (List.getElem?_eq_some_iff.1 hx).1; omega) hx)
   rw [hf]
   repeat (first | refine yK ?_ | (refine gO ?_; refine yP ?_) | refine yN ?_ | refine sy_rt ?_)
   exact ret1 rfl rfl rfl
section
variable {P : Program} {k : List It} {fr : Fr} {hp : List En}
theorem ret_tct (i : Nat) {fn : Func} {t u c : Tmp} {ct : TypeId} {d : TypeDesc} {ti : TypeInfo} [hd : TU P ct d] [hti : TI P ct ti] {w0 : World} {n b : Nat} {e : TypeId} {cs : List Value} {v x v0 : Value} (hr : fn.results = #[.tmp t, .cell c ct, .tmp u]) (hv : get t fr = some v) (hc : get c fr = some (.pointer (some ⟨b, 0, none⟩))) (hx : get u fr = some x) (hi : hp[i]? = some (blk b e cs)) (ha : isAggD d = true) (hn : Nat.ble (0 + ti.size) cs.length = true) (he : Value.tuple #[v, .agg ⟨cs.take ti.size⟩, x] = v0) :
 Leave P ⟨fun _ => False, w0, n, bodyPost P fn fun e w' => e = .returned v0 ∧ Below w0.heap.size w0 w'⟩ .ret [] fr hp := .mk fun a w ha' hw => by
 subst he
 have hl := loadVar_ok (P := P) (t := ct) hw hi ha hn
 have hs := ha'.slot c _ hc
 have hs1 := ha'.slot t _ hv
 have hs2 := ha'.slot u _ hx
 rw [Array.getD_eq_getD_getElem?] at hs hs1 hs2
 have hq : (results fn a.tmps).run P w = .ok (.tuple #[v, .agg ⟨cs.take ti.size⟩, x]) w := by
  simp [results, hr, hs, hs1, hs2, asAddr, hl]
 show bodyPost P fn (fun e w' => e = .returned _ ∧ Below w0.heap.size w0 w') .ret a w
 exact bodyPost_ret hq ha'.defers (And.intro rfl hw.below)
end
def txE (l : List (List UInt8)) (n : Nat) (g : Nat) : En := vec 9 1 (.slice (some ⟨g, 0, none⟩) n n) n (l.flatMap txV)
set_option maxRecDepth 20000 in
theorem stages_c : CallsE Try.prog 47 [] [] fun u es' => ∃ g, u = .slice (some ⟨g, 0, none⟩) 10 10 ∧ es' = [txE stLs 10 g] := by
 refine sy_enterE rfl rfl (fun w => ?_)
 simp only [initFr]
 repeat (first | refine yK ?_ | (refine gO ?_; refine yP ?_))
 refine sy_buildSlice rfl rfl rfl rfl rfl rfl rfl rfl ?_
 intro g
 refine sy_cellsB 0 (stLs.flatMap txV) rfl rfl ?_
 refine sy_blkRowB (n := 10) (size := 1) 0 rfl rfl (by decide) ?_
 repeat (first | refine yK ?_ | (refine gO ?_; refine yP ?_) | refine sy_rt ?_)
 exact ret1w rfl rfl fun w' hw' => postE hw' _ (sub_self sr) rfl ⟨g, rfl, rfl⟩
set_option maxRecDepth 20000 in
theorem codes_c : CallsE Try.prog 48 [] [] fun u es' => ∃ g, u = .slice (some ⟨g, 0, none⟩) 21 21 ∧ es' = [txE coLs 21 g] := by
 refine sy_enterE rfl rfl (fun w => ?_)
 simp only [initFr]
 repeat (first | refine yK ?_ | (refine gO ?_; refine yP ?_))
 refine sy_buildSlice rfl rfl rfl rfl rfl rfl rfl rfl ?_
 intro g
 refine sy_cellsB 0 (coLs.flatMap txV) rfl rfl ?_
 refine sy_blkRowB (n := 21) (size := 1) 0 rfl rfl (by decide) ?_
 repeat (first | refine yK ?_ | (refine gO ?_; refine yP ?_) | refine sy_rt ?_)
 exact ret1w rfl rfl fun w' hw' => postE hw' _ (sub_self sr) rfl ⟨g, rfl, rfl⟩
def Mx (m : Int) (w : World) : Prop := w.cell? ⟨0, 0, none⟩ = some (.int .i64 m)
theorem Mx.bl (m : Int) : Bl fun w => Mx m w := fun w w' hb h => by
 have h : w.cell? ⟨0, 0, none⟩ = some (.int .i64 m) := h
 show w'.cell? ⟨0, 0, none⟩ = some (.int .i64 m)
 rw [hb.cell (cell_lt h)]; exact h
theorem scut_c (s sep : List UInt8) (m : Int) (w : World) (hs : s.length < 4294967281) (hm : Mx m w) : Calls Try.prog 45 #[S s, S sep] w fun e w' => e = .returned (.tuple #[S (Lib.cut s sep).1, S (Lib.cut s sep).2.1, .bool (Lib.cut s sep).2.2]) ∧ Below w.heap.size w w' :=
 (Try.strings_Cut ⟨⟨s⟩⟩ ⟨⟨sep⟩⟩ m w hs hm).mono fun e w' ⟨he, n, hn⟩ => ⟨he, by subst hn; exact Go.Lib.Lz.below_drewN (Below.refl _ _) n⟩
theorem cut_len (s sep : List UInt8) : (Lib.cut s sep).1.length ≤ s.length ∧ (Lib.cut s sep).2.1.length ≤ s.length := by
 unfold Lib.cut
 split
 · simp only [List.length_take, List.length_drop]; omega
 · simp
set_option maxRecDepth 20000 in
set_option maxHeartbeats 4000000 in
theorem bparse_c (s : List UInt8) (m : Int) (w : World) (hs : s.length < 4294967281) (hm : Mx m w) : Calls Try.prog 10 #[S s] w fun e w' => e = .returned (.tuple #[.int .i64 (blamP s).1, .agg ⟨[.int .i64 (blamP s).2.1, .int .i64 (blamP s).2.2.1]⟩, .bool (blamP s).2.2.2]) ∧ Below w.heap.size w w' := by
 have hst : St (fun _ => False) w (fun w => Mx m w) := St.start (Mx.bl m) hm
 have l1 := cut_len s colS
 have l2 := cut_len (Lib.cut s colS).2.1 atS
 obtain ⟨n, f, p, hp⟩ : ∃ n f p, parseS (Lib.cut (Lib.cut s colS).2.1 atS).2.1 = (n, f, p) := ⟨_, _, _, rfl⟩
 have b1 := findL_bd stLs (Lib.cut s colS).1
 have b2 := findL_bd coLs (Lib.cut (Lib.cut s colS).2.1 atS).1
 have e1 : stLs.length = 10 := rfl
 have e2 : coLs.length = 21 := rfl
 obtain ⟨i, hi⟩ : ∃ i, findL stLs (Lib.cut s colS).1 = i := ⟨_, rfl⟩
 obtain ⟨k, hk⟩ : ∃ k, findL coLs (Lib.cut (Lib.cut s colS).2.1 atS).1 = k := ⟨_, rfl⟩
 have hB : blamP s = if 0 ≤ i ∧ 1 ≤ k ∧ f = 0 then (i + 1, k, n, true) else (0, 0, 0, false) := by
  unfold blamP; rw [hi, hk, hp]
 rw [hi] at b1
 rw [hk] at b2
 have hf1 := fun g w h => find_c (some ⟨g, 0, none⟩) 10 stLs (Lib.cut s colS).1 w (by decide) h
 have hf2 := fun g w h => find_c (some ⟨g, 0, none⟩) 21 coLs (Lib.cut (Lib.cut s colS).2.1 atS).1 w (by decide) h
 rw [hi] at hf1
 rw [hk] at hf2
 by_cases h1 : i < 0
 · rw [hB, if_neg (fun h => by omega)]
   refine sy_enter rfl rfl ?_
   simp only [initFr]
   repeat (first | refine yK ?_ | (refine gO ?_; first | refine yP ?_ | (refine yA ?_; intro _)))
   refine sy_ov (ov_call rfl (fun w hw => scut_c s colS m w hs (hst.at hw))) rfl rfl ?_
   repeat (first | refine yK ?_ | (refine gO ?_; refine yP ?_))
   refine sy_ov (ov_call rfl (fun w hw => scut_c (Lib.cut s colS).2.1 atS m w (by omega) (hst.at hw))) rfl rfl ?_
   repeat (first | refine yK ?_ | (refine gO ?_; refine yP ?_))
   refine sy_callE [] rfl rfl rfl stages_c ?_
   rintro _ _ ⟨g1, rfl, rfl⟩
   simp only [txE, List.cons_append, List.nil_append]
   repeat ((refine gO ?_; refine yP ?_))
   refine sy_ov (ov_call rfl (fun w hw => hf1 g1 w (vec_isSl hw (i := 0) rfl))) rfl rfl ?_
   skip
   refine sy_callE [] rfl rfl rfl codes_c ?_
   rintro _ _ ⟨g2, rfl, rfl⟩
   simp only [txE, List.cons_append, List.nil_append]
   repeat ((refine gO ?_; refine yP ?_))
   refine sy_ov (ov_call rfl (fun w hw => hf2 g2 w (vec_isSl hw (i := 0) rfl))) rfl rfl ?_
   repeat (first | refine yK ?_ | (refine gO ?_; refine yP ?_))
   refine sy_ov (ov_call rfl (fun w _ => parse_c _ n f p hp (by omega) w)) rfl rfl ?_
   repeat (first | refine yK ?_ | (refine gO ?_; first | refine yP ?_ | (refine gG ?_; refine yH ?_) | (refine gS ?_; first | refine yS 0 ?_ | refine yS 3 ?_) | refine sy_ov (ov_pick rfl rfl rfl) rfl rfl ?_ | refine yB ?_ | (refine yA ?_; intro _)) | refine yT ?_ | refine sy_rt ?_)
   exact ret_tct 3 rfl rfl rfl rfl rfl rfl rfl rfl
 · by_cases h2 : k < 1
   · rw [hB, if_neg (fun h => by omega)]
     refine sy_enter rfl rfl ?_
     simp only [initFr]
     repeat (first | refine yK ?_ | (refine gO ?_; first | refine yP ?_ | (refine yA ?_; intro _)))
     refine sy_ov (ov_call rfl (fun w hw => scut_c s colS m w hs (hst.at hw))) rfl rfl ?_
     repeat (first | refine yK ?_ | (refine gO ?_; refine yP ?_))
     refine sy_ov (ov_call rfl (fun w hw => scut_c (Lib.cut s colS).2.1 atS m w (by omega) (hst.at hw))) rfl rfl ?_
     repeat (first | refine yK ?_ | (refine gO ?_; refine yP ?_))
     refine sy_callE [] rfl rfl rfl stages_c ?_
     rintro _ _ ⟨g1, rfl, rfl⟩
     simp only [txE, List.cons_append, List.nil_append]
     repeat ((refine gO ?_; refine yP ?_))
     refine sy_ov (ov_call rfl (fun w hw => hf1 g1 w (vec_isSl hw (i := 0) rfl))) rfl rfl ?_
     skip
     refine sy_callE [] rfl rfl rfl codes_c ?_
     rintro _ _ ⟨g2, rfl, rfl⟩
     simp only [txE, List.cons_append, List.nil_append]
     repeat ((refine gO ?_; refine yP ?_))
     refine sy_ov (ov_call rfl (fun w hw => hf2 g2 w (vec_isSl hw (i := 0) rfl))) rfl rfl ?_
     repeat (first | refine yK ?_ | (refine gO ?_; refine yP ?_))
     refine sy_ov (ov_call rfl (fun w _ => parse_c _ n f p hp (by omega) w)) rfl rfl ?_
     repeat (first | refine yK ?_ | (refine gO ?_; first | refine yP ?_ | (refine gG ?_; first | refine yG ?_ | refine yH ?_) | (refine gS ?_; first | refine yS 0 ?_ | refine yS 3 ?_) | refine yE ?_ | refine sy_ov (ov_pick rfl rfl rfl) rfl rfl ?_ | refine yB ?_ | (refine yA ?_; intro _)) | refine yT ?_ | refine sy_rt ?_)
     exact ret_tct 3 rfl rfl rfl rfl rfl rfl rfl rfl
   · by_cases h3 : f = 0
     · rw [hB, if_pos ⟨by omega, by omega, h3⟩]
       refine sy_enter rfl rfl ?_
       simp only [initFr]
       repeat (first | refine yK ?_ | (refine gO ?_; first | refine yP ?_ | (refine yA ?_; intro _)))
       refine sy_ov (ov_call rfl (fun w hw => scut_c s colS m w hs (hst.at hw))) rfl rfl ?_
       repeat (first | refine yK ?_ | (refine gO ?_; refine yP ?_))
       refine sy_ov (ov_call rfl (fun w hw => scut_c (Lib.cut s colS).2.1 atS m w (by omega) (hst.at hw))) rfl rfl ?_
       repeat (first | refine yK ?_ | (refine gO ?_; refine yP ?_))
       refine sy_callE [] rfl rfl rfl stages_c ?_
       rintro _ _ ⟨g1, rfl, rfl⟩
       simp only [txE, List.cons_append, List.nil_append]
       repeat ((refine gO ?_; refine yP ?_))
       refine sy_ov (ov_call rfl (fun w hw => hf1 g1 w (vec_isSl hw (i := 0) rfl))) rfl rfl ?_
       skip
       refine sy_callE [] rfl rfl rfl codes_c ?_
       rintro _ _ ⟨g2, rfl, rfl⟩
       simp only [txE, List.cons_append, List.nil_append]
       repeat ((refine gO ?_; refine yP ?_))
       refine sy_ov (ov_call rfl (fun w hw => hf2 g2 w (vec_isSl hw (i := 0) rfl))) rfl rfl ?_
       repeat (first | refine yK ?_ | (refine gO ?_; refine yP ?_))
       refine sy_ov (ov_call rfl (fun w _ => parse_c _ n f p hp (by omega) w)) rfl rfl ?_
       repeat (first | refine yK ?_ | (refine gO ?_; first | refine yP ?_ | (refine gG ?_; refine yG ?_) | (refine gB ?_; (refine sy_ov (ov_ar rfl rfl rfl ?_ ?_) rfl rfl ?_; omega; omega)) | (refine gL ?_; refine yL 0 ?_) | (refine gS ?_; first | refine yS 0 ?_ | refine yS 3 ?_) | refine yE ?_ | refine yF ?_ | refine yB ?_ | (refine yA ?_; intro _)) | refine yN ?_ | refine sy_rt ?_)
       exact ret_tct 3 rfl rfl rfl rfl rfl rfl rfl rfl
     · rw [hB, if_neg (fun h => h3 h.2.2)]
       refine sy_enter rfl rfl ?_
       simp only [initFr]
       repeat (first | refine yK ?_ | (refine gO ?_; first | refine yP ?_ | (refine yA ?_; intro _)))
       refine sy_ov (ov_call rfl (fun w hw => scut_c s colS m w hs (hst.at hw))) rfl rfl ?_
       repeat (first | refine yK ?_ | (refine gO ?_; refine yP ?_))
       refine sy_ov (ov_call rfl (fun w hw => scut_c (Lib.cut s colS).2.1 atS m w (by omega) (hst.at hw))) rfl rfl ?_
       repeat (first | refine yK ?_ | (refine gO ?_; refine yP ?_))
       refine sy_callE [] rfl rfl rfl stages_c ?_
       rintro _ _ ⟨g1, rfl, rfl⟩
       simp only [txE, List.cons_append, List.nil_append]
       repeat ((refine gO ?_; refine yP ?_))
       refine sy_ov (ov_call rfl (fun w hw => hf1 g1 w (vec_isSl hw (i := 0) rfl))) rfl rfl ?_
       skip
       refine sy_callE [] rfl rfl rfl codes_c ?_
       rintro _ _ ⟨g2, rfl, rfl⟩
       simp only [txE, List.cons_append, List.nil_append]
       repeat ((refine gO ?_; refine yP ?_))
       refine sy_ov (ov_call rfl (fun w hw => hf2 g2 w (vec_isSl hw (i := 0) rfl))) rfl rfl ?_
       repeat (first | refine yK ?_ | (refine gO ?_; refine yP ?_))
       refine sy_ov (ov_call rfl (fun w _ => parse_c _ n f p hp (by omega) w)) rfl rfl ?_
       repeat (first | refine yK ?_ | (refine gO ?_; first | refine yP ?_ | (refine gG ?_; refine yG ?_) | (refine gL ?_; refine yL 0 ?_) | (refine gS ?_; first | refine yS 0 ?_ | refine yS 3 ?_) | refine yE ?_ | refine yF ?_ | refine yB ?_ | (refine yA ?_; intro _)) | refine yT ?_ | refine sy_rt ?_)
       exact ret_tct 3 rfl rfl rfl rfl rfl rfl rfl rfl
end Go.Proofs.Ytldjakeigjngoaa