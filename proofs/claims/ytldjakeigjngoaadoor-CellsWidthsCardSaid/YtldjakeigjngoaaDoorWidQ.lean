/- Contracts: the widest line. -/
import Derived.Test.YtldjakeigjngoaaDoorPlainWidQ
import Derived.Test.YtldjakeigjngoaaDoorBRF
import Derived.Test.YtldjakeigjngoaaDoorBEX
import Derived.Test.YtldjakeigjngoaaDoorShelfQ
import Derived.Test.YtldjakeigjngoaaDoorBEX
import Derived.Test.YtldjakeigjngoaaDoorBRC
import Derived.Lib.CleanWalkFns
set_option linter.unusedVariables false
set_option linter.unusedSimpArgs false
namespace Go.Proofs.YtldjakeigjngoaaDoor
open Go.RowKit Bf
def tlV (x : List UInt8) : List Value := [S x]
def wideL (s : List UInt8) : Int := maxW 0 ((linesL s).map widthL)
def tlRow (ls : List (List UInt8)) (p : Option Addr) (q : Nat) : En := vec 9 1 (.slice p ls.length q) ls.length (ls.flatMap tlV)
theorem tl_snoc (ys : List (List UInt8)) (x : List UInt8) : (ys ++ [x]).flatMap tlV = ys.flatMap tlV ++ tlV x := by simp
structure LnSt where
 i : Int
 f : Int
 ys : List (List UInt8)
 p : Option Addr
 q : Nat
structure LnI (s : List UInt8) (x : LnSt) : Prop where
 f0 : 0 ≤ x.f
 fi : x.f ≤ x.i
 il : x.i ≤ s.length
 len : (x.ys.length : Int) ≤ x.f
 go : linesL s = x.ys ++ linesL (s.drop x.f.toNat)
 no : ∀ j : Nat, x.f ≤ j → (j : Int) < x.i → s[j]? ≠ some 10
def PostW (w : World) (R : Value → List En → Prop) (x : Ending) (w' : World) : Prop := ∃ v es', R v es' ∧ x = .returned v ∧ HpOk (fun _ => False) w es' w'
theorem domL_nilW : domL [] = fun _ => False := by funext b; simp [domL]
section
variable {P : Program} {C : Cx} {k : List It} {fr : Fr} {hp : List En} {all : Array Oper} {l : List Oper} {dst : Option Tmp} {ty : TypeId} {pos : String} {aft : Array Edge} {g : Option (Nat × Bool)}
theorem sy_callW {f : FuncId} {fn : Func} [hfn : FN P f fn] {args : List Operand} {ats : Array TypeId} {vs : List Value} {R : Value → List En → Prop} (hx : evs fr args = some vs) (hf : Fits C.n dst)
 (hc : ∀ w, HpOk C.D C.w0 hp w → Calls P f vs.toArray w (PostW w R)) (hk : ∀ v es', R v es' → Sy P C (.o all l :: k) (put dst v fr) (es' ++ hp)) : Sy P C (.o all (⟨dst, .call ⟨.value (.func f), ⟨args⟩, ats⟩, ty, pos, aft, none⟩ :: l) :: k) fr hp := by
 exact sy_callw hx hf (R := fun x w' => ∃ w, HpOk C.D C.w0 hp w ∧ PostW w R x w')
  (fun w hw => (hc w hw).mono fun x w' h => ⟨w, hw, h⟩)
  fun _ w' _ x ⟨w, hw, v, es', hR, hx', hh⟩ => ⟨v, _, hx', HpOk.callE (es := []) hw (by rw [domL_nilW]; exact hh), hk v es' hR⟩
theorem sy_vecIsW {n n' q : Nat} {p : Option Addr} {e : TypeId} {sz : Nat} {cs cs' : List Value} (i : Nat) (hi : hp[i]? = some (vec e sz (.slice p n q) n cs)) (hn : n = n') (hc : cs = cs') (h : Sy P C k fr (hp.set i (vec e sz (.slice p n' q) n' cs'))) : Sy P C k fr hp := by
 subst hn; subst hc
 have : hp.set i (vec e sz (.slice p n q) n cs) = hp := by
  apply List.ext_getElem?; intro j
  by_cases hj : i = j
  · subst hj; rw [hi, List.getElem?_set_self (List.getElem?_eq_some_iff.1 hi).1]
  · rw [List.getElem?_set_ne hj]
 rw [this] at h; exact h
end
theorem u8_10 {c : UInt8} (h : (c.toNat : Int) = 10) : c = 10 := by
 apply UInt8.toNat_inj.1
 have : c.toNat = 10 := by omega
 rw [this]; rfl
section
variable (s : List UInt8) (w : World)
set_option maxRecDepth 20000 in
set_option maxHeartbeats 4000000 in
theorem lines_c (hs : s.length ≤ 100000000) : Calls Tryd.prog 45 #[S s] w (PostW w fun u es => ∃ p q, u = .slice p (linesL s).length q ∧ es = [tlRow (linesL s) p q]) := by
 refine sy_enter rfl rfl ?_
 simp only [initFr]
 repeat (first | refine yK ?_ | (refine gO ?_; refine yP ?_))
 refine sy_grow 9 1 ?_
 refine sy_loop (α := LnSt) (fun x => [(0, S s), (3, .slice x.p x.ys.length x.q), (4, .int .i64 x.f), (5, .int .i64 x.i)]) (fun x => [tlRow x.ys x.p x.q]) (LnI s) (fun x => (s.length - x.i).toNat) ⟨0, 0, [], none, 0⟩ ⟨by simp, by simp, by simp, by simp, rfl, fun j h1 h2 => by simp only at h1 h2; omega⟩ ⟨⟨_, rfl, rfl⟩, ⟨_, rfl, rfl⟩, ⟨_, rfl, rfl⟩, ⟨_, rfl, rfl⟩, trivial⟩ (by simp only [tlRow]; exact sk (List.nil_sublist _)) ?_
 rintro ⟨i, f, ys, p, q⟩ ⟨f0, fi, il, len, go, no⟩
 simp only at f0 fi il len go no
 simp only [tlRow]
 by_cases hlt : i < s.length
 · obtain ⟨c, hc⟩ : ∃ c, s[i.toNat]? = some c := ⟨_, List.getElem?_eq_getElem (by omega)⟩
   have hbt : bt s i = (c.toNat : Int) := by simp [bt, List.getD, hc]
   by_cases h10 : bt s i = 10
   · have e10 : c = 10 := u8_10 (hbt ▸ h10)
     subst e10
     have hcut := lines_cut (i.toNat - f.toNat) (s.drop f.toNat) (fun j hj hx => by
      rw [List.getElem?_drop] at hx
      exact no (f.toNat + j) (by omega) (by omega) hx) (by rw [List.getElem?_drop, show f.toNat + (i.toNat - f.toNat) = i.toNat by omega]; exact hc)
     rw [List.drop_drop, show f.toNat + (i.toNat - f.toNat + 1) = i.toNat + 1 by omega] at hcut
     repeat (first | refine yK ?_ | (refine gO ?_; first | refine yP ?_ | (refine gK ?_; refine sy_ov (ov_len rfl) rfl rfl ?_) | (refine gI ?_; (refine sy_ov (ov_slice rfl rfl rfl ?_ ?_ ?_) rfl rfl ?_; (focus (first | omega | (simp <;> omega))); (focus (first | omega | (simp <;> omega))); focus (first | omega | (simp <;> omega)))) | refine yI ?_) | refine yT ?_)
     refine sy_buildSlice rfl rfl rfl rfl rfl rfl rfl rfl ?_
     intro g2
     refine sy_append 1 0 rfl rfl rfl rfl rfl rfl rfl rfl rfl rfl rfl (by omega) (by show (_ + 1) * 16 ≤ _; omega) ?_
     intro p' q'
     refine sy_weaken (fun _ _ h => h) (sd sr) ?_
     repeat (first | refine yK ?_ | (refine gO ?_; first | refine yP ?_ | (refine gB ?_; (refine sy_ov (ov_ar rfl rfl rfl ?_ ?_) rfl rfl ?_; omega; omega))))
     refine sy_back ⟨i + 1, i + 1, ys ++ [(s.drop f.toNat).take (i - f).toNat], some p', q'⟩ ⟨by simp only; omega, by simp only; omega, by simp only; omega, by simp only [List.length_append, List.length_singleton]; omega, ?_, fun j h1 h2 => by simp only at h1 h2; omega⟩ (by simp only; omega) ⟨⟨_, rfl, rfl⟩, ⟨_, rfl, by simp only [List.length_append, List.length_singleton]⟩, ⟨_, rfl, rfl⟩, ⟨_, rfl, rfl⟩, trivial⟩ (by simp only [tlRow, tl_snoc, List.length_append, List.length_singleton]; exact sk (List.nil_sublist _))
     simp only
     rw [go, hcut, show (i + 1).toNat = i.toNat + 1 by omega, show (i - f).toNat = i.toNat - f.toNat by omega]; simp
   · repeat (first | refine yK ?_ | (refine gO ?_; first | refine yP ?_ | (refine gB ?_; (refine sy_ov (ov_ar rfl rfl rfl ?_ ?_) rfl rfl ?_; omega; omega)) | (refine gK ?_; refine sy_ov (ov_len rfl) rfl rfl ?_) | refine yI ?_) | refine yT ?_ | refine yN ?_)
     refine sy_back ⟨i + 1, f, ys, p, q⟩ ⟨by simp only; omega, by simp only; omega, by simp only; omega, by simp only; omega, go, fun j h1 h2 hx => ?_⟩ (by simp only; omega) ⟨⟨_, rfl, rfl⟩, ⟨_, rfl, rfl⟩, ⟨_, rfl, rfl⟩, ⟨_, rfl, rfl⟩, trivial⟩ (by simp only [tlRow]; exact sr)
     simp only at h1 h2
     by_cases hj : (j : Int) < i
     · exact no j h1 hj hx
     · have : j = i.toNat := by omega
       subst this
       rw [hc] at hx
       have : c = 10 := by simpa using hx
       subst this
       exact h10 hbt
 · have hl := lines_last (s.drop f.toNat) (fun j hx => by
    rw [List.getElem?_drop] at hx
    have hb := (List.getElem?_eq_some_iff.1 hx).1
    exact no (f.toNat + j) (by omega) (by omega) hx)
   rw [hl] at go
   repeat (first | refine yK ?_ | (refine gO ?_; first | refine yP ?_ | (refine gK ?_; refine sy_ov (ov_len rfl) rfl rfl ?_) | (refine gI ?_; (refine sy_ov (ov_slice_lo rfl rfl ?_ ?_) rfl rfl ?_; omega; omega))) | refine yN ?_)
   refine sy_buildSlice rfl rfl rfl rfl rfl rfl rfl rfl ?_
   intro g2
   refine sy_append 1 0 rfl rfl rfl rfl rfl rfl rfl rfl rfl rfl rfl (by omega) (by show (_ + 1) * 16 ≤ _; omega) ?_
   intro p' q'
   refine sy_weaken (fun _ _ h => h) (sd sr) ?_
   refine sy_vecIsW (n' := (linesL s).length) (cs' := (linesL s).flatMap tlV) 0 rfl (by rw [go]; simp) (by rw [go, tl_snoc]; rfl) ?_
   repeat (first | refine yK ?_ | (refine gO ?_; refine yP ?_) | refine sy_rt ?_)
   exact ret1w rfl rfl fun w' hw' => ⟨_, _, ⟨some p', q', by rw [go]; simp, rfl⟩, rfl, hw'⟩
end
theorem tl_get : ∀ (ls : List (List UInt8)) (i : Nat) (x : List UInt8), ls[i]? = some x → (ls.flatMap tlV)[i]? = some (S x)
 | y :: ls, 0, x, h => by simp only [List.getElem?_cons_zero, Option.some.injEq] at h; subst h; rfl
 | y :: ls, i + 1, x, h => by
  have := tl_get ls i x (by simpa using h)
  simpa [tlV] using this
section
variable (s : List UInt8) (w : World)
set_option maxRecDepth 20000 in
set_option maxHeartbeats 4000000 in
theorem rwidest_c (hs : s.length ≤ 100000000) : Calls Tryd.prog 26 #[S s] w fun e w' => e = .returned (.int .i64 (wideL s)) ∧ Below w.heap.size w w' := by
 have hb := lines_len s
 have hle := lines_le s
 refine sy_enter rfl rfl ?_
 simp only [initFr]
 repeat (first | refine yK ?_ | (refine gO ?_; refine yP ?_))
 refine sy_callW rfl rfl (fun w hw => lines_c s w hs) ?_
 rintro _ _ ⟨p, q, rfl, rfl⟩
 simp only [tlRow, List.cons_append, List.nil_append]
 obtain ⟨ls, hls⟩ : ∃ ls, linesL s = ls := ⟨_, rfl⟩
 have hW : wideL s = maxW 0 (ls.map widthL) := by unfold wideL; rw [hls]
 rw [hls] at hb hle
 rw [hls, hW]
 repeat (first | refine yK ?_ | (refine gO ?_; refine yP ?_))
 refine sy_loop (α := Int × Int) (fun x => [(3, .slice p ls.length q), (4, .int .i64 x.2), (5, .int .i64 x.1)]) (fun _ => [vec 9 1 (.slice p ls.length q) ls.length (ls.flatMap tlV)]) (fun x => 0 ≤ x.1 ∧ x.1 ≤ ls.length ∧ maxW x.2 ((ls.drop x.1.toNat).map widthL) = maxW 0 (ls.map widthL)) (fun x => (ls.length - x.1).toNat) (0, 0) ⟨by simp, by simp, rfl⟩ ⟨⟨_, rfl, rfl⟩, ⟨_, rfl, rfl⟩, ⟨_, rfl, rfl⟩, trivial⟩ sr ?_
 rintro ⟨i, m⟩ ⟨i0, i1, hm⟩
 simp only at i0 i1 hm
 by_cases hlt : i < ls.length
 · obtain ⟨x, hx⟩ : ∃ x, ls[i.toNat]? = some x := ⟨_, List.getElem?_eq_getElem (by omega)⟩
   have hd : ls.drop i.toNat = x :: ls.drop (i.toNat + 1) := by
    rw [List.drop_eq_getElem_cons (by omega)]
    congr 1
    exact Option.some.inj ((List.getElem?_eq_getElem (by omega)).symm.trans hx)
   rw [hd, List.map_cons, maxW] at hm
   have hxl := hle x (List.mem_of_getElem? hx)
   refine sy_vecAddr 0 rfl (by omega) ?_
   rintro g rfl
   by_cases hg : m < widthL x
   · rw [if_pos hg] at hm
     repeat (first | refine yK ?_ | (refine gO ?_; first | refine yP ?_ | (refine gK ?_; refine sy_ov (ov_lens rfl) rfl rfl ?_) | (refine sy_ov (ov_indexAddr rfl rfl ?_ ?_) rfl rfl ?_; omega; omega)) | refine yT ?_)
     refine sy_ov (ov_loadx (v := S x) rfl rfl (fun w hw => by
      show w.cell? ⟨g, 0 + i.toNat * 1, none⟩ = _
      rw [show 0 + i.toNat * 1 = i.toNat by omega]
      exact vec_cell hw (i := 0) rfl (tl_get _ _ _ hx))) rfl rfl ?_
     skip
     refine sy_ov (ov_call rfl (fun w _ => rwidth_c x.length x (widthL x) (Nat.le_refl _) rfl (by omega) w)) rfl rfl ?_
     repeat (first | refine yK ?_ | (refine gO ?_; first | refine yP ?_ | (refine gB ?_; (refine sy_ov (ov_ar rfl rfl rfl ?_ ?_) rfl rfl ?_; omega; omega))) | refine yT ?_)
     refine sy_back (i + 1, widthL x) ⟨by simp only; omega, by simp only; omega, by simp only; rw [show (i + 1).toNat = i.toNat + 1 by omega]; exact hm⟩ (by simp only; omega) ⟨⟨_, rfl, rfl⟩, ⟨_, rfl, rfl⟩, ⟨_, rfl, rfl⟩, trivial⟩ sr
   · rw [if_neg hg] at hm
     repeat (first | refine yK ?_ | (refine gO ?_; first | refine yP ?_ | (refine gK ?_; refine sy_ov (ov_lens rfl) rfl rfl ?_) | (refine sy_ov (ov_indexAddr rfl rfl ?_ ?_) rfl rfl ?_; omega; omega)) | refine yT ?_)
     refine sy_ov (ov_loadx (v := S x) rfl rfl (fun w hw => by
      show w.cell? ⟨g, 0 + i.toNat * 1, none⟩ = _
      rw [show 0 + i.toNat * 1 = i.toNat by omega]
      exact vec_cell hw (i := 0) rfl (tl_get _ _ _ hx))) rfl rfl ?_
     skip
     refine sy_ov (ov_call rfl (fun w _ => rwidth_c x.length x (widthL x) (Nat.le_refl _) rfl (by omega) w)) rfl rfl ?_
     repeat (first | refine yK ?_ | (refine gO ?_; first | refine yP ?_ | (refine gB ?_; (refine sy_ov (ov_ar rfl rfl rfl ?_ ?_) rfl rfl ?_; omega; omega))) | refine yN ?_)
     refine sy_back (i + 1, m) ⟨by simp only; omega, by simp only; omega, by simp only; rw [show (i + 1).toNat = i.toNat + 1 by omega]; exact hm⟩ (by simp only; omega) ⟨⟨_, rfl, rfl⟩, ⟨_, rfl, rfl⟩, ⟨_, rfl, rfl⟩, trivial⟩ sr
 · have : i = ls.length := by omega
   subst this
   rw [show ((ls.length : Int)).toNat = ls.length by omega, List.drop_length] at hm
   have hm : m = maxW 0 (ls.map widthL) := hm
   repeat (first | refine yK ?_ | (refine gO ?_; first | refine yP ?_ | (refine gK ?_; refine sy_ov (ov_lens rfl) rfl rfl ?_)) | refine yN ?_ | refine sy_rt ?_)
   exact ret1 rfl rfl (by rw [hm])
end
def MxW (m : Int) (w : World) : Prop := w.cell? ⟨1, 0, none⟩ = some (.int .i64 m)
theorem MxW.bl (m : Int) : Bl fun w => MxW m w := fun w w' hb h => by
 have h : w.cell? ⟨1, 0, none⟩ = some (.int .i64 m) := h
 show w'.cell? ⟨1, 0, none⟩ = some (.int .i64 m)
 rw [hb.cell (cell_lt h)]; exact h
def spE (ls : List (List UInt8)) (g : Nat) : En := blk g 9 (ls.flatMap tlV)
theorem split_cells (s : List UInt8) : (Lib.splitB ⟨⟨[10]⟩⟩ 0 (Lib.countB ⟨⟨s⟩⟩ ⟨⟨[10]⟩⟩) ⟨⟨s⟩⟩).map Value.string = (linesL s).flatMap tlV := by
 have h := Lib.splitB_data ⟨⟨[10]⟩⟩ 0 (Lib.countB ⟨⟨s⟩⟩ ⟨⟨[10]⟩⟩) ⟨⟨s⟩⟩
 have h2 : Lib.splitK [10] 0 (Lib.count s [10]) s = linesL s := split_lines s
 rw [show Lib.splitK (ByteArray.mk ⟨[10]⟩).data.toList 0 (Lib.countB ⟨⟨s⟩⟩ ⟨⟨[10]⟩⟩) (ByteArray.mk ⟨s⟩).data.toList = Lib.splitK [10] 0 (Lib.count s [10]) s from rfl, h2] at h
 rw [← h]
 generalize Lib.splitB ⟨⟨[10]⟩⟩ 0 (Lib.countB ⟨⟨s⟩⟩ ⟨⟨[10]⟩⟩) ⟨⟨s⟩⟩ = l
 induction l with
 | nil => rfl
 | cons x l ih => simp only [List.map_cons, List.flatMap_cons, ih]; rfl
theorem split_count (s : List UInt8) : Lib.countB ⟨⟨s⟩⟩ ⟨⟨[10]⟩⟩ + 1 = (linesL s).length := by
 have h1 := Lib.splitB_all ⟨⟨[10]⟩⟩ (by decide) 0 _ ⟨⟨s⟩⟩ rfl
 have h2 := congrArg List.length (split_cells s)
 rw [List.length_map, h1] at h2
 rw [h2]
 generalize linesL s = l
 induction l with
 | nil => rfl
 | cons x l ih => simp only [List.flatMap_cons, List.length_append, ih, List.length_cons, tlV, List.length_nil]; omega
theorem split_n (s : List UInt8) (m : Int) (w : World) (hs : s.length < 4294967281) (hm : MxW m w) : Calls Tryd.prog 44 #[S s, S [10]] w (PostW w fun u es => ∃ g, u = .slice (some ⟨g, 0, none⟩) (linesL s).length (linesL s).length ∧ es = [spE (linesL s) g]) :=
 (Tryd.strings_Split ⟨⟨s⟩⟩ ⟨⟨[10]⟩⟩ m w hs hm (by decide)).mono fun e w' ⟨he, hw'⟩ => by
   rw [split_count] at he
   rw [split_cells] at hw'
   subst hw'
   exact ⟨_, _, ⟨w.heap.size, rfl, rfl⟩, he, HpOk.alloc (D := fun _ => False) (w0 := w) (hp := []) ⟨Keep.refl _ _, by simp, List.Pairwise.nil⟩ _ _⟩
set_option maxRecDepth 20000 in
set_option maxHeartbeats 4000000 in
theorem widest_c (s : List UInt8) (m : Int) (w : World) (hs : s.length ≤ 100000000) (hm : MxW m w) : Calls Tryd.prog 25 #[S s] w fun e w' => e = .returned (.int .i64 (wideL s)) ∧ Below w.heap.size w w' := by
 have hst : St (fun _ => False) w (fun w => MxW m w) := St.start (MxW.bl m) hm
 have hb := lines_len s
 have hle := lines_le s
 refine sy_enter rfl rfl ?_
 simp only [initFr]
 repeat (first | refine yK ?_ | (refine gO ?_; refine yP ?_))
 refine sy_callW rfl rfl (fun w hw => split_n s m w (by omega) (hst.at hw)) ?_
 rintro _ _ ⟨g, rfl, rfl⟩
 simp only [spE, List.cons_append, List.nil_append]
 obtain ⟨ls, hls⟩ : ∃ ls, linesL s = ls := ⟨_, rfl⟩
 have hW : wideL s = maxW 0 (ls.map widthL) := by unfold wideL; rw [hls]
 rw [hls] at hb hle
 rw [hls, hW]
 repeat (first | refine yK ?_ | (refine gO ?_; first | refine yP ?_ | (refine gK ?_; refine sy_ov (ov_lens rfl) rfl rfl ?_)))
 refine sy_loop (α := Int × Int) (fun x => [(3, .int .i64 x.2), (7, .slice (some ⟨g, 0, none⟩) ls.length ls.length), (8, .int .i64 ls.length), (9, .int .i64 x.1)]) (fun _ => [blk g 9 (ls.flatMap tlV)]) (fun x => 0 ≤ x.1 ∧ x.1 ≤ ls.length ∧ maxW x.2 ((ls.drop x.1.toNat).map widthL) = maxW 0 (ls.map widthL)) (fun x => (ls.length - x.1).toNat) (0, 0) ⟨by simp, by simp, rfl⟩ ⟨⟨_, rfl, rfl⟩, ⟨_, rfl, rfl⟩, ⟨_, rfl, rfl⟩, ⟨_, rfl, rfl⟩, trivial⟩ sr ?_
 rintro ⟨i, m⟩ ⟨i0, i1, hm⟩
 simp only at i0 i1 hm
 by_cases hlt : i < ls.length
 · obtain ⟨x, hx⟩ : ∃ x, ls[i.toNat]? = some x := ⟨_, List.getElem?_eq_getElem (by omega)⟩
   have hd : ls.drop i.toNat = x :: ls.drop (i.toNat + 1) := by
    rw [List.drop_eq_getElem_cons (by omega)]
    congr 1
    exact Option.some.inj ((List.getElem?_eq_getElem (by omega)).symm.trans hx)
   rw [hd, List.map_cons, maxW] at hm
   have hxl := hle x (List.mem_of_getElem? hx)
   repeat (first | refine yK ?_ | (refine gO ?_; first | refine yP ?_ | (refine sy_ov (ov_indexAddr rfl rfl ?_ ?_) rfl rfl ?_; omega; omega)) | refine yT ?_)
   refine sy_ov (ov_loadx (v := S x) rfl rfl (fun w hw => by
    show w.cell? ⟨g, 0 + i.toNat * 1, none⟩ = _
    rw [show 0 + i.toNat * 1 = i.toNat by omega, hw.cell (i := 0) rfl]
    exact tl_get _ _ _ hx)) rfl rfl ?_
   repeat (first | refine yK ?_ | (refine gO ?_; refine yP ?_))
   refine sy_ov (ov_call rfl (fun w _ => width_c x (widthL x) rfl (by omega) w)) rfl rfl ?_
   repeat (first | refine yK ?_ | (refine gO ?_; first | refine yP ?_ | (refine gB ?_; (refine sy_ov (ov_ar rfl rfl rfl ?_ ?_) rfl rfl ?_; omega; omega)) | (refine gK ?_; refine sy_ov (ov_max rfl rfl) rfl rfl ?_)))
   refine sy_back (i + 1, if m < widthL x then widthL x else m) ⟨by simp only; omega, by simp only; omega, by simp only; rw [show (i + 1).toNat = i.toNat + 1 by omega]; exact hm⟩ (by simp only; omega) ⟨⟨_, rfl, rfl⟩, ⟨_, rfl, rfl⟩, ⟨_, rfl, rfl⟩, ⟨_, rfl, rfl⟩, trivial⟩ sr
 · have : i = ls.length := by omega
   subst this
   rw [show ((ls.length : Int)).toNat = ls.length by omega, List.drop_length] at hm
   have hm : m = maxW 0 (ls.map widthL) := hm
   repeat (first | refine yK ?_ | (refine gO ?_; refine yP ?_) | refine yN ?_ | refine sy_rt ?_)
   exact ret1 rfl rfl (by rw [hm])
end Go.Proofs.YtldjakeigjngoaaDoor