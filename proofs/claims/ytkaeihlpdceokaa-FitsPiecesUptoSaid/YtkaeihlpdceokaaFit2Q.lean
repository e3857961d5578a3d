/- Contracts: fits.Pieces (a stack of what is left to do). -/
import Derived.Test.YtkaeihlpdceokaaFitQ
import Derived.Test.YtkaeihlpdceokaaBDO
import Derived.Test.YtkaeihlpdceokaaBRC
set_option linter.unusedVariables false
set_option linter.unusedSimpArgs false
namespace Go.Proofs.Ytkaeihlpdceokaa
open Go.RowKit Bf
section
variable {P : Program} {C : Cx} {k : List It} {fr : Fr} {hp : List En}
theorem sy_blkVec (i : Nat) {g m size : Nat} {e : TypeId} {cs : List Value} (hi : hp[i]? = some (blk g e cs)) (hm : m ≤ maxLen) (hc : cs.length = m * size) (h : Sy P C k fr (hp.set i (vec e size (.slice (some ⟨g, 0, none⟩) m m) m cs))) : Sy P C k fr hp :=
 .mk fun a w ha hw => h.go a w ha (HpOk.blkVec hw (n := m) (q := m) (tl := []) (by rw [List.append_nil]; exact hi) (Nat.le_refl _) hm (by rw [List.append_nil]; exact hc) hc)
theorem sy_vecIsF (i : Nat) {e : TypeId} {size n n' q : Nat} {p : Option Addr} {cs cs' : List Value} (hi : hp[i]? = some (vec e size (.slice p n q) n cs)) (hn : n = n') (hc : cs = cs') (h : Sy P C k fr (hp.set i (vec e size (.slice p n' q) n' cs'))) : Sy P C k fr hp := by
 subst hn; subst hc
 have e : hp.set i (vec e size (.slice p n q) n cs) = hp := by
  apply List.ext_getElem?; intro j
  rw [List.getElem?_set]
  split
  · rename_i h1; subst h1; rw [if_pos (List.getElem?_eq_some_iff.1 hi).1, hi]
  · rfl
 rwa [e] at h
theorem St.leF {C C' : Cx} {R : World → Prop} (h : St C.D C.w0 R) (hC : CxLe C C') : St C'.D C'.w0 R := fun w hk => h w (hC.keep w hk)
theorem sy_pop (i : Nat) {g m n q size j : Nat} {e : TypeId} {cs a b : List Value} (hi : hp[i]? = some (vec e size (.slice (some ⟨g, 0, none⟩) m q) n cs)) (hc : cs = a ++ b) (ha : a.length = j * size) (hj : j ≤ n) (h : Sy P C k fr (hp.set i (vec e size (.slice (some ⟨g, 0, none⟩) j q) j a))) : Sy P C k fr hp :=
 .mk fun ac w hac hw => by
  obtain ⟨tl, hw1, hmn, hnq, hqm, hl, hcs⟩ := hw.vecBlk hi
  subst hmn
  have hil := (List.getElem?_eq_some_iff.1 hi).1
  have hi1 : (hp.set i (blk g e (cs ++ tl)))[i]? = some (blk g e (a ++ (b ++ tl))) := by rw [List.getElem?_set_self hil, hc, List.append_assoc]
  have hw2 := HpOk.blkVec hw1 (n := j) (q := q) (size := size) (cs := a) (tl := b ++ tl) hi1 (Nat.le_trans hj hnq) hqm (by rw [← List.append_assoc, ← hc]; exact hl) ha
  rw [List.set_set] at hw2
  exact h.go ac w hac hw2
end
def fitV (p : Option Addr) (q : Nat) (l : List PieT) : En := vec 35 5 (.slice p l.length q) l.length (l.flatMap pieV)
def tskE (p : Option Addr) (q : Nat) (l : List TskT) : En := vec 41 7 (.slice p l.length q) l.length (l.reverse.flatMap tskV)
def PcP (z : DocA) (u : Value) (es : List En) : Prop :=
 (rightD (plD z) = true ∧ ∃ p q, u = .tuple #[.slice p (pcsD (plD z) 0 0).1.length q, .bool true] ∧ es = [fitV p q (pcsD (plD z) 0 0).1]) ∨ (rightD (plD z) = false ∧ u = .tuple #[.slice none 0 0, .bool false] ∧ es = [])
structure FitA where
 T : List TskT
 O : List PieT
 g : Int
 p : Option Addr
 q : Nat
 po : Option Addr
 qo : Nat
structure FitI (R : List PieT × Int) (w : World) (a : FitA) : Prop where
 res : ((a.O ++ (pcsT a.T a.g).1, (pcsT a.T a.g).2) : List PieT × Int) = R
 ok : ∀ t ∈ a.T, okT t
 docs : ∀ d i, TskT.doc d i ∈ a.T → DocJ w d
 g0 : 0 ≤ a.g
 sum : (a.g : Int) + a.O.length + 2 * wgtTs a.T ≤ 16000000
theorem wgt_len : ∀ T : List TskT, T.length ≤ wgtTs T
 | [] => Nat.zero_le _
 | t :: T => by
  have h := wgt_len T
  have h1 : 1 ≤ wgtT t := by
   cases t with
   | doc d i => obtain ⟨k, n, s, p, c, kids⟩ := d; simp only [wgtT, plD, blkD]; omega
   | shut i g => exact Nat.le_refl _
  simp only [wgtTs, List.map_cons, List.sum_cons, List.length_cons] at h ⊢
  omega
def fitF (bd : Nat) (a : FitA) : Fr := [(1, .pointer (some ⟨bd, 0, none⟩)), (4, .slice a.po a.O.length a.qo), (5, .int .i64 a.g), (6, .slice a.p a.T.length a.q)]
def fitH (bd : Nat) (z : DocA) (a : FitA) : List En := [tskE a.p a.q a.T, fitV a.po a.qo a.O, blk bd 24 (docV z)]
theorem flat_revT (t : TskT) (T : List TskT) : (t :: T).reverse.flatMap tskV = T.reverse.flatMap tskV ++ tskV t := by simp
theorem flat_revT_len (T : List TskT) : (T.reverse.flatMap tskV).length = T.length * 7 := by
 have := flat_len tskV 7 tskV_len T.reverse
 simpa using this
theorem flat_snocP (O : List PieT) (x : PieT) : (O ++ [x]).flatMap pieV = O.flatMap pieV ++ pieV x := by simp
def kidT (kids : List DocA) (ind : Int) (j : Int) : List TskT := (kids.drop (j + 1).toNat).map fun d => .doc d ind
theorem kidT_all (kids : List DocA) (ind : Int) {j : Int} (h : j < 0) (h1 : -1 ≤ j) : kidT kids ind j = kids.map fun d => .doc d ind := by
 have : (j + 1).toNat = 0 := by omega
 simp [kidT, this]
theorem kidT_none (kids : List DocA) (ind : Int) : kidT kids ind ((kids.length : Int) - 1) = [] := by
 have : ((kids.length : Int) - 1 + 1).toNat = kids.length := by omega
 simp [kidT, this]
theorem kidT_step {kids : List DocA} {j : Int} {x : DocA} (ind : Int) (h0 : 0 ≤ j) (hx : kids[j.toNat]? = some x) : kidT kids ind (j - 1) = .doc x ind :: kidT kids ind j := by
 obtain ⟨hlt, rfl⟩ := List.getElem?_eq_some_iff.1 hx
 have e1 : (j - 1 + 1).toNat = j.toNat := by omega
 have e2 : (j + 1).toNat = j.toNat + 1 := by omega
 simp only [kidT, e1, e2]
 rw [List.drop_eq_getElem_cons hlt, List.map_cons]
theorem kidT_len (kids : List DocA) (ind : Int) (j : Int) : (kidT kids ind j).length ≤ kids.length := by simp [kidT]
set_option maxRecDepth 20000 in
set_option maxHeartbeats 8000000 in
theorem pieces_c (z : DocA) (hB : blkD (plD z) ≤ 2000000) (w : World) (hw0 : DocJ w z) : Calls Try.prog 6 #[.agg ⟨docV z⟩] w (PostN w (PcP z)) := by
 have hr := right29_c _ z (Nat.le_refl _) (by omega)
 have hz : St (fun _ => False) w (fun w => DocJ w z) := St.start (DocJ.bl _) hw0
 obtain ⟨r, hrr⟩ : ∃ r, rightD (plD z) = r := ⟨_, rfl⟩
 rw [hrr] at hr
 obtain ⟨zk, zn, zs, zp, zc, zkids⟩ := z
 cases r with
 | false =>
  refine sy_enter rfl rfl ?_
  simp only [initFr]
  repeat (first | refine yK ?_ | (refine gO ?_; first | refine yP ?_ | (refine gL ?_; refine yL 0 ?_) | (refine sy_box rfl rfl rfl ?_; intro _)))
  refine sy_ov (ov_call rfl (fun w hw => hr w (hz.at hw))) rfl rfl ?_
  repeat (first | refine yK ?_ | (refine gO ?_; refine yP ?_) | refine yT ?_ | refine sy_rt ?_)
  exact ret2w rfl rfl rfl fun w' hw' => ⟨_, _, .inr ⟨hrr, rfl, rfl⟩, rfl, hw'.weaken (List.nil_sublist _)⟩
 | true =>
  refine sy_enter rfl rfl ?_
  simp only [initFr]
  repeat (first | refine yK ?_ | (refine gO ?_; first | refine yP ?_ | (refine gL ?_; refine yL 0 ?_) | (refine sy_box rfl rfl rfl ?_; intro _)))
  rename_i bd
  refine sy_ov (ov_call rfl (fun w hw => hr w (hz.at hw))) rfl rfl ?_
  repeat (first | refine yK ?_ | (refine gO ?_; first | refine yP ?_ | (refine gL ?_; refine yL 0 ?_) | refine yB ?_) | refine yN ?_)
  refine sy_buildSlice rfl rfl rfl rfl rfl rfl rfl rfl ?_
  intro g
  refine sy_blkVec (size := 7) (m := 1) 0 rfl (by decide) rfl ?_
  refine sy_vecIsF (n' := [TskT.doc (.mk zk zn zs zp zc zkids) 0].length) (cs' := [TskT.doc (.mk zk zn zs zp zc zkids) 0].reverse.flatMap tskV) 0 rfl rfl rfl ?_
  repeat (first | refine yK ?_ | (refine gO ?_; refine yP ?_))
  refine sy_grow 35 5 ?_
  refine sy_order [1, 0, 2] rfl rfl ?_
  simp only [List.set_cons_zero, List.filterMap_cons, List.filterMap_nil, List.getElem?_cons_zero, List.getElem?_cons_succ]
  refine sy_loop (fitF bd) (fitH bd (.mk zk zn zs zp zc zkids)) (FitI (pcsT [.doc (.mk zk zn zs zp zc zkids) 0] 0) w) (fun a => wgtTs a.T) ⟨[.doc (.mk zk zn zs zp zc zkids) 0], [], 0, _, _, none, 0⟩ ⟨by simp, ?_, ?_, Int.le_refl _, ?_⟩ ⟨⟨_, rfl, rfl⟩, ⟨_, rfl, rfl⟩, ⟨_, rfl, rfl⟩, ⟨_, rfl, rfl⟩, trivial⟩ (List.Sublist.refl _) ?_
  · intro t ht
    rcases List.mem_singleton.1 ht with rfl
    exact ⟨hrr, by omega, by omega⟩
  · intro d i hd
    have := List.mem_singleton.1 hd
    injection this with h1 h2
    subst h1; exact hw0
  · simp only [wgtTs, List.map_cons, List.map_nil, List.sum_cons, List.sum_nil, wgtT, List.length_nil]; omega
  rintro ⟨T, O, gr, p, q, po, qo⟩ ⟨hres, hok, hdocs, hg0, hsum⟩
  dsimp only at hres hok hdocs hg0 hsum
  have hTl := wgt_len T
  dsimp only [fitF, fitH, tskE, fitV]
  cases T with
  | nil =>
   have hO : O = (pcsD (plD (.mk zk zn zs zp zc zkids)) 0 0).1 := by simpa [pcsT] using congrArg Prod.fst hres
   subst hO
   repeat (first | refine yK ?_ | (refine gO ?_; first | refine yP ?_ | (refine gK ?_; refine sy_ov (ov_lens rfl) rfl rfl ?_)) | refine yN ?_ | refine sy_rt ?_)
   exact ret2w rfl rfl rfl fun w' hw' => ⟨_, _, .inl ⟨hrr, po, qo, rfl, rfl⟩, rfl, hw'.weaken (sd (sk (List.nil_sublist _)))⟩
  | cons t T =>
   cases t with
   | shut i g0 =>
    repeat (first | refine yK ?_ | (refine gO ?_; first | refine yP ?_ | (refine gB ?_; (refine sy_ov (ov_ar rfl rfl rfl ?_ ?_) rfl rfl ?_; omega; omega)) | (refine gK ?_; refine sy_ov (ov_lens rfl) rfl rfl ?_)) | refine yT ?_)
    refine sy_vecAddr 0 rfl (by simp) (fun g hg => ?_)
    subst hg
    refine sy_vecCap 0 rfl (fun hq => ?_)
    simp only [List.length_cons] at hTl hsum hq ⊢
    have hix : (((T.length + 1 : Nat) : Int) - 1).toNat = T.length := by omega
    repeat ((refine gO ?_; (refine sy_ov (ov_indexAddr rfl rfl ?_ ?_) rfl rfl ?_; omega; omega)))
    refine sy_ov (ov_loadva (vs := tskV (.shut i g0)) 0 rfl rfl rfl (tskV_len _) (fun j u hj => ?_)) rfl rfl ?_
    · have e8 : 0 + T.length * (Try.t41).size + j - T.length * 7 = j := by show 0 + T.length * 7 + j - T.length * 7 = j; omega
      rw [flat_revT, hix, List.getElem?_append_right (by rw [flat_revT_len]; show T.length * 7 ≤ 0 + T.length * 7 + j; omega), flat_revT_len, e8]
      exact hj
    repeat (first | refine yK ?_ | (refine gO ?_; first | refine yP ?_ | (refine gB ?_; (refine sy_ov (ov_ar rfl rfl rfl ?_ ?_) rfl rfl ?_; omega; omega)) | (refine gK ?_; refine sy_ov (ov_lens rfl) rfl rfl ?_) | (refine gS ?_; refine yS 0 ?_) | (refine yA ?_; intro _)))
    refine sy_ov (ov_slHi rfl rfl (by omega) (by omega)) rfl rfl ?_
    rw [hix]
    refine sy_pop 1 rfl (flat_revT _ T) (flat_revT_len T) (Nat.le_succ _) ?_
    simp only [List.set_cons_zero, List.set_cons_succ]
    repeat (first | refine yK ?_ | (refine gO ?_; first | refine yP ?_ | (refine gL ?_; refine yL 0 ?_) | refine yF ?_ | refine yB ?_) | refine yT ?_)
    refine sy_buildSlice rfl rfl rfl rfl rfl rfl rfl rfl ?_
    intro nb
    refine sy_append 3 0 rfl rfl rfl rfl rfl rfl rfl rfl rfl rfl rfl (by omega) (by show (_ + 1) * 48 ≤ _; omega) ?_
    intro p' q'
    refine sy_vecIsF (n' := (O ++ [(⟨6, 0, i, g0, []⟩ : PieT)]).length) (cs' := (O ++ [(⟨6, 0, i, g0, []⟩ : PieT)]).flatMap pieV) 3 rfl (by simp) (flat_snocP O (⟨6, 0, i, g0, []⟩ : PieT)).symm ?_
    simp only [List.set_cons_zero, List.set_cons_succ]
    repeat (first | refine yK ?_ | (refine gO ?_; refine yP ?_))
    have hw1 : wgtTs (.shut i g0 :: T) = 1 + wgtTs T := by simp [wgtTs, wgtT]
    refine sy_back ⟨T, O ++ [⟨6, 0, i, g0, []⟩], gr, some ⟨g, 0, none⟩, q, some p', q'⟩ ⟨?_, fun t ht => hok t (List.mem_cons_of_mem _ ht), fun d i hd => hdocs d i (List.mem_cons_of_mem _ hd), hg0, ?_⟩ (by dsimp only; omega) ⟨⟨_, rfl, rfl⟩, ⟨_, rfl, by simp⟩, ⟨_, rfl, rfl⟩, ⟨_, rfl, rfl⟩, trivial⟩ (sd (sd (List.Sublist.refl _)))
    · rw [← hres]; simp [pcsT]
    · simp only [List.length_append, List.length_cons, List.length_nil]; omega
   | doc d i =>
    obtain ⟨k, n, s, dp, dc, kids⟩ := d
    obtain ⟨hR, hi0, hi1⟩ := hok _ List.mem_cons_self
    have hkok := okT_kids (hok _ List.mem_cons_self)
    obtain ⟨hb, hs2, hkid⟩ := (hdocs _ _ List.mem_cons_self).parts
    have hm : kids.length ≤ 9223372036854775807 := hb
    have hst : St (fun _ => False) w (fun w => IsSl w 4 dp kids.length (kids.flatMap docV)) := St.start (IsSl.bl _ _ _ _) hs2
    simp only [plD, rightD, Bool.and_eq_true] at hR
    have hn := ownD_n hR.1
    have hw1 : wgtTs (.doc (.mk k n s dp dc kids) i :: T) = 2 * (1 + s.length + blkDs (plDs kids)) + wgtTs T := by simp [wgtTs, wgtT, plD, blkD]
    have hkl : kids.length ≤ blkDs (plDs kids) := by have := blkDs_len (plDs kids); rwa [plDs_len] at this
    simp only [plD, blkD] at hi1
    by_cases h5 : k < 5
    · have hc := leaf_c k n s dp dc kids i (by omega)
      repeat (first | refine yK ?_ | (refine gO ?_; first | refine yP ?_ | (refine gB ?_; (refine sy_ov (ov_ar rfl rfl rfl ?_ ?_) rfl rfl ?_; omega; omega)) | (refine gK ?_; refine sy_ov (ov_lens rfl) rfl rfl ?_)) | refine yT ?_)
      refine sy_vecAddr 0 rfl (by simp) (fun g hg => ?_)
      subst hg
      refine sy_vecCap 0 rfl (fun hq => ?_)
      simp only [List.length_cons] at hTl hsum hq ⊢
      have hix : (((T.length + 1 : Nat) : Int) - 1).toNat = T.length := by omega
      repeat ((refine gO ?_; (refine sy_ov (ov_indexAddr rfl rfl ?_ ?_) rfl rfl ?_; omega; omega)))
      refine sy_ov (ov_loadva (vs := tskV (.doc (.mk k n s dp dc kids) i)) 0 rfl rfl rfl (tskV_len _) (fun j u hj => ?_)) rfl rfl ?_
      · have e8 : 0 + T.length * (Try.t41).size + j - T.length * 7 = j := by show 0 + T.length * 7 + j - T.length * 7 = j; omega
        rw [flat_revT, hix, List.getElem?_append_right (by rw [flat_revT_len]; show T.length * 7 ≤ 0 + T.length * 7 + j; omega), flat_revT_len, e8]
        exact hj
      repeat (first | refine yK ?_ | (refine gO ?_; first | refine yP ?_ | (refine gB ?_; (refine sy_ov (ov_ar rfl rfl rfl ?_ ?_) rfl rfl ?_; omega; omega)) | (refine gK ?_; refine sy_ov (ov_lens rfl) rfl rfl ?_) | (refine gS ?_; refine yS 0 ?_) | (refine yA ?_; intro _)))
      refine sy_ov (ov_slHi rfl rfl (by omega) (by omega)) rfl rfl ?_
      rw [hix]
      refine sy_pop 1 rfl (flat_revT _ T) (flat_revT_len T) (Nat.le_succ _) ?_
      simp only [List.set_cons_zero, List.set_cons_succ]
      repeat (first | refine yK ?_ | (refine gO ?_; first | refine yP ?_ | (refine gL ?_; refine yL 0 ?_) | refine yF ?_) | refine yT ?_ | refine yN ?_)
      refine sy_ov (ov_call rfl (fun w _ => hc w)) rfl rfl ?_
      refine sy_buildSlice rfl rfl rfl rfl rfl rfl rfl rfl ?_
      intro nb
      refine sy_append 3 0 rfl rfl rfl rfl rfl rfl rfl rfl rfl rfl rfl (by omega) (by show (_ + 1) * 48 ≤ _; omega) ?_
      intro p' q'
      refine sy_vecIsF (n' := (O ++ [(leafP k s i)]).length) (cs' := (O ++ [(leafP k s i)]).flatMap pieV) 3 rfl (by simp) (flat_snocP O (leafP k s i)).symm ?_
      simp only [List.set_cons_zero, List.set_cons_succ]
      repeat (first | refine yK ?_ | (refine gO ?_; refine yP ?_))
      refine sy_back ⟨T, O ++ [leafP k s i], gr, some ⟨g, 0, none⟩, q, some p', q'⟩ ⟨?_, fun t ht => hok t (List.mem_cons_of_mem _ ht), fun d i hd => hdocs d i (List.mem_cons_of_mem _ hd), hg0, ?_⟩ (by dsimp only; omega) ⟨⟨_, rfl, rfl⟩, ⟨_, rfl, by simp⟩, ⟨_, rfl, rfl⟩, ⟨_, rfl, rfl⟩, trivial⟩ (sd (sd (List.Sublist.refl _)))
      · rw [← hres, pcsT_leaf h5]; simp
      · simp only [List.length_append, List.length_cons, List.length_nil]; omega
    · by_cases h7 : k = 7
      · subst h7
        repeat (first | refine yK ?_ | (refine gO ?_; first | refine yP ?_ | (refine gB ?_; (refine sy_ov (ov_ar rfl rfl rfl ?_ ?_) rfl rfl ?_; omega; omega)) | (refine gK ?_; refine sy_ov (ov_lens rfl) rfl rfl ?_)) | refine yT ?_)
        refine sy_vecAddr 0 rfl (by simp) (fun g hg => ?_)
        subst hg
        refine sy_vecCap 0 rfl (fun hq => ?_)
        simp only [List.length_cons] at hTl hsum hq ⊢
        have hix : (((T.length + 1 : Nat) : Int) - 1).toNat = T.length := by omega
        repeat ((refine gO ?_; (refine sy_ov (ov_indexAddr rfl rfl ?_ ?_) rfl rfl ?_; omega; omega)))
        refine sy_ov (ov_loadva (vs := tskV (.doc (.mk 7 n s dp dc kids) i)) 0 rfl rfl rfl (tskV_len _) (fun j u hj => ?_)) rfl rfl ?_
        · have e8 : 0 + T.length * (Try.t41).size + j - T.length * 7 = j := by show 0 + T.length * 7 + j - T.length * 7 = j; omega
          rw [flat_revT, hix, List.getElem?_append_right (by rw [flat_revT_len]; show T.length * 7 ≤ 0 + T.length * 7 + j; omega), flat_revT_len, e8]
          exact hj
        repeat (first | refine yK ?_ | (refine gO ?_; first | refine yP ?_ | (refine gB ?_; (refine sy_ov (ov_ar rfl rfl rfl ?_ ?_) rfl rfl ?_; omega; omega)) | (refine gK ?_; refine sy_ov (ov_lens rfl) rfl rfl ?_) | (refine gS ?_; refine yS 0 ?_) | (refine yA ?_; intro _)))
        refine sy_ov (ov_slHi rfl rfl (by omega) (by omega)) rfl rfl ?_
        rw [hix]
        refine sy_pop 1 rfl (flat_revT _ T) (flat_revT_len T) (Nat.le_succ _) ?_
        simp only [List.set_cons_zero, List.set_cons_succ]
        repeat (first | refine yK ?_ | (refine gO ?_; first | refine yP ?_ | (refine gL ?_; refine yL 0 ?_) | refine yF ?_ | refine yB ?_) | refine yT ?_ | refine yN ?_)
        rename_i b7
        refine sy_buildSlice rfl rfl rfl rfl rfl rfl rfl rfl ?_
        intro nb
        refine sy_append 3 0 rfl rfl rfl rfl rfl rfl rfl rfl rfl rfl rfl (by omega) (by show (_ + 1) * 48 ≤ _; omega) ?_
        intro p' q'
        refine sy_vecIsF (n' := (O ++ [(⟨5, 0, i, gr, []⟩ : PieT)]).length) (cs' := (O ++ [(⟨5, 0, i, gr, []⟩ : PieT)]).flatMap pieV) 3 rfl (by simp) (flat_snocP O (⟨5, 0, i, gr, []⟩ : PieT)).symm ?_
        simp only [List.set_cons_zero, List.set_cons_succ]
        repeat (first | refine yK ?_ | (refine gO ?_; first | refine yP ?_ | (refine gL ?_; refine yL 1 ?_) | refine yF ?_ | refine yB ?_))
        refine sy_buildSlice rfl rfl rfl rfl rfl rfl rfl rfl ?_
        intro nb2
        refine sy_append 3 0 rfl rfl rfl rfl rfl rfl rfl rfl rfl rfl rfl (by omega) (by show (_ + 1) * 80 ≤ _; omega) ?_
        intro p3 q3
        refine sy_vecIsF (n' := ((TskT.shut i gr) :: T).length) (cs' := ((TskT.shut i gr) :: T).reverse.flatMap tskV) 3 rfl (by simp) (flat_revT ((TskT.shut i gr)) T).symm ?_
        simp only [List.set_cons_zero, List.set_cons_succ]
        repeat (first | refine yK ?_ | (refine gO ?_; first | refine yP ?_ | (refine gB ?_; (refine sy_ov (ov_ar rfl rfl rfl ?_ ?_) rfl rfl ?_; omega; omega)) | (refine gK ?_; refine sy_ov (ov_lens rfl) rfl rfl ?_) | (refine gL ?_; refine yL 2 ?_) | refine yF ?_))
        refine sy_weaken (fun _ _ h => h) (sd (sd (List.Sublist.refl _))) ?_
        have hkl3 : (kidT kids (i + n) ((kids.length : Int) - 1) ++ (TskT.shut i gr :: T)).length = T.length + 1 := by rw [kidT_none]; rfl
        refine sy_vecIsF (n' := (kidT kids (i + n) ((kids.length : Int) - 1) ++ (TskT.shut i gr :: T)).length) (cs' := (kidT kids (i + n) ((kids.length : Int) - 1) ++ (TskT.shut i gr :: T)).reverse.flatMap tskV) 1 rfl (by rw [kidT_none]; rfl) (by rw [kidT_none]; rfl) ?_
        simp only [List.set_cons_zero, List.set_cons_succ]
        refine sy_loop (α := Int × Option Addr × Nat) (fun a => [(1, .pointer (some ⟨bd, 0, none⟩)), (4, .slice ((some p')) ((O ++ [(⟨5, 0, i, gr, []⟩ : PieT)])).length q'), (5, .int .i64 (gr + 1)), (6, .slice a.2.1 (kidT kids (i + n) a.1 ++ (TskT.shut i gr :: T)).length a.2.2), (7, .pointer (some ⟨b7, 0, none⟩)), (8, .int .i64 a.1)])
         (fun a => [blk b7 41 (tskV (.doc (.mk 7 n s dp dc kids) i)), tskE a.2.1 a.2.2 (kidT kids (i + n) a.1 ++ (TskT.shut i gr :: T)), fitV ((some p')) q' ((O ++ [(⟨5, 0, i, gr, []⟩ : PieT)])), blk bd 24 (docV (.mk zk zn zs zp zc zkids))]) (fun a => -1 ≤ a.1 ∧ a.1 < kids.length) (fun a => (a.1 + 1).toNat) ((kids.length : Int) - 1, (some p3), q3) ⟨by dsimp only; omega, by dsimp only; omega⟩
         ⟨⟨_, rfl, rfl⟩, ⟨_, rfl, by simp⟩, ⟨_, rfl, rfl⟩, ⟨_, rfl, by rw [kidT_none]; rfl⟩, ⟨_, rfl, rfl⟩, ⟨_, rfl, rfl⟩, trivial⟩ (List.Sublist.refl _) ?_
        rintro ⟨j, pj, qj⟩ ⟨hj0, hj1⟩
        dsimp only at hj0 hj1 ⊢
        by_cases hj : 0 ≤ j
        · obtain ⟨x, hx⟩ : ∃ x, kids[j.toNat]? = some x := ⟨_, List.getElem?_eq_getElem (by omega)⟩
          obtain ⟨b, off, hp, hat⟩ := hst.addr (by omega)
          subst hp
          have hkl2 := kidT_len kids (i + n) j
          have hstep := kidT_step (i + n) hj hx
          obtain ⟨xk, xn, xs, xp, xc, xkids⟩ := x
          have hle : (kidT kids (i + n) j ++ (TskT.shut i gr :: T)).length ≤ 30000000 := by simp only [List.length_append, List.length_cons]; omega
          repeat (first | refine yK ?_ | (refine gO ?_; refine yP ?_) | refine yT ?_)
          refine sy_drawE _ 15 [(0, false), (1, false), (2, false), (3, false), (4, false), (5, false), (6, false), (7, false), (8, false), (9, false), (10, false), (11, false), (12, false), (13, false), (14, true)] (by kernel_rfl) rfl ((List.Sublist.refl _)) ?_
          repeat (first | refine dre_rd (fun _ _ => ov_p rfl) rfl ?_ | refine dre_rd (fun _ _ => ov_ld 0 rfl rfl rfl) rfl ?_ | refine dre_rd (fun _ _ => ov_fieldAddr rfl rfl rfl) rfl ?_ | (refine dre_rd (fun _ _ => ov_indexAddr rfl rfl ?_ ?_) rfl ?_; omega; omega))
          refine dre_rd (fun _ hC => ov_elem (f := docV) (hat.leF hC) hx rfl rfl docV_len) rfl ?_
          repeat (first | (refine dre_rd (fun _ _ => ov_ar rfl rfl rfl ?_ ?_) rfl ?_; omega; omega) | refine dre_rd (fun _ _ => ov_ld 0 rfl rfl rfl) rfl ?_ | refine dre_rd (fun _ _ => ov_fieldAddr rfl rfl rfl) rfl ?_ | refine dre_rd (fun _ _ => ov_build rfl rfl rfl) rfl ?_)
          refine dre_ef rfl ?_
          refine sy_buildSlice rfl rfl rfl rfl rfl rfl rfl rfl ?_
          intro nb2
          refine dre_ek (sd sr) ?_
          repeat (refine dre_end ?_)
          skip
          refine sy_append 2 0 rfl rfl rfl rfl rfl rfl rfl rfl rfl rfl rfl (by omega) (by show (_ + 1) * 80 ≤ _; omega) ?_
          intro p3 q3
          refine sy_vecIsF (n' := (kidT kids (i + n) (j - 1) ++ (TskT.shut i gr :: T)).length) (cs' := (kidT kids (i + n) (j - 1) ++ (TskT.shut i gr :: T)).reverse.flatMap tskV) 2 rfl (by rw [hstep]; simp) (by rw [hstep]; exact (flat_revT (.doc (.mk xk xn xs xp xc xkids) (i + n)) (kidT kids (i + n) j ++ (TskT.shut i gr :: T))).symm) ?_
          simp only [List.set_cons_zero, List.set_cons_succ]
          repeat (first | refine yK ?_ | (refine gO ?_; first | refine yP ?_ | (refine gB ?_; (refine sy_ov (ov_ar rfl rfl rfl ?_ ?_) rfl rfl ?_; omega; omega))))
          refine sy_back (j - 1, some p3, q3) ⟨by dsimp only; omega, by dsimp only; omega⟩ (by dsimp only; omega) ⟨⟨_, rfl, rfl⟩, ⟨_, rfl, rfl⟩, ⟨_, rfl, rfl⟩, ⟨_, rfl, by simp [hstep]⟩, ⟨_, rfl, rfl⟩, ⟨_, rfl, rfl⟩, trivial⟩ (sd (List.Sublist.refl _))
        · have hkj := kidT_all kids (i + n) (by omega : j < 0) hj0
          rw [hkj]
          repeat (first | refine yK ?_ | (refine gO ?_; refine yP ?_) | refine yN ?_)
          refine sy_back ⟨kids.map (fun d => .doc d (i + n)) ++ (.shut i gr :: T), O ++ [⟨5, 0, i, gr, []⟩], gr + 1, pj, qj, some p', q'⟩ ⟨?_, ?_, ?_, ?_, ?_⟩ ?_ ⟨⟨_, rfl, rfl⟩, ⟨_, rfl, rfl⟩, ⟨_, rfl, rfl⟩, ⟨_, rfl, rfl⟩, trivial⟩ (sd (List.Sublist.refl _))
          · rw [← hres, pcsT_group]; simp
          · intro t ht
            rcases List.mem_append.1 ht with ht | ht
            · obtain ⟨d, hd, rfl⟩ := List.mem_map.1 ht; exact hkok d hd
            · rcases List.mem_cons.1 ht with rfl | ht
              · exact ⟨hi0, by omega⟩
              · exact hok t (List.mem_cons_of_mem _ ht)
          · intro d i' hd
            rcases List.mem_append.1 hd with hd | hd
            · obtain ⟨d', hd', he⟩ := List.mem_map.1 hd
              injection he with he1 he2
              subst he1; exact hkid _ hd'
            · rcases List.mem_cons.1 hd with hd | hd
              · cases hd
              · exact hdocs d i' (List.mem_cons_of_mem _ hd)
          · dsimp only; omega
          · dsimp only
            have e3 : wgtTs (TskT.shut i gr :: T) = 1 + wgtTs T := by simp [wgtTs, wgtT]
            rw [wgt_app, wgt_docs, e3]; simp only [List.length_append, List.length_cons, List.length_nil]; omega
          · dsimp only
            have e3 : wgtTs (TskT.shut i gr :: T) = 1 + wgtTs T := by simp [wgtTs, wgtT]
            rw [wgt_app, wgt_docs, e3]; omega
      · repeat (first | refine yK ?_ | (refine gO ?_; first | refine yP ?_ | (refine gB ?_; (refine sy_ov (ov_ar rfl rfl rfl ?_ ?_) rfl rfl ?_; omega; omega)) | (refine gK ?_; refine sy_ov (ov_lens rfl) rfl rfl ?_)) | refine yT ?_)
        refine sy_vecAddr 0 rfl (by simp) (fun g hg => ?_)
        subst hg
        refine sy_vecCap 0 rfl (fun hq => ?_)
        simp only [List.length_cons] at hTl hsum hq ⊢
        have hix : (((T.length + 1 : Nat) : Int) - 1).toNat = T.length := by omega
        repeat ((refine gO ?_; (refine sy_ov (ov_indexAddr rfl rfl ?_ ?_) rfl rfl ?_; omega; omega)))
        refine sy_ov (ov_loadva (vs := tskV (.doc (.mk k n s dp dc kids) i)) 0 rfl rfl rfl (tskV_len _) (fun j u hj => ?_)) rfl rfl ?_
        · have e8 : 0 + T.length * (Try.t41).size + j - T.length * 7 = j := by show 0 + T.length * 7 + j - T.length * 7 = j; omega
          rw [flat_revT, hix, List.getElem?_append_right (by rw [flat_revT_len]; show T.length * 7 ≤ 0 + T.length * 7 + j; omega), flat_revT_len, e8]
          exact hj
        repeat (first | refine yK ?_ | (refine gO ?_; first | refine yP ?_ | (refine gB ?_; (refine sy_ov (ov_ar rfl rfl rfl ?_ ?_) rfl rfl ?_; omega; omega)) | (refine gK ?_; refine sy_ov (ov_lens rfl) rfl rfl ?_) | (refine gS ?_; refine yS 0 ?_) | (refine yA ?_; intro _)))
        refine sy_ov (ov_slHi rfl rfl (by omega) (by omega)) rfl rfl ?_
        rw [hix]
        refine sy_pop 1 rfl (flat_revT _ T) (flat_revT_len T) (Nat.le_succ _) ?_
        simp only [List.set_cons_zero, List.set_cons_succ]
        repeat (first | refine yK ?_ | (refine gO ?_; first | refine yP ?_ | (refine gB ?_; (refine sy_ov (ov_ar rfl rfl rfl ?_ ?_) rfl rfl ?_; omega; omega)) | (refine gK ?_; refine sy_ov (ov_lens rfl) rfl rfl ?_) | (refine gL ?_; refine yL 0 ?_) | refine yF ?_) | refine yN ?_)
        rename_i b7
        refine sy_vecIsF (n' := (kidT kids (i + n) ((kids.length : Int) - 1) ++ T).length) (cs' := (kidT kids (i + n) ((kids.length : Int) - 1) ++ T).reverse.flatMap tskV) 1 rfl (by rw [kidT_none]; rfl) (by rw [kidT_none]; rfl) ?_
        simp only [List.set_cons_zero, List.set_cons_succ]
        refine sy_loop (α := Int × Option Addr × Nat) (fun a => [(1, .pointer (some ⟨bd, 0, none⟩)), (4, .slice (po) (O).length qo), (5, .int .i64 (gr)), (6, .slice a.2.1 (kidT kids (i + n) a.1 ++ T).length a.2.2), (7, .pointer (some ⟨b7, 0, none⟩)), (8, .int .i64 a.1)])
         (fun a => [blk b7 41 (tskV (.doc (.mk k n s dp dc kids) i)), tskE a.2.1 a.2.2 (kidT kids (i + n) a.1 ++ T), fitV (po) qo (O), blk bd 24 (docV (.mk zk zn zs zp zc zkids))]) (fun a => -1 ≤ a.1 ∧ a.1 < kids.length) (fun a => (a.1 + 1).toNat) ((kids.length : Int) - 1, (some ⟨g, 0, none⟩), q) ⟨by dsimp only; omega, by dsimp only; omega⟩
         ⟨⟨_, rfl, rfl⟩, ⟨_, rfl, by simp⟩, ⟨_, rfl, rfl⟩, ⟨_, rfl, by rw [kidT_none]; rfl⟩, ⟨_, rfl, rfl⟩, ⟨_, rfl, rfl⟩, trivial⟩ (List.Sublist.refl _) ?_
        rintro ⟨j, pj, qj⟩ ⟨hj0, hj1⟩
        dsimp only at hj0 hj1 ⊢
        by_cases hj : 0 ≤ j
        · obtain ⟨x, hx⟩ : ∃ x, kids[j.toNat]? = some x := ⟨_, List.getElem?_eq_getElem (by omega)⟩
          obtain ⟨b, off, hp, hat⟩ := hst.addr (by omega)
          subst hp
          have hkl2 := kidT_len kids (i + n) j
          have hstep := kidT_step (i + n) hj hx
          obtain ⟨xk, xn, xs, xp, xc, xkids⟩ := x
          have hle : (kidT kids (i + n) j ++ T).length ≤ 30000000 := by simp only [List.length_append, List.length_cons]; omega
          repeat (first | refine yK ?_ | (refine gO ?_; refine yP ?_) | refine yT ?_)
          refine sy_drawE _ 15 [(0, false), (1, false), (2, false), (3, false), (4, false), (5, false), (6, false), (7, false), (8, false), (9, false), (10, false), (11, false), (12, false), (13, false), (14, true)] (by kernel_rfl) rfl ((List.Sublist.refl _)) ?_
          repeat (first | refine dre_rd (fun _ _ => ov_p rfl) rfl ?_ | refine dre_rd (fun _ _ => ov_ld 0 rfl rfl rfl) rfl ?_ | refine dre_rd (fun _ _ => ov_fieldAddr rfl rfl rfl) rfl ?_ | (refine dre_rd (fun _ _ => ov_indexAddr rfl rfl ?_ ?_) rfl ?_; omega; omega))
          refine dre_rd (fun _ hC => ov_elem (f := docV) (hat.leF hC) hx rfl rfl docV_len) rfl ?_
          repeat (first | (refine dre_rd (fun _ _ => ov_ar rfl rfl rfl ?_ ?_) rfl ?_; omega; omega) | refine dre_rd (fun _ _ => ov_ld 0 rfl rfl rfl) rfl ?_ | refine dre_rd (fun _ _ => ov_fieldAddr rfl rfl rfl) rfl ?_ | refine dre_rd (fun _ _ => ov_build rfl rfl rfl) rfl ?_)
          refine dre_ef rfl ?_
          refine sy_buildSlice rfl rfl rfl rfl rfl rfl rfl rfl ?_
          intro nb2
          refine dre_ek (sd sr) ?_
          repeat (refine dre_end ?_)
          skip
          refine sy_append 2 0 rfl rfl rfl rfl rfl rfl rfl rfl rfl rfl rfl (by omega) (by show (_ + 1) * 80 ≤ _; omega) ?_
          intro p3 q3
          refine sy_vecIsF (n' := (kidT kids (i + n) (j - 1) ++ T).length) (cs' := (kidT kids (i + n) (j - 1) ++ T).reverse.flatMap tskV) 2 rfl (by rw [hstep]; simp) (by rw [hstep]; exact (flat_revT (.doc (.mk xk xn xs xp xc xkids) (i + n)) (kidT kids (i + n) j ++ T)).symm) ?_
          simp only [List.set_cons_zero, List.set_cons_succ]
          repeat (first | refine yK ?_ | (refine gO ?_; first | refine yP ?_ | (refine gB ?_; (refine sy_ov (ov_ar rfl rfl rfl ?_ ?_) rfl rfl ?_; omega; omega))))
          refine sy_back (j - 1, some p3, q3) ⟨by dsimp only; omega, by dsimp only; omega⟩ (by dsimp only; omega) ⟨⟨_, rfl, rfl⟩, ⟨_, rfl, rfl⟩, ⟨_, rfl, rfl⟩, ⟨_, rfl, by simp [hstep]⟩, ⟨_, rfl, rfl⟩, ⟨_, rfl, rfl⟩, trivial⟩ (sd (List.Sublist.refl _))
        · have hkj := kidT_all kids (i + n) (by omega : j < 0) hj0
          rw [hkj]
          repeat (first | refine yK ?_ | (refine gO ?_; refine yP ?_) | refine yN ?_)
          refine sy_back ⟨kids.map (fun d => .doc d (i + n)) ++ T, O, gr, pj, qj, po, qo⟩ ⟨?_, ?_, ?_, hg0, ?_⟩ ?_ ⟨⟨_, rfl, rfl⟩, ⟨_, rfl, rfl⟩, ⟨_, rfl, rfl⟩, ⟨_, rfl, rfl⟩, trivial⟩ (sd (List.Sublist.refl _))
          · rw [← hres, pcsT_cat h5 h7]
          · intro t ht
            rcases List.mem_append.1 ht with ht | ht
            · obtain ⟨d, hd, rfl⟩ := List.mem_map.1 ht; exact hkok d hd
            · exact hok t (List.mem_cons_of_mem _ ht)
          · intro d i' hd
            rcases List.mem_append.1 hd with hd | hd
            · obtain ⟨d', hd', he⟩ := List.mem_map.1 hd
              injection he with he1 he2
              subst he1; exact hkid _ hd'
            · exact hdocs d i' (List.mem_cons_of_mem _ hd)
          · dsimp only
            rw [wgt_app, wgt_docs]; omega
          · dsimp only
            rw [wgt_app, wgt_docs]; omega
end Go.Proofs.Ytkaeihlpdceokaa