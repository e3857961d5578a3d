/- Contract: the pieces of a document, by the document. -/
import Derived.Test.YtkaeihlpdceokaaFit3Q
import Derived.Test.YtkaeihlpdceokaaBSF
set_option linter.unusedVariables false
set_option linter.unusedSimpArgs false
namespace Go.Proofs.Ytkaeihlpdceokaa
open Go.RowKit Bf
section
variable {P : Program} {C : Cx} {k : List It} {fr : Fr} {hp : List En} {all : Array Oper} {l : List Oper} {dst : Option Tmp} {ty : TypeId} {pos : String} {aft : Array Edge}
theorem set_get {hp : List En} {i : Nat} {e : En} (hi : hp[i]? = some e) : hp.set i e = hp := by
 apply List.ext_getElem?
 intro j
 rw [List.getElem?_set]
 split
 · rename_i h; subst h; rw [if_pos (List.getElem?_eq_some_iff.1 hi).1, hi]
 · rfl
theorem sy_cellsF (i : Nat) {b : Nat} {e : TypeId} {cs : List Value} (cs' : List Value) (hi : hp[i]? = some (blk b e cs)) (hc : cs = cs') (h : Sy P C k fr (hp.set i (blk b e cs'))) : Sy P C k fr hp := by
 subst hc
 rwa [set_get hi] at h
theorem sy_appendW {t e : TypeId} {ti : TypeInfo} [hd : TU P t (.slice e)] [hti : TI P e ti] {x y : Operand} (i j : Nat) {z : Value} {n m c q : Nat} {po py : Option Addr} {e' : TypeId} {cs news : List Value} (hx : ev fr x = some (.slice po n q)) (hy : ev fr y = some (.slice py m c)) (hi : hp[i]? = some (vec e ti.size (.slice po n q) n cs)) (hj : hp[j]? = some (vec e' ti.size (.slice py m c) m news))
 (hz : ti.zero = some z) (hzs : Nat.beq (cl z).length ti.size = true) (hsz : Nat.blt 0 ti.size = true) (hl : news.length = m * ti.size) (h1 : oneAll news = true) (hf : Fits C.n dst)
 (h63 : n + m ≤ 9223372036854775807) (hbytes : (n + m) * ti.bytes ≤ 140737488355328)
 (hk : ∀ p q, Sy P C (.o all l :: k) (put dst (.slice p (n + m) q) fr) (hp.set i (vec e ti.size (.slice p (n + m) q) (n + m) (cs ++ news)))) :
 Sy P C (.o all (⟨dst, .call ⟨.builtin .append, ⟨[x, y]⟩, ⟨[t, t]⟩⟩, ty, pos, aft, none⟩ :: l) :: k) fr hp := by
 rcases Nat.eq_zero_or_pos m with h0 | hm
 · subst h0
   have hn : news = [] := List.eq_nil_of_length_eq_zero (by omega)
   subst hn
   refine sy_vecCap i hi (fun hnq => ?_)
   refine sy_op rfl fun a w ha hw => ?_
   have hsrc : Src P ti.size t (.slice py 0 c) 0 [] w := by
    cases py with
    | none => exact Src.ofNil w hd.h c
    | some b => exact Src.ofSlice w hd.h b 0 c [] (by simp) (fun j u hj => by simp at hj) (fun u hu => by cases hu)
   have hr := run_append_nothing (P := P) w t t ty e ti hd.h hti.h po n q hnq (.slice py 0 c) hsrc
   have hr' : (execOp a.eval ⟨dst, .call ⟨.builtin .append, ⟨[x, y]⟩, ⟨[t, t]⟩⟩, ty, pos, aft, none⟩).run P w = .ok (.value (.slice po n q)) w := by
    simp [execOp, ha.ev hx, ha.ev hy, resolve, invoke, builtin, hr]
   unfold Oper.wp; rw [hr']
   have := hk po q
   rw [Nat.add_zero, List.append_nil, set_get hi] at this
   exact this.go _ _ (ha.put hf _) hw
 · refine sy_vecAddr j hj hm (fun g hg => ?_)
   subst hg
   exact sy_appendV i j hx hy hi hj hz hzs hsz hl h1 hm hf h63 hbytes (fun p q => hk (some p) q)
end
def fitR (p : Option Addr) (q : Nat) (l : List PieT) : En := vec 34 5 (.slice p l.length q) l.length (l.flatMap pieV)
def PrP (z : DocA) (i g : Int) (u : Value) (es : List En) : Prop :=
 ∃ p q, u = .tuple #[.slice p (pcsD (plD z) i g).1.length q, .int .i64 (pcsD (plD z) i g).2] ∧ es = [fitR p q (pcsD (plD z) i g).1]
theorem pieV_len : ∀ t, (pieV t).length = 5 := fun _ => rfl
theorem oneP : ∀ (l : List PieT), oneAll (l.flatMap pieV) = true
 | [] => rfl
 | x :: l => by
  have ih := oneP l
  simp only [List.flatMap_cons, pieV, List.cons_append, List.nil_append, oneAll, ih, Bool.and_true]
  rfl
theorem pcsDs_app : ∀ (a b : List DocP) (i g : Int), pcsDs (a ++ b) i g = ((pcsDs a i g).1 ++ (pcsDs b i (pcsDs a i g).2).1, (pcsDs b i (pcsDs a i g).2).2)
 | [], b, i, g => by simp [pcsDs]
 | x :: a, b, i, g => by simp [pcsDs, pcsDs_app a b]
mutual
theorem pcsD_bd : ∀ (x : DocP) (i g : Int), (pcsD x i g).1.length ≤ 2 * blkD x ∧ g ≤ (pcsD x i g).2 ∧ (pcsD x i g).2 ≤ g + blkD x
 | .mk k n s l, i, g => by
  have h1 := pcsDs_bd l (i + n) (g + 1)
  have h2 := pcsDs_bd l (i + n) g
  simp only [pcsD, blkD]
  split
  · simp only [List.length_cons, List.length_nil]; omega
  · split
    · simp only [List.length_cons, List.length_append, List.length_nil]; omega
    · omega
theorem pcsDs_bd : ∀ (l : List DocP) (i g : Int), (pcsDs l i g).1.length ≤ 2 * blkDs l ∧ g ≤ (pcsDs l i g).2 ∧ (pcsDs l i g).2 ≤ g + blkDs l
 | [], i, g => by simp [pcsDs, blkDs]
 | x :: l, i, g => by
  have h1 := pcsD_bd x i g
  have h2 := pcsDs_bd l i (pcsD x i g).2
  simp only [pcsDs, blkDs, List.length_append]; omega
end
def headP (k i g : Int) : List PieT := if k = 7 then [⟨5, 0, i, g, []⟩] else []
def tailP (k i g : Int) : List PieT := if k = 7 then [⟨6, 0, i, g, []⟩] else []
def hop (k g : Int) : Int := if k = 7 then g + 1 else g
theorem pcsD_cat {k n : Int} {s : List UInt8} {l : List DocP} (h : ¬ k < 5) (i g : Int) : pcsD (.mk k n s l) i g = (headP k i g ++ (pcsDs l (i + n) (hop k g)).1 ++ tailP k i g, (pcsDs l (i + n) (hop k g)).2) := by
 simp only [pcsD, h, if_false, headP, tailP, hop]
 split <;> simp
structure RfA where
 i : Int
 g : Int
 L : List PieT
 p : Option Addr
 q : Nat
set_option maxRecDepth 20000 in
set_option maxHeartbeats 8000000 in
theorem rpieces_c : ∀ (m : Nat) (z : DocA), SizeOf.sizeOf z ≤ m → ∀ (i g : Int), rightD (plD z) = true → blkD (plD z) ≤ 2000000 → 0 ≤ i → i + 16 * (blkD (plD z) : Int) ≤ 4611686018427387904 → 0 ≤ g → g + blkD (plD z) ≤ 4611686018427387904 → ∀ (w : World), DocJ w z →
 Calls Try.prog 8 #[.agg ⟨docV z⟩, .int .i64 i, .int .i64 g] w (PostN w (PrP z i g)) := by
 intro m
 induction m with
 | zero => intro z hz; cases z; simp at hz
 | succ m ih =>
  intro z hz i g hR hB hi0 hi1 hg0 hg1 w hw0
  obtain ⟨k, n, s, p, c, kids⟩ := z
  obtain ⟨hb, hs2, hkid⟩ := hw0.parts
  have hm : kids.length ≤ 9223372036854775807 := hb
  have hst : St (fun _ => False) w (fun w => IsSl w 4 p kids.length (kids.flatMap docV)) := St.start (IsSl.bl _ _ _ _) hs2
  have hstk : ∀ x ∈ kids, St (fun _ => False) w (fun w => DocJ w x) := fun x hx => St.start (DocJ.bl _) (hkid x hx)
  simp only [plD, blkD] at hB hi1 hg1
  simp only [plD, rightD, Bool.and_eq_true, plDs_len] at hR
  obtain ⟨hown, hkr⟩ := hR
  have hn := ownD_n hown
  have hk := ownD_k hown
  by_cases k5 : k < 5
  · rw [show PrP (.mk k n s p c kids) i g = fun u es => ∃ p q, u = .tuple #[.slice p [leafP k s i].length q, .int .i64 g] ∧ es = [fitR p q [leafP k s i]] by funext u es; simp [PrP, plD, pcsD, k5]]
    by_cases k1 : k = 1
    · obtain ⟨W, hW⟩ : ∃ W, widthL s = W := ⟨_, rfl⟩
      rw [show leafP k s i = ⟨k, W, i, 0, s⟩ by simp [leafP, k1, hW]]
      have hwc := rwidth_c _ (s) W (Nat.le_refl _) hW (by first | omega | decide)
      refine sy_enter rfl rfl ?_
      simp only [initFr]
      repeat (first | refine yK ?_ | (refine gO ?_; first | refine yP ?_ | (refine gL ?_; refine yL 0 ?_) | refine yF ?_ | (refine sy_box rfl rfl rfl ?_; intro _)) | refine yT ?_)
      rename_i b3
      refine sy_drawE _ 10 [(0, false), (1, false), (2, false), (3, false), (4, false), (5, false), (6, false), (7, false), (8, false), (9, true)] (by kernel_rfl) rfl ((List.Sublist.refl _)) ?_
      repeat (first | refine dre_rd (fun _ _ => ov_p rfl) rfl ?_ | refine dre_rd (fun _ _ => ov_ld 0 rfl rfl rfl) rfl ?_ | refine dre_rd (fun _ _ => ov_fieldAddr rfl rfl rfl) rfl ?_)
      refine dre_rd (fun _ _ => ov_call rfl (fun w _ => hwc w)) rfl ?_
      repeat (refine dre_rd (fun _ _ => ov_build rfl rfl rfl) rfl ?_)
      refine dre_ef rfl ?_
      refine yA ?_
      intro b8
      refine dre_ek (sd (List.Sublist.refl _)) ?_
      repeat (refine dre_end ?_)
      repeat (first | refine yK ?_ | (refine gO ?_; first | refine yP ?_ | (refine gL ?_; first | refine yL 0 ?_ | refine yL 1 ?_) | (refine gS ?_; refine yS 0 ?_) | refine yF ?_) | refine yN ?_)
      refine sy_buildSlice rfl rfl rfl rfl rfl rfl rfl rfl ?_
      intro nb
      refine sy_cellsF 0 (pieV ⟨k, W, i, 0, s⟩) rfl rfl ?_
      simp only [List.set_cons_zero]
      refine sy_blkVec (size := 5) (m := 1) 0 rfl (by decide) rfl ?_
      refine sy_vecIsF (n' := [(⟨k, W, i, 0, s⟩ : PieT)].length) (cs' := [(⟨k, W, i, 0, s⟩ : PieT)].flatMap pieV) 0 rfl rfl rfl ?_
      repeat (first | refine yK ?_ | (refine gO ?_; refine yP ?_) | refine sy_rt ?_)
      exact ret2w rfl rfl rfl fun w' hw' => ⟨_, _, ⟨_, _, rfl, rfl⟩, rfl, hw'.weaken (sk (List.nil_sublist _))⟩
    · have hs : s = [] := ownD_s hown k1
      subst hs
      obtain ⟨W, hW⟩ : ∃ W, widthL [] = W := ⟨_, rfl⟩
      have hW0 : W = 0 := by rw [← hW, widthL_nil]
      by_cases k2 : k = 2
      · rw [show leafP k [] i = ⟨k, 1, i, 0, []⟩ by simp [leafP, k2]]
        have hwc := rwidth_c _ (([] : List UInt8)) W (Nat.le_refl _) hW (by first | omega | decide)
        refine sy_enter rfl rfl ?_
        simp only [initFr]
        repeat (first | refine yK ?_ | (refine gO ?_; first | refine yP ?_ | (refine gL ?_; refine yL 0 ?_) | refine yF ?_ | (refine sy_box rfl rfl rfl ?_; intro _)) | refine yT ?_)
        rename_i b3
        refine sy_drawE _ 10 [(0, false), (1, false), (2, false), (3, false), (4, false), (5, false), (6, false), (7, false), (8, false), (9, true)] (by kernel_rfl) rfl ((List.Sublist.refl _)) ?_
        repeat (first | refine dre_rd (fun _ _ => ov_p rfl) rfl ?_ | refine dre_rd (fun _ _ => ov_ld 0 rfl rfl rfl) rfl ?_ | refine dre_rd (fun _ _ => ov_fieldAddr rfl rfl rfl) rfl ?_)
        refine dre_rd (fun _ _ => ov_call rfl (fun w _ => hwc w)) rfl ?_
        repeat (refine dre_rd (fun _ _ => ov_build rfl rfl rfl) rfl ?_)
        refine dre_ef rfl ?_
        refine yA ?_
        intro b8
        refine dre_ek (sd (List.Sublist.refl _)) ?_
        repeat (refine dre_end ?_)
        repeat (first | refine yK ?_ | (refine gO ?_; first | refine yP ?_ | (refine gL ?_; first | refine yL 0 ?_ | refine yL 1 ?_) | (refine gS ?_; refine yS 0 ?_) | refine yF ?_) | refine yT ?_)
        refine sy_buildSlice rfl rfl rfl rfl rfl rfl rfl rfl ?_
        intro nb
        refine sy_cellsF 0 (pieV ⟨k, 1, i, 0, ([] : List UInt8)⟩) rfl rfl ?_
        simp only [List.set_cons_zero]
        refine sy_blkVec (size := 5) (m := 1) 0 rfl (by decide) rfl ?_
        refine sy_vecIsF (n' := [(⟨k, 1, i, 0, ([] : List UInt8)⟩ : PieT)].length) (cs' := [(⟨k, 1, i, 0, ([] : List UInt8)⟩ : PieT)].flatMap pieV) 0 rfl rfl rfl ?_
        repeat (first | refine yK ?_ | (refine gO ?_; refine yP ?_) | refine sy_rt ?_)
        exact ret2w rfl rfl rfl fun w' hw' => ⟨_, _, ⟨_, _, rfl, rfl⟩, rfl, hw'.weaken (sk (List.nil_sublist _))⟩
      · rw [show leafP k [] i = ⟨k, W, i, 0, []⟩ by simp [leafP, k1, k2, hW0]]
        have hwc := rwidth_c _ (([] : List UInt8)) W (Nat.le_refl _) hW (by first | omega | decide)
        refine sy_enter rfl rfl ?_
        simp only [initFr]
        repeat (first | refine yK ?_ | (refine gO ?_; first | refine yP ?_ | (refine gL ?_; refine yL 0 ?_) | refine yF ?_ | (refine sy_box rfl rfl rfl ?_; intro _)) | refine yT ?_)
        rename_i b3
        refine sy_drawE _ 10 [(0, false), (1, false), (2, false), (3, false), (4, false), (5, false), (6, false), (7, false), (8, false), (9, true)] (by kernel_rfl) rfl ((List.Sublist.refl _)) ?_
        repeat (first | refine dre_rd (fun _ _ => ov_p rfl) rfl ?_ | refine dre_rd (fun _ _ => ov_ld 0 rfl rfl rfl) rfl ?_ | refine dre_rd (fun _ _ => ov_fieldAddr rfl rfl rfl) rfl ?_)
        refine dre_rd (fun _ _ => ov_call rfl (fun w _ => hwc w)) rfl ?_
        repeat (refine dre_rd (fun _ _ => ov_build rfl rfl rfl) rfl ?_)
        refine dre_ef rfl ?_
        refine yA ?_
        intro b8
        refine dre_ek (sd (List.Sublist.refl _)) ?_
        repeat (refine dre_end ?_)
        repeat (first | refine yK ?_ | (refine gO ?_; first | refine yP ?_ | (refine gL ?_; first | refine yL 0 ?_ | refine yL 1 ?_) | (refine gS ?_; refine yS 0 ?_) | refine yF ?_) | refine yN ?_)
        refine sy_buildSlice rfl rfl rfl rfl rfl rfl rfl rfl ?_
        intro nb
        refine sy_cellsF 0 (pieV ⟨k, W, i, 0, ([] : List UInt8)⟩) rfl rfl ?_
        simp only [List.set_cons_zero]
        refine sy_blkVec (size := 5) (m := 1) 0 rfl (by decide) rfl ?_
        refine sy_vecIsF (n' := [(⟨k, W, i, 0, ([] : List UInt8)⟩ : PieT)].length) (cs' := [(⟨k, W, i, 0, ([] : List UInt8)⟩ : PieT)].flatMap pieV) 0 rfl rfl rfl ?_
        repeat (first | refine yK ?_ | (refine gO ?_; refine yP ?_) | refine sy_rt ?_)
        exact ret2w rfl rfl rfl fun w' hw' => ⟨_, _, ⟨_, _, rfl, rfl⟩, rfl, hw'.weaken (sk (List.nil_sublist _))⟩
  · have hcat := pcsD_cat (n := n) (s := s) (l := plDs kids) k5 i g
    rw [show PrP (.mk k n s p c kids) i g = fun u es => ∃ p q, u = .tuple #[.slice p (headP k i g ++ (pcsDs (plDs kids) (i + n) (hop k g)).1 ++ tailP k i g).length q, .int .i64 (pcsDs (plDs kids) (i + n) (hop k g)).2] ∧ es = [fitR p q (headP k i g ++ (pcsDs (plDs kids) (i + n) (hop k g)).1 ++ tailP k i g)] by funext u es; simp only [PrP, plD, hcat]]
    have hkb := blkDs_len (plDs kids)
    rw [plDs_len] at hkb
    by_cases h7 : k = 7
    · have e1 : headP k i g = [⟨5, 0, i, g, []⟩] := if_pos h7
      have e2 : tailP k i g = [⟨6, 0, i, g, []⟩] := if_pos h7
      have e3 : hop k g = g + 1 := if_pos h7
      rw [e1, e2, e3]
      refine sy_enter rfl rfl ?_
      simp only [initFr]
      repeat (first | refine yK ?_ | (refine gO ?_; first | refine yP ?_ | (refine gL ?_; refine yL 0 ?_) | refine yF ?_ | refine yB ?_ | (refine sy_box rfl rfl rfl ?_; intro _)) | refine yT ?_ | refine yN ?_)
      rename_i b3
      refine sy_grow 34 5 ?_
      refine sy_buildSlice rfl rfl rfl rfl rfl rfl rfl rfl ?_
      intro nb
      refine sy_append 1 0 rfl rfl rfl rfl rfl rfl rfl rfl rfl rfl rfl (by omega) (by show (_ + 1) * 48 ≤ _; omega) ?_
      intro p4 q4
      refine sy_vecIsF (n' := [(⟨5, 0, i, g, []⟩ : PieT)].length) (cs' := [(⟨5, 0, i, g, []⟩ : PieT)].flatMap pieV) 1 rfl rfl rfl ?_
      simp only [List.set_cons_zero, List.set_cons_succ]
      repeat (first | refine yK ?_ | (refine gO ?_; first | refine yP ?_ | (refine gB ?_; (refine sy_ov (ov_ar rfl rfl rfl ?_ ?_) rfl rfl ?_; omega; omega))))
      refine sy_loop (α := RfA) (fun a => [(1, .int .i64 i), (2, .int .i64 a.g), (3, .pointer (some ⟨b3, 0, none⟩)), (9, .slice a.p a.L.length a.q), (10, .int .i64 g), (11, .int .i64 a.i)]) (fun a => [fitR a.p a.q a.L, blk b3 24 (docV (.mk k n s p c kids))])
       (fun a => 0 ≤ a.i ∧ a.i ≤ kids.length ∧ a.L = [(⟨5, 0, i, g, []⟩ : PieT)] ++ (pcsDs ((plDs kids).take a.i.toNat) (i + n) (g + 1)).1 ∧ a.g = (pcsDs ((plDs kids).take a.i.toNat) (i + n) (g + 1)).2) (fun a => (kids.length - a.i).toNat) ⟨0, g + 1, [(⟨5, 0, i, g, []⟩ : PieT)], (some p4), q4⟩ ⟨by dsimp only; omega, by dsimp only; omega, by simp [pcsDs], by simp [pcsDs]⟩ ⟨⟨_, rfl, rfl⟩, ⟨_, rfl, rfl⟩, ⟨_, rfl, rfl⟩, ⟨_, rfl, rfl⟩, ⟨_, rfl, rfl⟩, ⟨_, rfl, rfl⟩, trivial⟩ (by first | exact List.Sublist.refl _ | exact sd (List.Sublist.refl _)) ?_
      rintro ⟨j, gj, L, pj, qj⟩ ⟨j0, j1, hL, hG⟩
      dsimp only at j0 j1 hL hG ⊢
      have htk := blkDs_take (plDs kids) j.toNat
      have hbd := pcsDs_bd ((plDs kids).take j.toNat) (i + n) (g + 1)
      have hLl : L.length ≤ 4000002 := by rw [hL, List.length_append]; simp only [List.length_cons, List.length_nil]; omega
      by_cases hlt : j < kids.length
      · obtain ⟨x, hx⟩ : ∃ x, kids[j.toNat]? = some x := ⟨_, List.getElem?_eq_getElem (by omega)⟩
        have hxm := List.mem_of_getElem? hx
        obtain ⟨b, off, hp, hat⟩ := hst.addr (by omega)
        subst hp
        have hsz := sizeD_kid (k := k) (n := n) (s := s) (p := some ⟨b, off, none⟩) (c := c) hxm
        have hpx := plDs_at hx
        have hxj := hstk _ hxm
        have hxB : blkD (plD x) ≤ blkDs (plDs kids) := blkDs_mem (plDs_mem hxm)
        have hj1 : (j + 1).toNat = j.toNat + 1 := by omega
        have hstep : pcsDs ((plDs kids).take (j + 1).toNat) (i + n) (g + 1) = ((pcsDs ((plDs kids).take j.toNat) (i + n) (g + 1)).1 ++ (pcsD (plD x) (i + n) gj).1, (pcsD (plD x) (i + n) gj).2) := by
         rw [hj1, take_snocD _ _ _ hpx, pcsDs_app, hG]; simp [pcsDs]
        have hgb : blkDs ((plDs kids).take j.toNat) + blkD (plD x) ≤ blkDs (plDs kids) := by
         have h1 := blkDs_take (plDs kids) (j.toNat + 1)
         rw [take_snocD _ _ _ hpx, blkDs_app] at h1
         simpa [blkDs] using h1
        have hrec := ih x (by omega) (i + n) gj (rightDs_mem hkr _ (plDs_mem hxm)) (by omega) (by omega) (by omega) (by omega) (by omega)
        have hxb := pcsD_bd (plD x) (i + n) gj
        repeat (first | refine yK ?_ | (refine gO ?_; first | refine yP ?_ | (refine gK ?_; refine sy_ov (ov_lens rfl) rfl rfl ?_) | (refine gL ?_; refine yL 1 ?_) | refine yF ?_) | refine yT ?_)
        refine sy_drawE _ 15 [(0, false), (1, false), (2, false), (3, false), (4, false), (5, false), (6, false), (7, false), (8, false), (9, false), (10, true), (11, false), (12, false), (13, false), (14, false)] (by kernel_rfl) rfl ((List.Sublist.refl _)) ?_
        repeat (first | refine dre_rd (fun _ _ => ov_p rfl) rfl ?_ | refine dre_rd (fun _ _ => ov_ld 1 rfl rfl rfl) rfl ?_ | refine dre_rd (fun _ _ => ov_fieldAddr rfl rfl rfl) rfl ?_ | (refine dre_rd (fun _ _ => ov_indexAddr rfl rfl ?_ ?_) rfl ?_; omega; omega))
        refine dre_rd (fun _ hC => ov_elem (f := docV) (hat.leF hC) hx rfl rfl docV_len) rfl ?_
        repeat (first | refine dre_rd (fun _ _ => ov_p rfl) rfl ?_ | (refine dre_rd (fun _ _ => ov_ar rfl rfl rfl ?_ ?_) rfl ?_; omega; omega) | refine dre_rd (fun _ _ => ov_ld 1 rfl rfl rfl) rfl ?_ | refine dre_rd (fun _ _ => ov_fieldAddr rfl rfl rfl) rfl ?_)
        obtain ⟨LX, hLX⟩ : ∃ LX, (pcsD (plD x) (i + n) gj).1 = LX := ⟨_, rfl⟩
        obtain ⟨GX, hGX⟩ : ∃ GX, (pcsD (plD x) (i + n) gj).2 = GX := ⟨_, rfl⟩
        rw [hLX, hGX] at hxb hstep
        rw [show PrP x (i + n) gj = fun u es => ∃ p q, u = .tuple #[.slice p LX.length q, .int .i64 GX] ∧ es = [fitR p q LX] by funext u es; simp only [PrP, hLX, hGX]] at hrec
        obtain ⟨xk, xn, xs, xp, xc, xkids⟩ := x
        refine dre_ef rfl ?_
        refine sy_callN rfl rfl (fun w hw => hrec w (hxj.at hw)) ?_
        rintro u es' ⟨p2, q2, rfl, rfl⟩
        simp only [List.cons_append, List.nil_append]
        refine dre_ek (sd (List.Sublist.refl _)) ?_
        repeat (first | refine dre_rd (fun _ _ => ov_p rfl) rfl ?_ | refine dre_end ?_)
        repeat (first | refine yK ?_ | (refine gO ?_; refine yP ?_))
        refine sy_appendW 1 0 rfl rfl rfl rfl rfl rfl rfl (flat_len pieV 5 pieV_len LX) (oneP LX) rfl (by omega) (by show (_ + _) * 48 ≤ _; omega) ?_
        intro p3 q3
        refine sy_vecIsF (n' := (L ++ LX).length) (cs' := (L ++ LX).flatMap pieV) 1 rfl (by simp) (by simp) ?_
        simp only [List.set_cons_zero, List.set_cons_succ]
        repeat (first | refine yK ?_ | (refine gO ?_; first | refine yP ?_ | (refine gB ?_; (refine sy_ov (ov_ar rfl rfl rfl ?_ ?_) rfl rfl ?_; omega; omega))))
        refine sy_back ⟨j + 1, GX, L ++ LX, p3, q3⟩ ⟨by dsimp only; omega, by dsimp only; omega, by dsimp only; rw [hstep, hL]; simp, by dsimp only; rw [hstep]⟩ (by dsimp only; omega) ⟨⟨_, rfl, rfl⟩, ⟨_, rfl, rfl⟩, ⟨_, rfl, rfl⟩, ⟨_, rfl, by simp⟩, ⟨_, rfl, rfl⟩, ⟨_, rfl, rfl⟩, trivial⟩ (sd (List.Sublist.refl _))
      have hall : (plDs kids).take j.toNat = plDs kids := by rw [List.take_of_length_le]; rw [plDs_len]; omega
      rw [hall] at hL hG
      repeat (first | refine yK ?_ | (refine gO ?_; first | refine yP ?_ | (refine gK ?_; refine sy_ov (ov_lens rfl) rfl rfl ?_) | (refine gL ?_; refine yL 1 ?_) | refine yF ?_ | refine yB ?_) | refine yT ?_ | refine yN ?_)
      refine sy_buildSlice rfl rfl rfl rfl rfl rfl rfl rfl ?_
      intro nb2
      refine sy_append 1 0 rfl rfl rfl rfl rfl rfl rfl rfl rfl rfl rfl (by omega) (by show (_ + 1) * 48 ≤ _; omega) ?_
      intro p5 q5
      refine sy_vecIsF (n' := (L ++ [(⟨6, 0, i, g, []⟩ : PieT)]).length) (cs' := (L ++ [(⟨6, 0, i, g, []⟩ : PieT)]).flatMap pieV) 1 rfl (by simp) (flat_snocP L (⟨6, 0, i, g, []⟩ : PieT)).symm ?_
      simp only [List.set_cons_zero, List.set_cons_succ]
      rw [← hL, ← hG]
      repeat (first | refine yK ?_ | (refine gO ?_; refine yP ?_) | refine sy_rt ?_)
      exact ret2w rfl rfl rfl fun w' hw' => ⟨_, _, ⟨_, _, rfl, rfl⟩, by simp, hw'.weaken (sd (sk (List.nil_sublist _)))⟩
    · have e1 : headP k i g = [] := if_neg h7
      have e2 : tailP k i g = [] := if_neg h7
      have e3 : hop k g = g := if_neg h7
      rw [e1, e2, e3]
      refine sy_enter rfl rfl ?_
      simp only [initFr]
      repeat (first | refine yK ?_ | (refine gO ?_; first | refine yP ?_ | (refine gL ?_; refine yL 0 ?_) | refine yF ?_ | (refine sy_box rfl rfl rfl ?_; intro _)) | refine yN ?_)
      rename_i b3
      refine sy_grow 34 5 ?_
      refine sy_loop (α := RfA) (fun a => [(1, .int .i64 i), (2, .int .i64 a.g), (3, .pointer (some ⟨b3, 0, none⟩)), (9, .slice a.p a.L.length a.q), (10, .int .i64 g), (11, .int .i64 a.i)]) (fun a => [fitR a.p a.q a.L, blk b3 24 (docV (.mk k n s p c kids))])
       (fun a => 0 ≤ a.i ∧ a.i ≤ kids.length ∧ a.L = ([] : List PieT) ++ (pcsDs ((plDs kids).take a.i.toNat) (i + n) (g)).1 ∧ a.g = (pcsDs ((plDs kids).take a.i.toNat) (i + n) (g)).2) (fun a => (kids.length - a.i).toNat) ⟨0, g, ([] : List PieT), none, 0⟩ ⟨by dsimp only; omega, by dsimp only; omega, by simp [pcsDs], by simp [pcsDs]⟩ ⟨⟨_, rfl, rfl⟩, ⟨_, rfl, rfl⟩, ⟨_, rfl, rfl⟩, ⟨_, rfl, rfl⟩, ⟨_, rfl, rfl⟩, ⟨_, rfl, rfl⟩, trivial⟩ (by first | exact List.Sublist.refl _ | exact sd (List.Sublist.refl _)) ?_
      rintro ⟨j, gj, L, pj, qj⟩ ⟨j0, j1, hL, hG⟩
      dsimp only at j0 j1 hL hG ⊢
      have htk := blkDs_take (plDs kids) j.toNat
      have hbd := pcsDs_bd ((plDs kids).take j.toNat) (i + n) (g)
      have hLl : L.length ≤ 4000002 := by rw [hL, List.length_append]; simp only [List.length_cons, List.length_nil]; omega
      by_cases hlt : j < kids.length
      · obtain ⟨x, hx⟩ : ∃ x, kids[j.toNat]? = some x := ⟨_, List.getElem?_eq_getElem (by omega)⟩
        have hxm := List.mem_of_getElem? hx
        obtain ⟨b, off, hp, hat⟩ := hst.addr (by omega)
        subst hp
        have hsz := sizeD_kid (k := k) (n := n) (s := s) (p := some ⟨b, off, none⟩) (c := c) hxm
        have hpx := plDs_at hx
        have hxj := hstk _ hxm
        have hxB : blkD (plD x) ≤ blkDs (plDs kids) := blkDs_mem (plDs_mem hxm)
        have hj1 : (j + 1).toNat = j.toNat + 1 := by omega
        have hstep : pcsDs ((plDs kids).take (j + 1).toNat) (i + n) (g) = ((pcsDs ((plDs kids).take j.toNat) (i + n) (g)).1 ++ (pcsD (plD x) (i + n) gj).1, (pcsD (plD x) (i + n) gj).2) := by
         rw [hj1, take_snocD _ _ _ hpx, pcsDs_app, hG]; simp [pcsDs]
        have hgb : blkDs ((plDs kids).take j.toNat) + blkD (plD x) ≤ blkDs (plDs kids) := by
         have h1 := blkDs_take (plDs kids) (j.toNat + 1)
         rw [take_snocD _ _ _ hpx, blkDs_app] at h1
         simpa [blkDs] using h1
        have hrec := ih x (by omega) (i + n) gj (rightDs_mem hkr _ (plDs_mem hxm)) (by omega) (by omega) (by omega) (by omega) (by omega)
        have hxb := pcsD_bd (plD x) (i + n) gj
        repeat (first | refine yK ?_ | (refine gO ?_; first | refine yP ?_ | (refine gK ?_; refine sy_ov (ov_lens rfl) rfl rfl ?_) | (refine gL ?_; refine yL 1 ?_) | refine yF ?_) | refine yT ?_)
        refine sy_drawE _ 15 [(0, false), (1, false), (2, false), (3, false), (4, false), (5, false), (6, false), (7, false), (8, false), (9, false), (10, true), (11, false), (12, false), (13, false), (14, false)] (by kernel_rfl) rfl ((List.Sublist.refl _)) ?_
        repeat (first | refine dre_rd (fun _ _ => ov_p rfl) rfl ?_ | refine dre_rd (fun _ _ => ov_ld 1 rfl rfl rfl) rfl ?_ | refine dre_rd (fun _ _ => ov_fieldAddr rfl rfl rfl) rfl ?_ | (refine dre_rd (fun _ _ => ov_indexAddr rfl rfl ?_ ?_) rfl ?_; omega; omega))
        refine dre_rd (fun _ hC => ov_elem (f := docV) (hat.leF hC) hx rfl rfl docV_len) rfl ?_
        repeat (first | refine dre_rd (fun _ _ => ov_p rfl) rfl ?_ | (refine dre_rd (fun _ _ => ov_ar rfl rfl rfl ?_ ?_) rfl ?_; omega; omega) | refine dre_rd (fun _ _ => ov_ld 1 rfl rfl rfl) rfl ?_ | refine dre_rd (fun _ _ => ov_fieldAddr rfl rfl rfl) rfl ?_)
        obtain ⟨LX, hLX⟩ : ∃ LX, (pcsD (plD x) (i + n) gj).1 = LX := ⟨_, rfl⟩
        obtain ⟨GX, hGX⟩ : ∃ GX, (pcsD (plD x) (i + n) gj).2 = GX := ⟨_, rfl⟩
        rw [hLX, hGX] at hxb hstep
        rw [show PrP x (i + n) gj = fun u es => ∃ p q, u = .tuple #[.slice p LX.length q, .int .i64 GX] ∧ es = [fitR p q LX] by funext u es; simp only [PrP, hLX, hGX]] at hrec
        obtain ⟨xk, xn, xs, xp, xc, xkids⟩ := x
        refine dre_ef rfl ?_
        refine sy_callN rfl rfl (fun w hw => hrec w (hxj.at hw)) ?_
        rintro u es' ⟨p2, q2, rfl, rfl⟩
        simp only [List.cons_append, List.nil_append]
        refine dre_ek (sd (List.Sublist.refl _)) ?_
        repeat (first | refine dre_rd (fun _ _ => ov_p rfl) rfl ?_ | refine dre_end ?_)
        repeat (first | refine yK ?_ | (refine gO ?_; refine yP ?_))
        refine sy_appendW 1 0 rfl rfl rfl rfl rfl rfl rfl (flat_len pieV 5 pieV_len LX) (oneP LX) rfl (by omega) (by show (_ + _) * 48 ≤ _; omega) ?_
        intro p3 q3
        refine sy_vecIsF (n' := (L ++ LX).length) (cs' := (L ++ LX).flatMap pieV) 1 rfl (by simp) (by simp) ?_
        simp only [List.set_cons_zero, List.set_cons_succ]
        repeat (first | refine yK ?_ | (refine gO ?_; first | refine yP ?_ | (refine gB ?_; (refine sy_ov (ov_ar rfl rfl rfl ?_ ?_) rfl rfl ?_; omega; omega))))
        refine sy_back ⟨j + 1, GX, L ++ LX, p3, q3⟩ ⟨by dsimp only; omega, by dsimp only; omega, by dsimp only; rw [hstep, hL]; simp, by dsimp only; rw [hstep]⟩ (by dsimp only; omega) ⟨⟨_, rfl, rfl⟩, ⟨_, rfl, rfl⟩, ⟨_, rfl, rfl⟩, ⟨_, rfl, by simp⟩, ⟨_, rfl, rfl⟩, ⟨_, rfl, rfl⟩, trivial⟩ (sd (List.Sublist.refl _))
      have hall : (plDs kids).take j.toNat = plDs kids := by rw [List.take_of_length_le]; rw [plDs_len]; omega
      rw [hall] at hL hG
      rw [List.nil_append] at hL
      rw [List.nil_append, List.append_nil, ← hL, ← hG]
      repeat (first | refine yK ?_ | (refine gO ?_; first | refine yP ?_ | (refine gK ?_; refine sy_ov (ov_lens rfl) rfl rfl ?_) | (refine gL ?_; refine yL 1 ?_) | refine yF ?_) | refine yN ?_ | refine sy_rt ?_)
      exact ret2w rfl rfl rfl fun w' hw' => ⟨_, _, ⟨_, _, rfl, rfl⟩, rfl, hw'.weaken (sk (List.nil_sublist _))⟩
end Go.Proofs.Ytkaeihlpdceokaa