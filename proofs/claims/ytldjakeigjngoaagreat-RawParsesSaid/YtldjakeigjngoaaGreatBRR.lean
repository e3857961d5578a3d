/- BRR: texts of this proof, joined by program: RefR, RefR2. -/
import Derived.Test.YtldjakeigjngoaaGreatBRP
import Derived.Test.YtldjakeigjngoaaGreatBST
import Derived.Test.YtldjakeigjngoaaGreatBRV
/- Contract: the rows of a list or a record, as the document reads them. -/
set_option linter.unusedVariables false
set_option linter.unusedSimpArgs false
namespace Go.Proofs.YtldjakeigjngoaaGreat
open Go.RowKit Bf
theorem HpOk.raw0 {D : Nat → Prop} {w0 w : World} {hp : List En} (h : HpOk D w0 hp w) (k a n : Int) (s : List UInt8) : HpOk D w0 (rawE [.mk k a n s none 0 [] none 0 []] :: hp) w :=
 HpOk.rawMk (e1 := 36) (e2 := 26) (pk := none) (ck := 0) (keys := []) (p := none) (c := 0) (kids := []) (((h.nothing (rawE []) (fun b hb => hb) (fun w z hz => by cases hz)).nil 26 6).nil 36 2)
def VSpec (d : Nat) : Prop := ∀ (g : Nat) (x : PS), x.Ok → 0 ≤ x.m → x.m ≤ 4096 → x.l.length ≤ 65537 → ∀ w : World, TkAt g x w → Calls Tryz.prog 24 #[.agg ⟨ptV g x⟩, .int .i64 (25 - d)] w (PostN w (RVP g x (valE d x)))
theorem PS.On.len65 {x y : PS} (h : x.On y) (hl : x.l.length ≤ 65537) : y.l.length ≤ 65537 := Nat.le_trans h.len hl
theorem rvp_el {g : Nat} {s : RwS} {d : Nat} {rec : Bool} {u : Value} {es : List En} (h : RVP g (elP s.x rec) (valE d (elP s.x rec)) u es) : ∃ z y, u = .tuple #[.agg ⟨rawV z⟩, .agg ⟨ptV g y⟩] ∧ es = [rawE [z]] ∧ ElOk s d rec z y := by
 obtain ⟨z, y, h1, h2, h3, h4, h5, h6, h7⟩ := h
 exact ⟨z, y, h1, h2, ⟨h3, h4, h5, h6, h7⟩⟩
theorem rowsR_map {k a : Int} {R : RR (List WordT × List RawP)} {r : List WordT × List RawP} {l' : List TokT} {m' : Int} (h : R = .ok r l' m') : (R.map fun r => RawP.mk k a 0 [] r.1 r.2) = .ok (.mk k a 0 [] r.1 r.2) l' m' := by rw [h]; rfl
def rrV (k a : Int) (s : RwS) : List Value := [.int .i64 k, .int .i64 a, .int .i64 0, S [], .slice s.pk s.ks.length s.ck, .slice s.p s.zs.length s.c]
def rrH (g b4 b5 b8 b9 : Nat) (k a : Int) (s : RwS) : List En :=
 [blk b5 26 (rrV k a s), blk b4 65 (ptV g s.x), vec 36 2 (.slice s.pk s.ks.length s.ck) s.ks.length (s.ks.flatMap wordV), vec 26 6 (.slice s.p s.zs.length s.c) s.zs.length (s.zs.flatMap rawV), rawE s.zs, blk b9 65 [.slice none 0 0, .int .i64 0, .int .i64 0, .int .i64 0], blk b8 26 z6]
theorem sy_vecIs {P : Program} {C : Cx} {k' : List It} {fr : Fr} {hp : List En} (i : Nat) {e : TypeId} {size n n' q : Nat} {p : Option Addr} {cs cs' : List Value} (hi : hp[i]? = some (vec e size (.slice p n q) n cs)) (hn : n = n') (hc : cs = cs') (h : Sy P C k' fr (hp.set i (vec e size (.slice p n' q) n' cs'))) : Sy P C k' fr hp := by
 subst hn
 subst hc
 rwa [show hp.set i (vec e size (.slice p n q) n cs) = hp from by
  apply List.ext_getElem?
  intro j
  rw [List.getElem?_set]
  split
  · rename_i h2; subst h2
    split
    · exact hi.symm
    · rename_i h3; rw [List.getElem?_eq_none (by omega)]
  · rfl] at h
set_option maxRecDepth 20000 in
set_option maxHeartbeats 8000000 in
theorem rrows_list (d : Nat) (hV : VSpec d) (g : Nat) (x0 : PS) (hx : x0.Ok) (h0 : x0.e = 0) (m0 : 0 ≤ x0.m) (m1 : x0.m ≤ 4096) (hl : x0.l.length ≤ 65537) (hd : d ≤ 24) (k a : Int) (w : World) (hT : TkAt g x0 w) :
 Calls Tryz.prog 50 #[.agg ⟨ptV g x0⟩, .agg ⟨rawV (.mk k a 0 [] none 0 [] none 0 [])⟩, S [93], .int .i64 (24 - d)] w (PostN w (RVP g x0 ((bodyR (valR d) false [93] x0.l x0.m).map fun r => RawP.mk k a 0 [] r.1 r.2))) := by
 have hst : St (fun _ => False) w (fun w => TkAt g x0 w) := St.start (TkAt.bl g x0) hT
 obtain ⟨R, hR⟩ : ∃ R, bodyR (valR d) false [93] x0.l x0.m = R := ⟨_, rfl⟩
 rw [hR]
 have hmay0 := fun w h => rp_may g x0 hx [93] w h
 have hd1 : (24 : Int) - d + 1 = 25 - d := by omega
 refine sy_enter rfl rfl ?_
 simp only [initFr]
 repeat (first | refine sy_k rfl rfl ?_ | (refine gO ?_; first | refine sy_ov (ov_p rfl) rfl rfl ?_ | (refine gL ?_; refine sy_ov (ov_ld 3 rfl rfl rfl) rfl rfl ?_) | (refine sy_box rfl rfl rfl ?_; intro _) | (refine sy_alloc rfl rfl rfl ?_; intro _)))
 refine sy_ov (ov_call rfl (fun w hw => hmay0 w (hst.at hw))) rfl rfl ?_
 by_cases hb0 : x0.mayB [93] = true
 · have hr0 : R = .ok ([], []) x0.adv.l x0.adv.m := by
    rw [← hR]; unfold bodyR; rw [if_pos (by rw [← mayB_ok h0]; exact hb0)]; rfl
   have hRV : RVP g x0 (R.map fun r => RawP.mk k a 0 [] r.1 r.2) (.tuple #[.agg ⟨rawV (.mk k a 0 [] none 0 [] none 0 [])⟩, .agg ⟨ptV g x0.adv⟩]) [rawE [.mk k a 0 [] none 0 [] none 0 []]] := by
    refine ⟨.mk k a 0 [] none 0 [] none 0 [], x0.adv, rfl, rfl, PS.On.adv x0, hx.adv (PS.mayB_hd hb0).2.2, m0, m1, ?_⟩
    rw [rowsR_map hr0]
    exact ⟨h0, rfl, rfl, rfl⟩
   rw [hb0, show x0.may [93] = x0.adv from if_pos hb0]
   repeat (first | refine sy_k rfl rfl ?_ | (refine gO ?_; first | refine sy_ov (ov_p rfl) rfl rfl ?_ | (refine gS ?_; refine sy_store 0 rfl rfl rfl rfl rfl rfl rfl rfl ?_) | (refine sy_alloc rfl rfl rfl ?_; intro _)) | (refine sy_cond_t rfl ?_ ?_; (first | with_reducible rfl | assumption | omega | (simp <;> first | omega | assumption))))
   refine sy_drawE _ 3 [(0, false), (1, false), (2, true)] (by kernel_rfl) rfl ((sk (sk (sd sr)))) ?_
   repeat (first | refine dre_rd (fun _ _ => ov_ld 0 rfl rfl rfl) rfl ?_ | refine dre_rd (fun _ _ => ov_ld 2 rfl rfl rfl) rfl ?_ | (refine dre_ef rfl ?_; refine sy_store 2 rfl rfl rfl rfl rfl rfl rfl rfl ?_; refine dre_ek (by repeat first | exact sr | apply sk | apply sd) ?_) | refine dre_end ?_)
   repeat (first | refine sy_k rfl rfl ?_ | (refine gO ?_; (refine gS ?_; refine sy_store 1 rfl rfl rfl rfl rfl rfl rfl rfl ?_)) | refine sy_rt ?_)
   exact ret_ccw 2 1 rfl rfl rfl rfl rfl rfl rfl rfl rfl fun w' hw' => ⟨_, _, hRV, rfl, (hw'.raw0 k a 0 []).weaken (sk (List.nil_sublist _))⟩
 have hb0 : x0.mayB [93] = false := by simpa using hb0
 rw [hb0, show x0.may [93] = x0 from if_neg (by rw [hb0]; decide)]
 have hR2 : rowsR (valR d) false [93] x0.l.length x0.l x0.m [] [] = R := by
  rw [← hR]; unfold bodyR; rw [if_neg (by rw [← mayB_ok h0, hb0]; decide)]
 repeat (first | refine sy_k rfl rfl ?_ | (refine gO ?_; first | refine sy_ov (ov_p rfl) rfl rfl ?_ | (refine gS ?_; refine sy_store 0 rfl rfl rfl rfl rfl rfl rfl rfl ?_) | (refine sy_alloc rfl rfl rfl ?_; intro _)) | (refine sy_cond_f rfl ?_ ?_; (first | with_reducible rfl | assumption | omega | (simp <;> first | omega | assumption))))
 rename_i b4 b5 b8 b9 hbx b10
 refine sy_rawNil ?_
 refine sy_grow 26 6 ?_
 refine sy_grow 36 2 ?_
 refine sy_order [6, 7, 0, 1, 2, 4, 5, 3] rfl rfl ?_
 simp only [List.set_cons_zero, List.set_cons_succ, List.filterMap_cons, List.filterMap_nil, List.getElem?_cons_zero, List.getElem?_cons_succ]
 refine sy_loop (α := RwS) (fun _ => [(2, S [93]), (3, .int .i64 (24 - d)), (4, .pointer (some ⟨b4, 0, none⟩)), (5, .pointer (some ⟨b5, 0, none⟩)), (8, .pointer (some ⟨b8, 0, none⟩)), (9, .pointer (some ⟨b9, 0, none⟩))]) (rrH g b4 b5 b8 b9 k a) (RwInv x0 d false [93] R) rwMs ⟨[], none, 0, [], none, 0, x0⟩
  ⟨.refl x0, hx, m0, m1, fun _ => ⟨by simpa using hl, Nat.le_refl _, x0.l.length, Nat.le_refl _, hR2⟩, fun h => absurd h0 h⟩ ⟨⟨_, rfl, rfl⟩, ⟨_, rfl, rfl⟩, ⟨_, rfl, rfl⟩, ⟨_, rfl, rfl⟩, ⟨_, rfl, rfl⟩, ⟨_, rfl, rfl⟩, trivial⟩ (by simp only [rrH]; exact sk (sk (sk (sk (sk (sk (sk (List.nil_sublist _)))))))) ?_
 intro s hI
 obtain ⟨ks, pk, ck, zs, p, c, x⟩ := s
 have hon : x0.On x := hI.on
 have hok : x.Ok := hI.ok
 have hm0 : 0 ≤ x.m := hI.m0
 have hm1 : x.m ≤ 4096 := hI.m1
 simp only [rrH, rrV]
 by_cases he : x.e = 0
 · obtain ⟨hlen, hkz, _⟩ := hI.go he
   simp only at hlen hkz
   have hks : ks ++ keyP x false = ks := List.append_nil ks
   have hKN : ks.length = ks.length := rfl
   have hKF : ks.flatMap wordV = ks.flatMap wordV := rfl
   have hval : ∀ w, TkAt g x w → Calls Tryz.prog 24 #[.agg ⟨ptV g x⟩, .int .i64 (24 - d + 1)] w (PostN w (RVP g (elP x false) (valE d (elP x false)))) := by
    rw [hd1]; exact fun w h => hV g x hok hm0 hm1 (hon.len65 hl) w h
   repeat (first | refine sy_k rfl rfl ?_ | (refine gO ?_; (refine gL ?_; refine sy_ov (ov_ld 1 rfl rfl rfl) rfl rfl ?_)))
   refine sy_ov (ov_call rfl (fun w _ => rp_fine g x true (by simp [he]) w)) rfl rfl ?_
   repeat (first | refine sy_k rfl rfl ?_ | (refine gO ?_; first | refine sy_ov (ov_p rfl) rfl rfl ?_ | (refine gB ?_; (refine sy_ov (ov_ar rfl rfl rfl ?_ ?_) rfl rfl ?_; omega; omega)) | (refine gL ?_; refine sy_ov (ov_ld 1 rfl rfl rfl) rfl rfl ?_)) | (refine sy_cond_t rfl ?_ ?_; (first | with_reducible rfl | assumption | omega | (simp <;> first | omega | assumption))) | (refine sy_cond_f rfl ?_ ?_; (first | with_reducible rfl | assumption | omega | (simp <;> first | omega | assumption))))
   refine sy_callN rfl rfl (fun w hw => hval w ((hst.at hw).on (hon.trans (elP_on x false)))) ?_
   intro u es' hV2
   obtain ⟨z, y, rfl, rfl, hE⟩ := rvp_el (s := ⟨ks, pk, ck, zs, p, c, x⟩) hV2
   have hony : x0.On y := hon.trans ((elP_on x false).trans hE.on)
   have hyk : y.Ok := hE.ok
   have hnx := fun hb p' c' pk' ck' => rw_next (p' := p') (c' := c') (pk' := pk') (ck' := ck') (by decide) hI he hE hb hon.len
   have hov := fun hb => rw_over hI he hE hb
   simp only at hnx hov
   have hmay := fun w h => rp_may g y hyk [93] w h
   have hmust := fun w h => rp_must g y hyk [44] w h
   have hy0 : 0 ≤ y.m := hE.m0
   have hy1 : y.m ≤ 4096 := hE.m1
   have e1 : (zs ++ [z]).length = zs.length + 1 := by simp
   have e2 : (zs ++ [z]).flatMap rawV = zs.flatMap rawV ++ rawV z := by simp
   have h1a : oneAll (rawV z) = true := by cases z; rfl
   have hpz : plRs (zs ++ [z]) = plRs zs ++ [plR z] := plRs_snoc zs z
   clear hV2 hval
   simp only [List.cons_append, List.nil_append]
   obtain ⟨zk, za, zn, zsx, zpk, zck, zkeys, zp, zc, zkids⟩ := z
   repeat (first | refine sy_k rfl rfl ?_ | (refine gO ?_; first | refine sy_ov (ov_p rfl) rfl rfl ?_ | (refine gL ?_; first | refine sy_ov (ov_ld 1 rfl rfl rfl) rfl rfl ?_ | refine sy_ov (ov_ld 3 rfl rfl rfl) rfl rfl ?_) | (refine gS ?_; first | refine sy_store 0 rfl rfl rfl rfl rfl rfl rfl rfl ?_ | refine sy_store 1 rfl rfl rfl rfl rfl rfl rfl rfl ?_) | refine sy_ov (ov_fieldAddr rfl rfl rfl) rfl rfl ?_ | (refine sy_alloc rfl rfl rfl ?_; intro _)))
   refine sy_buildSlice rfl rfl rfl rfl rfl rfl rfl rfl ?_
   intro nb
   refine sy_append 7 0 rfl rfl rfl rfl rfl rfl rfl rfl h1a rfl rfl (by omega) (by show (_ + 1) * 88 ≤ _; omega) ?_
   intro p1 q1
   repeat (first | refine sy_k rfl rfl ?_ | (refine gO ?_; first | refine sy_ov (ov_p rfl) rfl rfl ?_ | (refine gL ?_; refine sy_ov (ov_ld 1 rfl rfl rfl) rfl rfl ?_) | (refine gS ?_; refine sy_store 4 rfl rfl rfl rfl rfl rfl rfl rfl ?_) | refine sy_ov (ov_fieldAddr rfl rfl rfl) rfl rfl ?_))
   refine sy_order [8, 3, 4, 5, 1, 6, 7, 9, 10, 0, 2] rfl rfl ?_
   simp only [List.set_cons_zero, List.set_cons_succ, List.filterMap_cons, List.filterMap_nil, List.getElem?_cons_zero, List.getElem?_cons_succ]
   refine sy_rawAdd ?_
   refine sy_order [1, 2, 3, 6, 7, 4, 5, 0, 8, 9] rfl rfl ?_
   simp only [List.set_cons_zero, List.set_cons_succ, List.filterMap_cons, List.filterMap_nil, List.getElem?_cons_zero, List.getElem?_cons_succ]
   refine sy_ov (ov_call rfl (fun w hw => hmay w ((hst.at hw).on hony))) rfl rfl ?_
   by_cases hb : y.mayB [93] = true
   · rw [hb, show y.may [93] = y.adv from if_pos hb]
     have hr := hov hb
     have hRV : RVP g x0 (R.map fun r => RawP.mk k a 0 [] r.1 r.2) (.tuple #[.agg ⟨[.int .i64 k, .int .i64 a, .int .i64 0, S [], .slice pk ks.length ck, .slice (some p1) (zs.length + 1) q1]⟩, .agg ⟨ptV g y.adv⟩]) [rawE [.mk k a 0 [] pk ck ks (some p1) q1 (zs ++ [.mk zk za zn zsx zpk zck zkeys zp zc zkids])]] := by
      refine ⟨.mk k a 0 [] pk ck ks (some p1) q1 (zs ++ [.mk zk za zn zsx zpk zck zkeys zp zc zkids]), y.adv, by simp only [rawV, e1, hKN], rfl, hony.trans (PS.On.adv y), hyk.adv (PS.mayB_hd hb).2.2, hy0, hy1, ?_⟩
      rw [rowsR_map hr]
      refine ⟨(PS.mayB_hd hb).1, ?_, rfl, rfl⟩
      show RawP.mk k a 0 [] _ (plRs (zs ++ [_])) = _
      rw [hpz, hks]
     repeat (first | refine sy_k rfl rfl ?_ | (refine gO ?_; first | refine sy_ov (ov_p rfl) rfl rfl ?_ | (refine gS ?_; refine sy_store 0 rfl rfl rfl rfl rfl rfl rfl rfl ?_) | (refine sy_alloc rfl rfl rfl ?_; intro _)) | (refine sy_cond_t rfl ?_ ?_; (first | with_reducible rfl | assumption | omega | (simp <;> first | omega | assumption))))
     refine sy_order [6, 7, 8, 0, 1, 4, 5, 2, 3, 9, 10] rfl rfl ?_
     simp only [List.set_cons_zero, List.set_cons_succ, List.filterMap_cons, List.filterMap_nil, List.getElem?_cons_zero, List.getElem?_cons_succ]
     refine sy_vecIs 1 rfl e1.symm e2.symm ?_
     refine sy_vecIs 0 rfl hKN.symm hKF.symm ?_
     simp only [List.set_cons_zero, List.set_cons_succ, List.filterMap_cons, List.filterMap_nil, List.getElem?_cons_zero, List.getElem?_cons_succ]
     refine sy_rawMk k a 0 [] ?_
     refine sy_drawE _ 3 [(0, false), (1, false), (2, true)] (by kernel_rfl) rfl ((sk (sk (sk (sk (sd sr)))))) ?_
     repeat (first | refine dre_rd (fun _ _ => ov_ld 1 rfl rfl rfl) rfl ?_ | refine dre_rd (fun _ _ => ov_ld 2 rfl rfl rfl) rfl ?_ | (refine dre_ef rfl ?_; refine sy_store 4 rfl rfl rfl rfl rfl rfl rfl rfl ?_; refine dre_ek (by repeat first | exact sr | apply sk | apply sd) ?_) | refine dre_end ?_)
     repeat (first | refine sy_k rfl rfl ?_ | (refine gO ?_; (refine gS ?_; refine sy_store 3 rfl rfl rfl rfl rfl rfl rfl rfl ?_)) | refine sy_rt ?_)
     exact ret_ccw 4 3 rfl rfl rfl rfl rfl rfl rfl rfl rfl fun w' hw' => ⟨_, _, hRV, rfl, hw'.weaken (sk (List.nil_sublist _))⟩
   · have hb : y.mayB [93] = false := by simpa using hb
     rw [hb, show y.may [93] = y from if_neg (by rw [hb]; decide)]
     have hN := hnx hb (some p1) q1 pk ck
     rw [hks] at hN
     repeat (first | refine sy_k rfl rfl ?_ | (refine gO ?_; first | refine sy_ov (ov_p rfl) rfl rfl ?_ | (refine gL ?_; refine sy_ov (ov_ld 3 rfl rfl rfl) rfl rfl ?_) | (refine gS ?_; refine sy_store 0 rfl rfl rfl rfl rfl rfl rfl rfl ?_) | (refine sy_alloc rfl rfl rfl ?_; intro _)) | (refine sy_cond_f rfl ?_ ?_; (first | with_reducible rfl | assumption | omega | (simp <;> first | omega | assumption))))
     refine sy_ov (ov_call rfl (fun w hw => hmust w ((hst.at hw).on hony))) rfl rfl ?_
     repeat (first | refine sy_k rfl rfl ?_ | (refine gO ?_; (refine gS ?_; refine sy_store 2 rfl rfl rfl rfl rfl rfl rfl rfl ?_)))
     refine sy_order [1, 2, 6, 7, 8, 4, 5, 0, 3, 9, 10] rfl rfl ?_
     simp only [List.set_cons_zero, List.set_cons_succ, List.filterMap_cons, List.filterMap_nil, List.getElem?_cons_zero, List.getElem?_cons_succ]
     refine sy_back ⟨ks, pk, ck, zs ++ [.mk zk za zn zsx zpk zck zkeys zp zc zkids], some p1, q1, y.must [44]⟩ hN.1 hN.2 ⟨⟨_, rfl, rfl⟩, ⟨_, rfl, rfl⟩, ⟨_, rfl, rfl⟩, ⟨_, rfl, rfl⟩, ⟨_, rfl, rfl⟩, ⟨_, rfl, rfl⟩, trivial⟩ (by simp only [rrH, rrV, e1, e2, hKN, hKF]; exact sk (sk (sk (sk (sk (sk (sk (List.nil_sublist _))))))))
 · have hb : R = .bad x.e x.a := hI.bad he
   have hRV : RVP g x0 (R.map fun r => RawP.mk k a 0 [] r.1 r.2) (.tuple #[.agg ⟨rawV (.mk k a 0 [] pk ck ks p c zs)⟩, .agg ⟨ptV g x⟩]) [rawE [.mk k a 0 [] pk ck ks p c zs]] := by
    refine ⟨.mk k a 0 [] pk ck ks p c zs, x, rfl, rfl, hon, hok, hm0, hm1, ?_⟩
    rw [hb]
    exact ⟨rfl, rfl, he⟩
   repeat (first | refine sy_k rfl rfl ?_ | (refine gO ?_; (refine gL ?_; refine sy_ov (ov_ld 1 rfl rfl rfl) rfl rfl ?_)))
   refine sy_ov (ov_call rfl (fun w _ => rp_fine g x false (by simp [he]) w)) rfl rfl ?_
   repeat (first | refine sy_k rfl rfl ?_ | (refine sy_cond_f rfl ?_ ?_; (first | with_reducible rfl | assumption | omega | (simp <;> first | omega | assumption))))
   refine sy_order [2, 3, 4, 0, 1, 5, 6] rfl rfl ?_
   simp only [List.set_cons_zero, List.set_cons_succ, List.filterMap_cons, List.filterMap_nil, List.getElem?_cons_zero, List.getElem?_cons_succ]
   refine sy_rawMk k a 0 [] ?_
   refine sy_drawE _ 3 [(0, false), (1, false), (2, true)] (by kernel_rfl) rfl ((sk (sk (sk (sk (sd sr)))))) ?_
   repeat (first | refine dre_rd (fun _ _ => ov_ld 1 rfl rfl rfl) rfl ?_ | refine dre_rd (fun _ _ => ov_ld 2 rfl rfl rfl) rfl ?_ | (refine dre_ef rfl ?_; refine sy_store 4 rfl rfl rfl rfl rfl rfl rfl rfl ?_; refine dre_ek (by repeat first | exact sr | apply sk | apply sd) ?_) | refine dre_end ?_)
   repeat (first | refine sy_k rfl rfl ?_ | (refine gO ?_; (refine gS ?_; refine sy_store 3 rfl rfl rfl rfl rfl rfl rfl rfl ?_)) | refine sy_rt ?_)
   exact ret_ccw 4 3 rfl rfl rfl rfl rfl rfl rfl rfl rfl fun w' hw' => ⟨_, _, hRV, rfl, hw'.weaken (sk (List.nil_sublist _))⟩
end Go.Proofs.YtldjakeigjngoaaGreat
/- Contract: the rows of a record, as the document reads them. -/
namespace Go.Proofs.YtldjakeigjngoaaGreat
open Go.RowKit Bf
set_option maxRecDepth 20000 in
set_option maxHeartbeats 8000000 in
theorem rrows_rec (d : Nat) (hV : VSpec d) (g : Nat) (x0 : PS) (hx : x0.Ok) (h0 : x0.e = 0) (m0 : 0 ≤ x0.m) (m1 : x0.m ≤ 4096) (hl : x0.l.length ≤ 65537) (hd : d ≤ 24) (k a : Int) (w : World) (hT : TkAt g x0 w) :
 Calls Tryz.prog 50 #[.agg ⟨ptV g x0⟩, .agg ⟨rawV (.mk k a 0 [] none 0 [] none 0 [])⟩, S [125], .int .i64 (24 - d)] w (PostN w (RVP g x0 ((bodyR (valR d) true [125] x0.l x0.m).map fun r => RawP.mk k a 0 [] r.1 r.2))) := by
 have hst : St (fun _ => False) w (fun w => TkAt g x0 w) := St.start (TkAt.bl g x0) hT
 obtain ⟨R, hR⟩ : ∃ R, bodyR (valR d) true [125] x0.l x0.m = R := ⟨_, rfl⟩
 rw [hR]
 have hmay0 := fun w h => rp_may g x0 hx [125] w h
 have hd1 : (24 : Int) - d + 1 = 25 - d := by omega
 refine sy_enter rfl rfl ?_
 simp only [initFr]
 repeat (first | refine sy_k rfl rfl ?_ | (refine gO ?_; first | refine sy_ov (ov_p rfl) rfl rfl ?_ | (refine gL ?_; refine sy_ov (ov_ld 3 rfl rfl rfl) rfl rfl ?_) | (refine sy_box rfl rfl rfl ?_; intro _) | (refine sy_alloc rfl rfl rfl ?_; intro _)))
 refine sy_ov (ov_call rfl (fun w hw => hmay0 w (hst.at hw))) rfl rfl ?_
 by_cases hb0 : x0.mayB [125] = true
 · have hr0 : R = .ok ([], []) x0.adv.l x0.adv.m := by
    rw [← hR]; unfold bodyR; rw [if_pos (by rw [← mayB_ok h0]; exact hb0)]; rfl
   have hRV : RVP g x0 (R.map fun r => RawP.mk k a 0 [] r.1 r.2) (.tuple #[.agg ⟨rawV (.mk k a 0 [] none 0 [] none 0 [])⟩, .agg ⟨ptV g x0.adv⟩]) [rawE [.mk k a 0 [] none 0 [] none 0 []]] := by
    refine ⟨.mk k a 0 [] none 0 [] none 0 [], x0.adv, rfl, rfl, PS.On.adv x0, hx.adv (PS.mayB_hd hb0).2.2, m0, m1, ?_⟩
    rw [rowsR_map hr0]
    exact ⟨h0, rfl, rfl, rfl⟩
   rw [hb0, show x0.may [125] = x0.adv from if_pos hb0]
   repeat (first | refine sy_k rfl rfl ?_ | (refine gO ?_; first | refine sy_ov (ov_p rfl) rfl rfl ?_ | (refine gS ?_; refine sy_store 0 rfl rfl rfl rfl rfl rfl rfl rfl ?_) | (refine sy_alloc rfl rfl rfl ?_; intro _)) | (refine sy_cond_t rfl ?_ ?_; (first | with_reducible rfl | assumption | omega | (simp <;> first | omega | assumption))))
   refine sy_drawE _ 3 [(0, false), (1, false), (2, true)] (by kernel_rfl) rfl ((sk (sk (sd sr)))) ?_
   repeat (first | refine dre_rd (fun _ _ => ov_ld 0 rfl rfl rfl) rfl ?_ | refine dre_rd (fun _ _ => ov_ld 2 rfl rfl rfl) rfl ?_ | (refine dre_ef rfl ?_; refine sy_store 2 rfl rfl rfl rfl rfl rfl rfl rfl ?_; refine dre_ek (by repeat first | exact sr | apply sk | apply sd) ?_) | refine dre_end ?_)
   repeat (first | refine sy_k rfl rfl ?_ | (refine gO ?_; (refine gS ?_; refine sy_store 1 rfl rfl rfl rfl rfl rfl rfl rfl ?_)) | refine sy_rt ?_)
   exact ret_ccw 2 1 rfl rfl rfl rfl rfl rfl rfl rfl rfl fun w' hw' => ⟨_, _, hRV, rfl, (hw'.raw0 k a 0 []).weaken (sk (List.nil_sublist _))⟩
 have hb0 : x0.mayB [125] = false := by simpa using hb0
 rw [hb0, show x0.may [125] = x0 from if_neg (by rw [hb0]; decide)]
 have hR2 : rowsR (valR d) true [125] x0.l.length x0.l x0.m [] [] = R := by
  rw [← hR]; unfold bodyR; rw [if_neg (by rw [← mayB_ok h0, hb0]; decide)]
 repeat (first | refine sy_k rfl rfl ?_ | (refine gO ?_; first | refine sy_ov (ov_p rfl) rfl rfl ?_ | (refine gS ?_; refine sy_store 0 rfl rfl rfl rfl rfl rfl rfl rfl ?_) | (refine sy_alloc rfl rfl rfl ?_; intro _)) | (refine sy_cond_f rfl ?_ ?_; (first | with_reducible rfl | assumption | omega | (simp <;> first | omega | assumption))))
 rename_i b4 b5 b8 b9 hbx b10
 refine sy_rawNil ?_
 refine sy_grow 26 6 ?_
 refine sy_grow 36 2 ?_
 refine sy_order [6, 7, 0, 1, 2, 4, 5, 3] rfl rfl ?_
 simp only [List.set_cons_zero, List.set_cons_succ, List.filterMap_cons, List.filterMap_nil, List.getElem?_cons_zero, List.getElem?_cons_succ]
 refine sy_loop (α := RwS) (fun _ => [(2, S [125]), (3, .int .i64 (24 - d)), (4, .pointer (some ⟨b4, 0, none⟩)), (5, .pointer (some ⟨b5, 0, none⟩)), (8, .pointer (some ⟨b8, 0, none⟩)), (9, .pointer (some ⟨b9, 0, none⟩))]) (rrH g b4 b5 b8 b9 k a) (RwInv x0 d true [125] R) rwMs ⟨[], none, 0, [], none, 0, x0⟩
  ⟨.refl x0, hx, m0, m1, fun _ => ⟨by simpa using hl, Nat.le_refl _, x0.l.length, Nat.le_refl _, hR2⟩, fun h => absurd h0 h⟩ ⟨⟨_, rfl, rfl⟩, ⟨_, rfl, rfl⟩, ⟨_, rfl, rfl⟩, ⟨_, rfl, rfl⟩, ⟨_, rfl, rfl⟩, ⟨_, rfl, rfl⟩, trivial⟩ (by simp only [rrH]; exact sk (sk (sk (sk (sk (sk (sk (List.nil_sublist _)))))))) ?_
 intro s hI
 obtain ⟨ks, pk, ck, zs, p, c, x⟩ := s
 have hon : x0.On x := hI.on
 have hok : x.Ok := hI.ok
 have hm0 : 0 ≤ x.m := hI.m0
 have hm1 : x.m ≤ 4096 := hI.m1
 simp only [rrH, rrV]
 by_cases he : x.e = 0
 · obtain ⟨hlen, hkz, _⟩ := hI.go he
   simp only at hlen hkz
   obtain ⟨key, hkey⟩ : ∃ key : WordT, ((x.tok 1).2.2.2.1, (x.tok 1).2.1) = key := ⟨_, rfl⟩
   have hks : ks ++ keyP x true = ks ++ [key] := by unfold keyP; rw [if_pos rfl, hkey]
   have hKN : (ks ++ [key]).length = ks.length + 1 := by simp
   have hKF : (ks ++ [key]).flatMap wordV = ks.flatMap wordV ++ wordV key := by simp
   have hel : elP x true = (x.any 1).must [58] := by unfold elP; rw [if_pos rfl]
   have hxa : (x.any 1).Ok := hok.any (by decide)
   have hxe : (elP x true).Ok := hok.elP true
   have hme : (elP x true).m = x.m := elP_m x true
   have hone : x0.On (elP x true) := hon.trans (elP_on x true)
   have hval : ∀ w, TkAt g (elP x true) w → Calls Tryz.prog 24 #[.agg ⟨ptV g (elP x true)⟩, .int .i64 (24 - d + 1)] w (PostN w (RVP g (elP x true) (valE d (elP x true)))) := by
    rw [hd1]; exact fun w h => hV g (elP x true) hxe (by rw [hme]; exact hm0) (by rw [hme]; exact hm1) (hone.len65 hl) w h
   have hany := fun w h => rp_any g x hok 1 (by decide) w h
   have hmu := fun w h => rp_must g (x.any 1) hxa [58] w h
   rw [← hel] at hmu
   have h1k : oneAll (wordV key) = true := rfl
   subst hkey
   repeat (first | refine sy_k rfl rfl ?_ | (refine gO ?_; (refine gL ?_; refine sy_ov (ov_ld 1 rfl rfl rfl) rfl rfl ?_)))
   refine sy_ov (ov_call rfl (fun w _ => rp_fine g x true (by simp [he]) w)) rfl rfl ?_
   repeat (first | refine sy_k rfl rfl ?_ | (refine gO ?_; first | refine sy_ov (ov_p rfl) rfl rfl ?_ | (refine gL ?_; refine sy_ov (ov_ld 1 rfl rfl rfl) rfl rfl ?_)) | (refine sy_cond_t rfl ?_ ?_; (first | with_reducible rfl | assumption | omega | (simp <;> first | omega | assumption))))
   refine sy_ov (ov_call rfl (fun w hw => hany w ((hst.at hw).on hon))) rfl rfl ?_
   repeat (first | refine sy_k rfl rfl ?_ | (refine gO ?_; first | refine sy_ov (ov_p rfl) rfl rfl ?_ | (refine gL ?_; first | refine sy_ov (ov_ld 1 rfl rfl rfl) rfl rfl ?_ | refine sy_ov (ov_ld 2 rfl rfl rfl) rfl rfl ?_) | (refine gS ?_; first | refine sy_store 0 rfl rfl rfl rfl rfl rfl rfl rfl ?_ | refine sy_store 1 rfl rfl rfl rfl rfl rfl rfl rfl ?_) | refine sy_ov (ov_fieldAddr rfl rfl rfl) rfl rfl ?_ | refine sy_ov (ov_build rfl rfl rfl) rfl rfl ?_ | (refine sy_alloc rfl rfl rfl ?_; intro _)))
   refine sy_buildSlice rfl rfl rfl rfl rfl rfl rfl rfl ?_
   intro nb
   refine sy_append 5 0 rfl rfl rfl rfl rfl rfl rfl rfl h1k rfl rfl (by omega) (by show (_ + 1) * 24 ≤ _; omega) ?_
   intro p0 q0
   repeat (first | refine sy_k rfl rfl ?_ | (refine gO ?_; first | (refine gL ?_; refine sy_ov (ov_ld 1 rfl rfl rfl) rfl rfl ?_) | (refine gS ?_; refine sy_store 3 rfl rfl rfl rfl rfl rfl rfl rfl ?_) | refine sy_ov (ov_fieldAddr rfl rfl rfl) rfl rfl ?_))
   refine sy_weaken (fun _ _ h => h) (sd (sd (sd sr))) ?_
   refine sy_ov (ov_call rfl (fun w hw => hmu w ((hst.at hw).on (hon.trans (.any x 1))))) rfl rfl ?_
   clear hany hmu
   repeat (first | refine sy_k rfl rfl ?_ | (refine gO ?_; first | refine sy_ov (ov_p rfl) rfl rfl ?_ | (refine gB ?_; (refine sy_ov (ov_ar rfl rfl rfl ?_ ?_) rfl rfl ?_; omega; omega)) | (refine gL ?_; refine sy_ov (ov_ld 1 rfl rfl rfl) rfl rfl ?_) | (refine gS ?_; refine sy_store 1 rfl rfl rfl rfl rfl rfl rfl rfl ?_)))
   refine sy_callN rfl rfl (fun w hw => hval w ((hst.at hw).on (hon.trans (elP_on x true)))) ?_
   intro u es' hV2
   obtain ⟨z, y, rfl, rfl, hE⟩ := rvp_el (s := ⟨ks, pk, ck, zs, p, c, x⟩) hV2
   have hony : x0.On y := hon.trans ((elP_on x true).trans hE.on)
   have hyk : y.Ok := hE.ok
   have hnx := fun hb p' c' pk' ck' => rw_next (p' := p') (c' := c') (pk' := pk') (ck' := ck') (by decide) hI he hE hb hon.len
   have hov := fun hb => rw_over hI he hE hb
   simp only at hnx hov
   have hmay := fun w h => rp_may g y hyk [125] w h
   have hmust := fun w h => rp_must g y hyk [44] w h
   have hy0 : 0 ≤ y.m := hE.m0
   have hy1 : y.m ≤ 4096 := hE.m1
   have e1 : (zs ++ [z]).length = zs.length + 1 := by simp
   have e2 : (zs ++ [z]).flatMap rawV = zs.flatMap rawV ++ rawV z := by simp
   have h1a : oneAll (rawV z) = true := by cases z; rfl
   have hpz : plRs (zs ++ [z]) = plRs zs ++ [plR z] := plRs_snoc zs z
   clear hV2 hval
   simp only [List.cons_append, List.nil_append]
   obtain ⟨zk, za, zn, zsx, zpk, zck, zkeys, zp, zc, zkids⟩ := z
   repeat (first | refine sy_k rfl rfl ?_ | (refine gO ?_; first | refine sy_ov (ov_p rfl) rfl rfl ?_ | (refine gL ?_; first | refine sy_ov (ov_ld 1 rfl rfl rfl) rfl rfl ?_ | refine sy_ov (ov_ld 3 rfl rfl rfl) rfl rfl ?_) | (refine gS ?_; first | refine sy_store 0 rfl rfl rfl rfl rfl rfl rfl rfl ?_ | refine sy_store 1 rfl rfl rfl rfl rfl rfl rfl rfl ?_) | refine sy_ov (ov_fieldAddr rfl rfl rfl) rfl rfl ?_ | (refine sy_alloc rfl rfl rfl ?_; intro _)))
   refine sy_buildSlice rfl rfl rfl rfl rfl rfl rfl rfl ?_
   intro nb
   refine sy_append 7 0 rfl rfl rfl rfl rfl rfl rfl rfl h1a rfl rfl (by omega) (by show (_ + 1) * 88 ≤ _; omega) ?_
   intro p1 q1
   repeat (first | refine sy_k rfl rfl ?_ | (refine gO ?_; first | refine sy_ov (ov_p rfl) rfl rfl ?_ | (refine gL ?_; refine sy_ov (ov_ld 1 rfl rfl rfl) rfl rfl ?_) | (refine gS ?_; refine sy_store 4 rfl rfl rfl rfl rfl rfl rfl rfl ?_) | refine sy_ov (ov_fieldAddr rfl rfl rfl) rfl rfl ?_))
   refine sy_order [8, 3, 4, 5, 1, 6, 7, 9, 10, 0, 2] rfl rfl ?_
   simp only [List.set_cons_zero, List.set_cons_succ, List.filterMap_cons, List.filterMap_nil, List.getElem?_cons_zero, List.getElem?_cons_succ]
   refine sy_rawAdd ?_
   refine sy_order [1, 2, 3, 6, 7, 4, 5, 0, 8, 9] rfl rfl ?_
   simp only [List.set_cons_zero, List.set_cons_succ, List.filterMap_cons, List.filterMap_nil, List.getElem?_cons_zero, List.getElem?_cons_succ]
   refine sy_ov (ov_call rfl (fun w hw => hmay w ((hst.at hw).on hony))) rfl rfl ?_
   by_cases hb : y.mayB [125] = true
   · rw [hb, show y.may [125] = y.adv from if_pos hb]
     have hr := hov hb
     have hRV : RVP g x0 (R.map fun r => RawP.mk k a 0 [] r.1 r.2) (.tuple #[.agg ⟨[.int .i64 k, .int .i64 a, .int .i64 0, S [], .slice (some p0) (ks.length + 1) q0, .slice (some p1) (zs.length + 1) q1]⟩, .agg ⟨ptV g y.adv⟩]) [rawE [.mk k a 0 [] (some p0) q0 (ks ++ [((x.tok 1).2.2.2.1, (x.tok 1).2.1)]) (some p1) q1 (zs ++ [.mk zk za zn zsx zpk zck zkeys zp zc zkids])]] := by
      refine ⟨.mk k a 0 [] (some p0) q0 (ks ++ [((x.tok 1).2.2.2.1, (x.tok 1).2.1)]) (some p1) q1 (zs ++ [.mk zk za zn zsx zpk zck zkeys zp zc zkids]), y.adv, by simp only [rawV, e1, hKN], rfl, hony.trans (PS.On.adv y), hyk.adv (PS.mayB_hd hb).2.2, hy0, hy1, ?_⟩
      rw [rowsR_map hr]
      refine ⟨(PS.mayB_hd hb).1, ?_, rfl, rfl⟩
      show RawP.mk k a 0 [] _ (plRs (zs ++ [_])) = _
      rw [hpz, hks]
     repeat (first | refine sy_k rfl rfl ?_ | (refine gO ?_; first | refine sy_ov (ov_p rfl) rfl rfl ?_ | (refine gS ?_; refine sy_store 0 rfl rfl rfl rfl rfl rfl rfl rfl ?_) | (refine sy_alloc rfl rfl rfl ?_; intro _)) | (refine sy_cond_t rfl ?_ ?_; (first | with_reducible rfl | assumption | omega | (simp <;> first | omega | assumption))))
     refine sy_order [6, 7, 8, 0, 1, 4, 5, 2, 3, 9, 10] rfl rfl ?_
     simp only [List.set_cons_zero, List.set_cons_succ, List.filterMap_cons, List.filterMap_nil, List.getElem?_cons_zero, List.getElem?_cons_succ]
     refine sy_vecIs 1 rfl e1.symm e2.symm ?_
     refine sy_vecIs 0 rfl hKN.symm hKF.symm ?_
     simp only [List.set_cons_zero, List.set_cons_succ, List.filterMap_cons, List.filterMap_nil, List.getElem?_cons_zero, List.getElem?_cons_succ]
     refine sy_rawMk k a 0 [] ?_
     refine sy_drawE _ 3 [(0, false), (1, false), (2, true)] (by kernel_rfl) rfl ((sk (sk (sk (sk (sd sr)))))) ?_
     repeat (first | refine dre_rd (fun _ _ => ov_ld 1 rfl rfl rfl) rfl ?_ | refine dre_rd (fun _ _ => ov_ld 2 rfl rfl rfl) rfl ?_ | (refine dre_ef rfl ?_; refine sy_store 4 rfl rfl rfl rfl rfl rfl rfl rfl ?_; refine dre_ek (by repeat first | exact sr | apply sk | apply sd) ?_) | refine dre_end ?_)
     repeat (first | refine sy_k rfl rfl ?_ | (refine gO ?_; (refine gS ?_; refine sy_store 3 rfl rfl rfl rfl rfl rfl rfl rfl ?_)) | refine sy_rt ?_)
     exact ret_ccw 4 3 rfl rfl rfl rfl rfl rfl rfl rfl rfl fun w' hw' => ⟨_, _, hRV, rfl, hw'.weaken (sk (List.nil_sublist _))⟩
   · have hb : y.mayB [125] = false := by simpa using hb
     rw [hb, show y.may [125] = y from if_neg (by rw [hb]; decide)]
     have hN := hnx hb (some p1) q1 (some p0) q0
     rw [hks] at hN
     repeat (first | refine sy_k rfl rfl ?_ | (refine gO ?_; first | refine sy_ov (ov_p rfl) rfl rfl ?_ | (refine gL ?_; refine sy_ov (ov_ld 3 rfl rfl rfl) rfl rfl ?_) | (refine gS ?_; refine sy_store 0 rfl rfl rfl rfl rfl rfl rfl rfl ?_) | (refine sy_alloc rfl rfl rfl ?_; intro _)) | (refine sy_cond_f rfl ?_ ?_; (first | with_reducible rfl | assumption | omega | (simp <;> first | omega | assumption))))
     refine sy_ov (ov_call rfl (fun w hw => hmust w ((hst.at hw).on hony))) rfl rfl ?_
     repeat (first | refine sy_k rfl rfl ?_ | (refine gO ?_; (refine gS ?_; refine sy_store 2 rfl rfl rfl rfl rfl rfl rfl rfl ?_)))
     refine sy_order [1, 2, 6, 7, 8, 4, 5, 0, 3, 9, 10] rfl rfl ?_
     simp only [List.set_cons_zero, List.set_cons_succ, List.filterMap_cons, List.filterMap_nil, List.getElem?_cons_zero, List.getElem?_cons_succ]
     refine sy_back ⟨(ks ++ [((x.tok 1).2.2.2.1, (x.tok 1).2.1)]), (some p0), q0, zs ++ [.mk zk za zn zsx zpk zck zkeys zp zc zkids], some p1, q1, y.must [44]⟩ hN.1 hN.2 ⟨⟨_, rfl, rfl⟩, ⟨_, rfl, rfl⟩, ⟨_, rfl, rfl⟩, ⟨_, rfl, rfl⟩, ⟨_, rfl, rfl⟩, ⟨_, rfl, rfl⟩, trivial⟩ (by simp only [rrH, rrV, e1, e2, hKN, hKF]; exact sk (sk (sk (sk (sk (sk (sk (List.nil_sublist _))))))))
 · have hb : R = .bad x.e x.a := hI.bad he
   have hRV : RVP g x0 (R.map fun r => RawP.mk k a 0 [] r.1 r.2) (.tuple #[.agg ⟨rawV (.mk k a 0 [] pk ck ks p c zs)⟩, .agg ⟨ptV g x⟩]) [rawE [.mk k a 0 [] pk ck ks p c zs]] := by
    refine ⟨.mk k a 0 [] pk ck ks p c zs, x, rfl, rfl, hon, hok, hm0, hm1, ?_⟩
    rw [hb]
    exact ⟨rfl, rfl, he⟩
   repeat (first | refine sy_k rfl rfl ?_ | (refine gO ?_; (refine gL ?_; refine sy_ov (ov_ld 1 rfl rfl rfl) rfl rfl ?_)))
   refine sy_ov (ov_call rfl (fun w _ => rp_fine g x false (by simp [he]) w)) rfl rfl ?_
   repeat (first | refine sy_k rfl rfl ?_ | (refine sy_cond_f rfl ?_ ?_; (first | with_reducible rfl | assumption | omega | (simp <;> first | omega | assumption))))
   refine sy_order [2, 3, 4, 0, 1, 5, 6] rfl rfl ?_
   simp only [List.set_cons_zero, List.set_cons_succ, List.filterMap_cons, List.filterMap_nil, List.getElem?_cons_zero, List.getElem?_cons_succ]
   refine sy_rawMk k a 0 [] ?_
   refine sy_drawE _ 3 [(0, false), (1, false), (2, true)] (by kernel_rfl) rfl ((sk (sk (sk (sk (sd sr)))))) ?_
   repeat (first | refine dre_rd (fun _ _ => ov_ld 1 rfl rfl rfl) rfl ?_ | refine dre_rd (fun _ _ => ov_ld 2 rfl rfl rfl) rfl ?_ | (refine dre_ef rfl ?_; refine sy_store 4 rfl rfl rfl rfl rfl rfl rfl rfl ?_; refine dre_ek (by repeat first | exact sr | apply sk | apply sd) ?_) | refine dre_end ?_)
   repeat (first | refine sy_k rfl rfl ?_ | (refine gO ?_; (refine gS ?_; refine sy_store 3 rfl rfl rfl rfl rfl rfl rfl rfl ?_)) | refine sy_rt ?_)
   exact ret_ccw 4 3 rfl rfl rfl rfl rfl rfl rfl rfl rfl fun w' hw' => ⟨_, _, hRV, rfl, hw'.weaken (sk (List.nil_sublist _))⟩
end Go.Proofs.YtldjakeigjngoaaGreat