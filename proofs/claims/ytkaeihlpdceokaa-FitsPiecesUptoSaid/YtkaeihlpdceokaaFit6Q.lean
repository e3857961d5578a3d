/- Contract: how many columns the groups of the chapter's example need (Needs). -/
import Derived.Test.YtkaeihlpdceokaaFit5Q
import Derived.Test.YtkaeihlpdceokaaSyTwoQ
set_option linter.unusedVariables false
set_option linter.unusedSimpArgs false
namespace Go.Proofs.Ytkaeihlpdceokaa
open Go.RowKit Bf
section
variable {P : Program} {C : Cx} {k : List It} {fr : Fr} {hp : List En}
theorem sy_toBlk (i : Nat) {g m n q size : Nat} {e : TypeId} {cs : List Value} (hi : hp[i]? = some (vec e size (.slice (some ⟨g, 0, none⟩) m q) n cs)) (h : ∀ tl, Sy P C k fr (hp.set i (blk g e (cs ++ tl)))) : Sy P C k fr hp :=
 .mk fun ac w hac hw => by
  obtain ⟨tl, hw1, hmn, hnq, hqm, hl, hcs⟩ := hw.vecBlk hi
  exact (h tl).go ac w hac hw1
end
theorem cutNN {G : Nat → Nat → Prop} {T : Prop} (h : (∀ a b, G a b) → T) (t : ∀ a b, G a b) : T := h t
theorem sy_frameF {P : Program} {C : Cx} {k : List It} {fr : Fr} {hp : List En} (F : Fr) (hf : Sub F fr) (h : Sy P C k F hp) : Sy P C k fr hp := .mk fun a w ha hw => h.go a w (hf.frOk ha) hw
set_option maxRecDepth 20000 in
set_option maxHeartbeats 8000000 in
theorem fneeds_c (p : Option Addr) (q : Nat) (w : World) (hw0 : IsSl w 5 p 6 (L30.flatMap pieV)) : Calls Try.prog 10 #[.slice p 6 q] w (PostN w (RwP [I 4, I (-1), I (-1), I (-1), I (-1), I (-1)])) := by
 have hst : St (fun _ => False) w (fun w => IsSl w 5 p 6 (L30.flatMap pieV)) := St.start (IsSl.bl _ _ _ _) hw0
 obtain ⟨b, off, rfl, hat⟩ := hst.addr (by omega)
 refine sy_enter rfl rfl ?_
 simp only [initFr]
 repeat (first | refine yK ?_ | (refine gO ?_; first | refine yP ?_ | (refine gK ?_; refine sy_ov (ov_lens rfl) rfl rfl ?_)) | refine yN ?_)
 apply cutNN
 · intro hG
   refine sy_two 3 7 (by kernel_rfl) ?_ ?_
   · refine any_drawE _ 9 [(0, false), (1, false), (2, false), (4, false), (5, false), (6, false), (3, true), (8, false), (7, true)] (by kernel_rfl) rfl (List.Sublist.refl _) ?_
     repeat (first | refine dre_rd (fun _ _ => ov_p rfl) rfl ?_ | (refine dre_rd (fun _ _ => ov_ar rfl rfl rfl ?_ ?_) rfl ?_; omega; omega) | refine dre_rd (fun _ _ => ov_lens rfl) rfl ?_)
     refine dre_ef rfl ?_
     refine sy_makeSlice (n := 7) rfl rfl rfl rfl rfl (by decide) (by decide) rfl ?_
     intro b3
     refine dre_ek (List.nil_sublist _) ?_
     repeat (refine dre_rd (fun _ _ => ov_p rfl) rfl ?_)
     refine dre_ef rfl ?_
     refine sy_makeSlice (n := 7) rfl rfl rfl rfl rfl (by decide) (by decide) rfl ?_
     intro b4
     refine dre_ek (List.nil_sublist _) ?_
     repeat (refine dre_end ?_)
     simp only [addE, edged]
     repeat (first | refine yK ?_ | (refine gO ?_; first | refine yP ?_ | (refine gK ?_; refine sy_ov (ov_lens rfl) rfl rfl ?_)))
     refine sy_order [1, 0] rfl rfl ?_
     simp only [List.filterMap_cons, List.filterMap_nil, List.getElem?_cons_zero, List.getElem?_cons_succ]
     refine sy_frameF [(0, .slice (some ⟨b, off, none⟩) 6 q), (3, .slice (some ⟨b3, 0, none⟩) 7 7), (4, .slice (some ⟨b4, 0, none⟩) 7 7), (22, .slice (some ⟨b, off, none⟩) 6 q), (23, I 6), (24, I 0)] ⟨⟨_, rfl, rfl⟩, ⟨_, rfl, rfl⟩, ⟨_, rfl, rfl⟩, ⟨_, rfl, rfl⟩, ⟨_, rfl, rfl⟩, ⟨_, rfl, rfl⟩, trivial⟩ ?_
     exact hG b3 b4
   · refine any_drawE _ 9 [(0, false), (1, false), (2, false), (4, false), (5, false), (6, false), (7, true), (3, true), (8, false)] (by kernel_rfl) rfl (List.Sublist.refl _) ?_
     repeat (first | refine dre_rd (fun _ _ => ov_p rfl) rfl ?_ | (refine dre_rd (fun _ _ => ov_ar rfl rfl rfl ?_ ?_) rfl ?_; omega; omega) | refine dre_rd (fun _ _ => ov_lens rfl) rfl ?_)
     refine dre_ef rfl ?_
     refine sy_makeSlice (n := 7) rfl rfl rfl rfl rfl (by decide) (by decide) rfl ?_
     intro b4
     refine dre_ek (List.nil_sublist _) ?_
     refine dre_ef rfl ?_
     refine sy_makeSlice (n := 7) rfl rfl rfl rfl rfl (by decide) (by decide) rfl ?_
     intro b3
     refine dre_ek (List.nil_sublist _) ?_
     repeat (first | refine dre_rd (fun _ _ => ov_p rfl) rfl ?_ | refine dre_end ?_)
     simp only [addE, edged]
     repeat (first | refine yK ?_ | (refine gO ?_; first | refine yP ?_ | (refine gK ?_; refine sy_ov (ov_lens rfl) rfl rfl ?_)))
     refine sy_frameF [(0, .slice (some ⟨b, off, none⟩) 6 q), (3, .slice (some ⟨b3, 0, none⟩) 7 7), (4, .slice (some ⟨b4, 0, none⟩) 7 7), (22, .slice (some ⟨b, off, none⟩) 6 q), (23, I 6), (24, I 0)] ⟨⟨_, rfl, rfl⟩, ⟨_, rfl, rfl⟩, ⟨_, rfl, rfl⟩, ⟨_, rfl, rfl⟩, ⟨_, rfl, rfl⟩, ⟨_, rfl, rfl⟩, trivial⟩ ?_
     exact hG b3 b4
 intro b3 b4
 refine sy_loop (α := Int × List Value) (fun a => [(0, .slice (some ⟨b, off, none⟩) 6 q), (3, .slice (some ⟨b3, 0, none⟩) 7 7), (4, .slice (some ⟨b4, 0, none⟩) 7 7), (22, .slice (some ⟨b, off, none⟩) 6 q), (23, I 6), (24, I a.1)]) (fun a => [blk b3 3 a.2, blk b4 3 [I 0, I 0, I 0, I 0, I 0, I 0, I 0]])
  (fun a => a = (0, [I 0, I 0, I 0, I 0, I 0, I 0, I 0]) ∨ a = (1, [I 0, I 0, I 0, I 0, I 0, I 0, I 0]) ∨ a = (2, [I 0, I 0, I 1, I 0, I 0, I 0, I 0]) ∨ a = (3, [I 0, I 0, I 1, I 2, I 0, I 0, I 0]) ∨ a = (4, [I 0, I 0, I 1, I 2, I 3, I 0, I 0]) ∨ a = (5, [I 0, I 0, I 1, I 2, I 3, I 3, I 0]) ∨ a = (6, [I 0, I 0, I 1, I 2, I 3, I 3, I 4]))
  (fun a => (6 - a.1).toNat) (0, [I 0, I 0, I 0, I 0, I 0, I 0, I 0]) (.inl rfl) ⟨⟨_, rfl, rfl⟩, ⟨_, rfl, rfl⟩, ⟨_, rfl, rfl⟩, ⟨_, rfl, rfl⟩, ⟨_, rfl, rfl⟩, ⟨_, rfl, rfl⟩, trivial⟩ (List.Sublist.refl _) ?_
 rintro a (rfl | rfl | rfl | rfl | rfl | rfl | rfl)
 · dsimp only
   repeat (first | refine yK ?_ | (refine gO ?_; first | refine yP ?_ | (refine sy_ov (ov_indexAddr rfl rfl ?_ ?_) rfl rfl ?_; omega; omega)) | refine yT ?_)
   refine sy_ov (ov_elem (f := pieV) (l := L30) (y := (⟨5, 0, 0, 0, []⟩ : PieT)) hat rfl rfl rfl pieV_len) rfl rfl ?_
   repeat (first | refine yK ?_ | (refine gO ?_; first | refine yP ?_ | (refine gS ?_; refine yS 0 ?_) | (refine yA ?_; intro _)))
   rename_i b6
   refine sy_drawE _ 19 [(0, false), (1, false), (2, false), (3, false), (4, false), (5, false), (6, false), (7, false), (8, false), (10, false), (11, false), (13, false), (14, false), (15, false), (16, false), (9, true), (12, false), (17, false), (18, true)] (by kernel_rfl) rfl ((sk (sd (sk (List.Sublist.refl _))))) ?_
   repeat (first | refine dre_rd (fun _ _ => ov_p rfl) rfl ?_ | (refine dre_rd (fun _ _ => ov_ar rfl rfl rfl ?_ ?_) rfl ?_; omega; omega) | refine dre_rd (fun _ _ => ov_ld 0 rfl rfl rfl) rfl ?_ | (refine dre_rd (fun _ _ => ov_indexAddr rfl rfl ?_ ?_) rfl ?_; omega; omega))
   refine dre_rd (fun _ _ => ov_call rfl (fun w _ => fwidth_c ((⟨5, 0, 0, 0, []⟩ : PieT)) 0 rfl (by decide) (by decide) w)) rfl ?_
   repeat (first | refine dre_rd (fun _ _ => ov_p rfl) rfl ?_ | refine dre_rd (fun _ _ => ov_ld 1 rfl rfl rfl) rfl ?_ | (refine dre_rd (fun _ _ => ov_indexAddr rfl rfl ?_ ?_) rfl ?_; omega; omega))
   refine dre_ef rfl ?_
   refine yL 1 ?_
   refine dre_ek (sk (sd (sk (List.Sublist.refl _)))) ?_
   repeat (first | (refine dre_rd (fun _ _ => ov_ar rfl rfl rfl ?_ ?_) rfl ?_; omega; omega) | (refine dre_rd (fun _ _ => ov_indexAddr rfl rfl ?_ ?_) rfl ?_; omega; omega) | (refine dre_ef rfl ?_; refine yS 1 ?_; refine dre_ek (by repeat first | exact sr | apply sk | apply sd) ?_) | refine dre_end ?_)
   repeat (first | refine yK ?_ | (refine gO ?_; first | refine yP ?_ | (refine gB ?_; (refine sy_ov (ov_ar rfl rfl rfl ?_ ?_) rfl rfl ?_; omega; omega)) | (refine gL ?_; refine yL 0 ?_) | (refine gS ?_; refine yS 2 ?_) | refine yF ?_ | (refine sy_ov (ov_indexAddr rfl rfl ?_ ?_) rfl rfl ?_; omega; omega)) | refine yN ?_)
   refine sy_back (α := Int × List Value) (_, _) ?_ (by decide) ⟨⟨_, rfl, rfl⟩, ⟨_, rfl, rfl⟩, ⟨_, rfl, rfl⟩, ⟨_, rfl, rfl⟩, ⟨_, rfl, rfl⟩, ⟨_, rfl, rfl⟩, trivial⟩ (sd (List.Sublist.refl _))
   focus (first | exact .inl rfl | exact .inr (.inl rfl) | exact .inr (.inr (.inl rfl)) | exact .inr (.inr (.inr (.inl rfl))) | exact .inr (.inr (.inr (.inr (.inl rfl)))) | exact .inr (.inr (.inr (.inr (.inr (.inl rfl))))) | exact .inr (.inr (.inr (.inr (.inr (.inr rfl))))))
 · dsimp only
   repeat (first | refine yK ?_ | (refine gO ?_; first | refine yP ?_ | (refine sy_ov (ov_indexAddr rfl rfl ?_ ?_) rfl rfl ?_; omega; omega)) | refine yT ?_)
   refine sy_ov (ov_elem (f := pieV) (l := L30) (y := (⟨1, 1, 0, 0, [97]⟩ : PieT)) hat rfl rfl rfl pieV_len) rfl rfl ?_
   repeat (first | refine yK ?_ | (refine gO ?_; first | refine yP ?_ | (refine gS ?_; refine yS 0 ?_) | (refine yA ?_; intro _)))
   rename_i b6
   refine sy_drawE _ 19 [(0, false), (1, false), (2, false), (3, false), (4, false), (5, false), (6, false), (7, false), (8, false), (10, false), (11, false), (13, false), (14, false), (15, false), (16, false), (9, true), (12, false), (17, false), (18, true)] (by kernel_rfl) rfl ((sk (sd (sk (List.Sublist.refl _))))) ?_
   repeat (first | refine dre_rd (fun _ _ => ov_p rfl) rfl ?_ | (refine dre_rd (fun _ _ => ov_ar rfl rfl rfl ?_ ?_) rfl ?_; omega; omega) | refine dre_rd (fun _ _ => ov_ld 0 rfl rfl rfl) rfl ?_ | (refine dre_rd (fun _ _ => ov_indexAddr rfl rfl ?_ ?_) rfl ?_; omega; omega))
   refine dre_rd (fun _ _ => ov_call rfl (fun w _ => fwidth_c ((⟨1, 1, 0, 0, [97]⟩ : PieT)) 1 rfl (by decide) (by decide) w)) rfl ?_
   repeat (first | refine dre_rd (fun _ _ => ov_p rfl) rfl ?_ | refine dre_rd (fun _ _ => ov_ld 1 rfl rfl rfl) rfl ?_ | (refine dre_rd (fun _ _ => ov_indexAddr rfl rfl ?_ ?_) rfl ?_; omega; omega))
   refine dre_ef rfl ?_
   refine yL 1 ?_
   refine dre_ek (sk (sd (sk (List.Sublist.refl _)))) ?_
   repeat (first | (refine dre_rd (fun _ _ => ov_ar rfl rfl rfl ?_ ?_) rfl ?_; omega; omega) | (refine dre_rd (fun _ _ => ov_indexAddr rfl rfl ?_ ?_) rfl ?_; omega; omega) | (refine dre_ef rfl ?_; refine yS 1 ?_; refine dre_ek (by repeat first | exact sr | apply sk | apply sd) ?_) | refine dre_end ?_)
   repeat (first | refine yK ?_ | (refine gO ?_; first | refine yP ?_ | (refine gB ?_; (refine sy_ov (ov_ar rfl rfl rfl ?_ ?_) rfl rfl ?_; omega; omega)) | (refine gL ?_; refine yL 0 ?_) | (refine gS ?_; refine yS 2 ?_) | refine yF ?_ | (refine sy_ov (ov_indexAddr rfl rfl ?_ ?_) rfl rfl ?_; omega; omega)) | refine yN ?_)
   refine sy_back (α := Int × List Value) (_, _) ?_ (by decide) ⟨⟨_, rfl, rfl⟩, ⟨_, rfl, rfl⟩, ⟨_, rfl, rfl⟩, ⟨_, rfl, rfl⟩, ⟨_, rfl, rfl⟩, ⟨_, rfl, rfl⟩, trivial⟩ (sd (List.Sublist.refl _))
   focus (first | exact .inl rfl | exact .inr (.inl rfl) | exact .inr (.inr (.inl rfl)) | exact .inr (.inr (.inr (.inl rfl))) | exact .inr (.inr (.inr (.inr (.inl rfl)))) | exact .inr (.inr (.inr (.inr (.inr (.inl rfl))))) | exact .inr (.inr (.inr (.inr (.inr (.inr rfl))))))
 · dsimp only
   repeat (first | refine yK ?_ | (refine gO ?_; first | refine yP ?_ | (refine sy_ov (ov_indexAddr rfl rfl ?_ ?_) rfl rfl ?_; omega; omega)) | refine yT ?_)
   refine sy_ov (ov_elem (f := pieV) (l := L30) (y := (⟨2, 1, 0, 0, []⟩ : PieT)) hat rfl rfl rfl pieV_len) rfl rfl ?_
   repeat (first | refine yK ?_ | (refine gO ?_; first | refine yP ?_ | (refine gS ?_; refine yS 0 ?_) | (refine yA ?_; intro _)))
   rename_i b6
   refine sy_drawE _ 19 [(0, false), (1, false), (2, false), (3, false), (4, false), (5, false), (6, false), (7, false), (8, false), (10, false), (11, false), (13, false), (14, false), (15, false), (16, false), (9, true), (12, false), (17, false), (18, true)] (by kernel_rfl) rfl ((sk (sd (sk (List.Sublist.refl _))))) ?_
   repeat (first | refine dre_rd (fun _ _ => ov_p rfl) rfl ?_ | (refine dre_rd (fun _ _ => ov_ar rfl rfl rfl ?_ ?_) rfl ?_; omega; omega) | refine dre_rd (fun _ _ => ov_ld 0 rfl rfl rfl) rfl ?_ | (refine dre_rd (fun _ _ => ov_indexAddr rfl rfl ?_ ?_) rfl ?_; omega; omega))
   refine dre_rd (fun _ _ => ov_call rfl (fun w _ => fwidth_c ((⟨2, 1, 0, 0, []⟩ : PieT)) 1 rfl (by decide) (by decide) w)) rfl ?_
   repeat (first | refine dre_rd (fun _ _ => ov_p rfl) rfl ?_ | refine dre_rd (fun _ _ => ov_ld 1 rfl rfl rfl) rfl ?_ | (refine dre_rd (fun _ _ => ov_indexAddr rfl rfl ?_ ?_) rfl ?_; omega; omega))
   refine dre_ef rfl ?_
   refine yL 1 ?_
   refine dre_ek (sk (sd (sk (List.Sublist.refl _)))) ?_
   repeat (first | (refine dre_rd (fun _ _ => ov_ar rfl rfl rfl ?_ ?_) rfl ?_; omega; omega) | (refine dre_rd (fun _ _ => ov_indexAddr rfl rfl ?_ ?_) rfl ?_; omega; omega) | (refine dre_ef rfl ?_; refine yS 1 ?_; refine dre_ek (by repeat first | exact sr | apply sk | apply sd) ?_) | refine dre_end ?_)
   repeat (first | refine yK ?_ | (refine gO ?_; first | refine yP ?_ | (refine gB ?_; (refine sy_ov (ov_ar rfl rfl rfl ?_ ?_) rfl rfl ?_; omega; omega)) | (refine gL ?_; refine yL 0 ?_) | (refine gS ?_; refine yS 2 ?_) | refine yF ?_ | (refine sy_ov (ov_indexAddr rfl rfl ?_ ?_) rfl rfl ?_; omega; omega)) | refine yN ?_)
   refine sy_back (α := Int × List Value) (_, _) ?_ (by decide) ⟨⟨_, rfl, rfl⟩, ⟨_, rfl, rfl⟩, ⟨_, rfl, rfl⟩, ⟨_, rfl, rfl⟩, ⟨_, rfl, rfl⟩, ⟨_, rfl, rfl⟩, trivial⟩ (sd (List.Sublist.refl _))
   focus (first | exact .inl rfl | exact .inr (.inl rfl) | exact .inr (.inr (.inl rfl)) | exact .inr (.inr (.inr (.inl rfl))) | exact .inr (.inr (.inr (.inr (.inl rfl)))) | exact .inr (.inr (.inr (.inr (.inr (.inl rfl))))) | exact .inr (.inr (.inr (.inr (.inr (.inr rfl))))))
 · dsimp only
   repeat (first | refine yK ?_ | (refine gO ?_; first | refine yP ?_ | (refine sy_ov (ov_indexAddr rfl rfl ?_ ?_) rfl rfl ?_; omega; omega)) | refine yT ?_)
   refine sy_ov (ov_elem (f := pieV) (l := L30) (y := (⟨1, 1, 0, 0, [98]⟩ : PieT)) hat rfl rfl rfl pieV_len) rfl rfl ?_
   repeat (first | refine yK ?_ | (refine gO ?_; first | refine yP ?_ | (refine gS ?_; refine yS 0 ?_) | (refine yA ?_; intro _)))
   rename_i b6
   refine sy_drawE _ 19 [(0, false), (1, false), (2, false), (3, false), (4, false), (5, false), (6, false), (7, false), (8, false), (10, false), (11, false), (13, false), (14, false), (15, false), (16, false), (9, true), (12, false), (17, false), (18, true)] (by kernel_rfl) rfl ((sk (sd (sk (List.Sublist.refl _))))) ?_
   repeat (first | refine dre_rd (fun _ _ => ov_p rfl) rfl ?_ | (refine dre_rd (fun _ _ => ov_ar rfl rfl rfl ?_ ?_) rfl ?_; omega; omega) | refine dre_rd (fun _ _ => ov_ld 0 rfl rfl rfl) rfl ?_ | (refine dre_rd (fun _ _ => ov_indexAddr rfl rfl ?_ ?_) rfl ?_; omega; omega))
   refine dre_rd (fun _ _ => ov_call rfl (fun w _ => fwidth_c ((⟨1, 1, 0, 0, [98]⟩ : PieT)) 1 rfl (by decide) (by decide) w)) rfl ?_
   repeat (first | refine dre_rd (fun _ _ => ov_p rfl) rfl ?_ | refine dre_rd (fun _ _ => ov_ld 1 rfl rfl rfl) rfl ?_ | (refine dre_rd (fun _ _ => ov_indexAddr rfl rfl ?_ ?_) rfl ?_; omega; omega))
   refine dre_ef rfl ?_
   refine yL 1 ?_
   refine dre_ek (sk (sd (sk (List.Sublist.refl _)))) ?_
   repeat (first | (refine dre_rd (fun _ _ => ov_ar rfl rfl rfl ?_ ?_) rfl ?_; omega; omega) | (refine dre_rd (fun _ _ => ov_indexAddr rfl rfl ?_ ?_) rfl ?_; omega; omega) | (refine dre_ef rfl ?_; refine yS 1 ?_; refine dre_ek (by repeat first | exact sr | apply sk | apply sd) ?_) | refine dre_end ?_)
   repeat (first | refine yK ?_ | (refine gO ?_; first | refine yP ?_ | (refine gB ?_; (refine sy_ov (ov_ar rfl rfl rfl ?_ ?_) rfl rfl ?_; omega; omega)) | (refine gL ?_; refine yL 0 ?_) | (refine gS ?_; refine yS 2 ?_) | refine yF ?_ | (refine sy_ov (ov_indexAddr rfl rfl ?_ ?_) rfl rfl ?_; omega; omega)) | refine yN ?_)
   refine sy_back (α := Int × List Value) (_, _) ?_ (by decide) ⟨⟨_, rfl, rfl⟩, ⟨_, rfl, rfl⟩, ⟨_, rfl, rfl⟩, ⟨_, rfl, rfl⟩, ⟨_, rfl, rfl⟩, ⟨_, rfl, rfl⟩, trivial⟩ (sd (List.Sublist.refl _))
   focus (first | exact .inl rfl | exact .inr (.inl rfl) | exact .inr (.inr (.inl rfl)) | exact .inr (.inr (.inr (.inl rfl))) | exact .inr (.inr (.inr (.inr (.inl rfl)))) | exact .inr (.inr (.inr (.inr (.inr (.inl rfl))))) | exact .inr (.inr (.inr (.inr (.inr (.inr rfl))))))
 · dsimp only
   repeat (first | refine yK ?_ | (refine gO ?_; first | refine yP ?_ | (refine sy_ov (ov_indexAddr rfl rfl ?_ ?_) rfl rfl ?_; omega; omega)) | refine yT ?_)
   refine sy_ov (ov_elem (f := pieV) (l := L30) (y := (⟨6, 0, 0, 0, []⟩ : PieT)) hat rfl rfl rfl pieV_len) rfl rfl ?_
   repeat (first | refine yK ?_ | (refine gO ?_; first | refine yP ?_ | (refine gS ?_; refine yS 0 ?_) | (refine yA ?_; intro _)))
   rename_i b6
   refine sy_drawE _ 19 [(0, false), (1, false), (2, false), (3, false), (4, false), (5, false), (6, false), (7, false), (8, false), (10, false), (11, false), (13, false), (14, false), (15, false), (16, false), (9, true), (12, false), (17, false), (18, true)] (by kernel_rfl) rfl ((sk (sd (sk (List.Sublist.refl _))))) ?_
   repeat (first | refine dre_rd (fun _ _ => ov_p rfl) rfl ?_ | (refine dre_rd (fun _ _ => ov_ar rfl rfl rfl ?_ ?_) rfl ?_; omega; omega) | refine dre_rd (fun _ _ => ov_ld 0 rfl rfl rfl) rfl ?_ | (refine dre_rd (fun _ _ => ov_indexAddr rfl rfl ?_ ?_) rfl ?_; omega; omega))
   refine dre_rd (fun _ _ => ov_call rfl (fun w _ => fwidth_c ((⟨6, 0, 0, 0, []⟩ : PieT)) 0 rfl (by decide) (by decide) w)) rfl ?_
   repeat (first | refine dre_rd (fun _ _ => ov_p rfl) rfl ?_ | refine dre_rd (fun _ _ => ov_ld 1 rfl rfl rfl) rfl ?_ | (refine dre_rd (fun _ _ => ov_indexAddr rfl rfl ?_ ?_) rfl ?_; omega; omega))
   refine dre_ef rfl ?_
   refine yL 1 ?_
   refine dre_ek (sk (sd (sk (List.Sublist.refl _)))) ?_
   repeat (first | (refine dre_rd (fun _ _ => ov_ar rfl rfl rfl ?_ ?_) rfl ?_; omega; omega) | (refine dre_rd (fun _ _ => ov_indexAddr rfl rfl ?_ ?_) rfl ?_; omega; omega) | (refine dre_ef rfl ?_; refine yS 1 ?_; refine dre_ek (by repeat first | exact sr | apply sk | apply sd) ?_) | refine dre_end ?_)
   repeat (first | refine yK ?_ | (refine gO ?_; first | refine yP ?_ | (refine gB ?_; (refine sy_ov (ov_ar rfl rfl rfl ?_ ?_) rfl rfl ?_; omega; omega)) | (refine gL ?_; refine yL 0 ?_) | (refine gS ?_; refine yS 2 ?_) | refine yF ?_ | (refine sy_ov (ov_indexAddr rfl rfl ?_ ?_) rfl rfl ?_; omega; omega)) | refine yN ?_)
   refine sy_back (α := Int × List Value) (_, _) ?_ (by decide) ⟨⟨_, rfl, rfl⟩, ⟨_, rfl, rfl⟩, ⟨_, rfl, rfl⟩, ⟨_, rfl, rfl⟩, ⟨_, rfl, rfl⟩, ⟨_, rfl, rfl⟩, trivial⟩ (sd (List.Sublist.refl _))
   focus (first | exact .inl rfl | exact .inr (.inl rfl) | exact .inr (.inr (.inl rfl)) | exact .inr (.inr (.inr (.inl rfl))) | exact .inr (.inr (.inr (.inr (.inl rfl)))) | exact .inr (.inr (.inr (.inr (.inr (.inl rfl))))) | exact .inr (.inr (.inr (.inr (.inr (.inr rfl))))))
 · dsimp only
   repeat (first | refine yK ?_ | (refine gO ?_; first | refine yP ?_ | (refine sy_ov (ov_indexAddr rfl rfl ?_ ?_) rfl rfl ?_; omega; omega)) | refine yT ?_)
   refine sy_ov (ov_elem (f := pieV) (l := L30) (y := (⟨1, 1, 0, 0, [99]⟩ : PieT)) hat rfl rfl rfl pieV_len) rfl rfl ?_
   repeat (first | refine yK ?_ | (refine gO ?_; first | refine yP ?_ | (refine gS ?_; refine yS 0 ?_) | (refine yA ?_; intro _)))
   rename_i b6
   refine sy_drawE _ 19 [(0, false), (1, false), (2, false), (3, false), (4, false), (5, false), (6, false), (7, false), (8, false), (10, false), (11, false), (13, false), (14, false), (15, false), (16, false), (9, true), (12, false), (17, false), (18, true)] (by kernel_rfl) rfl ((sk (sd (sk (List.Sublist.refl _))))) ?_
   repeat (first | refine dre_rd (fun _ _ => ov_p rfl) rfl ?_ | (refine dre_rd (fun _ _ => ov_ar rfl rfl rfl ?_ ?_) rfl ?_; omega; omega) | refine dre_rd (fun _ _ => ov_ld 0 rfl rfl rfl) rfl ?_ | (refine dre_rd (fun _ _ => ov_indexAddr rfl rfl ?_ ?_) rfl ?_; omega; omega))
   refine dre_rd (fun _ _ => ov_call rfl (fun w _ => fwidth_c ((⟨1, 1, 0, 0, [99]⟩ : PieT)) 1 rfl (by decide) (by decide) w)) rfl ?_
   repeat (first | refine dre_rd (fun _ _ => ov_p rfl) rfl ?_ | refine dre_rd (fun _ _ => ov_ld 1 rfl rfl rfl) rfl ?_ | (refine dre_rd (fun _ _ => ov_indexAddr rfl rfl ?_ ?_) rfl ?_; omega; omega))
   refine dre_ef rfl ?_
   refine yL 1 ?_
   refine dre_ek (sk (sd (sk (List.Sublist.refl _)))) ?_
   repeat (first | (refine dre_rd (fun _ _ => ov_ar rfl rfl rfl ?_ ?_) rfl ?_; omega; omega) | (refine dre_rd (fun _ _ => ov_indexAddr rfl rfl ?_ ?_) rfl ?_; omega; omega) | (refine dre_ef rfl ?_; refine yS 1 ?_; refine dre_ek (by repeat first | exact sr | apply sk | apply sd) ?_) | refine dre_end ?_)
   repeat (first | refine yK ?_ | (refine gO ?_; first | refine yP ?_ | (refine gB ?_; (refine sy_ov (ov_ar rfl rfl rfl ?_ ?_) rfl rfl ?_; omega; omega)) | (refine gL ?_; refine yL 0 ?_) | (refine gS ?_; refine yS 2 ?_) | refine yF ?_ | (refine sy_ov (ov_indexAddr rfl rfl ?_ ?_) rfl rfl ?_; omega; omega)) | refine yN ?_)
   refine sy_back (α := Int × List Value) (_, _) ?_ (by decide) ⟨⟨_, rfl, rfl⟩, ⟨_, rfl, rfl⟩, ⟨_, rfl, rfl⟩, ⟨_, rfl, rfl⟩, ⟨_, rfl, rfl⟩, ⟨_, rfl, rfl⟩, trivial⟩ (sd (List.Sublist.refl _))
   focus (first | exact .inl rfl | exact .inr (.inl rfl) | exact .inr (.inr (.inl rfl)) | exact .inr (.inr (.inr (.inl rfl))) | exact .inr (.inr (.inr (.inr (.inl rfl)))) | exact .inr (.inr (.inr (.inr (.inr (.inl rfl))))) | exact .inr (.inr (.inr (.inr (.inr (.inr rfl))))))
 · dsimp only
   repeat (first | refine yK ?_ | (refine gO ?_; refine yP ?_) | refine yN ?_)
   refine sy_callN rfl rfl (fun w hw => ftails_c _ q w (hst.at hw)) ?_
   rintro u es' ⟨bt, rfl, rfl⟩
   simp only [List.cons_append, List.nil_append]
   refine sy_buildSlice rfl rfl rfl rfl rfl rfl rfl rfl ?_
   intro nb
   refine sy_blkVec (size := 1) (m := 6) 1 rfl (by decide) rfl ?_
   refine sy_append 1 0 rfl rfl rfl rfl rfl rfl rfl rfl rfl rfl rfl (by decide) (by decide) ?_
   intro p3 q3
   refine sy_vecAddr 1 rfl (by decide) (fun g hg => ?_)
   cases hg
   refine sy_toBlk 1 rfl (fun tl => ?_)
   simp only [List.set_cons_zero, List.set_cons_succ]
   repeat (first | refine yK ?_ | (refine gO ?_; refine yP ?_))
   refine sy_callN rfl rfl (fun w hw => fclosed_c _ q w (hst.at hw)) ?_
   rintro u es' ⟨bo, rfl, rfl⟩
   simp only [List.cons_append, List.nil_append]
   refine sy_weaken (fun _ _ h => h) (sk (sd (List.Sublist.refl _))) ?_
   repeat (first | refine yK ?_ | (refine gO ?_; first | refine yP ?_ | (refine gK ?_; refine sy_ov (ov_lens rfl) rfl rfl ?_)))
   refine sy_loop (α := Int) (fun i => [(3, .slice (some ⟨b3, 0, none⟩) 7 7), (4, .slice (some ⟨b4, 0, none⟩) 7 7), (7, .slice (some ⟨g, 0, none⟩) 7 q3), (8, .slice (some ⟨bo, 0, none⟩) 6 6), (65, .slice (some ⟨bo, 0, none⟩) 6 6), (66, I 6), (67, I i)])
    (fun i => [blk bo 3 [I 4, I (-1), I (-1), I (-1), I (-1), I (-1)], blk g 3 ([I 1, I 1, I 0, I 2, I 1, I 1, I 0] ++ tl), blk b3 3 [I 0, I 0, I 1, I 2, I 3, I 3, I 4], blk b4 3 [I 0, I 0, I 0, I 0, I 0, I 0, I 0]])
    (fun i => i = 0 ∨ i = 1 ∨ i = 2 ∨ i = 3 ∨ i = 4 ∨ i = 5 ∨ i = 6) (fun i => (6 - i).toNat) 0 (.inl rfl) ⟨⟨_, rfl, rfl⟩, ⟨_, rfl, rfl⟩, ⟨_, rfl, rfl⟩, ⟨_, rfl, rfl⟩, ⟨_, rfl, rfl⟩, ⟨_, rfl, rfl⟩, ⟨_, rfl, rfl⟩, trivial⟩ (List.Sublist.refl _) ?_
   rintro i (rfl | rfl | rfl | rfl | rfl | rfl | rfl)
   · repeat (first | refine yK ?_ | (refine gO ?_; first | refine yP ?_ | (refine gL ?_; refine yL 0 ?_) | (refine sy_ov (ov_indexAddr rfl rfl ?_ ?_) rfl rfl ?_; omega; omega)) | refine yT ?_ | refine yN ?_)
     refine sy_draw 8 (by kernel_rfl) ?_
     repeat (first | refine dr_op (ov_p rfl) rfl rfl ?_ | refine dr_op (ov_ld 3 rfl rfl rfl) rfl rfl ?_ | (refine dr_op (ov_indexAddr rfl rfl ?_ ?_) rfl rfl ?_; omega; omega) | refine dr_end ?_)
     repeat (first | refine yK ?_ | (refine gO ?_; refine yP ?_) | refine yN ?_)
     refine sy_draw 18 (by kernel_rfl) ?_
     repeat (first | refine dr_op (ov_p rfl) rfl rfl ?_ | (refine dr_op (ov_ar rfl rfl rfl ?_ ?_) rfl rfl ?_; omega; omega) | refine dr_op (ov_ld 1 rfl rfl rfl) rfl rfl ?_ | refine dr_op (ov_ld 2 rfl rfl rfl) rfl rfl ?_ | (refine dr_op (ov_indexAddr rfl rfl ?_ ?_) rfl rfl ?_; omega; omega) | refine dr_end ?_)
     repeat (first | refine yK ?_ | (refine gO ?_; first | refine yP ?_ | (refine gB ?_; (refine sy_ov (ov_ar rfl rfl rfl ?_ ?_) rfl rfl ?_; omega; omega)) | (refine gS ?_; refine yS 0 ?_) | (refine sy_ov (ov_indexAddr rfl rfl ?_ ?_) rfl rfl ?_; omega; omega)))
     refine sy_back (α := Int) 1 (by decide) (by decide) ⟨⟨_, rfl, rfl⟩, ⟨_, rfl, rfl⟩, ⟨_, rfl, rfl⟩, ⟨_, rfl, rfl⟩, ⟨_, rfl, rfl⟩, ⟨_, rfl, rfl⟩, ⟨_, rfl, rfl⟩, trivial⟩ (List.Sublist.refl _)
   · repeat (first | refine yK ?_ | (refine gO ?_; first | refine yP ?_ | (refine gB ?_; (refine sy_ov (ov_ar rfl rfl rfl ?_ ?_) rfl rfl ?_; omega; omega)) | (refine gL ?_; refine yL 0 ?_) | (refine sy_ov (ov_indexAddr rfl rfl ?_ ?_) rfl rfl ?_; omega; omega)) | refine yT ?_)
     refine sy_back (α := Int) 2 (by decide) (by decide) ⟨⟨_, rfl, rfl⟩, ⟨_, rfl, rfl⟩, ⟨_, rfl, rfl⟩, ⟨_, rfl, rfl⟩, ⟨_, rfl, rfl⟩, ⟨_, rfl, rfl⟩, ⟨_, rfl, rfl⟩, trivial⟩ (List.Sublist.refl _)
   · repeat (first | refine yK ?_ | (refine gO ?_; first | refine yP ?_ | (refine gB ?_; (refine sy_ov (ov_ar rfl rfl rfl ?_ ?_) rfl rfl ?_; omega; omega)) | (refine gL ?_; refine yL 0 ?_) | (refine sy_ov (ov_indexAddr rfl rfl ?_ ?_) rfl rfl ?_; omega; omega)) | refine yT ?_)
     refine sy_back (α := Int) 3 (by decide) (by decide) ⟨⟨_, rfl, rfl⟩, ⟨_, rfl, rfl⟩, ⟨_, rfl, rfl⟩, ⟨_, rfl, rfl⟩, ⟨_, rfl, rfl⟩, ⟨_, rfl, rfl⟩, ⟨_, rfl, rfl⟩, trivial⟩ (List.Sublist.refl _)
   · repeat (first | refine yK ?_ | (refine gO ?_; first | refine yP ?_ | (refine gB ?_; (refine sy_ov (ov_ar rfl rfl rfl ?_ ?_) rfl rfl ?_; omega; omega)) | (refine gL ?_; refine yL 0 ?_) | (refine sy_ov (ov_indexAddr rfl rfl ?_ ?_) rfl rfl ?_; omega; omega)) | refine yT ?_)
     refine sy_back (α := Int) 4 (by decide) (by decide) ⟨⟨_, rfl, rfl⟩, ⟨_, rfl, rfl⟩, ⟨_, rfl, rfl⟩, ⟨_, rfl, rfl⟩, ⟨_, rfl, rfl⟩, ⟨_, rfl, rfl⟩, ⟨_, rfl, rfl⟩, trivial⟩ (List.Sublist.refl _)
   · repeat (first | refine yK ?_ | (refine gO ?_; first | refine yP ?_ | (refine gB ?_; (refine sy_ov (ov_ar rfl rfl rfl ?_ ?_) rfl rfl ?_; omega; omega)) | (refine gL ?_; refine yL 0 ?_) | (refine sy_ov (ov_indexAddr rfl rfl ?_ ?_) rfl rfl ?_; omega; omega)) | refine yT ?_)
     refine sy_back (α := Int) 5 (by decide) (by decide) ⟨⟨_, rfl, rfl⟩, ⟨_, rfl, rfl⟩, ⟨_, rfl, rfl⟩, ⟨_, rfl, rfl⟩, ⟨_, rfl, rfl⟩, ⟨_, rfl, rfl⟩, ⟨_, rfl, rfl⟩, trivial⟩ (List.Sublist.refl _)
   · repeat (first | refine yK ?_ | (refine gO ?_; first | refine yP ?_ | (refine gB ?_; (refine sy_ov (ov_ar rfl rfl rfl ?_ ?_) rfl rfl ?_; omega; omega)) | (refine gL ?_; refine yL 0 ?_) | (refine sy_ov (ov_indexAddr rfl rfl ?_ ?_) rfl rfl ?_; omega; omega)) | refine yT ?_)
     refine sy_back (α := Int) 6 (by decide) (by decide) ⟨⟨_, rfl, rfl⟩, ⟨_, rfl, rfl⟩, ⟨_, rfl, rfl⟩, ⟨_, rfl, rfl⟩, ⟨_, rfl, rfl⟩, ⟨_, rfl, rfl⟩, ⟨_, rfl, rfl⟩, trivial⟩ (List.Sublist.refl _)
   · repeat (first | refine yK ?_ | (refine gO ?_; refine yP ?_) | refine yN ?_ | refine sy_rt ?_)
     exact ret1w rfl rfl fun w' hw' => ⟨_, _, ⟨bo, rfl, rfl⟩, rfl, hw'.weaken (sk (List.nil_sublist _))⟩
end Go.Proofs.Ytkaeihlpdceokaa