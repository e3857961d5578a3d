/- Contracts: how many columns the groups of the chapter's example need. -/
import Derived.Test.YtkaeihlpdceokaaFit4Q
import Derived.Test.YtkaeihlpdceokaaSyMapQ
set_option linter.unusedVariables false
set_option linter.unusedSimpArgs false
namespace Go.Proofs.Ytkaeihlpdceokaa
open Go.RowKit Bf
set_option maxRecDepth 20000 in
set_option maxHeartbeats 4000000 in
theorem fwidth_c (x : PieT) (W : Int) (hW : x.w = W) (h0 : 0 ≤ W) (h1 : W ≤ 65536) (w : World) : Calls Try.prog 15 #[.agg ⟨pieV x⟩] w fun e w' => e = .returned (.int .i64 W) ∧ Below w.heap.size w w' := by
 obtain ⟨k, W', i, g, s⟩ := x
 dsimp only at hW
 subst hW
 refine sy_enter rfl rfl ?_
 simp only [initFr]
 repeat (first | refine yK ?_ | (refine gO ?_; first | refine yP ?_ | (refine gG ?_; refine yG ?_) | (refine gL ?_; refine yL 0 ?_) | refine yE ?_ | refine yF ?_ | (refine sy_box rfl rfl rfl ?_; intro _)) | refine yN ?_ | refine sy_rt ?_)
 exact ret1 rfl rfl rfl
set_option maxRecDepth 20000 in
set_option maxHeartbeats 4000000 in
theorem fbreaks_c (x : PieT) (b : Bool) (h : decide (2 ≤ x.k ∧ x.k ≤ 4) = b) (w : World) : Calls Try.prog 22 #[.agg ⟨pieV x⟩] w fun e w' => e = .returned (.bool b) ∧ Below w.heap.size w w' := by
 obtain ⟨k, W, i, g, s⟩ := x
 dsimp only at h
 subst h
 by_cases h2 : 2 ≤ k
 · by_cases h4 : k ≤ 4
   · refine sy_enter rfl rfl ?_
     simp only [initFr]
     repeat (first | refine yK ?_ | (refine gO ?_; first | refine yP ?_ | (refine gG ?_; refine yG ?_) | (refine gL ?_; refine yL 0 ?_) | refine yM ?_ | refine yF ?_ | (refine sy_box rfl rfl rfl ?_; intro _)) | refine sy_rt ?_)
     exact ret1 rfl rfl (by simp [h2, h4])
   · refine sy_enter rfl rfl ?_
     simp only [initFr]
     repeat (first | refine yK ?_ | (refine gO ?_; first | refine yP ?_ | (refine gG ?_; refine yG ?_) | (refine gL ?_; refine yL 0 ?_) | refine yM ?_ | refine yF ?_ | (refine sy_box rfl rfl rfl ?_; intro _)) | refine sy_rt ?_)
     exact ret1 rfl rfl (by simp [h2, h4])
 · refine sy_enter rfl rfl ?_
   simp only [initFr]
   repeat (first | refine yK ?_ | (refine gO ?_; first | refine yP ?_ | (refine gG ?_; refine yH ?_) | (refine gL ?_; refine yL 0 ?_) | refine sy_ov (ov_pick rfl rfl rfl) rfl rfl ?_ | refine yF ?_ | (refine sy_box rfl rfl rfl ?_; intro _)) | refine sy_rt ?_)
   exact ret1 rfl rfl (by simp [h2])
abbrev I (n : Int) : Value := .int .i64 n
def L30 : List PieT := [⟨5, 0, 0, 0, []⟩, ⟨1, 1, 0, 0, [97]⟩, ⟨2, 1, 0, 0, []⟩, ⟨1, 1, 0, 0, [98]⟩, ⟨6, 0, 0, 0, []⟩, ⟨1, 1, 0, 0, [99]⟩]
def RwP (cs : List Value) (u : Value) (es : List En) : Prop := ∃ b, u = .slice (some ⟨b, 0, none⟩) 6 6 ∧ es = [blk b 3 cs]
set_option maxRecDepth 20000 in
set_option maxHeartbeats 4000000 in
theorem ftails_c (p : Option Addr) (q : Nat) (w : World) (hw0 : IsSl w 5 p 6 (L30.flatMap pieV)) : Calls Try.prog 16 #[.slice p 6 q] w (PostN w (RwP [I 1, I 1, I 0, I 2, I 1, I 1])) := by
 have hst : St (fun _ => False) w (fun w => IsSl w 5 p 6 (L30.flatMap pieV)) := St.start (IsSl.bl _ _ _ _) hw0
 obtain ⟨b, off, rfl, hat⟩ := hst.addr (by omega)
 refine sy_enter rfl rfl ?_
 simp only [initFr]
 repeat (first | refine yK ?_ | (refine gO ?_; first | refine yP ?_ | (refine gK ?_; refine sy_ov (ov_lens rfl) rfl rfl ?_)) | refine yN ?_)
 refine sy_makeSlice (n := 6) rfl rfl rfl rfl rfl (by decide) (by decide) rfl ?_
 intro bo
 repeat (first | refine yK ?_ | (refine gO ?_; first | refine yP ?_ | (refine gB ?_; (refine sy_ov (ov_ar rfl rfl rfl ?_ ?_) rfl rfl ?_; omega; omega)) | (refine gK ?_; refine sy_ov (ov_lens rfl) rfl rfl ?_)))
 refine sy_loop (α := Int × Int × List Value) (fun a => [(0, .slice (some ⟨b, off, none⟩) 6 q), (3, .slice (some ⟨bo, 0, none⟩) 6 6), (4, I a.2.1), (5, I a.1)]) (fun a => [blk bo 3 a.2.2])
  (fun a => a = (5, 0, [I 0, I 0, I 0, I 0, I 0, I 0]) ∨ a = (4, 1, [I 0, I 0, I 0, I 0, I 0, I 1]) ∨ a = (3, 1, [I 0, I 0, I 0, I 0, I 1, I 1]) ∨ a = (2, 2, [I 0, I 0, I 0, I 2, I 1, I 1]) ∨ a = (1, 0, [I 0, I 0, I 0, I 2, I 1, I 1]) ∨ a = (0, 1, [I 0, I 1, I 0, I 2, I 1, I 1]) ∨ a = (-1, 1, [I 1, I 1, I 0, I 2, I 1, I 1]))
  (fun a => (a.1 + 1).toNat) (5, 0, [I 0, I 0, I 0, I 0, I 0, I 0]) (.inl rfl) ⟨⟨_, rfl, rfl⟩, ⟨_, rfl, rfl⟩, ⟨_, rfl, rfl⟩, ⟨_, rfl, rfl⟩, trivial⟩ (List.Sublist.refl _) ?_
 rintro a (rfl | rfl | rfl | rfl | rfl | rfl | rfl)
 · dsimp only
   repeat (first | refine yK ?_ | (refine gO ?_; first | refine yP ?_ | (refine sy_ov (ov_indexAddr rfl rfl ?_ ?_) rfl rfl ?_; omega; omega)) | refine yT ?_)
   refine sy_ov (ov_elem (f := pieV) (l := L30) (y := (⟨1, 1, 0, 0, [99]⟩ : PieT)) hat rfl rfl rfl pieV_len) rfl rfl ?_
   refine sy_ov (ov_call rfl (fun w _ => fbreaks_c ((⟨1, 1, 0, 0, [99]⟩ : PieT)) false rfl w)) rfl rfl ?_
   repeat (first | refine yK ?_ | (refine gO ?_; first | refine yP ?_ | refine yF ?_ | (refine sy_ov (ov_indexAddr rfl rfl ?_ ?_) rfl rfl ?_; omega; omega)) | refine yN ?_)
   refine sy_ov (ov_cell (f := pieV) (l := L30) (y := (⟨1, 1, 0, 0, [99]⟩ : PieT)) (j := 0) hat rfl rfl rfl rfl pieV_len) rfl rfl ?_
   repeat (first | refine yK ?_ | (refine gO ?_; first | refine yP ?_ | (refine sy_ov (ov_indexAddr rfl rfl ?_ ?_) rfl rfl ?_; omega; omega)) | refine yT ?_)
   refine sy_ov (ov_elem (f := pieV) (l := L30) (y := (⟨1, 1, 0, 0, [99]⟩ : PieT)) hat rfl rfl rfl pieV_len) rfl rfl ?_
   refine sy_ov (ov_call rfl (fun w _ => fwidth_c ((⟨1, 1, 0, 0, [99]⟩ : PieT)) 1 rfl (by decide) (by decide) w)) rfl rfl ?_
   repeat (first | refine yK ?_ | (refine gO ?_; first | refine yP ?_ | (refine gB ?_; (refine sy_ov (ov_ar rfl rfl rfl ?_ ?_) rfl rfl ?_; omega; omega)) | (refine gS ?_; refine yS 0 ?_) | (refine sy_ov (ov_indexAddr rfl rfl ?_ ?_) rfl rfl ?_; omega; omega)))
   refine sy_back (α := Int × Int × List Value) (_, _, _) ?_ (by decide) ⟨⟨_, rfl, rfl⟩, ⟨_, rfl, rfl⟩, ⟨_, rfl, rfl⟩, ⟨_, rfl, rfl⟩, trivial⟩ (List.Sublist.refl _)
   focus (first | exact .inl rfl | exact .inr (.inl rfl) | exact .inr (.inr (.inl rfl)) | exact .inr (.inr (.inr (.inl rfl))) | exact .inr (.inr (.inr (.inr (.inl rfl)))) | exact .inr (.inr (.inr (.inr (.inr (.inl rfl))))) | exact .inr (.inr (.inr (.inr (.inr (.inr rfl))))))
 · dsimp only
   repeat (first | refine yK ?_ | (refine gO ?_; first | refine yP ?_ | (refine sy_ov (ov_indexAddr rfl rfl ?_ ?_) rfl rfl ?_; omega; omega)) | refine yT ?_)
   refine sy_ov (ov_elem (f := pieV) (l := L30) (y := (⟨6, 0, 0, 0, []⟩ : PieT)) hat rfl rfl rfl pieV_len) rfl rfl ?_
   refine sy_ov (ov_call rfl (fun w _ => fbreaks_c ((⟨6, 0, 0, 0, []⟩ : PieT)) false rfl w)) rfl rfl ?_
   repeat (first | refine yK ?_ | (refine gO ?_; first | refine yP ?_ | refine yF ?_ | (refine sy_ov (ov_indexAddr rfl rfl ?_ ?_) rfl rfl ?_; omega; omega)) | refine yN ?_)
   refine sy_ov (ov_cell (f := pieV) (l := L30) (y := (⟨6, 0, 0, 0, []⟩ : PieT)) (j := 0) hat rfl rfl rfl rfl pieV_len) rfl rfl ?_
   repeat (first | refine yK ?_ | (refine gO ?_; first | refine yP ?_ | (refine gB ?_; (refine sy_ov (ov_ar rfl rfl rfl ?_ ?_) rfl rfl ?_; omega; omega)) | (refine gS ?_; refine yS 0 ?_) | (refine sy_ov (ov_indexAddr rfl rfl ?_ ?_) rfl rfl ?_; omega; omega)) | refine yN ?_)
   refine sy_back (α := Int × Int × List Value) (_, _, _) ?_ (by decide) ⟨⟨_, rfl, rfl⟩, ⟨_, rfl, rfl⟩, ⟨_, rfl, rfl⟩, ⟨_, rfl, rfl⟩, trivial⟩ (List.Sublist.refl _)
   focus (first | exact .inl rfl | exact .inr (.inl rfl) | exact .inr (.inr (.inl rfl)) | exact .inr (.inr (.inr (.inl rfl))) | exact .inr (.inr (.inr (.inr (.inl rfl)))) | exact .inr (.inr (.inr (.inr (.inr (.inl rfl))))) | exact .inr (.inr (.inr (.inr (.inr (.inr rfl))))))
 · dsimp only
   repeat (first | refine yK ?_ | (refine gO ?_; first | refine yP ?_ | (refine sy_ov (ov_indexAddr rfl rfl ?_ ?_) rfl rfl ?_; omega; omega)) | refine yT ?_)
   refine sy_ov (ov_elem (f := pieV) (l := L30) (y := (⟨1, 1, 0, 0, [98]⟩ : PieT)) hat rfl rfl rfl pieV_len) rfl rfl ?_
   refine sy_ov (ov_call rfl (fun w _ => fbreaks_c ((⟨1, 1, 0, 0, [98]⟩ : PieT)) false rfl w)) rfl rfl ?_
   repeat (first | refine yK ?_ | (refine gO ?_; first | refine yP ?_ | refine yF ?_ | (refine sy_ov (ov_indexAddr rfl rfl ?_ ?_) rfl rfl ?_; omega; omega)) | refine yN ?_)
   refine sy_ov (ov_cell (f := pieV) (l := L30) (y := (⟨1, 1, 0, 0, [98]⟩ : PieT)) (j := 0) hat rfl rfl rfl rfl pieV_len) rfl rfl ?_
   repeat (first | refine yK ?_ | (refine gO ?_; first | refine yP ?_ | (refine sy_ov (ov_indexAddr rfl rfl ?_ ?_) rfl rfl ?_; omega; omega)) | refine yT ?_)
   refine sy_ov (ov_elem (f := pieV) (l := L30) (y := (⟨1, 1, 0, 0, [98]⟩ : PieT)) hat rfl rfl rfl pieV_len) rfl rfl ?_
   refine sy_ov (ov_call rfl (fun w _ => fwidth_c ((⟨1, 1, 0, 0, [98]⟩ : PieT)) 1 rfl (by decide) (by decide) w)) rfl rfl ?_
   repeat (first | refine yK ?_ | (refine gO ?_; first | refine yP ?_ | (refine gB ?_; (refine sy_ov (ov_ar rfl rfl rfl ?_ ?_) rfl rfl ?_; omega; omega)) | (refine gS ?_; refine yS 0 ?_) | (refine sy_ov (ov_indexAddr rfl rfl ?_ ?_) rfl rfl ?_; omega; omega)))
   refine sy_back (α := Int × Int × List Value) (_, _, _) ?_ (by decide) ⟨⟨_, rfl, rfl⟩, ⟨_, rfl, rfl⟩, ⟨_, rfl, rfl⟩, ⟨_, rfl, rfl⟩, trivial⟩ (List.Sublist.refl _)
   focus (first | exact .inl rfl | exact .inr (.inl rfl) | exact .inr (.inr (.inl rfl)) | exact .inr (.inr (.inr (.inl rfl))) | exact .inr (.inr (.inr (.inr (.inl rfl)))) | exact .inr (.inr (.inr (.inr (.inr (.inl rfl))))) | exact .inr (.inr (.inr (.inr (.inr (.inr rfl))))))
 · dsimp only
   repeat (first | refine yK ?_ | (refine gO ?_; first | refine yP ?_ | (refine sy_ov (ov_indexAddr rfl rfl ?_ ?_) rfl rfl ?_; omega; omega)) | refine yT ?_)
   refine sy_ov (ov_elem (f := pieV) (l := L30) (y := (⟨2, 1, 0, 0, []⟩ : PieT)) hat rfl rfl rfl pieV_len) rfl rfl ?_
   refine sy_ov (ov_call rfl (fun w _ => fbreaks_c ((⟨2, 1, 0, 0, []⟩ : PieT)) true rfl w)) rfl rfl ?_
   repeat (first | refine yK ?_ | (refine gO ?_; first | refine yP ?_ | (refine gB ?_; (refine sy_ov (ov_ar rfl rfl rfl ?_ ?_) rfl rfl ?_; omega; omega)) | (refine gS ?_; refine yS 0 ?_) | (refine sy_ov (ov_indexAddr rfl rfl ?_ ?_) rfl rfl ?_; omega; omega)) | refine yT ?_)
   refine sy_back (α := Int × Int × List Value) (_, _, _) ?_ (by decide) ⟨⟨_, rfl, rfl⟩, ⟨_, rfl, rfl⟩, ⟨_, rfl, rfl⟩, ⟨_, rfl, rfl⟩, trivial⟩ (List.Sublist.refl _)
   focus (first | exact .inl rfl | exact .inr (.inl rfl) | exact .inr (.inr (.inl rfl)) | exact .inr (.inr (.inr (.inl rfl))) | exact .inr (.inr (.inr (.inr (.inl rfl)))) | exact .inr (.inr (.inr (.inr (.inr (.inl rfl))))) | exact .inr (.inr (.inr (.inr (.inr (.inr rfl))))))
 · dsimp only
   repeat (first | refine yK ?_ | (refine gO ?_; first | refine yP ?_ | (refine sy_ov (ov_indexAddr rfl rfl ?_ ?_) rfl rfl ?_; omega; omega)) | refine yT ?_)
   refine sy_ov (ov_elem (f := pieV) (l := L30) (y := (⟨1, 1, 0, 0, [97]⟩ : PieT)) hat rfl rfl rfl pieV_len) rfl rfl ?_
   refine sy_ov (ov_call rfl (fun w _ => fbreaks_c ((⟨1, 1, 0, 0, [97]⟩ : PieT)) false rfl w)) rfl rfl ?_
   repeat (first | refine yK ?_ | (refine gO ?_; first | refine yP ?_ | refine yF ?_ | (refine sy_ov (ov_indexAddr rfl rfl ?_ ?_) rfl rfl ?_; omega; omega)) | refine yN ?_)
   refine sy_ov (ov_cell (f := pieV) (l := L30) (y := (⟨1, 1, 0, 0, [97]⟩ : PieT)) (j := 0) hat rfl rfl rfl rfl pieV_len) rfl rfl ?_
   repeat (first | refine yK ?_ | (refine gO ?_; first | refine yP ?_ | (refine sy_ov (ov_indexAddr rfl rfl ?_ ?_) rfl rfl ?_; omega; omega)) | refine yT ?_)
   refine sy_ov (ov_elem (f := pieV) (l := L30) (y := (⟨1, 1, 0, 0, [97]⟩ : PieT)) hat rfl rfl rfl pieV_len) rfl rfl ?_
   refine sy_ov (ov_call rfl (fun w _ => fwidth_c ((⟨1, 1, 0, 0, [97]⟩ : PieT)) 1 rfl (by decide) (by decide) w)) rfl rfl ?_
   repeat (first | refine yK ?_ | (refine gO ?_; first | refine yP ?_ | (refine gB ?_; (refine sy_ov (ov_ar rfl rfl rfl ?_ ?_) rfl rfl ?_; omega; omega)) | (refine gS ?_; refine yS 0 ?_) | (refine sy_ov (ov_indexAddr rfl rfl ?_ ?_) rfl rfl ?_; omega; omega)))
   refine sy_back (α := Int × Int × List Value) (_, _, _) ?_ (by decide) ⟨⟨_, rfl, rfl⟩, ⟨_, rfl, rfl⟩, ⟨_, rfl, rfl⟩, ⟨_, rfl, rfl⟩, trivial⟩ (List.Sublist.refl _)
   focus (first | exact .inl rfl | exact .inr (.inl rfl) | exact .inr (.inr (.inl rfl)) | exact .inr (.inr (.inr (.inl rfl))) | exact .inr (.inr (.inr (.inr (.inl rfl)))) | exact .inr (.inr (.inr (.inr (.inr (.inl rfl))))) | exact .inr (.inr (.inr (.inr (.inr (.inr rfl))))))
 · dsimp only
   repeat (first | refine yK ?_ | (refine gO ?_; first | refine yP ?_ | (refine sy_ov (ov_indexAddr rfl rfl ?_ ?_) rfl rfl ?_; omega; omega)) | refine yT ?_)
   refine sy_ov (ov_elem (f := pieV) (l := L30) (y := (⟨5, 0, 0, 0, []⟩ : PieT)) hat rfl rfl rfl pieV_len) rfl rfl ?_
   refine sy_ov (ov_call rfl (fun w _ => fbreaks_c ((⟨5, 0, 0, 0, []⟩ : PieT)) false rfl w)) rfl rfl ?_
   repeat (first | refine yK ?_ | (refine gO ?_; first | refine yP ?_ | refine yF ?_ | (refine sy_ov (ov_indexAddr rfl rfl ?_ ?_) rfl rfl ?_; omega; omega)) | refine yN ?_)
   refine sy_ov (ov_cell (f := pieV) (l := L30) (y := (⟨5, 0, 0, 0, []⟩ : PieT)) (j := 0) hat rfl rfl rfl rfl pieV_len) rfl rfl ?_
   repeat (first | refine yK ?_ | (refine gO ?_; first | refine yP ?_ | (refine gB ?_; (refine sy_ov (ov_ar rfl rfl rfl ?_ ?_) rfl rfl ?_; omega; omega)) | (refine gS ?_; refine yS 0 ?_) | (refine sy_ov (ov_indexAddr rfl rfl ?_ ?_) rfl rfl ?_; omega; omega)) | refine yN ?_)
   refine sy_back (α := Int × Int × List Value) (_, _, _) ?_ (by decide) ⟨⟨_, rfl, rfl⟩, ⟨_, rfl, rfl⟩, ⟨_, rfl, rfl⟩, ⟨_, rfl, rfl⟩, trivial⟩ (List.Sublist.refl _)
   focus (first | exact .inl rfl | exact .inr (.inl rfl) | exact .inr (.inr (.inl rfl)) | exact .inr (.inr (.inr (.inl rfl))) | exact .inr (.inr (.inr (.inr (.inl rfl)))) | exact .inr (.inr (.inr (.inr (.inr (.inl rfl))))) | exact .inr (.inr (.inr (.inr (.inr (.inr rfl))))))
 · dsimp only
   repeat (first | refine yK ?_ | (refine gO ?_; refine yP ?_) | refine yN ?_ | refine sy_rt ?_)
   exact ret1w rfl rfl fun w' hw' => ⟨_, _, ⟨bo, rfl, rfl⟩, rfl, hw'.weaken (List.Sublist.refl _)⟩
set_option maxRecDepth 20000 in
set_option maxHeartbeats 4000000 in
theorem fclosed_c (p : Option Addr) (q : Nat) (w : World) (hw0 : IsSl w 5 p 6 (L30.flatMap pieV)) : Calls Try.prog 17 #[.slice p 6 q] w (PostN w (RwP [I 4, I (-1), I (-1), I (-1), I (-1), I (-1)])) := by
 have hst : St (fun _ => False) w (fun w => IsSl w 5 p 6 (L30.flatMap pieV)) := St.start (IsSl.bl _ _ _ _) hw0
 obtain ⟨b, off, rfl, hat⟩ := hst.addr (by omega)
 refine sy_enter rfl rfl ?_
 simp only [initFr]
 repeat (first | refine yK ?_ | (refine gO ?_; first | refine yP ?_ | (refine gK ?_; refine sy_ov (ov_lens rfl) rfl rfl ?_)))
 refine sy_makeSlice (n := 6) rfl rfl rfl rfl rfl (by decide) (by decide) rfl ?_
 intro bo
 repeat (first | refine yK ?_ | (refine gO ?_; refine yP ?_))
 refine sy_makeMap rfl ?_
 intro bm
 repeat (first | refine yK ?_ | (refine gO ?_; first | refine yP ?_ | (refine gB ?_; (refine sy_ov (ov_ar rfl rfl rfl ?_ ?_) rfl rfl ?_; omega; omega)) | (refine gK ?_; refine sy_ov (ov_lens rfl) rfl rfl ?_)))
 refine sy_loop (α := Int × List Value × List MapEntry × Nat) (fun a => [(0, .slice (some ⟨b, off, none⟩) 6 q), (3, .slice (some ⟨bo, 0, none⟩) 6 6), (4, .map (some bm)), (5, I a.1)]) (fun a => [mapE bm a.2.2.1 a.2.2.2, blk bo 3 a.2.1])
  (fun a => a = (5, [I 0, I 0, I 0, I 0, I 0, I 0], [], 0) ∨ a = (4, [I 0, I 0, I 0, I 0, I 0, I (-1)], [], 0) ∨ a = (3, [I 0, I 0, I 0, I 0, I (-1), I (-1)], [⟨I 0, I 4, 0⟩], 1) ∨ a = (2, [I 0, I 0, I 0, I (-1), I (-1), I (-1)], [⟨I 0, I 4, 0⟩], 1) ∨ a = (1, [I 0, I 0, I (-1), I (-1), I (-1), I (-1)], [⟨I 0, I 4, 0⟩], 1) ∨ a = (0, [I 0, I (-1), I (-1), I (-1), I (-1), I (-1)], [⟨I 0, I 4, 0⟩], 1) ∨ a = (-1, [I 4, I (-1), I (-1), I (-1), I (-1), I (-1)], [⟨I 0, I 4, 0⟩], 1))
  (fun a => (a.1 + 1).toNat) (5, [I 0, I 0, I 0, I 0, I 0, I 0], [], 0) (.inl rfl) ⟨⟨_, rfl, rfl⟩, ⟨_, rfl, rfl⟩, ⟨_, rfl, rfl⟩, ⟨_, rfl, rfl⟩, trivial⟩ (List.Sublist.refl _) ?_
 rintro a (rfl | rfl | rfl | rfl | rfl | rfl | rfl)
 · dsimp only
   repeat (first | refine yK ?_ | (refine gO ?_; first | refine yP ?_ | (refine gS ?_; refine yS 1 ?_) | refine yF ?_ | (refine sy_ov (ov_indexAddr rfl rfl ?_ ?_) rfl rfl ?_; omega; omega)) | refine yT ?_)
   refine sy_ov (ov_cell (f := pieV) (l := L30) (y := (⟨1, 1, 0, 0, [99]⟩ : PieT)) (j := 3) hat rfl rfl rfl rfl pieV_len) rfl rfl ?_
   skip
   refine sy_ov (ov_lookupI (z := I 0) (v := I 0) (ok := false) (r := none) 0 rfl rfl rfl rfl rfl rfl) rfl rfl ?_
   repeat (first | refine yK ?_ | (refine gO ?_; first | refine yP ?_ | (refine gG ?_; refine yH ?_) | refine sy_ov (ov_pick rfl rfl rfl) rfl rfl ?_ | refine yF ?_ | (refine sy_ov (ov_indexAddr rfl rfl ?_ ?_) rfl rfl ?_; omega; omega)) | refine yN ?_)
   refine sy_ov (ov_cell (f := pieV) (l := L30) (y := (⟨1, 1, 0, 0, [99]⟩ : PieT)) (j := 0) hat rfl rfl rfl rfl pieV_len) rfl rfl ?_
   repeat (first | refine yK ?_ | (refine gO ?_; first | refine yP ?_ | (refine gB ?_; (refine sy_ov (ov_ar rfl rfl rfl ?_ ?_) rfl rfl ?_; omega; omega))) | refine yN ?_)
   refine sy_back (α := Int × List Value × List MapEntry × Nat) (_, _, _, _) ?_ (by decide) ⟨⟨_, rfl, rfl⟩, ⟨_, rfl, rfl⟩, ⟨_, rfl, rfl⟩, ⟨_, rfl, rfl⟩, trivial⟩ (List.Sublist.refl _)
   focus (first | exact .inl rfl | exact .inr (.inl rfl) | exact .inr (.inr (.inl rfl)) | exact .inr (.inr (.inr (.inl rfl))) | exact .inr (.inr (.inr (.inr (.inl rfl)))) | exact .inr (.inr (.inr (.inr (.inr (.inl rfl))))) | exact .inr (.inr (.inr (.inr (.inr (.inr rfl))))))
 · dsimp only
   repeat (first | refine yK ?_ | (refine gO ?_; first | refine yP ?_ | (refine gS ?_; refine yS 1 ?_) | refine yF ?_ | (refine sy_ov (ov_indexAddr rfl rfl ?_ ?_) rfl rfl ?_; omega; omega)) | refine yT ?_)
   refine sy_ov (ov_cell (f := pieV) (l := L30) (y := (⟨6, 0, 0, 0, []⟩ : PieT)) (j := 3) hat rfl rfl rfl rfl pieV_len) rfl rfl ?_
   skip
   refine sy_ov (ov_lookupI (z := I 0) (v := I 0) (ok := false) (r := none) 0 rfl rfl rfl rfl rfl rfl) rfl rfl ?_
   repeat (first | refine yK ?_ | (refine gO ?_; first | refine yP ?_ | (refine gG ?_; refine yH ?_) | refine sy_ov (ov_pick rfl rfl rfl) rfl rfl ?_ | refine yF ?_ | (refine sy_ov (ov_indexAddr rfl rfl ?_ ?_) rfl rfl ?_; omega; omega)) | refine yN ?_)
   refine sy_ov (ov_cell (f := pieV) (l := L30) (y := (⟨6, 0, 0, 0, []⟩ : PieT)) (j := 0) hat rfl rfl rfl rfl pieV_len) rfl rfl ?_
   repeat (first | refine yK ?_ | (refine gO ?_; first | refine yP ?_ | refine yF ?_ | (refine sy_ov (ov_indexAddr rfl rfl ?_ ?_) rfl rfl ?_; omega; omega)) | refine yT ?_)
   refine sy_ov (ov_cell (f := pieV) (l := L30) (y := (⟨6, 0, 0, 0, []⟩ : PieT)) (j := 3) hat rfl rfl rfl rfl pieV_len) rfl rfl ?_
   repeat ((refine gO ?_; refine yP ?_))
   refine sy_mapNew 0 rfl rfl rfl rfl rfl rfl ?_
   simp only [List.set_cons_zero, List.nil_append]
   repeat (first | refine yK ?_ | (refine gO ?_; first | refine yP ?_ | (refine gB ?_; (refine sy_ov (ov_ar rfl rfl rfl ?_ ?_) rfl rfl ?_; omega; omega))))
   refine sy_back (α := Int × List Value × List MapEntry × Nat) (_, _, _, _) ?_ (by decide) ⟨⟨_, rfl, rfl⟩, ⟨_, rfl, rfl⟩, ⟨_, rfl, rfl⟩, ⟨_, rfl, rfl⟩, trivial⟩ (List.Sublist.refl _)
   focus (first | exact .inl rfl | exact .inr (.inl rfl) | exact .inr (.inr (.inl rfl)) | exact .inr (.inr (.inr (.inl rfl))) | exact .inr (.inr (.inr (.inr (.inl rfl)))) | exact .inr (.inr (.inr (.inr (.inr (.inl rfl))))) | exact .inr (.inr (.inr (.inr (.inr (.inr rfl))))))
 · dsimp only
   repeat (first | refine yK ?_ | (refine gO ?_; first | refine yP ?_ | (refine gS ?_; refine yS 1 ?_) | refine yF ?_ | (refine sy_ov (ov_indexAddr rfl rfl ?_ ?_) rfl rfl ?_; omega; omega)) | refine yT ?_)
   refine sy_ov (ov_cell (f := pieV) (l := L30) (y := (⟨1, 1, 0, 0, [98]⟩ : PieT)) (j := 3) hat rfl rfl rfl rfl pieV_len) rfl rfl ?_
   skip
   refine sy_ov (ov_lookupI (z := I 0) (v := I 4) (ok := true) (r := some (0, I 4)) 0 rfl rfl rfl rfl rfl rfl) rfl rfl ?_
   repeat (first | refine yK ?_ | (refine gO ?_; first | refine yP ?_ | (refine gG ?_; refine yG ?_) | refine yF ?_ | (refine sy_ov (ov_indexAddr rfl rfl ?_ ?_) rfl rfl ?_; omega; omega)))
   refine sy_ov (ov_cell (f := pieV) (l := L30) (y := (⟨1, 1, 0, 0, [98]⟩ : PieT)) (j := 0) hat rfl rfl rfl rfl pieV_len) rfl rfl ?_
   repeat (first | refine yK ?_ | (refine gO ?_; first | refine yP ?_ | (refine gG ?_; refine yG ?_) | refine yM ?_ | refine yF ?_ | (refine sy_ov (ov_indexAddr rfl rfl ?_ ?_) rfl rfl ?_; omega; omega)) | refine yN ?_)
   refine sy_ov (ov_cell (f := pieV) (l := L30) (y := (⟨1, 1, 0, 0, [98]⟩ : PieT)) (j := 0) hat rfl rfl rfl rfl pieV_len) rfl rfl ?_
   repeat (first | refine yK ?_ | (refine gO ?_; first | refine yP ?_ | (refine gB ?_; (refine sy_ov (ov_ar rfl rfl rfl ?_ ?_) rfl rfl ?_; omega; omega))) | refine yN ?_)
   refine sy_back (α := Int × List Value × List MapEntry × Nat) (_, _, _, _) ?_ (by decide) ⟨⟨_, rfl, rfl⟩, ⟨_, rfl, rfl⟩, ⟨_, rfl, rfl⟩, ⟨_, rfl, rfl⟩, trivial⟩ (List.Sublist.refl _)
   focus (first | exact .inl rfl | exact .inr (.inl rfl) | exact .inr (.inr (.inl rfl)) | exact .inr (.inr (.inr (.inl rfl))) | exact .inr (.inr (.inr (.inr (.inl rfl)))) | exact .inr (.inr (.inr (.inr (.inr (.inl rfl))))) | exact .inr (.inr (.inr (.inr (.inr (.inr rfl))))))
 · dsimp only
   repeat (first | refine yK ?_ | (refine gO ?_; first | refine yP ?_ | (refine gS ?_; refine yS 1 ?_) | refine yF ?_ | (refine sy_ov (ov_indexAddr rfl rfl ?_ ?_) rfl rfl ?_; omega; omega)) | refine yT ?_)
   refine sy_ov (ov_cell (f := pieV) (l := L30) (y := (⟨2, 1, 0, 0, []⟩ : PieT)) (j := 3) hat rfl rfl rfl rfl pieV_len) rfl rfl ?_
   skip
   refine sy_ov (ov_lookupI (z := I 0) (v := I 4) (ok := true) (r := some (0, I 4)) 0 rfl rfl rfl rfl rfl rfl) rfl rfl ?_
   repeat (first | refine yK ?_ | (refine gO ?_; first | refine yP ?_ | (refine gG ?_; refine yG ?_) | refine yF ?_ | (refine sy_ov (ov_indexAddr rfl rfl ?_ ?_) rfl rfl ?_; omega; omega)))
   refine sy_ov (ov_cell (f := pieV) (l := L30) (y := (⟨2, 1, 0, 0, []⟩ : PieT)) (j := 0) hat rfl rfl rfl rfl pieV_len) rfl rfl ?_
   repeat (first | refine yK ?_ | (refine gO ?_; first | refine yP ?_ | (refine gG ?_; refine yG ?_) | refine yM ?_ | refine yF ?_ | (refine sy_ov (ov_indexAddr rfl rfl ?_ ?_) rfl rfl ?_; omega; omega)) | refine yN ?_)
   refine sy_ov (ov_cell (f := pieV) (l := L30) (y := (⟨2, 1, 0, 0, []⟩ : PieT)) (j := 0) hat rfl rfl rfl rfl pieV_len) rfl rfl ?_
   repeat (first | refine yK ?_ | (refine gO ?_; first | refine yP ?_ | (refine gB ?_; (refine sy_ov (ov_ar rfl rfl rfl ?_ ?_) rfl rfl ?_; omega; omega))) | refine yN ?_)
   refine sy_back (α := Int × List Value × List MapEntry × Nat) (_, _, _, _) ?_ (by decide) ⟨⟨_, rfl, rfl⟩, ⟨_, rfl, rfl⟩, ⟨_, rfl, rfl⟩, ⟨_, rfl, rfl⟩, trivial⟩ (List.Sublist.refl _)
   focus (first | exact .inl rfl | exact .inr (.inl rfl) | exact .inr (.inr (.inl rfl)) | exact .inr (.inr (.inr (.inl rfl))) | exact .inr (.inr (.inr (.inr (.inl rfl)))) | exact .inr (.inr (.inr (.inr (.inr (.inl rfl))))) | exact .inr (.inr (.inr (.inr (.inr (.inr rfl))))))
 · dsimp only
   repeat (first | refine yK ?_ | (refine gO ?_; first | refine yP ?_ | (refine gS ?_; refine yS 1 ?_) | refine yF ?_ | (refine sy_ov (ov_indexAddr rfl rfl ?_ ?_) rfl rfl ?_; omega; omega)) | refine yT ?_)
   refine sy_ov (ov_cell (f := pieV) (l := L30) (y := (⟨1, 1, 0, 0, [97]⟩ : PieT)) (j := 3) hat rfl rfl rfl rfl pieV_len) rfl rfl ?_
   skip
   refine sy_ov (ov_lookupI (z := I 0) (v := I 4) (ok := true) (r := some (0, I 4)) 0 rfl rfl rfl rfl rfl rfl) rfl rfl ?_
   repeat (first | refine yK ?_ | (refine gO ?_; first | refine yP ?_ | (refine gG ?_; refine yG ?_) | refine yF ?_ | (refine sy_ov (ov_indexAddr rfl rfl ?_ ?_) rfl rfl ?_; omega; omega)))
   refine sy_ov (ov_cell (f := pieV) (l := L30) (y := (⟨1, 1, 0, 0, [97]⟩ : PieT)) (j := 0) hat rfl rfl rfl rfl pieV_len) rfl rfl ?_
   repeat (first | refine yK ?_ | (refine gO ?_; first | refine yP ?_ | (refine gG ?_; refine yG ?_) | refine yM ?_ | refine yF ?_ | (refine sy_ov (ov_indexAddr rfl rfl ?_ ?_) rfl rfl ?_; omega; omega)) | refine yN ?_)
   refine sy_ov (ov_cell (f := pieV) (l := L30) (y := (⟨1, 1, 0, 0, [97]⟩ : PieT)) (j := 0) hat rfl rfl rfl rfl pieV_len) rfl rfl ?_
   repeat (first | refine yK ?_ | (refine gO ?_; first | refine yP ?_ | (refine gB ?_; (refine sy_ov (ov_ar rfl rfl rfl ?_ ?_) rfl rfl ?_; omega; omega))) | refine yN ?_)
   refine sy_back (α := Int × List Value × List MapEntry × Nat) (_, _, _, _) ?_ (by decide) ⟨⟨_, rfl, rfl⟩, ⟨_, rfl, rfl⟩, ⟨_, rfl, rfl⟩, ⟨_, rfl, rfl⟩, trivial⟩ (List.Sublist.refl _)
   focus (first | exact .inl rfl | exact .inr (.inl rfl) | exact .inr (.inr (.inl rfl)) | exact .inr (.inr (.inr (.inl rfl))) | exact .inr (.inr (.inr (.inr (.inl rfl)))) | exact .inr (.inr (.inr (.inr (.inr (.inl rfl))))) | exact .inr (.inr (.inr (.inr (.inr (.inr rfl))))))
 · dsimp only
   repeat (first | refine yK ?_ | (refine gO ?_; first | refine yP ?_ | (refine gS ?_; refine yS 1 ?_) | refine yF ?_ | (refine sy_ov (ov_indexAddr rfl rfl ?_ ?_) rfl rfl ?_; omega; omega)) | refine yT ?_)
   refine sy_ov (ov_cell (f := pieV) (l := L30) (y := (⟨5, 0, 0, 0, []⟩ : PieT)) (j := 3) hat rfl rfl rfl rfl pieV_len) rfl rfl ?_
   skip
   refine sy_ov (ov_lookupI (z := I 0) (v := I 4) (ok := true) (r := some (0, I 4)) 0 rfl rfl rfl rfl rfl rfl) rfl rfl ?_
   repeat (first | refine yK ?_ | (refine gO ?_; first | refine yP ?_ | (refine gG ?_; refine yG ?_) | refine yF ?_ | (refine sy_ov (ov_indexAddr rfl rfl ?_ ?_) rfl rfl ?_; omega; omega)))
   refine sy_ov (ov_cell (f := pieV) (l := L30) (y := (⟨5, 0, 0, 0, []⟩ : PieT)) (j := 0) hat rfl rfl rfl rfl pieV_len) rfl rfl ?_
   repeat (first | refine yK ?_ | (refine gO ?_; first | refine yP ?_ | (refine gG ?_; refine yG ?_) | (refine gS ?_; refine yS 1 ?_) | refine yM ?_ | refine yF ?_ | (refine sy_ov (ov_indexAddr rfl rfl ?_ ?_) rfl rfl ?_; omega; omega)) | refine yT ?_)
   refine sy_ov (ov_cell (f := pieV) (l := L30) (y := (⟨5, 0, 0, 0, []⟩ : PieT)) (j := 0) hat rfl rfl rfl rfl pieV_len) rfl rfl ?_
   repeat (first | refine yK ?_ | (refine gO ?_; first | refine yP ?_ | (refine gB ?_; (refine sy_ov (ov_ar rfl rfl rfl ?_ ?_) rfl rfl ?_; omega; omega))) | refine yN ?_)
   refine sy_back (α := Int × List Value × List MapEntry × Nat) (_, _, _, _) ?_ (by decide) ⟨⟨_, rfl, rfl⟩, ⟨_, rfl, rfl⟩, ⟨_, rfl, rfl⟩, ⟨_, rfl, rfl⟩, trivial⟩ (List.Sublist.refl _)
   focus (first | exact .inl rfl | exact .inr (.inl rfl) | exact .inr (.inr (.inl rfl)) | exact .inr (.inr (.inr (.inl rfl))) | exact .inr (.inr (.inr (.inr (.inl rfl)))) | exact .inr (.inr (.inr (.inr (.inr (.inl rfl))))) | exact .inr (.inr (.inr (.inr (.inr (.inr rfl))))))
 · dsimp only
   repeat (first | refine yK ?_ | (refine gO ?_; refine yP ?_) | refine yN ?_ | refine sy_rt ?_)
   exact ret1w rfl rfl fun w' hw' => ⟨_, _, ⟨bo, rfl, rfl⟩, rfl, hw'.weaken (sd (List.Sublist.refl _))⟩
end Go.Proofs.Ytkaeihlpdceokaa