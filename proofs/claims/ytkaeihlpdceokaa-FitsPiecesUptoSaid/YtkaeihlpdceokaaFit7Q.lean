/- Contract: the example of the chapter of pieces. -/
import Derived.Test.YtkaeihlpdceokaaFit6Q
import Derived.Test.YtkaeihlpdceokaaBDO
set_option linter.unusedVariables false
set_option linter.unusedSimpArgs false
namespace Go.Proofs.Ytkaeihlpdceokaa
open Go.RowKit Bf
theorem docJ00 (w : World) (k n : Int) (s : List UInt8) : DocJ w (.mk k n s none 0 []) := .mk k n s none 0 [] (Nat.zero_le _) (IsSl.nil _ _ _) (fun x hx => by cases hx)
theorem ascii_dec (c : UInt8) (h : decS [c] = ((c.toNat : Int), 1, true)) : validB [c] = true := by
 unfold validB; rw [badL_ok _ _ _ (by simp) h]; simp [badL_nil]
theorem valid97 : validB [97] = true := ascii_dec 97 (by decide)
theorem valid98 : validB [98] = true := ascii_dec 98 (by decide)
theorem valid99 : validB [99] = true := ascii_dec 99 (by decide)
def kidsA : List DocA := [.mk 1 0 [97] none 0 [], .mk 2 0 [] none 0 [], .mk 1 0 [98] none 0 []]
def kidsB (b : Nat) : List DocA := [.mk 7 0 [] (some ⟨b, 0, none⟩) 3 kidsA, .mk 1 0 [99] none 0 []]
def z30 (b c : Nat) : DocA := .mk 5 0 [] (some ⟨c, 0, none⟩) 2 (kidsB b)
theorem w97 : widthL [97] = 1 := by
 have h := widthL_step [97] (by simp)
 rw [show unitS [97] = (1, 1) by decide] at h
 rw [h]; simp [widthL_nil]
theorem w98 : widthL [98] = 1 := by
 have h := widthL_step [98] (by simp)
 rw [show unitS [98] = (1, 1) by decide] at h
 rw [h]; simp [widthL_nil]
theorem w99 : widthL [99] = 1 := by
 have h := widthL_step [99] (by simp)
 rw [show unitS [99] = (1, 1) by decide] at h
 rw [h]; simp [widthL_nil]
theorem z30_right (b c : Nat) : rightD (plD (z30 b c)) = true := by
 simp [z30, kidsB, kidsA, plD, plDs, rightD, rightDs, ownD, valid97, valid98, valid99]
theorem z30_blk (b c : Nat) : blkD (plD (z30 b c)) = 9 := by
 simp [z30, kidsB, kidsA, plD, plDs, blkD, blkDs]
theorem z30_pcs (b c : Nat) : (pcsD (plD (z30 b c)) 0 0).1 = L30 := by
 simp [z30, kidsB, kidsA, plD, plDs, pcsD, pcsDs, leafP, w97, w98, w99, L30]
theorem z30_J {D : Nat → Prop} {w0 w : World} {hp : List En} {b c i j : Nat} {cs cs' : List Value} (hw : HpOk D w0 hp w) (hi : hp[i]? = some (blk b 24 cs)) (hc : cs = kidsA.flatMap docV) (hj : hp[j]? = some (blk c 24 cs')) (hc' : cs' = (kidsB b).flatMap docV) : DocJ w (z30 b c) := by
 have h1 := docJ_blk hw (i := i) (m := 3) (l := kidsA) hi hc (by rw [hc]; rfl) rfl 7 0 [] (by decide) (fun x hx => by
  simp only [kidsA, List.mem_cons, List.not_mem_nil, or_false] at hx
  rcases hx with rfl | rfl | rfl <;> exact docJ00 _ _ _ _)
 have h2 : ∀ x ∈ kidsA, DocJ w x := fun x hx => by
  simp only [kidsA, List.mem_cons, List.not_mem_nil, or_false] at hx
  rcases hx with rfl | rfl | rfl <;> exact docJ00 _ _ _ _
 have h3 : ∀ x ∈ kidsB b, DocJ w x := fun x hx => by
  simp only [kidsB, List.mem_cons, List.not_mem_nil, or_false] at hx
  rcases hx with rfl | rfl
  · exact .mk 7 0 [] _ 3 kidsA (by decide) h1 h2
  · exact docJ00 _ _ _ _
 have h4 := docJ_blk hw (i := j) (m := 2) (l := kidsB b) hj hc' (by rw [hc']; rfl) rfl 5 0 [] (by show 2 ≤ _; decide) h3
 exact .mk 5 0 [] _ 2 (kidsB b) (by show 2 ≤ maxLen; decide) h4 h3
set_option maxRecDepth 20000 in
set_option maxHeartbeats 4000000 in
theorem lives30_c (w : World) : Calls Try.prog 5 #[] w fun e w' => e = .returned (.bool true) ∧ Below w.heap.size w w' := by
 refine sy_enter (args := []) rfl rfl ?_
 simp only [initFr]
 repeat (first | refine yK ?_ | (refine gO ?_; first | refine yP ?_ | refine yB ?_))
 refine sy_buildSlice rfl rfl rfl rfl rfl rfl rfl rfl ?_
 intro nb
 repeat ((refine gO ?_; refine yB ?_))
 refine sy_buildSlice rfl rfl rfl rfl rfl rfl rfl rfl ?_
 intro nb2
 repeat ((refine gO ?_; refine yB ?_))
 refine sy_callN rfl rfl (fun w hw => pieces_c (z30 nb nb2) (by rw [z30_blk]; decide) w (z30_J hw (i := 1) (j := 0) rfl rfl rfl rfl)) ?_
 rintro u es' (⟨_, p, q, rfl, rfl⟩ | ⟨hf, _, _⟩)
 · rw [z30_pcs]
   simp only [List.cons_append, List.nil_append]
   repeat (first | refine yK ?_ | (refine gO ?_; refine yP ?_))
   refine sy_callN rfl rfl (fun w hw => fneeds_c p q w (vec_isSl hw (i := 0) rfl)) ?_
   rintro u es' ⟨b, rfl, rfl⟩
   simp only [List.cons_append, List.nil_append]
   repeat (first | refine yK ?_ | (refine gO ?_; first | refine yP ?_ | (refine gG ?_; refine yG ?_) | (refine gK ?_; refine sy_ov (ov_lens rfl) rfl rfl ?_) | (refine gL ?_; refine yL 0 ?_) | refine yM ?_ | (refine sy_ov (ov_indexAddr rfl rfl ?_ ?_) rfl rfl ?_; omega; omega)) | refine sy_rt ?_)
   exact ret1 rfl rfl (by first | rfl | decide | simp)
 · rw [z30_right] at hf; cases hf
end Go.Proofs.Ytkaeihlpdceokaa