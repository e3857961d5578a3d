/- BDO: texts of this proof, joined by program: Doc, Doc2, Doc3, Doc4. -/
import Derived.Test.YtkaeihlpdceokaaPlainDocQ
import Derived.Test.YtkaeihlpdceokaaBST
import Derived.Test.YtkaeihlpdceokaaBSF
import Derived.Test.YtkaeihlpdceokaaBU3
import Derived.Test.YtkaeihlpdceokaaBON
import Derived.Test.YtkaeihlpdceokaaL1Q
import Derived.Test.YtkaeihlpdceokaaBldQ
import Derived.Test.YtkaeihlpdceokaaBRC
import Derived.Lib.IndexLaws
/- Contracts: documents, as the program tells what they are. -/
set_option linter.unusedVariables false
set_option linter.unusedSimpArgs false
namespace Go.Proofs.Ytkaeihlpdceokaa
open Go.RowKit Bf
inductive DocJ (w : World) : DocA → Prop where
 | mk (k n : Int) (s : List UInt8) (p : Option Addr) (c : Nat) (kids : List DocA) (hb : kids.length ≤ maxLen) (h2 : IsSl w 4 p kids.length (kids.flatMap docV)) (h3 : ∀ x ∈ kids, DocJ w x) : DocJ w (.mk k n s p c kids)
theorem DocIn.toJ {w : World} {t : DocA} (h : DocIn w t) : DocJ w t := by
 induction h with
 | mk k n s p c kids b h2 h3 ih => exact .mk k n s p c kids b.2.2.2 h2 ih
theorem DocJ.bl (t : DocA) : Bl fun w => DocJ w t := fun w w' hb h => by
 induction h with
 | mk k n s p c kids b h2 h3 ih => exact .mk k n s p c kids b (IsSl.bl _ _ _ _ w w' hb h2) ih
theorem DocJ.parts {w : World} {k n : Int} {s : List UInt8} {p : Option Addr} {c : Nat} {kids : List DocA} (h : DocJ w (.mk k n s p c kids)) : kids.length ≤ maxLen ∧ IsSl w 4 p kids.length (kids.flatMap docV) ∧ ∀ x ∈ kids, DocJ w x := by
 cases h with
 | mk _ _ _ _ _ _ hb h2 h3 => exact ⟨hb, h2, h3⟩
theorem sizeD_kid {k n : Int} {s : List UInt8} {p : Option Addr} {c : Nat} {kids : List DocA} {x : DocA} (h : x ∈ kids) : SizeOf.sizeOf x < SizeOf.sizeOf (DocA.mk k n s p c kids) := by
 have := List.sizeOf_lt_of_mem h
 simp; omega
theorem plDs_at {l : List DocA} {i : Nat} {z : DocA} (h : l[i]? = some z) : (plDs l)[i]? = some (plD z) := by rw [plDs_get, h]; rfl
theorem plDs_mem {l : List DocA} {x : DocA} (h : x ∈ l) : plD x ∈ plDs l := by
 obtain ⟨i, hi⟩ := List.mem_iff_getElem?.1 h
 exact List.mem_of_getElem? (plDs_at hi)
/-! ### one more element -/
theorem rightDs_false {l : List DocP} {i : Nat} {x : DocP} (h : rightD x = false) (hx : l[i]? = some x) : rightDs l = false := by
 obtain ⟨hlt, rfl⟩ := List.getElem?_eq_some_iff.1 hx
 have := rightDs_app (l.take i) (l.drop i)
 rw [List.take_append_drop, List.drop_eq_getElem_cons hlt] at this
 rw [this]; simp [rightDs, h]
theorem rightDs_all : ∀ {l : List DocP}, (∀ (j : Nat) x, l[j]? = some x → rightD x = true) → rightDs l = true
 | [], _ => rfl
 | x :: l, h => by simp only [rightDs, Bool.and_eq_true]; exact ⟨h 0 x rfl, rightDs_all fun j y hy => h (j + 1) y hy⟩
theorem take_snocD (l : List DocP) (i : Nat) (x : DocP) (h : l[i]? = some x) : l.take (i + 1) = l.take i ++ [x] := by
 obtain ⟨hlt, rfl⟩ := List.getElem?_eq_some_iff.1 h
 exact List.take_succ_eq_append_getElem hlt
/-! ### the parts -/
theorem idx10 (s : List UInt8) : decide ((0 : Int) ≤ Go.Lib.indexByte s 10) = decide ((10 : UInt8) ∈ s) := by
 by_cases h : (10 : UInt8) ∈ s
 · have : (0 : Int) ≤ Go.Lib.indexByte s 10 := by
    have h1 := Go.Lib.indexByte_ge s 10
    rcases Int.lt_or_le (Go.Lib.indexByte s 10) 0 with h2 | h2
    · obtain ⟨i, hi⟩ := List.mem_iff_getElem?.1 h
      exact absurd hi (Go.Lib.indexByte_none (by omega) i)
    · exact h2
   simp [h, this]
 · have : ¬ (0 : Int) ≤ Go.Lib.indexByte s 10 := fun h2 => by
    obtain ⟨o, ho⟩ : ∃ o : Nat, Go.Lib.indexByte s 10 = o := ⟨(Go.Lib.indexByte s 10).toNat, by omega⟩
    exact h (List.mem_of_getElem? (Go.Lib.indexByte_some ho).1)
   simp [h, this]
set_option maxRecDepth 20000 in
theorem contains_c (s : List UInt8) (hs : s.length ≤ 9223372036854775807) (w : World) : Calls Try.prog 24 #[S s, S [10]] w fun e w' => e = .returned (.bool (decide ((10 : UInt8) ∈ s))) ∧ Below w.heap.size w w' := by
 have i1 : ∀ w : World, Calls Try.prog 44 #[S s, .int .u8 10] w fun e w' => e = .returned (.int .i64 (Go.Lib.indexByte s 10)) ∧ Below w.heap.size w w' := fun w => by
  refine sy_enter rfl rfl ?_
  simp only [initFr]
  repeat (first | refine yK ?_ | (refine gO ?_; refine yP ?_))
  refine sy_ov (ov_extern (vs := [S s, .int .u8 10]) rfl Try.func51 rfl rfl (by kernel_rfl) (by kernel_rfl) (fun w => Go.Lib.run_indexByteString (P := Try.prog) ⟨⟨s⟩⟩ 10 w)) rfl rfl ?_
  repeat (first | refine yK ?_ | (refine gO ?_; refine yP ?_) | refine sy_rt ?_)
  exact ret1 rfl rfl rfl
 rw [← idx10]
 by_cases h1 : s = [10]
 · subst h1
   have i2 : ∀ w : World, Calls Try.prog 39 #[S [10], S [10]] w fun e w' => e = .returned (.int .i64 0) ∧ Below w.heap.size w w' := fun w => by
    refine sy_enter rfl rfl ?_
    simp only [initFr]
    repeat (first | refine yK ?_ | (refine gO ?_; first | refine yP ?_ | (refine gG ?_; refine yG ?_) | (refine gK ?_; refine sy_ov (ov_len rfl) rfl rfl ?_) | refine yE ?_) | refine yT ?_ | refine sy_rt ?_)
    exact ret1 rfl rfl rfl
   have i3 : ∀ w : World, Calls Try.prog 32 #[S [10], S [10]] w fun e w' => e = .returned (.int .i64 0) ∧ Below w.heap.size w w' := fun w => by
    refine sy_enter rfl rfl ?_
    simp only [initFr]
    repeat (first | refine yK ?_ | (refine gO ?_; refine yP ?_))
    refine sy_ov (ov_call rfl (fun w _ => i2 w)) rfl rfl ?_
    repeat (first | refine yK ?_ | (refine gO ?_; refine yP ?_) | refine sy_rt ?_)
    exact ret1 rfl rfl rfl
   refine sy_enter rfl rfl ?_
   simp only [initFr]
   repeat (first | refine yK ?_ | (refine gO ?_; refine yP ?_))
   refine sy_ov (ov_call rfl (fun w _ => i3 w)) rfl rfl ?_
   repeat (first | refine yK ?_ | (refine gO ?_; refine yP ?_) | refine sy_rt ?_)
   exact ret1 rfl rfl rfl
 · have i2 : ∀ w : World, Calls Try.prog 39 #[S s, S [10]] w fun e w' => e = .returned (.int .i64 (Go.Lib.indexByte s 10)) ∧ Below w.heap.size w w' := fun w => by
    have h1' : ¬ [10] = s := fun h => h1 h.symm
    refine sy_enter rfl rfl ?_
    simp only [initFr]
    repeat (first | refine yK ?_ | (refine gO ?_; first | refine yP ?_ | (refine gG ?_; refine yG ?_) | (refine gK ?_; refine sy_ov (ov_len rfl) rfl rfl ?_) | refine yE ?_) | refine yT ?_ | refine yN ?_)
    refine sy_ov (ov_index (s := [10]) (i := 0) rfl rfl (by decide) (by decide)) rfl rfl ?_
    skip
    refine sy_ov (ov_call rfl (fun w _ => i1 w)) rfl rfl ?_
    repeat (first | refine yK ?_ | (refine gO ?_; refine yP ?_) | refine sy_rt ?_)
    exact ret1 rfl rfl rfl
   have i3 : ∀ w : World, Calls Try.prog 32 #[S s, S [10]] w fun e w' => e = .returned (.int .i64 (Go.Lib.indexByte s 10)) ∧ Below w.heap.size w w' := fun w => by
    refine sy_enter rfl rfl ?_
    simp only [initFr]
    repeat (first | refine yK ?_ | (refine gO ?_; refine yP ?_))
    refine sy_ov (ov_call rfl (fun w _ => i2 w)) rfl rfl ?_
    repeat (first | refine yK ?_ | (refine gO ?_; refine yP ?_) | refine sy_rt ?_)
    exact ret1 rfl rfl rfl
   refine sy_enter rfl rfl ?_
   simp only [initFr]
   repeat (first | refine yK ?_ | (refine gO ?_; refine yP ?_))
   refine sy_ov (ov_call rfl (fun w _ => i3 w)) rfl rfl ?_
   repeat (first | refine yK ?_ | (refine gO ?_; refine yP ?_) | refine sy_rt ?_)
   exact ret1 rfl rfl rfl
theorem validD_c (s : List UInt8) (b : Bool) (h : validB s = b) (hs : s.length ≤ maxLen) (w : World) : Calls Try.prog 23 #[S s] w fun e w' => e = .returned (.bool b) ∧ Below w.heap.size w w' :=
 valid_at ⟨⟨s⟩⟩ b w hs h
set_option maxRecDepth 20000 in
set_option maxHeartbeats 4000000 in
theorem own29_c (k n : Int) (s : List UInt8) (p : Option Addr) (c m : Nat) (r : Bool) (hr : ownD k n s m = r) (hs : s.length ≤ maxLen) (hm : m ≤ 9223372036854775807) (w : World) :
 Calls Try.prog 18 #[.agg ⟨[.int .i64 k, .int .i64 n, S s, .slice p m c]⟩] w fun e w' => e = .returned (.bool r) ∧ Below w.heap.size w w' := by
 have hs2 : s.length ≤ 9223372036854775807 := Nat.le_trans hs (by decide)
 subst hr
 obtain ⟨b1, h1⟩ : ∃ b, decide (n = 0) = b := ⟨_, rfl⟩
 obtain ⟨b2, h2⟩ : ∃ b, decide (s = []) = b := ⟨_, rfl⟩
 obtain ⟨b3, h3⟩ : ∃ b, decide ((m : Int) = 0) = b := ⟨_, rfl⟩
 have h3' : decide (m = 0) = b3 := by rw [← h3]; simp
 refine sy_enter rfl rfl ?_
 simp only [initFr]
 repeat (first | refine yK ?_ | (refine gO ?_; first | refine yP ?_ | (refine sy_box rfl rfl rfl ?_; intro _)))
 refine sy_draw 12 (by kernel_rfl) ?_
 repeat (first | refine dr_op (ov_p rfl) rfl rfl ?_ | refine dr_op (ov_lens rfl) rfl rfl ?_ | refine dr_op (ov_ld 0 rfl rfl rfl) rfl rfl ?_ | refine dr_op (ov_fieldAddr rfl rfl rfl) rfl rfl ?_ | refine dr_end ?_)
 repeat (first | refine yK ?_ | (refine gO ?_; first | refine yP ?_ | (refine gL ?_; refine yL 0 ?_) | refine yF ?_))
 simp only [h1, h2, h3]
 by_cases k1 : k = 1
 · subst k1
   obtain ⟨b4, h4⟩ : ∃ b, validB s = b := ⟨_, rfl⟩
   rw [show ownD 1 n s m = (b1 && b3 && b4 && !decide ((10 : UInt8) ∈ s)) by unfold ownD; rw [if_pos rfl, h1, h3', h4]]
   cases b1 <;> cases b3
   all_goals
    repeat (first | refine yK ?_ | (refine gO ?_; first | refine yP ?_ | (refine gG ?_; first | refine yG ?_ | refine yH ?_) | (refine gL ?_; refine yL 0 ?_) | refine yM ?_ | refine sy_ov (ov_pick rfl rfl rfl) rfl rfl ?_ | refine yF ?_) | refine yT ?_ | refine sy_rt ?_)
    try exact ret1 rfl rfl rfl
   refine sy_ov (ov_call rfl (fun w _ => validD_c s b4 h4 hs w)) rfl rfl ?_
   cases b4
   all_goals
    repeat (first | refine yK ?_ | (refine gO ?_; first | refine yP ?_ | (refine gG ?_; first | refine yG ?_ | refine yH ?_) | (refine gL ?_; refine yL 0 ?_) | refine yM ?_ | refine sy_ov (ov_pick rfl rfl rfl) rfl rfl ?_ | refine yF ?_) | refine sy_rt ?_)
    try exact ret1 rfl rfl rfl
   refine sy_ov (ov_call rfl (fun w _ => contains_c s hs2 w)) rfl rfl ?_
   repeat (first | refine yK ?_ | (refine gO ?_; first | refine yP ?_ | (refine gG ?_; refine yG ?_) | refine yM ?_) | refine sy_rt ?_)
   exact ret1 rfl rfl (by simp)
 · by_cases k2 : k = 2 ∨ k = 3 ∨ k = 4
   · rw [show ownD k n s m = (b2 && b1 && b3) by unfold ownD; rw [if_neg k1, if_pos k2, h1, h2, h3']]
     rcases k2 with rfl | rfl | rfl
     all_goals
      cases b1 <;> cases b2 <;> cases b3
      all_goals
       repeat (first | refine yK ?_ | (refine gO ?_; first | refine yP ?_ | (refine gG ?_; first | refine yG ?_ | refine yH ?_) | refine yM ?_ | refine sy_ov (ov_pick rfl rfl rfl) rfl rfl ?_) | refine yT ?_ | refine yN ?_ | refine sy_rt ?_)
       exact ret1 rfl rfl rfl
   · by_cases k5 : k = 5 ∨ k = 7
     · rw [show ownD k n s m = (b2 && b1) by unfold ownD; rw [if_neg k1, if_neg k2, if_pos k5, h1, h2]]
       rcases k5 with rfl | rfl
       all_goals
        cases b1 <;> cases b2
        all_goals
         repeat (first | refine yK ?_ | (refine gO ?_; first | refine yP ?_ | (refine gG ?_; first | refine yG ?_ | refine yH ?_) | refine yM ?_ | refine sy_ov (ov_pick rfl rfl rfl) rfl rfl ?_) | refine yT ?_ | refine yN ?_ | refine sy_rt ?_)
         exact ret1 rfl rfl rfl
     · have e1 : ¬ k = 2 := fun h => k2 (.inl h)
       have e2 : ¬ k = 3 := fun h => k2 (.inr (.inl h))
       have e3 : ¬ k = 4 := fun h => k2 (.inr (.inr h))
       have e4 : ¬ k = 5 := fun h => k5 (.inl h)
       have e5 : ¬ k = 7 := fun h => k5 (.inr h)
       by_cases k6 : k = 6
       · subst k6
         obtain ⟨b6, h6⟩ : ∃ b, decide (0 ≤ n) = b := ⟨_, rfl⟩
         obtain ⟨b7, h7⟩ : ∃ b, decide (n ≤ 16) = b := ⟨_, rfl⟩
         rw [show ownD 6 n s m = (b2 && b6 && b7) by unfold ownD; rw [if_neg k1, if_neg k2, if_neg k5, if_pos rfl, h2, h6, h7]]
         cases b2
         · repeat (first | refine yK ?_ | (refine gO ?_; first | refine yP ?_ | (refine gG ?_; refine yH ?_) | refine sy_ov (ov_pick rfl rfl rfl) rfl rfl ?_) | refine yT ?_ | refine yN ?_ | refine sy_rt ?_)
           exact ret1 rfl rfl rfl
         · repeat (first | refine yK ?_ | (refine gO ?_; first | refine yP ?_ | (refine gG ?_; refine yG ?_) | (refine gL ?_; refine yL 0 ?_) | refine yM ?_ | refine yF ?_) | refine yT ?_ | refine yN ?_)
           simp only [h6]
           cases b6
           · repeat (first | refine yK ?_ | (refine gO ?_; first | refine yP ?_ | (refine gG ?_; refine yH ?_) | refine sy_ov (ov_pick rfl rfl rfl) rfl rfl ?_) | refine sy_rt ?_)
             exact ret1 rfl rfl rfl
           · repeat (first | refine yK ?_ | (refine gO ?_; first | refine yP ?_ | (refine gG ?_; refine yG ?_) | (refine gL ?_; refine yL 0 ?_) | refine yM ?_ | refine yF ?_) | refine sy_rt ?_)
             simp only [h7]
             cases b7
             all_goals
              skip
              exact ret1 rfl rfl rfl
       · rw [show ownD k n s m = false by unfold ownD; rw [if_neg k1, if_neg k2, if_neg k5, if_neg k6]]
         repeat (first | refine yK ?_ | (refine gO ?_; refine yP ?_) | refine yN ?_ | refine sy_rt ?_)
         exact ret1 rfl rfl rfl
end Go.Proofs.Ytkaeihlpdceokaa
/- Contracts: whether documents are right, forced; their flat texts, columns, groups. -/
namespace Go.Proofs.Ytkaeihlpdceokaa
open Go.RowKit Bf
set_option maxRecDepth 20000 in
set_option maxHeartbeats 4000000 in
theorem right29_c : ∀ (m : Nat) (z : DocA), SizeOf.sizeOf z ≤ m → blkD (plD z) ≤ 4000000000000 → ∀ (w : World), DocJ w z → Calls Try.prog 11 #[.agg ⟨docV z⟩] w fun e w' => e = .returned (.bool (rightD (plD z))) ∧ Below w.heap.size w w' := by
 intro m
 induction m with
 | zero => intro z hz; cases z; simp at hz
 | succ m ih =>
  intro z hz hB w hw0
  obtain ⟨k, n, s, p, c, kids⟩ := z
  obtain ⟨hb, hs2, hkid⟩ := hw0.parts
  have hm : kids.length ≤ 9223372036854775807 := hb
  have hst : St (fun _ => False) w (fun w => IsSl w 4 p kids.length (kids.flatMap docV)) := St.start (IsSl.bl _ _ _ _) hs2
  have hstk : ∀ x ∈ kids, St (fun _ => False) w (fun w => DocJ w x) := fun x hx => St.start (DocJ.bl _) (hkid x hx)
  simp only [plD, blkD] at hB
  have hsl : s.length ≤ maxLen := Nat.le_trans (by omega : s.length ≤ 4000000000000) (by decide)
  obtain ⟨o, ho⟩ : ∃ o, ownD k n s kids.length = o := ⟨_, rfl⟩
  have hown := own29_c k n s p c kids.length o ho hsl hm
  obtain ⟨r, hr⟩ : ∃ r, rightDs (plDs kids) = r := ⟨_, rfl⟩
  rw [show rightD (plD (.mk k n s p c kids)) = (o && r) by simp only [plD, rightD, plDs_len, ho, hr]]
  cases o
  · refine sy_enter rfl rfl ?_
    simp only [initFr]
    repeat (first | refine yK ?_ | (refine gO ?_; first | refine yP ?_ | (refine gL ?_; refine yL 0 ?_) | (refine sy_box rfl rfl rfl ?_; intro _)))
    refine sy_ov (ov_call rfl (fun w _ => hown w)) rfl rfl ?_
    repeat (first | refine yK ?_ | (refine gO ?_; refine yP ?_) | refine yT ?_ | refine sy_rt ?_)
    exact ret1 rfl rfl rfl
  · rw [Bool.true_and]
    refine sy_enter rfl rfl ?_
    simp only [initFr]
    repeat (first | refine yK ?_ | (refine gO ?_; first | refine yP ?_ | (refine gL ?_; refine yL 0 ?_) | (refine sy_box rfl rfl rfl ?_; intro _)))
    refine sy_ov (ov_call rfl (fun w _ => hown w)) rfl rfl ?_
    repeat (first | refine yK ?_ | (refine gO ?_; first | refine yP ?_ | (refine gK ?_; refine sy_ov (ov_lens rfl) rfl rfl ?_) | (refine gL ?_; refine yL 0 ?_) | refine yF ?_) | refine yN ?_)
    refine sy_loop (α := Int) (fun i => [(9, .slice p kids.length c), (10, .int .i64 (kids.length : Int)), (11, .int .i64 i)]) (fun _ => []) (fun i => 0 ≤ i ∧ i ≤ kids.length ∧ ∀ (j : Nat) x, j < i.toNat → (plDs kids)[j]? = some x → rightD x = true) (fun i => (kids.length - i).toNat) 0 ⟨by omega, by omega, fun j x h => by simp at h⟩ ⟨⟨_, rfl, rfl⟩, ⟨_, rfl, rfl⟩, ⟨_, rfl, rfl⟩, trivial⟩ (List.nil_sublist _) ?_
    rintro i ⟨i0, i1, hinv⟩
    by_cases hlt : i < kids.length
    · obtain ⟨x, hx⟩ : ∃ x, kids[i.toNat]? = some x := ⟨_, List.getElem?_eq_getElem (by omega)⟩
      have hxm := List.mem_of_getElem? hx
      obtain ⟨b, off, hp, hat⟩ := hst.addr (by omega)
      subst hp
      have hsz := sizeD_kid (k := k) (n := n) (s := s) (p := some ⟨b, off, none⟩) (c := c) hxm
      have hpx := plDs_at hx
      have hxj := hstk _ hxm
      have hxB : blkD (plD x) ≤ blkDs (plDs kids) := blkDs_mem (plDs_mem hxm)
      have hi1 : (i + 1).toNat = i.toNat + 1 := by omega
      have hrec := ih x (by omega) (by omega)
      obtain ⟨q, hq⟩ : ∃ q, rightD (plD x) = q := ⟨_, rfl⟩
      rw [hq] at hrec
      repeat (first | refine yK ?_ | (refine gO ?_; first | refine yP ?_ | (refine sy_ov (ov_indexAddr rfl rfl ?_ ?_) rfl rfl ?_; omega; omega)) | refine yT ?_)
      refine sy_ov (ov_elem (f := docV) hat hx rfl rfl docV_len) rfl rfl ?_
      obtain ⟨xk, xn, xs, xp, xc, xkids⟩ := x
      cases q
      · have hf : r = false := by rw [← hr]; exact rightDs_false hq hpx
        subst hf
        repeat (first | refine yK ?_ | (refine gO ?_; first | (refine gL ?_; refine yL 0 ?_) | (refine gS ?_; refine yS 0 ?_) | (refine yA ?_; intro _)))
        refine sy_ov (ov_call rfl (fun w hw => hrec w (hxj.at hw))) rfl rfl ?_
        repeat (first | refine yK ?_ | (refine gO ?_; refine yP ?_) | refine yT ?_ | refine sy_rt ?_)
        exact ret1 rfl rfl rfl
      · repeat (first | refine yK ?_ | (refine gO ?_; first | (refine gL ?_; refine yL 0 ?_) | (refine gS ?_; refine yS 0 ?_) | (refine yA ?_; intro _)))
        refine sy_ov (ov_call rfl (fun w hw => hrec w (hxj.at hw))) rfl rfl ?_
        repeat (first | refine yK ?_ | (refine gO ?_; first | refine yP ?_ | (refine gB ?_; (refine sy_ov (ov_ar rfl rfl rfl ?_ ?_) rfl rfl ?_; omega; omega))) | refine yN ?_)
        refine sy_back (i + 1) ⟨by omega, by omega, ?_⟩ (by omega) ⟨⟨_, rfl, rfl⟩, ⟨_, rfl, rfl⟩, ⟨_, rfl, rfl⟩, trivial⟩ (List.nil_sublist _)
        intro j u hj hu
        by_cases hji : j < i.toNat
        · exact hinv j u hji hu
        · have : j = i.toNat := by omega
          subst this
          rw [hpx] at hu; cases hu; exact hq
    · have ht : r = true := by
       rw [← hr]
       exact rightDs_all fun j x hx => hinv j x (by have := (List.getElem?_eq_some_iff.1 hx).1; rw [plDs_len] at this; omega) hx
      subst ht
      repeat (first | refine yK ?_ | (refine gO ?_; refine yP ?_) | refine yN ?_ | refine sy_rt ?_)
      exact ret1 rfl rfl rfl
end Go.Proofs.Ytkaeihlpdceokaa
/- Contracts: the flat text of a document; how many there are; whether two are the same. -/
namespace Go.Proofs.Ytkaeihlpdceokaa
open Go.RowKit Bf
abbrev ptrD (b : Nat) : Value := .pointer (some ⟨b, 0, none⟩)
structure DwS where
 i : Int
 v : Value
/-! ### how many, and the same -/
def SzP (u : Value) (es : List En) : Prop := ∃ a b : Int, u = .tuple #[.int .i64 a, .int .i64 b] ∧ es = []
structure SzS where
 i : Int
 a : Int
 b : Int
set_option maxRecDepth 20000 in
set_option maxHeartbeats 4000000 in
theorem size29_c : ∀ (m : Nat) (z : DocA), SizeOf.sizeOf z ≤ m → ∀ (w : World), DocJ w z → Calls Try.prog 9 #[.agg ⟨docV z⟩] w (PostN w SzP) := by
 intro m
 induction m with
 | zero => intro z hz; cases z; simp at hz
 | succ m ih =>
  intro z hz w hw0
  obtain ⟨k, n, s, p, c, kids⟩ := z
  obtain ⟨hb, hs2, hkid⟩ := hw0.parts
  have hm : kids.length ≤ 9223372036854775807 := hb
  have hst : St (fun _ => False) w (fun w => IsSl w 4 p kids.length (kids.flatMap docV)) := St.start (IsSl.bl _ _ _ _) hs2
  have hstk : ∀ x ∈ kids, St (fun _ => False) w (fun w => DocJ w x) := fun x hx => St.start (DocJ.bl _) (hkid x hx)
  refine sy_enter rfl rfl ?_
  simp only [initFr]
  repeat (first | refine yK ?_ | (refine gO ?_; first | refine yP ?_ | (refine sy_box rfl rfl rfl ?_; intro _)))
  refine sy_draw 4 (by kernel_rfl) ?_
  repeat (first | refine dr_op (ov_p rfl) rfl rfl ?_ | refine dr_op (ov_len rfl) rfl rfl ?_ | refine dr_op (ov_ld 0 rfl rfl rfl) rfl rfl ?_ | refine dr_op (ov_fieldAddr rfl rfl rfl) rfl rfl ?_ | refine dr_end ?_)
  repeat (first | refine yK ?_ | (refine gO ?_; refine yP ?_))
  rename_i b1
  refine sy_loop (α := SzS) (fun x => [(1, ptrD b1), (4, .int .i64 x.a), (5, .int .i64 x.b), (6, .int .i64 x.i)]) (fun _ => [blk b1 24 (docV (.mk k n s p c kids))]) (fun x => 0 ≤ x.i ∧ x.i ≤ kids.length) (fun x => (kids.length - x.i).toNat) ⟨0, 1, s.length⟩ ⟨by dsimp only; omega, by dsimp only; omega⟩ ⟨⟨_, rfl, rfl⟩, ⟨_, rfl, rfl⟩, ⟨_, rfl, rfl⟩, ⟨_, rfl, rfl⟩, trivial⟩ sr ?_
  rintro ⟨i, a, bb⟩ ⟨i0, i1⟩
  dsimp only at i0 i1 ⊢
  by_cases hlt : i < kids.length
  · obtain ⟨x, hx⟩ : ∃ x, kids[i.toNat]? = some x := ⟨_, List.getElem?_eq_getElem (by omega)⟩
    have hxm := List.mem_of_getElem? hx
    obtain ⟨b, off, hp, hat⟩ := hst.addr (by omega)
    subst hp
    have hsz := sizeD_kid (k := k) (n := n) (s := s) (p := some ⟨b, off, none⟩) (c := c) hxm
    have hxj := hstk _ hxm
    have hrec := ih x (by omega)
    repeat (first | refine yK ?_ | (refine gO ?_; first | refine yP ?_ | (refine gK ?_; refine sy_ov (ov_lens rfl) rfl rfl ?_) | (refine gL ?_; refine yL 0 ?_) | refine yF ?_ | (refine sy_ov (ov_indexAddr rfl rfl ?_ ?_) rfl rfl ?_; omega; omega)) | refine yT ?_)
    refine sy_ov (ov_elem (f := docV) hat hx rfl rfl docV_len) rfl rfl ?_
    obtain ⟨xk, xn, xs, xp, xc, xkids⟩ := x
    skip
    refine sy_callN rfl rfl (fun w hw => hrec w (hxj.at hw)) ?_
    rintro u es' ⟨a2, b2, rfl, rfl⟩
    simp only [List.cons_append, List.nil_append]
    repeat (first | refine yK ?_ | (refine gO ?_; refine yP ?_))
    refine sy_ov (ov_addw rfl rfl) rfl rfl ?_
    repeat (first | refine yK ?_ | (refine gO ?_; refine yP ?_))
    refine sy_ov (ov_addw rfl rfl) rfl rfl ?_
    repeat (first | refine yK ?_ | (refine gO ?_; first | refine yP ?_ | (refine gB ?_; (refine sy_ov (ov_ar rfl rfl rfl ?_ ?_) rfl rfl ?_; omega; omega))))
    refine sy_back ⟨i + 1, _, _⟩ ⟨by dsimp only; omega, by dsimp only; omega⟩ (by dsimp only; omega) ⟨⟨_, rfl, rfl⟩, ⟨_, rfl, rfl⟩, ⟨_, rfl, rfl⟩, ⟨_, rfl, rfl⟩, trivial⟩ sr
  · repeat (first | refine yK ?_ | (refine gO ?_; first | refine yP ?_ | (refine gK ?_; refine sy_ov (ov_lens rfl) rfl rfl ?_) | (refine gL ?_; refine yL 0 ?_) | refine yF ?_) | refine yN ?_ | refine sy_rt ?_)
    refine ret2w rfl rfl rfl fun w' hw' => ⟨_, [], ⟨_, _, rfl, rfl⟩, rfl, hw'.weaken (List.nil_sublist _)⟩
def GrP (u : Value) (es : List En) : Prop := ∃ g : Bool, u = .bool g ∧ es = []
set_option maxRecDepth 20000 in
set_option maxHeartbeats 4000000 in
theorem great29_c (z : DocA) (w : World) (hw0 : DocJ w z) : Calls Try.prog 4 #[.agg ⟨docV z⟩] w (PostN w GrP) := by
 have hJ : St (fun _ => False) w (fun w => DocJ w z) := St.start (DocJ.bl z) hw0
 have hs := size29_c _ z (Nat.le_refl _)
 obtain ⟨k, n', s, p, c, kids⟩ := z
 refine sy_enter rfl rfl ?_
 simp only [initFr]
 repeat (first | refine yK ?_ | (refine gO ?_; first | refine yP ?_ | (refine gL ?_; refine yL 0 ?_) | (refine sy_box rfl rfl rfl ?_; intro _)))
 refine sy_callN rfl rfl (fun w hw => hs w (hJ.at hw)) ?_
 rintro u es' ⟨a, b, rfl, rfl⟩
 simp only [List.cons_append, List.nil_append]
 by_cases h1 : 2000 < a
 · repeat (first | refine yK ?_ | (refine gO ?_; first | refine yP ?_ | (refine gG ?_; refine yH ?_) | refine sy_ov (ov_pick rfl rfl rfl) rfl rfl ?_) | refine sy_rt ?_)
   exact ret1w rfl rfl fun w' hw' => ⟨_, [], ⟨_, rfl, rfl⟩, rfl, hw'.weaken (List.nil_sublist _)⟩
 · repeat (first | refine yK ?_ | (refine gO ?_; first | refine yP ?_ | (refine gG ?_; refine yG ?_) | refine yE ?_) | refine sy_rt ?_)
   exact ret1w rfl rfl fun w' hw' => ⟨_, [], ⟨_, rfl, rfl⟩, rfl, hw'.weaken (List.nil_sublist _)⟩
end Go.Proofs.Ytkaeihlpdceokaa
/- Contracts: how documents are made. -/
namespace Go.Proofs.Ytkaeihlpdceokaa
open Go.RowKit Bf
theorem docJ_blk {D : Nat → Prop} {w0 w : World} {hp : List En} (hw : HpOk D w0 hp w) {i b : Nat} {l : List DocA} {m : Nat} {cs : List Value} (hi : hp[i]? = some (blk b 24 cs)) (hc : cs = l.flatMap docV) (hm : cs.length = m * 4) (hlm : m = l.length) (k n : Int) (s : List UInt8) (hl : l.length ≤ 1000000000000) (hk : ∀ x ∈ l, DocJ w x) : IsSl w 4 (some ⟨b, 0, none⟩) l.length (l.flatMap docV) := by
 subst hlm
 rw [← hc]
 exact ⟨hm, .inr ⟨b, 0, rfl, fun j u hj => by rw [Nat.zero_add, hw.cell hi]; exact hj⟩⟩
/-! ### with another one between -/
structure JoS where
 i : Nat
 p : Option Addr
 q : Nat
 o : List DocA
end Go.Proofs.Ytkaeihlpdceokaa