/- Contract: whether a document is right, by the document. -/
import Derived.Test.YtkaeihlpdceokaaFit2Q
import Derived.Test.YtkaeihlpdceokaaUtf8Q
set_option linter.unusedVariables false
set_option linter.unusedSimpArgs false
namespace Go.Proofs.Ytkaeihlpdceokaa
open Go.RowKit Bf
def own1 (k n : Int) (s : List UInt8) (m : Nat) : Prop := 1 ≤ k ∧ k ≤ 7 ∧ (k = 1 ∨ s = []) ∧ (k = 6 ∨ n = 0) ∧ 0 ≤ n ∧ n ≤ 16 ∧ (5 ≤ k ∨ m = 0)
theorem valid_none : validB [] = true := by unfold validB; simp [badL_nil]
theorem own1_of {k n : Int} {s : List UInt8} {m : Nat} (h : ownD k n s m = true) : own1 k n s m ∧ validB s = true ∧ (10 : UInt8) ∉ s := by
 unfold ownD at h
 unfold own1
 split at h
 · simp only [Bool.and_eq_true, decide_eq_true_eq, Bool.not_eq_true', decide_eq_false_iff_not] at h
   obtain ⟨⟨⟨h1, h2⟩, h3⟩, h4⟩ := h
   exact ⟨⟨by omega, by omega, by omega, by omega, by omega, by omega, by omega⟩, h3, h4⟩
 · split at h
   · simp only [Bool.and_eq_true, decide_eq_true_eq] at h
     obtain ⟨⟨rfl, h2⟩, h3⟩ := h
     exact ⟨⟨by omega, by omega, .inr rfl, by omega, by omega, by omega, by omega⟩, valid_none, by simp⟩
   · split at h
     · simp only [Bool.and_eq_true, decide_eq_true_eq] at h
       obtain ⟨rfl, h2⟩ := h
       exact ⟨⟨by omega, by omega, .inr rfl, by omega, by omega, by omega, by omega⟩, valid_none, by simp⟩
     · split at h
       · simp only [Bool.and_eq_true, decide_eq_true_eq] at h
         obtain ⟨⟨rfl, h2⟩, h3⟩ := h
         exact ⟨⟨by omega, by omega, .inr rfl, by omega, by omega, by omega, by omega⟩, valid_none, by simp⟩
       · cases h
theorem own1_to {k n : Int} {s : List UInt8} {m : Nat} (h : own1 k n s m) (hv : validB s = true) (h10 : (10 : UInt8) ∉ s) : ownD k n s m = true := by
 obtain ⟨h1, h2, h3, h4, h5, h6, h7⟩ := h
 unfold ownD
 split
 · simp only [Bool.and_eq_true, decide_eq_true_eq, Bool.not_eq_true', decide_eq_false_iff_not]
   exact ⟨⟨⟨by omega, by omega⟩, hv⟩, h10⟩
 · rename_i hk
   have hs : s = [] := by rcases h3 with h3 | h3; exact absurd h3 hk; exact h3
   subst hs
   split
   · simp; omega
   · split
     · simp; omega
     · rw [if_pos (by omega)]; simp; omega
theorem ownD_not1 {k n : Int} {s : List UInt8} {m : Nat} (h : ¬ own1 k n s m) : ownD k n s m = false := by
 cases e : ownD k n s m with
 | false => rfl
 | true => exact absurd (own1_of e).1 h
theorem ownD_bad {k n : Int} {s : List UInt8} {m : Nat} (h : validB s = false) : ownD k n s m = false := by
 cases e : ownD k n s m with
 | false => rfl
 | true => rw [(own1_of e).2.1] at h; cases h
theorem ownD_ten {k n : Int} {s : List UInt8} {m : Nat} (h : (10 : UInt8) ∈ s) : ownD k n s m = false := by
 cases e : ownD k n s m with
 | false => rfl
 | true => exact absurd h (own1_of e).2.2
theorem rightD_own {k n : Int} {s : List UInt8} {p : Option Addr} {c : Nat} {kids : List DocA} (h : ownD k n s kids.length = false) : rightD (plD (.mk k n s p c kids)) = false := by
 simp [plD, rightD, plDs_len, h]
def WkP (s : List UInt8) (u : Value) (es : List En) : Prop := ∃ v m, u = .tuple #[v, .int .i64 (badL s : Int), .int .i64 m] ∧ es = []
theorem walkN (s : List UInt8) (hs : s.length ≤ 2000000) (w : World) : Calls Try.prog 13 #[S s] w (PostN w (WkP s)) := by
 refine (rwalk_any ⟨⟨s⟩⟩ w (by show s.length ≤ _; exact hs)).mono ?_
 rintro e w' ⟨v, rfl, _, hb⟩
 exact ⟨_, [], ⟨v, _, rfl, rfl⟩, rfl, ⟨Keep.of_below hb, by simp, List.Pairwise.nil⟩⟩
theorem bt_ten {s : List UInt8} {j : Int} (h0 : 0 ≤ j) (h1 : j < s.length) : bt s j = 10 ↔ s[j.toNat]? = some 10 := by
 have h := bt_some s j.toNat (by omega) 10
 rw [Int.toNat_of_nonneg h0] at h
 exact h
theorem take_ten {s : List UInt8} {j : Int} (h0 : 0 ≤ j) (h1 : j < s.length) (h : bt s j ≠ 10) (hn : (10 : UInt8) ∉ s.take j.toNat) : (10 : UInt8) ∉ s.take (j + 1).toNat := by
 have e : (j + 1).toNat = j.toNat + 1 := by omega
 rw [e, List.take_succ_eq_append_getElem (by omega)]
 rw [List.mem_append, not_or]
 refine ⟨hn, fun hc => h ?_⟩
 rw [bt_ten h0 h1, List.getElem?_eq_getElem (by omega), ← List.mem_singleton.1 hc]
set_option maxRecDepth 20000 in
set_option maxHeartbeats 8000000 in
theorem rright29_c : ∀ (m : Nat) (z : DocA), SizeOf.sizeOf z ≤ m → blkD (plD z) ≤ 2000000 → ∀ (w : World), DocJ w z → Calls Try.prog 7 #[.agg ⟨docV z⟩] w fun e w' => e = .returned (.bool (rightD (plD z))) ∧ Below w.heap.size w w' := by
 intro m
 induction m with
 | zero => intro z hz; cases z; simp at hz
 | succ m ih =>
  intro z hz hB w hw0
  obtain ⟨k, n, s, p, c, kids⟩ := z
  obtain ⟨hb, hs2, hkid⟩ := hw0.parts
  have hm : kids.length ≤ 9223372036854775807 := hb
  have hst : St (fun _ => False) w (fun w => IsSl w 4 p kids.length (kids.flatMap docV)) := St.start (IsSl.bl _ _ _ _) hs2
  have hstk : ∀ x ∈ kids, St (fun _ => False) w (fun w => DocJ w x) := fun x hx => St.start (DocJ.bl _) (hkid x hx)
  simp only [plD, blkD] at hB
  have hwk := walkN s (by omega)
  have hbl := badL_le _ s (Nat.le_refl _)
  by_cases k1 : k < 1
  · rw [show rightD (plD (.mk k n s p c kids)) = false from rightD_own (ownD_not1 (by unfold own1; first | omega | (simp only [List.length_eq_zero_iff] at *; simp_all; done) | (rintro ⟨h1, h2, h3, h4, h5, h6, h7⟩; simp_all; omega)))]
    refine sy_enter rfl rfl ?_
    simp only [initFr]
    repeat (first | refine yK ?_ | (refine gO ?_; first | refine yP ?_ | (refine gG ?_; first | refine sy_guard_undef rfl rfl rfl rfl rfl ?_ | refine yH ?_) | (refine gL ?_; refine yL 0 ?_) | refine sy_ov (ov_pick rfl rfl rfl) rfl rfl ?_ | refine yF ?_ | (refine sy_box rfl rfl rfl ?_; intro _)) | refine yT ?_ | refine sy_rt ?_)
    exact ret1 rfl rfl rfl
  by_cases k2 : 7 < k
  · rw [show rightD (plD (.mk k n s p c kids)) = false from rightD_own (ownD_not1 (by unfold own1; first | omega | (simp only [List.length_eq_zero_iff] at *; simp_all; done) | (rintro ⟨h1, h2, h3, h4, h5, h6, h7⟩; simp_all; omega)))]
    refine sy_enter rfl rfl ?_
    simp only [initFr]
    repeat (first | refine yK ?_ | (refine gO ?_; first | refine yP ?_ | (refine gG ?_; first | refine sy_guard_undef rfl rfl rfl rfl rfl ?_ | refine yG ?_ | refine yH ?_) | (refine gL ?_; refine yL 0 ?_) | refine yE ?_ | refine sy_ov (ov_pick rfl rfl rfl) rfl rfl ?_ | refine yF ?_ | (refine sy_box rfl rfl rfl ?_; intro _)) | refine yT ?_ | refine sy_rt ?_)
    exact ret1 rfl rfl rfl
  by_cases k3 : k = 1
  · by_cases k5 : n = 0
    · by_cases k6 : kids.length = 0
      · have k6k : kids = [] := List.length_eq_zero_iff.1 k6
        have ho1 : own1 k n s kids.length := by unfold own1; first | omega | (refine ⟨?_, ?_, ?_, ?_, ?_, ?_, ?_⟩ <;> first | omega | (simp [*]; done))
        refine sy_enter rfl rfl ?_
        simp only [initFr]
        repeat (first | refine yK ?_ | (refine gO ?_; first | refine yP ?_ | (refine gG ?_; first | refine yG ?_ | refine yH ?_) | (refine gK ?_; refine sy_ov (ov_lens rfl) rfl rfl ?_) | (refine gL ?_; refine yL 0 ?_) | refine yM ?_ | refine yE ?_ | refine sy_ov (ov_pick rfl rfl rfl) rfl rfl ?_ | refine yF ?_ | (refine sy_box rfl rfl rfl ?_; intro _)) | refine yN ?_)
        rename_i b1
        refine sy_callN rfl rfl (fun w hw => hwk w) ?_
        rintro u es' ⟨v, m0, rfl, rfl⟩
        simp only [List.nil_append]
        by_cases hv : (badL s : Int) < s.length
        · repeat (first | refine yK ?_ | (refine gO ?_; first | refine yP ?_ | (refine gK ?_; refine sy_ov (ov_len rfl) rfl rfl ?_) | (refine gL ?_; refine yL 0 ?_) | refine yF ?_) | refine yT ?_ | refine sy_rt ?_)
          exact ret1 rfl rfl (by rw [rightD_own (ownD_bad (by unfold validB; simp; omega))])
        have hva : validB s = true := by unfold validB; simp; omega
        repeat (first | refine yK ?_ | (refine gO ?_; first | refine yP ?_ | (refine gK ?_; refine sy_ov (ov_len rfl) rfl rfl ?_) | (refine gL ?_; refine yL 0 ?_) | refine yF ?_) | refine yN ?_)
        refine sy_loop (α := Int) (fun j => [(1, .pointer (some ⟨b1, 0, none⟩)), (6, .int .i64 j)]) (fun _ => [blk b1 24 (docV (.mk k n s p c kids))]) (fun j => 0 ≤ j ∧ j ≤ s.length ∧ (10 : UInt8) ∉ s.take j.toNat) (fun j => (s.length - j).toNat) 0 ⟨by omega, by omega, by simp⟩ ⟨⟨_, rfl, rfl⟩, ⟨_, rfl, rfl⟩, trivial⟩ (List.Sublist.refl _) ?_
        rintro j ⟨j0, j1, j10⟩
        by_cases hlt : j < s.length
        · by_cases h10 : bt s j = 10
          · have hmem : (10 : UInt8) ∈ s := List.mem_of_getElem? ((bt_ten j0 hlt).1 h10)
            repeat (first | refine yK ?_ | (refine gO ?_; first | refine yP ?_ | (refine gK ?_; refine sy_ov (ov_len rfl) rfl rfl ?_) | (refine gL ?_; refine yL 0 ?_) | refine yF ?_ | refine yI ?_) | refine yT ?_ | refine sy_rt ?_)
            exact ret1 rfl rfl (by rw [rightD_own (ownD_ten hmem)])
          · repeat (first | refine yK ?_ | (refine gO ?_; first | refine yP ?_ | (refine gB ?_; (refine sy_ov (ov_ar rfl rfl rfl ?_ ?_) rfl rfl ?_; omega; omega)) | (refine gK ?_; refine sy_ov (ov_len rfl) rfl rfl ?_) | (refine gL ?_; refine yL 0 ?_) | refine yF ?_ | refine yI ?_) | refine yT ?_ | refine yN ?_)
            refine sy_back (j + 1) ⟨by omega, by omega, take_ten j0 hlt h10 j10⟩ (by omega) ⟨⟨_, rfl, rfl⟩, ⟨_, rfl, rfl⟩, trivial⟩ (List.Sublist.refl _)
        have hno : (10 : UInt8) ∉ s := by rwa [List.take_of_length_le (by omega)] at j10
        have hown := own1_to ho1 hva hno
        repeat (first | refine yK ?_ | (refine gO ?_; first | refine yP ?_ | (refine gK ?_; refine sy_ov (ov_len rfl) rfl rfl ?_) | (refine gL ?_; refine yL 0 ?_) | refine yF ?_) | refine yN ?_)
        try clear k6k k6
        refine sy_loop (α := Int) (fun i => [(1, .pointer (some ⟨b1, 0, none⟩)), (7, .int .i64 i)]) (fun _ => [blk b1 24 (docV (.mk k n s p c kids))]) (fun i => 0 ≤ i ∧ i ≤ kids.length ∧ ∀ (j : Nat) x, j < i.toNat → (plDs kids)[j]? = some x → rightD x = true) (fun i => (kids.length - i).toNat) 0 ⟨by omega, by omega, fun j x h => by simp at h⟩ ⟨⟨_, rfl, rfl⟩, ⟨_, rfl, rfl⟩, trivial⟩ (List.Sublist.refl _) ?_
        rintro i ⟨i0, i1, hinv⟩
        by_cases hlt2 : i < kids.length
        · obtain ⟨x, hx⟩ : ∃ x, kids[i.toNat]? = some x := ⟨_, List.getElem?_eq_getElem (by omega)⟩
          have hxm := List.mem_of_getElem? hx
          obtain ⟨b, off, hp, hat⟩ := hst.addr (by omega)
          subst hp
          have hsz := sizeD_kid (k := k) (n := n) (s := s) (p := some ⟨b, off, none⟩) (c := c) hxm
          have hpx := plDs_at hx
          have hxj := hstk _ hxm
          have hxB : blkD (plD x) ≤ blkDs (plDs kids) := blkDs_mem (plDs_mem hxm)
          have hi1 : (i + 1).toNat = i.toNat + 1 := by omega
          have hrec := ih x (by omega) (by omega)
          obtain ⟨q, hq⟩ : ∃ q, rightD (plD x) = q := ⟨_, rfl⟩
          rw [hq] at hrec
          repeat (first | refine yK ?_ | (refine gO ?_; first | refine yP ?_ | (refine gK ?_; refine sy_ov (ov_lens rfl) rfl rfl ?_) | (refine gL ?_; refine yL 0 ?_) | refine yF ?_ | (refine sy_ov (ov_indexAddr rfl rfl ?_ ?_) rfl rfl ?_; omega; omega)) | refine yT ?_)
          refine sy_ov (ov_elem (f := docV) hat hx rfl rfl docV_len) rfl rfl ?_
          obtain ⟨xk, xn, xs, xp, xc, xkids⟩ := x
          cases q
          · skip
            refine sy_ov (ov_call rfl (fun w hw => hrec w (hxj.at hw))) rfl rfl ?_
            repeat (first | refine yK ?_ | (refine gO ?_; refine yP ?_) | refine yT ?_ | refine sy_rt ?_)
            exact ret1 rfl rfl (by simp only [plD, rightD, rightDs_false hq hpx, Bool.and_false])
          · skip
            refine sy_ov (ov_call rfl (fun w hw => hrec w (hxj.at hw))) rfl rfl ?_
            repeat (first | refine yK ?_ | (refine gO ?_; first | refine yP ?_ | (refine gB ?_; (refine sy_ov (ov_ar rfl rfl rfl ?_ ?_) rfl rfl ?_; omega; omega))) | refine yN ?_)
            refine sy_back (i + 1) ⟨by omega, by omega, ?_⟩ (by omega) ⟨⟨_, rfl, rfl⟩, ⟨_, rfl, rfl⟩, trivial⟩ (List.Sublist.refl _)
            intro j u hj hu
            by_cases hji : j < i.toNat
            · exact hinv j u hji hu
            · have : j = i.toNat := by omega
              subst this
              rw [hpx] at hu; cases hu; exact hq
        · have hall : rightDs (plDs kids) = true := rightDs_all fun j x hx => hinv j x (by have := (List.getElem?_eq_some_iff.1 hx).1; rw [plDs_len] at this; omega) hx
          repeat (first | refine yK ?_ | (refine gO ?_; first | refine yP ?_ | (refine gK ?_; refine sy_ov (ov_lens rfl) rfl rfl ?_) | (refine gL ?_; refine yL 0 ?_) | refine yF ?_) | refine yN ?_ | refine sy_rt ?_)
          exact ret1 rfl rfl (by simp only [plD, rightD, plDs_len, hown, hall, Bool.and_true])
      · have k6k : kids ≠ [] := fun h => k6 (by rw [h]; rfl)
        rw [show rightD (plD (.mk k n s p c kids)) = false from rightD_own (ownD_not1 (by unfold own1; first | omega | (simp only [List.length_eq_zero_iff] at *; simp_all; done) | (rintro ⟨h1, h2, h3, h4, h5, h6, h7⟩; simp_all; omega)))]
        refine sy_enter rfl rfl ?_
        simp only [initFr]
        repeat (first | refine yK ?_ | (refine gO ?_; first | refine yP ?_ | (refine gG ?_; first | refine yG ?_ | refine yH ?_) | (refine gK ?_; refine sy_ov (ov_lens rfl) rfl rfl ?_) | (refine gL ?_; refine yL 0 ?_) | refine yM ?_ | refine yE ?_ | refine sy_ov (ov_pick rfl rfl rfl) rfl rfl ?_ | refine yF ?_ | (refine sy_box rfl rfl rfl ?_; intro _)) | refine yT ?_ | refine sy_rt ?_)
        exact ret1 rfl rfl rfl
    · rw [show rightD (plD (.mk k n s p c kids)) = false from rightD_own (ownD_not1 (by unfold own1; first | omega | (simp only [List.length_eq_zero_iff] at *; simp_all; done) | (rintro ⟨h1, h2, h3, h4, h5, h6, h7⟩; simp_all; omega)))]
      refine sy_enter rfl rfl ?_
      simp only [initFr]
      repeat (first | refine yK ?_ | (refine gO ?_; first | refine yP ?_ | (refine gG ?_; first | refine sy_guard_undef rfl rfl rfl rfl rfl ?_ | refine yG ?_ | refine yH ?_) | (refine gL ?_; refine yL 0 ?_) | refine yM ?_ | refine yE ?_ | refine sy_ov (ov_pick rfl rfl rfl) rfl rfl ?_ | refine yF ?_ | (refine sy_box rfl rfl rfl ?_; intro _)) | refine yT ?_ | refine sy_rt ?_)
      exact ret1 rfl rfl rfl
  by_cases k4 : s = []
  · by_cases k7 : k = 6
    · by_cases k8 : n < 0
      · rw [show rightD (plD (.mk k n s p c kids)) = false from rightD_own (ownD_not1 (by unfold own1; first | omega | (simp only [List.length_eq_zero_iff] at *; simp_all; done) | (rintro ⟨h1, h2, h3, h4, h5, h6, h7⟩; simp_all; omega)))]
        refine sy_enter rfl rfl ?_
        simp only [initFr]
        repeat (first | refine yK ?_ | (refine gO ?_; first | refine yP ?_ | (refine gG ?_; first | refine sy_guard_undef rfl rfl rfl rfl rfl ?_ | refine yG ?_ | refine yH ?_) | (refine gL ?_; refine yL 0 ?_) | refine yM ?_ | refine yE ?_ | refine sy_ov (ov_pick rfl rfl rfl) rfl rfl ?_ | refine yF ?_ | (refine sy_box rfl rfl rfl ?_; intro _)) | refine yT ?_ | refine sy_rt ?_)
        exact ret1 rfl rfl rfl
      by_cases k9 : 16 < n
      · rw [show rightD (plD (.mk k n s p c kids)) = false from rightD_own (ownD_not1 (by unfold own1; first | omega | (simp only [List.length_eq_zero_iff] at *; simp_all; done) | (rintro ⟨h1, h2, h3, h4, h5, h6, h7⟩; simp_all; omega)))]
        refine sy_enter rfl rfl ?_
        simp only [initFr]
        repeat (first | refine yK ?_ | (refine gO ?_; first | refine yP ?_ | (refine gG ?_; first | refine sy_guard_undef rfl rfl rfl rfl rfl ?_ | refine yG ?_ | refine yH ?_) | (refine gL ?_; refine yL 0 ?_) | refine yM ?_ | refine yE ?_ | refine sy_ov (ov_pick rfl rfl rfl) rfl rfl ?_ | refine yF ?_ | (refine sy_box rfl rfl rfl ?_; intro _)) | refine yT ?_ | refine sy_rt ?_)
        exact ret1 rfl rfl rfl
      · have ho1 : own1 k n s kids.length := by unfold own1; first | omega | (refine ⟨?_, ?_, ?_, ?_, ?_, ?_, ?_⟩ <;> first | omega | (simp [*]; done))
        refine sy_enter rfl rfl ?_
        simp only [initFr]
        repeat (first | refine yK ?_ | (refine gO ?_; first | refine yP ?_ | (refine gG ?_; first | refine yG ?_ | refine yH ?_) | (refine gL ?_; refine yL 0 ?_) | refine yM ?_ | refine yE ?_ | refine sy_ov (ov_pick rfl rfl rfl) rfl rfl ?_ | refine yF ?_ | (refine sy_box rfl rfl rfl ?_; intro _)) | refine yN ?_)
        rename_i b1
        refine sy_callN rfl rfl (fun w hw => hwk w) ?_
        rintro u es' ⟨v, m0, rfl, rfl⟩
        simp only [List.nil_append]
        by_cases hv : (badL s : Int) < s.length
        · repeat (first | refine yK ?_ | (refine gO ?_; first | refine yP ?_ | (refine gK ?_; refine sy_ov (ov_len rfl) rfl rfl ?_) | (refine gL ?_; refine yL 0 ?_) | refine yF ?_) | refine yT ?_ | refine sy_rt ?_)
          exact ret1 rfl rfl (by rw [rightD_own (ownD_bad (by unfold validB; simp; omega))])
        have hva : validB s = true := by unfold validB; simp; omega
        repeat (first | refine yK ?_ | (refine gO ?_; first | refine yP ?_ | (refine gK ?_; refine sy_ov (ov_len rfl) rfl rfl ?_) | (refine gL ?_; refine yL 0 ?_) | refine yF ?_) | refine yN ?_)
        refine sy_loop (α := Int) (fun j => [(1, .pointer (some ⟨b1, 0, none⟩)), (6, .int .i64 j)]) (fun _ => [blk b1 24 (docV (.mk k n s p c kids))]) (fun j => 0 ≤ j ∧ j ≤ s.length ∧ (10 : UInt8) ∉ s.take j.toNat) (fun j => (s.length - j).toNat) 0 ⟨by omega, by omega, by simp⟩ ⟨⟨_, rfl, rfl⟩, ⟨_, rfl, rfl⟩, trivial⟩ (List.Sublist.refl _) ?_
        rintro j ⟨j0, j1, j10⟩
        by_cases hlt : j < s.length
        · by_cases h10 : bt s j = 10
          · have hmem : (10 : UInt8) ∈ s := List.mem_of_getElem? ((bt_ten j0 hlt).1 h10)
            repeat (first | refine yK ?_ | (refine gO ?_; first | refine yP ?_ | (refine gK ?_; refine sy_ov (ov_len rfl) rfl rfl ?_) | (refine gL ?_; refine yL 0 ?_) | refine yF ?_ | refine yI ?_) | refine yT ?_ | refine sy_rt ?_)
            exact ret1 rfl rfl (by rw [rightD_own (ownD_ten hmem)])
          · repeat (first | refine yK ?_ | (refine gO ?_; first | refine yP ?_ | (refine gB ?_; (refine sy_ov (ov_ar rfl rfl rfl ?_ ?_) rfl rfl ?_; omega; omega)) | (refine gK ?_; refine sy_ov (ov_len rfl) rfl rfl ?_) | (refine gL ?_; refine yL 0 ?_) | refine yF ?_ | refine yI ?_) | refine yT ?_ | refine yN ?_)
            refine sy_back (j + 1) ⟨by omega, by omega, take_ten j0 hlt h10 j10⟩ (by omega) ⟨⟨_, rfl, rfl⟩, ⟨_, rfl, rfl⟩, trivial⟩ (List.Sublist.refl _)
        have hno : (10 : UInt8) ∉ s := by rwa [List.take_of_length_le (by omega)] at j10
        have hown := own1_to ho1 hva hno
        repeat (first | refine yK ?_ | (refine gO ?_; first | refine yP ?_ | (refine gK ?_; refine sy_ov (ov_len rfl) rfl rfl ?_) | (refine gL ?_; refine yL 0 ?_) | refine yF ?_) | refine yN ?_)
        try clear k6k k6
        refine sy_loop (α := Int) (fun i => [(1, .pointer (some ⟨b1, 0, none⟩)), (7, .int .i64 i)]) (fun _ => [blk b1 24 (docV (.mk k n s p c kids))]) (fun i => 0 ≤ i ∧ i ≤ kids.length ∧ ∀ (j : Nat) x, j < i.toNat → (plDs kids)[j]? = some x → rightD x = true) (fun i => (kids.length - i).toNat) 0 ⟨by omega, by omega, fun j x h => by simp at h⟩ ⟨⟨_, rfl, rfl⟩, ⟨_, rfl, rfl⟩, trivial⟩ (List.Sublist.refl _) ?_
        rintro i ⟨i0, i1, hinv⟩
        by_cases hlt2 : i < kids.length
        · obtain ⟨x, hx⟩ : ∃ x, kids[i.toNat]? = some x := ⟨_, List.getElem?_eq_getElem (by omega)⟩
          have hxm := List.mem_of_getElem? hx
          obtain ⟨b, off, hp, hat⟩ := hst.addr (by omega)
          subst hp
          have hsz := sizeD_kid (k := k) (n := n) (s := s) (p := some ⟨b, off, none⟩) (c := c) hxm
          have hpx := plDs_at hx
          have hxj := hstk _ hxm
          have hxB : blkD (plD x) ≤ blkDs (plDs kids) := blkDs_mem (plDs_mem hxm)
          have hi1 : (i + 1).toNat = i.toNat + 1 := by omega
          have hrec := ih x (by omega) (by omega)
          obtain ⟨q, hq⟩ : ∃ q, rightD (plD x) = q := ⟨_, rfl⟩
          rw [hq] at hrec
          repeat (first | refine yK ?_ | (refine gO ?_; first | refine yP ?_ | (refine gK ?_; refine sy_ov (ov_lens rfl) rfl rfl ?_) | (refine gL ?_; refine yL 0 ?_) | refine yF ?_ | (refine sy_ov (ov_indexAddr rfl rfl ?_ ?_) rfl rfl ?_; omega; omega)) | refine yT ?_)
          refine sy_ov (ov_elem (f := docV) hat hx rfl rfl docV_len) rfl rfl ?_
          obtain ⟨xk, xn, xs, xp, xc, xkids⟩ := x
          cases q
          · skip
            refine sy_ov (ov_call rfl (fun w hw => hrec w (hxj.at hw))) rfl rfl ?_
            repeat (first | refine yK ?_ | (refine gO ?_; refine yP ?_) | refine yT ?_ | refine sy_rt ?_)
            exact ret1 rfl rfl (by simp only [plD, rightD, rightDs_false hq hpx, Bool.and_false])
          · skip
            refine sy_ov (ov_call rfl (fun w hw => hrec w (hxj.at hw))) rfl rfl ?_
            repeat (first | refine yK ?_ | (refine gO ?_; first | refine yP ?_ | (refine gB ?_; (refine sy_ov (ov_ar rfl rfl rfl ?_ ?_) rfl rfl ?_; omega; omega))) | refine yN ?_)
            refine sy_back (i + 1) ⟨by omega, by omega, ?_⟩ (by omega) ⟨⟨_, rfl, rfl⟩, ⟨_, rfl, rfl⟩, trivial⟩ (List.Sublist.refl _)
            intro j u hj hu
            by_cases hji : j < i.toNat
            · exact hinv j u hji hu
            · have : j = i.toNat := by omega
              subst this
              rw [hpx] at hu; cases hu; exact hq
        · have hall : rightDs (plDs kids) = true := rightDs_all fun j x hx => hinv j x (by have := (List.getElem?_eq_some_iff.1 hx).1; rw [plDs_len] at this; omega) hx
          repeat (first | refine yK ?_ | (refine gO ?_; first | refine yP ?_ | (refine gK ?_; refine sy_ov (ov_lens rfl) rfl rfl ?_) | (refine gL ?_; refine yL 0 ?_) | refine yF ?_) | refine yN ?_ | refine sy_rt ?_)
          exact ret1 rfl rfl (by simp only [plD, rightD, plDs_len, hown, hall, Bool.and_true])
    · by_cases k5 : n = 0
      · by_cases k10 : k < 5
        · by_cases k6 : kids.length = 0
          · have k6k : kids = [] := List.length_eq_zero_iff.1 k6
            have ho1 : own1 k n s kids.length := by unfold own1; first | omega | (refine ⟨?_, ?_, ?_, ?_, ?_, ?_, ?_⟩ <;> first | omega | (simp [*]; done))
            refine sy_enter rfl rfl ?_
            simp only [initFr]
            repeat (first | refine yK ?_ | (refine gO ?_; first | refine yP ?_ | (refine gG ?_; refine yG ?_) | (refine gK ?_; refine sy_ov (ov_lens rfl) rfl rfl ?_) | (refine gL ?_; refine yL 0 ?_) | refine yM ?_ | refine yE ?_ | refine yF ?_ | (refine sy_box rfl rfl rfl ?_; intro _)) | refine yN ?_)
            rename_i b1
            refine sy_callN rfl rfl (fun w hw => hwk w) ?_
            rintro u es' ⟨v, m0, rfl, rfl⟩
            simp only [List.nil_append]
            by_cases hv : (badL s : Int) < s.length
            · repeat (first | refine yK ?_ | (refine gO ?_; first | refine yP ?_ | (refine gK ?_; refine sy_ov (ov_len rfl) rfl rfl ?_) | (refine gL ?_; refine yL 0 ?_) | refine yF ?_) | refine yT ?_ | refine sy_rt ?_)
              exact ret1 rfl rfl (by rw [rightD_own (ownD_bad (by unfold validB; simp; omega))])
            have hva : validB s = true := by unfold validB; simp; omega
            repeat (first | refine yK ?_ | (refine gO ?_; first | refine yP ?_ | (refine gK ?_; refine sy_ov (ov_len rfl) rfl rfl ?_) | (refine gL ?_; refine yL 0 ?_) | refine yF ?_) | refine yN ?_)
            refine sy_loop (α := Int) (fun j => [(1, .pointer (some ⟨b1, 0, none⟩)), (6, .int .i64 j)]) (fun _ => [blk b1 24 (docV (.mk k n s p c kids))]) (fun j => 0 ≤ j ∧ j ≤ s.length ∧ (10 : UInt8) ∉ s.take j.toNat) (fun j => (s.length - j).toNat) 0 ⟨by omega, by omega, by simp⟩ ⟨⟨_, rfl, rfl⟩, ⟨_, rfl, rfl⟩, trivial⟩ (List.Sublist.refl _) ?_
            rintro j ⟨j0, j1, j10⟩
            by_cases hlt : j < s.length
            · by_cases h10 : bt s j = 10
              · have hmem : (10 : UInt8) ∈ s := List.mem_of_getElem? ((bt_ten j0 hlt).1 h10)
                repeat (first | refine yK ?_ | (refine gO ?_; first | refine yP ?_ | (refine gK ?_; refine sy_ov (ov_len rfl) rfl rfl ?_) | (refine gL ?_; refine yL 0 ?_) | refine yF ?_ | refine yI ?_) | refine yT ?_ | refine sy_rt ?_)
                exact ret1 rfl rfl (by rw [rightD_own (ownD_ten hmem)])
              · repeat (first | refine yK ?_ | (refine gO ?_; first | refine yP ?_ | (refine gB ?_; (refine sy_ov (ov_ar rfl rfl rfl ?_ ?_) rfl rfl ?_; omega; omega)) | (refine gK ?_; refine sy_ov (ov_len rfl) rfl rfl ?_) | (refine gL ?_; refine yL 0 ?_) | refine yF ?_ | refine yI ?_) | refine yT ?_ | refine yN ?_)
                refine sy_back (j + 1) ⟨by omega, by omega, take_ten j0 hlt h10 j10⟩ (by omega) ⟨⟨_, rfl, rfl⟩, ⟨_, rfl, rfl⟩, trivial⟩ (List.Sublist.refl _)
            have hno : (10 : UInt8) ∉ s := by rwa [List.take_of_length_le (by omega)] at j10
            have hown := own1_to ho1 hva hno
            repeat (first | refine yK ?_ | (refine gO ?_; first | refine yP ?_ | (refine gK ?_; refine sy_ov (ov_len rfl) rfl rfl ?_) | (refine gL ?_; refine yL 0 ?_) | refine yF ?_) | refine yN ?_)
            try clear k6k k6
            refine sy_loop (α := Int) (fun i => [(1, .pointer (some ⟨b1, 0, none⟩)), (7, .int .i64 i)]) (fun _ => [blk b1 24 (docV (.mk k n s p c kids))]) (fun i => 0 ≤ i ∧ i ≤ kids.length ∧ ∀ (j : Nat) x, j < i.toNat → (plDs kids)[j]? = some x → rightD x = true) (fun i => (kids.length - i).toNat) 0 ⟨by omega, by omega, fun j x h => by simp at h⟩ ⟨⟨_, rfl, rfl⟩, ⟨_, rfl, rfl⟩, trivial⟩ (List.Sublist.refl _) ?_
            rintro i ⟨i0, i1, hinv⟩
            by_cases hlt2 : i < kids.length
            · obtain ⟨x, hx⟩ : ∃ x, kids[i.toNat]? = some x := ⟨_, List.getElem?_eq_getElem (by omega)⟩
              have hxm := List.mem_of_getElem? hx
              obtain ⟨b, off, hp, hat⟩ := hst.addr (by omega)
              subst hp
              have hsz := sizeD_kid (k := k) (n := n) (s := s) (p := some ⟨b, off, none⟩) (c := c) hxm
              have hpx := plDs_at hx
              have hxj := hstk _ hxm
              have hxB : blkD (plD x) ≤ blkDs (plDs kids) := blkDs_mem (plDs_mem hxm)
              have hi1 : (i + 1).toNat = i.toNat + 1 := by omega
              have hrec := ih x (by omega) (by omega)
              obtain ⟨q, hq⟩ : ∃ q, rightD (plD x) = q := ⟨_, rfl⟩
              rw [hq] at hrec
              repeat (first | refine yK ?_ | (refine gO ?_; first | refine yP ?_ | (refine gK ?_; refine sy_ov (ov_lens rfl) rfl rfl ?_) | (refine gL ?_; refine yL 0 ?_) | refine yF ?_ | (refine sy_ov (ov_indexAddr rfl rfl ?_ ?_) rfl rfl ?_; omega; omega)) | refine yT ?_)
              refine sy_ov (ov_elem (f := docV) hat hx rfl rfl docV_len) rfl rfl ?_
              obtain ⟨xk, xn, xs, xp, xc, xkids⟩ := x
              cases q
              · skip
                refine sy_ov (ov_call rfl (fun w hw => hrec w (hxj.at hw))) rfl rfl ?_
                repeat (first | refine yK ?_ | (refine gO ?_; refine yP ?_) | refine yT ?_ | refine sy_rt ?_)
                exact ret1 rfl rfl (by simp only [plD, rightD, rightDs_false hq hpx, Bool.and_false])
              · skip
                refine sy_ov (ov_call rfl (fun w hw => hrec w (hxj.at hw))) rfl rfl ?_
                repeat (first | refine yK ?_ | (refine gO ?_; first | refine yP ?_ | (refine gB ?_; (refine sy_ov (ov_ar rfl rfl rfl ?_ ?_) rfl rfl ?_; omega; omega))) | refine yN ?_)
                refine sy_back (i + 1) ⟨by omega, by omega, ?_⟩ (by omega) ⟨⟨_, rfl, rfl⟩, ⟨_, rfl, rfl⟩, trivial⟩ (List.Sublist.refl _)
                intro j u hj hu
                by_cases hji : j < i.toNat
                · exact hinv j u hji hu
                · have : j = i.toNat := by omega
                  subst this
                  rw [hpx] at hu; cases hu; exact hq
            · have hall : rightDs (plDs kids) = true := rightDs_all fun j x hx => hinv j x (by have := (List.getElem?_eq_some_iff.1 hx).1; rw [plDs_len] at this; omega) hx
              repeat (first | refine yK ?_ | (refine gO ?_; first | refine yP ?_ | (refine gK ?_; refine sy_ov (ov_lens rfl) rfl rfl ?_) | (refine gL ?_; refine yL 0 ?_) | refine yF ?_) | refine yN ?_ | refine sy_rt ?_)
              exact ret1 rfl rfl (by simp only [plD, rightD, plDs_len, hown, hall, Bool.and_true])
          · have k6k : kids ≠ [] := fun h => k6 (by rw [h]; rfl)
            rw [show rightD (plD (.mk k n s p c kids)) = false from rightD_own (ownD_not1 (by unfold own1; first | omega | (simp only [List.length_eq_zero_iff] at *; simp_all; done) | (rintro ⟨h1, h2, h3, h4, h5, h6, h7⟩; simp_all; omega)))]
            refine sy_enter rfl rfl ?_
            simp only [initFr]
            repeat (first | refine yK ?_ | (refine gO ?_; first | refine yP ?_ | (refine gG ?_; refine yG ?_) | (refine gK ?_; refine sy_ov (ov_lens rfl) rfl rfl ?_) | (refine gL ?_; refine yL 0 ?_) | refine yM ?_ | refine yE ?_ | refine yF ?_ | (refine sy_box rfl rfl rfl ?_; intro _)) | refine yT ?_ | refine sy_rt ?_)
            exact ret1 rfl rfl rfl
        · have ho1 : own1 k n s kids.length := by unfold own1; first | omega | (refine ⟨?_, ?_, ?_, ?_, ?_, ?_, ?_⟩ <;> first | omega | (simp [*]; done))
          refine sy_enter rfl rfl ?_
          simp only [initFr]
          repeat (first | refine yK ?_ | (refine gO ?_; first | refine yP ?_ | (refine gG ?_; first | refine yG ?_ | refine yH ?_) | (refine gL ?_; refine yL 0 ?_) | refine yM ?_ | refine yE ?_ | refine sy_ov (ov_pick rfl rfl rfl) rfl rfl ?_ | refine yF ?_ | (refine sy_box rfl rfl rfl ?_; intro _)) | refine yN ?_)
          rename_i b1
          refine sy_callN rfl rfl (fun w hw => hwk w) ?_
          rintro u es' ⟨v, m0, rfl, rfl⟩
          simp only [List.nil_append]
          by_cases hv : (badL s : Int) < s.length
          · repeat (first | refine yK ?_ | (refine gO ?_; first | refine yP ?_ | (refine gK ?_; refine sy_ov (ov_len rfl) rfl rfl ?_) | (refine gL ?_; refine yL 0 ?_) | refine yF ?_) | refine yT ?_ | refine sy_rt ?_)
            exact ret1 rfl rfl (by rw [rightD_own (ownD_bad (by unfold validB; simp; omega))])
          have hva : validB s = true := by unfold validB; simp; omega
          repeat (first | refine yK ?_ | (refine gO ?_; first | refine yP ?_ | (refine gK ?_; refine sy_ov (ov_len rfl) rfl rfl ?_) | (refine gL ?_; refine yL 0 ?_) | refine yF ?_) | refine yN ?_)
          refine sy_loop (α := Int) (fun j => [(1, .pointer (some ⟨b1, 0, none⟩)), (6, .int .i64 j)]) (fun _ => [blk b1 24 (docV (.mk k n s p c kids))]) (fun j => 0 ≤ j ∧ j ≤ s.length ∧ (10 : UInt8) ∉ s.take j.toNat) (fun j => (s.length - j).toNat) 0 ⟨by omega, by omega, by simp⟩ ⟨⟨_, rfl, rfl⟩, ⟨_, rfl, rfl⟩, trivial⟩ (List.Sublist.refl _) ?_
          rintro j ⟨j0, j1, j10⟩
          by_cases hlt : j < s.length
          · by_cases h10 : bt s j = 10
            · have hmem : (10 : UInt8) ∈ s := List.mem_of_getElem? ((bt_ten j0 hlt).1 h10)
              repeat (first | refine yK ?_ | (refine gO ?_; first | refine yP ?_ | (refine gK ?_; refine sy_ov (ov_len rfl) rfl rfl ?_) | (refine gL ?_; refine yL 0 ?_) | refine yF ?_ | refine yI ?_) | refine yT ?_ | refine sy_rt ?_)
              exact ret1 rfl rfl (by rw [rightD_own (ownD_ten hmem)])
            · repeat (first | refine yK ?_ | (refine gO ?_; first | refine yP ?_ | (refine gB ?_; (refine sy_ov (ov_ar rfl rfl rfl ?_ ?_) rfl rfl ?_; omega; omega)) | (refine gK ?_; refine sy_ov (ov_len rfl) rfl rfl ?_) | (refine gL ?_; refine yL 0 ?_) | refine yF ?_ | refine yI ?_) | refine yT ?_ | refine yN ?_)
              refine sy_back (j + 1) ⟨by omega, by omega, take_ten j0 hlt h10 j10⟩ (by omega) ⟨⟨_, rfl, rfl⟩, ⟨_, rfl, rfl⟩, trivial⟩ (List.Sublist.refl _)
          have hno : (10 : UInt8) ∉ s := by rwa [List.take_of_length_le (by omega)] at j10
          have hown := own1_to ho1 hva hno
          repeat (first | refine yK ?_ | (refine gO ?_; first | refine yP ?_ | (refine gK ?_; refine sy_ov (ov_len rfl) rfl rfl ?_) | (refine gL ?_; refine yL 0 ?_) | refine yF ?_) | refine yN ?_)
          try clear k6k k6
          refine sy_loop (α := Int) (fun i => [(1, .pointer (some ⟨b1, 0, none⟩)), (7, .int .i64 i)]) (fun _ => [blk b1 24 (docV (.mk k n s p c kids))]) (fun i => 0 ≤ i ∧ i ≤ kids.length ∧ ∀ (j : Nat) x, j < i.toNat → (plDs kids)[j]? = some x → rightD x = true) (fun i => (kids.length - i).toNat) 0 ⟨by omega, by omega, fun j x h => by simp at h⟩ ⟨⟨_, rfl, rfl⟩, ⟨_, rfl, rfl⟩, trivial⟩ (List.Sublist.refl _) ?_
          rintro i ⟨i0, i1, hinv⟩
          by_cases hlt2 : i < kids.length
          · obtain ⟨x, hx⟩ : ∃ x, kids[i.toNat]? = some x := ⟨_, List.getElem?_eq_getElem (by omega)⟩
            have hxm := List.mem_of_getElem? hx
            obtain ⟨b, off, hp, hat⟩ := hst.addr (by omega)
            subst hp
            have hsz := sizeD_kid (k := k) (n := n) (s := s) (p := some ⟨b, off, none⟩) (c := c) hxm
            have hpx := plDs_at hx
            have hxj := hstk _ hxm
            have hxB : blkD (plD x) ≤ blkDs (plDs kids) := blkDs_mem (plDs_mem hxm)
            have hi1 : (i + 1).toNat = i.toNat + 1 := by omega
            have hrec := ih x (by omega) (by omega)
            obtain ⟨q, hq⟩ : ∃ q, rightD (plD x) = q := ⟨_, rfl⟩
            rw [hq] at hrec
            repeat (first | refine yK ?_ | (refine gO ?_; first | refine yP ?_ | (refine gK ?_; refine sy_ov (ov_lens rfl) rfl rfl ?_) | (refine gL ?_; refine yL 0 ?_) | refine yF ?_ | (refine sy_ov (ov_indexAddr rfl rfl ?_ ?_) rfl rfl ?_; omega; omega)) | refine yT ?_)
            refine sy_ov (ov_elem (f := docV) hat hx rfl rfl docV_len) rfl rfl ?_
            obtain ⟨xk, xn, xs, xp, xc, xkids⟩ := x
            cases q
            · skip
              refine sy_ov (ov_call rfl (fun w hw => hrec w (hxj.at hw))) rfl rfl ?_
              repeat (first | refine yK ?_ | (refine gO ?_; refine yP ?_) | refine yT ?_ | refine sy_rt ?_)
              exact ret1 rfl rfl (by simp only [plD, rightD, rightDs_false hq hpx, Bool.and_false])
            · skip
              refine sy_ov (ov_call rfl (fun w hw => hrec w (hxj.at hw))) rfl rfl ?_
              repeat (first | refine yK ?_ | (refine gO ?_; first | refine yP ?_ | (refine gB ?_; (refine sy_ov (ov_ar rfl rfl rfl ?_ ?_) rfl rfl ?_; omega; omega))) | refine yN ?_)
              refine sy_back (i + 1) ⟨by omega, by omega, ?_⟩ (by omega) ⟨⟨_, rfl, rfl⟩, ⟨_, rfl, rfl⟩, trivial⟩ (List.Sublist.refl _)
              intro j u hj hu
              by_cases hji : j < i.toNat
              · exact hinv j u hji hu
              · have : j = i.toNat := by omega
                subst this
                rw [hpx] at hu; cases hu; exact hq
          · have hall : rightDs (plDs kids) = true := rightDs_all fun j x hx => hinv j x (by have := (List.getElem?_eq_some_iff.1 hx).1; rw [plDs_len] at this; omega) hx
            repeat (first | refine yK ?_ | (refine gO ?_; first | refine yP ?_ | (refine gK ?_; refine sy_ov (ov_lens rfl) rfl rfl ?_) | (refine gL ?_; refine yL 0 ?_) | refine yF ?_) | refine yN ?_ | refine sy_rt ?_)
            exact ret1 rfl rfl (by simp only [plD, rightD, plDs_len, hown, hall, Bool.and_true])
      · rw [show rightD (plD (.mk k n s p c kids)) = false from rightD_own (ownD_not1 (by unfold own1; first | omega | (simp only [List.length_eq_zero_iff] at *; simp_all; done) | (rintro ⟨h1, h2, h3, h4, h5, h6, h7⟩; simp_all; omega)))]
        refine sy_enter rfl rfl ?_
        simp only [initFr]
        repeat (first | refine yK ?_ | (refine gO ?_; first | refine yP ?_ | (refine gG ?_; first | refine sy_guard_undef rfl rfl rfl rfl rfl ?_ | refine yG ?_ | refine yH ?_) | (refine gL ?_; refine yL 0 ?_) | refine yM ?_ | refine yE ?_ | refine sy_ov (ov_pick rfl rfl rfl) rfl rfl ?_ | refine yF ?_ | (refine sy_box rfl rfl rfl ?_; intro _)) | refine yT ?_ | refine sy_rt ?_)
        exact ret1 rfl rfl rfl
  · rw [show rightD (plD (.mk k n s p c kids)) = false from rightD_own (ownD_not1 (by unfold own1; first | omega | (simp only [List.length_eq_zero_iff] at *; simp_all; done) | (rintro ⟨h1, h2, h3, h4, h5, h6, h7⟩; simp_all; omega)))]
    refine sy_enter rfl rfl ?_
    simp only [initFr]
    repeat (first | refine yK ?_ | (refine gO ?_; first | refine yP ?_ | (refine gG ?_; first | refine sy_guard_undef rfl rfl rfl rfl rfl ?_ | refine yG ?_ | refine yH ?_) | (refine gL ?_; refine yL 0 ?_) | refine yM ?_ | refine yE ?_ | refine sy_ov (ov_pick rfl rfl rfl) rfl rfl ?_ | refine yF ?_ | (refine sy_box rfl rfl rfl ?_; intro _)) | refine yT ?_ | refine sy_rt ?_)
    exact ret1 rfl rfl rfl
end Go.Proofs.Ytkaeihlpdceokaa