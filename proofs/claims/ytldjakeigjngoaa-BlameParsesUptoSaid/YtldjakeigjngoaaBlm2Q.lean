/- Contract: an error's text, read by definition. -/
import Derived.Test.YtldjakeigjngoaaBlm1Q
set_option linter.unusedVariables false
set_option linter.unusedSimpArgs false
namespace Go.Proofs.Ytldjakeigjngoaa
open Go.RowKit Bf
theorem rstage_l (n : Int) (w : World) : Calls Try.prog 50 #[.int .i64 n] w fun e w' => e = .returned (S (stageB n).data.toList) ∧ Below w.heap.size w w' := rstage_any n w
theorem rcode_l (n : Int) (w : World) : Calls Try.prog 51 #[.int .i64 n] w fun e w' => e = .returned (S (codeB n).data.toList) ∧ Below w.heap.size w w' := rcode_any n w
theorem rtake_l (s : List UInt8) (a n en f p : Int) (h : takeS s a = (n, en, f, p)) (hs : s.length ≤ 4611686018427387000) (h1 : 0 ≤ a) (h2 : a ≤ 9223372036854775807) (w : World) :
 Calls Try.prog 52 #[S s, .int .i64 a] w fun e w' => e = .returned (.tuple #[.int .i64 n, .int .i64 en, .agg ⟨[.int .i64 f, .int .i64 p]⟩]) ∧ Below w.heap.size w w' := by
 have := rtake_any ⟨⟨s⟩⟩ a w (by show s.length ≤ maxLen; unfold maxLen; omega) ⟨by omega, h2⟩
 rw [show takeS (ByteArray.mk ⟨s⟩).data.toList a = (n, en, f, p) from h] at this
 exact this
theorem blam_no (s : List UInt8) (h : ∀ n e x, 1 ≤ n → n ≤ 10 → 1 ≤ e → e ≤ 20 → ¬ hitB s n e x) : blamP s = (0, 0, 0, false) := by
 have hf : ¬ (blamP s).2.2.2 = true := fun ht => by
  obtain ⟨n, e, x, h1, h2, h3, h4, h5, _⟩ := parse_hit s ht
  exact h n e x h1 h2 h3 h4 h5
 unfold blamP at hf ⊢
 split
 · rename_i hc; rw [if_pos hc] at hf; exact absurd rfl hf
 · rfl
theorem blam_ok (s : List UInt8) : (blamP s).2.2.2 = decide (0 < (blamP s).1) := by
 by_cases ht : (blamP s).2.2.2 = true
 · obtain ⟨n, e, x, h1, h2, h3, h4, h5, h6⟩ := parse_hit s ht
   rw [h6]; simp; omega
 · have : blamP s = (0, 0, 0, false) := by
    unfold blamP at ht ⊢
    split
    · rename_i hc; rw [if_pos hc] at ht; exact absurd rfl ht
    · rfl
   rw [this]; rfl
theorem sy_frame2 {P : Program} {C : Cx} {k : List It} {fr : Fr} {hp : List En} (F : Fr) (hf : Sub F fr) (h : Sy P C k F hp) : Sy P C k fr hp := .mk fun a w ha hw => h.go a w (hf.frOk ha) hw
def noHit (s : List UInt8) (n e : Int) : Prop := ∀ x, ¬ hitB s n e x
set_option maxRecDepth 20000 in
set_option maxHeartbeats 4000000 in
theorem rbparse_c (s : List UInt8) (hs : s.length ≤ 4611686018427387000) (w : World) : Calls Try.prog 11 #[S s] w fun e w' => e = .returned (.tuple #[.int .i64 (blamP s).1, .agg ⟨[.int .i64 (blamP s).2.1, .int .i64 (blamP s).2.2.1]⟩]) ∧ Below w.heap.size w w' := by
 refine sy_enter rfl rfl ?_
 simp only [initFr]
 repeat (first | refine yK ?_ | (refine gO ?_; first | refine yP ?_ | (refine yA ?_; intro _)))
 rename_i b3
 refine sy_loop (α := Int) (fun n => [(0, S s), (3, .pointer (some ⟨b3, 0, none⟩)), (4, .int .i64 n)]) (fun _ => [blk b3 24 [.int .i64 0, .int .i64 0]]) (fun n => 1 ≤ n ∧ n ≤ 11 ∧ ∀ k e, 1 ≤ k → k < n → 1 ≤ e → e ≤ 20 → noHit s k e) (fun n => (11 - n).toNat) 1 ⟨by omega, by omega, fun k e h1 h2 => by omega⟩ ⟨⟨_, rfl, rfl⟩, ⟨_, rfl, rfl⟩, ⟨_, rfl, rfl⟩, trivial⟩ sr ?_
 rintro n ⟨n1, n2, hn⟩
 by_cases hlt : n < 11
 · repeat (first | refine yK ?_ | (refine gO ?_; refine yP ?_) | refine yT ?_)
   refine sy_loop (α := Int) (fun e => [(0, S s), (3, .pointer (some ⟨b3, 0, none⟩)), (4, .int .i64 n), (5, .int .i64 e)]) (fun _ => [blk b3 24 [.int .i64 0, .int .i64 0]]) (fun e => 1 ≤ e ∧ e ≤ 21 ∧ ∀ k, 1 ≤ k → k < e → noHit s n k) (fun e => (21 - e).toNat) 1 ⟨by omega, by omega, fun k h1 h2 => by omega⟩ ⟨⟨_, rfl, rfl⟩, ⟨_, rfl, rfl⟩, ⟨_, rfl, rfl⟩, ⟨_, rfl, rfl⟩, trivial⟩ sr ?_
   rintro e ⟨e1, e2, he⟩
   by_cases hlt2 : e < 21
   · have z1 := stageB_size n
     have z2 := codeB_size e
     have z1 : (stageB n).data.toList.length ≤ 10 := z1
     have z2 : (codeB e).data.toList.length ≤ 10 := z2
     repeat (first | refine yK ?_ | (refine gO ?_; refine yP ?_) | refine yT ?_)
     refine sy_ov (ov_call rfl (fun w _ => rstage_l n w)) rfl rfl ?_
     repeat ((refine gO ?_; first | refine yP ?_ | (refine gB ?_; (refine sy_ov (ov_cat rfl rfl ?_) rfl rfl ?_; focus (first | omega | (simp <;> omega))))))
     refine sy_ov (ov_call rfl (fun w _ => rcode_l e w)) rfl rfl ?_
     repeat (first | refine yK ?_ | (refine gO ?_; first | refine yP ?_ | (refine gB ?_; (refine sy_ov (ov_cat rfl rfl ?_) rfl rfl ?_; focus (first | omega | (simp <;> omega)))) | (refine gK ?_; refine sy_ov (ov_len rfl) rfl rfl ?_)))
     refine sy_frame2 [(0, S s), (3, .pointer (some ⟨b3, 0, none⟩)), (4, .int .i64 n), (5, .int .i64 e), (6, S (headB n e)), (30, .bool (decide ((s.length : Int) ≤ ((headB n e).length : Int))))] ⟨⟨_, rfl, rfl⟩, ⟨_, rfl, rfl⟩, ⟨_, rfl, rfl⟩, ⟨_, rfl, rfl⟩, ⟨_, rfl, rfl⟩, ⟨_, rfl, rfl⟩, trivial⟩ ?_
     obtain ⟨H, hH⟩ : ∃ H, headB n e = H := ⟨_, rfl⟩
     rw [hH]
     by_cases hA : (s.length : Int) ≤ H.length
     · have hno : noHit s n e := fun x hx => by have := hx.1; rw [hH] at this; omega
       repeat (first | refine yK ?_ | (refine gO ?_; first | refine yP ?_ | (refine gG ?_; refine yH ?_) | (refine gB ?_; (refine sy_ov (ov_ar rfl rfl rfl ?_ ?_) rfl rfl ?_; omega; omega)) | refine sy_ov (ov_pick rfl rfl rfl) rfl rfl ?_) | refine yT ?_)
       have he' : ∀ k, 1 ≤ k → k < e + 1 → noHit s n k := fun k h1 h2 => by
        by_cases hk : k = e
        · subst hk; exact hno
        · exact he k h1 (by omega)
       refine sy_back (e + 1) ⟨by omega, by omega, he'⟩ (by omega) ⟨⟨_, rfl, rfl⟩, ⟨_, rfl, rfl⟩, ⟨_, rfl, rfl⟩, ⟨_, rfl, rfl⟩, trivial⟩ sr
     · by_cases hB : s.take H.length = H
       · obtain ⟨x, en, f, p, htk⟩ : ∃ x en f p, takeS s H.length = (x, en, f, p) := ⟨_, _, _, _, rfl⟩
         by_cases hC : f = 0
         · by_cases hD : en = s.length
           · subst hC
             subst hD
             have hit : hitB s n e x := ⟨by rw [hH]; omega, by rw [hH]; exact hB, p, by rw [hH]; exact htk⟩
             have hP := hit_parse s n e x ⟨n1, by omega⟩ ⟨e1, by omega⟩ hit
             rw [hP]
             repeat (first | refine yK ?_ | (refine gO ?_; first | refine yP ?_ | (refine gG ?_; refine yG ?_) | (refine gK ?_; refine sy_ov (ov_len rfl) rfl rfl ?_) | (refine gI ?_; (refine sy_ov (ov_slice_hi rfl rfl ?_ ?_) rfl rfl ?_; omega; omega)) | refine yE ?_) | refine yN ?_)
             refine sy_ov (ov_call rfl (fun w _ => rtake_l s H.length x s.length 0 p htk hs (by omega) (by omega) w)) rfl rfl ?_
             repeat (first | refine yK ?_ | (refine gO ?_; first | refine yP ?_ | (refine gG ?_; refine yG ?_) | (refine gK ?_; refine sy_ov (ov_len rfl) rfl rfl ?_) | (refine gL ?_; refine yL 0 ?_) | (refine gS ?_; first | refine yS 0 ?_ | refine yS 1 ?_) | refine yM ?_ | refine yF ?_ | refine yB ?_ | (refine yA ?_; intro _)) | refine yT ?_ | refine sy_rt ?_)
             exact ret2c 1 rfl rfl rfl rfl rfl rfl rfl
           · have hno : noHit s n e := fun x' hx => by
              obtain ⟨p', h3⟩ := hx.2.2
              rw [hH, htk] at h3
              have h4 := (Prod.mk.inj (Prod.mk.inj h3).2).1
              exact hD h4
             subst hC
             repeat (first | refine yK ?_ | (refine gO ?_; first | refine yP ?_ | (refine gG ?_; refine yG ?_) | (refine gK ?_; refine sy_ov (ov_len rfl) rfl rfl ?_) | (refine gI ?_; (refine sy_ov (ov_slice_hi rfl rfl ?_ ?_) rfl rfl ?_; omega; omega)) | refine yE ?_) | refine yN ?_)
             refine sy_ov (ov_call rfl (fun w _ => rtake_l s H.length x en 0 p htk hs (by omega) (by omega) w)) rfl rfl ?_
             repeat (first | refine yK ?_ | (refine gO ?_; first | refine yP ?_ | (refine gG ?_; refine yG ?_) | (refine gB ?_; (refine sy_ov (ov_ar rfl rfl rfl ?_ ?_) rfl rfl ?_; omega; omega)) | (refine gK ?_; refine sy_ov (ov_len rfl) rfl rfl ?_) | (refine gL ?_; refine yL 0 ?_) | (refine gS ?_; refine yS 0 ?_) | refine yM ?_ | refine yF ?_ | (refine yA ?_; intro _)) | refine yN ?_)
             have he' : ∀ k, 1 ≤ k → k < e + 1 → noHit s n k := fun k h1 h2 => by
              by_cases hk : k = e
              · subst hk; exact hno
              · exact he k h1 (by omega)
             refine sy_back (e + 1) ⟨by omega, by omega, he'⟩ (by omega) ⟨⟨_, rfl, rfl⟩, ⟨_, rfl, rfl⟩, ⟨_, rfl, rfl⟩, ⟨_, rfl, rfl⟩, trivial⟩ (sd sr)
         · have hno : noHit s n e := fun x' hx => by
            obtain ⟨p', h3⟩ := hx.2.2
            rw [hH, htk] at h3
            have h4 := (Prod.mk.inj (Prod.mk.inj (Prod.mk.inj h3).2).2).1
            exact hC h4
           repeat (first | refine yK ?_ | (refine gO ?_; first | refine yP ?_ | (refine gG ?_; refine yG ?_) | (refine gK ?_; refine sy_ov (ov_len rfl) rfl rfl ?_) | (refine gI ?_; (refine sy_ov (ov_slice_hi rfl rfl ?_ ?_) rfl rfl ?_; omega; omega)) | refine yE ?_) | refine yN ?_)
           refine sy_ov (ov_call rfl (fun w _ => rtake_l s H.length x en f p htk hs (by omega) (by omega) w)) rfl rfl ?_
           repeat (first | refine yK ?_ | (refine gO ?_; first | refine yP ?_ | (refine gG ?_; refine yH ?_) | (refine gB ?_; (refine sy_ov (ov_ar rfl rfl rfl ?_ ?_) rfl rfl ?_; omega; omega)) | (refine gL ?_; refine yL 0 ?_) | (refine gS ?_; refine yS 0 ?_) | refine sy_ov (ov_pick rfl rfl rfl) rfl rfl ?_ | refine yF ?_ | (refine yA ?_; intro _)) | refine yN ?_)
           have he' : ∀ k, 1 ≤ k → k < e + 1 → noHit s n k := fun k h1 h2 => by
            by_cases hk : k = e
            · subst hk; exact hno
            · exact he k h1 (by omega)
           refine sy_back (e + 1) ⟨by omega, by omega, he'⟩ (by omega) ⟨⟨_, rfl, rfl⟩, ⟨_, rfl, rfl⟩, ⟨_, rfl, rfl⟩, ⟨_, rfl, rfl⟩, trivial⟩ (sd sr)
       · have hno : noHit s n e := fun x hx => by have := hx.2.1; rw [hH] at this; exact hB this
         repeat (first | refine yK ?_ | (refine gO ?_; first | refine yP ?_ | (refine gG ?_; refine yG ?_) | (refine gB ?_; (refine sy_ov (ov_ar rfl rfl rfl ?_ ?_) rfl rfl ?_; omega; omega)) | (refine gK ?_; refine sy_ov (ov_len rfl) rfl rfl ?_) | (refine gI ?_; (refine sy_ov (ov_slice_hi rfl rfl ?_ ?_) rfl rfl ?_; omega; omega)) | refine yE ?_) | refine yT ?_)
         have he' : ∀ k, 1 ≤ k → k < e + 1 → noHit s n k := fun k h1 h2 => by
          by_cases hk : k = e
          · subst hk; exact hno
          · exact he k h1 (by omega)
         refine sy_back (e + 1) ⟨by omega, by omega, he'⟩ (by omega) ⟨⟨_, rfl, rfl⟩, ⟨_, rfl, rfl⟩, ⟨_, rfl, rfl⟩, ⟨_, rfl, rfl⟩, trivial⟩ sr
   · have hn' : ∀ k e, 1 ≤ k → k < n + 1 → 1 ≤ e → e ≤ 20 → noHit s k e := fun k e' h1 h2 h3 h4 => by
      by_cases hk : k = n
      · subst hk; exact he e' h3 (by omega)
      · exact hn k e' h1 (by omega) h3 h4
     repeat (first | refine yK ?_ | (refine gO ?_; first | refine yP ?_ | (refine gB ?_; (refine sy_ov (ov_ar rfl rfl rfl ?_ ?_) rfl rfl ?_; omega; omega))) | refine yN ?_)
     refine sy_back (n + 1) ⟨by omega, by omega, hn'⟩ (by omega) ⟨⟨_, rfl, rfl⟩, ⟨_, rfl, rfl⟩, ⟨_, rfl, rfl⟩, trivial⟩ sr
 · have hP := blam_no s (fun k e' x h1 h2 h3 h4 => hn k e' h1 (by omega) h3 h4 x)
   rw [hP]
   repeat (first | refine yK ?_ | (refine gO ?_; first | refine yP ?_ | (refine gS ?_; refine yS 0 ?_) | refine yB ?_) | refine yN ?_ | refine sy_rt ?_)
   exact ret2c 0 rfl rfl rfl rfl rfl rfl rfl
end Go.Proofs.Ytldjakeigjngoaa