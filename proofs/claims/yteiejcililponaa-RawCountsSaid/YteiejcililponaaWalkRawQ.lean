/- The walks of blindfoldlaw22.RawCounts and blindfoldlaw22.RawBounds. -/
import Derived.Test.YteiejcililponaaBRV
import Derived.Test.YteiejcililponaaBRA
import Derived.Test.YteiejcililponaaBTR
set_option linter.unusedVariables false
set_option linter.unusedSimpArgs false
namespace Go.Proofs.Yteiejcililponaa
open Go.RowKit Bf
theorem sy_rawKeys {P : Program} {C : Cx} {k' : List It} {fr : Fr} {hp : List En} (i : Nat) {k a n : Int} {s : List UInt8} {pk : Option Addr} {ck : Nat} {keys : List WordT} {p : Option Addr} {c : Nat} {kids : List RawA}
    (hi : hp[i]? = some (rawE [.mk k a n s pk ck keys p c kids])) (hn : 0 < keys.length) (h : ∀ b off, pk = some ⟨b, off, none⟩ → Sy P C k' fr hp) : Sy P C k' fr hp :=
  .mk fun a' w ha hw => by
    have hJ := (hw.get hi).1 _ (List.mem_singleton.2 rfl)
    obtain ⟨_, hs, _, _⟩ := RawJ.parts hJ
    rcases hs.2 with h0 | ⟨b, off, e, _⟩
    · omega
    · exact (h b off e).go a' w ha hw
theorem raw_key {w : World} {k a n : Int} {s : List UInt8} {b off : Nat} {ck : Nat} {x : WordT} {keys : List WordT} {p : Option Addr} {c : Nat} {kids : List RawA} (h : RawJ w (.mk k a n s (some ⟨b, off, none⟩) ck (x :: keys) p c kids)) : w.cell? ⟨b, off, none⟩ = some (S x.1) := by
  obtain ⟨_, hs, _, _⟩ := h.parts
  rcases hs.2 with h0 | ⟨b', off', e, hat⟩
  · simp at h0
  · cases e
    exact hat 0 (S x.1) rfl
theorem raw_at {D : Nat → Prop} {w0 w : World} {hp : List En} (hw : HpOk D w0 hp w) {i : Nat} {z : RawA} (hi : hp[i]? = some (rawE [z])) : RawJ w z := (hw.get hi).1 z (List.mem_singleton.2 rfl)
theorem eqL_f0' : eqL [.int .i64 0, .int .i64 0] [.int .i64 0, .int .i64 0] = true := by simp [eqL, eqC]
def live22 : List UInt8 := [123, 97, 58, 32, 91, 49, 93, 125]
theorem scan22 : scanR live22 = ([(4, 0, 1, [123], 0), (1, 1, 2, [97], 0), (4, 2, 3, [58], 0), (4, 4, 5, [91], 0), (2, 5, 6, [], 1), (4, 6, 7, [93], 0), (4, 7, 8, [125], 0), (0, 8, 8, [], 0)], 0, 0) :=
  scanR_of (by decide) 40 (by kernel_rfl)
def v22 : RawP := .mk 5 0 0 [] [([97], 1)] [.mk 4 4 0 [] [] [.mk 2 5 1 [] [] []]]
theorem raw22 : rawR live22 = .ok v22 [(0, 8, 8, [], 0)] 3 := by
  unfold rawR; rw [scan22]; rfl
set_option maxRecDepth 20000 in
set_option maxHeartbeats 4000000 in
theorem lives22_c (w : World) : Calls Try.prog 68 #[] w fun e w' => e = .returned (.bool true) ∧ Below w.heap.size w w' := by
  refine sy_enter (args := []) rfl rfl ?_
  simp only [initFr]
  repeat (first | refine sy_k rfl rfl ?_ | (refine gO ?_; refine sy_ov (ov_p rfl) rfl rfl ?_))
  refine sy_callE [] rfl rfl rfl (praw_c live22 (by decide)) ?_
  intro u es' hV
  simp only [PP, raw22] at hV
  obtain ⟨z, rfl, rfl, hz⟩ := hV
  obtain ⟨k, a, n, s, pk, ck, keys, p, c, kids⟩ := z
  have hcw : cntW (plR (.mk k a n s pk ck keys p c kids)) = 3 := by rw [hz]; rfl
  simp only [plR, v22, RawP.mk.injEq] at hz
  obtain ⟨rfl, rfl, rfl, rfl, rfl, _⟩ := hz
  simp only [List.cons_append, List.nil_append]
  refine sy_rawKeys 0 rfl (by decide) ?_
  rintro b off rfl
  repeat (first | refine sy_k rfl rfl ?_ | (refine gO ?_; first | refine sy_ov (ov_p rfl) rfl rfl ?_ | (refine gL ?_; refine sy_ov (ov_ld 0 rfl rfl rfl) rfl rfl ?_) | (refine gS ?_; first | refine sy_store 0 rfl rfl rfl rfl rfl rfl rfl rfl ?_ | refine sy_store 1 rfl rfl rfl rfl rfl rfl rfl rfl ?_) | refine sy_ov (ov_build rfl rfl rfl) rfl rfl ?_ | (refine sy_alloc rfl rfl rfl ?_; intro _)))
  refine sy_ov (ov_eqst (xs := [.int .i64 0, .int .i64 0]) (ys := [.int .i64 0, .int .i64 0]) rfl rfl rfl rfl) rfl rfl ?_
  rw [eqL_f0']
  repeat ((refine gO ?_; first | refine sy_ov (ov_p rfl) rfl rfl ?_ | (refine gG ?_; (refine sy_guard_yes rfl rfl rfl rfl rfl ?_ ?_; focus (first | with_reducible rfl | assumption | omega | (simp <;> first | omega | assumption)))) | (refine gL ?_; refine sy_ov (ov_ld 1 rfl rfl rfl) rfl rfl ?_)))
  refine sy_ov (ov_call rfl (fun w hw => count_c _ (.mk 5 0 0 [] (some ⟨b, off, none⟩) ck [([97], 1)] p c kids) (Nat.le_refl _) w (raw_at (i := 2) (z := (.mk 5 0 0 [] (some ⟨b, off, none⟩) ck [([97], 1)] p c kids)) hw rfl))) rfl rfl ?_
  rw [hcw]
  repeat ((refine gO ?_; first | refine sy_ov (ov_p rfl) rfl rfl ?_ | (refine gG ?_; (refine sy_guard_yes rfl rfl rfl rfl rfl ?_ ?_; focus (first | with_reducible rfl | assumption | omega | (simp <;> first | omega | assumption)))) | (refine gL ?_; refine sy_ov (ov_ld 1 rfl rfl rfl) rfl rfl ?_) | (refine sy_ov (ov_pick_t rfl rfl ?_) rfl rfl ?_; focus (with_reducible rfl)) | refine sy_ov (ov_fieldAddr rfl rfl rfl) rfl rfl ?_))
  refine sy_ov (ov_indexAddr rfl rfl (by decide) (by simp)) rfl rfl ?_
  repeat ((refine gO ?_; first | (refine gG ?_; (refine sy_guard_yes rfl rfl rfl rfl rfl ?_ ?_; focus (first | with_reducible rfl | assumption | omega | (simp <;> first | omega | assumption)))) | refine sy_ov (ov_fieldAddr rfl rfl rfl) rfl rfl ?_))
  refine sy_ov (ov_loadx rfl rfl (fun w hw => raw_key (raw_at (i := 2) (z := .mk 5 0 0 [] (some ⟨b, off, none⟩) ck [([97], 1)] p c kids) hw rfl))) rfl rfl ?_
  repeat (first | refine sy_k rfl rfl ?_ | (refine gO ?_; first | refine sy_ov (ov_p rfl) rfl rfl ?_ | (refine gG ?_; (refine sy_guard_yes rfl rfl rfl rfl rfl ?_ ?_; focus (first | with_reducible rfl | assumption | omega | (simp <;> first | omega | assumption)))) | (refine sy_ov (ov_pick_t rfl rfl ?_) rfl rfl ?_; focus (with_reducible rfl))) | refine sy_rt ?_)
  exact ret1 rfl rfl rfl
set_option maxRecDepth 20000 in
set_option maxHeartbeats 4000000 in
theorem rawCounts_walk (w : World) (z : RawA) (hz : RawIn w z) : Calls Try.prog 13 #[.agg ⟨rawV z⟩] w fun e w' => e = .returned (.bool true) ∧ Below w.heap.size w w' := by
  have hst : St (fun _ => False) w (fun w => RawJ w z) := St.start (RawJ.bl z) hz.toJ
  have hsz := fun w h => size_c22 _ z (Nat.le_refl _) w h
  have hct := fun w h => count_c _ z (Nat.le_refl _) w h
  have hdp := fun w h => depth_c _ z (Nat.le_refl _) w h
  obtain ⟨n, hn⟩ : ∃ n, cntW (plR z) = n := ⟨_, rfl⟩
  obtain ⟨dp, hd⟩ : ∃ dp, depW (plR z) = dp := ⟨_, rfl⟩
  rw [hn] at hct
  rw [hd] at hdp
  rw [hn, hd] at hsz
  obtain ⟨k, a, n', s, pk, ck, keys, p, c, kids⟩ := z
  by_cases h5 : n > 5000
  · refine sy_enter rfl rfl ?_
    simp only [initFr]
    repeat (first | refine sy_k rfl rfl ?_ | (refine gO ?_; first | refine sy_ov (ov_p rfl) rfl rfl ?_ | (refine gL ?_; refine sy_ov (ov_ld 0 rfl rfl rfl) rfl rfl ?_) | (refine sy_box rfl rfl rfl ?_; intro _)))
    refine sy_ov (ov_call rfl (fun w hw => hsz w (hst.at hw))) rfl rfl ?_
    repeat (first | refine sy_k rfl rfl ?_ | (refine gO ?_; first | refine sy_ov (ov_p rfl) rfl rfl ?_ | (refine gG ?_; first | refine sy_guard_undef rfl rfl rfl rfl rfl ?_ | (refine sy_guard_yes rfl rfl rfl rfl rfl ?_ ?_; focus (first | with_reducible rfl | assumption | omega | (simp <;> first | omega | assumption))) | (refine sy_guard_no rfl rfl rfl rfl rfl ?_ ?_; focus (first | with_reducible rfl | assumption | omega | (simp <;> first | omega | assumption)))) | refine sy_ov (ov_pick rfl rfl rfl) rfl rfl ?_))
    refine sy_ov (ov_call rfl (fun w _ => lives22_c w)) rfl rfl ?_
    repeat (first | refine sy_k rfl rfl ?_ | (refine gO ?_; first | refine sy_ov (ov_p rfl) rfl rfl ?_ | (refine sy_ov (ov_pick_t rfl rfl ?_) rfl rfl ?_; focus (with_reducible rfl))) | refine sy_rt ?_)
    exact ret1 rfl rfl rfl
  · refine sy_enter rfl rfl ?_
    simp only [initFr]
    repeat (first | refine sy_k rfl rfl ?_ | (refine gO ?_; first | refine sy_ov (ov_p rfl) rfl rfl ?_ | (refine gL ?_; refine sy_ov (ov_ld 0 rfl rfl rfl) rfl rfl ?_) | (refine sy_box rfl rfl rfl ?_; intro _)))
    refine sy_ov (ov_call rfl (fun w hw => hsz w (hst.at hw))) rfl rfl ?_
    repeat (first | refine sy_k rfl rfl ?_ | (refine gO ?_; first | refine sy_ov (ov_p rfl) rfl rfl ?_ | (refine gG ?_; (refine sy_guard_yes rfl rfl rfl rfl rfl ?_ ?_; focus (first | with_reducible rfl | assumption | omega | (simp <;> first | omega | assumption)))) | (refine gL ?_; refine sy_ov (ov_ld 0 rfl rfl rfl) rfl rfl ?_)))
    refine sy_ov (ov_call rfl (fun w hw => hct w (hst.at hw))) rfl rfl ?_
    repeat ((refine gO ?_; first | refine sy_ov (ov_p rfl) rfl rfl ?_ | (refine gG ?_; (refine sy_guard_yes rfl rfl rfl rfl rfl ?_ ?_; focus (first | with_reducible rfl | assumption | omega | (simp <;> first | omega | assumption)))) | (refine gL ?_; refine sy_ov (ov_ld 0 rfl rfl rfl) rfl rfl ?_)))
    refine sy_ov (ov_call rfl (fun w hw => hdp w (hst.at hw))) rfl rfl ?_
    repeat ((refine gO ?_; first | refine sy_ov (ov_p rfl) rfl rfl ?_ | (refine gG ?_; (refine sy_guard_yes rfl rfl rfl rfl rfl ?_ ?_; focus (first | with_reducible rfl | assumption | omega | (simp <;> first | omega | assumption)))) | (refine sy_ov (ov_pick_t rfl rfl ?_) rfl rfl ?_; focus (with_reducible rfl)) | (refine sy_ov (ov_pick_f rfl rfl ?_) rfl rfl ?_; focus (with_reducible rfl))))
    refine sy_ov (ov_call rfl (fun w _ => lives22_c w)) rfl rfl ?_
    repeat (first | refine sy_k rfl rfl ?_ | (refine gO ?_; first | refine sy_ov (ov_p rfl) rfl rfl ?_ | (refine sy_ov (ov_pick_t rfl rfl ?_) rfl rfl ?_; focus (with_reducible rfl))) | refine sy_rt ?_)
    exact ret1 rfl rfl rfl
set_option maxRecDepth 20000 in
set_option maxHeartbeats 4000000 in
theorem rawBounds_walk (s : ByteArray) (hs0 : s.size ≤ 140737488351232) (w : World) : Calls Try.prog 14 #[.string s] w fun e w' => e = .returned (.bool true) ∧ Below w.heap.size w w' := by
  obtain ⟨⟨q⟩⟩ := s
  have hq : q.length ≤ 140737488351232 := hs0
  by_cases h1 : 12000 < q.length
  · refine sy_enter rfl rfl ?_
    simp only [initFr]
    repeat (first | refine sy_k rfl rfl ?_ | (refine gO ?_; first | refine sy_ov (ov_p rfl) rfl rfl ?_ | (refine gK ?_; refine sy_ov (ov_len rfl) rfl rfl ?_)) | (refine sy_cond_t rfl ?_ ?_; focus (first | with_reducible rfl | assumption | omega | (simp <;> first | omega | assumption))))
    refine sy_ov (ov_call rfl (fun w _ => lives22_c w)) rfl rfl ?_
    repeat (first | refine sy_k rfl rfl ?_ | (refine gO ?_; refine sy_ov (ov_p rfl) rfl rfl ?_) | refine sy_rt ?_)
    exact ret1 rfl rfl rfl
  · cases hr : rawR q with
    | ok v l' m' =>
      obtain ⟨hcn, hdp, x, hri, hx0, hx1⟩ := rawR_bounds hr
      have hcw := cntW_small v (by omega)
      have hdw := depW_small v (by omega)
      refine sy_enter rfl rfl ?_
      simp only [initFr]
      repeat (first | refine sy_k rfl rfl ?_ | (refine gO ?_; first | refine sy_ov (ov_p rfl) rfl rfl ?_ | (refine gK ?_; refine sy_ov (ov_len rfl) rfl rfl ?_)) | (refine sy_cond_f rfl ?_ ?_; focus (first | with_reducible rfl | assumption | omega | (simp <;> first | omega | assumption))))
      refine sy_callE [] rfl rfl rfl (praw_c q (by omega)) ?_
      intro u es' hV
      simp only [PP, hr] at hV
      obtain ⟨z, rfl, rfl, hz⟩ := hV
      have hrs := fun w h => rises_c _ z (Nat.le_refl _) 0 x w h (by rw [hz]; exact hri) (by decide) (by omega)
      have hct := fun w h => count_c _ z (Nat.le_refl _) w h
      have hdt := fun w h => depth_c _ z (Nat.le_refl _) w h
      rw [hz, hcw] at hct
      rw [hz, hdw] at hdt
      clear hz
      obtain ⟨k, a, n, s, pk, ck, keys, p, c, kids⟩ := z
      simp only [List.cons_append, List.nil_append]
      repeat (first | refine sy_k rfl rfl ?_ | (refine gO ?_; first | refine sy_ov (ov_p rfl) rfl rfl ?_ | (refine gL ?_; first | refine sy_ov (ov_ld 0 rfl rfl rfl) rfl rfl ?_ | refine sy_ov (ov_ld 1 rfl rfl rfl) rfl rfl ?_) | (refine gS ?_; first | refine sy_store 0 rfl rfl rfl rfl rfl rfl rfl rfl ?_ | refine sy_store 1 rfl rfl rfl rfl rfl rfl rfl rfl ?_) | refine sy_ov (ov_fieldAddr rfl rfl rfl) rfl rfl ?_ | (refine sy_alloc rfl rfl rfl ?_; intro _)) | (refine sy_cond_f rfl ?_ ?_; focus (first | with_reducible rfl | assumption | omega | (simp <;> first | omega | assumption))))
      refine sy_ov (ov_call rfl (fun w hw => hrs w (raw_at (i := 2) hw rfl))) rfl rfl ?_
      repeat (first | refine sy_k rfl rfl ?_ | (refine gO ?_; first | refine sy_ov (ov_p rfl) rfl rfl ?_ | (refine gG ?_; (refine sy_guard_yes rfl rfl rfl rfl rfl ?_ ?_; focus (first | with_reducible rfl | assumption | omega | (simp <;> first | omega | assumption)))) | (refine gK ?_; refine sy_ov (ov_len rfl) rfl rfl ?_) | (refine gL ?_; refine sy_ov (ov_ld 1 rfl rfl rfl) rfl rfl ?_) | (refine sy_ov (ov_pick_t rfl rfl ?_) rfl rfl ?_; focus (with_reducible rfl))))
      refine sy_ov (ov_call rfl (fun w hw => hct w (raw_at (i := 2) hw rfl))) rfl rfl ?_
      repeat ((refine gO ?_; first | refine sy_ov (ov_p rfl) rfl rfl ?_ | (refine gG ?_; (refine sy_guard_yes rfl rfl rfl rfl rfl ?_ ?_; focus (first | with_reducible rfl | assumption | omega | (simp <;> first | omega | assumption)))) | (refine gL ?_; refine sy_ov (ov_ld 1 rfl rfl rfl) rfl rfl ?_) | (refine sy_ov (ov_pick_t rfl rfl ?_) rfl rfl ?_; focus (with_reducible rfl))))
      refine sy_ov (ov_call rfl (fun w hw => hdt w (raw_at (i := 2) hw rfl))) rfl rfl ?_
      repeat ((refine gO ?_; first | refine sy_ov (ov_p rfl) rfl rfl ?_ | (refine gG ?_; (refine sy_guard_yes rfl rfl rfl rfl rfl ?_ ?_; focus (first | with_reducible rfl | assumption | omega | (simp <;> first | omega | assumption)))) | (refine sy_ov (ov_pick_t rfl rfl ?_) rfl rfl ?_; focus (with_reducible rfl))))
      refine sy_ov (ov_call rfl (fun w _ => lives22_c w)) rfl rfl ?_
      repeat (first | refine sy_k rfl rfl ?_ | (refine gO ?_; first | refine sy_ov (ov_p rfl) rfl rfl ?_ | (refine sy_ov (ov_pick_t rfl rfl ?_) rfl rfl ?_; focus (with_reducible rfl))) | refine sy_rt ?_)
      exact ret1 rfl rfl rfl
    | bad e a =>
      have hb := rawR_bad (s := q) (by omega)
      rw [hr] at hb
      obtain ⟨he, ha0, ha1⟩ := hb
      refine sy_enter rfl rfl ?_
      simp only [initFr]
      repeat (first | refine sy_k rfl rfl ?_ | (refine gO ?_; first | refine sy_ov (ov_p rfl) rfl rfl ?_ | (refine gK ?_; refine sy_ov (ov_len rfl) rfl rfl ?_)) | (refine sy_cond_f rfl ?_ ?_; focus (first | with_reducible rfl | assumption | omega | (simp <;> first | omega | assumption))))
      refine sy_callE [] rfl rfl rfl (praw_c q (by omega)) ?_
      intro u es' hV
      simp only [PP, hr] at hV
      obtain ⟨rfl, rfl⟩ := hV
      simp only [List.nil_append]
      repeat (first | refine sy_k rfl rfl ?_ | (refine gO ?_; first | refine sy_ov (ov_p rfl) rfl rfl ?_ | (refine gG ?_; (refine sy_guard_yes rfl rfl rfl rfl rfl ?_ ?_; focus (first | with_reducible rfl | assumption | omega | (simp <;> first | omega | assumption)))) | (refine gK ?_; refine sy_ov (ov_len rfl) rfl rfl ?_) | (refine gL ?_; first | refine sy_ov (ov_ld 0 rfl rfl rfl) rfl rfl ?_ | refine sy_ov (ov_ld 1 rfl rfl rfl) rfl rfl ?_) | (refine gS ?_; first | refine sy_store 0 rfl rfl rfl rfl rfl rfl rfl rfl ?_ | refine sy_store 1 rfl rfl rfl rfl rfl rfl rfl rfl ?_) | (refine sy_ov (ov_pick_t rfl rfl ?_) rfl rfl ?_; focus (with_reducible rfl)) | refine sy_ov (ov_fieldAddr rfl rfl rfl) rfl rfl ?_ | (refine sy_alloc rfl rfl rfl ?_; intro _)) | (refine sy_cond_t rfl ?_ ?_; focus (first | with_reducible rfl | assumption | omega | (simp <;> first | omega | assumption))))
      refine sy_ov (ov_call rfl (fun w _ => lives22_c w)) rfl rfl ?_
      repeat (first | refine sy_k rfl rfl ?_ | (refine gO ?_; first | refine sy_ov (ov_p rfl) rfl rfl ?_ | (refine sy_ov (ov_pick_t rfl rfl ?_) rfl rfl ?_; focus (with_reducible rfl))) | refine sy_rt ?_)
      exact ret1 rfl rfl rfl
end Go.Proofs.Yteiejcililponaa
