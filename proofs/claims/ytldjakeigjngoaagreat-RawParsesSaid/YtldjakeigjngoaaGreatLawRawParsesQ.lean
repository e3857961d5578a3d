/- blindfoldlaw22.RawParses answers true for every input and leaves what it is given as it was: Parse returns the value or the fault that the chapter specifies. No condition. -/
/- LawRawParsesQ: texts of this proof, joined by program: WalkRaw, WalkRawParses, LawRawParses. -/
import Derived.Test.YtldjakeigjngoaaGreatBRV
import Derived.Test.YtldjakeigjngoaaGreatBRA
import Derived.Test.YtldjakeigjngoaaGreatBTR
import Derived.Test.YtldjakeigjngoaaGreatBRX
import Derived.Test.YtldjakeigjngoaaGreatFactsQ
import Derived.ProofKit
import Derived.OpenShut
import Derived.ShutString
import Derived.ChangeOld
import Derived.Below
import Derived.SizedLaws
/- The walks of blindfoldlaw22.RawCounts and blindfoldlaw22.RawBounds. -/
set_option linter.unusedVariables false
set_option linter.unusedSimpArgs false
namespace Go.Proofs.YtldjakeigjngoaaGreat
open Go.RowKit Bf
theorem sy_rawKeys {P : Program} {C : Cx} {k' : List It} {fr : Fr} {hp : List En} (i : Nat) {k a n : Int} {s : List UInt8} {pk : Option Addr} {ck : Nat} {keys : List WordT} {p : Option Addr} {c : Nat} {kids : List RawA}
 (hi : hp[i]? = some (rawE [.mk k a n s pk ck keys p c kids])) (hn : 0 < keys.length) (h : ∀ b off, pk = some ⟨b, off, none⟩ → Sy P C k' fr hp) : Sy P C k' fr hp :=
 .mk fun a' w ha hw => by
  have hJ := (hw.get hi).1 _ (List.mem_singleton.2 rfl)
  obtain ⟨_, hs, _, _⟩ := RawJ.parts hJ
  rcases hs.2 with h0 | ⟨b, off, e, _⟩
  · omega
  · exact (h b off e).go a' w ha hw
theorem raw_key {w : World} {k a n : Int} {s : List UInt8} {b off : Nat} {ck : Nat} {x : WordT} {keys : List WordT} {p : Option Addr} {c : Nat} {kids : List RawA} (h : RawJ w (.mk k a n s (some ⟨b, off, none⟩) ck (x :: keys) p c kids)) : w.cell? ⟨b, off, none⟩ = some (S x.1) := by
 obtain ⟨_, hs, _, _⟩ := h.parts
 rcases hs.2 with h0 | ⟨b', off', e, hat⟩
 · simp at h0
 · cases e
   exact hat 0 (S x.1) rfl
theorem raw_at {D : Nat → Prop} {w0 w : World} {hp : List En} (hw : HpOk D w0 hp w) {i : Nat} {z : RawA} (hi : hp[i]? = some (rawE [z])) : RawJ w z := (hw.get hi).1 z (List.mem_singleton.2 rfl)
theorem eqL_f0' : eqL [.int .i64 0, .int .i64 0] [.int .i64 0, .int .i64 0] = true := by simp [eqL, eqC]
def live22 : List UInt8 := [123, 97, 58, 32, 91, 49, 93, 125]
theorem scan22 : scanR live22 = ([(4, 0, 1, [123], 0), (1, 1, 2, [97], 0), (4, 2, 3, [58], 0), (4, 4, 5, [91], 0), (2, 5, 6, [], 1), (4, 6, 7, [93], 0), (4, 7, 8, [125], 0), (0, 8, 8, [], 0)], 0, 0) :=
 scanR_of (by decide) 40 (by kernel_rfl)
def v22 : RawP := .mk 5 0 0 [] [([97], 1)] [.mk 4 4 0 [] [] [.mk 2 5 1 [] [] []]]
theorem raw22 : rawR live22 = .ok v22 [(0, 8, 8, [], 0)] 3 := by
 unfold rawR; rw [scan22]; rfl
set_option maxRecDepth 20000 in
set_option maxHeartbeats 4000000 in
theorem lives22_c (w : World) : Calls Tryz.prog 6 #[] w fun e w' => e = .returned (.bool true) ∧ Below w.heap.size w w' := by
 refine sy_enter (args := []) rfl rfl ?_
 simp only [initFr]
 repeat (first | refine sy_k rfl rfl ?_ | (refine gO ?_; refine sy_ov (ov_p rfl) rfl rfl ?_))
 refine sy_callE [] rfl rfl rfl (praw_c live22 (by decide)) ?_
 intro u es' hV
 simp only [PP, raw22] at hV
 obtain ⟨z, rfl, rfl, hz⟩ := hV
 obtain ⟨k, a, n, s, pk, ck, keys, p, c, kids⟩ := z
 have hcw : cntW (plR (.mk k a n s pk ck keys p c kids)) = 3 := by rw [hz]; rfl
 simp only [plR, v22, RawP.mk.injEq] at hz
 obtain ⟨rfl, rfl, rfl, rfl, rfl, _⟩ := hz
 simp only [List.cons_append, List.nil_append]
 refine sy_rawKeys 0 rfl (by decide) ?_
 rintro b off rfl
 repeat (first | refine sy_k rfl rfl ?_ | (refine gO ?_; first | refine sy_ov (ov_p rfl) rfl rfl ?_ | (refine gL ?_; refine sy_ov (ov_ld 0 rfl rfl rfl) rfl rfl ?_) | (refine gS ?_; first | refine sy_store 0 rfl rfl rfl rfl rfl rfl rfl rfl ?_ | refine sy_store 1 rfl rfl rfl rfl rfl rfl rfl rfl ?_) | refine sy_ov (ov_build rfl rfl rfl) rfl rfl ?_ | (refine sy_alloc rfl rfl rfl ?_; intro _)))
 refine sy_ov (ov_eqst (xs := [.int .i64 0, .int .i64 0]) (ys := [.int .i64 0, .int .i64 0]) rfl rfl rfl rfl) rfl rfl ?_
 rw [eqL_f0']
 repeat ((refine gO ?_; first | refine sy_ov (ov_p rfl) rfl rfl ?_ | (refine gG ?_; (refine sy_guard_yes rfl rfl rfl rfl rfl ?_ ?_; (first | with_reducible rfl | assumption | omega | (simp <;> first | omega | assumption)))) | (refine gL ?_; refine sy_ov (ov_ld 1 rfl rfl rfl) rfl rfl ?_)))
 refine sy_ov (ov_call rfl (fun w hw => count_c _ (.mk 5 0 0 [] (some ⟨b, off, none⟩) ck [([97], 1)] p c kids) (Nat.le_refl _) w (raw_at (i := 2) (z := (.mk 5 0 0 [] (some ⟨b, off, none⟩) ck [([97], 1)] p c kids)) hw rfl))) rfl rfl ?_
 rw [hcw]
 repeat ((refine gO ?_; first | refine sy_ov (ov_p rfl) rfl rfl ?_ | (refine gG ?_; (refine sy_guard_yes rfl rfl rfl rfl rfl ?_ ?_; (first | with_reducible rfl | assumption | omega | (simp <;> first | omega | assumption)))) | (refine gL ?_; refine sy_ov (ov_ld 1 rfl rfl rfl) rfl rfl ?_) | (refine sy_ov (ov_pick_t rfl rfl ?_) rfl rfl ?_; focus (with_reducible rfl)) | refine sy_ov (ov_fieldAddr rfl rfl rfl) rfl rfl ?_))
 refine sy_ov (ov_indexAddr rfl rfl (by decide) (by simp)) rfl rfl ?_
 repeat ((refine gO ?_; first | (refine gG ?_; (refine sy_guard_yes rfl rfl rfl rfl rfl ?_ ?_; (first | with_reducible rfl | assumption | omega | (simp <;> first | omega | assumption)))) | refine sy_ov (ov_fieldAddr rfl rfl rfl) rfl rfl ?_))
 refine sy_ov (ov_loadx rfl rfl (fun w hw => raw_key (raw_at (i := 2) (z := .mk 5 0 0 [] (some ⟨b, off, none⟩) ck [([97], 1)] p c kids) hw rfl))) rfl rfl ?_
 repeat (first | refine sy_k rfl rfl ?_ | (refine gO ?_; first | refine sy_ov (ov_p rfl) rfl rfl ?_ | (refine gG ?_; (refine sy_guard_yes rfl rfl rfl rfl rfl ?_ ?_; (first | with_reducible rfl | assumption | omega | (simp <;> first | omega | assumption)))) | (refine sy_ov (ov_pick_t rfl rfl ?_) rfl rfl ?_; focus (with_reducible rfl))) | refine sy_rt ?_)
 exact ret1 rfl rfl rfl
end Go.Proofs.YtldjakeigjngoaaGreat
/- The walk of blindfoldlaw22.RawParses. -/
namespace Go.Proofs.YtldjakeigjngoaaGreat
open Go.RowKit Bf
theorem rawJ0 (w : World) : RawJ w (.mk 0 0 0 [] none 0 [] none 0 []) := .mk 0 0 0 [] none 0 [] none 0 [] ⟨Nat.zero_le _, Nat.zero_le _⟩ (IsSl.nil _ _ _) (IsSl.nil _ _ _) (fun x hx => by cases hx)
set_option maxRecDepth 20000 in
set_option maxHeartbeats 4000000 in
theorem rawParses_walk (s : ByteArray) (hs0 : s.size ≤ 140737488351232) (w : World) : Calls Tryz.prog 3 #[.string s] w fun e w' => e = .returned (.bool true) ∧ Below w.heap.size w w' := by
 obtain ⟨⟨q⟩⟩ := s
 have hq : q.length ≤ 140737488351232 := hs0
 by_cases h1 : 12000 < q.length
 · refine sy_enter rfl rfl ?_
   simp only [initFr]
   repeat (first | refine sy_k rfl rfl ?_ | (refine gO ?_; first | refine sy_ov (ov_p rfl) rfl rfl ?_ | (refine gK ?_; refine sy_ov (ov_len rfl) rfl rfl ?_)) | (refine sy_cond_t rfl ?_ ?_; (first | with_reducible rfl | assumption | omega | (simp <;> first | omega | assumption))))
   refine sy_ov (ov_call rfl (fun w _ => lives22_c w)) rfl rfl ?_
   repeat (first | refine sy_k rfl rfl ?_ | (refine gO ?_; refine sy_ov (ov_p rfl) rfl rfl ?_) | refine sy_rt ?_)
   exact ret1 rfl rfl rfl
 · cases hr : rawR q with
   | ok v l m =>
    refine sy_enter rfl rfl ?_
    simp only [initFr]
    repeat (first | refine sy_k rfl rfl ?_ | (refine gO ?_; first | refine sy_ov (ov_p rfl) rfl rfl ?_ | (refine gK ?_; refine sy_ov (ov_len rfl) rfl rfl ?_)) | (refine sy_cond_f rfl ?_ ?_; (first | with_reducible rfl | assumption | omega | (simp <;> first | omega | assumption))))
    refine sy_callE [] rfl rfl rfl (praw_c q (by omega)) ?_
    intro u es' hV
    simp only [PP, hr] at hV
    obtain ⟨z, rfl, rfl, hz⟩ := hV
    obtain ⟨k, a, n, s, pk, ck, keys, p, c, kids⟩ := z
    simp only [List.cons_append, List.nil_append]
    repeat (first | refine sy_k rfl rfl ?_ | (refine gO ?_; first | refine sy_ov (ov_p rfl) rfl rfl ?_ | (refine gS ?_; first | refine sy_store 0 rfl rfl rfl rfl rfl rfl rfl rfl ?_ | refine sy_store 1 rfl rfl rfl rfl rfl rfl rfl rfl ?_) | (refine sy_alloc rfl rfl rfl ?_; intro _)))
    refine sy_callN rfl rfl (fun w _ => rparse_c q (by omega) w) ?_
    intro u es' hV
    simp only [PP, hr] at hV
    obtain ⟨z, rfl, rfl, hz2⟩ := hV
    obtain ⟨k', a', n', s', pk', ck', keys', p', c', kids'⟩ := z
    simp only [List.cons_append, List.nil_append]
    repeat (first | refine sy_k rfl rfl ?_ | (refine gO ?_; first | refine sy_ov (ov_p rfl) rfl rfl ?_ | (refine gL ?_; first | refine sy_ov (ov_ld 1 rfl rfl rfl) rfl rfl ?_ | refine sy_ov (ov_ld 4 rfl rfl rfl) rfl rfl ?_) | (refine gS ?_; first | refine sy_store 0 rfl rfl rfl rfl rfl rfl rfl rfl ?_ | refine sy_store 1 rfl rfl rfl rfl rfl rfl rfl rfl ?_) | (refine sy_alloc rfl rfl rfl ?_; intro _)))
    refine sy_ov (ov_call rfl (fun w hw => rsame22_c _ (.mk k a n s pk ck keys p c kids) (Nat.le_refl _) (.mk k' a' n' s' pk' ck' keys' p' c' kids') w (raw_at (i := 5) hw rfl) (raw_at (i := 2) hw rfl))) rfl rfl ?_
    rw [hz, hz2, samR_self]
    repeat ((refine gO ?_; first | refine sy_ov (ov_p rfl) rfl rfl ?_ | (refine gG ?_; (refine sy_guard_yes rfl rfl rfl rfl rfl ?_ ?_; (first | with_reducible rfl | assumption | omega | (simp <;> first | omega | assumption)))) | (refine gL ?_; first | refine sy_ov (ov_ld 0 rfl rfl rfl) rfl rfl ?_ | refine sy_ov (ov_ld 3 rfl rfl rfl) rfl rfl ?_)))
    refine sy_ov (ov_eqst (xs := [.int .i64 0, .int .i64 0]) (ys := [.int .i64 0, .int .i64 0]) rfl rfl rfl rfl) rfl rfl ?_
    rw [eqf_self]
    repeat ((refine gO ?_; first | refine sy_ov (ov_p rfl) rfl rfl ?_ | (refine gG ?_; (refine sy_guard_yes rfl rfl rfl rfl rfl ?_ ?_; (first | with_reducible rfl | assumption | omega | (simp <;> first | omega | assumption)))) | (refine sy_ov (ov_pick_t rfl rfl ?_) rfl rfl ?_; focus (with_reducible rfl))))
    refine sy_ov (ov_call rfl (fun w _ => lives22_c w)) rfl rfl ?_
    repeat (first | refine sy_k rfl rfl ?_ | (refine gO ?_; first | refine sy_ov (ov_p rfl) rfl rfl ?_ | (refine sy_ov (ov_pick_t rfl rfl ?_) rfl rfl ?_; focus (with_reducible rfl))) | refine sy_rt ?_)
    exact ret1 rfl rfl rfl
   | bad e a =>
    refine sy_enter rfl rfl ?_
    simp only [initFr]
    repeat (first | refine sy_k rfl rfl ?_ | (refine gO ?_; first | refine sy_ov (ov_p rfl) rfl rfl ?_ | (refine gK ?_; refine sy_ov (ov_len rfl) rfl rfl ?_)) | (refine sy_cond_f rfl ?_ ?_; (first | with_reducible rfl | assumption | omega | (simp <;> first | omega | assumption))))
    refine sy_callE [] rfl rfl rfl (praw_c q (by omega)) ?_
    intro u es' hV
    simp only [PP, hr] at hV
    obtain ⟨rfl, rfl⟩ := hV
    simp only [List.nil_append]
    repeat (first | refine sy_k rfl rfl ?_ | (refine gO ?_; first | refine sy_ov (ov_p rfl) rfl rfl ?_ | (refine gS ?_; first | refine sy_store 0 rfl rfl rfl rfl rfl rfl rfl rfl ?_ | refine sy_store 1 rfl rfl rfl rfl rfl rfl rfl rfl ?_) | (refine sy_alloc rfl rfl rfl ?_; intro _)))
    refine sy_callN rfl rfl (fun w _ => rparse_c q (by omega) w) ?_
    intro u es' hV
    simp only [PP, hr] at hV
    obtain ⟨rfl, rfl⟩ := hV
    simp only [List.nil_append]
    repeat (first | refine sy_k rfl rfl ?_ | (refine gO ?_; first | refine sy_ov (ov_p rfl) rfl rfl ?_ | (refine gL ?_; first | refine sy_ov (ov_ld 1 rfl rfl rfl) rfl rfl ?_ | refine sy_ov (ov_ld 3 rfl rfl rfl) rfl rfl ?_) | (refine gS ?_; first | refine sy_store 0 rfl rfl rfl rfl rfl rfl rfl rfl ?_ | refine sy_store 1 rfl rfl rfl rfl rfl rfl rfl rfl ?_) | (refine sy_alloc rfl rfl rfl ?_; intro _)))
    refine sy_ov (ov_call rfl (fun w hw => rsame22_c _ (.mk 0 0 0 [] none 0 [] none 0 []) (Nat.le_refl _) (.mk 0 0 0 [] none 0 [] none 0 []) w (rawJ0 w) (rawJ0 w))) rfl rfl ?_
    rw [samR_self]
    repeat ((refine gO ?_; first | refine sy_ov (ov_p rfl) rfl rfl ?_ | (refine gG ?_; (refine sy_guard_yes rfl rfl rfl rfl rfl ?_ ?_; (first | with_reducible rfl | assumption | omega | (simp <;> first | omega | assumption)))) | (refine gL ?_; first | refine sy_ov (ov_ld 0 rfl rfl rfl) rfl rfl ?_ | refine sy_ov (ov_ld 2 rfl rfl rfl) rfl rfl ?_)))
    refine sy_ov (ov_eqst (xs := [.int .i64 e, .int .i64 a]) (ys := [.int .i64 e, .int .i64 a]) rfl rfl rfl rfl) rfl rfl ?_
    rw [eqf_self]
    repeat ((refine gO ?_; first | refine sy_ov (ov_p rfl) rfl rfl ?_ | (refine gG ?_; (refine sy_guard_yes rfl rfl rfl rfl rfl ?_ ?_; (first | with_reducible rfl | assumption | omega | (simp <;> first | omega | assumption)))) | (refine sy_ov (ov_pick_t rfl rfl ?_) rfl rfl ?_; focus (with_reducible rfl))))
    refine sy_ov (ov_call rfl (fun w _ => lives22_c w)) rfl rfl ?_
    repeat (first | refine sy_k rfl rfl ?_ | (refine gO ?_; first | refine sy_ov (ov_p rfl) rfl rfl ?_ | (refine sy_ov (ov_pick_t rfl rfl ?_) rfl rfl ?_; focus (with_reducible rfl))) | refine sy_rt ?_)
    exact ret1 rfl rfl rfl
end Go.Proofs.YtldjakeigjngoaaGreat
namespace Go.Proofs.YtldjakeigjngoaaGreat.rawParses
open Go.ChangeShapes Go.WideShapes Go.ChangeAt Go.RowKit
open Go.ChangeMaps (open_string shut_string)
theorem own : ownKnob Tryz.prog.godebug = none := own_t
theorem laidOut : laidOutB Tryz.prog = true := laidOut_t
set_option maxRecDepth 100000 in
theorem lifted (os : Os) (started : os.Started) (H : Type) (enc : TypeId × Value → H) :
 ReturnsInHanded {} Tryz.checked os 3 .any (Rows.rawParsesSpec.pre6 enc Tryz.prog Tryz.f3 Rows.rawParsesRow.domain false) (Rows.rawParsesSpec.post enc Tryz.prog Tryz.f3 false true false false) := by
 refine returnsInHanded_of_change_sized (C := Tryz.checked) own started (by kernel_rfl) Tryz.func3
  (ChangeSpec.witness6 (enc := enc) (C := Tryz.checked) false ⟨#[], #[.string ByteArray.empty], []⟩ 8 (by kernel_rfl) (by kernel_rfl) (by kernel_rfl) (by kernel_rfl)) ?_
 intro W base args ds gs before hval0 hW hcnd hsz0 _
 have hval : ∀ (j : Nat) t v, Tryz.f3.params[j]? = some t → args[j]? = some v → Value.okWide Tryz.prog W .any base t v := hval0
 have hW' := hW
 obtain ⟨p, q, hA0, hV, rfl, hfz, hnd⟩ := hW
 have hA : DataW.TrodAll enc Tryz.prog W 0 (fun _ => true) true Tryz.f3.params.toList args.toList ds p := hA0
 have hsz : (DataW.weightsEach Tryz.prog (Tryz.f3.params.toList ++ Rows.rawParsesSpec.plain.varTypes Tryz.prog) (ds ++ gs)).all (· ≤ reachBytes) = true := hsz0
 rw [Tryz.params3] at hA hval hsz
 obtain ⟨v0, vs0, d0, ds0, p0, q0, hargs, rfl, rfl, h0, r0⟩ := trodAll_cons hA
 obtain ⟨rfl, rfl, rfl⟩ := trodAll_nil r0
 obtain rfl : args = #[v0] := by cases args; simp_all
 obtain ⟨rfl, rfl⟩ := trodVars_none hV
 obtain ⟨a0, rfl, rfl, rfl, w0⟩ := open_string Tryz.underlying9 (hval 0 9 v0 rfl rfl) h0
 have sz0 : a0.size ≤ 140737488351232 := by have := sized_string hsz (j := 0) (t := 9) rfl rfl; simpa [reachBytes] using this
 clear hA0 hval0
 refine (rawParses_walk a0 sz0 W).mono fun e W' ⟨he, bel⟩ => ?_
 subst he
 exact ⟨_, rfl, _, _, _, [], _, [], hW', trodAll_mk1 (shut_bool Tryz.underlying4 _), (trodAll_cons_mk (shut_string Tryz.underlying9 w0) trodAll_mk0), rfl, bel.frame _, fun h => by cases h⟩
theorem inPlace_t : (Rows.rawParsesRow.inPlace == Tryz.prog.inPlace 3) = true := by kernel_rfl
theorem unfollowed_t : (Rows.rawParsesRow.unfollowed == Tryz.prog.unfollowed 3) = true := by kernel_rfl
theorem recurses_t : (Rows.rawParsesRow.recurses == Tryz.prog.recurses 3) = true := by kernel_rfl
theorem named_t : (Rows.rawParsesRow.named == Tryz.prog.varsNamed 3) = true := by kernel_rfl
theorem closed : joinedFacts Tryz.pinned.checked.prog 3 Tryz.f3 Rows.rawParsesSpec Rows.rawParsesRow = true :=
 and_t (and_t (and_t (and_t (and_t (and_t (and_t (and_t (and_t (and_t (and_t (and_t (and_t (and_t (and_t (and_t (and_t (and_t (and_t (and_t (and_t (and_t (and_t (and_t (and_t (and_t (and_t (and_t (and_t (and_t (and_t (by kernel_rfl) laidOut_t) mapsRowed_t) (by kernel_rfl)) (by kernel_rfl)) (by kernel_rfl)) stops_t) (by kernel_rfl)) stopKnobs_t) inPlace_t) unfollowed_t) recurses_t) named_t) (by kernel_rfl)) (by kernel_rfl)) (by kernel_rfl)) (by kernel_rfl)) (by kernel_rfl)) (by kernel_rfl)) (by kernel_rfl)) (by kernel_rfl)) (by kernel_rfl)) plainKeys_t) (by kernel_rfl)) stopsHeard_t) mayEnter_t) lifts_t) make_t) (by kernel_rfl)) (by kernel_rfl)) (by kernel_rfl)) (by kernel_rfl)
theorem over : Rows.rawParsesRow.holds Tryz.pinned (OpenSpec.ofChange Rows.rawParsesSpec) :=
 OpenClaim.holds_of_wide 3 Tryz.f3 rfl rfl rfl rfl rfl rfl rfl ⟨rfl, rfl, rfl, rfl, rfl⟩ rfl rfl rfl rfl rfl (by kernel_rfl) Tryz.func3 closed
  (of_decide_eq_true (by kernel_rfl)) (by unfold Func.isWrapper; first | (rw [if_pos (by decide +kernel)]; kernel_rfl) | (rw [if_neg (by decide +kernel)]; exact ⟨rfl, rfl⟩))
  (fun os started H enc _ => lifted os started H enc)
theorem proved : Rows.RawParsesSaid := over
#print axioms proved
end Go.Proofs.YtldjakeigjngoaaGreat.rawParses