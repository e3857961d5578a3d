/- BST: texts of this proof, joined by program: RawSame, FormSame, StripIn, Strip, Strip2. -/
import Derived.Test.YtldjakeigjngoaaBRA
import Derived.Test.YtldjakeigjngoaaBEN
import Derived.Test.YtldjakeigjngoaaBRC
import Derived.SizedLaws
/- Contract: whether values are the same, by the document. -/
set_option linter.unusedVariables false
set_option linter.unusedSimpArgs false
namespace Go.Proofs.Ytldjakeigjngoaa
open Go.RowKit Bf
instance : KS Try.prog 69 [.s, .i .i64] := ⟨by kernel_rfl, by kernel_rfl, by kernel_rfl⟩
theorem eqL_word (x y : WordT) : eqL (wordV x) (wordV y) = decide (x = y) := by
  obtain ⟨s, a⟩ := x
  obtain ⟨t, b⟩ := y
  by_cases h1 : s = t
  · by_cases h2 : a = b
    · subst h1; subst h2; simp [eqL, eqC, wordV]
    · simp [eqL, eqC, wordV, h1, h2]
  · simp [eqL, eqC, wordV, h1]
theorem samR_mk {k a n k' a' n' : Int} {s s' : List UInt8} {pk pk' p p' : Option Addr} {ck ck' c c' : Nat} {keys keys' : List WordT} {kids kids' : List RawA} :
    samR (plR (.mk k a n s pk ck keys p c kids)) (plR (.mk k' a' n' s' pk' ck' keys' p' c' kids')) = (decide (k = k') && decide (a = a') && decide (n = n') && decide (s = s') && decide (keys = keys') && samRs (plRs kids) (plRs kids')) := by
  simp only [plR, samR]
theorem list_ext {α : Type} {l m : List α} (hl : l.length = m.length) (h : ∀ (j : Nat) x y, l[j]? = some x → m[j]? = some y → x = y) : l = m := by
  apply List.ext_getElem?
  intro j
  by_cases hj : j < l.length
  · rw [List.getElem?_eq_getElem hj, List.getElem?_eq_getElem (by omega : j < m.length)]
    congr 1
    exact h j _ _ (List.getElem?_eq_getElem hj) (List.getElem?_eq_getElem (by omega))
  · rw [List.getElem?_eq_none (by omega), List.getElem?_eq_none (by omega)]
set_option maxRecDepth 20000 in
set_option maxHeartbeats 8000000 in
theorem rsame22_c : ∀ (m : Nat) (z : RawA), SizeOf.sizeOf z ≤ m → ∀ (z2 : RawA) (w : World), RawJ w z → RawJ w z2 → Calls Try.prog 28 #[.agg ⟨rawV z⟩, .agg ⟨rawV z2⟩] w fun e w' => e = .returned (.bool (samR (plR z) (plR z2))) ∧ Below w.heap.size w w' := by
  intro m
  induction m with
  | zero => intro z hz; cases z; simp at hz
  | succ m ih =>
    intro z hz z2 w hw1 hw2
    obtain ⟨k, a, n, s, pk, ck, keys, p, c, kids⟩ := z
    obtain ⟨k', a', n', s', pk', ck', keys', p', c', kids'⟩ := z2
    obtain ⟨hb, hs1, hs2, hkid⟩ := hw1.parts
    obtain ⟨hb', hs1', hs2', hkid'⟩ := hw2.parts
    have hm : kids.length ≤ 9223372036854775807 := hb.2
    have hmk : keys.length ≤ 9223372036854775807 := hb.1
    rw [samR_mk]
    by_cases hk : k = k'
    · by_cases ha : a = a'
      · by_cases hn : n = n'
        · by_cases hs : s = s'
          · by_cases hkl : (keys.length : Int) = keys'.length
            · by_cases hzl : (kids.length : Int) = kids'.length
              · subst hk
                subst ha
                subst hn
                subst hs
                have hst : St (fun _ => False) w (fun w => IsSl w 6 p kids.length (kids.flatMap rawV)) := St.start (IsSl.bl _ _ _ _) hs2
                have hst' : St (fun _ => False) w (fun w => IsSl w 6 p' kids'.length (kids'.flatMap rawV)) := St.start (IsSl.bl _ _ _ _) hs2'
                have hsw : St (fun _ => False) w (fun w => IsSl w 2 pk keys.length (keys.flatMap wordV)) := St.start (IsSl.bl _ _ _ _) hs1
                have hsw' : St (fun _ => False) w (fun w => IsSl w 2 pk' keys'.length (keys'.flatMap wordV)) := St.start (IsSl.bl _ _ _ _) hs1'
                have hstk : ∀ x ∈ kids, St (fun _ => False) w (fun w => RawJ w x) := fun x hx => St.start (RawJ.bl _) (hkid x hx)
                have hstk' : ∀ x ∈ kids', St (fun _ => False) w (fun w => RawJ w x) := fun x hx => St.start (RawJ.bl _) (hkid' x hx)
                simp only [decide_true, Bool.true_and]
                refine sy_enter rfl rfl ?_
                simp only [initFr]
                repeat (first | refine sy_k rfl rfl ?_ | (refine gO ?_; first | refine sy_ov (ov_p rfl) rfl rfl ?_ | (refine gG ?_; (refine sy_guard_yes rfl rfl rfl rfl rfl ?_ ?_; focus (first | with_reducible rfl | assumption | omega | (simp <;> first | omega | assumption)))) | (refine gK ?_; refine sy_ov (ov_lens rfl) rfl rfl ?_) | (refine gL ?_; first | refine sy_ov (ov_ld 0 rfl rfl rfl) rfl rfl ?_ | refine sy_ov (ov_ld 1 rfl rfl rfl) rfl rfl ?_) | (refine sy_ov (ov_pick_f rfl rfl ?_) rfl rfl ?_; focus (with_reducible rfl)) | refine sy_ov (ov_fieldAddr rfl rfl rfl) rfl rfl ?_ | (refine sy_box rfl rfl rfl ?_; intro _)) | (refine sy_cond_f rfl ?_ ?_; focus (first | with_reducible rfl | assumption | omega | (simp <;> first | omega | assumption))))
                rename_i b2 b3
                refine sy_loop (α := Int) (fun i => [(2, .pointer (some ⟨b2, 0, none⟩)), (3, .pointer (some ⟨b3, 0, none⟩)), (5, .int .i64 i)]) (fun _ => [blk b3 49 (rawV (.mk k a n s pk' ck' keys' p' c' kids')), blk b2 49 (rawV (.mk k a n s pk ck keys p c kids))]) (fun i => 0 ≤ i ∧ i ≤ keys.length ∧ ∀ (j : Nat) x y, j < i.toNat → keys[j]? = some x → keys'[j]? = some y → x = y) (fun i => (keys.length - i).toNat) 0 ⟨by omega, by omega, fun j x y h => by simp at h⟩ ⟨⟨_, rfl, rfl⟩, ⟨_, rfl, rfl⟩, ⟨_, rfl, rfl⟩, trivial⟩ sr ?_
                rintro i ⟨i0, i1, hinv⟩
                by_cases hlt : i < keys.length
                · obtain ⟨x, hx⟩ : ∃ x, keys[i.toNat]? = some x := ⟨_, List.getElem?_eq_getElem (by omega)⟩
                  obtain ⟨y, hy⟩ : ∃ y, keys'[i.toNat]? = some y := ⟨_, List.getElem?_eq_getElem (by omega)⟩
                  obtain ⟨b, off, hp, hat⟩ := hsw.addr (by omega)
                  obtain ⟨b', off', hp', hat'⟩ := hsw'.addr (by omega)
                  subst hp
                  subst hp'
                  by_cases hxy : x = y
                  · have heq : eqL (wordV x) (wordV y) = true := by rw [eqL_word]; simp [hxy]
                    repeat (first | refine sy_k rfl rfl ?_ | (refine gO ?_; first | refine sy_ov (ov_p rfl) rfl rfl ?_ | (refine gK ?_; refine sy_ov (ov_lens rfl) rfl rfl ?_) | (refine gL ?_; refine sy_ov (ov_ld 1 rfl rfl rfl) rfl rfl ?_) | refine sy_ov (ov_fieldAddr rfl rfl rfl) rfl rfl ?_) | (refine sy_cond_t rfl ?_ ?_; focus (first | with_reducible rfl | assumption | omega | (simp <;> first | omega | assumption))))
                    refine sy_draw 10 (by kernel_rfl) ?_
                    repeat (first | refine dr_op (ov_p rfl) rfl rfl ?_ | refine dr_op (ov_ld 1 rfl rfl rfl) rfl rfl ?_ | refine dr_op (ov_fieldAddr rfl rfl rfl) rfl rfl ?_ | (refine dr_op (ov_indexAddr rfl rfl ?_ ?_) rfl rfl ?_; omega; omega))
                    refine dr_op (ov_elem (f := wordV) hat hx rfl rfl (fun _ => rfl)) rfl rfl ?_
                    repeat (first | refine dr_op (ov_p rfl) rfl rfl ?_ | refine dr_op (ov_ld 0 rfl rfl rfl) rfl rfl ?_ | refine dr_op (ov_fieldAddr rfl rfl rfl) rfl rfl ?_ | (refine dr_op (ov_indexAddr rfl rfl ?_ ?_) rfl rfl ?_; omega; omega))
                    refine dr_op (ov_elem (f := wordV) hat' hy rfl rfl (fun _ => rfl)) rfl rfl ?_
                    repeat (refine dr_end ?_)
                    refine sy_ov (ov_nest (xs := wordV x) (ys := wordV y) rfl rfl rfl rfl) rfl rfl ?_
                    rw [heq]
                    repeat (first | refine sy_k rfl rfl ?_ | (refine gO ?_; first | refine sy_ov (ov_p rfl) rfl rfl ?_ | (refine gB ?_; (refine sy_ov (ov_ar rfl rfl rfl ?_ ?_) rfl rfl ?_; omega; omega))) | (refine sy_cond_f rfl ?_ ?_; focus (first | with_reducible rfl | assumption | omega | (simp <;> first | omega | assumption))))
                    refine sy_back (i + 1) ⟨by omega, by omega, ?_⟩ (by omega) ⟨⟨_, rfl, rfl⟩, ⟨_, rfl, rfl⟩, ⟨_, rfl, rfl⟩, trivial⟩ sr
                    intro j u v hj hu hv
                    by_cases hji : j < i.toNat
                    · exact hinv j u v hji hu hv
                    · have : j = i.toNat := by omega
                      subst this
                      rw [hx] at hu; rw [hy] at hv; cases hu; cases hv; exact hxy
                  · have heq : eqL (wordV x) (wordV y) = false := by rw [eqL_word]; simp [hxy]
                    have hne : decide (keys = keys') = false := by
                      simp only [decide_eq_false_iff_not]
                      intro e; subst e; rw [hx] at hy; cases hy; exact hxy rfl
                    rw [hne]
                    repeat (first | refine sy_k rfl rfl ?_ | (refine gO ?_; first | refine sy_ov (ov_p rfl) rfl rfl ?_ | (refine gK ?_; refine sy_ov (ov_lens rfl) rfl rfl ?_) | (refine gL ?_; refine sy_ov (ov_ld 1 rfl rfl rfl) rfl rfl ?_) | refine sy_ov (ov_fieldAddr rfl rfl rfl) rfl rfl ?_) | (refine sy_cond_t rfl ?_ ?_; focus (first | with_reducible rfl | assumption | omega | (simp <;> first | omega | assumption))))
                    refine sy_draw 10 (by kernel_rfl) ?_
                    repeat (first | refine dr_op (ov_p rfl) rfl rfl ?_ | refine dr_op (ov_ld 1 rfl rfl rfl) rfl rfl ?_ | refine dr_op (ov_fieldAddr rfl rfl rfl) rfl rfl ?_ | (refine dr_op (ov_indexAddr rfl rfl ?_ ?_) rfl rfl ?_; omega; omega))
                    refine dr_op (ov_elem (f := wordV) hat hx rfl rfl (fun _ => rfl)) rfl rfl ?_
                    repeat (first | refine dr_op (ov_p rfl) rfl rfl ?_ | refine dr_op (ov_ld 0 rfl rfl rfl) rfl rfl ?_ | refine dr_op (ov_fieldAddr rfl rfl rfl) rfl rfl ?_ | (refine dr_op (ov_indexAddr rfl rfl ?_ ?_) rfl rfl ?_; omega; omega))
                    refine dr_op (ov_elem (f := wordV) hat' hy rfl rfl (fun _ => rfl)) rfl rfl ?_
                    repeat (refine dr_end ?_)
                    refine sy_ov (ov_nest (xs := wordV x) (ys := wordV y) rfl rfl rfl rfl) rfl rfl ?_
                    rw [heq]
                    repeat (first | refine sy_k rfl rfl ?_ | (refine gO ?_; refine sy_ov (ov_p rfl) rfl rfl ?_) | (refine sy_cond_t rfl ?_ ?_; focus (first | with_reducible rfl | assumption | omega | (simp <;> first | omega | assumption))) | refine sy_rt ?_)
                    exact ret1 rfl rfl rfl
                · have hke : keys = keys' := list_ext (by omega) fun j x y hx hy => hinv j x y (by have := (List.getElem?_eq_some_iff.1 hx).1; omega) hx hy
                  rw [show decide (keys = keys') = true by simp [hke], Bool.true_and]
                  repeat (first | refine sy_k rfl rfl ?_ | (refine gO ?_; first | refine sy_ov (ov_p rfl) rfl rfl ?_ | (refine gK ?_; refine sy_ov (ov_lens rfl) rfl rfl ?_) | (refine gL ?_; refine sy_ov (ov_ld 1 rfl rfl rfl) rfl rfl ?_) | refine sy_ov (ov_fieldAddr rfl rfl rfl) rfl rfl ?_) | (refine sy_cond_f rfl ?_ ?_; focus (first | with_reducible rfl | assumption | omega | (simp <;> first | omega | assumption))))
                  refine sy_loop (α := Int) (fun i => [(2, .pointer (some ⟨b2, 0, none⟩)), (3, .pointer (some ⟨b3, 0, none⟩)), (6, .int .i64 i)]) (fun _ => [blk b3 49 (rawV (.mk k a n s pk' ck' keys' p' c' kids')), blk b2 49 (rawV (.mk k a n s pk ck keys p c kids))]) (fun i => 0 ≤ i ∧ i ≤ kids.length ∧ ∀ (j : Nat) x y, j < i.toNat → (plRs kids)[j]? = some x → (plRs kids')[j]? = some y → samR x y = true) (fun i => (kids.length - i).toNat) 0 ⟨by omega, by omega, fun j x y h => by simp at h⟩ ⟨⟨_, rfl, rfl⟩, ⟨_, rfl, rfl⟩, ⟨_, rfl, rfl⟩, trivial⟩ sr ?_
                  rintro i ⟨i0, i1, hinv⟩
                  by_cases hlt : i < kids.length
                  · obtain ⟨x, hx⟩ : ∃ x, kids[i.toNat]? = some x := ⟨_, List.getElem?_eq_getElem (by omega)⟩
                    obtain ⟨y, hy⟩ : ∃ y, kids'[i.toNat]? = some y := ⟨_, List.getElem?_eq_getElem (by omega)⟩
                    have hxm := List.mem_of_getElem? hx
                    have hym := List.mem_of_getElem? hy
                    obtain ⟨b, off, hp, hat⟩ := hst.addr (by omega)
                    obtain ⟨b', off', hp', hat'⟩ := hst'.addr (by omega)
                    subst hp
                    subst hp'
                    have hsz := sizeR_kid (k := k) (a := a) (n := n) (s := s) (pk := pk) (ck := ck) (keys := keys) (p := some ⟨b, off, none⟩) (c := c) hxm
                    have hrec := ih x (by omega) y
                    obtain ⟨r, hr⟩ : ∃ r, samR (plR x) (plR y) = r := ⟨_, rfl⟩
                    rw [hr] at hrec
                    cases r
                    · have hne : samRs (plRs kids) (plRs kids') = false := by
                        cases hc : samRs (plRs kids) (plRs kids') with
                        | false => rfl
                        | true =>
                          have := (samRs_at (by rw [plRs_len, plRs_len]; omega)).1 hc i.toNat _ _ (plRs_at hx) (plRs_at hy)
                          rw [hr] at this; cases this
                      rw [hne]
                      repeat (first | refine sy_k rfl rfl ?_ | (refine gO ?_; first | refine sy_ov (ov_p rfl) rfl rfl ?_ | (refine gK ?_; refine sy_ov (ov_lens rfl) rfl rfl ?_) | (refine gL ?_; refine sy_ov (ov_ld 1 rfl rfl rfl) rfl rfl ?_) | refine sy_ov (ov_fieldAddr rfl rfl rfl) rfl rfl ?_) | (refine sy_cond_t rfl ?_ ?_; focus (first | with_reducible rfl | assumption | omega | (simp <;> first | omega | assumption))))
                      refine sy_draw 10 (by kernel_rfl) ?_
                      repeat (first | refine dr_op (ov_p rfl) rfl rfl ?_ | refine dr_op (ov_ld 1 rfl rfl rfl) rfl rfl ?_ | refine dr_op (ov_fieldAddr rfl rfl rfl) rfl rfl ?_ | (refine dr_op (ov_indexAddr rfl rfl ?_ ?_) rfl rfl ?_; omega; omega))
                      refine dr_op (ov_elem (f := rawV) hat hx rfl rfl rawV_len) rfl rfl ?_
                      repeat (first | refine dr_op (ov_p rfl) rfl rfl ?_ | refine dr_op (ov_ld 0 rfl rfl rfl) rfl rfl ?_ | refine dr_op (ov_fieldAddr rfl rfl rfl) rfl rfl ?_ | (refine dr_op (ov_indexAddr rfl rfl ?_ ?_) rfl rfl ?_; omega; omega))
                      refine dr_op (ov_elem (f := rawV) hat' hy rfl rfl rawV_len) rfl rfl ?_
                      repeat (refine dr_end ?_)
                      refine sy_ov (ov_call rfl (fun w hw => hrec w ((hstk _ hxm).at hw) ((hstk' _ hym).at hw))) rfl rfl ?_
                      repeat (first | refine sy_k rfl rfl ?_ | (refine gO ?_; refine sy_ov (ov_p rfl) rfl rfl ?_) | (refine sy_cond_t rfl ?_ ?_; focus (first | with_reducible rfl | assumption | omega | (simp <;> first | omega | assumption))) | refine sy_rt ?_)
                      exact ret1 rfl rfl rfl
                    · repeat (first | refine sy_k rfl rfl ?_ | (refine gO ?_; first | refine sy_ov (ov_p rfl) rfl rfl ?_ | (refine gK ?_; refine sy_ov (ov_lens rfl) rfl rfl ?_) | (refine gL ?_; refine sy_ov (ov_ld 1 rfl rfl rfl) rfl rfl ?_) | refine sy_ov (ov_fieldAddr rfl rfl rfl) rfl rfl ?_) | (refine sy_cond_t rfl ?_ ?_; focus (first | with_reducible rfl | assumption | omega | (simp <;> first | omega | assumption))))
                      refine sy_draw 10 (by kernel_rfl) ?_
                      repeat (first | refine dr_op (ov_p rfl) rfl rfl ?_ | refine dr_op (ov_ld 1 rfl rfl rfl) rfl rfl ?_ | refine dr_op (ov_fieldAddr rfl rfl rfl) rfl rfl ?_ | (refine dr_op (ov_indexAddr rfl rfl ?_ ?_) rfl rfl ?_; omega; omega))
                      refine dr_op (ov_elem (f := rawV) hat hx rfl rfl rawV_len) rfl rfl ?_
                      repeat (first | refine dr_op (ov_p rfl) rfl rfl ?_ | refine dr_op (ov_ld 0 rfl rfl rfl) rfl rfl ?_ | refine dr_op (ov_fieldAddr rfl rfl rfl) rfl rfl ?_ | (refine dr_op (ov_indexAddr rfl rfl ?_ ?_) rfl rfl ?_; omega; omega))
                      refine dr_op (ov_elem (f := rawV) hat' hy rfl rfl rawV_len) rfl rfl ?_
                      repeat (refine dr_end ?_)
                      refine sy_ov (ov_call rfl (fun w hw => hrec w ((hstk _ hxm).at hw) ((hstk' _ hym).at hw))) rfl rfl ?_
                      repeat (first | refine sy_k rfl rfl ?_ | (refine gO ?_; first | refine sy_ov (ov_p rfl) rfl rfl ?_ | (refine gB ?_; (refine sy_ov (ov_ar rfl rfl rfl ?_ ?_) rfl rfl ?_; omega; omega))) | (refine sy_cond_f rfl ?_ ?_; focus (first | with_reducible rfl | assumption | omega | (simp <;> first | omega | assumption))))
                      refine sy_back (i + 1) ⟨by omega, by omega, ?_⟩ (by omega) ⟨⟨_, rfl, rfl⟩, ⟨_, rfl, rfl⟩, ⟨_, rfl, rfl⟩, trivial⟩ sr
                      intro j u v hj hu hv
                      by_cases hji : j < i.toNat
                      · exact hinv j u v hji hu hv
                      · have : j = i.toNat := by omega
                        subst this
                        rw [plRs_at hx] at hu; rw [plRs_at hy] at hv; cases hu; cases hv; exact hr
                  · have hall : samRs (plRs kids) (plRs kids') = true := (samRs_at (by rw [plRs_len, plRs_len]; omega)).2 fun j x y hx hy => hinv j x y (by have := (List.getElem?_eq_some_iff.1 hx).1; rw [plRs_len] at this; omega) hx hy
                    rw [hall]
                    repeat (first | refine sy_k rfl rfl ?_ | (refine gO ?_; first | refine sy_ov (ov_p rfl) rfl rfl ?_ | (refine gK ?_; refine sy_ov (ov_lens rfl) rfl rfl ?_) | (refine gL ?_; refine sy_ov (ov_ld 1 rfl rfl rfl) rfl rfl ?_) | refine sy_ov (ov_fieldAddr rfl rfl rfl) rfl rfl ?_) | (refine sy_cond_f rfl ?_ ?_; focus (first | with_reducible rfl | assumption | omega | (simp <;> first | omega | assumption))) | refine sy_rt ?_)
                    exact ret1 rfl rfl rfl
              · have hf : samRs (plRs kids) (plRs kids') = false := by
                  cases hc : samRs (plRs kids) (plRs kids') with
                  | false => rfl
                  | true => exfalso; have := samRs_len hc; rw [plRs_len, plRs_len] at this; omega
                rw [hf, Bool.and_false]
                refine sy_enter rfl rfl ?_
                simp only [initFr]
                repeat (first | refine sy_k rfl rfl ?_ | (refine gO ?_; first | refine sy_ov (ov_p rfl) rfl rfl ?_ | (refine gG ?_; (refine sy_guard_yes rfl rfl rfl rfl rfl ?_ ?_; focus (first | with_reducible rfl | assumption | omega | (simp <;> first | omega | assumption)))) | (refine gK ?_; refine sy_ov (ov_lens rfl) rfl rfl ?_) | (refine gL ?_; first | refine sy_ov (ov_ld 0 rfl rfl rfl) rfl rfl ?_ | refine sy_ov (ov_ld 1 rfl rfl rfl) rfl rfl ?_) | (refine sy_ov (ov_pick_f rfl rfl ?_) rfl rfl ?_; focus (with_reducible rfl)) | refine sy_ov (ov_fieldAddr rfl rfl rfl) rfl rfl ?_ | (refine sy_box rfl rfl rfl ?_; intro _)) | (refine sy_cond_t rfl ?_ ?_; focus (first | with_reducible rfl | assumption | omega | (simp <;> first | omega | assumption))) | refine sy_rt ?_)
                exact ret1 rfl rfl (by first | rfl | simp_all)
            · have hf : decide (keys = keys') = false := by simp only [decide_eq_false_iff_not]; intro e; subst e; exact hkl rfl
              rw [hf, Bool.and_false, Bool.false_and]
              refine sy_enter rfl rfl ?_
              simp only [initFr]
              repeat (first | refine sy_k rfl rfl ?_ | (refine gO ?_; first | refine sy_ov (ov_p rfl) rfl rfl ?_ | (refine gG ?_; first | (refine sy_guard_yes rfl rfl rfl rfl rfl ?_ ?_; focus (first | with_reducible rfl | assumption | omega | (simp <;> first | omega | assumption))) | (refine sy_guard_no rfl rfl rfl rfl rfl ?_ ?_; focus (first | with_reducible rfl | assumption | omega | (simp <;> first | omega | assumption)))) | (refine gK ?_; refine sy_ov (ov_lens rfl) rfl rfl ?_) | (refine gL ?_; first | refine sy_ov (ov_ld 0 rfl rfl rfl) rfl rfl ?_ | refine sy_ov (ov_ld 1 rfl rfl rfl) rfl rfl ?_) | (refine sy_ov (ov_pick_f rfl rfl ?_) rfl rfl ?_; focus (with_reducible rfl)) | refine sy_ov (ov_pick rfl rfl rfl) rfl rfl ?_ | refine sy_ov (ov_fieldAddr rfl rfl rfl) rfl rfl ?_ | (refine sy_box rfl rfl rfl ?_; intro _)) | (refine sy_cond_t rfl ?_ ?_; focus (first | with_reducible rfl | assumption | omega | (simp <;> first | omega | assumption))) | refine sy_rt ?_)
              exact ret1 rfl rfl (by first | rfl | simp_all)
          · rw [show decide (s = s') = false by simp [hs], Bool.and_false, Bool.false_and, Bool.false_and]
            refine sy_enter rfl rfl ?_
            simp only [initFr]
            repeat (first | refine sy_k rfl rfl ?_ | (refine gO ?_; first | refine sy_ov (ov_p rfl) rfl rfl ?_ | (refine gG ?_; first | (refine sy_guard_yes rfl rfl rfl rfl rfl ?_ ?_; focus (first | with_reducible rfl | assumption | omega | (simp <;> first | omega | assumption))) | (refine sy_guard_no rfl rfl rfl rfl rfl ?_ ?_; focus (first | with_reducible rfl | assumption | omega | (simp <;> first | omega | assumption)))) | (refine gL ?_; first | refine sy_ov (ov_ld 0 rfl rfl rfl) rfl rfl ?_ | refine sy_ov (ov_ld 1 rfl rfl rfl) rfl rfl ?_) | (refine sy_ov (ov_pick_f rfl rfl ?_) rfl rfl ?_; focus (with_reducible rfl)) | refine sy_ov (ov_pick rfl rfl rfl) rfl rfl ?_ | refine sy_ov (ov_fieldAddr rfl rfl rfl) rfl rfl ?_ | (refine sy_box rfl rfl rfl ?_; intro _)) | (refine sy_cond_t rfl ?_ ?_; focus (first | with_reducible rfl | assumption | omega | (simp <;> first | omega | assumption))) | refine sy_rt ?_)
            exact ret1 rfl rfl (by first | rfl | simp_all)
        · rw [show decide (n = n') = false by simp [hn], Bool.and_false, Bool.false_and, Bool.false_and, Bool.false_and]
          refine sy_enter rfl rfl ?_
          simp only [initFr]
          repeat (first | refine sy_k rfl rfl ?_ | (refine gO ?_; first | refine sy_ov (ov_p rfl) rfl rfl ?_ | (refine gG ?_; first | (refine sy_guard_yes rfl rfl rfl rfl rfl ?_ ?_; focus (first | with_reducible rfl | assumption | omega | (simp <;> first | omega | assumption))) | (refine sy_guard_no rfl rfl rfl rfl rfl ?_ ?_; focus (first | with_reducible rfl | assumption | omega | (simp <;> first | omega | assumption)))) | (refine gL ?_; first | refine sy_ov (ov_ld 0 rfl rfl rfl) rfl rfl ?_ | refine sy_ov (ov_ld 1 rfl rfl rfl) rfl rfl ?_) | (refine sy_ov (ov_pick_f rfl rfl ?_) rfl rfl ?_; focus (with_reducible rfl)) | refine sy_ov (ov_pick rfl rfl rfl) rfl rfl ?_ | refine sy_ov (ov_fieldAddr rfl rfl rfl) rfl rfl ?_ | (refine sy_box rfl rfl rfl ?_; intro _)) | (refine sy_cond_t rfl ?_ ?_; focus (first | with_reducible rfl | assumption | omega | (simp <;> first | omega | assumption))) | refine sy_rt ?_)
          exact ret1 rfl rfl (by first | rfl | simp_all)
      · rw [show decide (a = a') = false by simp [ha], Bool.and_false, Bool.false_and, Bool.false_and, Bool.false_and, Bool.false_and]
        refine sy_enter rfl rfl ?_
        simp only [initFr]
        repeat (first | refine sy_k rfl rfl ?_ | (refine gO ?_; first | refine sy_ov (ov_p rfl) rfl rfl ?_ | (refine gG ?_; first | (refine sy_guard_yes rfl rfl rfl rfl rfl ?_ ?_; focus (first | with_reducible rfl | assumption | omega | (simp <;> first | omega | assumption))) | (refine sy_guard_no rfl rfl rfl rfl rfl ?_ ?_; focus (first | with_reducible rfl | assumption | omega | (simp <;> first | omega | assumption)))) | (refine gL ?_; first | refine sy_ov (ov_ld 0 rfl rfl rfl) rfl rfl ?_ | refine sy_ov (ov_ld 1 rfl rfl rfl) rfl rfl ?_) | (refine sy_ov (ov_pick_f rfl rfl ?_) rfl rfl ?_; focus (with_reducible rfl)) | refine sy_ov (ov_pick rfl rfl rfl) rfl rfl ?_ | refine sy_ov (ov_fieldAddr rfl rfl rfl) rfl rfl ?_ | (refine sy_box rfl rfl rfl ?_; intro _)) | (refine sy_cond_t rfl ?_ ?_; focus (first | with_reducible rfl | assumption | omega | (simp <;> first | omega | assumption))) | refine sy_rt ?_)
        exact ret1 rfl rfl (by first | rfl | simp_all)
    · rw [show decide (k = k') = false by simp [hk], Bool.false_and, Bool.false_and, Bool.false_and, Bool.false_and, Bool.false_and]
      refine sy_enter rfl rfl ?_
      simp only [initFr]
      repeat (first | refine sy_k rfl rfl ?_ | (refine gO ?_; first | refine sy_ov (ov_p rfl) rfl rfl ?_ | (refine gG ?_; (refine sy_guard_no rfl rfl rfl rfl rfl ?_ ?_; focus (first | with_reducible rfl | assumption | omega | (simp <;> first | omega | assumption)))) | (refine gL ?_; first | refine sy_ov (ov_ld 0 rfl rfl rfl) rfl rfl ?_ | refine sy_ov (ov_ld 1 rfl rfl rfl) rfl rfl ?_) | refine sy_ov (ov_pick rfl rfl rfl) rfl rfl ?_ | refine sy_ov (ov_fieldAddr rfl rfl rfl) rfl rfl ?_ | (refine sy_box rfl rfl rfl ?_; intro _)) | (refine sy_cond_t rfl ?_ ?_; focus (first | with_reducible rfl | assumption | omega | (simp <;> first | omega | assumption))) | refine sy_rt ?_)
      exact ret1 rfl rfl (by first | rfl | simp_all)
end Go.Proofs.Ytldjakeigjngoaa
/- Contract: whether values are the same but for places, as the program tells. -/
set_option linter.unusedVariables false
set_option linter.unusedSimpArgs false
namespace Go.Proofs.Ytldjakeigjngoaa
open Go.RowKit Bf
theorem samN_mk {k a n k' a' n' : Int} {s s' : List UInt8} {pk pk' p p' : Option Addr} {ck ck' c c' : Nat} {keys keys' : List WordT} {kids kids' : List RawA} :
    samN (plR (.mk k a n s pk ck keys p c kids)) (plR (.mk k' a' n' s' pk' ck' keys' p' c' kids')) = (decide (k = k') && decide (n = n') && decide (s = s') && decide (keys.map (·.1) = keys'.map (·.1)) && samNs (plRs kids) (plRs kids')) := by
  simp only [plR, samN]
set_option maxRecDepth 20000 in
set_option maxHeartbeats 8000000 in
theorem same23_c : ∀ (m : Nat) (z : RawA), SizeOf.sizeOf z ≤ m → ∀ (z2 : RawA) (w : World), RawJ w z → RawJ w z2 → Calls Try.prog 31 #[.agg ⟨rawV z⟩, .agg ⟨rawV z2⟩] w fun e w' => e = .returned (.bool (samN (plR z) (plR z2))) ∧ Below w.heap.size w w' := by
  intro m
  induction m with
  | zero => intro z hz; cases z; simp at hz
  | succ m ih =>
    intro z hz z2 w hw1 hw2
    obtain ⟨k, a, n, s, pk, ck, keys, p, c, kids⟩ := z
    obtain ⟨k', a', n', s', pk', ck', keys', p', c', kids'⟩ := z2
    obtain ⟨hb, hs1, hs2, hkid⟩ := hw1.parts
    obtain ⟨hb', hs1', hs2', hkid'⟩ := hw2.parts
    have hm : kids.length ≤ 9223372036854775807 := hb.2
    have hmk : keys.length ≤ 9223372036854775807 := hb.1
    rw [samN_mk]
    by_cases hk : k = k'
    · by_cases hn : n = n'
      · by_cases hs : s = s'
        · by_cases hkl : (keys.length : Int) = keys'.length
          · by_cases hzl : (kids.length : Int) = kids'.length
            · subst hk
              subst hn
              subst hs
              have hst : St (fun _ => False) w (fun w => IsSl w 6 p kids.length (kids.flatMap rawV)) := St.start (IsSl.bl _ _ _ _) hs2
              have hst' : St (fun _ => False) w (fun w => IsSl w 6 p' kids'.length (kids'.flatMap rawV)) := St.start (IsSl.bl _ _ _ _) hs2'
              have hsw : St (fun _ => False) w (fun w => IsSl w 2 pk keys.length (keys.flatMap wordV)) := St.start (IsSl.bl _ _ _ _) hs1
              have hsw' : St (fun _ => False) w (fun w => IsSl w 2 pk' keys'.length (keys'.flatMap wordV)) := St.start (IsSl.bl _ _ _ _) hs1'
              have hstk : ∀ x ∈ kids, St (fun _ => False) w (fun w => RawJ w x) := fun x hx => St.start (RawJ.bl _) (hkid x hx)
              have hstk' : ∀ x ∈ kids', St (fun _ => False) w (fun w => RawJ w x) := fun x hx => St.start (RawJ.bl _) (hkid' x hx)
              simp only [decide_true, Bool.true_and]
              refine sy_enter rfl rfl ?_
              simp only [initFr]
              repeat (first | refine sy_k rfl rfl ?_ | (refine gO ?_; first | refine sy_ov (ov_p rfl) rfl rfl ?_ | (refine gG ?_; (refine sy_guard_yes rfl rfl rfl rfl rfl ?_ ?_; focus (first | with_reducible rfl | assumption | omega | (simp <;> first | omega | assumption)))) | (refine gK ?_; refine sy_ov (ov_lens rfl) rfl rfl ?_) | (refine gL ?_; first | refine sy_ov (ov_ld 0 rfl rfl rfl) rfl rfl ?_ | refine sy_ov (ov_ld 1 rfl rfl rfl) rfl rfl ?_) | (refine sy_ov (ov_pick_f rfl rfl ?_) rfl rfl ?_; focus (with_reducible rfl)) | refine sy_ov (ov_fieldAddr rfl rfl rfl) rfl rfl ?_ | (refine sy_box rfl rfl rfl ?_; intro _)) | (refine sy_cond_f rfl ?_ ?_; focus (first | with_reducible rfl | assumption | omega | (simp <;> first | omega | assumption))))
              rename_i b2 b3
              refine sy_loop (α := Int) (fun i => [(2, .pointer (some ⟨b2, 0, none⟩)), (3, .pointer (some ⟨b3, 0, none⟩)), (47, .slice pk keys.length ck), (48, .int .i64 keys.length), (49, .int .i64 i)]) (fun _ => [blk b3 49 (rawV (.mk k a' n s pk' ck' keys' p' c' kids')), blk b2 49 (rawV (.mk k a n s pk ck keys p c kids))]) (fun i => 0 ≤ i ∧ i ≤ keys.length ∧ ∀ (j : Nat) x y, j < i.toNat → keys[j]? = some x → keys'[j]? = some y → x.1 = y.1) (fun i => (keys.length - i).toNat) 0 ⟨by omega, by omega, fun j x y h => by simp at h⟩ ⟨⟨_, rfl, rfl⟩, ⟨_, rfl, rfl⟩, ⟨_, rfl, rfl⟩, ⟨_, rfl, rfl⟩, ⟨_, rfl, rfl⟩, trivial⟩ sr ?_
              rintro i ⟨i0, i1, hinv⟩
              by_cases hlt : i < keys.length
              · obtain ⟨x, hx⟩ : ∃ x, keys[i.toNat]? = some x := ⟨_, List.getElem?_eq_getElem (by omega)⟩
                obtain ⟨y, hy⟩ : ∃ y, keys'[i.toNat]? = some y := ⟨_, List.getElem?_eq_getElem (by omega)⟩
                obtain ⟨b, off, hp, hat⟩ := hsw.addr (by omega)
                obtain ⟨b', off', hp', hat'⟩ := hsw'.addr (by omega)
                subst hp
                subst hp'
                by_cases hxy : x.1 = y.1
                · repeat (first | refine sy_k rfl rfl ?_ | (refine gO ?_; first | refine sy_ov (ov_p rfl) rfl rfl ?_ | (refine sy_ov (ov_indexAddr rfl rfl ?_ ?_) rfl rfl ?_; omega; omega)) | (refine sy_cond_t rfl ?_ ?_; focus (first | with_reducible rfl | assumption | omega | (simp <;> first | omega | assumption))))
                  refine sy_ov (ov_elem (f := wordV) hat hx rfl rfl (fun _ => rfl)) rfl rfl ?_
                  obtain ⟨x1, x2⟩ := x
                  obtain ⟨y1, y2⟩ := y
                  simp only at hxy
                  subst hxy
                  repeat (first | refine sy_k rfl rfl ?_ | (refine gO ?_; first | refine sy_ov (ov_p rfl) rfl rfl ?_ | (refine gS ?_; refine sy_store 0 rfl rfl rfl rfl rfl rfl rfl rfl ?_) | (refine sy_alloc rfl rfl rfl ?_; intro _)))
                  refine sy_draw 8 (by kernel_rfl) ?_
                  repeat (first | refine dr_op (ov_p rfl) rfl rfl ?_ | refine dr_op (ov_ld 0 rfl rfl rfl) rfl rfl ?_ | refine dr_op (ov_ld 1 rfl rfl rfl) rfl rfl ?_ | refine dr_op (ov_fieldAddr rfl rfl rfl) rfl rfl ?_ | (refine dr_op (ov_indexAddr rfl rfl ?_ ?_) rfl rfl ?_; omega; omega))
                  refine dr_op (ov_cell0 (f := wordV) hat' hy rfl rfl rfl (fun _ => rfl)) rfl rfl ?_
                  repeat (refine dr_end ?_)
                  repeat (first | refine sy_k rfl rfl ?_ | (refine gO ?_; first | refine sy_ov (ov_p rfl) rfl rfl ?_ | (refine gB ?_; (refine sy_ov (ov_ar rfl rfl rfl ?_ ?_) rfl rfl ?_; omega; omega))) | (refine sy_cond_f rfl ?_ ?_; focus (first | with_reducible rfl | assumption | omega | (simp <;> first | omega | assumption))))
                  refine sy_back (i + 1) ⟨by omega, by omega, ?_⟩ (by omega) ⟨⟨_, rfl, rfl⟩, ⟨_, rfl, rfl⟩, ⟨_, rfl, rfl⟩, ⟨_, rfl, rfl⟩, ⟨_, rfl, rfl⟩, trivial⟩ (sd sr)
                  intro j u v hj hu hv
                  by_cases hji : j < i.toNat
                  · exact hinv j u v hji hu hv
                  · have : j = i.toNat := by omega
                    subst this
                    rw [hx] at hu; rw [hy] at hv; cases hu; cases hv; rfl
                · have hne : decide (keys.map (·.1) = keys'.map (·.1)) = false := by
                    simp only [decide_eq_false_iff_not]
                    intro e
                    have h1 : (keys.map (·.1))[i.toNat]? = some x.1 := by rw [List.getElem?_map, hx]; rfl
                    rw [e, List.getElem?_map, hy] at h1
                    exact hxy (Option.some.inj h1).symm
                  rw [hne]
                  repeat (first | refine sy_k rfl rfl ?_ | (refine gO ?_; first | refine sy_ov (ov_p rfl) rfl rfl ?_ | (refine sy_ov (ov_indexAddr rfl rfl ?_ ?_) rfl rfl ?_; omega; omega)) | (refine sy_cond_t rfl ?_ ?_; focus (first | with_reducible rfl | assumption | omega | (simp <;> first | omega | assumption))))
                  refine sy_ov (ov_elem (f := wordV) hat hx rfl rfl (fun _ => rfl)) rfl rfl ?_
                  obtain ⟨x1, x2⟩ := x
                  obtain ⟨y1, y2⟩ := y
                  simp only at hxy
                  repeat (first | refine sy_k rfl rfl ?_ | (refine gO ?_; first | refine sy_ov (ov_p rfl) rfl rfl ?_ | (refine gS ?_; refine sy_store 0 rfl rfl rfl rfl rfl rfl rfl rfl ?_) | (refine sy_alloc rfl rfl rfl ?_; intro _)))
                  refine sy_draw 8 (by kernel_rfl) ?_
                  repeat (first | refine dr_op (ov_p rfl) rfl rfl ?_ | refine dr_op (ov_ld 0 rfl rfl rfl) rfl rfl ?_ | refine dr_op (ov_ld 1 rfl rfl rfl) rfl rfl ?_ | refine dr_op (ov_fieldAddr rfl rfl rfl) rfl rfl ?_ | (refine dr_op (ov_indexAddr rfl rfl ?_ ?_) rfl rfl ?_; omega; omega))
                  refine dr_op (ov_cell0 (f := wordV) hat' hy rfl rfl rfl (fun _ => rfl)) rfl rfl ?_
                  repeat (refine dr_end ?_)
                  repeat (first | refine sy_k rfl rfl ?_ | (refine gO ?_; refine sy_ov (ov_p rfl) rfl rfl ?_) | (refine sy_cond_t rfl ?_ ?_; focus (first | with_reducible rfl | assumption | omega | (simp <;> first | omega | assumption))) | refine sy_rt ?_)
                  exact ret1 rfl rfl rfl
              · have hke : keys.map (·.1) = keys'.map (·.1) := list_ext (by simp only [List.length_map]; omega) fun j u v hu hv => by
                  rw [List.getElem?_map] at hu hv
                  obtain ⟨x, hx, rfl⟩ := Option.map_eq_some_iff.1 hu
                  obtain ⟨y, hy, rfl⟩ := Option.map_eq_some_iff.1 hv
                  exact hinv j x y (by have := (List.getElem?_eq_some_iff.1 hx).1; omega) hx hy
                rw [show decide (keys.map (·.1) = keys'.map (·.1)) = true by simp [hke], Bool.true_and]
                repeat (first | refine sy_k rfl rfl ?_ | (refine gO ?_; first | refine sy_ov (ov_p rfl) rfl rfl ?_ | (refine gK ?_; refine sy_ov (ov_lens rfl) rfl rfl ?_) | (refine gL ?_; refine sy_ov (ov_ld 1 rfl rfl rfl) rfl rfl ?_) | refine sy_ov (ov_fieldAddr rfl rfl rfl) rfl rfl ?_) | (refine sy_cond_f rfl ?_ ?_; focus (first | with_reducible rfl | assumption | omega | (simp <;> first | omega | assumption))))
                refine sy_loop (α := Int) (fun i => [(3, .pointer (some ⟨b3, 0, none⟩)), (65, .slice p kids.length c), (66, .int .i64 kids.length), (67, .int .i64 i)]) (fun _ => [blk b3 49 (rawV (.mk k a' n s pk' ck' keys' p' c' kids')), blk b2 49 (rawV (.mk k a n s pk ck keys p c kids))]) (fun i => 0 ≤ i ∧ i ≤ kids.length ∧ ∀ (j : Nat) x y, j < i.toNat → (plRs kids)[j]? = some x → (plRs kids')[j]? = some y → samN x y = true) (fun i => (kids.length - i).toNat) 0 ⟨by omega, by omega, fun j x y h => by simp at h⟩ ⟨⟨_, rfl, rfl⟩, ⟨_, rfl, rfl⟩, ⟨_, rfl, rfl⟩, ⟨_, rfl, rfl⟩, trivial⟩ sr ?_
                rintro i ⟨i0, i1, hinv⟩
                by_cases hlt : i < kids.length
                · obtain ⟨x, hx⟩ : ∃ x, kids[i.toNat]? = some x := ⟨_, List.getElem?_eq_getElem (by omega)⟩
                  obtain ⟨y, hy⟩ : ∃ y, kids'[i.toNat]? = some y := ⟨_, List.getElem?_eq_getElem (by omega)⟩
                  have hxm := List.mem_of_getElem? hx
                  have hym := List.mem_of_getElem? hy
                  obtain ⟨b, off, hp, hat⟩ := hst.addr (by omega)
                  obtain ⟨b', off', hp', hat'⟩ := hst'.addr (by omega)
                  subst hp
                  subst hp'
                  have hsz := sizeR_kid (k := k) (a := a) (n := n) (s := s) (pk := pk) (ck := ck) (keys := keys) (p := some ⟨b, off, none⟩) (c := c) hxm
                  have hrec := ih x (by omega) y
                  obtain ⟨r, hr⟩ : ∃ r, samN (plR x) (plR y) = r := ⟨_, rfl⟩
                  rw [hr] at hrec
                  cases r
                  · have hne : samNs (plRs kids) (plRs kids') = false := by
                      cases hc : samNs (plRs kids) (plRs kids') with
                      | false => rfl
                      | true =>
                        have := (samNs_at (by rw [plRs_len, plRs_len]; omega)).1 hc i.toNat _ _ (plRs_at hx) (plRs_at hy)
                        rw [hr] at this; cases this
                    rw [hne]
                    repeat (first | refine sy_k rfl rfl ?_ | (refine gO ?_; first | refine sy_ov (ov_p rfl) rfl rfl ?_ | (refine sy_ov (ov_indexAddr rfl rfl ?_ ?_) rfl rfl ?_; omega; omega)) | (refine sy_cond_t rfl ?_ ?_; focus (first | with_reducible rfl | assumption | omega | (simp <;> first | omega | assumption))))
                    refine sy_ov (ov_elem (f := rawV) hat hx rfl rfl rawV_len) rfl rfl ?_
                    obtain ⟨xk, xa, xn, xs, xpk, xck, xkeys, xp, xc, xkids⟩ := x
                    repeat (first | refine sy_k rfl rfl ?_ | (refine gO ?_; first | refine sy_ov (ov_p rfl) rfl rfl ?_ | (refine gS ?_; refine sy_store 0 rfl rfl rfl rfl rfl rfl rfl rfl ?_) | (refine sy_alloc rfl rfl rfl ?_; intro _)))
                    refine sy_draw 6 (by kernel_rfl) ?_
                    repeat (first | refine dr_op (ov_p rfl) rfl rfl ?_ | refine dr_op (ov_ld 0 rfl rfl rfl) rfl rfl ?_ | refine dr_op (ov_ld 1 rfl rfl rfl) rfl rfl ?_ | refine dr_op (ov_fieldAddr rfl rfl rfl) rfl rfl ?_ | (refine dr_op (ov_indexAddr rfl rfl ?_ ?_) rfl rfl ?_; omega; omega))
                    refine dr_op (ov_elem (f := rawV) hat' hy rfl rfl rawV_len) rfl rfl ?_
                    repeat (refine dr_end ?_)
                    refine sy_ov (ov_call rfl (fun w hw => hrec w ((hstk _ hxm).at hw) ((hstk' _ hym).at hw))) rfl rfl ?_
                    repeat (first | refine sy_k rfl rfl ?_ | (refine gO ?_; refine sy_ov (ov_p rfl) rfl rfl ?_) | (refine sy_cond_t rfl ?_ ?_; focus (first | with_reducible rfl | assumption | omega | (simp <;> first | omega | assumption))) | refine sy_rt ?_)
                    exact ret1 rfl rfl rfl
                  · repeat (first | refine sy_k rfl rfl ?_ | (refine gO ?_; first | refine sy_ov (ov_p rfl) rfl rfl ?_ | (refine sy_ov (ov_indexAddr rfl rfl ?_ ?_) rfl rfl ?_; omega; omega)) | (refine sy_cond_t rfl ?_ ?_; focus (first | with_reducible rfl | assumption | omega | (simp <;> first | omega | assumption))))
                    refine sy_ov (ov_elem (f := rawV) hat hx rfl rfl rawV_len) rfl rfl ?_
                    obtain ⟨xk, xa, xn, xs, xpk, xck, xkeys, xp, xc, xkids⟩ := x
                    repeat (first | refine sy_k rfl rfl ?_ | (refine gO ?_; first | refine sy_ov (ov_p rfl) rfl rfl ?_ | (refine gS ?_; refine sy_store 0 rfl rfl rfl rfl rfl rfl rfl rfl ?_) | (refine sy_alloc rfl rfl rfl ?_; intro _)))
                    refine sy_draw 6 (by kernel_rfl) ?_
                    repeat (first | refine dr_op (ov_p rfl) rfl rfl ?_ | refine dr_op (ov_ld 0 rfl rfl rfl) rfl rfl ?_ | refine dr_op (ov_ld 1 rfl rfl rfl) rfl rfl ?_ | refine dr_op (ov_fieldAddr rfl rfl rfl) rfl rfl ?_ | (refine dr_op (ov_indexAddr rfl rfl ?_ ?_) rfl rfl ?_; omega; omega))
                    refine dr_op (ov_elem (f := rawV) hat' hy rfl rfl rawV_len) rfl rfl ?_
                    repeat (refine dr_end ?_)
                    refine sy_ov (ov_call rfl (fun w hw => hrec w ((hstk _ hxm).at hw) ((hstk' _ hym).at hw))) rfl rfl ?_
                    repeat (first | refine sy_k rfl rfl ?_ | (refine gO ?_; first | refine sy_ov (ov_p rfl) rfl rfl ?_ | (refine gB ?_; (refine sy_ov (ov_ar rfl rfl rfl ?_ ?_) rfl rfl ?_; omega; omega))) | (refine sy_cond_f rfl ?_ ?_; focus (first | with_reducible rfl | assumption | omega | (simp <;> first | omega | assumption))))
                    refine sy_back (i + 1) ⟨by omega, by omega, ?_⟩ (by omega) ⟨⟨_, rfl, rfl⟩, ⟨_, rfl, rfl⟩, ⟨_, rfl, rfl⟩, ⟨_, rfl, rfl⟩, trivial⟩ (sd sr)
                    intro j u v hj hu hv
                    by_cases hji : j < i.toNat
                    · exact hinv j u v hji hu hv
                    · have : j = i.toNat := by omega
                      subst this
                      rw [plRs_at hx] at hu; rw [plRs_at hy] at hv; cases hu; cases hv; exact hr
                · have hall : samNs (plRs kids) (plRs kids') = true := (samNs_at (by rw [plRs_len, plRs_len]; omega)).2 fun j x y hx hy => hinv j x y (by have := (List.getElem?_eq_some_iff.1 hx).1; rw [plRs_len] at this; omega) hx hy
                  rw [hall]
                  repeat (first | refine sy_k rfl rfl ?_ | (refine gO ?_; refine sy_ov (ov_p rfl) rfl rfl ?_) | (refine sy_cond_f rfl ?_ ?_; focus (first | with_reducible rfl | assumption | omega | (simp <;> first | omega | assumption))) | refine sy_rt ?_)
                  exact ret1 rfl rfl rfl
            · have hf : samNs (plRs kids) (plRs kids') = false := by
                cases hc : samNs (plRs kids) (plRs kids') with
                | false => rfl
                | true => exfalso; have := samNs_len hc; rw [plRs_len, plRs_len] at this; omega
              rw [hf, Bool.and_false]
              refine sy_enter rfl rfl ?_
              simp only [initFr]
              repeat (first | refine sy_k rfl rfl ?_ | (refine gO ?_; first | refine sy_ov (ov_p rfl) rfl rfl ?_ | (refine gG ?_; (refine sy_guard_yes rfl rfl rfl rfl rfl ?_ ?_; focus (first | with_reducible rfl | assumption | omega | (simp <;> first | omega | assumption)))) | (refine gK ?_; refine sy_ov (ov_lens rfl) rfl rfl ?_) | (refine gL ?_; first | refine sy_ov (ov_ld 0 rfl rfl rfl) rfl rfl ?_ | refine sy_ov (ov_ld 1 rfl rfl rfl) rfl rfl ?_) | (refine sy_ov (ov_pick_f rfl rfl ?_) rfl rfl ?_; focus (with_reducible rfl)) | refine sy_ov (ov_fieldAddr rfl rfl rfl) rfl rfl ?_ | (refine sy_box rfl rfl rfl ?_; intro _)) | (refine sy_cond_t rfl ?_ ?_; focus (first | with_reducible rfl | assumption | omega | (simp <;> first | omega | assumption))) | refine sy_rt ?_)
              exact ret1 rfl rfl (by first | rfl | simp_all)
          · have hf : decide (keys.map (·.1) = keys'.map (·.1)) = false := by
              simp only [decide_eq_false_iff_not]
              intro e
              have := congrArg List.length e
              simp only [List.length_map] at this
              omega
            rw [hf, Bool.and_false, Bool.false_and]
            refine sy_enter rfl rfl ?_
            simp only [initFr]
            repeat (first | refine sy_k rfl rfl ?_ | (refine gO ?_; first | refine sy_ov (ov_p rfl) rfl rfl ?_ | (refine gG ?_; first | (refine sy_guard_yes rfl rfl rfl rfl rfl ?_ ?_; focus (first | with_reducible rfl | assumption | omega | (simp <;> first | omega | assumption))) | (refine sy_guard_no rfl rfl rfl rfl rfl ?_ ?_; focus (first | with_reducible rfl | assumption | omega | (simp <;> first | omega | assumption)))) | (refine gK ?_; refine sy_ov (ov_lens rfl) rfl rfl ?_) | (refine gL ?_; first | refine sy_ov (ov_ld 0 rfl rfl rfl) rfl rfl ?_ | refine sy_ov (ov_ld 1 rfl rfl rfl) rfl rfl ?_) | (refine sy_ov (ov_pick_f rfl rfl ?_) rfl rfl ?_; focus (with_reducible rfl)) | refine sy_ov (ov_pick rfl rfl rfl) rfl rfl ?_ | refine sy_ov (ov_fieldAddr rfl rfl rfl) rfl rfl ?_ | (refine sy_box rfl rfl rfl ?_; intro _)) | (refine sy_cond_t rfl ?_ ?_; focus (first | with_reducible rfl | assumption | omega | (simp <;> first | omega | assumption))) | refine sy_rt ?_)
            exact ret1 rfl rfl (by first | rfl | simp_all)
        · rw [show decide (s = s') = false by simp [hs], Bool.and_false, Bool.false_and, Bool.false_and]
          refine sy_enter rfl rfl ?_
          simp only [initFr]
          repeat (first | refine sy_k rfl rfl ?_ | (refine gO ?_; first | refine sy_ov (ov_p rfl) rfl rfl ?_ | (refine gG ?_; first | (refine sy_guard_yes rfl rfl rfl rfl rfl ?_ ?_; focus (first | with_reducible rfl | assumption | omega | (simp <;> first | omega | assumption))) | (refine sy_guard_no rfl rfl rfl rfl rfl ?_ ?_; focus (first | with_reducible rfl | assumption | omega | (simp <;> first | omega | assumption)))) | (refine gL ?_; first | refine sy_ov (ov_ld 0 rfl rfl rfl) rfl rfl ?_ | refine sy_ov (ov_ld 1 rfl rfl rfl) rfl rfl ?_) | (refine sy_ov (ov_pick_f rfl rfl ?_) rfl rfl ?_; focus (with_reducible rfl)) | refine sy_ov (ov_pick rfl rfl rfl) rfl rfl ?_ | refine sy_ov (ov_fieldAddr rfl rfl rfl) rfl rfl ?_ | (refine sy_box rfl rfl rfl ?_; intro _)) | (refine sy_cond_t rfl ?_ ?_; focus (first | with_reducible rfl | assumption | omega | (simp <;> first | omega | assumption))) | refine sy_rt ?_)
          exact ret1 rfl rfl (by first | rfl | simp_all)
      · rw [show decide (n = n') = false by simp [hn], Bool.and_false, Bool.false_and, Bool.false_and, Bool.false_and]
        refine sy_enter rfl rfl ?_
        simp only [initFr]
        repeat (first | refine sy_k rfl rfl ?_ | (refine gO ?_; first | refine sy_ov (ov_p rfl) rfl rfl ?_ | (refine gG ?_; first | (refine sy_guard_yes rfl rfl rfl rfl rfl ?_ ?_; focus (first | with_reducible rfl | assumption | omega | (simp <;> first | omega | assumption))) | (refine sy_guard_no rfl rfl rfl rfl rfl ?_ ?_; focus (first | with_reducible rfl | assumption | omega | (simp <;> first | omega | assumption)))) | (refine gL ?_; first | refine sy_ov (ov_ld 0 rfl rfl rfl) rfl rfl ?_ | refine sy_ov (ov_ld 1 rfl rfl rfl) rfl rfl ?_) | (refine sy_ov (ov_pick_f rfl rfl ?_) rfl rfl ?_; focus (with_reducible rfl)) | refine sy_ov (ov_pick rfl rfl rfl) rfl rfl ?_ | refine sy_ov (ov_fieldAddr rfl rfl rfl) rfl rfl ?_ | (refine sy_box rfl rfl rfl ?_; intro _)) | (refine sy_cond_t rfl ?_ ?_; focus (first | with_reducible rfl | assumption | omega | (simp <;> first | omega | assumption))) | refine sy_rt ?_)
        exact ret1 rfl rfl (by first | rfl | simp_all)
    · rw [show decide (k = k') = false by simp [hk], Bool.false_and, Bool.false_and, Bool.false_and, Bool.false_and]
      refine sy_enter rfl rfl ?_
      simp only [initFr]
      repeat (first | refine sy_k rfl rfl ?_ | (refine gO ?_; first | refine sy_ov (ov_p rfl) rfl rfl ?_ | (refine gG ?_; (refine sy_guard_no rfl rfl rfl rfl rfl ?_ ?_; focus (first | with_reducible rfl | assumption | omega | (simp <;> first | omega | assumption)))) | (refine gL ?_; first | refine sy_ov (ov_ld 0 rfl rfl rfl) rfl rfl ?_ | refine sy_ov (ov_ld 1 rfl rfl rfl) rfl rfl ?_) | refine sy_ov (ov_pick rfl rfl rfl) rfl rfl ?_ | refine sy_ov (ov_fieldAddr rfl rfl rfl) rfl rfl ?_ | (refine sy_box rfl rfl rfl ?_; intro _)) | (refine sy_cond_t rfl ?_ ?_; focus (first | with_reducible rfl | assumption | omega | (simp <;> first | omega | assumption))) | refine sy_rt ?_)
      exact ret1 rfl rfl (by first | rfl | simp_all)
end Go.Proofs.Ytldjakeigjngoaa
/- New values that a callee makes out of memory that was there before; how great the rows of a value are. -/
set_option linter.unusedVariables false
set_option linter.unusedSimpArgs false
namespace Go.Proofs.Ytldjakeigjngoaa
open Go.RowKit Go.Deep
/-- Rows within a machine's reach. -/
inductive SzR : RawA → Prop where
  | mk (k a n : Int) (s : List UInt8) (pk : Option Addr) (ck : Nat) (keys : List WordT) (p : Option Addr) (c : Nat) (kids : List RawA)
    (h1 : keys.length * 24 ≤ 140737488351232) (h2 : kids.length * 88 ≤ 140737488351232) (h3 : ∀ x ∈ kids, SzR x) : SzR (.mk k a n s pk ck keys p c kids)
theorem SzR.parts {k a n : Int} {s : List UInt8} {pk : Option Addr} {ck : Nat} {keys : List WordT} {p : Option Addr} {c : Nat} {kids : List RawA} (h : SzR (.mk k a n s pk ck keys p c kids)) :
    keys.length * 24 ≤ 140737488351232 ∧ kids.length * 88 ≤ 140737488351232 ∧ ∀ x ∈ kids, SzR x := by
  cases h with
  | mk _ _ _ _ _ _ _ _ _ _ h1 h2 h3 => exact ⟨h1, h2, h3⟩
/-- A call that makes new pieces. -/
def PostN (w : World) (R : Value → List En → Prop) (x : Ending) (w' : World) : Prop := ∃ v es', R v es' ∧ x = .returned v ∧ HpOk (fun _ => False) w es' w'
theorem domL_nil : domL [] = fun _ => False := by funext b; simp [domL]
section
variable {P : Program} {C : Cx} {k : List It} {fr : Fr} {hp : List En} {all : Array Oper} {l : List Oper} {dst : Option Tmp} {ty : TypeId} {pos : String} {aft : Array Edge} {g : Option (Nat × Bool)}
theorem sy_callN {f : FuncId} {fn : Func} [hfn : FN P f fn] {args : List Operand} {ats : Array TypeId} {vs : List Value} {R : Value → List En → Prop} (hx : evs fr args = some vs) (hf : Fits C.n dst)
    (hc : ∀ w, HpOk C.D C.w0 hp w → Calls P f vs.toArray w (PostN w R)) (hk : ∀ v es', R v es' → Sy P C (.o all l :: k) (put dst v fr) (es' ++ hp)) : Sy P C (.o all (⟨dst, .call ⟨.value (.func f), ⟨args⟩, ats⟩, ty, pos, aft, none⟩ :: l) :: k) fr hp := by
  exact sy_callw hx hf (R := fun x w' => ∃ w, HpOk C.D C.w0 hp w ∧ PostN w R x w')
    (fun w hw => (hc w hw).mono fun x w' h => ⟨w, hw, h⟩)
    fun _ w' _ x ⟨w, hw, v, es', hR, hx', hh⟩ => ⟨v, _, hx', HpOk.callE (es := []) hw (by rw [domL_nil]; exact hh), hk v es' hR⟩
end
section
variable {H : Type} {P : Program}
theorem weightsAll_mem {e : TypeId} : ∀ {ds : List (DataW H)} {d : DataW H}, d ∈ ds → ∀ n ∈ d.weights P e, n ∈ DataW.weightsAll P e ds
  | x :: ds, d, h, n, hn => by
    simp only [DataW.weightsAll, List.mem_append]
    rcases List.mem_cons.1 h with rfl | h
    · exact .inl hn
    · exact .inr (weightsAll_mem h n hn)
def SzOk (P : Program) (t : TypeId) (d : DataW H) : Prop := ∀ n ∈ d.weights P t, n ≤ reachBytes
end
section
variable {H : Type} {enc : TypeId × Value → H} {P : Program} {w : World} {base : Nat} {spare : Nat → Bool} {held : Bool}
theorem open_rowsW {α : Type} (f : α → List Value) (ok : α → Prop) {t e : TypeId} {k fuel : Nat} {v : Value} {x : DataW H × List MemPlace} (ht : P.underlying t = some (.slice e)) (hsz : P.cellsOf e = k) (hk : ∀ x, (f x).length = k) (hpos : 0 < k)
    (hel : ∀ n cs y, n < fuel → DataW.trod enc P w base spare held n e cs = some y → SzOk P e y.1 → ∃ z, cs = f z ∧ ok z) (h : DataW.trod enc P w base spare held fuel t [v] = some x) (hw : SzOk P t x.1) :
    ∃ (p : Option Addr) (n c : Nat) (l : List α), v = .slice p n c ∧ l.length = n ∧ n ≤ c ∧ c ≤ maxLen ∧ IsSl w k p n (l.flatMap f) ∧ (∀ y ∈ l, ok y) ∧ n * P.bytesOf e ≤ reachBytes := by
  rcases DataW.trod_slice ht h with ⟨h0, _⟩ | ⟨a, len, cap, elems, rest, m, hfu, hcs, hx, hab, hl, hm, hlen, hel', _, _⟩
  · have e1 := List.singleton_inj.1 h0
    exact ⟨none, 0, 0, [], e1, rfl, Nat.le_refl _, Nat.zero_le _, IsSl.nil _ _ _, (fun y hy => by cases hy), by rw [Nat.zero_mul]; exact Nat.zero_le _⟩
  · have e1 := List.singleton_inj.1 hcs
    have hwt : ∀ n, n ∈ (elems.map (·.1)).length.add (rest.map (·.1)).length * P.bytesOf e :: (DataW.weightsAll P e (elems.map (·.1)) ++ DataW.weightsAll P e (rest.map (·.1))) → n ≤ reachBytes := fun n hn => hw n (by rw [hx]; simp only [DataW.weights, ht]; exact hn)
    have hbig : len * P.bytesOf e ≤ reachBytes := by
      have := hwt _ (List.mem_cons_self ..)
      refine Nat.le_trans (Nat.mul_le_mul_right _ ?_) this
      show len ≤ (elems.map (·.1)).length + (rest.map (·.1)).length
      rw [List.length_map, hlen]; omega
    have helw : ∀ y ∈ elems, SzOk P e y.1 := fun y hy n hn => hwt n (List.mem_cons_of_mem _ (List.mem_append_left _ (weightsAll_mem (List.mem_map_of_mem hy) n hn)))
    obtain ⟨l, hll, hlp⟩ := list_of (α := α) (p := fun i y => w.cells? base (a.add (i * k)) k = some (f y) ∧ ok y) len (fun i hil => by
      have h1 := hel' i hil
      rw [List.getElem?_eq_getElem (by omega)] at h1
      obtain ⟨cs', h2, h3⟩ := Option.bind_eq_some_iff.1 h1
      rw [hsz] at h2
      obtain ⟨z, hz, hz2⟩ := hel m cs' _ (by omega) h3 (helw _ (List.getElem_mem _))
      subst hz
      exact ⟨z, h2, hz2⟩)
    refine ⟨some a, len, cap, l, e1, hll, hl, hm, ⟨by rw [flat_len f k hk, hll], ?_⟩, fun y hy => ?_, hbig⟩
    · rcases Nat.eq_zero_or_pos len with h0 | hp
      · exact .inl h0
      · right
        obtain ⟨y0, hy0⟩ : ∃ y, l[0]? = some y := ⟨l[0]'(by omega), List.getElem?_eq_getElem (by omega)⟩
        have hc0 := (World.cells?_some (hlp 0 y0 hy0).1).2.2 0 hpos
        rw [List.getElem?_eq_getElem (by rw [hk]; exact hpos)] at hc0
        obtain ⟨b, o, spot⟩ := a
        have hspot : spot = none := by simpa [Addr.add] using World.cell?_spot hc0
        subst hspot
        refine ⟨b, o, rfl, fun j u hj => ?_⟩
        obtain ⟨i, m, x, e2, hxi, hxm⟩ := flat_at f k hk hpos l j u hj
        have hm' : m < k := by rw [← hk x]; exact (List.getElem?_eq_some_iff.1 hxm).1
        have := (World.cells?_some (hlp i x hxi).1).2.2 m hm'
        rw [hxm, addr_add, addr_add] at this
        rw [e2, ← Nat.add_assoc]; exact this
    · obtain ⟨i, hi'⟩ := List.mem_iff_getElem?.1 hy
      exact (hlp i y hi').2
end
section
variable {H : Type} {enc : TypeId × Value → H} {w : World} {base : Nat} {spare : Nat → Bool} {held : Bool}
set_option maxRecDepth 20000 in
theorem open_rawW : ∀ (m : Nat) {n : Nat} {cs : List Value} {y : DataW H × List MemPlace}, n ≤ m → DataW.trod enc Try.prog w base spare held n 49 cs = some y → SzOk Try.prog 49 y.1 → ∃ z, cs = rawV z ∧ RawIn w z ∧ SzR z := by
  intro m
  induction m with
  | zero =>
    intro n cs y hn h
    have : n = 0 := by omega
    subst this
    simp [DataW.trod] at h
  | succ m ih =>
    intro n cs y hn h hy
    obtain ⟨xs, q, hq, hyx, hlen, hxl, hf⟩ := DataW.trod_struct Try.underlying49 h
    have hC : Try.prog.cellsOf 49 = 6 := by kernel_rfl
    rw [hC] at hlen
    match cs, hlen with
    | [v0, v1, v2, v3, v4, v5], _ =>
      have c0 : Try.prog.cellsOf 9 = 1 := by kernel_rfl
      have c1 : Try.prog.cellsOf 3 = 1 := by kernel_rfl
      have c2 : Try.prog.cellsOf 46 = 1 := by kernel_rfl
      have c3 : Try.prog.cellsOf 47 = 1 := by kernel_rfl
      have hx : ∀ i, i < 6 → ∃ y, xs[i]? = some y := fun i hi => ⟨xs[i]'(by rw [hxl]; exact hi), List.getElem?_eq_getElem _⟩
      obtain ⟨y0, hy0⟩ := hx 0 (by omega)
      have e0 : DataW.trod enc Try.prog w base spare held q 3 ([v0, v1, v2, v3, v4, v5].take (Try.prog.cellsOf 3)) = xs[0]? := hf 0 _ rfl
      rw [c1, hy0] at e0
      have e0 : DataW.trod enc Try.prog w base spare held q 3 [v0] = some y0 := e0
      obtain ⟨y1, hy1⟩ := hx 1 (by omega)
      have e1 : DataW.trod enc Try.prog w base spare held q 3 ([v1, v2, v3, v4, v5].take (Try.prog.cellsOf 3)) = xs[1]? := hf 1 _ rfl
      rw [c1, hy1] at e1
      have e1 : DataW.trod enc Try.prog w base spare held q 3 [v1] = some y1 := e1
      obtain ⟨y2, hy2⟩ := hx 2 (by omega)
      have e2 : DataW.trod enc Try.prog w base spare held q 3 ([v2, v3, v4, v5].take (Try.prog.cellsOf 3)) = xs[2]? := hf 2 _ rfl
      rw [c1, hy2] at e2
      have e2 : DataW.trod enc Try.prog w base spare held q 3 [v2] = some y2 := e2
      obtain ⟨y3, hy3⟩ := hx 3 (by omega)
      have e3 : DataW.trod enc Try.prog w base spare held q 9 ([v3, v4, v5].take (Try.prog.cellsOf 9)) = xs[3]? := hf 3 _ rfl
      rw [c0, hy3] at e3
      have e3 : DataW.trod enc Try.prog w base spare held q 9 [v3] = some y3 := e3
      obtain ⟨y4, hy4⟩ := hx 4 (by omega)
      have e4 : DataW.trod enc Try.prog w base spare held q 46 ([v4, v5].take (Try.prog.cellsOf 46)) = xs[4]? := hf 4 _ rfl
      rw [c2, hy4] at e4
      have e4 : DataW.trod enc Try.prog w base spare held q 46 [v4] = some y4 := e4
      obtain ⟨y5, hy5⟩ := hx 5 (by omega)
      have e5 : DataW.trod enc Try.prog w base spare held q 47 ([v5].take (Try.prog.cellsOf 47)) = xs[5]? := hf 5 _ rfl
      rw [c3, hy5] at e5
      have e5 : DataW.trod enc Try.prog w base spare held q 47 [v5] = some y5 := e5
      have hwt : ∀ (j : Nat) (t : TypeId) (d : DataW H × List MemPlace), [3, 3, 3, 9, 46, 47][j]? = some t → xs[j]? = some d → SzOk Try.prog t d.1 := fun j t d hj hd n hn => hy n (by
        rw [hyx]
        simp only [DataW.weights, Try.underlying49]
        exact DataW.weights_mem_each (j := j) (t := t) hj (by rw [List.getElem?_map, hd]; rfl) n hn)
      obtain ⟨k, hk, _, hk2⟩ := DataW.trod_int Try.underlying3 e0
      obtain ⟨a, ha, _, ha2⟩ := DataW.trod_int Try.underlying3 e1
      obtain ⟨i, hi, _, hi2⟩ := DataW.trod_int Try.underlying3 e2
      obtain ⟨s, hs, _, hs2⟩ := DataW.trod_string Try.underlying9 e3
      obtain ⟨pk, nk, ck, keys, hv4, hkl, hkc, hkm, hks, hko, hkb⟩ := open_rowsW wordV (fun z => I64 z.2 ∧ z.1.length ≤ maxLen) Try.underlying46 (by kernel_rfl) wordV_len (by decide) (fun n cs y _ h _ => open_word h) e4 (hwt 4 _ _ rfl hy4)
      obtain ⟨p, nr, c, kids, hv5, hrl, hrc, hrm, hrs, hro, hrb⟩ := open_rowsW rawV (fun z => RawIn w z ∧ SzR z) Try.underlying47 (by kernel_rfl) rawV_len (by decide) (fun n cs y hn h hz => ih (by omega) h hz) e5 (hwt 5 _ _ rfl hy5)
      rw [show Try.prog.bytesOf 69 = 24 by kernel_rfl] at hkb
      rw [show Try.prog.bytesOf 49 = 88 by kernel_rfl] at hrb
      rw [show reachBytes = 140737488351232 by decide] at hkb hrb
      cases hk; cases ha; cases hi; cases hs
      subst hv4; subst hv5; subst hkl; subst hrl
      obtain ⟨⟨l⟩⟩ := s
      exact ⟨.mk k a i l pk ck keys p c kids, rfl, .mk k a i l pk ck keys p c kids ⟨wf_i64 hk2, wf_i64 ha2, wf_i64 hi2, hs2, by omega, by omega⟩ hko hks hrs (fun x hx => (hro x hx).1), .mk k a i l pk ck keys p c kids hkb hrb (fun x hx => (hro x hx).2)⟩
end
end Go.Proofs.Ytldjakeigjngoaa
/- Contracts: values without places, as the program and as the document make them. -/
set_option linter.unusedVariables false
set_option linter.unusedSimpArgs false
namespace Go.Proofs.Ytldjakeigjngoaa
open Go.RowKit Bf
theorem St.le' {C C' : Cx} {R : World → Prop} (h : St C.D C.w0 R) (hC : CxLe C C') : St C'.D C'.w0 R := fun w hk => h w (hC.keep w hk)
def noAt (x : WordT) : WordT := (x.1, 0)
/-- What Strip answers. -/
def SP (z : RawA) (u : Value) (es : List En) : Prop := ∃ z', u = .agg ⟨rawV z'⟩ ∧ es = [rawE [z']] ∧ plR z' = stripR (plR z)
theorem stripRs_app : ∀ (a b : List RawP), stripRs (a ++ b) = stripRs a ++ stripRs b
  | [], b => rfl
  | x :: a, b => by simp [stripRs, stripRs_app a b]
structure KSt where
  l : List WordT
  p : Option Addr
  c : Nat
structure VSt where
  l : List RawA
  p : Option Addr
  c : Nat
set_option maxRecDepth 20000 in
set_option maxHeartbeats 8000000 in
theorem pstrip_c : ∀ (m : Nat) (z : RawA), SizeOf.sizeOf z ≤ m → SzR z → ∀ (w : World), RawJ w z → Calls Try.prog 30 #[.agg ⟨rawV z⟩] w (PostN w (SP z)) := by
  intro m
  induction m with
  | zero => intro z hz; cases z; simp at hz
  | succ m ih =>
    intro z hz hzz w hw1
    obtain ⟨k, a, n, s, pk, ck, keys, p, c, kids⟩ := z
    obtain ⟨hb, hs1, hs2, hkid⟩ := hw1.parts
    obtain ⟨hz1, hz2, hzk⟩ := hzz.parts
    have hst : St (fun _ => False) w (fun w => IsSl w 6 p kids.length (kids.flatMap rawV)) := St.start (IsSl.bl _ _ _ _) hs2
    have hsw : St (fun _ => False) w (fun w => IsSl w 2 pk keys.length (keys.flatMap wordV)) := St.start (IsSl.bl _ _ _ _) hs1
    have hstk : ∀ x ∈ kids, St (fun _ => False) w (fun w => RawJ w x) := fun x hx => St.start (RawJ.bl _) (hkid x hx)
    refine sy_enter rfl rfl ?_
    simp only [initFr]
    repeat (first | refine sy_k rfl rfl ?_ | (refine gO ?_; first | refine sy_ov (ov_p rfl) rfl rfl ?_ | (refine gK ?_; refine sy_ov (ov_lens rfl) rfl rfl ?_) | (refine gL ?_; first | refine sy_ov (ov_ld 1 rfl rfl rfl) rfl rfl ?_ | refine sy_ov (ov_ld 2 rfl rfl rfl) rfl rfl ?_) | (refine gS ?_; refine sy_store 0 rfl rfl rfl rfl rfl rfl rfl rfl ?_) | refine sy_ov (ov_fieldAddr rfl rfl rfl) rfl rfl ?_ | refine sy_ov (ov_build rfl rfl rfl) rfl rfl ?_ | (refine sy_box rfl rfl rfl ?_; intro _) | (refine sy_alloc rfl rfl rfl ?_; intro _)))
    rename_i b1 b2 b3
    refine sy_grow 69 2 ?_
    refine sy_loop (α := KSt) (fun x => [(1, .pointer (some ⟨b1, 0, none⟩)), (2, .pointer (some ⟨b2, 0, none⟩)), (3, .pointer (some ⟨b3, 0, none⟩)), (16, .slice pk keys.length ck), (17, .int .i64 keys.length), (18, .int .i64 x.l.length)])
      (fun x => [vec 69 2 (.slice x.p x.l.length x.c) x.l.length (x.l.flatMap wordV), blk b3 49 [.int .i64 k, .int .i64 0, .int .i64 n, S s, .slice x.p x.l.length x.c, .slice none 0 0], blk b2 49 [.int .i64 0, .int .i64 0, .int .i64 0, S [], .slice none 0 0, .slice none 0 0], blk b1 49 (rawV (.mk k a n s pk ck keys p c kids))])
      (fun x => x.l.length ≤ keys.length ∧ x.l = (keys.take x.l.length).map noAt) (fun x => keys.length - x.l.length) ⟨[], none, 0⟩ ⟨Nat.zero_le _, rfl⟩ ⟨⟨_, rfl, rfl⟩, ⟨_, rfl, rfl⟩, ⟨_, rfl, rfl⟩, ⟨_, rfl, rfl⟩, ⟨_, rfl, rfl⟩, ⟨_, rfl, rfl⟩, trivial⟩ sr ?_
    rintro ⟨l, lp, lc⟩ ⟨i1, hl⟩
    simp only at i1 hl
    dsimp only
    by_cases hlt : (l.length : Int) < keys.length
    · obtain ⟨x, hx⟩ : ∃ x, keys[l.length]? = some x := ⟨_, List.getElem?_eq_getElem (by omega)⟩
      obtain ⟨b, off, hp, hat⟩ := hsw.addr (by omega)
      subst hp
      have hln : l ++ [noAt x] = (keys.take (l ++ [noAt x]).length).map noAt := by
        rw [List.length_append, List.length_singleton, take_snoc _ _ _ hx, List.map_append, ← hl]; rfl
      have e1 : (l ++ [noAt x]).length = l.length + 1 := by simp
      have e2 : (l ++ [noAt x]).flatMap wordV = l.flatMap wordV ++ wordV (noAt x) := by simp
      obtain ⟨x1, x2⟩ := x
      repeat (first | refine sy_k rfl rfl ?_ | (refine gO ?_; first | refine sy_ov (ov_p rfl) rfl rfl ?_ | (refine sy_ov (ov_indexAddr rfl rfl ?_ ?_) rfl rfl ?_; omega; omega)) | (refine sy_cond_t rfl ?_ ?_; focus (first | with_reducible rfl | assumption | omega | (simp <;> first | omega | assumption))))
      refine sy_ov (ov_elem (f := wordV) hat hx rfl rfl (fun _ => rfl)) rfl rfl ?_
      repeat (first | refine sy_k rfl rfl ?_ | (refine gO ?_; first | (refine gL ?_; first | refine sy_ov (ov_ld 0 rfl rfl rfl) rfl rfl ?_ | refine sy_ov (ov_ld 2 rfl rfl rfl) rfl rfl ?_) | (refine gS ?_; refine sy_store 0 rfl rfl rfl rfl rfl rfl rfl rfl ?_) | refine sy_ov (ov_fieldAddr rfl rfl rfl) rfl rfl ?_ | refine sy_ov (ov_build rfl rfl rfl) rfl rfl ?_ | (refine sy_alloc rfl rfl rfl ?_; intro _)))
      refine sy_buildSlice rfl rfl rfl rfl rfl rfl rfl rfl ?_
      intro nb
      have h1a : oneAll (wordV (noAt (x1, x2))) = true := rfl
      refine sy_append 2 0 rfl rfl rfl rfl rfl rfl rfl rfl h1a rfl rfl (by omega) (by show (_ + 1) * 24 ≤ _; omega) ?_
      intro p' q'
      repeat (first | refine sy_k rfl rfl ?_ | (refine gO ?_; first | refine sy_ov (ov_p rfl) rfl rfl ?_ | (refine gB ?_; (refine sy_ov (ov_ar rfl rfl rfl ?_ ?_) rfl rfl ?_; omega; omega)) | (refine gS ?_; refine sy_store 3 rfl rfl rfl rfl rfl rfl rfl rfl ?_) | refine sy_ov (ov_fieldAddr rfl rfl rfl) rfl rfl ?_))
      refine sy_back ⟨l ++ [noAt (x1, x2)], some p', q'⟩ ⟨by simp only [e1]; omega, hln⟩ (by simp only [e1]; omega) ⟨⟨_, rfl, rfl⟩, ⟨_, rfl, rfl⟩, ⟨_, rfl, rfl⟩, ⟨_, rfl, rfl⟩, ⟨_, rfl, rfl⟩, ⟨_, rfl, by simp only [e1]; rfl⟩, trivial⟩ (by simp only [e1, e2]; exact sd (sd sr))
    · have hl : l = keys.map noAt := by rw [hl, List.take_of_length_le (by omega)]
      repeat (first | refine sy_k rfl rfl ?_ | (refine gO ?_; first | refine sy_ov (ov_p rfl) rfl rfl ?_ | (refine gK ?_; refine sy_ov (ov_lens rfl) rfl rfl ?_) | (refine gL ?_; refine sy_ov (ov_ld 3 rfl rfl rfl) rfl rfl ?_) | refine sy_ov (ov_fieldAddr rfl rfl rfl) rfl rfl ?_) | (refine sy_cond_f rfl ?_ ?_; focus (first | with_reducible rfl | assumption | omega | (simp <;> first | omega | assumption))))
      refine sy_rawNil ?_
      refine sy_grow 49 6 ?_
      refine sy_loop (α := VSt) (fun x => [(1, .pointer (some ⟨b1, 0, none⟩)), (2, .pointer (some ⟨b2, 0, none⟩)), (3, .pointer (some ⟨b3, 0, none⟩)), (32, .slice p kids.length c), (33, .int .i64 kids.length), (34, .int .i64 x.l.length)])
        (fun x => [vec 49 6 (.slice x.p x.l.length x.c) x.l.length (x.l.flatMap rawV), rawE x.l, vec 69 2 (.slice lp l.length lc) l.length (l.flatMap wordV), blk b3 49 [.int .i64 k, .int .i64 0, .int .i64 n, S s, .slice lp l.length lc, .slice x.p x.l.length x.c], blk b2 49 [.int .i64 0, .int .i64 0, .int .i64 0, S [], .slice none 0 0, .slice none 0 0], blk b1 49 (rawV (.mk k a n s pk ck keys p c kids))])
        (fun x => x.l.length ≤ kids.length ∧ plRs x.l = stripRs ((plRs kids).take x.l.length)) (fun x => kids.length - x.l.length) ⟨[], none, 0⟩ ⟨Nat.zero_le _, rfl⟩ ⟨⟨_, rfl, rfl⟩, ⟨_, rfl, rfl⟩, ⟨_, rfl, rfl⟩, ⟨_, rfl, rfl⟩, ⟨_, rfl, rfl⟩, ⟨_, rfl, rfl⟩, trivial⟩ sr ?_
      rintro ⟨zs, zp, zc⟩ ⟨i1, hzs⟩
      simp only at i1 hzs
      dsimp only
      by_cases hlt : (zs.length : Int) < kids.length
      · obtain ⟨x, hx⟩ : ∃ x, kids[zs.length]? = some x := ⟨_, List.getElem?_eq_getElem (by omega)⟩
        have hxm := List.mem_of_getElem? hx
        obtain ⟨b, off, hp, hat⟩ := hst.addr (by omega)
        subst hp
        have hsz := sizeR_kid (k := k) (a := a) (n := n) (s := s) (pk := pk) (ck := ck) (keys := keys) (p := some ⟨b, off, none⟩) (c := c) hxm
        have hrec := ih x (by omega) (hzk x hxm)
        have hpx := plRs_at hx
        have hxj := hstk _ hxm
        obtain ⟨xk, xa, xn, xs, xpk, xck, xkeys, xp, xc, xkids⟩ := x
        repeat (first | refine sy_k rfl rfl ?_ | (refine gO ?_; first | refine sy_ov (ov_p rfl) rfl rfl ?_ | (refine sy_ov (ov_indexAddr rfl rfl ?_ ?_) rfl rfl ?_; omega; omega)) | (refine sy_cond_t rfl ?_ ?_; focus (first | with_reducible rfl | assumption | omega | (simp <;> first | omega | assumption))))
        refine sy_ov (ov_elem (f := rawV) hat hx rfl rfl rawV_len) rfl rfl ?_
        repeat (first | refine sy_k rfl rfl ?_ | (refine gO ?_; first | (refine gS ?_; refine sy_store 0 rfl rfl rfl rfl rfl rfl rfl rfl ?_) | (refine sy_alloc rfl rfl rfl ?_; intro _)))
        refine sy_drawE _ 5 [(0, false), (1, false), (2, false), (3, true), (4, true)] (by kernel_rfl) rfl (sr) ?_
        repeat (first | refine dre_rd (fun _ _ => ov_ld 0 rfl rfl rfl) rfl ?_ | refine dre_rd (fun _ _ => ov_ld 4 rfl rfl rfl) rfl ?_ | refine dre_rd (fun _ _ => ov_fieldAddr rfl rfl rfl) rfl ?_)
        refine dre_ef rfl ?_
        refine sy_callN rfl rfl (fun w hw => hrec w (hxj.at hw)) ?_
        rintro u es' ⟨y, rfl, rfl, hy⟩
        simp only [List.cons_append, List.nil_append]
        have hln : plRs (zs ++ [y]) = stripRs ((plRs kids).take (zs ++ [y]).length) := by
          rw [List.length_append, List.length_singleton, take_snoc _ _ _ hpx, stripRs_app, ← hzs, plRs_app]
          simp only [plRs, stripRs, hy]
        have e1 : (zs ++ [y]).length = zs.length + 1 := by simp
        have e2 : (zs ++ [y]).flatMap rawV = zs.flatMap rawV ++ rawV y := by simp
        obtain ⟨yk, ya, yn, ys, ypk, yck, ykeys, yp, yc, ykids⟩ := y
        refine dre_ek (sd sr) ?_
        refine dre_ef rfl ?_
        refine sy_buildSlice rfl rfl rfl rfl rfl rfl rfl rfl ?_
        intro nb
        refine dre_ek (sd (sd sr)) ?_
        repeat (refine dre_end ?_)
        skip
        have h1a : oneAll (rawV (.mk yk ya yn ys ypk yck ykeys yp yc ykids)) = true := rfl
        refine sy_append 3 0 rfl rfl rfl rfl rfl rfl rfl rfl h1a rfl rfl (by omega) (by show (_ + 1) * 88 ≤ _; omega) ?_
        intro p' q'
        refine sy_order [4, 1, 3, 5, 6, 7, 8, 0, 2] rfl rfl ?_
        simp only [List.set_cons_zero, List.set_cons_succ, List.filterMap_cons, List.filterMap_nil, List.getElem?_cons_zero, List.getElem?_cons_succ]
        refine sy_rawAdd ?_
        repeat (first | refine sy_k rfl rfl ?_ | (refine gO ?_; first | refine sy_ov (ov_p rfl) rfl rfl ?_ | (refine gB ?_; (refine sy_ov (ov_ar rfl rfl rfl ?_ ?_) rfl rfl ?_; omega; omega)) | (refine gS ?_; refine sy_store 3 rfl rfl rfl rfl rfl rfl rfl rfl ?_) | refine sy_ov (ov_fieldAddr rfl rfl rfl) rfl rfl ?_))
        refine sy_order [1, 0, 2, 3, 4, 5, 6, 7] rfl rfl ?_
        simp only [List.set_cons_zero, List.set_cons_succ, List.filterMap_cons, List.filterMap_nil, List.getElem?_cons_zero, List.getElem?_cons_succ]
        refine sy_back ⟨zs ++ [.mk yk ya yn ys ypk yck ykeys yp yc ykids], some p', q'⟩ ⟨by simp only [e1]; omega, hln⟩ (by simp only [e1]; omega) ⟨⟨_, rfl, rfl⟩, ⟨_, rfl, rfl⟩, ⟨_, rfl, rfl⟩, ⟨_, rfl, rfl⟩, ⟨_, rfl, rfl⟩, ⟨_, rfl, by simp only [e1]; rfl⟩, trivial⟩ (by simp only [e1, e2]; exact sk (sk (sk (sk (sk (sk (List.nil_sublist _)))))))
      · have hall : plRs zs = stripRs (plRs kids) := by rw [hzs, List.take_of_length_le (by rw [plRs_len]; omega)]
        refine sy_order [2, 0, 1, 3, 4, 5] rfl rfl ?_
        simp only [List.set_cons_zero, List.set_cons_succ, List.filterMap_cons, List.filterMap_nil, List.getElem?_cons_zero, List.getElem?_cons_succ]
        refine sy_rawMk k 0 n s ?_
        repeat (first | refine sy_k rfl rfl ?_ | (refine gO ?_; first | refine sy_ov (ov_p rfl) rfl rfl ?_ | (refine gL ?_; refine sy_ov (ov_ld 1 rfl rfl rfl) rfl rfl ?_) | (refine gS ?_; refine sy_store 2 rfl rfl rfl rfl rfl rfl rfl rfl ?_)) | (refine sy_cond_f rfl ?_ ?_; focus (first | with_reducible rfl | assumption | omega | (simp <;> first | omega | assumption))) | refine sy_rt ?_)
        refine ret1cw 2 rfl rfl rfl rfl rfl fun w' hw' => ?_
        exact ⟨_, _, ⟨.mk k 0 n s lp lc l zp zc zs, rfl, rfl, by simp only [plR, stripR, hall, hl]; rfl⟩, rfl, hw'.weaken (sk (List.nil_sublist _))⟩
end Go.Proofs.Ytldjakeigjngoaa
/- Contract: a value without places, as the document makes it. -/
set_option linter.unusedVariables false
set_option linter.unusedSimpArgs false
namespace Go.Proofs.Ytldjakeigjngoaa
open Go.RowKit Bf
set_option maxRecDepth 20000 in
set_option maxHeartbeats 8000000 in
theorem rstrip_c : ∀ (m : Nat) (z : RawA), SizeOf.sizeOf z ≤ m → SzR z → ∀ (w : World), RawJ w z → Calls Try.prog 29 #[.agg ⟨rawV z⟩] w (PostN w (SP z)) := by
  intro m
  induction m with
  | zero => intro z hz; cases z; simp at hz
  | succ m ih =>
    intro z hz hzz w hw1
    obtain ⟨k, a, n, s, pk, ck, keys, p, c, kids⟩ := z
    obtain ⟨hb, hs1, hs2, hkid⟩ := hw1.parts
    obtain ⟨hz1, hz2, hzk⟩ := hzz.parts
    have hst : St (fun _ => False) w (fun w => IsSl w 6 p kids.length (kids.flatMap rawV)) := St.start (IsSl.bl _ _ _ _) hs2
    have hsw : St (fun _ => False) w (fun w => IsSl w 2 pk keys.length (keys.flatMap wordV)) := St.start (IsSl.bl _ _ _ _) hs1
    have hstk : ∀ x ∈ kids, St (fun _ => False) w (fun w => RawJ w x) := fun x hx => St.start (RawJ.bl _) (hkid x hx)
    refine sy_enter rfl rfl ?_
    simp only [initFr]
    repeat (first | refine sy_k rfl rfl ?_ | (refine gO ?_; first | refine sy_ov (ov_p rfl) rfl rfl ?_ | (refine gL ?_; refine sy_ov (ov_ld 1 rfl rfl rfl) rfl rfl ?_) | (refine gS ?_; refine sy_store 0 rfl rfl rfl rfl rfl rfl rfl rfl ?_) | refine sy_ov (ov_fieldAddr rfl rfl rfl) rfl rfl ?_ | refine sy_ov (ov_build rfl rfl rfl) rfl rfl ?_ | (refine sy_box rfl rfl rfl ?_; intro _) | (refine sy_alloc rfl rfl rfl ?_; intro _)))
    rename_i b1 b2 b3
    refine sy_grow 69 2 ?_
    refine sy_loop (α := KSt) (fun x => [(1, .pointer (some ⟨b1, 0, none⟩)), (2, .pointer (some ⟨b2, 0, none⟩)), (3, .pointer (some ⟨b3, 0, none⟩)), (4, .int .i64 x.l.length)])
      (fun x => [vec 69 2 (.slice x.p x.l.length x.c) x.l.length (x.l.flatMap wordV), blk b3 49 [.int .i64 k, .int .i64 0, .int .i64 n, S s, .slice x.p x.l.length x.c, .slice none 0 0], blk b2 49 [.int .i64 0, .int .i64 0, .int .i64 0, S [], .slice none 0 0, .slice none 0 0], blk b1 49 (rawV (.mk k a n s pk ck keys p c kids))])
      (fun x => x.l.length ≤ keys.length ∧ x.l = (keys.take x.l.length).map noAt) (fun x => keys.length - x.l.length) ⟨[], none, 0⟩ ⟨Nat.zero_le _, rfl⟩ ⟨⟨_, rfl, rfl⟩, ⟨_, rfl, rfl⟩, ⟨_, rfl, rfl⟩, ⟨_, rfl, rfl⟩, trivial⟩ sr ?_
    rintro ⟨l, lp, lc⟩ ⟨i1, hl⟩
    simp only at i1 hl
    dsimp only
    by_cases hlt : (l.length : Int) < keys.length
    · obtain ⟨x, hx⟩ : ∃ x, keys[l.length]? = some x := ⟨_, List.getElem?_eq_getElem (by omega)⟩
      obtain ⟨b, off, hp, hat⟩ := hsw.addr (by omega)
      subst hp
      have hln : l ++ [noAt x] = (keys.take (l ++ [noAt x]).length).map noAt := by
        rw [List.length_append, List.length_singleton, take_snoc _ _ _ hx, List.map_append, ← hl]; rfl
      have e1 : (l ++ [noAt x]).length = l.length + 1 := by simp
      have e2 : (l ++ [noAt x]).flatMap wordV = l.flatMap wordV ++ wordV (noAt x) := by simp
      obtain ⟨x1, x2⟩ := x
      repeat (first | refine sy_k rfl rfl ?_ | (refine gO ?_; first | refine sy_ov (ov_p rfl) rfl rfl ?_ | (refine gK ?_; refine sy_ov (ov_lens rfl) rfl rfl ?_) | (refine gL ?_; refine sy_ov (ov_ld 3 rfl rfl rfl) rfl rfl ?_) | refine sy_ov (ov_fieldAddr rfl rfl rfl) rfl rfl ?_) | (refine sy_cond_t rfl ?_ ?_; focus (first | with_reducible rfl | assumption | omega | (simp <;> first | omega | assumption))))
      refine sy_drawE _ 10 [(0, false), (1, false), (2, false), (3, false), (4, false), (5, false), (6, false), (7, false), (8, false), (9, true)] (by kernel_rfl) rfl (sr) ?_
      repeat (first | refine dre_rd (fun _ _ => ov_p rfl) rfl ?_ | refine dre_rd (fun _ _ => ov_ld 1 rfl rfl rfl) rfl ?_ | refine dre_rd (fun _ _ => ov_ld 3 rfl rfl rfl) rfl ?_ | refine dre_rd (fun _ _ => ov_fieldAddr rfl rfl rfl) rfl ?_ | (refine dre_rd (fun _ _ => ov_indexAddr rfl rfl ?_ ?_) rfl ?_; omega; omega))
      refine dre_rd (fun _ hC => ov_cell0 (f := wordV) (hat.le' hC) hx rfl rfl rfl (fun _ => rfl)) rfl ?_
      repeat (refine dre_rd (fun _ _ => ov_build rfl rfl rfl) rfl ?_)
      refine dre_ef rfl ?_
      refine sy_buildSlice rfl rfl rfl rfl rfl rfl rfl rfl ?_
      intro nb
      refine dre_ek (sd sr) ?_
      repeat (refine dre_end ?_)
      skip
      have h1a : oneAll (wordV (noAt (x1, x2))) = true := rfl
      refine sy_append 1 0 rfl rfl rfl rfl rfl rfl rfl rfl h1a rfl rfl (by omega) (by show (_ + 1) * 24 ≤ _; omega) ?_
      intro p' q'
      repeat (first | refine sy_k rfl rfl ?_ | (refine gO ?_; first | refine sy_ov (ov_p rfl) rfl rfl ?_ | (refine gB ?_; (refine sy_ov (ov_ar rfl rfl rfl ?_ ?_) rfl rfl ?_; omega; omega)) | (refine gS ?_; refine sy_store 2 rfl rfl rfl rfl rfl rfl rfl rfl ?_) | refine sy_ov (ov_fieldAddr rfl rfl rfl) rfl rfl ?_))
      refine sy_back ⟨l ++ [noAt (x1, x2)], some p', q'⟩ ⟨by simp only [e1]; omega, hln⟩ (by simp only [e1]; omega) ⟨⟨_, rfl, rfl⟩, ⟨_, rfl, rfl⟩, ⟨_, rfl, rfl⟩, ⟨_, rfl, by simp only [e1]; rfl⟩, trivial⟩ (by simp only [e1, e2]; exact sd sr)
    · have hl : l = keys.map noAt := by rw [hl, List.take_of_length_le (by omega)]
      repeat (first | refine sy_k rfl rfl ?_ | (refine gO ?_; first | refine sy_ov (ov_p rfl) rfl rfl ?_ | (refine gK ?_; refine sy_ov (ov_lens rfl) rfl rfl ?_) | (refine gL ?_; refine sy_ov (ov_ld 3 rfl rfl rfl) rfl rfl ?_) | refine sy_ov (ov_fieldAddr rfl rfl rfl) rfl rfl ?_) | (refine sy_cond_f rfl ?_ ?_; focus (first | with_reducible rfl | assumption | omega | (simp <;> first | omega | assumption))))
      refine sy_rawNil ?_
      refine sy_grow 49 6 ?_
      refine sy_order [0, 1, 2, 3, 5, 4] rfl rfl ?_
      simp only [List.set_cons_zero, List.set_cons_succ, List.filterMap_cons, List.filterMap_nil, List.getElem?_cons_zero, List.getElem?_cons_succ]
      refine sy_loop (α := VSt) (fun x => [(1, .pointer (some ⟨b1, 0, none⟩)), (2, .pointer (some ⟨b2, 0, none⟩)), (3, .pointer (some ⟨b3, 0, none⟩)), (5, .int .i64 x.l.length)])
        (fun x => [vec 49 6 (.slice x.p x.l.length x.c) x.l.length (x.l.flatMap rawV), rawE x.l, vec 69 2 (.slice lp l.length lc) l.length (l.flatMap wordV), blk b3 49 [.int .i64 k, .int .i64 0, .int .i64 n, S s, .slice lp l.length lc, .slice x.p x.l.length x.c], blk b1 49 (rawV (.mk k a n s pk ck keys p c kids)), blk b2 49 [.int .i64 0, .int .i64 0, .int .i64 0, S [], .slice none 0 0, .slice none 0 0]])
        (fun x => x.l.length ≤ kids.length ∧ plRs x.l = stripRs ((plRs kids).take x.l.length)) (fun x => kids.length - x.l.length) ⟨[], none, 0⟩ ⟨Nat.zero_le _, rfl⟩ ⟨⟨_, rfl, rfl⟩, ⟨_, rfl, rfl⟩, ⟨_, rfl, rfl⟩, ⟨_, rfl, rfl⟩, trivial⟩ sr ?_
      rintro ⟨zs, zp, zc⟩ ⟨i1, hzs⟩
      simp only at i1 hzs
      dsimp only
      by_cases hlt : (zs.length : Int) < kids.length
      · obtain ⟨x, hx⟩ : ∃ x, kids[zs.length]? = some x := ⟨_, List.getElem?_eq_getElem (by omega)⟩
        have hxm := List.mem_of_getElem? hx
        obtain ⟨b, off, hp, hat⟩ := hst.addr (by omega)
        subst hp
        have hsz := sizeR_kid (k := k) (a := a) (n := n) (s := s) (pk := pk) (ck := ck) (keys := keys) (p := some ⟨b, off, none⟩) (c := c) hxm
        have hrec := ih x (by omega) (hzk x hxm)
        have hpx := plRs_at hx
        have hxj := hstk _ hxm
        obtain ⟨xk, xa, xn, xs, xpk, xck, xkeys, xp, xc, xkids⟩ := x
        repeat (first | refine sy_k rfl rfl ?_ | (refine gO ?_; first | refine sy_ov (ov_p rfl) rfl rfl ?_ | (refine gK ?_; refine sy_ov (ov_lens rfl) rfl rfl ?_) | (refine gL ?_; refine sy_ov (ov_ld 4 rfl rfl rfl) rfl rfl ?_) | refine sy_ov (ov_fieldAddr rfl rfl rfl) rfl rfl ?_) | (refine sy_cond_t rfl ?_ ?_; focus (first | with_reducible rfl | assumption | omega | (simp <;> first | omega | assumption))))
        refine sy_drawE _ 9 [(0, false), (1, false), (2, false), (3, false), (4, false), (5, false), (6, false), (7, true), (8, true)] (by kernel_rfl) rfl (sr) ?_
        repeat (first | refine dre_rd (fun _ _ => ov_p rfl) rfl ?_ | refine dre_rd (fun _ _ => ov_ld 3 rfl rfl rfl) rfl ?_ | refine dre_rd (fun _ _ => ov_ld 4 rfl rfl rfl) rfl ?_ | refine dre_rd (fun _ _ => ov_fieldAddr rfl rfl rfl) rfl ?_ | (refine dre_rd (fun _ _ => ov_indexAddr rfl rfl ?_ ?_) rfl ?_; omega; omega))
        refine dre_rd (fun _ hC => ov_elem (f := rawV) (hat.le' hC) hx rfl rfl rawV_len) rfl ?_
        refine dre_ef rfl ?_
        refine sy_callN rfl rfl (fun w hw => hrec w (hxj.at hw)) ?_
        rintro u es' ⟨y, rfl, rfl, hy⟩
        simp only [List.cons_append, List.nil_append]
        have hln : plRs (zs ++ [y]) = stripRs ((plRs kids).take (zs ++ [y]).length) := by
          rw [List.length_append, List.length_singleton, take_snoc _ _ _ hpx, stripRs_app, ← hzs, plRs_app]
          simp only [plRs, stripRs, hy]
        have e1 : (zs ++ [y]).length = zs.length + 1 := by simp
        have e2 : (zs ++ [y]).flatMap rawV = zs.flatMap rawV ++ rawV y := by simp
        obtain ⟨yk, ya, yn, ys, ypk, yck, ykeys, yp, yc, ykids⟩ := y
        refine dre_ek (sd sr) ?_
        refine dre_ef rfl ?_
        refine sy_buildSlice rfl rfl rfl rfl rfl rfl rfl rfl ?_
        intro nb
        refine dre_ek (sd (sd sr)) ?_
        repeat (refine dre_end ?_)
        skip
        have h1a : oneAll (rawV (.mk yk ya yn ys ypk yck ykeys yp yc ykids)) = true := rfl
        refine sy_append 2 0 rfl rfl rfl rfl rfl rfl rfl rfl h1a rfl rfl (by omega) (by show (_ + 1) * 88 ≤ _; omega) ?_
        intro p' q'
        refine sy_order [3, 1, 2, 4, 5, 6, 7, 0] rfl rfl ?_
        simp only [List.set_cons_zero, List.set_cons_succ, List.filterMap_cons, List.filterMap_nil, List.getElem?_cons_zero, List.getElem?_cons_succ]
        refine sy_rawAdd ?_
        repeat (first | refine sy_k rfl rfl ?_ | (refine gO ?_; first | refine sy_ov (ov_p rfl) rfl rfl ?_ | (refine gB ?_; (refine sy_ov (ov_ar rfl rfl rfl ?_ ?_) rfl rfl ?_; omega; omega)) | (refine gS ?_; refine sy_store 3 rfl rfl rfl rfl rfl rfl rfl rfl ?_) | refine sy_ov (ov_fieldAddr rfl rfl rfl) rfl rfl ?_))
        refine sy_order [1, 0, 2, 3, 4, 5, 6] rfl rfl ?_
        simp only [List.set_cons_zero, List.set_cons_succ, List.filterMap_cons, List.filterMap_nil, List.getElem?_cons_zero, List.getElem?_cons_succ]
        refine sy_back ⟨zs ++ [.mk yk ya yn ys ypk yck ykeys yp yc ykids], some p', q'⟩ ⟨by simp only [e1]; omega, hln⟩ (by simp only [e1]; omega) ⟨⟨_, rfl, rfl⟩, ⟨_, rfl, rfl⟩, ⟨_, rfl, rfl⟩, ⟨_, rfl, by simp only [e1]; rfl⟩, trivial⟩ (by simp only [e1, e2]; exact sk (sk (sk (sk (sk (sk (List.nil_sublist _)))))))
      · have hall : plRs zs = stripRs (plRs kids) := by rw [hzs, List.take_of_length_le (by rw [plRs_len]; omega)]
        refine sy_order [2, 0, 1, 3, 4, 5] rfl rfl ?_
        simp only [List.set_cons_zero, List.set_cons_succ, List.filterMap_cons, List.filterMap_nil, List.getElem?_cons_zero, List.getElem?_cons_succ]
        refine sy_rawMk k 0 n s ?_
        repeat (first | refine sy_k rfl rfl ?_ | (refine gO ?_; first | refine sy_ov (ov_p rfl) rfl rfl ?_ | (refine gK ?_; refine sy_ov (ov_lens rfl) rfl rfl ?_) | (refine gL ?_; first | refine sy_ov (ov_ld 1 rfl rfl rfl) rfl rfl ?_ | refine sy_ov (ov_ld 2 rfl rfl rfl) rfl rfl ?_) | (refine gS ?_; refine sy_store 3 rfl rfl rfl rfl rfl rfl rfl rfl ?_) | refine sy_ov (ov_fieldAddr rfl rfl rfl) rfl rfl ?_) | (refine sy_cond_f rfl ?_ ?_; focus (first | with_reducible rfl | assumption | omega | (simp <;> first | omega | assumption))) | refine sy_rt ?_)
        refine ret1cw 3 rfl rfl rfl rfl rfl fun w' hw' => ?_
        exact ⟨_, _, ⟨.mk k 0 n s lp lc l zp zc zs, rfl, rfl, by simp only [plR, stripR, hall, hl]; rfl⟩, rfl, hw'.weaken (sk (List.nil_sublist _))⟩
end Go.Proofs.Ytldjakeigjngoaa
