/- BST: texts of this proof, joined by program: RawSame, StripIn. -/
import Derived.Test.YtldjakeigjngoaaGreatBRA
import Derived.Test.YtldjakeigjngoaaGreatBEN
import Derived.Test.YtldjakeigjngoaaGreatBRC
import Derived.SizedLaws
/- Contract: whether values are the same, by the document. -/
set_option linter.unusedVariables false
set_option linter.unusedSimpArgs false
namespace Go.Proofs.YtldjakeigjngoaaGreat
open Go.RowKit Bf
instance : KS Tryz.prog 36 [.s, .i .i64] := ⟨by kernel_rfl, by kernel_rfl, by kernel_rfl⟩
theorem eqL_word (x y : WordT) : eqL (wordV x) (wordV y) = decide (x = y) := by
 obtain ⟨s, a⟩ := x
 obtain ⟨t, b⟩ := y
 by_cases h1 : s = t
 · by_cases h2 : a = b
   · subst h1; subst h2; simp [eqL, eqC, wordV]
   · simp [eqL, eqC, wordV, h1, h2]
 · simp [eqL, eqC, wordV, h1]
theorem samR_mk {k a n k' a' n' : Int} {s s' : List UInt8} {pk pk' p p' : Option Addr} {ck ck' c c' : Nat} {keys keys' : List WordT} {kids kids' : List RawA} :
 samR (plR (.mk k a n s pk ck keys p c kids)) (plR (.mk k' a' n' s' pk' ck' keys' p' c' kids')) = (decide (k = k') && decide (a = a') && decide (n = n') && decide (s = s') && decide (keys = keys') && samRs (plRs kids) (plRs kids')) := by
 simp only [plR, samR]
theorem list_ext {α : Type} {l m : List α} (hl : l.length = m.length) (h : ∀ (j : Nat) x y, l[j]? = some x → m[j]? = some y → x = y) : l = m := by
 apply List.ext_getElem?
 intro j
 by_cases hj : j < l.length
 · rw [List.getElem?_eq_getElem hj, List.getElem?_eq_getElem (by omega : j < m.length)]
   congr 1
   exact h j _ _ (List.getElem?_eq_getElem hj) (List.getElem?_eq_getElem (by omega))
 · rw [List.getElem?_eq_none (by omega), List.getElem?_eq_none (by omega)]
set_option maxRecDepth 20000 in
set_option maxHeartbeats 8000000 in
theorem rsame22_c : ∀ (m : Nat) (z : RawA), SizeOf.sizeOf z ≤ m → ∀ (z2 : RawA) (w : World), RawJ w z → RawJ w z2 → Calls Tryz.prog 9 #[.agg ⟨rawV z⟩, .agg ⟨rawV z2⟩] w fun e w' => e = .returned (.bool (samR (plR z) (plR z2))) ∧ Below w.heap.size w w' := by
 intro m
 induction m with
 | zero => intro z hz; cases z; simp at hz
 | succ m ih =>
  intro z hz z2 w hw1 hw2
  obtain ⟨k, a, n, s, pk, ck, keys, p, c, kids⟩ := z
  obtain ⟨k', a', n', s', pk', ck', keys', p', c', kids'⟩ := z2
  obtain ⟨hb, hs1, hs2, hkid⟩ := hw1.parts
  obtain ⟨hb', hs1', hs2', hkid'⟩ := hw2.parts
  have hm : kids.length ≤ 9223372036854775807 := hb.2
  have hmk : keys.length ≤ 9223372036854775807 := hb.1
  rw [samR_mk]
  by_cases hk : k = k'
  · by_cases ha : a = a'
    · by_cases hn : n = n'
      · by_cases hs : s = s'
        · by_cases hkl : (keys.length : Int) = keys'.length
          · by_cases hzl : (kids.length : Int) = kids'.length
            · subst hk
              subst ha
              subst hn
              subst hs
              have hst : St (fun _ => False) w (fun w => IsSl w 6 p kids.length (kids.flatMap rawV)) := St.start (IsSl.bl _ _ _ _) hs2
              have hst' : St (fun _ => False) w (fun w => IsSl w 6 p' kids'.length (kids'.flatMap rawV)) := St.start (IsSl.bl _ _ _ _) hs2'
              have hsw : St (fun _ => False) w (fun w => IsSl w 2 pk keys.length (keys.flatMap wordV)) := St.start (IsSl.bl _ _ _ _) hs1
              have hsw' : St (fun _ => False) w (fun w => IsSl w 2 pk' keys'.length (keys'.flatMap wordV)) := St.start (IsSl.bl _ _ _ _) hs1'
              have hstk : ∀ x ∈ kids, St (fun _ => False) w (fun w => RawJ w x) := fun x hx => St.start (RawJ.bl _) (hkid x hx)
              have hstk' : ∀ x ∈ kids', St (fun _ => False) w (fun w => RawJ w x) := fun x hx => St.start (RawJ.bl _) (hkid' x hx)
              simp only [decide_true, Bool.true_and]
              refine sy_enter rfl rfl ?_
              simp only [initFr]
              repeat (first | refine sy_k rfl rfl ?_ | (refine gO ?_; first | refine sy_ov (ov_p rfl) rfl rfl ?_ | (refine gG ?_; (refine sy_guard_yes rfl rfl rfl rfl rfl ?_ ?_; (first | with_reducible rfl | assumption | omega | (simp <;> first | omega | assumption)))) | (refine gK ?_; refine sy_ov (ov_lens rfl) rfl rfl ?_) | (refine gL ?_; first | refine sy_ov (ov_ld 0 rfl rfl rfl) rfl rfl ?_ | refine sy_ov (ov_ld 1 rfl rfl rfl) rfl rfl ?_) | (refine sy_ov (ov_pick_f rfl rfl ?_) rfl rfl ?_; focus (with_reducible rfl)) | refine sy_ov (ov_fieldAddr rfl rfl rfl) rfl rfl ?_ | (refine sy_box rfl rfl rfl ?_; intro _)) | (refine sy_cond_f rfl ?_ ?_; (first | with_reducible rfl | assumption | omega | (simp <;> first | omega | assumption))))
              rename_i b2 b3
              refine sy_loop (α := Int) (fun i => [(2, .pointer (some ⟨b2, 0, none⟩)), (3, .pointer (some ⟨b3, 0, none⟩)), (5, .int .i64 i)]) (fun _ => [blk b3 26 (rawV (.mk k a n s pk' ck' keys' p' c' kids')), blk b2 26 (rawV (.mk k a n s pk ck keys p c kids))]) (fun i => 0 ≤ i ∧ i ≤ keys.length ∧ ∀ (j : Nat) x y, j < i.toNat → keys[j]? = some x → keys'[j]? = some y → x = y) (fun i => (keys.length - i).toNat) 0 ⟨by omega, by omega, fun j x y h => by simp at h⟩ ⟨⟨_, rfl, rfl⟩, ⟨_, rfl, rfl⟩, ⟨_, rfl, rfl⟩, trivial⟩ sr ?_
              rintro i ⟨i0, i1, hinv⟩
              by_cases hlt : i < keys.length
              · obtain ⟨x, hx⟩ : ∃ x, keys[i.toNat]? = some x := ⟨_, List.getElem?_eq_getElem (by omega)⟩
                obtain ⟨y, hy⟩ : ∃ y, keys'[i.toNat]? = some y := ⟨_, List.getElem?_eq_getElem (by omega)⟩
                obtain ⟨b, off, hp, hat⟩ := hsw.addr (by omega)
                obtain ⟨b', off', hp', hat'⟩ := hsw'.addr (by omega)
                subst hp
                subst hp'
                by_cases hxy : x = y
                · have heq : eqL (wordV x) (wordV y) = true := by rw [eqL_word]; simp [hxy]
                  repeat (first | refine sy_k rfl rfl ?_ | (refine gO ?_; first | refine sy_ov (ov_p rfl) rfl rfl ?_ | (refine gK ?_; refine sy_ov (ov_lens rfl) rfl rfl ?_) | (refine gL ?_; refine sy_ov (ov_ld 1 rfl rfl rfl) rfl rfl ?_) | refine sy_ov (ov_fieldAddr rfl rfl rfl) rfl rfl ?_) | (refine sy_cond_t rfl ?_ ?_; (first | with_reducible rfl | assumption | omega | (simp <;> first | omega | assumption))))
                  refine sy_draw 10 (by kernel_rfl) ?_
                  repeat (first | refine dr_op (ov_p rfl) rfl rfl ?_ | refine dr_op (ov_ld 1 rfl rfl rfl) rfl rfl ?_ | refine dr_op (ov_fieldAddr rfl rfl rfl) rfl rfl ?_ | (refine dr_op (ov_indexAddr rfl rfl ?_ ?_) rfl rfl ?_; omega; omega))
                  refine dr_op (ov_elem (f := wordV) hat hx rfl rfl (fun _ => rfl)) rfl rfl ?_
                  repeat (first | refine dr_op (ov_p rfl) rfl rfl ?_ | refine dr_op (ov_ld 0 rfl rfl rfl) rfl rfl ?_ | refine dr_op (ov_fieldAddr rfl rfl rfl) rfl rfl ?_ | (refine dr_op (ov_indexAddr rfl rfl ?_ ?_) rfl rfl ?_; omega; omega))
                  refine dr_op (ov_elem (f := wordV) hat' hy rfl rfl (fun _ => rfl)) rfl rfl ?_
                  repeat (refine dr_end ?_)
                  refine sy_ov (ov_nest (xs := wordV x) (ys := wordV y) rfl rfl rfl rfl) rfl rfl ?_
                  rw [heq]
                  repeat (first | refine sy_k rfl rfl ?_ | (refine gO ?_; first | refine sy_ov (ov_p rfl) rfl rfl ?_ | (refine gB ?_; (refine sy_ov (ov_ar rfl rfl rfl ?_ ?_) rfl rfl ?_; omega; omega))) | (refine sy_cond_f rfl ?_ ?_; (first | with_reducible rfl | assumption | omega | (simp <;> first | omega | assumption))))
                  refine sy_back (i + 1) ⟨by omega, by omega, ?_⟩ (by omega) ⟨⟨_, rfl, rfl⟩, ⟨_, rfl, rfl⟩, ⟨_, rfl, rfl⟩, trivial⟩ sr
                  intro j u v hj hu hv
                  by_cases hji : j < i.toNat
                  · exact hinv j u v hji hu hv
                  · have : j = i.toNat := by omega
                    subst this
                    rw [hx] at hu; rw [hy] at hv; cases hu; cases hv; exact hxy
                · have heq : eqL (wordV x) (wordV y) = false := by rw [eqL_word]; simp [hxy]
                  have hne : decide (keys = keys') = false := by
                   simp only [decide_eq_false_iff_not]
                   intro e; subst e; rw [hx] at hy; cases hy; exact hxy rfl
                  rw [hne]
                  repeat (first | refine sy_k rfl rfl ?_ | (refine gO ?_; first | refine sy_ov (ov_p rfl) rfl rfl ?_ | (refine gK ?_; refine sy_ov (ov_lens rfl) rfl rfl ?_) | (refine gL ?_; refine sy_ov (ov_ld 1 rfl rfl rfl) rfl rfl ?_) | refine sy_ov (ov_fieldAddr rfl rfl rfl) rfl rfl ?_) | (refine sy_cond_t rfl ?_ ?_; (first | with_reducible rfl | assumption | omega | (simp <;> first | omega | assumption))))
                  refine sy_draw 10 (by kernel_rfl) ?_
                  repeat (first | refine dr_op (ov_p rfl) rfl rfl ?_ | refine dr_op (ov_ld 1 rfl rfl rfl) rfl rfl ?_ | refine dr_op (ov_fieldAddr rfl rfl rfl) rfl rfl ?_ | (refine dr_op (ov_indexAddr rfl rfl ?_ ?_) rfl rfl ?_; omega; omega))
                  refine dr_op (ov_elem (f := wordV) hat hx rfl rfl (fun _ => rfl)) rfl rfl ?_
                  repeat (first | refine dr_op (ov_p rfl) rfl rfl ?_ | refine dr_op (ov_ld 0 rfl rfl rfl) rfl rfl ?_ | refine dr_op (ov_fieldAddr rfl rfl rfl) rfl rfl ?_ | (refine dr_op (ov_indexAddr rfl rfl ?_ ?_) rfl rfl ?_; omega; omega))
                  refine dr_op (ov_elem (f := wordV) hat' hy rfl rfl (fun _ => rfl)) rfl rfl ?_
                  repeat (refine dr_end ?_)
                  refine sy_ov (ov_nest (xs := wordV x) (ys := wordV y) rfl rfl rfl rfl) rfl rfl ?_
                  rw [heq]
                  repeat (first | refine sy_k rfl rfl ?_ | (refine gO ?_; refine sy_ov (ov_p rfl) rfl rfl ?_) | (refine sy_cond_t rfl ?_ ?_; (first | with_reducible rfl | assumption | omega | (simp <;> first | omega | assumption))) | refine sy_rt ?_)
                  exact ret1 rfl rfl rfl
              · have hke : keys = keys' := list_ext (by omega) fun j x y hx hy => hinv j x y (by have := (List.getElem?_eq_some_iff.1 hx).1; omega) hx hy
                rw [show decide (keys = keys') = true by simp [hke], Bool.true_and]
                repeat (first | refine sy_k rfl rfl ?_ | (refine gO ?_; first | refine sy_ov (ov_p rfl) rfl rfl ?_ | (refine gK ?_; refine sy_ov (ov_lens rfl) rfl rfl ?_) | (refine gL ?_; refine sy_ov (ov_ld 1 rfl rfl rfl) rfl rfl ?_) | refine sy_ov (ov_fieldAddr rfl rfl rfl) rfl rfl ?_) | (refine sy_cond_f rfl ?_ ?_; (first | with_reducible rfl | assumption | omega | (simp <;> first | omega | assumption))))
                refine sy_loop (α := Int) (fun i => [(2, .pointer (some ⟨b2, 0, none⟩)), (3, .pointer (some ⟨b3, 0, none⟩)), (6, .int .i64 i)]) (fun _ => [blk b3 26 (rawV (.mk k a n s pk' ck' keys' p' c' kids')), blk b2 26 (rawV (.mk k a n s pk ck keys p c kids))]) (fun i => 0 ≤ i ∧ i ≤ kids.length ∧ ∀ (j : Nat) x y, j < i.toNat → (plRs kids)[j]? = some x → (plRs kids')[j]? = some y → samR x y = true) (fun i => (kids.length - i).toNat) 0 ⟨by omega, by omega, fun j x y h => by simp at h⟩ ⟨⟨_, rfl, rfl⟩, ⟨_, rfl, rfl⟩, ⟨_, rfl, rfl⟩, trivial⟩ sr ?_
                rintro i ⟨i0, i1, hinv⟩
                by_cases hlt : i < kids.length
                · obtain ⟨x, hx⟩ : ∃ x, kids[i.toNat]? = some x := ⟨_, List.getElem?_eq_getElem (by omega)⟩
                  obtain ⟨y, hy⟩ : ∃ y, kids'[i.toNat]? = some y := ⟨_, List.getElem?_eq_getElem (by omega)⟩
                  have hxm := List.mem_of_getElem? hx
                  have hym := List.mem_of_getElem? hy
                  obtain ⟨b, off, hp, hat⟩ := hst.addr (by omega)
                  obtain ⟨b', off', hp', hat'⟩ := hst'.addr (by omega)
                  subst hp
                  subst hp'
                  have hsz := sizeR_kid (k := k) (a := a) (n := n) (s := s) (pk := pk) (ck := ck) (keys := keys) (p := some ⟨b, off, none⟩) (c := c) hxm
                  have hrec := ih x (by omega) y
                  obtain ⟨r, hr⟩ : ∃ r, samR (plR x) (plR y) = r := ⟨_, rfl⟩
                  rw [hr] at hrec
                  cases r
                  · have hne : samRs (plRs kids) (plRs kids') = false := by
                     cases hc : samRs (plRs kids) (plRs kids') with
                     | false => rfl
                     | true =>
                      have := (samRs_at (by rw [plRs_len, plRs_len]; omega)).1 hc i.toNat _ _ (plRs_at hx) (plRs_at hy)
                      rw [hr] at this; cases this
                    rw [hne]
                    repeat (first | refine sy_k rfl rfl ?_ | (refine gO ?_; first | refine sy_ov (ov_p rfl) rfl rfl ?_ | (refine gK ?_; refine sy_ov (ov_lens rfl) rfl rfl ?_) | (refine gL ?_; refine sy_ov (ov_ld 1 rfl rfl rfl) rfl rfl ?_) | refine sy_ov (ov_fieldAddr rfl rfl rfl) rfl rfl ?_) | (refine sy_cond_t rfl ?_ ?_; (first | with_reducible rfl | assumption | omega | (simp <;> first | omega | assumption))))
                    refine sy_draw 10 (by kernel_rfl) ?_
                    repeat (first | refine dr_op (ov_p rfl) rfl rfl ?_ | refine dr_op (ov_ld 1 rfl rfl rfl) rfl rfl ?_ | refine dr_op (ov_fieldAddr rfl rfl rfl) rfl rfl ?_ | (refine dr_op (ov_indexAddr rfl rfl ?_ ?_) rfl rfl ?_; omega; omega))
                    refine dr_op (ov_elem (f := rawV) hat hx rfl rfl rawV_len) rfl rfl ?_
                    repeat (first | refine dr_op (ov_p rfl) rfl rfl ?_ | refine dr_op (ov_ld 0 rfl rfl rfl) rfl rfl ?_ | refine dr_op (ov_fieldAddr rfl rfl rfl) rfl rfl ?_ | (refine dr_op (ov_indexAddr rfl rfl ?_ ?_) rfl rfl ?_; omega; omega))
                    refine dr_op (ov_elem (f := rawV) hat' hy rfl rfl rawV_len) rfl rfl ?_
                    repeat (refine dr_end ?_)
                    refine sy_ov (ov_call rfl (fun w hw => hrec w ((hstk _ hxm).at hw) ((hstk' _ hym).at hw))) rfl rfl ?_
                    repeat (first | refine sy_k rfl rfl ?_ | (refine gO ?_; refine sy_ov (ov_p rfl) rfl rfl ?_) | (refine sy_cond_t rfl ?_ ?_; (first | with_reducible rfl | assumption | omega | (simp <;> first | omega | assumption))) | refine sy_rt ?_)
                    exact ret1 rfl rfl rfl
                  · repeat (first | refine sy_k rfl rfl ?_ | (refine gO ?_; first | refine sy_ov (ov_p rfl) rfl rfl ?_ | (refine gK ?_; refine sy_ov (ov_lens rfl) rfl rfl ?_) | (refine gL ?_; refine sy_ov (ov_ld 1 rfl rfl rfl) rfl rfl ?_) | refine sy_ov (ov_fieldAddr rfl rfl rfl) rfl rfl ?_) | (refine sy_cond_t rfl ?_ ?_; (first | with_reducible rfl | assumption | omega | (simp <;> first | omega | assumption))))
                    refine sy_draw 10 (by kernel_rfl) ?_
                    repeat (first | refine dr_op (ov_p rfl) rfl rfl ?_ | refine dr_op (ov_ld 1 rfl rfl rfl) rfl rfl ?_ | refine dr_op (ov_fieldAddr rfl rfl rfl) rfl rfl ?_ | (refine dr_op (ov_indexAddr rfl rfl ?_ ?_) rfl rfl ?_; omega; omega))
                    refine dr_op (ov_elem (f := rawV) hat hx rfl rfl rawV_len) rfl rfl ?_
                    repeat (first | refine dr_op (ov_p rfl) rfl rfl ?_ | refine dr_op (ov_ld 0 rfl rfl rfl) rfl rfl ?_ | refine dr_op (ov_fieldAddr rfl rfl rfl) rfl rfl ?_ | (refine dr_op (ov_indexAddr rfl rfl ?_ ?_) rfl rfl ?_; omega; omega))
                    refine dr_op (ov_elem (f := rawV) hat' hy rfl rfl rawV_len) rfl rfl ?_
                    repeat (refine dr_end ?_)
                    refine sy_ov (ov_call rfl (fun w hw => hrec w ((hstk _ hxm).at hw) ((hstk' _ hym).at hw))) rfl rfl ?_
                    repeat (first | refine sy_k rfl rfl ?_ | (refine gO ?_; first | refine sy_ov (ov_p rfl) rfl rfl ?_ | (refine gB ?_; (refine sy_ov (ov_ar rfl rfl rfl ?_ ?_) rfl rfl ?_; omega; omega))) | (refine sy_cond_f rfl ?_ ?_; (first | with_reducible rfl | assumption | omega | (simp <;> first | omega | assumption))))
                    refine sy_back (i + 1) ⟨by omega, by omega, ?_⟩ (by omega) ⟨⟨_, rfl, rfl⟩, ⟨_, rfl, rfl⟩, ⟨_, rfl, rfl⟩, trivial⟩ sr
                    intro j u v hj hu hv
                    by_cases hji : j < i.toNat
                    · exact hinv j u v hji hu hv
                    · have : j = i.toNat := by omega
                      subst this
                      rw [plRs_at hx] at hu; rw [plRs_at hy] at hv; cases hu; cases hv; exact hr
                · have hall : samRs (plRs kids) (plRs kids') = true := (samRs_at (by rw [plRs_len, plRs_len]; omega)).2 fun j x y hx hy => hinv j x y (by have := (List.getElem?_eq_some_iff.1 hx).1; rw [plRs_len] at this; omega) hx hy
                  rw [hall]
                  repeat (first | refine sy_k rfl rfl ?_ | (refine gO ?_; first | refine sy_ov (ov_p rfl) rfl rfl ?_ | (refine gK ?_; refine sy_ov (ov_lens rfl) rfl rfl ?_) | (refine gL ?_; refine sy_ov (ov_ld 1 rfl rfl rfl) rfl rfl ?_) | refine sy_ov (ov_fieldAddr rfl rfl rfl) rfl rfl ?_) | (refine sy_cond_f rfl ?_ ?_; (first | with_reducible rfl | assumption | omega | (simp <;> first | omega | assumption))) | refine sy_rt ?_)
                  exact ret1 rfl rfl rfl
            · have hf : samRs (plRs kids) (plRs kids') = false := by
               cases hc : samRs (plRs kids) (plRs kids') with
               | false => rfl
               | true => exfalso; have := samRs_len hc; rw [plRs_len, plRs_len] at this; omega
              rw [hf, Bool.and_false]
              refine sy_enter rfl rfl ?_
              simp only [initFr]
              repeat (first | refine sy_k rfl rfl ?_ | (refine gO ?_; first | refine sy_ov (ov_p rfl) rfl rfl ?_ | (refine gG ?_; (refine sy_guard_yes rfl rfl rfl rfl rfl ?_ ?_; (first | with_reducible rfl | assumption | omega | (simp <;> first | omega | assumption)))) | (refine gK ?_; refine sy_ov (ov_lens rfl) rfl rfl ?_) | (refine gL ?_; first | refine sy_ov (ov_ld 0 rfl rfl rfl) rfl rfl ?_ | refine sy_ov (ov_ld 1 rfl rfl rfl) rfl rfl ?_) | (refine sy_ov (ov_pick_f rfl rfl ?_) rfl rfl ?_; focus (with_reducible rfl)) | refine sy_ov (ov_fieldAddr rfl rfl rfl) rfl rfl ?_ | (refine sy_box rfl rfl rfl ?_; intro _)) | (refine sy_cond_t rfl ?_ ?_; (first | with_reducible rfl | assumption | omega | (simp <;> first | omega | assumption))) | refine sy_rt ?_)
              exact ret1 rfl rfl (by first | rfl | simp_all)
          · have hf : decide (keys = keys') = false := by simp only [decide_eq_false_iff_not]; intro e; subst e; exact hkl rfl
            rw [hf, Bool.and_false, Bool.false_and]
            refine sy_enter rfl rfl ?_
            simp only [initFr]
            repeat (first | refine sy_k rfl rfl ?_ | (refine gO ?_; first | refine sy_ov (ov_p rfl) rfl rfl ?_ | (refine gG ?_; first | (refine sy_guard_yes rfl rfl rfl rfl rfl ?_ ?_; (first | with_reducible rfl | assumption | omega | (simp <;> first | omega | assumption))) | (refine sy_guard_no rfl rfl rfl rfl rfl ?_ ?_; (first | with_reducible rfl | assumption | omega | (simp <;> first | omega | assumption)))) | (refine gK ?_; refine sy_ov (ov_lens rfl) rfl rfl ?_) | (refine gL ?_; first | refine sy_ov (ov_ld 0 rfl rfl rfl) rfl rfl ?_ | refine sy_ov (ov_ld 1 rfl rfl rfl) rfl rfl ?_) | (refine sy_ov (ov_pick_f rfl rfl ?_) rfl rfl ?_; focus (with_reducible rfl)) | refine sy_ov (ov_pick rfl rfl rfl) rfl rfl ?_ | refine sy_ov (ov_fieldAddr rfl rfl rfl) rfl rfl ?_ | (refine sy_box rfl rfl rfl ?_; intro _)) | (refine sy_cond_t rfl ?_ ?_; (first | with_reducible rfl | assumption | omega | (simp <;> first | omega | assumption))) | refine sy_rt ?_)
            exact ret1 rfl rfl (by first | rfl | simp_all)
        · rw [show decide (s = s') = false by simp [hs], Bool.and_false, Bool.false_and, Bool.false_and]
          refine sy_enter rfl rfl ?_
          simp only [initFr]
          repeat (first | refine sy_k rfl rfl ?_ | (refine gO ?_; first | refine sy_ov (ov_p rfl) rfl rfl ?_ | (refine gG ?_; first | (refine sy_guard_yes rfl rfl rfl rfl rfl ?_ ?_; (first | with_reducible rfl | assumption | omega | (simp <;> first | omega | assumption))) | (refine sy_guard_no rfl rfl rfl rfl rfl ?_ ?_; (first | with_reducible rfl | assumption | omega | (simp <;> first | omega | assumption)))) | (refine gL ?_; first | refine sy_ov (ov_ld 0 rfl rfl rfl) rfl rfl ?_ | refine sy_ov (ov_ld 1 rfl rfl rfl) rfl rfl ?_) | (refine sy_ov (ov_pick_f rfl rfl ?_) rfl rfl ?_; focus (with_reducible rfl)) | refine sy_ov (ov_pick rfl rfl rfl) rfl rfl ?_ | refine sy_ov (ov_fieldAddr rfl rfl rfl) rfl rfl ?_ | (refine sy_box rfl rfl rfl ?_; intro _)) | (refine sy_cond_t rfl ?_ ?_; (first | with_reducible rfl | assumption | omega | (simp <;> first | omega | assumption))) | refine sy_rt ?_)
          exact ret1 rfl rfl (by first | rfl | simp_all)
      · rw [show decide (n = n') = false by simp [hn], Bool.and_false, Bool.false_and, Bool.false_and, Bool.false_and]
        refine sy_enter rfl rfl ?_
        simp only [initFr]
        repeat (first | refine sy_k rfl rfl ?_ | (refine gO ?_; first | refine sy_ov (ov_p rfl) rfl rfl ?_ | (refine gG ?_; first | (refine sy_guard_yes rfl rfl rfl rfl rfl ?_ ?_; (first | with_reducible rfl | assumption | omega | (simp <;> first | omega | assumption))) | (refine sy_guard_no rfl rfl rfl rfl rfl ?_ ?_; (first | with_reducible rfl | assumption | omega | (simp <;> first | omega | assumption)))) | (refine gL ?_; first | refine sy_ov (ov_ld 0 rfl rfl rfl) rfl rfl ?_ | refine sy_ov (ov_ld 1 rfl rfl rfl) rfl rfl ?_) | (refine sy_ov (ov_pick_f rfl rfl ?_) rfl rfl ?_; focus (with_reducible rfl)) | refine sy_ov (ov_pick rfl rfl rfl) rfl rfl ?_ | refine sy_ov (ov_fieldAddr rfl rfl rfl) rfl rfl ?_ | (refine sy_box rfl rfl rfl ?_; intro _)) | (refine sy_cond_t rfl ?_ ?_; (first | with_reducible rfl | assumption | omega | (simp <;> first | omega | assumption))) | refine sy_rt ?_)
        exact ret1 rfl rfl (by first | rfl | simp_all)
    · rw [show decide (a = a') = false by simp [ha], Bool.and_false, Bool.false_and, Bool.false_and, Bool.false_and, Bool.false_and]
      refine sy_enter rfl rfl ?_
      simp only [initFr]
      repeat (first | refine sy_k rfl rfl ?_ | (refine gO ?_; first | refine sy_ov (ov_p rfl) rfl rfl ?_ | (refine gG ?_; first | (refine sy_guard_yes rfl rfl rfl rfl rfl ?_ ?_; (first | with_reducible rfl | assumption | omega | (simp <;> first | omega | assumption))) | (refine sy_guard_no rfl rfl rfl rfl rfl ?_ ?_; (first | with_reducible rfl | assumption | omega | (simp <;> first | omega | assumption)))) | (refine gL ?_; first | refine sy_ov (ov_ld 0 rfl rfl rfl) rfl rfl ?_ | refine sy_ov (ov_ld 1 rfl rfl rfl) rfl rfl ?_) | (refine sy_ov (ov_pick_f rfl rfl ?_) rfl rfl ?_; focus (with_reducible rfl)) | refine sy_ov (ov_pick rfl rfl rfl) rfl rfl ?_ | refine sy_ov (ov_fieldAddr rfl rfl rfl) rfl rfl ?_ | (refine sy_box rfl rfl rfl ?_; intro _)) | (refine sy_cond_t rfl ?_ ?_; (first | with_reducible rfl | assumption | omega | (simp <;> first | omega | assumption))) | refine sy_rt ?_)
      exact ret1 rfl rfl (by first | rfl | simp_all)
  · rw [show decide (k = k') = false by simp [hk], Bool.false_and, Bool.false_and, Bool.false_and, Bool.false_and, Bool.false_and]
    refine sy_enter rfl rfl ?_
    simp only [initFr]
    repeat (first | refine sy_k rfl rfl ?_ | (refine gO ?_; first | refine sy_ov (ov_p rfl) rfl rfl ?_ | (refine gG ?_; (refine sy_guard_no rfl rfl rfl rfl rfl ?_ ?_; (first | with_reducible rfl | assumption | omega | (simp <;> first | omega | assumption)))) | (refine gL ?_; first | refine sy_ov (ov_ld 0 rfl rfl rfl) rfl rfl ?_ | refine sy_ov (ov_ld 1 rfl rfl rfl) rfl rfl ?_) | refine sy_ov (ov_pick rfl rfl rfl) rfl rfl ?_ | refine sy_ov (ov_fieldAddr rfl rfl rfl) rfl rfl ?_ | (refine sy_box rfl rfl rfl ?_; intro _)) | (refine sy_cond_t rfl ?_ ?_; (first | with_reducible rfl | assumption | omega | (simp <;> first | omega | assumption))) | refine sy_rt ?_)
    exact ret1 rfl rfl (by first | rfl | simp_all)
end Go.Proofs.YtldjakeigjngoaaGreat
/- New values that a callee makes out of memory that was there before; how great the rows of a value are. -/
namespace Go.Proofs.YtldjakeigjngoaaGreat
open Go.RowKit Go.Deep
inductive SzR : RawA → Prop where
 | mk (k a n : Int) (s : List UInt8) (pk : Option Addr) (ck : Nat) (keys : List WordT) (p : Option Addr) (c : Nat) (kids : List RawA)
  (h1 : keys.length * 24 ≤ 140737488351232) (h2 : kids.length * 88 ≤ 140737488351232) (h3 : ∀ x ∈ kids, SzR x) : SzR (.mk k a n s pk ck keys p c kids)
theorem SzR.parts {k a n : Int} {s : List UInt8} {pk : Option Addr} {ck : Nat} {keys : List WordT} {p : Option Addr} {c : Nat} {kids : List RawA} (h : SzR (.mk k a n s pk ck keys p c kids)) :
 keys.length * 24 ≤ 140737488351232 ∧ kids.length * 88 ≤ 140737488351232 ∧ ∀ x ∈ kids, SzR x := by
 cases h with
 | mk _ _ _ _ _ _ _ _ _ _ h1 h2 h3 => exact ⟨h1, h2, h3⟩
def PostN (w : World) (R : Value → List En → Prop) (x : Ending) (w' : World) : Prop := ∃ v es', R v es' ∧ x = .returned v ∧ HpOk (fun _ => False) w es' w'
theorem domL_nil : domL [] = fun _ => False := by funext b; simp [domL]
section
variable {P : Program} {C : Cx} {k : List It} {fr : Fr} {hp : List En} {all : Array Oper} {l : List Oper} {dst : Option Tmp} {ty : TypeId} {pos : String} {aft : Array Edge} {g : Option (Nat × Bool)}
theorem sy_callN {f : FuncId} {fn : Func} [hfn : FN P f fn] {args : List Operand} {ats : Array TypeId} {vs : List Value} {R : Value → List En → Prop} (hx : evs fr args = some vs) (hf : Fits C.n dst)
 (hc : ∀ w, HpOk C.D C.w0 hp w → Calls P f vs.toArray w (PostN w R)) (hk : ∀ v es', R v es' → Sy P C (.o all l :: k) (put dst v fr) (es' ++ hp)) : Sy P C (.o all (⟨dst, .call ⟨.value (.func f), ⟨args⟩, ats⟩, ty, pos, aft, none⟩ :: l) :: k) fr hp := by
 exact sy_callw hx hf (R := fun x w' => ∃ w, HpOk C.D C.w0 hp w ∧ PostN w R x w')
  (fun w hw => (hc w hw).mono fun x w' h => ⟨w, hw, h⟩)
  fun _ w' _ x ⟨w, hw, v, es', hR, hx', hh⟩ => ⟨v, _, hx', HpOk.callE (es := []) hw (by rw [domL_nil]; exact hh), hk v es' hR⟩
end
section
variable {H : Type} {P : Program}
end
section
variable {H : Type} {enc : TypeId × Value → H} {P : Program} {w : World} {base : Nat} {spare : Nat → Bool} {held : Bool}
end
section
variable {H : Type} {enc : TypeId × Value → H} {w : World} {base : Nat} {spare : Nat → Bool} {held : Bool}
end
end Go.Proofs.YtldjakeigjngoaaGreat