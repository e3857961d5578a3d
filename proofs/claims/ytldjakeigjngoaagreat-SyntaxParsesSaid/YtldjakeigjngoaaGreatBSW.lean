/- BSW: texts of this proof, joined by program: PlainSynT, PlainSynS, PlainSynU. -/
import Derived.Test.YtldjakeigjngoaaGreatBSA
import Derived.Test.YtldjakeigjngoaaGreatBSQ
set_option linter.unusedVariables false
set_option linter.unusedSimpArgs false
namespace Go.Proofs.YtldjakeigjngoaaGreat
open Go.RowKit Bf
section
variable {l : List TokT} {c : CurT} (hl : TokOk l)
theorem wrong_ne (he : c.e = 0) : (wrongT l c).e ≠ 0 := by
 unfold wrongT failT failAtT
 rw [if_pos ⟨he, by split <;> decide⟩]
 simp only; split <;> decide
include hl in
theorem nam_mark (hc : CurOk l c) {t : List UInt8} (hb : isT l (namCu l c) 4 t = true) : c.e = 0 ∧ (nextT l (namCu l c)).i = c.i + 2 ∧ CurOk l (nextT l (namCu l c)) ∧ (nextT l (namCu l c)).e = 0 ∧ (nextT l (namCu l c)).d = c.d := by
 have a1 := Adv.nam hl hc
 obtain ⟨e1, en, _⟩ := next_lt hl a1.ok hb (by decide)
 have e0 : c.e = 0 := by
  apply Classical.byContradiction; intro hn
  rw [a1.bad hn] at e1; exact hn e1
 have a2 := Adv.next hl a1.ok
 have ht : takT l c 1 = true := by
  apply Classical.byContradiction; intro hx
  unfold namCu at e1; rw [if_neg hx] at e1
  exact wrong_ne e0 e1
 have hn : namCu l c = nextT l c := by unfold namCu; rw [if_pos ht]
 have h0 : (peekT l c).1 ≠ 0 := by
  unfold takT at ht
  simp only [Bool.and_eq_true, Bool.not_eq_true', decide_eq_false_iff_not, decide_eq_true_eq] at ht
  exact ht.1
 have hi : (namCu l c).i = c.i + 1 := by rw [hn]; unfold nextT; rw [if_neg h0]
 rw [en]
 refine ⟨e0, by simp only; omega, by rw [← en]; exact a2.ok, e1, a1.d⟩
include hl in
theorem chnGo_len : ∀ (n : Nat) {c : CurT} (lo : WordT) (y : List (WordT × WordT)), CurOk l c → ((chnGo l n c lo y).1.length : Int) + c.i ≤ y.length + 1 + (chnGo l n c lo y).2.i := by
 intro n
 induction n with
 | zero => intro c lo y hc; unfold chnGo; simp only; omega
 | succ n ih =>
  intro c lo y hc
  have a1 := (Adv.nam hl hc).i
  unfold chnGo
  split
  · rename_i hb
    obtain ⟨_, hi, hok, _, _⟩ := nam_mark hl hc hb
    have := ih (namW l c) (y ++ [(lo, namW l c)]) hok
    simp only [lX] at this
    omega
  · simp only [lX]; omega
include hl in
theorem chn_len (hc : CurOk l c) : ((chnP l c).1.length : Int) + c.i ≤ 1 + (chnP l c).2.i := by
 unfold chnP
 have a1 := Adv.nam hl hc
 have a2 := a1.trans (Adv.need hl a1.ok [60] (by simp))
 have := chnGo_len hl (l.length + 1) (namW l c) [] a2.ok
 have := a2.i
 simp only [List.length_nil] at *
 omega
end
section
variable {l : List TokT} {c : CurT} {x : PS} (hl : TokOk l)
include hl in
theorem chnGo_rel : ∀ (n m : Nat) {c : CurT} {x : PS} (lo : WordT) (y pre : List (WordT × WordT)), CurOk l c → Rl l c x → (c.e = 0 → l.length ≤ c.i.toNat + n ∧ l.length ≤ c.i.toNat + m) → 1 ≤ n → 1 ≤ m → Rl l (chnGo l n c lo y).2 (qchnGo m x lo (pre ++ y)).2 ∧ (qchnGo m x lo (pre ++ y)).1 = pre ++ (chnGo l n c lo y).1 := by
 intro n
 induction n with
 | zero => intro m c x lo y pre _ _ _ h; omega
 | succ n ih =>
  intro m c x lo y pre hc h hf _ hm
  obtain ⟨m, rfl⟩ : ∃ k, m = k + 1 := ⟨m - 1, by omega⟩
  have a1 := Adv.nam hl hc
  have h1 := h.any1 hc
  unfold chnGo qchnGo
  rw [h1.mayB a1.ok, h.qW hc]
  by_cases hb : isT l (namCu l c) 4 [60] = true
  · rw [if_pos hb, if_pos hb]
    obtain ⟨e0, hi, hok, he, _⟩ := nam_mark hl hc hb
    have h2 := h1.adv a1.ok (peek_ne (by decide) hb).1
    have := hf e0
    have i0 := hc.i0
    have i1 := hok.i1
    rw [show pre ++ y ++ [(lo, namW l c)] = pre ++ (y ++ [(lo, namW l c)]) by simp]
    refine ih m _ _ _ hok h2 (fun _ => by omega) (by omega) (by omega)
  · rw [if_neg hb, if_neg hb]
    exact ⟨h1, by simp⟩
include hl in
theorem Rl.chn (h : Rl l c x) (hc : CurOk l c) (y : List (WordT × WordT)) : Rl l (chnP l c).2 (qchn x y).2 ∧ (qchn x y).1 = y ++ (chnP l c).1 := by
 unfold chnP qchn
 have a1 := Adv.nam hl hc
 have a2 := Adv.need hl a1.ok [60] (by simp)
 have h2 := (h.any1 hc).must a1.ok [60]
 rw [h.qW hc]
 have := chnGo_rel hl (l.length + 1) (x.l.length + 1) (namW l c) [] y a2.ok h2 (fun he => by
  have e0 := (a1.trans a2).good he
  have := h.len e0
  have := (a1.trans a2).i
  have := hc.i0
  omega) (by omega) (by omega)
 simpa using this
include hl in
theorem ord_rel : ∀ (n m : Nat) {c : CurT} {x : PS} (y : List (WordT × WordT)), CurOk l c → Rl l c x →
 (c.e = 0 → l.length < c.i.toNat + n ∧ l.length < c.i.toNat + m) → (c.e ≠ 0 → 1 ≤ n ∧ 1 ≤ m) → Rv l (lstGo l (addC l) [125] n c y) (qordGo m x y) := by
 intro n
 induction n with
 | zero =>
  intro m c x y hc h hf hg
  by_cases he : c.e = 0
  · have := (hf he).1; have := hc.i1; have := hc.i0; omega
  · have := (hg he).1; omega
 | succ n ih =>
  intro m c x y hc h hf hg
  cases m with
  | zero =>
   by_cases he : c.e = 0
   · have := (hf he).2; have := hc.i1; have := hc.i0; omega
   · have := (hg he).2; omega
  | succ m =>
   unfold lstGo qordGo
   by_cases he : c.e = 0
   · rw [if_neg (show ¬ c.e ≠ 0 from fun hn => hn he), if_neg (show ¬ x.e ≠ 0 from fun hn => hn (h.e0 he))]
     obtain ⟨h1, v1⟩ := h.chn hl hc y
     have a1 := Adv.chn hl hc
     show Rv l (if isT l (chnP l c).2 4 [125] = true then (y ++ (chnP l c).1, nextT l (chnP l c).2) else lstGo l (addC l) [125] n (needT l (chnP l c).2 [44]) (y ++ (chnP l c).1)) _
     rw [h1.mayB a1.ok, v1]
     by_cases hb : isT l (chnP l c).2 4 [125] = true
     · rw [if_pos hb, if_pos hb]
       exact ⟨h1.adv a1.ok (peek_ne (by decide) hb).1, fun _ => rfl⟩
     · rw [if_neg hb, if_neg hb]
       have h2 := h1.must a1.ok [44]
       have a2 := Adv.need hl a1.ok [44] (by simp)
       by_cases he2 : (needT l (chnP l c).2 [44]).e = 0
       · have hm : isT l (chnP l c).2 4 [44] = true := by
          apply Classical.byContradiction; intro hn
          unfold needT at he2
          rw [if_neg hn] at he2
          have hf0 : (chnP l c).2.e = 0 := by
           apply Classical.byContradiction; intro hx
           unfold failT failAtT at he2; rw [if_neg (fun h => hx h.1)] at he2; exact hx he2
          unfold failT failAtT at he2
          rw [if_pos ⟨hf0, by split <;> decide⟩] at he2
          simp only at he2
          split at he2 <;> omega
         obtain ⟨_, en, _⟩ := next_lt hl a1.ok hm (by decide)
         have e1 : needT l (chnP l c).2 [44] = ⟨(chnP l c).2.i + 1, (chnP l c).2.d, (chnP l c).2.e, (chnP l c).2.a⟩ := by unfold needT; rw [if_pos hm, en]
         refine ih m _ a2.ok h2 (fun _ => ?_) (fun hn => absurd he2 hn)
         have hi := a1.i
         have := hf he
         have := hc.i0
         rw [e1]
         simp only
         omega
       · have hlg : ∀ n y, lstGo l (addC l) [125] n (needT l (chnP l c).2 [44]) y = (y, needT l (chnP l c).2 [44]) := by
          intro n y; cases n with
          | zero => rfl
          | succ n => unfold lstGo; rw [if_pos he2]
         have hqg : ∀ n z, qordGo n ((qchn x y).2.must [44]) z = ([], (qchn x y).2.must [44]) := by
          intro n z; cases n with
          | zero => rfl
          | succ n => unfold qordGo; rw [if_pos (h2.e1 he2)]
         rw [hlg, hqg]
         exact ⟨h2, fun hn => absurd hn he2⟩
   · rw [if_pos he, if_pos (h.e1 he)]
     exact ⟨h, fun hn => absurd hn he⟩
include hl in
theorem Rl.ord (h : Rl l c x) (hc : CurOk l c) : Rv l (ordP l c) (qord x) := by
 unfold ordP qord
 rw [h.isB hc (by decide)]
 by_cases hw : isT l c 1 wOrder = true
 · rw [if_pos hw, if_pos hw]
   have a1 := Adv.next hl hc
   have h1 := h.adv hc (peek_ne (by decide) hw).1
   have a2 := Adv.need hl a1.ok [123] (by simp)
   have h2 := h1.must a1.ok [123]
   unfold lstP qordB
   rw [h2.mayB a2.ok]
   by_cases hb : isT l (needT l (nextT l c) [123]) 4 [125] = true
   · rw [if_pos ⟨rfl, hb⟩, if_pos hb]
     exact ⟨h2.adv a2.ok (peek_ne (by decide) hb).1, fun _ => rfl⟩
   · rw [if_neg (fun hn => hb hn.2), if_neg hb]
     refine ord_rel hl _ _ _ a2.ok h2 (fun he => ?_) (fun _ => ⟨by omega, by omega⟩)
     have := h2.len he
     have := a2.ok.i0; have := a2.ok.i1
     omega
 · rw [if_neg hw, if_neg hw]
   exact ⟨h, fun _ => rfl⟩
include hl in
theorem typs_rel : ∀ (n m : Nat) {c : CurT} {x : PS} (y z : List (WordT × TypP)), CurOk l c → c.d = 0 → Rl l c x → (c.e = 0 → y = z) →
 (c.e = 0 → l.length ≤ c.i.toNat + n ∧ l.length ≤ c.i.toNat + m) → Rv l (typsGo l n c y) (qtypsGo m x z) := by
 intro n
 induction n with
 | zero =>
  intro m c x y z hc hd h hy hf
  have he : c.e ≠ 0 := fun he => by have := (hf he).1; have := hc.i1; have := hc.i0; omega
  cases m with
  | zero => exact ⟨h, hy⟩
  | succ m =>
   unfold typsGo qtypsGo
   rw [if_neg (by unfold PS.isB; simp [h.e1 he])]
   exact ⟨h, hy⟩
 | succ n ih =>
  intro m c x y z hc hd h hy hf
  cases m with
  | zero =>
   have he : c.e ≠ 0 := fun he => by have := (hf he).2; have := hc.i1; have := hc.i0; omega
   unfold typsGo qtypsGo
   rw [if_neg (by rw [← h.isB hc (by decide)]; unfold PS.isB; simp [h.e1 he])]
   exact ⟨h, hy⟩
  | succ m =>
   unfold typsGo qtypsGo
   rw [h.isB hc (by decide)]
   by_cases hb : isT l c 1 wType = true
   · rw [if_pos hb, if_pos hb]
     obtain ⟨e0, en, _⟩ := next_lt hl hc hb (by decide)
     have a1 := Adv.next hl hc
     have h1 := h.adv hc (peek_ne (by decide) hb).1
     have a2 := a1.trans (Adv.nam hl a1.ok)
     have h2 := h1.any1 a1.ok
     have a3 := a2.trans (Adv.need hl a2.ok [61] (by simp))
     have h3 := h2.must a2.ok [61]
     obtain ⟨h4, v4⟩ := knd_rel hl 24 0 (by omega) _ _ a3.ok (a3.d.trans hd) h3
     have a4 := a3.trans (knd_adv hl 24 0 (by omega) _ a3.ok (a3.d.trans hd))
     simp only
     rw [h1.qW a1.ok]
     refine ih m _ _ a4.ok (a4.d.trans hd) h4 (fun he => by rw [v4 he, hy e0]) (fun he => ?_)
     have := hf e0
     have i1 := (Adv.nam hl a1.ok).i
     have i2 := (Adv.need hl a2.ok [61] (by simp)).i
     have i3 := (knd_adv hl 24 0 (by omega) _ a3.ok (a3.d.trans hd)).i
     have i4 : (nextT l c).i = c.i + 1 := by rw [en]
     have := hc.i0
     omega
   · rw [if_neg hb, if_neg hb]
     exact ⟨h, hy⟩
include hl in
theorem Rl.sch (h : Rl l c x) (hc : CurOk l c) (hd : c.d = 0) : Rv l (schP l c) (qsch x) := by
 have a1 := Adv.kw hl hc wLevels
 have h1 := h.needK hc wLevels
 have a2 := a1.trans (Adv.need hl a1.ok [123] (by simp))
 have h2 := h1.must a1.ok [123]
 obtain ⟨h3, v3⟩ := h2.nams hl a2.ok [125]
 have b3 := Adv.nams hl a2.ok [125]
 have a3 := a2.trans b3
 obtain ⟨h4, v4⟩ := h3.ord hl a3.ok
 have b4 := Adv.ord hl a3.ok
 have a4 := a3.trans b4
 obtain ⟨h5, v5⟩ := typs_rel hl (l.length + 1) (x.l.length + 1) [] [] a4.ok (a4.d.trans hd) h4 (fun _ => rfl) (fun he => by
  have e0 := a4.good he
  have := h.len e0
  have := a4.i
  have := hc.i0
  omega)
 have b5 := typsGo_adv hl (l.length + 1) a4.ok (a4.d.trans hd) []
 have a5 := a4.trans b5
 have b6 := Adv.kw hl a5.ok wRoot
 have a6 := a5.trans b6
 have h6 := h5.needK a5.ok wRoot
 obtain ⟨h7, v7⟩ := knd_rel hl 24 0 (by omega) _ _ a6.ok (a6.d.trans hd) h6
 have b7 := knd_adv hl 24 0 (by omega) _ a6.ok (a6.d.trans hd)
 refine ⟨h7, fun he => ?_⟩
 have e6 := b7.good he
 have e5 := b6.good e6
 have e4 := b5.good e5
 have e3 := b4.good e4
 show SchP.mk _ _ _ _ = SchP.mk _ _ _ _
 rw [v3 e3, v4 e4, v5 e5, v7 he]
end
theorem isB_hd {x : PS} {k : Int} {t : List UInt8} (h : x.isB k t = true) : x.e = 0 ∧ (hdT x.l).1 = k ∧ (hdT x.l).2.2.2.1 = t := by
 unfold PS.isB at h; simpa only [Bool.and_eq_true, decide_eq_true_eq] using h
theorem adv_len (x : PS) : x.adv.l.length = x.l.length - 1 := by simp [PS.adv]
section
variable {x y : PS}
theorem QA.chnGo : ∀ (n : Nat) {x : PS} (_ : x.Ok) (lo : WordT) (y : List (WordT × WordT)), QA x (qchnGo n x lo y).2
 | 0, x, h, lo, y => .refl h
 | n + 1, x, h, lo, y => by
  have h1 := QA.any h (by decide : (1 : Int) ≠ 0)
  unfold qchnGo; split
  · rename_i hb
    have h2 := h1.trans (.adv h1.ok hb)
    exact h2.trans (QA.chnGo n h2.ok _ _)
  · exact h1
theorem QA.chn0 (h : x.Ok) : QA x ((x.any 1).must [60]) := by
 have h1 := QA.any h (by decide : (1 : Int) ≠ 0)
 exact h1.trans (.must h1.ok _)
theorem QA.chn (h : x.Ok) (y : List (WordT × WordT)) : QA x (qchn x y).2 := by
 have h1 := QA.chn0 h
 exact h1.trans (.chnGo _ h1.ok _ _)
theorem QA.ordGo : ∀ (n : Nat) {x : PS} (_ : x.Ok) (y : List (WordT × WordT)), QA x (qordGo n x y).2
 | 0, x, h, y => .refl h
 | n + 1, x, h, y => by
  have h1 := QA.chn h y
  unfold qordGo; split
  · exact .refl h
  split
  · rename_i hb; exact h1.trans (.adv h1.ok hb)
  · have h2 := h1.trans (QA.must h1.ok [44])
    exact h2.trans (QA.ordGo n h2.ok _)
theorem QA.ordB (h : x.Ok) : QA x (qordB x).2 := by
 unfold qordB; split
 · rename_i hb; exact .adv h hb
 · exact .ordGo _ h _
theorem QA.advB (h : x.Ok) {t : List UInt8} (hb : x.isB 1 t = true) : QA x x.adv := .advK h (by rw [(isB_hd hb).2.1]; decide)
theorem QA.ord (h : x.Ok) : QA x (qord x).2 := by
 unfold qord; split
 · rename_i hb
   have h1 := QA.advB h hb
   have h2 := h1.trans (QA.must h1.ok [123])
   exact h2.trans (.ordB h2.ok)
 · exact .refl h
theorem QA.typ0 (h : x.Ok) (hb : x.isB 1 wType = true) : QA x ((x.adv.any 1).must [61]) := by
 have h1 := QA.advB h hb
 have h2 := h1.trans (.any h1.ok (by decide : (1 : Int) ≠ 0))
 exact h2.trans (.must h2.ok [61])
theorem QA.typsGo : ∀ (n : Nat) {x : PS} (_ : x.Ok) (y : List (WordT × TypP)), QA x (qtypsGo n x y).2
 | 0, x, h, y => .refl h
 | n + 1, x, h, y => by
  unfold qtypsGo; split
  · rename_i hb
    have h1 := QA.typ0 h hb
    have h2 := h1.trans (QA.knd 24 _ h1.ok)
    exact h2.trans (QA.typsGo n h2.ok _)
  · exact .refl h
theorem QA.sch (h : x.Ok) : QA x (qsch x).2 := by
 have h1 := QA.needK h (by decide : (1 : Int) ≠ 0) wLevels
 have h2 := h1.trans (QA.must h1.ok [123])
 have h3 := h2.trans (QA.nams h2.ok [125])
 have h4 := h3.trans (QA.ord h3.ok)
 have h5 := h4.trans (QA.typsGo (x.l.length + 1) h4.ok [])
 have h6 := h5.trans (QA.needK h5.ok (by decide : (1 : Int) ≠ 0) wRoot)
 exact h6.trans (QA.knd 24 _ h6.ok)
theorem chnGo_more {x : PS} (h : x.Ok) {n : Nat} (hb : (x.any 1).mayB [60] = true) (lo : WordT) (y : List (WordT × WordT)) : qchnGo (n + 1) x lo y = qchnGo n (x.any 1).adv (qW x) (y ++ [(lo, qW x)]) ∧ (x.any 1).adv.l.length < x.l.length := by
 refine ⟨by conv => lhs; unfold qchnGo
            rw [if_pos hb], ?_⟩
 have h1 := QA.any h (by decide : (1 : Int) ≠ 0)
 have := h1.ok.ne
 have := h1.len
 rw [adv_len]; omega
theorem chnGo_over {x : PS} {n : Nat} (hb : (x.any 1).mayB [60] = false) (lo : WordT) (y : List (WordT × WordT)) : qchnGo (n + 1) x lo y = (y ++ [(lo, qW x)], x.any 1) := by
 conv => lhs; unfold qchnGo
 rw [if_neg (by rw [hb]; decide)]
end
structure QoI (x0 : PS) (R : List (WordT × WordT) × PS) (x : PS) (ys : List (WordT × WordT)) : Prop where
 qa : QA x0 x
 len : x.e = 0 → ys.length + x.l.length ≤ x0.l.length
 go : ∃ n, (x.e = 0 → x.l.length < n) ∧ (x.e ≠ 0 → 1 ≤ n) ∧ qordGo n x ys = R
def qoM (x : PS) : Nat := if x.e = 0 then x.l.length + 1 else 0
section
variable {x0 : PS} {R : List (WordT × WordT) × PS} {x : PS} {ys : List (WordT × WordT)}
theorem must_goodO {x : PS} {t : List UInt8} (h : (x.must t).e = 0) : x.must t = x.adv ∧ x.e = 0 := by
 unfold PS.must at h ⊢
 by_cases hb : x.mayB t = true
 · rw [if_pos hb]; exact ⟨rfl, (PS.mayB_hd hb).1⟩
 · rw [if_neg hb] at h
   exfalso
   by_cases he : x.e = 0
   · exact (odd_bad he).1 h
   · rw [odd_same he] at h; exact he h
theorem QoI.bad (h : QoI x0 R x ys) (he : x.e ≠ 0) : R = ([], x) := by
 obtain ⟨n, _, hn, hr⟩ := h.go
 obtain ⟨n, rfl⟩ : ∃ k, n = k + 1 := ⟨n - 1, by have := hn he; omega⟩
 rw [← hr]; unfold qordGo; rw [if_pos he]
theorem QoI.over (h : QoI x0 R x ys) (he : x.e = 0) (hb : (qchn x ys).2.mayB [125] = true) : R = ((qchn x ys).1, (qchn x ys).2.adv) := by
 obtain ⟨n, hn, _, hr⟩ := h.go
 obtain ⟨n, rfl⟩ : ∃ k, n = k + 1 := ⟨n - 1, by have := hn he; omega⟩
 rw [← hr]; unfold qordGo; rw [if_neg (show ¬ x.e ≠ 0 from fun h => h he), if_pos hb]
theorem QoI.next (h : QoI x0 R x ys) (he : x.e = 0) (hl : (qchn x ys).1.length + (qchn x ys).2.l.length ≤ x0.l.length + 1) (hb : (qchn x ys).2.mayB [125] = false) : QoI x0 R ((qchn x ys).2.must [44]) (qchn x ys).1 ∧ qoM ((qchn x ys).2.must [44]) < qoM x := by
 obtain ⟨n, hn, _, hr⟩ := h.go
 have ha := QA.chn h.qa.ok ys
 have a2 := ha.trans (QA.must ha.ok [44])
 have hal := ha.len
 have hp := ha.ok.ne
 have hn' := hn he
 obtain ⟨n, rfl⟩ : ∃ k, n = k + 1 := ⟨n - 1, by omega⟩
 have hr' : qordGo n ((qchn x ys).2.must [44]) (qchn x ys).1 = R := by
  rw [← hr]; conv => rhs; unfold qordGo
  rw [if_neg (show ¬ x.e ≠ 0 from fun h => h he), if_neg (by rw [hb]; decide)]
 have hg : ((qchn x ys).2.must [44]).e = 0 → ((qchn x ys).2.must [44]).l.length = (qchn x ys).2.l.length - 1 := fun h => by
  rw [(must_goodO h).1, adv_len]
 refine ⟨⟨h.qa.trans a2, fun h0 => ?_, n, fun h0 => ?_, fun _ => ?_, hr'⟩, ?_⟩
 · have := hg h0; omega
 · have := hg h0; omega
 · have := h.qa.ok.ne; omega
 · unfold qoM
   rw [if_pos he]
   split
   · rename_i h0; have := hg h0; omega
   · omega
theorem QoI.start {x : PS} (hx : x.Ok) : QoI x (qordGo (x.l.length + 1) x []) x [] :=
 ⟨.refl hx, fun _ => by simp, x.l.length + 1, fun _ => by omega, fun _ => by omega, rfl⟩
end
structure QcI (x0 x1 : PS) (N : Nat) (R : List (WordT × WordT) × PS) (more : Bool) (lo : WordT) (x : PS) (ys : List (WordT × WordT)) : Prop where
 qa : QA x0 x
 qb : QA x1 x
 len : ys.length + x.l.length ≤ N + 1
 lem : more = true → ys.length + x.l.length ≤ N
 go : more = true → ∃ n, x.l.length < n ∧ qchnGo n x lo ys = R
 no : more = false → R = (ys, x)
def qcM (more : Bool) (x : PS) : Nat := if more = true then x.l.length + 1 else 0
theorem QcI.step {x0 x1 : PS} {N : Nat} {R : List (WordT × WordT) × PS} {lo : WordT} {x : PS} {ys : List (WordT × WordT)} (h : QcI x0 x1 N R true lo x ys) : QcI x0 x1 N R ((x.any 1).mayB [60]) (qW x) ((x.any 1).may [60]) (ys ++ [(lo, qW x)]) ∧ qcM ((x.any 1).mayB [60]) ((x.any 1).may [60]) < qcM true x := by
 have hx := h.qa.ok
 have h1 := QA.any hx (by decide : (1 : Int) ≠ 0)
 obtain ⟨n, hn, hr⟩ := h.go rfl
 obtain ⟨n, rfl⟩ : ∃ k, n = k + 1 := ⟨n - 1, by omega⟩
 have hle := h.lem rfl
 have hl1 := h1.len
 have hsn : (ys ++ [(lo, qW x)]).length = ys.length + 1 := by simp
 cases hb : (x.any 1).mayB [60] with
 | true =>
  obtain ⟨e, hlt⟩ := chnGo_more (n := n) hx hb lo ys
  have hm : (x.any 1).may [60] = (x.any 1).adv := if_pos hb
  have h2 := h1.trans (.adv h1.ok hb)
  rw [hm]
  exact ⟨⟨h.qa.trans h2, h.qb.trans h2, by rw [hsn]; omega, fun _ => by rw [hsn]; omega, fun _ => ⟨n, by omega, by rw [← e]; exact hr⟩, fun h => (by cases h)⟩, by simp only [qcM, if_true]; omega⟩
 | false =>
  have hm : (x.any 1).may [60] = x.any 1 := if_neg (by rw [hb]; decide)
  rw [hm]
  exact ⟨⟨h.qa.trans h1, h.qb.trans h1, by rw [hsn]; omega, fun h => (by cases h), fun h => (by cases h), fun _ => by rw [← hr, chnGo_over hb]⟩, by simp [qcM]⟩
structure QtI (x0 : PS) (R : List (WordT × TypP) × PS) (x : PS) (zs : List (WordT × TypP)) : Prop where
 qa : QA x0 x
 len : zs.length + x.l.length ≤ x0.l.length
 go : ∃ n, x.l.length ≤ n ∧ qtypsGo n x zs = R
theorem QtI.step {x0 : PS} {R : List (WordT × TypP) × PS} {x : PS} {zs : List (WordT × TypP)} (h : QtI x0 R x zs) (hb : x.isB 1 wType = true) : QtI x0 R (qknd 24 ((x.adv.any 1).must [61])).2 (zs ++ [(qW x.adv, (qknd 24 ((x.adv.any 1).must [61])).1)]) ∧ (qknd 24 ((x.adv.any 1).must [61])).2.l.length < x.l.length := by
 have hx := h.qa.ok
 have h0 := QA.advB hx hb
 have h1 := h0.trans (.any h0.ok (by decide : (1 : Int) ≠ 0))
 have h2 := h1.trans (.must h1.ok [61])
 have h3 := h2.trans (QA.knd 24 _ h2.ok)
 have h4 := (QA.any h0.ok (by decide : (1 : Int) ≠ 0)).trans ((QA.must h1.ok [61]).trans (QA.knd 24 _ h2.ok))
 have hl := h4.len
 have hp := hx.ne
 rw [adv_len] at hl
 obtain ⟨n, hn, hr⟩ := h.go
 obtain ⟨n, rfl⟩ : ∃ k, n = k + 1 := ⟨n - 1, by omega⟩
 have hlen := h.len
 refine ⟨⟨h.qa.trans h3, by simp only [lX]; omega, n, by omega, ?_⟩, by omega⟩
 rw [← hr]; conv => rhs; unfold qtypsGo
 rw [if_pos hb]
theorem QtI.over {x0 : PS} {R : List (WordT × TypP) × PS} {x : PS} {zs : List (WordT × TypP)} (h : QtI x0 R x zs) (hb : x.isB 1 wType = false) : R = (zs, x) := by
 obtain ⟨n, _, hr⟩ := h.go
 rw [← hr]
 cases n with
 | zero => rfl
 | succ n => unfold qtypsGo; rw [if_neg (by rw [hb]; decide)]
end Go.Proofs.YtldjakeigjngoaaGreat