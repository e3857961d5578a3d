/- BSQ: texts of this proof, joined by program: PlainSynR, PlainSynQ. -/
import Derived.Test.YtldjakeigjngoaaGreatBSA
import Derived.Test.YtldjakeigjngoaaGreatBRP
set_option linter.unusedVariables false
set_option linter.unusedSimpArgs false
namespace Go.Proofs.YtldjakeigjngoaaGreat
open Go.RowKit Bf
def qW (x : PS) : WordT := ((x.tok 1).2.2.2.1, (x.tok 1).2.1)
def PS.needK (x : PS) (k : Int) (t : List UInt8) : PS := if x.e = 0 ∧ (hdT x.l).1 = k ∧ (hdT x.l).2.2.2.1 = t then x.adv else x.odd
def PS.failH (x : PS) (e : Int) : PS := ⟨x.off, x.l, x.c, x.m, e, (hdT x.l).2.1⟩
def qlabGo : Nat → PS → List WordT → List WordT × PS
 | 0, x, y => (y, x)
 | n + 1, x, y => if x.mayB [43] = true then qlabGo n (x.adv.any 1) (y ++ [qW x.adv]) else (y, x)
def qlab (x : PS) : List WordT × PS := qlabGo x.l.length (x.any 1) [qW x]
def qnum (x : PS) : Int × PS := (((x.must [40]).tok 2).2.2.2.2, ((x.must [40]).any 2).must [41])
def qatL (x : PS) : List WordT × PS := if x.mayB [64] = true then qlab x.adv else ([], x)
def qco (x : PS) : CoT × PS :=
 if x.e ≠ 0 then (zco, x)
 else if (hdT x.l).1 ≠ 1 then ((0, 0, (hdT x.l).2.1, []), x.odd)
 else if (hdT x.l).2.2.2.1 = wFloor then ((1, (qnum x.adv).1, (hdT x.l).2.1, (qatL (qnum x.adv).2).1), (qatL (qnum x.adv).2).2)
 else if (hdT x.l).2.2.2.1 = wFirst then ((2, (qnum x.adv).1, (hdT x.l).2.1, (qatL (qnum x.adv).2).1), (qatL (qnum x.adv).2).2)
 else if (hdT x.l).2.2.2.1 = wCount then ((3, 0, (hdT x.l).2.1, (qatL x.adv).1), (qatL x.adv).2)
 else ((0, 0, (hdT x.l).2.1, []), x.failH 9)
def qwid (x : PS) : Int × PS := if x.mayB [35] = true then ((x.adv.tok 2).2.2.2.2, x.adv.any 2) else (0, x)
def qsee (x : PS) : CoT × PS := if x.mayB [126] = true then qco x.adv else (zco, x)
def qmk (x : PS) : (List WordT × Int × CoT) × PS :=
 (((qatL x).1, (qwid (qatL x).2).1, (qsee (qwid (qatL x).2).2).1), (qsee (qwid (qatL x).2).2).2)
def qprt (kd : PS → TypP × PS) (tag : Bool) (x : PS) : PrtP × PS :=
 if tag = false then
  let r := kd ((x.any 1).must [58])
  (withM (qW x) (qmk r.2).1 r.1, (qmk r.2).2)
 else if (x.any 1).mayB [40] = true then
  let r := kd (x.any 1).adv
  (withM (qW x) (qmk (r.2.must [41])).1 r.1, (qmk (r.2.must [41])).2)
 else (.mk (qW x) true [] 0 zco ztP, x.any 1)
section
variable {α : Type}
def qlstGo (one : PS → α × PS) (e : List UInt8) : Nat → PS → List α → List α × PS
 | 0, x, _ => ([], x)
 | n + 1, x, y => if x.e ≠ 0 then ([], x) else if (one x).2.mayB e = true then (y ++ [(one x).1], (one x).2.adv) else qlstGo one e n ((one x).2.must [44]) (y ++ [(one x).1])
end
def qnam1 (x : PS) : WordT × PS := (qW x, x.any 1)
def qnams (e : List UInt8) (x : PS) : List WordT × PS := qlstGo qnam1 e (x.l.length + 1) x []
def qprtsB (kd : PS → TypP × PS) (tag : Bool) (x : PS) : List PrtP × PS :=
 if x.mayB [125] = true ∧ tag = false then ([], x.adv) else qlstGo (qprt kd tag) [125] (x.l.length + 1) x []
def qprts (kd : PS → TypP × PS) (tag : Bool) (x : PS) : List PrtP × PS := qprtsB kd tag (x.must [123])
def qbod (kd : PS → TypP × PS) (w : List UInt8) (a : Int) (x : PS) : Bool × TypP × PS :=
 if w = wBool then (true, .mk 1 a 0 0 0 [] [] zw, x)
 else if w = wInt then
  let x1 := x.must [40]
  let x2 := (x1.any 2).must [46, 46]
  (true, .mk 2 a (x1.tok 2).2.2.2.2 (x2.tok 2).2.2.2.2 0 [] [] zw, (x2.any 2).must [41])
 else if w = wText then (true, .mk 3 a 0 0 (qnum x).1 [] [] zw, (qnum x).2)
 else if w = wEnum then
  let r := qnams [41] (x.must [40])
  (true, .mk 4 a 0 0 0 r.1 [] zw, r.2)
 else if w = wList then
  let r := kd (x.must [40])
  let x2 := r.2.must [44]
  (true, .mk 5 a 0 0 (x2.tok 2).2.2.2.2 [] [p0P r.1] zw, (x2.any 2).must [41])
 else if w = wOpt then
  let r := kd (x.must [40])
  (true, .mk 6 a 0 0 0 [] [p0P r.1] zw, r.2.must [41])
 else if w = wRef then
  let x1 := x.must [40]
  (true, .mk 9 a 0 0 0 [] [] (qW x1), (x1.any 1).must [41])
 else if w = wRecord then
  let r := qprts kd false x
  (true, .mk 7 a 0 0 0 [] r.1 zw, r.2)
 else if w = wUnion then
  let r := qprts kd true x
  (true, .mk 8 a 0 0 0 [] r.1 zw, r.2)
 else (false, atP a, x)
def qkndB (kd : PS → TypP × PS) (x : PS) : TypP × PS :=
 if (hdT x.l).1 = 1 then
  let r := qbod kd (hdT x.l).2.2.2.1 (hdT x.l).2.1 x.adv
  if r.1 = true then (r.2.1, r.2.2) else (atP (hdT x.l).2.1, ⟨x.adv.off, x.adv.l, x.adv.c, x.adv.m, 9, (hdT x.l).2.1⟩)
 else (atP (hdT x.l).2.1, x.odd)
def qknd : Nat → PS → TypP × PS
 | 0, x => if x.e ≠ 0 then (ztP, x) else (atP (hdT x.l).2.1, x.failH 6)
 | n + 1, x => if x.e ≠ 0 then (ztP, x) else qkndB (qknd n) x
def qchnGo : Nat → PS → WordT → List (WordT × WordT) → List (WordT × WordT) × PS
 | 0, x, _, y => (y, x)
 | n + 1, x, lo, y => if (x.any 1).mayB [60] = true then qchnGo n (x.any 1).adv (qW x) (y ++ [(lo, qW x)]) else (y ++ [(lo, qW x)], x.any 1)
def qchn (x : PS) (y : List (WordT × WordT)) : List (WordT × WordT) × PS := qchnGo (x.l.length + 1) ((x.any 1).must [60]) (qW x) y
def qordGo : Nat → PS → List (WordT × WordT) → List (WordT × WordT) × PS
 | 0, x, _ => ([], x)
 | n + 1, x, y => if x.e ≠ 0 then ([], x) else if (qchn x y).2.mayB [125] = true then ((qchn x y).1, (qchn x y).2.adv) else qordGo n ((qchn x y).2.must [44]) (qchn x y).1
def qordB (x : PS) : List (WordT × WordT) × PS := if x.mayB [125] = true then ([], x.adv) else qordGo (x.l.length + 1) x []
def PS.isB (x : PS) (k : Int) (t : List UInt8) : Bool := decide (x.e = 0) && (decide ((hdT x.l).1 = k) && decide ((hdT x.l).2.2.2.1 = t))
def qord (x : PS) : List (WordT × WordT) × PS := if x.isB 1 wOrder = true then qordB (x.adv.must [123]) else ([], x)
def qtypsGo : Nat → PS → List (WordT × TypP) → List (WordT × TypP) × PS
 | 0, x, y => (y, x)
 | n + 1, x, y => if x.isB 1 wType = true then
  let r := qknd 24 ((x.adv.any 1).must [61])
  qtypsGo n r.2 (y ++ [(qW x.adv, r.1)]) else (y, x)
def qsch (x : PS) : SchP × PS :=
 let r1 := qnams [125] ((x.needK 1 wLevels).must [123])
 let r2 := qord r1.2
 let r3 := qtypsGo (x.l.length + 1) r2.2 []
 let r4 := qknd 24 (r3.2.needK 1 wRoot)
 (⟨r1.1, r2.1, r3.1, r4.1⟩, r4.2)
/-! ### Both readings -/
structure Rl (l : List TokT) (c : CurT) (x : PS) : Prop where
 e : x.e = c.e
 a : c.e ≠ 0 → x.a = c.a
 l : c.e = 0 → x.l = l.drop c.i.toNat
def Rv {α : Type} (l : List TokT) (r : α × CurT) (q : α × PS) : Prop := Rl l r.2 q.2 ∧ (r.2.e = 0 → r.1 = q.1)
section
variable {l : List TokT} {c : CurT} {x : PS} (hl : TokOk l)
theorem Rl.hd (h : Rl l c x) (hc : CurOk l c) (he : c.e = 0) : hdT x.l = peekT l c := by
 obtain ⟨t, ht, hg⟩ := hc.get
 rw [h.l he, peekT_ok l c he, hg, (hdT_at ht).1]
theorem Rl.e0 (h : Rl l c x) (he : c.e = 0) : x.e = 0 := by rw [h.e]; exact he
theorem Rl.e1 (h : Rl l c x) (he : c.e ≠ 0) : x.e ≠ 0 := by rw [h.e]; exact he
theorem Rl.isB (h : Rl l c x) (hc : CurOk l c) {k : Int} {t : List UInt8} (hk : k ≠ 0) : x.isB k t = isT l c k t := by
 unfold PS.isB isT
 by_cases he : c.e = 0
 · rw [h.hd hc he]; simp [h.e0 he]
 · rw [peekT_bad l c he]; simp [h.e1 he, hk.symm]
theorem Rl.mayB (h : Rl l c x) (hc : CurOk l c) (t : List UInt8) : x.mayB t = isT l c 4 t := by
 rw [← h.isB hc (by decide)]; rfl
theorem Rl.anyB (h : Rl l c x) (hc : CurOk l c) {k : Int} (hk : k ≠ 0) : x.anyB k = takT l c k := by
 unfold PS.anyB takT
 by_cases he : c.e = 0
 · rw [h.hd hc he]
   by_cases h2 : (peekT l c).1 = k
   · simp [h.e0 he, h2, hk]
   · simp [h.e0 he, h2]
 · rw [peekT_bad l c he]; simp [h.e1 he]
theorem Rl.tok (h : Rl l c x) (hc : CurOk l c) {k : Int} (hk : k ≠ 0) : x.tok k = if takT l c k = true then peekT l c else ztk := by
 unfold PS.tok
 rw [h.anyB hc hk]
 split
 · rename_i ht
   have he : c.e = 0 := by
    apply Classical.byContradiction; intro hn
    unfold takT at ht; rw [peekT_bad l c hn] at ht; simp at ht
   exact h.hd hc he
 · rfl
theorem Rl.qW (h : Rl l c x) (hc : CurOk l c) : qW x = namW l c := by
 unfold Go.Proofs.YtldjakeigjngoaaGreat.qW namW namTk
 rw [h.tok hc (by decide)]
theorem Rl.num (h : Rl l c x) (hc : CurOk l c) : (x.tok 2).2.2.2.2 = numN l c := by
 unfold numN
 rw [h.tok hc (by decide)]
 split <;> rfl
theorem peek_ne {k : Int} {t : List UInt8} (hk : k ≠ 0) (h : isT l c k t = true) : (peekT l c).1 ≠ 0 ∧ c.e = 0 := by
 unfold isT at h
 simp only [Bool.and_eq_true, decide_eq_true_eq] at h
 refine ⟨by rw [h.1]; exact hk, ?_⟩
 apply Classical.byContradiction; intro hn
 have := h.1
 rw [peekT_bad l c hn] at this; exact hk this.symm
theorem tak_ne {k : Int} (h : takT l c k = true) : (peekT l c).1 ≠ 0 ∧ c.e = 0 := by
 unfold takT at h
 simp only [Bool.and_eq_true, Bool.not_eq_true', decide_eq_false_iff_not, decide_eq_true_eq] at h
 refine ⟨h.1, ?_⟩
 apply Classical.byContradiction; intro hn
 have := h.1
 rw [peekT_bad l c hn] at this; exact this rfl
theorem Rl.adv (h : Rl l c x) (hc : CurOk l c) (h0 : (peekT l c).1 ≠ 0) : Rl l (nextT l c) x.adv := by
 have he : c.e = 0 := by
  apply Classical.byContradiction; intro hn
  rw [peekT_bad l c hn] at h0; exact h0 rfl
 have hn : nextT l c = ⟨c.i + 1, c.d, c.e, c.a⟩ := by unfold nextT; rw [if_neg h0]
 rw [hn]
 have i0 := hc.i0
 refine ⟨h.e, h.a, fun _ => ?_⟩
 show x.l.tail = _
 rw [h.l he]
 simp only
 rw [List.tail_drop, show (c.i + 1).toNat = c.i.toNat + 1 by omega]
theorem Rl.failAt (h : Rl l c x) {e a : Int} (he : e ≠ 0) {y : PS} (h1 : c.e = 0 → y.e = e ∧ y.a = a) (h2 : c.e ≠ 0 → y = x) : Rl l (failAtT c e a) y := by
 unfold failAtT
 by_cases h0 : c.e = 0
 · rw [if_pos ⟨h0, he⟩]
   obtain ⟨a1, a2⟩ := h1 h0
   exact ⟨a1, fun _ => a2, fun hn => absurd hn he⟩
 · rw [if_neg (fun hn => h0 hn.1), h2 h0]; exact h
theorem Rl.odd (h : Rl l c x) (hc : CurOk l c) : Rl l (wrongT l c) x.odd := by
 unfold wrongT failT
 refine h.failAt (by split <;> decide) (fun he => ?_) (fun he => odd_same (h.e1 he))
 obtain ⟨_, h1, h2⟩ := odd_bad (h.e0 he)
 rw [h1, h2, h.hd hc he]; exact ⟨rfl, rfl⟩
theorem Rl.must (h : Rl l c x) (hc : CurOk l c) (t : List UInt8) : Rl l (needT l c t) (x.must t) := by
 unfold needT PS.must
 rw [h.mayB hc]
 split
 · rename_i hb; exact h.adv hc (peek_ne (by decide) hb).1
 · exact h.odd hc
theorem Rl.needK (h : Rl l c x) (hc : CurOk l c) (t : List UInt8) : Rl l (kwC l c t) (x.needK 1 t) := by
 have hb : x.isB 1 t = isT l c 1 t := h.isB hc (by decide)
 unfold kwC PS.needK
 split
 · rename_i h1
   have h0 : x.isB 1 t = true := by rw [hb]; exact h1
   rw [if_pos (by unfold PS.isB at h0; simpa only [Bool.and_eq_true, decide_eq_true_eq] using h0)]
   exact h.adv hc (peek_ne (by decide) h1).1
 · rename_i h1
   have h0 : ¬ x.isB 1 t = true := by rw [hb]; exact h1
   rw [if_neg (fun hn => h0 (by unfold PS.isB; simpa only [Bool.and_eq_true, decide_eq_true_eq] using hn))]
   exact h.odd hc
theorem Rl.any1 (h : Rl l c x) (hc : CurOk l c) : Rl l (namCu l c) (x.any 1) := by
 unfold namCu PS.any
 rw [h.anyB hc (by decide)]
 split
 · rename_i hb; exact h.adv hc (tak_ne hb).1
 · exact h.odd hc
theorem Rl.any2 (h : Rl l c x) (hc : CurOk l c) : Rl l (numCu l c) (x.any 2) := by
 unfold numCu PS.any
 rw [h.anyB hc (by decide)]
 split
 · rename_i hb; exact h.adv hc (tak_ne hb).1
 · exact h.odd hc
theorem Rl.len (h : Rl l c x) (he : c.e = 0) : x.l.length = l.length - c.i.toNat := by rw [h.l he, List.length_drop]
include hl in
theorem lab_rel : ∀ (n m : Nat) {c : CurT} {x : PS} (y : List WordT), CurOk l c → Rl l c x → (c.e = 0 → l.length ≤ c.i.toNat + n ∧ l.length ≤ c.i.toNat + m) → Rl l (labGo l n c y).2 (qlabGo m x y).2 ∧ (labGo l n c y).1 = (qlabGo m x y).1 := by
 intro n
 induction n with
 | zero =>
  intro m c x y hc h hf
  have he : c.e ≠ 0 := fun he => by have := (hf he).1; have := hc.i1; have := hc.i0; omega
  cases m with
  | zero => exact ⟨h, rfl⟩
  | succ m =>
   unfold labGo qlabGo
   rw [may_bad (h.e1 he), if_neg (by decide)]
   exact ⟨h, rfl⟩
 | succ n ih =>
  intro m c x y hc h hf
  cases m with
  | zero =>
   have he : c.e ≠ 0 := fun he => by have := (hf he).2; have := hc.i1; have := hc.i0; omega
   unfold labGo qlabGo
   rw [if_neg (by rw [← h.mayB hc, may_bad (h.e1 he)]; decide)]
   exact ⟨h, rfl⟩
  | succ m =>
   unfold labGo qlabGo
   rw [h.mayB hc]
   by_cases hb : isT l c 4 [43] = true
   · rw [if_pos hb, if_pos hb]
     have h1 := h.adv hc (peek_ne (by decide) hb).1
     have a1 := Adv.next hl hc
     have a2 := a1.trans (Adv.nam hl a1.ok)
     obtain ⟨e0, en, _⟩ := next_lt hl hc hb (by decide)
     rw [h1.qW a1.ok]
     refine ih m _ a2.ok (h1.any1 a1.ok) (fun he => ?_)
     have := (hf e0).1
     have := (hf e0).2
     have h3 := (Adv.nam hl a1.ok).i
     rw [en] at h3 ⊢
     simp only at h3
     have := hc.i0
     omega
   · rw [if_neg hb, if_neg hb]; exact ⟨h, rfl⟩
include hl in
theorem Rl.lab (h : Rl l c x) (hc : CurOk l c) : Rl l (labP l c).2 (qlab x).2 ∧ (labP l c).1 = (qlab x).1 := by
 unfold labP qlab
 rw [h.qW hc]
 have a1 := Adv.nam hl hc
 refine lab_rel hl _ _ _ a1.ok (h.any1 hc) (fun he => ⟨by omega, ?_⟩)
 have e0 : c.e = 0 := by
  apply Classical.byContradiction; intro hn
  have := a1.bad hn; rw [this] at he; exact hn he
 have := h.len e0
 have := a1.i
 have := hc.i0
 omega
include hl in
theorem Rl.num1 (h : Rl l c x) (hc : CurOk l c) : Rl l (num1P l c).2 (qnum x).2 ∧ (num1P l c).1 = (qnum x).1 := by
 have a1 := Adv.need hl hc [40] (by simp)
 have h1 := h.must hc [40]
 have a2 := Adv.num hl a1.ok
 exact ⟨(h1.any2 a1.ok).must a2.ok _, (h1.num a1.ok).symm⟩
include hl in
theorem Rl.atL (h : Rl l c x) (hc : CurOk l c) : Rl l (atL l c).2 (qatL x).2 ∧ (atL l c).1 = (qatL x).1 := by
 unfold Go.Proofs.YtldjakeigjngoaaGreat.atL qatL
 rw [h.mayB hc]
 split
 · rename_i hb
   exact (h.adv hc (peek_ne (by decide) hb).1).lab hl (Adv.next hl hc).ok
 · exact ⟨h, rfl⟩
theorem isT_hd {k : Int} {t : List UInt8} : (isT l c k t = true) ↔ ((peekT l c).1 = k ∧ (peekT l c).2.2.2.1 = t) := by
 unfold isT; simp only [Bool.and_eq_true, decide_eq_true_eq]
include hl in
theorem Rl.co (h : Rl l c x) (hc : CurOk l c) : Rv l (coP l c) (qco x) := by
 by_cases he : c.e = 0
 · have hd := h.hd hc he
   unfold Rv coP qco
   rw [if_neg (by rw [h.e0 he]; decide), hd]
   by_cases h1 : (peekT l c).1 = 1
   · rw [if_neg (by rw [h1]; decide)]
     have hp0 : (peekT l c).1 ≠ 0 := by rw [h1]; decide
     have hx := h.adv hc hp0
     have a1 := Adv.next hl hc
     obtain ⟨hn, hv⟩ := hx.num1 hl a1.ok
     have an := Adv.num1 hl a1.ok
     obtain ⟨ha, hw⟩ := hn.atL hl an.ok
     unfold coK
     by_cases c1 : (peekT l c).2.2.2.1 = wFloor
     · rw [if_pos (isT_hd.2 ⟨h1, c1⟩), if_pos c1]
       exact ⟨ha, fun _ => by simp only [hv, hw]⟩
     · rw [if_neg (fun hn => c1 (isT_hd.1 hn).2), if_neg c1]
       by_cases c2 : (peekT l c).2.2.2.1 = wFirst
       · rw [if_pos (isT_hd.2 ⟨h1, c2⟩), if_pos c2]
         exact ⟨ha, fun _ => by simp only [hv, hw]⟩
       · rw [if_neg (fun hn => c2 (isT_hd.1 hn).2), if_neg c2]
         by_cases c3 : (peekT l c).2.2.2.1 = wCount
         · rw [if_pos (isT_hd.2 ⟨h1, c3⟩), if_pos c3]
           obtain ⟨ha, hw⟩ := hx.atL hl a1.ok
           exact ⟨ha, fun _ => by simp only [hw]⟩
         · rw [if_neg (fun hn => c3 (isT_hd.1 hn).2), if_neg c3, if_pos h1]
           have hne : (failT l c 9).e ≠ 0 := by unfold failT failAtT; rw [if_pos ⟨he, by decide⟩]; exact (by decide : (9 : Int) ≠ 0)
           have hr : Rl l (failT l c 9) (x.failH 9) := h.failAt (by decide) (fun _ => ⟨rfl, by unfold PS.failH; rw [hd]⟩) (fun hn => absurd he hn)
           have hna : Go.Proofs.YtldjakeigjngoaaGreat.atL l (failT l c 9) = ([], failT l c 9) := by
            unfold Go.Proofs.YtldjakeigjngoaaGreat.atL
            rw [if_neg (fun hn => hne (peek_ne (by decide) hn).2)]
           simp only [hna]
           exact ⟨hr, fun hn => absurd hn hne⟩
   · rw [if_pos h1]
     have hne : (wrongT l c).e ≠ 0 := by unfold wrongT failT failAtT; rw [if_pos ⟨he, by split <;> decide⟩]; simp only; split <;> decide
     have hk : coK l c = (0, 0, wrongT l c) := by
      unfold coK
      rw [if_neg (fun hn => h1 (isT_hd.1 hn).1), if_neg (fun hn => h1 (isT_hd.1 hn).1), if_neg (fun hn => h1 (isT_hd.1 hn).1), if_neg h1]
     have hna : Go.Proofs.YtldjakeigjngoaaGreat.atL l (wrongT l c) = ([], wrongT l c) := by
      unfold Go.Proofs.YtldjakeigjngoaaGreat.atL
      rw [if_neg (fun hn => hne (peek_ne (by decide) hn).2)]
     rw [hk]
     simp only [hna]
     exact ⟨h.odd hc, fun hn => absurd hn hne⟩
 · have hb := (Adv.coP hl hc).bad he
   unfold Rv qco
   rw [if_pos (h.e1 he), hb]
   exact ⟨h, fun hn => absurd hn he⟩
include hl in
theorem Rl.wid (h : Rl l c x) (hc : CurOk l c) : Rl l (widP l c).2 (qwid x).2 ∧ (widP l c).1 = (qwid x).1 := by
 unfold widP qwid
 rw [h.mayB hc]
 split
 · rename_i hb
   have h1 := h.adv hc (peek_ne (by decide) hb).1
   have a1 := (Adv.next hl hc).ok
   exact ⟨h1.any2 a1, (h1.num a1).symm⟩
 · exact ⟨h, rfl⟩
include hl in
theorem Rl.see (h : Rl l c x) (hc : CurOk l c) : Rv l (seeP l c) (qsee x) := by
 unfold seeP qsee
 rw [h.mayB hc]
 split
 · rename_i hb
   exact (h.adv hc (peek_ne (by decide) hb).1).co hl (Adv.next hl hc).ok
 · exact ⟨h, fun _ => rfl⟩
include hl in
theorem Rl.mk' (h : Rl l c x) (hc : CurOk l c) : Rv l (mkP l c) (qmk x) := by
 obtain ⟨h1, v1⟩ := h.atL hl hc
 have a1 := Adv.atL hl hc
 obtain ⟨h2, v2⟩ := h1.wid hl a1.ok
 have a2 := Adv.wid hl a1.ok
 obtain ⟨h3, v3⟩ := h2.see hl a2.ok
 exact ⟨h3, fun he => by unfold mkP qmk; simp only; rw [v1, v2, v3 he]⟩
def KdRel (l : List TokT) (d : Int) (kd : CurT → TypP × CurT) (qd : PS → TypP × PS) : Prop := ∀ c x, CurOk l c → c.d = d → Rl l c x → Rv l (kd c) (qd x)
theorem Adv.good {c' : CurT} (h : Adv l c c') (he : c'.e = 0) : c.e = 0 := by
 apply Classical.byContradiction; intro hn
 rw [h.bad hn] at he; exact hn he
variable {kd : CurT → TypP × CurT} {qd : PS → TypP × PS}
include hl in
theorem Rl.fld (h : Rl l c x) (hc : CurOk l c) (ha : KdAdv l c.d kd) (hk : KdRel l c.d kd qd) : Rv l (fldP l kd c) (qprt qd false x) := by
 have a1 := Adv.nam hl hc
 have a2 := a1.trans (Adv.need hl a1.ok [58] (by simp))
 have h2 := (h.any1 hc).must a1.ok [58]
 obtain ⟨h3, v3⟩ := hk _ _ a2.ok a2.d h2
 have a3 := ha _ a2.ok a2.d
 obtain ⟨h4, v4⟩ := h3.mk' hl a3.ok
 refine ⟨h4, fun he => ?_⟩
 unfold fldP qprt
 simp only [if_true]
 have he : (mkP l (kd (needT l (namCu l c) [58])).2).2.e = 0 := he
 rw [h.qW hc, v4 he, v3 ((Adv.mk' hl a3.ok).good he)]
include hl in
theorem Rl.tag (h : Rl l c x) (hc : CurOk l c) (ha : KdAdv l c.d kd) (hk : KdRel l c.d kd qd) : Rv l (tagP l kd c) (qprt qd true x) := by
 have a1 := Adv.nam hl hc
 have h1 := h.any1 hc
 unfold tagP qprt
 rw [h1.mayB a1.ok, h.qW hc, if_neg (show ¬ (true = false) by decide)]
 by_cases hb : isT l (namCu l c) 4 [40] = true
 · rw [if_pos hb, if_pos hb]
   have a2 := a1.trans (Adv.next hl a1.ok)
   have h2 := h1.adv a1.ok (peek_ne (by decide) hb).1
   obtain ⟨h3, v3⟩ := hk _ _ a2.ok a2.d h2
   have a3 := ha _ a2.ok a2.d
   have a4 := Adv.need hl a3.ok [41] (by simp)
   obtain ⟨h4, v4⟩ := (h3.must a3.ok [41]).mk' hl a4.ok
   refine ⟨h4, fun he => ?_⟩
   simp only at he ⊢
   rw [v4 he, v3 (a4.good ((Adv.mk' hl a4.ok).good he))]
 · rw [if_neg hb, if_neg hb]
   exact ⟨h1, fun _ => rfl⟩
include hl in
theorem lst_rel {α : Type} {one : CurT → α × CurT} {qne : PS → α × PS} {e : List UInt8} : ∀ (n m : Nat) {c : CurT} {x : PS} (y : List α), CurOk l c → Rl l c x → (∀ c', CurOk l c' → c'.d = c.d → Adv l c' (one c').2) → (∀ c' x', CurOk l c' → c'.d = c.d → Rl l c' x' → Rv l (one c') (qne x')) →
 (c.e = 0 → l.length < c.i.toNat + n ∧ l.length < c.i.toNat + m) → (c.e ≠ 0 → 1 ≤ n ∧ 1 ≤ m) → Rv l (lstGo l (addP one) e n c y) (qlstGo qne e m x y) := by
 intro n
 induction n with
 | zero =>
  intro m c x y hc h ha hk hf hg
  by_cases he : c.e = 0
  · have := (hf he).1; have := hc.i1; have := hc.i0; omega
  · have := (hg he).1; omega
 | succ n ih =>
  intro m c x y hc h ha hk hf hg
  cases m with
  | zero =>
   by_cases he : c.e = 0
   · have := (hf he).2; have := hc.i1; have := hc.i0; omega
   · have := (hg he).2; omega
  | succ m =>
   unfold lstGo qlstGo
   by_cases he : c.e = 0
   · rw [if_neg (show ¬ c.e ≠ 0 from fun hn => hn he), if_neg (show ¬ x.e ≠ 0 from fun hn => hn (h.e0 he))]
     obtain ⟨h1, v1⟩ := hk c x hc rfl h
     have a1 := ha c hc rfl
     show Rv l (if isT l (one c).2 4 e = true then (y ++ [(one c).1], nextT l (one c).2) else lstGo l (addP one) e n (needT l (one c).2 [44]) (y ++ [(one c).1])) _
     rw [h1.mayB a1.ok]
     by_cases hb : isT l (one c).2 4 e = true
     · rw [if_pos hb, if_pos hb]
       refine ⟨h1.adv a1.ok (peek_ne (by decide) hb).1, fun _ => ?_⟩
       simp only [v1 (peek_ne (by decide) hb).2]
     · rw [if_neg hb, if_neg hb]
       have h2 := h1.must a1.ok [44]
       have a2 := Adv.need hl a1.ok [44] (by simp)
       by_cases he2 : (needT l (one c).2 [44]).e = 0
       · rw [v1 (a2.good he2)]
         have hm : isT l (one c).2 4 [44] = true := by
          apply Classical.byContradiction; intro hn
          unfold needT at he2
          rw [if_neg hn] at he2
          have hf0 : (one c).2.e = 0 := by
           apply Classical.byContradiction; intro hx
           unfold failT failAtT at he2; rw [if_neg (fun h => hx h.1)] at he2; exact hx he2
          unfold failT failAtT at he2
          rw [if_pos ⟨hf0, by split <;> decide⟩] at he2
          simp only at he2
          split at he2 <;> omega
         obtain ⟨_, en, _⟩ := next_lt hl a1.ok hm (by decide)
         have e1 : needT l (one c).2 [44] = ⟨(one c).2.i + 1, (one c).2.d, (one c).2.e, (one c).2.a⟩ := by unfold needT; rw [if_pos hm, en]
         refine ih m _ a2.ok h2 (fun c' h' hd => ha c' h' (hd.trans (a1.trans a2).d)) (fun c' x' h' hd => hk c' x' h' (hd.trans (a1.trans a2).d)) (fun _ => ?_) (fun hn => absurd he2 hn)
         have hi := a1.i
         have := hf he
         have := hc.i0
         rw [e1]
         simp only
         omega
       · -- nothing more is read
         have hlg : ∀ n y, lstGo l (addP one) e n (needT l (one c).2 [44]) y = (y, needT l (one c).2 [44]) := by
          intro n y; cases n with
          | zero => rfl
          | succ n => unfold lstGo; rw [if_pos he2]
         have hqg : ∀ n y, qlstGo qne e n ((qne x).2.must [44]) y = ([], (qne x).2.must [44]) := by
          intro n y; cases n with
          | zero => rfl
          | succ n => unfold qlstGo; rw [if_pos (h2.e1 he2)]
         rw [hlg, hqg]
         exact ⟨h2, fun hn => absurd hn he2⟩
   · rw [if_pos he, if_pos (h.e1 he)]
     exact ⟨h, fun hn => absurd hn he⟩
include hl in
theorem Rl.nams (h : Rl l c x) (hc : CurOk l c) (e : List UInt8) : Rv l (namsP l e c) (qnams e x) := by
 unfold namsP qnams lstP
 rw [if_neg (fun hn => Bool.false_ne_true hn.1)]
 refine lst_rel hl _ _ _ hc h (fun c' h' _ => Adv.nam hl h') (fun c' x' h' _ hr => ⟨hr.any1 h', fun _ => (hr.qW h').symm⟩) (fun he => ?_) (fun _ => ⟨by omega, by omega⟩)
 have := h.len he
 have := hc.i0; have := hc.i1
 omega
include hl in
theorem Rl.prts (h : Rl l c x) (hc : CurOk l c) (ha : KdAdv l c.d kd) (hk : KdRel l c.d kd qd) (tag : Bool) (one : CurT → PrtP × CurT) (ho : one = if tag = true then tagP l kd else fldP l kd) : Rv l (prtsP l one (!tag) c) (qprts qd tag x) := by
 have a1 := Adv.need hl hc [123] (by simp)
 have h1 := h.must hc [123]
 have oa : ∀ c', CurOk l c' → c'.d = c.d → Adv l c' (one c').2 := by
  intro c' h' hd
  rw [ho]; split
  · exact Adv.tag hl h' (by rw [hd]; exact ha)
  · exact Adv.fld hl h' (by rw [hd]; exact ha)
 have ok : ∀ c' x', CurOk l c' → c'.d = c.d → Rl l c' x' → Rv l (one c') (qprt qd tag x') := by
  intro c' x' h' hd hr
  rw [ho]; cases tag with
  | true => exact hr.tag hl h' (by rw [hd]; exact ha) (by rw [hd]; exact hk)
  | false => exact hr.fld hl h' (by rw [hd]; exact ha) (by rw [hd]; exact hk)
 unfold prtsP qprts qprtsB lstP
 rw [h1.mayB a1.ok]
 by_cases hb : isT l (needT l c [123]) 4 [125] = true ∧ tag = false
 · rw [if_pos ⟨by rw [hb.2]; rfl, hb.1⟩, if_pos hb]
   exact ⟨h1.adv a1.ok (peek_ne (by decide) hb.1).1, fun _ => rfl⟩
 · rw [if_neg (fun hn => hb ⟨hn.2, by simpa using hn.1⟩), if_neg hb]
   refine lst_rel hl _ _ _ a1.ok h1 (fun c' h' hd => oa c' h' (hd.trans a1.d)) (fun c' x' h' hd hr => ok c' x' h' (hd.trans a1.d) hr) (fun he => ?_) (fun _ => ⟨by omega, by omega⟩)
   have := h1.len he
   have := a1.ok.i0; have := a1.ok.i1
   omega
include hl in
theorem Rl.bod (h : Rl l c x) (hc : CurOk l c) (ha : KdAdv l c.d kd) (hk : KdRel l c.d kd qd) (w : List UInt8) (a : Int) : (bodP l kd w a c).1 = (qbod qd w a x).1 ∧ Rv l (bodP l kd w a c).2 (qbod qd w a x).2 := by
 have n1 := Adv.need hl hc [40] (by simp)
 have h1 := h.must hc [40]
 unfold bodP qbod
 split
 · exact ⟨rfl, h, fun _ => rfl⟩
 split
 · have a2 := Adv.num hl n1.ok
   have a3 := Adv.need hl a2.ok [46, 46] (by simp)
   have h3 := (h1.any2 n1.ok).must a2.ok [46, 46]
   have a4 := Adv.num hl a3.ok
   exact ⟨rfl, (h3.any2 a3.ok).must a4.ok _, fun _ => by simp only [h1.num n1.ok, h3.num a3.ok]⟩
 split
 · obtain ⟨h2, v2⟩ := h.num1 hl hc
   exact ⟨rfl, h2, fun _ => by simp only [v2]⟩
 split
 · obtain ⟨h2, v2⟩ := h1.nams hl n1.ok [41]
   exact ⟨rfl, h2, fun he => by simp only at he ⊢; rw [v2 he]⟩
 split
 · obtain ⟨h2, v2⟩ := hk _ _ n1.ok n1.d h1
   have a2 := ha _ n1.ok n1.d
   have a3 := Adv.need hl a2.ok [44] (by simp)
   have h3 := h2.must a2.ok [44]
   have a4 := Adv.num hl a3.ok
   have a5 := Adv.need hl a4.ok [41] (by simp)
   exact ⟨rfl, (h3.any2 a3.ok).must a4.ok _, fun he => by simp only at he ⊢; rw [h3.num a3.ok, v2 (a3.good (a4.good (a5.good he)))]⟩
 split
 · obtain ⟨h2, v2⟩ := hk _ _ n1.ok n1.d h1
   have a2 := ha _ n1.ok n1.d
   have a5 := Adv.need hl a2.ok [41] (by simp)
   exact ⟨rfl, h2.must a2.ok _, fun he => by simp only at he ⊢; rw [v2 (a5.good he)]⟩
 split
 · have a2 := Adv.nam hl n1.ok
   exact ⟨rfl, (h1.any1 n1.ok).must a2.ok _, fun _ => by simp only [h1.qW n1.ok]⟩
 split
 · obtain ⟨h2, v2⟩ := h.prts hl hc ha hk false (fldP l kd) rfl
   exact ⟨rfl, h2, fun he => by simp only [Bool.not_false] at he v2 ⊢; rw [v2 he]⟩
 split
 · obtain ⟨h2, v2⟩ := h.prts hl hc ha hk true (tagP l kd) rfl
   exact ⟨rfl, h2, fun he => by simp only [Bool.not_true] at he v2 ⊢; rw [v2 he]⟩
 · exact ⟨rfl, h, fun _ => rfl⟩
theorem Rl.deep (h : Rl l c x) : Rl l (deepT c) x := ⟨h.e, h.a, h.l⟩
theorem Rl.leave (h : Rl l c x) : Rl l (leaveT c) x := ⟨h.e, h.a, h.l⟩
theorem bod_no {kd : CurT → TypP × CurT} {w : List UInt8} {a : Int} (h : (bodP l kd w a c).1 = false) : bodP l kd w a c = (false, atP a, c) := by
 unfold bodP at h ⊢
 by_cases h1 : w = wBool
 · rw [if_pos h1] at h; cases h
 rw [if_neg h1] at h ⊢
 by_cases h2 : w = wInt
 · rw [if_pos h2] at h; cases h
 rw [if_neg h2] at h ⊢
 by_cases h3 : w = wText
 · rw [if_pos h3] at h; cases h
 rw [if_neg h3] at h ⊢
 by_cases h4 : w = wEnum
 · rw [if_pos h4] at h; cases h
 rw [if_neg h4] at h ⊢
 by_cases h5 : w = wList
 · rw [if_pos h5] at h; cases h
 rw [if_neg h5] at h ⊢
 by_cases h6 : w = wOpt
 · rw [if_pos h6] at h; cases h
 rw [if_neg h6] at h ⊢
 by_cases h7 : w = wRef
 · rw [if_pos h7] at h; cases h
 rw [if_neg h7] at h ⊢
 by_cases h8 : w = wRecord
 · rw [if_pos h8] at h; cases h
 rw [if_neg h8] at h ⊢
 by_cases h9 : w = wUnion
 · rw [if_pos h9] at h; cases h
 rw [if_neg h9] at h ⊢
theorem peek_deep (l : List TokT) (c : CurT) : peekT l (deepT c) = peekT l c := rfl
include hl in
theorem Rl.kndB (h : Rl l c x) (hc : CurOk l c) (hd : c.d < 24) (he : c.e = 0) (ha : KdAdv l (c.d + 1) kd) (hk : KdRel l (c.d + 1) kd qd) : Rv l (kndB l kd c) (qkndB qd x) := by
 have hc1 := hc.deep hd
 have h1 := h.deep
 have hh := h.hd hc he
 unfold Go.Proofs.YtldjakeigjngoaaGreat.kndB qkndB
 rw [hh]
 by_cases ht : takT l (deepT c) 1 = true
 · have hp : (peekT l c).1 = 1 := by unfold takT at ht; rw [peek_deep] at ht; simp only [Bool.and_eq_true, decide_eq_true_eq] at ht; exact ht.2
   rw [if_pos ht, if_pos hp, peek_deep]
   have a2 := Adv.next hl hc1
   have h2 := h1.adv hc1 (tak_ne ht).1
   obtain ⟨b3, h3, v3⟩ := h2.bod hl a2.ok (kd := kd) (qd := qd) (by rw [a2.d]; exact ha) (by rw [a2.d]; exact hk) (peekT l c).2.2.2.1 (peekT l c).2.1
   cases hb : (bodP l kd (peekT l c).2.2.2.1 (peekT l c).2.1 (nextT l (deepT c))).1 with
   | true =>
    rw [hb] at b3
    simp only [hb, ← b3, if_true]
    exact ⟨h3.leave, v3⟩
   | false =>
    rw [hb] at b3
    have hn := bod_no hb
    simp only [hb, ← b3, Bool.false_eq_true, if_false]
    have e2 : (nextT l (deepT c)).e = 0 := by
     have hn2 : nextT l (deepT c) = ⟨c.i + 1, c.d + 1, c.e, c.a⟩ := by unfold nextT; rw [if_neg (tak_ne ht).1]; rfl
     rw [hn2]; exact he
    rw [hn]
    simp only
    have hf : Rl l (failAtT (nextT l (deepT c)) 9 (peekT l c).2.1) ⟨x.adv.off, x.adv.l, x.adv.c, x.adv.m, 9, (peekT l c).2.1⟩ := h2.failAt (by decide) (fun _ => ⟨rfl, rfl⟩) (fun hn => absurd e2 hn)
    exact ⟨hf.leave, fun _ => rfl⟩
 · have hp : (peekT l c).1 ≠ 1 := fun hp => ht (by unfold takT; rw [peek_deep, hp]; rfl)
   rw [if_neg ht, if_neg hp]
   exact ⟨(h1.odd hc1).leave, fun _ => rfl⟩
include hl in
theorem knd_rel : ∀ (n : Nat) (d : Int), d + n = 24 → KdRel l d (kndP l n) (qknd n)
 | 0, d, h => fun c x hc hd hr => by
  by_cases he : c.e = 0
  · unfold kndP qknd
    rw [if_neg (by rw [hr.e0 he]; decide), hr.hd hc he]
    exact ⟨hr.failAt (by decide) (fun _ => ⟨rfl, by unfold PS.failH; rw [hr.hd hc he]⟩) (fun hn => absurd he hn), fun _ => rfl⟩
  · have hb := (knd_adv hl 0 d h c hc hd).bad he
    unfold Rv
    rw [hb]
    unfold qknd
    rw [if_pos (hr.e1 he)]
    exact ⟨hr, fun hn => absurd hn he⟩
 | n + 1, d, h => fun c x hc hd hr => by
  by_cases he : c.e = 0
  · show Rv l (Go.Proofs.YtldjakeigjngoaaGreat.kndB l (kndP l n) c) (if x.e ≠ 0 then (ztP, x) else qkndB (qknd n) x)
    rw [if_neg (by rw [hr.e0 he]; decide)]
    exact hr.kndB hl hc (by omega) he (by rw [hd]; exact knd_adv hl n (d + 1) (by omega)) (by rw [hd]; exact knd_rel n (d + 1) (by omega))
  · have hb := (knd_adv hl (n + 1) d h c hc hd).bad he
    unfold Rv
    rw [hb]
    unfold qknd
    rw [if_pos (hr.e1 he)]
    exact ⟨hr, fun hn => absurd hn he⟩
end
structure QA (x y : PS) : Prop where
 on : x.On y
 ok : y.Ok
section
variable {x y z : PS}
theorem QA.refl (h : x.Ok) : QA x x := ⟨.refl x, h⟩
theorem QA.trans (h : QA x y) (h' : QA y z) : QA x z := ⟨h.on.trans h'.on, h'.ok⟩
theorem QA.adv (h : x.Ok) {t : List UInt8} (hb : x.mayB t = true) : QA x x.adv := ⟨.adv x, h.adv (PS.mayB_hd hb).2.2⟩
theorem QA.advK (h : x.Ok) (h0 : (hdT x.l).1 ≠ 0) : QA x x.adv := ⟨.adv x, h.adv h0⟩
theorem QA.must (h : x.Ok) (t : List UInt8) : QA x (x.must t) := ⟨.must x t, h.must t⟩
theorem QA.any (h : x.Ok) {k : Int} (hk : k ≠ 0) : QA x (x.any k) := ⟨.any x k, h.any hk⟩
theorem QA.odd (h : x.Ok) : QA x x.odd := ⟨.fail x _, h.fail _⟩
theorem QA.same (h : x.Ok) (h1 : y.l = x.l) (h2 : y.c = x.c) (h3 : y.off = x.off) : QA x y := ⟨⟨0, by omega, by rw [h1]; rfl, by omega⟩, h.same h1 h2⟩
theorem QA.failH (h : x.Ok) (e : Int) : QA x (x.failH e) := .same h rfl rfl rfl
theorem QA.needK (h : x.Ok) {k : Int} (hk : k ≠ 0) (t : List UInt8) : QA x (x.needK k t) := by
 unfold PS.needK; split
 · rename_i hb; exact .advK h (by rw [hb.2.1]; exact hk)
 · exact .odd h
theorem QA.lab : ∀ (n : Nat) {x : PS} (_ : x.Ok) (y : List WordT), QA x (qlabGo n x y).2
 | 0, x, h, y => .refl h
 | n + 1, x, h, y => by
  unfold qlabGo; split
  · rename_i hb
    have h1 := QA.adv h hb
    have h2 := h1.trans (.any h1.ok (by decide : (1 : Int) ≠ 0))
    exact h2.trans (QA.lab n h2.ok _)
  · exact .refl h
theorem QA.qlab (h : x.Ok) : QA x (qlab x).2 := by
 have h1 := QA.any h (by decide : (1 : Int) ≠ 0)
 exact h1.trans (.lab _ h1.ok _)
theorem QA.num (h : x.Ok) : QA x (qnum x).2 := by
 have h1 := QA.must h [40]
 have h2 := h1.trans (.any h1.ok (by decide : (2 : Int) ≠ 0))
 exact h2.trans (.must h2.ok _)
theorem QA.atL (h : x.Ok) : QA x (qatL x).2 := by
 unfold qatL; split
 · rename_i hb
   have h1 := QA.adv h hb
   exact h1.trans (.qlab h1.ok)
 · exact .refl h
theorem QA.co (h : x.Ok) : QA x (qco x).2 := by
 unfold qco; split
 · exact .refl h
 split
 · exact .odd h
 rename_i h1
 have h1 : (hdT x.l).1 = 1 := Classical.byContradiction fun hn => h1 hn
 have ha := QA.advK h (by rw [h1]; decide)
 split
 · have h2 := ha.trans (.num ha.ok); exact h2.trans (.atL h2.ok)
 split
 · have h2 := ha.trans (.num ha.ok); exact h2.trans (.atL h2.ok)
 split
 · exact ha.trans (.atL ha.ok)
 · exact .failH h 9
theorem QA.wid (h : x.Ok) : QA x (qwid x).2 := by
 unfold qwid; split
 · rename_i hb
   have h1 := QA.adv h hb
   exact h1.trans (.any h1.ok (by decide))
 · exact .refl h
theorem QA.see (h : x.Ok) : QA x (qsee x).2 := by
 unfold qsee; split
 · rename_i hb
   have h1 := QA.adv h hb
   exact h1.trans (.co h1.ok)
 · exact .refl h
theorem QA.mk' (h : x.Ok) : QA x (qmk x).2 := by
 have h1 := QA.atL h
 have h2 := h1.trans (.wid h1.ok)
 exact h2.trans (.see h2.ok)
def QdA (qd : PS → TypP × PS) : Prop := ∀ x, x.Ok → QA x (qd x).2
variable {qd : PS → TypP × PS}
theorem QA.prt (hk : QdA qd) (h : x.Ok) (tag : Bool) : QA x (qprt qd tag x).2 := by
 have h1 := QA.any h (by decide : (1 : Int) ≠ 0)
 unfold qprt; split
 · have h2 := h1.trans (.must h1.ok [58])
   have h3 := h2.trans (hk _ h2.ok)
   exact h3.trans (.mk' h3.ok)
 split
 · rename_i hb
   have h2 := h1.trans (.adv h1.ok hb)
   have h3 := h2.trans (hk _ h2.ok)
   have h4 := h3.trans (.must h3.ok [41])
   exact h4.trans (.mk' h4.ok)
 · exact h1
theorem QA.lst {α : Type} {one : PS → α × PS} {e : List UInt8} (ho : ∀ x, x.Ok → QA x (one x).2) : ∀ (n : Nat) {x : PS} (_ : x.Ok) (y : List α), QA x (qlstGo one e n x y).2
 | 0, x, h, y => .refl h
 | n + 1, x, h, y => by
  unfold qlstGo; split
  · exact .refl h
  have h1 := ho x h
  split
  · rename_i hb; exact h1.trans (.adv h1.ok hb)
  · have h2 := h1.trans (.must h1.ok [44])
    exact h2.trans (QA.lst ho n h2.ok _)
theorem QA.nams (h : x.Ok) (e : List UInt8) : QA x (qnams e x).2 := .lst (fun _ h => .any h (by decide)) _ h _
theorem QA.prtsB (hk : QdA qd) (h : x.Ok) (tag : Bool) : QA x (qprtsB qd tag x).2 := by
 unfold qprtsB; split
 · rename_i hb; exact .adv h hb.1
 · exact .lst (fun _ h => .prt hk h tag) _ h _
theorem QA.prts (hk : QdA qd) (h : x.Ok) (tag : Bool) : QA x (qprts qd tag x).2 := by
 have h1 := QA.must h [123]
 exact h1.trans (.prtsB hk h1.ok tag)
theorem QA.bod (hk : QdA qd) (h : x.Ok) (w : List UInt8) (a : Int) : QA x (qbod qd w a x).2.2 := by
 have n1 := QA.must h [40]
 unfold qbod
 split
 · exact .refl h
 split
 · have h2 := n1.trans (.any n1.ok (by decide : (2 : Int) ≠ 0))
   have h3 := h2.trans (.must h2.ok [46, 46])
   have h4 := h3.trans (.any h3.ok (by decide : (2 : Int) ≠ 0))
   exact h4.trans (.must h4.ok _)
 split
 · exact .num h
 split
 · exact n1.trans (.nams n1.ok _)
 split
 · have h2 := n1.trans (hk _ n1.ok)
   have h3 := h2.trans (.must h2.ok [44])
   have h4 := h3.trans (.any h3.ok (by decide : (2 : Int) ≠ 0))
   exact h4.trans (.must h4.ok _)
 split
 · have h2 := n1.trans (hk _ n1.ok)
   exact h2.trans (.must h2.ok _)
 split
 · have h2 := n1.trans (.any n1.ok (by decide : (1 : Int) ≠ 0))
   exact h2.trans (.must h2.ok _)
 split
 · exact .prts hk h false
 split
 · exact .prts hk h true
 · exact .refl h
theorem QA.kndB (hk : QdA qd) (h : x.Ok) : QA x (qkndB qd x).2 := by
 unfold qkndB
 by_cases h1 : (hdT x.l).1 = 1
 · rw [if_pos h1]
   simp only
   have ha := QA.advK h (by rw [h1]; decide)
   split
   · exact ha.trans (.bod hk ha.ok _ _)
   · exact ha.trans (.same ha.ok rfl rfl rfl)
 · rw [if_neg h1]; exact .odd h
theorem QA.knd : ∀ (n : Nat), QdA (qknd n)
 | 0, x, h => by
  unfold qknd; split
  · exact .refl h
  · exact .failH h 6
 | n + 1, x, h => by
  unfold qknd; split
  · exact .refl h
  · exact .kndB (QA.knd n) h
theorem QA.len (h : QA x y) : y.l.length ≤ x.l.length := h.on.len
end
end Go.Proofs.YtldjakeigjngoaaGreat