/- BPU: texts of this proof, joined by program: PlainTok3, PlainTok5, PlainCur2. -/
import Derived.Test.YtkaeihlpdceokaaBPT
import Derived.Test.YtkaeihlpdceokaaCells3Q
/- Plain: a token's bytes alone, and what lies between tokens. -/
set_option linter.unusedVariables false
set_option linter.unusedSimpArgs false
namespace Go.Proofs.Ytkaeihlpdceokaa
open Go.RowKit Bf
def onlyEnd (q : List UInt8) : Prop := scanT q 0 = ([(0, (q.length : Int), (q.length : Int), [], 0)], 0, 0)
end Go.Proofs.Ytkaeihlpdceokaa
/- Plain: all that the cover says about the tokens of a text. -/
namespace Go.Proofs.Ytkaeihlpdceokaa
open Go.RowKit Bf
def Alone (q : List UInt8) (t : TokT) : Prop := (t.1 = 0 ∧ q = []) ∨ (t.1 ≠ 0 ∧ ∃ u : TokT, scanT q 0 = ([u, (0, (q.length : Int), (q.length : Int), [], 0)], 0, 0) ∧ u.1 = t.1 ∧ u.2.2.2.1 = t.2.2.2.1 ∧ u.2.2.2.2 = t.2.2.2.2)
def CovL (s : List UInt8) : Nat → List TokT → Prop
 | _, [] => True
 | i, t :: l => ∃ a b : Nat, t.2.1 = a ∧ t.2.2.1 = b ∧ i ≤ a ∧ a ≤ b ∧ b ≤ s.length ∧ (t.1 = 0 ↔ l = []) ∧ onlyEnd ((s.drop i).take (a - i)) ∧ Alone ((s.drop a).take (b - a)) t ∧ CovL s b l
theorem CovL.at {s : List UInt8} : ∀ {l : List TokT} {i j : Nat}, CovL s i (l.drop j) → j < l.length → ∃ t, l[j]? = some t ∧ ∃ a b : Nat, t.2.1 = a ∧ t.2.2.1 = b ∧ i ≤ a ∧ a ≤ b ∧ b ≤ s.length ∧ (t.1 = 0 ↔ j + 1 = l.length) ∧ onlyEnd ((s.drop i).take (a - i)) ∧ Alone ((s.drop a).take (b - a)) t ∧ CovL s b (l.drop (j + 1)) := by
 intro l i j h hj
 rw [List.drop_eq_getElem_cons hj] at h
 obtain ⟨a, b, h1, h2, h3, h4, h5, h6, h7, h8, h9⟩ := h
 refine ⟨l[j], List.getElem?_eq_getElem hj, a, b, h1, h2, h3, h4, h5, ?_, h7, h8, h9⟩
 rw [h6, List.drop_eq_nil_iff]; omega
end Go.Proofs.Ytkaeihlpdceokaa
/- Plain: tokens rise; a cursor that goes on and on; one that has failed. -/
namespace Go.Proofs.Ytkaeihlpdceokaa
open Go.RowKit Bf
def Rise (n : Int) : Int → List TokT → Prop
 | _, [] => True
 | i, t :: l => i ≤ t.2.1 ∧ (t.2.1 ≤ t.2.2.1 ∧ (t.1 = 0 → t.2.2.1 = t.2.1)) ∧ t.2.2.1 ≤ n ∧ Rise n t.2.2.1 l
theorem Rise.mono {n : Int} : ∀ {l : List TokT} {i j : Int}, Rise n i l → j ≤ i → Rise n j l
 | [], _, _, _, _ => trivial
 | t :: l, i, j, h, hj => ⟨Int.le_trans hj h.1, h.2⟩
theorem Rise.get {n : Int} : ∀ {l : List TokT} {i : Int} {j : Nat} {t : TokT}, Rise n i l → l[j]? = some t → i ≤ t.2.1 ∧ (t.2.1 ≤ t.2.2.1 ∧ (t.1 = 0 → t.2.2.1 = t.2.1)) ∧ t.2.2.1 ≤ n ∧ ∀ u, l[j + 1]? = some u → t.2.2.1 ≤ u.2.1
 | [], _, j, t, _, h => by simp at h
 | x :: l, i, 0, t, hr, h => by
  simp only [List.getElem?_cons_zero, Option.some.injEq] at h
  subst h
  refine ⟨hr.1, hr.2.1, hr.2.2.1, fun u hu => ?_⟩
  simp only [List.getElem?_cons_succ] at hu
  cases l with
  | nil => simp at hu
  | cons y l => simp only [List.getElem?_cons_zero, Option.some.injEq] at hu; subst hu; exact hr.2.2.2.1
 | x :: l, i, j + 1, t, hr, h => by
  simp only [List.getElem?_cons_succ] at h
  have := Rise.get hr.2.2.2 h
  have h1 := hr.1
  have h2 := hr.2.1.1
  exact ⟨by omega, this.2.1, this.2.2.1, fun u hu => this.2.2.2 u (by simpa using hu)⟩
structure StayInv (s : List UInt8) (l : List TokT) (k : Int) (c : CurT) (at_ : Int) : Prop where
 ok : CurOk l c
 e0 : c.e = 0
 a0 : c.a = 0
 d0 : c.d = 0
 far : c.i = k ∨ c.i + 1 = l.length
 le : ∀ t, l[c.i.toNat]? = some t → at_ ≤ t.2.1
theorem StayInv.start {s : List UInt8} {l : List TokT} (hl : TokOk l) (hr : Rise s.length 0 l) : StayInv s l 0 ⟨0, 0, 0, 0⟩ 0 :=
 ⟨⟨Int.le_refl _, by have := hl.n; simp only; omega, Int.le_refl _, by decide⟩, rfl, rfl, rfl, .inl rfl, fun t ht => (hr.get ht).1⟩
theorem StayInv.step {s : List UInt8} {l : List TokT} {k : Int} {c : CurT} {at_ : Int} (h : StayInv s l k c at_) (hl : TokOk l) (hr : Rise s.length 0 l) (hk : 0 ≤ k) :
 StayInv s l (k + 1) (nextT l c) (peekT l c).2.2.1 ∧ at_ ≤ (peekT l c).2.1 ∧ (peekT l c).2.2.1 ≤ s.length := by
 obtain ⟨t, ht, hg⟩ := h.ok.get
 have hp : peekT l c = t := by rw [peekT_ok l c h.e0, hg]
 have hrg := hr.get ht
 have i0 := h.ok.i0
 have i1 := h.ok.i1
 have hf := hl.fin _ t ht
 refine ⟨?_, by rw [hp]; exact h.le t ht, by rw [hp]; exact hrg.2.2.1⟩
 rw [hp]
 by_cases h0 : t.1 = 0
 · have hn : nextT l c = c := by unfold nextT; rw [hp, if_pos h0]
   rw [hn]
   have hlast := hf.1 h0
   have hend := hrg.2.1
   refine ⟨h.ok, h.e0, h.a0, h.d0, .inr (by omega), fun u hu => ?_⟩
   rw [ht] at hu; cases hu
   have := hrg.2.1.2 h0
   omega
 · have hn : nextT l c = ⟨c.i + 1, c.d, c.e, c.a⟩ := by unfold nextT; rw [hp, if_neg h0]
   rw [hn]
   have hnl := (not_congr hf).1 h0
   refine ⟨⟨by simp only; omega, by simp only; omega, h.ok.d0, h.ok.d1⟩, h.e0, h.a0, h.d0, ?_, fun u hu => ?_⟩
   · simp only
     rcases h.far with h1 | h1
     · exact .inl (by omega)
     · exfalso; omega
   · refine hrg.2.2.2 u ?_
     simp only at hu
     rw [← hu]; congr 1; omega
end Go.Proofs.Ytkaeihlpdceokaa