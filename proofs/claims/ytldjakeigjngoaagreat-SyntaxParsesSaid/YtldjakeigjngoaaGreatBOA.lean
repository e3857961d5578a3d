/- BOA: texts of this proof, joined by program: PlainOpt, PlainOpt2, OptIn, Opt, OptPart, OptParse. -/
import Derived.Test.YtldjakeigjngoaaGreatBPU
import Derived.Test.YtldjakeigjngoaaGreatBEX
import Derived.Test.YtldjakeigjngoaaGreatBCX
import Derived.Test.YtldjakeigjngoaaGreatBLP
import Derived.Test.YtldjakeigjngoaaGreatNamesQ
import Derived.Test.YtldjakeigjngoaaGreatBRC
import Derived.Test.YtldjakeigjngoaaGreatBTK
import Derived.Test.YtldjakeigjngoaaGreatBTR
set_option linter.unusedVariables false
set_option linter.unusedSimpArgs false
namespace Go.Proofs.YtldjakeigjngoaaGreat
open Go.RowKit Bf
abbrev OptT := Int × Int × Int × List UInt8
def zopt : OptT := (0, 0, 0, [])
def compactL : List UInt8 := [99, 111, 109, 112, 97, 99, 116]
def prettyL : List UInt8 := [112, 114, 101, 116, 116, 121]
def lineL : List UInt8 := [108, 105, 110, 101]
def widthL' : List UInt8 := [119, 105, 100, 116, 104]
def indentL : List UInt8 := [105, 110, 100, 101, 110, 116]
def modeL : List UInt8 := [109, 111, 100, 101]
def obsL : List UInt8 := [111, 98, 115, 101, 114, 118, 101, 114]
def modN (s : List UInt8) : Int := if s = compactL then 1 else if s = prettyL then 2 else if s = lineL then 3 else 0
def whN (s : List UInt8) : Int := if s = widthL' then 0 else if s = indentL then 1 else if s = modeL then 2 else if s = obsL then 3 else 4
def widB (n : Int) : Bool := decide (1 ≤ n) && decide (n ≤ 1000)
def indB (n : Int) : Bool := decide (0 ≤ n) && decide (n ≤ 16)
def oddE (t : TokT) : Int × Int := (if t.1 = 0 then 5 else 4, t.2.1)
def putO (k : Int) (o : OptT) (v : TokT) : OptT × Int × Int :=
 if k = 0 then (if v.1 ≠ 2 then (o, oddE v) else if widB v.2.2.2.2 = true then ((v.2.2.2.2, o.2), 0, 0) else (o, 20, v.2.1))
 else if k = 1 then (if v.1 ≠ 2 then (o, oddE v) else if indB v.2.2.2.2 = true then ((o.1, v.2.2.2.2, o.2.2), 0, 0) else (o, 20, v.2.1))
 else if k = 2 then (if v.1 ≠ 1 then (o, oddE v) else if modN v.2.2.2.1 = 0 then (o, 9, v.2.1) else ((o.1, o.2.1, modN v.2.2.2.1, o.2.2.2), 0, 0))
 else (if v.1 ≠ 1 then (o, oddE v) else ((o.1, o.2.1, o.2.2.1, v.2.2.2.1), 0, 0))
def optL : List TokT → OptT → List Bool → OptT × Int × Int
 | [], o, _ => (o, 0, 0)
 | [t], o, _ => if t.1 = 0 then (o, 0, 0) else (zopt, oddE t)
 | [t, u], o, had => if t.1 = 0 then (o, 0, 0) else if t.1 ≠ 1 then (zopt, oddE t) else if whN t.2.2.2.1 = 4 then (zopt, 9, t.2.1) else if had.getD (whN t.2.2.2.1).toNat false = true then (zopt, 10, t.2.1) else (zopt, oddE u)
 | t :: u :: v :: r, o, had => if t.1 = 0 then (o, 0, 0) else if t.1 ≠ 1 then (zopt, oddE t) else if whN t.2.2.2.1 = 4 then (zopt, 9, t.2.1) else if had.getD (whN t.2.2.2.1).toNat false = true then (zopt, 10, t.2.1)
  else if ¬ (u.1 = 4 ∧ u.2.2.2.1 = [61]) then (zopt, oddE u)
  else if (putO (whN t.2.2.2.1) o v).2.1 ≠ 0 then (zopt, (putO (whN t.2.2.2.1) o v).2) else optL r (putO (whN t.2.2.2.1) o v).1 (had.set (whN t.2.2.2.1).toNat true)
/-! ### One part -/
section
variable {l : List TokT} {i : Nat} {o : OptT} {had : List Bool} {R : OptT × Int × Int} {t u v : TokT}
theorem drop_get (h : l[i]? = some t) : l.drop i = t :: l.drop (i + 1) := by
 obtain ⟨hlt, rfl⟩ := List.getElem?_eq_some_iff.1 h
 exact List.drop_eq_getElem_cons hlt
theorem opt_bad (h : optL (l.drop i) o had = R) (ht : l[i]? = some t) (hu : l[i + 1]? = some u) (hv : l[i + 2]? = some v) (h1 : t.1 = 1) (h2 : whN t.2.2.2.1 ≠ 4) (h3 : had.getD (whN t.2.2.2.1).toNat false = false) (h4 : u.1 = 4 ∧ u.2.2.2.1 = [61])
 (h5 : (putO (whN t.2.2.2.1) o v).2.1 ≠ 0) : R = (zopt, (putO (whN t.2.2.2.1) o v).2) := by
 subst h
 rw [drop_get ht, drop_get hu, drop_get hv]
 rw [List.getD_eq_getElem?_getD] at h3
 simp only [optL]; rw [if_neg (by omega), if_neg (by omega), if_neg h2, if_neg (by simp [h3]), if_neg (fun h => h h4), if_pos h5]
theorem opt_step (h : optL (l.drop i) o had = R) (ht : l[i]? = some t) (hu : l[i + 1]? = some u) (hv : l[i + 2]? = some v) (h1 : t.1 = 1) (h2 : whN t.2.2.2.1 ≠ 4) (h3 : had.getD (whN t.2.2.2.1).toNat false = false) (h4 : u.1 = 4 ∧ u.2.2.2.1 = [61])
 (h5 : (putO (whN t.2.2.2.1) o v).2.1 = 0) : optL (l.drop (i + 3)) (putO (whN t.2.2.2.1) o v).1 (had.set (whN t.2.2.2.1).toNat true) = R := by
 subst h
 rw [drop_get ht, drop_get hu, drop_get hv]
 rw [List.getD_eq_getElem?_getD] at h3
 simp only [optL]; rw [if_neg (by omega), if_neg (by omega), if_neg h2, if_neg (by simp [h3]), if_neg (fun h => h h4), if_neg (by omega)]
end
/-! ### What is read is right -/
theorem oddE_ne (t : TokT) : (oddE t).1 ≠ 0 := by unfold oddE; simp only; split <;> decide
/-! ### The text of options -/
theorem whN_ways (s : List UInt8) : (whN s = 0 ∧ s = widthL') ∨ (whN s = 1 ∧ s = indentL) ∨ (whN s = 2 ∧ s = modeL) ∨ (whN s = 3 ∧ s = obsL) ∨ (whN s = 4 ∧ s ≠ widthL' ∧ s ≠ indentL ∧ s ≠ modeL ∧ s ≠ obsL) := by
 unfold whN
 by_cases h1 : s = widthL'
 · subst h1; exact .inl ⟨rfl, rfl⟩
 · by_cases h2 : s = indentL
   · subst h2; exact .inr (.inl ⟨rfl, rfl⟩)
   · by_cases h3 : s = modeL
     · subst h3; exact .inr (.inr (.inl ⟨rfl, rfl⟩))
     · by_cases h4 : s = obsL
       · subst h4; exact .inr (.inr (.inr (.inl ⟨rfl, rfl⟩)))
       · exact .inr (.inr (.inr (.inr ⟨by rw [if_neg h1, if_neg h2, if_neg h3, if_neg h4], h1, h2, h3, h4⟩)))
end Go.Proofs.YtldjakeigjngoaaGreat
namespace Go.Proofs.YtldjakeigjngoaaGreat
open Go.RowKit Go.Deep Bf
section
variable {H : Type} {enc : TypeId × Value → H} {w : World} {base : Nat} {spare : Nat → Bool} {held : Bool}
end
end Go.Proofs.YtldjakeigjngoaaGreat
namespace Go.Proofs.YtldjakeigjngoaaGreat
open Go.RowKit Bf
abbrev HadT := Bool × Bool × Bool × Bool
def hdL (h : HadT) : List Bool := [h.1, h.2.1, h.2.2.1, h.2.2.2]
def wrongT (l : List TokT) (c : CurT) : CurT := failT l c (if (peekT l c).1 = 0 then 5 else 4)
theorem CurOk.wrong {l : List TokT} {c : CurT} (h : CurOk l c) : CurOk l (wrongT l c) := h.fail _
theorem cur_take_t (b : Nat) (p : Option Addr) (q : Nat) (l : List TokT) (c : CurT) (hl : TokOk l) (hc : CurOk l c) (k : Int) (h : takT l c k = true) : CurCalls 54 [.int .i64 k] b p q l c (.tuple #[.agg ⟨tokV (peekT l c)⟩, .bool true]) (nextT l c) := by
 have := cur_take b p q l c hl hc k
 unfold takV goT at this
 rw [h, if_pos rfl, if_pos rfl] at this; exact this
theorem cur_take_f (b : Nat) (p : Option Addr) (q : Nat) (l : List TokT) (c : CurT) (hl : TokOk l) (hc : CurOk l c) (k : Int) (h : takT l c k = false) : CurCalls 54 [.int .i64 k] b p q l c (.tuple #[.agg ⟨tokV ztk⟩, .bool false]) c := by
 have := cur_take b p q l c hl hc k
 unfold takV goT at this
 rw [h, if_neg (by decide), if_neg (by decide)] at this; exact this
section
variable (rb cb : Nat) (p : Option Addr) (q : Nat) (l : List TokT) (c : CurT) (o : OptT) (h : HadT)
def namTk (l : List TokT) (c : CurT) : TokT := if takT l c 1 = true then peekT l c else ztk
def namCu (l : List TokT) (c : CurT) : CurT := if takT l c 1 = true then nextT l c else wrongT l c
def numN (l : List TokT) (c : CurT) : Int := if takT l c 2 = true then (peekT l c).2.2.2.2 else 0
end
/-! ### What a part comes to -/
def PartP (l : List TokT) (i : Int) (R : OptT × Int × Int) (c' : CurT) (o' : OptT) (h' : HadT) : Prop :=
 CurOk l c' ∧ ((c'.e ≠ 0 ∧ R = (zopt, c'.e, c'.a)) ∨ (c'.e = 0 ∧ c'.a = 0 ∧ i < c'.i ∧ optL (l.drop c'.i.toNat) o' (hdL h') = R))
def hset (k : Int) (h : HadT) : HadT := if k = 0 then (true, h.2) else if k = 1 then (h.1, true, h.2.2) else if k = 2 then (h.1, h.2.1, true, h.2.2.2) else (h.1, h.2.1, h.2.2.1, true)
theorem hset_hdL (k : Int) (h : HadT) (h0 : 0 ≤ k) (h3 : k ≤ 3) : hdL (hset k h) = (hdL h).set k.toNat true := by
 have : k = 0 ∨ k = 1 ∨ k = 2 ∨ k = 3 := by omega
 rcases this with rfl | rfl | rfl | rfl <;> rfl
theorem whN_bd (s : List UInt8) : 0 ≤ whN s ∧ whN s ≤ 4 := by
 rcases whN_ways s with ⟨h, _⟩ | ⟨h, _⟩ | ⟨h, _⟩ | ⟨h, _⟩ | ⟨h, _⟩ <;> omega
section
variable {l : List TokT} {c c2 c' : CurT} {o o' : OptT} {h : HadT} {R : OptT × Int × Int} {t u v : TokT} {k : Int}
theorem peek_at (e0 : c.e = 0) (ht : l[c.i.toNat]? = some t) : peekT l c = t := by
 rw [peekT_ok l c e0, List.getD_eq_getElem?_getD, ht]; rfl
theorem next_at (e0 : c.e = 0) (ht : l[c.i.toNat]? = some t) (h0 : t.1 ≠ 0) : nextT l c = ⟨c.i + 1, c.d, c.e, c.a⟩ := by
 unfold nextT; rw [peek_at e0 ht, if_neg h0]
theorem CurOk.at (hc : CurOk l c) {i d e a : Int} (h0 : 0 ≤ i) (h1 : i < l.length) (hd : d = c.d) : CurOk l ⟨i, d, e, a⟩ := by
 subst hd; exact ⟨h0, h1, hc.d0, hc.d1⟩
theorem part_fin (hc : CurOk l c) (hR : optL (l.drop c.i.toNat) o (hdL h) = R) (ht : l[c.i.toNat]? = some t) (hu : l[c.i.toNat + 1]? = some u) (hv : l[c.i.toNat + 2]? = some v) (t1 : t.1 = 1) (hk : whN t.2.2.2.1 = k) (k4 : k ≠ 4) (hh : (hdL h).getD k.toNat false = false)
 (h4 : u.1 = 4 ∧ u.2.2.2.1 = [61]) (hcase : (CurOk l c' ∧ c'.i = c.i + 3 ∧ c'.e = 0 ∧ c'.a = 0 ∧ putO k o v = (o', 0, 0)) ∨ (CurOk l c' ∧ c'.e ≠ 0 ∧ (putO k o v).2 = (c'.e, c'.a))) : PartP l c.i R c' o' (hset k h) := by
 subst hk
 have hb := whN_bd t.2.2.2.1
 have i0 := hc.i0
 rcases hcase with ⟨h1, h2, h3, h5, hp⟩ | ⟨h1, h2, hp⟩
 · refine ⟨h1, .inr ⟨h3, h5, by omega, ?_⟩⟩
   have := opt_step hR ht hu hv t1 k4 hh h4 (by rw [hp])
   rw [hp] at this
   rw [hset_hdL _ _ hb.1 (by omega), h2, show (c.i + 3).toNat = c.i.toNat + 3 by omega]
   exact this
 · refine ⟨h1, .inl ⟨h2, ?_⟩⟩
   have := opt_bad hR ht hu hv t1 k4 hh h4 (by rw [hp]; exact h2)
   rw [this, hp]
structure In2 (l : List TokT) (c c2 : CurT) (o : OptT) (h : HadT) (R : OptT × Int × Int) (t u v : TokT) (k : Int) : Prop where
 hl : TokOk l
 hc : CurOk l c
 hc2 : CurOk l c2
 e0 : c2.e = 0
 a0 : c2.a = 0
 hi : c2.i = c.i + 2
 hR : optL (l.drop c.i.toNat) o (hdL h) = R
 ht : l[c.i.toNat]? = some t
 hu : l[c.i.toNat + 1]? = some u
 hv : l[c.i.toNat + 2]? = some v
 t1 : t.1 = 1
 hk : whN t.2.2.2.1 = k
 k4 : k ≠ 4
 hh : (hdL h).getD k.toNat false = false
 h4 : u.1 = 4 ∧ u.2.2.2.1 = [61]
theorem In2.fin (x : In2 l c c2 o h R t u v k) (hcase : (CurOk l c' ∧ c'.i = c.i + 3 ∧ c'.e = 0 ∧ c'.a = 0 ∧ putO k o v = (o', 0, 0)) ∨ (CurOk l c' ∧ c'.e ≠ 0 ∧ (putO k o v).2 = (c'.e, c'.a))) : PartP l c.i R c' o' (hset k h) :=
 part_fin x.hc x.hR x.ht x.hu x.hv x.t1 x.hk x.k4 x.hh x.h4 hcase
theorem In2.v2 (x : In2 l c c2 o h R t u v k) : l[c2.i.toNat]? = some v := by
 have i0 := x.hc.i0
 rw [x.hi, show (c.i + 2).toNat = c.i.toNat + 2 by omega]; exact x.hv
theorem In2.nam (x : In2 l c c2 o h R t u v k) (h1 : v.1 = 1) : namTk l c2 = v ∧ namCu l c2 = ⟨c2.i + 1, c2.d, 0, 0⟩ ∧ CurOk l ⟨c2.i + 1, c2.d, 0, 0⟩ := by
 have hpk := peek_at x.e0 x.v2
 have hn := next_at x.e0 x.v2 (by omega)
 have ht : takT l c2 1 = true := by unfold takT; rw [hpk, h1]; rfl
 have hcn := x.hc2.next x.hl
 have e1 : nextT l c2 = ⟨c2.i + 1, c2.d, 0, 0⟩ := by rw [hn, x.e0, x.a0]
 unfold namTk namCu
 rw [if_pos ht, if_pos ht, hpk, e1]
 rw [e1] at hcn
 exact ⟨rfl, rfl, hcn⟩
end
theorem scanR_a0 {s : List UInt8} {L : List TokT} {a : Int} (h : scanR s = (L, 0, a)) : a = 0 := by
 unfold scanR at h
 split at h
 · cases h
 · have := scanT_clean s _ 0 (Nat.le_refl _)
   rw [h] at this
   unfold comb at this
   simp only [if_true] at this
   exact (Prod.mk.inj (Prod.mk.inj this).2).2.symm
theorem scanR_cnt {s : List UInt8} {L : List TokT} {a : Int} (h : scanR s = (L, 0, a)) : L.length ≤ 65537 := by
 unfold scanR at h
 split at h
 · cases h
 · have h3 := scanT_count s _ 0 (Nat.le_refl _)
   rw [h] at h3
   simp only at h3
   omega
structure OpSt where
 c : CurT
 o : OptT
 h : HadT
end Go.Proofs.YtldjakeigjngoaaGreat