/- BRA: texts of this proof, joined by program: TreeR, PlainRaw, TreeE, PlainStrip, RawCount. -/
import Derived.Test.YtkaeihlpdceokaaBEX
import Derived.Test.YtkaeihlpdceokaaBOA
import Derived.Test.YtkaeihlpdceokaaBRC
import Derived.Test.YtkaeihlpdceokaaBTK
/- Raw values in memory. -/
set_option linter.unusedVariables false
set_option linter.unusedSimpArgs false
namespace Go.Proofs.Ytkaeihlpdceokaa
open Go.RowKit Go.Deep
abbrev WordT := List UInt8 × Int
def wordV (x : WordT) : List Value := [S x.1, .int .i64 x.2]
inductive RawA where
 | mk (k a n : Int) (s : List UInt8) (pk : Option Addr) (ck : Nat) (keys : List WordT) (p : Option Addr) (c : Nat) (kids : List RawA)
def RawA.k : RawA → Int | .mk k _ _ _ _ _ _ _ _ _ => k
def RawA.a : RawA → Int | .mk _ a _ _ _ _ _ _ _ _ => a
def RawA.n : RawA → Int | .mk _ _ n _ _ _ _ _ _ _ => n
def RawA.s : RawA → List UInt8 | .mk _ _ _ s _ _ _ _ _ _ => s
def RawA.keys : RawA → List WordT | .mk _ _ _ _ _ _ l _ _ _ => l
def RawA.kids : RawA → List RawA | .mk _ _ _ _ _ _ _ _ _ l => l
def rawV : RawA → List Value
 | .mk k a n s pk ck keys p c kids => [.int .i64 k, .int .i64 a, .int .i64 n, S s, .slice pk keys.length ck, .slice p kids.length c]
def I64 (n : Int) : Prop := -9223372036854775808 ≤ n ∧ n ≤ 9223372036854775807
inductive RawIn (w : World) : RawA → Prop where
 | mk (k a n : Int) (s : List UInt8) (pk : Option Addr) (ck : Nat) (keys : List WordT) (p : Option Addr) (c : Nat) (kids : List RawA)
  (hb : I64 k ∧ I64 a ∧ I64 n ∧ s.length ≤ maxLen ∧ keys.length ≤ maxLen ∧ kids.length ≤ maxLen) (hw : ∀ x ∈ keys, I64 x.2 ∧ x.1.length ≤ maxLen)
  (h1 : IsSl w 2 pk keys.length (keys.flatMap wordV)) (h2 : IsSl w 6 p kids.length (kids.flatMap rawV)) (h3 : ∀ x ∈ kids, RawIn w x) : RawIn w (.mk k a n s pk ck keys p c kids)
theorem RawIn.bl (t : RawA) : Bl fun w => RawIn w t := fun w w' hb h => by
 induction h with
 | mk k a n s pk ck keys p c kids b hw h1 h2 h3 ih => exact .mk k a n s pk ck keys p c kids b hw (IsSl.bl _ _ _ _ w w' hb h1) (IsSl.bl _ _ _ _ w w' hb h2) ih
section
variable {H : Type} {enc : TypeId × Value → H} {w : World} {base : Nat} {spare : Nat → Bool} {held : Bool}
end
end Go.Proofs.Ytkaeihlpdceokaa
/- Plain: values as they are written, of tokens. -/
namespace Go.Proofs.Ytkaeihlpdceokaa
open Go.RowKit Bf
inductive RawP where
 | mk (k a n : Int) (s : List UInt8) (keys : List WordT) (kids : List RawP)
def RawP.k : RawP → Int | .mk k _ _ _ _ _ => k
def RawP.a : RawP → Int | .mk _ a _ _ _ _ => a
def RawP.keys : RawP → List WordT | .mk _ _ _ _ l _ => l
def RawP.kids : RawP → List RawP | .mk _ _ _ _ _ l => l
inductive RR (α : Type) where
 | ok (v : α) (l : List TokT) (m : Int)
 | bad (e a : Int)
def RR.map {α β : Type} (f : α → β) : RR α → RR β
 | .ok v l m => .ok (f v) l m
 | .bad e a => .bad e a
def hdT (l : List TokT) : TokT := l.headD ztk
def mkB (l : List TokT) (t : List UInt8) : Bool := decide ((hdT l).1 = 4) && decide ((hdT l).2.2.2.1 = t)
def oddR {α : Type} (l : List TokT) : RR α := .bad (oddE (hdT l)).1 (oddE (hdT l)).2
def elR (val : List TokT → Int → RR RawP) (rec : Bool) (l : List TokT) (m : Int) : RR (List WordT × RawP) :=
 if rec = true then
  (if (hdT l).1 = 1 then (if mkB l.tail [58] = true then (val l.tail.tail m).map fun v => ([((hdT l).2.2.2.1, (hdT l).2.1)], v) else oddR l.tail) else oddR l)
 else (val l m).map fun v => ([], v)
/-! ### How many, and how deep -/
mutual
def cntR : RawP → Int
 | .mk _ _ _ _ _ l => 1 + cntRs l
def cntRs : List RawP → Int
 | [] => 0
 | x :: l => cntR x + cntRs l
end
mutual
def depR : RawP → Int
 | .mk _ _ _ _ _ l => 1 + depRs l
def depRs : List RawP → Int
 | [] => 0
 | x :: l => max (depR x) (depRs l)
end
structure ValOk (d m : Int) (v : RawP) (m' : Int) : Prop where
 n : m' = m + cntR v
 le : m' ≤ 4096
 dep : depR v ≤ d
structure RowOk (d m : Int) (vs : List RawP) (m' : Int) : Prop where
 n : m' = m + cntRs vs
 le : m' ≤ 4096
 dep : depRs vs ≤ d
theorem map_ok {α β : Type} {f : α → β} {r : RR α} {v : β} {l : List TokT} {m : Int} (h : r.map f = .ok v l m) : ∃ u, r = .ok u l m ∧ v = f u := by
 cases r with
 | ok u l2 m2 => cases h; exact ⟨u, rfl, rfl⟩
 | bad e a => cases h
/-! ### Places rise -/
def RiseS (n : Int) : Int → List TokT → Prop
 | _, [] => True
 | i, t :: l => i ≤ t.2.1 ∧ (t.1 ≠ 0 → t.2.1 < t.2.2.1 ∧ t.2.2.1 ≤ n) ∧ RiseS n t.2.2.1 l
mutual
def risR : RawP → Int → Int × Bool
 | .mk _ a _ _ keys kids, last => if a < last then (0, false) else risRs kids keys a
def risRs : List RawP → List WordT → Int → Int × Bool
 | [], _, last => (last, true)
 | x :: l, [], last => if (risR x (last + 1)).2 = true then risRs l [] (risR x (last + 1)).1 else ((risR x (last + 1)).1, false)
 | x :: l, k :: ks, last => if last < k.2 then (if (risR x (k.2 + 1)).2 = true then risRs l ks (risR x (k.2 + 1)).1 else ((risR x (k.2 + 1)).1, false)) else (k.2, false)
end
theorem risRs_list {v : RawP} {y : Int} : ∀ {vs : List RawP} {a x : Int}, risRs vs [] a = (x, true) → risR v (x + 1) = (y, true) → risRs (vs ++ [v]) [] a = (y, true)
 | [], a, x, h, hv => by simp only [risRs] at h; cases h; simp [risRs, hv]
 | u :: vs, a, x, h, hv => by
  simp only [risRs] at h
  split at h
  · rename_i hu
    simp only [List.cons_append, risRs, hu, if_true]
    exact risRs_list h hv
  · cases h
theorem risRs_rec {v : RawP} {k : WordT} {y : Int} : ∀ {vs : List RawP} {ks : List WordT} {a x : Int}, vs.length = ks.length → risRs vs ks a = (x, true) → x < k.2 → risR v (k.2 + 1) = (y, true) → risRs (vs ++ [v]) (ks ++ [k]) a = (y, true)
 | [], [], a, x, _, h, hk, hv => by simp only [risRs] at h; cases h; simp [risRs, hv, hk]
 | u :: vs, w :: ks, a, x, hl, h, hk, hv => by
  simp only [risRs] at h
  split at h
  · rename_i hw
    split at h
    · rename_i hu
      simp only [List.cons_append, risRs, hw, hu, if_true]
      exact risRs_rec (by simpa using hl) h hk hv
    · cases h
  · cases h
def RisV (n : Int) (L : List TokT) (v : RawP) (l' : List TokT) : Prop :=
 ∀ p last, RiseS n p L → last ≤ (hdT L).2.1 → ∃ x p', risR v last = (x, true) ∧ last ≤ x ∧ p ≤ x ∧ x < p' ∧ p' ≤ n ∧ RiseS n p' l'
theorem hd_ne {L : List TokT} (h : (hdT L).1 ≠ 0) : ∃ t l, L = t :: l ∧ hdT L = t := by
 cases L with
 | nil => exact absurd rfl h
 | cons t l => exact ⟨t, l, rfl, rfl⟩
theorem mk_hd {L : List TokT} {t : List UInt8} (h : mkB L t = true) : (hdT L).1 = 4 := by unfold mkB at h; simp only [Bool.and_eq_true, decide_eq_true_eq] at h; exact h.1
theorem ris_tok {n p : Int} {L : List TokT} (h : RiseS n p L) (h0 : (hdT L).1 ≠ 0) : p ≤ (hdT L).2.1 ∧ ∃ q, (hdT L).2.1 < q ∧ q ≤ n ∧ RiseS n q L.tail := by
 obtain ⟨t, l, rfl, ht⟩ := hd_ne h0
 exact ⟨h.1, t.2.2.1, (h.2.1 h0).1, (h.2.1 h0).2, h.2.2⟩
theorem ris_hd {n p : Int} {L : List TokT} (h : RiseS n p L) (h0 : (hdT L).1 ≠ 0) : p ≤ (hdT L).2.1 := (ris_tok h h0).1
structure RisB (n a : Int) (rec : Bool) (ks : List WordT) (vs : List RawP) (l' : List TokT) : Prop where
 len : if rec = true then vs.length = ks.length else ks = []
 go : ∃ x p', risRs vs ks a = (x, true) ∧ a ≤ x ∧ x < p' ∧ p' ≤ n ∧ RiseS n p' l'
theorem RisB.add {n a : Int} {rec : Bool} {val : List TokT → Int → RR RawP} (hv : ∀ l m v l' m', val l m = .ok v l' m' → RisV n l v l' ∧ (hdT l).1 ≠ 0) {ks : List WordT} {vs : List RawP} {l l' : List TokT} {m m' : Int} {k : List WordT} {v : RawP}
 (hB : RisB n a rec ks vs l) (h : elR val rec l m = .ok (k, v) l' m') : RisB n a rec (ks ++ k) (vs ++ [v]) l' := by
 obtain ⟨hlen, x, p, h1, h2, h3, h4, h5⟩ := hB
 unfold elR at h
 split at h
 · rename_i hrec
   rw [if_pos hrec] at hlen
   split at h
   · rename_i hk1
     split at h
     · rename_i hm
       obtain ⟨u, hu, he⟩ := map_ok h
       cases he
       obtain ⟨hr, hne⟩ := hv _ _ _ _ _ hu
       obtain ⟨hp, q, hq, hqn, hr1⟩ := ris_tok h5 (by rw [hk1]; decide)
       obtain ⟨hp2, q2, hq2, _, hr2⟩ := ris_tok hr1 (by rw [mk_hd hm]; decide)
       have hp3 := ris_hd hr2 hne
       obtain ⟨y, p', hy, hy1, hy2, hy3, hy4, hy5⟩ := hr q2 ((hdT l).2.1 + 1) hr2 (by omega)
       exact ⟨by rw [if_pos hrec]; simp [hlen], y, p', risRs_rec hlen h1 (by simp only; omega) hy, by omega, hy3, hy4, hy5⟩
     · cases h
   · cases h
 · rename_i hrec
   rw [if_neg hrec] at hlen
   subst hlen
   obtain ⟨u, hu, he⟩ := map_ok h
   cases he
   obtain ⟨hr, hne⟩ := hv _ _ _ _ _ hu
   have hp3 := ris_hd h5 hne
   obtain ⟨y, p', hy, hy1, hy2, hy3, hy4, hy5⟩ := hr p (x + 1) h5 (by omega)
   exact ⟨by rw [if_neg hrec]; rfl, y, p', by simpa using risRs_list h1 hy, by omega, hy3, hy4, hy5⟩
/-! ### What is wrong lies in the text -/
def AtB (n : Int) (l : List TokT) : Prop := ∀ t ∈ l, 0 ≤ t.2.1 ∧ t.2.1 ≤ n
theorem AtB.tail {n : Int} {l : List TokT} (h : AtB n l) : AtB n l.tail := fun t ht => h t (List.mem_of_mem_tail ht)
theorem AtB.hd {n : Int} {l : List TokT} (h : AtB n l) (hn : 0 ≤ n) : 0 ≤ (hdT l).2.1 ∧ (hdT l).2.1 ≤ n := by
 cases l with
 | nil => exact ⟨Int.le_refl _, hn⟩
 | cons t l => exact h t (by simp)
def BadB {α : Type} (n : Int) : RR α → Prop
 | .ok _ l _ => AtB n l
 | .bad e a => e ≠ 0 ∧ 0 ≤ a ∧ a ≤ n
theorem BadB.map {α β : Type} {n : Int} {f : α → β} {r : RR α} (h : BadB n r) : BadB n (r.map f) := by cases r <;> exact h
end Go.Proofs.Ytkaeihlpdceokaa
/- Raw values that a call has made: where they lie, what they are. -/
namespace Go.Proofs.Ytkaeihlpdceokaa
open Go.RowKit Bf
def inSl (p : Option Addr) (b : Nat) : Prop := ∃ o, p = some o ∧ o.block = b
mutual
def domR : RawA → Nat → Prop
 | .mk _ _ _ _ pk _ _ p _ kids, b => inSl pk b ∨ inSl p b ∨ domRs kids b
def domRs : List RawA → Nat → Prop
 | [], _ => False
 | x :: l, b => domR x b ∨ domRs l b
end
theorem domRs_mem {b : Nat} : ∀ {l : List RawA} {x : RawA}, x ∈ l → domR x b → domRs l b
 | y :: l, x, h, hx => by
  simp only [List.mem_cons] at h
  simp only [domRs]
  rcases h with rfl | h
  · exact .inl hx
  · exact .inr (domRs_mem h hx)
theorem At.loc {w w' : World} {b off : Nat} {cs : List Value} (hb : w'.heap[b]? = w.heap[b]?) (h : At w b off cs) : At w' b off cs := fun j u hj => by rw [cell_same hb]; exact h j u hj
theorem IsSl.loc {w w' : World} {sz : Nat} {p : Option Addr} {n : Nat} {cs : List Value} (hb : ∀ b, inSl p b → w'.heap[b]? = w.heap[b]?) (h : IsSl w sz p n cs) : IsSl w' sz p n cs :=
 ⟨h.1, h.2.imp id fun ⟨b, off, e, h⟩ => ⟨b, off, e, h.loc (hb b ⟨_, e, rfl⟩)⟩⟩
inductive RawJ (w : World) : RawA → Prop where
 | mk (k a n : Int) (s : List UInt8) (pk : Option Addr) (ck : Nat) (keys : List WordT) (p : Option Addr) (c : Nat) (kids : List RawA)
  (hb : keys.length ≤ maxLen ∧ kids.length ≤ maxLen) (h1 : IsSl w 2 pk keys.length (keys.flatMap wordV)) (h2 : IsSl w 6 p kids.length (kids.flatMap rawV)) (h3 : ∀ x ∈ kids, RawJ w x) : RawJ w (.mk k a n s pk ck keys p c kids)
theorem RawIn.toJ {w : World} {t : RawA} (h : RawIn w t) : RawJ w t := by
 induction h with
 | mk k a n s pk ck keys p c kids b hw h1 h2 h3 ih => exact .mk k a n s pk ck keys p c kids ⟨b.2.2.2.2.1, b.2.2.2.2.2⟩ h1 h2 ih
theorem RawJ.bl (t : RawA) : Bl fun w => RawJ w t := fun w w' hb h => by
 induction h with
 | mk k a n s pk ck keys p c kids b h1 h2 h3 ih => exact .mk k a n s pk ck keys p c kids b (IsSl.bl _ _ _ _ w w' hb h1) (IsSl.bl _ _ _ _ w w' hb h2) ih
theorem RawJ.loc {w w' : World} {t : RawA} (hb : ∀ b, domR t b → w'.heap[b]? = w.heap[b]?) (h : RawJ w t) : RawJ w' t := by
 induction h with
 | mk k a n s pk ck keys p c kids b h1 h2 h3 ih =>
  refine .mk k a n s pk ck keys p c kids b (h1.loc fun x hx => hb x ?_) (h2.loc fun x hx => hb x ?_) (fun x hx => ih x hx fun y hy => hb y ?_)
  · simp only [domR]; exact .inl hx
  · simp only [domR]; exact .inr (.inl hx)
  · simp only [domR]; exact .inr (.inr (domRs_mem hx hy))
section
variable {P : Program} {C : Cx} {k : List It} {fr : Fr} {hp : List En}
end
end Go.Proofs.Ytkaeihlpdceokaa
/- Plain: values without places; values that are the same. -/
namespace Go.Proofs.Ytkaeihlpdceokaa
open Go.RowKit Bf
end Go.Proofs.Ytkaeihlpdceokaa
/- Contracts: how many values are in one, how deep they lie, whether their places rise. -/
namespace Go.Proofs.Ytkaeihlpdceokaa
open Go.RowKit Bf
theorem RawJ.parts {w : World} {k a n : Int} {s : List UInt8} {pk : Option Addr} {ck : Nat} {keys : List WordT} {p : Option Addr} {c : Nat} {kids : List RawA} (h : RawJ w (.mk k a n s pk ck keys p c kids)) :
 (keys.length ≤ maxLen ∧ kids.length ≤ maxLen) ∧ IsSl w 2 pk keys.length (keys.flatMap wordV) ∧ IsSl w 6 p kids.length (kids.flatMap rawV) ∧ ∀ x ∈ kids, RawJ w x := by
 cases h with
 | mk _ _ _ _ _ _ _ _ _ _ hb h1 h2 h3 => exact ⟨hb, h1, h2, h3⟩
end Go.Proofs.Ytkaeihlpdceokaa