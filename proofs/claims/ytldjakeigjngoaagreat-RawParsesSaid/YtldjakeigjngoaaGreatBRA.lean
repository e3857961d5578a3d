/- BRA: texts of this proof, joined by program: PlainRaw, TreeE, PlainStrip, RawCount, RawRise. -/
import Derived.Test.YtldjakeigjngoaaGreatBOA
import Derived.Test.YtldjakeigjngoaaGreatTreeRQ
import Derived.Test.YtldjakeigjngoaaGreatBRC
import Derived.Test.YtldjakeigjngoaaGreatBTK
/- Plain: values as they are written, of tokens. -/
set_option linter.unusedVariables false
set_option linter.unusedSimpArgs false
namespace Go.Proofs.YtldjakeigjngoaaGreat
open Go.RowKit Bf
inductive RawP where
 | mk (k a n : Int) (s : List UInt8) (keys : List WordT) (kids : List RawP)
def RawP.k : RawP → Int | .mk k _ _ _ _ _ => k
def RawP.a : RawP → Int | .mk _ a _ _ _ _ => a
def RawP.keys : RawP → List WordT | .mk _ _ _ _ l _ => l
def RawP.kids : RawP → List RawP | .mk _ _ _ _ _ l => l
inductive RR (α : Type) where
 | ok (v : α) (l : List TokT) (m : Int)
 | bad (e a : Int)
def RR.map {α β : Type} (f : α → β) : RR α → RR β
 | .ok v l m => .ok (f v) l m
 | .bad e a => .bad e a
def hdT (l : List TokT) : TokT := l.headD ztk
def mkB (l : List TokT) (t : List UInt8) : Bool := decide ((hdT l).1 = 4) && decide ((hdT l).2.2.2.1 = t)
def oddR {α : Type} (l : List TokT) : RR α := .bad (oddE (hdT l)).1 (oddE (hdT l)).2
def mustR {α : Type} (t : List UInt8) : RR α → RR α
 | .ok v l m => if mkB l t = true then .ok v l.tail m else oddR l
 | .bad e a => .bad e a
theorem mustR_eq {α : Type} (t : List UInt8) (v : α) (l : List TokT) (m : Int) : mustR t (.ok v l m) = if mkB l t = true then .ok v l.tail m else oddR l := rfl
def elR (val : List TokT → Int → RR RawP) (rec : Bool) (l : List TokT) (m : Int) : RR (List WordT × RawP) :=
 if rec = true then
  (if (hdT l).1 = 1 then (if mkB l.tail [58] = true then (val l.tail.tail m).map fun v => ([((hdT l).2.2.2.1, (hdT l).2.1)], v) else oddR l.tail) else oddR l)
 else (val l m).map fun v => ([], v)
def rowsR (val : List TokT → Int → RR RawP) (rec : Bool) (e : List UInt8) : Nat → List TokT → Int → List WordT → List RawP → RR (List WordT × List RawP)
 | 0, _, _, _, _ => .bad 1 0
 | n + 1, l, m, ks, vs => match elR val rec l m with
  | .bad e a => .bad e a
  | .ok (k, v) l' m' => if mkB l' e = true then .ok (ks ++ k, vs ++ [v]) l'.tail m' else if mkB l' [44] = true then rowsR val rec e n l'.tail m' (ks ++ k) (vs ++ [v]) else oddR l'
def bodyR (val : List TokT → Int → RR RawP) (rec : Bool) (e : List UInt8) (l : List TokT) (m : Int) : RR (List WordT × List RawP) :=
 if mkB l e = true then .ok ([], []) l.tail m else rowsR val rec e l.length l m [] []
def valR : Nat → List TokT → Int → RR RawP
 | 0, l, _ => .bad 6 (hdT l).2.1
 | d + 1, l, m =>
  if m = 4096 then .bad 8 (hdT l).2.1
  else if mkB l [123] = true then (bodyR (valR d) true [125] l.tail (m + 1)).map fun r => .mk 5 (hdT l).2.1 0 [] r.1 r.2
  else if mkB l [91] = true then (bodyR (valR d) false [93] l.tail (m + 1)).map fun r => .mk 4 (hdT l).2.1 0 [] r.1 r.2
  else if (hdT l).1 = 2 then .ok (.mk 2 (hdT l).2.1 (hdT l).2.2.2.2 [] [] []) l.tail (m + 1)
  else if (hdT l).1 = 3 then .ok (.mk 3 (hdT l).2.1 0 (hdT l).2.2.2.1 [] []) l.tail (m + 1)
  else if (hdT l).1 = 1 then
   (if mkB l.tail [40] = true then (mustR [41] (valR d l.tail.tail (m + 1))).map fun v => .mk 6 (hdT l).2.1 0 (hdT l).2.2.2.1 [] [v]
    else .ok (.mk 1 (hdT l).2.1 0 (hdT l).2.2.2.1 [] []) l.tail (m + 1))
  else oddR l
def rawR (s : List UInt8) : RR RawP :=
 if (scanR s).2.1 ≠ 0 then .bad (scanR s).2.1 (scanR s).2.2
 else match valR 24 (scanR s).1 0 with
  | .ok v l m => if (hdT l).1 = 0 then .ok v l m else oddR l
  | .bad e a => .bad e a
/-! ### How many, and how deep -/
mutual
def cntR : RawP → Int
 | .mk _ _ _ _ _ l => 1 + cntRs l
def cntRs : List RawP → Int
 | [] => 0
 | x :: l => cntR x + cntRs l
end
mutual
def depR : RawP → Int
 | .mk _ _ _ _ _ l => 1 + depRs l
def depRs : List RawP → Int
 | [] => 0
 | x :: l => max (depR x) (depRs l)
end
structure ValOk (d m : Int) (v : RawP) (m' : Int) : Prop where
 n : m' = m + cntR v
 le : m' ≤ 4096
 dep : depR v ≤ d
structure RowOk (d m : Int) (vs : List RawP) (m' : Int) : Prop where
 n : m' = m + cntRs vs
 le : m' ≤ 4096
 dep : depRs vs ≤ d
theorem map_ok {α β : Type} {f : α → β} {r : RR α} {v : β} {l : List TokT} {m : Int} (h : r.map f = .ok v l m) : ∃ u, r = .ok u l m ∧ v = f u := by
 cases r with
 | ok u l2 m2 => cases h; exact ⟨u, rfl, rfl⟩
 | bad e a => cases h
/-! ### Places rise -/
def RiseS (n : Int) : Int → List TokT → Prop
 | _, [] => True
 | i, t :: l => i ≤ t.2.1 ∧ (t.1 ≠ 0 → t.2.1 < t.2.2.1 ∧ t.2.2.1 ≤ n) ∧ RiseS n t.2.2.1 l
mutual
def risR : RawP → Int → Int × Bool
 | .mk _ a _ _ keys kids, last => if a < last then (0, false) else risRs kids keys a
def risRs : List RawP → List WordT → Int → Int × Bool
 | [], _, last => (last, true)
 | x :: l, [], last => if (risR x (last + 1)).2 = true then risRs l [] (risR x (last + 1)).1 else ((risR x (last + 1)).1, false)
 | x :: l, k :: ks, last => if last < k.2 then (if (risR x (k.2 + 1)).2 = true then risRs l ks (risR x (k.2 + 1)).1 else ((risR x (k.2 + 1)).1, false)) else (k.2, false)
end
theorem risRs_list {v : RawP} {y : Int} : ∀ {vs : List RawP} {a x : Int}, risRs vs [] a = (x, true) → risR v (x + 1) = (y, true) → risRs (vs ++ [v]) [] a = (y, true)
 | [], a, x, h, hv => by simp only [risRs] at h; cases h; simp [risRs, hv]
 | u :: vs, a, x, h, hv => by
  simp only [risRs] at h
  split at h
  · rename_i hu
    simp only [List.cons_append, risRs, hu, if_true]
    exact risRs_list h hv
  · cases h
theorem risRs_rec {v : RawP} {k : WordT} {y : Int} : ∀ {vs : List RawP} {ks : List WordT} {a x : Int}, vs.length = ks.length → risRs vs ks a = (x, true) → x < k.2 → risR v (k.2 + 1) = (y, true) → risRs (vs ++ [v]) (ks ++ [k]) a = (y, true)
 | [], [], a, x, _, h, hk, hv => by simp only [risRs] at h; cases h; simp [risRs, hv, hk]
 | u :: vs, w :: ks, a, x, hl, h, hk, hv => by
  simp only [risRs] at h
  split at h
  · rename_i hw
    split at h
    · rename_i hu
      simp only [List.cons_append, risRs, hw, hu, if_true]
      exact risRs_rec (by simpa using hl) h hk hv
    · cases h
  · cases h
def RisV (n : Int) (L : List TokT) (v : RawP) (l' : List TokT) : Prop :=
 ∀ p last, RiseS n p L → last ≤ (hdT L).2.1 → ∃ x p', risR v last = (x, true) ∧ last ≤ x ∧ p ≤ x ∧ x < p' ∧ p' ≤ n ∧ RiseS n p' l'
theorem hd_ne {L : List TokT} (h : (hdT L).1 ≠ 0) : ∃ t l, L = t :: l ∧ hdT L = t := by
 cases L with
 | nil => exact absurd rfl h
 | cons t l => exact ⟨t, l, rfl, rfl⟩
theorem mk_hd {L : List TokT} {t : List UInt8} (h : mkB L t = true) : (hdT L).1 = 4 := by unfold mkB at h; simp only [Bool.and_eq_true, decide_eq_true_eq] at h; exact h.1
theorem ris_tok {n p : Int} {L : List TokT} (h : RiseS n p L) (h0 : (hdT L).1 ≠ 0) : p ≤ (hdT L).2.1 ∧ ∃ q, (hdT L).2.1 < q ∧ q ≤ n ∧ RiseS n q L.tail := by
 obtain ⟨t, l, rfl, ht⟩ := hd_ne h0
 exact ⟨h.1, t.2.2.1, (h.2.1 h0).1, (h.2.1 h0).2, h.2.2⟩
theorem ris_hd {n p : Int} {L : List TokT} (h : RiseS n p L) (h0 : (hdT L).1 ≠ 0) : p ≤ (hdT L).2.1 := (ris_tok h h0).1
structure RisB (n a : Int) (rec : Bool) (ks : List WordT) (vs : List RawP) (l' : List TokT) : Prop where
 len : if rec = true then vs.length = ks.length else ks = []
 go : ∃ x p', risRs vs ks a = (x, true) ∧ a ≤ x ∧ x < p' ∧ p' ≤ n ∧ RiseS n p' l'
theorem RisB.add {n a : Int} {rec : Bool} {val : List TokT → Int → RR RawP} (hv : ∀ l m v l' m', val l m = .ok v l' m' → RisV n l v l' ∧ (hdT l).1 ≠ 0) {ks : List WordT} {vs : List RawP} {l l' : List TokT} {m m' : Int} {k : List WordT} {v : RawP}
 (hB : RisB n a rec ks vs l) (h : elR val rec l m = .ok (k, v) l' m') : RisB n a rec (ks ++ k) (vs ++ [v]) l' := by
 obtain ⟨hlen, x, p, h1, h2, h3, h4, h5⟩ := hB
 unfold elR at h
 split at h
 · rename_i hrec
   rw [if_pos hrec] at hlen
   split at h
   · rename_i hk1
     split at h
     · rename_i hm
       obtain ⟨u, hu, he⟩ := map_ok h
       cases he
       obtain ⟨hr, hne⟩ := hv _ _ _ _ _ hu
       obtain ⟨hp, q, hq, hqn, hr1⟩ := ris_tok h5 (by rw [hk1]; decide)
       obtain ⟨hp2, q2, hq2, _, hr2⟩ := ris_tok hr1 (by rw [mk_hd hm]; decide)
       have hp3 := ris_hd hr2 hne
       obtain ⟨y, p', hy, hy1, hy2, hy3, hy4, hy5⟩ := hr q2 ((hdT l).2.1 + 1) hr2 (by omega)
       exact ⟨by rw [if_pos hrec]; simp [hlen], y, p', risRs_rec hlen h1 (by simp only; omega) hy, by omega, hy3, hy4, hy5⟩
     · cases h
   · cases h
 · rename_i hrec
   rw [if_neg hrec] at hlen
   subst hlen
   obtain ⟨u, hu, he⟩ := map_ok h
   cases he
   obtain ⟨hr, hne⟩ := hv _ _ _ _ _ hu
   have hp3 := ris_hd h5 hne
   obtain ⟨y, p', hy, hy1, hy2, hy3, hy4, hy5⟩ := hr p (x + 1) h5 (by omega)
   exact ⟨by rw [if_neg hrec]; rfl, y, p', by simpa using risRs_list h1 hy, by omega, hy3, hy4, hy5⟩
theorem RisB.tok {n a : Int} {rec : Bool} {ks : List WordT} {vs : List RawP} {l : List TokT} {t : List UInt8} (hB : RisB n a rec ks vs l) (h : mkB l t = true) : RisB n a rec ks vs l.tail := by
 obtain ⟨hlen, x, p, h1, h2, h3, h4, h5⟩ := hB
 obtain ⟨hp, q, hq, hqn, hr⟩ := ris_tok h5 (by rw [mk_hd h]; decide)
 exact ⟨hlen, x, q, h1, h2, by omega, hqn, hr⟩
/-! ### What is wrong lies in the text -/
def AtB (n : Int) (l : List TokT) : Prop := ∀ t ∈ l, 0 ≤ t.2.1 ∧ t.2.1 ≤ n
theorem AtB.tail {n : Int} {l : List TokT} (h : AtB n l) : AtB n l.tail := fun t ht => h t (List.mem_of_mem_tail ht)
theorem AtB.hd {n : Int} {l : List TokT} (h : AtB n l) (hn : 0 ≤ n) : 0 ≤ (hdT l).2.1 ∧ (hdT l).2.1 ≤ n := by
 cases l with
 | nil => exact ⟨Int.le_refl _, hn⟩
 | cons t l => exact h t (by simp)
def BadB {α : Type} (n : Int) : RR α → Prop
 | .ok _ l _ => AtB n l
 | .bad e a => e ≠ 0 ∧ 0 ≤ a ∧ a ≤ n
theorem BadB.map {α β : Type} {n : Int} {f : α → β} {r : RR α} (h : BadB n r) : BadB n (r.map f) := by cases r <;> exact h
theorem BadB.odd {α : Type} {n : Int} {l : List TokT} (h : AtB n l) (hn : 0 ≤ n) : BadB n (oddR l : RR α) := ⟨oddE_ne _, h.hd hn⟩
end Go.Proofs.YtldjakeigjngoaaGreat
/- Raw values that a call has made: where they lie, what they are. -/
namespace Go.Proofs.YtldjakeigjngoaaGreat
open Go.RowKit Bf
theorem sizeR_kid {k a n : Int} {s : List UInt8} {pk : Option Addr} {ck : Nat} {keys : List WordT} {p : Option Addr} {c : Nat} {kids : List RawA} {x : RawA} (h : x ∈ kids) : SizeOf.sizeOf x < SizeOf.sizeOf (RawA.mk k a n s pk ck keys p c kids) := by
 have := List.sizeOf_lt_of_mem h
 simp; omega
def inSl (p : Option Addr) (b : Nat) : Prop := ∃ o, p = some o ∧ o.block = b
mutual
def domR : RawA → Nat → Prop
 | .mk _ _ _ _ pk _ _ p _ kids, b => inSl pk b ∨ inSl p b ∨ domRs kids b
def domRs : List RawA → Nat → Prop
 | [], _ => False
 | x :: l, b => domR x b ∨ domRs l b
end
theorem domRs_mem {b : Nat} : ∀ {l : List RawA} {x : RawA}, x ∈ l → domR x b → domRs l b
 | y :: l, x, h, hx => by
  simp only [List.mem_cons] at h
  simp only [domRs]
  rcases h with rfl | h
  · exact .inl hx
  · exact .inr (domRs_mem h hx)
theorem domRs_app {b : Nat} : ∀ {l k : List RawA}, domRs (l ++ k) b → domRs l b ∨ domRs k b
 | [], k, h => .inr h
 | x :: l, k, h => by
  simp only [List.cons_append, domRs] at h ⊢
  rcases h with h | h
  · exact .inl (.inl h)
  · rcases domRs_app h with h | h
    · exact .inl (.inr h)
    · exact .inr h
theorem domRs_one {b : Nat} {z : RawA} (h : domRs [z] b) : domR z b := by simpa [domRs] using h
theorem At.loc {w w' : World} {b off : Nat} {cs : List Value} (hb : w'.heap[b]? = w.heap[b]?) (h : At w b off cs) : At w' b off cs := fun j u hj => by rw [cell_same hb]; exact h j u hj
theorem IsSl.loc {w w' : World} {sz : Nat} {p : Option Addr} {n : Nat} {cs : List Value} (hb : ∀ b, inSl p b → w'.heap[b]? = w.heap[b]?) (h : IsSl w sz p n cs) : IsSl w' sz p n cs :=
 ⟨h.1, h.2.imp id fun ⟨b, off, e, h⟩ => ⟨b, off, e, h.loc (hb b ⟨_, e, rfl⟩)⟩⟩
inductive RawJ (w : World) : RawA → Prop where
 | mk (k a n : Int) (s : List UInt8) (pk : Option Addr) (ck : Nat) (keys : List WordT) (p : Option Addr) (c : Nat) (kids : List RawA)
  (hb : keys.length ≤ maxLen ∧ kids.length ≤ maxLen) (h1 : IsSl w 2 pk keys.length (keys.flatMap wordV)) (h2 : IsSl w 6 p kids.length (kids.flatMap rawV)) (h3 : ∀ x ∈ kids, RawJ w x) : RawJ w (.mk k a n s pk ck keys p c kids)
theorem RawJ.bl (t : RawA) : Bl fun w => RawJ w t := fun w w' hb h => by
 induction h with
 | mk k a n s pk ck keys p c kids b h1 h2 h3 ih => exact .mk k a n s pk ck keys p c kids b (IsSl.bl _ _ _ _ w w' hb h1) (IsSl.bl _ _ _ _ w w' hb h2) ih
theorem RawJ.loc {w w' : World} {t : RawA} (hb : ∀ b, domR t b → w'.heap[b]? = w.heap[b]?) (h : RawJ w t) : RawJ w' t := by
 induction h with
 | mk k a n s pk ck keys p c kids b h1 h2 h3 ih =>
  refine .mk k a n s pk ck keys p c kids b (h1.loc fun x hx => hb x ?_) (h2.loc fun x hx => hb x ?_) (fun x hx => ih x hx fun y hy => hb y ?_)
  · simp only [domR]; exact .inl hx
  · simp only [domR]; exact .inr (.inl hx)
  · simp only [domR]; exact .inr (.inr (domRs_mem hx hy))
def rawE (l : List RawA) : En := ⟨domRs l, fun w => ∀ z ∈ l, RawJ w z, fun w w' hb h z hz => (h z hz).loc fun b hd => hb b (domRs_mem hz hd)⟩
mutual
def plR : RawA → RawP
 | .mk k a n s _ _ keys _ _ kids => .mk k a n s keys (plRs kids)
def plRs : List RawA → List RawP
 | [] => []
 | x :: l => plR x :: plRs l
end
theorem plRs_app : ∀ (a b : List RawA), plRs (a ++ b) = plRs a ++ plRs b
 | [], b => rfl
 | x :: a, b => by simp [plRs, plRs_app a b]
theorem plRs_len : ∀ (a : List RawA), (plRs a).length = a.length
 | [] => rfl
 | x :: a => by simp [plRs, plRs_len a]
theorem plRs_get : ∀ (a : List RawA) (i : Nat), (plRs a)[i]? = (a[i]?).map plR
 | [], i => by simp [plRs]
 | x :: a, 0 => by simp [plRs]
 | x :: a, i + 1 => by simp [plRs, plRs_get a i]
theorem ownsRow_le {w : World} {e size n q : Nat} {p : Option Addr} {cs : List Value} (h : w.ownsRow 0 e size (.slice p n q) n cs) : n ≤ maxLen := by
 rcases h.2 with ⟨_, h0⟩ | ⟨g, cap, cur, hv, _, _, hle, hm, _⟩
 · omega
 · omega
section
variable {P : Program} {C : Cx} {k : List It} {fr : Fr} {hp : List En}
theorem sy_rawNil (h : Sy P C k fr (rawE [] :: hp)) : Sy P C k fr hp := sy_nothing _ (fun b hb => hb) (fun w z hz => by cases hz) h
theorem sy_rawAdd {l : List RawA} {z : RawA} (h : Sy P C k fr (rawE (l ++ [z]) :: hp)) : Sy P C k fr (rawE l :: rawE [z] :: hp) :=
 sy_join _ (fun b hb => domRs_app hb) (fun w h1 h2 x hx => by
  rcases List.mem_append.1 hx with hx | hx
  · exact h1 x hx
  · exact h2 x hx) h
end
theorem HpOk.rawMk {D : Nat → Prop} {w0 w : World} {hp : List En} {e1 e2 : TypeId} {k a n : Int} {s : List UInt8} {pk : Option Addr} {ck : Nat} {keys : List WordT} {p : Option Addr} {c : Nat} {kids : List RawA}
 (h : HpOk D w0 (vec e1 2 (.slice pk keys.length ck) keys.length (keys.flatMap wordV) :: vec e2 6 (.slice p kids.length c) kids.length (kids.flatMap rawV) :: rawE kids :: hp) w) : HpOk D w0 (rawE [.mk k a n s pk ck keys p c kids] :: hp) w := by
 refine (h.join.join).imp (fun b hd => ?_) (fun w hh z hz => ?_)
 · have hd := domRs_one hd
   simp only [domR] at hd
   rcases hd with ⟨o, rfl, rfl⟩ | ⟨o, rfl, rfl⟩ | hd
   · exact .inl (.inl rfl)
   · exact .inl (.inr rfl)
   · exact .inr hd
 · simp only [List.mem_singleton] at hz
   subst hz
   obtain ⟨⟨h1, h2⟩, h3⟩ := hh
   exact .mk k a n s pk ck keys p c kids ⟨ownsRow_le h1, ownsRow_le h2⟩ (holds_isSl h1) (holds_isSl h2) h3
theorem sy_rawMk {P : Program} {C : Cx} {k' : List It} {fr : Fr} {hp : List En} {e1 e2 : TypeId} {pk : Option Addr} {ck : Nat} {keys : List WordT} {p : Option Addr} {c : Nat} {kids : List RawA} (k a n : Int) (s : List UInt8)
 (h : Sy P C k' fr (rawE [.mk k a n s pk ck keys p c kids] :: hp)) : Sy P C k' fr (vec e1 2 (.slice pk keys.length ck) keys.length (keys.flatMap wordV) :: vec e2 6 (.slice p kids.length c) kids.length (kids.flatMap rawV) :: rawE kids :: hp) :=
 .mk fun a w ha hw => h.go a w ha hw.rawMk
end Go.Proofs.YtldjakeigjngoaaGreat
/- Plain: values without places; values that are the same. -/
namespace Go.Proofs.YtldjakeigjngoaaGreat
open Go.RowKit Bf
mutual
def samR : RawP → RawP → Bool
 | .mk k a n s keys kids, .mk k' a' n' s' keys' kids' => decide (k = k') && decide (a = a') && decide (n = n') && decide (s = s') && decide (keys = keys') && samRs kids kids'
def samRs : List RawP → List RawP → Bool
 | [], [] => true
 | x :: l, y :: m => samR x y && samRs l m
 | [], _ :: _ => false
 | _ :: _, [] => false
end
mutual
theorem samR_self : ∀ (x : RawP), samR x x = true
 | .mk k a n s keys kids => by simp [samR, samRs_self kids]
theorem samRs_self : ∀ (l : List RawP), samRs l l = true
 | [] => rfl
 | x :: l => by simp [samRs, samR_self x, samRs_self l]
end
theorem samRs_len : ∀ {l m : List RawP}, samRs l m = true → l.length = m.length
 | [], [], _ => rfl
 | x :: l, y :: m, h => by
  simp only [samRs, Bool.and_eq_true] at h
  simp [samRs_len h.2]
theorem samRs_at : ∀ {l m : List RawP}, l.length = m.length → (samRs l m = true ↔ ∀ (i : Nat) (x y : RawP), l[i]? = some x → m[i]? = some y → samR x y = true)
 | [], [], _ => by simp [samRs]
 | x :: l, y :: m, h => by
  have ih := samRs_at (l := l) (m := m) (by simpa using h)
  simp only [samRs, Bool.and_eq_true, ih]
  constructor
  · rintro ⟨h1, h2⟩ i u v hu hv
    cases i with
    | zero => simp at hu hv; subst hu; subst hv; exact h1
    | succ i => exact h2 i u v (by simpa using hu) (by simpa using hv)
  · intro h
    exact ⟨h 0 x y rfl rfl, fun i u v hu hv => h (i + 1) u v (by simpa using hu) (by simpa using hv)⟩
end Go.Proofs.YtldjakeigjngoaaGreat
/- Contracts: how many values are in one, how deep they lie, whether their places rise. -/
namespace Go.Proofs.YtldjakeigjngoaaGreat
open Go.RowKit Bf
def w64 (n : Int) : Int := IntKind.i64.wrap n
mutual
def cntW : RawP → Int
 | .mk _ _ _ _ _ l => cntWs 1 l
def cntWs : Int → List RawP → Int
 | n, [] => n
 | n, x :: l => cntWs (w64 (n + cntW x)) l
end
theorem cntWs_snoc : ∀ (l : List RawP) (x : RawP) (n : Int), cntWs n (l ++ [x]) = w64 (cntWs n l + cntW x)
 | [], x, n => by simp [cntWs]
 | y :: l, x, n => by simp only [List.cons_append, cntWs]; exact cntWs_snoc l x _
theorem take_snoc {α : Type} (l : List α) (i : Nat) (x : α) (h : l[i]? = some x) : l.take (i + 1) = l.take i ++ [x] := by
 obtain ⟨hlt, rfl⟩ := List.getElem?_eq_some_iff.1 h
 exact List.take_succ_eq_append_getElem hlt
theorem plRs_at {l : List RawA} {i : Nat} {z : RawA} (h : l[i]? = some z) : (plRs l)[i]? = some (plR z) := by rw [plRs_get, h]; rfl
theorem RawJ.parts {w : World} {k a n : Int} {s : List UInt8} {pk : Option Addr} {ck : Nat} {keys : List WordT} {p : Option Addr} {c : Nat} {kids : List RawA} (h : RawJ w (.mk k a n s pk ck keys p c kids)) :
 (keys.length ≤ maxLen ∧ kids.length ≤ maxLen) ∧ IsSl w 2 pk keys.length (keys.flatMap wordV) ∧ IsSl w 6 p kids.length (kids.flatMap rawV) ∧ ∀ x ∈ kids, RawJ w x := by
 cases h with
 | mk _ _ _ _ _ _ _ _ _ _ hb h1 h2 h3 => exact ⟨hb, h1, h2, h3⟩
set_option maxRecDepth 20000 in
set_option maxHeartbeats 4000000 in
theorem count_c : ∀ (m : Nat) (z : RawA), SizeOf.sizeOf z ≤ m → ∀ (w : World), RawJ w z → Calls Tryz.prog 17 #[.agg ⟨rawV z⟩] w fun e w' => e = .returned (.int .i64 (cntW (plR z))) ∧ Below w.heap.size w w' := by
 intro m
 induction m with
 | zero => intro z hz; cases z; simp at hz
 | succ m ih =>
  intro z hz w hw0
  obtain ⟨k, a, n, s, pk, ck, keys, p, c, kids⟩ := z
  obtain ⟨hb, hs1, hs2, hkid⟩ := hw0.parts
  have hm : kids.length ≤ 9223372036854775807 := hb.2
  have hst : St (fun _ => False) w (fun w => IsSl w 6 p kids.length (kids.flatMap rawV)) := St.start (IsSl.bl _ _ _ _) hs2
  have hstk : ∀ x ∈ kids, St (fun _ => False) w (fun w => RawJ w x) := fun x hx => St.start (RawJ.bl _) (hkid x hx)
  refine sy_enter rfl rfl ?_
  simp only [initFr]
  repeat (first | refine sy_k rfl rfl ?_ | (refine gO ?_; first | refine sy_ov (ov_p rfl) rfl rfl ?_ | (refine gK ?_; refine sy_ov (ov_lens rfl) rfl rfl ?_) | (refine gL ?_; refine sy_ov (ov_ld 0 rfl rfl rfl) rfl rfl ?_) | refine sy_ov (ov_fieldAddr rfl rfl rfl) rfl rfl ?_ | (refine sy_box rfl rfl rfl ?_; intro _)))
  rename_i b1
  refine sy_loop (α := Int) (fun i => [(3, .int .i64 (cntWs 1 ((plRs kids).take i.toNat))), (7, .slice p kids.length c), (8, .int .i64 (kids.length : Int)), (9, .int .i64 i)]) (fun _ => []) (fun i => 0 ≤ i ∧ i ≤ kids.length) (fun i => (kids.length - i).toNat) 0 ⟨by omega, by omega⟩ ⟨⟨_, rfl, rfl⟩, ⟨_, rfl, rfl⟩, ⟨_, rfl, rfl⟩, ⟨_, rfl, rfl⟩, trivial⟩ (List.nil_sublist _) ?_
  rintro i ⟨i0, i1⟩
  by_cases hlt : i < kids.length
  · obtain ⟨x, hx⟩ : ∃ x, kids[i.toNat]? = some x := ⟨_, List.getElem?_eq_getElem (by omega)⟩
    have hxm := List.mem_of_getElem? hx
    obtain ⟨b, off, hp, hat⟩ := hst.addr (by omega)
    subst hp
    have hsz := sizeR_kid (k := k) (a := a) (n := n) (s := s) (pk := pk) (ck := ck) (keys := keys) (p := some ⟨b, off, none⟩) (c := c) hxm
    have hrec := ih x (by omega)
    have htk : (plRs kids).take (i + 1).toNat = (plRs kids).take i.toNat ++ [plR x] := by rw [show (i + 1).toNat = i.toNat + 1 by omega]; exact take_snoc _ _ _ (plRs_at hx)
    repeat (first | refine sy_k rfl rfl ?_ | (refine gO ?_; first | refine sy_ov (ov_p rfl) rfl rfl ?_ | (refine sy_ov (ov_indexAddr rfl rfl ?_ ?_) rfl rfl ?_; omega; omega)) | (refine sy_cond_t rfl ?_ ?_; (first | with_reducible rfl | assumption | omega | (simp <;> first | omega | assumption))))
    refine sy_ov (ov_elem (f := rawV) hat hx rfl rfl rawV_len) rfl rfl ?_
    obtain ⟨xk, xa, xn, xs, xpk, xck, xkeys, xp, xc, xkids⟩ := x
    repeat (first | refine sy_k rfl rfl ?_ | (refine gO ?_; first | refine sy_ov (ov_p rfl) rfl rfl ?_ | (refine gL ?_; refine sy_ov (ov_ld 0 rfl rfl rfl) rfl rfl ?_) | (refine gS ?_; refine sy_store 0 rfl rfl rfl rfl rfl rfl rfl rfl ?_) | (refine sy_alloc rfl rfl rfl ?_; intro _)))
    refine sy_ov (ov_call rfl (fun w hw => hrec w ((hstk _ hxm).at hw))) rfl rfl ?_
    refine sy_ov (ov_addw rfl rfl) rfl rfl ?_
    repeat (first | refine sy_k rfl rfl ?_ | (refine gO ?_; first | refine sy_ov (ov_p rfl) rfl rfl ?_ | (refine gB ?_; (refine sy_ov (ov_ar rfl rfl rfl ?_ ?_) rfl rfl ?_; omega; omega))))
    refine sy_back (i + 1) ⟨by omega, by omega⟩ (by omega) ⟨⟨_, rfl, ?_⟩, ⟨_, rfl, rfl⟩, ⟨_, rfl, rfl⟩, ⟨_, rfl, rfl⟩, trivial⟩ (List.nil_sublist _)
    rw [htk, cntWs_snoc]; rfl
  · have hi : i = kids.length := by omega
    subst hi
    have hall : (plRs kids).take (kids.length : Int).toNat = plRs kids := by rw [List.take_of_length_le]; rw [plRs_len]; omega
    rw [hall]
    repeat (first | refine sy_k rfl rfl ?_ | (refine gO ?_; refine sy_ov (ov_p rfl) rfl rfl ?_) | (refine sy_cond_f rfl ?_ ?_; (first | with_reducible rfl | assumption | omega | (simp <;> first | omega | assumption))) | refine sy_rt ?_)
    exact ret1 rfl rfl rfl
end Go.Proofs.YtldjakeigjngoaaGreat
/- Contract: whether the places in a value rise; counts that are small. -/
namespace Go.Proofs.YtldjakeigjngoaaGreat
open Go.RowKit Bf
structure RiSt where
 i : Int
 last : Int
/-! ### Counts that are small -/
end Go.Proofs.YtldjakeigjngoaaGreat