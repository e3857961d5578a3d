/- BRA: texts of this proof, joined by program: PlainRaw, TreeE, PlainStrip, RawCount, RawRise. -/
import Derived.Test.YtldjakeigjngoaaBOA
import Derived.Test.YtldjakeigjngoaaTreeRQ
import Derived.Test.YtldjakeigjngoaaBRC
import Derived.Test.YtldjakeigjngoaaBTK
/- Plain: values as they are written, of tokens. -/
set_option linter.unusedVariables false
set_option linter.unusedSimpArgs false
namespace Go.Proofs.Ytldjakeigjngoaa
open Go.RowKit Bf
inductive RawP where
 | mk (k a n : Int) (s : List UInt8) (keys : List WordT) (kids : List RawP)
def RawP.k : RawP → Int | .mk k _ _ _ _ _ => k
def RawP.a : RawP → Int | .mk _ a _ _ _ _ => a
def RawP.keys : RawP → List WordT | .mk _ _ _ _ l _ => l
def RawP.kids : RawP → List RawP | .mk _ _ _ _ _ l => l
inductive RR (α : Type) where
 | ok (v : α) (l : List TokT) (m : Int)
 | bad (e a : Int)
def RR.map {α β : Type} (f : α → β) : RR α → RR β
 | .ok v l m => .ok (f v) l m
 | .bad e a => .bad e a
def hdT (l : List TokT) : TokT := l.headD ztk
def mkB (l : List TokT) (t : List UInt8) : Bool := decide ((hdT l).1 = 4) && decide ((hdT l).2.2.2.1 = t)
def oddR {α : Type} (l : List TokT) : RR α := .bad (oddE (hdT l)).1 (oddE (hdT l)).2
def mustR {α : Type} (t : List UInt8) : RR α → RR α
 | .ok v l m => if mkB l t = true then .ok v l.tail m else oddR l
 | .bad e a => .bad e a
theorem mustR_eq {α : Type} (t : List UInt8) (v : α) (l : List TokT) (m : Int) : mustR t (.ok v l m) = if mkB l t = true then .ok v l.tail m else oddR l := rfl
def elR (val : List TokT → Int → RR RawP) (rec : Bool) (l : List TokT) (m : Int) : RR (List WordT × RawP) :=
 if rec = true then
  (if (hdT l).1 = 1 then (if mkB l.tail [58] = true then (val l.tail.tail m).map fun v => ([((hdT l).2.2.2.1, (hdT l).2.1)], v) else oddR l.tail) else oddR l)
 else (val l m).map fun v => ([], v)
def rowsR (val : List TokT → Int → RR RawP) (rec : Bool) (e : List UInt8) : Nat → List TokT → Int → List WordT → List RawP → RR (List WordT × List RawP)
 | 0, _, _, _, _ => .bad 1 0
 | n + 1, l, m, ks, vs => match elR val rec l m with
  | .bad e a => .bad e a
  | .ok (k, v) l' m' => if mkB l' e = true then .ok (ks ++ k, vs ++ [v]) l'.tail m' else if mkB l' [44] = true then rowsR val rec e n l'.tail m' (ks ++ k) (vs ++ [v]) else oddR l'
def bodyR (val : List TokT → Int → RR RawP) (rec : Bool) (e : List UInt8) (l : List TokT) (m : Int) : RR (List WordT × List RawP) :=
 if mkB l e = true then .ok ([], []) l.tail m else rowsR val rec e l.length l m [] []
def valR : Nat → List TokT → Int → RR RawP
 | 0, l, _ => .bad 6 (hdT l).2.1
 | d + 1, l, m =>
  if m = 4096 then .bad 8 (hdT l).2.1
  else if mkB l [123] = true then (bodyR (valR d) true [125] l.tail (m + 1)).map fun r => .mk 5 (hdT l).2.1 0 [] r.1 r.2
  else if mkB l [91] = true then (bodyR (valR d) false [93] l.tail (m + 1)).map fun r => .mk 4 (hdT l).2.1 0 [] r.1 r.2
  else if (hdT l).1 = 2 then .ok (.mk 2 (hdT l).2.1 (hdT l).2.2.2.2 [] [] []) l.tail (m + 1)
  else if (hdT l).1 = 3 then .ok (.mk 3 (hdT l).2.1 0 (hdT l).2.2.2.1 [] []) l.tail (m + 1)
  else if (hdT l).1 = 1 then
   (if mkB l.tail [40] = true then (mustR [41] (valR d l.tail.tail (m + 1))).map fun v => .mk 6 (hdT l).2.1 0 (hdT l).2.2.2.1 [] [v]
    else .ok (.mk 1 (hdT l).2.1 0 (hdT l).2.2.2.1 [] []) l.tail (m + 1))
  else oddR l
def rawR (s : List UInt8) : RR RawP :=
 if (scanR s).2.1 ≠ 0 then .bad (scanR s).2.1 (scanR s).2.2
 else match valR 24 (scanR s).1 0 with
  | .ok v l m => if (hdT l).1 = 0 then .ok v l m else oddR l
  | .bad e a => .bad e a
/-! ### How many, and how deep -/
mutual
def cntR : RawP → Int
 | .mk _ _ _ _ _ l => 1 + cntRs l
def cntRs : List RawP → Int
 | [] => 0
 | x :: l => cntR x + cntRs l
end
mutual
def depR : RawP → Int
 | .mk _ _ _ _ _ l => 1 + depRs l
def depRs : List RawP → Int
 | [] => 0
 | x :: l => max (depR x) (depRs l)
end
theorem cntRs_app : ∀ (a b : List RawP), cntRs (a ++ b) = cntRs a + cntRs b
 | [], b => by simp [cntRs]
 | x :: a, b => by simp only [List.cons_append, cntRs, cntRs_app a b]; omega
theorem depRs_app : ∀ (a b : List RawP), depRs (a ++ b) = max (depRs a) (depRs b)
 | [], b => by
  have : 0 ≤ depRs b := by
   induction b with
   | nil => simp [depRs]
   | cons x b ih => show 0 ≤ max (depR x) (depRs b); omega
  simp [depRs]; omega
 | x :: a, b => by simp only [List.cons_append, depRs, depRs_app a b]; omega
structure ValOk (d m : Int) (v : RawP) (m' : Int) : Prop where
 n : m' = m + cntR v
 le : m' ≤ 4096
 dep : depR v ≤ d
structure RowOk (d m : Int) (vs : List RawP) (m' : Int) : Prop where
 n : m' = m + cntRs vs
 le : m' ≤ 4096
 dep : depRs vs ≤ d
theorem elR_ok {val : List TokT → Int → RR RawP} {d : Int} (hv : ∀ l m v l' m', m ≤ 4096 → val l m = .ok v l' m' → ValOk d m v m') {rec : Bool} {l : List TokT} {m : Int} {k : List WordT} {v : RawP} {l' : List TokT} {m' : Int} (hm : m ≤ 4096)
 (h : elR val rec l m = .ok (k, v) l' m') : ValOk d m v m' := by
 unfold elR at h
 split at h
 · split at h
   · split at h
     · cases hr : val l.tail.tail m with
       | ok u l2 m2 => rw [hr] at h; cases h; exact hv _ _ _ _ _ hm hr
       | bad e a => rw [hr] at h; cases h
     · cases h
   · cases h
 · cases hr : val l m with
   | ok u l2 m2 => rw [hr] at h; cases h; exact hv _ _ _ _ _ hm hr
   | bad e a => rw [hr] at h; cases h
theorem rowsR_ok {val : List TokT → Int → RR RawP} {d : Int} (h0 : 0 ≤ d) (hv : ∀ l m v l' m', m ≤ 4096 → val l m = .ok v l' m' → ValOk d m v m') {rec : Bool} {e : List UInt8} : ∀ (n : Nat) {l : List TokT} {m0 m : Int} {ks : List WordT} {vs : List RawP} {r : List WordT × List RawP} {l' : List TokT} {m' : Int},
 RowOk d m0 vs m → rowsR val rec e n l m ks vs = .ok r l' m' → RowOk d m0 r.2 m'
 | 0, _, _, _, _, _, _, _, _, _, h => by cases h
 | n + 1, l, m0, m, ks, vs, r, l', m', hr, h => by
  unfold rowsR at h
  split at h
  · cases h
  · rename_i k v l2 m2 hel
    have ho := elR_ok hv hr.le hel
    have hr' : RowOk d m0 (vs ++ [v]) m2 := by
     refine ⟨?_, ho.le, ?_⟩
     · rw [cntRs_app]; have := hr.n; have := ho.n; simp [cntRs]; omega
     · rw [depRs_app]; have := hr.dep; have := ho.dep; simp [depRs]; omega
    split at h
    · cases h; exact hr'
    · split at h
      · exact rowsR_ok h0 hv n hr' h
      · cases h
theorem bodyR_ok {val : List TokT → Int → RR RawP} {d : Int} (h0 : 0 ≤ d) (hv : ∀ l m v l' m', m ≤ 4096 → val l m = .ok v l' m' → ValOk d m v m') {rec : Bool} {e : List UInt8} {l : List TokT} {m : Int} {r : List WordT × List RawP} {l' : List TokT} {m' : Int} (hm : m ≤ 4096)
 (h : bodyR val rec e l m = .ok r l' m') : RowOk d m r.2 m' := by
 have hs : RowOk d m [] m := ⟨by simp [cntRs], hm, by simpa [depRs] using h0⟩
 unfold bodyR at h
 split at h
 · cases h; exact hs
 · exact rowsR_ok h0 hv _ hs h
theorem mustR_ok {α : Type} {t : List UInt8} {r : RR α} {v : α} {l : List TokT} {m : Int} (h : mustR t r = .ok v l m) : ∃ l', r = .ok v l' m ∧ l = l'.tail := by
 cases r with
 | ok u l2 m2 =>
  rw [mustR_eq] at h
  split at h
  · cases h; exact ⟨l2, rfl, rfl⟩
  · cases h
 | bad e a => cases h
theorem map_ok {α β : Type} {f : α → β} {r : RR α} {v : β} {l : List TokT} {m : Int} (h : r.map f = .ok v l m) : ∃ u, r = .ok u l m ∧ v = f u := by
 cases r with
 | ok u l2 m2 => cases h; exact ⟨u, rfl, rfl⟩
 | bad e a => cases h
theorem valR_ok : ∀ (d : Nat) {l : List TokT} {m : Int} {v : RawP} {l' : List TokT} {m' : Int}, m ≤ 4096 → valR d l m = .ok v l' m' → ValOk d m v m'
 | 0, _, _, _, _, _, _, h => by cases h
 | d + 1, l, m, v, l', m', hm, h => by
  have ih : ∀ l m v l' m', m ≤ 4096 → valR d l m = .ok v l' m' → ValOk d m v m' := fun l m v l' m' hm h => valR_ok d hm h
  unfold valR at h
  split at h
  · cases h
  · rename_i hne
    split at h
    · obtain ⟨r, hr, rfl⟩ := map_ok h
      have := bodyR_ok (by omega) ih (by omega) hr
      exact ⟨by have := this.n; simp [cntR]; omega, this.le, by have := this.dep; simp [depR]; omega⟩
    · split at h
      · obtain ⟨r, hr, rfl⟩ := map_ok h
        have := bodyR_ok (by omega) ih (by omega) hr
        exact ⟨by have := this.n; simp [cntR]; omega, this.le, by have := this.dep; simp [depR]; omega⟩
      · split at h
        · cases h; exact ⟨by simp [cntR, cntRs], by omega, by simp [depR, depRs]; omega⟩
        · split at h
          · cases h; exact ⟨by simp [cntR, cntRs], by omega, by simp [depR, depRs]; omega⟩
          · split at h
            · split at h
              · obtain ⟨u, hu, rfl⟩ := map_ok h
                obtain ⟨l2, h2, _⟩ := mustR_ok hu
                have := valR_ok d (by omega) h2
                exact ⟨by have := this.n; simp [cntR, cntRs]; omega, this.le, by have := this.dep; simp [depR, depRs]; omega⟩
              · cases h; exact ⟨by simp [cntR, cntRs], by omega, by simp [depR, depRs]; omega⟩
            · cases h
/-! ### Places rise -/
def RiseS (n : Int) : Int → List TokT → Prop
 | _, [] => True
 | i, t :: l => i ≤ t.2.1 ∧ (t.1 ≠ 0 → t.2.1 < t.2.2.1 ∧ t.2.2.1 ≤ n) ∧ RiseS n t.2.2.1 l
theorem scanT_riseS (s : List UInt8) : ∀ (m i : Nat), s.length - i ≤ m → i ≤ s.length → RiseS s.length i (scanT s i).1 := by
 intro m
 induction m with
 | zero =>
  intro i h hi
  rw [scanT_end s i (by omega)]
  exact ⟨Int.le_refl _, fun h => absurd rfl h, trivial⟩
 | succ m ih =>
  intro i h hi
  have mono : ∀ (l : List TokT) (i j : Int), RiseS s.length i l → j ≤ i → RiseS s.length j l := fun l i j h hj => by
   cases l with
   | nil => trivial
   | cons t l => exact ⟨Int.le_trans hj h.1, h.2⟩
  by_cases he : s.length ≤ i
  · rw [scanT_end s i he]
    exact ⟨Int.le_refl _, fun h => absurd rfl h, trivial⟩
  · by_cases hb : blankB (bt s i) = true
    · rw [scanT_blank s i (by omega) hb]; exact mono _ _ _ (ih (i + 1) (by omega) (by omega)) (by omega)
    · have hb' : blankB (bt s i) = false := by simpa using hb
      by_cases h59 : bt s i = 59
      · obtain ⟨n, e, hr⟩ : ∃ n e, remL (s.drop i) = (n, e) := ⟨_, _, rfl⟩
        have hrb := remL_bd _ (s.drop i) (Nat.le_refl _)
        rw [hr, List.length_drop] at hrb
        simp only at hrb
        have hn := remL_semi (s.drop i) (by rw [bt_dropZ]; exact h59) (drop_neN s i (by omega))
        rw [hr] at hn
        simp only at hn
        by_cases hz : e = 0
        · subst hz
          rw [scanT_rem s i (by omega) h59 hr hn]; exact mono _ _ _ (ih (i + n) (by omega) (by omega)) (by omega)
        · rw [scanT_rembad s i (by omega) h59 hr hz]; trivial
      · obtain ⟨t, e, p, ht⟩ := trip (tokA s i)
        by_cases hz : e = 0
        · subst hz
          have hb1 := (tokA_bd s i (by omega) ht).1 rfl
          rw [scanT_tok s i (by omega) hb' h59 ht hb1.2.2.1]
          unfold comb
          split
          · refine ⟨by omega, fun _ => ⟨by omega, hb1.2.2.2⟩, ?_⟩
            have := ih t.2.2.1.toNat (by omega) (by omega)
            exact mono _ _ _ this (by omega)
          · trivial
        · rw [scanT_tokbad s i (by omega) hb' h59 ht hz]; trivial
theorem scanR_riseS (s : List UInt8) : RiseS s.length 0 (scanR s).1 := by
 unfold scanR
 split
 · trivial
 · exact scanT_riseS s _ 0 (Nat.le_refl _) (Nat.zero_le _)
mutual
def risR : RawP → Int → Int × Bool
 | .mk _ a _ _ keys kids, last => if a < last then (0, false) else risRs kids keys a
def risRs : List RawP → List WordT → Int → Int × Bool
 | [], _, last => (last, true)
 | x :: l, [], last => if (risR x (last + 1)).2 = true then risRs l [] (risR x (last + 1)).1 else ((risR x (last + 1)).1, false)
 | x :: l, k :: ks, last => if last < k.2 then (if (risR x (k.2 + 1)).2 = true then risRs l ks (risR x (k.2 + 1)).1 else ((risR x (k.2 + 1)).1, false)) else (k.2, false)
end
theorem risRs_list {v : RawP} {y : Int} : ∀ {vs : List RawP} {a x : Int}, risRs vs [] a = (x, true) → risR v (x + 1) = (y, true) → risRs (vs ++ [v]) [] a = (y, true)
 | [], a, x, h, hv => by simp only [risRs] at h; cases h; simp [risRs, hv]
 | u :: vs, a, x, h, hv => by
  simp only [risRs] at h
  split at h
  · rename_i hu
    simp only [List.cons_append, risRs, hu, if_true]
    exact risRs_list h hv
  · cases h
theorem risRs_rec {v : RawP} {k : WordT} {y : Int} : ∀ {vs : List RawP} {ks : List WordT} {a x : Int}, vs.length = ks.length → risRs vs ks a = (x, true) → x < k.2 → risR v (k.2 + 1) = (y, true) → risRs (vs ++ [v]) (ks ++ [k]) a = (y, true)
 | [], [], a, x, _, h, hk, hv => by simp only [risRs] at h; cases h; simp [risRs, hv, hk]
 | u :: vs, w :: ks, a, x, hl, h, hk, hv => by
  simp only [risRs] at h
  split at h
  · rename_i hw
    split at h
    · rename_i hu
      simp only [List.cons_append, risRs, hw, hu, if_true]
      exact risRs_rec (by simpa using hl) h hk hv
    · cases h
  · cases h
def RisV (n : Int) (L : List TokT) (v : RawP) (l' : List TokT) : Prop :=
 ∀ p last, RiseS n p L → last ≤ (hdT L).2.1 → ∃ x p', risR v last = (x, true) ∧ last ≤ x ∧ p ≤ x ∧ x < p' ∧ p' ≤ n ∧ RiseS n p' l'
theorem hd_ne {L : List TokT} (h : (hdT L).1 ≠ 0) : ∃ t l, L = t :: l ∧ hdT L = t := by
 cases L with
 | nil => exact absurd rfl h
 | cons t l => exact ⟨t, l, rfl, rfl⟩
theorem mk_hd {L : List TokT} {t : List UInt8} (h : mkB L t = true) : (hdT L).1 = 4 := by unfold mkB at h; simp only [Bool.and_eq_true, decide_eq_true_eq] at h; exact h.1
theorem ris_tok {n p : Int} {L : List TokT} (h : RiseS n p L) (h0 : (hdT L).1 ≠ 0) : p ≤ (hdT L).2.1 ∧ ∃ q, (hdT L).2.1 < q ∧ q ≤ n ∧ RiseS n q L.tail := by
 obtain ⟨t, l, rfl, ht⟩ := hd_ne h0
 exact ⟨h.1, t.2.2.1, (h.2.1 h0).1, (h.2.1 h0).2, h.2.2⟩
theorem ris_hd {n p : Int} {L : List TokT} (h : RiseS n p L) (h0 : (hdT L).1 ≠ 0) : p ≤ (hdT L).2.1 := (ris_tok h h0).1
theorem valR_hd : ∀ (d : Nat) {l : List TokT} {m : Int} {v : RawP} {l' : List TokT} {m' : Int}, valR d l m = .ok v l' m' → (hdT l).1 ≠ 0
 | 0, _, _, _, _, _, h => by cases h
 | d + 1, l, m, v, l', m', h => by
  unfold valR at h
  split at h
  · cases h
  · split at h
    · rename_i hm; rw [mk_hd hm]; decide
    · split at h
      · rename_i hm; rw [mk_hd hm]; decide
      · split at h
        · rename_i hm; rw [hm]; decide
        · split at h
          · rename_i hm; rw [hm]; decide
          · split at h
            · rename_i hm; rw [hm]; decide
            · cases h
structure RisB (n a : Int) (rec : Bool) (ks : List WordT) (vs : List RawP) (l' : List TokT) : Prop where
 len : if rec = true then vs.length = ks.length else ks = []
 go : ∃ x p', risRs vs ks a = (x, true) ∧ a ≤ x ∧ x < p' ∧ p' ≤ n ∧ RiseS n p' l'
theorem RisB.add {n a : Int} {rec : Bool} {val : List TokT → Int → RR RawP} (hv : ∀ l m v l' m', val l m = .ok v l' m' → RisV n l v l' ∧ (hdT l).1 ≠ 0) {ks : List WordT} {vs : List RawP} {l l' : List TokT} {m m' : Int} {k : List WordT} {v : RawP}
 (hB : RisB n a rec ks vs l) (h : elR val rec l m = .ok (k, v) l' m') : RisB n a rec (ks ++ k) (vs ++ [v]) l' := by
 obtain ⟨hlen, x, p, h1, h2, h3, h4, h5⟩ := hB
 unfold elR at h
 split at h
 · rename_i hrec
   rw [if_pos hrec] at hlen
   split at h
   · rename_i hk1
     split at h
     · rename_i hm
       obtain ⟨u, hu, he⟩ := map_ok h
       cases he
       obtain ⟨hr, hne⟩ := hv _ _ _ _ _ hu
       obtain ⟨hp, q, hq, hqn, hr1⟩ := ris_tok h5 (by rw [hk1]; decide)
       obtain ⟨hp2, q2, hq2, _, hr2⟩ := ris_tok hr1 (by rw [mk_hd hm]; decide)
       have hp3 := ris_hd hr2 hne
       obtain ⟨y, p', hy, hy1, hy2, hy3, hy4, hy5⟩ := hr q2 ((hdT l).2.1 + 1) hr2 (by omega)
       exact ⟨by rw [if_pos hrec]; simp [hlen], y, p', risRs_rec hlen h1 (by simp only; omega) hy, by omega, hy3, hy4, hy5⟩
     · cases h
   · cases h
 · rename_i hrec
   rw [if_neg hrec] at hlen
   subst hlen
   obtain ⟨u, hu, he⟩ := map_ok h
   cases he
   obtain ⟨hr, hne⟩ := hv _ _ _ _ _ hu
   have hp3 := ris_hd h5 hne
   obtain ⟨y, p', hy, hy1, hy2, hy3, hy4, hy5⟩ := hr p (x + 1) h5 (by omega)
   exact ⟨by rw [if_neg hrec]; rfl, y, p', by simpa using risRs_list h1 hy, by omega, hy3, hy4, hy5⟩
theorem RisB.tok {n a : Int} {rec : Bool} {ks : List WordT} {vs : List RawP} {l : List TokT} {t : List UInt8} (hB : RisB n a rec ks vs l) (h : mkB l t = true) : RisB n a rec ks vs l.tail := by
 obtain ⟨hlen, x, p, h1, h2, h3, h4, h5⟩ := hB
 obtain ⟨hp, q, hq, hqn, hr⟩ := ris_tok h5 (by rw [mk_hd h]; decide)
 exact ⟨hlen, x, q, h1, h2, by omega, hqn, hr⟩
theorem rowsR_ris {n a : Int} {rec : Bool} {val : List TokT → Int → RR RawP} (hv : ∀ l m v l' m', val l m = .ok v l' m' → RisV n l v l' ∧ (hdT l).1 ≠ 0) {e : List UInt8} : ∀ (f : Nat) {l : List TokT} {m : Int} {ks : List WordT} {vs : List RawP} {r : List WordT × List RawP} {l' : List TokT} {m' : Int},
 RisB n a rec ks vs l → rowsR val rec e f l m ks vs = .ok r l' m' → RisB n a rec r.1 r.2 l'
 | 0, _, _, _, _, _, _, _, _, h => by cases h
 | f + 1, l, m, ks, vs, r, l', m', hB, h => by
  unfold rowsR at h
  split at h
  · cases h
  · rename_i k v l2 m2 hel
    have hB' := hB.add hv hel
    split at h
    · rename_i hm; cases h; exact hB'.tok hm
    · split at h
      · rename_i hm; exact rowsR_ris hv f (hB'.tok hm) h
      · cases h
theorem bodyR_ris {n a : Int} {rec : Bool} {val : List TokT → Int → RR RawP} (hv : ∀ l m v l' m', val l m = .ok v l' m' → RisV n l v l' ∧ (hdT l).1 ≠ 0) {e : List UInt8} {l : List TokT} {m : Int} {r : List WordT × List RawP} {l' : List TokT} {m' : Int}
 {p : Int} (hp : a < p) (hpn : p ≤ n) (hl : RiseS n p l) (h : bodyR val rec e l m = .ok r l' m') : RisB n a rec r.1 r.2 l' := by
 have hs : RisB n a rec [] [] l := ⟨by cases rec <;> simp, a, p, rfl, Int.le_refl _, hp, hpn, hl⟩
 unfold bodyR at h
 split at h
 · rename_i hm; cases h; exact hs.tok hm
 · exact rowsR_ris hv _ hs h
theorem valR_ris (n : Int) : ∀ (d : Nat) {l : List TokT} {m : Int} {v : RawP} {l' : List TokT} {m' : Int}, valR d l m = .ok v l' m' → RisV n l v l'
 | 0, _, _, _, _, _, h => by cases h
 | d + 1, l, m, v, l', m', h => by
  have ih : ∀ l m v l' m', valR d l m = .ok v l' m' → RisV n l v l' ∧ (hdT l).1 ≠ 0 := fun l m v l' m' h => ⟨valR_ris n d h, valR_hd d h⟩
  intro p last hp hlast
  obtain ⟨hpa, q, hq, hqn, hr⟩ := ris_tok hp (valR_hd (d + 1) h)
  have leaf : ∀ (k x : Int) (s : List UInt8), ∃ y p', risR (.mk k (hdT l).2.1 x s [] []) last = (y, true) ∧ last ≤ y ∧ p ≤ y ∧ y < p' ∧ p' ≤ n ∧ RiseS n p' l.tail :=
   fun k x s => ⟨(hdT l).2.1, q, by simp only [risR, risRs]; rw [if_neg (by omega)], hlast, hpa, hq, hqn, hr⟩
  unfold valR at h
  split at h
  · cases h
  · split at h
    · obtain ⟨r, hb, rfl⟩ := map_ok h
      obtain ⟨_, x, p', h1, h2, h3, h4, h5⟩ := bodyR_ris ih hq hqn hr hb
      exact ⟨x, p', by simp only [risR]; rw [if_neg (by omega)]; exact h1, by omega, by omega, h3, h4, h5⟩
    · split at h
      · obtain ⟨r, hb, rfl⟩ := map_ok h
        obtain ⟨_, x, p', h1, h2, h3, h4, h5⟩ := bodyR_ris ih hq hqn hr hb
        exact ⟨x, p', by simp only [risR]; rw [if_neg (by omega)]; exact h1, by omega, by omega, h3, h4, h5⟩
      · split at h
        · cases h; exact leaf _ _ _
        · split at h
          · cases h; exact leaf _ _ _
          · split at h
            · split at h
              · rename_i hm
                obtain ⟨u, hu, rfl⟩ := map_ok h
                obtain ⟨l2, h2, hl2⟩ := mustR_ok hu
                obtain ⟨hpa2, q2, hq2, hqn2, hr2⟩ := ris_tok hr (by rw [mk_hd hm]; decide)
                have hhd := valR_hd d h2
                have hp3 := ris_hd hr2 hhd
                obtain ⟨x, p', h1, h3, h4, h5, h6, h7⟩ := valR_ris n d h2 q2 ((hdT l).2.1 + 1) hr2 (by omega)
                have hm2 : mkB l2 [41] = true := by
                 rw [h2, mustR_eq] at hu
                 split at hu
                 · rename_i hx; exact hx
                 · cases hu
                obtain ⟨hpa4, q4, hq4, hqn4, hr4⟩ := ris_tok h7 (by rw [mk_hd hm2]; decide)
                refine ⟨x, q4, ?_, by omega, by omega, by omega, hqn4, by rw [hl2]; exact hr4⟩
                simp only [risR, risRs]
                rw [if_neg (by omega), h1]; rfl
              · cases h; exact leaf _ _ _
            · cases h
theorem rawR_bounds {s : List UInt8} {v : RawP} {l : List TokT} {m : Int} (h : rawR s = .ok v l m) : cntR v ≤ 4096 ∧ depR v ≤ 24 ∧ ∃ x, risR v 0 = (x, true) ∧ 0 ≤ x ∧ x < s.length := by
 unfold rawR at h
 split at h
 · cases h
 · split at h
   · rename_i u l2 m2 hv
     split at h
     · cases h
       have ho := valR_ok 24 (by omega) hv
       have hr := scanR_riseS s
       have hhd := ris_hd hr (valR_hd 24 hv)
       obtain ⟨x, p', h1, h2, _, h3, h4, _⟩ := valR_ris s.length 24 hv 0 0 hr hhd
       exact ⟨by have := ho.n; have := ho.le; omega, ho.dep, x, h1, h2, by omega⟩
     · cases h
   · cases h
/-! ### What is wrong lies in the text -/
def AtB (n : Int) (l : List TokT) : Prop := ∀ t ∈ l, 0 ≤ t.2.1 ∧ t.2.1 ≤ n
theorem AtB.tail {n : Int} {l : List TokT} (h : AtB n l) : AtB n l.tail := fun t ht => h t (List.mem_of_mem_tail ht)
theorem AtB.hd {n : Int} {l : List TokT} (h : AtB n l) (hn : 0 ≤ n) : 0 ≤ (hdT l).2.1 ∧ (hdT l).2.1 ≤ n := by
 cases l with
 | nil => exact ⟨Int.le_refl _, hn⟩
 | cons t l => exact h t (by simp)
def BadB {α : Type} (n : Int) : RR α → Prop
 | .ok _ l _ => AtB n l
 | .bad e a => e ≠ 0 ∧ 0 ≤ a ∧ a ≤ n
theorem BadB.map {α β : Type} {n : Int} {f : α → β} {r : RR α} (h : BadB n r) : BadB n (r.map f) := by cases r <;> exact h
theorem BadB.odd {α : Type} {n : Int} {l : List TokT} (h : AtB n l) (hn : 0 ≤ n) : BadB n (oddR l : RR α) := ⟨oddE_ne _, h.hd hn⟩
theorem elR_bad {n : Int} (hn : 0 ≤ n) {val : List TokT → Int → RR RawP} (hv : ∀ l m, AtB n l → BadB n (val l m)) (rec : Bool) {l : List TokT} {m : Int} (h : AtB n l) : BadB n (elR val rec l m) := by
 unfold elR
 split
 · split
   · split
     · exact (hv _ _ h.tail.tail).map
     · exact .odd h.tail hn
   · exact .odd h hn
 · exact (hv _ _ h).map
theorem rowsR_bad {n : Int} (hn : 0 ≤ n) {val : List TokT → Int → RR RawP} (hv : ∀ l m, AtB n l → BadB n (val l m)) (rec : Bool) (e : List UInt8) : ∀ (f : Nat) (l : List TokT) (m : Int) (ks : List WordT) (vs : List RawP), AtB n l → BadB n (rowsR val rec e f l m ks vs)
 | 0, _, _, _, _, _ => ⟨by decide, Int.le_refl _, hn⟩
 | f + 1, l, m, ks, vs, h => by
  have he := elR_bad hn hv rec (m := m) h
  unfold rowsR
  split
  · rename_i e a hx; rw [hx] at he; exact he
  · rename_i k v l' m' hx
    rw [hx] at he
    have he : AtB n l' := he
    split
    · exact he.tail
    · split
      · exact rowsR_bad hn hv rec e f _ _ _ _ he.tail
      · exact .odd he hn
theorem bodyR_bad {n : Int} (hn : 0 ≤ n) {val : List TokT → Int → RR RawP} (hv : ∀ l m, AtB n l → BadB n (val l m)) (rec : Bool) (e : List UInt8) {l : List TokT} {m : Int} (h : AtB n l) : BadB n (bodyR val rec e l m) := by
 unfold bodyR
 split
 · exact h.tail
 · exact rowsR_bad hn hv rec e _ _ _ _ _ h
theorem mustR_bad {α : Type} {n : Int} (hn : 0 ≤ n) {t : List UInt8} {r : RR α} (h : BadB n r) : BadB n (mustR t r) := by
 cases r with
 | ok v l m =>
  have h : AtB n l := h
  rw [mustR_eq]
  split
  · exact h.tail
  · exact .odd h hn
 | bad e a => exact h
theorem valR_bad {n : Int} (hn : 0 ≤ n) : ∀ (d : Nat) (l : List TokT) (m : Int), AtB n l → BadB n (valR d l m)
 | 0, l, m, h => ⟨by decide, h.hd hn⟩
 | d + 1, l, m, h => by
  have ih := valR_bad hn d
  unfold valR
  split
  · exact ⟨by decide, h.hd hn⟩
  · split
    · exact (bodyR_bad hn ih _ _ h.tail).map
    · split
      · exact (bodyR_bad hn ih _ _ h.tail).map
      · split
        · exact h.tail
        · split
          · exact h.tail
          · split
            · split
              · exact (mustR_bad hn (ih _ _ h.tail.tail)).map
              · exact h.tail
            · exact .odd h hn
theorem scanT_nn (s : List UInt8) : ∀ (m i : Nat), s.length - i ≤ m → i ≤ s.length → 0 ≤ (scanT s i).2.2 := by
 intro m
 induction m with
 | zero => intro i h _; rw [scanT_end s i (by omega)]; exact Int.le_refl _
 | succ m ih =>
  intro i h hi
  by_cases he : s.length ≤ i
  · rw [scanT_end s i he]; exact Int.le_refl _
  · by_cases hb : blankB (bt s i) = true
    · rw [scanT_blank s i (by omega) hb]; exact ih (i + 1) (by omega) (by omega)
    · have hb' : blankB (bt s i) = false := by simpa using hb
      by_cases h59 : bt s i = 59
      · obtain ⟨n, e, hr⟩ : ∃ n e, remL (s.drop i) = (n, e) := ⟨_, _, rfl⟩
        have hrb := remL_bd _ (s.drop i) (Nat.le_refl _)
        rw [hr, List.length_drop] at hrb
        simp only at hrb
        have hn := remL_semi (s.drop i) (by rw [bt_dropZ]; exact h59) (drop_neN s i (by omega))
        rw [hr] at hn
        simp only at hn
        by_cases hz : e = 0
        · subst hz
          rw [scanT_rem s i (by omega) h59 hr hn]; exact ih (i + n) (by omega) (by omega)
        · rw [scanT_rembad s i (by omega) h59 hr hz]; simp only; omega
      · obtain ⟨t, e, p, ht⟩ := trip (tokA s i)
        have hb1 := tokA_bd s i (by omega) ht
        by_cases hz : e = 0
        · subst hz
          have hb2 := hb1.1 rfl
          rw [scanT_tok s i (by omega) hb' h59 ht hb2.2.2.1]
          unfold comb
          split
          · exact Int.le_refl _
          · exact ih _ (by omega) (by omega)
        · rw [scanT_tokbad s i (by omega) hb' h59 ht hz]; exact hb1.2.2.2.1
theorem scanR_at {s : List UInt8} : AtB s.length (scanR s).1 := by
 intro t ht
 have hr := scanR_riseS s
 obtain ⟨j, hj⟩ := List.mem_iff_getElem?.1 ht
 have h1 : Rise s.length 0 (scanR s).1 := by
  obtain ⟨L, e, a, hL⟩ : ∃ L e a, scanR s = (L, e, a) := ⟨_, _, _, rfl⟩
  have := scanR_rise hL
  rw [hL]; exact this
 have := h1.get hj
 omega
theorem rawR_bad {s : List UInt8} (hs : s.length ≤ 65536) : BadB s.length (rawR s) := by
 unfold rawR
 split
 · rename_i he
   obtain ⟨L, e, a, hL⟩ : ∃ L e a, scanR s = (L, e, a) := ⟨_, _, _, rfl⟩
   have hb := scanR_bad hL (by rw [hL] at he; exact he) hs
   rw [hL] at he ⊢
   refine ⟨he, ?_, hb.2⟩
   have h0 : scanR s = scanT s 0 := if_neg (by omega)
   have := scanT_nn s _ 0 (Nat.le_refl _) (Nat.zero_le _)
   rw [← h0, hL] at this; exact this
 · have hv := valR_bad (n := s.length) (by omega) 24 (scanR s).1 0 scanR_at
   split
   · rename_i v l m hx
     rw [hx] at hv
     have hv : AtB s.length l := hv
     split
     · exact hv
     · exact .odd hv (by omega)
   · rename_i e a hx; rw [hx] at hv; exact hv
end Go.Proofs.Ytldjakeigjngoaa
/- Raw values that a call has made: where they lie, what they are. -/
namespace Go.Proofs.Ytldjakeigjngoaa
open Go.RowKit Bf
theorem sizeR_kid {k a n : Int} {s : List UInt8} {pk : Option Addr} {ck : Nat} {keys : List WordT} {p : Option Addr} {c : Nat} {kids : List RawA} {x : RawA} (h : x ∈ kids) : SizeOf.sizeOf x < SizeOf.sizeOf (RawA.mk k a n s pk ck keys p c kids) := by
 have := List.sizeOf_lt_of_mem h
 simp; omega
def inSl (p : Option Addr) (b : Nat) : Prop := ∃ o, p = some o ∧ o.block = b
mutual
def domR : RawA → Nat → Prop
 | .mk _ _ _ _ pk _ _ p _ kids, b => inSl pk b ∨ inSl p b ∨ domRs kids b
def domRs : List RawA → Nat → Prop
 | [], _ => False
 | x :: l, b => domR x b ∨ domRs l b
end
theorem domRs_mem {b : Nat} : ∀ {l : List RawA} {x : RawA}, x ∈ l → domR x b → domRs l b
 | y :: l, x, h, hx => by
  simp only [List.mem_cons] at h
  simp only [domRs]
  rcases h with rfl | h
  · exact .inl hx
  · exact .inr (domRs_mem h hx)
theorem domRs_app {b : Nat} : ∀ {l k : List RawA}, domRs (l ++ k) b → domRs l b ∨ domRs k b
 | [], k, h => .inr h
 | x :: l, k, h => by
  simp only [List.cons_append, domRs] at h ⊢
  rcases h with h | h
  · exact .inl (.inl h)
  · rcases domRs_app h with h | h
    · exact .inl (.inr h)
    · exact .inr h
theorem domRs_one {b : Nat} {z : RawA} (h : domRs [z] b) : domR z b := by simpa [domRs] using h
theorem At.loc {w w' : World} {b off : Nat} {cs : List Value} (hb : w'.heap[b]? = w.heap[b]?) (h : At w b off cs) : At w' b off cs := fun j u hj => by rw [cell_same hb]; exact h j u hj
theorem IsSl.loc {w w' : World} {sz : Nat} {p : Option Addr} {n : Nat} {cs : List Value} (hb : ∀ b, inSl p b → w'.heap[b]? = w.heap[b]?) (h : IsSl w sz p n cs) : IsSl w' sz p n cs :=
 ⟨h.1, h.2.imp id fun ⟨b, off, e, h⟩ => ⟨b, off, e, h.loc (hb b ⟨_, e, rfl⟩)⟩⟩
inductive RawJ (w : World) : RawA → Prop where
 | mk (k a n : Int) (s : List UInt8) (pk : Option Addr) (ck : Nat) (keys : List WordT) (p : Option Addr) (c : Nat) (kids : List RawA)
  (hb : keys.length ≤ maxLen ∧ kids.length ≤ maxLen) (h1 : IsSl w 2 pk keys.length (keys.flatMap wordV)) (h2 : IsSl w 6 p kids.length (kids.flatMap rawV)) (h3 : ∀ x ∈ kids, RawJ w x) : RawJ w (.mk k a n s pk ck keys p c kids)
theorem RawIn.toJ {w : World} {t : RawA} (h : RawIn w t) : RawJ w t := by
 induction h with
 | mk k a n s pk ck keys p c kids b hw h1 h2 h3 ih => exact .mk k a n s pk ck keys p c kids ⟨b.2.2.2.2.1, b.2.2.2.2.2⟩ h1 h2 ih
theorem RawJ.bl (t : RawA) : Bl fun w => RawJ w t := fun w w' hb h => by
 induction h with
 | mk k a n s pk ck keys p c kids b h1 h2 h3 ih => exact .mk k a n s pk ck keys p c kids b (IsSl.bl _ _ _ _ w w' hb h1) (IsSl.bl _ _ _ _ w w' hb h2) ih
theorem RawJ.loc {w w' : World} {t : RawA} (hb : ∀ b, domR t b → w'.heap[b]? = w.heap[b]?) (h : RawJ w t) : RawJ w' t := by
 induction h with
 | mk k a n s pk ck keys p c kids b h1 h2 h3 ih =>
  refine .mk k a n s pk ck keys p c kids b (h1.loc fun x hx => hb x ?_) (h2.loc fun x hx => hb x ?_) (fun x hx => ih x hx fun y hy => hb y ?_)
  · simp only [domR]; exact .inl hx
  · simp only [domR]; exact .inr (.inl hx)
  · simp only [domR]; exact .inr (.inr (domRs_mem hx hy))
def rawE (l : List RawA) : En := ⟨domRs l, fun w => ∀ z ∈ l, RawJ w z, fun w w' hb h z hz => (h z hz).loc fun b hd => hb b (domRs_mem hz hd)⟩
mutual
def plR : RawA → RawP
 | .mk k a n s _ _ keys _ _ kids => .mk k a n s keys (plRs kids)
def plRs : List RawA → List RawP
 | [] => []
 | x :: l => plR x :: plRs l
end
theorem plRs_app : ∀ (a b : List RawA), plRs (a ++ b) = plRs a ++ plRs b
 | [], b => rfl
 | x :: a, b => by simp [plRs, plRs_app a b]
theorem plRs_len : ∀ (a : List RawA), (plRs a).length = a.length
 | [] => rfl
 | x :: a => by simp [plRs, plRs_len a]
theorem plRs_get : ∀ (a : List RawA) (i : Nat), (plRs a)[i]? = (a[i]?).map plR
 | [], i => by simp [plRs]
 | x :: a, 0 => by simp [plRs]
 | x :: a, i + 1 => by simp [plRs, plRs_get a i]
theorem ownsRow_le {w : World} {e size n q : Nat} {p : Option Addr} {cs : List Value} (h : w.ownsRow 0 e size (.slice p n q) n cs) : n ≤ maxLen := by
 rcases h.2 with ⟨_, h0⟩ | ⟨g, cap, cur, hv, _, _, hle, hm, _⟩
 · omega
 · omega
section
variable {P : Program} {C : Cx} {k : List It} {fr : Fr} {hp : List En}
theorem sy_rawNil (h : Sy P C k fr (rawE [] :: hp)) : Sy P C k fr hp := sy_nothing _ (fun b hb => hb) (fun w z hz => by cases hz) h
theorem sy_rawAdd {l : List RawA} {z : RawA} (h : Sy P C k fr (rawE (l ++ [z]) :: hp)) : Sy P C k fr (rawE l :: rawE [z] :: hp) :=
 sy_join _ (fun b hb => domRs_app hb) (fun w h1 h2 x hx => by
  rcases List.mem_append.1 hx with hx | hx
  · exact h1 x hx
  · exact h2 x hx) h
end
theorem HpOk.rawMk {D : Nat → Prop} {w0 w : World} {hp : List En} {e1 e2 : TypeId} {k a n : Int} {s : List UInt8} {pk : Option Addr} {ck : Nat} {keys : List WordT} {p : Option Addr} {c : Nat} {kids : List RawA}
 (h : HpOk D w0 (vec e1 2 (.slice pk keys.length ck) keys.length (keys.flatMap wordV) :: vec e2 6 (.slice p kids.length c) kids.length (kids.flatMap rawV) :: rawE kids :: hp) w) : HpOk D w0 (rawE [.mk k a n s pk ck keys p c kids] :: hp) w := by
 refine (h.join.join).imp (fun b hd => ?_) (fun w hh z hz => ?_)
 · have hd := domRs_one hd
   simp only [domR] at hd
   rcases hd with ⟨o, rfl, rfl⟩ | ⟨o, rfl, rfl⟩ | hd
   · exact .inl (.inl rfl)
   · exact .inl (.inr rfl)
   · exact .inr hd
 · simp only [List.mem_singleton] at hz
   subst hz
   obtain ⟨⟨h1, h2⟩, h3⟩ := hh
   exact .mk k a n s pk ck keys p c kids ⟨ownsRow_le h1, ownsRow_le h2⟩ (holds_isSl h1) (holds_isSl h2) h3
theorem sy_rawMk {P : Program} {C : Cx} {k' : List It} {fr : Fr} {hp : List En} {e1 e2 : TypeId} {pk : Option Addr} {ck : Nat} {keys : List WordT} {p : Option Addr} {c : Nat} {kids : List RawA} (k a n : Int) (s : List UInt8)
 (h : Sy P C k' fr (rawE [.mk k a n s pk ck keys p c kids] :: hp)) : Sy P C k' fr (vec e1 2 (.slice pk keys.length ck) keys.length (keys.flatMap wordV) :: vec e2 6 (.slice p kids.length c) kids.length (kids.flatMap rawV) :: rawE kids :: hp) :=
 .mk fun a w ha hw => h.go a w ha hw.rawMk
end Go.Proofs.Ytldjakeigjngoaa
/- Plain: values without places; values that are the same. -/
namespace Go.Proofs.Ytldjakeigjngoaa
open Go.RowKit Bf
mutual
def samN : RawP → RawP → Bool
 | .mk k _ n s keys kids, .mk k' _ n' s' keys' kids' => decide (k = k') && decide (n = n') && decide (s = s') && decide (keys.map (·.1) = keys'.map (·.1)) && samNs kids kids'
def samNs : List RawP → List RawP → Bool
 | [], [] => true
 | x :: l, y :: m => samN x y && samNs l m
 | [], _ :: _ => false
 | _ :: _, [] => false
end
theorem samNs_at : ∀ {l m : List RawP}, l.length = m.length → (samNs l m = true ↔ ∀ (i : Nat) (x y : RawP), l[i]? = some x → m[i]? = some y → samN x y = true)
 | [], [], _ => by simp [samNs]
 | x :: l, y :: m, h => by
  have ih := samNs_at (l := l) (m := m) (by simpa using h)
  simp only [samNs, Bool.and_eq_true, ih]
  constructor
  · rintro ⟨h1, h2⟩ i u v hu hv
    cases i with
    | zero => simp at hu hv; subst hu; subst hv; exact h1
    | succ i => exact h2 i u v (by simpa using hu) (by simpa using hv)
  · intro h
    exact ⟨h 0 x y rfl rfl, fun i u v hu hv => h (i + 1) u v (by simpa using hu) (by simpa using hv)⟩
theorem samNs_len : ∀ {l m : List RawP}, samNs l m = true → l.length = m.length
 | [], [], _ => rfl
 | x :: l, y :: m, h => by
  simp only [samNs, Bool.and_eq_true] at h
  simp [samNs_len h.2]
end Go.Proofs.Ytldjakeigjngoaa
/- Contracts: how many values are in one, how deep they lie, whether their places rise. -/
namespace Go.Proofs.Ytldjakeigjngoaa
open Go.RowKit Bf
def w64 (n : Int) : Int := IntKind.i64.wrap n
mutual
def cntW : RawP → Int
 | .mk _ _ _ _ _ l => cntWs 1 l
def cntWs : Int → List RawP → Int
 | n, [] => n
 | n, x :: l => cntWs (w64 (n + cntW x)) l
end
mutual
def depW : RawP → Int
 | .mk _ _ _ _ _ l => w64 (depWs 0 l + 1)
def depWs : Int → List RawP → Int
 | n, [] => n
 | n, x :: l => depWs (max n (depW x)) l
end
theorem cntWs_snoc : ∀ (l : List RawP) (x : RawP) (n : Int), cntWs n (l ++ [x]) = w64 (cntWs n l + cntW x)
 | [], x, n => by simp [cntWs]
 | y :: l, x, n => by simp only [List.cons_append, cntWs]; exact cntWs_snoc l x _
theorem depWs_snoc : ∀ (l : List RawP) (x : RawP) (n : Int), depWs n (l ++ [x]) = max (depWs n l) (depW x)
 | [], x, n => by simp [depWs]
 | y :: l, x, n => by simp only [List.cons_append, depWs]; exact depWs_snoc l x _
theorem take_snoc {α : Type} (l : List α) (i : Nat) (x : α) (h : l[i]? = some x) : l.take (i + 1) = l.take i ++ [x] := by
 obtain ⟨hlt, rfl⟩ := List.getElem?_eq_some_iff.1 h
 exact List.take_succ_eq_append_getElem hlt
theorem plRs_at {l : List RawA} {i : Nat} {z : RawA} (h : l[i]? = some z) : (plRs l)[i]? = some (plR z) := by rw [plRs_get, h]; rfl
theorem RawJ.parts {w : World} {k a n : Int} {s : List UInt8} {pk : Option Addr} {ck : Nat} {keys : List WordT} {p : Option Addr} {c : Nat} {kids : List RawA} (h : RawJ w (.mk k a n s pk ck keys p c kids)) :
 (keys.length ≤ maxLen ∧ kids.length ≤ maxLen) ∧ IsSl w 2 pk keys.length (keys.flatMap wordV) ∧ IsSl w 6 p kids.length (kids.flatMap rawV) ∧ ∀ x ∈ kids, RawJ w x := by
 cases h with
 | mk _ _ _ _ _ _ _ _ _ _ hb h1 h2 h3 => exact ⟨hb, h1, h2, h3⟩
set_option maxRecDepth 20000 in
set_option maxHeartbeats 4000000 in
theorem count_c : ∀ (m : Nat) (z : RawA), SizeOf.sizeOf z ≤ m → ∀ (w : World), RawJ w z → Calls Try.prog 72 #[.agg ⟨rawV z⟩] w fun e w' => e = .returned (.int .i64 (cntW (plR z))) ∧ Below w.heap.size w w' := by
 intro m
 induction m with
 | zero => intro z hz; cases z; simp at hz
 | succ m ih =>
  intro z hz w hw0
  obtain ⟨k, a, n, s, pk, ck, keys, p, c, kids⟩ := z
  obtain ⟨hb, hs1, hs2, hkid⟩ := hw0.parts
  have hm : kids.length ≤ 9223372036854775807 := hb.2
  have hst : St (fun _ => False) w (fun w => IsSl w 6 p kids.length (kids.flatMap rawV)) := St.start (IsSl.bl _ _ _ _) hs2
  have hstk : ∀ x ∈ kids, St (fun _ => False) w (fun w => RawJ w x) := fun x hx => St.start (RawJ.bl _) (hkid x hx)
  refine sy_enter rfl rfl ?_
  simp only [initFr]
  repeat (first | refine sy_k rfl rfl ?_ | (refine gO ?_; first | refine sy_ov (ov_p rfl) rfl rfl ?_ | (refine gK ?_; refine sy_ov (ov_lens rfl) rfl rfl ?_) | (refine gL ?_; refine sy_ov (ov_ld 0 rfl rfl rfl) rfl rfl ?_) | refine sy_ov (ov_fieldAddr rfl rfl rfl) rfl rfl ?_ | (refine sy_box rfl rfl rfl ?_; intro _)))
  rename_i b1
  refine sy_loop (α := Int) (fun i => [(3, .int .i64 (cntWs 1 ((plRs kids).take i.toNat))), (7, .slice p kids.length c), (8, .int .i64 (kids.length : Int)), (9, .int .i64 i)]) (fun _ => []) (fun i => 0 ≤ i ∧ i ≤ kids.length) (fun i => (kids.length - i).toNat) 0 ⟨by omega, by omega⟩ ⟨⟨_, rfl, rfl⟩, ⟨_, rfl, rfl⟩, ⟨_, rfl, rfl⟩, ⟨_, rfl, rfl⟩, trivial⟩ (List.nil_sublist _) ?_
  rintro i ⟨i0, i1⟩
  by_cases hlt : i < kids.length
  · obtain ⟨x, hx⟩ : ∃ x, kids[i.toNat]? = some x := ⟨_, List.getElem?_eq_getElem (by omega)⟩
    have hxm := List.mem_of_getElem? hx
    obtain ⟨b, off, hp, hat⟩ := hst.addr (by omega)
    subst hp
    have hsz := sizeR_kid (k := k) (a := a) (n := n) (s := s) (pk := pk) (ck := ck) (keys := keys) (p := some ⟨b, off, none⟩) (c := c) hxm
    have hrec := ih x (by omega)
    have htk : (plRs kids).take (i + 1).toNat = (plRs kids).take i.toNat ++ [plR x] := by rw [show (i + 1).toNat = i.toNat + 1 by omega]; exact take_snoc _ _ _ (plRs_at hx)
    repeat (first | refine sy_k rfl rfl ?_ | (refine gO ?_; first | refine sy_ov (ov_p rfl) rfl rfl ?_ | (refine sy_ov (ov_indexAddr rfl rfl ?_ ?_) rfl rfl ?_; omega; omega)) | (refine sy_cond_t rfl ?_ ?_; (first | with_reducible rfl | assumption | omega | (simp <;> first | omega | assumption))))
    refine sy_ov (ov_elem (f := rawV) hat hx rfl rfl rawV_len) rfl rfl ?_
    obtain ⟨xk, xa, xn, xs, xpk, xck, xkeys, xp, xc, xkids⟩ := x
    repeat (first | refine sy_k rfl rfl ?_ | (refine gO ?_; first | refine sy_ov (ov_p rfl) rfl rfl ?_ | (refine gL ?_; refine sy_ov (ov_ld 0 rfl rfl rfl) rfl rfl ?_) | (refine gS ?_; refine sy_store 0 rfl rfl rfl rfl rfl rfl rfl rfl ?_) | (refine sy_alloc rfl rfl rfl ?_; intro _)))
    refine sy_ov (ov_call rfl (fun w hw => hrec w ((hstk _ hxm).at hw))) rfl rfl ?_
    refine sy_ov (ov_addw rfl rfl) rfl rfl ?_
    repeat (first | refine sy_k rfl rfl ?_ | (refine gO ?_; first | refine sy_ov (ov_p rfl) rfl rfl ?_ | (refine gB ?_; (refine sy_ov (ov_ar rfl rfl rfl ?_ ?_) rfl rfl ?_; omega; omega))))
    refine sy_back (i + 1) ⟨by omega, by omega⟩ (by omega) ⟨⟨_, rfl, ?_⟩, ⟨_, rfl, rfl⟩, ⟨_, rfl, rfl⟩, ⟨_, rfl, rfl⟩, trivial⟩ (List.nil_sublist _)
    rw [htk, cntWs_snoc]; rfl
  · have hi : i = kids.length := by omega
    subst hi
    have hall : (plRs kids).take (kids.length : Int).toNat = plRs kids := by rw [List.take_of_length_le]; rw [plRs_len]; omega
    rw [hall]
    repeat (first | refine sy_k rfl rfl ?_ | (refine gO ?_; refine sy_ov (ov_p rfl) rfl rfl ?_) | (refine sy_cond_f rfl ?_ ?_; (first | with_reducible rfl | assumption | omega | (simp <;> first | omega | assumption))) | refine sy_rt ?_)
    exact ret1 rfl rfl rfl
set_option maxRecDepth 20000 in
set_option maxHeartbeats 4000000 in
theorem depth_c : ∀ (m : Nat) (z : RawA), SizeOf.sizeOf z ≤ m → ∀ (w : World), RawJ w z → Calls Try.prog 71 #[.agg ⟨rawV z⟩] w fun e w' => e = .returned (.int .i64 (depW (plR z))) ∧ Below w.heap.size w w' := by
 intro m
 induction m with
 | zero => intro z hz; cases z; simp at hz
 | succ m ih =>
  intro z hz w hw0
  obtain ⟨k, a, n, s, pk, ck, keys, p, c, kids⟩ := z
  obtain ⟨hb, hs1, hs2, hkid⟩ := hw0.parts
  have hm : kids.length ≤ 9223372036854775807 := hb.2
  have hst : St (fun _ => False) w (fun w => IsSl w 6 p kids.length (kids.flatMap rawV)) := St.start (IsSl.bl _ _ _ _) hs2
  have hstk : ∀ x ∈ kids, St (fun _ => False) w (fun w => RawJ w x) := fun x hx => St.start (RawJ.bl _) (hkid x hx)
  have e0 : ∀ a b : Int, (if b > a then b else a) = max a b := fun a b => by omega
  refine sy_enter rfl rfl ?_
  simp only [initFr]
  repeat (first | refine sy_k rfl rfl ?_ | (refine gO ?_; first | refine sy_ov (ov_p rfl) rfl rfl ?_ | (refine gK ?_; refine sy_ov (ov_lens rfl) rfl rfl ?_) | (refine gL ?_; refine sy_ov (ov_ld 0 rfl rfl rfl) rfl rfl ?_) | refine sy_ov (ov_fieldAddr rfl rfl rfl) rfl rfl ?_ | (refine sy_box rfl rfl rfl ?_; intro _)))
  refine sy_loop (α := Int) (fun i => [(3, .int .i64 (depWs 0 ((plRs kids).take i.toNat))), (7, .slice p kids.length c), (8, .int .i64 (kids.length : Int)), (9, .int .i64 i)]) (fun _ => []) (fun i => 0 ≤ i ∧ i ≤ kids.length) (fun i => (kids.length - i).toNat) 0 ⟨by omega, by omega⟩ ⟨⟨_, rfl, rfl⟩, ⟨_, rfl, rfl⟩, ⟨_, rfl, rfl⟩, ⟨_, rfl, rfl⟩, trivial⟩ (List.nil_sublist _) ?_
  rintro i ⟨i0, i1⟩
  by_cases hlt : i < kids.length
  · obtain ⟨x, hx⟩ : ∃ x, kids[i.toNat]? = some x := ⟨_, List.getElem?_eq_getElem (by omega)⟩
    have hxm := List.mem_of_getElem? hx
    obtain ⟨b, off, hp, hat⟩ := hst.addr (by omega)
    subst hp
    have hsz := sizeR_kid (k := k) (a := a) (n := n) (s := s) (pk := pk) (ck := ck) (keys := keys) (p := some ⟨b, off, none⟩) (c := c) hxm
    have hrec := ih x (by omega)
    have htk : (plRs kids).take (i + 1).toNat = (plRs kids).take i.toNat ++ [plR x] := by rw [show (i + 1).toNat = i.toNat + 1 by omega]; exact take_snoc _ _ _ (plRs_at hx)
    repeat (first | refine sy_k rfl rfl ?_ | (refine gO ?_; first | refine sy_ov (ov_p rfl) rfl rfl ?_ | (refine sy_ov (ov_indexAddr rfl rfl ?_ ?_) rfl rfl ?_; omega; omega)) | (refine sy_cond_t rfl ?_ ?_; (first | with_reducible rfl | assumption | omega | (simp <;> first | omega | assumption))))
    refine sy_ov (ov_elem (f := rawV) hat hx rfl rfl rawV_len) rfl rfl ?_
    obtain ⟨xk, xa, xn, xs, xpk, xck, xkeys, xp, xc, xkids⟩ := x
    repeat (first | refine sy_k rfl rfl ?_ | (refine gO ?_; first | refine sy_ov (ov_p rfl) rfl rfl ?_ | (refine gL ?_; refine sy_ov (ov_ld 0 rfl rfl rfl) rfl rfl ?_) | (refine gS ?_; refine sy_store 0 rfl rfl rfl rfl rfl rfl rfl rfl ?_) | (refine sy_alloc rfl rfl rfl ?_; intro _)))
    refine sy_ov (ov_call rfl (fun w hw => hrec w ((hstk _ hxm).at hw))) rfl rfl ?_
    repeat (first | refine sy_k rfl rfl ?_ | (refine gO ?_; first | refine sy_ov (ov_p rfl) rfl rfl ?_ | (refine gB ?_; (refine sy_ov (ov_ar rfl rfl rfl ?_ ?_) rfl rfl ?_; omega; omega)) | (refine gK ?_; refine sy_ov (ov_max rfl rfl) rfl rfl ?_)))
    refine sy_back (i + 1) ⟨by omega, by omega⟩ (by omega) ⟨⟨_, rfl, ?_⟩, ⟨_, rfl, rfl⟩, ⟨_, rfl, rfl⟩, ⟨_, rfl, rfl⟩, trivial⟩ (List.nil_sublist _)
    rw [htk, depWs_snoc, ← e0]
  · have hi : i = kids.length := by omega
    subst hi
    have hall : (plRs kids).take (kids.length : Int).toNat = plRs kids := by rw [List.take_of_length_le]; rw [plRs_len]; omega
    rw [hall]
    repeat (first | refine sy_k rfl rfl ?_ | (refine gO ?_; refine sy_ov (ov_p rfl) rfl rfl ?_) | (refine sy_cond_f rfl ?_ ?_; (first | with_reducible rfl | assumption | omega | (simp <;> first | omega | assumption))))
    refine sy_ov (ov_addw rfl rfl) rfl rfl ?_
    repeat (first | refine sy_k rfl rfl ?_ | (refine gO ?_; refine sy_ov (ov_p rfl) rfl rfl ?_) | refine sy_rt ?_)
    exact ret1 rfl rfl rfl
set_option maxRecDepth 20000 in
set_option maxHeartbeats 4000000 in
theorem size_c22 : ∀ (m : Nat) (z : RawA), SizeOf.sizeOf z ≤ m → ∀ (w : World), RawJ w z → Calls Try.prog 57 #[.agg ⟨rawV z⟩] w fun e w' => e = .returned (.tuple #[.int .i64 (cntW (plR z)), .int .i64 (depW (plR z))]) ∧ Below w.heap.size w w' := by
 intro m
 induction m with
 | zero => intro z hz; cases z; simp at hz
 | succ m ih =>
  intro z hz w hw0
  obtain ⟨k, a, n, s, pk, ck, keys, p, c, kids⟩ := z
  obtain ⟨hb, hs1, hs2, hkid⟩ := hw0.parts
  have hm : kids.length ≤ 9223372036854775807 := hb.2
  have hst : St (fun _ => False) w (fun w => IsSl w 6 p kids.length (kids.flatMap rawV)) := St.start (IsSl.bl _ _ _ _) hs2
  have hstk : ∀ x ∈ kids, St (fun _ => False) w (fun w => RawJ w x) := fun x hx => St.start (RawJ.bl _) (hkid x hx)
  refine sy_enter rfl rfl ?_
  simp only [initFr]
  repeat (first | refine sy_k rfl rfl ?_ | (refine gO ?_; first | refine sy_ov (ov_p rfl) rfl rfl ?_ | (refine sy_box rfl rfl rfl ?_; intro _)))
  rename_i b1
  refine sy_loop (α := Int) (fun i => [(1, .pointer (some ⟨b1, 0, none⟩)), (4, .int .i64 (cntWs 1 ((plRs kids).take i.toNat))), (5, .int .i64 (depWs 0 ((plRs kids).take i.toNat))), (6, .int .i64 i)]) (fun _ => [blk b1 49 (rawV (.mk k a n s pk ck keys p c kids))]) (fun i => 0 ≤ i ∧ i ≤ kids.length) (fun i => (kids.length - i).toNat) 0 ⟨by omega, by omega⟩ ⟨⟨_, rfl, rfl⟩, ⟨_, rfl, rfl⟩, ⟨_, rfl, rfl⟩, ⟨_, rfl, rfl⟩, trivial⟩ sr ?_
  rintro i ⟨i0, i1⟩
  by_cases hlt : i < kids.length
  · obtain ⟨x, hx⟩ : ∃ x, kids[i.toNat]? = some x := ⟨_, List.getElem?_eq_getElem (by omega)⟩
    have hxm := List.mem_of_getElem? hx
    obtain ⟨b, off, hp, hat⟩ := hst.addr (by omega)
    subst hp
    have hsz := sizeR_kid (k := k) (a := a) (n := n) (s := s) (pk := pk) (ck := ck) (keys := keys) (p := some ⟨b, off, none⟩) (c := c) hxm
    have hrec := ih x (by omega)
    have htk : (plRs kids).take (i + 1).toNat = (plRs kids).take i.toNat ++ [plR x] := by rw [show (i + 1).toNat = i.toNat + 1 by omega]; exact take_snoc _ _ _ (plRs_at hx)
    by_cases hgt : depW (plR x) > depWs 0 ((plRs kids).take i.toNat)
    · have hmx : depWs 0 ((plRs kids).take (i + 1).toNat) = depW (plR x) := by rw [htk, depWs_snoc]; omega
      repeat (first | refine sy_k rfl rfl ?_ | (refine gO ?_; first | refine sy_ov (ov_p rfl) rfl rfl ?_ | (refine gK ?_; refine sy_ov (ov_lens rfl) rfl rfl ?_) | (refine gL ?_; refine sy_ov (ov_ld 0 rfl rfl rfl) rfl rfl ?_) | refine sy_ov (ov_fieldAddr rfl rfl rfl) rfl rfl ?_ | (refine sy_ov (ov_indexAddr rfl rfl ?_ ?_) rfl rfl ?_; omega; omega)) | (refine sy_cond_t rfl ?_ ?_; (first | with_reducible rfl | assumption | omega | (simp <;> first | omega | assumption))))
      refine sy_ov (ov_elem (f := rawV) hat hx rfl rfl rawV_len) rfl rfl ?_
      refine sy_ov (ov_call rfl (fun w hw => hrec w ((hstk _ hxm).at hw))) rfl rfl ?_
      repeat (first | refine sy_k rfl rfl ?_ | (refine gO ?_; refine sy_ov (ov_p rfl) rfl rfl ?_))
      refine sy_ov (ov_addw rfl rfl) rfl rfl ?_
      repeat (first | refine sy_k rfl rfl ?_ | (refine gO ?_; first | refine sy_ov (ov_p rfl) rfl rfl ?_ | (refine gB ?_; (refine sy_ov (ov_ar rfl rfl rfl ?_ ?_) rfl rfl ?_; omega; omega))) | (refine sy_cond_t rfl ?_ ?_; (first | with_reducible rfl | assumption | omega | (simp <;> first | omega | assumption))))
      refine sy_back (i + 1) ⟨by omega, by omega⟩ (by omega) ⟨⟨_, rfl, rfl⟩, ⟨_, rfl, ?_⟩, ⟨_, rfl, ?_⟩, ⟨_, rfl, rfl⟩, trivial⟩ sr
      · rw [htk, cntWs_snoc]; rfl
      · rw [hmx]
    · have hmx : depWs 0 ((plRs kids).take (i + 1).toNat) = depWs 0 ((plRs kids).take i.toNat) := by rw [htk, depWs_snoc]; omega
      repeat (first | refine sy_k rfl rfl ?_ | (refine gO ?_; first | refine sy_ov (ov_p rfl) rfl rfl ?_ | (refine gK ?_; refine sy_ov (ov_lens rfl) rfl rfl ?_) | (refine gL ?_; refine sy_ov (ov_ld 0 rfl rfl rfl) rfl rfl ?_) | refine sy_ov (ov_fieldAddr rfl rfl rfl) rfl rfl ?_ | (refine sy_ov (ov_indexAddr rfl rfl ?_ ?_) rfl rfl ?_; omega; omega)) | (refine sy_cond_t rfl ?_ ?_; (first | with_reducible rfl | assumption | omega | (simp <;> first | omega | assumption))))
      refine sy_ov (ov_elem (f := rawV) hat hx rfl rfl rawV_len) rfl rfl ?_
      refine sy_ov (ov_call rfl (fun w hw => hrec w ((hstk _ hxm).at hw))) rfl rfl ?_
      repeat (first | refine sy_k rfl rfl ?_ | (refine gO ?_; refine sy_ov (ov_p rfl) rfl rfl ?_))
      refine sy_ov (ov_addw rfl rfl) rfl rfl ?_
      repeat (first | refine sy_k rfl rfl ?_ | (refine gO ?_; first | refine sy_ov (ov_p rfl) rfl rfl ?_ | (refine gB ?_; (refine sy_ov (ov_ar rfl rfl rfl ?_ ?_) rfl rfl ?_; omega; omega))) | (refine sy_cond_f rfl ?_ ?_; (first | with_reducible rfl | assumption | omega | (simp <;> first | omega | assumption))))
      refine sy_back (i + 1) ⟨by omega, by omega⟩ (by omega) ⟨⟨_, rfl, rfl⟩, ⟨_, rfl, ?_⟩, ⟨_, rfl, ?_⟩, ⟨_, rfl, rfl⟩, trivial⟩ sr
      · rw [htk, cntWs_snoc]; rfl
      · rw [hmx]
  · have hi : i = kids.length := by omega
    subst hi
    have hall : (plRs kids).take (kids.length : Int).toNat = plRs kids := by rw [List.take_of_length_le]; rw [plRs_len]; omega
    rw [hall]
    repeat (first | refine sy_k rfl rfl ?_ | (refine gO ?_; first | refine sy_ov (ov_p rfl) rfl rfl ?_ | (refine gK ?_; refine sy_ov (ov_lens rfl) rfl rfl ?_) | (refine gL ?_; refine sy_ov (ov_ld 0 rfl rfl rfl) rfl rfl ?_) | refine sy_ov (ov_fieldAddr rfl rfl rfl) rfl rfl ?_) | (refine sy_cond_f rfl ?_ ?_; (first | with_reducible rfl | assumption | omega | (simp <;> first | omega | assumption))))
    refine sy_ov (ov_addw rfl rfl) rfl rfl ?_
    repeat (first | refine sy_k rfl rfl ?_ | (refine gO ?_; refine sy_ov (ov_p rfl) rfl rfl ?_) | refine sy_rt ?_)
    exact ret2 rfl rfl rfl rfl
end Go.Proofs.Ytldjakeigjngoaa
/- Contract: whether the places in a value rise; counts that are small. -/
namespace Go.Proofs.Ytldjakeigjngoaa
open Go.RowKit Bf
structure RiSt where
 i : Int
 last : Int
/-! ### Counts that are small -/
mutual
theorem cntR_pos : ∀ (v : RawP), 1 ≤ cntR v
 | .mk _ _ _ _ _ l => by simp only [cntR]; have := cntRs_pos l; omega
theorem cntRs_pos : ∀ (l : List RawP), 0 ≤ cntRs l
 | [] => by simp [cntRs]
 | x :: l => by simp only [cntRs]; have := cntR_pos x; have := cntRs_pos l; omega
end
theorem w64_small (n : Int) (h0 : 0 ≤ n) (h1 : n ≤ 1000000) : w64 n = n := wrap_in n (by omega) (by omega)
mutual
theorem cntW_small : ∀ (v : RawP), cntR v ≤ 1000000 → cntW v = cntR v
 | .mk _ _ _ _ _ l, h => by
  simp only [cntR] at h
  simp only [cntW, cntR]
  exact cntWs_small l 1 (by decide) h
theorem cntWs_small : ∀ (l : List RawP) (n : Int), 0 ≤ n → n + cntRs l ≤ 1000000 → cntWs n l = n + cntRs l
 | [], n, _, _ => by simp [cntWs, cntRs]
 | x :: l, n, h0, h => by
  simp only [cntRs] at h
  have h1 := cntR_pos x
  have h2 := cntRs_pos l
  simp only [cntWs, cntRs]
  rw [cntW_small x (by omega), w64_small _ (by omega) (by omega), cntWs_small l (n + cntR x) (by omega) (by omega)]
  omega
end
mutual
theorem depR_pos : ∀ (v : RawP), 1 ≤ depR v
 | .mk _ _ _ _ _ l => by simp only [depR]; have := depRs_pos l; omega
theorem depRs_pos : ∀ (l : List RawP), 0 ≤ depRs l
 | [] => by simp [depRs]
 | x :: l => by simp only [depRs]; have := depR_pos x; omega
end
mutual
theorem depW_small : ∀ (v : RawP), depR v ≤ 1000000 → depW v = depR v
 | .mk _ _ _ _ _ l, h => by
  simp only [depR] at h
  have h2 := depRs_pos l
  simp only [depW, depR]
  rw [depWs_small l 0 (by decide) (by omega), show max 0 (depRs l) = depRs l by omega, w64_small _ (by omega) (by omega)]
  omega
theorem depWs_small : ∀ (l : List RawP) (n : Int), 0 ≤ n → depRs l ≤ 1000000 → depWs n l = max n (depRs l)
 | [], n, _, _ => by simp only [depWs, depRs]; omega
 | x :: l, n, h0, h => by
  simp only [depRs] at h
  simp only [depWs, depRs]
  rw [depW_small x (by omega), depWs_small l _ (by omega) (by omega)]
  omega
end
end Go.Proofs.Ytldjakeigjngoaa