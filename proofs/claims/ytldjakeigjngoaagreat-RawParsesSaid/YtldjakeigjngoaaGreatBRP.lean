/- BRP: texts of this proof, joined by program: RefP, RefP2, RefPz, RefV. -/
import Derived.Test.YtldjakeigjngoaaGreatBST
import Derived.Test.YtldjakeigjngoaaGreatBOB
import Derived.Test.YtldjakeigjngoaaGreatBRV
/- Plain: the tokens that are left, as the document's reading passes them; where they lie. -/
set_option linter.unusedVariables false
set_option linter.unusedSimpArgs false
namespace Go.Proofs.YtldjakeigjngoaaGreat
open Go.RowKit Bf
structure PS where
 off : Nat
 l : List TokT
 c : Nat
 m : Int
 e : Int
 a : Int
abbrev ptV (g : Nat) (x : PS) : List Value := [.slice (some ⟨g, x.off, none⟩) x.l.length x.c, .int .i64 x.m, .int .i64 x.e, .int .i64 x.a]
def PS.adv (x : PS) : PS := ⟨x.off + 5, x.l.tail, x.c - 1, x.m, x.e, x.a⟩
def PS.fail (x : PS) (e : Int) : PS := if x.e = 0 then ⟨x.off, x.l, x.c, x.m, e, (hdT x.l).2.1⟩ else x
def PS.odd (x : PS) : PS := x.fail (oddE (hdT x.l)).1
def PS.mayB (x : PS) (t : List UInt8) : Bool := decide (x.e = 0) && mkB x.l t
def PS.may (x : PS) (t : List UInt8) : PS := if x.mayB t = true then x.adv else x
def PS.must (x : PS) (t : List UInt8) : PS := if x.mayB t = true then x.adv else x.odd
def PS.anyB (x : PS) (k : Int) : Bool := decide (x.e = 0) && decide ((hdT x.l).1 = k)
def PS.any (x : PS) (k : Int) : PS := if x.anyB k = true then x.adv else x.odd
def PS.tok (x : PS) (k : Int) : TokT := if x.anyB k = true then hdT x.l else ztk
structure PS.Ok (x : PS) : Prop where
 ne : 0 < x.l.length
 nx : ∀ i t, x.l[i]? = some t → t.1 ≠ 0 → i + 1 < x.l.length
 le : x.l.length ≤ x.c
 cm : x.c ≤ 9223372036854775807
 bd : ∀ t ∈ x.l, t.2.2.2.1.length ≤ 1000000000
 nz : ∀ t ∈ x.l, (t.1 = 2 → t.2.2.2.1 = []) ∧ (t.1 ≠ 2 → t.2.2.2.2 = 0)
theorem PS.Ok.hd {x : PS} (h : x.Ok) : ∃ t, x.l[0]? = some t ∧ hdT x.l = t := by
 have := h.ne
 obtain ⟨t, ht⟩ : ∃ t, x.l[0]? = some t := ⟨_, List.getElem?_eq_getElem this⟩
 refine ⟨t, ht, ?_⟩
 cases hl : x.l with
 | nil => rw [hl] at ht; cases ht
 | cons u l => rw [hl] at ht; simp at ht; simpa [hdT] using ht
theorem PS.Ok.more {x : PS} (h : x.Ok) (h0 : (hdT x.l).1 ≠ 0) : 1 < x.l.length := by
 obtain ⟨t, ht, hh⟩ := h.hd
 exact h.nx 0 t ht (by rw [← hh]; exact h0)
theorem PS.Ok.adv {x : PS} (h : x.Ok) (h0 : (hdT x.l).1 ≠ 0) : x.adv.Ok := by
 have h1 := h.more h0
 have h2 := h.le
 have h3 := h.cm
 refine ⟨by simp [PS.adv]; omega, fun i t hi ht => ?_, by simp [PS.adv]; omega, by simp [PS.adv]; omega, fun t ht => h.bd t (List.mem_of_mem_tail ht), fun t ht => h.nz t (List.mem_of_mem_tail ht)⟩
 have hi' : x.l[i + 1]? = some t := by simpa [PS.adv] using hi
 have := h.nx _ _ hi' ht
 simp [PS.adv]; omega
theorem PS.mayB_hd {x : PS} {t : List UInt8} (h : x.mayB t = true) : x.e = 0 ∧ mkB x.l t = true ∧ (hdT x.l).1 ≠ 0 := by
 unfold PS.mayB at h
 simp only [Bool.and_eq_true, decide_eq_true_eq] at h
 exact ⟨h.1, h.2, by rw [mk_hd h.2]; decide⟩
theorem PS.anyB_hd {x : PS} {k : Int} (h : x.anyB k = true) : x.e = 0 ∧ (hdT x.l).1 = k := by
 unfold PS.anyB at h
 simpa only [Bool.and_eq_true, decide_eq_true_eq] using h
theorem PS.Ok.same {x y : PS} (h : x.Ok) (hl : y.l = x.l) (hc : y.c = x.c) : y.Ok := by
 refine ⟨by rw [hl]; exact h.ne, fun i t hi ht => ?_, by rw [hl, hc]; exact h.le, by rw [hc]; exact h.cm, by rw [hl]; exact h.bd, by rw [hl]; exact h.nz⟩
 rw [hl] at hi ⊢; exact h.nx i t hi ht
theorem PS.fail_l (x : PS) (e : Int) : (x.fail e).l = x.l ∧ (x.fail e).c = x.c ∧ (x.fail e).off = x.off ∧ (x.fail e).m = x.m := by unfold PS.fail; split <;> exact ⟨rfl, rfl, rfl, rfl⟩
theorem PS.Ok.fail {x : PS} (h : x.Ok) (e : Int) : (x.fail e).Ok := h.same (x.fail_l e).1 (x.fail_l e).2.1
theorem PS.Ok.may {x : PS} (h : x.Ok) (t : List UInt8) : (x.may t).Ok := by
 unfold PS.may; split
 · rename_i hb; exact h.adv (PS.mayB_hd hb).2.2
 · exact h
theorem PS.Ok.must {x : PS} (h : x.Ok) (t : List UInt8) : (x.must t).Ok := by
 unfold PS.must; split
 · rename_i hb; exact h.adv (PS.mayB_hd hb).2.2
 · exact h.fail _
theorem PS.Ok.any {x : PS} (h : x.Ok) {k : Int} (hk : k ≠ 0) : (x.any k).Ok := by
 unfold PS.any; split
 · rename_i hb; exact h.adv (by rw [(PS.anyB_hd hb).2]; exact hk)
 · exact h.fail _
def PS.On (x y : PS) : Prop := ∃ j, y.off = x.off + 5 * j ∧ y.l = x.l.drop j ∧ y.c = x.c - j
theorem PS.On.refl (x : PS) : x.On x := ⟨0, by omega, rfl, rfl⟩
theorem PS.On.trans {x y z : PS} (h : x.On y) (h' : y.On z) : x.On z := by
 obtain ⟨j, h1, h2, h3⟩ := h
 obtain ⟨k, k1, k2, k3⟩ := h'
 exact ⟨j + k, by omega, by rw [k2, h2, List.drop_drop], by omega⟩
theorem PS.On.adv (x : PS) : x.On x.adv := ⟨1, rfl, by simp [PS.adv], rfl⟩
theorem PS.On.fail (x : PS) (e : Int) : x.On (x.fail e) := by
 obtain ⟨h1, h2, h3, _⟩ := x.fail_l e
 exact ⟨0, by omega, by rw [h1]; rfl, by omega⟩
theorem PS.On.may (x : PS) (t : List UInt8) : x.On (x.may t) := by
 unfold PS.may; split
 · exact .adv x
 · exact .refl x
theorem PS.On.must (x : PS) (t : List UInt8) : x.On (x.must t) := by
 unfold PS.must; split
 · exact .adv x
 · exact .fail x _
theorem PS.On.any (x : PS) (k : Int) : x.On (x.any k) := by
 unfold PS.any; split
 · exact .adv x
 · exact .fail x _
theorem PS.On.len {x y : PS} (h : x.On y) : y.l.length ≤ x.l.length := by obtain ⟨j, _, h2, _⟩ := h; rw [h2]; simp
def TkAt (g : Nat) (x : PS) (w : World) : Prop := At w g x.off (x.l.flatMap tokV)
theorem TkAt.bl (g : Nat) (x : PS) : Bl fun w => TkAt g x w := At.bl _ _ _
theorem flat_drop : ∀ (j : Nat) (l : List TokT) (i : Nat), ((l.drop j).flatMap tokV)[i]? = (l.flatMap tokV)[5 * j + i]?
 | 0, l, i => by simp
 | j + 1, [], i => by simp
 | j + 1, t :: l, i => by
  rw [List.drop_succ_cons, flat_drop j l i, List.flatMap_cons, List.getElem?_append_right (by rw [tokV_len]; omega), tokV_len]
  congr 1; omega
theorem TkAt.on {g : Nat} {x y : PS} {w : World} (h : TkAt g x w) (hy : x.On y) : TkAt g y w := by
 obtain ⟨j, h1, h2, h3⟩ := hy
 intro i u hi
 rw [h2, flat_drop] at hi
 have := h (5 * j + i) u hi
 rw [h1, Nat.add_assoc]; exact this
end Go.Proofs.YtldjakeigjngoaaGreat
/- Plain: what the document reads of the tokens that are left is what the tokens say. -/
namespace Go.Proofs.YtldjakeigjngoaaGreat
open Go.RowKit Bf
def valE (d : Nat) (x : PS) : RR RawP := if x.e ≠ 0 then .bad x.e x.a else valR d x.l x.m
theorem valE_ok {d : Nat} {x : PS} (h : x.e = 0) : valE d x = valR d x.l x.m := if_neg (fun hn => hn h)
theorem valE_bad {d : Nat} {x : PS} (h : x.e ≠ 0) : valE d x = .bad x.e x.a := if_pos h
theorem odd_bad {x : PS} (h : x.e = 0) : x.odd.e ≠ 0 ∧ (x.odd.e = (oddE (hdT x.l)).1 ∧ x.odd.a = (hdT x.l).2.1) := by
 unfold PS.odd PS.fail
 rw [if_pos h]
 exact ⟨oddE_ne _, rfl, rfl⟩
theorem odd_same {x : PS} (h : x.e ≠ 0) : x.odd = x := by unfold PS.odd PS.fail; rw [if_neg h]
theorem may_bad {x : PS} (h : x.e ≠ 0) (t : List UInt8) : x.mayB t = false := by unfold PS.mayB; simp [h]
theorem any_bad {x : PS} (h : x.e ≠ 0) (k : Int) : x.anyB k = false := by unfold PS.anyB; simp [h]
theorem must_same {x : PS} (h : x.e ≠ 0) (t : List UInt8) : x.must t = x := by unfold PS.must; rw [may_bad h, if_neg (by decide), odd_same h]
theorem any_same {x : PS} (h : x.e ≠ 0) (k : Int) : x.any k = x := by unfold PS.any; rw [any_bad h, if_neg (by decide), odd_same h]
theorem mayB_ok {x : PS} (h : x.e = 0) (t : List UInt8) : x.mayB t = mkB x.l t := by unfold PS.mayB; simp [h]
theorem oddR_eq {α : Type} {x : PS} (h : x.e = 0) : (oddR x.l : RR α) = .bad x.odd.e x.odd.a := by
 obtain ⟨_, h1, h2⟩ := odd_bad h
 rw [h1, h2]; rfl
def elP (x : PS) (rec : Bool) : PS := if rec = true then (x.any 1).must [58] else x
def keyP (x : PS) (rec : Bool) : List WordT := if rec = true then [((x.tok 1).2.2.2.1, (x.tok 1).2.1)] else []
theorem elP_m (x : PS) (rec : Bool) : (elP x rec).m = x.m := by
 have h1 : ∀ (y : PS) t, (y.must t).m = y.m := fun y t => by
  unfold PS.must PS.odd; split
  · rfl
  · exact (y.fail_l _).2.2.2
 have h2 : ∀ (y : PS) k, (y.any k).m = y.m := fun y t => by
  unfold PS.any PS.odd; split
  · rfl
  · exact (y.fail_l _).2.2.2
 unfold elP; split
 · rw [h1, h2]
 · rfl
theorem must_m (y : PS) (t : List UInt8) : (y.must t).m = y.m := by
 unfold PS.must PS.odd; split
 · rfl
 · exact (y.fail_l _).2.2.2
theorem elP_on (x : PS) (rec : Bool) : x.On (elP x rec) := by
 unfold elP; split
 · exact (PS.On.any x 1).trans (.must _ _)
 · exact .refl x
theorem PS.Ok.elP {x : PS} (h : x.Ok) (rec : Bool) : (elP x rec).Ok := by
 unfold Go.Proofs.YtldjakeigjngoaaGreat.elP; split
 · exact (h.any (by decide)).must _
 · exact h
theorem el_eq {d : Nat} {x : PS} (rec : Bool) (h : x.e = 0) : elR (valR d) rec x.l x.m = (valE d (elP x rec)).map fun v => (keyP x rec, v) := by
 unfold elR elP keyP
 cases rec with
 | false => simp only [Bool.false_eq_true, if_false]; rw [valE_ok h]
 | true =>
  simp only [if_true]
  by_cases h1 : (hdT x.l).1 = 1
  · have ha : x.anyB 1 = true := by unfold PS.anyB; simp [h, h1]
    have e1 : x.any 1 = x.adv := by unfold PS.any; rw [if_pos ha]
    have e2 : x.tok 1 = hdT x.l := by unfold PS.tok; rw [if_pos ha]
    have h' : x.adv.e = 0 := h
    rw [if_pos h1, e1, e2]
    by_cases hm : mkB x.l.tail [58] = true
    · have hb : x.adv.mayB [58] = true := by rw [mayB_ok h']; exact hm
      have e3 : x.adv.must [58] = x.adv.adv := by unfold PS.must; rw [if_pos hb]
      have h'' : x.adv.adv.e = 0 := h
      rw [if_pos hm, e3, valE_ok h'']; rfl
    · have hb : ¬ x.adv.mayB [58] = true := by rw [mayB_ok h']; exact hm
      have e3 : x.adv.must [58] = x.adv.odd := by unfold PS.must; rw [if_neg hb]
      rw [if_neg hm, e3, valE_bad (odd_bad h').1]
      exact oddR_eq (x := x.adv) h'
  · have ha : ¬ x.anyB 1 = true := by unfold PS.anyB; simp [h, h1]
    have e1 : x.any 1 = x.odd := by unfold PS.any; rw [if_neg ha]
    rw [if_neg h1, e1, must_same (odd_bad h).1, valE_bad (odd_bad h).1]
    exact oddR_eq h
def RVP (g : Nat) (x : PS) (R : RR RawP) (u : Value) (es : List En) : Prop :=
 ∃ z y, u = .tuple #[.agg ⟨rawV z⟩, .agg ⟨ptV g y⟩] ∧ es = [rawE [z]] ∧ x.On y ∧ y.Ok ∧ 0 ≤ y.m ∧ y.m ≤ 4096 ∧
  match R with
  | .ok v l' m' => y.e = 0 ∧ plR z = v ∧ l' = y.l ∧ m' = y.m
  | .bad e a => y.e = e ∧ y.a = a ∧ e ≠ 0
theorem RVP.on {g : Nat} {x y : PS} {R : RR RawP} {u : Value} {es : List En} (h : x.On y) (hv : RVP g y R u es) : RVP g x R u es := by
 obtain ⟨z, y', h1, h2, h3, h4⟩ := hv
 exact ⟨z, y', h1, h2, h.trans h3, h4⟩
structure RwS where
 ks : List WordT
 pk : Option Addr
 ck : Nat
 zs : List RawA
 p : Option Addr
 c : Nat
 x : PS
structure RwInv (x0 : PS) (d : Nat) (rec : Bool) (e : List UInt8) (R : RR (List WordT × List RawP)) (s : RwS) : Prop where
 on : x0.On s.x
 ok : s.x.Ok
 m0 : 0 ≤ s.x.m
 m1 : s.x.m ≤ 4096
 go : s.x.e = 0 → s.zs.length + s.x.l.length ≤ 65537 ∧ s.ks.length ≤ s.zs.length ∧ ∃ n, s.x.l.length ≤ n ∧ rowsR (valR d) rec e n s.x.l s.x.m s.ks (plRs s.zs) = R
 bad : s.x.e ≠ 0 → R = .bad s.x.e s.x.a
def rwMs (s : RwS) : Nat := if s.x.e = 0 then s.x.l.length + 1 else 0
section
variable {x0 : PS} {d : Nat} {rec : Bool} {e : List UInt8} {R : RR (List WordT × List RawP)} {s : RwS} {z : RawA} {y : PS}
structure ElOk (s : RwS) (d : Nat) (rec : Bool) (z : RawA) (y : PS) : Prop where
 on : (elP s.x rec).On y
 ok : y.Ok
 m0 : 0 ≤ y.m
 m1 : y.m ≤ 4096
 v : match valE d (elP s.x rec) with
  | .ok v l' m' => y.e = 0 ∧ plR z = v ∧ l' = y.l ∧ m' = y.m
  | .bad e a => y.e = e ∧ y.a = a ∧ e ≠ 0
theorem keyP_len (x : PS) (rec : Bool) : (keyP x rec).length ≤ 1 := by unfold keyP; split <;> simp
theorem rw_over (hI : RwInv x0 d rec e R s) (he : s.x.e = 0) (hE : ElOk s d rec z y) (hb : y.mayB e = true) : R = .ok (s.ks ++ keyP s.x rec, plRs s.zs ++ [plR z]) y.adv.l y.m := by
 obtain ⟨hlen, _, n, hn, hR⟩ := hI.go he
 have hel := el_eq (d := d) rec he
 have hv := hE.v
 obtain ⟨hy0, hy1, _⟩ := PS.mayB_hd hb
 have hn1 : 1 ≤ n := by have := hI.ok.ne; omega
 cases hr : valE d (elP s.x rec) with
 | ok v l' m' =>
  rw [hr] at hel hv
  obtain ⟨_, rfl, rfl, rfl⟩ := hv
  exact rows_end hR hn1 hel hy1
 | bad e a =>
  rw [hr] at hv
  exact absurd hy0 (by rw [hv.1]; exact hv.2.2)
theorem rw_next (hee : e ≠ []) (hI : RwInv x0 d rec e R s) (he : s.x.e = 0) (hE : ElOk s d rec z y) (hb : y.mayB e = false) (hl : s.x.l.length ≤ x0.l.length) (p' : Option Addr) (c' : Nat) (pk' : Option Addr) (ck' : Nat) :
 RwInv x0 d rec e R ⟨s.ks ++ keyP s.x rec, pk', ck', s.zs ++ [z], p', c', y.must [44]⟩ ∧ rwMs ⟨s.ks ++ keyP s.x rec, pk', ck', s.zs ++ [z], p', c', y.must [44]⟩ < rwMs s := by
 obtain ⟨hlen, hks, n, hn, hR⟩ := hI.go he
 have hel := el_eq (d := d) rec he
 have hv := hE.v
 have hn1 : 1 ≤ n := by have := hI.ok.ne; omega
 have hon := (hI.on.trans (elP_on s.x rec)).trans (hE.on.trans (.must y [44]))
 have hle := ((elP_on s.x rec).trans hE.on).len
 have hkl := keyP_len s.x rec
 cases hr : valE d (elP s.x rec) with
 | ok v l' m' =>
  rw [hr] at hel hv
  obtain ⟨hy0, rfl, rfl, rfl⟩ := hv
  have hbe : mkB y.l e = false := by rw [← mayB_ok hy0]; exact hb
  by_cases hc : mkB y.l [44] = true
  · have hmb : y.mayB [44] = true := by rw [mayB_ok hy0]; exact hc
    have e1 : y.must [44] = y.adv := by unfold PS.must; rw [if_pos hmb]
    have hrm := rows_more hR hn1 hel hbe hc
    have hne := (PS.mayB_hd hmb).2.2
    have hmo := hE.ok.more hne
    have hl1 : y.adv.l.length = y.l.length - 1 := by simp [PS.adv]
    refine ⟨⟨hon, hE.ok.must _, by rw [must_m]; exact hE.m0, by rw [must_m]; exact hE.m1, fun _ => ?_, fun hn' => ?_⟩, ?_⟩
    · rw [e1]
      simp only [List.length_append, List.length_singleton, hl1]
      refine ⟨by omega, by omega, n - 1, by omega, ?_⟩
      rw [plRs_snoc]; exact hrm
    · rw [e1] at hn'; exact absurd hy0 hn'
    · unfold rwMs
      rw [if_pos he, e1, if_pos (show y.adv.e = 0 from hy0)]
      simp only [hl1]; omega
  · have hc : mkB y.l [44] = false := by simpa using hc
    have hmb : y.mayB [44] = false := by rw [mayB_ok hy0]; exact hc
    have e1 : y.must [44] = y.odd := by unfold PS.must; rw [hmb, if_neg (by decide)]
    have hro := rows_odd hR hn1 hel hbe hc
    have hob := odd_bad hy0
    refine ⟨⟨hon, hE.ok.must _, by rw [must_m]; exact hE.m0, by rw [must_m]; exact hE.m1, fun h0 => ?_, fun _ => ?_⟩, ?_⟩
    · rw [e1] at h0; exact absurd h0 hob.1
    · rw [e1, hro]; exact oddR_eq hy0
    · unfold rwMs
      rw [if_pos he, e1, if_neg hob.1]; omega
 | bad e2 a2 =>
  rw [hr] at hel hv
  obtain ⟨h1, h2, h3⟩ := hv
  have hne : y.e ≠ 0 := by rw [h1]; exact h3
  have e1 : y.must [44] = y := must_same hne _
  refine ⟨⟨hon, hE.ok.must _, by rw [must_m]; exact hE.m0, by rw [must_m]; exact hE.m1, fun h0 => ?_, fun _ => ?_⟩, ?_⟩
  · rw [e1] at h0; exact absurd h0 hne
  · rw [e1]; rw [rows_bad hR hn1 hel, h1, h2]
  · unfold rwMs
    rw [if_pos he, e1, if_neg hne]; omega
end
end Go.Proofs.YtldjakeigjngoaaGreat
/- Plain: a token has a text or a number, never both. -/
namespace Go.Proofs.YtldjakeigjngoaaGreat
open Go.RowKit Bf
def TokZ (l : List TokT) : Prop := ∀ t ∈ l, (t.1 = 2 → t.2.2.2.1 = []) ∧ (t.1 ≠ 2 → t.2.2.2.2 = 0)
theorem tokA_nz (s : List UInt8) (i : Nat) {t : TokT} {e p : Int} (h : tokA s i = (t, e, p)) : (t.1 = 2 → t.2.2.2.1 = []) ∧ (t.1 ≠ 2 → t.2.2.2.2 = 0) := by
 unfold tokA at h
 split at h
 · split at h
   · obtain ⟨rfl, rfl, rfl⟩ := tri_inj h; simp [ztk]
   · obtain ⟨rfl, rfl, rfl⟩ := tri_inj h; simp
 · split at h
   · obtain ⟨rfl, rfl, rfl⟩ := tri_inj h; simp
   · split at h
     · split at h
       · obtain ⟨rfl, rfl, rfl⟩ := tri_inj h; simp [ztk]
       · obtain ⟨rfl, rfl, rfl⟩ := tri_inj h; simp
     · split at h
       · split at h
         · obtain ⟨rfl, rfl, rfl⟩ := tri_inj h; simp [ztk]
         · obtain ⟨rfl, rfl, rfl⟩ := tri_inj h; simp
       · obtain ⟨rfl, rfl, rfl⟩ := tri_inj h; simp [ztk]
theorem scanT_nz (s : List UInt8) : ∀ (m i : Nat), s.length - i ≤ m → TokZ (scanT s i).1 := by
 intro m
 induction m with
 | zero => intro i h; rw [scanT_end s i (by omega)]; intro t ht; simp only [List.mem_singleton] at ht; subst ht; exact ⟨by simp, by simp⟩
 | succ m ih =>
  intro i h
  have hnil : TokZ [] := fun t ht => by cases ht
  by_cases he : s.length ≤ i
  · rw [scanT_end s i he]; intro t ht; simp only [List.mem_singleton] at ht; subst ht; exact ⟨by simp, by simp⟩
  · obtain ⟨tk, e0, p0, htk⟩ : ∃ t e p, tokA s i = (t, e, p) := ⟨_, _, _, rfl⟩
    rw [scanT, dif_neg he]
    split
    · exact ih (i + 1) (by omega)
    · split
      · split
        · exact hnil
        · split
          · exact ih _ (by omega)
          · exact hnil
      · split
        · exact hnil
        · split
          · rename_i h0 h2
            split
            · intro t ht
              simp only [List.mem_cons] at ht
              rcases ht with rfl | ht
              · rw [htk]; exact tokA_nz s i htk
              · exact ih _ (by omega) t ht
            · exact hnil
          · exact hnil
theorem scanR_nz (s : List UInt8) : TokZ (scanR s).1 := by
 unfold scanR; split
 · exact fun t ht => by cases ht
 · exact scanT_nz s _ 0 (Nat.le_refl _)
end Go.Proofs.YtldjakeigjngoaaGreat
/- Contracts: the tokens that are left, as the document reads them. -/
namespace Go.Proofs.YtldjakeigjngoaaGreat
open Go.RowKit Bf
theorem St.le2 {C C' : Cx} {R : World → Prop} (h : St C.D C.w0 R) (hC : CxLe C C') : St C'.D C'.w0 R := fun w hk => h w (hC.keep w hk)
theorem tk_at {g : Nat} {x : PS} {w : World} {t : TokT} (h : TkAt g x w) (ht : x.l[0]? = some t) (j : Nat) {u : Value} (hj : (tokV t)[j]? = some u) : w.cell? ⟨g, x.off + j, none⟩ = some u := by
 refine h j u ?_
 cases hl : x.l with
 | nil => rw [hl] at ht; cases ht
 | cons y l =>
  rw [hl] at ht
  simp only [List.getElem?_cons_zero, Option.some.injEq] at ht
  subst ht
  rw [List.flatMap_cons, List.getElem?_append_left (List.getElem?_eq_some_iff.1 hj).1]; exact hj
set_option maxRecDepth 20000 in
theorem rp_fine (g : Nat) (x : PS) (b : Bool) (hb : decide (x.e = 0) = b) (w : World) : Calls Tryz.prog 26 #[.agg ⟨ptV g x⟩] w fun u w' => u = .returned (.bool b) ∧ Below w.heap.size w w' := by
 subst hb
 refine sy_enter rfl rfl ?_
 simp only [initFr]
 repeat (first | refine sy_k rfl rfl ?_ | (refine gO ?_; first | refine sy_ov (ov_p rfl) rfl rfl ?_ | (refine gL ?_; refine sy_ov (ov_ld 0 rfl rfl rfl) rfl rfl ?_) | refine sy_ov (ov_fieldAddr rfl rfl rfl) rfl rfl ?_ | (refine sy_box rfl rfl rfl ?_; intro _)) | refine sy_rt ?_)
 exact ret1 rfl rfl rfl
set_option maxRecDepth 20000 in
theorem rp_fail (g : Nat) (x : PS) (hx : x.Ok) (e : Int) (w : World) (hT : TkAt g x w) : Calls Tryz.prog 48 #[.agg ⟨ptV g x⟩, .int .i64 e] w fun u w' => u = .returned (.agg ⟨ptV g (x.fail e)⟩) ∧ Below w.heap.size w w' := by
 have hst : St (fun _ => False) w (fun w => TkAt g x w) := St.start (TkAt.bl g x) hT
 obtain ⟨t, ht, hh⟩ := hx.hd
 have hne := hx.ne
 by_cases he : x.e = 0
 · rw [show x.fail e = ⟨x.off, x.l, x.c, x.m, e, t.2.1⟩ by unfold PS.fail; rw [if_pos he, hh]]
   refine sy_enter rfl rfl ?_
   simp only [initFr]
   repeat (first | refine sy_k rfl rfl ?_ | (refine gO ?_; first | refine sy_ov (ov_p rfl) rfl rfl ?_ | (refine gL ?_; refine sy_ov (ov_ld 1 rfl rfl rfl) rfl rfl ?_) | refine sy_ov (ov_fieldAddr rfl rfl rfl) rfl rfl ?_ | (refine sy_box rfl rfl rfl ?_; intro _) | (refine sy_alloc rfl rfl rfl ?_; intro _)) | (refine sy_cond_f rfl ?_ ?_; (first | with_reducible rfl | assumption | omega | (simp <;> first | omega | assumption))))
   refine sy_draw 11 (by kernel_rfl) ?_
   repeat (first | refine dr_op (ov_p rfl) rfl rfl ?_ | refine dr_op (ov_ld 1 rfl rfl rfl) rfl rfl ?_ | refine dr_op (ov_fieldAddr rfl rfl rfl) rfl rfl ?_ | (refine dr_op (ov_indexAddr rfl rfl ?_ ?_) rfl rfl ?_; omega; omega))
   refine dr_op (ov_loadx (v := .int .i64 t.2.1) rfl rfl (fun w hw => tk_at (hst.at hw) ht 1 rfl)) rfl rfl ?_
   repeat (first | refine dr_op (ov_build rfl rfl rfl) rfl rfl ?_ | refine dr_end ?_)
   repeat (first | refine sy_k rfl rfl ?_ | (refine gO ?_; first | (refine gS ?_; refine sy_store 0 rfl rfl rfl rfl rfl rfl rfl rfl ?_) | refine sy_ov (ov_build rfl rfl rfl) rfl rfl ?_) | refine sy_rt ?_)
   exact ret1c 0 rfl rfl rfl rfl rfl rfl
 · rw [show x.fail e = x from if_neg he]
   refine sy_enter rfl rfl ?_
   simp only [initFr]
   repeat (first | refine sy_k rfl rfl ?_ | (refine gO ?_; first | refine sy_ov (ov_p rfl) rfl rfl ?_ | (refine gL ?_; refine sy_ov (ov_ld 1 rfl rfl rfl) rfl rfl ?_) | (refine gS ?_; refine sy_store 0 rfl rfl rfl rfl rfl rfl rfl rfl ?_) | refine sy_ov (ov_fieldAddr rfl rfl rfl) rfl rfl ?_ | (refine sy_box rfl rfl rfl ?_; intro _) | (refine sy_alloc rfl rfl rfl ?_; intro _)) | (refine sy_cond_t rfl ?_ ?_; (first | with_reducible rfl | assumption | omega | (simp <;> first | omega | assumption))) | refine sy_rt ?_)
   exact ret1c 0 rfl rfl rfl rfl rfl rfl
set_option maxRecDepth 20000 in
theorem rp_wrong (g : Nat) (x : PS) (hx : x.Ok) (w : World) (hT : TkAt g x w) : Calls Tryz.prog 51 #[.agg ⟨ptV g x⟩] w fun u w' => u = .returned (.agg ⟨ptV g x.odd⟩) ∧ Below w.heap.size w w' := by
 have hst : St (fun _ => False) w (fun w => TkAt g x w) := St.start (TkAt.bl g x) hT
 obtain ⟨t, ht, hh⟩ := hx.hd
 have hne := hx.ne
 by_cases h0 : t.1 = 0
 · have hf := fun w h => rp_fail g x hx 5 w h
   rw [show x.fail 5 = x.odd by unfold PS.odd oddE; rw [hh, if_pos h0]] at hf
   refine sy_enter rfl rfl ?_
   simp only [initFr]
   repeat (first | refine sy_k rfl rfl ?_ | (refine gO ?_; first | refine sy_ov (ov_p rfl) rfl rfl ?_ | (refine gL ?_; refine sy_ov (ov_ld 1 rfl rfl rfl) rfl rfl ?_) | refine sy_ov (ov_fieldAddr rfl rfl rfl) rfl rfl ?_ | (refine sy_ov (ov_indexAddr rfl rfl ?_ ?_) rfl rfl ?_; omega; omega) | (refine sy_box rfl rfl rfl ?_; intro _) | (refine sy_alloc rfl rfl rfl ?_; intro _)))
   refine sy_ov (ov_loadx (v := .int .i64 t.1) rfl rfl (fun w hw => tk_at (hst.at hw) ht 0 rfl)) rfl rfl ?_
   repeat (first | refine sy_k rfl rfl ?_ | (refine gO ?_; first | refine sy_ov (ov_p rfl) rfl rfl ?_ | (refine gL ?_; refine sy_ov (ov_ld 1 rfl rfl rfl) rfl rfl ?_)) | (refine sy_cond_t rfl ?_ ?_; (first | with_reducible rfl | assumption | omega | (simp <;> first | omega | assumption))))
   refine sy_ov (ov_call rfl (fun w hw => hf w (hst.at hw))) rfl rfl ?_
   repeat (first | refine sy_k rfl rfl ?_ | (refine gO ?_; (refine gS ?_; refine sy_store 0 rfl rfl rfl rfl rfl rfl rfl rfl ?_)) | refine sy_rt ?_)
   exact ret1c 0 rfl rfl rfl rfl rfl rfl
 · have hf := fun w h => rp_fail g x hx 4 w h
   rw [show x.fail 4 = x.odd by unfold PS.odd oddE; rw [hh, if_neg h0]] at hf
   refine sy_enter rfl rfl ?_
   simp only [initFr]
   repeat (first | refine sy_k rfl rfl ?_ | (refine gO ?_; first | refine sy_ov (ov_p rfl) rfl rfl ?_ | (refine gL ?_; refine sy_ov (ov_ld 1 rfl rfl rfl) rfl rfl ?_) | refine sy_ov (ov_fieldAddr rfl rfl rfl) rfl rfl ?_ | (refine sy_ov (ov_indexAddr rfl rfl ?_ ?_) rfl rfl ?_; omega; omega) | (refine sy_box rfl rfl rfl ?_; intro _) | (refine sy_alloc rfl rfl rfl ?_; intro _)))
   refine sy_ov (ov_loadx (v := .int .i64 t.1) rfl rfl (fun w hw => tk_at (hst.at hw) ht 0 rfl)) rfl rfl ?_
   repeat (first | refine sy_k rfl rfl ?_ | (refine gO ?_; first | refine sy_ov (ov_p rfl) rfl rfl ?_ | (refine gL ?_; refine sy_ov (ov_ld 1 rfl rfl rfl) rfl rfl ?_)) | (refine sy_cond_f rfl ?_ ?_; (first | with_reducible rfl | assumption | omega | (simp <;> first | omega | assumption))))
   refine sy_ov (ov_call rfl (fun w hw => hf w (hst.at hw))) rfl rfl ?_
   repeat (first | refine sy_k rfl rfl ?_ | (refine gO ?_; (refine gS ?_; refine sy_store 0 rfl rfl rfl rfl rfl rfl rfl rfl ?_)) | refine sy_rt ?_)
   exact ret1c 0 rfl rfl rfl rfl rfl rfl
set_option maxRecDepth 20000 in
theorem rp_may (g : Nat) (x : PS) (hx : x.Ok) (m : List UInt8) (w : World) (hT : TkAt g x w) : Calls Tryz.prog 49 #[.agg ⟨ptV g x⟩, S m] w fun u w' => u = .returned (.tuple #[.agg ⟨ptV g (x.may m)⟩, .bool (x.mayB m)]) ∧ Below w.heap.size w w' := by
 have hst : St (fun _ => False) w (fun w => TkAt g x w) := St.start (TkAt.bl g x) hT
 obtain ⟨t, ht, hh⟩ := hx.hd
 have hne := hx.ne
 by_cases he : x.e = 0
 · by_cases h4 : t.1 = 4
   · by_cases hm : t.2.2.2.1 = m
     · have hb : x.mayB m = true := by unfold PS.mayB mkB; rw [hh]; simp [he, h4, hm]
       have hmo := hx.more (by rw [hh, h4]; decide)
       have hlc := hx.le
       rw [show x.may m = x.adv from if_pos hb, hb]
       have hv : ptV g x.adv = [.slice (some ⟨g, x.off + (1 : Int).toNat * 5, none⟩) (x.l.length - (1 : Int).toNat) (x.c - (1 : Int).toNat), .int .i64 x.m, .int .i64 x.e, .int .i64 x.a] := by
        simp [ptV, PS.adv]
       rw [hv]
       refine sy_enter rfl rfl ?_
       simp only [initFr]
       repeat (first | refine sy_k rfl rfl ?_ | (refine gO ?_; first | refine sy_ov (ov_p rfl) rfl rfl ?_ | (refine gL ?_; refine sy_ov (ov_ld 1 rfl rfl rfl) rfl rfl ?_) | (refine sy_box rfl rfl rfl ?_; intro _) | (refine sy_alloc rfl rfl rfl ?_; intro _)))
       refine sy_ov (ov_call rfl (fun w _ => rp_fine g x true (by simp [he]) w)) rfl rfl ?_
       repeat ((refine gO ?_; first | refine sy_ov (ov_p rfl) rfl rfl ?_ | (refine gG ?_; (refine sy_guard_yes rfl rfl rfl rfl rfl ?_ ?_; (first | with_reducible rfl | assumption | omega | (simp <;> first | omega | assumption)))) | (refine gL ?_; refine sy_ov (ov_ld 1 rfl rfl rfl) rfl rfl ?_) | refine sy_ov (ov_fieldAddr rfl rfl rfl) rfl rfl ?_ | (refine sy_ov (ov_indexAddr rfl rfl ?_ ?_) rfl rfl ?_; omega; omega)))
       refine sy_ov (ov_loadx (v := .int .i64 t.1) rfl rfl (fun w hw => tk_at (hst.at hw) ht 0 rfl)) rfl rfl ?_
       repeat ((refine gO ?_; first | refine sy_ov (ov_p rfl) rfl rfl ?_ | (refine gG ?_; (refine sy_guard_yes rfl rfl rfl rfl rfl ?_ ?_; (first | with_reducible rfl | assumption | omega | (simp <;> first | omega | assumption)))) | (refine gL ?_; refine sy_ov (ov_ld 1 rfl rfl rfl) rfl rfl ?_) | (refine sy_ov (ov_pick_f rfl rfl ?_) rfl rfl ?_; focus (with_reducible rfl)) | refine sy_ov (ov_fieldAddr rfl rfl rfl) rfl rfl ?_ | (refine sy_ov (ov_indexAddr rfl rfl ?_ ?_) rfl rfl ?_; omega; omega)))
       refine sy_ov (ov_loadx (v := S t.2.2.2.1) rfl rfl (fun w hw => tk_at (hst.at hw) ht 3 rfl)) rfl rfl ?_
       repeat (first | refine sy_k rfl rfl ?_ | (refine gO ?_; first | refine sy_ov (ov_p rfl) rfl rfl ?_ | (refine gG ?_; (refine sy_guard_yes rfl rfl rfl rfl rfl ?_ ?_; (first | with_reducible rfl | assumption | omega | (simp <;> first | omega | assumption)))) | (refine sy_ov (ov_pick_f rfl rfl ?_) rfl rfl ?_; focus (with_reducible rfl))) | (refine sy_cond_f rfl ?_ ?_; (first | with_reducible rfl | assumption | omega | (simp <;> first | omega | assumption))))
       refine sy_draw 7 (by kernel_rfl) ?_
       repeat (first | refine dr_op (ov_ld 1 rfl rfl rfl) rfl rfl ?_ | refine dr_op (ov_fieldAddr rfl rfl rfl) rfl rfl ?_)
       refine dr_op (ov_slLo rfl rfl (by decide) ?_ ?_) rfl rfl ?_
       focus omega
       focus omega
       repeat (first | refine dr_op (ov_ld 1 rfl rfl rfl) rfl rfl ?_ | refine dr_op (ov_fieldAddr rfl rfl rfl) rfl rfl ?_ | refine dr_end ?_)
       repeat (first | refine sy_k rfl rfl ?_ | (refine gO ?_; first | refine sy_ov (ov_p rfl) rfl rfl ?_ | (refine gS ?_; refine sy_store 0 rfl rfl rfl rfl rfl rfl rfl rfl ?_) | refine sy_ov (ov_build rfl rfl rfl) rfl rfl ?_) | refine sy_rt ?_)
       exact ret2ct 0 rfl rfl rfl rfl rfl rfl fun w' hw' => ⟨rfl, hw'.below⟩
     · have hb : x.mayB m = false := by unfold PS.mayB mkB; rw [hh]; simp [hm]
       rw [show x.may m = x from if_neg (by rw [hb]; decide), hb]
       refine sy_enter rfl rfl ?_
       simp only [initFr]
       repeat (first | refine sy_k rfl rfl ?_ | (refine gO ?_; first | refine sy_ov (ov_p rfl) rfl rfl ?_ | (refine gL ?_; refine sy_ov (ov_ld 1 rfl rfl rfl) rfl rfl ?_) | (refine sy_box rfl rfl rfl ?_; intro _) | (refine sy_alloc rfl rfl rfl ?_; intro _)))
       refine sy_ov (ov_call rfl (fun w _ => rp_fine g x true (by simp [he]) w)) rfl rfl ?_
       repeat ((refine gO ?_; first | refine sy_ov (ov_p rfl) rfl rfl ?_ | (refine gG ?_; (refine sy_guard_yes rfl rfl rfl rfl rfl ?_ ?_; (first | with_reducible rfl | assumption | omega | (simp <;> first | omega | assumption)))) | (refine gL ?_; refine sy_ov (ov_ld 1 rfl rfl rfl) rfl rfl ?_) | refine sy_ov (ov_fieldAddr rfl rfl rfl) rfl rfl ?_ | (refine sy_ov (ov_indexAddr rfl rfl ?_ ?_) rfl rfl ?_; omega; omega)))
       refine sy_ov (ov_loadx (v := .int .i64 t.1) rfl rfl (fun w hw => tk_at (hst.at hw) ht 0 rfl)) rfl rfl ?_
       repeat ((refine gO ?_; first | refine sy_ov (ov_p rfl) rfl rfl ?_ | (refine gG ?_; (refine sy_guard_yes rfl rfl rfl rfl rfl ?_ ?_; (first | with_reducible rfl | assumption | omega | (simp <;> first | omega | assumption)))) | (refine gL ?_; refine sy_ov (ov_ld 1 rfl rfl rfl) rfl rfl ?_) | (refine sy_ov (ov_pick_f rfl rfl ?_) rfl rfl ?_; focus (with_reducible rfl)) | refine sy_ov (ov_fieldAddr rfl rfl rfl) rfl rfl ?_ | (refine sy_ov (ov_indexAddr rfl rfl ?_ ?_) rfl rfl ?_; omega; omega)))
       refine sy_ov (ov_loadx (v := S t.2.2.2.1) rfl rfl (fun w hw => tk_at (hst.at hw) ht 3 rfl)) rfl rfl ?_
       repeat (first | refine sy_k rfl rfl ?_ | (refine gO ?_; first | refine sy_ov (ov_p rfl) rfl rfl ?_ | (refine gG ?_; (refine sy_guard_yes rfl rfl rfl rfl rfl ?_ ?_; (first | with_reducible rfl | assumption | omega | (simp <;> first | omega | assumption)))) | (refine gL ?_; refine sy_ov (ov_ld 1 rfl rfl rfl) rfl rfl ?_) | (refine gS ?_; refine sy_store 0 rfl rfl rfl rfl rfl rfl rfl rfl ?_) | (refine sy_ov (ov_pick_f rfl rfl ?_) rfl rfl ?_; focus (with_reducible rfl))) | (refine sy_cond_t rfl ?_ ?_; (first | with_reducible rfl | assumption | omega | (simp <;> first | omega | assumption))) | refine sy_rt ?_)
       exact ret2ct 0 rfl rfl rfl rfl rfl rfl fun w' hw' => ⟨rfl, hw'.below⟩
   · have hb : x.mayB m = false := by unfold PS.mayB mkB; rw [hh]; simp [h4]
     rw [show x.may m = x from if_neg (by rw [hb]; decide), hb]
     refine sy_enter rfl rfl ?_
     simp only [initFr]
     repeat (first | refine sy_k rfl rfl ?_ | (refine gO ?_; first | refine sy_ov (ov_p rfl) rfl rfl ?_ | (refine gL ?_; refine sy_ov (ov_ld 1 rfl rfl rfl) rfl rfl ?_) | (refine sy_box rfl rfl rfl ?_; intro _) | (refine sy_alloc rfl rfl rfl ?_; intro _)))
     refine sy_ov (ov_call rfl (fun w _ => rp_fine g x true (by simp [he]) w)) rfl rfl ?_
     repeat ((refine gO ?_; first | refine sy_ov (ov_p rfl) rfl rfl ?_ | (refine gG ?_; (refine sy_guard_yes rfl rfl rfl rfl rfl ?_ ?_; (first | with_reducible rfl | assumption | omega | (simp <;> first | omega | assumption)))) | (refine gL ?_; refine sy_ov (ov_ld 1 rfl rfl rfl) rfl rfl ?_) | refine sy_ov (ov_fieldAddr rfl rfl rfl) rfl rfl ?_ | (refine sy_ov (ov_indexAddr rfl rfl ?_ ?_) rfl rfl ?_; omega; omega)))
     refine sy_ov (ov_loadx (v := .int .i64 t.1) rfl rfl (fun w hw => tk_at (hst.at hw) ht 0 rfl)) rfl rfl ?_
     repeat (first | refine sy_k rfl rfl ?_ | (refine gO ?_; first | refine sy_ov (ov_p rfl) rfl rfl ?_ | (refine gG ?_; first | (refine sy_guard_yes rfl rfl rfl rfl rfl ?_ ?_; (first | with_reducible rfl | assumption | omega | (simp <;> first | omega | assumption))) | (refine sy_guard_no rfl rfl rfl rfl rfl ?_ ?_; (first | with_reducible rfl | assumption | omega | (simp <;> first | omega | assumption)))) | (refine gL ?_; refine sy_ov (ov_ld 1 rfl rfl rfl) rfl rfl ?_) | (refine gS ?_; refine sy_store 0 rfl rfl rfl rfl rfl rfl rfl rfl ?_) | (refine sy_ov (ov_pick_f rfl rfl ?_) rfl rfl ?_; focus (with_reducible rfl)) | refine sy_ov (ov_pick rfl rfl rfl) rfl rfl ?_) | (refine sy_cond_t rfl ?_ ?_; (first | with_reducible rfl | assumption | omega | (simp <;> first | omega | assumption))) | refine sy_rt ?_)
     exact ret2ct 0 rfl rfl rfl rfl rfl rfl fun w' hw' => ⟨rfl, hw'.below⟩
 · have hb : x.mayB m = false := may_bad he m
   rw [show x.may m = x from if_neg (by rw [hb]; decide), hb]
   refine sy_enter rfl rfl ?_
   simp only [initFr]
   repeat (first | refine sy_k rfl rfl ?_ | (refine gO ?_; first | refine sy_ov (ov_p rfl) rfl rfl ?_ | (refine gL ?_; refine sy_ov (ov_ld 1 rfl rfl rfl) rfl rfl ?_) | (refine sy_box rfl rfl rfl ?_; intro _) | (refine sy_alloc rfl rfl rfl ?_; intro _)))
   refine sy_ov (ov_call rfl (fun w _ => rp_fine g x false (by simp [he]) w)) rfl rfl ?_
   repeat (first | refine sy_k rfl rfl ?_ | (refine gO ?_; first | refine sy_ov (ov_p rfl) rfl rfl ?_ | (refine gG ?_; (refine sy_guard_no rfl rfl rfl rfl rfl ?_ ?_; (first | with_reducible rfl | assumption | omega | (simp <;> first | omega | assumption)))) | (refine gL ?_; refine sy_ov (ov_ld 1 rfl rfl rfl) rfl rfl ?_) | (refine gS ?_; refine sy_store 0 rfl rfl rfl rfl rfl rfl rfl rfl ?_) | refine sy_ov (ov_pick rfl rfl rfl) rfl rfl ?_) | (refine sy_cond_t rfl ?_ ?_; (first | with_reducible rfl | assumption | omega | (simp <;> first | omega | assumption))) | refine sy_rt ?_)
   exact ret2ct 0 rfl rfl rfl rfl rfl rfl fun w' hw' => ⟨rfl, hw'.below⟩
set_option maxRecDepth 20000 in
theorem rp_must (g : Nat) (x : PS) (hx : x.Ok) (m : List UInt8) (w : World) (hT : TkAt g x w) : Calls Tryz.prog 52 #[.agg ⟨ptV g x⟩, S m] w fun u w' => u = .returned (.agg ⟨ptV g (x.must m)⟩) ∧ Below w.heap.size w w' := by
 have hst : St (fun _ => False) w (fun w => TkAt g x w) := St.start (TkAt.bl g x) hT
 obtain ⟨t, ht, hh⟩ := hx.hd
 have hne := hx.ne
 have hmay := fun w h => rp_may g x hx m w h
 obtain ⟨b, hb⟩ : ∃ b, x.mayB m = b := ⟨_, rfl⟩
 cases b
 · rw [show x.may m = x from if_neg (by rw [hb]; decide), hb] at hmay
   by_cases he : x.e = 0
   · rw [show x.must m = x.odd from if_neg (by rw [hb]; decide)]
     refine sy_enter rfl rfl ?_
     simp only [initFr]
     repeat (first | refine sy_k rfl rfl ?_ | (refine gO ?_; first | refine sy_ov (ov_p rfl) rfl rfl ?_ | (refine gL ?_; refine sy_ov (ov_ld 1 rfl rfl rfl) rfl rfl ?_) | (refine sy_box rfl rfl rfl ?_; intro _) | (refine sy_alloc rfl rfl rfl ?_; intro _)))
     refine sy_ov (ov_call rfl (fun w hw => hmay w (hst.at hw))) rfl rfl ?_
     repeat (first | refine sy_k rfl rfl ?_ | (refine gO ?_; first | refine sy_ov (ov_p rfl) rfl rfl ?_ | (refine gG ?_; (refine sy_guard_yes rfl rfl rfl rfl rfl ?_ ?_; (first | with_reducible rfl | assumption | omega | (simp <;> first | omega | assumption)))) | (refine gL ?_; refine sy_ov (ov_ld 2 rfl rfl rfl) rfl rfl ?_) | (refine gS ?_; refine sy_store 0 rfl rfl rfl rfl rfl rfl rfl rfl ?_) | (refine sy_alloc rfl rfl rfl ?_; intro _)))
     refine sy_ov (ov_call rfl (fun w _ => rp_fine g x true (by simp [he]) w)) rfl rfl ?_
     repeat (first | refine sy_k rfl rfl ?_ | (refine gO ?_; first | (refine gL ?_; refine sy_ov (ov_ld 2 rfl rfl rfl) rfl rfl ?_) | (refine sy_ov (ov_pick_t rfl rfl ?_) rfl rfl ?_; focus (with_reducible rfl))) | (refine sy_cond_t rfl ?_ ?_; (first | with_reducible rfl | assumption | omega | (simp <;> first | omega | assumption))))
     refine sy_ov (ov_call rfl (fun w hw => rp_wrong g x hx w (hst.at hw))) rfl rfl ?_
     repeat (first | refine sy_k rfl rfl ?_ | (refine gO ?_; (refine gS ?_; refine sy_store 1 rfl rfl rfl rfl rfl rfl rfl rfl ?_)) | refine sy_rt ?_)
     exact ret1c 1 rfl rfl rfl rfl rfl rfl
   · rw [must_same he]
     refine sy_enter rfl rfl ?_
     simp only [initFr]
     repeat (first | refine sy_k rfl rfl ?_ | (refine gO ?_; first | refine sy_ov (ov_p rfl) rfl rfl ?_ | (refine gL ?_; refine sy_ov (ov_ld 1 rfl rfl rfl) rfl rfl ?_) | (refine sy_box rfl rfl rfl ?_; intro _) | (refine sy_alloc rfl rfl rfl ?_; intro _)))
     refine sy_ov (ov_call rfl (fun w hw => hmay w (hst.at hw))) rfl rfl ?_
     repeat (first | refine sy_k rfl rfl ?_ | (refine gO ?_; first | refine sy_ov (ov_p rfl) rfl rfl ?_ | (refine gG ?_; (refine sy_guard_yes rfl rfl rfl rfl rfl ?_ ?_; (first | with_reducible rfl | assumption | omega | (simp <;> first | omega | assumption)))) | (refine gL ?_; refine sy_ov (ov_ld 2 rfl rfl rfl) rfl rfl ?_) | (refine gS ?_; refine sy_store 0 rfl rfl rfl rfl rfl rfl rfl rfl ?_) | (refine sy_alloc rfl rfl rfl ?_; intro _)))
     refine sy_ov (ov_call rfl (fun w _ => rp_fine g x false (by simp [he]) w)) rfl rfl ?_
     repeat (first | refine sy_k rfl rfl ?_ | (refine gO ?_; first | (refine gL ?_; refine sy_ov (ov_ld 0 rfl rfl rfl) rfl rfl ?_) | (refine gS ?_; refine sy_store 1 rfl rfl rfl rfl rfl rfl rfl rfl ?_) | (refine sy_ov (ov_pick_t rfl rfl ?_) rfl rfl ?_; focus (with_reducible rfl))) | (refine sy_cond_f rfl ?_ ?_; (first | with_reducible rfl | assumption | omega | (simp <;> first | omega | assumption))) | refine sy_rt ?_)
     exact ret1c 1 rfl rfl rfl rfl rfl rfl
 · rw [show x.may m = x.adv from if_pos hb, hb] at hmay
   rw [show x.must m = x.adv from if_pos hb]
   refine sy_enter rfl rfl ?_
   simp only [initFr]
   repeat (first | refine sy_k rfl rfl ?_ | (refine gO ?_; first | refine sy_ov (ov_p rfl) rfl rfl ?_ | (refine gL ?_; refine sy_ov (ov_ld 1 rfl rfl rfl) rfl rfl ?_) | (refine sy_box rfl rfl rfl ?_; intro _) | (refine sy_alloc rfl rfl rfl ?_; intro _)))
   refine sy_ov (ov_call rfl (fun w hw => hmay w (hst.at hw))) rfl rfl ?_
   repeat (first | refine sy_k rfl rfl ?_ | (refine gO ?_; first | refine sy_ov (ov_p rfl) rfl rfl ?_ | (refine gG ?_; (refine sy_guard_no rfl rfl rfl rfl rfl ?_ ?_; (first | with_reducible rfl | assumption | omega | (simp <;> first | omega | assumption)))) | (refine gL ?_; refine sy_ov (ov_ld 0 rfl rfl rfl) rfl rfl ?_) | (refine gS ?_; first | refine sy_store 0 rfl rfl rfl rfl rfl rfl rfl rfl ?_ | refine sy_store 1 rfl rfl rfl rfl rfl rfl rfl rfl ?_) | refine sy_ov (ov_pick rfl rfl rfl) rfl rfl ?_ | (refine sy_alloc rfl rfl rfl ?_; intro _)) | (refine sy_cond_f rfl ?_ ?_; (first | with_reducible rfl | assumption | omega | (simp <;> first | omega | assumption))) | refine sy_rt ?_)
   exact ret1c 1 rfl rfl rfl rfl rfl rfl
set_option maxRecDepth 20000 in
set_option maxHeartbeats 2000000 in
theorem rp_any (g : Nat) (x : PS) (hx : x.Ok) (k : Int) (hk : k ≠ 0) (w : World) (hT : TkAt g x w) : Calls Tryz.prog 25 #[.agg ⟨ptV g x⟩, .int .i64 k] w fun u w' => u = .returned (.tuple #[.agg ⟨tokV (x.tok k)⟩, .agg ⟨ptV g (x.any k)⟩]) ∧ Below w.heap.size w w' := by
 have hst : St (fun _ => False) w (fun w => TkAt g x w) := St.start (TkAt.bl g x) hT
 obtain ⟨t, ht, hh⟩ := hx.hd
 have hne := hx.ne
 by_cases he : x.e = 0
 · by_cases h4 : t.1 = k
   · have hb : x.anyB k = true := by unfold PS.anyB; rw [hh]; simp [he, h4]
     have hmo := hx.more (by rw [hh, h4]; exact hk)
     have hlc := hx.le
     rw [show x.any k = x.adv from if_pos hb, show x.tok k = t by unfold PS.tok; rw [if_pos hb, hh]]
     have hv : ptV g x.adv = [.slice (some ⟨g, x.off + (1 : Int).toNat * 5, none⟩) (x.l.length - (1 : Int).toNat) (x.c - (1 : Int).toNat), .int .i64 x.m, .int .i64 x.e, .int .i64 x.a] := by
      simp [ptV, PS.adv]
     rw [hv]
     refine sy_enter rfl rfl ?_
     simp only [initFr]
     repeat (first | refine sy_k rfl rfl ?_ | (refine gO ?_; first | (refine gL ?_; refine sy_ov (ov_ld 2 rfl rfl rfl) rfl rfl ?_) | (refine sy_box rfl rfl rfl ?_; intro _) | (refine sy_alloc rfl rfl rfl ?_; intro _)))
     refine sy_ov (ov_call rfl (fun w _ => rp_fine g x true (by simp [he]) w)) rfl rfl ?_
     repeat (first | refine sy_k rfl rfl ?_ | (refine gO ?_; first | refine sy_ov (ov_p rfl) rfl rfl ?_ | (refine gL ?_; refine sy_ov (ov_ld 2 rfl rfl rfl) rfl rfl ?_) | refine sy_ov (ov_fieldAddr rfl rfl rfl) rfl rfl ?_ | (refine sy_ov (ov_indexAddr rfl rfl ?_ ?_) rfl rfl ?_; omega; omega)) | (refine sy_cond_f rfl ?_ ?_; (first | with_reducible rfl | assumption | omega | (simp <;> first | omega | assumption))))
     refine sy_ov (ov_loadx (v := .int .i64 t.1) rfl rfl (fun w hw => tk_at (hst.at hw) ht 0 rfl)) rfl rfl ?_
     repeat (first | refine sy_k rfl rfl ?_ | (refine gO ?_; refine sy_ov (ov_p rfl) rfl rfl ?_) | (refine sy_cond_f rfl ?_ ?_; (first | with_reducible rfl | assumption | omega | (simp <;> first | omega | assumption))))
     refine sy_drawE _ 13 [(0, false), (1, false), (2, false), (3, false), (4, false), (5, false), (6, false), (7, false), (8, false), (9, false), (10, false), (11, false), (12, true)] (by kernel_rfl) rfl (sk (sd sr)) ?_
     repeat (first | refine dre_rd (fun _ _ => ov_ld 1 rfl rfl rfl) rfl ?_ | refine dre_rd (fun _ _ => ov_fieldAddr rfl rfl rfl) rfl ?_ | (refine dre_rd (fun _ _ => ov_indexAddr rfl rfl ?_ ?_) rfl ?_; omega; omega))
     refine dre_rd (fun _ hC => ov_loadxa (vs := tokV t) rfl rfl rfl (fun w hw j u hj => tk_at ((hst.le2 hC).at hw) ht j hj)) rfl ?_
     repeat (first | refine dre_rd (fun _ _ => ov_ld 1 rfl rfl rfl) rfl ?_ | refine dre_rd (fun _ _ => ov_fieldAddr rfl rfl rfl) rfl ?_)
     refine dre_rd (fun _ hC => ov_slLo rfl rfl (by decide) ?_ ?_) rfl ?_
     focus omega
     focus omega
     repeat (first | refine dre_rd (fun _ _ => ov_ld 1 rfl rfl rfl) rfl ?_ | refine dre_rd (fun _ _ => ov_fieldAddr rfl rfl rfl) rfl ?_ | refine dre_rd (fun _ _ => ov_build rfl rfl rfl) rfl ?_ | (refine dre_ef rfl ?_; refine sy_store 1 rfl rfl rfl rfl rfl rfl rfl rfl ?_; refine dre_ek (by repeat first | exact sr | apply sk | apply sd) ?_) | refine dre_end ?_)
     repeat (first | refine sy_k rfl rfl ?_ | (refine gO ?_; (refine gS ?_; refine sy_store 0 rfl rfl rfl rfl rfl rfl rfl rfl ?_)) | refine sy_rt ?_)
     skip
     exact ret_ccw 1 0 rfl rfl rfl rfl rfl rfl rfl rfl rfl fun w' hw' => ⟨rfl, hw'.below⟩
   · have hb : x.anyB k = false := by unfold PS.anyB; rw [hh]; simp [h4]
     rw [show x.any k = x.odd from if_neg (by rw [hb]; decide), show x.tok k = ztk from if_neg (by rw [hb]; decide)]
     refine sy_enter rfl rfl ?_
     simp only [initFr]
     repeat (first | refine sy_k rfl rfl ?_ | (refine gO ?_; first | (refine gL ?_; refine sy_ov (ov_ld 2 rfl rfl rfl) rfl rfl ?_) | (refine sy_box rfl rfl rfl ?_; intro _) | (refine sy_alloc rfl rfl rfl ?_; intro _)))
     refine sy_ov (ov_call rfl (fun w _ => rp_fine g x true (by simp [he]) w)) rfl rfl ?_
     repeat (first | refine sy_k rfl rfl ?_ | (refine gO ?_; first | refine sy_ov (ov_p rfl) rfl rfl ?_ | (refine gL ?_; refine sy_ov (ov_ld 2 rfl rfl rfl) rfl rfl ?_) | refine sy_ov (ov_fieldAddr rfl rfl rfl) rfl rfl ?_ | (refine sy_ov (ov_indexAddr rfl rfl ?_ ?_) rfl rfl ?_; omega; omega)) | (refine sy_cond_f rfl ?_ ?_; (first | with_reducible rfl | assumption | omega | (simp <;> first | omega | assumption))))
     refine sy_ov (ov_loadx (v := .int .i64 t.1) rfl rfl (fun w hw => tk_at (hst.at hw) ht 0 rfl)) rfl rfl ?_
     repeat (first | refine sy_k rfl rfl ?_ | (refine gO ?_; first | refine sy_ov (ov_p rfl) rfl rfl ?_ | (refine gL ?_; refine sy_ov (ov_ld 2 rfl rfl rfl) rfl rfl ?_) | refine sy_ov (ov_build rfl rfl rfl) rfl rfl ?_) | (refine sy_cond_t rfl ?_ ?_; (first | with_reducible rfl | assumption | omega | (simp <;> first | omega | assumption))))
     refine sy_ov (ov_call rfl (fun w hw => rp_wrong g x hx w (hst.at hw))) rfl rfl ?_
     repeat (first | refine sy_k rfl rfl ?_ | (refine gO ?_; (refine gS ?_; first | refine sy_store 0 rfl rfl rfl rfl rfl rfl rfl rfl ?_ | refine sy_store 1 rfl rfl rfl rfl rfl rfl rfl rfl ?_)) | refine sy_rt ?_)
     exact ret_ccw 1 0 rfl rfl rfl rfl rfl rfl rfl rfl rfl fun w' hw' => ⟨rfl, hw'.below⟩
 · rw [any_same he, show x.tok k = ztk from if_neg (by rw [any_bad he]; decide)]
   refine sy_enter rfl rfl ?_
   simp only [initFr]
   repeat (first | refine sy_k rfl rfl ?_ | (refine gO ?_; first | (refine gL ?_; refine sy_ov (ov_ld 2 rfl rfl rfl) rfl rfl ?_) | (refine sy_box rfl rfl rfl ?_; intro _) | (refine sy_alloc rfl rfl rfl ?_; intro _)))
   refine sy_ov (ov_call rfl (fun w _ => rp_fine g x false (by simp [he]) w)) rfl rfl ?_
   repeat (first | refine sy_k rfl rfl ?_ | (refine gO ?_; refine sy_ov (ov_p rfl) rfl rfl ?_) | (refine sy_cond_t rfl ?_ ?_; (first | with_reducible rfl | assumption | omega | (simp <;> first | omega | assumption))))
   refine sy_drawE _ 3 [(0, false), (1, false), (2, true)] (by kernel_rfl) rfl ((sk (sd sr))) ?_
   repeat (first | refine dre_rd (fun _ _ => ov_ld 1 rfl rfl rfl) rfl ?_ | refine dre_rd (fun _ _ => ov_build rfl rfl rfl) rfl ?_ | (refine dre_ef rfl ?_; refine sy_store 1 rfl rfl rfl rfl rfl rfl rfl rfl ?_; refine dre_ek (by repeat first | exact sr | apply sk | apply sd) ?_) | refine dre_end ?_)
   repeat (first | refine sy_k rfl rfl ?_ | (refine gO ?_; (refine gS ?_; refine sy_store 0 rfl rfl rfl rfl rfl rfl rfl rfl ?_)) | refine sy_rt ?_)
   exact ret_ccw 1 0 rfl rfl rfl rfl rfl rfl rfl rfl rfl fun w' hw' => ⟨rfl, hw'.below⟩
end Go.Proofs.YtldjakeigjngoaaGreat