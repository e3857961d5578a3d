/- BRP: texts of this proof, joined by program: RefP, RefP2, RefPz, RefV. -/
import Derived.Test.YtldjakeigjngoaaGreatBST
import Derived.Test.YtldjakeigjngoaaGreatBOA
import Derived.Test.YtldjakeigjngoaaGreatBRV
set_option linter.unusedVariables false
set_option linter.unusedSimpArgs false
namespace Go.Proofs.YtldjakeigjngoaaGreat
open Go.RowKit Bf
structure PS where
 off : Nat
 l : List TokT
 c : Nat
 m : Int
 e : Int
 a : Int
abbrev ptV (g : Nat) (x : PS) : List Value := [.slice (some ⟨g, x.off, none⟩) x.l.length x.c, .int .i64 x.m, .int .i64 x.e, .int .i64 x.a]
def PS.adv (x : PS) : PS := ⟨x.off + 5, x.l.tail, x.c - 1, x.m, x.e, x.a⟩
def PS.fail (x : PS) (e : Int) : PS := if x.e = 0 then ⟨x.off, x.l, x.c, x.m, e, (hdT x.l).2.1⟩ else x
def PS.odd (x : PS) : PS := x.fail (oddE (hdT x.l)).1
def PS.mayB (x : PS) (t : List UInt8) : Bool := decide (x.e = 0) && mkB x.l t
def PS.may (x : PS) (t : List UInt8) : PS := if x.mayB t = true then x.adv else x
def PS.must (x : PS) (t : List UInt8) : PS := if x.mayB t = true then x.adv else x.odd
def PS.anyB (x : PS) (k : Int) : Bool := decide (x.e = 0) && decide ((hdT x.l).1 = k)
def PS.any (x : PS) (k : Int) : PS := if x.anyB k = true then x.adv else x.odd
def PS.tok (x : PS) (k : Int) : TokT := if x.anyB k = true then hdT x.l else ztk
structure PS.Ok (x : PS) : Prop where
 ne : 0 < x.l.length
 nx : ∀ i t, x.l[i]? = some t → t.1 ≠ 0 → i + 1 < x.l.length
 le : x.l.length ≤ x.c
 cm : x.c ≤ 9223372036854775807
 bd : ∀ t ∈ x.l, t.2.2.2.1.length ≤ 1000000000
 nz : ∀ t ∈ x.l, (t.1 = 2 → t.2.2.2.1 = []) ∧ (t.1 ≠ 2 → t.2.2.2.2 = 0)
theorem PS.Ok.hd {x : PS} (h : x.Ok) : ∃ t, x.l[0]? = some t ∧ hdT x.l = t := by
 have := h.ne
 obtain ⟨t, ht⟩ : ∃ t, x.l[0]? = some t := ⟨_, List.getElem?_eq_getElem this⟩
 refine ⟨t, ht, ?_⟩
 cases hl : x.l with
 | nil => rw [hl] at ht; cases ht
 | cons u l => rw [hl] at ht; simp at ht; simpa [hdT] using ht
theorem PS.Ok.more {x : PS} (h : x.Ok) (h0 : (hdT x.l).1 ≠ 0) : 1 < x.l.length := by
 obtain ⟨t, ht, hh⟩ := h.hd
 exact h.nx 0 t ht (by rw [← hh]; exact h0)
theorem PS.Ok.adv {x : PS} (h : x.Ok) (h0 : (hdT x.l).1 ≠ 0) : x.adv.Ok := by
 have h1 := h.more h0
 have h2 := h.le
 have h3 := h.cm
 refine ⟨by simp [PS.adv]; omega, fun i t hi ht => ?_, by simp [PS.adv]; omega, by simp [PS.adv]; omega, fun t ht => h.bd t (List.mem_of_mem_tail ht), fun t ht => h.nz t (List.mem_of_mem_tail ht)⟩
 have hi' : x.l[i + 1]? = some t := by simpa [PS.adv] using hi
 have := h.nx _ _ hi' ht
 simp [PS.adv]; omega
theorem PS.mayB_hd {x : PS} {t : List UInt8} (h : x.mayB t = true) : x.e = 0 ∧ mkB x.l t = true ∧ (hdT x.l).1 ≠ 0 := by
 unfold PS.mayB at h
 simp only [Bool.and_eq_true, decide_eq_true_eq] at h
 exact ⟨h.1, h.2, by rw [mk_hd h.2]; decide⟩
theorem PS.anyB_hd {x : PS} {k : Int} (h : x.anyB k = true) : x.e = 0 ∧ (hdT x.l).1 = k := by
 unfold PS.anyB at h
 simpa only [Bool.and_eq_true, decide_eq_true_eq] using h
theorem PS.Ok.same {x y : PS} (h : x.Ok) (hl : y.l = x.l) (hc : y.c = x.c) : y.Ok := by
 refine ⟨by rw [hl]; exact h.ne, fun i t hi ht => ?_, by rw [hl, hc]; exact h.le, by rw [hc]; exact h.cm, by rw [hl]; exact h.bd, by rw [hl]; exact h.nz⟩
 rw [hl] at hi ⊢; exact h.nx i t hi ht
theorem PS.fail_l (x : PS) (e : Int) : (x.fail e).l = x.l ∧ (x.fail e).c = x.c ∧ (x.fail e).off = x.off ∧ (x.fail e).m = x.m := by unfold PS.fail; split <;> exact ⟨rfl, rfl, rfl, rfl⟩
theorem PS.Ok.fail {x : PS} (h : x.Ok) (e : Int) : (x.fail e).Ok := h.same (x.fail_l e).1 (x.fail_l e).2.1
theorem PS.Ok.may {x : PS} (h : x.Ok) (t : List UInt8) : (x.may t).Ok := by
 unfold PS.may; split
 · rename_i hb; exact h.adv (PS.mayB_hd hb).2.2
 · exact h
theorem PS.Ok.must {x : PS} (h : x.Ok) (t : List UInt8) : (x.must t).Ok := by
 unfold PS.must; split
 · rename_i hb; exact h.adv (PS.mayB_hd hb).2.2
 · exact h.fail _
theorem PS.Ok.any {x : PS} (h : x.Ok) {k : Int} (hk : k ≠ 0) : (x.any k).Ok := by
 unfold PS.any; split
 · rename_i hb; exact h.adv (by rw [(PS.anyB_hd hb).2]; exact hk)
 · exact h.fail _
def PS.On (x y : PS) : Prop := ∃ j, y.off = x.off + 5 * j ∧ y.l = x.l.drop j ∧ y.c = x.c - j
theorem PS.On.refl (x : PS) : x.On x := ⟨0, by omega, rfl, rfl⟩
theorem PS.On.trans {x y z : PS} (h : x.On y) (h' : y.On z) : x.On z := by
 obtain ⟨j, h1, h2, h3⟩ := h
 obtain ⟨k, k1, k2, k3⟩ := h'
 exact ⟨j + k, by omega, by rw [k2, h2, List.drop_drop], by omega⟩
theorem PS.On.adv (x : PS) : x.On x.adv := ⟨1, rfl, by simp [PS.adv], rfl⟩
theorem PS.On.fail (x : PS) (e : Int) : x.On (x.fail e) := by
 obtain ⟨h1, h2, h3, _⟩ := x.fail_l e
 exact ⟨0, by omega, by rw [h1]; rfl, by omega⟩
theorem PS.On.may (x : PS) (t : List UInt8) : x.On (x.may t) := by
 unfold PS.may; split
 · exact .adv x
 · exact .refl x
theorem PS.On.must (x : PS) (t : List UInt8) : x.On (x.must t) := by
 unfold PS.must; split
 · exact .adv x
 · exact .fail x _
theorem PS.On.any (x : PS) (k : Int) : x.On (x.any k) := by
 unfold PS.any; split
 · exact .adv x
 · exact .fail x _
theorem PS.On.len {x y : PS} (h : x.On y) : y.l.length ≤ x.l.length := by obtain ⟨j, _, h2, _⟩ := h; rw [h2]; simp
def TkAt (g : Nat) (x : PS) (w : World) : Prop := At w g x.off (x.l.flatMap tokV)
theorem TkAt.bl (g : Nat) (x : PS) : Bl fun w => TkAt g x w := At.bl _ _ _
theorem flat_drop : ∀ (j : Nat) (l : List TokT) (i : Nat), ((l.drop j).flatMap tokV)[i]? = (l.flatMap tokV)[5 * j + i]?
 | 0, l, i => by simp
 | j + 1, [], i => by simp
 | j + 1, t :: l, i => by
  rw [List.drop_succ_cons, flat_drop j l i, List.flatMap_cons, List.getElem?_append_right (by rw [tokV_len]; omega), tokV_len]
  congr 1; omega
theorem TkAt.on {g : Nat} {x y : PS} {w : World} (h : TkAt g x w) (hy : x.On y) : TkAt g y w := by
 obtain ⟨j, h1, h2, h3⟩ := hy
 intro i u hi
 rw [h2, flat_drop] at hi
 have := h (5 * j + i) u hi
 rw [h1, Nat.add_assoc]; exact this
def valE (d : Nat) (x : PS) : RR RawP := if x.e ≠ 0 then .bad x.e x.a else valR d x.l x.m
theorem odd_bad {x : PS} (h : x.e = 0) : x.odd.e ≠ 0 ∧ (x.odd.e = (oddE (hdT x.l)).1 ∧ x.odd.a = (hdT x.l).2.1) := by
 unfold PS.odd PS.fail
 rw [if_pos h]
 exact ⟨oddE_ne _, rfl, rfl⟩
theorem odd_same {x : PS} (h : x.e ≠ 0) : x.odd = x := by unfold PS.odd PS.fail; rw [if_neg h]
theorem may_bad {x : PS} (h : x.e ≠ 0) (t : List UInt8) : x.mayB t = false := by unfold PS.mayB; simp [h]
theorem any_bad {x : PS} (h : x.e ≠ 0) (k : Int) : x.anyB k = false := by unfold PS.anyB; simp [h]
theorem any_same {x : PS} (h : x.e ≠ 0) (k : Int) : x.any k = x := by unfold PS.any; rw [any_bad h, if_neg (by decide), odd_same h]
def elP (x : PS) (rec : Bool) : PS := if rec = true then (x.any 1).must [58] else x
theorem PS.Ok.elP {x : PS} (h : x.Ok) (rec : Bool) : (elP x rec).Ok := by
 unfold Go.Proofs.YtldjakeigjngoaaGreat.elP; split
 · exact (h.any (by decide)).must _
 · exact h
def RVP (g : Nat) (x : PS) (R : RR RawP) (u : Value) (es : List En) : Prop :=
 ∃ z y, u = .tuple #[.agg ⟨rawV z⟩, .agg ⟨ptV g y⟩] ∧ es = [rawE [z]] ∧ x.On y ∧ y.Ok ∧ 0 ≤ y.m ∧ y.m ≤ 4096 ∧
  match R with
  | .ok v l' m' => y.e = 0 ∧ plR z = v ∧ l' = y.l ∧ m' = y.m
  | .bad e a => y.e = e ∧ y.a = a ∧ e ≠ 0
theorem RVP.on {g : Nat} {x y : PS} {R : RR RawP} {u : Value} {es : List En} (h : x.On y) (hv : RVP g y R u es) : RVP g x R u es := by
 obtain ⟨z, y', h1, h2, h3, h4⟩ := hv
 exact ⟨z, y', h1, h2, h.trans h3, h4⟩
structure RwS where
 ks : List WordT
 pk : Option Addr
 ck : Nat
 zs : List RawA
 p : Option Addr
 c : Nat
 x : PS
structure RwInv (x0 : PS) (d : Nat) (rec : Bool) (e : List UInt8) (R : RR (List WordT × List RawP)) (s : RwS) : Prop where
 on : x0.On s.x
 ok : s.x.Ok
 m0 : 0 ≤ s.x.m
 m1 : s.x.m ≤ 4096
 go : s.x.e = 0 → s.zs.length + s.x.l.length ≤ 65537 ∧ s.ks.length ≤ s.zs.length ∧ ∃ n, s.x.l.length ≤ n ∧ rowsR (valR d) rec e n s.x.l s.x.m s.ks (plRs s.zs) = R
 bad : s.x.e ≠ 0 → R = .bad s.x.e s.x.a
section
variable {x0 : PS} {d : Nat} {rec : Bool} {e : List UInt8} {R : RR (List WordT × List RawP)} {s : RwS} {z : RawA} {y : PS}
structure ElOk (s : RwS) (d : Nat) (rec : Bool) (z : RawA) (y : PS) : Prop where
 on : (elP s.x rec).On y
 ok : y.Ok
 m0 : 0 ≤ y.m
 m1 : y.m ≤ 4096
 v : match valE d (elP s.x rec) with
  | .ok v l' m' => y.e = 0 ∧ plR z = v ∧ l' = y.l ∧ m' = y.m
  | .bad e a => y.e = e ∧ y.a = a ∧ e ≠ 0
end
def TokZ (l : List TokT) : Prop := ∀ t ∈ l, (t.1 = 2 → t.2.2.2.1 = []) ∧ (t.1 ≠ 2 → t.2.2.2.2 = 0)
theorem tokA_nz (s : List UInt8) (i : Nat) {t : TokT} {e p : Int} (h : tokA s i = (t, e, p)) : (t.1 = 2 → t.2.2.2.1 = []) ∧ (t.1 ≠ 2 → t.2.2.2.2 = 0) := by
 unfold tokA at h
 split at h
 · split at h
   · obtain ⟨rfl, rfl, rfl⟩ := tri_inj h; simp [ztk]
   · obtain ⟨rfl, rfl, rfl⟩ := tri_inj h; simp
 · split at h
   · obtain ⟨rfl, rfl, rfl⟩ := tri_inj h; simp
   · split at h
     · split at h
       · obtain ⟨rfl, rfl, rfl⟩ := tri_inj h; simp [ztk]
       · obtain ⟨rfl, rfl, rfl⟩ := tri_inj h; simp
     · split at h
       · split at h
         · obtain ⟨rfl, rfl, rfl⟩ := tri_inj h; simp [ztk]
         · obtain ⟨rfl, rfl, rfl⟩ := tri_inj h; simp
       · obtain ⟨rfl, rfl, rfl⟩ := tri_inj h; simp [ztk]
theorem scanT_nz (s : List UInt8) : ∀ (m i : Nat), s.length - i ≤ m → TokZ (scanT s i).1 := by
 intro m
 induction m with
 | zero => intro i h; rw [scanT_end s i (by omega)]; intro t ht; simp only [List.mem_singleton] at ht; subst ht; exact ⟨by simp, by simp⟩
 | succ m ih =>
  intro i h
  have hnil : TokZ [] := fun t ht => by cases ht
  by_cases he : s.length ≤ i
  · rw [scanT_end s i he]; intro t ht; simp only [List.mem_singleton] at ht; subst ht; exact ⟨by simp, by simp⟩
  · obtain ⟨tk, e0, p0, htk⟩ : ∃ t e p, tokA s i = (t, e, p) := ⟨_, _, _, rfl⟩
    rw [scanT, dif_neg he]
    split
    · exact ih (i + 1) (by omega)
    · split
      · split
        · exact hnil
        · split
          · exact ih _ (by omega)
          · exact hnil
      · split
        · exact hnil
        · split
          · rename_i h0 h2
            split
            · intro t ht
              simp only [List.mem_cons] at ht
              rcases ht with rfl | ht
              · rw [htk]; exact tokA_nz s i htk
              · exact ih _ (by omega) t ht
            · exact hnil
          · exact hnil
theorem scanR_nz (s : List UInt8) : TokZ (scanR s).1 := by
 unfold scanR; split
 · exact fun t ht => by cases ht
 · exact scanT_nz s _ 0 (Nat.le_refl _)
theorem St.le2 {C C' : Cx} {R : World → Prop} (h : St C.D C.w0 R) (hC : CxLe C C') : St C'.D C'.w0 R := fun w hk => h w (hC.keep w hk)
theorem tk_at {g : Nat} {x : PS} {w : World} {t : TokT} (h : TkAt g x w) (ht : x.l[0]? = some t) (j : Nat) {u : Value} (hj : (tokV t)[j]? = some u) : w.cell? ⟨g, x.off + j, none⟩ = some u := by
 refine h j u ?_
 cases hl : x.l with
 | nil => rw [hl] at ht; cases ht
 | cons y l =>
  rw [hl] at ht
  simp only [List.getElem?_cons_zero, Option.some.injEq] at ht
  subst ht
  rw [List.flatMap_cons, List.getElem?_append_left (List.getElem?_eq_some_iff.1 hj).1]; exact hj
end Go.Proofs.YtldjakeigjngoaaGreat