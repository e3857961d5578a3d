/- BSB: texts of this proof, joined by program: PlainSynB, PlainSynC, PlainSynD, PlainSynE. -/
import Derived.Test.YtldjakeigjngoaaBSA
import Derived.Test.YtldjakeigjngoaaBPT
import Derived.Test.YtldjakeigjngoaaBRA
import Derived.Test.YtldjakeigjngoaaBOB
import Derived.Test.YtldjakeigjngoaaBPU
/- Plain: types of tokens that stand further on. -/
set_option linter.unusedVariables false
set_option linter.unusedSimpArgs false
namespace Go.Proofs.Ytldjakeigjngoaa
open Go.RowKit Bf
def stW (w : WordT) : List UInt8 := w.1
def stC (c : CoT) : Int × Int × List (List UInt8) := (c.1, c.2.1, c.2.2.2.map stW)
mutual
def eqT : TypP → TypP → Prop
 | .mk k _ lo hi most ns ps nm, .mk k' _ lo' hi' most' ns' ps' nm' => k = k' ∧ lo = lo' ∧ hi = hi' ∧ most = most' ∧ ns.map stW = ns'.map stW ∧ stW nm = stW nm' ∧ eqPs ps ps'
def eqP : PrtP → PrtP → Prop
 | .mk nm b lab wd co ty, .mk nm' b' lab' wd' co' ty' => stW nm = stW nm' ∧ b = b' ∧ lab.map stW = lab'.map stW ∧ wd = wd' ∧ stC co = stC co' ∧ eqT ty ty'
def eqPs : List PrtP → List PrtP → Prop
 | [], [] => True
 | x :: l, y :: m => eqP x y ∧ eqPs l m
 | _, _ => False
end
theorem eqPs_snoc : ∀ {l m : List PrtP} {x y : PrtP}, eqPs l m → eqP x y → eqPs (l ++ [x]) (m ++ [y])
 | [], [], x, y, _, h => by simp only [List.nil_append, eqPs]; exact ⟨h, trivial⟩
 | a :: l, b :: m, x, y, h, h' => by
  simp only [eqPs, List.cons_append] at h ⊢
  exact ⟨h.1, eqPs_snoc h.2 h'⟩
 | a :: l, [], x, y, h, _ => by simp only [eqPs] at h
 | [], b :: m, x, y, h, _ => by simp only [eqPs] at h
def shC (k : Int) (c : CurT) : CurT := ⟨c.i, c.d, c.e, if c.e ≠ 0 then c.a + k else c.a⟩
section
variable {l : List TokT} {k : Int} {c : CurT} (hl : TokOk l)
theorem shC_bad (h : c.e ≠ 0) : shC k c = ⟨c.i, c.d, c.e, c.a + k⟩ := by unfold shC; rw [if_pos h]
theorem shC_ok (h : c.e = 0) : shC k c = c := by unfold shC; rw [if_neg (fun hn => hn h)]
theorem sh_peek (hc : CurOk l c) : peekT (l.map (shT k)) (shC k c) = shT k (peekT l c) := by
 by_cases he : c.e = 0
 · obtain ⟨t, ht, hg⟩ := hc.get
   rw [shC_ok he, peekT_ok _ c he, peekT_ok l c he, hg, List.getD_eq_getElem?_getD, List.getElem?_map, ht]; rfl
 · rw [shC_bad he, peekT_bad l c he, peekT_bad (l.map (shT k)) ⟨c.i, c.d, c.e, c.a + k⟩ he]; rfl
theorem sh_next (hc : CurOk l c) : nextT (l.map (shT k)) (shC k c) = shC k (nextT l c) := by
 have hp := sh_peek (k := k) hc
 unfold nextT
 rw [hp]
 by_cases h0 : (peekT l c).1 = 0
 · rw [if_pos (show (shT k (peekT l c)).1 = 0 from h0), if_pos h0]
 · rw [if_neg (show ¬ (shT k (peekT l c)).1 = 0 from h0), if_neg h0]; rfl
theorem sh_is (hc : CurOk l c) (q : Int) (t : List UInt8) : isT (l.map (shT k)) (shC k c) q t = isT l c q t := by unfold isT; rw [sh_peek hc]; rfl
theorem sh_tak (hc : CurOk l c) (q : Int) : takT (l.map (shT k)) (shC k c) q = takT l c q := by unfold takT; rw [sh_peek hc]; rfl
theorem sh_failAt (e a : Int) : failAtT (shC k c) e (a + k) = shC k (failAtT c e a) := by
 unfold failAtT
 by_cases h : c.e = 0 ∧ e ≠ 0
 · rw [if_pos (show (shC k c).e = 0 ∧ e ≠ 0 from h), if_pos h, shC_bad (show (⟨c.i, c.d, e, a⟩ : CurT).e ≠ 0 from h.2)]; rfl
 · rw [if_neg (show ¬ ((shC k c).e = 0 ∧ e ≠ 0) from h), if_neg h]
theorem sh_fail (hc : CurOk l c) (e : Int) : failT (l.map (shT k)) (shC k c) e = shC k (failT l c e) := by
 unfold failT; rw [sh_peek hc]; exact sh_failAt e _
theorem sh_wrong (hc : CurOk l c) : wrongT (l.map (shT k)) (shC k c) = shC k (wrongT l c) := by
 unfold wrongT; rw [sh_peek hc]; exact sh_fail hc _
theorem sh_need (hc : CurOk l c) (t : List UInt8) : needT (l.map (shT k)) (shC k c) t = shC k (needT l c t) := by
 unfold needT; rw [sh_is hc, sh_peek hc]
 split
 · exact sh_next hc
 · exact sh_fail hc _
theorem sh_numN (hc : CurOk l c) : numN (l.map (shT k)) (shC k c) = numN l c := by unfold numN; rw [sh_tak hc, sh_peek hc]; rfl
theorem sh_numCu (hc : CurOk l c) : numCu (l.map (shT k)) (shC k c) = shC k (numCu l c) := by
 unfold numCu; rw [sh_tak hc]
 split
 · exact sh_next hc
 · exact sh_wrong hc
theorem sh_namCu (hc : CurOk l c) : namCu (l.map (shT k)) (shC k c) = shC k (namCu l c) := by
 unfold namCu; rw [sh_tak hc]
 split
 · exact sh_next hc
 · exact sh_wrong hc
theorem sh_namW (hc : CurOk l c) : stW (namW (l.map (shT k)) (shC k c)) = stW (namW l c) := by
 unfold stW namW namTk; rw [sh_tak hc, sh_peek hc]
 split <;> rfl
end
end Go.Proofs.Ytldjakeigjngoaa
/- Plain: a type whose tokens stand further on is the same type. -/
namespace Go.Proofs.Ytldjakeigjngoaa
open Go.RowKit Bf
section
variable {l : List TokT} {k : Int} {c : CurT} (hl : TokOk l)
theorem shC_e (c : CurT) : (shC k c).e = c.e := rfl
theorem shC_deep (c : CurT) : deepT (shC k c) = shC k (deepT c) := rfl
theorem shC_leave (c : CurT) : leaveT (shC k c) = shC k (leaveT c) := rfl
theorem sh_at (hc : CurOk l c) : (peekT (l.map (shT k)) (shC k c)).2.1 = (peekT l c).2.1 + k := by rw [sh_peek hc]; rfl
theorem sh_kd (hc : CurOk l c) : (peekT (l.map (shT k)) (shC k c)).1 = (peekT l c).1 := by rw [sh_peek hc]; rfl
theorem sh_wd (hc : CurOk l c) : (peekT (l.map (shT k)) (shC k c)).2.2.2.1 = (peekT l c).2.2.2.1 := by rw [sh_peek hc]; rfl
include hl in
theorem sh_labGo : ∀ (n : Nat) {c : CurT} (_ : CurOk l c) (x x' : List WordT), x'.map stW = x.map stW →
 (labGo (l.map (shT k)) n (shC k c) x').1.map stW = (labGo l n c x).1.map stW ∧ (labGo (l.map (shT k)) n (shC k c) x').2 = shC k (labGo l n c x).2
 | 0, c, hc, x, x', hx => ⟨hx, rfl⟩
 | n + 1, c, hc, x, x', hx => by
  unfold labGo
  rw [sh_is hc]
  by_cases h : isT l c 4 [43] = true
  · have h1 := Adv.next hl hc
    have h2 := Adv.nam hl h1.ok
    rw [if_pos h, if_pos h, sh_next hc, sh_namCu h1.ok]
    exact sh_labGo n h2.ok _ _ (by rw [List.map_append, List.map_append, hx, List.map_singleton, List.map_singleton, sh_namW h1.ok])
  · rw [if_neg h, if_neg h]; exact ⟨hx, rfl⟩
include hl in
theorem sh_lab (hc : CurOk l c) : (labP (l.map (shT k)) (shC k c)).1.map stW = (labP l c).1.map stW ∧ (labP (l.map (shT k)) (shC k c)).2 = shC k (labP l c).2 := by
 unfold labP
 rw [List.length_map, sh_namCu hc]
 exact sh_labGo hl _ (Adv.nam hl hc).ok _ _ (by rw [List.map_singleton, List.map_singleton, sh_namW hc])
include hl in
theorem sh_num1 (hc : CurOk l c) : num1P (l.map (shT k)) (shC k c) = ((num1P l c).1, shC k (num1P l c).2) := by
 have h1 := Adv.need hl hc [40] (by simp)
 have h2 := Adv.num hl h1.ok
 unfold num1P
 rw [sh_need hc, sh_numN h1.ok, sh_numCu h1.ok, sh_need h2.ok]
include hl in
theorem sh_coK (hc : CurOk l c) : coK (l.map (shT k)) (shC k c) = ((coK l c).1, (coK l c).2.1, shC k (coK l c).2.2) := by
 have h1 := Adv.next hl hc
 unfold coK
 simp only [sh_is hc, sh_next hc, sh_num1 hl h1.ok, sh_kd hc, sh_fail hc, sh_wrong hc]
 split
 · rfl
 · split
   · rfl
   · split
     · rfl
     · split <;> rfl
include hl in
theorem sh_atL (hc : CurOk l c) : (atL (l.map (shT k)) (shC k c)).1.map stW = (atL l c).1.map stW ∧ (atL (l.map (shT k)) (shC k c)).2 = shC k (atL l c).2 := by
 have h1 := Adv.next hl hc
 unfold atL
 simp only [sh_is hc, sh_next hc]
 split
 · exact sh_lab hl h1.ok
 · exact ⟨rfl, rfl⟩
include hl in
theorem sh_coP (hc : CurOk l c) : stC (coP (l.map (shT k)) (shC k c)).1 = stC (coP l c).1 ∧ (coP (l.map (shT k)) (shC k c)).2 = shC k (coP l c).2 := by
 have h1 := Adv.coK hl hc
 have h2 := sh_atL (k := k) hl h1.ok
 unfold coP
 rw [sh_coK hl hc]
 refine ⟨?_, h2.2⟩
 simp only [stC, h2.1]
include hl in
theorem sh_wid (hc : CurOk l c) : widP (l.map (shT k)) (shC k c) = ((widP l c).1, shC k (widP l c).2) := by
 have h1 := Adv.next hl hc
 unfold widP
 simp only [sh_is hc, sh_next hc, sh_numN h1.ok, sh_numCu h1.ok]
 split <;> rfl
include hl in
theorem sh_see (hc : CurOk l c) : stC (seeP (l.map (shT k)) (shC k c)).1 = stC (seeP l c).1 ∧ (seeP (l.map (shT k)) (shC k c)).2 = shC k (seeP l c).2 := by
 have h1 := Adv.next hl hc
 unfold seeP
 simp only [sh_is hc, sh_next hc]
 split
 · exact sh_coP hl h1.ok
 · exact ⟨rfl, rfl⟩
include hl in
theorem sh_mk (hc : CurOk l c) : (mkP (l.map (shT k)) (shC k c)).1.1.map stW = (mkP l c).1.1.map stW ∧ (mkP (l.map (shT k)) (shC k c)).1.2.1 = (mkP l c).1.2.1 ∧ stC (mkP (l.map (shT k)) (shC k c)).1.2.2 = stC (mkP l c).1.2.2 ∧ (mkP (l.map (shT k)) (shC k c)).2 = shC k (mkP l c).2 := by
 have h1 := Adv.atL hl hc
 have h2 := Adv.wid hl h1.ok
 have e1 := sh_atL (k := k) hl hc
 have e2 := sh_wid (k := k) hl h1.ok
 have e3 := sh_see (k := k) hl h2.ok
 unfold mkP
 simp only [e1.2, e2]
 exact ⟨e1.1, by trivial, e3.1, e3.2⟩
def KdSh (l : List TokT) (k d : Int) (kd' kd : CurT → TypP × CurT) : Prop := ∀ c, CurOk l c → c.d = d → eqT (kd' (shC k c)).1 (kd c).1 ∧ (kd' (shC k c)).2 = shC k (kd c).2
variable {kd kd' : CurT → TypP × CurT}
include hl in
theorem sh_fld (hc : CurOk l c) (ha : KdAdv l c.d kd) (hk : KdSh l k c.d kd' kd) : eqP (fldP (l.map (shT k)) kd' (shC k c)).1 (fldP l kd c).1 ∧ (fldP (l.map (shT k)) kd' (shC k c)).2 = shC k (fldP l kd c).2 := by
 have h1 := Adv.nam hl hc
 have h2 := h1.trans (Adv.need hl h1.ok [58] (by simp))
 have h3 := h2.trans (ha _ h2.ok h2.d)
 have e3 := hk _ h2.ok h2.d
 have e4 := sh_mk (k := k) hl h3.ok
 unfold fldP withM
 simp only [sh_namCu hc, sh_need h1.ok, e3.2, eqP]
 exact ⟨⟨sh_namW hc, by trivial, e4.1, e4.2.1, e4.2.2.1, e3.1⟩, e4.2.2.2⟩
theorem eqT_z : eqT ztP ztP := by unfold ztP; simp only [eqT, eqPs, and_self]
include hl in
theorem sh_tag (hc : CurOk l c) (ha : KdAdv l c.d kd) (hk : KdSh l k c.d kd' kd) : eqP (tagP (l.map (shT k)) kd' (shC k c)).1 (tagP l kd c).1 ∧ (tagP (l.map (shT k)) kd' (shC k c)).2 = shC k (tagP l kd c).2 := by
 have h1 := Adv.nam hl hc
 unfold tagP
 rw [sh_namCu hc, sh_is h1.ok]
 by_cases h : isT l (namCu l c) 4 [40] = true
 · have h2 := h1.trans (Adv.next hl h1.ok)
   have h3 := h2.trans (ha _ h2.ok h2.d)
   have h4 := h3.trans (Adv.need hl h3.ok [41] (by simp))
   have e3 := hk _ h2.ok h2.d
   have e4 := sh_mk (k := k) hl h4.ok
   rw [if_pos h, if_pos h]
   unfold withM
   simp only [sh_next h1.ok, e3.2, sh_need h3.ok, eqP]
   exact ⟨⟨sh_namW hc, by trivial, e4.1, e4.2.1, e4.2.2.1, e3.1⟩, e4.2.2.2⟩
 · rw [if_neg h, if_neg h]
   simp only [eqP]
   exact ⟨⟨sh_namW hc, by trivial, by trivial, by trivial, by trivial, eqT_z⟩, by trivial⟩
section
variable {α : Type} {R : α → α → Prop} {one one' : CurT → α → α × CurT} {e : List UInt8}
include hl in
theorem sh_lstGo : ∀ (n : Nat) {c : CurT} (_ : CurOk l c) (x x' : α) (_ : R x' x)
 (_ : ∀ c' x, CurOk l c' → c'.d = c.d → Adv l c' (one c' x).2)
 (_ : ∀ c' x x', CurOk l c' → c'.d = c.d → R x' x → R (one' (shC k c') x').1 (one c' x).1 ∧ (one' (shC k c') x').2 = shC k (one c' x).2),
 R (lstGo (l.map (shT k)) one' e n (shC k c) x').1 (lstGo l one e n c x).1 ∧ (lstGo (l.map (shT k)) one' e n (shC k c) x').2 = shC k (lstGo l one e n c x).2
 | 0, c, hc, x, x', hx, _, _ => ⟨hx, rfl⟩
 | n + 1, c, hc, x, x', hx, ha, ho => by
  have h1 := ha c x hc rfl
  have e1 := ho c x x' hc rfl hx
  unfold lstGo
  by_cases he : c.e ≠ 0
  · rw [if_pos he, if_pos (show (shC k c).e ≠ 0 from he)]; exact ⟨hx, rfl⟩
  · rw [if_neg he, if_neg (show ¬ (shC k c).e ≠ 0 from he), e1.2, sh_is h1.ok]
    by_cases h : isT l (one c x).2 4 e = true
    · rw [if_pos h, if_pos h]; exact ⟨e1.1, sh_next h1.ok⟩
    · rw [if_neg h, if_neg h, sh_need h1.ok]
      have h2 := h1.trans (Adv.need hl h1.ok [44] (by simp))
      exact sh_lstGo n h2.ok _ _ e1.1 (fun c' x hc hd => ha c' x hc (hd.trans h2.d)) (fun c' x x' hc hd hx => ho c' x x' hc (hd.trans h2.d) hx)
include hl in
theorem sh_lst {b : Bool} (hc : CurOk l c) (x x' : α) (hx : R x' x)
 (ha : ∀ c' x, CurOk l c' → c'.d = c.d → Adv l c' (one c' x).2)
 (ho : ∀ c' x x', CurOk l c' → c'.d = c.d → R x' x → R (one' (shC k c') x').1 (one c' x).1 ∧ (one' (shC k c') x').2 = shC k (one c' x).2) :
 R (lstP (l.map (shT k)) one' e b (shC k c) x').1 (lstP l one e b c x).1 ∧ (lstP (l.map (shT k)) one' e b (shC k c) x').2 = shC k (lstP l one e b c x).2 := by
 unfold lstP
 rw [sh_is hc, List.length_map]
 split
 · exact ⟨hx, sh_next hc⟩
 · exact sh_lstGo hl _ hc x x' hx ha ho
end
include hl in
theorem sh_nams (hc : CurOk l c) (e : List UInt8) : (namsP (l.map (shT k)) e (shC k c)).1.map stW = (namsP l e c).1.map stW ∧ (namsP (l.map (shT k)) e (shC k c)).2 = shC k (namsP l e c).2 := by
 unfold namsP
 exact sh_lst (one := addP (nam1 l)) (one' := addP (nam1 (l.map (shT k)))) (R := fun x' x => x'.map stW = x.map stW) hl hc [] [] rfl (fun c' _ hc _ => .nam hl hc) (fun c' x x' hc _ hx => by
  unfold addP nam1
  exact ⟨by rw [List.map_append, List.map_append, hx, List.map_singleton, List.map_singleton, sh_namW hc], sh_namCu hc⟩)
include hl in
theorem sh_prts {one one' : CurT → PrtP × CurT} {b : Bool} (hc : CurOk l c) (ha : ∀ c', CurOk l c' → c'.d = c.d → Adv l c' (one c').2)
 (ho : ∀ c', CurOk l c' → c'.d = c.d → eqP (one' (shC k c')).1 (one c').1 ∧ (one' (shC k c')).2 = shC k (one c').2) :
 eqPs (prtsP (l.map (shT k)) one' b (shC k c)).1 (prtsP l one b c).1 ∧ (prtsP (l.map (shT k)) one' b (shC k c)).2 = shC k (prtsP l one b c).2 := by
 have h1 := Adv.need hl hc [123] (by simp)
 unfold prtsP
 rw [sh_need hc]
 exact sh_lst (R := eqPs) hl h1.ok [] [] (by simp only [eqPs]) (fun c' _ hc hd => ha c' hc (hd.trans h1.d)) (fun c' x x' hc hd hx => by
  have e1 := ho c' hc (hd.trans h1.d)
  unfold addP
  exact ⟨eqPs_snoc hx e1.1, e1.2⟩)
theorem eqT_at (a a' : Int) : eqT (atP a') (atP a) := by unfold atP; simp only [eqT, eqPs, and_self]
theorem eqP_p0 {t t' : TypP} (h : eqT t' t) : eqPs [p0P t'] [p0P t] := by
 unfold p0P; simp only [eqPs, eqP]; exact ⟨⟨by trivial, by trivial, by trivial, by trivial, by trivial, h⟩, trivial⟩
include hl in
theorem sh_bod (hc : CurOk l c) (ha : KdAdv l c.d kd) (hk : KdSh l k c.d kd' kd) (w : List UInt8) (a a' : Int) :
 (bodP (l.map (shT k)) kd' w a' (shC k c)).1 = (bodP l kd w a c).1 ∧ eqT (bodP (l.map (shT k)) kd' w a' (shC k c)).2.1 (bodP l kd w a c).2.1 ∧ (bodP (l.map (shT k)) kd' w a' (shC k c)).2.2 = shC k (bodP l kd w a c).2.2 := by
 have n1 := Adv.need hl hc [40] (by simp)
 unfold bodP
 split
 · simp only [eqT, eqPs, and_self]
 split
 · have h2 := Adv.num hl n1.ok
   have h3 := h2.trans (Adv.need hl h2.ok [46, 46] (by simp))
   have h4 := h3.trans (Adv.num hl h3.ok)
   simp only [sh_need hc, sh_numN n1.ok, sh_numCu n1.ok, sh_need h2.ok, sh_numN h3.ok, sh_numCu h3.ok, sh_need h4.ok, eqT, eqPs, and_self]
 split
 · simp only [sh_num1 hl hc, eqT, eqPs, and_self]
 split
 · have e2 := sh_nams (k := k) hl n1.ok [41]
   simp only [sh_need hc, eqT, eqPs]
   exact ⟨trivial, ⟨by trivial, by trivial, by trivial, by trivial, e2.1, by trivial, trivial⟩, e2.2⟩
 split
 · have h2 := n1.trans (ha _ n1.ok n1.d)
   have h3 := h2.trans (Adv.need hl h2.ok [44] (by simp))
   have h4 := h3.trans (Adv.num hl h3.ok)
   have e2 := hk _ n1.ok n1.d
   simp only [sh_need hc, e2.2, sh_need h2.ok, sh_numN h3.ok, sh_numCu h3.ok, sh_need h4.ok, eqT]
   exact ⟨trivial, ⟨by trivial, by trivial, by trivial, by trivial, by trivial, by trivial, eqP_p0 e2.1⟩, trivial⟩
 split
 · have h2 := n1.trans (ha _ n1.ok n1.d)
   have e2 := hk _ n1.ok n1.d
   simp only [sh_need hc, e2.2, sh_need h2.ok, eqT]
   exact ⟨trivial, ⟨by trivial, by trivial, by trivial, by trivial, by trivial, by trivial, eqP_p0 e2.1⟩, trivial⟩
 split
 · have h2 := n1.trans (Adv.nam hl n1.ok)
   simp only [sh_need hc, sh_namCu n1.ok, sh_need h2.ok, eqT, sh_namW n1.ok, eqPs, and_self]
 split
 · have e2 := sh_prts (k := k) (b := true) hl hc (one := fldP l kd) (one' := fldP (l.map (shT k)) kd') (fun c' hc hd => .fld hl hc (fun c2 h2 hd2 => ha c2 h2 (hd2.trans hd))) (fun c' hc hd => sh_fld hl hc (fun c2 h2 hd2 => ha c2 h2 (hd2.trans hd)) (fun c2 h2 hd2 => hk c2 h2 (hd2.trans hd)))
   simp only [eqT]
   exact ⟨trivial, ⟨by trivial, by trivial, by trivial, by trivial, by trivial, by trivial, e2.1⟩, e2.2⟩
 split
 · have e2 := sh_prts (k := k) (b := false) hl hc (one := tagP l kd) (one' := tagP (l.map (shT k)) kd') (fun c' hc hd => .tag hl hc (fun c2 h2 hd2 => ha c2 h2 (hd2.trans hd))) (fun c' hc hd => sh_tag hl hc (fun c2 h2 hd2 => ha c2 h2 (hd2.trans hd)) (fun c2 h2 hd2 => hk c2 h2 (hd2.trans hd)))
   simp only [eqT]
   exact ⟨trivial, ⟨by trivial, by trivial, by trivial, by trivial, by trivial, by trivial, e2.1⟩, e2.2⟩
 · exact ⟨rfl, eqT_at _ _, rfl⟩
include hl in
theorem sh_kndB (hc : CurOk l c) (hd : c.d < 24) (ha : KdAdv l (c.d + 1) kd) (hk : KdSh l k (c.d + 1) kd' kd) : eqT (kndB (l.map (shT k)) kd' (shC k c)).1 (kndB l kd c).1 ∧ (kndB (l.map (shT k)) kd' (shC k c)).2 = shC k (kndB l kd c).2 := by
 have h1 := hc.deep hd
 have h2 := Adv.next hl h1
 have e2 := sh_bod (k := k) hl h2.ok (fun c' hc hd => ha c' hc (hd.trans h2.d)) (fun c' hc hd => hk c' hc (hd.trans h2.d)) (peekT l (deepT c)).2.2.2.1 (peekT l c).2.1 ((peekT l c).2.1 + k)
 unfold kndB
 rw [shC_deep, sh_tak h1, sh_wd h1, sh_at h1, sh_at hc, sh_next h1, sh_wrong h1]
 split
 · simp only [e2.1, e2.2.2]
   refine ⟨e2.2.1, ?_⟩
   split
   · exact shC_leave _
   · rw [sh_failAt, shC_leave]
 · exact ⟨eqT_at _ _, shC_leave _⟩
include hl in
theorem sh_knd : ∀ (n : Nat) (d : Int), d + n = 24 → KdSh l k d (kndP (l.map (shT k)) n) (kndP l n)
 | 0, d, h => fun c hc hd => by
  unfold kndP
  exact ⟨eqT_at _ _, sh_fail hc _⟩
 | n + 1, d, h => fun c hc hd => by
  unfold kndP
  exact sh_kndB hl hc (by omega) (by rw [hd]; exact knd_adv hl n (d + 1) (by omega)) (by rw [hd]; exact sh_knd n (d + 1) (by omega))
theorem sh_end (hc : CurOk l c) : endC (l.map (shT k)) (shC k c) = shC k (endC l c) := by
 unfold endC
 rw [sh_kd hc, sh_fail hc, shC_e]
 split <;> rfl
end
end Go.Proofs.Ytldjakeigjngoaa
/- Plain: where a reading fails, is a place of the text; a remark's line ahead of a type. -/
namespace Go.Proofs.Ytldjakeigjngoaa
open Go.RowKit Bf
def InA (a : Int) : Prop := 0 ≤ a ∧ a ≤ 4000
structure TkP (l : List TokT) : Prop extends TokOk l where
 pos : ∀ t ∈ l, InA t.2.1
structure Avn (l : List TokT) (c c' : CurT) : Prop where
 ok : CurOk l c'
 d : c'.d = c.d
 nn : InA c.a → InA c'.a
section
variable {l : List TokT} {c c' c'' : CurT} (hl : TkP l)
theorem Avn.refl (h : CurOk l c) : Avn l c c := ⟨h, rfl, id⟩
theorem Avn.trans (h : Avn l c c') (h' : Avn l c' c'') : Avn l c c'' := ⟨h'.ok, h'.d.trans h.d, fun ha => h'.nn (h.nn ha)⟩
include hl in
theorem pk_nn (h : CurOk l c) (ha : InA c.a) : InA (peekT l c).2.1 := by
 by_cases he : c.e = 0
 · obtain ⟨t, ht, hg⟩ := h.get
   rw [peekT_ok l c he, hg]; exact hl.pos t (List.mem_of_getElem? ht)
 · rw [peekT_bad l c he]; exact ha
theorem Avn.thenFail (h : Avn l c c') (e a : Int) (ha : InA c.a → InA a) : Avn l c (failAtT c' e a) := by
 refine ⟨h.ok.failAt e a, ?_, fun h0 => ?_⟩
 · rw [← h.d]; unfold failAtT; split <;> rfl
 · unfold failAtT; split
   · exact ha h0
   · exact h.nn h0
include hl in
theorem Avn.fail (h : CurOk l c) (e : Int) : Avn l c (failT l c e) := (Avn.refl h).thenFail e _ (fun ha => pk_nn hl h ha)
include hl in
theorem Avn.wrong (h : CurOk l c) : Avn l c (wrongT l c) := .fail hl h _
include hl in
theorem Avn.next (h : CurOk l c) : Avn l c (nextT l c) := by
 refine ⟨h.next hl.toTokOk, ?_, fun ha => ?_⟩
 · unfold nextT; split <;> rfl
 · unfold nextT; split <;> exact ha
theorem Avn.leave (h : CurOk l c) (h' : Avn l (deepT c) c') : Avn l c (leaveT c') := by
 have hd : c'.d = c.d + 1 := h'.d
 have h0 := h.d0
 refine ⟨h'.ok.leave, ?_, fun ha => h'.nn ha⟩
 simp only [leaveT]; omega
include hl in
theorem Avn.need (h : CurOk l c) (t : List UInt8) (ht : t ≠ []) : Avn l c (needT l c t) := by
 unfold needT; split
 · exact .next hl h
 · exact .fail hl h _
include hl in
theorem Avn.num (h : CurOk l c) : Avn l c (numCu l c) := by
 unfold numCu; split
 · exact .next hl h
 · exact .wrong hl h
include hl in
theorem Avn.nam (h : CurOk l c) : Avn l c (namCu l c) := by
 unfold namCu; split
 · exact .next hl h
 · exact .wrong hl h
include hl in
include hl in
theorem labGo_avn : ∀ (n : Nat) {c : CurT} (_ : CurOk l c) (x : List WordT), Avn l c (labGo l n c x).2
 | 0, c, h, x => .refl h
 | n + 1, c, h, x => by
  unfold labGo; split
  · have h1 := Avn.next hl h
    have h2 := Avn.nam hl h1.ok
    exact (h1.trans h2).trans (labGo_avn n h2.ok _)
  · exact .refl h
include hl in
theorem Avn.lab (h : CurOk l c) : Avn l c (labP l c).2 := by
 have h2 := Avn.nam hl h
 exact h2.trans (labGo_avn hl _ h2.ok _)
include hl in
theorem Avn.num1 (h : CurOk l c) : Avn l c (num1P l c).2 := by
 have h1 := Avn.need hl h [40] (by simp)
 have h2 := Avn.num hl h1.ok
 exact (h1.trans h2).trans (.need hl h2.ok _ (by simp))
include hl in
theorem Avn.coK (h : CurOk l c) : Avn l c (coK l c).2.2 := by
 have h1 := Avn.next hl h
 unfold Go.Proofs.Ytldjakeigjngoaa.coK
 split
 · exact h1.trans (.num1 hl h1.ok)
 · split
   · exact h1.trans (.num1 hl h1.ok)
   · split
     · exact h1
     · split
       · exact .fail hl h _
       · exact .wrong hl h
include hl in
theorem Avn.atL (h : CurOk l c) : Avn l c (atL l c).2 := by
 unfold Go.Proofs.Ytldjakeigjngoaa.atL; split
 · have h1 := Avn.next hl h
   exact h1.trans (.lab hl h1.ok)
 · exact .refl h
include hl in
theorem Avn.coP (h : CurOk l c) : Avn l c (coP l c).2 := by
 have h1 := Avn.coK hl h
 exact h1.trans (.atL hl h1.ok)
include hl in
theorem Avn.wid (h : CurOk l c) : Avn l c (widP l c).2 := by
 unfold widP; split
 · have h1 := Avn.next hl h
   exact h1.trans (.num hl h1.ok)
 · exact .refl h
include hl in
theorem Avn.see (h : CurOk l c) : Avn l c (seeP l c).2 := by
 unfold seeP; split
 · have h1 := Avn.next hl h
   exact h1.trans (.coP hl h1.ok)
 · exact .refl h
include hl in
theorem Avn.mk' (h : CurOk l c) : Avn l c (mkP l c).2 := by
 have h1 := Avn.atL hl h
 have h2 := Avn.wid hl h1.ok
 exact (h1.trans h2).trans (.see hl h2.ok)
def KdAvn (l : List TokT) (d : Int) (kd : CurT → TypP × CurT) : Prop := ∀ c, CurOk l c → c.d = d → Avn l c (kd c).2
variable {kd : CurT → TypP × CurT}
include hl in
theorem Avn.fld (h : CurOk l c) (hk : KdAvn l c.d kd) : Avn l c (fldP l kd c).2 := by
 have h1 := Avn.nam hl h
 have h2 := h1.trans (Avn.need hl h1.ok [58] (by simp))
 have h3 := h2.trans (hk _ h2.ok h2.d)
 exact h3.trans (.mk' hl h3.ok)
include hl in
theorem Avn.tag (h : CurOk l c) (hk : KdAvn l c.d kd) : Avn l c (tagP l kd c).2 := by
 have h1 := Avn.nam hl h
 unfold tagP; split
 · have h2 := h1.trans (Avn.next hl h1.ok)
   have h3 := h2.trans (hk _ h2.ok h2.d)
   have h4 := h3.trans (Avn.need hl h3.ok [41] (by simp))
   exact h4.trans (.mk' hl h4.ok)
 · exact h1
include hl in
theorem lstGo_avn {α : Type} {one : CurT → α → α × CurT} {e : List UInt8} : ∀ (n : Nat) {c : CurT} (_ : CurOk l c) (x : α) (_ : ∀ c' x, CurOk l c' → c'.d = c.d → Avn l c' (one c' x).2), Avn l c (lstGo l one e n c x).2
 | 0, c, h, x, _ => .refl h
 | n + 1, c, h, x, ho => by
  unfold lstGo; split
  · exact .refl h
  · have h1 := ho c x h rfl
    split
    · exact h1.trans (.next hl h1.ok)
    · have h2 := h1.trans (Avn.need hl h1.ok [44] (by simp))
      exact h2.trans (lstGo_avn n h2.ok _ fun c' x hc hd => ho c' x hc (hd.trans h2.d))
include hl in
theorem Avn.lst {α : Type} {one : CurT → α → α × CurT} {e : List UInt8} {b : Bool} (h : CurOk l c) (x : α) (ho : ∀ c' x, CurOk l c' → c'.d = c.d → Avn l c' (one c' x).2) : Avn l c (lstP l one e b c x).2 := by
 unfold lstP; split
 · exact .next hl h
 · exact lstGo_avn hl _ h x ho
include hl in
theorem Avn.nams (h : CurOk l c) (e : List UInt8) : Avn l c (namsP l e c).2 := .lst hl h _ fun c' _ hc _ => .nam hl hc
include hl in
theorem Avn.prts {one : CurT → PrtP × CurT} {b : Bool} (h : CurOk l c) (ho : ∀ c', CurOk l c' → c'.d = c.d → Avn l c' (one c').2) : Avn l c (prtsP l one b c).2 := by
 have h1 := Avn.need hl h [123] (by simp)
 exact h1.trans (.lst hl h1.ok _ fun c' _ hc hd => ho c' hc (hd.trans h1.d))
include hl in
theorem Avn.bod (h : CurOk l c) (hk : KdAvn l c.d kd) (w : List UInt8) (a : Int) : Avn l c (bodP l kd w a c).2.2 := by
 have n1 := Avn.need hl h [40] (by simp)
 have hk' : ∀ {c' : CurT}, Avn l c c' → KdAvn l c'.d kd := fun h c' hc hd => hk c' hc (hd.trans h.d)
 unfold bodP
 split
 · exact .refl h
 split
 · have h2 := n1.trans (Avn.num hl n1.ok)
   have h3 := h2.trans (Avn.need hl h2.ok [46, 46] (by simp))
   have h4 := h3.trans (Avn.num hl h3.ok)
   exact h4.trans (.need hl h4.ok _ (by simp))
 split
 · exact .num1 hl h
 split
 · exact n1.trans (.nams hl n1.ok _)
 split
 · have h2 := n1.trans (hk _ n1.ok n1.d)
   have h3 := h2.trans (Avn.need hl h2.ok [44] (by simp))
   have h4 := h3.trans (Avn.num hl h3.ok)
   exact h4.trans (.need hl h4.ok _ (by simp))
 split
 · have h2 := n1.trans (hk _ n1.ok n1.d)
   exact h2.trans (.need hl h2.ok _ (by simp))
 split
 · have h2 := n1.trans (Avn.nam hl n1.ok)
   exact h2.trans (.need hl h2.ok _ (by simp))
 split
 · exact .prts hl h fun c' hc hd => .fld hl hc (fun c2 h2 hd2 => hk c2 h2 (hd2.trans hd))
 split
 · exact .prts hl h fun c' hc hd => .tag hl hc (fun c2 h2 hd2 => hk c2 h2 (hd2.trans hd))
 · exact .refl h
include hl in
theorem Avn.kndB (h : CurOk l c) (hd : c.d < 24) (hk : KdAvn l (c.d + 1) kd) : Avn l c (kndB l kd c).2 := by
 have h1 := h.deep hd
 unfold Go.Proofs.Ytldjakeigjngoaa.kndB; split
 · have h2 := Avn.next hl h1
   have h3 := h2.trans (Avn.bod hl h2.ok (w := (peekT l (deepT c)).2.2.2.1) (a := (peekT l c).2.1) (fun c' hc hd => hk c' hc (hd.trans h2.d)))
   refine .leave h ?_
   split
   · exact h3
   · exact h3.thenFail _ _ (fun ha => pk_nn hl h1 ha)
 · exact .leave h (.wrong hl h1)
include hl in
theorem knd_avn : ∀ (n : Nat) (d : Int), d + n = 24 → KdAvn l d (kndP l n)
 | 0, d, h => fun c hc hd => .fail hl hc _
 | n + 1, d, h => fun c hc hd => .kndB hl hc (by omega) (by rw [hd]; exact knd_avn n (d + 1) (by omega))
end
end Go.Proofs.Ytldjakeigjngoaa
/- Plain: a remark's line ahead of a type's text changes nothing but places. -/
namespace Go.Proofs.Ytldjakeigjngoaa
open Go.RowKit Bf
def line5 : List UInt8 := [59, 32, 34, 123, 10]
theorem rem_one (c : UInt8) (t : List UInt8) (hw : want c = 1) (h10 : (c.toNat : Int) ≠ 10) (hu : unsafeB (c.toNat : Int) = false) : remL (c :: t) = (1 + (remL t).1, (remL t).2) :=
 remL_ok (c :: t) (by simp) h10 (decS_1 c t hw) (fun h => by rw [hu] at h; cases h.2)
theorem rem5 (s : List UInt8) : remL (line5 ++ s) = (4, 0) := by
 show remL (59 :: 32 :: 34 :: 123 :: 10 :: s) = (4, 0)
 rw [rem_one 59 _ (by decide) (by decide) (by decide), rem_one 32 _ (by decide) (by decide) (by decide), rem_one 34 _ (by decide) (by decide) (by decide), rem_one 123 _ (by decide) (by decide) (by decide), remL_end (10 :: s) rfl]
 rfl
theorem scan5 (s : List UInt8) (hs : s.length ≤ 4000) : scanR (line5 ++ s) = shS 5 (scanR s) := by
 have hlen : (line5 ++ s).length = s.length + 5 := by simp [line5]
 unfold scanR
 rw [if_neg (by omega), if_neg (by omega), scanT_rem (line5 ++ s) 0 (by omega) rfl (n := 4) (by rw [List.drop_zero]; exact rem5 s) (by decide), scanT_blank (line5 ++ s) (0 + 4) (by omega) (by show blankB 10 = true; decide)]
 exact scanT_shift (line5 ++ s) 5 _ 0 (Nat.le_refl _) (by omega)
def atOf : TypP → Int
 | .mk _ a _ _ _ _ _ _ => a
theorem bod_at (l : List TokT) (kd : CurT → TypP × CurT) (w : List UInt8) (a : Int) (c : CurT) : atOf (bodP l kd w a c).2.1 = a := by
 unfold bodP
 split
 · rfl
 split
 · rfl
 split
 · rfl
 split
 · rfl
 split
 · rfl
 split
 · rfl
 split
 · rfl
 split
 · rfl
 split
 · rfl
 · rfl
theorem knd_at (l : List TokT) (n : Nat) (c : CurT) : atOf (kndP l n c).1 = (peekT l c).2.1 := by
 cases n with
 | zero => rfl
 | succ n =>
  unfold kndP kndB
  split
  · exact bod_at _ _ _ _ _
  · rfl
theorem typR_eq {s : List UInt8} {L : List TokT} {a : Int} (hL : scanR s = (L, 0, a)) : typR s = if (endC L (kndP L 24 cur0).2).e ≠ 0 then (ztP, (endC L (kndP L 24 cur0).2).e, (endC L (kndP L 24 cur0).2).a) else ((kndP L 24 cur0).1, (endC L (kndP L 24 cur0).2).e, (endC L (kndP L 24 cur0).2).a) := by
 unfold typR; rw [hL]; simp
theorem typ5 (s : List UInt8) (hs : s.length ≤ 4000) :
 (typR (line5 ++ s)).2.1 = (typR s).2.1 ∧
 ((typR s).2.1 = 0 → eqT (typR (line5 ++ s)).1 (typR s).1 ∧ atOf (typR (line5 ++ s)).1 = atOf (typR s).1 + 5 ∧ InA (atOf (typR s).1)) ∧
 ((typR s).2.1 ≠ 0 → (typR (line5 ++ s)).2.2 = (typR s).2.2 + 5 ∧ InA (typR s).2.2) := by
 have h5 := scan5 s hs
 obtain ⟨L, e, a, hL⟩ : ∃ L e a, scanR s = (L, e, a) := ⟨_, _, _, rfl⟩
 rw [hL] at h5
 by_cases he : e = 0
 · subst he
   have ha := scanR_a0 hL
   subst ha
   have hT := (scanR_toks hL (scanR_cnt hL)).1
   have hA : AtB s.length L := by have := scanR_at (s := s); rw [hL] at this; exact this
   have hP : TkP L := ⟨hT, fun t ht => ⟨(hA t ht).1, by have := (hA t ht).2; omega⟩⟩
   have h5' : scanR (line5 ++ s) = (L.map (shT 5), 0, 0) := by rw [h5]; rfl
   have hc0 : CurOk L cur0 := ⟨by decide, by have := hT.n; simp only [cur0]; omega, by decide, by decide⟩
   have hk := sh_knd (k := 5) hT 24 0 rfl cur0 hc0 rfl
   have hv := knd_avn hP 24 0 rfl cur0 hc0 rfl
   rw [shC_ok (show cur0.e = 0 from rfl)] at hk
   have hE := sh_end (k := 5) hv.ok
   rw [← hk.2] at hE
   rw [typR_eq hL, typR_eq h5', hE]
   have hen : InA (endC L (kndP L 24 cur0).2).a := by
    have h0 := hv.nn (show InA cur0.a from ⟨by decide, by decide⟩)
    unfold endC
    split
    · exact (Avn.fail hP hv.ok 4).nn h0
    · exact h0
   by_cases hz : (endC L (kndP L 24 cur0).2).e ≠ 0
   · rw [if_pos hz, if_pos (show (shC 5 (endC L (kndP L 24 cur0).2)).e ≠ 0 from hz), shC_bad hz]
     exact ⟨rfl, fun h => absurd h hz, fun _ => ⟨rfl, hen⟩⟩
   · have hz' : (endC L (kndP L 24 cur0).2).e = 0 := by omega
     rw [if_neg hz, if_neg (show ¬ (shC 5 (endC L (kndP L 24 cur0).2)).e ≠ 0 from hz), shC_ok hz']
     refine ⟨rfl, fun _ => ⟨hk.1, ?_, ?_⟩, fun h => absurd hz' h⟩
     · have hp := sh_at (k := 5) hc0
       rw [shC_ok (show cur0.e = 0 from rfl)] at hp
       simp only [knd_at]
       exact hp
     · simp only [knd_at]
       exact pk_nn hP hc0 ⟨by decide, by decide⟩
 · have h5' : scanR (line5 ++ s) = ([], e, a + 5) := by rw [h5]; unfold shS; rw [if_neg he]
   have hn : InA a := by
    have := scanT_nn s _ 0 (Nat.le_refl _) (Nat.zero_le _)
    have h2 : scanR s = scanT s 0 := by unfold scanR; rw [if_neg (by omega)]
    rw [← h2, hL] at this; exact ⟨this, by have := (scanR_bad hL he (by omega)).2; omega⟩
   have e1 : typR s = (ztP, e, a) := by unfold typR; rw [hL]; simp [he]
   have e2 : typR (line5 ++ s) = (ztP, e, a + 5) := by unfold typR; rw [h5']; simp [he]
   rw [e1, e2]
   exact ⟨rfl, fun h => absurd h he, fun _ => ⟨rfl, hn⟩⟩
end Go.Proofs.Ytldjakeigjngoaa