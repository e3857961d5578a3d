/- BSA: texts of this proof, joined by program: PlainSyn, TreeT. -/
import Derived.Test.YtldjakeigjngoaaGreatBOA
import Derived.Test.YtldjakeigjngoaaGreatBRA
set_option linter.unusedVariables false
set_option linter.unusedSimpArgs false
namespace Go.Proofs.YtldjakeigjngoaaGreat
open Go.RowKit Bf
abbrev CoT := Int × Int × Int × List WordT
mutual
inductive TypP where
 | mk (k a lo hi most : Int) (names : List WordT) (parts : List PrtP) (name : WordT)
inductive PrtP where
 | mk (name : WordT) (bare : Bool) (label : List WordT) (wide : Int) (co : CoT) (ty : TypP)
end
def zw : WordT := ([], 0)
def zco : CoT := (0, 0, 0, [])
def ztP : TypP := .mk 0 0 0 0 0 [] [] zw
def atP (a : Int) : TypP := .mk 0 a 0 0 0 [] [] zw
def p0P (t : TypP) : PrtP := .mk zw false [] 0 zco t
def wFloor : List UInt8 := [102, 108, 111, 111, 114]
def wFirst : List UInt8 := [102, 105, 114, 115, 116]
def wCount : List UInt8 := [99, 111, 117, 110, 116]
def wBool : List UInt8 := [98, 111, 111, 108]
def wInt : List UInt8 := [105, 110, 116]
def wText : List UInt8 := [116, 101, 120, 116]
def wEnum : List UInt8 := [101, 110, 117, 109]
def wList : List UInt8 := [108, 105, 115, 116]
def wOpt : List UInt8 := [111, 112, 116]
def wRef : List UInt8 := [114, 101, 102]
def wRecord : List UInt8 := [114, 101, 99, 111, 114, 100]
def wUnion : List UInt8 := [117, 110, 105, 111, 110]
def wLevels : List UInt8 := [108, 101, 118, 101, 108, 115]
def wOrder : List UInt8 := [111, 114, 100, 101, 114]
def wType : List UInt8 := [116, 121, 112, 101]
def wRoot : List UInt8 := [114, 111, 111, 116]
section
variable (l : List TokT)
def numCu (c : CurT) : CurT := if takT l c 2 = true then nextT l c else wrongT l c
def namW (c : CurT) : WordT := ((namTk l c).2.2.2.1, (namTk l c).2.1)
def kwC (c : CurT) (t : List UInt8) : CurT := if isT l c 1 t = true then nextT l c else wrongT l c
def labGo : Nat → CurT → List WordT → List WordT × CurT
 | 0, c, x => (x, c)
 | n + 1, c, x => if isT l c 4 [43] = true then labGo n (namCu l (nextT l c)) (x ++ [namW l (nextT l c)]) else (x, c)
def labP (c : CurT) : List WordT × CurT := labGo l l.length (namCu l c) [namW l c]
def num1P (c : CurT) : Int × CurT := (numN l (needT l c [40]), needT l (numCu l (needT l c [40])) [41])
def coK (c : CurT) : Int × Int × CurT :=
 if isT l c 1 wFloor = true then (1, num1P l (nextT l c))
 else if isT l c 1 wFirst = true then (2, num1P l (nextT l c))
 else if isT l c 1 wCount = true then (3, 0, nextT l c)
 else if (peekT l c).1 = 1 then (0, 0, failT l c 9)
 else (0, 0, wrongT l c)
def atL (c : CurT) : List WordT × CurT := if isT l c 4 [64] = true then labP l (nextT l c) else ([], c)
def coP (c : CurT) : CoT × CurT :=
 (((coK l c).1, (coK l c).2.1, (peekT l c).2.1, (atL l (coK l c).2.2).1), (atL l (coK l c).2.2).2)
def widP (c : CurT) : Int × CurT := if isT l c 4 [35] = true then (numN l (nextT l c), numCu l (nextT l c)) else (0, c)
def seeP (c : CurT) : CoT × CurT := if isT l c 4 [126] = true then coP l (nextT l c) else (zco, c)
def mkP (c : CurT) : (List WordT × Int × CoT) × CurT :=
 (((atL l c).1, (widP l (atL l c).2).1, (seeP l (widP l (atL l c).2).2).1), (seeP l (widP l (atL l c).2).2).2)
def withM (w : WordT) (m : List WordT × Int × CoT) (t : TypP) : PrtP := .mk w false m.1 m.2.1 m.2.2 t
def fldP (kd : CurT → TypP × CurT) (c : CurT) : PrtP × CurT :=
 let r := kd (needT l (namCu l c) [58])
 (withM (namW l c) (mkP l r.2).1 r.1, (mkP l r.2).2)
def tagP (kd : CurT → TypP × CurT) (c : CurT) : PrtP × CurT :=
 if isT l (namCu l c) 4 [40] = true then
  let r := kd (nextT l (namCu l c))
  (withM (namW l c) (mkP l (needT l r.2 [41])).1 r.1, (mkP l (needT l r.2 [41])).2)
 else (.mk (namW l c) true [] 0 zco ztP, namCu l c)
section
variable {α : Type}
def lstGo (one : CurT → α → α × CurT) (e : List UInt8) : Nat → CurT → α → α × CurT
 | 0, c, x => (x, c)
 | n + 1, c, x => if c.e ≠ 0 then (x, c) else if isT l (one c x).2 4 e = true then ((one c x).1, nextT l (one c x).2) else lstGo one e n (needT l (one c x).2 [44]) (one c x).1
def lstP (one : CurT → α → α × CurT) (e : List UInt8) (none : Bool) (c : CurT) (x : α) : α × CurT :=
 if none = true ∧ isT l c 4 e = true then (x, nextT l c) else lstGo l one e (l.length + 1) c x
end
def addP {α : Type} (f : CurT → α × CurT) (c : CurT) (x : List α) : List α × CurT := (x ++ [(f c).1], (f c).2)
def nam1 (c : CurT) : WordT × CurT := (namW l c, namCu l c)
def namsP (e : List UInt8) (c : CurT) : List WordT × CurT := lstP l (addP (nam1 l)) e false c []
def prtsP (one : CurT → PrtP × CurT) (none : Bool) (c : CurT) : List PrtP × CurT := lstP l (addP one) [125] none (needT l c [123]) []
def bodP (kd : CurT → TypP × CurT) (w : List UInt8) (a : Int) (c : CurT) : Bool × TypP × CurT :=
 if w = wBool then (true, .mk 1 a 0 0 0 [] [] zw, c)
 else if w = wInt then
  let c1 := needT l c [40]
  let c2 := needT l (numCu l c1) [46, 46]
  (true, .mk 2 a (numN l c1) (numN l c2) 0 [] [] zw, needT l (numCu l c2) [41])
 else if w = wText then (true, .mk 3 a 0 0 (num1P l c).1 [] [] zw, (num1P l c).2)
 else if w = wEnum then
  let r := namsP l [41] (needT l c [40])
  (true, .mk 4 a 0 0 0 r.1 [] zw, r.2)
 else if w = wList then
  let r := kd (needT l c [40])
  let c2 := needT l r.2 [44]
  (true, .mk 5 a 0 0 (numN l c2) [] [p0P r.1] zw, needT l (numCu l c2) [41])
 else if w = wOpt then
  let r := kd (needT l c [40])
  (true, .mk 6 a 0 0 0 [] [p0P r.1] zw, needT l r.2 [41])
 else if w = wRef then
  let c1 := needT l c [40]
  (true, .mk 9 a 0 0 0 [] [] (namW l c1), needT l (namCu l c1) [41])
 else if w = wRecord then
  let r := prtsP l (fldP l kd) true c
  (true, .mk 7 a 0 0 0 [] r.1 zw, r.2)
 else if w = wUnion then
  let r := prtsP l (tagP l kd) false c
  (true, .mk 8 a 0 0 0 [] r.1 zw, r.2)
 else (false, atP a, c)
def deepT (c : CurT) : CurT := ⟨c.i, c.d + 1, c.e, c.a⟩
def kndB (kd : CurT → TypP × CurT) (c : CurT) : TypP × CurT :=
 if takT l (deepT c) 1 = true then
  let r := bodP l kd (peekT l (deepT c)).2.2.2.1 (peekT l c).2.1 (nextT l (deepT c))
  (r.2.1, leaveT (if r.1 = true then r.2.2 else failAtT r.2.2 9 (peekT l (deepT c)).2.1))
 else (atP (peekT l c).2.1, leaveT (wrongT l (deepT c)))
def kndP : Nat → CurT → TypP × CurT
 | 0, c => (atP (peekT l c).2.1, failT l c 6)
 | n + 1, c => kndB l (kndP n) c
def chnGo : Nat → CurT → WordT → List (WordT × WordT) → List (WordT × WordT) × CurT
 | 0, c, _, x => (x, c)
 | n + 1, c, lo, x => if isT l (namCu l c) 4 [60] = true then chnGo n (nextT l (namCu l c)) (namW l c) (x ++ [(lo, namW l c)]) else (x ++ [(lo, namW l c)], namCu l c)
def chnP (c : CurT) : List (WordT × WordT) × CurT := chnGo l (l.length + 1) (needT l (namCu l c) [60]) (namW l c) []
def addC (c : CurT) (x : List (WordT × WordT)) : List (WordT × WordT) × CurT := (x ++ (chnP l c).1, (chnP l c).2)
def ordP (c : CurT) : List (WordT × WordT) × CurT :=
 if isT l c 1 wOrder = true then lstP l (addC l) [125] true (needT l (nextT l c) [123]) [] else ([], c)
def typsGo : Nat → CurT → List (WordT × TypP) → List (WordT × TypP) × CurT
 | 0, c, x => (x, c)
 | n + 1, c, x => if isT l c 1 wType = true then
  let c1 := nextT l c
  let r := kndP l 24 (needT l (namCu l c1) [61])
  typsGo n r.2 (x ++ [(namW l c1, r.1)]) else (x, c)
structure SchP where
 lv : List WordT
 od : List (WordT × WordT)
 ty : List (WordT × TypP)
 rt : TypP
def schP (c : CurT) : SchP × CurT :=
 let r1 := namsP l [125] (needT l (kwC l c wLevels) [123])
 let r2 := ordP l r1.2
 let r3 := typsGo l (l.length + 1) r2.2 []
 let r4 := kndP l 24 (kwC l r3.2 wRoot)
 (⟨r1.1, r2.1, r3.1, r4.1⟩, r4.2)
def endC (c : CurT) : CurT := if c.e = 0 ∧ (peekT l c).1 ≠ 0 then failT l c 4 else c
end
def cur0 : CurT := ⟨0, 0, 0, 0⟩
def zsP : SchP := ⟨[], [], [], ztP⟩
def typR (s : List UInt8) : TypP × Int × Int :=
 if (scanR s).2.1 ≠ 0 then (ztP, (scanR s).2.1, (scanR s).2.2)
 else
  let r := kndP (scanR s).1 24 cur0
  let c := endC (scanR s).1 r.2
  if c.e ≠ 0 then (ztP, c.e, c.a) else (r.1, c.e, c.a)
def schR (s : List UInt8) : SchP × Int × Int :=
 if (scanR s).2.1 ≠ 0 then (zsP, (scanR s).2.1, (scanR s).2.2)
 else
  let r := schP (scanR s).1 cur0
  let c := endC (scanR s).1 r.2
  if c.e ≠ 0 then (zsP, c.e, c.a) else (r.1, c.e, c.a)
/-! ### Where a reading leads -/
structure Adv (l : List TokT) (c c' : CurT) : Prop where
 ok : CurOk l c'
 d : c'.d = c.d
 i : c.i ≤ c'.i
 bad : c.e ≠ 0 → c' = c
 za : c.e = 0 → c.a = 0 → c'.e = 0 → c'.a = 0
section
variable {l : List TokT} {c c' c'' : CurT} (hl : TokOk l)
theorem Adv.refl (h : CurOk l c) : Adv l c c := ⟨h, rfl, Int.le_refl _, fun _ => rfl, fun _ h _ => h⟩
theorem Adv.trans (h : Adv l c c') (h' : Adv l c' c'') : Adv l c c'' := by
 refine ⟨h'.ok, h'.d.trans h.d, Int.le_trans h.i h'.i, fun he => ?_, fun he ha h2 => ?_⟩
 · have e1 := h.bad he
   have e2 := h'.bad (by rw [e1]; exact he)
   rw [e2, e1]
 · by_cases h1 : c'.e = 0
   · exact h'.za h1 (h.za he ha h1) h2
   · rw [h'.bad h1] at h2; exact absurd h2 h1
theorem Adv.failAt (h : CurOk l c) (e a : Int) : Adv l c (failAtT c e a) := by
 refine ⟨h.failAt e a, ?_, ?_, fun he => ?_, fun h0 h1 h2 => ?_⟩
 · unfold failAtT; split <;> rfl
 · unfold failAtT; split <;> exact Int.le_refl _
 · unfold failAtT; rw [if_neg (fun hn => he hn.1)]
 · unfold failAtT at h2 ⊢
   split
   · rename_i hc; rw [if_pos hc] at h2; exact absurd h2 hc.2
   · exact h1
theorem Adv.fail (h : CurOk l c) (e : Int) : Adv l c (failT l c e) := .failAt h e _
theorem Adv.wrong (h : CurOk l c) : Adv l c (wrongT l c) := .fail h _
include hl in
theorem Adv.next (h : CurOk l c) : Adv l c (nextT l c) := by
 refine ⟨h.next hl, ?_, ?_, fun he => ?_, fun h0 h1 h2 => ?_⟩
 · unfold nextT; split <;> rfl
 · unfold nextT; split
   · exact Int.le_refl _
   · simp only; omega
 · unfold nextT; rw [peekT_bad l c he]; simp
 · unfold nextT; split <;> exact h1
include hl in
theorem Adv.need (h : CurOk l c) (t : List UInt8) (ht : t ≠ []) : Adv l c (needT l c t) := by
 unfold needT; split
 · exact .next hl h
 · exact .fail h _
include hl in
theorem Adv.num (h : CurOk l c) : Adv l c (numCu l c) := by
 unfold numCu; split
 · exact .next hl h
 · exact .wrong h
include hl in
theorem Adv.nam (h : CurOk l c) : Adv l c (namCu l c) := by
 unfold namCu; split
 · exact .next hl h
 · exact .wrong h
include hl in
theorem Adv.kw (h : CurOk l c) (t : List UInt8) : Adv l c (kwC l c t) := by
 unfold kwC; split
 · exact .next hl h
 · exact .wrong h
include hl in
theorem next_lt (h : CurOk l c) {k : Int} {t : List UInt8} (hb : isT l c k t = true) (hk : k ≠ 0) : c.e = 0 ∧ nextT l c = ⟨c.i + 1, c.d, c.e, c.a⟩ ∧ c.i + 1 < l.length := by
 have hp : (peekT l c).1 = k := by unfold isT at hb; simp only [Bool.and_eq_true, decide_eq_true_eq] at hb; exact hb.1
 have he : c.e = 0 := by
  apply Classical.byContradiction; intro hn
  rw [peekT_bad l c hn] at hp; exact hk hp.symm
 have hn : nextT l c = ⟨c.i + 1, c.d, c.e, c.a⟩ := by unfold nextT; rw [if_neg (by rw [hp]; exact hk)]
 have := (h.next hl).i1
 rw [hn] at this
 exact ⟨he, hn, this⟩
include hl in
theorem labGo_adv : ∀ (n : Nat) {c : CurT} (_ : CurOk l c) (x : List WordT), Adv l c (labGo l n c x).2
 | 0, c, h, x => .refl h
 | n + 1, c, h, x => by
  unfold labGo; split
  · have h1 := Adv.next hl h
    have h2 := Adv.nam hl h1.ok
    exact (h1.trans h2).trans (labGo_adv n h2.ok _)
  · exact .refl h
include hl in
theorem Adv.lab (h : CurOk l c) : Adv l c (labP l c).2 := by
 have h2 := Adv.nam hl h
 exact h2.trans (labGo_adv hl _ h2.ok _)
include hl in
theorem Adv.num1 (h : CurOk l c) : Adv l c (num1P l c).2 := by
 have h1 := Adv.need hl h [40] (by simp)
 have h2 := Adv.num hl h1.ok
 exact (h1.trans h2).trans (.need hl h2.ok _ (by simp))
include hl in
theorem Adv.coK (h : CurOk l c) : Adv l c (coK l c).2.2 := by
 have h1 := Adv.next hl h
 unfold Go.Proofs.YtldjakeigjngoaaGreat.coK
 split
 · exact h1.trans (.num1 hl h1.ok)
 · split
   · exact h1.trans (.num1 hl h1.ok)
   · split
     · exact h1
     · split
       · exact .fail h _
       · exact .wrong h
include hl in
theorem Adv.atL (h : CurOk l c) : Adv l c (atL l c).2 := by
 unfold Go.Proofs.YtldjakeigjngoaaGreat.atL; split
 · have h1 := Adv.next hl h
   exact h1.trans (.lab hl h1.ok)
 · exact .refl h
include hl in
theorem Adv.coP (h : CurOk l c) : Adv l c (coP l c).2 := by
 have h1 := Adv.coK hl h
 exact h1.trans (.atL hl h1.ok)
include hl in
theorem Adv.wid (h : CurOk l c) : Adv l c (widP l c).2 := by
 unfold widP; split
 · have h1 := Adv.next hl h
   exact h1.trans (.num hl h1.ok)
 · exact .refl h
include hl in
theorem Adv.see (h : CurOk l c) : Adv l c (seeP l c).2 := by
 unfold seeP; split
 · have h1 := Adv.next hl h
   exact h1.trans (.coP hl h1.ok)
 · exact .refl h
include hl in
theorem Adv.mk' (h : CurOk l c) : Adv l c (mkP l c).2 := by
 have h1 := Adv.atL hl h
 have h2 := Adv.wid hl h1.ok
 exact (h1.trans h2).trans (.see hl h2.ok)
def KdAdv (l : List TokT) (d : Int) (kd : CurT → TypP × CurT) : Prop := ∀ c, CurOk l c → c.d = d → Adv l c (kd c).2
variable {kd : CurT → TypP × CurT}
include hl in
theorem Adv.fld (h : CurOk l c) (hk : KdAdv l c.d kd) : Adv l c (fldP l kd c).2 := by
 have h1 := Adv.nam hl h
 have h2 := h1.trans (Adv.need hl h1.ok [58] (by simp))
 have h3 := h2.trans (hk _ h2.ok h2.d)
 exact h3.trans (.mk' hl h3.ok)
include hl in
theorem Adv.tag (h : CurOk l c) (hk : KdAdv l c.d kd) : Adv l c (tagP l kd c).2 := by
 have h1 := Adv.nam hl h
 unfold tagP; split
 · have h2 := h1.trans (Adv.next hl h1.ok)
   have h3 := h2.trans (hk _ h2.ok h2.d)
   have h4 := h3.trans (Adv.need hl h3.ok [41] (by simp))
   exact h4.trans (.mk' hl h4.ok)
 · exact h1
include hl in
theorem lstGo_adv {α : Type} {one : CurT → α → α × CurT} {e : List UInt8} : ∀ (n : Nat) {c : CurT} (_ : CurOk l c) (x : α) (_ : ∀ c' x, CurOk l c' → c'.d = c.d → Adv l c' (one c' x).2), Adv l c (lstGo l one e n c x).2
 | 0, c, h, x, _ => .refl h
 | n + 1, c, h, x, ho => by
  unfold lstGo; split
  · exact .refl h
  · have h1 := ho c x h rfl
    split
    · exact h1.trans (.next hl h1.ok)
    · have h2 := h1.trans (Adv.need hl h1.ok [44] (by simp))
      exact h2.trans (lstGo_adv n h2.ok _ fun c' x hc hd => ho c' x hc (hd.trans h2.d))
include hl in
theorem Adv.lst {α : Type} {one : CurT → α → α × CurT} {e : List UInt8} {b : Bool} (h : CurOk l c) (x : α) (ho : ∀ c' x, CurOk l c' → c'.d = c.d → Adv l c' (one c' x).2) : Adv l c (lstP l one e b c x).2 := by
 unfold lstP; split
 · exact .next hl h
 · exact lstGo_adv hl _ h x ho
include hl in
theorem Adv.nams (h : CurOk l c) (e : List UInt8) : Adv l c (namsP l e c).2 := .lst hl h _ fun c' _ hc _ => .nam hl hc
include hl in
theorem Adv.prts {one : CurT → PrtP × CurT} {b : Bool} (h : CurOk l c) (ho : ∀ c', CurOk l c' → c'.d = c.d → Adv l c' (one c').2) : Adv l c (prtsP l one b c).2 := by
 have h1 := Adv.need hl h [123] (by simp)
 exact h1.trans (.lst hl h1.ok _ fun c' _ hc hd => ho c' hc (hd.trans h1.d))
include hl in
theorem Adv.bod (h : CurOk l c) (hk : KdAdv l c.d kd) (w : List UInt8) (a : Int) : Adv l c (bodP l kd w a c).2.2 := by
 have n1 := Adv.need hl h [40] (by simp)
 have hk' : ∀ {c' : CurT}, Adv l c c' → KdAdv l c'.d kd := fun h c' hc hd => hk c' hc (hd.trans h.d)
 unfold bodP
 split
 · exact .refl h
 split
 · have h2 := n1.trans (Adv.num hl n1.ok)
   have h3 := h2.trans (Adv.need hl h2.ok [46, 46] (by simp))
   have h4 := h3.trans (Adv.num hl h3.ok)
   exact h4.trans (.need hl h4.ok _ (by simp))
 split
 · exact .num1 hl h
 split
 · exact n1.trans (.nams hl n1.ok _)
 split
 · have h2 := n1.trans (hk _ n1.ok n1.d)
   have h3 := h2.trans (Adv.need hl h2.ok [44] (by simp))
   have h4 := h3.trans (Adv.num hl h3.ok)
   exact h4.trans (.need hl h4.ok _ (by simp))
 split
 · have h2 := n1.trans (hk _ n1.ok n1.d)
   exact h2.trans (.need hl h2.ok _ (by simp))
 split
 · have h2 := n1.trans (Adv.nam hl n1.ok)
   exact h2.trans (.need hl h2.ok _ (by simp))
 split
 · exact .prts hl h fun c' hc hd => .fld hl hc (fun c2 h2 hd2 => hk c2 h2 (hd2.trans hd))
 split
 · exact .prts hl h fun c' hc hd => .tag hl hc (fun c2 h2 hd2 => hk c2 h2 (hd2.trans hd))
 · exact .refl h
theorem CurOk.deep (h : CurOk l c) (hd : c.d < 24) : CurOk l (deepT c) := by
 have := h.d0
 exact ⟨h.i0, h.i1, by simp only [deepT]; omega, by simp only [deepT]; omega⟩
theorem Adv.leave (h : CurOk l c) (h' : Adv l (deepT c) c') : Adv l c (leaveT c') := by
 have hd : c'.d = c.d + 1 := h'.d
 have h0 := h.d0
 refine ⟨h'.ok.leave, ?_, h'.i, fun he => ?_, fun h1 h2 h3 => h'.za h1 h2 h3⟩
 · simp only [leaveT]; omega
 · have := h'.bad he
   rw [this]
   unfold leaveT deepT
   simp only
   rw [show max (c.d + 1 - 1) 0 = c.d by omega]
include hl in
theorem Adv.kndB (h : CurOk l c) (hd : c.d < 24) (hk : KdAdv l (c.d + 1) kd) : Adv l c (kndB l kd c).2 := by
 have h1 := h.deep hd
 unfold Go.Proofs.YtldjakeigjngoaaGreat.kndB; split
 · have h2 := Adv.next hl h1
   have h3 := h2.trans (Adv.bod hl h2.ok (w := (peekT l (deepT c)).2.2.2.1) (a := (peekT l c).2.1) (fun c' hc hd => hk c' hc (hd.trans h2.d)))
   refine .leave h ?_
   split
   · exact h3
   · exact h3.trans (.failAt h3.ok _ _)
 · exact .leave h (.wrong h1)
include hl in
theorem knd_adv : ∀ (n : Nat) (d : Int), d + n = 24 → KdAdv l d (kndP l n)
 | 0, d, h => fun c hc hd => .fail hc _
 | n + 1, d, h => fun c hc hd => .kndB hl hc (by omega) (by rw [hd]; exact knd_adv n (d + 1) (by omega))
include hl in
theorem chnGo_adv : ∀ (n : Nat) {c : CurT} (_ : CurOk l c) (lo : WordT) (x : List (WordT × WordT)), Adv l c (chnGo l n c lo x).2
 | 0, c, h, lo, x => .refl h
 | n + 1, c, h, lo, x => by
  have h1 := Adv.nam hl h
  unfold chnGo; split
  · have h2 := h1.trans (Adv.next hl h1.ok)
    exact h2.trans (chnGo_adv n h2.ok _ _)
  · exact h1
include hl in
theorem Adv.chn (h : CurOk l c) : Adv l c (chnP l c).2 := by
 have h1 := Adv.nam hl h
 have h2 := h1.trans (Adv.need hl h1.ok [60] (by simp))
 exact h2.trans (chnGo_adv hl _ h2.ok _ _)
include hl in
theorem Adv.ord (h : CurOk l c) : Adv l c (ordP l c).2 := by
 unfold ordP; split
 · have h1 := Adv.next hl h
   have h2 := h1.trans (Adv.need hl h1.ok [123] (by simp))
   exact h2.trans (.lst hl h2.ok _ fun c' _ hc _ => .chn hl hc)
 · exact .refl h
include hl in
theorem typsGo_adv : ∀ (n : Nat) {c : CurT} (_ : CurOk l c) (_ : c.d = 0) (x : List (WordT × TypP)), Adv l c (typsGo l n c x).2
 | 0, c, h, _, x => .refl h
 | n + 1, c, h, h0, x => by
  unfold typsGo; split
  · have h1 := Adv.next hl h
    have h2 := h1.trans (Adv.nam hl h1.ok)
    have h3 := h2.trans (Adv.need hl h2.ok [61] (by simp))
    have h4 := h3.trans (knd_adv hl 24 0 (by omega) _ h3.ok (h3.d.trans h0))
    exact h4.trans (typsGo_adv n h4.ok (h4.d.trans h0) _)
  · exact .refl h
include hl in
theorem Adv.sch (h : CurOk l c) (h0 : c.d = 0) : Adv l c (schP l c).2 := by
 have h1 := Adv.kw hl h wLevels
 have h2 := h1.trans (Adv.need hl h1.ok [123] (by simp))
 have h3 := h2.trans (Adv.nams hl h2.ok [125])
 have h4 := h3.trans (Adv.ord hl h3.ok)
 have h5 := h4.trans (typsGo_adv hl (l.length + 1) h4.ok (h4.d.trans h0) [])
 have h6 := h5.trans (Adv.kw hl h5.ok wRoot)
 exact h6.trans (knd_adv hl 24 0 (by omega) _ h6.ok (h6.d.trans h0))
end
structure WsA where
 p : Option Addr
 c : Nat
 l : List WordT
def wsV (x : WsA) : Value := .slice x.p x.l.length x.c
def ws0 : WsA := ⟨none, 0, []⟩
mutual
inductive TypA where
 | mk (k a lo hi most : Int) (ns : WsA) (pp : Option Addr) (cp : Nat) (parts : List PrtA) (name : WordT)
inductive PrtA where
 | mk (name : WordT) (bare : Bool) (lab : WsA) (wide : Int) (ck cn ca : Int) (cl : WsA) (ty : TypA)
end
def typV : TypA → List Value
 | .mk k a lo hi most ns pp cp parts nm => [.int .i64 k, .int .i64 a, .int .i64 lo, .int .i64 hi, .int .i64 most, wsV ns, .slice pp parts.length cp, S nm.1, .int .i64 nm.2]
def prtV : PrtA → List Value
 | .mk nm bare lab wide ck cn ca cl ty => [S nm.1, .int .i64 nm.2, .bool bare, wsV lab, .int .i64 wide, .int .i64 ck, .int .i64 cn, .int .i64 ca, wsV cl] ++ typV ty
theorem typV_len (x : TypA) : (typV x).length = 9 := by cases x; rfl
theorem prtV_len (x : PrtA) : (prtV x).length = 18 := by cases x; simp only [prtV, List.length_append, typV_len]; rfl
mutual
def domT : TypA → Nat → Prop
 | .mk _ _ _ _ _ ns pp _ parts _, b => inSl ns.p b ∨ inSl pp b ∨ domPs parts b
def domP : PrtA → Nat → Prop
 | .mk _ _ lab _ _ _ _ cl ty, b => inSl lab.p b ∨ inSl cl.p b ∨ domT ty b
def domPs : List PrtA → Nat → Prop
 | [], _ => False
 | x :: l, b => domP x b ∨ domPs l b
end
theorem domPs_app {b : Nat} : ∀ {l k : List PrtA}, domPs (l ++ k) b → domPs l b ∨ domPs k b
 | [], k, h => .inr h
 | x :: l, k, h => by
  simp only [List.cons_append, domPs] at h ⊢
  rcases h with h | h
  · exact .inl (.inl h)
  · rcases domPs_app h with h | h
    · exact .inl (.inr h)
    · exact .inr h
theorem domPs_one {b : Nat} {z : PrtA} (h : domPs [z] b) : domP z b := by simpa [domPs] using h
def WsJ (w : World) (x : WsA) : Prop := x.l.length ≤ maxLen ∧ IsSl w 2 x.p x.l.length (x.l.flatMap wordV)
theorem WsJ.nil (w : World) : WsJ w ws0 := ⟨Nat.zero_le _, IsSl.nil _ _ _⟩
theorem WsJ.bl {w w' : World} {x : WsA} (hb : Below w.heap.size w w') (h : WsJ w x) : WsJ w' x := ⟨h.1, IsSl.bl _ _ _ _ w w' hb h.2⟩
theorem WsJ.loc {w w' : World} {x : WsA} (hb : ∀ b, inSl x.p b → w'.heap[b]? = w.heap[b]?) (h : WsJ w x) : WsJ w' x := ⟨h.1, h.2.loc hb⟩
mutual
def TypJ (w : World) : TypA → Prop
 | .mk _ _ _ _ _ ns pp _ parts _ => WsJ w ns ∧ parts.length ≤ maxLen ∧ IsSl w 18 pp parts.length (parts.flatMap prtV) ∧ PrtsJ w parts
def PrtJ (w : World) : PrtA → Prop
 | .mk _ _ lab _ _ _ _ cl ty => WsJ w lab ∧ WsJ w cl ∧ TypJ w ty
def PrtsJ (w : World) : List PrtA → Prop
 | [] => True
 | x :: l => PrtJ w x ∧ PrtsJ w l
end
mutual
theorem TypJ.bl' {w w' : World} (hb : Below w.heap.size w w') : ∀ (t : TypA), TypJ w t → TypJ w' t
 | .mk _ _ _ _ _ ns pp _ parts _, h => by
  simp only [TypJ] at h ⊢
  exact ⟨h.1.bl hb, h.2.1, IsSl.bl _ _ _ _ w w' hb h.2.2.1, PrtsJ.bl' hb parts h.2.2.2⟩
theorem PrtJ.bl' {w w' : World} (hb : Below w.heap.size w w') : ∀ (t : PrtA), PrtJ w t → PrtJ w' t
 | .mk _ _ lab _ _ _ _ cl ty, h => by
  simp only [PrtJ] at h ⊢
  exact ⟨h.1.bl hb, h.2.1.bl hb, TypJ.bl' hb ty h.2.2⟩
theorem PrtsJ.bl' {w w' : World} (hb : Below w.heap.size w w') : ∀ (t : List PrtA), PrtsJ w t → PrtsJ w' t
 | [], _ => by simp only [PrtsJ]
 | x :: l, h => by
  simp only [PrtsJ] at h ⊢
  exact ⟨PrtJ.bl' hb x h.1, PrtsJ.bl' hb l h.2⟩
end
theorem TypJ.bl (t : TypA) : Bl fun w => TypJ w t := fun _ _ hb h => TypJ.bl' hb t h
mutual
theorem TypJ.loc {w w' : World} : ∀ (t : TypA), (∀ b, domT t b → w'.heap[b]? = w.heap[b]?) → TypJ w t → TypJ w' t
 | .mk _ _ _ _ _ ns pp _ parts _, hb, h => by
  simp only [TypJ] at h ⊢
  simp only [domT] at hb
  exact ⟨h.1.loc fun b hx => hb b (.inl hx), h.2.1, h.2.2.1.loc fun b hx => hb b (.inr (.inl hx)), PrtsJ.loc parts (fun b hx => hb b (.inr (.inr hx))) h.2.2.2⟩
theorem PrtJ.loc {w w' : World} : ∀ (t : PrtA), (∀ b, domP t b → w'.heap[b]? = w.heap[b]?) → PrtJ w t → PrtJ w' t
 | .mk _ _ lab _ _ _ _ cl ty, hb, h => by
  simp only [PrtJ] at h ⊢
  simp only [domP] at hb
  exact ⟨h.1.loc fun b hx => hb b (.inl hx), h.2.1.loc fun b hx => hb b (.inr (.inl hx)), TypJ.loc ty (fun b hx => hb b (.inr (.inr hx))) h.2.2⟩
theorem PrtsJ.loc {w w' : World} : ∀ (t : List PrtA), (∀ b, domPs t b → w'.heap[b]? = w.heap[b]?) → PrtsJ w t → PrtsJ w' t
 | [], _, _ => by simp only [PrtsJ]
 | x :: l, hb, h => by
  simp only [PrtsJ] at h ⊢
  simp only [domPs] at hb
  exact ⟨PrtJ.loc x (fun b hx => hb b (.inl hx)) h.1, PrtsJ.loc l (fun b hx => hb b (.inr hx)) h.2⟩
end
theorem PrtsJ.app {w : World} : ∀ {l k : List PrtA}, PrtsJ w l → PrtsJ w k → PrtsJ w (l ++ k)
 | [], k, _, h => h
 | x :: l, k, h1, h2 => by
  simp only [PrtsJ, List.cons_append] at h1 ⊢
  exact ⟨h1.1, h1.2.app h2⟩
theorem PrtsJ.get {w : World} : ∀ {l : List PrtA} {i : Nat} {x : PrtA}, PrtsJ w l → l[i]? = some x → PrtJ w x
 | y :: l, 0, x, h, hi => by
  simp only [PrtsJ] at h
  simp only [List.getElem?_cons_zero, Option.some.injEq] at hi
  subst hi; exact h.1
 | y :: l, i + 1, x, h, hi => by
  simp only [PrtsJ] at h
  simp only [List.getElem?_cons_succ] at hi
  exact h.2.get hi
def typE (z : TypA) : En := ⟨domT z, fun w => TypJ w z, fun _ _ hb h => TypJ.loc z hb h⟩
def prtE (z : PrtA) : En := ⟨domP z, fun w => PrtJ w z, fun _ _ hb h => PrtJ.loc z hb h⟩
def prtsE (l : List PrtA) : En := ⟨domPs l, fun w => PrtsJ w l, fun _ _ hb h => PrtsJ.loc l hb h⟩
def wsE (x : WsA) : En := ⟨inSl x.p, fun w => WsJ w x, fun _ _ hb h => h.loc hb⟩
mutual
def plT : TypA → TypP
 | .mk k a lo hi most ns _ _ parts nm => .mk k a lo hi most ns.l (plPs parts) nm
def plP : PrtA → PrtP
 | .mk nm bare lab wide ck cn ca cl ty => .mk nm bare lab.l wide (ck, cn, ca, cl.l) (plT ty)
def plPs : List PrtA → List PrtP
 | [] => []
 | x :: l => plP x :: plPs l
end
theorem plPs_app : ∀ (a b : List PrtA), plPs (a ++ b) = plPs a ++ plPs b
 | [], b => rfl
 | x :: a, b => by simp [plPs, plPs_app a b]
theorem plPs_snoc (zs : List PrtA) (z : PrtA) : plPs (zs ++ [z]) = plPs zs ++ [plP z] := by rw [plPs_app]; rfl
theorem plPs_len : ∀ (a : List PrtA), (plPs a).length = a.length
 | [] => rfl
 | x :: a => by simp [plPs, plPs_len a]
theorem plPs_get : ∀ (a : List PrtA) (i : Nat), (plPs a)[i]? = (a[i]?).map plP
 | [], i => by simp [plPs]
 | x :: a, 0 => by simp [plPs]
 | x :: a, i + 1 => by simp [plPs, plPs_get a i]
def typ0 (a : Int) : TypA := .mk 0 a 0 0 0 ws0 none 0 [] zw
theorem typJ0 (w : World) (a : Int) : TypJ w (typ0 a) := by
 simp only [typ0, TypJ, PrtsJ]
 exact ⟨WsJ.nil w, Nat.zero_le _, IsSl.nil _ _ _, trivial⟩
section
variable {P : Program} {C : Cx} {k : List It} {fr : Fr} {hp : List En}
theorem ws_row {w : World} {e q : Nat} {p : Option Addr} {l : List WordT} (h : w.ownsRow 0 e 2 (.slice p l.length q) l.length (l.flatMap wordV)) : WsJ w ⟨p, q, l⟩ := ⟨ownsRow_le h, holds_isSl h⟩
theorem sy_wsMk {e : TypeId} {p : Option Addr} {q : Nat} {l : List WordT} (h : Sy P C k fr (wsE ⟨p, q, l⟩ :: hp)) : Sy P C k fr (vec e 2 (.slice p l.length q) l.length (l.flatMap wordV) :: hp) :=
 sy_imp (wsE ⟨p, q, l⟩) (fun b hb => by obtain ⟨o, rfl, rfl⟩ := hb; exact rfl) (fun w h => ws_row h) h
theorem sy_ws0 (h : Sy P C k fr (wsE ws0 :: hp)) : Sy P C k fr hp := sy_nothing _ (fun b hb => by obtain ⟨o, h, _⟩ := hb; cases h) (fun w => WsJ.nil w) h
theorem sy_prts0 (h : Sy P C k fr (prtsE [] :: hp)) : Sy P C k fr hp := sy_nothing _ (fun b hb => hb) (fun w => by simp only [prtsE, PrtsJ]) h
theorem sy_typ0 (a : Int) (h : Sy P C k fr (typE (typ0 a) :: hp)) : Sy P C k fr hp := sy_nothing _ (fun b hb => by
 simp only [typE, typ0, ws0, domT, domPs, inSl] at hb
 rcases hb with ⟨o, h, _⟩ | ⟨o, h, _⟩ | h
 · cases h
 · cases h
 · exact h) (fun w => typJ0 w a) h
theorem sy_prtsAdd {l : List PrtA} {z : PrtA} (h : Sy P C k fr (prtsE (l ++ [z]) :: hp)) : Sy P C k fr (prtsE l :: prtE z :: hp) :=
 sy_join _ (fun b hb => (domPs_app hb).imp id domPs_one) (fun w h1 h2 => PrtsJ.app h1 (by simp only [PrtsJ]; exact ⟨h2, trivial⟩)) h
end
end Go.Proofs.YtldjakeigjngoaaGreat