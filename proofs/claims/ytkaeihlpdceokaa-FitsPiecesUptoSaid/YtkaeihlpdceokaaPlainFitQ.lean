/- Plain: the pieces of a document, by recursion and by a stack. -/
import Derived.Test.YtkaeihlpdceokaaPlainDocQ
set_option linter.unusedVariables false
set_option linter.unusedSimpArgs false
namespace Go.Proofs.Ytkaeihlpdceokaa
open Go.RowKit
structure PieT where
 k : Int
 w : Int
 i : Int
 g : Int
 s : List UInt8
def pieV (p : PieT) : List Value := [.int .i64 p.k, .int .i64 p.w, .int .i64 p.i, .int .i64 p.g, S p.s]
def leafP (k : Int) (s : List UInt8) (ind : Int) : PieT := ⟨k, if k = 1 then widthL s else if k = 2 then 1 else 0, ind, 0, if k = 1 then s else []⟩
mutual
def pcsD : DocP → Int → Int → List PieT × Int
 | .mk k n s l, ind, g =>
  if k < 5 then ([leafP k s ind], g)
  else if k = 7 then (⟨5, 0, ind, g, []⟩ :: ((pcsDs l (ind + n) (g + 1)).1 ++ [⟨6, 0, ind, g, []⟩]), (pcsDs l (ind + n) (g + 1)).2)
  else pcsDs l (ind + n) g
def pcsDs : List DocP → Int → Int → List PieT × Int
 | [], _, g => ([], g)
 | x :: l, ind, g => ((pcsD x ind g).1 ++ (pcsDs l ind (pcsD x ind g).2).1, (pcsDs l ind (pcsD x ind g).2).2)
end
inductive TskT where
 | doc (d : DocA) (ind : Int)
 | shut (ind g : Int)
def tskV : TskT → List Value
 | .doc d i => docV d ++ [.int .i64 i, .bool false, .int .i64 0]
 | .shut i g => [.int .i64 0, .int .i64 0, S [], .slice none 0 0, .int .i64 i, .bool true, .int .i64 g]
theorem tskV_len : ∀ t, (tskV t).length = 7
 | .doc (.mk _ _ _ _ _ _) _ => rfl
 | .shut _ _ => rfl
def pcsT : List TskT → Int → List PieT × Int
 | [], g => ([], g)
 | .doc d i :: T, g => ((pcsD (plD d) i g).1 ++ (pcsT T (pcsD (plD d) i g).2).1, (pcsT T (pcsD (plD d) i g).2).2)
 | .shut i g0 :: T, g => (⟨6, 0, i, g0, []⟩ :: (pcsT T g).1, (pcsT T g).2)
theorem pcsT_docs : ∀ (l : List DocA) (ind : Int) (T : List TskT) (g : Int),
 pcsT (l.map (fun d => .doc d ind) ++ T) g = ((pcsDs (plDs l) ind g).1 ++ (pcsT T (pcsDs (plDs l) ind g).2).1, (pcsT T (pcsDs (plDs l) ind g).2).2)
 | [], _, _, _ => by simp [plDs, pcsDs]
 | x :: l, ind, T, g => by simp [plDs, pcsDs, pcsT, pcsT_docs l ind T]
theorem pcsT_leaf {k n : Int} {s : List UInt8} {p : Option Addr} {c : Nat} {kids : List DocA} (hk : k < 5) (ind : Int) (T : List TskT) (g : Int) :
 pcsT (.doc (.mk k n s p c kids) ind :: T) g = (leafP k s ind :: (pcsT T g).1, (pcsT T g).2) := by simp [pcsT, plD, pcsD, hk]
theorem pcsT_group {n : Int} {s : List UInt8} {p : Option Addr} {c : Nat} {kids : List DocA} (ind : Int) (T : List TskT) (g : Int) :
 pcsT (.doc (.mk 7 n s p c kids) ind :: T) g = (⟨5, 0, ind, g, []⟩ :: (pcsT (kids.map (fun d => .doc d (ind + n)) ++ .shut ind g :: T) (g + 1)).1, (pcsT (kids.map (fun d => .doc d (ind + n)) ++ .shut ind g :: T) (g + 1)).2) := by
 rw [pcsT_docs]; simp [pcsT, plD, pcsD]
theorem pcsT_cat {k n : Int} {s : List UInt8} {p : Option Addr} {c : Nat} {kids : List DocA} (hk : ¬ k < 5) (h7 : k ≠ 7) (ind : Int) (T : List TskT) (g : Int) :
 pcsT (.doc (.mk k n s p c kids) ind :: T) g = pcsT (kids.map (fun d => .doc d (ind + n)) ++ T) g := by
 rw [pcsT_docs]; simp [pcsT, plD, pcsD, hk, h7]
def wgtT : TskT → Nat
 | .doc d _ => 2 * blkD (plD d)
 | .shut _ _ => 1
def wgtTs (T : List TskT) : Nat := (T.map wgtT).sum
theorem wgt_docs (ind : Int) : ∀ (l : List DocA), wgtTs (l.map fun d => .doc d ind) = 2 * blkDs (plDs l)
 | [] => rfl
 | x :: l => by
  have := wgt_docs ind l
  simp only [wgtTs, List.map_cons, List.sum_cons, wgtT, plDs, blkDs] at this ⊢
  omega
theorem wgt_app (a b : List TskT) : wgtTs (a ++ b) = wgtTs a + wgtTs b := by simp [wgtTs]
def okT : TskT → Prop
 | .doc d i => rightD (plD d) = true ∧ 0 ≤ i ∧ i + 16 * (blkD (plD d) : Int) ≤ 4611686018427387904
 | .shut i _ => 0 ≤ i ∧ i ≤ 4611686018427387904
theorem rightDs_mem {l : List DocP} (h : rightDs l = true) : ∀ x ∈ l, rightD x = true := by
 induction l with
 | nil => intro x hx; cases hx
 | cons y l ih =>
  simp only [rightDs, Bool.and_eq_true] at h
  intro x hx
  rcases List.mem_cons.1 hx with rfl | hx
  · exact h.1
  · exact ih h.2 x hx
theorem ownD_n {k n : Int} {s : List UInt8} {m : Nat} (h : ownD k n s m = true) : 0 ≤ n ∧ n ≤ 16 := by
 unfold ownD at h
 split at h
 · simp at h; omega
 · split at h
   · simp at h; omega
   · split at h
     · simp at h; omega
     · split at h
       · simp at h; omega
       · cases h
theorem ownD_k {k n : Int} {s : List UInt8} {m : Nat} (h : ownD k n s m = true) : 1 ≤ k ∧ k ≤ 7 := by
 unfold ownD at h
 split at h
 · omega
 · split at h
   · omega
   · split at h
     · omega
     · split at h
       · omega
       · cases h
theorem ownD_s {k n : Int} {s : List UInt8} {m : Nat} (h : ownD k n s m = true) (h1 : k ≠ 1) : s = [] := by
 unfold ownD at h
 rw [if_neg h1] at h
 split at h
 · simp at h; exact h.1.1
 · split at h
   · simp at h; exact h.1
   · split at h
     · simp at h; exact h.1.1
     · cases h
theorem okT_kids {k n : Int} {s : List UInt8} {p : Option Addr} {c : Nat} {kids : List DocA} {ind : Int} (h : okT (.doc (.mk k n s p c kids) ind)) : ∀ x ∈ kids, okT (.doc x (ind + n)) := by
 intro x hx
 obtain ⟨h1, h2, h3⟩ := h
 simp only [plD, rightD, Bool.and_eq_true, blkD] at h1 h3
 have hn := ownD_n h1.1
 have hm : plD x ∈ plDs kids := by
  obtain ⟨i, hi⟩ := List.mem_iff_getElem?.1 hx
  have : (plDs kids)[i]? = some (plD x) := by rw [plDs_get, hi]; rfl
  exact List.mem_iff_getElem?.2 ⟨i, this⟩
 have hb := blkDs_mem hm
 refine ⟨rightDs_mem h1.2 _ hm, by omega, by omega⟩
end Go.Proofs.Ytkaeihlpdceokaa