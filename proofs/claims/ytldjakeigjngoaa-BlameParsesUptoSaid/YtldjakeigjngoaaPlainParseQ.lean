/- Plain: an error's text, read. -/
import Derived.Test.YtldjakeigjngoaaBPL
import Derived.Test.YtldjakeigjngoaaPlainBlameQ
import Derived.Lib.CutLaws
import Derived.Lib.IndexLaws
set_option linter.unusedVariables false
set_option linter.unusedSimpArgs false
namespace Bf
open Go.Lib
def stLs : List (List UInt8) := stageT.map (·.data.toList)
def coLs : List (List UInt8) := codeT.map (·.data.toList)
def findL : List (List UInt8) → List UInt8 → Int
 | [], _ => -1
 | x :: l, s => if x = s then 0 else if findL l s = -1 then -1 else findL l s + 1
def colS : List UInt8 := [58, 32]
def atS : List UInt8 := [32, 97, 116, 32]
def blamP (s : List UInt8) : Int × Int × Int × Bool :=
 if 0 ≤ findL stLs (cut s colS).1 ∧ 1 ≤ findL coLs (cut (cut s colS).2.1 atS).1 ∧ (parseS (cut (cut s colS).2.1 atS).2.1).2.1 = 0
 then (findL stLs (cut s colS).1 + 1, findL coLs (cut (cut s colS).2.1 atS).1, (parseS (cut (cut s colS).2.1 atS).2.1).1, true) else (0, 0, 0, false)
def headB (n e : Int) : List UInt8 := (stageB n).data.toList ++ colS ++ (codeB e).data.toList ++ atS
theorem findL_bd : ∀ (l : List (List UInt8)) (s : List UInt8), -1 ≤ findL l s ∧ findL l s < l.length
 | [], s => by simp [findL]
 | x :: l, s => by
  have ih := findL_bd l s
  unfold findL
  simp only [List.length_cons]
  split
  · omega
  · split <;> omega
theorem findL_get : ∀ (l : List (List UInt8)) (s : List UInt8), 0 ≤ findL l s → l[(findL l s).toNat]? = some s
 | [], s, h => by simp [findL] at h
 | x :: l, s, h => by
  have hb := findL_bd l s
  unfold findL at h ⊢
  split
  · rename_i e; simp [e]
  · rename_i e
    rw [if_neg e] at h
    split
    · rename_i e2; rw [if_pos e2] at h; omega
    · rename_i e2
      have ih := findL_get l s (by omega)
      rw [show (findL l s + 1).toNat = (findL l s).toNat + 1 by omega]; simpa using ih
theorem cut_app (a sep b : List UInt8) (c : UInt8) (t : List UInt8) (hs : sep = c :: t) (ha : c ∉ a) : cut (a ++ sep ++ b) sep = (a, b, true) := by
 have hno : NoOcc (a ++ sep ++ b) sep a.length := by
  intro j hj
  cases ho : occAt (a ++ sep ++ b) sep j with
  | false => rfl
  | true =>
   have := occAt_head hs ho
   rw [List.append_assoc, List.getElem?_append_left hj] at this
   exact absurd (List.mem_of_getElem? this) ha
 have hocc : occAt (a ++ sep ++ b) sep a.length = true := by unfold occAt; rw [List.append_assoc, List.drop_left]; simp
 have hi := index_hit hno (by simp) hocc
 unfold cut
 rw [hi, if_pos (by omega)]
 simp only [Int.toNat_natCast, List.append_assoc, List.take_left]
 rw [← List.append_assoc, show a.length + sep.length = (a ++ sep).length by simp, List.drop_left]
theorem cut_join (s sep : List UInt8) (h : (cut s sep).2.2 = true) : s = (cut s sep).1 ++ sep ++ (cut s sep).2.1 := by
 have hge := index_ge s sep
 unfold cut at h ⊢
 split
 · rename_i h0
   rcases index_spec s sep with ⟨h1, _⟩ | ⟨i, h1, h2, h3, _⟩
   · omega
   · rw [h1] at h0 ⊢
     simp only [Int.toNat_natCast]
     unfold occAt at h3
     rw [List.isPrefixOf_iff_prefix] at h3
     obtain ⟨r, hr⟩ := h3
     rw [← List.drop_drop, ← hr, List.drop_left, List.append_assoc, hr, List.take_append_drop]
 · rename_i h0; rw [if_neg h0] at h; cases h
theorem cut_no (s sep : List UInt8) (h : (cut s sep).2.2 = false) : cut s sep = (s, [], false) := by
 unfold cut at h ⊢
 split
 · rename_i h0; rw [if_pos h0] at h; cases h
 · rfl
theorem stage_facts (n : Int) (h : 1 ≤ n ∧ n ≤ 10) : (58 : UInt8) ∉ (stageB n).data.toList ∧ findL stLs (stageB n).data.toList = n - 1 := by
 have key : ∀ k : Fin 10, (58 : UInt8) ∉ (stageB ((k.val : Int) + 1)).data.toList ∧ findL stLs (stageB ((k.val : Int) + 1)).data.toList = (k.val : Int) + 1 - 1 := by decide +kernel
 have := key ⟨(n - 1).toNat, by omega⟩
 simp only at this
 rw [show (((n - 1).toNat : Nat) : Int) + 1 = n by omega] at this
 exact this
theorem code_facts (n : Int) (h : 0 ≤ n ∧ n ≤ 20) : (32 : UInt8) ∉ (codeB n).data.toList ∧ findL coLs (codeB n).data.toList = n := by
 have key : ∀ k : Fin 21, (32 : UInt8) ∉ (codeB (k.val : Int)).data.toList ∧ findL coLs (codeB (k.val : Int)).data.toList = (k.val : Int) := by decide +kernel
 have := key ⟨n.toNat, by omega⟩
 simp only at this
 rw [show ((n.toNat : Nat) : Int) = n by omega] at this
 exact this
theorem parseS_take (l : List UInt8) (x : Int) : parseS l = (x, 0, 0) ↔ ∃ p, takeS l 0 = (x, (l.length : Int), 0, p) := by
 obtain ⟨v, e, f, p, ht⟩ : ∃ v e f p, takeS l 0 = (v, e, f, p) := ⟨_, _, _, _, rfl⟩
 unfold parseS
 rw [ht]
 simp only [ne_eq]
 by_cases hf : f = 0
 · subst hf
   rw [if_neg (by simp)]
   have hle : e ≤ l.length := by
    have h0 : takeS l 0 = takeAt l 0 := takeS_in l 0 (Nat.zero_le _)
    obtain ⟨fr, hfr⟩ : ∃ fr, fr = if (l[0]? == some 45) then 0 + 1 else 0 := ⟨_, rfl⟩
    obtain ⟨a1, a2, a3, a4⟩ := takeAt_ways l 0 _ rfl fr hfr _ rfl
    rw [h0] at ht
    have hrl := runL_le (l.drop fr)
    rw [List.length_drop] at hrl
    by_cases c1 : runL (l.drop fr) = 0
    · by_cases c2 : fr = l.length
      · rw [a1 ⟨c1, c2⟩] at ht; simp at ht
      · rw [a2 ⟨c1, c2⟩] at ht; simp at ht
    · by_cases c3 : l[fr]? = some 48 ∧ (1 < runL (l.drop fr) ∨ (l[0]? == some 45) = true)
      · rw [a3 c1 c3] at ht; simp at ht
      · rw [a4 c1 c3] at ht
        split at ht
        · simp only [Prod.mk.injEq] at ht; omega
        · simp at ht
   by_cases hlt : e < l.length
   · rw [if_pos hlt]
     constructor
     · intro h; simp at h
     · rintro ⟨p', h⟩; simp only [Prod.mk.injEq] at h; omega
   · rw [if_neg hlt]
     have : e = l.length := by omega
     subst this
     constructor
     · intro h; simp only [Prod.mk.injEq] at h; exact ⟨p, by rw [h.1]⟩
     · rintro ⟨p', h⟩; simp only [Prod.mk.injEq] at h; rw [h.1]
 · rw [if_pos hf]
   constructor
   · intro h; simp only [Prod.mk.injEq] at h; exact absurd h.2.1 hf
   · rintro ⟨p', h⟩; simp only [Prod.mk.injEq] at h; exact absurd h.2.2.1 hf
theorem parseS_f0 (l : List UInt8) (h : (parseS l).2.1 = 0) : parseS l = ((parseS l).1, 0, 0) := by
 unfold parseS at h ⊢
 simp only at h ⊢
 split
 · rename_i h1; rw [if_pos h1] at h; exact absurd h h1
 · rename_i h1
   rw [if_neg h1] at h
   split
   · rename_i h2; rw [if_pos h2] at h; simp at h
   · rfl
def hitB (s : List UInt8) (n e : Int) (x : Int) : Prop := (headB n e).length < s.length ∧ s.take (headB n e).length = headB n e ∧ ∃ p, takeS s (headB n e).length = (x, (s.length : Int), 0, p)
theorem hit_parse (s : List UInt8) (n e x : Int) (hn : 1 ≤ n ∧ n ≤ 10) (he : 1 ≤ e ∧ e ≤ 20) (h : hitB s n e x) : blamP s = (n, e, x, true) := by
 obtain ⟨h1, h2, p, h3⟩ := h
 have hs : s = headB n e ++ s.drop (headB n e).length := (List.take_append_drop (headB n e).length s).symm.trans (by rw [h2])
 obtain ⟨pl, hpl⟩ : ∃ pl, s.drop (headB n e).length = pl := ⟨_, rfl⟩
 rw [takeAt_drop s _ (by omega), hpl] at h3
 obtain ⟨v, en, f, q, ht⟩ : ∃ v en f q, takeS pl 0 = (v, en, f, q) := ⟨_, _, _, _, rfl⟩
 rw [ht] at h3
 simp only [Prod.mk.injEq] at h3
 obtain ⟨h4, h5, h6, _⟩ := h3
 subst h6; subst h4
 rw [if_pos rfl] at h5
 have hlen : s.length = (headB n e).length + pl.length := by rw [← hpl, List.length_drop]; omega
 have hp : parseS pl = (v, 0, 0) := (parseS_take pl v).2 ⟨q, by rw [ht]; congr 2; omega⟩
 obtain ⟨s1, s2⟩ := stage_facts n hn
 obtain ⟨c1, c2⟩ := code_facts e (by omega)
 have hs2 : s = (stageB n).data.toList ++ colS ++ ((codeB e).data.toList ++ atS ++ pl) := by rw [hs, hpl]; unfold headB; simp
 have k1 : cut s colS = ((stageB n).data.toList, (codeB e).data.toList ++ atS ++ pl, true) := by rw [hs2]; exact cut_app _ _ _ 58 [32] rfl s1
 have k2 : cut ((codeB e).data.toList ++ atS ++ pl) atS = ((codeB e).data.toList, pl, true) := cut_app _ _ _ 32 [97, 116, 32] rfl c1
 unfold blamP
 rw [k1]; simp only; rw [k2]; simp only
 rw [s2, c2, hp, if_pos ⟨by omega, by omega, rfl⟩]
 rw [show n - 1 + 1 = n by omega]
theorem parse_hit (s : List UInt8) (h : (blamP s).2.2.2 = true) : ∃ n e x, 1 ≤ n ∧ n ≤ 10 ∧ 1 ≤ e ∧ e ≤ 20 ∧ hitB s n e x ∧ blamP s = (n, e, x, true) := by
 unfold blamP at h
 split at h
 · rename_i hc
   obtain ⟨hc1, hc2, hc3⟩ := hc
   have b1 := findL_bd stLs (cut s colS).1
   have b2 := findL_bd coLs (cut (cut s colS).2.1 atS).1
   have g1 := findL_get _ _ hc1
   have g2 := findL_get _ _ (by omega : 0 ≤ findL coLs (cut (cut s colS).2.1 atS).1)
   have l1 : stLs.length = 10 := by decide
   have l2 : coLs.length = 21 := by decide
   rw [l1] at b1; rw [l2] at b2
   have n1 : coLs[(findL coLs []).toNat]? ≠ some [] ∨ findL coLs [] < 1 := .inr (by decide)
   have f1 : (cut s colS).2.2 = true := by
    cases hf : (cut s colS).2.2 with
    | true => rfl
    | false =>
     have := cut_no _ _ hf
     rw [this] at hc2
     exact absurd (show 1 ≤ findL coLs (cut [] atS).1 from hc2) (by decide)
   have f2 : (cut (cut s colS).2.1 atS).2.2 = true := by
    cases hf : (cut (cut s colS).2.1 atS).2.2 with
    | true => rfl
    | false =>
     have := cut_no _ _ hf
     rw [this] at hc3
     exact absurd (show (parseS []).2.1 = 0 from hc3) (by decide)
   have j1 := cut_join _ _ f1
   have j2 := cut_join _ _ f2
   obtain ⟨nm, hnm⟩ : ∃ nm, (cut s colS).1 = nm := ⟨_, rfl⟩
   obtain ⟨rest, hrest⟩ : ∃ rest, (cut s colS).2.1 = rest := ⟨_, rfl⟩
   rw [hnm, hrest] at j1
   rw [hrest] at j2 hc2 hc3 b2 g2 h
   obtain ⟨co, hco⟩ : ∃ co, (cut rest atS).1 = co := ⟨_, rfl⟩
   obtain ⟨pl, hpl⟩ : ∃ pl, (cut rest atS).2.1 = pl := ⟨_, rfl⟩
   rw [hco, hpl] at j2
   rw [hco] at hc2 b2 g2
   rw [hpl] at hc3
   rw [hnm] at hc1 b1 g1
   have hst : (stageB (findL stLs nm + 1)).data.toList = nm := by
    unfold stageB; rw [if_pos ⟨by omega, by omega⟩, show (findL stLs nm + 1 - 1).toNat = (findL stLs nm).toNat by omega]
    unfold stLs at g1 ⊢
    rw [List.getElem?_map] at g1
    obtain ⟨y, hy, he⟩ := Option.map_eq_some_iff.1 g1
    rw [List.getD_eq_getElem?_getD, hy]; exact he
   have hcd : (codeB (findL coLs co)).data.toList = co := by
    unfold codeB; rw [if_pos ⟨by omega, by omega⟩]
    unfold coLs at g2 ⊢
    rw [List.getElem?_map] at g2
    obtain ⟨y, hy, he⟩ := Option.map_eq_some_iff.1 g2
    rw [List.getD_eq_getElem?_getD, hy]; exact he
   have hhead : s = headB (findL stLs nm + 1) (findL coLs co) ++ pl := by
    unfold headB; rw [hst, hcd, j1, j2]; simp
   have hp := parseS_f0 pl hc3
   obtain ⟨p, ht⟩ := (parseS_take pl _).1 hp
   have hne : pl ≠ [] := by rintro rfl; exact absurd hc3 (by decide)
   have hpos : 1 ≤ pl.length := List.length_pos_iff.2 hne
   have hit : hitB s (findL stLs nm + 1) (findL coLs co) (parseS pl).1 := by
    refine ⟨?_, ?_, 0, ?_⟩
    · rw [hhead, List.length_append]; omega
    · rw [hhead, List.take_left]
    · have hl : s.length = (headB (findL stLs nm + 1) (findL coLs co)).length + pl.length := by rw [hhead, List.length_append]
      rw [takeAt_drop s _ (by omega)]
      have hd : s.drop (headB (findL stLs nm + 1) (findL coLs co)).length = pl := by
       conv => lhs; rw [hhead]
       simp
      rw [hd, ht]
      simp only [if_true]
      refine Prod.ext rfl (Prod.ext ?_ rfl)
      show ((headB (findL stLs nm + 1) (findL coLs co)).length : Int) + (pl.length : Int) = (s.length : Int)
      omega
   exact ⟨_, _, _, by omega, by omega, by omega, by omega, hit, hit_parse s _ _ _ ⟨by omega, by omega⟩ ⟨by omega, by omega⟩ hit⟩
 · cases h
theorem hit_text (n e x : Int) (hx : -9223372036854775808 ≤ x ∧ x ≤ 9223372036854775807) (hn : 1 ≤ n ∧ n ≤ 10) (he : 1 ≤ e ∧ e ≤ 20) : blamP (headB n e ++ putL x) = (n, e, x, true) := by
 refine hit_parse _ n e x hn he ?_
 have hp := parseS_putL x hx
 obtain ⟨p, ht⟩ := (parseS_take _ _).1 hp
 have hne : putL x ≠ [] := by
  intro h0; rw [h0] at hp; exact absurd (show (parseS []).2.1 = 0 by rw [hp]) (by decide)
 have hpos : 1 ≤ (putL x).length := List.length_pos_iff.2 hne
 refine ⟨by rw [List.length_append]; omega, by rw [List.take_left], 0, ?_⟩
 rw [takeAt_drop _ _ (by rw [List.length_append]; omega), List.drop_left, ht]
 simp only [if_true]
 refine Prod.ext rfl (Prod.ext ?_ rfl)
 simp only [List.length_append]; omega
end Bf