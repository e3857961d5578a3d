/- BFP: texts of this proof, joined by program: PlainFb, PlainFc, PlainFd, PlainFe, PlainFf, PlainFg. -/
import Derived.Test.YtldjakeigjngoaaBFM
import Derived.Test.YtldjakeigjngoaaBOA
import Derived.Test.YtldjakeigjngoaaBPB
import Derived.Test.YtldjakeigjngoaaBUN
import Derived.Test.YtldjakeigjngoaaBRA
import Derived.Test.YtldjakeigjngoaaBRV
import Derived.Test.YtldjakeigjngoaaBPL
/- Plain: marks, numbers and quoted texts, read as tokens. -/
set_option linter.unusedVariables false
set_option linter.unusedSimpArgs false
namespace Go.Proofs.Ytldjakeigjngoaa
open Go.RowKit Bf
theorem unqR_quo (s a t : List UInt8) : unqR ((a ++ quoteL s) ++ t) a.length = (s, (a.length : Int) + ((quoteL s).length : Int), 0, 0) := by
 have hq : (a ++ quoteL s) ++ t = a ++ 34 :: (bodyQ s ++ 34 :: t) := by unfold quoteL; simp
 have hlen : (quoteL s).length = (bodyQ s).length + 2 := by unfold quoteL; simp
 rw [hq, hlen]
 have hb : bt (a ++ 34 :: (bodyQ s ++ 34 :: t)) (a.length : Int) = 34 := by
  unfold bt; rw [List.getD_eq_getElem?_getD, Int.toNat_natCast, List.getElem?_append_right (Nat.le_refl _)]; simp
 have hu := unL_bodyQ _ s t (Nat.le_refl _)
 have hd : (a ++ 34 :: (bodyQ s ++ 34 :: t)).drop ((a.length : Int) + 1).toNat = bodyQ s ++ 34 :: t := by
  rw [show ((a.length : Int) + 1).toNat = a.length + 1 by omega]
  rw [List.drop_append]; simp
 rw [unqR_un (o := s) (n := (bodyQ s).length + 1) (e := 0) (by omega) (by simp <;> omega) hb (by rw [hd]; exact hu), if_pos rfl]
 refine Prod.ext rfl (Prod.ext ?_ rfl)
 simp only; omega
def Ends (r : List UInt8) : Prop := ∀ c t, r = c :: t → sigB c = false ∧ isDig c = false
theorem ends_cons {c : UInt8} {r : List UInt8} (h : sigB c = false ∧ isDig c = false) : Ends (c :: r) := fun c' t e => by cases e; exact h
theorem sc_mark {s r : List UInt8} {i : Nat} {c : UInt8} (h : s.drop i = c :: r) (hc : c = 40 ∨ c = 41 ∨ c = 44 ∨ c = 58 ∨ c = 91 ∨ c = 93 ∨ c = 123 ∨ c = 125) : scanT s i = comb [(4, (i : Int), (i : Int) + 1, [c], 0)] (scanT s (i + 1)) := by
 have hbt := at_bt h
 have hb : blankB (c.toNat : Int) = false ∧ (c.toNat : Int) ≠ 59 ∧ letB c = false ∧ c ≠ 46 ∧ c ∈ marksT := by
  rcases hc with rfl | rfl | rfl | rfl | rfl | rfl | rfl | rfl <;> decide
 refine (scanT_tok s i (at_lt h) (by rw [hbt]; exact hb.1) (by rw [hbt]; exact hb.2.1) (t := (4, (i : Int), (i : Int) + 1, [c], 0)) (p := 0) ?_ (by simp only; omega)).trans ?_
 · unfold tokA
   have hn : namN (c :: r) = 0 := by rw [namN_cons, hb.2.2.1]; rfl
   have hm : markL (c :: r) = [c] := by rw [markL_cons, if_neg hb.2.2.2.1, if_pos hb.2.2.2.2]
   rw [h, hn, if_neg (Nat.lt_irrefl 0), hm, if_pos (by simp)]
   rfl
 · simp only
   rw [show ((i : Int) + 1).toNat = i + 1 by omega]
theorem sc_int {s r : List UInt8} {i : Nat} {n : Int} (h : s.drop i = putL n ++ r) (hn : I64 n) (hr : ∀ c t, r = c :: t → isDig c = false) : scanT s i = comb [(2, (i : Int), (i : Int) + (putL n).length, [], n)] (scanT s (i + (putL n).length)) := by
 by_cases h0 : 0 ≤ n
 · exact sc_num h h0 hn.2 hr
 · have htk := takeS_putL n r ⟨hn.1, hn.2⟩ hr
   have hput : putL n = 45 :: decL n.natAbs := by unfold putL; rw [if_pos (by omega)]
   rw [hput] at h htk ⊢
   have hbt := at_bt (s := s) (i := i) (r := decL n.natAbs ++ r) h
   have hlt := at_lt (s := s) (r := decL n.natAbs ++ r) h
   have ht2 := takeAt_drop s i (by omega)
   rw [h, htk] at ht2
   simp only [if_true] at ht2
   refine (scanT_tok s i hlt (by rw [hbt]; decide) (by rw [hbt]; decide) (t := (2, (i : Int), (i : Int) + (45 :: decL n.natAbs).length, [], n)) (p := 0) ?_ (by simp only [List.length_cons]; omega)).trans ?_
   · unfold tokA
     have hm : markL ((45 :: decL n.natAbs) ++ r) = [] := by
      show markL (45 :: (decL n.natAbs ++ r)) = []
      rw [markL_cons, if_neg (by decide), if_neg (by decide)]
     have hn0 : namN ((45 :: decL n.natAbs) ++ r) = 0 := by show namN (45 :: (decL n.natAbs ++ r)) = 0; rw [namN_cons, show letB 45 = false by decide]; rfl
     rw [h, hn0, if_neg (by omega), hm, if_neg (by simp), hbt, if_pos (.inl (by decide)), ht2]
     rfl
   · simp only
     rw [show ((i : Int) + (45 :: decL n.natAbs).length).toNat = i + (45 :: decL n.natAbs).length by omega]
theorem sc_quo {s r t : List UInt8} {i : Nat} (h : s.drop i = quoteL t ++ r) (hi : i ≤ s.length) : scanT s i = comb [(3, (i : Int), (i : Int) + (quoteL t).length, t, 0)] (scanT s (i + (quoteL t).length)) := by
 have hq : quoteL t = 34 :: (quoteL t).tail := by unfold quoteL; rfl
 have hs : s = (s.take i ++ quoteL t) ++ r := by rw [List.append_assoc, ← h, List.take_append_drop]
 have hu := unqR_quo t (s.take i) r
 rw [← hs, List.length_take, Nat.min_eq_left hi] at hu
 have h' : s.drop i = 34 :: ((quoteL t).tail ++ r) := by rw [h, hq]; rfl
 have hbt := at_bt h'
 refine (scanT_tok s i (at_lt h') (by rw [hbt]; decide) (by rw [hbt]; decide) (t := (3, (i : Int), (i : Int) + (quoteL t).length, t, 0)) (p := 0) ?_ (by simp only; rw [hq, List.length_cons]; omega)).trans ?_
 · unfold tokA
   have hn : namN (34 :: ((quoteL t).tail ++ r)) = 0 := by rw [namN_cons, show letB 34 = false by decide]; rfl
   have hm : markL (34 :: ((quoteL t).tail ++ r)) = [] := by rw [markL_cons, if_neg (by decide), if_neg (by decide)]
   rw [h', hn, if_neg (Nat.lt_irrefl 0), hm, if_neg (by simp), hbt, if_neg (by decide), if_pos (by decide), hu, if_neg (by simp)]
 · simp only
   rw [show ((i : Int) + (quoteL t).length).toNat = i + (quoteL t).length by omega]
end Go.Proofs.Ytldjakeigjngoaa
/- Plain: a value that may be written is read from its text as the same one. -/
namespace Go.Proofs.Ytldjakeigjngoaa
open Go.RowKit Bf
mutual
theorem cntR_nn : ∀ (v : RawP), 1 ≤ cntR v
 | .mk k a n s keys l => by have := cntRs_nn l; simp only [cntR]; omega
theorem cntRs_nn : ∀ (l : List RawP), 0 ≤ cntRs l
 | [] => Int.le_refl _
 | x :: l => by have := cntR_nn x; have := cntRs_nn l; simp only [cntRs]; omega
end
mutual
theorem depR_nn : ∀ (v : RawP), 1 ≤ depR v
 | .mk k a n s keys l => by have := depRs_nn l; simp only [depR]; omega
theorem depRs_nn : ∀ (l : List RawP), 0 ≤ depRs l
 | [] => Int.le_refl _
 | x :: l => by have := depR_nn x; have := depRs_nn l; simp only [depRs]; omega
end
theorem fmtRs_false (rec : Bool) (keys : List WordT) (x : RawP) (l : List RawP) : fmtRs rec false keys (x :: l) = 44 :: 32 :: fmtRs rec true keys (x :: l) := by simp [fmtRs]
def HdOk (T : List TokT) : Prop := ∃ t T', T = t :: T' ∧ ¬ (t.1 = 4 ∧ (t.2.2.2.1 = [93] ∨ t.2.2.2.1 = [125]))
structure VT (s : List UInt8) (i : Nat) (v : RawP) (T : List TokT) : Prop where
 sc : scanT s i = comb T (scanT s (i + (fmtR v).length))
 hd : HdOk T
 val : ∀ (d : Nat) (m : Int) (rest : List TokT), depR v ≤ d → m + cntR v ≤ 4096 → mkB rest [40] = false → ∃ v', valR d (T ++ rest) m = .ok v' rest (m + cntR v) ∧ samN v' v = true
structure RT (rec : Bool) (s : List UInt8) (i : Nat) (keys : List WordT) (l : List RawP) (T : List TokT) : Prop where
 sc : scanT s i = comb T (scanT s (i + (fmtRs rec true keys l).length))
 hd : HdOk T
 len : l.length ≤ T.length
 rows : ∀ (d : Nat) (m : Int) (e : UInt8) (et : TokT) (rest : List TokT) (ks : List WordT) (vs : List RawP) (n : Nat), depRs l ≤ d → m + cntRs l ≤ 4096 → l.length ≤ n → et.1 = 4 → et.2.2.2.1 = [e] → (e = 93 ∨ e = 125) →
  ∃ ks' vs', rowsR (valR d) rec [e] n (T ++ et :: rest) m ks vs = .ok (ks ++ ks', vs ++ vs') rest (m + cntRs l) ∧ samNs vs' l = true ∧ ks'.map (·.1) = (if rec then keys.map (·.1) else [])
theorem HdOk.app {T U : List TokT} (h : HdOk T) : HdOk (T ++ U) := by
 obtain ⟨t, T', rfl, h2⟩ := h
 exact ⟨t, T' ++ U, rfl, h2⟩
theorem key_t {s r : List UInt8} (rec : Bool) (key : WordT) (i : Nat) (h : s.drop i = (if rec then key.1 ++ [58, 32] else []) ++ r) (hk : rec = true → namB key.1 = true) :
 ∃ KT : List TokT, scanT s i = comb KT (scanT s (i + (if rec then key.1 ++ [58, 32] else [] : List UInt8).length)) ∧ (rec = true → HdOk KT) ∧ (rec = false → KT = []) ∧
  ∀ (val : List TokT → Int → RR RawP) (L : List TokT) (m : Int) (v : RawP) (l' : List TokT) (m' : Int), val L m = .ok v l' m' → ∃ k : List WordT, elR val rec (KT ++ L) m = .ok (k, v) l' m' ∧ k.map (·.1) = (if rec then [key.1] else []) := by
 cases rec with
 | false =>
  refine ⟨[], ?_, (by intro h; cases h), fun _ => rfl, fun val L m v l' m' hv => ⟨[], ?_, rfl⟩⟩
  · exact (scanT_clean s _ i (Nat.le_refl _)).symm
  · unfold elR; simp only [List.nil_append]; rw [if_neg (by decide), hv]; rfl
 | true =>
  simp only [if_true] at h ⊢
  have h1 : s.drop i = key.1 ++ (58 :: 32 :: r) := by rw [h]; simp
  have a1 := sc_nam h1 (hk rfl) (fun c t e => by cases e; decide)
  have h2 := at_app h1
  have a2 := sc_mark h2 (.inr (.inr (.inr (.inl rfl))))
  have h3 := at_one h2
  have a3 := sc_sp h3
  refine ⟨[(1, (i : Int), (i : Int) + key.1.length, key.1, 0), (4, ((i + key.1.length : Nat) : Int), ((i + key.1.length : Nat) : Int) + 1, [58], 0)], ?_, fun _ => ⟨_, _, rfl, by simp⟩, (by intro h; cases h), fun val L m v l' m' hv => ⟨[(key.1, (i : Int))], ?_, rfl⟩⟩
  · rw [a1, a2, a3, comb_comb]
    simp only [List.length_append, List.length_cons, List.length_nil]
    rfl
  · unfold elR
    simp [hdT, mkB, hv, RR.map]
def VH (v : RawP) : Prop := ∀ (s : List UInt8) (i : Nat) (r : List UInt8), s.drop i = fmtR v ++ r → Ends r → ∃ T, VT s i v T
theorem ends_44 (r : List UInt8) : Ends (44 :: r) := ends_cons (by decide)
theorem rows_step {val : List TokT → Int → RR RawP} {rec : Bool} {e : List UInt8} {n : Nat} {L l' : List TokT} {m m' : Int} {ks k : List WordT} {vs : List RawP} {v : RawP} (h : elR val rec L m = .ok (k, v) l' m') :
 rowsR val rec e (n + 1) L m ks vs = if mkB l' e = true then .ok (ks ++ k, vs ++ [v]) l'.tail m' else if mkB l' [44] = true then rowsR val rec e n l'.tail m' (ks ++ k) (vs ++ [v]) else oddR l' := by
 rw [rowsR, h]
theorem rt (rec : Bool) : ∀ (l : List RawP), l ≠ [] → (∀ x ∈ l, VH x) → ∀ (keys : List WordT), (rec = true → keys.length = l.length ∧ ∀ k ∈ keys, namB k.1 = true) → ∀ (s : List UInt8) (i : Nat) (r : List UInt8), s.drop i = fmtRs rec true keys l ++ r → Ends r → ∃ T, RT rec s i keys l T
 | [], h, _, _, _, _, _, _, _, _ => absurd rfl h
 | x :: l, _, hx, keys, hk, s, i, r, hs, hr => by
  obtain ⟨key, hkey⟩ : ∃ key, keys.headD ([], 0) = key := ⟨_, rfl⟩
  have hkn : rec = true → namB key.1 = true := fun h => by
   obtain ⟨h1, h2⟩ := hk h
   cases keys with
   | nil => simp at h1
   | cons a b => simp at hkey; subst hkey; exact h2 _ (by simp)
  obtain ⟨K, hK⟩ : ∃ K : List UInt8, (if rec then key.1 ++ [58, 32] else []) = K := ⟨_, rfl⟩
  have hf : fmtRs rec true keys (x :: l) = K ++ (fmtR x ++ fmtRs rec false keys.tail l) := by simp only [fmtRs, hkey, hK, if_true, List.nil_append]
  have hs1 : s.drop i = K ++ (fmtR x ++ (fmtRs rec false keys.tail l ++ r)) := by rw [hs, hf]; simp only [List.append_assoc]
  obtain ⟨KT, k1, k2, k3, k4⟩ := key_t (s := s) rec key i (by rw [hK]; exact hs1) hkn
  rw [hK] at k1
  have hs2 := at_app hs1
  have hxv := hx x (by simp)
  have hKm : rec = true → keys.map (·.1) = key.1 :: keys.tail.map (·.1) := fun h => by
   cases keys with
   | nil => have := (hk h).1; simp at this
   | cons a b => simp at hkey; subst hkey; rfl
  cases l with
  | nil =>
   have hfn : fmtRs rec false keys.tail [] = [] := rfl
   rw [hfn, List.nil_append] at hs2
   rw [hfn, List.append_nil] at hf
   obtain ⟨T, hT⟩ := hxv s _ r hs2 hr
   have hTs := hT.sc
   refine ⟨KT ++ T, ⟨?_, ?_, ?_, fun d m e et rest ks vs n hd hm hn h4 hte hee => ?_⟩⟩
   · rw [k1, hTs, comb_comb, hf, List.length_append, Nat.add_assoc]
   · cases rec with
     | true => exact (k2 rfl).app
     | false => rw [k3 rfl]; exact hT.hd
   · obtain ⟨t, T', e1, _⟩ := hT.hd
     rw [e1]; simp only [List.length_append, List.length_cons, List.length_nil]; omega
   · obtain ⟨n, rfl⟩ : ∃ q, n = q + 1 := ⟨n - 1, by simp at hn; omega⟩
     simp only [depRs, cntRs] at hd hm
     have h40 : mkB (et :: rest) [40] = false := by
      unfold mkB hdT; simp only [List.headD_cons, hte]; rcases hee with rfl | rfl <;> simp
     have hme : mkB (et :: rest) [e] = true := by unfold mkB hdT; simp only [List.headD_cons, hte, h4]; simp
     obtain ⟨v', hv, hsam⟩ := hT.val d m (et :: rest) (by omega) (by omega) h40
     obtain ⟨k, hel, hkk⟩ := k4 (valR d) (T ++ et :: rest) m v' _ _ hv
     refine ⟨k, [v'], ?_, by simp [samNs, hsam], ?_⟩
     · rw [List.append_assoc, rows_step hel, if_pos hme]; simp [cntRs]
     · rw [hkk]
       cases rec with
       | false => rfl
       | true =>
        have h1 := (hk rfl).1
        have : keys.tail = [] := List.eq_nil_of_length_eq_zero (by rw [List.length_tail, h1]; rfl)
        rw [hKm rfl, this]; rfl
  | cons x2 l2 =>
   rw [fmtRs_false] at hs2 hf
   obtain ⟨T, hT⟩ := hxv s _ _ hs2 (ends_44 _)
   have hs3 := at_app hs2
   have a2 := sc_mark hs3 (.inr (.inr (.inl rfl)))
   have hs4 := at_one hs3
   have a3 := sc_sp hs4
   have hs5 := at_one hs4
   obtain ⟨T2, hT2⟩ := rt rec (x2 :: l2) (by simp) (fun y hy => hx y (List.mem_cons_of_mem _ hy)) keys.tail (fun h => by
    obtain ⟨h1, h2⟩ := hk h
    exact ⟨by rw [List.length_tail, h1]; rfl, fun q hq => h2 q (List.mem_of_mem_tail hq)⟩) s _ r hs5 hr
   have hTs := hT.sc
   have hT2s := hT2.sc
   obtain ⟨ct, hct⟩ : ∃ ct : TokT, ((4, ((i + K.length + (fmtR x).length : Nat) : Int), ((i + K.length + (fmtR x).length : Nat) : Int) + 1, [44], 0) : TokT) = ct := ⟨_, rfl⟩
   rw [hct] at a2
   refine ⟨KT ++ (T ++ ct :: T2), ⟨?_, ?_, ?_, fun d m e et rest ks vs n hd hm hn h4 hte hee => ?_⟩⟩
   · rw [k1, hTs, a2, a3, hT2s, comb_comb, comb_comb, comb_comb, hf]
     simp only [List.length_append, List.length_cons, List.append_assoc, List.cons_append, List.nil_append]
     congr 1
     congr 1
     omega
   · cases rec with
     | true => exact (k2 rfl).app
     | false => rw [k3 rfl]; exact hT.hd.app
   · have h1 := hT2.len
     simp only [List.length_append, List.length_cons] at h1 ⊢; omega
   · obtain ⟨n, rfl⟩ : ∃ q, n = q + 1 := ⟨n - 1, by simp at hn; omega⟩
     have hd' := hd
     have hm' := hm
     rw [depRs] at hd'
     rw [cntRs] at hm'
     have hc2 := cntRs_nn (x2 :: l2)
     have h40 : mkB (ct :: (T2 ++ et :: rest)) [40] = false := by rw [← hct]; simp [mkB, hdT]
     have hme : mkB (ct :: (T2 ++ et :: rest)) [e] = false := by rw [← hct]; rcases hee with rfl | rfl <;> simp [mkB, hdT]
     have h44 : mkB (ct :: (T2 ++ et :: rest)) [44] = true := by rw [← hct]; simp [mkB, hdT]
     obtain ⟨v', hv, hsam⟩ := hT.val d m (ct :: (T2 ++ et :: rest)) (by omega) (by omega) h40
     obtain ⟨k, hel, hkk⟩ := k4 (valR d) (T ++ ct :: (T2 ++ et :: rest)) m v' _ _ hv
     obtain ⟨ks2, vs2, hr2, hs2', hk2⟩ := hT2.rows d (m + cntR x) e et rest (ks ++ k) (vs ++ [v']) n (by omega) (by omega) (by simp only [List.length_cons] at hn ⊢; omega) h4 hte hee
     refine ⟨k ++ ks2, v' :: vs2, ?_, by simp [samNs, hsam]; simpa using hs2', ?_⟩
     · rw [show KT ++ (T ++ ct :: T2) ++ et :: rest = KT ++ (T ++ ct :: (T2 ++ et :: rest)) by simp, rows_step hel, hme, if_neg (by decide), if_pos h44]
       show rowsR (valR d) rec [e] n (T2 ++ et :: rest) _ _ _ = _
       rw [hr2]
       simp [cntRs, Int.add_assoc]
     · rw [List.map_append, hkk, hk2]
       cases rec with
       | false => rfl
       | true => simp only [if_true]; rw [hKm rfl]; rfl
end Go.Proofs.Ytldjakeigjngoaa
/- Plain: round trip: a value that may be written is read from its text as the same one. -/
namespace Go.Proofs.Ytldjakeigjngoaa
open Go.RowKit Bf
theorem i64Rs_mem : ∀ {l : List RawP} {x : RawP}, i64Rs l → x ∈ l → i64R x
 | y :: l, x, h, hx => by
  rcases List.mem_cons.1 hx with rfl | hx
  · exact h.1
  · exact i64Rs_mem h.2 hx
theorem allRs_mem : ∀ {l : List RawP} {x : RawP}, allRs l = true → x ∈ l → allR x = true
 | y :: l, x, h, hx => by
  simp only [allRs, Bool.and_eq_true] at h
  rcases List.mem_cons.1 hx with rfl | hx
  · exact h.1
  · exact allRs_mem h.2 hx
theorem hdOk_not {T R : List TokT} (h : HdOk T) (e : UInt8) (he : e = 93 ∨ e = 125) : mkB (T ++ R) [e] = false := by
 obtain ⟨t, T', rfl, h2⟩ := h
 unfold mkB hdT
 simp only [List.cons_append, List.headD_cons]
 cases hc : (decide (t.1 = 4) && decide (t.2.2.2.1 = [e])) with
 | false => exact hc
 | true =>
  simp only [Bool.and_eq_true, decide_eq_true_eq] at hc
  exact absurd ⟨hc.1, by rcases he with rfl | rfl; exact .inl hc.2; exact .inr hc.2⟩ h2
theorem body_t (rec : Bool) (e : UInt8) (he : e = 93 ∨ e = 125) (l : List RawP) (hx : ∀ x ∈ l, VH x) (keys : List WordT) (hk : rec = true → keys.length = l.length ∧ ∀ k ∈ keys, namB k.1 = true) (s : List UInt8) (i : Nat) (r : List UInt8) (h : s.drop i = fmtRs rec true keys l ++ e :: r) :
 ∃ T, scanT s i = comb T (scanT s (i + (fmtRs rec true keys l).length + 1)) ∧
  ∀ (d : Nat) (m : Int) (rest : List TokT), depRs l ≤ d → m + cntRs l ≤ 4096 → ∃ ks vs, bodyR (valR d) rec [e] (T ++ rest) m = .ok (ks, vs) rest (m + cntRs l) ∧ samNs vs l = true ∧ ks.map (·.1) = (if rec then keys.map (·.1) else []) := by
 have hem : e = 40 ∨ e = 41 ∨ e = 44 ∨ e = 58 ∨ e = 91 ∨ e = 93 ∨ e = 123 ∨ e = 125 := by rcases he with rfl | rfl <;> simp
 have hee : sigB e = false ∧ isDig e = false := by rcases he with rfl | rfl <;> decide
 by_cases hl : l = []
 · subst hl
   have h0 : fmtRs rec true keys [] = [] := rfl
   rw [h0, List.nil_append] at h
   have a1 := sc_mark h hem
   refine ⟨[(4, (i : Int), (i : Int) + 1, [e], 0)], ?_, fun d m rest _ _ => ⟨[], [], ?_, rfl, ?_⟩⟩
   · rw [a1, h0]; rfl
   · unfold bodyR
     rw [if_pos (by simp [mkB, hdT])]
     simp [cntRs]
   · cases rec with
     | false => rfl
     | true => have := (hk rfl).1; rw [List.eq_nil_of_length_eq_zero this]; rfl
 · obtain ⟨T, hT⟩ := rt rec l hl hx keys hk s i (e :: r) h (ends_cons hee)
   have a1 := sc_mark (at_app h) hem
   have hTs := hT.sc
   refine ⟨T ++ [(4, ((i + (fmtRs rec true keys l).length : Nat) : Int), ((i + (fmtRs rec true keys l).length : Nat) : Int) + 1, [e], 0)], ?_, fun d m rest hd hm => ?_⟩
   · rw [hTs, a1, comb_comb]
   · rw [List.append_assoc]
     obtain ⟨ks, vs, hr, h2, h3⟩ := hT.rows d m e (4, ((i + (fmtRs rec true keys l).length : Nat) : Int), ((i + (fmtRs rec true keys l).length : Nat) : Int) + 1, [e], 0) rest [] [] (T ++ (4, ((i + (fmtRs rec true keys l).length : Nat) : Int), ((i + (fmtRs rec true keys l).length : Nat) : Int) + 1, [e], 0) :: rest).length hd hm (by have := hT.len; simp only [List.length_append]; omega) rfl rfl he
     refine ⟨ks, vs, ?_, h2, h3⟩
     unfold bodyR
     rw [show mkB (T ++ ([(4, ((i + (fmtRs rec true keys l).length : Nat) : Int), ((i + (fmtRs rec true keys l).length : Nat) : Int) + 1, [e], 0)] ++ rest)) [e] = false from hdOk_not hT.hd e he, if_neg (by decide)]
     simpa using hr
theorem vt : ∀ (n : Nat) (v : RawP), SizeOf.sizeOf v ≤ n → allR v = true → i64R v → VH v := by
 intro n
 induction n with
 | zero => intro v hv; cases v; simp at hv
 | succ n ih =>
  intro v hv ha hi s i r h hr
  obtain ⟨k, a, nn, tx, keys, kids⟩ := v
  simp only [allR, Bool.and_eq_true] at ha
  obtain ⟨ho, hak⟩ := ha
  obtain ⟨hin, hik⟩ := hi
  have hkid : ∀ x ∈ kids, VH x := fun x hx => ih x (by have := List.sizeOf_lt_of_mem hx; simp at hv; omega) (allRs_mem hak hx) (i64Rs_mem hik hx)
  have hcn := cntRs_nn kids
  have hdn := depRs_nn kids
  unfold ownR at ho
  by_cases k2 : k = 2
  · subst k2
    rw [if_pos rfl] at ho
    simp only [Bool.and_eq_true, decide_eq_true_eq] at ho
    obtain ⟨⟨rfl, hk0⟩, hk1⟩ := ho
    obtain rfl := len_nil hk0
    obtain rfl := len_nil hk1
    have hf : fmtR (.mk 2 a nn [] [] []) = putL nn := by simp [fmtR, openT, endT, fmtRs]
    rw [hf] at h
    refine ⟨[(2, (i : Int), (i : Int) + (putL nn).length, [], nn)], ⟨by rw [hf]; exact sc_int h hin (fun c t e => (hr c t e).2), ⟨_, _, rfl, by simp⟩, fun d m rest hd hm h40 => ?_⟩⟩
    simp only [depR, cntR, depRs, cntRs] at hd hm
    obtain ⟨d, rfl⟩ : ∃ q, d = q + 1 := ⟨d - 1, by omega⟩
    have hm4 : m ≠ 4096 := by omega
    exact ⟨.mk 2 i nn [] [] [], by simp [valR, hdT, mkB, hm4, cntR, cntRs], by simp [samN, samNs]⟩
  · rw [if_neg k2] at ho
    by_cases k3 : k = 3
    · subst k3
      rw [if_pos rfl] at ho
      simp only [Bool.and_eq_true, decide_eq_true_eq] at ho
      obtain ⟨⟨rfl, hk0⟩, hk1⟩ := ho
      obtain rfl := len_nil hk0
      obtain rfl := len_nil hk1
      have hf : fmtR (.mk 3 a 0 tx [] []) = quoteL tx := by simp [fmtR, openT, endT, fmtRs]
      rw [hf] at h
      have hil : i ≤ s.length := by
       rcases Nat.lt_or_ge s.length i with h1 | h1
       · rw [List.drop_of_length_le (by omega)] at h
         have := congrArg List.length h
         unfold quoteL at this; simp at this
       · exact h1
      refine ⟨[(3, (i : Int), (i : Int) + (quoteL tx).length, tx, 0)], ⟨by rw [hf]; exact sc_quo h hil, ⟨_, _, rfl, by simp⟩, fun d m rest hd hm h40 => ?_⟩⟩
      simp only [depR, cntR, depRs, cntRs] at hd hm
      obtain ⟨d, rfl⟩ : ∃ q, d = q + 1 := ⟨d - 1, by omega⟩
      have hm4 : m ≠ 4096 := by omega
      exact ⟨.mk 3 i 0 tx [] [], by simp [valR, hdT, mkB, hm4, cntR, cntRs], by simp [samN, samNs]⟩
    · rw [if_neg k3] at ho
      by_cases k1 : k = 1
      · subst k1
        rw [if_pos rfl] at ho
        simp only [Bool.and_eq_true, decide_eq_true_eq] at ho
        obtain ⟨⟨⟨rfl, hk0⟩, hk1⟩, hnb⟩ := ho
        obtain rfl := len_nil hk0
        obtain rfl := len_nil hk1
        have hf : fmtR (.mk 1 a 0 tx [] []) = tx := by simp [fmtR, openT, endT, fmtRs]
        rw [hf] at h
        refine ⟨[(1, (i : Int), (i : Int) + tx.length, tx, 0)], ⟨by rw [hf]; exact sc_nam h hnb (fun c t e => (hr c t e).1), ⟨_, _, rfl, by simp⟩, fun d m rest hd hm h40 => ?_⟩⟩
        simp only [depR, cntR, depRs, cntRs] at hd hm
        obtain ⟨d, rfl⟩ : ∃ q, d = q + 1 := ⟨d - 1, by omega⟩
        have hm4 : m ≠ 4096 := by omega
        refine ⟨.mk 1 i 0 tx [] [], ?_, by simp [samN, samNs]⟩
        simp only [valR, List.cons_append, List.nil_append]
        rw [if_neg hm4, if_neg (by simp [mkB, hdT]), if_neg (by simp [mkB, hdT]), if_neg (by simp [hdT]), if_neg (by simp [hdT]), if_pos (by simp [hdT]), if_neg (by simp only [List.tail_cons]; rw [h40]; decide)]
        simp [hdT, cntR, cntRs]
      · rw [if_neg k1] at ho
        by_cases k6 : k = 6
        · subst k6
          rw [if_pos rfl] at ho
          simp only [Bool.and_eq_true, decide_eq_true_eq] at ho
          obtain ⟨⟨⟨rfl, hk0⟩, hk1⟩, hnb⟩ := ho
          obtain rfl := len_nil hk0
          obtain ⟨x, rfl⟩ : ∃ x, kids = [x] := by
           match kids, hk1 with
           | [x], _ => exact ⟨x, rfl⟩
          have hf : fmtR (.mk 6 a 0 tx [] [x]) = tx ++ (40 :: (fmtR x ++ [41])) := by simp [fmtR, openT, endT, fmtRs]
          rw [hf] at h
          have h1 : s.drop i = tx ++ (40 :: (fmtR x ++ (41 :: r))) := by rw [h]; simp
          have a1 := sc_nam h1 hnb (fun c t e => by cases e; decide)
          have h2 := at_app h1
          have a2 := sc_mark h2 (.inl rfl)
          have h3 := at_one h2
          obtain ⟨T, hT⟩ := hkid x (by simp) s _ _ h3 (ends_cons (by decide))
          have a3 := hT.sc
          have h4 := at_app h3
          have a4 := sc_mark h4 (.inr (.inl rfl))
          obtain ⟨t1, ht1⟩ : ∃ t : TokT, ((1, (i : Int), (i : Int) + tx.length, tx, 0) : TokT) = t := ⟨_, rfl⟩
          obtain ⟨t2, ht2⟩ : ∃ t : TokT, ((4, ((i + tx.length : Nat) : Int), ((i + tx.length : Nat) : Int) + 1, [40], 0) : TokT) = t := ⟨_, rfl⟩
          obtain ⟨t4, ht4⟩ : ∃ t : TokT, ((4, ((i + tx.length + 1 + (fmtR x).length : Nat) : Int), ((i + tx.length + 1 + (fmtR x).length : Nat) : Int) + 1, [41], 0) : TokT) = t := ⟨_, rfl⟩
          rw [ht1] at a1
          rw [ht2] at a2
          rw [ht4] at a4
          refine ⟨t1 :: t2 :: (T ++ [t4]), ⟨?_, ⟨_, _, rfl, by rw [← ht1]; simp⟩, fun d m rest hd hm h40 => ?_⟩⟩
          · rw [a1, a2, a3, a4, comb_comb, comb_comb, comb_comb, hf]
            simp only [List.length_append, List.length_cons, List.length_nil, List.cons_append, List.nil_append]
            congr 1
            congr 1
            omega
          · simp only [depR, cntR, depRs, cntRs] at hd hm
            obtain ⟨d, rfl⟩ : ∃ q, d = q + 1 := ⟨d - 1, by omega⟩
            have hm4 : m ≠ 4096 := by have := cntR_nn x; omega
            obtain ⟨v', hv', hsam⟩ := hT.val d (m + 1) (t4 :: rest) (by omega) (by omega) (by rw [← ht4]; simp [mkB, hdT])
            refine ⟨.mk 6 i 0 tx [] [v'], ?_, by simp [samN, samNs, hsam]⟩
            have f1 : ∀ L, hdT (t1 :: L) = (1, (i : Int), (i : Int) + tx.length, tx, 0) := fun L => by rw [← ht1]; rfl
            have f2 : ∀ L, mkB (t1 :: L) [123] = false := fun L => by rw [← ht1]; simp [mkB, hdT]
            have f3 : ∀ L, mkB (t1 :: L) [91] = false := fun L => by rw [← ht1]; simp [mkB, hdT]
            have f4 : ∀ L, mkB (t2 :: L) [40] = true := fun L => by rw [← ht2]; simp [mkB, hdT]
            have f5 : ∀ L, mkB (t4 :: L) [41] = true := fun L => by rw [← ht4]; simp [mkB, hdT]
            have hv2 : valR d (T ++ t4 :: rest) (m + 1) = .ok v' (t4 :: rest) (m + 1 + cntR x) := hv'
            simp [valR, f1, f2, f3, f4, f5, hm4, hv2, mustR_eq, RR.map, cntR, cntRs, Int.add_assoc]
        · rw [if_neg k6] at ho
          by_cases k4 : k = 4
          · subst k4
            rw [if_pos rfl] at ho
            simp only [Bool.and_eq_true, decide_eq_true_eq] at ho
            obtain ⟨⟨rfl, rfl⟩, hk0⟩ := ho
            obtain rfl := len_nil hk0
            have hf : fmtR (.mk 4 a 0 [] [] kids) = 91 :: (fmtRs false true [] kids ++ [93]) := by simp [fmtR, openT, endT]
            rw [hf] at h
            have h1 : s.drop i = 91 :: (fmtRs false true [] kids ++ 93 :: r) := by rw [h]; simp
            have a1 := sc_mark h1 (.inr (.inr (.inr (.inr (.inl rfl)))))
            obtain ⟨T, a2, hT⟩ := body_t false 93 (.inl rfl) kids hkid [] (by intro h; cases h) s (i + 1) r (at_one h1)
            obtain ⟨t1, ht1⟩ : ∃ t : TokT, ((4, (i : Int), (i : Int) + 1, [91], 0) : TokT) = t := ⟨_, rfl⟩
            rw [ht1] at a1
            refine ⟨t1 :: T, ⟨?_, ⟨_, _, rfl, by rw [← ht1]; simp⟩, fun d m rest hd hm h40 => ?_⟩⟩
            · rw [a1, a2, comb_comb, hf]
              simp only [List.length_append, List.length_cons, List.length_nil, List.cons_append, List.nil_append]
              congr 1
              congr 1
              omega
            · simp only [depR, cntR] at hd hm
              obtain ⟨d, rfl⟩ : ∃ q, d = q + 1 := ⟨d - 1, by omega⟩
              have hm4 : m ≠ 4096 := by omega
              obtain ⟨ks, vs, hb, hsam, hks⟩ := hT d (m + 1) rest (by omega) (by omega)
              have hks0 : ks = [] := by simpa using hks
              subst hks0
              refine ⟨.mk 4 i 0 [] [] vs, ?_, by simp [samN, hsam]⟩
              simp only [valR, List.cons_append, List.tail_cons]
              rw [if_neg hm4, if_neg (by rw [← ht1]; simp [mkB, hdT]), if_pos (by rw [← ht1]; simp [mkB, hdT]), hb]
              simp [RR.map, hdT, ← ht1, cntR, Int.add_assoc]
          · rw [if_neg k4] at ho
            by_cases k5 : k = 5
            · subst k5
              rw [if_pos rfl] at ho
              simp only [Bool.and_eq_true, decide_eq_true_eq, List.all_eq_true] at ho
              obtain ⟨⟨⟨rfl, rfl⟩, hkl⟩, hkn⟩ := ho
              have hf : fmtR (.mk 5 a 0 [] keys kids) = 123 :: (fmtRs true true keys kids ++ [125]) := by simp [fmtR, openT, endT]
              rw [hf] at h
              have h1 : s.drop i = 123 :: (fmtRs true true keys kids ++ 125 :: r) := by rw [h]; simp
              have a1 := sc_mark h1 (.inr (.inr (.inr (.inr (.inr (.inr (.inl rfl)))))))
              obtain ⟨T, a2, hT⟩ := body_t true 125 (.inr rfl) kids hkid keys (fun _ => ⟨hkl, hkn⟩) s (i + 1) r (at_one h1)
              obtain ⟨t1, ht1⟩ : ∃ t : TokT, ((4, (i : Int), (i : Int) + 1, [123], 0) : TokT) = t := ⟨_, rfl⟩
              rw [ht1] at a1
              refine ⟨t1 :: T, ⟨?_, ⟨_, _, rfl, by rw [← ht1]; simp⟩, fun d m rest hd hm h40 => ?_⟩⟩
              · rw [a1, a2, comb_comb, hf]
                simp only [List.length_append, List.length_cons, List.length_nil, List.cons_append, List.nil_append]
                congr 1
                congr 1
                omega
              · simp only [depR, cntR] at hd hm
                obtain ⟨d, rfl⟩ : ∃ q, d = q + 1 := ⟨d - 1, by omega⟩
                have hm4 : m ≠ 4096 := by omega
                obtain ⟨ks, vs, hb, hsam, hks⟩ := hT d (m + 1) rest (by omega) (by omega)
                refine ⟨.mk 5 i 0 [] ks vs, ?_, by simp [samN, hsam]; simpa using hks⟩
                simp only [valR, List.cons_append, List.tail_cons]
                rw [if_neg hm4, if_pos (by rw [← ht1]; simp [mkB, hdT]), hb]
                simp [RR.map, hdT, ← ht1, cntR, Int.add_assoc]
            · rw [if_neg k5] at ho; cases ho
end Go.Proofs.Ytldjakeigjngoaa
/- Plain: what is written is read back. -/
namespace Go.Proofs.Ytldjakeigjngoaa
open Go.RowKit Bf
theorem namB_ne {s : List UInt8} (h : namB s = true) : 1 ≤ s.length := by
 cases s with
 | nil => revert h; decide
 | cons a l => simp
mutual
theorem cnt_fmt : ∀ (v : RawP), allR v = true → cntR v ≤ (fmtR v).length
 | .mk k a n s keys kids, h => by
  simp only [allR, Bool.and_eq_true] at h
  obtain ⟨ho, hk⟩ := h
  have h1 := cnt_fmts (decide (k = 5)) true keys kids hk
  have h2 : 1 ≤ (openT k n s).length := by
   unfold ownR at ho
   unfold openT
   by_cases k2 : k = 2
   · rw [if_pos k2]; unfold putL; split
     · simp
     · have := (decL_facts n.natAbs).2.2.1
       cases h : decL n.natAbs with
       | nil => exact absurd h this
       | cons => simp
   · rw [if_neg k2] at ho ⊢
     by_cases k3 : k = 3
     · rw [if_pos k3]; unfold quoteL; simp
     · rw [if_neg k3] at ho ⊢
       by_cases k1 : k = 1
       · rw [if_pos k1] at ho ⊢
         simp only [Bool.and_eq_true] at ho
         exact namB_ne ho.2
       · rw [if_neg k1] at ho ⊢
         by_cases k6 : k = 6
         · rw [if_pos k6]; simp
         · rw [if_neg k6] at ho ⊢
           by_cases k4 : k = 4
           · rw [if_pos k4]; simp
           · rw [if_neg k4] at ho ⊢
             by_cases k5 : k = 5
             · rw [if_pos k5]; simp
             · rw [if_neg k5] at ho; cases ho
  simp only [cntR, fmtR, List.length_append]
  omega
theorem cnt_fmts : ∀ (rec fst : Bool) (keys : List WordT) (l : List RawP), allRs l = true → cntRs l ≤ (fmtRs rec fst keys l).length
 | _, _, _, [], _ => by simp [cntRs]
 | rec, fst, keys, x :: l, h => by
  simp only [allRs, Bool.and_eq_true] at h
  have h1 := cnt_fmt x h.1
  have h2 := cnt_fmts rec false keys.tail l h.2
  simp only [cntRs, fmtRs, List.length_append]
  omega
end
mutual
theorem dep_cnt : ∀ (v : RawP), depR v ≤ cntR v
 | .mk k a n s keys kids => by
  have := dep_cnts kids
  simp only [depR, cntR]; omega
theorem dep_cnts : ∀ (l : List RawP), depRs l ≤ cntRs l
 | [] => by simp [depRs, cntRs]
 | x :: l => by
  have h1 := dep_cnt x
  have h2 := dep_cnts l
  have h3 := cntR_pos x
  have h4 := cntRs_pos l
  simp only [depRs, cntRs]; omega
end
theorem back1 {v : RawP} (h : rightR v = true) (hi : i64R v) (hl : (fmtR v).length ≤ 65536) : ∃ u l m, rawR (fmtR v) = .ok u l m ∧ samN u v = true := by
 unfold rightR at h
 simp only [Bool.and_eq_true, decide_eq_true_eq] at h
 obtain ⟨⟨hd, hc⟩, ha⟩ := h
 have h1 := cnt_fmt v ha
 have h2 := dep_cnt v
 rw [depW_small v (by omega)] at hd
 rw [cntW_small v (by omega)] at hc
 obtain ⟨T, hT⟩ := vt _ v (Nat.le_refl _) ha hi (fmtR v) 0 [] (by simp) (fun c t e => by cases e)
 have hs : scanT (fmtR v) 0 = (T ++ [(0, ((0 + (fmtR v).length : Nat) : Int), ((0 + (fmtR v).length : Nat) : Int), [], 0)], 0, 0) := by
  rw [hT.sc, sc_end (by simp), comb_ok]
 obtain ⟨v', hv, hsam⟩ := hT.val 24 0 [(0, ((0 + (fmtR v).length : Nat) : Int), ((0 + (fmtR v).length : Nat) : Int), [], 0)] hd (by omega) (by simp [mkB, hdT])
 have hsc : scanR (fmtR v) = (T ++ [(0, ((0 + (fmtR v).length : Nat) : Int), ((0 + (fmtR v).length : Nat) : Int), [], 0)], 0, 0) := by
  unfold scanR; rw [if_neg (by omega)]; exact hs
 refine ⟨v', [(0, ((0 + (fmtR v).length : Nat) : Int), ((0 + (fmtR v).length : Nat) : Int), [], 0)], 0 + cntR v, ?_, hsam⟩
 unfold rawR
 rw [hsc]
 simp only [ne_eq, not_true_eq_false, if_false]
 rw [hv]
 simp [hdT]
end Go.Proofs.Ytldjakeigjngoaa
/- Plain: what is read is right. -/
namespace Go.Proofs.Ytldjakeigjngoaa
open Go.RowKit Bf
def GT (b : Nat) (l : List TokT) : Prop := ∀ t ∈ l, t.2.2.2.1.length ≤ b ∧ I64 t.2.2.2.2 ∧ (t.1 = 1 → namB t.2.2.2.1 = true)
theorem scanT_ln (s : List UInt8) : ∀ (m i : Nat), s.length - i ≤ m → ∀ t ∈ (scanT s i).1, t.2.2.2.1.length ≤ 4 * s.length := by
 intro m
 induction m with
 | zero => intro i h; rw [scanT_end s i (by omega)]; intro t ht; simp only [List.mem_singleton] at ht; subst ht; simp
 | succ m ih =>
  intro i h
  have hnil : ∀ t ∈ ([] : List TokT), t.2.2.2.1.length ≤ 4 * s.length := fun t ht => by cases ht
  by_cases he : s.length ≤ i
  · rw [scanT_end s i he]; intro t ht; simp only [List.mem_singleton] at ht; subst ht; simp
  · obtain ⟨tk, e0, p0, htk⟩ : ∃ t e p, tokA s i = (t, e, p) := ⟨_, _, _, rfl⟩
    rw [scanT, dif_neg he]
    split
    · exact ih (i + 1) (by omega)
    · split
      · split
        · exact hnil
        · split
          · exact ih _ (by omega)
          · exact hnil
      · split
        · exact hnil
        · split
          · rename_i h0 h2
            split
            · intro t ht
              simp only [List.mem_cons] at ht
              rcases ht with rfl | ht
              · rw [htk]; exact (tokA_bd s i (by omega) htk).2.1
              · exact ih _ (by omega) t ht
            · exact hnil
          · exact hnil
theorem scanR_gt (s : List UInt8) : GT (4 * s.length) (scanR s).1 := by
 intro t ht
 refine ⟨?_, scanR_num s t ht, scanR_nam s t ht⟩
 revert ht
 unfold scanR
 split
 · intro ht; cases ht
 · exact scanT_ln s _ 0 (Nat.le_refl _) t
theorem GT.tail {b : Nat} {l : List TokT} (h : GT b l) : GT b l.tail := fun t ht => h t (List.mem_of_mem_tail ht)
theorem GT.hd {b : Nat} {l : List TokT} (h : GT b l) : (hdT l).2.2.2.1.length ≤ b ∧ I64 (hdT l).2.2.2.2 ∧ ((hdT l).1 = 1 → namB (hdT l).2.2.2.1 = true) := by
 cases l with
 | nil => exact ⟨by simp [hdT, ztk], by unfold I64; simp [hdT, ztk], fun h => by simp [hdT, ztk] at h⟩
 | cons t l => exact h t (by simp)
def Fine (b : Nat) (v : RawP) : Prop := allR v = true ∧ i64R v ∧ lnR b v
def Fines (b : Nat) (l : List RawP) : Prop := allRs l = true ∧ i64Rs l ∧ lnRs b l
theorem Fines.nil (b : Nat) : Fines b [] := ⟨rfl, trivial, trivial⟩
theorem i64Rs_app : ∀ {a b : List RawP}, i64Rs a → i64Rs b → i64Rs (a ++ b)
 | [], _, _, h => h
 | _ :: _, _, h, h' => ⟨h.1, i64Rs_app h.2 h'⟩
theorem lnRs_app {n : Nat} : ∀ {a b : List RawP}, lnRs n a → lnRs n b → lnRs n (a ++ b)
 | [], _, _, h => h
 | _ :: _, _, h, h' => ⟨h.1, lnRs_app h.2 h'⟩
theorem Fines.add {b : Nat} {l : List RawP} {v : RawP} (h : Fines b l) (hv : Fine b v) : Fines b (l ++ [v]) :=
 ⟨by rw [allRs_app, h.1]; simp [allRs, hv.1], i64Rs_app h.2.1 ⟨hv.2.1, trivial⟩, lnRs_app h.2.2 ⟨hv.2.2, trivial⟩⟩
def KeysF (b : Nat) (rec : Bool) (ks : List WordT) (n : Nat) : Prop := (∀ k ∈ ks, namB k.1 = true ∧ k.1.length ≤ b) ∧ ks.length = (if rec = true then n else 0)
theorem elR_fine {b : Nat} {rec : Bool} {val : List TokT → Int → RR RawP} (hv : ∀ l m v l' m', GT b l → val l m = .ok v l' m' → Fine b v ∧ GT b l') {l : List TokT} {m : Int} {k : List WordT} {v : RawP} {l' : List TokT} {m' : Int}
 (hl : GT b l) (h : elR val rec l m = .ok (k, v) l' m') : Fine b v ∧ GT b l' ∧ KeysF b rec k 1 := by
 unfold elR at h
 split at h
 · rename_i hrec
   split at h
   · rename_i hk1
     split at h
     · rename_i hm
       obtain ⟨u, hu, he⟩ := map_ok h
       cases he
       obtain ⟨h1, h2⟩ := hv _ _ _ _ _ hl.tail.tail hu
       refine ⟨h1, h2, ?_, by rw [if_pos hrec]; rfl⟩
       intro k hk
       simp only [List.mem_singleton] at hk
       subst hk
       exact ⟨hl.hd.2.2 hk1, hl.hd.1⟩
     · cases h
   · cases h
 · rename_i hrec
   obtain ⟨u, hu, he⟩ := map_ok h
   cases he
   obtain ⟨h1, h2⟩ := hv _ _ _ _ _ hl hu
   exact ⟨h1, h2, (fun k hk => by cases hk), by rw [if_neg hrec]; rfl⟩
theorem rowsR_fine {b : Nat} {rec : Bool} {val : List TokT → Int → RR RawP} (hv : ∀ l m v l' m', GT b l → val l m = .ok v l' m' → Fine b v ∧ GT b l') {e : List UInt8} : ∀ (f : Nat) {l : List TokT} {m : Int} {ks : List WordT} {vs : List RawP} {r : List WordT × List RawP} {l' : List TokT} {m' : Int},
 GT b l → Fines b vs → KeysF b rec ks vs.length → rowsR val rec e f l m ks vs = .ok r l' m' → Fines b r.2 ∧ KeysF b rec r.1 r.2.length ∧ GT b l'
 | 0, _, _, _, _, _, _, _, _, _, _, h => by cases h
 | f + 1, l, m, ks, vs, r, l', m', hl, hf, hk, h => by
  unfold rowsR at h
  split at h
  · cases h
  · rename_i k v l2 m2 hel
    obtain ⟨h1, h2, h3⟩ := elR_fine hv hl hel
    have hf' := hf.add h1
    have hk' : KeysF b rec (ks ++ k) (vs ++ [v]).length := by
     refine ⟨fun x hx => ?_, ?_⟩
     · rcases List.mem_append.1 hx with hx | hx
       · exact hk.1 x hx
       · exact h3.1 x hx
     · have a1 := hk.2
       have a2 := h3.2
       cases rec
       · simp at a1 a2; simp [a1, a2]
       · simp at a1 a2; simp [a1, a2]
    split at h
    · cases h; exact ⟨hf', hk', h2.tail⟩
    · split at h
      · exact rowsR_fine hv f h2.tail hf' hk' h
      · cases h
theorem bodyR_fine {b : Nat} {rec : Bool} {val : List TokT → Int → RR RawP} (hv : ∀ l m v l' m', GT b l → val l m = .ok v l' m' → Fine b v ∧ GT b l') {e : List UInt8} {l : List TokT} {m : Int} {r : List WordT × List RawP} {l' : List TokT} {m' : Int}
 (hl : GT b l) (h : bodyR val rec e l m = .ok r l' m') : Fines b r.2 ∧ KeysF b rec r.1 r.2.length ∧ GT b l' := by
 have hk : KeysF b rec [] ([] : List RawP).length := ⟨(fun k hk => by cases hk), by cases rec <;> rfl⟩
 unfold bodyR at h
 split at h
 · cases h; exact ⟨.nil b, hk, hl.tail⟩
 · exact rowsR_fine hv _ hl (.nil b) hk h
theorem valR_fine (b : Nat) : ∀ (d : Nat) (l : List TokT) (m : Int) (v : RawP) (l' : List TokT) (m' : Int), GT b l → valR d l m = .ok v l' m' → Fine b v ∧ GT b l'
 | 0, _, _, _, _, _, _, h => by cases h
 | d + 1, l, m, v, l', m', hl, h => by
  have ih := valR_fine b d
  have z64 : I64 0 := by unfold I64; omega
  unfold valR at h
  split at h
  · cases h
  · split at h
    · obtain ⟨r, hb, rfl⟩ := map_ok h
      obtain ⟨h1, h2, h3⟩ := bodyR_fine ih hl.tail hb
      refine ⟨⟨?_, ⟨z64, h1.2.1⟩, ⟨by simp, fun x hx => (h2.1 x hx).2, h1.2.2⟩⟩, h3⟩
      simp only [allR, h1.1, Bool.and_true]
      have hlen := h2.2
      rw [if_pos rfl] at hlen
      have hall : r.1.all (fun x => namB x.1) = true := List.all_eq_true.2 fun x hx => (h2.1 x hx).1
      simp [ownR, hlen, hall]
    · split at h
      · obtain ⟨r, hb, rfl⟩ := map_ok h
        obtain ⟨h1, h2, h3⟩ := bodyR_fine ih hl.tail hb
        have hnk : r.1 = [] := List.length_eq_zero_iff.1 (by have := h2.2; simpa using this)
        refine ⟨⟨?_, ⟨z64, h1.2.1⟩, ⟨by simp, (fun x hx => (h2.1 x hx).2), h1.2.2⟩⟩, h3⟩
        simp [allR, h1.1, ownR, hnk]
      · split at h
        · cases h
          exact ⟨⟨by simp [allR, allRs, ownR], ⟨hl.hd.2.1, trivial⟩, ⟨by simp, (fun x hx => by cases hx), trivial⟩⟩, hl.tail⟩
        · split at h
          · cases h
            exact ⟨⟨by simp [allR, allRs, ownR], ⟨z64, trivial⟩, ⟨hl.hd.1, (fun x hx => by cases hx), trivial⟩⟩, hl.tail⟩
          · split at h
            · rename_i hk1
              have hnb := hl.hd.2.2 hk1
              split at h
              · obtain ⟨u, hu, rfl⟩ := map_ok h
                obtain ⟨l2, h2, hl2⟩ := mustR_ok hu
                obtain ⟨h3, h4⟩ := ih _ _ _ _ _ hl.tail.tail h2
                refine ⟨⟨?_, ⟨z64, h3.2.1, trivial⟩, ⟨hl.hd.1, (fun x hx => by cases hx), h3.2.2, trivial⟩⟩, by rw [hl2]; exact h4.tail⟩
                simp [allR, allRs, ownR, h3.1, hnb]
              · cases h
                refine ⟨⟨?_, ⟨z64, trivial⟩, ⟨hl.hd.1, (fun x hx => by cases hx), trivial⟩⟩, hl.tail⟩
                simp [allR, allRs, ownR, hnb]
            · cases h
theorem back2 {s : List UInt8} {v : RawP} {l : List TokT} {m : Int} (h : rawR s = .ok v l m) : rightR v = true ∧ Fine (4 * s.length) v ∧ s.length ≤ 65536 := by
 obtain ⟨hc, hd, -⟩ := rawR_bounds h
 have hf : Fine (4 * s.length) v := by
  unfold rawR at h
  split at h
  · cases h
  · split at h
    · rename_i u l2 m2 hv
      split at h
      · cases h
        exact (valR_fine _ 24 _ _ _ _ _ (scanR_gt s) hv).1
      · cases h
    · cases h
 refine ⟨?_, hf, ?_⟩
 · unfold rightR
   rw [depW_small v (by omega), cntW_small v (by omega), hf.1]
   simp [hc, hd]
 · unfold rawR at h
   by_cases hl : 65536 < s.length
   · have : scanR s = ([], 7, 65536) := by unfold scanR; rw [if_pos hl]
     rw [this] at h
     simp at h
   · omega
end Go.Proofs.Ytldjakeigjngoaa
/- Plain: how long a written value is. -/
namespace Go.Proofs.Ytldjakeigjngoaa
open Go.RowKit Bf
theorem open_len (b : Nat) (k n : Int) (s : List UInt8) (hs : s.length ≤ b) (hn : I64 n) : (openT k n s).length ≤ 10 * b + 22 ∧ (endT k).length ≤ 1 := by
 have h1 := bodyQ_len _ s (Nat.le_refl _)
 have h2 := putL_len n hn
 have h3 : (quoteL s).length = (bodyQ s).length + 2 := by unfold quoteL; simp
 constructor
 · unfold openT
   repeat' split
   all_goals first | omega | (simp; omega) | simp
 · unfold endT
   repeat' split
   all_goals simp
mutual
theorem fmt_len (b : Nat) : ∀ (v : RawP), lnR b v → i64R v → (fmtR v).length + b + 4 ≤ (11 * b + 27) * (cntR v).toNat
 | .mk k a n s keys kids, hl, hi => by
  have h1 := open_len b k n s hl.1 hi.1
  have h2 := fmt_lens b (decide (k = 5)) true keys kids hl.2.1 hl.2.2 hi.2
  have h3 := cntRs_pos kids
  have h4 : (cntR (.mk k a n s keys kids)).toNat = (cntRs kids).toNat + 1 := by simp only [cntR]; omega
  rw [h4, Nat.mul_add]
  simp only [fmtR, List.length_append]
  omega
theorem fmt_lens (b : Nat) : ∀ (rec fst : Bool) (keys : List WordT) (l : List RawP), (∀ x ∈ keys, x.1.length ≤ b) → lnRs b l → i64Rs l → (fmtRs rec fst keys l).length ≤ (11 * b + 27) * (cntRs l).toNat
 | _, _, _, [], _, _, _ => by simp [fmtRs]
 | rec, fst, keys, x :: l, hk, hl, hi => by
  have h1 := fmt_len b x hl.1 hi.1
  have h2 := fmt_lens b rec false keys.tail l (fun y hy => hk y (List.mem_of_mem_tail hy)) hl.2 hi.2
  have h3 := cntR_pos x
  have h4 := cntRs_pos l
  have h5 : (cntRs (x :: l)).toNat = (cntR x).toNat + (cntRs l).toNat := by simp only [cntRs]; omega
  have h6 : (keys.headD ([], 0)).1.length ≤ b := by
   cases keys with
   | nil => simp
   | cons y ys => exact hk y (by simp)
  have h7 : (if rec then (keys.headD ([], 0)).1 ++ [58, 32] else [] : List UInt8).length ≤ b + 2 := by
   split
   · simp only [List.length_append, List.length_cons, List.length_nil]; omega
   · simp
  have h8 : (if fst then [] else [44, 32] : List UInt8).length ≤ 2 := by split <;> simp
  rw [h5, Nat.mul_add]
  simp only [fmtRs, List.length_append]
  omega
end
end Go.Proofs.Ytldjakeigjngoaa