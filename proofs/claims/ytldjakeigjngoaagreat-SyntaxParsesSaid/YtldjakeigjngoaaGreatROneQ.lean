/- Contracts of the reference of layer 5: hex, One. -/
import Derived.Test.YtldjakeigjngoaaGreatBON
set_option linter.unusedVariables false
set_option linter.unusedSimpArgs false
namespace Go.Proofs.YtldjakeigjngoaaGreat
open Go.RowKit Bf
theorem rscalar_c (n : Int) (b : Bool) (h : scalarB n = b) (w : World) : Calls Tryz.prog 86 #[.int .i32 n] w fun e w' => e = .returned (.bool b) ∧ Below w.heap.size w w' := by
 subst h; exact (rscalar_any n w).mono fun e w' ⟨h1, h2⟩ => ⟨h1, h2 ▸ Below.refl _ _⟩
theorem rencode_c (n : Int) (t : List UInt8) (h : encL n = t) (w : World) : Calls Tryz.prog 87 #[.int .i32 n] w fun e w' => e = .returned (S t) ∧ Below w.heap.size w w' := by
 subst h; exact rencode_any n w
theorem hexV_cases (c : Int) (d : Nat) (h0 : 0 ≤ c) (h : hexV c.toNat = some d) : (48 ≤ c ∧ c < 58 ∧ (d : Int) = c - 48) ∨ (65 ≤ c ∧ c < 71 ∧ (d : Int) = c - 55) ∨ (97 ≤ c ∧ c < 103 ∧ (d : Int) = c - 87) := by
 unfold hexV at h
 split at h
 · cases h; omega
 · split at h
   · cases h; omega
   · split at h
     · cases h; omega
     · cases h
theorem hexV_cases0 (c : Int) (h0 : 0 ≤ c) (h : hexV c.toNat = none) : c < 48 ∨ (58 ≤ c ∧ c < 65) ∨ (71 ≤ c ∧ c < 97) ∨ 103 ≤ c := by
 unfold hexV at h
 split at h
 · cases h
 · split at h
   · cases h
   · split at h
     · cases h
     · omega
set_option maxRecDepth 20000 in
set_option maxHeartbeats 1000000 in
theorem hexR_c (s : List UInt8) (r : Int) (h : hexR s = r) (hs : s.length ≤ 4611686018427387000) (w : World) : Calls Tryz.prog 135 #[S s] w fun e w' => e = .returned (.int .i64 r) ∧ Below w.heap.size w w' := by
 subst h
 by_cases p1 : s.length < 1
 · have hr : hexR s = -1 := by unfold hexR; rw [if_pos (.inl p1)]
   refine sy_enter rfl rfl ?_
   simp only [initFr]
   repeat (first | refine yK ?_ | refine yP ?_ | refine yH ?_ | refine yU ?_ | refine sy_ov (ov_pick rfl rfl rfl) rfl rfl ?_ | refine yT ?_ | refine sy_rt ?_)
   exact ret1 rfl rfl (by rw [hr])
 · by_cases p2 : 6 < s.length
   · have hr : hexR s = -1 := by unfold hexR; rw [if_pos (.inr p2)]
     refine sy_enter rfl rfl ?_
     simp only [initFr]
     repeat (first | refine yK ?_ | refine yP ?_ | refine yG ?_ | refine yU ?_ | refine yE ?_ | refine yT ?_ | refine sy_rt ?_)
     exact ret1 rfl rfl (by rw [hr])
   · have hr : ∀ m, numV 0 s = some m → hexR s = (m : Int) := fun m hm => by unfold hexR; rw [if_neg (by omega), hm]
     have hrn := hexR_num s (by omega) (by omega)
     refine sy_enter rfl rfl ?_
     simp only [initFr]
     repeat (first | refine yK ?_ | refine yP ?_ | refine yG ?_ | refine yU ?_ | refine yE ?_ | refine yN ?_)
     refine sy_loop (α := Int × Int) (fun a => [(0, S s), (3, .int .i64 a.2), (4, .int .i64 a.1)]) (fun a => []) (fun a => NumInv s a.1 a.2) (fun a => (s.length - a.1).toNat) (0, 0) ?_ ?_ (List.Sublist.refl _) ?_
     · exact ⟨by simp, by simp, by simp, by simp, by simp⟩
     · exact ⟨zz, zz, zz, trivial⟩
     rintro ⟨i, n⟩ hi
     have i0 := hi.i0
     have i1 := hi.i1
     have n0 := hi.n0
     dsimp only at hi i0 i1 n0 ⊢
     by_cases hlt : i < s.length
     · have hb := bt_bd s i
       have hn := hi.bd (by omega)
       cases hd : hexV (bt s i).toNat with
       | none =>
        have hk := hi.stop hlt hd
        rcases hexV_cases0 _ hb.1 hd with q1 | ⟨q1, q2⟩ | ⟨q1, q2⟩ | q1
        all_goals (
         repeat (first | refine yK ?_ | refine yP ?_ | refine yG ?_ | refine yH ?_ | refine yU ?_ | refine yM ?_ | refine sy_ov (ov_pick rfl rfl rfl) rfl rfl ?_ | refine yI ?_ | (refine sy_ov (ov_convk rfl ?_ ?_) rfl rfl ?_; omega; omega) | refine yT ?_ | refine yN ?_ | refine sy_rt ?_)
         exact ret1 rfl rfl (by rw [hrn, hk])
         )
       | some d =>
        have h16 := hexV_lt hd
        rcases hexV_cases _ d hb.1 hd with ⟨q1, q2, q3⟩ | ⟨q1, q2, q3⟩ | ⟨q1, q2, q3⟩
        · repeat (first | refine yK ?_ | refine yP ?_ | refine yG ?_ | refine yH ?_ | (refine yR ?_ ?_ ?_; omega; omega) | refine yU ?_ | refine yM ?_ | refine sy_ov (ov_pick rfl rfl rfl) rfl rfl ?_ | refine yI ?_ | (refine sy_ov (ov_convk rfl ?_ ?_) rfl rfl ?_; omega; omega) | refine yT ?_ | refine yN ?_)
          refine sy_back (i + 1, n * 16 + d) (hi.step hlt hd) (by dsimp only; omega) ⟨zz, ⟨_, rfl, by rw [q3, Int.mul_comm n 16]⟩, zz, trivial⟩ (List.Sublist.refl _)
        · repeat (first | refine yK ?_ | refine yP ?_ | refine yG ?_ | refine yH ?_ | (refine yR ?_ ?_ ?_; omega; omega) | refine yU ?_ | refine yM ?_ | refine sy_ov (ov_pick rfl rfl rfl) rfl rfl ?_ | refine yI ?_ | (refine sy_ov (ov_convk rfl ?_ ?_) rfl rfl ?_; omega; omega) | refine yT ?_ | refine yN ?_)
          refine sy_back (i + 1, n * 16 + d) (hi.step hlt hd) (by dsimp only; omega) ⟨zz, ⟨_, rfl, by rw [q3, Int.mul_comm n 16]⟩, zz, trivial⟩ (List.Sublist.refl _)
        · repeat (first | refine yK ?_ | refine yP ?_ | refine yG ?_ | (refine yR ?_ ?_ ?_; omega; omega) | refine yU ?_ | refine yM ?_ | refine yI ?_ | (refine sy_ov (ov_convk rfl ?_ ?_) rfl rfl ?_; omega; omega) | refine yT ?_ | refine yN ?_)
          refine sy_back (i + 1, n * 16 + d) (hi.step hlt hd) (by dsimp only; omega) ⟨zz, ⟨_, rfl, by rw [q3, Int.mul_comm n 16]⟩, zz, trivial⟩ (List.Sublist.refl _)
     · have he := hi.eq
       rw [List.drop_of_length_le (by omega)] at he
       repeat (first | refine yK ?_ | refine yP ?_ | refine yU ?_ | refine yN ?_ | refine sy_rt ?_)
       refine ret1 rfl rfl ?_
       rw [hr _ he, Int.toNat_of_nonneg n0]
theorem bt_cc (a c : UInt8) (l : List UInt8) (k : Int) (h : 2 ≤ k) : bt (a :: c :: l) k = bt l (k - 2) := by
 unfold bt; rw [show k.toNat = (k - 2).toNat + 2 by omega]; rfl
set_option maxRecDepth 20000 in
set_option maxHeartbeats 4000000 in
theorem rone_c (q : List UInt8) (i : Int) (o : List UInt8) (n : Nat) (h : oneAt q i = (o, n)) (hs : q.length ≤ 4611686018427387000) (p1 : -9223372036854775808 ≤ i) (p2 : i ≤ 9223372036854775807) (w : World) :
 Calls Tryz.prog 118 #[S q, .int .i64 i] w fun e w' => e = .returned (.tuple #[S o, .int .i64 (n : Int)]) ∧ Below w.heap.size w w' := by
 unfold oneAt at h
 by_cases q1 : i < 0
 · rw [if_pos (by omega)] at h
   obtain ⟨rfl, rfl⟩ := Prod.mk.inj h
   refine sy_enter rfl rfl ?_
   simp only [initFr]
   repeat (first | refine yK ?_ | refine yP ?_ | refine yH ?_ | refine sy_ov (ov_pick rfl rfl rfl) rfl rfl ?_ | refine yT ?_ | refine sy_rt ?_)
   exact ret2 rfl rfl rfl rfl
 · by_cases q0 : (q.length : Int) ≤ i
   · rw [if_pos (by omega)] at h
     obtain ⟨rfl, rfl⟩ := Prod.mk.inj h
     refine sy_enter rfl rfl ?_
     simp only [initFr]
     repeat (first | refine yK ?_ | refine yP ?_ | refine yG ?_ | refine yH ?_ | refine yU ?_ | refine yE ?_ | refine sy_ov (ov_pick rfl rfl rfl) rfl rfl ?_ | refine yT ?_ | refine sy_rt ?_)
     exact ret2 rfl rfl rfl rfl
   · by_cases q2 : (q.length : Int) - i < 2
     · rw [if_neg (by omega), oneL_no _ (.inl (by rw [List.length_drop]; omega))] at h
       obtain ⟨rfl, rfl⟩ := Prod.mk.inj h
       refine sy_enter rfl rfl ?_
       simp only [initFr]
       repeat (first | refine yK ?_ | refine yP ?_ | refine yG ?_ | refine yH ?_ | (refine yR ?_ ?_ ?_; omega; omega) | refine yU ?_ | refine yE ?_ | refine sy_ov (ov_pick rfl rfl rfl) rfl rfl ?_ | refine yT ?_ | refine sy_rt ?_)
       exact ret2 rfl rfl rfl rfl
     · rw [if_neg (by omega)] at h
       obtain ⟨a, c, l, e1, e2, e3, e4⟩ := drop2 q i (by omega) (by omega)
       have hc := c.toNat_lt
       have hll : l.length = q.length - (i + 2).toNat := by rw [← e4, List.length_drop]
       obtain ⟨D, hD⟩ : ∃ D, q.drop i.toNat = D := ⟨_, rfl⟩
       have hDl : (q.drop i.toNat).length = l.length + 2 := by rw [e1]; rfl
       have hD1 : bt (q.drop i.toNat) 1 = (c.toNat : Int) := by rw [e1]; rfl
       have hD2 : bt (q.drop i.toNat) 2 = bt l 0 := by rw [e1]; rfl
       have hDt : ((q.drop i.toNat).drop 1).take 1 = [c] := by rw [e1]; rfl
       have hD4 : ((q.drop i.toNat).drop 2).take 2 = l.take 2 := by rw [e1]; rfl
       have hDk : ∀ k : Int, 2 ≤ k → bt (q.drop i.toNat) k = bt l (k - 2) := fun k hk => by rw [e1]; exact bt_cc a c l k hk
       have hDx : ∀ k : Nat, ((q.drop i.toNat).drop 3).take k = (l.drop 1).take k := fun k => by rw [e1]; rfl
       rw [e1, oneL_cons] at h
       by_cases q3 : bt q i = 92
       · rw [if_pos (by omega)] at h
         obtain ⟨x, hx⟩ : ∃ x, c.toNat = x := ⟨_, rfl⟩
         rw [hx] at h e3 hc hD1
         have hcx : c = UInt8.ofNat x := by rw [← hx]; simp
         unfold oneT at h
         by_cases c1 : x = 34
         · rw [if_pos (.inl c1)] at h
           obtain ⟨rfl, rfl⟩ := Prod.mk.inj h
           refine sy_enter rfl rfl ?_
           simp only [initFr]
           repeat (first | refine yK ?_ | refine yP ?_ | refine yG ?_ | (refine yR ?_ ?_ ?_; omega; omega) | refine yU ?_ | (refine sy_ov (ov_slice rfl rfl rfl ?_ ?_ ?_) rfl rfl ?_; (focus (first | omega | (simp <;> omega))); (focus (first | omega | (simp <;> omega))); focus (first | omega | (simp <;> omega))) | (refine yV ?_ ?_ ?_; omega; omega) | refine yE ?_ | refine yI ?_ | refine yT ?_ | refine yN ?_ | refine sy_rt ?_)
           refine ret2 rfl rfl rfl ?_
           show Value.tuple #[S (((q.drop i.toNat).drop 1).take 1), _] = _
           rw [hDt, hcx]; rfl
         · by_cases c2 : x = 92
           · rw [if_pos (.inr c2)] at h
             obtain ⟨rfl, rfl⟩ := Prod.mk.inj h
             refine sy_enter rfl rfl ?_
             simp only [initFr]
             repeat (first | refine yK ?_ | refine yP ?_ | refine yG ?_ | (refine yR ?_ ?_ ?_; omega; omega) | refine yU ?_ | (refine sy_ov (ov_slice rfl rfl rfl ?_ ?_ ?_) rfl rfl ?_; (focus (first | omega | (simp <;> omega))); (focus (first | omega | (simp <;> omega))); focus (first | omega | (simp <;> omega))) | (refine yV ?_ ?_ ?_; omega; omega) | refine yE ?_ | refine yI ?_ | refine yT ?_ | refine yN ?_ | refine sy_rt ?_)
             refine ret2 rfl rfl rfl ?_
             show Value.tuple #[S (((q.drop i.toNat).drop 1).take 1), _] = _
             rw [hDt, hcx]; rfl
           · rw [if_neg (by omega)] at h
             by_cases c3 : x = 116
             · rw [if_pos c3] at h
               obtain ⟨rfl, rfl⟩ := Prod.mk.inj h
               refine sy_enter rfl rfl ?_
               simp only [initFr]
               repeat (first | refine yK ?_ | refine yP ?_ | refine yG ?_ | (refine yR ?_ ?_ ?_; omega; omega) | refine yU ?_ | (refine yV ?_ ?_ ?_; omega; omega) | refine yE ?_ | refine yI ?_ | refine yT ?_ | refine yN ?_ | refine sy_rt ?_)
               exact ret2 rfl rfl rfl rfl
             · rw [if_neg c3] at h
               by_cases c4 : x = 110
               · rw [if_pos c4] at h
                 obtain ⟨rfl, rfl⟩ := Prod.mk.inj h
                 refine sy_enter rfl rfl ?_
                 simp only [initFr]
                 repeat (first | refine yK ?_ | refine yP ?_ | refine yG ?_ | (refine yR ?_ ?_ ?_; omega; omega) | refine yU ?_ | (refine yV ?_ ?_ ?_; omega; omega) | refine yE ?_ | refine yI ?_ | refine yT ?_ | refine yN ?_ | refine sy_rt ?_)
                 exact ret2 rfl rfl rfl rfl
               · rw [if_neg c4] at h
                 by_cases c5 : x = 114
                 · rw [if_pos c5] at h
                   obtain ⟨rfl, rfl⟩ := Prod.mk.inj h
                   refine sy_enter rfl rfl ?_
                   simp only [initFr]
                   repeat (first | refine yK ?_ | refine yP ?_ | refine yG ?_ | (refine yR ?_ ?_ ?_; omega; omega) | refine yU ?_ | (refine yV ?_ ?_ ?_; omega; omega) | refine yE ?_ | refine yI ?_ | refine yT ?_ | refine yN ?_ | refine sy_rt ?_)
                   exact ret2 rfl rfl rfl rfl
                 · rw [if_neg c5] at h
                   by_cases c6 : x = 120
                   · rw [if_pos c6] at h
                     by_cases q4 : l.length < 2
                     · rw [if_pos q4] at h
                       obtain ⟨rfl, rfl⟩ := Prod.mk.inj h
                       refine sy_enter rfl rfl ?_
                       simp only [initFr]
                       repeat (first | refine yK ?_ | refine yP ?_ | refine yG ?_ | refine yH ?_ | (refine yR ?_ ?_ ?_; omega; omega) | refine yU ?_ | (refine yV ?_ ?_ ?_; omega; omega) | refine yE ?_ | refine sy_ov (ov_pick rfl rfl rfl) rfl rfl ?_ | refine yI ?_ | refine yT ?_ | refine yN ?_ | refine sy_rt ?_)
                       exact ret2 rfl rfl rfl rfl
                     · rw [if_neg q4] at h
                       have ht2 : (l.take 2).length = 2 := by rw [List.length_take]; omega
                       have hhr := hexR_num (l.take 2) (by omega) (by omega)
                       rw [← hD4] at hhr
                       obtain ⟨r, hr⟩ : ∃ r, numL (l.take 2) = r := ⟨_, rfl⟩
                       rw [← hD4] at hr
                       rw [hr] at hhr
                       have hls : (((q.drop i.toNat).drop 2).take 2).length ≤ 4611686018427387000 := by rw [hD4]; omega
                       rw [← hD4, hr] at h
                       cases r with
                       | none =>
                        obtain ⟨rfl, rfl⟩ := Prod.mk.inj h
                        refine sy_enter rfl rfl ?_
                        simp only [initFr]
                        repeat (first | refine yK ?_ | refine yP ?_ | refine yG ?_ | (refine yR ?_ ?_ ?_; omega; omega) | refine yU ?_ | (refine sy_ov (ov_slice rfl rfl rfl ?_ ?_ ?_) rfl rfl ?_; (focus (first | omega | (simp <;> omega))); (focus (first | omega | (simp <;> omega))); focus (first | omega | (simp <;> omega))) | (refine yV ?_ ?_ ?_; omega; omega) | refine yE ?_ | refine yI ?_ | refine yT ?_ | refine yN ?_)
                        refine sy_ov (ov_call rfl (fun w _ => hexR_c (((q.drop i.toNat).drop 2).take 2) (-1) hhr hls w)) rfl rfl ?_
                        repeat (first | refine yK ?_ | refine yP ?_ | refine yG ?_ | refine yM ?_ | refine yN ?_ | refine sy_rt ?_)
                        exact ret2 rfl rfl rfl rfl
                       | some m =>
                        obtain ⟨rfl, rfl⟩ := Prod.mk.inj h
                        have hm := numL_lt2 _ m (by rw [hD4, ht2]; exact Nat.le_refl 2) hr
                        refine sy_enter rfl rfl ?_
                        simp only [initFr]
                        repeat (first | refine yK ?_ | refine yP ?_ | refine yG ?_ | (refine yR ?_ ?_ ?_; omega; omega) | refine yU ?_ | (refine sy_ov (ov_slice rfl rfl rfl ?_ ?_ ?_) rfl rfl ?_; (focus (first | omega | (simp <;> omega))); (focus (first | omega | (simp <;> omega))); focus (first | omega | (simp <;> omega))) | (refine yV ?_ ?_ ?_; omega; omega) | refine yE ?_ | refine yI ?_ | refine yT ?_ | refine yN ?_)
                        refine sy_ov (ov_call rfl (fun w _ => hexR_c (((q.drop i.toNat).drop 2).take 2) (m : Int) hhr hls w)) rfl rfl ?_
                        repeat (first | refine yK ?_ | refine yP ?_ | refine yG ?_ | (refine sy_ov (ov_slice rfl rfl rfl ?_ ?_ ?_) rfl rfl ?_; (focus (first | omega | (simp <;> omega))); (focus (first | omega | (simp <;> omega))); focus (first | omega | (simp <;> omega))) | refine yM ?_ | refine yT ?_)
                        refine sy_ov (ov_call rfl (fun w _ => hexR_c (((q.drop i.toNat).drop 2).take 2) (m : Int) hhr hls w)) rfl rfl ?_
                        repeat (refine sy_ov (ov_convk rfl ?_ ?_) rfl rfl ?_; omega; omega)
                        refine sy_buildSlice rfl rfl rfl rfl rfl rfl rfl rfl ?_
                        intro b
                        refine sy_ov (ov_bytes 0 (ns := [(m : Int)]) rfl rfl rfl) rfl rfl ?_
                        repeat (first | refine yK ?_ | refine yP ?_ | refine sy_rt ?_)
                        exact ret2 rfl rfl rfl rfl
                   · rw [if_neg c6] at h
                     by_cases c7 : x = 117
                     · rw [if_pos c7] at h
                       obtain ⟨so, sn, hsc⟩ : ∃ so sn, scalarL l = (so, sn) := ⟨_, _, rfl⟩
                       rw [hsc] at h
                       simp only at h
                       have noGood : (∀ j : Nat, 2 ≤ j → j ≤ 7 → j < l.length → ¬ goodJ l j) → o = [] ∧ n = 0 := fun hall => by
                        by_cases hso : so = []
                        · rw [if_pos hso] at h
                          obtain ⟨rfl, rfl⟩ := Prod.mk.inj h
                          exact ⟨rfl, rfl⟩
                        · obtain ⟨j, j1, j2, j3, j4⟩ := scalarL_good l (by rw [hsc]; exact hso)
                          exact absurd j4 (hall j j1 j2 j3)
                       refine sy_enter rfl rfl ?_
                       simp only [initFr]
                       repeat (first | refine yK ?_ | refine yP ?_ | refine yG ?_ | (refine yR ?_ ?_ ?_; omega; omega) | refine yU ?_ | (refine yV ?_ ?_ ?_; omega; omega) | refine yE ?_ | refine yI ?_ | refine yT ?_ | refine yN ?_)
                       refine sy_loop (α := Int) (fun k => [(6, S (q.drop i.toNat)), (7, .int .i64 k)]) (fun _ => []) (fun k => 4 ≤ k ∧ k ≤ 10 ∧ ∀ j : Nat, 2 ≤ j → (j : Int) < k - 2 → j < l.length → ¬ goodJ l j) (fun k => (10 - k).toNat) 4 ⟨by omega, by omega, fun j h1 h2 => by omega⟩ ⟨zz, zz, trivial⟩ nl ?_
                       rintro k ⟨k0, k1, k2⟩
                       by_cases r1 : k ≤ 9
                       · by_cases r2 : k < (l.length : Int) + 2
                         · have hbk := hDk k (by omega)
                           have next : ¬ goodJ l (k - 2).toNat → ∀ j : Nat, 2 ≤ j → (j : Int) < k + 1 - 2 → j < l.length → ¬ goodJ l j := fun hno j h1 h2 h3 => by
                            by_cases e : j = (k - 2).toNat
                            · subst e; exact hno
                            · exact k2 j h1 (by omega) h3
                           have ej : ((k - 2).toNat : Int) = k - 2 := by omega
                           have et : (k - 2).toNat - 1 = (k - 3).toNat := by omega
                           have hx3 := hDx (k - 3).toNat
                           have htl : (((q.drop i.toNat).drop 3).take (k - 3).toNat).length = (k - 3).toNat := by rw [hx3, List.length_take, List.length_drop]; omega
                           have hhr := hexR_num (((q.drop i.toNat).drop 3).take (k - 3).toNat) (by omega) (by omega)
                           have hls : (((q.drop i.toNat).drop 3).take (k - 3).toNat).length ≤ 4611686018427387000 := by omega
                           by_cases r3 : bt l 0 = 123
                           · by_cases r4 : bt l (k - 2) = 125
                             · obtain ⟨r, hr⟩ : ∃ r, numL (((q.drop i.toNat).drop 3).take (k - 3).toNat) = r := ⟨_, rfl⟩
                               rw [hr] at hhr
                               have hr2 := hr
                               rw [hx3, ← et] at hr2
                               cases r with
                               | none =>
                                repeat (first | refine yK ?_ | refine yP ?_ | refine yG ?_ | refine yU ?_ | (refine sy_ov (ov_slice rfl rfl rfl ?_ ?_ ?_) rfl rfl ?_; (focus (first | omega | (simp <;> omega))); (focus (first | omega | (simp <;> omega))); focus (first | omega | (simp <;> omega))) | refine yM ?_ | refine yI ?_ | refine yT ?_)
                                refine sy_ov (ov_call rfl (fun w _ => hexR_c (((q.drop i.toNat).drop 3).take (k - 3).toNat) (-1) hhr hls w)) rfl rfl ?_
                                repeat (first | refine yK ?_ | refine yP ?_ | refine yG ?_ | refine yH ?_ | (refine yR ?_ ?_ ?_; omega; omega) | refine yM ?_ | refine sy_ov (ov_pick rfl rfl rfl) rfl rfl ?_ | refine yN ?_)
                                refine sy_back (k + 1) ⟨by omega, by omega, next (fun hg => by obtain ⟨_, _, m, g, _⟩ := hg; rw [hr2] at g; cases g)⟩ (by omega) ⟨zz, zz, trivial⟩ nl
                               | some m =>
                                have hm := numL_lt6 _ m (by omega) hr
                                obtain ⟨sb, hsb⟩ : ∃ sb, scalarB (m : Int) = sb := ⟨_, rfl⟩
                                cases sb with
                                | true =>
                                 have hg : goodJ l (k - 2).toNat := ⟨r3, by rw [ej]; exact r4, m, hr2, hsb⟩
                                 obtain ⟨m2, g1, g2, g3⟩ := goodJ_scalar l (k - 2).toNat (by omega) (by omega) (by omega) hg
                                 rw [hr2] at g1
                                 have em := Option.some.inj g1
                                 subst em
                                 rw [hsc] at g2
                                 obtain ⟨rfl, rfl⟩ := Prod.mk.inj g2
                                 rw [if_neg g3] at h
                                 obtain ⟨rfl, rfl⟩ := Prod.mk.inj h
                                 repeat (first | refine yK ?_ | refine yP ?_ | refine yG ?_ | refine yU ?_ | (refine sy_ov (ov_slice rfl rfl rfl ?_ ?_ ?_) rfl rfl ?_; (focus (first | omega | (simp <;> omega))); (focus (first | omega | (simp <;> omega))); focus (first | omega | (simp <;> omega))) | refine yM ?_ | refine yI ?_ | refine yT ?_)
                                 refine sy_ov (ov_call rfl (fun w _ => hexR_c (((q.drop i.toNat).drop 3).take (k - 3).toNat) (m : Int) hhr hls w)) rfl rfl ?_
                                 repeat (first | refine yP ?_ | refine yG ?_ | (refine sy_ov (ov_slice rfl rfl rfl ?_ ?_ ?_) rfl rfl ?_; (focus (first | omega | (simp <;> omega))); (focus (first | omega | (simp <;> omega))); focus (first | omega | (simp <;> omega))) | refine yM ?_)
                                 refine sy_ov (ov_call rfl (fun w _ => hexR_c (((q.drop i.toNat).drop 3).take (k - 3).toNat) (m : Int) hhr hls w)) rfl rfl ?_
                                 repeat (first | refine yG ?_ | (refine sy_ov (ov_convk rfl ?_ ?_) rfl rfl ?_; omega; omega))
                                 refine sy_ov (ov_call rfl (fun w _ => rscalar_c (m : Int) true hsb w)) rfl rfl ?_
                                 repeat (first | refine yK ?_ | refine yP ?_ | (refine sy_ov (ov_slice rfl rfl rfl ?_ ?_ ?_) rfl rfl ?_; (focus (first | omega | (simp <;> omega))); (focus (first | omega | (simp <;> omega))); focus (first | omega | (simp <;> omega))) | refine yM ?_ | refine yT ?_)
                                 refine sy_ov (ov_call rfl (fun w _ => hexR_c (((q.drop i.toNat).drop 3).take (k - 3).toNat) (m : Int) hhr hls w)) rfl rfl ?_
                                 repeat (refine sy_ov (ov_convk rfl ?_ ?_) rfl rfl ?_; omega; omega)
                                 refine sy_ov (ov_call rfl (fun w _ => rencode_c (m : Int) _ rfl w)) rfl rfl ?_
                                 repeat (first | refine yK ?_ | refine yP ?_ | (refine yR ?_ ?_ ?_; omega; omega) | refine sy_rt ?_)
                                 refine ret2 rfl rfl rfl ?_
                                 rw [show ((2 + ((k - 2).toNat + 1) : Nat) : Int) = k + 1 by omega]
                                | false =>
                                 repeat (first | refine yK ?_ | refine yP ?_ | refine yG ?_ | refine yU ?_ | (refine sy_ov (ov_slice rfl rfl rfl ?_ ?_ ?_) rfl rfl ?_; (focus (first | omega | (simp <;> omega))); (focus (first | omega | (simp <;> omega))); focus (first | omega | (simp <;> omega))) | refine yM ?_ | refine yI ?_ | refine yT ?_)
                                 refine sy_ov (ov_call rfl (fun w _ => hexR_c (((q.drop i.toNat).drop 3).take (k - 3).toNat) (m : Int) hhr hls w)) rfl rfl ?_
                                 repeat (first | refine yP ?_ | refine yG ?_ | (refine sy_ov (ov_slice rfl rfl rfl ?_ ?_ ?_) rfl rfl ?_; (focus (first | omega | (simp <;> omega))); (focus (first | omega | (simp <;> omega))); focus (first | omega | (simp <;> omega))) | refine yM ?_)
                                 refine sy_ov (ov_call rfl (fun w _ => hexR_c (((q.drop i.toNat).drop 3).take (k - 3).toNat) (m : Int) hhr hls w)) rfl rfl ?_
                                 repeat (first | refine yG ?_ | (refine sy_ov (ov_convk rfl ?_ ?_) rfl rfl ?_; omega; omega))
                                 refine sy_ov (ov_call rfl (fun w _ => rscalar_c (m : Int) false hsb w)) rfl rfl ?_
                                 repeat (first | refine yK ?_ | refine yP ?_ | (refine yR ?_ ?_ ?_; omega; omega) | refine yM ?_ | refine yN ?_)
                                 refine sy_back (k + 1) ⟨by omega, by omega, next (fun hg => by
                                  obtain ⟨_, _, m2, g, g5⟩ := hg
                                  rw [hr2] at g
                                  have em := Option.some.inj g
                                  subst em
                                  rw [hsb] at g5; cases g5)⟩ (by omega) ⟨zz, zz, trivial⟩ nl
                             · repeat (first | refine yK ?_ | refine yP ?_ | refine yG ?_ | refine yH ?_ | (refine yR ?_ ?_ ?_; omega; omega) | refine yU ?_ | refine yM ?_ | refine sy_ov (ov_pick rfl rfl rfl) rfl rfl ?_ | refine yI ?_ | refine yT ?_ | refine yN ?_)
                               refine sy_back (k + 1) ⟨by omega, by omega, next (fun hg => by have := hg.2.1; rw [ej] at this; exact r4 this)⟩ (by omega) ⟨zz, zz, trivial⟩ nl
                           · repeat (first | refine yK ?_ | refine yP ?_ | refine yG ?_ | refine yH ?_ | (refine yR ?_ ?_ ?_; omega; omega) | refine yU ?_ | refine yM ?_ | refine sy_ov (ov_pick rfl rfl rfl) rfl rfl ?_ | refine yI ?_ | refine yT ?_ | refine yN ?_)
                             refine sy_back (k + 1) ⟨by omega, by omega, next (fun hg => r3 hg.1)⟩ (by omega) ⟨zz, zz, trivial⟩ nl
                         · obtain ⟨rfl, rfl⟩ := noGood (fun j j1 j2 j3 => k2 j j1 (by omega) j3)
                           repeat (first | refine yK ?_ | refine yP ?_ | refine yG ?_ | refine yU ?_ | refine yM ?_ | refine yN ?_ | refine sy_rt ?_)
                           exact ret2 rfl rfl rfl rfl
                       · obtain ⟨rfl, rfl⟩ := noGood (fun j j1 j2 j3 => k2 j j1 (by omega) j3)
                         repeat (first | refine yK ?_ | refine yP ?_ | refine yH ?_ | refine sy_ov (ov_pick rfl rfl rfl) rfl rfl ?_ | refine yN ?_ | refine sy_rt ?_)
                         exact ret2 rfl rfl rfl rfl
                     · rw [if_neg c7] at h
                       obtain ⟨rfl, rfl⟩ := Prod.mk.inj h
                       refine sy_enter rfl rfl ?_
                       simp only [initFr]
                       repeat (first | refine yK ?_ | refine yP ?_ | refine yG ?_ | (refine yR ?_ ?_ ?_; omega; omega) | refine yU ?_ | (refine yV ?_ ?_ ?_; omega; omega) | refine yE ?_ | refine yI ?_ | refine yN ?_ | refine sy_rt ?_)
                       exact ret2 rfl rfl rfl rfl
       · rw [if_neg (by omega)] at h
         obtain ⟨rfl, rfl⟩ := Prod.mk.inj h
         refine sy_enter rfl rfl ?_
         simp only [initFr]
         repeat (first | refine yK ?_ | refine yP ?_ | refine yG ?_ | (refine yR ?_ ?_ ?_; omega; omega) | refine yU ?_ | refine yE ?_ | refine yI ?_ | refine yT ?_ | refine sy_rt ?_)
         exact ret2 rfl rfl rfl rfl
end Go.Proofs.YtldjakeigjngoaaGreat