/- Contracts of the package names, and of the reference's names. -/
import Derived.Test.YtldjakeigjngoaaGreatBPL
import Derived.Test.YtldjakeigjngoaaGreatEscQ
set_option linter.unusedVariables false
set_option linter.unusedSimpArgs false
namespace Go.Proofs.YtldjakeigjngoaaGreat
open Go.RowKit Bf
def leI (c : Int) : Bool := decide (97 ≤ c) && decide (c ≤ 122)
def sigI (c : Int) : Bool := leI c || (decide (48 ≤ c) && decide (c ≤ 57)) || decide (c = 95)
theorem leI_eq (c : UInt8) : leI (c.toNat : Int) = letB c := by
 unfold leI letB
 rw [Bool.eq_iff_iff]; simp; omega
theorem sigI_eq (c : UInt8) : sigI (c.toNat : Int) = sigB c := by
 have h1 : (decide ((48 : Int) ≤ (c.toNat : Int)) && decide ((c.toNat : Int) ≤ 57)) = (decide (48 ≤ c.toNat) && decide (c.toNat ≤ 57)) := by rw [decide_eq_decide.2 (show ((48 : Int) ≤ (c.toNat : Int)) ↔ 48 ≤ c.toNat by omega), decide_eq_decide.2 (show ((c.toNat : Int) ≤ 57) ↔ c.toNat ≤ 57 by omega)]
 have h2 : decide ((c.toNat : Int) = 95) = decide (c.toNat = 95) := decide_eq_decide.2 (by omega)
 unfold sigI sigB
 rw [leI_eq, h1, h2]
theorem letter_c (c : Int) (b : Bool) (h : leI c = b) (w : World) : Calls Tryz.prog 125 #[.int .u8 c] w fun e w' => e = .returned (.bool b) ∧ Below w.heap.size w w' := by
 subst h
 by_cases h1 : 97 ≤ c
 · by_cases h2 : c ≤ 122
   · refine sy_enter rfl rfl ?_
     simp only [initFr]
     repeat (first | refine yK ?_ | refine yP ?_ | refine yG ?_ | refine yM ?_ | refine sy_rt ?_)
     exact ret1 rfl rfl (by simp [leI, h1, h2])
   · refine sy_enter rfl rfl ?_
     simp only [initFr]
     repeat (first | refine yK ?_ | refine yP ?_ | refine yG ?_ | refine yM ?_ | refine sy_rt ?_)
     exact ret1 rfl rfl (by simp [leI, h1, h2])
 · refine sy_enter rfl rfl ?_
   simp only [initFr]
   repeat (first | refine yK ?_ | refine yP ?_ | refine yH ?_ | refine sy_ov (ov_pick rfl rfl rfl) rfl rfl ?_ | refine sy_rt ?_)
   exact ret1 rfl rfl (by simp [leI, h1])
theorem sign_c (c : Int) (b : Bool) (h : sigI c = b) (w : World) : Calls Tryz.prog 126 #[.int .u8 c] w fun e w' => e = .returned (.bool b) ∧ Below w.heap.size w w' := by
 subst h
 obtain ⟨x, hx⟩ : ∃ x, leI c = x := ⟨_, rfl⟩
 cases x with
 | true =>
  refine sy_enter rfl rfl ?_
  simp only [initFr]
  repeat (first | refine yK ?_ | refine yP ?_)
  refine sy_ov (ov_call rfl (fun w _ => letter_c c true hx w)) rfl rfl ?_
  repeat (first | refine yK ?_ | refine yP ?_ | refine sy_guard_undef rfl rfl rfl rfl rfl ?_ | refine yH ?_ | refine sy_ov (ov_pick rfl rfl rfl) rfl rfl ?_ | refine sy_rt ?_)
  exact ret1 rfl rfl (by simp [sigI, hx])
 | false =>
  by_cases h1 : 48 ≤ c
  · by_cases h2 : c ≤ 57
    · refine sy_enter rfl rfl ?_
      simp only [initFr]
      repeat (first | refine yK ?_ | refine yP ?_)
      refine sy_ov (ov_call rfl (fun w _ => letter_c c false hx w)) rfl rfl ?_
      repeat (first | refine yK ?_ | refine yP ?_ | refine yG ?_ | refine yH ?_ | refine yM ?_ | refine yE ?_ | refine sy_ov (ov_pick rfl rfl rfl) rfl rfl ?_ | refine sy_rt ?_)
      exact ret1 rfl rfl (by simp [sigI, h1, h2])
    · refine sy_enter rfl rfl ?_
      simp only [initFr]
      repeat (first | refine yK ?_ | refine yP ?_)
      refine sy_ov (ov_call rfl (fun w _ => letter_c c false hx w)) rfl rfl ?_
      repeat (first | refine yK ?_ | refine yP ?_ | refine yG ?_ | refine yM ?_ | refine yE ?_ | refine sy_rt ?_)
      exact ret1 rfl rfl (by simp [sigI, hx, h1, h2])
  · refine sy_enter rfl rfl ?_
    simp only [initFr]
    repeat (first | refine yK ?_ | refine yP ?_)
    refine sy_ov (ov_call rfl (fun w _ => letter_c c false hx w)) rfl rfl ?_
    repeat (first | refine yK ?_ | refine yP ?_ | refine yG ?_ | refine yH ?_ | refine yE ?_ | refine sy_ov (ov_pick rfl rfl rfl) rfl rfl ?_ | refine sy_rt ?_)
    exact ret1 rfl rfl (by simp [sigI, hx, h1])
def takeN (s : List UInt8) (i : Int) : List UInt8 × Int := if i < 0 ∨ (s.length : Int) ≤ i then ([], 0) else ((s.drop i.toNat).take (namN (s.drop i.toNat)), i + namN (s.drop i.toNat))
structure NamInv (s : List UInt8) (i j : Int) : Prop where
 i0 : i ≤ j
 j1 : j ≤ s.length
 eq : (namN (s.drop i.toNat) : Int) = j - i + sigL (s.drop j.toNat)
theorem sig_step (s : List UInt8) (j : Int) (h0 : 0 ≤ j) (h1 : j < s.length) : sigL (s.drop j.toNat) = if sigI (bt s j) then sigL (s.drop (j + 1).toNat) + 1 else 0 := by
 obtain ⟨c, l, hd, hb⟩ := bt_nat s j h0 h1
 have hd2 : s.drop (j + 1).toNat = l := by rw [show (j + 1).toNat = j.toNat + 1 by omega, ← List.drop_drop, hd]; rfl
 rw [hd, hd2, hb, sigI_eq, sigL_cons]
theorem nam_step (s : List UInt8) (j : Int) (h0 : 0 ≤ j) (h1 : j < s.length) : namN (s.drop j.toNat) = if leI (bt s j) then sigL (s.drop (j + 1).toNat) + 1 else 0 := by
 obtain ⟨c, l, hd, hb⟩ := bt_nat s j h0 h1
 have hd2 : s.drop (j + 1).toNat = l := by rw [show (j + 1).toNat = j.toNat + 1 by omega, ← List.drop_drop, hd]; rfl
 rw [hd, hd2, hb, leI_eq, namN_cons]
theorem le_sigI {c : Int} (h : leI c = true) : sigI c = true := by unfold sigI; rw [h]; rfl
set_option maxRecDepth 20000 in
set_option maxHeartbeats 1000000 in
theorem take_c (s : List UInt8) (i : Int) (o : List UInt8) (e : Int) (h : takeN s i = (o, e)) (hs : s.length ≤ 9223372036854775807) (w : World) :
 Calls Tryz.prog 107 #[S s, .int .i64 i] w fun x w' => x = .returned (.tuple #[S o, .int .i64 e]) ∧ Below w.heap.size w w' := by
 unfold takeN at h
 by_cases c1 : i < 0
 · rw [if_pos (.inl c1)] at h; cases h
   refine sy_enter rfl rfl ?_
   simp only [initFr]
   repeat (first | refine yK ?_ | refine yP ?_ | refine yH ?_ | refine sy_ov (ov_pick rfl rfl rfl) rfl rfl ?_ | refine yT ?_ | refine sy_rt ?_)
   exact ret2 rfl rfl rfl rfl
 · by_cases c2 : (s.length : Int) ≤ i
   · rw [if_pos (.inr c2)] at h; cases h
     refine sy_enter rfl rfl ?_
     simp only [initFr]
     repeat (first | refine yK ?_ | refine yP ?_ | refine yG ?_ | refine yU ?_ | refine yE ?_ | refine yT ?_ | refine sy_rt ?_)
     exact ret2 rfl rfl rfl rfl
   · rw [if_neg (by omega)] at h
     have hlt : i < s.length := by omega
     have hst := nam_step s i (by omega) hlt
     obtain ⟨x, hx⟩ : ∃ x, leI (bt s i) = x := ⟨_, rfl⟩
     cases x with
     | false =>
      rw [hx] at hst
      simp only [Bool.false_eq_true, if_false] at hst
      rw [hst] at h
      cases h
      refine sy_enter rfl rfl ?_
      simp only [initFr]
      repeat (first | refine yK ?_ | refine yP ?_ | refine yG ?_ | refine yU ?_ | refine yE ?_ | refine yI ?_ | refine yN ?_)
      refine sy_ov (ov_call rfl (fun w _ => letter_c _ false hx w)) rfl rfl ?_
      repeat (first | refine yK ?_ | refine yP ?_ | refine yT ?_ | refine sy_rt ?_)
      exact ret2 rfl rfl rfl (by simp)
     | true =>
      have hsg := sig_step s i (by omega) hlt
      rw [hx, if_pos rfl] at hst
      rw [le_sigI hx, if_pos rfl] at hsg
      refine sy_enter rfl rfl ?_
      simp only [initFr]
      repeat (first | refine yK ?_ | refine yP ?_ | refine yG ?_ | refine yU ?_ | refine yE ?_ | refine yI ?_ | refine yN ?_)
      refine sy_ov (ov_call rfl (fun w _ => letter_c _ true hx w)) rfl rfl ?_
      repeat (first | refine yK ?_ | refine yP ?_ | refine yN ?_)
      refine sy_loop (α := Int) (fun j => [(0, S s), (1, .int .i64 i), (5, .int .i64 j)]) (fun _ => []) (NamInv s i) (fun j => (s.length - j).toNat) i ⟨Int.le_refl i, by omega, by rw [hst, hsg]; omega⟩ ⟨zz, zz, zz, trivial⟩ nl ?_
      intro j hj
      have j0 := hj.i0
      have j1 := hj.j1
      have je := hj.eq
      have done : sigL (s.drop j.toNat) = 0 → Value.tuple #[S ((s.drop i.toNat).take (j - i).toNat), .int .i64 j] = .tuple #[S o, .int .i64 e] := by
       intro hz
       rw [hz] at je
       cases h
       rw [show (j - i).toNat = namN (s.drop i.toNat) by omega, show j = i + namN (s.drop i.toNat) by omega]
      by_cases hjl : j < s.length
      · have hss := sig_step s j (by omega) hjl
        obtain ⟨y, hy⟩ : ∃ y, sigI (bt s j) = y := ⟨_, rfl⟩
        rw [hy] at hss
        cases y with
        | true =>
         rw [if_pos rfl] at hss
         repeat (first | refine yK ?_ | refine yP ?_ | refine yG ?_ | refine yU ?_ | refine yI ?_)
         refine sy_ov (ov_call rfl (fun w _ => sign_c _ true hy w)) rfl rfl ?_
         repeat (first | refine yK ?_ | refine yP ?_ | (refine yR ?_ ?_ ?_; omega; omega) | refine yM ?_ | refine yT ?_)
         refine sy_back (j + 1) ⟨by omega, by omega, by omega⟩ (by omega) ⟨zz, zz, zz, trivial⟩ nl
        | false =>
         simp only [Bool.false_eq_true, if_false] at hss
         repeat (first | refine yK ?_ | refine yP ?_ | refine yG ?_ | refine yU ?_ | refine yI ?_)
         refine sy_ov (ov_call rfl (fun w _ => sign_c _ false hy w)) rfl rfl ?_
         repeat (first | refine yK ?_ | refine yP ?_ | (refine sy_ov (ov_slice rfl rfl rfl ?_ ?_ ?_) rfl rfl ?_; (focus (first | omega | (simp <;> omega))); (focus (first | omega | (simp <;> omega))); focus (first | omega | (simp <;> omega))) | refine yM ?_ | refine yN ?_ | refine sy_rt ?_)
         exact ret2 rfl rfl rfl (done hss)
      · repeat (first | refine yK ?_ | refine yP ?_ | refine yH ?_ | refine yU ?_ | (refine sy_ov (ov_slice rfl rfl rfl ?_ ?_ ?_) rfl rfl ?_; (focus (first | omega | (simp <;> omega))); (focus (first | omega | (simp <;> omega))); focus (first | omega | (simp <;> omega))) | refine sy_ov (ov_pick rfl rfl rfl) rfl rfl ?_ | refine yN ?_ | refine sy_rt ?_)
        exact ret2 rfl rfl rfl (done (by rw [List.drop_of_length_le (by omega)]; rfl))
set_option maxRecDepth 20000 in
theorem right_c (s : List UInt8) (b : Bool) (h : namB s = b) (hs : s.length ≤ 9223372036854775807) (w : World) :
 Calls Tryz.prog 108 #[S s] w fun x w' => x = .returned (.bool b) ∧ Below w.heap.size w w' := by
 subst h
 by_cases c0 : s = []
 · subst c0
   refine sy_enter rfl rfl ?_
   simp only [initFr]
   repeat (first | refine yK ?_ | refine yP ?_)
   refine sy_ov (ov_call rfl (fun w _ => take_c [] 0 [] 0 rfl (by simp) w)) rfl rfl ?_
   repeat (first | refine yK ?_ | refine yP ?_ | refine yH ?_ | refine sy_ov (ov_pick rfl rfl rfl) rfl rfl ?_ | refine sy_rt ?_)
   exact ret1 rfl rfl rfl
 · have hp : 1 ≤ s.length := List.length_pos_iff.2 c0
   have ht : takeN s 0 = (s.take (namN s), (namN s : Int)) := by unfold takeN; rw [if_neg (by omega)]; simp
   obtain ⟨n, hn⟩ : ∃ n, namN s = n := ⟨_, rfl⟩
   rw [hn] at ht
   by_cases c1 : (n : Int) = s.length
   · have e1 : n = s.length := by omega
     by_cases c2 : (n : Int) ≤ 32
     · have e2 : s.length ≤ 32 := by omega
       refine sy_enter rfl rfl ?_
       simp only [initFr]
       repeat (first | refine yK ?_ | refine yP ?_)
       refine sy_ov (ov_call rfl (fun w _ => take_c s 0 _ _ ht hs w)) rfl rfl ?_
       repeat (first | refine yK ?_ | refine yP ?_ | refine yG ?_ | refine yU ?_ | refine yM ?_ | refine sy_rt ?_)
       exact ret1 rfl rfl (by unfold namB; rw [hn]; simp [c0, e2, e1]; omega)
     · have e2 : ¬ s.length ≤ 32 := by omega
       refine sy_enter rfl rfl ?_
       simp only [initFr]
       repeat (first | refine yK ?_ | refine yP ?_)
       refine sy_ov (ov_call rfl (fun w _ => take_c s 0 _ _ ht hs w)) rfl rfl ?_
       repeat (first | refine yK ?_ | refine yP ?_ | refine yG ?_ | refine yU ?_ | refine yM ?_ | refine sy_rt ?_)
       exact ret1 rfl rfl (by unfold namB; rw [hn, decide_eq_false c2, decide_eq_false e2]; simp)
   · have e1 : ¬ n = s.length := by omega
     refine sy_enter rfl rfl ?_
     simp only [initFr]
     repeat (first | refine yK ?_ | refine yP ?_)
     refine sy_ov (ov_call rfl (fun w _ => take_c s 0 _ _ ht hs w)) rfl rfl ?_
     repeat (first | refine yK ?_ | refine yP ?_ | refine yG ?_ | refine yH ?_ | refine yU ?_ | refine yM ?_ | refine sy_ov (ov_pick rfl rfl rfl) rfl rfl ?_ | refine sy_rt ?_)
     exact ret1 rfl rfl (by unfold namB; rw [hn]; simp [c0, e1])
structure SgnInv (s : List UInt8) (i j n : Int) : Prop where
 i0 : i ≤ j
 j1 : j ≤ s.length
 nn : n = j - i
 eq : (namN (s.drop i.toNat) : Int) = n + (if n = 0 then namN (s.drop j.toNat) else sigL (s.drop j.toNat) : Nat)
set_option maxRecDepth 20000 in
set_option maxHeartbeats 1000000 in
theorem rsigns_c (s : List UInt8) (i : Int) (n : Nat) (h : namN (s.drop i.toNat) = n) (h0 : 0 ≤ i) (h1 : i ≤ s.length) (hs : s.length ≤ 9223372036854775807) (w : World) :
 Calls Tryz.prog 93 #[S s, .int .i64 i] w fun x w' => x = .returned (.int .i64 (n : Int)) ∧ Below w.heap.size w w' := by
 subst h
 refine sy_enter rfl rfl ?_
 simp only [initFr]
 repeat (first | refine yK ?_ | refine yP ?_)
 refine sy_loop (α := Int × Int) (fun x => [(0, S s), (1, .int .i64 i), (5, .int .i64 x.2), (6, .int .i64 x.1)]) (fun _ => []) (fun x => SgnInv s i x.1 x.2) (fun x => (s.length - x.1).toNat) (i, 0) ⟨Int.le_refl i, h1, by omega, by simp⟩ ⟨zz, zz, zz, zz, trivial⟩ nl ?_
 rintro ⟨j, n⟩ hj
 have j0 := hj.i0
 have j1 := hj.j1
 have jn := hj.nn
 have je := hj.eq
 dsimp only at hj j0 j1 jn je ⊢
 by_cases hlt : j < s.length
 · have hsg := sig_step s j (by omega) hlt
   have hnm := nam_step s j (by omega) hlt
   obtain ⟨c, hc⟩ : ∃ c, bt s j = c := ⟨_, rfl⟩
   rw [hc] at hsg hnm
   have go : sigI c = true → (n = 0 → leI c = true) → SgnInv s i (j + 1) (n + 1) := by
    intro g1 g2
    refine ⟨by omega, by omega, by omega, ?_⟩
    rw [if_neg (by omega), je]
    by_cases hn : n = 0
    · rw [if_pos hn, hnm, g2 hn]; simp; omega
    · rw [if_neg hn, hsg, g1]; simp; omega
   have stop : (n = 0 → leI c = false) → (n ≠ 0 → sigI c = false) → (namN (s.drop i.toNat) : Int) = n := by
    intro g1 g2
    rw [je]
    by_cases hn : n = 0
    · rw [if_pos hn, hnm, g1 hn]; simp
    · rw [if_neg hn, hsg, g2 hn]; simp
   by_cases a1 : 97 ≤ c
   · by_cases a2 : c ≤ 122
     · have hl : leI c = true := by simp [leI, a1, a2]
       have := go (le_sigI hl) (fun _ => hl)
       repeat (first | refine yK ?_ | refine yP ?_ | refine sy_guard_undef rfl rfl rfl rfl rfl ?_ | refine yG ?_ | refine yH ?_ | (refine yR ?_ ?_ ?_; omega; omega) | refine yU ?_ | refine yM ?_ | refine sy_ov (ov_pick rfl rfl rfl) rfl rfl ?_ | refine yI ?_ | refine yT ?_ | refine yN ?_)
       refine sy_back (j + 1, n + 1) this (by dsimp only; omega) ⟨zz, zz, zz, zz, trivial⟩ nl
     · have hl : leI c = false := by simp [leI, a1, a2]
       by_cases hn : n = 0
       · have := stop (fun _ => hl) (fun h => absurd hn h)
         repeat (first | refine yK ?_ | refine yP ?_ | refine sy_guard_undef rfl rfl rfl rfl rfl ?_ | refine yG ?_ | refine yH ?_ | refine yU ?_ | refine yM ?_ | refine sy_ov (ov_pick rfl rfl rfl) rfl rfl ?_ | refine yI ?_ | refine yT ?_ | refine sy_rt ?_)
         exact ret1 rfl rfl (by rw [this])
       · have a3 : c ≠ 95 := by omega
         have a4 : ¬ c < 48 := by omega
         have a5 : 57 < c := by omega
         have := stop (fun h => absurd h hn) (fun _ => by simp [sigI, hl]; omega)
         repeat (first | refine yK ?_ | refine yP ?_ | refine yG ?_ | refine yU ?_ | refine yM ?_ | refine yE ?_ | refine yI ?_ | refine yT ?_ | refine sy_rt ?_)
         exact ret1 rfl rfl (by rw [this])
   · have hl : leI c = false := by simp [leI, a1]
     by_cases hn : n = 0
     · have := stop (fun _ => hl) (fun h => absurd hn h)
       repeat (first | refine yK ?_ | refine yP ?_ | refine sy_guard_undef rfl rfl rfl rfl rfl ?_ | refine yG ?_ | refine yH ?_ | refine yU ?_ | refine yM ?_ | refine sy_ov (ov_pick rfl rfl rfl) rfl rfl ?_ | refine yI ?_ | refine yT ?_ | refine sy_rt ?_)
       exact ret1 rfl rfl (by rw [this])
     · by_cases a3 : c = 95
       · have := go (by simp [sigI, a3]) (fun h => absurd h hn)
         repeat (first | refine yK ?_ | refine yP ?_ | refine sy_guard_undef rfl rfl rfl rfl rfl ?_ | refine yG ?_ | refine yH ?_ | (refine yR ?_ ?_ ?_; omega; omega) | refine yU ?_ | refine yM ?_ | refine yE ?_ | refine sy_ov (ov_pick rfl rfl rfl) rfl rfl ?_ | refine yI ?_ | refine yT ?_ | refine yN ?_)
         refine sy_back (j + 1, n + 1) this (by dsimp only; omega) ⟨zz, zz, zz, zz, trivial⟩ nl
       · by_cases a4 : c < 48
         · have := stop (fun h => absurd h hn) (fun _ => by simp [sigI, hl]; omega)
           repeat (first | refine yK ?_ | refine yP ?_ | refine yG ?_ | refine yH ?_ | refine yU ?_ | refine yM ?_ | refine yE ?_ | refine sy_ov (ov_pick rfl rfl rfl) rfl rfl ?_ | refine yI ?_ | refine yT ?_ | refine sy_rt ?_)
           exact ret1 rfl rfl (by rw [this])
         · by_cases a5 : 57 < c
           · have := stop (fun h => absurd h hn) (fun _ => by simp [sigI, hl]; omega)
             repeat (first | refine yK ?_ | refine yP ?_ | refine yG ?_ | refine yH ?_ | refine yU ?_ | refine yM ?_ | refine yE ?_ | refine sy_ov (ov_pick rfl rfl rfl) rfl rfl ?_ | refine yI ?_ | refine yT ?_ | refine sy_rt ?_)
             exact ret1 rfl rfl (by rw [this])
           · have := go (by simp [sigI]; omega) (fun h => absurd h hn)
             repeat (first | refine yK ?_ | refine yP ?_ | refine yG ?_ | refine yH ?_ | (refine yR ?_ ?_ ?_; omega; omega) | refine yU ?_ | refine yM ?_ | refine yE ?_ | refine sy_ov (ov_pick rfl rfl rfl) rfl rfl ?_ | refine yI ?_ | refine yT ?_ | refine yN ?_)
             refine sy_back (j + 1, n + 1) this (by dsimp only; omega) ⟨zz, zz, zz, zz, trivial⟩ nl
 · have hdj : s.drop j.toNat = [] := List.drop_of_length_le (by omega)
   rw [hdj] at je
   have hz : (namN (s.drop i.toNat) : Int) = n := by rw [je]; split <;> simp [namN, sigL]
   repeat (first | refine yK ?_ | refine yP ?_ | refine yU ?_ | refine yN ?_ | refine sy_rt ?_)
   exact ret1 rfl rfl (by rw [hz])
end Go.Proofs.YtldjakeigjngoaaGreat