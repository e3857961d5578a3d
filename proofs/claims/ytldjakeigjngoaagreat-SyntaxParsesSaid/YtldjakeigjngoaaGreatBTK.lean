/- BTK: texts of this proof, joined by program: Tok, Tok2. -/
import Derived.Test.YtldjakeigjngoaaGreatBPT
import Derived.Test.YtldjakeigjngoaaGreatBLP
import Derived.Test.YtldjakeigjngoaaGreatBEX
set_option linter.unusedVariables false
set_option linter.unusedSimpArgs false
namespace Go.Proofs.YtldjakeigjngoaaGreat
open Go.RowKit Bf
section
variable {P : Program} {fr : Fr} {hp : List En}
theorem ret_cc (i j : Nat) {fn : Func} {c d : Tmp} {ct dt : TypeId} {cd dd : TypeDesc} {ci di : TypeInfo} [TU P ct cd] [TI P ct ci] [TU P dt dd] [TI P dt di] {w0 : World} {n b b' : Nat} {e e' : TypeId} {cs ds : List Value} {v0 : Value} (hr : fn.results = #[.cell c ct, .cell d dt])
 (hc : get c fr = some (.pointer (some ⟨b, 0, none⟩))) (hd : get d fr = some (.pointer (some ⟨b', 0, none⟩))) (hi : hp[i]? = some (blk b e cs)) (hj : hp[j]? = some (blk b' e' ds)) (ha : isAggD cd = true) (ha' : isAggD dd = true) (hn : Nat.ble (0 + ci.size) cs.length = true) (hn' : Nat.ble (0 + di.size) ds.length = true)
 (he : Value.tuple #[.agg ⟨cs.take ci.size⟩, .agg ⟨ds.take di.size⟩] = v0) :
 Leave P ⟨fun _ => False, w0, n, bodyPost P fn fun e w' => e = .returned v0 ∧ Below w0.heap.size w0 w'⟩ .ret [] fr hp := .mk fun a w ha1 hw => by
 subst he
 have hl := loadVar_ok (P := P) (t := ct) hw hi ha hn
 have hl' := loadVar_ok (P := P) (t := dt) hw hj ha' hn'
 have hs := ha1.slot c _ hc
 have hs2 := ha1.slot d _ hd
 rw [Array.getD_eq_getD_getElem?] at hs hs2
 have hq : (results fn a.tmps).run P w = .ok (.tuple #[.agg ⟨cs.take ci.size⟩, .agg ⟨ds.take di.size⟩]) w := by
  simp [results, hr, hs, hs2, asAddr, hl, hl']
 show bodyPost P fn (fun e w' => e = .returned _ ∧ Below w0.heap.size w0 w') .ret a w
 exact bodyPost_ret hq ha1.defers (And.intro rfl hw.below)
end
set_option maxRecDepth 20000 in
theorem hasPrefix_c (s p : List UInt8) (b : Bool) (h : decide (s.take p.length = p) = b) (hs : s.length ≤ 4611686018427387000) (w : World) :
 Calls Tryz.prog 127 #[S s, S p] w fun e w' => e = .returned (.bool b) ∧ Below w.heap.size w w' := by
 subst h
 have inner : ∀ w : World, Calls Tryz.prog 145 #[S s, S p] w fun e w' => e = .returned (.bool (decide (s.take p.length = p))) ∧ Below w.heap.size w w' := fun w => by
  by_cases hl : (p.length : Int) ≤ s.length
  · refine sy_enter rfl rfl ?_
    simp only [initFr]
    repeat (first | refine yK ?_ | refine yP ?_ | refine yG ?_ | refine yU ?_ | (refine sy_ov (ov_slice_hi rfl rfl ?_ ?_) rfl rfl ?_; omega; omega) | refine yM ?_ | refine sy_rt ?_)
    exact ret1 rfl rfl (by rw [Int.toNat_natCast])
  · have hne : ¬ s.take p.length = p := fun e => by have := congrArg List.length e; rw [List.length_take] at this; omega
    refine sy_enter rfl rfl ?_
    simp only [initFr]
    repeat (first | refine yK ?_ | refine yP ?_ | refine yH ?_ | refine yU ?_ | refine sy_ov (ov_pick rfl rfl rfl) rfl rfl ?_ | refine sy_rt ?_)
    exact ret1 rfl rfl (by rw [decide_eq_false hne]; rfl)
 refine sy_enter rfl rfl ?_
 simp only [initFr]
 repeat (first | refine yK ?_ | refine yP ?_)
 refine sy_ov (ov_call rfl (fun w _ => inner w)) rfl rfl ?_
 repeat (first | refine yK ?_ | refine yP ?_ | refine sy_rt ?_)
 exact ret1 rfl rfl rfl
theorem blank_c (c : Int) (b : Bool) (h : blankB c = b) (w : World) : Calls Tryz.prog 77 #[.int .u8 c] w fun e w' => e = .returned (.bool b) ∧ Below w.heap.size w w' := by
 subst h
 by_cases c1 : c = 32
 · refine sy_enter rfl rfl ?_
   simp only [initFr]
   repeat (first | refine yK ?_ | refine yP ?_ | refine yH ?_ | refine sy_ov (ov_pick rfl rfl rfl) rfl rfl ?_ | refine sy_rt ?_)
   exact ret1 rfl rfl (by simp [blankB, c1])
 · by_cases c2 : c = 10
   · refine sy_enter rfl rfl ?_
     simp only [initFr]
     repeat (first | refine yK ?_ | refine yP ?_ | refine yG ?_ | refine yH ?_ | refine yE ?_ | refine sy_ov (ov_pick rfl rfl rfl) rfl rfl ?_ | refine sy_rt ?_)
     exact ret1 rfl rfl (by simp [blankB, c2])
   · by_cases c3 : c = 9
     · refine sy_enter rfl rfl ?_
       simp only [initFr]
       repeat (first | refine yK ?_ | refine yP ?_ | refine yG ?_ | refine yH ?_ | refine yE ?_ | refine sy_ov (ov_pick rfl rfl rfl) rfl rfl ?_ | refine sy_rt ?_)
       exact ret1 rfl rfl (by simp [blankB, c3])
     · refine sy_enter rfl rfl ?_
       simp only [initFr]
       repeat (first | refine yK ?_ | refine yP ?_ | refine yG ?_ | refine yE ?_ | refine sy_rt ?_)
       exact ret1 rfl rfl (by simp [blankB, c1, c2, c3])
theorem ib_mem : ∀ (l : List UInt8) (c : UInt8), 0 ≤ Go.Lib.indexByte l c ↔ c ∈ l
 | [], c => by rw [ib_nil]; simp
 | b :: l, c => by
  have ih := ib_mem l c
  by_cases h : b = c
  · subst h; rw [ib_here]; simp
  · rw [ib_there b c l h]
    have hl := ib_lt l c
    split
    · rename_i h1; simp [Ne.symm h]; rw [← ih]; omega
    · rename_i h1; simp [Ne.symm h]; rw [← ih]; omega
set_option maxRecDepth 20000 in
set_option maxHeartbeats 1000000 in
theorem mark_c (s : List UInt8) (i : Int) (o : List UInt8) (h : markAt s i = o) (hs : s.length ≤ 4611686018427387000) (w : World) :
 Calls Tryz.prog 109 #[S s, .int .i64 i] w fun e w' => e = .returned (S o) ∧ Below w.heap.size w w' := by
 subst h
 by_cases c1 : i < 0
 · have hm : markAt s i = [] := if_pos (.inl c1)
   refine sy_enter rfl rfl ?_
   simp only [initFr]
   repeat (first | refine yK ?_ | refine yP ?_ | refine yH ?_ | refine sy_ov (ov_pick rfl rfl rfl) rfl rfl ?_ | refine yT ?_ | refine sy_rt ?_)
   exact ret1 rfl rfl (by rw [hm])
 · by_cases c2 : (s.length : Int) ≤ i
   · have hm : markAt s i = [] := if_pos (.inr c2)
     refine sy_enter rfl rfl ?_
     simp only [initFr]
     repeat (first | refine yK ?_ | refine yP ?_ | refine yG ?_ | refine yU ?_ | refine yE ?_ | refine yT ?_ | refine sy_rt ?_)
     exact ret1 rfl rfl (by rw [hm])
   · obtain ⟨c, l, hd, hb⟩ := bt_nat s i (by omega) (by omega)
     have hm : markAt s i = markL (c :: l) := by unfold markAt; rw [if_neg (by omega), hd]
     rw [markL_cons] at hm
     have hdl : (s.drop i.toNat).length ≤ 4611686018427387000 := by rw [List.length_drop]; omega
     have e1 : (i + 1 - i).toNat = 1 := by omega
     by_cases c3 : c = 46 ∧ l.head? = some 46
     · have hp : decide ((s.drop i.toNat).take ([46, 46] : List UInt8).length = [46, 46]) = true := by
        obtain ⟨rfl, h2⟩ := c3
        rw [hd]
        cases l with
        | nil => simp at h2
        | cons d l => simp at h2; subst h2; rfl
       rw [if_pos c3.1, if_pos c3.2] at hm
       refine sy_enter rfl rfl ?_
       simp only [initFr]
       repeat (first | refine yK ?_ | refine yP ?_ | refine yG ?_ | refine yU ?_ | (refine yV ?_ ?_ ?_; omega; omega) | refine yE ?_ | refine yN ?_)
       refine sy_ov (ov_call rfl (fun w _ => hasPrefix_c _ [46, 46] true hp hdl w)) rfl rfl ?_
       repeat (first | refine yK ?_ | refine yP ?_ | refine yT ?_ | refine sy_rt ?_)
       exact ret1 rfl rfl (by rw [hm])
     · have hp : decide ((s.drop i.toNat).take ([46, 46] : List UInt8).length = [46, 46]) = false := by
        rw [decide_eq_false_iff_not, hd]
        intro e
        cases l with
        | nil => simp at e
        | cons d l => simp at e; exact c3 ⟨e.1, by simp [e.2]⟩
       obtain ⟨k, hk⟩ : ∃ k, Go.Lib.indexByte marksT c = k := ⟨_, rfl⟩
       have hkm := ib_mem marksT c
       rw [hk] at hkm
       have hk' : Go.Lib.indexByte marksT (bt s i).toNat.toUInt8 = k := by rw [hb, Int.toNat_natCast, ← hk]; congr 1; simp
       by_cases hmem : c ∈ marksT
       · have h46 : c ≠ 46 := by rintro rfl; exact absurd hmem (by decide)
         have hk0 := hkm.2 hmem
         rw [if_neg h46, if_pos hmem] at hm
         refine sy_enter rfl rfl ?_
         simp only [initFr]
         repeat (first | refine yK ?_ | refine yP ?_ | refine yG ?_ | refine yU ?_ | (refine yV ?_ ?_ ?_; omega; omega) | refine yE ?_ | refine yN ?_)
         refine sy_ov (ov_call rfl (fun w _ => hasPrefix_c _ [46, 46] false hp hdl w)) rfl rfl ?_
         repeat (first | refine yK ?_ | refine yP ?_ | refine yI ?_ | refine yN ?_)
         refine sy_ov (ov_call rfl (fun w _ => indexByte_c marksT _ k hk' w)) rfl rfl ?_
         repeat (first | refine yK ?_ | refine yP ?_ | (refine yR ?_ ?_ ?_; omega; omega) | (refine sy_ov (ov_slice rfl rfl rfl ?_ ?_ ?_) rfl rfl ?_; (focus (first | omega | (simp <;> omega))); (focus (first | omega | (simp <;> omega))); focus (first | omega | (simp <;> omega))) | refine yT ?_ | refine sy_rt ?_)
         exact ret1 rfl rfl (by rw [hm, e1, hd]; rfl)
       · have hk0 : ¬ 0 ≤ k := fun h => hmem (hkm.1 h)
         have hm' : markAt s i = [] := by
          rw [hm]
          by_cases h46 : c = 46
          · rw [if_pos h46, if_neg (fun h => c3 ⟨h46, h⟩)]
          · rw [if_neg h46, if_neg hmem]
         refine sy_enter rfl rfl ?_
         simp only [initFr]
         repeat (first | refine yK ?_ | refine yP ?_ | refine yG ?_ | refine yU ?_ | (refine yV ?_ ?_ ?_; omega; omega) | refine yE ?_ | refine yN ?_)
         refine sy_ov (ov_call rfl (fun w _ => hasPrefix_c _ [46, 46] false hp hdl w)) rfl rfl ?_
         repeat (first | refine yK ?_ | refine yP ?_ | refine yI ?_ | refine yN ?_)
         refine sy_ov (ov_call rfl (fun w _ => indexByte_c marksT _ k hk' w)) rfl rfl ?_
         repeat (first | refine yK ?_ | refine yP ?_ | refine yN ?_ | refine sy_rt ?_)
         exact ret1 rfl rfl (by rw [hm'])
structure RmInv (s : List UInt8) (i j : Int) : Prop where
 i0 : i ≤ j
 j1 : j ≤ s.length
 eq : remL (s.drop i.toNat) = ((j - i).toNat + (remL (s.drop j.toNat)).1, (remL (s.drop j.toNat)).2)
theorem RmInv.start (s : List UInt8) (i : Int) (h1 : i ≤ s.length) : RmInv s i i := ⟨Int.le_refl i, h1, by simp⟩
theorem bt_at (s : List UInt8) (i : Int) (h0 : 0 ≤ i) : bt (s.drop i.toNat) 0 = bt s i := by
 unfold bt; simp [List.getD_eq_getElem?_getD, List.getElem?_drop]
theorem RmInv.step {s : List UInt8} {i j : Int} (h : RmInv s i j) (h0 : 0 ≤ i) (hlt : j < s.length) (hb : bt s j ≠ 10) {r : Int} {n : Nat} (hd : decAt s j = (r, n, true)) (hr : ¬ (r ≠ 9 ∧ unsafeB r = true)) : RmInv s i (j + n) := by
 have i0 := h.i0
 have hbd := dec_bd s j (by omega) hlt hd
 rw [decAt_in' s j (by omega) hlt] at hd
 have hr := remL_ok (s.drop j.toNat) (drop_ne' s j (by omega) hlt) (by rw [bt_at s j (by omega)]; exact hb) hd hr
 refine ⟨by omega, by omega, ?_⟩
 rw [h.eq, hr, List.drop_drop, show (j + n).toNat = j.toNat + n by omega]
 refine Prod.ext ?_ rfl
 simp only; omega
theorem RmInv.end1 {s : List UInt8} {i j : Int} (h : RmInv s i j) (hlt : ¬ j < s.length) : remL (s.drop i.toNat) = ((j - i).toNat, 0) := by
 rw [h.eq, List.drop_of_length_le (by have := h.j1; omega), remL_nil]; rfl
theorem RmInv.end2 {s : List UInt8} {i j : Int} (h : RmInv s i j) (h0 : 0 ≤ i) (hb : bt s j = 10) : remL (s.drop i.toNat) = ((j - i).toNat, 0) := by
 have i0 := h.i0
 rw [h.eq, remL_end _ (by rw [bt_at s j (by omega)]; exact hb)]; rfl
theorem RmInv.bad {s : List UInt8} {i j : Int} (h : RmInv s i j) (h0 : 0 ≤ i) (hlt : j < s.length) (hb : bt s j ≠ 10) {r : Int} {n : Nat} (hd : decAt s j = (r, n, false)) : remL (s.drop i.toNat) = ((j - i).toNat, 2) := by
 have i0 := h.i0
 rw [decAt_in' s j (by omega) hlt] at hd
 rw [h.eq, remL_bad (s.drop j.toNat) (drop_ne' s j (by omega) hlt) (by rw [bt_at s j (by omega)]; exact hb) hd]; rfl
theorem RmInv.char {s : List UInt8} {i j : Int} (h : RmInv s i j) (h0 : 0 ≤ i) (hlt : j < s.length) (hb : bt s j ≠ 10) {r : Int} {n : Nat} (hd : decAt s j = (r, n, true)) (hr : r ≠ 9) (hu : unsafeB r = true) : remL (s.drop i.toNat) = ((j - i).toNat, 3) := by
 have i0 := h.i0
 rw [decAt_in' s j (by omega) hlt] at hd
 rw [h.eq, remL_char (s.drop j.toNat) (drop_ne' s j (by omega) hlt) (by rw [bt_at s j (by omega)]; exact hb) hd hr hu]; rfl
set_option maxRecDepth 20000 in
set_option maxHeartbeats 1000000 in
theorem remark_c (s : List UInt8) (i : Int) (n : Nat) (e : Int) (h : remL (s.drop i.toNat) = (n, e)) (h0 : 0 ≤ i) (h1 : i ≤ s.length) (hs : s.length ≤ 4611686018427387000) (w : World) :
 Calls Tryz.prog 78 #[S s, .int .i64 i] w fun x w' => x = .returned (.tuple #[.int .i64 (if e = 0 then i + n else 0), faultV e (if e = 0 then 0 else i + n)]) ∧ Below w.heap.size w w' := by
 have fin : ∀ (j : Int) (e' : Int), i ≤ j → remL (s.drop i.toNat) = ((j - i).toNat, e') → i + (n : Int) = j ∧ e = e' := by
  intro j e' hij hr
  rw [h] at hr
  obtain ⟨rfl, rfl⟩ := Prod.mk.inj hr
  exact ⟨by omega, rfl⟩
 refine sy_enter rfl rfl ?_
 simp only [initFr]
 repeat (first | refine yK ?_ | refine yP ?_ | (refine yA ?_; intro _))
 rename_i b1
 refine sy_loop (α := Int) (fun j => [(0, S s), (1, .int .i64 j), (5, .pointer (some ⟨b1, 0, none⟩))]) (fun _ => [blk b1 29 [.int .i64 0, .int .i64 0]]) (RmInv s i) (fun j => (s.length - j).toNat) i (RmInv.start s i h1) ⟨zz, zz, zz, trivial⟩ (List.Sublist.refl _) ?_
 intro j hj
 have j0 := hj.i0
 have j1 := hj.j1
 by_cases hlt : j < s.length
 · by_cases hb : bt s j = 10
   · obtain ⟨f1, rfl⟩ := fin j 0 j0 (hj.end2 h0 hb)
     repeat (first | refine yK ?_ | refine yP ?_ | refine yG ?_ | refine yU ?_ | refine yS 0 ?_ | refine yM ?_ | refine yI ?_ | refine yB ?_ | refine yN ?_ | refine sy_rt ?_)
     exact ret2c 0 rfl rfl rfl rfl rfl rfl (by rw [if_pos rfl, if_pos rfl, f1]; rfl)
   · obtain ⟨r, m, ok, hd⟩ := trip (decAt s j)
     obtain ⟨d1, d2, d3, d4, d5⟩ := dec_bd s j (by omega) hlt hd
     cases ok with
     | false =>
      obtain ⟨f1, rfl⟩ := fin j 2 j0 (hj.bad h0 hlt hb hd)
      repeat (first | refine yK ?_ | refine yP ?_ | refine yG ?_ | refine yU ?_ | refine yM ?_ | refine yI ?_ | refine yT ?_)
      refine sy_ov (ov_call rfl (fun w _ => decode_c s j r m false hd (by omega) (by omega) (by omega) w)) rfl rfl ?_
      repeat (first | refine yK ?_ | refine yP ?_ | refine yS 0 ?_ | refine yB ?_ | refine yT ?_ | refine sy_rt ?_)
      exact ret2c 0 rfl rfl rfl rfl rfl rfl (by rw [if_neg (by decide), if_neg (by decide), f1]; rfl)
     | true =>
      by_cases h9 : r = 9
      · have hst := hj.step h0 hlt hb hd (fun h => h.1 h9)
        have := hst.j1
        repeat (first | refine yK ?_ | refine yP ?_ | refine yG ?_ | refine yU ?_ | refine yM ?_ | refine yI ?_ | refine yT ?_)
        refine sy_ov (ov_call rfl (fun w _ => decode_c s j r m true hd (by omega) (by omega) (by omega) w)) rfl rfl ?_
        repeat (first | refine yK ?_ | refine yP ?_ | refine yH ?_ | (refine yR ?_ ?_ ?_; omega; omega) | refine sy_ov (ov_pick rfl rfl rfl) rfl rfl ?_ | refine yN ?_)
        refine sy_back (j + m) hst (by omega) ⟨zz, zz, zz, trivial⟩ (List.Sublist.refl _)
      · obtain ⟨u, hu⟩ : ∃ u, unsafeB r = u := ⟨_, rfl⟩
        cases u with
        | true =>
         obtain ⟨f1, rfl⟩ := fin j 3 j0 (hj.char h0 hlt hb hd h9 hu)
         repeat (first | refine yK ?_ | refine yP ?_ | refine yG ?_ | refine yU ?_ | refine yM ?_ | refine yI ?_ | refine yT ?_)
         refine sy_ov (ov_call rfl (fun w _ => decode_c s j r m true hd (by omega) (by omega) (by omega) w)) rfl rfl ?_
         repeat (first | refine yK ?_ | refine yP ?_ | refine yG ?_ | refine yN ?_)
         refine sy_ov (ov_call rfl (fun w _ => isUnsafe_c r true hu (by omega) w)) rfl rfl ?_
         repeat (first | refine yK ?_ | refine yP ?_ | refine yS 0 ?_ | refine yM ?_ | refine yB ?_ | refine yT ?_ | refine sy_rt ?_)
         exact ret2c 0 rfl rfl rfl rfl rfl rfl (by rw [if_neg (by decide), if_neg (by decide), f1]; rfl)
        | false =>
         have hst := hj.step h0 hlt hb hd (fun h => by rw [hu] at h; exact absurd h.2 (by decide))
         have := hst.j1
         repeat (first | refine yK ?_ | refine yP ?_ | refine yG ?_ | refine yU ?_ | refine yM ?_ | refine yI ?_ | refine yT ?_)
         refine sy_ov (ov_call rfl (fun w _ => decode_c s j r m true hd (by omega) (by omega) (by omega) w)) rfl rfl ?_
         repeat (first | refine yK ?_ | refine yP ?_ | refine yG ?_ | refine yN ?_)
         refine sy_ov (ov_call rfl (fun w _ => isUnsafe_c r false hu (by omega) w)) rfl rfl ?_
         repeat (first | refine yK ?_ | refine yP ?_ | (refine yR ?_ ?_ ?_; omega; omega) | refine yM ?_ | refine yN ?_)
         refine sy_back (j + m) hst (by omega) ⟨zz, zz, zz, trivial⟩ (List.Sublist.refl _)
 · obtain ⟨f1, rfl⟩ := fin j 0 j0 (hj.end1 hlt)
   repeat (first | refine yK ?_ | refine yP ?_ | refine yH ?_ | refine yU ?_ | refine yS 0 ?_ | refine sy_ov (ov_pick rfl rfl rfl) rfl rfl ?_ | refine yB ?_ | refine yN ?_ | refine sy_rt ?_)
   exact ret2c 0 rfl rfl rfl rfl rfl rfl (by rw [if_pos rfl, if_pos rfl, f1]; rfl)
set_option maxRecDepth 20000 in
theorem other_c (s : List UInt8) (i : Int) (r : Int) (n : Nat) (ok : Bool) (hd : decAt s i = (r, n, ok)) (h0 : 0 ≤ i) (h1 : i < s.length) (hs : s.length ≤ 4611686018427387000) (w : World) :
 Calls Tryz.prog 112 #[S s, .int .i64 i] w fun x w' => x = .returned (faultV (if ok = true then 3 else 2) i) ∧ Below w.heap.size w w' := by
 cases ok with
 | true =>
  refine sy_enter rfl rfl ?_
  simp only [initFr]
  repeat (first | refine yK ?_ | refine yP ?_ | (refine yA ?_; intro _))
  refine sy_ov (ov_call rfl (fun w _ => decode_c s i r n true hd (by omega) (by omega) (by omega) w)) rfl rfl ?_
  repeat (first | refine yK ?_ | refine yP ?_ | refine yS 0 ?_ | refine yB ?_ | refine yN ?_ | refine sy_rt ?_)
  exact ret1c 0 rfl rfl rfl rfl rfl rfl
 | false =>
  refine sy_enter rfl rfl ?_
  simp only [initFr]
  repeat (first | refine yK ?_ | refine yP ?_ | (refine yA ?_; intro _))
  refine sy_ov (ov_call rfl (fun w _ => decode_c s i r n false hd (by omega) (by omega) (by omega) w)) rfl rfl ?_
  repeat (first | refine yK ?_ | refine yP ?_ | refine yS 0 ?_ | refine yB ?_ | refine yT ?_ | refine sy_rt ?_)
  exact ret1c 0 rfl rfl rfl rfl rfl rfl
def tkV (r : TokT × Int × Int) : Value := .tuple #[.agg ⟨tokV r.1⟩, faultV r.2.1 r.2.2]
theorem marks_at (s : List UInt8) (i : Nat) (h : i < s.length) : markAt s (i : Int) = markL (s.drop i) := by unfold markAt; rw [if_neg (by omega), Int.toNat_natCast]
theorem takeN_at (s : List UInt8) (i : Nat) (h : i < s.length) : takeN s (i : Int) = ((s.drop i).take (namN (s.drop i)), (i : Int) + namN (s.drop i)) := by unfold takeN; rw [if_neg (by omega), Int.toNat_natCast]
theorem takeS_p0 (s : List UInt8) (i : Nat) (hi : i ≤ s.length) {v e p : Int} (h : takeS s i = (v, e, 0, p)) : p = 0 := by
 rw [takeAt_drop s i hi] at h
 obtain ⟨v', e', f', p', ht⟩ : ∃ v e f p, takeS (s.drop i) 0 = (v, e, f, p) := ⟨_, _, _, _, rfl⟩
 rw [ht] at h
 simp only [Prod.mk.injEq] at h
 obtain ⟨_, _, h3, h4⟩ := h
 rw [if_pos h3] at h4; exact h4.symm
theorem unqR_p0 {q o : List UInt8} {a z p : Int} (h : unqR q a = (o, z, 0, p)) : p = 0 := by
 unfold unqR at h
 split at h
 · obtain ⟨_, _, e, _⟩ := quad_inj h; cases e
 · split at h
   · obtain ⟨_, _, e, _⟩ := quad_inj h; cases e
   · split at h
     · obtain ⟨_, _, e, _⟩ := quad_inj h; cases e
     · split at h
       · obtain ⟨_, _, _, e⟩ := quad_inj h; exact e.symm
       · rename_i hne; obtain ⟨_, _, e, _⟩ := quad_inj h; exact absurd e hne
set_option maxRecDepth 20000 in
set_option maxHeartbeats 2000000 in
theorem token_c (s : List UInt8) (i : Nat) (r : TokT × Int × Int) (h : tokA s i = r) (h1 : i < s.length) (hs : s.length ≤ 4000000000000) (w : World) :
 Calls Tryz.prog 79 #[S s, .int .i64 (i : Int)] w fun x w' => x = .returned (tkV r) ∧ Below w.heap.size w w' := by
 subst h
 have hn := namN_le (s.drop i)
 rw [List.length_drop] at hn
 have htk := takeN_at s i h1
 obtain ⟨n, hN⟩ : ∃ n, namN (s.drop i) = n := ⟨_, rfl⟩
 have hnb := namB_take (s.drop i)
 rw [hN] at hn htk hnb
 by_cases c1 : 0 < n
 · have hne : (s.drop i).take n ≠ [] := by intro e; have := congrArg List.length e; rw [List.length_take, List.length_drop] at this; simp at this; omega
   by_cases c2 : 32 < n
   · have hb : namB ((s.drop i).take n) = false := by rw [hnb]; simp; omega
     have hr : tokA s i = (ztk, 9, (i : Int)) := by unfold tokA; rw [hN, if_pos c1, if_pos c2]
     rw [hr]
     refine sy_enter rfl rfl ?_
     simp only [initFr]
     repeat (first | refine yK ?_ | refine yP ?_ | (refine yA ?_; intro _))
     refine sy_ov (ov_call rfl (fun w _ => take_c s i _ _ htk (by omega) w)) rfl rfl ?_
     repeat (first | refine yK ?_ | refine yP ?_ | refine yT ?_)
     refine sy_ov (ov_call rfl (fun w _ => right_c _ false hb (by rw [List.length_take, List.length_drop]; omega) w)) rfl rfl ?_
     repeat (first | refine yK ?_ | refine yP ?_ | refine yS 0 ?_ | refine yS 1 ?_ | refine yB ?_ | refine yT ?_ | refine sy_rt ?_)
     exact ret_cc 1 0 rfl rfl rfl rfl rfl rfl rfl rfl rfl rfl
   · have hb : namB ((s.drop i).take n) = true := by rw [hnb]; simp; omega
     have hr : tokA s i = ((1, (i : Int), (i : Int) + n, (s.drop i).take n, 0), 0, 0) := by unfold tokA; rw [hN, if_pos c1, if_neg c2]
     rw [hr]
     refine sy_enter rfl rfl ?_
     simp only [initFr]
     repeat (first | refine yK ?_ | refine yP ?_ | (refine yA ?_; intro _))
     refine sy_ov (ov_call rfl (fun w _ => take_c s i _ _ htk (by omega) w)) rfl rfl ?_
     repeat (first | refine yK ?_ | refine yP ?_ | refine yT ?_)
     refine sy_ov (ov_call rfl (fun w _ => right_c _ true hb (by rw [List.length_take, List.length_drop]; omega) w)) rfl rfl ?_
     repeat (first | refine yK ?_ | refine yP ?_ | refine yS 0 ?_ | refine yS 1 ?_ | refine yB ?_ | refine yN ?_ | refine sy_rt ?_)
     exact ret_cc 1 0 rfl rfl rfl rfl rfl rfl rfl rfl rfl rfl
 · have hn0 : n = 0 := by omega
   subst hn0
   have htk0 : takeN s (i : Int) = ([], (i : Int)) := by rw [htk]; simp
   have hmk := marks_at s i h1
   obtain ⟨m, hM⟩ : ∃ m, markL (s.drop i) = m := ⟨_, rfl⟩
   have hml := markL_bd (s.drop i)
   rw [hM] at hmk hml
   rw [List.length_drop] at hml
   by_cases c2 : m = []
   · subst c2
     by_cases c3 : bt s i = 45 ∨ (48 ≤ bt s i ∧ bt s i ≤ 57)
     · obtain ⟨v, e, f, p, ht⟩ : ∃ v e f p, takeS s i = (v, e, f, p) := ⟨_, _, _, _, rfl⟩
       have split3 : ∀ (Q : Prop), (bt s i = 45 → Q) → (bt s i ≠ 45 → 48 ≤ bt s i → bt s i ≤ 57 → Q) → Q := fun Q a b => by
        by_cases e : bt s i = 45
        · exact a e
        · rcases c3 with h | h
          · exact absurd h e
          · exact b e h.1 h.2
       by_cases hf : f = 0
       · subst hf
         have hp0 := takeS_p0 s i (by omega) ht
         subst hp0
         have hr : tokA s i = ((2, (i : Int), e, [], v), 0, 0) := by unfold tokA; rw [hN, if_neg c1, hM, if_neg (by simp), if_pos c3, ht, if_neg (by simp)]
         rw [hr]
         refine split3 _ (fun a1 => ?_) (fun a1 a2 a3 => ?_)
         all_goals
          refine sy_enter rfl rfl ?_
          simp only [initFr]
          repeat (first | refine yK ?_ | refine yP ?_ | (refine yA ?_; intro _))
          refine sy_ov (ov_call rfl (fun w _ => take_c s i _ _ htk0 (by omega) w)) rfl rfl ?_
          repeat (first | refine yK ?_ | refine yP ?_ | refine yN ?_)
          refine sy_ov (ov_call rfl (fun w _ => mark_c s i [] hmk (by omega) w)) rfl rfl ?_
          repeat (first | refine yK ?_ | refine yP ?_ | refine sy_guard_undef rfl rfl rfl rfl rfl ?_ | refine yG ?_ | refine yH ?_ | refine yM ?_ | refine yE ?_ | refine sy_ov (ov_pick rfl rfl rfl) rfl rfl ?_ | refine yI ?_ | refine yT ?_ | refine yN ?_)
          refine sy_ov (ov_call rfl (fun w _ => dtake_c s i v e 0 0 ht (by omega) (by omega) (by omega) w)) rfl rfl ?_
          repeat (first | refine yK ?_ | refine yP ?_ | refine yL 0 ?_ | refine yS 0 ?_ | refine yF ?_ | (refine yA ?_; intro _) | refine yN ?_)
          refine sy_drawE _ 6 [(0, false), (1, false), (2, false), (3, false), (4, false), (5, true)] (by kernel_rfl) rfl (sk (sk (sd sr))) ?_
          repeat (first | refine dre_rd (fun _ _ => ov_p rfl) rfl ?_ | refine dre_rd (fun _ _ => ov_ld 0 rfl rfl rfl) rfl ?_ | refine dre_rd (fun _ _ => ov_build rfl rfl rfl) rfl ?_ | (refine dre_ef rfl ?_; refine yS 2 ?_; refine dre_ek (by repeat first | exact sr | apply sk | apply sd) ?_) | refine dre_end ?_)
          repeat (first | refine yK ?_ | refine yS 1 ?_ | refine sy_rt ?_)
          exact ret_cc 2 1 rfl rfl rfl rfl rfl rfl rfl rfl rfl rfl
       · have hr : tokA s i = (ztk, f, p) := by unfold tokA; rw [hN, if_neg c1, hM, if_neg (by simp), if_pos c3, ht, if_pos hf]
         rw [hr]
         refine split3 _ (fun a1 => ?_) (fun a1 a2 a3 => ?_)
         all_goals
          refine sy_enter rfl rfl ?_
          simp only [initFr]
          repeat (first | refine yK ?_ | refine yP ?_ | (refine yA ?_; intro _))
          refine sy_ov (ov_call rfl (fun w _ => take_c s i _ _ htk0 (by omega) w)) rfl rfl ?_
          repeat (first | refine yK ?_ | refine yP ?_ | refine yN ?_)
          refine sy_ov (ov_call rfl (fun w _ => mark_c s i [] hmk (by omega) w)) rfl rfl ?_
          repeat (first | refine yK ?_ | refine yP ?_ | refine sy_guard_undef rfl rfl rfl rfl rfl ?_ | refine yG ?_ | refine yH ?_ | refine yM ?_ | refine yE ?_ | refine sy_ov (ov_pick rfl rfl rfl) rfl rfl ?_ | refine yI ?_ | refine yT ?_ | refine yN ?_)
          refine sy_ov (ov_call rfl (fun w _ => dtake_c s i v e f p ht (by omega) (by omega) (by omega) w)) rfl rfl ?_
          repeat (first | refine yK ?_ | refine yP ?_ | refine yL 0 ?_ | refine yS 0 ?_ | refine yF ?_ | (refine yA ?_; intro _) | refine yT ?_)
          refine sy_drawE _ 3 [(0, false), (1, false), (2, true)] (by kernel_rfl) rfl (sk (sk (sd sr))) ?_
          repeat (first | refine dre_rd (fun _ _ => ov_ld 0 rfl rfl rfl) rfl ?_ | refine dre_rd (fun _ _ => ov_build rfl rfl rfl) rfl ?_ | (refine dre_ef rfl ?_; refine yS 2 ?_; refine dre_ek (by repeat first | exact sr | apply sk | apply sd) ?_) | refine dre_end ?_)
          repeat (first | refine yK ?_ | refine yS 1 ?_ | refine sy_rt ?_)
          exact ret_cc 2 1 rfl rfl rfl rfl rfl rfl rfl rfl rfl rfl
     · have a1 : bt s i ≠ 45 := fun h => c3 (.inl h)
       have split3 : ∀ (Q : Prop), (48 ≤ bt s i → 57 < bt s i → Q) → (¬ 48 ≤ bt s i → Q) → Q := fun Q a b => by
        by_cases e : 48 ≤ bt s i
        · exact a e (by omega)
        · exact b e
       by_cases c4 : bt s i = 34
       · obtain ⟨o, z, e, p, hu⟩ : ∃ o z e p, unqR s i = (o, z, e, p) := ⟨_, _, _, _, rfl⟩
         have a2 : ¬ 48 ≤ bt s i := by omega
         by_cases he : e = 0
         · subst he
           have hp0 := unqR_p0 hu
           subst hp0
           have hr : tokA s i = ((3, (i : Int), z, o, 0), 0, 0) := by unfold tokA; rw [hN, if_neg c1, hM, if_neg (by simp), if_neg c3, if_pos c4, hu, if_neg (by simp)]
           rw [hr]
           refine sy_enter rfl rfl ?_
           simp only [initFr]
           repeat (first | refine yK ?_ | refine yP ?_ | (refine yA ?_; intro _))
           refine sy_ov (ov_call rfl (fun w _ => take_c s i _ _ htk0 (by omega) w)) rfl rfl ?_
           repeat (first | refine yK ?_ | refine yP ?_ | refine yN ?_)
           refine sy_ov (ov_call rfl (fun w _ => mark_c s i [] hmk (by omega) w)) rfl rfl ?_
           repeat (first | refine yK ?_ | refine yP ?_ | refine yG ?_ | refine yH ?_ | refine yE ?_ | refine sy_ov (ov_pick rfl rfl rfl) rfl rfl ?_ | refine yI ?_ | refine yT ?_ | refine yN ?_)
           refine sy_ov (ov_call rfl (fun w _ => unquote_c s i o z 0 0 hu (by omega) (by omega) (by omega) w)) rfl rfl ?_
           repeat (first | refine yK ?_ | refine yP ?_ | refine yL 0 ?_ | refine yS 0 ?_ | refine yF ?_ | (refine yA ?_; intro _) | refine yN ?_)
           refine sy_drawE _ 6 [(0, false), (1, false), (2, false), (3, false), (4, false), (5, true)] (by kernel_rfl) rfl (sk (sk (sd sr))) ?_
           repeat (first | refine dre_rd (fun _ _ => ov_p rfl) rfl ?_ | refine dre_rd (fun _ _ => ov_ld 0 rfl rfl rfl) rfl ?_ | refine dre_rd (fun _ _ => ov_build rfl rfl rfl) rfl ?_ | (refine dre_ef rfl ?_; refine yS 2 ?_; refine dre_ek (by repeat first | exact sr | apply sk | apply sd) ?_) | refine dre_end ?_)
           repeat (first | refine yK ?_ | refine yS 1 ?_ | refine sy_rt ?_)
           exact ret_cc 2 1 rfl rfl rfl rfl rfl rfl rfl rfl rfl rfl
         · have hr : tokA s i = (ztk, e, p) := by unfold tokA; rw [hN, if_neg c1, hM, if_neg (by simp), if_neg c3, if_pos c4, hu, if_pos he]
           rw [hr]
           refine sy_enter rfl rfl ?_
           simp only [initFr]
           repeat (first | refine yK ?_ | refine yP ?_ | (refine yA ?_; intro _))
           refine sy_ov (ov_call rfl (fun w _ => take_c s i _ _ htk0 (by omega) w)) rfl rfl ?_
           repeat (first | refine yK ?_ | refine yP ?_ | refine yN ?_)
           refine sy_ov (ov_call rfl (fun w _ => mark_c s i [] hmk (by omega) w)) rfl rfl ?_
           repeat (first | refine yK ?_ | refine yP ?_ | refine yG ?_ | refine yH ?_ | refine yE ?_ | refine sy_ov (ov_pick rfl rfl rfl) rfl rfl ?_ | refine yI ?_ | refine yT ?_ | refine yN ?_)
           refine sy_ov (ov_call rfl (fun w _ => unquote_c s i o z e p hu (by omega) (by omega) (by omega) w)) rfl rfl ?_
           repeat (first | refine yK ?_ | refine yP ?_ | refine yL 0 ?_ | refine yS 0 ?_ | refine yF ?_ | (refine yA ?_; intro _) | refine yT ?_)
           refine sy_drawE _ 3 [(0, false), (1, false), (2, true)] (by kernel_rfl) rfl (sk (sk (sd sr))) ?_
           repeat (first | refine dre_rd (fun _ _ => ov_ld 0 rfl rfl rfl) rfl ?_ | refine dre_rd (fun _ _ => ov_build rfl rfl rfl) rfl ?_ | (refine dre_ef rfl ?_; refine yS 2 ?_; refine dre_ek (by repeat first | exact sr | apply sk | apply sd) ?_) | refine dre_end ?_)
           repeat (first | refine yK ?_ | refine yS 1 ?_ | refine sy_rt ?_)
           exact ret_cc 2 1 rfl rfl rfl rfl rfl rfl rfl rfl rfl rfl
       · obtain ⟨r, m, ok, hd⟩ := trip (decAt s i)
         have hr : tokA s i = (ztk, if ok = true then 3 else 2, (i : Int)) := by unfold tokA; rw [hN, if_neg c1, hM, if_neg (by simp), if_neg c3, if_neg c4, hd]
         rw [hr]
         refine split3 _ (fun a2 a3 => ?_) (fun a2 => ?_)
         all_goals
          refine sy_enter rfl rfl ?_
          simp only [initFr]
          repeat (first | refine yK ?_ | refine yP ?_ | (refine yA ?_; intro _))
          refine sy_ov (ov_call rfl (fun w _ => take_c s i _ _ htk0 (by omega) w)) rfl rfl ?_
          repeat (first | refine yK ?_ | refine yP ?_ | refine yN ?_)
          refine sy_ov (ov_call rfl (fun w _ => mark_c s i [] hmk (by omega) w)) rfl rfl ?_
          repeat (first | refine yK ?_ | refine yP ?_ | refine yG ?_ | refine yH ?_ | refine yM ?_ | refine yE ?_ | refine sy_ov (ov_pick rfl rfl rfl) rfl rfl ?_ | refine yI ?_ | refine yB ?_ | refine yN ?_)
          refine sy_ov (ov_call rfl (fun w _ => other_c s i r m ok hd (by omega) (by omega) (by omega) w)) rfl rfl ?_
          repeat (first | refine yK ?_ | refine yS 0 ?_ | refine yS 1 ?_ | refine sy_rt ?_)
          exact ret_cc 1 0 rfl rfl rfl rfl rfl rfl rfl rfl rfl rfl
   · have hr : tokA s i = ((4, (i : Int), (i : Int) + m.length, m, 0), 0, 0) := by unfold tokA; rw [hN, if_neg c1, hM, if_pos c2]
     rw [hr]
     refine sy_enter rfl rfl ?_
     simp only [initFr]
     repeat (first | refine yK ?_ | refine yP ?_ | (refine yA ?_; intro _))
     refine sy_ov (ov_call rfl (fun w _ => take_c s i _ _ htk0 (by omega) w)) rfl rfl ?_
     repeat (first | refine yK ?_ | refine yP ?_ | refine yN ?_)
     refine sy_ov (ov_call rfl (fun w _ => mark_c s i m hmk (by omega) w)) rfl rfl ?_
     repeat (first | refine yK ?_ | refine yP ?_ | (refine yR ?_ ?_ ?_; omega; omega) | refine yU ?_ | refine yS 0 ?_ | refine yS 1 ?_ | refine yB ?_ | refine yT ?_ | refine sy_rt ?_)
     exact ret_cc 1 0 rfl rfl rfl rfl rfl rfl rfl rfl rfl rfl
section
variable {P : Program} {C : Cx} {k : List It} {fr : Fr} {hp : List En} {x : Exit}
theorem leave_grow (e : TypeId) (size : Nat) (h : Leave P C x k fr (vec e size (.slice none 0 0) 0 [] :: hp)) : Leave P C x k fr hp :=
 .mk fun a w ha hw => h.go a w ha (hw.nil e size)
end
theorem flat_snoc {α : Type} (f : α → List Value) (l : List α) (x : α) : (l ++ [x]).flatMap f = l.flatMap f ++ f x := by simp
def ScanR (s : List UInt8) (v : Value) (e' : En) : Prop := ∃ p q, v = .tuple #[.slice p (scanR s).1.length q, faultV (scanR s).2.1 (scanR s).2.2] ∧ e' = vec 59 5 (.slice p (scanR s).1.length q) (scanR s).1.length ((scanR s).1.flatMap tokV)
theorem ScanR.mk' {s : List UInt8} {L : List TokT} {e a : Int} {n : Nat} {cs : List Value} (h : scanR s = (L, e, a)) (p : Option Addr) (q : Nat) (hn : n = L.length) (hcs : cs = L.flatMap tokV) : ScanR s (.tuple #[.slice p n q, faultV e a]) (vec 59 5 (.slice p n q) n cs) := by
 subst hn; subst hcs
 exact ⟨p, q, by rw [h], by rw [h]⟩
structure TkSt where
 i : Int
 p : Option Addr
 q : Nat
 acc : List TokT
theorem remL_bd59 {s : List UInt8} {i : Int} (h0 : 0 ≤ i) (hlt : i < s.length) (hb : bt s i = 59) {n : Nat} {e : Int} (hr : remL (s.drop i.toNat) = (n, e)) : 0 < n := by
 have := remL_semi (s.drop i.toNat) (by rw [bt_at s i h0]; exact hb) (drop_ne' s i h0 hlt)
 rw [hr] at this; exact this
set_option maxRecDepth 20000 in
set_option maxHeartbeats 4000000 in
theorem scan_c (s : List UInt8) (hs : s.length ≤ 1000000000000000) (w : World) : Calls Tryz.prog 35 #[S s] w fun x w' => ∃ v e', ScanR s v e' ∧ x = .returned v ∧ e'.holds w' ∧ Below w.heap.size w w' ∧ ∀ b, e'.dom b → w.heap.size ≤ b ∧ b < w'.heap.size := by
 by_cases hbig : 65536 < s.length
 · have hr : scanR s = ([], 7, 65536) := if_pos hbig
   refine sy_enter rfl rfl ?_
   simp only [initFr]
   repeat (first | refine yK ?_ | refine yP ?_ | (refine yA ?_; intro _))
   refine sy_scope (fun _ _ _ h => h) ?_
   repeat (first | refine yK ?_ | refine yP ?_ | refine yU ?_ | refine yS 0 ?_ | refine yB ?_ | refine yT ?_ | refine sy_rt ?_)
   refine leave_grow 59 5 ?_
   refine ret2cw 1 rfl rfl rfl rfl rfl rfl fun w' hw' => new_at hw' 0 rfl rfl (by exact ScanR.mk' hr none 0 rfl rfl)
 · have hR : scanR s = scanT s 0 := if_neg hbig
   refine sy_enter rfl rfl ?_
   simp only [initFr]
   repeat (first | refine yK ?_ | refine yP ?_ | (refine yA ?_; intro _))
   refine sy_scope (fun _ _ _ h => h) ?_
   repeat (first | refine yK ?_ | refine yP ?_ | refine yU ?_ | (refine yA ?_; intro _) | refine yN ?_)
   rename_i b3 b5
   refine sy_grow 59 5 ?_
   refine sy_loop (α := TkSt) (fun a => [(0, S s), (3, .pointer (some ⟨b3, 0, none⟩)), (4, .slice a.p a.acc.length a.q), (5, .pointer (some ⟨b5, 0, none⟩)), (6, .int .i64 a.i)]) (fun a => [vec 59 5 (.slice a.p a.acc.length a.q) a.acc.length (a.acc.flatMap tokV), blk b5 29 [.int .i64 0, .int .i64 0], blk b3 29 [.int .i64 0, .int .i64 0]]) (fun a => SInv s a.i a.acc) (fun a => (s.length - a.i).toNat) ⟨0, none, 0, []⟩ (SInv.start s) ⟨zz, zz, zz, zz, zz, trivial⟩ (List.Sublist.refl _) ?_
   rintro ⟨i, p, q, acc⟩ hi
   have i0 := hi.i0
   have i1 := hi.i1
   have ik := hi.n
   dsimp only at hi i0 i1 ik ⊢
   by_cases hlt : i < s.length
   · obtain ⟨bl, hbl⟩ : ∃ bl, blankB (bt s i) = bl := ⟨_, rfl⟩
     cases bl with
     | true =>
      repeat (first | refine yK ?_ | refine yP ?_ | refine yU ?_ | refine yI ?_ | refine yT ?_)
      refine sy_ov (ov_call rfl (fun w _ => blank_c _ true hbl w)) rfl rfl ?_
      repeat (first | refine yK ?_ | refine yP ?_ | (refine yR ?_ ?_ ?_; omega; omega) | refine yT ?_)
      refine sy_back ⟨i + 1, p, q, acc⟩ (hi.blank hlt hbl) (by dsimp only; omega) ⟨zz, zz, zz, zz, zz, trivial⟩ (List.Sublist.refl _)
     | false =>
      by_cases h59 : bt s i = 59
      · obtain ⟨n, e, hrem⟩ : ∃ n e, remL (s.drop i.toNat) = (n, e) := ⟨_, _, rfl⟩
        have hn := remL_bd59 i0 hlt h59 hrem
        have hc := remark_c s i n e hrem i0 (by omega) (by omega)
        by_cases he : e = 0
        · subst he
          rw [if_pos rfl, if_pos rfl] at hc
          have hst := hi.rem hlt h59 hrem hn
          have := hst.i1
          repeat (first | refine yK ?_ | refine yP ?_ | refine yU ?_ | refine yI ?_ | refine yT ?_)
          refine sy_ov (ov_call rfl (fun w _ => blank_c _ false hbl w)) rfl rfl ?_
          repeat (first | refine yK ?_ | refine yP ?_ | refine yI ?_ | refine yT ?_ | refine yN ?_)
          refine sy_ov (ov_call rfl (fun w _ => hc w)) rfl rfl ?_
          repeat (first | refine yK ?_ | refine yP ?_ | refine yL 1 ?_ | refine yS 1 ?_ | refine yF ?_ | refine yN ?_)
          refine sy_back ⟨i + n, p, q, acc⟩ hst (by dsimp only; omega) ⟨zz, zz, zz, zz, zz, trivial⟩ (List.Sublist.refl _)
        · rw [if_neg he, if_neg he] at hc
          have hr := hi.remBad hlt h59 hrem he
          rw [← hR] at hr
          repeat (first | refine yK ?_ | refine yP ?_ | refine yU ?_ | refine yI ?_ | refine yT ?_)
          refine sy_ov (ov_call rfl (fun w _ => blank_c _ false hbl w)) rfl rfl ?_
          repeat (first | refine yK ?_ | refine yP ?_ | refine yI ?_ | refine yT ?_ | refine yN ?_)
          refine sy_ov (ov_call rfl (fun w _ => hc w)) rfl rfl ?_
          repeat (first | refine yK ?_ | refine yP ?_ | refine yL 1 ?_ | refine yS 1 ?_ | refine yF ?_ | refine yT ?_)
          refine sy_draw 2 (by kernel_rfl) ?_
          repeat (first | refine dr_op (ov_p rfl) rfl rfl ?_ | refine dr_op (ov_ld 1 rfl rfl rfl) rfl rfl ?_ | refine dr_end ?_)
          repeat (first | refine yK ?_ | refine yS 2 ?_ | refine sy_rt ?_)
          refine leave_grow 59 5 ?_
          refine ret2cw 3 rfl rfl rfl rfl rfl rfl fun w' hw' => new_at hw' 0 rfl rfl (by exact ScanR.mk' hr none 0 rfl rfl)
      · obtain ⟨t, e, a, htk⟩ := trip (tokA s i.toNat)
        have hii : ((i.toNat : Nat) : Int) = i := Int.toNat_of_nonneg i0
        have hc := token_c s i.toNat _ htk (by omega) (by omega)
        rw [hii] at hc
        by_cases he : e = 0
        · subst he
          obtain ⟨hst, hgt⟩ := hi.tok hlt hbl h59 htk
          have := hst.i1
          have hk := hst.n
          have e1 : (acc ++ [t]).length = acc.length + 1 := by simp
          have e2 := flat_snoc tokV acc t
          rw [e1] at hk
          have hp0 : a = 0 := (tokA_ok0 s i.toNat htk).1 rfl
          subst hp0
          repeat (first | refine yK ?_ | refine yP ?_ | refine yU ?_ | refine yI ?_ | refine yT ?_)
          refine sy_ov (ov_call rfl (fun w _ => blank_c _ false hbl w)) rfl rfl ?_
          repeat (first | refine yK ?_ | refine yP ?_ | refine yI ?_ | (refine yA ?_; intro _) | refine yN ?_)
          refine sy_ov (ov_call rfl (fun w _ => hc w)) rfl rfl ?_
          repeat (first | refine yK ?_ | refine yP ?_ | refine yL 0 ?_ | refine yL 2 ?_ | refine yS 0 ?_ | refine yS 2 ?_ | refine yF ?_ | refine yN ?_)
          refine sy_buildSlice rfl rfl rfl rfl rfl rfl rfl rfl ?_
          intro nb
          refine sy_append 2 0 rfl rfl rfl rfl rfl rfl rfl rfl rfl rfl rfl (by omega) (by refine Nat.le_trans (Nat.mul_le_mul_left _ (Nat.le_of_ble_eq_true (m := 1024) rfl)) ?_; omega) ?_
          intro p' q'
          repeat (first | refine yK ?_ | refine yP ?_ | refine yL 1 ?_ | refine yF ?_)
          refine sy_back ⟨t.2.2.1, some p', q', acc ++ [t]⟩ hst (by dsimp only; omega) ⟨zz, zz, ⟨_, rfl, by rw [e1]⟩, zz, zz, trivial⟩ (by dsimp only; rw [e1, e2]; exact sd (sd sr))
        · have hr := hi.tokBad hlt hbl h59 htk he
          rw [← hR] at hr
          repeat (first | refine yK ?_ | refine yP ?_ | refine yU ?_ | refine yI ?_ | refine yT ?_)
          refine sy_ov (ov_call rfl (fun w _ => blank_c _ false hbl w)) rfl rfl ?_
          repeat (first | refine yK ?_ | refine yP ?_ | refine yI ?_ | (refine yA ?_; intro _) | refine yN ?_)
          refine sy_ov (ov_call rfl (fun w _ => hc w)) rfl rfl ?_
          repeat (first | refine yK ?_ | refine yP ?_ | refine yL 2 ?_ | refine yS 0 ?_ | refine yS 2 ?_ | refine yF ?_ | refine yT ?_)
          refine sy_draw 2 (by kernel_rfl) ?_
          repeat (first | refine dr_op (ov_p rfl) rfl rfl ?_ | refine dr_op (ov_ld 2 rfl rfl rfl) rfl rfl ?_ | refine dr_end ?_)
          repeat (first | refine yK ?_ | refine yS 3 ?_ | refine sy_rt ?_)
          refine leave_grow 59 5 ?_
          refine ret2cw 4 rfl rfl rfl rfl rfl rfl fun w' hw' => new_at hw' 0 rfl rfl (by exact ScanR.mk' hr none 0 rfl rfl)
   · have hr := hi.fin hlt
     rw [← hR] at hr
     have e1 : (acc ++ [((0, i, i, [], 0) : TokT)]).length = acc.length + 1 := by simp
     have e2 := flat_snoc tokV acc (0, i, i, [], 0)
     repeat (first | refine yK ?_ | refine yP ?_ | refine yU ?_ | refine yL 1 ?_ | refine yF ?_ | refine yN ?_)
     refine sy_drawE _ 8 [(0, false), (1, false), (2, false), (3, false), (6, false), (4, true), (5, true), (7, false)] (by kernel_rfl) rfl (sd sr) ?_
     repeat (first | refine dre_rd (fun _ _ => ov_p rfl) rfl ?_ | refine dre_rd (fun _ _ => ov_ld 0 rfl rfl rfl) rfl ?_ | refine dre_rd (fun _ _ => ov_build rfl rfl rfl) rfl ?_)
     refine dre_ef rfl ?_
     refine sy_buildSlice rfl rfl rfl rfl rfl rfl rfl rfl ?_
     intro nb
     refine dre_ek (by repeat first | exact sr | apply sk | apply sd) ?_
     refine dre_ef rfl ?_
     refine sy_append 1 0 rfl rfl rfl rfl rfl rfl rfl rfl rfl rfl rfl (by omega) (by refine Nat.le_trans (Nat.mul_le_mul_left _ (Nat.le_of_ble_eq_true (m := 1024) rfl)) ?_; omega) ?_
     intro p' q'
     refine dre_ek (by repeat first | exact sr | apply sk | apply sd) ?_
     repeat (first | refine dre_rd (fun _ _ => ov_p rfl) rfl ?_ | refine dre_end ?_)
     repeat (first | refine yK ?_ | refine yS 3 ?_ | refine sy_rt ?_)
     refine ret2cw 3 rfl rfl rfl rfl rfl rfl fun w' hw' => new_at hw' 1 rfl rfl (by exact ScanR.mk' hr (some p') q' e1.symm e2.symm)
end Go.Proofs.YtldjakeigjngoaaGreat