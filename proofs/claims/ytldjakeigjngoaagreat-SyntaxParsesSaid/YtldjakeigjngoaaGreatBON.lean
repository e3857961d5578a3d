/- BON: texts of this proof, joined by program: PlainOne, One. -/
import Derived.Test.YtldjakeigjngoaaGreatBPL
import Derived.Test.YtldjakeigjngoaaGreatBUB
import Derived.Test.YtldjakeigjngoaaGreatEscQ
import Derived.Lib.Bytealg
import Derived.Test.YtldjakeigjngoaaGreatBU3
set_option linter.unusedVariables false
set_option linter.unusedSimpArgs false
namespace Go.Proofs.YtldjakeigjngoaaGreat
open Go.RowKit Bf
def hexV (c : Nat) : Option Nat :=
 if 48 ≤ c ∧ c ≤ 57 then some (c - 48) else if 97 ≤ c ∧ c ≤ 102 then some (c - 87) else if 65 ≤ c ∧ c ≤ 70 then some (c - 55) else none
theorem hexV_lt {c d : Nat} (h : hexV c = some d) : d < 16 := by
 unfold hexV at h
 split at h
 · cases h; omega
 · split at h
   · cases h; omega
   · split at h
     · cases h; omega
     · cases h
def numV : Nat → List UInt8 → Option Nat
 | n, [] => some n
 | n, c :: l => match hexV c.toNat with
  | some d => numV (n * 16 + d) l
  | none => none
def numL (l : List UInt8) : Option Nat := if l = [] then none else numV 0 l
theorem numV_some {n d : Nat} {c : UInt8} {l : List UInt8} (h : hexV c.toNat = some d) : numV n (c :: l) = numV (n * 16 + d) l := by simp only [numV, h]
theorem numV_none {n : Nat} {c : UInt8} {l : List UInt8} (h : hexV c.toNat = none) : numV n (c :: l) = none := by simp only [numV, h]
theorem numV_lt : ∀ (l : List UInt8) (k n m : Nat), n < 16 ^ k → numV n l = some m → m < 16 ^ (k + l.length)
 | [], k, n, m, h, e => by cases e; exact h
 | c :: l, k, n, m, h, e => by
  cases hc : hexV c.toNat with
  | none => rw [numV_none hc] at e; cases e
  | some d =>
   rw [numV_some hc] at e
   have hd := hexV_lt hc
   have := numV_lt l (k + 1) (n * 16 + d) m (by rw [Nat.pow_succ]; omega) e
   rw [List.length_cons, show k + (l.length + 1) = k + 1 + l.length by omega]; exact this
theorem numL_lt (l : List UInt8) (m : Nat) (hl : l.length ≤ 7) (h : numL l = some m) : m < 268435456 := by
 unfold numL at h
 split at h
 · cases h
 · have := numV_lt l 0 0 m (by simp) h
   have h2 : 16 ^ (0 + l.length) ≤ 16 ^ 7 := Nat.pow_le_pow_right (by decide) (by omega)
   have h3 : 16 ^ 7 = 268435456 := by decide
   omega
theorem numL_lt6 (l : List UInt8) (m : Nat) (hl : l.length ≤ 6) (h : numL l = some m) : m < 16777216 := by
 unfold numL at h
 split at h
 · cases h
 · have := numV_lt l 0 0 m (by simp) h
   have h2 : 16 ^ (0 + l.length) ≤ 16 ^ 6 := Nat.pow_le_pow_right (by decide) (by omega)
   have h3 : 16 ^ 6 = 16777216 := by decide
   omega
theorem numL_lt2 (l : List UInt8) (m : Nat) (hl : l.length ≤ 2) (h : numL l = some m) : m < 256 := by
 unfold numL at h
 split at h
 · cases h
 · have := numV_lt l 0 0 m (by simp) h
   have h2 : 16 ^ (0 + l.length) ≤ 16 ^ 2 := Nat.pow_le_pow_right (by decide) (by omega)
   have h3 : 16 ^ 2 = 256 := by decide
   omega
theorem numV_all : ∀ (l : List UInt8) (n m : Nat), numV n l = some m → ∀ c ∈ l, hexV c.toNat ≠ none
 | [], _, _, _, c, hc => by cases hc
 | a :: l, n, m, h, c, hc => by
  cases ha : hexV a.toNat with
  | none => rw [numV_none ha] at h; cases h
  | some d =>
   rw [numV_some ha] at h
   rcases List.mem_cons.1 hc with rfl | hc
   · rw [ha]; simp
   · exact numV_all l _ m h c hc
/-! the first place of a byte -/
theorem ib_nil (c : UInt8) : Go.Lib.indexByte [] c = -1 := rfl
theorem ib_here (c : UInt8) (l : List UInt8) : Go.Lib.indexByte (c :: l) c = 0 := by unfold Go.Lib.indexByte; simp
theorem ib_there (b c : UInt8) (l : List UInt8) (h : b ≠ c) : Go.Lib.indexByte (b :: l) c = if Go.Lib.indexByte l c = -1 then -1 else Go.Lib.indexByte l c + 1 := by
 rw [Go.Lib.indexByte, if_neg (by simp [h])]
 by_cases h1 : Go.Lib.indexByte l c = -1
 · rw [if_pos h1, if_pos (by simp [h1])]
 · rw [if_neg h1, if_neg (by simp [h1])]
theorem ib_lt : ∀ (l : List UInt8) (c : UInt8), -1 ≤ Go.Lib.indexByte l c ∧ Go.Lib.indexByte l c < l.length
 | [], c => by rw [ib_nil]; simp
 | b :: l, c => by
  have ih := ib_lt l c
  by_cases h : b = c
  · subst h; rw [ib_here]; simp only [List.length_cons]; omega
  · rw [ib_there b c l h]; simp only [List.length_cons]; split <;> omega
theorem ib_found : ∀ (l : List UInt8) (c : UInt8) (k : Nat), Go.Lib.indexByte l c = k ↔ (l[k]? = some c ∧ ∀ j, j < k → l[j]? ≠ some c)
 | [], c, k => by rw [ib_nil]; simp
 | b :: l, c, k => by
  have ih := ib_found l c
  have hlt := ib_lt l c
  by_cases h : b = c
  · subst h; rw [ib_here]
    constructor
    · intro e; have : k = 0 := by omega
      subst this; exact ⟨rfl, fun j hj => by omega⟩
    · rintro ⟨_, h2⟩
      cases k with
      | zero => rfl
      | succ k => exact absurd rfl (h2 0 (by omega))
  · rw [ib_there b c l h]
    cases k with
    | zero =>
     constructor
     · intro e; split at e <;> omega
     · rintro ⟨h1, _⟩; simp only [List.getElem?_cons_zero, Option.some.injEq] at h1; exact absurd h1 h
    | succ k =>
     have := ih k
     constructor
     · intro e
       split at e
       · omega
       · obtain ⟨h1, h2⟩ := this.1 (by omega)
         refine ⟨by simpa using h1, fun j hj => ?_⟩
         cases j with
         | zero => simp; exact h
         | succ j => simpa using h2 j (by omega)
     · rintro ⟨h1, h2⟩
       have := this.2 ⟨by simpa using h1, fun j hj => by simpa using h2 (j + 1) (by omega)⟩
       rw [if_neg (by omega)]; omega
/-! escapes -/
def scalarL (l : List UInt8) : List UInt8 × Nat :=
 if l ≠ [] ∧ bt l 0 = 123 ∧ 0 ≤ Go.Lib.indexByte l 125 ∧ Go.Lib.indexByte l 125 ≤ 7 then
  match numL ((l.drop 1).take (Go.Lib.indexByte l 125 - 1).toNat) with
  | some n => (encL n, (Go.Lib.indexByte l 125).toNat + 1)
  | none => ([], 0)
 else ([], 0)
def oneT (c : Nat) (l : List UInt8) : List UInt8 × Nat :=
 if c = 34 ∨ c = 92 then ([UInt8.ofNat c], 2) else if c = 116 then ([9], 2) else if c = 110 then ([10], 2) else if c = 114 then ([13], 2)
 else if c = 120 then (if l.length < 2 then ([], 0) else match numL (l.take 2) with
  | some n => ([UInt8.ofNat n], 4)
  | none => ([], 0))
 else if c = 117 then (if (scalarL l).1 = [] then ([], 0) else ((scalarL l).1, 2 + (scalarL l).2))
 else ([], 0)
def oneL : List UInt8 → List UInt8 × Nat
 | a :: c :: l => if a.toNat = 92 then oneT c.toNat l else ([], 0)
 | _ => ([], 0)
theorem oneL_cons (a c : UInt8) (l : List UInt8) : oneL (a :: c :: l) = if a.toNat = 92 then oneT c.toNat l else ([], 0) := rfl
theorem scalarL_bd (l : List UInt8) : (scalarL l).1.length ≤ 4 ∧ (scalarL l).2 ≤ l.length ∧ (scalarL l).2 ≤ 8 := by
 unfold scalarL
 have hib := ib_lt l 125
 split
 · rename_i h
   split
   · refine ⟨encL_len _, ?_, ?_⟩
     · simp only; omega
     · simp only; omega
   · simp
 · simp
theorem oneT_bd (c : Nat) (l : List UInt8) : (oneT c l).1.length ≤ 4 ∧ (oneT c l).2 ≤ l.length + 2 ∧ (oneT c l).2 ≤ 10 ∧ ((oneT c l).2 = 0 ∨ 2 ≤ (oneT c l).2) ∧ ((oneT c l).2 = 0 → (oneT c l).1 = []) := by
 unfold oneT
 have hs := scalarL_bd l
 split
 · simp
 · split
   · simp
   · split
     · simp
     · split
       · simp
       · split
         · split
           · simp
           · split
             · simp; omega
             · simp
         · split
           · split
             · simp
             · simp only; refine ⟨hs.1, by omega, by omega, .inr (by omega), fun h => by omega⟩
           · simp
theorem oneL_bd (l : List UInt8) : (oneL l).1.length ≤ 4 ∧ (oneL l).2 ≤ l.length ∧ (oneL l).2 ≤ 10 ∧ ((oneL l).2 = 0 ∨ 2 ≤ (oneL l).2) ∧ ((oneL l).2 = 0 → (oneL l).1 = []) := by
 match l with
 | [] => simp [oneL]
 | [a] => simp [oneL]
 | a :: c :: l =>
  rw [oneL_cons]
  split
  · have := oneT_bd c.toNat l; simp only [List.length_cons]; exact ⟨this.1, by omega, this.2.2.1, this.2.2.2.1, this.2.2.2.2⟩
  · simp
theorem oneL_no (l : List UInt8) (h : l.length < 2 ∨ bt l 0 ≠ 92) : oneL l = ([], 0) := by
 match l with
 | [] => rfl
 | [a] => rfl
 | a :: c :: l =>
  have h2 : bt (a :: c :: l) 0 ≠ 92 := by rcases h with h | h; · simp at h; omega
                                          · exact h
  have e : bt (a :: c :: l) 0 = (a.toNat : Int) := rfl
  rw [oneL_cons, if_neg (by omega)]
def oneAt (q : List UInt8) (i : Int) : List UInt8 × Nat := if i < 0 ∨ (q.length : Int) ≤ i then ([], 0) else oneL (q.drop i.toNat)
/-! the reference's way -/
def hexR (s : List UInt8) : Int := if s.length < 1 ∨ 6 < s.length then -1 else match numV 0 s with
 | some n => n
 | none => -1
theorem hexR_num (s : List UInt8) (h1 : 1 ≤ s.length) (h2 : s.length ≤ 6) : hexR s = match numL s with
 | some n => (n : Int)
 | none => -1 := by
 have : s ≠ [] := by intro e; subst e; simp at h1
 unfold hexR numL; rw [if_neg (by omega), if_neg this]
def goodJ (l : List UInt8) (j : Nat) : Prop := bt l 0 = 123 ∧ bt l j = 125 ∧ ∃ m : Nat, numL ((l.drop 1).take (j - 1)) = some m ∧ scalarB m = true
theorem bt_some (l : List UInt8) (j : Nat) (hj : j < l.length) (k : UInt8) : bt l j = (k.toNat : Int) ↔ l[j]? = some k := by
 rw [List.getElem?_eq_getElem hj]
 unfold bt; rw [List.getD_eq_getElem?_getD, Int.toNat_natCast, List.getElem?_eq_getElem hj]
 simp only [Option.getD_some, Option.some.injEq]
 constructor
 · intro h; exact UInt8.toNat_inj.1 (by omega)
 · rintro h; rw [h]
theorem goodJ_scalar (l : List UInt8) (j : Nat) (h2 : 2 ≤ j) (h7 : j ≤ 7) (hj : j < l.length) (h : goodJ l j) : ∃ m : Nat, numL ((l.drop 1).take (j - 1)) = some m ∧ scalarL l = (encL m, j + 1) ∧ encL m ≠ [] := by
 obtain ⟨g1, g2, m, g3, g4⟩ := h
 refine ⟨m, g3, ?_, encL_ne _ g4⟩
 have hi : Go.Lib.indexByte l 125 = (j : Int) := by
  refine (ib_found l 125 j).2 ⟨(bt_some l j hj 125).1 g2, fun i hij hc => ?_⟩
  have hil : i < l.length := by omega
  rcases Nat.eq_zero_or_pos i with h0 | hp
  · subst h0
    have := (bt_some l 0 hil 125).2 hc
    have e : ((125 : UInt8).toNat : Int) = 125 := rfl
    rw [e] at this
    have g1' : bt l ((0 : Nat) : Int) = 123 := g1
    omega
  · have hmem : (125 : UInt8) ∈ (l.drop 1).take (j - 1) := by
     rw [List.mem_iff_getElem?]
     refine ⟨i - 1, ?_⟩
     rw [List.getElem?_take_of_lt (by omega), List.getElem?_drop, show 1 + (i - 1) = i by omega]; exact hc
    unfold numL at g3
    split at g3
    · cases g3
    · exact numV_all _ _ _ g3 125 hmem (by decide)
 have hne : l ≠ [] := by intro e; subst e; simp at hj
 have e1 : ((j : Int) - 1).toNat = j - 1 := by omega
 unfold scalarL
 rw [hi, if_pos ⟨hne, g1, by omega, by omega⟩, e1, g3]
 simp
theorem scalarL_good (l : List UInt8) (h : (scalarL l).1 ≠ []) : ∃ j, 2 ≤ j ∧ j ≤ 7 ∧ j < l.length ∧ goodJ l j := by
 have hib := ib_lt l 125
 unfold scalarL at h
 split at h
 · rename_i hc
   obtain ⟨c1, c2, c3, c4⟩ := hc
   obtain ⟨j, hj⟩ : ∃ j : Nat, Go.Lib.indexByte l 125 = (j : Int) := ⟨(Go.Lib.indexByte l 125).toNat, by omega⟩
   rw [hj] at h hib c3 c4
   have e1 : ((j : Int) - 1).toNat = j - 1 := by omega
   rw [e1] at h
   cases hn : numL ((l.drop 1).take (j - 1)) with
   | none => rw [hn] at h; exact absurd rfl h
   | some m =>
    rw [hn] at h
    simp only at h
    have hs : scalarB m = true := by
     cases hb : scalarB (m : Int) with
     | true => rfl
     | false => exact absurd (encL_no _ hb) h
    have hf := (ib_found l 125 j).1 hj
    have hjl : j < l.length := by omega
    have h2 : 2 ≤ j := by
     rcases Nat.lt_or_ge j 2 with hlt | hge
     · exfalso
       have : j - 1 = 0 := by omega
       rw [this, List.take_zero] at hn
       unfold numL at hn; simp at hn
     · exact hge
    exact ⟨j, h2, by omega, hjl, c2, (bt_some l j hjl 125).2 hf.1, m, hn, hs⟩
 · exact absurd rfl h
section
variable {C : Cx} {fr : Fr} {hp : List En} {dst : Option Tmp} {ty : TypeId} {pos : String} {aft : Array Edge} {g : Option (Nat × Bool)}
theorem ov_bytes (i : Nat) {x : Operand} {b n c : Nat} {ns : List Int} (hx : ev fr x = some (.slice (some ⟨b, 0, none⟩) n c)) (hi : hp[i]? = some (blk b 5 (ns.map (Value.int .u8)))) (hn : n = ns.length) :
 OV Tryz.prog C fr hp ⟨dst, .convert 159 9 x, ty, pos, aft, g⟩ (S (ns.map fun m => UInt8.ofNat m.toNat)) :=
 ov_read fun r w hr hw => by
  subst hn
  have hl := run_loadCells_list (P := Tryz.prog) w ⟨b, 0, none⟩ (ns.map (Value.int .u8)) (fun j v hj => by
   have : (⟨b, 0, none⟩ : Addr).add j = ⟨b, j, none⟩ := by simp [Addr.add]; intro h; exact h.symm
   rw [this, hw.cell hi]; exact hj)
  simp only [List.length_map] at hl
  have h2 := run_convert_bytes_string (P := Tryz.prog) w 159 9 5 (some ⟨b, 0, none⟩) ns.length c Tryz.underlying159 Tryz.underlying5 Tryz.underlying9
  rw [run_bytesToString _ _ ns.length c ns hl, foldl_push_ints] at h2
  have he0 : ByteArray.empty.data = #[] := rfl
  rw [he0] at h2
  simp [execOp, hr _ _ hx, h2]
end
theorem encode_c (n : Int) (t : List UInt8) (h : encL n = t) (w : World) : Calls Tryz.prog 152 #[.int .i32 n] w fun e w' => e = .returned (S t) ∧ Below w.heap.size w w' := by
 subst h; exact encode_any n w
set_option maxRecDepth 20000 in
theorem indexByte_c (s : List UInt8) (c k : Int) (h : Go.Lib.indexByte s c.toNat.toUInt8 = k) (w : World) : Calls Tryz.prog 128 #[S s, .int .u8 c] w fun e w' => e = .returned (.int .i64 k) ∧ Below w.heap.size w w' := by
 subst h
 have inner : ∀ w : World, Calls Tryz.prog 146 #[S s, .int .u8 c] w fun e w' => e = .returned (.int .i64 (Go.Lib.indexByte s c.toNat.toUInt8)) ∧ Below w.heap.size w w' := fun w => by
  refine sy_enter rfl rfl ?_
  simp only [initFr]
  repeat (first | refine yK ?_ | refine yP ?_)
  refine sy_ov (ov_extern (vs := [S s, .int .u8 c]) rfl Tryz.func150 rfl rfl (by kernel_rfl) (by kernel_rfl) (fun w => Go.Lib.run_indexByteString (P := Tryz.prog) ⟨⟨s⟩⟩ c w)) rfl rfl ?_
  repeat (first | refine yK ?_ | refine yP ?_ | refine sy_rt ?_)
  exact ret1 rfl rfl rfl
 refine sy_enter rfl rfl ?_
 simp only [initFr]
 repeat (first | refine yK ?_ | refine yP ?_)
 refine sy_ov (ov_call rfl (fun w _ => inner w)) rfl rfl ?_
 repeat (first | refine yK ?_ | refine yP ?_ | refine sy_rt ?_)
 exact ret1 rfl rfl rfl
set_option maxRecDepth 20000 in
theorem digit_c (c k : Int) (h0 : 0 ≤ c) (h1 : c ≤ 255) (h : ((hexV c.toNat).getD 16 : Int) = k) (w : World) : Calls Tryz.prog 151 #[.int .u8 c] w fun e w' => e = .returned (.int .u32 k) ∧ Below w.heap.size w w' := by
 subst h
 by_cases a1 : 48 ≤ c
 · by_cases a2 : c ≤ 57
   · have hk : hexV c.toNat = some (c.toNat - 48) := by unfold hexV; rw [if_pos (by omega)]
     refine sy_enter rfl rfl ?_
     simp only [initFr]
     repeat (first | refine yK ?_ | refine yP ?_ | refine yG ?_ | (refine yR ?_ ?_ ?_; omega; omega) | refine yM ?_ | (refine sy_ov (ov_convk rfl ?_ ?_) rfl rfl ?_; omega; omega) | refine yT ?_ | refine sy_rt ?_)
     exact ret1 rfl rfl (by rw [hk]; simp; omega)
   · by_cases a3 : 97 ≤ c
     · by_cases a4 : c ≤ 102
       · have hk : hexV c.toNat = some (c.toNat - 87) := by unfold hexV; rw [if_neg (by omega), if_pos (by omega)]
         refine sy_enter rfl rfl ?_
         simp only [initFr]
         repeat (first | refine yK ?_ | refine yP ?_ | refine yG ?_ | (refine yR ?_ ?_ ?_; omega; omega) | refine yM ?_ | (refine sy_ov (ov_convk rfl ?_ ?_) rfl rfl ?_; omega; omega) | refine yT ?_ | refine yN ?_ | refine sy_rt ?_)
         exact ret1 rfl rfl (by rw [hk]; simp; omega)
       · have hk : hexV c.toNat = none := by unfold hexV; rw [if_neg (by omega), if_neg (by omega), if_neg (by omega)]
         have a5 : 65 ≤ c := by omega
         have a6 : ¬ c ≤ 70 := by omega
         refine sy_enter rfl rfl ?_
         simp only [initFr]
         repeat (first | refine yK ?_ | refine yP ?_ | refine yG ?_ | refine yM ?_ | refine yN ?_ | refine sy_rt ?_)
         exact ret1 rfl rfl (by rw [hk]; rfl)
     · by_cases a5 : 65 ≤ c
       · by_cases a6 : c ≤ 70
         · have hk : hexV c.toNat = some (c.toNat - 55) := by unfold hexV; rw [if_neg (by omega), if_neg (by omega), if_pos (by omega)]
           refine sy_enter rfl rfl ?_
           simp only [initFr]
           repeat (first | refine yK ?_ | refine yP ?_ | refine yG ?_ | refine yH ?_ | (refine yR ?_ ?_ ?_; omega; omega) | refine yM ?_ | refine sy_ov (ov_pick rfl rfl rfl) rfl rfl ?_ | (refine sy_ov (ov_convk rfl ?_ ?_) rfl rfl ?_; omega; omega) | refine yT ?_ | refine yN ?_ | refine sy_rt ?_)
           exact ret1 rfl rfl (by rw [hk]; simp; omega)
         · have hk : hexV c.toNat = none := by unfold hexV; rw [if_neg (by omega), if_neg (by omega), if_neg (by omega)]
           refine sy_enter rfl rfl ?_
           simp only [initFr]
           repeat (first | refine yK ?_ | refine yP ?_ | refine yG ?_ | refine yH ?_ | refine yM ?_ | refine sy_ov (ov_pick rfl rfl rfl) rfl rfl ?_ | refine yN ?_ | refine sy_rt ?_)
           exact ret1 rfl rfl (by rw [hk]; rfl)
       · have hk : hexV c.toNat = none := by unfold hexV; rw [if_neg (by omega), if_neg (by omega), if_neg (by omega)]
         refine sy_enter rfl rfl ?_
         simp only [initFr]
         repeat (first | refine yK ?_ | refine yP ?_ | refine yG ?_ | refine yH ?_ | refine yM ?_ | refine sy_ov (ov_pick rfl rfl rfl) rfl rfl ?_ | refine yN ?_ | refine sy_rt ?_)
         exact ret1 rfl rfl (by rw [hk]; rfl)
 · have hk : hexV c.toNat = none := by unfold hexV; rw [if_neg (by omega), if_neg (by omega), if_neg (by omega)]
   have a3 : ¬ 97 ≤ c := by omega
   have a5 : ¬ 65 ≤ c := by omega
   refine sy_enter rfl rfl ?_
   simp only [initFr]
   repeat (first | refine yK ?_ | refine yP ?_ | refine yH ?_ | refine sy_ov (ov_pick rfl rfl rfl) rfl rfl ?_ | refine yN ?_ | refine sy_rt ?_)
   exact ret1 rfl rfl (by rw [hk]; rfl)
theorem pow16_le (k : Nat) (h : k ≤ 6) : 16 ^ k ≤ 16777216 := by
 have h2 : 16 ^ k ≤ 16 ^ 6 := Nat.pow_le_pow_right (by decide) h
 have h3 : 16 ^ 6 = 16777216 := by decide
 omega
structure NumInv (s : List UInt8) (i n : Int) : Prop where
 i0 : 0 ≤ i
 i1 : i ≤ s.length
 n0 : 0 ≤ n
 lt : n.toNat < 16 ^ i.toNat
 eq : numV 0 s = numV n.toNat (s.drop i.toNat)
theorem NumInv.step {s : List UInt8} {i n : Int} (h : NumInv s i n) (hlt : i < s.length) {d : Nat} (hd : hexV (bt s i).toNat = some d) : NumInv s (i + 1) (n * 16 + d) := by
 have i0 := h.i0
 have n0 := h.n0
 have hl := h.lt
 obtain ⟨c, l, hdr, hb⟩ := bt_nat s i i0 hlt
 have h16 := hexV_lt hd
 rw [hb, Int.toNat_natCast] at hd
 have he := h.eq
 rw [hdr, numV_some hd] at he
 have e1 : (i + 1).toNat = i.toNat + 1 := by omega
 have hdr2 : s.drop (i + 1).toNat = l := by rw [e1, ← List.drop_drop, hdr]; rfl
 refine ⟨by omega, by omega, by omega, ?_, ?_⟩
 · rw [e1, Nat.pow_succ]; omega
 · rw [he, hdr2, show (n * 16 + (d : Int)).toNat = n.toNat * 16 + d by omega]
theorem NumInv.stop {s : List UInt8} {i n : Int} (h : NumInv s i n) (hlt : i < s.length) (hd : hexV (bt s i).toNat = none) : numL s = none := by
 obtain ⟨c, l, hdr, hb⟩ := bt_nat s i h.i0 hlt
 rw [hb, Int.toNat_natCast] at hd
 have he := h.eq
 rw [hdr, numV_none hd] at he
 unfold numL; rw [he]; split <;> rfl
theorem NumInv.bd {s : List UInt8} {i n : Int} (h : NumInv s i n) (hi : i.toNat ≤ 6) : n < 16777216 := by
 have := pow16_le _ hi; have := h.lt; have := h.n0; omega
set_option maxRecDepth 20000 in
set_option maxHeartbeats 1000000 in
theorem number_c (s : List UInt8) (r : Option Nat) (h : numL s = r) (hl : s.length ≤ 7) (w : World) : Calls Tryz.prog 147 #[S s] w fun e w' => e = .returned (.tuple #[.int .u32 (r.getD 0 : Nat), .bool r.isSome]) ∧ Below w.heap.size w w' := by
 subst h
 refine sy_enter rfl rfl ?_
 simp only [initFr]
 repeat (first | refine yK ?_ | refine yP ?_ | refine yU ?_)
 refine sy_loop (α := Int × Int) (fun a => [(0, S s), (4, .int .u32 a.2), (8, .int .i64 s.length), (9, .int .i64 a.1)]) (fun a => []) (fun a => NumInv s a.1 a.2) (fun a => (s.length - a.1).toNat) (0, 0) ?_ ?_ (List.Sublist.refl _) ?_
 · exact ⟨by simp, by simp, by simp, by simp, by simp⟩
 · exact ⟨zz, zz, zz, zz, trivial⟩
 rintro ⟨i, n⟩ hi
 have i0 := hi.i0
 have i1 := hi.i1
 have n0 := hi.n0
 dsimp only at hi i0 i1 n0 ⊢
 by_cases hlt : i < s.length
 · have hb := bt_bd s i
   have hn := hi.bd (by omega)
   cases hd : hexV (bt s i).toNat with
   | none =>
    have hk := hi.stop hlt hd
    repeat (first | refine yK ?_ | refine yP ?_ | refine yI ?_ | refine yT ?_)
    refine sy_ov (ov_call rfl (fun w _ => digit_c (bt s i) 16 (by omega) (by omega) (by rw [hd]; rfl) w)) rfl rfl ?_
    repeat (first | refine yK ?_ | refine yP ?_ | refine yT ?_ | refine sy_rt ?_)
    exact ret2 rfl rfl rfl (by rw [hk]; rfl)
   | some d =>
    have h16 := hexV_lt hd
    repeat (first | refine yK ?_ | refine yP ?_ | refine yI ?_ | refine yT ?_)
    refine sy_ov (ov_call rfl (fun w _ => digit_c (bt s i) d (by omega) (by omega) (by rw [hd]; rfl) w)) rfl rfl ?_
    repeat (first | refine yK ?_ | refine yP ?_ | (refine yR ?_ ?_ ?_; omega; omega) | refine yN ?_)
    refine sy_back (i + 1, n * 16 + d) (hi.step hlt hd) (by dsimp only; omega) ⟨zz, zz, zz, zz, trivial⟩ (List.Sublist.refl _)
 · have he := hi.eq
   rw [List.drop_of_length_le (by omega)] at he
   repeat (first | refine yK ?_ | refine yP ?_ | refine yN ?_ | refine sy_rt ?_)
   refine ret2 rfl rfl rfl ?_
   by_cases hs : s = []
   · subst hs
     have : n = 0 := by
      have := hi.lt; have e : i = 0 := by simp at i1; omega
      subst e; simp at this; omega
     subst this; rfl
   · have hk : numL s = some n.toNat := by unfold numL; rw [if_neg hs, he]; rfl
     rw [hk]
     simp [hs]; omega
theorem number_some (s : List UInt8) (m : Nat) (h : numL s = some m) (hl : s.length ≤ 7) (w : World) : Calls Tryz.prog 147 #[S s] w fun e w' => e = .returned (.tuple #[.int .u32 (m : Int), .bool true]) ∧ Below w.heap.size w w' := number_c s (some m) h hl w
theorem number_none (s : List UInt8) (h : numL s = none) (hl : s.length ≤ 7) (w : World) : Calls Tryz.prog 147 #[S s] w fun e w' => e = .returned (.tuple #[.int .u32 0, .bool false]) ∧ Below w.heap.size w w' := number_c s none h hl w
set_option maxRecDepth 20000 in
set_option maxHeartbeats 1000000 in
theorem scalar_c (l : List UInt8) (o : List UInt8) (n : Nat) (h : scalarL l = (o, n)) (hl : l.length ≤ 4611686018427387000) (w : World) : Calls Tryz.prog 148 #[S l] w fun e w' => e = .returned (.tuple #[S o, .int .i64 (n : Int)]) ∧ Below w.heap.size w w' := by
 have hib := ib_lt l 125
 obtain ⟨k, hk⟩ : ∃ k, Go.Lib.indexByte l 125 = k := ⟨_, rfl⟩
 unfold scalarL at h
 rw [hk] at h hib
 by_cases q1 : l = []
 · rw [if_neg (by simp [q1])] at h
   subst q1
   obtain ⟨rfl, rfl⟩ := Prod.mk.inj h
   refine sy_enter rfl rfl ?_
   simp only [initFr]
   repeat (first | refine yK ?_ | refine yP ?_)
   refine sy_ov (ov_call rfl (fun w _ => indexByte_c _ 125 k hk w)) rfl rfl ?_
   repeat (first | refine yK ?_ | refine yP ?_ | refine yH ?_ | refine sy_ov (ov_pick rfl rfl rfl) rfl rfl ?_ | refine yT ?_ | refine sy_rt ?_)
   exact ret2 rfl rfl rfl rfl
 · have hp : 1 ≤ l.length := List.length_pos_iff.2 q1
   have hb := bt_bd l 0
   by_cases q2 : bt l 0 = 123
   · by_cases q3 : k < 0
     · rw [if_neg (by omega)] at h
       obtain ⟨rfl, rfl⟩ := Prod.mk.inj h
       refine sy_enter rfl rfl ?_
       simp only [initFr]
       repeat (first | refine yK ?_ | refine yP ?_)
       refine sy_ov (ov_call rfl (fun w _ => indexByte_c _ 125 k hk w)) rfl rfl ?_
       repeat (first | refine yK ?_ | refine yP ?_ | refine yG ?_ | refine yH ?_ | refine yE ?_ | refine sy_ov (ov_pick rfl rfl rfl) rfl rfl ?_ | refine yI ?_ | refine yT ?_ | refine sy_rt ?_)
       exact ret2 rfl rfl rfl rfl
     · by_cases q4 : 7 < k
       · rw [if_neg (by omega)] at h
         obtain ⟨rfl, rfl⟩ := Prod.mk.inj h
         refine sy_enter rfl rfl ?_
         simp only [initFr]
         repeat (first | refine yK ?_ | refine yP ?_)
         refine sy_ov (ov_call rfl (fun w _ => indexByte_c _ 125 k hk w)) rfl rfl ?_
         repeat (first | refine yK ?_ | refine yP ?_ | refine yG ?_ | refine yE ?_ | refine yI ?_ | refine yT ?_ | refine sy_rt ?_)
         exact ret2 rfl rfl rfl rfl
       · rw [if_pos ⟨q1, q2, by omega, by omega⟩] at h
         have hlen : ((l.drop 1).take (k - 1).toNat).length ≤ 7 := by rw [List.length_take]; omega
         have hk0 : 1 ≤ k := by
          rcases Int.lt_or_le k 1 with hlt | hge
          · exfalso
            have e0 : k = ((0 : Nat) : Int) := by omega
            rw [e0] at hk
            obtain ⟨g1, _⟩ := (ib_found l 125 0).1 hk
            cases l with
            | nil => exact q1 rfl
            | cons a l =>
             simp only [List.getElem?_cons_zero, Option.some.injEq] at g1
             subst g1
             have e5 : bt (125 :: l) 0 = 125 := rfl
             omega
          · exact hge
         obtain ⟨r, hr⟩ : ∃ r, numL ((l.drop 1).take (k - 1).toNat) = r := ⟨_, rfl⟩
         rw [hr] at h
         cases r with
         | none =>
          obtain ⟨rfl, rfl⟩ := Prod.mk.inj h
          refine sy_enter rfl rfl ?_
          simp only [initFr]
          repeat (first | refine yK ?_ | refine yP ?_)
          refine sy_ov (ov_call rfl (fun w _ => indexByte_c _ 125 k hk w)) rfl rfl ?_
          repeat (first | refine yK ?_ | refine yP ?_ | refine yG ?_ | (refine sy_ov (ov_slice rfl rfl rfl ?_ ?_ ?_) rfl rfl ?_; (focus (first | omega | (simp <;> omega))); (focus (first | omega | (simp <;> omega))); focus (first | omega | (simp <;> omega))) | refine yE ?_ | refine yI ?_ | refine yN ?_)
          refine sy_ov (ov_call rfl (fun w _ => number_none _ hr hlen w)) rfl rfl ?_
          repeat (first | refine yK ?_ | refine yP ?_ | refine yT ?_ | refine sy_rt ?_)
          exact ret2 rfl rfl rfl rfl
         | some m =>
          obtain ⟨rfl, rfl⟩ := Prod.mk.inj h
          have hm := numL_lt _ m hlen hr
          refine sy_enter rfl rfl ?_
          simp only [initFr]
          repeat (first | refine yK ?_ | refine yP ?_)
          refine sy_ov (ov_call rfl (fun w _ => indexByte_c _ 125 k hk w)) rfl rfl ?_
          repeat (first | refine yK ?_ | refine yP ?_ | refine yG ?_ | (refine sy_ov (ov_slice rfl rfl rfl ?_ ?_ ?_) rfl rfl ?_; (focus (first | omega | (simp <;> omega))); (focus (first | omega | (simp <;> omega))); focus (first | omega | (simp <;> omega))) | refine yE ?_ | refine yI ?_ | refine yN ?_)
          refine sy_ov (ov_call rfl (fun w _ => number_some _ m hr hlen w)) rfl rfl ?_
          repeat (first | refine yK ?_ | refine yP ?_ | (refine sy_ov (ov_convk rfl ?_ ?_) rfl rfl ?_; omega; omega) | refine yN ?_)
          refine sy_ov (ov_call rfl (fun w _ => encode_c m _ rfl w)) rfl rfl ?_
          repeat (first | refine yK ?_ | refine yP ?_ | (refine yR ?_ ?_ ?_; omega; omega) | refine sy_rt ?_)
          refine ret2 rfl rfl rfl ?_
          rw [show ((k.toNat + 1 : Nat) : Int) = k + 1 by omega]
   · rw [if_neg (by omega)] at h
     obtain ⟨rfl, rfl⟩ := Prod.mk.inj h
     refine sy_enter rfl rfl ?_
     simp only [initFr]
     repeat (first | refine yK ?_ | refine yP ?_)
     refine sy_ov (ov_call rfl (fun w _ => indexByte_c _ 125 k hk w)) rfl rfl ?_
     repeat (first | refine yK ?_ | refine yP ?_ | refine yG ?_ | refine yH ?_ | refine yE ?_ | refine sy_ov (ov_pick rfl rfl rfl) rfl rfl ?_ | refine yI ?_ | refine yT ?_ | refine sy_rt ?_)
     exact ret2 rfl rfl rfl rfl
theorem drop2 (q : List UInt8) (i : Int) (h0 : 0 ≤ i) (h1 : i + 1 < q.length) : ∃ a c l, q.drop i.toNat = a :: c :: l ∧ bt q i = (a.toNat : Int) ∧ bt q (i + 1) = (c.toNat : Int) ∧ q.drop (i + 2).toNat = l := by
 obtain ⟨a, l, e1, e2⟩ := bt_nat q i h0 (by omega)
 obtain ⟨c, m, e3, e4⟩ := bt_nat q (i + 1) (by omega) h1
 have hd : q.drop (i + 1).toNat = (q.drop i.toNat).drop 1 := by rw [List.drop_drop]; congr 1; omega
 have hd2 : q.drop (i + 2).toNat = (q.drop (i + 1).toNat).drop 1 := by rw [List.drop_drop]; congr 1; omega
 rw [e1, e3] at hd
 have hl : l = c :: m := by simpa using hd.symm
 subst hl
 exact ⟨a, c, m, e1, e2, e4, by rw [hd2, e3]; rfl⟩
set_option maxRecDepth 20000 in
set_option maxHeartbeats 2000000 in
theorem one_c (q : List UInt8) (i : Int) (o : List UInt8) (n : Nat) (h : oneAt q i = (o, n)) (hs : q.length ≤ 4611686018427387000) (p1 : -9223372036854775808 ≤ i) (p2 : i ≤ 9223372036854775807) (w : World) :
 Calls Tryz.prog 132 #[S q, .int .i64 i] w fun e w' => e = .returned (.tuple #[S o, .int .i64 (n : Int), .bool (decide (0 < n))]) ∧ Below w.heap.size w w' := by
 unfold oneAt at h
 by_cases q1 : i < 0
 · rw [if_pos (by omega)] at h
   obtain ⟨rfl, rfl⟩ := Prod.mk.inj h
   refine sy_enter rfl rfl ?_
   simp only [initFr]
   repeat (first | refine yK ?_ | refine yP ?_ | refine yH ?_ | refine sy_ov (ov_pick rfl rfl rfl) rfl rfl ?_ | refine yT ?_ | refine sy_rt ?_)
   exact ret3 rfl rfl rfl rfl rfl
 · by_cases q2 : (q.length : Int) - 2 < i
   · have : (if i < 0 ∨ (q.length : Int) ≤ i then ([], 0) else oneL (q.drop i.toNat)) = (([], 0) : List UInt8 × Nat) := by
      split
      · rfl
      · exact oneL_no _ (.inl (by rw [List.length_drop]; omega))
     rw [this] at h
     obtain ⟨rfl, rfl⟩ := Prod.mk.inj h
     refine sy_enter rfl rfl ?_
     simp only [initFr]
     repeat (first | refine yK ?_ | refine yP ?_ | refine yG ?_ | refine yH ?_ | (refine yR ?_ ?_ ?_; omega; omega) | refine yU ?_ | refine yE ?_ | refine sy_ov (ov_pick rfl rfl rfl) rfl rfl ?_ | refine yT ?_ | refine sy_rt ?_)
     exact ret3 rfl rfl rfl rfl rfl
   · rw [if_neg (by omega)] at h
     obtain ⟨a, c, l, e1, e2, e3, e4⟩ := drop2 q i (by omega) (by omega)
     have hc := c.toNat_lt
     have hll : l.length = q.length - (i + 2).toNat := by rw [← e4, List.length_drop]
     have hdl : (q.drop (i + 2).toNat).length = l.length := by rw [e4]
     rw [e1, oneL_cons] at h
     by_cases q3 : bt q i = 92
     · rw [if_pos (by omega)] at h
       obtain ⟨x, hx⟩ : ∃ x, c.toNat = x := ⟨_, rfl⟩
       rw [hx] at h e3 hc
       unfold oneT at h
       by_cases c1 : x = 34
       · rw [if_pos (.inl c1)] at h
         subst c1
         obtain ⟨rfl, rfl⟩ := Prod.mk.inj h
         refine sy_enter rfl rfl ?_
         simp only [initFr]
         repeat (first | refine yK ?_ | refine yP ?_ | refine yG ?_ | (refine yR ?_ ?_ ?_; omega; omega) | refine yU ?_ | (refine yV ?_ ?_ ?_; omega; omega) | refine yE ?_ | refine yI ?_ | refine yT ?_ | refine yN ?_)
         refine sy_buildSlice rfl rfl rfl rfl rfl rfl rfl rfl ?_
         intro b
         refine sy_ov (ov_bytes 0 (ns := [bt q (i + 1)]) rfl rfl rfl) rfl rfl ?_
         repeat (first | refine yK ?_ | refine yP ?_ | refine sy_rt ?_)
         exact ret3 rfl rfl rfl rfl (by rw [e3]; rfl)
       · by_cases c2 : x = 92
         · rw [if_pos (.inr c2)] at h
           subst c2
           obtain ⟨rfl, rfl⟩ := Prod.mk.inj h
           refine sy_enter rfl rfl ?_
           simp only [initFr]
           repeat (first | refine yK ?_ | refine yP ?_ | refine yG ?_ | (refine yR ?_ ?_ ?_; omega; omega) | refine yU ?_ | (refine yV ?_ ?_ ?_; omega; omega) | refine yE ?_ | refine yI ?_ | refine yT ?_ | refine yN ?_)
           refine sy_buildSlice rfl rfl rfl rfl rfl rfl rfl rfl ?_
           intro b
           refine sy_ov (ov_bytes 0 (ns := [bt q (i + 1)]) rfl rfl rfl) rfl rfl ?_
           repeat (first | refine yK ?_ | refine yP ?_ | refine sy_rt ?_)
           exact ret3 rfl rfl rfl rfl (by rw [e3]; rfl)
         · rw [if_neg (by omega)] at h
           by_cases c3 : x = 116
           · rw [if_pos c3] at h
             obtain ⟨rfl, rfl⟩ := Prod.mk.inj h
             refine sy_enter rfl rfl ?_
             simp only [initFr]
             repeat (first | refine yK ?_ | refine yP ?_ | refine yG ?_ | (refine yR ?_ ?_ ?_; omega; omega) | refine yU ?_ | (refine yV ?_ ?_ ?_; omega; omega) | refine yE ?_ | refine yI ?_ | refine yT ?_ | refine yN ?_ | refine sy_rt ?_)
             exact ret3 rfl rfl rfl rfl rfl
           · rw [if_neg c3] at h
             by_cases c4 : x = 110
             · rw [if_pos c4] at h
               obtain ⟨rfl, rfl⟩ := Prod.mk.inj h
               refine sy_enter rfl rfl ?_
               simp only [initFr]
               repeat (first | refine yK ?_ | refine yP ?_ | refine yG ?_ | (refine yR ?_ ?_ ?_; omega; omega) | refine yU ?_ | (refine yV ?_ ?_ ?_; omega; omega) | refine yE ?_ | refine yI ?_ | refine yT ?_ | refine yN ?_ | refine sy_rt ?_)
               exact ret3 rfl rfl rfl rfl rfl
             · rw [if_neg c4] at h
               by_cases c5 : x = 114
               · rw [if_pos c5] at h
                 obtain ⟨rfl, rfl⟩ := Prod.mk.inj h
                 refine sy_enter rfl rfl ?_
                 simp only [initFr]
                 repeat (first | refine yK ?_ | refine yP ?_ | refine yG ?_ | (refine yR ?_ ?_ ?_; omega; omega) | refine yU ?_ | (refine yV ?_ ?_ ?_; omega; omega) | refine yE ?_ | refine yI ?_ | refine yT ?_ | refine yN ?_ | refine sy_rt ?_)
                 exact ret3 rfl rfl rfl rfl rfl
               · rw [if_neg c5] at h
                 by_cases c6 : x = 120
                 · rw [if_pos c6] at h
                   by_cases q4 : l.length < 2
                   · rw [if_pos q4] at h
                     obtain ⟨rfl, rfl⟩ := Prod.mk.inj h
                     refine sy_enter rfl rfl ?_
                     simp only [initFr]
                     repeat (first | refine yK ?_ | refine yP ?_ | refine yG ?_ | (refine yR ?_ ?_ ?_; omega; omega) | refine yU ?_ | (refine yV ?_ ?_ ?_; omega; omega) | refine yE ?_ | refine yI ?_ | refine yT ?_ | refine yN ?_ | refine sy_rt ?_)
                     exact ret3 rfl rfl rfl rfl rfl
                   · rw [if_neg q4] at h
                     have hlen : (l.take 2).length ≤ 7 := by rw [List.length_take]; omega
                     have hlen2 : (l.take 2).length ≤ 2 := by rw [List.length_take]; omega
                     obtain ⟨r, hr⟩ : ∃ r, numL (l.take 2) = r := ⟨_, rfl⟩
                     rw [hr] at h
                     rw [← e4] at hlen hlen2 hr
                     cases r with
                     | none =>
                      obtain ⟨rfl, rfl⟩ := Prod.mk.inj h
                      refine sy_enter rfl rfl ?_
                      simp only [initFr]
                      repeat (first | refine yK ?_ | refine yP ?_ | refine yG ?_ | (refine yR ?_ ?_ ?_; omega; omega) | refine yU ?_ | (refine yV ?_ ?_ ?_; omega; omega) | (refine sy_ov (ov_slice_hi rfl rfl ?_ ?_) rfl rfl ?_; omega; omega) | refine yE ?_ | refine yI ?_ | refine yT ?_ | refine yN ?_)
                      refine sy_ov (ov_call rfl (fun w _ => number_none _ hr hlen w)) rfl rfl ?_
                      repeat (first | refine yK ?_ | refine yP ?_ | refine yT ?_ | refine sy_rt ?_)
                      exact ret3 rfl rfl rfl rfl rfl
                     | some m =>
                      obtain ⟨rfl, rfl⟩ := Prod.mk.inj h
                      have hm := numL_lt2 _ m hlen2 hr
                      refine sy_enter rfl rfl ?_
                      simp only [initFr]
                      repeat (first | refine yK ?_ | refine yP ?_ | refine yG ?_ | (refine yR ?_ ?_ ?_; omega; omega) | refine yU ?_ | (refine yV ?_ ?_ ?_; omega; omega) | (refine sy_ov (ov_slice_hi rfl rfl ?_ ?_) rfl rfl ?_; omega; omega) | refine yE ?_ | refine yI ?_ | refine yT ?_ | refine yN ?_)
                      refine sy_ov (ov_call rfl (fun w _ => number_some _ m hr hlen w)) rfl rfl ?_
                      repeat (first | refine yK ?_ | refine yP ?_ | (refine sy_ov (ov_convk rfl ?_ ?_) rfl rfl ?_; omega; omega) | refine yN ?_)
                      refine sy_buildSlice rfl rfl rfl rfl rfl rfl rfl rfl ?_
                      intro b
                      refine sy_ov (ov_bytes 0 (ns := [(m : Int)]) rfl rfl rfl) rfl rfl ?_
                      repeat (first | refine yK ?_ | refine yP ?_ | refine sy_rt ?_)
                      exact ret3 rfl rfl rfl rfl rfl
                 · rw [if_neg c6] at h
                   by_cases c7 : x = 117
                   · rw [if_pos c7] at h
                     obtain ⟨so, sn, hsc⟩ : ∃ so sn, scalarL l = (so, sn) := ⟨_, _, rfl⟩
                     have hsb := scalarL_bd l
                     rw [hsc] at h hsb
                     rw [← e4] at hsc
                     simp only at h hsb
                     by_cases q5 : so = []
                     · rw [if_pos q5] at h
                       subst q5
                       obtain ⟨rfl, rfl⟩ := Prod.mk.inj h
                       refine sy_enter rfl rfl ?_
                       simp only [initFr]
                       repeat (first | refine yK ?_ | refine yP ?_ | refine yG ?_ | (refine yR ?_ ?_ ?_; omega; omega) | refine yU ?_ | (refine yV ?_ ?_ ?_; omega; omega) | refine yE ?_ | refine yI ?_ | refine yT ?_ | refine yN ?_)
                       refine sy_ov (ov_call rfl (fun w _ => scalar_c _ [] sn hsc (by rw [e4]; omega) w)) rfl rfl ?_
                       repeat (first | refine yK ?_ | refine yP ?_ | refine yT ?_ | refine sy_rt ?_)
                       exact ret3 rfl rfl rfl rfl rfl
                     · rw [if_neg q5] at h
                       obtain ⟨rfl, rfl⟩ := Prod.mk.inj h
                       refine sy_enter rfl rfl ?_
                       simp only [initFr]
                       repeat (first | refine yK ?_ | refine yP ?_ | refine yG ?_ | (refine yR ?_ ?_ ?_; omega; omega) | refine yU ?_ | (refine yV ?_ ?_ ?_; omega; omega) | refine yE ?_ | refine yI ?_ | refine yT ?_ | refine yN ?_)
                       refine sy_ov (ov_call rfl (fun w _ => scalar_c _ so sn hsc (by rw [e4]; omega) w)) rfl rfl ?_
                       repeat (first | refine yK ?_ | refine yP ?_ | (refine yR ?_ ?_ ?_; omega; omega) | refine yN ?_ | refine sy_rt ?_)
                       refine ret3 rfl rfl rfl rfl ?_
                       simp
                       omega
                   · rw [if_neg c7] at h
                     obtain ⟨rfl, rfl⟩ := Prod.mk.inj h
                     refine sy_enter rfl rfl ?_
                     simp only [initFr]
                     repeat (first | refine yK ?_ | refine yP ?_ | refine yG ?_ | (refine yR ?_ ?_ ?_; omega; omega) | refine yU ?_ | (refine yV ?_ ?_ ?_; omega; omega) | refine yE ?_ | refine yI ?_ | refine yN ?_ | refine sy_rt ?_)
                     exact ret3 rfl rfl rfl rfl rfl
     · rw [if_neg (by omega)] at h
       obtain ⟨rfl, rfl⟩ := Prod.mk.inj h
       refine sy_enter rfl rfl ?_
       simp only [initFr]
       repeat (first | refine yK ?_ | refine yP ?_ | refine yG ?_ | (refine yR ?_ ?_ ?_; omega; omega) | refine yU ?_ | refine yE ?_ | refine yI ?_ | refine yT ?_ | refine sy_rt ?_)
       exact ret3 rfl rfl rfl rfl rfl
end Go.Proofs.YtldjakeigjngoaaGreat