/- How many values and letters a law is given. -/
import Derived.Test.YtkaeihlpdceokaaBST
import Derived.Test.YtkaeihlpdceokaaPlainDocQ
set_option linter.unusedVariables false
set_option linter.unusedSimpArgs false
namespace Go.Proofs.Ytkaeihlpdceokaa
open Go.RowKit Go.Deep
theorem bulk_one {H : Type} (d : DataW H) : 1 ≤ Rows.uptoBulk d := by
 cases d with
 | lit l => cases l <;> simp [Rows.uptoBulk]
 | _ => simp [Rows.uptoBulk]
theorem bulk_mem {H : Type} {d : DataW H} : ∀ {l : List (DataW H)}, d ∈ l → Rows.uptoBulk d ≤ Rows.uptoBulkAll l
 | x :: r, h => by
  simp only [Rows.uptoBulkAll]
  rcases List.mem_cons.1 h with rfl | h
  · omega
  · have := bulk_mem h; omega
theorem bulk_at {H : Type} {d : DataW H} {l : List (DataW H)} {i : Nat} (h : l[i]? = some d) : Rows.uptoBulk d ≤ Rows.uptoBulkAll l := bulk_mem (List.mem_of_getElem? h)
theorem bulk_len {H : Type} : ∀ (l : List (DataW H)), l.length ≤ Rows.uptoBulkAll l
 | [] => Nat.zero_le _
 | x :: l => by have := bulk_one x; have := bulk_len l; simp only [Rows.uptoBulkAll, List.length_cons]; omega
theorem bulk_string {H : Type} (s : List UInt8) : Rows.uptoBulk (DataW.lit (H := H) (.string s)) = s.length + 1 := by simp [Rows.uptoBulk]
theorem bulk_sum {H : Type} {α : Type} (mu : α → Nat) : ∀ (l : List α) (E : List (DataW H)), l.length = E.length → (∀ (i : Nat) y e, l[i]? = some y → E[i]? = some e → mu y ≤ Rows.uptoBulk e) → (l.map mu).sum ≤ Rows.uptoBulkAll E
 | [], _, _, _ => by simp
 | y :: l, e :: E, hl, h => by
  have h1 := h 0 y e rfl rfl
  have h2 := bulk_sum mu l E (by simpa using hl) fun i y' e' hy he => h (i + 1) y' e' (by simpa using hy) (by simpa using he)
  simp only [List.map_cons, List.sum_cons, Rows.uptoBulkAll]; omega
 | _ :: _, [], hl, _ => by simp at hl
section
variable {H : Type} {enc : TypeId × Value → H} {P : Program} {w : World} {base : Nat} {spare : Nat → Bool} {held : Bool}
theorem open_rowsB {α : Type} (f : α → List Value) (ok : α → Prop) (mu : α → Nat) {t e : TypeId} {k fuel : Nat} {v : Value} {x : DataW H × List MemPlace} (ht : P.underlying t = some (.slice e)) (hsz : P.cellsOf e = k) (hk : ∀ x, (f x).length = k) (hpos : 0 < k)
 (hel : ∀ n cs y, n < fuel → DataW.trod enc P w base spare held n e cs = some y → ∃ z, cs = f z ∧ ok z ∧ mu z ≤ Rows.uptoBulk y.1) (h : DataW.trod enc P w base spare held fuel t [v] = some x) :
 ∃ (p : Option Addr) (n c : Nat) (l : List α), v = .slice p n c ∧ l.length = n ∧ n ≤ c ∧ c ≤ maxLen ∧ IsSl w k p n (l.flatMap f) ∧ (∀ y ∈ l, ok y) ∧ (l.map mu).sum + 1 ≤ Rows.uptoBulk x.1 ∧ l.length + 1 ≤ Rows.uptoBulk x.1 := by
 rcases DataW.trod_slice ht h with ⟨h0, hx⟩ | ⟨a, len, cap, elems, rest, m, hfu, hcs, hx, hab, hl, hm, hlen, hel', _, _⟩
 · have e1 := List.singleton_inj.1 h0
   exact ⟨none, 0, 0, [], e1, rfl, Nat.le_refl _, Nat.zero_le _, IsSl.nil _ _ _, (fun y hy => by cases hy), by rw [hx]; simp [Rows.uptoBulk], by rw [hx]; simp [Rows.uptoBulk]⟩
 · have e1 := List.singleton_inj.1 hcs
   obtain ⟨l, hll, hlp⟩ := list_of (α := α) (p := fun i y => w.cells? base (a.add (i * k)) k = some (f y) ∧ ok y ∧ ∀ u, elems[i]? = some u → mu y ≤ Rows.uptoBulk u.1) len (fun i hil => by
    have h1 := hel' i hil
    rw [List.getElem?_eq_getElem (by omega)] at h1
    obtain ⟨cs', h2, h3⟩ := Option.bind_eq_some_iff.1 h1
    rw [hsz] at h2
    obtain ⟨z, hz, hz2, hz3⟩ := hel m cs' _ (by omega) h3
    subst hz
    exact ⟨z, h2, hz2, fun u hu => by rw [List.getElem?_eq_getElem (by omega)] at hu; cases hu; exact hz3⟩)
   have hsum : (l.map mu).sum ≤ Rows.uptoBulkAll (elems.map (·.1)) := bulk_sum mu l _ (by rw [List.length_map]; omega) fun i y e hy he => by
    rw [List.getElem?_map] at he
    obtain ⟨u, hu, rfl⟩ := Option.map_eq_some_iff.1 he
    exact (hlp i y hy).2.2 u hu
   have hbl := bulk_len (elems.map (·.1))
   rw [List.length_map] at hbl
   have hbx : Rows.uptoBulkAll (elems.map (·.1)) + 1 ≤ Rows.uptoBulk x.1 := by rw [hx]; simp only [Rows.uptoBulk]; omega
   refine ⟨some a, len, cap, l, e1, hll, hl, hm, ⟨by rw [flat_len f k hk, hll], ?_⟩, fun y hy => ?_, by omega, by omega⟩
   · rcases Nat.eq_zero_or_pos len with h0 | hp
     · exact .inl h0
     · right
       obtain ⟨y0, hy0⟩ : ∃ y, l[0]? = some y := ⟨l[0]'(by omega), List.getElem?_eq_getElem (by omega)⟩
       have hc0 := (World.cells?_some (hlp 0 y0 hy0).1).2.2 0 hpos
       rw [List.getElem?_eq_getElem (by rw [hk]; exact hpos)] at hc0
       obtain ⟨b, o, spot⟩ := a
       have hspot : spot = none := by simpa [Addr.add] using World.cell?_spot hc0
       subst hspot
       refine ⟨b, o, rfl, fun j u hj => ?_⟩
       obtain ⟨i, m, x, e2, hxi, hxm⟩ := flat_at f k hk hpos l j u hj
       have hm' : m < k := by rw [← hk x]; exact (List.getElem?_eq_some_iff.1 hxm).1
       have := (World.cells?_some (hlp i x hxi).1).2.2 m hm'
       rw [hxm, addr_add, addr_add] at this
       rw [e2, ← Nat.add_assoc]; exact this
   · obtain ⟨i, hi'⟩ := List.mem_iff_getElem?.1 hy
     exact (hlp i y hi').2.1
end
theorem fourL {α : Type} {l : List α} (h : l.length = 4) : ∃ a b c d, l = [a, b, c, d] := by
 match l, h with
 | [a, b, c, d], _ => exact ⟨a, b, c, d, rfl⟩
theorem blk_sum : ∀ (l : List DocA), (l.map fun z => blkD (plD z)).sum = blkDs (plDs l)
 | [] => rfl
 | x :: l => by simp only [List.map_cons, List.sum_cons, plDs, blkDs, blk_sum l]
section
variable {H : Type} {enc : TypeId × Value → H} {w : World} {base : Nat} {spare : Nat → Bool} {held : Bool}
set_option maxRecDepth 20000 in
theorem open_docB : ∀ (m : Nat) {n : Nat} {cs : List Value} {y : DataW H × List MemPlace}, n ≤ m → DataW.trod enc Try.prog w base spare held n 24 cs = some y → ∃ z, cs = docV z ∧ DocIn w z ∧ blkD (plD z) ≤ Rows.uptoBulk y.1 := by
 intro m
 induction m with
 | zero =>
  intro n cs y hn h
  have : n = 0 := by omega
  subst this
  simp [DataW.trod] at h
 | succ m ih =>
  intro n cs y hn h
  obtain ⟨xs, q, hq, hyx, hlen, hxl, hf⟩ := DataW.trod_struct Try.underlying24 h
  have hC : Try.prog.cellsOf 24 = 4 := by kernel_rfl
  rw [hC] at hlen
  match cs, hlen with
  | [v0, v1, v2, v3], _ =>
   have c0 : Try.prog.cellsOf 9 = 1 := by kernel_rfl
   have c1 : Try.prog.cellsOf 3 = 1 := by kernel_rfl
   have c3 : Try.prog.cellsOf 22 = 1 := by kernel_rfl
   have hx : ∀ i, i < 4 → ∃ y, xs[i]? = some y := fun i hi => ⟨xs[i]'(by rw [hxl]; exact hi), List.getElem?_eq_getElem _⟩
   obtain ⟨y0, hy0⟩ := hx 0 (by omega)
   have e0 : DataW.trod enc Try.prog w base spare held q 3 ([v0, v1, v2, v3].take (Try.prog.cellsOf 3)) = xs[0]? := hf 0 _ rfl
   rw [c1, hy0] at e0
   have e0 : DataW.trod enc Try.prog w base spare held q 3 [v0] = some y0 := e0
   obtain ⟨y1, hy1⟩ := hx 1 (by omega)
   have e1 : DataW.trod enc Try.prog w base spare held q 3 ([v1, v2, v3].take (Try.prog.cellsOf 3)) = xs[1]? := hf 1 _ rfl
   rw [c1, hy1] at e1
   have e1 : DataW.trod enc Try.prog w base spare held q 3 [v1] = some y1 := e1
   obtain ⟨y2, hy2⟩ := hx 2 (by omega)
   have e2 : DataW.trod enc Try.prog w base spare held q 9 ([v2, v3].take (Try.prog.cellsOf 9)) = xs[2]? := hf 2 _ rfl
   rw [c0, hy2] at e2
   have e2 : DataW.trod enc Try.prog w base spare held q 9 [v2] = some y2 := e2
   obtain ⟨y3, hy3⟩ := hx 3 (by omega)
   have e3 : DataW.trod enc Try.prog w base spare held q 22 ([v3].take (Try.prog.cellsOf 22)) = xs[3]? := hf 3 _ rfl
   rw [c3, hy3] at e3
   have e3 : DataW.trod enc Try.prog w base spare held q 22 [v3] = some y3 := e3
   obtain ⟨k, hk, _, hk2⟩ := DataW.trod_int Try.underlying3 e0
   obtain ⟨i, hi, _, hi2⟩ := DataW.trod_int Try.underlying3 e1
   obtain ⟨s, hs, hsd, hs2⟩ := DataW.trod_string Try.underlying9 e2
   obtain ⟨p, nr, c, kids, hv5, hrl, hrc, hrm, hrs, hro, hrb, _⟩ := open_rowsB docV (DocIn w) (fun z => blkD (plD z)) Try.underlying22 (by kernel_rfl) docV_len (by decide) (fun n cs y hn h => ih (by omega) h) e3
   rw [blk_sum] at hrb
   have hb2 := bulk_at (l := xs.map (·.1)) (i := 2) (d := y2.1) (by rw [List.getElem?_map, hy2]; rfl)
   have hb3 := bulk_at (l := xs.map (·.1)) (i := 3) (d := y3.1) (by rw [List.getElem?_map, hy3]; rfl)
   have hxs : xs.map (·.1) = [y0.1, y1.1, y2.1, y3.1] := by
    obtain ⟨a, b, c, d, rfl⟩ := fourL hxl
    cases hy0; cases hy1; cases hy2; cases hy3; rfl
   have hby : Rows.uptoBulk y.1 = Rows.uptoBulkAll [y0.1, y1.1, y2.1, y3.1] + 1 := by rw [hyx, ← hxs]; simp only [Rows.uptoBulk]
   cases hk; cases hi; cases hs
   subst hv5; subst hrl
   obtain ⟨⟨l⟩⟩ := s
   have hsl : Rows.uptoBulk y2.1 = l.length + 1 := by rw [hsd]; exact bulk_string l
   refine ⟨.mk k i l p c kids, rfl, .mk k i l p c kids ⟨bounds_i64 hk2, bounds_i64 hi2, hs2, by omega⟩ hrs hro, ?_⟩
   simp only [plD, blkD]
   rw [hby]
   simp only [Rows.uptoBulkAll]
   omega
end
end Go.Proofs.Ytkaeihlpdceokaa