/- How many values and letters a law is given. -/
import Derived.Test.YtldjakeigjngoaaBST
import Derived.Test.YtldjakeigjngoaaPlainDocQ
set_option linter.unusedVariables false
set_option linter.unusedSimpArgs false
namespace Go.Proofs.Ytldjakeigjngoaa
open Go.RowKit Go.Deep
theorem bulk_one {H : Type} (d : DataW H) : 1 ≤ Rows.uptoBulk d := by
 cases d with
 | lit l => cases l <;> simp [Rows.uptoBulk]
 | _ => simp [Rows.uptoBulk]
theorem bulk_mem {H : Type} {d : DataW H} : ∀ {l : List (DataW H)}, d ∈ l → Rows.uptoBulk d ≤ Rows.uptoBulkAll l
 | x :: r, h => by
  simp only [Rows.uptoBulkAll]
  rcases List.mem_cons.1 h with rfl | h
  · omega
  · have := bulk_mem h; omega
theorem bulk_at {H : Type} {d : DataW H} {l : List (DataW H)} {i : Nat} (h : l[i]? = some d) : Rows.uptoBulk d ≤ Rows.uptoBulkAll l := bulk_mem (List.mem_of_getElem? h)
theorem bulk_len {H : Type} : ∀ (l : List (DataW H)), l.length ≤ Rows.uptoBulkAll l
 | [] => Nat.zero_le _
 | x :: l => by have := bulk_one x; have := bulk_len l; simp only [Rows.uptoBulkAll, List.length_cons]; omega
theorem bulk_string {H : Type} (s : List UInt8) : Rows.uptoBulk (DataW.lit (H := H) (.string s)) = s.length + 1 := by simp [Rows.uptoBulk]
theorem bulk_sum {H : Type} {α : Type} (mu : α → Nat) : ∀ (l : List α) (E : List (DataW H)), l.length = E.length → (∀ (i : Nat) y e, l[i]? = some y → E[i]? = some e → mu y ≤ Rows.uptoBulk e) → (l.map mu).sum ≤ Rows.uptoBulkAll E
 | [], _, _, _ => by simp
 | y :: l, e :: E, hl, h => by
  have h1 := h 0 y e rfl rfl
  have h2 := bulk_sum mu l E (by simpa using hl) fun i y' e' hy he => h (i + 1) y' e' (by simpa using hy) (by simpa using he)
  simp only [List.map_cons, List.sum_cons, Rows.uptoBulkAll]; omega
 | _ :: _, [], hl, _ => by simp at hl
section
variable {H : Type} {enc : TypeId × Value → H} {P : Program} {w : World} {base : Nat} {spare : Nat → Bool} {held : Bool}
theorem open_rowsB {α : Type} (f : α → List Value) (ok : α → Prop) (mu : α → Nat) {t e : TypeId} {k fuel : Nat} {v : Value} {x : DataW H × List MemPlace} (ht : P.underlying t = some (.slice e)) (hsz : P.cellsOf e = k) (hk : ∀ x, (f x).length = k) (hpos : 0 < k)
 (hel : ∀ n cs y, n < fuel → DataW.trod enc P w base spare held n e cs = some y → ∃ z, cs = f z ∧ ok z ∧ mu z ≤ Rows.uptoBulk y.1) (h : DataW.trod enc P w base spare held fuel t [v] = some x) :
 ∃ (p : Option Addr) (n c : Nat) (l : List α), v = .slice p n c ∧ l.length = n ∧ n ≤ c ∧ c ≤ maxLen ∧ IsSl w k p n (l.flatMap f) ∧ (∀ y ∈ l, ok y) ∧ (l.map mu).sum + 1 ≤ Rows.uptoBulk x.1 ∧ l.length + 1 ≤ Rows.uptoBulk x.1 := by
 rcases DataW.trod_slice ht h with ⟨h0, hx⟩ | ⟨a, len, cap, elems, rest, m, hfu, hcs, hx, hab, hl, hm, hlen, hel', _, _⟩
 · have e1 := List.singleton_inj.1 h0
   exact ⟨none, 0, 0, [], e1, rfl, Nat.le_refl _, Nat.zero_le _, IsSl.nil _ _ _, (fun y hy => by cases hy), by rw [hx]; simp [Rows.uptoBulk], by rw [hx]; simp [Rows.uptoBulk]⟩
 · have e1 := List.singleton_inj.1 hcs
   obtain ⟨l, hll, hlp⟩ := list_of (α := α) (p := fun i y => w.cells? base (a.add (i * k)) k = some (f y) ∧ ok y ∧ ∀ u, elems[i]? = some u → mu y ≤ Rows.uptoBulk u.1) len (fun i hil => by
    have h1 := hel' i hil
    rw [List.getElem?_eq_getElem (by omega)] at h1
    obtain ⟨cs', h2, h3⟩ := Option.bind_eq_some_iff.1 h1
    rw [hsz] at h2
    obtain ⟨z, hz, hz2, hz3⟩ := hel m cs' _ (by omega) h3
    subst hz
    exact ⟨z, h2, hz2, fun u hu => by rw [List.getElem?_eq_getElem (by omega)] at hu; cases hu; exact hz3⟩)
   have hsum : (l.map mu).sum ≤ Rows.uptoBulkAll (elems.map (·.1)) := bulk_sum mu l _ (by rw [List.length_map]; omega) fun i y e hy he => by
    rw [List.getElem?_map] at he
    obtain ⟨u, hu, rfl⟩ := Option.map_eq_some_iff.1 he
    exact (hlp i y hy).2.2 u hu
   have hbl := bulk_len (elems.map (·.1))
   rw [List.length_map] at hbl
   have hbx : Rows.uptoBulkAll (elems.map (·.1)) + 1 ≤ Rows.uptoBulk x.1 := by rw [hx]; simp only [Rows.uptoBulk]; omega
   refine ⟨some a, len, cap, l, e1, hll, hl, hm, ⟨by rw [flat_len f k hk, hll], ?_⟩, fun y hy => ?_, by omega, by omega⟩
   · rcases Nat.eq_zero_or_pos len with h0 | hp
     · exact .inl h0
     · right
       obtain ⟨y0, hy0⟩ : ∃ y, l[0]? = some y := ⟨l[0]'(by omega), List.getElem?_eq_getElem (by omega)⟩
       have hc0 := (World.cells?_some (hlp 0 y0 hy0).1).2.2 0 hpos
       rw [List.getElem?_eq_getElem (by rw [hk]; exact hpos)] at hc0
       obtain ⟨b, o, spot⟩ := a
       have hspot : spot = none := by simpa [Addr.add] using World.cell?_spot hc0
       subst hspot
       refine ⟨b, o, rfl, fun j u hj => ?_⟩
       obtain ⟨i, m, x, e2, hxi, hxm⟩ := flat_at f k hk hpos l j u hj
       have hm' : m < k := by rw [← hk x]; exact (List.getElem?_eq_some_iff.1 hxm).1
       have := (World.cells?_some (hlp i x hxi).1).2.2 m hm'
       rw [hxm, addr_add, addr_add] at this
       rw [e2, ← Nat.add_assoc]; exact this
   · obtain ⟨i, hi'⟩ := List.mem_iff_getElem?.1 hy
     exact (hlp i y hi').2.1
end
section
variable {H : Type} {enc : TypeId × Value → H} {w : World} {base : Nat} {spare : Nat → Bool} {held : Bool}
end
end Go.Proofs.Ytldjakeigjngoaa