/- Slices: what a slice reads as, what a call's own row holds; append of one cell. -/
import Derived.Test.YteddjadeenimkaaBaseQ
import Derived.OwnWalk
import Derived.Laws.AppendOwn
import Derived.OpenShut
set_option linter.unusedVariables false
set_option linter.unusedSimpArgs false
namespace Go.Proofs.Yteddjadeenimkaa
open Go.RowKit Bf

/-- A slice of n elements, 'size' cells each, reads as the cells xs. -/
def Rd (w : World) (v : Value) (n size : Nat) (xs : List Value) : Prop :=
  xs.length = n * size ∧ ((n = 0 ∧ ∃ a c, v = .slice a 0 c) ∨
    ∃ g off cap, v = .slice (some ⟨g, off, none⟩) n cap ∧ g < w.heap.size ∧ n ≤ cap ∧ cap ≤ maxLen ∧ ∀ j (h : j < xs.length), w.cell? ⟨g, off + j, none⟩ = some xs[j])
theorem Rd.below {w w' : World} {v : Value} {n size : Nat} {xs : List Value} (h : Rd w v n size xs) (hb : Below w.heap.size w w') : Rd w' v n size xs := by
  obtain ⟨h1, h2⟩ := h
  refine ⟨h1, ?_⟩
  rcases h2 with h2 | ⟨g, off, cap, hv, hg, hc, hm, hx⟩
  · exact Or.inl h2
  · exact Or.inr ⟨g, off, cap, hv, Nat.lt_of_lt_of_le hg hb.size, hc, hm, fun j hj => by rw [hb.cell (p := ⟨g, off + j, none⟩) hg]; exact hx j hj⟩
theorem rd_nil (w : World) (size : Nat) : Rd w (.slice none 0 0) 0 size [] := ⟨by simp, Or.inl ⟨rfl, none, 0, rfl⟩⟩
theorem ownsRow_rd {w : World} {base e size : Nat} {v : Value} {n : Nat} {xs : List Value} (h : w.ownsRow base e size v n xs) : Rd w v n size xs := by
  obtain ⟨h1, h2⟩ := h
  refine ⟨h1, ?_⟩
  rcases h2 with ⟨h2, h3⟩ | ⟨g, cap, cur, hv, hb, hg, hn, hm, hs, ht⟩
  · exact Or.inl ⟨h3, none, 0, h2⟩
  · refine Or.inr ⟨g, 0, cap, hv, ?_, hn, hm, fun j hj => ?_⟩
    · rcases Nat.lt_or_ge g w.heap.size with h | h
      · exact h
      · rw [Array.getElem?_eq_none h] at hg; simp at hg
    · have hle : n * size ≤ cap * size := Nat.mul_le_mul_right _ hn
      have hcur : cur[j]? = some xs[j] := by
        have e1 : (cur.toList.take (n * size))[j]? = xs[j]? := by rw [ht]
        rw [List.getElem?_take, if_pos (by omega), Array.getElem?_toList, List.getElem?_eq_getElem hj] at e1
        exact e1
      simp [World.cell?, hg, hcur]
/-- What a call owns stays, where nothing that is there is written. -/
theorem ownsRow_below {w w' : World} {base e size : Nat} {v : Value} {n : Nat} {xs : List Value} (h : w.ownsRow base e size v n xs) (hb : Below w.heap.size w w') : w'.ownsRow base e size v n xs := by
  obtain ⟨h1, h2⟩ := h
  refine ⟨h1, ?_⟩
  rcases h2 with h2 | ⟨g, cap, cur, hv, hg0, hg, r⟩
  · exact Or.inl h2
  · refine Or.inr ⟨g, cap, cur, hv, hg0, ?_, r⟩
    rw [hb.block g ?_]
    · exact hg
    · rcases Nat.lt_or_ge g w.heap.size with h | h
      · exact h
      · rw [Array.getElem?_eq_none h] at hg; simp at hg
theorem grownBy_below {w w' : World} {base e size : Nat} {v : Value} {n : Nat} {xs : List Value} (h : w.ownsRow base e size v n xs) (hg : w.grownBy w' v.ownBlock) (hB : base ≤ w.heap.size) : Below base w w' :=
  (Below.refl base w).grown hg hB fun k hk => (h.lt k hk).1
/-- 'append(out, x)', out the call's own, x of one cell: behind it the row holds one element more. -/
theorem app1 {P : Program} {w : World} {ops : Array Oper} {rest : List Oper} {o : Oper} {a : Act} {Q : Exit → Act → World → Prop} (hgd : o.guard = none) (s x : Operand) (t : TypeId)
    (ho : o.op = .call { callee := .builtin .append, args := #[s, x], argTypes := #[t, t] })
    (base : Nat) (e : TypeId) (z : Value) (bytes : Nat) (ht : P.underlying t = some (.slice e)) (hinfo : (P.info? e).map (fun i => (i.zero, i.size, i.bytes)) = some (some z, 1, bytes)) (hzs : z.cells.size = 1)
    (v : Value) (n : Nat) (xs : List Value) (hs : a.eval s = v) (hown : w.ownsRow base e 1 v n xs) (u : Value) (hu : u.oneCell' = true)
    (nb : Nat) (hnb : nb = w.heap.size) (hx : a.eval x = .slice (some ⟨nb, 0, none⟩) 1 1)
    (h63 : n + 1 ≤ maxLen) (hbytes : (n + 1) * bytes ≤ 140737488355328) (hbase : base ≤ w.heap.size)
    (h : ∀ v' w', w'.ownsRow base e 1 v' (n + 1) (xs ++ [u]) → Below base w w' → base ≤ w'.heap.size → wpList P ops Q rest (a.put o.dst v') w') :
    wpList P ops Q (o :: rest) a (w.alloc (.cells #[u] e)) := by
  obtain ⟨i0, hi, hz0, hz1, hz2⟩ := info_parts hinfo
  subst hnb
  have hown' := hown.alloc (.cells #[u] e)
  refine wpList_append_own _ hgd s x t ho base e i0 z 1 bytes ht hi hz0 hz1 hz2 hzs (by decide) v n xs hs hown' ⟨w.heap.size, 0, none⟩ 1 1 [u] hx rfl ?_ ?_ h63 hbytes (by simp; omega) ?_
  · intro j y hj
    cases j with
    | zero =>
      simp at hj; subst hj
      have := World.cell?_alloc_mark w #[u] e (0, 0) 0
      simp [Addr.add]
    | succ j => simp at hj
  · intro y hy; simp at hy; subst hy; exact hu
  · intro v' w' h1 h2 h3
    have hb := grownBy_below hown' h2 (by simp; omega)
    have hb2 : Below base w w' := ((Below.refl base w).alloc hbase _).trans hb
    exact h v' w' h1 hb2 (Nat.le_trans hbase hb2.size)
/-- A slice of integers that came in: nil, or a row of 'cap' cells, the numbers 'zs' (the first 'len' are its elements). -/
def IsRow (k : IntKind) (w : World) (a : Option Addr) (len cap : Nat) (zs : List Int) : Prop :=
  (a = none ∧ len = 0 ∧ cap = 0 ∧ zs = []) ∨
  ∃ x, a = some x ∧ len ≤ cap ∧ cap ≤ maxLen ∧ zs.length = cap ∧ (∀ i, i < zs.length → w.cell? (x.add i) = some (.int k (zs.getD i 0))) ∧ ∀ n ∈ zs, (Lit.int k n).wf = true
def ints (k : IntKind) (zs : List Int) : List Value := zs.map (Value.int k)
theorem isRow_rd {k : IntKind} {w : World} {a : Option Addr} {len cap : Nat} {zs : List Int} (h : IsRow k w a len cap zs) : Rd w (.slice a len cap) len 1 (ints k (zs.take len)) := by
  rcases h with ⟨rfl, rfl, rfl, rfl⟩ | ⟨x, rfl, h1, h2, h3, h4, h5⟩
  · exact ⟨by simp [ints], Or.inl ⟨rfl, none, 0, rfl⟩⟩
  · refine ⟨by simp [ints]; omega, ?_⟩
    by_cases hz : len = 0
    · subst hz; exact Or.inl ⟨rfl, _, _, rfl⟩
    · obtain ⟨b, off, rfl, hc⟩ := ints_at h4 (by omega)
      refine Or.inr ⟨b, off, cap, rfl, World.block_lt_of_cell? w _ (hc 0 (by omega)), h1, h2, fun j hj => ?_⟩
      have hj' : j < len := by simp [ints] at hj; omega
      rw [hc j (by omega)]
      simp [ints, List.getElem?_eq_getElem (show j < zs.length by omega)]
end Go.Proofs.Yteddjadeenimkaa
