/- BSX: texts of this proof, joined by program: SyAppV. -/
import Derived.Test.YtkaeihlpdceokaaBEN
/- A symbolic walk: a grown row is put behind another one. -/
set_option linter.unusedVariables false
set_option linter.unusedSimpArgs false
namespace Go.Proofs.Ytkaeihlpdceokaa
open Go.RowKit
section
variable {P : Program} {C : Cx} {k : List It} {fr : Fr} {hp : List En} {all : Array Oper} {l : List Oper} {dst : Option Tmp} {ty : TypeId} {pos : String} {aft : Array Edge}
theorem sy_appendV {t e : TypeId} {ti : TypeInfo} [hd : TU P t (.slice e)] [hti : TI P e ti] {x y : Operand} (i j : Nat) {v z : Value} {n m c b : Nat} {e' : TypeId} {sz m' : Nat} {cs news : List Value} (hx : ev fr x = some v) (hy : ev fr y = some (.slice (some ⟨b, 0, none⟩) m c)) (hi : hp[i]? = some (vec e ti.size v n cs)) (hj : hp[j]? = some (vec e' sz (.slice (some ⟨b, 0, none⟩) m c) m' news))
 (hz : ti.zero = some z) (hzs : Nat.beq (cl z).length ti.size = true) (hsz : Nat.blt 0 ti.size = true) (hl : news.length = m * ti.size) (h1 : oneAll news = true) (hm : 0 < m) (hf : Fits C.n dst)
 (h63 : n + m ≤ 9223372036854775807) (hbytes : (n + m) * ti.bytes ≤ 140737488355328)
 (hk : ∀ p q, Sy P C (.o all l :: k) (put dst (.slice (some p) (n + m) q) fr) (hp.set i (vec e ti.size (.slice (some p) (n + m) q) (n + m) (cs ++ news)))) :
 Sy P C (.o all (⟨dst, .call ⟨.builtin .append, ⟨[x, y]⟩, ⟨[t, t]⟩⟩, ty, pos, aft, none⟩ :: l) :: k) fr hp :=
 sy_op rfl fun a w ha hw => by
  have hall : ∀ (l : List Value), oneAll l = true → ∀ u ∈ l, u.oneCell' = true := by
   intro l; induction l with
   | nil => intro _ u hu; cases hu
   | cons v l ih => intro h u hu; simp only [oneAll, Bool.and_eq_true] at h; rcases List.mem_cons.1 hu with rfl | hu; exact h.1; exact ih h.2 u hu
  obtain ⟨p, q, w', hr, hw'⟩ := append_ok (P := P) hw (t := t) (ty := ty) (hd.h) (hti.h) hz (by have := Nat.eq_of_beq_eq_true hzs; unfold cl at this; simpa using this) (by simpa [Nat.blt_eq] using hsz) hi (a := ⟨b, 0, none⟩) (m := m) (c := c) (news := news) hl
   (fun x u hu => by rw [addr_add, Nat.zero_add]; exact vec_cell hw hj hu) (hall _ h1) h63 hbytes hm
  have hr' : (execOp a.eval ⟨dst, .call ⟨.builtin .append, ⟨[x, y]⟩, ⟨[t, t]⟩⟩, ty, pos, aft, none⟩).run P w = .ok (.value (.slice (some p) (n + m) q)) w' := by
   simp [execOp, ha.ev hx, ha.ev hy, resolve, invoke, builtin, hr]
  unfold Oper.wp; rw [hr']
  exact (hk p q).go _ _ (ha.put hf _) hw'
end
end Go.Proofs.Ytkaeihlpdceokaa