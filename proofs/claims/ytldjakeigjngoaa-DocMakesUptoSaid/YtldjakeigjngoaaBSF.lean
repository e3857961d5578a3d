/- BSF: texts of this proof, joined by program: SyE2, SyApp. -/
import Derived.Test.YtldjakeigjngoaaBEX
import Derived.Test.YtldjakeigjngoaaBRC
import Derived.Deep.Upon
/- A symbolic walk: callees that work on pieces of the caller's memory, and read memory that was there before. -/
set_option linter.unusedVariables false
set_option linter.unusedSimpArgs false
namespace Go.Proofs.Ytldjakeigjngoaa
open Go.RowKit
theorem St.callE {D : Nat → Prop} {w0 w : World} {es rest : List En} {R : World → Prop} (h : St D w0 R) (hw : HpOk D w0 (es ++ rest) w) : St (domL es) w R :=
  fun w' hk => h w' (hw.keep.trans hk fun b ⟨e, he, hb⟩ => ((hw.own e (List.mem_append_left _ he)).2 b hb).1)
section
variable {P : Program} {C : Cx} {k : List It} {fr : Fr} {hp : List En} {all : Array Oper} {l : List Oper} {dst : Option Tmp} {ty : TypeId} {pos : String} {aft : Array Edge} {g : Option (Nat × Bool)}
theorem sy_callEw {f : FuncId} {fn : Func} [hfn : FN P f fn] {args : List Operand} {ats : Array TypeId} {vs : List Value} {R : Value → List En → Prop} (es : List En) {rest : List En} (hx : evs fr args = some vs) (hf : Fits C.n dst) (hhp : hp = es ++ rest)
    (hc : ∀ w, HpOk C.D C.w0 (es ++ rest) w → Calls P f vs.toArray w (PostE es w R)) (hk : ∀ v es', R v es' → Sy P C (.o all l :: k) (put dst v fr) (es' ++ rest)) : Sy P C (.o all (⟨dst, .call ⟨.value (.func f), ⟨args⟩, ats⟩, ty, pos, aft, none⟩ :: l) :: k) fr hp := by
  subst hhp
  exact sy_callw hx hf (R := fun x w' => ∃ w, HpOk C.D C.w0 (es ++ rest) w ∧ PostE es w R x w')
    (fun w hw => (hc w hw).mono fun x w' h => ⟨w, hw, h⟩)
    fun _ w' _ x ⟨w, hw, v, es', hR, hx', hh⟩ => ⟨v, _, hx', hw.callE hh, hk v es' hR⟩
theorem sy_enterEw {f : FuncId} {fn : Func} [hfn : FN P f fn] {c : Code} {args : List Value} {es : List En} {R : Value → List En → Prop} {w : World} (hw : HpOk (domL es) w es w) (hb : fn.body = some c) (hn : Nat.ble args.length fn.ntmps = true)
    (h : Sy P ⟨domL es, w, fn.ntmps, bodyPost P fn (PostE es w R)⟩ [.c c] (initFr args 0) es) : Calls P f args.toArray w (PostE es w R) := by
  have hn' : args.length ≤ fn.ntmps := by simpa using hn
  refine calls_of_wp hfn.h hb ?_
  refine h.go _ w ⟨rfl, by simp; omega, fun t v ht => ?_⟩ hw
  have := (get_init args 0 t v ht).2
  simp only [Nat.sub_zero] at this
  have hlt := (List.getElem?_eq_some_iff.1 this).1
  simp only [Array.getD_eq_getD_getElem?]
  rw [Array.getElem?_append_left (by simpa using hlt)]
  simp [this]
end
end Go.Proofs.Ytldjakeigjngoaa
/- A symbolic walk: a new slice out of elements that lie in memory that was there before. -/
set_option linter.unusedVariables false
set_option linter.unusedSimpArgs false
namespace Go.Proofs.Ytldjakeigjngoaa
open Go.RowKit
theorem oneAll_mem : ∀ {l : List Value}, oneAll l = true → ∀ u ∈ l, u.oneCell' = true
  | [], _, u, hu => by cases hu
  | v :: l, h, u, hu => by
    simp only [oneAll, Bool.and_eq_true] at h
    rcases List.mem_cons.1 hu with rfl | hu
    · exact h.1
    · exact oneAll_mem h.2 u hu
section
variable {P : Program} {C : Cx} {k : List It} {fr : Fr} {hp : List En} {all : Array Oper} {l : List Oper} {dst : Option Tmp} {ty : TypeId} {pos : String} {aft : Array Edge} {g : Option (Nat × Bool)}
/-- 'append(T(nil), x..)'. -/
theorem sy_appendSl {t e : TypeId} {ti : TypeInfo} [hd : TU P t (.slice e)] [hti : TI P e ti] {x y : Operand} (i : Nat) {z : Value} {m c : Nat} {p : Option Addr} {news : List Value} (hx : ev fr x = some (.slice none 0 0)) (hy : ev fr y = some (.slice p m c)) (hi : hp[i]? = some (vec e ti.size (.slice none 0 0) 0 []))
    (hz : ti.zero = some z) (hzs : Nat.beq (cl z).length ti.size = true) (hsz : Nat.blt 0 ti.size = true) (hf : Fits C.n dst)
    (hs : ∀ w, HpOk C.D C.w0 hp w → IsSl w ti.size p m news) (h1 : oneAll news = true) (h63 : m ≤ 9223372036854775807) (hbytes : m * ti.bytes ≤ 140737488355328)
    (hk : ∀ p' q', Sy P C (.o all l :: k) (put dst (.slice p' m q') fr) (hp.set i (vec e ti.size (.slice p' m q') m news))) :
    Sy P C (.o all (⟨dst, .call ⟨.builtin .append, ⟨[x, y]⟩, ⟨[t, t]⟩⟩, ty, pos, aft, none⟩ :: l) :: k) fr hp :=
  sy_op rfl fun a w ha hw => by
    have hsl := hs w hw
    rcases Nat.eq_zero_or_pos m with h0 | hm
    · subst h0
      have hn : news = [] := List.eq_nil_of_length_eq_zero (by have := hsl.1; omega)
      subst hn
      have hsrc : Src P ti.size t (.slice p 0 c) 0 [] w := by
        cases p with
        | none => exact Src.ofNil w hd.h c
        | some b => exact Src.ofSlice w hd.h b 0 c [] (by simp) (fun j u hj => by simp at hj) (fun u hu => by cases hu)
      have hr := run_append_nothing (P := P) w t t ty e ti hd.h hti.h none 0 0 (Nat.le_refl _) (.slice p 0 c) hsrc
      have hr' : (execOp a.eval ⟨dst, .call ⟨.builtin .append, ⟨[x, y]⟩, ⟨[t, t]⟩⟩, ty, pos, aft, none⟩).run P w = .ok (.value (.slice none 0 0)) w := by
        simp [execOp, ha.ev hx, ha.ev hy, resolve, invoke, builtin, hr]
      unfold Oper.wp; rw [hr']
      have := hk none 0
      rw [show hp.set i (vec e ti.size (.slice none 0 0) 0 []) = hp from by
        apply List.ext_getElem?
        intro j
        rw [List.getElem?_set]
        split
        · rename_i h; subst h
          split
          · exact hi.symm
          · rename_i h; rw [List.getElem?_eq_none (by omega)]
        · rfl] at this
      exact this.go _ _ (ha.put hf _) hw
    · rcases hsl.2 with h0 | ⟨b, off, rfl, hat⟩
      · omega
      obtain ⟨p', q, w', hr, hw'⟩ := append_ok (P := P) hw (t := t) (ty := ty) (hd.h) (hti.h) hz (by have := Nat.eq_of_beq_eq_true hzs; unfold cl at this; simpa using this) (by simpa [Nat.blt_eq] using hsz) hi (a := ⟨b, off, none⟩) (m := m) (c := c) (news := news) hsl.1
        (fun x u hu => by rw [addr_add]; exact hat x u hu) (oneAll_mem h1) (by omega) (by rw [Nat.zero_add]; exact hbytes) hm
      rw [Nat.zero_add] at hr hw'
      have hr' : (execOp a.eval ⟨dst, .call ⟨.builtin .append, ⟨[x, y]⟩, ⟨[t, t]⟩⟩, ty, pos, aft, none⟩).run P w = .ok (.value (.slice (some p') m q)) w' := by
        simp [execOp, ha.ev hx, ha.ev hy, resolve, invoke, builtin, hr]
      unfold Oper.wp; rw [hr']
      exact (hk (some p') q).go _ _ (ha.put hf _) hw'
end
end Go.Proofs.Ytldjakeigjngoaa
