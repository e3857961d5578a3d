/- BFM: texts of this proof, joined by program: PlainForm, Form, FormW1, FormW2, FormL. -/
import Derived.Test.YtldjakeigjngoaaBRA
import Derived.Test.YtldjakeigjngoaaPlainEsc2Q
import Derived.Test.YtldjakeigjngoaaNamesQ
import Derived.Test.YtldjakeigjngoaaBST
import Derived.Test.YtldjakeigjngoaaBSF
import Derived.Test.YtldjakeigjngoaaL2Q
import Derived.Test.YtldjakeigjngoaaEscQ
import Derived.Test.YtldjakeigjngoaaBldQ
import Derived.Test.YtldjakeigjngoaaBRC
/- Plain: values that may be written, and their texts. -/
set_option linter.unusedVariables false
set_option linter.unusedSimpArgs false
namespace Go.Proofs.Ytldjakeigjngoaa
open Go.RowKit Bf
def ownR (k n : Int) (s : List UInt8) (keys : List WordT) (m : Nat) : Bool :=
 if k = 2 then decide (s = []) && decide (keys.length = 0) && decide (m = 0)
 else if k = 3 then decide (n = 0) && decide (keys.length = 0) && decide (m = 0)
 else if k = 1 then decide (n = 0) && decide (keys.length = 0) && decide (m = 0) && namB s
 else if k = 6 then decide (n = 0) && decide (keys.length = 0) && decide (m = 1) && namB s
 else if k = 4 then decide (n = 0) && decide (s = []) && decide (keys.length = 0)
 else if k = 5 then decide (n = 0) && decide (s = []) && decide (keys.length = m) && keys.all fun x => namB x.1
 else false
mutual
def allR : RawP → Bool
 | .mk k _ n s keys kids => ownR k n s keys kids.length && allRs kids
def allRs : List RawP → Bool
 | [] => true
 | x :: l => allR x && allRs l
end
def rightR (v : RawP) : Bool := decide (depW v ≤ 24) && decide (cntW v ≤ 4096) && allR v
def openT (k n : Int) (s : List UInt8) : List UInt8 :=
 if k = 2 then putL n else if k = 3 then quoteL s else if k = 1 then s else if k = 6 then s ++ [40] else if k = 4 then [91] else if k = 5 then [123] else []
def endT (k : Int) : List UInt8 := if k = 6 then [41] else if k = 4 then [93] else if k = 5 then [125] else []
mutual
def fmtR : RawP → List UInt8
 | .mk k _ n s keys kids => openT k n s ++ (fmtRs (decide (k = 5)) true keys kids ++ endT k)
def fmtRs (rec : Bool) : Bool → List WordT → List RawP → List UInt8
 | _, _, [] => []
 | fst, keys, x :: l => (if fst then [] else [44, 32]) ++ ((if rec then (keys.headD ([], 0)).1 ++ [58, 32] else []) ++ (fmtR x ++ fmtRs rec false keys.tail l))
end
theorem allRs_app : ∀ (a b : List RawP), allRs (a ++ b) = (allRs a && allRs b)
 | [], b => rfl
 | x :: a, b => by simp [allRs, allRs_app a b, Bool.and_assoc]
theorem allRs_at : ∀ {l : List RawP} {i : Nat} {x : RawP}, allRs l = true → l[i]? = some x → allR x = true
 | y :: l, 0, x, h, hx => by
  simp only [allRs, Bool.and_eq_true] at h
  simp at hx; subst hx; exact h.1
 | y :: l, i + 1, x, h, hx => by
  simp only [allRs, Bool.and_eq_true] at h
  exact allRs_at h.2 (by simpa using hx)
theorem allRs_false {l : List RawP} {i : Nat} {x : RawP} (h : allR x = false) (hx : l[i]? = some x) : allRs l = false := by
 cases hc : allRs l with
 | false => rfl
 | true => have := allRs_at hc hx; rw [h] at this; cases this
def elF (rec : Bool) (keys : List WordT) (i : Nat) (x : RawP) : List UInt8 :=
 (if i = 0 then [] else [44, 32]) ++ ((if rec then (keys.getD i ([], 0)).1 ++ [58, 32] else []) ++ fmtR x)
theorem fmtRs_snoc (rec : Bool) : ∀ (l : List RawP) (fst : Bool) (keys : List WordT) (x : RawP), fmtRs rec fst keys (l ++ [x]) = fmtRs rec fst keys l ++ ((if fst && l.isEmpty then [] else [44, 32]) ++ ((if rec then (keys.getD l.length ([], 0)).1 ++ [58, 32] else []) ++ fmtR x))
 | [], fst, keys, x => by
  cases keys <;> simp [fmtRs]
 | y :: l, fst, keys, x => by
  have ih := fmtRs_snoc rec l false keys.tail x
  simp only [List.cons_append, fmtRs, ih, List.append_assoc, Bool.false_and, List.isEmpty_cons, Bool.and_false, List.length_cons]
  have : keys.tail.getD l.length ([], 0) = keys.getD (l.length + 1) ([], 0) := by cases keys <;> simp
  rw [this]
theorem fmtRs_step (rec : Bool) (keys : List WordT) {l : List RawP} {i : Nat} {x : RawP} (hx : l[i]? = some x) : fmtRs rec true keys (l.take (i + 1)) = fmtRs rec true keys (l.take i) ++ elF rec keys i x := by
 rw [take_snoc _ _ _ hx, fmtRs_snoc]
 have hl : (l.take i).length = i := by rw [List.length_take]; have := (List.getElem?_eq_some_iff.1 hx).1; omega
 rw [hl]
 unfold elF
 congr 2
 by_cases h0 : i = 0
 · subst h0; simp
 · have : (l.take i).isEmpty = false := by
    cases hc : l.take i with
    | nil => rw [hc] at hl; simp at hl; omega
    | cons a b => rfl
   rw [this, if_neg h0]; rfl
end Go.Proofs.Ytldjakeigjngoaa
/- Contracts: values that may be written, as the program tells. -/
namespace Go.Proofs.Ytldjakeigjngoaa
open Go.RowKit Bf
mutual
def lnR (b : Nat) : RawP → Prop
 | .mk _ _ _ s keys kids => s.length ≤ b ∧ (∀ x ∈ keys, x.1.length ≤ b) ∧ lnRs b kids
def lnRs (b : Nat) : List RawP → Prop
 | [] => True
 | x :: l => lnR b x ∧ lnRs b l
end
theorem lnRs_at {b : Nat} : ∀ {l : List RawP} {i : Nat} {x : RawP}, lnRs b l → l[i]? = some x → lnR b x
 | y :: l, 0, x, h, hx => by simp at hx; subst hx; exact h.1
 | y :: l, i + 1, x, h, hx => lnRs_at h.2 (by simpa using hx)
set_option maxRecDepth 20000 in
set_option maxHeartbeats 4000000 in
theorem named23_c (keys : List WordT) (pk : Option Addr) (ck : Nat) (r : Bool) (hr : (keys.all fun x => namB x.1) = r) (hb : keys.length ≤ maxLen) (hln : ∀ x ∈ keys, x.1.length ≤ 9223372036854775807) (w : World) (hs : IsSl w 2 pk keys.length (keys.flatMap wordV)) :
 Calls Try.prog 139 #[.slice pk keys.length ck] w fun e w' => e = .returned (.bool r) ∧ Below w.heap.size w w' := by
 have hm : keys.length ≤ 9223372036854775807 := hb
 have hst : St (fun _ => False) w (fun w => IsSl w 2 pk keys.length (keys.flatMap wordV)) := St.start (IsSl.bl _ _ _ _) hs
 refine sy_enter rfl rfl ?_
 simp only [initFr]
 repeat (first | refine sy_k rfl rfl ?_ | (refine gO ?_; first | refine sy_ov (ov_p rfl) rfl rfl ?_ | (refine gK ?_; refine sy_ov (ov_lens rfl) rfl rfl ?_)))
 refine sy_loop (α := Int) (fun i => [(5, .slice pk keys.length ck), (6, .int .i64 (keys.length : Int)), (7, .int .i64 i)]) (fun _ => []) (fun i => 0 ≤ i ∧ i ≤ keys.length ∧ ∀ (j : Nat) x, j < i.toNat → keys[j]? = some x → namB x.1 = true) (fun i => (keys.length - i).toNat) 0 ⟨by omega, by omega, fun j x h => by simp at h⟩ ⟨⟨_, rfl, rfl⟩, ⟨_, rfl, rfl⟩, ⟨_, rfl, rfl⟩, trivial⟩ (List.nil_sublist _) ?_
 rintro i ⟨i0, i1, hinv⟩
 by_cases hlt : i < keys.length
 · obtain ⟨x, hx⟩ : ∃ x, keys[i.toNat]? = some x := ⟨_, List.getElem?_eq_getElem (by omega)⟩
   obtain ⟨b, off, hp, hat⟩ := hst.addr (by omega)
   subst hp
   have hxl := hln x (List.mem_of_getElem? hx)
   obtain ⟨q, hq⟩ : ∃ q, namB x.1 = q := ⟨_, rfl⟩
   repeat (first | refine sy_k rfl rfl ?_ | (refine gO ?_; first | refine sy_ov (ov_p rfl) rfl rfl ?_ | (refine sy_ov (ov_indexAddr rfl rfl ?_ ?_) rfl rfl ?_; omega; omega)) | (refine sy_cond_t rfl ?_ ?_; (first | with_reducible rfl | assumption | omega | (simp <;> first | omega | assumption))))
   refine sy_ov (ov_elem (f := wordV) hat hx rfl rfl (fun _ => rfl)) rfl rfl ?_
   obtain ⟨x1, x2⟩ := x
   simp only at hq hxl
   cases q
   · have hf : r = false := by
      rw [← hr, Bool.eq_false_iff]
      intro h
      have := List.all_eq_true.1 h _ (List.mem_of_getElem? hx)
      simp only at this
      rw [hq] at this; cases this
     subst hf
     repeat (first | refine sy_k rfl rfl ?_ | (refine gO ?_; first | (refine gL ?_; refine sy_ov (ov_ld 0 rfl rfl rfl) rfl rfl ?_) | (refine gS ?_; refine sy_store 0 rfl rfl rfl rfl rfl rfl rfl rfl ?_) | refine sy_ov (ov_fieldAddr rfl rfl rfl) rfl rfl ?_ | (refine sy_alloc rfl rfl rfl ?_; intro _)))
     refine sy_ov (ov_call rfl (fun w _ => right_c x1 false hq hxl w)) rfl rfl ?_
     repeat (first | refine sy_k rfl rfl ?_ | (refine gO ?_; refine sy_ov (ov_p rfl) rfl rfl ?_) | (refine sy_cond_t rfl ?_ ?_; (first | with_reducible rfl | assumption | omega | (simp <;> first | omega | assumption))) | refine sy_rt ?_)
     exact ret1 rfl rfl rfl
   · repeat (first | refine sy_k rfl rfl ?_ | (refine gO ?_; first | (refine gL ?_; refine sy_ov (ov_ld 0 rfl rfl rfl) rfl rfl ?_) | (refine gS ?_; refine sy_store 0 rfl rfl rfl rfl rfl rfl rfl rfl ?_) | refine sy_ov (ov_fieldAddr rfl rfl rfl) rfl rfl ?_ | (refine sy_alloc rfl rfl rfl ?_; intro _)))
     refine sy_ov (ov_call rfl (fun w _ => right_c x1 true hq hxl w)) rfl rfl ?_
     repeat (first | refine sy_k rfl rfl ?_ | (refine gO ?_; first | refine sy_ov (ov_p rfl) rfl rfl ?_ | (refine gB ?_; (refine sy_ov (ov_ar rfl rfl rfl ?_ ?_) rfl rfl ?_; omega; omega))) | (refine sy_cond_f rfl ?_ ?_; (first | with_reducible rfl | assumption | omega | (simp <;> first | omega | assumption))))
     refine sy_back (i + 1) ⟨by omega, by omega, ?_⟩ (by omega) ⟨⟨_, rfl, rfl⟩, ⟨_, rfl, rfl⟩, ⟨_, rfl, rfl⟩, trivial⟩ (List.nil_sublist _)
     intro j u hj hu
     by_cases hji : j < i.toNat
     · exact hinv j u hji hu
     · have : j = i.toNat := by omega
       subst this
       rw [hx] at hu; cases hu; exact hq
 · have ht : r = true := by
    rw [← hr, List.all_eq_true]
    intro x hx
    obtain ⟨j, hj⟩ := List.mem_iff_getElem?.1 hx
    exact hinv j x (by have := (List.getElem?_eq_some_iff.1 hj).1; omega) hj
   subst ht
   repeat (first | refine sy_k rfl rfl ?_ | (refine gO ?_; refine sy_ov (ov_p rfl) rfl rfl ?_) | (refine sy_cond_f rfl ?_ ?_; (first | with_reducible rfl | assumption | omega | (simp <;> first | omega | assumption))) | refine sy_rt ?_)
   exact ret1 rfl rfl rfl
set_option maxRecDepth 20000 in
set_option maxHeartbeats 8000000 in
theorem own23_c (k a n : Int) (s : List UInt8) (pk : Option Addr) (ck : Nat) (keys : List WordT) (p : Option Addr) (c : Nat) (kids : List RawA) (r : Bool) (hr : ownR k n s keys kids.length = r) (hsl : s.length ≤ 9223372036854775807) (hln : ∀ x ∈ keys, x.1.length ≤ 9223372036854775807) (w : World) (hJ : RawJ w (.mk k a n s pk ck keys p c kids)) :
 Calls Try.prog 104 #[.agg ⟨rawV (.mk k a n s pk ck keys p c kids)⟩] w fun e w' => e = .returned (.bool r) ∧ Below w.heap.size w w' := by
 obtain ⟨hb, hs1, hs2, hkid⟩ := hJ.parts
 have hm : kids.length ≤ 9223372036854775807 := hb.2
 have hmk : keys.length ≤ 9223372036854775807 := hb.1
 have hsw : St (fun _ => False) w (fun w => IsSl w 2 pk keys.length (keys.flatMap wordV)) := St.start (IsSl.bl _ _ _ _) hs1
 subst hr
 obtain ⟨b1, h1⟩ : ∃ b, decide (n = 0) = b := ⟨_, rfl⟩
 obtain ⟨b2, h2⟩ : ∃ b, decide (s = []) = b := ⟨_, rfl⟩
 obtain ⟨b3, h3⟩ : ∃ b, decide ((keys.length : Int) = 0) = b := ⟨_, rfl⟩
 obtain ⟨b4, h4⟩ : ∃ b, decide ((kids.length : Int) = 0) = b := ⟨_, rfl⟩
 have h3' : decide (keys.length = 0) = b3 := by rw [← h3]; simp
 have h4' : decide (kids.length = 0) = b4 := by rw [← h4]; simp
 refine sy_enter rfl rfl ?_
 simp only [initFr]
 repeat (first | refine sy_k rfl rfl ?_ | (refine gO ?_; first | refine sy_ov (ov_p rfl) rfl rfl ?_ | (refine sy_box rfl rfl rfl ?_; intro _)))
 refine sy_draw 7 (by kernel_rfl) ?_
 repeat (first | refine dr_op (ov_p rfl) rfl rfl ?_ | refine dr_op (ov_ld 0 rfl rfl rfl) rfl rfl ?_ | refine dr_op (ov_fieldAddr rfl rfl rfl) rfl rfl ?_ | refine dr_end ?_)
 repeat (first | refine sy_k rfl rfl ?_ | (refine gO ?_; refine sy_ov (ov_p rfl) rfl rfl ?_))
 refine sy_draw 9 (by kernel_rfl) ?_
 repeat (first | refine dr_op (ov_p rfl) rfl rfl ?_ | refine dr_op (ov_lens rfl) rfl rfl ?_ | refine dr_op (ov_ld 0 rfl rfl rfl) rfl rfl ?_ | refine dr_op (ov_fieldAddr rfl rfl rfl) rfl rfl ?_ | refine dr_end ?_)
 repeat (first | refine sy_k rfl rfl ?_ | (refine gO ?_; first | refine sy_ov (ov_p rfl) rfl rfl ?_ | (refine gL ?_; refine sy_ov (ov_ld 0 rfl rfl rfl) rfl rfl ?_) | refine sy_ov (ov_fieldAddr rfl rfl rfl) rfl rfl ?_))
 simp only [h1, h2, h3, h4]
 by_cases k2 : k = 2
 · subst k2
   rw [show ownR 2 n s keys kids.length = (b2 && b3 && b4) by unfold ownR; rw [if_pos rfl, h2, h3', h4']]
   cases b2 <;> cases b3 <;> cases b4
   all_goals
    repeat (first | refine sy_k rfl rfl ?_ | (refine gO ?_; first | refine sy_ov (ov_p rfl) rfl rfl ?_ | (refine gG ?_; first | (refine sy_guard_yes rfl rfl rfl rfl rfl ?_ ?_; (first | with_reducible rfl | assumption | omega | (simp <;> first | omega | assumption))) | (refine sy_guard_no rfl rfl rfl rfl rfl ?_ ?_; (first | with_reducible rfl | assumption | omega | (simp <;> first | omega | assumption)))) | (refine sy_ov (ov_pick_t rfl rfl ?_) rfl rfl ?_; focus (with_reducible rfl)) | refine sy_ov (ov_pick rfl rfl rfl) rfl rfl ?_) | (refine sy_cond_t rfl ?_ ?_; (first | with_reducible rfl | assumption | omega | (simp <;> first | omega | assumption))) | refine sy_rt ?_)
    exact ret1 rfl rfl rfl
 · by_cases k3 : k = 3
   · subst k3
     rw [show ownR 3 n s keys kids.length = (b1 && b3 && b4) by unfold ownR; rw [if_neg (by decide), if_pos rfl, h1, h3', h4']]
     cases b1 <;> cases b3 <;> cases b4
     all_goals
      repeat (first | refine sy_k rfl rfl ?_ | (refine gO ?_; first | refine sy_ov (ov_p rfl) rfl rfl ?_ | (refine gG ?_; first | (refine sy_guard_yes rfl rfl rfl rfl rfl ?_ ?_; (first | with_reducible rfl | assumption | omega | (simp <;> first | omega | assumption))) | (refine sy_guard_no rfl rfl rfl rfl rfl ?_ ?_; (first | with_reducible rfl | assumption | omega | (simp <;> first | omega | assumption)))) | (refine sy_ov (ov_pick_t rfl rfl ?_) rfl rfl ?_; focus (with_reducible rfl)) | refine sy_ov (ov_pick rfl rfl rfl) rfl rfl ?_) | (refine sy_cond_t rfl ?_ ?_; (first | with_reducible rfl | assumption | omega | (simp <;> first | omega | assumption))) | (refine sy_cond_f rfl ?_ ?_; (first | with_reducible rfl | assumption | omega | (simp <;> first | omega | assumption))) | refine sy_rt ?_)
      exact ret1 rfl rfl rfl
   · by_cases k1 : k = 1
     · subst k1
       rw [show ownR 1 n s keys kids.length = (b1 && b3 && b4 && namB s) by unfold ownR; rw [if_neg (by decide), if_neg (by decide), if_pos rfl, h1, h3', h4']]
       cases b1 <;> cases b3 <;> cases b4
       all_goals
        repeat (first | refine sy_k rfl rfl ?_ | (refine gO ?_; first | refine sy_ov (ov_p rfl) rfl rfl ?_ | (refine gG ?_; first | (refine sy_guard_yes rfl rfl rfl rfl rfl ?_ ?_; (first | with_reducible rfl | assumption | omega | (simp <;> first | omega | assumption))) | (refine sy_guard_no rfl rfl rfl rfl rfl ?_ ?_; (first | with_reducible rfl | assumption | omega | (simp <;> first | omega | assumption)))) | (refine gL ?_; refine sy_ov (ov_ld 0 rfl rfl rfl) rfl rfl ?_) | (refine sy_ov (ov_pick_t rfl rfl ?_) rfl rfl ?_; focus (with_reducible rfl)) | refine sy_ov (ov_pick rfl rfl rfl) rfl rfl ?_ | refine sy_ov (ov_fieldAddr rfl rfl rfl) rfl rfl ?_) | (refine sy_cond_t rfl ?_ ?_; (first | with_reducible rfl | assumption | omega | (simp <;> first | omega | assumption))) | (refine sy_cond_f rfl ?_ ?_; (first | with_reducible rfl | assumption | omega | (simp <;> first | omega | assumption))) | refine sy_rt ?_)
        try exact ret1 rfl rfl rfl
       refine sy_ov (ov_call rfl (fun w _ => right_c s _ rfl hsl w)) rfl rfl ?_
       repeat (first | refine sy_k rfl rfl ?_ | (refine gO ?_; first | refine sy_ov (ov_p rfl) rfl rfl ?_ | (refine sy_ov (ov_pick_t rfl rfl ?_) rfl rfl ?_; focus (with_reducible rfl))) | refine sy_rt ?_)
       exact ret1 rfl rfl rfl
     · by_cases k6 : k = 6
       · subst k6
         obtain ⟨b5, h5⟩ : ∃ b, decide ((kids.length : Int) = 1) = b := ⟨_, rfl⟩
         have h5' : decide (kids.length = 1) = b5 := by rw [← h5]; congr 1; simp; omega
         rw [show ownR 6 n s keys kids.length = (b1 && b3 && b5 && namB s) by unfold ownR; rw [if_neg (by decide), if_neg (by decide), if_neg (by decide), if_pos rfl, h1, h3', h5']]
         cases b1 <;> cases b3
         all_goals
          repeat (first | refine sy_k rfl rfl ?_ | (refine gO ?_; first | refine sy_ov (ov_p rfl) rfl rfl ?_ | (refine gG ?_; first | (refine sy_guard_yes rfl rfl rfl rfl rfl ?_ ?_; (first | with_reducible rfl | assumption | omega | (simp <;> first | omega | assumption))) | (refine sy_guard_no rfl rfl rfl rfl rfl ?_ ?_; (first | with_reducible rfl | assumption | omega | (simp <;> first | omega | assumption)))) | (refine gK ?_; refine sy_ov (ov_lens rfl) rfl rfl ?_) | (refine gL ?_; refine sy_ov (ov_ld 0 rfl rfl rfl) rfl rfl ?_) | (refine sy_ov (ov_pick_t rfl rfl ?_) rfl rfl ?_; focus (with_reducible rfl)) | refine sy_ov (ov_pick rfl rfl rfl) rfl rfl ?_ | refine sy_ov (ov_fieldAddr rfl rfl rfl) rfl rfl ?_) | (refine sy_cond_t rfl ?_ ?_; (first | with_reducible rfl | assumption | omega | (simp <;> first | omega | assumption))) | (refine sy_cond_f rfl ?_ ?_; (first | with_reducible rfl | assumption | omega | (simp <;> first | omega | assumption))) | refine sy_rt ?_)
          try exact ret1 rfl rfl rfl
         rw [h5]
         cases b5
         all_goals
          repeat (first | refine sy_k rfl rfl ?_ | (refine gO ?_; first | refine sy_ov (ov_p rfl) rfl rfl ?_ | (refine gG ?_; first | (refine sy_guard_yes rfl rfl rfl rfl rfl ?_ ?_; (first | with_reducible rfl | assumption | omega | (simp <;> first | omega | assumption))) | (refine sy_guard_no rfl rfl rfl rfl rfl ?_ ?_; (first | with_reducible rfl | assumption | omega | (simp <;> first | omega | assumption)))) | (refine gL ?_; refine sy_ov (ov_ld 0 rfl rfl rfl) rfl rfl ?_) | refine sy_ov (ov_pick rfl rfl rfl) rfl rfl ?_ | refine sy_ov (ov_fieldAddr rfl rfl rfl) rfl rfl ?_) | refine sy_rt ?_)
          try exact ret1 rfl rfl rfl
         refine sy_ov (ov_call rfl (fun w _ => right_c s _ rfl hsl w)) rfl rfl ?_
         repeat (first | refine sy_k rfl rfl ?_ | (refine gO ?_; first | refine sy_ov (ov_p rfl) rfl rfl ?_ | (refine sy_ov (ov_pick_t rfl rfl ?_) rfl rfl ?_; focus (with_reducible rfl))) | refine sy_rt ?_)
         exact ret1 rfl rfl rfl
       · by_cases k4 : k = 4
         · subst k4
           rw [show ownR 4 n s keys kids.length = (b1 && b2 && b3) by unfold ownR; rw [if_neg (by decide), if_neg (by decide), if_neg (by decide), if_neg (by decide), if_pos rfl, h1, h2, h3']]
           cases b1 <;> cases b2 <;> cases b3
           all_goals
            repeat (first | refine sy_k rfl rfl ?_ | (refine gO ?_; first | refine sy_ov (ov_p rfl) rfl rfl ?_ | (refine gG ?_; first | (refine sy_guard_yes rfl rfl rfl rfl rfl ?_ ?_; (first | with_reducible rfl | assumption | omega | (simp <;> first | omega | assumption))) | (refine sy_guard_no rfl rfl rfl rfl rfl ?_ ?_; (first | with_reducible rfl | assumption | omega | (simp <;> first | omega | assumption)))) | (refine sy_ov (ov_pick_t rfl rfl ?_) rfl rfl ?_; focus (with_reducible rfl)) | refine sy_ov (ov_pick rfl rfl rfl) rfl rfl ?_) | (refine sy_cond_t rfl ?_ ?_; (first | with_reducible rfl | assumption | omega | (simp <;> first | omega | assumption))) | (refine sy_cond_f rfl ?_ ?_; (first | with_reducible rfl | assumption | omega | (simp <;> first | omega | assumption))) | refine sy_rt ?_)
            exact ret1 rfl rfl rfl
         · by_cases k5 : k = 5
           · subst k5
             obtain ⟨b5, h5⟩ : ∃ b, decide ((keys.length : Int) = kids.length) = b := ⟨_, rfl⟩
             have h5' : decide (keys.length = kids.length) = b5 := by rw [← h5]; simp only [decide_eq_decide]; omega
             rw [show ownR 5 n s keys kids.length = (b1 && b2 && b5 && keys.all fun x => namB x.1) by unfold ownR; rw [if_neg (by decide), if_neg (by decide), if_neg (by decide), if_neg (by decide), if_neg (by decide), if_pos rfl, h1, h2, h5']]
             cases b1 <;> cases b2
             all_goals
              repeat (first | refine sy_k rfl rfl ?_ | (refine gO ?_; first | refine sy_ov (ov_p rfl) rfl rfl ?_ | (refine gG ?_; first | (refine sy_guard_yes rfl rfl rfl rfl rfl ?_ ?_; (first | with_reducible rfl | assumption | omega | (simp <;> first | omega | assumption))) | (refine sy_guard_no rfl rfl rfl rfl rfl ?_ ?_; (first | with_reducible rfl | assumption | omega | (simp <;> first | omega | assumption)))) | (refine gK ?_; refine sy_ov (ov_lens rfl) rfl rfl ?_) | (refine gL ?_; refine sy_ov (ov_ld 0 rfl rfl rfl) rfl rfl ?_) | (refine sy_ov (ov_pick_t rfl rfl ?_) rfl rfl ?_; focus (with_reducible rfl)) | refine sy_ov (ov_pick rfl rfl rfl) rfl rfl ?_ | refine sy_ov (ov_fieldAddr rfl rfl rfl) rfl rfl ?_) | (refine sy_cond_t rfl ?_ ?_; (first | with_reducible rfl | assumption | omega | (simp <;> first | omega | assumption))) | (refine sy_cond_f rfl ?_ ?_; (first | with_reducible rfl | assumption | omega | (simp <;> first | omega | assumption))) | refine sy_rt ?_)
              try exact ret1 rfl rfl rfl
             rw [h5]
             cases b5
             all_goals
              repeat (first | refine sy_k rfl rfl ?_ | (refine gO ?_; first | refine sy_ov (ov_p rfl) rfl rfl ?_ | (refine gG ?_; first | (refine sy_guard_yes rfl rfl rfl rfl rfl ?_ ?_; (first | with_reducible rfl | assumption | omega | (simp <;> first | omega | assumption))) | (refine sy_guard_no rfl rfl rfl rfl rfl ?_ ?_; (first | with_reducible rfl | assumption | omega | (simp <;> first | omega | assumption)))) | (refine gL ?_; refine sy_ov (ov_ld 0 rfl rfl rfl) rfl rfl ?_) | refine sy_ov (ov_pick rfl rfl rfl) rfl rfl ?_ | refine sy_ov (ov_fieldAddr rfl rfl rfl) rfl rfl ?_) | refine sy_rt ?_)
              try exact ret1 rfl rfl rfl
             refine sy_ov (ov_call rfl (fun w hw => named23_c keys pk ck _ rfl hb.1 hln w (hsw.at hw))) rfl rfl ?_
             repeat (first | refine sy_k rfl rfl ?_ | (refine gO ?_; first | refine sy_ov (ov_p rfl) rfl rfl ?_ | (refine sy_ov (ov_pick_t rfl rfl ?_) rfl rfl ?_; focus (with_reducible rfl))) | refine sy_rt ?_)
             exact ret1 rfl rfl rfl
           · rw [show ownR k n s keys kids.length = false by unfold ownR; rw [if_neg k2, if_neg k3, if_neg k1, if_neg k6, if_neg k4, if_neg k5]]
             repeat (first | refine sy_k rfl rfl ?_ | (refine gO ?_; refine sy_ov (ov_p rfl) rfl rfl ?_) | (refine sy_cond_f rfl ?_ ?_; (first | with_reducible rfl | assumption | omega | (simp <;> first | omega | assumption))) | refine sy_rt ?_)
             exact ret1 rfl rfl rfl
set_option maxRecDepth 20000 in
set_option maxHeartbeats 8000000 in
theorem all23_c : ∀ (m : Nat) (z : RawA), SizeOf.sizeOf z ≤ m → lnR 9223372036854775807 (plR z) → ∀ (w : World), RawJ w z → Calls Try.prog 73 #[.agg ⟨rawV z⟩] w fun e w' => e = .returned (.bool (allR (plR z))) ∧ Below w.heap.size w w' := by
 intro m
 induction m with
 | zero => intro z hz; cases z; simp at hz
 | succ m ih =>
  intro z hz hl w hw0
  have hJ : St (fun _ => False) w (fun w => RawJ w z) := St.start (RawJ.bl z) hw0
  obtain ⟨k, a, n, s, pk, ck, keys, p, c, kids⟩ := z
  obtain ⟨hb, hs1, hs2, hkid⟩ := hw0.parts
  have hm : kids.length ≤ 9223372036854775807 := hb.2
  have hst : St (fun _ => False) w (fun w => IsSl w 6 p kids.length (kids.flatMap rawV)) := St.start (IsSl.bl _ _ _ _) hs2
  have hstk : ∀ x ∈ kids, St (fun _ => False) w (fun w => RawJ w x) := fun x hx => St.start (RawJ.bl _) (hkid x hx)
  have hl' : s.length ≤ 9223372036854775807 ∧ (∀ x ∈ keys, x.1.length ≤ 9223372036854775807) ∧ lnRs 9223372036854775807 (plRs kids) := hl
  obtain ⟨o, ho⟩ : ∃ o, ownR k n s keys kids.length = o := ⟨_, rfl⟩
  have hown := fun w hJ => own23_c k a n s pk ck keys p c kids o ho hl'.1 hl'.2.1 w hJ
  obtain ⟨r, hr⟩ : ∃ r, allRs (plRs kids) = r := ⟨_, rfl⟩
  rw [show allR (plR (.mk k a n s pk ck keys p c kids)) = (o && r) by simp only [plR, allR, plRs_len, ho, hr]]
  cases o
  · refine sy_enter rfl rfl ?_
    simp only [initFr]
    repeat (first | refine sy_k rfl rfl ?_ | (refine gO ?_; first | refine sy_ov (ov_p rfl) rfl rfl ?_ | (refine gL ?_; refine sy_ov (ov_ld 0 rfl rfl rfl) rfl rfl ?_) | (refine sy_box rfl rfl rfl ?_; intro _)))
    refine sy_ov (ov_call rfl (fun w hw => hown w (hJ.at hw))) rfl rfl ?_
    repeat (first | refine sy_k rfl rfl ?_ | (refine gO ?_; refine sy_ov (ov_p rfl) rfl rfl ?_) | (refine sy_cond_t rfl ?_ ?_; (first | with_reducible rfl | assumption | omega | (simp <;> first | omega | assumption))) | refine sy_rt ?_)
    exact ret1 rfl rfl rfl
  · rw [Bool.true_and]
    refine sy_enter rfl rfl ?_
    simp only [initFr]
    repeat (first | refine sy_k rfl rfl ?_ | (refine gO ?_; first | refine sy_ov (ov_p rfl) rfl rfl ?_ | (refine gL ?_; refine sy_ov (ov_ld 0 rfl rfl rfl) rfl rfl ?_) | (refine sy_box rfl rfl rfl ?_; intro _)))
    refine sy_ov (ov_call rfl (fun w hw => hown w (hJ.at hw))) rfl rfl ?_
    repeat (first | refine sy_k rfl rfl ?_ | (refine gO ?_; first | refine sy_ov (ov_p rfl) rfl rfl ?_ | (refine gK ?_; refine sy_ov (ov_lens rfl) rfl rfl ?_) | (refine gL ?_; refine sy_ov (ov_ld 0 rfl rfl rfl) rfl rfl ?_) | refine sy_ov (ov_fieldAddr rfl rfl rfl) rfl rfl ?_) | (refine sy_cond_f rfl ?_ ?_; (first | with_reducible rfl | assumption | omega | (simp <;> first | omega | assumption))))
    refine sy_loop (α := Int) (fun i => [(9, .slice p kids.length c), (10, .int .i64 (kids.length : Int)), (11, .int .i64 i)]) (fun _ => []) (fun i => 0 ≤ i ∧ i ≤ kids.length ∧ ∀ (j : Nat) x, j < i.toNat → (plRs kids)[j]? = some x → allR x = true) (fun i => (kids.length - i).toNat) 0 ⟨by omega, by omega, fun j x h => by simp at h⟩ ⟨⟨_, rfl, rfl⟩, ⟨_, rfl, rfl⟩, ⟨_, rfl, rfl⟩, trivial⟩ (List.nil_sublist _) ?_
    rintro i ⟨i0, i1, hinv⟩
    by_cases hlt : i < kids.length
    · obtain ⟨x, hx⟩ : ∃ x, kids[i.toNat]? = some x := ⟨_, List.getElem?_eq_getElem (by omega)⟩
      have hxm := List.mem_of_getElem? hx
      obtain ⟨b, off, hp, hat⟩ := hst.addr (by omega)
      subst hp
      have hsz := sizeR_kid (k := k) (a := a) (n := n) (s := s) (pk := pk) (ck := ck) (keys := keys) (p := some ⟨b, off, none⟩) (c := c) hxm
      have hpx := plRs_at hx
      have hrec := ih x (by omega) (lnRs_at hl'.2.2 hpx)
      have hxj := hstk _ hxm
      obtain ⟨q, hq⟩ : ∃ q, allR (plR x) = q := ⟨_, rfl⟩
      rw [hq] at hrec
      repeat (first | refine sy_k rfl rfl ?_ | (refine gO ?_; first | refine sy_ov (ov_p rfl) rfl rfl ?_ | (refine sy_ov (ov_indexAddr rfl rfl ?_ ?_) rfl rfl ?_; omega; omega)) | (refine sy_cond_t rfl ?_ ?_; (first | with_reducible rfl | assumption | omega | (simp <;> first | omega | assumption))))
      refine sy_ov (ov_elem (f := rawV) hat hx rfl rfl rawV_len) rfl rfl ?_
      obtain ⟨xk, xa, xn, xs, xpk, xck, xkeys, xp, xc, xkids⟩ := x
      cases q
      · have hf : r = false := by rw [← hr]; exact allRs_false hq hpx
        subst hf
        repeat (first | refine sy_k rfl rfl ?_ | (refine gO ?_; first | (refine gL ?_; refine sy_ov (ov_ld 0 rfl rfl rfl) rfl rfl ?_) | (refine gS ?_; refine sy_store 0 rfl rfl rfl rfl rfl rfl rfl rfl ?_) | (refine sy_alloc rfl rfl rfl ?_; intro _)))
        refine sy_ov (ov_call rfl (fun w hw => hrec w (hxj.at hw))) rfl rfl ?_
        repeat (first | refine sy_k rfl rfl ?_ | (refine gO ?_; refine sy_ov (ov_p rfl) rfl rfl ?_) | (refine sy_cond_t rfl ?_ ?_; (first | with_reducible rfl | assumption | omega | (simp <;> first | omega | assumption))) | refine sy_rt ?_)
        exact ret1 rfl rfl rfl
      · repeat (first | refine sy_k rfl rfl ?_ | (refine gO ?_; first | (refine gL ?_; refine sy_ov (ov_ld 0 rfl rfl rfl) rfl rfl ?_) | (refine gS ?_; refine sy_store 0 rfl rfl rfl rfl rfl rfl rfl rfl ?_) | (refine sy_alloc rfl rfl rfl ?_; intro _)))
        refine sy_ov (ov_call rfl (fun w hw => hrec w (hxj.at hw))) rfl rfl ?_
        repeat (first | refine sy_k rfl rfl ?_ | (refine gO ?_; first | refine sy_ov (ov_p rfl) rfl rfl ?_ | (refine gB ?_; (refine sy_ov (ov_ar rfl rfl rfl ?_ ?_) rfl rfl ?_; omega; omega))) | (refine sy_cond_f rfl ?_ ?_; (first | with_reducible rfl | assumption | omega | (simp <;> first | omega | assumption))))
        refine sy_back (i + 1) ⟨by omega, by omega, ?_⟩ (by omega) ⟨⟨_, rfl, rfl⟩, ⟨_, rfl, rfl⟩, ⟨_, rfl, rfl⟩, trivial⟩ (List.nil_sublist _)
        intro j u hj hu
        by_cases hji : j < i.toNat
        · exact hinv j u hji hu
        · have : j = i.toNat := by omega
          subst this
          rw [hpx] at hu; cases hu; exact hq
    · have ht : r = true := by
       rw [← hr]
       have : ∀ (l : List RawP), (∀ (j : Nat) x, l[j]? = some x → allR x = true) → allRs l = true := by
        intro l
        induction l with
        | nil => intro _; rfl
        | cons y l ih => intro h; simp only [allRs, Bool.and_eq_true]; exact ⟨h 0 y rfl, ih fun j x hx => h (j + 1) x hx⟩
       exact this _ fun j x hx => hinv j x (by have := (List.getElem?_eq_some_iff.1 hx).1; rw [plRs_len] at this; omega) hx
      subst ht
      repeat (first | refine sy_k rfl rfl ?_ | (refine gO ?_; refine sy_ov (ov_p rfl) rfl rfl ?_) | (refine sy_cond_f rfl ?_ ?_; (first | with_reducible rfl | assumption | omega | (simp <;> first | omega | assumption))) | refine sy_rt ?_)
      exact ret1 rfl rfl rfl
set_option maxRecDepth 20000 in
set_option maxHeartbeats 4000000 in
theorem right23_c (z : RawA) (r : Bool) (hr : rightR (plR z) = r) (hl : lnR 9223372036854775807 (plR z)) (w : World) (hw0 : RawJ w z) : Calls Try.prog 42 #[.agg ⟨rawV z⟩] w fun e w' => e = .returned (.bool r) ∧ Below w.heap.size w w' := by
 have hJ : St (fun _ => False) w (fun w => RawJ w z) := St.start (RawJ.bl z) hw0
 have hd := fun w h => depth_c _ z (Nat.le_refl _) w h
 have hc := fun w h => count_c _ z (Nat.le_refl _) w h
 have ha := fun w h => all23_c _ z (Nat.le_refl _) hl w h
 subst hr
 unfold rightR
 obtain ⟨dd, h1⟩ : ∃ d, depW (plR z) = d := ⟨_, rfl⟩
 obtain ⟨cc, h2⟩ : ∃ d, cntW (plR z) = d := ⟨_, rfl⟩
 obtain ⟨aa, h3⟩ : ∃ d, allR (plR z) = d := ⟨_, rfl⟩
 rw [h1] at hd ⊢
 rw [h2] at hc ⊢
 rw [h3] at ha ⊢
 obtain ⟨k, a, n, s, pk, ck, keys, p, c, kids⟩ := z
 by_cases hd1 : dd ≤ 24
 · by_cases hc1 : cc ≤ 4096
   · rw [show (decide (dd ≤ 24) && decide (cc ≤ 4096) && aa) = aa by simp [hd1, hc1]]
     refine sy_enter rfl rfl ?_
     simp only [initFr]
     repeat (first | refine sy_k rfl rfl ?_ | (refine gO ?_; first | refine sy_ov (ov_p rfl) rfl rfl ?_ | (refine gL ?_; refine sy_ov (ov_ld 0 rfl rfl rfl) rfl rfl ?_) | (refine sy_box rfl rfl rfl ?_; intro _)))
     refine sy_ov (ov_call rfl (fun w hw => hd w (hJ.at hw))) rfl rfl ?_
     repeat ((refine gO ?_; first | refine sy_ov (ov_p rfl) rfl rfl ?_ | (refine gG ?_; (refine sy_guard_yes rfl rfl rfl rfl rfl ?_ ?_; (first | with_reducible rfl | assumption | omega | (simp <;> first | omega | assumption)))) | (refine gL ?_; refine sy_ov (ov_ld 0 rfl rfl rfl) rfl rfl ?_)))
     refine sy_ov (ov_call rfl (fun w hw => hc w (hJ.at hw))) rfl rfl ?_
     repeat ((refine gO ?_; first | refine sy_ov (ov_p rfl) rfl rfl ?_ | (refine gG ?_; (refine sy_guard_yes rfl rfl rfl rfl rfl ?_ ?_; (first | with_reducible rfl | assumption | omega | (simp <;> first | omega | assumption)))) | (refine gL ?_; refine sy_ov (ov_ld 0 rfl rfl rfl) rfl rfl ?_) | (refine sy_ov (ov_pick_t rfl rfl ?_) rfl rfl ?_; focus (with_reducible rfl))))
     refine sy_ov (ov_call rfl (fun w hw => ha w (hJ.at hw))) rfl rfl ?_
     repeat (first | refine sy_k rfl rfl ?_ | (refine gO ?_; first | refine sy_ov (ov_p rfl) rfl rfl ?_ | (refine sy_ov (ov_pick_t rfl rfl ?_) rfl rfl ?_; focus (with_reducible rfl))) | refine sy_rt ?_)
     exact ret1 rfl rfl rfl
   · rw [show (decide (dd ≤ 24) && decide (cc ≤ 4096) && aa) = false by simp [hd1, hc1]]
     refine sy_enter rfl rfl ?_
     simp only [initFr]
     repeat (first | refine sy_k rfl rfl ?_ | (refine gO ?_; first | refine sy_ov (ov_p rfl) rfl rfl ?_ | (refine gL ?_; refine sy_ov (ov_ld 0 rfl rfl rfl) rfl rfl ?_) | (refine sy_box rfl rfl rfl ?_; intro _)))
     refine sy_ov (ov_call rfl (fun w hw => hd w (hJ.at hw))) rfl rfl ?_
     repeat ((refine gO ?_; first | refine sy_ov (ov_p rfl) rfl rfl ?_ | (refine gG ?_; (refine sy_guard_yes rfl rfl rfl rfl rfl ?_ ?_; (first | with_reducible rfl | assumption | omega | (simp <;> first | omega | assumption)))) | (refine gL ?_; refine sy_ov (ov_ld 0 rfl rfl rfl) rfl rfl ?_)))
     refine sy_ov (ov_call rfl (fun w hw => hc w (hJ.at hw))) rfl rfl ?_
     repeat (first | refine sy_k rfl rfl ?_ | (refine gO ?_; first | refine sy_ov (ov_p rfl) rfl rfl ?_ | (refine gG ?_; first | (refine sy_guard_yes rfl rfl rfl rfl rfl ?_ ?_; (first | with_reducible rfl | assumption | omega | (simp <;> first | omega | assumption))) | (refine sy_guard_no rfl rfl rfl rfl rfl ?_ ?_; (first | with_reducible rfl | assumption | omega | (simp <;> first | omega | assumption)))) | (refine sy_ov (ov_pick_t rfl rfl ?_) rfl rfl ?_; focus (with_reducible rfl)) | refine sy_ov (ov_pick rfl rfl rfl) rfl rfl ?_) | refine sy_rt ?_)
     exact ret1 rfl rfl rfl
 · rw [show (decide (dd ≤ 24) && decide (cc ≤ 4096) && aa) = false by simp [hd1]]
   refine sy_enter rfl rfl ?_
   simp only [initFr]
   repeat (first | refine sy_k rfl rfl ?_ | (refine gO ?_; first | refine sy_ov (ov_p rfl) rfl rfl ?_ | (refine gL ?_; refine sy_ov (ov_ld 0 rfl rfl rfl) rfl rfl ?_) | (refine sy_box rfl rfl rfl ?_; intro _)))
   refine sy_ov (ov_call rfl (fun w hw => hd w (hJ.at hw))) rfl rfl ?_
   repeat (first | refine sy_k rfl rfl ?_ | (refine gO ?_; first | refine sy_ov (ov_p rfl) rfl rfl ?_ | (refine gG ?_; (refine sy_guard_no rfl rfl rfl rfl rfl ?_ ?_; (first | with_reducible rfl | assumption | omega | (simp <;> first | omega | assumption)))) | refine sy_ov (ov_pick rfl rfl rfl) rfl rfl ?_) | refine sy_rt ?_)
   exact ret1 rfl rfl rfl
end Go.Proofs.Ytldjakeigjngoaa
/- Contracts: a value's text, as the program writes it. -/
namespace Go.Proofs.Ytldjakeigjngoaa
open Go.RowKit Bf
theorem fmtRs_pre (rec : Bool) : ∀ (a b : List RawP) (fst : Bool) (keys : List WordT), (fmtRs rec fst keys a).length ≤ (fmtRs rec fst keys (a ++ b)).length
 | [], b, fst, keys => by simp [fmtRs]
 | x :: a, b, fst, keys => by
  have := fmtRs_pre rec a b false keys.tail
  simp only [List.cons_append, fmtRs, List.length_append]
  omega
theorem fmtRs_take (rec : Bool) (l : List RawP) (i : Nat) (keys : List WordT) : (fmtRs rec true keys (l.take i)).length ≤ (fmtRs rec true keys l).length := by
 have := fmtRs_pre rec (l.take i) (l.drop i) true keys
 rw [List.take_append_drop] at this; exact this
abbrev ptrB (b : Nat) : Value := .pointer (some ⟨b, 0, none⟩)
def WrP (b : Nat) (s : List UInt8) (u : Value) (es : List En) : Prop := u = .tuple #[] ∧ ∃ v, es = [bld b v s]
def WrSpec (z : RawA) : Prop := ∀ (b : Nat) (v : Value) (t : List UInt8), t.length + (fmtR (plR z)).length ≤ 60000000000000 → ∀ w : World, HpOk (domL [bld b v t]) w [bld b v t] w → St (domL [bld b v t]) w (fun w => RawJ w z) →
 Calls Try.prog 74 #[ptrB b, .agg ⟨rawV z⟩] w (PostE [bld b v t] w (WrP b (t ++ fmtR (plR z))))
theorem len_nil {α : Type} {l : List α} (h : l.length = 0) : l = [] := List.eq_nil_of_length_eq_zero h
set_option maxRecDepth 20000 in
set_option maxHeartbeats 8000000 in
theorem write_leaf (k a n : Int) (s : List UInt8) (pk : Option Addr) (ck : Nat) (p : Option Addr) (c : Nat) (hk : k = 2 ∨ k = 3 ∨ k = 1) (hn : I64 n) (hs : s.length ≤ 4000000000000) : WrSpec (.mk k a n s pk ck [] p c []) := by
 intro b v t hlen w hw0 hJ
 simp only [plR, plRs, fmtR, fmtRs, List.nil_append] at hlen ⊢
 rcases hk with rfl | rfl | rfl
 · rw [show openT 2 n s = putL n from rfl, show endT 2 = [] from rfl, List.append_nil] at hlen ⊢
   obtain ⟨q, hq⟩ : ∃ q, putL n = q := ⟨_, rfl⟩
   rw [hq] at hlen ⊢
   refine sy_enterEw hw0 rfl rfl ?_
   simp only [initFr]
   repeat (first | refine sy_k rfl rfl ?_ | (refine gO ?_; first | refine sy_ov (ov_p rfl) rfl rfl ?_ | (refine gL ?_; refine sy_ov (ov_ld 0 rfl rfl rfl) rfl rfl ?_) | refine sy_ov (ov_fieldAddr rfl rfl rfl) rfl rfl ?_ | (refine sy_box rfl rfl rfl ?_; intro _)) | (refine sy_cond_t rfl ?_ ?_; (first | with_reducible rfl | assumption | omega | (simp <;> first | omega | assumption))))
   rename_i b3
   refine sy_ov (ov_call rfl (fun w _ => put_c n q hq hn.1 hn.2 w)) rfl rfl ?_
   repeat (first | refine sy_k rfl rfl ?_ | (refine gO ?_; refine sy_ov (ov_p rfl) rfl rfl ?_))
   refine sy_works 1 rfl rfl rfl (writeString_w b v t q (by first | omega | (simp; done) | (simp; omega)) (by first | omega | (simp; done) | (simp; omega))) ?_
   rintro r e' ⟨rfl, v', rfl⟩
   simp only [List.set_cons_zero, List.set_cons_succ]
   repeat (first | refine sy_k rfl rfl ?_ | (refine gO ?_; first | refine sy_ov (ov_p rfl) rfl rfl ?_ | (refine gK ?_; refine sy_ov (ov_lens rfl) rfl rfl ?_) | (refine gL ?_; refine sy_ov (ov_ld 0 rfl rfl rfl) rfl rfl ?_) | refine sy_ov (ov_fieldAddr rfl rfl rfl) rfl rfl ?_))
   refine sy_loop (α := Unit) (fun _ => [(0, ptrB b), (5, S []), (38, .int .i64 0), (39, .int .i64 0)]) (fun _ => [blk b3 49 (rawV (.mk 2 a n s pk ck [] p c [])), bld b v' (t ++ q)]) (fun _ => True) (fun _ => 0) () trivial ⟨⟨_, rfl, rfl⟩, ⟨_, rfl, rfl⟩, ⟨_, rfl, rfl⟩, ⟨_, rfl, rfl⟩, trivial⟩ sr ?_
   rintro ⟨⟩ _
   repeat (first | refine sy_k rfl rfl ?_ | (refine gO ?_; refine sy_ov (ov_p rfl) rfl rfl ?_) | (refine sy_cond_f rfl ?_ ?_; (first | with_reducible rfl | assumption | omega | (simp <;> first | omega | assumption))))
   refine sy_works 1 rfl rfl rfl (writeString_w b v' (t ++ q) [] (by first | omega | (simp; done) | (simp; omega)) (by first | omega | (simp; done) | (simp; omega))) ?_
   rintro r e' ⟨rfl, v', rfl⟩
   simp only [List.set_cons_zero, List.set_cons_succ, List.append_nil]
   repeat (refine sy_k rfl rfl ?_)
   exact end0w rfl fun w' hw' => postE hw' [bld b _ (t ++ q)] (sub_self (sd sr)) rfl ⟨rfl, _, rfl⟩
 · rw [show openT 3 n s = quoteL s from rfl, show endT 3 = [] from rfl, List.append_nil] at hlen ⊢
   obtain ⟨q, hq⟩ : ∃ q, quoteL s = q := ⟨_, rfl⟩
   rw [hq] at hlen ⊢
   refine sy_enterEw hw0 rfl rfl ?_
   simp only [initFr]
   repeat (first | refine sy_k rfl rfl ?_ | (refine gO ?_; first | refine sy_ov (ov_p rfl) rfl rfl ?_ | (refine gL ?_; refine sy_ov (ov_ld 0 rfl rfl rfl) rfl rfl ?_) | refine sy_ov (ov_fieldAddr rfl rfl rfl) rfl rfl ?_ | (refine sy_box rfl rfl rfl ?_; intro _)) | (refine sy_cond_t rfl ?_ ?_; (first | with_reducible rfl | assumption | omega | (simp <;> first | omega | assumption))) | (refine sy_cond_f rfl ?_ ?_; (first | with_reducible rfl | assumption | omega | (simp <;> first | omega | assumption))))
   rename_i b3
   refine sy_ov (ov_call rfl (fun w _ => quote_c s q hq hs w)) rfl rfl ?_
   repeat (first | refine sy_k rfl rfl ?_ | (refine gO ?_; refine sy_ov (ov_p rfl) rfl rfl ?_))
   refine sy_works 1 rfl rfl rfl (writeString_w b v t q (by first | omega | (simp; done) | (simp; omega)) (by first | omega | (simp; done) | (simp; omega))) ?_
   rintro r e' ⟨rfl, v', rfl⟩
   simp only [List.set_cons_zero, List.set_cons_succ]
   repeat (first | refine sy_k rfl rfl ?_ | (refine gO ?_; first | refine sy_ov (ov_p rfl) rfl rfl ?_ | (refine gK ?_; refine sy_ov (ov_lens rfl) rfl rfl ?_) | (refine gL ?_; refine sy_ov (ov_ld 0 rfl rfl rfl) rfl rfl ?_) | refine sy_ov (ov_fieldAddr rfl rfl rfl) rfl rfl ?_))
   refine sy_loop (α := Unit) (fun _ => [(0, ptrB b), (5, S []), (38, .int .i64 0), (39, .int .i64 0)]) (fun _ => [blk b3 49 (rawV (.mk 3 a n s pk ck [] p c [])), bld b v' (t ++ q)]) (fun _ => True) (fun _ => 0) () trivial ⟨⟨_, rfl, rfl⟩, ⟨_, rfl, rfl⟩, ⟨_, rfl, rfl⟩, ⟨_, rfl, rfl⟩, trivial⟩ sr ?_
   rintro ⟨⟩ _
   repeat (first | refine sy_k rfl rfl ?_ | (refine gO ?_; refine sy_ov (ov_p rfl) rfl rfl ?_) | (refine sy_cond_f rfl ?_ ?_; (first | with_reducible rfl | assumption | omega | (simp <;> first | omega | assumption))))
   refine sy_works 1 rfl rfl rfl (writeString_w b v' (t ++ q) [] (by first | omega | (simp; done) | (simp; omega)) (by first | omega | (simp; done) | (simp; omega))) ?_
   rintro r e' ⟨rfl, v', rfl⟩
   simp only [List.set_cons_zero, List.set_cons_succ, List.append_nil]
   repeat (refine sy_k rfl rfl ?_)
   exact end0w rfl fun w' hw' => postE hw' [bld b _ (t ++ q)] (sub_self (sd sr)) rfl ⟨rfl, _, rfl⟩
 · rw [show openT 1 n s = s from rfl, show endT 1 = [] from rfl, List.append_nil] at hlen ⊢
   refine sy_enterEw hw0 rfl rfl ?_
   simp only [initFr]
   repeat (first | refine sy_k rfl rfl ?_ | (refine gO ?_; first | refine sy_ov (ov_p rfl) rfl rfl ?_ | (refine gL ?_; refine sy_ov (ov_ld 0 rfl rfl rfl) rfl rfl ?_) | refine sy_ov (ov_fieldAddr rfl rfl rfl) rfl rfl ?_ | (refine sy_box rfl rfl rfl ?_; intro _)) | (refine sy_cond_t rfl ?_ ?_; (first | with_reducible rfl | assumption | omega | (simp <;> first | omega | assumption))) | (refine sy_cond_f rfl ?_ ?_; (first | with_reducible rfl | assumption | omega | (simp <;> first | omega | assumption))))
   rename_i b3
   refine sy_works 1 rfl rfl rfl (writeString_w b v t s (by first | omega | (simp; done) | (simp; omega)) (by first | omega | (simp; done) | (simp; omega))) ?_
   rintro r e' ⟨rfl, v', rfl⟩
   simp only [List.set_cons_zero, List.set_cons_succ]
   repeat (first | refine sy_k rfl rfl ?_ | (refine gO ?_; first | refine sy_ov (ov_p rfl) rfl rfl ?_ | (refine gK ?_; refine sy_ov (ov_lens rfl) rfl rfl ?_) | (refine gL ?_; refine sy_ov (ov_ld 0 rfl rfl rfl) rfl rfl ?_) | refine sy_ov (ov_fieldAddr rfl rfl rfl) rfl rfl ?_))
   refine sy_loop (α := Unit) (fun _ => [(0, ptrB b), (5, S []), (38, .int .i64 0), (39, .int .i64 0)]) (fun _ => [blk b3 49 (rawV (.mk 1 a n s pk ck [] p c [])), bld b v' (t ++ s)]) (fun _ => True) (fun _ => 0) () trivial ⟨⟨_, rfl, rfl⟩, ⟨_, rfl, rfl⟩, ⟨_, rfl, rfl⟩, ⟨_, rfl, rfl⟩, trivial⟩ sr ?_
   rintro ⟨⟩ _
   repeat (first | refine sy_k rfl rfl ?_ | (refine gO ?_; refine sy_ov (ov_p rfl) rfl rfl ?_) | (refine sy_cond_f rfl ?_ ?_; (first | with_reducible rfl | assumption | omega | (simp <;> first | omega | assumption))))
   refine sy_works 1 rfl rfl rfl (writeString_w b v' (t ++ s) [] (by first | omega | (simp; done) | (simp; omega)) (by first | omega | (simp; done) | (simp; omega))) ?_
   rintro r e' ⟨rfl, v', rfl⟩
   simp only [List.set_cons_zero, List.set_cons_succ, List.append_nil]
   repeat (refine sy_k rfl rfl ?_)
   exact end0w rfl fun w' hw' => postE hw' [bld b _ (t ++ s)] (sub_self (sd sr)) rfl ⟨rfl, _, rfl⟩
end Go.Proofs.Ytldjakeigjngoaa
/- Contracts: a value's text, as the program writes it. -/
namespace Go.Proofs.Ytldjakeigjngoaa
open Go.RowKit Bf
structure WSt where
 i : Int
 v : Value
set_option maxRecDepth 20000 in
set_option maxHeartbeats 8000000 in
theorem write_list (k a n : Int) (s : List UInt8) (pk : Option Addr) (ck : Nat) (keys : List WordT) (p : Option Addr) (c : Nat) (kids : List RawA) (hk : k = 6 ∨ k = 4) (hkw : ∀ x ∈ kids, WrSpec x) : WrSpec (.mk k a n s pk ck keys p c kids) := by
 intro b v t hlen w hw0 hJ
 simp only [plR, fmtR] at hlen ⊢
 have hm : kids.length ≤ 9223372036854775807 := (hJ w (Keep.refl _ _)).parts.1.2
 have hst : St (domL [bld b v t]) w (fun w => IsSl w 6 p kids.length (kids.flatMap rawV)) := hJ.imp fun w h => h.parts.2.2.1
 rcases hk with rfl | rfl
 · rw [show openT 6 n s = s ++ [40] from rfl, show endT 6 = [41] from rfl, show decide ((6 : Int) = 5) = false from rfl] at hlen ⊢
   simp only [List.length_append, List.length_cons, List.length_nil] at hlen
   refine sy_enterEw hw0 rfl rfl ?_
   simp only [initFr]
   repeat (first | refine sy_k rfl rfl ?_ | (refine gO ?_; first | refine sy_ov (ov_p rfl) rfl rfl ?_ | (refine gB ?_; (refine sy_ov (ov_cat rfl rfl ?_) rfl rfl ?_; focus (first | omega | (simp <;> omega)))) | (refine gL ?_; refine sy_ov (ov_ld 0 rfl rfl rfl) rfl rfl ?_) | refine sy_ov (ov_fieldAddr rfl rfl rfl) rfl rfl ?_ | (refine sy_box rfl rfl rfl ?_; intro _)) | (refine sy_cond_t rfl ?_ ?_; (first | with_reducible rfl | assumption | omega | (simp <;> first | omega | assumption))) | (refine sy_cond_f rfl ?_ ?_; (first | with_reducible rfl | assumption | omega | (simp <;> first | omega | assumption))))
   rename_i b3
   refine sy_works 1 rfl rfl rfl (writeString_w b v t (s ++ [40]) (by first | omega | (simp; done) | (simp; omega)) (by first | omega | (simp; done) | (simp; omega))) ?_
   rintro r e' ⟨rfl, v', rfl⟩
   simp only [List.set_cons_zero, List.set_cons_succ]
   repeat (first | refine sy_k rfl rfl ?_ | (refine gO ?_; first | refine sy_ov (ov_p rfl) rfl rfl ?_ | (refine gK ?_; refine sy_ov (ov_lens rfl) rfl rfl ?_) | (refine gL ?_; refine sy_ov (ov_ld 0 rfl rfl rfl) rfl rfl ?_) | refine sy_ov (ov_fieldAddr rfl rfl rfl) rfl rfl ?_))
   have e0 : bld b v' (t ++ (s ++ [40])) = bld b v' (t ++ (s ++ [40]) ++ fmtRs false true keys ((plRs kids).take (0 : Int).toNat)) := by simp [fmtRs]
   refine sy_loop (α := WSt) (fun x => [(0, ptrB b), (3, ptrB b3), (5, S [41]), (37, .slice p kids.length c), (38, .int .i64 (kids.length : Int)), (39, .int .i64 x.i)]) (fun x => [blk b3 49 (rawV (.mk 6 a n s pk ck keys p c kids)), bld b x.v (t ++ (s ++ [40]) ++ fmtRs false true keys ((plRs kids).take x.i.toNat))]) (fun x => 0 ≤ x.i ∧ x.i ≤ kids.length) (fun x => (kids.length - x.i).toNat) ⟨0, v'⟩ ⟨Int.le_refl _, by dsimp only; omega⟩ ⟨⟨_, rfl, rfl⟩, ⟨_, rfl, rfl⟩, ⟨_, rfl, rfl⟩, ⟨_, rfl, rfl⟩, ⟨_, rfl, rfl⟩, ⟨_, rfl, rfl⟩, trivial⟩ (by dsimp only; rw [← e0]; exact sr) ?_
   rintro ⟨i, vv⟩ ⟨i0, i1⟩
   dsimp only at i0 i1 ⊢
   obtain ⟨T, hT⟩ : ∃ T, t ++ (s ++ [40]) ++ fmtRs false true keys ((plRs kids).take i.toNat) = T := ⟨_, rfl⟩
   have hTl : T.length ≤ t.length + ((s ++ [40])).length + (fmtRs false true keys (plRs kids)).length := by
    rw [← hT]; simp only [List.length_append]
    have := fmtRs_take false (plRs kids) i.toNat keys
    omega
   rw [hT]
   simp only [List.length_append, List.length_cons, List.length_nil] at hTl
   by_cases hlt : i < kids.length
   · obtain ⟨x, hx⟩ : ∃ x, kids[i.toNat]? = some x := ⟨_, List.getElem?_eq_getElem (by omega)⟩
     have hxm := List.mem_of_getElem? hx
     obtain ⟨bk, off, hp, hat⟩ := hst.addr (by omega)
     subst hp
     have hxj : St (domL [bld b v t]) w (fun w => RawJ w x) := hJ.imp fun w h => h.parts.2.2.2 x hxm
     have hrec := hkw x hxm
     have hpx := plRs_at hx
     have hi1 : (i + 1).toNat = i.toNat + 1 := by omega
     have hstep : T ++ elF false keys i.toNat (plR x) = t ++ (s ++ [40]) ++ fmtRs false true keys ((plRs kids).take (i + 1).toNat) := by
      rw [hi1, fmtRs_step false keys hpx, ← hT]; simp only [List.append_assoc]
     have hTx : T.length + (elF false keys i.toNat (plR x)).length ≤ t.length + ((s ++ [40])).length + (fmtRs false true keys (plRs kids)).length := by
      have h1 := congrArg List.length hstep
      have h2 := fmtRs_take false (plRs kids) (i + 1).toNat keys
      simp only [List.length_append] at h1 ⊢
      omega
     simp only [List.length_append, List.length_cons, List.length_nil] at hTx
     by_cases h0 : i = 0
     · have hel : elF false keys i.toNat (plR x) = fmtR (plR x) := by unfold elF; rw [if_pos (by omega)]; rfl
       rw [hel] at hTx
       repeat (first | refine sy_k rfl rfl ?_ | (refine gO ?_; first | refine sy_ov (ov_p rfl) rfl rfl ?_ | (refine sy_ov (ov_indexAddr rfl rfl ?_ ?_) rfl rfl ?_; omega; omega)) | (refine sy_cond_t rfl ?_ ?_; (first | with_reducible rfl | assumption | omega | (simp <;> first | omega | assumption))))
       refine sy_ov (ov_elem (f := rawV) hat hx rfl rfl rawV_len) rfl rfl ?_
       obtain ⟨xk, xa, xn, xs, xpk, xck, xkeys, xp, xc, xkids⟩ := x
       repeat (first | refine sy_k rfl rfl ?_ | (refine gO ?_; first | refine sy_ov (ov_p rfl) rfl rfl ?_ | (refine gL ?_; first | refine sy_ov (ov_ld 0 rfl rfl rfl) rfl rfl ?_ | refine sy_ov (ov_ld 1 rfl rfl rfl) rfl rfl ?_) | (refine gS ?_; refine sy_store 0 rfl rfl rfl rfl rfl rfl rfl rfl ?_) | refine sy_ov (ov_fieldAddr rfl rfl rfl) rfl rfl ?_ | (refine sy_alloc rfl rfl rfl ?_; intro _)) | (refine sy_cond_f rfl ?_ ?_; (first | with_reducible rfl | assumption | omega | (simp <;> first | omega | assumption))))
       refine sy_front 2 rfl rfl ?_
       simp only [List.eraseIdx_cons_succ, List.eraseIdx_cons_zero]
       refine sy_callEw [bld b _ T] rfl rfl rfl (fun w hw => hrec b _ T (by (try simp only [List.length_append, List.length_cons, List.length_nil]); omega) w hw.self (hxj.callE hw)) ?_
       rintro u es' ⟨rfl, v2, rfl⟩
       simp only [List.cons_append, List.nil_append]
       repeat (first | refine sy_k rfl rfl ?_ | (refine gO ?_; first | refine sy_ov (ov_p rfl) rfl rfl ?_ | (refine gB ?_; (refine sy_ov (ov_ar rfl rfl rfl ?_ ?_) rfl rfl ?_; omega; omega))))
       refine sy_order [2, 0, 1] rfl rfl ?_
       simp only [List.set_cons_zero, List.set_cons_succ, List.filterMap_cons, List.filterMap_nil, List.getElem?_cons_zero, List.getElem?_cons_succ]
       refine sy_back ⟨i + 1, v2⟩ ⟨by dsimp only; omega, by dsimp only; omega⟩ (by dsimp only; omega) ⟨⟨_, rfl, rfl⟩, ⟨_, rfl, rfl⟩, ⟨_, rfl, rfl⟩, ⟨_, rfl, rfl⟩, ⟨_, rfl, rfl⟩, ⟨_, rfl, rfl⟩, trivial⟩ (by dsimp only; rw [← hstep, hel]; (try simp only [List.append_assoc]); exact sk (sk (List.nil_sublist _)))
     · have hel : elF false keys i.toNat (plR x) = [44, 32] ++ fmtR (plR x) := by unfold elF; rw [if_neg (by omega)]; rfl
       rw [hel] at hTx
       simp only [List.length_append, List.length_cons, List.length_nil] at hTx
       repeat (first | refine sy_k rfl rfl ?_ | (refine gO ?_; first | refine sy_ov (ov_p rfl) rfl rfl ?_ | (refine sy_ov (ov_indexAddr rfl rfl ?_ ?_) rfl rfl ?_; omega; omega)) | (refine sy_cond_t rfl ?_ ?_; (first | with_reducible rfl | assumption | omega | (simp <;> first | omega | assumption))))
       refine sy_ov (ov_elem (f := rawV) hat hx rfl rfl rawV_len) rfl rfl ?_
       obtain ⟨xk, xa, xn, xs, xpk, xck, xkeys, xp, xc, xkids⟩ := x
       repeat (first | refine sy_k rfl rfl ?_ | (refine gO ?_; first | refine sy_ov (ov_p rfl) rfl rfl ?_ | (refine gS ?_; refine sy_store 0 rfl rfl rfl rfl rfl rfl rfl rfl ?_) | (refine sy_alloc rfl rfl rfl ?_; intro _)) | (refine sy_cond_t rfl ?_ ?_; (first | with_reducible rfl | assumption | omega | (simp <;> first | omega | assumption))))
       refine sy_works 2 rfl rfl rfl (writeString_w b vv T [44, 32] (by first | omega | (simp; done) | (simp; omega)) (by first | omega | (simp; done) | (simp; omega))) ?_
       rintro r e' ⟨rfl, v', rfl⟩
       simp only [List.set_cons_zero, List.set_cons_succ]
       repeat (first | refine sy_k rfl rfl ?_ | (refine gO ?_; first | refine sy_ov (ov_p rfl) rfl rfl ?_ | (refine gL ?_; first | refine sy_ov (ov_ld 0 rfl rfl rfl) rfl rfl ?_ | refine sy_ov (ov_ld 1 rfl rfl rfl) rfl rfl ?_) | refine sy_ov (ov_fieldAddr rfl rfl rfl) rfl rfl ?_) | (refine sy_cond_f rfl ?_ ?_; (first | with_reducible rfl | assumption | omega | (simp <;> first | omega | assumption))))
       refine sy_front 2 rfl rfl ?_
       simp only [List.eraseIdx_cons_succ, List.eraseIdx_cons_zero]
       refine sy_callEw [bld b _ (T ++ [44, 32])] rfl rfl rfl (fun w hw => hrec b _ (T ++ [44, 32]) (by (try simp only [List.length_append, List.length_cons, List.length_nil]); omega) w hw.self (hxj.callE hw)) ?_
       rintro u es' ⟨rfl, v2, rfl⟩
       simp only [List.cons_append, List.nil_append]
       repeat (first | refine sy_k rfl rfl ?_ | (refine gO ?_; first | refine sy_ov (ov_p rfl) rfl rfl ?_ | (refine gB ?_; (refine sy_ov (ov_ar rfl rfl rfl ?_ ?_) rfl rfl ?_; omega; omega))))
       refine sy_order [2, 0, 1] rfl rfl ?_
       simp only [List.set_cons_zero, List.set_cons_succ, List.filterMap_cons, List.filterMap_nil, List.getElem?_cons_zero, List.getElem?_cons_succ]
       refine sy_back ⟨i + 1, v2⟩ ⟨by dsimp only; omega, by dsimp only; omega⟩ (by dsimp only; omega) ⟨⟨_, rfl, rfl⟩, ⟨_, rfl, rfl⟩, ⟨_, rfl, rfl⟩, ⟨_, rfl, rfl⟩, ⟨_, rfl, rfl⟩, ⟨_, rfl, rfl⟩, trivial⟩ (by dsimp only; rw [← hstep, hel]; (try simp only [List.append_assoc]); exact sk (sk (List.nil_sublist _)))
   · have hall : (plRs kids).take i.toNat = plRs kids := by rw [List.take_of_length_le]; rw [plRs_len]; omega
     rw [hall] at hT
     repeat (first | refine sy_k rfl rfl ?_ | (refine gO ?_; refine sy_ov (ov_p rfl) rfl rfl ?_) | (refine sy_cond_f rfl ?_ ?_; (first | with_reducible rfl | assumption | omega | (simp <;> first | omega | assumption))))
     refine sy_works 1 rfl rfl rfl (writeString_w b vv T [41] (by first | omega | (simp; done) | (simp; omega)) (by first | omega | (simp; done) | (simp; omega))) ?_
     rintro r e' ⟨rfl, v', rfl⟩
     simp only [List.set_cons_zero, List.set_cons_succ]
     repeat (refine sy_k rfl rfl ?_)
     refine end0w rfl fun w' hw' => postE hw' [bld b v' (T ++ [41])] (sub_self (sd sr)) rfl ⟨rfl, v', ?_⟩
     rw [← hT]; simp only [List.append_assoc]
 · rw [show openT 4 n s = [91] from rfl, show endT 4 = [93] from rfl, show decide ((4 : Int) = 5) = false from rfl] at hlen ⊢
   simp only [List.length_append, List.length_cons, List.length_nil] at hlen
   refine sy_enterEw hw0 rfl rfl ?_
   simp only [initFr]
   repeat (first | refine sy_k rfl rfl ?_ | (refine gO ?_; first | refine sy_ov (ov_p rfl) rfl rfl ?_ | (refine gL ?_; refine sy_ov (ov_ld 0 rfl rfl rfl) rfl rfl ?_) | refine sy_ov (ov_fieldAddr rfl rfl rfl) rfl rfl ?_ | (refine sy_box rfl rfl rfl ?_; intro _)) | (refine sy_cond_t rfl ?_ ?_; (first | with_reducible rfl | assumption | omega | (simp <;> first | omega | assumption))) | (refine sy_cond_f rfl ?_ ?_; (first | with_reducible rfl | assumption | omega | (simp <;> first | omega | assumption))))
   rename_i b3
   refine sy_works 1 rfl rfl rfl (writeString_w b v t [91] (by first | omega | (simp; done) | (simp; omega)) (by first | omega | (simp; done) | (simp; omega))) ?_
   rintro r e' ⟨rfl, v', rfl⟩
   simp only [List.set_cons_zero, List.set_cons_succ]
   repeat (first | refine sy_k rfl rfl ?_ | (refine gO ?_; first | refine sy_ov (ov_p rfl) rfl rfl ?_ | (refine gK ?_; refine sy_ov (ov_lens rfl) rfl rfl ?_) | (refine gL ?_; refine sy_ov (ov_ld 0 rfl rfl rfl) rfl rfl ?_) | refine sy_ov (ov_fieldAddr rfl rfl rfl) rfl rfl ?_))
   have e0 : bld b v' (t ++ [91]) = bld b v' (t ++ [91] ++ fmtRs false true keys ((plRs kids).take (0 : Int).toNat)) := by simp [fmtRs]
   refine sy_loop (α := WSt) (fun x => [(0, ptrB b), (3, ptrB b3), (5, S [93]), (37, .slice p kids.length c), (38, .int .i64 (kids.length : Int)), (39, .int .i64 x.i)]) (fun x => [blk b3 49 (rawV (.mk 4 a n s pk ck keys p c kids)), bld b x.v (t ++ [91] ++ fmtRs false true keys ((plRs kids).take x.i.toNat))]) (fun x => 0 ≤ x.i ∧ x.i ≤ kids.length) (fun x => (kids.length - x.i).toNat) ⟨0, v'⟩ ⟨Int.le_refl _, by dsimp only; omega⟩ ⟨⟨_, rfl, rfl⟩, ⟨_, rfl, rfl⟩, ⟨_, rfl, rfl⟩, ⟨_, rfl, rfl⟩, ⟨_, rfl, rfl⟩, ⟨_, rfl, rfl⟩, trivial⟩ (by dsimp only; rw [← e0]; exact sr) ?_
   rintro ⟨i, vv⟩ ⟨i0, i1⟩
   dsimp only at i0 i1 ⊢
   obtain ⟨T, hT⟩ : ∃ T, t ++ [91] ++ fmtRs false true keys ((plRs kids).take i.toNat) = T := ⟨_, rfl⟩
   have hTl : T.length ≤ t.length + ([91]).length + (fmtRs false true keys (plRs kids)).length := by
    rw [← hT]; simp only [List.length_append]
    have := fmtRs_take false (plRs kids) i.toNat keys
    omega
   rw [hT]
   simp only [List.length_append, List.length_cons, List.length_nil] at hTl
   by_cases hlt : i < kids.length
   · obtain ⟨x, hx⟩ : ∃ x, kids[i.toNat]? = some x := ⟨_, List.getElem?_eq_getElem (by omega)⟩
     have hxm := List.mem_of_getElem? hx
     obtain ⟨bk, off, hp, hat⟩ := hst.addr (by omega)
     subst hp
     have hxj : St (domL [bld b v t]) w (fun w => RawJ w x) := hJ.imp fun w h => h.parts.2.2.2 x hxm
     have hrec := hkw x hxm
     have hpx := plRs_at hx
     have hi1 : (i + 1).toNat = i.toNat + 1 := by omega
     have hstep : T ++ elF false keys i.toNat (plR x) = t ++ [91] ++ fmtRs false true keys ((plRs kids).take (i + 1).toNat) := by
      rw [hi1, fmtRs_step false keys hpx, ← hT]; simp only [List.append_assoc]
     have hTx : T.length + (elF false keys i.toNat (plR x)).length ≤ t.length + ([91]).length + (fmtRs false true keys (plRs kids)).length := by
      have h1 := congrArg List.length hstep
      have h2 := fmtRs_take false (plRs kids) (i + 1).toNat keys
      simp only [List.length_append] at h1 ⊢
      omega
     simp only [List.length_append, List.length_cons, List.length_nil] at hTx
     by_cases h0 : i = 0
     · have hel : elF false keys i.toNat (plR x) = fmtR (plR x) := by unfold elF; rw [if_pos (by omega)]; rfl
       rw [hel] at hTx
       repeat (first | refine sy_k rfl rfl ?_ | (refine gO ?_; first | refine sy_ov (ov_p rfl) rfl rfl ?_ | (refine sy_ov (ov_indexAddr rfl rfl ?_ ?_) rfl rfl ?_; omega; omega)) | (refine sy_cond_t rfl ?_ ?_; (first | with_reducible rfl | assumption | omega | (simp <;> first | omega | assumption))))
       refine sy_ov (ov_elem (f := rawV) hat hx rfl rfl rawV_len) rfl rfl ?_
       obtain ⟨xk, xa, xn, xs, xpk, xck, xkeys, xp, xc, xkids⟩ := x
       repeat (first | refine sy_k rfl rfl ?_ | (refine gO ?_; first | refine sy_ov (ov_p rfl) rfl rfl ?_ | (refine gL ?_; first | refine sy_ov (ov_ld 0 rfl rfl rfl) rfl rfl ?_ | refine sy_ov (ov_ld 1 rfl rfl rfl) rfl rfl ?_) | (refine gS ?_; refine sy_store 0 rfl rfl rfl rfl rfl rfl rfl rfl ?_) | refine sy_ov (ov_fieldAddr rfl rfl rfl) rfl rfl ?_ | (refine sy_alloc rfl rfl rfl ?_; intro _)) | (refine sy_cond_f rfl ?_ ?_; (first | with_reducible rfl | assumption | omega | (simp <;> first | omega | assumption))))
       refine sy_front 2 rfl rfl ?_
       simp only [List.eraseIdx_cons_succ, List.eraseIdx_cons_zero]
       refine sy_callEw [bld b _ T] rfl rfl rfl (fun w hw => hrec b _ T (by (try simp only [List.length_append, List.length_cons, List.length_nil]); omega) w hw.self (hxj.callE hw)) ?_
       rintro u es' ⟨rfl, v2, rfl⟩
       simp only [List.cons_append, List.nil_append]
       repeat (first | refine sy_k rfl rfl ?_ | (refine gO ?_; first | refine sy_ov (ov_p rfl) rfl rfl ?_ | (refine gB ?_; (refine sy_ov (ov_ar rfl rfl rfl ?_ ?_) rfl rfl ?_; omega; omega))))
       refine sy_order [2, 0, 1] rfl rfl ?_
       simp only [List.set_cons_zero, List.set_cons_succ, List.filterMap_cons, List.filterMap_nil, List.getElem?_cons_zero, List.getElem?_cons_succ]
       refine sy_back ⟨i + 1, v2⟩ ⟨by dsimp only; omega, by dsimp only; omega⟩ (by dsimp only; omega) ⟨⟨_, rfl, rfl⟩, ⟨_, rfl, rfl⟩, ⟨_, rfl, rfl⟩, ⟨_, rfl, rfl⟩, ⟨_, rfl, rfl⟩, ⟨_, rfl, rfl⟩, trivial⟩ (by dsimp only; rw [← hstep, hel]; (try simp only [List.append_assoc]); exact sk (sk (List.nil_sublist _)))
     · have hel : elF false keys i.toNat (plR x) = [44, 32] ++ fmtR (plR x) := by unfold elF; rw [if_neg (by omega)]; rfl
       rw [hel] at hTx
       simp only [List.length_append, List.length_cons, List.length_nil] at hTx
       repeat (first | refine sy_k rfl rfl ?_ | (refine gO ?_; first | refine sy_ov (ov_p rfl) rfl rfl ?_ | (refine sy_ov (ov_indexAddr rfl rfl ?_ ?_) rfl rfl ?_; omega; omega)) | (refine sy_cond_t rfl ?_ ?_; (first | with_reducible rfl | assumption | omega | (simp <;> first | omega | assumption))))
       refine sy_ov (ov_elem (f := rawV) hat hx rfl rfl rawV_len) rfl rfl ?_
       obtain ⟨xk, xa, xn, xs, xpk, xck, xkeys, xp, xc, xkids⟩ := x
       repeat (first | refine sy_k rfl rfl ?_ | (refine gO ?_; first | refine sy_ov (ov_p rfl) rfl rfl ?_ | (refine gS ?_; refine sy_store 0 rfl rfl rfl rfl rfl rfl rfl rfl ?_) | (refine sy_alloc rfl rfl rfl ?_; intro _)) | (refine sy_cond_t rfl ?_ ?_; (first | with_reducible rfl | assumption | omega | (simp <;> first | omega | assumption))))
       refine sy_works 2 rfl rfl rfl (writeString_w b vv T [44, 32] (by first | omega | (simp; done) | (simp; omega)) (by first | omega | (simp; done) | (simp; omega))) ?_
       rintro r e' ⟨rfl, v', rfl⟩
       simp only [List.set_cons_zero, List.set_cons_succ]
       repeat (first | refine sy_k rfl rfl ?_ | (refine gO ?_; first | refine sy_ov (ov_p rfl) rfl rfl ?_ | (refine gL ?_; first | refine sy_ov (ov_ld 0 rfl rfl rfl) rfl rfl ?_ | refine sy_ov (ov_ld 1 rfl rfl rfl) rfl rfl ?_) | refine sy_ov (ov_fieldAddr rfl rfl rfl) rfl rfl ?_) | (refine sy_cond_f rfl ?_ ?_; (first | with_reducible rfl | assumption | omega | (simp <;> first | omega | assumption))))
       refine sy_front 2 rfl rfl ?_
       simp only [List.eraseIdx_cons_succ, List.eraseIdx_cons_zero]
       refine sy_callEw [bld b _ (T ++ [44, 32])] rfl rfl rfl (fun w hw => hrec b _ (T ++ [44, 32]) (by (try simp only [List.length_append, List.length_cons, List.length_nil]); omega) w hw.self (hxj.callE hw)) ?_
       rintro u es' ⟨rfl, v2, rfl⟩
       simp only [List.cons_append, List.nil_append]
       repeat (first | refine sy_k rfl rfl ?_ | (refine gO ?_; first | refine sy_ov (ov_p rfl) rfl rfl ?_ | (refine gB ?_; (refine sy_ov (ov_ar rfl rfl rfl ?_ ?_) rfl rfl ?_; omega; omega))))
       refine sy_order [2, 0, 1] rfl rfl ?_
       simp only [List.set_cons_zero, List.set_cons_succ, List.filterMap_cons, List.filterMap_nil, List.getElem?_cons_zero, List.getElem?_cons_succ]
       refine sy_back ⟨i + 1, v2⟩ ⟨by dsimp only; omega, by dsimp only; omega⟩ (by dsimp only; omega) ⟨⟨_, rfl, rfl⟩, ⟨_, rfl, rfl⟩, ⟨_, rfl, rfl⟩, ⟨_, rfl, rfl⟩, ⟨_, rfl, rfl⟩, ⟨_, rfl, rfl⟩, trivial⟩ (by dsimp only; rw [← hstep, hel]; (try simp only [List.append_assoc]); exact sk (sk (List.nil_sublist _)))
   · have hall : (plRs kids).take i.toNat = plRs kids := by rw [List.take_of_length_le]; rw [plRs_len]; omega
     rw [hall] at hT
     repeat (first | refine sy_k rfl rfl ?_ | (refine gO ?_; refine sy_ov (ov_p rfl) rfl rfl ?_) | (refine sy_cond_f rfl ?_ ?_; (first | with_reducible rfl | assumption | omega | (simp <;> first | omega | assumption))))
     refine sy_works 1 rfl rfl rfl (writeString_w b vv T [93] (by first | omega | (simp; done) | (simp; omega)) (by first | omega | (simp; done) | (simp; omega))) ?_
     rintro r e' ⟨rfl, v', rfl⟩
     simp only [List.set_cons_zero, List.set_cons_succ]
     repeat (refine sy_k rfl rfl ?_)
     refine end0w rfl fun w' hw' => postE hw' [bld b v' (T ++ [93])] (sub_self (sd sr)) rfl ⟨rfl, v', ?_⟩
     rw [← hT]; simp only [List.append_assoc]
set_option maxRecDepth 20000 in
set_option maxHeartbeats 8000000 in
theorem write_rec (a n : Int) (s : List UInt8) (pk : Option Addr) (ck : Nat) (keys : List WordT) (p : Option Addr) (c : Nat) (kids : List RawA) (hkk : keys.length = kids.length) (hkw : ∀ x ∈ kids, WrSpec x) : WrSpec (.mk 5 a n s pk ck keys p c kids) := by
 intro b v t hlen w hw0 hJ
 simp only [plR, fmtR] at hlen ⊢
 have hm : kids.length ≤ 9223372036854775807 := (hJ w (Keep.refl _ _)).parts.1.2
 have hst : St (domL [bld b v t]) w (fun w => IsSl w 6 p kids.length (kids.flatMap rawV)) := hJ.imp fun w h => h.parts.2.2.1
 have hsw : St (domL [bld b v t]) w (fun w => IsSl w 2 pk keys.length (keys.flatMap wordV)) := hJ.imp fun w h => h.parts.2.1
 rw [show openT 5 n s = [123] from rfl, show endT 5 = [125] from rfl, show decide True = true from rfl] at hlen ⊢
 simp only [List.length_append, List.length_cons, List.length_nil] at hlen
 refine sy_enterEw hw0 rfl rfl ?_
 simp only [initFr]
 repeat (first | refine sy_k rfl rfl ?_ | (refine gO ?_; first | refine sy_ov (ov_p rfl) rfl rfl ?_ | (refine gL ?_; refine sy_ov (ov_ld 0 rfl rfl rfl) rfl rfl ?_) | refine sy_ov (ov_fieldAddr rfl rfl rfl) rfl rfl ?_ | (refine sy_box rfl rfl rfl ?_; intro _)) | (refine sy_cond_t rfl ?_ ?_; (first | with_reducible rfl | assumption | omega | (simp <;> first | omega | assumption))) | (refine sy_cond_f rfl ?_ ?_; (first | with_reducible rfl | assumption | omega | (simp <;> first | omega | assumption))))
 rename_i b3
 refine sy_works 1 rfl rfl rfl (writeString_w b v t [123] (by first | omega | (simp; done) | (simp; omega)) (by first | omega | (simp; done) | (simp; omega))) ?_
 rintro r e' ⟨rfl, v', rfl⟩
 simp only [List.set_cons_zero, List.set_cons_succ]
 repeat (first | refine sy_k rfl rfl ?_ | (refine gO ?_; first | refine sy_ov (ov_p rfl) rfl rfl ?_ | (refine gK ?_; refine sy_ov (ov_lens rfl) rfl rfl ?_) | (refine gL ?_; refine sy_ov (ov_ld 0 rfl rfl rfl) rfl rfl ?_) | refine sy_ov (ov_fieldAddr rfl rfl rfl) rfl rfl ?_))
 have e0 : bld b v' (t ++ [123]) = bld b v' (t ++ [123] ++ fmtRs true true keys ((plRs kids).take (0 : Int).toNat)) := by simp [fmtRs]
 refine sy_loop (α := WSt) (fun x => [(0, ptrB b), (3, ptrB b3), (5, S [125]), (37, .slice p kids.length c), (38, .int .i64 (kids.length : Int)), (39, .int .i64 x.i)]) (fun x => [blk b3 49 (rawV (.mk 5 a n s pk ck keys p c kids)), bld b x.v (t ++ [123] ++ fmtRs true true keys ((plRs kids).take x.i.toNat))]) (fun x => 0 ≤ x.i ∧ x.i ≤ kids.length) (fun x => (kids.length - x.i).toNat) ⟨0, v'⟩ ⟨Int.le_refl _, by dsimp only; omega⟩ ⟨⟨_, rfl, rfl⟩, ⟨_, rfl, rfl⟩, ⟨_, rfl, rfl⟩, ⟨_, rfl, rfl⟩, ⟨_, rfl, rfl⟩, ⟨_, rfl, rfl⟩, trivial⟩ (by dsimp only; rw [← e0]; exact sr) ?_
 rintro ⟨i, vv⟩ ⟨i0, i1⟩
 dsimp only at i0 i1 ⊢
 obtain ⟨T, hT⟩ : ∃ T, t ++ [123] ++ fmtRs true true keys ((plRs kids).take i.toNat) = T := ⟨_, rfl⟩
 have hTl : T.length ≤ t.length + ([123]).length + (fmtRs true true keys (plRs kids)).length := by
  rw [← hT]; simp only [List.length_append]
  have := fmtRs_take true (plRs kids) i.toNat keys
  omega
 rw [hT]
 simp only [List.length_append, List.length_cons, List.length_nil] at hTl
 by_cases hlt : i < kids.length
 · obtain ⟨x, hx⟩ : ∃ x, kids[i.toNat]? = some x := ⟨_, List.getElem?_eq_getElem (by omega)⟩
   have hxm := List.mem_of_getElem? hx
   obtain ⟨bk, off, hp, hat⟩ := hst.addr (by omega)
   subst hp
   have hxj : St (domL [bld b v t]) w (fun w => RawJ w x) := hJ.imp fun w h => h.parts.2.2.2 x hxm
   have hrec := hkw x hxm
   have hpx := plRs_at hx
   have hi1 : (i + 1).toNat = i.toNat + 1 := by omega
   have hstep : T ++ elF true keys i.toNat (plR x) = t ++ [123] ++ fmtRs true true keys ((plRs kids).take (i + 1).toNat) := by
    rw [hi1, fmtRs_step true keys hpx, ← hT]; simp only [List.append_assoc]
   have hTx : T.length + (elF true keys i.toNat (plR x)).length ≤ t.length + ([123]).length + (fmtRs true true keys (plRs kids)).length := by
    have h1 := congrArg List.length hstep
    have h2 := fmtRs_take true (plRs kids) (i + 1).toNat keys
    simp only [List.length_append] at h1 ⊢
    omega
   simp only [List.length_append, List.length_cons, List.length_nil] at hTx
   obtain ⟨y, hy⟩ : ∃ y, keys[i.toNat]? = some y := ⟨_, List.getElem?_eq_getElem (by omega)⟩
   have hyd : keys.getD i.toNat ([], 0) = y := by rw [List.getD_eq_getElem?_getD, hy]; rfl
   obtain ⟨y1, y2⟩ := y
   obtain ⟨bq, offq, hpq, hatk⟩ := hsw.addr (by omega)
   subst hpq
   by_cases h0 : i = 0
   · have hel : elF true keys i.toNat (plR x) = y1 ++ [58, 32] ++ fmtR (plR x) := by unfold elF; rw [if_pos (by omega), hyd]; rfl
     rw [hel] at hTx
     simp only [List.length_append, List.length_cons, List.length_nil] at hTx
     repeat (first | refine sy_k rfl rfl ?_ | (refine gO ?_; first | refine sy_ov (ov_p rfl) rfl rfl ?_ | (refine sy_ov (ov_indexAddr rfl rfl ?_ ?_) rfl rfl ?_; omega; omega)) | (refine sy_cond_t rfl ?_ ?_; (first | with_reducible rfl | assumption | omega | (simp <;> first | omega | assumption))))
     refine sy_ov (ov_elem (f := rawV) hat hx rfl rfl rawV_len) rfl rfl ?_
     obtain ⟨xk, xa, xn, xs, xpk, xck, xkeys, xp, xc, xkids⟩ := x
     repeat (first | refine sy_k rfl rfl ?_ | (refine gO ?_; first | refine sy_ov (ov_p rfl) rfl rfl ?_ | (refine gL ?_; refine sy_ov (ov_ld 1 rfl rfl rfl) rfl rfl ?_) | (refine gS ?_; refine sy_store 0 rfl rfl rfl rfl rfl rfl rfl rfl ?_) | refine sy_ov (ov_fieldAddr rfl rfl rfl) rfl rfl ?_ | (refine sy_ov (ov_indexAddr rfl rfl ?_ ?_) rfl rfl ?_; omega; omega) | (refine sy_alloc rfl rfl rfl ?_; intro _)) | (refine sy_cond_t rfl ?_ ?_; (first | with_reducible rfl | assumption | omega | (simp <;> first | omega | assumption))) | (refine sy_cond_f rfl ?_ ?_; (first | with_reducible rfl | assumption | omega | (simp <;> first | omega | assumption))))
     refine sy_ov (ov_cell0 (f := wordV) hatk hy rfl rfl rfl (fun _ => rfl)) rfl rfl ?_
     repeat ((refine gO ?_; (refine gB ?_; (refine sy_ov (ov_cat rfl rfl ?_) rfl rfl ?_; focus (first | omega | (simp <;> omega))))))
     refine sy_works 2 rfl rfl rfl (writeString_w b _ T (y1 ++ [58, 32]) (by first | omega | (simp; done) | (simp; omega)) (by first | omega | (simp; done) | (simp; omega))) ?_
     rintro r e' ⟨rfl, v', rfl⟩
     simp only [List.set_cons_zero, List.set_cons_succ]
     repeat (first | refine sy_k rfl rfl ?_ | (refine gO ?_; first | refine sy_ov (ov_p rfl) rfl rfl ?_ | (refine gL ?_; refine sy_ov (ov_ld 0 rfl rfl rfl) rfl rfl ?_)))
     refine sy_front 2 rfl rfl ?_
     simp only [List.eraseIdx_cons_succ, List.eraseIdx_cons_zero]
     refine sy_callEw [bld b _ (T ++ (y1 ++ [58, 32]))] rfl rfl rfl (fun w hw => hrec b _ (T ++ (y1 ++ [58, 32])) (by (try simp only [List.length_append, List.length_cons, List.length_nil]); omega) w hw.self (hxj.callE hw)) ?_
     rintro u es' ⟨rfl, v2, rfl⟩
     simp only [List.cons_append, List.nil_append]
     repeat (first | refine sy_k rfl rfl ?_ | (refine gO ?_; first | refine sy_ov (ov_p rfl) rfl rfl ?_ | (refine gB ?_; (refine sy_ov (ov_ar rfl rfl rfl ?_ ?_) rfl rfl ?_; omega; omega))))
     refine sy_order [2, 0, 1] rfl rfl ?_
     simp only [List.set_cons_zero, List.set_cons_succ, List.filterMap_cons, List.filterMap_nil, List.getElem?_cons_zero, List.getElem?_cons_succ]
     refine sy_back ⟨i + 1, v2⟩ ⟨by dsimp only; omega, by dsimp only; omega⟩ (by dsimp only; omega) ⟨⟨_, rfl, rfl⟩, ⟨_, rfl, rfl⟩, ⟨_, rfl, rfl⟩, ⟨_, rfl, rfl⟩, ⟨_, rfl, rfl⟩, ⟨_, rfl, rfl⟩, trivial⟩ (by dsimp only; rw [← hstep, hel]; (try simp only [List.append_assoc]); exact sk (sk (List.nil_sublist _)))
   · have hel : elF true keys i.toNat (plR x) = [44, 32] ++ (y1 ++ [58, 32] ++ fmtR (plR x)) := by unfold elF; rw [if_neg (by omega), hyd]; rfl
     rw [hel] at hTx
     simp only [List.length_append, List.length_cons, List.length_nil] at hTx
     repeat (first | refine sy_k rfl rfl ?_ | (refine gO ?_; first | refine sy_ov (ov_p rfl) rfl rfl ?_ | (refine sy_ov (ov_indexAddr rfl rfl ?_ ?_) rfl rfl ?_; omega; omega)) | (refine sy_cond_t rfl ?_ ?_; (first | with_reducible rfl | assumption | omega | (simp <;> first | omega | assumption))))
     refine sy_ov (ov_elem (f := rawV) hat hx rfl rfl rawV_len) rfl rfl ?_
     obtain ⟨xk, xa, xn, xs, xpk, xck, xkeys, xp, xc, xkids⟩ := x
     repeat (first | refine sy_k rfl rfl ?_ | (refine gO ?_; first | refine sy_ov (ov_p rfl) rfl rfl ?_ | (refine gS ?_; refine sy_store 0 rfl rfl rfl rfl rfl rfl rfl rfl ?_) | (refine sy_alloc rfl rfl rfl ?_; intro _)) | (refine sy_cond_t rfl ?_ ?_; (first | with_reducible rfl | assumption | omega | (simp <;> first | omega | assumption))))
     refine sy_works 2 rfl rfl rfl (writeString_w b vv T [44, 32] (by first | omega | (simp; done) | (simp; omega)) (by first | omega | (simp; done) | (simp; omega))) ?_
     rintro r e' ⟨rfl, v', rfl⟩
     simp only [List.set_cons_zero, List.set_cons_succ]
     repeat (first | refine sy_k rfl rfl ?_ | (refine gO ?_; first | refine sy_ov (ov_p rfl) rfl rfl ?_ | (refine gL ?_; refine sy_ov (ov_ld 1 rfl rfl rfl) rfl rfl ?_) | refine sy_ov (ov_fieldAddr rfl rfl rfl) rfl rfl ?_ | (refine sy_ov (ov_indexAddr rfl rfl ?_ ?_) rfl rfl ?_; omega; omega)) | (refine sy_cond_t rfl ?_ ?_; (first | with_reducible rfl | assumption | omega | (simp <;> first | omega | assumption))))
     refine sy_ov (ov_cell0 (f := wordV) hatk hy rfl rfl rfl (fun _ => rfl)) rfl rfl ?_
     repeat ((refine gO ?_; (refine gB ?_; (refine sy_ov (ov_cat rfl rfl ?_) rfl rfl ?_; focus (first | omega | (simp <;> omega))))))
     refine sy_works 2 rfl rfl rfl (writeString_w b _ (T ++ [44, 32]) (y1 ++ [58, 32]) (by first | omega | (simp; done) | (simp; omega)) (by first | omega | (simp; done) | (simp; omega))) ?_
     rintro r e' ⟨rfl, v', rfl⟩
     simp only [List.set_cons_zero, List.set_cons_succ]
     repeat (first | refine sy_k rfl rfl ?_ | (refine gO ?_; first | refine sy_ov (ov_p rfl) rfl rfl ?_ | (refine gL ?_; refine sy_ov (ov_ld 0 rfl rfl rfl) rfl rfl ?_)))
     refine sy_front 2 rfl rfl ?_
     simp only [List.eraseIdx_cons_succ, List.eraseIdx_cons_zero]
     refine sy_callEw [bld b _ (T ++ [44, 32] ++ (y1 ++ [58, 32]))] rfl rfl rfl (fun w hw => hrec b _ (T ++ [44, 32] ++ (y1 ++ [58, 32])) (by (try simp only [List.length_append, List.length_cons, List.length_nil]); omega) w hw.self (hxj.callE hw)) ?_
     rintro u es' ⟨rfl, v2, rfl⟩
     simp only [List.cons_append, List.nil_append]
     repeat (first | refine sy_k rfl rfl ?_ | (refine gO ?_; first | refine sy_ov (ov_p rfl) rfl rfl ?_ | (refine gB ?_; (refine sy_ov (ov_ar rfl rfl rfl ?_ ?_) rfl rfl ?_; omega; omega))))
     refine sy_order [2, 0, 1] rfl rfl ?_
     simp only [List.set_cons_zero, List.set_cons_succ, List.filterMap_cons, List.filterMap_nil, List.getElem?_cons_zero, List.getElem?_cons_succ]
     refine sy_back ⟨i + 1, v2⟩ ⟨by dsimp only; omega, by dsimp only; omega⟩ (by dsimp only; omega) ⟨⟨_, rfl, rfl⟩, ⟨_, rfl, rfl⟩, ⟨_, rfl, rfl⟩, ⟨_, rfl, rfl⟩, ⟨_, rfl, rfl⟩, ⟨_, rfl, rfl⟩, trivial⟩ (by dsimp only; rw [← hstep, hel]; (try simp only [List.append_assoc]); exact sk (sk (List.nil_sublist _)))
 · have hall : (plRs kids).take i.toNat = plRs kids := by rw [List.take_of_length_le]; rw [plRs_len]; omega
   rw [hall] at hT
   repeat (first | refine sy_k rfl rfl ?_ | (refine gO ?_; refine sy_ov (ov_p rfl) rfl rfl ?_) | (refine sy_cond_f rfl ?_ ?_; (first | with_reducible rfl | assumption | omega | (simp <;> first | omega | assumption))))
   refine sy_works 1 rfl rfl rfl (writeString_w b vv T [125] (by first | omega | (simp; done) | (simp; omega)) (by first | omega | (simp; done) | (simp; omega))) ?_
   rintro r e' ⟨rfl, v', rfl⟩
   simp only [List.set_cons_zero, List.set_cons_succ]
   repeat (refine sy_k rfl rfl ?_)
   refine end0w rfl fun w' hw' => postE hw' [bld b v' (T ++ [125])] (sub_self (sd sr)) rfl ⟨rfl, v', ?_⟩
   rw [← hT]; simp only [List.append_assoc]
mutual
def i64R : RawP → Prop
 | .mk _ _ n _ _ kids => I64 n ∧ i64Rs kids
def i64Rs : List RawP → Prop
 | [] => True
 | x :: l => i64R x ∧ i64Rs l
end
theorem i64Rs_at : ∀ {l : List RawP} {i : Nat} {x : RawP}, i64Rs l → l[i]? = some x → i64R x
 | y :: l, 0, x, h, hx => by simp at hx; subst hx; exact h.1
 | y :: l, i + 1, x, h, hx => i64Rs_at h.2 (by simpa using hx)
theorem plRs_mem {l : List RawA} {x : RawA} (h : x ∈ l) : ∃ i : Nat, (plRs l)[i]? = some (plR x) := by
 obtain ⟨i, hi⟩ := List.mem_iff_getElem?.1 h
 exact ⟨i, plRs_at hi⟩
theorem write23_c : ∀ (m : Nat) (z : RawA), SizeOf.sizeOf z ≤ m → allR (plR z) = true → lnR 4000000000000 (plR z) → i64R (plR z) → WrSpec z := by
 intro m
 induction m with
 | zero => intro z hz; cases z; simp at hz
 | succ m ih =>
  intro z hz ha hl hi
  obtain ⟨k, a, n, s, pk, ck, keys, p, c, kids⟩ := z
  have hl' : s.length ≤ 4000000000000 ∧ (∀ x ∈ keys, x.1.length ≤ 4000000000000) ∧ lnRs 4000000000000 (plRs kids) := hl
  have hi' : I64 n ∧ i64Rs (plRs kids) := hi
  have ha' : (ownR k n s keys (plRs kids).length && allRs (plRs kids)) = true := ha
  rw [plRs_len, Bool.and_eq_true] at ha'
  have hkw : ∀ x ∈ kids, WrSpec x := fun x hx => by
   obtain ⟨i, hpx⟩ := plRs_mem hx
   exact ih x (by have := sizeR_kid (k := k) (a := a) (n := n) (s := s) (pk := pk) (ck := ck) (keys := keys) (p := p) (c := c) hx; omega) (allRs_at ha'.2 hpx) (lnRs_at hl'.2.2 hpx) (i64Rs_at hi'.2 hpx)
  have ho := ha'.1
  unfold ownR at ho
  by_cases k2 : k = 2
  · rw [if_pos k2] at ho
    simp only [Bool.and_eq_true, decide_eq_true_eq] at ho
    obtain rfl := len_nil ho.1.2
    obtain rfl := len_nil ho.2
    exact write_leaf k a n s pk ck p c (.inl k2) hi'.1 hl'.1
  · rw [if_neg k2] at ho
    by_cases k3 : k = 3
    · rw [if_pos k3] at ho
      simp only [Bool.and_eq_true, decide_eq_true_eq] at ho
      obtain rfl := len_nil ho.1.2
      obtain rfl := len_nil ho.2
      exact write_leaf k a n s pk ck p c (.inr (.inl k3)) hi'.1 hl'.1
    · rw [if_neg k3] at ho
      by_cases k1 : k = 1
      · rw [if_pos k1] at ho
        simp only [Bool.and_eq_true, decide_eq_true_eq] at ho
        obtain rfl := len_nil ho.1.1.2
        obtain rfl := len_nil ho.1.2
        exact write_leaf k a n s pk ck p c (.inr (.inr k1)) hi'.1 hl'.1
      · rw [if_neg k1] at ho
        by_cases k6 : k = 6
        · exact write_list k a n s pk ck keys p c kids (.inl k6) hkw
        · rw [if_neg k6] at ho
          by_cases k4 : k = 4
          · exact write_list k a n s pk ck keys p c kids (.inr k4) hkw
          · rw [if_neg k4] at ho
            by_cases k5 : k = 5
            · rw [if_pos k5] at ho
              simp only [Bool.and_eq_true, decide_eq_true_eq] at ho
              subst k5
              exact write_rec a n s pk ck keys p c kids ho.1.2 hkw
            · rw [if_neg k5] at ho; cases ho
def fmt23 (v : RawP) : List UInt8 := if rightR v = true then fmtR v else []
theorem lnR_le {b c : Nat} (h : b ≤ c) : ∀ (m : Nat) (v : RawP), SizeOf.sizeOf v ≤ m → lnR b v → lnR c v := by
 intro m
 induction m with
 | zero => intro v hv; cases v; simp at hv
 | succ m ih =>
  intro v hv hl
  obtain ⟨k, a, n, s, keys, kids⟩ := v
  simp only [lnR] at hl ⊢
  refine ⟨by omega, fun x hx => Nat.le_trans (hl.2.1 x hx) h, ?_⟩
  have : ∀ (l : List RawP), SizeOf.sizeOf l ≤ m → lnRs b l → lnRs c l := by
   intro l
   induction l with
   | nil => intro _ _; trivial
   | cons y l ihl => intro hs hy; simp only [List.cons.sizeOf_spec] at hs; exact ⟨ih y (by omega) hy.1, ihl (by omega) hy.2⟩
  exact this kids (by simp at hv; omega) hl.2.2
set_option maxRecDepth 20000 in
set_option maxHeartbeats 4000000 in
theorem format23_c (z : RawA) (o : List UInt8) (ho : fmt23 (plR z) = o) (hl : lnR 4000000000000 (plR z)) (hi : i64R (plR z)) (hlen : o.length ≤ 60000000000000) (w : World) (hw0 : RawJ w z) : Calls Try.prog 43 #[.agg ⟨rawV z⟩] w fun e w' => e = .returned (S o) ∧ Below w.heap.size w w' := by
 have hJ : St (fun _ => False) w (fun w => RawJ w z) := St.start (RawJ.bl z) hw0
 have hr := fun r hr w h => right23_c z r hr (lnR_le (by decide) _ _ (Nat.le_refl _) hl) w h
 have hwr := write23_c _ z (Nat.le_refl _)
 by_cases hR : rightR (plR z) = true
 · have hr := hr true hR
   have ha : allR (plR z) = true := by unfold rightR at hR; simp only [Bool.and_eq_true] at hR; exact hR.2
   have hwr := hwr ha hl hi
   rw [show fmt23 (plR z) = fmtR (plR z) from if_pos hR] at ho
   rw [← ho] at hlen
   obtain ⟨k, a, n, s, pk, ck, keys, p, c, kids⟩ := z
   refine sy_enter rfl rfl ?_
   simp only [initFr]
   repeat (first | refine sy_k rfl rfl ?_ | (refine gO ?_; first | refine sy_ov (ov_p rfl) rfl rfl ?_ | (refine gL ?_; refine sy_ov (ov_ld 0 rfl rfl rfl) rfl rfl ?_) | (refine sy_box rfl rfl rfl ?_; intro _)))
   refine sy_ov (ov_call rfl (fun w hw => hr w (hJ.at hw))) rfl rfl ?_
   repeat (first | refine sy_k rfl rfl ?_ | (refine gO ?_; first | refine sy_ov (ov_p rfl) rfl rfl ?_ | (refine gL ?_; refine sy_ov (ov_ld 1 rfl rfl rfl) rfl rfl ?_) | (refine sy_alloc rfl rfl rfl ?_; intro _)) | (refine sy_cond_f rfl ?_ ?_; (first | with_reducible rfl | assumption | omega | (simp <;> first | omega | assumption))))
   refine sy_newBld ?_
   skip
   rename_i b3
   refine sy_callEw [bld b3 (.slice none 0 0) []] rfl rfl rfl (fun w hw => hwr b3 (.slice none 0 0) [] (by simpa using hlen) w hw.self (hJ.callE hw)) ?_
   rintro u es' ⟨rfl, v2, rfl⟩
   simp only [List.cons_append, List.nil_append, ho]
   rw [ho] at hlen
   repeat (refine sy_k rfl rfl ?_)
   refine sy_works 0 rfl rfl rfl (string_w b3 v2 o (by first | omega | (simp; done) | (simp; omega))) ?_
   rintro r e' ⟨rfl, rfl⟩
   repeat (first | refine sy_k rfl rfl ?_ | (refine gO ?_; refine sy_ov (ov_p rfl) rfl rfl ?_) | refine sy_rt ?_)
   exact ret1 rfl rfl rfl
 · have hr := hr false (by simpa using hR)
   rw [show fmt23 (plR z) = [] from if_neg hR] at ho
   subst ho
   obtain ⟨k, a, n, s, pk, ck, keys, p, c, kids⟩ := z
   refine sy_enter rfl rfl ?_
   simp only [initFr]
   repeat (first | refine sy_k rfl rfl ?_ | (refine gO ?_; first | refine sy_ov (ov_p rfl) rfl rfl ?_ | (refine gL ?_; refine sy_ov (ov_ld 0 rfl rfl rfl) rfl rfl ?_) | (refine sy_box rfl rfl rfl ?_; intro _)))
   refine sy_ov (ov_call rfl (fun w hw => hr w (hJ.at hw))) rfl rfl ?_
   repeat (first | refine sy_k rfl rfl ?_ | (refine gO ?_; refine sy_ov (ov_p rfl) rfl rfl ?_) | (refine sy_cond_t rfl ?_ ?_; (first | with_reducible rfl | assumption | omega | (simp <;> first | omega | assumption))) | refine sy_rt ?_)
   exact ret1 rfl rfl rfl
end Go.Proofs.Ytldjakeigjngoaa
/- Contract: the example of the chapter, as the program writes it. -/
namespace Go.Proofs.Ytldjakeigjngoaa
open Go.RowKit Bf
theorem rawAt {D : Nat → Prop} {w0 w : World} {hp : List En} (hw : HpOk D w0 hp w) {i : Nat} {z : RawA} (hi : hp[i]? = some (rawE [z])) : RawJ w z := (hw.get hi).1 z (List.mem_singleton.2 rfl)
theorem blk_isSl {D : Nat → Prop} {w0 w : World} {hp : List En} (hw : HpOk D w0 hp w) {i b : Nat} {e : TypeId} {cs : List Value} (hi : hp[i]? = some (blk b e cs)) {sz n : Nat} (hl : cs.length = n * sz) : IsSl w sz (some ⟨b, 0, none⟩) n cs :=
 ⟨hl, .inr ⟨b, 0, rfl, fun j u hj => by rw [Nat.zero_add, hw.cell hi]; exact hj⟩⟩
def v23 : RawP := .mk 5 0 0 [] [([97], 0)] [.mk 2 0 1 [] [] []]
theorem putL_one : putL 1 = [49] := putL_lt 1 (by decide) (by decide)
theorem fmt_v23 : fmt23 v23 = [123, 97, 58, 32, 49, 125] := by
 have h : rightR v23 = true := by decide +kernel
 unfold fmt23
 rw [if_pos h]
 simp only [v23, fmtR, fmtRs, openT, endT]
 simp [putL_one]
set_option maxRecDepth 20000 in
set_option maxHeartbeats 4000000 in
theorem lives23_c (w : World) : Calls Try.prog 27 #[] w fun e w' => e = .returned (.bool true) ∧ Below w.heap.size w w' := by
 refine sy_enter (args := []) rfl rfl ?_
 simp only [initFr]
 repeat (first | refine sy_k rfl rfl ?_ | (refine gO ?_; first | refine sy_ov (ov_p rfl) rfl rfl ?_ | refine sy_ov (ov_build rfl rfl rfl) rfl rfl ?_))
 refine sy_buildSlice rfl rfl rfl rfl rfl rfl rfl rfl ?_
 intro nb1
 repeat ((refine gO ?_; refine sy_ov (ov_build rfl rfl rfl) rfl rfl ?_))
 refine sy_buildSlice rfl rfl rfl rfl rfl rfl rfl rfl ?_
 intro nb2
 repeat ((refine gO ?_; refine sy_ov (ov_build rfl rfl rfl) rfl rfl ?_))
 have hz : plR (.mk 5 0 0 [] (some ⟨nb1, 0, none⟩) 1 [([97], 0)] (some ⟨nb2, 0, none⟩) 1 [.mk 2 0 1 [] none 0 [] none 0 []]) = v23 := rfl
 have hf := fun w h => format23_c (.mk 5 0 0 [] (some ⟨nb1, 0, none⟩) 1 [([97], 0)] (some ⟨nb2, 0, none⟩) 1 [.mk 2 0 1 [] none 0 [] none 0 []]) [123, 97, 58, 32, 49, 125] (by rw [hz]; exact fmt_v23) (by rw [hz]; simp [v23, lnR, lnRs]) (by rw [hz]; simp [v23, i64R, i64Rs, I64]) (by decide) w h
 refine sy_ov (ov_call rfl (fun w hw => hf w (.mk 5 0 0 [] _ 1 [([97], 0)] _ 1 [.mk 2 0 1 [] none 0 [] none 0 []] ⟨by decide, by decide⟩ (blk_isSl hw (i := 1) rfl rfl) (blk_isSl hw (i := 0) rfl rfl) (fun x hx => by simp only [List.mem_singleton] at hx; subst hx; exact .mk 2 0 1 [] none 0 [] none 0 [] ⟨by decide, by decide⟩ (IsSl.nil _ _ _) (IsSl.nil _ _ _) (fun x hx => by cases hx))))) rfl rfl ?_
 repeat (first | refine sy_k rfl rfl ?_ | (refine gO ?_; refine sy_ov (ov_p rfl) rfl rfl ?_) | refine sy_rt ?_)
 exact ret1 rfl rfl rfl
end Go.Proofs.Ytldjakeigjngoaa