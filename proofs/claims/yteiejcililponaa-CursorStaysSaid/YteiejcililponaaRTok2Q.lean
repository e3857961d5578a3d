/- Contracts: the reference cuts a text; rows of tokens are the same. -/
import Derived.Test.YteiejcililponaaRTokQ
import Derived.Test.YteiejcililponaaBEX
import Derived.Test.YteiejcililponaaCells3Q
set_option linter.unusedVariables false
set_option linter.unusedSimpArgs false
namespace Go.Proofs.Yteiejcililponaa
open Go.RowKit Bf
structure RkSt where
  i : Int
  p : Option Addr
  q : Nat
  acc : List TokT
  b : Bool
theorem RSInv.outB {s : List UInt8} {i : Int} {acc : List TokT} {b : Bool} (h : RSInv s i acc b) (hb : b = false) : RSInv s i acc false := by subst hb; exact h
theorem unit_ok (s : List UInt8) (i : Int) (h0 : 0 ≤ i) (h1 : i < s.length) {r : Int} {n : Nat} (hd : decAt s i = (r, n, true)) : unitAt s i = (runeC r, n) := by
  rw [decAt_in' s i h0 h1] at hd
  unfold unitAt
  rw [if_neg (by omega)]
  exact unitS_ok _ r n (drop_ne' s i h0 h1) hd
def isBl (c : Int) : Prop := c = 9 ∨ c = 10 ∨ c = 13 ∨ c = 32
theorem blankB_t {c : Int} (h : isBl c) : blankB c = true := by rcases h with rfl | rfl | rfl | rfl <;> decide
theorem blankB_f {c : Int} (h1 : c ≠ 9) (h2 : c ≠ 10) (h3 : c ≠ 13) (h4 : c ≠ 32) : blankB c = false := by unfold blankB; simp [h1, h2, h3, h4]
set_option maxRecDepth 20000 in
set_option maxHeartbeats 8000000 in
theorem rscan_c (s : List UInt8) (hs : s.length ≤ 1000000000000000) (w : World) : Calls Try.prog 41 #[S s] w fun x w' => ∃ v e', ScanR s v e' ∧ x = .returned v ∧ e'.holds w' ∧ Below w.heap.size w w' ∧ ∀ b, e'.dom b → w.heap.size ≤ b ∧ b < w'.heap.size := by
  by_cases hbig : 65536 < s.length
  · have hr : scanR s = ([], 7, 65536) := if_pos hbig
    refine sy_enter rfl rfl ?_
    simp only [initFr]
    repeat (first | refine sy_k rfl rfl ?_ | (refine gO ?_; first | refine sy_ov (ov_p rfl) rfl rfl ?_ | (refine gK ?_; refine sy_ov (ov_len rfl) rfl rfl ?_) | (refine gS ?_; refine sy_store 0 rfl rfl rfl rfl rfl rfl rfl rfl ?_) | refine sy_ov (ov_build rfl rfl rfl) rfl rfl ?_ | (refine sy_alloc rfl rfl rfl ?_; intro _)) | (refine sy_cond_t rfl ?_ ?_; focus (first | with_reducible rfl | assumption | omega | (simp <;> first | omega | assumption))) | refine sy_rt ?_)
    refine leave_grow 64 5 ?_
    refine ret2cw 1 rfl rfl rfl rfl rfl rfl fun w' hw' => new_at hw' 0 rfl rfl (by exact ScanR.mk' hr none 0 rfl rfl)
  · have hR : scanR s = scanT s 0 := if_neg hbig
    refine sy_enter rfl rfl ?_
    simp only [initFr]
    repeat (first | refine sy_k rfl rfl ?_ | (refine gO ?_; first | refine sy_ov (ov_p rfl) rfl rfl ?_ | (refine gK ?_; refine sy_ov (ov_len rfl) rfl rfl ?_) | (refine sy_alloc rfl rfl rfl ?_; intro _)) | (refine sy_cond_f rfl ?_ ?_; focus (first | with_reducible rfl | assumption | omega | (simp <;> first | omega | assumption))))
    rename_i b3
    refine sy_grow 64 5 ?_
    refine sy_loop (α := RkSt) (fun a => [(0, S s), (3, .pointer (some ⟨b3, 0, none⟩)), (4, .slice a.p a.acc.length a.q), (5, .bool a.b), (6, .int .i64 a.i)]) (fun a => [vec 64 5 (.slice a.p a.acc.length a.q) a.acc.length (a.acc.flatMap tokV), blk b3 55 [.int .i64 0, .int .i64 0]]) (fun a => RSInv s a.i a.acc a.b) (fun a => (s.length - a.i).toNat) ⟨0, none, 0, [], false⟩ (RSInv.start s) ⟨⟨_, rfl, rfl⟩, ⟨_, rfl, rfl⟩, ⟨_, rfl, rfl⟩, ⟨_, rfl, rfl⟩, ⟨_, rfl, rfl⟩, trivial⟩ (List.Sublist.refl _) ?_
    rintro ⟨i, p, q, acc, inn⟩ hi
    have i0 := hi.i0
    have i1 := hi.i1
    have ik := hi.n
    dsimp only at hi i0 i1 ik ⊢
    by_cases hlt : i < s.length
    · by_cases h10 : bt s i = 10
      · have hst := ((hi.line h10).out.blank hlt (by rw [h10]; decide)).ins
        repeat (first | refine sy_k rfl rfl ?_ | (refine gO ?_; first | refine sy_ov (ov_p rfl) rfl rfl ?_ | (refine gG ?_; first | (refine sy_guard_yes rfl rfl rfl rfl rfl ?_ ?_; focus (first | with_reducible rfl | assumption | omega | (simp <;> first | omega | assumption))) | (refine sy_guard_no rfl rfl rfl rfl rfl ?_ ?_; focus (first | with_reducible rfl | assumption | omega | (simp <;> first | omega | assumption)))) | (refine gB ?_; (refine sy_ov (ov_ar rfl rfl rfl ?_ ?_) rfl rfl ?_; omega; omega)) | (refine gK ?_; refine sy_ov (ov_len rfl) rfl rfl ?_) | (refine sy_ov (ov_pick_t rfl rfl ?_) rfl rfl ?_; focus (with_reducible rfl)) | (refine sy_ov (ov_pick_f rfl rfl ?_) rfl rfl ?_; focus (with_reducible rfl)) | refine sy_ov (ov_pick rfl rfl rfl) rfl rfl ?_ | (refine sy_ov (ov_index rfl rfl ?_ ?_) rfl rfl ?_; omega; omega)) | (refine sy_cond_t rfl ?_ ?_; focus (first | with_reducible rfl | assumption | omega | (simp <;> first | omega | assumption))) | (refine sy_cond_f rfl ?_ ?_; focus (first | with_reducible rfl | assumption | omega | (simp <;> first | omega | assumption))))
        refine sy_back ⟨i + 1, p, q, acc, false⟩ hst (by dsimp only; omega) ⟨⟨_, rfl, rfl⟩, ⟨_, rfl, rfl⟩, ⟨_, rfl, rfl⟩, ⟨_, rfl, rfl⟩, ⟨_, rfl, rfl⟩, trivial⟩ (List.Sublist.refl _)
      · -- a remark
        have rem : ∀ (F : Fr) (k : List It), True := fun _ _ => trivial
        obtain ⟨r, m, ok, hd⟩ := trip (decAt s i)
        obtain ⟨d1, d2, d3, d4, d5⟩ := dec_bd s i i0 hlt hd
        have hd' := hd
        rw [decAt_in' s i i0 hlt] at hd'
        by_cases hin : inn = true ∨ bt s i = 59
        · have hI : RSInv s i acc true := by
            rcases hin with rfl | h
            · exact hi
            · exact hi.semi hlt h
          have hsplit : (bt s i ≠ 59 ∧ inn = true) ∨ bt s i = 59 := by
            by_cases h : bt s i = 59
            · exact .inr h
            · exact .inl ⟨h, hin.resolve_right h⟩
          cases ok with
          | false =>
            have hr := hI.bad hlt h10 hd'
            rw [← hR] at hr
            rcases hsplit with ⟨h59, rfl⟩ | h59
            all_goals
              repeat (first | refine sy_k rfl rfl ?_ | (refine gO ?_; first | refine sy_ov (ov_p rfl) rfl rfl ?_ | (refine gG ?_; first | refine sy_guard_undef rfl rfl rfl rfl rfl ?_ | (refine sy_guard_no rfl rfl rfl rfl rfl ?_ ?_; focus (first | with_reducible rfl | assumption | omega | (simp <;> first | omega | assumption)))) | (refine gK ?_; refine sy_ov (ov_len rfl) rfl rfl ?_) | refine sy_ov (ov_pick rfl rfl rfl) rfl rfl ?_ | (refine sy_ov (ov_index rfl rfl ?_ ?_) rfl rfl ?_; omega; omega)) | (refine sy_cond_t rfl ?_ ?_; focus (first | with_reducible rfl | assumption | omega | (simp <;> first | omega | assumption))) | (refine sy_cond_f rfl ?_ ?_; focus (first | with_reducible rfl | assumption | omega | (simp <;> first | omega | assumption))))
              refine sy_ov (ov_call rfl (fun w _ => rdecode_c s i r m false hd (by omega) (by omega) (by omega) w)) rfl rfl ?_
              repeat (first | refine sy_k rfl rfl ?_ | (refine gO ?_; first | refine sy_ov (ov_p rfl) rfl rfl ?_ | (refine gS ?_; refine sy_store 1 rfl rfl rfl rfl rfl rfl rfl rfl ?_) | refine sy_ov (ov_build rfl rfl rfl) rfl rfl ?_) | (refine sy_cond_t rfl ?_ ?_; focus (first | with_reducible rfl | assumption | omega | (simp <;> first | omega | assumption))) | refine sy_rt ?_)
              refine leave_grow 64 5 ?_
              refine ret2cw 2 rfl rfl rfl rfl rfl rfl fun w' hw' => new_at hw' 0 rfl rfl (by exact ScanR.mk' hr none 0 rfl rfl)
          | true =>
            have hu := unit_ok s i i0 hlt hd
            by_cases h9 : r = 9
            · have hst := hI.ok hlt h10 hd' (fun h => h.1 h9) d4
              rcases hsplit with ⟨h59, rfl⟩ | h59
              all_goals
                repeat (first | refine sy_k rfl rfl ?_ | (refine gO ?_; first | refine sy_ov (ov_p rfl) rfl rfl ?_ | (refine gG ?_; first | refine sy_guard_undef rfl rfl rfl rfl rfl ?_ | (refine sy_guard_no rfl rfl rfl rfl rfl ?_ ?_; focus (first | with_reducible rfl | assumption | omega | (simp <;> first | omega | assumption)))) | (refine gK ?_; refine sy_ov (ov_len rfl) rfl rfl ?_) | refine sy_ov (ov_pick rfl rfl rfl) rfl rfl ?_ | (refine sy_ov (ov_index rfl rfl ?_ ?_) rfl rfl ?_; omega; omega)) | (refine sy_cond_t rfl ?_ ?_; focus (first | with_reducible rfl | assumption | omega | (simp <;> first | omega | assumption))) | (refine sy_cond_f rfl ?_ ?_; focus (first | with_reducible rfl | assumption | omega | (simp <;> first | omega | assumption))))
                refine sy_ov (ov_call rfl (fun w _ => rdecode_c s i r m true hd (by omega) (by omega) (by omega) w)) rfl rfl ?_
                repeat (first | refine sy_k rfl rfl ?_ | (refine gO ?_; first | refine sy_ov (ov_p rfl) rfl rfl ?_ | (refine gG ?_; (refine sy_guard_no rfl rfl rfl rfl rfl ?_ ?_; focus (first | with_reducible rfl | assumption | omega | (simp <;> first | omega | assumption)))) | refine sy_ov (ov_pick rfl rfl rfl) rfl rfl ?_) | (refine sy_cond_f rfl ?_ ?_; focus (first | with_reducible rfl | assumption | omega | (simp <;> first | omega | assumption))))
                refine sy_ov (ov_call rfl (fun w _ => runit4_c s i _ m hu i0 hlt (by omega) w)) rfl rfl ?_
                repeat (first | refine sy_k rfl rfl ?_ | (refine gO ?_; first | refine sy_ov (ov_p rfl) rfl rfl ?_ | (refine gB ?_; (refine sy_ov (ov_ar rfl rfl rfl ?_ ?_) rfl rfl ?_; omega; omega))))
                refine sy_back ⟨i + m, p, q, acc, true⟩ hst (by dsimp only; omega) ⟨⟨_, rfl, rfl⟩, ⟨_, rfl, rfl⟩, ⟨_, rfl, rfl⟩, ⟨_, rfl, rfl⟩, ⟨_, rfl, rfl⟩, trivial⟩ (List.Sublist.refl _)
            · obtain ⟨k, hk⟩ : ∃ k, kindT r = k := ⟨_, rfl⟩
              have hun : unsafeB r = !decide (k = 0) := by unfold unsafeB; rw [hk]
              by_cases hk0 : k = 0
              · have hst := hI.ok hlt h10 hd' (fun h => by rw [hun] at h; simp [hk0] at h) d4
                rcases hsplit with ⟨h59, rfl⟩ | h59
                all_goals
                  repeat (first | refine sy_k rfl rfl ?_ | (refine gO ?_; first | refine sy_ov (ov_p rfl) rfl rfl ?_ | (refine gG ?_; first | refine sy_guard_undef rfl rfl rfl rfl rfl ?_ | (refine sy_guard_no rfl rfl rfl rfl rfl ?_ ?_; focus (first | with_reducible rfl | assumption | omega | (simp <;> first | omega | assumption)))) | (refine gK ?_; refine sy_ov (ov_len rfl) rfl rfl ?_) | refine sy_ov (ov_pick rfl rfl rfl) rfl rfl ?_ | (refine sy_ov (ov_index rfl rfl ?_ ?_) rfl rfl ?_; omega; omega)) | (refine sy_cond_t rfl ?_ ?_; focus (first | with_reducible rfl | assumption | omega | (simp <;> first | omega | assumption))) | (refine sy_cond_f rfl ?_ ?_; focus (first | with_reducible rfl | assumption | omega | (simp <;> first | omega | assumption))))
                  refine sy_ov (ov_call rfl (fun w _ => rdecode_c s i r m true hd (by omega) (by omega) (by omega) w)) rfl rfl ?_
                  repeat (first | refine sy_k rfl rfl ?_ | (refine gO ?_; first | refine sy_ov (ov_p rfl) rfl rfl ?_ | (refine gG ?_; (refine sy_guard_yes rfl rfl rfl rfl rfl ?_ ?_; focus (first | with_reducible rfl | assumption | omega | (simp <;> first | omega | assumption))))) | (refine sy_cond_f rfl ?_ ?_; focus (first | with_reducible rfl | assumption | omega | (simp <;> first | omega | assumption))))
                  refine sy_ov (ov_call rfl (fun w _ => rkind_c r k hk (by omega) w)) rfl rfl ?_
                  repeat (first | refine sy_k rfl rfl ?_ | (refine gO ?_; first | refine sy_ov (ov_p rfl) rfl rfl ?_ | (refine gG ?_; (refine sy_guard_yes rfl rfl rfl rfl rfl ?_ ?_; focus (first | with_reducible rfl | assumption | omega | (simp <;> first | omega | assumption)))) | (refine sy_ov (ov_pick_t rfl rfl ?_) rfl rfl ?_; focus (with_reducible rfl))) | (refine sy_cond_f rfl ?_ ?_; focus (first | with_reducible rfl | assumption | omega | (simp <;> first | omega | assumption))))
                  refine sy_ov (ov_call rfl (fun w _ => runit4_c s i _ m hu i0 hlt (by omega) w)) rfl rfl ?_
                  repeat (first | refine sy_k rfl rfl ?_ | (refine gO ?_; first | refine sy_ov (ov_p rfl) rfl rfl ?_ | (refine gB ?_; (refine sy_ov (ov_ar rfl rfl rfl ?_ ?_) rfl rfl ?_; omega; omega))))
                  refine sy_back ⟨i + m, p, q, acc, true⟩ hst (by dsimp only; omega) ⟨⟨_, rfl, rfl⟩, ⟨_, rfl, rfl⟩, ⟨_, rfl, rfl⟩, ⟨_, rfl, rfl⟩, ⟨_, rfl, rfl⟩, trivial⟩ (List.Sublist.refl _)
              · have hr := hI.char hlt h10 hd' h9 (by rw [hun]; simp [hk0])
                rw [← hR] at hr
                rcases hsplit with ⟨h59, rfl⟩ | h59
                all_goals
                  repeat (first | refine sy_k rfl rfl ?_ | (refine gO ?_; first | refine sy_ov (ov_p rfl) rfl rfl ?_ | (refine gG ?_; first | refine sy_guard_undef rfl rfl rfl rfl rfl ?_ | (refine sy_guard_no rfl rfl rfl rfl rfl ?_ ?_; focus (first | with_reducible rfl | assumption | omega | (simp <;> first | omega | assumption)))) | (refine gK ?_; refine sy_ov (ov_len rfl) rfl rfl ?_) | refine sy_ov (ov_pick rfl rfl rfl) rfl rfl ?_ | (refine sy_ov (ov_index rfl rfl ?_ ?_) rfl rfl ?_; omega; omega)) | (refine sy_cond_t rfl ?_ ?_; focus (first | with_reducible rfl | assumption | omega | (simp <;> first | omega | assumption))) | (refine sy_cond_f rfl ?_ ?_; focus (first | with_reducible rfl | assumption | omega | (simp <;> first | omega | assumption))))
                  refine sy_ov (ov_call rfl (fun w _ => rdecode_c s i r m true hd (by omega) (by omega) (by omega) w)) rfl rfl ?_
                  repeat (first | refine sy_k rfl rfl ?_ | (refine gO ?_; first | refine sy_ov (ov_p rfl) rfl rfl ?_ | (refine gG ?_; (refine sy_guard_yes rfl rfl rfl rfl rfl ?_ ?_; focus (first | with_reducible rfl | assumption | omega | (simp <;> first | omega | assumption))))) | (refine sy_cond_f rfl ?_ ?_; focus (first | with_reducible rfl | assumption | omega | (simp <;> first | omega | assumption))))
                  refine sy_ov (ov_call rfl (fun w _ => rkind_c r k hk (by omega) w)) rfl rfl ?_
                  repeat (first | refine sy_k rfl rfl ?_ | (refine gO ?_; first | refine sy_ov (ov_p rfl) rfl rfl ?_ | (refine gG ?_; (refine sy_guard_yes rfl rfl rfl rfl rfl ?_ ?_; focus (first | with_reducible rfl | assumption | omega | (simp <;> first | omega | assumption)))) | (refine gS ?_; refine sy_store 1 rfl rfl rfl rfl rfl rfl rfl rfl ?_) | (refine sy_ov (ov_pick_t rfl rfl ?_) rfl rfl ?_; focus (with_reducible rfl)) | refine sy_ov (ov_build rfl rfl rfl) rfl rfl ?_) | (refine sy_cond_t rfl ?_ ?_; focus (first | with_reducible rfl | assumption | omega | (simp <;> first | omega | assumption))) | refine sy_rt ?_)
                  refine leave_grow 64 5 ?_
                  refine ret2cw 2 rfl rfl rfl rfl rfl rfl fun w' hw' => new_at hw' 0 rfl rfl (by exact ScanR.mk' hr none 0 rfl rfl)
        · have hi0 : inn = false := by cases inn with | false => rfl | true => exact absurd (.inl rfl) hin
          have h59 : bt s i ≠ 59 := fun h => hin (.inr h)
          subst hi0
          have hO := hi.out
          by_cases h9 : bt s i = 9
          · have hst := (hO.blank hlt (blankB_t (.inl h9))).ins
            repeat (first | refine sy_k rfl rfl ?_ | (refine gO ?_; first | refine sy_ov (ov_p rfl) rfl rfl ?_ | (refine gG ?_; first | (refine sy_guard_yes rfl rfl rfl rfl rfl ?_ ?_; focus (first | with_reducible rfl | assumption | omega | (simp <;> first | omega | assumption))) | (refine sy_guard_no rfl rfl rfl rfl rfl ?_ ?_; focus (first | with_reducible rfl | assumption | omega | (simp <;> first | omega | assumption)))) | (refine gB ?_; (refine sy_ov (ov_ar rfl rfl rfl ?_ ?_) rfl rfl ?_; omega; omega)) | (refine gK ?_; refine sy_ov (ov_len rfl) rfl rfl ?_) | (refine sy_ov (ov_pick_t rfl rfl ?_) rfl rfl ?_; focus (with_reducible rfl)) | refine sy_ov (ov_pick rfl rfl rfl) rfl rfl ?_ | (refine sy_ov (ov_index rfl rfl ?_ ?_) rfl rfl ?_; omega; omega)) | (refine sy_cond_t rfl ?_ ?_; focus (first | with_reducible rfl | assumption | omega | (simp <;> first | omega | assumption))) | (refine sy_cond_f rfl ?_ ?_; focus (first | with_reducible rfl | assumption | omega | (simp <;> first | omega | assumption))))
            refine sy_back ⟨i + 1, p, q, acc, false⟩ hst (by dsimp only; omega) ⟨⟨_, rfl, rfl⟩, ⟨_, rfl, rfl⟩, ⟨_, rfl, rfl⟩, ⟨_, rfl, rfl⟩, ⟨_, rfl, rfl⟩, trivial⟩ (List.Sublist.refl _)
          · by_cases h13 : bt s i = 13
            · have hst := (hO.blank hlt (blankB_t (.inr (.inr (.inl h13))))).ins
              repeat (first | refine sy_k rfl rfl ?_ | (refine gO ?_; first | refine sy_ov (ov_p rfl) rfl rfl ?_ | (refine gG ?_; first | (refine sy_guard_yes rfl rfl rfl rfl rfl ?_ ?_; focus (first | with_reducible rfl | assumption | omega | (simp <;> first | omega | assumption))) | (refine sy_guard_no rfl rfl rfl rfl rfl ?_ ?_; focus (first | with_reducible rfl | assumption | omega | (simp <;> first | omega | assumption)))) | (refine gB ?_; (refine sy_ov (ov_ar rfl rfl rfl ?_ ?_) rfl rfl ?_; omega; omega)) | (refine gK ?_; refine sy_ov (ov_len rfl) rfl rfl ?_) | (refine sy_ov (ov_pick_t rfl rfl ?_) rfl rfl ?_; focus (with_reducible rfl)) | (refine sy_ov (ov_pick_f rfl rfl ?_) rfl rfl ?_; focus (with_reducible rfl)) | refine sy_ov (ov_pick rfl rfl rfl) rfl rfl ?_ | (refine sy_ov (ov_index rfl rfl ?_ ?_) rfl rfl ?_; omega; omega)) | (refine sy_cond_t rfl ?_ ?_; focus (first | with_reducible rfl | assumption | omega | (simp <;> first | omega | assumption))) | (refine sy_cond_f rfl ?_ ?_; focus (first | with_reducible rfl | assumption | omega | (simp <;> first | omega | assumption))))
              refine sy_back ⟨i + 1, p, q, acc, false⟩ hst (by dsimp only; omega) ⟨⟨_, rfl, rfl⟩, ⟨_, rfl, rfl⟩, ⟨_, rfl, rfl⟩, ⟨_, rfl, rfl⟩, ⟨_, rfl, rfl⟩, trivial⟩ (List.Sublist.refl _)
            · by_cases h32 : bt s i = 32
              · have hst := (hO.blank hlt (blankB_t (.inr (.inr (.inr h32))))).ins
                repeat (first | refine sy_k rfl rfl ?_ | (refine gO ?_; first | refine sy_ov (ov_p rfl) rfl rfl ?_ | (refine gG ?_; (refine sy_guard_yes rfl rfl rfl rfl rfl ?_ ?_; focus (first | with_reducible rfl | assumption | omega | (simp <;> first | omega | assumption)))) | (refine gB ?_; (refine sy_ov (ov_ar rfl rfl rfl ?_ ?_) rfl rfl ?_; omega; omega)) | (refine gK ?_; refine sy_ov (ov_len rfl) rfl rfl ?_) | (refine sy_ov (ov_pick_t rfl rfl ?_) rfl rfl ?_; focus (with_reducible rfl)) | (refine sy_ov (ov_pick_f rfl rfl ?_) rfl rfl ?_; focus (with_reducible rfl)) | (refine sy_ov (ov_index rfl rfl ?_ ?_) rfl rfl ?_; omega; omega)) | (refine sy_cond_t rfl ?_ ?_; focus (first | with_reducible rfl | assumption | omega | (simp <;> first | omega | assumption))) | (refine sy_cond_f rfl ?_ ?_; focus (first | with_reducible rfl | assumption | omega | (simp <;> first | omega | assumption))))
                refine sy_back ⟨i + 1, p, q, acc, false⟩ hst (by dsimp only; omega) ⟨⟨_, rfl, rfl⟩, ⟨_, rfl, rfl⟩, ⟨_, rfl, rfl⟩, ⟨_, rfl, rfl⟩, ⟨_, rfl, rfl⟩, trivial⟩ (List.Sublist.refl _)
              · have hbl := blankB_f h9 h10 h13 h32
                obtain ⟨t, e, a, htk⟩ := trip (tokA s i.toNat)
                have hii : ((i.toNat : Nat) : Int) = i := Int.toNat_of_nonneg i0
                have hc := rtok_c s i.toNat _ htk (by omega) (by omega)
                rw [hii] at hc
                by_cases he : e = 0
                · subst he
                  obtain ⟨hst, hgt⟩ := hO.tok hlt hbl h59 htk
                  have := hst.i1
                  have hkn := hst.n
                  have e1 : (acc ++ [t]).length = acc.length + 1 := by simp
                  have e2 := flat_snoc tokV acc t
                  rw [e1] at hkn
                  have hp0 : a = 0 := (tokA_ok0 s i.toNat htk).1 rfl
                  subst hp0
                  repeat (first | refine sy_k rfl rfl ?_ | (refine gO ?_; first | refine sy_ov (ov_p rfl) rfl rfl ?_ | (refine gG ?_; (refine sy_guard_yes rfl rfl rfl rfl rfl ?_ ?_; focus (first | with_reducible rfl | assumption | omega | (simp <;> first | omega | assumption)))) | (refine gK ?_; refine sy_ov (ov_len rfl) rfl rfl ?_) | (refine sy_ov (ov_pick_t rfl rfl ?_) rfl rfl ?_; focus (with_reducible rfl)) | (refine sy_ov (ov_pick_f rfl rfl ?_) rfl rfl ?_; focus (with_reducible rfl)) | (refine sy_ov (ov_index rfl rfl ?_ ?_) rfl rfl ?_; omega; omega)) | (refine sy_cond_t rfl ?_ ?_; focus (first | with_reducible rfl | assumption | omega | (simp <;> first | omega | assumption))) | (refine sy_cond_f rfl ?_ ?_; focus (first | with_reducible rfl | assumption | omega | (simp <;> first | omega | assumption))))
                  refine sy_ov (ov_call rfl (fun w _ => hc w)) rfl rfl ?_
                  repeat (first | refine sy_k rfl rfl ?_ | (refine gO ?_; first | refine sy_ov (ov_p rfl) rfl rfl ?_ | (refine gL ?_; first | refine sy_ov (ov_ld 0 rfl rfl rfl) rfl rfl ?_ | refine sy_ov (ov_ld 1 rfl rfl rfl) rfl rfl ?_) | (refine gS ?_; first | refine sy_store 0 rfl rfl rfl rfl rfl rfl rfl rfl ?_ | refine sy_store 1 rfl rfl rfl rfl rfl rfl rfl rfl ?_) | refine sy_ov (ov_fieldAddr rfl rfl rfl) rfl rfl ?_ | (refine sy_alloc rfl rfl rfl ?_; intro _)) | (refine sy_cond_f rfl ?_ ?_; focus (first | with_reducible rfl | assumption | omega | (simp <;> first | omega | assumption))))
                  refine sy_buildSlice rfl rfl rfl rfl rfl rfl rfl rfl ?_
                  intro nb
                  refine sy_append 3 0 rfl rfl rfl rfl rfl rfl rfl rfl rfl rfl rfl (by omega) (by refine Nat.le_trans (Nat.mul_le_mul_left _ (Nat.le_of_ble_eq_true (m := 1024) rfl)) ?_; omega) ?_
                  intro p' q'
                  repeat (first | refine sy_k rfl rfl ?_ | (refine gO ?_; first | refine sy_ov (ov_p rfl) rfl rfl ?_ | (refine gL ?_; refine sy_ov (ov_ld 2 rfl rfl rfl) rfl rfl ?_) | refine sy_ov (ov_fieldAddr rfl rfl rfl) rfl rfl ?_))
                  refine sy_back ⟨t.2.2.1, some p', q', acc ++ [t], false⟩ hst.ins (by dsimp only; omega) ⟨⟨_, rfl, rfl⟩, ⟨_, rfl, rfl⟩, ⟨_, rfl, by rw [e1]⟩, ⟨_, rfl, rfl⟩, ⟨_, rfl, rfl⟩, trivial⟩ (by dsimp only; rw [e1, e2]; exact sd (sd (sd sr)))
                · have hr := hO.tokBad hlt hbl h59 htk he
                  rw [← hR] at hr
                  repeat (first | refine sy_k rfl rfl ?_ | (refine gO ?_; first | refine sy_ov (ov_p rfl) rfl rfl ?_ | (refine gG ?_; (refine sy_guard_yes rfl rfl rfl rfl rfl ?_ ?_; focus (first | with_reducible rfl | assumption | omega | (simp <;> first | omega | assumption)))) | (refine gK ?_; refine sy_ov (ov_len rfl) rfl rfl ?_) | (refine sy_ov (ov_pick_t rfl rfl ?_) rfl rfl ?_; focus (with_reducible rfl)) | (refine sy_ov (ov_pick_f rfl rfl ?_) rfl rfl ?_; focus (with_reducible rfl)) | (refine sy_ov (ov_index rfl rfl ?_ ?_) rfl rfl ?_; omega; omega)) | (refine sy_cond_t rfl ?_ ?_; focus (first | with_reducible rfl | assumption | omega | (simp <;> first | omega | assumption))) | (refine sy_cond_f rfl ?_ ?_; focus (first | with_reducible rfl | assumption | omega | (simp <;> first | omega | assumption))))
                  refine sy_ov (ov_call rfl (fun w _ => hc w)) rfl rfl ?_
                  repeat (first | refine sy_k rfl rfl ?_ | (refine gO ?_; first | refine sy_ov (ov_p rfl) rfl rfl ?_ | (refine gL ?_; refine sy_ov (ov_ld 0 rfl rfl rfl) rfl rfl ?_) | (refine gS ?_; first | refine sy_store 0 rfl rfl rfl rfl rfl rfl rfl rfl ?_ | refine sy_store 1 rfl rfl rfl rfl rfl rfl rfl rfl ?_) | refine sy_ov (ov_fieldAddr rfl rfl rfl) rfl rfl ?_ | (refine sy_alloc rfl rfl rfl ?_; intro _)) | (refine sy_cond_t rfl ?_ ?_; focus (first | with_reducible rfl | assumption | omega | (simp <;> first | omega | assumption))))
                  refine sy_draw 2 (by kernel_rfl) ?_
                  repeat (first | refine dr_op (ov_p rfl) rfl rfl ?_ | refine dr_op (ov_ld 0 rfl rfl rfl) rfl rfl ?_ | refine dr_end ?_)
                  repeat (first | refine sy_k rfl rfl ?_ | (refine gO ?_; (refine gS ?_; refine sy_store 3 rfl rfl rfl rfl rfl rfl rfl rfl ?_)) | refine sy_rt ?_)
                  refine leave_grow 64 5 ?_
                  refine ret2cw 4 rfl rfl rfl rfl rfl rfl fun w' hw' => new_at hw' 0 rfl rfl (by exact ScanR.mk' hr none 0 rfl rfl)
    · have hr := hi.fin hlt
      rw [← hR] at hr
      have e1 : (acc ++ [((0, (s.length : Int), (s.length : Int), [], 0) : TokT)]).length = acc.length + 1 := by simp
      have e2 := flat_snoc tokV acc (0, (s.length : Int), (s.length : Int), [], 0)
      repeat (first | refine sy_k rfl rfl ?_ | (refine gO ?_; first | refine sy_ov (ov_p rfl) rfl rfl ?_ | (refine gK ?_; refine sy_ov (ov_len rfl) rfl rfl ?_) | refine sy_ov (ov_build rfl rfl rfl) rfl rfl ?_) | (refine sy_cond_f rfl ?_ ?_; focus (first | with_reducible rfl | assumption | omega | (simp <;> first | omega | assumption))))
      refine sy_buildSlice rfl rfl rfl rfl rfl rfl rfl rfl ?_
      intro nb
      refine sy_append 1 0 rfl rfl rfl rfl rfl rfl rfl rfl rfl rfl rfl (by omega) (by refine Nat.le_trans (Nat.mul_le_mul_left _ (Nat.le_of_ble_eq_true (m := 1024) rfl)) ?_; omega) ?_
      intro p' q'
      repeat (first | refine sy_k rfl rfl ?_ | (refine gO ?_; first | refine sy_ov (ov_p rfl) rfl rfl ?_ | (refine gS ?_; refine sy_store 2 rfl rfl rfl rfl rfl rfl rfl rfl ?_) | refine sy_ov (ov_build rfl rfl rfl) rfl rfl ?_) | refine sy_rt ?_)
      refine ret2cw 2 rfl rfl rfl rfl rfl rfl fun w' hw' => new_at hw' 1 rfl rfl (by exact ScanR.mk' hr (some p') q' e1.symm e2.symm)
instance : KS Try.prog 64 [.i .i64, .i .i64, .i .i64, .s, .i .i64] := ⟨by kernel_rfl, by kernel_rfl, by kernel_rfl⟩
theorem eqL_tok (x : TokT) : eqL (tokV x) (tokV x) = true := by simp [eqL, eqC, tokV]
theorem toks_get (l : List TokT) (i : Int) (n : Nat) (hl : l.length = n) (h0 : 0 ≤ i) (h1 : i < n) : ∃ x, l[i.toNat]? = some x := by
  have : i.toNat < l.length := by omega
  exact ⟨_, List.getElem?_eq_getElem this⟩
set_option maxRecDepth 20000 in
theorem rtsame_t (w : World) (p : Option Addr) (n c : Nat) (l : List TokT) (hl : l.length = n) (hn : n ≤ 4611686018427387000) (hs : IsSl w 5 p n (l.flatMap tokV)) (p' : Option Addr) (c' : Nat) (hs' : IsSl w 5 p' n (l.flatMap tokV)) :
    Calls Try.prog 42 #[.slice p n c, .slice p' n c'] w fun e w' => e = .returned (.bool true) ∧ Below w.heap.size w w' := by
  have hst : St (fun _ => False) w (fun w => IsSl w 5 p n (l.flatMap tokV)) := St.start (IsSl.bl _ _ _ _) hs
  have hst' : St (fun _ => False) w (fun w => IsSl w 5 p' n (l.flatMap tokV)) := St.start (IsSl.bl _ _ _ _) hs'
  refine sy_enter rfl rfl ?_
  simp only [initFr]
  repeat (first | refine sy_k rfl rfl ?_ | (refine gO ?_; first | refine sy_ov (ov_p rfl) rfl rfl ?_ | (refine gK ?_; refine sy_ov (ov_lens rfl) rfl rfl ?_)) | (refine sy_cond_f rfl ?_ ?_; focus (first | with_reducible rfl | assumption | omega | (simp <;> first | omega | assumption))))
  refine sy_loop (α := Int) (fun i => [(0, .slice p n c), (1, .slice p' n c'), (5, .int .i64 i)]) (fun _ => []) (fun i => 0 ≤ i ∧ i ≤ n) (fun i => (n - i).toNat) 0 ⟨by omega, by omega⟩ ⟨⟨_, rfl, rfl⟩, ⟨_, rfl, rfl⟩, ⟨_, rfl, rfl⟩, trivial⟩ (List.nil_sublist _) ?_
  rintro i ⟨i0, i1⟩
  by_cases hlt : i < n
  · obtain ⟨x, hx⟩ := toks_get l i n hl i0 hlt
    obtain ⟨b, off, hp, hat⟩ := hst.addr (by omega)
    obtain ⟨b', off', hp', hat'⟩ := hst'.addr (by omega)
    subst hp
    subst hp'
    repeat (first | refine sy_k rfl rfl ?_ | (refine gO ?_; first | refine sy_ov (ov_p rfl) rfl rfl ?_ | (refine gK ?_; refine sy_ov (ov_lens rfl) rfl rfl ?_)) | (refine sy_cond_t rfl ?_ ?_; focus (first | with_reducible rfl | assumption | omega | (simp <;> first | omega | assumption))))
    refine sy_draw 8 (by kernel_rfl) ?_
    repeat (first | refine dr_op (ov_p rfl) rfl rfl ?_ | (refine dr_op (ov_indexAddr rfl rfl ?_ ?_) rfl rfl ?_; omega; omega))
    refine dr_op (ov_elem (f := tokV) hat hx rfl rfl (fun _ => rfl)) rfl rfl ?_
    repeat (first | refine dr_op (ov_p rfl) rfl rfl ?_ | (refine dr_op (ov_indexAddr rfl rfl ?_ ?_) rfl rfl ?_; omega; omega))
    refine dr_op (ov_elem (f := tokV) hat' hx rfl rfl (fun _ => rfl)) rfl rfl ?_
    repeat (refine dr_end ?_)
    refine sy_ov (ov_nest (xs := tokV x) (ys := tokV x) rfl rfl rfl rfl) rfl rfl ?_
    rw [eqL_tok]
    repeat (first | refine sy_k rfl rfl ?_ | (refine gO ?_; first | refine sy_ov (ov_p rfl) rfl rfl ?_ | (refine gB ?_; (refine sy_ov (ov_ar rfl rfl rfl ?_ ?_) rfl rfl ?_; omega; omega))) | (refine sy_cond_f rfl ?_ ?_; focus (first | with_reducible rfl | assumption | omega | (simp <;> first | omega | assumption))))
    refine sy_back (i + 1) ⟨by omega, by omega⟩ (by omega) ⟨⟨_, rfl, rfl⟩, ⟨_, rfl, rfl⟩, ⟨_, rfl, rfl⟩, trivial⟩ (List.nil_sublist _)
  · repeat (first | refine sy_k rfl rfl ?_ | (refine gO ?_; first | refine sy_ov (ov_p rfl) rfl rfl ?_ | (refine gK ?_; refine sy_ov (ov_lens rfl) rfl rfl ?_)) | (refine sy_cond_f rfl ?_ ?_; focus (first | with_reducible rfl | assumption | omega | (simp <;> first | omega | assumption))) | refine sy_rt ?_)
    exact ret1 rfl rfl rfl
end Go.Proofs.Yteiejcililponaa
