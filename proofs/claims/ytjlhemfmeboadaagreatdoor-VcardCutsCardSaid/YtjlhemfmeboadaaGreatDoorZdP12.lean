/- Contracts of functions that the statements of this seat reach: under the conditions named at each theorem. -/
import Derived.Test.YtjlhemfmeboadaaGreatDoorZdP11
namespace Go.Proofs.YtjlhemfmeboadaaGreatDoor
set_option linter.unusedVariables false
set_option linter.unusedSimpArgs false
open Go Go.Av Go.RowKit

theorem lines_fold {s : Bytes} (h : okT s) (hs : s ≠ []) : linesR (fold s) = [s] := by
  have h1 : unf (fold s) = s := by
    have := unf_fold s [] h
    rwa [List.append_nil, unf_nil, List.append_nil] at this
  unfold linesR
  rw [h1, linesU_cons hs, cutB_no s 10 (fun e => (h _ e).1 rfl)]; rfl
theorem ne_at0 {s : Bytes} (h : s ≠ []) : ∃ c, s[0]? = some c := by
  cases s with
  | nil => exact (h rfl).elim
  | cons c t => exact ⟨c, rfl⟩
theorem x0t {s : Bytes} {c : UInt8} (h : s[0]? = some c) : evIndex Tryz.prog 9 (.str s) (.int .i64 0) = some (.int .u8 c.toNat) := xi9 (n := 0) h
theorem fold_le (s : Bytes) : (fold s).length ≤ 4 * s.length := by
  have := foldN_le s.length 75 s (by decide)
  unfold fold; omega

set_option maxRecDepth 8000 in
theorem vcardFolds (s : Bytes) : PureFn Tryz.prog 5 [.str s] (.ret (.bool true)) := by
  have hk := knownV
  by_cases q0 : s.length > 2000
  case pos =>
    refine PureFn.of Tryz.func5 rfl (enters_call enters Tryz.func5 rfl) (by simp [Tryz.ntmps5]) ?_
    show W Tryz.prog 61 0 none _ _ _
    refine W.vc (by decide) ?_
    repeat' (first | (simp (disch := first | omega | (simp only [List.length_append, List.length_cons, List.length_nil, List.length_map, List.length_set]; omega)) only [VC_seq, VC_cond, VC_ret, VC_region, VI_true, VO_nil, VO_plain, VV_some, VS, ofV_bool, ofV_int, deN_str, callOf, isPanic, nextOf, altA, evalOp, ev_tmp, ev_const, ev_func, Av.get, St.put, argT, thenQ, Nat.reduceEqDiff, ↓reduceIte, List.map_nil, List.append_nil, Option.map_some, b_gtr, decide_eq_true, ls9]) | (guard_target =~ VCall _ _ _ _ _ _ _; refine VCall.pure (by first | with_reducible exact hk) (by (first | rfl | (simp only [AV.hfs, AV.hf, Bool.and_self, Bool.and_true, Bool.true_and, strs_hfs]))) ?_) | (guard_target =~ DCal _ _ _ _ _ _ _; refine DCal.pure (by first | with_reducible exact hk) (by (first | rfl | (simp only [AV.hfs, AV.hf, Bool.and_self, Bool.and_true, Bool.true_and, strs_hfs]))) ?_))
    exact ⟨_, rfl, _, rfl, .refl _⟩
  have h1 := foldV s (by omega)
  have h2 := foldR s (by omega)
  have hfl := fold_le s
  have h3 := unfoldV (fold s) (by omega)
  obtain ⟨F, hF⟩ : ∃ F, F = fold s := ⟨_, rfl⟩
  rw [← hF] at h1 h2 h3
  obtain ⟨L, hL⟩ : ∃ L, L = linesR F := ⟨_, rfl⟩
  rw [← hL] at h3
  refine PureFn.of Tryz.func5 rfl (enters_call enters Tryz.func5 rfl) (by simp [Tryz.ntmps5]) ?_
  show W Tryz.prog 61 0 none _ _ _
  refine W.vc (by decide) ?_
  repeat' (first | (simp (disch := first | omega | (simp only [List.length_append, List.length_cons, List.length_nil, List.length_map, List.length_set]; omega)) only [VC_skip, VC_seq, VC_cond, VC_block, VC_region, VC_loop, VI_false, VO_nil, VO_plain, VV_some, VS, ofV_bool, ofV_int, deN_str, callOf, isPanic, nextOf, altA, evalOp, ev_tmp, ev_const, ev_func, Av.get, St.put, argT, thenQ, Nat.reduceEqDiff, ↓reduceIte, List.map_cons, List.map_nil, List.nil_append, List.append_nil, Option.map_some, Bool.not_true, b_gtr, s_neq, decide_eq_false, ls9, beq_self_eq_true, bne]) | (guard_target =~ VCall _ _ _ _ _ _ _; refine VCall.pure (by first | with_reducible exact h1 | with_reducible exact h2) (by (first | rfl | (simp only [AV.hfs, AV.hf, Bool.and_self, Bool.and_true, Bool.true_and, strs_hfs]))) ?_) | (guard_target =~ DCal _ _ _ _ _ _ _; refine DCal.pure (by first | with_reducible exact h1 | with_reducible exact h2) (by (first | rfl | (simp only [AV.hfs, AV.hf, Bool.and_self, Bool.and_true, Bool.true_and, strs_hfs]))) ?_))
  refine W.loopT (X := Nat) (fun i => [(4, .int .i64 (i : Int)), (0, .str s), (3, .str F)]) (fun _ => []) (fun i => i ≤ s.length ∧ okT (s.take i)) (fun i => s.length - i) 0 ⟨Nat.zero_le _, by intro x hx; simp at hx⟩ ⟨rfl, rfl, rfl, trivial⟩ rfl ?_
  rintro i ⟨hi, hok⟩
  refine .vc (by decide) ?_
  by_cases h : i < s.length
  · obtain ⟨y, hy, _⟩ := drop_at h
    by_cases c1 : y.toNat = 10
    · repeat' (first | (simp (disch := first | omega | (simp only [List.length_append, List.length_cons, List.length_nil, List.length_map, List.length_set]; omega)) only [VC_skip, VC_seq, VC_cond, VC_block, VC_ret, VC_region, VI_true, VO_nil, VO_plain, VO_guard, VG_false, VV_some, VS, blockQ, ofV_bool, ofV_int, deN_str, gdA, callOf, isPanic, nextOf, altA, evalOp, ev_tmp, ev_const, ev_func, Av.get, St.put, thenQ, Nat.reduceEqDiff, ↓reduceIte, List.map_nil, List.append_nil, List.getElem?_cons_zero, List.getElem?_cons_succ, List.getElem?_toArray, Option.map_some, Option.bind_some, beq_false, Bool.not_true, pickA, b_lss, b_eql, ieq_t, decide_eq_true, ls9, xi9 hy]) | (guard_target =~ VCall _ _ _ _ _ _ _; refine VCall.pure (by first | with_reducible exact hk) (by (first | rfl | (simp only [AV.hfs, AV.hf, Bool.and_self, Bool.and_true, Bool.true_and, strs_hfs]))) ?_) | (guard_target =~ DCal _ _ _ _ _ _ _; refine DCal.pure (by first | with_reducible exact hk) (by (first | rfl | (simp only [AV.hfs, AV.hf, Bool.and_self, Bool.and_true, Bool.true_and, strs_hfs]))) ?_))
      exact ⟨_, rfl, _, rfl, .refl _⟩
    · by_cases c2 : y.toNat = 13
      · repeat' (first | (simp (disch := first | omega | (simp only [List.length_append, List.length_cons, List.length_nil, List.length_map, List.length_set]; omega)) only [VC_skip, VC_seq, VC_cond, VC_block, VC_ret, VC_region, VI_true, VO_nil, VO_plain, VO_guard, VG_true, VV_some, VS, blockQ, ofV_bool, ofV_int, deN_str, gdA, callOf, isPanic, nextOf, altA, evalOp, ev_tmp, ev_const, ev_func, Av.get, St.put, thenQ, Nat.reduceEqDiff, ↓reduceIte, List.map_nil, List.append_nil, List.getElem?_cons_zero, List.getElem?_cons_succ, List.getElem?_toArray, Option.map_some, Option.bind_some, beq_false, Bool.not_false, pickA, cond_false, b_lss, b_eql, ieq_t, ieq_f, decide_eq_true, ls9, xi9 hy]) | (guard_target =~ VCall _ _ _ _ _ _ _; refine VCall.pure (by first | with_reducible exact hk) (by (first | rfl | (simp only [AV.hfs, AV.hf, Bool.and_self, Bool.and_true, Bool.true_and, strs_hfs]))) ?_) | (guard_target =~ DCal _ _ _ _ _ _ _; refine DCal.pure (by first | with_reducible exact hk) (by (first | rfl | (simp only [AV.hfs, AV.hf, Bool.and_self, Bool.and_true, Bool.true_and, strs_hfs]))) ?_))
        exact ⟨_, rfl, _, rfl, .refl _⟩
      · repeat' (first | (simp (disch := first | omega | (simp only [List.length_append, List.length_cons, List.length_nil, List.length_map, List.length_set]; omega)) only [VC_skip, VC_seq, VC_cond, VC_block, VC_region, VI_true, VI_false, VO_nil, VO_plain, VO_guard, VG_true, VV_some, VS, blockQ, ofV_bool, ofV_int, deN_str, gdA, callOf, isPanic, nextOf, altA, evalOp, ev_tmp, ev_const, Av.get, St.put, thenQ, Nat.reduceEqDiff, ↓reduceIte, List.getElem?_cons_zero, List.getElem?_cons_succ, List.getElem?_toArray, Option.map_some, Option.bind_some, beq_false, Bool.not_false, pickA, cond_false, and_self, and_true, b_lss, b_eql, b_add64, ieq_f, castS, decide_eq_true, ls9, xi9 hy]))
        refine ⟨i + 1, ⟨by omega, ?_⟩, by omega, ⟨rfl, rfl, rfl, trivial⟩⟩
        intro x hx
        rw [List.take_add_one, hy] at hx
        rcases List.mem_append.1 hx with hx | hx
        · exact hok x hx
        · simp at hx; subst hx
          exact ⟨fun e => c1 (by rw [e]; rfl), fun e => c2 (by rw [e]; rfl)⟩
  · have e : i = s.length := by omega
    subst e
    rw [List.take_length] at hok
    by_cases c0 : s = []
    · have e0 : (s == []) = true := by simp [c0]
      repeat' (first | (simp (disch := first | omega | (simp only [List.length_append, List.length_cons, List.length_nil, List.length_map, List.length_set]; omega)) only [VC_seq, VC_cond, VC_exit, VC_ret, VC_region, VI_true, VI_false, VO_nil, VO_plain, VO_guard, VG_false, VV_some, VS, blockQ, ofV_bool, ofV_lit, deN_str, gdA, callOf, isPanic, nextOf, altA, evalOp, ev_tmp, ev_const, ev_func, Av.get, St.put, thenQ, Nat.reduceEqDiff, ↓reduceIte, List.map_nil, List.append_nil, List.getElem?_cons_zero, List.getElem?_cons_succ, List.getElem?_toArray, Option.map_some, Option.bind_some, beq_false, Bool.not_true, pickA, b_lss, s_eql, decide_eq_false, ls9, e0]) | (guard_target =~ VCall _ _ _ _ _ _ _; refine VCall.pure (by first | with_reducible exact hk) (by (first | rfl | (simp only [AV.hfs, AV.hf, Bool.and_self, Bool.and_true, Bool.true_and, strs_hfs]))) ?_) | (guard_target =~ DCal _ _ _ _ _ _ _; refine DCal.pure (by first | with_reducible exact hk) (by (first | rfl | (simp only [AV.hfs, AV.hf, Bool.and_self, Bool.and_true, Bool.true_and, strs_hfs]))) ?_))
      exact ⟨_, rfl, _, rfl, .refl _⟩
    · have e0 : (s == []) = false := by simp [c0]
      obtain ⟨y, hy⟩ := ne_at0 c0
      by_cases c1 : y.toNat = 32
      · repeat' (first | (simp (disch := first | omega | (simp only [List.length_append, List.length_cons, List.length_nil, List.length_map, List.length_set]; omega)) only [VC_seq, VC_cond, VC_exit, VC_ret, VC_region, VI_true, VI_false, VO_nil, VO_plain, VO_guard, VG_true, VG_false, VV_some, VS, blockQ, ofV_bool, ofV_int, ofV_lit, deN_str, gdA, callOf, isPanic, nextOf, altA, evalOp, ev_tmp, ev_const, ev_func, Av.get, St.put, thenQ, Nat.reduceEqDiff, ↓reduceIte, List.map_nil, List.append_nil, List.getElem?_cons_zero, List.getElem?_cons_succ, List.getElem?_toArray, Option.map_some, Option.bind_some, beq_false, Bool.not_true, Bool.not_false, pickA, cond_false, b_lss, b_eql, s_eql, ieq_t, decide_eq_false, ls9, e0, x0t hy]) | (guard_target =~ VCall _ _ _ _ _ _ _; refine VCall.pure (by first | with_reducible exact hk) (by (first | rfl | (simp only [AV.hfs, AV.hf, Bool.and_self, Bool.and_true, Bool.true_and, strs_hfs]))) ?_) | (guard_target =~ DCal _ _ _ _ _ _ _; refine DCal.pure (by first | with_reducible exact hk) (by (first | rfl | (simp only [AV.hfs, AV.hf, Bool.and_self, Bool.and_true, Bool.true_and, strs_hfs]))) ?_))
        exact ⟨_, rfl, _, rfl, .refl _⟩
      · by_cases c2 : y.toNat = 9
        · repeat' (first | (simp (disch := first | omega | (simp only [List.length_append, List.length_cons, List.length_nil, List.length_map, List.length_set]; omega)) only [VC_seq, VC_cond, VC_exit, VC_ret, VC_region, VI_true, VI_false, VO_nil, VO_plain, VO_guard, VG_true, VV_some, VS, blockQ, ofV_bool, ofV_int, ofV_lit, deN_str, gdA, callOf, isPanic, nextOf, altA, evalOp, ev_tmp, ev_const, ev_func, Av.get, St.put, thenQ, Nat.reduceEqDiff, ↓reduceIte, List.map_nil, List.append_nil, List.getElem?_cons_zero, List.getElem?_cons_succ, List.getElem?_toArray, Option.map_some, Option.bind_some, beq_false, Bool.not_false, pickA, cond_false, b_lss, b_eql, s_eql, ieq_t, ieq_f, decide_eq_false, ls9, e0, x0t hy]) | (guard_target =~ VCall _ _ _ _ _ _ _; refine VCall.pure (by first | with_reducible exact hk) (by (first | rfl | (simp only [AV.hfs, AV.hf, Bool.and_self, Bool.and_true, Bool.true_and, strs_hfs]))) ?_) | (guard_target =~ DCal _ _ _ _ _ _ _; refine DCal.pure (by first | with_reducible exact hk) (by (first | rfl | (simp only [AV.hfs, AV.hf, Bool.and_self, Bool.and_true, Bool.true_and, strs_hfs]))) ?_))
          exact ⟨_, rfl, _, rfl, .refl _⟩
        · have hLs : L = [s] := by rw [hL, hF]; exact lines_fold hok c0
          rw [hLs] at h3
          have hia : ∀ H, evIndexAddr Tryz.prog 38 (.vsl 0 false [.str s]) (.int .i64 0) H = some (.vptr [.str s]) := fun H => iv38 (n := 0) (es := [.str s]) (v := .str s) rfl rfl H
          simp only [List.map_cons, List.map_nil] at h3
          repeat' (first | (simp (disch := first | omega | (simp only [List.length_append, List.length_cons, List.length_nil, List.length_map, List.length_set]; omega)) only [VC_skip, VC_seq, VC_cond, VC_exit, VC_ret, VC_region, VI_false, VO_nil, VO_plain, VO_guard, VG_true, VV_some, VS, blockQ, ofV_bool, ofV_int, ofV_lit, deN_vsl, deN_str, gdA, callOf, isPanic, nextOf, altA, evalOp, ev_tmp, ev_const, ev_func, Av.get, St.put, thenQ, Nat.reduceEqDiff, ↓reduceIte, List.map_cons, List.map_nil, List.nil_append, List.append_nil, List.getElem?_cons_zero, List.getElem?_cons_succ, List.getElem?_toArray, Option.map_some, Option.bind_some, pickA, cond_true, cond_false, List.length_cons, List.length_nil, Nat.zero_add, b_lss, b_eql, s_eql, ieq_t, ieq_f, decide_eq_false, lw9, ls9, lv38, e0, x0t hy, hia, beq_self_eq_true]) | (guard_target =~ VCall _ _ _ _ _ _ _; refine VCall.pure (by first | with_reducible exact h3 | with_reducible exact hk) (by (first | rfl | (simp only [AV.hfs, AV.hf, Bool.and_self, Bool.and_true, Bool.true_and, strs_hfs]))) ?_) | (guard_target =~ DCal _ _ _ _ _ _ _; refine DCal.pure (by first | with_reducible exact h3 | with_reducible exact hk) (by (first | rfl | (simp only [AV.hfs, AV.hf, Bool.and_self, Bool.and_true, Bool.true_and, strs_hfs]))) ?_))
          exact ⟨_, rfl, _, rfl, .refl _⟩
end Go.Proofs.YtjlhemfmeboadaaGreatDoor
namespace Go.Proofs.YtjlhemfmeboadaaGreatDoor
set_option linter.unusedVariables false
set_option linter.unusedSimpArgs false
open Go Go.Av Go.RowKit

theorem parse_unf {s : Bytes} {c : Cd} (h : checkC c = 0) (hs : s.length ≤ 16000) (hu : unf s = joined (lineL c)) : parseO s = (lowC c, 0) := by
  obtain ⟨h1, h2⟩ := checkC_right h
  refine parse_lines hs h (by unfold linesR; rw [hu, lines_joined _ (fun t ht => (lineL_ok h1 t ht).1)]; rfl) (by decide) (by decide) (lnR_ver _) ?_ (by rw [hu]; exact joined_last _ (by simp [lineL]))
  rw [List.map_map]
  apply List.map_congr_left
  intro l hl
  simp only [rightC, Bool.and_eq_true, List.all_eq_true] at h1
  exact lnR_told (h1.2 l hl)
def brk (x : UInt8) : Bool := x == 10 || x == 13 || x == 32 || x == 9
theorem brk_no {x : UInt8} (h : brk x = false) : x ≠ 10 ∧ x ≠ 13 ∧ x ≠ 32 ∧ x ≠ 9 := by
  simpa [brk, and_assoc] using h
theorem lk_ax {x : UInt8} (hx : brk x = false) (r : Bytes) : ∀ a : Bytes, lk (a ++ x :: r) = lk (a ++ [x]) ∧ lk (a ++ x :: r) ≤ a.length := by
  obtain ⟨h1, h2, h3, h4⟩ := brk_no hx
  intro a
  match a with
  | [] => simp [lk_other h2 h1]
  | [y] =>
    by_cases e : y = 10
    · subst e; simp [lk_10, h3, h4]
    · by_cases e2 : y = 13
      · subst e2; simp [lk_13n h1]
      · simp [lk_other e2 e]
  | [y, z] =>
    by_cases e : y = 10
    · subst e; simp only [List.cons_append, List.nil_append, lk_10]; split <;> simp
    · by_cases e2 : y = 13
      · subst e2
        by_cases e3 : z = 10
        · subst e3; simp [lk_1310, h3, h4]
        · simp [lk_13n e3]
      · simp [lk_other e2 e]
  | y :: z :: w :: a =>
    by_cases e : y = 10
    · subst e; simp only [List.cons_append, lk_10]; split <;> simp
    · by_cases e2 : y = 13
      · subst e2
        by_cases e3 : z = 10
        · subst e3; simp only [List.cons_append, lk_1310]; split <;> simp
        · simp [lk_13n e3]
      · simp [lk_other e2 e]
theorem unf_split {x : UInt8} (hx : brk x = false) (r : Bytes) : ∀ (n : Nat) (a : Bytes), a.length ≤ n → unf (a ++ x :: r) = unf (a ++ [x]) ++ unf r
  | n, [], _ => by
    obtain ⟨h1, h2, _, _⟩ := brk_no hx
    simp only [List.nil_append]
    rw [unf_cons0 _ _ (lk_other h2 h1), unf_cons0 x [] (lk_other h2 h1), unf_nil]; rfl
  | 0, y :: a, h => by simp at h
  | n + 1, y :: a, h => by
    have h' : a.length ≤ n := by simpa using h
    obtain ⟨k1, k2⟩ := lk_ax hx r (y :: a)
    by_cases h0 : lk (y :: a ++ x :: r) = 0
    · have h0' : lk (y :: a ++ [x]) = 0 := by rw [← k1]; exact h0
      rw [List.cons_append] at h0 ⊢
      rw [List.cons_append] at h0' ⊢
      rw [unf_cons0 _ _ h0, unf_cons0 _ _ h0', unf_split hx r n a h']; rfl
    · have h0' : lk (y :: a ++ [x]) ≠ 0 := by rw [← k1]; exact h0
      rw [unf_drop _ h0, unf_drop _ h0', ← k1, List.drop_append_of_le_length k2, List.drop_append_of_le_length k2]
      exact unf_split hx r n _ (by simp only [List.length_drop, List.length_cons]; omega)
theorem unf_ins {x : UInt8} (hx : brk x = false) (a b : Bytes) (t : Bool) : unf (a ++ x :: ((if t then [13, 10, 9] else [10, 32]) ++ b)) = unf (a ++ x :: b) := by
  rw [unf_split hx _ _ a (Nat.le_refl _), unf_split hx b _ a (Nat.le_refl _)]
  congr 1
  cases t with
  | true =>
    have : lk (13 :: 10 :: 9 :: b) = 3 := by rw [lk_1310]; simp
    simp only [if_true, List.cons_append, List.nil_append]
    rw [unf_drop _ (by rw [this]; decide), this]; rfl
  | false =>
    have : lk (10 :: 32 :: b) = 2 := by rw [lk_10]; simp
    simp only [Bool.false_eq_true, if_false, List.cons_append, List.nil_append]
    rw [unf_drop _ (by rw [this]; decide), this]; rfl

theorem breaksV (x : UInt8) : PureFn Tryz.prog 24 [.int .u8 x.toNat] (.ret (.bool (brk x))) := by
  have e : brk x = (decide (x.toNat = 10) || decide (x.toNat = 13) || decide (x.toNat = 32) || decide (x.toNat = 9)) := by
    have := u8_all (fun x => brk x == (decide (x.toNat = 10) || decide (x.toNat = 13) || decide (x.toNat = 32) || decide (x.toNat = 9))) (by decide +kernel) x
    simpa using this
  rw [e]
  refine PureFn.of Tryz.func24 rfl (enters_call enters Tryz.func24 rfl) (by simp [Tryz.ntmps24]) ?_
  show W Tryz.prog 17 0 none _ _ _
  refine W.vc (by decide) ?_
  by_cases h1 : x.toNat = 10
  · rw [decide_eq_true h1]
    simp only [Bool.true_or]
    repeat' (first | (simp (disch := first | omega | (simp only [List.length_append, List.length_cons, List.length_nil, List.length_map, List.length_set]; omega)) only [VC_seq, VC_ret, VC_region, VO_nil, VO_plain, VO_guard, VG_false, VV_some, VS, ofV_bool, ofV_int, gdA, callOf, isPanic, nextOf, altA, evalOp, ev_tmp, ev_const, Av.get, St.put, argT, thenQ, Nat.reduceEqDiff, ↓reduceIte, List.getElem?_cons_zero, List.getElem?_cons_succ, List.getElem?_toArray, Option.bind_some, beq_false, Bool.not_true, pickA, b_eql, ieq_t]))
    exact ⟨_, rfl, _, rfl, .refl _⟩
  by_cases h2 : x.toNat = 13
  · rw [decide_eq_true h2]
    simp only [Bool.true_or, Bool.or_true]
    repeat' (first | (simp (disch := first | omega | (simp only [List.length_append, List.length_cons, List.length_nil, List.length_map, List.length_set]; omega)) only [VC_seq, VC_ret, VC_region, VO_nil, VO_plain, VO_guard, VG_true, VG_false, VV_some, VS, ofV_bool, ofV_int, gdA, callOf, isPanic, nextOf, altA, evalOp, ev_tmp, ev_const, Av.get, St.put, argT, thenQ, Nat.reduceEqDiff, ↓reduceIte, List.getElem?_cons_zero, List.getElem?_cons_succ, List.getElem?_toArray, Option.bind_some, beq_false, Bool.not_true, Bool.not_false, pickA, cond_false, b_eql, ieq_t, ieq_f]))
    exact ⟨_, rfl, _, rfl, .refl _⟩
  by_cases h3 : x.toNat = 32
  · rw [decide_eq_true h3]
    simp only [Bool.true_or, Bool.or_true]
    repeat' (first | (simp (disch := first | omega | (simp only [List.length_append, List.length_cons, List.length_nil, List.length_map, List.length_set]; omega)) only [VC_seq, VC_ret, VC_region, VO_nil, VO_plain, VO_guard, VG_true, VG_false, VV_some, VS, ofV_bool, ofV_int, gdA, callOf, isPanic, nextOf, altA, evalOp, ev_tmp, ev_const, Av.get, St.put, argT, thenQ, Nat.reduceEqDiff, ↓reduceIte, List.getElem?_cons_zero, List.getElem?_cons_succ, List.getElem?_toArray, Option.bind_some, beq_false, Bool.not_true, Bool.not_false, pickA, cond_false, b_eql, ieq_t, ieq_f]))
    exact ⟨_, rfl, _, rfl, .refl _⟩
  by_cases h4 : x.toNat = 9
  · rw [decide_eq_true h4]
    simp only [Bool.true_or, Bool.or_true]
    repeat' (first | (simp (disch := first | omega | (simp only [List.length_append, List.length_cons, List.length_nil, List.length_map, List.length_set]; omega)) only [VC_seq, VC_ret, VC_region, VO_nil, VO_plain, VO_guard, VG_true, VV_some, VS, ofV_bool, ofV_int, gdA, callOf, isPanic, nextOf, altA, evalOp, ev_tmp, ev_const, Av.get, St.put, argT, thenQ, Nat.reduceEqDiff, ↓reduceIte, List.getElem?_cons_zero, List.getElem?_cons_succ, List.getElem?_toArray, Option.bind_some, beq_false, Bool.not_false, pickA, cond_false, b_eql, ieq_t, ieq_f]))
    exact ⟨_, rfl, _, rfl, .refl _⟩
  rw [decide_eq_false h1, decide_eq_false h2, decide_eq_false h3, decide_eq_false h4]
  repeat' (first | (simp (disch := first | omega | (simp only [List.length_append, List.length_cons, List.length_nil, List.length_map, List.length_set]; omega)) only [VC_seq, VC_ret, VC_region, VO_nil, VO_plain, VO_guard, VG_true, VV_some, VS, ofV_bool, ofV_int, gdA, callOf, isPanic, nextOf, altA, evalOp, ev_tmp, ev_const, Av.get, St.put, argT, thenQ, Nat.reduceEqDiff, ↓reduceIte, List.getElem?_cons_zero, List.getElem?_cons_succ, List.getElem?_toArray, Option.bind_some, beq_false, Bool.not_false, pickA, cond_false, b_eql, ieq_f, Bool.or_false]))
  exact ⟨_, rfl, _, rfl, .refl _⟩

def intsA (l : List Int) : List AV := l.map (.int .i64)
theorem ints_len (l : List Int) : (intsA l).length = l.length := by simp [intsA]

set_option maxRecDepth 8000 in
theorem vcardCuts (c : Cd) (x1 x2 : Bool) (at' fo : List Int) : PureFn Tryz.prog 7 [encCd c, .vsl 0 x1 (intsA at'), .vsl 0 x2 (intsA fo)] (.ret (.bool true)) := by
  have hl := lightV c
  have hk := knownV
  have ht := textV c
  have hs : sameC (lowC c) c = true := sameC_low c
  have hr := sameRf (lowC c) c
  rw [hs] at hr
  obtain ⟨no, hno⟩ : ∃ no, no = checkC c := ⟨_, rfl⟩
  obtain ⟨s0, hs0⟩ : ∃ s0, s0 = textC c := ⟨_, rfl⟩
  rw [← hno, ← hs0] at ht
  have hnb : no ≤ 3 := by rw [hno]; unfold checkC; split; split <;> simp; simp
  have hpp : ∀ s : Bytes, no = 0 → s.length ≤ 16000 → unf s = joined (lineL c) → PureFn Tryz.prog 16 [.str s] (outP (lowC c, 0)) := by
    intro s h1 h2 h3
    have := parseV s (by omega)
    rw [parse_unf (by omega) h2 h3] at this
    exact this
  have hu0 : no = 0 → unf s0 = joined (lineL c) := by
    intro h
    have h0 : checkC c = 0 := by omega
    rw [hs0, textC, if_pos h0]
    exact unf_laid (checkC_right h0).1
  have hsb : no = 0 → s0.length ≤ 16000 := by
    intro h
    have h0 : checkC c = 0 := by omega
    rw [hs0, textC, if_pos h0]; exact (checkC_right h0).2
  generalize lightB c = lb at *
  generalize lineL c = LL at *
  generalize lowC c = d at *
  obtain ⟨ver, x, ls⟩ := c
  obtain ⟨ver', x', ls'⟩ := d
  simp only [encCd] at hl ht hr hpp ⊢
  clear hno hs hs0
  refine PureFn.of Tryz.func7 rfl (enters_call enters Tryz.func7 rfl) (by simp [Tryz.ntmps7]) ?_
  show W Tryz.prog 112 0 none _ _ _
  refine W.vc (by decide) ?_
  cases lb with
  | false =>
    repeat' (first | (simp (disch := first | omega | (simp only [List.length_append, List.length_cons, List.length_nil, List.length_map, List.length_set]; omega)) only [VC_seq, VC_cond, VC_ret, VC_region, VI_true, VO_nil, VO_plain, VO_guard, VG_false, VV_some, VS, u_notb, AV.told, ofV_bool, gdA, callOf, isPanic, nextOf, altA, evalOp, ev_tmp, ev_const, ev_func, Av.get, St.put, argT, thenQ, Nat.reduceEqDiff, ↓reduceIte, List.map_cons, List.map_nil, List.nil_append, List.append_nil, List.getElem?_cons_zero, List.getElem?_cons_succ, List.getElem?_toArray, Option.map_some, Option.bind_some, beq_false, Bool.not_true, Bool.not_false, pickA, ldG, cl_agg, List.length_cons, List.length_nil, Nat.reduceAdd, Nat.zero_add, List.drop_zero, List.take_succ_cons, List.take_zero, Nat.le_refl, ld24]) | (guard_target =~ VCall _ _ _ _ _ _ _; refine VCall.pure (by first | with_reducible exact hl | with_reducible exact hk) (by (first | rfl | (simp only [AV.hfs, AV.hf, Bool.and_self, Bool.and_true, Bool.true_and, strs_hfs, encLn_hfs]))) ?_) | (guard_target =~ DCal _ _ _ _ _ _ _; refine DCal.pure (by first | with_reducible exact hl | with_reducible exact hk) (by (first | rfl | (simp only [AV.hfs, AV.hf, Bool.and_self, Bool.and_true, Bool.true_and, strs_hfs, encLn_hfs]))) ?_))
    exact ⟨_, rfl, _, rfl, .refl _⟩
  | true =>
  by_cases q1 : at'.length > 20
  · repeat' (first | (simp (disch := first | omega | (simp only [List.length_append, List.length_cons, List.length_nil, List.length_map, List.length_set]; omega)) only [VC_seq, VC_cond, VC_ret, VC_region, VI_true, VO_nil, VO_plain, VO_guard, VG_true, VG_false, VV_some, VS, u_notb, AV.told, ofV_bool, ofV_int, deN_vsl, gdA, callOf, isPanic, nextOf, altA, evalOp, ev_tmp, ev_const, ev_func, Av.get, St.put, argT, thenQ, Nat.reduceEqDiff, ↓reduceIte, List.map_cons, List.map_nil, List.nil_append, List.append_nil, List.getElem?_cons_zero, List.getElem?_cons_succ, List.getElem?_toArray, Option.map_some, Option.bind_some, beq_false, Bool.not_true, Bool.not_false, pickA, cond_false, ldG, cl_agg, List.length_cons, List.length_nil, Nat.reduceAdd, Nat.zero_add, List.drop_zero, List.take_succ_cons, List.take_zero, Nat.le_refl, b_gtr, decide_eq_true, ld24, lv47, ints_len]) | (guard_target =~ VCall _ _ _ _ _ _ _; refine VCall.pure (by first | with_reducible exact hl | with_reducible exact hk) (by (first | rfl | (simp only [AV.hfs, AV.hf, Bool.and_self, Bool.and_true, Bool.true_and, strs_hfs, encLn_hfs]))) ?_) | (guard_target =~ DCal _ _ _ _ _ _ _; refine DCal.pure (by first | with_reducible exact hl | with_reducible exact hk) (by (first | rfl | (simp only [AV.hfs, AV.hf, Bool.and_self, Bool.and_true, Bool.true_and, strs_hfs, encLn_hfs]))) ?_))
    exact ⟨_, rfl, _, rfl, .refl _⟩
  by_cases q2 : fo.length > 20
  · repeat' (first | (simp (disch := first | omega | (simp only [List.length_append, List.length_cons, List.length_nil, List.length_map, List.length_set]; omega)) only [VC_seq, VC_cond, VC_ret, VC_region, VI_true, VO_nil, VO_plain, VO_guard, VG_true, VV_some, VS, u_notb, AV.told, ofV_bool, ofV_int, deN_vsl, gdA, callOf, isPanic, nextOf, altA, evalOp, ev_tmp, ev_const, ev_func, Av.get, St.put, argT, thenQ, Nat.reduceEqDiff, ↓reduceIte, List.map_cons, List.map_nil, List.nil_append, List.append_nil, List.getElem?_cons_zero, List.getElem?_cons_succ, List.getElem?_toArray, Option.map_some, Option.bind_some, beq_false, Bool.not_true, Bool.not_false, pickA, cond_false, ldG, cl_agg, List.length_cons, List.length_nil, Nat.reduceAdd, Nat.zero_add, List.drop_zero, List.take_succ_cons, List.take_zero, Nat.le_refl, b_gtr, decide_eq_true, decide_eq_false, ld24, lv47, ints_len]) | (guard_target =~ VCall _ _ _ _ _ _ _; refine VCall.pure (by first | with_reducible exact hl | with_reducible exact hk) (by (first | rfl | (simp only [AV.hfs, AV.hf, Bool.and_self, Bool.and_true, Bool.true_and, strs_hfs, encLn_hfs]))) ?_) | (guard_target =~ DCal _ _ _ _ _ _ _; refine DCal.pure (by first | with_reducible exact hl | with_reducible exact hk) (by (first | rfl | (simp only [AV.hfs, AV.hf, Bool.and_self, Bool.and_true, Bool.true_and, strs_hfs, encLn_hfs]))) ?_))
    exact ⟨_, rfl, _, rfl, .refl _⟩
  by_cases q3 : no = 0
  case neg =>
    have q3' : 0 < no := by omega
    repeat' (first | (simp (disch := first | omega | (simp only [List.length_append, List.length_cons, List.length_nil, List.length_map, List.length_set]; omega)) only [VC_skip, VC_seq, VC_cond, VC_ret, VC_region, VI_true, VI_false, VO_nil, VO_plain, VO_guard, VG_true, VG_false, VV_some, VS, u_notb, AV.told, ofV_bool, ofV_int, deN_vsl, gdA, callOf, isPanic, nextOf, altA, evalOp, ev_tmp, ev_const, ev_func, Av.get, St.put, argT, thenQ, Nat.reduceEqDiff, ↓reduceIte, List.map_cons, List.map_nil, List.nil_append, List.append_nil, List.getElem?_cons_zero, List.getElem?_cons_succ, List.getElem?_toArray, Option.map_some, Option.bind_some, beq_false, Bool.not_true, Bool.not_false, pickA, cond_false, ldG, cl_agg, List.length_cons, List.length_nil, Nat.reduceAdd, Nat.zero_add, List.drop_zero, List.take_succ_cons, List.take_zero, Nat.le_refl, b_gtr, b_neq, ine_t, decide_eq_false, ld24, lv47, ints_len]) | (guard_target =~ VCall _ _ _ _ _ _ _; refine VCall.pure (by first | with_reducible exact hl | with_reducible exact hk | with_reducible exact ht) (by (first | rfl | (simp only [AV.hfs, AV.hf, Bool.and_self, Bool.and_true, Bool.true_and, strs_hfs, encLn_hfs]))) ?_) | (guard_target =~ DCal _ _ _ _ _ _ _; refine DCal.pure (by first | with_reducible exact hl | with_reducible exact hk | with_reducible exact ht) (by (first | rfl | (simp only [AV.hfs, AV.hf, Bool.and_self, Bool.and_true, Bool.true_and, strs_hfs, encLn_hfs]))) ?_))
    exact ⟨_, rfl, _, rfl, .refl _⟩
  subst q3
  have hsb := hsb rfl
  have hmul : evBin Tryz.prog .mul 3 (.int .i64 4) (.int .i64 (at'.length : Int)) = some (.int .i64 ((4 * at'.length : Nat) : Int)) := by
    have : IntKind.i64.wrap (4 * (at'.length : Int)) = ((4 * at'.length : Nat) : Int) := by rw [Go.Av.wrap64 _ ⟨by omega, by omega⟩]; simp
    simp [evBin, this]
  by_cases q4 : s0.length + 4 * at'.length > 16000
  · repeat' (first | (simp (disch := first | omega | (simp only [List.length_append, List.length_cons, List.length_nil, List.length_map, List.length_set]; omega)) only [VC_skip, VC_seq, VC_cond, VC_ret, VC_region, VI_true, VI_false, VO_nil, VO_plain, VO_guard, VG_true, VV_some, VS, u_notb, AV.told, ofV_bool, ofV_int, deN_vsl, deN_str, gdA, callOf, isPanic, nextOf, altA, evalOp, ev_tmp, ev_const, ev_func, Av.get, St.put, argT, thenQ, Nat.reduceEqDiff, ↓reduceIte, List.map_cons, List.map_nil, List.nil_append, List.append_nil, List.getElem?_cons_zero, List.getElem?_cons_succ, List.getElem?_toArray, Option.map_some, Option.bind_some, beq_false, Bool.not_true, Bool.not_false, pickA, cond_false, ldG, cl_agg, List.length_cons, List.length_nil, Nat.reduceAdd, Nat.zero_add, List.drop_zero, List.take_succ_cons, List.take_zero, Nat.le_refl, b_gtr, b_neq, b_add64, ine_f, decide_eq_true, decide_eq_false, ls9, ld24, lv47, ints_len, hmul]) | (guard_target =~ VCall _ _ _ _ _ _ _; refine VCall.pure (by first | with_reducible exact hl | with_reducible exact hk | with_reducible exact ht) (by (first | rfl | (simp only [AV.hfs, AV.hf, Bool.and_self, Bool.and_true, Bool.true_and, strs_hfs, encLn_hfs]))) ?_) | (guard_target =~ DCal _ _ _ _ _ _ _; refine DCal.pure (by first | with_reducible exact hl | with_reducible exact hk | with_reducible exact ht) (by (first | rfl | (simp only [AV.hfs, AV.hf, Bool.and_self, Bool.and_true, Bool.true_and, strs_hfs, encLn_hfs]))) ?_))
    exact ⟨_, rfl, _, rfl, .refl _⟩
  have hsz := hu0 rfl
  repeat' (first | (simp (disch := first | omega | (simp only [List.length_append, List.length_cons, List.length_nil, List.length_map, List.length_set]; omega)) only [VC_skip, VC_seq, VC_cond, VC_block, VC_region, VC_loop, VI_false, VO_nil, VO_plain, VO_guard, VG_true, VV_some, VS, u_notb, AV.told, ofV_bool, ofV_int, deN_vsl, deN_str, gdA, callOf, isPanic, nextOf, altA, evalOp, ev_tmp, ev_const, ev_func, Av.get, St.put, argT, thenQ, Nat.reduceEqDiff, ↓reduceIte, List.map_cons, List.map_nil, List.nil_append, List.append_nil, List.getElem?_cons_zero, List.getElem?_cons_succ, List.getElem?_toArray, Option.map_some, Option.bind_some, beq_false, Bool.not_true, Bool.not_false, pickA, cond_false, ldG, cl_agg, List.length_cons, List.length_nil, Nat.reduceAdd, Nat.zero_add, List.drop_zero, List.take_succ_cons, List.take_zero, Nat.le_refl, b_gtr, b_neq, b_add64, ine_f, decide_eq_false, ls9, ld24, lv47, ints_len, hmul]) | (guard_target =~ VCall _ _ _ _ _ _ _; refine VCall.pure (by first | with_reducible exact hl | with_reducible exact hk | with_reducible exact ht) (by (first | rfl | (simp only [AV.hfs, AV.hf, Bool.and_self, Bool.and_true, Bool.true_and, strs_hfs, encLn_hfs]))) ?_) | (guard_target =~ DCal _ _ _ _ _ _ _; refine DCal.pure (by first | with_reducible exact hl | with_reducible exact hk | with_reducible exact ht) (by (first | rfl | (simp only [AV.hfs, AV.hf, Bool.and_self, Bool.and_true, Bool.true_and, strs_hfs, encLn_hfs]))) ?_))
  refine W.loopT (X := Nat × Bytes) (fun y => [(9, .int .i64 (y.1 : Int)), (7, .str y.2), (3, .ptr 0 0), (1, .vsl 0 x1 (intsA at')), (2, .vsl 0 x2 (intsA fo))]) (fun _ => [.cells [.str ver, .vsl 5 x (ls.map encLn)] false])
    (fun y => y.1 ≤ at'.length ∧ y.2.length ≤ s0.length + 4 * y.1 ∧ unf y.2 = joined LL) (fun y => at'.length - y.1) (0, s0) ⟨Nat.zero_le _, by simp, hsz⟩ ⟨rfl, rfl, rfl, rfl, rfl, trivial⟩ rfl ?_
  rintro ⟨i, s⟩ ⟨l1, l2, l3⟩
  simp only at l1 l2 l3 ⊢
  refine .vc (by decide) ?_
  by_cases h : i < at'.length
  · obtain ⟨k, hk', _⟩ := drop_at h
    have hia : ∀ H, evIndexAddr Tryz.prog 47 (.vsl 0 x1 (intsA at')) (.int .i64 (i : Int)) H = some (.vptr [.int .i64 k]) := fun H => iv47 (v := .int .i64 k) (by simp [intsA, hk']) rfl H
    have stay : ∃ y : Nat × Bytes, (y.1 ≤ at'.length ∧ y.2.length ≤ s0.length + 4 * y.1 ∧ unf y.2 = joined LL) ∧ at'.length - y.1 < at'.length - i ∧ y = (i + 1, s) := ⟨(i + 1, s), ⟨by simp only; omega, by simp only; omega, l3⟩, by simp only; omega, rfl⟩
    by_cases c1 : k ≤ 0
    · repeat' (first | (simp (disch := first | omega | (simp only [List.length_append, List.length_cons, List.length_nil, List.length_map, List.length_set]; omega)) only [VC_skip, VC_seq, VC_cond, VC_block, VC_exit, VC_region, VI_true, VO_nil, VO_plain, VO_guard, VG_false, VV_some, VS, blockQ, ofV_bool, ofV_int, deN_vsl, gdA, callOf, isPanic, nextOf, altA, evalOp, ev_tmp, ev_const, Av.get, St.put, thenQ, Nat.reduceEqDiff, ↓reduceIte, List.getElem?_cons_zero, List.getElem?_cons_succ, List.getElem?_toArray, Option.map_some, Option.bind_some, beq_false, Bool.not_true, pickA, and_self, and_true, b_lss, b_leq, b_add64, castS, decide_eq_true, lw3, lv47, ints_len, hia]))
      exact ⟨(i + 1, s), ⟨by simp only; omega, by simp only; omega, l3⟩, by simp only; omega, ⟨rfl, rfl, rfl, rfl, rfl, trivial⟩⟩
    obtain ⟨n, rfl⟩ : ∃ n : Nat, k = (n : Int) := ⟨k.toNat, by omega⟩
    by_cases c2 : n ≥ s.length
    · repeat' (first | (simp (disch := first | omega | (simp only [List.length_append, List.length_cons, List.length_nil, List.length_map, List.length_set]; omega)) only [VC_skip, VC_seq, VC_cond, VC_block, VC_exit, VC_region, VI_true, VO_nil, VO_plain, VO_guard, VG_true, VG_false, VV_some, VS, blockQ, ofV_bool, ofV_int, deN_vsl, deN_str, gdA, callOf, isPanic, nextOf, altA, evalOp, ev_tmp, ev_const, Av.get, St.put, thenQ, Nat.reduceEqDiff, ↓reduceIte, List.getElem?_cons_zero, List.getElem?_cons_succ, List.getElem?_toArray, Option.map_some, Option.bind_some, beq_false, Bool.not_true, Bool.not_false, pickA, cond_false, and_self, and_true, b_lss, b_leq, b_geq, b_add64, castS, decide_eq_true, decide_eq_false, lw3, ls9, lv47, ints_len, hia]))
      exact ⟨(i + 1, s), ⟨by simp only; omega, by simp only; omega, l3⟩, by simp only; omega, ⟨rfl, rfl, rfl, rfl, rfl, trivial⟩⟩
    obtain ⟨y, hy, hyd⟩ := drop_at (show n < s.length by omega)
    have hb := breaksV y
    cases c3 : brk y with
    | true =>
      rw [c3] at hb
      repeat' (first | (simp (disch := first | omega | (simp only [List.length_append, List.length_cons, List.length_nil, List.length_map, List.length_set]; omega)) only [VC_skip, VC_seq, VC_cond, VC_block, VC_exit, VC_region, VI_true, VO_nil, VO_plain, VO_guard, VG_true, VG_false, VV_some, VS, blockQ, ofV_bool, ofV_int, deN_vsl, deN_str, gdA, callOf, isPanic, nextOf, altA, evalOp, ev_tmp, ev_const, ev_func, Av.get, St.put, thenQ, Nat.reduceEqDiff, ↓reduceIte, List.map_cons, List.map_nil, List.nil_append, List.append_nil, List.getElem?_cons_zero, List.getElem?_cons_succ, List.getElem?_toArray, Option.map_some, Option.bind_some, beq_false, Bool.not_true, Bool.not_false, pickA, cond_false, and_self, and_true, b_lss, b_leq, b_geq, b_add64, castS, decide_eq_true, decide_eq_false, lw3, ls9, lv47, ints_len, hia, xi9 hy]) | (guard_target =~ VCall _ _ _ _ _ _ _; refine VCall.pure (by first | with_reducible exact hb) (by (first | rfl | (simp only [AV.hfs, AV.hf, Bool.and_self, Bool.and_true, Bool.true_and, strs_hfs]))) ?_) | (guard_target =~ DCal _ _ _ _ _ _ _; refine DCal.pure (by first | with_reducible exact hb) (by (first | rfl | (simp only [AV.hfs, AV.hf, Bool.and_self, Bool.and_true, Bool.true_and, strs_hfs]))) ?_))
      exact ⟨(i + 1, s), ⟨by simp only; omega, by simp only; omega, l3⟩, by simp only; omega, ⟨rfl, rfl, rfl, rfl, rfl, trivial⟩⟩
    | false =>
      rw [c3] at hb
      obtain ⟨z, hz, hzd⟩ := drop_at (show n - 1 < s.length by omega)
      have hb2 := breaksV z
      have hxz : evIndex Tryz.prog 9 (.str s) (.int .i64 ((n : Int) - 1)) = some (.int .u8 z.toNat) := by
        have : ((n : Int) - 1) = ((n - 1 : Nat) : Int) := by omega
        rw [this]; exact xi9 hz
      cases c4 : brk z with
      | true =>
        rw [c4] at hb2
        repeat' (first | (simp (disch := first | omega | (simp only [List.length_append, List.length_cons, List.length_nil, List.length_map, List.length_set]; omega)) only [VC_skip, VC_seq, VC_cond, VC_block, VC_exit, VC_region, VI_true, VO_nil, VO_plain, VO_guard, VG_true, VV_some, VS, blockQ, ofV_bool, ofV_int, deN_vsl, deN_str, gdA, callOf, isPanic, nextOf, altA, evalOp, ev_tmp, ev_const, ev_func, Av.get, St.put, thenQ, Nat.reduceEqDiff, ↓reduceIte, List.map_cons, List.map_nil, List.nil_append, List.append_nil, List.getElem?_cons_zero, List.getElem?_cons_succ, List.getElem?_toArray, Option.map_some, Option.bind_some, beq_false, Bool.not_false, pickA, cond_false, and_self, and_true, b_lss, b_leq, b_geq, b_add64, b_sub64, castS, decide_eq_true, decide_eq_false, lw3, ls9, lv47, ints_len, hia, hxz, xi9 hy]) | (guard_target =~ VCall _ _ _ _ _ _ _; refine VCall.pure (by first | with_reducible exact hb | with_reducible exact hb2) (by (first | rfl | (simp only [AV.hfs, AV.hf, Bool.and_self, Bool.and_true, Bool.true_and, strs_hfs]))) ?_) | (guard_target =~ DCal _ _ _ _ _ _ _; refine DCal.pure (by first | with_reducible exact hb | with_reducible exact hb2) (by (first | rfl | (simp only [AV.hfs, AV.hf, Bool.and_self, Bool.and_true, Bool.true_and, strs_hfs]))) ?_))
        exact ⟨(i + 1, s), ⟨by simp only; omega, by simp only; omega, l3⟩, by simp only; omega, ⟨rfl, rfl, rfl, rfl, rfl, trivial⟩⟩
      | false =>
        rw [c4] at hb2
        have hzt : s = s.take (n - 1) ++ z :: s.drop n := by
          have e : n - 1 + 1 = n := by omega
          rw [e] at hzd
          rw [← hzd, List.take_append_drop]
        have hins : ∀ b : Bool, unf (s.take n ++ (if b then [13, 10, 9] else [10, 32]) ++ s.drop n) = joined LL := by
          intro b
          have e : s.take n ++ (if b then [13, 10, 9] else [10, 32]) ++ s.drop n = s.take (n - 1) ++ z :: ((if b then [13, 10, 9] else [10, 32]) ++ s.drop n) := by
            have e1 : s.take n = s.take (n - 1) ++ [z] := by
              have := List.take_add_one (l := s) (i := n - 1)
              rw [show n - 1 + 1 = n from by omega, hz] at this
              exact this
            rw [e1]; simp
          rw [e, unf_ins c4, ← hzt]; exact l3
        have hlen : ∀ b : Bool, (s.take n ++ (if b then [13, 10, 9] else [10, 32]) ++ s.drop n).length ≤ s0.length + 4 * (i + 1) := by
          intro b; cases b <;> simp <;> omega
        have hst : evSlice Tryz.prog 9 (.str s) none (some (.int .i64 (n : Int))) none = some (.str (s.take n)) := by
          rw [ss9, bnds_to _ _ (by omega)]; rfl
        have hsd : evSlice Tryz.prog 9 (.str s) (some (.int .i64 (n : Int))) none none = some (.str (s.drop n)) := by
          rw [ss9, bnds_from _ _ (by omega)]; simp only [Option.map_some, take_drop_all]
        have had1 : ∀ t : Bytes, t.length ≤ 3 → evBin Tryz.prog .add 9 (.str (s.take n)) (.str t) = some (.str (s.take n ++ t)) := by
          intro t ht3
          exact sadd _ _ (by have : (s.take n).length ≤ s.length := by simp; omega
                             show _ ≤ 9223372036854775807; omega)
        have had2 : ∀ t : Bytes, t.length ≤ 3 → evBin Tryz.prog .add 9 (.str (s.take n ++ t)) (.str (s.drop n)) = some (.str (s.take n ++ t ++ s.drop n)) := by
          intro t ht3
          exact sadd _ _ (by simp only [List.length_append, List.length_take, List.length_drop]; show _ ≤ 9223372036854775807; omega)
        by_cases c5 : i < fo.length
        · obtain ⟨f, hf, _⟩ := drop_at c5
          have hib : ∀ H, evIndexAddr Tryz.prog 47 (.vsl 0 x2 (intsA fo)) (.int .i64 (i : Int)) H = some (.vptr [.int .i64 f]) := fun H => iv47 (v := .int .i64 f) (by simp [intsA, hf]) rfl H
          obtain ⟨m, hm⟩ : ∃ m, evBin Tryz.prog .rem 3 (.int .i64 f) (.int .i64 2) = some (.int .i64 m) := ⟨_, by simp [evBin]; rfl⟩
          by_cases c6 : m = 0
          · repeat' (first | (simp (disch := first | omega | (simp only [List.length_append, List.length_cons, List.length_nil, List.length_map, List.length_set]; omega)) only [VC_skip, VC_seq, VC_cond, VC_block, VC_region, VC_drawn, VI_true, VI_false, VO_nil, VO_plain, VO_guard, VG_true, VV_some, VS, ofV_bool, ofV_int, ofV_lit, deN_vsl, deN_str, gdA, callOf, isPanic, nextOf, altA, evalOp, ev_tmp, ev_const, ev_func, Av.get, St.put, thenQ, Nat.reduceEqDiff, ↓reduceIte, List.map_cons, List.map_nil, List.nil_append, List.append_nil, List.getElem?_cons_zero, List.getElem?_cons_succ, List.getElem?_toArray, Option.map_some, Option.bind_some, beq_false, beq_true, Bool.not_false, pickA, cond_true, cond_false, b_lss, b_leq, b_geq, b_eql, b_sub64, ieq_t, decide_eq_true, decide_eq_false, lw3, ls9, lv47, ints_len, hia, hib, hm, hxz, xi9 hy]) | (guard_target =~ VCall _ _ _ _ _ _ _; refine VCall.pure (by first | with_reducible exact hb | with_reducible exact hb2) (by (first | rfl | (simp only [AV.hfs, AV.hf, Bool.and_self, Bool.and_true, Bool.true_and, strs_hfs]))) ?_) | (guard_target =~ DCal _ _ _ _ _ _ _; refine DCal.pure (by first | with_reducible exact hb | with_reducible exact hb2) (by (first | rfl | (simp only [AV.hfs, AV.hf, Bool.and_self, Bool.and_true, Bool.true_and, strs_hfs]))) ?_))
            refine W.drawN [] [false, false, false, false, false, false, false, false, false, false] [] mixed (by kernel_rfl) (by kernel_rfl) (by kernel_rfl) ?_
            repeat' (first | (simp (disch := first | omega | (simp only [List.length_append, List.length_cons, List.length_nil, List.length_map, List.length_set]; omega)) only [VC_region, VO_nil, VO_plain, VV_some, VS, blockQ, DT_nil, DT_plain, DS, cHs_f, cHs_n, cPs, lastS_1, lastS_2, ofV_int, deN_str, callOf, isPanic, nextOf, altA, evalOp, ev_tmp, ev_const, Av.get, St.put, thenQ, Nat.reduceEqDiff, ↓reduceIte, List.nil_append, Option.map_some, Option.map_none, and_self, true_and, and_true, List.cons_append, b_add64, castS, hst, hsd, had1 [13, 10, 9] (by decide), had2 [13, 10, 9] (by decide)]))
            exact ⟨(i + 1, _), ⟨by simp only; omega, hlen true, hins true⟩, by simp only; omega, ⟨rfl, rfl, rfl, rfl, rfl, trivial⟩⟩
          · repeat' (first | (simp (disch := first | omega | (simp only [List.length_append, List.length_cons, List.length_nil, List.length_map, List.length_set]; omega)) only [VC_skip, VC_seq, VC_cond, VC_block, VC_region, VC_drawn, VI_true, VI_false, VO_nil, VO_plain, VO_guard, VG_true, VV_some, VS, ofV_bool, ofV_int, ofV_lit, deN_vsl, deN_str, gdA, callOf, isPanic, nextOf, altA, evalOp, ev_tmp, ev_const, ev_func, Av.get, St.put, thenQ, Nat.reduceEqDiff, ↓reduceIte, List.map_cons, List.map_nil, List.nil_append, List.append_nil, List.getElem?_cons_zero, List.getElem?_cons_succ, List.getElem?_toArray, Option.map_some, Option.bind_some, beq_false, beq_true, Bool.not_false, pickA, cond_true, cond_false, b_lss, b_leq, b_geq, b_eql, b_sub64, ieq_f, decide_eq_true, decide_eq_false, lw3, ls9, lv47, ints_len, hia, hib, hm, hxz, xi9 hy]) | (guard_target =~ VCall _ _ _ _ _ _ _; refine VCall.pure (by first | with_reducible exact hb | with_reducible exact hb2) (by (first | rfl | (simp only [AV.hfs, AV.hf, Bool.and_self, Bool.and_true, Bool.true_and, strs_hfs]))) ?_) | (guard_target =~ DCal _ _ _ _ _ _ _; refine DCal.pure (by first | with_reducible exact hb | with_reducible exact hb2) (by (first | rfl | (simp only [AV.hfs, AV.hf, Bool.and_self, Bool.and_true, Bool.true_and, strs_hfs]))) ?_))
            refine W.drawN [] [false, false, false, false, false, false, false, false, false, false] [] mixed (by kernel_rfl) (by kernel_rfl) (by kernel_rfl) ?_
            repeat' (first | (simp (disch := first | omega | (simp only [List.length_append, List.length_cons, List.length_nil, List.length_map, List.length_set]; omega)) only [VC_region, VO_nil, VO_plain, VV_some, VS, blockQ, DT_nil, DT_plain, DS, cHs_f, cHs_n, cPs, lastS_1, lastS_2, ofV_int, deN_str, callOf, isPanic, nextOf, altA, evalOp, ev_tmp, ev_const, Av.get, St.put, thenQ, Nat.reduceEqDiff, ↓reduceIte, List.nil_append, Option.map_some, Option.map_none, and_self, true_and, and_true, List.cons_append, b_add64, castS, hst, hsd, had1 [10, 32] (by decide), had2 [10, 32] (by decide)]))
            exact ⟨(i + 1, _), ⟨by simp only; omega, hlen false, hins false⟩, by simp only; omega, ⟨rfl, rfl, rfl, rfl, rfl, trivial⟩⟩
        · repeat' (first | (simp (disch := first | omega | (simp only [List.length_append, List.length_cons, List.length_nil, List.length_map, List.length_set]; omega)) only [VC_skip, VC_seq, VC_cond, VC_block, VC_region, VC_drawn, VI_true, VI_false, VO_nil, VO_plain, VO_guard, VG_true, VG_false, VV_some, VS, ofV_bool, ofV_int, ofV_lit, deN_vsl, deN_str, gdA, callOf, isPanic, nextOf, altA, evalOp, ev_tmp, ev_const, ev_func, Av.get, St.put, thenQ, Nat.reduceEqDiff, ↓reduceIte, List.map_cons, List.map_nil, List.nil_append, List.append_nil, List.getElem?_cons_zero, List.getElem?_cons_succ, List.getElem?_toArray, Option.map_some, Option.bind_some, beq_false, beq_true, Bool.not_false, Bool.false_eq_true, pickA, cond_false, b_lss, b_leq, b_geq, b_sub64, decide_eq_true, decide_eq_false, lw3, ls9, lv47, ints_len, hia, hxz, xi9 hy]) | (guard_target =~ VCall _ _ _ _ _ _ _; refine VCall.pure (by first | with_reducible exact hb | with_reducible exact hb2) (by (first | rfl | (simp only [AV.hfs, AV.hf, Bool.and_self, Bool.and_true, Bool.true_and, strs_hfs]))) ?_) | (guard_target =~ DCal _ _ _ _ _ _ _; refine DCal.pure (by first | with_reducible exact hb | with_reducible exact hb2) (by (first | rfl | (simp only [AV.hfs, AV.hf, Bool.and_self, Bool.and_true, Bool.true_and, strs_hfs]))) ?_))
          refine W.drawN [] [false, false, false, false, false, false, false, false, false, false] [] mixed (by kernel_rfl) (by kernel_rfl) (by kernel_rfl) ?_
          repeat' (first | (simp (disch := first | omega | (simp only [List.length_append, List.length_cons, List.length_nil, List.length_map, List.length_set]; omega)) only [VC_region, VO_nil, VO_plain, VV_some, VS, blockQ, DT_nil, DT_plain, DS, cHs_f, cHs_n, cPs, lastS_1, lastS_2, ofV_int, deN_str, callOf, isPanic, nextOf, altA, evalOp, ev_tmp, ev_const, Av.get, St.put, thenQ, Nat.reduceEqDiff, ↓reduceIte, List.nil_append, Option.map_some, Option.map_none, and_self, true_and, and_true, List.cons_append, b_add64, castS, hst, hsd, had1 [10, 32] (by decide), had2 [10, 32] (by decide)]))
          exact ⟨(i + 1, _), ⟨by simp only; omega, hlen false, hins false⟩, by simp only; omega, ⟨rfl, rfl, rfl, rfl, rfl, trivial⟩⟩
  · have e : i = at'.length := by omega
    subst e
    have hp := hpp s rfl (by omega) l3
    simp only [outP, encCd] at hp
    repeat' (first | (simp (disch := first | omega | (simp only [List.length_append, List.length_cons, List.length_nil, List.length_map, List.length_set]; omega)) only [VC_seq, VC_cond, VC_exit, VC_ret, VC_region, VI_false, VO_nil, VO_plain, VO_guard, VG_true, VV_some, VS, blockQ, ofV_bool, ofV_int, deN_vsl, gdA, callOf, isPanic, nextOf, altA, evalOp, ev_tmp, ev_const, ev_func, Av.get, St.put, thenQ, Nat.reduceEqDiff, ↓reduceIte, Bool.and_self, List.map_cons, List.map_nil, List.nil_append, List.append_nil, List.getElem?_cons_zero, List.getElem?_cons_succ, List.getElem?_toArray, Option.map_some, Option.bind_some, pickA, cond_true, ldG, stC, ic_str, ic_vsl, cl_agg, setC, List.set_cons_zero, List.set_cons_succ, List.length_cons, List.length_nil, Nat.reduceAdd, List.all_cons, List.all_nil, and_self, Nat.zero_add, List.drop_zero, List.take_succ_cons, List.take_zero, Nat.le_refl, List.cons_append, b_lss, b_eql, ieq_t, decide_eq_false, st24, ld24, lv47, zz24, ints_len, beq_self_eq_true]) | (guard_target =~ VCall _ _ _ _ _ _ _; refine VCall.pure (by first | with_reducible exact hp | with_reducible exact hr | with_reducible exact hk) (by (first | rfl | (simp only [AV.hfs, AV.hf, Bool.and_self, Bool.and_true, Bool.true_and, strs_hfs, encLn_hfs]))) ?_) | (guard_target =~ DCal _ _ _ _ _ _ _; refine DCal.pure (by first | with_reducible exact hp | with_reducible exact hr | with_reducible exact hk) (by (first | rfl | (simp only [AV.hfs, AV.hf, Bool.and_self, Bool.and_true, Bool.true_and, strs_hfs, encLn_hfs]))) ?_))
    exact ⟨_, rfl, _, rfl, .refl _⟩
end Go.Proofs.YtjlhemfmeboadaaGreatDoor
namespace Go.Proofs.YtjlhemfmeboadaaGreatDoor
set_option linter.unusedVariables false
set_option linter.unusedSimpArgs false
open Go Go.Av Go.ChangeShapes Go.WideShapes Go.ChangeAt Go.RowKit

section
variable {H : Type} {enc : TypeId × Value → H} {w : World} {base : Nat} {sp : Nat → Bool} {held : Bool}
theorem coI : Tryz.prog.cellsOf 3 = 1 := by kernel_rfl
theorem opensI : Opens enc Tryz.prog w base sp held 3 (fun v => ∃ x : Int, v = .int .i64 x) := by
  intro fuel cs x h
  obtain ⟨n, h1, _⟩ := DataW.trod_int Tryz.underlying3 h
  subst h1
  exact ⟨_, ⟨n, rfl⟩, .cons _ _ _ _ (.int _ _) .nil⟩
theorem opensIs : Opens enc Tryz.prog w base sp held 47 (fun v => ∃ e : List Int, v = .vsl 0 false (intsA e)) := by
  intro fuel cs x h
  obtain ⟨v, ⟨es, h1, rfl⟩, h2⟩ := opens_slice (wd := 0) Tryz.underlying47 coI (by decide) opensI fuel cs x h
  obtain ⟨l, rfl⟩ := list_form h1
  exact ⟨_, ⟨l, rfl⟩, h2⟩
set_option maxRecDepth 100000 in
theorem open_ints {v : Value} {d : DataW H} {ps : List MemPlace} {r : Reach} {b0 : Nat} (hval : Value.okWide Tryz.prog w r b0 47 v) (hd : DataW.Trod enc Tryz.prog w base sp held 47 v d ps) :
    ∃ e : List Int, VR (allF w) w noμ (.vsl 0 false (intsA e)) v := by
  obtain ⟨u, ⟨e, rfl⟩, h⟩ := open_slice_arg Tryz.underlying47 opensIs hval hd (by rintro _ ⟨e, rfl⟩; rfl)
  exact ⟨e, h⟩
end
theorem vcardCuts0 (c : Cd) (a b : List Int) : PureFn Tryz.prog 7 [encCd c, .vsl 0 false (intsA a), .vsl 0 false (intsA b)] (.ret (.bool true)) := vcardCuts c false false a b
end Go.Proofs.YtjlhemfmeboadaaGreatDoor
namespace Go.Proofs.YtjlhemfmeboadaaGreatDoor
set_option linter.unusedVariables false
set_option linter.unusedSimpArgs false
open Go Go.Av Go.RowKit

def alt1 (j : Nat) (x : UInt8) : UInt8 := if 65 ≤ x.toNat ∧ x.toNat ≤ 90 ∧ j % 2 = 0 then x + 32 else x
def altP : Nat → Bytes → Bytes
  | _, [] => []
  | j, x :: t => alt1 j x :: altP (j + 1) t
theorem altP_len : ∀ (j : Nat) (s : Bytes), (altP j s).length = s.length
  | _, [] => rfl
  | j, x :: t => by simp [altP, altP_len (j + 1) t]
theorem altP_app : ∀ (j : Nat) (a b : Bytes), altP j (a ++ b) = altP j a ++ altP (j + a.length) b
  | j, [], b => rfl
  | j, x :: a, b => by
    simp only [List.cons_append, altP, altP_app (j + 1) a b, List.length_cons]
    rw [show j + 1 + a.length = j + (a.length + 1) from by omega]
theorem low_alt (j : Nat) (x : UInt8) : low (alt1 j x) = low x := by
  unfold alt1
  split
  · rename_i h
    have := u8_all (fun x => !(decide (65 ≤ x.toNat ∧ x.toNat ≤ 90)) || low (x + 32) == low x) (by decide +kernel) x
    simpa [h.1, h.2.1] using this
  · rfl
theorem small_alt : ∀ (j : Nat) (s : Bytes), small (altP j s) = small s
  | _, [] => rfl
  | j, x :: t => by
    have ih := small_alt (j + 1) t
    simp only [small, altP, List.map_cons, low_alt] at ih ⊢
    rw [ih]
theorem alt_one {j : Nat} {d : UInt8} (h : d = 46 ∨ d = 59) : altP j [d] = [d] := by
  rcases h with e | e <;> subst e <;> simp [altP, alt1]
def altL (j : Nat) (t : Bytes) : Bytes := altP j (t.take (leadN [58, 61] t)) ++ t.drop (leadN [58, 61] t)
theorem altL_len (j : Nat) (t : Bytes) : (altL j t).length = t.length := by
  have := leadN_le [58, 61] t
  simp only [altL, List.length_append, altP_len, List.length_take, List.length_drop]; omega
theorem small_altL (j : Nat) (t : Bytes) : small (altL j t) = small t := by
  have : small t = small (t.take (leadN [58, 61] t) ++ t.drop (leadN [58, 61] t)) := by rw [List.take_append_drop]
  rw [this]
  simp only [altL, small, List.map_append]
  have h := small_alt j (t.take (leadN [58, 61] t))
  simp only [small] at h
  rw [h]
theorem altL_at {j : Nat} {a r : Bytes} {d : UInt8} (ha : ∀ x ∈ a, x ∉ ([58, 61] : Bytes)) (hd : d = 58 ∨ d = 61) : altL j (a ++ d :: r) = altP j a ++ d :: r := by
  have : leadN [58, 61] (a ++ d :: r) = a.length := by
    rw [leadN_app _ _ _ ha]
    rcases hd with e | e <;> subst e <;> simp [leadN]
  simp only [altL, this, List.take_left, List.drop_left]
theorem name_no2 {s : Bytes} (h : nameB s = true) : ∀ x ∈ s, x ∉ ([58, 61] : Bytes) := by
  intro x hx hm
  have h1 := (name_nm h).2 x hx
  simp only [List.mem_cons, List.not_mem_nil, or_false] at hm
  rcases hm with e | e <;> subst e <;> exact absurd h1 (by decide)
theorem name_alt {s : Bytes} (j : Nat) (h : nameB s = true) : nameB (altP j s) = true := by rw [nameB_of (small_alt j s)]; exact h
theorem one_no2 {d : UInt8} (h : d = 46 ∨ d = 59) : ∀ x ∈ [d], x ∉ ([58, 61] : Bytes) := by
  intro x hx; simp at hx; subst hx; rcases h with e | e <;> subst e <;> decide
theorem app_no2 {a b : Bytes} (h1 : ∀ x ∈ a, x ∉ ([58, 61] : Bytes)) (h2 : ∀ x ∈ b, x ∉ ([58, 61] : Bytes)) : ∀ x ∈ a ++ b, x ∉ ([58, 61] : Bytes) := by
  intro x hx; rcases List.mem_append.1 hx with h | h
  · exact h1 x h
  · exact h2 x h
def hdT (g n : Bytes) : Bytes := if g = [] then n else g ++ [46] ++ n
theorem altL_line (j : Nat) {g n : Bytes} {ps : List (Bytes × Bytes)} {v : Bytes} (hg : g = [] ∨ nameB g = true) (hn : nameB n = true) (hp : ∀ p ∈ ps, paramB p = true) :
    ∃ g' n' ps', altL j (lineT g n ps v) = lineT g' n' ps' v ∧ (g' = [] ∨ nameB g' = true) ∧ nameB n' = true ∧ (∀ p ∈ ps', paramB p = true) ∧ small g' = small g ∧ small n' = small n ∧ (ps'.map fun p => (small p.1, p.2)) = ps.map fun p => (small p.1, p.2) := by
  have hh : ∃ g' n', altP j (hdT g n) = hdT g' n' ∧ (g' = [] ∨ nameB g' = true) ∧ nameB n' = true ∧ small g' = small g ∧ small n' = small n := by
    by_cases h0 : g = []
    · subst h0
      exact ⟨[], altP j n, rfl, .inl rfl, name_alt j hn, rfl, small_alt j n⟩
    · have hg := hg.resolve_left h0
      refine ⟨altP j g, altP (j + (g.length + 1)) n, ?_, .inr (name_alt j hg), name_alt _ hn, small_alt j g, small_alt _ n⟩
      have h1 : altP j g ≠ [] := by
        intro e; apply h0
        have := altP_len j g; rw [e] at this; exact List.length_eq_zero_iff.1 this.symm
      simp only [hdT, if_neg h0, if_neg h1, altP_app, alt_one (.inl rfl), List.length_append, List.length_singleton]
  have hno : ∀ x ∈ hdT g n, x ∉ ([58, 61] : Bytes) := by
    unfold hdT
    split
    · exact name_no2 hn
    · rename_i h0
      exact app_no2 (app_no2 (name_no2 (hg.resolve_left h0)) (one_no2 (.inl rfl))) (name_no2 hn)
  obtain ⟨g', n', h1, h2, h3, h4, h5⟩ := hh
  have hlt : ∀ g n ps, lineT g n ps v = hdT g n ++ (ps.map parV).flatten ++ [58] ++ v := fun _ _ _ => rfl
  cases ps with
  | nil =>
    refine ⟨g', n', [], ?_, h2, h3, by simp, h4, h5, rfl⟩
    have e : lineT g n [] v = hdT g n ++ 58 :: v := by rw [hlt]; simp
    rw [e, altL_at hno (.inl rfl), h1, hlt]; simp
  | cons p ps =>
    have hp0 := hp p (by simp)
    have hpn : nameB p.1 = true := by simp only [paramB, Bool.and_eq_true] at hp0; exact hp0.1.1
    refine ⟨g', n', (altP (j + ((hdT g n).length + 1)) p.1, p.2) :: ps, ?_, h2, h3, ?_, h4, h5, by simp [small_alt]⟩
    · have e : lineT g n (p :: ps) v = (hdT g n ++ [59] ++ p.1) ++ 61 :: (qv p.2 ++ ((ps.map parV).flatten ++ [58] ++ v)) := by rw [hlt]; simp [parV]
      rw [e, altL_at (app_no2 (app_no2 hno (one_no2 (.inr rfl))) (name_no2 hpn)) (.inr rfl), hlt, altP_app, altP_app, h1, alt_one (.inr rfl)]
      simp [parV]
    · intro q hq
      rcases List.mem_cons.1 hq with e | e
      · subst e; rw [paramB_low p _ (small_alt _ _)]; exact hp0
      · exact hp q (List.mem_cons_of_mem _ e)

/-! ### The text of such lines -/
def lfed (L : List Bytes) : Bytes := (L.map fun x => x ++ [10]).flatten
theorem lfed_cons (x : Bytes) (L : List Bytes) : lfed (x :: L) = x ++ 10 :: lfed L := by simp [lfed]
theorem low_eol (x : UInt8) : (low x = 10 ↔ x = 10) ∧ (low x = 13 ↔ x = 13) ∧ (low x = 9 ↔ x = 9) ∧ (low x = 32 ↔ x = 32) := by
  have := u8_all (fun x => (decide (low x = 10) == decide (x = 10)) && (decide (low x = 13) == decide (x = 13)) && (decide (low x = 9) == decide (x = 9)) && (decide (low x = 32) == decide (x = 32))) (by decide +kernel) x
  simpa [and_assoc] using this
theorem okT_small (t : Bytes) : okT (small t) ↔ okT t := by
  unfold okT small
  constructor
  · intro h x hx
    have := h (low x) (List.mem_map.2 ⟨x, hx, rfl⟩)
    exact ⟨fun e => this.1 ((low_eol x).1.2 e), fun e => this.2 ((low_eol x).2.1.2 e)⟩
  · intro h y hy
    obtain ⟨x, hx, rfl⟩ := List.mem_map.1 hy
    have := h x hx
    exact ⟨fun e => this.1 ((low_eol x).1.1 e), fun e => this.2 ((low_eol x).2.1.1 e)⟩
theorem noB_small (t : Bytes) : noB (small t) ↔ noB t := by
  cases t with
  | nil => simp [noB, small]
  | cons x t => simp [noB, small, (low_eol x).2.2.1, (low_eol x).2.2.2]
theorem lnOK_alt {j : Nat} {t : Bytes} (h : lnOK t) : lnOK (altL j t) := by
  refine ⟨(okT_small _).1 ?_, ?_, (noB_small _).1 ?_⟩
  · rw [small_altL]; exact (okT_small t).2 h.1
  · intro e
    have := altL_len j t
    rw [e] at this
    exact h.2.1 (List.length_eq_zero_iff.1 this.symm)
  · rw [small_altL]; exact (noB_small t).2 h.2.2
theorem lfed_noB : ∀ (L : List Bytes), (∀ t ∈ L, lnOK t) → noB (lfed L)
  | [], _ => by simp [noB, lfed]
  | x :: L, h => by
    obtain ⟨_, h1, h2⟩ := h x (by simp)
    have h0 : 0 < x.length := List.length_pos_iff.2 h1
    rw [lfed_cons]; unfold noB
    rw [List.getElem?_append_left h0]; exact h2
theorem unf_lf1 {b : Bytes} (h : noB b) : unf (10 :: b) = 10 :: unf b := by
  cases b with
  | nil => rfl
  | cons y t =>
    have h9 : ¬ (y = 9 ∨ y = 32) := by
      intro e; rcases e with e | e <;> subst e
      · exact h.1 rfl
      · exact h.2 rfl
    rw [unf_cons0 _ _ (by rw [lk_10, if_neg h9])]
theorem unf_lfed : ∀ (L : List Bytes), (∀ t ∈ L, lnOK t) → unf (lfed L) = lfed L
  | [], _ => rfl
  | x :: L, h => by
    have hL : ∀ t ∈ L, lnOK t := fun t ht => h t (List.mem_cons_of_mem _ ht)
    rw [lfed_cons, unf_app _ _ (h x (by simp)).1, unf_lf1 (lfed_noB L hL), unf_lfed L hL]
theorem lines_lfed : ∀ (L : List Bytes), (∀ t ∈ L, okT t) → linesU (lfed L) = L
  | [], _ => rfl
  | x :: L, h => by rw [lfed_cons, lines_lf (h x (by simp)), lines_lfed L (fun t ht => h t (List.mem_cons_of_mem _ ht))]
theorem lfed_last : ∀ (L : List Bytes), L ≠ [] → hasS (lfed L) [10] = true
  | [x], _ => by rw [lfed_cons]; exact hasS_app x _ rfl
  | x :: y :: L, _ => by rw [lfed_cons]; exact hasS_app x _ (hasS_app [10] _ (lfed_last (y :: L) (by simp)))
theorem foldN_ge : ∀ (k m : Nat) (s : Bytes), s.length ≤ (foldN k m s).length
  | 0, m, s => Nat.le_refl _
  | k + 1, m, s => by
    rw [foldN]
    split
    · have := foldN_ge k 74 (s.drop m)
      simp only [List.length_append, List.length_take, List.length_drop, List.length_cons, List.length_nil] at this ⊢; omega
    · exact Nat.le_refl _
theorem lfed_le (j : Nat) : ∀ (L : List Bytes), (lfed (L.map (altL j))).length ≤ (joined (L.map fold)).length
  | [] => Nat.le_refl _
  | x :: L => by
    have ih := lfed_le j L
    have h1 : x.length ≤ (fold x).length := foldN_ge _ _ _
    simp only [List.map_cons, lfed_cons, joined_cons, List.length_append, List.length_cons, altL_len] at ih ⊢; omega
theorem lnR_altT {l : Ln} (j : Nat) (h : lineB l = true) : lnR (altL j (told l)) = some (lowLn l) := by
  obtain ⟨h1, h2, h3⟩ := told_has h
  obtain ⟨g', n', ps', e1, e2, e3, e4, e5, e6, e7⟩ := altL_line j (v := l.v) h1 h2 h3
  have e : ((fun p : Bytes × Bytes => (small p.1, p.2)) ∘ fun p : Bytes × Bytes => (great p.1, p.2)) = fun p => (small p.1, p.2) := by funext p; simp [small_great]
  rw [told_T, e1, lnR_line e2 e3 e4, e5, e6, e7]
  simp only [lowLn, small_great, List.map_map, e]
theorem lnR_altV (j : Nat) (v : Bytes) : lnR (altL j (kVERSION ++ v)) = some ⟨[], sVersion, false, [], v⟩ := by
  have h : kVERSION ++ v = lineT [] [86, 69, 82, 83, 73, 79, 78] [] v := rfl
  obtain ⟨g', n', ps', e1, e2, e3, e4, e5, e6, e7⟩ := altL_line (g := []) (n := [86, 69, 82, 83, 73, 79, 78]) (ps := []) j (v := v) (.inl rfl) (by decide +kernel) (by simp)
  rw [h, e1, lnR_line e2 e3 e4, e5, e6, e7]; rfl
theorem parse_alt {c : Cd} (h : checkC c = 0) (j : Nat) : parseO (lfed ((lineL c).map (altL j))) = (lowC c, 0) := by
  obtain ⟨h1, h2⟩ := checkC_right h
  have hok : ∀ t ∈ (lineL c).map (altL j), lnOK t := by
    intro t ht
    obtain ⟨u, hu, rfl⟩ := List.mem_map.1 ht
    exact lnOK_alt (lineL_ok h1 u hu)
  have hu := unf_lfed _ hok
  have hlen : (lfed ((lineL c).map (altL j))).length ≤ 16000 := by
    have := lfed_le j (lineL c)
    have hv : version c.ver = true := by simp only [rightC, Bool.and_eq_true] at h1; exact h1.1.1
    rw [← laid_lines hv] at this; omega
  refine parse_lines (b := altL j kBEGIN) (w := altL j (kVERSION ++ c.ver)) (e := altL j kEND) (ts := (c.ls.map told).map (altL j)) hlen h ?_ (by rw [small_altL]; decide) (by rw [small_altL]; decide) (lnR_altV j _) ?_ (by rw [hu]; exact lfed_last _ (by simp [lineL]))
  · unfold linesR
    rw [hu, lines_lfed _ (fun t ht => (hok t ht).1)]
    simp [lineL]
  · rw [List.map_map, List.map_map]
    apply List.map_congr_left
    intro l hl
    simp only [rightC, Bool.and_eq_true, List.all_eq_true] at h1
    exact lnR_altT j (h1.2 l hl)
end Go.Proofs.YtjlhemfmeboadaaGreatDoor
namespace Go.Proofs.YtjlhemfmeboadaaGreatDoor
set_option linter.unusedVariables false
set_option linter.unusedSimpArgs false
open Go Go.Av Go.RowKit

def altN (k j : Nat) (t : Bytes) : Bytes := altP j (t.take k) ++ t.drop k
theorem altN_len (k j : Nat) (t : Bytes) : (altN k j t).length = t.length := by
  simp only [altN, List.length_append, altP_len, List.length_take, List.length_drop]; omega
theorem altN_0 (j : Nat) (t : Bytes) : altN 0 j t = t := by simp [altN, altP]
theorem altN_get {k j : Nat} {t : Bytes} {x : UInt8} (h : t[k]? = some x) : (altN k j t)[k]? = some x := by
  have hk := (List.getElem?_eq_some_iff.1 h).1
  have hl : (altP j (t.take k)).length = k := by rw [altP_len, List.length_take]; omega
  unfold altN
  rw [List.getElem?_append_right (by omega), hl, Nat.sub_self, List.getElem?_drop]; simpa using h
theorem altN_set {k j : Nat} {t : Bytes} {x : UInt8} (h : t[k]? = some x) : (altN k j t).set k (alt1 (j + k) x) = altN (k + 1) j t := by
  have hk := (List.getElem?_eq_some_iff.1 h).1
  have hl : (altP j (t.take k)).length = k := by rw [altP_len, List.length_take]; omega
  obtain ⟨y, hy, hd⟩ := drop_at hk
  rw [h] at hy; cases hy
  unfold altN
  rw [List.set_append_right _ _ (by omega), hl, Nat.sub_self, hd, List.take_add_one, h, altP_app, List.length_take, Nat.min_eq_left (by omega)]
  simp [altP]
theorem altN_same {k j : Nat} {t : Bytes} {x : UInt8} (h : t[k]? = some x) (ha : alt1 (j + k) x = x) : altN (k + 1) j t = altN k j t := by
  rw [← altN_set h, ha]
  exact set_same (altN_get h)

theorem alt_hi {j : Nat} {x : UInt8} (h1 : 65 ≤ x.toNat) (h2 : x.toNat ≤ 90) (h3 : j % 2 = 0) : (byteA (alt1 j x)) = .int .u8 ((x.toNat : Int) + 32) := by
  have e : alt1 j x = x + 32 := by unfold alt1; rw [if_pos ⟨h1, h2, h3⟩]
  rw [e]
  have : (x + 32).toNat = x.toNat + 32 := by rw [UInt8.toNat_add]; simp; omega
  simp [byteA, this]
theorem bytesA_set (s : Bytes) (k : Nat) (x : UInt8) : bytesA (s.set k x) = (bytesA s).set k (byteA x) := by simp [bytesA, List.map_set]

set_option maxRecDepth 8000 in
theorem vcardLetters (c : Cd) (n : Int) : PureFn Tryz.prog 8 [encCd c, .int .i64 n] (.ret (.bool true)) := by
  have hl := lightV c
  have hk := knownV
  have ht := textV c
  have hs : sameC (lowC c) c = true := sameC_low c
  have hr := sameRf (lowC c) c
  rw [hs] at hr
  obtain ⟨no, hno⟩ : ∃ no, no = checkC c := ⟨_, rfl⟩
  obtain ⟨s0, hs0⟩ : ∃ s0, s0 = textC c := ⟨_, rfl⟩
  rw [← hno, ← hs0] at ht
  have hnb : no ≤ 3 := by rw [hno]; unfold checkC; split; split <;> simp; simp
  have hpp : ∀ j : Nat, no = 0 → PureFn Tryz.prog 16 [.str (lfed ((lineL c).map (altL j)))] (outP (lowC c, 0)) ∧ (lfed ((lineL c).map (altL j))).length ≤ 16000 := by
    intro j h1
    have h0 : checkC c = 0 := by omega
    obtain ⟨g1, g2⟩ := checkC_right h0
    have hlen : (lfed ((lineL c).map (altL j))).length ≤ 16000 := by
      have := lfed_le j (lineL c)
      have hv : version c.ver = true := by simp only [rightC, Bool.and_eq_true] at g1; exact g1.1.1
      rw [← laid_lines hv] at this; omega
    have := parseV _ (show (lfed ((lineL c).map (altL j))).length ≤ 1000000 by omega)
    rw [parse_alt h0 j] at this
    exact ⟨this, hlen⟩
  have hun : no = 0 → PureFn Tryz.prog 20 [.str s0] (.ret (.vsl 0 false ((lineL c).map .str))) := by
    intro h
    have h0 : checkC c = 0 := by omega
    have h1 := unfoldV (laid c) (by have := (checkC_right h0).2; omega)
    rw [linesR_laid (checkC_right h0).1] at h1
    rw [hs0, textC, if_pos h0]; exact h1
  generalize lightB c = lb at *
  generalize lineL c = L at *
  generalize lowC c = d at *
  obtain ⟨ver, x, ls⟩ := c
  obtain ⟨ver', x', ls'⟩ := d
  simp only [encCd] at hl ht hr hpp ⊢
  clear hno hs hs0
  refine PureFn.of Tryz.func8 rfl (enters_call enters Tryz.func8 rfl) (by simp [Tryz.ntmps8]) ?_
  show W Tryz.prog 114 0 none _ _ _
  refine W.vc (by decide) ?_
  cases lb with
  | false =>
    repeat' (first | (simp (disch := first | omega | (simp only [List.length_append, List.length_cons, List.length_nil, List.length_map, List.length_set]; omega)) only [VC_seq, VC_cond, VC_ret, VC_region, VI_true, VO_nil, VO_plain, VO_guard, VG_false, VV_some, VS, u_notb, AV.told, ofV_bool, gdA, callOf, isPanic, nextOf, altA, evalOp, ev_tmp, ev_const, ev_func, Av.get, St.put, argT, thenQ, Nat.reduceEqDiff, ↓reduceIte, List.map_cons, List.map_nil, List.nil_append, List.append_nil, List.getElem?_cons_zero, List.getElem?_cons_succ, List.getElem?_toArray, Option.map_some, Option.bind_some, beq_false, Bool.not_true, Bool.not_false, pickA, ldG, cl_agg, List.length_cons, List.length_nil, Nat.reduceAdd, Nat.zero_add, List.drop_zero, List.take_succ_cons, List.take_zero, Nat.le_refl, ld24]) | (guard_target =~ VCall _ _ _ _ _ _ _; refine VCall.pure (by first | with_reducible exact hl | with_reducible exact hk) (by (first | rfl | (simp only [AV.hfs, AV.hf, Bool.and_self, Bool.and_true, Bool.true_and, strs_hfs, encLn_hfs]))) ?_) | (guard_target =~ DCal _ _ _ _ _ _ _; refine DCal.pure (by first | with_reducible exact hl | with_reducible exact hk) (by (first | rfl | (simp only [AV.hfs, AV.hf, Bool.and_self, Bool.and_true, Bool.true_and, strs_hfs, encLn_hfs]))) ?_))
    exact ⟨_, rfl, _, rfl, .refl _⟩
  | true =>
  by_cases q1 : n < 0
  · repeat' (first | (simp (disch := first | omega | (simp only [List.length_append, List.length_cons, List.length_nil, List.length_map, List.length_set]; omega)) only [VC_seq, VC_cond, VC_ret, VC_region, VI_true, VO_nil, VO_plain, VO_guard, VG_true, VG_false, VV_some, VS, u_notb, AV.told, ofV_bool, ofV_int, gdA, callOf, isPanic, nextOf, altA, evalOp, ev_tmp, ev_const, ev_func, Av.get, St.put, argT, thenQ, Nat.reduceEqDiff, ↓reduceIte, List.map_cons, List.map_nil, List.nil_append, List.append_nil, List.getElem?_cons_zero, List.getElem?_cons_succ, List.getElem?_toArray, Option.map_some, Option.bind_some, beq_false, Bool.not_true, Bool.not_false, pickA, cond_false, ldG, cl_agg, List.length_cons, List.length_nil, Nat.reduceAdd, Nat.zero_add, List.drop_zero, List.take_succ_cons, List.take_zero, Nat.le_refl, b_lss, decide_eq_true, ld24]) | (guard_target =~ VCall _ _ _ _ _ _ _; refine VCall.pure (by first | with_reducible exact hl | with_reducible exact hk) (by (first | rfl | (simp only [AV.hfs, AV.hf, Bool.and_self, Bool.and_true, Bool.true_and, strs_hfs, encLn_hfs]))) ?_) | (guard_target =~ DCal _ _ _ _ _ _ _; refine DCal.pure (by first | with_reducible exact hl | with_reducible exact hk) (by (first | rfl | (simp only [AV.hfs, AV.hf, Bool.and_self, Bool.and_true, Bool.true_and, strs_hfs, encLn_hfs]))) ?_))
    exact ⟨_, rfl, _, rfl, .refl _⟩
  by_cases q2 : n > 1000
  · repeat' (first | (simp (disch := first | omega | (simp only [List.length_append, List.length_cons, List.length_nil, List.length_map, List.length_set]; omega)) only [VC_seq, VC_cond, VC_ret, VC_region, VI_true, VO_nil, VO_plain, VO_guard, VG_true, VV_some, VS, u_notb, AV.told, ofV_bool, ofV_int, gdA, callOf, isPanic, nextOf, altA, evalOp, ev_tmp, ev_const, ev_func, Av.get, St.put, argT, thenQ, Nat.reduceEqDiff, ↓reduceIte, List.map_cons, List.map_nil, List.nil_append, List.append_nil, List.getElem?_cons_zero, List.getElem?_cons_succ, List.getElem?_toArray, Option.map_some, Option.bind_some, beq_false, Bool.not_true, Bool.not_false, pickA, cond_false, ldG, cl_agg, List.length_cons, List.length_nil, Nat.reduceAdd, Nat.zero_add, List.drop_zero, List.take_succ_cons, List.take_zero, Nat.le_refl, b_lss, b_gtr, decide_eq_true, decide_eq_false, ld24]) | (guard_target =~ VCall _ _ _ _ _ _ _; refine VCall.pure (by first | with_reducible exact hl | with_reducible exact hk) (by (first | rfl | (simp only [AV.hfs, AV.hf, Bool.and_self, Bool.and_true, Bool.true_and, strs_hfs, encLn_hfs]))) ?_) | (guard_target =~ DCal _ _ _ _ _ _ _; refine DCal.pure (by first | with_reducible exact hl | with_reducible exact hk) (by (first | rfl | (simp only [AV.hfs, AV.hf, Bool.and_self, Bool.and_true, Bool.true_and, strs_hfs, encLn_hfs]))) ?_))
    exact ⟨_, rfl, _, rfl, .refl _⟩
  obtain ⟨j, rfl⟩ : ∃ j : Nat, n = (j : Int) := ⟨n.toNat, by omega⟩
  by_cases q3 : no = 0
  case neg =>
    have q3' : 0 < no := by omega
    repeat' (first | (simp (disch := first | omega | (simp only [List.length_append, List.length_cons, List.length_nil, List.length_map, List.length_set]; omega)) only [VC_skip, VC_seq, VC_cond, VC_ret, VC_region, VI_true, VI_false, VO_nil, VO_plain, VO_guard, VG_true, VV_some, VS, u_notb, AV.told, ofV_bool, ofV_int, gdA, callOf, isPanic, nextOf, altA, evalOp, ev_tmp, ev_const, ev_func, Av.get, St.put, argT, thenQ, Nat.reduceEqDiff, ↓reduceIte, List.map_cons, List.map_nil, List.nil_append, List.append_nil, List.getElem?_cons_zero, List.getElem?_cons_succ, List.getElem?_toArray, Option.map_some, Option.bind_some, beq_false, Bool.not_true, Bool.not_false, pickA, cond_false, ldG, cl_agg, List.length_cons, List.length_nil, Nat.reduceAdd, Nat.zero_add, List.drop_zero, List.take_succ_cons, List.take_zero, Nat.le_refl, b_lss, b_gtr, b_neq, ine_t, decide_eq_false, ld24]) | (guard_target =~ VCall _ _ _ _ _ _ _; refine VCall.pure (by first | with_reducible exact hl | with_reducible exact hk | with_reducible exact ht) (by (first | rfl | (simp only [AV.hfs, AV.hf, Bool.and_self, Bool.and_true, Bool.true_and, strs_hfs, encLn_hfs]))) ?_) | (guard_target =~ DCal _ _ _ _ _ _ _; refine DCal.pure (by first | with_reducible exact hl | with_reducible exact hk | with_reducible exact ht) (by (first | rfl | (simp only [AV.hfs, AV.hf, Bool.and_self, Bool.and_true, Bool.true_and, strs_hfs, encLn_hfs]))) ?_))
    exact ⟨_, rfl, _, rfl, .refl _⟩
  subst q3
  obtain ⟨hp, hpl⟩ := hpp j rfl
  have hun := hun rfl
  simp only [outP, encCd] at hp
  have hmem : ∀ t ∈ L, t.length + 1 ≤ (lfed (L.map (altL j))).length := by
    intro t ht'
    have : ∀ L : List Bytes, t ∈ L → t.length + 1 ≤ (lfed (L.map (altL j))).length := by
      intro L
      induction L with
      | nil => intro h; cases h
      | cons u L ih =>
        intro h
        simp only [List.map_cons, lfed_cons, List.length_append, List.length_cons, altL_len]
        rcases List.mem_cons.1 h with e | e
        · subst e; omega
        · have := ih e; omega
    exact this L ht'
  have htk : ∀ i, (lfed ((L.map (altL j)).take i)).length ≤ (lfed (L.map (altL j))).length := by
    intro i
    have e : lfed (L.map (altL j)) = lfed ((L.map (altL j)).take i) ++ lfed ((L.map (altL j)).drop i) := by
      simp only [lfed]
      rw [← List.flatten_append, ← List.map_append, List.take_append_drop]
    rw [e]; simp
  have hLl : L.length ≤ (lfed (L.map (altL j))).length := by
    have : ∀ L : List Bytes, L.length ≤ (lfed (L.map (altL j))).length := by
      intro L
      induction L with
      | nil => simp
      | cons u L ih => simp only [List.map_cons, lfed_cons, List.length_append, List.length_cons, altL_len]; omega
    exact this L
  repeat' (first | (simp (disch := first | omega | (simp only [List.length_append, List.length_cons, List.length_nil, List.length_map, List.length_set]; omega)) only [VC_skip, VC_seq, VC_cond, VC_block, VC_region, VC_loop, VI_false, VO_nil, VO_plain, VO_guard, VG_true, VV_some, VS, u_notb, AV.told, ofV_bool, ofV_int, ofV_lit, gdA, callOf, isPanic, nextOf, altA, evalOp, ev_tmp, ev_const, ev_func, Av.get, St.put, argT, thenQ, Nat.reduceEqDiff, ↓reduceIte, List.map_cons, List.map_nil, List.nil_append, List.append_nil, List.getElem?_cons_zero, List.getElem?_cons_succ, List.getElem?_toArray, Option.map_some, Option.bind_some, beq_false, Bool.not_true, Bool.not_false, pickA, cond_false, ldG, cl_agg, List.length_cons, List.length_nil, Nat.reduceAdd, Nat.zero_add, List.drop_zero, List.take_succ_cons, List.take_zero, Nat.le_refl, b_lss, b_gtr, b_neq, ine_f, decide_eq_false, ld24]) | (guard_target =~ VCall _ _ _ _ _ _ _; refine VCall.pure (by first | with_reducible exact hl | with_reducible exact hk | with_reducible exact ht | with_reducible exact hun) (by (first | rfl | (simp only [AV.hfs, AV.hf, Bool.and_self, Bool.and_true, Bool.true_and, strs_hfs, encLn_hfs, strs_hfs]))) ?_) | (guard_target =~ DCal _ _ _ _ _ _ _; refine DCal.pure (by first | with_reducible exact hl | with_reducible exact hk | with_reducible exact ht | with_reducible exact hun) (by (first | rfl | (simp only [AV.hfs, AV.hf, Bool.and_self, Bool.and_true, Bool.true_and, strs_hfs, encLn_hfs, strs_hfs]))) ?_))
  refine W.loopG (X := Nat) (fun i => [(9, .int .i64 (i : Int)), (8, .str (lfed ((L.map (altL j)).take i))), (7, .vsl 0 false (L.map .str)), (2, .ptr 0 0), (1, .int .i64 (j : Int))]) (fun _ => [.cells [.str ver, .vsl 5 x (ls.map encLn)] false])
    (fun i => i ≤ L.length) (fun i => L.length - i) 0 (fun _ => Nat.zero_le _) rfl (Nat.zero_le _) ?_ ?_ ?_ ?_
  · simp only [subT, Av.get, Nat.reduceEqDiff, ↓reduceIte, Le_rfl, nat0, nat1, and_self, true_and, and_true, List.length_map, List.length_nil]
    exact Le.refl _
  · simp [hltT, AV.hlt, strs_hlts]
  · exact subH_self (by simp [OB.hlt, AV.hlts, AV.hlt, encLn_hlts])
  intro i hi
  refine .vc (by decide) ?_
  by_cases h : i < L.length
  · obtain ⟨t, ht', htd⟩ := drop_at h
    have hia : ∀ H, evIndexAddr Tryz.prog 38 (.vsl 0 false (L.map .str)) (.int .i64 (i : Int)) H = some (.vptr [.str t]) := fun H => iv38 (v := .str t) (by simp [ht']) rfl H
    have htl := hmem t (List.mem_of_getElem? ht')
    have hcv : evConv Tryz.prog 9 42 (.str t) [.cells [.str ver, .vsl 5 x (ls.map encLn)] false] = some (.sl 1 0 t.length 0, [.cells [.str ver, .vsl 5 x (ls.map encLn)] false, .cells (bytesA t) true]) := by
      simp [evConv, Tryz.underlying9, Tryz.underlying42, Tryz.underlying5]
    repeat' (first | (simp (disch := first | omega | (simp only [List.length_append, List.length_cons, List.length_nil, List.length_map, List.length_set]; omega)) only [VC_skip, VC_seq, VC_cond, VC_block, VC_region, VC_loop, VI_true, VO_nil, VO_plain, VV_some, VS, List.length_map, ofV_int, deN_vsl, callOf, isPanic, nextOf, altA, evalOp, ev_tmp, ev_const, Av.get, St.put, thenQ, Nat.reduceEqDiff, ↓reduceIte, Option.map_some, List.length_cons, List.length_nil, Nat.zero_add, b_lss, decide_eq_true, lw9, lv38, hia, hcv]))
    obtain ⟨p, hp0⟩ : ∃ p, p = leadN [58, 61] t := ⟨_, rfl⟩
    have hple := leadN_le [58, 61] t
    rw [← hp0] at hple
    have hti : (L.map (altL j))[i]? = some (altL j t) := by simp [ht']
    have htk1 := htk (i + 1)
    rw [List.take_add_one, hti] at htk1
    have hlf : ∀ a b : List Bytes, lfed (a ++ b) = lfed a ++ lfed b := by intro a b; simp [lfed]
    have hl1 : lfed ((L.map (altL j)).take (i + 1)) = lfed ((L.map (altL j)).take i) ++ altL j t ++ [10] := by
      rw [List.take_add_one, hti, hlf]; simp [lfed]
    have hl1n : (lfed ((L.map (altL j)).take i)).length + (altL j t).length + 1 ≤ 16000 := by
      have := congrArg List.length hl1
      have h2 := htk (i + 1)
      simp only [List.length_append, List.length_singleton] at this; omega
    refine W.loopT (X := Nat) (fun k => [(11, .int .i64 (k : Int)), (10, .sl 1 0 t.length 0), (9, .int .i64 (i : Int)), (8, .str (lfed ((L.map (altL j)).take i))), (7, .vsl 0 false (L.map .str)), (2, .ptr 0 0), (1, .int .i64 (j : Int))]) (fun k => [.cells [.str ver, .vsl 5 x (ls.map encLn)] false, .cells (bytesA (altN k j t)) true])
      (fun k => k ≤ p) (fun k => p - k) 0 (Nat.zero_le _) ⟨rfl, rfl, rfl, rfl, rfl, rfl, rfl, trivial⟩ (by rw [altN_0]) ?_
    intro k hkp
    refine .vc (by decide) ?_
    have hcb : ∀ k, k = p → evConv Tryz.prog 42 9 (.sl 1 0 t.length 0) [.cells [.str ver, .vsl 5 x (ls.map encLn)] false, .cells (bytesA (altN k j t)) true] = some (.str (altL j t), [.cells [.str ver, .vsl 5 x (ls.map encLn)] false, .cells (bytesA (altN k j t)) true]) := by
      intro k hk'
      have e : altN k j t = altL j t := by rw [hk', hp0]; rfl
      rw [e]
      have hbl : (bytesA (altL j t)).length = t.length := by simp [bytesA, altL_len]
      simp [evConv, Tryz.underlying9, Tryz.underlying42, Tryz.underlying5, hbl, List.take_of_length_le, unbyte_bytesA]
    have had1 : evBin Tryz.prog .add 9 (.str (lfed ((L.map (altL j)).take i))) (.str (altL j t)) = some (.str (lfed ((L.map (altL j)).take i) ++ altL j t)) := sadd _ _ (by show _ ≤ 9223372036854775807; omega)
    have had2 : evBin Tryz.prog .add 9 (.str (lfed ((L.map (altL j)).take i) ++ altL j t)) (.str [10]) = some (.str (lfed ((L.map (altL j)).take (i + 1)))) := by
      rw [hl1]; exact sadd _ _ (by simp only [List.length_append, List.length_singleton]; show _ ≤ 9223372036854775807; omega)
    have hln : ∀ H, evLen Tryz.prog 42 (.sl 1 0 t.length 0) H = some (.int .i64 t.length) := by intro H; simp [evLen, Tryz.underlying42]
    have hlen0 : t.length ≤ 16000 := by omega
    by_cases hkt : k < t.length
    · obtain ⟨y, hy, hyd⟩ := drop_at hkt
      have hja : ∀ H, evIndexAddr Tryz.prog 42 (.sl 1 0 t.length 0) (.int .i64 (k : Int)) H = some (.ptr 1 k) := by
        intro H; simp [evIndexAddr, idx_nat, Tryz.underlying42, tz5, hkt]
      have hcell : (bytesA (altN k j t))[k]? = some (byteA y) := bytesA_get (altN_get hy)
      have hld : ∀ b : OB, evLoad Tryz.prog 5 (.ptr 1 k) [b, .cells (bytesA (altN k j t)) true] = some (.int .u8 y.toNat) := by
        intro b; simp [evLoad, tz5, tg5, ldA, hcell, byteA]
      by_cases hk2 : k < p
      · obtain ⟨y', hy', hyn⟩ := leadN_lt [58, 61] t k (by omega)
        rw [hy] at hy'; cases hy'
        have n1 : y.toNat ≠ 58 := by intro e; apply hyn; rw [UInt8.toNat_inj.1 (show y.toNat = (58 : UInt8).toNat from e)]; simp
        have n2 : y.toNat ≠ 61 := by intro e; apply hyn; rw [UInt8.toNat_inj.1 (show y.toNat = (61 : UInt8).toNat from e)]; simp
        have hrem : evBin Tryz.prog .rem 3 (.int .i64 ((k + j : Nat) : Int)) (.int .i64 2) = some (.int .i64 (((k + j) % 2 : Nat) : Int)) := by
          have h2 : evBin Tryz.prog .rem 3 (.int .i64 ((k + j : Nat) : Int)) (.int .i64 2) = some (.int .i64 ((((k + j : Nat) : Int)).tmod 2)) := by simp [evBin]
          rw [h2]; rfl
        have hadd : evBin Tryz.prog .add 3 (.int .i64 (k : Int)) (.int .i64 (j : Int)) = some (.int .i64 ((k + j : Nat) : Int)) := by
          rw [b_add64 _ _ ⟨by omega, by omega⟩]; simp
        have keep : alt1 (j + k) y = y → bytesA (altN k j t) = bytesA (altN (k + 1) j t) := fun e => by rw [altN_same hy e]
        by_cases c1 : 65 ≤ y.toNat
        · by_cases c2 : y.toNat ≤ 90
          · by_cases c3 : (k + j) % 2 = 0
            · have hst : ∀ b : OB, evStore Tryz.prog 5 (.ptr 1 k) (.int .u8 ((y.toNat : Int) + 32)) [b, .cells (bytesA (altN k j t)) true] = some [b, .cells (bytesA (altN (k + 1) j t)) true] := by
                intro b
                rw [← altN_set hy, bytesA_set, alt_hi c1 c2 (by rw [Nat.add_comm]; exact c3)]
                rw [st5]
                have hbl : (bytesA (altN k j t)).length = t.length := by simp [bytesA, altN_len]
                simp [stC, AV.cells, AV.isC, setC_one, hbl]; omega
              have ha8 : evBin Tryz.prog .add 5 (.int .u8 (y.toNat : Int)) (.int .u8 32) = some (.int .u8 ((y.toNat : Int) + 32)) := by
                have := u8_all (fun y => !(decide (y.toNat ≤ 90)) || (IntKind.wrap .u8 ((y.toNat : Int) + 32) == (y.toNat : Int) + 32)) (by decide +kernel) y
                have : IntKind.wrap .u8 ((y.toNat : Int) + 32) = (y.toNat : Int) + 32 := by simpa [c2] using this
                simp [evBin, this]
              repeat' (first | (simp (disch := first | omega | (simp only [List.length_append, List.length_cons, List.length_nil, List.length_map, List.length_set]; omega)) only [VC_skip, VC_seq, VC_cond, VC_block, VC_region, VI_true, VO_nil, VO_plain, VO_guard, VG_true, VV_some, VS, blockQ, ofV_bool, ofV_int, deN_sl, gdA, callOf, isPanic, nextOf, altA, evalOp, ev_tmp, ev_const, Av.get, St.put, thenQ, Nat.reduceEqDiff, ↓reduceIte, List.getElem?_cons_zero, List.getElem?_cons_succ, List.getElem?_toArray, Option.map_some, Option.bind_some, beq_true, pickA, cond_true, and_true, b_lss, b_leq, b_geq, b_eql, b_neq, b_add64, ieq_t, ine_t, castS, decide_eq_true, hln, hja, hld, hadd, hrem, ha8, hst]))
              exact ⟨k + 1, by omega, by omega, ⟨⟨rfl, rfl, rfl, rfl, rfl, rfl, rfl, trivial⟩, rfl⟩⟩
            · have hkeep := keep (by unfold alt1; rw [if_neg]; rintro ⟨_, _, h3⟩; omega)
              repeat' (first | (simp (disch := first | omega | (simp only [List.length_append, List.length_cons, List.length_nil, List.length_map, List.length_set]; omega)) only [VC_skip, VC_seq, VC_cond, VC_block, VC_region, VI_true, VI_false, VO_nil, VO_plain, VO_guard, VG_true, VV_some, VS, blockQ, ofV_bool, ofV_int, deN_sl, gdA, callOf, isPanic, nextOf, altA, evalOp, ev_tmp, ev_const, Av.get, St.put, thenQ, Nat.reduceEqDiff, ↓reduceIte, List.getElem?_cons_zero, List.getElem?_cons_succ, List.getElem?_toArray, Option.map_some, Option.bind_some, beq_true, pickA, cond_true, and_true, b_lss, b_leq, b_geq, b_eql, b_neq, b_add64, ieq_f, ine_t, castS, decide_eq_true, hln, hja, hld, hadd, hrem]))
              exact ⟨k + 1, by omega, by omega, ⟨⟨rfl, rfl, rfl, rfl, rfl, rfl, rfl, trivial⟩, by rw [hkeep]⟩⟩
          · have hkeep := keep (by unfold alt1; rw [if_neg]; rintro ⟨_, h2, _⟩; omega)
            repeat' (first | (simp (disch := first | omega | (simp only [List.length_append, List.length_cons, List.length_nil, List.length_map, List.length_set]; omega)) only [VC_skip, VC_seq, VC_cond, VC_block, VC_region, VI_true, VI_false, VO_nil, VO_plain, VO_guard, VG_true, VG_false, VV_some, VS, blockQ, ofV_bool, ofV_int, deN_sl, gdA, callOf, isPanic, nextOf, altA, evalOp, ev_tmp, ev_const, Av.get, St.put, thenQ, Nat.reduceEqDiff, ↓reduceIte, List.getElem?_cons_zero, List.getElem?_cons_succ, List.getElem?_toArray, Option.map_some, Option.bind_some, beq_true, Bool.false_eq_true, pickA, cond_true, and_true, b_lss, b_leq, b_geq, b_neq, b_add64, ine_t, castS, decide_eq_true, decide_eq_false, hln, hja, hld]))
            exact ⟨k + 1, by omega, by omega, ⟨⟨rfl, rfl, rfl, rfl, rfl, rfl, rfl, trivial⟩, by rw [hkeep]⟩⟩
        · have hkeep := keep (by unfold alt1; rw [if_neg]; rintro ⟨h1, _, _⟩; omega)
          repeat' (first | (simp (disch := first | omega | (simp only [List.length_append, List.length_cons, List.length_nil, List.length_map, List.length_set]; omega)) only [VC_skip, VC_seq, VC_cond, VC_block, VC_region, VI_true, VI_false, VO_nil, VO_plain, VO_guard, VG_true, VG_false, VV_some, VS, blockQ, ofV_bool, ofV_int, deN_sl, gdA, callOf, isPanic, nextOf, altA, evalOp, ev_tmp, ev_const, Av.get, St.put, thenQ, Nat.reduceEqDiff, ↓reduceIte, List.getElem?_cons_zero, List.getElem?_cons_succ, List.getElem?_toArray, Option.map_some, Option.bind_some, beq_true, Bool.false_eq_true, pickA, cond_true, and_true, b_lss, b_geq, b_neq, b_add64, ine_t, castS, decide_eq_true, decide_eq_false, hln, hja, hld]))
          exact ⟨k + 1, by omega, by omega, ⟨⟨rfl, rfl, rfl, rfl, rfl, rfl, rfl, trivial⟩, by rw [hkeep]⟩⟩
      · have e : k = p := by omega
        subst e
        have hym := leadN_at [58, 61] t y (by rw [← hp0]; exact hy)
        have hym : y.toNat = 58 ∨ y.toNat = 61 := by
          simp only [List.mem_cons, List.not_mem_nil, or_false] at hym
          rcases hym with e | e <;> subst e <;> simp
        rcases hym with e | e
        all_goals
          repeat' (first | (simp (disch := first | omega | (simp only [List.length_append, List.length_cons, List.length_nil, List.length_map, List.length_set]; omega)) only [VC_seq, VC_cond, VC_exit, VC_region, VI_false, VO_nil, VO_plain, VO_guard, VG_true, VG_false, VV_some, VS, blockQ, ofV_bool, ofV_int, ofV_lit, deN_sl, gdA, callOf, isPanic, nextOf, altA, evalOp, ev_tmp, ev_const, Av.get, St.put, thenQ, Nat.reduceEqDiff, ↓reduceIte, List.getElem?_cons_zero, List.getElem?_cons_succ, List.getElem?_toArray, Option.map_some, Option.bind_some, beq_true, Bool.false_eq_true, pickA, cond_true, and_true, b_lss, b_neq, b_add64, ine_t, ine_f, castS, decide_eq_true, hln, hja, hld, hcb k rfl, had1, had2]))
          refine ⟨i + 1, by omega, by omega, ?_, ?_, subH_drop (A := [.cells [.str ver, .vsl 5 x (ls.map encLn)] false]) (by simp [OB.hlt, AV.hlts, AV.hlt, encLn_hlts])⟩
          · simp only [subT, Av.get, Nat.reduceEqDiff, ↓reduceIte, Le_rfl, nat0, nat1, and_self, true_and, and_true, List.length_map, List.length_nil]
          · simp [hltT, AV.hlt, strs_hlts]
    · have e : k = p := by omega
      subst e
      repeat' (first | (simp (disch := first | omega | (simp only [List.length_append, List.length_cons, List.length_nil, List.length_map, List.length_set]; omega)) only [VC_seq, VC_cond, VC_exit, VC_region, VI_false, VO_nil, VO_plain, VO_guard, VG_false, VV_some, VS, blockQ, ofV_bool, ofV_int, ofV_lit, deN_sl, gdA, callOf, isPanic, nextOf, altA, evalOp, ev_tmp, ev_const, Av.get, St.put, thenQ, Nat.reduceEqDiff, ↓reduceIte, List.getElem?_cons_zero, List.getElem?_cons_succ, List.getElem?_toArray, Option.map_some, Option.bind_some, beq_true, Bool.false_eq_true, pickA, and_true, b_lss, b_add64, castS, decide_eq_false, hln, hcb k rfl, had1, had2]))
      refine ⟨i + 1, by omega, by omega, ?_, ?_, subH_drop (A := [.cells [.str ver, .vsl 5 x (ls.map encLn)] false]) (by simp [OB.hlt, AV.hlts, AV.hlt, encLn_hlts])⟩
      · simp only [subT, Av.get, Nat.reduceEqDiff, ↓reduceIte, Le_rfl, nat0, nat1, and_self, true_and, and_true, List.length_map, List.length_nil]
      · simp [hltT, AV.hlt, strs_hlts]
  · have e : i = L.length := by omega
    subst e
    have e1 : (L.map (altL j)).take L.length = L.map (altL j) := List.take_of_length_le (by simp)
    rw [e1]
    repeat' (first | (simp (disch := first | omega | (simp only [List.length_append, List.length_cons, List.length_nil, List.length_map, List.length_set]; omega)) only [VC_seq, VC_cond, VC_exit, VC_ret, VC_region, VI_false, VO_nil, VO_plain, VO_guard, VG_true, VV_some, VS, blockQ, List.length_map, ofV_bool, ofV_int, deN_vsl, gdA, callOf, isPanic, nextOf, altA, evalOp, ev_tmp, ev_const, ev_func, Av.get, St.put, thenQ, Nat.reduceEqDiff, ↓reduceIte, Bool.and_self, List.map_cons, List.map_nil, List.nil_append, List.append_nil, List.getElem?_cons_zero, List.getElem?_cons_succ, List.getElem?_toArray, Option.map_some, Option.bind_some, pickA, cond_true, ldG, stC, ic_str, ic_vsl, cl_agg, setC, List.set_cons_zero, List.set_cons_succ, List.length_cons, List.length_nil, Nat.reduceAdd, List.all_cons, List.all_nil, and_self, Nat.zero_add, List.drop_zero, List.take_succ_cons, List.take_zero, Nat.le_refl, List.cons_append, b_lss, b_eql, ieq_t, decide_eq_false, st24, ld24, lv38, zz24, beq_self_eq_true]) | (guard_target =~ VCall _ _ _ _ _ _ _; refine VCall.pure (by first | with_reducible exact hp | with_reducible exact hr | with_reducible exact hk) (by (first | rfl | (simp only [AV.hfs, AV.hf, Bool.and_self, Bool.and_true, Bool.true_and, strs_hfs, encLn_hfs]))) ?_) | (guard_target =~ DCal _ _ _ _ _ _ _; refine DCal.pure (by first | with_reducible exact hp | with_reducible exact hr | with_reducible exact hk) (by (first | rfl | (simp only [AV.hfs, AV.hf, Bool.and_self, Bool.and_true, Bool.true_and, strs_hfs, encLn_hfs]))) ?_))
    exact ⟨_, rfl, _, rfl, .refl _⟩
end Go.Proofs.YtjlhemfmeboadaaGreatDoor
