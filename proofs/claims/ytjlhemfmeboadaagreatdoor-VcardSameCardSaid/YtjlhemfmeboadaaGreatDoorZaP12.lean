/- Contracts of functions that the statements of this seat reach: under the conditions named at each theorem. -/
import Derived.Test.YtjlhemfmeboadaaGreatDoorZaP11
import Derived.Test.YtjlhemfmeboadaaGreatDoorZaP7
import Derived.WalkKit
import Derived.ProofKit
import Derived.OpenShut
import Derived.Carry
import Derived.ChangeMaps5
import Derived.LaidMore
import Derived.Lay
import Derived.Stop.Joined
import Derived.Test.YtjlhemfmeboadaaGreatDoorRows
namespace Go.Proofs.YtjlhemfmeboadaaGreatDoor
set_option linter.unusedVariables false
set_option linter.unusedSimpArgs false
open Go Go.Av Go.RowKit

section
variable {α : Type}
def eqL (p : α → α → Bool) : List α → List α → Bool
  | [], [] => true
  | a :: r, b :: s => p a b && eqL p r s
  | _, _ => false
theorem eqL_len {p : α → α → Bool} : ∀ {a b : List α}, eqL p a b = true → a.length = b.length
  | [], [], _ => rfl
  | x :: a, y :: b, h => by
    simp only [eqL, Bool.and_eq_true] at h
    simp [eqL_len h.2]
  | [], _ :: _, h => by cases h
  | _ :: _, [], h => by cases h
end
def sameP (p q : Bytes × Bytes) : Bool := small p.1 == small q.1 && p.2 == q.2
def sameN (a b : Ln) : Bool := small a.g == small b.g && (small a.n == small b.n && (a.v == b.v && eqL sameP a.ps b.ps))
def sameC (a b : Cd) : Bool := a.ver == b.ver && eqL sameN a.ls b.ls

theorem same_1 (p q : Bytes × Bytes) : PureFn Tryz.prog 74 [encR p, encR q] (.ret (.bool (sameP p q))) := by
  obtain ⟨a, b⟩ := p
  obtain ⟨c, d⟩ := q
  have h1 := smallD a
  have h2 := smallD c
  simp only [encR, sameP]
  refine PureFn.of Tryz.func74 rfl (enters_call enters Tryz.func74 rfl) (by simp [Tryz.ntmps74]) ?_
  show W Tryz.prog 19 0 none _ _ _
  refine W.vc (by decide) ?_
  repeat' (first | (simp (disch := first | omega | (simp only [List.length_append, List.length_cons, List.length_nil, List.length_map, List.length_set]; omega)) only [VC_seq, VC_region, VC_drawn, VO_nil, VO_plain, VV_some, VS, AV.told, ofV_bool, callOf, isPanic, nextOf, altA, evalOp, ev_tmp, ev_const, Av.get, St.put, argT, thenQ, Nat.reduceEqDiff, ↓reduceIte, List.nil_append, cl_agg, List.length_cons, List.length_nil, Nat.zero_add, List.cons_append]))
  refine W.drawN [] [false, false, false, false, false, false, false, false, false, false, false, false, false, false, false] [] mixed (by kernel_rfl) (by kernel_rfl) (by kernel_rfl) ?_
  cases e1 : small a == small c with
  | false =>
    repeat' (first | (simp (disch := first | omega | (simp only [List.length_append, List.length_cons, List.length_nil, List.length_map, List.length_set]; omega)) only [VC_ret, VV_some, DT_nil, DT_plain, DT_guard, DG_false, DS, cHs_f, cHs_n, cPs, lastS_1, lastS_2, ofV_bool, gdA, callOf, isPanic, evalOp, ev_tmp, ev_const, ev_func, Av.get, St.put, thenQ, Nat.reduceEqDiff, ↓reduceIte, List.map_cons, List.map_nil, List.nil_append, List.append_nil, List.getElem?_cons_zero, List.getElem?_cons_succ, List.getElem?_toArray, Option.map_some, Option.bind_some, beq_true, Bool.false_eq_true, pickA, ldC, and_self, true_and, Nat.add_zero, List.cons_append, s_eql, Bool.false_and, ld9, fa54_0, e1]) | (guard_target =~ VCall _ _ _ _ _ _ _; refine VCall.pure (by first | with_reducible exact h1 | with_reducible exact h2) (by (first | rfl | (simp only [AV.hfs, AV.hf, Bool.and_self, Bool.and_true, Bool.true_and, strs_hfs]))) ?_) | (guard_target =~ DCal _ _ _ _ _ _ _; refine DCal.pure (by first | with_reducible exact h1 | with_reducible exact h2) (by (first | rfl | (simp only [AV.hfs, AV.hf, Bool.and_self, Bool.and_true, Bool.true_and, strs_hfs]))) ?_))
    exact ⟨_, rfl, _, rfl, .refl _⟩
  | true =>
    repeat' (first | (simp (disch := first | omega | (simp only [List.length_append, List.length_cons, List.length_nil, List.length_map, List.length_set]; omega)) only [VC_ret, VV_some, DT_nil, DT_plain, DT_guard, DG_true, DS, cHs_f, cHs_n, cPs, lastS_1, lastS_2, ofV_bool, gdA, callOf, isPanic, evalOp, ev_tmp, ev_const, ev_func, Av.get, St.put, thenQ, Nat.reduceEqDiff, ↓reduceIte, List.map_cons, List.map_nil, List.nil_append, List.append_nil, List.getElem?_cons_zero, List.getElem?_cons_succ, List.getElem?_toArray, Option.map_some, Option.bind_some, beq_true, pickA, cond_true, ldC, Bool.true_and, and_self, true_and, Nat.add_zero, Nat.zero_add, List.cons_append, s_eql, ld9, fa54_0, fa54_1, e1]) | (guard_target =~ VCall _ _ _ _ _ _ _; refine VCall.pure (by first | with_reducible exact h1 | with_reducible exact h2) (by (first | rfl | (simp only [AV.hfs, AV.hf, Bool.and_self, Bool.and_true, Bool.true_and, strs_hfs]))) ?_) | (guard_target =~ DCal _ _ _ _ _ _ _; refine DCal.pure (by first | with_reducible exact h1 | with_reducible exact h2) (by (first | rfl | (simp only [AV.hfs, AV.hf, Bool.and_self, Bool.and_true, Bool.true_and, strs_hfs]))) ?_))
    exact ⟨_, rfl, _, rfl, .refl _⟩

set_option maxRecDepth 8000 in
theorem eqP (x y : Bool) (ps qs : List (Bytes × Bytes)) : PureFn Tryz.prog 75 [.vsl 3 x (ps.map encR), .vsl 3 y (qs.map encR), .func (.func 74) [] []] (.ret (.bool (eqL sameP ps qs))) := by
  refine PureFn.fit fun hfit => ?_
  have hfl : ps.length ≤ 9223372036854775807 := by have := hfit (.vsl 3 x (ps.map encR)) (by simp); simp only [AV.fit, List.length_map] at this; exact this
  refine PureFn.of Tryz.func75 rfl (enters_call enters Tryz.func75 rfl) (by simp [Tryz.ntmps75]) ?_
  show W Tryz.prog 32 0 none _ _ _
  refine W.vc (by decide) ?_
  by_cases hl : ps.length = qs.length
  · repeat' (first | (simp (disch := first | omega | (simp only [List.length_append, List.length_cons, List.length_nil, List.length_map, List.length_set]; omega)) only [VC_skip, VC_seq, VC_cond, VC_block, VC_region, VC_loop, VI_false, VO_nil, VO_plain, VV_some, VS, List.length_map, ofV_bool, ofV_int, deN_vsl, callOf, isPanic, nextOf, altA, evalOp, ev_tmp, ev_const, Av.get, St.put, argT, thenQ, Nat.reduceEqDiff, ↓reduceIte, Option.map_some, Nat.reduceAdd, Nat.zero_add, b_neq, ine_f, lv43]))
    refine W.loopG (X := Nat) (fun i => [(17, .int .i64 (i : Int)), (16, .int .i64 (ps.length : Int)), (15, .vsl 3 x (ps.map encR)), (1, .vsl 3 y (qs.map encR)), (2, .func (.func 74) [] [])]) (fun _ => [])
      (fun i => i ≤ ps.length ∧ eqL sameP (ps.drop i) (qs.drop i) = eqL sameP ps qs) (fun i => ps.length - i) 0 (fun _ => Nat.zero_le _) rfl ⟨Nat.zero_le _, rfl⟩ ?_ ?_ (subH_self rfl) ?_
    · simp only [subT, Av.get, Nat.reduceEqDiff, ↓reduceIte, Le_rfl, nat0, nat1, and_self, true_and, and_true, List.length_map, List.length_nil]
    · simp [hltT, AV.hlt, AV.hlts, encR_hlts]
    rintro i ⟨hi, hE⟩
    refine .vc (by decide) ?_
    by_cases h : i < ps.length
    · obtain ⟨u, hu, hud⟩ := drop_at h
      obtain ⟨v, hv, hvd⟩ := drop_at (show i < qs.length from by omega)
      rw [hud, hvd, eqL] at hE
      obtain ⟨u1, u2⟩ := u
      obtain ⟨v1, v2⟩ := v
      have hia : ∀ H, evIndexAddr Tryz.prog 43 (.vsl 3 x (ps.map encR)) (.int .i64 (i : Int)) H = some (.vptr [.str u1, .str u2]) := fun H => iv43 (v := encR (u1, u2)) (by simp [hu]) rfl H
      have hib : ∀ H, evIndexAddr Tryz.prog 43 (.vsl 3 y (qs.map encR)) (.int .i64 (i : Int)) H = some (.vptr [.str v1, .str v2]) := fun H => iv43 (v := encR (v1, v2)) (by simp [hv]) rfl H
      have hc := same_1 (u1, u2) (v1, v2)
      cases hb : sameP (u1, u2) (v1, v2) with
      | false =>
        rw [hb] at hc hE
        rw [← hE]
        simp only [encR] at hc
        repeat' (first | (simp (disch := first | omega | (simp only [List.length_append, List.length_cons, List.length_nil, List.length_map, List.length_set]; omega)) only [VC_skip, VC_seq, VC_cond, VC_block, VC_ret, VC_region, VI_true, VO_nil, VO_plain, VV_some, VS, blockQ, u_notb, ofV_bool, callOf, isPanic, nextOf, altA, evalOp, ev_tmp, ev_const, Av.get, St.put, thenQ, Nat.reduceEqDiff, ↓reduceIte, Bool.and_self, List.map_cons, List.map_nil, List.nil_append, List.append_nil, List.getElem?_cons_zero, List.getElem?_cons_succ, Option.map_some, Bool.not_false, ldG, stC, ic_str, cl_agg, setC, List.set_cons_zero, List.set_cons_succ, List.length_cons, List.length_nil, Nat.reduceAdd, List.all_cons, List.all_nil, and_self, Nat.zero_add, List.drop_zero, List.take_succ_cons, List.take_zero, Nat.le_refl, List.cons_append, b_lss, decide_eq_true, Bool.false_and, st54, ld54, lw54, zz54, hia, hib]) | (guard_target =~ VCall _ _ _ _ _ _ _; refine VCall.pure (by first | with_reducible exact hc) (by (first | rfl | (simp only [AV.hfs, AV.hf, Bool.and_self, Bool.and_true, Bool.true_and, strs_hfs, encR_hfs]))) ?_) | (guard_target =~ DCal _ _ _ _ _ _ _; refine DCal.pure (by first | with_reducible exact hc) (by (first | rfl | (simp only [AV.hfs, AV.hf, Bool.and_self, Bool.and_true, Bool.true_and, strs_hfs, encR_hfs]))) ?_))
        exact ⟨_, rfl, _, rfl, .refl _⟩
      | true =>
        rw [hb] at hc hE
        simp only [encR] at hc
        repeat' (first | (simp (disch := first | omega | (simp only [List.length_append, List.length_cons, List.length_nil, List.length_map, List.length_set]; omega)) only [VC_skip, VC_seq, VC_cond, VC_block, VC_region, VI_true, VI_false, VO_nil, VO_plain, VV_some, VS, blockQ, u_notb, ofV_int, callOf, isPanic, nextOf, altA, evalOp, ev_tmp, ev_const, Av.get, St.put, thenQ, Nat.reduceEqDiff, ↓reduceIte, Bool.and_self, List.map_cons, List.map_nil, List.nil_append, List.append_nil, List.getElem?_cons_zero, List.getElem?_cons_succ, Option.map_some, Bool.not_true, ldG, stC, ic_str, cl_agg, setC, List.set_cons_zero, List.set_cons_succ, List.length_cons, List.length_nil, Nat.reduceAdd, List.all_cons, List.all_nil, and_self, and_true, Nat.zero_add, List.drop_zero, List.take_succ_cons, List.take_zero, Nat.le_refl, List.cons_append, b_lss, b_add64, castS, decide_eq_true, st54, ld54, lw54, zz54, hia, hib]) | (guard_target =~ VCall _ _ _ _ _ _ _; refine VCall.pure (by first | with_reducible exact hc) (by (first | rfl | (simp only [AV.hfs, AV.hf, Bool.and_self, Bool.and_true, Bool.true_and, strs_hfs, encR_hfs]))) ?_) | (guard_target =~ DCal _ _ _ _ _ _ _; refine DCal.pure (by first | with_reducible exact hc) (by (first | rfl | (simp only [AV.hfs, AV.hf, Bool.and_self, Bool.and_true, Bool.true_and, strs_hfs, encR_hfs]))) ?_))
        refine ⟨i + 1, ⟨by omega, by rw [← hE]; rfl⟩, by omega, ?_, ?_, ?_⟩
        · simp only [subT, Av.get, Nat.reduceEqDiff, ↓reduceIte, Le_rfl, nat0, nat1, and_self, true_and, and_true, List.length_map, List.length_nil]
        · simp [hltT, AV.hlt, AV.hlts, encR_hlts]
        · exact subH_nil _ _
    · have e : i = ps.length := by omega
      subst e
      rw [List.drop_length, hl, List.drop_length] at hE
      rw [← hE]
      repeat' (first | (simp (disch := first | omega | (simp only [List.length_append, List.length_cons, List.length_nil, List.length_map, List.length_set]; omega)) only [VC_seq, VC_cond, VC_exit, VC_ret, VC_region, VI_false, VO_nil, VO_plain, VV_some, VS, blockQ, ofV_bool, callOf, isPanic, nextOf, altA, evalOp, ev_tmp, ev_const, Av.get, St.put, thenQ, Nat.reduceEqDiff, ↓reduceIte, List.length_nil, b_lss, decide_eq_false]))
      exact ⟨_, rfl, _, rfl, .refl _⟩
  · have e : eqL sameP ps qs = false := by
      cases h : eqL sameP ps qs with
      | false => rfl
      | true => exact (hl (eqL_len h)).elim
    rw [e]
    repeat' (first | (simp (disch := first | omega | (simp only [List.length_append, List.length_cons, List.length_nil, List.length_map, List.length_set]; omega)) only [VC_seq, VC_cond, VC_ret, VC_region, VI_true, VO_nil, VO_plain, VV_some, VS, List.length_map, ofV_bool, deN_vsl, callOf, isPanic, nextOf, altA, evalOp, ev_tmp, ev_const, Av.get, St.put, argT, thenQ, Nat.reduceEqDiff, ↓reduceIte, Option.map_some, Nat.reduceAdd, Nat.zero_add, b_neq, ine_t, lv43]))
    exact ⟨_, rfl, _, rfl, .refl _⟩

set_option maxRecDepth 8000 in
theorem same_N (a b : Ln) : PureFn Tryz.prog 51 [encLn a, encLn b] (.ret (.bool (sameN a b))) := by
  obtain ⟨u1, u2, u5, u3, u4⟩ := a
  obtain ⟨v1, v2, v5, v3, v4⟩ := b
  have h1 := smallD u1
  have h2 := smallD v1
  have h3 := smallD u2
  have h4 := smallD v2
  have h5 := eqP u5 v5 u3 v3
  simp only [encLn, sameN]
  refine PureFn.of Tryz.func51 rfl (enters_call enters Tryz.func51 rfl) (by simp [Tryz.ntmps51]) ?_
  show W Tryz.prog 37 0 none _ _ _
  refine W.vc (by decide) ?_
  repeat' (first | (simp (disch := first | omega | (simp only [List.length_append, List.length_cons, List.length_nil, List.length_map, List.length_set]; omega)) only [VC_seq, VC_region, VC_drawn, VO_nil, VO_plain, VV_some, VS, AV.told, ofV_bool, callOf, isPanic, nextOf, altA, evalOp, ev_tmp, ev_const, ev_func, Av.get, St.put, argT, thenQ, Nat.reduceEqDiff, ↓reduceIte, List.nil_append, cl_agg, List.length_cons, List.length_nil, Nat.zero_add, List.cons_append]))
  refine W.drawN [] [false, false, false, false, false, false, false, false, false, false, false, false, false, false, false, false, false, false, false, false, false, false, false, false, false, false, false, false, false, false, false, false] [] mixed (by kernel_rfl) (by kernel_rfl) (by kernel_rfl) ?_
  cases e1 : small u1 == small v1 with
  | false =>
    repeat' (first | (simp (disch := first | omega | (simp only [List.length_append, List.length_cons, List.length_nil, List.length_map, List.length_set]; omega)) only [VC_ret, VV_some, DT_nil, DT_plain, DT_guard, DG_false, DS, cHs_f, cHs_n, cPs, lastS_1, lastS_2, ofV_bool, gdA, callOf, isPanic, evalOp, ev_tmp, ev_const, ev_func, Av.get, St.put, thenQ, Nat.reduceEqDiff, ↓reduceIte, List.map_cons, List.map_nil, List.nil_append, List.append_nil, List.getElem?_cons_zero, List.getElem?_cons_succ, List.getElem?_toArray, Option.map_some, Option.bind_some, beq_true, Bool.false_eq_true, pickA, ldC, and_self, true_and, Nat.add_zero, List.cons_append, s_eql, Bool.false_and, ld9, fa45_0, e1]) | (guard_target =~ VCall _ _ _ _ _ _ _; refine VCall.pure (by first | with_reducible exact h1 | with_reducible exact h2) (by (first | rfl | (simp only [AV.hfs, AV.hf, Bool.and_self, Bool.and_true, Bool.true_and, strs_hfs]))) ?_) | (guard_target =~ DCal _ _ _ _ _ _ _; refine DCal.pure (by first | with_reducible exact h1 | with_reducible exact h2) (by (first | rfl | (simp only [AV.hfs, AV.hf, Bool.and_self, Bool.and_true, Bool.true_and, strs_hfs]))) ?_))
    exact ⟨_, rfl, _, rfl, .refl _⟩
  | true =>
    cases e2 : small u2 == small v2 with
    | false =>
      repeat' (first | (simp (disch := first | omega | (simp only [List.length_append, List.length_cons, List.length_nil, List.length_map, List.length_set]; omega)) only [VC_ret, VV_some, DT_nil, DT_plain, DT_guard, DG_true, DG_false, DS, cHs_f, cHs_n, cPs, lastS_1, lastS_2, ofV_bool, gdA, callOf, isPanic, evalOp, ev_tmp, ev_const, ev_func, Av.get, St.put, thenQ, Nat.reduceEqDiff, ↓reduceIte, List.map_cons, List.map_nil, List.nil_append, List.append_nil, List.getElem?_cons_zero, List.getElem?_cons_succ, List.getElem?_toArray, Option.map_some, Option.bind_some, beq_true, Bool.false_eq_true, pickA, cond_true, ldC, and_self, true_and, Nat.add_zero, Nat.zero_add, List.cons_append, s_eql, Bool.and_false, Bool.false_and, ld9, fa45_0, fa45_1, e1, e2]) | (guard_target =~ VCall _ _ _ _ _ _ _; refine VCall.pure (by first | with_reducible exact h1 | with_reducible exact h2 | with_reducible exact h3 | with_reducible exact h4) (by (first | rfl | (simp only [AV.hfs, AV.hf, Bool.and_self, Bool.and_true, Bool.true_and, strs_hfs]))) ?_) | (guard_target =~ DCal _ _ _ _ _ _ _; refine DCal.pure (by first | with_reducible exact h1 | with_reducible exact h2 | with_reducible exact h3 | with_reducible exact h4) (by (first | rfl | (simp only [AV.hfs, AV.hf, Bool.and_self, Bool.and_true, Bool.true_and, strs_hfs]))) ?_))
      exact ⟨_, rfl, _, rfl, .refl _⟩
    | true =>
      cases e3 : u4 == v4 with
      | false =>
        repeat' (first | (simp (disch := first | omega | (simp only [List.length_append, List.length_cons, List.length_nil, List.length_map, List.length_set]; omega)) only [VC_ret, VV_some, DT_nil, DT_plain, DT_guard, DG_true, DG_false, DS, cHs_f, cHs_n, cPs, lastS_1, lastS_2, ofV_bool, gdA, callOf, isPanic, evalOp, ev_tmp, ev_const, ev_func, Av.get, St.put, thenQ, Nat.reduceEqDiff, ↓reduceIte, List.map_cons, List.map_nil, List.nil_append, List.append_nil, List.getElem?_cons_zero, List.getElem?_cons_succ, List.getElem?_toArray, Option.map_some, Option.bind_some, beq_true, Bool.false_eq_true, pickA, cond_true, ldC, and_self, true_and, Nat.add_zero, Nat.zero_add, List.cons_append, s_eql, Bool.and_false, Bool.false_and, ld9, fa45_0, fa45_1, fa45_3, e1, e2, e3]) | (guard_target =~ VCall _ _ _ _ _ _ _; refine VCall.pure (by first | with_reducible exact h1 | with_reducible exact h2 | with_reducible exact h3 | with_reducible exact h4) (by (first | rfl | (simp only [AV.hfs, AV.hf, Bool.and_self, Bool.and_true, Bool.true_and, strs_hfs]))) ?_) | (guard_target =~ DCal _ _ _ _ _ _ _; refine DCal.pure (by first | with_reducible exact h1 | with_reducible exact h2 | with_reducible exact h3 | with_reducible exact h4) (by (first | rfl | (simp only [AV.hfs, AV.hf, Bool.and_self, Bool.and_true, Bool.true_and, strs_hfs]))) ?_))
        exact ⟨_, rfl, _, rfl, .refl _⟩
      | true =>
        repeat' (first | (simp (disch := first | omega | (simp only [List.length_append, List.length_cons, List.length_nil, List.length_map, List.length_set]; omega)) only [VC_ret, VV_some, DT_nil, DT_plain, DT_guard, DG_true, DS, cHs_f, cHs_n, cPs, lastS_1, lastS_2, ofV_bool, gdA, callOf, isPanic, evalOp, ev_tmp, ev_const, ev_func, Av.get, St.put, thenQ, Nat.reduceEqDiff, ↓reduceIte, List.map_cons, List.map_nil, List.nil_append, List.append_nil, List.getElem?_cons_zero, List.getElem?_cons_succ, List.getElem?_toArray, Option.map_some, Option.bind_some, beq_true, pickA, cond_true, ldC, Bool.true_and, and_self, true_and, Nat.add_zero, Nat.zero_add, List.cons_append, s_eql, ld9, ld43, fa45_0, fa45_1, fa45_2, fa45_3, e1, e2, e3]) | (guard_target =~ VCall _ _ _ _ _ _ _; refine VCall.pure (by first | with_reducible exact h1 | with_reducible exact h2 | with_reducible exact h3 | with_reducible exact h4 | with_reducible exact h5) (by (first | rfl | (simp only [AV.hfs, AV.hf, Bool.and_self, Bool.and_true, Bool.true_and, strs_hfs, encR_hfs]))) ?_) | (guard_target =~ DCal _ _ _ _ _ _ _; refine DCal.pure (by first | with_reducible exact h1 | with_reducible exact h2 | with_reducible exact h3 | with_reducible exact h4 | with_reducible exact h5) (by (first | rfl | (simp only [AV.hfs, AV.hf, Bool.and_self, Bool.and_true, Bool.true_and, strs_hfs, encR_hfs]))) ?_))
        exact ⟨_, rfl, _, rfl, .refl _⟩

set_option maxRecDepth 8000 in
theorem eqN (x y : Bool) (ps qs : List Ln) : PureFn Tryz.prog 50 [.vsl 5 x (ps.map encLn), .vsl 5 y (qs.map encLn), .func (.func 51) [] []] (.ret (.bool (eqL sameN ps qs))) := by
  refine PureFn.fit fun hfit => ?_
  have hfl : ps.length ≤ 9223372036854775807 := by have := hfit (.vsl 5 x (ps.map encLn)) (by simp); simp only [AV.fit, List.length_map] at this; exact this
  refine PureFn.of Tryz.func50 rfl (enters_call enters Tryz.func50 rfl) (by simp [Tryz.ntmps50]) ?_
  show W Tryz.prog 32 0 none _ _ _
  refine W.vc (by decide) ?_
  by_cases hl : ps.length = qs.length
  · repeat' (first | (simp (disch := first | omega | (simp only [List.length_append, List.length_cons, List.length_nil, List.length_map, List.length_set]; omega)) only [VC_skip, VC_seq, VC_cond, VC_block, VC_region, VC_loop, VI_false, VO_nil, VO_plain, VV_some, VS, List.length_map, ofV_bool, ofV_int, deN_vsl, callOf, isPanic, nextOf, altA, evalOp, ev_tmp, ev_const, Av.get, St.put, argT, thenQ, Nat.reduceEqDiff, ↓reduceIte, Option.map_some, Nat.reduceAdd, Nat.zero_add, b_neq, ine_f, lv22]))
    refine W.loopG (X := Nat) (fun i => [(17, .int .i64 (i : Int)), (16, .int .i64 (ps.length : Int)), (15, .vsl 5 x (ps.map encLn)), (1, .vsl 5 y (qs.map encLn)), (2, .func (.func 51) [] [])]) (fun _ => [])
      (fun i => i ≤ ps.length ∧ eqL sameN (ps.drop i) (qs.drop i) = eqL sameN ps qs) (fun i => ps.length - i) 0 (fun _ => Nat.zero_le _) rfl ⟨Nat.zero_le _, rfl⟩ ?_ ?_ (subH_self rfl) ?_
    · simp only [subT, Av.get, Nat.reduceEqDiff, ↓reduceIte, Le_rfl, nat0, nat1, and_self, true_and, and_true, List.length_map, List.length_nil]
    · simp [hltT, AV.hlt, AV.hlts, encLn_hlts]
    rintro i ⟨hi, hE⟩
    refine .vc (by decide) ?_
    by_cases h : i < ps.length
    · obtain ⟨u, hu, hud⟩ := drop_at h
      obtain ⟨v, hv, hvd⟩ := drop_at (show i < qs.length from by omega)
      rw [hud, hvd, eqL] at hE
      obtain ⟨u1, u2, u5, u3, u4⟩ := u
      obtain ⟨v1, v2, v5, v3, v4⟩ := v
      have hia : ∀ H, evIndexAddr Tryz.prog 22 (.vsl 5 x (ps.map encLn)) (.int .i64 (i : Int)) H = some (.vptr [.str u1, .str u2, .vsl 3 u5 (u3.map encR), .str u4]) := fun H => iv22 (v := encLn ⟨u1, u2, u5, u3, u4⟩) (by simp [hu]) rfl H
      have hib : ∀ H, evIndexAddr Tryz.prog 22 (.vsl 5 y (qs.map encLn)) (.int .i64 (i : Int)) H = some (.vptr [.str v1, .str v2, .vsl 3 v5 (v3.map encR), .str v4]) := fun H => iv22 (v := encLn ⟨v1, v2, v5, v3, v4⟩) (by simp [hv]) rfl H
      have hc := same_N ⟨u1, u2, u5, u3, u4⟩ ⟨v1, v2, v5, v3, v4⟩
      cases hb : sameN ⟨u1, u2, u5, u3, u4⟩ ⟨v1, v2, v5, v3, v4⟩ with
      | false =>
        rw [hb] at hc hE
        rw [← hE]
        simp only [encLn] at hc
        repeat' (first | (simp (disch := first | omega | (simp only [List.length_append, List.length_cons, List.length_nil, List.length_map, List.length_set]; omega)) only [VC_skip, VC_seq, VC_cond, VC_block, VC_ret, VC_region, VI_true, VO_nil, VO_plain, VV_some, VS, blockQ, u_notb, ofV_bool, callOf, isPanic, nextOf, altA, evalOp, ev_tmp, ev_const, Av.get, St.put, thenQ, Nat.reduceEqDiff, ↓reduceIte, Bool.and_self, List.map_cons, List.map_nil, List.nil_append, List.append_nil, List.getElem?_cons_zero, List.getElem?_cons_succ, Option.map_some, Bool.not_false, ldG, stC, ic_str, ic_vsl, cl_agg, setC, List.set_cons_zero, List.set_cons_succ, List.length_cons, List.length_nil, Nat.reduceAdd, List.all_cons, List.all_nil, and_self, Nat.zero_add, List.drop_zero, List.take_succ_cons, List.take_zero, Nat.le_refl, List.cons_append, b_lss, decide_eq_true, Bool.false_and, st45, ld45, lw45, zz45, hia, hib]) | (guard_target =~ VCall _ _ _ _ _ _ _; refine VCall.pure (by first | with_reducible exact hc) (by (first | rfl | (simp only [AV.hfs, AV.hf, Bool.and_self, Bool.and_true, Bool.true_and, strs_hfs, encR_hfs]))) ?_) | (guard_target =~ DCal _ _ _ _ _ _ _; refine DCal.pure (by first | with_reducible exact hc) (by (first | rfl | (simp only [AV.hfs, AV.hf, Bool.and_self, Bool.and_true, Bool.true_and, strs_hfs, encR_hfs]))) ?_))
        exact ⟨_, rfl, _, rfl, .refl _⟩
      | true =>
        rw [hb] at hc hE
        simp only [encLn] at hc
        repeat' (first | (simp (disch := first | omega | (simp only [List.length_append, List.length_cons, List.length_nil, List.length_map, List.length_set]; omega)) only [VC_skip, VC_seq, VC_cond, VC_block, VC_region, VI_true, VI_false, VO_nil, VO_plain, VV_some, VS, blockQ, u_notb, ofV_int, callOf, isPanic, nextOf, altA, evalOp, ev_tmp, ev_const, Av.get, St.put, thenQ, Nat.reduceEqDiff, ↓reduceIte, Bool.and_self, List.map_cons, List.map_nil, List.nil_append, List.append_nil, List.getElem?_cons_zero, List.getElem?_cons_succ, Option.map_some, Bool.not_true, ldG, stC, ic_str, ic_vsl, cl_agg, setC, List.set_cons_zero, List.set_cons_succ, List.length_cons, List.length_nil, Nat.reduceAdd, List.all_cons, List.all_nil, and_self, and_true, Nat.zero_add, List.drop_zero, List.take_succ_cons, List.take_zero, Nat.le_refl, List.cons_append, b_lss, b_add64, castS, decide_eq_true, st45, ld45, lw45, zz45, hia, hib]) | (guard_target =~ VCall _ _ _ _ _ _ _; refine VCall.pure (by first | with_reducible exact hc) (by (first | rfl | (simp only [AV.hfs, AV.hf, Bool.and_self, Bool.and_true, Bool.true_and, strs_hfs, encR_hfs]))) ?_) | (guard_target =~ DCal _ _ _ _ _ _ _; refine DCal.pure (by first | with_reducible exact hc) (by (first | rfl | (simp only [AV.hfs, AV.hf, Bool.and_self, Bool.and_true, Bool.true_and, strs_hfs, encR_hfs]))) ?_))
        refine ⟨i + 1, ⟨by omega, by rw [← hE]; rfl⟩, by omega, ?_, ?_, ?_⟩
        · simp only [subT, Av.get, Nat.reduceEqDiff, ↓reduceIte, Le_rfl, nat0, nat1, and_self, true_and, and_true, List.length_map, List.length_nil]
        · simp [hltT, AV.hlt, AV.hlts, encLn_hlts]
        · exact subH_nil _ _
    · have e : i = ps.length := by omega
      subst e
      rw [List.drop_length, hl, List.drop_length] at hE
      rw [← hE]
      repeat' (first | (simp (disch := first | omega | (simp only [List.length_append, List.length_cons, List.length_nil, List.length_map, List.length_set]; omega)) only [VC_seq, VC_cond, VC_exit, VC_ret, VC_region, VI_false, VO_nil, VO_plain, VV_some, VS, blockQ, ofV_bool, callOf, isPanic, nextOf, altA, evalOp, ev_tmp, ev_const, Av.get, St.put, thenQ, Nat.reduceEqDiff, ↓reduceIte, List.length_nil, b_lss, decide_eq_false]))
      exact ⟨_, rfl, _, rfl, .refl _⟩
  · have e : eqL sameN ps qs = false := by
      cases h : eqL sameN ps qs with
      | false => rfl
      | true => exact (hl (eqL_len h)).elim
    rw [e]
    repeat' (first | (simp (disch := first | omega | (simp only [List.length_append, List.length_cons, List.length_nil, List.length_map, List.length_set]; omega)) only [VC_seq, VC_cond, VC_ret, VC_region, VI_true, VO_nil, VO_plain, VV_some, VS, List.length_map, ofV_bool, deN_vsl, callOf, isPanic, nextOf, altA, evalOp, ev_tmp, ev_const, Av.get, St.put, argT, thenQ, Nat.reduceEqDiff, ↓reduceIte, Option.map_some, Nat.reduceAdd, Nat.zero_add, b_neq, ine_t, lv22]))
    exact ⟨_, rfl, _, rfl, .refl _⟩

set_option maxRecDepth 8000 in
theorem sameV (a b : Cd) : PureFn Tryz.prog 25 [encCd a, encCd b] (.ret (.bool (sameC a b))) := by
  obtain ⟨u1, u2, u3⟩ := a
  obtain ⟨v1, v2, v3⟩ := b
  have h := eqN u2 v2 u3 v3
  simp only [encCd, sameC]
  refine PureFn.of Tryz.func25 rfl (enters_call enters Tryz.func25 rfl) (by simp [Tryz.ntmps25]) ?_
  show W Tryz.prog 17 0 none _ _ _
  refine W.vc (by decide) ?_
  cases e1 : u1 == v1 with
  | false =>
    repeat' (first | (simp (disch := first | omega | (simp only [List.length_append, List.length_cons, List.length_nil, List.length_map, List.length_set]; omega)) only [VC_seq, VC_ret, VC_region, VO_nil, VO_plain, VO_guard, VG_false, VV_some, VS, AV.told, ofV_bool, gdA, callOf, isPanic, nextOf, altA, evalOp, ev_tmp, ev_const, Av.get, St.put, argT, thenQ, Nat.reduceEqDiff, ↓reduceIte, List.nil_append, List.getElem?_cons_zero, List.getElem?_cons_succ, List.getElem?_toArray, Option.map_some, Option.bind_some, beq_true, Bool.false_eq_true, pickA, ldC, cl_agg, List.length_cons, List.length_nil, Nat.add_zero, Nat.zero_add, List.cons_append, s_eql, Bool.false_and, ld9, fa24_0, e1]))
    exact ⟨_, rfl, _, rfl, .refl _⟩
  | true =>
    repeat' (first | (simp (disch := first | omega | (simp only [List.length_append, List.length_cons, List.length_nil, List.length_map, List.length_set]; omega)) only [VC_seq, VC_ret, VC_region, VO_nil, VO_plain, VO_guard, VG_true, VV_some, VS, AV.told, ofV_bool, gdA, callOf, isPanic, nextOf, altA, evalOp, ev_tmp, ev_const, ev_func, Av.get, St.put, argT, thenQ, Nat.reduceEqDiff, ↓reduceIte, List.map_cons, List.map_nil, List.nil_append, List.append_nil, List.getElem?_cons_zero, List.getElem?_cons_succ, List.getElem?_toArray, Option.map_some, Option.bind_some, beq_true, pickA, cond_true, ldC, cl_agg, List.length_cons, List.length_nil, Bool.true_and, true_and, Nat.add_zero, Nat.zero_add, List.cons_append, s_eql, ld9, ld22, fa24_0, fa24_1, e1]) | (guard_target =~ VCall _ _ _ _ _ _ _; refine VCall.pure (by first | with_reducible exact h) (by (first | rfl | (simp only [AV.hfs, AV.hf, Bool.and_self, Bool.and_true, Bool.true_and, strs_hfs, encLn_hfs]))) ?_) | (guard_target =~ DCal _ _ _ _ _ _ _; refine DCal.pure (by first | with_reducible exact h) (by (first | rfl | (simp only [AV.hfs, AV.hf, Bool.and_self, Bool.and_true, Bool.true_and, strs_hfs, encLn_hfs]))) ?_))
    exact ⟨_, rfl, _, rfl, .refl _⟩
end Go.Proofs.YtjlhemfmeboadaaGreatDoor
namespace Go.Proofs.YtjlhemfmeboadaaGreatDoor
set_option linter.unusedVariables false
set_option linter.unusedSimpArgs false
open Go Go.Av Go.RowKit

set_option maxRecDepth 8000 in
theorem same_R (a b : Ln) : PureFn Tryz.prog 44 [encLn a, encLn b] (.ret (.bool (sameN a b))) := by
  obtain ⟨u1, u2, u5, u3, u4⟩ := a
  obtain ⟨v1, v2, v5, v3, v4⟩ := b
  have h1 := smallR u1
  have h2 := smallR v1
  have h3 := smallR u2
  have h4 := smallR v2
  refine PureFn.fitA fun hfit => ?_
  have hfl : u3.length ≤ 9223372036854775807 := by have := hfit [.str u1, .str u2, .vsl 3 u5 (u3.map encR), .str u4] (by simp [encLn]) (.vsl 3 u5 (u3.map encR)) (by simp); simp only [AV.fit, List.length_map] at this; exact this
  simp only [encLn]
  refine PureFn.of Tryz.func44 rfl (enters_call enters Tryz.func44 rfl) (by simp [Tryz.ntmps44]) ?_
  show W Tryz.prog 75 0 none _ _ _
  refine W.vc (by decide) ?_
  repeat' (first | (simp (disch := first | omega | (simp only [List.length_append, List.length_cons, List.length_nil, List.length_map, List.length_set]; omega)) only [VC_seq, VC_region, VC_drawn, VO_nil, VO_plain, VV_some, VS, AV.told, ofV_bool, callOf, isPanic, nextOf, altA, evalOp, ev_tmp, ev_const, Av.get, St.put, argT, thenQ, Nat.reduceEqDiff, ↓reduceIte, List.nil_append, cl_agg, List.length_cons, List.length_nil, Nat.zero_add, List.cons_append]))
  refine W.drawN [] [false, false, false, false, false, false, false, false, false, false, false, false, false, false, false, false, false, false, false, false, false, false, false, false, false, false, false, false, false, false, false, false] [] mixed (by kernel_rfl) (by kernel_rfl) (by kernel_rfl) ?_
  cases e1 : small u1 == small v1 with
  | false =>
    have e : sameN ⟨u1, u2, u5, u3, u4⟩ ⟨v1, v2, v5, v3, v4⟩ = false := by simp only [sameN, e1]; rfl
    rw [e]
    repeat' (first | (simp (disch := first | omega | (simp only [List.length_append, List.length_cons, List.length_nil, List.length_map, List.length_set]; omega)) only [VC_seq, VC_cond, VC_ret, VC_region, VI_true, VO_nil, VO_plain, VV_some, VS, DT_nil, DT_plain, DT_guard, DG_false, DS, cHs_f, cHs_n, cPs, lastS_1, lastS_2, ofV_bool, gdA, callOf, isPanic, nextOf, altA, evalOp, ev_tmp, ev_const, ev_func, Av.get, St.put, thenQ, Nat.reduceEqDiff, ↓reduceIte, List.map_cons, List.map_nil, List.nil_append, List.append_nil, List.getElem?_cons_zero, List.getElem?_cons_succ, List.getElem?_toArray, Option.map_some, Option.bind_some, beq_false, Bool.not_true, Bool.not_false, pickA, ldC, and_self, true_and, Nat.add_zero, List.cons_append, s_neq, ld9, fa45_0, e1, bne]) | (guard_target =~ VCall _ _ _ _ _ _ _; refine VCall.pure (by first | with_reducible exact h1 | with_reducible exact h2) (by (first | rfl | (simp only [AV.hfs, AV.hf, Bool.and_self, Bool.and_true, Bool.true_and, strs_hfs]))) ?_) | (guard_target =~ DCal _ _ _ _ _ _ _; refine DCal.pure (by first | with_reducible exact h1 | with_reducible exact h2) (by (first | rfl | (simp only [AV.hfs, AV.hf, Bool.and_self, Bool.and_true, Bool.true_and, strs_hfs]))) ?_))
    exact ⟨_, rfl, _, rfl, .refl _⟩
  | true =>
    cases e2 : small u2 == small v2 with
    | false =>
      have e : sameN ⟨u1, u2, u5, u3, u4⟩ ⟨v1, v2, v5, v3, v4⟩ = false := by simp only [sameN, e1, e2]; rfl
      rw [e]
      repeat' (first | (simp (disch := first | omega | (simp only [List.length_append, List.length_cons, List.length_nil, List.length_map, List.length_set]; omega)) only [VC_seq, VC_cond, VC_ret, VC_region, VI_true, VO_nil, VO_plain, VV_some, VS, DT_nil, DT_plain, DT_guard, DG_true, DG_false, DS, cHs_f, cHs_n, cPs, lastS_1, lastS_2, ofV_bool, gdA, callOf, isPanic, nextOf, altA, evalOp, ev_tmp, ev_const, ev_func, Av.get, St.put, thenQ, Nat.reduceEqDiff, ↓reduceIte, List.map_cons, List.map_nil, List.nil_append, List.append_nil, List.getElem?_cons_zero, List.getElem?_cons_succ, List.getElem?_toArray, Option.map_some, Option.bind_some, beq_false, Bool.not_true, Bool.not_false, pickA, cond_false, ldC, and_self, true_and, Nat.add_zero, Nat.zero_add, List.cons_append, s_neq, ld9, fa45_0, fa45_1, e1, e2, bne]) | (guard_target =~ VCall _ _ _ _ _ _ _; refine VCall.pure (by first | with_reducible exact h1 | with_reducible exact h2 | with_reducible exact h3 | with_reducible exact h4) (by (first | rfl | (simp only [AV.hfs, AV.hf, Bool.and_self, Bool.and_true, Bool.true_and, strs_hfs]))) ?_) | (guard_target =~ DCal _ _ _ _ _ _ _; refine DCal.pure (by first | with_reducible exact h1 | with_reducible exact h2 | with_reducible exact h3 | with_reducible exact h4) (by (first | rfl | (simp only [AV.hfs, AV.hf, Bool.and_self, Bool.and_true, Bool.true_and, strs_hfs]))) ?_))
      exact ⟨_, rfl, _, rfl, .refl _⟩
    | true =>
      cases e3 : u4 == v4 with
      | false =>
        have e : sameN ⟨u1, u2, u5, u3, u4⟩ ⟨v1, v2, v5, v3, v4⟩ = false := by simp only [sameN, e1, e2, e3]; rfl
        rw [e]
        repeat' (first | (simp (disch := first | omega | (simp only [List.length_append, List.length_cons, List.length_nil, List.length_map, List.length_set]; omega)) only [VC_seq, VC_cond, VC_ret, VC_region, VI_true, VO_nil, VO_plain, VV_some, VS, DT_nil, DT_plain, DT_guard, DG_true, DG_false, DS, cHs_f, cHs_n, cPs, lastS_1, lastS_2, ofV_bool, gdA, callOf, isPanic, nextOf, altA, evalOp, ev_tmp, ev_const, ev_func, Av.get, St.put, thenQ, Nat.reduceEqDiff, ↓reduceIte, List.map_cons, List.map_nil, List.nil_append, List.append_nil, List.getElem?_cons_zero, List.getElem?_cons_succ, List.getElem?_toArray, Option.map_some, Option.bind_some, beq_false, Bool.not_true, Bool.not_false, pickA, cond_false, ldC, and_self, true_and, Nat.add_zero, Nat.zero_add, List.cons_append, s_neq, ld9, fa45_0, fa45_1, fa45_3, e1, e2, e3, bne]) | (guard_target =~ VCall _ _ _ _ _ _ _; refine VCall.pure (by first | with_reducible exact h1 | with_reducible exact h2 | with_reducible exact h3 | with_reducible exact h4) (by (first | rfl | (simp only [AV.hfs, AV.hf, Bool.and_self, Bool.and_true, Bool.true_and, strs_hfs]))) ?_) | (guard_target =~ DCal _ _ _ _ _ _ _; refine DCal.pure (by first | with_reducible exact h1 | with_reducible exact h2 | with_reducible exact h3 | with_reducible exact h4) (by (first | rfl | (simp only [AV.hfs, AV.hf, Bool.and_self, Bool.and_true, Bool.true_and, strs_hfs]))) ?_))
        exact ⟨_, rfl, _, rfl, .refl _⟩
      | true =>
        have e : sameN ⟨u1, u2, u5, u3, u4⟩ ⟨v1, v2, v5, v3, v4⟩ = eqL sameP u3 v3 := by simp only [sameN, e1, e2, e3]; rfl
        rw [e]
        by_cases hl : u3.length = v3.length
        · repeat' (first | (simp (disch := first | omega | (simp only [List.length_append, List.length_cons, List.length_nil, List.length_map, List.length_set]; omega)) only [VC_skip, VC_seq, VC_cond, VC_block, VC_region, VC_loop, VI_false, VO_nil, VO_plain, VV_some, VS, DT_nil, DT_plain, DT_guard, DG_true, DS, cHs_f, cHs_n, cPs, lastS_1, lastS_2, List.length_map, ofV_bool, ofV_int, deN_vsl, gdA, callOf, isPanic, nextOf, altA, evalOp, ev_tmp, ev_const, ev_func, Av.get, St.put, thenQ, Nat.reduceEqDiff, ↓reduceIte, List.map_cons, List.map_nil, List.nil_append, List.append_nil, List.getElem?_cons_zero, List.getElem?_cons_succ, List.getElem?_toArray, Option.map_some, Option.bind_some, beq_false, Bool.not_true, Bool.not_false, pickA, cond_false, ldC, and_self, true_and, Nat.add_zero, Nat.zero_add, List.cons_append, b_neq, s_neq, ieq_t, ld9, ld43, lv43, fa45_0, fa45_1, fa45_2, fa45_3, e1, e2, e3, bne]) | (guard_target =~ VCall _ _ _ _ _ _ _; refine VCall.pure (by first | with_reducible exact h1 | with_reducible exact h2 | with_reducible exact h3 | with_reducible exact h4) (by (first | rfl | (simp only [AV.hfs, AV.hf, Bool.and_self, Bool.and_true, Bool.true_and, strs_hfs]))) ?_) | (guard_target =~ DCal _ _ _ _ _ _ _; refine DCal.pure (by first | with_reducible exact h1 | with_reducible exact h2 | with_reducible exact h3 | with_reducible exact h4) (by (first | rfl | (simp only [AV.hfs, AV.hf, Bool.and_self, Bool.and_true, Bool.true_and, strs_hfs]))) ?_))
          refine W.loopT (X := Nat) (fun i => [(5, .int .i64 (i : Int)), (2, .ptr 0 0), (3, .ptr 1 0)]) (fun _ => [.cells [.str u1, .str u2, .vsl 3 u5 (u3.map encR), .str u4] false, .cells [.str v1, .str v2, .vsl 3 v5 (v3.map encR), .str v4] false])
            (fun i => i ≤ u3.length ∧ eqL sameP (u3.drop i) (v3.drop i) = eqL sameP u3 v3) (fun i => u3.length - i) 0 ⟨Nat.zero_le _, rfl⟩ ⟨rfl, rfl, rfl, trivial⟩ rfl ?_
          rintro i ⟨hi, hE⟩
          refine .vc (by decide) ?_
          by_cases h : i < u3.length
          · obtain ⟨⟨p1, p2⟩, hu, hud⟩ := drop_at h
            obtain ⟨⟨q1, q2⟩, hv, hvd⟩ := drop_at (show i < v3.length from by omega)
            rw [hud, hvd, eqL] at hE
            have hia : ∀ H, evIndexAddr Tryz.prog 43 (.vsl 3 u5 (u3.map encR)) (.int .i64 (i : Int)) H = some (.vptr [.str p1, .str p2]) := fun H => iv43 (v := encR (p1, p2)) (by simp [hu]) rfl H
            have hib : ∀ H, evIndexAddr Tryz.prog 43 (.vsl 3 v5 (v3.map encR)) (.int .i64 (i : Int)) H = some (.vptr [.str q1, .str q2]) := fun H => iv43 (v := encR (q1, q2)) (by simp [hv]) rfl H
            have g1 := smallR p1
            have g2 := smallR q1
            repeat' (first | (simp (disch := first | omega | (simp only [List.length_append, List.length_cons, List.length_nil, List.length_map, List.length_set]; omega)) only [VC_skip, VC_seq, VC_cond, VC_block, VC_region, VC_drawn, VI_true, VO_nil, VO_plain, VV_some, VS, List.length_map, deN_vsl, callOf, isPanic, nextOf, altA, evalOp, ev_tmp, Av.get, St.put, thenQ, Nat.reduceEqDiff, ↓reduceIte, List.getElem?_cons_zero, List.getElem?_cons_succ, Option.map_some, ldC, Nat.zero_add, b_lss, decide_eq_true, ld43, lv43, fa45_2]))
            refine W.drawN [] [false, false, false, false, false, false, false, false, false, false, false, false, false, false, false, false, false, false, false, false, false, false, false, false, false, false, false, false, false, false] [] mixed (by kernel_rfl) (by kernel_rfl) (by kernel_rfl) ?_
            cases f1 : small p1 == small q1 with
            | false =>
              have e : sameP (p1, p2) (q1, q2) = false := by simp only [sameP, f1]; rfl
              rw [e] at hE
              rw [← hE]
              repeat' (first | (simp (disch := first | omega | (simp only [List.length_append, List.length_cons, List.length_nil, List.length_map, List.length_set]; omega)) only [VC_seq, VC_cond, VC_ret, VC_region, VI_true, VO_nil, VO_plain, VV_some, VS, blockQ, DT_nil, DT_plain, DT_guard, DG_false, DS, cHs_f, cHs_n, cPs, lastS_1, lastS_2, ofV_bool, gdA, callOf, isPanic, nextOf, altA, evalOp, ev_tmp, ev_const, ev_func, Av.get, St.put, thenQ, Nat.reduceEqDiff, ↓reduceIte, List.map_cons, List.map_nil, List.nil_append, List.append_nil, List.getElem?_cons_zero, List.getElem?_cons_succ, List.getElem?_toArray, Option.map_some, Option.bind_some, beq_false, Bool.not_true, Bool.not_false, pickA, ldC, and_self, true_and, Nat.zero_add, List.drop_zero, List.cons_append, s_neq, Bool.false_and, lw9, ld43, fa45_2, fv54_0, hia, hib, f1, bne]) | (guard_target =~ VCall _ _ _ _ _ _ _; refine VCall.pure (by first | with_reducible exact g1 | with_reducible exact g2) (by (first | rfl | (simp only [AV.hfs, AV.hf, Bool.and_self, Bool.and_true, Bool.true_and, strs_hfs]))) ?_) | (guard_target =~ DCal _ _ _ _ _ _ _; refine DCal.pure (by first | with_reducible exact g1 | with_reducible exact g2) (by (first | rfl | (simp only [AV.hfs, AV.hf, Bool.and_self, Bool.and_true, Bool.true_and, strs_hfs]))) ?_))
              exact ⟨_, rfl, _, rfl, .refl _⟩
            | true =>
              cases f2 : p2 == q2 with
              | false =>
                have e : sameP (p1, p2) (q1, q2) = false := by simp only [sameP, f1, f2]; rfl
                rw [e] at hE
                rw [← hE]
                repeat' (first | (simp (disch := first | omega | (simp only [List.length_append, List.length_cons, List.length_nil, List.length_map, List.length_set]; omega)) only [VC_seq, VC_cond, VC_ret, VC_region, VI_true, VO_nil, VO_plain, VV_some, VS, blockQ, DT_nil, DT_plain, DT_guard, DG_true, DS, cHs_f, cHs_n, cPs, lastS_1, lastS_2, ofV_bool, gdA, callOf, isPanic, nextOf, altA, evalOp, ev_tmp, ev_const, ev_func, Av.get, St.put, thenQ, Nat.reduceEqDiff, ↓reduceIte, List.map_cons, List.map_nil, List.nil_append, List.append_nil, List.getElem?_cons_zero, List.getElem?_cons_succ, List.getElem?_toArray, Option.map_some, Option.bind_some, beq_false, Bool.not_true, Bool.not_false, pickA, cond_false, ldC, and_self, true_and, Nat.zero_add, List.drop_succ_cons, List.drop_zero, List.cons_append, s_neq, Bool.false_and, lw9, ld43, fa45_2, fv54_0, fv54_1, hia, hib, f1, f2, bne]) | (guard_target =~ VCall _ _ _ _ _ _ _; refine VCall.pure (by first | with_reducible exact g1 | with_reducible exact g2) (by (first | rfl | (simp only [AV.hfs, AV.hf, Bool.and_self, Bool.and_true, Bool.true_and, strs_hfs]))) ?_) | (guard_target =~ DCal _ _ _ _ _ _ _; refine DCal.pure (by first | with_reducible exact g1 | with_reducible exact g2) (by (first | rfl | (simp only [AV.hfs, AV.hf, Bool.and_self, Bool.and_true, Bool.true_and, strs_hfs]))) ?_))
                exact ⟨_, rfl, _, rfl, .refl _⟩
              | true =>
                have e : sameP (p1, p2) (q1, q2) = true := by simp only [sameP, f1, f2]; rfl
                rw [e] at hE
                repeat' (first | (simp (disch := first | omega | (simp only [List.length_append, List.length_cons, List.length_nil, List.length_map, List.length_set]; omega)) only [VC_skip, VC_cond, VC_region, VI_false, VO_nil, VO_plain, VV_some, VS, blockQ, DT_nil, DT_plain, DT_guard, DG_true, DS, cHs_f, cHs_n, cPs, lastS_1, lastS_2, ofV_bool, ofV_int, gdA, callOf, isPanic, nextOf, altA, evalOp, ev_tmp, ev_const, ev_func, Av.get, St.put, thenQ, Nat.reduceEqDiff, ↓reduceIte, List.map_cons, List.map_nil, List.nil_append, List.append_nil, List.getElem?_cons_zero, List.getElem?_cons_succ, List.getElem?_toArray, Option.map_some, Option.bind_some, beq_false, Bool.not_true, Bool.not_false, pickA, cond_false, ldC, and_self, true_and, and_true, Nat.zero_add, List.drop_succ_cons, List.drop_zero, List.cons_append, b_add64, s_neq, castS, lw9, ld43, fa45_2, fv54_0, fv54_1, hia, hib, f1, f2, bne]) | (guard_target =~ VCall _ _ _ _ _ _ _; refine VCall.pure (by first | with_reducible exact g1 | with_reducible exact g2) (by (first | rfl | (simp only [AV.hfs, AV.hf, Bool.and_self, Bool.and_true, Bool.true_and, strs_hfs]))) ?_) | (guard_target =~ DCal _ _ _ _ _ _ _; refine DCal.pure (by first | with_reducible exact g1 | with_reducible exact g2) (by (first | rfl | (simp only [AV.hfs, AV.hf, Bool.and_self, Bool.and_true, Bool.true_and, strs_hfs]))) ?_))
                exact ⟨i + 1, ⟨by omega, by rw [← hE]; rfl⟩, by omega, ⟨rfl, rfl, rfl, trivial⟩⟩
          · have e : i = u3.length := by omega
            subst e
            rw [List.drop_length, hl, List.drop_length] at hE
            rw [← hE]
            repeat' (first | (simp (disch := first | omega | (simp only [List.length_append, List.length_cons, List.length_nil, List.length_map, List.length_set]; omega)) only [VC_seq, VC_cond, VC_exit, VC_ret, VC_region, VI_false, VO_nil, VO_plain, VV_some, VS, blockQ, List.length_map, ofV_bool, deN_vsl, callOf, isPanic, nextOf, altA, evalOp, ev_tmp, ev_const, Av.get, St.put, thenQ, Nat.reduceEqDiff, ↓reduceIte, List.getElem?_cons_zero, List.getElem?_cons_succ, Option.map_some, ldC, Nat.zero_add, b_lss, decide_eq_false, ld43, lv43, fa45_2]))
            exact ⟨_, rfl, _, rfl, .refl _⟩
        · have e : eqL sameP u3 v3 = false := by
            cases h : eqL sameP u3 v3 with
            | false => rfl
            | true => exact (hl (eqL_len h)).elim
          rw [e]
          repeat' (first | (simp (disch := first | omega | (simp only [List.length_append, List.length_cons, List.length_nil, List.length_map, List.length_set]; omega)) only [VC_seq, VC_cond, VC_ret, VC_region, VI_true, VO_nil, VO_plain, VV_some, VS, DT_nil, DT_plain, DT_guard, DG_true, DS, cHs_f, cHs_n, cPs, lastS_1, lastS_2, List.length_map, ofV_bool, deN_vsl, gdA, callOf, isPanic, nextOf, altA, evalOp, ev_tmp, ev_const, ev_func, Av.get, St.put, thenQ, Nat.reduceEqDiff, ↓reduceIte, List.map_cons, List.map_nil, List.nil_append, List.append_nil, List.getElem?_cons_zero, List.getElem?_cons_succ, List.getElem?_toArray, Option.map_some, Option.bind_some, beq_false, Bool.not_true, Bool.not_false, pickA, cond_false, ldC, and_self, true_and, Nat.add_zero, Nat.zero_add, List.cons_append, b_neq, s_neq, ieq_f, ld9, ld43, lv43, fa45_0, fa45_1, fa45_2, fa45_3, e1, e2, e3, bne]) | (guard_target =~ VCall _ _ _ _ _ _ _; refine VCall.pure (by first | with_reducible exact h1 | with_reducible exact h2 | with_reducible exact h3 | with_reducible exact h4) (by (first | rfl | (simp only [AV.hfs, AV.hf, Bool.and_self, Bool.and_true, Bool.true_and, strs_hfs]))) ?_) | (guard_target =~ DCal _ _ _ _ _ _ _; refine DCal.pure (by first | with_reducible exact h1 | with_reducible exact h2 | with_reducible exact h3 | with_reducible exact h4) (by (first | rfl | (simp only [AV.hfs, AV.hf, Bool.and_self, Bool.and_true, Bool.true_and, strs_hfs]))) ?_))
          exact ⟨_, rfl, _, rfl, .refl _⟩

set_option maxRecDepth 8000 in
theorem sameRf (a b : Cd) : PureFn Tryz.prog 18 [encCd a, encCd b] (.ret (.bool (sameC a b))) := by
  obtain ⟨u1, u2, u3⟩ := a
  obtain ⟨v1, v2, v3⟩ := b
  refine PureFn.fitA fun hfit => ?_
  have hfl : u3.length ≤ 9223372036854775807 := by have := hfit [.str u1, .vsl 5 u2 (u3.map encLn)] (by simp [encCd]) (.vsl 5 u2 (u3.map encLn)) (by simp); simp only [AV.fit, List.length_map] at this; exact this
  simp only [encCd]
  refine PureFn.of Tryz.func18 rfl (enters_call enters Tryz.func18 rfl) (by simp [Tryz.ntmps18]) ?_
  show W Tryz.prog 39 0 none _ _ _
  refine W.vc (by decide) ?_
  cases e1 : u1 == v1 with
  | false =>
    have e : sameC ⟨u1, u2, u3⟩ ⟨v1, v2, v3⟩ = false := by simp only [sameC, e1]; rfl
    rw [e]
    repeat' (first | (simp (disch := first | omega | (simp only [List.length_append, List.length_cons, List.length_nil, List.length_map, List.length_set]; omega)) only [VC_seq, VC_cond, VC_ret, VC_region, VI_true, VO_nil, VO_plain, VO_guard, VG_false, VV_some, VS, AV.told, ofV_bool, gdA, callOf, isPanic, nextOf, altA, evalOp, ev_tmp, ev_const, Av.get, St.put, argT, thenQ, Nat.reduceEqDiff, ↓reduceIte, List.nil_append, List.getElem?_cons_zero, List.getElem?_cons_succ, List.getElem?_toArray, Option.map_some, Option.bind_some, beq_false, Bool.not_true, Bool.not_false, pickA, ldC, cl_agg, List.length_cons, List.length_nil, Nat.add_zero, Nat.zero_add, List.cons_append, s_neq, ld9, fa24_0, e1, bne]))
    exact ⟨_, rfl, _, rfl, .refl _⟩
  | true =>
    have e : sameC ⟨u1, u2, u3⟩ ⟨v1, v2, v3⟩ = eqL sameN u3 v3 := by simp only [sameC, e1]; rfl
    rw [e]
    by_cases hl : u3.length = v3.length
    · repeat' (first | (simp (disch := first | omega | (simp only [List.length_append, List.length_cons, List.length_nil, List.length_map, List.length_set]; omega)) only [VC_skip, VC_seq, VC_cond, VC_block, VC_region, VC_loop, VI_false, VO_nil, VO_plain, VO_guard, VG_true, VV_some, VS, List.length_map, AV.told, ofV_bool, ofV_int, deN_vsl, gdA, callOf, isPanic, nextOf, altA, evalOp, ev_tmp, ev_const, Av.get, St.put, argT, thenQ, Nat.reduceEqDiff, ↓reduceIte, List.nil_append, List.getElem?_cons_zero, List.getElem?_cons_succ, List.getElem?_toArray, Option.map_some, Option.bind_some, beq_false, Bool.not_true, Bool.not_false, pickA, cond_false, ldC, cl_agg, List.length_cons, List.length_nil, Nat.add_zero, Nat.zero_add, List.cons_append, b_neq, s_neq, ieq_t, ld9, ld22, lv22, fa24_0, fa24_1, e1, bne]))
      refine W.loopT (X := Nat) (fun i => [(5, .int .i64 (i : Int)), (2, .ptr 0 0), (3, .ptr 1 0)]) (fun _ => [.cells [.str u1, .vsl 5 u2 (u3.map encLn)] false, .cells [.str v1, .vsl 5 v2 (v3.map encLn)] false])
        (fun i => i ≤ u3.length ∧ eqL sameN (u3.drop i) (v3.drop i) = eqL sameN u3 v3) (fun i => u3.length - i) 0 ⟨Nat.zero_le _, rfl⟩ ⟨rfl, rfl, rfl, trivial⟩ rfl ?_
      rintro i ⟨hi, hE⟩
      refine .vc (by decide) ?_
      by_cases h : i < u3.length
      · obtain ⟨⟨p1, p2, p3, p4, p5⟩, hu, hud⟩ := drop_at h
        obtain ⟨⟨q1, q2, q3, q4, q5⟩, hv, hvd⟩ := drop_at (show i < v3.length from by omega)
        rw [hud, hvd, eqL] at hE
        have hia : ∀ H, evIndexAddr Tryz.prog 22 (.vsl 5 u2 (u3.map encLn)) (.int .i64 (i : Int)) H = some (.vptr [.str p1, .str p2, .vsl 3 p3 (p4.map encR), .str p5]) := fun H => iv22 (v := encLn ⟨p1, p2, p3, p4, p5⟩) (by simp [hu]) rfl H
        have hib : ∀ H, evIndexAddr Tryz.prog 22 (.vsl 5 v2 (v3.map encLn)) (.int .i64 (i : Int)) H = some (.vptr [.str q1, .str q2, .vsl 3 q3 (q4.map encR), .str q5]) := fun H => iv22 (v := encLn ⟨q1, q2, q3, q4, q5⟩) (by simp [hv]) rfl H
        have g1 := same_R ⟨p1, p2, p3, p4, p5⟩ ⟨q1, q2, q3, q4, q5⟩
        simp only [encLn] at g1
        repeat' (first | (simp (disch := first | omega | (simp only [List.length_append, List.length_cons, List.length_nil, List.length_map, List.length_set]; omega)) only [VC_skip, VC_seq, VC_cond, VC_block, VC_region, VC_drawn, VI_true, VO_nil, VO_plain, VV_some, VS, List.length_map, deN_vsl, callOf, isPanic, nextOf, altA, evalOp, ev_tmp, Av.get, St.put, thenQ, Nat.reduceEqDiff, ↓reduceIte, List.getElem?_cons_zero, List.getElem?_cons_succ, Option.map_some, ldC, Nat.zero_add, b_lss, decide_eq_true, ld22, lv22, fa24_1]))
        refine W.drawN [] [false, false, false, false, false, false, false, false, false, false, false, false] [] mixed (by kernel_rfl) (by kernel_rfl) (by kernel_rfl) ?_
        cases f1 : sameN ⟨p1, p2, p3, p4, p5⟩ ⟨q1, q2, q3, q4, q5⟩ with
        | false =>
          rw [f1] at hE g1
          rw [← hE]
          repeat' (first | (simp (disch := first | omega | (simp only [List.length_append, List.length_cons, List.length_nil, List.length_map, List.length_set]; omega)) only [VC_seq, VC_cond, VC_ret, VC_region, VI_true, VO_nil, VO_plain, VV_some, VS, blockQ, DT_nil, DT_plain, DS, cHs_f, cHs_n, cPs, lastS_1, lastS_2, u_notb, ofV_bool, callOf, isPanic, nextOf, altA, evalOp, ev_tmp, ev_const, ev_func, Av.get, St.put, thenQ, Nat.reduceEqDiff, ↓reduceIte, List.map_cons, List.map_nil, List.nil_append, List.append_nil, List.getElem?_cons_zero, List.getElem?_cons_succ, Option.map_some, Bool.not_false, ldC, List.length_cons, List.length_nil, Nat.reduceAdd, and_self, true_and, Nat.zero_add, List.take_succ_cons, List.take_zero, Nat.le_refl, List.cons_append, Bool.false_and, ld22, fa24_1, lw45, hia, hib]) | (guard_target =~ VCall _ _ _ _ _ _ _; refine VCall.pure (by first | with_reducible exact g1) (by (first | rfl | (simp only [AV.hfs, AV.hf, Bool.and_self, Bool.and_true, Bool.true_and, strs_hfs, encR_hfs]))) ?_) | (guard_target =~ DCal _ _ _ _ _ _ _; refine DCal.pure (by first | with_reducible exact g1) (by (first | rfl | (simp only [AV.hfs, AV.hf, Bool.and_self, Bool.and_true, Bool.true_and, strs_hfs, encR_hfs]))) ?_))
          exact ⟨_, rfl, _, rfl, .refl _⟩
        | true =>
          rw [f1] at hE g1
          repeat' (first | (simp (disch := first | omega | (simp only [List.length_append, List.length_cons, List.length_nil, List.length_map, List.length_set]; omega)) only [VC_skip, VC_cond, VC_region, VI_false, VO_nil, VO_plain, VV_some, VS, blockQ, DT_nil, DT_plain, DS, cHs_f, cHs_n, cPs, lastS_1, lastS_2, u_notb, ofV_int, callOf, isPanic, nextOf, altA, evalOp, ev_tmp, ev_const, ev_func, Av.get, St.put, thenQ, Nat.reduceEqDiff, ↓reduceIte, List.map_cons, List.map_nil, List.nil_append, List.append_nil, List.getElem?_cons_zero, List.getElem?_cons_succ, Option.map_some, Bool.not_true, ldC, List.length_cons, List.length_nil, Nat.reduceAdd, and_self, true_and, and_true, Nat.zero_add, List.take_succ_cons, List.take_zero, Nat.le_refl, List.cons_append, b_add64, castS, ld22, fa24_1, lw45, hia, hib]) | (guard_target =~ VCall _ _ _ _ _ _ _; refine VCall.pure (by first | with_reducible exact g1) (by (first | rfl | (simp only [AV.hfs, AV.hf, Bool.and_self, Bool.and_true, Bool.true_and, strs_hfs, encR_hfs]))) ?_) | (guard_target =~ DCal _ _ _ _ _ _ _; refine DCal.pure (by first | with_reducible exact g1) (by (first | rfl | (simp only [AV.hfs, AV.hf, Bool.and_self, Bool.and_true, Bool.true_and, strs_hfs, encR_hfs]))) ?_))
          exact ⟨i + 1, ⟨by omega, by rw [← hE]; rfl⟩, by omega, ⟨rfl, rfl, rfl, trivial⟩⟩
      · have e : i = u3.length := by omega
        subst e
        rw [List.drop_length, hl, List.drop_length] at hE
        rw [← hE]
        repeat' (first | (simp (disch := first | omega | (simp only [List.length_append, List.length_cons, List.length_nil, List.length_map, List.length_set]; omega)) only [VC_seq, VC_cond, VC_exit, VC_ret, VC_region, VI_false, VO_nil, VO_plain, VV_some, VS, blockQ, List.length_map, ofV_bool, deN_vsl, callOf, isPanic, nextOf, altA, evalOp, ev_tmp, ev_const, Av.get, St.put, thenQ, Nat.reduceEqDiff, ↓reduceIte, List.getElem?_cons_zero, List.getElem?_cons_succ, Option.map_some, ldC, Nat.zero_add, b_lss, decide_eq_false, ld22, lv22, fa24_1]))
        exact ⟨_, rfl, _, rfl, .refl _⟩
    · have e : eqL sameN u3 v3 = false := by
        cases h : eqL sameN u3 v3 with
        | false => rfl
        | true => exact (hl (eqL_len h)).elim
      rw [e]
      repeat' (first | (simp (disch := first | omega | (simp only [List.length_append, List.length_cons, List.length_nil, List.length_map, List.length_set]; omega)) only [VC_seq, VC_cond, VC_ret, VC_region, VI_true, VO_nil, VO_plain, VO_guard, VG_true, VV_some, VS, List.length_map, AV.told, ofV_bool, deN_vsl, gdA, callOf, isPanic, nextOf, altA, evalOp, ev_tmp, ev_const, Av.get, St.put, argT, thenQ, Nat.reduceEqDiff, ↓reduceIte, List.nil_append, List.getElem?_cons_zero, List.getElem?_cons_succ, List.getElem?_toArray, Option.map_some, Option.bind_some, beq_false, Bool.not_true, Bool.not_false, pickA, cond_false, ldC, cl_agg, List.length_cons, List.length_nil, Nat.add_zero, Nat.zero_add, List.cons_append, b_neq, s_neq, ieq_f, ld9, ld22, lv22, fa24_0, fa24_1, e1, bne]))
      exact ⟨_, rfl, _, rfl, .refl _⟩
end Go.Proofs.YtjlhemfmeboadaaGreatDoor
namespace Go.Proofs.YtjlhemfmeboadaaGreatDoor
set_option linter.unusedVariables false
set_option linter.unusedSimpArgs false
open Go Go.Av Go.RowKit

theorem beq_comm' (a b : Bytes) : (a == b) = (b == a) := by
  by_cases h : a = b
  · subst h; rfl
  · rw [beq_eq_false_iff_ne.2 h, beq_eq_false_iff_ne.2 (Ne.symm h)]
theorem eqL_comm {α : Type} {p : α → α → Bool} (hp : ∀ a b, p a b = p b a) : ∀ a b : List α, eqL p a b = eqL p b a
  | [], [] => rfl
  | x :: a, y :: b => by rw [eqL, eqL, hp x y, eqL_comm hp a b]
  | [], _ :: _ => rfl
  | _ :: _, [] => rfl
theorem eqL_refl {α : Type} {p : α → α → Bool} (hp : ∀ a, p a a = true) : ∀ a : List α, eqL p a a = true
  | [] => rfl
  | x :: a => by rw [eqL, hp x, eqL_refl hp a]; rfl
theorem sameP_comm (a b : Bytes × Bytes) : sameP a b = sameP b a := by
  simp only [sameP]; rw [beq_comm' (small a.1), beq_comm' a.2]
theorem sameN_comm (a b : Ln) : sameN a b = sameN b a := by
  simp only [sameN]; rw [beq_comm' (small a.g), beq_comm' (small a.n), beq_comm' a.v, eqL_comm sameP_comm]
theorem sameC_comm (a b : Cd) : sameC a b = sameC b a := by
  simp only [sameC]; rw [beq_comm' a.ver, eqL_comm sameN_comm]
theorem sameP_refl (a : Bytes × Bytes) : sameP a a = true := by simp [sameP]
theorem sameN_refl (a : Ln) : sameN a a = true := by simp [sameN, eqL_refl sameP_refl]
theorem sameC_refl (a : Cd) : sameC a a = true := by simp [sameC, eqL_refl sameN_refl]

set_option maxRecDepth 8000 in
theorem vcardSame (a b : Cd) : PureFn Tryz.prog 9 [encCd a, encCd b] (.ret (.bool true)) := by
  have hla := lightV a
  have hlb := lightV b
  have hk := knownV
  have hr := sameRf a b
  have h1 := sameV a b
  have h2 := sameV b a
  have h3 := sameV a a
  rw [sameC_comm b a] at h2
  rw [sameC_refl] at h3
  obtain ⟨u1, u2, u3⟩ := a
  obtain ⟨v1, v2, v3⟩ := b
  generalize lightB ⟨u1, u2, u3⟩ = la at *
  generalize lightB ⟨v1, v2, v3⟩ = lb at *
  generalize sameC ⟨u1, u2, u3⟩ ⟨v1, v2, v3⟩ = q at *
  simp only [encCd] at *
  refine PureFn.of Tryz.func9 rfl (enters_call enters Tryz.func9 rfl) (by simp [Tryz.ntmps9]) ?_
  show W Tryz.prog 38 0 none _ _ _
  refine W.vc (by decide) ?_
  cases la with
  | false =>
    repeat' (first | (simp (disch := first | omega | (simp only [List.length_append, List.length_cons, List.length_nil, List.length_map, List.length_set]; omega)) only [VC_seq, VC_cond, VC_ret, VC_region, VI_true, VO_nil, VO_plain, VO_guard, VG_false, VV_some, VS, u_notb, AV.told, ofV_bool, gdA, callOf, isPanic, nextOf, altA, evalOp, ev_tmp, ev_const, ev_func, Av.get, St.put, argT, thenQ, Nat.reduceEqDiff, ↓reduceIte, List.map_cons, List.map_nil, List.nil_append, List.append_nil, List.getElem?_cons_zero, List.getElem?_cons_succ, List.getElem?_toArray, Option.map_some, Option.bind_some, beq_false, Bool.not_true, Bool.not_false, pickA, ldG, cl_agg, List.length_cons, List.length_nil, Nat.reduceAdd, Nat.zero_add, List.drop_zero, List.take_succ_cons, List.take_zero, Nat.le_refl, List.cons_append, ld24]) | (guard_target =~ VCall _ _ _ _ _ _ _; refine VCall.pure (by first | with_reducible exact hla | with_reducible exact hlb | with_reducible exact hk) (by (first | rfl | (simp only [AV.hfs, AV.hf, Bool.and_self, Bool.and_true, Bool.true_and, strs_hfs, encLn_hfs]))) ?_) | (guard_target =~ DCal _ _ _ _ _ _ _; refine DCal.pure (by first | with_reducible exact hla | with_reducible exact hlb | with_reducible exact hk) (by (first | rfl | (simp only [AV.hfs, AV.hf, Bool.and_self, Bool.and_true, Bool.true_and, strs_hfs, encLn_hfs]))) ?_))
    exact ⟨_, rfl, _, rfl, .refl _⟩
  | true =>
    cases lb with
    | false =>
      repeat' (first | (simp (disch := first | omega | (simp only [List.length_append, List.length_cons, List.length_nil, List.length_map, List.length_set]; omega)) only [VC_seq, VC_cond, VC_ret, VC_region, VI_true, VO_nil, VO_plain, VO_guard, VG_true, VV_some, VS, u_notb, AV.told, ofV_bool, gdA, callOf, isPanic, nextOf, altA, evalOp, ev_tmp, ev_const, ev_func, Av.get, St.put, argT, thenQ, Nat.reduceEqDiff, ↓reduceIte, List.map_cons, List.map_nil, List.nil_append, List.append_nil, List.getElem?_cons_zero, List.getElem?_cons_succ, List.getElem?_toArray, Option.map_some, Option.bind_some, beq_false, Bool.not_true, Bool.not_false, pickA, cond_false, ldG, cl_agg, List.length_cons, List.length_nil, Nat.reduceAdd, Nat.zero_add, List.drop_zero, List.take_succ_cons, List.take_zero, Nat.le_refl, List.cons_append, ld24]) | (guard_target =~ VCall _ _ _ _ _ _ _; refine VCall.pure (by first | with_reducible exact hla | with_reducible exact hlb | with_reducible exact hk) (by (first | rfl | (simp only [AV.hfs, AV.hf, Bool.and_self, Bool.and_true, Bool.true_and, strs_hfs, encLn_hfs]))) ?_) | (guard_target =~ DCal _ _ _ _ _ _ _; refine DCal.pure (by first | with_reducible exact hla | with_reducible exact hlb | with_reducible exact hk) (by (first | rfl | (simp only [AV.hfs, AV.hf, Bool.and_self, Bool.and_true, Bool.true_and, strs_hfs, encLn_hfs]))) ?_))
      exact ⟨_, rfl, _, rfl, .refl _⟩
    | true =>
      cases q with
      | false =>
        repeat' (first | (simp (disch := first | omega | (simp only [List.length_append, List.length_cons, List.length_nil, List.length_map, List.length_set]; omega)) only [VC_skip, VC_seq, VC_cond, VC_ret, VC_region, VI_false, VO_nil, VO_plain, VO_guard, VG_true, VV_some, VS, u_notb, AV.told, ofV_bool, gdA, callOf, isPanic, nextOf, altA, evalOp, ev_tmp, ev_const, ev_func, Av.get, St.put, argT, thenQ, Nat.reduceEqDiff, ↓reduceIte, List.map_cons, List.map_nil, List.nil_append, List.append_nil, List.getElem?_cons_zero, List.getElem?_cons_succ, List.getElem?_toArray, Option.map_some, Option.bind_some, Bool.not_true, pickA, cond_true, cond_false, ldG, cl_agg, List.length_cons, List.length_nil, Nat.reduceAdd, Nat.zero_add, List.drop_zero, List.take_succ_cons, List.take_zero, Nat.le_refl, List.cons_append, ld24, beq_self_eq_true, b_eqlb _ _ Tryz.underlying4]) | (guard_target =~ VCall _ _ _ _ _ _ _; refine VCall.pure (by first | with_reducible exact hla | with_reducible exact hlb | with_reducible exact hk | with_reducible exact hr | with_reducible exact h1 | with_reducible exact h2 | with_reducible exact h3) (by (first | rfl | (simp only [AV.hfs, AV.hf, Bool.and_self, Bool.and_true, Bool.true_and, strs_hfs, encLn_hfs]))) ?_) | (guard_target =~ DCal _ _ _ _ _ _ _; refine DCal.pure (by first | with_reducible exact hla | with_reducible exact hlb | with_reducible exact hk | with_reducible exact hr | with_reducible exact h1 | with_reducible exact h2 | with_reducible exact h3) (by (first | rfl | (simp only [AV.hfs, AV.hf, Bool.and_self, Bool.and_true, Bool.true_and, strs_hfs, encLn_hfs]))) ?_))
        exact ⟨_, rfl, _, rfl, .refl _⟩
      | true =>
        repeat' (first | (simp (disch := first | omega | (simp only [List.length_append, List.length_cons, List.length_nil, List.length_map, List.length_set]; omega)) only [VC_skip, VC_seq, VC_cond, VC_ret, VC_region, VI_false, VO_nil, VO_plain, VO_guard, VG_true, VV_some, VS, u_notb, AV.told, ofV_bool, gdA, callOf, isPanic, nextOf, altA, evalOp, ev_tmp, ev_const, ev_func, Av.get, St.put, argT, thenQ, Nat.reduceEqDiff, ↓reduceIte, List.map_cons, List.map_nil, List.nil_append, List.append_nil, List.getElem?_cons_zero, List.getElem?_cons_succ, List.getElem?_toArray, Option.map_some, Option.bind_some, Bool.not_true, pickA, cond_true, cond_false, ldG, cl_agg, List.length_cons, List.length_nil, Nat.reduceAdd, Nat.zero_add, List.drop_zero, List.take_succ_cons, List.take_zero, Nat.le_refl, List.cons_append, ld24, beq_self_eq_true, b_eqlb _ _ Tryz.underlying4]) | (guard_target =~ VCall _ _ _ _ _ _ _; refine VCall.pure (by first | with_reducible exact hla | with_reducible exact hlb | with_reducible exact hk | with_reducible exact hr | with_reducible exact h1 | with_reducible exact h2 | with_reducible exact h3) (by (first | rfl | (simp only [AV.hfs, AV.hf, Bool.and_self, Bool.and_true, Bool.true_and, strs_hfs, encLn_hfs]))) ?_) | (guard_target =~ DCal _ _ _ _ _ _ _; refine DCal.pure (by first | with_reducible exact hla | with_reducible exact hlb | with_reducible exact hk | with_reducible exact hr | with_reducible exact h1 | with_reducible exact h2 | with_reducible exact h3) (by (first | rfl | (simp only [AV.hfs, AV.hf, Bool.and_self, Bool.and_true, Bool.true_and, strs_hfs, encLn_hfs]))) ?_))
        exact ⟨_, rfl, _, rfl, .refl _⟩
end Go.Proofs.YtjlhemfmeboadaaGreatDoor
namespace Go.Proofs.YtjlhemfmeboadaaGreatDoor
set_option linter.unusedVariables false
set_option linter.unusedSimpArgs false
open Go Go.Av Go.ChangeShapes Go.WideShapes Go.ChangeAt Go.RowKit

section
variable {H : Type} {enc : TypeId × Value → H} {w : World} {base : Nat} {sp : Nat → Bool} {held : Bool}
theorem coS : Tryz.prog.cellsOf 9 = 1 := by kernel_rfl
theorem coP : Tryz.prog.cellsOf 54 = 2 := by kernel_rfl
theorem coPs : Tryz.prog.cellsOf 43 = 1 := by kernel_rfl
theorem coL : Tryz.prog.cellsOf 45 = 4 := by kernel_rfl
theorem coLs : Tryz.prog.cellsOf 22 = 1 := by kernel_rfl
theorem coC : Tryz.prog.cellsOf 24 = 2 := by kernel_rfl

theorem opensP : Opens enc Tryz.prog w base sp held 54 (fun v => ∃ a : Bytes × Bytes, v = encR a) := by
  intro fuel cs x h
  obtain ⟨xs, n, _, _, hl, hn, hf⟩ := DataW.trod_struct Tryz.underlying54 h
  rw [coP] at hl
  have hxs : xs.length = 2 := by rw [hn]; rfl
  have h0 : DataW.trod enc Tryz.prog w base sp held n 9 ((cs.drop 0).take (Tryz.prog.cellsOf 9)) = xs[0]? := hf 0 _ rfl
  have h1 : DataW.trod enc Tryz.prog w base sp held n 9 ((cs.drop 1).take (Tryz.prog.cellsOf 9)) = xs[1]? := hf 1 _ rfl
  obtain ⟨a, b, rfl⟩ : ∃ a b, cs = [a, b] := by
    rcases cs with _ | ⟨a, _ | ⟨b, _ | ⟨c, r⟩⟩⟩ <;> simp at hl
    exact ⟨a, b, rfl⟩
  rw [List.getElem?_eq_getElem (by omega)] at h0 h1
  obtain ⟨u, ⟨s, rfl⟩, hu⟩ := opens_str (enc := enc) Tryz.underlying9 n _ _ h0
  obtain ⟨v, ⟨l, rfl⟩, hv⟩ := opens_str (enc := enc) Tryz.underlying9 n _ _ h1
  rw [coS] at hu hv
  have hu' : VRs (allF w) w noμ [.str s] [a] := hu
  have hv' : VRs (allF w) w noμ [.str l] [b] := hv
  refine ⟨encR (s, l), ⟨_, rfl⟩, ?_⟩
  show VRs _ _ _ [.str s, .str l] [a, b]
  cases hu' with
  | cons _ _ _ _ g1 _ => cases hv' with
    | cons _ _ _ _ g2 _ => exact .cons _ _ _ _ g1 (.cons _ _ _ _ g2 .nil)

theorem opensPs : Opens enc Tryz.prog w base sp held 43 (fun v => ∃ e : List (Bytes × Bytes), v = .vsl 3 false (e.map encR)) := by
  intro fuel cs x h
  obtain ⟨v, ⟨es, h1, rfl⟩, h2⟩ := opens_slice (wd := 3) Tryz.underlying43 coP (by decide) opensP fuel cs x h
  obtain ⟨l, rfl⟩ := list_form h1
  exact ⟨_, ⟨l, rfl⟩, h2⟩

theorem opensL : Opens enc Tryz.prog w base sp held 45 (fun v => ∃ a : Ln, v = encLn a) := by
  intro fuel cs x h
  obtain ⟨xs, n, _, _, hl, hn, hf⟩ := DataW.trod_struct Tryz.underlying45 h
  rw [coL] at hl
  have hxs : xs.length = 4 := by rw [hn]; rfl
  have h0 : DataW.trod enc Tryz.prog w base sp held n 9 ((cs.drop 0).take (Tryz.prog.cellsOf 9)) = xs[0]? := hf 0 _ rfl
  have h1 : DataW.trod enc Tryz.prog w base sp held n 9 ((cs.drop 1).take (Tryz.prog.cellsOf 9)) = xs[1]? := hf 1 _ rfl
  have h2 : DataW.trod enc Tryz.prog w base sp held n 43 ((cs.drop 2).take (Tryz.prog.cellsOf 43)) = xs[2]? := hf 2 _ rfl
  have h3 : DataW.trod enc Tryz.prog w base sp held n 9 ((cs.drop 3).take (Tryz.prog.cellsOf 9)) = xs[3]? := hf 3 _ rfl
  obtain ⟨a, b, c, d, rfl⟩ : ∃ a b c d, cs = [a, b, c, d] := by
    rcases cs with _ | ⟨a, _ | ⟨b, _ | ⟨c, _ | ⟨d, _ | ⟨e, r⟩⟩⟩⟩⟩ <;> simp at hl
    exact ⟨a, b, c, d, rfl⟩
  rw [List.getElem?_eq_getElem (by omega)] at h0 h1 h2 h3
  obtain ⟨u0, ⟨s0, rfl⟩, g0⟩ := opens_str (enc := enc) Tryz.underlying9 n _ _ h0
  obtain ⟨u1, ⟨s1, rfl⟩, g1⟩ := opens_str (enc := enc) Tryz.underlying9 n _ _ h1
  obtain ⟨u2, ⟨s2, rfl⟩, g2⟩ := opensPs (enc := enc) n _ _ h2
  obtain ⟨u3, ⟨s3, rfl⟩, g3⟩ := opens_str (enc := enc) Tryz.underlying9 n _ _ h3
  rw [coS] at g0 g1 g3
  rw [coPs] at g2
  have g0' : VRs (allF w) w noμ [.str s0] [a] := g0
  have g1' : VRs (allF w) w noμ [.str s1] [b] := g1
  have g2' : VRs (allF w) w noμ [.vsl 3 false (s2.map encR)] [c] := g2
  have g3' : VRs (allF w) w noμ [.str s3] [d] := g3
  refine ⟨encLn ⟨s0, s1, false, s2, s3⟩, ⟨_, rfl⟩, ?_⟩
  show VRs _ _ _ [.str s0, .str s1, .vsl 3 false (s2.map encR), .str s3] [a, b, c, d]
  cases g0' with
  | cons _ _ _ _ k0 _ => cases g1' with
    | cons _ _ _ _ k1 _ => cases g2' with
      | cons _ _ _ _ k2 _ => cases g3' with
        | cons _ _ _ _ k3 _ => exact .cons _ _ _ _ k0 (.cons _ _ _ _ k1 (.cons _ _ _ _ k2 (.cons _ _ _ _ k3 .nil)))

theorem opensLs : Opens enc Tryz.prog w base sp held 22 (fun v => ∃ e : List Ln, v = .vsl 5 false (e.map encLn)) := by
  intro fuel cs x h
  obtain ⟨v, ⟨es, h1, rfl⟩, h2⟩ := opens_slice (wd := 5) Tryz.underlying22 coL (by decide) opensL fuel cs x h
  obtain ⟨l, rfl⟩ := list_form h1
  exact ⟨_, ⟨l, rfl⟩, h2⟩

theorem opensC : Opens enc Tryz.prog w base sp held 24 (fun v => ∃ a : Cd, v = encCd a) := by
  intro fuel cs x h
  obtain ⟨xs, n, _, _, hl, hn, hf⟩ := DataW.trod_struct Tryz.underlying24 h
  rw [coC] at hl
  have hxs : xs.length = 2 := by rw [hn]; rfl
  have h0 : DataW.trod enc Tryz.prog w base sp held n 9 ((cs.drop 0).take (Tryz.prog.cellsOf 9)) = xs[0]? := hf 0 _ rfl
  have h1 : DataW.trod enc Tryz.prog w base sp held n 22 ((cs.drop 1).take (Tryz.prog.cellsOf 22)) = xs[1]? := hf 1 _ rfl
  obtain ⟨a, b, rfl⟩ : ∃ a b, cs = [a, b] := by
    rcases cs with _ | ⟨a, _ | ⟨b, _ | ⟨c, r⟩⟩⟩ <;> simp at hl
    exact ⟨a, b, rfl⟩
  rw [List.getElem?_eq_getElem (by omega)] at h0 h1
  obtain ⟨u, ⟨s, rfl⟩, hu⟩ := opens_str (enc := enc) Tryz.underlying9 n _ _ h0
  obtain ⟨v, ⟨l, rfl⟩, hv⟩ := opensLs (enc := enc) n _ _ h1
  rw [coS] at hu
  rw [coLs] at hv
  have hu' : VRs (allF w) w noμ [.str s] [a] := hu
  have hv' : VRs (allF w) w noμ [.vsl 5 false (l.map encLn)] [b] := hv
  refine ⟨encCd ⟨s, false, l⟩, ⟨_, rfl⟩, ?_⟩
  show VRs _ _ _ [.str s, .vsl 5 false (l.map encLn)] [a, b]
  cases hu' with
  | cons _ _ _ _ g1 _ => cases hv' with
    | cons _ _ _ _ g2 _ => exact .cons _ _ _ _ g1 (.cons _ _ _ _ g2 .nil)

set_option maxRecDepth 100000 in
theorem open_card {v : Value} {d : DataW H} {ps : List MemPlace} {r : Reach} {b0 : Nat} (hval : Value.okWide Tryz.prog w r b0 24 v) (hd : DataW.Trod enc Tryz.prog w base sp held 24 v d ps) :
    ∃ c : Cd, VR (allF w) w noμ (encCd c) v := by
  simp only [Value.okWide, Tryz.underlying24] at hval
  obtain ⟨cs, rfl, h2, _⟩ := hval
  obtain ⟨fuel, hf⟩ := hd
  obtain ⟨u, ⟨c, rfl⟩, hu⟩ := opensC (enc := enc) fuel _ _ hf
  exact ⟨c, .agg _ _ hu⟩

end

theorem calls_of_pure {P : Program} {f : FuncId} {fn : Func} {c : Code} {args : List AV} {Vs : List Value} {r : AV} {V : Value} (hN : Go.Av.Enters P) (hf : P.funcs[f]? = some fn) (hb : fn.body = some c) (w : World) (hp : PureFn P f args (.ret r))
    (hv : VRs (allF w) w noμ args Vs) (hr : ∀ F' w' R, VR F' w' noμ r R → R = V) : Calls P f Vs.toArray w fun e w' => e = .returned V ∧ Below w.heap.size w w' := by
  rcases hp (allF w) w Vs (fun b o h => h) hv with ⟨w1, h1, rfl, h2⟩ | ⟨V', w1, h1, h2⟩
  · refine h2.mono ?_
    rintro e w' ⟨hbl, F', _, _, _, ho⟩
    cases ho with
    | ret _ R h => exact ⟨by rw [hr _ _ _ h], hbl⟩
  · rw [enters_call hN hf hb] at h1; cases h1

/-- What stays as it was, of what was there. -/
theorem post_same {H : Type} {enc : TypeId × Value → H} {P : Program} {f : Func} {s : ChangeSpec} {apart fresh handsOn again : Bool} {W W' : World} {args : Array Value} {v : Value} {ds gs : List (DataW H)} {before pa pv : List MemPlace}
    (hW : DataW.Whole enc P f.params.toList s.vars apart W args.toList ds gs before)
    (hres : ∀ (b : Nat) (sp : Nat → Bool) (hd : Bool), DataW.TrodAll enc P W' b sp hd f.resultTypes.toList (v.resultList f.resultTypes.size) (s.fn H (ds ++ gs)).results [])
    (hargs : ∀ sp : Nat → Bool, (∀ p ∈ before, sp p.block = true) → DataW.TrodAll enc P W' 0 sp true f.params.toList args.toList (s.fn H (ds ++ gs)).args pa)
    (hvars : ∀ sp : Nat → Bool, (∀ p ∈ before, sp p.block = true) → DataW.TrodVars enc P W' sp s.vars (s.fn H (ds ++ gs)).vars pv)
    (hps : before = pa ++ pv) (hbl : Below W.heap.size W W')
    (hok : ∀ (j : Nat) (t : TypeId) (r : Value), f.resultTypes[j]? = some t → (v.resultList f.resultTypes.size)[j]? = some r → Value.okWide P W' .any 0 t r) :
    s.post enc P f apart fresh handsOn again W args v W' := by
  have hlt : ∀ p ∈ before, p.block < W.heap.size := fun p hp => hW.lt p hp
  refine ⟨ds, gs, before, [], pa, pv, hW, hres _ _ _, hargs (fun b => decide (b < W.heap.size)) (fun p hp => by simpa using hlt p hp), hvars (fun b => decide (b < W.heap.size)) (fun p hp => by simpa using hlt p hp), ?_, fun _ => ?_⟩
  · refine World.keptBut_mono (fun p hp => ⟨hp, ?_⟩) (hbl.frame (· ∈ before))
    rw [hps, List.mem_append] at hp
    exact Or.inr hp
  · obtain ⟨_, _, _, _, _, hz, hn⟩ := hW
    refine ⟨hok, _, _, ([] ++ pa) ++ pv, ⟨[] ++ pa, pv, trodAll_append (hargs _ (fun _ _ => rfl)) (hres _ _ _), hvars _ (fun _ _ => rfl), rfl, ?_, ?_⟩, ?_⟩
    · intro b off hp
      have hb : MemPlace.cell b off ∈ before := by rw [hps]; simpa using hp
      rw [hbl.frozen (hlt _ hb)]
      exact hz b off hb
    · intro ha
      have := hn ha
      rw [hps] at this
      simpa using this
    · intro p hp _
      rw [hps]
      simpa using hp
theorem laidAll : laidOutB Tryz.prog = true := by kernel_rfl
/-- An argument reads behind the call as it did before. -/
theorem stays {H : Type} {enc : TypeId × Value → H} {t : TypeId} (hr : Tryz.prog.readableRec t = true) (hrow : t < Tryz.prog.types.size) {W W' : World} {v : Value} {d : DataW H} {ps : List MemPlace}
    (h : DataW.Trod enc Tryz.prog W 0 (fun _ => true) true t v d ps) (hb : Below W.heap.size W W') (hlt : ∀ x ∈ ps, x.block < W.heap.size) (sp' : Nat → Bool) (hsp : ∀ x ∈ ps, sp' x.block = true) : DataW.Trod enc Tryz.prog W' 0 sp' true t v d ps :=
  WideElems.Trod_stays laidAll hr hrow h (fun x hx => hb.same (hlt x hx)) hsp

end Go.Proofs.YtjlhemfmeboadaaGreatDoor
