/- Contracts of functions that the statements of this seat reach: under the conditions named at each theorem. -/
import Derived.Test.YtjlhemfmeboadaaGreatDoorZbP11
import Derived.Test.YtjlhemfmeboadaaGreatDoorZbP10
import Derived.Test.YtjlhemfmeboadaaGreatDoorZbP7
import Derived.WalkKit
import Derived.ProofKit
import Derived.OpenShut
import Derived.Carry
import Derived.ChangeMaps5
import Derived.LaidMore
import Derived.Lay
import Derived.Stop.Joined
import Derived.Test.YtjlhemfmeboadaaGreatDoorRows
namespace Go.Proofs.YtjlhemfmeboadaaGreatDoor
set_option linter.unusedVariables false
set_option linter.unusedSimpArgs false
open Go Go.Av Go.RowKit

theorem pgT (g n u : Bytes) (b : Bool) (hu : u.length ≤ 1000000) (hb : b = !u.isEmpty) (q : Ln × Bool) (hq : q = tailG g n u) :
    W Tryz.prog 148 0 none pgTail (retQ Tryz.prog Tryz.f47.results.toList (pgOut q)) ⟨[(2, .ptr 0 0), (7, .ptr 1 0), (5, .str u), (6, .bool b)], pgB g n .nilsl, []⟩ := by
  subst hb hq
  exact parsedT g n u hu _ ⟨rfl, rfl, rfl, rfl, trivial⟩

set_option maxRecDepth 8000 in
theorem parsedV (s : Bytes) (hs : s.length ≤ 1000000) : PureFn Tryz.prog 47 [.str s] (pgOut (parsedG s)) := by
  refine PureFn.of Tryz.func47 rfl (enters_call enters Tryz.func47 rfl) (by simp [Tryz.ntmps47]) ?_
  show W Tryz.prog 148 0 none _ _ _
  have hnm := nameRf s hs
  have hb0 : ∀ n : Bytes, evBuild Tryz.prog 45 [(1, .str n)] = some (.agg [.str [], .str n, .nilsl, .str []]) := fun s => by kernel_rfl
  refine .seq (.vc (by decide) ?_)
  repeat' (first | (simp (disch := first | omega | (simp only [List.length_append, List.length_cons, List.length_nil, List.length_map, List.length_set]; omega)) only [VC_region, VO_nil, VO_plain, VV_some, VS, ofV_bool, callOf, isPanic, nextOf, altA, evalOp, ev_const, St.put, argT, thenQ, List.nil_append, Option.map_some, cl_agg, List.length_nil, zz45]))
  refine .seq (.vc (by decide) ?_)
  cases hn : nmR s with
  | none =>
    rw [hn] at hnm
    have hp : parsedG s = tailG [] [] [] := by simp only [parsedG, hn]; rfl
    repeat' (first | (simp (disch := first | omega | (simp only [List.length_append, List.length_cons, List.length_nil, List.length_map, List.length_set]; omega)) only [VC_region, VO_nil, VO_plain, VV_some, VS, callOf, isPanic, nextOf, altA, evalOp, ev_tmp, ev_func, Av.get, St.put, thenQ, Nat.reduceEqDiff, ↓reduceIte, List.map_cons, List.map_nil, List.nil_append, List.append_nil, List.getElem?_cons_zero, List.getElem?_cons_succ, Option.map_some]) | (guard_target =~ VCall _ _ _ _ _ _ _; refine VCall.pure (by first | with_reducible exact hnm) (by (first | rfl | (simp only [AV.hfs, AV.hf, Bool.and_self, Bool.and_true, Bool.true_and, strs_hfs]))) ?_) | (guard_target =~ DCal _ _ _ _ _ _ _; refine DCal.pure (by first | with_reducible exact hnm) (by (first | rfl | (simp only [AV.hfs, AV.hf, Bool.and_self, Bool.and_true, Bool.true_and, strs_hfs]))) ?_))
    refine .seq (.vc (by decide) ?_)
    repeat' (first | (simp (disch := first | omega | (simp only [List.length_append, List.length_cons, List.length_nil, List.length_map, List.length_set]; omega)) only [VC_region, VO_nil, VO_plain, VV_some, VS, callOf, isPanic, nextOf, altA, evalOp, ev_tmp, Av.get, St.put, thenQ, Nat.reduceEqDiff, ↓reduceIte, Bool.and_self, List.map_cons, List.map_nil, List.nil_append, List.getElem?_cons_zero, List.getElem?_cons_succ, Option.map_some, stC, ic_str, ic_nilsl, cl_agg, setC, List.set_cons_zero, List.set_cons_succ, List.length_cons, List.length_nil, Nat.reduceAdd, List.all_cons, List.all_nil, and_self, Nat.zero_add, Nat.le_refl, List.cons_append, st45, zz45, hb0]))
    refine W.seqT [(2, .ptr 0 0), (7, .ptr 1 0), (5, .str []), (6, .bool false)] (pgB [] [] .nilsl) (.vc (by decide) ?_) (pgT [] [] [] false (by simp) rfl _ hp)
    repeat' (first | (simp (disch := first | omega | (simp only [List.length_append, List.length_cons, List.length_nil, List.length_map, List.length_set]; omega)) only [VC_skip, VC_seq, VC_cond, VC_region, VI_false, VO_nil, VO_plain, VO_guard, VG_false, VV_some, VS, ofV_bool, gdA, callOf, isPanic, nextOf, altA, evalOp, ev_tmp, ev_const, Av.get, St.put, thenQ, Nat.reduceEqDiff, ↓reduceIte, List.getElem?_cons_zero, List.getElem?_cons_succ, List.getElem?_toArray, Option.bind_some, beq_true, Bool.false_eq_true, pickA, and_true]))
    exact ⟨⟨rfl, rfl, rfl, rfl, trivial⟩, rfl⟩
  | some q =>
    obtain ⟨n, t⟩ := q
    rw [hn] at hnm
    have htne := nmR_ne hn
    have htl := nmR_len hn
    obtain ⟨c, hc⟩ := ne_at htne
    have hxc := x0s hc
    have hte : t.isEmpty = false := by cases t <;> simp at htne ⊢
    have hsl1 := sl1 htne
    repeat' (first | (simp (disch := first | omega | (simp only [List.length_append, List.length_cons, List.length_nil, List.length_map, List.length_set]; omega)) only [VC_region, VO_nil, VO_plain, VV_some, VS, callOf, isPanic, nextOf, altA, evalOp, ev_tmp, ev_func, Av.get, St.put, thenQ, Nat.reduceEqDiff, ↓reduceIte, List.map_cons, List.map_nil, List.nil_append, List.append_nil, List.getElem?_cons_zero, List.getElem?_cons_succ, Option.map_some]) | (guard_target =~ VCall _ _ _ _ _ _ _; refine VCall.pure (by first | with_reducible exact hnm) (by (first | rfl | (simp only [AV.hfs, AV.hf, Bool.and_self, Bool.and_true, Bool.true_and, strs_hfs]))) ?_) | (guard_target =~ DCal _ _ _ _ _ _ _; refine DCal.pure (by first | with_reducible exact hnm) (by (first | rfl | (simp only [AV.hfs, AV.hf, Bool.and_self, Bool.and_true, Bool.true_and, strs_hfs]))) ?_))
    refine .seq (.vc (by decide) ?_)
    repeat' (first | (simp (disch := first | omega | (simp only [List.length_append, List.length_cons, List.length_nil, List.length_map, List.length_set]; omega)) only [VC_region, VO_nil, VO_plain, VV_some, VS, callOf, isPanic, nextOf, altA, evalOp, ev_tmp, Av.get, St.put, thenQ, Nat.reduceEqDiff, ↓reduceIte, Bool.and_self, List.map_cons, List.map_nil, List.nil_append, List.getElem?_cons_zero, List.getElem?_cons_succ, Option.map_some, stC, ic_str, ic_nilsl, cl_agg, setC, List.set_cons_zero, List.set_cons_succ, List.length_cons, List.length_nil, Nat.reduceAdd, List.all_cons, List.all_nil, and_self, Nat.zero_add, Nat.le_refl, List.cons_append, st45, zz45, hb0]))
    by_cases h46 : c.toNat = 46
    · have hc46 : t[0]? = some 46 := by rw [hc, UInt8.toNat_inj.1 (show c.toNat = (46 : UInt8).toNat from h46)]
      have hnm2 := nameRf (t.drop 1) (by simp; omega)
      cases hn2 : nmR (t.drop 1) with
      | none =>
        rw [hn2] at hnm2
        have hp : parsedG s = tailG n [] [] := by simp only [parsedG, hn, if_pos hc46, hn2]; rfl
        refine W.seqT [(2, .ptr 0 0), (7, .ptr 1 0), (5, .str []), (6, .bool false)] (pgB n [] .nilsl) (.vc (by decide) ?_) (pgT n [] [] false (by simp) rfl _ hp)
        repeat' (first | (simp (disch := first | omega | (simp only [List.length_append, List.length_cons, List.length_nil, List.length_map, List.length_set]; omega)) only [VC_seq, VC_cond, VC_region, VI_true, VO_nil, VO_plain, VO_guard, VG_true, VV_some, VS, ofV_bool, ofV_int, deN_str, gdA, callOf, isPanic, nextOf, altA, evalOp, ev_tmp, ev_const, ev_func, Av.get, St.put, thenQ, Nat.reduceEqDiff, ↓reduceIte, Bool.and_self, List.map_cons, List.map_nil, List.nil_append, List.append_nil, List.getElem?_cons_zero, List.getElem?_cons_succ, List.getElem?_toArray, Option.map_some, Option.map_none, Option.bind_some, beq_true, pickA, cond_true, stC, cl_str, ic_str, setC, List.set_cons_zero, List.set_cons_succ, List.length_cons, List.length_nil, Nat.reduceAdd, Nat.reduceLeDiff, List.all_cons, List.all_nil, and_self, and_true, Nat.add_zero, Nat.zero_add, b_eql, ieq_t, st9, fa45_0, fa45_1, hxc, hsl1]) | (guard_target =~ VCall _ _ _ _ _ _ _; refine VCall.pure (by first | with_reducible exact hnm2) (by (first | rfl | (simp only [AV.hfs, AV.hf, Bool.and_self, Bool.and_true, Bool.true_and, strs_hfs]))) ?_) | (guard_target =~ DCal _ _ _ _ _ _ _; refine DCal.pure (by first | with_reducible exact hnm2) (by (first | rfl | (simp only [AV.hfs, AV.hf, Bool.and_self, Bool.and_true, Bool.true_and, strs_hfs]))) ?_))
        exact ⟨⟨rfl, rfl, rfl, rfl, trivial⟩, rfl⟩
      | some q2 =>
        obtain ⟨m, u⟩ := q2
        rw [hn2] at hnm2
        have hune := nmR_ne hn2
        have hul := nmR_len hn2
        have hue : u.isEmpty = false := by cases u <;> simp at hune ⊢
        have hp : parsedG s = tailG n m u := by simp only [parsedG, hn, if_pos hc46, hn2]
        refine W.seqT [(2, .ptr 0 0), (7, .ptr 1 0), (5, .str u), (6, .bool true)] (pgB n m .nilsl) (.vc (by decide) ?_) (pgT n m u true (by simp at hul; omega) (by rw [hue]; rfl) _ hp)
        repeat' (first | (simp (disch := first | omega | (simp only [List.length_append, List.length_cons, List.length_nil, List.length_map, List.length_set]; omega)) only [VC_seq, VC_cond, VC_region, VI_true, VO_nil, VO_plain, VO_guard, VG_true, VV_some, VS, ofV_bool, ofV_int, deN_str, gdA, callOf, isPanic, nextOf, altA, evalOp, ev_tmp, ev_const, ev_func, Av.get, St.put, thenQ, Nat.reduceEqDiff, ↓reduceIte, Bool.and_self, List.map_cons, List.map_nil, List.nil_append, List.append_nil, List.getElem?_cons_zero, List.getElem?_cons_succ, List.getElem?_toArray, Option.map_some, Option.map_none, Option.bind_some, beq_true, pickA, cond_true, stC, cl_str, ic_str, setC, List.set_cons_zero, List.set_cons_succ, List.length_cons, List.length_nil, Nat.reduceAdd, Nat.reduceLeDiff, List.all_cons, List.all_nil, and_self, and_true, Nat.add_zero, Nat.zero_add, b_eql, ieq_t, st9, fa45_0, fa45_1, hxc, hsl1]) | (guard_target =~ VCall _ _ _ _ _ _ _; refine VCall.pure (by first | with_reducible exact hnm2) (by (first | rfl | (simp only [AV.hfs, AV.hf, Bool.and_self, Bool.and_true, Bool.true_and, strs_hfs]))) ?_) | (guard_target =~ DCal _ _ _ _ _ _ _; refine DCal.pure (by first | with_reducible exact hnm2) (by (first | rfl | (simp only [AV.hfs, AV.hf, Bool.and_self, Bool.and_true, Bool.true_and, strs_hfs]))) ?_))
        exact ⟨⟨rfl, rfl, rfl, rfl, trivial⟩, rfl⟩
    · have hc46 : t[0]? ≠ some 46 := by rw [hc]; intro e; cases e; exact h46 rfl
      have hp : parsedG s = tailG [] n t := by simp only [parsedG, hn, if_neg hc46]
      refine W.seqT [(2, .ptr 0 0), (7, .ptr 1 0), (5, .str t), (6, .bool true)] (pgB [] n .nilsl) (.vc (by decide) ?_) (pgT [] n t true (by omega) (by rw [hte]; rfl) _ hp)
      repeat' (first | (simp (disch := first | omega | (simp only [List.length_append, List.length_cons, List.length_nil, List.length_map, List.length_set]; omega)) only [VC_skip, VC_seq, VC_cond, VC_region, VI_false, VO_nil, VO_plain, VO_guard, VG_true, VV_some, VS, ofV_bool, ofV_int, gdA, callOf, isPanic, nextOf, altA, evalOp, ev_tmp, ev_const, Av.get, St.put, thenQ, Nat.reduceEqDiff, ↓reduceIte, List.getElem?_cons_zero, List.getElem?_cons_succ, List.getElem?_toArray, Option.map_some, Option.bind_some, beq_true, pickA, cond_true, and_true, b_eql, ieq_f, hxc, hsl1]))
      exact ⟨⟨rfl, rfl, rfl, rfl, trivial⟩, rfl⟩
end Go.Proofs.YtjlhemfmeboadaaGreatDoor
namespace Go.Proofs.YtjlhemfmeboadaaGreatDoor
set_option linter.unusedVariables false
set_option linter.unusedSimpArgs false
open Go Go.Av Go.RowKit

def stepG (c : Cd) (s : Bytes) : Option Cd := match lnR s with
  | none => none
  | some l => if l.n = sVersion then (if c.ver = [] ∧ l.g = [] ∧ l.ps = [] ∧ version l.v = true then some { c with ver := l.v } else none)
    else some { c with ls := c.ls ++ [l] }
def runG : Cd → List Bytes → Option Cd
  | c, [] => some c
  | c, s :: r => (stepG c s).bind fun d => runG d r
def okC (c : Cd) : Option Cd := if checkC c = 0 then some c else none
theorem stepG_sub {c d : Cd} {s : Bytes} {x : Ln} (h : stepG c s = some d) (hx : x ∈ c.ls) : x ∈ d.ls := by
  unfold stepG at h
  split at h
  · cases h
  · split at h
    · split at h
      · cases h; exact hx
      · cases h
    · cases h; simp [hx]
theorem runG_sub : ∀ {l : List Bytes} {c d : Cd} {x : Ln}, runG c l = some d → x ∈ c.ls → x ∈ d.ls
  | [], c, d, x, h, hx => by cases h; exact hx
  | s :: r, c, d, x, h, hx => by
    rw [runG] at h
    cases hs : stepG c s with
    | none => rw [hs] at h; cases h
    | some e => rw [hs] at h; exact runG_sub (l := r) h (stepG_sub hs hx)
theorem okC_bad {c : Cd} {x : Ln} (hx : x ∈ c.ls) (hb : lineB x = false) : okC c = none := by
  have : rightC c = false := by
    cases h : rightC c with
    | false => rfl
    | true =>
      simp only [rightC, Bool.and_eq_true] at h
      have := List.all_eq_true.1 h.2 x hx
      rw [hb] at this; cases this
  simp [okC, checkC, this]
theorem runG_runP : ∀ (l : List Bytes) (c : Cd), (runG c l).bind okC = (runP c l).bind okC
  | [], c => rfl
  | s :: r, c => by
    rw [runG, runP]
    unfold stepG stepP
    cases h : lnR s with
    | none => rfl
    | some l =>
      simp only
      by_cases hv : l.n = sVersion
      · rw [if_pos hv, if_pos hv]
        split
        · exact runG_runP r _
        · rfl
      · rw [if_neg hv, if_neg hv]
        cases hb : lineB l with
        | true => rw [if_pos rfl]; exact runG_runP r _
        | false =>
          rw [if_neg (by simp)]
          simp only [Option.bind_some, Option.bind_none]
          cases hr : runG { c with ls := c.ls ++ [l] } r with
          | none => rfl
          | some d => exact okC_bad (runG_sub hr (by simp)) hb
theorem parseM_G (s : Bytes) : parseM s = if headP s = true then (runG cd0 (midP s)).bind okC else none := by
  rw [runG_runP]; rfl
theorem hasS_last {u : Bytes} {y : UInt8} (h : u[u.length - 1]? = some y) : hasS u [10] = (y == 10) := by
  have hl := (List.getElem?_eq_some_iff.1 h).1
  obtain ⟨z, hz, hd⟩ := drop_at hl
  rw [h] at hz
  cases hz
  have hn : u.drop (u.length - 1 + 1) = [] := List.drop_of_length_le (by omega)
  rw [hn] at hd
  have : decide (([10] : Bytes).length ≤ u.length) = true := decide_eq_true (by simp; omega)
  have e : hasS u [10] = (u.drop (u.length - 1) == [10]) := by
    have h1 : decide (1 ≤ u.length) = true := this
    simp only [hasS, List.length_singleton, h1, Bool.true_and]
  rw [e, hd]
  by_cases e : y = 10
  · subst e; rfl
  · simp [e]

def gB (ver : Bytes) (v : AV) : List OB := [.cells [.str [], .nilsl] false, .cells [.str ver, v] false]
theorem gB_hlt {ver : Bytes} {v : AV} {m : Nat} (hv : v.hlt m = true) : (gB ver v).all (OB.hlt m) = true := by
  simp [gB, OB.hlt, AV.hlts, AV.hlt, hv]

set_option maxRecDepth 8000 in
theorem parseR (s : Bytes) (hs : s.length ≤ 1000000) : PureFn Tryz.prog 19 [.str s] (outP (parseO s)) := by
  refine PureFn.of Tryz.func19 rfl (enters_call enters Tryz.func19 rfl) (by simp [Tryz.ntmps19]) ?_
  show W Tryz.prog 108 0 none _ _ _
  have hbz : evBuild Tryz.prog 24 [] = some (.agg [.str [], .nilsl]) := by kernel_rfl
  refine .seq (.vc (by decide) ?_)
  repeat' (first | (simp (disch := first | omega | (simp only [List.length_append, List.length_cons, List.length_nil, List.length_map, List.length_set]; omega)) only [VC_region, VO_nil, VO_plain, VV_some, VS, ofV_int, callOf, isPanic, nextOf, altA, evalOp, ev_const, St.put, argT, thenQ, List.nil_append, Option.map_some, cl_agg, List.length_nil, zz24]))
  have zero : ∀ (T : List (Nat × AV)) (H : List OB) (n : Nat), H[0]? = some (.cells [.str [], .nilsl] false) → Av.get T 2 = .ptr 0 0 → Av.get T 3 = .int .i64 n → retQ Tryz.prog Tryz.f19.results.toList (outP (cd0, n)) .ret ⟨T, H, []⟩ := by
    intro T H n h0 h2 h3
    refine retQct (v := .agg [.str [], .nilsl]) (u := .int .i64 n) 2 24 3 rfl rfl ?_ h3 ⟨fz_aggL (k := 17) (ts := [.str [], .vsl 5 false []]) (LzL_hf rfl ⟨⟨_, rfl, .nils _ _⟩, trivial⟩), LzL_hf rfl trivial⟩
    simp only [h2]
    rw [ld24]
    simp only [ldG, h0]
    rfl
  by_cases q0 : s.length > 16000
  · have e : parseO s = (cd0, 3) := by simp only [parseO, if_pos q0]
    rw [e]
    refine .vc (by decide) ?_
    repeat' (first | (simp (disch := first | omega | (simp only [List.length_append, List.length_cons, List.length_nil, List.length_map, List.length_set]; omega)) only [VC_seq, VC_cond, VC_ret, VC_region, VI_true, VO_nil, VO_plain, VV_some, VS, ofV_int, deN_str, callOf, isPanic, nextOf, altA, evalOp, ev_tmp, ev_const, Av.get, St.put, thenQ, Nat.reduceEqDiff, ↓reduceIte, Bool.and_self, List.map_nil, List.getElem?_cons_zero, Option.map_some, stC, ic_str, ic_nilsl, cl_agg, setC, List.set_cons_zero, List.set_cons_succ, List.length_cons, List.length_nil, Nat.reduceAdd, List.all_cons, List.all_nil, and_self, Nat.zero_add, Nat.le_refl, b_gtr, decide_eq_true, ls9, st24, hbz]))
    exact zero _ _ 3 rfl rfl rfl
  refine .seq (.vc (by decide) ?_)
  repeat' (first | (simp (disch := first | omega | (simp only [List.length_append, List.length_cons, List.length_nil, List.length_map, List.length_set]; omega)) only [VC_skip, VC_seq, VC_cond, VC_region, VI_false, VO_nil, VO_plain, VV_some, VS, ofV_int, deN_str, callOf, isPanic, nextOf, altA, evalOp, ev_tmp, ev_const, Av.get, St.put, thenQ, Nat.reduceEqDiff, ↓reduceIte, Option.map_some, b_gtr, decide_eq_false, ls9]))
  have hun := unfoldR s hs
  have huf := unfR s hs
  have hull := unf_le s
  obtain ⟨all, hall⟩ : ∃ all, all = linesR s := ⟨_, rfl⟩
  have hal : all.length ≤ 1000000 := by have := linesR_len s; rw [← hall] at this; omega
  have hae : ∀ x ∈ all, x.length ≤ 1000000 := by intro x hx; rw [hall] at hx; have := linesR_le hx; omega
  have hlu : all.length ≤ (unf s).length := by rw [hall]; have := linesF_len ((unf s).length + 1) (unf s); unfold linesR linesU; exact this
  rw [← hall] at hun
  have bad : ∀ T, Av.get T 2 = .ptr 0 0 → Av.get T 3 = .int .i64 250 → headP s = false → retQ Tryz.prog Tryz.f19.results.toList (outP (parseO s)) .ret ⟨T, [.cells [.str [], .nilsl] false], []⟩ := by
    intro T h2 h3 hn
    have hn : parseM s = none := by simp [parseM, hn]
    have e : parseO s = (cd0, 250) := by simp only [parseO, if_neg q0, hn]
    rw [e]
    exact zero _ _ 250 rfl h2 h3
  by_cases q1 : 3 ≤ all.length
  case neg =>
    refine .vc (by decide) ?_
    repeat' (first | (simp (disch := first | omega | (simp only [List.length_append, List.length_cons, List.length_nil, List.length_map, List.length_set]; omega)) only [VC_seq, VC_cond, VC_ret, VC_region, VI_true, VO_nil, VO_plain, VO_guard, VG_false, VV_some, VS, List.length_map, ofV_bool, ofV_int, deN_vsl, gdA, callOf, isPanic, nextOf, altA, evalOp, ev_tmp, ev_const, ev_func, Av.get, St.put, thenQ, Nat.reduceEqDiff, ↓reduceIte, Bool.and_self, List.map_cons, List.map_nil, List.nil_append, List.append_nil, List.getElem?_cons_zero, List.getElem?_cons_succ, List.getElem?_toArray, Option.map_some, Option.bind_some, beq_false, Bool.not_true, pickA, stC, ic_str, ic_nilsl, cl_agg, setC, List.set_cons_zero, List.set_cons_succ, List.length_cons, List.length_nil, Nat.reduceAdd, List.all_cons, List.all_nil, and_self, Nat.zero_add, Nat.le_refl, b_lss, decide_eq_true, st24, lv38, hbz]) | (guard_target =~ VCall _ _ _ _ _ _ _; refine VCall.pure (by first | with_reducible exact hun | with_reducible exact huf) (by (first | rfl | (simp only [AV.hfs, AV.hf, Bool.and_self, Bool.and_true, Bool.true_and, strs_hfs, strs_hfs]))) ?_) | (guard_target =~ DCal _ _ _ _ _ _ _; refine DCal.pure (by first | with_reducible exact hun | with_reducible exact huf) (by (first | rfl | (simp only [AV.hfs, AV.hf, Bool.and_self, Bool.and_true, Bool.true_and, strs_hfs, strs_hfs]))) ?_))
    refine bad _ rfl rfl ?_
    simp [headP, ← hall, q1]
  obtain ⟨y, hy⟩ : ∃ y, (unf s)[(unf s).length - 1]? = some y := ⟨_, List.getElem?_eq_getElem (by omega)⟩
  have hxy : evIndex Tryz.prog 9 (.str (unf s)) (.int .i64 (((unf s).length : Int) - 1)) = some (.int .u8 y.toNat) := by
    have : (((unf s).length : Int) - 1) = (((unf s).length - 1 : Nat) : Int) := by omega
    rw [this]; exact xi9 hy
  have hsl := hasS_last hy
  by_cases q2 : y.toNat = 10
  case neg =>
    have q2' : (y == 10) = false := by
      simp only [beq_eq_false_iff_ne]; intro e; apply q2; rw [e]; rfl
    refine .vc (by decide) ?_
    repeat' (first | (simp (disch := first | omega | (simp only [List.length_append, List.length_cons, List.length_nil, List.length_map, List.length_set]; omega)) only [VC_seq, VC_cond, VC_ret, VC_region, VI_true, VO_nil, VO_plain, VO_guard, VG_true, VG_false, VV_some, VS, List.length_map, ofV_bool, ofV_int, deN_vsl, deN_str, gdA, callOf, isPanic, nextOf, altA, evalOp, ev_tmp, ev_const, ev_func, Av.get, St.put, thenQ, Nat.reduceEqDiff, ↓reduceIte, Bool.and_self, List.map_cons, List.map_nil, List.nil_append, List.append_nil, List.getElem?_cons_zero, List.getElem?_cons_succ, List.getElem?_toArray, Option.map_some, Option.bind_some, beq_false, Bool.not_true, Bool.not_false, pickA, cond_false, stC, ic_str, ic_nilsl, cl_agg, setC, List.set_cons_zero, List.set_cons_succ, List.length_cons, List.length_nil, Nat.reduceAdd, List.all_cons, List.all_nil, and_self, Nat.zero_add, Nat.le_refl, b_lss, b_neq, b_sub64, ine_t, decide_eq_false, ls9, st24, lv38, hbz, hxy]) | (guard_target =~ VCall _ _ _ _ _ _ _; refine VCall.pure (by first | with_reducible exact hun | with_reducible exact huf) (by (first | rfl | (simp only [AV.hfs, AV.hf, Bool.and_self, Bool.and_true, Bool.true_and, strs_hfs, strs_hfs]))) ?_) | (guard_target =~ DCal _ _ _ _ _ _ _; refine DCal.pure (by first | with_reducible exact hun | with_reducible exact huf) (by (first | rfl | (simp only [AV.hfs, AV.hf, Bool.and_self, Bool.and_true, Bool.true_and, strs_hfs, strs_hfs]))) ?_))
    refine bad _ rfl rfl ?_
    simp [headP, hsl, q2']
  have q2' : (y == 10) = true := by
    simp only [beq_iff_eq]; exact UInt8.toNat_inj.1 (show y.toNat = (10 : UInt8).toNat from q2)
  rw [q2'] at hsl
  obtain ⟨a0, ha0⟩ : ∃ a0, all[0]? = some a0 := ⟨_, List.getElem?_eq_getElem (by omega)⟩
  obtain ⟨a1, ha1⟩ : ∃ a1, all[all.length - 1]? = some a1 := ⟨_, List.getElem?_eq_getElem (by omega)⟩
  have hd0 : all.getD 0 [] = a0 := by simp [List.getD, ha0]
  have hd1 : all.getD (all.length - 1) [] = a1 := by simp [List.getD, ha1]
  have hi0 : ∀ H, evIndexAddr Tryz.prog 38 (.vsl 0 false (all.map .str)) (.int .i64 0) H = some (.vptr [.str a0]) := fun H => iv38 (n := 0) (v := .str a0) (by simp [ha0]) rfl H
  have hi1 : ∀ H, evIndexAddr Tryz.prog 38 (.vsl 0 false (all.map .str)) (.int .i64 ((all.length : Int) - 1)) H = some (.vptr [.str a1]) := by
    intro H
    have : ((all.length : Int) - 1) = ((all.length - 1 : Nat) : Int) := by omega
    rw [this]
    exact iv38 (v := .str a1) (by simp [ha1]) rfl H
  have hs0 := smallR a0
  have hs1 := smallR a1
  by_cases q3 : small a0 = kbegin
  case neg =>
    have e3 : (small a0 == kbegin) = false := by simpa using q3
    have e3q := e3
    simp only [kbegin] at e3
    refine .vc (by decide) ?_
    repeat' (first | (simp (disch := first | omega | (simp only [List.length_append, List.length_cons, List.length_nil, List.length_map, List.length_set]; omega)) only [VC_seq, VC_cond, VC_ret, VC_region, VI_true, VO_nil, VO_plain, VO_guard, VG_true, VG_false, VV_some, VS, List.length_map, ofV_bool, ofV_int, ofV_lit, deN_vsl, deN_str, gdA, callOf, isPanic, nextOf, altA, evalOp, ev_tmp, ev_const, ev_func, Av.get, St.put, thenQ, Nat.reduceEqDiff, ↓reduceIte, Bool.and_self, List.map_cons, List.map_nil, List.nil_append, List.append_nil, List.getElem?_cons_zero, List.getElem?_cons_succ, List.getElem?_toArray, Option.map_some, Option.bind_some, beq_false, Bool.not_true, Bool.not_false, pickA, cond_false, stC, ic_str, ic_nilsl, cl_agg, setC, List.set_cons_zero, List.set_cons_succ, List.length_cons, List.length_nil, Nat.reduceAdd, List.all_cons, List.all_nil, and_self, Nat.zero_add, Nat.le_refl, b_lss, b_neq, b_sub64, s_neq, ieq_t, decide_eq_false, lw9, ls9, st24, lv38, hbz, hxy, hi0, e3, bne]) | (guard_target =~ VCall _ _ _ _ _ _ _; refine VCall.pure (by first | with_reducible exact hun | with_reducible exact huf | with_reducible exact hs0) (by (first | rfl | (simp only [AV.hfs, AV.hf, Bool.and_self, Bool.and_true, Bool.true_and, strs_hfs, strs_hfs]))) ?_) | (guard_target =~ DCal _ _ _ _ _ _ _; refine DCal.pure (by first | with_reducible exact hun | with_reducible exact huf | with_reducible exact hs0) (by (first | rfl | (simp only [AV.hfs, AV.hf, Bool.and_self, Bool.and_true, Bool.true_and, strs_hfs, strs_hfs]))) ?_))
    refine bad _ rfl rfl ?_
    simp only [headP, ← hall, hd0, e3q, Bool.false_and, Bool.and_false]
  have e3 : (small a0 == kbegin) = true := by simp [q3]
  have e3q := e3
  simp only [kbegin] at e3
  by_cases q4 : small a1 = kend
  case neg =>
    have e4 : (small a1 == kend) = false := by simpa using q4
    have e4q := e4
    simp only [kend] at e4
    refine .vc (by decide) ?_
    repeat' (first | (simp (disch := first | omega | (simp only [List.length_append, List.length_cons, List.length_nil, List.length_map, List.length_set]; omega)) only [VC_seq, VC_cond, VC_ret, VC_region, VI_true, VO_nil, VO_plain, VO_guard, VG_true, VV_some, VS, List.length_map, ofV_bool, ofV_int, ofV_lit, deN_vsl, deN_str, gdA, callOf, isPanic, nextOf, altA, evalOp, ev_tmp, ev_const, ev_func, Av.get, St.put, thenQ, Nat.reduceEqDiff, ↓reduceIte, Bool.and_self, List.map_cons, List.map_nil, List.nil_append, List.append_nil, List.getElem?_cons_zero, List.getElem?_cons_succ, List.getElem?_toArray, Option.map_some, Option.bind_some, beq_false, Bool.not_true, Bool.not_false, pickA, cond_false, stC, ic_str, ic_nilsl, cl_agg, setC, List.set_cons_zero, List.set_cons_succ, List.length_cons, List.length_nil, Nat.reduceAdd, List.all_cons, List.all_nil, and_self, Nat.zero_add, Nat.le_refl, b_lss, b_neq, b_sub64, s_neq, ieq_t, decide_eq_false, lw9, ls9, st24, lv38, hbz, hxy, hi0, hi1, e3, e4, bne]) | (guard_target =~ VCall _ _ _ _ _ _ _; refine VCall.pure (by first | with_reducible exact hun | with_reducible exact huf | with_reducible exact hs0 | with_reducible exact hs1) (by (first | rfl | (simp only [AV.hfs, AV.hf, Bool.and_self, Bool.and_true, Bool.true_and, strs_hfs, strs_hfs]))) ?_) | (guard_target =~ DCal _ _ _ _ _ _ _; refine DCal.pure (by first | with_reducible exact hun | with_reducible exact huf | with_reducible exact hs0 | with_reducible exact hs1) (by (first | rfl | (simp only [AV.hfs, AV.hf, Bool.and_self, Bool.and_true, Bool.true_and, strs_hfs, strs_hfs]))) ?_))
    refine bad _ rfl rfl ?_
    simp only [headP, ← hall, hd1, e4q, Bool.false_and, Bool.and_false]
  have e4 : (small a1 == kend) = true := by simp [q4]
  have hhead : headP s = true := by
    simp only [headP, ← hall, hd0, hd1, e3q, e4, hsl, Bool.and_true, decide_eq_true_eq]; exact q1
  simp only [kend] at e4
  obtain ⟨mid, hmid⟩ : ∃ mid, mid = midP s := ⟨_, rfl⟩
  have hml : mid.length = all.length - 2 := by rw [hmid, midP, ← hall]; simp; omega
  have hma : ∀ i, i < mid.length → all[i + 1]? = mid[i]? := by
    intro i hi
    rw [hmid, midP, ← hall, List.getElem?_take_of_lt (by omega), List.getElem?_drop, Nat.add_comm]
  have hpm : parseM s = (runG cd0 mid).bind okC := by rw [parseM_G, hhead, if_pos rfl, hmid]
  have hme : ∀ x ∈ mid, x.length ≤ 1000000 := by
    intro x hx
    refine hae x ?_
    rw [hmid, midP, ← hall] at hx
    exact List.mem_of_mem_drop (List.mem_of_mem_take hx)
  have hO : parseO s = match parseM s with | some c => (c, 0) | none => (cd0, 250) := by cases h : parseM s <;> simp only [parseO, if_neg q0, h]
  refine .vc (by decide) ?_
  repeat' (first | (simp (disch := first | omega | (simp only [List.length_append, List.length_cons, List.length_nil, List.length_map, List.length_set]; omega)) only [VC_skip, VC_seq, VC_cond, VC_block, VC_region, VC_loop, VI_false, VO_nil, VO_plain, VO_guard, VG_true, VV_some, VS, List.length_map, ofV_bool, ofV_int, ofV_lit, deN_vsl, deN_str, gdA, callOf, isPanic, nextOf, altA, evalOp, ev_tmp, ev_const, ev_func, Av.get, St.put, thenQ, Nat.reduceEqDiff, ↓reduceIte, Bool.and_self, List.map_cons, List.map_nil, List.nil_append, List.append_nil, List.getElem?_cons_zero, List.getElem?_cons_succ, List.getElem?_toArray, Option.map_some, Option.bind_some, beq_false, Bool.not_true, Bool.not_false, pickA, cond_false, stC, ic_str, ic_nilsl, cl_agg, setC, List.set_cons_zero, List.set_cons_succ, List.length_cons, List.length_nil, Nat.reduceAdd, List.all_cons, List.all_nil, and_self, Nat.zero_add, Nat.le_refl, List.cons_append, b_lss, b_neq, b_sub64, s_neq, ieq_t, decide_eq_false, lw9, ls9, st24, lv38, zz24, hbz, hxy, hi0, hi1, e3, e4, bne]) | (guard_target =~ VCall _ _ _ _ _ _ _; refine VCall.pure (by first | with_reducible exact hun | with_reducible exact huf | with_reducible exact hs0 | with_reducible exact hs1) (by (first | rfl | (simp only [AV.hfs, AV.hf, Bool.and_self, Bool.and_true, Bool.true_and, strs_hfs, strs_hfs]))) ?_) | (guard_target =~ DCal _ _ _ _ _ _ _; refine DCal.pure (by first | with_reducible exact hun | with_reducible exact huf | with_reducible exact hs0 | with_reducible exact hs1) (by (first | rfl | (simp only [AV.hfs, AV.hf, Bool.and_self, Bool.and_true, Bool.true_and, strs_hfs, strs_hfs]))) ?_))
  refine W.loopG (X := Nat × Cd × Nat × Nat × Bool) (fun x => [(8, .int .i64 ((x.1 + 1 : Nat) : Int)), (6, .int .i64 (all.length : Int)), (5, .vsl 0 false (all.map .str)), (2, .ptr 0 0), (7, .ptr 1 0), (3, .int .i64 0)])
    (fun x => mem (gB x.2.1.ver (pV x.2.2.1 x.2.2.2.2 x.2.1.ls)) encLn x.2.2.1 x.2.2.2.1 x.2.2.2.2 x.2.1.ls)
    (fun x => x.1 ≤ mid.length ∧ runG x.2.1 (mid.drop x.1) = runG cd0 mid ∧ (x.2.2.2.2 = false → x.2.1.ls = []) ∧ x.2.1.ls.length ≤ x.1 ∧ x.2.1.x = false)
    (fun x => mid.length - x.1) (0, cd0, 0, 0, false) (fun _ => Nat.zero_le _) rfl ⟨Nat.zero_le _, rfl, fun _ => rfl, Nat.le_refl _, rfl⟩ ?_ ?_ ?_ ?_
  · simp only [subT, Av.get, Nat.reduceEqDiff, ↓reduceIte, Le_rfl, nat0, nat1, and_self, true_and, and_true, List.length_map, List.length_nil]
    exact Le.refl _
  · have hfs : AV.hlts (mem (gB cd0.ver (pV 0 false cd0.ls)) encLn 0 0 false cd0.ls).length (all.map .str) = true := strs_hlts _ _
    have : 2 ≤ (mem (gB cd0.ver (pV 0 false cd0.ls)) encLn 0 0 false cd0.ls).length := by rw [mem_len]; simp [gB]
    simp only [hltT, AV.hlt, hfs, Bool.and_true, Bool.true_and, Bool.and_eq_true, decide_eq_true_eq]
    omega
  · simp [mem, gB, pV, cd0, subH, OB.hlt, AV.hlts, AV.hlt]
  rintro ⟨i, ⟨ver, cx, ls⟩, k, j, z⟩ ⟨l1, l2, l3, l4, l5⟩
  simp only at l1 l2 l3 l4 l5 ⊢
  subst l5
  obtain ⟨v, hv⟩ : ∃ v, v = pV k z ls := ⟨_, rfl⟩
  obtain ⟨M, hM⟩ : ∃ M, M = mem (gB ver (pV k z ls)) encLn k j z ls := ⟨_, rfl⟩
  have hM0 : M[0]? = some (.cells [.str [], .nilsl] false) := by rw [hM, mem_get (by simp [gB])]; rfl
  have hM1 : M[1]? = some (.cells [.str ver, v] false) := by rw [hM, mem_get (by simp [gB]), hv]; rfl
  have hMl : 2 ≤ M.length := by rw [hM, mem_len]; simp [gB]; omega
  have hvI : v = .nilsl ∨ ∃ a b, v = .sl a 0 b 5 := by rw [hv]; cases z <;> simp [pV]
  have hvC : v.isC = true := by rcases hvI with h | ⟨a, b, h⟩ <;> rw [h] <;> rfl
  have hv1 : v.cells = [v] := by rcases hvI with h | ⟨a, b, h⟩ <;> rw [h] <;> rfl
  have hhl : ∀ (y : Nat × Cd × Nat × Nat × Bool), hltT (mem (gB y.2.1.ver (pV y.2.2.1 y.2.2.2.2 y.2.1.ls)) encLn y.2.2.1 y.2.2.2.1 y.2.2.2.2 y.2.1.ls).length [(8, .int .i64 ((y.1 + 1 : Nat) : Int)), (6, .int .i64 (all.length : Int)), (5, .vsl 0 false (all.map .str)), (2, .ptr 0 0), (7, .ptr 1 0), (3, .int .i64 0)] = true := by
    intro y
    have hfs : AV.hlts (mem (gB y.2.1.ver (pV y.2.2.1 y.2.2.2.2 y.2.1.ls)) encLn y.2.2.1 y.2.2.2.1 y.2.2.2.2 y.2.1.ls).length (all.map .str) = true := strs_hlts _ _
    have : 2 ≤ (mem (gB y.2.1.ver (pV y.2.2.1 y.2.2.2.2 y.2.1.ls)) encLn y.2.2.1 y.2.2.2.1 y.2.2.2.2 y.2.1.ls).length := by rw [mem_len]; simp [gB]; omega
    simp only [hltT, AV.hlt, hfs, Bool.and_true, Bool.true_and, Bool.and_eq_true, decide_eq_true_eq]
    omega
  have hfz : ∀ (kk : Nat) (H : List OB), (∀ i, 2 ≤ i → i < M.length → H[i]? = M[i]?) → ∃ u, fz H (kk + 1) v = some u ∧ Le u (.vsl 5 false (ls.map encLn)) := by
    intro kk H hH
    cases z with
    | false => rw [hv, l3 rfl]; exact ⟨_, by unfold fz; rfl, .nils _ _⟩
    | true =>
      rw [hv]
      refine slIn_fz (n := 4) (k := kk) (by decide) (fun x => ⟨[.str x.g, .str x.n, .vsl 3 x.x (x.ps.map encR), .str x.v], rfl, rfl⟩) (fun x => by simp [encLn, AV.cells, AV.hfs, AV.hf, encR_hfs]) (.inr ⟨2 + k, rfl, ?_⟩)
      have hlt : 2 + k < M.length := by rw [hM, mem_len]; simp [gB]
      rw [hH _ (by omega) hlt, hM]
      exact mem_at (B := gB ver (pV k true ls))
  rw [← hM]
  have pend : ∀ T E, parseM s = none → Av.get T 2 = .ptr 0 0 → Av.get T 3 = .int .i64 250 → retQ Tryz.prog Tryz.f19.results.toList (outP (parseO s)) .ret ⟨T, M.set 0 (.cells [.str [], .nilsl] false) ++ E, []⟩ := by
    intro T E hn h2 h3
    rw [hO, hn]
    refine zero _ _ 250 ?_ h2 h3
    rw [List.getElem?_append_left (by rw [List.length_set]; omega), List.getElem?_set_self (by omega)]
  have pend0 : ∀ T, parseM s = none → Av.get T 2 = .ptr 0 0 → Av.get T 3 = .int .i64 250 → retQ Tryz.prog Tryz.f19.results.toList (outP (parseO s)) .ret ⟨T, M.set 0 (.cells [.str [], .nilsl] false), []⟩ := by
    intro T hn h2 h3
    have := pend T [] hn h2 h3
    rwa [List.append_nil] at this
  by_cases h : i < mid.length
  · obtain ⟨u, hu, hdrop⟩ := drop_at h
    have hul := hme u (List.mem_of_getElem? hu)
    have hl := parsedV u hul
    have hlr := parsedG_lnR u
    have hia : ∀ H, evIndexAddr Tryz.prog 38 (.vsl 0 false (all.map .str)) (.int .i64 ((i + 1 : Nat) : Int)) H = some (.vptr [.str u]) := fun H => iv38 (v := .str u) (by simp [hma i h, hu]) rfl H
    rw [hdrop, runG] at l2
    obtain ⟨⟨⟨lg, ln, lx, lps, lv⟩, ok⟩, hq⟩ : ∃ q, q = parsedG u := ⟨_, rfl⟩
    rw [← hq] at hl hlr
    simp only [pgOut, encLn] at hl hlr
    refine .vc (by decide) ?_
    cases ok with
    | false =>
      have hln : lnR u = none := by rw [hlr]; rfl
      have hn : parseM s = none := by rw [hpm, ← l2]; simp [stepG, hln]
      repeat' (first | (simp (disch := first | omega | (simp only [List.length_append, List.length_cons, List.length_nil, List.length_map, List.length_set]; omega)) only [VC_skip, VC_seq, VC_cond, VC_block, VC_ret, VC_region, VI_true, VO_nil, VO_plain, VV_some, VS, blockQ, u_notb, ofV_int, callOf, isPanic, nextOf, altA, evalOp, ev_tmp, ev_const, ev_func, Av.get, St.put, thenQ, Nat.reduceEqDiff, ↓reduceIte, Bool.and_self, List.map_cons, List.map_nil, List.nil_append, List.append_nil, List.getElem?_cons_zero, List.getElem?_cons_succ, Option.map_some, Bool.not_false, stC, ic_str, ic_vsl, ic_nilsl, cl_agg, setC, List.set_cons_zero, List.set_cons_succ, List.length_cons, List.length_nil, Nat.reduceAdd, List.all_cons, List.all_nil, and_self, Nat.zero_add, Nat.le_refl, b_lss, b_sub64, decide_eq_true, lw9, st24, st45, zz45, hia, hM0, hM1, hbz, List.getElem?_append_left, List.getElem?_append_right, List.set_append_left, List.set_append_right, Nat.sub_self]) | (guard_target =~ VCall _ _ _ _ _ _ _; refine VCall.pure (by first | with_reducible exact hl) (by (first | rfl | (simp only [AV.hfs, AV.hf, Bool.and_self, Bool.and_true, Bool.true_and, strs_hfs]))) ?_) | (guard_target =~ DCal _ _ _ _ _ _ _; refine DCal.pure (by first | with_reducible exact hl) (by (first | rfl | (simp only [AV.hfs, AV.hf, Bool.and_self, Bool.and_true, Bool.true_and, strs_hfs]))) ?_))
      exact pend _ _ hn rfl rfl
    | true =>
      have hln : lnR u = some ⟨lg, ln, lx, lps, lv⟩ := by rw [hlr]; rfl
      by_cases qv : ln = sVersion
      · have ev : (ln == sVersion) = true := by simp [qv]
        simp only [sVersion] at ev
        by_cases c1 : ver = []
        case neg =>
          have e1 : (ver == []) = false := by simp [c1]
          have hn : parseM s = none := by rw [hpm, ← l2]; simp [stepG, hln, qv, c1]
          repeat' (first | (simp (disch := first | omega | (simp only [List.length_append, List.length_cons, List.length_nil, List.length_map, List.length_set]; omega)) only [VC_skip, VC_seq, VC_cond, VC_block, VC_ret, VC_region, VI_true, VI_false, VO_nil, VO_plain, VO_guard, VG_false, VV_some, VS, blockQ, u_notb, ofV_bool, ofV_int, ofV_lit, gdA, callOf, isPanic, nextOf, altA, evalOp, ev_tmp, ev_const, ev_func, Av.get, St.put, thenQ, Nat.reduceEqDiff, ↓reduceIte, Bool.and_self, List.map_cons, List.map_nil, List.nil_append, List.append_nil, List.getElem?_cons_zero, List.getElem?_cons_succ, List.getElem?_toArray, Option.map_some, Option.bind_some, beq_false, Bool.not_true, Bool.not_false, pickA, ldC, stC, ic_str, ic_vsl, ic_nilsl, cl_agg, setC, List.set_cons_zero, List.set_cons_succ, List.length_cons, List.length_nil, Nat.reduceAdd, List.all_cons, List.all_nil, and_self, Nat.add_zero, Nat.zero_add, Nat.le_refl, b_lss, b_sub64, s_eql, s_neq, decide_eq_true, ld9, lw9, st24, fa24_0, st45, fa45_1, zz45, hia, hM0, hM1, hbz, ev, e1, bne, List.getElem?_append_left, List.getElem?_append_right, List.set_append_left, List.set_append_right, Nat.sub_self]) | (guard_target =~ VCall _ _ _ _ _ _ _; refine VCall.pure (by first | with_reducible exact hl) (by (first | rfl | (simp only [AV.hfs, AV.hf, Bool.and_self, Bool.and_true, Bool.true_and, strs_hfs]))) ?_) | (guard_target =~ DCal _ _ _ _ _ _ _; refine DCal.pure (by first | with_reducible exact hl) (by (first | rfl | (simp only [AV.hfs, AV.hf, Bool.and_self, Bool.and_true, Bool.true_and, strs_hfs]))) ?_))
          exact pend _ _ hn rfl rfl
        have e1 : (ver == []) = true := by simp [c1]
        by_cases c2 : lg = []
        case neg =>
          have e2 : (lg == []) = false := by simp [c2]
          have hn : parseM s = none := by rw [hpm, ← l2]; simp [stepG, hln, qv, c2]
          repeat' (first | (simp (disch := first | omega | (simp only [List.length_append, List.length_cons, List.length_nil, List.length_map, List.length_set]; omega)) only [VC_skip, VC_seq, VC_cond, VC_block, VC_ret, VC_region, VI_true, VI_false, VO_nil, VO_plain, VO_guard, VG_true, VG_false, VV_some, VS, blockQ, u_notb, ofV_bool, ofV_int, ofV_lit, gdA, callOf, isPanic, nextOf, altA, evalOp, ev_tmp, ev_const, ev_func, Av.get, St.put, thenQ, Nat.reduceEqDiff, ↓reduceIte, Bool.and_self, List.map_cons, List.map_nil, List.nil_append, List.append_nil, List.getElem?_cons_zero, List.getElem?_cons_succ, List.getElem?_toArray, Option.map_some, Option.bind_some, beq_false, Bool.not_true, Bool.not_false, pickA, cond_false, ldC, stC, ic_str, ic_vsl, ic_nilsl, cl_agg, setC, List.set_cons_zero, List.set_cons_succ, List.length_cons, List.length_nil, Nat.reduceAdd, List.all_cons, List.all_nil, and_self, Nat.add_zero, Nat.zero_add, Nat.le_refl, b_lss, b_sub64, s_eql, s_neq, decide_eq_true, ld9, lw9, st24, fa24_0, st45, fa45_0, fa45_1, zz45, hia, hM0, hM1, hbz, ev, e1, e2, bne, List.getElem?_append_left, List.getElem?_append_right, List.set_append_left, List.set_append_right, Nat.sub_self]) | (guard_target =~ VCall _ _ _ _ _ _ _; refine VCall.pure (by first | with_reducible exact hl) (by (first | rfl | (simp only [AV.hfs, AV.hf, Bool.and_self, Bool.and_true, Bool.true_and, strs_hfs]))) ?_) | (guard_target =~ DCal _ _ _ _ _ _ _; refine DCal.pure (by first | with_reducible exact hl) (by (first | rfl | (simp only [AV.hfs, AV.hf, Bool.and_self, Bool.and_true, Bool.true_and, strs_hfs]))) ?_))
          exact pend _ _ hn rfl rfl
        have e2 : (lg == []) = true := by simp [c2]
        by_cases c3 : lps.length = 0
        case neg =>
          have hn : parseM s = none := by
            have : lps ≠ [] := by intro h; rw [h] at c3; simp at c3
            rw [hpm, ← l2]; simp [stepG, hln, qv, this]
          have c3' : 0 < lps.length := by omega
          repeat' (first | (simp (disch := first | omega | (simp only [List.length_append, List.length_cons, List.length_nil, List.length_map, List.length_set]; omega)) only [VC_skip, VC_seq, VC_cond, VC_block, VC_ret, VC_region, VI_true, VI_false, VO_nil, VO_plain, VO_guard, VG_true, VG_false, VV_some, VS, blockQ, List.length_map, u_notb, ofV_bool, ofV_int, ofV_lit, deN_vsl, gdA, callOf, isPanic, nextOf, altA, evalOp, ev_tmp, ev_const, ev_func, Av.get, St.put, thenQ, Nat.reduceEqDiff, ↓reduceIte, Bool.and_self, List.map_cons, List.map_nil, List.nil_append, List.append_nil, List.getElem?_cons_zero, List.getElem?_cons_succ, List.getElem?_toArray, Option.map_some, Option.bind_some, beq_false, Bool.not_true, Bool.not_false, pickA, cond_false, ldC, stC, ic_str, ic_vsl, ic_nilsl, cl_agg, setC, List.set_cons_zero, List.set_cons_succ, List.length_cons, List.length_nil, Nat.reduceAdd, List.all_cons, List.all_nil, and_self, Nat.add_zero, Nat.zero_add, Nat.le_refl, b_lss, b_gtr, b_sub64, s_eql, s_neq, decide_eq_true, ld9, lw9, st24, fa24_0, ld43, lv43, st45, fa45_0, fa45_1, fa45_2, zz45, hia, hM0, hM1, hbz, ev, e1, e2, bne, List.getElem?_append_left, List.getElem?_append_right, List.set_append_left, List.set_append_right, Nat.sub_self]) | (guard_target =~ VCall _ _ _ _ _ _ _; refine VCall.pure (by first | with_reducible exact hl) (by (first | rfl | (simp only [AV.hfs, AV.hf, Bool.and_self, Bool.and_true, Bool.true_and, strs_hfs]))) ?_) | (guard_target =~ DCal _ _ _ _ _ _ _; refine DCal.pure (by first | with_reducible exact hl) (by (first | rfl | (simp only [AV.hfs, AV.hf, Bool.and_self, Bool.and_true, Bool.true_and, strs_hfs]))) ?_))
          exact pend _ _ hn rfl rfl
        have c3' : lps = [] := List.length_eq_zero_iff.1 c3
        cases c4 : lv == [51, 46, 48] with
        | true =>
          have hst : stepG ⟨ver, false, ls⟩ u = some ⟨lv, false, ls⟩ := by simp [stepG, hln, qv, c1, c2, c3', version, c4]
          rw [hst, Option.bind_some] at l2
          repeat' (first | (simp (disch := first | omega | (simp only [List.length_append, List.length_cons, List.length_nil, List.length_map, List.length_set]; omega)) only [VC_skip, VC_seq, VC_cond, VC_block, VC_exit, VC_region, VI_true, VI_false, VO_nil, VO_plain, VO_guard, VG_true, VG_false, VV_some, VS, blockQ, List.length_map, u_notb, ofV_bool, ofV_int, ofV_lit, deN_vsl, gdA, callOf, isPanic, nextOf, altA, evalOp, ev_tmp, ev_const, ev_func, Av.get, St.put, thenQ, Nat.reduceEqDiff, ↓reduceIte, Bool.and_self, List.map_cons, List.map_nil, List.nil_append, List.append_nil, List.getElem?_cons_zero, List.getElem?_cons_succ, List.getElem?_toArray, Option.map_some, Option.bind_some, beq_false, beq_true, Bool.not_true, Bool.not_false, Bool.false_eq_true, pickA, cond_false, ldC, stC, cl_str, ic_str, ic_vsl, cl_agg, setC, List.set_cons_zero, List.set_cons_succ, List.length_cons, List.length_nil, Nat.reduceAdd, Nat.reduceLeDiff, List.all_cons, List.all_nil, and_self, and_true, Nat.add_zero, Nat.zero_add, Nat.le_refl, b_lss, b_gtr, b_add64, b_sub64, s_eql, s_neq, castS, decide_eq_true, decide_eq_false, st9, ld9, lw9, fa24_0, ld43, lv43, st45, fa45_0, fa45_1, fa45_2, fa45_3, zz45, hia, hM0, hM1, ev, e1, e2, c4, bne, List.getElem?_append_left, List.getElem?_append_right, List.set_append_left, List.set_append_right, Nat.sub_self]) | (guard_target =~ VCall _ _ _ _ _ _ _; refine VCall.pure (by first | with_reducible exact hl) (by (first | rfl | (simp only [AV.hfs, AV.hf, Bool.and_self, Bool.and_true, Bool.true_and, strs_hfs]))) ?_) | (guard_target =~ DCal _ _ _ _ _ _ _; refine DCal.pure (by first | with_reducible exact hl) (by (first | rfl | (simp only [AV.hfs, AV.hf, Bool.and_self, Bool.and_true, Bool.true_and, strs_hfs]))) ?_))
          refine ⟨(i + 1, ⟨lv, false, ls⟩, (if z then k else k + 1), j + 1, z), ⟨h, l2, l3, by simp only; omega, rfl⟩, by simp only; omega, ?_, hhl _, ?_⟩
          · simp only [subT, Av.get, Nat.reduceEqDiff, ↓reduceIte, Le_rfl, nat0, nat1, and_self, true_and, and_true, List.length_map, List.length_nil]
          · have hvz : pV (if z then k else k + 1) z ls = v := by rw [hv]; cases z <;> rfl
            simp only [hvz]
            have := mem_more (B := gB lv v) (f := encLn) (k := k) (j := j) (z := z) (L := ls) (E := [.cells [.str lg, .str ln, .vsl 3 lx (lps.map encR), .str lv] false]) (m := (mem (gB lv v) encLn (if z then k else k + 1) (j + 1) z ls).length) (gB_hlt (by
              rw [hv]; refine pV_hlt fun hz => ?_
              rw [mem_len, hz]; simp [gB])) (encLnc_hlts _)
            have e : M.set 1 (.cells [.str lv, v] false) = mem (gB lv v) encLn k j z ls := by rw [hM, mem_set (by simp [gB]), ← hv]; rfl
            rw [e]; exact this
        | false =>
          cases c5 : lv == [52, 46, 48] with
          | false =>
            have hn : parseM s = none := by rw [hpm, ← l2]; simp [stepG, hln, qv, version, c4, c5]
            repeat' (first | (simp (disch := first | omega | (simp only [List.length_append, List.length_cons, List.length_nil, List.length_map, List.length_set]; omega)) only [VC_skip, VC_seq, VC_cond, VC_block, VC_ret, VC_region, VI_true, VI_false, VO_nil, VO_plain, VO_guard, VG_true, VV_some, VS, blockQ, List.length_map, u_notb, ofV_bool, ofV_int, ofV_lit, deN_vsl, gdA, callOf, isPanic, nextOf, altA, evalOp, ev_tmp, ev_const, ev_func, Av.get, St.put, thenQ, Nat.reduceEqDiff, ↓reduceIte, Bool.and_self, List.map_cons, List.map_nil, List.nil_append, List.append_nil, List.getElem?_cons_zero, List.getElem?_cons_succ, List.getElem?_toArray, Option.map_some, Option.bind_some, beq_false, beq_true, Bool.not_true, Bool.not_false, pickA, cond_true, cond_false, ldC, stC, ic_str, ic_vsl, ic_nilsl, cl_agg, setC, List.set_cons_zero, List.set_cons_succ, List.length_cons, List.length_nil, Nat.reduceAdd, List.all_cons, List.all_nil, and_self, Nat.add_zero, Nat.zero_add, Nat.le_refl, b_lss, b_gtr, b_sub64, s_eql, s_neq, decide_eq_true, decide_eq_false, ld9, lw9, st24, fa24_0, ld43, lv43, st45, fa45_0, fa45_1, fa45_2, fa45_3, zz45, hia, hM0, hM1, hbz, ev, e1, e2, c4, c5, bne, List.getElem?_append_left, List.getElem?_append_right, List.set_append_left, List.set_append_right, Nat.sub_self]) | (guard_target =~ VCall _ _ _ _ _ _ _; refine VCall.pure (by first | with_reducible exact hl) (by (first | rfl | (simp only [AV.hfs, AV.hf, Bool.and_self, Bool.and_true, Bool.true_and, strs_hfs]))) ?_) | (guard_target =~ DCal _ _ _ _ _ _ _; refine DCal.pure (by first | with_reducible exact hl) (by (first | rfl | (simp only [AV.hfs, AV.hf, Bool.and_self, Bool.and_true, Bool.true_and, strs_hfs]))) ?_))
            exact pend _ _ hn rfl rfl
          | true =>
            have hst : stepG ⟨ver, false, ls⟩ u = some ⟨lv, false, ls⟩ := by simp [stepG, hln, qv, c1, c2, c3', version, c4, c5]
            rw [hst, Option.bind_some] at l2
            repeat' (first | (simp (disch := first | omega | (simp only [List.length_append, List.length_cons, List.length_nil, List.length_map, List.length_set]; omega)) only [VC_skip, VC_seq, VC_cond, VC_block, VC_exit, VC_region, VI_true, VI_false, VO_nil, VO_plain, VO_guard, VG_true, VV_some, VS, blockQ, List.length_map, u_notb, ofV_bool, ofV_int, ofV_lit, deN_vsl, gdA, callOf, isPanic, nextOf, altA, evalOp, ev_tmp, ev_const, ev_func, Av.get, St.put, thenQ, Nat.reduceEqDiff, ↓reduceIte, Bool.and_self, List.map_cons, List.map_nil, List.nil_append, List.append_nil, List.getElem?_cons_zero, List.getElem?_cons_succ, List.getElem?_toArray, Option.map_some, Option.bind_some, beq_false, beq_true, Bool.not_true, Bool.not_false, pickA, cond_true, cond_false, ldC, stC, cl_str, ic_str, ic_vsl, cl_agg, setC, List.set_cons_zero, List.set_cons_succ, List.length_cons, List.length_nil, Nat.reduceAdd, Nat.reduceLeDiff, List.all_cons, List.all_nil, and_self, and_true, Nat.add_zero, Nat.zero_add, Nat.le_refl, b_lss, b_gtr, b_add64, b_sub64, s_eql, s_neq, castS, decide_eq_true, decide_eq_false, st9, ld9, lw9, fa24_0, ld43, lv43, st45, fa45_0, fa45_1, fa45_2, fa45_3, zz45, hia, hM0, hM1, ev, e1, e2, c4, c5, bne, List.getElem?_append_left, List.getElem?_append_right, List.set_append_left, List.set_append_right, Nat.sub_self]) | (guard_target =~ VCall _ _ _ _ _ _ _; refine VCall.pure (by first | with_reducible exact hl) (by (first | rfl | (simp only [AV.hfs, AV.hf, Bool.and_self, Bool.and_true, Bool.true_and, strs_hfs]))) ?_) | (guard_target =~ DCal _ _ _ _ _ _ _; refine DCal.pure (by first | with_reducible exact hl) (by (first | rfl | (simp only [AV.hfs, AV.hf, Bool.and_self, Bool.and_true, Bool.true_and, strs_hfs]))) ?_))
            refine ⟨(i + 1, ⟨lv, false, ls⟩, (if z then k else k + 1), j + 1, z), ⟨h, l2, l3, by simp only; omega, rfl⟩, by simp only; omega, ?_, hhl _, ?_⟩
            · simp only [subT, Av.get, Nat.reduceEqDiff, ↓reduceIte, Le_rfl, nat0, nat1, and_self, true_and, and_true, List.length_map, List.length_nil]
            · have hvz : pV (if z then k else k + 1) z ls = v := by rw [hv]; cases z <;> rfl
              simp only [hvz]
              have := mem_more (B := gB lv v) (f := encLn) (k := k) (j := j) (z := z) (L := ls) (E := [.cells [.str lg, .str ln, .vsl 3 lx (lps.map encR), .str lv] false]) (m := (mem (gB lv v) encLn (if z then k else k + 1) (j + 1) z ls).length) (gB_hlt (by
                rw [hv]; refine pV_hlt fun hz => ?_
                rw [mem_len, hz]; simp [gB])) (encLnc_hlts _)
              have e : M.set 1 (.cells [.str lv, v] false) = mem (gB lv v) encLn k j z ls := by rw [hM, mem_set (by simp [gB]), ← hv]; rfl
              rw [e]; exact this
      · have ev : (ln == sVersion) = false := by simpa using qv
        simp only [sVersion] at ev
        have hst : stepG ⟨ver, false, ls⟩ u = some ⟨ver, false, ls ++ [⟨lg, ln, lx, lps, lv⟩]⟩ := by simp [stepG, hln, qv]
        rw [hst, Option.bind_some] at l2
        have hbs : evBuildSlice Tryz.prog 22 1 [(0, .agg [.str lg, .str ln, .vsl 3 lx (lps.map encR), .str lv])] = some (.vsl 5 true [encLn ⟨lg, ln, lx, lps, lv⟩]) := by
          simp [evBuildSlice, Tryz.underlying22, ap22, AV.cells, AV.told, List.range', encLn]
        obtain ⟨M', ha1, ha2, ha3, ha4, ha5⟩ := mem_app (wd := 5) (bytes := 72) Tryz.underlying22 ap22 encLn (fun _ => rfl) (fun _ => rfl) (by decide) (gB ver (pV k z ls)) k j z ls (w0 := 0) (fun hz => .inr (l3 hz)) [.cells [.str lg, .str ln, .vsl 3 lx (lps.map encR), .str lv] false] ⟨lg, ln, lx, lps, lv⟩ true (by omega) hM
        have hBl : (gB ver (pV k z ls)).length = 2 := rfl
        obtain ⟨k', hk'⟩ : ∃ k', k' = M.length + [OB.cells [.str lg, .str ln, .vsl 3 lx (lps.map encR), .str lv] false].length - 2 := ⟨_, rfl⟩
        rw [hBl, ← hk'] at ha4
        rw [hBl, ← pV_deN l3, ← hv, ← hk'] at ha1
        have hvN : memV 2 0 5 encLn k' true (ls ++ [⟨lg, ln, lx, lps, lv⟩]) = .sl (2 + k') 0 (ls ++ [(⟨lg, ln, lx, lps, lv⟩ : Ln)]).length 5 := rfl
        rw [hvN] at ha1
        have hM'1 : M'[1]? = some (.cells [.str ver, v] false) := by rw [ha5 1 (by simp [gB]), hv]; rfl
        have hvd : deN v = memV 2 0 5 encLn k z ls := by rw [hv]; exact pV_deN l3
        repeat' (first | (simp (disch := first | omega | (simp only [List.length_append, List.length_cons, List.length_nil, List.length_map, List.length_set]; omega)) only [VC_skip, VC_seq, VC_cond, VC_block, VC_region, VI_true, VI_false, VO_nil, VO_plain, VV_some, VS, blockQ, u_notb, ofV_int, ofV_lit, deN_vsl, callOf, isPanic, nextOf, altA, evalOp, ev_tmp, ev_const, ev_func, Av.get, St.put, thenQ, Nat.reduceEqDiff, ↓reduceIte, Bool.and_self, List.map_cons, List.map_nil, List.nil_append, List.append_nil, List.getElem?_cons_zero, List.getElem?_cons_succ, Option.map_some, Bool.not_true, ldC, ldG, stC, ic_str, cl_sl, ic_sl, ic_vsl, cl_agg, setC, List.set_cons_zero, List.set_cons_succ, List.length_cons, List.length_nil, Nat.reduceAdd, List.all_cons, List.all_nil, and_self, and_true, Nat.zero_add, List.drop_zero, List.take_succ_cons, List.take_zero, Nat.le_refl, b_lss, b_add64, b_sub64, s_eql, castS, decide_eq_true, ld9, lw9, st22, ld22, fa24_1, st45, ld45, fa45_1, zz45, hia, hM0, hM1, hM'1, ev, hbs, ha1, List.getElem?_append_left, List.getElem?_append_right, List.set_append_right, List.length_append, Nat.sub_self]) | (guard_target =~ VCall _ _ _ _ _ _ _; refine VCall.pure (by first | with_reducible exact hl) (by (first | rfl | (simp only [AV.hfs, AV.hf, Bool.and_self, Bool.and_true, Bool.true_and, strs_hfs]))) ?_) | (guard_target =~ DCal _ _ _ _ _ _ _; refine DCal.pure (by first | with_reducible exact hl) (by (first | rfl | (simp only [AV.hfs, AV.hf, Bool.and_self, Bool.and_true, Bool.true_and, strs_hfs]))) ?_))
        refine ⟨(i + 1, ⟨ver, false, ls ++ [⟨lg, ln, lx, lps, lv⟩]⟩, k', 0, true), ⟨h, l2, (fun hh => by cases hh), by simp only [List.length_append, List.length_cons, List.length_nil]; omega, rfl⟩, by simp only; omega, ?_, hhl _, ?_⟩
        · simp only [subT, Av.get, Nat.reduceEqDiff, ↓reduceIte, Le_rfl, nat0, nat1, and_self, true_and, and_true, List.length_map, List.length_nil]
        · have h4 := ha4 (mem (gB ver (pV k' true (ls ++ [⟨lg, ln, lx, lps, lv⟩]))) encLn k' 0 true (ls ++ [⟨lg, ln, lx, lps, lv⟩])).length (gB_hlt (pV_hlt fun hz => ?_)) (encLnc_hlts _)
          · have h5 := subH_set (b := .cells [.str ver, pV k' true (ls ++ [⟨lg, ln, lx, lps, lv⟩])] false) (i := 1) ?_ h4
            · rw [mem_set (by simp [gB])] at h5
              have e : (gB ver (pV k z ls)).set 1 (.cells [.str ver, pV k' true (ls ++ [⟨lg, ln, lx, lps, lv⟩])] false) = gB ver (pV k' true (ls ++ [⟨lg, ln, lx, lps, lv⟩])) := rfl
              rw [e] at h5
              simpa [pV] using h5
            · have : (pV k' true (ls ++ [(⟨lg, ln, lx, lps, lv⟩ : Ln)])).hlt (mem (gB ver (pV k' true (ls ++ [⟨lg, ln, lx, lps, lv⟩]))) encLn k' 0 true (ls ++ [⟨lg, ln, lx, lps, lv⟩])).length = true := pV_hlt fun _ => by rw [mem_len]; simp [gB]
              simp [OB.hlt, AV.hlts, AV.hlt, this]
          · rw [mem_len, hk']
            rw [hM, mem_len, hz]; simp [gB]; omega
  · have hie : i = mid.length := by omega
    subst hie
    rw [List.drop_length, runG] at l2
    obtain ⟨u, hu, hle⟩ := hfz 18 M (fun _ _ _ => rfl)
    obtain ⟨cc, hcc⟩ : ∃ cc, cc = checkC ⟨ver, false, ls⟩ := ⟨_, rfl⟩
    have hck : PureFn Tryz.prog 14 [.agg [.str ver, u]] (.ret (.int .i64 cc)) := by
      rw [hcc]
      exact PureFn.le (.cons _ _ _ _ (.agg _ _ (.cons _ _ _ _ (.refl _) (.cons _ _ _ _ hle .nil))) .nil) (checkR ⟨ver, false, ls⟩)
    have hln : lend M [.agg [.str ver, v]] (.ret (.int .i64 cc)) = some [.agg [.str ver, u]] := by
      have h1 : fz M 20 (.agg [.str ver, v]) = some (.agg [.str ver, u]) := fz_agg_any (k := 18) (by simp only [List.mapM_cons, List.mapM_nil, hu]; rfl)
      exact lend_fz (by simp only [List.mapM_cons, List.mapM_nil, h1]; rfl) rfl
    refine .vc (by decide) ?_
    by_cases qc : cc = 0
    · have hn : parseM s = some ⟨ver, false, ls⟩ := by rw [hpm, ← l2]; simp [okC, ← hcc, qc]
      rw [qc] at hck hln
      repeat' (first | (simp (disch := first | omega | (simp only [List.length_append, List.length_cons, List.length_nil, List.length_map, List.length_set]; omega)) only [VC_skip, VC_seq, VC_cond, VC_exit, VC_ret, VC_region, VI_false, VO_nil, VO_plain, VV_some, VS, blockQ, ofV_int, callOf, isPanic, nextOf, altA, evalOp, ev_tmp, ev_const, ev_func, Av.get, St.put, thenQ, Nat.reduceEqDiff, ↓reduceIte, Bool.and_self, List.map_cons, List.map_nil, List.nil_append, List.append_nil, Option.map_some, ldG, stC, ic_str, cl_agg, setC, List.set_cons_zero, List.set_cons_succ, List.length_cons, List.length_nil, Nat.reduceAdd, List.all_cons, List.all_nil, and_self, Nat.zero_add, List.drop_zero, List.take_succ_cons, List.take_zero, Nat.le_refl, b_lss, b_neq, b_sub64, ine_f, decide_eq_false, st24, ld24, hM0, hM1, hvC, hv1, Nat.sub_self]) | (guard_target =~ VCall _ _ _ _ _ _ _; refine VCall.lend _ hck hln ?_))
      rw [hO, hn]
      refine retQct (v := .agg [.str ver, v]) (u := .int .i64 0) 2 24 3 rfl rfl ?_ rfl ⟨fz_aggL (k := 17) (ts := [.str ver, .vsl 5 false (ls.map encLn)]) (LzL_hf rfl ⟨hfz 17 _ (fun i hi hl => ?_), trivial⟩), LzL_hf rfl trivial⟩
      · simp only [Av.get, Nat.reduceEqDiff, ↓reduceIte]
        rw [ld24]
        simp only [ldG]
        rw [List.getElem?_set_self (by omega)]
        rfl
      · rw [List.getElem?_set_ne (by omega)]
    · have hn : parseM s = none := by rw [hpm, ← l2]; simp [okC, ← hcc, qc]
      have qc' : 0 < cc := by omega
      repeat' (first | (simp (disch := first | omega | (simp only [List.length_append, List.length_cons, List.length_nil, List.length_map, List.length_set]; omega)) only [VC_seq, VC_cond, VC_exit, VC_ret, VC_region, VI_true, VI_false, VO_nil, VO_plain, VV_some, VS, blockQ, ofV_int, callOf, isPanic, nextOf, altA, evalOp, ev_tmp, ev_const, ev_func, Av.get, St.put, thenQ, Nat.reduceEqDiff, ↓reduceIte, Bool.and_self, List.map_cons, List.map_nil, List.nil_append, List.append_nil, Option.map_some, ldG, stC, ic_str, ic_nilsl, cl_agg, setC, List.set_cons_zero, List.set_cons_succ, List.length_cons, List.length_nil, Nat.reduceAdd, List.all_cons, List.all_nil, and_self, Nat.zero_add, List.drop_zero, List.take_succ_cons, List.take_zero, Nat.le_refl, b_lss, b_neq, b_sub64, ine_t, decide_eq_false, st24, ld24, hM0, hM1, hvC, hv1, hbz, Nat.sub_self]) | (guard_target =~ VCall _ _ _ _ _ _ _; refine VCall.lend _ hck hln ?_))
      exact pend0 _ hn rfl rfl
end Go.Proofs.YtjlhemfmeboadaaGreatDoor
namespace Go.Proofs.YtjlhemfmeboadaaGreatDoor
set_option linter.unusedVariables false
set_option linter.unusedSimpArgs false
open Go Go.Av Go.RowKit

end Go.Proofs.YtjlhemfmeboadaaGreatDoor
namespace Go.Proofs.YtjlhemfmeboadaaGreatDoor
set_option linter.unusedVariables false
set_option linter.unusedSimpArgs false
open Go Go.Av Go.RowKit

def sK : Bytes := [98, 101, 103, 105, 110, 58, 118, 99, 97, 114, 100, 10, 86, 101, 114, 115, 105, 111, 110, 58, 51, 46, 48, 10, 105, 116, 101, 109, 49, 46, 84, 69, 76, 59, 116, 121, 112, 101, 61, 34, 104, 111, 109, 101, 34, 58, 49, 10, 32, 50, 10, 101, 110, 100, 58, 118, 99, 97, 114, 100, 10]
def tK : Bytes := [66, 69, 71, 73, 78, 58, 86, 67, 65, 82, 68, 13, 10, 86, 69, 82, 83, 73, 79, 78, 58, 51, 46, 48, 13, 10, 73, 84, 69, 77, 49, 46, 84, 69, 76, 59, 84, 89, 80, 69, 61, 104, 111, 109, 101, 58, 49, 50, 13, 10, 69, 78, 68, 58, 86, 67, 65, 82, 68, 13, 10]
def lK : Ln := ⟨[105, 116, 101, 109, 49], [116, 101, 108], false, [([116, 121, 112, 101], [104, 111, 109, 101])], [49, 50]⟩
def cK : Cd := ⟨[51, 46, 48], false, [lK]⟩
theorem parse_K : parseO sK = (cK, 0) := by kernel_rfl
theorem text_K : textC cK = tK := by kernel_rfl
theorem check_K : checkC cK = 0 := by kernel_rfl

set_option maxRecDepth 8000 in
theorem knownV : PureFn Tryz.prog 12 [] (.ret (.bool true)) := by
  have hp := parseV sK (by decide)
  rw [parse_K] at hp
  have ht := textV cK
  rw [text_K, check_K] at ht
  simp only [outP, encCd, cK, encLn, lK, List.map_cons, List.map_nil, encR, sK, tK] at hp ht
  have hia : ∀ H, evIndexAddr Tryz.prog 22 (.vsl 5 false [.agg [.str [105, 116, 101, 109, 49], .str [116, 101, 108], .vsl 3 false [.agg [.str [116, 121, 112, 101], .str [104, 111, 109, 101]]], .str [49, 50]]]) (.int .i64 0) H = some (.vptr [.str [105, 116, 101, 109, 49], .str [116, 101, 108], .vsl 3 false [.agg [.str [116, 121, 112, 101], .str [104, 111, 109, 101]]], .str [49, 50]]) := fun H => by
    have := iv22 (n := 0) (x := false) (wd := 5) (es := [encLn lK]) (k := .i64) (v := encLn lK) rfl rfl H
    exact this
  refine PureFn.of Tryz.func12 rfl (enters_call enters Tryz.func12 rfl) (by simp [Tryz.ntmps12]) ?_
  show W Tryz.prog 46 0 none _ _ _
  refine W.vc (by decide) ?_
  repeat' (first | (simp (disch := first | omega | (simp only [List.length_append, List.length_cons, List.length_nil, List.length_map, List.length_set]; omega)) only [VC_seq, VC_ret, VC_region, VO_nil, VO_plain, VO_guard, VG_true, VV_some, VS, ofV_bool, ofV_int, ofV_lit, deN_vsl, gdA, callOf, isPanic, nextOf, altA, evalOp, ev_tmp, ev_const, ev_func, Av.get, St.put, argT, thenQ, Nat.reduceEqDiff, ↓reduceIte, Bool.and_self, List.map_cons, List.map_nil, List.nil_append, List.append_nil, List.getElem?_cons_zero, List.getElem?_cons_succ, List.getElem?_toArray, Option.map_some, Option.bind_some, pickA, cond_true, ldC, ldG, stC, ic_str, ic_vsl, cl_agg, setC, List.set_cons_zero, List.set_cons_succ, List.length_cons, List.length_nil, Nat.reduceAdd, List.all_cons, List.all_nil, and_self, Nat.zero_add, List.drop_succ_cons, List.drop_zero, List.take_succ_cons, List.take_zero, Nat.le_refl, b_eql, s_eql, ieq_t, lw9, ld22, lv22, st24, ld24, fa24_1, fv45_0, fv45_3, zz24, hia, beq_self_eq_true, tK]) | (guard_target =~ VCall _ _ _ _ _ _ _; refine VCall.pure (by first | with_reducible exact hp | with_reducible exact ht) (by (first | rfl | (simp only [AV.hfs, AV.hf, Bool.and_self, Bool.and_true, Bool.true_and, strs_hfs]))) ?_) | (guard_target =~ DCal _ _ _ _ _ _ _; refine DCal.pure (by first | with_reducible exact hp | with_reducible exact ht) (by (first | rfl | (simp only [AV.hfs, AV.hf, Bool.and_self, Bool.and_true, Bool.true_and, strs_hfs]))) ?_))
  exact ⟨_, rfl, _, rfl, .refl _⟩
end Go.Proofs.YtjlhemfmeboadaaGreatDoor
namespace Go.Proofs.YtjlhemfmeboadaaGreatDoor
set_option linter.unusedVariables false
set_option linter.unusedSimpArgs false
open Go Go.Av Go.RowKit

section
variable {α : Type}
def eqL (p : α → α → Bool) : List α → List α → Bool
  | [], [] => true
  | a :: r, b :: s => p a b && eqL p r s
  | _, _ => false
theorem eqL_len {p : α → α → Bool} : ∀ {a b : List α}, eqL p a b = true → a.length = b.length
  | [], [], _ => rfl
  | x :: a, y :: b, h => by
    simp only [eqL, Bool.and_eq_true] at h
    simp [eqL_len h.2]
  | [], _ :: _, h => by cases h
  | _ :: _, [], h => by cases h
end
def sameP (p q : Bytes × Bytes) : Bool := small p.1 == small q.1 && p.2 == q.2
def sameN (a b : Ln) : Bool := small a.g == small b.g && (small a.n == small b.n && (a.v == b.v && eqL sameP a.ps b.ps))
def sameC (a b : Cd) : Bool := a.ver == b.ver && eqL sameN a.ls b.ls

end Go.Proofs.YtjlhemfmeboadaaGreatDoor
namespace Go.Proofs.YtjlhemfmeboadaaGreatDoor
set_option linter.unusedVariables false
set_option linter.unusedSimpArgs false
open Go Go.Av Go.RowKit

set_option maxRecDepth 8000 in
theorem same_R (a b : Ln) : PureFn Tryz.prog 44 [encLn a, encLn b] (.ret (.bool (sameN a b))) := by
  obtain ⟨u1, u2, u5, u3, u4⟩ := a
  obtain ⟨v1, v2, v5, v3, v4⟩ := b
  have h1 := smallR u1
  have h2 := smallR v1
  have h3 := smallR u2
  have h4 := smallR v2
  refine PureFn.fitA fun hfit => ?_
  have hfl : u3.length ≤ 9223372036854775807 := by have := hfit [.str u1, .str u2, .vsl 3 u5 (u3.map encR), .str u4] (by simp [encLn]) (.vsl 3 u5 (u3.map encR)) (by simp); simp only [AV.fit, List.length_map] at this; exact this
  simp only [encLn]
  refine PureFn.of Tryz.func44 rfl (enters_call enters Tryz.func44 rfl) (by simp [Tryz.ntmps44]) ?_
  show W Tryz.prog 75 0 none _ _ _
  refine W.vc (by decide) ?_
  repeat' (first | (simp (disch := first | omega | (simp only [List.length_append, List.length_cons, List.length_nil, List.length_map, List.length_set]; omega)) only [VC_seq, VC_region, VC_drawn, VO_nil, VO_plain, VV_some, VS, AV.told, ofV_bool, callOf, isPanic, nextOf, altA, evalOp, ev_tmp, ev_const, Av.get, St.put, argT, thenQ, Nat.reduceEqDiff, ↓reduceIte, List.nil_append, cl_agg, List.length_cons, List.length_nil, Nat.zero_add, List.cons_append]))
  refine W.drawN [] [false, false, false, false, false, false, false, false, false, false, false, false, false, false, false, false, false, false, false, false, false, false, false, false, false, false, false, false, false, false, false, false] [] mixed (by kernel_rfl) (by kernel_rfl) (by kernel_rfl) ?_
  cases e1 : small u1 == small v1 with
  | false =>
    have e : sameN ⟨u1, u2, u5, u3, u4⟩ ⟨v1, v2, v5, v3, v4⟩ = false := by simp only [sameN, e1]; rfl
    rw [e]
    repeat' (first | (simp (disch := first | omega | (simp only [List.length_append, List.length_cons, List.length_nil, List.length_map, List.length_set]; omega)) only [VC_seq, VC_cond, VC_ret, VC_region, VI_true, VO_nil, VO_plain, VV_some, VS, DT_nil, DT_plain, DT_guard, DG_false, DS, cHs_f, cHs_n, cPs, lastS_1, lastS_2, ofV_bool, gdA, callOf, isPanic, nextOf, altA, evalOp, ev_tmp, ev_const, ev_func, Av.get, St.put, thenQ, Nat.reduceEqDiff, ↓reduceIte, List.map_cons, List.map_nil, List.nil_append, List.append_nil, List.getElem?_cons_zero, List.getElem?_cons_succ, List.getElem?_toArray, Option.map_some, Option.bind_some, beq_false, Bool.not_true, Bool.not_false, pickA, ldC, and_self, true_and, Nat.add_zero, List.cons_append, s_neq, ld9, fa45_0, e1, bne]) | (guard_target =~ VCall _ _ _ _ _ _ _; refine VCall.pure (by first | with_reducible exact h1 | with_reducible exact h2) (by (first | rfl | (simp only [AV.hfs, AV.hf, Bool.and_self, Bool.and_true, Bool.true_and, strs_hfs]))) ?_) | (guard_target =~ DCal _ _ _ _ _ _ _; refine DCal.pure (by first | with_reducible exact h1 | with_reducible exact h2) (by (first | rfl | (simp only [AV.hfs, AV.hf, Bool.and_self, Bool.and_true, Bool.true_and, strs_hfs]))) ?_))
    exact ⟨_, rfl, _, rfl, .refl _⟩
  | true =>
    cases e2 : small u2 == small v2 with
    | false =>
      have e : sameN ⟨u1, u2, u5, u3, u4⟩ ⟨v1, v2, v5, v3, v4⟩ = false := by simp only [sameN, e1, e2]; rfl
      rw [e]
      repeat' (first | (simp (disch := first | omega | (simp only [List.length_append, List.length_cons, List.length_nil, List.length_map, List.length_set]; omega)) only [VC_seq, VC_cond, VC_ret, VC_region, VI_true, VO_nil, VO_plain, VV_some, VS, DT_nil, DT_plain, DT_guard, DG_true, DG_false, DS, cHs_f, cHs_n, cPs, lastS_1, lastS_2, ofV_bool, gdA, callOf, isPanic, nextOf, altA, evalOp, ev_tmp, ev_const, ev_func, Av.get, St.put, thenQ, Nat.reduceEqDiff, ↓reduceIte, List.map_cons, List.map_nil, List.nil_append, List.append_nil, List.getElem?_cons_zero, List.getElem?_cons_succ, List.getElem?_toArray, Option.map_some, Option.bind_some, beq_false, Bool.not_true, Bool.not_false, pickA, cond_false, ldC, and_self, true_and, Nat.add_zero, Nat.zero_add, List.cons_append, s_neq, ld9, fa45_0, fa45_1, e1, e2, bne]) | (guard_target =~ VCall _ _ _ _ _ _ _; refine VCall.pure (by first | with_reducible exact h1 | with_reducible exact h2 | with_reducible exact h3 | with_reducible exact h4) (by (first | rfl | (simp only [AV.hfs, AV.hf, Bool.and_self, Bool.and_true, Bool.true_and, strs_hfs]))) ?_) | (guard_target =~ DCal _ _ _ _ _ _ _; refine DCal.pure (by first | with_reducible exact h1 | with_reducible exact h2 | with_reducible exact h3 | with_reducible exact h4) (by (first | rfl | (simp only [AV.hfs, AV.hf, Bool.and_self, Bool.and_true, Bool.true_and, strs_hfs]))) ?_))
      exact ⟨_, rfl, _, rfl, .refl _⟩
    | true =>
      cases e3 : u4 == v4 with
      | false =>
        have e : sameN ⟨u1, u2, u5, u3, u4⟩ ⟨v1, v2, v5, v3, v4⟩ = false := by simp only [sameN, e1, e2, e3]; rfl
        rw [e]
        repeat' (first | (simp (disch := first | omega | (simp only [List.length_append, List.length_cons, List.length_nil, List.length_map, List.length_set]; omega)) only [VC_seq, VC_cond, VC_ret, VC_region, VI_true, VO_nil, VO_plain, VV_some, VS, DT_nil, DT_plain, DT_guard, DG_true, DG_false, DS, cHs_f, cHs_n, cPs, lastS_1, lastS_2, ofV_bool, gdA, callOf, isPanic, nextOf, altA, evalOp, ev_tmp, ev_const, ev_func, Av.get, St.put, thenQ, Nat.reduceEqDiff, ↓reduceIte, List.map_cons, List.map_nil, List.nil_append, List.append_nil, List.getElem?_cons_zero, List.getElem?_cons_succ, List.getElem?_toArray, Option.map_some, Option.bind_some, beq_false, Bool.not_true, Bool.not_false, pickA, cond_false, ldC, and_self, true_and, Nat.add_zero, Nat.zero_add, List.cons_append, s_neq, ld9, fa45_0, fa45_1, fa45_3, e1, e2, e3, bne]) | (guard_target =~ VCall _ _ _ _ _ _ _; refine VCall.pure (by first | with_reducible exact h1 | with_reducible exact h2 | with_reducible exact h3 | with_reducible exact h4) (by (first | rfl | (simp only [AV.hfs, AV.hf, Bool.and_self, Bool.and_true, Bool.true_and, strs_hfs]))) ?_) | (guard_target =~ DCal _ _ _ _ _ _ _; refine DCal.pure (by first | with_reducible exact h1 | with_reducible exact h2 | with_reducible exact h3 | with_reducible exact h4) (by (first | rfl | (simp only [AV.hfs, AV.hf, Bool.and_self, Bool.and_true, Bool.true_and, strs_hfs]))) ?_))
        exact ⟨_, rfl, _, rfl, .refl _⟩
      | true =>
        have e : sameN ⟨u1, u2, u5, u3, u4⟩ ⟨v1, v2, v5, v3, v4⟩ = eqL sameP u3 v3 := by simp only [sameN, e1, e2, e3]; rfl
        rw [e]
        by_cases hl : u3.length = v3.length
        · repeat' (first | (simp (disch := first | omega | (simp only [List.length_append, List.length_cons, List.length_nil, List.length_map, List.length_set]; omega)) only [VC_skip, VC_seq, VC_cond, VC_block, VC_region, VC_loop, VI_false, VO_nil, VO_plain, VV_some, VS, DT_nil, DT_plain, DT_guard, DG_true, DS, cHs_f, cHs_n, cPs, lastS_1, lastS_2, List.length_map, ofV_bool, ofV_int, deN_vsl, gdA, callOf, isPanic, nextOf, altA, evalOp, ev_tmp, ev_const, ev_func, Av.get, St.put, thenQ, Nat.reduceEqDiff, ↓reduceIte, List.map_cons, List.map_nil, List.nil_append, List.append_nil, List.getElem?_cons_zero, List.getElem?_cons_succ, List.getElem?_toArray, Option.map_some, Option.bind_some, beq_false, Bool.not_true, Bool.not_false, pickA, cond_false, ldC, and_self, true_and, Nat.add_zero, Nat.zero_add, List.cons_append, b_neq, s_neq, ieq_t, ld9, ld43, lv43, fa45_0, fa45_1, fa45_2, fa45_3, e1, e2, e3, bne]) | (guard_target =~ VCall _ _ _ _ _ _ _; refine VCall.pure (by first | with_reducible exact h1 | with_reducible exact h2 | with_reducible exact h3 | with_reducible exact h4) (by (first | rfl | (simp only [AV.hfs, AV.hf, Bool.and_self, Bool.and_true, Bool.true_and, strs_hfs]))) ?_) | (guard_target =~ DCal _ _ _ _ _ _ _; refine DCal.pure (by first | with_reducible exact h1 | with_reducible exact h2 | with_reducible exact h3 | with_reducible exact h4) (by (first | rfl | (simp only [AV.hfs, AV.hf, Bool.and_self, Bool.and_true, Bool.true_and, strs_hfs]))) ?_))
          refine W.loopT (X := Nat) (fun i => [(5, .int .i64 (i : Int)), (2, .ptr 0 0), (3, .ptr 1 0)]) (fun _ => [.cells [.str u1, .str u2, .vsl 3 u5 (u3.map encR), .str u4] false, .cells [.str v1, .str v2, .vsl 3 v5 (v3.map encR), .str v4] false])
            (fun i => i ≤ u3.length ∧ eqL sameP (u3.drop i) (v3.drop i) = eqL sameP u3 v3) (fun i => u3.length - i) 0 ⟨Nat.zero_le _, rfl⟩ ⟨rfl, rfl, rfl, trivial⟩ rfl ?_
          rintro i ⟨hi, hE⟩
          refine .vc (by decide) ?_
          by_cases h : i < u3.length
          · obtain ⟨⟨p1, p2⟩, hu, hud⟩ := drop_at h
            obtain ⟨⟨q1, q2⟩, hv, hvd⟩ := drop_at (show i < v3.length from by omega)
            rw [hud, hvd, eqL] at hE
            have hia : ∀ H, evIndexAddr Tryz.prog 43 (.vsl 3 u5 (u3.map encR)) (.int .i64 (i : Int)) H = some (.vptr [.str p1, .str p2]) := fun H => iv43 (v := encR (p1, p2)) (by simp [hu]) rfl H
            have hib : ∀ H, evIndexAddr Tryz.prog 43 (.vsl 3 v5 (v3.map encR)) (.int .i64 (i : Int)) H = some (.vptr [.str q1, .str q2]) := fun H => iv43 (v := encR (q1, q2)) (by simp [hv]) rfl H
            have g1 := smallR p1
            have g2 := smallR q1
            repeat' (first | (simp (disch := first | omega | (simp only [List.length_append, List.length_cons, List.length_nil, List.length_map, List.length_set]; omega)) only [VC_skip, VC_seq, VC_cond, VC_block, VC_region, VC_drawn, VI_true, VO_nil, VO_plain, VV_some, VS, List.length_map, deN_vsl, callOf, isPanic, nextOf, altA, evalOp, ev_tmp, Av.get, St.put, thenQ, Nat.reduceEqDiff, ↓reduceIte, List.getElem?_cons_zero, List.getElem?_cons_succ, Option.map_some, ldC, Nat.zero_add, b_lss, decide_eq_true, ld43, lv43, fa45_2]))
            refine W.drawN [] [false, false, false, false, false, false, false, false, false, false, false, false, false, false, false, false, false, false, false, false, false, false, false, false, false, false, false, false, false, false] [] mixed (by kernel_rfl) (by kernel_rfl) (by kernel_rfl) ?_
            cases f1 : small p1 == small q1 with
            | false =>
              have e : sameP (p1, p2) (q1, q2) = false := by simp only [sameP, f1]; rfl
              rw [e] at hE
              rw [← hE]
              repeat' (first | (simp (disch := first | omega | (simp only [List.length_append, List.length_cons, List.length_nil, List.length_map, List.length_set]; omega)) only [VC_seq, VC_cond, VC_ret, VC_region, VI_true, VO_nil, VO_plain, VV_some, VS, blockQ, DT_nil, DT_plain, DT_guard, DG_false, DS, cHs_f, cHs_n, cPs, lastS_1, lastS_2, ofV_bool, gdA, callOf, isPanic, nextOf, altA, evalOp, ev_tmp, ev_const, ev_func, Av.get, St.put, thenQ, Nat.reduceEqDiff, ↓reduceIte, List.map_cons, List.map_nil, List.nil_append, List.append_nil, List.getElem?_cons_zero, List.getElem?_cons_succ, List.getElem?_toArray, Option.map_some, Option.bind_some, beq_false, Bool.not_true, Bool.not_false, pickA, ldC, and_self, true_and, Nat.zero_add, List.drop_zero, List.cons_append, s_neq, Bool.false_and, lw9, ld43, fa45_2, fv54_0, hia, hib, f1, bne]) | (guard_target =~ VCall _ _ _ _ _ _ _; refine VCall.pure (by first | with_reducible exact g1 | with_reducible exact g2) (by (first | rfl | (simp only [AV.hfs, AV.hf, Bool.and_self, Bool.and_true, Bool.true_and, strs_hfs]))) ?_) | (guard_target =~ DCal _ _ _ _ _ _ _; refine DCal.pure (by first | with_reducible exact g1 | with_reducible exact g2) (by (first | rfl | (simp only [AV.hfs, AV.hf, Bool.and_self, Bool.and_true, Bool.true_and, strs_hfs]))) ?_))
              exact ⟨_, rfl, _, rfl, .refl _⟩
            | true =>
              cases f2 : p2 == q2 with
              | false =>
                have e : sameP (p1, p2) (q1, q2) = false := by simp only [sameP, f1, f2]; rfl
                rw [e] at hE
                rw [← hE]
                repeat' (first | (simp (disch := first | omega | (simp only [List.length_append, List.length_cons, List.length_nil, List.length_map, List.length_set]; omega)) only [VC_seq, VC_cond, VC_ret, VC_region, VI_true, VO_nil, VO_plain, VV_some, VS, blockQ, DT_nil, DT_plain, DT_guard, DG_true, DS, cHs_f, cHs_n, cPs, lastS_1, lastS_2, ofV_bool, gdA, callOf, isPanic, nextOf, altA, evalOp, ev_tmp, ev_const, ev_func, Av.get, St.put, thenQ, Nat.reduceEqDiff, ↓reduceIte, List.map_cons, List.map_nil, List.nil_append, List.append_nil, List.getElem?_cons_zero, List.getElem?_cons_succ, List.getElem?_toArray, Option.map_some, Option.bind_some, beq_false, Bool.not_true, Bool.not_false, pickA, cond_false, ldC, and_self, true_and, Nat.zero_add, List.drop_succ_cons, List.drop_zero, List.cons_append, s_neq, Bool.false_and, lw9, ld43, fa45_2, fv54_0, fv54_1, hia, hib, f1, f2, bne]) | (guard_target =~ VCall _ _ _ _ _ _ _; refine VCall.pure (by first | with_reducible exact g1 | with_reducible exact g2) (by (first | rfl | (simp only [AV.hfs, AV.hf, Bool.and_self, Bool.and_true, Bool.true_and, strs_hfs]))) ?_) | (guard_target =~ DCal _ _ _ _ _ _ _; refine DCal.pure (by first | with_reducible exact g1 | with_reducible exact g2) (by (first | rfl | (simp only [AV.hfs, AV.hf, Bool.and_self, Bool.and_true, Bool.true_and, strs_hfs]))) ?_))
                exact ⟨_, rfl, _, rfl, .refl _⟩
              | true =>
                have e : sameP (p1, p2) (q1, q2) = true := by simp only [sameP, f1, f2]; rfl
                rw [e] at hE
                repeat' (first | (simp (disch := first | omega | (simp only [List.length_append, List.length_cons, List.length_nil, List.length_map, List.length_set]; omega)) only [VC_skip, VC_cond, VC_region, VI_false, VO_nil, VO_plain, VV_some, VS, blockQ, DT_nil, DT_plain, DT_guard, DG_true, DS, cHs_f, cHs_n, cPs, lastS_1, lastS_2, ofV_bool, ofV_int, gdA, callOf, isPanic, nextOf, altA, evalOp, ev_tmp, ev_const, ev_func, Av.get, St.put, thenQ, Nat.reduceEqDiff, ↓reduceIte, List.map_cons, List.map_nil, List.nil_append, List.append_nil, List.getElem?_cons_zero, List.getElem?_cons_succ, List.getElem?_toArray, Option.map_some, Option.bind_some, beq_false, Bool.not_true, Bool.not_false, pickA, cond_false, ldC, and_self, true_and, and_true, Nat.zero_add, List.drop_succ_cons, List.drop_zero, List.cons_append, b_add64, s_neq, castS, lw9, ld43, fa45_2, fv54_0, fv54_1, hia, hib, f1, f2, bne]) | (guard_target =~ VCall _ _ _ _ _ _ _; refine VCall.pure (by first | with_reducible exact g1 | with_reducible exact g2) (by (first | rfl | (simp only [AV.hfs, AV.hf, Bool.and_self, Bool.and_true, Bool.true_and, strs_hfs]))) ?_) | (guard_target =~ DCal _ _ _ _ _ _ _; refine DCal.pure (by first | with_reducible exact g1 | with_reducible exact g2) (by (first | rfl | (simp only [AV.hfs, AV.hf, Bool.and_self, Bool.and_true, Bool.true_and, strs_hfs]))) ?_))
                exact ⟨i + 1, ⟨by omega, by rw [← hE]; rfl⟩, by omega, ⟨rfl, rfl, rfl, trivial⟩⟩
          · have e : i = u3.length := by omega
            subst e
            rw [List.drop_length, hl, List.drop_length] at hE
            rw [← hE]
            repeat' (first | (simp (disch := first | omega | (simp only [List.length_append, List.length_cons, List.length_nil, List.length_map, List.length_set]; omega)) only [VC_seq, VC_cond, VC_exit, VC_ret, VC_region, VI_false, VO_nil, VO_plain, VV_some, VS, blockQ, List.length_map, ofV_bool, deN_vsl, callOf, isPanic, nextOf, altA, evalOp, ev_tmp, ev_const, Av.get, St.put, thenQ, Nat.reduceEqDiff, ↓reduceIte, List.getElem?_cons_zero, List.getElem?_cons_succ, Option.map_some, ldC, Nat.zero_add, b_lss, decide_eq_false, ld43, lv43, fa45_2]))
            exact ⟨_, rfl, _, rfl, .refl _⟩
        · have e : eqL sameP u3 v3 = false := by
            cases h : eqL sameP u3 v3 with
            | false => rfl
            | true => exact (hl (eqL_len h)).elim
          rw [e]
          repeat' (first | (simp (disch := first | omega | (simp only [List.length_append, List.length_cons, List.length_nil, List.length_map, List.length_set]; omega)) only [VC_seq, VC_cond, VC_ret, VC_region, VI_true, VO_nil, VO_plain, VV_some, VS, DT_nil, DT_plain, DT_guard, DG_true, DS, cHs_f, cHs_n, cPs, lastS_1, lastS_2, List.length_map, ofV_bool, deN_vsl, gdA, callOf, isPanic, nextOf, altA, evalOp, ev_tmp, ev_const, ev_func, Av.get, St.put, thenQ, Nat.reduceEqDiff, ↓reduceIte, List.map_cons, List.map_nil, List.nil_append, List.append_nil, List.getElem?_cons_zero, List.getElem?_cons_succ, List.getElem?_toArray, Option.map_some, Option.bind_some, beq_false, Bool.not_true, Bool.not_false, pickA, cond_false, ldC, and_self, true_and, Nat.add_zero, Nat.zero_add, List.cons_append, b_neq, s_neq, ieq_f, ld9, ld43, lv43, fa45_0, fa45_1, fa45_2, fa45_3, e1, e2, e3, bne]) | (guard_target =~ VCall _ _ _ _ _ _ _; refine VCall.pure (by first | with_reducible exact h1 | with_reducible exact h2 | with_reducible exact h3 | with_reducible exact h4) (by (first | rfl | (simp only [AV.hfs, AV.hf, Bool.and_self, Bool.and_true, Bool.true_and, strs_hfs]))) ?_) | (guard_target =~ DCal _ _ _ _ _ _ _; refine DCal.pure (by first | with_reducible exact h1 | with_reducible exact h2 | with_reducible exact h3 | with_reducible exact h4) (by (first | rfl | (simp only [AV.hfs, AV.hf, Bool.and_self, Bool.and_true, Bool.true_and, strs_hfs]))) ?_))
          exact ⟨_, rfl, _, rfl, .refl _⟩

set_option maxRecDepth 8000 in
theorem sameRf (a b : Cd) : PureFn Tryz.prog 18 [encCd a, encCd b] (.ret (.bool (sameC a b))) := by
  obtain ⟨u1, u2, u3⟩ := a
  obtain ⟨v1, v2, v3⟩ := b
  refine PureFn.fitA fun hfit => ?_
  have hfl : u3.length ≤ 9223372036854775807 := by have := hfit [.str u1, .vsl 5 u2 (u3.map encLn)] (by simp [encCd]) (.vsl 5 u2 (u3.map encLn)) (by simp); simp only [AV.fit, List.length_map] at this; exact this
  simp only [encCd]
  refine PureFn.of Tryz.func18 rfl (enters_call enters Tryz.func18 rfl) (by simp [Tryz.ntmps18]) ?_
  show W Tryz.prog 39 0 none _ _ _
  refine W.vc (by decide) ?_
  cases e1 : u1 == v1 with
  | false =>
    have e : sameC ⟨u1, u2, u3⟩ ⟨v1, v2, v3⟩ = false := by simp only [sameC, e1]; rfl
    rw [e]
    repeat' (first | (simp (disch := first | omega | (simp only [List.length_append, List.length_cons, List.length_nil, List.length_map, List.length_set]; omega)) only [VC_seq, VC_cond, VC_ret, VC_region, VI_true, VO_nil, VO_plain, VO_guard, VG_false, VV_some, VS, AV.told, ofV_bool, gdA, callOf, isPanic, nextOf, altA, evalOp, ev_tmp, ev_const, Av.get, St.put, argT, thenQ, Nat.reduceEqDiff, ↓reduceIte, List.nil_append, List.getElem?_cons_zero, List.getElem?_cons_succ, List.getElem?_toArray, Option.map_some, Option.bind_some, beq_false, Bool.not_true, Bool.not_false, pickA, ldC, cl_agg, List.length_cons, List.length_nil, Nat.add_zero, Nat.zero_add, List.cons_append, s_neq, ld9, fa24_0, e1, bne]))
    exact ⟨_, rfl, _, rfl, .refl _⟩
  | true =>
    have e : sameC ⟨u1, u2, u3⟩ ⟨v1, v2, v3⟩ = eqL sameN u3 v3 := by simp only [sameC, e1]; rfl
    rw [e]
    by_cases hl : u3.length = v3.length
    · repeat' (first | (simp (disch := first | omega | (simp only [List.length_append, List.length_cons, List.length_nil, List.length_map, List.length_set]; omega)) only [VC_skip, VC_seq, VC_cond, VC_block, VC_region, VC_loop, VI_false, VO_nil, VO_plain, VO_guard, VG_true, VV_some, VS, List.length_map, AV.told, ofV_bool, ofV_int, deN_vsl, gdA, callOf, isPanic, nextOf, altA, evalOp, ev_tmp, ev_const, Av.get, St.put, argT, thenQ, Nat.reduceEqDiff, ↓reduceIte, List.nil_append, List.getElem?_cons_zero, List.getElem?_cons_succ, List.getElem?_toArray, Option.map_some, Option.bind_some, beq_false, Bool.not_true, Bool.not_false, pickA, cond_false, ldC, cl_agg, List.length_cons, List.length_nil, Nat.add_zero, Nat.zero_add, List.cons_append, b_neq, s_neq, ieq_t, ld9, ld22, lv22, fa24_0, fa24_1, e1, bne]))
      refine W.loopT (X := Nat) (fun i => [(5, .int .i64 (i : Int)), (2, .ptr 0 0), (3, .ptr 1 0)]) (fun _ => [.cells [.str u1, .vsl 5 u2 (u3.map encLn)] false, .cells [.str v1, .vsl 5 v2 (v3.map encLn)] false])
        (fun i => i ≤ u3.length ∧ eqL sameN (u3.drop i) (v3.drop i) = eqL sameN u3 v3) (fun i => u3.length - i) 0 ⟨Nat.zero_le _, rfl⟩ ⟨rfl, rfl, rfl, trivial⟩ rfl ?_
      rintro i ⟨hi, hE⟩
      refine .vc (by decide) ?_
      by_cases h : i < u3.length
      · obtain ⟨⟨p1, p2, p3, p4, p5⟩, hu, hud⟩ := drop_at h
        obtain ⟨⟨q1, q2, q3, q4, q5⟩, hv, hvd⟩ := drop_at (show i < v3.length from by omega)
        rw [hud, hvd, eqL] at hE
        have hia : ∀ H, evIndexAddr Tryz.prog 22 (.vsl 5 u2 (u3.map encLn)) (.int .i64 (i : Int)) H = some (.vptr [.str p1, .str p2, .vsl 3 p3 (p4.map encR), .str p5]) := fun H => iv22 (v := encLn ⟨p1, p2, p3, p4, p5⟩) (by simp [hu]) rfl H
        have hib : ∀ H, evIndexAddr Tryz.prog 22 (.vsl 5 v2 (v3.map encLn)) (.int .i64 (i : Int)) H = some (.vptr [.str q1, .str q2, .vsl 3 q3 (q4.map encR), .str q5]) := fun H => iv22 (v := encLn ⟨q1, q2, q3, q4, q5⟩) (by simp [hv]) rfl H
        have g1 := same_R ⟨p1, p2, p3, p4, p5⟩ ⟨q1, q2, q3, q4, q5⟩
        simp only [encLn] at g1
        repeat' (first | (simp (disch := first | omega | (simp only [List.length_append, List.length_cons, List.length_nil, List.length_map, List.length_set]; omega)) only [VC_skip, VC_seq, VC_cond, VC_block, VC_region, VC_drawn, VI_true, VO_nil, VO_plain, VV_some, VS, List.length_map, deN_vsl, callOf, isPanic, nextOf, altA, evalOp, ev_tmp, Av.get, St.put, thenQ, Nat.reduceEqDiff, ↓reduceIte, List.getElem?_cons_zero, List.getElem?_cons_succ, Option.map_some, ldC, Nat.zero_add, b_lss, decide_eq_true, ld22, lv22, fa24_1]))
        refine W.drawN [] [false, false, false, false, false, false, false, false, false, false, false, false] [] mixed (by kernel_rfl) (by kernel_rfl) (by kernel_rfl) ?_
        cases f1 : sameN ⟨p1, p2, p3, p4, p5⟩ ⟨q1, q2, q3, q4, q5⟩ with
        | false =>
          rw [f1] at hE g1
          rw [← hE]
          repeat' (first | (simp (disch := first | omega | (simp only [List.length_append, List.length_cons, List.length_nil, List.length_map, List.length_set]; omega)) only [VC_seq, VC_cond, VC_ret, VC_region, VI_true, VO_nil, VO_plain, VV_some, VS, blockQ, DT_nil, DT_plain, DS, cHs_f, cHs_n, cPs, lastS_1, lastS_2, u_notb, ofV_bool, callOf, isPanic, nextOf, altA, evalOp, ev_tmp, ev_const, ev_func, Av.get, St.put, thenQ, Nat.reduceEqDiff, ↓reduceIte, List.map_cons, List.map_nil, List.nil_append, List.append_nil, List.getElem?_cons_zero, List.getElem?_cons_succ, Option.map_some, Bool.not_false, ldC, List.length_cons, List.length_nil, Nat.reduceAdd, and_self, true_and, Nat.zero_add, List.take_succ_cons, List.take_zero, Nat.le_refl, List.cons_append, Bool.false_and, ld22, fa24_1, lw45, hia, hib]) | (guard_target =~ VCall _ _ _ _ _ _ _; refine VCall.pure (by first | with_reducible exact g1) (by (first | rfl | (simp only [AV.hfs, AV.hf, Bool.and_self, Bool.and_true, Bool.true_and, strs_hfs, encR_hfs]))) ?_) | (guard_target =~ DCal _ _ _ _ _ _ _; refine DCal.pure (by first | with_reducible exact g1) (by (first | rfl | (simp only [AV.hfs, AV.hf, Bool.and_self, Bool.and_true, Bool.true_and, strs_hfs, encR_hfs]))) ?_))
          exact ⟨_, rfl, _, rfl, .refl _⟩
        | true =>
          rw [f1] at hE g1
          repeat' (first | (simp (disch := first | omega | (simp only [List.length_append, List.length_cons, List.length_nil, List.length_map, List.length_set]; omega)) only [VC_skip, VC_cond, VC_region, VI_false, VO_nil, VO_plain, VV_some, VS, blockQ, DT_nil, DT_plain, DS, cHs_f, cHs_n, cPs, lastS_1, lastS_2, u_notb, ofV_int, callOf, isPanic, nextOf, altA, evalOp, ev_tmp, ev_const, ev_func, Av.get, St.put, thenQ, Nat.reduceEqDiff, ↓reduceIte, List.map_cons, List.map_nil, List.nil_append, List.append_nil, List.getElem?_cons_zero, List.getElem?_cons_succ, Option.map_some, Bool.not_true, ldC, List.length_cons, List.length_nil, Nat.reduceAdd, and_self, true_and, and_true, Nat.zero_add, List.take_succ_cons, List.take_zero, Nat.le_refl, List.cons_append, b_add64, castS, ld22, fa24_1, lw45, hia, hib]) | (guard_target =~ VCall _ _ _ _ _ _ _; refine VCall.pure (by first | with_reducible exact g1) (by (first | rfl | (simp only [AV.hfs, AV.hf, Bool.and_self, Bool.and_true, Bool.true_and, strs_hfs, encR_hfs]))) ?_) | (guard_target =~ DCal _ _ _ _ _ _ _; refine DCal.pure (by first | with_reducible exact g1) (by (first | rfl | (simp only [AV.hfs, AV.hf, Bool.and_self, Bool.and_true, Bool.true_and, strs_hfs, encR_hfs]))) ?_))
          exact ⟨i + 1, ⟨by omega, by rw [← hE]; rfl⟩, by omega, ⟨rfl, rfl, rfl, trivial⟩⟩
      · have e : i = u3.length := by omega
        subst e
        rw [List.drop_length, hl, List.drop_length] at hE
        rw [← hE]
        repeat' (first | (simp (disch := first | omega | (simp only [List.length_append, List.length_cons, List.length_nil, List.length_map, List.length_set]; omega)) only [VC_seq, VC_cond, VC_exit, VC_ret, VC_region, VI_false, VO_nil, VO_plain, VV_some, VS, blockQ, List.length_map, ofV_bool, deN_vsl, callOf, isPanic, nextOf, altA, evalOp, ev_tmp, ev_const, Av.get, St.put, thenQ, Nat.reduceEqDiff, ↓reduceIte, List.getElem?_cons_zero, List.getElem?_cons_succ, Option.map_some, ldC, Nat.zero_add, b_lss, decide_eq_false, ld22, lv22, fa24_1]))
        exact ⟨_, rfl, _, rfl, .refl _⟩
    · have e : eqL sameN u3 v3 = false := by
        cases h : eqL sameN u3 v3 with
        | false => rfl
        | true => exact (hl (eqL_len h)).elim
      rw [e]
      repeat' (first | (simp (disch := first | omega | (simp only [List.length_append, List.length_cons, List.length_nil, List.length_map, List.length_set]; omega)) only [VC_seq, VC_cond, VC_ret, VC_region, VI_true, VO_nil, VO_plain, VO_guard, VG_true, VV_some, VS, List.length_map, AV.told, ofV_bool, deN_vsl, gdA, callOf, isPanic, nextOf, altA, evalOp, ev_tmp, ev_const, Av.get, St.put, argT, thenQ, Nat.reduceEqDiff, ↓reduceIte, List.nil_append, List.getElem?_cons_zero, List.getElem?_cons_succ, List.getElem?_toArray, Option.map_some, Option.bind_some, beq_false, Bool.not_true, Bool.not_false, pickA, cond_false, ldC, cl_agg, List.length_cons, List.length_nil, Nat.add_zero, Nat.zero_add, List.cons_append, b_neq, s_neq, ieq_f, ld9, ld22, lv22, fa24_0, fa24_1, e1, bne]))
      exact ⟨_, rfl, _, rfl, .refl _⟩
end Go.Proofs.YtjlhemfmeboadaaGreatDoor
namespace Go.Proofs.YtjlhemfmeboadaaGreatDoor
set_option linter.unusedVariables false
set_option linter.unusedSimpArgs false
open Go Go.Av Go.RowKit

theorem eqL_refl {α : Type} {p : α → α → Bool} (hp : ∀ a, p a a = true) : ∀ a : List α, eqL p a a = true
  | [] => rfl
  | x :: a => by rw [eqL, hp x, eqL_refl hp a]; rfl
theorem sameP_refl (a : Bytes × Bytes) : sameP a a = true := by simp [sameP]
theorem sameN_refl (a : Ln) : sameN a a = true := by simp [sameN, eqL_refl sameP_refl]
theorem sameC_refl (a : Cd) : sameC a a = true := by simp [sameC, eqL_refl sameN_refl]

end Go.Proofs.YtjlhemfmeboadaaGreatDoor
namespace Go.Proofs.YtjlhemfmeboadaaGreatDoor
set_option linter.unusedVariables false
set_option linter.unusedSimpArgs false
open Go Go.Av Go.RowKit

set_option maxRecDepth 8000 in
theorem vcardParses (s : Bytes) : PureFn Tryz.prog 4 [.str s] (.ret (.bool true)) := by
  have hk := knownV
  by_cases q0 : s.length > 5000
  case pos =>
    refine PureFn.of Tryz.func4 rfl (enters_call enters Tryz.func4 rfl) (by simp [Tryz.ntmps4]) ?_
    show W Tryz.prog 58 0 none _ _ _
    refine W.vc (by decide) ?_
    repeat' (first | (simp (disch := first | omega | (simp only [List.length_append, List.length_cons, List.length_nil, List.length_map, List.length_set]; omega)) only [VC_seq, VC_cond, VC_ret, VC_region, VI_true, VO_nil, VO_plain, VV_some, VS, ofV_bool, ofV_int, deN_str, callOf, isPanic, nextOf, altA, evalOp, ev_tmp, ev_const, ev_func, Av.get, St.put, argT, thenQ, Nat.reduceEqDiff, ↓reduceIte, List.map_nil, List.append_nil, Option.map_some, b_gtr, decide_eq_true, ls9]) | (guard_target =~ VCall _ _ _ _ _ _ _; refine VCall.pure (by first | with_reducible exact hk) (by (first | rfl | (simp only [AV.hfs, AV.hf, Bool.and_self, Bool.and_true, Bool.true_and, strs_hfs]))) ?_) | (guard_target =~ DCal _ _ _ _ _ _ _; refine DCal.pure (by first | with_reducible exact hk) (by (first | rfl | (simp only [AV.hfs, AV.hf, Bool.and_self, Bool.and_true, Bool.true_and, strs_hfs]))) ?_))
    exact ⟨_, rfl, _, rfl, .refl _⟩
  have h1 := parseV s (by omega)
  have h2 := parseR s (by omega)
  have h3 := sameRf (parseO s).1 (parseO s).1
  rw [sameC_refl] at h3
  have h4 := unfoldV s (by omega)
  have h5 := unfoldR s (by omega)
  have hn : (parseO s).2 ≤ 250 := by
    unfold parseO
    split
    · simp
    · split <;> simp
  have hll := linesR_len s
  obtain ⟨⟨c, n⟩, hq⟩ : ∃ q, q = parseO s := ⟨_, rfl⟩
  rw [← hq] at h1 h2 h3 hn
  simp only [outP] at h1 h2 h3 hn
  obtain ⟨ver, x, ls⟩ := c
  simp only [encCd] at h1 h2 h3
  generalize linesR s = L at *
  refine PureFn.of Tryz.func4 rfl (enters_call enters Tryz.func4 rfl) (by simp [Tryz.ntmps4]) ?_
  show W Tryz.prog 58 0 none _ _ _
  refine W.vc (by decide) ?_
  repeat' (first | (simp (disch := first | omega | (simp only [List.length_append, List.length_cons, List.length_nil, List.length_map, List.length_set]; omega)) only [VC_skip, VC_seq, VC_cond, VC_block, VC_region, VC_loop, VI_false, VO_nil, VO_plain, VO_guard, VG_true, VV_some, VS, List.length_map, u_notb, ofV_bool, ofV_int, deN_vsl, deN_str, gdA, callOf, isPanic, nextOf, altA, evalOp, ev_tmp, ev_const, ev_func, Av.get, St.put, argT, thenQ, Nat.reduceEqDiff, ↓reduceIte, Bool.and_self, List.map_cons, List.map_nil, List.nil_append, List.append_nil, List.getElem?_cons_zero, List.getElem?_cons_succ, List.getElem?_toArray, Option.map_some, Option.bind_some, Bool.not_true, pickA, cond_false, ldG, stC, ic_str, ic_vsl, cl_agg, setC, List.set_cons_zero, List.set_cons_succ, List.length_cons, List.length_nil, Nat.reduceAdd, List.all_cons, List.all_nil, and_self, Nat.zero_add, List.drop_zero, List.take_succ_cons, List.take_zero, Nat.le_refl, List.cons_append, b_gtr, b_neq, decide_eq_false, ls9, st24, ld24, lv38, zz24, bne, beq_self_eq_true]) | (guard_target =~ VCall _ _ _ _ _ _ _; refine VCall.pure (by first | with_reducible exact h1 | with_reducible exact h2 | with_reducible exact h3 | with_reducible exact h4 | with_reducible exact h5) (by (first | rfl | (simp only [AV.hfs, AV.hf, Bool.and_self, Bool.and_true, Bool.true_and, strs_hfs, encLn_hfs, strs_hfs]))) ?_) | (guard_target =~ DCal _ _ _ _ _ _ _; refine DCal.pure (by first | with_reducible exact h1 | with_reducible exact h2 | with_reducible exact h3 | with_reducible exact h4 | with_reducible exact h5) (by (first | rfl | (simp only [AV.hfs, AV.hf, Bool.and_self, Bool.and_true, Bool.true_and, strs_hfs, encLn_hfs, strs_hfs]))) ?_))
  refine W.loopG (X := Nat) (fun i => [(9, .int .i64 (i : Int)), (7, .vsl 0 false (L.map .str)), (8, .vsl 0 false (L.map .str))]) (fun _ => [])
    (fun i => i ≤ L.length) (fun i => L.length - i) 0 (fun _ => Nat.zero_le _) rfl (Nat.zero_le _) ?_ ?_ (subH_nil _ _) ?_
  · simp only [subT, Av.get, Nat.reduceEqDiff, ↓reduceIte, Le_rfl, nat0, nat1, and_self, true_and, and_true, List.length_map, List.length_nil]
  · simp [hltT, AV.hlt, strs_hlts]
  intro i hi
  refine .vc (by decide) ?_
  by_cases h : i < L.length
  · obtain ⟨u, hu, _⟩ := drop_at h
    have hia : ∀ H, evIndexAddr Tryz.prog 38 (.vsl 0 false (L.map .str)) (.int .i64 (i : Int)) H = some (.vptr [.str u]) := fun H => iv38 (v := .str u) (by simp [hu]) rfl H
    repeat' (first | (simp (disch := first | omega | (simp only [List.length_append, List.length_cons, List.length_nil, List.length_map, List.length_set]; omega)) only [VC_skip, VC_seq, VC_cond, VC_block, VC_region, VC_drawn, VI_true, VO_nil, VO_plain, VV_some, VS, List.length_map, deN_vsl, callOf, isPanic, nextOf, altA, evalOp, ev_tmp, Av.get, St.put, thenQ, Nat.reduceEqDiff, ↓reduceIte, Option.map_some, List.length_nil, b_lss, decide_eq_true, lv38]))
    refine W.drawN [] [false, false, false, false, false, false, false, false, false] [] mixed (by kernel_rfl) (by kernel_rfl) (by kernel_rfl) ?_
    repeat' (first | (simp (disch := first | omega | (simp only [List.length_append, List.length_cons, List.length_nil, List.length_map, List.length_set]; omega)) only [VC_skip, VC_cond, VC_region, VI_false, VO_nil, VO_plain, VV_some, VS, blockQ, DT_nil, DT_plain, DS, cHs_f, cHs_n, cPs, lastS_1, lastS_2, ofV_int, callOf, isPanic, nextOf, altA, evalOp, ev_tmp, ev_const, Av.get, St.put, thenQ, Nat.reduceEqDiff, ↓reduceIte, List.nil_append, Option.map_some, Bool.not_true, and_self, true_and, and_true, List.cons_append, b_add64, s_neq, castS, lw9, hia, bne, beq_self_eq_true]))
    refine ⟨i + 1, by omega, by omega, ?_, ?_, subH_nil _ _⟩
    · simp only [subT, Av.get, Nat.reduceEqDiff, ↓reduceIte, Le_rfl, nat0, nat1, and_self, true_and, and_true, List.length_map, List.length_nil]
    · simp [hltT, AV.hlt, strs_hlts]
  · have e : i = L.length := by omega
    subst e
    repeat' (first | (simp (disch := first | omega | (simp only [List.length_append, List.length_cons, List.length_nil, List.length_map, List.length_set]; omega)) only [VC_seq, VC_cond, VC_exit, VC_ret, VC_region, VI_false, VO_nil, VO_plain, VV_some, VS, blockQ, List.length_map, deN_vsl, callOf, isPanic, nextOf, altA, evalOp, ev_tmp, ev_func, Av.get, St.put, thenQ, Nat.reduceEqDiff, ↓reduceIte, List.map_nil, List.append_nil, Option.map_some, List.length_nil, b_lss, decide_eq_false, lv38]) | (guard_target =~ VCall _ _ _ _ _ _ _; refine VCall.pure (by first | with_reducible exact hk) (by (first | rfl | (simp only [AV.hfs, AV.hf, Bool.and_self, Bool.and_true, Bool.true_and, strs_hfs]))) ?_) | (guard_target =~ DCal _ _ _ _ _ _ _; refine DCal.pure (by first | with_reducible exact hk) (by (first | rfl | (simp only [AV.hfs, AV.hf, Bool.and_self, Bool.and_true, Bool.true_and, strs_hfs]))) ?_))
    exact ⟨_, rfl, _, rfl, .refl _⟩
end Go.Proofs.YtjlhemfmeboadaaGreatDoor
namespace Go.Proofs.YtjlhemfmeboadaaGreatDoor
set_option linter.unusedVariables false
set_option linter.unusedSimpArgs false
open Go Go.Av Go.ChangeShapes Go.WideShapes Go.ChangeAt Go.RowKit

section
variable {H : Type} {enc : TypeId × Value → H} {w : World} {base : Nat} {sp : Nat → Bool} {held : Bool}
set_option maxRecDepth 100000 in
theorem open_text {v : Value} {d : DataW H} {ps : List MemPlace} {r : Reach} {b0 : Nat} (hval : Value.okWide Tryz.prog w r b0 9 v) (hd : DataW.Trod enc Tryz.prog w base sp held 9 v d ps) :
    ∃ s : Bytes, VR (allF w) w noμ (.str s) v := by
  obtain ⟨b, rfl, _⟩ := Go.ChangeMaps.open_string Tryz.underlying9 hval hd
  obtain ⟨fuel, hf⟩ := hd
  obtain ⟨u, ⟨s, rfl⟩, hu⟩ := opens_str (enc := enc) Tryz.underlying9 fuel _ _ hf
  have hu' : VRs (allF w) w noμ [.str s] [.string b] := hu
  cases hu' with
  | cons _ _ _ _ g _ => exact ⟨s, g⟩
end

theorem calls_of_pure {P : Program} {f : FuncId} {fn : Func} {c : Code} {args : List AV} {Vs : List Value} {r : AV} {V : Value} (hN : Go.Av.Enters P) (hf : P.funcs[f]? = some fn) (hb : fn.body = some c) (w : World) (hp : PureFn P f args (.ret r))
    (hv : VRs (allF w) w noμ args Vs) (hr : ∀ F' w' R, VR F' w' noμ r R → R = V) : Calls P f Vs.toArray w fun e w' => e = .returned V ∧ Below w.heap.size w w' := by
  rcases hp (allF w) w Vs (fun b o h => h) hv with ⟨w1, h1, rfl, h2⟩ | ⟨V', w1, h1, h2⟩
  · refine h2.mono ?_
    rintro e w' ⟨hbl, F', _, _, _, ho⟩
    cases ho with
    | ret _ R h => exact ⟨by rw [hr _ _ _ h], hbl⟩
  · rw [enters_call hN hf hb] at h1; cases h1

theorem post_same {H : Type} {enc : TypeId × Value → H} {P : Program} {f : Func} {s : ChangeSpec} {apart fresh handsOn again : Bool} {W W' : World} {args : Array Value} {v : Value} {ds gs : List (DataW H)} {before pa pv : List MemPlace}
    (hW : DataW.Whole enc P f.params.toList s.vars apart W args.toList ds gs before)
    (hres : ∀ (b : Nat) (sp : Nat → Bool) (hd : Bool), DataW.TrodAll enc P W' b sp hd f.resultTypes.toList (v.resultList f.resultTypes.size) (s.fn H (ds ++ gs)).results [])
    (hargs : ∀ sp : Nat → Bool, (∀ p ∈ before, sp p.block = true) → DataW.TrodAll enc P W' 0 sp true f.params.toList args.toList (s.fn H (ds ++ gs)).args pa)
    (hvars : ∀ sp : Nat → Bool, (∀ p ∈ before, sp p.block = true) → DataW.TrodVars enc P W' sp s.vars (s.fn H (ds ++ gs)).vars pv)
    (hps : before = pa ++ pv) (hbl : Below W.heap.size W W')
    (hok : ∀ (j : Nat) (t : TypeId) (r : Value), f.resultTypes[j]? = some t → (v.resultList f.resultTypes.size)[j]? = some r → Value.okWide P W' .any 0 t r) :
    s.post enc P f apart fresh handsOn again W args v W' := by
  have hlt : ∀ p ∈ before, p.block < W.heap.size := fun p hp => hW.lt p hp
  refine ⟨ds, gs, before, [], pa, pv, hW, hres _ _ _, hargs (fun b => decide (b < W.heap.size)) (fun p hp => by simpa using hlt p hp), hvars (fun b => decide (b < W.heap.size)) (fun p hp => by simpa using hlt p hp), ?_, fun _ => ?_⟩
  · refine World.keptBut_mono (fun p hp => ⟨hp, ?_⟩) (hbl.frame (· ∈ before))
    rw [hps, List.mem_append] at hp
    exact Or.inr hp
  · obtain ⟨_, _, _, _, _, hz, hn⟩ := hW
    refine ⟨hok, _, _, ([] ++ pa) ++ pv, ⟨[] ++ pa, pv, trodAll_append (hargs _ (fun _ _ => rfl)) (hres _ _ _), hvars _ (fun _ _ => rfl), rfl, ?_, ?_⟩, ?_⟩
    · intro b off hp
      have hb : MemPlace.cell b off ∈ before := by rw [hps]; simpa using hp
      rw [hbl.frozen (hlt _ hb)]
      exact hz b off hb
    · intro ha
      have := hn ha
      rw [hps] at this
      simpa using this
    · intro p hp _
      rw [hps]
      simpa using hp
theorem laidAll : laidOutB Tryz.prog = true := by kernel_rfl
theorem stays {H : Type} {enc : TypeId × Value → H} {t : TypeId} (hr : Tryz.prog.readableRec t = true) (hrow : t < Tryz.prog.types.size) {W W' : World} {v : Value} {d : DataW H} {ps : List MemPlace}
    (h : DataW.Trod enc Tryz.prog W 0 (fun _ => true) true t v d ps) (hb : Below W.heap.size W W') (hlt : ∀ x ∈ ps, x.block < W.heap.size) (sp' : Nat → Bool) (hsp : ∀ x ∈ ps, sp' x.block = true) : DataW.Trod enc Tryz.prog W' 0 sp' true t v d ps :=
  WideElems.Trod_stays laidAll hr hrow h (fun x hx => hb.same (hlt x hx)) hsp

end Go.Proofs.YtjlhemfmeboadaaGreatDoor
