/- Contracts of functions that the statements of this seat reach: under the conditions named at each theorem. -/
import Derived.Test.YtmeijkidjifagaaGreatSrP12
import Derived.Test.YtmeijkidjifagaaGreatSvP7
import Derived.Test.YtmeijkidjifagaaGreatProg
namespace Go.Proofs
set_option linter.unusedVariables false
set_option linter.unusedSimpArgs false
open Go.Shelf
def Tryz.growRen : Ren := ⟨fun | 4 => 93 | n => n, fun | 22 => 23 | 25 => 53 | n => n, fun | n => n⟩
theorem Tryz.growLays : Go.Proofs.Lays8.n4 Tryz.prog Tryz.growRen := {
  mixed := by kernel_rfl
  f4 := ⟨"slices.Grow[cardcase/api.Entry,cardcase/api.Attr]", by decide, Tryz.func93.trans (congrArg some (by kernel_rfl))⟩
  t0 := Tryz.underlying0
  a0 := Tryz.isAgg0
  z0 := Tryz.sizeOf0
  v0 := Tryz.zeroValue0
  t3 := Tryz.underlying3
  a3 := Tryz.isAgg3
  z3 := Tryz.sizeOf3
  v3 := Tryz.zeroValue3
  t4 := Tryz.underlying4
  a4 := Tryz.isAgg4
  z4 := Tryz.sizeOf4
  v4 := Tryz.zeroValue4
  t9 := Tryz.underlying9
  a9 := Tryz.isAgg9
  z9 := Tryz.sizeOf9
  v9 := Tryz.zeroValue9
  t20 := Tryz.underlying20
  a20 := Tryz.isAgg20
  z20 := Tryz.sizeOf20
  v20 := Tryz.zeroValue20
  t22 := Tryz.underlying23
  a22 := Tryz.isAgg23
  z22 := Tryz.sizeOf23
  v22 := Tryz.zeroValue23 }
end Go.Proofs
namespace Go.Proofs.YtmeijkidjifagaaGreat
set_option linter.unusedVariables false
set_option linter.unusedSimpArgs false
open Go Go.Av

theorem grow93 {n : Nat} (hn : 0 < n) (h6 : n ≤ 1000000) (H : List OB) : ShFn Tryz.prog 93 [.vsl 0 true [], .int .i64 n] H (.ret (.sl H.length 0 0 3)) (H ++ [.cells [] true]) := by
  have hi : (Tryz.prog.info? 53).map (fun i => (i.size, i.bytes, i.zero.map fun z => z.cells.size)) = some (2, 40, some 2) := by kernel_rfl
  cases h1 : Tryz.prog.info? 53 with
  | none => rw [h1] at hi; cases hi
  | some i0 =>
    rw [h1] at hi
    simp only [Option.map_some, Option.some.injEq, Prod.mk.injEq] at hi
    obtain ⟨e1, e2, e3⟩ := hi
    cases h2 : i0.zero with
    | none => rw [h2] at e3; cases e3
    | some z =>
      rw [h2] at e3
      simp only [Option.map_some, Option.some.injEq] at e3
      exact grow_sh enters Tryz.func93 rfl Tryz.growLays rfl i0 z h1 h2 (wd := 3) (by rw [e1]; rfl) (by rw [e3, e1]) (by omega) hn (by rw [e2]; omega) h6 H

theorem bs117 (u v : AV) (hu : u.one = true) (hv : v.one = true) (tu : u.told = true) (tv : v.told = true) : evBuildSlice Tryz.prog 117 2 [(0, u), (1, v)] = some (.vsl 0 true [u, v]) := by
  have ha : apT Tryz.prog 23 = some (1, 0, 24) := by kernel_rfl
  simp [evBuildSlice, Tryz.underlying117, ha, List.range', tu, tv, one_cells hu, one_cells hv]
def two117 (x y : Bool) (a b : List Atr) : List AV := [.vsl 3 x (a.map encE), .vsl 3 y (b.map encE)]
theorem two117_hfs (x y : Bool) (a b : List Atr) : AV.hfs (two117 x y a b) = true := by simp [two117, AV.hfs, AV.hf, encE_hfs]
theorem ln117 (x y : Bool) (a b : List Atr) (H : List OB) : evLen Tryz.prog 117 (.vsl 0 true (two117 x y a b)) H = some (.int .i64 2) := by simp [evLen, Tryz.underlying117, two117]
theorem ia117 (x y : Bool) (a b : List Atr) (i : Nat) (v : AV) (h : (two117 x y a b)[i]? = some v) (hv : v.one = true) (H : List OB) : evIndexAddr Tryz.prog 117 (.vsl 0 true (two117 x y a b)) (.int .i64 (i : Int)) H = some (.vptr [v]) := by
  simp [evIndexAddr, idx_nat, Tryz.underlying117, tz23, h, one_cells hv]

set_option maxRecDepth 100000 in
theorem concat68 (x y : Bool) (a b : List Atr) (ha : a ≠ []) (hal : a.length ≤ 1000) (hbl : b.length ≤ 1000) :
    PureFn Tryz.prog 68 [.vsl 0 true (two117 x y a b)] (.ret (.vsl 3 false ((a ++ b).map encE))) := by
  obtain ⟨q, hq⟩ : ∃ q : Nat → List Atr, q = fun i => match i with | 0 => [] | 1 => a | _ => a ++ b := ⟨_, rfl⟩
  obtain ⟨r, hr⟩ : ∃ r : Nat → List Atr, r = fun i => match i with | 0 => a | _ => b := ⟨_, rfl⟩
  obtain ⟨z, hz⟩ : ∃ z : Nat → Bool, z = fun i => match i with | 0 => x | _ => y := ⟨_, rfl⟩
  have hq2 : ∀ i, i < 2 → q (i + 1) = q i ++ r i := by
    intro i hi
    have : i = 0 ∨ i = 1 := by omega
    rcases this with rfl | rfl <;> simp [hq, hr]
  have hat : ∀ i, i < 2 → (two117 x y a b)[i]? = some (.vsl 3 (z i) ((r i).map encE)) := by
    intro i hi
    have : i = 0 ∨ i = 1 := by omega
    rcases this with rfl | rfl <;> simp [two117, hr, hz]
  have hql : ∀ i, (q i).length ≤ 2000 := by
    intro i
    rw [hq]
    rcases i with _ | _ | i
    · exact Nat.zero_le _
    · exact Nat.le_trans hal (by decide)
    · show (a ++ b).length ≤ 2000
      rw [List.length_append]; omega
  have hrl : ∀ i, (r i).length ≤ 1000 := by
    intro i
    rw [hr]
    rcases i with _ | i
    · exact hal
    · exact hbl
  have hq0 : q 0 = [] := by subst hq; rfl
  have hqe : q 2 = a ++ b := by subst hq; rfl
  have hhf := two117_hfs x y a b
  have hlen := ln117 x y a b
  have hia : ∀ i : Nat, i < 2 → ∀ H, evIndexAddr Tryz.prog 117 (.vsl 0 true (two117 x y a b)) (.int .i64 (i : Int)) H = some (.vptr [.vsl 3 (z i) ((r i).map encE)]) := fun i hi H => ia117 x y a b i _ (hat i hi) rfl H
  clear hat hr hz
  generalize two117 x y a b = es at *
  refine PureFn.of Tryz.func68 rfl (enters_call enters Tryz.func68 rfl) (by simp [Tryz.ntmps68]) ?_
  show W Tryz.prog 36 _ none _ _ _
  refine .seq (.region [] (by decide) ?_)
  simp only [EOps, EDf, isRd, gdA, callOf, isPanic, nextOf, altA, evalOp, St.ev, Av.get, St.put, argT, ofV, thenQ, Nat.reduceEqDiff, ↓reduceIte, Bool.and_self, List.map_cons, List.map_nil, List.nil_append, List.append_nil, List.getElem?_cons_zero, List.getElem?_cons_succ, List.getElem?_toArray, Option.map_some, Option.bind_some, decide_true, decide_false, beq_false, beq_true, Bool.not_true, Bool.not_false, Bool.false_eq_true, pickA, cond_true, cond_false]
  refine .seq (.region [] (by decide) ?_)
  simp only [EOps, EDf, isRd, gdA, callOf, isPanic, nextOf, altA, evalOp, St.ev, Av.get, St.put, argT, ofV, thenQ, Nat.reduceEqDiff, ↓reduceIte, Bool.and_self, List.map_cons, List.map_nil, List.nil_append, List.append_nil, List.getElem?_cons_zero, List.getElem?_cons_succ, List.getElem?_toArray, Option.map_some, Option.bind_some, decide_true, decide_false, beq_false, beq_true, Bool.not_true, Bool.not_false, Bool.false_eq_true, pickA, cond_true, cond_false]
  refine .seq (.seq (.region [] (by decide) ?_))
  simp only [EOps, EDf, isRd, gdA, callOf, isPanic, nextOf, altA, evalOp, St.ev, Av.get, St.put, argT, ofV, thenQ, Nat.reduceEqDiff, ↓reduceIte, Bool.and_self, List.map_cons, List.map_nil, List.nil_append, List.append_nil, List.getElem?_cons_zero, List.getElem?_cons_succ, List.getElem?_toArray, Option.map_some, Option.bind_some, decide_true, decide_false, beq_false, beq_true, Bool.not_true, Bool.not_false, Bool.false_eq_true, pickA, cond_true, cond_false, hlen]
  refine .block ?_
  refine .loop (X := Nat) (fun i s => Av.get s.T 0 = .vsl 0 true es ∧ Av.get s.T 3 = .int .i64 ((q i).length : Nat) ∧ Av.get s.T 9 = .vsl 0 true es ∧ Av.get s.T 10 = .int .i64 2 ∧ Av.get s.T 11 = .int .i64 (i : Int) ∧ i ≤ 2 ∧ s.H = [] ∧ s.D = []) (fun i => 2 - i) 0
    ⟨rfl, by rw [hq0]; rfl, rfl, rfl, rfl, Nat.zero_le _, rfl, rfl⟩ ?_
  rintro i ⟨T, K, D⟩ ⟨h0, h3, h9, h10, h11, hi, rfl, rfl⟩
  simp only at h0 h3 h9 h10 h11
  have hlt2 : decide ((i : Int) < 2) = decide (i < 2) := dlt i 2
  refine .seq (.region [] (by decide) ?_)
  simp only [EOps, EDf, isRd, gdA, callOf, isPanic, nextOf, altA, evalOp, St.ev, Av.get, St.put, argT, ofV, thenQ, Nat.reduceEqDiff, ↓reduceIte, Bool.and_self, List.map_cons, List.map_nil, List.nil_append, List.append_nil, List.getElem?_cons_zero, List.getElem?_cons_succ, List.getElem?_toArray, Option.map_some, Option.bind_some, decide_true, decide_false, beq_false, beq_true, Bool.not_true, Bool.not_false, Bool.false_eq_true, pickA, cond_true, cond_false, h0, h3, h9, h10, h11, b_lss, hlt2]
  by_cases h : i < 2
  · refine .seq (.cond (t := true) (by simp [St.ev, Av.get, h]) (.skip ?_))
    simp only [thenQ]
    refine .seq (.block (.seq (.region [] (by decide) ?_)))
    simp only [EOps, EDf, isRd, gdA, callOf, isPanic, nextOf, altA, evalOp, St.ev, Av.get, St.put, argT, ofV, thenQ, Nat.reduceEqDiff, ↓reduceIte, Bool.and_self, List.map_cons, List.map_nil, List.nil_append, List.append_nil, List.getElem?_cons_zero, List.getElem?_cons_succ, List.getElem?_toArray, Option.map_some, Option.bind_some, decide_true, decide_false, beq_false, beq_true, Bool.not_true, Bool.not_false, Bool.false_eq_true, pickA, cond_true, cond_false, h0, h3, h9, h10, h11, hia i h, ld23v]
    have hadd : evBin Tryz.prog .add 3 (.int .i64 ((q i).length : Nat)) (.int .i64 (r i).length) = some (.int .i64 ((q (i + 1)).length : Nat)) := by
      have h1 := hql i
      have h2 := hrl i
      rw [b_add64 _ _ (by omega), hq2 i h]; simp
    have hneg : decide ((((q (i + 1)).length : Nat) : Int) < 0) = false := decide_eq_false (by omega)
    refine .seq (.region [] (by decide) ?_)
    simp only [EOps, EDf, isRd, gdA, callOf, isPanic, nextOf, altA, evalOp, St.ev, Av.get, St.put, argT, ofV, thenQ, Nat.reduceEqDiff, ↓reduceIte, Bool.and_self, List.map_cons, List.map_nil, List.nil_append, List.append_nil, List.getElem?_cons_zero, List.getElem?_cons_succ, List.getElem?_toArray, Option.map_some, Option.bind_some, decide_true, decide_false, beq_false, beq_true, Bool.not_true, Bool.not_false, Bool.false_eq_true, pickA, cond_true, cond_false, h0, h3, h9, h10, h11, ln23, hadd]
    refine .seq (.region [] (by decide) ?_)
    simp only [EOps, EDf, isRd, gdA, callOf, isPanic, nextOf, altA, evalOp, St.ev, Av.get, St.put, argT, ofV, thenQ, Nat.reduceEqDiff, ↓reduceIte, Bool.and_self, List.map_cons, List.map_nil, List.nil_append, List.append_nil, List.getElem?_cons_zero, List.getElem?_cons_succ, List.getElem?_toArray, Option.map_some, Option.bind_some, decide_true, decide_false, beq_false, beq_true, Bool.not_true, Bool.not_false, Bool.false_eq_true, pickA, cond_true, cond_false, h0, h3, h9, h10, h11, b_lss, hneg]
    refine .cond (t := false) rfl (.skip ?_)
    simp only [EOps, EDf, isRd, gdA, callOf, isPanic, nextOf, altA, evalOp, St.ev, Av.get, St.put, argT, ofV, thenQ, Nat.reduceEqDiff, ↓reduceIte, Bool.and_self, List.map_cons, List.map_nil, List.nil_append, List.append_nil, List.getElem?_cons_zero, List.getElem?_cons_succ, List.getElem?_toArray, Option.map_some, Option.bind_some, decide_true, decide_false, beq_false, beq_true, Bool.not_true, Bool.not_false, Bool.false_eq_true, pickA, cond_true, cond_false, blockQ]
    have hadd1 : evBin Tryz.prog .add 3 (.int .i64 (i : Int)) (.int .i64 1) = some (.int .i64 ((i + 1 : Nat) : Int)) := by
      rw [b_add64 _ _ (by omega)]; simp
    refine .region [] (by decide) ?_
    simp only [EOps, EDf, isRd, gdA, callOf, isPanic, nextOf, altA, evalOp, St.ev, Av.get, St.put, argT, ofV, thenQ, Nat.reduceEqDiff, ↓reduceIte, Bool.and_self, List.map_cons, List.map_nil, List.nil_append, List.append_nil, List.getElem?_cons_zero, List.getElem?_cons_succ, List.getElem?_toArray, Option.map_some, Option.bind_some, decide_true, decide_false, beq_false, beq_true, Bool.not_true, Bool.not_false, Bool.false_eq_true, pickA, cond_true, cond_false, h0, h3, h9, h10, h11, hadd1]
    refine ⟨i + 1, ⟨trivial, by trivial, trivial, trivial, rfl, h, trivial, trivial⟩, by omega⟩
  · have hi' : i = 2 := by omega
    subst hi'
    refine .seq (.cond (t := false) (by simp [St.ev, Av.get]) (.exit ?_))
    simp only [EOps, EDf, isRd, gdA, callOf, isPanic, nextOf, altA, evalOp, St.ev, Av.get, St.put, argT, ofV, thenQ, Nat.reduceEqDiff, ↓reduceIte, Bool.and_self, List.map_cons, List.map_nil, List.nil_append, List.append_nil, List.getElem?_cons_zero, List.getElem?_cons_succ, List.getElem?_toArray, Option.map_some, Option.bind_some, decide_true, decide_false, beq_false, beq_true, Bool.not_true, Bool.not_false, Bool.false_eq_true, pickA, cond_true, cond_false, blockQ]
    have hpos : 0 < (q 2).length := by rw [hqe, List.length_append]; have := List.length_pos_iff.2 ha; omega
    have h2l := hql 2
    have hgr := grow93 hpos (by omega) []
    refine .seq (.region [.sh (.ret (.sl 0 0 0 3)) [.cells [] true]] (by decide) ?_)
    simp only [EOps, EDf, isRd, gdA, callOf, isPanic, nextOf, altA, evalOp, St.ev, Av.get, St.put, argT, ofV, thenQ, Nat.reduceEqDiff, ↓reduceIte, Bool.and_self, List.map_cons, List.map_nil, List.nil_append, List.append_nil, List.getElem?_cons_zero, List.getElem?_cons_succ, List.getElem?_toArray, Option.map_some, Option.bind_some, decide_true, decide_false, beq_false, beq_true, Bool.not_true, Bool.not_false, Bool.false_eq_true, pickA, cond_true, cond_false, h0, h3, h9, h10, h11, ClOK]
    refine ⟨hgr, ?_⟩
    refine .seq (.seq (.region [] (by decide) ?_))
    simp only [EOps, EDf, isRd, gdA, callOf, isPanic, nextOf, altA, evalOp, St.ev, Av.get, St.put, argT, ofV, thenQ, Nat.reduceEqDiff, ↓reduceIte, Bool.and_self, List.map_cons, List.map_nil, List.nil_append, List.append_nil, List.getElem?_cons_zero, List.getElem?_cons_succ, List.getElem?_toArray, Option.map_some, Option.bind_some, decide_true, decide_false, beq_false, beq_true, Bool.not_true, Bool.not_false, Bool.false_eq_true, pickA, cond_true, cond_false, h0, hlen]
    refine .block ?_
    refine .loop (X := Nat) (fun i s => Av.get s.T 25 = .vsl 0 true es ∧ Av.get s.T 26 = .int .i64 2 ∧ Av.get s.T 27 = .int .i64 (i : Int) ∧ i ≤ 2 ∧ slIn 3 encE s.H (Av.get s.T 6) (q i) ∧ s.D = []) (fun i => 2 - i) 0
      ⟨rfl, rfl, rfl, Nat.zero_le _, .inr ⟨0, by rw [hq0]; rfl, by rw [hq0]; rfl⟩, rfl⟩ ?_
    rintro i ⟨T, K, D⟩ ⟨h25, h26, h27, hi, hs, rfl⟩
    simp only at h25 h26 h27 hs
    generalize hv6 : Av.get T 6 = v6 at hs
    have hlt2 : decide ((i : Int) < 2) = decide (i < 2) := dlt i 2
    refine .seq (.region [] (by decide) ?_)
    simp only [EOps, EDf, isRd, gdA, callOf, isPanic, nextOf, altA, evalOp, St.ev, Av.get, St.put, argT, ofV, thenQ, Nat.reduceEqDiff, ↓reduceIte, Bool.and_self, List.map_cons, List.map_nil, List.nil_append, List.append_nil, List.getElem?_cons_zero, List.getElem?_cons_succ, List.getElem?_toArray, Option.map_some, Option.bind_some, decide_true, decide_false, beq_false, beq_true, Bool.not_true, Bool.not_false, Bool.false_eq_true, pickA, cond_true, cond_false, h25, h26, h27, b_lss, hlt2]
    by_cases h : i < 2
    · refine .seq (.cond (t := true) (by simp [St.ev, Av.get, h]) (.skip ?_))
      simp only [thenQ]
      refine .seq (.block (.seq (.region [] (by decide) ?_)))
      simp only [EOps, EDf, isRd, gdA, callOf, isPanic, nextOf, altA, evalOp, St.ev, Av.get, St.put, argT, ofV, thenQ, Nat.reduceEqDiff, ↓reduceIte, Bool.and_self, List.map_cons, List.map_nil, List.nil_append, List.append_nil, List.getElem?_cons_zero, List.getElem?_cons_succ, List.getElem?_toArray, Option.map_some, Option.bind_some, decide_true, decide_false, beq_false, beq_true, Bool.not_true, Bool.not_false, Bool.false_eq_true, pickA, cond_true, cond_false, h25, h26, h27, hv6, hia i h, ld23v]
      have h1 := hql i
      have h2 := hrl i
      obtain ⟨v', M', hap, hsl, _, _, _⟩ := slIn_catN (wd := 3) (bytes := 40) Tryz.underlying23 ap53 encE (fun _ => rfl) (fun _ => rfl) (by decide) 0 hs (by cases v6 <;> simp [behindV]) (Nat.zero_le _) (newsA_vsl (wd := 3) (z i) (r i) _) (by omega)
      refine .region [] (by decide) ?_
      simp only [EOps, EDf, isRd, gdA, callOf, isPanic, nextOf, altA, evalOp, St.ev, Av.get, St.put, argT, ofV, thenQ, Nat.reduceEqDiff, ↓reduceIte, Bool.and_self, List.map_cons, List.map_nil, List.nil_append, List.append_nil, List.getElem?_cons_zero, List.getElem?_cons_succ, List.getElem?_toArray, Option.map_some, Option.bind_some, decide_true, decide_false, beq_false, beq_true, Bool.not_true, Bool.not_false, Bool.false_eq_true, pickA, cond_true, cond_false, h25, h26, h27, hv6, hap, blockQ]
      have hadd1 : evBin Tryz.prog .add 3 (.int .i64 (i : Int)) (.int .i64 1) = some (.int .i64 ((i + 1 : Nat) : Int)) := by
        rw [b_add64 _ _ (by omega)]; simp
      refine .region [] (by decide) ?_
      simp only [EOps, EDf, isRd, gdA, callOf, isPanic, nextOf, altA, evalOp, St.ev, Av.get, St.put, argT, ofV, thenQ, Nat.reduceEqDiff, ↓reduceIte, Bool.and_self, List.map_cons, List.map_nil, List.nil_append, List.append_nil, List.getElem?_cons_zero, List.getElem?_cons_succ, List.getElem?_toArray, Option.map_some, Option.bind_some, decide_true, decide_false, beq_false, beq_true, Bool.not_true, Bool.not_false, Bool.false_eq_true, pickA, cond_true, cond_false, h25, h26, h27, hadd1]
      refine ⟨i + 1, ⟨trivial, trivial, rfl, h, ?_, trivial⟩, by omega⟩
      rw [hq2 i h]; exact hsl
    · have hi' : i = 2 := by omega
      subst hi'
      refine .seq (.cond (t := false) (by simp [St.ev, Av.get]) (.exit ?_))
      simp only [EOps, EDf, isRd, gdA, callOf, isPanic, nextOf, altA, evalOp, St.ev, Av.get, St.put, argT, ofV, thenQ, Nat.reduceEqDiff, ↓reduceIte, Bool.and_self, List.map_cons, List.map_nil, List.nil_append, List.append_nil, List.getElem?_cons_zero, List.getElem?_cons_succ, List.getElem?_toArray, Option.map_some, Option.bind_some, decide_true, decide_false, beq_false, beq_true, Bool.not_true, Bool.not_false, Bool.false_eq_true, pickA, cond_true, cond_false, blockQ]
      refine .seq (.region [] (by decide) ?_)
      simp only [EOps, EDf, isRd, gdA, callOf, isPanic, nextOf, altA, evalOp, St.ev, Av.get, St.put, argT, ofV, thenQ, Nat.reduceEqDiff, ↓reduceIte, Bool.and_self, List.map_cons, List.map_nil, List.nil_append, List.append_nil, List.getElem?_cons_zero, List.getElem?_cons_succ, List.getElem?_toArray, Option.map_some, Option.bind_some, decide_true, decide_false, beq_false, beq_true, Bool.not_true, Bool.not_false, Bool.false_eq_true, pickA, cond_true, cond_false, hv6]
      rw [hqe] at hs
      obtain ⟨u, hz, hle⟩ := slIn_fz (n := 2) (k := 19) (by decide) encE_agg encE_chf hs
      exact .ret (retF 2 rfl rfl rfl hz hle)
end Go.Proofs.YtmeijkidjifagaaGreat
namespace Go.Proofs.YtmeijkidjifagaaGreat
set_option linter.unusedVariables false
set_option linter.unusedSimpArgs false
open Go Go.Av

/-- A table in memory, each value in memory of its own. -/
def tabG (M : List OB) (id : Nat) (t : Tab) : Prop := ∃ vs : List AV, M[id]? = some (.map ((t.map (·.1)).map .str) vs) ∧ vs.length = t.length ∧
  (∀ (j : Nat) (p : Bytes × List Bytes), t[j]? = some p → ∃ d, vs[j]? = some (.sl d 0 p.2.length 0) ∧ M[d]? = some (.cells (p.2.map .str) true)) ∧
  (∀ (j k d n n' : Nat), vs[j]? = some (.sl d 0 n 0) → vs[k]? = some (.sl d 0 n' 0) → j = k)
theorem tabG_OK {M : List OB} {id : Nat} {t : Tab} (h : tabG M id t) : tabOK M id t := by
  obtain ⟨vs, h1, h2, h3, _⟩ := h
  exact ⟨vs, h1, h2, fun j p hp => by obtain ⟨d, g1, g2⟩ := h3 j p hp; exact ⟨_, g1, .inr ⟨d, rfl, g2⟩⟩⟩
/-- A table, an attribute's values put behind. -/
def addT (t : Tab) (a : Atr) : Tab := replT t a.1 (lookT t a.1 ++ a.2.2)
def addAll (e : List Atr) : Tab := e.foldl addT []
theorem addAll_take (e : List Atr) (i : Nat) (a : Atr) (h : e[i]? = some a) : addAll (e.take (i + 1)) = addT (addAll (e.take i)) a := by
  unfold addAll
  rw [List.take_add_one, h, List.foldl_append]; rfl
theorem replT_mem (t : Tab) (n : Bytes) (l : List Bytes) (hn : (t.map (·.1)).Nodup) (k : Bytes) : k ∈ (replT t n l).map (·.1) ↔ k = n ∨ k ∈ t.map (·.1) := by
  by_cases hm : n ∈ t.map (·.1)
  · obtain ⟨j, hj⟩ := List.mem_iff_getElem?.1 hm
    rw [replT_old t n l j hn hj, List.map_set, set_same hj]
    refine ⟨.inr, fun h => ?_⟩
    rcases h with h | h
    · rw [h]; exact hm
    · exact h
  · rw [replT_new t n l hm, List.map_append, List.mem_append]
    simp [or_comm]
theorem addAll_keys (e : List Atr) : ((addAll e).map (·.1)).Nodup ∧ ∀ n, n ∈ (addAll e).map (·.1) ↔ n ∈ e.map (·.1) := by
  have main : ∀ (e : List Atr) (t : Tab), (t.map (·.1)).Nodup → ((e.foldl addT t).map (·.1)).Nodup ∧ ∀ n, n ∈ (e.foldl addT t).map (·.1) ↔ n ∈ t.map (·.1) ∨ n ∈ e.map (·.1) := by
    intro e
    induction e with
    | nil => intro t ht; exact ⟨ht, fun n => by simp⟩
    | cons a e ih =>
      intro t ht
      obtain ⟨h1, h2⟩ := ih (addT t a) (replT_keys _ _ ht)
      refine ⟨h1, fun n => ?_⟩
      rw [List.foldl_cons, h2, addT, replT_mem _ _ _ ht, List.map_cons, List.mem_cons]
      constructor
      · rintro ((h | h) | h)
        · exact .inr (.inl h)
        · exact .inl h
        · exact .inr (.inr h)
      · rintro (h | h | h)
        · exact .inl (.inr h)
        · exact .inl (.inl h)
        · exact .inr h
  obtain ⟨h1, h2⟩ := main e [] .nil
  exact ⟨h1, fun n => by rw [addAll, h2]; simp⟩
theorem lookT_bound (t : Tab) (n : Bytes) (b : Nat) (h : ∀ p ∈ t, p.2.length ≤ b) : (lookT t n).length ≤ b := by
  unfold lookT
  split
  · rename_i p hp; exact h p (List.mem_of_find?_eq_some hp)
  · exact Nat.zero_le _
theorem addAll_bound (e : List Atr) (he : ∀ a ∈ e, a.2.2.length ≤ 1000) : ∀ i, i ≤ e.length → ∀ p ∈ addAll (e.take i), p.2.length ≤ 1000 * i
  | 0, _, p, hp => by simp [addAll] at hp
  | i + 1, hi, p, hp => by
    have ha : e[i]? = some e[i] := List.getElem?_eq_getElem (by omega)
    rw [addAll_take e i _ ha] at hp
    have ih := addAll_bound e he i (by omega)
    have hk := (addAll_keys (e.take i)).1
    generalize addAll (e.take i) = t at ih hp hk
    have hlo := lookT_bound t e[i].1 _ ih
    have hae := he e[i] (List.getElem_mem _)
    unfold addT at hp
    by_cases hm : e[i].1 ∈ t.map (·.1)
    · obtain ⟨j, hj⟩ := List.mem_iff_getElem?.1 hm
      rw [replT_old _ _ _ j hk hj] at hp
      rcases List.mem_or_eq_of_mem_set hp with hp | rfl
      · have := ih p hp; omega
      · show (lookT t e[i].1 ++ e[i].2.2).length ≤ _
        rw [List.length_append]; omega
    · rw [replT_new _ _ _ hm] at hp
      rcases List.mem_append.1 hp with hp | hp
      · have := ih p hp; omega
      · simp only [List.mem_singleton] at hp
        subst hp
        show (lookT t e[i].1 ++ e[i].2.2).length ≤ _
        rw [List.length_append]; omega

theorem lk86_some (M : List OB) (id : Nat) (ks : List Bytes) (vs : List AV) (n : Bytes) (v : AV) (j : Nat) (h : M[id]? = some (.map (ks.map .str) vs)) (hd : ks.Nodup) (hj : ks[j]? = some n) (hv : vs[j]? = some v) : evLookup Tryz.prog 86 (.map id) (.str n) false M = some v := by
  have := find_some n ks 0 j hd hj
  simp only [Nat.zero_add] at this
  simp [evLookup, ul86, Tryz.underlying9, za26, keyD, h, this, hv]

/-- One attribute put into the table. -/
theorem tabG_add {M : List OB} {id : Nat} {t : Tab} (h : tabG M id t) (hn : (t.map (·.1)).Nodup) (n : Bytes) (x : Bool) (l : List Bytes) (hl : l ≠ []) (hb : (lookT t n).length + l.length ≤ 2000000) :
    ∃ v M1 M2, evLookup Tryz.prog 86 (.map id) (.str n) false M = some v ∧ evAppend Tryz.prog 26 26 v (.vsl 0 x (l.map .str)) M = some (.sl M.length 0 ((lookT t n).length + l.length) 0, M1) ∧
      evMapUpdate Tryz.prog 86 (.map id) (.str n) (.sl M.length 0 ((lookT t n).length + l.length) 0) M1 = some M2 ∧ M2.length = M.length + 1 ∧ (∀ i, i < M.length → (∀ k, v ≠ .sl i 0 k 0) → i ≠ id → M2[i]? = M[i]?) ∧ tabG M2 id (replT t n (lookT t n ++ l)) ∧ v.isC = true := by
  obtain ⟨vs, hm, hvl, hvs, hdis⟩ := h
  have hid : id < M.length := (List.getElem?_eq_some_iff.1 hm).1
  have hcat : ∀ (v : AV) (L : List Bytes), slIn 0 AV.str M v L → L.length + l.length ≤ 2000000 → ∃ M', evAppend Tryz.prog 26 26 v (.vsl 0 x (l.map .str)) M = some (.sl M.length 0 (L.length + l.length) 0, M') ∧ M'.length = M.length + 1 ∧ M'[M.length]? = some (.cells ((L ++ l).map .str) true) ∧ ∀ i, i < M.length → v ≠ .sl i 0 L.length 0 → M'[i]? = M[i]? := by
    intro v L hs hb
    have := slIn_catX (P := Tryz.prog) (sT := 26) (e := 9) (wd := 0) (bytes := 16) Tryz.underlying26 ap9 AV.str (fun _ => rfl) (fun _ => rfl) (by decide) hs hl (newsA_vsl (wd := 0) x l M) (by omega)
    rw [flat_str] at this
    exact this
  by_cases hmem : n ∈ t.map (·.1)
  · obtain ⟨j, hj⟩ := List.mem_iff_getElem?.1 hmem
    have hjl : j < t.length := by have := (List.getElem?_eq_some_iff.1 hj).1; simpa using this
    have hp : t[j]? = some t[j] := List.getElem?_eq_getElem hjl
    have hpn : t[j].1 = n := by rw [List.getElem?_map, hp] at hj; simpa using hj
    have hlk : lookT t n = t[j].2 := by rw [← hpn]; exact lookT_at hn hp
    obtain ⟨d, hv, hd⟩ := hvs j _ hp
    rw [hlk] at hb ⊢
    have hdl : d < M.length := (List.getElem?_eq_some_iff.1 hd).1
    obtain ⟨M1, c1, c2, c3, c4⟩ := hcat (.sl d 0 t[j].2.length 0) t[j].2 (.inr ⟨d, rfl, by rw [flat_str]; exact hd⟩) hb
    have hdid : d ≠ id := by rintro rfl; rw [hm] at hd; cases hd
    have hm1 : M1[id]? = some (.map ((t.map (·.1)).map .str) vs) := by rw [c4 id hid (fun e => hdid (by cases e; rfl))]; exact hm
    have hup := mu86_old M1 id _ vs n (.sl M.length 0 (t[j].2.length + l.length) 0) j hm1 hn hj
    have hset : ∀ (X : OB) (i : Nat), i ≠ id → (M1.set id X)[i]? = M1[i]? := fun X i hi => by rw [List.getElem?_set, if_neg (fun e => hi e.symm)]
    refine ⟨_, M1, _, lk86_some M id _ vs n _ j hm hn hj hv, c1, hup, by rw [List.length_set, c2], ?_, ?_, rfl⟩
    · intro i hi hne hii
      rw [hset _ _ hii, c4 i hi (hne _)]
    · rw [replT_old t n _ j hn hj]
      refine ⟨vs.set j (.sl M.length 0 (t[j].2.length + l.length) 0), ?_, by simp [hvl], ?_, ?_⟩
      · rw [List.getElem?_set_self (by omega), List.map_set, set_same hj]
      · intro k p hk
        rw [List.getElem?_set] at hk
        split at hk
        · rename_i e; subst e
          cases hk
          refine ⟨M.length, ?_, ?_⟩
          · rw [List.getElem?_set_self (by omega), List.length_append]
          · rw [hset _ _ (by omega)]; exact c3
        · rename_i e
          obtain ⟨d', g1, g2⟩ := hvs k p hk
          have hd' : d' < M.length := (List.getElem?_eq_some_iff.1 g2).1
          have hdne : d ≠ d' := by
            rintro rfl
            exact e (hdis j k d _ _ hv g1)
          refine ⟨d', by rw [List.getElem?_set, if_neg e]; exact g1, ?_⟩
          rw [hset _ _ (by rintro rfl; rw [hm] at g2; cases g2), c4 d' hd' (fun e => hdne (by cases e; rfl))]
          exact g2
      · intro a b d' m m' ga gb
        rw [List.getElem?_set] at ga gb
        have hold : ∀ (k m : Nat), vs[k]? = some (AV.sl M.length 0 m 0) → False := by
          intro k m hk
          have hkl : k < t.length := by rw [← hvl]; exact (List.getElem?_eq_some_iff.1 hk).1
          obtain ⟨d'', g1, g2⟩ := hvs k _ (List.getElem?_eq_getElem hkl)
          rw [hk] at g1; cases g1
          have := (List.getElem?_eq_some_iff.1 g2).1
          omega
        split at ga <;> split at gb
        · rename_i e1 e2; rw [← e1, ← e2]
        · rename_i e1 e2
          split at ga
          · cases ga; exact (hold _ _ gb).elim
          · cases ga
        · rename_i e1 e2
          split at gb
          · cases gb; exact (hold _ _ ga).elim
          · cases gb
        · exact hdis a b d' m m' ga gb
  · have hlk : lookT t n = [] := lookT_no hmem
    rw [hlk] at hb ⊢
    obtain ⟨M1, c1, c2, c3, c4⟩ := hcat (.vsl 0 true []) [] (.inl ⟨rfl, 0, rfl⟩) hb
    have hm1 : M1[id]? = some (.map ((t.map (·.1)).map .str) vs) := by rw [c4 id hid (by simp)]; exact hm
    have hup := mu86_new M1 id _ vs n (.sl M.length 0 (([] : List Bytes).length + l.length) 0) hm1 hmem
    have hset : ∀ (X : OB) (i : Nat), i ≠ id → (M1.set id X)[i]? = M1[i]? := fun X i hi => by rw [List.getElem?_set, if_neg (fun e => hi e.symm)]
    refine ⟨_, M1, _, lk86_none M id _ vs n hm hmem, c1, hup, by rw [List.length_set, c2], ?_, ?_, rfl⟩
    · intro i hi hne hii
      rw [hset _ _ hii, c4 i hi (by simp)]
    · rw [replT_new t n _ hmem]
      refine ⟨vs ++ [.sl M.length 0 (([] : List Bytes).length + l.length) 0], ?_, by simp [hvl], ?_, ?_⟩
      · rw [List.getElem?_set_self (by omega)]; simp
      · intro k p hk
        rcases Nat.lt_or_ge k t.length with hkt | hkt
        · rw [List.getElem?_append_left hkt] at hk
          obtain ⟨d', g1, g2⟩ := hvs k p hk
          have hd' : d' < M.length := (List.getElem?_eq_some_iff.1 g2).1
          refine ⟨d', by rw [List.getElem?_append_left (by omega)]; exact g1, ?_⟩
          rw [hset _ _ (by rintro rfl; rw [hm] at g2; cases g2), c4 d' hd' (by simp)]
          exact g2
        · rw [List.getElem?_append_right hkt] at hk
          have hk0 : k - t.length = 0 := by have := (List.getElem?_eq_some_iff.1 hk).1; simp at this; omega
          rw [hk0] at hk
          simp at hk; subst hk
          refine ⟨M.length, ?_, ?_⟩
          · rw [List.getElem?_append_right (by omega), hvl, hk0]; simp
          · rw [hset _ _ (by omega)]; exact c3
      · intro a b d' m m' ga gb
        have hold : ∀ (k m : Nat), vs[k]? = some (AV.sl M.length 0 m 0) → False := by
          intro k m hk
          have hkl : k < t.length := by rw [← hvl]; exact (List.getElem?_eq_some_iff.1 hk).1
          obtain ⟨d'', g1, g2⟩ := hvs k _ (List.getElem?_eq_getElem hkl)
          rw [hk] at g1; cases g1
          have := (List.getElem?_eq_some_iff.1 g2).1
          omega
        have hcase : ∀ k m d', (vs ++ [AV.sl M.length 0 (([] : List Bytes).length + l.length) 0])[k]? = some (.sl d' 0 m 0) → (k < vs.length ∧ vs[k]? = some (.sl d' 0 m 0)) ∨ (k = vs.length ∧ d' = M.length) := by
          intro k m d' hk
          rcases Nat.lt_or_ge k vs.length with hkt | hkt
          · rw [List.getElem?_append_left hkt] at hk; exact .inl ⟨hkt, hk⟩
          · rw [List.getElem?_append_right hkt] at hk
            have hk0 : k - vs.length = 0 := by have := (List.getElem?_eq_some_iff.1 hk).1; simp at this; omega
            rw [hk0] at hk
            simp at hk
            exact .inr ⟨by omega, hk.1.symm⟩
        rcases hcase a m d' ga with ⟨a1, a2⟩ | ⟨a1, a2⟩ <;> rcases hcase b m' d' gb with ⟨b1, b2⟩ | ⟨b1, b2⟩
        · exact hdis a b d' m m' a2 b2
        · subst b2; exact (hold _ _ a2).elim
        · subst a2; exact (hold _ _ b2).elim
        · omega
end Go.Proofs.YtmeijkidjifagaaGreat
namespace Go.Proofs.YtmeijkidjifagaaGreat
set_option linter.unusedVariables false
set_option linter.unusedSimpArgs false
open Go Go.Av

set_option maxRecDepth 100000 in
theorem tabledG63 (x : Bool) (e : List Atr) (H : List OB) (hH0 : H.length = 0) (he : e.length ≤ 1000) (hb : ∀ a ∈ e, a.2.2.length ≤ 1000) (hs : ∀ a ∈ e, small a.1 = a.1) (hne : ∀ a ∈ e, a.2.2 ≠ []) :
    ShFnS Tryz.prog 63 [.vsl 3 x (e.map encE)] H (fun out K => out = .ret (.map H.length) ∧ H.length < K.length ∧ (∀ i, i < H.length → K[i]? = H[i]?) ∧ tabG K H.length (addAll e)) := by
  refine ShFnS.ofX Tryz.func63 rfl (enters_call enters Tryz.func63 rfl) (by simp [Tryz.ntmps63]) ?_
  show W Tryz.prog 27 _ none _ _ _
  refine .seq (.region [] (by decide) ?_)
  simp only [EOps, EDf, isRd, gdA, callOf, isPanic, nextOf, altA, evalOp, St.ev, Av.get, St.put, argT, ofV, thenQ, Nat.reduceEqDiff, ↓reduceIte, Bool.and_self, List.map_cons, List.map_nil, List.nil_append, List.append_nil, List.getElem?_cons_zero, List.getElem?_cons_succ, List.getElem?_toArray, Option.map_some, Option.bind_some, decide_true, decide_false, beq_false, beq_true, Bool.not_true, Bool.not_false, Bool.false_eq_true, pickA, cond_true, cond_false]
  refine .seq (.region [] (by decide) ?_)
  simp only [EOps, EDf, isRd, gdA, callOf, isPanic, nextOf, altA, evalOp, St.ev, Av.get, St.put, argT, ofV, thenQ, Nat.reduceEqDiff, ↓reduceIte, Bool.and_self, List.map_cons, List.map_nil, List.nil_append, List.append_nil, List.getElem?_cons_zero, List.getElem?_cons_succ, List.getElem?_toArray, Option.map_some, Option.bind_some, decide_true, decide_false, beq_false, beq_true, Bool.not_true, Bool.not_false, Bool.false_eq_true, pickA, cond_true, cond_false, evMakeMap]
  refine .seq (.seq (.region [] (by decide) ?_))
  simp only [EOps, EDf, isRd, gdA, callOf, isPanic, nextOf, altA, evalOp, St.ev, Av.get, St.put, argT, ofV, thenQ, Nat.reduceEqDiff, ↓reduceIte, Bool.and_self, List.map_cons, List.map_nil, List.nil_append, List.append_nil, List.getElem?_cons_zero, List.getElem?_cons_succ, List.getElem?_toArray, Option.map_some, Option.bind_some, decide_true, decide_false, beq_false, beq_true, Bool.not_true, Bool.not_false, Bool.false_eq_true, pickA, cond_true, cond_false, ln22]
  refine .block ?_
  have hg0 : (H ++ [OB.map [] []])[H.length]? = some (.map [] []) := by rw [List.getElem?_concat_length]
  refine .loop (X := Nat) (fun i a => Av.get a.T 3 = .map H.length ∧ Av.get a.T 8 = .vsl 3 x (e.map encE) ∧ Av.get a.T 9 = .int .i64 e.length ∧ Av.get a.T 10 = .int .i64 (i : Int) ∧ i ≤ e.length ∧
      H.length < a.H.length ∧ (∀ k, k < H.length → a.H[k]? = H[k]?) ∧ tabG a.H H.length (addAll (e.take i)) ∧ a.D = []) (fun i => e.length - i) 0
      ⟨rfl, rfl, rfl, rfl, Nat.zero_le _, by simp, fun k hk => List.getElem?_append_left hk, ⟨[], hg0, rfl, by simp [addAll], by simp⟩, rfl⟩ ?_
  rintro i ⟨T, K, D⟩ ⟨h3, h8, h9, h10, hi, hlt, hkeep, htab, rfl⟩
  simp only at h3 h8 h9 h10 hlt hkeep htab
  refine .seq (.region [] (by decide) ?_)
  simp only [EOps, EDf, isRd, gdA, callOf, isPanic, nextOf, altA, evalOp, St.ev, Av.get, St.put, argT, ofV, thenQ, Nat.reduceEqDiff, ↓reduceIte, Bool.and_self, List.map_cons, List.map_nil, List.nil_append, List.append_nil, List.getElem?_cons_zero, List.getElem?_cons_succ, List.getElem?_toArray, Option.map_some, Option.bind_some, decide_true, decide_false, beq_false, beq_true, Bool.not_true, Bool.not_false, Bool.false_eq_true, pickA, cond_true, cond_false, h3, h8, h9, h10, b_lss, dlt]
  by_cases h : i < e.length
  · obtain ⟨a, ha, hdrop⟩ := drop_at h
    have hmem : a ∈ e := List.mem_of_getElem? ha
    have hsm := hs a hmem
    have htake := addAll_take e i a ha
    have hkeys := (addAll_keys (e.take i)).1
    have hlo := lookT_bound _ a.1 _ (addAll_bound e hb i hi)
    have hae := hb a hmem
    refine .seq (.cond (t := true) (by simp [St.ev, Av.get, h]) (.skip ?_))
    simp only [thenQ]
    have hst : evStore Tryz.prog 53 (.ptr K.length 0) (encE a) (K ++ [.cells [.str [], .vsl 0 true []] false]) = some (K ++ [acell a]) := by
      rw [st53 a _ _ _ _ (by rw [List.getElem?_concat_length])]
      congr 1
      rw [List.set_append_right _ _ (Nat.le_refl _), Nat.sub_self]
      rfl
    refine .seq (.block (.seq (.region [] (by decide) ?_)))
    simp only [EOps, EDf, isRd, gdA, callOf, isPanic, nextOf, altA, evalOp, St.ev, Av.get, St.put, argT, ofV, thenQ, Nat.reduceEqDiff, ↓reduceIte, Bool.and_self, List.map_cons, List.map_nil, List.nil_append, List.append_nil, List.getElem?_cons_zero, List.getElem?_cons_succ, List.getElem?_toArray, Option.map_some, Option.bind_some, decide_true, decide_false, beq_false, beq_true, Bool.not_true, Bool.not_false, Bool.false_eq_true, pickA, cond_true, cond_false, h3, h8, h9, h10, ia22 _ _ _ _ ha, ld53, za53, cells_agg, hst]
    obtain ⟨M, hM⟩ : ∃ M, M = K ++ [acell a] := ⟨_, rfl⟩
    rw [← hM]
    have lM : M.length = K.length + 1 := by rw [hM]; simp
    have gM : ∀ d, d < K.length → M[d]? = K[d]? := fun d hd => by rw [hM, List.getElem?_append_left hd]
    have gMa : M[K.length]? = some (acell a) := by rw [hM, List.getElem?_concat_length]
    have l0 : evLoad Tryz.prog 9 (.ptr K.length 0) M = some (.str a.1) := ld9 _ _ _ _ _ _ gMa rfl
    have l1 : ∀ b : Nat, True → evLoad Tryz.prog 26 (.ptr K.length 1) M = some (.vsl 0 a.2.1 (a.2.2.map .str)) := fun _ _ => ld26 _ _ _ _ _ _ gMa rfl
    have hl : ∀ H o, lend H [.str a.1] o = some [.str a.1] := by intro H o; simp [lend, AV.hfs, AV.hf]
    have htM : tabG M H.length (addAll (e.take i)) := by
      obtain ⟨vs, g1, g2, g3, g4⟩ := htab
      refine ⟨vs, by rw [gM _ hlt]; exact g1, g2, fun j p hp => ?_, g4⟩
      obtain ⟨d, d1, d2⟩ := g3 j p hp
      exact ⟨d, d1, by rw [gM d (List.getElem?_eq_some_iff.1 d2).1]; exact d2⟩
    have p1 := small46 a.1
    rw [hsm] at p1
    refine .seq (.region [.pure (.ret (.str a.1))] (by decide) ?_)
    simp only [EOps, EDf, isRd, gdA, callOf, isPanic, nextOf, altA, evalOp, St.ev, Av.get, St.put, argT, ofV, thenQ, Nat.reduceEqDiff, ↓reduceIte, Bool.and_self, List.map_cons, List.map_nil, List.nil_append, List.append_nil, List.getElem?_cons_zero, List.getElem?_cons_succ, List.getElem?_toArray, Option.map_some, Option.bind_some, decide_true, decide_false, beq_false, beq_true, Bool.not_true, Bool.not_false, Bool.false_eq_true, pickA, cond_true, cond_false, h3, h8, h9, h10, fa53_0, l0, hl]
    refine ⟨p1, ?_⟩
    generalize addAll (e.take i) = t at *
    have hlv : ∀ d, d < H.length → ∀ v, evLookup Tryz.prog 86 (.map H.length) (.str a.1) false M = some v → ∀ k, v ≠ .sl d 0 k 0 := by
      intro d hd; omega
    obtain ⟨v, M1, M2, q1, q2, q3, q4, q5, q6, q7⟩ := tabG_add htM hkeys a.1 a.2.1 a.2.2 (hne a hmem) (by omega)
    refine .region [] (by decide) ?_
    simp only [EOps, EDf, isRd, gdA, callOf, isPanic, nextOf, altA, evalOp, St.ev, Av.get, St.put, argT, ofV, thenQ, Nat.reduceEqDiff, ↓reduceIte, Bool.and_self, List.map_cons, List.map_nil, List.nil_append, List.append_nil, List.getElem?_cons_zero, List.getElem?_cons_succ, List.getElem?_toArray, Option.map_some, Option.bind_some, decide_true, decide_false, beq_false, beq_true, Bool.not_true, Bool.not_false, Bool.false_eq_true, pickA, cond_true, cond_false, h3, h8, h9, h10, q1, fa53_1, l1 0 trivial, q2, q3, blockQ]
    have hadd : evBin Tryz.prog .add 3 (.int .i64 (i : Int)) (.int .i64 1) = some (.int .i64 ((i + 1 : Nat) : Int)) := by
      rw [b_add64 _ _ (by omega)]; simp
    refine .region [] (by decide) ?_
    simp only [EOps, EDf, isRd, gdA, callOf, isPanic, nextOf, altA, evalOp, St.ev, Av.get, St.put, argT, ofV, thenQ, Nat.reduceEqDiff, ↓reduceIte, Bool.and_self, List.map_cons, List.map_nil, List.nil_append, List.append_nil, List.getElem?_cons_zero, List.getElem?_cons_succ, List.getElem?_toArray, Option.map_some, Option.bind_some, decide_true, decide_false, beq_false, beq_true, Bool.not_true, Bool.not_false, Bool.false_eq_true, pickA, cond_true, cond_false, h3, h8, h9, h10, hadd]
    refine ⟨i + 1, ⟨trivial, trivial, trivial, rfl, h, ?_, ?_, ?_, trivial⟩, by omega⟩
    · rw [q4]; omega
    · intro k hk
      rw [q5 k (by omega) (hlv k hk v q1) (by omega), gM k (by omega)]
      exact hkeep k hk
    · rw [htake]; exact q6
  · have hi' : i = e.length := by omega
    subst hi'
    refine .seq (.cond (t := false) (by simp [St.ev, Av.get]) (.exit ?_))
    simp only [EOps, EDf, isRd, gdA, callOf, isPanic, nextOf, altA, evalOp, St.ev, Av.get, St.put, argT, ofV, thenQ, Nat.reduceEqDiff, ↓reduceIte, Bool.and_self, List.map_cons, List.map_nil, List.nil_append, List.append_nil, List.getElem?_cons_zero, List.getElem?_cons_succ, List.getElem?_toArray, Option.map_some, Option.bind_some, decide_true, decide_false, beq_false, beq_true, Bool.not_true, Bool.not_false, Bool.false_eq_true, pickA, cond_true, cond_false, blockQ]
    refine .seq (.region [] (by decide) ?_)
    simp only [EOps, EDf, isRd, gdA, callOf, isPanic, nextOf, altA, evalOp, St.ev, Av.get, St.put, argT, ofV, thenQ, Nat.reduceEqDiff, ↓reduceIte, Bool.and_self, List.map_cons, List.map_nil, List.nil_append, List.append_nil, List.getElem?_cons_zero, List.getElem?_cons_succ, List.getElem?_toArray, Option.map_some, Option.bind_some, decide_true, decide_false, beq_false, beq_true, Bool.not_true, Bool.not_false, Bool.false_eq_true, pickA, cond_true, cond_false, h3]
    rw [List.take_length] at htab
    exact .ret ⟨_, K, ⟨rfl, hlt, hkeep, htab⟩, _, rfl, rfl, _, rfl, rfl⟩
end Go.Proofs.YtmeijkidjifagaaGreat
namespace Go.Proofs.YtmeijkidjifagaaGreat
set_option linter.unusedVariables false
set_option linter.unusedSimpArgs false
open Go Go.Av

/-- A change of any kind: its kind, name, whether its slice has no room behind, its values. -/
abbrev Mk := Int × Bytes × Bool × List Bytes
def encK (m : Mk) : AV := .agg [.int .i64 m.1, .str m.2.1, .vsl 0 m.2.2.1 (m.2.2.2.map .str)]
def kcell (m : Mk) : List AV := [.int .i64 m.1, .str m.2.1, .vsl 0 m.2.2.1 (m.2.2.2.map .str)]
theorem encK_cells (m : Mk) : (encK m).cells = kcell m := rfl
theorem encK_hf (m : Mk) : AV.hf (encK m) = true := by simp [encK, AV.hf, AV.hfs, strs_hfs]
theorem encK_hfs (l : List Mk) : AV.hfs (l.map encK) = true := by
  rw [hfs_all, List.all_eq_true]; intro v hv; obtain ⟨r, _, rfl⟩ := List.mem_map.1 hv; exact encK_hf r
theorem encK_hlts (m : Nat) (l : List Mk) : AV.hlts m (l.map encK) = true := hfs_hlts (encK_hfs l)
theorem encK_agg (m : Mk) : ∃ cs, encK m = .agg cs ∧ cs.length = 3 := ⟨kcell m, rfl, rfl⟩
theorem encK_chf (m : Mk) : AV.hfs (encK m).cells = true := by show AV.hfs (kcell m) = true; simp [kcell, AV.hfs, AV.hf, strs_hfs]
theorem st68k (m : Mk) (H : List OB) (id : Nat) (u v w : AV) (h : H[id]? = some (.cells [u, v, w] false)) : evStore Tryz.prog 68 (.ptr id 0) (encK m) H = some (H.set id (.cells (kcell m) false)) := by
  simp [evStore, tz68, h, encK, kcell, AV.cells, AV.isC, setC]
theorem ld68k (m : Mk) (H : List OB) (id : Nat) (b : Bool) (h : H[id]? = some (.cells (kcell m) b)) : evLoad Tryz.prog 68 (.ptr id 0) H = some (encK m) := by
  simp [evLoad, tz68, tg68, ldA, h, kcell, encK]
theorem bs43k (m : Mk) : evBuildSlice Tryz.prog 43 1 [(0, encK m)] = some (.vsl 4 true [encK m]) := by
  simp [evBuildSlice, Tryz.underlying43, ap68, encK, AV.cells, AV.told, List.range']
theorem bd68k (n : Bytes) (v : Val) : evBuild Tryz.prog 68 [(0, .int .i64 3), (1, .str n), (2, encV v)] = some (encK (3, n, v.1, v.2)) := bd68 n v
theorem st66 (m : Mk) (H : List OB) (id : Nat) (k : Int) (h : H[id]? = some (.cells (kcell m) false)) : evStore Tryz.prog 66 (.ptr id 0) (.int .i64 k) H = some (H.set id (.cells (kcell (k, m.2)) false)) := by
  simp [evStore, tz66, h, AV.cells, AV.isC, setC, kcell]

theorem subH_nil (m : Nat) (H : List OB) : subH m H [] := by cases H <;> trivial
def diffA (a b : List Atr) (n : Bytes) : Option Mk :=
  if decide (getE a n = getE b n) = true then none else some (if (((getE b n).length : Int) == 0) = true then 2 else if (((getE a n).length : Int) == 0) = true then 1 else 3, n, false, getE b n)
def diffL (a b : List Atr) (ns : List Bytes) : List Mk := ns.filterMap (diffA a b)
theorem diffL_succ (a b : List Atr) (ns : List Bytes) (i : Nat) (n : Bytes) (h : ns[i]? = some n) : diffL a b (ns.take (i + 1)) = match diffA a b n with | none => diffL a b (ns.take i) | some m => diffL a b (ns.take i) ++ [m] := by
  unfold diffL
  rw [List.take_add_one, h, List.filterMap_append]
  cases h2 : diffA a b n <;> simp [h2]
theorem diffL_len (a b : List Atr) (ns : List Bytes) (i : Nat) : (diffL a b (ns.take i)).length ≤ ns.length := by
  have h1 := List.length_filterMap_le (diffA a b) (ns.take i)
  have h2 : (ns.take i).length ≤ ns.length := by simp; omega
  unfold diffL; omega
/-- All names of two entries, in order. -/
def bothN (a b : List Atr) : List Bytes := sortB ((addAll (a ++ b)).map (·.1))
theorem bothN_small {a b : List Atr} (ha : checkE a = true) (hb : checkE b = true) : ∀ n ∈ bothN a b, small n = n := by
  intro n hn
  have h1 := ((addAll_keys (a ++ b)).2 n).1 ((sortB_isPerm _).mem_iff.1 hn)
  rw [List.map_append, List.mem_append] at h1
  rcases h1 with h1 | h1
  · obtain ⟨x, hx, rfl⟩ := List.mem_map.1 h1; exact ((check_good ha).each x hx).1
  · obtain ⟨x, hx, rfl⟩ := List.mem_map.1 h1; exact ((check_good hb).each x hx).1
theorem bothN_len {a b : List Atr} : (bothN a b).length ≤ a.length + b.length := by
  have h := len_sub (l := bothN a b) (m := (a ++ b).map (·.1)) ((sortB_isPerm _).nodup_iff.2 (addAll_keys (a ++ b)).1) fun n hn => ((addAll_keys (a ++ b)).2 n).1 ((sortB_isPerm _).mem_iff.1 hn)
  simpa using h
theorem bothN_up (a b : List Atr) : Up (bothN a b) := sortB_rises (addAll_keys (a ++ b)).1

set_option maxRecDepth 100000 in
theorem diff38 (x y : Bool) (a b : List Atr) (hne : a ≠ []) (ha : checkE a = true) (hb : checkE b = true) :
    PureFn Tryz.prog 38 [.vsl 3 x (a.map encE), .vsl 3 y (b.map encE)] (.ret (.tup [.vsl 4 false ((diffL a b (bothN a b)).map encK), .int .i64 0])) := by
  have ga := check_good ha
  have gb := check_good hb
  have hla := ga.few
  have hlb := gb.few
  have p1 := check26 x a (by omega)
  have p2 := check26 y b (by omega)
  rw [ha] at p1
  rw [hb] at p2
  simp only [if_true] at p1 p2
  have hl1 : ∀ H o, lend H [.vsl 3 x (a.map encE)] o = some [.vsl 3 x (a.map encE)] := by intro H o; simp [lend, AV.hfs, AV.hf, encE_hfs]
  have hl2 : ∀ H o, lend H [.vsl 3 y (b.map encE)] o = some [.vsl 3 y (b.map encE)] := by intro H o; simp [lend, AV.hfs, AV.hf, encE_hfs]
  have e00 : ((0 : Int) != 0) = false := rfl
  refine PureFn.of Tryz.func38 rfl (enters_call enters Tryz.func38 rfl) (by simp [Tryz.ntmps38]) ?_
  show W Tryz.prog 63 _ none _ _ _
  refine .seq (.region [] (by decide) ?_)
  simp only [EOps, EDf, isRd, gdA, callOf, isPanic, nextOf, altA, evalOp, St.ev, Av.get, St.put, argT, ofV, thenQ, Nat.reduceEqDiff, ↓reduceIte, Bool.and_self, List.map_cons, List.map_nil, List.nil_append, List.append_nil, List.getElem?_cons_zero, List.getElem?_cons_succ, List.getElem?_toArray, Option.map_some, Option.bind_some, decide_true, decide_false, beq_false, beq_true, Bool.not_true, Bool.not_false, Bool.false_eq_true, pickA, cond_true, cond_false, and_self, if_true]
  refine .seq (.seq (.region [.pure (.ret (.int .i64 0)), .pure (.ret (.int .i64 0))] (by decide) ?_))
  simp only [EOps, EDf, isRd, gdA, callOf, isPanic, nextOf, altA, evalOp, St.ev, Av.get, St.put, argT, ofV, thenQ, Nat.reduceEqDiff, ↓reduceIte, Bool.and_self, List.map_cons, List.map_nil, List.nil_append, List.append_nil, List.getElem?_cons_zero, List.getElem?_cons_succ, List.getElem?_toArray, Option.map_some, Option.bind_some, decide_true, decide_false, beq_false, beq_true, Bool.not_true, Bool.not_false, Bool.false_eq_true, pickA, cond_true, cond_false, hl1, hl2, b_neq, e00]
  refine ⟨p1, p2, .cond (t := false) rfl (.skip ?_)⟩
  refine .seq (.region [] (by decide) ?_)
  simp only [EOps, EDf, isRd, gdA, callOf, isPanic, nextOf, altA, evalOp, St.ev, Av.get, St.put, argT, ofV, thenQ, Nat.reduceEqDiff, ↓reduceIte, Bool.and_self, List.map_cons, List.map_nil, List.nil_append, List.append_nil, List.getElem?_cons_zero, List.getElem?_cons_succ, List.getElem?_toArray, Option.map_some, Option.bind_some, decide_true, decide_false, beq_false, beq_true, Bool.not_true, Bool.not_false, Bool.false_eq_true, pickA, cond_true, cond_false, and_self, if_true]
  have hcat : evBuildSlice Tryz.prog 117 2 [(0, .vsl 3 x (a.map encE)), (1, .vsl 3 y (b.map encE))] = some (.vsl 0 true (two117 x y a b)) := bs117 _ _ rfl rfl rfl rfl
  have hl3 : ∀ H o, lend H [.vsl 0 true (two117 x y a b)] o = some [.vsl 0 true (two117 x y a b)] := by intro H o; simp [lend, AV.hfs, AV.hf, two117_hfs]
  have p3 := concat68 x y a b hne (by omega) (by omega)
  have hab : ∀ c ∈ a ++ b, goodV c.1 c.2.2 ∧ c.2.2 ≠ [] := by
    intro c hc
    rcases List.mem_append.1 hc with hc | hc
    · exact ⟨ga.each c hc, (check_ent ha).ne c hc⟩
    · exact ⟨gb.each c hc, (check_ent hb).ne c hc⟩
  have p4 := tabledG63 false (a ++ b) [] rfl (by rw [List.length_append]; omega) (fun c hc => by have := (hab c hc).1.2.2; omega) (fun c hc => (hab c hc).1.1) (fun c hc => (hab c hc).2)
  refine .seq (.region [.pure (.ret (.vsl 3 false ((a ++ b).map encE))), .any (fun out K => out = .ret (.map 0) ∧ tabG K 0 (addAll (a ++ b)))] (by decide) ?_)
  simp only [EOps, EDf, isRd, gdA, callOf, isPanic, nextOf, altA, evalOp, St.ev, Av.get, St.put, argT, ofV, thenQ, Nat.reduceEqDiff, ↓reduceIte, Bool.and_self, List.map_cons, List.map_nil, List.nil_append, List.append_nil, List.getElem?_cons_zero, List.getElem?_cons_succ, List.getElem?_toArray, Option.map_some, Option.bind_some, decide_true, decide_false, beq_false, beq_true, Bool.not_true, Bool.not_false, Bool.false_eq_true, pickA, cond_true, cond_false, hcat, hl3]
  refine ⟨p3, p4.mono ?_, ?_⟩
  · rintro out K ⟨h1, _, _, h2⟩; exact ⟨h1, h2⟩
  rintro out K ⟨rfl, hK⟩
  simp only [EOps, EDf, isRd, gdA, callOf, isPanic, nextOf, altA, evalOp, St.ev, Av.get, St.put, argT, ofV, thenQ, Nat.reduceEqDiff, ↓reduceIte, Bool.and_self, List.map_cons, List.map_nil, List.nil_append, List.append_nil, List.getElem?_cons_zero, List.getElem?_cons_succ, List.getElem?_toArray, Option.map_some, Option.bind_some, decide_true, decide_false, beq_false, beq_true, Bool.not_true, Bool.not_false, Bool.false_eq_true, pickA, cond_true, cond_false]
  have hkeep : keepS (List.range' 0 K.length) 0 K = K := by
    apply List.ext_getElem?
    intro i
    rw [keepS_get]
    by_cases hi : i < K.length
    · rw [if_pos hi, if_pos (by simp; omega)]
    · rw [if_neg hi, List.getElem?_eq_none (by omega)]
  obtain ⟨vs, hz, hvl, hvs⟩ := tab_fz (tabG_OK hK)
  obtain ⟨hkn, hkm⟩ := addAll_keys (a ++ b)
  have hns : ∀ n ∈ bothN a b, small n = n := bothN_small ha hb
  have hnl : (bothN a b).length ≤ a.length + b.length := bothN_len
  have hap : apartB (bothN a b) = true := apart_of (bothN_up a b)
  have hvh : AV.hfs vs = true := by
    rw [hfs_all, List.all_eq_true]
    intro v hv
    obtain ⟨j, hj⟩ := List.mem_iff_getElem?.1 hv
    have hjl : j < (addAll (a ++ b)).length := by rw [← hvl]; exact (List.getElem?_eq_some_iff.1 hj).1
    obtain ⟨z, g⟩ := hvs j _ (List.getElem?_eq_getElem hjl)
    rw [hj] at g; cases g
    simp [AV.hf, strs_hfs]
  have hkl : ((addAll (a ++ b)).map (·.1)).length ≤ 1000000 := by
    have h := len_sub (l := (addAll (a ++ b)).map (·.1)) (m := (a ++ b).map (·.1)) hkn fun n hn => (hkm n).1 hn
    simp only [List.length_map, List.length_append] at h ⊢
    omega
  obtain ⟨ks, hks⟩ : ∃ ks, ks = (addAll (a ++ b)).map (·.1) := ⟨_, rfl⟩
  have hfold : sortB ks = bothN a b := by rw [hks]; rfl
  have hvl' : vs.length = ks.length := by rw [hvl, hks]; simp
  rw [← hks] at hz hkn hkm hkl
  have hkne : ks ≠ [] := by
    intro h0
    cases a with
    | nil => exact hne rfl
    | cons u a' =>
      have := (hkm u.1).2 (by simp)
      rw [h0] at this; simp at this
  have p5 := keys70p (ks.map .str) vs (strs_hfs _) hvh
  have p6 := ordered69k ks vs hvl' hkl hkne hvh (by rw [hfold]; exact hap)
  have hl5 : ∀ H o, lend H [.vmap (ks.map .str) vs] o = some [.vmap (ks.map .str) vs] := by intro H o; simp [lend, AV.hfs, AV.hf, strs_hfs, hvh]
  have hl6 : ∀ H o, lend H [.func (.func 96) [] [.vptr [.vmap (ks.map .str) vs]]] o = some [.func (.func 96) [] [.vptr [.vmap (ks.map .str) vs]]] := by intro H o; simp [lend, AV.hfs, AV.hf, strs_hfs, hvh]
  rw [hfold] at p6
  refine W.froze (List.range' 0 K.length) [(0, .vsl 3 x (a.map encE)), (1, .vsl 3 y (b.map encE)), (6, .vsl 0 true []), (7, .vmap (ks.map .str) vs)] ?_ ?_
  · simp only [frzT, Av.get, Nat.reduceEqDiff, ↓reduceIte, true_or, and_true, true_and, hkeep]
    exact .inr ⟨_, hz, .refl _⟩
  refine W.weaken ⟨[(0, .vsl 3 x (a.map encE)), (1, .vsl 3 y (b.map encE)), (6, .vsl 0 true []), (7, .vmap (ks.map .str) vs)], [], []⟩ ⟨rfl, rfl⟩ (Nat.zero_le _) ?_ ?_ (subH_nil _ _) ?_
  · simp only [subT, Av.get, Nat.reduceEqDiff, ↓reduceIte, Le_rfl, nat0, nat1, and_self]
  · simp only [hltT, AV.hlt, AV.hlts, encE_hlts, strs_hlts, hfs_hlts hvh, Bool.and_self, Bool.true_and, Bool.and_true]
  clear hz hK hkeep hvs p3 p4 hcat hl3 hab hkn hkm hkne hkl hvl hvl' hks
  generalize bothN a b = ns at *
  have hbe1 : ∀ c ∈ a, c.2.2.length ≤ 1000000 := fun c hc => by have := (ga.each c hc).2.2; omega
  have hbe2 : ∀ c ∈ b, c.2.2.length ≤ 1000000 := fun c hc => by have := (gb.each c hc).2.2; omega
  refine .seq (.seq (.region [.pure (.ret (.func (.func 96) [] [.vptr [.vmap (ks.map .str) vs]])), .pure (.ret (.vsl 0 false (ns.map .str)))] (by decide) ?_))
  simp only [EOps, EDf, isRd, gdA, callOf, isPanic, nextOf, altA, evalOp, St.ev, Av.get, St.put, argT, ofV, thenQ, Nat.reduceEqDiff, ↓reduceIte, Bool.and_self, List.map_cons, List.map_nil, List.nil_append, List.append_nil, List.getElem?_cons_zero, List.getElem?_cons_succ, List.getElem?_toArray, Option.map_some, Option.bind_some, decide_true, decide_false, beq_false, beq_true, Bool.not_true, Bool.not_false, Bool.false_eq_true, pickA, cond_true, cond_false, hl5, hl6, ln26]
  refine ⟨p5, p6, ?_⟩
  refine .block ?_
  refine .loop (X := Nat) (fun i s => Av.get s.T 0 = .vsl 3 x (a.map encE) ∧ Av.get s.T 1 = .vsl 3 y (b.map encE) ∧ Av.get s.T 28 = .vsl 0 false (ns.map .str) ∧ Av.get s.T 29 = .int .i64 ns.length ∧ Av.get s.T 30 = .int .i64 (i : Int) ∧ i ≤ ns.length ∧ slIn 4 encK s.H (Av.get s.T 6) (diffL a b (ns.take i)) ∧ s.D = []) (fun i => ns.length - i) 0
    ⟨rfl, rfl, rfl, rfl, rfl, Nat.zero_le _, .inl ⟨rfl, 0, rfl⟩, rfl⟩ ?_
  rintro i ⟨T, M, D⟩ ⟨h0, h1, h28, h29, h30, hi, hs, rfl⟩
  simp only at h0 h1 h28 h29 h30 hs
  generalize hv6 : Av.get T 6 = v6 at hs
  refine .seq (.region [] (by decide) ?_)
  simp only [EOps, EDf, isRd, gdA, callOf, isPanic, nextOf, altA, evalOp, St.ev, Av.get, St.put, argT, ofV, thenQ, Nat.reduceEqDiff, ↓reduceIte, Bool.and_self, List.map_cons, List.map_nil, List.nil_append, List.append_nil, List.getElem?_cons_zero, List.getElem?_cons_succ, List.getElem?_toArray, Option.map_some, Option.bind_some, decide_true, decide_false, beq_false, beq_true, Bool.not_true, Bool.not_false, Bool.false_eq_true, pickA, cond_true, cond_false, h0, h1, h28, h29, h30, b_lss, dlt]
  by_cases h : i < ns.length
  · obtain ⟨n, hn, hdrop⟩ := drop_at h
    have hsm := hns n (List.mem_of_getElem? hn)
    have hdl := diffL_len a b ns i
    have hsucc := diffL_succ a b ns i n hn
    refine .seq (.cond (t := true) (by simp [St.ev, Av.get, h]) (.skip ?_))
    simp only [thenQ]
    refine .seq (.block (.seq (.region [] (by decide) ?_)))
    simp only [EOps, EDf, isRd, gdA, callOf, isPanic, nextOf, altA, evalOp, St.ev, Av.get, St.put, argT, ofV, thenQ, Nat.reduceEqDiff, ↓reduceIte, Bool.and_self, List.map_cons, List.map_nil, List.nil_append, List.append_nil, List.getElem?_cons_zero, List.getElem?_cons_succ, List.getElem?_toArray, Option.map_some, Option.bind_some, decide_true, decide_false, beq_false, beq_true, Bool.not_true, Bool.not_false, Bool.false_eq_true, pickA, cond_true, cond_false, h0, h1, h28, h29, h30, hv6, ia26 _ _ _ _ hn, ld9v]
    have q1 := get27 x a n hbe1
    have q2 := get27 y b n hbe2
    rw [hsm] at q1 q2
    have hdA : diffA a b n = if decide (getE a n = getE b n) = true then none else some (if (((getE b n).length : Int) == 0) = true then 2 else if (((getE a n).length : Int) == 0) = true then 1 else 3, n, false, getE b n) := rfl
    generalize getE a n = g at q1 hdA
    generalize getE b n = g' at q2 hdA
    rw [hdA] at hsucc
    have hl7 : ∀ H o, lend H [.vsl 3 x (a.map encE), .str n] o = some [.vsl 3 x (a.map encE), .str n] := by intro H o; simp [lend, AV.hfs, AV.hf, encE_hfs]
    have hl8 : ∀ H o, lend H [.vsl 3 y (b.map encE), .str n] o = some [.vsl 3 y (b.map encE), .str n] := by intro H o; simp [lend, AV.hfs, AV.hf, encE_hfs]
    refine .seq (.region [.pure (.ret (encV (false, g))), .pure (.ret (encV (false, g')))] (by decide) ?_)
    simp only [EOps, EDf, isRd, gdA, callOf, isPanic, nextOf, altA, evalOp, St.ev, Av.get, St.put, argT, ofV, thenQ, Nat.reduceEqDiff, ↓reduceIte, Bool.and_self, List.map_cons, List.map_nil, List.nil_append, List.append_nil, List.getElem?_cons_zero, List.getElem?_cons_succ, List.getElem?_toArray, Option.map_some, Option.bind_some, decide_true, decide_false, beq_false, beq_true, Bool.not_true, Bool.not_false, Bool.false_eq_true, pickA, cond_true, cond_false, h0, h1, h28, h29, h30, hv6, hl7, hl8]
    refine ⟨q1, q2, ?_⟩
    have hst : evStore Tryz.prog 68 (.ptr M.length 0) (encK (3, n, false, g')) (M ++ [.cells [.int .i64 0, .str [], .vsl 0 true []] false]) = some (M ++ [.cells (kcell (3, n, false, g')) false]) := by
      rw [st68k _ _ _ _ _ _ (by rw [List.getElem?_concat_length])]
      congr 1
      rw [List.set_append_right _ _ (Nat.le_refl _), Nat.sub_self]
      rfl
    refine .seq (.region [] (by decide) ?_)
    simp only [EOps, EDf, isRd, gdA, callOf, isPanic, nextOf, altA, evalOp, St.ev, Av.get, St.put, argT, ofV, thenQ, Nat.reduceEqDiff, ↓reduceIte, Bool.and_self, List.map_cons, List.map_nil, List.nil_append, List.append_nil, List.getElem?_cons_zero, List.getElem?_cons_succ, List.getElem?_toArray, Option.map_some, Option.bind_some, decide_true, decide_false, beq_false, beq_true, Bool.not_true, Bool.not_false, Bool.false_eq_true, pickA, cond_true, cond_false, h0, h1, h28, h29, h30, hv6, bd68k n (false, g'), za68, cells_agg', hst]
    have q3 := equal28 false false g g'
    have hl9 : ∀ H o, lend H [encV (false, g), encV (false, g')] o = some [encV (false, g), encV (false, g')] := by intro H o; simp [lend, AV.hfs, AV.hf, encV, strs_hfs]
    have hln : ∀ (l : List Bytes) H, evLen Tryz.prog 26 (encV (false, l)) H = some (.int .i64 l.length) := fun l H => ln26 _ _ _
    generalize decide (g = g') = b1 at q3 hsucc
    generalize h2 : (((g'.length) : Int) == 0) = b2 at hsucc
    generalize h3 : (((g.length) : Int) == 0) = b3 at hsucc
    have hset : ∀ k, evStore Tryz.prog 66 (.ptr M.length 0) (.int .i64 k) (M ++ [.cells (kcell (3, n, false, g')) false]) = some (M ++ [.cells (kcell (k, n, false, g')) false]) := by
      intro k
      rw [st66 _ _ _ _ (by rw [List.getElem?_concat_length])]
      congr 1
      rw [List.set_append_right _ _ (Nat.le_refl _), Nat.sub_self]
      rfl
    have hadd : evBin Tryz.prog .add 3 (.int .i64 (i : Int)) (.int .i64 1) = some (.int .i64 ((i + 1 : Nat) : Int)) := by
      rw [b_add64 _ _ (by omega)]; simp
    obtain ⟨kd, hkd⟩ : ∃ kd : Int, kd = if b2 = true then 2 else if b3 = true then 1 else 3 := ⟨_, rfl⟩
    rw [← hkd] at hsucc
    refine .seqP (b1 = false) [(0, .vsl 3 x (a.map encE)), (1, .vsl 3 y (b.map encE)), (28, .vsl 0 false (ns.map .str)), (29, .int .i64 ns.length), (30, .int .i64 (i : Int)), (6, v6), (12, .ptr M.length 0)] (M ++ [.cells (kcell (kd, n, false, g')) false]) ?_ ?_
    · refine .block ?_
      refine .seq (.region [.pure (.ret (.bool b1))] (by decide) ?_)
      simp only [EOps, EDf, isRd, gdA, callOf, isPanic, nextOf, altA, evalOp, St.ev, Av.get, St.put, argT, ofV, thenQ, Nat.reduceEqDiff, ↓reduceIte, Bool.and_self, List.map_cons, List.map_nil, List.nil_append, List.append_nil, List.getElem?_cons_zero, List.getElem?_cons_succ, List.getElem?_toArray, Option.map_some, Option.bind_some, decide_true, decide_false, beq_false, beq_true, Bool.not_true, Bool.not_false, Bool.false_eq_true, pickA, cond_true, cond_false, h0, h1, h28, h29, h30, hv6, hl9]
      refine ⟨q3, ?_⟩
      cases b1 with
      | true =>
        refine .cond (t := true) rfl (.exit ?_)
        simp only [EOps, EDf, isRd, gdA, callOf, isPanic, nextOf, altA, evalOp, St.ev, Av.get, St.put, argT, ofV, thenQ, Nat.reduceEqDiff, ↓reduceIte, Bool.and_self, List.map_cons, List.map_nil, List.nil_append, List.append_nil, List.getElem?_cons_zero, List.getElem?_cons_succ, List.getElem?_toArray, Option.map_some, Option.bind_some, decide_true, decide_false, beq_false, beq_true, Bool.not_true, Bool.not_false, Bool.false_eq_true, pickA, cond_true, cond_false, blockQ]
        simp only [if_true] at hsucc
        refine .region [] (by decide) ?_
        simp only [EOps, EDf, isRd, gdA, callOf, isPanic, nextOf, altA, evalOp, St.ev, Av.get, St.put, argT, ofV, thenQ, Nat.reduceEqDiff, ↓reduceIte, Bool.and_self, List.map_cons, List.map_nil, List.nil_append, List.append_nil, List.getElem?_cons_zero, List.getElem?_cons_succ, List.getElem?_toArray, Option.map_some, Option.bind_some, decide_true, decide_false, beq_false, beq_true, Bool.not_true, Bool.not_false, Bool.false_eq_true, pickA, cond_true, cond_false, h0, h1, h28, h29, h30, hv6, hadd]
        refine ⟨i + 1, ⟨trivial, trivial, trivial, trivial, rfl, h, ?_, trivial⟩, by omega⟩
        rw [hsucc]
        exact slIn_keep hs fun d hd _ => List.getElem?_append_left hd
      | false =>
        refine .cond (t := false) rfl (.seq (.region [] (by decide) ?_))
        cases b2 with
        | true =>
          subst hkd
          simp only [EOps, EDf, isRd, gdA, callOf, isPanic, nextOf, altA, evalOp, St.ev, Av.get, St.put, argT, ofV, thenQ, Nat.reduceEqDiff, ↓reduceIte, Bool.and_self, List.map_cons, List.map_nil, List.nil_append, List.append_nil, List.getElem?_cons_zero, List.getElem?_cons_succ, List.getElem?_toArray, Option.map_some, Option.bind_some, decide_true, decide_false, beq_false, beq_true, Bool.not_true, Bool.not_false, Bool.false_eq_true, pickA, cond_true, cond_false, h0, h1, h28, h29, h30, hv6, hln, b_eql, h2]
          refine .cond (t := true) rfl (.region [] (by decide) ?_)
          simp only [EOps, EDf, isRd, gdA, callOf, isPanic, nextOf, altA, evalOp, St.ev, Av.get, St.put, argT, ofV, thenQ, Nat.reduceEqDiff, ↓reduceIte, Bool.and_self, List.map_cons, List.map_nil, List.nil_append, List.append_nil, List.getElem?_cons_zero, List.getElem?_cons_succ, List.getElem?_toArray, Option.map_some, Option.bind_some, decide_true, decide_false, beq_false, beq_true, Bool.not_true, Bool.not_false, Bool.false_eq_true, pickA, cond_true, cond_false, fa68_0, hset, blockQ]
          refine ⟨by trivial, ?_, by trivial, by trivial⟩
          simp [holdsT, Av.get, h0, h1, h28, h29, h30, hv6]
        | false =>
          simp only [EOps, EDf, isRd, gdA, callOf, isPanic, nextOf, altA, evalOp, St.ev, Av.get, St.put, argT, ofV, thenQ, Nat.reduceEqDiff, ↓reduceIte, Bool.and_self, List.map_cons, List.map_nil, List.nil_append, List.append_nil, List.getElem?_cons_zero, List.getElem?_cons_succ, List.getElem?_toArray, Option.map_some, Option.bind_some, decide_true, decide_false, beq_false, beq_true, Bool.not_true, Bool.not_false, Bool.false_eq_true, pickA, cond_true, cond_false, h0, h1, h28, h29, h30, hv6, hln, b_eql, h2]
          refine .cond (t := false) rfl (.seq (.region [] (by decide) ?_))
          cases b3 with
          | true =>
            subst hkd
            simp only [EOps, EDf, isRd, gdA, callOf, isPanic, nextOf, altA, evalOp, St.ev, Av.get, St.put, argT, ofV, thenQ, Nat.reduceEqDiff, ↓reduceIte, Bool.and_self, List.map_cons, List.map_nil, List.nil_append, List.append_nil, List.getElem?_cons_zero, List.getElem?_cons_succ, List.getElem?_toArray, Option.map_some, Option.bind_some, decide_true, decide_false, beq_false, beq_true, Bool.not_true, Bool.not_false, Bool.false_eq_true, pickA, cond_true, cond_false, h0, h1, h28, h29, h30, hv6, hln, b_eql, h3]
            refine .cond (t := true) rfl (.region [] (by decide) ?_)
            simp only [EOps, EDf, isRd, gdA, callOf, isPanic, nextOf, altA, evalOp, St.ev, Av.get, St.put, argT, ofV, thenQ, Nat.reduceEqDiff, ↓reduceIte, Bool.and_self, List.map_cons, List.map_nil, List.nil_append, List.append_nil, List.getElem?_cons_zero, List.getElem?_cons_succ, List.getElem?_toArray, Option.map_some, Option.bind_some, decide_true, decide_false, beq_false, beq_true, Bool.not_true, Bool.not_false, Bool.false_eq_true, pickA, cond_true, cond_false, fa68_0, hset, blockQ]
            refine ⟨by trivial, ?_, by trivial, by trivial⟩
            simp [holdsT, Av.get, h0, h1, h28, h29, h30, hv6]
          | false =>
            subst hkd
            simp only [EOps, EDf, isRd, gdA, callOf, isPanic, nextOf, altA, evalOp, St.ev, Av.get, St.put, argT, ofV, thenQ, Nat.reduceEqDiff, ↓reduceIte, Bool.and_self, List.map_cons, List.map_nil, List.nil_append, List.append_nil, List.getElem?_cons_zero, List.getElem?_cons_succ, List.getElem?_toArray, Option.map_some, Option.bind_some, decide_true, decide_false, beq_false, beq_true, Bool.not_true, Bool.not_false, Bool.false_eq_true, pickA, cond_true, cond_false, h0, h1, h28, h29, h30, hv6, hln, b_eql, h3]
            refine .cond (t := false) rfl (.skip ?_)
            simp only [blockQ, thenQ]
            refine ⟨by trivial, ?_, by trivial, by trivial⟩
            simp [holdsT, Av.get, h0, h1, h28, h29, h30, hv6]
    · rintro rfl
      simp only [Bool.false_eq_true, if_false] at hsucc
      have hs' := slIn_keep (M' := M ++ [.cells (kcell (kd, n, false, g')) false]) hs fun d hd _ => List.getElem?_append_left hd
      obtain ⟨M', hap, hl', hnew, hold⟩ := slIn_app (P := Tryz.prog) (sT := 43) (wd := 4) (bytes := 48) Tryz.underlying43 ap68 encK (fun _ => rfl) (fun _ => rfl) (by decide) hs' (kd, n, false, g') true (by omega)
      have hx : evLoad Tryz.prog 68 (.ptr M.length 0) (M ++ [.cells (kcell (kd, n, false, g')) false]) = some (encK (kd, n, false, g')) := ld68k _ _ _ false (by rw [List.getElem?_concat_length])
      refine .region [] (by decide) ?_
      simp only [EOps, EDf, isRd, gdA, callOf, isPanic, nextOf, altA, evalOp, St.ev, Av.get, St.put, argT, ofV, thenQ, Nat.reduceEqDiff, ↓reduceIte, Bool.and_self, List.map_cons, List.map_nil, List.nil_append, List.append_nil, List.getElem?_cons_zero, List.getElem?_cons_succ, List.getElem?_toArray, Option.map_some, Option.bind_some, decide_true, decide_false, beq_false, beq_true, Bool.not_true, Bool.not_false, Bool.false_eq_true, pickA, cond_true, cond_false, hx, bs43k, hap, blockQ]
      refine .region [] (by decide) ?_
      simp only [EOps, EDf, isRd, gdA, callOf, isPanic, nextOf, altA, evalOp, St.ev, Av.get, St.put, argT, ofV, thenQ, Nat.reduceEqDiff, ↓reduceIte, Bool.and_self, List.map_cons, List.map_nil, List.nil_append, List.append_nil, List.getElem?_cons_zero, List.getElem?_cons_succ, List.getElem?_toArray, Option.map_some, Option.bind_some, decide_true, decide_false, beq_false, beq_true, Bool.not_true, Bool.not_false, Bool.false_eq_true, pickA, cond_true, cond_false, hadd]
      refine ⟨i + 1, ⟨trivial, trivial, trivial, trivial, rfl, h, ?_, trivial⟩, by omega⟩
      rw [hsucc]
      exact .inr ⟨_, by simp, hnew⟩
  · have hi' : i = ns.length := by omega
    subst hi'
    rw [List.take_length] at hs
    refine .seq (.cond (t := false) (by simp [St.ev, Av.get]) (.exit ?_))
    simp only [EOps, EDf, isRd, gdA, callOf, isPanic, nextOf, altA, evalOp, St.ev, Av.get, St.put, argT, ofV, thenQ, Nat.reduceEqDiff, ↓reduceIte, Bool.and_self, List.map_cons, List.map_nil, List.nil_append, List.append_nil, List.getElem?_cons_zero, List.getElem?_cons_succ, List.getElem?_toArray, Option.map_some, Option.bind_some, decide_true, decide_false, beq_false, beq_true, Bool.not_true, Bool.not_false, Bool.false_eq_true, pickA, cond_true, cond_false, blockQ]
    refine .seq (.region [] (by decide) ?_)
    simp only [EOps, EDf, isRd, gdA, callOf, isPanic, nextOf, altA, evalOp, St.ev, Av.get, St.put, argT, ofV, thenQ, Nat.reduceEqDiff, ↓reduceIte, Bool.and_self, List.map_cons, List.map_nil, List.nil_append, List.append_nil, List.getElem?_cons_zero, List.getElem?_cons_succ, List.getElem?_toArray, Option.map_some, Option.bind_some, decide_true, decide_false, beq_false, beq_true, Bool.not_true, Bool.not_false, Bool.false_eq_true, pickA, cond_true, cond_false, hv6]
    obtain ⟨u, hz, hle⟩ := slIn_fz (n := 3) (k := 18) (by decide) encK_agg encK_chf hs
    exact .ret (retF2 4 5 rfl rfl rfl rfl hz rfl hle)
end Go.Proofs.YtmeijkidjifagaaGreat
