/- Contracts of functions that the statements of this seat reach: under the conditions named at each theorem. -/
import Derived.Test.YtmeijkidjifagaaGreatSrP2
import Derived.Test.YtmeijkidjifagaaGreatSvP5
namespace Go.Proofs.YtmeijkidjifagaaGreat
set_option linter.unusedVariables false
set_option linter.unusedSimpArgs false
open Go Go.Av

theorem nk26 : nilKind Tryz.prog 26 = 1 := by kernel_rfl
theorem ap9 : apT Tryz.prog 9 = some (1, 0, 16) := by kernel_rfl
theorem bs26 : evBuildSlice Tryz.prog 26 0 [] = some (.vsl 0 true []) := by kernel_rfl
theorem ap26_0 (x : Bool) (H : List OB) : evAppend Tryz.prog 26 26 (.vsl 0 true []) (.vsl 0 x []) H = some (.vsl 0 true [], H) := by
  simp [evAppend, Tryz.underlying26, ap9, newsA, esz]
theorem ap26_n (x : Bool) (l : List Bytes) (H : List OB) (h0 : l ≠ []) (hb : l.length ≤ 1000000) :
    evAppend Tryz.prog 26 26 (.vsl 0 true []) (.vsl 0 x (l.map .str)) H = some (.sl H.length 0 l.length 0, H ++ [.cells (l.map .str) true]) := by
  have hl : l.length * 16 ≤ 2 ^ 47 := by omega
  simp only [evAppend, Tryz.underlying26, ap9, newsA, esz, if_true, List.length_map, cells_strs]
  rw [if_neg (by simpa using h0)]
  simp [hl]

theorem fz_strs (l : List Bytes) (H : List OB) (id : Nat) (opn : Bool) (h : H[id]? = some (.cells (l.map .str) opn)) : fz H 20 (.sl id 0 l.length 0) = some (.vsl 0 false (l.map .str)) := by
  have ht : ((l.map AV.str).drop 0).take l.length = l.map AV.str := by rw [List.drop_zero, List.take_of_length_le (by simp)]
  rw [fz_sl0 h (by simp) (by rw [ht]; exact strs_hfs l) (by rw [ht]; exact strs_one l), ht]

theorem clone50 (x : Bool) (l : List Bytes) (hb : l.length ≤ 1000000) : PureFn Tryz.prog 50 [.vsl 0 x (l.map .str)] (.ret (.vsl 0 false (l.map .str))) := by
  refine PureFn.of Tryz.func50 rfl (enters_call enters Tryz.func50 rfl) (by simp [Tryz.ntmps50]) ?_
  show W Tryz.prog 8 0 none _ _ _
  refine .seq (.region [] (by decide) ?_)
  simp only [EOps, EDf, isRd, gdA, callOf, isPanic, nextOf, altA, evalOp, St.ev, Av.get, St.put, argT, ofV, thenQ, Nat.reduceEqDiff, ↓reduceIte, lend, AV.hfs, AV.hf, Bool.and_self, List.map_cons, List.map_nil, List.nil_append, List.append_nil, List.getElem?_cons_zero, List.getElem?_cons_succ, List.getElem?_toArray, Option.map_some, Option.bind_some, decide_true, decide_false, beq_false, beq_true, Bool.not_true, Bool.not_false, Bool.false_eq_true, pickA, cond_true, cond_false]
  refine .seq (.seq (.region [] (by decide) ?_))
  cases l with
  | nil =>
    simp only [EOps, EDf, isRd, gdA, callOf, isPanic, nextOf, altA, evalOp, St.ev, Av.get, St.put, argT, ofV, thenQ, Nat.reduceEqDiff, ↓reduceIte, lend, AV.hfs, AV.hf, Bool.and_self, List.map_cons, List.map_nil, List.nil_append, List.append_nil, List.getElem?_cons_zero, List.getElem?_cons_succ, List.getElem?_toArray, Option.map_some, Option.bind_some, decide_true, decide_false, beq_false, beq_true, Bool.not_true, Bool.not_false, Bool.false_eq_true, pickA, cond_true, cond_false, nk26]
    intro b
    refine .cond (t := b) rfl ?_
    cases b with
    | true =>
      refine .seq (.region [] (by decide) ?_)
      simp only [EOps, EDf, isRd, gdA, callOf, isPanic, nextOf, altA, evalOp, St.ev, Av.get, St.put, argT, ofV, thenQ, Nat.reduceEqDiff, ↓reduceIte, lend, AV.hfs, AV.hf, Bool.and_self, List.map_cons, List.map_nil, List.nil_append, List.append_nil, List.getElem?_cons_zero, List.getElem?_cons_succ, List.getElem?_toArray, Option.map_some, Option.bind_some, decide_true, decide_false, beq_false, beq_true, Bool.not_true, Bool.not_false, Bool.false_eq_true, pickA, cond_true, cond_false]
      exact .ret ⟨_, rfl, _, rfl, .nil _ _ _⟩
    | false =>
      refine .skip ?_
      simp only [EOps, EDf, isRd, gdA, callOf, isPanic, nextOf, altA, evalOp, St.ev, Av.get, St.put, argT, ofV, thenQ, Nat.reduceEqDiff, ↓reduceIte, lend, AV.hfs, AV.hf, Bool.and_self, List.map_cons, List.map_nil, List.nil_append, List.append_nil, List.getElem?_cons_zero, List.getElem?_cons_succ, List.getElem?_toArray, Option.map_some, Option.bind_some, decide_true, decide_false, beq_false, beq_true, Bool.not_true, Bool.not_false, Bool.false_eq_true, pickA, cond_true, cond_false]
      refine .seq (.region [] (by decide) ?_)
      simp only [EOps, EDf, isRd, gdA, callOf, isPanic, nextOf, altA, evalOp, St.ev, Av.get, St.put, argT, ofV, thenQ, Nat.reduceEqDiff, ↓reduceIte, lend, AV.hfs, AV.hf, Bool.and_self, List.map_cons, List.map_nil, List.nil_append, List.append_nil, List.getElem?_cons_zero, List.getElem?_cons_succ, List.getElem?_toArray, Option.map_some, Option.bind_some, decide_true, decide_false, beq_false, beq_true, Bool.not_true, Bool.not_false, Bool.false_eq_true, pickA, cond_true, cond_false, bs26, ap26_0]
      exact .ret ⟨_, rfl, _, rfl, .nil _ _ _⟩
  | cons u l =>
    have ha := ap26_n x (u :: l) [] (by simp) hb
    simp only [List.map_cons, List.length_nil, List.nil_append] at ha
    have e1 : ∀ t, evBin Tryz.prog .eql t (.vsl 0 x (.str u :: l.map .str)) (.vsl 0 true []) = none := by intro t; rfl
    simp only [EOps, EDf, isRd, gdA, callOf, isPanic, nextOf, altA, evalOp, St.ev, Av.get, St.put, argT, ofV, thenQ, Nat.reduceEqDiff, ↓reduceIte, lend, AV.hfs, AV.hf, Bool.and_self, List.map_cons, List.map_nil, List.nil_append, List.append_nil, List.getElem?_cons_zero, List.getElem?_cons_succ, List.getElem?_toArray, Option.map_some, Option.bind_some, decide_true, decide_false, beq_false, beq_true, Bool.not_true, Bool.not_false, Bool.false_eq_true, pickA, cond_true, cond_false, nk26, e1, evNilEq, evNilC]
    refine .cond (t := false) rfl (.skip ?_)
    simp only [EOps, EDf, isRd, gdA, callOf, isPanic, nextOf, altA, evalOp, St.ev, Av.get, St.put, argT, ofV, thenQ, Nat.reduceEqDiff, ↓reduceIte, lend, AV.hfs, AV.hf, Bool.and_self, List.map_cons, List.map_nil, List.nil_append, List.append_nil, List.getElem?_cons_zero, List.getElem?_cons_succ, List.getElem?_toArray, Option.map_some, Option.bind_some, decide_true, decide_false, beq_false, beq_true, Bool.not_true, Bool.not_false, Bool.false_eq_true, pickA, cond_true, cond_false]
    refine .seq (.region [] (by decide) ?_)
    simp only [EOps, EDf, isRd, gdA, callOf, isPanic, nextOf, altA, evalOp, St.ev, Av.get, St.put, argT, ofV, thenQ, Nat.reduceEqDiff, ↓reduceIte, lend, AV.hfs, AV.hf, Bool.and_self, List.map_cons, List.map_nil, List.nil_append, List.append_nil, List.getElem?_cons_zero, List.getElem?_cons_succ, List.getElem?_toArray, Option.map_some, Option.bind_some, decide_true, decide_false, beq_false, beq_true, Bool.not_true, Bool.not_false, Bool.false_eq_true, pickA, cond_true, cond_false, bs26, ha]
    refine .ret ⟨_, rfl, _, ?_, .refl _⟩
    have := fz_strs (u :: l) [OB.cells (.str u :: l.map .str) true] 0 true rfl
    exact this
end Go.Proofs.YtmeijkidjifagaaGreat
namespace Go.Proofs.YtmeijkidjifagaaGreat
set_option linter.unusedVariables false
set_option linter.unusedSimpArgs false
open Go Go.Av

/-- An attribute: its name, whether its slice has no room behind, its values. -/
abbrev Atr := Bytes × Bool × List Bytes
def encE (a : Atr) : AV := .agg [.str a.1, .vsl 0 a.2.1 (a.2.2.map .str)]
def getE (e : List Atr) (n : Bytes) : List Bytes := match e.find? (fun a => a.1 == n) with
  | some a => a.2.2
  | none => []

theorem getE_cons (a : Atr) (e : List Atr) (n : Bytes) : getE (a :: e) n = if (a.1 == n) = true then a.2.2 else getE e n := by
  unfold getE
  rw [List.find?_cons]
  cases a.1 == n <;> rfl
theorem cells_agg (l : List AV) : AV.cells (.agg l) = l := rfl
theorem encE_hfs (e : List Atr) : AV.hfs (e.map encE) = true := by
  rw [hfs_all, List.all_eq_true]; intro v hv; obtain ⟨r, _, rfl⟩ := List.mem_map.1 hv; simp [encE, AV.hf, AV.hfs, strs_hfs]
theorem encE_hlts (m : Nat) (e : List Atr) : AV.hlts m (e.map encE) = true := hfs_hlts (encE_hfs e)
theorem encE_shp (a : Atr) : shp 3 (encE a) := ⟨_, rfl, rfl⟩

theorem tz53 : tsz Tryz.prog 53 = some (esz 3) := by kernel_rfl
theorem tg53 : tag Tryz.prog 53 = some (decide (3 ≠ 0)) := by kernel_rfl
theorem tz26 : tsz Tryz.prog 26 = some 1 := by kernel_rfl
theorem tg26 : tag Tryz.prog 26 = some false := by kernel_rfl
theorem za53 : zeroA Tryz.prog 53 = some (.agg [.str [], .vsl 0 true []]) := by kernel_rfl
theorem ln23 (x : Bool) (e : List Atr) (H : List OB) : evLen Tryz.prog 23 (.vsl 3 x (e.map encE)) H = some (.int .i64 e.length) := by simp [evLen, Tryz.underlying23]
theorem ia23 (x : Bool) (e : List Atr) (i : Nat) (a : Atr) (h : e[i]? = some a) (H : List OB) : evIndexAddr Tryz.prog 23 (.vsl 3 x (e.map encE)) (.int .i64 (i : Int)) H = some (.vptr (encE a).cells) := by
  have h1 : (e.map encE)[i]? = some (encE a) := by simp [h]
  have := shp_len (encE_shp a)
  simp [evIndexAddr, idx_nat, Tryz.underlying23, tz53, h1, this]
theorem ld53 (a : Atr) (H : List OB) : evLoad Tryz.prog 53 (.vptr (encE a).cells) H = some (encE a) := shp_ld tz53 tg53 (encE_shp a) H
theorem st53 (a : Atr) (H : List OB) (id : Nat) (u v : AV) (h : H[id]? = some (.cells [u, v] false)) : evStore Tryz.prog 53 (.ptr id 0) (encE a) H = some (H.set id (.cells [.str a.1, .vsl 0 a.2.1 (a.2.2.map .str)] false)) := by
  simp [evStore, tz53, tg53, h, encE, AV.cells, AV.isC, setC, esz]
theorem fld53_0 : fldA Tryz.prog 53 0 = some (0, 1, 9) := by kernel_rfl
theorem fld53_1 : fldA Tryz.prog 53 1 = some (1, 1, 26) := by kernel_rfl
theorem fa53_0 (id : Nat) : evFieldAddr Tryz.prog 53 (.ptr id 0) 0 = some (.ptr id 0) := by simp [evFieldAddr, fld53_0]
theorem fa53_1 (id : Nat) : evFieldAddr Tryz.prog 53 (.ptr id 0) 1 = some (.ptr id 1) := by simp [evFieldAddr, fld53_1]
theorem ld26 (H : List OB) (id off : Nat) (cs : List AV) (b : Bool) (v : AV) (h : H[id]? = some (.cells cs b)) (hv : cs[off]? = some v) : evLoad Tryz.prog 26 (.ptr id off) H = some v := by
  simp [evLoad, tz26, tg26, ldA, h, hv]

set_option maxRecDepth 100000 in
theorem get27 (x : Bool) (e : List Atr) (n : Bytes) (hb : ∀ a ∈ e, a.2.2.length ≤ 1000000) : PureFn Tryz.prog 27 [.vsl 3 x (e.map encE), .str n] (.ret (.vsl 0 false ((getE e (small n)).map .str))) := by
  refine PureFn.fit fun hfit => ?_
  have hL : e.length ≤ maxLen' := by have : (e.map encE).length ≤ maxLen' := hfit (.vsl 3 x (e.map encE)) (by simp); simpa using this
  refine PureFn.of Tryz.func27 rfl (enters_call enters Tryz.func27 rfl) (by simp [Tryz.ntmps27]) ?_
  show W Tryz.prog 22 _ none _ _ _
  refine .seq (.region [] (by decide) ?_)
  simp only [EOps, EDf, isRd, gdA, callOf, isPanic, nextOf, altA, evalOp, St.ev, Av.get, St.put, argT, ofV, thenQ, Nat.reduceEqDiff, ↓reduceIte, lend, AV.hfs, AV.hf, Bool.and_self, List.map_cons, List.map_nil, List.nil_append, List.append_nil, List.getElem?_cons_zero, List.getElem?_cons_succ, List.getElem?_toArray, Option.map_some, Option.bind_some, decide_true, decide_false, beq_false, beq_true, Bool.not_true, Bool.not_false, Bool.false_eq_true, pickA, cond_true, cond_false]
  refine .seq (.seq (.region [] (by decide) ?_))
  simp only [EOps, EDf, isRd, gdA, callOf, isPanic, nextOf, altA, evalOp, St.ev, Av.get, St.put, argT, ofV, thenQ, Nat.reduceEqDiff, ↓reduceIte, lend, AV.hfs, AV.hf, Bool.and_self, List.map_cons, List.map_nil, List.nil_append, List.append_nil, List.getElem?_cons_zero, List.getElem?_cons_succ, List.getElem?_toArray, Option.map_some, Option.bind_some, decide_true, decide_false, beq_false, beq_true, Bool.not_true, Bool.not_false, Bool.false_eq_true, pickA, cond_true, cond_false, ln23]
  refine .block ?_
  refine .forG 9 8 10 21 e.length hL rfl rfl rfl rfl rfl rfl rfl rfl rfl (by decide) (by decide) (by decide)
    (fun i => [(7, .vsl 3 x (e.map encE)), (1, .str n), (0, .vsl 3 x (e.map encE))]) (fun _ => rfl) (fun _ => []) (fun _ => Nat.zero_le _) (fun i => getE (e.drop i) (small n) = getE e (small n))
    rfl rfl ?_ ?_ trivial ?_ ?_
  · simp only [subT, Av.get, Nat.reduceEqDiff, ↓reduceIte, Le_rfl, nat0, nat1, and_self]
  · intro i _
    simp only [hltT, AV.hlt, AV.hlts, strs_hlts, Bool.and_self, Bool.and_true, Bool.true_and, encE_hlts]
  · intro i hi hok
    obtain ⟨a, ha⟩ : ∃ a, e[i]? = some a := ⟨e[i], List.getElem?_eq_getElem hi⟩
    have hmem : a ∈ e := List.mem_of_getElem? ha
    have hdrop : e.drop i = a :: e.drop (i + 1) := by
      rw [List.drop_eq_getElem_cons hi]; rw [List.getElem?_eq_getElem hi] at ha; cases ha; rfl
    rw [hdrop] at hok
    refine .block (.seq (.region [] (by decide) ?_))
    have hst := st53 a [.cells [.str [], .vsl 0 true []] false] 0 _ _ rfl
    simp only [EOps, EDf, isRd, gdA, callOf, isPanic, nextOf, altA, evalOp, St.ev, Av.get, St.put, argT, ofV, thenQ, Nat.reduceEqDiff, ↓reduceIte, lend, AV.hfs, AV.hf, Bool.and_self, List.map_cons, List.map_nil, List.nil_append, List.append_nil, List.getElem?_cons_zero, List.getElem?_cons_succ, List.getElem?_toArray, Option.map_some, Option.bind_some, decide_true, decide_false, beq_false, beq_true, Bool.not_true, Bool.not_false, Bool.false_eq_true, pickA, cond_true, cond_false, ia23 _ _ _ _ ha, ld53, za53, List.length_nil, cells_agg, hst, List.set_cons_zero]
    have hp := small46 n
    have l0 : evLoad Tryz.prog 9 (.ptr 0 0) [.cells [.str a.1, .vsl 0 a.2.1 (a.2.2.map .str)] false] = some (.str a.1) := ld9 _ _ _ _ _ _ rfl rfl
    have l1 : evLoad Tryz.prog 26 (.ptr 0 1) [.cells [.str a.1, .vsl 0 a.2.1 (a.2.2.map .str)] false] = some (.vsl 0 a.2.1 (a.2.2.map .str)) := ld26 _ _ _ _ _ _ rfl rfl
    generalize hc : (a.1 == small n) = b
    refine .seq (.drawf [.pure (.ret (.str (small n)))] mixed (by kernel_rfl) (by kernel_rfl) (by kernel_rfl) ?_)
    simp only [EOps, EDf, isRd, gdA, callOf, isPanic, nextOf, altA, evalOp, St.ev, Av.get, St.put, argT, ofV, thenQ, Nat.reduceEqDiff, ↓reduceIte, lend, AV.hfs, AV.hf, Bool.and_self, List.map_cons, List.map_nil, List.nil_append, List.append_nil, List.getElem?_cons_zero, List.getElem?_cons_succ, List.getElem?_toArray, Option.map_some, Option.bind_some, decide_true, decide_false, beq_false, beq_true, Bool.not_true, Bool.not_false, Bool.false_eq_true, pickA, cond_true, cond_false, fa53_0, l0, s_eql, hc]
    refine ⟨hp, ?_⟩
    cases b with
    | true =>
      have hg : getE e (small n) = a.2.2 := by rw [← hok, getE_cons, if_pos hc]
      refine .cond (t := true) rfl (.seq (.region [.pure (.ret (.vsl 0 false (a.2.2.map .str)))] (by decide) ?_))
      simp only [EOps, EDf, isRd, gdA, callOf, isPanic, nextOf, altA, evalOp, St.ev, Av.get, St.put, argT, ofV, thenQ, Nat.reduceEqDiff, ↓reduceIte, lend, AV.hfs, AV.hf, Bool.and_self, List.map_cons, List.map_nil, List.nil_append, List.append_nil, List.getElem?_cons_zero, List.getElem?_cons_succ, List.getElem?_toArray, Option.map_some, Option.bind_some, decide_true, decide_false, beq_false, beq_true, Bool.not_true, Bool.not_false, Bool.false_eq_true, pickA, cond_true, cond_false, fa53_1, l1, strs_hfs]
      refine ⟨clone50 _ _ (hb a hmem), ?_⟩
      rw [hg]
      exact .ret (retT 4 rfl rfl rfl (by simp [Av.get, AV.hf, strs_hfs]) (.refl _))
    | false =>
      refine .cond (t := false) rfl (.skip ?_)
      refine ⟨?_, ?_, trivial, rfl⟩
      · rw [← hok, getE_cons, if_neg (by simp [hc])]
      · simp only [subT, Av.get, Nat.reduceEqDiff, ↓reduceIte, Le_rfl, nat0, nat1, and_self]
  · intro hok
    have hg : getE e (small n) = [] := by rw [← hok, List.drop_length]; rfl
    rw [hg]
    simp only [EOps, EDf, isRd, gdA, callOf, isPanic, nextOf, altA, evalOp, St.ev, Av.get, St.put, argT, ofV, thenQ, Nat.reduceEqDiff, ↓reduceIte, lend, AV.hfs, AV.hf, Bool.and_self, List.map_cons, List.map_nil, List.nil_append, List.append_nil, List.getElem?_cons_zero, List.getElem?_cons_succ, List.getElem?_toArray, Option.map_some, Option.bind_some, decide_true, decide_false, beq_false, beq_true, Bool.not_true, Bool.not_false, Bool.false_eq_true, pickA, cond_true, cond_false, blockQ]
    refine .seq (.region [] (by decide) ?_)
    simp only [EOps, EDf, isRd, gdA, callOf, isPanic, nextOf, altA, evalOp, St.ev, Av.get, St.put, argT, ofV, thenQ, Nat.reduceEqDiff, ↓reduceIte, lend, AV.hfs, AV.hf, Bool.and_self, List.map_cons, List.map_nil, List.nil_append, List.append_nil, List.getElem?_cons_zero, List.getElem?_cons_succ, List.getElem?_toArray, Option.map_some, Option.bind_some, decide_true, decide_false, beq_false, beq_true, Bool.not_true, Bool.not_false, Bool.false_eq_true, pickA, cond_true, cond_false]
    exact .ret ⟨_, rfl, _, rfl, .nil _ _ _⟩
end Go.Proofs.YtmeijkidjifagaaGreat
namespace Go.Proofs.YtmeijkidjifagaaGreat
set_option linter.unusedVariables false
set_option linter.unusedSimpArgs false
open Go Go.Av

theorem drop_at {α : Type} {l : List α} {i : Nat} (h : i < l.length) : ∃ u, l[i]? = some u ∧ l.drop i = u :: l.drop (i + 1) :=
  ⟨l[i], List.getElem?_eq_getElem h, List.drop_eq_getElem_cons h⟩
theorem dlt (i L : Nat) : decide ((i : Int) < (L : Int)) = decide (i < L) := by simp
theorem faE0 (a : Atr) : evFieldAddr Tryz.prog 53 (.vptr (encE a).cells) 0 = some (.vptr (encE a).cells) := by simp [evFieldAddr, fld53_0]
theorem faE1 (a : Atr) : evFieldAddr Tryz.prog 53 (.vptr (encE a).cells) 1 = some (.vptr [.vsl 0 a.2.1 (a.2.2.map .str)]) := by simp [evFieldAddr, fld53_1, encE, AV.cells]
theorem ldE0 (a : Atr) (H : List OB) : evLoad Tryz.prog 9 (.vptr (encE a).cells) H = some (.str a.1) := by simp [evLoad, tz9, tg9, ldA, encE, AV.cells]
theorem ldE1 (a : Atr) (H : List OB) : evLoad Tryz.prog 26 (.vptr [.vsl 0 a.2.1 (a.2.2.map .str)]) H = some (.vsl 0 a.2.1 (a.2.2.map .str)) := by simp [evLoad, tz26, tg26, ldA]
theorem ix9 (s : Bytes) (i : Nat) (x : UInt8) (h : s[i]? = some x) : evIndex Tryz.prog 9 (.str s) (.int .i64 (i : Int)) = some (.int .u8 x.toNat) := by
  simp [evIndex, idx_nat, Tryz.underlying9, h]

theorem values58 (x : Bool) (l : List Bytes) : PureFn Tryz.prog 58 [.vsl 0 x (l.map .str)] (.ret (.bool (l.all fun s => decide ((s.length : Int) ≥ 1) && decide ((s.length : Int) ≤ 2048)))) := by
  refine PureFn.fit fun hfit => ?_
  have hL : l.length ≤ maxLen' := by have : (l.map AV.str).length ≤ maxLen' := hfit (.vsl 0 x (l.map .str)) (by simp); simpa using this
  refine PureFn.of Tryz.func58 rfl (enters_call enters Tryz.func58 rfl) (by simp [Tryz.ntmps58]) ?_
  show W Tryz.prog 24 _ none _ _ _
  generalize hp : (fun s : Bytes => decide ((s.length : Int) ≥ 1) && decide ((s.length : Int) ≤ 2048)) = p
  refine .seq (.region [] (by decide) ?_)
  simp only [EOps, EDf, isRd, gdA, callOf, isPanic, nextOf, altA, evalOp, St.ev, Av.get, St.put, argT, ofV, thenQ, Nat.reduceEqDiff, ↓reduceIte, lend, AV.hfs, AV.hf, Bool.and_self, List.map_cons, List.map_nil, List.nil_append, List.append_nil, List.getElem?_cons_zero, List.getElem?_cons_succ, List.getElem?_toArray, Option.map_some, Option.bind_some, decide_true, decide_false, beq_false, beq_true, Bool.not_true, Bool.not_false, Bool.false_eq_true, pickA, cond_true, cond_false]
  refine .seq (.seq (.region [] (by decide) ?_))
  simp only [EOps, EDf, isRd, gdA, callOf, isPanic, nextOf, altA, evalOp, St.ev, Av.get, St.put, argT, ofV, thenQ, Nat.reduceEqDiff, ↓reduceIte, lend, AV.hfs, AV.hf, Bool.and_self, List.map_cons, List.map_nil, List.nil_append, List.append_nil, List.getElem?_cons_zero, List.getElem?_cons_succ, List.getElem?_toArray, Option.map_some, Option.bind_some, decide_true, decide_false, beq_false, beq_true, Bool.not_true, Bool.not_false, Bool.false_eq_true, pickA, cond_true, cond_false]
  refine .block ?_
  refine .forR 3 7 8 9 0 l.length hL (Nat.zero_le _) rfl rfl rfl rfl rfl rfl rfl rfl rfl (by decide)
    (fun i => [(0, .vsl 0 x (l.map .str))]) (fun _ => rfl) (fun _ => []) (fun _ => Nat.zero_le _) (fun i => (l.drop i).all p = l.all p) rfl rfl ?_ ?_ trivial ?_ ?_ ?_
  · simp only [subT, Av.get, Nat.reduceEqDiff, ↓reduceIte, Le_rfl, nat0, nat1, and_self]
  · intro i _
    simp only [hltT, AV.hlt, AV.hlts, strs_hlts, Bool.and_self, Bool.and_true, Bool.true_and]
  · intro i hi hok
    refine .region [] (by decide) ?_
    simp only [EOps, EDf, isRd, gdA, callOf, isPanic, nextOf, altA, evalOp, St.ev, Av.get, St.put, argT, ofV, thenQ, Nat.reduceEqDiff, ↓reduceIte, lend, AV.hfs, AV.hf, Bool.and_self, List.map_cons, List.map_nil, List.nil_append, List.append_nil, List.getElem?_cons_zero, List.getElem?_cons_succ, List.getElem?_toArray, Option.map_some, Option.bind_some, decide_true, decide_false, beq_false, beq_true, Bool.not_true, Bool.not_false, Bool.false_eq_true, pickA, cond_true, cond_false, ln26, b_lss, dlt]
    refine ⟨trivial, ?_, trivial, trivial⟩
    simp only [subT, Av.get, Nat.reduceEqDiff, ↓reduceIte, Le_rfl, nat0, nat1, and_self]
  · intro i hi hok
    obtain ⟨s, hs, hdrop⟩ := drop_at hi
    rw [hdrop, List.all_cons] at hok
    refine .block (.seq (.region [] (by decide) ?_))
    generalize h1 : decide ((s.length : Int) ≥ 1) = b1
    generalize h2 : decide ((s.length : Int) ≤ 2048) = b2
    have h1' : decide ((s.length : Int) < 1) = !b1 := by rw [← h1]; by_cases h : (s.length : Int) < 1 <;> simp [h] <;> omega
    have h2' : decide ((s.length : Int) > 2048) = !b2 := by rw [← h2]; by_cases h : (s.length : Int) > 2048 <;> simp [h] <;> omega
    have hps : p s = (b1 && b2) := by rw [← hp, ← h1, ← h2]
    have bad : (b1 && b2) = false → l.all p = false := by intro h; rw [← hok, hps, h]; rfl
    cases b1 <;> cases b2 <;> simp only [EOps, EDf, isRd, gdA, callOf, isPanic, nextOf, altA, evalOp, St.ev, Av.get, St.put, argT, ofV, thenQ, Nat.reduceEqDiff, ↓reduceIte, lend, AV.hfs, AV.hf, Bool.and_self, List.map_cons, List.map_nil, List.nil_append, List.append_nil, List.getElem?_cons_zero, List.getElem?_cons_succ, List.getElem?_toArray, Option.map_some, Option.bind_some, decide_true, decide_false, beq_false, beq_true, Bool.not_true, Bool.not_false, Bool.false_eq_true, pickA, cond_true, cond_false, ia26 _ _ _ _ hs, ld9v, ln9, b_lss, b_gtr, h1', h2']
    case true.true =>
      refine .cond (t := false) rfl (.skip ?_)
      refine ⟨?_, ?_, trivial, rfl⟩
      · rw [← hok, hps]; rfl
      · simp only [subT, Av.get, Nat.reduceEqDiff, ↓reduceIte, Le_rfl, nat0, nat1, and_self]
    all_goals
      refine .cond (t := true) rfl (.seq (.region [] (by decide) ?_))
      simp only [EOps, EDf, isRd, gdA, callOf, isPanic, nextOf, altA, evalOp, St.ev, Av.get, St.put, argT, ofV, thenQ, Nat.reduceEqDiff, ↓reduceIte, lend, AV.hfs, AV.hf, Bool.and_self, List.map_cons, List.map_nil, List.nil_append, List.append_nil, List.getElem?_cons_zero, List.getElem?_cons_succ, List.getElem?_toArray, Option.map_some, Option.bind_some, decide_true, decide_false, beq_false, beq_true, Bool.not_true, Bool.not_false, Bool.false_eq_true, pickA, cond_true, cond_false]
      rw [bad rfl]
      exact .ret ⟨_, rfl, _, rfl, .refl _⟩
  · intro hok
    simp only [EOps, EDf, isRd, gdA, callOf, isPanic, nextOf, altA, evalOp, St.ev, Av.get, St.put, argT, ofV, thenQ, Nat.reduceEqDiff, ↓reduceIte, lend, AV.hfs, AV.hf, Bool.and_self, List.map_cons, List.map_nil, List.nil_append, List.append_nil, List.getElem?_cons_zero, List.getElem?_cons_succ, List.getElem?_toArray, Option.map_some, Option.bind_some, decide_true, decide_false, beq_false, beq_true, Bool.not_true, Bool.not_false, Bool.false_eq_true, pickA, cond_true, cond_false, blockQ]
    refine .seq (.region [] (by decide) ?_)
    simp only [EOps, EDf, isRd, gdA, callOf, isPanic, nextOf, altA, evalOp, St.ev, Av.get, St.put, argT, ofV, thenQ, Nat.reduceEqDiff, ↓reduceIte, lend, AV.hfs, AV.hf, Bool.and_self, List.map_cons, List.map_nil, List.nil_append, List.append_nil, List.getElem?_cons_zero, List.getElem?_cons_succ, List.getElem?_toArray, Option.map_some, Option.bind_some, decide_true, decide_false, beq_false, beq_true, Bool.not_true, Bool.not_false, Bool.false_eq_true, pickA, cond_true, cond_false]
    rw [List.drop_length] at hok
    rw [← hok]
    exact .ret ⟨_, rfl, _, rfl, .refl _⟩

theorem small_take (s : Bytes) (i : Nat) (x : UInt8) (h : s[i]? = some x) : (s.take (i + 1)).map low = (s.take i).map low ++ [low x] := by
  rw [List.take_add_one, h]; simp
theorem cv101 (x : UInt8) (H : List OB) : evConv Tryz.prog 101 9 (.vsl 0 true [.int .u8 x.toNat]) H = some (.str [x], H) := by
  have := unbyte_bytesA [x]
  simp only [bytesA, byteA, List.map_cons, List.map_nil] at this
  simp [evConv, Tryz.underlying101, Tryz.underlying9, Tryz.underlying5, this]
theorem bs101 (x : UInt8) : evBuildSlice Tryz.prog 101 1 [(0, .int .u8 x.toNat)] = some (.vsl 0 true [.int .u8 x.toNat]) := by
  have h : apT Tryz.prog 5 = some (1, 0, 1) := by kernel_rfl
  simp [evBuildSlice, Tryz.underlying101, h, AV.cells, AV.told, List.range']

set_option maxRecDepth 100000 in
theorem small44 (s : Bytes) : PureFn Tryz.prog 44 [.str s] (.ret (.str (small s))) := by
  refine PureFn.fit fun hfit => ?_
  have hL : s.length ≤ maxLen' := hfit (.str s) (by simp)
  refine PureFn.of Tryz.func44 rfl (enters_call enters Tryz.func44 rfl) (by simp [Tryz.ntmps44]) ?_
  show W Tryz.prog 29 _ none _ _ _
  have x0 : ({ data := #[] } : ByteArray).size ≤ maxLen' := by decide
  refine .seq (.region [] (by decide) ?_)
  simp only [EOps, EDf, isRd, gdA, callOf, isPanic, nextOf, altA, evalOp, St.ev, Av.get, St.put, argT, ofV, thenQ, Nat.reduceEqDiff, ↓reduceIte, lend, AV.hfs, AV.hf, Bool.and_self, List.map_cons, List.map_nil, List.nil_append, List.append_nil, List.getElem?_cons_zero, List.getElem?_cons_succ, List.getElem?_toArray, Option.map_some, Option.bind_some, decide_true, decide_false, beq_false, beq_true, Bool.not_true, Bool.not_false, Bool.false_eq_true, pickA, cond_true, cond_false, x0, if_true]
  refine .seq (.region [] (by decide) ?_)
  simp only [EOps, EDf, isRd, gdA, callOf, isPanic, nextOf, altA, evalOp, St.ev, Av.get, St.put, argT, ofV, thenQ, Nat.reduceEqDiff, ↓reduceIte, lend, AV.hfs, AV.hf, Bool.and_self, List.map_cons, List.map_nil, List.nil_append, List.append_nil, List.getElem?_cons_zero, List.getElem?_cons_succ, List.getElem?_toArray, Option.map_some, Option.bind_some, decide_true, decide_false, beq_false, beq_true, Bool.not_true, Bool.not_false, Bool.false_eq_true, pickA, cond_true, cond_false, x0, if_true]
  refine .seq (.seq (.region [] (by decide) ?_))
  simp only [EOps, EDf, isRd, gdA, callOf, isPanic, nextOf, altA, evalOp, St.ev, Av.get, St.put, argT, ofV, thenQ, Nat.reduceEqDiff, ↓reduceIte, lend, AV.hfs, AV.hf, Bool.and_self, List.map_cons, List.map_nil, List.nil_append, List.append_nil, List.getElem?_cons_zero, List.getElem?_cons_succ, List.getElem?_toArray, Option.map_some, Option.bind_some, decide_true, decide_false, beq_false, beq_true, Bool.not_true, Bool.not_false, Bool.false_eq_true, pickA, cond_true, cond_false]
  refine .block ?_
  refine .forR 4 9 10 11 0 s.length hL (Nat.zero_le _) rfl rfl rfl rfl rfl rfl rfl rfl rfl (by decide)
    (fun i => [(3, .str ((s.take i).map low)), (0, .str s)]) (fun _ => rfl) (fun _ => []) (fun _ => Nat.zero_le _) (fun i => True) rfl trivial ?_ ?_ trivial ?_ ?_ ?_
  · simp only [List.take_zero, List.map_nil]
    simp only [subT, Av.get, Nat.reduceEqDiff, ↓reduceIte, Le_rfl, nat0, nat1, and_self]
  · intro i _
    simp only [hltT, AV.hlt, AV.hlts, strs_hlts, Bool.and_self, Bool.and_true, Bool.true_and]
  · intro i hi hok
    refine .region [] (by decide) ?_
    simp only [EOps, EDf, isRd, gdA, callOf, isPanic, nextOf, altA, evalOp, St.ev, Av.get, St.put, argT, ofV, thenQ, Nat.reduceEqDiff, ↓reduceIte, lend, AV.hfs, AV.hf, Bool.and_self, List.map_cons, List.map_nil, List.nil_append, List.append_nil, List.getElem?_cons_zero, List.getElem?_cons_succ, List.getElem?_toArray, Option.map_some, Option.bind_some, decide_true, decide_false, beq_false, beq_true, Bool.not_true, Bool.not_false, Bool.false_eq_true, pickA, cond_true, cond_false, ln9, b_lss, dlt]
    refine ⟨trivial, ?_, trivial, trivial⟩
    simp only [subT, Av.get, Nat.reduceEqDiff, ↓reduceIte, Le_rfl, nat0, nat1, and_self]
  · intro i hi hok
    obtain ⟨u, hu, hdrop⟩ := drop_at hi
    have htl : ((s.take i).map low).length = i := by rw [List.length_map, List.length_take]; omega
    have hadd : evBin Tryz.prog .add 9 (.str ((s.take i).map low)) (.str [low u]) = some (.str ((s.take (i + 1)).map low)) := by
      rw [small_take s i u hu]
      simp only [evBin, htl, List.length_singleton]
      rw [if_pos (by omega)]
    refine .block (.seq (.region [] (by decide) ?_))
    simp only [EOps, EDf, isRd, gdA, callOf, isPanic, nextOf, altA, evalOp, St.ev, Av.get, St.put, argT, ofV, thenQ, Nat.reduceEqDiff, ↓reduceIte, lend, AV.hfs, AV.hf, Bool.and_self, List.map_cons, List.map_nil, List.nil_append, List.append_nil, List.getElem?_cons_zero, List.getElem?_cons_succ, List.getElem?_toArray, Option.map_some, Option.bind_some, decide_true, decide_false, beq_false, beq_true, Bool.not_true, Bool.not_false, Bool.false_eq_true, pickA, cond_true, cond_false, ix9 _ _ _ hu]
    refine .seqT [(5, .int .u8 (low u).toNat), (4, .int .i64 (i : Int)), (3, .str ((s.take i).map low)), (0, .str s)] [] ?_ ?_
    · refine .seq (.region [] (by decide) ?_)
      generalize h1 : decide ((u.toNat : Int) ≥ 65) = b1
      generalize h2 : decide ((u.toNat : Int) ≤ 90) = b2
      have hlow : (low u).toNat = if (b1 && b2) = true then u.toNat + 32 else u.toNat := by
        have e1 : b1 = decide (65 ≤ u) := by rw [← h1]; simp [UInt8.le_iff_toNat_le]; omega
        have e2 : b2 = decide (u ≤ 90) := by rw [← h2]; simp [UInt8.le_iff_toNat_le]; omega
        unfold low
        rw [e1, e2]
        simp only [Bool.and_eq_true, decide_eq_true_eq]
        split
        · rename_i hc
          have := UInt8.le_iff_toNat_le.1 hc.2
          rw [UInt8.toNat_add]; simp at this ⊢; omega
        · rfl
      have hb : (u.toNat : Int) < 256 := by have := u.toNat_lt; omega
      cases b1 <;> cases b2 <;> simp only [EOps, EDf, isRd, gdA, callOf, isPanic, nextOf, altA, evalOp, St.ev, Av.get, St.put, argT, ofV, thenQ, Nat.reduceEqDiff, ↓reduceIte, lend, AV.hfs, AV.hf, Bool.and_self, List.map_cons, List.map_nil, List.nil_append, List.append_nil, List.getElem?_cons_zero, List.getElem?_cons_succ, List.getElem?_toArray, Option.map_some, Option.bind_some, decide_true, decide_false, beq_false, beq_true, Bool.not_true, Bool.not_false, Bool.false_eq_true, pickA, cond_true, cond_false, b_geq, b_leq, h1, h2]
      case true.true =>
        refine .cond (t := true) rfl (.region [] (by decide) ?_)
        have h90 : (u.toNat : Int) ≤ 90 := of_decide_eq_true h2
        have ha : evBin Tryz.prog .add 5 (.int .u8 (u.toNat : Int)) (.int .u8 32) = some (.int .u8 ((low u).toNat : Int)) := by
          rw [hlow]; simp [evBin, IntKind.wrap, IntKind.bits, IntKind.signed]; omega
        simp only [EOps, EDf, isRd, gdA, callOf, isPanic, nextOf, altA, evalOp, St.ev, Av.get, St.put, argT, ofV, thenQ, Nat.reduceEqDiff, ↓reduceIte, lend, AV.hfs, AV.hf, Bool.and_self, List.map_cons, List.map_nil, List.nil_append, List.append_nil, List.getElem?_cons_zero, List.getElem?_cons_succ, List.getElem?_toArray, Option.map_some, Option.bind_some, decide_true, decide_false, beq_false, beq_true, Bool.not_true, Bool.not_false, Bool.false_eq_true, pickA, cond_true, cond_false, ha]
        refine ⟨?_, trivial, trivial⟩
        simp [holdsT, Av.get]
      all_goals
        refine .cond (t := false) rfl (.skip ?_)
        refine ⟨?_, rfl, rfl⟩
        rw [hlow]
        simp [holdsT, Av.get]
    · refine .region [] (by decide) ?_
      simp only [EOps, EDf, isRd, gdA, callOf, isPanic, nextOf, altA, evalOp, St.ev, Av.get, St.put, argT, ofV, thenQ, Nat.reduceEqDiff, ↓reduceIte, lend, AV.hfs, AV.hf, Bool.and_self, List.map_cons, List.map_nil, List.nil_append, List.append_nil, List.getElem?_cons_zero, List.getElem?_cons_succ, List.getElem?_toArray, Option.map_some, Option.bind_some, decide_true, decide_false, beq_false, beq_true, Bool.not_true, Bool.not_false, Bool.false_eq_true, pickA, cond_true, cond_false, bs101, cv101, hadd]
      refine ⟨trivial, ?_, trivial, rfl⟩
      simp only [subT, Av.get, Nat.reduceEqDiff, ↓reduceIte, Le_rfl, nat0, nat1, and_self]
  · intro hok
    simp only [EOps, EDf, isRd, gdA, callOf, isPanic, nextOf, altA, evalOp, St.ev, Av.get, St.put, argT, ofV, thenQ, Nat.reduceEqDiff, ↓reduceIte, lend, AV.hfs, AV.hf, Bool.and_self, List.map_cons, List.map_nil, List.nil_append, List.append_nil, List.getElem?_cons_zero, List.getElem?_cons_succ, List.getElem?_toArray, Option.map_some, Option.bind_some, decide_true, decide_false, beq_false, beq_true, Bool.not_true, Bool.not_false, Bool.false_eq_true, pickA, cond_true, cond_false, blockQ]
    refine .seq (.region [] (by decide) ?_)
    simp only [EOps, EDf, isRd, gdA, callOf, isPanic, nextOf, altA, evalOp, St.ev, Av.get, St.put, argT, ofV, thenQ, Nat.reduceEqDiff, ↓reduceIte, lend, AV.hfs, AV.hf, Bool.and_self, List.map_cons, List.map_nil, List.nil_append, List.append_nil, List.getElem?_cons_zero, List.getElem?_cons_succ, List.getElem?_toArray, Option.map_some, Option.bind_some, decide_true, decide_false, beq_false, beq_true, Bool.not_true, Bool.not_false, Bool.false_eq_true, pickA, cond_true, cond_false]
    have : small s = (s.take s.length).map low := by rw [List.take_length]; rfl
    rw [this]
    exact .ret ⟨_, rfl, _, rfl, .refl _⟩

theorem get24 (x : Bool) (e : List Atr) (n : Bytes) : PureFn Tryz.prog 24 [.vsl 3 x (e.map encE), .str n] (.ret (.vsl 0 false ((getE e (small n)).map .str))) := by
  refine PureFn.fit fun hfit => ?_
  have hL : e.length ≤ maxLen' := by have : (e.map encE).length ≤ maxLen' := hfit (.vsl 3 x (e.map encE)) (by simp); simpa using this
  refine PureFn.of Tryz.func24 rfl (enters_call enters Tryz.func24 rfl) (by simp [Tryz.ntmps24]) ?_
  show W Tryz.prog 25 _ none _ _ _
  refine .seq (.region [] (by decide) ?_)
  simp only [EOps, EDf, isRd, gdA, callOf, isPanic, nextOf, altA, evalOp, St.ev, Av.get, St.put, argT, ofV, thenQ, Nat.reduceEqDiff, ↓reduceIte, lend, AV.hfs, AV.hf, Bool.and_self, List.map_cons, List.map_nil, List.nil_append, List.append_nil, List.getElem?_cons_zero, List.getElem?_cons_succ, List.getElem?_toArray, Option.map_some, Option.bind_some, decide_true, decide_false, beq_false, beq_true, Bool.not_true, Bool.not_false, Bool.false_eq_true, pickA, cond_true, cond_false]
  refine .seq (.seq (.region [] (by decide) ?_))
  simp only [EOps, EDf, isRd, gdA, callOf, isPanic, nextOf, altA, evalOp, St.ev, Av.get, St.put, argT, ofV, thenQ, Nat.reduceEqDiff, ↓reduceIte, lend, AV.hfs, AV.hf, Bool.and_self, List.map_cons, List.map_nil, List.nil_append, List.append_nil, List.getElem?_cons_zero, List.getElem?_cons_succ, List.getElem?_toArray, Option.map_some, Option.bind_some, decide_true, decide_false, beq_false, beq_true, Bool.not_true, Bool.not_false, Bool.false_eq_true, pickA, cond_true, cond_false]
  refine .block ?_
  refine .forR 5 9 10 11 0 e.length hL (Nat.zero_le _) rfl rfl rfl rfl rfl rfl rfl rfl rfl (by decide)
    (fun i => [(0, .vsl 3 x (e.map encE)), (1, .str n)]) (fun _ => rfl) (fun _ => []) (fun _ => Nat.zero_le _) (fun i => getE (e.drop i) (small n) = getE e (small n)) rfl rfl ?_ ?_ trivial ?_ ?_ ?_
  · simp only [subT, Av.get, Nat.reduceEqDiff, ↓reduceIte, Le_rfl, nat0, nat1, and_self]
  · intro i _
    simp only [hltT, AV.hlt, AV.hlts, strs_hlts, Bool.and_self, Bool.and_true, Bool.true_and, encE_hlts]
  · intro i hi hok
    refine .region [] (by decide) ?_
    simp only [EOps, EDf, isRd, gdA, callOf, isPanic, nextOf, altA, evalOp, St.ev, Av.get, St.put, argT, ofV, thenQ, Nat.reduceEqDiff, ↓reduceIte, lend, AV.hfs, AV.hf, Bool.and_self, List.map_cons, List.map_nil, List.nil_append, List.append_nil, List.getElem?_cons_zero, List.getElem?_cons_succ, List.getElem?_toArray, Option.map_some, Option.bind_some, decide_true, decide_false, beq_false, beq_true, Bool.not_true, Bool.not_false, Bool.false_eq_true, pickA, cond_true, cond_false, ln23, b_lss, dlt]
    refine ⟨trivial, ?_, trivial, trivial⟩
    simp only [subT, Av.get, Nat.reduceEqDiff, ↓reduceIte, Le_rfl, nat0, nat1, and_self]
  · intro i hi hok
    obtain ⟨a, ha, hdrop⟩ := drop_at hi
    rw [hdrop, getE_cons] at hok
    have hp := small44 n
    generalize hc : (a.1 == small n) = b
    rw [hc] at hok
    refine .block (.seq (.drawf [.pure (.ret (.str (small n)))] mixed (by kernel_rfl) (by kernel_rfl) (by kernel_rfl) ?_))
    simp only [EOps, EDf, isRd, gdA, callOf, isPanic, nextOf, altA, evalOp, St.ev, Av.get, St.put, argT, ofV, thenQ, Nat.reduceEqDiff, ↓reduceIte, lend, AV.hfs, AV.hf, Bool.and_self, List.map_cons, List.map_nil, List.nil_append, List.append_nil, List.getElem?_cons_zero, List.getElem?_cons_succ, List.getElem?_toArray, Option.map_some, Option.bind_some, decide_true, decide_false, beq_false, beq_true, Bool.not_true, Bool.not_false, Bool.false_eq_true, pickA, cond_true, cond_false, ia23 _ _ _ _ ha, faE0, ldE0, s_eql, hc]
    refine ⟨hp, ?_⟩
    cases b with
    | true =>
      refine .cond (t := true) rfl (.seq (.region [] (by decide) ?_))
      simp only [EOps, EDf, isRd, gdA, callOf, isPanic, nextOf, altA, evalOp, St.ev, Av.get, St.put, argT, ofV, thenQ, Nat.reduceEqDiff, ↓reduceIte, lend, AV.hfs, AV.hf, Bool.and_self, List.map_cons, List.map_nil, List.nil_append, List.append_nil, List.getElem?_cons_zero, List.getElem?_cons_succ, List.getElem?_toArray, Option.map_some, Option.bind_some, decide_true, decide_false, beq_false, beq_true, Bool.not_true, Bool.not_false, Bool.false_eq_true, pickA, cond_true, cond_false, ia23 _ _ _ _ ha, faE1, ldE1]
      rw [← hok, if_pos rfl]
      exact .ret (retT 4 rfl rfl rfl (by simp [Av.get, AV.hf, strs_hfs]) (.exact _ _ _))
    | false =>
      refine .cond (t := false) rfl (.skip ?_)
      refine ⟨hok, ?_, trivial, rfl⟩
      simp only [subT, Av.get, Nat.reduceEqDiff, ↓reduceIte, Le_rfl, nat0, nat1, and_self]
  · intro hok
    have hg : getE e (small n) = [] := by rw [← hok, List.drop_length]; rfl
    rw [hg]
    simp only [EOps, EDf, isRd, gdA, callOf, isPanic, nextOf, altA, evalOp, St.ev, Av.get, St.put, argT, ofV, thenQ, Nat.reduceEqDiff, ↓reduceIte, lend, AV.hfs, AV.hf, Bool.and_self, List.map_cons, List.map_nil, List.nil_append, List.append_nil, List.getElem?_cons_zero, List.getElem?_cons_succ, List.getElem?_toArray, Option.map_some, Option.bind_some, decide_true, decide_false, beq_false, beq_true, Bool.not_true, Bool.not_false, Bool.false_eq_true, pickA, cond_true, cond_false, blockQ]
    refine .seq (.region [] (by decide) ?_)
    simp only [EOps, EDf, isRd, gdA, callOf, isPanic, nextOf, altA, evalOp, St.ev, Av.get, St.put, argT, ofV, thenQ, Nat.reduceEqDiff, ↓reduceIte, lend, AV.hfs, AV.hf, Bool.and_self, List.map_cons, List.map_nil, List.nil_append, List.append_nil, List.getElem?_cons_zero, List.getElem?_cons_succ, List.getElem?_toArray, Option.map_some, Option.bind_some, decide_true, decide_false, beq_false, beq_true, Bool.not_true, Bool.not_false, Bool.false_eq_true, pickA, cond_true, cond_false]
    exact .ret ⟨_, rfl, _, rfl, .nil _ _ _⟩
end Go.Proofs.YtmeijkidjifagaaGreat
namespace Go.Proofs.YtmeijkidjifagaaGreat
set_option linter.unusedVariables false
set_option linter.unusedSimpArgs false
open Go Go.Av

theorem nlt (a b : Int) : decide (a ≥ b) = !decide (a < b) := by rw [← decide_not]; exact decide_eq_decide.2 (by omega)
theorem nle (a b : Int) : decide (a ≤ b) = !decide (a > b) := by rw [← decide_not]; exact decide_eq_decide.2 (by omega)
def okL (x : Int) : Bool := decide (x ≥ 65) && decide (x ≤ 90) || decide (x ≥ 97) && decide (x ≤ 122)
theorem okI_true (x : Int) : okI true x = okL x := by
  unfold okI okL
  generalize decide (x ≥ 97) = a1; generalize decide (x ≤ 122) = a2; generalize decide (x ≥ 65) = a3; generalize decide (x ≤ 90) = a4
  cases a1 <;> cases a2 <;> cases a3 <;> cases a4 <;> rfl
theorem okI_false (x : Int) : okI false x = (okL x || (!decide (x < 48) && !decide (x > 57)) || !(x != 45)) := by
  unfold okI okL
  rw [nlt x 48, nle x 57]
  generalize decide (x ≥ 97) = a1; generalize decide (x ≤ 122) = a2; generalize decide (x ≥ 65) = a3; generalize decide (x ≤ 90) = a4
  generalize decide (x < 48) = a5; generalize decide (x > 57) = a6; generalize (x != 45) = a7
  cases a1 <;> cases a2 <;> cases a3 <;> cases a4 <;> cases a5 <;> cases a6 <;> cases a7 <;> rfl
theorem allB_succ : ∀ (l : Bytes) (i : Nat), allB (i + 1) l = l.all fun x => okI false x.toNat
  | [], _ => rfl
  | x :: l, i => by simp only [allB, List.all_cons, allB_succ l (i + 1)]; rfl
theorem isName_cons (u : UInt8) (t : Bytes) : isName (u :: t) = (!decide (((u :: t).length : Int) < 1) && !decide (((u :: t).length : Int) > 64) && okL u.toNat && (u :: t).all fun x => okI false x.toNat) := by
  unfold isName
  rw [nlt, nle]
  simp only [allB, allB_succ, List.all_cons, okI_false u.toNat]
  have : okI (0 == 0) (u.toNat : Int) = okL u.toNat := okI_true _
  rw [this]
  generalize okL u.toNat = a; generalize (t.all fun x => okI false x.toNat) = b
  generalize decide (((u :: t).length : Int) < 1) = c; generalize decide (((u :: t).length : Int) > 64) = d
  cases a <;> cases b <;> cases c <;> cases d <;> rfl

theorem name57 (s : Bytes) : PureFn Tryz.prog 57 [.str s] (.ret (.bool (isName s))) := by
  refine PureFn.fit fun hfit => ?_
  have hL : s.length ≤ maxLen' := hfit (.str s) (by simp)
  refine PureFn.of Tryz.func57 rfl (enters_call enters Tryz.func57 rfl) (by simp [Tryz.ntmps57]) ?_
  show W Tryz.prog 47 _ none _ _ _
  refine .seq (.region [] (by decide) ?_)
  simp only [EOps, EDf, isRd, gdA, callOf, isPanic, nextOf, altA, evalOp, St.ev, Av.get, St.put, argT, ofV, thenQ, Nat.reduceEqDiff, ↓reduceIte, lend, AV.hfs, AV.hf, Bool.and_self, List.map_cons, List.map_nil, List.nil_append, List.append_nil, List.getElem?_cons_zero, List.getElem?_cons_succ, List.getElem?_toArray, Option.map_some, Option.bind_some, decide_true, decide_false, beq_false, beq_true, Bool.not_true, Bool.not_false, Bool.false_eq_true, pickA, cond_true, cond_false]
  cases s with
  | nil =>
    refine .seq (.seq (.region [] (by decide) ?_))
    have h0 : decide ((([] : Bytes).length : Int) < 1) = true := rfl
    simp only [EOps, EDf, isRd, gdA, callOf, isPanic, nextOf, altA, evalOp, St.ev, Av.get, St.put, argT, ofV, thenQ, Nat.reduceEqDiff, ↓reduceIte, lend, AV.hfs, AV.hf, Bool.and_self, List.map_cons, List.map_nil, List.nil_append, List.append_nil, List.getElem?_cons_zero, List.getElem?_cons_succ, List.getElem?_toArray, Option.map_some, Option.bind_some, decide_true, decide_false, beq_false, beq_true, Bool.not_true, Bool.not_false, Bool.false_eq_true, pickA, cond_true, cond_false, ln9, b_lss, h0]
    refine .cond (t := true) rfl (.seq (.region [] (by decide) ?_))
    simp only [EOps, EDf, isRd, gdA, callOf, isPanic, nextOf, altA, evalOp, St.ev, Av.get, St.put, argT, ofV, thenQ, Nat.reduceEqDiff, ↓reduceIte, lend, AV.hfs, AV.hf, Bool.and_self, List.map_cons, List.map_nil, List.nil_append, List.append_nil, List.getElem?_cons_zero, List.getElem?_cons_succ, List.getElem?_toArray, Option.map_some, Option.bind_some, decide_true, decide_false, beq_false, beq_true, Bool.not_true, Bool.not_false, Bool.false_eq_true, pickA, cond_true, cond_false]
    exact .ret ⟨_, rfl, _, rfl, .refl _⟩
  | cons u t =>
    have h1 : decide (((u :: t).length : Int) < 1) = false := by simp; omega
    have hi0 : evIndex Tryz.prog 9 (.str (u :: t)) (.int .i64 0) = some (.int .u8 u.toNat) := ix9 (u :: t) 0 u rfl
    have hp := letter80 u.toNat
    have hp' : PureFn Tryz.prog 80 [.int .u8 u.toNat] (.ret (.bool (okL u.toNat))) := hp
    have hn := isName_cons u t
    rw [h1] at hn
    simp only [Bool.not_false, Bool.true_and] at hn
    generalize h2 : decide (((u :: t).length : Int) > 64) = b2 at hn
    generalize okL u.toNat = w at hp' hn
    generalize hs : u :: t = s at hn h1 h2 hi0 hL
    cases b2 with
    | true =>
      refine .seq (.seq (.region [] (by decide) ?_))
      simp only [EOps, EDf, isRd, gdA, callOf, isPanic, nextOf, altA, evalOp, St.ev, Av.get, St.put, argT, ofV, thenQ, Nat.reduceEqDiff, ↓reduceIte, lend, AV.hfs, AV.hf, Bool.and_self, List.map_cons, List.map_nil, List.nil_append, List.append_nil, List.getElem?_cons_zero, List.getElem?_cons_succ, List.getElem?_toArray, Option.map_some, Option.bind_some, decide_true, decide_false, beq_false, beq_true, Bool.not_true, Bool.not_false, Bool.false_eq_true, pickA, cond_true, cond_false, ln9, b_lss, b_gtr, h1, h2]
      refine .cond (t := true) rfl (.seq (.region [] (by decide) ?_))
      simp only [EOps, EDf, isRd, gdA, callOf, isPanic, nextOf, altA, evalOp, St.ev, Av.get, St.put, argT, ofV, thenQ, Nat.reduceEqDiff, ↓reduceIte, lend, AV.hfs, AV.hf, Bool.and_self, List.map_cons, List.map_nil, List.nil_append, List.append_nil, List.getElem?_cons_zero, List.getElem?_cons_succ, List.getElem?_toArray, Option.map_some, Option.bind_some, decide_true, decide_false, beq_false, beq_true, Bool.not_true, Bool.not_false, Bool.false_eq_true, pickA, cond_true, cond_false]
      rw [hn]
      exact .ret ⟨_, rfl, _, rfl, .refl _⟩
    | false =>
      refine .seq (.seq (.region [.pure (.ret (.bool w))] (by decide) ?_))
      simp only [EOps, EDf, isRd, gdA, callOf, isPanic, nextOf, altA, evalOp, St.ev, Av.get, St.put, argT, ofV, thenQ, Nat.reduceEqDiff, ↓reduceIte, lend, AV.hfs, AV.hf, Bool.and_self, List.map_cons, List.map_nil, List.nil_append, List.append_nil, List.getElem?_cons_zero, List.getElem?_cons_succ, List.getElem?_toArray, Option.map_some, Option.bind_some, decide_true, decide_false, beq_false, beq_true, Bool.not_true, Bool.not_false, Bool.false_eq_true, pickA, cond_true, cond_false, ln9, b_lss, b_gtr, h1, h2, hi0, u_not]
      refine ⟨hp', ?_⟩
      cases w with
      | false =>
        refine .cond (t := true) rfl (.seq (.region [] (by decide) ?_))
        simp only [EOps, EDf, isRd, gdA, callOf, isPanic, nextOf, altA, evalOp, St.ev, Av.get, St.put, argT, ofV, thenQ, Nat.reduceEqDiff, ↓reduceIte, lend, AV.hfs, AV.hf, Bool.and_self, List.map_cons, List.map_nil, List.nil_append, List.append_nil, List.getElem?_cons_zero, List.getElem?_cons_succ, List.getElem?_toArray, Option.map_some, Option.bind_some, decide_true, decide_false, beq_false, beq_true, Bool.not_true, Bool.not_false, Bool.false_eq_true, pickA, cond_true, cond_false]
        rw [hn]
        exact .ret ⟨_, rfl, _, rfl, .refl _⟩
      | true =>
        simp only [Bool.not_false, Bool.true_and] at hn
        refine .cond (t := false) rfl (.skip ?_)
        rw [hn]
        clear hn h2 h1 hs hp' hp
        refine .seq (.seq (.region [] (by decide) ?_))
        simp only [EOps, EDf, isRd, gdA, callOf, isPanic, nextOf, altA, evalOp, St.ev, Av.get, St.put, argT, ofV, thenQ, Nat.reduceEqDiff, ↓reduceIte, lend, AV.hfs, AV.hf, Bool.and_self, List.map_cons, List.map_nil, List.nil_append, List.append_nil, List.getElem?_cons_zero, List.getElem?_cons_succ, List.getElem?_toArray, Option.map_some, Option.bind_some, decide_true, decide_false, beq_false, beq_true, Bool.not_true, Bool.not_false, Bool.false_eq_true, pickA, cond_true, cond_false]
        refine .block ?_
        refine .forR 3 21 22 23 0 s.length hL (Nat.zero_le _) rfl rfl rfl rfl rfl rfl rfl rfl rfl (by decide)
          (fun i => [(0, .str s)]) (fun _ => rfl) (fun _ => []) (fun _ => Nat.zero_le _) (fun i => ((s.drop i).all fun x => okI false x.toNat) = s.all fun x => okI false x.toNat) rfl rfl ?_ ?_ trivial ?_ ?_ ?_
        · simp only [subT, Av.get, Nat.reduceEqDiff, ↓reduceIte, Le_rfl, nat0, nat1, and_self]
        · intro i _
          simp only [hltT, AV.hlt, AV.hlts, strs_hlts, Bool.and_self, Bool.and_true, Bool.true_and]
        · intro i hi hok
          refine .region [] (by decide) ?_
          simp only [EOps, EDf, isRd, gdA, callOf, isPanic, nextOf, altA, evalOp, St.ev, Av.get, St.put, argT, ofV, thenQ, Nat.reduceEqDiff, ↓reduceIte, lend, AV.hfs, AV.hf, Bool.and_self, List.map_cons, List.map_nil, List.nil_append, List.append_nil, List.getElem?_cons_zero, List.getElem?_cons_succ, List.getElem?_toArray, Option.map_some, Option.bind_some, decide_true, decide_false, beq_false, beq_true, Bool.not_true, Bool.not_false, Bool.false_eq_true, pickA, cond_true, cond_false, ln9, b_lss, dlt]
          refine ⟨trivial, ?_, trivial, trivial⟩
          simp only [subT, Av.get, Nat.reduceEqDiff, ↓reduceIte, Le_rfl, nat0, nat1, and_self]
        · intro i hi hok
          obtain ⟨x, hx, hdrop⟩ := drop_at hi
          rw [hdrop, List.all_cons, okI_false] at hok
          have hq : PureFn Tryz.prog 80 [.int .u8 x.toNat] (.ret (.bool (okL x.toNat))) := letter80 x.toNat
          refine .block (.seq (.region [.pure (.ret (.bool (okL x.toNat)))] (by decide) ?_))
          generalize okL x.toNat = w at hq hok ⊢
          generalize h3 : decide ((x.toNat : Int) < 48) = b3 at hok
          generalize h4 : decide ((x.toNat : Int) > 57) = b4 at hok
          generalize h5 : ((x.toNat : Int) != 45) = b5 at hok
          have bad : (w || (!b3 && !b4) || !b5) = false → (s.all fun x => okI false x.toNat) = false := by intro h; rw [← hok, h]; rfl
          have good : (w || (!b3 && !b4) || !b5) = true → ((s.drop (i + 1)).all fun x => okI false x.toNat) = s.all fun x => okI false x.toNat := by intro h; rw [← hok, h, Bool.true_and]
          cases w <;> cases b3 <;> cases b4 <;> cases b5 <;> simp only [EOps, EDf, isRd, gdA, callOf, isPanic, nextOf, altA, evalOp, St.ev, Av.get, St.put, argT, ofV, thenQ, Nat.reduceEqDiff, ↓reduceIte, lend, AV.hfs, AV.hf, Bool.and_self, List.map_cons, List.map_nil, List.nil_append, List.append_nil, List.getElem?_cons_zero, List.getElem?_cons_succ, List.getElem?_toArray, Option.map_some, Option.bind_some, decide_true, decide_false, beq_false, beq_true, Bool.not_true, Bool.not_false, Bool.false_eq_true, pickA, cond_true, cond_false, ix9 _ _ _ hx, b_lss, b_gtr, b_neq, h3, h4, h5, u_not] <;> refine ⟨hq, ?_⟩
          case false.true.true.true | false.true.false.true | false.false.true.true =>
            refine .cond (t := true) rfl (.seq (.region [] (by decide) ?_))
            simp only [EOps, EDf, isRd, gdA, callOf, isPanic, nextOf, altA, evalOp, St.ev, Av.get, St.put, argT, ofV, thenQ, Nat.reduceEqDiff, ↓reduceIte, lend, AV.hfs, AV.hf, Bool.and_self, List.map_cons, List.map_nil, List.nil_append, List.append_nil, List.getElem?_cons_zero, List.getElem?_cons_succ, List.getElem?_toArray, Option.map_some, Option.bind_some, decide_true, decide_false, beq_false, beq_true, Bool.not_true, Bool.not_false, Bool.false_eq_true, pickA, cond_true, cond_false]
            rw [bad rfl]
            exact .ret ⟨_, rfl, _, rfl, .refl _⟩
          all_goals
            refine .cond (t := false) rfl (.skip ?_)
            refine ⟨good rfl, ?_, trivial, rfl⟩
            simp only [subT, Av.get, Nat.reduceEqDiff, ↓reduceIte, Le_rfl, nat0, nat1, and_self]
        · intro hok
          simp only [EOps, EDf, isRd, gdA, callOf, isPanic, nextOf, altA, evalOp, St.ev, Av.get, St.put, argT, ofV, thenQ, Nat.reduceEqDiff, ↓reduceIte, lend, AV.hfs, AV.hf, Bool.and_self, List.map_cons, List.map_nil, List.nil_append, List.append_nil, List.getElem?_cons_zero, List.getElem?_cons_succ, List.getElem?_toArray, Option.map_some, Option.bind_some, decide_true, decide_false, beq_false, beq_true, Bool.not_true, Bool.not_false, Bool.false_eq_true, pickA, cond_true, cond_false, blockQ]
          refine .seq (.region [] (by decide) ?_)
          simp only [EOps, EDf, isRd, gdA, callOf, isPanic, nextOf, altA, evalOp, St.ev, Av.get, St.put, argT, ofV, thenQ, Nat.reduceEqDiff, ↓reduceIte, lend, AV.hfs, AV.hf, Bool.and_self, List.map_cons, List.map_nil, List.nil_append, List.append_nil, List.getElem?_cons_zero, List.getElem?_cons_succ, List.getElem?_toArray, Option.map_some, Option.bind_some, decide_true, decide_false, beq_false, beq_true, Bool.not_true, Bool.not_false, Bool.false_eq_true, pickA, cond_true, cond_false]
          rw [List.drop_length] at hok
          rw [← hok]
          exact .ret ⟨_, rfl, _, rfl, .refl _⟩
end Go.Proofs.YtmeijkidjifagaaGreat
