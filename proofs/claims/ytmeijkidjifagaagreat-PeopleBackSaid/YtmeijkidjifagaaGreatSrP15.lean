/- Contracts of functions that the statements of this seat reach: under the conditions named at each theorem. -/
import Derived.Test.YtmeijkidjifagaaGreatSrP14
import Derived.Test.YtmeijkidjifagaaGreatSvP7
namespace Go.Proofs.YtmeijkidjifagaaGreat
set_option linter.unusedVariables false
set_option linter.unusedSimpArgs false
open Go Go.Av

set_option maxRecDepth 100000 in
theorem among73 (x : Bool) (l : List Bytes) (s : Bytes) (hl : l.length ≤ 1000) : PureFn Tryz.prog 73 [.vsl 0 x (l.map .str), .str s] (.ret (.bool (l.any fun u => u == s))) := by
  refine PureFn.of Tryz.func73 rfl (enters_call enters Tryz.func73 rfl) (by simp [Tryz.ntmps73]) ?_
  show W Tryz.prog 18 _ none _ _ _
  refine .seq (.region [] (by decide) ?_)
  simp only [EOps, EDf, isRd, gdA, callOf, isPanic, nextOf, altA, evalOp, St.ev, Av.get, St.put, argT, ofV, thenQ, Nat.reduceEqDiff, ↓reduceIte, Bool.and_self, List.map_cons, List.map_nil, List.nil_append, List.append_nil, List.getElem?_cons_zero, List.getElem?_cons_succ, List.getElem?_toArray, Option.map_some, Option.bind_some, decide_true, decide_false, beq_false, beq_true, Bool.not_true, Bool.not_false, Bool.false_eq_true, pickA, cond_true, cond_false]
  refine .seq (.seq (.region [] (by decide) ?_))
  simp only [EOps, EDf, isRd, gdA, callOf, isPanic, nextOf, altA, evalOp, St.ev, Av.get, St.put, argT, ofV, thenQ, Nat.reduceEqDiff, ↓reduceIte, Bool.and_self, List.map_cons, List.map_nil, List.nil_append, List.append_nil, List.getElem?_cons_zero, List.getElem?_cons_succ, List.getElem?_toArray, Option.map_some, Option.bind_some, decide_true, decide_false, beq_false, beq_true, Bool.not_true, Bool.not_false, Bool.false_eq_true, pickA, cond_true, cond_false]
  refine .block ?_
  refine .forR 5 9 10 11 0 l.length (by simp only [maxLen']; omega) (Nat.zero_le _) rfl rfl rfl rfl rfl rfl rfl rfl rfl (by decide)
    (fun i => [(0, .vsl 0 x (l.map .str)), (1, .str s)]) (fun _ => rfl) (fun _ => []) (fun _ => Nat.zero_le _) (fun i => ((l.drop i).any fun u => u == s) = l.any fun u => u == s) rfl rfl ?_ ?_ (subH_nil _ _) ?_ ?_ ?_
  · simp only [subT, Av.get, Nat.reduceEqDiff, ↓reduceIte, Le_rfl, nat0, nat1, and_self]
  · intro i _
    simp only [hltT, AV.hlt, strs_hlts, Bool.true_and, Bool.and_true]
  · intro i hi _
    refine .region [] (by decide) ?_
    simp only [EOps, EDf, isRd, gdA, callOf, isPanic, nextOf, altA, evalOp, St.ev, Av.get, St.put, argT, ofV, thenQ, Nat.reduceEqDiff, ↓reduceIte, Bool.and_self, List.map_cons, List.map_nil, List.nil_append, List.append_nil, List.getElem?_cons_zero, List.getElem?_cons_succ, List.getElem?_toArray, Option.map_some, Option.bind_some, decide_true, decide_false, beq_false, beq_true, Bool.not_true, Bool.not_false, Bool.false_eq_true, pickA, cond_true, cond_false, ln26, b_lss, dlt]
    refine ⟨trivial, ?_, subH_nil _ _, trivial⟩
    simp only [subT, Av.get, Nat.reduceEqDiff, ↓reduceIte, Le_rfl, nat0, nat1, and_self]
  · intro i hi hok
    obtain ⟨u, hu, hdu⟩ := drop_at hi
    rw [hdu, List.any_cons] at hok
    generalize hb : (u == s) = b at hok
    refine .block (.seq (.region [] (by decide) ?_))
    cases b with
    | true =>
      simp only [EOps, EDf, isRd, gdA, callOf, isPanic, nextOf, altA, evalOp, St.ev, Av.get, St.put, argT, ofV, thenQ, Nat.reduceEqDiff, ↓reduceIte, Bool.and_self, List.map_cons, List.map_nil, List.nil_append, List.append_nil, List.getElem?_cons_zero, List.getElem?_cons_succ, List.getElem?_toArray, Option.map_some, Option.bind_some, decide_true, decide_false, beq_false, beq_true, Bool.not_true, Bool.not_false, Bool.false_eq_true, pickA, cond_true, cond_false, ia26 _ _ _ _ hu, ld9v, s_eql, hb]
      refine .cond (t := true) rfl (.seq (.region [] (by decide) ?_))
      simp only [EOps, EDf, isRd, gdA, callOf, isPanic, nextOf, altA, evalOp, St.ev, Av.get, St.put, argT, ofV, thenQ, Nat.reduceEqDiff, ↓reduceIte, Bool.and_self, List.map_cons, List.map_nil, List.nil_append, List.append_nil, List.getElem?_cons_zero, List.getElem?_cons_succ, List.getElem?_toArray, Option.map_some, Option.bind_some, decide_true, decide_false, beq_false, beq_true, Bool.not_true, Bool.not_false, Bool.false_eq_true, pickA, cond_true, cond_false]
      rw [← hok]
      exact .ret ⟨_, rfl, _, rfl, .refl _⟩
    | false =>
      simp only [EOps, EDf, isRd, gdA, callOf, isPanic, nextOf, altA, evalOp, St.ev, Av.get, St.put, argT, ofV, thenQ, Nat.reduceEqDiff, ↓reduceIte, Bool.and_self, List.map_cons, List.map_nil, List.nil_append, List.append_nil, List.getElem?_cons_zero, List.getElem?_cons_succ, List.getElem?_toArray, Option.map_some, Option.bind_some, decide_true, decide_false, beq_false, beq_true, Bool.not_true, Bool.not_false, Bool.false_eq_true, pickA, cond_true, cond_false, ia26 _ _ _ _ hu, ld9v, s_eql, hb]
      refine .cond (t := false) rfl (.skip ?_)
      refine ⟨by rw [← hok]; rfl, ?_, subH_nil _ _, rfl⟩
      simp only [subT, Av.get, Nat.reduceEqDiff, ↓reduceIte, Le_rfl, nat0, nat1, and_self]
  · intro hok
    simp only [EOps, EDf, isRd, gdA, callOf, isPanic, nextOf, altA, evalOp, St.ev, Av.get, St.put, argT, ofV, thenQ, Nat.reduceEqDiff, ↓reduceIte, Bool.and_self, List.map_cons, List.map_nil, List.nil_append, List.append_nil, List.getElem?_cons_zero, List.getElem?_cons_succ, List.getElem?_toArray, Option.map_some, Option.bind_some, decide_true, decide_false, beq_false, beq_true, Bool.not_true, Bool.not_false, Bool.false_eq_true, pickA, cond_true, cond_false, blockQ]
    refine .seq (.region [] (by decide) ?_)
    simp only [EOps, EDf, isRd, gdA, callOf, isPanic, nextOf, altA, evalOp, St.ev, Av.get, St.put, argT, ofV, thenQ, Nat.reduceEqDiff, ↓reduceIte, Bool.and_self, List.map_cons, List.map_nil, List.nil_append, List.append_nil, List.getElem?_cons_zero, List.getElem?_cons_succ, List.getElem?_toArray, Option.map_some, Option.bind_some, decide_true, decide_false, beq_false, beq_true, Bool.not_true, Bool.not_false, Bool.false_eq_true, pickA, cond_true, cond_false]
    rw [List.drop_length] at hok
    rw [← hok]
    exact .ret ⟨_, rfl, _, rfl, .refl _⟩

set_option maxRecDepth 100000 in
theorem twice72 (x : Bool) (l : List Bytes) (hl : l.length ≤ 1000) (hu : Up l) : PureFn Tryz.prog 72 [.vsl 0 x (l.map .str)] (.ret (.bool false)) := by
  refine PureFn.of Tryz.func72 rfl (enters_call enters Tryz.func72 rfl) (by simp [Tryz.ntmps72]) ?_
  show W Tryz.prog 18 _ none _ _ _
  refine .seq (.region [] (by decide) ?_)
  simp only [EOps, EDf, isRd, gdA, callOf, isPanic, nextOf, altA, evalOp, St.ev, Av.get, St.put, argT, ofV, thenQ, Nat.reduceEqDiff, ↓reduceIte, Bool.and_self, List.map_cons, List.map_nil, List.nil_append, List.append_nil, List.getElem?_cons_zero, List.getElem?_cons_succ, List.getElem?_toArray, Option.map_some, Option.bind_some, decide_true, decide_false, beq_false, beq_true, Bool.not_true, Bool.not_false, Bool.false_eq_true, pickA, cond_true, cond_false]
  refine .seq (.seq (.region [] (by decide) ?_))
  simp only [EOps, EDf, isRd, gdA, callOf, isPanic, nextOf, altA, evalOp, St.ev, Av.get, St.put, argT, ofV, thenQ, Nat.reduceEqDiff, ↓reduceIte, Bool.and_self, List.map_cons, List.map_nil, List.nil_append, List.append_nil, List.getElem?_cons_zero, List.getElem?_cons_succ, List.getElem?_toArray, Option.map_some, Option.bind_some, decide_true, decide_false, beq_false, beq_true, Bool.not_true, Bool.not_false, Bool.false_eq_true, pickA, cond_true, cond_false]
  refine .block ?_
  refine .forR 3 7 8 9 0 l.length (by simp only [maxLen']; omega) (Nat.zero_le _) rfl rfl rfl rfl rfl rfl rfl rfl rfl (by decide)
    (fun i => [(0, .vsl 0 x (l.map .str))]) (fun _ => rfl) (fun _ => []) (fun _ => Nat.zero_le _) (fun i => True) rfl trivial ?_ ?_ (subH_nil _ _) ?_ ?_ ?_
  · simp only [subT, Av.get, Nat.reduceEqDiff, ↓reduceIte, Le_rfl, nat0, nat1, and_self]
  · intro i _
    simp only [hltT, AV.hlt, strs_hlts, Bool.true_and, Bool.and_true]
  · intro i hi _
    refine .region [] (by decide) ?_
    simp only [EOps, EDf, isRd, gdA, callOf, isPanic, nextOf, altA, evalOp, St.ev, Av.get, St.put, argT, ofV, thenQ, Nat.reduceEqDiff, ↓reduceIte, Bool.and_self, List.map_cons, List.map_nil, List.nil_append, List.append_nil, List.getElem?_cons_zero, List.getElem?_cons_succ, List.getElem?_toArray, Option.map_some, Option.bind_some, decide_true, decide_false, beq_false, beq_true, Bool.not_true, Bool.not_false, Bool.false_eq_true, pickA, cond_true, cond_false, ln26, b_lss, dlt]
    refine ⟨trivial, ?_, subH_nil _ _, trivial⟩
    simp only [subT, Av.get, Nat.reduceEqDiff, ↓reduceIte, Le_rfl, nat0, nat1, and_self]
  · intro i hi _
    obtain ⟨u, hu', hdu⟩ := drop_at hi
    have hno : ((l.take i).any fun w => w == u) = false := by
      rw [List.any_eq_false]
      intro w hw
      have hsplit : l = l.take i ++ u :: l.drop (i + 1) := by rw [← hdu, List.take_append_drop]
      rw [hsplit] at hu
      have := (List.pairwise_append.1 hu).2.2 w hw u (by simp)
      simpa using b_lt_ne this
    have htl : (l.take i).length ≤ 1000 := by simp; omega
    have hsl : evSlice Tryz.prog 26 (.vsl 0 x (l.map .str)) none (some (.int .i64 (i : Int))) none = some (.vsl 0 (x && i == l.length) ((l.take i).map .str)) := by
      have hix : idx (.int .i64 (i : Int)) = some i := by simp [idx]
      have hle : i ≤ l.length := by omega
      simp [evSlice, Tryz.underlying26, tz9, bnds, hix, hle, List.map_take]
    have p1 := among73 (x && i == l.length) (l.take i) u htl
    rw [hno] at p1
    have hl1 : ∀ H o, lend H [.vsl 0 (x && i == l.length) ((l.take i).map .str), .str u] o = some [.vsl 0 (x && i == l.length) ((l.take i).map .str), .str u] := by intro H o; simp only [lend, AV.hfs, AV.hf, strs_hfs, Bool.and_self, if_true]
    generalize (x && i == l.length) = z at *
    generalize l.take i = t at *
    refine .block (.seq (.drawf [.pure (.ret (.bool false))] mixed (by kernel_rfl) (by kernel_rfl) (by kernel_rfl) ?_))
    simp only [EOps, EDf, isRd, gdA, callOf, isPanic, nextOf, altA, evalOp, St.ev, Av.get, St.put, argT, ofV, thenQ, Nat.reduceEqDiff, ↓reduceIte, Bool.and_self, List.map_cons, List.map_nil, List.nil_append, List.append_nil, List.getElem?_cons_zero, List.getElem?_cons_succ, List.getElem?_toArray, Option.map_some, Option.bind_some, decide_true, decide_false, beq_false, beq_true, Bool.not_true, Bool.not_false, Bool.false_eq_true, pickA, cond_true, cond_false, ia26 _ _ _ _ hu', ld9v, Option.map_none, hsl, hl1]
    refine ⟨p1, .cond (t := false) rfl (.skip ?_)⟩
    refine ⟨trivial, ?_, subH_nil _ _, rfl⟩
    simp only [subT, Av.get, Nat.reduceEqDiff, ↓reduceIte, Le_rfl, nat0, nat1, and_self]
  · intro _
    simp only [EOps, EDf, isRd, gdA, callOf, isPanic, nextOf, altA, evalOp, St.ev, Av.get, St.put, argT, ofV, thenQ, Nat.reduceEqDiff, ↓reduceIte, Bool.and_self, List.map_cons, List.map_nil, List.nil_append, List.append_nil, List.getElem?_cons_zero, List.getElem?_cons_succ, List.getElem?_toArray, Option.map_some, Option.bind_some, decide_true, decide_false, beq_false, beq_true, Bool.not_true, Bool.not_false, Bool.false_eq_true, pickA, cond_true, cond_false, blockQ]
    refine .seq (.region [] (by decide) ?_)
    simp only [EOps, EDf, isRd, gdA, callOf, isPanic, nextOf, altA, evalOp, St.ev, Av.get, St.put, argT, ofV, thenQ, Nat.reduceEqDiff, ↓reduceIte, Bool.and_self, List.map_cons, List.map_nil, List.nil_append, List.append_nil, List.getElem?_cons_zero, List.getElem?_cons_succ, List.getElem?_toArray, Option.map_some, Option.bind_some, decide_true, decide_false, beq_false, beq_true, Bool.not_true, Bool.not_false, Bool.false_eq_true, pickA, cond_true, cond_false]
    exact .ret ⟨_, rfl, _, rfl, .refl _⟩

/-- A change that may be. -/
structure MayK (m : Mk) : Prop where
  kind : m.1 = 1 ∨ m.1 = 2 ∨ m.1 = 3
  name : isName m.2.1 = true
  few : m.2.2.2.length ≤ 16
  vals : m.2.2.2.all valueB = true
  some : m.1 = 1 → m.2.2.2 ≠ []
set_option maxRecDepth 100000 in
theorem may42 (m : Mk) (h : MayK m) : PureFn Tryz.prog 42 [encK m] (.ret (.bool true)) := by
  obtain ⟨k, n, f, l⟩ := m
  obtain ⟨hk, hn, hf, hv, hs⟩ := h
  simp only at hk hn hf hv hs
  refine PureFn.of Tryz.func42 rfl (enters_call enters Tryz.func42 rfl) (by simp [Tryz.ntmps42]) ?_
  show W Tryz.prog 38 _ none _ _ _
  have ht : (encK (k, n, f, l)).told = true := rfl
  refine .seq (.region [] (by decide) ?_)
  simp only [EOps, EDf, isRd, gdA, callOf, isPanic, nextOf, altA, evalOp, St.ev, Av.get, St.put, argT, ofV, thenQ, Nat.reduceEqDiff, ↓reduceIte, Bool.and_self, List.map_cons, List.map_nil, List.nil_append, List.append_nil, List.getElem?_cons_zero, List.getElem?_cons_succ, List.getElem?_toArray, Option.map_some, Option.bind_some, decide_true, decide_false, beq_false, beq_true, Bool.not_true, Bool.not_false, Bool.false_eq_true, pickA, cond_true, cond_false, ht, if_true, List.length_nil, encK_cells]
  have k0 : evLoad Tryz.prog 66 (.ptr 0 0) [.cells (kcell (k, n, f, l)) false] = some (.int .i64 k) := by simp [evLoad, tz66, tg66, ldA, kcell]
  have k1 : evLoad Tryz.prog 9 (.ptr 0 1) [.cells (kcell (k, n, f, l)) false] = some (.str n) := ld9 _ 0 1 _ _ _ rfl rfl
  have k2 : evLoad Tryz.prog 26 (.ptr 0 2) [.cells (kcell (k, n, f, l)) false] = some (.vsl 0 f (l.map .str)) := ld26 _ 0 2 _ _ _ rfl rfl
  have p1 := name57 n
  rw [hn] at p1
  have p2 := values58' f l
  rw [hv] at p2
  have d3 : decide ((l.length : Int) ≤ 16) = true := decide_eq_true (by omega)
  have hl1 : ∀ H o, lend H [.str n] o = some [.str n] := by intro H o; simp [lend, AV.hfs, AV.hf]
  have hl2 : ∀ H o, lend H [.vsl 0 f (l.map .str)] o = some [.vsl 0 f (l.map .str)] := by intro H o; simp [lend, AV.hfs, AV.hf, strs_hfs]
  generalize [OB.cells (kcell (k, n, f, l)) false] = M at *
  refine .seq (.region [] (by decide) ?_)
  simp only [EOps, EDf, isRd, gdA, callOf, isPanic, nextOf, altA, evalOp, St.ev, Av.get, St.put, argT, ofV, thenQ, Nat.reduceEqDiff, ↓reduceIte, Bool.and_self, List.map_cons, List.map_nil, List.nil_append, List.append_nil, List.getElem?_cons_zero, List.getElem?_cons_succ, List.getElem?_toArray, Option.map_some, Option.bind_some, decide_true, decide_false, beq_false, beq_true, Bool.not_true, Bool.not_false, Bool.false_eq_true, pickA, cond_true, cond_false, fa68_0, k0]
  refine .seq (.region [.pure (.ret (.bool true)), .pure (.ret (.bool true))] (by decide) ?_)
  rcases hk with rfl | rfl | rfl
  · have d1 : decide ((1 : Int) ≥ 1) = true := rfl
    have d2 : decide ((1 : Int) ≤ 3) = true := rfl
    have d5 : ((1 : Int) != 1) = false := rfl
    have d4 : decide ((l.length : Int) > 0) = true := decide_eq_true (by have := List.length_pos_iff.2 (hs rfl); omega)
    simp only [EOps, EDf, isRd, gdA, callOf, isPanic, nextOf, altA, evalOp, St.ev, Av.get, St.put, argT, ofV, thenQ, Nat.reduceEqDiff, ↓reduceIte, Bool.and_self, List.map_cons, List.map_nil, List.nil_append, List.append_nil, List.getElem?_cons_zero, List.getElem?_cons_succ, List.getElem?_toArray, Option.map_some, Option.bind_some, decide_true, decide_false, beq_false, beq_true, Bool.not_true, Bool.not_false, Bool.false_eq_true, pickA, cond_true, cond_false, fa68_0, fa68_1, fa68_2, k0, k1, k2, b_geq, b_leq, b_neq, b_gtr, d1, d2, d3, d4, d5, hl1, hl2, ln26]
    exact ⟨p1, p2, .ret ⟨_, rfl, _, rfl, .refl _⟩⟩
  · have d1 : decide ((2 : Int) ≥ 1) = true := rfl
    have d2 : decide ((2 : Int) ≤ 3) = true := rfl
    have d5 : ((2 : Int) != 1) = true := rfl
    simp only [EOps, EDf, isRd, gdA, callOf, isPanic, nextOf, altA, evalOp, St.ev, Av.get, St.put, argT, ofV, thenQ, Nat.reduceEqDiff, ↓reduceIte, Bool.and_self, List.map_cons, List.map_nil, List.nil_append, List.append_nil, List.getElem?_cons_zero, List.getElem?_cons_succ, List.getElem?_toArray, Option.map_some, Option.bind_some, decide_true, decide_false, beq_false, beq_true, Bool.not_true, Bool.not_false, Bool.false_eq_true, pickA, cond_true, cond_false, fa68_0, fa68_1, fa68_2, k0, k1, k2, b_geq, b_leq, b_neq, b_gtr, d1, d2, d3, d5, hl1, hl2, ln26]
    exact ⟨p1, p2, .ret ⟨_, rfl, _, rfl, .refl _⟩⟩
  · have d1 : decide ((3 : Int) ≥ 1) = true := rfl
    have d2 : decide ((3 : Int) ≤ 3) = true := rfl
    have d5 : ((3 : Int) != 1) = true := rfl
    simp only [EOps, EDf, isRd, gdA, callOf, isPanic, nextOf, altA, evalOp, St.ev, Av.get, St.put, argT, ofV, thenQ, Nat.reduceEqDiff, ↓reduceIte, Bool.and_self, List.map_cons, List.map_nil, List.nil_append, List.append_nil, List.getElem?_cons_zero, List.getElem?_cons_succ, List.getElem?_toArray, Option.map_some, Option.bind_some, decide_true, decide_false, beq_false, beq_true, Bool.not_true, Bool.not_false, Bool.false_eq_true, pickA, cond_true, cond_false, fa68_0, fa68_1, fa68_2, k0, k1, k2, b_geq, b_leq, b_neq, b_gtr, d1, d2, d3, d5, hl1, hl2, ln26]
    exact ⟨p1, p2, .ret ⟨_, rfl, _, rfl, .refl _⟩⟩

/-! An attribute set. -/
def stepS1 (n : Bytes) (v : Val) (st : List Atr × Bool) (a : Atr) : List Atr × Bool := if (!st.2 && !(Op.bytesLess a.1 n)) = true then (st.1 ++ [(n, v.1, v.2)], true) else st
def stepS (n : Bytes) (v : Val) (st : List Atr × Bool) (a : Atr) : List Atr × Bool := if (!(a.1 == n)) = true then ((stepS1 n v st a).1 ++ [a], (stepS1 n v st a).2) else stepS1 n v st a
def setS (e : List Atr) (n : Bytes) (v : Val) : List Atr × Bool := e.foldl (stepS n v) ([], ((v.2.length : Int) == 0))
def endS (n : Bytes) (v : Val) (st : List Atr × Bool) : List Atr := if (!st.2) = true then st.1 ++ [(n, v.1, v.2)] else st.1
def setE (e : List Atr) (n : Bytes) (v : Val) : List Atr := endS n v (setS e n v)
theorem setS_succ (e : List Atr) (n : Bytes) (v : Val) (i : Nat) (a : Atr) (h : e[i]? = some a) : setS (e.take (i + 1)) n v = stepS n v (setS (e.take i) n v) a := by
  unfold setS
  rw [List.take_add_one, h, List.foldl_append]; rfl
theorem setS_len (e : List Atr) (n : Bytes) (v : Val) : ∀ i, i ≤ e.length → (setS (e.take i) n v).1.length ≤ 2 * i
  | 0, _ => by simp [setS]
  | i + 1, h => by
    have ih := setS_len e n v i (by omega)
    rw [setS_succ e n v i _ (List.getElem?_eq_getElem (by omega))]
    generalize setS (e.take i) n v = st at ih
    have h1 : (stepS1 n v st e[i]).1.length ≤ st.1.length + 1 := by unfold stepS1; split <;> simp
    unfold stepS
    split
    · simp; omega
    · omega
theorem stepS_done (n : Bytes) (v : Val) : ∀ (e acc : List Atr), e.foldl (stepS n v) (acc, true) = (acc ++ e.filter (fun a => !(a.1 == n)), true)
  | [], acc => by simp
  | a :: e, acc => by
    have h : stepS n v (acc, true) a = (acc ++ (if (!(a.1 == n)) = true then [a] else []), true) := by
      unfold stepS stepS1
      simp only [Bool.not_true, Bool.false_and, Bool.false_eq_true, if_false]
      split <;> simp
    rw [List.foldl_cons, h, stepS_done n v e, List.filter_cons]
    split <;> simp
theorem insA_front {n : Bytes} {v : Val} {l : List Atr} (h : ∀ b ∈ l, ¬ b.1 < n) : insA n v l = (n, v.1, v.2) :: l := by
  cases l with
  | nil => simp [insA, kIn]
  | cons b l => rw [insA_cons, less_lt, if_neg (by simpa using h b (by simp))]
theorem endS_form (n : Bytes) (v : Val) : ∀ (e acc : List Atr), Ent e → endS n v (e.foldl (stepS n v) (acc, false)) = acc ++ insA n v (e.filter fun a => !(a.1 == n))
  | [], acc, _ => by simp [endS, insA, kIn]
  | a :: e, acc, he => by
    rw [List.foldl_cons]
    rcases b_tri a.1 n with hlt | heq | hgt
    · have hne : (a.1 == n) = false := by simpa using b_lt_ne hlt
      have hs : stepS n v (acc, false) a = (acc ++ [a], false) := by
        unfold stepS stepS1
        simp [less_lt, hlt, hne]
      rw [hs, endS_form n v e _ he.tail, List.filter_cons]
      simp only [hne, Bool.not_false, if_true]
      rw [insA_cons, less_lt, if_pos (by simpa using hlt)]; simp
    · have hne : (a.1 == n) = true := by simpa using heq
      have hnl : ¬ a.1 < n := by rw [heq]; exact b_lt_irrefl _
      have hs : stepS n v (acc, false) a = (acc ++ [(n, v.1, v.2)], true) := by
        unfold stepS stepS1
        simp [less_lt, hnl, hne]
      rw [hs, stepS_done, List.filter_cons]
      simp only [hne, Bool.not_true, Bool.false_eq_true, if_false]
      rw [insA_front]
      · simp [endS]
      · intro b hb h
        have := he.gt b (List.mem_filter.1 hb).1
        rw [heq] at this
        exact b_lt_irrefl _ (b_lt_trans h this)
    · have hne : (a.1 == n) = false := by simpa using (b_lt_ne hgt).symm
      have hnl : ¬ a.1 < n := fun h => b_lt_irrefl _ (b_lt_trans h hgt)
      have hs : stepS n v (acc, false) a = (acc ++ [(n, v.1, v.2)] ++ [a], true) := by
        unfold stepS stepS1
        simp [less_lt, hnl, hne]
      rw [hs, stepS_done, List.filter_cons]
      simp only [hne, Bool.not_false, if_true]
      rw [insA_cons, less_lt, if_neg (by simpa using hnl)]
      simp [endS]
theorem setE_law {e : List Atr} (he : Ent e) (n : Bytes) (v : Val) (hv : Up v.2) : Ent (setE e n v) ∧ ∀ k, getE (setE e n v) k = if k = n then v.2 else getE e k := by
  have hf := ent_filter he fun a => !(a.1 == n)
  have hg : ∀ k, getE (e.filter fun a => !(a.1 == n)) k = if k = n then [] else getE e k := by
    intro k
    rw [getE_filter (fun m => !(m == n))]
    by_cases h : k = n <;> simp [h]
  by_cases h0 : v.2 = []
  · have : setE e n v = e.filter fun a => !(a.1 == n) := by
      unfold setE setS
      rw [h0, show ((([] : List Bytes).length : Int) == 0) = true from rfl, stepS_done]
      simp [endS]
    rw [this]
    refine ⟨hf, fun k => by rw [hg, h0]⟩
  · have : setE e n v = insA n v (e.filter fun a => !(a.1 == n)) := by
      unfold setE setS
      have hz : ((v.2.length : Int) == 0) = false := by simpa using h0
      rw [hz, endS_form n v e [] he]; rfl
    rw [this]
    obtain ⟨g1, g2⟩ := ent_ins h0 hv hf fun a ha => by have := (List.mem_filter.1 ha).2; simpa using this
    refine ⟨g1, fun k => ?_⟩
    rw [g2, hg]
    by_cases h : k = n <;> simp [h]

set_option maxRecDepth 100000 in
theorem set74 (x : Bool) (e : List Atr) (n : Bytes) (v : Val) (he : e.length ≤ 1000) : PureFn Tryz.prog 74 [.vsl 3 x (e.map encE), .str n, encV v] (.ret (.vsl 3 false ((setE e n v).map encE))) := by
  have hvh : (encV v).hf = true := by simp only [encV, AV.hf]; exact strs_hfs _
  have hbd : evBuild Tryz.prog 53 [(0, .str n), (1, encV v)] = some (encE (n, v.1, v.2)) := bd53 n (encV v) rfl rfl
  have hln : ∀ H, evLen Tryz.prog 26 (encV v) H = some (.int .i64 v.2.length) := fun H => ln26 _ _ _
  have hap : ∀ (L : List Atr) (a : Atr), L.length ≤ 100000 → evAppend Tryz.prog 23 23 (growW 0 0 3 L) (.vsl 3 true [encE a]) (grow [] encE L) = some (growW 0 0 3 (L ++ [a]), grow [] encE (L ++ [a])) := fun L a h => ap23 L a (by omega)
  refine PureFn.of Tryz.func74 rfl (enters_call enters Tryz.func74 rfl) (by simp [Tryz.ntmps74]) ?_
  show W Tryz.prog 59 _ none _ _ _
  refine .seq (.region [] (by decide) ?_)
  simp only [EOps, EDf, isRd, gdA, callOf, isPanic, nextOf, altA, evalOp, St.ev, Av.get, St.put, argT, ofV, thenQ, Nat.reduceEqDiff, ↓reduceIte, Bool.and_self, List.map_cons, List.map_nil, List.nil_append, List.append_nil, List.getElem?_cons_zero, List.getElem?_cons_succ, List.getElem?_toArray, Option.map_some, Option.bind_some, decide_true, decide_false, beq_false, beq_true, Bool.not_true, Bool.not_false, Bool.false_eq_true, pickA, cond_true, cond_false, and_self, if_true]
  refine .seq (.region [] (by decide) ?_)
  simp only [EOps, EDf, isRd, gdA, callOf, isPanic, nextOf, altA, evalOp, St.ev, Av.get, St.put, argT, ofV, thenQ, Nat.reduceEqDiff, ↓reduceIte, Bool.and_self, List.map_cons, List.map_nil, List.nil_append, List.append_nil, List.getElem?_cons_zero, List.getElem?_cons_succ, List.getElem?_toArray, Option.map_some, Option.bind_some, decide_true, decide_false, beq_false, beq_true, Bool.not_true, Bool.not_false, Bool.false_eq_true, pickA, cond_true, cond_false, and_self, if_true]
  refine .seq (.region [] (by decide) ?_)
  simp only [EOps, EDf, isRd, gdA, callOf, isPanic, nextOf, altA, evalOp, St.ev, Av.get, St.put, argT, ofV, thenQ, Nat.reduceEqDiff, ↓reduceIte, Bool.and_self, List.map_cons, List.map_nil, List.nil_append, List.append_nil, List.getElem?_cons_zero, List.getElem?_cons_succ, List.getElem?_toArray, Option.map_some, Option.bind_some, decide_true, decide_false, beq_false, beq_true, Bool.not_true, Bool.not_false, Bool.false_eq_true, pickA, cond_true, cond_false, hln, b_eql]
  refine .seq (.seq (.region [] (by decide) ?_))
  simp only [EOps, EDf, isRd, gdA, callOf, isPanic, nextOf, altA, evalOp, St.ev, Av.get, St.put, argT, ofV, thenQ, Nat.reduceEqDiff, ↓reduceIte, Bool.and_self, List.map_cons, List.map_nil, List.nil_append, List.append_nil, List.getElem?_cons_zero, List.getElem?_cons_succ, List.getElem?_toArray, Option.map_some, Option.bind_some, decide_true, decide_false, beq_false, beq_true, Bool.not_true, Bool.not_false, Bool.false_eq_true, pickA, cond_true, cond_false]
  refine .block ?_
  have hH : ∀ m L, (grow [] encE L).all (OB.hlt m) = true := fun m L => grow_hlt rfl (fun a => by simp only [encE, AV.cells, AV.hlts, AV.hlt, strs_hlts, Bool.and_self]) L
  refine .forR 9 16 17 18 0 e.length (by simp only [maxLen']; omega) (Nat.zero_le _) rfl rfl rfl rfl rfl rfl rfl rfl rfl (by decide)
    (fun i => [(7, growW 0 0 3 (setS (e.take i) n v).1), (8, .bool (setS (e.take i) n v).2), (0, .vsl 3 x (e.map encE)), (1, .str n), (2, encV v)]) (fun _ => rfl) (fun i => grow [] encE (setS (e.take i) n v).1) (fun _ => Nat.zero_le _) (fun i => i ≤ e.length) rfl (Nat.zero_le _) ?_ ?_ (subH_nil _ _) ?_ ?_ ?_
  · simp only [subT, Av.get, Nat.reduceEqDiff, ↓reduceIte, Le_rfl, nat0, nat1, and_self, setS, List.take_zero, List.foldl_nil, growW]
  · intro i _
    have h1 : (growW 0 0 3 (setS (e.take i) n v).1).hlt (grow [] encE (setS (e.take i) n v).1).length = true := growW_hlt _ (by rw [grow_len]; simp)
    simp only [hltT, h1, AV.hlt, encE_hlts, hf_hlt hvh, Bool.true_and, Bool.and_true]
  · intro i hi _
    refine .region [] (by decide) ?_
    simp only [EOps, EDf, isRd, gdA, callOf, isPanic, nextOf, altA, evalOp, St.ev, Av.get, St.put, argT, ofV, thenQ, Nat.reduceEqDiff, ↓reduceIte, Bool.and_self, List.map_cons, List.map_nil, List.nil_append, List.append_nil, List.getElem?_cons_zero, List.getElem?_cons_succ, List.getElem?_toArray, Option.map_some, Option.bind_some, decide_true, decide_false, beq_false, beq_true, Bool.not_true, Bool.not_false, Bool.false_eq_true, pickA, cond_true, cond_false, ln23, b_lss, dlt]
    refine ⟨trivial, ?_, subH_self (hH _ _), trivial⟩
    simp only [subT, Av.get, Nat.reduceEqDiff, ↓reduceIte, Le_rfl, nat0, nat1, and_self]
  · intro i hi _
    obtain ⟨u, hu, hdu⟩ := drop_at hi
    have hsl := setS_len e n v i (by omega)
    have hsu := setS_succ e n v i u hu
    generalize setS (e.take i) n v = st at hsl hsu
    generalize setS (e.take (i + 1)) n v = st' at hsu
    obtain ⟨o, d⟩ := st
    simp only at hsl ⊢
    refine .block ?_
    have h1l : (stepS1 n v (o, d) u).1.length ≤ o.length + 1 := by unfold stepS1; split <;> simp
    refine .seqP True [(7, growW 0 0 3 (stepS1 n v (o, d) u).1), (8, .bool (stepS1 n v (o, d) u).2), (9, .int .i64 (i : Int)), (0, .vsl 3 x (e.map encE)), (1, .str n), (2, encV v)] (grow [] encE (stepS1 n v (o, d) u).1) ?_ ?_
    · have hstep : stepS1 n v (o, d) u = if (!d && !(Op.bytesLess u.1 n)) = true then (o ++ [(n, v.1, v.2)], true) else (o, d) := rfl
      generalize stepS1 n v (o, d) u = w at hstep
      generalize h2 : Op.bytesLess u.1 n = b2 at hstep
      cases d with
      | true =>
        simp only [Bool.not_true, Bool.false_and, Bool.false_eq_true, if_false] at hstep
        subst hstep
        refine .seq (.region [] (by decide) ?_)
        simp only [EOps, EDf, isRd, gdA, callOf, isPanic, nextOf, altA, evalOp, St.ev, Av.get, St.put, argT, ofV, thenQ, Nat.reduceEqDiff, ↓reduceIte, Bool.and_self, List.map_cons, List.map_nil, List.nil_append, List.append_nil, List.getElem?_cons_zero, List.getElem?_cons_succ, List.getElem?_toArray, Option.map_some, Option.bind_some, decide_true, decide_false, beq_false, beq_true, Bool.not_true, Bool.not_false, Bool.false_eq_true, pickA, cond_true, cond_false, u_not]
        refine .cond (t := false) rfl (.skip ?_)
        refine ⟨by trivial, ?_, by trivial, by trivial⟩
        simp [holdsT, Av.get]
      | false =>
        refine .seq (.region [] (by decide) ?_)
        cases b2 with
        | true =>
          simp only [Bool.not_false, Bool.not_true, Bool.and_false, Bool.false_eq_true, if_false] at hstep
          subst hstep
          simp only [EOps, EDf, isRd, gdA, callOf, isPanic, nextOf, altA, evalOp, St.ev, Av.get, St.put, argT, ofV, thenQ, Nat.reduceEqDiff, ↓reduceIte, Bool.and_self, List.map_cons, List.map_nil, List.nil_append, List.append_nil, List.getElem?_cons_zero, List.getElem?_cons_succ, List.getElem?_toArray, Option.map_some, Option.bind_some, decide_true, decide_false, beq_false, beq_true, Bool.not_true, Bool.not_false, Bool.false_eq_true, pickA, cond_true, cond_false, u_not, ia23 _ _ _ _ hu, faE0, ldE0, s_geq, h2]
          refine .cond (t := false) rfl (.skip ?_)
          refine ⟨by trivial, ?_, by trivial, by trivial⟩
          simp [holdsT, Av.get]
        | false =>
          simp only [Bool.not_false, Bool.and_self, if_true] at hstep
          subst hstep
          simp only [EOps, EDf, isRd, gdA, callOf, isPanic, nextOf, altA, evalOp, St.ev, Av.get, St.put, argT, ofV, thenQ, Nat.reduceEqDiff, ↓reduceIte, Bool.and_self, List.map_cons, List.map_nil, List.nil_append, List.append_nil, List.getElem?_cons_zero, List.getElem?_cons_succ, List.getElem?_toArray, Option.map_some, Option.bind_some, decide_true, decide_false, beq_false, beq_true, Bool.not_true, Bool.not_false, Bool.false_eq_true, pickA, cond_true, cond_false, u_not, ia23 _ _ _ _ hu, faE0, ldE0, s_geq, h2]
          have hap1 := hap o (n, v.1, v.2) (by omega)
          refine .cond (t := true) rfl (.seq (.region [] (by decide) ?_))
          simp only [EOps, EDf, isRd, gdA, callOf, isPanic, nextOf, altA, evalOp, St.ev, Av.get, St.put, argT, ofV, thenQ, Nat.reduceEqDiff, ↓reduceIte, Bool.and_self, List.map_cons, List.map_nil, List.nil_append, List.append_nil, List.getElem?_cons_zero, List.getElem?_cons_succ, List.getElem?_toArray, Option.map_some, Option.bind_some, decide_true, decide_false, beq_false, beq_true, Bool.not_true, Bool.not_false, Bool.false_eq_true, pickA, cond_true, cond_false, hbd, bs23, hap1]
          refine .region [] (by decide) ?_
          simp only [EOps, EDf, isRd, gdA, callOf, isPanic, nextOf, altA, evalOp, St.ev, Av.get, St.put, argT, ofV, thenQ, Nat.reduceEqDiff, ↓reduceIte, Bool.and_self, List.map_cons, List.map_nil, List.nil_append, List.append_nil, List.getElem?_cons_zero, List.getElem?_cons_succ, List.getElem?_toArray, Option.map_some, Option.bind_some, decide_true, decide_false, beq_false, beq_true, Bool.not_true, Bool.not_false, Bool.false_eq_true, pickA, cond_true, cond_false]
          refine ⟨by trivial, ?_, by trivial, by trivial⟩
          simp [holdsT, Av.get]
    · intro _
      have hstep : st' = if (!(u.1 == n)) = true then ((stepS1 n v (o, d) u).1 ++ [u], (stepS1 n v (o, d) u).2) else stepS1 n v (o, d) u := hsu
      generalize stepS1 n v (o, d) u = w at hstep h1l ⊢
      obtain ⟨o', d'⟩ := w
      simp only at h1l hstep ⊢
      generalize h2 : (u.1 == n) = b2 at hstep
      refine .seq (.region [] (by decide) ?_)
      cases b2 with
      | true =>
        simp only [Bool.not_true, Bool.false_eq_true, if_false] at hstep
        subst hstep
        simp only [EOps, EDf, isRd, gdA, callOf, isPanic, nextOf, altA, evalOp, St.ev, Av.get, St.put, argT, ofV, thenQ, Nat.reduceEqDiff, ↓reduceIte, Bool.and_self, List.map_cons, List.map_nil, List.nil_append, List.append_nil, List.getElem?_cons_zero, List.getElem?_cons_succ, List.getElem?_toArray, Option.map_some, Option.bind_some, decide_true, decide_false, beq_false, beq_true, Bool.not_true, Bool.not_false, Bool.false_eq_true, pickA, cond_true, cond_false, ia23 _ _ _ _ hu, faE0, ldE0, s_neq, h2]
        refine .cond (t := false) rfl (.skip ?_)
        refine ⟨hi, ?_, subH_self (hH _ _), rfl⟩
        simp only [subT, Av.get, Nat.reduceEqDiff, ↓reduceIte, Le_rfl, nat0, nat1, and_self]
      | false =>
        simp only [Bool.not_false, if_true] at hstep
        subst hstep
        simp only [EOps, EDf, isRd, gdA, callOf, isPanic, nextOf, altA, evalOp, St.ev, Av.get, St.put, argT, ofV, thenQ, Nat.reduceEqDiff, ↓reduceIte, Bool.and_self, List.map_cons, List.map_nil, List.nil_append, List.append_nil, List.getElem?_cons_zero, List.getElem?_cons_succ, List.getElem?_toArray, Option.map_some, Option.bind_some, decide_true, decide_false, beq_false, beq_true, Bool.not_true, Bool.not_false, Bool.false_eq_true, pickA, cond_true, cond_false, ia23 _ _ _ _ hu, faE0, ldE0, s_neq, h2]
        have hap1 := hap o' u (by omega)
        refine .cond (t := true) rfl (.region [] (by decide) ?_)
        simp only [EOps, EDf, isRd, gdA, callOf, isPanic, nextOf, altA, evalOp, St.ev, Av.get, St.put, argT, ofV, thenQ, Nat.reduceEqDiff, ↓reduceIte, Bool.and_self, List.map_cons, List.map_nil, List.nil_append, List.append_nil, List.getElem?_cons_zero, List.getElem?_cons_succ, List.getElem?_toArray, Option.map_some, Option.bind_some, decide_true, decide_false, beq_false, beq_true, Bool.not_true, Bool.not_false, Bool.false_eq_true, pickA, cond_true, cond_false, ia23 _ _ _ _ hu, ld53, bs23, hap1]
        refine ⟨hi, ?_, subH_self (hH _ _), rfl⟩
        simp only [subT, Av.get, Nat.reduceEqDiff, ↓reduceIte, Le_rfl, nat0, nat1, and_self]
  · intro _
    simp only [EOps, EDf, isRd, gdA, callOf, isPanic, nextOf, altA, evalOp, St.ev, Av.get, St.put, argT, ofV, thenQ, Nat.reduceEqDiff, ↓reduceIte, Bool.and_self, List.map_cons, List.map_nil, List.nil_append, List.append_nil, List.getElem?_cons_zero, List.getElem?_cons_succ, List.getElem?_toArray, Option.map_some, Option.bind_some, decide_true, decide_false, beq_false, beq_true, Bool.not_true, Bool.not_false, Bool.false_eq_true, pickA, cond_true, cond_false, blockQ]
    have hsl := setS_len e n v e.length (Nat.le_refl _)
    rw [List.take_length] at hsl ⊢
    have hw : setE e n v = if (!(setS e n v).2) = true then (setS e n v).1 ++ [(n, v.1, v.2)] else (setS e n v).1 := rfl
    generalize setE e n v = W at hw ⊢
    generalize setS e n v = st at hsl hw ⊢
    obtain ⟨o, d⟩ := st
    simp only at hsl hw ⊢
    have hfin : ∀ L : List Atr, ∃ u, fz (grow [] encE L) 20 (growW 0 0 3 L) = some u ∧ Le u (.vsl 3 false (L.map encE)) := fun L => slIn_fz (n := 2) (k := 19) (by decide) encE_agg encE_chf (growW_slIn [] encE 0 3 L)
    refine .seq (.seq (.region [] (by decide) ?_))
    cases d with
    | true =>
      simp only [Bool.not_true, Bool.false_eq_true, if_false] at hw
      subst hw
      simp only [EOps, EDf, isRd, gdA, callOf, isPanic, nextOf, altA, evalOp, St.ev, Av.get, St.put, argT, ofV, thenQ, Nat.reduceEqDiff, ↓reduceIte, Bool.and_self, List.map_cons, List.map_nil, List.nil_append, List.append_nil, List.getElem?_cons_zero, List.getElem?_cons_succ, List.getElem?_toArray, Option.map_some, Option.bind_some, decide_true, decide_false, beq_false, beq_true, Bool.not_true, Bool.not_false, Bool.false_eq_true, pickA, cond_true, cond_false, u_not]
      refine .cond (t := false) rfl (.skip ?_)
      refine .seq (.region [] (by decide) ?_)
      simp only [EOps, EDf, isRd, gdA, callOf, isPanic, nextOf, altA, evalOp, St.ev, Av.get, St.put, argT, ofV, thenQ, Nat.reduceEqDiff, ↓reduceIte, Bool.and_self, List.map_cons, List.map_nil, List.nil_append, List.append_nil, List.getElem?_cons_zero, List.getElem?_cons_succ, List.getElem?_toArray, Option.map_some, Option.bind_some, decide_true, decide_false, beq_false, beq_true, Bool.not_true, Bool.not_false, Bool.false_eq_true, pickA, cond_true, cond_false]
      obtain ⟨u, hy, hle⟩ := hfin W
      exact .ret (retF 6 rfl rfl rfl hy hle)
    | false =>
      simp only [Bool.not_false, if_true] at hw
      subst hw
      have hap1 := hap o (n, v.1, v.2) (by omega)
      simp only [EOps, EDf, isRd, gdA, callOf, isPanic, nextOf, altA, evalOp, St.ev, Av.get, St.put, argT, ofV, thenQ, Nat.reduceEqDiff, ↓reduceIte, Bool.and_self, List.map_cons, List.map_nil, List.nil_append, List.append_nil, List.getElem?_cons_zero, List.getElem?_cons_succ, List.getElem?_toArray, Option.map_some, Option.bind_some, decide_true, decide_false, beq_false, beq_true, Bool.not_true, Bool.not_false, Bool.false_eq_true, pickA, cond_true, cond_false, u_not]
      refine .cond (t := true) rfl (.region [] (by decide) ?_)
      simp only [EOps, EDf, isRd, gdA, callOf, isPanic, nextOf, altA, evalOp, St.ev, Av.get, St.put, argT, ofV, thenQ, Nat.reduceEqDiff, ↓reduceIte, Bool.and_self, List.map_cons, List.map_nil, List.nil_append, List.append_nil, List.getElem?_cons_zero, List.getElem?_cons_succ, List.getElem?_toArray, Option.map_some, Option.bind_some, decide_true, decide_false, beq_false, beq_true, Bool.not_true, Bool.not_false, Bool.false_eq_true, pickA, cond_true, cond_false, hbd, bs23, hap1]
      refine .seq (.region [] (by decide) ?_)
      simp only [EOps, EDf, isRd, gdA, callOf, isPanic, nextOf, altA, evalOp, St.ev, Av.get, St.put, argT, ofV, thenQ, Nat.reduceEqDiff, ↓reduceIte, Bool.and_self, List.map_cons, List.map_nil, List.nil_append, List.append_nil, List.getElem?_cons_zero, List.getElem?_cons_succ, List.getElem?_toArray, Option.map_some, Option.bind_some, decide_true, decide_false, beq_false, beq_true, Bool.not_true, Bool.not_false, Bool.false_eq_true, pickA, cond_true, cond_false]
      obtain ⟨u, hy, hle⟩ := hfin (o ++ [(n, v.1, v.2)])
      exact .ret (retF 6 rfl rfl rfl hy hle)
end Go.Proofs.YtmeijkidjifagaaGreat
namespace Go.Proofs.YtmeijkidjifagaaGreat
set_option linter.unusedVariables false
set_option linter.unusedSimpArgs false
open Go Go.Av

theorem fk0 (m : Mk) : evFieldAddr Tryz.prog 68 (.vptr (kcell m)) 0 = some (.vptr (kcell m)) := by simp [evFieldAddr, fld68_0]
theorem fk1 (m : Mk) : evFieldAddr Tryz.prog 68 (.vptr (kcell m)) 1 = some (.vptr ((kcell m).drop 1)) := by simp [evFieldAddr, fld68_1]
theorem fk2 (m : Mk) : evFieldAddr Tryz.prog 68 (.vptr (kcell m)) 2 = some (.vptr ((kcell m).drop 2)) := by simp [evFieldAddr, fld68_2]
theorem lk66 (m : Mk) (H : List OB) : evLoad Tryz.prog 66 (.vptr (kcell m)) H = some (.int .i64 m.1) := by simp [evLoad, tz66, tg66, ldA, kcell]
theorem lk9 (m : Mk) (H : List OB) : evLoad Tryz.prog 9 (.vptr ((kcell m).drop 1)) H = some (.str m.2.1) := by simp [evLoad, tz9, tg9, ldA, kcell]
theorem lk26 (m : Mk) (H : List OB) : evLoad Tryz.prog 26 (.vptr ((kcell m).drop 2)) H = some (encV m.2.2) := by simp [evLoad, tz26, tg26, ldA, kcell, encV]
theorem fz_kcell (m : Mk) (k : Nat) : fz (keepS [0] 0 [.cells (kcell m) false]) (k + 1) (.ptr 0 0) = some (.vptr (kcell m)) := by
  have h1 : AV.hfs (kcell m) = true := by simp [kcell, AV.hfs, AV.hf, strs_hfs]
  have h2 : keepS [0] 0 [.cells (kcell m) false] = [.cells (kcell m) false] := rfl
  rw [h2]
  unfold fz
  rw [if_neg (by simp [AV.hf])]
  simp [h1]
theorem up_eq {l m : List Bytes} (hl : Up l) (hm : Up m) (h : ∀ n, n ∈ l ↔ n ∈ m) : l = m :=
  sorted_eq ((List.perm_ext_iff_of_nodup (hl.imp fun h => b_lt_ne h) (hm.imp fun h => b_lt_ne h)).2 h) (hl.imp b_le_of) (hm.imp b_le_of)
theorem with_next {l : List Bytes} (hu : Up l) {i : Nat} {s : Bytes} (h : l[i]? = some s) : withL (l.take i) s = l.take (i + 1) := by
  have h1 : Up (l.take i) := hu.sublist (List.take_sublist _ _)
  have h2 : Up (l.take (i + 1)) := hu.sublist (List.take_sublist _ _)
  obtain ⟨g1, g2⟩ := withL_law h1 s
  refine up_eq g1 h2 fun n => ?_
  rw [g2, List.take_add_one, h, List.mem_append]
  simp [or_comm]
/-- What a change puts. -/
def newK (m : Mk) : Val := if m.1 = 2 then (true, []) else (false, m.2.2.2)
/-- A change that changes something. -/
def goodK (e : List Atr) (m : Mk) : Prop := (m.1 = 2 ∧ m.2.2.2 = [] ∧ getE e m.2.1 ≠ []) ∨ (m.1 = 1 ∧ m.2.2.2 ≠ [] ∧ getE e m.2.1 = []) ∨ (m.1 = 3 ∧ m.2.2.2 ≠ [])

set_option maxRecDepth 100000 in
theorem one43 (x : Bool) (e : List Atr) (m : Mk) (hu : Up m.2.2.2) (hsm : small m.2.1 = m.2.1) (hk : goodK e m) (hlen : m.2.2.2.length ≤ 16) (he : e.length ≤ 1000) (hs : longE (setE e m.2.1 (newK m)) = false) :
    PureFn Tryz.prog 43 [.vsl 3 x (e.map encE), encK m] (.ret (.tup [.vsl 3 false ((setE e m.2.1 (newK m)).map encE), .int .i64 0])) := by
  have p1 := small44 m.2.1
  rw [hsm] at p1
  have p2 := get24 x e m.2.1
  rw [hsm] at p2
  have p3 := set74 x e m.2.1 (newK m) he
  have ht : (encK m).told = true := rfl
  have hl1 : ∀ H o, lend H [.str m.2.1] o = some [.str m.2.1] := by intro H o; simp [lend, AV.hfs, AV.hf]
  have hl2 : ∀ H o, lend H [.vsl 3 x (e.map encE), .str m.2.1] o = some [.vsl 3 x (e.map encE), .str m.2.1] := by intro H o; simp [lend, AV.hfs, AV.hf, encE_hfs]
  have hl3 : ∀ v H o, lend H [.vsl 3 x (e.map encE), .str m.2.1, encV v] o = some [.vsl 3 x (e.map encE), .str m.2.1, encV v] := by intro v H o; simp [lend, AV.hfs, AV.hf, encE_hfs, encV, strs_hfs]
  have hlnV : ∀ v H, evLen Tryz.prog 26 (encV v) H = some (.int .i64 v.2.length) := fun v H => ln26 _ _ _
  have hk0 : AV.hlts 0 (kcell m) = true := hfs_hlts (by simp [kcell, AV.hfs, AV.hf, strs_hfs])
  have hvl : (newK m).2.length ≤ 16 := by
    unfold newK
    split
    · simp
    · exact hlen
  refine PureFn.of Tryz.func43 rfl (enters_call enters Tryz.func43 rfl) (by simp [Tryz.ntmps43]) ?_
  show W Tryz.prog 132 _ none _ _ _
  refine .seq (.region [] (by decide) ?_)
  simp only [EOps, EDf, isRd, gdA, callOf, isPanic, nextOf, altA, evalOp, St.ev, Av.get, St.put, argT, ofV, thenQ, Nat.reduceEqDiff, ↓reduceIte, Bool.and_self, List.map_cons, List.map_nil, List.nil_append, List.append_nil, List.getElem?_cons_zero, List.getElem?_cons_succ, List.getElem?_toArray, Option.map_some, Option.bind_some, decide_true, decide_false, beq_false, beq_true, Bool.not_true, Bool.not_false, Bool.false_eq_true, pickA, cond_true, cond_false, ht, if_true, List.length_nil, encK_cells, and_self]
  refine W.froze [0] [(3, .vptr (kcell m)), (0, .vsl 3 x (e.map encE)), (4, .vsl 0 true []), (5, .int .i64 0)] ?_ ?_
  · simp only [frzT, Av.get, Nat.reduceEqDiff, ↓reduceIte, true_or, and_true]
    exact .inr ⟨_, fz_kcell m 19, .refl _⟩
  refine W.weaken ⟨[(3, .vptr (kcell m)), (0, .vsl 3 x (e.map encE))], [], []⟩ ⟨rfl, rfl⟩ (Nat.zero_le _) ?_ ?_ (subH_nil _ _) ?_
  · simp only [subT, Av.get, Nat.reduceEqDiff, ↓reduceIte, Le_rfl, nat0, nat1, and_self]
  · simp only [hltT, AV.hlt, encE_hlts, List.length_nil, hk0, Bool.true_and, Bool.and_true]
  refine .seq (.region [.pure (.ret (.str m.2.1))] (by decide) ?_)
  simp only [EOps, EDf, isRd, gdA, callOf, isPanic, nextOf, altA, evalOp, St.ev, Av.get, St.put, argT, ofV, thenQ, Nat.reduceEqDiff, ↓reduceIte, Bool.and_self, List.map_cons, List.map_nil, List.nil_append, List.append_nil, List.getElem?_cons_zero, List.getElem?_cons_succ, List.getElem?_toArray, Option.map_some, Option.bind_some, decide_true, decide_false, beq_false, beq_true, Bool.not_true, Bool.not_false, Bool.false_eq_true, pickA, cond_true, cond_false, fk1, lk9, hl1]
  refine ⟨p1, ?_⟩
  refine .seq (.region [.pure (.ret (encV (false, getE e m.2.1)))] (by decide) ?_)
  simp only [EOps, EDf, isRd, gdA, callOf, isPanic, nextOf, altA, evalOp, St.ev, Av.get, St.put, argT, ofV, thenQ, Nat.reduceEqDiff, ↓reduceIte, Bool.and_self, List.map_cons, List.map_nil, List.nil_append, List.append_nil, List.getElem?_cons_zero, List.getElem?_cons_succ, List.getElem?_toArray, Option.map_some, Option.bind_some, decide_true, decide_false, beq_false, beq_true, Bool.not_true, Bool.not_false, Bool.false_eq_true, pickA, cond_true, cond_false, hl2]
  refine ⟨p2, ?_⟩
  refine .seq (.region [] (by decide) ?_)
  simp only [EOps, EDf, isRd, gdA, callOf, isPanic, nextOf, altA, evalOp, St.ev, Av.get, St.put, argT, ofV, thenQ, Nat.reduceEqDiff, ↓reduceIte, Bool.and_self, List.map_cons, List.map_nil, List.nil_append, List.append_nil, List.getElem?_cons_zero, List.getElem?_cons_succ, List.getElem?_toArray, Option.map_some, Option.bind_some, decide_true, decide_false, beq_false, beq_true, Bool.not_true, Bool.not_false, Bool.false_eq_true, pickA, cond_true, cond_false, and_self, if_true]
  refine .seqP True [(0, .vsl 3 x (e.map encE)), (6, .str m.2.1), (8, encV (newK m))] [] ?_ ?_
  · refine .seq (.region [] (by decide) ?_)
    simp only [EOps, EDf, isRd, gdA, callOf, isPanic, nextOf, altA, evalOp, St.ev, Av.get, St.put, argT, ofV, thenQ, Nat.reduceEqDiff, ↓reduceIte, Bool.and_self, List.map_cons, List.map_nil, List.nil_append, List.append_nil, List.getElem?_cons_zero, List.getElem?_cons_succ, List.getElem?_toArray, Option.map_some, Option.bind_some, decide_true, decide_false, beq_false, beq_true, Bool.not_true, Bool.not_false, Bool.false_eq_true, pickA, cond_true, cond_false, fk0, lk66]
    refine .block ?_
    obtain ⟨k, n, f, l⟩ := m
    simp only at hu hsm hlen hs hvl p1 p2 p3 hl1 hl2 hl3
    unfold goodK at hk
    simp only at hk
    rcases hk with ⟨rfl, rfl, hg⟩ | ⟨rfl, hl, hg⟩ | ⟨rfl, hl⟩
    · have q1 := twice72 f [] (by simp) .nil
      have hl4 : ∀ H o, lend H [encV (f, [])] o = some [encV (f, [])] := by intro H o; simp [lend, AV.hfs, AV.hf, encV]
      have hmk : ∀ (j : Nat) (H : List OB), evLoad Tryz.prog 26 (.vptr ((kcell (2, n, f, [])).drop 2)) H = some (encV (f, [])) := fun _ H => lk26 (2, n, f, []) H
      have e1 : ((2 : Int) == 1) = false := rfl
      have e2 : ((2 : Int) == 2) = true := rfl
      have z1 : ((([] : List Bytes).length : Int) == 0) = true := rfl
      have z2 : (((getE e n).length : Int) == 0) = false := by simpa using hg
      have z3 : decide ((([] : List Bytes).length : Int) > 0) = false := rfl
      have z5 : decide ((0 : Int) < (([] : List Bytes).length : Int)) = false := rfl
      have z4 : decide ((0 : Int) < ((getE e n).length : Int)) = true := decide_eq_true (by have := List.length_pos_iff.2 hg; omega)
      generalize getE e n = g at *
      refine .seq (.region [] (by decide) ?_)
      simp only [EOps, EDf, isRd, gdA, callOf, isPanic, nextOf, altA, evalOp, St.ev, Av.get, St.put, argT, ofV, thenQ, Nat.reduceEqDiff, ↓reduceIte, Bool.and_self, List.map_cons, List.map_nil, List.nil_append, List.append_nil, List.getElem?_cons_zero, List.getElem?_cons_succ, List.getElem?_toArray, Option.map_some, Option.bind_some, decide_true, decide_false, beq_false, beq_true, Bool.not_true, Bool.not_false, Bool.false_eq_true, pickA, cond_true, cond_false, b_eql, e1]
      refine .cond (t := false) rfl (.seq (.region [] (by decide) ?_))
      simp only [EOps, EDf, isRd, gdA, callOf, isPanic, nextOf, altA, evalOp, St.ev, Av.get, St.put, argT, ofV, thenQ, Nat.reduceEqDiff, ↓reduceIte, Bool.and_self, List.map_cons, List.map_nil, List.nil_append, List.append_nil, List.getElem?_cons_zero, List.getElem?_cons_succ, List.getElem?_toArray, Option.map_some, Option.bind_some, decide_true, decide_false, beq_false, beq_true, Bool.not_true, Bool.not_false, Bool.false_eq_true, pickA, cond_true, cond_false, b_eql, e2]
      refine .cond (t := true) rfl ?_
      refine .seq (.seq (.region [.pure (.ret (.bool false))] (by decide) ?_))
      simp only [EOps, EDf, isRd, gdA, callOf, isPanic, nextOf, altA, evalOp, St.ev, Av.get, St.put, argT, ofV, thenQ, Nat.reduceEqDiff, ↓reduceIte, Bool.and_self, List.map_cons, List.map_nil, List.nil_append, List.append_nil, List.getElem?_cons_zero, List.getElem?_cons_succ, List.getElem?_toArray, Option.map_some, Option.bind_some, decide_true, decide_false, beq_false, beq_true, Bool.not_true, Bool.not_false, Bool.false_eq_true, pickA, cond_true, cond_false, fk2, hmk 0, hlnV, b_eql, z1, z2, hl4]
      refine ⟨q1, .cond (t := false) rfl (.skip ?_)⟩
      refine .seq (.seq (.region [] (by decide) ?_))
      simp only [EOps, EDf, isRd, gdA, callOf, isPanic, nextOf, altA, evalOp, St.ev, Av.get, St.put, argT, ofV, thenQ, Nat.reduceEqDiff, ↓reduceIte, Bool.and_self, List.map_cons, List.map_nil, List.nil_append, List.append_nil, List.getElem?_cons_zero, List.getElem?_cons_succ, List.getElem?_toArray, Option.map_some, Option.bind_some, decide_true, decide_false, beq_false, beq_true, Bool.not_true, Bool.not_false, Bool.false_eq_true, pickA, cond_true, cond_false]
      refine .block ?_
      refine .forR 10 65 66 67 0 0 (by decide) (Nat.le_refl _) rfl rfl rfl rfl rfl rfl rfl rfl rfl (by decide)
        (fun i => [(8, .vsl 0 true []), (7, encV (false, g)), (3, .vptr (kcell (2, n, f, []))), (0, .vsl 3 x (e.map encE)), (6, .str n)]) (fun _ => rfl) (fun _ => []) (fun _ => Nat.zero_le _) (fun i => True) rfl trivial ?_ ?_ (subH_nil _ _) ?_ ?_ ?_
      · simp only [subT, Av.get, Nat.reduceEqDiff, ↓reduceIte, Le_rfl, nat0, nat1, and_self]
      · intro i _
        have hgh : (encV (false, g)).hlt 0 = true := hf_hlt (by simp only [encV, AV.hf]; exact strs_hfs _)
        simp only [hltT, AV.hlt, AV.hlts, encE_hlts, List.length_nil, hk0, hgh, Bool.true_and, Bool.and_true]
      · intro i hi _
        have hi0 : i = 0 := by omega
        subst hi0
        refine .region [] (by decide) ?_
        simp only [EOps, EDf, isRd, gdA, callOf, isPanic, nextOf, altA, evalOp, St.ev, Av.get, St.put, argT, ofV, thenQ, Nat.reduceEqDiff, ↓reduceIte, Bool.and_self, List.map_cons, List.map_nil, List.nil_append, List.append_nil, List.getElem?_cons_zero, List.getElem?_cons_succ, List.getElem?_toArray, Option.map_some, Option.bind_some, decide_true, decide_false, beq_false, beq_true, Bool.not_true, Bool.not_false, Bool.false_eq_true, pickA, cond_true, cond_false, fk2, hmk 0, hlnV, b_lss, nat0, z5]
        refine ⟨by trivial, ?_, subH_nil _ _, trivial⟩
        simp only [subT, Av.get, Nat.reduceEqDiff, ↓reduceIte, Le_rfl, nat0, nat1, and_self]
      · intro i hi; omega
      · intro _
        simp only [EOps, EDf, isRd, gdA, callOf, isPanic, nextOf, altA, evalOp, St.ev, Av.get, St.put, argT, ofV, thenQ, Nat.reduceEqDiff, ↓reduceIte, Bool.and_self, List.map_cons, List.map_nil, List.nil_append, List.append_nil, List.getElem?_cons_zero, List.getElem?_cons_succ, List.getElem?_toArray, Option.map_some, Option.bind_some, decide_true, decide_false, beq_false, beq_true, Bool.not_true, Bool.not_false, Bool.false_eq_true, pickA, cond_true, cond_false, blockQ, nat0]
        refine .seq (.region [] (by decide) ?_)
        simp only [EOps, EDf, isRd, gdA, callOf, isPanic, nextOf, altA, evalOp, St.ev, Av.get, St.put, argT, ofV, thenQ, Nat.reduceEqDiff, ↓reduceIte, Bool.and_self, List.map_cons, List.map_nil, List.nil_append, List.append_nil, List.getElem?_cons_zero, List.getElem?_cons_succ, List.getElem?_toArray, Option.map_some, Option.bind_some, decide_true, decide_false, beq_false, beq_true, Bool.not_true, Bool.not_false, Bool.false_eq_true, pickA, cond_true, cond_false]
        refine .block ?_
        refine .forR 11 85 86 87 0 0 (by decide) (Nat.le_refl _) rfl rfl rfl rfl rfl rfl rfl rfl rfl (by decide)
          (fun i => [(8, .vsl 0 true []), (7, encV (false, g)), (3, .vptr (kcell (2, n, f, []))), (0, .vsl 3 x (e.map encE)), (6, .str n)]) (fun _ => rfl) (fun _ => []) (fun _ => Nat.zero_le _) (fun i => True) rfl trivial ?_ ?_ (subH_nil _ _) ?_ ?_ ?_
        · simp only [subT, Av.get, Nat.reduceEqDiff, ↓reduceIte, Le_rfl, nat0, nat1, and_self]
        · intro i _
          have hgh : (encV (false, g)).hlt 0 = true := hf_hlt (by simp only [encV, AV.hf]; exact strs_hfs _)
          simp only [hltT, AV.hlt, AV.hlts, encE_hlts, List.length_nil, hk0, hgh, Bool.true_and, Bool.and_true]
        · intro i hi _
          have hi0 : i = 0 := by omega
          subst hi0
          refine .region [] (by decide) ?_
          simp only [EOps, EDf, isRd, gdA, callOf, isPanic, nextOf, altA, evalOp, St.ev, Av.get, St.put, argT, ofV, thenQ, Nat.reduceEqDiff, ↓reduceIte, Bool.and_self, List.map_cons, List.map_nil, List.nil_append, List.append_nil, List.getElem?_cons_zero, List.getElem?_cons_succ, List.getElem?_toArray, Option.map_some, Option.bind_some, decide_true, decide_false, beq_false, beq_true, Bool.not_true, Bool.not_false, Bool.false_eq_true, pickA, cond_true, cond_false, fk2, hmk 0, hlnV, b_lss, b_gtr, nat0, z4, z3]
          refine ⟨by trivial, ?_, subH_nil _ _, trivial⟩
          simp only [subT, Av.get, Nat.reduceEqDiff, ↓reduceIte, Le_rfl, nat0, nat1, and_self]
        · intro i hi; omega
        · intro _
          simp only [EOps, EDf, isRd, gdA, callOf, isPanic, nextOf, altA, evalOp, St.ev, Av.get, St.put, argT, ofV, thenQ, Nat.reduceEqDiff, ↓reduceIte, Bool.and_self, List.map_cons, List.map_nil, List.nil_append, List.append_nil, List.getElem?_cons_zero, List.getElem?_cons_succ, List.getElem?_toArray, Option.map_some, Option.bind_some, decide_true, decide_false, beq_false, beq_true, Bool.not_true, Bool.not_false, Bool.false_eq_true, pickA, cond_true, cond_false, blockQ]
          refine ⟨by trivial, ?_, by trivial, by trivial⟩
          simp [holdsT, Av.get, newK, encV]
    · have e1 : ((1 : Int) == 1) = true := rfl
      have q0 := twice72 false l (by omega) hu
      have hap0 : ∀ H, evAppend Tryz.prog 26 26 (.vsl 0 true []) (encV (false, [])) H = some (.vsl 0 true [], H) := fun H => ap26_0 false H
      have hap1 : ∀ H, evAppend Tryz.prog 26 26 (.vsl 0 true []) (encV (f, l)) H = some (.sl H.length 0 l.length 0, H ++ [.cells (l.map .str) true]) := fun H => ap26_n f l H hl (by omega)
      have hmk0 : ∀ (H : List OB), evLoad Tryz.prog 26 (.vptr ((kcell (1, n, f, l)).drop 2)) H = some (encV (f, l)) := fun H => lk26 (1, n, f, l) H
      have hlend : lend [.cells (l.map .str) true] [.sl 0 0 l.length 0] (.ret (.bool false)) = some [.vsl 0 false (l.map .str)] := by
        have hz := fz_strs l [.cells (l.map .str) true] 0 true rfl
        simp [lend, AV.hfs, AV.hf, hz, List.mapM_cons]
        rfl
      rw [hg]
      refine .seq (.region [] (by decide) ?_)
      simp only [EOps, EDf, isRd, gdA, callOf, isPanic, nextOf, altA, evalOp, St.ev, Av.get, St.put, argT, ofV, thenQ, Nat.reduceEqDiff, ↓reduceIte, Bool.and_self, List.map_cons, List.map_nil, List.nil_append, List.append_nil, List.getElem?_cons_zero, List.getElem?_cons_succ, List.getElem?_toArray, Option.map_some, Option.bind_some, decide_true, decide_false, beq_false, beq_true, Bool.not_true, Bool.not_false, Bool.false_eq_true, pickA, cond_true, cond_false, b_eql, e1]
      refine .cond (t := true) rfl ?_
      refine .seq (.seq (.drawC (pre := [_, _, _, _, _]) (oc := _) [] mixed (by kernel_rfl) rfl (by kernel_rfl) (by kernel_rfl) rfl (by kernel_rfl) ?_))
      simp only [EOps, EDf, isRd, gdA, callOf, isPanic, nextOf, altA, evalOp, St.ev, Av.get, St.put, argT, ofV, thenQ, Nat.reduceEqDiff, ↓reduceIte, Bool.and_self, List.map_cons, List.map_nil, List.nil_append, List.append_nil, List.getElem?_cons_zero, List.getElem?_cons_succ, List.getElem?_toArray, Option.map_some, Option.bind_some, decide_true, decide_false, beq_false, beq_true, Bool.not_true, Bool.not_false, Bool.false_eq_true, pickA, cond_true, cond_false, EDm, isApp, hap0, fk2, hmk0, hap1, List.length_nil, Option.some.injEq, Prod.mk.injEq, and_true, forall_const, exists_eq_left', true_and]
      refine ⟨72, _, _, .bool false, ⟨rfl, rfl⟩, hlend, q0, ?_⟩
      refine .cond (t := false) rfl (.skip ?_)
      refine W.weaken ⟨[(8, .vsl 0 true []), (7, encV (false, [])), (3, .vptr (kcell (1, n, f, l))), (0, .vsl 3 x (e.map encE)), (6, .str n)], [], []⟩ ⟨rfl, rfl⟩ (Nat.zero_le _) ?_ ?_ (subH_nil _ _) ?_
      · simp only [subT, Av.get, Nat.reduceEqDiff, ↓reduceIte, Le_rfl, nat0, nat1, and_self]
      · simp only [hltT, AV.hlt, AV.hlts, encE_hlts, List.length_nil, hk0, encV, List.map_nil, Bool.true_and, Bool.and_true]
      refine .seq (.region [] (by decide) ?_)
      simp only [EOps, EDf, isRd, gdA, callOf, isPanic, nextOf, altA, evalOp, St.ev, Av.get, St.put, argT, ofV, thenQ, Nat.reduceEqDiff, ↓reduceIte, Bool.and_self, List.map_cons, List.map_nil, List.nil_append, List.append_nil, List.getElem?_cons_zero, List.getElem?_cons_succ, List.getElem?_toArray, Option.map_some, Option.bind_some, decide_true, decide_false, beq_false, beq_true, Bool.not_true, Bool.not_false, Bool.false_eq_true, pickA, cond_true, cond_false]
      refine .seq (.region [] (by decide) ?_)
      simp only [EOps, EDf, isRd, gdA, callOf, isPanic, nextOf, altA, evalOp, St.ev, Av.get, St.put, argT, ofV, thenQ, Nat.reduceEqDiff, ↓reduceIte, Bool.and_self, List.map_cons, List.map_nil, List.nil_append, List.append_nil, List.getElem?_cons_zero, List.getElem?_cons_succ, List.getElem?_toArray, Option.map_some, Option.bind_some, decide_true, decide_false, beq_false, beq_true, Bool.not_true, Bool.not_false, Bool.false_eq_true, pickA, cond_true, cond_false]
      refine .block ?_
      have hmk : ∀ (j : Nat) (H : List OB), evLoad Tryz.prog 26 (.vptr ((kcell (1, n, f, l)).drop 2)) H = some (encV (f, l)) := fun _ H => lk26 (1, n, f, l) H
      refine .forR 9 35 36 37 0 l.length (by simp only [maxLen']; omega) (Nat.zero_le _) rfl rfl rfl rfl rfl rfl rfl rfl rfl (by decide)
        (fun i => [(8, .vsl 0 false ((l.take i).map .str)), (3, .vptr (kcell (1, n, f, l))), (0, .vsl 3 x (e.map encE)), (6, .str n)]) (fun _ => rfl) (fun _ => []) (fun _ => Nat.zero_le _) (fun i => True) rfl trivial ?_ ?_ (subH_nil _ _) ?_ ?_ ?_
      · simp only [subT, Av.get, Nat.reduceEqDiff, ↓reduceIte, Le_rfl, nat0, and_self, and_true, true_and, List.take_zero, List.map_nil]
        first | exact .nil _ _ _ | exact .refl _
      · intro i _
        simp only [hltT, AV.hlt, strs_hlts, encE_hlts, List.length_nil, hk0, Bool.true_and, Bool.and_true]
      · intro i hi _
        refine .region [] (by decide) ?_
        simp only [EOps, EDf, isRd, gdA, callOf, isPanic, nextOf, altA, evalOp, St.ev, Av.get, St.put, argT, ofV, thenQ, Nat.reduceEqDiff, ↓reduceIte, Bool.and_self, List.map_cons, List.map_nil, List.nil_append, List.append_nil, List.getElem?_cons_zero, List.getElem?_cons_succ, List.getElem?_toArray, Option.map_some, Option.bind_some, decide_true, decide_false, beq_false, beq_true, Bool.not_true, Bool.not_false, Bool.false_eq_true, pickA, cond_true, cond_false, fk2, hmk 0, hlnV, b_lss, dlt]
        refine ⟨trivial, ?_, subH_nil _ _, trivial⟩
        simp only [subT, Av.get, Nat.reduceEqDiff, ↓reduceIte, Le_rfl, nat0, nat1, and_self]
      · intro i hi _
        obtain ⟨u, hu', hdu⟩ := drop_at hi
        have hnx := with_next hu hu'
        have q1 := with71 false (l.take i) u (by simp; omega)
        rw [hnx] at q1
        have hl5 : ∀ H o, lend H [.vsl 0 false ((l.take i).map .str), .str u] o = some [.vsl 0 false ((l.take i).map .str), .str u] := by intro H o; simp only [lend, AV.hfs, AV.hf, strs_hfs, Bool.and_self, if_true]
        have hix : ∀ H, evIndexAddr Tryz.prog 26 (encV (f, l)) (.int .i64 (i : Int)) H = some (.vptr [.str u]) := fun H => ia26 f l i u hu' H
        refine .block (.region [.pure (.ret (.vsl 0 false ((l.take (i + 1)).map .str)))] (by decide) ?_)
        generalize l.take (i + 1) = t' at *
        generalize l.take i = t at *
        simp only [EOps, EDf, isRd, gdA, callOf, isPanic, nextOf, altA, evalOp, St.ev, Av.get, St.put, argT, ofV, thenQ, Nat.reduceEqDiff, ↓reduceIte, Bool.and_self, List.map_cons, List.map_nil, List.nil_append, List.append_nil, List.getElem?_cons_zero, List.getElem?_cons_succ, List.getElem?_toArray, Option.map_some, Option.bind_some, decide_true, decide_false, beq_false, beq_true, Bool.not_true, Bool.not_false, Bool.false_eq_true, pickA, cond_true, cond_false, fk2, hmk 0, hix, ld9v, hl5]
        refine ⟨q1, trivial, ?_, subH_nil _ _, rfl⟩
        simp only [subT, Av.get, Nat.reduceEqDiff, ↓reduceIte, Le_rfl, nat0, nat1, and_self]
      · intro _
        simp only [EOps, EDf, isRd, gdA, callOf, isPanic, nextOf, altA, evalOp, St.ev, Av.get, St.put, argT, ofV, thenQ, Nat.reduceEqDiff, ↓reduceIte, Bool.and_self, List.map_cons, List.map_nil, List.nil_append, List.append_nil, List.getElem?_cons_zero, List.getElem?_cons_succ, List.getElem?_toArray, Option.map_some, Option.bind_some, decide_true, decide_false, beq_false, beq_true, Bool.not_true, Bool.not_false, Bool.false_eq_true, pickA, cond_true, cond_false, blockQ, List.take_length]
        simp [holdsT, Av.get, newK, encV]
    · have e1 : ((3 : Int) == 1) = false := rfl
      have e2 : ((3 : Int) == 2) = false := rfl
      have e3 : ((3 : Int) == 3) = true := rfl
      refine .seq (.region [] (by decide) ?_)
      simp only [EOps, EDf, isRd, gdA, callOf, isPanic, nextOf, altA, evalOp, St.ev, Av.get, St.put, argT, ofV, thenQ, Nat.reduceEqDiff, ↓reduceIte, Bool.and_self, List.map_cons, List.map_nil, List.nil_append, List.append_nil, List.getElem?_cons_zero, List.getElem?_cons_succ, List.getElem?_toArray, Option.map_some, Option.bind_some, decide_true, decide_false, beq_false, beq_true, Bool.not_true, Bool.not_false, Bool.false_eq_true, pickA, cond_true, cond_false, b_eql, e1]
      refine .cond (t := false) rfl (.seq (.region [] (by decide) ?_))
      simp only [EOps, EDf, isRd, gdA, callOf, isPanic, nextOf, altA, evalOp, St.ev, Av.get, St.put, argT, ofV, thenQ, Nat.reduceEqDiff, ↓reduceIte, Bool.and_self, List.map_cons, List.map_nil, List.nil_append, List.append_nil, List.getElem?_cons_zero, List.getElem?_cons_succ, List.getElem?_toArray, Option.map_some, Option.bind_some, decide_true, decide_false, beq_false, beq_true, Bool.not_true, Bool.not_false, Bool.false_eq_true, pickA, cond_true, cond_false, b_eql, e2]
      refine .cond (t := false) rfl (.seq (.region [] (by decide) ?_))
      simp only [EOps, EDf, isRd, gdA, callOf, isPanic, nextOf, altA, evalOp, St.ev, Av.get, St.put, argT, ofV, thenQ, Nat.reduceEqDiff, ↓reduceIte, Bool.and_self, List.map_cons, List.map_nil, List.nil_append, List.append_nil, List.getElem?_cons_zero, List.getElem?_cons_succ, List.getElem?_toArray, Option.map_some, Option.bind_some, decide_true, decide_false, beq_false, beq_true, Bool.not_true, Bool.not_false, Bool.false_eq_true, pickA, cond_true, cond_false, b_eql, e3]
      refine .cond (t := true) rfl (.seq (.region [] (by decide) ?_))
      simp only [EOps, EDf, isRd, gdA, callOf, isPanic, nextOf, altA, evalOp, St.ev, Av.get, St.put, argT, ofV, thenQ, Nat.reduceEqDiff, ↓reduceIte, Bool.and_self, List.map_cons, List.map_nil, List.nil_append, List.append_nil, List.getElem?_cons_zero, List.getElem?_cons_succ, List.getElem?_toArray, Option.map_some, Option.bind_some, decide_true, decide_false, beq_false, beq_true, Bool.not_true, Bool.not_false, Bool.false_eq_true, pickA, cond_true, cond_false]
      refine .block ?_
      have hmk : ∀ (j : Nat) (H : List OB), evLoad Tryz.prog 26 (.vptr ((kcell (3, n, f, l)).drop 2)) H = some (encV (f, l)) := fun _ H => lk26 (3, n, f, l) H
      refine .forR 12 109 110 111 0 l.length (by simp only [maxLen']; omega) (Nat.zero_le _) rfl rfl rfl rfl rfl rfl rfl rfl rfl (by decide)
        (fun i => [(8, .vsl 0 false ((l.take i).map .str)), (3, .vptr (kcell (3, n, f, l))), (0, .vsl 3 x (e.map encE)), (6, .str n)]) (fun _ => rfl) (fun _ => []) (fun _ => Nat.zero_le _) (fun i => True) rfl trivial ?_ ?_ (subH_nil _ _) ?_ ?_ ?_
      · simp only [subT, Av.get, Nat.reduceEqDiff, ↓reduceIte, Le_rfl, nat0, and_self, and_true, true_and, List.take_zero, List.map_nil]
        first | exact .nil _ _ _ | exact .refl _
      · intro i _
        simp only [hltT, AV.hlt, strs_hlts, encE_hlts, List.length_nil, hk0, Bool.true_and, Bool.and_true]
      · intro i hi _
        refine .region [] (by decide) ?_
        simp only [EOps, EDf, isRd, gdA, callOf, isPanic, nextOf, altA, evalOp, St.ev, Av.get, St.put, argT, ofV, thenQ, Nat.reduceEqDiff, ↓reduceIte, Bool.and_self, List.map_cons, List.map_nil, List.nil_append, List.append_nil, List.getElem?_cons_zero, List.getElem?_cons_succ, List.getElem?_toArray, Option.map_some, Option.bind_some, decide_true, decide_false, beq_false, beq_true, Bool.not_true, Bool.not_false, Bool.false_eq_true, pickA, cond_true, cond_false, fk2, hmk 0, hlnV, b_lss, dlt]
        refine ⟨trivial, ?_, subH_nil _ _, trivial⟩
        simp only [subT, Av.get, Nat.reduceEqDiff, ↓reduceIte, Le_rfl, nat0, nat1, and_self]
      · intro i hi _
        obtain ⟨u, hu', hdu⟩ := drop_at hi
        have hnx := with_next hu hu'
        have q1 := with71 false (l.take i) u (by simp; omega)
        rw [hnx] at q1
        have hl5 : ∀ H o, lend H [.vsl 0 false ((l.take i).map .str), .str u] o = some [.vsl 0 false ((l.take i).map .str), .str u] := by intro H o; simp only [lend, AV.hfs, AV.hf, strs_hfs, Bool.and_self, if_true]
        have hix : ∀ H, evIndexAddr Tryz.prog 26 (encV (f, l)) (.int .i64 (i : Int)) H = some (.vptr [.str u]) := fun H => ia26 f l i u hu' H
        refine .block (.region [.pure (.ret (.vsl 0 false ((l.take (i + 1)).map .str)))] (by decide) ?_)
        generalize l.take (i + 1) = t' at *
        generalize l.take i = t at *
        simp only [EOps, EDf, isRd, gdA, callOf, isPanic, nextOf, altA, evalOp, St.ev, Av.get, St.put, argT, ofV, thenQ, Nat.reduceEqDiff, ↓reduceIte, Bool.and_self, List.map_cons, List.map_nil, List.nil_append, List.append_nil, List.getElem?_cons_zero, List.getElem?_cons_succ, List.getElem?_toArray, Option.map_some, Option.bind_some, decide_true, decide_false, beq_false, beq_true, Bool.not_true, Bool.not_false, Bool.false_eq_true, pickA, cond_true, cond_false, fk2, hmk 0, hix, ld9v, hl5]
        refine ⟨q1, trivial, ?_, subH_nil _ _, rfl⟩
        simp only [subT, Av.get, Nat.reduceEqDiff, ↓reduceIte, Le_rfl, nat0, nat1, and_self]
      · intro _
        simp only [EOps, EDf, isRd, gdA, callOf, isPanic, nextOf, altA, evalOp, St.ev, Av.get, St.put, argT, ofV, thenQ, Nat.reduceEqDiff, ↓reduceIte, Bool.and_self, List.map_cons, List.map_nil, List.nil_append, List.append_nil, List.getElem?_cons_zero, List.getElem?_cons_succ, List.getElem?_toArray, Option.map_some, Option.bind_some, decide_true, decide_false, beq_false, beq_true, Bool.not_true, Bool.not_false, Bool.false_eq_true, pickA, cond_true, cond_false, blockQ, List.take_length]
        simp [holdsT, Av.get, newK, encV]
  · intro _
    have h5 : decide (((newK m).2.length : Int) > 16) = false := decide_eq_false (by omega)
    have h6 : decide (((setE e m.2.1 (newK m)).length : Int) > 24) = false := hs
    generalize setE e m.2.1 (newK m) = o at *
    refine .seq (.region [.pure (.ret (.vsl 3 false (o.map encE)))] (by decide) ?_)
    simp only [EOps, EDf, isRd, gdA, callOf, isPanic, nextOf, altA, evalOp, St.ev, Av.get, St.put, argT, ofV, thenQ, Nat.reduceEqDiff, ↓reduceIte, Bool.and_self, List.map_cons, List.map_nil, List.nil_append, List.append_nil, List.getElem?_cons_zero, List.getElem?_cons_succ, List.getElem?_toArray, Option.map_some, Option.bind_some, decide_true, decide_false, beq_false, beq_true, Bool.not_true, Bool.not_false, Bool.false_eq_true, pickA, cond_true, cond_false, hl3]
    refine ⟨p3, ?_⟩
    refine .seq (.seq (.region [] (by decide) ?_))
    simp only [EOps, EDf, isRd, gdA, callOf, isPanic, nextOf, altA, evalOp, St.ev, Av.get, St.put, argT, ofV, thenQ, Nat.reduceEqDiff, ↓reduceIte, Bool.and_self, List.map_cons, List.map_nil, List.nil_append, List.append_nil, List.getElem?_cons_zero, List.getElem?_cons_succ, List.getElem?_toArray, Option.map_some, Option.bind_some, decide_true, decide_false, beq_false, beq_true, Bool.not_true, Bool.not_false, Bool.false_eq_true, pickA, cond_true, cond_false, hlnV, ln23, b_gtr, h5, h6]
    refine .cond (t := false) rfl (.skip ?_)
    refine .seq (.region [] (by decide) ?_)
    simp only [EOps, EDf, isRd, gdA, callOf, isPanic, nextOf, altA, evalOp, St.ev, Av.get, St.put, argT, ofV, thenQ, Nat.reduceEqDiff, ↓reduceIte, Bool.and_self, List.map_cons, List.map_nil, List.nil_append, List.append_nil, List.getElem?_cons_zero, List.getElem?_cons_succ, List.getElem?_toArray, Option.map_some, Option.bind_some, decide_true, decide_false, beq_false, beq_true, Bool.not_true, Bool.not_false, Bool.false_eq_true, pickA, cond_true, cond_false]
    exact .ret (retF2 4 5 rfl rfl rfl rfl (fz_hf (by simp only [AV.hf]; exact encE_hfs _)) rfl (.refl _))
end Go.Proofs.YtmeijkidjifagaaGreat
namespace Go.Proofs.YtmeijkidjifagaaGreat
set_option linter.unusedVariables false
set_option linter.unusedSimpArgs false
open Go Go.Av

def setAll (e : List Atr) (l : List Mk) : List Atr := l.foldl (fun e m => setE e m.2.1 (newK m)) e
theorem setAll_succ (e : List Atr) (l : List Mk) (i : Nat) (m : Mk) (h : l[i]? = some m) : setAll e (l.take (i + 1)) = setE (setAll e (l.take i)) m.2.1 (newK m) := by
  unfold setAll
  rw [List.take_add_one, h, List.foldl_append]; rfl

set_option maxRecDepth 100000 in
theorem do21 (x y : Bool) (e : List Atr) (l : List Mk) (hr : rightB e = true) (hl : l.length ≤ 1000) (hmay : ∀ m ∈ l, MayK m) (hup : ∀ m ∈ l, Up m.2.2.2) (hsm : ∀ m ∈ l, small m.2.1 = m.2.1)
    (hst : ∀ (i : Nat) (m : Mk), l[i]? = some m → goodK (setAll e (l.take i)) m ∧ longE (setE (setAll e (l.take i)) m.2.1 (newK m)) = false ∧ (setAll e (l.take i)).length ≤ 1000) :
    PureFn Tryz.prog 21 [.vsl 3 x (e.map encE), .vsl 4 y (l.map encK)] (.ret (.tup [.vsl 3 false ((setAll e l).map encE), .int .i64 0])) := by
  have p1 := right30 x e
  rw [hr] at p1
  have hl1 : ∀ H o, lend H [.vsl 3 x (e.map encE)] o = some [.vsl 3 x (e.map encE)] := by intro H o; simp [lend, AV.hfs, AV.hf, encE_hfs]
  have hl2 : ∀ m H o, lend H [encK m] o = some [encK m] := by intro m H o; simp [lend, AV.hfs, encK_hf]
  refine PureFn.of Tryz.func21 rfl (enters_call enters Tryz.func21 rfl) (by simp [Tryz.ntmps21]) ?_
  show W Tryz.prog 45 _ none _ _ _
  refine .seq (.region [] (by decide) ?_)
  simp only [EOps, EDf, isRd, gdA, callOf, isPanic, nextOf, altA, evalOp, St.ev, Av.get, St.put, argT, ofV, thenQ, Nat.reduceEqDiff, ↓reduceIte, Bool.and_self, List.map_cons, List.map_nil, List.nil_append, List.append_nil, List.getElem?_cons_zero, List.getElem?_cons_succ, List.getElem?_toArray, Option.map_some, Option.bind_some, decide_true, decide_false, beq_false, beq_true, Bool.not_true, Bool.not_false, Bool.false_eq_true, pickA, cond_true, cond_false, and_self, if_true]
  refine .seq (.seq (.region [.pure (.ret (.bool true))] (by decide) ?_))
  simp only [EOps, EDf, isRd, gdA, callOf, isPanic, nextOf, altA, evalOp, St.ev, Av.get, St.put, argT, ofV, thenQ, Nat.reduceEqDiff, ↓reduceIte, Bool.and_self, List.map_cons, List.map_nil, List.nil_append, List.append_nil, List.getElem?_cons_zero, List.getElem?_cons_succ, List.getElem?_toArray, Option.map_some, Option.bind_some, decide_true, decide_false, beq_false, beq_true, Bool.not_true, Bool.not_false, Bool.false_eq_true, pickA, cond_true, cond_false, hl1, u_not]
  refine ⟨p1, .cond (t := false) rfl (.skip ?_)⟩
  refine .seq (.seq (.region [] (by decide) ?_))
  simp only [EOps, EDf, isRd, gdA, callOf, isPanic, nextOf, altA, evalOp, St.ev, Av.get, St.put, argT, ofV, thenQ, Nat.reduceEqDiff, ↓reduceIte, Bool.and_self, List.map_cons, List.map_nil, List.nil_append, List.append_nil, List.getElem?_cons_zero, List.getElem?_cons_succ, List.getElem?_toArray, Option.map_some, Option.bind_some, decide_true, decide_false, beq_false, beq_true, Bool.not_true, Bool.not_false, Bool.false_eq_true, pickA, cond_true, cond_false]
  refine .block ?_
  refine .forR 6 16 17 18 0 l.length (by simp only [maxLen']; omega) (Nat.zero_le _) rfl rfl rfl rfl rfl rfl rfl rfl rfl (by decide)
    (fun i => [(0, .vsl 3 x (e.map encE)), (1, .vsl 4 y (l.map encK))]) (fun _ => rfl) (fun _ => []) (fun _ => Nat.zero_le _) (fun i => True) rfl trivial ?_ ?_ (subH_nil _ _) ?_ ?_ ?_
  · simp only [subT, Av.get, Nat.reduceEqDiff, ↓reduceIte, Le_rfl, nat0, nat1, and_self]
  · intro i _
    simp only [hltT, AV.hlt, encE_hlts, encK_hlts, Bool.true_and, Bool.and_true]
  · intro i hi _
    refine .region [] (by decide) ?_
    simp only [EOps, EDf, isRd, gdA, callOf, isPanic, nextOf, altA, evalOp, St.ev, Av.get, St.put, argT, ofV, thenQ, Nat.reduceEqDiff, ↓reduceIte, Bool.and_self, List.map_cons, List.map_nil, List.nil_append, List.append_nil, List.getElem?_cons_zero, List.getElem?_cons_succ, List.getElem?_toArray, Option.map_some, Option.bind_some, decide_true, decide_false, beq_false, beq_true, Bool.not_true, Bool.not_false, Bool.false_eq_true, pickA, cond_true, cond_false, ln43k, b_lss, dlt]
    refine ⟨trivial, ?_, subH_nil _ _, trivial⟩
    simp only [subT, Av.get, Nat.reduceEqDiff, ↓reduceIte, Le_rfl, nat0, nat1, and_self]
  · intro i hi _
    obtain ⟨m, hm, hdm⟩ := drop_at hi
    have q1 := may42 m (hmay m (List.mem_of_getElem? hm))
    refine .block (.seq (.region [.pure (.ret (.bool true))] (by decide) ?_))
    simp only [EOps, EDf, isRd, gdA, callOf, isPanic, nextOf, altA, evalOp, St.ev, Av.get, St.put, argT, ofV, thenQ, Nat.reduceEqDiff, ↓reduceIte, Bool.and_self, List.map_cons, List.map_nil, List.nil_append, List.append_nil, List.getElem?_cons_zero, List.getElem?_cons_succ, List.getElem?_toArray, Option.map_some, Option.bind_some, decide_true, decide_false, beq_false, beq_true, Bool.not_true, Bool.not_false, Bool.false_eq_true, pickA, cond_true, cond_false, ia43k _ _ _ _ hm, ld68vk, hl2, u_not]
    refine ⟨q1, .cond (t := false) rfl (.skip ?_)⟩
    refine ⟨trivial, ?_, subH_nil _ _, rfl⟩
    simp only [subT, Av.get, Nat.reduceEqDiff, ↓reduceIte, Le_rfl, nat0, nat1, and_self]
  · intro _
    simp only [EOps, EDf, isRd, gdA, callOf, isPanic, nextOf, altA, evalOp, St.ev, Av.get, St.put, argT, ofV, thenQ, Nat.reduceEqDiff, ↓reduceIte, Bool.and_self, List.map_cons, List.map_nil, List.nil_append, List.append_nil, List.getElem?_cons_zero, List.getElem?_cons_succ, List.getElem?_toArray, Option.map_some, Option.bind_some, decide_true, decide_false, beq_false, beq_true, Bool.not_true, Bool.not_false, Bool.false_eq_true, pickA, cond_true, cond_false, blockQ]
    refine .seq (.seq (.region [] (by decide) ?_))
    simp only [EOps, EDf, isRd, gdA, callOf, isPanic, nextOf, altA, evalOp, St.ev, Av.get, St.put, argT, ofV, thenQ, Nat.reduceEqDiff, ↓reduceIte, Bool.and_self, List.map_cons, List.map_nil, List.nil_append, List.append_nil, List.getElem?_cons_zero, List.getElem?_cons_succ, List.getElem?_toArray, Option.map_some, Option.bind_some, decide_true, decide_false, beq_false, beq_true, Bool.not_true, Bool.not_false, Bool.false_eq_true, pickA, cond_true, cond_false]
    refine .block ?_
    refine .forR 7 28 29 30 0 l.length (by simp only [maxLen']; omega) (Nat.zero_le _) rfl rfl rfl rfl rfl rfl rfl rfl rfl (by decide)
      (fun i => [(0, .vsl 3 false ((setAll e (l.take i)).map encE)), (1, .vsl 4 y (l.map encK))]) (fun _ => rfl) (fun _ => []) (fun _ => Nat.zero_le _) (fun i => True) rfl trivial ?_ ?_ (subH_nil _ _) ?_ ?_ ?_
    · simp only [subT, Av.get, Nat.reduceEqDiff, ↓reduceIte, Le_rfl, nat0, and_self, and_true, true_and]
      exact .exact _ _ _
    · intro i _
      simp only [hltT, AV.hlt, encE_hlts, encK_hlts, Bool.true_and, Bool.and_true]
    · intro i hi _
      refine .region [] (by decide) ?_
      simp only [EOps, EDf, isRd, gdA, callOf, isPanic, nextOf, altA, evalOp, St.ev, Av.get, St.put, argT, ofV, thenQ, Nat.reduceEqDiff, ↓reduceIte, Bool.and_self, List.map_cons, List.map_nil, List.nil_append, List.append_nil, List.getElem?_cons_zero, List.getElem?_cons_succ, List.getElem?_toArray, Option.map_some, Option.bind_some, decide_true, decide_false, beq_false, beq_true, Bool.not_true, Bool.not_false, Bool.false_eq_true, pickA, cond_true, cond_false, ln43k, b_lss, dlt]
      refine ⟨trivial, ?_, subH_nil _ _, trivial⟩
      simp only [subT, Av.get, Nat.reduceEqDiff, ↓reduceIte, Le_rfl, nat0, nat1, and_self]
    · intro i hi _
      obtain ⟨m, hm, hdm⟩ := drop_at hi
      have hmem := List.mem_of_getElem? hm
      obtain ⟨g1, g2, g3⟩ := hst i m hm
      have hsu := setAll_succ e l i m hm
      have q1 := one43 false (setAll e (l.take i)) m (hup m hmem) (hsm m hmem) g1 (hmay m hmem).few g3 g2
      rw [← hsu] at q1
      generalize setAll e (l.take (i + 1)) = E' at q1 ⊢
      generalize setAll e (l.take i) = E at q1 ⊢
      have hl3 : ∀ H o, lend H [.vsl 3 false (E.map encE), encK m] o = some [.vsl 3 false (E.map encE), encK m] := by intro H o; simp [lend, AV.hfs, AV.hf, encE_hfs, encK_hf]
      have e00 : ((0 : Int) != 0) = false := rfl
      refine .block (.seq (.region [.pure (.ret (.tup [.vsl 3 false (E'.map encE), .int .i64 0]))] (by decide) ?_))
      simp only [EOps, EDf, isRd, gdA, callOf, isPanic, nextOf, altA, evalOp, St.ev, Av.get, St.put, argT, ofV, thenQ, Nat.reduceEqDiff, ↓reduceIte, Bool.and_self, List.map_cons, List.map_nil, List.nil_append, List.append_nil, List.getElem?_cons_zero, List.getElem?_cons_succ, List.getElem?_toArray, Option.map_some, Option.bind_some, decide_true, decide_false, beq_false, beq_true, Bool.not_true, Bool.not_false, Bool.false_eq_true, pickA, cond_true, cond_false, ia43k _ _ _ _ hm, ld68vk, hl3]
      refine ⟨q1, ?_⟩
      refine .seq (.seq (.region [] (by decide) ?_))
      simp only [EOps, EDf, isRd, gdA, callOf, isPanic, nextOf, altA, evalOp, St.ev, Av.get, St.put, argT, ofV, thenQ, Nat.reduceEqDiff, ↓reduceIte, Bool.and_self, List.map_cons, List.map_nil, List.nil_append, List.append_nil, List.getElem?_cons_zero, List.getElem?_cons_succ, List.getElem?_toArray, Option.map_some, Option.bind_some, decide_true, decide_false, beq_false, beq_true, Bool.not_true, Bool.not_false, Bool.false_eq_true, pickA, cond_true, cond_false, b_neq, e00]
      refine .cond (t := false) rfl (.skip ?_)
      refine .region [] (by decide) ?_
      simp only [EOps, EDf, isRd, gdA, callOf, isPanic, nextOf, altA, evalOp, St.ev, Av.get, St.put, argT, ofV, thenQ, Nat.reduceEqDiff, ↓reduceIte, Bool.and_self, List.map_cons, List.map_nil, List.nil_append, List.append_nil, List.getElem?_cons_zero, List.getElem?_cons_succ, List.getElem?_toArray, Option.map_some, Option.bind_some, decide_true, decide_false, beq_false, beq_true, Bool.not_true, Bool.not_false, Bool.false_eq_true, pickA, cond_true, cond_false]
      refine ⟨trivial, ?_, subH_nil _ _, rfl⟩
      simp only [subT, Av.get, Nat.reduceEqDiff, ↓reduceIte, Le_rfl, nat0, nat1, and_self]
    · intro _
      simp only [EOps, EDf, isRd, gdA, callOf, isPanic, nextOf, altA, evalOp, St.ev, Av.get, St.put, argT, ofV, thenQ, Nat.reduceEqDiff, ↓reduceIte, Bool.and_self, List.map_cons, List.map_nil, List.nil_append, List.append_nil, List.getElem?_cons_zero, List.getElem?_cons_succ, List.getElem?_toArray, Option.map_some, Option.bind_some, decide_true, decide_false, beq_false, beq_true, Bool.not_true, Bool.not_false, Bool.false_eq_true, pickA, cond_true, cond_false, blockQ]
      rw [List.take_length]
      refine .seq (.region [] (by decide) ?_)
      simp only [EOps, EDf, isRd, gdA, callOf, isPanic, nextOf, altA, evalOp, St.ev, Av.get, St.put, argT, ofV, thenQ, Nat.reduceEqDiff, ↓reduceIte, Bool.and_self, List.map_cons, List.map_nil, List.nil_append, List.append_nil, List.getElem?_cons_zero, List.getElem?_cons_succ, List.getElem?_toArray, Option.map_some, Option.bind_some, decide_true, decide_false, beq_false, beq_true, Bool.not_true, Bool.not_false, Bool.false_eq_true, pickA, cond_true, cond_false]
      exact .ret (retF2 4 5 rfl rfl rfl rfl (fz_hf (by simp only [AV.hf]; exact encE_hfs _)) rfl (.refl _))

/-! The changes of Diff, done, make the other entry. -/
theorem getE_nvU : ∀ {e f : List Atr}, e.map nv = f.map nv → ∀ n, getE e n = getE f n
  | [], [], _, _ => rfl
  | [], b :: f, h, _ => by simp at h
  | a :: e, [], h, _ => by simp at h
  | a :: e, b :: f, h, n => by
    rw [List.map_cons, List.map_cons, List.cons.injEq] at h
    obtain ⟨h1, h2⟩ := h
    simp only [nv, Prod.mk.injEq] at h1
    rw [getE_cons, getE_cons, h1.1, h1.2, getE_nvU h2 n]
def toMo (m : Mk) : Mo := (m.2.1, newK m)
theorem set_do {e f : List Atr} (he : Ent e) (hf : Ent f) (h : e.map nv = f.map nv) (m : Mk) (hm : Up (newK m).2) : (setE e m.2.1 (newK m)).map nv = (doT f (toMo m)).map nv ∧ Ent (setE e m.2.1 (newK m)) ∧ Ent (doT f (toMo m)) := by
  obtain ⟨g1, g2⟩ := setE_law he m.2.1 (newK m) hm
  have k1 : Ent (doT f (toMo m)) := ent_do hf hm
  refine ⟨ent_ext g1 k1 fun n => ?_, g1, k1⟩
  have k2 : getE (doT f (toMo m)) n = if n = m.2.1 then (newK m).2 else getE f n := getE_do hf (m := toMo m) hm n
  rw [g2, k2, getE_nvU h n]
theorem setAll_doF : ∀ {l : List Mk} {e f : List Atr}, Ent e → Ent f → e.map nv = f.map nv → (∀ m ∈ l, Up (newK m).2) → (setAll e l).map nv = (doF f (l.map toMo)).map nv ∧ Ent (setAll e l)
  | [], e, f, he, hf, h, _ => ⟨h, he⟩
  | m :: l, e, f, he, hf, h, hl => by
    obtain ⟨g1, g2, g3⟩ := set_do he hf h m (hl m (by simp))
    exact setAll_doF (l := l) g2 g3 g1 fun k hk => hl k (List.mem_cons_of_mem _ hk)
end Go.Proofs.YtmeijkidjifagaaGreat
