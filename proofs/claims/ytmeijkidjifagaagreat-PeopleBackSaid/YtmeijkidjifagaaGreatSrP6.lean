/- Contracts of functions that the statements of this seat reach: under the conditions named at each theorem. -/
import Derived.Test.YtmeijkidjifagaaGreatSrP5
import Derived.Test.YtmeijkidjifagaaGreatSvP5
import Derived.WalkKit
import Derived.ProofKit
import Derived.OpenShut
import Derived.Carry
namespace Go.Proofs.YtmeijkidjifagaaGreat
set_option linter.unusedVariables false
set_option linter.unusedSimpArgs false
open Go Go.Av

def zeroC : List Val := List.replicate 8 (true, [])
def getC (e : List Atr) : List Val := attrNames.map fun n => (false, getE e (small n))
/-- So many fields told. -/
def partC (e : List Atr) (i : Nat) : List Val := (getC e).take i ++ zeroC.drop i
theorem getC_len (e : List Atr) : (getC e).length = 8 := rfl
theorem zeroC_len : zeroC.length = 8 := rfl
theorem partC_len (e : List Atr) (i : Nat) (h : i ≤ 8) : (partC e i).length = 8 := by
  simp [partC, getC_len, zeroC_len]; omega
theorem partC_all (e : List Atr) : partC e 8 = getC e := by
  unfold partC
  rw [List.take_of_length_le (by rw [getC_len]; exact Nat.le_refl _), List.drop_of_length_le (by rw [zeroC_len]; exact Nat.le_refl _), List.append_nil]
theorem partC_set (e : List Atr) (i : Nat) (v : Val) (h : (getC e)[i]? = some v) : (partC e i).set i v = partC e (i + 1) := by
  have hi : i < 8 := by have := (List.getElem?_eq_some_iff.1 h).1; rwa [getC_len] at this
  unfold partC
  have ht : ((getC e).take i).length = i := by rw [List.length_take, getC_len]; omega
  have hd : zeroC.drop i = (true, []) :: zeroC.drop (i + 1) := by
    rw [List.drop_eq_getElem_cons (by rw [zeroC_len]; exact hi)]
    congr 1
    exact List.getElem_replicate _
  rw [List.set_append_right _ _ (by omega), ht, Nat.sub_self, hd, List.set_cons_zero, List.take_add_one, h]
  simp
def dashC (c : List Val) : List Val := if fld c 2 = [[45]] then c.set 2 (true, []) else c
theorem dashC_len {c : List Val} (h : c.length = 8) : (dashC c).length = 8 := by unfold dashC; split <;> simp [h]

theorem za28 : zeroA Tryz.prog 28 = some (.agg (zeroC.map encV)) := by kernel_rfl
theorem za56 : zeroA Tryz.prog 56 = some (.agg (List.replicate 8 (.str []))) := by kernel_rfl
theorem bd28 : evBuild Tryz.prog 28 [] = some (.agg (zeroC.map encV)) := by kernel_rfl
theorem st28 (H : List OB) (id : Nat) (c d : List Val) (hc : c.length = 8) (hd : d.length = 8) (h : H[id]? = some (.cells (c.map encV) false)) : evStore Tryz.prog 28 (.ptr id 0) (.agg (d.map encV)) H = some (H.set id (.cells (d.map encV) false)) := by
  have h1 : (d.map encV).all AV.isC = true := by rw [List.all_eq_true]; intro v hv; obtain ⟨r, _, rfl⟩ := List.mem_map.1 hv; rfl
  have h2 : setC (c.map encV) 0 (d.map encV) = d.map encV := by
    have : ∀ (a b : List AV), a.length = b.length → setC a 0 b = b := by
      intro a b hab
      have aux : ∀ (vs cs : List AV) (pre : List AV), cs.length = vs.length → setC (pre ++ cs) pre.length vs = pre ++ vs := by
        intro vs
        induction vs with
        | nil => intro cs pre h; cases cs with | nil => rfl | cons _ _ => simp at h
        | cons v vs ih =>
          intro cs pre h
          cases cs with
          | nil => simp at h
          | cons c cs =>
            have hh := ih cs (pre ++ [v]) (by simpa using h)
            simp only [setC]
            rw [List.set_append_right _ _ (Nat.le_refl _), Nat.sub_self, List.set_cons_zero]
            simp only [List.append_assoc, List.singleton_append, List.length_append, List.length_singleton] at hh
            exact hh
      exact aux b a [] hab
    exact this _ _ (by simp [hc, hd])
  simp only [evStore, tz28, h, cells_agg', h2, h1]
  rw [if_pos ⟨by simp [hd], by simp [hc], trivial⟩]

theorem st26 (H : List OB) (id i : Nat) (c : List Val) (u : Val) (hi : i < c.length) (h : H[id]? = some (.cells (c.map encV) false)) : evStore Tryz.prog 26 (.ptr id i) (encV u) H = some (H.set id (.cells ((c.set i u).map encV) false)) := by
  have hi' : i + 1 ≤ (c.map encV).length := by simp; omega
  have hc1 : (encV u).cells = [encV u] := rfl
  have hc2 : ([encV u] : List AV).all AV.isC = true := rfl
  have hl : i + 1 ≤ c.length := hi
  simp [evStore, tz26, h, hc1, hc2, setC_one, hl]
theorem ix56 (i : Nat) (n : Bytes) (h : attrNames[i]? = some n) : evIndex Tryz.prog 56 (.agg (attrNames.map .str)) (.int .i64 (i : Int)) = some (.str n) := by
  have hi : i < 8 := (List.getElem?_eq_some_iff.1 h).1
  have h1 : (attrNames.map AV.str)[i]? = some (.str n) := by simp [h]
  simp [evIndex, idx_nat, Tryz.underlying56, tz9, hi, evPart, tg9, ldA, h1]
theorem getC_at (e : List Atr) (i : Nat) (h : i < 8) : ∃ n, attrNames[i]? = some n ∧ (getC e)[i]? = some (false, getE e (small n)) := by
  have hl : attrNames.length = 8 := rfl
  refine ⟨attrNames[i], List.getElem?_eq_getElem (by omega), ?_⟩
  unfold getC
  rw [List.getElem?_map, List.getElem?_eq_getElem (by omega)]
  rfl
theorem retC2 {P : Program} {rs : List ResultVar} {a : St} {v u : AV} (t ty s : Nat) (hr : rs = [.cell t ty, .tmp s]) (hD : a.D = []) (hl : evLoad P ty (Av.get a.T t) a.H = some v) (hs : Av.get a.T s = u) (hv : v.hf = true) (hu : u.hf = true) : retQ P rs (.ret (.tup [v, u])) .ret a := by
  obtain ⟨T, H, D⟩ := a
  simp only at hD hl hs
  subst hD; subst hr
  refine ⟨⟨T, H, []⟩, rfl, .tup [v, u], ?_, .refl _⟩
  have : resA P [.cell t ty, .tmp s] ⟨T, H, []⟩ = some (.tup [v, u]) := by
    show (List.mapM (resA1 P ⟨T, H, []⟩) [.cell t ty, .tmp s]).map AV.tup = _
    simp only [List.mapM_cons, List.mapM_nil, resA1, hl, hs]
    rfl
  rw [this]
  exact fz_hf (by simp [AV.hf, AV.hfs, hv, hu])
theorem encC_hf (c : List Val) : AV.hf (.agg (c.map encV)) = true := by simp only [AV.hf]; exact encV_hfs c

noncomputable def cd9 : Code := match Tryz.f9.body with
  | some (.seq _ (.scope c)) => c
  | _ => .skip
noncomputable def lb9 : Code := match findLabel cd9 0 with
  | some r => r
  | none => .skip

def ofC (e : List Atr) : List Val × Int :=
  if checkE e = true then (if checkC (dashC (getC e)) = true then (dashC (getC e), 0) else (zeroC, 280)) else (zeroC, 2)

set_option maxRecDepth 100000 in
theorem of9 (x : Bool) (e : List Atr) (he : e.length ≤ 1000000) (hb : ∀ a ∈ e, a.2.2.length ≤ 1000000) : PureFn Tryz.prog 9 [.vsl 3 x (e.map encE)] (.ret (.tup [.agg ((ofC e).1.map encV), .int .i64 (ofC e).2])) := by
  refine PureFn.of Tryz.func9 rfl (enters_call enters Tryz.func9 rfl) (by simp [Tryz.ntmps9]) ?_
  show W Tryz.prog 33 _ none _ _ _
  have hzl : (zeroC.map encV).length = 8 := rfl
  -- the label's part
  have lab : ∀ (T : List (Nat × AV)) (H : List OB) (c : List Val) (k : Int), c.length = 8 → H[0]? = some (.cells (c.map encV) false) → Av.get T 2 = .ptr 0 0 → Av.get T 3 = .int .i64 k → ofC e = (zeroC, k) →
      W Tryz.prog 33 0 none lb9 (noGotoQ (retQ Tryz.prog Tryz.f9.results.toList (.ret (.tup [.agg ((ofC e).1.map encV), .int .i64 (ofC e).2])))) ⟨T, H, []⟩ := by
    intro T H c k hc h0 hT2 hT3 ho
    show W Tryz.prog 33 0 none (.seq .skip (.seq (.region 14 _ _) _)) _ _
    refine .seq (.skip ?_)
    have hst := st28 H 0 c zeroC hc rfl h0
    refine .seq (.region [] (by decide) ?_)
    simp only [EOps, EDf, isRd, gdA, callOf, isPanic, nextOf, altA, evalOp, St.ev, Av.get, St.put, argT, ofV, thenQ, Nat.reduceEqDiff, ↓reduceIte, Bool.and_self, List.map_cons, List.map_nil, List.nil_append, List.append_nil, List.getElem?_cons_zero, List.getElem?_cons_succ, List.getElem?_toArray, Option.map_some, Option.bind_some, decide_true, decide_false, beq_false, beq_true, Bool.not_true, Bool.not_false, Bool.false_eq_true, pickA, cond_true, cond_false, bd28, hT2, hT3, hst]
    refine .ret ?_
    show retQ _ _ _ .ret _
    rw [ho]
    have l0 : 0 < H.length := (List.getElem?_eq_some_iff.1 h0).1
    refine retC2 2 28 3 rfl rfl ?_ rfl (encC_hf _) rfl
    show evLoad _ 28 (Av.get _ 2) _ = _
    simp only [Av.get, Nat.reduceEqDiff, ↓reduceIte, hT2]
    exact ld28 _ 0 zeroC false rfl (by rw [List.getElem?_set_self l0])
  refine .seq (.region [] (by decide) ?_)
  simp only [EOps, EDf, isRd, gdA, callOf, isPanic, nextOf, altA, evalOp, St.ev, Av.get, St.put, argT, ofV, thenQ, Nat.reduceEqDiff, ↓reduceIte, lend, AV.hfs, AV.hf, Bool.and_self, List.map_cons, List.map_nil, List.nil_append, List.append_nil, List.getElem?_cons_zero, List.getElem?_cons_succ, List.getElem?_toArray, Option.map_some, Option.bind_some, decide_true, decide_false, beq_false, beq_true, Bool.not_true, Bool.not_false, Bool.false_eq_true, pickA, cond_true, cond_false, za28, cells_agg', List.length_nil]
  have hst56 : evStore Tryz.prog 56 (.ptr 1 0) (.agg (attrNames.map .str)) [.cells (zeroC.map encV) false, .cells (List.replicate 8 (.str [])) false] = some [.cells (zeroC.map encV) false, .cells (attrNames.map .str) false] := by kernel_rfl
  show W Tryz.prog 33 0 none (.scope cd9) _ _
  refine W.scope (rest := lb9) 0 rfl ?_
  show W Tryz.prog 33 0 none (.seq (.region 1 _ _) _) _ _
  refine .seq (.region [.pure (.ret (.agg (attrNames.map .str)))] (by decide) ?_)
  simp only [EOps, EDf, isRd, gdA, callOf, isPanic, nextOf, altA, evalOp, St.ev, Av.get, St.put, argT, ofV, thenQ, Nat.reduceEqDiff, ↓reduceIte, Bool.and_self, List.map_cons, List.map_nil, List.nil_append, List.append_nil, List.getElem?_cons_zero, List.getElem?_cons_succ, List.getElem?_toArray, Option.map_some, Option.bind_some, decide_true, decide_false, beq_false, beq_true, Bool.not_true, Bool.not_false, Bool.false_eq_true, pickA, cond_true, cond_false, za56, cells_agg', List.length_singleton, List.cons_append, hst56]
  refine ⟨attributes25, ?_⟩
  refine .seq (.seq (.region [] (by decide) ?_))
  simp only [EOps, EDf, isRd, gdA, callOf, isPanic, nextOf, altA, evalOp, St.ev, Av.get, St.put, argT, ofV, thenQ, Nat.reduceEqDiff, ↓reduceIte, Bool.and_self, List.map_cons, List.map_nil, List.nil_append, List.append_nil, List.getElem?_cons_zero, List.getElem?_cons_succ, List.getElem?_toArray, Option.map_some, Option.bind_some, decide_true, decide_false, beq_false, beq_true, Bool.not_true, Bool.not_false, Bool.false_eq_true, pickA, cond_true, cond_false]
  have hck := check26 x e he
  generalize h1 : checkE e = b1 at hck
  refine .seq (.region [.pure (.ret (.int .i64 (if b1 = true then 0 else 2)))] (by decide) ?_)
  simp only [EOps, EDf, isRd, gdA, callOf, isPanic, nextOf, altA, evalOp, St.ev, Av.get, St.put, argT, ofV, thenQ, Nat.reduceEqDiff, ↓reduceIte, lend, AV.hfs, AV.hf, Bool.and_self, List.map_cons, List.map_nil, List.nil_append, List.append_nil, List.getElem?_cons_zero, List.getElem?_cons_succ, List.getElem?_toArray, Option.map_some, Option.bind_some, decide_true, decide_false, beq_false, beq_true, Bool.not_true, Bool.not_false, Bool.false_eq_true, pickA, cond_true, cond_false, encE_hfs, b_neq]
  refine ⟨hck, ?_⟩
  cases b1 with
  | false =>
    refine .cond (t := true) rfl (.goto ?_)
    refine ⟨rfl, ?_⟩
    refine lab _ _ zeroC 2 rfl rfl rfl rfl ?_
    unfold ofC; rw [if_neg (by rw [h1]; simp)]
  | true =>
    refine .cond (t := false) rfl (.skip ?_)
    simp only [EOps, EDf, isRd, gdA, callOf, isPanic, nextOf, altA, evalOp, St.ev, Av.get, St.put, argT, ofV, thenQ, Nat.reduceEqDiff, ↓reduceIte, Bool.and_self, List.map_cons, List.map_nil, List.nil_append, List.append_nil, List.getElem?_cons_zero, List.getElem?_cons_succ, List.getElem?_toArray, Option.map_some, Option.bind_some, decide_true, decide_false, beq_false, beq_true, Bool.not_true, Bool.not_false, Bool.false_eq_true, pickA, cond_true, cond_false]
    refine .seq (.seq (.region [] (by decide) ?_))
    have hl56 : evLoad Tryz.prog 56 (.ptr 1 0) [.cells (zeroC.map encV) false, .cells (attrNames.map .str) false] = some (.agg (attrNames.map .str)) := by kernel_rfl
    simp only [EOps, EDf, isRd, gdA, callOf, isPanic, nextOf, altA, evalOp, St.ev, Av.get, St.put, argT, ofV, thenQ, Nat.reduceEqDiff, ↓reduceIte, Bool.and_self, List.map_cons, List.map_nil, List.nil_append, List.append_nil, List.getElem?_cons_zero, List.getElem?_cons_succ, List.getElem?_toArray, Option.map_some, Option.bind_some, decide_true, decide_false, beq_false, beq_true, Bool.not_true, Bool.not_false, Bool.false_eq_true, pickA, cond_true, cond_false, hl56]
    refine .block ?_
    have hH : ∀ m i, [OB.cells ((partC e i).map encV) false, .cells (attrNames.map .str) false].all (OB.hlt m) = true := by intro m i; simp [OB.hlt, encV_hlts, strs_hlts]
    refine .forK 12 13 21 8 (by decide) rfl rfl rfl rfl rfl rfl rfl rfl rfl (by decide) (by decide) (by decide)
      (fun i => [(11, .agg (attrNames.map .str)), (0, .vsl 3 x (e.map encE)), (2, .ptr 0 0)]) (fun _ => rfl) (fun i => [.cells ((partC e i).map encV) false, .cells (attrNames.map .str) false]) (fun _ => Nat.zero_le _) (fun i => True)
      rfl trivial ?_ ?_ (subH_self (hH _ 0)) ?_ ?_
    · simp only [subT, Av.get, Nat.reduceEqDiff, ↓reduceIte, Le_rfl, nat0, nat1, and_self]
    · intro i _
      simp only [hltT, AV.hlt, AV.hlts, strs_hlts, Bool.and_self, Bool.and_true, Bool.true_and, encE_hlts]
      rfl
    · intro i hi _
      obtain ⟨n, hn, hg⟩ := getC_at e i hi
      refine .block (.seq (.region [] (by decide) ?_))
      simp only [EOps, EDf, isRd, gdA, callOf, isPanic, nextOf, altA, evalOp, St.ev, Av.get, St.put, argT, ofV, thenQ, Nat.reduceEqDiff, ↓reduceIte, Bool.and_self, List.map_cons, List.map_nil, List.nil_append, List.append_nil, List.getElem?_cons_zero, List.getElem?_cons_succ, List.getElem?_toArray, Option.map_some, Option.bind_some, decide_true, decide_false, beq_false, beq_true, Bool.not_true, Bool.not_false, Bool.false_eq_true, pickA, cond_true, cond_false, ix56 i n hn]
      have hst := st26 [.cells ((partC e i).map encV) false, .cells (attrNames.map .str) false] 0 i (partC e i) (false, getE e (small n)) (by rw [partC_len e i (by omega)]; exact hi) rfl
      rw [partC_set e i _ hg] at hst
      refine .region [.pure (.ret (encV (false, getE e (small n))))] (by decide) ?_
      have hl : ∀ H o, lend H [.vsl 3 x (e.map encE), .str n] o = some [.vsl 3 x (e.map encE), .str n] := by intro H o; simp [lend, AV.hfs, AV.hf, encE_hfs]
      simp only [EOps, EDf, isRd, gdA, callOf, isPanic, nextOf, altA, evalOp, St.ev, Av.get, St.put, argT, ofV, thenQ, Nat.reduceEqDiff, ↓reduceIte, Bool.and_self, List.map_cons, List.map_nil, List.nil_append, List.append_nil, List.getElem?_cons_zero, List.getElem?_cons_succ, List.getElem?_toArray, Option.map_some, Option.bind_some, decide_true, decide_false, beq_false, beq_true, Bool.not_true, Bool.not_false, Bool.false_eq_true, pickA, cond_true, cond_false, hl, ia28 0 i hi, hst, List.set_cons_zero]
      refine ⟨get27 x e n hb, trivial, ?_, subH_self (hH _ (i + 1)), rfl⟩
      simp only [subT, Av.get, Nat.reduceEqDiff, ↓reduceIte, Le_rfl, nat0, nat1, and_self]
    · intro _
      rw [partC_all]
      simp only [EOps, EDf, isRd, gdA, callOf, isPanic, nextOf, altA, evalOp, St.ev, Av.get, St.put, argT, ofV, thenQ, Nat.reduceEqDiff, ↓reduceIte, Bool.and_self, List.map_cons, List.map_nil, List.nil_append, List.append_nil, List.getElem?_cons_zero, List.getElem?_cons_succ, List.getElem?_toArray, Option.map_some, Option.bind_some, decide_true, decide_false, beq_false, beq_true, Bool.not_true, Bool.not_false, Bool.false_eq_true, pickA, cond_true, cond_false, blockQ]
      generalize hc : getC e = c
      have hcl : c.length = 8 := by rw [← hc]; exact getC_len e
      obtain ⟨v, hv, hfv⟩ := fld_at c 2 (by omega)
      have hve : (c.map encV)[2]? = some (encV v) := by simp [hv]
      have hia : ∀ H, evIndexAddr Tryz.prog 28 (.ptr 0 0) (.int .i64 2) H = some (.ptr 0 2) := fun H => ia28 0 2 (by decide) H
      have hld : evLoad Tryz.prog 26 (.ptr 0 2) [.cells (c.map encV) false, .cells (attrNames.map .str) false] = some (encV v) := ld26 _ 0 2 _ _ _ rfl hve
      have hp := equal28 v.1 true v.2 [[45]]
      have hl : ∀ H o, lend H [encV v, .vsl 0 true [.str [45]]] o = some [encV v, .vsl 0 true [.str [45]]] := by intro H o; simp [lend, AV.hfs, AV.hf, encV, strs_hfs]
      have hdash : dashC c = if v.2 = [[45]] then c.set 2 (true, []) else c := by unfold dashC; rw [hfv]
      refine .seqT [(0, .vsl 3 x (e.map encE)), (2, .ptr 0 0)] [.cells ((dashC c).map encV) false, .cells (attrNames.map .str) false] ?_ ?_
      · refine .seq (.region [.pure (.ret (.bool (decide (v.2 = [[45]]))))] (by decide) ?_)
        have x1 : ({ data := #[45] } : ByteArray).size ≤ maxLen' := by decide
        simp only [EOps, EDf, isRd, gdA, callOf, isPanic, nextOf, altA, evalOp, St.ev, Av.get, St.put, argT, ofV, thenQ, Nat.reduceEqDiff, ↓reduceIte, Bool.and_self, List.map_cons, List.map_nil, List.nil_append, List.append_nil, List.getElem?_cons_zero, List.getElem?_cons_succ, List.getElem?_toArray, Option.map_some, Option.bind_some, decide_true, decide_false, beq_false, beq_true, Bool.not_true, Bool.not_false, Bool.false_eq_true, pickA, cond_true, cond_false, hia, hld, bs26one, hl, x1, if_true]
        refine ⟨hp, ?_⟩
        by_cases hd : v.2 = [[45]]
        · rw [if_pos hd] at hdash
          rw [decide_eq_true hd]
          refine .cond (t := true) rfl (.region [] (by decide) ?_)
          have hst : evStore Tryz.prog 26 (.ptr 0 2) (.vsl 0 true []) [.cells (c.map encV) false, .cells (attrNames.map .str) false] = some [.cells ((c.set 2 (true, [])).map encV) false, .cells (attrNames.map .str) false] := st26 _ 0 2 c (true, []) (by omega) rfl
          simp only [EOps, EDf, isRd, gdA, callOf, isPanic, nextOf, altA, evalOp, St.ev, Av.get, St.put, argT, ofV, thenQ, Nat.reduceEqDiff, ↓reduceIte, Bool.and_self, List.map_cons, List.map_nil, List.nil_append, List.append_nil, List.getElem?_cons_zero, List.getElem?_cons_succ, List.getElem?_toArray, Option.map_some, Option.bind_some, decide_true, decide_false, beq_false, beq_true, Bool.not_true, Bool.not_false, Bool.false_eq_true, pickA, cond_true, cond_false, hia, hst, and_self, if_true]
          rw [hdash]
          refine ⟨?_, by trivial, by trivial⟩
          simp [holdsT, Av.get]
        · rw [if_neg hd] at hdash
          rw [decide_eq_false hd]
          refine .cond (t := false) rfl (.skip ?_)
          rw [hdash]
          refine ⟨?_, by trivial, by trivial⟩
          simp [holdsT, Av.get]
      · have hdl : (dashC c).length = 8 := dashC_len hcl
        have ho : ofC e = if checkC (dashC c) = true then (dashC c, 0) else (zeroC, 280) := by unfold ofC; rw [if_pos h1, hc]
        generalize dashC c = d at ho hdl
        have hp2 := check29 d hdl
        generalize checkC d = b at ho hp2
        refine .seq (.seq (.region [] (by decide) ?_))
        simp only [EOps, EDf, isRd, gdA, callOf, isPanic, nextOf, altA, evalOp, St.ev, Av.get, St.put, argT, ofV, thenQ, Nat.reduceEqDiff, ↓reduceIte, Bool.and_self, List.map_cons, List.map_nil, List.nil_append, List.append_nil, List.getElem?_cons_zero, List.getElem?_cons_succ, List.getElem?_toArray, Option.map_some, Option.bind_some, decide_true, decide_false, beq_false, beq_true, Bool.not_true, Bool.not_false, Bool.false_eq_true, pickA, cond_true, cond_false]
        have hl28 := ld28 [.cells (d.map encV) false, .cells (attrNames.map .str) false] 0 d false hdl rfl
        refine .seq (.region [.pure (.ret (.int .i64 (if b = true then 0 else 2)))] (by decide) ?_)
        simp only [EOps, EDf, isRd, gdA, callOf, isPanic, nextOf, altA, evalOp, St.ev, Av.get, St.put, argT, ofV, thenQ, Nat.reduceEqDiff, ↓reduceIte, lend, AV.hfs, AV.hf, Bool.and_self, List.map_cons, List.map_nil, List.nil_append, List.append_nil, List.getElem?_cons_zero, List.getElem?_cons_succ, List.getElem?_toArray, Option.map_some, Option.bind_some, decide_true, decide_false, beq_false, beq_true, Bool.not_true, Bool.not_false, Bool.false_eq_true, pickA, cond_true, cond_false, hl28, encV_hfs, b_neq]
        refine ⟨hp2, ?_⟩
        cases b with
        | false =>
          refine .cond (t := true) rfl (.goto ?_)
          refine ⟨rfl, ?_⟩
          exact lab _ _ d 280 hdl rfl rfl rfl (by rw [ho]; rfl)
        | true =>
          refine .cond (t := false) rfl (.skip ?_)
          have hst := st28 [.cells (d.map encV) false, .cells (attrNames.map .str) false] 0 d d hdl hdl rfl
          refine .seq (.seq (.region [] (by decide) ?_))
          simp only [EOps, EDf, isRd, gdA, callOf, isPanic, nextOf, altA, evalOp, St.ev, Av.get, St.put, argT, ofV, thenQ, Nat.reduceEqDiff, ↓reduceIte, Bool.and_self, List.map_cons, List.map_nil, List.nil_append, List.append_nil, List.getElem?_cons_zero, List.getElem?_cons_succ, List.getElem?_toArray, Option.map_some, Option.bind_some, decide_true, decide_false, beq_false, beq_true, Bool.not_true, Bool.not_false, Bool.false_eq_true, pickA, cond_true, cond_false, hl28, hst]
          rw [if_pos rfl] at ho
          rw [ho]
          refine .ret (retC2 2 28 3 rfl rfl ?_ rfl (encC_hf _) rfl)
          exact ld28 _ 0 d false hdl rfl
end Go.Proofs.YtmeijkidjifagaaGreat
namespace Go.Proofs.YtmeijkidjifagaaGreat
set_option linter.unusedVariables false
set_option linter.unusedSimpArgs false
open Go Go.Av

def refOf (e : List Atr) : List Val × Int :=
  if rightB e = true then (if rightC (dashC (getC e)) = true then (dashC (getC e), 0) else (zeroC, 280)) else (zeroC, 2)

end Go.Proofs.YtmeijkidjifagaaGreat
namespace Go.Proofs.YtmeijkidjifagaaGreat
set_option linter.unusedVariables false
set_option linter.unusedSimpArgs false
open Go Go.Av

def sumL : List Bytes → Nat
  | [] => 0
  | s :: l => s.length + sumL l
def sumE : List Atr → Nat
  | [] => 0
  | a :: e => sumL a.2.2 + sumE e
theorem sumL_take (l : List Bytes) : ∀ (i : Nat) (s : Bytes), l[i]? = some s → sumL (l.take (i + 1)) = sumL (l.take i) + s.length := by
  induction l with
  | nil => intro i s h; simp at h
  | cons a l ih =>
    intro i s h
    rcases i with _ | i
    · simp at h; subst h; simp [sumL]
    · simp only [List.take_succ_cons, sumL, ih i s (by simpa using h)]; omega
theorem sumE_take (e : List Atr) : ∀ (i : Nat) (a : Atr), e[i]? = some a → sumE (e.take (i + 1)) = sumE (e.take i) + sumL a.2.2 := by
  induction e with
  | nil => intro i s h; simp at h
  | cons a l ih =>
    intro i s h
    rcases i with _ | i
    · simp at h; subst h; simp [sumE]
    · simp only [List.take_succ_cons, sumE, ih i s (by simpa using h)]; omega
def attrL (a : Atr) : Bool := (!decide ((a.1.length : Int) > 200) && !decide ((a.2.2.length : Int) > 20)) && a.2.2.all fun s => !decide ((s.length : Int) > 6000)
def lightB (e : List Atr) : Bool := !decide ((e.length : Int) > 30) && (e.all attrL && decide ((sumE e : Int) ≤ 6000))

set_option maxRecDepth 100000 in
theorem light7 (x : Bool) (e : List Atr) : PureFn Tryz.prog 7 [.vsl 3 x (e.map encE)] (.ret (.bool (lightB e))) := by
  refine PureFn.of Tryz.func7 rfl (enters_call enters Tryz.func7 rfl) (by simp [Tryz.ntmps7]) ?_
  show W Tryz.prog 64 _ none _ _ _
  refine .seq (.region [] (by decide) ?_)
  simp only [EOps, EDf, isRd, gdA, callOf, isPanic, nextOf, altA, evalOp, St.ev, Av.get, St.put, argT, ofV, thenQ, Nat.reduceEqDiff, ↓reduceIte, lend, AV.hfs, AV.hf, Bool.and_self, List.map_cons, List.map_nil, List.nil_append, List.append_nil, List.getElem?_cons_zero, List.getElem?_cons_succ, List.getElem?_toArray, Option.map_some, Option.bind_some, decide_true, decide_false, beq_false, beq_true, Bool.not_true, Bool.not_false, Bool.false_eq_true, pickA, cond_true, cond_false]
  refine .seq (.seq (.region [] (by decide) ?_))
  generalize h1 : decide ((e.length : Int) > 30) = b1
  have hlb : lightB e = (!b1 && (e.all attrL && decide ((sumE e : Int) ≤ 6000))) := by unfold lightB; rw [h1]
  rw [hlb]
  cases b1 with
  | true =>
    simp only [EOps, EDf, isRd, gdA, callOf, isPanic, nextOf, altA, evalOp, St.ev, Av.get, St.put, argT, ofV, thenQ, Nat.reduceEqDiff, ↓reduceIte, lend, AV.hfs, AV.hf, Bool.and_self, List.map_cons, List.map_nil, List.nil_append, List.append_nil, List.getElem?_cons_zero, List.getElem?_cons_succ, List.getElem?_toArray, Option.map_some, Option.bind_some, decide_true, decide_false, beq_false, beq_true, Bool.not_true, Bool.not_false, Bool.false_eq_true, pickA, cond_true, cond_false, ln23, b_gtr, h1]
    refine .cond (t := true) rfl (.seq (.region [] (by decide) ?_))
    simp only [EOps, EDf, isRd, gdA, callOf, isPanic, nextOf, altA, evalOp, St.ev, Av.get, St.put, argT, ofV, thenQ, Nat.reduceEqDiff, ↓reduceIte, lend, AV.hfs, AV.hf, Bool.and_self, List.map_cons, List.map_nil, List.nil_append, List.append_nil, List.getElem?_cons_zero, List.getElem?_cons_succ, List.getElem?_toArray, Option.map_some, Option.bind_some, decide_true, decide_false, beq_false, beq_true, Bool.not_true, Bool.not_false, Bool.false_eq_true, pickA, cond_true, cond_false]
    exact .ret ⟨_, rfl, _, rfl, .refl _⟩
  | false =>
    have hle : e.length ≤ 30 := by have := of_decide_eq_false h1; omega
    simp only [EOps, EDf, isRd, gdA, callOf, isPanic, nextOf, altA, evalOp, St.ev, Av.get, St.put, argT, ofV, thenQ, Nat.reduceEqDiff, ↓reduceIte, lend, AV.hfs, AV.hf, Bool.and_self, List.map_cons, List.map_nil, List.nil_append, List.append_nil, List.getElem?_cons_zero, List.getElem?_cons_succ, List.getElem?_toArray, Option.map_some, Option.bind_some, decide_true, decide_false, beq_false, beq_true, Bool.not_true, Bool.not_false, Bool.false_eq_true, pickA, cond_true, cond_false, ln23, b_gtr, h1]
    refine .cond (t := false) rfl (.skip ?_)
    refine .seq (.region [] (by decide) ?_)
    simp only [EOps, EDf, isRd, gdA, callOf, isPanic, nextOf, altA, evalOp, St.ev, Av.get, St.put, argT, ofV, thenQ, Nat.reduceEqDiff, ↓reduceIte, lend, AV.hfs, AV.hf, Bool.and_self, List.map_cons, List.map_nil, List.nil_append, List.append_nil, List.getElem?_cons_zero, List.getElem?_cons_succ, List.getElem?_toArray, Option.map_some, Option.bind_some, decide_true, decide_false, beq_false, beq_true, Bool.not_true, Bool.not_false, Bool.false_eq_true, pickA, cond_true, cond_false]
    refine .seq (.seq (.region [] (by decide) ?_))
    simp only [EOps, EDf, isRd, gdA, callOf, isPanic, nextOf, altA, evalOp, St.ev, Av.get, St.put, argT, ofV, thenQ, Nat.reduceEqDiff, ↓reduceIte, lend, AV.hfs, AV.hf, Bool.and_self, List.map_cons, List.map_nil, List.nil_append, List.append_nil, List.getElem?_cons_zero, List.getElem?_cons_succ, List.getElem?_toArray, Option.map_some, Option.bind_some, decide_true, decide_false, beq_false, beq_true, Bool.not_true, Bool.not_false, Bool.false_eq_true, pickA, cond_true, cond_false]
    generalize hb0 : e.all attrL = b0
    refine .block ?_
    refine .forR 4 12 13 14 0 e.length (by simp only [maxLen']; omega) (Nat.zero_le _) rfl rfl rfl rfl rfl rfl rfl rfl rfl (by decide)
      (fun i => [(3, .int .i64 (sumE (e.take i) : Nat)), (0, .vsl 3 x (e.map encE))]) (fun _ => rfl) (fun _ => []) (fun _ => Nat.zero_le _) (fun i => (e.drop i).all attrL = b0 ∧ sumE (e.take i) ≤ i * 120000) rfl ⟨hb0, by simp [sumE]⟩ ?_ ?_ trivial ?_ ?_ ?_
    · simp only [List.take_zero, sumE]
      simp only [subT, Av.get, Nat.reduceEqDiff, ↓reduceIte, Le_rfl, nat0, nat1, and_self]
    · intro i _
      simp only [hltT, AV.hlt, AV.hlts, strs_hlts, Bool.and_self, Bool.and_true, Bool.true_and, encE_hlts]
    · intro i hi hok
      refine .region [] (by decide) ?_
      simp only [EOps, EDf, isRd, gdA, callOf, isPanic, nextOf, altA, evalOp, St.ev, Av.get, St.put, argT, ofV, thenQ, Nat.reduceEqDiff, ↓reduceIte, lend, AV.hfs, AV.hf, Bool.and_self, List.map_cons, List.map_nil, List.nil_append, List.append_nil, List.getElem?_cons_zero, List.getElem?_cons_succ, List.getElem?_toArray, Option.map_some, Option.bind_some, decide_true, decide_false, beq_false, beq_true, Bool.not_true, Bool.not_false, Bool.false_eq_true, pickA, cond_true, cond_false, ln23, b_lss, dlt]
      refine ⟨trivial, ?_, trivial, trivial⟩
      simp only [subT, Av.get, Nat.reduceEqDiff, ↓reduceIte, Le_rfl, nat0, nat1, and_self]
    · rintro i hi ⟨hok, hsum⟩
      obtain ⟨a, ha, hdrop⟩ := drop_at hi
      rw [hdrop, List.all_cons, attrL] at hok
      generalize h2 : decide ((a.1.length : Int) > 200) = b2 at hok
      generalize h3 : decide ((a.2.2.length : Int) > 20) = b3 at hok
      have bad : (!b2 && !b3) = false → b0 = false := by intro h; rw [← hok, h]; rfl
      have hln : ∀ H, evLen Tryz.prog 26 (.vsl 0 a.2.1 (a.2.2.map .str)) H = some (.int .i64 a.2.2.length) := fun H => ln26 _ _ _
      refine .block ?_
      refine .seqP (b2 = false ∧ b3 = false) [(4, .int .i64 (i : Int)), (3, .int .i64 (sumE (e.take i) : Nat)), (0, .vsl 3 x (e.map encE))] [] ?_ ?_
      · refine .seq (.region [] (by decide) ?_)
        cases b2 <;> cases b3 <;> simp only [EOps, EDf, isRd, gdA, callOf, isPanic, nextOf, altA, evalOp, St.ev, Av.get, St.put, argT, ofV, thenQ, Nat.reduceEqDiff, ↓reduceIte, lend, AV.hfs, AV.hf, Bool.and_self, List.map_cons, List.map_nil, List.nil_append, List.append_nil, List.getElem?_cons_zero, List.getElem?_cons_succ, List.getElem?_toArray, Option.map_some, Option.bind_some, decide_true, decide_false, beq_false, beq_true, Bool.not_true, Bool.not_false, Bool.false_eq_true, pickA, cond_true, cond_false, ia23 _ _ _ _ ha, faE0, ldE0, faE1, ldE1, ln9, hln, b_gtr, h2, h3]
        case false.false =>
          refine .cond (t := false) rfl (.skip ?_)
          refine ⟨by simp, ?_, rfl, rfl⟩
          simp [holdsT, Av.get]
        all_goals
          refine .cond (t := true) rfl (.seq (.region [] (by decide) ?_))
          simp only [EOps, EDf, isRd, gdA, callOf, isPanic, nextOf, altA, evalOp, St.ev, Av.get, St.put, argT, ofV, thenQ, Nat.reduceEqDiff, ↓reduceIte, lend, AV.hfs, AV.hf, Bool.and_self, List.map_cons, List.map_nil, List.nil_append, List.append_nil, List.getElem?_cons_zero, List.getElem?_cons_succ, List.getElem?_toArray, Option.map_some, Option.bind_some, decide_true, decide_false, beq_false, beq_true, Bool.not_true, Bool.not_false, Bool.false_eq_true, pickA, cond_true, cond_false]
          rw [bad rfl]
          exact .ret ⟨_, rfl, _, rfl, .refl _⟩
      · rintro ⟨rfl, rfl⟩
        simp only [Bool.not_false, Bool.and_true, Bool.true_and] at hok
        have hl20 : a.2.2.length ≤ 20 := by have := of_decide_eq_false h3; omega
        have hst := sumE_take e i a ha
        refine .seq (.region [] (by decide) ?_)
        simp only [EOps, EDf, isRd, gdA, callOf, isPanic, nextOf, altA, evalOp, St.ev, Av.get, St.put, argT, ofV, thenQ, Nat.reduceEqDiff, ↓reduceIte, lend, AV.hfs, AV.hf, Bool.and_self, List.map_cons, List.map_nil, List.nil_append, List.append_nil, List.getElem?_cons_zero, List.getElem?_cons_succ, List.getElem?_toArray, Option.map_some, Option.bind_some, decide_true, decide_false, beq_false, beq_true, Bool.not_true, Bool.not_false, Bool.false_eq_true, pickA, cond_true, cond_false]
        refine .block ?_
        generalize hl : a.2.2 = l at *
        have hld1 : ∀ H, evLoad Tryz.prog 26 (.vptr [.vsl 0 a.2.1 (l.map .str)]) H = some (.vsl 0 a.2.1 (l.map .str)) := by intro H; rw [← hl]; exact ldE1 a H
        have hfa1 : evFieldAddr Tryz.prog 53 (.vptr (encE a).cells) 1 = some (.vptr [.vsl 0 a.2.1 (l.map .str)]) := by rw [← hl]; exact faE1 a
        refine .forR 5 38 39 40 0 l.length (by simp only [maxLen']; omega) (Nat.zero_le _) rfl rfl rfl rfl rfl rfl rfl rfl rfl (by decide)
          (fun k => [(4, .int .i64 (i : Int)), (3, .int .i64 (sumE (e.take i) + sumL (l.take k) : Nat)), (0, .vsl 3 x (e.map encE))]) (fun _ => rfl) (fun _ => []) (fun _ => Nat.zero_le _) (fun k => (l.drop k).all (fun s => !decide ((s.length : Int) > 6000)) = l.all (fun s => !decide ((s.length : Int) > 6000)) ∧ sumL (l.take k) ≤ k * 6000) rfl ⟨rfl, by simp [sumL]⟩ ?_ ?_ trivial ?_ ?_ ?_
        · simp only [List.take_zero, sumL, Nat.add_zero]
          simp only [subT, Av.get, Nat.reduceEqDiff, ↓reduceIte, Le_rfl, nat0, nat1, and_self]
        · intro k _
          simp only [hltT, AV.hlt, AV.hlts, strs_hlts, Bool.and_self, Bool.and_true, Bool.true_and, encE_hlts]
        · intro k hk hok'
          refine .region [] (by decide) ?_
          simp only [EOps, EDf, isRd, gdA, callOf, isPanic, nextOf, altA, evalOp, St.ev, Av.get, St.put, argT, ofV, thenQ, Nat.reduceEqDiff, ↓reduceIte, lend, AV.hfs, AV.hf, Bool.and_self, List.map_cons, List.map_nil, List.nil_append, List.append_nil, List.getElem?_cons_zero, List.getElem?_cons_succ, List.getElem?_toArray, Option.map_some, Option.bind_some, decide_true, decide_false, beq_false, beq_true, Bool.not_true, Bool.not_false, Bool.false_eq_true, pickA, cond_true, cond_false, ia23 _ _ _ _ ha, hfa1, hld1, hln, b_lss, dlt]
          refine ⟨trivial, ?_, trivial, trivial⟩
          simp only [subT, Av.get, Nat.reduceEqDiff, ↓reduceIte, Le_rfl, nat0, nat1, and_self]
        · rintro k hk ⟨hok', hsk⟩
          obtain ⟨s, hs, hds⟩ := drop_at hk
          rw [hds, List.all_cons] at hok'
          generalize h4 : decide ((s.length : Int) > 6000) = b4 at hok'
          have hst2 := sumL_take l k s hs
          refine .block (.seq (.seq (.region [] (by decide) ?_)))
          cases b4 <;> simp only [EOps, EDf, isRd, gdA, callOf, isPanic, nextOf, altA, evalOp, St.ev, Av.get, St.put, argT, ofV, thenQ, Nat.reduceEqDiff, ↓reduceIte, lend, AV.hfs, AV.hf, Bool.and_self, List.map_cons, List.map_nil, List.nil_append, List.append_nil, List.getElem?_cons_zero, List.getElem?_cons_succ, List.getElem?_toArray, Option.map_some, Option.bind_some, decide_true, decide_false, beq_false, beq_true, Bool.not_true, Bool.not_false, Bool.false_eq_true, pickA, cond_true, cond_false, ia23 _ _ _ _ ha, hfa1, hld1, ia26 _ _ _ _ hs, ld9v, ln9, b_gtr, h4]
          · refine .cond (t := false) rfl (.skip ?_)
            have h6 : s.length ≤ 6000 := by have := of_decide_eq_false h4; omega
            have hadd : evBin Tryz.prog .add 3 (.int .i64 (sumE (e.take i) + sumL (l.take k) : Nat)) (.int .i64 (s.length : Int)) = some (.int .i64 (sumE (e.take i) + sumL (l.take (k + 1)) : Nat)) := by
              rw [b_add64 _ _ (by omega), hst2]; congr 2; omega
            refine .region [] (by decide) ?_
            simp only [EOps, EDf, isRd, gdA, callOf, isPanic, nextOf, altA, evalOp, St.ev, Av.get, St.put, argT, ofV, thenQ, Nat.reduceEqDiff, ↓reduceIte, lend, AV.hfs, AV.hf, Bool.and_self, List.map_cons, List.map_nil, List.nil_append, List.append_nil, List.getElem?_cons_zero, List.getElem?_cons_succ, List.getElem?_toArray, Option.map_some, Option.bind_some, decide_true, decide_false, beq_false, beq_true, Bool.not_true, Bool.not_false, Bool.false_eq_true, pickA, cond_true, cond_false, ia23 _ _ _ _ ha, hfa1, hld1, ia26 _ _ _ _ hs, ld9v, ln9, hadd]
            refine ⟨⟨by rw [← hok', Bool.not_false, Bool.true_and], by omega⟩, ?_, trivial, rfl⟩
            simp only [subT, Av.get, Nat.reduceEqDiff, ↓reduceIte, Le_rfl, nat0, nat1, and_self]
          · refine .cond (t := true) rfl (.seq (.region [] (by decide) ?_))
            simp only [EOps, EDf, isRd, gdA, callOf, isPanic, nextOf, altA, evalOp, St.ev, Av.get, St.put, argT, ofV, thenQ, Nat.reduceEqDiff, ↓reduceIte, lend, AV.hfs, AV.hf, Bool.and_self, List.map_cons, List.map_nil, List.nil_append, List.append_nil, List.getElem?_cons_zero, List.getElem?_cons_succ, List.getElem?_toArray, Option.map_some, Option.bind_some, decide_true, decide_false, beq_false, beq_true, Bool.not_true, Bool.not_false, Bool.false_eq_true, pickA, cond_true, cond_false]
            have : b0 = false := by rw [← hok, ← hok']; rfl
            rw [this]
            exact .ret ⟨_, rfl, _, rfl, .refl _⟩
        · rintro ⟨hok', hsk⟩
          rw [List.drop_length] at hok'
          rw [← hok'] at hok
          rw [List.take_length] at hsk ⊢
          rw [← hst]
          refine ⟨⟨by rw [← hok]; rfl, by rw [hst]; omega⟩, ?_, trivial, rfl⟩
          simp only [subT, Av.get, Nat.reduceEqDiff, ↓reduceIte, Le_rfl, nat0, nat1, and_self]
    · rintro ⟨hok, hsum⟩
      rw [List.take_length] at *
      rw [List.drop_length] at hok
      simp only [EOps, EDf, isRd, gdA, callOf, isPanic, nextOf, altA, evalOp, St.ev, Av.get, St.put, argT, ofV, thenQ, Nat.reduceEqDiff, ↓reduceIte, lend, AV.hfs, AV.hf, Bool.and_self, List.map_cons, List.map_nil, List.nil_append, List.append_nil, List.getElem?_cons_zero, List.getElem?_cons_succ, List.getElem?_toArray, Option.map_some, Option.bind_some, decide_true, decide_false, beq_false, beq_true, Bool.not_true, Bool.not_false, Bool.false_eq_true, pickA, cond_true, cond_false, blockQ]
      refine .seq (.region [] (by decide) ?_)
      simp only [EOps, EDf, isRd, gdA, callOf, isPanic, nextOf, altA, evalOp, St.ev, Av.get, St.put, argT, ofV, thenQ, Nat.reduceEqDiff, ↓reduceIte, lend, AV.hfs, AV.hf, Bool.and_self, List.map_cons, List.map_nil, List.nil_append, List.append_nil, List.getElem?_cons_zero, List.getElem?_cons_succ, List.getElem?_toArray, Option.map_some, Option.bind_some, decide_true, decide_false, beq_false, beq_true, Bool.not_true, Bool.not_false, Bool.false_eq_true, pickA, cond_true, cond_false, b_leq]
      rw [← hok]
      exact .ret ⟨_, rfl, _, rfl, .refl _⟩
end Go.Proofs.YtmeijkidjifagaaGreat
namespace Go.Proofs.YtmeijkidjifagaaGreat
set_option linter.unusedVariables false
set_option linter.unusedSimpArgs false
open Go Go.Av

theorem attr_same (a : Atr) : attrB a = attrR a := by
  unfold attrB attrR
  cases h : (small a.1 == a.1) with
  | false => simp
  | true =>
    have hs : small a.1 = a.1 := by simpa using h
    have : nameB a.1 = isName a.1 := by
      unfold nameB checkB
      simp only [List.length_singleton, List.all_cons, List.all_nil, partB, hs, beq_self_eq_true]
      cases isName a.1 <;> rfl
    rw [this]
theorem check_right (e : List Atr) : checkE e = rightB e := by
  unfold checkE rightB
  have : e.all attrB = e.all attrR := by congr 1; funext a; exact attr_same a
  rw [this]
  generalize e.all attrR = a; generalize decide ((e.length : Int) > 24) = b; generalize risesB (e.map (·.1)) = c
  cases a <;> cases b <;> cases c <;> rfl
theorem values_field (f : Int) (l : List Bytes) : valuesB f l = (fieldB f l && !(f == 0 && ((l.length : Int) != 1))) := by
  unfold valuesB fieldB
  generalize decide ((l.length : Int) > mostI f) = a; generalize (f == 0) = b; generalize ((l.length : Int) != 1) = c; generalize l.all (valB f) = d; generalize risesB l = g
  cases a <;> cases b <;> cases c <;> cases d <;> cases g <;> rfl
theorem right_check (c : List Val) : rightC c = checkC c := by
  have hr : List.range 8 = [0, 1, 2, 3, 4, 5, 6, 7] := rfl
  have h0 : (((0 : Nat) : Int) == 0) = true := rfl
  have h1 : (((1 : Nat) : Int) == 0) = false := rfl
  have h2 : (((2 : Nat) : Int) == 0) = false := rfl
  have h3 : (((3 : Nat) : Int) == 0) = false := rfl
  have h4 : (((4 : Nat) : Int) == 0) = false := rfl
  have h5 : (((5 : Nat) : Int) == 0) = false := rfl
  have h6 : (((6 : Nat) : Int) == 0) = false := rfl
  have h7 : (((7 : Nat) : Int) == 0) = false := rfl
  unfold rightC checkC allFields
  rw [hr]
  simp only [List.all_cons, List.all_nil, values_field, h0, h1, h2, h3, h4, h5, h6, h7, Bool.false_and, Bool.not_false, Bool.and_true, Bool.true_and]
  generalize ((((fld c 0).length : Nat) : Int) != 1) = b
  generalize fieldB ((0 : Nat) : Int) (fld c 0) = c0
  cases b <;> cases c0 <;> simp
theorem of_ref (e : List Atr) : ofC e = refOf e := by
  unfold ofC refOf
  rw [check_right, right_check]
theorem refOf_len (e : List Atr) : (refOf e).1.length = 8 := by
  unfold refOf
  split
  · split
    · exact dashC_len (getC_len e)
    · rfl
  · rfl
theorem light_bound {e : List Atr} (h : lightB e = true) : e.length ≤ 30 ∧ ∀ a ∈ e, a.2.2.length ≤ 20 := by
  unfold lightB at h
  simp only [Bool.and_eq_true, Bool.not_eq_true', decide_eq_false_iff_not] at h
  refine ⟨by omega, fun a ha => ?_⟩
  have := List.all_eq_true.1 h.2.1 a ha
  unfold attrL at this
  simp only [Bool.and_eq_true, Bool.not_eq_true', decide_eq_false_iff_not] at this
  omega

end Go.Proofs.YtmeijkidjifagaaGreat
namespace Go.Proofs.YtmeijkidjifagaaGreat
set_option linter.unusedVariables false
set_option linter.unusedSimpArgs false
open Go Go.Av Go.ChangeShapes Go.WideShapes Go.ChangeAt Go.RowKit

section
variable {H : Type} {enc : TypeId × Value → H} {w : World} {base : Nat} {sp : Nat → Bool} {held : Bool}
theorem co9 : Tryz.prog.cellsOf 9 = 1 := by kernel_rfl
theorem co26 : Tryz.prog.cellsOf 26 = 1 := by kernel_rfl
theorem co53 : Tryz.prog.cellsOf 53 = 2 := by kernel_rfl

theorem opens26 : Opens enc Tryz.prog w base sp held 26 (fun v => ∃ l : List Bytes, v = .vsl 0 false (l.map .str)) := opens_strs Tryz.underlying26 Tryz.underlying9 co9

theorem opens53 : Opens enc Tryz.prog w base sp held 53 (fun v => ∃ a : Atr, v = encE a) := by
  intro fuel cs x h
  obtain ⟨xs, n, _, _, hl, hn, hf⟩ := DataW.trod_struct Tryz.underlying53 h
  rw [co53] at hl
  have hxs : xs.length = 2 := by rw [hn]; rfl
  have h0 : DataW.trod enc Tryz.prog w base sp held n 9 ((cs.drop 0).take (Tryz.prog.cellsOf 9)) = xs[0]? := hf 0 _ rfl
  have h1 : DataW.trod enc Tryz.prog w base sp held n 26 ((cs.drop 1).take (Tryz.prog.cellsOf 26)) = xs[1]? := hf 1 _ rfl
  obtain ⟨a, b, rfl⟩ : ∃ a b, cs = [a, b] := by
    rcases cs with _ | ⟨a, _ | ⟨b, _ | ⟨c, r⟩⟩⟩ <;> simp at hl
    exact ⟨a, b, rfl⟩
  rw [List.getElem?_eq_getElem (by omega)] at h0 h1
  obtain ⟨u, ⟨s, rfl⟩, hu⟩ := opens_str (enc := enc) Tryz.underlying9 n _ _ h0
  obtain ⟨v, ⟨l, rfl⟩, hv⟩ := opens26 n _ _ h1
  rw [co9] at hu
  rw [co26] at hv
  have hu' : VRs (allF w) w noμ [.str s] [a] := hu
  have hv' : VRs (allF w) w noμ [.vsl 0 false (l.map .str)] [b] := hv
  refine ⟨encE (s, false, l), ⟨_, rfl⟩, ?_⟩
  show VRs _ _ _ [.str s, .vsl 0 false (l.map .str)] [a, b]
  cases hu' with
  | cons _ _ _ _ g1 _ => cases hv' with
    | cons _ _ _ _ g2 _ => exact .cons _ _ _ _ g1 (.cons _ _ _ _ g2 .nil)

theorem opens23 : Opens enc Tryz.prog w base sp held 23 (fun v => ∃ e : List Atr, v = .vsl 3 false (e.map encE)) := by
  intro fuel cs x h
  obtain ⟨v, ⟨es, h1, rfl⟩, h2⟩ := opens_slice (wd := 3) Tryz.underlying23 co53 (by decide) opens53 fuel cs x h
  obtain ⟨l, rfl⟩ := list_form h1
  exact ⟨_, ⟨l, rfl⟩, h2⟩

set_option maxRecDepth 100000 in
theorem open_entry {v : Value} {d : DataW H} {ps : List MemPlace} {r : Reach} {b0 : Nat} (hval : Value.okWide Tryz.prog w r b0 23 v) (hd : DataW.Trod enc Tryz.prog w base sp held 23 v d ps) :
    ∃ e : List Atr, VR (allF w) w noμ (.vsl 3 false (e.map encE)) v := by
  obtain ⟨u, ⟨e, rfl⟩, h⟩ := open_slice_arg Tryz.underlying23 opens23 hval hd (by rintro _ ⟨e, rfl⟩; rfl)
  exact ⟨e, h⟩
end

theorem calls_of_pure {P : Program} {f : FuncId} {fn : Func} {c : Code} {args : List AV} {Vs : List Value} {r : AV} {V : Value} (hN : Enters P) (hf : P.funcs[f]? = some fn) (hb : fn.body = some c) (w : World) (hp : PureFn P f args (.ret r))
    (hv : VRs (allF w) w noμ args Vs) (hr : ∀ F' w' R, VR F' w' noμ r R → R = V) : Calls P f Vs.toArray w fun e w' => e = .returned V ∧ Below w.heap.size w w' := by
  rcases hp (allF w) w Vs (fun b o h => h) hv with ⟨w1, h1, rfl, h2⟩ | ⟨V', w1, h1, h2⟩
  · refine h2.mono ?_
    rintro e w' ⟨hbl, F', _, _, _, ho⟩
    cases ho with
    | ret _ R h => exact ⟨by rw [hr _ _ _ h], hbl⟩
  · rw [enters_call hN hf hb] at h1; cases h1

/-- What stays as it was, of what was there. -/
theorem post_same {H : Type} {enc : TypeId × Value → H} {P : Program} {f : Func} {s : ChangeSpec} {apart fresh handsOn again : Bool} {W W' : World} {args : Array Value} {v : Value} {ds gs : List (DataW H)} {before pa pv : List MemPlace}
    (hW : DataW.Whole enc P f.params.toList s.vars apart W args.toList ds gs before)
    (hres : ∀ (b : Nat) (sp : Nat → Bool) (hd : Bool), DataW.TrodAll enc P W' b sp hd f.resultTypes.toList (v.resultList f.resultTypes.size) (s.fn H (ds ++ gs)).results [])
    (hargs : ∀ sp : Nat → Bool, (∀ p ∈ before, sp p.block = true) → DataW.TrodAll enc P W' 0 sp true f.params.toList args.toList (s.fn H (ds ++ gs)).args pa)
    (hvars : ∀ sp : Nat → Bool, (∀ p ∈ before, sp p.block = true) → DataW.TrodVars enc P W' sp s.vars (s.fn H (ds ++ gs)).vars pv)
    (hps : before = pa ++ pv) (hbl : Below W.heap.size W W')
    (hok : ∀ (j : Nat) (t : TypeId) (r : Value), f.resultTypes[j]? = some t → (v.resultList f.resultTypes.size)[j]? = some r → Value.okWide P W' .any 0 t r) :
    s.post enc P f apart fresh handsOn again W args v W' := by
  have hlt : ∀ p ∈ before, p.block < W.heap.size := fun p hp => hW.lt p hp
  refine ⟨ds, gs, before, [], pa, pv, hW, hres _ _ _, hargs (fun b => decide (b < W.heap.size)) (fun p hp => by simpa using hlt p hp), hvars (fun b => decide (b < W.heap.size)) (fun p hp => by simpa using hlt p hp), ?_, fun _ => ?_⟩
  · refine World.keptBut_mono (fun p hp => ⟨hp, ?_⟩) (hbl.frame (· ∈ before))
    rw [hps, List.mem_append] at hp
    exact Or.inr hp
  · obtain ⟨_, _, _, _, _, hz, hn⟩ := hW
    refine ⟨hok, _, _, ([] ++ pa) ++ pv, ⟨[] ++ pa, pv, trodAll_append (hargs _ (fun _ _ => rfl)) (hres _ _ _), hvars _ (fun _ _ => rfl), rfl, ?_, ?_⟩, ?_⟩
    · intro b off hp
      have hb : MemPlace.cell b off ∈ before := by rw [hps]; simpa using hp
      rw [hbl.frozen (hlt _ hb)]
      exact hz b off hb
    · intro ha
      have := hn ha
      rw [hps] at this
      simpa using this
    · intro p hp _
      rw [hps]
      simpa using hp
theorem laid : laidOutB Tryz.prog = true := by kernel_rfl
/-- An argument reads behind the call as it did before. -/
theorem stays {H : Type} {enc : TypeId × Value → H} {t : TypeId} (hr : Tryz.prog.readableRec t = true) (hrow : t < Tryz.prog.types.size) {W W' : World} {v : Value} {d : DataW H} {ps : List MemPlace}
    (h : DataW.Trod enc Tryz.prog W 0 (fun _ => true) true t v d ps) (hb : Below W.heap.size W W') (hlt : ∀ x ∈ ps, x.block < W.heap.size) (sp' : Nat → Bool) (hsp : ∀ x ∈ ps, sp' x.block = true) : DataW.Trod enc Tryz.prog W' 0 sp' true t v d ps :=
  WideElems.Trod_stays laid hr hrow h (fun x hx => hb.same (hlt x hx)) hsp
end Go.Proofs.YtmeijkidjifagaaGreat
