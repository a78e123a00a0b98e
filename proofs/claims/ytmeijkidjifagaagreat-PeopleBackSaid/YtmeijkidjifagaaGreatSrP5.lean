/- Contracts of functions that the statements of this seat reach: under the conditions named at each theorem. -/
import Derived.Test.YtmeijkidjifagaaGreatSrP4
import Derived.Test.YtmeijkidjifagaaGreatSvP5
namespace Go.Proofs.YtmeijkidjifagaaGreat
set_option linter.unusedVariables false
set_option linter.unusedSimpArgs false
open Go Go.Av

def valueB (s : Bytes) : Bool := decide ((s.length : Int) ≥ 1) && decide ((s.length : Int) ≤ 2048)
def attrB (a : Atr) : Bool := nameB a.1 && (small a.1 == a.1) && (!decide ((a.2.2.length : Int) < 1) && !decide ((a.2.2.length : Int) > 16)) && a.2.2.all valueB && risesB a.2.2
def checkE (e : List Atr) : Bool := e.all attrB && (!decide ((e.length : Int) > 24) && risesB (e.map (·.1)))

def nm26 : Nat → AV
  | 0 => .vsl 0 true []
  | j + 1 => .sl (2 * j + 1) 0 (j + 1) 0
def hx26 (e : List Atr) : Nat → List OB
  | 0 => []
  | j + 1 => List.replicate (2 * j + 1) .dead ++ [.cells (((e.take (j + 1)).map (·.1)).map .str) true]
def acell (a : Atr) : OB := .cells [.str a.1, .vsl 0 a.2.1 (a.2.2.map .str)] false

theorem hx26_len (e : List Atr) : ∀ i, (hx26 e i).length = 2 * i
  | 0 => rfl
  | j + 1 => by simp [hx26]; omega
theorem subH_dead {m : Nat} {b : OB} (hb : b.hlt m = true) : ∀ (A : List OB), subH m (A ++ [b]) (List.replicate A.length .dead ++ [b])
  | [] => by
    cases b <;> simp only [List.nil_append, List.length_nil, List.replicate_zero, subH] <;> exact ⟨trivial, hb, trivial⟩
  | x :: A => by
    simp only [List.cons_append, List.length_cons, List.replicate_succ, subH]
    exact subH_dead hb A
theorem bs26one (b : Bytes) : evBuildSlice Tryz.prog 26 1 [(0, .str b)] = some (.vsl 0 true [.str b]) := by
  simp [evBuildSlice, Tryz.underlying26, ap9, AV.cells, AV.told, List.range']
theorem ap26new (b : Bytes) (H : List OB) : evAppend Tryz.prog 26 26 (.vsl 0 true []) (.vsl 0 true [.str b]) H = some (.sl H.length 0 1 0, H ++ [.cells [.str b] true]) := by
  simp [evAppend, Tryz.underlying26, ap9, newsA, esz, AV.cells]
theorem ap26more (b : Bytes) (H : List OB) (d : Nat) (cs : List AV) (h : H[d]? = some (.cells cs true)) (hb : cs.length ≤ 1000000) :
    evAppend Tryz.prog 26 26 (.sl d 0 cs.length 0) (.vsl 0 true [.str b]) H = some (.sl H.length 0 (cs.length + 1) 0, H.set d .dead ++ [.cells (cs ++ [.str b]) true]) := by
  have h1 : (cs.length + 1) * 16 ≤ 2 ^ 47 := by omega
  simp [evAppend, Tryz.underlying26, ap9, newsA, esz, AV.cells, AV.isC, h, h1]
  omega

theorem app26 (e : List Atr) (hb : e.length ≤ 1000000) (i : Nat) (a : Atr) (ha : e[i]? = some a) :
    ∃ M, evAppend Tryz.prog 26 26 (nm26 i) (.vsl 0 true [.str a.1]) (hx26 e i ++ [acell a]) = some (nm26 (i + 1), M) ∧ M[2 * i]? = some (acell a) ∧ subH (hx26 e (i + 1)).length M (hx26 e (i + 1)) := by
  have hil : i < e.length := (List.getElem?_eq_some_iff.1 ha).1
  have htake : (e.take (i + 1)).map (·.1) = (e.take i).map (·.1) ++ [a.1] := by rw [List.take_add_one, ha]; simp
  have hhlt : ∀ m, OB.hlt m (.cells (((e.take (i + 1)).map (·.1)).map .str) true) = true := by intro m; simp only [OB.hlt]; exact strs_hlts _ _
  rcases i with _ | j
  · refine ⟨_, ap26new a.1 _, rfl, ?_⟩
    have : hx26 e (0 + 1) = List.replicate [acell a].length .dead ++ [.cells (((e.take (0 + 1)).map (·.1)).map .str) true] := rfl
    rw [this]
    have h2 : hx26 e 0 ++ [acell a] ++ [OB.cells [.str a.1] true] = [acell a] ++ [.cells (((e.take (0 + 1)).map (·.1)).map .str) true] := by rw [htake]; rfl
    rw [h2]
    exact subH_dead (hhlt _) _
  · have hlen : (((e.take (j + 1)).map (·.1)).map AV.str).length = j + 1 := by simp; omega
    obtain ⟨M, hM⟩ : ∃ M, M = hx26 e (j + 1) ++ [acell a] := ⟨_, rfl⟩
    have lM : M.length = 2 * j + 3 := by rw [hM, List.length_append, hx26_len]; simp; omega
    have hd : M[2 * j + 1]? = some (.cells (((e.take (j + 1)).map (·.1)).map .str) true) := by
      rw [hM, List.getElem?_append_left (by rw [hx26_len]; omega), hx26, List.getElem?_append_right (by simp)]
      simp
    have hap := ap26more a.1 M (2 * j + 1) _ hd (by rw [hlen]; omega)
    rw [hlen] at hap
    rw [← hM]
    refine ⟨M.set (2 * j + 1) .dead ++ [.cells (((e.take (j + 1)).map (·.1)).map AV.str ++ [.str a.1]) true], ?_, ?_, ?_⟩
    · rw [show nm26 (j + 1) = .sl (2 * j + 1) 0 (j + 1) 0 from rfl, hap, lM]
      exact rfl
    · rw [List.getElem?_append_left (by rw [List.length_set, lM]; omega), List.getElem?_set, if_neg (by omega), hM, List.getElem?_append_right (by rw [hx26_len]; omega), hx26_len]
      simp
    · have h3 : hx26 e (j + 1 + 1) = List.replicate (M.set (2 * j + 1) .dead).length .dead ++ [.cells (((e.take (j + 1 + 1)).map (·.1)).map .str) true] := by
        rw [List.length_set, lM]; rfl
      rw [h3]
      have h4 : ((e.take (j + 1)).map (·.1)).map AV.str ++ [AV.str a.1] = ((e.take (j + 1 + 1)).map (·.1)).map AV.str := by rw [htake]; simp
      rw [h4]
      exact subH_dead (hhlt _) _

def pV : AV → Bool
  | .str s => valueB s
  | _ => false
theorem all_pV (l : List Bytes) : (l.map AV.str).all pV = l.all valueB := by rw [List.all_map]; rfl
theorem allV (x : Bool) (l : List Bytes) : PureFn Tryz.prog 47 [.vsl 0 x (l.map .str), .func (.func 48) [] []] (.ret (.bool (l.all valueB))) := by
  have := each47 x (l.map .str) 48 [] [] pV (fun v hv => by obtain ⟨b, _, rfl⟩ := List.mem_map.1 hv; rfl) ⟨strs_hfs l, rfl, rfl⟩ (fun v hv => by obtain ⟨b, _, rfl⟩ := List.mem_map.1 hv; exact value48 b)
  rw [all_pV] at this
  exact this

set_option maxRecDepth 100000 in
theorem check26 (x : Bool) (e : List Atr) (hb : e.length ≤ 1000000) : PureFn Tryz.prog 26 [.vsl 3 x (e.map encE)] (.ret (.int .i64 (if checkE e = true then 0 else 2))) := by
  refine PureFn.of Tryz.func26 rfl (enters_call enters Tryz.func26 rfl) (by simp [Tryz.ntmps26]) ?_
  show W Tryz.prog 62 _ none _ _ _
  refine .seq (.region [] (by decide) ?_)
  simp only [EOps, EDf, isRd, gdA, callOf, isPanic, nextOf, altA, evalOp, St.ev, Av.get, St.put, argT, ofV, thenQ, Nat.reduceEqDiff, ↓reduceIte, lend, AV.hfs, AV.hf, Bool.and_self, List.map_cons, List.map_nil, List.nil_append, List.append_nil, List.getElem?_cons_zero, List.getElem?_cons_succ, List.getElem?_toArray, Option.map_some, Option.bind_some, decide_true, decide_false, beq_false, beq_true, Bool.not_true, Bool.not_false, Bool.false_eq_true, pickA, cond_true, cond_false]
  refine .seq (.region [] (by decide) ?_)
  simp only [EOps, EDf, isRd, gdA, callOf, isPanic, nextOf, altA, evalOp, St.ev, Av.get, St.put, argT, ofV, thenQ, Nat.reduceEqDiff, ↓reduceIte, lend, AV.hfs, AV.hf, Bool.and_self, List.map_cons, List.map_nil, List.nil_append, List.append_nil, List.getElem?_cons_zero, List.getElem?_cons_succ, List.getElem?_toArray, Option.map_some, Option.bind_some, decide_true, decide_false, beq_false, beq_true, Bool.not_true, Bool.not_false, Bool.false_eq_true, pickA, cond_true, cond_false]
  refine .seq (.seq (.region [] (by decide) ?_))
  simp only [EOps, EDf, isRd, gdA, callOf, isPanic, nextOf, altA, evalOp, St.ev, Av.get, St.put, argT, ofV, thenQ, Nat.reduceEqDiff, ↓reduceIte, lend, AV.hfs, AV.hf, Bool.and_self, List.map_cons, List.map_nil, List.nil_append, List.append_nil, List.getElem?_cons_zero, List.getElem?_cons_succ, List.getElem?_toArray, Option.map_some, Option.bind_some, decide_true, decide_false, beq_false, beq_true, Bool.not_true, Bool.not_false, Bool.false_eq_true, pickA, cond_true, cond_false, ln23]
  refine .block ?_
  refine .forG 8 7 9 53 e.length (by simp only [maxLen']; omega) rfl rfl rfl rfl rfl rfl rfl rfl rfl (by decide) (by decide) (by decide)
    (fun i => [(6, .vsl 3 x (e.map encE)), (3, nm26 i), (0, .vsl 3 x (e.map encE))]) (fun _ => rfl) (hx26 e) (fun _ => Nat.zero_le _) (fun i => i ≤ e.length ∧ (e.drop i).all attrB = e.all attrB)
    rfl ⟨Nat.zero_le _, rfl⟩ ?_ ?_ trivial ?_ ?_
  · simp only [subT, Av.get, Nat.reduceEqDiff, ↓reduceIte, Le_rfl, nat0, nat1, and_self, nm26, and_self, if_true]
  · intro i _
    rw [hx26_len]
    rcases i with _ | j
    · simp only [hltT, AV.hlt, AV.hlts, strs_hlts, Bool.and_self, Bool.and_true, Bool.true_and, encE_hlts, nm26]
    · simp only [hltT, AV.hlt, AV.hlts, strs_hlts, Bool.and_self, Bool.and_true, Bool.true_and, encE_hlts, nm26]
      simp; omega
  · rintro i hi ⟨hile, hok⟩
    obtain ⟨a, ha, hdrop⟩ := drop_at hi
    rw [hdrop, List.all_cons] at hok
    obtain ⟨M, hap, hMa, hsub⟩ := app26 e hb i a ha
    refine .block (.seq (.region [] (by decide) ?_))
    have hst : evStore Tryz.prog 53 (.ptr (2 * i) 0) (encE a) (hx26 e i ++ [.cells [.str [], .vsl 0 true []] false]) = some (hx26 e i ++ [acell a]) := by
      have hg : (hx26 e i ++ [.cells [.str [], .vsl 0 true []] false])[2 * i]? = some (.cells [.str [], .vsl 0 true []] false) := by rw [← hx26_len e i, List.getElem?_concat_length]
      rw [st53 _ _ _ _ _ hg]
      congr 1
      rw [List.set_append_right _ _ (by rw [hx26_len]; omega), hx26_len, Nat.sub_self]
      rfl
    simp only [EOps, EDf, isRd, gdA, callOf, isPanic, nextOf, altA, evalOp, St.ev, Av.get, St.put, argT, ofV, thenQ, Nat.reduceEqDiff, ↓reduceIte, lend, AV.hfs, AV.hf, Bool.and_self, List.map_cons, List.map_nil, List.nil_append, List.append_nil, List.getElem?_cons_zero, List.getElem?_cons_succ, List.getElem?_toArray, Option.map_some, Option.bind_some, decide_true, decide_false, beq_false, beq_true, Bool.not_true, Bool.not_false, Bool.false_eq_true, pickA, cond_true, cond_false, ia23 _ _ _ _ ha, ld53, za53, hx26_len, cells_agg, hst]
    have gA : (hx26 e i ++ [acell a])[2 * i]? = some (acell a) := by rw [← hx26_len e i, List.getElem?_concat_length]
    have k0 : evLoad Tryz.prog 9 (.ptr (2 * i) 0) (hx26 e i ++ [acell a]) = some (.str a.1) := ld9 _ _ _ _ _ _ gA rfl
    refine .seq (.region [] (by decide) ?_)
    simp only [EOps, EDf, isRd, gdA, callOf, isPanic, nextOf, altA, evalOp, St.ev, Av.get, St.put, argT, ofV, thenQ, Nat.reduceEqDiff, ↓reduceIte, Bool.and_self, List.map_cons, List.map_nil, List.nil_append, List.append_nil, List.getElem?_cons_zero, List.getElem?_cons_succ, List.getElem?_toArray, Option.map_some, Option.bind_some, decide_true, decide_false, beq_false, beq_true, Bool.not_true, Bool.not_false, Bool.false_eq_true, pickA, cond_true, cond_false, fa53_0, k0, bs26one, hap]
    have l0 : evLoad Tryz.prog 9 (.ptr (2 * i) 0) M = some (.str a.1) := ld9 _ _ _ _ _ _ hMa rfl
    have l1 : evLoad Tryz.prog 26 (.ptr (2 * i) 1) M = some (.vsl 0 a.2.1 (a.2.2.map .str)) := ld26 _ _ _ _ _ _ hMa rfl
    have p1 := name45 a.1
    have p2 := small46 a.1
    have p5 := allV a.2.1 a.2.2
    have p6 := rises49 a.2.1 a.2.2
    generalize h1 : nameB a.1 = b1 at p1
    generalize h2 : (small a.1 == a.1) = b2
    generalize h3 : decide ((a.2.2.length : Int) < 1) = b3
    generalize h4 : decide ((a.2.2.length : Int) > 16) = b4
    generalize h5 : a.2.2.all valueB = b5 at p5
    generalize h6 : risesB a.2.2 = b6 at p6
    have hab : attrB a = (b1 && b2 && (!b3 && !b4) && b5 && b6) := by unfold attrB; rw [h1, h2, h3, h4, h5, h6]
    rw [hab] at hok
    have bad : (b1 && b2 && (!b3 && !b4) && b5 && b6) = false → checkE e = false := by
      intro h; rw [h] at hok; unfold checkE; rw [← hok]; rfl
    have hln : ∀ H, evLen Tryz.prog 26 (.vsl 0 a.2.1 (a.2.2.map .str)) H = some (.int .i64 a.2.2.length) := fun H => ln26 _ _ _
    cases b1 with
    | false =>
      refine .seq (.drawf [.pure (.ret (.bool false))] mixed (by kernel_rfl) (by kernel_rfl) (by kernel_rfl) ?_)
      simp only [EOps, EDf, isRd, gdA, callOf, isPanic, nextOf, altA, evalOp, St.ev, Av.get, St.put, argT, ofV, thenQ, Nat.reduceEqDiff, ↓reduceIte, lend, AV.hfs, AV.hf, Bool.and_self, List.map_cons, List.map_nil, List.nil_append, List.append_nil, List.getElem?_cons_zero, List.getElem?_cons_succ, List.getElem?_toArray, Option.map_some, Option.bind_some, decide_true, decide_false, beq_false, beq_true, Bool.not_true, Bool.not_false, Bool.false_eq_true, pickA, cond_true, cond_false, fa53_0, fa53_1, l0, l1, u_not]
      refine ⟨p1, .cond (t := true) rfl (.seq (.region [] (by decide) ?_))⟩
      simp only [EOps, EDf, isRd, gdA, callOf, isPanic, nextOf, altA, evalOp, St.ev, Av.get, St.put, argT, ofV, thenQ, Nat.reduceEqDiff, ↓reduceIte, lend, AV.hfs, AV.hf, Bool.and_self, List.map_cons, List.map_nil, List.nil_append, List.append_nil, List.getElem?_cons_zero, List.getElem?_cons_succ, List.getElem?_toArray, Option.map_some, Option.bind_some, decide_true, decide_false, beq_false, beq_true, Bool.not_true, Bool.not_false, Bool.false_eq_true, pickA, cond_true, cond_false]
      rw [bad rfl]
      exact .ret ⟨_, rfl, _, rfl, .refl _⟩
    | true =>
      by_cases hq : (b2 && (!b3 && !b4)) = false
      · refine .seq (.drawf [.pure (.ret (.bool true)), .pure (.ret (.str (small a.1)))] mixed (by kernel_rfl) (by kernel_rfl) (by kernel_rfl) ?_)
        have hbad := bad (by revert hq; cases b2 <;> cases b3 <;> cases b4 <;> simp)
        rw [hbad]
        cases b2 <;> cases b3 <;> cases b4 <;> first | (exfalso; revert hq; decide) | skip
        all_goals
          simp only [EOps, EDf, isRd, gdA, callOf, isPanic, nextOf, altA, evalOp, St.ev, Av.get, St.put, argT, ofV, thenQ, Nat.reduceEqDiff, ↓reduceIte, lend, AV.hfs, AV.hf, Bool.and_self, List.map_cons, List.map_nil, List.nil_append, List.append_nil, List.getElem?_cons_zero, List.getElem?_cons_succ, List.getElem?_toArray, Option.map_some, Option.bind_some, decide_true, decide_false, beq_false, beq_true, Bool.not_true, Bool.not_false, Bool.false_eq_true, pickA, cond_true, cond_false, fa53_0, fa53_1, l0, l1, u_not, s_neq, h2, hln, b_lss, b_gtr, h3, h4]
          refine ⟨p1, p2, .cond (t := true) rfl (.seq (.region [] (by decide) ?_))⟩
          simp only [EOps, EDf, isRd, gdA, callOf, isPanic, nextOf, altA, evalOp, St.ev, Av.get, St.put, argT, ofV, thenQ, Nat.reduceEqDiff, ↓reduceIte, lend, AV.hfs, AV.hf, Bool.and_self, List.map_cons, List.map_nil, List.nil_append, List.append_nil, List.getElem?_cons_zero, List.getElem?_cons_succ, List.getElem?_toArray, Option.map_some, Option.bind_some, decide_true, decide_false, beq_false, beq_true, Bool.not_true, Bool.not_false, Bool.false_eq_true, pickA, cond_true, cond_false]
          exact .ret ⟨_, rfl, _, rfl, .refl _⟩
      · have hq' : b2 = true ∧ b3 = false ∧ b4 = false := by revert hq; cases b2 <;> cases b3 <;> cases b4 <;> simp
        obtain ⟨rfl, rfl, rfl⟩ := hq'
        cases b5 with
        | false =>
          refine .seq (.drawf [.pure (.ret (.bool true)), .pure (.ret (.str (small a.1))), .pure (.ret (.bool false))] mixed (by kernel_rfl) (by kernel_rfl) (by kernel_rfl) ?_)
          simp only [EOps, EDf, isRd, gdA, callOf, isPanic, nextOf, altA, evalOp, St.ev, Av.get, St.put, argT, ofV, thenQ, Nat.reduceEqDiff, ↓reduceIte, lend, AV.hfs, AV.hf, Bool.and_self, List.map_cons, List.map_nil, List.nil_append, List.append_nil, List.getElem?_cons_zero, List.getElem?_cons_succ, List.getElem?_toArray, Option.map_some, Option.bind_some, decide_true, decide_false, beq_false, beq_true, Bool.not_true, Bool.not_false, Bool.false_eq_true, pickA, cond_true, cond_false, fa53_0, fa53_1, l0, l1, u_not, s_neq, h2, hln, b_lss, b_gtr, h3, h4, strs_hfs]
          refine ⟨p1, p2, p5, .cond (t := true) rfl (.seq (.region [] (by decide) ?_))⟩
          simp only [EOps, EDf, isRd, gdA, callOf, isPanic, nextOf, altA, evalOp, St.ev, Av.get, St.put, argT, ofV, thenQ, Nat.reduceEqDiff, ↓reduceIte, lend, AV.hfs, AV.hf, Bool.and_self, List.map_cons, List.map_nil, List.nil_append, List.append_nil, List.getElem?_cons_zero, List.getElem?_cons_succ, List.getElem?_toArray, Option.map_some, Option.bind_some, decide_true, decide_false, beq_false, beq_true, Bool.not_true, Bool.not_false, Bool.false_eq_true, pickA, cond_true, cond_false]
          rw [bad rfl]
          exact .ret ⟨_, rfl, _, rfl, .refl _⟩
        | true =>
          refine .seq (.drawf [.pure (.ret (.bool true)), .pure (.ret (.str (small a.1))), .pure (.ret (.bool true)), .pure (.ret (.bool b6))] mixed (by kernel_rfl) (by kernel_rfl) (by kernel_rfl) ?_)
          simp only [EOps, EDf, isRd, gdA, callOf, isPanic, nextOf, altA, evalOp, St.ev, Av.get, St.put, argT, ofV, thenQ, Nat.reduceEqDiff, ↓reduceIte, lend, AV.hfs, AV.hf, Bool.and_self, List.map_cons, List.map_nil, List.nil_append, List.append_nil, List.getElem?_cons_zero, List.getElem?_cons_succ, List.getElem?_toArray, Option.map_some, Option.bind_some, decide_true, decide_false, beq_false, beq_true, Bool.not_true, Bool.not_false, Bool.false_eq_true, pickA, cond_true, cond_false, fa53_0, fa53_1, l0, l1, u_not, s_neq, h2, hln, b_lss, b_gtr, h3, h4, strs_hfs]
          refine ⟨p1, p2, p5, p6, ?_⟩
          cases b6 with
          | false =>
            refine .cond (t := true) rfl (.seq (.region [] (by decide) ?_))
            simp only [EOps, EDf, isRd, gdA, callOf, isPanic, nextOf, altA, evalOp, St.ev, Av.get, St.put, argT, ofV, thenQ, Nat.reduceEqDiff, ↓reduceIte, lend, AV.hfs, AV.hf, Bool.and_self, List.map_cons, List.map_nil, List.nil_append, List.append_nil, List.getElem?_cons_zero, List.getElem?_cons_succ, List.getElem?_toArray, Option.map_some, Option.bind_some, decide_true, decide_false, beq_false, beq_true, Bool.not_true, Bool.not_false, Bool.false_eq_true, pickA, cond_true, cond_false]
            rw [bad rfl]
            exact .ret ⟨_, rfl, _, rfl, .refl _⟩
          | true =>
            refine .cond (t := false) rfl (.skip ?_)
            rw [hx26_len] at hsub
            refine ⟨⟨hi, by rw [← hok]; rfl⟩, ?_, hsub, rfl⟩
            simp only [subT, Av.get, Nat.reduceEqDiff, ↓reduceIte, Le_rfl, nat0, nat1, and_self]
  · rintro ⟨_, hok⟩
    rw [List.drop_length] at hok
    have hck : checkE e = (!decide ((e.length : Int) > 24) && risesB (e.map (·.1))) := by unfold checkE; rw [← hok]; rfl
    rw [hck]
    generalize h1 : decide ((e.length : Int) > 24) = b1
    have p := rises49 (match e with | [] => true | _ => false) (e.map (·.1))
    generalize h2 : risesB (e.map (·.1)) = b2 at p
    have hle : ∀ o, lend (hx26 e e.length) [nm26 e.length] (.ret (.bool o)) = some [.vsl 0 (match e with | [] => true | _ => false) ((e.map (·.1)).map .str)] := by
      intro o
      cases he : e with
      | nil => rfl
      | cons a l =>
        have hz := fz_strs ((e.take (l.length + 1)).map (·.1)) (hx26 e (l.length + 1)) (2 * l.length + 1) true (by rw [hx26, List.getElem?_append_right (by simp)]; simp)
        have ht : (e.take (l.length + 1)) = e := by rw [he]; exact List.take_of_length_le (by simp)
        rw [ht] at hz
        have hl' : (e.map (·.1)).length = l.length + 1 := by rw [he]; simp
        rw [hl'] at hz
        rw [← he]
        have hlen : e.length = l.length + 1 := by rw [he]; rfl
        rw [hlen]
        unfold lend
        rw [if_neg (by simp [nm26, AV.hfs, AV.hf]), if_pos (show (Out.ret (AV.bool o)).scalar = true from rfl)]
        simp only [List.mapM_cons, List.mapM_nil, nm26, hz]
        rw [he]; rfl
    simp only [EOps, EDf, isRd, gdA, callOf, isPanic, nextOf, altA, evalOp, St.ev, Av.get, St.put, argT, ofV, thenQ, Nat.reduceEqDiff, ↓reduceIte, lend, AV.hfs, AV.hf, Bool.and_self, List.map_cons, List.map_nil, List.nil_append, List.append_nil, List.getElem?_cons_zero, List.getElem?_cons_succ, List.getElem?_toArray, Option.map_some, Option.bind_some, decide_true, decide_false, beq_false, beq_true, Bool.not_true, Bool.not_false, Bool.false_eq_true, pickA, cond_true, cond_false, blockQ]
    cases b1 with
    | true =>
      refine .seq (.seq (.region [] (by decide) ?_))
      simp only [EOps, EDf, isRd, gdA, callOf, isPanic, nextOf, altA, evalOp, St.ev, Av.get, St.put, argT, ofV, thenQ, Nat.reduceEqDiff, ↓reduceIte, Bool.and_self, List.map_cons, List.map_nil, List.nil_append, List.append_nil, List.getElem?_cons_zero, List.getElem?_cons_succ, List.getElem?_toArray, Option.map_some, Option.bind_some, decide_true, decide_false, beq_false, beq_true, Bool.not_true, Bool.not_false, Bool.false_eq_true, pickA, cond_true, cond_false, ln23, b_gtr, h1]
      refine .cond (t := true) rfl (.seq (.region [] (by decide) ?_))
      simp only [EOps, EDf, isRd, gdA, callOf, isPanic, nextOf, altA, evalOp, St.ev, Av.get, St.put, argT, ofV, thenQ, Nat.reduceEqDiff, ↓reduceIte, lend, AV.hfs, AV.hf, Bool.and_self, List.map_cons, List.map_nil, List.nil_append, List.append_nil, List.getElem?_cons_zero, List.getElem?_cons_succ, List.getElem?_toArray, Option.map_some, Option.bind_some, decide_true, decide_false, beq_false, beq_true, Bool.not_true, Bool.not_false, Bool.false_eq_true, pickA, cond_true, cond_false]
      exact .ret ⟨_, rfl, _, rfl, .refl _⟩
    | false =>
      refine .seq (.seq (.region [.pure (.ret (.bool b2))] (by decide) ?_))
      simp only [EOps, EDf, isRd, gdA, callOf, isPanic, nextOf, altA, evalOp, St.ev, Av.get, St.put, argT, ofV, thenQ, Nat.reduceEqDiff, ↓reduceIte, Bool.and_self, List.map_cons, List.map_nil, List.nil_append, List.append_nil, List.getElem?_cons_zero, List.getElem?_cons_succ, List.getElem?_toArray, Option.map_some, Option.bind_some, decide_true, decide_false, beq_false, beq_true, Bool.not_true, Bool.not_false, Bool.false_eq_true, pickA, cond_true, cond_false, ln23, b_gtr, h1, hle, u_not]
      refine ⟨p, ?_⟩
      cases b2 with
      | false =>
        refine .cond (t := true) rfl (.seq (.region [] (by decide) ?_))
        simp only [EOps, EDf, isRd, gdA, callOf, isPanic, nextOf, altA, evalOp, St.ev, Av.get, St.put, argT, ofV, thenQ, Nat.reduceEqDiff, ↓reduceIte, lend, AV.hfs, AV.hf, Bool.and_self, List.map_cons, List.map_nil, List.nil_append, List.append_nil, List.getElem?_cons_zero, List.getElem?_cons_succ, List.getElem?_toArray, Option.map_some, Option.bind_some, decide_true, decide_false, beq_false, beq_true, Bool.not_true, Bool.not_false, Bool.false_eq_true, pickA, cond_true, cond_false]
        exact .ret ⟨_, rfl, _, rfl, .refl _⟩
      | true =>
        refine .cond (t := false) rfl (.skip ?_)
        refine .seq (.region [] (by decide) ?_)
        simp only [EOps, EDf, isRd, gdA, callOf, isPanic, nextOf, altA, evalOp, St.ev, Av.get, St.put, argT, ofV, thenQ, Nat.reduceEqDiff, ↓reduceIte, lend, AV.hfs, AV.hf, Bool.and_self, List.map_cons, List.map_nil, List.nil_append, List.append_nil, List.getElem?_cons_zero, List.getElem?_cons_succ, List.getElem?_toArray, Option.map_some, Option.bind_some, decide_true, decide_false, beq_false, beq_true, Bool.not_true, Bool.not_false, Bool.false_eq_true, pickA, cond_true, cond_false]
        exact .ret ⟨_, rfl, _, rfl, .refl _⟩
end Go.Proofs.YtmeijkidjifagaaGreat
namespace Go.Proofs.YtmeijkidjifagaaGreat
set_option linter.unusedVariables false
set_option linter.unusedSimpArgs false
open Go Go.Av

def attrR (a : Atr) : Bool := isName a.1 && (small a.1 == a.1) && (!decide ((a.2.2.length : Int) < 1) && !decide ((a.2.2.length : Int) > 16)) && a.2.2.all valueB && risesB a.2.2
def rightB (e : List Atr) : Bool := !decide ((e.length : Int) > 24) && (e.all attrR && risesB (e.map (·.1)))

theorem prevs {α : Type} (f : α → Bytes) (l : List α) (i : Nat) (s : α) (hs : l[i]? = some s) (hdrop : l.drop i = s :: l.drop (i + 1)) :
    ∃ b4 : Bool, (i = 0 → b4 = true) ∧ (risesB ((l.drop (i - 1)).map f) = (b4 && risesB ((l.drop (i + 1 - 1)).map f))) ∧ (∀ j, i = j + 1 → ∃ u, l[j]? = some u ∧ Op.bytesLess (f u) (f s) = b4) := by
  rcases i with _ | j
  · exact ⟨true, (fun _ => rfl), (by simp), (fun j h => nomatch h)⟩
  · have hl : j + 1 < l.length := (List.getElem?_eq_some_iff.1 hs).1
    obtain ⟨u, hu, hd⟩ := drop_at (l := l) (i := j) (by omega)
    refine ⟨Op.bytesLess (f u) (f s), (fun h => nomatch h), ?_, ?_⟩
    · simp only [Nat.add_sub_cancel]
      rw [hd, hdrop, List.map_cons, List.map_cons, risesB]
    · intro k hk
      cases hk
      exact ⟨u, hu, rfl⟩

theorem values58' (x : Bool) (l : List Bytes) : PureFn Tryz.prog 58 [.vsl 0 x (l.map .str)] (.ret (.bool (l.all valueB))) := values58 x l

set_option maxRecDepth 100000 in
theorem right30 (x : Bool) (e : List Atr) : PureFn Tryz.prog 30 [.vsl 3 x (e.map encE)] (.ret (.bool (rightB e))) := by
  refine PureFn.fit fun hfit => ?_
  have hL : e.length ≤ maxLen' := by have : (e.map encE).length ≤ maxLen' := hfit (.vsl 3 x (e.map encE)) (by simp); simpa using this
  refine PureFn.of Tryz.func30 rfl (enters_call enters Tryz.func30 rfl) (by simp [Tryz.ntmps30]) ?_
  show W Tryz.prog 83 _ none _ _ _
  refine .seq (.region [] (by decide) ?_)
  simp only [EOps, EDf, isRd, gdA, callOf, isPanic, nextOf, altA, evalOp, St.ev, Av.get, St.put, argT, ofV, thenQ, Nat.reduceEqDiff, ↓reduceIte, lend, AV.hfs, AV.hf, Bool.and_self, List.map_cons, List.map_nil, List.nil_append, List.append_nil, List.getElem?_cons_zero, List.getElem?_cons_succ, List.getElem?_toArray, Option.map_some, Option.bind_some, decide_true, decide_false, beq_false, beq_true, Bool.not_true, Bool.not_false, Bool.false_eq_true, pickA, cond_true, cond_false]
  refine .seq (.seq (.region [] (by decide) ?_))
  unfold rightB
  generalize h1 : decide ((e.length : Int) > 24) = b1
  generalize hall : (e.all attrR && risesB (e.map (·.1))) = b0
  cases b1 with
  | true =>
    simp only [EOps, EDf, isRd, gdA, callOf, isPanic, nextOf, altA, evalOp, St.ev, Av.get, St.put, argT, ofV, thenQ, Nat.reduceEqDiff, ↓reduceIte, lend, AV.hfs, AV.hf, Bool.and_self, List.map_cons, List.map_nil, List.nil_append, List.append_nil, List.getElem?_cons_zero, List.getElem?_cons_succ, List.getElem?_toArray, Option.map_some, Option.bind_some, decide_true, decide_false, beq_false, beq_true, Bool.not_true, Bool.not_false, Bool.false_eq_true, pickA, cond_true, cond_false, ln23, b_gtr, h1]
    refine .cond (t := true) rfl (.seq (.region [] (by decide) ?_))
    simp only [EOps, EDf, isRd, gdA, callOf, isPanic, nextOf, altA, evalOp, St.ev, Av.get, St.put, argT, ofV, thenQ, Nat.reduceEqDiff, ↓reduceIte, lend, AV.hfs, AV.hf, Bool.and_self, List.map_cons, List.map_nil, List.nil_append, List.append_nil, List.getElem?_cons_zero, List.getElem?_cons_succ, List.getElem?_toArray, Option.map_some, Option.bind_some, decide_true, decide_false, beq_false, beq_true, Bool.not_true, Bool.not_false, Bool.false_eq_true, pickA, cond_true, cond_false]
    exact .ret ⟨_, rfl, _, rfl, .refl _⟩
  | false =>
    simp only [EOps, EDf, isRd, gdA, callOf, isPanic, nextOf, altA, evalOp, St.ev, Av.get, St.put, argT, ofV, thenQ, Nat.reduceEqDiff, ↓reduceIte, lend, AV.hfs, AV.hf, Bool.and_self, List.map_cons, List.map_nil, List.nil_append, List.append_nil, List.getElem?_cons_zero, List.getElem?_cons_succ, List.getElem?_toArray, Option.map_some, Option.bind_some, decide_true, decide_false, beq_false, beq_true, Bool.not_true, Bool.not_false, Bool.false_eq_true, pickA, cond_true, cond_false, ln23, b_gtr, h1]
    refine .cond (t := false) rfl (.skip ?_)
    refine .seq (.seq (.region [] (by decide) ?_))
    simp only [EOps, EDf, isRd, gdA, callOf, isPanic, nextOf, altA, evalOp, St.ev, Av.get, St.put, argT, ofV, thenQ, Nat.reduceEqDiff, ↓reduceIte, lend, AV.hfs, AV.hf, Bool.and_self, List.map_cons, List.map_nil, List.nil_append, List.append_nil, List.getElem?_cons_zero, List.getElem?_cons_succ, List.getElem?_toArray, Option.map_some, Option.bind_some, decide_true, decide_false, beq_false, beq_true, Bool.not_true, Bool.not_false, Bool.false_eq_true, pickA, cond_true, cond_false]
    refine .block ?_
    refine .forR 3 12 13 14 0 e.length hL (Nat.zero_le _) rfl rfl rfl rfl rfl rfl rfl rfl rfl (by decide)
      (fun i => [(0, .vsl 3 x (e.map encE))]) (fun _ => rfl) (fun _ => []) (fun _ => Nat.zero_le _) (fun i => ((e.drop i).all attrR && risesB ((e.drop (i - 1)).map (·.1))) = b0) rfl hall ?_ ?_ trivial ?_ ?_ ?_
    · simp only [subT, Av.get, Nat.reduceEqDiff, ↓reduceIte, Le_rfl, nat0, nat1, and_self]
    · intro i _
      simp only [hltT, AV.hlt, AV.hlts, strs_hlts, Bool.and_self, Bool.and_true, Bool.true_and, encE_hlts]
    · intro i hi hok
      refine .region [] (by decide) ?_
      simp only [EOps, EDf, isRd, gdA, callOf, isPanic, nextOf, altA, evalOp, St.ev, Av.get, St.put, argT, ofV, thenQ, Nat.reduceEqDiff, ↓reduceIte, lend, AV.hfs, AV.hf, Bool.and_self, List.map_cons, List.map_nil, List.nil_append, List.append_nil, List.getElem?_cons_zero, List.getElem?_cons_succ, List.getElem?_toArray, Option.map_some, Option.bind_some, decide_true, decide_false, beq_false, beq_true, Bool.not_true, Bool.not_false, Bool.false_eq_true, pickA, cond_true, cond_false, ln23, b_lss, dlt]
      refine ⟨trivial, ?_, trivial, trivial⟩
      simp only [subT, Av.get, Nat.reduceEqDiff, ↓reduceIte, Le_rfl, nat0, nat1, and_self]
    · intro i hi hok
      obtain ⟨a, ha, hdrop⟩ := drop_at hi
      rw [hdrop, List.all_cons] at hok
      obtain ⟨b7, hb7, hnext, hprev⟩ := prevs (·.1) e i a ha hdrop
      rw [hnext] at hok
      clear hnext hall h1
      refine .block (.seq (.region [] (by decide) ?_))
      have hst := st53 a [.cells [.str [], .vsl 0 true []] false] 0 _ _ rfl
      simp only [EOps, EDf, isRd, gdA, callOf, isPanic, nextOf, altA, evalOp, St.ev, Av.get, St.put, argT, ofV, thenQ, Nat.reduceEqDiff, ↓reduceIte, lend, AV.hfs, AV.hf, Bool.and_self, List.map_cons, List.map_nil, List.nil_append, List.append_nil, List.getElem?_cons_zero, List.getElem?_cons_succ, List.getElem?_toArray, Option.map_some, Option.bind_some, decide_true, decide_false, beq_false, beq_true, Bool.not_true, Bool.not_false, Bool.false_eq_true, pickA, cond_true, cond_false, ia23 _ _ _ _ ha, ld53, za53, List.length_nil, cells_agg, hst, List.set_cons_zero]
      have l0 : evLoad Tryz.prog 9 (.ptr 0 0) [.cells [.str a.1, .vsl 0 a.2.1 (a.2.2.map .str)] false] = some (.str a.1) := ld9 _ _ _ _ _ _ rfl rfl
      have l1 : evLoad Tryz.prog 26 (.ptr 0 1) [.cells [.str a.1, .vsl 0 a.2.1 (a.2.2.map .str)] false] = some (.vsl 0 a.2.1 (a.2.2.map .str)) := ld26 _ _ _ _ _ _ rfl rfl
      have p1 := name57 a.1
      have p2 := small44 a.1
      have p5 := values58' a.2.1 a.2.2
      generalize h1 : isName a.1 = b1 at p1
      generalize h2 : (small a.1 == a.1) = b2
      generalize h3 : decide ((a.2.2.length : Int) < 1) = b3
      generalize h4 : decide ((a.2.2.length : Int) > 16) = b4
      generalize h5 : a.2.2.all valueB = b5 at p5
      have hab : attrR a = (b1 && b2 && (!b3 && !b4) && b5 && risesB a.2.2) := by unfold attrR; rw [h1, h2, h3, h4, h5]
      rw [hab] at hok
      have bad : (b1 && b2 && (!b3 && !b4) && b5 && b7) = false → b0 = false := by
        intro h; rw [← hok]; revert h
        generalize risesB a.2.2 = c1; generalize (e.drop (i + 1)).all attrR = c2; generalize risesB ((e.drop (i + 1 - 1)).map (·.1)) = c3
        cases b1 <;> cases b2 <;> cases b3 <;> cases b4 <;> cases b5 <;> cases b7 <;> simp
      have hln : ∀ H, evLen Tryz.prog 26 (.vsl 0 a.2.1 (a.2.2.map .str)) H = some (.int .i64 a.2.2.length) := fun H => ln26 _ _ _
      refine .seqP (b1 = true ∧ (b2 = true ∧ b3 = false ∧ b4 = false) ∧ b5 = true ∧ b7 = true) [(4, .ptr 0 0), (3, .int .i64 (i : Int)), (0, .vsl 3 x (e.map encE))] [.cells [.str a.1, .vsl 0 a.2.1 (a.2.2.map .str)] false] ?_ ?_
      · cases b1 with
        | false =>
          refine .seq (.drawf [.pure (.ret (.bool false))] mixed (by kernel_rfl) (by kernel_rfl) (by kernel_rfl) ?_)
          simp only [EOps, EDf, isRd, gdA, callOf, isPanic, nextOf, altA, evalOp, St.ev, Av.get, St.put, argT, ofV, thenQ, Nat.reduceEqDiff, ↓reduceIte, lend, AV.hfs, AV.hf, Bool.and_self, List.map_cons, List.map_nil, List.nil_append, List.append_nil, List.getElem?_cons_zero, List.getElem?_cons_succ, List.getElem?_toArray, Option.map_some, Option.bind_some, decide_true, decide_false, beq_false, beq_true, Bool.not_true, Bool.not_false, Bool.false_eq_true, pickA, cond_true, cond_false, fa53_0, fa53_1, l0, l1, u_not]
          refine ⟨p1, .cond (t := true) rfl (.seq (.region [] (by decide) ?_))⟩
          simp only [EOps, EDf, isRd, gdA, callOf, isPanic, nextOf, altA, evalOp, St.ev, Av.get, St.put, argT, ofV, thenQ, Nat.reduceEqDiff, ↓reduceIte, lend, AV.hfs, AV.hf, Bool.and_self, List.map_cons, List.map_nil, List.nil_append, List.append_nil, List.getElem?_cons_zero, List.getElem?_cons_succ, List.getElem?_toArray, Option.map_some, Option.bind_some, decide_true, decide_false, beq_false, beq_true, Bool.not_true, Bool.not_false, Bool.false_eq_true, pickA, cond_true, cond_false]
          rw [bad rfl]
          exact .ret ⟨_, rfl, _, rfl, .refl _⟩
        | true =>
          by_cases hq : (b2 && (!b3 && !b4)) = false
          · refine .seq (.drawf [.pure (.ret (.bool true)), .pure (.ret (.str (small a.1)))] mixed (by kernel_rfl) (by kernel_rfl) (by kernel_rfl) ?_)
            have hbad := bad (by revert hq; cases b2 <;> cases b3 <;> cases b4 <;> simp)
            rw [hbad]
            clear hok bad
            cases b2 <;> cases b3 <;> cases b4 <;> first | (exfalso; revert hq; decide) | skip
            all_goals
              simp only [EOps, EDf, isRd, gdA, callOf, isPanic, nextOf, altA, evalOp, St.ev, Av.get, St.put, argT, ofV, thenQ, Nat.reduceEqDiff, ↓reduceIte, lend, AV.hfs, AV.hf, Bool.and_self, List.map_cons, List.map_nil, List.nil_append, List.append_nil, List.getElem?_cons_zero, List.getElem?_cons_succ, List.getElem?_toArray, Option.map_some, Option.bind_some, decide_true, decide_false, beq_false, beq_true, Bool.not_true, Bool.not_false, Bool.false_eq_true, pickA, cond_true, cond_false, fa53_0, fa53_1, l0, l1, u_not, s_neq, h2, hln, b_lss, b_gtr, h3, h4]
              refine ⟨p1, p2, .cond (t := true) rfl (.seq (.region [] (by decide) ?_))⟩
              simp only [EOps, EDf, isRd, gdA, callOf, isPanic, nextOf, altA, evalOp, St.ev, Av.get, St.put, argT, ofV, thenQ, Nat.reduceEqDiff, ↓reduceIte, lend, AV.hfs, AV.hf, Bool.and_self, List.map_cons, List.map_nil, List.nil_append, List.append_nil, List.getElem?_cons_zero, List.getElem?_cons_succ, List.getElem?_toArray, Option.map_some, Option.bind_some, decide_true, decide_false, beq_false, beq_true, Bool.not_true, Bool.not_false, Bool.false_eq_true, pickA, cond_true, cond_false]
              exact .ret ⟨_, rfl, _, rfl, .refl _⟩
          · have hq' : b2 = true ∧ b3 = false ∧ b4 = false := by revert hq; cases b2 <;> cases b3 <;> cases b4 <;> simp
            obtain ⟨rfl, rfl, rfl⟩ := hq'
            cases b5 with
            | false =>
              refine .seq (.drawf [.pure (.ret (.bool true)), .pure (.ret (.str (small a.1))), .pure (.ret (.bool false))] mixed (by kernel_rfl) (by kernel_rfl) (by kernel_rfl) ?_)
              simp only [EOps, EDf, isRd, gdA, callOf, isPanic, nextOf, altA, evalOp, St.ev, Av.get, St.put, argT, ofV, thenQ, Nat.reduceEqDiff, ↓reduceIte, lend, AV.hfs, AV.hf, Bool.and_self, List.map_cons, List.map_nil, List.nil_append, List.append_nil, List.getElem?_cons_zero, List.getElem?_cons_succ, List.getElem?_toArray, Option.map_some, Option.bind_some, decide_true, decide_false, beq_false, beq_true, Bool.not_true, Bool.not_false, Bool.false_eq_true, pickA, cond_true, cond_false, fa53_0, fa53_1, l0, l1, u_not, s_neq, h2, hln, b_lss, b_gtr, h3, h4, strs_hfs]
              refine ⟨p1, p2, p5, .cond (t := true) rfl (.seq (.region [] (by decide) ?_))⟩
              simp only [EOps, EDf, isRd, gdA, callOf, isPanic, nextOf, altA, evalOp, St.ev, Av.get, St.put, argT, ofV, thenQ, Nat.reduceEqDiff, ↓reduceIte, lend, AV.hfs, AV.hf, Bool.and_self, List.map_cons, List.map_nil, List.nil_append, List.append_nil, List.getElem?_cons_zero, List.getElem?_cons_succ, List.getElem?_toArray, Option.map_some, Option.bind_some, decide_true, decide_false, beq_false, beq_true, Bool.not_true, Bool.not_false, Bool.false_eq_true, pickA, cond_true, cond_false]
              rw [bad rfl]
              exact .ret ⟨_, rfl, _, rfl, .refl _⟩
            | true =>
              refine .seq (.drawf [.pure (.ret (.bool true)), .pure (.ret (.str (small a.1))), .pure (.ret (.bool true))] mixed (by kernel_rfl) (by kernel_rfl) (by kernel_rfl) ?_)
              rcases i with _ | j
              · cases hb7 rfl
                have e0 : decide (((0 : Nat) : Int) > 0) = false := rfl
                simp only [EOps, EDf, isRd, gdA, callOf, isPanic, nextOf, altA, evalOp, St.ev, Av.get, St.put, argT, ofV, thenQ, Nat.reduceEqDiff, ↓reduceIte, lend, AV.hfs, AV.hf, Bool.and_self, List.map_cons, List.map_nil, List.nil_append, List.append_nil, List.getElem?_cons_zero, List.getElem?_cons_succ, List.getElem?_toArray, Option.map_some, Option.bind_some, decide_true, decide_false, beq_false, beq_true, Bool.not_true, Bool.not_false, Bool.false_eq_true, pickA, cond_true, cond_false, fa53_0, fa53_1, l0, l1, u_not, s_neq, h2, hln, b_lss, b_gtr, h3, h4, strs_hfs, e0]
                refine ⟨p1, p2, p5, .cond (t := false) rfl (.skip ?_)⟩
                refine ⟨by simp, ?_, rfl, rfl⟩
                simp [holdsT, Av.get]
              · obtain ⟨u, hu, hus⟩ := hprev j rfl
                have e0 : decide (((j + 1 : Nat) : Int) > 0) = true := decide_eq_true (by omega)
                have hsub : evBin Tryz.prog .sub 3 (.int .i64 ((j + 1 : Nat) : Int)) (.int .i64 1) = some (.int .i64 (j : Int)) := by
                  rw [b_sub64 _ _ (by simp only [maxLen'] at hL; omega)]; simp
                simp only [EOps, EDf, isRd, gdA, callOf, isPanic, nextOf, altA, evalOp, St.ev, Av.get, St.put, argT, ofV, thenQ, Nat.reduceEqDiff, ↓reduceIte, lend, AV.hfs, AV.hf, Bool.and_self, List.map_cons, List.map_nil, List.nil_append, List.append_nil, List.getElem?_cons_zero, List.getElem?_cons_succ, List.getElem?_toArray, Option.map_some, Option.bind_some, decide_true, decide_false, beq_false, beq_true, Bool.not_true, Bool.not_false, Bool.false_eq_true, pickA, cond_true, cond_false, fa53_0, fa53_1, l0, l1, u_not, s_neq, h2, hln, b_lss, b_gtr, h3, h4, strs_hfs, e0, hsub, ia23 _ _ _ _ hu, faE0, ldE0, s_geq, hus]
                refine ⟨p1, p2, p5, ?_⟩
                cases b7 with
                | true =>
                  refine .cond (t := false) rfl (.skip ?_)
                  refine ⟨by simp, ?_, rfl, rfl⟩
                  simp [holdsT, Av.get]
                | false =>
                  refine .cond (t := true) rfl (.seq (.region [] (by decide) ?_))
                  simp only [EOps, EDf, isRd, gdA, callOf, isPanic, nextOf, altA, evalOp, St.ev, Av.get, St.put, argT, ofV, thenQ, Nat.reduceEqDiff, ↓reduceIte, lend, AV.hfs, AV.hf, Bool.and_self, List.map_cons, List.map_nil, List.nil_append, List.append_nil, List.getElem?_cons_zero, List.getElem?_cons_succ, List.getElem?_toArray, Option.map_some, Option.bind_some, decide_true, decide_false, beq_false, beq_true, Bool.not_true, Bool.not_false, Bool.false_eq_true, pickA, cond_true, cond_false]
                  rw [bad rfl]
                  exact .ret ⟨_, rfl, _, rfl, .refl _⟩
      · rintro ⟨rfl, ⟨rfl, rfl, rfl⟩, rfl, rfl⟩
        simp only [Bool.not_false, Bool.and_true, Bool.true_and] at hok
        refine .seq (.region [] (by decide) ?_)
        simp only [EOps, EDf, isRd, gdA, callOf, isPanic, nextOf, altA, evalOp, St.ev, Av.get, St.put, argT, ofV, thenQ, Nat.reduceEqDiff, ↓reduceIte, lend, AV.hfs, AV.hf, Bool.and_self, List.map_cons, List.map_nil, List.nil_append, List.append_nil, List.getElem?_cons_zero, List.getElem?_cons_succ, List.getElem?_toArray, Option.map_some, Option.bind_some, decide_true, decide_false, beq_false, beq_true, Bool.not_true, Bool.not_false, Bool.false_eq_true, pickA, cond_true, cond_false]
        refine .block ?_
        have hlv : a.2.2.length ≤ maxLen' := by
          have := of_decide_eq_false h4
          simp only [maxLen']; omega
        have hl1 : 1 ≤ a.2.2.length := by have := of_decide_eq_false h3; omega
        generalize hl : a.2.2 = l at *
        refine .forR 5 68 69 70 1 l.length hlv hl1 rfl rfl rfl rfl rfl rfl rfl rfl rfl (by decide)
          (fun k => [(4, .ptr 0 0), (3, .int .i64 (i : Int)), (0, .vsl 3 x (e.map encE))]) (fun _ => rfl) (fun _ => [.cells [.str a.1, .vsl 0 a.2.1 (l.map .str)] false]) (fun _ => Nat.zero_le _) (fun k => 1 ≤ k ∧ risesB (l.drop (k - 1)) = risesB l) rfl ⟨Nat.le_refl _, rfl⟩ ?_ ?_ ?_ ?_ ?_ ?_
        · simp only [subT, Av.get, Nat.reduceEqDiff, ↓reduceIte, Le_rfl, nat0, nat1, and_self]
        · intro k _
          simp only [hltT, AV.hlt, AV.hlts, strs_hlts, Bool.and_self, Bool.and_true, Bool.true_and, encE_hlts]
          rfl
        · refine ⟨rfl, ?_, trivial⟩
          simp [OB.hlt, AV.hlts, AV.hlt, strs_hlts]
        · intro k hk hok
          refine .region [] (by decide) ?_
          simp only [EOps, EDf, isRd, gdA, callOf, isPanic, nextOf, altA, evalOp, St.ev, Av.get, St.put, argT, ofV, thenQ, Nat.reduceEqDiff, ↓reduceIte, lend, AV.hfs, AV.hf, Bool.and_self, List.map_cons, List.map_nil, List.nil_append, List.append_nil, List.getElem?_cons_zero, List.getElem?_cons_succ, List.getElem?_toArray, Option.map_some, Option.bind_some, decide_true, decide_false, beq_false, beq_true, Bool.not_true, Bool.not_false, Bool.false_eq_true, pickA, cond_true, cond_false, fa53_1, l1, hln, b_lss, dlt]
          refine ⟨trivial, ?_, ⟨rfl, ?_, trivial⟩, trivial⟩
          · simp only [subT, Av.get, Nat.reduceEqDiff, ↓reduceIte, Le_rfl, nat0, nat1, and_self]
          · simp [OB.hlt, AV.hlts, AV.hlt, strs_hlts]
        · rintro k hk ⟨hk1, hok'⟩
          obtain ⟨j, rfl⟩ : ∃ j, k = j + 1 := ⟨k - 1, by omega⟩
          obtain ⟨v, hv, hdv⟩ := drop_at hk
          obtain ⟨u, hu, hdu⟩ := drop_at (l := l) (i := j) (by omega)
          rw [Nat.add_sub_cancel, hdu, hdv, risesB] at hok'
          have hsub : evBin Tryz.prog .sub 3 (.int .i64 ((j + 1 : Nat) : Int)) (.int .i64 1) = some (.int .i64 (j : Int)) := by
            rw [b_sub64 _ _ (by simp only [maxLen'] at hlv; omega)]; simp
          refine .block (.seq (.drawf [] mixed (by kernel_rfl) (by kernel_rfl) (by kernel_rfl) ?_))
          generalize h9 : Op.bytesLess u v = b9 at hok'
          cases b9 <;> simp only [EOps, EDf, isRd, gdA, callOf, isPanic, nextOf, altA, evalOp, St.ev, Av.get, St.put, argT, ofV, thenQ, Nat.reduceEqDiff, ↓reduceIte, lend, AV.hfs, AV.hf, Bool.and_self, List.map_cons, List.map_nil, List.nil_append, List.append_nil, List.getElem?_cons_zero, List.getElem?_cons_succ, List.getElem?_toArray, Option.map_some, Option.bind_some, decide_true, decide_false, beq_false, beq_true, Bool.not_true, Bool.not_false, Bool.false_eq_true, pickA, cond_true, cond_false, fa53_1, l1, hsub, ia26 _ _ _ _ hu, ia26 _ _ _ _ hv, ld9v, s_geq, h9]
          · refine .cond (t := true) rfl (.seq (.region [] (by decide) ?_))
            simp only [EOps, EDf, isRd, gdA, callOf, isPanic, nextOf, altA, evalOp, St.ev, Av.get, St.put, argT, ofV, thenQ, Nat.reduceEqDiff, ↓reduceIte, lend, AV.hfs, AV.hf, Bool.and_self, List.map_cons, List.map_nil, List.nil_append, List.append_nil, List.getElem?_cons_zero, List.getElem?_cons_succ, List.getElem?_toArray, Option.map_some, Option.bind_some, decide_true, decide_false, beq_false, beq_true, Bool.not_true, Bool.not_false, Bool.false_eq_true, pickA, cond_true, cond_false]
            have : b0 = false := by rw [← hok, ← hok']; rfl
            rw [this]
            exact .ret ⟨_, rfl, _, rfl, .refl _⟩
          · refine .cond (t := false) rfl (.skip ?_)
            refine ⟨⟨by omega, ?_⟩, ?_, ⟨rfl, ?_, trivial⟩, rfl⟩
            · rw [← hok', Nat.add_sub_cancel, hdv]; rfl
            · simp only [subT, Av.get, Nat.reduceEqDiff, ↓reduceIte, Le_rfl, nat0, nat1, and_self]
            · simp [OB.hlt, AV.hlts, AV.hlt, strs_hlts]
        · rintro ⟨_, hok'⟩
          rw [rises_short (l.drop (l.length - 1)) (by rw [List.length_drop]; omega)] at hok'
          rw [← hok'] at hok
          refine ⟨?_, ?_, trivial, rfl⟩
          · rw [← hok]; simp
          · simp only [subT, Av.get, Nat.reduceEqDiff, ↓reduceIte, Le_rfl, nat0, nat1, and_self]
    · intro hok
      simp only [EOps, EDf, isRd, gdA, callOf, isPanic, nextOf, altA, evalOp, St.ev, Av.get, St.put, argT, ofV, thenQ, Nat.reduceEqDiff, ↓reduceIte, lend, AV.hfs, AV.hf, Bool.and_self, List.map_cons, List.map_nil, List.nil_append, List.append_nil, List.getElem?_cons_zero, List.getElem?_cons_succ, List.getElem?_toArray, Option.map_some, Option.bind_some, decide_true, decide_false, beq_false, beq_true, Bool.not_true, Bool.not_false, Bool.false_eq_true, pickA, cond_true, cond_false, blockQ]
      refine .seq (.region [] (by decide) ?_)
      simp only [EOps, EDf, isRd, gdA, callOf, isPanic, nextOf, altA, evalOp, St.ev, Av.get, St.put, argT, ofV, thenQ, Nat.reduceEqDiff, ↓reduceIte, lend, AV.hfs, AV.hf, Bool.and_self, List.map_cons, List.map_nil, List.nil_append, List.append_nil, List.getElem?_cons_zero, List.getElem?_cons_succ, List.getElem?_toArray, Option.map_some, Option.bind_some, decide_true, decide_false, beq_false, beq_true, Bool.not_true, Bool.not_false, Bool.false_eq_true, pickA, cond_true, cond_false]
      rw [List.drop_length, rises_short _ (by rw [List.length_map, List.length_drop]; omega)] at hok
      rw [← hok]
      exact .ret ⟨_, rfl, _, rfl, .refl _⟩
end Go.Proofs.YtmeijkidjifagaaGreat
namespace Go.Proofs.YtmeijkidjifagaaGreat
set_option linter.unusedVariables false
set_option linter.unusedSimpArgs false
open Go Go.Av

def attrNames : List Bytes := [[99, 110], [103, 105, 118, 101, 110, 110, 97, 109, 101], [115, 110], [111], [116, 105, 116, 108, 101], [100, 101, 115, 99, 114, 105, 112, 116, 105, 111, 110], [109, 97, 105, 108], [116, 101, 108, 101, 112, 104, 111, 110, 101, 110, 117, 109, 98, 101, 114]]

theorem retC0 {P : Program} {rs : List ResultVar} {a : St} {v v' : AV} (t ty : Nat) (hr : rs = [.cell t ty]) (hD : a.D = []) (hl : evLoad P ty (Av.get a.T t) a.H = some v) (hv : v.hf = true) (he : Le v v') : retQ P rs (.ret v') .ret a := by
  obtain ⟨T, H, D⟩ := a
  simp only at hD hl
  subst hD; subst hr
  refine ⟨⟨T, H, []⟩, rfl, v, ?_, he⟩
  show (evLoad P ty (Av.get T t) H).bind _ = _
  rw [hl]
  exact fz_hf hv

set_option maxRecDepth 100000 in
theorem names22 : PureFn Tryz.prog 22 [] (.ret (.vsl 0 true (attrNames.map .str))) := by
  refine PureFn.of Tryz.func22 rfl (enters_call enters Tryz.func22 rfl) (by simp [Tryz.ntmps22]) ?_
  show W Tryz.prog 2 _ none _ _ _
  refine .seq (.region [] (by decide) ?_)
  simp only [EOps, EDf, isRd, gdA, callOf, isPanic, nextOf, altA, evalOp, St.ev, Av.get, St.put, argT, ofV, thenQ, Nat.reduceEqDiff, ↓reduceIte, lend, AV.hfs, AV.hf, Bool.and_self, List.map_cons, List.map_nil, List.nil_append, List.append_nil, List.getElem?_cons_zero, List.getElem?_cons_succ, List.getElem?_toArray, Option.map_some, Option.bind_some, decide_true, decide_false, beq_false, beq_true, Bool.not_true, Bool.not_false, Bool.false_eq_true, pickA, cond_true, cond_false]
  refine .seq (.region [] (by decide) ?_)
  have hb : evBuildSlice Tryz.prog 26 8 [(0, .str [99, 110]), (1, .str [103, 105, 118, 101, 110, 110, 97, 109, 101]), (2, .str [115, 110]), (3, .str [111]), (4, .str [116, 105, 116, 108, 101]), (5, .str [100, 101, 115, 99, 114, 105, 112, 116, 105, 111, 110]), (6, .str [109, 97, 105, 108]), (7, .str [116, 101, 108, 101, 112, 104, 111, 110, 101, 110, 117, 109, 98, 101, 114])] = some (.vsl 0 true (attrNames.map .str)) := by kernel_rfl
  have x0 : ({ data := #[99, 110] } : ByteArray).size ≤ maxLen' := by decide
  have x1 : ({ data := #[103, 105, 118, 101, 110, 110, 97, 109, 101] } : ByteArray).size ≤ maxLen' := by decide
  have x2 : ({ data := #[115, 110] } : ByteArray).size ≤ maxLen' := by decide
  have x3 : ({ data := #[111] } : ByteArray).size ≤ maxLen' := by decide
  have x4 : ({ data := #[116, 105, 116, 108, 101] } : ByteArray).size ≤ maxLen' := by decide
  have x5 : ({ data := #[100, 101, 115, 99, 114, 105, 112, 116, 105, 111, 110] } : ByteArray).size ≤ maxLen' := by decide
  have x6 : ({ data := #[109, 97, 105, 108] } : ByteArray).size ≤ maxLen' := by decide
  have x7 : ({ data := #[116, 101, 108, 101, 112, 104, 111, 110, 101, 110, 117, 109, 98, 101, 114] } : ByteArray).size ≤ maxLen' := by decide
  simp only [EOps, EDf, isRd, gdA, callOf, isPanic, nextOf, altA, evalOp, St.ev, Av.get, St.put, argT, ofV, thenQ, Nat.reduceEqDiff, ↓reduceIte, lend, AV.hfs, AV.hf, Bool.and_self, List.map_cons, List.map_nil, List.nil_append, List.append_nil, List.getElem?_cons_zero, List.getElem?_cons_succ, List.getElem?_toArray, Option.map_some, Option.bind_some, decide_true, decide_false, beq_false, beq_true, Bool.not_true, Bool.not_false, Bool.false_eq_true, pickA, cond_true, cond_false, x0, x1, x2, x3, x4, x5, x6, x7, if_true, hb]
  exact .ret ⟨_, rfl, _, rfl, .refl _⟩

set_option maxRecDepth 100000 in
theorem attributes25 : PureFn Tryz.prog 25 [] (.ret (.agg (attrNames.map .str))) := by
  refine PureFn.of Tryz.func25 rfl (enters_call enters Tryz.func25 rfl) (by simp [Tryz.ntmps25]) ?_
  show W Tryz.prog 2 _ none _ _ _
  have za : zeroA Tryz.prog 56 = some (.agg (List.replicate 8 (.str []))) := by kernel_rfl
  refine .seq (.region [] (by decide) ?_)
  simp only [EOps, EDf, isRd, gdA, callOf, isPanic, nextOf, altA, evalOp, St.ev, Av.get, St.put, argT, ofV, thenQ, Nat.reduceEqDiff, ↓reduceIte, lend, AV.hfs, AV.hf, Bool.and_self, List.map_cons, List.map_nil, List.nil_append, List.append_nil, List.getElem?_cons_zero, List.getElem?_cons_succ, List.getElem?_toArray, Option.map_some, Option.bind_some, decide_true, decide_false, beq_false, beq_true, Bool.not_true, Bool.not_false, Bool.false_eq_true, pickA, cond_true, cond_false, za, cells_agg, List.length_nil]
  have hb : evBuild Tryz.prog 56 [(0, .str [99, 110]), (1, .str [103, 105, 118, 101, 110, 110, 97, 109, 101]), (2, .str [115, 110]), (3, .str [111]), (4, .str [116, 105, 116, 108, 101]), (5, .str [100, 101, 115, 99, 114, 105, 112, 116, 105, 111, 110]), (6, .str [109, 97, 105, 108]), (7, .str [116, 101, 108, 101, 112, 104, 111, 110, 101, 110, 117, 109, 98, 101, 114])] = some (.agg (attrNames.map .str)) := by kernel_rfl
  have hst : evStore Tryz.prog 56 (.ptr 0 0) (.agg (attrNames.map .str)) [.cells (List.replicate 8 (.str [])) false] = some [.cells (attrNames.map .str) false] := by kernel_rfl
  have hld : evLoad Tryz.prog 56 (.ptr 0 0) [.cells (attrNames.map .str) false] = some (.agg (attrNames.map .str)) := by kernel_rfl
  have x0 : ({ data := #[99, 110] } : ByteArray).size ≤ maxLen' := by decide
  have x1 : ({ data := #[103, 105, 118, 101, 110, 110, 97, 109, 101] } : ByteArray).size ≤ maxLen' := by decide
  have x2 : ({ data := #[115, 110] } : ByteArray).size ≤ maxLen' := by decide
  have x3 : ({ data := #[111] } : ByteArray).size ≤ maxLen' := by decide
  have x4 : ({ data := #[116, 105, 116, 108, 101] } : ByteArray).size ≤ maxLen' := by decide
  have x5 : ({ data := #[100, 101, 115, 99, 114, 105, 112, 116, 105, 111, 110] } : ByteArray).size ≤ maxLen' := by decide
  have x6 : ({ data := #[109, 97, 105, 108] } : ByteArray).size ≤ maxLen' := by decide
  have x7 : ({ data := #[116, 101, 108, 101, 112, 104, 111, 110, 101, 110, 117, 109, 98, 101, 114] } : ByteArray).size ≤ maxLen' := by decide
  refine .seq (.region [] (by decide) ?_)
  simp only [EOps, EDf, isRd, gdA, callOf, isPanic, nextOf, altA, evalOp, St.ev, Av.get, St.put, argT, ofV, thenQ, Nat.reduceEqDiff, ↓reduceIte, lend, AV.hfs, AV.hf, Bool.and_self, List.map_cons, List.map_nil, List.nil_append, List.append_nil, List.getElem?_cons_zero, List.getElem?_cons_succ, List.getElem?_toArray, Option.map_some, Option.bind_some, decide_true, decide_false, beq_false, beq_true, Bool.not_true, Bool.not_false, Bool.false_eq_true, pickA, cond_true, cond_false, x0, x1, x2, x3, x4, x5, x6, x7, if_true, hb, hst]
  exact .ret (retC0 0 56 rfl rfl hld rfl (.refl _))

theorem texts23 (x y : Bool) (l m : List Bytes) : PureFn Tryz.prog 23 [.vsl 0 x (l.map .str), .vsl 0 y (m.map .str)] (.ret (.bool (decide (l = m)))) := by
  refine PureFn.fit fun hfit => ?_
  have hL : l.length ≤ maxLen' := by have : (l.map AV.str).length ≤ maxLen' := hfit (.vsl 0 x (l.map .str)) (by simp); simpa using this
  refine PureFn.of Tryz.func23 rfl (enters_call enters Tryz.func23 rfl) (by simp [Tryz.ntmps23]) ?_
  show W Tryz.prog 26 _ none _ _ _
  refine .seq (.region [] (by decide) ?_)
  simp only [EOps, EDf, isRd, gdA, callOf, isPanic, nextOf, altA, evalOp, St.ev, Av.get, St.put, argT, ofV, thenQ, Nat.reduceEqDiff, ↓reduceIte, lend, AV.hfs, AV.hf, Bool.and_self, List.map_cons, List.map_nil, List.nil_append, List.append_nil, List.getElem?_cons_zero, List.getElem?_cons_succ, List.getElem?_toArray, Option.map_some, Option.bind_some, decide_true, decide_false, beq_false, beq_true, Bool.not_true, Bool.not_false, Bool.false_eq_true, pickA, cond_true, cond_false]
  refine .seq (.seq (.region [] (by decide) ?_))
  simp only [EOps, EDf, isRd, gdA, callOf, isPanic, nextOf, altA, evalOp, St.ev, Av.get, St.put, argT, ofV, thenQ, Nat.reduceEqDiff, ↓reduceIte, lend, AV.hfs, AV.hf, Bool.and_self, List.map_cons, List.map_nil, List.nil_append, List.append_nil, List.getElem?_cons_zero, List.getElem?_cons_succ, List.getElem?_toArray, Option.map_some, Option.bind_some, decide_true, decide_false, beq_false, beq_true, Bool.not_true, Bool.not_false, Bool.false_eq_true, pickA, cond_true, cond_false, ln26, b_neq]
  by_cases hlen : l.length = m.length
  · refine .cond (t := false) (by simp [St.ev, Av.get, hlen]) (.skip ?_)
    refine .seq (.seq (.region [] (by decide) ?_))
    simp only [EOps, EDf, isRd, gdA, callOf, isPanic, nextOf, altA, evalOp, St.ev, Av.get, St.put, argT, ofV, thenQ, Nat.reduceEqDiff, ↓reduceIte, lend, AV.hfs, AV.hf, Bool.and_self, List.map_cons, List.map_nil, List.nil_append, List.append_nil, List.getElem?_cons_zero, List.getElem?_cons_succ, List.getElem?_toArray, Option.map_some, Option.bind_some, decide_true, decide_false, beq_false, beq_true, Bool.not_true, Bool.not_false, Bool.false_eq_true, pickA, cond_true, cond_false]
    refine .block ?_
    refine .forR 5 14 15 16 0 l.length hL (Nat.zero_le _) rfl rfl rfl rfl rfl rfl rfl rfl rfl (by decide)
      (fun i => [(0, .vsl 0 x (l.map .str)), (1, .vsl 0 y (m.map .str))]) (fun _ => rfl) (fun _ => []) (fun _ => Nat.zero_le _) (fun i => decide (l.drop i = m.drop i) = decide (l = m)) rfl rfl ?_ ?_ trivial ?_ ?_ ?_
    · simp only [subT, Av.get, Nat.reduceEqDiff, ↓reduceIte, Le_rfl, nat0, nat1, and_self]
    · intro i _
      simp only [hltT, AV.hlt, AV.hlts, strs_hlts, Bool.and_self, Bool.and_true, Bool.true_and]
    · intro i hi hok
      refine .region [] (by decide) ?_
      simp only [EOps, EDf, isRd, gdA, callOf, isPanic, nextOf, altA, evalOp, St.ev, Av.get, St.put, argT, ofV, thenQ, Nat.reduceEqDiff, ↓reduceIte, lend, AV.hfs, AV.hf, Bool.and_self, List.map_cons, List.map_nil, List.nil_append, List.append_nil, List.getElem?_cons_zero, List.getElem?_cons_succ, List.getElem?_toArray, Option.map_some, Option.bind_some, decide_true, decide_false, beq_false, beq_true, Bool.not_true, Bool.not_false, Bool.false_eq_true, pickA, cond_true, cond_false, ln26, b_lss, dlt]
      refine ⟨trivial, ?_, trivial, trivial⟩
      simp only [subT, Av.get, Nat.reduceEqDiff, ↓reduceIte, Le_rfl, nat0, nat1, and_self]
    · intro i hi hok
      obtain ⟨u, hu, hdu⟩ := drop_at hi
      obtain ⟨v, hv, hdv⟩ := drop_at (l := m) (i := i) (by omega)
      rw [hdu, hdv] at hok
      refine .block (.seq (.drawf [] mixed (by kernel_rfl) (by kernel_rfl) (by kernel_rfl) ?_))
      generalize hb : (u == v) = b
      cases b <;> simp only [EOps, EDf, isRd, gdA, callOf, isPanic, nextOf, altA, evalOp, St.ev, Av.get, St.put, argT, ofV, thenQ, Nat.reduceEqDiff, ↓reduceIte, lend, AV.hfs, AV.hf, Bool.and_self, List.map_cons, List.map_nil, List.nil_append, List.append_nil, List.getElem?_cons_zero, List.getElem?_cons_succ, List.getElem?_toArray, Option.map_some, Option.bind_some, decide_true, decide_false, beq_false, beq_true, Bool.not_true, Bool.not_false, Bool.false_eq_true, pickA, cond_true, cond_false, ia26 _ _ _ _ hu, ia26 _ _ _ _ hv, ld9v, s_neq, hb]
      · refine .cond (t := true) rfl (.seq (.region [] (by decide) ?_))
        simp only [EOps, EDf, isRd, gdA, callOf, isPanic, nextOf, altA, evalOp, St.ev, Av.get, St.put, argT, ofV, thenQ, Nat.reduceEqDiff, ↓reduceIte, lend, AV.hfs, AV.hf, Bool.and_self, List.map_cons, List.map_nil, List.nil_append, List.append_nil, List.getElem?_cons_zero, List.getElem?_cons_succ, List.getElem?_toArray, Option.map_some, Option.bind_some, decide_true, decide_false, beq_false, beq_true, Bool.not_true, Bool.not_false, Bool.false_eq_true, pickA, cond_true, cond_false]
        have : decide (l = m) = false := by rw [← hok]; simp at hb; simp [hb]
        rw [this]
        exact .ret ⟨_, rfl, _, rfl, .refl _⟩
      · refine .cond (t := false) rfl (.skip ?_)
        refine ⟨?_, ?_, trivial, rfl⟩
        · rw [← hok]; simp at hb; simp [hb]
        · simp only [subT, Av.get, Nat.reduceEqDiff, ↓reduceIte, Le_rfl, nat0, nat1, and_self]
    · intro hok
      simp only [EOps, EDf, isRd, gdA, callOf, isPanic, nextOf, altA, evalOp, St.ev, Av.get, St.put, argT, ofV, thenQ, Nat.reduceEqDiff, ↓reduceIte, lend, AV.hfs, AV.hf, Bool.and_self, List.map_cons, List.map_nil, List.nil_append, List.append_nil, List.getElem?_cons_zero, List.getElem?_cons_succ, List.getElem?_toArray, Option.map_some, Option.bind_some, decide_true, decide_false, beq_false, beq_true, Bool.not_true, Bool.not_false, Bool.false_eq_true, pickA, cond_true, cond_false, blockQ]
      refine .seq (.region [] (by decide) ?_)
      simp only [EOps, EDf, isRd, gdA, callOf, isPanic, nextOf, altA, evalOp, St.ev, Av.get, St.put, argT, ofV, thenQ, Nat.reduceEqDiff, ↓reduceIte, lend, AV.hfs, AV.hf, Bool.and_self, List.map_cons, List.map_nil, List.nil_append, List.append_nil, List.getElem?_cons_zero, List.getElem?_cons_succ, List.getElem?_toArray, Option.map_some, Option.bind_some, decide_true, decide_false, beq_false, beq_true, Bool.not_true, Bool.not_false, Bool.false_eq_true, pickA, cond_true, cond_false]
      have ht : decide (l = m) = true := by rw [← hok, List.drop_length, hlen, List.drop_length]; rfl
      rw [ht]
      exact .ret ⟨_, rfl, _, rfl, .refl _⟩
  · have hne : decide (l = m) = false := decide_eq_false fun h => hlen (by rw [h])
    rw [hne]
    refine .cond (t := true) (by simp [St.ev, Av.get]; omega) (.seq (.region [] (by decide) ?_))
    simp only [EOps, EDf, isRd, gdA, callOf, isPanic, nextOf, altA, evalOp, St.ev, Av.get, St.put, argT, ofV, thenQ, Nat.reduceEqDiff, ↓reduceIte, lend, AV.hfs, AV.hf, Bool.and_self, List.map_cons, List.map_nil, List.nil_append, List.append_nil, List.getElem?_cons_zero, List.getElem?_cons_succ, List.getElem?_toArray, Option.map_some, Option.bind_some, decide_true, decide_false, beq_false, beq_true, Bool.not_true, Bool.not_false, Bool.false_eq_true, pickA, cond_true, cond_false]
    exact .ret ⟨_, rfl, _, rfl, .refl _⟩

def rightC (c : List Val) : Bool := (List.range 8).all fun i => valuesB i (fld c i)
theorem range_step (p : Nat → Bool) (i n : Nat) (h : i < n) : (List.range' i (n - i)).all p = (p i && (List.range' (i + 1) (n - (i + 1))).all p) := by
  rw [show n - i = (n - (i + 1)) + 1 by omega, List.range'_succ, List.all_cons]
theorem fld_at (c : List Val) (i : Nat) (h : i < c.length) : ∃ v, c[i]? = some v ∧ fld c i = v.2 := ⟨c[i], List.getElem?_eq_getElem h, by simp [fld, List.getD, List.getElem?_eq_getElem h]⟩

end Go.Proofs.YtmeijkidjifagaaGreat
namespace Go.Proofs.YtmeijkidjifagaaGreat
set_option linter.unusedVariables false
set_option linter.unusedSimpArgs false
open Go Go.Av

def diffs (a b : List Val) (n : Nat) : List Nat := (List.range n).filter fun i => !(decide (fld a i = fld b i))
def fI64 (i : Nat) : AV := .int .i64 (i : Int)
theorem diffs_succ (a b : List Val) (n : Nat) : diffs a b (n + 1) = if (!(decide (fld a n = fld b n))) = true then diffs a b n ++ [n] else diffs a b n := by
  unfold diffs
  rw [List.range_succ, List.filter_append, List.filter_cons]
  split <;> simp
theorem diffs_len (a b : List Val) (n : Nat) : (diffs a b n).length ≤ n := by
  have := List.length_filter_le (fun i => !(decide (fld a i = fld b i))) (List.range n)
  simpa [diffs] using this
theorem ap3 : apT Tryz.prog 3 = some (1, 0, 8) := by kernel_rfl
theorem bs60 (i : Nat) : evBuildSlice Tryz.prog 60 1 [(0, .int .i64 (i : Int))] = some (.vsl 0 true [fI64 i]) := by
  simp [evBuildSlice, Tryz.underlying60, ap3, AV.cells, AV.told, List.range', fI64]
theorem ap60 (B : List OB) (L : List Nat) (i : Nat) (hb : L.length ≤ 100) : evAppend Tryz.prog 60 60 (growV B.length 0 L) (.vsl 0 true [fI64 i]) (grow B fI64 L) = some (growV B.length 0 (L ++ [i]), grow B fI64 (L ++ [i])) :=
  grow_app (wd := 0) (bytes := 8) Tryz.underlying60 ap3 B fI64 (fun _ => rfl) (fun _ => rfl) (by decide) L i true (by omega)

set_option maxRecDepth 100000 in
theorem differ32 (a b : List Val) (ha : a.length = 8) (hb : b.length = 8) : PureFn Tryz.prog 32 [.agg (a.map encV), .agg (b.map encV)] (.ret (.vsl 0 false ((diffs a b 8).map fI64))) := by
  refine PureFn.of Tryz.func32 rfl (enters_call enters Tryz.func32 rfl) (by simp [Tryz.ntmps32]) ?_
  show W Tryz.prog 24 _ none _ _ _
  refine .seq (.region [] (by decide) ?_)
  simp only [EOps, EDf, isRd, gdA, callOf, isPanic, nextOf, altA, evalOp, St.ev, Av.get, St.put, argT, ofV, thenQ, Nat.reduceEqDiff, ↓reduceIte, lend, AV.hfs, AV.hf, Bool.and_self, List.map_cons, List.map_nil, List.nil_append, List.append_nil, List.getElem?_cons_zero, List.getElem?_cons_succ, List.getElem?_toArray, Option.map_some, Option.bind_some, decide_true, decide_false, beq_false, beq_true, Bool.not_true, Bool.not_false, Bool.false_eq_true, pickA, cond_true, cond_false, encV_told, if_true, List.length_nil, cells_agg', List.length_cons, List.cons_append]
  refine .seq (.region [] (by decide) ?_)
  simp only [EOps, EDf, isRd, gdA, callOf, isPanic, nextOf, altA, evalOp, St.ev, Av.get, St.put, argT, ofV, thenQ, Nat.reduceEqDiff, ↓reduceIte, lend, AV.hfs, AV.hf, Bool.and_self, List.map_cons, List.map_nil, List.nil_append, List.append_nil, List.getElem?_cons_zero, List.getElem?_cons_succ, List.getElem?_toArray, Option.map_some, Option.bind_some, decide_true, decide_false, beq_false, beq_true, Bool.not_true, Bool.not_false, Bool.false_eq_true, pickA, cond_true, cond_false]
  refine .seq (.seq (.region [] (by decide) ?_))
  simp only [EOps, EDf, isRd, gdA, callOf, isPanic, nextOf, altA, evalOp, St.ev, Av.get, St.put, argT, ofV, thenQ, Nat.reduceEqDiff, ↓reduceIte, lend, AV.hfs, AV.hf, Bool.and_self, List.map_cons, List.map_nil, List.nil_append, List.append_nil, List.getElem?_cons_zero, List.getElem?_cons_succ, List.getElem?_toArray, Option.map_some, Option.bind_some, decide_true, decide_false, beq_false, beq_true, Bool.not_true, Bool.not_false, Bool.false_eq_true, pickA, cond_true, cond_false]
  refine .block ?_
  generalize hB : [OB.cells (a.map encV) false, OB.cells (b.map encV) false] = B
  have hBl : B.length = 2 := by rw [← hB]; rfl
  have hBh : ∀ m, B.all (OB.hlt m) = true := by intro m; rw [← hB]; simp [OB.hlt, encV_hlts]
  have hH : ∀ m L, (grow B fI64 L).all (OB.hlt m) = true := fun m L => grow_hlt (hBh m) (fun _ => rfl) L
  refine .forR 6 8 9 10 0 8 (by decide) (Nat.zero_le _) rfl rfl rfl rfl rfl rfl rfl rfl rfl (by decide)
    (fun i => [(5, growV 2 0 (diffs a b i)), (2, .ptr 0 0), (3, .ptr 1 0)]) (fun _ => rfl) (fun i => grow B fI64 (diffs a b i)) (fun _ => Nat.zero_le _) (fun i => True) rfl trivial ?_ ?_ ?_ ?_ ?_ ?_
  · simp only [subT, Av.get, Nat.reduceEqDiff, ↓reduceIte, Le_rfl, nat0, nat1, and_self, diffs, List.range_zero, List.filter_nil, growV, if_true]
  · intro i _
    have h1 : (growV 2 0 (diffs a b i)).hlt (grow B fI64 (diffs a b i)).length = true := growV_hlt _ (by rw [grow_len, hBl]; exact Nat.le_refl _)
    have h2 : 2 ≤ (grow B fI64 (diffs a b i)).length := by rw [grow_len, hBl]; omega
    simp only [hltT, h1, AV.hlt, Bool.true_and, Bool.and_true, Bool.and_eq_true, decide_eq_true_eq]
    omega
  · exact subH_self (hH _ [])
  · intro i hi hok
    refine .region [] (by decide) ?_
    have : decide ((i : Int) < 8) = decide (i < 8) := dlt i 8
    simp only [EOps, EDf, isRd, gdA, callOf, isPanic, nextOf, altA, evalOp, St.ev, Av.get, St.put, argT, ofV, thenQ, Nat.reduceEqDiff, ↓reduceIte, lend, AV.hfs, AV.hf, Bool.and_self, List.map_cons, List.map_nil, List.nil_append, List.append_nil, List.getElem?_cons_zero, List.getElem?_cons_succ, List.getElem?_toArray, Option.map_some, Option.bind_some, decide_true, decide_false, beq_false, beq_true, Bool.not_true, Bool.not_false, Bool.false_eq_true, pickA, cond_true, cond_false, b_lss, this]
    refine ⟨trivial, ?_, subH_self (hH _ _), trivial⟩
    simp only [subT, Av.get, Nat.reduceEqDiff, ↓reduceIte, Le_rfl, nat0, nat1, and_self]
  · intro i hi hok
    obtain ⟨u, hu, hfu⟩ := fld_at a i (by omega)
    obtain ⟨v, hv, hfv⟩ := fld_at b i (by omega)
    have hue : (a.map encV)[i]? = some (encV u) := by simp [hu]
    have hve : (b.map encV)[i]? = some (encV v) := by simp [hv]
    generalize hL : diffs a b i = L
    have hLl : L.length ≤ 100 := by have := diffs_len a b i; rw [hL] at this; omega
    have hld0 : evLoad Tryz.prog 26 (.ptr 0 i) (grow B fI64 L) = some (encV u) := ld26 _ 0 i _ false _ (by rw [grow_get (by omega), ← hB]; rfl) hue
    have hld1 : evLoad Tryz.prog 26 (.ptr 1 i) (grow B fI64 L) = some (encV v) := ld26 _ 1 i _ false _ (by rw [grow_get (by omega), ← hB]; rfl) hve
    have hfe : ∀ u, AV.hf (encV u) = true := fun u => by simp [encV, AV.hf, strs_hfs]
    have hsucc := diffs_succ a b i
    rw [hfu, hfv, hL] at hsucc
    have hp := texts23 u.1 v.1 u.2 v.2
    refine .block (.seq (.drawf [.pure (.ret (.bool (decide (u.2 = v.2))))] mixed (by kernel_rfl) (by kernel_rfl) (by kernel_rfl) ?_))
    simp only [EOps, EDf, isRd, gdA, callOf, isPanic, nextOf, altA, evalOp, St.ev, Av.get, St.put, argT, ofV, thenQ, Nat.reduceEqDiff, ↓reduceIte, lend, AV.hfs, AV.hf, Bool.and_self, List.map_cons, List.map_nil, List.nil_append, List.append_nil, List.getElem?_cons_zero, List.getElem?_cons_succ, List.getElem?_toArray, Option.map_some, Option.bind_some, decide_true, decide_false, beq_false, beq_true, Bool.not_true, Bool.not_false, Bool.false_eq_true, pickA, cond_true, cond_false, ia28 0 i hi, ia28 1 i hi, hld0, hld1, hfe, u_not]
    refine ⟨hp, ?_⟩
    generalize decide (u.2 = v.2) = b0 at hsucc ⊢
    cases b0 with
    | false =>
      refine .cond (t := true) rfl (.region [] (by decide) ?_)
      have hap := ap60 B L i hLl
      rw [hBl] at hap
      simp only [EOps, EDf, isRd, gdA, callOf, isPanic, nextOf, altA, evalOp, St.ev, Av.get, St.put, argT, ofV, thenQ, Nat.reduceEqDiff, ↓reduceIte, lend, AV.hfs, AV.hf, Bool.and_self, List.map_cons, List.map_nil, List.nil_append, List.append_nil, List.getElem?_cons_zero, List.getElem?_cons_succ, List.getElem?_toArray, Option.map_some, Option.bind_some, decide_true, decide_false, beq_false, beq_true, Bool.not_true, Bool.not_false, Bool.false_eq_true, pickA, cond_true, cond_false, bs60, hap]
      simp only [Bool.not_false, if_true] at hsucc
      rw [hsucc]
      refine ⟨trivial, ?_, subH_self (hH _ _), rfl⟩
      simp only [subT, Av.get, Nat.reduceEqDiff, ↓reduceIte, Le_rfl, nat0, nat1, and_self]
    | true =>
      refine .cond (t := false) rfl (.skip ?_)
      simp only [Bool.not_true, Bool.false_eq_true, if_false] at hsucc
      rw [hsucc]
      refine ⟨trivial, ?_, subH_self (hH _ _), rfl⟩
      simp only [subT, Av.get, Nat.reduceEqDiff, ↓reduceIte, Le_rfl, nat0, nat1, and_self]
  · intro hok
    simp only [EOps, EDf, isRd, gdA, callOf, isPanic, nextOf, altA, evalOp, St.ev, Av.get, St.put, argT, ofV, thenQ, Nat.reduceEqDiff, ↓reduceIte, lend, AV.hfs, AV.hf, Bool.and_self, List.map_cons, List.map_nil, List.nil_append, List.append_nil, List.getElem?_cons_zero, List.getElem?_cons_succ, List.getElem?_toArray, Option.map_some, Option.bind_some, decide_true, decide_false, beq_false, beq_true, Bool.not_true, Bool.not_false, Bool.false_eq_true, pickA, cond_true, cond_false, blockQ]
    refine .seq (.region [] (by decide) ?_)
    simp only [EOps, EDf, isRd, gdA, callOf, isPanic, nextOf, altA, evalOp, St.ev, Av.get, St.put, argT, ofV, thenQ, Nat.reduceEqDiff, ↓reduceIte, lend, AV.hfs, AV.hf, Bool.and_self, List.map_cons, List.map_nil, List.nil_append, List.append_nil, List.getElem?_cons_zero, List.getElem?_cons_succ, List.getElem?_toArray, Option.map_some, Option.bind_some, decide_true, decide_false, beq_false, beq_true, Bool.not_true, Bool.not_false, Bool.false_eq_true, pickA, cond_true, cond_false]
    obtain ⟨y, hz⟩ := grow_fz0 (B := B) (f := fI64) (k := 19) (diffs a b 8) (by
      rw [hfs_all, List.all_eq_true]; intro v hv; obtain ⟨r, _, rfl⟩ := List.mem_map.1 hv; rfl) (by
      rw [List.all_eq_true]; intro v hv; obtain ⟨r, _, rfl⟩ := List.mem_map.1 hv; rfl)
    rw [hBl] at hz
    exact .ret (retF 4 rfl rfl rfl hz (.exact _ _ _))

def sameC (a b : List Val) : Bool := ((diffs a b 8).length : Int) == 0

theorem same11 (a b : List Val) (ha : a.length = 8) (hb : b.length = 8) : PureFn Tryz.prog 11 [.agg (a.map encV), .agg (b.map encV)] (.ret (.bool (sameC a b))) := by
  refine PureFn.of Tryz.func11 rfl (enters_call enters Tryz.func11 rfl) (by simp [Tryz.ntmps11]) ?_
  show W Tryz.prog 10 _ none _ _ _
  refine .seq (.region [] (by decide) ?_)
  simp only [EOps, EDf, isRd, gdA, callOf, isPanic, nextOf, altA, evalOp, St.ev, Av.get, St.put, argT, ofV, thenQ, Nat.reduceEqDiff, ↓reduceIte, lend, AV.hfs, AV.hf, Bool.and_self, List.map_cons, List.map_nil, List.nil_append, List.append_nil, List.getElem?_cons_zero, List.getElem?_cons_succ, List.getElem?_toArray, Option.map_some, Option.bind_some, decide_true, decide_false, beq_false, beq_true, Bool.not_true, Bool.not_false, Bool.false_eq_true, pickA, cond_true, cond_false, encV_told, if_true, List.length_nil, cells_agg', List.length_cons, List.cons_append]
  have h0 := ld28 [.cells (a.map encV) false, .cells (b.map encV) false] 0 a false ha rfl
  have h1 := ld28 [.cells (a.map encV) false, .cells (b.map encV) false] 1 b false hb rfl
  have hln : ∀ H, evLen Tryz.prog 60 (.vsl 0 false ((diffs a b 8).map fI64)) H = some (.int .i64 (diffs a b 8).length) := by intro H; simp [evLen, Tryz.underlying60]
  refine .seq (.region [.pure (.ret (.vsl 0 false ((diffs a b 8).map fI64)))] (by decide) ?_)
  simp only [EOps, EDf, isRd, gdA, callOf, isPanic, nextOf, altA, evalOp, St.ev, Av.get, St.put, argT, ofV, thenQ, Nat.reduceEqDiff, ↓reduceIte, lend, AV.hfs, AV.hf, Bool.and_self, List.map_cons, List.map_nil, List.nil_append, List.append_nil, List.getElem?_cons_zero, List.getElem?_cons_succ, List.getElem?_toArray, Option.map_some, Option.bind_some, decide_true, decide_false, beq_false, beq_true, Bool.not_true, Bool.not_false, Bool.false_eq_true, pickA, cond_true, cond_false, h0, h1, encV_hfs, hln, b_eql]
  refine ⟨differ32 a b ha hb, ?_⟩
  exact .ret ⟨_, rfl, _, rfl, .refl _⟩
end Go.Proofs.YtmeijkidjifagaaGreat
