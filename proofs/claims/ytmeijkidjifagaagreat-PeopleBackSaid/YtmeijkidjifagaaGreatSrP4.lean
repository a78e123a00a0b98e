/- Contracts of functions that the statements of this seat reach: under the conditions named at each theorem. -/
import Derived.Test.YtmeijkidjifagaaGreatSrP3
namespace Go.Proofs.YtmeijkidjifagaaGreat
set_option linter.unusedVariables false
set_option linter.unusedSimpArgs false
open Go Go.Av

def mostI (f : Int) : Int := if f ≥ 6 then 8 else 1
def okC (f : Int) (x : UInt8) : Bool := !(decide ((x.toNat : Int) < 32) && ((x.toNat : Int) != 10 || f != 5))
def valB (f : Int) (s : Bytes) : Bool := s.all (okC f) && (!decide ((s.length : Int) < 1) && !decide ((s.length : Int) > 200))
def fieldB (f : Int) (l : List Bytes) : Bool := !decide ((l.length : Int) > mostI f) && l.all (valB f) && risesB l
def valuesB (f : Int) (l : List Bytes) : Bool := !(decide ((l.length : Int) > mostI f) || (f == 0 && ((l.length : Int) != 1))) && (l.all (valB f) && risesB l)

theorem most53 (f : Int) : PureFn Tryz.prog 53 [.int .i64 f] (.ret (.int .i64 (mostI f))) := by
  refine PureFn.of Tryz.func53 rfl (enters_call enters Tryz.func53 rfl) (by simp [Tryz.ntmps53]) ?_
  show W Tryz.prog 5 _ none _ _ _
  refine .seq (.region [] (by decide) ?_)
  simp only [EOps, EDf, isRd, gdA, callOf, isPanic, nextOf, altA, evalOp, St.ev, Av.get, St.put, argT, ofV, thenQ, Nat.reduceEqDiff, ↓reduceIte, lend, AV.hfs, AV.hf, Bool.and_self, List.map_cons, List.map_nil, List.nil_append, List.append_nil, List.getElem?_cons_zero, List.getElem?_cons_succ, List.getElem?_toArray, Option.map_some, Option.bind_some, decide_true, decide_false, beq_false, beq_true, Bool.not_true, Bool.not_false, Bool.false_eq_true, pickA, cond_true, cond_false]
  refine .seq (.seq (.region [] (by decide) ?_))
  simp only [EOps, EDf, isRd, gdA, callOf, isPanic, nextOf, altA, evalOp, St.ev, Av.get, St.put, argT, ofV, thenQ, Nat.reduceEqDiff, ↓reduceIte, lend, AV.hfs, AV.hf, Bool.and_self, List.map_cons, List.map_nil, List.nil_append, List.append_nil, List.getElem?_cons_zero, List.getElem?_cons_succ, List.getElem?_toArray, Option.map_some, Option.bind_some, decide_true, decide_false, beq_false, beq_true, Bool.not_true, Bool.not_false, Bool.false_eq_true, pickA, cond_true, cond_false, b_geq]
  unfold mostI
  by_cases h : f ≥ 6
  · rw [if_pos h]
    refine .cond (t := true) (by simp [St.ev, Av.get, h]) (.seq (.region [] (by decide) ?_))
    simp only [EOps, EDf, isRd, gdA, callOf, isPanic, nextOf, altA, evalOp, St.ev, Av.get, St.put, argT, ofV, thenQ, Nat.reduceEqDiff, ↓reduceIte, lend, AV.hfs, AV.hf, Bool.and_self, List.map_cons, List.map_nil, List.nil_append, List.append_nil, List.getElem?_cons_zero, List.getElem?_cons_succ, List.getElem?_toArray, Option.map_some, Option.bind_some, decide_true, decide_false, beq_false, beq_true, Bool.not_true, Bool.not_false, Bool.false_eq_true, pickA, cond_true, cond_false]
    exact .ret ⟨_, rfl, _, rfl, .refl _⟩
  · rw [if_neg h]
    refine .cond (t := false) (by simp [St.ev, Av.get]; omega) (.skip ?_)
    refine .seq (.region [] (by decide) ?_)
    simp only [EOps, EDf, isRd, gdA, callOf, isPanic, nextOf, altA, evalOp, St.ev, Av.get, St.put, argT, ofV, thenQ, Nat.reduceEqDiff, ↓reduceIte, lend, AV.hfs, AV.hf, Bool.and_self, List.map_cons, List.map_nil, List.nil_append, List.append_nil, List.getElem?_cons_zero, List.getElem?_cons_succ, List.getElem?_toArray, Option.map_some, Option.bind_some, decide_true, decide_false, beq_false, beq_true, Bool.not_true, Bool.not_false, Bool.false_eq_true, pickA, cond_true, cond_false]
    exact .ret ⟨_, rfl, _, rfl, .refl _⟩

theorem rises_short (l : List Bytes) (h : l.length ≤ 1) : risesB l = true := by
  rcases l with _ | ⟨a, _ | ⟨b, l⟩⟩
  · rfl
  · rfl
  · simp at h

end Go.Proofs.YtmeijkidjifagaaGreat
namespace Go.Proofs.YtmeijkidjifagaaGreat
set_option linter.unusedVariables false
set_option linter.unusedSimpArgs false
open Go Go.Av

theorem value52 (f : Int) : PureFn Tryz.prog 52 [.int .i64 f] (.ret (.func (.func 78) [] [.vptr [.int .i64 f]])) := by
  refine PureFn.of Tryz.func52 rfl (enters_call enters Tryz.func52 rfl) (by simp [Tryz.ntmps52]) ?_
  show W Tryz.prog 4 _ none _ _ _
  refine .seq (.region [] (by decide) ?_)
  simp only [EOps, EDf, isRd, gdA, callOf, isPanic, nextOf, altA, evalOp, St.ev, Av.get, St.put, argT, ofV, thenQ, Nat.reduceEqDiff, ↓reduceIte, lend, AV.hfs, AV.hf, Bool.and_self, List.map_cons, List.map_nil, List.nil_append, List.append_nil, List.getElem?_cons_zero, List.getElem?_cons_succ, List.getElem?_toArray, Option.map_some, Option.bind_some, decide_true, decide_false, beq_false, beq_true, Bool.not_true, Bool.not_false, Bool.false_eq_true, pickA, cond_true, cond_false, AV.told, if_true, AV.cells]
  refine .seq (.region [] (by decide) ?_)
  simp only [EOps, EDf, isRd, gdA, callOf, isPanic, nextOf, altA, evalOp, St.ev, Av.get, St.put, argT, ofV, thenQ, Nat.reduceEqDiff, ↓reduceIte, lend, AV.hfs, AV.hf, Bool.and_self, List.map_cons, List.map_nil, List.nil_append, List.append_nil, List.getElem?_cons_zero, List.getElem?_cons_succ, List.getElem?_toArray, Option.map_some, Option.bind_some, decide_true, decide_false, beq_false, beq_true, Bool.not_true, Bool.not_false, Bool.false_eq_true, pickA, cond_true, cond_false]
  exact .ret ⟨_, rfl, _, rfl, .refl _⟩

theorem tz3 : tsz Tryz.prog 3 = some 1 := by kernel_rfl
theorem tg3 : tag Tryz.prog 3 = some false := by kernel_rfl
theorem ld3v (v : AV) (H : List OB) : evLoad Tryz.prog 3 (.vptr [v]) H = some v := by
  simp [evLoad, tz3, tg3, ldA]

set_option maxRecDepth 100000 in
theorem value78 (f : Int) (s : Bytes) : PureFn Tryz.prog 78 [.str s, .vptr [.int .i64 f]] (.ret (.bool (valB f s))) := by
  refine PureFn.fit fun hfit => ?_
  have hL : s.length ≤ maxLen' := hfit (.str s) (by simp)
  refine PureFn.of Tryz.func78 rfl (enters_call enters Tryz.func78 rfl) (by simp [Tryz.ntmps78]) ?_
  show W Tryz.prog 32 _ none _ _ _
  refine .seq (.region [] (by decide) ?_)
  simp only [EOps, EDf, isRd, gdA, callOf, isPanic, nextOf, altA, evalOp, St.ev, Av.get, St.put, argT, ofV, thenQ, Nat.reduceEqDiff, ↓reduceIte, lend, AV.hfs, AV.hf, Bool.and_self, List.map_cons, List.map_nil, List.nil_append, List.append_nil, List.getElem?_cons_zero, List.getElem?_cons_succ, List.getElem?_toArray, Option.map_some, Option.bind_some, decide_true, decide_false, beq_false, beq_true, Bool.not_true, Bool.not_false, Bool.false_eq_true, pickA, cond_true, cond_false]
  refine .seq (.seq (.region [] (by decide) ?_))
  simp only [EOps, EDf, isRd, gdA, callOf, isPanic, nextOf, altA, evalOp, St.ev, Av.get, St.put, argT, ofV, thenQ, Nat.reduceEqDiff, ↓reduceIte, lend, AV.hfs, AV.hf, Bool.and_self, List.map_cons, List.map_nil, List.nil_append, List.append_nil, List.getElem?_cons_zero, List.getElem?_cons_succ, List.getElem?_toArray, Option.map_some, Option.bind_some, decide_true, decide_false, beq_false, beq_true, Bool.not_true, Bool.not_false, Bool.false_eq_true, pickA, cond_true, cond_false, cv46, ln46]
  refine .block ?_
  refine .forG 9 8 10 23 s.length hL rfl rfl rfl rfl rfl rfl rfl rfl rfl (by decide) (by decide) (by decide)
    (fun i => [(7, .sl 0 0 s.length 0), (0, .str s), (1, .vptr [.int .i64 f])]) (fun _ => rfl) (fun _ => [.cells (bytesA s) true]) (fun _ => Nat.zero_le _) (fun i => (s.drop i).all (okC f) = s.all (okC f))
    rfl rfl ?_ ?_ ?_ ?_ ?_
  · simp only [subT, Av.get, Nat.reduceEqDiff, ↓reduceIte, Le_rfl, nat0, nat1, and_self]
  · intro i _
    simp only [hltT, AV.hlt, AV.hlts, strs_hlts, Bool.and_self, Bool.and_true, Bool.true_and]
    rfl
  · refine ⟨rfl, ?_, trivial⟩
    simp only [OB.hlt, hlts_all, List.all_eq_true]
    intro v hv
    obtain ⟨b, _, rfl⟩ := List.mem_map.1 hv
    rfl
  · intro i hi hok
    obtain ⟨c, hc, hdrop⟩ := drop_at hi
    rw [hdrop, List.all_cons, okC] at hok
    generalize e1 : decide ((c.toNat : Int) < 32) = c1 at hok
    generalize e2 : ((c.toNat : Int) != 10) = c2 at hok
    generalize e3 : (f != 5) = c3 at hok
    have bad : (!(c1 && (c2 || c3))) = false → valB f s = false := by
      intro h; rw [h] at hok; unfold valB; rw [← hok]; rfl
    refine .block (.seq (.region [] (by decide) ?_))
    simp only [EOps, EDf, isRd, gdA, callOf, isPanic, nextOf, altA, evalOp, St.ev, Av.get, St.put, argT, ofV, thenQ, Nat.reduceEqDiff, ↓reduceIte, lend, AV.hfs, AV.hf, Bool.and_self, List.map_cons, List.map_nil, List.nil_append, List.append_nil, List.getElem?_cons_zero, List.getElem?_cons_succ, List.getElem?_toArray, Option.map_some, Option.bind_some, decide_true, decide_false, beq_false, beq_true, Bool.not_true, Bool.not_false, Bool.false_eq_true, pickA, cond_true, cond_false, ia46 _ _ hi, ld5b s i c hc]
    refine .seq (.region [] (by decide) ?_)
    cases c1 <;> cases c2 <;> cases c3 <;> simp only [EOps, EDf, isRd, gdA, callOf, isPanic, nextOf, altA, evalOp, St.ev, Av.get, St.put, argT, ofV, thenQ, Nat.reduceEqDiff, ↓reduceIte, lend, AV.hfs, AV.hf, Bool.and_self, List.map_cons, List.map_nil, List.nil_append, List.append_nil, List.getElem?_cons_zero, List.getElem?_cons_succ, List.getElem?_toArray, Option.map_some, Option.bind_some, decide_true, decide_false, beq_false, beq_true, Bool.not_true, Bool.not_false, Bool.false_eq_true, pickA, cond_true, cond_false, b_lss, b_neq, e1, e2, e3, ld3v]
    case true.true.true | true.true.false | true.false.true =>
      refine .cond (t := true) rfl (.seq (.region [] (by decide) ?_))
      simp only [EOps, EDf, isRd, gdA, callOf, isPanic, nextOf, altA, evalOp, St.ev, Av.get, St.put, argT, ofV, thenQ, Nat.reduceEqDiff, ↓reduceIte, lend, AV.hfs, AV.hf, Bool.and_self, List.map_cons, List.map_nil, List.nil_append, List.append_nil, List.getElem?_cons_zero, List.getElem?_cons_succ, List.getElem?_toArray, Option.map_some, Option.bind_some, decide_true, decide_false, beq_false, beq_true, Bool.not_true, Bool.not_false, Bool.false_eq_true, pickA, cond_true, cond_false]
      rw [bad rfl]
      exact .ret ⟨_, rfl, _, rfl, .refl _⟩
    all_goals
      refine .cond (t := false) rfl (.skip ?_)
      refine ⟨by rw [← hok]; rfl, ?_, ⟨rfl, ?_, trivial⟩, rfl⟩
      · simp only [subT, Av.get, Nat.reduceEqDiff, ↓reduceIte, Le_rfl, nat0, nat1, and_self]
      · simp only [OB.hlt, hlts_all, List.all_eq_true]
        intro v hv
        obtain ⟨b, _, rfl⟩ := List.mem_map.1 hv
        rfl
  · intro hok
    rw [List.drop_length] at hok
    simp only [EOps, EDf, isRd, gdA, callOf, isPanic, nextOf, altA, evalOp, St.ev, Av.get, St.put, argT, ofV, thenQ, Nat.reduceEqDiff, ↓reduceIte, lend, AV.hfs, AV.hf, Bool.and_self, List.map_cons, List.map_nil, List.nil_append, List.append_nil, List.getElem?_cons_zero, List.getElem?_cons_succ, List.getElem?_toArray, Option.map_some, Option.bind_some, decide_true, decide_false, beq_false, beq_true, Bool.not_true, Bool.not_false, Bool.false_eq_true, pickA, cond_true, cond_false, blockQ]
    refine .seq (.region [] (by decide) ?_)
    have hv : valB f s = (!decide ((s.length : Int) < 1) && !decide ((s.length : Int) > 200)) := by unfold valB; rw [← hok]; rfl
    rw [hv]
    have h1 := nlt (s.length : Int) 1
    have h2 := nle (s.length : Int) 200
    generalize decide ((s.length : Int) < 1) = b1 at *
    generalize decide ((s.length : Int) > 200) = b2 at *
    cases b1 <;> cases b2 <;> simp only [EOps, EDf, isRd, gdA, callOf, isPanic, nextOf, altA, evalOp, St.ev, Av.get, St.put, argT, ofV, thenQ, Nat.reduceEqDiff, ↓reduceIte, lend, AV.hfs, AV.hf, Bool.and_self, List.map_cons, List.map_nil, List.nil_append, List.append_nil, List.getElem?_cons_zero, List.getElem?_cons_succ, List.getElem?_toArray, Option.map_some, Option.bind_some, decide_true, decide_false, beq_false, beq_true, Bool.not_true, Bool.not_false, Bool.false_eq_true, pickA, cond_true, cond_false, ln9, b_geq, b_leq, h1, h2] <;> exact .ret ⟨_, rfl, _, rfl, .refl _⟩

theorem tz73 : tsz Tryz.prog 73 = some 1 := by kernel_rfl
theorem tg73 : tag Tryz.prog 73 = some false := by kernel_rfl
theorem ld73v (v : AV) (H : List OB) : evLoad Tryz.prog 73 (.vptr [v]) H = some v := by
  simp [evLoad, tz73, tg73, ldA]

theorem check55 (f : Int) (s : Bytes) : PureFn Tryz.prog 55 [.str s, .vptr [.func (.func 78) [] [.vptr [.int .i64 f]]]] (.ret (.bool !(valB f s))) := by
  refine PureFn.of Tryz.func55 rfl (enters_call enters Tryz.func55 rfl) (by simp [Tryz.ntmps55]) ?_
  show W Tryz.prog 8 _ none _ _ _
  refine .seq (.region [] (by decide) ?_)
  simp only [EOps, EDf, isRd, gdA, callOf, isPanic, nextOf, altA, evalOp, St.ev, Av.get, St.put, argT, ofV, thenQ, Nat.reduceEqDiff, ↓reduceIte, lend, AV.hfs, AV.hf, Bool.and_self, List.map_cons, List.map_nil, List.nil_append, List.append_nil, List.getElem?_cons_zero, List.getElem?_cons_succ, List.getElem?_toArray, Option.map_some, Option.bind_some, decide_true, decide_false, beq_false, beq_true, Bool.not_true, Bool.not_false, Bool.false_eq_true, pickA, cond_true, cond_false]
  refine .seq (.region [.pure (.ret (.bool (valB f s)))] (by decide) ?_)
  simp only [EOps, EDf, isRd, gdA, callOf, isPanic, nextOf, altA, evalOp, St.ev, Av.get, St.put, argT, ofV, thenQ, Nat.reduceEqDiff, ↓reduceIte, lend, AV.hfs, AV.hf, Bool.and_self, List.map_cons, List.map_nil, List.nil_append, List.append_nil, List.getElem?_cons_zero, List.getElem?_cons_succ, List.getElem?_toArray, Option.map_some, Option.bind_some, decide_true, decide_false, beq_false, beq_true, Bool.not_true, Bool.not_false, Bool.false_eq_true, pickA, cond_true, cond_false, ld73v, u_not, List.cons_append]
  refine ⟨value78 f s, ?_⟩
  exact .ret ⟨_, rfl, _, rfl, .refl _⟩

/-- Values of a field: whether their slice has no room behind, they. -/
abbrev Val := Bool × List Bytes
def encV (v : Val) : AV := .vsl 0 v.1 (v.2.map .str)
theorem encV_hfs (c : List Val) : AV.hfs (c.map encV) = true := by
  rw [hfs_all, List.all_eq_true]; intro v hv; obtain ⟨r, _, rfl⟩ := List.mem_map.1 hv; simp [encV, AV.hf, strs_hfs]
theorem encV_hlts (m : Nat) (c : List Val) : AV.hlts m (c.map encV) = true := hfs_hlts (encV_hfs c)
theorem encV_one (c : List Val) : (c.map encV).all AV.one = true := by
  rw [List.all_eq_true]; intro v hv; obtain ⟨r, _, rfl⟩ := List.mem_map.1 hv; rfl

theorem all77 (x : Bool) (c : List Val) : PureFn Tryz.prog 77 [.vsl 0 x (c.map encV)] (.ret (.func (.func 100) [] [.vptr [.vsl 0 x (c.map encV)]])) := by
  refine PureFn.of Tryz.func77 rfl (enters_call enters Tryz.func77 rfl) (by simp [Tryz.ntmps77]) ?_
  show W Tryz.prog 4 _ none _ _ _
  refine .seq (.region [] (by decide) ?_)
  simp only [EOps, EDf, isRd, gdA, callOf, isPanic, nextOf, altA, evalOp, St.ev, Av.get, St.put, argT, ofV, thenQ, Nat.reduceEqDiff, ↓reduceIte, lend, AV.hfs, AV.hf, Bool.and_self, List.map_cons, List.map_nil, List.nil_append, List.append_nil, List.getElem?_cons_zero, List.getElem?_cons_succ, List.getElem?_toArray, Option.map_some, Option.bind_some, decide_true, decide_false, beq_false, beq_true, Bool.not_true, Bool.not_false, Bool.false_eq_true, pickA, cond_true, cond_false, AV.told, if_true, AV.cells]
  refine .seq (.region [] (by decide) ?_)
  simp only [EOps, EDf, isRd, gdA, callOf, isPanic, nextOf, altA, evalOp, St.ev, Av.get, St.put, argT, ofV, thenQ, Nat.reduceEqDiff, ↓reduceIte, lend, AV.hfs, AV.hf, Bool.and_self, List.map_cons, List.map_nil, List.nil_append, List.append_nil, List.getElem?_cons_zero, List.getElem?_cons_succ, List.getElem?_toArray, Option.map_some, Option.bind_some, decide_true, decide_false, beq_false, beq_true, Bool.not_true, Bool.not_false, Bool.false_eq_true, pickA, cond_true, cond_false]
  have hh : AV.hf (.vsl 0 x (c.map encV)) = true := by simp [AV.hf, encV_hfs]
  have hz : fz [.cells [.vsl 0 x (c.map encV)] false] 20 (.func (.func 100) [] [.ptr 0 0]) = some (.func (.func 100) [] [.vptr [.vsl 0 x (c.map encV)]]) := by
    have h1 : fz [.cells [.vsl 0 x (c.map encV)] false] 19 (.ptr 0 0) = some (.vptr [.vsl 0 x (c.map encV)]) := by
      unfold fz
      rw [if_neg (by simp [AV.hf])]
      simp [AV.hfs, hh]
    unfold fz
    rw [if_neg (by simp [AV.hf, AV.hfs])]
    simp [AV.hfs, AV.hf, h1]
  exact .ret (retF 2 rfl rfl rfl hz (.refl _))
end Go.Proofs.YtmeijkidjifagaaGreat
namespace Go.Proofs.YtmeijkidjifagaaGreat
set_option linter.unusedVariables false
set_option linter.unusedSimpArgs false
open Go Go.Av

theorem arr28 : arrOf Tryz.prog 28 = some (8, 26) := by kernel_rfl
theorem esA26 : esA Tryz.prog 26 = some 0 := by kernel_rfl
theorem sl28 (c : List Val) (hc : c.length = 8) : evSliceArr Tryz.prog 28 (.ptr 0 0) [.cells (c.map encV) false] = some (.sl 0 0 8 0) := by
  have : 8 ≤ maxLen' := by decide
  simp [evSliceArr, arr28, tz26, esA26, hc, esz, this]
theorem fz_arr (c : List Val) (hc : c.length = 8) (H : List OB) (k : Nat) (b : Bool) (h : H[0]? = some (.cells (c.map encV) b)) : fz H (k + 1) (.sl 0 0 8 0) = some (.vsl 0 false (c.map encV)) := by
  have ht : ((c.map encV).drop 0).take 8 = c.map encV := by rw [List.drop_zero, List.take_of_length_le (by simp [hc])]
  rw [fz_sl0 h (by simp [hc]) (by rw [ht]; exact encV_hfs c) (by rw [ht]; exact encV_one c), ht]

theorem fields51 (c : List Val) (hc : c.length = 8) : PureFn Tryz.prog 51 [.agg (c.map encV)] (.ret (.func (.func 100) [] [.vptr [.vsl 0 false (c.map encV)]])) := by
  refine PureFn.of Tryz.func51 rfl (enters_call enters Tryz.func51 rfl) (by simp [Tryz.ntmps51]) ?_
  show W Tryz.prog 5 _ none _ _ _
  refine .seq (.region [] (by decide) ?_)
  simp only [EOps, EDf, isRd, gdA, callOf, isPanic, nextOf, altA, evalOp, St.ev, Av.get, St.put, argT, ofV, thenQ, Nat.reduceEqDiff, ↓reduceIte, lend, AV.hfs, AV.hf, Bool.and_self, List.map_cons, List.map_nil, List.nil_append, List.append_nil, List.getElem?_cons_zero, List.getElem?_cons_succ, List.getElem?_toArray, Option.map_some, Option.bind_some, decide_true, decide_false, beq_false, beq_true, Bool.not_true, Bool.not_false, Bool.false_eq_true, pickA, cond_true, cond_false, AV.told, if_true, AV.cells, List.length_nil]
  have hs := sl28 c hc
  have he : evSlice Tryz.prog 28 (.ptr 0 0) none none none = none := by simp [evSlice, Tryz.underlying28]
  refine .seq (.region [.sh (.ret (.func (.func 100) [] [.vptr [.vsl 0 false (c.map encV)]])) [.dead]] (by decide) ?_)
  simp only [EOps, EDf, isRd, gdA, callOf, isPanic, nextOf, altA, evalOp, St.ev, Av.get, St.put, argT, ofV, thenQ, Nat.reduceEqDiff, ↓reduceIte, lend, AV.hfs, AV.hf, Bool.and_self, List.map_cons, List.map_nil, List.nil_append, List.append_nil, List.getElem?_cons_zero, List.getElem?_cons_succ, List.getElem?_toArray, Option.map_some, Option.bind_some, decide_true, decide_false, beq_false, beq_true, Bool.not_true, Bool.not_false, Bool.false_eq_true, pickA, cond_true, cond_false, hs, he, Option.map_none, ClOK]
  refine ⟨PureFn.give (args := [.sl 0 0 8 0]) (args' := [.vsl 0 false (c.map encV)]) (H := [.cells (c.map encV) false]) [0] ?_ (all77 false c), ?_⟩
  · simp [fz_arr c hc (keepS [0] 0 [.cells (c.map encV) false]) 19 false rfl]
  · exact .ret (retT 2 rfl rfl rfl (by simp [Av.get, AV.hf, AV.hfs, encV_hfs]) (.refl _))

/-- slices.All's function: so long as it is told to go on. -/
def goOn (p : Nat → Bool) : Nat → List AV → Bool
  | _, [] => true
  | i, v :: l => p i && goOn p (i + 1) l

theorem goOn_range (p : Nat → Bool) : ∀ (l : List AV) (i : Nat), goOn p i l = (List.range' i l.length).all p
  | [], _ => rfl
  | v :: l, i => by simp only [goOn, List.length_cons, List.range'_succ, List.all_cons, goOn_range p l (i + 1)]

theorem tz108 : tsz Tryz.prog 108 = some 1 := by kernel_rfl
theorem tg108 : tag Tryz.prog 108 = some false := by kernel_rfl

theorem all100 (yid : Nat) (x : Bool) (es : List AV) (hes : es.all AV.one = true) (hL : es.length ≤ maxLen') (p : Nat → Bool) (H : List OB) (J B : List OB → Prop) (hJ : J H) (hmono : ∀ K, J K → H.length ≤ K.length)
    (hstep : ∀ i v K, es[i]? = some v → J K → ∃ K', (p i = true ∧ YFn Tryz.prog yid [.int .i64 (i : Int), v] K (.ret (.bool true)) K' ∧ J K') ∨ (p i = false ∧ YFn Tryz.prog yid [.int .i64 (i : Int), v] K (.ret (.bool false)) K' ∧ B K')) :
    ShFnS Tryz.prog 100 [.yld yid, .vptr [.vsl 0 x es]] H (fun out K => out = .ret (.tup []) ∧ ((goOn p 0 es = true ∧ J K) ∨ (goOn p 0 es = false ∧ B K))) := by
  refine ShFnS.ofX Tryz.func100 rfl (enters_call enters Tryz.func100 rfl) (by simp [Tryz.ntmps100]) ?_
  show W Tryz.prog 18 _ none _ _ _
  have hld : ∀ K, evLoad Tryz.prog 108 (.vptr [.vsl 0 x es]) K = some (.vsl 0 x es) := by intro K; simp [evLoad, tz108, tg108, ldA]
  have hln : ∀ K, evLen Tryz.prog 108 (.vsl 0 x es) K = some (.int .i64 es.length) := by intro K; simp [evLen, Tryz.underlying108]
  refine .seq (.region [] (by decide) ?_)
  simp only [EOps, EDf, isRd, gdA, callOf, isPanic, nextOf, altA, evalOp, St.ev, Av.get, St.put, argT, ofV, thenQ, Nat.reduceEqDiff, ↓reduceIte, lend, AV.hfs, AV.hf, Bool.and_self, List.map_cons, List.map_nil, List.nil_append, List.append_nil, List.getElem?_cons_zero, List.getElem?_cons_succ, List.getElem?_toArray, Option.map_some, Option.bind_some, decide_true, decide_false, beq_false, beq_true, Bool.not_true, Bool.not_false, Bool.false_eq_true, pickA, cond_true, cond_false, hld, hln]
  refine .block ?_
  refine .loop (X := Nat) (fun i a => Av.get a.T 0 = .yld yid ∧ Av.get a.T 5 = .vsl 0 x es ∧ Av.get a.T 6 = .int .i64 es.length ∧ Av.get a.T 7 = .int .i64 (i : Int) ∧ J a.H ∧ i ≤ es.length ∧ goOn p i (es.drop i) = goOn p 0 es ∧ a.D = []) (fun i => es.length - i) 0 ⟨rfl, rfl, rfl, rfl, hJ, Nat.zero_le _, rfl, rfl⟩ ?_
  rintro i ⟨T, K, D⟩ ⟨h0, h5, h6, h7, hK, hi, hg, rfl⟩
  simp only at h0 h5 h6 h7 hK
  refine .seq (.region [] (by decide) ?_)
  simp only [EOps, EDf, isRd, gdA, callOf, isPanic, nextOf, altA, evalOp, St.ev, Av.get, St.put, argT, ofV, thenQ, Nat.reduceEqDiff, ↓reduceIte, lend, AV.hfs, AV.hf, Bool.and_self, List.map_cons, List.map_nil, List.nil_append, List.append_nil, List.getElem?_cons_zero, List.getElem?_cons_succ, List.getElem?_toArray, Option.map_some, Option.bind_some, decide_true, decide_false, beq_false, beq_true, Bool.not_true, Bool.not_false, Bool.false_eq_true, pickA, cond_true, cond_false, h0, h5, h6, h7, b_lss, dlt]
  by_cases h : i < es.length
  · obtain ⟨v, hv, hdrop⟩ := drop_at h
    have hone : v.one = true := List.all_eq_true.1 hes v (List.mem_of_getElem? hv)
    rw [hdrop, goOn] at hg
    have hia : ∀ K, evIndexAddr Tryz.prog 108 (.vsl 0 x es) (.int .i64 (i : Int)) K = some (.vptr v.cells) := by
      intro K
      simp [evIndexAddr, idx_nat, Tryz.underlying108, tz26, hv, one_cells hone]
    have hlv : ∀ K, evLoad Tryz.prog 26 (.vptr v.cells) K = some v := by
      intro K
      rw [one_cells hone]; simp [evLoad, tz26, tg26, ldA]
    refine .seq (.cond (t := true) (by simp [St.ev, Av.get, h]) (.skip ?_))
    simp only [thenQ]
    refine .seq (.block (.seq (.region [] (by decide) ?_)))
    simp only [EOps, EDf, isRd, gdA, callOf, isPanic, nextOf, altA, evalOp, St.ev, Av.get, St.put, argT, ofV, thenQ, Nat.reduceEqDiff, ↓reduceIte, lend, AV.hfs, AV.hf, Bool.and_self, List.map_cons, List.map_nil, List.nil_append, List.append_nil, List.getElem?_cons_zero, List.getElem?_cons_succ, List.getElem?_toArray, Option.map_some, Option.bind_some, decide_true, decide_false, beq_false, beq_true, Bool.not_true, Bool.not_false, Bool.false_eq_true, pickA, cond_true, cond_false, h0, h5, h6, h7, hia, hlv]
    obtain ⟨K', hstep'⟩ := hstep i v K hv hK
    rcases hstep' with ⟨hp, hy, hJ'⟩ | ⟨hp, hy, hB⟩
    · refine .seq (.region [.sh (.ret (.bool true)) K'] (by decide) ?_)
      simp only [EOps, EDf, isRd, gdA, callOf, isPanic, nextOf, altA, evalOp, St.ev, Av.get, St.put, argT, ofV, thenQ, Nat.reduceEqDiff, ↓reduceIte, lend, AV.hfs, AV.hf, Bool.and_self, List.map_cons, List.map_nil, List.nil_append, List.append_nil, List.getElem?_cons_zero, List.getElem?_cons_succ, List.getElem?_toArray, Option.map_some, Option.bind_some, decide_true, decide_false, beq_false, beq_true, Bool.not_true, Bool.not_false, Bool.false_eq_true, pickA, cond_true, cond_false, h0, h5, h6, h7, ClOK, u_not]
      refine ⟨hy, ?_⟩
      refine .cond (t := false) rfl (.skip ?_)
      simp only [EOps, EDf, isRd, gdA, callOf, isPanic, nextOf, altA, evalOp, St.ev, Av.get, St.put, argT, ofV, thenQ, Nat.reduceEqDiff, ↓reduceIte, lend, AV.hfs, AV.hf, Bool.and_self, List.map_cons, List.map_nil, List.nil_append, List.append_nil, List.getElem?_cons_zero, List.getElem?_cons_succ, List.getElem?_toArray, Option.map_some, Option.bind_some, decide_true, decide_false, beq_false, beq_true, Bool.not_true, Bool.not_false, Bool.false_eq_true, pickA, cond_true, cond_false, blockQ]
      refine .region [] (by decide) ?_
      have hadd : evBin Tryz.prog .add 3 (.int .i64 (i : Int)) (.int .i64 1) = some (.int .i64 ((i + 1 : Nat) : Int)) := by
        rw [b_add64 _ _ (by simp only [maxLen'] at hL; omega)]; simp
      simp only [EOps, EDf, isRd, gdA, callOf, isPanic, nextOf, altA, evalOp, St.ev, Av.get, St.put, argT, ofV, thenQ, Nat.reduceEqDiff, ↓reduceIte, lend, AV.hfs, AV.hf, Bool.and_self, List.map_cons, List.map_nil, List.nil_append, List.append_nil, List.getElem?_cons_zero, List.getElem?_cons_succ, List.getElem?_toArray, Option.map_some, Option.bind_some, decide_true, decide_false, beq_false, beq_true, Bool.not_true, Bool.not_false, Bool.false_eq_true, pickA, cond_true, cond_false, h0, h5, h6, h7, hadd]
      refine ⟨i + 1, ⟨trivial, trivial, trivial, rfl, hJ', h, ?_, trivial⟩, by omega⟩
      rw [← hg, hp, Bool.true_and]
    · refine .seq (.region [.sh (.ret (.bool false)) K'] (by decide) ?_)
      simp only [EOps, EDf, isRd, gdA, callOf, isPanic, nextOf, altA, evalOp, St.ev, Av.get, St.put, argT, ofV, thenQ, Nat.reduceEqDiff, ↓reduceIte, lend, AV.hfs, AV.hf, Bool.and_self, List.map_cons, List.map_nil, List.nil_append, List.append_nil, List.getElem?_cons_zero, List.getElem?_cons_succ, List.getElem?_toArray, Option.map_some, Option.bind_some, decide_true, decide_false, beq_false, beq_true, Bool.not_true, Bool.not_false, Bool.false_eq_true, pickA, cond_true, cond_false, h0, h5, h6, h7, ClOK, u_not]
      refine ⟨hy, ?_⟩
      refine .cond (t := true) rfl (.ret ?_)
      refine ⟨_, _, ⟨rfl, .inr ⟨?_, hB⟩⟩, _, rfl, rfl, _, rfl, rfl⟩
      rw [← hg, hp, Bool.false_and]
  · have hi' : i = es.length := by omega
    subst hi'
    refine .seq (.cond (t := false) (by simp [St.ev, Av.get]) (.exit ?_))
    simp only [EOps, EDf, isRd, gdA, callOf, isPanic, nextOf, altA, evalOp, St.ev, Av.get, St.put, argT, ofV, thenQ, Nat.reduceEqDiff, ↓reduceIte, lend, AV.hfs, AV.hf, Bool.and_self, List.map_cons, List.map_nil, List.nil_append, List.append_nil, List.getElem?_cons_zero, List.getElem?_cons_succ, List.getElem?_toArray, Option.map_some, Option.bind_some, decide_true, decide_false, beq_false, beq_true, Bool.not_true, Bool.not_false, Bool.false_eq_true, pickA, cond_true, cond_false, blockQ]
    refine ⟨_, _, ⟨rfl, .inl ⟨?_, hK⟩⟩, _, rfl, rfl, _, rfl, rfl⟩
    rw [← hg, List.drop_length]; rfl
end Go.Proofs.YtmeijkidjifagaaGreat
namespace Go.Proofs.YtmeijkidjifagaaGreat
set_option linter.unusedVariables false
set_option linter.unusedSimpArgs false
open Go Go.Av

def fld (c : List Val) (i : Nat) : List Bytes := (c.getD i (true, [])).2
def allFields (c : List Val) : Bool := (List.range 8).all fun i => fieldB i (fld c i)
def checkC (c : List Val) : Bool := allFields c && !(((fld c 0).length : Int) != 1)

theorem lend_at {H : List OB} {id : Nat} {g h : FuncId} {fs cs es : List AV} {b x o : Bool} {wd : Nat} (hid : H[id]? = some (.cells [.func (.func g) fs cs] b)) (h0 : AV.hfs es = true) (h1 : AV.hfs fs = true) (h2 : AV.hfs cs = true) :
    lend H [.vsl wd x es, .func (.func h) [] [.ptr id 0]] (.ret (.bool o)) = some [.vsl wd x es, .func (.func h) [] [.vptr [.func (.func g) fs cs]]] := by
  have hc : AV.hf (.func (.func g) fs cs) = true := by simp [AV.hf, h1, h2]
  have hp : fz H 19 (.ptr id 0) = some (.vptr [.func (.func g) fs cs]) := by
    unfold fz
    rw [if_neg (by simp [AV.hf])]
    simp [hid, AV.hfs, hc]
  have hf : fz H 20 (.func (.func h) [] [.ptr id 0]) = some (.func (.func h) [] [.vptr [.func (.func g) fs cs]]) := by
    unfold fz
    rw [if_neg (by simp [AV.hf, AV.hfs])]
    simp [AV.hfs, AV.hf, hp]
  unfold lend
  rw [if_neg (by simp [AV.hfs, AV.hf]), if_pos (show (Out.ret (AV.bool o)).scalar = true from rfl)]
  simp only [List.mapM_cons, List.mapM_nil, fz_vsl h0, hf]
  rfl

noncomputable def as29 : Code := match Tryz.f29.body with
  | some (.seq _ (.seq (.seq _ (.block _ (.rangeFunc _ _ a _))) _)) => a
  | _ => .skip
noncomputable def bd29 : Code := match Tryz.f29.body with
  | some (.seq _ (.seq (.seq _ (.block _ (.rangeFunc _ _ _ b))) _)) => b
  | _ => .skip
noncomputable def lk29 : LoopK := ⟨31, #[8, 9], as29, bd29, .ready, none⟩
noncomputable def kb29 : LoopK := ⟨31, #[8, 9], as29, bd29, .busy, none⟩
noncomputable def kd29 : LoopK := ⟨31, #[8, 9], as29, bd29, .done, some .ret⟩
def t29 (c : List Val) : List (Nat × AV) :=
  [(7, .func (.func 100) [] [.vptr [.vsl 0 false (c.map encV)]]), (6, .agg (c.map encV)), (2, .ptr 1 0), (1, .ptr 0 0), (0, .agg (c.map encV))]
def J29 (c : List Val) (e : Int) (K : LoopK) (M : List OB) : Prop :=
  M[0]? = some (.cells (c.map encV) false) ∧ M[1]? = some (.cells [.int .i64 e] false) ∧ M[2]? = some .dfr ∧ M[3]? = some (.loop (t29 c) K)

theorem any_not (i : Int) (l : List Bytes) : (l.map AV.str).any (fun v => match v with | .str s => !(valB i s) | _ => false) = !(l.all (valB i)) := by
  rw [List.any_map, List.all_eq_not_any_not, Bool.not_not]
  rfl
theorem cells_nf : AV.cells .nilfunc = [.nilfunc] := rfl
theorem za73 : zeroA Tryz.prog 73 = some .nilfunc := by kernel_rfl
theorem st73 (H : List OB) (id : Nat) (u : AV) (g : FuncId) (fs cs : List AV) (h : H[id]? = some (.cells [u] false)) : evStore Tryz.prog 73 (.ptr id 0) (.func (.func g) fs cs) H = some (H.set id (.cells [.func (.func g) fs cs] false)) := by
  simp [evStore, tz73, tg73, h, AV.cells, AV.isC, setC]
theorem tz29 : tsz Tryz.prog 29 = some 1 := by kernel_rfl
theorem tg29 : tag Tryz.prog 29 = some false := by kernel_rfl
theorem st29 (H : List OB) (id : Nat) (u : AV) (k : IntKind) (v : Int) (h : H[id]? = some (.cells [u] false)) : evStore Tryz.prog 29 (.ptr id 0) (.int k v) H = some (H.set id (.cells [.int k v] false)) := by
  simp [evStore, tz29, tg29, h, AV.cells, AV.isC, setC]
theorem ld29 (H : List OB) (id : Nat) (v : AV) (b : Bool) (h : H[id]? = some (.cells [v] b)) : evLoad Tryz.prog 29 (.ptr id 0) H = some v := by
  simp [evLoad, tz29, tg29, ldA, h]

set_option maxRecDepth 100000 in
theorem round29 (c : List Val) (i : Nat) (v : Val) (K : List OB) (hJ : J29 c 0 lk29 K) :
    ∃ K', (fieldB i v.2 = true ∧ YFn Tryz.prog 3 [.int .i64 (i : Int), encV v] K (.ret (.bool true)) K' ∧ J29 c 0 lk29 K') ∨
      (fieldB i v.2 = false ∧ YFn Tryz.prog 3 [.int .i64 (i : Int), encV v] K (.ret (.bool false)) K' ∧ J29 c 2 kd29 K') := by
  obtain ⟨h0, h1, h2, h3⟩ := hJ
  have l3 : 3 < K.length := (List.getElem?_eq_some_iff.1 h3).1
  obtain ⟨x, l⟩ := v
  simp only [encV]
  obtain ⟨M, hM⟩ : ∃ M, M = K.set 3 (.loop (t29 c) kb29) ++ [.cells [.func (.func 78) [] [.vptr [.int .i64 (i : Int)]]] false] := ⟨_, rfl⟩
  have hlen : (K.set 3 (.loop (t29 c) kb29)).length = K.length := List.length_set
  have gM : ∀ j, j < 3 → M[j]? = K[j]? := by
    intro j hj
    rw [hM, List.getElem?_append_left (by rw [hlen]; omega), List.getElem?_set, if_neg (by omega)]
  have gM3 : M[3]? = some (.loop (t29 c) kb29) := by
    rw [hM, List.getElem?_append_left (by rw [hlen]; omega), List.getElem?_set_self l3]
  have gMk : M[K.length]? = some (.cells [.func (.func 78) [] [.vptr [.int .i64 (i : Int)]]] false) := by
    rw [hM, ← hlen, List.getElem?_concat_length]
  have lM : 3 < M.length := (List.getElem?_eq_some_iff.1 gM3).1
  have hst : evStore Tryz.prog 73 (.ptr K.length 0) (.func (.func 78) [] [.vptr [.int .i64 (i : Int)]]) (K.set 3 (.loop (t29 c) kb29) ++ [.cells [.nilfunc] false]) = some M := by
    have hg : (K.set 3 (.loop (t29 c) kb29) ++ [.cells [.nilfunc] false])[K.length]? = some (.cells [.nilfunc] false) := by rw [← hlen, List.getElem?_concat_length]
    rw [st73 _ _ _ _ _ _ hg, hM]
    congr 1
    rw [List.set_append_right _ _ (by rw [hlen]; omega), hlen, Nat.sub_self]
    rfl
  have hln : evLen Tryz.prog 26 (.vsl 0 x (l.map .str)) M = some (.int .i64 l.length) := ln26 x l M
  generalize e1 : decide ((l.length : Int) > mostI i) = b1
  generalize e2 : l.all (valB i) = b2
  generalize e3 : risesB l = b3
  have hfb : fieldB i l = (!b1 && b2 && b3) := by unfold fieldB; rw [e1, e2, e3]
  have hp1 := most53 i
  have hp2 := cf54 x (l.map .str) 55 [] [.vptr [.func (.func 78) [] [.vptr [.int .i64 (i : Int)]]]] (fun v => match v with | .str s => !(valB i s) | _ => false)
    (fun v hv => by obtain ⟨b, _, rfl⟩ := List.mem_map.1 hv; rfl) ⟨strs_hfs l, rfl, rfl⟩ (fun v hv => by obtain ⟨b, _, rfl⟩ := List.mem_map.1 hv; exact check55 i b)
  rw [any_not, e2] at hp2
  have hp3 := rises56 x l
  rw [e3] at hp3
  have hle : ∀ o, lend M [.vsl 0 x (l.map .str), .func (.func 55) [] [.ptr K.length 0]] (.ret (.bool o)) = some [.vsl 0 x (l.map .str), .func (.func 55) [] [.vptr [.func (.func 78) [] [.vptr [.int .i64 (i : Int)]]]]] :=
    fun o => lend_at gMk (strs_hfs l) rfl rfl
  have hl1 : ∀ o, lend M [.int .i64 (i : Int)] o = some [.int .i64 (i : Int)] := fun o => by simp [lend, AV.hfs, AV.hf]
  have hl2 : ∀ o, lend M [.vsl 0 x (l.map .str)] o = some [.vsl 0 x (l.map .str)] := fun o => by simp [lend, AV.hfs, AV.hf, strs_hfs]
  have start : ∀ (out : Out) (K' : List OB), (∀ l', W Tryz.prog 31 K.length (some l') (match bd29 with | .block _ (.seq _ d) => d | _ => .skip) (blockQ 1 (roundQ 3 out K')) ⟨[(5, .ptr K.length 0), (2, .ptr 1 0), (3, .int .i64 (i : Int)), (4, .vsl 0 x (l.map .str))], M, []⟩) → YFn Tryz.prog 3 [.int .i64 (i : Int), .vsl 0 x (l.map .str)] K out K' := by
    intro out K' hrest
    refine YFn.of h3 (by simp [lk29]) fun l' => ?_
    show W Tryz.prog 31 _ _ (.seq (.region 2 _ _) (.region 3 _ _)) _ ⟨(9, .vsl 0 x (l.map .str)) :: (8, .int .i64 (i : Int)) :: t29 c, K, []⟩
    refine .seq (.region [] (by decide) ?_)
    simp only [EOps, EDf, isRd, gdA, callOf, isPanic, nextOf, altA, evalOp, St.ev, Av.get, St.put, argT, ofV, thenQ, Nat.reduceEqDiff, ↓reduceIte, lend, AV.hfs, AV.hf, Bool.and_self, List.map_cons, List.map_nil, List.nil_append, List.append_nil, List.getElem?_cons_zero, List.getElem?_cons_succ, List.getElem?_toArray, Option.map_some, Option.bind_some, decide_true, decide_false, beq_false, beq_true, Bool.not_true, Bool.not_false, Bool.false_eq_true, pickA, cond_true, cond_false, t29]
    refine .region [] (by decide) ?_
    simp only [EOps, EDf, isRd, gdA, callOf, isPanic, nextOf, altA, evalOp, St.ev, Av.get, St.put, argT, ofV, thenQ, Nat.reduceEqDiff, ↓reduceIte, lend, AV.hfs, AV.hf, Bool.and_self, List.map_cons, List.map_nil, List.nil_append, List.append_nil, List.getElem?_cons_zero, List.getElem?_cons_succ, List.getElem?_toArray, Option.map_some, Option.bind_some, decide_true, decide_false, beq_false, beq_true, Bool.not_true, Bool.not_false, Bool.false_eq_true, pickA, cond_true, cond_false]
    refine ⟨t29 c, lk29, h3, rfl, ?_⟩
    rw [show ({ lk29 with st := .busy } : LoopK) = kb29 from rfl]
    show W Tryz.prog 31 _ _ (.block 1 (.seq (.region 4 _ _) _)) _ _
    refine .block (.seq (.region [.pure (.ret (.func (.func 78) [] [.vptr [.int .i64 (i : Int)]]))] (by decide) ?_))
    simp only [EOps, EDf, isRd, gdA, callOf, isPanic, nextOf, altA, evalOp, St.ev, Av.get, St.put, argT, ofV, thenQ, Nat.reduceEqDiff, ↓reduceIte, lend, AV.hfs, AV.hf, Bool.and_self, List.map_cons, List.map_nil, List.nil_append, List.append_nil, List.getElem?_cons_zero, List.getElem?_cons_succ, List.getElem?_toArray, Option.map_some, Option.bind_some, decide_true, decide_false, beq_false, beq_true, Bool.not_true, Bool.not_false, Bool.false_eq_true, pickA, cond_true, cond_false, za73, hlen, hst, cells_nf]
    refine ⟨value52 i, ?_⟩
    refine W.fewer [(5, .ptr K.length 0), (2, .ptr 1 0), (3, .int .i64 (i : Int)), (4, .vsl 0 x (l.map .str))] ?_ (hrest l')
    simp [holdsT, Av.get]
  have good : J29 c 0 lk29 (M.set 3 (.loop (t29 c) lk29)) := by
    have g : ∀ j, j < 3 → (M.set 3 (.loop (t29 c) lk29))[j]? = K[j]? := by
      intro j hj; rw [List.getElem?_set, if_neg (by omega)]; exact gM j hj
    exact ⟨by rw [g 0 (by omega)]; exact h0, by rw [g 1 (by omega)]; exact h1, by rw [g 2 (by omega)]; exact h2, by rw [List.getElem?_set_self lM]⟩
  have l1 : 1 < M.length := by omega
  have bad : J29 c 2 kd29 ((M.set 1 (.cells [.int .i64 2] false)).set 3 (.loop (t29 c) kd29)) := by
    have g : ∀ j, j < 3 → j ≠ 1 → ((M.set 1 (.cells [.int .i64 2] false)).set 3 (.loop (t29 c) kd29))[j]? = K[j]? := by
      intro j hj hj1; rw [List.getElem?_set, if_neg (by omega), List.getElem?_set, if_neg (by omega)]; exact gM j hj
    refine ⟨by rw [g 0 (by omega) (by omega)]; exact h0, ?_, by rw [g 2 (by omega) (by omega)]; exact h2, by rw [List.getElem?_set_self (by rw [List.length_set]; exact lM)]⟩
    rw [List.getElem?_set, if_neg (by omega), List.getElem?_set_self l1]
  have gM1 : M[1]? = some (.cells [.int .i64 0] false) := by rw [gM 1 (by omega)]; exact h1
  have hst2 : evStore Tryz.prog 29 (.ptr 1 0) (.int .i64 2) M = some (M.set 1 (.cells [.int .i64 2] false)) := st29 M 1 _ .i64 2 gM1
  have badQ : ∀ l' T, Av.get T 2 = .ptr 1 0 → W Tryz.prog 31 K.length (some l') (match bd29 with | .block _ (.seq _ (.seq _ (.cond _ d _))) => d | _ => .skip) (blockQ 1 (roundQ 3 (.ret (.bool false)) ((M.set 1 (.cells [.int .i64 2] false)).set 3 (.loop (t29 c) kd29)))) ⟨T, M, []⟩ := by
    intro l' T hT
    show W Tryz.prog 31 _ _ (.seq _ _) _ _
    refine .seq (.region [] (by decide) ?_)
    simp only [EOps, EDf, isRd, gdA, callOf, isPanic, nextOf, altA, evalOp, St.ev, Av.get, St.put, argT, ofV, thenQ, Nat.reduceEqDiff, ↓reduceIte, Bool.and_self, List.map_cons, List.map_nil, List.nil_append, List.append_nil, List.getElem?_cons_zero, List.getElem?_cons_succ, List.getElem?_toArray, Option.map_some, Option.bind_some, decide_true, decide_false, beq_false, beq_true, Bool.not_true, Bool.not_false, Bool.false_eq_true, pickA, cond_true, cond_false, hT, hst2, ofV]
    refine .ret ?_
    refine ⟨t29 c, kb29, ?_, rfl, rfl⟩
    show (M.set 1 _)[3]? = _
    rw [List.getElem?_set, if_neg (by omega)]; exact gM3
  cases b1 with
  | true =>
    refine ⟨_, .inr ⟨hfb, start _ _ fun l' => ?_, bad⟩⟩
    show W Tryz.prog 31 _ _ (.seq (.region 5 _ _) _) _ _
    refine .seq (.region [.pure (.ret (.int .i64 (mostI i)))] (by decide) ?_)
    simp only [EOps, EDf, isRd, gdA, callOf, isPanic, nextOf, altA, evalOp, St.ev, Av.get, St.put, argT, ofV, thenQ, Nat.reduceEqDiff, ↓reduceIte, Bool.and_self, List.map_cons, List.map_nil, List.nil_append, List.append_nil, List.getElem?_cons_zero, List.getElem?_cons_succ, List.getElem?_toArray, Option.map_some, Option.bind_some, decide_true, decide_false, beq_false, beq_true, Bool.not_true, Bool.not_false, Bool.false_eq_true, pickA, cond_true, cond_false, hln, hl1, b_gtr, e1]
    refine ⟨hp1, ?_⟩
    exact .cond (t := true) rfl (badQ l' _ rfl)
  | false =>
    cases b2 with
    | false =>
      refine ⟨_, .inr ⟨hfb, start _ _ fun l' => ?_, bad⟩⟩
      show W Tryz.prog 31 _ _ (.seq (.region 5 _ _) _) _ _
      refine .seq (.region [.pure (.ret (.int .i64 (mostI i))), .pure (.ret (.bool !false))] (by decide) ?_)
      simp only [EOps, EDf, isRd, gdA, callOf, isPanic, nextOf, altA, evalOp, St.ev, Av.get, St.put, argT, ofV, thenQ, Nat.reduceEqDiff, ↓reduceIte, Bool.and_self, List.map_cons, List.map_nil, List.nil_append, List.append_nil, List.getElem?_cons_zero, List.getElem?_cons_succ, List.getElem?_toArray, Option.map_some, Option.bind_some, decide_true, decide_false, beq_false, beq_true, Bool.not_true, Bool.not_false, Bool.false_eq_true, pickA, cond_true, cond_false, hln, hl1, b_gtr, e1, hle]
      refine ⟨hp1, hp2, ?_⟩
      exact .cond (t := true) rfl (badQ l' _ rfl)
    | true =>
      cases b3 with
      | false =>
        refine ⟨_, .inr ⟨hfb, start _ _ fun l' => ?_, bad⟩⟩
        show W Tryz.prog 31 _ _ (.seq (.region 5 _ _) _) _ _
        refine .seq (.region [.pure (.ret (.int .i64 (mostI i))), .pure (.ret (.bool !true)), .pure (.ret (.bool false))] (by decide) ?_)
        simp only [EOps, EDf, isRd, gdA, callOf, isPanic, nextOf, altA, evalOp, St.ev, Av.get, St.put, argT, ofV, thenQ, Nat.reduceEqDiff, ↓reduceIte, Bool.and_self, List.map_cons, List.map_nil, List.nil_append, List.append_nil, List.getElem?_cons_zero, List.getElem?_cons_succ, List.getElem?_toArray, Option.map_some, Option.bind_some, decide_true, decide_false, beq_false, beq_true, Bool.not_true, Bool.not_false, Bool.false_eq_true, pickA, cond_true, cond_false, hln, hl1, hl2, b_gtr, e1, hle, u_not]
        refine ⟨hp1, hp2, hp3, ?_⟩
        exact .cond (t := true) rfl (badQ l' _ rfl)
      | true =>
        refine ⟨_, .inl ⟨hfb, start _ _ fun l' => ?_, good⟩⟩
        show W Tryz.prog 31 _ _ (.seq (.region 5 _ _) _) _ _
        refine .seq (.region [.pure (.ret (.int .i64 (mostI i))), .pure (.ret (.bool !true)), .pure (.ret (.bool true))] (by decide) ?_)
        simp only [EOps, EDf, isRd, gdA, callOf, isPanic, nextOf, altA, evalOp, St.ev, Av.get, St.put, argT, ofV, thenQ, Nat.reduceEqDiff, ↓reduceIte, Bool.and_self, List.map_cons, List.map_nil, List.nil_append, List.append_nil, List.getElem?_cons_zero, List.getElem?_cons_succ, List.getElem?_toArray, Option.map_some, Option.bind_some, decide_true, decide_false, beq_false, beq_true, Bool.not_true, Bool.not_false, Bool.false_eq_true, pickA, cond_true, cond_false, hln, hl1, hl2, b_gtr, e1, hle, u_not]
        refine ⟨hp1, hp2, hp3, ?_⟩
        refine .cond (t := false) rfl (.skip ?_)
        exact ⟨t29 c, kb29, gM3, rfl, rfl⟩
end Go.Proofs.YtmeijkidjifagaaGreat
namespace Go.Proofs.YtmeijkidjifagaaGreat
set_option linter.unusedVariables false
set_option linter.unusedSimpArgs false
open Go Go.Av

theorem encV_told (c : List Val) : (AV.agg (c.map encV)).told = true := by
  simp only [AV.told]
  try (rw [List.all_eq_true]; intro v hv; obtain ⟨r, _, rfl⟩ := List.mem_map.1 hv; rfl)
theorem za29 : zeroA Tryz.prog 29 = some (.int .i64 0) := by kernel_rfl
theorem cells_int (k : IntKind) (n : Int) : AV.cells (.int k n) = [.int k n] := rfl
theorem cells_agg' (l : List AV) : AV.cells (.agg l) = l := rfl
theorem tz28 : tsz Tryz.prog 28 = some 8 := by kernel_rfl
theorem tg28 : tag Tryz.prog 28 = some true := by kernel_rfl
theorem ld28 (H : List OB) (id : Nat) (c : List Val) (b : Bool) (hc : c.length = 8) (h : H[id]? = some (.cells (c.map encV) b)) : evLoad Tryz.prog 28 (.ptr id 0) H = some (.agg (c.map encV)) := by
  simp [evLoad, tz28, tg28, ldA, h, hc, List.take_of_length_le]

theorem retC {P : Program} {rs : List ResultVar} {a : St} {v v' : AV} (t ty d : Nat) (hr : rs = [.cell t ty]) (hD : a.D = [d]) (hd : a.H[d]? = some .dfr) (hl : evLoad P ty (Av.get a.T t) (a.H.set d .dead) = some v) (hv : v.hf = true) (he : Le v v') : retQ P rs (.ret v') .ret a := by
  obtain ⟨T, H, D⟩ := a
  simp only at hD hd hl
  subst hD; subst hr
  refine ⟨⟨T, H.set d .dead, []⟩, ?_, v, ?_, he⟩
  · simp [endA, takeD, hd]
  · show (evLoad P ty (Av.get T t) (H.set d .dead)).bind _ = _
    rw [hl]
    exact fz_hf hv
theorem ia28 (id i : Nat) (hi : i < 8) (H : List OB) : evIndexAddr Tryz.prog 28 (.ptr id 0) (.int .i64 (i : Int)) H = some (.ptr id i) := by
  simp [evIndexAddr, idx_nat, Tryz.underlying28, tz26, hi]

theorem allFields_goOn (c : List Val) (hc : c.length = 8) : goOn (fun i => fieldB i (fld c i)) 0 (c.map encV) = allFields c := by
  rw [goOn_range, List.length_map, hc, allFields, List.range_eq_range']

set_option maxRecDepth 100000 in
theorem check29 (c : List Val) (hc : c.length = 8) : PureFn Tryz.prog 29 [.agg (c.map encV)] (.ret (.int .i64 (if checkC c = true then 0 else 2))) := by
  refine PureFn.of Tryz.func29 rfl (enters_call enters Tryz.func29 rfl) (by simp [Tryz.ntmps29]) ?_
  show W Tryz.prog 31 _ none _ _ _
  refine .seq (.region [] (by decide) ?_)
  simp only [EOps, EDf, isRd, gdA, callOf, isPanic, nextOf, altA, evalOp, St.ev, Av.get, St.put, argT, ofV, thenQ, Nat.reduceEqDiff, ↓reduceIte, lend, AV.hfs, AV.hf, Bool.and_self, List.map_cons, List.map_nil, List.nil_append, List.append_nil, List.getElem?_cons_zero, List.getElem?_cons_succ, List.getElem?_toArray, Option.map_some, Option.bind_some, decide_true, decide_false, beq_false, beq_true, Bool.not_true, Bool.not_false, Bool.false_eq_true, pickA, cond_true, cond_false, encV_told, if_true, za29, List.length_nil, cells_int, cells_agg', List.length_singleton]
  have hl28 := ld28 [.cells (c.map encV) false, .cells [.int .i64 0] false] 0 c false hc rfl
  refine .seq (.seq (.region [.pure (.ret (.func (.func 100) [] [.vptr [.vsl 0 false (c.map encV)]]))] (by decide) ?_))
  simp only [EOps, EDf, isRd, gdA, callOf, isPanic, nextOf, altA, evalOp, St.ev, Av.get, St.put, argT, ofV, thenQ, Nat.reduceEqDiff, ↓reduceIte, lend, AV.hfs, AV.hf, Bool.and_self, List.map_cons, List.map_nil, List.nil_append, List.append_nil, List.getElem?_cons_zero, List.getElem?_cons_succ, List.getElem?_toArray, Option.map_some, Option.bind_some, decide_true, decide_false, beq_false, beq_true, Bool.not_true, Bool.not_false, Bool.false_eq_true, pickA, cond_true, cond_false, hl28, encV_hfs, List.cons_append]
  refine ⟨fields51 c hc, ?_⟩
  refine .block ?_
  have hstep := all100 3 false (c.map encV) (encV_one c) (by simp [hc, maxLen']) (fun i => fieldB i (fld c i))
    ([.cells (c.map encV) false, .cells [.int .i64 0] false] ++ [.dfr, .loop (t29 c) lk29]) (J29 c 0 lk29) (J29 c 2 kd29) ⟨rfl, rfl, rfl, rfl⟩
    (fun K hK => by have := (List.getElem?_eq_some_iff.1 hK.2.2.2).1; simp; omega) (by
      intro i v K hv hK
      rw [List.getElem?_map, Option.map_eq_some_iff] at hv
      obtain ⟨u, hu, rfl⟩ := hv
      have : fld c i = u.2 := by simp [fld, List.getD, hu]
      rw [this]
      exact round29 c i u K hK)
  rw [allFields_goOn c hc] at hstep
  refine W.rangeFuncS (gf := 100) (fs := []) (cs := [.vptr [.vsl 0 false (c.map encV)]]) rfl (enters_call enters Tryz.func100 rfl) hstep ?_
  rintro out K ⟨rfl, h | h⟩
  · obtain ⟨hg, h0, h1, h2, h3⟩ := h
    refine ⟨_, _, _, rfl, h3, by simp [lk29], ?_⟩
    show behindQ _ _ _ _ _ none
    simp only [behindQ, blockQ, thenQ]
    have l3 : 3 < K.length := (List.getElem?_eq_some_iff.1 h3).1
    have gM : ∀ j, j < 3 → (K.set 3 .dead)[j]? = K[j]? := by intro j hj; rw [List.getElem?_set, if_neg (by omega)]
    obtain ⟨M, hM⟩ : ∃ M, M = K.set 3 OB.dead := ⟨_, rfl⟩
    rw [← hM] at gM
    have m0 : M[0]? = some (.cells (c.map encV) false) := by rw [gM 0 (by omega)]; exact h0
    have m1 : M[1]? = some (.cells [.int .i64 0] false) := by rw [gM 1 (by omega)]; exact h1
    have m2 : M[2]? = some .dfr := by rw [gM 2 (by omega)]; exact h2
    have l1 : 1 < M.length := (List.getElem?_eq_some_iff.1 m1).1
    show W Tryz.prog 31 0 none _ _ ⟨t29 c, K.set 3 .dead, [2]⟩
    rw [← hM]
    obtain ⟨u, hu⟩ : ∃ u, c[0]? = some u := ⟨c[0], List.getElem?_eq_getElem (by omega)⟩
    have hf0 : fld c 0 = u.2 := by simp [fld, List.getD, hu]
    have hcu : (c.map encV)[0]? = some (encV u) := by simp [hu]
    have hia : evIndexAddr Tryz.prog 28 (.ptr 0 0) (.int .i64 0) M = some (.ptr 0 0) := ia28 0 0 (by decide) M
    have hld : evLoad Tryz.prog 26 (.ptr 0 0) M = some (encV u) := ld26 M 0 0 _ _ _ m0 hcu
    have hln : evLen Tryz.prog 26 (encV u) M = some (.int .i64 u.2.length) := ln26 u.1 u.2 M
    have hst : ∀ v, evStore Tryz.prog 29 (.ptr 1 0) (.int .i64 v) M = some (M.set 1 (.cells [.int .i64 v] false)) := fun v => st29 M 1 _ .i64 v m1
    have fin : ∀ T v, Av.get T 2 = .ptr 1 0 → retQ Tryz.prog Tryz.f29.results.toList (.ret (.int .i64 v)) .ret ⟨T, M.set 1 (.cells [.int .i64 v] false), [2]⟩ := by
      intro T v hT
      refine retC 2 29 2 rfl rfl ?_ ?_ rfl (.refl _)
      · show (M.set 1 _)[2]? = _
        rw [List.getElem?_set, if_neg (by omega)]; exact m2
      · show evLoad _ 29 (Av.get T 2) _ = _
        rw [hT]
        refine ld29 _ 1 _ false ?_
        rw [List.getElem?_set, if_neg (by omega), List.getElem?_set_self l1]
    have hck : checkC c = !((u.2.length : Int) != 1) := by unfold checkC; rw [hg, hf0, Bool.true_and]
    rw [hck]
    generalize hb : ((u.2.length : Int) != 1) = b
    refine .seq (.seq (.region [] (by decide) ?_))
    simp only [EOps, EDf, isRd, gdA, callOf, isPanic, nextOf, altA, evalOp, St.ev, Av.get, St.put, argT, ofV, thenQ, Nat.reduceEqDiff, ↓reduceIte, Bool.and_self, List.map_cons, List.map_nil, List.nil_append, List.append_nil, List.getElem?_cons_zero, List.getElem?_cons_succ, List.getElem?_toArray, Option.map_some, Option.bind_some, decide_true, decide_false, beq_false, beq_true, Bool.not_true, Bool.not_false, Bool.false_eq_true, pickA, cond_true, cond_false, t29, hia, hld, hln, b_neq, hb]
    cases b with
    | true =>
      refine .cond (t := true) rfl (.seq (.region [] (by decide) ?_))
      simp only [EOps, EDf, isRd, gdA, callOf, isPanic, nextOf, altA, evalOp, St.ev, Av.get, St.put, argT, ofV, thenQ, Nat.reduceEqDiff, ↓reduceIte, Bool.and_self, List.map_cons, List.map_nil, List.nil_append, List.append_nil, List.getElem?_cons_zero, List.getElem?_cons_succ, List.getElem?_toArray, Option.map_some, Option.bind_some, decide_true, decide_false, beq_false, beq_true, Bool.not_true, Bool.not_false, Bool.false_eq_true, pickA, cond_true, cond_false, hst]
      exact .ret (fin _ 2 rfl)
    | false =>
      refine .cond (t := false) rfl (.skip ?_)
      refine .seq (.region [] (by decide) ?_)
      simp only [EOps, EDf, isRd, gdA, callOf, isPanic, nextOf, altA, evalOp, St.ev, Av.get, St.put, argT, ofV, thenQ, Nat.reduceEqDiff, ↓reduceIte, Bool.and_self, List.map_cons, List.map_nil, List.nil_append, List.append_nil, List.getElem?_cons_zero, List.getElem?_cons_succ, List.getElem?_toArray, Option.map_some, Option.bind_some, decide_true, decide_false, beq_false, beq_true, Bool.not_true, Bool.not_false, Bool.false_eq_true, pickA, cond_true, cond_false, hst]
      exact .ret (fin _ 0 rfl)
  · obtain ⟨hg, h0, h1, h2, h3⟩ := h
    refine ⟨_, _, _, rfl, h3, by simp [kd29], ?_⟩
    show behindQ _ _ _ _ _ (some .ret)
    simp only [behindQ]
    have l3 : 3 < K.length := (List.getElem?_eq_some_iff.1 h3).1
    refine .ret ?_
    have hck : checkC c = false := by unfold checkC; rw [hg, Bool.false_and]
    rw [hck]
    show retQ Tryz.prog Tryz.f29.results.toList _ .ret ⟨t29 c, K.set 3 .dead, [2]⟩
    refine retC 2 29 2 rfl rfl ?_ ?_ rfl (.refl _)
    · show (K.set 3 .dead)[2]? = _
      rw [List.getElem?_set, if_neg (by omega)]; exact h2
    · refine ld29 _ 1 _ false ?_
      show ((K.set 3 OB.dead).set 2 .dead)[1]? = _
      rw [List.getElem?_set, if_neg (by omega), List.getElem?_set, if_neg (by omega)]; exact h1
end Go.Proofs.YtmeijkidjifagaaGreat
