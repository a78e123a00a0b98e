/- PeopleNames answers true where the field is out of range: where known answers true. -/
import Derived.Test.YtmeijkidjifagaaPnD
namespace Go.Proofs.Ytmeijkidjifagaa
open Go Go.Av
set_option linter.unusedVariables false

theorem lssI (P : Program) (t : TypeId) (a b : Int) : evBin P .lss t (.int .i64 a) (.int .i64 b) = some (.bool (decide (a < b))) := rfl
theorem gtrI (P : Program) (t : TypeId) (a b : Int) : evBin P .gtr t (.int .i64 a) (.int .i64 b) = some (.bool (decide (a > b))) := rfl
theorem geqI (P : Program) (t : TypeId) (a b : Int) : evBin P .geq t (.int .i64 a) (.int .i64 b) = some (.bool (decide (a ≥ b))) := rfl

theorem attr4_out (a : Int) (h : a < 0 ∨ 7 < a) : PureFn Try.prog 4 [.int .i64 a] (.ret (.tup [.str [], .bool false])) := by
  refine PureFn.of Try.func4 rfl (enters_call enters Try.func4 rfl) (by simp [Try.ntmps4]) ?_
  show W Try.prog 13 _ none _ _ _
  refine .seq (.region [] (by decide) ?_)
  simp only [EOps, gdA, callOf, isPanic, nextOf, altA, evalOp, St.ev, Av.get, St.put, argT, ofV, thenQ, Nat.reduceEqDiff, ↓reduceIte]
  refine .seq (.seq (.region [] (by decide) ?_))
  have fin : ∀ T, W Try.prog 13 0 none (Code.seq (Code.region 2
                      #[{ dst := some 2, op := Op.assign (Operand.const (Value.string { data := #[] })), type := 9,
                          pos := "people.go:31", after := #[], guard := none },
                        { dst := some 3, op := Op.assign (Operand.const (Value.bool false)), type := 4,
                          pos := "people.go:31",
                          after := #[{ on := 0, ground := Ground.chain }, { on := 0, ground := Ground.phase }],
                          guard := none }]
                      false) Code.ret) (retQ Try.prog Try.f4.results.toList (.ret (.tup [.str [], .bool false]))) ⟨T, [], []⟩ := by
    intro T
    refine .seq (.region [] (by decide) ?_)
    simp only [EOps, gdA, callOf, isPanic, nextOf, altA, evalOp, St.ev, Av.get, St.put, ofV, thenQ, Nat.reduceEqDiff, ↓reduceIte]
    exact .ret ⟨_, rfl, _, rfl, .refl _⟩
  have fin' : ∀ (T : List (Nat × AV)) (Q : Ex → St → Prop), W Try.prog 13 0 none (Code.seq (Code.region 2
                      #[{ dst := some 2, op := Op.assign (Operand.const (Value.string { data := #[] })), type := 9,
                          pos := "people.go:31", after := #[], guard := none },
                        { dst := some 3, op := Op.assign (Operand.const (Value.bool false)), type := 4,
                          pos := "people.go:31",
                          after := #[{ on := 0, ground := Ground.chain }, { on := 0, ground := Ground.phase }],
                          guard := none }]
                      false) Code.ret) (thenQ (fun _ => False) (retQ Try.prog Try.f4.results.toList (.ret (.tup [.str [], .bool false])))) ⟨T, [], []⟩ := by
    intro T Q
    refine .seq (.region [] (by decide) ?_)
    simp only [EOps, gdA, callOf, isPanic, nextOf, altA, evalOp, St.ev, Av.get, St.put, ofV, thenQ, Nat.reduceEqDiff, ↓reduceIte]
    exact .ret ⟨_, rfl, _, rfl, .refl _⟩
  rcases Int.lt_or_le a 0 with h0 | h0
  · simp only [EOps, gdA, callOf, isPanic, nextOf, altA, evalOp, St.ev, Av.get, St.put, ofV, thenQ, Nat.reduceEqDiff, ↓reduceIte, lssI, geqI, h0, decide_true, List.getElem?_toArray, List.getElem?_cons_succ, List.getElem?_cons_zero, Option.bind_some, beq_false, beq_true, Bool.not_true, Bool.not_false, Bool.false_eq_true, pickA, cond_true]
    refine .cond (t := true) rfl ?_
    refine (fin' _ (fun _ _ => True)).mono ?_
    intro ex a hq
    cases ex <;> first | exact hq.elim | exact hq
  · have h7 : 7 < a := by omega
    have h8 : (a ≥ 8) := by omega
    have hn : ¬ a < 0 := by omega
    simp only [EOps, gdA, callOf, isPanic, nextOf, altA, evalOp, St.ev, Av.get, St.put, ofV, thenQ, Nat.reduceEqDiff, ↓reduceIte, lssI, geqI, hn, h8, decide_true, decide_false, List.getElem?_toArray, List.getElem?_cons_succ, List.getElem?_cons_zero, Option.bind_some, beq_false, beq_true, Bool.not_true, Bool.not_false, pickA, cond_false]
    refine .cond (t := true) rfl ?_
    refine (fin' _ (fun _ _ => True)).mono ?_
    intro ex a hq
    cases ex <;> first | exact hq.elim | exact hq

theorem names3_out (a : Int) (h : a < 0 ∨ 7 < a) (hk : PureFn Try.prog 5 [] (.ret (.bool true))) : PureFn Try.prog 3 [.int .i64 a] (.ret (.bool true)) := by
  refine PureFn.of Try.func3 rfl (enters_call enters Try.func3 rfl) (by simp [Try.ntmps3]) ?_
  show W Try.prog 37 _ none _ _ _
  refine .seq (.region [] (by decide) ?_)
  simp only [EOps, gdA, callOf, isPanic, nextOf, altA, evalOp, St.ev, Av.get, St.put, argT, ofV, thenQ, Nat.reduceEqDiff, ↓reduceIte, lend, AV.hfs, AV.hf, Bool.and_self, List.map_cons, List.map_nil, List.nil_append, List.append_nil, List.getElem?_cons_zero, List.getElem?_cons_succ, Option.map_some]
  refine .seq (.region [.pure (.ret (.tup [.str [], .bool false]))] (by decide) ?_)
  simp only [EOps, gdA, callOf, isPanic, nextOf, altA, evalOp, St.ev, Av.get, St.put, argT, ofV, thenQ, Nat.reduceEqDiff, ↓reduceIte, lend, AV.hfs, AV.hf, Bool.and_self, List.map_cons, List.map_nil, List.nil_append, List.append_nil, List.getElem?_cons_zero, List.getElem?_cons_succ, Option.map_some]
  refine ⟨attr4_out a h, ?_⟩
  refine .seq (.seq (.region [] (by decide) ?_))
  have es : ∀ (P : Program) (t : TypeId), evBin P .eql t (.str []) (.str []) = some (.bool true) := fun _ _ => rfl
  have nt : evUn .not (.bool false) = some (.bool true) := rfl
  have ml : ([] : Bytes).length ≤ maxLen' := Nat.zero_le _
  rcases Int.lt_or_le a 0 with h0 | h0
  · simp only [EOps, gdA, callOf, isPanic, nextOf, altA, evalOp, St.ev, Av.get, St.put, argT, ofV, thenQ, Nat.reduceEqDiff, ↓reduceIte, lend, AV.hfs, AV.hf, Bool.and_self, List.map_cons, List.map_nil, List.nil_append, List.append_nil, List.getElem?_cons_zero, List.getElem?_cons_succ, Option.map_some, lssI, gtrI, h0, decide_true, decide_false, List.getElem?_toArray, Option.bind_some, beq_false, beq_true, Bool.not_true, Bool.not_false, Bool.false_eq_true, pickA, cond_true, cond_false]
    refine .cond (t := true) rfl ?_
    refine .seq (.region [.pure (.ret (.bool true))] (by decide) ?_)
    simp only [EOps, gdA, callOf, isPanic, nextOf, altA, evalOp, St.ev, Av.get, St.put, argT, ofV, thenQ, Nat.reduceEqDiff, ↓reduceIte, lend, AV.hfs, AV.hf, Bool.and_self, List.map_cons, List.map_nil, List.nil_append, List.append_nil, List.getElem?_cons_zero, List.getElem?_cons_succ, Option.map_some, es, nt, ml, List.length_nil, Nat.zero_le, ByteArray.size, Array.size_empty, List.size_toArray, decide_true, decide_false, List.getElem?_toArray, Option.bind_some, beq_false, beq_true, Bool.not_true, Bool.not_false, Bool.false_eq_true, pickA, cond_true, cond_false]
    refine ⟨hk, ?_⟩
    exact .ret ⟨_, rfl, _, rfl, .refl _⟩
  · have h7 : 7 < a := by omega
    have h8 : (a > 7) := by omega
    have hn : ¬ a < 0 := by omega
    simp only [EOps, gdA, callOf, isPanic, nextOf, altA, evalOp, St.ev, Av.get, St.put, argT, ofV, thenQ, Nat.reduceEqDiff, ↓reduceIte, lend, AV.hfs, AV.hf, Bool.and_self, List.map_cons, List.map_nil, List.nil_append, List.append_nil, List.getElem?_cons_zero, List.getElem?_cons_succ, Option.map_some, lssI, gtrI, hn, h8, decide_true, decide_false, List.getElem?_toArray, Option.bind_some, beq_false, beq_true, Bool.not_true, Bool.not_false, Bool.false_eq_true, pickA, cond_true, cond_false]
    refine .cond (t := true) rfl ?_
    refine .seq (.region [.pure (.ret (.bool true))] (by decide) ?_)
    simp only [EOps, gdA, callOf, isPanic, nextOf, altA, evalOp, St.ev, Av.get, St.put, argT, ofV, thenQ, Nat.reduceEqDiff, ↓reduceIte, lend, AV.hfs, AV.hf, Bool.and_self, List.map_cons, List.map_nil, List.nil_append, List.append_nil, List.getElem?_cons_zero, List.getElem?_cons_succ, Option.map_some, es, nt, ml, List.length_nil, Nat.zero_le, ByteArray.size, Array.size_empty, List.size_toArray, decide_true, decide_false, List.getElem?_toArray, Option.bind_some, beq_false, beq_true, Bool.not_true, Bool.not_false, Bool.false_eq_true, pickA, cond_true, cond_false]
    refine ⟨hk, ?_⟩
    exact .ret ⟨_, rfl, _, rfl, .refl _⟩
end Go.Proofs.Ytmeijkidjifagaa
