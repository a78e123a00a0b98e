/- Contracts of functions that the statements of this seat reach: under the conditions named at each theorem. -/
import Derived.Test.YtmeijkidjifagaaGreatRows
import Derived.WalkKit
import Derived.Test.YtmeijkidjifagaaGreatSvP5
namespace Go.Proofs.YtmeijkidjifagaaGreat
set_option linter.unusedVariables false
set_option linter.unusedSimpArgs false
open Go Go.Av

set_option maxRecDepth 100000 in
theorem enters : Enters Tryz.prog := by
  have h : ∀ i, i < Tryz.prog.funcs.size → (match Tryz.prog.funcs[i]? with | some fn => !(fn.name == "runtime.NumGoroutine") | none => true) = true := by
    have : (List.range Tryz.prog.funcs.size).all (fun i => match Tryz.prog.funcs[i]? with | some fn => !(fn.name == "runtime.NumGoroutine") | none => true) = true := by kernel_rfl
    intro i hi
    exact List.all_eq_true.1 this i (List.mem_range.2 hi)
  intro f fn hf
  have hlt := (Array.getElem?_eq_some_iff.1 hf).1
  have := h f hlt
  rw [hf] at this
  simpa using this

theorem tz5 : tsz Tryz.prog 5 = some 1 := by kernel_rfl
theorem tg5 : tag Tryz.prog 5 = some false := by kernel_rfl

def low (x : UInt8) : UInt8 := if 65 ≤ x ∧ x ≤ 90 then x + 32 else x
def small (s : Bytes) : Bytes := s.map low

theorem cv46 (s : Bytes) : evConv Tryz.prog 9 101 (.str s) [] = some (.sl 0 0 s.length 0, [.cells (bytesA s) true]) := by
  simp [evConv, Tryz.underlying9, Tryz.underlying101, Tryz.underlying5]
theorem ln46 (n : Nat) (H : List OB) : evLen Tryz.prog 101 (.sl 0 0 n 0) H = some (.int .i64 n) := by
  simp [evLen, Tryz.underlying101]
theorem ia46 (n i : Nat) (hi : i < n) (H : List OB) : evIndexAddr Tryz.prog 101 (.sl 0 0 n 0) (.int .i64 i) H = some (.ptr 0 i) := by
  simp [evIndexAddr, idx_nat, Tryz.underlying101, tz5, hi]

theorem small46 (s : Bytes) : PureFn Tryz.prog 46 [.str s] (.ret (.str (small s))) := by
  refine PureFn.fit fun hfit => ?_
  have hb : s.length ≤ maxLen' := hfit (.str s) (by simp)
  refine PureFn.of Tryz.func46 rfl (enters_call enters Tryz.func46 rfl) (by simp [Tryz.ntmps46]) ?_
  show W Tryz.prog 30 _ none _ _ _
  refine .seq (.region [] (by decide) ?_)
  simp only [EOps, EDf, isRd, gdA, callOf, isPanic, nextOf, altA, evalOp, St.ev, Av.get, St.put, argT, ofV, thenQ, Nat.reduceEqDiff, ↓reduceIte, lend, AV.hfs, AV.hf, Bool.and_self, List.map_cons, List.map_nil, List.nil_append, List.append_nil, List.getElem?_cons_zero, List.getElem?_cons_succ, List.getElem?_toArray, Option.map_some, Option.bind_some, decide_true, decide_false, beq_false, beq_true, Bool.not_true, Bool.not_false, Bool.false_eq_true, pickA, cond_true, cond_false]
  refine .seq (.region [] (by decide) ?_)
  simp only [EOps, EDf, isRd, gdA, callOf, isPanic, nextOf, altA, evalOp, St.ev, Av.get, St.put, argT, ofV, thenQ, Nat.reduceEqDiff, ↓reduceIte, lend, AV.hfs, AV.hf, Bool.and_self, List.map_cons, List.map_nil, List.nil_append, List.append_nil, List.getElem?_cons_zero, List.getElem?_cons_succ, List.getElem?_toArray, Option.map_some, Option.bind_some, decide_true, decide_false, beq_false, beq_true, Bool.not_true, Bool.not_false, Bool.false_eq_true, pickA, cond_true, cond_false, cv46]
  refine .seq (.seq (.region [] (by decide) ?_))
  simp only [EOps, EDf, isRd, gdA, callOf, isPanic, nextOf, altA, evalOp, St.ev, Av.get, St.put, argT, ofV, thenQ, Nat.reduceEqDiff, ↓reduceIte, lend, AV.hfs, AV.hf, Bool.and_self, List.map_cons, List.map_nil, List.nil_append, List.append_nil, List.getElem?_cons_zero, List.getElem?_cons_succ, List.getElem?_toArray, Option.map_some, Option.bind_some, decide_true, decide_false, beq_false, beq_true, Bool.not_true, Bool.not_false, Bool.false_eq_true, pickA, cond_true, cond_false, ln46]
  refine .block ?_
  refine .loopT (X := Nat) (fun i => [(10, .int .i64 (i : Int)), (9, .int .i64 s.length), (8, .sl 0 0 s.length 0), (3, .sl 0 0 s.length 0)]) (fun i => [.cells (bytesA (mapN low i s)) true]) (fun i => i ≤ s.length) (fun i => s.length - i) 0 (Nat.zero_le _)
    (by simp [holdsT, Av.get]) rfl ?_
  intro i hi
  refine .seq (.region [] (by decide) ?_)
  simp only [EOps, EDf, isRd, gdA, callOf, isPanic, nextOf, altA, evalOp, St.ev, Av.get, St.put, argT, ofV, thenQ, Nat.reduceEqDiff, ↓reduceIte, lend, AV.hfs, AV.hf, Bool.and_self, List.map_cons, List.map_nil, List.nil_append, List.append_nil, List.getElem?_cons_zero, List.getElem?_cons_succ, List.getElem?_toArray, Option.map_some, Option.bind_some, decide_true, decide_false, beq_false, beq_true, Bool.not_true, Bool.not_false, Bool.false_eq_true, pickA, cond_true, cond_false, b_lss]
  by_cases h : i < s.length
  · have hx : s[i]? = some s[i] := List.getElem?_eq_getElem h
    obtain ⟨x, hxx⟩ : ∃ x, s[i] = x := ⟨_, rfl⟩
    rw [hxx] at hx
    have hcell : (bytesA (mapN low i s))[i]? = some (byteA x) := bytesA_get (by rw [mapN_get]; exact hx)
    have hld : evLoad Tryz.prog 5 (.ptr 0 i) [.cells (bytesA (mapN low i s)) true] = some (byteA x) := by
      simp [evLoad, tz5, tg5, ldA, hcell]
    refine .seq (.cond (t := true) (by simp [St.ev, Av.get]; omega) (.skip ?_))
    simp only [EOps, EDf, isRd, gdA, callOf, isPanic, nextOf, altA, evalOp, St.ev, Av.get, St.put, argT, ofV, thenQ, Nat.reduceEqDiff, ↓reduceIte, lend, AV.hfs, AV.hf, Bool.and_self, List.map_cons, List.map_nil, List.nil_append, List.append_nil, List.getElem?_cons_zero, List.getElem?_cons_succ, List.getElem?_toArray, Option.map_some, Option.bind_some, decide_true, decide_false, beq_false, beq_true, Bool.not_true, Bool.not_false, Bool.false_eq_true, pickA, cond_true, cond_false]
    refine .seq (.block (.seq (.region [] (by decide) ?_)))
    simp only [EOps, EDf, isRd, gdA, callOf, isPanic, nextOf, altA, evalOp, St.ev, Av.get, St.put, argT, ofV, thenQ, Nat.reduceEqDiff, ↓reduceIte, lend, AV.hfs, AV.hf, Bool.and_self, List.map_cons, List.map_nil, List.nil_append, List.append_nil, List.getElem?_cons_zero, List.getElem?_cons_succ, List.getElem?_toArray, Option.map_some, Option.bind_some, decide_true, decide_false, beq_false, beq_true, Bool.not_true, Bool.not_false, Bool.false_eq_true, pickA, cond_true, cond_false, ia46 _ _ h, hld]
    refine .seq (.region [] (by decide) ?_)
    have next : ∀ (T : List (Nat × AV)) (b' : Bytes), b' = mapN low (i + 1) s → holdsT T [(10, .int .i64 (i : Int)), (9, .int .i64 s.length), (8, .sl 0 0 s.length 0), (3, .sl 0 0 s.length 0)] → ∀ (c : Code) (Q : Ex → St → Prop),
        c = Code.region 7
                            #[{ dst := some 27,
                                op := Op.binOp BinOp.add 3 (Operand.tmp 10) (Operand.const (Value.int IntKind.i64 1)) 3,
                                type := 3, pos := "dn.go:32", after := #[], guard := none },
                              { dst := some 10, op := Op.move (Operand.tmp 27), type := 3, pos := "dn.go:32",
                                after := #[{ on := 0, ground := Ground.data }], guard := none }]
                            false →
        W Tryz.prog 30 0 none c (thenQ (fun a' => ∃ y, y ≤ s.length ∧ s.length - y < s.length - i ∧ holdsT a'.T [(10, .int .i64 (y : Int)), (9, .int .i64 s.length), (8, .sl 0 0 s.length 0), (3, .sl 0 0 s.length 0)] ∧ a'.H = [.cells (bytesA (mapN low y s)) true] ∧ a'.D = []) Q) ⟨T, [.cells (bytesA b') true], []⟩ := by
      rintro T b' rfl ⟨t10, t9, t8, t3, _⟩ c Q rfl
      refine .region [] (by decide) ?_
      have hadd : evBin Tryz.prog .add 3 (.int .i64 (i : Int)) (.int .i64 1) = some (.int .i64 ((i + 1 : Nat) : Int)) := by
        rw [b_add64 _ _ (by simp only [maxLen'] at hb; omega)]; simp
      simp only [EOps, EDf, isRd, gdA, callOf, isPanic, nextOf, altA, evalOp, St.ev, Av.get, St.put, argT, ofV, thenQ, Nat.reduceEqDiff, ↓reduceIte, lend, AV.hfs, AV.hf, Bool.and_self, List.map_cons, List.map_nil, List.nil_append, List.append_nil, List.getElem?_cons_zero, List.getElem?_cons_succ, List.getElem?_toArray, Option.map_some, Option.bind_some, decide_true, decide_false, beq_false, beq_true, Bool.not_true, Bool.not_false, Bool.false_eq_true, pickA, cond_true, cond_false, t10, hadd]
      refine ⟨i + 1, by omega, by omega, ⟨?_, ?_, ?_, ?_, trivial⟩, rfl, trivial⟩ <;> simp [Av.get, t9, t8, t3]
    rcases Nat.lt_or_ge x.toNat 65 with hlo | hlo
    · have h1 : ¬ ((x.toNat : Int) ≥ 65) := by omega
      simp only [EOps, EDf, isRd, gdA, callOf, isPanic, nextOf, altA, evalOp, St.ev, Av.get, St.put, argT, ofV, thenQ, Nat.reduceEqDiff, ↓reduceIte, lend, AV.hfs, AV.hf, Bool.and_self, List.map_cons, List.map_nil, List.nil_append, List.append_nil, List.getElem?_cons_zero, List.getElem?_cons_succ, List.getElem?_toArray, Option.map_some, Option.bind_some, decide_true, decide_false, beq_false, beq_true, Bool.not_true, Bool.not_false, Bool.false_eq_true, pickA, cond_true, cond_false, b_geq, b_leq, h1, byteA]
      refine .cond (t := false) rfl (.skip ?_)
      simp only [EOps, EDf, isRd, gdA, callOf, isPanic, nextOf, altA, evalOp, St.ev, Av.get, St.put, argT, ofV, thenQ, Nat.reduceEqDiff, ↓reduceIte, lend, AV.hfs, AV.hf, Bool.and_self, List.map_cons, List.map_nil, List.nil_append, List.append_nil, List.getElem?_cons_zero, List.getElem?_cons_succ, List.getElem?_toArray, Option.map_some, Option.bind_some, decide_true, decide_false, beq_false, beq_true, Bool.not_true, Bool.not_false, Bool.false_eq_true, pickA, cond_true, cond_false, blockQ]
      refine next _ _ ?_ ?_ _ _ rfl
      · rw [← mapN_set low i s x hx]
        have : low x = x := by
          unfold low; rw [if_neg]; rintro ⟨h1, _⟩; have := UInt8.le_iff_toNat_le.1 h1; simp at this; omega
        rw [this, set_same (by rw [mapN_get]; exact hx)]
      · simp [holdsT, Av.get]
    · rcases Nat.lt_or_ge 90 x.toNat with hhi | hhi
      · have h1 : ((x.toNat : Int) ≥ 65) := by omega
        have h2 : ¬ ((x.toNat : Int) ≤ 90) := by omega
        simp only [EOps, EDf, isRd, gdA, callOf, isPanic, nextOf, altA, evalOp, St.ev, Av.get, St.put, argT, ofV, thenQ, Nat.reduceEqDiff, ↓reduceIte, lend, AV.hfs, AV.hf, Bool.and_self, List.map_cons, List.map_nil, List.nil_append, List.append_nil, List.getElem?_cons_zero, List.getElem?_cons_succ, List.getElem?_toArray, Option.map_some, Option.bind_some, decide_true, decide_false, beq_false, beq_true, Bool.not_true, Bool.not_false, Bool.false_eq_true, pickA, cond_true, cond_false, b_geq, b_leq, h1, h2, byteA]
        refine .cond (t := false) rfl (.skip ?_)
        simp only [EOps, EDf, isRd, gdA, callOf, isPanic, nextOf, altA, evalOp, St.ev, Av.get, St.put, argT, ofV, thenQ, Nat.reduceEqDiff, ↓reduceIte, lend, AV.hfs, AV.hf, Bool.and_self, List.map_cons, List.map_nil, List.nil_append, List.append_nil, List.getElem?_cons_zero, List.getElem?_cons_succ, List.getElem?_toArray, Option.map_some, Option.bind_some, decide_true, decide_false, beq_false, beq_true, Bool.not_true, Bool.not_false, Bool.false_eq_true, pickA, cond_true, cond_false, blockQ]
        refine next _ _ ?_ ?_ _ _ rfl
        · rw [← mapN_set low i s x hx]
          have : low x = x := by
            unfold low; rw [if_neg]; rintro ⟨_, h1⟩; have := UInt8.le_iff_toNat_le.1 h1; simp at this; omega
          rw [this, set_same (by rw [mapN_get]; exact hx)]
        · simp [holdsT, Av.get]
      · have h1 : ((x.toNat : Int) ≥ 65) := by omega
        have h2 : ((x.toNat : Int) ≤ 90) := by omega
        simp only [EOps, EDf, isRd, gdA, callOf, isPanic, nextOf, altA, evalOp, St.ev, Av.get, St.put, argT, ofV, thenQ, Nat.reduceEqDiff, ↓reduceIte, lend, AV.hfs, AV.hf, Bool.and_self, List.map_cons, List.map_nil, List.nil_append, List.append_nil, List.getElem?_cons_zero, List.getElem?_cons_succ, List.getElem?_toArray, Option.map_some, Option.bind_some, decide_true, decide_false, beq_false, beq_true, Bool.not_true, Bool.not_false, Bool.false_eq_true, pickA, cond_true, cond_false, b_geq, b_leq, h1, h2, byteA]
        refine .cond (t := true) rfl ?_
        refine .region [] (by decide) ?_
        have ha : evBin Tryz.prog .add 5 (.int .u8 (x.toNat : Int)) (.int .u8 97) = some (.int .u8 ((x.toNat : Int) + 97)) := by
          simp [evBin, IntKind.wrap, IntKind.bits, IntKind.signed]; omega
        have hs : evBin Tryz.prog .sub 5 (.int .u8 ((x.toNat : Int) + 97)) (.int .u8 65) = some (byteA (low x)) := by
          have hl : (low x).toNat = x.toNat + 32 := by
            unfold low
            rw [if_pos ⟨UInt8.le_iff_toNat_le.2 (by simpa using hlo), UInt8.le_iff_toNat_le.2 (by simpa using hhi)⟩]
            rw [UInt8.toNat_add]; simp; omega
          simp [evBin, IntKind.wrap, IntKind.bits, IntKind.signed, byteA, hl]; omega
        have hst : evStore Tryz.prog 5 (.ptr 0 i) (byteA (low x)) [.cells (bytesA (mapN low i s)) true] = some [.cells (bytesA (mapN low (i + 1) s)) true] := by
          have hl : i + 1 ≤ (bytesA (mapN low i s)).length := by rw [bytesA_len, mapN_len]; omega
          have hset : setC (bytesA (mapN low i s)) i [byteA (low x)] = bytesA (mapN low (i + 1) s) := by rw [setC_one, bytesA_set, mapN_set low i s x hx]
          simp [evStore, tz5, byteA, AV.cells, AV.isC, hl]
          exact hset
        simp only [EOps, EDf, isRd, gdA, callOf, isPanic, nextOf, altA, evalOp, St.ev, Av.get, St.put, argT, ofV, thenQ, Nat.reduceEqDiff, ↓reduceIte, lend, AV.hfs, AV.hf, Bool.and_self, List.map_cons, List.map_nil, List.nil_append, List.append_nil, List.getElem?_cons_zero, List.getElem?_cons_succ, List.getElem?_toArray, Option.map_some, Option.bind_some, decide_true, decide_false, beq_false, beq_true, Bool.not_true, Bool.not_false, Bool.false_eq_true, pickA, cond_true, cond_false, ha, hs, ia46 _ _ h, hst, blockQ]
        refine next _ _ rfl ?_ _ _ rfl
        simp [holdsT, Av.get]
  · have hi' : i = s.length := by omega
    subst hi'
    refine .seq (.cond (t := false) (by simp [St.ev, Av.get]) (.exit ?_))
    simp only [EOps, EDf, isRd, gdA, callOf, isPanic, nextOf, altA, evalOp, St.ev, Av.get, St.put, argT, ofV, thenQ, Nat.reduceEqDiff, ↓reduceIte, lend, AV.hfs, AV.hf, Bool.and_self, List.map_cons, List.map_nil, List.nil_append, List.append_nil, List.getElem?_cons_zero, List.getElem?_cons_succ, List.getElem?_toArray, Option.map_some, Option.bind_some, decide_true, decide_false, beq_false, beq_true, Bool.not_true, Bool.not_false, Bool.false_eq_true, pickA, cond_true, cond_false, blockQ]
    refine .seq (.region [] (by decide) ?_)
    have hcv : evConv Tryz.prog 101 9 (.sl 0 0 s.length 0) [.cells (bytesA (mapN low s.length s)) true] = some (.str (small s), [.cells (bytesA (mapN low s.length s)) true]) := by
      rw [mapN_all low _ _ (Nat.le_refl _)]
      have hl : (bytesA (s.map low)).length = s.length := by simp [bytesA]
      simp [evConv, Tryz.underlying9, Tryz.underlying101, Tryz.underlying5, hl, List.take_of_length_le, unbyte_bytesA, small]
    simp only [EOps, EDf, isRd, gdA, callOf, isPanic, nextOf, altA, evalOp, St.ev, Av.get, St.put, argT, ofV, thenQ, Nat.reduceEqDiff, ↓reduceIte, lend, AV.hfs, AV.hf, Bool.and_self, List.map_cons, List.map_nil, List.nil_append, List.append_nil, List.getElem?_cons_zero, List.getElem?_cons_succ, List.getElem?_toArray, Option.map_some, Option.bind_some, decide_true, decide_false, beq_false, beq_true, Bool.not_true, Bool.not_false, Bool.false_eq_true, pickA, cond_true, cond_false, hcv]
    exact .ret ⟨_, rfl, _, rfl, .refl _⟩
end Go.Proofs.YtmeijkidjifagaaGreat
namespace Go.Proofs.YtmeijkidjifagaaGreat
set_option linter.unusedVariables false
set_option linter.unusedSimpArgs false
open Go Go.Av

theorem within113 (x lo hi : Int) : PureFn Tryz.prog 113 [.int .u8 x, .int .u8 lo, .int .u8 hi] (.ret (.bool (decide (x ≥ lo) && decide (x ≤ hi)))) := by
  refine PureFn.of Tryz.func113 rfl (enters_call enters Tryz.func113 rfl) (by simp [Tryz.ntmps113]) ?_
  show W Tryz.prog 15 _ none _ _ _
  refine .seq (.region [] (by decide) ?_)
  simp only [EOps, EDf, isRd, gdA, callOf, isPanic, nextOf, altA, evalOp, St.ev, Av.get, St.put, argT, ofV, thenQ, Nat.reduceEqDiff, ↓reduceIte, lend, AV.hfs, AV.hf, Bool.and_self, List.map_cons, List.map_nil, List.nil_append, List.append_nil, List.getElem?_cons_zero, List.getElem?_cons_succ, List.getElem?_toArray, Option.map_some, Option.bind_some, decide_true, decide_false, beq_false, beq_true, Bool.not_true, Bool.not_false, Bool.false_eq_true, pickA, cond_true, cond_false]
  refine .seq (.region [] (by decide) ?_)
  generalize h1 : decide (x ≥ lo) = b1
  generalize h2 : decide (x ≤ hi) = b2
  cases b1 <;> cases b2 <;> simp only [EOps, EDf, isRd, gdA, callOf, isPanic, nextOf, altA, evalOp, St.ev, Av.get, St.put, argT, ofV, thenQ, Nat.reduceEqDiff, ↓reduceIte, lend, AV.hfs, AV.hf, Bool.and_self, List.map_cons, List.map_nil, List.nil_append, List.append_nil, List.getElem?_cons_zero, List.getElem?_cons_succ, List.getElem?_toArray, Option.map_some, Option.bind_some, decide_true, decide_false, beq_false, beq_true, Bool.not_true, Bool.not_false, Bool.false_eq_true, pickA, cond_true, cond_false, b_geq, b_leq, h1, h2] <;> exact .ret ⟨_, rfl, _, rfl, .refl _⟩

theorem letter80 (x : Int) : PureFn Tryz.prog 80 [.int .u8 x] (.ret (.bool (decide (x ≥ 65) && decide (x ≤ 90) || decide (x ≥ 97) && decide (x ≤ 122)))) := by
  refine PureFn.of Tryz.func80 rfl (enters_call enters Tryz.func80 rfl) (by simp [Tryz.ntmps80]) ?_
  show W Tryz.prog 17 _ none _ _ _
  refine .seq (.region [] (by decide) ?_)
  simp only [EOps, EDf, isRd, gdA, callOf, isPanic, nextOf, altA, evalOp, St.ev, Av.get, St.put, argT, ofV, thenQ, Nat.reduceEqDiff, ↓reduceIte, lend, AV.hfs, AV.hf, Bool.and_self, List.map_cons, List.map_nil, List.nil_append, List.append_nil, List.getElem?_cons_zero, List.getElem?_cons_succ, List.getElem?_toArray, Option.map_some, Option.bind_some, decide_true, decide_false, beq_false, beq_true, Bool.not_true, Bool.not_false, Bool.false_eq_true, pickA, cond_true, cond_false]
  refine .seq (.region [] (by decide) ?_)
  generalize h1 : decide (x ≥ 65) = b1
  generalize h2 : decide (x ≤ 90) = b2
  generalize h3 : decide (x ≥ 97) = b3
  generalize h4 : decide (x ≤ 122) = b4
  cases b1 <;> cases b2 <;> cases b3 <;> cases b4 <;> simp only [EOps, EDf, isRd, gdA, callOf, isPanic, nextOf, altA, evalOp, St.ev, Av.get, St.put, argT, ofV, thenQ, Nat.reduceEqDiff, ↓reduceIte, lend, AV.hfs, AV.hf, Bool.and_self, List.map_cons, List.map_nil, List.nil_append, List.append_nil, List.getElem?_cons_zero, List.getElem?_cons_succ, List.getElem?_toArray, Option.map_some, Option.bind_some, decide_true, decide_false, beq_false, beq_true, Bool.not_true, Bool.not_false, Bool.false_eq_true, pickA, cond_true, cond_false, b_geq, b_leq, h1, h2, h3, h4] <;> exact .ret ⟨_, rfl, _, rfl, .refl _⟩

theorem ln9 (s : Bytes) (H : List OB) : evLen Tryz.prog 9 (.str s) H = some (.int .i64 s.length) := by
  simp [evLen, Tryz.underlying9]

theorem value48 (s : Bytes) : PureFn Tryz.prog 48 [.str s] (.ret (.bool (decide ((s.length : Int) ≥ 1) && decide ((s.length : Int) ≤ 2048)))) := by
  refine PureFn.of Tryz.func48 rfl (enters_call enters Tryz.func48 rfl) (by simp [Tryz.ntmps48]) ?_
  show W Tryz.prog 11 _ none _ _ _
  refine .seq (.region [] (by decide) ?_)
  simp only [EOps, EDf, isRd, gdA, callOf, isPanic, nextOf, altA, evalOp, St.ev, Av.get, St.put, argT, ofV, thenQ, Nat.reduceEqDiff, ↓reduceIte, lend, AV.hfs, AV.hf, Bool.and_self, List.map_cons, List.map_nil, List.nil_append, List.append_nil, List.getElem?_cons_zero, List.getElem?_cons_succ, List.getElem?_toArray, Option.map_some, Option.bind_some, decide_true, decide_false, beq_false, beq_true, Bool.not_true, Bool.not_false, Bool.false_eq_true, pickA, cond_true, cond_false]
  refine .seq (.region [] (by decide) ?_)
  generalize h1 : decide ((s.length : Int) ≥ 1) = b1
  generalize h2 : decide ((s.length : Int) ≤ 2048) = b2
  cases b1 <;> cases b2 <;> simp only [EOps, EDf, isRd, gdA, callOf, isPanic, nextOf, altA, evalOp, St.ev, Av.get, St.put, argT, ofV, thenQ, Nat.reduceEqDiff, ↓reduceIte, lend, AV.hfs, AV.hf, Bool.and_self, List.map_cons, List.map_nil, List.nil_append, List.append_nil, List.getElem?_cons_zero, List.getElem?_cons_succ, List.getElem?_toArray, Option.map_some, Option.bind_some, decide_true, decide_false, beq_false, beq_true, Bool.not_true, Bool.not_false, Bool.false_eq_true, pickA, cond_true, cond_false, b_geq, b_leq, h1, h2, ln9] <;> exact .ret ⟨_, rfl, _, rfl, .refl _⟩
end Go.Proofs.YtmeijkidjifagaaGreat
namespace Go.Proofs.YtmeijkidjifagaaGreat
set_option linter.unusedVariables false
set_option linter.unusedSimpArgs false
open Go Go.Av

def okI (f : Bool) (x : Int) : Bool :=
  !(!(decide (x ≥ 97) && decide (x ≤ 122)) && (!(decide (x ≥ 65) && decide (x ≤ 90)) && (f || (!(decide (x ≥ 48) && decide (x ≤ 57)) && (x != 45)))))
def allB : Nat → Bytes → Bool
  | _, [] => true
  | i, x :: l => okI (i == 0) x.toNat && allB (i + 1) l
def isName (s : Bytes) : Bool := allB 0 s && (decide ((s.length : Int) ≥ 1) && decide ((s.length : Int) ≤ 64))

theorem ld5b (s : Bytes) (i : Nat) (x : UInt8) (hx : s[i]? = some x) : evLoad Tryz.prog 5 (.ptr 0 i) [.cells (bytesA s) true] = some (.int .u8 x.toNat) := by
  have hcell : (bytesA s)[i]? = some (byteA x) := bytesA_get hx
  simp [evLoad, tz5, tg5, ldA, hcell, byteA]
theorem u_not (b : Bool) : evUn .not (.bool b) = some (.bool !b) := rfl

theorem name98 (s : Bytes) : PureFn Tryz.prog 98 [.str s] (.ret (.bool (isName s))) := by
  refine PureFn.fit fun hfit => ?_
  have hb : s.length ≤ maxLen' := hfit (.str s) (by simp)
  refine PureFn.of Tryz.func98 rfl (enters_call enters Tryz.func98 rfl) (by simp [Tryz.ntmps98]) ?_
  show W Tryz.prog 43 _ none _ _ _
  refine .seq (.region [] (by decide) ?_)
  simp only [EOps, EDf, isRd, gdA, callOf, isPanic, nextOf, altA, evalOp, St.ev, Av.get, St.put, argT, ofV, thenQ, Nat.reduceEqDiff, ↓reduceIte, lend, AV.hfs, AV.hf, Bool.and_self, List.map_cons, List.map_nil, List.nil_append, List.append_nil, List.getElem?_cons_zero, List.getElem?_cons_succ, List.getElem?_toArray, Option.map_some, Option.bind_some, decide_true, decide_false, beq_false, beq_true, Bool.not_true, Bool.not_false, Bool.false_eq_true, pickA, cond_true, cond_false]
  refine .seq (.seq (.region [] (by decide) ?_))
  simp only [EOps, EDf, isRd, gdA, callOf, isPanic, nextOf, altA, evalOp, St.ev, Av.get, St.put, argT, ofV, thenQ, Nat.reduceEqDiff, ↓reduceIte, lend, AV.hfs, AV.hf, Bool.and_self, List.map_cons, List.map_nil, List.nil_append, List.append_nil, List.getElem?_cons_zero, List.getElem?_cons_succ, List.getElem?_toArray, Option.map_some, Option.bind_some, decide_true, decide_false, beq_false, beq_true, Bool.not_true, Bool.not_false, Bool.false_eq_true, pickA, cond_true, cond_false, cv46, ln46]
  refine .block ?_
  refine .loopT (X := Nat) (fun i => [(8, .int .i64 (i : Int)), (7, .int .i64 s.length), (6, .sl 0 0 s.length 0), (0, .str s)]) (fun i => [.cells (bytesA s) true]) (fun i => i ≤ s.length ∧ allB i (s.drop i) = allB 0 s) (fun i => s.length - i) 0 ⟨Nat.zero_le _, rfl⟩
    (by simp [holdsT, Av.get]) rfl ?_
  rintro i ⟨hi, hall⟩
  refine .seq (.region [] (by decide) ?_)
  simp only [EOps, EDf, isRd, gdA, callOf, isPanic, nextOf, altA, evalOp, St.ev, Av.get, St.put, argT, ofV, thenQ, Nat.reduceEqDiff, ↓reduceIte, lend, AV.hfs, AV.hf, Bool.and_self, List.map_cons, List.map_nil, List.nil_append, List.append_nil, List.getElem?_cons_zero, List.getElem?_cons_succ, List.getElem?_toArray, Option.map_some, Option.bind_some, decide_true, decide_false, beq_false, beq_true, Bool.not_true, Bool.not_false, Bool.false_eq_true, pickA, cond_true, cond_false, b_lss]
  by_cases h : i < s.length
  · obtain ⟨x, hx⟩ : ∃ x, s[i]? = some x := ⟨s[i], List.getElem?_eq_getElem h⟩
    have hdrop : s.drop i = x :: s.drop (i + 1) := by
      rw [List.drop_eq_getElem_cons h]; rw [List.getElem?_eq_getElem h] at hx; cases hx; rfl
    rw [hdrop, allB] at hall
    refine .seq (.cond (t := true) (by simp [St.ev, Av.get]; omega) (.skip ?_))
    simp only [EOps, EDf, isRd, gdA, callOf, isPanic, nextOf, altA, evalOp, St.ev, Av.get, St.put, argT, ofV, thenQ, Nat.reduceEqDiff, ↓reduceIte, lend, AV.hfs, AV.hf, Bool.and_self, List.map_cons, List.map_nil, List.nil_append, List.append_nil, List.getElem?_cons_zero, List.getElem?_cons_succ, List.getElem?_toArray, Option.map_some, Option.bind_some, decide_true, decide_false, beq_false, beq_true, Bool.not_true, Bool.not_false, Bool.false_eq_true, pickA, cond_true, cond_false]
    refine .seqP (okI (i == 0) x.toNat = true) [(8, .int .i64 (i : Int)), (7, .int .i64 s.length), (6, .sl 0 0 s.length 0), (0, .str s)] [.cells (bytesA s) true] (x := Code.block 1 _) ?_ ?_
    · refine .block (.seq (.region [] (by decide) ?_))
      simp only [EOps, EDf, isRd, gdA, callOf, isPanic, nextOf, altA, evalOp, St.ev, Av.get, St.put, argT, ofV, thenQ, Nat.reduceEqDiff, ↓reduceIte, lend, AV.hfs, AV.hf, Bool.and_self, List.map_cons, List.map_nil, List.nil_append, List.append_nil, List.getElem?_cons_zero, List.getElem?_cons_succ, List.getElem?_toArray, Option.map_some, Option.bind_some, decide_true, decide_false, beq_false, beq_true, Bool.not_true, Bool.not_false, Bool.false_eq_true, pickA, cond_true, cond_false, ia46 _ _ h, ld5b s i x hx]
      generalize hw1 : (decide ((x.toNat : Int) ≥ 97) && decide ((x.toNat : Int) ≤ 122)) = w1
      generalize hw2 : (decide ((x.toNat : Int) ≥ 65) && decide ((x.toNat : Int) ≤ 90)) = w2
      generalize hw3 : (decide ((x.toNat : Int) ≥ 48) && decide ((x.toNat : Int) ≤ 57)) = w3
      have p1 := within113 x.toNat 97 122
      have p2 := within113 x.toNat 65 90
      have p3 := within113 x.toNat 48 57
      rw [hw1] at p1; rw [hw2] at p2; rw [hw3] at p3
      have hok : okI (i == 0) x.toNat = !(!w1 && (!w2 && ((i == 0) || (!w3 && ((x.toNat : Int) != 45))))) := by simp only [okI, hw1, hw2, hw3]
      have bad : okI (i == 0) x.toNat = false → isName s = false := by
        intro h; rw [h] at hall; simp [isName, ← hall]
      cases w1 with
      | true =>
        refine .seq (.region [.pure (.ret (.bool true))] (by decide) ?_)
        simp only [EOps, EDf, isRd, gdA, callOf, isPanic, nextOf, altA, evalOp, St.ev, Av.get, St.put, argT, ofV, thenQ, Nat.reduceEqDiff, ↓reduceIte, lend, AV.hfs, AV.hf, Bool.and_self, List.map_cons, List.map_nil, List.nil_append, List.append_nil, List.getElem?_cons_zero, List.getElem?_cons_succ, List.getElem?_toArray, Option.map_some, Option.bind_some, decide_true, decide_false, beq_false, beq_true, Bool.not_true, Bool.not_false, Bool.false_eq_true, pickA, cond_true, cond_false, u_not]
        refine ⟨p1, ?_⟩
        refine .cond (t := false) rfl (.skip ?_)
        refine ⟨by rw [hok]; rfl, ?_, rfl, rfl⟩; simp [holdsT, Av.get]
      | false =>
        cases w2 with
        | true =>
          refine .seq (.region [.pure (.ret (.bool false)), .pure (.ret (.bool true))] (by decide) ?_)
          simp only [EOps, EDf, isRd, gdA, callOf, isPanic, nextOf, altA, evalOp, St.ev, Av.get, St.put, argT, ofV, thenQ, Nat.reduceEqDiff, ↓reduceIte, lend, AV.hfs, AV.hf, Bool.and_self, List.map_cons, List.map_nil, List.nil_append, List.append_nil, List.getElem?_cons_zero, List.getElem?_cons_succ, List.getElem?_toArray, Option.map_some, Option.bind_some, decide_true, decide_false, beq_false, beq_true, Bool.not_true, Bool.not_false, Bool.false_eq_true, pickA, cond_true, cond_false, u_not]
          refine ⟨p1, p2, ?_⟩
          refine .cond (t := false) rfl (.skip ?_)
          refine ⟨by rw [hok]; rfl, ?_, rfl, rfl⟩; simp [holdsT, Av.get]
        | false =>
          by_cases h0 : i = 0
          · subst h0
            have hb' : isName s = false := bad (by rw [hok]; rfl)
            have e0 : (((0 : Nat) : Int) == 0) = true := rfl
            refine .seq (.region [.pure (.ret (.bool false)), .pure (.ret (.bool false))] (by decide) ?_)
            simp only [EOps, EDf, isRd, gdA, callOf, isPanic, nextOf, altA, evalOp, St.ev, Av.get, St.put, argT, ofV, thenQ, Nat.reduceEqDiff, ↓reduceIte, lend, AV.hfs, AV.hf, Bool.and_self, List.map_cons, List.map_nil, List.nil_append, List.append_nil, List.getElem?_cons_zero, List.getElem?_cons_succ, List.getElem?_toArray, Option.map_some, Option.bind_some, decide_true, decide_false, beq_false, beq_true, Bool.not_true, Bool.not_false, Bool.false_eq_true, pickA, cond_true, cond_false, u_not, b_eql, e0]
            refine ⟨p1, p2, ?_⟩
            refine .cond (t := true) rfl (.seq (.region [] (by decide) ?_))
            simp only [EOps, EDf, isRd, gdA, callOf, isPanic, nextOf, altA, evalOp, St.ev, Av.get, St.put, argT, ofV, thenQ, Nat.reduceEqDiff, ↓reduceIte, lend, AV.hfs, AV.hf, Bool.and_self, List.map_cons, List.map_nil, List.nil_append, List.append_nil, List.getElem?_cons_zero, List.getElem?_cons_succ, List.getElem?_toArray, Option.map_some, Option.bind_some, decide_true, decide_false, beq_false, beq_true, Bool.not_true, Bool.not_false, Bool.false_eq_true, pickA, cond_true, cond_false]
            refine .ret ?_
            rw [hb']
            exact ⟨_, rfl, _, rfl, .refl _⟩
          · have e0 : ((i : Int) == 0) = false := by simpa using h0
            have e1 : (i == 0) = false := by simpa using h0
            cases w3 with
            | true =>
              rw [e1] at hok
              refine .seq (.region [.pure (.ret (.bool false)), .pure (.ret (.bool false)), .pure (.ret (.bool true))] (by decide) ?_)
              simp only [EOps, EDf, isRd, gdA, callOf, isPanic, nextOf, altA, evalOp, St.ev, Av.get, St.put, argT, ofV, thenQ, Nat.reduceEqDiff, ↓reduceIte, lend, AV.hfs, AV.hf, Bool.and_self, List.map_cons, List.map_nil, List.nil_append, List.append_nil, List.getElem?_cons_zero, List.getElem?_cons_succ, List.getElem?_toArray, Option.map_some, Option.bind_some, decide_true, decide_false, beq_false, beq_true, Bool.not_true, Bool.not_false, Bool.false_eq_true, pickA, cond_true, cond_false, u_not, b_eql, e0]
              refine ⟨p1, p2, p3, ?_⟩
              refine .cond (t := false) rfl (.skip ?_)
              refine ⟨by rw [e1, hok]; rfl, ?_, rfl, rfl⟩; simp [holdsT, Av.get]
            | false =>
              refine .seq (.region [.pure (.ret (.bool false)), .pure (.ret (.bool false)), .pure (.ret (.bool false))] (by decide) ?_)
              generalize h45 : ((x.toNat : Int) != 45) = w4
              rw [h45, e1] at hok
              cases w4 with
              | true =>
                have hb' : isName s = false := bad (by rw [e1, hok]; rfl)
                simp only [EOps, EDf, isRd, gdA, callOf, isPanic, nextOf, altA, evalOp, St.ev, Av.get, St.put, argT, ofV, thenQ, Nat.reduceEqDiff, ↓reduceIte, lend, AV.hfs, AV.hf, Bool.and_self, List.map_cons, List.map_nil, List.nil_append, List.append_nil, List.getElem?_cons_zero, List.getElem?_cons_succ, List.getElem?_toArray, Option.map_some, Option.bind_some, decide_true, decide_false, beq_false, beq_true, Bool.not_true, Bool.not_false, Bool.false_eq_true, pickA, cond_true, cond_false, u_not, b_eql, b_neq, e0, h45]
                refine ⟨p1, p2, p3, ?_⟩
                refine .cond (t := true) rfl (.seq (.region [] (by decide) ?_))
                simp only [EOps, EDf, isRd, gdA, callOf, isPanic, nextOf, altA, evalOp, St.ev, Av.get, St.put, argT, ofV, thenQ, Nat.reduceEqDiff, ↓reduceIte, lend, AV.hfs, AV.hf, Bool.and_self, List.map_cons, List.map_nil, List.nil_append, List.append_nil, List.getElem?_cons_zero, List.getElem?_cons_succ, List.getElem?_toArray, Option.map_some, Option.bind_some, decide_true, decide_false, beq_false, beq_true, Bool.not_true, Bool.not_false, Bool.false_eq_true, pickA, cond_true, cond_false]
                refine .ret ?_
                rw [hb']
                exact ⟨_, rfl, _, rfl, .refl _⟩
              | false =>
                simp only [EOps, EDf, isRd, gdA, callOf, isPanic, nextOf, altA, evalOp, St.ev, Av.get, St.put, argT, ofV, thenQ, Nat.reduceEqDiff, ↓reduceIte, lend, AV.hfs, AV.hf, Bool.and_self, List.map_cons, List.map_nil, List.nil_append, List.append_nil, List.getElem?_cons_zero, List.getElem?_cons_succ, List.getElem?_toArray, Option.map_some, Option.bind_some, decide_true, decide_false, beq_false, beq_true, Bool.not_true, Bool.not_false, Bool.false_eq_true, pickA, cond_true, cond_false, u_not, b_eql, b_neq, e0, h45]
                refine ⟨p1, p2, p3, ?_⟩
                refine .cond (t := false) rfl (.skip ?_)
                refine ⟨by rw [e1, hok]; rfl, ?_, rfl, rfl⟩; simp [holdsT, Av.get]
    · intro hgood
      rw [hgood, Bool.true_and] at hall
      refine .region [] (by decide) ?_
      have hadd : evBin Tryz.prog .add 3 (.int .i64 (i : Int)) (.int .i64 1) = some (.int .i64 ((i + 1 : Nat) : Int)) := by
        rw [b_add64 _ _ (by simp only [maxLen'] at hb; omega)]; simp
      simp only [EOps, EDf, isRd, gdA, callOf, isPanic, nextOf, altA, evalOp, St.ev, Av.get, St.put, argT, ofV, thenQ, Nat.reduceEqDiff, ↓reduceIte, lend, AV.hfs, AV.hf, Bool.and_self, List.map_cons, List.map_nil, List.nil_append, List.append_nil, List.getElem?_cons_zero, List.getElem?_cons_succ, List.getElem?_toArray, Option.map_some, Option.bind_some, decide_true, decide_false, beq_false, beq_true, Bool.not_true, Bool.not_false, Bool.false_eq_true, pickA, cond_true, cond_false, hadd]
      refine ⟨i + 1, ⟨by omega, hall⟩, by omega, ?_, trivial, trivial⟩
      simp [holdsT, Av.get]
  · have hi' : i = s.length := by omega
    subst hi'
    refine .seq (.cond (t := false) (by simp [St.ev, Av.get]) (.exit ?_))
    simp only [EOps, EDf, isRd, gdA, callOf, isPanic, nextOf, altA, evalOp, St.ev, Av.get, St.put, argT, ofV, thenQ, Nat.reduceEqDiff, ↓reduceIte, lend, AV.hfs, AV.hf, Bool.and_self, List.map_cons, List.map_nil, List.nil_append, List.append_nil, List.getElem?_cons_zero, List.getElem?_cons_succ, List.getElem?_toArray, Option.map_some, Option.bind_some, decide_true, decide_false, beq_false, beq_true, Bool.not_true, Bool.not_false, Bool.false_eq_true, pickA, cond_true, cond_false, blockQ]
    refine .seq (.region [] (by decide) ?_)
    have ht : allB 0 s = true := by rw [← hall, List.drop_length]; rfl
    have hres : isName s = (decide ((s.length : Int) ≥ 1) && decide ((s.length : Int) ≤ 64)) := by simp [isName, ht]
    rw [hres]
    generalize h1 : decide ((s.length : Int) ≥ 1) = b1
    generalize h2 : decide ((s.length : Int) ≤ 64) = b2
    cases b1 <;> cases b2 <;> simp only [EOps, EDf, isRd, gdA, callOf, isPanic, nextOf, altA, evalOp, St.ev, Av.get, St.put, argT, ofV, thenQ, Nat.reduceEqDiff, ↓reduceIte, lend, AV.hfs, AV.hf, Bool.and_self, List.map_cons, List.map_nil, List.nil_append, List.append_nil, List.getElem?_cons_zero, List.getElem?_cons_succ, List.getElem?_toArray, Option.map_some, Option.bind_some, decide_true, decide_false, beq_false, beq_true, Bool.not_true, Bool.not_false, Bool.false_eq_true, pickA, cond_true, cond_false, b_geq, b_leq, h1, h2, ln9] <;> exact .ret ⟨_, rfl, _, rfl, .refl _⟩
end Go.Proofs.YtmeijkidjifagaaGreat
namespace Go.Proofs.YtmeijkidjifagaaGreat
set_option linter.unusedVariables false
set_option linter.unusedSimpArgs false
open Go Go.Av

/-- The shape of an element. -/
def shp : Nat → AV → Prop
  | 0, v => v.one = true
  | n + 1, v => ∃ l, v = .agg l ∧ l.length = n

def fI (p : AV → Bool) : Nat → List AV → Int
  | _, [] => -1
  | i, v :: l => if p v = true then (i : Int) else fI p (i + 1) l

theorem fI_pos (p : AV → Bool) : ∀ (l : List AV) (i : Nat), (fI p i l ≥ 0) ↔ l.any p = true
  | [], _ => by simp [fI]
  | v :: l, i => by
    have ih := fI_pos p l (i + 1)
    simp only [fI, List.any_cons, Bool.or_eq_true]
    by_cases h : p v = true
    · simp [h]
    · rw [if_neg h]; simpa [h] using ih
theorem fI_any (p : AV → Bool) (l : List AV) (i : Nat) : decide (fI p i l ≥ 0) = l.any p := by
  have := fI_pos p l i
  cases h : l.any p with
  | true => exact decide_eq_true (this.2 h)
  | false => exact decide_eq_false (fun hh => by rw [this.1 hh] at h; cases h)

theorem shp_len {wd : Nat} {v : AV} (h : shp wd v) : v.cells.length = esz wd := by
  cases wd with
  | zero => rw [one_cells h]; rfl
  | succ n => obtain ⟨l, rfl, hl⟩ := h; exact hl
theorem shp_ld {P : Program} {e wd : Nat} (hz : tsz P e = some (esz wd)) (hg : tag P e = some (decide (wd ≠ 0))) {v : AV} (h : shp wd v) (H : List OB) : evLoad P e (.vptr v.cells) H = some v := by
  cases wd with
  | zero =>
    rw [one_cells h]
    simp [evLoad, hz, hg, ldA, esz]
  | succ n =>
    obtain ⟨l, rfl, hl⟩ := h
    subst hl
    simp [evLoad, hz, hg, ldA, esz, AV.cells]

theorem tz79 : tsz Tryz.prog 9 = some (esz 0) := by kernel_rfl
theorem tg79 : tag Tryz.prog 9 = some (decide (0 ≠ 0)) := by kernel_rfl

theorem idx79 (x : Bool) (es : List AV) (g : FuncId) (fs cs : List AV) (p : AV → Bool) (hs : ∀ v ∈ es, shp 0 v) (hh : AV.hfs es = true ∧ AV.hfs fs = true ∧ AV.hfs cs = true)
    (hp : ∀ v ∈ es, PureFn Tryz.prog g (fs ++ [v] ++ cs) (.ret (.bool (p v)))) : PureFn Tryz.prog 79 [.vsl 0 x es, .func (.func g) fs cs] (.ret (.int .i64 (fI p 0 es))) := by
  refine PureFn.fit fun hfit => ?_
  have hb : es.length ≤ maxLen' := hfit (.vsl 0 x es) (by simp)
  refine PureFn.of Tryz.func79 rfl (enters_call enters Tryz.func79 rfl) (by simp [Tryz.ntmps79]) ?_
  show W Tryz.prog 19 _ none _ _ _
  refine .seq (.region [] (by decide) ?_)
  simp only [EOps, EDf, isRd, gdA, callOf, isPanic, nextOf, altA, evalOp, St.ev, Av.get, St.put, argT, ofV, thenQ, Nat.reduceEqDiff, ↓reduceIte, lend, AV.hfs, AV.hf, Bool.and_self, List.map_cons, List.map_nil, List.nil_append, List.append_nil, List.getElem?_cons_zero, List.getElem?_cons_succ, List.getElem?_toArray, Option.map_some, Option.bind_some, decide_true, decide_false, beq_false, beq_true, Bool.not_true, Bool.not_false, Bool.false_eq_true, pickA, cond_true, cond_false]
  have hln : ∀ H, evLen Tryz.prog 26 (.vsl 0 x es) H = some (.int .i64 es.length) := by intro H; simp [evLen, Tryz.underlying26]
  refine .seq (.seq (.region [] (by decide) ?_))
  simp only [EOps, EDf, isRd, gdA, callOf, isPanic, nextOf, altA, evalOp, St.ev, Av.get, St.put, argT, ofV, thenQ, Nat.reduceEqDiff, ↓reduceIte, lend, AV.hfs, AV.hf, Bool.and_self, List.map_cons, List.map_nil, List.nil_append, List.append_nil, List.getElem?_cons_zero, List.getElem?_cons_succ, List.getElem?_toArray, Option.map_some, Option.bind_some, decide_true, decide_false, beq_false, beq_true, Bool.not_true, Bool.not_false, Bool.false_eq_true, pickA, cond_true, cond_false, hln]
  refine .block ?_
  refine .loopT (X := Nat) (fun i => [(8, .int .i64 (i : Int)), (7, .int .i64 es.length), (1, .func (.func g) fs cs), (0, .vsl 0 x es)]) (fun i => []) (fun i => i ≤ es.length ∧ fI p i (es.drop i) = fI p 0 es) (fun i => es.length - i) 0 ⟨Nat.zero_le _, rfl⟩
    (by simp [holdsT, Av.get]) rfl ?_
  rintro i ⟨hi, hall⟩
  refine .seq (.region [] (by decide) ?_)
  simp only [EOps, EDf, isRd, gdA, callOf, isPanic, nextOf, altA, evalOp, St.ev, Av.get, St.put, argT, ofV, thenQ, Nat.reduceEqDiff, ↓reduceIte, lend, AV.hfs, AV.hf, Bool.and_self, List.map_cons, List.map_nil, List.nil_append, List.append_nil, List.getElem?_cons_zero, List.getElem?_cons_succ, List.getElem?_toArray, Option.map_some, Option.bind_some, decide_true, decide_false, beq_false, beq_true, Bool.not_true, Bool.not_false, Bool.false_eq_true, pickA, cond_true, cond_false, b_lss]
  by_cases h : i < es.length
  · obtain ⟨v, hv⟩ : ∃ v, es[i]? = some v := ⟨es[i], List.getElem?_eq_getElem h⟩
    have hmem : v ∈ es := List.mem_of_getElem? hv
    have hdrop : es.drop i = v :: es.drop (i + 1) := by
      rw [List.drop_eq_getElem_cons h]; rw [List.getElem?_eq_getElem h] at hv; cases hv; rfl
    rw [hdrop, fI] at hall
    have hia : ∀ H, evIndexAddr Tryz.prog 26 (.vsl 0 x es) (.int .i64 (i : Int)) H = some (.vptr v.cells) := by
      intro H
      have := shp_len (hs v hmem)
      simp [evIndexAddr, idx_nat, Tryz.underlying26, tz79, hv, this]
    have hld : ∀ H, evLoad Tryz.prog 9 (.vptr v.cells) H = some v := fun H => shp_ld tz79 tg79 (hs v hmem) H
    have hhf : AV.hfs (fs ++ ([v] ++ cs)) = true := by
      have h1 : AV.hf v = true := by have := hh.1; rw [hfs_all] at this; exact List.all_eq_true.1 this v hmem
      have h2 := hh.2.1; have h3 := hh.2.2
      rw [hfs_all] at h2 h3 ⊢
      simp [List.all_append, h1, h2, h3]
    refine .seq (.cond (t := true) (by simp [St.ev, Av.get]; omega) (.skip ?_))
    simp only [EOps, EDf, isRd, gdA, callOf, isPanic, nextOf, altA, evalOp, St.ev, Av.get, St.put, argT, ofV, thenQ, Nat.reduceEqDiff, ↓reduceIte, lend, AV.hfs, AV.hf, Bool.and_self, List.map_cons, List.map_nil, List.nil_append, List.append_nil, List.getElem?_cons_zero, List.getElem?_cons_succ, List.getElem?_toArray, Option.map_some, Option.bind_some, decide_true, decide_false, beq_false, beq_true, Bool.not_true, Bool.not_false, Bool.false_eq_true, pickA, cond_true, cond_false]
    refine .seqP (p v = false) [(8, .int .i64 (i : Int)), (7, .int .i64 es.length), (1, .func (.func g) fs cs), (0, .vsl 0 x es)] [] (x := Code.block 1 _) ?_ ?_
    · refine .block (.seq (.region [] (by decide) ?_))
      simp only [EOps, EDf, isRd, gdA, callOf, isPanic, nextOf, altA, evalOp, St.ev, Av.get, St.put, argT, ofV, thenQ, Nat.reduceEqDiff, ↓reduceIte, lend, AV.hfs, AV.hf, Bool.and_self, List.map_cons, List.map_nil, List.nil_append, List.append_nil, List.getElem?_cons_zero, List.getElem?_cons_succ, List.getElem?_toArray, Option.map_some, Option.bind_some, decide_true, decide_false, beq_false, beq_true, Bool.not_true, Bool.not_false, Bool.false_eq_true, pickA, cond_true, cond_false]
      refine .seq (.region [.pure (.ret (.bool (p v)))] (by decide) ?_)
      simp only [EOps, EDf, isRd, gdA, callOf, isPanic, nextOf, altA, evalOp, St.ev, Av.get, St.put, argT, ofV, thenQ, Nat.reduceEqDiff, ↓reduceIte, lend, AV.hfs, AV.hf, Bool.and_self, List.map_cons, List.map_nil, List.nil_append, List.append_nil, List.getElem?_cons_zero, List.getElem?_cons_succ, List.getElem?_toArray, Option.map_some, Option.bind_some, decide_true, decide_false, beq_false, beq_true, Bool.not_true, Bool.not_false, Bool.false_eq_true, pickA, cond_true, cond_false, hia, hld, List.append_assoc, hhf, if_true]
      refine ⟨by have := hp v hmem; rw [List.append_assoc] at this; exact this, ?_⟩
      cases hpv : p v with
      | true =>
        refine .cond (t := true) rfl (.seq (.region [] (by decide) ?_))
        simp only [EOps, EDf, isRd, gdA, callOf, isPanic, nextOf, altA, evalOp, St.ev, Av.get, St.put, argT, ofV, thenQ, Nat.reduceEqDiff, ↓reduceIte, lend, AV.hfs, AV.hf, Bool.and_self, List.map_cons, List.map_nil, List.nil_append, List.append_nil, List.getElem?_cons_zero, List.getElem?_cons_succ, List.getElem?_toArray, Option.map_some, Option.bind_some, decide_true, decide_false, beq_false, beq_true, Bool.not_true, Bool.not_false, Bool.false_eq_true, pickA, cond_true, cond_false]
        refine .ret ?_
        rw [if_pos hpv] at hall
        rw [← hall]
        exact ⟨_, rfl, _, rfl, .refl _⟩
      | false =>
        refine .cond (t := false) rfl (.skip ?_)
        refine ⟨rfl, ?_, rfl, rfl⟩
        simp [holdsT, Av.get]
    · intro hgood
      rw [hgood] at hall
      simp only [Bool.false_eq_true, if_false] at hall
      refine .region [] (by decide) ?_
      have hadd : evBin Tryz.prog .add 3 (.int .i64 (i : Int)) (.int .i64 1) = some (.int .i64 ((i + 1 : Nat) : Int)) := by
        rw [b_add64 _ _ (by simp only [maxLen'] at hb; omega)]; simp
      simp only [EOps, EDf, isRd, gdA, callOf, isPanic, nextOf, altA, evalOp, St.ev, Av.get, St.put, argT, ofV, thenQ, Nat.reduceEqDiff, ↓reduceIte, lend, AV.hfs, AV.hf, Bool.and_self, List.map_cons, List.map_nil, List.nil_append, List.append_nil, List.getElem?_cons_zero, List.getElem?_cons_succ, List.getElem?_toArray, Option.map_some, Option.bind_some, decide_true, decide_false, beq_false, beq_true, Bool.not_true, Bool.not_false, Bool.false_eq_true, pickA, cond_true, cond_false, hadd]
      refine ⟨i + 1, ⟨by omega, hall⟩, by omega, ?_, trivial, trivial⟩
      simp [holdsT, Av.get]
  · have hi' : i = es.length := by omega
    subst hi'
    refine .seq (.cond (t := false) (by simp [St.ev, Av.get]) (.exit ?_))
    simp only [EOps, EDf, isRd, gdA, callOf, isPanic, nextOf, altA, evalOp, St.ev, Av.get, St.put, argT, ofV, thenQ, Nat.reduceEqDiff, ↓reduceIte, lend, AV.hfs, AV.hf, Bool.and_self, List.map_cons, List.map_nil, List.nil_append, List.append_nil, List.getElem?_cons_zero, List.getElem?_cons_succ, List.getElem?_toArray, Option.map_some, Option.bind_some, decide_true, decide_false, beq_false, beq_true, Bool.not_true, Bool.not_false, Bool.false_eq_true, pickA, cond_true, cond_false, blockQ]
    refine .seq (.region [] (by decide) ?_)
    have ht : fI p 0 es = -1 := by rw [← hall, List.drop_length]; rfl
    rw [ht]
    simp only [EOps, EDf, isRd, gdA, callOf, isPanic, nextOf, altA, evalOp, St.ev, Av.get, St.put, argT, ofV, thenQ, Nat.reduceEqDiff, ↓reduceIte, lend, AV.hfs, AV.hf, Bool.and_self, List.map_cons, List.map_nil, List.nil_append, List.append_nil, List.getElem?_cons_zero, List.getElem?_cons_succ, List.getElem?_toArray, Option.map_some, Option.bind_some, decide_true, decide_false, beq_false, beq_true, Bool.not_true, Bool.not_false, Bool.false_eq_true, pickA, cond_true, cond_false]
    exact .ret ⟨_, rfl, _, rfl, .refl _⟩

theorem cf54 (x : Bool) (es : List AV) (g : FuncId) (fs cs : List AV) (p : AV → Bool) (hs : ∀ v ∈ es, shp 0 v) (hh : AV.hfs es = true ∧ AV.hfs fs = true ∧ AV.hfs cs = true)
    (hp : ∀ v ∈ es, PureFn Tryz.prog g (fs ++ [v] ++ cs) (.ret (.bool (p v)))) : PureFn Tryz.prog 54 [.vsl 0 x es, .func (.func g) fs cs] (.ret (.bool (es.any p))) := by
  refine PureFn.of Tryz.func54 rfl (enters_call enters Tryz.func54 rfl) (by simp [Tryz.ntmps54]) ?_
  show W Tryz.prog 9 _ none _ _ _
  refine .seq (.region [] (by decide) ?_)
  simp only [EOps, EDf, isRd, gdA, callOf, isPanic, nextOf, altA, evalOp, St.ev, Av.get, St.put, argT, ofV, thenQ, Nat.reduceEqDiff, ↓reduceIte, lend, AV.hfs, AV.hf, Bool.and_self, List.map_cons, List.map_nil, List.nil_append, List.append_nil, List.getElem?_cons_zero, List.getElem?_cons_succ, List.getElem?_toArray, Option.map_some, Option.bind_some, decide_true, decide_false, beq_false, beq_true, Bool.not_true, Bool.not_false, Bool.false_eq_true, pickA, cond_true, cond_false]
  refine .seq (.region [.pure (.ret (.int .i64 (fI p 0 es)))] (by decide) ?_)
  obtain ⟨h1, h2, h3⟩ := hh
  simp only [EOps, EDf, isRd, gdA, callOf, isPanic, nextOf, altA, evalOp, St.ev, Av.get, St.put, argT, ofV, thenQ, Nat.reduceEqDiff, ↓reduceIte, lend, AV.hfs, AV.hf, Bool.and_self, List.map_cons, List.map_nil, List.nil_append, List.append_nil, List.getElem?_cons_zero, List.getElem?_cons_succ, List.getElem?_toArray, Option.map_some, Option.bind_some, decide_true, decide_false, beq_false, beq_true, Bool.not_true, Bool.not_false, Bool.false_eq_true, pickA, cond_true, cond_false, h1, h2, h3, if_true, b_geq, fI_any]
  refine ⟨idx79 x es g fs cs p hs ⟨h1, h2, h3⟩ hp, ?_⟩
  exact .ret ⟨_, rfl, _, rfl, .refl _⟩

theorem tz121 : tsz Tryz.prog 104 = some (esz 3) := by kernel_rfl
theorem tg121 : tag Tryz.prog 104 = some (decide (3 ≠ 0)) := by kernel_rfl

theorem idx121 (x : Bool) (es : List AV) (g : FuncId) (fs cs : List AV) (p : AV → Bool) (hs : ∀ v ∈ es, shp 3 v) (hh : AV.hfs es = true ∧ AV.hfs fs = true ∧ AV.hfs cs = true)
    (hp : ∀ v ∈ es, PureFn Tryz.prog g (fs ++ [v] ++ cs) (.ret (.bool (p v)))) : PureFn Tryz.prog 121 [.vsl 3 x es, .func (.func g) fs cs] (.ret (.int .i64 (fI p 0 es))) := by
  refine PureFn.fit fun hfit => ?_
  have hb : es.length ≤ maxLen' := hfit (.vsl 3 x es) (by simp)
  refine PureFn.of Tryz.func121 rfl (enters_call enters Tryz.func121 rfl) (by simp [Tryz.ntmps121]) ?_
  show W Tryz.prog 19 _ none _ _ _
  refine .seq (.region [] (by decide) ?_)
  simp only [EOps, EDf, isRd, gdA, callOf, isPanic, nextOf, altA, evalOp, St.ev, Av.get, St.put, argT, ofV, thenQ, Nat.reduceEqDiff, ↓reduceIte, lend, AV.hfs, AV.hf, Bool.and_self, List.map_cons, List.map_nil, List.nil_append, List.append_nil, List.getElem?_cons_zero, List.getElem?_cons_succ, List.getElem?_toArray, Option.map_some, Option.bind_some, decide_true, decide_false, beq_false, beq_true, Bool.not_true, Bool.not_false, Bool.false_eq_true, pickA, cond_true, cond_false]
  have hln : ∀ H, evLen Tryz.prog 105 (.vsl 3 x es) H = some (.int .i64 es.length) := by intro H; simp [evLen, Tryz.underlying105]
  refine .seq (.seq (.region [] (by decide) ?_))
  simp only [EOps, EDf, isRd, gdA, callOf, isPanic, nextOf, altA, evalOp, St.ev, Av.get, St.put, argT, ofV, thenQ, Nat.reduceEqDiff, ↓reduceIte, lend, AV.hfs, AV.hf, Bool.and_self, List.map_cons, List.map_nil, List.nil_append, List.append_nil, List.getElem?_cons_zero, List.getElem?_cons_succ, List.getElem?_toArray, Option.map_some, Option.bind_some, decide_true, decide_false, beq_false, beq_true, Bool.not_true, Bool.not_false, Bool.false_eq_true, pickA, cond_true, cond_false, hln]
  refine .block ?_
  refine .loopT (X := Nat) (fun i => [(8, .int .i64 (i : Int)), (7, .int .i64 es.length), (1, .func (.func g) fs cs), (0, .vsl 3 x es)]) (fun i => []) (fun i => i ≤ es.length ∧ fI p i (es.drop i) = fI p 0 es) (fun i => es.length - i) 0 ⟨Nat.zero_le _, rfl⟩
    (by simp [holdsT, Av.get]) rfl ?_
  rintro i ⟨hi, hall⟩
  refine .seq (.region [] (by decide) ?_)
  simp only [EOps, EDf, isRd, gdA, callOf, isPanic, nextOf, altA, evalOp, St.ev, Av.get, St.put, argT, ofV, thenQ, Nat.reduceEqDiff, ↓reduceIte, lend, AV.hfs, AV.hf, Bool.and_self, List.map_cons, List.map_nil, List.nil_append, List.append_nil, List.getElem?_cons_zero, List.getElem?_cons_succ, List.getElem?_toArray, Option.map_some, Option.bind_some, decide_true, decide_false, beq_false, beq_true, Bool.not_true, Bool.not_false, Bool.false_eq_true, pickA, cond_true, cond_false, b_lss]
  by_cases h : i < es.length
  · obtain ⟨v, hv⟩ : ∃ v, es[i]? = some v := ⟨es[i], List.getElem?_eq_getElem h⟩
    have hmem : v ∈ es := List.mem_of_getElem? hv
    have hdrop : es.drop i = v :: es.drop (i + 1) := by
      rw [List.drop_eq_getElem_cons h]; rw [List.getElem?_eq_getElem h] at hv; cases hv; rfl
    rw [hdrop, fI] at hall
    have hia : ∀ H, evIndexAddr Tryz.prog 105 (.vsl 3 x es) (.int .i64 (i : Int)) H = some (.vptr v.cells) := by
      intro H
      have := shp_len (hs v hmem)
      simp [evIndexAddr, idx_nat, Tryz.underlying105, tz121, hv, this]
    have hld : ∀ H, evLoad Tryz.prog 104 (.vptr v.cells) H = some v := fun H => shp_ld tz121 tg121 (hs v hmem) H
    have hhf : AV.hfs (fs ++ ([v] ++ cs)) = true := by
      have h1 : AV.hf v = true := by have := hh.1; rw [hfs_all] at this; exact List.all_eq_true.1 this v hmem
      have h2 := hh.2.1; have h3 := hh.2.2
      rw [hfs_all] at h2 h3 ⊢
      simp [List.all_append, h1, h2, h3]
    refine .seq (.cond (t := true) (by simp [St.ev, Av.get]; omega) (.skip ?_))
    simp only [EOps, EDf, isRd, gdA, callOf, isPanic, nextOf, altA, evalOp, St.ev, Av.get, St.put, argT, ofV, thenQ, Nat.reduceEqDiff, ↓reduceIte, lend, AV.hfs, AV.hf, Bool.and_self, List.map_cons, List.map_nil, List.nil_append, List.append_nil, List.getElem?_cons_zero, List.getElem?_cons_succ, List.getElem?_toArray, Option.map_some, Option.bind_some, decide_true, decide_false, beq_false, beq_true, Bool.not_true, Bool.not_false, Bool.false_eq_true, pickA, cond_true, cond_false]
    refine .seqP (p v = false) [(8, .int .i64 (i : Int)), (7, .int .i64 es.length), (1, .func (.func g) fs cs), (0, .vsl 3 x es)] [] (x := Code.block 1 _) ?_ ?_
    · refine .block (.seq (.region [] (by decide) ?_))
      simp only [EOps, EDf, isRd, gdA, callOf, isPanic, nextOf, altA, evalOp, St.ev, Av.get, St.put, argT, ofV, thenQ, Nat.reduceEqDiff, ↓reduceIte, lend, AV.hfs, AV.hf, Bool.and_self, List.map_cons, List.map_nil, List.nil_append, List.append_nil, List.getElem?_cons_zero, List.getElem?_cons_succ, List.getElem?_toArray, Option.map_some, Option.bind_some, decide_true, decide_false, beq_false, beq_true, Bool.not_true, Bool.not_false, Bool.false_eq_true, pickA, cond_true, cond_false]
      refine .seq (.region [.pure (.ret (.bool (p v)))] (by decide) ?_)
      simp only [EOps, EDf, isRd, gdA, callOf, isPanic, nextOf, altA, evalOp, St.ev, Av.get, St.put, argT, ofV, thenQ, Nat.reduceEqDiff, ↓reduceIte, lend, AV.hfs, AV.hf, Bool.and_self, List.map_cons, List.map_nil, List.nil_append, List.append_nil, List.getElem?_cons_zero, List.getElem?_cons_succ, List.getElem?_toArray, Option.map_some, Option.bind_some, decide_true, decide_false, beq_false, beq_true, Bool.not_true, Bool.not_false, Bool.false_eq_true, pickA, cond_true, cond_false, hia, hld, List.append_assoc, hhf, if_true]
      refine ⟨by have := hp v hmem; rw [List.append_assoc] at this; exact this, ?_⟩
      cases hpv : p v with
      | true =>
        refine .cond (t := true) rfl (.seq (.region [] (by decide) ?_))
        simp only [EOps, EDf, isRd, gdA, callOf, isPanic, nextOf, altA, evalOp, St.ev, Av.get, St.put, argT, ofV, thenQ, Nat.reduceEqDiff, ↓reduceIte, lend, AV.hfs, AV.hf, Bool.and_self, List.map_cons, List.map_nil, List.nil_append, List.append_nil, List.getElem?_cons_zero, List.getElem?_cons_succ, List.getElem?_toArray, Option.map_some, Option.bind_some, decide_true, decide_false, beq_false, beq_true, Bool.not_true, Bool.not_false, Bool.false_eq_true, pickA, cond_true, cond_false]
        refine .ret ?_
        rw [if_pos hpv] at hall
        rw [← hall]
        exact ⟨_, rfl, _, rfl, .refl _⟩
      | false =>
        refine .cond (t := false) rfl (.skip ?_)
        refine ⟨rfl, ?_, rfl, rfl⟩
        simp [holdsT, Av.get]
    · intro hgood
      rw [hgood] at hall
      simp only [Bool.false_eq_true, if_false] at hall
      refine .region [] (by decide) ?_
      have hadd : evBin Tryz.prog .add 3 (.int .i64 (i : Int)) (.int .i64 1) = some (.int .i64 ((i + 1 : Nat) : Int)) := by
        rw [b_add64 _ _ (by simp only [maxLen'] at hb; omega)]; simp
      simp only [EOps, EDf, isRd, gdA, callOf, isPanic, nextOf, altA, evalOp, St.ev, Av.get, St.put, argT, ofV, thenQ, Nat.reduceEqDiff, ↓reduceIte, lend, AV.hfs, AV.hf, Bool.and_self, List.map_cons, List.map_nil, List.nil_append, List.append_nil, List.getElem?_cons_zero, List.getElem?_cons_succ, List.getElem?_toArray, Option.map_some, Option.bind_some, decide_true, decide_false, beq_false, beq_true, Bool.not_true, Bool.not_false, Bool.false_eq_true, pickA, cond_true, cond_false, hadd]
      refine ⟨i + 1, ⟨by omega, hall⟩, by omega, ?_, trivial, trivial⟩
      simp [holdsT, Av.get]
  · have hi' : i = es.length := by omega
    subst hi'
    refine .seq (.cond (t := false) (by simp [St.ev, Av.get]) (.exit ?_))
    simp only [EOps, EDf, isRd, gdA, callOf, isPanic, nextOf, altA, evalOp, St.ev, Av.get, St.put, argT, ofV, thenQ, Nat.reduceEqDiff, ↓reduceIte, lend, AV.hfs, AV.hf, Bool.and_self, List.map_cons, List.map_nil, List.nil_append, List.append_nil, List.getElem?_cons_zero, List.getElem?_cons_succ, List.getElem?_toArray, Option.map_some, Option.bind_some, decide_true, decide_false, beq_false, beq_true, Bool.not_true, Bool.not_false, Bool.false_eq_true, pickA, cond_true, cond_false, blockQ]
    refine .seq (.region [] (by decide) ?_)
    have ht : fI p 0 es = -1 := by rw [← hall, List.drop_length]; rfl
    rw [ht]
    simp only [EOps, EDf, isRd, gdA, callOf, isPanic, nextOf, altA, evalOp, St.ev, Av.get, St.put, argT, ofV, thenQ, Nat.reduceEqDiff, ↓reduceIte, lend, AV.hfs, AV.hf, Bool.and_self, List.map_cons, List.map_nil, List.nil_append, List.append_nil, List.getElem?_cons_zero, List.getElem?_cons_succ, List.getElem?_toArray, Option.map_some, Option.bind_some, decide_true, decide_false, beq_false, beq_true, Bool.not_true, Bool.not_false, Bool.false_eq_true, pickA, cond_true, cond_false]
    exact .ret ⟨_, rfl, _, rfl, .refl _⟩

theorem cf114 (x : Bool) (es : List AV) (g : FuncId) (fs cs : List AV) (p : AV → Bool) (hs : ∀ v ∈ es, shp 3 v) (hh : AV.hfs es = true ∧ AV.hfs fs = true ∧ AV.hfs cs = true)
    (hp : ∀ v ∈ es, PureFn Tryz.prog g (fs ++ [v] ++ cs) (.ret (.bool (p v)))) : PureFn Tryz.prog 114 [.vsl 3 x es, .func (.func g) fs cs] (.ret (.bool (es.any p))) := by
  refine PureFn.of Tryz.func114 rfl (enters_call enters Tryz.func114 rfl) (by simp [Tryz.ntmps114]) ?_
  show W Tryz.prog 9 _ none _ _ _
  refine .seq (.region [] (by decide) ?_)
  simp only [EOps, EDf, isRd, gdA, callOf, isPanic, nextOf, altA, evalOp, St.ev, Av.get, St.put, argT, ofV, thenQ, Nat.reduceEqDiff, ↓reduceIte, lend, AV.hfs, AV.hf, Bool.and_self, List.map_cons, List.map_nil, List.nil_append, List.append_nil, List.getElem?_cons_zero, List.getElem?_cons_succ, List.getElem?_toArray, Option.map_some, Option.bind_some, decide_true, decide_false, beq_false, beq_true, Bool.not_true, Bool.not_false, Bool.false_eq_true, pickA, cond_true, cond_false]
  refine .seq (.region [.pure (.ret (.int .i64 (fI p 0 es)))] (by decide) ?_)
  obtain ⟨h1, h2, h3⟩ := hh
  simp only [EOps, EDf, isRd, gdA, callOf, isPanic, nextOf, altA, evalOp, St.ev, Av.get, St.put, argT, ofV, thenQ, Nat.reduceEqDiff, ↓reduceIte, lend, AV.hfs, AV.hf, Bool.and_self, List.map_cons, List.map_nil, List.nil_append, List.append_nil, List.getElem?_cons_zero, List.getElem?_cons_succ, List.getElem?_toArray, Option.map_some, Option.bind_some, decide_true, decide_false, beq_false, beq_true, Bool.not_true, Bool.not_false, Bool.false_eq_true, pickA, cond_true, cond_false, h1, h2, h3, if_true, b_geq, fI_any]
  refine ⟨idx121 x es g fs cs p hs ⟨h1, h2, h3⟩ hp, ?_⟩
  exact .ret ⟨_, rfl, _, rfl, .refl _⟩
end Go.Proofs.YtmeijkidjifagaaGreat
