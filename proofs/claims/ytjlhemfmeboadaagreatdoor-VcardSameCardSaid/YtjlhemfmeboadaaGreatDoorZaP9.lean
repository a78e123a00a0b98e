/- Contracts of functions that the statements of this seat reach: under the conditions named at each theorem. -/
import Derived.Test.YtjlhemfmeboadaaGreatDoorZaP8
import Derived.Lib.TrimUEq
namespace Go.Proofs.YtjlhemfmeboadaaGreatDoor
set_option linter.unusedVariables false
set_option linter.unusedSimpArgs false
open Go Go.Av Go.RowKit

section
variable {P : Program} {n m : Nat} {R : Option Nat} {Q : Ex → St → Prop} {a : St}
/-- What is left of a region of many operations. -/
def RW (P : Program) (n m : Nat) (R : Option Nat) (ops : Array Oper) (Q : Ex → St → Prop) (l : List Oper) (a : St) : Prop :=
  ∀ k, (∀ i o, l[i]? = some o → ops[k + i]? = some o) → ∀ (B : Bs m) (act : Act) (w : World), Rel n B a act w → wpOpsIn (fnc R) 1 P ops (RelE n B Q) (List.range' k l.length) act w
theorem RW.start {id : Nat} {ops ops0 : Array Oper} (he : ops0 = ops) (h : RW P n m R ops0 Q ops.toList a) : W P n m R (.region id ops false) Q a := by
  subst he
  intro B act w r
  refine wpIn_region ?_
  have := h 0 (fun i o hi => by rw [Nat.zero_add, ← Array.getElem?_toList]; exact hi) B act w r
  rw [Array.length_toList, ← List.range_eq_range'] at this
  exact this
theorem RW.fewer {ops : Array Oper} {l : List Oper} (C : List (Nat × AV)) (hT : holdsT a.T C) (h : RW P n m R ops Q l ⟨C, a.H, a.D⟩) : RW P n m R ops Q l a :=
  fun k hk B act w r => h k hk B act w (r.fewer (b := ⟨C, a.H, a.D⟩) hT rfl rfl)
theorem RW.chunk {ops : Array Oper} {l : List Oper} (c : Nat) (rs : List CR) (hf : fits n ops = true) (h : EOps P ops (thenQ (RW P n m R ops Q (l.drop c)) Q) rs (l.take c) a) : RW P n m R ops Q l a := by
  intro k hk B act w r
  have hlen : (l.take c).length + (l.drop c).length = l.length := by rw [← List.length_append, List.take_append_drop]
  have := EOps_okT (P := P) (R := R) (Q := Q) (Q' := thenQ (RW P n m R ops Q (l.drop c)) Q) (B := B) (List.range' (k + (l.take c).length) (l.drop c).length) (fits_get hf) ?_ (fun _ _ _ h => h) (l.take c) k rs a act w (fun i o hi => hk i o (by
    rw [List.getElem?_take] at hi; split at hi
    · exact hi
    · cases hi)) h r
  · rw [← hlen]
    rw [← List.range'_append_1]; exact this
  · intro a' act' w' hq hr
    refine hq _ (fun i o hi => ?_) B act' w' hr
    by_cases hc : c ≤ l.length
    · rw [List.length_take, Nat.min_eq_left hc, Nat.add_assoc]
      exact hk _ o (by rw [List.getElem?_drop] at hi; exact hi)
    · rw [List.drop_eq_nil_of_le (by omega)] at hi; simp at hi
theorem RW.done {ops : Array Oper} (h : Q .normal a) : RW P n m R ops Q [] a :=
  fun k hk B act w ⟨F, μ, s, y, t⟩ => ⟨_, a, F, μ, h, .normal, s, y, t⟩
end

/-- A line of a card: x says whether its parameters' capacity is their length. -/
structure Ln where
  g : Bytes
  n : Bytes
  x : Bool
  ps : List (Bytes × Bytes)
  v : Bytes
def encLn (l : Ln) : AV := .agg [.str l.g, .str l.n, .vsl 3 l.x (l.ps.map encR), .str l.v]
def sBegin : Bytes := [98, 101, 103, 105, 110]
def sEnd : Bytes := [101, 110, 100]
def sVersion : Bytes := [118, 101, 114, 115, 105, 111, 110]
def lineB (l : Ln) : Bool :=
  (l.g == [] || nameB l.g) && (nameB (small l.n) && (!(small l.n == sBegin) && (!(small l.n == sEnd) && (!(small l.n == sVersion) && (decide ((l.ps.length : Int) ≤ 8) && (l.ps.all paramB && (decide ((l.v.length : Int) ≤ 4000) && l.v.all byL)))))))

def pP : AV → Bool
  | .agg [.str t, .str v] => paramB (t, v)
  | _ => false
theorem eachP (x : Bool) (ps : List (Bytes × Bytes)) : PureFn Tryz.prog 60 [.vsl 3 x (ps.map encR), .func (.func 61) [] []] (.ret (.bool (ps.all paramB))) := by
  have := each_P x (ps.map encR) 61 [] [] pP (encR_shp ps) ⟨encR_hfs ps, rfl, rfl⟩ (by
    intro v hv; obtain ⟨r, _, rfl⟩ := List.mem_map.1 hv; exact paramV r)
  rw [List.all_map] at this
  exact this

theorem encR_lend {H : List OB} {x o : Bool} {ps : List (Bytes × Bytes)} {g : Nat} : lend H [.vsl 3 x (ps.map encR), .func (.func g) [] []] (.ret (.bool o)) = some [.vsl 3 x (ps.map encR), .func (.func g) [] []] := by
  unfold lend; rw [if_pos (by simp [AV.hfs, AV.hf, encR_hfs])]
theorem str_lend {H : List OB} {s : Bytes} {o : Out} : lend H [.str s] o = some [.str s] := by
  unfold lend; rw [if_pos (by simp [AV.hfs, AV.hf])]


variable (g n v : Bytes) (x : Bool) (ps : List (Bytes × Bytes))
def lineH : OB := .cells [.str g, .str n, .vsl 3 x (ps.map encR), .str v] false
noncomputable def lineR : Code := match Tryz.f36.body with
  | some (.seq _ (.seq _ c)) => c
  | _ => .skip
noncomputable def lineOps : Array Oper := match lineR with
  | .seq (.region _ ops _) _ => ops
  | _ => #[]
theorem lineFits : fits 54 lineOps = true := by kernel_rfl
theorem lineHop (j : Nat) (hj : j < 48) : (lineOps[j]?).bind (fun x => x.dst) = if j < 47 then some (j + 7) else some 2 := by
  have : (List.range 48).all (fun j => decide ((lineOps[j]?).bind (fun x => x.dst) = if j < 47 then some (j + 7) else some 2)) = true := by kernel_rfl
  exact of_decide_eq_true (List.all_eq_true.1 this j (List.mem_range.2 hj))
def lineS : St := ⟨[(1, .ptr 0 0), (3, .str (small n))], [lineH g n v x ps], []⟩
def lineW (o : Bool) : Prop := W Tryz.prog 54 0 none lineR (retQ Tryz.prog Tryz.f36.results.toList (.ret (.bool o))) (lineS g n v x ps)
theorem x0 : ({ data := #[] } : ByteArray).size ≤ maxLen' := by decide
theorem x3 : ({ data := #[98, 101, 103, 105, 110] } : ByteArray).size ≤ maxLen' := by decide
theorem x4 : ({ data := #[101, 110, 100] } : ByteArray).size ≤ maxLen' := by decide
theorem x5 : ({ data := #[118, 101, 114, 115, 105, 111, 110] } : ByteArray).size ≤ maxLen' := by decide
theorem lnl0 (H) : evLoad Tryz.prog 9 (.ptr 0 0) (lineH g n v x ps :: H) = some (.str g) := by simp [ld9, ldC, lineH]
theorem lnl1 (H) : evLoad Tryz.prog 9 (.ptr 0 1) (lineH g n v x ps :: H) = some (.str n) := by simp [ld9, ldC, lineH]
theorem lnl2 (H) : evLoad Tryz.prog 43 (.ptr 0 2) (lineH g n v x ps :: H) = some (.vsl 3 x (ps.map encR)) := by simp [ld43, ldC, lineH]
theorem lnl3 (H) : evLoad Tryz.prog 9 (.ptr 0 3) (lineH g n v x ps :: H) = some (.str v) := by simp [ld9, ldC, lineH]
theorem lncv : evConv Tryz.prog 9 42 (.str v) [lineH g n v x ps] = some (.sl 1 0 v.length 0, [lineH g n v x ps, .cells (bytesA v) true]) := by
  simp [evConv, Tryz.underlying9, Tryz.underlying42, Tryz.underlying5]
theorem lnn (H) : evLen Tryz.prog 43 (.vsl 3 x (ps.map encR)) H = some (.int .i64 ps.length) := by simp [lv43]
theorem lnld (b : OB) (o) : lend [b, .cells (bytesA v) true] [.sl 1 0 v.length 0, .func (.func 63) [] []] (.ret (.bool o)) = some [.vsl 0 false (bytesA v), .func (.func 63) [] []] := lend_bytes rfl

set_option maxRecDepth 100000 in
set_option maxHeartbeats 4000000 in
theorem line_t_2 (h0 : (g == []) = true) (p2 : PureFn Tryz.prog 59 [.str (small n)] (.ret (.bool false))) : lineW g n v x ps false := by
  refine W.seq (RW.start (ops0 := lineOps) rfl ?_)
  refine RW.chunk 9 [] lineFits ?_
  simp only [EOps, gdA, callOf, isPanic, nextOf, altA, evalOp, St.ev, Av.get, St.put, ofV, thenQ, Nat.reduceEqDiff, ↓reduceIte, Option.map_some, beq_false, Bool.not_true, pickA, lineHop, Nat.reduceLT, lineS, List.take_succ_cons, List.take_zero, List.drop_succ_cons, List.drop_zero, fa45_0, Nat.add_zero, lnl0, lnl1, lnl2, lnl3, lncv, lnn, lnld, encR_lend, str_lend, x0, x3, x4, x5, s_eql, h0]
  refine RW.fewer [(1, .ptr 0 0), (3, .str (small n)), (15, .bool true)] ⟨rfl, rfl, rfl, trivial⟩ ?_
  refine RW.chunk 4 [.pure (.ret (.bool false))] lineFits ?_
  simp only [EOps, gdA, callOf, isPanic, nextOf, altA, evalOp, St.ev, Av.get, St.put, ofV, thenQ, Nat.reduceEqDiff, ↓reduceIte, List.map_cons, List.map_nil, List.nil_append, List.append_nil, beq_true, pickA, cond_true, lineHop, Nat.reduceLT, lineS, List.take_succ_cons, List.take_zero, List.drop_succ_cons, List.drop_zero, lnl0, lnl1, lnl2, lnl3, lncv, lnn, lnld, encR_lend, str_lend, x0, x3, x4, x5]
  refine ⟨p2, ?_⟩
  refine RW.fewer [(1, .ptr 0 0), (3, .str (small n)), (19, .bool false)] ⟨rfl, rfl, rfl, trivial⟩ ?_
  refine RW.chunk 4 [] lineFits ?_
  simp only [EOps, gdA, callOf, isPanic, nextOf, altA, evalOp, St.ev, Av.get, St.put, ofV, thenQ, Nat.reduceEqDiff, ↓reduceIte, beq_true, Bool.false_eq_true, pickA, lineHop, Nat.reduceLT, lineS, List.take_succ_cons, List.take_zero, List.drop_succ_cons, List.drop_zero, lnl0, lnl1, lnl2, lnl3, lncv, lnn, lnld, encR_lend, str_lend, x0, x3, x4, x5]
  refine RW.fewer [(1, .ptr 0 0), (3, .str (small n)), (23, .bool false)] ⟨rfl, rfl, rfl, trivial⟩ ?_
  refine RW.chunk 4 [] lineFits ?_
  simp only [EOps, gdA, callOf, isPanic, nextOf, altA, evalOp, St.ev, Av.get, St.put, ofV, thenQ, Nat.reduceEqDiff, ↓reduceIte, beq_true, Bool.false_eq_true, pickA, lineHop, Nat.reduceLT, lineS, List.take_succ_cons, List.take_zero, List.drop_succ_cons, List.drop_zero, lnl0, lnl1, lnl2, lnl3, lncv, lnn, lnld, encR_lend, str_lend, x0, x3, x4, x5]
  refine RW.fewer [(1, .ptr 0 0), (3, .str (small n)), (27, .bool false)] ⟨rfl, rfl, rfl, trivial⟩ ?_
  refine RW.chunk 4 [] lineFits ?_
  simp only [EOps, gdA, callOf, isPanic, nextOf, altA, evalOp, St.ev, Av.get, St.put, ofV, thenQ, Nat.reduceEqDiff, ↓reduceIte, beq_true, Bool.false_eq_true, pickA, lineHop, Nat.reduceLT, lineS, List.take_succ_cons, List.take_zero, List.drop_succ_cons, List.drop_zero, lnl0, lnl1, lnl2, lnl3, lncv, lnn, lnld, encR_lend, str_lend, x0, x3, x4, x5]
  refine RW.fewer [(1, .ptr 0 0), (3, .str (small n)), (31, .bool false)] ⟨rfl, rfl, rfl, trivial⟩ ?_
  refine RW.chunk 6 [] lineFits ?_
  simp only [EOps, gdA, callOf, isPanic, nextOf, altA, evalOp, St.ev, Av.get, St.put, ofV, thenQ, Nat.reduceEqDiff, ↓reduceIte, beq_true, Bool.false_eq_true, pickA, lineHop, Nat.reduceLT, lineS, List.take_succ_cons, List.take_zero, List.drop_succ_cons, List.drop_zero, lnl0, lnl1, lnl2, lnl3, lncv, lnn, lnld, encR_lend, str_lend, x0, x3, x4, x5]
  refine RW.fewer [(1, .ptr 0 0), (3, .str (small n)), (37, .bool false)] ⟨rfl, rfl, rfl, trivial⟩ ?_
  refine RW.chunk 5 [] lineFits ?_
  simp only [EOps, gdA, callOf, isPanic, nextOf, altA, evalOp, St.ev, Av.get, St.put, ofV, thenQ, Nat.reduceEqDiff, ↓reduceIte, beq_true, Bool.false_eq_true, pickA, lineHop, Nat.reduceLT, lineS, List.take_succ_cons, List.take_zero, List.drop_succ_cons, List.drop_zero, lnl0, lnl1, lnl2, lnl3, lncv, lnn, lnld, encR_lend, str_lend, x0, x3, x4, x5]
  refine RW.fewer [(1, .ptr 0 0), (3, .str (small n)), (42, .bool false)] ⟨rfl, rfl, rfl, trivial⟩ ?_
  refine RW.chunk 6 [] lineFits ?_
  simp only [EOps, gdA, callOf, isPanic, nextOf, altA, evalOp, St.ev, Av.get, St.put, ofV, thenQ, Nat.reduceEqDiff, ↓reduceIte, beq_true, Bool.false_eq_true, pickA, lineHop, Nat.reduceLT, lineS, List.take_succ_cons, List.take_zero, List.drop_succ_cons, List.drop_zero, lnl0, lnl1, lnl2, lnl3, lncv, lnn, lnld, encR_lend, str_lend, x0, x3, x4, x5]
  refine RW.fewer [(1, .ptr 0 0), (3, .str (small n)), (48, .bool false)] ⟨rfl, rfl, rfl, trivial⟩ ?_
  refine RW.chunk 6 [] lineFits ?_
  simp only [EOps, gdA, callOf, isPanic, nextOf, altA, evalOp, St.ev, Av.get, St.put, ofV, thenQ, Nat.reduceEqDiff, ↓reduceIte, beq_true, Bool.false_eq_true, pickA, lineHop, Nat.reduceLT, lineS, List.take_succ_cons, List.take_zero, List.drop_succ_cons, List.drop_zero, lnl0, lnl1, lnl2, lnl3, lncv, lnn, lnld, encR_lend, str_lend, x0, x3, x4, x5]
  refine RW.done ?_
  exact .ret ⟨_, rfl, _, rfl, .refl _⟩

set_option maxRecDepth 100000 in
set_option maxHeartbeats 4000000 in
theorem line_t_3 (h0 : (g == []) = true) (p2 : PureFn Tryz.prog 59 [.str (small n)] (.ret (.bool true))) (h3 : (small n == sBegin) = true) : lineW g n v x ps false := by
  unfold sBegin at h3
  refine W.seq (RW.start (ops0 := lineOps) rfl ?_)
  refine RW.chunk 9 [] lineFits ?_
  simp only [EOps, gdA, callOf, isPanic, nextOf, altA, evalOp, St.ev, Av.get, St.put, ofV, thenQ, Nat.reduceEqDiff, ↓reduceIte, Option.map_some, beq_false, Bool.not_true, pickA, lineHop, Nat.reduceLT, lineS, List.take_succ_cons, List.take_zero, List.drop_succ_cons, List.drop_zero, fa45_0, Nat.add_zero, lnl0, lnl1, lnl2, lnl3, lncv, lnn, lnld, encR_lend, str_lend, x0, x3, x4, x5, s_eql, h0]
  refine RW.fewer [(1, .ptr 0 0), (3, .str (small n)), (15, .bool true)] ⟨rfl, rfl, rfl, trivial⟩ ?_
  refine RW.chunk 4 [.pure (.ret (.bool true))] lineFits ?_
  simp only [EOps, gdA, callOf, isPanic, nextOf, altA, evalOp, St.ev, Av.get, St.put, ofV, thenQ, Nat.reduceEqDiff, ↓reduceIte, List.map_cons, List.map_nil, List.nil_append, List.append_nil, beq_true, pickA, cond_true, lineHop, Nat.reduceLT, lineS, List.take_succ_cons, List.take_zero, List.drop_succ_cons, List.drop_zero, lnl0, lnl1, lnl2, lnl3, lncv, lnn, lnld, encR_lend, str_lend, x0, x3, x4, x5]
  refine ⟨p2, ?_⟩
  refine RW.fewer [(1, .ptr 0 0), (3, .str (small n)), (19, .bool true)] ⟨rfl, rfl, rfl, trivial⟩ ?_
  refine RW.chunk 4 [] lineFits ?_
  simp only [EOps, gdA, callOf, isPanic, nextOf, altA, evalOp, St.ev, Av.get, St.put, ofV, thenQ, Nat.reduceEqDiff, ↓reduceIte, beq_true, Bool.not_true, pickA, cond_true, lineHop, Nat.reduceLT, lineS, List.take_succ_cons, List.take_zero, List.drop_succ_cons, List.drop_zero, lnl0, lnl1, lnl2, lnl3, lncv, lnn, lnld, encR_lend, str_lend, x0, x3, x4, x5, s_neq, h3]
  refine RW.fewer [(1, .ptr 0 0), (3, .str (small n)), (23, .bool false)] ⟨rfl, rfl, rfl, trivial⟩ ?_
  refine RW.chunk 4 [] lineFits ?_
  simp only [EOps, gdA, callOf, isPanic, nextOf, altA, evalOp, St.ev, Av.get, St.put, ofV, thenQ, Nat.reduceEqDiff, ↓reduceIte, beq_true, Bool.false_eq_true, pickA, lineHop, Nat.reduceLT, lineS, List.take_succ_cons, List.take_zero, List.drop_succ_cons, List.drop_zero, lnl0, lnl1, lnl2, lnl3, lncv, lnn, lnld, encR_lend, str_lend, x0, x3, x4, x5]
  refine RW.fewer [(1, .ptr 0 0), (3, .str (small n)), (27, .bool false)] ⟨rfl, rfl, rfl, trivial⟩ ?_
  refine RW.chunk 4 [] lineFits ?_
  simp only [EOps, gdA, callOf, isPanic, nextOf, altA, evalOp, St.ev, Av.get, St.put, ofV, thenQ, Nat.reduceEqDiff, ↓reduceIte, beq_true, Bool.false_eq_true, pickA, lineHop, Nat.reduceLT, lineS, List.take_succ_cons, List.take_zero, List.drop_succ_cons, List.drop_zero, lnl0, lnl1, lnl2, lnl3, lncv, lnn, lnld, encR_lend, str_lend, x0, x3, x4, x5]
  refine RW.fewer [(1, .ptr 0 0), (3, .str (small n)), (31, .bool false)] ⟨rfl, rfl, rfl, trivial⟩ ?_
  refine RW.chunk 6 [] lineFits ?_
  simp only [EOps, gdA, callOf, isPanic, nextOf, altA, evalOp, St.ev, Av.get, St.put, ofV, thenQ, Nat.reduceEqDiff, ↓reduceIte, beq_true, Bool.false_eq_true, pickA, lineHop, Nat.reduceLT, lineS, List.take_succ_cons, List.take_zero, List.drop_succ_cons, List.drop_zero, lnl0, lnl1, lnl2, lnl3, lncv, lnn, lnld, encR_lend, str_lend, x0, x3, x4, x5]
  refine RW.fewer [(1, .ptr 0 0), (3, .str (small n)), (37, .bool false)] ⟨rfl, rfl, rfl, trivial⟩ ?_
  refine RW.chunk 5 [] lineFits ?_
  simp only [EOps, gdA, callOf, isPanic, nextOf, altA, evalOp, St.ev, Av.get, St.put, ofV, thenQ, Nat.reduceEqDiff, ↓reduceIte, beq_true, Bool.false_eq_true, pickA, lineHop, Nat.reduceLT, lineS, List.take_succ_cons, List.take_zero, List.drop_succ_cons, List.drop_zero, lnl0, lnl1, lnl2, lnl3, lncv, lnn, lnld, encR_lend, str_lend, x0, x3, x4, x5]
  refine RW.fewer [(1, .ptr 0 0), (3, .str (small n)), (42, .bool false)] ⟨rfl, rfl, rfl, trivial⟩ ?_
  refine RW.chunk 6 [] lineFits ?_
  simp only [EOps, gdA, callOf, isPanic, nextOf, altA, evalOp, St.ev, Av.get, St.put, ofV, thenQ, Nat.reduceEqDiff, ↓reduceIte, beq_true, Bool.false_eq_true, pickA, lineHop, Nat.reduceLT, lineS, List.take_succ_cons, List.take_zero, List.drop_succ_cons, List.drop_zero, lnl0, lnl1, lnl2, lnl3, lncv, lnn, lnld, encR_lend, str_lend, x0, x3, x4, x5]
  refine RW.fewer [(1, .ptr 0 0), (3, .str (small n)), (48, .bool false)] ⟨rfl, rfl, rfl, trivial⟩ ?_
  refine RW.chunk 6 [] lineFits ?_
  simp only [EOps, gdA, callOf, isPanic, nextOf, altA, evalOp, St.ev, Av.get, St.put, ofV, thenQ, Nat.reduceEqDiff, ↓reduceIte, beq_true, Bool.false_eq_true, pickA, lineHop, Nat.reduceLT, lineS, List.take_succ_cons, List.take_zero, List.drop_succ_cons, List.drop_zero, lnl0, lnl1, lnl2, lnl3, lncv, lnn, lnld, encR_lend, str_lend, x0, x3, x4, x5]
  refine RW.done ?_
  exact .ret ⟨_, rfl, _, rfl, .refl _⟩

set_option maxRecDepth 100000 in
set_option maxHeartbeats 4000000 in
theorem line_t_4 (h0 : (g == []) = true) (p2 : PureFn Tryz.prog 59 [.str (small n)] (.ret (.bool true))) (h3 : (small n == sBegin) = false) (h4 : (small n == sEnd) = true) : lineW g n v x ps false := by
  unfold sBegin at h3
  unfold sEnd at h4
  refine W.seq (RW.start (ops0 := lineOps) rfl ?_)
  refine RW.chunk 9 [] lineFits ?_
  simp only [EOps, gdA, callOf, isPanic, nextOf, altA, evalOp, St.ev, Av.get, St.put, ofV, thenQ, Nat.reduceEqDiff, ↓reduceIte, Option.map_some, beq_false, Bool.not_true, pickA, lineHop, Nat.reduceLT, lineS, List.take_succ_cons, List.take_zero, List.drop_succ_cons, List.drop_zero, fa45_0, Nat.add_zero, lnl0, lnl1, lnl2, lnl3, lncv, lnn, lnld, encR_lend, str_lend, x0, x3, x4, x5, s_eql, h0]
  refine RW.fewer [(1, .ptr 0 0), (3, .str (small n)), (15, .bool true)] ⟨rfl, rfl, rfl, trivial⟩ ?_
  refine RW.chunk 4 [.pure (.ret (.bool true))] lineFits ?_
  simp only [EOps, gdA, callOf, isPanic, nextOf, altA, evalOp, St.ev, Av.get, St.put, ofV, thenQ, Nat.reduceEqDiff, ↓reduceIte, List.map_cons, List.map_nil, List.nil_append, List.append_nil, beq_true, pickA, cond_true, lineHop, Nat.reduceLT, lineS, List.take_succ_cons, List.take_zero, List.drop_succ_cons, List.drop_zero, lnl0, lnl1, lnl2, lnl3, lncv, lnn, lnld, encR_lend, str_lend, x0, x3, x4, x5]
  refine ⟨p2, ?_⟩
  refine RW.fewer [(1, .ptr 0 0), (3, .str (small n)), (19, .bool true)] ⟨rfl, rfl, rfl, trivial⟩ ?_
  refine RW.chunk 4 [] lineFits ?_
  simp only [EOps, gdA, callOf, isPanic, nextOf, altA, evalOp, St.ev, Av.get, St.put, ofV, thenQ, Nat.reduceEqDiff, ↓reduceIte, beq_true, Bool.not_false, pickA, cond_true, lineHop, Nat.reduceLT, lineS, List.take_succ_cons, List.take_zero, List.drop_succ_cons, List.drop_zero, lnl0, lnl1, lnl2, lnl3, lncv, lnn, lnld, encR_lend, str_lend, x0, x3, x4, x5, s_neq, h3]
  refine RW.fewer [(1, .ptr 0 0), (3, .str (small n)), (23, .bool true)] ⟨rfl, rfl, rfl, trivial⟩ ?_
  refine RW.chunk 4 [] lineFits ?_
  simp only [EOps, gdA, callOf, isPanic, nextOf, altA, evalOp, St.ev, Av.get, St.put, ofV, thenQ, Nat.reduceEqDiff, ↓reduceIte, beq_true, Bool.not_true, pickA, cond_true, lineHop, Nat.reduceLT, lineS, List.take_succ_cons, List.take_zero, List.drop_succ_cons, List.drop_zero, lnl0, lnl1, lnl2, lnl3, lncv, lnn, lnld, encR_lend, str_lend, x0, x3, x4, x5, s_neq, h4]
  refine RW.fewer [(1, .ptr 0 0), (3, .str (small n)), (27, .bool false)] ⟨rfl, rfl, rfl, trivial⟩ ?_
  refine RW.chunk 4 [] lineFits ?_
  simp only [EOps, gdA, callOf, isPanic, nextOf, altA, evalOp, St.ev, Av.get, St.put, ofV, thenQ, Nat.reduceEqDiff, ↓reduceIte, beq_true, Bool.false_eq_true, pickA, lineHop, Nat.reduceLT, lineS, List.take_succ_cons, List.take_zero, List.drop_succ_cons, List.drop_zero, lnl0, lnl1, lnl2, lnl3, lncv, lnn, lnld, encR_lend, str_lend, x0, x3, x4, x5]
  refine RW.fewer [(1, .ptr 0 0), (3, .str (small n)), (31, .bool false)] ⟨rfl, rfl, rfl, trivial⟩ ?_
  refine RW.chunk 6 [] lineFits ?_
  simp only [EOps, gdA, callOf, isPanic, nextOf, altA, evalOp, St.ev, Av.get, St.put, ofV, thenQ, Nat.reduceEqDiff, ↓reduceIte, beq_true, Bool.false_eq_true, pickA, lineHop, Nat.reduceLT, lineS, List.take_succ_cons, List.take_zero, List.drop_succ_cons, List.drop_zero, lnl0, lnl1, lnl2, lnl3, lncv, lnn, lnld, encR_lend, str_lend, x0, x3, x4, x5]
  refine RW.fewer [(1, .ptr 0 0), (3, .str (small n)), (37, .bool false)] ⟨rfl, rfl, rfl, trivial⟩ ?_
  refine RW.chunk 5 [] lineFits ?_
  simp only [EOps, gdA, callOf, isPanic, nextOf, altA, evalOp, St.ev, Av.get, St.put, ofV, thenQ, Nat.reduceEqDiff, ↓reduceIte, beq_true, Bool.false_eq_true, pickA, lineHop, Nat.reduceLT, lineS, List.take_succ_cons, List.take_zero, List.drop_succ_cons, List.drop_zero, lnl0, lnl1, lnl2, lnl3, lncv, lnn, lnld, encR_lend, str_lend, x0, x3, x4, x5]
  refine RW.fewer [(1, .ptr 0 0), (3, .str (small n)), (42, .bool false)] ⟨rfl, rfl, rfl, trivial⟩ ?_
  refine RW.chunk 6 [] lineFits ?_
  simp only [EOps, gdA, callOf, isPanic, nextOf, altA, evalOp, St.ev, Av.get, St.put, ofV, thenQ, Nat.reduceEqDiff, ↓reduceIte, beq_true, Bool.false_eq_true, pickA, lineHop, Nat.reduceLT, lineS, List.take_succ_cons, List.take_zero, List.drop_succ_cons, List.drop_zero, lnl0, lnl1, lnl2, lnl3, lncv, lnn, lnld, encR_lend, str_lend, x0, x3, x4, x5]
  refine RW.fewer [(1, .ptr 0 0), (3, .str (small n)), (48, .bool false)] ⟨rfl, rfl, rfl, trivial⟩ ?_
  refine RW.chunk 6 [] lineFits ?_
  simp only [EOps, gdA, callOf, isPanic, nextOf, altA, evalOp, St.ev, Av.get, St.put, ofV, thenQ, Nat.reduceEqDiff, ↓reduceIte, beq_true, Bool.false_eq_true, pickA, lineHop, Nat.reduceLT, lineS, List.take_succ_cons, List.take_zero, List.drop_succ_cons, List.drop_zero, lnl0, lnl1, lnl2, lnl3, lncv, lnn, lnld, encR_lend, str_lend, x0, x3, x4, x5]
  refine RW.done ?_
  exact .ret ⟨_, rfl, _, rfl, .refl _⟩

set_option maxRecDepth 100000 in
set_option maxHeartbeats 4000000 in
theorem line_t_5 (h0 : (g == []) = true) (p2 : PureFn Tryz.prog 59 [.str (small n)] (.ret (.bool true))) (h3 : (small n == sBegin) = false) (h4 : (small n == sEnd) = false) (h5 : (small n == sVersion) = true) : lineW g n v x ps false := by
  unfold sBegin at h3
  unfold sEnd at h4
  unfold sVersion at h5
  refine W.seq (RW.start (ops0 := lineOps) rfl ?_)
  refine RW.chunk 9 [] lineFits ?_
  simp only [EOps, gdA, callOf, isPanic, nextOf, altA, evalOp, St.ev, Av.get, St.put, ofV, thenQ, Nat.reduceEqDiff, ↓reduceIte, Option.map_some, beq_false, Bool.not_true, pickA, lineHop, Nat.reduceLT, lineS, List.take_succ_cons, List.take_zero, List.drop_succ_cons, List.drop_zero, fa45_0, Nat.add_zero, lnl0, lnl1, lnl2, lnl3, lncv, lnn, lnld, encR_lend, str_lend, x0, x3, x4, x5, s_eql, h0]
  refine RW.fewer [(1, .ptr 0 0), (3, .str (small n)), (15, .bool true)] ⟨rfl, rfl, rfl, trivial⟩ ?_
  refine RW.chunk 4 [.pure (.ret (.bool true))] lineFits ?_
  simp only [EOps, gdA, callOf, isPanic, nextOf, altA, evalOp, St.ev, Av.get, St.put, ofV, thenQ, Nat.reduceEqDiff, ↓reduceIte, List.map_cons, List.map_nil, List.nil_append, List.append_nil, beq_true, pickA, cond_true, lineHop, Nat.reduceLT, lineS, List.take_succ_cons, List.take_zero, List.drop_succ_cons, List.drop_zero, lnl0, lnl1, lnl2, lnl3, lncv, lnn, lnld, encR_lend, str_lend, x0, x3, x4, x5]
  refine ⟨p2, ?_⟩
  refine RW.fewer [(1, .ptr 0 0), (3, .str (small n)), (19, .bool true)] ⟨rfl, rfl, rfl, trivial⟩ ?_
  refine RW.chunk 4 [] lineFits ?_
  simp only [EOps, gdA, callOf, isPanic, nextOf, altA, evalOp, St.ev, Av.get, St.put, ofV, thenQ, Nat.reduceEqDiff, ↓reduceIte, beq_true, Bool.not_false, pickA, cond_true, lineHop, Nat.reduceLT, lineS, List.take_succ_cons, List.take_zero, List.drop_succ_cons, List.drop_zero, lnl0, lnl1, lnl2, lnl3, lncv, lnn, lnld, encR_lend, str_lend, x0, x3, x4, x5, s_neq, h3]
  refine RW.fewer [(1, .ptr 0 0), (3, .str (small n)), (23, .bool true)] ⟨rfl, rfl, rfl, trivial⟩ ?_
  refine RW.chunk 4 [] lineFits ?_
  simp only [EOps, gdA, callOf, isPanic, nextOf, altA, evalOp, St.ev, Av.get, St.put, ofV, thenQ, Nat.reduceEqDiff, ↓reduceIte, beq_true, Bool.not_false, pickA, cond_true, lineHop, Nat.reduceLT, lineS, List.take_succ_cons, List.take_zero, List.drop_succ_cons, List.drop_zero, lnl0, lnl1, lnl2, lnl3, lncv, lnn, lnld, encR_lend, str_lend, x0, x3, x4, x5, s_neq, h4]
  refine RW.fewer [(1, .ptr 0 0), (3, .str (small n)), (27, .bool true)] ⟨rfl, rfl, rfl, trivial⟩ ?_
  refine RW.chunk 4 [] lineFits ?_
  simp only [EOps, gdA, callOf, isPanic, nextOf, altA, evalOp, St.ev, Av.get, St.put, ofV, thenQ, Nat.reduceEqDiff, ↓reduceIte, beq_true, Bool.not_true, pickA, cond_true, lineHop, Nat.reduceLT, lineS, List.take_succ_cons, List.take_zero, List.drop_succ_cons, List.drop_zero, lnl0, lnl1, lnl2, lnl3, lncv, lnn, lnld, encR_lend, str_lend, x0, x3, x4, x5, s_neq, h5]
  refine RW.fewer [(1, .ptr 0 0), (3, .str (small n)), (31, .bool false)] ⟨rfl, rfl, rfl, trivial⟩ ?_
  refine RW.chunk 6 [] lineFits ?_
  simp only [EOps, gdA, callOf, isPanic, nextOf, altA, evalOp, St.ev, Av.get, St.put, ofV, thenQ, Nat.reduceEqDiff, ↓reduceIte, beq_true, Bool.false_eq_true, pickA, lineHop, Nat.reduceLT, lineS, List.take_succ_cons, List.take_zero, List.drop_succ_cons, List.drop_zero, lnl0, lnl1, lnl2, lnl3, lncv, lnn, lnld, encR_lend, str_lend, x0, x3, x4, x5]
  refine RW.fewer [(1, .ptr 0 0), (3, .str (small n)), (37, .bool false)] ⟨rfl, rfl, rfl, trivial⟩ ?_
  refine RW.chunk 5 [] lineFits ?_
  simp only [EOps, gdA, callOf, isPanic, nextOf, altA, evalOp, St.ev, Av.get, St.put, ofV, thenQ, Nat.reduceEqDiff, ↓reduceIte, beq_true, Bool.false_eq_true, pickA, lineHop, Nat.reduceLT, lineS, List.take_succ_cons, List.take_zero, List.drop_succ_cons, List.drop_zero, lnl0, lnl1, lnl2, lnl3, lncv, lnn, lnld, encR_lend, str_lend, x0, x3, x4, x5]
  refine RW.fewer [(1, .ptr 0 0), (3, .str (small n)), (42, .bool false)] ⟨rfl, rfl, rfl, trivial⟩ ?_
  refine RW.chunk 6 [] lineFits ?_
  simp only [EOps, gdA, callOf, isPanic, nextOf, altA, evalOp, St.ev, Av.get, St.put, ofV, thenQ, Nat.reduceEqDiff, ↓reduceIte, beq_true, Bool.false_eq_true, pickA, lineHop, Nat.reduceLT, lineS, List.take_succ_cons, List.take_zero, List.drop_succ_cons, List.drop_zero, lnl0, lnl1, lnl2, lnl3, lncv, lnn, lnld, encR_lend, str_lend, x0, x3, x4, x5]
  refine RW.fewer [(1, .ptr 0 0), (3, .str (small n)), (48, .bool false)] ⟨rfl, rfl, rfl, trivial⟩ ?_
  refine RW.chunk 6 [] lineFits ?_
  simp only [EOps, gdA, callOf, isPanic, nextOf, altA, evalOp, St.ev, Av.get, St.put, ofV, thenQ, Nat.reduceEqDiff, ↓reduceIte, beq_true, Bool.false_eq_true, pickA, lineHop, Nat.reduceLT, lineS, List.take_succ_cons, List.take_zero, List.drop_succ_cons, List.drop_zero, lnl0, lnl1, lnl2, lnl3, lncv, lnn, lnld, encR_lend, str_lend, x0, x3, x4, x5]
  refine RW.done ?_
  exact .ret ⟨_, rfl, _, rfl, .refl _⟩

set_option maxRecDepth 100000 in
set_option maxHeartbeats 4000000 in
theorem line_t_6 (h0 : (g == []) = true) (p2 : PureFn Tryz.prog 59 [.str (small n)] (.ret (.bool true))) (h3 : (small n == sBegin) = false) (h4 : (small n == sEnd) = false) (h5 : (small n == sVersion) = false) (h6 : decide ((ps.length : Int) ≤ 8) = false) : lineW g n v x ps false := by
  unfold sBegin at h3
  unfold sEnd at h4
  unfold sVersion at h5
  refine W.seq (RW.start (ops0 := lineOps) rfl ?_)
  refine RW.chunk 9 [] lineFits ?_
  simp only [EOps, gdA, callOf, isPanic, nextOf, altA, evalOp, St.ev, Av.get, St.put, ofV, thenQ, Nat.reduceEqDiff, ↓reduceIte, Option.map_some, beq_false, Bool.not_true, pickA, lineHop, Nat.reduceLT, lineS, List.take_succ_cons, List.take_zero, List.drop_succ_cons, List.drop_zero, fa45_0, Nat.add_zero, lnl0, lnl1, lnl2, lnl3, lncv, lnn, lnld, encR_lend, str_lend, x0, x3, x4, x5, s_eql, h0]
  refine RW.fewer [(1, .ptr 0 0), (3, .str (small n)), (15, .bool true)] ⟨rfl, rfl, rfl, trivial⟩ ?_
  refine RW.chunk 4 [.pure (.ret (.bool true))] lineFits ?_
  simp only [EOps, gdA, callOf, isPanic, nextOf, altA, evalOp, St.ev, Av.get, St.put, ofV, thenQ, Nat.reduceEqDiff, ↓reduceIte, List.map_cons, List.map_nil, List.nil_append, List.append_nil, beq_true, pickA, cond_true, lineHop, Nat.reduceLT, lineS, List.take_succ_cons, List.take_zero, List.drop_succ_cons, List.drop_zero, lnl0, lnl1, lnl2, lnl3, lncv, lnn, lnld, encR_lend, str_lend, x0, x3, x4, x5]
  refine ⟨p2, ?_⟩
  refine RW.fewer [(1, .ptr 0 0), (3, .str (small n)), (19, .bool true)] ⟨rfl, rfl, rfl, trivial⟩ ?_
  refine RW.chunk 4 [] lineFits ?_
  simp only [EOps, gdA, callOf, isPanic, nextOf, altA, evalOp, St.ev, Av.get, St.put, ofV, thenQ, Nat.reduceEqDiff, ↓reduceIte, beq_true, Bool.not_false, pickA, cond_true, lineHop, Nat.reduceLT, lineS, List.take_succ_cons, List.take_zero, List.drop_succ_cons, List.drop_zero, lnl0, lnl1, lnl2, lnl3, lncv, lnn, lnld, encR_lend, str_lend, x0, x3, x4, x5, s_neq, h3]
  refine RW.fewer [(1, .ptr 0 0), (3, .str (small n)), (23, .bool true)] ⟨rfl, rfl, rfl, trivial⟩ ?_
  refine RW.chunk 4 [] lineFits ?_
  simp only [EOps, gdA, callOf, isPanic, nextOf, altA, evalOp, St.ev, Av.get, St.put, ofV, thenQ, Nat.reduceEqDiff, ↓reduceIte, beq_true, Bool.not_false, pickA, cond_true, lineHop, Nat.reduceLT, lineS, List.take_succ_cons, List.take_zero, List.drop_succ_cons, List.drop_zero, lnl0, lnl1, lnl2, lnl3, lncv, lnn, lnld, encR_lend, str_lend, x0, x3, x4, x5, s_neq, h4]
  refine RW.fewer [(1, .ptr 0 0), (3, .str (small n)), (27, .bool true)] ⟨rfl, rfl, rfl, trivial⟩ ?_
  refine RW.chunk 4 [] lineFits ?_
  simp only [EOps, gdA, callOf, isPanic, nextOf, altA, evalOp, St.ev, Av.get, St.put, ofV, thenQ, Nat.reduceEqDiff, ↓reduceIte, beq_true, Bool.not_false, pickA, cond_true, lineHop, Nat.reduceLT, lineS, List.take_succ_cons, List.take_zero, List.drop_succ_cons, List.drop_zero, lnl0, lnl1, lnl2, lnl3, lncv, lnn, lnld, encR_lend, str_lend, x0, x3, x4, x5, s_neq, h5]
  refine RW.fewer [(1, .ptr 0 0), (3, .str (small n)), (31, .bool true)] ⟨rfl, rfl, rfl, trivial⟩ ?_
  refine RW.chunk 6 [] lineFits ?_
  simp only [EOps, deN, gdA, callOf, isPanic, nextOf, altA, evalOp, St.ev, Av.get, St.put, ofV, thenQ, Nat.reduceEqDiff, ↓reduceIte, Option.map_some, beq_true, pickA, cond_true, lineHop, Nat.reduceLT, lineS, List.take_succ_cons, List.take_zero, List.drop_succ_cons, List.drop_zero, fa45_2, Nat.zero_add, lnl0, lnl1, lnl2, lnl3, lncv, lnn, lnld, encR_lend, str_lend, x0, x3, x4, x5, b_leq, h6]
  refine RW.fewer [(1, .ptr 0 0), (3, .str (small n)), (37, .bool false)] ⟨rfl, rfl, rfl, trivial⟩ ?_
  refine RW.chunk 5 [] lineFits ?_
  simp only [EOps, gdA, callOf, isPanic, nextOf, altA, evalOp, St.ev, Av.get, St.put, ofV, thenQ, Nat.reduceEqDiff, ↓reduceIte, beq_true, Bool.false_eq_true, pickA, lineHop, Nat.reduceLT, lineS, List.take_succ_cons, List.take_zero, List.drop_succ_cons, List.drop_zero, lnl0, lnl1, lnl2, lnl3, lncv, lnn, lnld, encR_lend, str_lend, x0, x3, x4, x5]
  refine RW.fewer [(1, .ptr 0 0), (3, .str (small n)), (42, .bool false)] ⟨rfl, rfl, rfl, trivial⟩ ?_
  refine RW.chunk 6 [] lineFits ?_
  simp only [EOps, gdA, callOf, isPanic, nextOf, altA, evalOp, St.ev, Av.get, St.put, ofV, thenQ, Nat.reduceEqDiff, ↓reduceIte, beq_true, Bool.false_eq_true, pickA, lineHop, Nat.reduceLT, lineS, List.take_succ_cons, List.take_zero, List.drop_succ_cons, List.drop_zero, lnl0, lnl1, lnl2, lnl3, lncv, lnn, lnld, encR_lend, str_lend, x0, x3, x4, x5]
  refine RW.fewer [(1, .ptr 0 0), (3, .str (small n)), (48, .bool false)] ⟨rfl, rfl, rfl, trivial⟩ ?_
  refine RW.chunk 6 [] lineFits ?_
  simp only [EOps, gdA, callOf, isPanic, nextOf, altA, evalOp, St.ev, Av.get, St.put, ofV, thenQ, Nat.reduceEqDiff, ↓reduceIte, beq_true, Bool.false_eq_true, pickA, lineHop, Nat.reduceLT, lineS, List.take_succ_cons, List.take_zero, List.drop_succ_cons, List.drop_zero, lnl0, lnl1, lnl2, lnl3, lncv, lnn, lnld, encR_lend, str_lend, x0, x3, x4, x5]
  refine RW.done ?_
  exact .ret ⟨_, rfl, _, rfl, .refl _⟩

set_option maxRecDepth 100000 in
set_option maxHeartbeats 4000000 in
theorem line_t_7 (h0 : (g == []) = true) (p2 : PureFn Tryz.prog 59 [.str (small n)] (.ret (.bool true))) (h3 : (small n == sBegin) = false) (h4 : (small n == sEnd) = false) (h5 : (small n == sVersion) = false) (h6 : decide ((ps.length : Int) ≤ 8) = true) (p7 : PureFn Tryz.prog 60 [.vsl 3 x (ps.map encR), .func (.func 61) [] []] (.ret (.bool false))) : lineW g n v x ps false := by
  unfold sBegin at h3
  unfold sEnd at h4
  unfold sVersion at h5
  refine W.seq (RW.start (ops0 := lineOps) rfl ?_)
  refine RW.chunk 9 [] lineFits ?_
  simp only [EOps, gdA, callOf, isPanic, nextOf, altA, evalOp, St.ev, Av.get, St.put, ofV, thenQ, Nat.reduceEqDiff, ↓reduceIte, Option.map_some, beq_false, Bool.not_true, pickA, lineHop, Nat.reduceLT, lineS, List.take_succ_cons, List.take_zero, List.drop_succ_cons, List.drop_zero, fa45_0, Nat.add_zero, lnl0, lnl1, lnl2, lnl3, lncv, lnn, lnld, encR_lend, str_lend, x0, x3, x4, x5, s_eql, h0]
  refine RW.fewer [(1, .ptr 0 0), (3, .str (small n)), (15, .bool true)] ⟨rfl, rfl, rfl, trivial⟩ ?_
  refine RW.chunk 4 [.pure (.ret (.bool true))] lineFits ?_
  simp only [EOps, gdA, callOf, isPanic, nextOf, altA, evalOp, St.ev, Av.get, St.put, ofV, thenQ, Nat.reduceEqDiff, ↓reduceIte, List.map_cons, List.map_nil, List.nil_append, List.append_nil, beq_true, pickA, cond_true, lineHop, Nat.reduceLT, lineS, List.take_succ_cons, List.take_zero, List.drop_succ_cons, List.drop_zero, lnl0, lnl1, lnl2, lnl3, lncv, lnn, lnld, encR_lend, str_lend, x0, x3, x4, x5]
  refine ⟨p2, ?_⟩
  refine RW.fewer [(1, .ptr 0 0), (3, .str (small n)), (19, .bool true)] ⟨rfl, rfl, rfl, trivial⟩ ?_
  refine RW.chunk 4 [] lineFits ?_
  simp only [EOps, gdA, callOf, isPanic, nextOf, altA, evalOp, St.ev, Av.get, St.put, ofV, thenQ, Nat.reduceEqDiff, ↓reduceIte, beq_true, Bool.not_false, pickA, cond_true, lineHop, Nat.reduceLT, lineS, List.take_succ_cons, List.take_zero, List.drop_succ_cons, List.drop_zero, lnl0, lnl1, lnl2, lnl3, lncv, lnn, lnld, encR_lend, str_lend, x0, x3, x4, x5, s_neq, h3]
  refine RW.fewer [(1, .ptr 0 0), (3, .str (small n)), (23, .bool true)] ⟨rfl, rfl, rfl, trivial⟩ ?_
  refine RW.chunk 4 [] lineFits ?_
  simp only [EOps, gdA, callOf, isPanic, nextOf, altA, evalOp, St.ev, Av.get, St.put, ofV, thenQ, Nat.reduceEqDiff, ↓reduceIte, beq_true, Bool.not_false, pickA, cond_true, lineHop, Nat.reduceLT, lineS, List.take_succ_cons, List.take_zero, List.drop_succ_cons, List.drop_zero, lnl0, lnl1, lnl2, lnl3, lncv, lnn, lnld, encR_lend, str_lend, x0, x3, x4, x5, s_neq, h4]
  refine RW.fewer [(1, .ptr 0 0), (3, .str (small n)), (27, .bool true)] ⟨rfl, rfl, rfl, trivial⟩ ?_
  refine RW.chunk 4 [] lineFits ?_
  simp only [EOps, gdA, callOf, isPanic, nextOf, altA, evalOp, St.ev, Av.get, St.put, ofV, thenQ, Nat.reduceEqDiff, ↓reduceIte, beq_true, Bool.not_false, pickA, cond_true, lineHop, Nat.reduceLT, lineS, List.take_succ_cons, List.take_zero, List.drop_succ_cons, List.drop_zero, lnl0, lnl1, lnl2, lnl3, lncv, lnn, lnld, encR_lend, str_lend, x0, x3, x4, x5, s_neq, h5]
  refine RW.fewer [(1, .ptr 0 0), (3, .str (small n)), (31, .bool true)] ⟨rfl, rfl, rfl, trivial⟩ ?_
  refine RW.chunk 6 [] lineFits ?_
  simp only [EOps, deN, gdA, callOf, isPanic, nextOf, altA, evalOp, St.ev, Av.get, St.put, ofV, thenQ, Nat.reduceEqDiff, ↓reduceIte, Option.map_some, beq_true, pickA, cond_true, lineHop, Nat.reduceLT, lineS, List.take_succ_cons, List.take_zero, List.drop_succ_cons, List.drop_zero, fa45_2, Nat.zero_add, lnl0, lnl1, lnl2, lnl3, lncv, lnn, lnld, encR_lend, str_lend, x0, x3, x4, x5, b_leq, h6]
  refine RW.fewer [(1, .ptr 0 0), (3, .str (small n)), (37, .bool true)] ⟨rfl, rfl, rfl, trivial⟩ ?_
  refine RW.chunk 5 [.pure (.ret (.bool false))] lineFits ?_
  simp only [EOps, gdA, callOf, isPanic, nextOf, altA, evalOp, St.ev, Av.get, St.put, ofV, thenQ, Nat.reduceEqDiff, ↓reduceIte, List.map_cons, List.map_nil, List.nil_append, List.append_nil, Option.map_some, beq_true, pickA, cond_true, lineHop, Nat.reduceLT, lineS, List.take_succ_cons, List.take_zero, List.drop_succ_cons, List.drop_zero, fa45_2, Nat.zero_add, lnl0, lnl1, lnl2, lnl3, lncv, lnn, lnld, encR_lend, str_lend, x0, x3, x4, x5]
  refine ⟨p7, ?_⟩
  refine RW.fewer [(1, .ptr 0 0), (3, .str (small n)), (42, .bool false)] ⟨rfl, rfl, rfl, trivial⟩ ?_
  refine RW.chunk 6 [] lineFits ?_
  simp only [EOps, gdA, callOf, isPanic, nextOf, altA, evalOp, St.ev, Av.get, St.put, ofV, thenQ, Nat.reduceEqDiff, ↓reduceIte, beq_true, Bool.false_eq_true, pickA, lineHop, Nat.reduceLT, lineS, List.take_succ_cons, List.take_zero, List.drop_succ_cons, List.drop_zero, lnl0, lnl1, lnl2, lnl3, lncv, lnn, lnld, encR_lend, str_lend, x0, x3, x4, x5]
  refine RW.fewer [(1, .ptr 0 0), (3, .str (small n)), (48, .bool false)] ⟨rfl, rfl, rfl, trivial⟩ ?_
  refine RW.chunk 6 [] lineFits ?_
  simp only [EOps, gdA, callOf, isPanic, nextOf, altA, evalOp, St.ev, Av.get, St.put, ofV, thenQ, Nat.reduceEqDiff, ↓reduceIte, beq_true, Bool.false_eq_true, pickA, lineHop, Nat.reduceLT, lineS, List.take_succ_cons, List.take_zero, List.drop_succ_cons, List.drop_zero, lnl0, lnl1, lnl2, lnl3, lncv, lnn, lnld, encR_lend, str_lend, x0, x3, x4, x5]
  refine RW.done ?_
  exact .ret ⟨_, rfl, _, rfl, .refl _⟩

set_option maxRecDepth 100000 in
set_option maxHeartbeats 4000000 in
theorem line_t_8 (h0 : (g == []) = true) (p2 : PureFn Tryz.prog 59 [.str (small n)] (.ret (.bool true))) (h3 : (small n == sBegin) = false) (h4 : (small n == sEnd) = false) (h5 : (small n == sVersion) = false) (h6 : decide ((ps.length : Int) ≤ 8) = true) (p7 : PureFn Tryz.prog 60 [.vsl 3 x (ps.map encR), .func (.func 61) [] []] (.ret (.bool true))) (h8 : decide ((v.length : Int) ≤ 4000) = false) : lineW g n v x ps false := by
  unfold sBegin at h3
  unfold sEnd at h4
  unfold sVersion at h5
  refine W.seq (RW.start (ops0 := lineOps) rfl ?_)
  refine RW.chunk 9 [] lineFits ?_
  simp only [EOps, gdA, callOf, isPanic, nextOf, altA, evalOp, St.ev, Av.get, St.put, ofV, thenQ, Nat.reduceEqDiff, ↓reduceIte, Option.map_some, beq_false, Bool.not_true, pickA, lineHop, Nat.reduceLT, lineS, List.take_succ_cons, List.take_zero, List.drop_succ_cons, List.drop_zero, fa45_0, Nat.add_zero, lnl0, lnl1, lnl2, lnl3, lncv, lnn, lnld, encR_lend, str_lend, x0, x3, x4, x5, s_eql, h0]
  refine RW.fewer [(1, .ptr 0 0), (3, .str (small n)), (15, .bool true)] ⟨rfl, rfl, rfl, trivial⟩ ?_
  refine RW.chunk 4 [.pure (.ret (.bool true))] lineFits ?_
  simp only [EOps, gdA, callOf, isPanic, nextOf, altA, evalOp, St.ev, Av.get, St.put, ofV, thenQ, Nat.reduceEqDiff, ↓reduceIte, List.map_cons, List.map_nil, List.nil_append, List.append_nil, beq_true, pickA, cond_true, lineHop, Nat.reduceLT, lineS, List.take_succ_cons, List.take_zero, List.drop_succ_cons, List.drop_zero, lnl0, lnl1, lnl2, lnl3, lncv, lnn, lnld, encR_lend, str_lend, x0, x3, x4, x5]
  refine ⟨p2, ?_⟩
  refine RW.fewer [(1, .ptr 0 0), (3, .str (small n)), (19, .bool true)] ⟨rfl, rfl, rfl, trivial⟩ ?_
  refine RW.chunk 4 [] lineFits ?_
  simp only [EOps, gdA, callOf, isPanic, nextOf, altA, evalOp, St.ev, Av.get, St.put, ofV, thenQ, Nat.reduceEqDiff, ↓reduceIte, beq_true, Bool.not_false, pickA, cond_true, lineHop, Nat.reduceLT, lineS, List.take_succ_cons, List.take_zero, List.drop_succ_cons, List.drop_zero, lnl0, lnl1, lnl2, lnl3, lncv, lnn, lnld, encR_lend, str_lend, x0, x3, x4, x5, s_neq, h3]
  refine RW.fewer [(1, .ptr 0 0), (3, .str (small n)), (23, .bool true)] ⟨rfl, rfl, rfl, trivial⟩ ?_
  refine RW.chunk 4 [] lineFits ?_
  simp only [EOps, gdA, callOf, isPanic, nextOf, altA, evalOp, St.ev, Av.get, St.put, ofV, thenQ, Nat.reduceEqDiff, ↓reduceIte, beq_true, Bool.not_false, pickA, cond_true, lineHop, Nat.reduceLT, lineS, List.take_succ_cons, List.take_zero, List.drop_succ_cons, List.drop_zero, lnl0, lnl1, lnl2, lnl3, lncv, lnn, lnld, encR_lend, str_lend, x0, x3, x4, x5, s_neq, h4]
  refine RW.fewer [(1, .ptr 0 0), (3, .str (small n)), (27, .bool true)] ⟨rfl, rfl, rfl, trivial⟩ ?_
  refine RW.chunk 4 [] lineFits ?_
  simp only [EOps, gdA, callOf, isPanic, nextOf, altA, evalOp, St.ev, Av.get, St.put, ofV, thenQ, Nat.reduceEqDiff, ↓reduceIte, beq_true, Bool.not_false, pickA, cond_true, lineHop, Nat.reduceLT, lineS, List.take_succ_cons, List.take_zero, List.drop_succ_cons, List.drop_zero, lnl0, lnl1, lnl2, lnl3, lncv, lnn, lnld, encR_lend, str_lend, x0, x3, x4, x5, s_neq, h5]
  refine RW.fewer [(1, .ptr 0 0), (3, .str (small n)), (31, .bool true)] ⟨rfl, rfl, rfl, trivial⟩ ?_
  refine RW.chunk 6 [] lineFits ?_
  simp only [EOps, deN, gdA, callOf, isPanic, nextOf, altA, evalOp, St.ev, Av.get, St.put, ofV, thenQ, Nat.reduceEqDiff, ↓reduceIte, Option.map_some, beq_true, pickA, cond_true, lineHop, Nat.reduceLT, lineS, List.take_succ_cons, List.take_zero, List.drop_succ_cons, List.drop_zero, fa45_2, Nat.zero_add, lnl0, lnl1, lnl2, lnl3, lncv, lnn, lnld, encR_lend, str_lend, x0, x3, x4, x5, b_leq, h6]
  refine RW.fewer [(1, .ptr 0 0), (3, .str (small n)), (37, .bool true)] ⟨rfl, rfl, rfl, trivial⟩ ?_
  refine RW.chunk 5 [.pure (.ret (.bool true))] lineFits ?_
  simp only [EOps, gdA, callOf, isPanic, nextOf, altA, evalOp, St.ev, Av.get, St.put, ofV, thenQ, Nat.reduceEqDiff, ↓reduceIte, List.map_cons, List.map_nil, List.nil_append, List.append_nil, Option.map_some, beq_true, pickA, cond_true, lineHop, Nat.reduceLT, lineS, List.take_succ_cons, List.take_zero, List.drop_succ_cons, List.drop_zero, fa45_2, Nat.zero_add, lnl0, lnl1, lnl2, lnl3, lncv, lnn, lnld, encR_lend, str_lend, x0, x3, x4, x5]
  refine ⟨p7, ?_⟩
  refine RW.fewer [(1, .ptr 0 0), (3, .str (small n)), (42, .bool true)] ⟨rfl, rfl, rfl, trivial⟩ ?_
  refine RW.chunk 6 [] lineFits ?_
  simp only [EOps, deN, gdA, callOf, isPanic, nextOf, altA, evalOp, St.ev, Av.get, St.put, ofV, thenQ, Nat.reduceEqDiff, ↓reduceIte, Option.map_some, beq_true, pickA, cond_true, lineHop, Nat.reduceLT, lineS, List.take_succ_cons, List.take_zero, List.drop_succ_cons, List.drop_zero, fa45_3, Nat.zero_add, lnl0, lnl1, lnl2, lnl3, lncv, lnn, lnld, encR_lend, str_lend, x0, x3, x4, x5, b_leq, ls9, h8]
  refine RW.fewer [(1, .ptr 0 0), (3, .str (small n)), (48, .bool false)] ⟨rfl, rfl, rfl, trivial⟩ ?_
  refine RW.chunk 6 [] lineFits ?_
  simp only [EOps, gdA, callOf, isPanic, nextOf, altA, evalOp, St.ev, Av.get, St.put, ofV, thenQ, Nat.reduceEqDiff, ↓reduceIte, beq_true, Bool.false_eq_true, pickA, lineHop, Nat.reduceLT, lineS, List.take_succ_cons, List.take_zero, List.drop_succ_cons, List.drop_zero, lnl0, lnl1, lnl2, lnl3, lncv, lnn, lnld, encR_lend, str_lend, x0, x3, x4, x5]
  refine RW.done ?_
  exact .ret ⟨_, rfl, _, rfl, .refl _⟩

set_option maxRecDepth 100000 in
set_option maxHeartbeats 4000000 in
theorem line_t_9 (b9 : Bool) (h0 : (g == []) = true) (p2 : PureFn Tryz.prog 59 [.str (small n)] (.ret (.bool true))) (h3 : (small n == sBegin) = false) (h4 : (small n == sEnd) = false) (h5 : (small n == sVersion) = false) (h6 : decide ((ps.length : Int) ≤ 8) = true) (p7 : PureFn Tryz.prog 60 [.vsl 3 x (ps.map encR), .func (.func 61) [] []] (.ret (.bool true))) (h8 : decide ((v.length : Int) ≤ 4000) = true) (p9 : PureFn Tryz.prog 62 [.vsl 0 false (bytesA v), .func (.func 63) [] []] (.ret (.bool b9))) : lineW g n v x ps b9 := by
  unfold sBegin at h3
  unfold sEnd at h4
  unfold sVersion at h5
  refine W.seq (RW.start (ops0 := lineOps) rfl ?_)
  refine RW.chunk 9 [] lineFits ?_
  simp only [EOps, gdA, callOf, isPanic, nextOf, altA, evalOp, St.ev, Av.get, St.put, ofV, thenQ, Nat.reduceEqDiff, ↓reduceIte, Option.map_some, beq_false, Bool.not_true, pickA, lineHop, Nat.reduceLT, lineS, List.take_succ_cons, List.take_zero, List.drop_succ_cons, List.drop_zero, fa45_0, Nat.add_zero, lnl0, lnl1, lnl2, lnl3, lncv, lnn, lnld, encR_lend, str_lend, x0, x3, x4, x5, s_eql, h0]
  refine RW.fewer [(1, .ptr 0 0), (3, .str (small n)), (15, .bool true)] ⟨rfl, rfl, rfl, trivial⟩ ?_
  refine RW.chunk 4 [.pure (.ret (.bool true))] lineFits ?_
  simp only [EOps, gdA, callOf, isPanic, nextOf, altA, evalOp, St.ev, Av.get, St.put, ofV, thenQ, Nat.reduceEqDiff, ↓reduceIte, List.map_cons, List.map_nil, List.nil_append, List.append_nil, beq_true, pickA, cond_true, lineHop, Nat.reduceLT, lineS, List.take_succ_cons, List.take_zero, List.drop_succ_cons, List.drop_zero, lnl0, lnl1, lnl2, lnl3, lncv, lnn, lnld, encR_lend, str_lend, x0, x3, x4, x5]
  refine ⟨p2, ?_⟩
  refine RW.fewer [(1, .ptr 0 0), (3, .str (small n)), (19, .bool true)] ⟨rfl, rfl, rfl, trivial⟩ ?_
  refine RW.chunk 4 [] lineFits ?_
  simp only [EOps, gdA, callOf, isPanic, nextOf, altA, evalOp, St.ev, Av.get, St.put, ofV, thenQ, Nat.reduceEqDiff, ↓reduceIte, beq_true, Bool.not_false, pickA, cond_true, lineHop, Nat.reduceLT, lineS, List.take_succ_cons, List.take_zero, List.drop_succ_cons, List.drop_zero, lnl0, lnl1, lnl2, lnl3, lncv, lnn, lnld, encR_lend, str_lend, x0, x3, x4, x5, s_neq, h3]
  refine RW.fewer [(1, .ptr 0 0), (3, .str (small n)), (23, .bool true)] ⟨rfl, rfl, rfl, trivial⟩ ?_
  refine RW.chunk 4 [] lineFits ?_
  simp only [EOps, gdA, callOf, isPanic, nextOf, altA, evalOp, St.ev, Av.get, St.put, ofV, thenQ, Nat.reduceEqDiff, ↓reduceIte, beq_true, Bool.not_false, pickA, cond_true, lineHop, Nat.reduceLT, lineS, List.take_succ_cons, List.take_zero, List.drop_succ_cons, List.drop_zero, lnl0, lnl1, lnl2, lnl3, lncv, lnn, lnld, encR_lend, str_lend, x0, x3, x4, x5, s_neq, h4]
  refine RW.fewer [(1, .ptr 0 0), (3, .str (small n)), (27, .bool true)] ⟨rfl, rfl, rfl, trivial⟩ ?_
  refine RW.chunk 4 [] lineFits ?_
  simp only [EOps, gdA, callOf, isPanic, nextOf, altA, evalOp, St.ev, Av.get, St.put, ofV, thenQ, Nat.reduceEqDiff, ↓reduceIte, beq_true, Bool.not_false, pickA, cond_true, lineHop, Nat.reduceLT, lineS, List.take_succ_cons, List.take_zero, List.drop_succ_cons, List.drop_zero, lnl0, lnl1, lnl2, lnl3, lncv, lnn, lnld, encR_lend, str_lend, x0, x3, x4, x5, s_neq, h5]
  refine RW.fewer [(1, .ptr 0 0), (3, .str (small n)), (31, .bool true)] ⟨rfl, rfl, rfl, trivial⟩ ?_
  refine RW.chunk 6 [] lineFits ?_
  simp only [EOps, deN, gdA, callOf, isPanic, nextOf, altA, evalOp, St.ev, Av.get, St.put, ofV, thenQ, Nat.reduceEqDiff, ↓reduceIte, Option.map_some, beq_true, pickA, cond_true, lineHop, Nat.reduceLT, lineS, List.take_succ_cons, List.take_zero, List.drop_succ_cons, List.drop_zero, fa45_2, Nat.zero_add, lnl0, lnl1, lnl2, lnl3, lncv, lnn, lnld, encR_lend, str_lend, x0, x3, x4, x5, b_leq, h6]
  refine RW.fewer [(1, .ptr 0 0), (3, .str (small n)), (37, .bool true)] ⟨rfl, rfl, rfl, trivial⟩ ?_
  refine RW.chunk 5 [.pure (.ret (.bool true))] lineFits ?_
  simp only [EOps, gdA, callOf, isPanic, nextOf, altA, evalOp, St.ev, Av.get, St.put, ofV, thenQ, Nat.reduceEqDiff, ↓reduceIte, List.map_cons, List.map_nil, List.nil_append, List.append_nil, Option.map_some, beq_true, pickA, cond_true, lineHop, Nat.reduceLT, lineS, List.take_succ_cons, List.take_zero, List.drop_succ_cons, List.drop_zero, fa45_2, Nat.zero_add, lnl0, lnl1, lnl2, lnl3, lncv, lnn, lnld, encR_lend, str_lend, x0, x3, x4, x5]
  refine ⟨p7, ?_⟩
  refine RW.fewer [(1, .ptr 0 0), (3, .str (small n)), (42, .bool true)] ⟨rfl, rfl, rfl, trivial⟩ ?_
  refine RW.chunk 6 [] lineFits ?_
  simp only [EOps, deN, gdA, callOf, isPanic, nextOf, altA, evalOp, St.ev, Av.get, St.put, ofV, thenQ, Nat.reduceEqDiff, ↓reduceIte, Option.map_some, beq_true, pickA, cond_true, lineHop, Nat.reduceLT, lineS, List.take_succ_cons, List.take_zero, List.drop_succ_cons, List.drop_zero, fa45_3, Nat.zero_add, lnl0, lnl1, lnl2, lnl3, lncv, lnn, lnld, encR_lend, str_lend, x0, x3, x4, x5, b_leq, ls9, h8]
  refine RW.fewer [(1, .ptr 0 0), (3, .str (small n)), (48, .bool true)] ⟨rfl, rfl, rfl, trivial⟩ ?_
  refine RW.chunk 6 [.pure (.ret (.bool b9))] lineFits ?_
  simp only [EOps, gdA, callOf, isPanic, nextOf, altA, evalOp, St.ev, Av.get, St.put, ofV, thenQ, Nat.reduceEqDiff, ↓reduceIte, List.map_cons, List.map_nil, List.nil_append, List.append_nil, Option.map_some, beq_true, pickA, cond_true, lineHop, Nat.reduceLT, lineS, List.take_succ_cons, List.take_zero, List.drop_succ_cons, List.drop_zero, fa45_3, Nat.zero_add, lnl0, lnl1, lnl2, lnl3, lncv, lnn, lnld, encR_lend, str_lend, x0, x3, x4, x5]
  refine ⟨p9, ?_⟩
  refine RW.done ?_
  exact .ret ⟨_, rfl, _, rfl, .refl _⟩

set_option maxRecDepth 100000 in
set_option maxHeartbeats 4000000 in
theorem line_f_1 (h0 : (g == []) = false) (p1 : PureFn Tryz.prog 59 [.str g] (.ret (.bool false))) : lineW g n v x ps false := by
  refine W.seq (RW.start (ops0 := lineOps) rfl ?_)
  refine RW.chunk 9 [.pure (.ret (.bool false))] lineFits ?_
  simp only [EOps, gdA, callOf, isPanic, nextOf, altA, evalOp, St.ev, Av.get, St.put, ofV, thenQ, Nat.reduceEqDiff, ↓reduceIte, List.map_cons, List.map_nil, List.nil_append, List.append_nil, Option.map_some, beq_false, Bool.not_false, pickA, cond_false, lineHop, Nat.reduceLT, lineS, List.take_succ_cons, List.take_zero, List.drop_succ_cons, List.drop_zero, fa45_0, Nat.add_zero, lnl0, lnl1, lnl2, lnl3, lncv, lnn, lnld, encR_lend, str_lend, x0, x3, x4, x5, s_eql, h0]
  refine ⟨p1, ?_⟩
  refine RW.fewer [(1, .ptr 0 0), (3, .str (small n)), (15, .bool false)] ⟨rfl, rfl, rfl, trivial⟩ ?_
  refine RW.chunk 4 [] lineFits ?_
  simp only [EOps, gdA, callOf, isPanic, nextOf, altA, evalOp, St.ev, Av.get, St.put, ofV, thenQ, Nat.reduceEqDiff, ↓reduceIte, beq_true, Bool.false_eq_true, pickA, lineHop, Nat.reduceLT, lineS, List.take_succ_cons, List.take_zero, List.drop_succ_cons, List.drop_zero, lnl0, lnl1, lnl2, lnl3, lncv, lnn, lnld, encR_lend, str_lend, x0, x3, x4, x5]
  refine RW.fewer [(1, .ptr 0 0), (3, .str (small n)), (19, .bool false)] ⟨rfl, rfl, rfl, trivial⟩ ?_
  refine RW.chunk 4 [] lineFits ?_
  simp only [EOps, gdA, callOf, isPanic, nextOf, altA, evalOp, St.ev, Av.get, St.put, ofV, thenQ, Nat.reduceEqDiff, ↓reduceIte, beq_true, Bool.false_eq_true, pickA, lineHop, Nat.reduceLT, lineS, List.take_succ_cons, List.take_zero, List.drop_succ_cons, List.drop_zero, lnl0, lnl1, lnl2, lnl3, lncv, lnn, lnld, encR_lend, str_lend, x0, x3, x4, x5]
  refine RW.fewer [(1, .ptr 0 0), (3, .str (small n)), (23, .bool false)] ⟨rfl, rfl, rfl, trivial⟩ ?_
  refine RW.chunk 4 [] lineFits ?_
  simp only [EOps, gdA, callOf, isPanic, nextOf, altA, evalOp, St.ev, Av.get, St.put, ofV, thenQ, Nat.reduceEqDiff, ↓reduceIte, beq_true, Bool.false_eq_true, pickA, lineHop, Nat.reduceLT, lineS, List.take_succ_cons, List.take_zero, List.drop_succ_cons, List.drop_zero, lnl0, lnl1, lnl2, lnl3, lncv, lnn, lnld, encR_lend, str_lend, x0, x3, x4, x5]
  refine RW.fewer [(1, .ptr 0 0), (3, .str (small n)), (27, .bool false)] ⟨rfl, rfl, rfl, trivial⟩ ?_
  refine RW.chunk 4 [] lineFits ?_
  simp only [EOps, gdA, callOf, isPanic, nextOf, altA, evalOp, St.ev, Av.get, St.put, ofV, thenQ, Nat.reduceEqDiff, ↓reduceIte, beq_true, Bool.false_eq_true, pickA, lineHop, Nat.reduceLT, lineS, List.take_succ_cons, List.take_zero, List.drop_succ_cons, List.drop_zero, lnl0, lnl1, lnl2, lnl3, lncv, lnn, lnld, encR_lend, str_lend, x0, x3, x4, x5]
  refine RW.fewer [(1, .ptr 0 0), (3, .str (small n)), (31, .bool false)] ⟨rfl, rfl, rfl, trivial⟩ ?_
  refine RW.chunk 6 [] lineFits ?_
  simp only [EOps, gdA, callOf, isPanic, nextOf, altA, evalOp, St.ev, Av.get, St.put, ofV, thenQ, Nat.reduceEqDiff, ↓reduceIte, beq_true, Bool.false_eq_true, pickA, lineHop, Nat.reduceLT, lineS, List.take_succ_cons, List.take_zero, List.drop_succ_cons, List.drop_zero, lnl0, lnl1, lnl2, lnl3, lncv, lnn, lnld, encR_lend, str_lend, x0, x3, x4, x5]
  refine RW.fewer [(1, .ptr 0 0), (3, .str (small n)), (37, .bool false)] ⟨rfl, rfl, rfl, trivial⟩ ?_
  refine RW.chunk 5 [] lineFits ?_
  simp only [EOps, gdA, callOf, isPanic, nextOf, altA, evalOp, St.ev, Av.get, St.put, ofV, thenQ, Nat.reduceEqDiff, ↓reduceIte, beq_true, Bool.false_eq_true, pickA, lineHop, Nat.reduceLT, lineS, List.take_succ_cons, List.take_zero, List.drop_succ_cons, List.drop_zero, lnl0, lnl1, lnl2, lnl3, lncv, lnn, lnld, encR_lend, str_lend, x0, x3, x4, x5]
  refine RW.fewer [(1, .ptr 0 0), (3, .str (small n)), (42, .bool false)] ⟨rfl, rfl, rfl, trivial⟩ ?_
  refine RW.chunk 6 [] lineFits ?_
  simp only [EOps, gdA, callOf, isPanic, nextOf, altA, evalOp, St.ev, Av.get, St.put, ofV, thenQ, Nat.reduceEqDiff, ↓reduceIte, beq_true, Bool.false_eq_true, pickA, lineHop, Nat.reduceLT, lineS, List.take_succ_cons, List.take_zero, List.drop_succ_cons, List.drop_zero, lnl0, lnl1, lnl2, lnl3, lncv, lnn, lnld, encR_lend, str_lend, x0, x3, x4, x5]
  refine RW.fewer [(1, .ptr 0 0), (3, .str (small n)), (48, .bool false)] ⟨rfl, rfl, rfl, trivial⟩ ?_
  refine RW.chunk 6 [] lineFits ?_
  simp only [EOps, gdA, callOf, isPanic, nextOf, altA, evalOp, St.ev, Av.get, St.put, ofV, thenQ, Nat.reduceEqDiff, ↓reduceIte, beq_true, Bool.false_eq_true, pickA, lineHop, Nat.reduceLT, lineS, List.take_succ_cons, List.take_zero, List.drop_succ_cons, List.drop_zero, lnl0, lnl1, lnl2, lnl3, lncv, lnn, lnld, encR_lend, str_lend, x0, x3, x4, x5]
  refine RW.done ?_
  exact .ret ⟨_, rfl, _, rfl, .refl _⟩

set_option maxRecDepth 100000 in
set_option maxHeartbeats 4000000 in
theorem line_f_2 (h0 : (g == []) = false) (p1 : PureFn Tryz.prog 59 [.str g] (.ret (.bool true))) (p2 : PureFn Tryz.prog 59 [.str (small n)] (.ret (.bool false))) : lineW g n v x ps false := by
  refine W.seq (RW.start (ops0 := lineOps) rfl ?_)
  refine RW.chunk 9 [.pure (.ret (.bool true))] lineFits ?_
  simp only [EOps, gdA, callOf, isPanic, nextOf, altA, evalOp, St.ev, Av.get, St.put, ofV, thenQ, Nat.reduceEqDiff, ↓reduceIte, List.map_cons, List.map_nil, List.nil_append, List.append_nil, Option.map_some, beq_false, Bool.not_false, pickA, cond_false, lineHop, Nat.reduceLT, lineS, List.take_succ_cons, List.take_zero, List.drop_succ_cons, List.drop_zero, fa45_0, Nat.add_zero, lnl0, lnl1, lnl2, lnl3, lncv, lnn, lnld, encR_lend, str_lend, x0, x3, x4, x5, s_eql, h0]
  refine ⟨p1, ?_⟩
  refine RW.fewer [(1, .ptr 0 0), (3, .str (small n)), (15, .bool true)] ⟨rfl, rfl, rfl, trivial⟩ ?_
  refine RW.chunk 4 [.pure (.ret (.bool false))] lineFits ?_
  simp only [EOps, gdA, callOf, isPanic, nextOf, altA, evalOp, St.ev, Av.get, St.put, ofV, thenQ, Nat.reduceEqDiff, ↓reduceIte, List.map_cons, List.map_nil, List.nil_append, List.append_nil, beq_true, pickA, cond_true, lineHop, Nat.reduceLT, lineS, List.take_succ_cons, List.take_zero, List.drop_succ_cons, List.drop_zero, lnl0, lnl1, lnl2, lnl3, lncv, lnn, lnld, encR_lend, str_lend, x0, x3, x4, x5]
  refine ⟨p2, ?_⟩
  refine RW.fewer [(1, .ptr 0 0), (3, .str (small n)), (19, .bool false)] ⟨rfl, rfl, rfl, trivial⟩ ?_
  refine RW.chunk 4 [] lineFits ?_
  simp only [EOps, gdA, callOf, isPanic, nextOf, altA, evalOp, St.ev, Av.get, St.put, ofV, thenQ, Nat.reduceEqDiff, ↓reduceIte, beq_true, Bool.false_eq_true, pickA, lineHop, Nat.reduceLT, lineS, List.take_succ_cons, List.take_zero, List.drop_succ_cons, List.drop_zero, lnl0, lnl1, lnl2, lnl3, lncv, lnn, lnld, encR_lend, str_lend, x0, x3, x4, x5]
  refine RW.fewer [(1, .ptr 0 0), (3, .str (small n)), (23, .bool false)] ⟨rfl, rfl, rfl, trivial⟩ ?_
  refine RW.chunk 4 [] lineFits ?_
  simp only [EOps, gdA, callOf, isPanic, nextOf, altA, evalOp, St.ev, Av.get, St.put, ofV, thenQ, Nat.reduceEqDiff, ↓reduceIte, beq_true, Bool.false_eq_true, pickA, lineHop, Nat.reduceLT, lineS, List.take_succ_cons, List.take_zero, List.drop_succ_cons, List.drop_zero, lnl0, lnl1, lnl2, lnl3, lncv, lnn, lnld, encR_lend, str_lend, x0, x3, x4, x5]
  refine RW.fewer [(1, .ptr 0 0), (3, .str (small n)), (27, .bool false)] ⟨rfl, rfl, rfl, trivial⟩ ?_
  refine RW.chunk 4 [] lineFits ?_
  simp only [EOps, gdA, callOf, isPanic, nextOf, altA, evalOp, St.ev, Av.get, St.put, ofV, thenQ, Nat.reduceEqDiff, ↓reduceIte, beq_true, Bool.false_eq_true, pickA, lineHop, Nat.reduceLT, lineS, List.take_succ_cons, List.take_zero, List.drop_succ_cons, List.drop_zero, lnl0, lnl1, lnl2, lnl3, lncv, lnn, lnld, encR_lend, str_lend, x0, x3, x4, x5]
  refine RW.fewer [(1, .ptr 0 0), (3, .str (small n)), (31, .bool false)] ⟨rfl, rfl, rfl, trivial⟩ ?_
  refine RW.chunk 6 [] lineFits ?_
  simp only [EOps, gdA, callOf, isPanic, nextOf, altA, evalOp, St.ev, Av.get, St.put, ofV, thenQ, Nat.reduceEqDiff, ↓reduceIte, beq_true, Bool.false_eq_true, pickA, lineHop, Nat.reduceLT, lineS, List.take_succ_cons, List.take_zero, List.drop_succ_cons, List.drop_zero, lnl0, lnl1, lnl2, lnl3, lncv, lnn, lnld, encR_lend, str_lend, x0, x3, x4, x5]
  refine RW.fewer [(1, .ptr 0 0), (3, .str (small n)), (37, .bool false)] ⟨rfl, rfl, rfl, trivial⟩ ?_
  refine RW.chunk 5 [] lineFits ?_
  simp only [EOps, gdA, callOf, isPanic, nextOf, altA, evalOp, St.ev, Av.get, St.put, ofV, thenQ, Nat.reduceEqDiff, ↓reduceIte, beq_true, Bool.false_eq_true, pickA, lineHop, Nat.reduceLT, lineS, List.take_succ_cons, List.take_zero, List.drop_succ_cons, List.drop_zero, lnl0, lnl1, lnl2, lnl3, lncv, lnn, lnld, encR_lend, str_lend, x0, x3, x4, x5]
  refine RW.fewer [(1, .ptr 0 0), (3, .str (small n)), (42, .bool false)] ⟨rfl, rfl, rfl, trivial⟩ ?_
  refine RW.chunk 6 [] lineFits ?_
  simp only [EOps, gdA, callOf, isPanic, nextOf, altA, evalOp, St.ev, Av.get, St.put, ofV, thenQ, Nat.reduceEqDiff, ↓reduceIte, beq_true, Bool.false_eq_true, pickA, lineHop, Nat.reduceLT, lineS, List.take_succ_cons, List.take_zero, List.drop_succ_cons, List.drop_zero, lnl0, lnl1, lnl2, lnl3, lncv, lnn, lnld, encR_lend, str_lend, x0, x3, x4, x5]
  refine RW.fewer [(1, .ptr 0 0), (3, .str (small n)), (48, .bool false)] ⟨rfl, rfl, rfl, trivial⟩ ?_
  refine RW.chunk 6 [] lineFits ?_
  simp only [EOps, gdA, callOf, isPanic, nextOf, altA, evalOp, St.ev, Av.get, St.put, ofV, thenQ, Nat.reduceEqDiff, ↓reduceIte, beq_true, Bool.false_eq_true, pickA, lineHop, Nat.reduceLT, lineS, List.take_succ_cons, List.take_zero, List.drop_succ_cons, List.drop_zero, lnl0, lnl1, lnl2, lnl3, lncv, lnn, lnld, encR_lend, str_lend, x0, x3, x4, x5]
  refine RW.done ?_
  exact .ret ⟨_, rfl, _, rfl, .refl _⟩

set_option maxRecDepth 100000 in
set_option maxHeartbeats 4000000 in
theorem line_f_3 (h0 : (g == []) = false) (p1 : PureFn Tryz.prog 59 [.str g] (.ret (.bool true))) (p2 : PureFn Tryz.prog 59 [.str (small n)] (.ret (.bool true))) (h3 : (small n == sBegin) = true) : lineW g n v x ps false := by
  unfold sBegin at h3
  refine W.seq (RW.start (ops0 := lineOps) rfl ?_)
  refine RW.chunk 9 [.pure (.ret (.bool true))] lineFits ?_
  simp only [EOps, gdA, callOf, isPanic, nextOf, altA, evalOp, St.ev, Av.get, St.put, ofV, thenQ, Nat.reduceEqDiff, ↓reduceIte, List.map_cons, List.map_nil, List.nil_append, List.append_nil, Option.map_some, beq_false, Bool.not_false, pickA, cond_false, lineHop, Nat.reduceLT, lineS, List.take_succ_cons, List.take_zero, List.drop_succ_cons, List.drop_zero, fa45_0, Nat.add_zero, lnl0, lnl1, lnl2, lnl3, lncv, lnn, lnld, encR_lend, str_lend, x0, x3, x4, x5, s_eql, h0]
  refine ⟨p1, ?_⟩
  refine RW.fewer [(1, .ptr 0 0), (3, .str (small n)), (15, .bool true)] ⟨rfl, rfl, rfl, trivial⟩ ?_
  refine RW.chunk 4 [.pure (.ret (.bool true))] lineFits ?_
  simp only [EOps, gdA, callOf, isPanic, nextOf, altA, evalOp, St.ev, Av.get, St.put, ofV, thenQ, Nat.reduceEqDiff, ↓reduceIte, List.map_cons, List.map_nil, List.nil_append, List.append_nil, beq_true, pickA, cond_true, lineHop, Nat.reduceLT, lineS, List.take_succ_cons, List.take_zero, List.drop_succ_cons, List.drop_zero, lnl0, lnl1, lnl2, lnl3, lncv, lnn, lnld, encR_lend, str_lend, x0, x3, x4, x5]
  refine ⟨p2, ?_⟩
  refine RW.fewer [(1, .ptr 0 0), (3, .str (small n)), (19, .bool true)] ⟨rfl, rfl, rfl, trivial⟩ ?_
  refine RW.chunk 4 [] lineFits ?_
  simp only [EOps, gdA, callOf, isPanic, nextOf, altA, evalOp, St.ev, Av.get, St.put, ofV, thenQ, Nat.reduceEqDiff, ↓reduceIte, beq_true, Bool.not_true, pickA, cond_true, lineHop, Nat.reduceLT, lineS, List.take_succ_cons, List.take_zero, List.drop_succ_cons, List.drop_zero, lnl0, lnl1, lnl2, lnl3, lncv, lnn, lnld, encR_lend, str_lend, x0, x3, x4, x5, s_neq, h3]
  refine RW.fewer [(1, .ptr 0 0), (3, .str (small n)), (23, .bool false)] ⟨rfl, rfl, rfl, trivial⟩ ?_
  refine RW.chunk 4 [] lineFits ?_
  simp only [EOps, gdA, callOf, isPanic, nextOf, altA, evalOp, St.ev, Av.get, St.put, ofV, thenQ, Nat.reduceEqDiff, ↓reduceIte, beq_true, Bool.false_eq_true, pickA, lineHop, Nat.reduceLT, lineS, List.take_succ_cons, List.take_zero, List.drop_succ_cons, List.drop_zero, lnl0, lnl1, lnl2, lnl3, lncv, lnn, lnld, encR_lend, str_lend, x0, x3, x4, x5]
  refine RW.fewer [(1, .ptr 0 0), (3, .str (small n)), (27, .bool false)] ⟨rfl, rfl, rfl, trivial⟩ ?_
  refine RW.chunk 4 [] lineFits ?_
  simp only [EOps, gdA, callOf, isPanic, nextOf, altA, evalOp, St.ev, Av.get, St.put, ofV, thenQ, Nat.reduceEqDiff, ↓reduceIte, beq_true, Bool.false_eq_true, pickA, lineHop, Nat.reduceLT, lineS, List.take_succ_cons, List.take_zero, List.drop_succ_cons, List.drop_zero, lnl0, lnl1, lnl2, lnl3, lncv, lnn, lnld, encR_lend, str_lend, x0, x3, x4, x5]
  refine RW.fewer [(1, .ptr 0 0), (3, .str (small n)), (31, .bool false)] ⟨rfl, rfl, rfl, trivial⟩ ?_
  refine RW.chunk 6 [] lineFits ?_
  simp only [EOps, gdA, callOf, isPanic, nextOf, altA, evalOp, St.ev, Av.get, St.put, ofV, thenQ, Nat.reduceEqDiff, ↓reduceIte, beq_true, Bool.false_eq_true, pickA, lineHop, Nat.reduceLT, lineS, List.take_succ_cons, List.take_zero, List.drop_succ_cons, List.drop_zero, lnl0, lnl1, lnl2, lnl3, lncv, lnn, lnld, encR_lend, str_lend, x0, x3, x4, x5]
  refine RW.fewer [(1, .ptr 0 0), (3, .str (small n)), (37, .bool false)] ⟨rfl, rfl, rfl, trivial⟩ ?_
  refine RW.chunk 5 [] lineFits ?_
  simp only [EOps, gdA, callOf, isPanic, nextOf, altA, evalOp, St.ev, Av.get, St.put, ofV, thenQ, Nat.reduceEqDiff, ↓reduceIte, beq_true, Bool.false_eq_true, pickA, lineHop, Nat.reduceLT, lineS, List.take_succ_cons, List.take_zero, List.drop_succ_cons, List.drop_zero, lnl0, lnl1, lnl2, lnl3, lncv, lnn, lnld, encR_lend, str_lend, x0, x3, x4, x5]
  refine RW.fewer [(1, .ptr 0 0), (3, .str (small n)), (42, .bool false)] ⟨rfl, rfl, rfl, trivial⟩ ?_
  refine RW.chunk 6 [] lineFits ?_
  simp only [EOps, gdA, callOf, isPanic, nextOf, altA, evalOp, St.ev, Av.get, St.put, ofV, thenQ, Nat.reduceEqDiff, ↓reduceIte, beq_true, Bool.false_eq_true, pickA, lineHop, Nat.reduceLT, lineS, List.take_succ_cons, List.take_zero, List.drop_succ_cons, List.drop_zero, lnl0, lnl1, lnl2, lnl3, lncv, lnn, lnld, encR_lend, str_lend, x0, x3, x4, x5]
  refine RW.fewer [(1, .ptr 0 0), (3, .str (small n)), (48, .bool false)] ⟨rfl, rfl, rfl, trivial⟩ ?_
  refine RW.chunk 6 [] lineFits ?_
  simp only [EOps, gdA, callOf, isPanic, nextOf, altA, evalOp, St.ev, Av.get, St.put, ofV, thenQ, Nat.reduceEqDiff, ↓reduceIte, beq_true, Bool.false_eq_true, pickA, lineHop, Nat.reduceLT, lineS, List.take_succ_cons, List.take_zero, List.drop_succ_cons, List.drop_zero, lnl0, lnl1, lnl2, lnl3, lncv, lnn, lnld, encR_lend, str_lend, x0, x3, x4, x5]
  refine RW.done ?_
  exact .ret ⟨_, rfl, _, rfl, .refl _⟩

set_option maxRecDepth 100000 in
set_option maxHeartbeats 4000000 in
theorem line_f_4 (h0 : (g == []) = false) (p1 : PureFn Tryz.prog 59 [.str g] (.ret (.bool true))) (p2 : PureFn Tryz.prog 59 [.str (small n)] (.ret (.bool true))) (h3 : (small n == sBegin) = false) (h4 : (small n == sEnd) = true) : lineW g n v x ps false := by
  unfold sBegin at h3
  unfold sEnd at h4
  refine W.seq (RW.start (ops0 := lineOps) rfl ?_)
  refine RW.chunk 9 [.pure (.ret (.bool true))] lineFits ?_
  simp only [EOps, gdA, callOf, isPanic, nextOf, altA, evalOp, St.ev, Av.get, St.put, ofV, thenQ, Nat.reduceEqDiff, ↓reduceIte, List.map_cons, List.map_nil, List.nil_append, List.append_nil, Option.map_some, beq_false, Bool.not_false, pickA, cond_false, lineHop, Nat.reduceLT, lineS, List.take_succ_cons, List.take_zero, List.drop_succ_cons, List.drop_zero, fa45_0, Nat.add_zero, lnl0, lnl1, lnl2, lnl3, lncv, lnn, lnld, encR_lend, str_lend, x0, x3, x4, x5, s_eql, h0]
  refine ⟨p1, ?_⟩
  refine RW.fewer [(1, .ptr 0 0), (3, .str (small n)), (15, .bool true)] ⟨rfl, rfl, rfl, trivial⟩ ?_
  refine RW.chunk 4 [.pure (.ret (.bool true))] lineFits ?_
  simp only [EOps, gdA, callOf, isPanic, nextOf, altA, evalOp, St.ev, Av.get, St.put, ofV, thenQ, Nat.reduceEqDiff, ↓reduceIte, List.map_cons, List.map_nil, List.nil_append, List.append_nil, beq_true, pickA, cond_true, lineHop, Nat.reduceLT, lineS, List.take_succ_cons, List.take_zero, List.drop_succ_cons, List.drop_zero, lnl0, lnl1, lnl2, lnl3, lncv, lnn, lnld, encR_lend, str_lend, x0, x3, x4, x5]
  refine ⟨p2, ?_⟩
  refine RW.fewer [(1, .ptr 0 0), (3, .str (small n)), (19, .bool true)] ⟨rfl, rfl, rfl, trivial⟩ ?_
  refine RW.chunk 4 [] lineFits ?_
  simp only [EOps, gdA, callOf, isPanic, nextOf, altA, evalOp, St.ev, Av.get, St.put, ofV, thenQ, Nat.reduceEqDiff, ↓reduceIte, beq_true, Bool.not_false, pickA, cond_true, lineHop, Nat.reduceLT, lineS, List.take_succ_cons, List.take_zero, List.drop_succ_cons, List.drop_zero, lnl0, lnl1, lnl2, lnl3, lncv, lnn, lnld, encR_lend, str_lend, x0, x3, x4, x5, s_neq, h3]
  refine RW.fewer [(1, .ptr 0 0), (3, .str (small n)), (23, .bool true)] ⟨rfl, rfl, rfl, trivial⟩ ?_
  refine RW.chunk 4 [] lineFits ?_
  simp only [EOps, gdA, callOf, isPanic, nextOf, altA, evalOp, St.ev, Av.get, St.put, ofV, thenQ, Nat.reduceEqDiff, ↓reduceIte, beq_true, Bool.not_true, pickA, cond_true, lineHop, Nat.reduceLT, lineS, List.take_succ_cons, List.take_zero, List.drop_succ_cons, List.drop_zero, lnl0, lnl1, lnl2, lnl3, lncv, lnn, lnld, encR_lend, str_lend, x0, x3, x4, x5, s_neq, h4]
  refine RW.fewer [(1, .ptr 0 0), (3, .str (small n)), (27, .bool false)] ⟨rfl, rfl, rfl, trivial⟩ ?_
  refine RW.chunk 4 [] lineFits ?_
  simp only [EOps, gdA, callOf, isPanic, nextOf, altA, evalOp, St.ev, Av.get, St.put, ofV, thenQ, Nat.reduceEqDiff, ↓reduceIte, beq_true, Bool.false_eq_true, pickA, lineHop, Nat.reduceLT, lineS, List.take_succ_cons, List.take_zero, List.drop_succ_cons, List.drop_zero, lnl0, lnl1, lnl2, lnl3, lncv, lnn, lnld, encR_lend, str_lend, x0, x3, x4, x5]
  refine RW.fewer [(1, .ptr 0 0), (3, .str (small n)), (31, .bool false)] ⟨rfl, rfl, rfl, trivial⟩ ?_
  refine RW.chunk 6 [] lineFits ?_
  simp only [EOps, gdA, callOf, isPanic, nextOf, altA, evalOp, St.ev, Av.get, St.put, ofV, thenQ, Nat.reduceEqDiff, ↓reduceIte, beq_true, Bool.false_eq_true, pickA, lineHop, Nat.reduceLT, lineS, List.take_succ_cons, List.take_zero, List.drop_succ_cons, List.drop_zero, lnl0, lnl1, lnl2, lnl3, lncv, lnn, lnld, encR_lend, str_lend, x0, x3, x4, x5]
  refine RW.fewer [(1, .ptr 0 0), (3, .str (small n)), (37, .bool false)] ⟨rfl, rfl, rfl, trivial⟩ ?_
  refine RW.chunk 5 [] lineFits ?_
  simp only [EOps, gdA, callOf, isPanic, nextOf, altA, evalOp, St.ev, Av.get, St.put, ofV, thenQ, Nat.reduceEqDiff, ↓reduceIte, beq_true, Bool.false_eq_true, pickA, lineHop, Nat.reduceLT, lineS, List.take_succ_cons, List.take_zero, List.drop_succ_cons, List.drop_zero, lnl0, lnl1, lnl2, lnl3, lncv, lnn, lnld, encR_lend, str_lend, x0, x3, x4, x5]
  refine RW.fewer [(1, .ptr 0 0), (3, .str (small n)), (42, .bool false)] ⟨rfl, rfl, rfl, trivial⟩ ?_
  refine RW.chunk 6 [] lineFits ?_
  simp only [EOps, gdA, callOf, isPanic, nextOf, altA, evalOp, St.ev, Av.get, St.put, ofV, thenQ, Nat.reduceEqDiff, ↓reduceIte, beq_true, Bool.false_eq_true, pickA, lineHop, Nat.reduceLT, lineS, List.take_succ_cons, List.take_zero, List.drop_succ_cons, List.drop_zero, lnl0, lnl1, lnl2, lnl3, lncv, lnn, lnld, encR_lend, str_lend, x0, x3, x4, x5]
  refine RW.fewer [(1, .ptr 0 0), (3, .str (small n)), (48, .bool false)] ⟨rfl, rfl, rfl, trivial⟩ ?_
  refine RW.chunk 6 [] lineFits ?_
  simp only [EOps, gdA, callOf, isPanic, nextOf, altA, evalOp, St.ev, Av.get, St.put, ofV, thenQ, Nat.reduceEqDiff, ↓reduceIte, beq_true, Bool.false_eq_true, pickA, lineHop, Nat.reduceLT, lineS, List.take_succ_cons, List.take_zero, List.drop_succ_cons, List.drop_zero, lnl0, lnl1, lnl2, lnl3, lncv, lnn, lnld, encR_lend, str_lend, x0, x3, x4, x5]
  refine RW.done ?_
  exact .ret ⟨_, rfl, _, rfl, .refl _⟩

set_option maxRecDepth 100000 in
set_option maxHeartbeats 4000000 in
theorem line_f_5 (h0 : (g == []) = false) (p1 : PureFn Tryz.prog 59 [.str g] (.ret (.bool true))) (p2 : PureFn Tryz.prog 59 [.str (small n)] (.ret (.bool true))) (h3 : (small n == sBegin) = false) (h4 : (small n == sEnd) = false) (h5 : (small n == sVersion) = true) : lineW g n v x ps false := by
  unfold sBegin at h3
  unfold sEnd at h4
  unfold sVersion at h5
  refine W.seq (RW.start (ops0 := lineOps) rfl ?_)
  refine RW.chunk 9 [.pure (.ret (.bool true))] lineFits ?_
  simp only [EOps, gdA, callOf, isPanic, nextOf, altA, evalOp, St.ev, Av.get, St.put, ofV, thenQ, Nat.reduceEqDiff, ↓reduceIte, List.map_cons, List.map_nil, List.nil_append, List.append_nil, Option.map_some, beq_false, Bool.not_false, pickA, cond_false, lineHop, Nat.reduceLT, lineS, List.take_succ_cons, List.take_zero, List.drop_succ_cons, List.drop_zero, fa45_0, Nat.add_zero, lnl0, lnl1, lnl2, lnl3, lncv, lnn, lnld, encR_lend, str_lend, x0, x3, x4, x5, s_eql, h0]
  refine ⟨p1, ?_⟩
  refine RW.fewer [(1, .ptr 0 0), (3, .str (small n)), (15, .bool true)] ⟨rfl, rfl, rfl, trivial⟩ ?_
  refine RW.chunk 4 [.pure (.ret (.bool true))] lineFits ?_
  simp only [EOps, gdA, callOf, isPanic, nextOf, altA, evalOp, St.ev, Av.get, St.put, ofV, thenQ, Nat.reduceEqDiff, ↓reduceIte, List.map_cons, List.map_nil, List.nil_append, List.append_nil, beq_true, pickA, cond_true, lineHop, Nat.reduceLT, lineS, List.take_succ_cons, List.take_zero, List.drop_succ_cons, List.drop_zero, lnl0, lnl1, lnl2, lnl3, lncv, lnn, lnld, encR_lend, str_lend, x0, x3, x4, x5]
  refine ⟨p2, ?_⟩
  refine RW.fewer [(1, .ptr 0 0), (3, .str (small n)), (19, .bool true)] ⟨rfl, rfl, rfl, trivial⟩ ?_
  refine RW.chunk 4 [] lineFits ?_
  simp only [EOps, gdA, callOf, isPanic, nextOf, altA, evalOp, St.ev, Av.get, St.put, ofV, thenQ, Nat.reduceEqDiff, ↓reduceIte, beq_true, Bool.not_false, pickA, cond_true, lineHop, Nat.reduceLT, lineS, List.take_succ_cons, List.take_zero, List.drop_succ_cons, List.drop_zero, lnl0, lnl1, lnl2, lnl3, lncv, lnn, lnld, encR_lend, str_lend, x0, x3, x4, x5, s_neq, h3]
  refine RW.fewer [(1, .ptr 0 0), (3, .str (small n)), (23, .bool true)] ⟨rfl, rfl, rfl, trivial⟩ ?_
  refine RW.chunk 4 [] lineFits ?_
  simp only [EOps, gdA, callOf, isPanic, nextOf, altA, evalOp, St.ev, Av.get, St.put, ofV, thenQ, Nat.reduceEqDiff, ↓reduceIte, beq_true, Bool.not_false, pickA, cond_true, lineHop, Nat.reduceLT, lineS, List.take_succ_cons, List.take_zero, List.drop_succ_cons, List.drop_zero, lnl0, lnl1, lnl2, lnl3, lncv, lnn, lnld, encR_lend, str_lend, x0, x3, x4, x5, s_neq, h4]
  refine RW.fewer [(1, .ptr 0 0), (3, .str (small n)), (27, .bool true)] ⟨rfl, rfl, rfl, trivial⟩ ?_
  refine RW.chunk 4 [] lineFits ?_
  simp only [EOps, gdA, callOf, isPanic, nextOf, altA, evalOp, St.ev, Av.get, St.put, ofV, thenQ, Nat.reduceEqDiff, ↓reduceIte, beq_true, Bool.not_true, pickA, cond_true, lineHop, Nat.reduceLT, lineS, List.take_succ_cons, List.take_zero, List.drop_succ_cons, List.drop_zero, lnl0, lnl1, lnl2, lnl3, lncv, lnn, lnld, encR_lend, str_lend, x0, x3, x4, x5, s_neq, h5]
  refine RW.fewer [(1, .ptr 0 0), (3, .str (small n)), (31, .bool false)] ⟨rfl, rfl, rfl, trivial⟩ ?_
  refine RW.chunk 6 [] lineFits ?_
  simp only [EOps, gdA, callOf, isPanic, nextOf, altA, evalOp, St.ev, Av.get, St.put, ofV, thenQ, Nat.reduceEqDiff, ↓reduceIte, beq_true, Bool.false_eq_true, pickA, lineHop, Nat.reduceLT, lineS, List.take_succ_cons, List.take_zero, List.drop_succ_cons, List.drop_zero, lnl0, lnl1, lnl2, lnl3, lncv, lnn, lnld, encR_lend, str_lend, x0, x3, x4, x5]
  refine RW.fewer [(1, .ptr 0 0), (3, .str (small n)), (37, .bool false)] ⟨rfl, rfl, rfl, trivial⟩ ?_
  refine RW.chunk 5 [] lineFits ?_
  simp only [EOps, gdA, callOf, isPanic, nextOf, altA, evalOp, St.ev, Av.get, St.put, ofV, thenQ, Nat.reduceEqDiff, ↓reduceIte, beq_true, Bool.false_eq_true, pickA, lineHop, Nat.reduceLT, lineS, List.take_succ_cons, List.take_zero, List.drop_succ_cons, List.drop_zero, lnl0, lnl1, lnl2, lnl3, lncv, lnn, lnld, encR_lend, str_lend, x0, x3, x4, x5]
  refine RW.fewer [(1, .ptr 0 0), (3, .str (small n)), (42, .bool false)] ⟨rfl, rfl, rfl, trivial⟩ ?_
  refine RW.chunk 6 [] lineFits ?_
  simp only [EOps, gdA, callOf, isPanic, nextOf, altA, evalOp, St.ev, Av.get, St.put, ofV, thenQ, Nat.reduceEqDiff, ↓reduceIte, beq_true, Bool.false_eq_true, pickA, lineHop, Nat.reduceLT, lineS, List.take_succ_cons, List.take_zero, List.drop_succ_cons, List.drop_zero, lnl0, lnl1, lnl2, lnl3, lncv, lnn, lnld, encR_lend, str_lend, x0, x3, x4, x5]
  refine RW.fewer [(1, .ptr 0 0), (3, .str (small n)), (48, .bool false)] ⟨rfl, rfl, rfl, trivial⟩ ?_
  refine RW.chunk 6 [] lineFits ?_
  simp only [EOps, gdA, callOf, isPanic, nextOf, altA, evalOp, St.ev, Av.get, St.put, ofV, thenQ, Nat.reduceEqDiff, ↓reduceIte, beq_true, Bool.false_eq_true, pickA, lineHop, Nat.reduceLT, lineS, List.take_succ_cons, List.take_zero, List.drop_succ_cons, List.drop_zero, lnl0, lnl1, lnl2, lnl3, lncv, lnn, lnld, encR_lend, str_lend, x0, x3, x4, x5]
  refine RW.done ?_
  exact .ret ⟨_, rfl, _, rfl, .refl _⟩

set_option maxRecDepth 100000 in
set_option maxHeartbeats 4000000 in
theorem line_f_6 (h0 : (g == []) = false) (p1 : PureFn Tryz.prog 59 [.str g] (.ret (.bool true))) (p2 : PureFn Tryz.prog 59 [.str (small n)] (.ret (.bool true))) (h3 : (small n == sBegin) = false) (h4 : (small n == sEnd) = false) (h5 : (small n == sVersion) = false) (h6 : decide ((ps.length : Int) ≤ 8) = false) : lineW g n v x ps false := by
  unfold sBegin at h3
  unfold sEnd at h4
  unfold sVersion at h5
  refine W.seq (RW.start (ops0 := lineOps) rfl ?_)
  refine RW.chunk 9 [.pure (.ret (.bool true))] lineFits ?_
  simp only [EOps, gdA, callOf, isPanic, nextOf, altA, evalOp, St.ev, Av.get, St.put, ofV, thenQ, Nat.reduceEqDiff, ↓reduceIte, List.map_cons, List.map_nil, List.nil_append, List.append_nil, Option.map_some, beq_false, Bool.not_false, pickA, cond_false, lineHop, Nat.reduceLT, lineS, List.take_succ_cons, List.take_zero, List.drop_succ_cons, List.drop_zero, fa45_0, Nat.add_zero, lnl0, lnl1, lnl2, lnl3, lncv, lnn, lnld, encR_lend, str_lend, x0, x3, x4, x5, s_eql, h0]
  refine ⟨p1, ?_⟩
  refine RW.fewer [(1, .ptr 0 0), (3, .str (small n)), (15, .bool true)] ⟨rfl, rfl, rfl, trivial⟩ ?_
  refine RW.chunk 4 [.pure (.ret (.bool true))] lineFits ?_
  simp only [EOps, gdA, callOf, isPanic, nextOf, altA, evalOp, St.ev, Av.get, St.put, ofV, thenQ, Nat.reduceEqDiff, ↓reduceIte, List.map_cons, List.map_nil, List.nil_append, List.append_nil, beq_true, pickA, cond_true, lineHop, Nat.reduceLT, lineS, List.take_succ_cons, List.take_zero, List.drop_succ_cons, List.drop_zero, lnl0, lnl1, lnl2, lnl3, lncv, lnn, lnld, encR_lend, str_lend, x0, x3, x4, x5]
  refine ⟨p2, ?_⟩
  refine RW.fewer [(1, .ptr 0 0), (3, .str (small n)), (19, .bool true)] ⟨rfl, rfl, rfl, trivial⟩ ?_
  refine RW.chunk 4 [] lineFits ?_
  simp only [EOps, gdA, callOf, isPanic, nextOf, altA, evalOp, St.ev, Av.get, St.put, ofV, thenQ, Nat.reduceEqDiff, ↓reduceIte, beq_true, Bool.not_false, pickA, cond_true, lineHop, Nat.reduceLT, lineS, List.take_succ_cons, List.take_zero, List.drop_succ_cons, List.drop_zero, lnl0, lnl1, lnl2, lnl3, lncv, lnn, lnld, encR_lend, str_lend, x0, x3, x4, x5, s_neq, h3]
  refine RW.fewer [(1, .ptr 0 0), (3, .str (small n)), (23, .bool true)] ⟨rfl, rfl, rfl, trivial⟩ ?_
  refine RW.chunk 4 [] lineFits ?_
  simp only [EOps, gdA, callOf, isPanic, nextOf, altA, evalOp, St.ev, Av.get, St.put, ofV, thenQ, Nat.reduceEqDiff, ↓reduceIte, beq_true, Bool.not_false, pickA, cond_true, lineHop, Nat.reduceLT, lineS, List.take_succ_cons, List.take_zero, List.drop_succ_cons, List.drop_zero, lnl0, lnl1, lnl2, lnl3, lncv, lnn, lnld, encR_lend, str_lend, x0, x3, x4, x5, s_neq, h4]
  refine RW.fewer [(1, .ptr 0 0), (3, .str (small n)), (27, .bool true)] ⟨rfl, rfl, rfl, trivial⟩ ?_
  refine RW.chunk 4 [] lineFits ?_
  simp only [EOps, gdA, callOf, isPanic, nextOf, altA, evalOp, St.ev, Av.get, St.put, ofV, thenQ, Nat.reduceEqDiff, ↓reduceIte, beq_true, Bool.not_false, pickA, cond_true, lineHop, Nat.reduceLT, lineS, List.take_succ_cons, List.take_zero, List.drop_succ_cons, List.drop_zero, lnl0, lnl1, lnl2, lnl3, lncv, lnn, lnld, encR_lend, str_lend, x0, x3, x4, x5, s_neq, h5]
  refine RW.fewer [(1, .ptr 0 0), (3, .str (small n)), (31, .bool true)] ⟨rfl, rfl, rfl, trivial⟩ ?_
  refine RW.chunk 6 [] lineFits ?_
  simp only [EOps, deN, gdA, callOf, isPanic, nextOf, altA, evalOp, St.ev, Av.get, St.put, ofV, thenQ, Nat.reduceEqDiff, ↓reduceIte, Option.map_some, beq_true, pickA, cond_true, lineHop, Nat.reduceLT, lineS, List.take_succ_cons, List.take_zero, List.drop_succ_cons, List.drop_zero, fa45_2, Nat.zero_add, lnl0, lnl1, lnl2, lnl3, lncv, lnn, lnld, encR_lend, str_lend, x0, x3, x4, x5, b_leq, h6]
  refine RW.fewer [(1, .ptr 0 0), (3, .str (small n)), (37, .bool false)] ⟨rfl, rfl, rfl, trivial⟩ ?_
  refine RW.chunk 5 [] lineFits ?_
  simp only [EOps, gdA, callOf, isPanic, nextOf, altA, evalOp, St.ev, Av.get, St.put, ofV, thenQ, Nat.reduceEqDiff, ↓reduceIte, beq_true, Bool.false_eq_true, pickA, lineHop, Nat.reduceLT, lineS, List.take_succ_cons, List.take_zero, List.drop_succ_cons, List.drop_zero, lnl0, lnl1, lnl2, lnl3, lncv, lnn, lnld, encR_lend, str_lend, x0, x3, x4, x5]
  refine RW.fewer [(1, .ptr 0 0), (3, .str (small n)), (42, .bool false)] ⟨rfl, rfl, rfl, trivial⟩ ?_
  refine RW.chunk 6 [] lineFits ?_
  simp only [EOps, gdA, callOf, isPanic, nextOf, altA, evalOp, St.ev, Av.get, St.put, ofV, thenQ, Nat.reduceEqDiff, ↓reduceIte, beq_true, Bool.false_eq_true, pickA, lineHop, Nat.reduceLT, lineS, List.take_succ_cons, List.take_zero, List.drop_succ_cons, List.drop_zero, lnl0, lnl1, lnl2, lnl3, lncv, lnn, lnld, encR_lend, str_lend, x0, x3, x4, x5]
  refine RW.fewer [(1, .ptr 0 0), (3, .str (small n)), (48, .bool false)] ⟨rfl, rfl, rfl, trivial⟩ ?_
  refine RW.chunk 6 [] lineFits ?_
  simp only [EOps, gdA, callOf, isPanic, nextOf, altA, evalOp, St.ev, Av.get, St.put, ofV, thenQ, Nat.reduceEqDiff, ↓reduceIte, beq_true, Bool.false_eq_true, pickA, lineHop, Nat.reduceLT, lineS, List.take_succ_cons, List.take_zero, List.drop_succ_cons, List.drop_zero, lnl0, lnl1, lnl2, lnl3, lncv, lnn, lnld, encR_lend, str_lend, x0, x3, x4, x5]
  refine RW.done ?_
  exact .ret ⟨_, rfl, _, rfl, .refl _⟩

set_option maxRecDepth 100000 in
set_option maxHeartbeats 4000000 in
theorem line_f_7 (h0 : (g == []) = false) (p1 : PureFn Tryz.prog 59 [.str g] (.ret (.bool true))) (p2 : PureFn Tryz.prog 59 [.str (small n)] (.ret (.bool true))) (h3 : (small n == sBegin) = false) (h4 : (small n == sEnd) = false) (h5 : (small n == sVersion) = false) (h6 : decide ((ps.length : Int) ≤ 8) = true) (p7 : PureFn Tryz.prog 60 [.vsl 3 x (ps.map encR), .func (.func 61) [] []] (.ret (.bool false))) : lineW g n v x ps false := by
  unfold sBegin at h3
  unfold sEnd at h4
  unfold sVersion at h5
  refine W.seq (RW.start (ops0 := lineOps) rfl ?_)
  refine RW.chunk 9 [.pure (.ret (.bool true))] lineFits ?_
  simp only [EOps, gdA, callOf, isPanic, nextOf, altA, evalOp, St.ev, Av.get, St.put, ofV, thenQ, Nat.reduceEqDiff, ↓reduceIte, List.map_cons, List.map_nil, List.nil_append, List.append_nil, Option.map_some, beq_false, Bool.not_false, pickA, cond_false, lineHop, Nat.reduceLT, lineS, List.take_succ_cons, List.take_zero, List.drop_succ_cons, List.drop_zero, fa45_0, Nat.add_zero, lnl0, lnl1, lnl2, lnl3, lncv, lnn, lnld, encR_lend, str_lend, x0, x3, x4, x5, s_eql, h0]
  refine ⟨p1, ?_⟩
  refine RW.fewer [(1, .ptr 0 0), (3, .str (small n)), (15, .bool true)] ⟨rfl, rfl, rfl, trivial⟩ ?_
  refine RW.chunk 4 [.pure (.ret (.bool true))] lineFits ?_
  simp only [EOps, gdA, callOf, isPanic, nextOf, altA, evalOp, St.ev, Av.get, St.put, ofV, thenQ, Nat.reduceEqDiff, ↓reduceIte, List.map_cons, List.map_nil, List.nil_append, List.append_nil, beq_true, pickA, cond_true, lineHop, Nat.reduceLT, lineS, List.take_succ_cons, List.take_zero, List.drop_succ_cons, List.drop_zero, lnl0, lnl1, lnl2, lnl3, lncv, lnn, lnld, encR_lend, str_lend, x0, x3, x4, x5]
  refine ⟨p2, ?_⟩
  refine RW.fewer [(1, .ptr 0 0), (3, .str (small n)), (19, .bool true)] ⟨rfl, rfl, rfl, trivial⟩ ?_
  refine RW.chunk 4 [] lineFits ?_
  simp only [EOps, gdA, callOf, isPanic, nextOf, altA, evalOp, St.ev, Av.get, St.put, ofV, thenQ, Nat.reduceEqDiff, ↓reduceIte, beq_true, Bool.not_false, pickA, cond_true, lineHop, Nat.reduceLT, lineS, List.take_succ_cons, List.take_zero, List.drop_succ_cons, List.drop_zero, lnl0, lnl1, lnl2, lnl3, lncv, lnn, lnld, encR_lend, str_lend, x0, x3, x4, x5, s_neq, h3]
  refine RW.fewer [(1, .ptr 0 0), (3, .str (small n)), (23, .bool true)] ⟨rfl, rfl, rfl, trivial⟩ ?_
  refine RW.chunk 4 [] lineFits ?_
  simp only [EOps, gdA, callOf, isPanic, nextOf, altA, evalOp, St.ev, Av.get, St.put, ofV, thenQ, Nat.reduceEqDiff, ↓reduceIte, beq_true, Bool.not_false, pickA, cond_true, lineHop, Nat.reduceLT, lineS, List.take_succ_cons, List.take_zero, List.drop_succ_cons, List.drop_zero, lnl0, lnl1, lnl2, lnl3, lncv, lnn, lnld, encR_lend, str_lend, x0, x3, x4, x5, s_neq, h4]
  refine RW.fewer [(1, .ptr 0 0), (3, .str (small n)), (27, .bool true)] ⟨rfl, rfl, rfl, trivial⟩ ?_
  refine RW.chunk 4 [] lineFits ?_
  simp only [EOps, gdA, callOf, isPanic, nextOf, altA, evalOp, St.ev, Av.get, St.put, ofV, thenQ, Nat.reduceEqDiff, ↓reduceIte, beq_true, Bool.not_false, pickA, cond_true, lineHop, Nat.reduceLT, lineS, List.take_succ_cons, List.take_zero, List.drop_succ_cons, List.drop_zero, lnl0, lnl1, lnl2, lnl3, lncv, lnn, lnld, encR_lend, str_lend, x0, x3, x4, x5, s_neq, h5]
  refine RW.fewer [(1, .ptr 0 0), (3, .str (small n)), (31, .bool true)] ⟨rfl, rfl, rfl, trivial⟩ ?_
  refine RW.chunk 6 [] lineFits ?_
  simp only [EOps, deN, gdA, callOf, isPanic, nextOf, altA, evalOp, St.ev, Av.get, St.put, ofV, thenQ, Nat.reduceEqDiff, ↓reduceIte, Option.map_some, beq_true, pickA, cond_true, lineHop, Nat.reduceLT, lineS, List.take_succ_cons, List.take_zero, List.drop_succ_cons, List.drop_zero, fa45_2, Nat.zero_add, lnl0, lnl1, lnl2, lnl3, lncv, lnn, lnld, encR_lend, str_lend, x0, x3, x4, x5, b_leq, h6]
  refine RW.fewer [(1, .ptr 0 0), (3, .str (small n)), (37, .bool true)] ⟨rfl, rfl, rfl, trivial⟩ ?_
  refine RW.chunk 5 [.pure (.ret (.bool false))] lineFits ?_
  simp only [EOps, gdA, callOf, isPanic, nextOf, altA, evalOp, St.ev, Av.get, St.put, ofV, thenQ, Nat.reduceEqDiff, ↓reduceIte, List.map_cons, List.map_nil, List.nil_append, List.append_nil, Option.map_some, beq_true, pickA, cond_true, lineHop, Nat.reduceLT, lineS, List.take_succ_cons, List.take_zero, List.drop_succ_cons, List.drop_zero, fa45_2, Nat.zero_add, lnl0, lnl1, lnl2, lnl3, lncv, lnn, lnld, encR_lend, str_lend, x0, x3, x4, x5]
  refine ⟨p7, ?_⟩
  refine RW.fewer [(1, .ptr 0 0), (3, .str (small n)), (42, .bool false)] ⟨rfl, rfl, rfl, trivial⟩ ?_
  refine RW.chunk 6 [] lineFits ?_
  simp only [EOps, gdA, callOf, isPanic, nextOf, altA, evalOp, St.ev, Av.get, St.put, ofV, thenQ, Nat.reduceEqDiff, ↓reduceIte, beq_true, Bool.false_eq_true, pickA, lineHop, Nat.reduceLT, lineS, List.take_succ_cons, List.take_zero, List.drop_succ_cons, List.drop_zero, lnl0, lnl1, lnl2, lnl3, lncv, lnn, lnld, encR_lend, str_lend, x0, x3, x4, x5]
  refine RW.fewer [(1, .ptr 0 0), (3, .str (small n)), (48, .bool false)] ⟨rfl, rfl, rfl, trivial⟩ ?_
  refine RW.chunk 6 [] lineFits ?_
  simp only [EOps, gdA, callOf, isPanic, nextOf, altA, evalOp, St.ev, Av.get, St.put, ofV, thenQ, Nat.reduceEqDiff, ↓reduceIte, beq_true, Bool.false_eq_true, pickA, lineHop, Nat.reduceLT, lineS, List.take_succ_cons, List.take_zero, List.drop_succ_cons, List.drop_zero, lnl0, lnl1, lnl2, lnl3, lncv, lnn, lnld, encR_lend, str_lend, x0, x3, x4, x5]
  refine RW.done ?_
  exact .ret ⟨_, rfl, _, rfl, .refl _⟩

set_option maxRecDepth 100000 in
set_option maxHeartbeats 4000000 in
theorem line_f_8 (h0 : (g == []) = false) (p1 : PureFn Tryz.prog 59 [.str g] (.ret (.bool true))) (p2 : PureFn Tryz.prog 59 [.str (small n)] (.ret (.bool true))) (h3 : (small n == sBegin) = false) (h4 : (small n == sEnd) = false) (h5 : (small n == sVersion) = false) (h6 : decide ((ps.length : Int) ≤ 8) = true) (p7 : PureFn Tryz.prog 60 [.vsl 3 x (ps.map encR), .func (.func 61) [] []] (.ret (.bool true))) (h8 : decide ((v.length : Int) ≤ 4000) = false) : lineW g n v x ps false := by
  unfold sBegin at h3
  unfold sEnd at h4
  unfold sVersion at h5
  refine W.seq (RW.start (ops0 := lineOps) rfl ?_)
  refine RW.chunk 9 [.pure (.ret (.bool true))] lineFits ?_
  simp only [EOps, gdA, callOf, isPanic, nextOf, altA, evalOp, St.ev, Av.get, St.put, ofV, thenQ, Nat.reduceEqDiff, ↓reduceIte, List.map_cons, List.map_nil, List.nil_append, List.append_nil, Option.map_some, beq_false, Bool.not_false, pickA, cond_false, lineHop, Nat.reduceLT, lineS, List.take_succ_cons, List.take_zero, List.drop_succ_cons, List.drop_zero, fa45_0, Nat.add_zero, lnl0, lnl1, lnl2, lnl3, lncv, lnn, lnld, encR_lend, str_lend, x0, x3, x4, x5, s_eql, h0]
  refine ⟨p1, ?_⟩
  refine RW.fewer [(1, .ptr 0 0), (3, .str (small n)), (15, .bool true)] ⟨rfl, rfl, rfl, trivial⟩ ?_
  refine RW.chunk 4 [.pure (.ret (.bool true))] lineFits ?_
  simp only [EOps, gdA, callOf, isPanic, nextOf, altA, evalOp, St.ev, Av.get, St.put, ofV, thenQ, Nat.reduceEqDiff, ↓reduceIte, List.map_cons, List.map_nil, List.nil_append, List.append_nil, beq_true, pickA, cond_true, lineHop, Nat.reduceLT, lineS, List.take_succ_cons, List.take_zero, List.drop_succ_cons, List.drop_zero, lnl0, lnl1, lnl2, lnl3, lncv, lnn, lnld, encR_lend, str_lend, x0, x3, x4, x5]
  refine ⟨p2, ?_⟩
  refine RW.fewer [(1, .ptr 0 0), (3, .str (small n)), (19, .bool true)] ⟨rfl, rfl, rfl, trivial⟩ ?_
  refine RW.chunk 4 [] lineFits ?_
  simp only [EOps, gdA, callOf, isPanic, nextOf, altA, evalOp, St.ev, Av.get, St.put, ofV, thenQ, Nat.reduceEqDiff, ↓reduceIte, beq_true, Bool.not_false, pickA, cond_true, lineHop, Nat.reduceLT, lineS, List.take_succ_cons, List.take_zero, List.drop_succ_cons, List.drop_zero, lnl0, lnl1, lnl2, lnl3, lncv, lnn, lnld, encR_lend, str_lend, x0, x3, x4, x5, s_neq, h3]
  refine RW.fewer [(1, .ptr 0 0), (3, .str (small n)), (23, .bool true)] ⟨rfl, rfl, rfl, trivial⟩ ?_
  refine RW.chunk 4 [] lineFits ?_
  simp only [EOps, gdA, callOf, isPanic, nextOf, altA, evalOp, St.ev, Av.get, St.put, ofV, thenQ, Nat.reduceEqDiff, ↓reduceIte, beq_true, Bool.not_false, pickA, cond_true, lineHop, Nat.reduceLT, lineS, List.take_succ_cons, List.take_zero, List.drop_succ_cons, List.drop_zero, lnl0, lnl1, lnl2, lnl3, lncv, lnn, lnld, encR_lend, str_lend, x0, x3, x4, x5, s_neq, h4]
  refine RW.fewer [(1, .ptr 0 0), (3, .str (small n)), (27, .bool true)] ⟨rfl, rfl, rfl, trivial⟩ ?_
  refine RW.chunk 4 [] lineFits ?_
  simp only [EOps, gdA, callOf, isPanic, nextOf, altA, evalOp, St.ev, Av.get, St.put, ofV, thenQ, Nat.reduceEqDiff, ↓reduceIte, beq_true, Bool.not_false, pickA, cond_true, lineHop, Nat.reduceLT, lineS, List.take_succ_cons, List.take_zero, List.drop_succ_cons, List.drop_zero, lnl0, lnl1, lnl2, lnl3, lncv, lnn, lnld, encR_lend, str_lend, x0, x3, x4, x5, s_neq, h5]
  refine RW.fewer [(1, .ptr 0 0), (3, .str (small n)), (31, .bool true)] ⟨rfl, rfl, rfl, trivial⟩ ?_
  refine RW.chunk 6 [] lineFits ?_
  simp only [EOps, deN, gdA, callOf, isPanic, nextOf, altA, evalOp, St.ev, Av.get, St.put, ofV, thenQ, Nat.reduceEqDiff, ↓reduceIte, Option.map_some, beq_true, pickA, cond_true, lineHop, Nat.reduceLT, lineS, List.take_succ_cons, List.take_zero, List.drop_succ_cons, List.drop_zero, fa45_2, Nat.zero_add, lnl0, lnl1, lnl2, lnl3, lncv, lnn, lnld, encR_lend, str_lend, x0, x3, x4, x5, b_leq, h6]
  refine RW.fewer [(1, .ptr 0 0), (3, .str (small n)), (37, .bool true)] ⟨rfl, rfl, rfl, trivial⟩ ?_
  refine RW.chunk 5 [.pure (.ret (.bool true))] lineFits ?_
  simp only [EOps, gdA, callOf, isPanic, nextOf, altA, evalOp, St.ev, Av.get, St.put, ofV, thenQ, Nat.reduceEqDiff, ↓reduceIte, List.map_cons, List.map_nil, List.nil_append, List.append_nil, Option.map_some, beq_true, pickA, cond_true, lineHop, Nat.reduceLT, lineS, List.take_succ_cons, List.take_zero, List.drop_succ_cons, List.drop_zero, fa45_2, Nat.zero_add, lnl0, lnl1, lnl2, lnl3, lncv, lnn, lnld, encR_lend, str_lend, x0, x3, x4, x5]
  refine ⟨p7, ?_⟩
  refine RW.fewer [(1, .ptr 0 0), (3, .str (small n)), (42, .bool true)] ⟨rfl, rfl, rfl, trivial⟩ ?_
  refine RW.chunk 6 [] lineFits ?_
  simp only [EOps, deN, gdA, callOf, isPanic, nextOf, altA, evalOp, St.ev, Av.get, St.put, ofV, thenQ, Nat.reduceEqDiff, ↓reduceIte, Option.map_some, beq_true, pickA, cond_true, lineHop, Nat.reduceLT, lineS, List.take_succ_cons, List.take_zero, List.drop_succ_cons, List.drop_zero, fa45_3, Nat.zero_add, lnl0, lnl1, lnl2, lnl3, lncv, lnn, lnld, encR_lend, str_lend, x0, x3, x4, x5, b_leq, ls9, h8]
  refine RW.fewer [(1, .ptr 0 0), (3, .str (small n)), (48, .bool false)] ⟨rfl, rfl, rfl, trivial⟩ ?_
  refine RW.chunk 6 [] lineFits ?_
  simp only [EOps, gdA, callOf, isPanic, nextOf, altA, evalOp, St.ev, Av.get, St.put, ofV, thenQ, Nat.reduceEqDiff, ↓reduceIte, beq_true, Bool.false_eq_true, pickA, lineHop, Nat.reduceLT, lineS, List.take_succ_cons, List.take_zero, List.drop_succ_cons, List.drop_zero, lnl0, lnl1, lnl2, lnl3, lncv, lnn, lnld, encR_lend, str_lend, x0, x3, x4, x5]
  refine RW.done ?_
  exact .ret ⟨_, rfl, _, rfl, .refl _⟩

set_option maxRecDepth 100000 in
set_option maxHeartbeats 4000000 in
theorem line_f_9 (b9 : Bool) (h0 : (g == []) = false) (p1 : PureFn Tryz.prog 59 [.str g] (.ret (.bool true))) (p2 : PureFn Tryz.prog 59 [.str (small n)] (.ret (.bool true))) (h3 : (small n == sBegin) = false) (h4 : (small n == sEnd) = false) (h5 : (small n == sVersion) = false) (h6 : decide ((ps.length : Int) ≤ 8) = true) (p7 : PureFn Tryz.prog 60 [.vsl 3 x (ps.map encR), .func (.func 61) [] []] (.ret (.bool true))) (h8 : decide ((v.length : Int) ≤ 4000) = true) (p9 : PureFn Tryz.prog 62 [.vsl 0 false (bytesA v), .func (.func 63) [] []] (.ret (.bool b9))) : lineW g n v x ps b9 := by
  unfold sBegin at h3
  unfold sEnd at h4
  unfold sVersion at h5
  refine W.seq (RW.start (ops0 := lineOps) rfl ?_)
  refine RW.chunk 9 [.pure (.ret (.bool true))] lineFits ?_
  simp only [EOps, gdA, callOf, isPanic, nextOf, altA, evalOp, St.ev, Av.get, St.put, ofV, thenQ, Nat.reduceEqDiff, ↓reduceIte, List.map_cons, List.map_nil, List.nil_append, List.append_nil, Option.map_some, beq_false, Bool.not_false, pickA, cond_false, lineHop, Nat.reduceLT, lineS, List.take_succ_cons, List.take_zero, List.drop_succ_cons, List.drop_zero, fa45_0, Nat.add_zero, lnl0, lnl1, lnl2, lnl3, lncv, lnn, lnld, encR_lend, str_lend, x0, x3, x4, x5, s_eql, h0]
  refine ⟨p1, ?_⟩
  refine RW.fewer [(1, .ptr 0 0), (3, .str (small n)), (15, .bool true)] ⟨rfl, rfl, rfl, trivial⟩ ?_
  refine RW.chunk 4 [.pure (.ret (.bool true))] lineFits ?_
  simp only [EOps, gdA, callOf, isPanic, nextOf, altA, evalOp, St.ev, Av.get, St.put, ofV, thenQ, Nat.reduceEqDiff, ↓reduceIte, List.map_cons, List.map_nil, List.nil_append, List.append_nil, beq_true, pickA, cond_true, lineHop, Nat.reduceLT, lineS, List.take_succ_cons, List.take_zero, List.drop_succ_cons, List.drop_zero, lnl0, lnl1, lnl2, lnl3, lncv, lnn, lnld, encR_lend, str_lend, x0, x3, x4, x5]
  refine ⟨p2, ?_⟩
  refine RW.fewer [(1, .ptr 0 0), (3, .str (small n)), (19, .bool true)] ⟨rfl, rfl, rfl, trivial⟩ ?_
  refine RW.chunk 4 [] lineFits ?_
  simp only [EOps, gdA, callOf, isPanic, nextOf, altA, evalOp, St.ev, Av.get, St.put, ofV, thenQ, Nat.reduceEqDiff, ↓reduceIte, beq_true, Bool.not_false, pickA, cond_true, lineHop, Nat.reduceLT, lineS, List.take_succ_cons, List.take_zero, List.drop_succ_cons, List.drop_zero, lnl0, lnl1, lnl2, lnl3, lncv, lnn, lnld, encR_lend, str_lend, x0, x3, x4, x5, s_neq, h3]
  refine RW.fewer [(1, .ptr 0 0), (3, .str (small n)), (23, .bool true)] ⟨rfl, rfl, rfl, trivial⟩ ?_
  refine RW.chunk 4 [] lineFits ?_
  simp only [EOps, gdA, callOf, isPanic, nextOf, altA, evalOp, St.ev, Av.get, St.put, ofV, thenQ, Nat.reduceEqDiff, ↓reduceIte, beq_true, Bool.not_false, pickA, cond_true, lineHop, Nat.reduceLT, lineS, List.take_succ_cons, List.take_zero, List.drop_succ_cons, List.drop_zero, lnl0, lnl1, lnl2, lnl3, lncv, lnn, lnld, encR_lend, str_lend, x0, x3, x4, x5, s_neq, h4]
  refine RW.fewer [(1, .ptr 0 0), (3, .str (small n)), (27, .bool true)] ⟨rfl, rfl, rfl, trivial⟩ ?_
  refine RW.chunk 4 [] lineFits ?_
  simp only [EOps, gdA, callOf, isPanic, nextOf, altA, evalOp, St.ev, Av.get, St.put, ofV, thenQ, Nat.reduceEqDiff, ↓reduceIte, beq_true, Bool.not_false, pickA, cond_true, lineHop, Nat.reduceLT, lineS, List.take_succ_cons, List.take_zero, List.drop_succ_cons, List.drop_zero, lnl0, lnl1, lnl2, lnl3, lncv, lnn, lnld, encR_lend, str_lend, x0, x3, x4, x5, s_neq, h5]
  refine RW.fewer [(1, .ptr 0 0), (3, .str (small n)), (31, .bool true)] ⟨rfl, rfl, rfl, trivial⟩ ?_
  refine RW.chunk 6 [] lineFits ?_
  simp only [EOps, deN, gdA, callOf, isPanic, nextOf, altA, evalOp, St.ev, Av.get, St.put, ofV, thenQ, Nat.reduceEqDiff, ↓reduceIte, Option.map_some, beq_true, pickA, cond_true, lineHop, Nat.reduceLT, lineS, List.take_succ_cons, List.take_zero, List.drop_succ_cons, List.drop_zero, fa45_2, Nat.zero_add, lnl0, lnl1, lnl2, lnl3, lncv, lnn, lnld, encR_lend, str_lend, x0, x3, x4, x5, b_leq, h6]
  refine RW.fewer [(1, .ptr 0 0), (3, .str (small n)), (37, .bool true)] ⟨rfl, rfl, rfl, trivial⟩ ?_
  refine RW.chunk 5 [.pure (.ret (.bool true))] lineFits ?_
  simp only [EOps, gdA, callOf, isPanic, nextOf, altA, evalOp, St.ev, Av.get, St.put, ofV, thenQ, Nat.reduceEqDiff, ↓reduceIte, List.map_cons, List.map_nil, List.nil_append, List.append_nil, Option.map_some, beq_true, pickA, cond_true, lineHop, Nat.reduceLT, lineS, List.take_succ_cons, List.take_zero, List.drop_succ_cons, List.drop_zero, fa45_2, Nat.zero_add, lnl0, lnl1, lnl2, lnl3, lncv, lnn, lnld, encR_lend, str_lend, x0, x3, x4, x5]
  refine ⟨p7, ?_⟩
  refine RW.fewer [(1, .ptr 0 0), (3, .str (small n)), (42, .bool true)] ⟨rfl, rfl, rfl, trivial⟩ ?_
  refine RW.chunk 6 [] lineFits ?_
  simp only [EOps, deN, gdA, callOf, isPanic, nextOf, altA, evalOp, St.ev, Av.get, St.put, ofV, thenQ, Nat.reduceEqDiff, ↓reduceIte, Option.map_some, beq_true, pickA, cond_true, lineHop, Nat.reduceLT, lineS, List.take_succ_cons, List.take_zero, List.drop_succ_cons, List.drop_zero, fa45_3, Nat.zero_add, lnl0, lnl1, lnl2, lnl3, lncv, lnn, lnld, encR_lend, str_lend, x0, x3, x4, x5, b_leq, ls9, h8]
  refine RW.fewer [(1, .ptr 0 0), (3, .str (small n)), (48, .bool true)] ⟨rfl, rfl, rfl, trivial⟩ ?_
  refine RW.chunk 6 [.pure (.ret (.bool b9))] lineFits ?_
  simp only [EOps, gdA, callOf, isPanic, nextOf, altA, evalOp, St.ev, Av.get, St.put, ofV, thenQ, Nat.reduceEqDiff, ↓reduceIte, List.map_cons, List.map_nil, List.nil_append, List.append_nil, Option.map_some, beq_true, pickA, cond_true, lineHop, Nat.reduceLT, lineS, List.take_succ_cons, List.take_zero, List.drop_succ_cons, List.drop_zero, fa45_3, Nat.zero_add, lnl0, lnl1, lnl2, lnl3, lncv, lnn, lnld, encR_lend, str_lend, x0, x3, x4, x5]
  refine ⟨p9, ?_⟩
  refine RW.done ?_
  exact .ret ⟨_, rfl, _, rfl, .refl _⟩

set_option maxRecDepth 100000 in
theorem lineV (l : Ln) : PureFn Tryz.prog 36 [encLn l] (.ret (.bool (lineB l))) := by
  obtain ⟨g, n, x, ps, v⟩ := l
  refine PureFn.of Tryz.func36 rfl (enters_call enters Tryz.func36 rfl) (by simp [Tryz.ntmps36]) ?_
  show W Tryz.prog 54 _ none _ _ _
  refine .seq (.region [] (by decide) ?_)
  simp only [EOps, gdA, callOf, isPanic, nextOf, altA, evalOp, St.ev, Av.get, St.put, argT, ofV, thenQ, ↓reduceIte, List.nil_append, AV.cells, List.length_nil, AV.told, encLn]
  refine .seq (.region [.pure (.ret (.str (small n)))] (by decide) ?_)
  have l1 := lnl1 g n v x ps
  unfold lineH at l1
  simp only [EOps, gdA, callOf, isPanic, nextOf, altA, evalOp, St.ev, Av.get, St.put, thenQ, Nat.reduceEqDiff, ↓reduceIte, List.map_cons, List.map_nil, List.nil_append, List.append_nil, Option.map_some, fa45_1, Nat.zero_add, l1, str_lend]
  refine ⟨smallD n, ?_⟩
  refine W.fewer [(1, .ptr 0 0), (3, .str (small n))] ⟨rfl, rfl, trivial⟩ ?_
  show lineW g n v x ps _
  unfold lineB
  have p1 := nameV g
  have p2 := nameV (small n)
  have p7 := eachP x ps
  have p9 := eachL_ v
  simp only
  generalize h0 : (g == []) = b0
  generalize nameB g = b1 at p1
  generalize nameB (small n) = b2 at p2
  generalize h3 : (small n == sBegin) = b3
  generalize h4 : (small n == sEnd) = b4
  generalize h5 : (small n == sVersion) = b5
  generalize h6 : decide ((ps.length : Int) ≤ 8) = b6
  generalize ps.all paramB = b7 at p7
  generalize h8 : decide ((v.length : Int) ≤ 4000) = b8
  generalize v.all byL = b9 at p9
  cases b0 with
  | true =>
    cases b2 with
    | false => exact line_t_2 g n v x ps h0 p2
    | true =>
      cases b3 with
      | true => exact line_t_3 g n v x ps h0 p2 h3
      | false =>
        cases b4 with
        | true => exact line_t_4 g n v x ps h0 p2 h3 h4
        | false =>
          cases b5 with
          | true => exact line_t_5 g n v x ps h0 p2 h3 h4 h5
          | false =>
            cases b6 with
            | false => exact line_t_6 g n v x ps h0 p2 h3 h4 h5 h6
            | true =>
              cases b7 with
              | false => exact line_t_7 g n v x ps h0 p2 h3 h4 h5 h6 p7
              | true =>
                cases b8 with
                | false => exact line_t_8 g n v x ps h0 p2 h3 h4 h5 h6 p7 h8
                | true =>
                  exact line_t_9 g n v x ps b9 h0 p2 h3 h4 h5 h6 p7 h8 p9
  | false =>
    cases b1 with
    | false => exact line_f_1 g n v x ps h0 p1
    | true =>
      cases b2 with
      | false => exact line_f_2 g n v x ps h0 p1 p2
      | true =>
        cases b3 with
        | true => exact line_f_3 g n v x ps h0 p1 p2 h3
        | false =>
          cases b4 with
          | true => exact line_f_4 g n v x ps h0 p1 p2 h3 h4
          | false =>
            cases b5 with
            | true => exact line_f_5 g n v x ps h0 p1 p2 h3 h4 h5
            | false =>
              cases b6 with
              | false => exact line_f_6 g n v x ps h0 p1 p2 h3 h4 h5 h6
              | true =>
                cases b7 with
                | false => exact line_f_7 g n v x ps h0 p1 p2 h3 h4 h5 h6 p7
                | true =>
                  cases b8 with
                  | false => exact line_f_8 g n v x ps h0 p1 p2 h3 h4 h5 h6 p7 h8
                  | true =>
                    exact line_f_9 g n v x ps b9 h0 p1 p2 h3 h4 h5 h6 p7 h8 p9
end Go.Proofs.YtjlhemfmeboadaaGreatDoor
namespace Go.Proofs.YtjlhemfmeboadaaGreatDoor
set_option linter.unusedVariables false
set_option linter.unusedSimpArgs false
open Go Go.Av Go.RowKit

theorem addS (t : Nat) (a b : Bytes) (h : a.length + b.length ≤ 100000000) : evBin Tryz.prog .add t (.str a) (.str b) = some (.str (a ++ b)) := by
  simp only [evBin]
  rw [if_pos (by simp only [maxLen']; omega)]

/-- A text folded, at most k times. -/
def foldN : Nat → Nat → Bytes → Bytes
  | 0, _, s => s
  | k + 1, m, s => if m < s.length then s.take m ++ ([13, 10, 32] ++ foldN k 74 (s.drop m)) else s
def fold (s : Bytes) : Bytes := foldN s.length 75 s

set_option maxRecDepth 8000 in
theorem foldV (s : Bytes) (hs : s.length ≤ 1000000) : PureFn Tryz.prog 22 [.str s] (.ret (.str (fold s))) := by
  refine PureFn.of Tryz.func22 rfl (enters_call enters Tryz.func22 rfl) (by simp [Tryz.ntmps22]) ?_
  show W Tryz.prog 21 0 none _ _ _
  refine .seq (.region [] (by decide) ?_)
  have x0 : ({ data := #[] } : ByteArray).size ≤ maxLen' := by decide
  have x3 : ({ data := #[13, 10, 32] } : ByteArray).size ≤ maxLen' := by decide
  simp only [EOps, gdA, callOf, isPanic, nextOf, altA, evalOp, St.ev, St.put, argT, ofV, thenQ]
  refine .seq (.region [] (by decide) ?_)
  simp only [EOps, gdA, callOf, isPanic, nextOf, altA, evalOp, St.ev, St.put, ofV, thenQ, ↓reduceIte, x0]
  refine .seq (.block ?_)
  refine .loopT (X := Bytes × Nat × Bytes × Nat) (fun x => [(3, .str x.1), (4, .int .i64 (x.2.1 : Int)), (0, .str x.2.2.1)]) (fun _ => [])
    (fun x => x.1 ++ foldN x.2.2.2 x.2.1 x.2.2.1 = fold s ∧ x.2.2.1.length ≤ x.2.2.2 ∧ 74 ≤ x.2.1 ∧ x.1.length + 2 * x.2.2.1.length ≤ 2 * s.length) (fun x => x.2.2.1.length) ([], 75, s, s.length) ⟨rfl, Nat.le_refl _, by simp, by simp⟩
    (by simp [holdsT, Av.get]) rfl ?_
  rintro ⟨out, m, s', k⟩ ⟨h1, h2, h3, h4⟩
  simp only at h1 h2 h3 h4
  refine .seq (.seq (.region [] (by decide) ?_))
  simp only [EOps, deN, gdA, callOf, isPanic, nextOf, altA, evalOp, St.ev, Av.get, St.put, thenQ, Nat.reduceEqDiff, ↓reduceIte, Option.map_some, ls9, b_gtr]
  by_cases h : m < s'.length
  · refine .cond (t := true) (by simp [St.ev, Av.get]; omega) (.skip ?_)
    simp only [thenQ]
    have hcat : evBin Tryz.prog .add 9 (.str out) (.str (s'.take m ++ [13, 10, 32])) = some (.str (out ++ (s'.take m ++ [13, 10, 32]))) := addS _ _ _ (by simp; omega)
    have hcat0 : evBin Tryz.prog .add 9 (.str (s'.take m)) (.str [13, 10, 32]) = some (.str (s'.take m ++ [13, 10, 32])) := addS _ _ _ (by simp; omega)
    refine .block (.seq (.region [] (by decide) ?_))
    simp only [EOps, deN, gdA, callOf, isPanic, nextOf, altA, evalOp, St.ev, Av.get, St.put, ofV, thenQ, Nat.reduceEqDiff, ↓reduceIte, Option.map_some, Option.map_none, List.drop_zero, ss9, bnds_to .i64 m (Nat.le_of_lt h), Nat.sub_zero, x3, hcat0, hcat]
    refine .region [] (by decide) ?_
    have htk : (s'.drop m).take (s'.length - m) = s'.drop m := List.take_of_length_le (by simp)
    simp only [EOps, deN, gdA, callOf, isPanic, nextOf, altA, evalOp, St.ev, Av.get, St.put, ofV, thenQ, Nat.reduceEqDiff, ↓reduceIte, Option.map_some, Option.map_none, and_self, and_true, blockQ, ss9, bnds_from .i64 m (Nat.le_of_lt h), htk]
    obtain ⟨k', rfl⟩ : ∃ k', k = k' + 1 := ⟨k - 1, by omega⟩
    refine ⟨(out ++ (s'.take m ++ [13, 10, 32]), 74, s'.drop m, k'), ⟨?_, ?_, ?_, ?_⟩, ?_, ⟨rfl, rfl, rfl, trivial⟩⟩
    · simp only
      rw [← h1, foldN, if_pos h]; simp
    · simp; omega
    · simp
    · simp; omega
    · simp; omega
  · refine .cond (t := false) (by simp [St.ev, Av.get]; omega) (.exit ?_)
    simp only [thenQ, ↓reduceIte, blockQ]
    have he : foldN k m s' = s' := by
      cases k with
      | zero => rfl
      | succ k => rw [foldN, if_neg h]
    refine .seq (.region [] (by decide) ?_)
    have hcat : evBin Tryz.prog .add 9 (.str out) (.str s') = some (.str (out ++ s')) := addS _ _ _ (by omega)
    simp only [EOps, gdA, callOf, isPanic, nextOf, altA, evalOp, St.ev, Av.get, St.put, thenQ, Nat.reduceEqDiff, ↓reduceIte, hcat]
    rw [← h1, he]
    exact .ret ⟨_, rfl, _, rfl, .refl _⟩

/-- Texts, each with its end of a line. -/
def joined (l : List Bytes) : Bytes := (l.map fun x => x ++ [13, 10]).flatten

theorem joined_nil : joined [] = [] := rfl
theorem joined_snoc (l : List Bytes) (x : Bytes) : joined (l ++ [x]) = joined l ++ (x ++ [13, 10]) := by simp [joined]
theorem joined_take {l : List Bytes} {i : Nat} {x : Bytes} (h : l[i]? = some x) : joined (l.take (i + 1)) = joined (l.take i) ++ (x ++ [13, 10]) := by
  rw [List.take_add_one, h]; exact joined_snoc _ _
theorem joined_le : ∀ (l : List Bytes) (i : Nat), (joined (l.take i)).length ≤ (joined l).length
  | [], i => by simp
  | x :: l, 0 => by simp [joined]
  | x :: l, i + 1 => by
    have := joined_le l i
    simp only [joined, List.take_succ_cons, List.map_cons, List.flatten_cons, List.length_append] at this ⊢
    omega

set_option maxRecDepth 8000 in
theorem joinedV (x : Bool) (l : List Bytes) (hl : (joined l).length ≤ 50000000) : PureFn Tryz.prog 55 [.vsl 0 x (l.map .str)] (.ret (.str (joined l))) := by
  refine PureFn.fit fun hfit => ?_
  have hL : l.length ≤ maxLen' := by have : (l.map AV.str).length ≤ maxLen' := hfit (.vsl 0 x (l.map .str)) (by simp); simpa using this
  refine PureFn.of Tryz.func55 rfl (enters_call enters Tryz.func55 rfl) (by simp [Tryz.ntmps55]) ?_
  show W Tryz.prog 18 0 none _ _ _
  have x0 : ({ data := #[] } : ByteArray).size ≤ maxLen' := by decide
  have x2 : ({ data := #[13, 10] } : ByteArray).size ≤ maxLen' := by decide
  refine .seq (.region [] (by decide) ?_)
  simp only [EOps, gdA, callOf, isPanic, nextOf, altA, evalOp, St.ev, St.put, argT, ofV, thenQ]
  refine .seq (.region [] (by decide) ?_)
  simp only [EOps, gdA, callOf, isPanic, nextOf, altA, evalOp, St.ev, St.put, ofV, thenQ, ↓reduceIte, x0]
  have hln : ∀ H, evLen Tryz.prog 38 (.vsl 0 x (l.map .str)) H = some (.int .i64 l.length) := by intro H; simp [lv38]
  refine .seq (.seq (.region [] (by decide) ?_))
  simp only [EOps, deN, gdA, callOf, isPanic, nextOf, altA, evalOp, St.ev, Av.get, St.put, ofV, thenQ, Nat.reduceEqDiff, ↓reduceIte, Option.map_some, hln]
  refine .block ?_
  refine .forG 8 7 9 16 l.length hL rfl rfl rfl rfl rfl rfl rfl rfl rfl (by decide) (by decide) (by decide)
    (fun i => [(6, .vsl 0 x (l.map .str)), (3, .str (joined (l.take i)))]) (fun _ => rfl) (fun _ => []) (fun _ => Nat.zero_le _) (fun i => True) rfl trivial ?_ ?_ trivial ?_ ?_
  · simp only [List.take_zero, joined_nil]
    simp only [subT, Av.get, Nat.reduceEqDiff, ↓reduceIte, Le_rfl, nat0, nat1, and_self]
  · intro i _
    simp only [hltT, AV.hlt, AV.hlts, strs_hlts, Bool.and_self, Bool.and_true, Bool.true_and]
  · intro i hi _
    obtain ⟨u, hu, hdrop⟩ := drop_at hi
    have hia : evIndexAddr Tryz.prog 38 (.vsl 0 x (l.map .str)) (.int .i64 (i : Int)) [] = some (.vptr [.str u]) := by
      simp [evIndexAddr, idx_nat, Tryz.underlying38, tz9, hu, AV.cells]
    have hle := joined_le l (i + 1)
    rw [joined_take hu] at hle
    simp only [List.length_append, List.length_cons, List.length_nil] at hle
    have ha : evBin Tryz.prog .add 9 (.str u) (.str [13, 10]) = some (.str (u ++ [13, 10])) := addS _ _ _ (by simp; omega)
    have hb : evBin Tryz.prog .add 9 (.str (joined (l.take i))) (.str (u ++ [13, 10])) = some (.str (joined (l.take (i + 1)))) := by rw [joined_take hu]; exact addS _ _ _ (by simp; omega)
    refine .block (.seq (.region [] (by decide) ?_))
    simp only [EOps, gdA, callOf, isPanic, nextOf, altA, evalOp, St.ev, Av.get, St.put, thenQ, Nat.reduceEqDiff, ↓reduceIte, Option.map_some, hia, lw9]
    refine .region [] (by decide) ?_
    simp only [EOps, gdA, callOf, isPanic, nextOf, altA, evalOp, St.ev, Av.get, St.put, ofV, Nat.reduceEqDiff, ↓reduceIte, x2, ha, hb]
    refine ⟨trivial, ?_, trivial, rfl⟩
    simp only [subT, Av.get, Nat.reduceEqDiff, ↓reduceIte, Le_rfl, nat0, nat1, and_self]
  · intro _
    rw [List.take_length]
    simp only [thenQ, ↓reduceIte, blockQ]
    refine .seq (.region [] (by decide) ?_)
    simp only [EOps, gdA, callOf, isPanic, nextOf, altA, evalOp, St.ev, Av.get, St.put, thenQ, Nat.reduceEqDiff, ↓reduceIte]
    exact .ret ⟨_, rfl, _, rfl, .refl _⟩
end Go.Proofs.YtjlhemfmeboadaaGreatDoor
namespace Go.Proofs.YtjlhemfmeboadaaGreatDoor
set_option linter.unusedVariables false
set_option linter.unusedSimpArgs false
open Go Go.Av Go.RowKit

/-! ### Letters -/

set_option maxRecDepth 100000 in
theorem decN_hi (n b0 b1 b2 b3 : Nat) (h : 128 ≤ b0) (h0 : b0 < 256) :
    128 ≤ (Lib.decodeN n b0 b1 b2 b3).1 ∧ ((Lib.decodeN n b0 b1 b2 b3).2 = 1 ∨ ((Lib.decodeN n b0 b1 b2 b3).2 = 2 ∧ 1 < n ∧ 128 ≤ b1) ∨ ((Lib.decodeN n b0 b1 b2 b3).2 = 3 ∧ 2 < n ∧ 128 ≤ b1 ∧ 128 ≤ b2) ∨ ((Lib.decodeN n b0 b1 b2 b3).2 = 4 ∧ 3 < n ∧ 128 ≤ b1 ∧ 128 ≤ b2 ∧ 128 ≤ b3)) := by
  unfold Lib.decodeN
  repeat' split
  all_goals first
    | exact ⟨by dsimp only; omega, .inl rfl⟩
    | exact ⟨by dsimp only; omega, .inr (.inl ⟨rfl, by omega, by omega⟩)⟩
    | exact ⟨by dsimp only; omega, .inr (.inr (.inl ⟨rfl, by omega, by omega, by omega⟩))⟩
    | exact ⟨by dsimp only; omega, .inr (.inr (.inr ⟨rfl, by omega, by omega, by omega, by omega⟩))⟩
    | (exfalso; omega)

/-- A small byte is a letter. -/
theorem dec_lo {s : Bytes} {i : Nat} {x : UInt8} (hx : s[i]? = some x) (h : x.toNat < 128) : Utf8.decode ⟨s.toArray⟩ i = (x.toNat, 1) := by
  rw [Lib.decode_N]
  have : (s.getD i 0) = x := by simp [List.getD, hx]
  simp only [this]
  exact Lib.decodeN_ascii _ _ _ _ _ h
/-- A letter that begins with a great byte is great; its bytes are great. -/
theorem dec_hi {s : Bytes} {i : Nat} {x : UInt8} (hx : s[i]? = some x) (h : 128 ≤ x.toNat) : 128 ≤ (Utf8.decode ⟨s.toArray⟩ i).1 ∧ 1 ≤ (Utf8.decode ⟨s.toArray⟩ i).2 ∧ i + (Utf8.decode ⟨s.toArray⟩ i).2 ≤ s.length ∧
    ∀ j, i ≤ j → j < i + (Utf8.decode ⟨s.toArray⟩ i).2 → 128 ≤ (s.getD j 0).toNat := by
  have hd : Utf8.decode ⟨s.toArray⟩ i = Lib.decodeN (s.length - i) (s.getD i 0).toNat (s.getD (i + 1) 0).toNat (s.getD (i + 2) 0).toNat (s.getD (i + 3) 0).toNat := by rw [Lib.decode_N]
  have hx0 : (s.getD i 0) = x := by simp [List.getD, hx]
  have hi := (List.getElem?_eq_some_iff.1 hx).1
  rw [hd, hx0]
  obtain ⟨h1, h2⟩ := decN_hi (s.length - i) x.toNat (s.getD (i + 1) 0).toNat (s.getD (i + 2) 0).toNat (s.getD (i + 3) 0).toNat h x.toNat_lt
  refine ⟨h1, ?_⟩
  generalize (Lib.decodeN (s.length - i) x.toNat (s.getD (i + 1) 0).toNat (s.getD (i + 2) 0).toNat (s.getD (i + 3) 0).toNat).2 = w at h2
  refine ⟨by omega, by omega, ?_⟩
  intro j hj1 hj2
  have hj : j = i ∨ j = i + 1 ∨ j = i + 2 ∨ j = i + 3 := by omega
  rcases hj with rfl | rfl | rfl | rfl
  · rw [hx0]; exact h
  all_goals omega

/-! ### Names -/

def nmI (x : Int) : Bool := decide (x ≥ 97) && decide (x ≤ 122) || decide (x ≥ 65) && decide (x ≤ 90) || decide (x ≥ 48) && decide (x ≤ 57) || (x == 45)
/-- How many bytes of a name stand in front. -/
def lead : Bytes → Nat
  | [] => 0
  | x :: t => if nmI x.toNat then lead t + 1 else 0
def ixN (s : Bytes) : Int := if lead s < s.length then (lead s : Int) else -1

theorem nmI_hi (r : Nat) (h : 128 ≤ r) : nmI r = false := by
  have h1 : ¬ ((r : Int) ≤ 122) := by omega
  have h2 : ¬ ((r : Int) ≤ 90) := by omega
  have h3 : ¬ ((r : Int) ≤ 57) := by omega
  have h4 : ¬ ((r : Int) = 45) := by omega
  simp [nmI, h1, h2, h3, h4]

section
variable {P : Program} {n m : Nat} {R : Option Nat} {Q : Ex → St → Prop} {a : St}
/-- A part of a region, and what holds behind it. -/
theorem RW.cut {ops : Array Oper} {l : List Oper} (c : Nat) (C : List (Nat × AV)) (rs : List CR) (hf : fits n ops = true) (h1 : EOps P ops (thenQ (fun a' => holdsT a'.T C ∧ a'.H = a.H ∧ a'.D = a.D) Q) rs (l.take c) a)
    (h2 : RW P n m R ops Q (l.drop c) ⟨C, a.H, a.D⟩) : RW P n m R ops Q l a := by
  intro k hk B act w r
  have hlen : (l.take c).length + (l.drop c).length = l.length := by rw [← List.length_append, List.take_append_drop]
  have := EOps_okT (P := P) (R := R) (Q := Q) (Q' := thenQ (fun a' => holdsT a'.T C ∧ a'.H = a.H ∧ a'.D = a.D) Q) (B := B) (List.range' (k + (l.take c).length) (l.drop c).length) (fits_get hf) ?_ (fun _ _ _ h => h) (l.take c) k rs a act w (fun i o hi => hk i o (by
    rw [List.getElem?_take] at hi; split at hi
    · exact hi
    · cases hi)) h1 r
  · rw [← hlen]
    rw [← List.range'_append_1]; exact this
  · rintro ⟨T, H, D⟩ act' w' ⟨ht, h3, h4⟩ hr
    simp only at h3 h4
    subst h3; subst h4
    refine RW.fewer C ht h2 _ (fun i o hi => ?_) B act' w' hr
    by_cases hc : c ≤ l.length
    · rw [List.length_take, Nat.min_eq_left hc, Nat.add_assoc]
      exact hk _ o (by rw [List.getElem?_drop] at hi; exact hi)
    · rw [List.drop_eq_nil_of_le (by omega)] at hi; simp at hi
end

noncomputable def nmOps : Array Oper := match Tryz.f90.body with
  | some (.seq _ (.seq (.region _ ops _) _)) => ops
  | _ => #[]
theorem nmFits : fits 30 nmOps = true := by kernel_rfl
theorem nmHop (j : Nat) (hj : j < 28) : (nmOps[j]?).bind (fun x => x.dst) = if j < 27 then some (j + 3) else some 2 := by
  have : (List.range 28).all (fun j => decide ((nmOps[j]?).bind (fun x => x.dst) = if j < 27 then some (j + 3) else some 2)) = true := by kernel_rfl
  exact of_decide_eq_true (List.all_eq_true.1 this j (List.mem_range.2 hj))

set_option maxRecDepth 8000 in
theorem nmC (x : Int) : PureFn Tryz.prog 90 [.int .i32 x] (.ret (.bool !(nmI x))) := by
  refine PureFn.of Tryz.func90 rfl (enters_call enters Tryz.func90 rfl) (by simp [Tryz.ntmps90]) ?_
  show W Tryz.prog 30 0 none _ _ _
  unfold nmI
  generalize h1 : decide (x ≥ 97) = b1
  generalize h2 : decide (x ≤ 122) = b2
  generalize h3 : decide (x ≥ 65) = b3
  generalize h4 : decide (x ≤ 90) = b4
  generalize h5 : decide (x ≥ 48) = b5
  generalize h6 : decide (x ≤ 57) = b6
  generalize h7 : (x == 45) = b7
  refine .seq (.region [] (by decide) ?_)
  simp only [EOps, gdA, callOf, isPanic, nextOf, altA, evalOp, St.ev, St.put, argT, ofV, thenQ]
  refine .seq (RW.start (ops0 := nmOps) rfl ?_)
  refine RW.cut 7 [(0, .int .i32 x), (9, .bool (b1 && b2))] [] nmFits ?_ ?_
  · cases b1 <;> cases b2 <;> simp only [EOps, gdA, callOf, isPanic, nextOf, altA, evalOp, St.ev, Av.get, St.put, ofV, thenQ, Nat.reduceEqDiff, ↓reduceIte, Bool.and_self, beq_true, Bool.false_eq_true, pickA, cond_true, List.take_succ_cons, List.take_zero, nmHop, Nat.reduceLT, b_geq, b_leq, u_not, h1, h2] <;> exact ⟨⟨rfl, rfl, trivial⟩, trivial, trivial⟩
  generalize (b1 && b2) = c1
  simp only [List.drop_succ_cons, List.drop_zero]
  refine RW.cut 8 [(0, .int .i32 x), (17, .bool (c1 || b3 && b4))] [] nmFits ?_ ?_
  · cases c1 <;> cases b3 <;> cases b4 <;> simp only [EOps, gdA, callOf, isPanic, nextOf, altA, evalOp, St.ev, Av.get, St.put, ofV, thenQ, Nat.reduceEqDiff, ↓reduceIte, Bool.and_self, beq_false, beq_true, Bool.not_true, Bool.not_false, Bool.false_eq_true, pickA, cond_true, cond_false, List.take_succ_cons, List.take_zero, nmHop, Nat.reduceLT, b_geq, b_leq, u_not, h3, h4] <;> exact ⟨⟨rfl, rfl, trivial⟩, trivial, trivial⟩
  generalize (c1 || b3 && b4) = c2
  simp only [List.drop_succ_cons, List.drop_zero]
  refine RW.cut 8 [(0, .int .i32 x), (25, .bool (c2 || b5 && b6))] [] nmFits ?_ ?_
  · cases c2 <;> cases b5 <;> cases b6 <;> simp only [EOps, gdA, callOf, isPanic, nextOf, altA, evalOp, St.ev, Av.get, St.put, ofV, thenQ, Nat.reduceEqDiff, ↓reduceIte, Bool.and_self, beq_false, beq_true, Bool.not_true, Bool.not_false, Bool.false_eq_true, pickA, cond_true, cond_false, List.take_succ_cons, List.take_zero, nmHop, Nat.reduceLT, b_geq, b_leq, u_not, h5, h6] <;> exact ⟨⟨rfl, rfl, trivial⟩, trivial, trivial⟩
  generalize (c2 || b5 && b6) = c3
  simp only [List.drop_succ_cons, List.drop_zero]
  refine RW.cut 5 [(2, .bool !(c3 || b7))] [] nmFits ?_ ?_
  · cases c3 <;> cases b7 <;> simp only [EOps, gdA, callOf, isPanic, nextOf, altA, evalOp, St.ev, Av.get, St.put, ofV, thenQ, Nat.reduceEqDiff, ↓reduceIte, Option.map_some, beq_false, Bool.not_true, Bool.not_false, pickA, cond_false, List.take_succ_cons, List.take_zero, nmHop, Nat.reduceLT, b_eql, u_not, h7] <;> exact ⟨⟨rfl, trivial⟩, trivial, trivial⟩
  simp only [List.drop_succ_cons, List.drop_zero]
  refine RW.done ?_
  exact .ret ⟨_, rfl, _, rfl, .refl _⟩
end Go.Proofs.YtjlhemfmeboadaaGreatDoor
namespace Go.Proofs.YtjlhemfmeboadaaGreatDoor
set_option linter.unusedVariables false
set_option linter.unusedSimpArgs false
open Go Go.Av Go.RowKit

theorem nextS_lo {s : Bytes} {i : Nat} {x : UInt8} (hx : s[i]? = some x) (h : x.toNat < 128) :
    evNextS (.ptr 0 0) [.siter s i] = some (.tup [.bool true, .int .i64 (i : Int), .int .i32 (x.toNat : Int)], [.siter s (i + 1)]) := by
  have hi := (List.getElem?_eq_some_iff.1 hx).1
  simp [evNextS, hi, dec_lo hx h]
theorem nextS_hi {s : Bytes} {i : Nat} {x : UInt8} (hx : s[i]? = some x) :
    evNextS (.ptr 0 0) [.siter s i] = some (.tup [.bool true, .int .i64 (i : Int), .int .i32 ((Utf8.decode ⟨s.toArray⟩ i).1 : Int)], [.siter s (i + (Utf8.decode ⟨s.toArray⟩ i).2)]) := by
  have hi := (List.getElem?_eq_some_iff.1 hx).1
  simp [evNextS, hi]
theorem nextS_end {s : Bytes} {i : Nat} (hi : s.length ≤ i) : evNextS (.ptr 0 0) [.siter s i] = some (.tup [.bool false], [.siter s i]) := by
  simp [evNextS]; omega

theorem eqB (a b : Bool) : evBin Tryz.prog .eql 4 (.bool a) (.bool b) = some (.bool (a == b)) := by simp [evBin, Tryz.underlying4]

def nmF : AV := .func (.func 90) [] []

set_option maxRecDepth 8000 in
theorem ixf107 (s : Bytes) : PureFn Tryz.prog 107 [.str s, nmF, .bool true] (.ret (.int .i64 (ixN s))) := by
  refine PureFn.of Tryz.func107 rfl (enters_call enters Tryz.func107 rfl) (by simp [Tryz.ntmps107]) ?_
  show W Tryz.prog 21 0 none _ _ _
  have hr : evRange Tryz.prog 9 (.str s) [] = some (.ptr 0 0, [.siter s 0]) := by simp [evRange, Tryz.underlying9]
  refine .seq (.region [] (by decide) ?_)
  simp only [EOps, gdA, callOf, isPanic, nextOf, altA, evalOp, St.ev, St.put, argT, ofV, thenQ]
  refine .seq (.seq (.region [] (by decide) ?_))
  simp only [EOps, gdA, callOf, isPanic, nextOf, altA, evalOp, St.ev, Av.get, St.put, thenQ, Nat.reduceEqDiff, ↓reduceIte, hr]
  refine .block ?_
  refine .loopT (X := Nat) (fun i => [(10, .ptr 0 0), (1, nmF), (2, .bool true)]) (fun i => [.siter s i]) (fun i => i ≤ s.length ∧ i + lead (s.drop i) = lead s) (fun i => s.length - i) 0 ⟨Nat.zero_le _, by simp⟩
    (by simp [holdsT, Av.get]) rfl ?_
  rintro i ⟨hi, hall⟩
  refine .seq (.region [] (by decide) ?_)
  by_cases h : i < s.length
  · obtain ⟨x, hx, hdrop⟩ := drop_at h
    rw [hdrop, lead] at hall
    obtain ⟨r, w, hnx, hr, hw⟩ : ∃ (r : Int) (w : Nat), evNextS (.ptr 0 0) [.siter s i] = some (.tup [.bool true, .int .i64 (i : Int), .int .i32 r], [.siter s (i + w)]) ∧ nmI r = nmI x.toNat ∧ (nmI x.toNat = true → w = 1) := by
      rcases Nat.lt_or_ge x.toNat 128 with h1 | h1
      · exact ⟨_, 1, nextS_lo hx h1, rfl, fun _ => rfl⟩
      · refine ⟨_, _, nextS_hi hx, ?_, fun h2 => ?_⟩
        · rw [nmI_hi _ (dec_hi hx h1).1, nmI_hi _ h1]
        · rw [nmI_hi _ h1] at h2; cases h2
    have hc := nmC r
    rw [hr] at hc
    simp only [EOps, evNextB, gdA, callOf, isPanic, nextOf, altA, evalOp, St.ev, Av.get, St.put, thenQ, ↓reduceIte, List.getElem?_cons_zero, Option.map_some, hnx]
    refine .seq (.cond (t := true) rfl (.skip ?_))
    simp only [thenQ]
    refine .block (.seq (.region [] (by decide) ?_))
    simp only [EOps, gdA, callOf, isPanic, nextOf, altA, evalOp, St.ev, Av.get, St.put, thenQ, Nat.reduceEqDiff, ↓reduceIte, List.getElem?_cons_zero, List.getElem?_cons_succ, Option.map_some]
    cases hn : nmI x.toNat with
    | true =>
      rw [hn] at hc hall
      rw [hw hn] at *
      refine .seq (.region [.pure (.ret (.bool false))] (by decide) ?_)
      simp only [EOps, gdA, callOf, isPanic, nextOf, altA, evalOp, St.ev, Av.get, St.put, thenQ, Nat.reduceEqDiff, ↓reduceIte, lend, AV.hfs, AV.hf, Bool.and_self, List.map_cons, List.map_nil, List.nil_append, List.append_nil, beq_true, nmF, eqB]
      refine ⟨hc, ?_⟩
      refine .cond (t := false) rfl (.skip ?_)
      simp only [thenQ, blockQ]
      refine ⟨i + 1, ⟨by omega, by simp only [if_true] at hall; omega⟩, by omega, ⟨rfl, rfl, rfl, trivial⟩, rfl, trivial⟩
    | false =>
      rw [hn] at hc hall
      refine .seq (.region [.pure (.ret (.bool true))] (by decide) ?_)
      simp only [EOps, gdA, callOf, isPanic, nextOf, altA, evalOp, St.ev, Av.get, St.put, thenQ, Nat.reduceEqDiff, ↓reduceIte, lend, AV.hfs, AV.hf, Bool.and_self, List.map_cons, List.map_nil, List.nil_append, List.append_nil, beq_true, nmF, eqB]
      refine ⟨hc, ?_⟩
      refine .cond (t := true) rfl (.seq (.region [] (by decide) ?_))
      simp only [EOps, gdA, callOf, isPanic, nextOf, altA, evalOp, St.ev, Av.get, St.put, thenQ, Nat.reduceEqDiff, ↓reduceIte]
      refine .ret ?_
      have : ixN s = (i : Int) := by
        simp only [Bool.false_eq_true, if_false, Nat.add_zero] at hall
        unfold ixN; rw [if_pos (by omega)]; omega
      rw [this]
      exact ⟨_, rfl, _, rfl, .refl _⟩
  · have hi' : i = s.length := by omega
    subst hi'
    simp only [EOps, evNextB, gdA, callOf, isPanic, nextOf, altA, evalOp, St.ev, Av.get, St.put, thenQ, ↓reduceIte, List.getElem?_cons_zero, Option.map_some, nextS_end (Nat.le_refl s.length)]
    refine .seq (.cond (t := false) rfl (.exit ?_))
    simp only [thenQ, ↓reduceIte, blockQ]
    refine .seq (.region [] (by decide) ?_)
    simp only [EOps, gdA, callOf, isPanic, nextOf, altA, evalOp, St.ev, St.put, ofV, thenQ]
    refine .ret ?_
    have : ixN s = -1 := by
      rw [List.drop_length] at hall
      simp only [lead] at hall
      unfold ixN; rw [if_neg (by omega)]
    rw [this]
    exact ⟨_, rfl, _, rfl, .refl _⟩

theorem ixf89 (s : Bytes) : PureFn Tryz.prog 89 [.str s, nmF] (.ret (.int .i64 (ixN s))) := by
  refine PureFn.of Tryz.func89 rfl (enters_call enters Tryz.func89 rfl) (by simp [Tryz.ntmps89]) ?_
  show W Tryz.prog 8 0 none _ _ _
  refine .seq (.region [] (by decide) ?_)
  simp only [EOps, gdA, callOf, isPanic, nextOf, altA, evalOp, St.ev, St.put, argT, ofV, thenQ]
  refine .seq (.region [.pure (.ret (.int .i64 (ixN s)))] (by decide) ?_)
  simp only [EOps, gdA, callOf, isPanic, nextOf, altA, evalOp, St.ev, Av.get, St.put, ofV, thenQ, Nat.reduceEqDiff, ↓reduceIte, lend, AV.hfs, AV.hf, Bool.and_self, List.map_cons, List.map_nil, List.nil_append, List.append_nil, nmF]
  exact ⟨ixf107 s, .ret ⟨_, rfl, _, rfl, .refl _⟩⟩
end Go.Proofs.YtjlhemfmeboadaaGreatDoor
namespace Go.Proofs.YtjlhemfmeboadaaGreatDoor
set_option linter.unusedVariables false
set_option linter.unusedSimpArgs false
open Go Go.Av Go.RowKit

def validB (r : Int) : Bool := decide (0 ≤ r) && decide (r < 55296) || decide (57343 < r) && decide (r ≤ 1114111)

set_option maxRecDepth 8000 in
theorem valid131 (r : Int) : PureFn Tryz.prog 131 [.int .i32 r] (.ret (.bool (validB r))) := by
  unfold validB
  generalize h1 : decide (0 ≤ r) = b1
  generalize h2 : decide (r < 55296) = b2
  generalize h3 : decide (57343 < r) = b3
  generalize h4 : decide (r ≤ 1114111) = b4
  refine PureFn.of Tryz.func131 rfl (enters_call enters Tryz.func131 rfl) (by simp [Tryz.ntmps131]) ?_
  show W Tryz.prog 17 0 none _ _ _
  refine .seq (.region [] (by decide) ?_)
  simp only [EOps, gdA, callOf, isPanic, nextOf, altA, evalOp, St.ev, St.put, argT, ofV, thenQ]
  refine .seq (.block ?_)
  cases b1 <;> cases b2 <;> refine .seq (.region [] (by decide) ?_) <;> simp only [EOps, gdA, callOf, isPanic, nextOf, altA, evalOp, St.ev, Av.get, St.put, ofV, thenQ, Nat.reduceEqDiff, ↓reduceIte, Bool.and_self, List.getElem?_cons_zero, List.getElem?_cons_succ, List.getElem?_toArray, Option.bind_some, beq_true, Bool.false_eq_true, pickA, cond_true, b_leq, b_lss, h1, h2]
  case true.true =>
    refine .cond (t := true) rfl (.seq (.region [] (by decide) ?_))
    simp only [EOps, gdA, callOf, isPanic, nextOf, altA, evalOp, St.ev, St.put, ofV, thenQ]
    exact .ret ⟨_, rfl, _, rfl, .refl _⟩
  all_goals
    refine .cond (t := false) rfl ?_
    cases b3 <;> cases b4 <;> refine .seq (.region [] (by decide) ?_) <;> simp only [EOps, gdA, callOf, isPanic, nextOf, altA, evalOp, St.ev, Av.get, St.put, ofV, thenQ, Nat.reduceEqDiff, ↓reduceIte, Bool.and_self, List.getElem?_cons_zero, List.getElem?_cons_succ, List.getElem?_toArray, Option.bind_some, beq_true, Bool.false_eq_true, pickA, cond_true, b_leq, b_lss, h3, h4]
    case true.true =>
      refine .cond (t := true) rfl (.seq (.region [] (by decide) ?_))
      simp only [EOps, gdA, callOf, isPanic, nextOf, altA, evalOp, St.ev, St.put, ofV, thenQ]
      exact .ret ⟨_, rfl, _, rfl, .refl _⟩
    all_goals
      refine .cond (t := false) rfl (.skip ?_)
      simp only [thenQ, blockQ]
      refine .seq (.region [] (by decide) ?_)
      simp only [EOps, gdA, callOf, isPanic, nextOf, altA, evalOp, St.ev, St.put, ofV, thenQ]
      exact .ret ⟨_, rfl, _, rfl, .refl _⟩

/-- The bytes of a great letter are great. -/
theorem enc_hi (r : Nat) (h : 128 ≤ r) : ∃ e, (Utf8.encode (r : Int)).data.toList = e ∧ 2 ≤ e.length ∧ e.length ≤ 4 ∧ ∃ z : UInt8, e[e.length - 1]? = some z ∧ 128 ≤ z.toNat := by
  refine ⟨_, rfl, ?_⟩
  have key : ∀ c : Nat, 128 ≤ (UInt8.ofNat (0x80 + c % 64)).toNat := by
    intro c; simp [UInt8.toNat_ofNat']; omega
  unfold Utf8.encode
  simp only
  have hc : 128 ≤ (if Utf8.valid (r : Int) = true then ((r : Int)).toNat else Utf8.runeError) := by
    split
    · simpa using h
    · decide
  generalize (if Utf8.valid (r : Int) = true then ((r : Int)).toNat else Utf8.runeError) = c at hc
  rw [if_neg (by omega)]
  split
  · exact ⟨by simp, by simp, _, rfl, key c⟩
  · split
    · exact ⟨by simp, by simp, _, rfl, key c⟩
    · exact ⟨by simp, by simp, _, rfl, key c⟩

theorem rune_lo (cs : Bytes) (x : UInt8) (h : x.toNat < 128) : PureFn Tryz.prog 109 [.str cs, .int .i32 x.toNat] (.ret (.int .i64 (ixB cs x))) := by
  refine PureFn.of Tryz.func109 rfl (enters_call enters Tryz.func109 rfl) (by simp [Tryz.ntmps109]) ?_
  show W Tryz.prog 187 0 none _ _ _
  have h1 : decide ((0 : Int) ≤ (x.toNat : Int)) = true := decide_eq_true (by omega)
  have h2 : decide ((x.toNat : Int) < 128) = true := decide_eq_true (by omega)
  have hcv : evConv Tryz.prog 21 5 (.int .i32 (x.toNat : Int)) [] = some (byteA x, []) := by
    have := x.toNat_lt
    simp [evConv, Tryz.underlying21, Tryz.underlying5, IntKind.wrap, IntKind.bits, IntKind.signed, byteA]
    omega
  refine .seq (.region [] (by decide) ?_)
  simp only [EOps, gdA, callOf, isPanic, nextOf, altA, evalOp, St.ev, St.put, argT, ofV, thenQ]
  refine .block (.seq (.region [] (by decide) ?_))
  simp only [EOps, gdA, callOf, isPanic, nextOf, altA, evalOp, St.ev, Av.get, St.put, ofV, thenQ, Nat.reduceEqDiff, ↓reduceIte, List.getElem?_cons_zero, List.getElem?_cons_succ, List.getElem?_toArray, Option.bind_some, beq_true, pickA, cond_true, b_leq, b_lss, h1, h2]
  refine .cond (t := true) rfl (.seq (.region [.pure (.ret (.int .i64 (ixB cs x)))] (by decide) ?_))
  simp only [EOps, gdA, callOf, isPanic, nextOf, altA, evalOp, St.ev, Av.get, St.put, thenQ, Nat.reduceEqDiff, ↓reduceIte, lend, AV.hfs, AV.hf, Bool.and_self, List.map_cons, List.map_nil, List.nil_append, List.append_nil, hcv, byteA]
  refine ⟨byteI130 cs x, ?_⟩
  exact .ret ⟨_, rfl, _, rfl, .refl _⟩

theorem ixB_no {s : Bytes} {c : UInt8} (h : c ∉ s) : ixB s c = -1 := by
  rcases ixB_spec s c with ⟨h1, _⟩ | ⟨i, _, h2, _⟩
  · exact h1
  · exact absurd (List.mem_of_getElem? h2) h

set_option maxRecDepth 8000 in
theorem rune_hi (cs : Bytes) (hcs : ∀ b ∈ cs, b.toNat < 128) (hl : cs.length ≤ 1000) (r : Nat) (h : 128 ≤ r) : PureFn Tryz.prog 109 [.str cs, .int .i32 r] (.ret (.int .i64 (-1))) := by
  refine PureFn.of Tryz.func109 rfl (enters_call enters Tryz.func109 rfl) (by simp [Tryz.ntmps109]) ?_
  show W Tryz.prog 187 0 none _ _ _
  have h1 : decide ((0 : Int) ≤ (r : Int)) = true := decide_eq_true (by omega)
  have h2 : decide ((r : Int) < 128) = false := decide_eq_false (by omega)
  refine .seq (.region [] (by decide) ?_)
  simp only [EOps, gdA, callOf, isPanic, nextOf, altA, evalOp, St.ev, St.put, argT, ofV, thenQ]
  refine .block (.seq (.region [] (by decide) ?_))
  simp only [EOps, gdA, callOf, isPanic, nextOf, altA, evalOp, St.ev, Av.get, St.put, ofV, thenQ, Nat.reduceEqDiff, ↓reduceIte, List.getElem?_cons_zero, List.getElem?_cons_succ, List.getElem?_toArray, Option.bind_some, beq_true, pickA, cond_true, b_leq, b_lss, h1, h2]
  refine .cond (t := false) rfl ?_
  refine .seq (.region [] (by decide) ?_)
  generalize h3 : ((r : Int) == 65533) = b3
  cases b3 with
  | true =>
    have hr : evRange Tryz.prog 9 (.str cs) [] = some (.ptr 0 0, [.siter cs 0]) := by simp [evRange, Tryz.underlying9]
    simp only [EOps, gdA, callOf, isPanic, nextOf, altA, evalOp, St.ev, Av.get, St.put, ofV, thenQ, Nat.reduceEqDiff, ↓reduceIte, b_eql, h3]
    refine .cond (t := true) rfl (.seq (.seq (.region [] (by decide) ?_)))
    simp only [EOps, gdA, callOf, isPanic, nextOf, altA, evalOp, St.ev, Av.get, St.put, thenQ, Nat.reduceEqDiff, ↓reduceIte, hr]
    refine .block ?_
    refine .loopT (X := Nat) (fun i => [(175, .ptr 0 0)]) (fun i => [.siter cs i]) (fun i => i ≤ cs.length) (fun i => cs.length - i) 0 (Nat.zero_le _)
      (by simp [holdsT, Av.get]) rfl ?_
    intro i hi
    refine .seq (.region [] (by decide) ?_)
    by_cases hlt : i < cs.length
    · obtain ⟨x, hx, hdrop⟩ := drop_at hlt
      have hx8 := hcs x (List.mem_of_getElem? hx)
      simp only [EOps, evNextB, gdA, callOf, isPanic, nextOf, altA, evalOp, St.ev, Av.get, St.put, thenQ, ↓reduceIte, List.getElem?_cons_zero, Option.map_some, nextS_lo hx hx8]
      refine .seq (.cond (t := true) rfl (.skip ?_))
      simp only [thenQ]
      refine .block (.seq (.region [] (by decide) ?_))
      simp only [EOps, gdA, callOf, isPanic, nextOf, altA, evalOp, St.ev, Av.get, St.put, thenQ, Nat.reduceEqDiff, ↓reduceIte, List.getElem?_cons_zero, List.getElem?_cons_succ, Option.map_some]
      refine .seq (.region [] (by decide) ?_)
      have hne : ((x.toNat : Int) == 65533) = false := by simp; omega
      simp only [EOps, gdA, callOf, isPanic, nextOf, altA, evalOp, St.ev, Av.get, St.put, ofV, thenQ, ↓reduceIte, b_eql, hne]
      refine .cond (t := false) rfl (.skip ?_)
      simp only [thenQ, blockQ]
      refine ⟨i + 1, by omega, by omega, ⟨rfl, trivial⟩, rfl, trivial⟩
    · have hi' : i = cs.length := by omega
      subst hi'
      simp only [EOps, evNextB, gdA, callOf, isPanic, nextOf, altA, evalOp, St.ev, Av.get, St.put, thenQ, ↓reduceIte, List.getElem?_cons_zero, Option.map_some, nextS_end (Nat.le_refl cs.length)]
      refine .seq (.cond (t := false) rfl (.exit ?_))
      simp only [thenQ, ↓reduceIte, blockQ]
      refine .seq (.region [] (by decide) ?_)
      simp only [EOps, gdA, callOf, isPanic, nextOf, altA, evalOp, St.ev, St.put, ofV, thenQ]
      exact .ret ⟨_, rfl, _, rfl, .refl _⟩
  | false =>
    simp only [EOps, gdA, callOf, isPanic, nextOf, altA, evalOp, St.ev, Av.get, St.put, ofV, thenQ, Nat.reduceEqDiff, ↓reduceIte, b_eql, h3]
    refine .cond (t := false) rfl ?_
    have hv := valid131 (r : Int)
    generalize validB (r : Int) = b4 at hv
    refine .seq (.region [.pure (.ret (.bool b4))] (by decide) ?_)
    cases b4 with
    | false =>
      simp only [EOps, gdA, callOf, isPanic, nextOf, altA, evalOp, St.ev, Av.get, St.put, thenQ, Nat.reduceEqDiff, ↓reduceIte, lend, AV.hfs, AV.hf, Bool.and_self, List.map_cons, List.map_nil, List.nil_append, List.append_nil, Option.map_some, Bool.not_false, u_not]
      refine ⟨hv, ?_⟩
      refine .cond (t := true) rfl (.seq (.region [] (by decide) ?_))
      simp only [EOps, gdA, callOf, isPanic, nextOf, altA, evalOp, St.ev, St.put, ofV, thenQ]
      exact .ret ⟨_, rfl, _, rfl, .refl _⟩
    | true =>
      simp only [EOps, gdA, callOf, isPanic, nextOf, altA, evalOp, St.ev, Av.get, St.put, thenQ, Nat.reduceEqDiff, ↓reduceIte, lend, AV.hfs, AV.hf, Bool.and_self, List.map_cons, List.map_nil, List.nil_append, List.append_nil, Option.map_some, Bool.not_true, u_not]
      refine ⟨hv, ?_⟩
      refine .cond (t := false) rfl ?_
      obtain ⟨e, he, hl2, hl4, z, hz, hz8⟩ := enc_hi r h
      have hcv : evConv Tryz.prog 21 9 (.int .i32 (r : Int)) [] = some (.str e, []) := by
        simp [evConv, Tryz.underlying21, Tryz.underlying9, he]
      have hze : evIndex Tryz.prog 9 (.str e) (.int .i64 ((e.length - 1 : Nat) : Int)) = some (.int .u8 z.toNat) := ix9 e _ z hz
      refine .scope_straight ?_
      refine .seq (.region [] (by decide) ?_)
      simp only [EOps, gdA, callOf, isPanic, nextOf, altA, evalOp, St.ev, Av.get, St.put, thenQ, Nat.reduceEqDiff, ↓reduceIte, hcv]
      refine .seq (.region [] (by decide) ?_)
      have hsub : evBin Tryz.prog .sub 3 (.int .i64 (e.length : Int)) (.int .i64 1) = some (.int .i64 ((e.length - 1 : Nat) : Int)) := subN _ e.length 1 (by omega) (by omega)
      simp only [EOps, deN, gdA, callOf, isPanic, nextOf, altA, evalOp, St.ev, Av.get, St.put, ofV, thenQ, ↓reduceIte, Option.map_some, ls9, hsub]
      refine .seq (.region [] (by decide) ?_)
      simp only [EOps, gdA, callOf, isPanic, nextOf, altA, evalOp, St.ev, Av.get, St.put, thenQ, ↓reduceIte]
      refine .seq (.region [] (by decide) ?_)
      simp only [EOps, gdA, callOf, isPanic, nextOf, altA, evalOp, St.ev, St.put, ofV, thenQ]
      generalize hk : e.length - 1 = k at *
      refine .seq ?_
      refine .block ?_
      refine .loopT (X := Unit) (fun _ => [(0, .str cs), (7, .str e), (8, .int .i64 (k : Int)), (9, .int .i64 (k : Int))]) (fun _ => []) (fun _ => True) (fun _ => 0) () trivial (by simp [holdsT, Av.get]) rfl ?_
      intro _ _
      refine .seq (.seq (.region [] (by decide) ?_))
      simp only [EOps, deN, gdA, callOf, isPanic, nextOf, altA, evalOp, St.ev, Av.get, St.put, thenQ, Nat.reduceEqDiff, ↓reduceIte, Option.map_some, ls9, b_lss]
      by_cases hlt : k < cs.length
      · obtain ⟨y, hy, hdrop⟩ := drop_at hlt
        have hy8 := hcs y (List.mem_of_getElem? hy)
        have hye : evIndex Tryz.prog 9 (.str cs) (.int .i64 (k : Int)) = some (.int .u8 y.toNat) := ix9 cs _ y hy
        have hyz : ((y.toNat : Int) != (z.toNat : Int)) = true := by simp; omega
        refine .cond (t := true) (by simp [St.ev, Av.get]; omega) (.skip ?_)
        simp only [thenQ]
        refine .block (.scope_straight ?_)
        refine .seq (.seq (.drawf [] mixed (by kernel_rfl) (by kernel_rfl) (by kernel_rfl) ?_))
        simp only [EDf, gdA, callOf, isPanic, evalOp, St.ev, Av.get, St.put, thenQ, Nat.reduceEqDiff, ↓reduceIte, Option.map_some, hye, hze, b_neq, hyz]
        have hno : z ∉ cs.drop (k + 1) := fun hm => by have := hcs z (List.mem_of_mem_drop hm); omega
        have hb := byteI130 (cs.drop (k + 1)) z
        rw [ixB_no hno] at hb
        have hsl : evSlice Tryz.prog 9 (.str cs) (some (.int .i64 ((k + 1 : Nat) : Int))) none none = some (.str (cs.drop (k + 1))) := by
          rw [ss9, bnds_from .i64 (k + 1) (by omega)]
          simp only [Option.map_some]
          rw [List.take_of_length_le (by simp)]
        refine .cond (t := true) rfl (.seq (.drawf [.pure (.ret (.int .i64 (-1)))] mixed (by kernel_rfl) (by kernel_rfl) (by kernel_rfl) ?_))
        simp only [EDf, deN, gdA, callOf, isPanic, evalOp, St.ev, Av.get, St.put, ofV, thenQ, Nat.reduceEqDiff, ↓reduceIte, lend, AV.hfs, AV.hf, Bool.and_self, List.map_cons, List.map_nil, List.nil_append, List.append_nil, Option.map_some, Option.map_none, add1 3 k (by omega), hsl, hze]
        refine ⟨hb, ?_⟩
        refine .seq (.seq (.region [] (by decide) ?_))
        have hm1 : decide ((-1 : Int) < 0) = true := rfl
        simp only [EOps, gdA, callOf, isPanic, nextOf, altA, evalOp, St.ev, Av.get, St.put, ofV, thenQ, ↓reduceIte, b_lss, hm1]
        refine .cond (t := true) rfl (.seq (.region [] (by decide) ?_))
        simp only [EOps, gdA, callOf, isPanic, nextOf, altA, evalOp, St.ev, St.put, ofV, thenQ]
        exact .ret ⟨_, rfl, _, rfl, .refl _⟩
      · refine .cond (t := false) (by simp [St.ev, Av.get]; omega) (.exit ?_)
        simp only [thenQ, ↓reduceIte, blockQ]
        refine .seq (.seq (.region [] (by decide) ?_))
        simp only [EOps, gdA, callOf, isPanic, nextOf, altA, evalOp, St.ev, St.put, ofV, thenQ]
        exact .ret ⟨_, rfl, _, rfl, .refl _⟩
end Go.Proofs.YtjlhemfmeboadaaGreatDoor
namespace Go.Proofs.YtjlhemfmeboadaaGreatDoor
set_option linter.unusedVariables false
set_option linter.unusedSimpArgs false
open Go Go.Av Go.RowKit

/-- How many bytes stand ahead of the first of some. -/
def leadN (cs : Bytes) : Bytes → Nat
  | [] => 0
  | x :: t => if x ∈ cs then 0 else leadN cs t + 1
def ixAny (s cs : Bytes) : Int := if leadN cs s < s.length then (leadN cs s : Int) else -1

theorem leadN_skip {cs : Bytes} (hcs : ∀ b ∈ cs, b.toNat < 128) {s : Bytes} : ∀ (w i : Nat), i + w ≤ s.length → (∀ j, i ≤ j → j < i + w → 128 ≤ (s.getD j 0).toNat) → leadN cs (s.drop i) = w + leadN cs (s.drop (i + w))
  | 0, i, _, _ => by simp
  | w + 1, i, hl, hj => by
    obtain ⟨x, hx, hdrop⟩ := drop_at (show i < s.length by omega)
    have hx0 : s.getD i 0 = x := by simp [List.getD, hx]
    have h128 := hj i (Nat.le_refl _) (by omega)
    rw [hx0] at h128
    have hn : x ∉ cs := fun hm => by have := hcs x hm; omega
    rw [hdrop, leadN, if_neg hn, leadN_skip hcs w (i + 1) (by omega) (fun j h1 h2 => hj j (by omega) (by omega))]
    rw [show i + (w + 1) = i + 1 + w from by omega]; omega

theorem ixB_pos {s : Bytes} {c : UInt8} : decide (ixB s c ≥ 0) = decide (c ∈ s) := by
  rcases ixB_spec s c with ⟨h1, h2⟩ | ⟨i, h1, h2, _⟩
  · rw [h1, decide_eq_false h2]; rfl
  · rw [h1, decide_eq_true (List.mem_of_getElem? h2)]; simp

theorem sets110 (n : Int) : PureFn Tryz.prog 110 [.int .i64 n] (.ret (.bool (decide (n > 8)))) := by
  refine PureFn.of Tryz.func110 rfl (enters_call enters Tryz.func110 rfl) (by simp [Tryz.ntmps110]) ?_
  show W Tryz.prog 5 0 none _ _ _
  refine .seq (.region [] (by decide) ?_)
  simp only [EOps, gdA, callOf, isPanic, nextOf, altA, evalOp, St.ev, St.put, argT, ofV, thenQ]
  refine .seq (.region [] (by decide) ?_)
  simp only [EOps, gdA, callOf, isPanic, nextOf, altA, evalOp, St.ev, Av.get, St.put, ofV, thenQ, Nat.reduceEqDiff, ↓reduceIte, b_gtr]
  exact .ret ⟨_, rfl, _, rfl, .refl _⟩

set_option maxRecDepth 8000 in
theorem any_short (s cs : Bytes) (hcs : ∀ b ∈ cs, b.toNat < 128) (h2 : 2 ≤ cs.length) (hl : cs.length ≤ 1000) (h8 : s.length ≤ 8) : PureFn Tryz.prog 92 [.str s, .str cs] (.ret (.int .i64 (ixAny s cs))) := by
  refine PureFn.of Tryz.func92 rfl (enters_call enters Tryz.func92 rfl) (by simp [Tryz.ntmps92]) ?_
  show W Tryz.prog 55 0 none _ _ _
  have e0 : (cs == []) = false := by cases cs with | nil => simp at h2 | cons _ _ => rfl
  have e1 : ((cs.length : Int) == 1) = false := by simp; omega
  have x0 : ({ data := #[] } : ByteArray).size ≤ maxLen' := by decide
  have hsh := sets110 (s.length : Int)
  rw [decide_eq_false (show ¬ ((s.length : Int) > 8) by omega)] at hsh
  refine .seq (.region [] (by decide) ?_)
  simp only [EOps, gdA, callOf, isPanic, nextOf, altA, evalOp, St.ev, St.put, argT, ofV, thenQ]
  refine .seq (.seq (.region [] (by decide) ?_))
  simp only [EOps, gdA, callOf, isPanic, nextOf, altA, evalOp, St.ev, Av.get, St.put, ofV, thenQ, Nat.reduceEqDiff, ↓reduceIte, s_eql, x0, e0]
  refine .cond (t := false) rfl (.skip ?_)
  refine .seq (.seq (.region [] (by decide) ?_))
  simp only [EOps, deN, gdA, callOf, isPanic, nextOf, altA, evalOp, St.ev, Av.get, St.put, ofV, thenQ, Nat.reduceEqDiff, ↓reduceIte, Option.map_some, ls9, b_eql, e1]
  refine .cond (t := false) rfl (.skip ?_)
  refine .seq (.seq (.region [.pure (.ret (.bool false))] (by decide) ?_))
  simp only [EOps, deN, gdA, callOf, isPanic, nextOf, altA, evalOp, St.ev, Av.get, St.put, thenQ, Nat.reduceEqDiff, ↓reduceIte, lend, AV.hfs, AV.hf, Bool.and_self, List.map_cons, List.map_nil, List.nil_append, List.append_nil, Option.map_some, ls9]
  refine ⟨hsh, ?_⟩
  refine .cond (t := false) rfl (.skip ?_)
  have hr : evRange Tryz.prog 9 (.str s) [] = some (.ptr 0 0, [.siter s 0]) := by simp [evRange, Tryz.underlying9]
  simp only [thenQ]
  refine .seq (.seq (.region [] (by decide) ?_))
  simp only [EOps, gdA, callOf, isPanic, nextOf, altA, evalOp, St.ev, Av.get, St.put, thenQ, Nat.reduceEqDiff, ↓reduceIte, hr]
  refine .block ?_
  refine .loopT (X := Nat) (fun i => [(45, .ptr 0 0), (1, .str cs)]) (fun i => [.siter s i]) (fun i => i ≤ s.length ∧ i + leadN cs (s.drop i) = leadN cs s) (fun i => s.length - i) 0 ⟨Nat.zero_le _, by simp⟩
    (by simp [holdsT, Av.get]) rfl ?_
  rintro i ⟨hi, hall⟩
  refine .seq (.region [] (by decide) ?_)
  by_cases h : i < s.length
  · obtain ⟨x, hx, hdrop⟩ := drop_at h
    obtain ⟨r, w, o, hnx, hrn, ho, hw⟩ : ∃ (r : Int) (w : Nat) (o : Int), evNextS (.ptr 0 0) [.siter s i] = some (.tup [.bool true, .int .i64 (i : Int), .int .i32 r], [.siter s (i + w)]) ∧
        PureFn Tryz.prog 109 [.str cs, .int .i32 r] (.ret (.int .i64 o)) ∧ decide (o ≥ 0) = decide (x ∈ cs) ∧ (x ∉ cs → 1 ≤ w ∧ i + w ≤ s.length ∧ leadN cs (s.drop i) = w + leadN cs (s.drop (i + w))) := by
      rcases Nat.lt_or_ge x.toNat 128 with h1 | h1
      · refine ⟨_, 1, _, nextS_lo hx h1, rune_lo cs x h1, ixB_pos, fun hn => ⟨Nat.le_refl _, by omega, ?_⟩⟩
        rw [hdrop, leadN, if_neg hn]; omega
      · obtain ⟨d1, d2, d3, d4⟩ := dec_hi hx h1
        have hn : x ∉ cs := fun hm => by have := hcs x hm; omega
        refine ⟨_, _, -1, nextS_hi hx, rune_hi cs hcs hl _ d1, ?_, fun _ => ⟨d2, d3, leadN_skip hcs _ _ d3 d4⟩⟩
        rw [decide_eq_false hn]; rfl
    simp only [EOps, evNextB, gdA, callOf, isPanic, nextOf, altA, evalOp, St.ev, Av.get, St.put, thenQ, ↓reduceIte, List.getElem?_cons_zero, Option.map_some, hnx]
    refine .seq (.cond (t := true) rfl (.skip ?_))
    simp only [thenQ]
    refine .block (.seq (.region [] (by decide) ?_))
    simp only [EOps, gdA, callOf, isPanic, nextOf, altA, evalOp, St.ev, Av.get, St.put, thenQ, Nat.reduceEqDiff, ↓reduceIte, List.getElem?_cons_zero, List.getElem?_cons_succ, Option.map_some]
    refine .seq (.region [.pure (.ret (.int .i64 o))] (by decide) ?_)
    by_cases hm : x ∈ cs
    · rw [decide_eq_true hm] at ho
      simp only [EOps, gdA, callOf, isPanic, nextOf, altA, evalOp, St.ev, Av.get, St.put, ofV, thenQ, Nat.reduceEqDiff, ↓reduceIte, lend, AV.hfs, AV.hf, Bool.and_self, List.map_cons, List.map_nil, List.nil_append, List.append_nil, b_geq, ho]
      refine ⟨hrn, ?_⟩
      refine .cond (t := true) rfl (.seq (.region [] (by decide) ?_))
      simp only [EOps, gdA, callOf, isPanic, nextOf, altA, evalOp, St.ev, Av.get, St.put, thenQ, Nat.reduceEqDiff, ↓reduceIte]
      refine .ret ?_
      have : ixAny s cs = (i : Int) := by
        rw [hdrop, leadN, if_pos hm] at hall
        unfold ixAny; rw [if_pos (by omega)]; omega
      rw [this]
      exact ⟨_, rfl, _, rfl, .refl _⟩
    · rw [decide_eq_false hm] at ho
      obtain ⟨w1, w2, w3⟩ := hw hm
      simp only [EOps, gdA, callOf, isPanic, nextOf, altA, evalOp, St.ev, Av.get, St.put, ofV, thenQ, Nat.reduceEqDiff, ↓reduceIte, lend, AV.hfs, AV.hf, Bool.and_self, List.map_cons, List.map_nil, List.nil_append, List.append_nil, b_geq, ho]
      refine ⟨hrn, ?_⟩
      refine .cond (t := false) rfl (.skip ?_)
      simp only [thenQ, blockQ]
      refine ⟨i + w, ⟨w2, by omega⟩, by omega, ⟨rfl, rfl, trivial⟩, rfl, trivial⟩
  · have hi' : i = s.length := by omega
    subst hi'
    simp only [EOps, evNextB, gdA, callOf, isPanic, nextOf, altA, evalOp, St.ev, Av.get, St.put, thenQ, ↓reduceIte, List.getElem?_cons_zero, Option.map_some, nextS_end (Nat.le_refl s.length)]
    refine .seq (.cond (t := false) rfl (.exit ?_))
    simp only [thenQ, ↓reduceIte, blockQ]
    refine .seq (.region [] (by decide) ?_)
    simp only [EOps, gdA, callOf, isPanic, nextOf, altA, evalOp, St.ev, St.put, ofV, thenQ]
    refine .ret ?_
    have : ixAny s cs = -1 := by
      rw [List.drop_length] at hall
      simp only [leadN] at hall
      unfold ixAny; rw [if_neg (by omega)]
    rw [this]
    exact ⟨_, rfl, _, rfl, .refl _⟩
end Go.Proofs.YtjlhemfmeboadaaGreatDoor
