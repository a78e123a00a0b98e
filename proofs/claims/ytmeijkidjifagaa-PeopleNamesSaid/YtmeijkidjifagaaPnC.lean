/- What slices.Collect and slices.Sorted tell of the keys of a map: where the sort of each order of them is known. -/
import Derived.Test.YtmeijkidjifagaaPnB
namespace Go.Proofs.Ytmeijkidjifagaa
open Go Go.Av
set_option linter.unusedVariables false

theorem anyOrder_hfs {l : List Bytes} {p : List AV} (h : p.Perm (l.map .str)) : AV.hfs p = true := by
  rw [hfs_all, List.all_eq_true]
  intro x hx
  obtain ⟨b, _, rfl⟩ := List.mem_map.1 (h.mem_iff.1 hx)
  rfl

theorem col73 (l : List Bytes) (vs : List AV) (hlen : vs.length = l.length) (hb : l.length ≤ 1000000) :
    ShFnS Try.prog 73 [.func (.func 70) [] [.vptr [.vmap (l.map .str) vs]]] [] (anyOrder (l.map .str)) := by
  refine ShFnS.of0 Try.func73 rfl (enters_call enters Try.func73 rfl) (by simp [Try.ntmps73]) ?_
  show W Try.prog 5 _ none _ _ _
  refine .seq (.region [] (by decide) ?_)
  simp only [EOps, gdA, callOf, isPanic, nextOf, altA, evalOp, St.ev, Av.get, St.put, argT, ofV, thenQ, Nat.reduceEqDiff, ↓reduceIte]
  refine .seq (.region [.any (anyOrder (l.map .str))] (by decide) ?_)
  simp only [EOps, gdA, callOf, isPanic, nextOf, altA, evalOp, St.ev, Av.get, St.put, ofV, thenQ, Nat.reduceEqDiff, ↓reduceIte, List.map_cons, List.map_nil, List.nil_append, List.append_nil, and_self]
  refine ⟨seq75 l vs hlen hb, ?_⟩
  rintro out K ⟨p, hp, ⟨rfl, rfl, rfl⟩ | ⟨rfl, rfl⟩⟩
  · exact .ret ⟨_, rfl, .inl ⟨_, rfl, rfl, [], hp, .inl ⟨rfl, rfl, rfl⟩⟩⟩
  · exact .ret ⟨_, rfl, .inr ⟨0, 0, p.length, 0, p, true, rfl, rfl, anyOrder_hfs hp, p, hp, .inr ⟨rfl, rfl⟩⟩⟩

theorem sorted69 (l : List Bytes) (vs : List AV) (r : List Bytes) (hlen : vs.length = l.length) (hb : l.length ≤ 1000000) (hne : l ≠ []) (hr : r.length = l.length)
    (hsort : ∀ p : List AV, p.Perm (l.map .str) → ShFn Try.prog 74 [.sl 0 0 p.length 0] [.cells p true] (.ret (.tup [])) [.cells (r.map .str) true]) :
    PureFn Try.prog 69 [.func (.func 70) [] [.vptr [.vmap (l.map .str) vs]]] (.ret (.vsl 0 false (r.map .str))) := by
  refine PureFn.of Try.func69 rfl (enters_call enters Try.func69 rfl) (by simp [Try.ntmps69]) ?_
  show W Try.prog 9 _ none _ _ _
  refine .seq (.region [] (by decide) ?_)
  simp only [EOps, gdA, callOf, isPanic, nextOf, altA, evalOp, St.ev, Av.get, St.put, argT, ofV, thenQ, Nat.reduceEqDiff, ↓reduceIte]
  refine .seq (.region [.any (anyOrder (l.map .str))] (by decide) ?_)
  simp only [EOps, gdA, callOf, isPanic, nextOf, altA, evalOp, St.ev, Av.get, St.put, ofV, thenQ, Nat.reduceEqDiff, ↓reduceIte, List.map_cons, List.map_nil, List.nil_append, List.append_nil, and_self]
  refine ⟨col73 l vs hlen hb, ?_⟩
  rintro out K ⟨p, hp, ⟨rfl, rfl, rfl⟩ | ⟨rfl, rfl⟩⟩
  · have := hp.length_eq
    simp at this
    exact (hne (List.eq_nil_of_length_eq_zero this.symm)).elim
  · have hpl : p.length = r.length := by have := hp.length_eq; simp at this; omega
    simp only [thenQ]
    refine .seq (.region [.sh (.ret (.tup [])) [.cells (r.map .str) true]] (by decide) ?_)
    simp only [EOps, gdA, callOf, isPanic, nextOf, altA, evalOp, St.ev, Av.get, St.put, ofV, thenQ, Nat.reduceEqDiff, ↓reduceIte, List.map_cons, List.map_nil, List.nil_append, List.append_nil, and_self, ClOK]
    refine ⟨hsort p hp, ?_⟩
    refine .seq (.region [] (by decide) ?_)
    simp only [EOps, gdA, callOf, isPanic, nextOf, altA, evalOp, St.ev, Av.get, St.put, ofV, thenQ, Nat.reduceEqDiff, ↓reduceIte]
    refine .ret ⟨_, rfl, .vsl 0 false (r.map .str), ?_, .refl _⟩
    show (resA Try.prog [.tmp 2] _).bind _ = _
    have h1 : AV.hfs (r.map .str) = true := anyOrder_hfs (List.Perm.refl _)
    have h2 : (r.map AV.str).all AV.one = true := by rw [List.all_eq_true]; intro x hx; obtain ⟨b, _, rfl⟩ := List.mem_map.1 hx; rfl
    have h3 : ((r.map AV.str).drop 0).take p.length = r.map .str := by rw [List.drop_zero, hpl]; exact List.take_of_length_le (by simp)
    have := fz_sl0 (H := [.cells (r.map .str) true]) (id := 0) (off := 0) (len := p.length) (k := 19) (opn := true) rfl (by simp; omega) (by rw [h3]; exact h1) (by rw [h3]; exact h2)
    rw [h3] at this
    exact this
end Go.Proofs.Ytmeijkidjifagaa
