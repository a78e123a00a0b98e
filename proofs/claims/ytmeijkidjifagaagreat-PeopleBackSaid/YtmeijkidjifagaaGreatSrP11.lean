/- Contracts of functions that the statements of this seat reach: under the conditions named at each theorem. -/
import Derived.Test.YtmeijkidjifagaaGreatSrP10
import Derived.Test.YtmeijkidjifagaaGreatSvP7
namespace Go.Proofs.YtmeijkidjifagaaGreat
set_option linter.unusedVariables false
set_option linter.unusedSimpArgs false
open Go Go.Av

theorem nameAt_good : ∀ i, i < 8 → small (nameAt i) = nameAt i ∧ nameB (nameAt i) = true := by
  intro i hi
  have : i = 0 ∨ i = 1 ∨ i = 2 ∨ i = 3 ∨ i = 4 ∨ i = 5 ∨ i = 6 ∨ i = 7 := by omega
  rcases this with rfl | rfl | rfl | rfl | rfl | rfl | rfl | rfl <;> exact ⟨by kernel_rfl, by kernel_rfl⟩
theorem field_good {c : List Val} (h : checkC c = true) {i : Nat} (hi : i < 8) : fieldB i (fld c i) = true := by
  unfold checkC allFields at h
  simp only [Bool.and_eq_true] at h
  exact List.all_eq_true.1 h.1 i (List.mem_range.2 hi)
theorem valB_value {f : Int} {s : Bytes} (h : valB f s = true) : valueB s = true := by
  unfold valB at h
  simp only [Bool.and_eq_true, Bool.not_eq_true', decide_eq_false_iff_not] at h
  unfold valueB
  simp only [Bool.and_eq_true, decide_eq_true_eq]
  omega
theorem field_facts {i : Nat} {l : List Bytes} (h : fieldB i l = true) : l.length ≤ 8 ∧ l.all valueB = true ∧ List.Pairwise (fun a b : Bytes => a < b) l := by
  unfold fieldB at h
  simp only [Bool.and_eq_true, Bool.not_eq_true', decide_eq_false_iff_not] at h
  refine ⟨?_, ?_, of_rises h.2⟩
  · have : mostI i ≤ 8 := by unfold mostI; split <;> omega
    omega
  · rw [List.all_eq_true]; intro s hs; exact valB_value (List.all_eq_true.1 h.1.2 s hs)
theorem want_facts {e : List Atr} {c : List Val} (h : checkC c = true) {i : Nat} (hi : i < 8) : (wantC e c i).2.length ≤ 8 ∧ (wantC e c i).2.all valueB = true ∧ List.Pairwise (fun a b : Bytes => a < b) (wantC e c i).2 := by
  unfold wantC
  split
  · exact ⟨by simp, by kernel_rfl, by simp⟩
  · exact field_facts (field_good h hi)
theorem chg_mem {e : List Atr} {c : List Val} {m : Mo} {n : Nat} (h : m ∈ chgs e c n) : ∃ i, i < n ∧ m = (nameAt i, wantC e c i) := by
  obtain ⟨i, hi, hm⟩ := List.mem_filterMap.1 h
  refine ⟨i, List.mem_range.1 hi, ?_⟩
  unfold chgAt at hm
  split at hm
  · cases hm
  · cases hm; rfl
/-- The changes, those first that take away. -/
def modsC (e : List Atr) (c : List Val) : List Mo := (chgs e c 8).filter goesB ++ (chgs e c 8).filter fun m => !(goesB m)
theorem modsC_mem {e : List Atr} {c : List Val} {m : Mo} (h : m ∈ modsC e c) : ∃ i, i < 8 ∧ m = (nameAt i, wantC e c i) := by
  unfold modsC at h
  rcases List.mem_append.1 h with h | h
  · exact chg_mem (List.mem_filter.1 h).1
  · exact chg_mem (List.mem_filter.1 h).1

theorem into35 (x : Bool) (e : List Atr) (c : List Val) (hc : c.length = 8) (hck : checkE e = true) (hcc : checkC c = true) :
    PureFn Tryz.prog 35 [.vsl 3 x (e.map encE), .agg (c.map encV)] (outDo (doAll (e.map clr) (modsC e c))) := by
  have hge := check_good hck
  have hmay : (modsC e c).all mayB = true := by
    rw [List.all_eq_true]
    intro m hm
    obtain ⟨i, hi, rfl⟩ := modsC_mem hm
    obtain ⟨w1, w2, _⟩ := want_facts (e := e) hcc hi
    unfold mayB
    rw [(nameAt_good i hi).2, w2]
    simp only [Bool.true_and, Bool.and_true, decide_eq_true_eq]
    omega
  have hgd : ∀ m ∈ modsC e c, goodV m.1 m.2.2 := by
    intro m hm
    obtain ⟨i, hi, rfl⟩ := modsC_mem hm
    obtain ⟨w1, w2, w3⟩ := want_facts (e := e) hcc hi
    exact ⟨(nameAt_good i hi).1, by rw [sortB_of w3]; exact apart_of w3, by show (wantC e c i).2.length ≤ 16; omega⟩
  have hlen : (chgs e c 8).length ≤ 1000 := by have := chgs_len e c 8; omega
  have hlm : (modsC e c).length ≤ 1000 := by
    unfold modsC
    rw [List.length_append]
    have := List.length_filter_le goesB (chgs e c 8)
    have := List.length_filter_le (fun m => !(goesB m)) (chgs e c 8)
    have := chgs_len e c 8
    omega
  have hbe : ∀ a ∈ e, a.2.2.length ≤ 1000000 := fun a ha => by have := (hge.each a ha).2.2; omega
  have hbc : ∀ v ∈ c, v.2.length ≤ 1000000 := by
    intro v hv
    obtain ⟨i, hi⟩ := List.mem_iff_getElem?.1 hv
    have hi8 : i < 8 := by rw [← hc]; exact (List.getElem?_eq_some_iff.1 hi).1
    have := (field_facts (field_good hcc hi8)).1
    have hf : fld c i = v.2 := by simp [fld, List.getD, hi]
    rw [hf] at this; omega
  have p1 := changes65 x e c hc
  have p2 := collect64 x e c hc hbe hbc
  have p3 := parted39 false (chgs e c 8) 66 goesB hlen (fun m _ => goes66 m)
  have p4 := do67 x false e (modsC e c) hck hmay hgd hlm
  obtain ⟨v, k, hout, hvh⟩ : ∃ v k, outDo (doAll (e.map clr) (modsC e c)) = .ret (.tup [v, .int .i64 k]) ∧ v.hf = true := by
    cases doAll (e.map clr) (modsC e c) with
    | none => exact ⟨_, _, rfl, rfl⟩
    | some r => exact ⟨_, _, rfl, by simp [AV.hf, encE_hfs]⟩
  rw [hout] at p4 ⊢
  refine PureFn.of Tryz.func35 rfl (enters_call enters Tryz.func35 rfl) (by simp [Tryz.ntmps35]) ?_
  show W Tryz.prog 19 _ none _ _ _
  refine .seq (.region [] (by decide) ?_)
  simp only [EOps, EDf, isRd, gdA, callOf, isPanic, nextOf, altA, evalOp, St.ev, Av.get, St.put, argT, ofV, thenQ, Nat.reduceEqDiff, ↓reduceIte, Bool.and_self, List.map_cons, List.map_nil, List.nil_append, List.append_nil, List.getElem?_cons_zero, List.getElem?_cons_succ, List.getElem?_toArray, Option.map_some, Option.bind_some, decide_true, decide_false, beq_false, beq_true, Bool.not_true, Bool.not_false, Bool.false_eq_true, pickA, cond_true, cond_false, encV_told, if_true, List.length_nil, cells_agg', and_self]
  have hl28 := ld28 [.cells (c.map encV) false] 0 c false hc rfl
  have hl1 : ∀ H o, lend H [.vsl 3 x (e.map encE), .agg (c.map encV)] o = some [.vsl 3 x (e.map encE), .agg (c.map encV)] := by intro H o; simp [lend, AV.hfs, AV.hf, encV_hfs, encE_hfs]
  have hl2 : ∀ H o, lend H [.func (.func 86) [] [.vptr [.vsl 3 x (e.map encE)], .vptr (c.map encV)]] o = some [.func (.func 86) [] [.vptr [.vsl 3 x (e.map encE)], .vptr (c.map encV)]] := by intro H o; simp [lend, AV.hfs, AV.hf, encV_hfs, encE_hfs]
  have hl3 : ∀ H o, lend H [.vsl 4 false ((chgs e c 8).map encM), .func (.func 66) [] []] o = some [.vsl 4 false ((chgs e c 8).map encM), .func (.func 66) [] []] := by intro H o; simp [lend, AV.hfs, AV.hf, encM_hfs]
  have hl4 : ∀ H o, lend H [.vsl 3 x (e.map encE), .vsl 4 false ((modsC e c).map encM)] o = some [.vsl 3 x (e.map encE), .vsl 4 false ((modsC e c).map encM)] := by intro H o; simp [lend, AV.hfs, AV.hf, encM_hfs, encE_hfs]
  refine .seq (.region [.pure (.ret (.func (.func 86) [] [.vptr [.vsl 3 x (e.map encE)], .vptr (c.map encV)])), .pure (.ret (.vsl 4 false ((chgs e c 8).map encM)))] (by decide) ?_)
  simp only [EOps, EDf, isRd, gdA, callOf, isPanic, nextOf, altA, evalOp, St.ev, Av.get, St.put, argT, ofV, thenQ, Nat.reduceEqDiff, ↓reduceIte, Bool.and_self, List.map_cons, List.map_nil, List.nil_append, List.append_nil, List.getElem?_cons_zero, List.getElem?_cons_succ, List.getElem?_toArray, Option.map_some, Option.bind_some, decide_true, decide_false, beq_false, beq_true, Bool.not_true, Bool.not_false, Bool.false_eq_true, pickA, cond_true, cond_false, hl28, hl1, hl2]
  refine ⟨p1, p2, ?_⟩
  refine .seq (.region [] (by decide) ?_)
  simp only [EOps, EDf, isRd, gdA, callOf, isPanic, nextOf, altA, evalOp, St.ev, Av.get, St.put, argT, ofV, thenQ, Nat.reduceEqDiff, ↓reduceIte, Bool.and_self, List.map_cons, List.map_nil, List.nil_append, List.append_nil, List.getElem?_cons_zero, List.getElem?_cons_succ, List.getElem?_toArray, Option.map_some, Option.bind_some, decide_true, decide_false, beq_false, beq_true, Bool.not_true, Bool.not_false, Bool.false_eq_true, pickA, cond_true, cond_false]
  refine .seq (.region [.pure (.ret (.vsl 4 false ((modsC e c).map encM))), .pure (.ret (.tup [v, .int .i64 k]))] (by decide) ?_)
  simp only [EOps, EDf, isRd, gdA, callOf, isPanic, nextOf, altA, evalOp, St.ev, Av.get, St.put, argT, ofV, thenQ, Nat.reduceEqDiff, ↓reduceIte, Bool.and_self, List.map_cons, List.map_nil, List.nil_append, List.append_nil, List.getElem?_cons_zero, List.getElem?_cons_succ, List.getElem?_toArray, Option.map_some, Option.bind_some, decide_true, decide_false, beq_false, beq_true, Bool.not_true, Bool.not_false, Bool.false_eq_true, pickA, cond_true, cond_false, hl3, hl4]
  refine ⟨p3, p4, ?_⟩
  exact .ret (retF2 4 5 rfl rfl rfl rfl (fz_hf hvh) rfl (.refl _))

def newE : List Atr := [([111, 98, 106, 101, 99, 116, 99, 108, 97, 115, 115], true, [[105, 110, 101, 116, 111, 114, 103, 112, 101, 114, 115, 111, 110]]), ([115, 110], true, [[45]])]
def newE' : List Atr := [([111, 98, 106, 101, 99, 116, 99, 108, 97, 115, 115], false, [[105, 110, 101, 116, 111, 114, 103, 112, 101, 114, 115, 111, 110]]), ([115, 110], false, [[45]])]
end Go.Proofs.YtmeijkidjifagaaGreat
namespace Go.Proofs.YtmeijkidjifagaaGreat
set_option linter.unusedVariables false
set_option linter.unusedSimpArgs false
open Go Go.Av

def newO (c : List Val) : Out := if mayC c = true then outDo (doAll (newE'.map clr) (modsC newE' c)) else .ret (.tup [.vsl 3 false [], .int .i64 2])

theorem outDo_form (o : Option (List Atr)) : ∃ v k, outDo o = .ret (.tup [v, .int .i64 k]) ∧ v.hf = true := by
  cases o with
  | none => exact ⟨_, _, rfl, rfl⟩
  | some r => exact ⟨_, _, rfl, by simp [AV.hf, encE_hfs]⟩

end Go.Proofs.YtmeijkidjifagaaGreat
namespace Go.Proofs.YtmeijkidjifagaaGreat
set_option linter.unusedVariables false
set_option linter.unusedSimpArgs false
open Go Go.Av

def toldN (n : Bytes) (k : Nat) : Bool := (attrNames.take k).any fun m => m == n
def keepE (e : List Atr) (i : Nat) : List Atr := (e.take i).filter fun a => !(toldN a.1 8)
def layV (e : List Atr) (c : List Val) (sn : Bool) (i : Nat) : Val :=
  if (((i : Int) == 2) && (((fld c i).length : Int) == 0 && (sn || decide (((getE e [115, 110]).length : Int) > 0)))) = true then (true, [[45]]) else c.getD i (true, [])
def kIn (n : Bytes) (l : List Atr) : Nat := (l.takeWhile fun a => Op.bytesLess a.1 n).length
def insA (n : Bytes) (v : Val) (l : List Atr) : List Atr := l.take (kIn n l) ++ [(n, v.1, v.2)] ++ l.drop (kIn n l)
def layN (e : List Atr) (c : List Val) (sn : Bool) : Nat → List Atr
  | 0 => keepE e e.length
  | i + 1 => if ((((layV e c sn i).2.length : Int)) == 0) = true then layN e c sn i else insA (nameAt i) (layV e c sn i) (layN e c sn i)

theorem toldN_succ (n : Bytes) (k : Nat) (m : Bytes) (h : attrNames[k]? = some m) : toldN n (k + 1) = (toldN n k || m == n) := by
  unfold toldN
  rw [List.take_add_one, h, List.any_append]; simp
theorem kIn_cons (n : Bytes) (a : Atr) (l : List Atr) : kIn n (a :: l) = if Op.bytesLess a.1 n = true then kIn n l + 1 else 0 := by
  unfold kIn
  rw [List.takeWhile_cons]
  split <;> simp
theorem nameAt_at (i : Nat) (h : i < 8) : attrNames[i]? = some (nameAt i) := by
  have : i = 0 ∨ i = 1 ∨ i = 2 ∨ i = 3 ∨ i = 4 ∨ i = 5 ∨ i = 6 ∨ i = 7 := by omega
  rcases this with rfl | rfl | rfl | rfl | rfl | rfl | rfl | rfl <;> rfl
theorem encE_agg (a : Atr) : ∃ cs, encE a = .agg cs ∧ cs.length = 2 := ⟨_, rfl, rfl⟩
theorem encE_chf (a : Atr) : AV.hfs (encE a).cells = true := by simp only [encE, AV.cells, AV.hfs, AV.hf, strs_hfs, Bool.and_self]

end Go.Proofs.YtmeijkidjifagaaGreat
