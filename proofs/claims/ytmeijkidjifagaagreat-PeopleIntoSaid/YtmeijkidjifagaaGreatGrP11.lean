/- Contracts of functions that the statements of this seat reach: under the conditions named at each theorem. -/
import Derived.Test.YtmeijkidjifagaaGreatGrP10
import Derived.Test.YtmeijkidjifagaaGreatAvP7
namespace Go.Proofs.YtmeijkidjifagaaGreat
set_option linter.unusedVariables false
set_option linter.unusedSimpArgs false
open Go Go.Av

theorem nameAt_good : ∀ i, i < 8 → small (nameAt i) = nameAt i ∧ nameB (nameAt i) = true := by
  intro i hi
  have : i = 0 ∨ i = 1 ∨ i = 2 ∨ i = 3 ∨ i = 4 ∨ i = 5 ∨ i = 6 ∨ i = 7 := by omega
  rcases this with rfl | rfl | rfl | rfl | rfl | rfl | rfl | rfl <;> exact ⟨by kernel_rfl, by kernel_rfl⟩
theorem field_good {c : List Val} (h : checkC c = true) {i : Nat} (hi : i < 8) : fieldB i (fld c i) = true := by
  unfold checkC allFields at h
  simp only [Bool.and_eq_true] at h
  exact List.all_eq_true.1 h.1 i (List.mem_range.2 hi)
theorem valB_value {f : Int} {s : Bytes} (h : valB f s = true) : valueB s = true := by
  unfold valB at h
  simp only [Bool.and_eq_true, Bool.not_eq_true', decide_eq_false_iff_not] at h
  unfold valueB
  simp only [Bool.and_eq_true, decide_eq_true_eq]
  omega
theorem field_facts {i : Nat} {l : List Bytes} (h : fieldB i l = true) : l.length ≤ 8 ∧ l.all valueB = true ∧ List.Pairwise (fun a b : Bytes => a < b) l := by
  unfold fieldB at h
  simp only [Bool.and_eq_true, Bool.not_eq_true', decide_eq_false_iff_not] at h
  refine ⟨?_, ?_, of_rises h.2⟩
  · have : mostI i ≤ 8 := by unfold mostI; split <;> omega
    omega
  · rw [List.all_eq_true]; intro s hs; exact valB_value (List.all_eq_true.1 h.1.2 s hs)
theorem want_facts {e : List Atr} {c : List Val} (h : checkC c = true) {i : Nat} (hi : i < 8) : (wantC e c i).2.length ≤ 8 ∧ (wantC e c i).2.all valueB = true ∧ List.Pairwise (fun a b : Bytes => a < b) (wantC e c i).2 := by
  unfold wantC
  split
  · exact ⟨by simp, by kernel_rfl, by simp⟩
  · exact field_facts (field_good h hi)
theorem chg_mem {e : List Atr} {c : List Val} {m : Mo} {n : Nat} (h : m ∈ chgs e c n) : ∃ i, i < n ∧ m = (nameAt i, wantC e c i) := by
  obtain ⟨i, hi, hm⟩ := List.mem_filterMap.1 h
  refine ⟨i, List.mem_range.1 hi, ?_⟩
  unfold chgAt at hm
  split at hm
  · cases hm
  · cases hm; rfl
/-- The changes, those first that take away. -/
def modsC (e : List Atr) (c : List Val) : List Mo := (chgs e c 8).filter goesB ++ (chgs e c 8).filter fun m => !(goesB m)
theorem modsC_mem {e : List Atr} {c : List Val} {m : Mo} (h : m ∈ modsC e c) : ∃ i, i < 8 ∧ m = (nameAt i, wantC e c i) := by
  unfold modsC at h
  rcases List.mem_append.1 h with h | h
  · exact chg_mem (List.mem_filter.1 h).1
  · exact chg_mem (List.mem_filter.1 h).1

theorem into35 (x : Bool) (e : List Atr) (c : List Val) (hc : c.length = 8) (hck : checkE e = true) (hcc : checkC c = true) :
    PureFn Tryz.prog 35 [.vsl 3 x (e.map encE), .agg (c.map encV)] (outDo (doAll (e.map clr) (modsC e c))) := by
  have hge := check_good hck
  have hmay : (modsC e c).all mayB = true := by
    rw [List.all_eq_true]
    intro m hm
    obtain ⟨i, hi, rfl⟩ := modsC_mem hm
    obtain ⟨w1, w2, _⟩ := want_facts (e := e) hcc hi
    unfold mayB
    rw [(nameAt_good i hi).2, w2]
    simp only [Bool.true_and, Bool.and_true, decide_eq_true_eq]
    omega
  have hgd : ∀ m ∈ modsC e c, goodV m.1 m.2.2 := by
    intro m hm
    obtain ⟨i, hi, rfl⟩ := modsC_mem hm
    obtain ⟨w1, w2, w3⟩ := want_facts (e := e) hcc hi
    exact ⟨(nameAt_good i hi).1, by rw [sortB_of w3]; exact apart_of w3, by show (wantC e c i).2.length ≤ 16; omega⟩
  have hlen : (chgs e c 8).length ≤ 1000 := by have := chgs_len e c 8; omega
  have hlm : (modsC e c).length ≤ 1000 := by
    unfold modsC
    rw [List.length_append]
    have := List.length_filter_le goesB (chgs e c 8)
    have := List.length_filter_le (fun m => !(goesB m)) (chgs e c 8)
    have := chgs_len e c 8
    omega
  have hbe : ∀ a ∈ e, a.2.2.length ≤ 1000000 := fun a ha => by have := (hge.each a ha).2.2; omega
  have hbc : ∀ v ∈ c, v.2.length ≤ 1000000 := by
    intro v hv
    obtain ⟨i, hi⟩ := List.mem_iff_getElem?.1 hv
    have hi8 : i < 8 := by rw [← hc]; exact (List.getElem?_eq_some_iff.1 hi).1
    have := (field_facts (field_good hcc hi8)).1
    have hf : fld c i = v.2 := by simp [fld, List.getD, hi]
    rw [hf] at this; omega
  have p1 := changes65 x e c hc
  have p2 := collect64 x e c hc hbe hbc
  have p3 := parted39 false (chgs e c 8) 66 goesB hlen (fun m _ => goes66 m)
  have p4 := do67 x false e (modsC e c) hck hmay hgd hlm
  obtain ⟨v, k, hout, hvh⟩ : ∃ v k, outDo (doAll (e.map clr) (modsC e c)) = .ret (.tup [v, .int .i64 k]) ∧ v.hf = true := by
    cases doAll (e.map clr) (modsC e c) with
    | none => exact ⟨_, _, rfl, rfl⟩
    | some r => exact ⟨_, _, rfl, by simp [AV.hf, encE_hfs]⟩
  rw [hout] at p4 ⊢
  refine PureFn.of Tryz.func35 rfl (enters_call enters Tryz.func35 rfl) (by simp [Tryz.ntmps35]) ?_
  show W Tryz.prog 19 _ none _ _ _
  refine .seq (.region [] (by decide) ?_)
  simp only [EOps, EDf, isRd, gdA, callOf, isPanic, nextOf, altA, evalOp, St.ev, Av.get, St.put, argT, ofV, thenQ, Nat.reduceEqDiff, ↓reduceIte, Bool.and_self, List.map_cons, List.map_nil, List.nil_append, List.append_nil, List.getElem?_cons_zero, List.getElem?_cons_succ, List.getElem?_toArray, Option.map_some, Option.bind_some, decide_true, decide_false, beq_false, beq_true, Bool.not_true, Bool.not_false, Bool.false_eq_true, pickA, cond_true, cond_false, encV_told, if_true, List.length_nil, cells_agg', and_self]
  have hl28 := ld28 [.cells (c.map encV) false] 0 c false hc rfl
  have hl1 : ∀ H o, lend H [.vsl 3 x (e.map encE), .agg (c.map encV)] o = some [.vsl 3 x (e.map encE), .agg (c.map encV)] := by intro H o; simp [lend, AV.hfs, AV.hf, encV_hfs, encE_hfs]
  have hl2 : ∀ H o, lend H [.func (.func 86) [] [.vptr [.vsl 3 x (e.map encE)], .vptr (c.map encV)]] o = some [.func (.func 86) [] [.vptr [.vsl 3 x (e.map encE)], .vptr (c.map encV)]] := by intro H o; simp [lend, AV.hfs, AV.hf, encV_hfs, encE_hfs]
  have hl3 : ∀ H o, lend H [.vsl 4 false ((chgs e c 8).map encM), .func (.func 66) [] []] o = some [.vsl 4 false ((chgs e c 8).map encM), .func (.func 66) [] []] := by intro H o; simp [lend, AV.hfs, AV.hf, encM_hfs]
  have hl4 : ∀ H o, lend H [.vsl 3 x (e.map encE), .vsl 4 false ((modsC e c).map encM)] o = some [.vsl 3 x (e.map encE), .vsl 4 false ((modsC e c).map encM)] := by intro H o; simp [lend, AV.hfs, AV.hf, encM_hfs, encE_hfs]
  refine .seq (.region [.pure (.ret (.func (.func 86) [] [.vptr [.vsl 3 x (e.map encE)], .vptr (c.map encV)])), .pure (.ret (.vsl 4 false ((chgs e c 8).map encM)))] (by decide) ?_)
  simp only [EOps, EDf, isRd, gdA, callOf, isPanic, nextOf, altA, evalOp, St.ev, Av.get, St.put, argT, ofV, thenQ, Nat.reduceEqDiff, ↓reduceIte, Bool.and_self, List.map_cons, List.map_nil, List.nil_append, List.append_nil, List.getElem?_cons_zero, List.getElem?_cons_succ, List.getElem?_toArray, Option.map_some, Option.bind_some, decide_true, decide_false, beq_false, beq_true, Bool.not_true, Bool.not_false, Bool.false_eq_true, pickA, cond_true, cond_false, hl28, hl1, hl2]
  refine ⟨p1, p2, ?_⟩
  refine .seq (.region [] (by decide) ?_)
  simp only [EOps, EDf, isRd, gdA, callOf, isPanic, nextOf, altA, evalOp, St.ev, Av.get, St.put, argT, ofV, thenQ, Nat.reduceEqDiff, ↓reduceIte, Bool.and_self, List.map_cons, List.map_nil, List.nil_append, List.append_nil, List.getElem?_cons_zero, List.getElem?_cons_succ, List.getElem?_toArray, Option.map_some, Option.bind_some, decide_true, decide_false, beq_false, beq_true, Bool.not_true, Bool.not_false, Bool.false_eq_true, pickA, cond_true, cond_false]
  refine .seq (.region [.pure (.ret (.vsl 4 false ((modsC e c).map encM))), .pure (.ret (.tup [v, .int .i64 k]))] (by decide) ?_)
  simp only [EOps, EDf, isRd, gdA, callOf, isPanic, nextOf, altA, evalOp, St.ev, Av.get, St.put, argT, ofV, thenQ, Nat.reduceEqDiff, ↓reduceIte, Bool.and_self, List.map_cons, List.map_nil, List.nil_append, List.append_nil, List.getElem?_cons_zero, List.getElem?_cons_succ, List.getElem?_toArray, Option.map_some, Option.bind_some, decide_true, decide_false, beq_false, beq_true, Bool.not_true, Bool.not_false, Bool.false_eq_true, pickA, cond_true, cond_false, hl3, hl4]
  refine ⟨p3, p4, ?_⟩
  exact .ret (retF2 4 5 rfl rfl rfl rfl (fz_hf hvh) rfl (.refl _))

def newE : List Atr := [([111, 98, 106, 101, 99, 116, 99, 108, 97, 115, 115], true, [[105, 110, 101, 116, 111, 114, 103, 112, 101, 114, 115, 111, 110]]), ([115, 110], true, [[45]])]
def newE' : List Atr := [([111, 98, 106, 101, 99, 116, 99, 108, 97, 115, 115], false, [[105, 110, 101, 116, 111, 114, 103, 112, 101, 114, 115, 111, 110]]), ([115, 110], false, [[45]])]
theorem all60_run : endP Tryz.prog Tryz.f60 (runC Tryz.prog (callN Tryz.prog wayN 40) wayN.pm Tryz.f60.ntmps false wayN.fuel (Tryz.f60.body.getD .skip) ⟨argT 0 [.vsl 3 true (newE.map encE), .func (.func 61) [] []], [], []⟩) = some (.ret (.bool true)) := by kernel_rfl
theorem all60 : PureFn Tryz.prog 60 [.vsl 3 true (newE.map encE), .func (.func 61) [] []] (.ret (.bool true)) := PureFn.run wayN_ok 40 Tryz.func60 rfl (by simp [Tryz.ntmps60]) all60_run
theorem newE_good : GoodE newE := by
  refine ⟨?_, by decide, by decide⟩
  intro a ha
  rcases List.mem_cons.1 ha with rfl | ha
  · exact ⟨by kernel_rfl, by rw [sortB_of (by simp)]; rfl, by decide⟩
  · simp at ha; subst ha
    exact ⟨by kernel_rfl, by rw [sortB_of (by simp)]; rfl, by decide⟩
theorem newE_entry : entryT (tabE newE) = newE' := by
  have h1 : sortB ((tabE newE).map (·.1)) = [[111, 98, 106, 101, 99, 116, 99, 108, 97, 115, 115], [115, 110]] := sortB_of (by decide)
  unfold entryT
  rw [h1]
  have h2 : entA (tabE newE) [111, 98, 106, 101, 99, 116, 99, 108, 97, 115, 115] = some ([111, 98, 106, 101, 99, 116, 99, 108, 97, 115, 115], false, [[105, 110, 101, 116, 111, 114, 103, 112, 101, 114, 115, 111, 110]]) := by
    have : lookT (tabE newE) [111, 98, 106, 101, 99, 116, 99, 108, 97, 115, 115] = [[105, 110, 101, 116, 111, 114, 103, 112, 101, 114, 115, 111, 110]] := by kernel_rfl
    unfold entA; rw [this, sortB_of (by simp)]; rfl
  have h3 : entA (tabE newE) [115, 110] = some ([115, 110], false, [[45]]) := by
    have : lookT (tabE newE) [115, 110] = [[45]] := by kernel_rfl
    unfold entA; rw [this, sortB_of (by simp)]; rfl
  simp only [List.filterMap_cons, List.filterMap_nil, h2, h3]
  rfl
theorem tabE_good {e : List Atr} (h : GoodE e) : GoodT (tabE e) := by
  refine ⟨fun p hp => ?_, ?_, by have := h.few; simp [tabE]; omega⟩
  · obtain ⟨a, ha, rfl⟩ := List.mem_map.1 hp; exact h.each a ha
  · have : (tabE e).map (·.1) = e.map (·.1) := by simp [tabE]
    rw [this]; exact h.nodup
theorem give62z {M : List OB} {t : Tab} (h : tabOK M 0 t) (hg : GoodT t) (hne : t ≠ []) : ShFn Tryz.prog 62 [.map 0] M (outE (entryT t)) (dropS (List.range' 0 M.length) 0 M) := by
  have hk : keepS (List.range' 0 M.length) 0 M = M := by
    apply List.ext_getElem?
    intro i
    rw [keepS_get]
    by_cases hi : i < M.length
    · rw [if_pos hi, if_pos (by simp; omega)]
    · rw [if_neg hi, List.getElem?_eq_none (by omega)]
  obtain ⟨vs, hz, hvl, hvs⟩ := tab_fz h
  refine PureFn.give (args' := [.vmap ((t.map (·.1)).map .str) vs]) (List.range' 0 M.length) ?_ (entry62 t vs hg.nodup (by have := hg.few; omega) hne hvl hvs fun p hp => ⟨(hg.each p hp).2.1, (hg.each p hp).2.2⟩)
  rw [hk]
  simp [List.mapM_cons, hz]

theorem order34 : PureFn Tryz.prog 34 [.vsl 3 true (newE.map encE)] (.ret (.tup [.vsl 3 false (newE'.map encE), .int .i64 0])) := by
  have hg := newE_good
  have htab : ShFnS Tryz.prog 63 [.vsl 3 true (newE.map encE)] [] (S63 [] newE) := tabled63 true newE [] (by decide) (fun a ha => by have := (hg.each a ha).2.2; omega) (fun a ha => (hg.each a ha).1) hg.nodup
  have p1 := all60
  have ho : outE (entryT (tabE newE)) = .ret (.tup [.vsl 3 false (newE'.map encE), .int .i64 0]) := by rw [newE_entry]; rfl
  have hne : tabE newE ≠ [] := by simp [tabE, newE]
  generalize newE = e at *
  generalize newE' = e' at *
  refine PureFn.of Tryz.func34 rfl (enters_call enters Tryz.func34 rfl) (by simp [Tryz.ntmps34]) ?_
  show W Tryz.prog 12 _ none _ _ _
  refine .seq (.region [] (by decide) ?_)
  simp only [EOps, EDf, isRd, gdA, callOf, isPanic, nextOf, altA, evalOp, St.ev, Av.get, St.put, argT, ofV, thenQ, Nat.reduceEqDiff, ↓reduceIte, Bool.and_self, List.map_cons, List.map_nil, List.nil_append, List.append_nil, List.getElem?_cons_zero, List.getElem?_cons_succ, List.getElem?_toArray, Option.map_some, Option.bind_some, decide_true, decide_false, beq_false, beq_true, Bool.not_true, Bool.not_false, Bool.false_eq_true, pickA, cond_true, cond_false, and_self, if_true]
  have hl1 : ∀ H o, lend H [.vsl 3 true (e.map encE), .func (.func 61) [] []] o = some [.vsl 3 true (e.map encE), .func (.func 61) [] []] := by intro H o; simp [lend, AV.hfs, AV.hf, encE_hfs]
  refine .seq (.seq (.region [.pure (.ret (.bool true))] (by decide) ?_))
  simp only [EOps, EDf, isRd, gdA, callOf, isPanic, nextOf, altA, evalOp, St.ev, Av.get, St.put, argT, ofV, thenQ, Nat.reduceEqDiff, ↓reduceIte, Bool.and_self, List.map_cons, List.map_nil, List.nil_append, List.append_nil, List.getElem?_cons_zero, List.getElem?_cons_succ, List.getElem?_toArray, Option.map_some, Option.bind_some, decide_true, decide_false, beq_false, beq_true, Bool.not_true, Bool.not_false, Bool.false_eq_true, pickA, cond_true, cond_false, hl1, u_not]
  refine ⟨p1, .cond (t := false) rfl (.skip ?_)⟩
  simp only [thenQ]
  refine .seq (.region [.any (S63 [] e), .any (fun out _ => out = .ret (.tup [.vsl 3 false (e'.map encE), .int .i64 0]))] (by decide) ?_)
  simp only [EOps, EDf, isRd, gdA, callOf, isPanic, nextOf, altA, evalOp, St.ev, Av.get, St.put, argT, ofV, thenQ, Nat.reduceEqDiff, ↓reduceIte, Bool.and_self, List.map_cons, List.map_nil, List.nil_append, List.append_nil, List.getElem?_cons_zero, List.getElem?_cons_succ, List.getElem?_toArray, Option.map_some, Option.bind_some, decide_true, decide_false, beq_false, beq_true, Bool.not_true, Bool.not_false, Bool.false_eq_true, pickA, cond_true, cond_false]
  refine ⟨htab, ?_⟩
  rintro out K ⟨rfl, _, _, hK⟩
  simp only [List.length_nil] at hK
  have hgive := give62z hK (tabE_good hg) hne
  rw [ho] at hgive
  refine ⟨hgive.anyS rfl, ?_⟩
  rintro out K' rfl
  simp only [EOps, EDf, isRd, gdA, callOf, isPanic, nextOf, altA, evalOp, St.ev, Av.get, St.put, argT, ofV, thenQ, Nat.reduceEqDiff, ↓reduceIte, Bool.and_self, List.map_cons, List.map_nil, List.nil_append, List.append_nil, List.getElem?_cons_zero, List.getElem?_cons_succ, List.getElem?_toArray, Option.map_some, Option.bind_some, decide_true, decide_false, beq_false, beq_true, Bool.not_true, Bool.not_false, Bool.false_eq_true, pickA, cond_true, cond_false]
  exact .ret (retF2 2 3 rfl rfl rfl rfl (fz_hf (by simp [Av.get, AV.hf, encE_hfs])) rfl (.refl _))
end Go.Proofs.YtmeijkidjifagaaGreat
namespace Go.Proofs.YtmeijkidjifagaaGreat
set_option linter.unusedVariables false
set_option linter.unusedSimpArgs false
open Go Go.Av

theorem newE_check : checkE newE' = true := by kernel_rfl
def newO (c : List Val) : Out := if mayC c = true then outDo (doAll (newE'.map clr) (modsC newE' c)) else .ret (.tup [.vsl 3 false [], .int .i64 2])

theorem outDo_form (o : Option (List Atr)) : ∃ v k, outDo o = .ret (.tup [v, .int .i64 k]) ∧ v.hf = true := by
  cases o with
  | none => exact ⟨_, _, rfl, rfl⟩
  | some r => exact ⟨_, _, rfl, by simp [AV.hf, encE_hfs]⟩

set_option maxRecDepth 100000 in
theorem new13 (c : List Val) (hc : c.length = 8) : PureFn Tryz.prog 13 [.agg (c.map encV)] (newO c) := by
  have hbs : evBuildSlice Tryz.prog 22 2 [(0, .agg [.str [111, 98, 106, 101, 99, 116, 99, 108, 97, 115, 115], .vsl 0 true [.str [105, 110, 101, 116, 111, 114, 103, 112, 101, 114, 115, 111, 110]]]), (1, .agg [.str [115, 110], .vsl 0 true [.str [45]]])] = some (.vsl 3 true (newE.map encE)) := by kernel_rfl
  have hb1 : evBuild Tryz.prog 53 [(0, .str [111, 98, 106, 101, 99, 116, 99, 108, 97, 115, 115]), (1, .vsl 0 true [.str [105, 110, 101, 116, 111, 114, 103, 112, 101, 114, 115, 111, 110]])] = some (.agg [.str [111, 98, 106, 101, 99, 116, 99, 108, 97, 115, 115], .vsl 0 true [.str [105, 110, 101, 116, 111, 114, 103, 112, 101, 114, 115, 111, 110]]]) := by kernel_rfl
  have hb2 : evBuild Tryz.prog 53 [(0, .str [115, 110]), (1, .vsl 0 true [.str [45]])] = some (.agg [.str [115, 110], .vsl 0 true [.str [45]]]) := by kernel_rfl
  refine PureFn.of Tryz.func13 rfl (enters_call enters Tryz.func13 rfl) (by simp [Tryz.ntmps13]) ?_
  show W Tryz.prog 25 _ none _ _ _
  refine .seq (.region [] (by decide) ?_)
  simp only [EOps, EDf, isRd, gdA, callOf, isPanic, nextOf, altA, evalOp, St.ev, Av.get, St.put, argT, ofV, thenQ, Nat.reduceEqDiff, ↓reduceIte, Bool.and_self, List.map_cons, List.map_nil, List.nil_append, List.append_nil, List.getElem?_cons_zero, List.getElem?_cons_succ, List.getElem?_toArray, Option.map_some, Option.bind_some, decide_true, decide_false, beq_false, beq_true, Bool.not_true, Bool.not_false, Bool.false_eq_true, pickA, cond_true, cond_false, encV_told, if_true, List.length_nil, cells_agg', and_self]
  have hl28 := ld28 [.cells (c.map encV) false] 0 c false hc rfl
  have hl1 : ∀ H o, lend H [.agg (c.map encV)] o = some [.agg (c.map encV)] := by intro H o; simp [lend, AV.hfs, AV.hf, encV_hfs]
  have p1 := may33 c hc
  unfold newO
  cases hm : mayC c with
  | false =>
    rw [hm] at p1
    refine .seq (.seq (.region [.pure (.ret (.bool false))] (by decide) ?_))
    simp only [EOps, EDf, isRd, gdA, callOf, isPanic, nextOf, altA, evalOp, St.ev, Av.get, St.put, argT, ofV, thenQ, Nat.reduceEqDiff, ↓reduceIte, Bool.and_self, List.map_cons, List.map_nil, List.nil_append, List.append_nil, List.getElem?_cons_zero, List.getElem?_cons_succ, List.getElem?_toArray, Option.map_some, Option.bind_some, decide_true, decide_false, beq_false, beq_true, Bool.not_true, Bool.not_false, Bool.false_eq_true, pickA, cond_true, cond_false, hl28, hl1, u_not]
    refine ⟨p1, .cond (t := true) rfl (.seq (.region [] (by decide) ?_))⟩
    simp only [EOps, EDf, isRd, gdA, callOf, isPanic, nextOf, altA, evalOp, St.ev, Av.get, St.put, argT, ofV, thenQ, Nat.reduceEqDiff, ↓reduceIte, Bool.and_self, List.map_cons, List.map_nil, List.nil_append, List.append_nil, List.getElem?_cons_zero, List.getElem?_cons_succ, List.getElem?_toArray, Option.map_some, Option.bind_some, decide_true, decide_false, beq_false, beq_true, Bool.not_true, Bool.not_false, Bool.false_eq_true, pickA, cond_true, cond_false, and_self, if_true]
    exact .ret (retF2 2 3 rfl rfl rfl rfl rfl rfl (.nil _ _ _))
  | true =>
    rw [hm] at p1
    have hcc : checkC c = true := by unfold mayC at hm; simp only [Bool.and_eq_true] at hm; exact hm.1
    have p2 := order34
    have p3 := into35 false newE' c hc newE_check hcc
    rw [if_pos rfl]
    obtain ⟨v, k, ho, hvh⟩ := outDo_form (doAll (newE'.map clr) (modsC newE' c))
    rw [ho] at p3 ⊢
    clear ho hm
    generalize newE = e0 at *
    generalize newE' = e at *
    have hl2 : ∀ H o, lend H [.vsl 3 true (e0.map encE)] o = some [.vsl 3 true (e0.map encE)] := by intro H o; simp [lend, AV.hfs, AV.hf, encE_hfs]
    have hl3 : ∀ H o, lend H [.vsl 3 false (e.map encE), .agg (c.map encV)] o = some [.vsl 3 false (e.map encE), .agg (c.map encV)] := by intro H o; simp [lend, AV.hfs, AV.hf, encE_hfs, encV_hfs]
    have x1 : ({ data := #[111, 98, 106, 101, 99, 116, 99, 108, 97, 115, 115] } : ByteArray).size ≤ maxLen' := by decide
    have x2 : ({ data := #[105, 110, 101, 116, 111, 114, 103, 112, 101, 114, 115, 111, 110] } : ByteArray).size ≤ maxLen' := by decide
    have x3 : ({ data := #[115, 110] } : ByteArray).size ≤ maxLen' := by decide
    have x4 : ({ data := #[45] } : ByteArray).size ≤ maxLen' := by decide
    refine .seq (.seq (.region [.pure (.ret (.bool true))] (by decide) ?_))
    simp only [EOps, EDf, isRd, gdA, callOf, isPanic, nextOf, altA, evalOp, St.ev, Av.get, St.put, argT, ofV, thenQ, Nat.reduceEqDiff, ↓reduceIte, Bool.and_self, List.map_cons, List.map_nil, List.nil_append, List.append_nil, List.getElem?_cons_zero, List.getElem?_cons_succ, List.getElem?_toArray, Option.map_some, Option.bind_some, decide_true, decide_false, beq_false, beq_true, Bool.not_true, Bool.not_false, Bool.false_eq_true, pickA, cond_true, cond_false, hl28, hl1, u_not]
    refine ⟨p1, .cond (t := false) rfl (.skip ?_)⟩
    simp only [thenQ]
    refine .seq (.region [] (by decide) ?_)
    simp only [EOps, EDf, isRd, gdA, callOf, isPanic, nextOf, altA, evalOp, St.ev, Av.get, St.put, argT, ofV, thenQ, Nat.reduceEqDiff, ↓reduceIte, Bool.and_self, List.map_cons, List.map_nil, List.nil_append, List.append_nil, List.getElem?_cons_zero, List.getElem?_cons_succ, List.getElem?_toArray, Option.map_some, Option.bind_some, decide_true, decide_false, beq_false, beq_true, Bool.not_true, Bool.not_false, Bool.false_eq_true, pickA, cond_true, cond_false, x1, x2, x3, x4, if_true, bs26one, hb1, hb2, hbs]
    refine .seq (.region [.pure (.ret (.tup [.vsl 3 false (e.map encE), .int .i64 0]))] (by decide) ?_)
    simp only [EOps, EDf, isRd, gdA, callOf, isPanic, nextOf, altA, evalOp, St.ev, Av.get, St.put, argT, ofV, thenQ, Nat.reduceEqDiff, ↓reduceIte, Bool.and_self, List.map_cons, List.map_nil, List.nil_append, List.append_nil, List.getElem?_cons_zero, List.getElem?_cons_succ, List.getElem?_toArray, Option.map_some, Option.bind_some, decide_true, decide_false, beq_false, beq_true, Bool.not_true, Bool.not_false, Bool.false_eq_true, pickA, cond_true, cond_false, hl2]
    refine ⟨p2, ?_⟩
    refine .seq (.region [.pure (.ret (.tup [v, .int .i64 k]))] (by decide) ?_)
    simp only [EOps, EDf, isRd, gdA, callOf, isPanic, nextOf, altA, evalOp, St.ev, Av.get, St.put, argT, ofV, thenQ, Nat.reduceEqDiff, ↓reduceIte, Bool.and_self, List.map_cons, List.map_nil, List.nil_append, List.append_nil, List.getElem?_cons_zero, List.getElem?_cons_succ, List.getElem?_toArray, Option.map_some, Option.bind_some, decide_true, decide_false, beq_false, beq_true, Bool.not_true, Bool.not_false, Bool.false_eq_true, pickA, cond_true, cond_false, hl28, hl3]
    refine ⟨p3, ?_⟩
    exact .ret (retF2 2 3 rfl rfl rfl rfl (fz_hf hvh) rfl (.refl _))
end Go.Proofs.YtmeijkidjifagaaGreat
namespace Go.Proofs.YtmeijkidjifagaaGreat
set_option linter.unusedVariables false
set_option linter.unusedSimpArgs false
open Go Go.Av

def toldN (n : Bytes) (k : Nat) : Bool := (attrNames.take k).any fun m => m == n
def keepE (e : List Atr) (i : Nat) : List Atr := (e.take i).filter fun a => !(toldN a.1 8)
def layV (e : List Atr) (c : List Val) (sn : Bool) (i : Nat) : Val :=
  if (((i : Int) == 2) && (((fld c i).length : Int) == 0 && (sn || decide (((getE e [115, 110]).length : Int) > 0)))) = true then (true, [[45]]) else c.getD i (true, [])
def kIn (n : Bytes) (l : List Atr) : Nat := (l.takeWhile fun a => Op.bytesLess a.1 n).length
def insA (n : Bytes) (v : Val) (l : List Atr) : List Atr := l.take (kIn n l) ++ [(n, v.1, v.2)] ++ l.drop (kIn n l)
def layN (e : List Atr) (c : List Val) (sn : Bool) : Nat → List Atr
  | 0 => keepE e e.length
  | i + 1 => if ((((layV e c sn i).2.length : Int)) == 0) = true then layN e c sn i else insA (nameAt i) (layV e c sn i) (layN e c sn i)

theorem toldN_succ (n : Bytes) (k : Nat) (m : Bytes) (h : attrNames[k]? = some m) : toldN n (k + 1) = (toldN n k || m == n) := by
  unfold toldN
  rw [List.take_add_one, h, List.any_append]; simp
theorem keepE_succ (e : List Atr) (i : Nat) (a : Atr) (h : e[i]? = some a) : keepE e (i + 1) = if (!(toldN a.1 8)) = true then keepE e i ++ [a] else keepE e i := by
  unfold keepE
  rw [List.take_add_one, h, List.filter_append]
  cases hb : !(toldN a.1 8) <;> simp [hb]
theorem keepE_len (e : List Atr) (i : Nat) : (keepE e i).length ≤ e.length := by
  have h1 := List.length_filter_le (fun a : Atr => !(toldN a.1 8)) (e.take i)
  have h2 : (e.take i).length ≤ e.length := by simp; omega
  unfold keepE; omega
theorem insA_len (n : Bytes) (v : Val) (l : List Atr) : (insA n v l).length = l.length + 1 := by
  have h : (l.take (kIn n l) ++ l.drop (kIn n l)).length = l.length := by rw [List.take_append_drop]
  simp only [List.length_append] at h
  simp only [insA, List.length_append, List.length_cons, List.length_nil]
  omega
theorem layN_len (e : List Atr) (c : List Val) (sn : Bool) : ∀ i, (layN e c sn i).length ≤ e.length + i
  | 0 => keepE_len e e.length
  | i + 1 => by
    have := layN_len e c sn i
    rw [layN]; split
    · omega
    · rw [insA_len]; omega
theorem kIn_cons (n : Bytes) (a : Atr) (l : List Atr) : kIn n (a :: l) = if Op.bytesLess a.1 n = true then kIn n l + 1 else 0 := by
  unfold kIn
  rw [List.takeWhile_cons]
  split <;> simp
theorem kIn_le (n : Bytes) (l : List Atr) : kIn n l ≤ l.length := by
  induction l with
  | nil => simp [kIn]
  | cons a l ih => rw [kIn_cons]; split <;> simp; omega

theorem bs22 (a : Atr) : evBuildSlice Tryz.prog 22 1 [(0, encE a)] = some (.vsl 3 true [encE a]) := by
  simp [evBuildSlice, Tryz.underlying22, ap53, encE, AV.cells, AV.told, List.range']
theorem nameAt_at (i : Nat) (h : i < 8) : attrNames[i]? = some (nameAt i) := by
  have : i = 0 ∨ i = 1 ∨ i = 2 ∨ i = 3 ∨ i = 4 ∨ i = 5 ∨ i = 6 ∨ i = 7 := by omega
  rcases this with rfl | rfl | rfl | rfl | rfl | rfl | rfl | rfl <;> rfl
theorem encE_agg (a : Atr) : ∃ cs, encE a = .agg cs ∧ cs.length = 2 := ⟨_, rfl, rfl⟩
theorem encE_chf (a : Atr) : AV.hfs (encE a).cells = true := by simp only [encE, AV.cells, AV.hfs, AV.hf, strs_hfs, Bool.and_self]

set_option maxRecDepth 100000 in
theorem lay37 (x : Bool) (e : List Atr) (c : List Val) (sn : Bool) (hc : c.length = 8) (he : e.length ≤ 1000) :
    PureFn Tryz.prog 37 [.vsl 3 x (e.map encE), .agg (c.map encV), .bool sn] (.ret (.vsl 3 false ((layN e c sn 8).map encE))) := by
  refine PureFn.of Tryz.func37 rfl (enters_call enters Tryz.func37 rfl) (by simp [Tryz.ntmps37]) ?_
  show W Tryz.prog 108 _ none _ _ _
  refine .seq (.region [] (by decide) ?_)
  simp only [EOps, EDf, isRd, gdA, callOf, isPanic, nextOf, altA, evalOp, St.ev, Av.get, St.put, argT, ofV, thenQ, Nat.reduceEqDiff, ↓reduceIte, Bool.and_self, List.map_cons, List.map_nil, List.nil_append, List.append_nil, List.getElem?_cons_zero, List.getElem?_cons_succ, List.getElem?_toArray, Option.map_some, Option.bind_some, decide_true, decide_false, beq_false, beq_true, Bool.not_true, Bool.not_false, Bool.false_eq_true, pickA, cond_true, cond_false, encV_told, if_true, List.length_nil, cells_agg', and_self]
  refine .seq (.region [] (by decide) ?_)
  simp only [EOps, EDf, isRd, gdA, callOf, isPanic, nextOf, altA, evalOp, St.ev, Av.get, St.put, argT, ofV, thenQ, Nat.reduceEqDiff, ↓reduceIte, Bool.and_self, List.map_cons, List.map_nil, List.nil_append, List.append_nil, List.getElem?_cons_zero, List.getElem?_cons_succ, List.getElem?_toArray, Option.map_some, Option.bind_some, decide_true, decide_false, beq_false, beq_true, Bool.not_true, Bool.not_false, Bool.false_eq_true, pickA, cond_true, cond_false, and_self, if_true]
  refine .seq (.seq (.region [] (by decide) ?_))
  simp only [EOps, EDf, isRd, gdA, callOf, isPanic, nextOf, altA, evalOp, St.ev, Av.get, St.put, argT, ofV, thenQ, Nat.reduceEqDiff, ↓reduceIte, Bool.and_self, List.map_cons, List.map_nil, List.nil_append, List.append_nil, List.getElem?_cons_zero, List.getElem?_cons_succ, List.getElem?_toArray, Option.map_some, Option.bind_some, decide_true, decide_false, beq_false, beq_true, Bool.not_true, Bool.not_false, Bool.false_eq_true, pickA, cond_true, cond_false]
  refine .block ?_
  have hBh : ∀ m, [OB.cells (c.map encV) false].all (OB.hlt m) = true := by intro m; simp [OB.hlt, encV_hlts]
  generalize hB : [OB.cells (c.map encV) false] = B at hBh ⊢
  have hBl : B.length = 1 := by rw [← hB]; rfl
  have hB0 : B[0]? = some (.cells (c.map encV) false) := by rw [← hB]; rfl
  have hH : ∀ m L, (grow B encE L).all (OB.hlt m) = true := fun m L => grow_hlt (hBh m) (fun a => by simp only [encE, AV.cells, AV.hlts, AV.hlt, strs_hlts, Bool.and_self]) L
  refine .forR 8 17 18 19 0 e.length (by simp only [maxLen']; omega) (Nat.zero_le _) rfl rfl rfl rfl rfl rfl rfl rfl rfl (by decide)
    (fun i => [(7, growW 1 0 3 (keepE e i)), (0, .vsl 3 x (e.map encE)), (2, .bool sn), (4, .ptr 0 0)]) (fun _ => rfl) (fun i => grow B encE (keepE e i)) (fun _ => Nat.zero_le _) (fun i => True) rfl trivial ?_ ?_ ?_ ?_ ?_ ?_
  · simp only [subT, Av.get, Nat.reduceEqDiff, ↓reduceIte, Le_rfl, nat0, nat1, and_self, keepE, List.take_zero, List.filter_nil, growW]
  · intro i _
    have h1 : (growW 1 0 3 (keepE e i)).hlt (grow B encE (keepE e i)).length = true := growW_hlt _ (by rw [grow_len, hBl]; exact Nat.le_refl _)
    have h2 : 1 ≤ (grow B encE (keepE e i)).length := by rw [grow_len, hBl]; omega
    simp only [hltT, h1, AV.hlt, encE_hlts, Bool.true_and, Bool.and_true, Bool.and_eq_true, decide_eq_true_eq]
    omega
  · exact subH_self (hH _ [])
  · intro i hi hok
    refine .region [] (by decide) ?_
    simp only [EOps, EDf, isRd, gdA, callOf, isPanic, nextOf, altA, evalOp, St.ev, Av.get, St.put, argT, ofV, thenQ, Nat.reduceEqDiff, ↓reduceIte, Bool.and_self, List.map_cons, List.map_nil, List.nil_append, List.append_nil, List.getElem?_cons_zero, List.getElem?_cons_succ, List.getElem?_toArray, Option.map_some, Option.bind_some, decide_true, decide_false, beq_false, beq_true, Bool.not_true, Bool.not_false, Bool.false_eq_true, pickA, cond_true, cond_false, ln23, b_lss, dlt]
    refine ⟨trivial, ?_, subH_self (hH _ _), trivial⟩
    simp only [subT, Av.get, Nat.reduceEqDiff, ↓reduceIte, Le_rfl, nat0, nat1, and_self]
  · intro i hi hok
    obtain ⟨a, ha, hda⟩ := drop_at hi
    have hks := keepE_succ e i a ha
    have hkl := keepE_len e i
    generalize hL : keepE e i = L at hks hkl
    have hgV : ∀ m, B.length + L.length ≤ m → (growW 1 0 3 L).hlt m = true := fun m hm => growW_hlt _ (by rw [hBl] at hm; exact hm)
    refine .block (.seq (.region [] (by decide) ?_))
    simp only [EOps, EDf, isRd, gdA, callOf, isPanic, nextOf, altA, evalOp, St.ev, Av.get, St.put, argT, ofV, thenQ, Nat.reduceEqDiff, ↓reduceIte, Bool.and_self, List.map_cons, List.map_nil, List.nil_append, List.append_nil, List.getElem?_cons_zero, List.getElem?_cons_succ, List.getElem?_toArray, Option.map_some, Option.bind_some, decide_true, decide_false, beq_false, beq_true, Bool.not_true, Bool.not_false, Bool.false_eq_true, pickA, cond_true, cond_false]
    refine .seq (.seq (.region [] (by decide) ?_))
    simp only [EOps, EDf, isRd, gdA, callOf, isPanic, nextOf, altA, evalOp, St.ev, Av.get, St.put, argT, ofV, thenQ, Nat.reduceEqDiff, ↓reduceIte, Bool.and_self, List.map_cons, List.map_nil, List.nil_append, List.append_nil, List.getElem?_cons_zero, List.getElem?_cons_succ, List.getElem?_toArray, Option.map_some, Option.bind_some, decide_true, decide_false, beq_false, beq_true, Bool.not_true, Bool.not_false, Bool.false_eq_true, pickA, cond_true, cond_false]
    refine .block ?_
    refine .forR 10 21 22 23 0 8 (by decide) (Nat.zero_le _) rfl rfl rfl rfl rfl rfl rfl rfl rfl (by decide)
      (fun k => [(9, .bool (toldN a.1 k)), (8, .int .i64 (i : Int)), (7, growW 1 0 3 L), (0, .vsl 3 x (e.map encE)), (2, .bool sn), (4, .ptr 0 0)]) (fun _ => rfl) (fun _ => grow B encE L) (fun _ => Nat.zero_le _) (fun _ => True) rfl trivial ?_ ?_ (subH_self (hH _ _)) ?_ ?_ ?_
    · simp only [subT, Av.get, Nat.reduceEqDiff, ↓reduceIte, Le_rfl, nat0, nat1, and_self, toldN, List.take_zero, List.any_nil]
    · intro k _
      have h1 := hgV (grow B encE L).length (by rw [grow_len]; exact Nat.le_refl _)
      have h2 : 1 ≤ (grow B encE L).length := by rw [grow_len, hBl]; omega
      simp only [hltT, h1, AV.hlt, encE_hlts, Bool.true_and, Bool.and_true, Bool.and_eq_true, decide_eq_true_eq]
      omega
    · intro k hk _
      refine .region [] (by decide) ?_
      have : decide ((k : Int) < 8) = decide (k < 8) := dlt k 8
      simp only [EOps, EDf, isRd, gdA, callOf, isPanic, nextOf, altA, evalOp, St.ev, Av.get, St.put, argT, ofV, thenQ, Nat.reduceEqDiff, ↓reduceIte, Bool.and_self, List.map_cons, List.map_nil, List.nil_append, List.append_nil, List.getElem?_cons_zero, List.getElem?_cons_succ, List.getElem?_toArray, Option.map_some, Option.bind_some, decide_true, decide_false, beq_false, beq_true, Bool.not_true, Bool.not_false, Bool.false_eq_true, pickA, cond_true, cond_false, b_lss, this]
      refine ⟨trivial, ?_, subH_self (hH _ _), trivial⟩
      simp only [subT, Av.get, Nat.reduceEqDiff, ↓reduceIte, Le_rfl, nat0, nat1, and_self]
    · intro k hk _
      have hm := nameAt_at k hk
      have hts := toldN_succ a.1 k _ hm
      generalize nameAt k = m at hm hts
      refine .block ?_
      generalize toldN a.1 k = b at hts
      cases b with
      | true =>
        refine .drawf2 [] mixed (by kernel_rfl) (by kernel_rfl) (by kernel_rfl) ?_
        simp only [EOps, EDf, isRd, gdA, callOf, isPanic, nextOf, altA, evalOp, St.ev, Av.get, St.put, argT, ofV, thenQ, Nat.reduceEqDiff, ↓reduceIte, Bool.and_self, List.map_cons, List.map_nil, List.nil_append, List.append_nil, List.getElem?_cons_zero, List.getElem?_cons_succ, List.getElem?_toArray, Option.map_some, Option.bind_some, decide_true, decide_false, beq_false, beq_true, Bool.not_true, Bool.not_false, Bool.false_eq_true, pickA, cond_true, cond_false]
        refine ⟨trivial, ?_, subH_self (hH _ _), rfl⟩
        simp only [subT, Av.get, Nat.reduceEqDiff, ↓reduceIte, Le_rfl, nat0, nat1, and_self, hts, Bool.true_or]
      | false =>
        refine .drawf2 [.pure (.ret (.vsl 0 true (attrNames.map .str)))] mixed (by kernel_rfl) (by kernel_rfl) (by kernel_rfl) ?_
        have hl0 : ∀ H o, lend H [] o = some [] := by intro H o; simp [lend, AV.hfs]
        simp only [EOps, EDf, isRd, gdA, callOf, isPanic, nextOf, altA, evalOp, St.ev, Av.get, St.put, argT, ofV, thenQ, Nat.reduceEqDiff, ↓reduceIte, Bool.and_self, List.map_cons, List.map_nil, List.nil_append, List.append_nil, List.getElem?_cons_zero, List.getElem?_cons_succ, List.getElem?_toArray, Option.map_some, Option.bind_some, decide_true, decide_false, beq_false, beq_true, Bool.not_true, Bool.not_false, Bool.false_eq_true, pickA, cond_true, cond_false, hl0, ia26 _ _ _ _ hm, ld9v, ia23 _ _ _ _ ha, faE0, ldE0, s_eql]
        refine ⟨names22, trivial, ?_, subH_self (hH _ _), rfl⟩
        simp only [subT, Av.get, Nat.reduceEqDiff, ↓reduceIte, Le_rfl, nat0, nat1, and_self, hts, Bool.false_or]
    · intro _
      simp only [EOps, EDf, isRd, gdA, callOf, isPanic, nextOf, altA, evalOp, St.ev, Av.get, St.put, argT, ofV, thenQ, Nat.reduceEqDiff, ↓reduceIte, Bool.and_self, List.map_cons, List.map_nil, List.nil_append, List.append_nil, List.getElem?_cons_zero, List.getElem?_cons_succ, List.getElem?_toArray, Option.map_some, Option.bind_some, decide_true, decide_false, beq_false, beq_true, Bool.not_true, Bool.not_false, Bool.false_eq_true, pickA, cond_true, cond_false, blockQ]
      refine .seq (.region [] (by decide) ?_)
      simp only [EOps, EDf, isRd, gdA, callOf, isPanic, nextOf, altA, evalOp, St.ev, Av.get, St.put, argT, ofV, thenQ, Nat.reduceEqDiff, ↓reduceIte, Bool.and_self, List.map_cons, List.map_nil, List.nil_append, List.append_nil, List.getElem?_cons_zero, List.getElem?_cons_succ, List.getElem?_toArray, Option.map_some, Option.bind_some, decide_true, decide_false, beq_false, beq_true, Bool.not_true, Bool.not_false, Bool.false_eq_true, pickA, cond_true, cond_false, u_not]
      generalize toldN a.1 8 = b at hks
      cases b with
      | true =>
        refine .cond (t := false) rfl (.skip ?_)
        refine ⟨trivial, ?_, ?_, rfl⟩
        · simp only [subT, Av.get, Nat.reduceEqDiff, ↓reduceIte, Le_rfl, nat0, nat1, and_self, hks, Bool.not_true, Bool.false_eq_true]
        · simp only [hks, Bool.not_true, Bool.false_eq_true, ↓reduceIte]
          exact subH_self (hH _ _)
      | false =>
        refine .cond (t := true) rfl (.region [] (by decide) ?_)
        have hap : evAppend Tryz.prog 22 22 (growW 1 0 3 L) (.vsl 3 true [encE a]) (grow B encE L) = some (growW 1 0 3 (L ++ [a]), grow B encE (L ++ [a])) := by
          have := growW_app (wd := 3) (bytes := 40) Tryz.underlying22 ap53 B encE (fun _ => rfl) (fun _ => rfl) (by decide) 0 L a true (by omega)
          rw [hBl] at this; exact this
        simp only [EOps, EDf, isRd, gdA, callOf, isPanic, nextOf, altA, evalOp, St.ev, Av.get, St.put, argT, ofV, thenQ, Nat.reduceEqDiff, ↓reduceIte, Bool.and_self, List.map_cons, List.map_nil, List.nil_append, List.append_nil, List.getElem?_cons_zero, List.getElem?_cons_succ, List.getElem?_toArray, Option.map_some, Option.bind_some, decide_true, decide_false, beq_false, beq_true, Bool.not_true, Bool.not_false, Bool.false_eq_true, pickA, cond_true, cond_false, ia23 _ _ _ _ ha, ld53, bs22, hap]
        simp only [Bool.not_false, if_true] at hks
        refine ⟨trivial, ?_, ?_, rfl⟩
        · simp only [subT, Av.get, Nat.reduceEqDiff, ↓reduceIte, Le_rfl, nat0, nat1, and_self, hks]
        · rw [hks]; exact subH_self (hH _ _)
  · intro hok
    simp only [EOps, EDf, isRd, gdA, callOf, isPanic, nextOf, altA, evalOp, St.ev, Av.get, St.put, argT, ofV, thenQ, Nat.reduceEqDiff, ↓reduceIte, Bool.and_self, List.map_cons, List.map_nil, List.nil_append, List.append_nil, List.getElem?_cons_zero, List.getElem?_cons_succ, List.getElem?_toArray, Option.map_some, Option.bind_some, decide_true, decide_false, beq_false, beq_true, Bool.not_true, Bool.not_false, Bool.false_eq_true, pickA, cond_true, cond_false, blockQ]
    have hsl : slIn 3 encE (grow B encE (keepE e e.length)) (growW 1 0 3 (keepE e e.length)) (keepE e e.length) := by
      have := growW_slIn B encE 0 3 (keepE e e.length)
      rw [hBl] at this; exact this
    have hbh : behindV 1 (growW 1 0 3 (keepE e e.length)) := by cases keepE e e.length <;> simp [growW, behindV]
    obtain ⟨S, hS, u, hu, hul⟩ := slIn_frz (n := 2) 1 (by decide) encE_agg encE_chf hsl hbh
    refine W.froze S [(7, .vsl 3 false ((layN e c sn 0).map encE)), (0, .vsl 3 x (e.map encE)), (2, .bool sn), (4, .ptr 0 0)] ?_ ?_
    · simp only [frzT, Av.get, Nat.reduceEqDiff, ↓reduceIte, true_or, and_true]
      exact .inr ⟨u, hu, hul⟩
    have hD0 : (dropS S 0 (grow B encE (keepE e e.length)))[0]? = some (.cells (c.map encV) false) := by
      rw [dropS_at _ _ _ _ (hS 0 (by decide)), grow_get (by omega)]; exact hB0
    simp only
    generalize dropS S 0 (grow B encE (keepE e e.length)) = M at hD0 ⊢
    clear hsl hbh hS hu hul hH hBh
    refine .seq (.seq (.region [] (by decide) ?_))
    simp only [EOps, EDf, isRd, gdA, callOf, isPanic, nextOf, altA, evalOp, St.ev, Av.get, St.put, argT, ofV, thenQ, Nat.reduceEqDiff, ↓reduceIte, Bool.and_self, List.map_cons, List.map_nil, List.nil_append, List.append_nil, List.getElem?_cons_zero, List.getElem?_cons_succ, List.getElem?_toArray, Option.map_some, Option.bind_some, decide_true, decide_false, beq_false, beq_true, Bool.not_true, Bool.not_false, Bool.false_eq_true, pickA, cond_true, cond_false]
    refine .block ?_
    refine .forRz 11 47 48 49 0 8 (by decide) (Nat.zero_le _) rfl rfl rfl rfl rfl rfl rfl rfl rfl (by decide)
      (fun i => [(7, .vsl 3 false ((layN e c sn i).map encE)), (0, .vsl 3 x (e.map encE)), (2, .bool sn), (4, .ptr 0 0)]) (fun _ => rfl) (fun i => [.cells (c.map encV) false]) (fun _ => Nat.zero_le _) (fun i => True) rfl trivial ?_ ?_ (subH_one hD0 (encV_hlts _ _)) ?_ ?_ ?_
    · simp only [subT, Av.get, Nat.reduceEqDiff, ↓reduceIte, Le_rfl, nat0, nat1, and_self]
    · intro i _
      simp only [hltT, AV.hlt, encE_hlts, Bool.true_and, Bool.and_true]
      rfl
    · intro i hi _
      refine .region [] (by decide) ?_
      have : decide ((i : Int) < 8) = decide (i < 8) := dlt i 8
      simp only [EOps, EDf, isRd, gdA, callOf, isPanic, nextOf, altA, evalOp, St.ev, Av.get, St.put, argT, ofV, thenQ, Nat.reduceEqDiff, ↓reduceIte, Bool.and_self, List.map_cons, List.map_nil, List.nil_append, List.append_nil, List.getElem?_cons_zero, List.getElem?_cons_succ, List.getElem?_toArray, Option.map_some, Option.bind_some, decide_true, decide_false, beq_false, beq_true, Bool.not_true, Bool.not_false, Bool.false_eq_true, pickA, cond_true, cond_false, b_lss, this]
      refine ⟨trivial, ?_, subH_one rfl (encV_hlts _ _), trivial⟩
      simp only [subT, Av.get, Nat.reduceEqDiff, ↓reduceIte, Le_rfl, nat0, nat1, and_self]
    · intro i hi _
      have hli := layN_len e c sn i
      obtain ⟨v, hv, hfv⟩ := fld_at c i (by omega)
      have hve : (c.map encV)[i]? = some (encV v) := by simp [hv]
      have hld : evLoad Tryz.prog 26 (.ptr 0 i) [.cells (c.map encV) false] = some (encV v) := ld26 _ 0 i _ _ _ rfl hve
      have hlnv : ∀ (v : Val) H, evLen Tryz.prog 26 (encV v) H = some (.int .i64 v.2.length) := fun v H => ln26 _ _ _
      have hgd : c.getD i (true, []) = v := by simp [List.getD, hv]
      have hlv : layV e c sn i = if (((i : Int) == 2) && (((v.2.length : Int) == 0) && (sn || decide (((getE e [115, 110]).length : Int) > 0)))) = true then (true, [[45]]) else v := by rw [layV, hfv, hgd]
      have hls : layN e c sn (i + 1) = if ((((layV e c sn i).2.length : Int)) == 0) = true then layN e c sn i else insA (nameAt i) (layV e c sn i) (layN e c sn i) := rfl
      generalize layN e c sn i = O at hls hli ⊢
      generalize layV e c sn i = V at hlv hls
      generalize layN e c sn (i + 1) = O' at hls ⊢
      have hm := nameAt_at i hi
      generalize nameAt i = m at hm hls
      clear hok hB hB0 hBl hD0
      refine .block (.seq (.region [] (by decide) ?_))
      simp only [EOps, EDf, isRd, gdA, callOf, isPanic, nextOf, altA, evalOp, St.ev, Av.get, St.put, argT, ofV, thenQ, Nat.reduceEqDiff, ↓reduceIte, Bool.and_self, List.map_cons, List.map_nil, List.nil_append, List.append_nil, List.getElem?_cons_zero, List.getElem?_cons_succ, List.getElem?_toArray, Option.map_some, Option.bind_some, decide_true, decide_false, beq_false, beq_true, Bool.not_true, Bool.not_false, Bool.false_eq_true, pickA, cond_true, cond_false, ia28 0 i hi, hld]
      refine .seqP True [(12, encV V), (11, .int .i64 (i : Int)), (7, .vsl 3 false (O.map encE)), (0, .vsl 3 x (e.map encE)), (2, .bool sn), (4, .ptr 0 0)] [.cells (c.map encV) false] ?_ ?_
      · have x1 : ({ data := #[115, 110] } : ByteArray).size ≤ maxLen' := by decide
        have x2 : ({ data := #[45] } : ByteArray).size ≤ maxLen' := by decide
        generalize h1 : ((i : Int) == 2) = b1 at hlv
        generalize h2 : ((v.2.length : Int) == 0) = b2 at hlv
        have p1 := get24 x e [115, 110]
        have hsm : small [115, 110] = [115, 110] := by kernel_rfl
        rw [hsm] at p1
        generalize getE e [115, 110] = g at p1 hlv
        generalize h3 : decide ((g.length : Int) > 0) = b3 at hlv
        have hl1 : ∀ H o, lend H [.vsl 3 x (e.map encE), .str [115, 110]] o = some [.vsl 3 x (e.map encE), .str [115, 110]] := by intro H o; simp [lend, AV.hfs, AV.hf, encE_hfs]
        cases b1 with
        | false =>
          subst hlv
          refine .seq (.region [] (by decide) ?_)
          simp only [EOps, EDf, isRd, gdA, callOf, isPanic, nextOf, altA, evalOp, St.ev, Av.get, St.put, argT, ofV, thenQ, Nat.reduceEqDiff, ↓reduceIte, Bool.and_self, List.map_cons, List.map_nil, List.nil_append, List.append_nil, List.getElem?_cons_zero, List.getElem?_cons_succ, List.getElem?_toArray, Option.map_some, Option.bind_some, decide_true, decide_false, beq_false, beq_true, Bool.not_true, Bool.not_false, Bool.false_eq_true, pickA, cond_true, cond_false, b_eql, h1]
          refine .cond (t := false) rfl (.skip ?_)
          refine ⟨by trivial, ?_, by trivial, by trivial⟩
          simp [holdsT, Av.get]
        | true =>
          cases b2 with
          | false =>
            subst hlv
            refine .seq (.region [] (by decide) ?_)
            simp only [EOps, EDf, isRd, gdA, callOf, isPanic, nextOf, altA, evalOp, St.ev, Av.get, St.put, argT, ofV, thenQ, Nat.reduceEqDiff, ↓reduceIte, Bool.and_self, List.map_cons, List.map_nil, List.nil_append, List.append_nil, List.getElem?_cons_zero, List.getElem?_cons_succ, List.getElem?_toArray, Option.map_some, Option.bind_some, decide_true, decide_false, beq_false, beq_true, Bool.not_true, Bool.not_false, Bool.false_eq_true, pickA, cond_true, cond_false, b_eql, h1, hlnv, h2]
            refine .cond (t := false) rfl (.skip ?_)
            refine ⟨by trivial, ?_, by trivial, by trivial⟩
            simp [holdsT, Av.get]
          | true =>
            cases sn with
            | true =>
              subst hlv
              refine .seq (.region [] (by decide) ?_)
              simp only [EOps, EDf, isRd, gdA, callOf, isPanic, nextOf, altA, evalOp, St.ev, Av.get, St.put, argT, ofV, thenQ, Nat.reduceEqDiff, ↓reduceIte, Bool.and_self, List.map_cons, List.map_nil, List.nil_append, List.append_nil, List.getElem?_cons_zero, List.getElem?_cons_succ, List.getElem?_toArray, Option.map_some, Option.bind_some, decide_true, decide_false, beq_false, beq_true, Bool.not_true, Bool.not_false, Bool.false_eq_true, pickA, cond_true, cond_false, b_eql, h1, hlnv, h2]
              refine .cond (t := true) rfl (.region [] (by decide) ?_)
              simp only [EOps, EDf, isRd, gdA, callOf, isPanic, nextOf, altA, evalOp, St.ev, Av.get, St.put, argT, ofV, thenQ, Nat.reduceEqDiff, ↓reduceIte, Bool.and_self, List.map_cons, List.map_nil, List.nil_append, List.append_nil, List.getElem?_cons_zero, List.getElem?_cons_succ, List.getElem?_toArray, Option.map_some, Option.bind_some, decide_true, decide_false, beq_false, beq_true, Bool.not_true, Bool.not_false, Bool.false_eq_true, pickA, cond_true, cond_false, x2, if_true, bs26one]
              refine ⟨by trivial, ?_, by trivial, by trivial⟩
              simp [holdsT, Av.get, encV]
            | false =>
              refine .seq (.region [.pure (.ret (.vsl 0 false (g.map .str)))] (by decide) ?_)
              cases b3 <;> subst hlv <;> simp only [EOps, EDf, isRd, gdA, callOf, isPanic, nextOf, altA, evalOp, St.ev, Av.get, St.put, argT, ofV, thenQ, Nat.reduceEqDiff, ↓reduceIte, Bool.and_self, List.map_cons, List.map_nil, List.nil_append, List.append_nil, List.getElem?_cons_zero, List.getElem?_cons_succ, List.getElem?_toArray, Option.map_some, Option.bind_some, decide_true, decide_false, beq_false, beq_true, Bool.not_true, Bool.not_false, Bool.false_eq_true, pickA, cond_true, cond_false, b_eql, h1, hlnv, h2, hl1, x1, if_true, ln26, b_gtr, h3]
              · refine ⟨p1, .cond (t := false) rfl (.skip ?_)⟩
                refine ⟨by trivial, ?_, by trivial, by trivial⟩
                simp [holdsT, Av.get]
              · refine ⟨p1, .cond (t := true) rfl (.region [] (by decide) ?_)⟩
                simp only [EOps, EDf, isRd, gdA, callOf, isPanic, nextOf, altA, evalOp, St.ev, Av.get, St.put, argT, ofV, thenQ, Nat.reduceEqDiff, ↓reduceIte, Bool.and_self, List.map_cons, List.map_nil, List.nil_append, List.append_nil, List.getElem?_cons_zero, List.getElem?_cons_succ, List.getElem?_toArray, Option.map_some, Option.bind_some, decide_true, decide_false, beq_false, beq_true, Bool.not_true, Bool.not_false, Bool.false_eq_true, pickA, cond_true, cond_false, x2, if_true, bs26one]
                refine ⟨by trivial, ?_, by trivial, by trivial⟩
                simp [holdsT, Av.get, encV]
      · intro _
        clear hlv hld hve hfv hgd hv
        refine .seq (.seq (.region [] (by decide) ?_))
        generalize h4 : ((V.2.length : Int) == 0) = b4 at hls
        cases b4 with
        | true =>
          simp only [EOps, EDf, isRd, gdA, callOf, isPanic, nextOf, altA, evalOp, St.ev, Av.get, St.put, argT, ofV, thenQ, Nat.reduceEqDiff, ↓reduceIte, Bool.and_self, List.map_cons, List.map_nil, List.nil_append, List.append_nil, List.getElem?_cons_zero, List.getElem?_cons_succ, List.getElem?_toArray, Option.map_some, Option.bind_some, decide_true, decide_false, beq_false, beq_true, Bool.not_true, Bool.not_false, Bool.false_eq_true, pickA, cond_true, cond_false, hlnv, b_eql, h4]
          refine .cond (t := true) rfl (.exit ?_)
          simp only [if_true] at hls
          refine ⟨trivial, rfl, [], [(11, .int .i64 (i : Int)), (7, .vsl 3 false (O.map encE)), (0, .vsl 3 x (e.map encE)), (2, .bool sn), (4, .ptr 0 0)], ?_, ?_, subH_one rfl (encV_hlts _ _)⟩
          · simp only [frzT, Av.get, Nat.reduceEqDiff, ↓reduceIte, true_or, and_true]
          · simp only [subT, Av.get, Nat.reduceEqDiff, ↓reduceIte, Le_rfl, nat0, nat1, and_self, hls]
        | false =>
          simp only [EOps, EDf, isRd, gdA, callOf, isPanic, nextOf, altA, evalOp, St.ev, Av.get, St.put, argT, ofV, thenQ, Nat.reduceEqDiff, ↓reduceIte, Bool.and_self, List.map_cons, List.map_nil, List.nil_append, List.append_nil, List.getElem?_cons_zero, List.getElem?_cons_succ, List.getElem?_toArray, Option.map_some, Option.bind_some, decide_true, decide_false, beq_false, beq_true, Bool.not_true, Bool.not_false, Bool.false_eq_true, pickA, cond_true, cond_false, hlnv, b_eql, h4]
          refine .cond (t := false) rfl (.skip ?_)
          simp only [Bool.false_eq_true, if_false] at hls
          refine .seq (.region [] (by decide) ?_)
          simp only [EOps, EDf, isRd, gdA, callOf, isPanic, nextOf, altA, evalOp, St.ev, Av.get, St.put, argT, ofV, thenQ, Nat.reduceEqDiff, ↓reduceIte, Bool.and_self, List.map_cons, List.map_nil, List.nil_append, List.append_nil, List.getElem?_cons_zero, List.getElem?_cons_succ, List.getElem?_toArray, Option.map_some, Option.bind_some, decide_true, decide_false, beq_false, beq_true, Bool.not_true, Bool.not_false, Bool.false_eq_true, pickA, cond_true, cond_false]
          refine .seqP (x := Code.block 6 _) True [(13, .int .i64 (kIn m O : Nat)), (12, encV V), (11, .int .i64 (i : Int)), (7, .vsl 3 false (O.map encE)), (0, .vsl 3 x (e.map encE)), (2, .bool sn), (4, .ptr 0 0)] [.cells (c.map encV) false] ?_ ?_
          · refine .block ?_
            refine .loopG (X := Nat) (fun k => [(13, .int .i64 (k : Int)), (12, encV V), (11, .int .i64 (i : Int)), (7, .vsl 3 false (O.map encE)), (0, .vsl 3 x (e.map encE)), (2, .bool sn), (4, .ptr 0 0)]) (fun _ => [.cells (c.map encV) false]) (fun k => kIn m O = k + kIn m (O.drop k)) (fun k => O.length - k) 0 (fun _ => Nat.zero_le _) rfl (by simp) ?_ ?_ (subH_one rfl (encV_hlts _ _)) ?_
            · simp only [subT, Av.get, Nat.reduceEqDiff, ↓reduceIte, Le_rfl, nat0, nat1, and_self]
            · simp only [hltT, AV.hlt, encE_hlts, hf_hlt (show (encV V).hf = true by simp only [encV, AV.hf]; exact strs_hfs _), Bool.true_and, Bool.and_true]
              rfl
            · intro k hk
              refine .seq (.seq ?_)
              have hl0 : ∀ H o, lend H [] o = some [] := by intro H o; simp [lend, AV.hfs]
              by_cases hkl : k < O.length
              · obtain ⟨a, ha, hda⟩ := drop_at hkl
                rw [hda, kIn_cons] at hk
                refine .drawf2 [.pure (.ret (.vsl 0 true (attrNames.map .str)))] mixed (by kernel_rfl) (by kernel_rfl) (by kernel_rfl) ?_
                have hkd : decide ((k : Int) < (O.length : Int)) = true := by rw [dlt]; exact decide_eq_true hkl
                generalize h5 : Op.bytesLess a.1 m = b5 at hk
                cases b5 <;> simp only [EOps, EDf, isRd, gdA, callOf, isPanic, nextOf, altA, evalOp, St.ev, Av.get, St.put, argT, ofV, thenQ, Nat.reduceEqDiff, ↓reduceIte, Bool.and_self, List.map_cons, List.map_nil, List.nil_append, List.append_nil, List.getElem?_cons_zero, List.getElem?_cons_succ, List.getElem?_toArray, Option.map_some, Option.bind_some, decide_true, decide_false, beq_false, beq_true, Bool.not_true, Bool.not_false, Bool.false_eq_true, pickA, cond_true, cond_false, ln22, b_lss, hkd, ia22 _ _ _ _ ha, faE0, ldE0, hl0, ia26 _ _ _ _ hm, ld9v, s_lss, h5]
                · refine ⟨names22, .cond (t := false) rfl (.exit ?_)⟩
                  simp only [blockQ, if_true, thenQ]
                  simp only [Bool.false_eq_true, if_false, Nat.add_zero] at hk
                  refine ⟨trivial, ?_, by trivial, by trivial⟩
                  rw [hk]
                  simp [holdsT, Av.get]
                · refine ⟨names22, .cond (t := true) rfl (.skip ?_)⟩
                  simp only [if_true] at hk
                  simp only [thenQ]
                  refine .block (.region [] (by decide) ?_)
                  have hadd : evBin Tryz.prog .add 3 (.int .i64 (k : Int)) (.int .i64 1) = some (.int .i64 ((k + 1 : Nat) : Int)) := by
                    rw [b_add64 _ _ (by omega)]; simp
                  simp only [EOps, EDf, isRd, gdA, callOf, isPanic, nextOf, altA, evalOp, St.ev, Av.get, St.put, argT, ofV, thenQ, Nat.reduceEqDiff, ↓reduceIte, Bool.and_self, List.map_cons, List.map_nil, List.nil_append, List.append_nil, List.getElem?_cons_zero, List.getElem?_cons_succ, List.getElem?_toArray, Option.map_some, Option.bind_some, decide_true, decide_false, beq_false, beq_true, Bool.not_true, Bool.not_false, Bool.false_eq_true, pickA, cond_true, cond_false, hadd, blockQ]
                  refine ⟨k + 1, by omega, by omega, ?_, ?_, subH_one rfl (encV_hlts _ _), by trivial⟩
                  · simp only [subT, Av.get, Nat.reduceEqDiff, ↓reduceIte, Le_rfl, nat0, nat1, and_self]
                  · simp only [hltT, AV.hlt, encE_hlts, hf_hlt (show (encV V).hf = true by simp only [encV, AV.hf]; exact strs_hfs _), Bool.true_and, Bool.and_true]
                    rfl
              · rw [List.drop_eq_nil_of_le (by omega)] at hk
                have hk' : kIn m O = k := by rw [hk]; rfl
                refine .drawf2 [] mixed (by kernel_rfl) (by kernel_rfl) (by kernel_rfl) ?_
                have hkd : decide ((k : Int) < (O.length : Int)) = false := by rw [dlt]; exact decide_eq_false hkl
                simp only [EOps, EDf, isRd, gdA, callOf, isPanic, nextOf, altA, evalOp, St.ev, Av.get, St.put, argT, ofV, thenQ, Nat.reduceEqDiff, ↓reduceIte, Bool.and_self, List.map_cons, List.map_nil, List.nil_append, List.append_nil, List.getElem?_cons_zero, List.getElem?_cons_succ, List.getElem?_toArray, Option.map_some, Option.bind_some, decide_true, decide_false, beq_false, beq_true, Bool.not_true, Bool.not_false, Bool.false_eq_true, pickA, cond_true, cond_false, ln22, b_lss, hkd]
                refine .cond (t := false) rfl (.exit ?_)
                simp only [blockQ, if_true, thenQ]
                refine ⟨trivial, ?_, by trivial, by trivial⟩
                rw [hk']
                simp [holdsT, Av.get]
          · intro _
            have hk := kIn_le m O
            unfold insA at hls
            generalize kIn m O = k at hk hls ⊢
            have hb : evBuild Tryz.prog 53 [(0, .str m), (1, encV V)] = some (encE (m, V.1, V.2)) := bd53 m (encV V) rfl rfl
            have hix : idx (.int .i64 (k : Int)) = some k := by simp [idx]
            have hs1 : evSlice Tryz.prog 22 (.vsl 3 false (O.map encE)) none (some (.int .i64 (k : Int))) none = some (.vsl 3 false ((O.take k).map encE)) := by
              simp [evSlice, Tryz.underlying22, tz53, bnds, hix, hk, List.map_take]
            have hs2 : evSlice Tryz.prog 22 (.vsl 3 false (O.map encE)) (some (.int .i64 (k : Int))) none none = some (.vsl 3 false ((O.drop k).map encE)) := by
              simp [evSlice, Tryz.underlying22, tz53, bnds, hix, hk, esz, List.map_drop]
              rw [List.take_of_length_le]; simp
            have htk : (O.take k).length ≤ O.length := by simp; omega
            have hdk : (O.drop k).length ≤ O.length := by simp
            obtain ⟨v1, M1, ha1, hl1, hb1, hlo1, hm1⟩ := slIn_catN (wd := 3) (bytes := 40) Tryz.underlying22 ap53 encE (fun _ => rfl) (fun _ => rfl) (by decide) (M := [.cells (c.map encV) false]) (L := []) (v := .vsl 0 true []) 1 (.inl ⟨rfl, _, rfl⟩) trivial (Nat.le_refl _) (newsA_vsl (wd := 3) false (O.take k) _) (by simp only [List.length_nil]; omega)
            rw [List.nil_append] at hl1
            obtain ⟨v2, M2, ha2, hl2, hb2, hlo2, hm2⟩ := slIn_catN (wd := 3) (bytes := 40) Tryz.underlying22 ap53 encE (fun _ => rfl) (fun _ => rfl) (by decide) 1 hl1 hb1 hlo1 (newsA_vsl (wd := 3) true [(m, V.1, V.2)] _) (by simp only [List.length_cons, List.length_nil]; omega)
            obtain ⟨v3, M3, ha3, hl3, hb3, hlo3, hm3⟩ := slIn_catN (wd := 3) (bytes := 40) Tryz.underlying22 ap53 encE (fun _ => rfl) (fun _ => rfl) (by decide) 1 hl2 hb2 hlo2 (newsA_vsl (wd := 3) false (O.drop k) _) (by simp only [List.length_append, List.length_cons, List.length_nil]; omega)
            rw [← hls] at hl3
            simp only [List.map_cons, List.map_nil] at ha2
            have hM3 : M3[0]? = some (.cells (c.map encV) false) := by rw [hm3 0 (by decide), hm2 0 (by decide), hm1 0 (by decide)]; rfl
            refine .drawM2 [.pure (.ret (.vsl 0 true (attrNames.map .str)))] mixed (by kernel_rfl) (by kernel_rfl) (by kernel_rfl) ?_
            have hh0 : AV.hfs [] = true := rfl
            simp only [EOps, EDf, isRd, gdA, callOf, isPanic, nextOf, altA, evalOp, St.ev, Av.get, St.put, argT, ofV, thenQ, Nat.reduceEqDiff, ↓reduceIte, Bool.and_self, List.map_cons, List.map_nil, List.nil_append, List.append_nil, List.getElem?_cons_zero, List.getElem?_cons_succ, List.getElem?_toArray, Option.map_some, Option.bind_some, decide_true, decide_false, beq_false, beq_true, Bool.not_true, Bool.not_false, Bool.false_eq_true, pickA, cond_true, cond_false, EDm, isApp, Option.map_none, hs1, hs2, ha1, ha2, ha3, ia26 _ _ _ _ hm, ld9v, hb, bs22, Option.some.injEq, Prod.mk.injEq, and_true, forall_const, exists_eq_left', hh0, true_and]
            refine ⟨names22, ?_⟩
            obtain ⟨S, hS, u, hu, hul⟩ := slIn_frz (n := 2) 1 (by decide) encE_agg encE_chf hl3 hb3
            refine ⟨rfl, S, [(11, .int .i64 (i : Int)), (7, .vsl 3 false (O'.map encE)), (0, .vsl 3 x (e.map encE)), (2, .bool sn), (4, .ptr 0 0)], ?_, ?_, subH_one (by rw [dropS_at _ _ _ _ (hS 0 (by decide))]; exact hM3) (encV_hlts _ _)⟩
            · simp only [frzT, Av.get, Nat.reduceEqDiff, ↓reduceIte, true_or, true_and, and_true]
              exact .inr ⟨u, hu, hul⟩
            · simp only [subT, Av.get, Nat.reduceEqDiff, ↓reduceIte, Le_rfl, nat0, nat1, and_self]
    · intro _
      simp only [EOps, EDf, isRd, gdA, callOf, isPanic, nextOf, altA, evalOp, St.ev, Av.get, St.put, argT, ofV, thenQ, Nat.reduceEqDiff, ↓reduceIte, Bool.and_self, List.map_cons, List.map_nil, List.nil_append, List.append_nil, List.getElem?_cons_zero, List.getElem?_cons_succ, List.getElem?_toArray, Option.map_some, Option.bind_some, decide_true, decide_false, beq_false, beq_true, Bool.not_true, Bool.not_false, Bool.false_eq_true, pickA, cond_true, cond_false, blockQ]
      refine .seq (.region [] (by decide) ?_)
      simp only [EOps, EDf, isRd, gdA, callOf, isPanic, nextOf, altA, evalOp, St.ev, Av.get, St.put, argT, ofV, thenQ, Nat.reduceEqDiff, ↓reduceIte, Bool.and_self, List.map_cons, List.map_nil, List.nil_append, List.append_nil, List.getElem?_cons_zero, List.getElem?_cons_succ, List.getElem?_toArray, Option.map_some, Option.bind_some, decide_true, decide_false, beq_false, beq_true, Bool.not_true, Bool.not_false, Bool.false_eq_true, pickA, cond_true, cond_false]
      exact .ret (retT 6 rfl rfl rfl (by simp only [AV.hf]; exact encE_hfs _) (.refl _))
end Go.Proofs.YtmeijkidjifagaaGreat
