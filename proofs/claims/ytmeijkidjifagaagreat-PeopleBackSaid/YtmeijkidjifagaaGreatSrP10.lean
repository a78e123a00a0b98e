/- Contracts of functions that the statements of this seat reach: under the conditions named at each theorem. -/
import Derived.Test.YtmeijkidjifagaaGreatSrP9
import Derived.Test.YtmeijkidjifagaaGreatSvP6
namespace Go.Proofs.YtmeijkidjifagaaGreat
set_option linter.unusedVariables false
set_option linter.unusedSimpArgs false
open Go Go.Av

theorem tz116 : tsz Tryz.prog 68 = some (esz 4) := by kernel_rfl
theorem tg116 : tag Tryz.prog 68 = some (decide (4 ≠ 0)) := by kernel_rfl

theorem idx116 (x : Bool) (es : List AV) (g : FuncId) (fs cs : List AV) (p : AV → Bool) (hs : ∀ v ∈ es, shp 4 v) (hh : AV.hfs es = true ∧ AV.hfs fs = true ∧ AV.hfs cs = true)
    (hp : ∀ v ∈ es, PureFn Tryz.prog g (fs ++ [v] ++ cs) (.ret (.bool (p v)))) : PureFn Tryz.prog 116 [.vsl 4 x es, .func (.func g) fs cs] (.ret (.int .i64 (fI p 0 es))) := by
  refine PureFn.fit fun hfit => ?_
  have hb : es.length ≤ maxLen' := hfit (.vsl 4 x es) (by simp)
  refine PureFn.of Tryz.func116 rfl (enters_call enters Tryz.func116 rfl) (by simp [Tryz.ntmps116]) ?_
  show W Tryz.prog 19 _ none _ _ _
  refine .seq (.region [] (by decide) ?_)
  simp only [EOps, EDf, isRd, gdA, callOf, isPanic, nextOf, altA, evalOp, St.ev, Av.get, St.put, argT, ofV, thenQ, Nat.reduceEqDiff, ↓reduceIte, lend, AV.hfs, AV.hf, Bool.and_self, List.map_cons, List.map_nil, List.nil_append, List.append_nil, List.getElem?_cons_zero, List.getElem?_cons_succ, List.getElem?_toArray, Option.map_some, Option.bind_some, decide_true, decide_false, beq_false, beq_true, Bool.not_true, Bool.not_false, Bool.false_eq_true, pickA, cond_true, cond_false]
  have hln : ∀ H, evLen Tryz.prog 43 (.vsl 4 x es) H = some (.int .i64 es.length) := by intro H; simp [evLen, Tryz.underlying43]
  refine .seq (.seq (.region [] (by decide) ?_))
  simp only [EOps, EDf, isRd, gdA, callOf, isPanic, nextOf, altA, evalOp, St.ev, Av.get, St.put, argT, ofV, thenQ, Nat.reduceEqDiff, ↓reduceIte, lend, AV.hfs, AV.hf, Bool.and_self, List.map_cons, List.map_nil, List.nil_append, List.append_nil, List.getElem?_cons_zero, List.getElem?_cons_succ, List.getElem?_toArray, Option.map_some, Option.bind_some, decide_true, decide_false, beq_false, beq_true, Bool.not_true, Bool.not_false, Bool.false_eq_true, pickA, cond_true, cond_false, hln]
  refine .block ?_
  refine .loopT (X := Nat) (fun i => [(8, .int .i64 (i : Int)), (7, .int .i64 es.length), (1, .func (.func g) fs cs), (0, .vsl 4 x es)]) (fun i => []) (fun i => i ≤ es.length ∧ fI p i (es.drop i) = fI p 0 es) (fun i => es.length - i) 0 ⟨Nat.zero_le _, rfl⟩
    (by simp [holdsT, Av.get]) rfl ?_
  rintro i ⟨hi, hall⟩
  refine .seq (.region [] (by decide) ?_)
  simp only [EOps, EDf, isRd, gdA, callOf, isPanic, nextOf, altA, evalOp, St.ev, Av.get, St.put, argT, ofV, thenQ, Nat.reduceEqDiff, ↓reduceIte, lend, AV.hfs, AV.hf, Bool.and_self, List.map_cons, List.map_nil, List.nil_append, List.append_nil, List.getElem?_cons_zero, List.getElem?_cons_succ, List.getElem?_toArray, Option.map_some, Option.bind_some, decide_true, decide_false, beq_false, beq_true, Bool.not_true, Bool.not_false, Bool.false_eq_true, pickA, cond_true, cond_false, b_lss]
  by_cases h : i < es.length
  · obtain ⟨v, hv⟩ : ∃ v, es[i]? = some v := ⟨es[i], List.getElem?_eq_getElem h⟩
    have hmem : v ∈ es := List.mem_of_getElem? hv
    have hdrop : es.drop i = v :: es.drop (i + 1) := by
      rw [List.drop_eq_getElem_cons h]; rw [List.getElem?_eq_getElem h] at hv; cases hv; rfl
    rw [hdrop, fI] at hall
    have hia : ∀ H, evIndexAddr Tryz.prog 43 (.vsl 4 x es) (.int .i64 (i : Int)) H = some (.vptr v.cells) := by
      intro H
      have := shp_len (hs v hmem)
      simp [evIndexAddr, idx_nat, Tryz.underlying43, tz116, hv, this]
    have hld : ∀ H, evLoad Tryz.prog 68 (.vptr v.cells) H = some v := fun H => shp_ld tz116 tg116 (hs v hmem) H
    have hhf : AV.hfs (fs ++ ([v] ++ cs)) = true := by
      have h1 : AV.hf v = true := by have := hh.1; rw [hfs_all] at this; exact List.all_eq_true.1 this v hmem
      have h2 := hh.2.1; have h3 := hh.2.2
      rw [hfs_all] at h2 h3 ⊢
      simp [List.all_append, h1, h2, h3]
    refine .seq (.cond (t := true) (by simp [St.ev, Av.get]; omega) (.skip ?_))
    simp only [EOps, EDf, isRd, gdA, callOf, isPanic, nextOf, altA, evalOp, St.ev, Av.get, St.put, argT, ofV, thenQ, Nat.reduceEqDiff, ↓reduceIte, lend, AV.hfs, AV.hf, Bool.and_self, List.map_cons, List.map_nil, List.nil_append, List.append_nil, List.getElem?_cons_zero, List.getElem?_cons_succ, List.getElem?_toArray, Option.map_some, Option.bind_some, decide_true, decide_false, beq_false, beq_true, Bool.not_true, Bool.not_false, Bool.false_eq_true, pickA, cond_true, cond_false]
    refine .seqP (p v = false) [(8, .int .i64 (i : Int)), (7, .int .i64 es.length), (1, .func (.func g) fs cs), (0, .vsl 4 x es)] [] (x := Code.block 1 _) ?_ ?_
    · refine .block (.seq (.region [] (by decide) ?_))
      simp only [EOps, EDf, isRd, gdA, callOf, isPanic, nextOf, altA, evalOp, St.ev, Av.get, St.put, argT, ofV, thenQ, Nat.reduceEqDiff, ↓reduceIte, lend, AV.hfs, AV.hf, Bool.and_self, List.map_cons, List.map_nil, List.nil_append, List.append_nil, List.getElem?_cons_zero, List.getElem?_cons_succ, List.getElem?_toArray, Option.map_some, Option.bind_some, decide_true, decide_false, beq_false, beq_true, Bool.not_true, Bool.not_false, Bool.false_eq_true, pickA, cond_true, cond_false]
      refine .seq (.region [.pure (.ret (.bool (p v)))] (by decide) ?_)
      simp only [EOps, EDf, isRd, gdA, callOf, isPanic, nextOf, altA, evalOp, St.ev, Av.get, St.put, argT, ofV, thenQ, Nat.reduceEqDiff, ↓reduceIte, lend, AV.hfs, AV.hf, Bool.and_self, List.map_cons, List.map_nil, List.nil_append, List.append_nil, List.getElem?_cons_zero, List.getElem?_cons_succ, List.getElem?_toArray, Option.map_some, Option.bind_some, decide_true, decide_false, beq_false, beq_true, Bool.not_true, Bool.not_false, Bool.false_eq_true, pickA, cond_true, cond_false, hia, hld, List.append_assoc, hhf, if_true]
      refine ⟨by have := hp v hmem; rw [List.append_assoc] at this; exact this, ?_⟩
      cases hpv : p v with
      | true =>
        refine .cond (t := true) rfl (.seq (.region [] (by decide) ?_))
        simp only [EOps, EDf, isRd, gdA, callOf, isPanic, nextOf, altA, evalOp, St.ev, Av.get, St.put, argT, ofV, thenQ, Nat.reduceEqDiff, ↓reduceIte, lend, AV.hfs, AV.hf, Bool.and_self, List.map_cons, List.map_nil, List.nil_append, List.append_nil, List.getElem?_cons_zero, List.getElem?_cons_succ, List.getElem?_toArray, Option.map_some, Option.bind_some, decide_true, decide_false, beq_false, beq_true, Bool.not_true, Bool.not_false, Bool.false_eq_true, pickA, cond_true, cond_false]
        refine .ret ?_
        rw [if_pos hpv] at hall
        rw [← hall]
        exact ⟨_, rfl, _, rfl, .refl _⟩
      | false =>
        refine .cond (t := false) rfl (.skip ?_)
        refine ⟨rfl, ?_, rfl, rfl⟩
        simp [holdsT, Av.get]
    · intro hgood
      rw [hgood] at hall
      simp only [Bool.false_eq_true, if_false] at hall
      refine .region [] (by decide) ?_
      have hadd : evBin Tryz.prog .add 3 (.int .i64 (i : Int)) (.int .i64 1) = some (.int .i64 ((i + 1 : Nat) : Int)) := by
        rw [b_add64 _ _ (by simp only [maxLen'] at hb; omega)]; simp
      simp only [EOps, EDf, isRd, gdA, callOf, isPanic, nextOf, altA, evalOp, St.ev, Av.get, St.put, argT, ofV, thenQ, Nat.reduceEqDiff, ↓reduceIte, lend, AV.hfs, AV.hf, Bool.and_self, List.map_cons, List.map_nil, List.nil_append, List.append_nil, List.getElem?_cons_zero, List.getElem?_cons_succ, List.getElem?_toArray, Option.map_some, Option.bind_some, decide_true, decide_false, beq_false, beq_true, Bool.not_true, Bool.not_false, Bool.false_eq_true, pickA, cond_true, cond_false, hadd]
      refine ⟨i + 1, ⟨by omega, hall⟩, by omega, ?_, trivial, trivial⟩
      simp [holdsT, Av.get]
  · have hi' : i = es.length := by omega
    subst hi'
    refine .seq (.cond (t := false) (by simp [St.ev, Av.get]) (.exit ?_))
    simp only [EOps, EDf, isRd, gdA, callOf, isPanic, nextOf, altA, evalOp, St.ev, Av.get, St.put, argT, ofV, thenQ, Nat.reduceEqDiff, ↓reduceIte, lend, AV.hfs, AV.hf, Bool.and_self, List.map_cons, List.map_nil, List.nil_append, List.append_nil, List.getElem?_cons_zero, List.getElem?_cons_succ, List.getElem?_toArray, Option.map_some, Option.bind_some, decide_true, decide_false, beq_false, beq_true, Bool.not_true, Bool.not_false, Bool.false_eq_true, pickA, cond_true, cond_false, blockQ]
    refine .seq (.region [] (by decide) ?_)
    have ht : fI p 0 es = -1 := by rw [← hall, List.drop_length]; rfl
    rw [ht]
    simp only [EOps, EDf, isRd, gdA, callOf, isPanic, nextOf, altA, evalOp, St.ev, Av.get, St.put, argT, ofV, thenQ, Nat.reduceEqDiff, ↓reduceIte, lend, AV.hfs, AV.hf, Bool.and_self, List.map_cons, List.map_nil, List.nil_append, List.append_nil, List.getElem?_cons_zero, List.getElem?_cons_succ, List.getElem?_toArray, Option.map_some, Option.bind_some, decide_true, decide_false, beq_false, beq_true, Bool.not_true, Bool.not_false, Bool.false_eq_true, pickA, cond_true, cond_false]
    exact .ret ⟨_, rfl, _, rfl, .refl _⟩

theorem cf103 (x : Bool) (es : List AV) (g : FuncId) (fs cs : List AV) (p : AV → Bool) (hs : ∀ v ∈ es, shp 4 v) (hh : AV.hfs es = true ∧ AV.hfs fs = true ∧ AV.hfs cs = true)
    (hp : ∀ v ∈ es, PureFn Tryz.prog g (fs ++ [v] ++ cs) (.ret (.bool (p v)))) : PureFn Tryz.prog 103 [.vsl 4 x es, .func (.func g) fs cs] (.ret (.bool (es.any p))) := by
  refine PureFn.of Tryz.func103 rfl (enters_call enters Tryz.func103 rfl) (by simp [Tryz.ntmps103]) ?_
  show W Tryz.prog 9 _ none _ _ _
  refine .seq (.region [] (by decide) ?_)
  simp only [EOps, EDf, isRd, gdA, callOf, isPanic, nextOf, altA, evalOp, St.ev, Av.get, St.put, argT, ofV, thenQ, Nat.reduceEqDiff, ↓reduceIte, lend, AV.hfs, AV.hf, Bool.and_self, List.map_cons, List.map_nil, List.nil_append, List.append_nil, List.getElem?_cons_zero, List.getElem?_cons_succ, List.getElem?_toArray, Option.map_some, Option.bind_some, decide_true, decide_false, beq_false, beq_true, Bool.not_true, Bool.not_false, Bool.false_eq_true, pickA, cond_true, cond_false]
  refine .seq (.region [.pure (.ret (.int .i64 (fI p 0 es)))] (by decide) ?_)
  obtain ⟨h1, h2, h3⟩ := hh
  simp only [EOps, EDf, isRd, gdA, callOf, isPanic, nextOf, altA, evalOp, St.ev, Av.get, St.put, argT, ofV, thenQ, Nat.reduceEqDiff, ↓reduceIte, lend, AV.hfs, AV.hf, Bool.and_self, List.map_cons, List.map_nil, List.nil_append, List.append_nil, List.getElem?_cons_zero, List.getElem?_cons_succ, List.getElem?_toArray, Option.map_some, Option.bind_some, decide_true, decide_false, beq_false, beq_true, Bool.not_true, Bool.not_false, Bool.false_eq_true, pickA, cond_true, cond_false, h1, h2, h3, if_true, b_geq, fI_any]
  refine ⟨idx116 x es g fs cs p hs ⟨h1, h2, h3⟩ hp, ?_⟩
  exact .ret ⟨_, rfl, _, rfl, .refl _⟩

theorem clo104 (v : AV) (hsh : shp 4 v) (g : FuncId) (fs cs : List AV) (p : Bool) (hv : AV.hf v = true) (h1 : AV.hfs fs = true) (h2 : AV.hfs cs = true) (hp : PureFn Tryz.prog g (fs ++ [v] ++ cs) (.ret (.bool p))) :
    PureFn Tryz.prog 104 [v, .vptr [.func (.func g) fs cs]] (.ret (.bool !p)) := by
  skip
  refine PureFn.of Tryz.func104 rfl (enters_call enters Tryz.func104 rfl) (by simp [Tryz.ntmps104]) ?_
  show W Tryz.prog 8 _ none _ _ _
  have hz : tsz Tryz.prog 69 = some 1 := by kernel_rfl
  have hg : tag Tryz.prog 69 = some false := by kernel_rfl
  have hld : ∀ H, evLoad Tryz.prog 69 (.vptr [.func (.func g) fs cs]) H = some (.func (.func g) fs cs) := by intro H; simp [evLoad, hz, hg, ldA]
  have hhf : AV.hfs (fs ++ ([v] ++ cs)) = true := by
    rw [hfs_all] at h1 h2 ⊢
    simp [List.all_append, h1, h2, hv]
  obtain ⟨l, rfl, hl'⟩ := hsh
  have hl : l.length = 3 := hl'
  have hz2 : tsz Tryz.prog 68 = some 3 := by kernel_rfl
  have hg2 : tag Tryz.prog 68 = some true := by kernel_rfl
  have hld2 : evLoad Tryz.prog 68 (.ptr 0 0) [.cells l false] = some (.agg l) := by
    simp [evLoad, hz2, hg2, ldA, hl]
    exact List.take_of_length_le (by rw [hl]; exact Nat.le_refl 3)
  refine .seq (.region [] (by decide) ?_)
  simp only [EOps, EDf, isRd, gdA, callOf, isPanic, nextOf, altA, evalOp, St.ev, Av.get, St.put, argT, ofV, thenQ, Nat.reduceEqDiff, ↓reduceIte, lend, AV.hfs, AV.hf, Bool.and_self, List.map_cons, List.map_nil, List.nil_append, List.append_nil, List.getElem?_cons_zero, List.getElem?_cons_succ, List.getElem?_toArray, Option.map_some, Option.bind_some, decide_true, decide_false, beq_false, beq_true, Bool.not_true, Bool.not_false, Bool.false_eq_true, pickA, cond_true, cond_false, AV.told, AV.cells, List.length_nil, if_true]
  refine .seq (.region [.pure (.ret (.bool p))] (by decide) ?_)
  simp only [EOps, EDf, isRd, gdA, callOf, isPanic, nextOf, altA, evalOp, St.ev, Av.get, St.put, argT, ofV, thenQ, Nat.reduceEqDiff, ↓reduceIte, lend, AV.hfs, AV.hf, Bool.and_self, List.map_cons, List.map_nil, List.nil_append, List.append_nil, List.getElem?_cons_zero, List.getElem?_cons_succ, List.getElem?_toArray, Option.map_some, Option.bind_some, decide_true, decide_false, beq_false, beq_true, Bool.not_true, Bool.not_false, Bool.false_eq_true, pickA, cond_true, cond_false, hld, hld2, List.append_assoc, hhf, if_true, u_not]
  refine ⟨by rw [List.append_assoc] at hp; exact hp, ?_⟩
  exact .ret ⟨_, rfl, _, rfl, .refl _⟩

theorem each87 (x : Bool) (es : List AV) (g : FuncId) (fs cs : List AV) (p : AV → Bool) (hs : ∀ v ∈ es, shp 4 v) (hh : AV.hfs es = true ∧ AV.hfs fs = true ∧ AV.hfs cs = true)
    (hp : ∀ v ∈ es, PureFn Tryz.prog g (fs ++ [v] ++ cs) (.ret (.bool (p v)))) : PureFn Tryz.prog 87 [.vsl 4 x es, .func (.func g) fs cs] (.ret (.bool (es.all p))) := by
  obtain ⟨h0, h1, h2⟩ := hh
  refine PureFn.of Tryz.func87 rfl (enters_call enters Tryz.func87 rfl) (by simp [Tryz.ntmps87]) ?_
  show W Tryz.prog 9 _ none _ _ _
  refine .seq (.region [] (by decide) ?_)
  simp only [EOps, EDf, isRd, gdA, callOf, isPanic, nextOf, altA, evalOp, St.ev, Av.get, St.put, argT, ofV, thenQ, Nat.reduceEqDiff, ↓reduceIte, lend, AV.hfs, AV.hf, Bool.and_self, List.map_cons, List.map_nil, List.nil_append, List.append_nil, List.getElem?_cons_zero, List.getElem?_cons_succ, List.getElem?_toArray, Option.map_some, Option.bind_some, decide_true, decide_false, beq_false, beq_true, Bool.not_true, Bool.not_false, Bool.false_eq_true, pickA, cond_true, cond_false, AV.told, AV.cells, List.length_nil, if_true]
  have hl := lend_each (g := g) (fs := fs) (cs := cs) (es := es) (h := 104) (b := false) (x := x) (wd := 4) (o := es.any fun v => !p v) h0 h1 h2
  refine .seq (.region [.pure (.ret (.bool (es.any fun v => !p v)))] (by decide) ?_)
  simp only [EOps, EDf, isRd, gdA, callOf, isPanic, nextOf, altA, evalOp, St.ev, Av.get, St.put, argT, ofV, thenQ, Nat.reduceEqDiff, ↓reduceIte, Bool.and_self, List.map_cons, List.map_nil, List.nil_append, List.append_nil, List.getElem?_cons_zero, List.getElem?_cons_succ, List.getElem?_toArray, Option.map_some, Option.bind_some, decide_true, decide_false, beq_false, beq_true, Bool.not_true, Bool.not_false, Bool.false_eq_true, pickA, cond_true, cond_false, hl, u_not]
  refine ⟨cf103 x es 104 [] [.vptr [.func (.func g) fs cs]] (fun v => !p v) hs ⟨h0, rfl, by simp [AV.hfs, AV.hf, h1, h2]⟩ (fun v hv => clo104 v (hs v hv) g fs cs (p v) ?_ h1 h2 (hp v hv)), ?_⟩
  · rw [hfs_all] at h0; exact List.all_eq_true.1 h0 v hv
  · refine .ret ⟨_, rfl, _, rfl, ?_⟩
    have : (!es.any fun v => !p v) = es.all p := by
      rw [List.any_eq_not_all_not]; simp
    rw [this]
    exact .refl _

def mayB (m : Mo) : Bool := nameB m.1 && decide ((m.2.2.length : Int) ≤ 16) && m.2.2.all valueB
theorem fld68_0 : fldA Tryz.prog 68 0 = some (0, 1, 66) := by kernel_rfl
theorem fld68_1 : fldA Tryz.prog 68 1 = some (1, 1, 9) := by kernel_rfl
theorem fa68_0 (id : Nat) : evFieldAddr Tryz.prog 68 (.ptr id 0) 0 = some (.ptr id 0) := by simp [evFieldAddr, fld68_0]
theorem fa68_1 (id : Nat) : evFieldAddr Tryz.prog 68 (.ptr id 0) 1 = some (.ptr id 1) := by simp [evFieldAddr, fld68_1]
theorem tz66 : tsz Tryz.prog 66 = some 1 := by kernel_rfl
theorem tg66 : tag Tryz.prog 66 = some false := by kernel_rfl
theorem ld66 (H : List OB) (id : Nat) (m : Mo) (b : Bool) (h : H[id]? = some (.cells (mcell m) b)) : evLoad Tryz.prog 66 (.ptr id 0) H = some (.int .i64 3) := by
  simp [evLoad, tz66, tg66, ldA, h, mcell]

set_option maxRecDepth 100000 in
theorem may88 (m : Mo) : PureFn Tryz.prog 88 [encM m] (.ret (.bool (mayB m))) := by
  refine PureFn.of Tryz.func88 rfl (enters_call enters Tryz.func88 rfl) (by simp [Tryz.ntmps88]) ?_
  show W Tryz.prog 38 _ none _ _ _
  have ht : (encM m).told = true := rfl
  refine .seq (.region [] (by decide) ?_)
  simp only [EOps, EDf, isRd, gdA, callOf, isPanic, nextOf, altA, evalOp, St.ev, Av.get, St.put, argT, ofV, thenQ, Nat.reduceEqDiff, ↓reduceIte, Bool.and_self, List.map_cons, List.map_nil, List.nil_append, List.append_nil, List.getElem?_cons_zero, List.getElem?_cons_succ, List.getElem?_toArray, Option.map_some, Option.bind_some, decide_true, decide_false, beq_false, beq_true, Bool.not_true, Bool.not_false, Bool.false_eq_true, pickA, cond_true, cond_false, ht, if_true, List.length_nil, encM_cells]
  have k0 := ld66 [.cells (mcell m) false] 0 m false rfl
  have k1 : evLoad Tryz.prog 9 (.ptr 0 1) [.cells (mcell m) false] = some (.str m.1) := ld9 _ 0 1 _ _ _ rfl rfl
  have k2 : evLoad Tryz.prog 26 (.ptr 0 2) [.cells (mcell m) false] = some (.vsl 0 m.2.1 (m.2.2.map .str)) := ld26 _ 0 2 _ _ _ rfl rfl
  have p1 := name45 m.1
  have p2 := allV m.2.1 m.2.2
  have d1 : decide ((3 : Int) ≥ 1) = true := rfl
  have d2 : decide ((3 : Int) ≤ 3) = true := rfl
  have d3 : ((3 : Int) != 1) = true := rfl
  unfold mayB
  generalize nameB m.1 = b1 at p1 ⊢
  generalize h2 : decide ((m.2.2.length : Int) ≤ 16) = b2
  generalize m.2.2.all valueB = b3 at p2 ⊢
  have hl1 : ∀ H o, lend H [.str m.1] o = some [.str m.1] := by intro H o; simp [lend, AV.hfs, AV.hf]
  have hl2 : ∀ H o, lend H [.vsl 0 m.2.1 (m.2.2.map .str), .func (.func 48) [] []] o = some [.vsl 0 m.2.1 (m.2.2.map .str), .func (.func 48) [] []] := by intro H o; simp [lend, AV.hfs, AV.hf, strs_hfs]
  cases b1 with
  | false =>
    refine .seq (.region [.pure (.ret (.bool false))] (by decide) ?_)
    simp only [EOps, EDf, isRd, gdA, callOf, isPanic, nextOf, altA, evalOp, St.ev, Av.get, St.put, argT, ofV, thenQ, Nat.reduceEqDiff, ↓reduceIte, Bool.and_self, List.map_cons, List.map_nil, List.nil_append, List.append_nil, List.getElem?_cons_zero, List.getElem?_cons_succ, List.getElem?_toArray, Option.map_some, Option.bind_some, decide_true, decide_false, beq_false, beq_true, Bool.not_true, Bool.not_false, Bool.false_eq_true, pickA, cond_true, cond_false, fa68_0, fa68_1, fa68_2, k0, k1, k2, b_geq, b_leq, b_neq, d1, d2, d3, hl1]
    exact ⟨p1, .ret ⟨_, rfl, _, rfl, .refl _⟩⟩
  | true =>
    cases b2 with
    | false =>
      refine .seq (.region [.pure (.ret (.bool true))] (by decide) ?_)
      simp only [EOps, EDf, isRd, gdA, callOf, isPanic, nextOf, altA, evalOp, St.ev, Av.get, St.put, argT, ofV, thenQ, Nat.reduceEqDiff, ↓reduceIte, Bool.and_self, List.map_cons, List.map_nil, List.nil_append, List.append_nil, List.getElem?_cons_zero, List.getElem?_cons_succ, List.getElem?_toArray, Option.map_some, Option.bind_some, decide_true, decide_false, beq_false, beq_true, Bool.not_true, Bool.not_false, Bool.false_eq_true, pickA, cond_true, cond_false, fa68_0, fa68_1, fa68_2, k0, k1, k2, b_geq, b_leq, b_neq, d1, d2, d3, hl1, ln26, h2]
      exact ⟨p1, .ret ⟨_, rfl, _, rfl, .refl _⟩⟩
    | true =>
      refine .seq (.region [.pure (.ret (.bool true)), .pure (.ret (.bool b3))] (by decide) ?_)
      cases b3 <;> simp only [EOps, EDf, isRd, gdA, callOf, isPanic, nextOf, altA, evalOp, St.ev, Av.get, St.put, argT, ofV, thenQ, Nat.reduceEqDiff, ↓reduceIte, Bool.and_self, List.map_cons, List.map_nil, List.nil_append, List.append_nil, List.getElem?_cons_zero, List.getElem?_cons_succ, List.getElem?_toArray, Option.map_some, Option.bind_some, decide_true, decide_false, beq_false, beq_true, Bool.not_true, Bool.not_false, Bool.false_eq_true, pickA, cond_true, cond_false, fa68_0, fa68_1, fa68_2, k0, k1, k2, b_geq, b_leq, b_neq, d1, d2, d3, hl1, hl2, ln26, h2] <;> exact ⟨p1, p2, .ret ⟨_, rfl, _, rfl, .refl _⟩⟩

def pM : AV → Bool
  | .agg [_, .str n, .vsl _ x l] => mayB (n, x, l.map unstr)
  | _ => false
theorem map_unstr (l : List Bytes) : (l.map AV.str).map unstr = l := by
  rw [List.map_map]
  have : l.map (unstr ∘ AV.str) = l.map id := List.map_congr_left fun v _ => rfl
  rw [this, List.map_id]
theorem pM_enc (m : Mo) : pM (encM m) = mayB m := by
  simp only [pM, encM, map_unstr]
theorem all87m (x : Bool) (l : List Mo) : PureFn Tryz.prog 87 [.vsl 4 x (l.map encM), .func (.func 88) [] []] (.ret (.bool (l.all mayB))) := by
  have := each87 x (l.map encM) 88 [] [] pM (fun v hv => by obtain ⟨b, _, rfl⟩ := List.mem_map.1 hv; exact ⟨_, rfl, rfl⟩) ⟨encM_hfs l, rfl, rfl⟩ (fun v hv => by obtain ⟨b, _, rfl⟩ := List.mem_map.1 hv; rw [pM_enc]; exact may88 b)
  have he : (l.map encM).all pM = l.all mayB := by
    rw [List.all_map]; congr 1; funext m; exact pM_enc m
  rw [he] at this
  exact this
end Go.Proofs.YtmeijkidjifagaaGreat
namespace Go.Proofs.YtmeijkidjifagaaGreat
set_option linter.unusedVariables false
set_option linter.unusedSimpArgs false
open Go Go.Av

theorem nk23 : nilKind Tryz.prog 23 = 1 := by kernel_rfl
theorem bs23z : evBuildSlice Tryz.prog 23 0 [] = some (.vsl 3 true []) := by kernel_rfl
theorem ap23_0 (x : Bool) (H : List OB) : evAppend Tryz.prog 23 23 (.vsl 3 true []) (.vsl 3 x []) H = some (.vsl 3 true [], H) := by
  simp [evAppend, Tryz.underlying23, ap53, newsA, esz]
theorem ap23_n (x : Bool) (e : List Atr) (H : List OB) (h0 : e ≠ []) (hb : e.length ≤ 1000000) :
    evAppend Tryz.prog 23 23 (.vsl 3 true []) (.vsl 3 x (e.map encE)) H = some (.sl H.length 0 e.length 3, H ++ [.cells (flatA encE e) true]) := by
  have hl : e.length * 40 ≤ 2 ^ 47 := by omega
  simp only [evAppend, Tryz.underlying23, ap53, newsA, esz, if_true, List.length_map]
  rw [if_neg (by simpa using h0)]
  simp [hl, flatA]

def clonedE (e : List Atr) (out : Out) (K : List OB) : Prop := (e = [] ∧ (∃ w, out = .ret (.vsl w true [])) ∧ K = []) ∨ (out = .ret (.sl 0 0 e.length 3) ∧ K = [.cells (flatA encE e) true])
theorem flatE_hfs (e : List Atr) : AV.hfs (flatA encE e) = true := by
  rw [hfs_all, flatA, List.all_flatMap, List.all_eq_true]
  intro u hu
  obtain ⟨a, _, rfl⟩ := List.mem_map.1 hu
  rw [← hfs_all]
  show AV.hfs [.str a.1, .vsl 0 a.2.1 (a.2.2.map .str)] = true
  simp [AV.hfs, AV.hf, strs_hfs]

theorem clone110 (x : Bool) (e : List Atr) (hb : e.length ≤ 1000000) : ShFnS Tryz.prog 110 [.vsl 3 x (e.map encE)] [] (clonedE e) := by
  refine ShFnS.of0 Tryz.func110 rfl (enters_call enters Tryz.func110 rfl) (by simp [Tryz.ntmps110]) ?_
  show W Tryz.prog 8 0 none _ _ _
  refine .seq (.region [] (by decide) ?_)
  simp only [EOps, EDf, isRd, gdA, callOf, isPanic, nextOf, altA, evalOp, St.ev, Av.get, St.put, argT, ofV, thenQ, Nat.reduceEqDiff, ↓reduceIte, Bool.and_self, List.map_cons, List.map_nil, List.nil_append, List.append_nil, List.getElem?_cons_zero, List.getElem?_cons_succ, List.getElem?_toArray, Option.map_some, Option.bind_some, decide_true, decide_false, beq_false, beq_true, Bool.not_true, Bool.not_false, Bool.false_eq_true, pickA, cond_true, cond_false, and_self, if_true]
  refine .seq (.seq (.region [] (by decide) ?_))
  cases e with
  | nil =>
    simp only [EOps, EDf, isRd, gdA, callOf, isPanic, nextOf, altA, evalOp, St.ev, Av.get, St.put, argT, ofV, thenQ, Nat.reduceEqDiff, ↓reduceIte, lend, AV.hfs, AV.hf, Bool.and_self, List.map_cons, List.map_nil, List.nil_append, List.append_nil, List.getElem?_cons_zero, List.getElem?_cons_succ, List.getElem?_toArray, Option.map_some, Option.bind_some, decide_true, decide_false, beq_false, beq_true, Bool.not_true, Bool.not_false, Bool.false_eq_true, pickA, cond_true, cond_false, nk23]
    intro b
    refine .cond (t := b) rfl ?_
    cases b with
    | true =>
      refine .seq (.region [] (by decide) ?_)
      simp only [EOps, EDf, isRd, gdA, callOf, isPanic, nextOf, altA, evalOp, St.ev, Av.get, St.put, argT, ofV, thenQ, Nat.reduceEqDiff, ↓reduceIte, lend, AV.hfs, AV.hf, Bool.and_self, List.map_cons, List.map_nil, List.nil_append, List.append_nil, List.getElem?_cons_zero, List.getElem?_cons_succ, List.getElem?_toArray, Option.map_some, Option.bind_some, decide_true, decide_false, beq_false, beq_true, Bool.not_true, Bool.not_false, Bool.false_eq_true, pickA, cond_true, cond_false]
      exact .ret ⟨_, rfl, .inl ⟨_, rfl, rfl, .inl ⟨rfl, ⟨0, rfl⟩, rfl⟩⟩⟩
    | false =>
      refine .skip ?_
      simp only [EOps, EDf, isRd, gdA, callOf, isPanic, nextOf, altA, evalOp, St.ev, Av.get, St.put, argT, ofV, thenQ, Nat.reduceEqDiff, ↓reduceIte, lend, AV.hfs, AV.hf, Bool.and_self, List.map_cons, List.map_nil, List.nil_append, List.append_nil, List.getElem?_cons_zero, List.getElem?_cons_succ, List.getElem?_toArray, Option.map_some, Option.bind_some, decide_true, decide_false, beq_false, beq_true, Bool.not_true, Bool.not_false, Bool.false_eq_true, pickA, cond_true, cond_false]
      refine .seq (.region [] (by decide) ?_)
      simp only [EOps, EDf, isRd, gdA, callOf, isPanic, nextOf, altA, evalOp, St.ev, Av.get, St.put, argT, ofV, thenQ, Nat.reduceEqDiff, ↓reduceIte, lend, AV.hfs, AV.hf, Bool.and_self, List.map_cons, List.map_nil, List.nil_append, List.append_nil, List.getElem?_cons_zero, List.getElem?_cons_succ, List.getElem?_toArray, Option.map_some, Option.bind_some, decide_true, decide_false, beq_false, beq_true, Bool.not_true, Bool.not_false, Bool.false_eq_true, pickA, cond_true, cond_false, bs23z, ap23_0]
      exact .ret ⟨_, rfl, .inl ⟨_, rfl, rfl, .inl ⟨rfl, ⟨3, rfl⟩, rfl⟩⟩⟩
  | cons u l =>
    have ha := ap23_n x (u :: l) [] (by simp) hb
    simp only [List.map_cons, List.length_nil, List.nil_append] at ha
    have e1 : ∀ t, evBin Tryz.prog .eql t (.vsl 3 x (encE u :: l.map encE)) (.vsl 0 true []) = none := by intro t; rfl
    simp only [EOps, EDf, isRd, gdA, callOf, isPanic, nextOf, altA, evalOp, St.ev, Av.get, St.put, argT, ofV, thenQ, Nat.reduceEqDiff, ↓reduceIte, lend, AV.hfs, AV.hf, Bool.and_self, List.map_cons, List.map_nil, List.nil_append, List.append_nil, List.getElem?_cons_zero, List.getElem?_cons_succ, List.getElem?_toArray, Option.map_some, Option.bind_some, decide_true, decide_false, beq_false, beq_true, Bool.not_true, Bool.not_false, Bool.false_eq_true, pickA, cond_true, cond_false, nk23, e1, evNilEq, evNilC]
    refine .cond (t := false) rfl (.skip ?_)
    simp only [EOps, EDf, isRd, gdA, callOf, isPanic, nextOf, altA, evalOp, St.ev, Av.get, St.put, argT, ofV, thenQ, Nat.reduceEqDiff, ↓reduceIte, lend, AV.hfs, AV.hf, Bool.and_self, List.map_cons, List.map_nil, List.nil_append, List.append_nil, List.getElem?_cons_zero, List.getElem?_cons_succ, List.getElem?_toArray, Option.map_some, Option.bind_some, decide_true, decide_false, beq_false, beq_true, Bool.not_true, Bool.not_false, Bool.false_eq_true, pickA, cond_true, cond_false]
    refine .seq (.region [] (by decide) ?_)
    simp only [EOps, EDf, isRd, gdA, callOf, isPanic, nextOf, altA, evalOp, St.ev, Av.get, St.put, argT, ofV, thenQ, Nat.reduceEqDiff, ↓reduceIte, lend, AV.hfs, AV.hf, Bool.and_self, List.map_cons, List.map_nil, List.nil_append, List.append_nil, List.getElem?_cons_zero, List.getElem?_cons_succ, List.getElem?_toArray, Option.map_some, Option.bind_some, decide_true, decide_false, beq_false, beq_true, Bool.not_true, Bool.not_false, Bool.false_eq_true, pickA, cond_true, cond_false, bs23z, ha]
    exact .ret ⟨_, rfl, .inr ⟨0, 0, (u :: l).length, 3, flatA encE (u :: l), true, rfl, rfl, flatE_hfs _, .inr ⟨rfl, rfl⟩⟩⟩

def clr (a : Atr) : Atr := (a.1, false, a.2.2)
def cpE (e : List Atr) (i : Nat) : List Atr := (e.take i).map clr ++ e.drop i
theorem flatE_at : ∀ (L : List Atr) (i : Nat) (a : Atr), L[i]? = some a → (flatA encE L)[i * 2 + 1]? = some (.vsl 0 a.2.1 (a.2.2.map .str))
  | [], i, a, h => by simp at h
  | b :: L, 0, a, h => by simp at h; subst h; rfl
  | b :: L, i + 1, a, h => by
    have ih := flatE_at L i a (by simpa using h)
    have hc : flatA encE (b :: L) = .str b.1 :: .vsl 0 b.2.1 (b.2.2.map .str) :: flatA encE L := rfl
    rw [hc, show (i + 1) * 2 + 1 = (i * 2 + 1) + 1 + 1 by omega, List.getElem?_cons_succ, List.getElem?_cons_succ]
    exact ih
theorem flatE_set : ∀ (L : List Atr) (i : Nat) (a : Atr), L[i]? = some a → (flatA encE L).set (i * 2 + 1) (.vsl 0 false (a.2.2.map .str)) = flatA encE (L.set i (clr a))
  | [], i, a, h => by simp at h
  | b :: L, 0, a, h => by simp at h; subst h; rfl
  | b :: L, i + 1, a, h => by
    have ih := flatE_set L i a (by simpa using h)
    have hc : ∀ b L, flatA encE (b :: L) = .str b.1 :: .vsl 0 b.2.1 (b.2.2.map .str) :: flatA encE L := fun _ _ => rfl
    rw [hc, show (i + 1) * 2 + 1 = (i * 2 + 1) + 1 + 1 by omega, List.set_cons_succ, List.set_cons_succ, ih, List.set_cons_succ, hc]
theorem cpE_len (e : List Atr) (i : Nat) (h : i ≤ e.length) : (cpE e i).length = e.length := by simp [cpE]; omega
theorem cpE_at (e : List Atr) (i : Nat) (a : Atr) (h : e[i]? = some a) : (cpE e i)[i]? = some a ∧ (cpE e i).set i (clr a) = cpE e (i + 1) := by
  have hi : i < e.length := (List.getElem?_eq_some_iff.1 h).1
  have hl : ((e.take i).map clr).length = i := by simp; omega
  obtain ⟨b, hb, hd⟩ := drop_at hi
  rw [h] at hb; cases hb
  unfold cpE
  rw [hd]
  refine ⟨?_, ?_⟩
  · rw [List.getElem?_append_right (by omega), hl, Nat.sub_self]; rfl
  · rw [List.set_append_right _ _ (by omega), hl, Nat.sub_self, List.set_cons_zero, List.take_add_one, h]
    simp

set_option maxRecDepth 100000 in
theorem copy92 (x : Bool) (e : List Atr) (hb : e.length ≤ 1000000) (hbv : ∀ a ∈ e, a.2.2.length ≤ 1000000) : PureFn Tryz.prog 92 [.vsl 3 x (e.map encE)] (.ret (.vsl 3 false ((e.map clr).map encE))) := by
  refine PureFn.of Tryz.func92 rfl (enters_call enters Tryz.func92 rfl) (by simp [Tryz.ntmps92]) ?_
  show W Tryz.prog 23 0 none _ _ _
  refine .seq (.region [] (by decide) ?_)
  simp only [EOps, EDf, isRd, gdA, callOf, isPanic, nextOf, altA, evalOp, St.ev, Av.get, St.put, argT, ofV, thenQ, Nat.reduceEqDiff, ↓reduceIte, Bool.and_self, List.map_cons, List.map_nil, List.nil_append, List.append_nil, List.getElem?_cons_zero, List.getElem?_cons_succ, List.getElem?_toArray, Option.map_some, Option.bind_some, decide_true, decide_false, beq_false, beq_true, Bool.not_true, Bool.not_false, Bool.false_eq_true, pickA, cond_true, cond_false, and_self, if_true]
  refine .seq (.region [.any (clonedE e)] (by decide) ?_)
  simp only [EOps, EDf, isRd, gdA, callOf, isPanic, nextOf, altA, evalOp, St.ev, Av.get, St.put, argT, ofV, thenQ, Nat.reduceEqDiff, ↓reduceIte, Bool.and_self, List.map_cons, List.map_nil, List.nil_append, List.append_nil, List.getElem?_cons_zero, List.getElem?_cons_succ, List.getElem?_toArray, Option.map_some, Option.bind_some, decide_true, decide_false, beq_false, beq_true, Bool.not_true, Bool.not_false, Bool.false_eq_true, pickA, cond_true, cond_false]
  refine ⟨clone110 x e hb, ?_⟩
  rintro out K (⟨rfl, ⟨w, rfl⟩, rfl⟩ | ⟨rfl, rfl⟩)
  · have h0 : ∀ H, evLen Tryz.prog 23 (.vsl w true []) H = some (.int .i64 0) := by intro H; simp [evLen, Tryz.underlying23]
    simp only [thenQ]
    refine .seq (.seq (.region [] (by decide) ?_))
    simp only [EOps, EDf, isRd, gdA, callOf, isPanic, nextOf, altA, evalOp, St.ev, Av.get, St.put, argT, ofV, thenQ, Nat.reduceEqDiff, ↓reduceIte, Bool.and_self, List.map_cons, List.map_nil, List.nil_append, List.append_nil, List.getElem?_cons_zero, List.getElem?_cons_succ, List.getElem?_toArray, Option.map_some, Option.bind_some, decide_true, decide_false, beq_false, beq_true, Bool.not_true, Bool.not_false, Bool.false_eq_true, pickA, cond_true, cond_false, h0]
    refine .block ?_
    refine .forG 8 7 9 21 0 (by decide) rfl rfl rfl rfl rfl rfl rfl rfl rfl (by decide) (by decide) (by decide)
      (fun i => [(0, .vsl w true [])]) (fun _ => rfl) (fun _ => []) (fun _ => Nat.zero_le _) (fun i => True) rfl trivial ?_ ?_ trivial ?_ ?_
    · simp only [subT, Av.get, Nat.reduceEqDiff, ↓reduceIte, Le_rfl, nat0, nat1, and_self]
    · intro i _
      simp only [hltT, AV.hlt, AV.hlts, strs_hlts, Bool.and_self, Bool.and_true, Bool.true_and]
    · intro i hi; omega
    · intro _
      simp only [EOps, EDf, isRd, gdA, callOf, isPanic, nextOf, altA, evalOp, St.ev, Av.get, St.put, argT, ofV, thenQ, Nat.reduceEqDiff, ↓reduceIte, Bool.and_self, List.map_cons, List.map_nil, List.nil_append, List.append_nil, List.getElem?_cons_zero, List.getElem?_cons_succ, List.getElem?_toArray, Option.map_some, Option.bind_some, decide_true, decide_false, beq_false, beq_true, Bool.not_true, Bool.not_false, Bool.false_eq_true, pickA, cond_true, cond_false, blockQ]
      refine .seq (.region [] (by decide) ?_)
      simp only [EOps, EDf, isRd, gdA, callOf, isPanic, nextOf, altA, evalOp, St.ev, Av.get, St.put, argT, ofV, thenQ, Nat.reduceEqDiff, ↓reduceIte, Bool.and_self, List.map_cons, List.map_nil, List.nil_append, List.append_nil, List.getElem?_cons_zero, List.getElem?_cons_succ, List.getElem?_toArray, Option.map_some, Option.bind_some, decide_true, decide_false, beq_false, beq_true, Bool.not_true, Bool.not_false, Bool.false_eq_true, pickA, cond_true, cond_false]
      exact .ret (retT 2 rfl rfl rfl rfl (.nil _ _ _))
  · have h0 : ∀ H, evLen Tryz.prog 23 (.sl 0 0 e.length 3) H = some (.int .i64 e.length) := by intro H; simp [evLen, Tryz.underlying23]
    simp only [thenQ]
    refine .seq (.seq (.region [] (by decide) ?_))
    simp only [EOps, EDf, isRd, gdA, callOf, isPanic, nextOf, altA, evalOp, St.ev, Av.get, St.put, argT, ofV, thenQ, Nat.reduceEqDiff, ↓reduceIte, Bool.and_self, List.map_cons, List.map_nil, List.nil_append, List.append_nil, List.getElem?_cons_zero, List.getElem?_cons_succ, List.getElem?_toArray, Option.map_some, Option.bind_some, decide_true, decide_false, beq_false, beq_true, Bool.not_true, Bool.not_false, Bool.false_eq_true, pickA, cond_true, cond_false, h0]
    refine .block ?_
    have hcp0 : cpE e 0 = e := by simp [cpE]
    have hH : ∀ m i, [OB.cells (flatA encE (cpE e i)) true].all (OB.hlt m) = true := by intro m i; simp [OB.hlt, hfs_hlts (flatE_hfs _)]
    refine .forG 8 7 9 21 e.length (by simp only [maxLen']; omega) rfl rfl rfl rfl rfl rfl rfl rfl rfl (by decide) (by decide) (by decide)
      (fun i => [(0, .sl 0 0 e.length 3)]) (fun _ => rfl) (fun i => [.cells (flatA encE (cpE e i)) true]) (fun _ => Nat.zero_le _) (fun i => True) rfl trivial ?_ ?_ (by rw [hcp0]; exact subH_self (by have := hH 1 0; rwa [hcp0] at this)) ?_ ?_
    · simp only [subT, Av.get, Nat.reduceEqDiff, ↓reduceIte, Le_rfl, nat0, nat1, and_self]
    · intro i _
      simp only [hltT, AV.hlt, AV.hlts, strs_hlts, Bool.and_self, Bool.and_true, Bool.true_and]
      rfl
    · intro i hi _
      obtain ⟨a, ha, _⟩ := drop_at hi
      obtain ⟨hat, hset⟩ := cpE_at e i a ha
      have hfl := flatE_at (cpE e i) i a hat
      have hfs := flatE_set (cpE e i) i a hat
      rw [hset] at hfs
      have hlen : (flatA encE (cpE e i)).length = e.length * 2 := by
        have := flatA_len (wd := 3) (f := encE) (fun _ => rfl) (cpE e i)
        rw [cpE_len e i (by omega)] at this; exact this
      have hia : ∀ H, evIndexAddr Tryz.prog 23 (.sl 0 0 e.length 3) (.int .i64 (i : Int)) H = some (.ptr 0 (i * 2)) := by
        intro H; simp [evIndexAddr, idx_nat, Tryz.underlying23, tz53, esz, hi]
      have hfa : evFieldAddr Tryz.prog 53 (.ptr 0 (i * 2)) 1 = some (.ptr 0 (i * 2 + 1)) := by simp [evFieldAddr, fld53_1]
      have hld : evLoad Tryz.prog 26 (.ptr 0 (i * 2 + 1)) [.cells (flatA encE (cpE e i)) true] = some (.vsl 0 a.2.1 (a.2.2.map .str)) := ld26 _ 0 _ _ _ _ rfl hfl
      have hst : evStore Tryz.prog 26 (.ptr 0 (i * 2 + 1)) (.vsl 0 false (a.2.2.map .str)) [.cells (flatA encE (cpE e i)) true] = some [.cells (flatA encE (cpE e (i + 1))) true] := by
        have h1 : i * 2 + 1 + 1 ≤ (flatA encE (cpE e i)).length := by omega
        simp [evStore, tz26, AV.cells, AV.isC, setC_one, h1, hfs]
      have hl : ∀ H o, lend H [.vsl 0 a.2.1 (a.2.2.map .str)] o = some [.vsl 0 a.2.1 (a.2.2.map .str)] := by intro H o; simp [lend, AV.hfs, AV.hf, strs_hfs]
      refine .block (.seq (.region [] (by decide) ?_))
      simp only [EOps, EDf, isRd, gdA, callOf, isPanic, nextOf, altA, evalOp, St.ev, Av.get, St.put, argT, ofV, thenQ, Nat.reduceEqDiff, ↓reduceIte, Bool.and_self, List.map_cons, List.map_nil, List.nil_append, List.append_nil, List.getElem?_cons_zero, List.getElem?_cons_succ, List.getElem?_toArray, Option.map_some, Option.bind_some, decide_true, decide_false, beq_false, beq_true, Bool.not_true, Bool.not_false, Bool.false_eq_true, pickA, cond_true, cond_false]
      refine .region [.pure (.ret (.vsl 0 false (a.2.2.map .str)))] (by decide) ?_
      simp only [EOps, EDf, isRd, gdA, callOf, isPanic, nextOf, altA, evalOp, St.ev, Av.get, St.put, argT, ofV, thenQ, Nat.reduceEqDiff, ↓reduceIte, Bool.and_self, List.map_cons, List.map_nil, List.nil_append, List.append_nil, List.getElem?_cons_zero, List.getElem?_cons_succ, List.getElem?_toArray, Option.map_some, Option.bind_some, decide_true, decide_false, beq_false, beq_true, Bool.not_true, Bool.not_false, Bool.false_eq_true, pickA, cond_true, cond_false, hia, hfa, hld, hl, hst]
      refine ⟨clone50 _ _ (hbv a (List.mem_of_getElem? ha)), trivial, ?_, subH_self (hH _ (i + 1)), rfl⟩
      simp only [subT, Av.get, Nat.reduceEqDiff, ↓reduceIte, Le_rfl, nat0, nat1, and_self]
    · intro _
      have hcpn : cpE e e.length = e.map clr := by simp [cpE]
      rw [hcpn]
      obtain ⟨u, hz, hle⟩ := slIn_fz (n := 2) (k := 19) (f := encE) (M := [.cells (flatA encE (e.map clr)) true]) (v := .sl 0 0 e.length 3) (L := e.map clr) (by decide) (fun (a : Atr) => ⟨[.str a.1, .vsl 0 a.2.1 (a.2.2.map .str)], rfl, rfl⟩) (fun (a : Atr) => by show AV.hfs [.str a.1, .vsl 0 a.2.1 (a.2.2.map .str)] = true; simp [AV.hfs, AV.hf, strs_hfs]) (.inr ⟨0, by simp, rfl⟩)
      simp only [EOps, EDf, isRd, gdA, callOf, isPanic, nextOf, altA, evalOp, St.ev, Av.get, St.put, argT, ofV, thenQ, Nat.reduceEqDiff, ↓reduceIte, Bool.and_self, List.map_cons, List.map_nil, List.nil_append, List.append_nil, List.getElem?_cons_zero, List.getElem?_cons_succ, List.getElem?_toArray, Option.map_some, Option.bind_some, decide_true, decide_false, beq_false, beq_true, Bool.not_true, Bool.not_false, Bool.false_eq_true, pickA, cond_true, cond_false, blockQ]
      refine .seq (.region [] (by decide) ?_)
      simp only [EOps, EDf, isRd, gdA, callOf, isPanic, nextOf, altA, evalOp, St.ev, Av.get, St.put, argT, ofV, thenQ, Nat.reduceEqDiff, ↓reduceIte, Bool.and_self, List.map_cons, List.map_nil, List.nil_append, List.append_nil, List.getElem?_cons_zero, List.getElem?_cons_succ, List.getElem?_toArray, Option.map_some, Option.bind_some, decide_true, decide_false, beq_false, beq_true, Bool.not_true, Bool.not_false, Bool.false_eq_true, pickA, cond_true, cond_false]
      exact .ret (retF 2 rfl rfl rfl hz hle)
end Go.Proofs.YtmeijkidjifagaaGreat
namespace Go.Proofs.YtmeijkidjifagaaGreat
set_option linter.unusedVariables false
set_option linter.unusedSimpArgs false
open Go Go.Av

/-- A table in which a key has a value. -/
def replT : Tab → Bytes → List Bytes → Tab
  | [], n, l => [(n, l)]
  | p :: t, n, l => if (p.1 == n) = true then (p.1, l) :: t else p :: replT t n l
theorem replT_new : ∀ (t : Tab) (n : Bytes) (l : List Bytes), n ∉ t.map (·.1) → replT t n l = t ++ [(n, l)]
  | [], _, _, _ => rfl
  | p :: t, n, l, h => by
    have h1 : (p.1 == n) = false := by simpa using fun e : p.1 = n => h (by simp [e])
    simp only [replT, h1]
    rw [if_neg (by simp), replT_new t n l (fun hm => h (List.mem_cons_of_mem _ hm))]
    rfl
theorem replT_old : ∀ (t : Tab) (n : Bytes) (l : List Bytes) (j : Nat), (t.map (·.1)).Nodup → (t.map (·.1))[j]? = some n → replT t n l = t.set j (n, l)
  | [], _, _, j, _, h => by simp at h
  | p :: t, n, l, 0, _, h => by
    simp at h
    simp [replT, h]
  | p :: t, n, l, j + 1, hn, h => by
    rw [List.map_cons, List.nodup_cons] at hn
    have hj : (t.map (·.1))[j]? = some n := by simpa using h
    have h1 : (p.1 == n) = false := by simpa using fun e : p.1 = n => hn.1 (e ▸ List.mem_of_getElem? hj)
    simp only [replT, h1]
    rw [if_neg (by simp), replT_old t n l j hn.2 hj]
    rfl
theorem replT_ne (t : Tab) (n : Bytes) (l : List Bytes) : replT t n l ≠ [] := by
  cases t with
  | nil => simp [replT]
  | cons p t => simp only [replT]; split <;> simp

theorem tabOK_set {M : List OB} {id : Nat} {t : Tab} (h : tabOK M id t) (hn : (t.map (·.1)).Nodup) (n : Bytes) (l : List Bytes) :
    ∃ M', evMapUpdate Tryz.prog 86 (.map id) (.str n) (.vsl 0 false (l.map .str)) M = some M' ∧ M'.length = M.length ∧ (∀ i, i ≠ id → M'[i]? = M[i]?) ∧ tabOK M' id (replT t n l) := by
  obtain ⟨vs, hm, hvl, hvs⟩ := h
  have hid : id < M.length := (List.getElem?_eq_some_iff.1 hm).1
  have hcell : ∀ (X : OB) (d : Nat) (cs : List AV) (b : Bool), M[d]? = some (OB.cells cs b) → (M.set id X)[d]? = M[d]? := by
    intro X d cs b hd
    rw [List.getElem?_set, if_neg]
    rintro rfl
    rw [hm] at hd; cases hd
  by_cases hmem : n ∈ t.map (·.1)
  · obtain ⟨j, hj⟩ := List.mem_iff_getElem?.1 hmem
    have hjl : j < t.length := by have := (List.getElem?_eq_some_iff.1 hj).1; simpa using this
    refine ⟨_, mu86_old M id _ vs n _ j hm hn hj, List.length_set, fun i hi => by rw [List.getElem?_set, if_neg (fun e => hi e.symm)], ?_⟩
    rw [replT_old t n l j hn hj]
    refine ⟨vs.set j (.vsl 0 false (l.map .str)), ?_, by simp [hvl], ?_⟩
    · rw [List.getElem?_set_self hid]
      have : (t.set j (n, l)).map (·.1) = t.map (·.1) := by
        rw [List.map_set]; exact set_same hj
      rw [this]
    · intro k p hp
      rw [List.getElem?_set] at hp
      split at hp
      · rename_i e; subst e
        cases hp
        exact ⟨_, by rw [List.getElem?_set_self (by omega)], .inl ⟨false, rfl⟩⟩
      · rename_i e
        obtain ⟨v, h1, h2⟩ := hvs k p hp
        exact ⟨v, by rw [List.getElem?_set, if_neg e]; exact h1, valIn_keep h2 (hcell _)⟩
  · refine ⟨_, mu86_new M id _ vs n _ hm hmem, List.length_set, fun i hi => by rw [List.getElem?_set, if_neg (fun e => hi e.symm)], ?_⟩
    rw [replT_new t n l hmem]
    refine ⟨vs ++ [.vsl 0 false (l.map .str)], ?_, by simp [hvl], ?_⟩
    · rw [List.getElem?_set_self hid]; simp
    · intro k p hp
      rcases Nat.lt_or_ge k t.length with hk | hk
      · rw [List.getElem?_append_left hk] at hp
        obtain ⟨v, h1, h2⟩ := hvs k p hp
        exact ⟨v, by rw [List.getElem?_append_left (by omega)]; exact h1, valIn_keep h2 (hcell _)⟩
      · rw [List.getElem?_append_right hk] at hp
        have hk0 : k - t.length = 0 := by have := (List.getElem?_eq_some_iff.1 hp).1; simp at this; omega
        rw [hk0] at hp
        simp at hp; subst hp
        exact ⟨_, by rw [List.getElem?_append_right (by omega), hvl, hk0]; rfl, .inl ⟨false, rfl⟩⟩

theorem keepS_get (S : List Nat) : ∀ (H : List OB) (k i : Nat), (keepS S k H)[i]? = if i < H.length then (if S.contains (k + i) = true then H[i]? else some .dead) else none
  | [], _, i => by simp [keepS]
  | b :: H, k, 0 => by
    simp only [keepS, List.getElem?_cons_zero, List.length_cons, Nat.add_zero, Nat.zero_lt_succ, if_true]
    split <;> rfl
  | b :: H, k, i + 1 => by
    simp only [keepS, List.getElem?_cons_succ, List.length_cons]
    rw [keepS_get S H (k + 1) i, show k + 1 + i = k + (i + 1) by omega]
    by_cases h : i < H.length
    · have h' : i + 1 < H.length + 1 := by omega
      simp only [h, h', if_true]
    · have h' : ¬ i + 1 < H.length + 1 := by omega
      simp only [h, h', if_false]
theorem dropS_get (S : List Nat) : ∀ (H : List OB) (k i : Nat), i < H.length → (dropS S k H)[i]? = if S.contains (k + i) = true then some .dead else H[i]?
  | [], _, i, h => by simp at h
  | b :: H, k, 0, _ => by
    simp only [dropS, List.getElem?_cons_zero, Nat.add_zero]
    split <;> rfl
  | b :: H, k, i + 1, h => by
    simp only [dropS, List.getElem?_cons_succ]
    rw [dropS_get S H (k + 1) i (by simpa using h), show k + 1 + i = k + (i + 1) by omega]
theorem dropS_len (S : List Nat) : ∀ (H : List OB) (k : Nat), (dropS S k H).length = H.length
  | [], _ => rfl
  | b :: H, k => by simp [dropS, dropS_len S H (k + 1)]

/-- A table given up. -/
theorem tab_fz {M : List OB} {id : Nat} {t : Tab} (h : tabOK M id t) :
    ∃ vs, fz M 20 (.map id) = some (.vmap ((t.map (·.1)).map .str) vs) ∧ vs.length = t.length ∧ ∀ (j : Nat) (p : Bytes × List Bytes), t[j]? = some p → ∃ x, vs[j]? = some (.vsl 0 x (p.2.map .str)) := by
  obtain ⟨vs, hm, hvl, hvs⟩ := h
  have each : ∀ (j : Nat) (p : Bytes × List Bytes) (v : AV), t[j]? = some p → vs[j]? = some v → ∃ x, fz M 19 v = some (.vsl 0 x (p.2.map .str)) := by
    intro j p v hp hv
    obtain ⟨u, h1, h2⟩ := hvs j p hp
    rw [hv] at h1; cases h1
    rcases h2 with ⟨x, rfl⟩ | ⟨d, rfl, hd⟩
    · exact ⟨x, fz_hf (by simp [AV.hf, strs_hfs])⟩
    · have ht : ((p.2.map AV.str).drop 0).take p.2.length = p.2.map AV.str := by rw [List.drop_zero, List.take_of_length_le (by simp)]
      refine ⟨false, ?_⟩
      rw [fz_sl0 hd (by simp) (by rw [ht]; exact strs_hfs p.2) (by rw [ht]; exact strs_one p.2), ht]
  have hks := strs_hfs (t.map (·.1))
  by_cases hall : AV.hfs vs = true
  · refine ⟨vs, ?_, hvl, ?_⟩
    · unfold fz
      rw [if_neg (by simp [AV.hf])]
      simp only [hm, hks, hall, if_true]
    · intro j p hp
      obtain ⟨v, h1, _⟩ := hvs j p hp
      obtain ⟨x, h2⟩ := each j p v hp h1
      have hvh : v.hf = true := by rw [hfs_all] at hall; exact List.all_eq_true.1 hall v (List.mem_of_getElem? h1)
      rw [fz_hf hvh] at h2
      cases h2
      exact ⟨x, h1⟩
  · have hmap : ∃ us, vs.mapM (fz M 19) = some us := by
      have : ∀ (ws : List AV), (∀ v ∈ ws, ∃ u, fz M 19 v = some u) → ∃ us, ws.mapM (fz M 19) = some us := by
        intro ws
        induction ws with
        | nil => intro _; exact ⟨[], rfl⟩
        | cons w ws ih =>
          intro hw
          obtain ⟨u, hu⟩ := hw w (by simp)
          obtain ⟨us, hus⟩ := ih fun v hv => hw v (List.mem_cons_of_mem _ hv)
          exact ⟨u :: us, by simp [List.mapM_cons, hu, hus]⟩
      refine this vs fun v hv => ?_
      obtain ⟨j, hj⟩ := List.mem_iff_getElem?.1 hv
      have hjl : j < t.length := by rw [← hvl]; exact (List.getElem?_eq_some_iff.1 hj).1
      obtain ⟨x, hx⟩ := each j t[j] v (List.getElem?_eq_getElem hjl) hj
      exact ⟨_, hx⟩
    obtain ⟨us, hus⟩ := hmap
    obtain ⟨hlen, hget⟩ := mapM_get hus
    refine ⟨us, ?_, by omega, ?_⟩
    · unfold fz
      rw [if_neg (by simp [AV.hf])]
      simp only [hm, hks, if_true]
      rw [if_neg hall, hus]
    · intro j p hp
      obtain ⟨v, h1, _⟩ := hvs j p hp
      obtain ⟨x, h2⟩ := each j p v hp h1
      obtain ⟨u, h3, h4⟩ := hget j v h1
      rw [h2] at h4; cases h4
      exact ⟨x, h3⟩
end Go.Proofs.YtmeijkidjifagaaGreat
namespace Go.Proofs.YtmeijkidjifagaaGreat
set_option linter.unusedVariables false
set_option linter.unusedSimpArgs false
open Go Go.Av

def goodV (n : Bytes) (l : List Bytes) : Prop := small n = n ∧ apartB (sortB l) = true ∧ l.length ≤ 16
structure GoodE (e : List Atr) : Prop where
  each : ∀ a ∈ e, goodV a.1 a.2.2
  nodup : (e.map (·.1)).Nodup
  few : e.length ≤ 24
def doT (e : List Atr) (m : Mo) : List Atr := entryT (replT (tabE e) m.1 m.2.2)
def longE (e : List Atr) : Bool := decide ((e.length : Int) > 24)
def doAll : List Atr → List Mo → Option (List Atr)
  | e, [] => some e
  | e, m :: l => if longE (doT e m) = true then none else doAll (doT e m) l
def doN (e : List Atr) (l : List Mo) (i : Nat) : List Atr := (l.take i).foldl doT e
theorem doN_succ (e : List Atr) (l : List Mo) (i : Nat) (m : Mo) (h : l[i]? = some m) : doN e l (i + 1) = doT (doN e l i) m := by
  unfold doN; rw [List.take_add_one, h]; simp

structure GoodT (t : Tab) : Prop where
  each : ∀ p ∈ t, goodV p.1 p.2
  nodup : (t.map (·.1)).Nodup
  few : t.length ≤ 25
theorem good_repl {e : List Atr} (h : GoodE e) {m : Mo} (hm : goodV m.1 m.2.2) : GoodT (replT (tabE e) m.1 m.2.2) := by
  have hk : (tabE e).map (·.1) = e.map (·.1) := by simp [tabE]
  have hn : ((tabE e).map (·.1)).Nodup := by rw [hk]; exact h.nodup
  have he : ∀ p ∈ tabE e, goodV p.1 p.2 := by
    intro p hp; obtain ⟨a, ha, rfl⟩ := List.mem_map.1 hp; exact h.each a ha
  have hl : (tabE e).length ≤ 24 := by simpa [tabE] using h.few
  by_cases hmem : m.1 ∈ (tabE e).map (·.1)
  · obtain ⟨j, hj⟩ := List.mem_iff_getElem?.1 hmem
    rw [replT_old _ _ _ j hn hj]
    refine ⟨fun p hp => ?_, ?_, by simp; omega⟩
    · rcases List.mem_or_eq_of_mem_set hp with hp | rfl
      · exact he p hp
      · exact hm
    · rw [List.map_set]
      have : ((tabE e).map (·.1)).set j m.1 = (tabE e).map (·.1) := set_same hj
      rw [this]; exact hn
  · rw [replT_new _ _ _ hmem]
    refine ⟨fun p hp => ?_, ?_, by simp; omega⟩
    · rcases List.mem_append.1 hp with hp | hp
      · exact he p hp
      · simp at hp; subst hp; exact hm
    · rw [List.map_append, List.nodup_append]
      exact ⟨hn, by simp, by intro a ha b hb; simp at hb; subst hb; rintro rfl; exact hmem ha⟩
theorem sortB_idem (l : List Bytes) : sortB (sortB l) = sortB l := sortB_perm (sortB_isPerm l)
theorem lookT_mem {t : Tab} {n : Bytes} (h : n ∈ t.map (·.1)) : ∃ p ∈ t, p.1 = n ∧ lookT t n = p.2 := by
  induction t with
  | nil => simp at h
  | cons q t ih =>
    by_cases hq : q.1 = n
    · exact ⟨q, by simp, hq, by unfold lookT; rw [List.find?_cons]; simp [hq]⟩
    · have hn : n ∈ t.map (·.1) := by
        rcases List.mem_cons.1 (by simpa using h : n ∈ q.1 :: t.map (·.1)) with h | h
        · exact (hq h.symm).elim
        · exact h
      obtain ⟨p, hp, h1, h2⟩ := ih hn
      refine ⟨p, List.mem_cons_of_mem _ hp, h1, ?_⟩
      unfold lookT at h2 ⊢
      rw [List.find?_cons]
      have : (q.1 == n) = false := by simpa using hq
      rw [this]; exact h2
theorem entA_name {t : Tab} {n : Bytes} {a : Atr} (h : entA t n = some a) : a = (n, false, sortB (lookT t n)) ∧ sortB (lookT t n) ≠ [] := by
  unfold entA at h
  split at h
  · cases h
  · rename_i hne; cases h; exact ⟨rfl, hne⟩
theorem entryT_names (t : Tab) : ((entryT t).map (·.1)).Sublist (sortB (t.map (·.1))) := by
  unfold entryT
  generalize sortB (t.map (·.1)) = ks
  induction ks with
  | nil => simp
  | cons n ks ih =>
    rw [List.filterMap_cons]
    cases h : entA t n with
    | none => exact ih.cons _
    | some a =>
      have := (entA_name h).1
      rw [List.map_cons, this]
      exact ih.cons_cons n
theorem good_entry {t : Tab} (h : GoodT t) (hs : longE (entryT t) = false) : GoodE (entryT t) := by
  refine ⟨fun a ha => ?_, ?_, by have := of_decide_eq_false hs; omega⟩
  · unfold entryT at ha
    obtain ⟨n, hn, hna⟩ := List.mem_filterMap.1 ha
    obtain ⟨rfl, _⟩ := entA_name hna
    have hk : n ∈ t.map (·.1) := (sortB_isPerm _).mem_iff.1 hn
    obtain ⟨p, hp, h1, h2⟩ := lookT_mem hk
    obtain ⟨g1, g2, g3⟩ := h.each p hp
    refine ⟨by rw [← h1]; exact g1, ?_, ?_⟩
    · show apartB (sortB (sortB (lookT t n))) = true
      rw [sortB_idem, h2]; exact g2
    · show (sortB (lookT t n)).length ≤ 16
      rw [(sortB_isPerm _).length_eq, h2]; exact g3
  · exact (entryT_names t).nodup ((sortB_isPerm _).nodup_iff.2 h.nodup)

def kindsC : List AV := [.nilfunc, .func (.func 89) [] [], .func (.func 90) [] [], .func (.func 91) [] []]
def outDo : Option (List Atr) → Out
  | none => .ret (.tup [.vsl 3 false [], .int .i64 3])
  | some r => .ret (.tup [.vsl 3 false (r.map encE), .int .i64 0])
theorem bd115 : evBuild Tryz.prog 115 [(1, .func (.func 89) [] []), (2, .func (.func 90) [] []), (3, .func (.func 91) [] [])] = some (.agg kindsC) := by kernel_rfl
theorem za115 : zeroA Tryz.prog 115 = some (.agg [.nilfunc, .nilfunc, .nilfunc, .nilfunc]) := by kernel_rfl
theorem st115 : evStore Tryz.prog 115 (.ptr 0 0) (.agg kindsC) [.cells [.nilfunc, .nilfunc, .nilfunc, .nilfunc] false] = some [.cells kindsC false] := by kernel_rfl
theorem tz114 : tsz Tryz.prog 114 = some 1 := by kernel_rfl
theorem tg114 : tag Tryz.prog 114 = some false := by kernel_rfl
theorem ia115 (H : List OB) : evIndexAddr Tryz.prog 115 (.ptr 0 0) (.int .i64 3) H = some (.ptr 0 3) := by
  have h : idx (.int .i64 3) = some 3 := rfl
  simp [evIndexAddr, h, Tryz.underlying115, tz114]
theorem ld114 (H : List OB) (b : Bool) (h : H[0]? = some (.cells kindsC b)) : evLoad Tryz.prog 114 (.ptr 0 3) H = some (.func (.func 91) [] []) := by
  simp [evLoad, tz114, tg114, ldA, h, kindsC]
theorem clr_good {e : List Atr} (h : GoodE e) : GoodE (e.map clr) := by
  refine ⟨fun a ha => ?_, ?_, by simpa using h.few⟩
  · obtain ⟨b, hb, rfl⟩ := List.mem_map.1 ha; exact h.each b hb
  · have : (e.map clr).map (·.1) = e.map (·.1) := by rw [List.map_map]; rfl
    rw [this]; exact h.nodup
theorem check_good {e : List Atr} (h : checkE e = true) : GoodE e := by
  unfold checkE at h
  simp only [Bool.and_eq_true, Bool.not_eq_true', decide_eq_false_iff_not] at h
  refine ⟨fun a ha => ?_, ?_, by omega⟩
  · have := List.all_eq_true.1 h.1 a ha
    unfold attrB at this
    simp only [Bool.and_eq_true, Bool.not_eq_true', decide_eq_false_iff_not, beq_iff_eq] at this
    have hp := of_rises this.2
    exact ⟨this.1.1.1.2, by rw [sortB_of hp]; exact apart_of hp, by omega⟩
  · exact (of_rises h.2.2).imp fun hab => b_lt_ne hab
end Go.Proofs.YtmeijkidjifagaaGreat
namespace Go.Proofs.YtmeijkidjifagaaGreat
set_option linter.unusedVariables false
set_option linter.unusedSimpArgs false
open Go Go.Av

theorem doN_all (e : List Atr) (l : List Mo) (i : Nat) (m : Mo) (h : l[i]? = some m) (hd : l.drop i = m :: l.drop (i + 1)) :
    doAll (doN e l i) (l.drop i) = if longE (doN e l (i + 1)) = true then none else doAll (doN e l (i + 1)) (l.drop (i + 1)) := by
  rw [hd, doAll, doN_succ e l i m h]

/-- What tabled hands back. -/
def S63 (H : List OB) (e : List Atr) (out : Out) (K : List OB) : Prop := out = .ret (.map H.length) ∧ H.length < K.length ∧ (∀ i, i < H.length → K[i]? = H[i]?) ∧ tabOK K H.length (tabE e)

theorem subH_one {m : Nat} {H : List OB} {cs : List AV} {b : Bool} (h : H[0]? = some (.cells cs b)) (hh : AV.hlts m cs = true) : subH m H [.cells cs b] := by
  cases H with
  | nil => simp at h
  | cons x H =>
    simp at h; subst h
    exact ⟨rfl, hh, by cases H <;> trivial⟩
theorem tabOK_keepS {M : List OB} {t : Tab} (h : tabOK M 2 t) (h0 : ∃ cs, M[0]? = some (.cells cs false)) (h1 : ∃ cs, M[1]? = some (.cells cs false)) : tabOK (keepS (List.range' 2 (M.length - 2)) 0 M) 2 t := by
  obtain ⟨vs, hm, hvl, hvs⟩ := h
  have hk : ∀ d, 2 ≤ d → d < M.length → (keepS (List.range' 2 (M.length - 2)) 0 M)[d]? = M[d]? := by
    intro d hd hl
    rw [keepS_get, if_pos hl, if_pos]
    simp; omega
  refine ⟨vs, by rw [hk 2 (Nat.le_refl _) (List.getElem?_eq_some_iff.1 hm).1]; exact hm, hvl, fun j p hp => ?_⟩
  obtain ⟨v, g1, g2⟩ := hvs j p hp
  refine ⟨v, g1, ?_⟩
  rcases g2 with h | ⟨d, hv, hd⟩
  · exact .inl h
  · have hdl : d < M.length := (List.getElem?_eq_some_iff.1 hd).1
    have hd0 : d ≠ 0 := by rintro rfl; obtain ⟨cs, h0⟩ := h0; rw [h0] at hd; cases hd
    have hd1 : d ≠ 1 := by rintro rfl; obtain ⟨cs, h1⟩ := h1; rw [h1] at hd; cases hd
    exact .inr ⟨d, hv, by rw [hk d (by omega) hdl]; exact hd⟩
theorem give62 {M : List OB} {t : Tab} (h : tabOK M 2 t) (h0 : ∃ cs, M[0]? = some (.cells cs false)) (h1 : ∃ cs, M[1]? = some (.cells cs false)) (hg : GoodT t) (hne : t ≠ []) :
    ShFn Tryz.prog 62 [.map 2] M (outE (entryT t)) (dropS (List.range' 2 (M.length - 2)) 0 M) := by
  obtain ⟨vs, hz, hvl, hvs⟩ := tab_fz (tabOK_keepS h h0 h1)
  refine PureFn.give (args' := [.vmap ((t.map (·.1)).map .str) vs]) (List.range' 2 (M.length - 2)) ?_ (entry62 t vs hg.nodup (by have := hg.few; omega) hne hvl hvs fun p hp => ⟨(hg.each p hp).2.1, (hg.each p hp).2.2⟩)
  simp [List.mapM_cons, hz]

set_option maxRecDepth 100000 in
theorem do67 (x y : Bool) (e : List Atr) (l : List Mo) (hck : checkE e = true) (hmay : l.all mayB = true) (hg : ∀ m ∈ l, goodV m.1 m.2.2) (hl : l.length ≤ 1000) :
    PureFn Tryz.prog 67 [.vsl 3 x (e.map encE), .vsl 4 y (l.map encM)] (outDo (doAll (e.map clr) l)) := by
  have hge := check_good hck
  have hgc := clr_good hge
  generalize hout : doAll (e.map clr) l = out0
  refine PureFn.of Tryz.func67 rfl (enters_call enters Tryz.func67 rfl) (by simp [Tryz.ntmps67]) ?_
  show W Tryz.prog 58 0 none _ _ _
  refine .seq (.region [] (by decide) ?_)
  simp only [EOps, EDf, isRd, gdA, callOf, isPanic, nextOf, altA, evalOp, St.ev, Av.get, St.put, argT, ofV, thenQ, Nat.reduceEqDiff, ↓reduceIte, Bool.and_self, List.map_cons, List.map_nil, List.nil_append, List.append_nil, List.getElem?_cons_zero, List.getElem?_cons_succ, List.getElem?_toArray, Option.map_some, Option.bind_some, decide_true, decide_false, beq_false, beq_true, Bool.not_true, Bool.not_false, Bool.false_eq_true, pickA, cond_true, cond_false, and_self, if_true]
  have hl1 : ∀ H o, lend H [.vsl 3 x (e.map encE)] o = some [.vsl 3 x (e.map encE)] := by intro H o; simp [lend, AV.hfs, AV.hf, encE_hfs]
  have hl2 : ∀ H o, lend H [.vsl 4 y (l.map encM), .func (.func 88) [] []] o = some [.vsl 4 y (l.map encM), .func (.func 88) [] []] := by intro H o; simp [lend, AV.hfs, AV.hf, encM_hfs]
  have p1 := check26 x e (by have := hge.few; omega)
  rw [if_pos hck] at p1
  have p2 := all87m y l
  rw [hmay] at p2
  refine .seq (.seq (.region [.pure (.ret (.int .i64 0)), .pure (.ret (.bool true))] (by decide) ?_))
  have d0 : ((0 : Int) != 0) = false := rfl
  simp only [EOps, EDf, isRd, gdA, callOf, isPanic, nextOf, altA, evalOp, St.ev, Av.get, St.put, argT, ofV, thenQ, Nat.reduceEqDiff, ↓reduceIte, Bool.and_self, List.map_cons, List.map_nil, List.nil_append, List.append_nil, List.getElem?_cons_zero, List.getElem?_cons_succ, List.getElem?_toArray, Option.map_some, Option.bind_some, decide_true, decide_false, beq_false, beq_true, Bool.not_true, Bool.not_false, Bool.false_eq_true, pickA, cond_true, cond_false, hl1, hl2, b_neq, d0, u_not]
  refine ⟨p1, p2, .cond (t := false) rfl (.skip ?_)⟩
  refine .seq (.region [] (by decide) ?_)
  simp only [EOps, EDf, isRd, gdA, callOf, isPanic, nextOf, altA, evalOp, St.ev, Av.get, St.put, argT, ofV, thenQ, Nat.reduceEqDiff, ↓reduceIte, Bool.and_self, List.map_cons, List.map_nil, List.nil_append, List.append_nil, List.getElem?_cons_zero, List.getElem?_cons_succ, List.getElem?_toArray, Option.map_some, Option.bind_some, decide_true, decide_false, beq_false, beq_true, Bool.not_true, Bool.not_false, Bool.false_eq_true, pickA, cond_true, cond_false, bd115, za115, cells_agg', List.length_nil, st115]
  have p3 := copy92 x e (by have := hge.few; omega) (fun a ha => by have := (hge.each a ha).2.2; omega)
  refine .seq (.region [.pure (.ret (.vsl 3 false ((e.map clr).map encE)))] (by decide) ?_)
  simp only [EOps, EDf, isRd, gdA, callOf, isPanic, nextOf, altA, evalOp, St.ev, Av.get, St.put, argT, ofV, thenQ, Nat.reduceEqDiff, ↓reduceIte, Bool.and_self, List.map_cons, List.map_nil, List.nil_append, List.append_nil, List.getElem?_cons_zero, List.getElem?_cons_succ, List.getElem?_toArray, Option.map_some, Option.bind_some, decide_true, decide_false, beq_false, beq_true, Bool.not_true, Bool.not_false, Bool.false_eq_true, pickA, cond_true, cond_false, hl1]
  refine ⟨p3, ?_⟩
  refine .seq (.seq (.region [] (by decide) ?_))
  simp only [EOps, EDf, isRd, gdA, callOf, isPanic, nextOf, altA, evalOp, St.ev, Av.get, St.put, argT, ofV, thenQ, Nat.reduceEqDiff, ↓reduceIte, Bool.and_self, List.map_cons, List.map_nil, List.nil_append, List.append_nil, List.getElem?_cons_zero, List.getElem?_cons_succ, List.getElem?_toArray, Option.map_some, Option.bind_some, decide_true, decide_false, beq_false, beq_true, Bool.not_true, Bool.not_false, Bool.false_eq_true, pickA, cond_true, cond_false, ln43]
  refine .block ?_
  generalize hc : e.map clr = c at *
  have hH : ∀ m, [OB.cells kindsC false].all (OB.hlt m) = true := by intro m; rfl
  refine .forG 27 26 28 56 l.length (by simp only [maxLen']; omega) rfl rfl rfl rfl rfl rfl rfl rfl rfl (by decide) (by decide) (by decide)
    (fun i => [(7, .vsl 3 false ((doN c l i).map encE)), (25, .vsl 4 y (l.map encM)), (6, .ptr 0 0)]) (fun _ => rfl) (fun i => [.cells kindsC false]) (fun _ => Nat.zero_le _) (fun i => GoodE (doN c l i) ∧ doAll (doN c l i) (l.drop i) = out0) rfl ⟨hgc, hout⟩ ?_ ?_ (subH_self (hH _)) ?_ ?_
  · have h0 : doN c l 0 = c := rfl
    simp only [h0]
    simp only [subT, Av.get, Nat.reduceEqDiff, ↓reduceIte, Le_rfl, nat0, nat1, and_self]
  · intro i _
    simp only [hltT, AV.hlt, AV.hlts, strs_hlts, Bool.and_self, Bool.and_true, Bool.true_and, encE_hlts, hfs_hlts (encM_hfs l)]
    rfl
  · rintro i hi ⟨hgi, hoi⟩
    obtain ⟨m, hm, hdrop⟩ := drop_at hi
    have hmem : m ∈ l := List.mem_of_getElem? hm
    have hgm := hg m hmem
    rw [doN_all c l i m hm hdrop] at hoi
    have hdoN := doN_succ c l i m hm
    generalize hes : doN c l i = es at *
    have hgt := good_repl hgi hgm
    have hst : evStore Tryz.prog 68 (.ptr 1 0) (encM m) [.cells kindsC false, .cells [.int .i64 0, .str [], .vsl 0 true []] false] = some [.cells kindsC false, .cells (mcell m) false] := st68 m _ 1 _ _ _ rfl
    refine .block (.seq (.region [] (by decide) ?_))
    simp only [EOps, EDf, isRd, gdA, callOf, isPanic, nextOf, altA, evalOp, St.ev, Av.get, St.put, argT, ofV, thenQ, Nat.reduceEqDiff, ↓reduceIte, Bool.and_self, List.map_cons, List.map_nil, List.nil_append, List.append_nil, List.getElem?_cons_zero, List.getElem?_cons_succ, List.getElem?_toArray, Option.map_some, Option.bind_some, decide_true, decide_false, beq_false, beq_true, Bool.not_true, Bool.not_false, Bool.false_eq_true, pickA, cond_true, cond_false, ia43 _ _ _ _ hm, ld68v, za68, cells_agg', List.length_singleton, List.cons_append, hst]
    have hnd : ((tabE es).map (·.1)).Nodup := by have : (tabE es).map (·.1) = es.map (·.1) := by simp [tabE]
                                                 rw [this]; exact hgi.nodup
    have htab : ShFnS Tryz.prog 63 [.vsl 3 false (es.map encE)] [.cells kindsC false, .cells (mcell m) false] (S63 [.cells kindsC false, .cells (mcell m) false] es) := tabled63 false es [.cells kindsC false, .cells (mcell m) false] (by have := hgi.few; omega) (fun a ha => by have := (hgi.each a ha).2.2; omega) (fun a ha => (hgi.each a ha).1) hgi.nodup
    refine .seq (.region [.any (S63 [.cells kindsC false, .cells (mcell m) false] es)] (by decide) ?_)
    simp only [EOps, EDf, isRd, gdA, callOf, isPanic, nextOf, altA, evalOp, St.ev, Av.get, St.put, argT, ofV, thenQ, Nat.reduceEqDiff, ↓reduceIte, Bool.and_self, List.map_cons, List.map_nil, List.nil_append, List.append_nil, List.getElem?_cons_zero, List.getElem?_cons_succ, List.getElem?_toArray, Option.map_some, Option.bind_some, decide_true, decide_false, beq_false, beq_true, Bool.not_true, Bool.not_false, Bool.false_eq_true, pickA, cond_true, cond_false]
    refine ⟨htab, ?_⟩
    rintro out K ⟨rfl, hKl, hK0, hK⟩
    have hid : ([OB.cells kindsC false, .cells (mcell m) false] : List OB).length = 2 := rfl
    rw [hid] at hKl hK0 hK
    obtain ⟨M', hup, hM'l, hM'k, htab'⟩ := tabOK_set hK hnd m.1 m.2.2
    have g0 : K[0]? = some (.cells kindsC false) := by rw [hK0 0 (by omega)]; rfl
    have g1 : K[1]? = some (.cells (mcell m) false) := by rw [hK0 1 (by omega)]; rfl
    have h0 : M'[0]? = some (.cells kindsC false) := by rw [hM'k 0 (by omega)]; exact g0
    have h1 : M'[1]? = some (.cells (mcell m) false) := by rw [hM'k 1 (by omega)]; exact g1
    have k0 := ld66 K 1 m false g1
    have k1 : evLoad Tryz.prog 9 (.ptr 1 1) K = some (.str m.1) := ld9 _ 1 1 _ _ _ g1 rfl
    have k2 : evLoad Tryz.prog 26 (.ptr 1 2) K = some (.vsl 0 m.2.1 (m.2.2.map .str)) := ld26 _ 1 2 _ _ _ g1 rfl
    have k3 := ld114 K false g0
    have q1 := small46 m.1
    rw [hgm.1] at q1
    have hl3 : ∀ H o, lend H [.str m.1] o = some [.str m.1] := by intro H o; simp [lend, AV.hfs, AV.hf]
    have hrep := replace91 K M' 2 m.1 m.2.1 m.2.2 (by have := hgm.2.2; omega) hup
    simp only [thenQ, hid]
    refine .seq (.seq (W.drawW (pre := [_, _, _, _, _, _, _, _, _, _]) (ow := _) (post := [_]) (r := .int .i64 0) (H' := M') [.pure (.ret (.str m.1))] [] mixed (by kernel_rfl) rfl (by kernel_rfl) (by kernel_rfl) (by kernel_rfl) (by kernel_rfl) ?_))
    simp only [EOps, EDf, isRd, gdA, callOf, isPanic, nextOf, altA, evalOp, St.ev, Av.get, St.put, argT, ofV, thenQ, Nat.reduceEqDiff, ↓reduceIte, Bool.and_self, List.map_cons, List.map_nil, List.nil_append, List.append_nil, List.getElem?_cons_zero, List.getElem?_cons_succ, List.getElem?_toArray, Option.map_some, Option.bind_some, decide_true, decide_false, beq_false, beq_true, Bool.not_true, Bool.not_false, Bool.false_eq_true, pickA, cond_true, cond_false, fa68_0, fa68_1, fa68_2, k0, k1, k2, k3, ia115, hl3]
    refine ⟨q1, ?_⟩
    refine ⟨trivial, _, _, rfl, hrep, ?_⟩
    refine .seq (.region [] (by decide) ?_)
    simp only [EOps, EDf, isRd, gdA, callOf, isPanic, nextOf, altA, evalOp, St.ev, Av.get, St.put, argT, ofV, thenQ, Nat.reduceEqDiff, ↓reduceIte, Bool.and_self, List.map_cons, List.map_nil, List.nil_append, List.append_nil, List.getElem?_cons_zero, List.getElem?_cons_succ, List.getElem?_toArray, Option.map_some, Option.bind_some, decide_true, decide_false, beq_false, beq_true, Bool.not_true, Bool.not_false, Bool.false_eq_true, pickA, cond_true, cond_false, b_neq, d0]
    refine .cond (t := false) rfl (.skip ?_)
    simp only [thenQ]
    have hgive := give62 htab' ⟨_, h0⟩ ⟨_, h1⟩ hgt (replT_ne _ _ _)
    have hr : entryT (replT (tabE es) m.1 m.2.2) = doN c l (i + 1) := by rw [hdoN]; rfl
    have hgood := fun h => good_entry hgt h
    rw [hr] at hgive hgood
    generalize doN c l (i + 1) = r at hoi hgive hgood hdoN
    have hD0 : (dropS (List.range' 2 (M'.length - 2)) 0 M')[0]? = some (.cells kindsC false) := by
      rw [dropS_get _ _ _ _ (by omega), if_neg (by simp)]; exact h0
    generalize dropS (List.range' 2 (M'.length - 2)) 0 M' = D' at hgive hD0
    cases hlong : longE r with
    | true =>
      rw [hlong, if_pos rfl] at hoi
      have ho : outE r = .ret (.tup [.vsl 3 false [], .int .i64 3]) := by unfold outE; rw [if_pos (show decide ((r.length : Int) > 24) = true from hlong)]
      rw [ho] at hgive
      refine .seq (.region [.sh (.ret (.tup [.vsl 3 false [], .int .i64 3])) D'] (by decide) ?_)
      have d3 : ((3 : Int) != 0) = true := rfl
      simp only [EOps, EDf, isRd, gdA, callOf, isPanic, nextOf, altA, evalOp, St.ev, Av.get, St.put, argT, ofV, thenQ, Nat.reduceEqDiff, ↓reduceIte, Bool.and_self, List.map_cons, List.map_nil, List.nil_append, List.append_nil, List.getElem?_cons_zero, List.getElem?_cons_succ, List.getElem?_toArray, Option.map_some, Option.bind_some, decide_true, decide_false, beq_false, beq_true, Bool.not_true, Bool.not_false, Bool.false_eq_true, pickA, cond_true, cond_false, ClOK]
      refine ⟨hgive, ?_⟩
      refine .seq (.seq (.region [] (by decide) ?_))
      simp only [EOps, EDf, isRd, gdA, callOf, isPanic, nextOf, altA, evalOp, St.ev, Av.get, St.put, argT, ofV, thenQ, Nat.reduceEqDiff, ↓reduceIte, Bool.and_self, List.map_cons, List.map_nil, List.nil_append, List.append_nil, List.getElem?_cons_zero, List.getElem?_cons_succ, List.getElem?_toArray, Option.map_some, Option.bind_some, decide_true, decide_false, beq_false, beq_true, Bool.not_true, Bool.not_false, Bool.false_eq_true, pickA, cond_true, cond_false, b_neq, d3]
      refine .cond (t := true) rfl (.seq (.region [] (by decide) ?_))
      simp only [EOps, EDf, isRd, gdA, callOf, isPanic, nextOf, altA, evalOp, St.ev, Av.get, St.put, argT, ofV, thenQ, Nat.reduceEqDiff, ↓reduceIte, Bool.and_self, List.map_cons, List.map_nil, List.nil_append, List.append_nil, List.getElem?_cons_zero, List.getElem?_cons_succ, List.getElem?_toArray, Option.map_some, Option.bind_some, decide_true, decide_false, beq_false, beq_true, Bool.not_true, Bool.not_false, Bool.false_eq_true, pickA, cond_true, cond_false, and_self, if_true]
      rw [← hoi]
      exact .ret (retF2 4 5 rfl rfl rfl rfl rfl rfl (.nil _ _ _))
    | false =>
      rw [hlong, if_neg (by simp)] at hoi
      have ho : outE r = .ret (.tup [.vsl 3 false (r.map encE), .int .i64 0]) := by
        unfold outE; rw [if_neg]; rw [show decide ((r.length : Int) > 24) = false from hlong]; simp
      rw [ho] at hgive
      refine .seq (.region [.sh (.ret (.tup [.vsl 3 false (r.map encE), .int .i64 0])) D'] (by decide) ?_)
      simp only [EOps, EDf, isRd, gdA, callOf, isPanic, nextOf, altA, evalOp, St.ev, Av.get, St.put, argT, ofV, thenQ, Nat.reduceEqDiff, ↓reduceIte, Bool.and_self, List.map_cons, List.map_nil, List.nil_append, List.append_nil, List.getElem?_cons_zero, List.getElem?_cons_succ, List.getElem?_toArray, Option.map_some, Option.bind_some, decide_true, decide_false, beq_false, beq_true, Bool.not_true, Bool.not_false, Bool.false_eq_true, pickA, cond_true, cond_false, ClOK]
      refine ⟨hgive, ?_⟩
      refine .seq (.seq (.region [] (by decide) ?_))
      simp only [EOps, EDf, isRd, gdA, callOf, isPanic, nextOf, altA, evalOp, St.ev, Av.get, St.put, argT, ofV, thenQ, Nat.reduceEqDiff, ↓reduceIte, Bool.and_self, List.map_cons, List.map_nil, List.nil_append, List.append_nil, List.getElem?_cons_zero, List.getElem?_cons_succ, List.getElem?_toArray, Option.map_some, Option.bind_some, decide_true, decide_false, beq_false, beq_true, Bool.not_true, Bool.not_false, Bool.false_eq_true, pickA, cond_true, cond_false, b_neq, d0]
      refine .cond (t := false) rfl (.skip ?_)
      simp only [thenQ]
      refine .region [] (by decide) ?_
      simp only [EOps, EDf, isRd, gdA, callOf, isPanic, nextOf, altA, evalOp, St.ev, Av.get, St.put, argT, ofV, thenQ, Nat.reduceEqDiff, ↓reduceIte, Bool.and_self, List.map_cons, List.map_nil, List.nil_append, List.append_nil, List.getElem?_cons_zero, List.getElem?_cons_succ, List.getElem?_toArray, Option.map_some, Option.bind_some, decide_true, decide_false, beq_false, beq_true, Bool.not_true, Bool.not_false, Bool.false_eq_true, pickA, cond_true, cond_false, blockQ]
      refine ⟨⟨hgood hlong, hoi⟩, ?_, subH_one hD0 rfl, trivial⟩
      simp only [subT, Av.get, Nat.reduceEqDiff, ↓reduceIte, Le_rfl, nat0, nat1, and_self]
  · rintro ⟨hgi, hoi⟩
    rw [List.drop_length] at hoi
    have hoi' : some (doN c l l.length) = out0 := hoi
    rw [← hoi']
    simp only [EOps, EDf, isRd, gdA, callOf, isPanic, nextOf, altA, evalOp, St.ev, Av.get, St.put, argT, ofV, thenQ, Nat.reduceEqDiff, ↓reduceIte, Bool.and_self, List.map_cons, List.map_nil, List.nil_append, List.append_nil, List.getElem?_cons_zero, List.getElem?_cons_succ, List.getElem?_toArray, Option.map_some, Option.bind_some, decide_true, decide_false, beq_false, beq_true, Bool.not_true, Bool.not_false, Bool.false_eq_true, pickA, cond_true, cond_false, blockQ]
    refine .seq (.region [] (by decide) ?_)
    simp only [EOps, EDf, isRd, gdA, callOf, isPanic, nextOf, altA, evalOp, St.ev, Av.get, St.put, argT, ofV, thenQ, Nat.reduceEqDiff, ↓reduceIte, Bool.and_self, List.map_cons, List.map_nil, List.nil_append, List.append_nil, List.getElem?_cons_zero, List.getElem?_cons_succ, List.getElem?_toArray, Option.map_some, Option.bind_some, decide_true, decide_false, beq_false, beq_true, Bool.not_true, Bool.not_false, Bool.false_eq_true, pickA, cond_true, cond_false]
    exact .ret (retF2 4 5 rfl rfl rfl rfl (fz_hf (by simp [Av.get, AV.hf, encE_hfs])) rfl (.refl _))
end Go.Proofs.YtmeijkidjifagaaGreat
namespace Go.Proofs.YtmeijkidjifagaaGreat
set_option linter.unusedVariables false
set_option linter.unusedSimpArgs false
open Go Go.Av

def fewF (l : List Bytes) : Bool := !decide ((l.length : Int) > 20) && l.all fun s => !decide ((s.length : Int) > 400)
def fewB (c : List Val) : Bool := (List.range 8).all fun i => fewF (fld c i)

set_option maxRecDepth 100000 in
theorem few12 (c : List Val) (hc : c.length = 8) : PureFn Tryz.prog 12 [.agg (c.map encV)] (.ret (.bool (fewB c))) := by
  refine PureFn.of Tryz.func12 rfl (enters_call enters Tryz.func12 rfl) (by simp [Tryz.ntmps12]) ?_
  show W Tryz.prog 30 _ none _ _ _
  refine .seq (.region [] (by decide) ?_)
  simp only [EOps, EDf, isRd, gdA, callOf, isPanic, nextOf, altA, evalOp, St.ev, Av.get, St.put, argT, ofV, thenQ, Nat.reduceEqDiff, ↓reduceIte, Bool.and_self, List.map_cons, List.map_nil, List.nil_append, List.append_nil, List.getElem?_cons_zero, List.getElem?_cons_succ, List.getElem?_toArray, Option.map_some, Option.bind_some, decide_true, decide_false, beq_false, beq_true, Bool.not_true, Bool.not_false, Bool.false_eq_true, pickA, cond_true, cond_false, encV_told, if_true, List.length_nil, cells_agg']
  refine .seq (.seq (.region [] (by decide) ?_))
  simp only [EOps, EDf, isRd, gdA, callOf, isPanic, nextOf, altA, evalOp, St.ev, Av.get, St.put, argT, ofV, thenQ, Nat.reduceEqDiff, ↓reduceIte, Bool.and_self, List.map_cons, List.map_nil, List.nil_append, List.append_nil, List.getElem?_cons_zero, List.getElem?_cons_succ, List.getElem?_toArray, Option.map_some, Option.bind_some, decide_true, decide_false, beq_false, beq_true, Bool.not_true, Bool.not_false, Bool.false_eq_true, pickA, cond_true, cond_false]
  refine .block ?_
  have hH : ∀ m, [OB.cells (c.map encV) false].all (OB.hlt m) = true := by intro m; simp [OB.hlt, encV_hlts]
  refine .forR 3 6 7 8 0 8 (by decide) (Nat.zero_le _) rfl rfl rfl rfl rfl rfl rfl rfl rfl (by decide)
    (fun i => [(1, .ptr 0 0)]) (fun _ => rfl) (fun _ => [.cells (c.map encV) false]) (fun _ => Nat.zero_le _) (fun i => (List.range' i (8 - i)).all (fun i => fewF (fld c i)) = fewB c) rfl (by rw [fewB, List.range_eq_range']) ?_ ?_ (subH_self (hH _)) ?_ ?_ ?_
  · simp only [subT, Av.get, Nat.reduceEqDiff, ↓reduceIte, Le_rfl, nat0, nat1, and_self]
  · intro i _
    simp only [hltT, AV.hlt, AV.hlts, strs_hlts, Bool.and_self, Bool.and_true, Bool.true_and]
    rfl
  · intro i hi hok
    refine .region [] (by decide) ?_
    have : decide ((i : Int) < 8) = decide (i < 8) := dlt i 8
    simp only [EOps, EDf, isRd, gdA, callOf, isPanic, nextOf, altA, evalOp, St.ev, Av.get, St.put, argT, ofV, thenQ, Nat.reduceEqDiff, ↓reduceIte, Bool.and_self, List.map_cons, List.map_nil, List.nil_append, List.append_nil, List.getElem?_cons_zero, List.getElem?_cons_succ, List.getElem?_toArray, Option.map_some, Option.bind_some, decide_true, decide_false, beq_false, beq_true, Bool.not_true, Bool.not_false, Bool.false_eq_true, pickA, cond_true, cond_false, b_lss, this]
    refine ⟨trivial, ?_, subH_self (hH _), trivial⟩
    simp only [subT, Av.get, Nat.reduceEqDiff, ↓reduceIte, Le_rfl, nat0, nat1, and_self]
  · intro i hi hok
    obtain ⟨v, hv, hfv⟩ := fld_at c i (by omega)
    have hve : (c.map encV)[i]? = some (encV v) := by simp [hv]
    rw [range_step _ _ _ hi, hfv, fewF] at hok
    have hld : evLoad Tryz.prog 26 (.ptr 0 i) [.cells (c.map encV) false] = some (encV v) := ld26 _ 0 i _ _ _ rfl hve
    have hln : ∀ H, evLen Tryz.prog 26 (encV v) H = some (.int .i64 v.2.length) := fun H => ln26 _ _ _
    generalize h1 : decide ((v.2.length : Int) > 20) = b1 at hok
    refine .block ?_
    refine .seqP (b1 = false) [(3, .int .i64 (i : Int)), (1, .ptr 0 0)] [.cells (c.map encV) false] ?_ ?_
    · refine .seq (.region [] (by decide) ?_)
      cases b1 <;> simp only [EOps, EDf, isRd, gdA, callOf, isPanic, nextOf, altA, evalOp, St.ev, Av.get, St.put, argT, ofV, thenQ, Nat.reduceEqDiff, ↓reduceIte, Bool.and_self, List.map_cons, List.map_nil, List.nil_append, List.append_nil, List.getElem?_cons_zero, List.getElem?_cons_succ, List.getElem?_toArray, Option.map_some, Option.bind_some, decide_true, decide_false, beq_false, beq_true, Bool.not_true, Bool.not_false, Bool.false_eq_true, pickA, cond_true, cond_false, ia28 0 i hi, hld, hln, b_gtr, h1]
      · refine .cond (t := false) rfl (.skip ?_)
        refine ⟨by trivial, ?_, rfl, rfl⟩
        simp [holdsT, Av.get]
      · refine .cond (t := true) rfl (.seq (.region [] (by decide) ?_))
        simp only [EOps, EDf, isRd, gdA, callOf, isPanic, nextOf, altA, evalOp, St.ev, Av.get, St.put, argT, ofV, thenQ, Nat.reduceEqDiff, ↓reduceIte, Bool.and_self, List.map_cons, List.map_nil, List.nil_append, List.append_nil, List.getElem?_cons_zero, List.getElem?_cons_succ, List.getElem?_toArray, Option.map_some, Option.bind_some, decide_true, decide_false, beq_false, beq_true, Bool.not_true, Bool.not_false, Bool.false_eq_true, pickA, cond_true, cond_false]
        rw [← hok]
        exact .ret ⟨_, rfl, _, rfl, .refl _⟩
    · rintro rfl
      simp only [Bool.not_false, Bool.true_and] at hok
      have hl20 : v.2.length ≤ 20 := by have := of_decide_eq_false h1; omega
      refine .seq (.region [] (by decide) ?_)
      simp only [EOps, EDf, isRd, gdA, callOf, isPanic, nextOf, altA, evalOp, St.ev, Av.get, St.put, argT, ofV, thenQ, Nat.reduceEqDiff, ↓reduceIte, Bool.and_self, List.map_cons, List.map_nil, List.nil_append, List.append_nil, List.getElem?_cons_zero, List.getElem?_cons_succ, List.getElem?_toArray, Option.map_some, Option.bind_some, decide_true, decide_false, beq_false, beq_true, Bool.not_true, Bool.not_false, Bool.false_eq_true, pickA, cond_true, cond_false]
      refine .block ?_
      refine .forR 4 19 20 21 0 v.2.length (by simp only [maxLen']; omega) (Nat.zero_le _) rfl rfl rfl rfl rfl rfl rfl rfl rfl (by decide)
        (fun k => [(3, .int .i64 (i : Int)), (1, .ptr 0 0)]) (fun _ => rfl) (fun _ => [.cells (c.map encV) false]) (fun _ => Nat.zero_le _) (fun k => (v.2.drop k).all (fun s => !decide ((s.length : Int) > 400)) = v.2.all (fun s => !decide ((s.length : Int) > 400))) rfl rfl ?_ ?_ (subH_self (hH _)) ?_ ?_ ?_
      · simp only [subT, Av.get, Nat.reduceEqDiff, ↓reduceIte, Le_rfl, nat0, nat1, and_self]
      · intro k _
        simp only [hltT, AV.hlt, AV.hlts, strs_hlts, Bool.and_self, Bool.and_true, Bool.true_and]
        rfl
      · intro k hk _
        refine .region [] (by decide) ?_
        simp only [EOps, EDf, isRd, gdA, callOf, isPanic, nextOf, altA, evalOp, St.ev, Av.get, St.put, argT, ofV, thenQ, Nat.reduceEqDiff, ↓reduceIte, Bool.and_self, List.map_cons, List.map_nil, List.nil_append, List.append_nil, List.getElem?_cons_zero, List.getElem?_cons_succ, List.getElem?_toArray, Option.map_some, Option.bind_some, decide_true, decide_false, beq_false, beq_true, Bool.not_true, Bool.not_false, Bool.false_eq_true, pickA, cond_true, cond_false, ia28 0 i hi, hld, hln, b_lss, dlt]
        refine ⟨trivial, ?_, subH_self (hH _), trivial⟩
        simp only [subT, Av.get, Nat.reduceEqDiff, ↓reduceIte, Le_rfl, nat0, nat1, and_self]
      · intro k hk hok'
        obtain ⟨s, hs, hds⟩ := drop_at hk
        rw [hds, List.all_cons] at hok'
        generalize h4 : decide ((s.length : Int) > 400) = b4 at hok'
        have hix : ∀ H, evIndexAddr Tryz.prog 26 (encV v) (.int .i64 (k : Int)) H = some (.vptr [.str s]) := fun H => ia26 v.1 v.2 k s hs H
        refine .block (.seq (.region [] (by decide) ?_))
        cases b4 <;> simp only [EOps, EDf, isRd, gdA, callOf, isPanic, nextOf, altA, evalOp, St.ev, Av.get, St.put, argT, ofV, thenQ, Nat.reduceEqDiff, ↓reduceIte, Bool.and_self, List.map_cons, List.map_nil, List.nil_append, List.append_nil, List.getElem?_cons_zero, List.getElem?_cons_succ, List.getElem?_toArray, Option.map_some, Option.bind_some, decide_true, decide_false, beq_false, beq_true, Bool.not_true, Bool.not_false, Bool.false_eq_true, pickA, cond_true, cond_false, ia28 0 i hi, hld, hix, ld9v, ln9, b_gtr, h4]
        · refine .cond (t := false) rfl (.skip ?_)
          refine ⟨by rw [← hok', Bool.not_false, Bool.true_and], ?_, subH_self (hH _), rfl⟩
          simp only [subT, Av.get, Nat.reduceEqDiff, ↓reduceIte, Le_rfl, nat0, nat1, and_self]
        · refine .cond (t := true) rfl (.seq (.region [] (by decide) ?_))
          simp only [EOps, EDf, isRd, gdA, callOf, isPanic, nextOf, altA, evalOp, St.ev, Av.get, St.put, argT, ofV, thenQ, Nat.reduceEqDiff, ↓reduceIte, Bool.and_self, List.map_cons, List.map_nil, List.nil_append, List.append_nil, List.getElem?_cons_zero, List.getElem?_cons_succ, List.getElem?_toArray, Option.map_some, Option.bind_some, decide_true, decide_false, beq_false, beq_true, Bool.not_true, Bool.not_false, Bool.false_eq_true, pickA, cond_true, cond_false]
          have : fewB c = false := by rw [← hok, ← hok']; rfl
          rw [this]
          exact .ret ⟨_, rfl, _, rfl, .refl _⟩
      · intro hok'
        rw [List.drop_length] at hok'
        rw [← hok'] at hok
        refine ⟨by rw [← hok]; rfl, ?_, subH_self (hH _), rfl⟩
        simp only [subT, Av.get, Nat.reduceEqDiff, ↓reduceIte, Le_rfl, nat0, nat1, and_self]
  · intro hok
    simp only [EOps, EDf, isRd, gdA, callOf, isPanic, nextOf, altA, evalOp, St.ev, Av.get, St.put, argT, ofV, thenQ, Nat.reduceEqDiff, ↓reduceIte, Bool.and_self, List.map_cons, List.map_nil, List.nil_append, List.append_nil, List.getElem?_cons_zero, List.getElem?_cons_succ, List.getElem?_toArray, Option.map_some, Option.bind_some, decide_true, decide_false, beq_false, beq_true, Bool.not_true, Bool.not_false, Bool.false_eq_true, pickA, cond_true, cond_false, blockQ]
    refine .seq (.region [] (by decide) ?_)
    simp only [EOps, EDf, isRd, gdA, callOf, isPanic, nextOf, altA, evalOp, St.ev, Av.get, St.put, argT, ofV, thenQ, Nat.reduceEqDiff, ↓reduceIte, Bool.and_self, List.map_cons, List.map_nil, List.nil_append, List.append_nil, List.getElem?_cons_zero, List.getElem?_cons_succ, List.getElem?_toArray, Option.map_some, Option.bind_some, decide_true, decide_false, beq_false, beq_true, Bool.not_true, Bool.not_false, Bool.false_eq_true, pickA, cond_true, cond_false]
    rw [← hok]
    exact .ret ⟨_, rfl, _, rfl, .refl _⟩

def mayC (c : List Val) : Bool := checkC c && !(decide (fld c 2 = [[45]]))
set_option maxRecDepth 100000 in
theorem may33 (c : List Val) (hc : c.length = 8) : PureFn Tryz.prog 33 [.agg (c.map encV)] (.ret (.bool (mayC c))) := by
  refine PureFn.of Tryz.func33 rfl (enters_call enters Tryz.func33 rfl) (by simp [Tryz.ntmps33]) ?_
  show W Tryz.prog 13 _ none _ _ _
  refine .seq (.region [] (by decide) ?_)
  simp only [EOps, EDf, isRd, gdA, callOf, isPanic, nextOf, altA, evalOp, St.ev, Av.get, St.put, argT, ofV, thenQ, Nat.reduceEqDiff, ↓reduceIte, Bool.and_self, List.map_cons, List.map_nil, List.nil_append, List.append_nil, List.getElem?_cons_zero, List.getElem?_cons_succ, List.getElem?_toArray, Option.map_some, Option.bind_some, decide_true, decide_false, beq_false, beq_true, Bool.not_true, Bool.not_false, Bool.false_eq_true, pickA, cond_true, cond_false, encV_told, if_true, List.length_nil, cells_agg']
  have hl28 := ld28 [.cells (c.map encV) false] 0 c false hc rfl
  have hl1 : ∀ H o, lend H [.agg (c.map encV)] o = some [.agg (c.map encV)] := by intro H o; simp [lend, AV.hfs, AV.hf, encV_hfs]
  have p1 := check29 c hc
  obtain ⟨v, hv, hfv⟩ := fld_at c 2 (by omega)
  have hve : (c.map encV)[2]? = some (encV v) := by simp [hv]
  have hia : ∀ H, evIndexAddr Tryz.prog 28 (.ptr 0 0) (.int .i64 2) H = some (.ptr 0 2) := fun H => ia28 0 2 (by decide) H
  have hld : evLoad Tryz.prog 26 (.ptr 0 2) [.cells (c.map encV) false] = some (encV v) := ld26 _ 0 2 _ _ _ rfl hve
  have p2 := equal28 v.1 true v.2 [[45]]
  have hl2 : ∀ H o, lend H [encV v, .vsl 0 true [.str [45]]] o = some [encV v, .vsl 0 true [.str [45]]] := by intro H o; simp [lend, AV.hfs, AV.hf, encV, strs_hfs]
  unfold mayC
  rw [hfv]
  generalize checkC c = b1 at p1 ⊢
  generalize decide (v.2 = [[45]]) = b2 at p2 ⊢
  have x1 : ({ data := #[45] } : ByteArray).size ≤ maxLen' := by decide
  have d1 : ((0 : Int) == 0) = true := rfl
  have d2 : ((2 : Int) == 0) = false := rfl
  cases b1 with
  | false =>
    refine .seq (.region [.pure (.ret (.int .i64 2))] (by decide) ?_)
    simp only [EOps, EDf, isRd, gdA, callOf, isPanic, nextOf, altA, evalOp, St.ev, Av.get, St.put, argT, ofV, thenQ, Nat.reduceEqDiff, ↓reduceIte, Bool.and_self, List.map_cons, List.map_nil, List.nil_append, List.append_nil, List.getElem?_cons_zero, List.getElem?_cons_succ, List.getElem?_toArray, Option.map_some, Option.bind_some, decide_true, decide_false, beq_false, beq_true, Bool.not_true, Bool.not_false, Bool.false_eq_true, pickA, cond_true, cond_false, hl28, hl1, b_eql, d2]
    exact ⟨p1, .ret ⟨_, rfl, _, rfl, .refl _⟩⟩
  | true =>
    refine .seq (.region [.pure (.ret (.int .i64 0)), .pure (.ret (.bool b2))] (by decide) ?_)
    simp only [EOps, EDf, isRd, gdA, callOf, isPanic, nextOf, altA, evalOp, St.ev, Av.get, St.put, argT, ofV, thenQ, Nat.reduceEqDiff, ↓reduceIte, Bool.and_self, List.map_cons, List.map_nil, List.nil_append, List.append_nil, List.getElem?_cons_zero, List.getElem?_cons_succ, List.getElem?_toArray, Option.map_some, Option.bind_some, decide_true, decide_false, beq_false, beq_true, Bool.not_true, Bool.not_false, Bool.false_eq_true, pickA, cond_true, cond_false, hl28, hl1, b_eql, d1, hia, hld, bs26one, x1, if_true, hl2, u_not]
    exact ⟨p1, p2, .ret ⟨_, rfl, _, rfl, .refl _⟩⟩

def mayR (c : List Val) : Bool := rightC c && (((fld c 2).length : Int) == 0 || !((fld c 2).headD [] == [45]))
end Go.Proofs.YtmeijkidjifagaaGreat
