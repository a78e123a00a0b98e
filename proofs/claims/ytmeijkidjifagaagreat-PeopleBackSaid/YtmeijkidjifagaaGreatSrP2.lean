/- Contracts of functions that the statements of this seat reach: under the conditions named at each theorem. -/
import Derived.Test.YtmeijkidjifagaaGreatSrP1
import Derived.Test.YtmeijkidjifagaaGreatSvP5
namespace Go.Proofs.YtmeijkidjifagaaGreat
set_option linter.unusedVariables false
set_option linter.unusedSimpArgs false
open Go Go.Av

theorem mixed : Tryz.prog.follows .mixedOrders = true := by kernel_rfl
theorem fa104_0 : evFieldAddr Tryz.prog 104 (.ptr 0 0) 0 = some (.ptr 0 0) := by kernel_rfl
theorem fa104_1 : evFieldAddr Tryz.prog 104 (.ptr 0 0) 1 = some (.ptr 0 1) := by kernel_rfl
theorem tz9 : tsz Tryz.prog 9 = some 1 := by kernel_rfl
theorem tg9 : tag Tryz.prog 9 = some false := by kernel_rfl
theorem ld9 (H : List OB) (id off : Nat) (cs : List AV) (b : Bool) (v : AV) (h : H[id]? = some (.cells cs b)) (hv : cs[off]? = some v) : evLoad Tryz.prog 9 (.ptr id off) H = some v := by
  simp [evLoad, tz9, tg9, ldA, h, hv]

set_option maxRecDepth 100000 in
theorem part97 (t v : Bytes) : PureFn Tryz.prog 97 [.agg [.str t, .str v]] (.ret (.bool (isName t && (small t == t) && decide ((v.length : Int) ≥ 1) && decide ((v.length : Int) ≤ 200)))) := by
  refine PureFn.of Tryz.func97 rfl (enters_call enters Tryz.func97 rfl) (by simp [Tryz.ntmps97]) ?_
  show W Tryz.prog 26 _ none _ _ _
  refine .seq (.region [] (by decide) ?_)
  simp only [EOps, EDf, isRd, gdA, callOf, isPanic, nextOf, altA, evalOp, St.ev, Av.get, St.put, argT, ofV, thenQ, Nat.reduceEqDiff, ↓reduceIte, lend, AV.hfs, AV.hf, Bool.and_self, List.map_cons, List.map_nil, List.nil_append, List.append_nil, List.getElem?_cons_zero, List.getElem?_cons_succ, List.getElem?_toArray, Option.map_some, Option.bind_some, decide_true, decide_false, beq_false, beq_true, Bool.not_true, Bool.not_false, Bool.false_eq_true, pickA, cond_true, cond_false, AV.told, AV.cells, List.length_nil, if_true]
  have l0 : evLoad Tryz.prog 9 (.ptr 0 0) [.cells [.str t, .str v] false] = some (.str t) := ld9 _ _ _ _ _ _ rfl rfl
  have l1 : evLoad Tryz.prog 9 (.ptr 0 1) [.cells [.str t, .str v] false] = some (.str v) := ld9 _ _ _ _ _ _ rfl rfl
  have p1 := name98 t
  have p2 := small46 t
  generalize hb1 : isName t = b1
  generalize hb2 : (small t == t) = b2
  generalize hb3 : decide ((v.length : Int) ≥ 1) = b3
  generalize hb4 : decide ((v.length : Int) ≤ 200) = b4
  rw [hb1] at p1
  cases b1 with
  | false =>
    refine .seq (.drawf [.pure (.ret (.bool false))] mixed (by kernel_rfl) (by kernel_rfl) (by kernel_rfl) ?_)
    simp only [EOps, EDf, isRd, gdA, callOf, isPanic, nextOf, altA, evalOp, St.ev, Av.get, St.put, argT, ofV, thenQ, Nat.reduceEqDiff, ↓reduceIte, lend, AV.hfs, AV.hf, Bool.and_self, List.map_cons, List.map_nil, List.nil_append, List.append_nil, List.getElem?_cons_zero, List.getElem?_cons_succ, List.getElem?_toArray, Option.map_some, Option.bind_some, decide_true, decide_false, beq_false, beq_true, Bool.not_true, Bool.not_false, Bool.false_eq_true, pickA, cond_true, cond_false, fa104_0, fa104_1, l0, l1]
    refine ⟨p1, ?_⟩
    exact .ret ⟨_, rfl, _, rfl, .refl _⟩
  | true =>
    refine .seq (.drawf [.pure (.ret (.bool true)), .pure (.ret (.str (small t)))] mixed (by kernel_rfl) (by kernel_rfl) (by kernel_rfl) ?_)
    cases b2 <;> cases b3 <;> cases b4 <;> simp only [EOps, EDf, isRd, gdA, callOf, isPanic, nextOf, altA, evalOp, St.ev, Av.get, St.put, argT, ofV, thenQ, Nat.reduceEqDiff, ↓reduceIte, lend, AV.hfs, AV.hf, Bool.and_self, List.map_cons, List.map_nil, List.nil_append, List.append_nil, List.getElem?_cons_zero, List.getElem?_cons_succ, List.getElem?_toArray, Option.map_some, Option.bind_some, decide_true, decide_false, beq_false, beq_true, Bool.not_true, Bool.not_false, Bool.false_eq_true, pickA, cond_true, cond_false, fa104_0, fa104_1, l0, l1, s_eql, hb2, b_geq, b_leq, hb3, hb4, ln9] <;> exact ⟨p1, p2, .ret ⟨_, rfl, _, rfl, .refl _⟩⟩
end Go.Proofs.YtmeijkidjifagaaGreat
namespace Go.Proofs.YtmeijkidjifagaaGreat
set_option linter.unusedVariables false
set_option linter.unusedSimpArgs false
open Go Go.Av

theorem fz_func {g h : FuncId} {fs cs : List AV} {b : Bool} {k : Nat} (h1 : AV.hfs fs = true) (h2 : AV.hfs cs = true) :
    fz [.cells [.func (.func g) fs cs] b] (k + 2) (.func (.func h) [] [.ptr 0 0]) = some (.func (.func h) [] [.vptr [.func (.func g) fs cs]]) := by
  have hc : AV.hf (.func (.func g) fs cs) = true := by simp [AV.hf, h1, h2]
  unfold fz
  rw [if_neg (by simp [AV.hf, AV.hfs])]
  simp only [AV.hfs, AV.hf, Bool.false_and, Bool.false_eq_true, if_false, if_true, List.mapM_cons, List.mapM_nil]
  have : fz [.cells [.func (.func g) fs cs] b] (k + 1) (.ptr 0 0) = some (.vptr [.func (.func g) fs cs]) := by
    unfold fz
    rw [if_neg (by simp [AV.hf])]
    simp [AV.hfs, hc]
  rw [this]; rfl
theorem fz_vsl {H : List OB} {wd k : Nat} {x : Bool} {es : List AV} (h : AV.hfs es = true) : fz H (k + 1) (.vsl wd x es) = some (.vsl wd x es) := by
  unfold fz
  rw [if_pos (by simpa [AV.hf] using h)]
theorem lend_each {g h : FuncId} {fs cs es : List AV} {b x o : Bool} {wd : Nat} (h0 : AV.hfs es = true) (h1 : AV.hfs fs = true) (h2 : AV.hfs cs = true) :
    lend [.cells [.func (.func g) fs cs] b] [.vsl wd x es, .func (.func h) [] [.ptr 0 0]] (.ret (.bool o)) = some [.vsl wd x es, .func (.func h) [] [.vptr [.func (.func g) fs cs]]] := by
  unfold lend
  rw [if_neg (by simp [AV.hfs, AV.hf]), if_pos (show (Out.ret (AV.bool o)).scalar = true from rfl)]
  simp only [List.mapM_cons, List.mapM_nil, fz_vsl h0, fz_func h1 h2]
  rfl

theorem clo76 (v : AV) (hsh : shp 0 v) (g : FuncId) (fs cs : List AV) (p : Bool) (hv : AV.hf v = true) (h1 : AV.hfs fs = true) (h2 : AV.hfs cs = true) (hp : PureFn Tryz.prog g (fs ++ [v] ++ cs) (.ret (.bool p))) :
    PureFn Tryz.prog 76 [v, .vptr [.func (.func g) fs cs]] (.ret (.bool !p)) := by
  skip
  refine PureFn.of Tryz.func76 rfl (enters_call enters Tryz.func76 rfl) (by simp [Tryz.ntmps76]) ?_
  show W Tryz.prog 8 _ none _ _ _
  have hz : tsz Tryz.prog 73 = some 1 := by kernel_rfl
  have hg : tag Tryz.prog 73 = some false := by kernel_rfl
  have hld : ∀ H, evLoad Tryz.prog 73 (.vptr [.func (.func g) fs cs]) H = some (.func (.func g) fs cs) := by intro H; simp [evLoad, hz, hg, ldA]
  have hhf : AV.hfs (fs ++ ([v] ++ cs)) = true := by
    rw [hfs_all] at h1 h2 ⊢
    simp [List.all_append, h1, h2, hv]
  have hld2 : True := trivial
  refine .seq (.region [] (by decide) ?_)
  simp only [EOps, EDf, isRd, gdA, callOf, isPanic, nextOf, altA, evalOp, St.ev, Av.get, St.put, argT, ofV, thenQ, Nat.reduceEqDiff, ↓reduceIte, lend, AV.hfs, AV.hf, Bool.and_self, List.map_cons, List.map_nil, List.nil_append, List.append_nil, List.getElem?_cons_zero, List.getElem?_cons_succ, List.getElem?_toArray, Option.map_some, Option.bind_some, decide_true, decide_false, beq_false, beq_true, Bool.not_true, Bool.not_false, Bool.false_eq_true, pickA, cond_true, cond_false, AV.told, AV.cells, List.length_nil, if_true]
  refine .seq (.region [.pure (.ret (.bool p))] (by decide) ?_)
  simp only [EOps, EDf, isRd, gdA, callOf, isPanic, nextOf, altA, evalOp, St.ev, Av.get, St.put, argT, ofV, thenQ, Nat.reduceEqDiff, ↓reduceIte, lend, AV.hfs, AV.hf, Bool.and_self, List.map_cons, List.map_nil, List.nil_append, List.append_nil, List.getElem?_cons_zero, List.getElem?_cons_succ, List.getElem?_toArray, Option.map_some, Option.bind_some, decide_true, decide_false, beq_false, beq_true, Bool.not_true, Bool.not_false, Bool.false_eq_true, pickA, cond_true, cond_false, hld, hld2, List.append_assoc, hhf, if_true, u_not]
  refine ⟨by rw [List.append_assoc] at hp; exact hp, ?_⟩
  exact .ret ⟨_, rfl, _, rfl, .refl _⟩

theorem each47 (x : Bool) (es : List AV) (g : FuncId) (fs cs : List AV) (p : AV → Bool) (hs : ∀ v ∈ es, shp 0 v) (hh : AV.hfs es = true ∧ AV.hfs fs = true ∧ AV.hfs cs = true)
    (hp : ∀ v ∈ es, PureFn Tryz.prog g (fs ++ [v] ++ cs) (.ret (.bool (p v)))) : PureFn Tryz.prog 47 [.vsl 0 x es, .func (.func g) fs cs] (.ret (.bool (es.all p))) := by
  obtain ⟨h0, h1, h2⟩ := hh
  refine PureFn.of Tryz.func47 rfl (enters_call enters Tryz.func47 rfl) (by simp [Tryz.ntmps47]) ?_
  show W Tryz.prog 9 _ none _ _ _
  refine .seq (.region [] (by decide) ?_)
  simp only [EOps, EDf, isRd, gdA, callOf, isPanic, nextOf, altA, evalOp, St.ev, Av.get, St.put, argT, ofV, thenQ, Nat.reduceEqDiff, ↓reduceIte, lend, AV.hfs, AV.hf, Bool.and_self, List.map_cons, List.map_nil, List.nil_append, List.append_nil, List.getElem?_cons_zero, List.getElem?_cons_succ, List.getElem?_toArray, Option.map_some, Option.bind_some, decide_true, decide_false, beq_false, beq_true, Bool.not_true, Bool.not_false, Bool.false_eq_true, pickA, cond_true, cond_false, AV.told, AV.cells, List.length_nil, if_true]
  have hl := lend_each (g := g) (fs := fs) (cs := cs) (es := es) (h := 76) (b := false) (x := x) (wd := 0) (o := es.any fun v => !p v) h0 h1 h2
  refine .seq (.region [.pure (.ret (.bool (es.any fun v => !p v)))] (by decide) ?_)
  simp only [EOps, EDf, isRd, gdA, callOf, isPanic, nextOf, altA, evalOp, St.ev, Av.get, St.put, argT, ofV, thenQ, Nat.reduceEqDiff, ↓reduceIte, Bool.and_self, List.map_cons, List.map_nil, List.nil_append, List.append_nil, List.getElem?_cons_zero, List.getElem?_cons_succ, List.getElem?_toArray, Option.map_some, Option.bind_some, decide_true, decide_false, beq_false, beq_true, Bool.not_true, Bool.not_false, Bool.false_eq_true, pickA, cond_true, cond_false, hl, u_not]
  refine ⟨cf54 x es 76 [] [.vptr [.func (.func g) fs cs]] (fun v => !p v) hs ⟨h0, rfl, by simp [AV.hfs, AV.hf, h1, h2]⟩ (fun v hv => clo76 v (hs v hv) g fs cs (p v) ?_ h1 h2 (hp v hv)), ?_⟩
  · rw [hfs_all] at h0; exact List.all_eq_true.1 h0 v hv
  · refine .ret ⟨_, rfl, _, rfl, ?_⟩
    have : (!es.any fun v => !p v) = es.all p := by
      rw [List.any_eq_not_all_not]; simp
    rw [this]
    exact .refl _

theorem clo115 (v : AV) (hsh : shp 3 v) (g : FuncId) (fs cs : List AV) (p : Bool) (hv : AV.hf v = true) (h1 : AV.hfs fs = true) (h2 : AV.hfs cs = true) (hp : PureFn Tryz.prog g (fs ++ [v] ++ cs) (.ret (.bool p))) :
    PureFn Tryz.prog 115 [v, .vptr [.func (.func g) fs cs]] (.ret (.bool !p)) := by
  skip
  refine PureFn.of Tryz.func115 rfl (enters_call enters Tryz.func115 rfl) (by simp [Tryz.ntmps115]) ?_
  show W Tryz.prog 8 _ none _ _ _
  have hz : tsz Tryz.prog 119 = some 1 := by kernel_rfl
  have hg : tag Tryz.prog 119 = some false := by kernel_rfl
  have hld : ∀ H, evLoad Tryz.prog 119 (.vptr [.func (.func g) fs cs]) H = some (.func (.func g) fs cs) := by intro H; simp [evLoad, hz, hg, ldA]
  have hhf : AV.hfs (fs ++ ([v] ++ cs)) = true := by
    rw [hfs_all] at h1 h2 ⊢
    simp [List.all_append, h1, h2, hv]
  obtain ⟨l, rfl, hl'⟩ := hsh
  have hl : l.length = 2 := hl'
  have hz2 : tsz Tryz.prog 104 = some 2 := by kernel_rfl
  have hg2 : tag Tryz.prog 104 = some true := by kernel_rfl
  have hld2 : evLoad Tryz.prog 104 (.ptr 0 0) [.cells l false] = some (.agg l) := by
    simp [evLoad, hz2, hg2, ldA, hl]
    exact List.take_of_length_le (by rw [hl]; exact Nat.le_refl 2)
  refine .seq (.region [] (by decide) ?_)
  simp only [EOps, EDf, isRd, gdA, callOf, isPanic, nextOf, altA, evalOp, St.ev, Av.get, St.put, argT, ofV, thenQ, Nat.reduceEqDiff, ↓reduceIte, lend, AV.hfs, AV.hf, Bool.and_self, List.map_cons, List.map_nil, List.nil_append, List.append_nil, List.getElem?_cons_zero, List.getElem?_cons_succ, List.getElem?_toArray, Option.map_some, Option.bind_some, decide_true, decide_false, beq_false, beq_true, Bool.not_true, Bool.not_false, Bool.false_eq_true, pickA, cond_true, cond_false, AV.told, AV.cells, List.length_nil, if_true]
  refine .seq (.region [.pure (.ret (.bool p))] (by decide) ?_)
  simp only [EOps, EDf, isRd, gdA, callOf, isPanic, nextOf, altA, evalOp, St.ev, Av.get, St.put, argT, ofV, thenQ, Nat.reduceEqDiff, ↓reduceIte, lend, AV.hfs, AV.hf, Bool.and_self, List.map_cons, List.map_nil, List.nil_append, List.append_nil, List.getElem?_cons_zero, List.getElem?_cons_succ, List.getElem?_toArray, Option.map_some, Option.bind_some, decide_true, decide_false, beq_false, beq_true, Bool.not_true, Bool.not_false, Bool.false_eq_true, pickA, cond_true, cond_false, hld, hld2, List.append_assoc, hhf, if_true, u_not]
  refine ⟨by rw [List.append_assoc] at hp; exact hp, ?_⟩
  exact .ret ⟨_, rfl, _, rfl, .refl _⟩

theorem each99 (x : Bool) (es : List AV) (g : FuncId) (fs cs : List AV) (p : AV → Bool) (hs : ∀ v ∈ es, shp 3 v) (hh : AV.hfs es = true ∧ AV.hfs fs = true ∧ AV.hfs cs = true)
    (hp : ∀ v ∈ es, PureFn Tryz.prog g (fs ++ [v] ++ cs) (.ret (.bool (p v)))) : PureFn Tryz.prog 99 [.vsl 3 x es, .func (.func g) fs cs] (.ret (.bool (es.all p))) := by
  obtain ⟨h0, h1, h2⟩ := hh
  refine PureFn.of Tryz.func99 rfl (enters_call enters Tryz.func99 rfl) (by simp [Tryz.ntmps99]) ?_
  show W Tryz.prog 9 _ none _ _ _
  refine .seq (.region [] (by decide) ?_)
  simp only [EOps, EDf, isRd, gdA, callOf, isPanic, nextOf, altA, evalOp, St.ev, Av.get, St.put, argT, ofV, thenQ, Nat.reduceEqDiff, ↓reduceIte, lend, AV.hfs, AV.hf, Bool.and_self, List.map_cons, List.map_nil, List.nil_append, List.append_nil, List.getElem?_cons_zero, List.getElem?_cons_succ, List.getElem?_toArray, Option.map_some, Option.bind_some, decide_true, decide_false, beq_false, beq_true, Bool.not_true, Bool.not_false, Bool.false_eq_true, pickA, cond_true, cond_false, AV.told, AV.cells, List.length_nil, if_true]
  have hl := lend_each (g := g) (fs := fs) (cs := cs) (es := es) (h := 115) (b := false) (x := x) (wd := 3) (o := es.any fun v => !p v) h0 h1 h2
  refine .seq (.region [.pure (.ret (.bool (es.any fun v => !p v)))] (by decide) ?_)
  simp only [EOps, EDf, isRd, gdA, callOf, isPanic, nextOf, altA, evalOp, St.ev, Av.get, St.put, argT, ofV, thenQ, Nat.reduceEqDiff, ↓reduceIte, Bool.and_self, List.map_cons, List.map_nil, List.nil_append, List.append_nil, List.getElem?_cons_zero, List.getElem?_cons_succ, List.getElem?_toArray, Option.map_some, Option.bind_some, decide_true, decide_false, beq_false, beq_true, Bool.not_true, Bool.not_false, Bool.false_eq_true, pickA, cond_true, cond_false, hl, u_not]
  refine ⟨cf114 x es 115 [] [.vptr [.func (.func g) fs cs]] (fun v => !p v) hs ⟨h0, rfl, by simp [AV.hfs, AV.hf, h1, h2]⟩ (fun v hv => clo115 v (hs v hv) g fs cs (p v) ?_ h1 h2 (hp v hv)), ?_⟩
  · rw [hfs_all] at h0; exact List.all_eq_true.1 h0 v hv
  · refine .ret ⟨_, rfl, _, rfl, ?_⟩
    have : (!es.any fun v => !p v) = es.all p := by
      rw [List.any_eq_not_all_not]; simp
    rw [this]
    exact .refl _
end Go.Proofs.YtmeijkidjifagaaGreat
namespace Go.Proofs.YtmeijkidjifagaaGreat
set_option linter.unusedVariables false
set_option linter.unusedSimpArgs false
open Go Go.Av

def partB (t v : Bytes) : Bool := isName t && (small t == t) && decide ((v.length : Int) ≥ 1) && decide ((v.length : Int) ≤ 200)
def encR (r : Bytes × Bytes) : AV := .agg [.str r.1, .str r.2]
def pA : AV → Bool
  | .agg [.str t, .str v] => partB t v
  | _ => false
def checkB (d : List (Bytes × Bytes)) : Bool := !decide ((d.length : Int) > 16) && d.all fun r => partB r.1 r.2

theorem encR_hfs (d : List (Bytes × Bytes)) : AV.hfs (d.map encR) = true := by
  rw [hfs_all, List.all_eq_true]; intro v hv; obtain ⟨r, _, rfl⟩ := List.mem_map.1 hv; rfl
theorem encR_shp (d : List (Bytes × Bytes)) : ∀ v ∈ d.map encR, shp 3 v := by
  intro v hv; obtain ⟨r, _, rfl⟩ := List.mem_map.1 hv; exact ⟨_, rfl, rfl⟩
theorem encR_all (d : List (Bytes × Bytes)) : (d.map encR).all pA = d.all fun r => partB r.1 r.2 := by
  rw [List.all_map]; rfl

theorem check75 (x : Bool) (d : List (Bytes × Bytes)) : PureFn Tryz.prog 75 [.vsl 3 x (d.map encR)] (.ret (.int .i64 (if checkB d = true then 0 else 2))) := by
  refine PureFn.of Tryz.func75 rfl (enters_call enters Tryz.func75 rfl) (by simp [Tryz.ntmps75]) ?_
  show W Tryz.prog 13 _ none _ _ _
  refine .seq (.region [] (by decide) ?_)
  simp only [EOps, EDf, isRd, gdA, callOf, isPanic, nextOf, altA, evalOp, St.ev, Av.get, St.put, argT, ofV, thenQ, Nat.reduceEqDiff, ↓reduceIte, lend, AV.hfs, AV.hf, Bool.and_self, List.map_cons, List.map_nil, List.nil_append, List.append_nil, List.getElem?_cons_zero, List.getElem?_cons_succ, List.getElem?_toArray, Option.map_some, Option.bind_some, decide_true, decide_false, beq_false, beq_true, Bool.not_true, Bool.not_false, Bool.false_eq_true, pickA, cond_true, cond_false]
  refine .seq (.region [] (by decide) ?_)
  simp only [EOps, EDf, isRd, gdA, callOf, isPanic, nextOf, altA, evalOp, St.ev, Av.get, St.put, argT, ofV, thenQ, Nat.reduceEqDiff, ↓reduceIte, lend, AV.hfs, AV.hf, Bool.and_self, List.map_cons, List.map_nil, List.nil_append, List.append_nil, List.getElem?_cons_zero, List.getElem?_cons_succ, List.getElem?_toArray, Option.map_some, Option.bind_some, decide_true, decide_false, beq_false, beq_true, Bool.not_true, Bool.not_false, Bool.false_eq_true, pickA, cond_true, cond_false]
  have hln : ∀ H, evLen Tryz.prog 106 (.vsl 3 x (d.map encR)) H = some (.int .i64 d.length) := by intro H; simp [evLen, Tryz.underlying106]
  have hp := each99 x (d.map encR) 97 [] [] pA (encR_shp d) ⟨encR_hfs d, rfl, rfl⟩ (by
    intro v hv; obtain ⟨r, _, rfl⟩ := List.mem_map.1 hv; exact part97 r.1 r.2)
  rw [encR_all] at hp
  have hh := encR_hfs d
  have hc : checkB d = (!decide ((d.length : Int) > 16) && d.all fun r => partB r.1 r.2) := rfl
  rw [hc]
  generalize h1 : decide ((d.length : Int) > 16) = b1
  generalize h2 : (d.all fun r => partB r.1 r.2) = b2
  rw [h2] at hp
  cases b1 with
  | true =>
    refine .seq (.seq (.region [] (by decide) ?_))
    simp only [EOps, EDf, isRd, gdA, callOf, isPanic, nextOf, altA, evalOp, St.ev, Av.get, St.put, argT, ofV, thenQ, Nat.reduceEqDiff, ↓reduceIte, lend, AV.hfs, AV.hf, Bool.and_self, List.map_cons, List.map_nil, List.nil_append, List.append_nil, List.getElem?_cons_zero, List.getElem?_cons_succ, List.getElem?_toArray, Option.map_some, Option.bind_some, decide_true, decide_false, beq_false, beq_true, Bool.not_true, Bool.not_false, Bool.false_eq_true, pickA, cond_true, cond_false, hln, b_gtr, h1]
    refine .cond (t := true) rfl (.seq (.region [] (by decide) ?_))
    simp only [EOps, EDf, isRd, gdA, callOf, isPanic, nextOf, altA, evalOp, St.ev, Av.get, St.put, argT, ofV, thenQ, Nat.reduceEqDiff, ↓reduceIte, lend, AV.hfs, AV.hf, Bool.and_self, List.map_cons, List.map_nil, List.nil_append, List.append_nil, List.getElem?_cons_zero, List.getElem?_cons_succ, List.getElem?_toArray, Option.map_some, Option.bind_some, decide_true, decide_false, beq_false, beq_true, Bool.not_true, Bool.not_false, Bool.false_eq_true, pickA, cond_true, cond_false]
    exact .ret ⟨_, rfl, _, rfl, .refl _⟩
  | false =>
    refine .seq (.seq (.region [.pure (.ret (.bool b2))] (by decide) ?_))
    simp only [EOps, EDf, isRd, gdA, callOf, isPanic, nextOf, altA, evalOp, St.ev, Av.get, St.put, argT, ofV, thenQ, Nat.reduceEqDiff, ↓reduceIte, lend, AV.hfs, AV.hf, Bool.and_self, List.map_cons, List.map_nil, List.nil_append, List.append_nil, List.getElem?_cons_zero, List.getElem?_cons_succ, List.getElem?_toArray, Option.map_some, Option.bind_some, decide_true, decide_false, beq_false, beq_true, Bool.not_true, Bool.not_false, Bool.false_eq_true, pickA, cond_true, cond_false, hln, b_gtr, h1, hh, if_true, u_not]
    refine ⟨hp, ?_⟩
    cases b2 with
    | false =>
      refine .cond (t := true) rfl (.seq (.region [] (by decide) ?_))
      simp only [EOps, EDf, isRd, gdA, callOf, isPanic, nextOf, altA, evalOp, St.ev, Av.get, St.put, argT, ofV, thenQ, Nat.reduceEqDiff, ↓reduceIte, lend, AV.hfs, AV.hf, Bool.and_self, List.map_cons, List.map_nil, List.nil_append, List.append_nil, List.getElem?_cons_zero, List.getElem?_cons_succ, List.getElem?_toArray, Option.map_some, Option.bind_some, decide_true, decide_false, beq_false, beq_true, Bool.not_true, Bool.not_false, Bool.false_eq_true, pickA, cond_true, cond_false]
      exact .ret ⟨_, rfl, _, rfl, .refl _⟩
    | true =>
      refine .cond (t := false) rfl (.skip ?_)
      simp only [EOps, EDf, isRd, gdA, callOf, isPanic, nextOf, altA, evalOp, St.ev, Av.get, St.put, argT, ofV, thenQ, Nat.reduceEqDiff, ↓reduceIte, lend, AV.hfs, AV.hf, Bool.and_self, List.map_cons, List.map_nil, List.nil_append, List.append_nil, List.getElem?_cons_zero, List.getElem?_cons_succ, List.getElem?_toArray, Option.map_some, Option.bind_some, decide_true, decide_false, beq_false, beq_true, Bool.not_true, Bool.not_false, Bool.false_eq_true, pickA, cond_true, cond_false]
      refine .seq (.region [] (by decide) ?_)
      simp only [EOps, EDf, isRd, gdA, callOf, isPanic, nextOf, altA, evalOp, St.ev, Av.get, St.put, argT, ofV, thenQ, Nat.reduceEqDiff, ↓reduceIte, lend, AV.hfs, AV.hf, Bool.and_self, List.map_cons, List.map_nil, List.nil_append, List.append_nil, List.getElem?_cons_zero, List.getElem?_cons_succ, List.getElem?_toArray, Option.map_some, Option.bind_some, decide_true, decide_false, beq_false, beq_true, Bool.not_true, Bool.not_false, Bool.false_eq_true, pickA, cond_true, cond_false]
      exact .ret ⟨_, rfl, _, rfl, .refl _⟩

theorem bd104 (t : Bytes) : evBuild Tryz.prog 104 [(0, .str t), (1, .str [120])] = some (.agg [.str t, .str [120]]) := by kernel_rfl
theorem bs106 (v : AV) (h : shp 3 v) : evBuildSlice Tryz.prog 106 1 [(0, v)] = some (.vsl 3 true [v]) := by
  obtain ⟨l, rfl, hl'⟩ := h
  have hl : l.length = 2 := hl'
  have ha : apT Tryz.prog 105 = apT Tryz.prog 105 := rfl
  have h1 : apT Tryz.prog 104 = some (2, 3, 32) := by kernel_rfl
  simp [evBuildSlice, Tryz.underlying106, h1, AV.cells, hl, AV.told, List.range']

/-- May a text be a name, in whatever letters? -/
def nameB (s : Bytes) : Bool := checkB [(small s, [120])]

theorem name45 (s : Bytes) : PureFn Tryz.prog 45 [.str s] (.ret (.bool (nameB s))) := by
  refine PureFn.of Tryz.func45 rfl (enters_call enters Tryz.func45 rfl) (by simp [Tryz.ntmps45]) ?_
  show W Tryz.prog 9 _ none _ _ _
  refine .seq (.region [] (by decide) ?_)
  simp only [EOps, EDf, isRd, gdA, callOf, isPanic, nextOf, altA, evalOp, St.ev, Av.get, St.put, argT, ofV, thenQ, Nat.reduceEqDiff, ↓reduceIte, lend, AV.hfs, AV.hf, Bool.and_self, List.map_cons, List.map_nil, List.nil_append, List.append_nil, List.getElem?_cons_zero, List.getElem?_cons_succ, List.getElem?_toArray, Option.map_some, Option.bind_some, decide_true, decide_false, beq_false, beq_true, Bool.not_true, Bool.not_false, Bool.false_eq_true, pickA, cond_true, cond_false]
  have hp := check75 true [(small s, [120])]
  have hs := small46 s
  have hb : evBuildSlice Tryz.prog 106 1 [(0, .agg [.str (small s), .str [120]])] = some (.vsl 3 true [.agg [.str (small s), .str [120]]]) := bs106 _ ⟨_, rfl, rfl⟩
  have hm : 1 ≤ maxLen' := by decide
  have hc : nameB s = checkB [(small s, [120])] := rfl
  rw [hc]
  generalize checkB [(small s, [120])] = b at hp
  refine .seq (.region [.pure (.ret (.str (small s))), .pure (.ret (.int .i64 (if b = true then 0 else 2)))] (by decide) ?_)
  have x1 : ({ data := #[120] } : ByteArray).size ≤ maxLen' := by decide
  have x2 : AV.hf (.vsl 3 true [.agg [.str (small s), .str [120]]]) = true := rfl
  have x3 : (((if b = true then 0 else 2 : Int)) == 0) = b := by cases b <;> rfl
  simp only [EOps, EDf, isRd, gdA, callOf, isPanic, nextOf, altA, evalOp, St.ev, Av.get, St.put, argT, ofV, thenQ, Nat.reduceEqDiff, ↓reduceIte, lend, AV.hfs, AV.hf, Bool.and_self, List.map_cons, List.map_nil, List.nil_append, List.append_nil, List.getElem?_cons_zero, List.getElem?_cons_succ, List.getElem?_toArray, Option.map_some, Option.bind_some, decide_true, decide_false, beq_false, beq_true, Bool.not_true, Bool.not_false, Bool.false_eq_true, pickA, cond_true, cond_false, bd104, hb, b_eql, x1, if_true, x2, x3]
  exact ⟨hs, hp, .ret ⟨_, rfl, _, rfl, .refl _⟩⟩
end Go.Proofs.YtmeijkidjifagaaGreat
namespace Go.Proofs.YtmeijkidjifagaaGreat
set_option linter.unusedVariables false
set_option linter.unusedSimpArgs false
open Go Go.Av

theorem ia26 (x : Bool) (l : List Bytes) (i : Nat) (b : Bytes) (h : l[i]? = some b) (H : List OB) : evIndexAddr Tryz.prog 26 (.vsl 0 x (l.map .str)) (.int .i64 (i : Int)) H = some (.vptr [.str b]) := by
  have h1 : (l.map AV.str)[i]? = some (.str b) := by simp [h]
  simp [evIndexAddr, idx_nat, Tryz.underlying26, tz9, h1, AV.cells]
theorem ld9v (b : Bytes) (H : List OB) : evLoad Tryz.prog 9 (.vptr [.str b]) H = some (.str b) := by
  simp [evLoad, tz9, tg9, ldA]
theorem ln26 (x : Bool) (l : List Bytes) (H : List OB) : evLen Tryz.prog 26 (.vsl 0 x (l.map .str)) H = some (.int .i64 l.length) := by simp [evLen, Tryz.underlying26]

theorem equal28 (x y : Bool) (l m : List Bytes) : PureFn Tryz.prog 28 [.vsl 0 x (l.map .str), .vsl 0 y (m.map .str)] (.ret (.bool (decide (l = m)))) := by
  refine PureFn.fit fun hfit => ?_
  have hb : l.length ≤ maxLen' := by have : (l.map AV.str).length ≤ maxLen' := hfit (.vsl 0 x (l.map .str)) (by simp); simpa using this
  refine PureFn.of Tryz.func28 rfl (enters_call enters Tryz.func28 rfl) (by simp [Tryz.ntmps28]) ?_
  show W Tryz.prog 26 _ none _ _ _
  refine .seq (.region [] (by decide) ?_)
  simp only [EOps, EDf, isRd, gdA, callOf, isPanic, nextOf, altA, evalOp, St.ev, Av.get, St.put, argT, ofV, thenQ, Nat.reduceEqDiff, ↓reduceIte, lend, AV.hfs, AV.hf, Bool.and_self, List.map_cons, List.map_nil, List.nil_append, List.append_nil, List.getElem?_cons_zero, List.getElem?_cons_succ, List.getElem?_toArray, Option.map_some, Option.bind_some, decide_true, decide_false, beq_false, beq_true, Bool.not_true, Bool.not_false, Bool.false_eq_true, pickA, cond_true, cond_false]
  refine .seq (.seq (.region [] (by decide) ?_))
  simp only [EOps, EDf, isRd, gdA, callOf, isPanic, nextOf, altA, evalOp, St.ev, Av.get, St.put, argT, ofV, thenQ, Nat.reduceEqDiff, ↓reduceIte, lend, AV.hfs, AV.hf, Bool.and_self, List.map_cons, List.map_nil, List.nil_append, List.append_nil, List.getElem?_cons_zero, List.getElem?_cons_succ, List.getElem?_toArray, Option.map_some, Option.bind_some, decide_true, decide_false, beq_false, beq_true, Bool.not_true, Bool.not_false, Bool.false_eq_true, pickA, cond_true, cond_false, ln26, b_neq]
  by_cases hlen : l.length = m.length
  · have hn : (((l.length : Int)) != (m.length : Int)) = false := by simp [hlen]
    refine .cond (t := false) (by simp [St.ev, Av.get, hlen]) (.skip ?_)
    simp only [EOps, EDf, isRd, gdA, callOf, isPanic, nextOf, altA, evalOp, St.ev, Av.get, St.put, argT, ofV, thenQ, Nat.reduceEqDiff, ↓reduceIte, lend, AV.hfs, AV.hf, Bool.and_self, List.map_cons, List.map_nil, List.nil_append, List.append_nil, List.getElem?_cons_zero, List.getElem?_cons_succ, List.getElem?_toArray, Option.map_some, Option.bind_some, decide_true, decide_false, beq_false, beq_true, Bool.not_true, Bool.not_false, Bool.false_eq_true, pickA, cond_true, cond_false]
    refine .seq (.seq (.region [] (by decide) ?_))
    simp only [EOps, EDf, isRd, gdA, callOf, isPanic, nextOf, altA, evalOp, St.ev, Av.get, St.put, argT, ofV, thenQ, Nat.reduceEqDiff, ↓reduceIte, lend, AV.hfs, AV.hf, Bool.and_self, List.map_cons, List.map_nil, List.nil_append, List.append_nil, List.getElem?_cons_zero, List.getElem?_cons_succ, List.getElem?_toArray, Option.map_some, Option.bind_some, decide_true, decide_false, beq_false, beq_true, Bool.not_true, Bool.not_false, Bool.false_eq_true, pickA, cond_true, cond_false, ln26]
    refine .block ?_
    refine .loopT (X := Nat) (fun i => [(13, .int .i64 (i : Int)), (12, .int .i64 l.length), (1, .vsl 0 y (m.map .str)), (0, .vsl 0 x (l.map .str))]) (fun i => []) (fun i => i ≤ l.length ∧ decide (l.drop i = m.drop i) = decide (l = m)) (fun i => l.length - i) 0 ⟨Nat.zero_le _, rfl⟩
      (by simp [holdsT, Av.get]) rfl ?_
    rintro i ⟨hi, hall⟩
    refine .seq (.region [] (by decide) ?_)
    simp only [EOps, EDf, isRd, gdA, callOf, isPanic, nextOf, altA, evalOp, St.ev, Av.get, St.put, argT, ofV, thenQ, Nat.reduceEqDiff, ↓reduceIte, lend, AV.hfs, AV.hf, Bool.and_self, List.map_cons, List.map_nil, List.nil_append, List.append_nil, List.getElem?_cons_zero, List.getElem?_cons_succ, List.getElem?_toArray, Option.map_some, Option.bind_some, decide_true, decide_false, beq_false, beq_true, Bool.not_true, Bool.not_false, Bool.false_eq_true, pickA, cond_true, cond_false, b_lss]
    by_cases h : i < l.length
    · obtain ⟨u, hu⟩ : ∃ u, l[i]? = some u := ⟨l[i], List.getElem?_eq_getElem h⟩
      obtain ⟨v, hv⟩ : ∃ v, m[i]? = some v := ⟨m[i], List.getElem?_eq_getElem (by omega)⟩
      have hdl : l.drop i = u :: l.drop (i + 1) := by
        rw [List.drop_eq_getElem_cons h]; rw [List.getElem?_eq_getElem h] at hu; cases hu; rfl
      have hdm : m.drop i = v :: m.drop (i + 1) := by
        rw [List.drop_eq_getElem_cons (by omega)]; rw [List.getElem?_eq_getElem (by omega)] at hv; cases hv; rfl
      rw [hdl, hdm] at hall
      refine .seq (.cond (t := true) (by simp [St.ev, Av.get]; omega) (.skip ?_))
      simp only [EOps, EDf, isRd, gdA, callOf, isPanic, nextOf, altA, evalOp, St.ev, Av.get, St.put, argT, ofV, thenQ, Nat.reduceEqDiff, ↓reduceIte, lend, AV.hfs, AV.hf, Bool.and_self, List.map_cons, List.map_nil, List.nil_append, List.append_nil, List.getElem?_cons_zero, List.getElem?_cons_succ, List.getElem?_toArray, Option.map_some, Option.bind_some, decide_true, decide_false, beq_false, beq_true, Bool.not_true, Bool.not_false, Bool.false_eq_true, pickA, cond_true, cond_false]
      refine .seqP (u = v) [(13, .int .i64 (i : Int)), (12, .int .i64 l.length), (1, .vsl 0 y (m.map .str)), (0, .vsl 0 x (l.map .str))] [] (x := Code.block 1 _) ?_ ?_
      · refine .block (.seq (.region [] (by decide) ?_))
        simp only [EOps, EDf, isRd, gdA, callOf, isPanic, nextOf, altA, evalOp, St.ev, Av.get, St.put, argT, ofV, thenQ, Nat.reduceEqDiff, ↓reduceIte, lend, AV.hfs, AV.hf, Bool.and_self, List.map_cons, List.map_nil, List.nil_append, List.append_nil, List.getElem?_cons_zero, List.getElem?_cons_succ, List.getElem?_toArray, Option.map_some, Option.bind_some, decide_true, decide_false, beq_false, beq_true, Bool.not_true, Bool.not_false, Bool.false_eq_true, pickA, cond_true, cond_false]
        refine .seq (.drawf [] mixed (by kernel_rfl) (by kernel_rfl) (by kernel_rfl) ?_)
        simp only [EOps, EDf, isRd, gdA, callOf, isPanic, nextOf, altA, evalOp, St.ev, Av.get, St.put, argT, ofV, thenQ, Nat.reduceEqDiff, ↓reduceIte, lend, AV.hfs, AV.hf, Bool.and_self, List.map_cons, List.map_nil, List.nil_append, List.append_nil, List.getElem?_cons_zero, List.getElem?_cons_succ, List.getElem?_toArray, Option.map_some, Option.bind_some, decide_true, decide_false, beq_false, beq_true, Bool.not_true, Bool.not_false, Bool.false_eq_true, pickA, cond_true, cond_false, ia26 _ _ _ _ hu, ia26 _ _ _ _ hv, ld9v, s_neq]
        by_cases huv : u = v
        · refine .cond (t := false) (by simp [St.ev, Av.get, huv]) (.skip ?_)
          refine ⟨huv, ?_, rfl, rfl⟩
          simp [holdsT, Av.get]
        · refine .cond (t := true) (by simp [St.ev, Av.get, huv]) (.seq (.region [] (by decide) ?_))
          simp only [EOps, EDf, isRd, gdA, callOf, isPanic, nextOf, altA, evalOp, St.ev, Av.get, St.put, argT, ofV, thenQ, Nat.reduceEqDiff, ↓reduceIte, lend, AV.hfs, AV.hf, Bool.and_self, List.map_cons, List.map_nil, List.nil_append, List.append_nil, List.getElem?_cons_zero, List.getElem?_cons_succ, List.getElem?_toArray, Option.map_some, Option.bind_some, decide_true, decide_false, beq_false, beq_true, Bool.not_true, Bool.not_false, Bool.false_eq_true, pickA, cond_true, cond_false]
          refine .ret ?_
          have : decide (l = m) = false := by rw [← hall]; simp [huv]
          rw [this]
          exact ⟨_, rfl, _, rfl, .refl _⟩
      · intro huv
        refine .region [] (by decide) ?_
        have hadd : evBin Tryz.prog .add 3 (.int .i64 (i : Int)) (.int .i64 1) = some (.int .i64 ((i + 1 : Nat) : Int)) := by
          rw [b_add64 _ _ (by simp only [maxLen'] at hb; omega)]; simp
        simp only [EOps, EDf, isRd, gdA, callOf, isPanic, nextOf, altA, evalOp, St.ev, Av.get, St.put, argT, ofV, thenQ, Nat.reduceEqDiff, ↓reduceIte, lend, AV.hfs, AV.hf, Bool.and_self, List.map_cons, List.map_nil, List.nil_append, List.append_nil, List.getElem?_cons_zero, List.getElem?_cons_succ, List.getElem?_toArray, Option.map_some, Option.bind_some, decide_true, decide_false, beq_false, beq_true, Bool.not_true, Bool.not_false, Bool.false_eq_true, pickA, cond_true, cond_false, hadd]
        refine ⟨i + 1, ⟨by omega, ?_⟩, by omega, ?_, trivial, trivial⟩
        · rw [← hall]; simp [huv]
        · simp [holdsT, Av.get]
    · have hi' : i = l.length := by omega
      subst hi'
      refine .seq (.cond (t := false) (by simp [St.ev, Av.get]) (.exit ?_))
      simp only [EOps, EDf, isRd, gdA, callOf, isPanic, nextOf, altA, evalOp, St.ev, Av.get, St.put, argT, ofV, thenQ, Nat.reduceEqDiff, ↓reduceIte, lend, AV.hfs, AV.hf, Bool.and_self, List.map_cons, List.map_nil, List.nil_append, List.append_nil, List.getElem?_cons_zero, List.getElem?_cons_succ, List.getElem?_toArray, Option.map_some, Option.bind_some, decide_true, decide_false, beq_false, beq_true, Bool.not_true, Bool.not_false, Bool.false_eq_true, pickA, cond_true, cond_false, blockQ]
      refine .seq (.region [] (by decide) ?_)
      have ht : decide (l = m) = true := by rw [← hall, List.drop_length, hlen, List.drop_length]; rfl
      rw [ht]
      simp only [EOps, EDf, isRd, gdA, callOf, isPanic, nextOf, altA, evalOp, St.ev, Av.get, St.put, argT, ofV, thenQ, Nat.reduceEqDiff, ↓reduceIte, lend, AV.hfs, AV.hf, Bool.and_self, List.map_cons, List.map_nil, List.nil_append, List.append_nil, List.getElem?_cons_zero, List.getElem?_cons_succ, List.getElem?_toArray, Option.map_some, Option.bind_some, decide_true, decide_false, beq_false, beq_true, Bool.not_true, Bool.not_false, Bool.false_eq_true, pickA, cond_true, cond_false]
      exact .ret ⟨_, rfl, _, rfl, .refl _⟩
  · have hne : decide (l = m) = false := decide_eq_false fun h => hlen (by rw [h])
    rw [hne]
    refine .cond (t := true) (by simp [St.ev, Av.get]; omega) (.seq (.region [] (by decide) ?_))
    simp only [EOps, EDf, isRd, gdA, callOf, isPanic, nextOf, altA, evalOp, St.ev, Av.get, St.put, argT, ofV, thenQ, Nat.reduceEqDiff, ↓reduceIte, lend, AV.hfs, AV.hf, Bool.and_self, List.map_cons, List.map_nil, List.nil_append, List.append_nil, List.getElem?_cons_zero, List.getElem?_cons_succ, List.getElem?_toArray, Option.map_some, Option.bind_some, decide_true, decide_false, beq_false, beq_true, Bool.not_true, Bool.not_false, Bool.false_eq_true, pickA, cond_true, cond_false]
    exact .ret ⟨_, rfl, _, rfl, .refl _⟩
end Go.Proofs.YtmeijkidjifagaaGreat
namespace Go.Proofs.YtmeijkidjifagaaGreat
set_option linter.unusedVariables false
set_option linter.unusedSimpArgs false
open Go Go.Av

def risesB : List Bytes → Bool
  | a :: b :: l => Op.bytesLess a b && risesB (b :: l)
  | _ => true

theorem rises49 (x : Bool) (l : List Bytes) : PureFn Tryz.prog 49 [.vsl 0 x (l.map .str)] (.ret (.bool (risesB l))) := by
  refine PureFn.fit fun hfit => ?_
  have hb : l.length ≤ maxLen' := by have : (l.map AV.str).length ≤ maxLen' := hfit (.vsl 0 x (l.map .str)) (by simp); simpa using this
  refine PureFn.of Tryz.func49 rfl (enters_call enters Tryz.func49 rfl) (by simp [Tryz.ntmps49]) ?_
  show W Tryz.prog 20 _ none _ _ _
  refine .seq (.region [] (by decide) ?_)
  simp only [EOps, EDf, isRd, gdA, callOf, isPanic, nextOf, altA, evalOp, St.ev, Av.get, St.put, argT, ofV, thenQ, Nat.reduceEqDiff, ↓reduceIte, lend, AV.hfs, AV.hf, Bool.and_self, List.map_cons, List.map_nil, List.nil_append, List.append_nil, List.getElem?_cons_zero, List.getElem?_cons_succ, List.getElem?_toArray, Option.map_some, Option.bind_some, decide_true, decide_false, beq_false, beq_true, Bool.not_true, Bool.not_false, Bool.false_eq_true, pickA, cond_true, cond_false]
  refine .seq (.seq (.region [] (by decide) ?_))
  simp only [EOps, EDf, isRd, gdA, callOf, isPanic, nextOf, altA, evalOp, St.ev, Av.get, St.put, argT, ofV, thenQ, Nat.reduceEqDiff, ↓reduceIte, lend, AV.hfs, AV.hf, Bool.and_self, List.map_cons, List.map_nil, List.nil_append, List.append_nil, List.getElem?_cons_zero, List.getElem?_cons_succ, List.getElem?_toArray, Option.map_some, Option.bind_some, decide_true, decide_false, beq_false, beq_true, Bool.not_true, Bool.not_false, Bool.false_eq_true, pickA, cond_true, cond_false]
  refine .block ?_
  refine .loopT (X := Nat) (fun i => [(3, .int .i64 ((i + 1 : Nat) : Int)), (0, .vsl 0 x (l.map .str))]) (fun i => []) (fun i => (i = 0 ∨ i < l.length) ∧ risesB (l.drop i) = risesB l) (fun i => l.length - i) 0 ⟨.inl rfl, rfl⟩
    (by simp [holdsT, Av.get]) rfl ?_
  rintro i ⟨hi, hall⟩
  refine .seq (.seq (.region [] (by decide) ?_))
  simp only [EOps, EDf, isRd, gdA, callOf, isPanic, nextOf, altA, evalOp, St.ev, Av.get, St.put, argT, ofV, thenQ, Nat.reduceEqDiff, ↓reduceIte, lend, AV.hfs, AV.hf, Bool.and_self, List.map_cons, List.map_nil, List.nil_append, List.append_nil, List.getElem?_cons_zero, List.getElem?_cons_succ, List.getElem?_toArray, Option.map_some, Option.bind_some, decide_true, decide_false, beq_false, beq_true, Bool.not_true, Bool.not_false, Bool.false_eq_true, pickA, cond_true, cond_false, ln26, b_lss]
  by_cases h : i + 1 < l.length
  · obtain ⟨u, hu⟩ : ∃ u, l[i]? = some u := ⟨l[i], List.getElem?_eq_getElem (by omega)⟩
    obtain ⟨v, hv⟩ : ∃ v, l[i + 1]? = some v := ⟨l[i + 1], List.getElem?_eq_getElem h⟩
    have hd2 : l.drop (i + 1) = v :: l.drop (i + 1 + 1) := by
      rw [List.drop_eq_getElem_cons h]; rw [List.getElem?_eq_getElem h] at hv; cases hv; rfl
    have hd : l.drop i = u :: l.drop (i + 1) := by
      rw [List.drop_eq_getElem_cons (by omega)]; rw [List.getElem?_eq_getElem (by omega)] at hu; cases hu; rfl
    rw [hd, hd2, risesB] at hall
    refine .cond (t := true) (by simp [St.ev, Av.get]; omega) (.skip ?_)
    simp only [EOps, EDf, isRd, gdA, callOf, isPanic, nextOf, altA, evalOp, St.ev, Av.get, St.put, argT, ofV, thenQ, Nat.reduceEqDiff, ↓reduceIte, lend, AV.hfs, AV.hf, Bool.and_self, List.map_cons, List.map_nil, List.nil_append, List.append_nil, List.getElem?_cons_zero, List.getElem?_cons_succ, List.getElem?_toArray, Option.map_some, Option.bind_some, decide_true, decide_false, beq_false, beq_true, Bool.not_true, Bool.not_false, Bool.false_eq_true, pickA, cond_true, cond_false]
    refine .seqP (Op.bytesLess u v = true) [(3, .int .i64 ((i + 1 : Nat) : Int)), (0, .vsl 0 x (l.map .str))] [] (x := Code.block 1 _) ?_ ?_
    · refine .block (.seq (.drawf [] mixed (by kernel_rfl) (by kernel_rfl) (by kernel_rfl) ?_))
      have hsub : evBin Tryz.prog .sub 3 (.int .i64 ((i + 1 : Nat) : Int)) (.int .i64 1) = some (.int .i64 (i : Int)) := by
        rw [b_sub64 _ _ (by simp only [maxLen'] at hb; omega)]; simp
      simp only [EOps, EDf, isRd, gdA, callOf, isPanic, nextOf, altA, evalOp, St.ev, Av.get, St.put, argT, ofV, thenQ, Nat.reduceEqDiff, ↓reduceIte, lend, AV.hfs, AV.hf, Bool.and_self, List.map_cons, List.map_nil, List.nil_append, List.append_nil, List.getElem?_cons_zero, List.getElem?_cons_succ, List.getElem?_toArray, Option.map_some, Option.bind_some, decide_true, decide_false, beq_false, beq_true, Bool.not_true, Bool.not_false, Bool.false_eq_true, pickA, cond_true, cond_false, hsub, ia26 _ _ _ _ hu, ia26 _ _ _ _ hv, ld9v, s_geq]
      cases huv : Op.bytesLess u v with
      | true =>
        refine .cond (t := false) rfl (.skip ?_)
        refine ⟨rfl, ?_, rfl, rfl⟩
        simp [holdsT, Av.get]
      | false =>
        refine .cond (t := true) rfl (.seq (.region [] (by decide) ?_))
        simp only [EOps, EDf, isRd, gdA, callOf, isPanic, nextOf, altA, evalOp, St.ev, Av.get, St.put, argT, ofV, thenQ, Nat.reduceEqDiff, ↓reduceIte, lend, AV.hfs, AV.hf, Bool.and_self, List.map_cons, List.map_nil, List.nil_append, List.append_nil, List.getElem?_cons_zero, List.getElem?_cons_succ, List.getElem?_toArray, Option.map_some, Option.bind_some, decide_true, decide_false, beq_false, beq_true, Bool.not_true, Bool.not_false, Bool.false_eq_true, pickA, cond_true, cond_false]
        refine .ret ?_
        have : risesB l = false := by rw [← hall, huv]; rfl
        rw [this]
        exact ⟨_, rfl, _, rfl, .refl _⟩
    · intro huv
      refine .region [] (by decide) ?_
      have hadd : evBin Tryz.prog .add 3 (.int .i64 ((i + 1 : Nat) : Int)) (.int .i64 1) = some (.int .i64 ((i + 1 + 1 : Nat) : Int)) := by
        rw [b_add64 _ _ (by simp only [maxLen'] at hb; omega)]; simp
      simp only [EOps, EDf, isRd, gdA, callOf, isPanic, nextOf, altA, evalOp, St.ev, Av.get, St.put, argT, ofV, thenQ, Nat.reduceEqDiff, ↓reduceIte, lend, AV.hfs, AV.hf, Bool.and_self, List.map_cons, List.map_nil, List.nil_append, List.append_nil, List.getElem?_cons_zero, List.getElem?_cons_succ, List.getElem?_toArray, Option.map_some, Option.bind_some, decide_true, decide_false, beq_false, beq_true, Bool.not_true, Bool.not_false, Bool.false_eq_true, pickA, cond_true, cond_false, hadd]
      refine ⟨i + 1, ⟨.inr h, ?_⟩, by omega, ?_, trivial, trivial⟩
      · rw [← hall, huv, hd2]; rfl
      · simp [holdsT, Av.get]
  · refine .cond (t := false) (by simp [St.ev, Av.get]; omega) (.exit ?_)
    simp only [EOps, EDf, isRd, gdA, callOf, isPanic, nextOf, altA, evalOp, St.ev, Av.get, St.put, argT, ofV, thenQ, Nat.reduceEqDiff, ↓reduceIte, lend, AV.hfs, AV.hf, Bool.and_self, List.map_cons, List.map_nil, List.nil_append, List.append_nil, List.getElem?_cons_zero, List.getElem?_cons_succ, List.getElem?_toArray, Option.map_some, Option.bind_some, decide_true, decide_false, beq_false, beq_true, Bool.not_true, Bool.not_false, Bool.false_eq_true, pickA, cond_true, cond_false, blockQ]
    refine .seq (.region [] (by decide) ?_)
    have ht : risesB l = true := by
      rw [← hall]
      have hlen : (l.drop i).length ≤ 1 := by rw [List.length_drop]; omega
      generalize l.drop i = k at hlen
      match k, hlen with
      | [], _ => rfl
      | [_], _ => rfl
      | _ :: _ :: _, hk => simp at hk
    rw [ht]
    simp only [EOps, EDf, isRd, gdA, callOf, isPanic, nextOf, altA, evalOp, St.ev, Av.get, St.put, argT, ofV, thenQ, Nat.reduceEqDiff, ↓reduceIte, lend, AV.hfs, AV.hf, Bool.and_self, List.map_cons, List.map_nil, List.nil_append, List.append_nil, List.getElem?_cons_zero, List.getElem?_cons_succ, List.getElem?_toArray, Option.map_some, Option.bind_some, decide_true, decide_false, beq_false, beq_true, Bool.not_true, Bool.not_false, Bool.false_eq_true, pickA, cond_true, cond_false]
    exact .ret ⟨_, rfl, _, rfl, .refl _⟩

theorem rises56 (x : Bool) (l : List Bytes) : PureFn Tryz.prog 56 [.vsl 0 x (l.map .str)] (.ret (.bool (risesB l))) := by
  refine PureFn.fit fun hfit => ?_
  have hb : l.length ≤ maxLen' := by have : (l.map AV.str).length ≤ maxLen' := hfit (.vsl 0 x (l.map .str)) (by simp); simpa using this
  refine PureFn.of Tryz.func56 rfl (enters_call enters Tryz.func56 rfl) (by simp [Tryz.ntmps56]) ?_
  show W Tryz.prog 20 _ none _ _ _
  refine .seq (.region [] (by decide) ?_)
  simp only [EOps, EDf, isRd, gdA, callOf, isPanic, nextOf, altA, evalOp, St.ev, Av.get, St.put, argT, ofV, thenQ, Nat.reduceEqDiff, ↓reduceIte, lend, AV.hfs, AV.hf, Bool.and_self, List.map_cons, List.map_nil, List.nil_append, List.append_nil, List.getElem?_cons_zero, List.getElem?_cons_succ, List.getElem?_toArray, Option.map_some, Option.bind_some, decide_true, decide_false, beq_false, beq_true, Bool.not_true, Bool.not_false, Bool.false_eq_true, pickA, cond_true, cond_false]
  refine .seq (.seq (.region [] (by decide) ?_))
  simp only [EOps, EDf, isRd, gdA, callOf, isPanic, nextOf, altA, evalOp, St.ev, Av.get, St.put, argT, ofV, thenQ, Nat.reduceEqDiff, ↓reduceIte, lend, AV.hfs, AV.hf, Bool.and_self, List.map_cons, List.map_nil, List.nil_append, List.append_nil, List.getElem?_cons_zero, List.getElem?_cons_succ, List.getElem?_toArray, Option.map_some, Option.bind_some, decide_true, decide_false, beq_false, beq_true, Bool.not_true, Bool.not_false, Bool.false_eq_true, pickA, cond_true, cond_false]
  refine .block ?_
  refine .loopT (X := Nat) (fun i => [(3, .int .i64 ((i + 1 : Nat) : Int)), (0, .vsl 0 x (l.map .str))]) (fun i => []) (fun i => (i = 0 ∨ i < l.length) ∧ risesB (l.drop i) = risesB l) (fun i => l.length - i) 0 ⟨.inl rfl, rfl⟩
    (by simp [holdsT, Av.get]) rfl ?_
  rintro i ⟨hi, hall⟩
  refine .seq (.seq (.region [] (by decide) ?_))
  simp only [EOps, EDf, isRd, gdA, callOf, isPanic, nextOf, altA, evalOp, St.ev, Av.get, St.put, argT, ofV, thenQ, Nat.reduceEqDiff, ↓reduceIte, lend, AV.hfs, AV.hf, Bool.and_self, List.map_cons, List.map_nil, List.nil_append, List.append_nil, List.getElem?_cons_zero, List.getElem?_cons_succ, List.getElem?_toArray, Option.map_some, Option.bind_some, decide_true, decide_false, beq_false, beq_true, Bool.not_true, Bool.not_false, Bool.false_eq_true, pickA, cond_true, cond_false, ln26, b_lss]
  by_cases h : i + 1 < l.length
  · obtain ⟨u, hu⟩ : ∃ u, l[i]? = some u := ⟨l[i], List.getElem?_eq_getElem (by omega)⟩
    obtain ⟨v, hv⟩ : ∃ v, l[i + 1]? = some v := ⟨l[i + 1], List.getElem?_eq_getElem h⟩
    have hd2 : l.drop (i + 1) = v :: l.drop (i + 1 + 1) := by
      rw [List.drop_eq_getElem_cons h]; rw [List.getElem?_eq_getElem h] at hv; cases hv; rfl
    have hd : l.drop i = u :: l.drop (i + 1) := by
      rw [List.drop_eq_getElem_cons (by omega)]; rw [List.getElem?_eq_getElem (by omega)] at hu; cases hu; rfl
    rw [hd, hd2, risesB] at hall
    refine .cond (t := true) (by simp [St.ev, Av.get]; omega) (.skip ?_)
    simp only [EOps, EDf, isRd, gdA, callOf, isPanic, nextOf, altA, evalOp, St.ev, Av.get, St.put, argT, ofV, thenQ, Nat.reduceEqDiff, ↓reduceIte, lend, AV.hfs, AV.hf, Bool.and_self, List.map_cons, List.map_nil, List.nil_append, List.append_nil, List.getElem?_cons_zero, List.getElem?_cons_succ, List.getElem?_toArray, Option.map_some, Option.bind_some, decide_true, decide_false, beq_false, beq_true, Bool.not_true, Bool.not_false, Bool.false_eq_true, pickA, cond_true, cond_false]
    refine .seqP (Op.bytesLess u v = true) [(3, .int .i64 ((i + 1 : Nat) : Int)), (0, .vsl 0 x (l.map .str))] [] (x := Code.block 1 _) ?_ ?_
    · refine .block (.seq (.drawf [] mixed (by kernel_rfl) (by kernel_rfl) (by kernel_rfl) ?_))
      have hsub : evBin Tryz.prog .sub 3 (.int .i64 ((i + 1 : Nat) : Int)) (.int .i64 1) = some (.int .i64 (i : Int)) := by
        rw [b_sub64 _ _ (by simp only [maxLen'] at hb; omega)]; simp
      simp only [EOps, EDf, isRd, gdA, callOf, isPanic, nextOf, altA, evalOp, St.ev, Av.get, St.put, argT, ofV, thenQ, Nat.reduceEqDiff, ↓reduceIte, lend, AV.hfs, AV.hf, Bool.and_self, List.map_cons, List.map_nil, List.nil_append, List.append_nil, List.getElem?_cons_zero, List.getElem?_cons_succ, List.getElem?_toArray, Option.map_some, Option.bind_some, decide_true, decide_false, beq_false, beq_true, Bool.not_true, Bool.not_false, Bool.false_eq_true, pickA, cond_true, cond_false, hsub, ia26 _ _ _ _ hu, ia26 _ _ _ _ hv, ld9v, s_geq]
      cases huv : Op.bytesLess u v with
      | true =>
        refine .cond (t := false) rfl (.skip ?_)
        refine ⟨rfl, ?_, rfl, rfl⟩
        simp [holdsT, Av.get]
      | false =>
        refine .cond (t := true) rfl (.seq (.region [] (by decide) ?_))
        simp only [EOps, EDf, isRd, gdA, callOf, isPanic, nextOf, altA, evalOp, St.ev, Av.get, St.put, argT, ofV, thenQ, Nat.reduceEqDiff, ↓reduceIte, lend, AV.hfs, AV.hf, Bool.and_self, List.map_cons, List.map_nil, List.nil_append, List.append_nil, List.getElem?_cons_zero, List.getElem?_cons_succ, List.getElem?_toArray, Option.map_some, Option.bind_some, decide_true, decide_false, beq_false, beq_true, Bool.not_true, Bool.not_false, Bool.false_eq_true, pickA, cond_true, cond_false]
        refine .ret ?_
        have : risesB l = false := by rw [← hall, huv]; rfl
        rw [this]
        exact ⟨_, rfl, _, rfl, .refl _⟩
    · intro huv
      refine .region [] (by decide) ?_
      have hadd : evBin Tryz.prog .add 3 (.int .i64 ((i + 1 : Nat) : Int)) (.int .i64 1) = some (.int .i64 ((i + 1 + 1 : Nat) : Int)) := by
        rw [b_add64 _ _ (by simp only [maxLen'] at hb; omega)]; simp
      simp only [EOps, EDf, isRd, gdA, callOf, isPanic, nextOf, altA, evalOp, St.ev, Av.get, St.put, argT, ofV, thenQ, Nat.reduceEqDiff, ↓reduceIte, lend, AV.hfs, AV.hf, Bool.and_self, List.map_cons, List.map_nil, List.nil_append, List.append_nil, List.getElem?_cons_zero, List.getElem?_cons_succ, List.getElem?_toArray, Option.map_some, Option.bind_some, decide_true, decide_false, beq_false, beq_true, Bool.not_true, Bool.not_false, Bool.false_eq_true, pickA, cond_true, cond_false, hadd]
      refine ⟨i + 1, ⟨.inr h, ?_⟩, by omega, ?_, trivial, trivial⟩
      · rw [← hall, huv, hd2]; rfl
      · simp [holdsT, Av.get]
  · refine .cond (t := false) (by simp [St.ev, Av.get]; omega) (.exit ?_)
    simp only [EOps, EDf, isRd, gdA, callOf, isPanic, nextOf, altA, evalOp, St.ev, Av.get, St.put, argT, ofV, thenQ, Nat.reduceEqDiff, ↓reduceIte, lend, AV.hfs, AV.hf, Bool.and_self, List.map_cons, List.map_nil, List.nil_append, List.append_nil, List.getElem?_cons_zero, List.getElem?_cons_succ, List.getElem?_toArray, Option.map_some, Option.bind_some, decide_true, decide_false, beq_false, beq_true, Bool.not_true, Bool.not_false, Bool.false_eq_true, pickA, cond_true, cond_false, blockQ]
    refine .seq (.region [] (by decide) ?_)
    have ht : risesB l = true := by
      rw [← hall]
      have hlen : (l.drop i).length ≤ 1 := by rw [List.length_drop]; omega
      generalize l.drop i = k at hlen
      match k, hlen with
      | [], _ => rfl
      | [_], _ => rfl
      | _ :: _ :: _, hk => simp at hk
    rw [ht]
    simp only [EOps, EDf, isRd, gdA, callOf, isPanic, nextOf, altA, evalOp, St.ev, Av.get, St.put, argT, ofV, thenQ, Nat.reduceEqDiff, ↓reduceIte, lend, AV.hfs, AV.hf, Bool.and_self, List.map_cons, List.map_nil, List.nil_append, List.append_nil, List.getElem?_cons_zero, List.getElem?_cons_succ, List.getElem?_toArray, Option.map_some, Option.bind_some, decide_true, decide_false, beq_false, beq_true, Bool.not_true, Bool.not_false, Bool.false_eq_true, pickA, cond_true, cond_false]
    exact .ret ⟨_, rfl, _, rfl, .refl _⟩
end Go.Proofs.YtmeijkidjifagaaGreat
