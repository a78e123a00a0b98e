/- Contracts of functions that the statements of this seat reach: under the conditions named at each theorem. -/
import Derived.Test.YtmeijkidjifagaaGreatSrP13
namespace Go.Proofs.YtmeijkidjifagaaGreat
set_option linter.unusedVariables false
set_option linter.unusedSimpArgs false
open Go Go.Av

theorem ln43k (x : Bool) (l : List Mk) (H : List OB) : evLen Tryz.prog 43 (.vsl 4 x (l.map encK)) H = some (.int .i64 l.length) := by simp [evLen, Tryz.underlying43]
theorem ia43k (x : Bool) (l : List Mk) (i : Nat) (m : Mk) (h : l[i]? = some m) (H : List OB) : evIndexAddr Tryz.prog 43 (.vsl 4 x (l.map encK)) (.int .i64 (i : Int)) H = some (.vptr (kcell m)) := by
  have h1 : (l.map encK)[i]? = some (encK m) := by simp [h]
  simp [evIndexAddr, idx_nat, Tryz.underlying43, tz68, h1, encK_cells, kcell]
theorem ld68vk (m : Mk) (H : List OB) : evLoad Tryz.prog 68 (.vptr (kcell m)) H = some (encK m) := by
  simp [evLoad, tz68, tg68, ldA, kcell, encK]

set_option maxRecDepth 100000 in
theorem parted39k (x : Bool) (l : List Mk) (g : FuncId) (p : Mk → Bool) (hb : l.length ≤ 1000) (hp : ∀ m ∈ l, PureFn Tryz.prog g [encK m] (.ret (.bool (p m)))) :
    PureFn Tryz.prog 39 [.vsl 4 x (l.map encK), .func (.func g) [] []] (.ret (.vsl 4 false ((l.filter p ++ l.filter (fun m => !(p m))).map encK))) := by
  refine PureFn.of Tryz.func39 rfl (enters_call enters Tryz.func39 rfl) (by simp [Tryz.ntmps39]) ?_
  show W Tryz.prog 30 _ none _ _ _
  refine .seq (.region [] (by decide) ?_)
  simp only [EOps, EDf, isRd, gdA, callOf, isPanic, nextOf, altA, evalOp, St.ev, Av.get, St.put, argT, ofV, thenQ, Nat.reduceEqDiff, ↓reduceIte, Bool.and_self, List.map_cons, List.map_nil, List.nil_append, List.append_nil, List.getElem?_cons_zero, List.getElem?_cons_succ, List.getElem?_toArray, Option.map_some, Option.bind_some, decide_true, decide_false, beq_false, beq_true, Bool.not_true, Bool.not_false, Bool.false_eq_true, pickA, cond_true, cond_false]
  refine .seq (.region [] (by decide) ?_)
  simp only [EOps, EDf, isRd, gdA, callOf, isPanic, nextOf, altA, evalOp, St.ev, Av.get, St.put, argT, ofV, thenQ, Nat.reduceEqDiff, ↓reduceIte, Bool.and_self, List.map_cons, List.map_nil, List.nil_append, List.append_nil, List.getElem?_cons_zero, List.getElem?_cons_succ, List.getElem?_toArray, Option.map_some, Option.bind_some, decide_true, decide_false, beq_false, beq_true, Bool.not_true, Bool.not_false, Bool.false_eq_true, pickA, cond_true, cond_false, and_self, if_true]
  refine .seq (.seq (.region [] (by decide) ?_))
  simp only [EOps, EDf, isRd, gdA, callOf, isPanic, nextOf, altA, evalOp, St.ev, Av.get, St.put, argT, ofV, thenQ, Nat.reduceEqDiff, ↓reduceIte, Bool.and_self, List.map_cons, List.map_nil, List.nil_append, List.append_nil, List.getElem?_cons_zero, List.getElem?_cons_succ, List.getElem?_toArray, Option.map_some, Option.bind_some, decide_true, decide_false, beq_false, beq_true, Bool.not_true, Bool.not_false, Bool.false_eq_true, pickA, cond_true, cond_false, ln43k]
  refine .block ?_
  refine .loop (X := Nat) (fun i a => Av.get a.T 1 = .func (.func g) [] [] ∧ Av.get a.T 9 = .vsl 4 x (l.map encK) ∧ Av.get a.T 10 = .int .i64 l.length ∧ Av.get a.T 11 = .int .i64 (i : Int) ∧ i ≤ l.length ∧
      slIn 4 encK a.H (Av.get a.T 5) ((l.take i).filter p) ∧ slIn 4 encK a.H (Av.get a.T 6) ((l.take i).filter fun m => !(p m)) ∧ (∀ d n n', Av.get a.T 5 = .sl d 0 n 4 → Av.get a.T 6 ≠ .sl d 0 n' 4) ∧ a.D = []) (fun i => l.length - i) 0
      ⟨rfl, rfl, rfl, rfl, Nat.zero_le _, .inl ⟨rfl, 0, rfl⟩, .inl ⟨rfl, 0, rfl⟩, (fun d n n' h => by cases h), rfl⟩ ?_
  rintro i ⟨T, K, D⟩ ⟨h1, h9, h10, h11, hi, ha, hbb, hdis, rfl⟩
  simp only at h1 h9 h10 h11 ha hbb hdis
  refine .seq (.region [] (by decide) ?_)
  simp only [EOps, EDf, isRd, gdA, callOf, isPanic, nextOf, altA, evalOp, St.ev, Av.get, St.put, argT, ofV, thenQ, Nat.reduceEqDiff, ↓reduceIte, Bool.and_self, List.map_cons, List.map_nil, List.nil_append, List.append_nil, List.getElem?_cons_zero, List.getElem?_cons_succ, List.getElem?_toArray, Option.map_some, Option.bind_some, decide_true, decide_false, beq_false, beq_true, Bool.not_true, Bool.not_false, Bool.false_eq_true, pickA, cond_true, cond_false, h1, h9, h10, h11, b_lss, dlt]
  by_cases h : i < l.length
  · obtain ⟨m, hm, hdrop⟩ := drop_at h
    have hmem : m ∈ l := List.mem_of_getElem? hm
    have htake : l.take (i + 1) = l.take i ++ [m] := by rw [List.take_add_one, hm]; rfl
    refine .seq (.cond (t := true) (by simp [St.ev, Av.get, h]) (.skip ?_))
    simp only [thenQ]
    have hst : evStore Tryz.prog 68 (.ptr K.length 0) (encK m) (K ++ [.cells [.int .i64 0, .str [], .vsl 0 true []] false]) = some (K ++ [.cells (kcell m) false]) := by
      rw [st68k m _ _ _ _ _ (by rw [List.getElem?_concat_length])]
      congr 1
      rw [List.set_append_right _ _ (Nat.le_refl _), Nat.sub_self]
      rfl
    refine .seq (.block (.seq (.region [] (by decide) ?_)))
    simp only [EOps, EDf, isRd, gdA, callOf, isPanic, nextOf, altA, evalOp, St.ev, Av.get, St.put, argT, ofV, thenQ, Nat.reduceEqDiff, ↓reduceIte, Bool.and_self, List.map_cons, List.map_nil, List.nil_append, List.append_nil, List.getElem?_cons_zero, List.getElem?_cons_succ, List.getElem?_toArray, Option.map_some, Option.bind_some, decide_true, decide_false, beq_false, beq_true, Bool.not_true, Bool.not_false, Bool.false_eq_true, pickA, cond_true, cond_false, h1, h9, h10, h11, ia43k _ _ _ _ hm, ld68vk, za68, cells_agg', hst]
    obtain ⟨M, hM⟩ : ∃ M, M = K ++ [OB.cells (kcell m) false] := ⟨_, rfl⟩
    rw [← hM]
    have lM : M.length = K.length + 1 := by rw [hM]; simp
    have gM : ∀ d, d < K.length → M[d]? = K[d]? := fun d hd => by rw [hM, List.getElem?_append_left hd]
    have hx : evLoad Tryz.prog 68 (.ptr K.length 0) M = some (encK m) := ld68k m M K.length false (by rw [hM, List.getElem?_concat_length])
    have ha' := slIn_keep (M' := M) ha (fun d hd _ => gM d hd)
    have hb' := slIn_keep (M' := M) hbb (fun d hd _ => gM d hd)
    have hl : ∀ H o, lend H [encK m] o = some [encK m] := by intro H o; simp [lend, AV.hfs, encK_hf]
    have lenA : ((l.take i).filter p).length ≤ 1000 := Nat.le_trans (List.length_filter_le _ _) (by simp; omega)
    have lenB : ((l.take i).filter fun m => !(p m)).length ≤ 1000 := Nat.le_trans (List.length_filter_le _ _) (by simp; omega)
    have hadd : evBin Tryz.prog .add 3 (.int .i64 (i : Int)) (.int .i64 1) = some (.int .i64 ((i + 1 : Nat) : Int)) := by
      rw [b_add64 _ _ (by omega)]; simp
    generalize hva : Av.get T 5 = va at ha ha' hdis
    generalize hvb : Av.get T 6 = vb at hbb hb' hdis
    refine .seq (.region [.pure (.ret (.bool (p m)))] (by decide) ?_)
    simp only [EOps, EDf, isRd, gdA, callOf, isPanic, nextOf, altA, evalOp, St.ev, Av.get, St.put, argT, ofV, thenQ, Nat.reduceEqDiff, ↓reduceIte, Bool.and_self, List.map_cons, List.map_nil, List.nil_append, List.append_nil, List.getElem?_cons_zero, List.getElem?_cons_succ, List.getElem?_toArray, Option.map_some, Option.bind_some, decide_true, decide_false, beq_false, beq_true, Bool.not_true, Bool.not_false, Bool.false_eq_true, pickA, cond_true, cond_false, h1, h9, h10, h11, hva, hvb, hx, hl, List.append_nil]
    refine ⟨hp m hmem, ?_⟩
    cases hpm : p m with
    | true =>
      obtain ⟨M', hap, hl', hnew, hold⟩ := slIn_app (P := Tryz.prog) (sT := 43) (wd := 4) (bytes := 48) Tryz.underlying43 ap68 encK (fun _ => rfl) (fun _ => rfl) (by decide) ha' m true (by omega)
      refine .cond (t := true) rfl (.region [] (by decide) ?_)
      simp only [EOps, EDf, isRd, gdA, callOf, isPanic, nextOf, altA, evalOp, St.ev, Av.get, St.put, argT, ofV, thenQ, Nat.reduceEqDiff, ↓reduceIte, Bool.and_self, List.map_cons, List.map_nil, List.nil_append, List.append_nil, List.getElem?_cons_zero, List.getElem?_cons_succ, List.getElem?_toArray, Option.map_some, Option.bind_some, decide_true, decide_false, beq_false, beq_true, Bool.not_true, Bool.not_false, Bool.false_eq_true, pickA, cond_true, cond_false, h1, h9, h10, h11, hva, hvb, hx, bs43k, hap, blockQ]
      refine .region [] (by decide) ?_
      simp only [EOps, EDf, isRd, gdA, callOf, isPanic, nextOf, altA, evalOp, St.ev, Av.get, St.put, argT, ofV, thenQ, Nat.reduceEqDiff, ↓reduceIte, Bool.and_self, List.map_cons, List.map_nil, List.nil_append, List.append_nil, List.getElem?_cons_zero, List.getElem?_cons_succ, List.getElem?_toArray, Option.map_some, Option.bind_some, decide_true, decide_false, beq_false, beq_true, Bool.not_true, Bool.not_false, Bool.false_eq_true, pickA, cond_true, cond_false, h1, h9, h10, h11, hva, hvb, hadd]
      refine ⟨i + 1, ⟨trivial, trivial, trivial, rfl, h, ?_, ?_, ?_, trivial⟩, by omega⟩
      · rw [htake, List.filter_append]
        simp only [List.filter_cons, hpm, if_true, List.filter_nil]
        exact .inr ⟨M.length, by simp, hnew⟩
      · rw [htake, List.filter_append]
        simp only [List.filter_cons, hpm, Bool.not_true, Bool.false_eq_true, if_false, List.filter_nil, List.append_nil]
        exact slIn_keep hb' fun d hd hv => hold d hd fun hv' => hdis d _ _ hv' hv
      · intro d n n' h5 h6
        cases h5
        have := slIn_lt hb' h6
        omega
    | false =>
      obtain ⟨M', hap, hl', hnew, hold⟩ := slIn_app (P := Tryz.prog) (sT := 43) (wd := 4) (bytes := 48) Tryz.underlying43 ap68 encK (fun _ => rfl) (fun _ => rfl) (by decide) hb' m true (by omega)
      refine .cond (t := false) rfl (.region [] (by decide) ?_)
      simp only [EOps, EDf, isRd, gdA, callOf, isPanic, nextOf, altA, evalOp, St.ev, Av.get, St.put, argT, ofV, thenQ, Nat.reduceEqDiff, ↓reduceIte, Bool.and_self, List.map_cons, List.map_nil, List.nil_append, List.append_nil, List.getElem?_cons_zero, List.getElem?_cons_succ, List.getElem?_toArray, Option.map_some, Option.bind_some, decide_true, decide_false, beq_false, beq_true, Bool.not_true, Bool.not_false, Bool.false_eq_true, pickA, cond_true, cond_false, h1, h9, h10, h11, hva, hvb, hx, bs43k, hap, blockQ]
      refine .region [] (by decide) ?_
      simp only [EOps, EDf, isRd, gdA, callOf, isPanic, nextOf, altA, evalOp, St.ev, Av.get, St.put, argT, ofV, thenQ, Nat.reduceEqDiff, ↓reduceIte, Bool.and_self, List.map_cons, List.map_nil, List.nil_append, List.append_nil, List.getElem?_cons_zero, List.getElem?_cons_succ, List.getElem?_toArray, Option.map_some, Option.bind_some, decide_true, decide_false, beq_false, beq_true, Bool.not_true, Bool.not_false, Bool.false_eq_true, pickA, cond_true, cond_false, h1, h9, h10, h11, hva, hvb, hadd]
      refine ⟨i + 1, ⟨trivial, trivial, trivial, rfl, h, ?_, ?_, ?_, trivial⟩, by omega⟩
      · rw [htake, List.filter_append]
        simp only [List.filter_cons, hpm, Bool.false_eq_true, if_false, List.filter_nil, List.append_nil]
        exact slIn_keep ha' fun d hd hv => hold d hd fun hv' => hdis d _ _ hv hv'
      · rw [htake, List.filter_append]
        simp only [List.filter_cons, hpm, Bool.not_false, if_true, List.filter_nil]
        exact .inr ⟨M.length, by simp, hnew⟩
      · intro d n n' h5 h6
        cases h6
        have := slIn_lt ha' h5
        omega
  · have hi' : i = l.length := by omega
    subst hi'
    rw [List.take_length] at ha hbb
    generalize hva : Av.get T 5 = va at ha hdis
    generalize hvb : Av.get T 6 = vb at hbb hdis
    have lenA : (l.filter p).length ≤ 1000 := Nat.le_trans (List.length_filter_le _ _) hb
    have lenB : (l.filter fun m => !(p m)).length ≤ 1000 := Nat.le_trans (List.length_filter_le _ _) hb
    obtain ⟨v', M', hap, hin⟩ := slIn_cat (P := Tryz.prog) (sT := 43) (wd := 4) (bytes := 48) Tryz.underlying43 ap68 encK (fun _ => rfl) (fun _ => rfl) (by decide) ha hbb (by omega)
    obtain ⟨u, hz, hle⟩ := slIn_fz (n := 3) (k := 19) (by decide) (fun m => ⟨kcell m, rfl, rfl⟩) (fun m => by show AV.hfs (kcell m) = true; simp [kcell, AV.hfs, AV.hf, strs_hfs]) hin
    refine .seq (.cond (t := false) (by simp [St.ev, Av.get]) (.exit ?_))
    simp only [EOps, EDf, isRd, gdA, callOf, isPanic, nextOf, altA, evalOp, St.ev, Av.get, St.put, argT, ofV, thenQ, Nat.reduceEqDiff, ↓reduceIte, Bool.and_self, List.map_cons, List.map_nil, List.nil_append, List.append_nil, List.getElem?_cons_zero, List.getElem?_cons_succ, List.getElem?_toArray, Option.map_some, Option.bind_some, decide_true, decide_false, beq_false, beq_true, Bool.not_true, Bool.not_false, Bool.false_eq_true, pickA, cond_true, cond_false, blockQ]
    refine .seq (.region [] (by decide) ?_)
    simp only [EOps, EDf, isRd, gdA, callOf, isPanic, nextOf, altA, evalOp, St.ev, Av.get, St.put, argT, ofV, thenQ, Nat.reduceEqDiff, ↓reduceIte, Bool.and_self, List.map_cons, List.map_nil, List.nil_append, List.append_nil, List.getElem?_cons_zero, List.getElem?_cons_succ, List.getElem?_toArray, Option.map_some, Option.bind_some, decide_true, decide_false, beq_false, beq_true, Bool.not_true, Bool.not_false, Bool.false_eq_true, pickA, cond_true, cond_false, hva, hvb, hap]
    exact .ret (retF 4 rfl rfl rfl hz hle)

theorem kind40 (m : Mk) : PureFn Tryz.prog 40 [encK m] (.ret (.bool (m.1 == 2))) := by
  refine PureFn.of Tryz.func40 rfl (enters_call enters Tryz.func40 rfl) (by simp [Tryz.ntmps40]) ?_
  show W Tryz.prog 6 _ none _ _ _
  have ht : (encK m).told = true := rfl
  refine .seq (.region [] (by decide) ?_)
  simp only [EOps, EDf, isRd, gdA, callOf, isPanic, nextOf, altA, evalOp, St.ev, Av.get, St.put, argT, ofV, thenQ, Nat.reduceEqDiff, ↓reduceIte, Bool.and_self, List.map_cons, List.map_nil, List.nil_append, List.append_nil, List.getElem?_cons_zero, List.getElem?_cons_succ, List.getElem?_toArray, Option.map_some, Option.bind_some, decide_true, decide_false, beq_false, beq_true, Bool.not_true, Bool.not_false, Bool.false_eq_true, pickA, cond_true, cond_false, ht, if_true, List.length_nil, encK_cells]
  have hl : evLoad Tryz.prog 66 (.ptr 0 0) [.cells (kcell m) false] = some (.int .i64 m.1) := by simp [evLoad, tz66, tg66, ldA, kcell]
  refine .seq (.region [] (by decide) ?_)
  simp only [EOps, EDf, isRd, gdA, callOf, isPanic, nextOf, altA, evalOp, St.ev, Av.get, St.put, argT, ofV, thenQ, Nat.reduceEqDiff, ↓reduceIte, Bool.and_self, List.map_cons, List.map_nil, List.nil_append, List.append_nil, List.getElem?_cons_zero, List.getElem?_cons_succ, List.getElem?_toArray, Option.map_some, Option.bind_some, decide_true, decide_false, beq_false, beq_true, Bool.not_true, Bool.not_false, Bool.false_eq_true, pickA, cond_true, cond_false, fa68_0, hl, b_eql]
  exact .ret ⟨_, rfl, _, rfl, .refl _⟩

theorem ofC_len8 (e : List Atr) : (ofC e).1.length = 8 := by rw [of_ref]; exact refOf_len e
def intoO (e : List Atr) (c : List Val) : Out :=
  if ((ofC e).2 == 2 || !(mayC c)) = true then .ret (.tup [.vsl 3 false [], .int .i64 2])
  else if ((ofC e).2 != 0) = true then .ret (.tup [.vsl 3 false [], .int .i64 (ofC e).2]) else outDo (doAll (e.map clr) (modsC e c))
theorem ofC_ok {e : List Atr} (h2 : ((ofC e).2 == 2) = false) : checkE e = true := by
  unfold ofC at h2
  cases h : checkE e with
  | true => rfl
  | false => rw [h] at h2; simp at h2
theorem ofC_zero {e : List Atr} (h : ((ofC e).2 != 0) = false) : checkE e = true ∧ checkC (ofC e).1 = true := by
  unfold ofC at h ⊢
  cases h1 : checkE e with
  | false => rw [h1] at h; simp at h
  | true =>
    rw [h1] at h
    simp only [if_true] at h ⊢
    cases h2 : checkC (dashC (getC e)) with
    | false => rw [h2] at h; simp at h
    | true => simp only [if_true]; exact ⟨trivial, h2⟩

set_option maxRecDepth 100000 in
theorem into16 (x : Bool) (e : List Atr) (c : List Val) (hc : c.length = 8) (he : e.length ≤ 1000000) (hb : ∀ a ∈ e, a.2.2.length ≤ 1000000) :
    PureFn Tryz.prog 16 [.vsl 3 x (e.map encE), .agg (c.map encV)] (intoO e c) := by
  have p1 := of9 x e he hb
  have hd8 := ofC_len8 e
  have p2 := may33 c hc
  refine PureFn.of Tryz.func16 rfl (enters_call enters Tryz.func16 rfl) (by simp [Tryz.ntmps16]) ?_
  show W Tryz.prog 30 _ none _ _ _
  refine .seq (.region [] (by decide) ?_)
  simp only [EOps, EDf, isRd, gdA, callOf, isPanic, nextOf, altA, evalOp, St.ev, Av.get, St.put, argT, ofV, thenQ, Nat.reduceEqDiff, ↓reduceIte, Bool.and_self, List.map_cons, List.map_nil, List.nil_append, List.append_nil, List.getElem?_cons_zero, List.getElem?_cons_succ, List.getElem?_toArray, Option.map_some, Option.bind_some, decide_true, decide_false, beq_false, beq_true, Bool.not_true, Bool.not_false, Bool.false_eq_true, pickA, cond_true, cond_false, encV_told, if_true, List.length_nil, cells_agg', and_self]
  have hl1 : ∀ H o, lend H [.vsl 3 x (e.map encE)] o = some [.vsl 3 x (e.map encE)] := by intro H o; simp [lend, AV.hfs, AV.hf, encE_hfs]
  have hl2 : ∀ H o, lend H [.agg (c.map encV)] o = some [.agg (c.map encV)] := by intro H o; simp [lend, AV.hfs, AV.hf, encV_hfs]
  have hst : evStore Tryz.prog 28 (.ptr 1 0) (.agg ((ofC e).1.map encV)) [.cells (c.map encV) false, .cells (zeroC.map encV) false] = some [.cells (c.map encV) false, .cells ((ofC e).1.map encV) false] := st28 _ 1 zeroC _ rfl hd8 rfl
  have h28 : evLoad Tryz.prog 28 (.ptr 0 0) [.cells (c.map encV) false, .cells ((ofC e).1.map encV) false] = some (.agg (c.map encV)) := ld28 _ 0 c false hc rfl
  refine .seq (.region [.pure (.ret (.tup [.agg ((ofC e).1.map encV), .int .i64 (ofC e).2]))] (by decide) ?_)
  simp only [EOps, EDf, isRd, gdA, callOf, isPanic, nextOf, altA, evalOp, St.ev, Av.get, St.put, argT, ofV, thenQ, Nat.reduceEqDiff, ↓reduceIte, Bool.and_self, List.map_cons, List.map_nil, List.nil_append, List.append_nil, List.getElem?_cons_zero, List.getElem?_cons_succ, List.getElem?_toArray, Option.map_some, Option.bind_some, decide_true, decide_false, beq_false, beq_true, Bool.not_true, Bool.not_false, Bool.false_eq_true, pickA, cond_true, cond_false, hl1, za28, cells_agg', List.length_singleton, List.cons_append, hst]
  refine ⟨p1, ?_⟩
  unfold intoO
  cases h2 : ((ofC e).2 == 2) with
  | true =>
    simp only [Bool.true_or, if_true]
    refine .seq (.block (.seq (.region [] (by decide) ?_)))
    simp only [EOps, EDf, isRd, gdA, callOf, isPanic, nextOf, altA, evalOp, St.ev, Av.get, St.put, argT, ofV, thenQ, Nat.reduceEqDiff, ↓reduceIte, Bool.and_self, List.map_cons, List.map_nil, List.nil_append, List.append_nil, List.getElem?_cons_zero, List.getElem?_cons_succ, List.getElem?_toArray, Option.map_some, Option.bind_some, decide_true, decide_false, beq_false, beq_true, Bool.not_true, Bool.not_false, Bool.false_eq_true, pickA, cond_true, cond_false, b_eql, h2]
    refine .cond (t := true) rfl (.seq (.region [] (by decide) ?_))
    simp only [EOps, EDf, isRd, gdA, callOf, isPanic, nextOf, altA, evalOp, St.ev, Av.get, St.put, argT, ofV, thenQ, Nat.reduceEqDiff, ↓reduceIte, Bool.and_self, List.map_cons, List.map_nil, List.nil_append, List.append_nil, List.getElem?_cons_zero, List.getElem?_cons_succ, List.getElem?_toArray, Option.map_some, Option.bind_some, decide_true, decide_false, beq_false, beq_true, Bool.not_true, Bool.not_false, Bool.false_eq_true, pickA, cond_true, cond_false, and_self, if_true]
    exact .ret (retF2 4 5 rfl rfl rfl rfl rfl rfl (.nil _ _ _))
  | false =>
    have hce := ofC_ok h2
    cases hm : mayC c with
    | false =>
      simp only [Bool.not_false, Bool.or_true, if_true]
      rw [hm] at p2
      refine .seq (.block (.seq (.region [.pure (.ret (.bool false))] (by decide) ?_)))
      simp only [EOps, EDf, isRd, gdA, callOf, isPanic, nextOf, altA, evalOp, St.ev, Av.get, St.put, argT, ofV, thenQ, Nat.reduceEqDiff, ↓reduceIte, Bool.and_self, List.map_cons, List.map_nil, List.nil_append, List.append_nil, List.getElem?_cons_zero, List.getElem?_cons_succ, List.getElem?_toArray, Option.map_some, Option.bind_some, decide_true, decide_false, beq_false, beq_true, Bool.not_true, Bool.not_false, Bool.false_eq_true, pickA, cond_true, cond_false, b_eql, h2, h28, hl2, u_not]
      refine ⟨p2, .cond (t := true) rfl (.seq (.region [] (by decide) ?_))⟩
      simp only [EOps, EDf, isRd, gdA, callOf, isPanic, nextOf, altA, evalOp, St.ev, Av.get, St.put, argT, ofV, thenQ, Nat.reduceEqDiff, ↓reduceIte, Bool.and_self, List.map_cons, List.map_nil, List.nil_append, List.append_nil, List.getElem?_cons_zero, List.getElem?_cons_succ, List.getElem?_toArray, Option.map_some, Option.bind_some, decide_true, decide_false, beq_false, beq_true, Bool.not_true, Bool.not_false, Bool.false_eq_true, pickA, cond_true, cond_false, and_self, if_true]
      exact .ret (retF2 4 5 rfl rfl rfl rfl rfl rfl (.nil _ _ _))
    | true =>
      simp only [Bool.not_true, Bool.or_false, Bool.false_eq_true, if_false]
      rw [hm] at p2
      refine .seq (.block (.seq (.region [.pure (.ret (.bool true))] (by decide) ?_)))
      simp only [EOps, EDf, isRd, gdA, callOf, isPanic, nextOf, altA, evalOp, St.ev, Av.get, St.put, argT, ofV, thenQ, Nat.reduceEqDiff, ↓reduceIte, Bool.and_self, List.map_cons, List.map_nil, List.nil_append, List.append_nil, List.getElem?_cons_zero, List.getElem?_cons_succ, List.getElem?_toArray, Option.map_some, Option.bind_some, decide_true, decide_false, beq_false, beq_true, Bool.not_true, Bool.not_false, Bool.false_eq_true, pickA, cond_true, cond_false, b_eql, h2, h28, hl2, u_not]
      refine ⟨p2, .cond (t := false) rfl (.seq (.region [] (by decide) ?_))⟩
      cases h0 : ((ofC e).2 != 0) with
      | true =>
        simp only [if_true]
        simp only [EOps, EDf, isRd, gdA, callOf, isPanic, nextOf, altA, evalOp, St.ev, Av.get, St.put, argT, ofV, thenQ, Nat.reduceEqDiff, ↓reduceIte, Bool.and_self, List.map_cons, List.map_nil, List.nil_append, List.append_nil, List.getElem?_cons_zero, List.getElem?_cons_succ, List.getElem?_toArray, Option.map_some, Option.bind_some, decide_true, decide_false, beq_false, beq_true, Bool.not_true, Bool.not_false, Bool.false_eq_true, pickA, cond_true, cond_false, b_neq, h0]
        refine .cond (t := true) rfl (.seq (.region [] (by decide) ?_))
        simp only [EOps, EDf, isRd, gdA, callOf, isPanic, nextOf, altA, evalOp, St.ev, Av.get, St.put, argT, ofV, thenQ, Nat.reduceEqDiff, ↓reduceIte, Bool.and_self, List.map_cons, List.map_nil, List.nil_append, List.append_nil, List.getElem?_cons_zero, List.getElem?_cons_succ, List.getElem?_toArray, Option.map_some, Option.bind_some, decide_true, decide_false, beq_false, beq_true, Bool.not_true, Bool.not_false, Bool.false_eq_true, pickA, cond_true, cond_false, and_self, if_true]
        exact .ret (retF2 4 5 rfl rfl rfl rfl rfl rfl (.nil _ _ _))
      | false =>
        simp only [Bool.false_eq_true, if_false]
        have hcc : checkC c = true := by unfold mayC at hm; simp only [Bool.and_eq_true] at hm; exact hm.1
        have p3 := into35 x e c hc hce hcc
        obtain ⟨v, k, ho, hvh⟩ := outDo_form (doAll (e.map clr) (modsC e c))
        rw [ho] at p3 ⊢
        have hl3 : ∀ H o, lend H [.vsl 3 x (e.map encE), .agg (c.map encV)] o = some [.vsl 3 x (e.map encE), .agg (c.map encV)] := by intro H o; simp [lend, AV.hfs, AV.hf, encE_hfs, encV_hfs]
        simp only [EOps, EDf, isRd, gdA, callOf, isPanic, nextOf, altA, evalOp, St.ev, Av.get, St.put, argT, ofV, thenQ, Nat.reduceEqDiff, ↓reduceIte, Bool.and_self, List.map_cons, List.map_nil, List.nil_append, List.append_nil, List.getElem?_cons_zero, List.getElem?_cons_succ, List.getElem?_toArray, Option.map_some, Option.bind_some, decide_true, decide_false, beq_false, beq_true, Bool.not_true, Bool.not_false, Bool.false_eq_true, pickA, cond_true, cond_false, b_neq, h0]
        refine .cond (t := false) rfl (.skip ?_)
        simp only [EOps, EDf, isRd, gdA, callOf, isPanic, nextOf, altA, evalOp, St.ev, Av.get, St.put, argT, ofV, thenQ, Nat.reduceEqDiff, ↓reduceIte, Bool.and_self, List.map_cons, List.map_nil, List.nil_append, List.append_nil, List.getElem?_cons_zero, List.getElem?_cons_succ, List.getElem?_toArray, Option.map_some, Option.bind_some, decide_true, decide_false, beq_false, beq_true, Bool.not_true, Bool.not_false, Bool.false_eq_true, pickA, cond_true, cond_false, blockQ]
        refine .seq (.region [.pure (.ret (.tup [v, .int .i64 k]))] (by decide) ?_)
        simp only [EOps, EDf, isRd, gdA, callOf, isPanic, nextOf, altA, evalOp, St.ev, Av.get, St.put, argT, ofV, thenQ, Nat.reduceEqDiff, ↓reduceIte, Bool.and_self, List.map_cons, List.map_nil, List.nil_append, List.append_nil, List.getElem?_cons_zero, List.getElem?_cons_succ, List.getElem?_toArray, Option.map_some, Option.bind_some, decide_true, decide_false, beq_false, beq_true, Bool.not_true, Bool.not_false, Bool.false_eq_true, pickA, cond_true, cond_false, h28, hl3]
        refine ⟨p3, ?_⟩
        exact .ret (retF2 4 5 rfl rfl rfl rfl (fz_hf hvh) rfl (.refl _))

/-- The changes that go first, and the others. -/
def partK (l : List Mk) : List Mk := l.filter (fun m => m.1 == 2) ++ l.filter fun m => !(m.1 == 2)
def finE (e : List Atr) (c : List Val) : List Atr := doF (e.map clr) (modsC e c)
/-- What Into says, plainly. -/
theorem intoO_eq {e : List Atr} {c : List Val} (h : ((ofC e).2 == 2 || !(mayC c)) = false) (h0 : ((ofC e).2 != 0) = false) :
    intoO e c = if longE (finE e c) = true then .ret (.tup [.vsl 3 false [], .int .i64 3]) else .ret (.tup [.vsl 3 false ((finE e c).map encE), .int .i64 0]) := by
  have hce := (ofC_zero h0).1
  simp only [Bool.or_eq_false_iff, Bool.not_eq_false'] at h
  have hcc : checkC c = true := by have := h.2; unfold mayC at this; simp only [Bool.and_eq_true] at this; exact this.1
  unfold intoO
  rw [h.1, h.2, h0]
  simp only [Bool.not_true, Bool.or_false, Bool.false_eq_true, if_false]
  have hu : ∀ m ∈ chgs e c 8, Up m.2.2 := fun m hm => by obtain ⟨i, hi, rfl⟩ := chg_mem hm; exact (want_facts hcc hi).2.2
  have hd := doAll_mods (ent_clr (check_ent hce)) (by unfold longE; rw [List.length_map]; exact check_short hce) hu
  have hfold : (chgs e c 8).filter goesB ++ (chgs e c 8).filter (fun m => !(goesB m)) = modsC e c := rfl
  rw [hfold] at hd
  rw [hd]
  unfold finE
  split <;> rfl
theorem finE_check {e : List Atr} {c : List Val} (hce : checkE e = true) (hm : mayC c = true) (hs : longE (finE e c) = false) : checkE (finE e c) = true :=
  final_check hce (by unfold mayC at hm; simp only [Bool.and_eq_true] at hm; exact hm.1) hs

def modsO (e : List Atr) (c : List Val) : Out :=
  if ((ofC e).2 == 2 || !(mayC c)) = true then .ret (.tup [.vsl 4 false [], .int .i64 2])
  else if ((ofC e).2 != 0) = true then .ret (.tup [.vsl 4 false [], .int .i64 (ofC e).2])
  else if longE (finE e c) = true then .ret (.tup [.vsl 4 false [], .int .i64 3])
  else .ret (.tup [.vsl 4 false ((partK (diffL e (finE e c) (bothN e (finE e c)))).map encK), .int .i64 0])

set_option maxRecDepth 100000 in
theorem mods18 (x : Bool) (e : List Atr) (c : List Val) (hc : c.length = 8) (he : e.length ≤ 1000000) (hb : ∀ a ∈ e, a.2.2.length ≤ 1000000) :
    PureFn Tryz.prog 18 [.vsl 3 x (e.map encE), .agg (c.map encV)] (modsO e c) := by
  have p1 := into16 x e c hc he hb
  have hl3 : ∀ H o, lend H [.vsl 3 x (e.map encE), .agg (c.map encV)] o = some [.vsl 3 x (e.map encE), .agg (c.map encV)] := by intro H o; simp [lend, AV.hfs, AV.hf, encE_hfs, encV_hfs]
  refine PureFn.of Tryz.func18 rfl (enters_call enters Tryz.func18 rfl) (by simp [Tryz.ntmps18]) ?_
  show W Tryz.prog 27 _ none _ _ _
  refine .seq (.region [] (by decide) ?_)
  simp only [EOps, EDf, isRd, gdA, callOf, isPanic, nextOf, altA, evalOp, St.ev, Av.get, St.put, argT, ofV, thenQ, Nat.reduceEqDiff, ↓reduceIte, Bool.and_self, List.map_cons, List.map_nil, List.nil_append, List.append_nil, List.getElem?_cons_zero, List.getElem?_cons_succ, List.getElem?_toArray, Option.map_some, Option.bind_some, decide_true, decide_false, beq_false, beq_true, Bool.not_true, Bool.not_false, Bool.false_eq_true, pickA, cond_true, cond_false, encV_told, if_true, List.length_nil, cells_agg', and_self]
  have h28 : evLoad Tryz.prog 28 (.ptr 0 0) [.cells (c.map encV) false] = some (.agg (c.map encV)) := ld28 _ 0 c false hc rfl
  -- an end with a reason
  have bad : ∀ k : Int, (k != 0) = true → intoO e c = .ret (.tup [.vsl 3 false [], .int .i64 k]) → modsO e c = .ret (.tup [.vsl 4 false [], .int .i64 k]) →
      W Tryz.prog 27 0 none (match Tryz.f18.body with | some (.seq _ r) => r | _ => .skip) (retQ Tryz.prog Tryz.f18.results.toList (modsO e c)) ⟨[(5, .int .i64 0), (4, .vsl 0 true []), (3, .ptr 0 0), (0, .vsl 3 x (e.map encE)), (0 + 1, .agg (c.map encV))], [.cells (c.map encV) false], []⟩ := by
    intro k hk hi hmo
    rw [hi] at p1
    rw [hmo]
    show W Tryz.prog 27 0 none (.seq (.region 1 _ _) _) _ _
    refine .seq (.region [.pure (.ret (.tup [.vsl 3 false [], .int .i64 k]))] (by decide) ?_)
    simp only [EOps, EDf, isRd, gdA, callOf, isPanic, nextOf, altA, evalOp, St.ev, Av.get, St.put, argT, ofV, thenQ, Nat.reduceEqDiff, ↓reduceIte, Bool.and_self, List.map_cons, List.map_nil, List.nil_append, List.append_nil, List.getElem?_cons_zero, List.getElem?_cons_succ, List.getElem?_toArray, Option.map_some, Option.bind_some, decide_true, decide_false, beq_false, beq_true, Bool.not_true, Bool.not_false, Bool.false_eq_true, pickA, cond_true, cond_false, h28, hl3]
    refine ⟨p1, ?_⟩
    refine .seq (.seq (.region [] (by decide) ?_))
    simp only [EOps, EDf, isRd, gdA, callOf, isPanic, nextOf, altA, evalOp, St.ev, Av.get, St.put, argT, ofV, thenQ, Nat.reduceEqDiff, ↓reduceIte, Bool.and_self, List.map_cons, List.map_nil, List.nil_append, List.append_nil, List.getElem?_cons_zero, List.getElem?_cons_succ, List.getElem?_toArray, Option.map_some, Option.bind_some, decide_true, decide_false, beq_false, beq_true, Bool.not_true, Bool.not_false, Bool.false_eq_true, pickA, cond_true, cond_false, b_neq, hk]
    refine .cond (t := true) rfl (.seq (.region [] (by decide) ?_))
    simp only [EOps, EDf, isRd, gdA, callOf, isPanic, nextOf, altA, evalOp, St.ev, Av.get, St.put, argT, ofV, thenQ, Nat.reduceEqDiff, ↓reduceIte, Bool.and_self, List.map_cons, List.map_nil, List.nil_append, List.append_nil, List.getElem?_cons_zero, List.getElem?_cons_succ, List.getElem?_toArray, Option.map_some, Option.bind_some, decide_true, decide_false, beq_false, beq_true, Bool.not_true, Bool.not_false, Bool.false_eq_true, pickA, cond_true, cond_false, and_self, if_true]
    exact .ret (retF2 4 5 rfl rfl rfl rfl rfl rfl (.nil _ _ _))
  cases h : ((ofC e).2 == 2 || !(mayC c)) with
  | true => exact bad 2 rfl (by unfold intoO; rw [h]; rfl) (by unfold modsO; rw [h]; rfl)
  | false =>
    cases h0 : ((ofC e).2 != 0) with
    | true => exact bad _ h0 (by unfold intoO; rw [h, h0]; rfl) (by unfold modsO; rw [h, h0]; rfl)
    | false =>
      have hio := intoO_eq h h0
      cases hs : longE (finE e c) with
      | true => exact bad 3 rfl (by rw [hio, hs]; rfl) (by unfold modsO; rw [h, h0, hs]; rfl)
      | false =>
        rw [hs] at hio
        simp only [Bool.false_eq_true, if_false] at hio
        rw [hio] at p1
        have hmo : modsO e c = .ret (.tup [.vsl 4 false ((partK (diffL e (finE e c) (bothN e (finE e c)))).map encK), .int .i64 0]) := by unfold modsO; rw [h, h0, hs]; rfl
        rw [hmo]
        obtain ⟨hce, hcc⟩ := ofC_zero h0
        have hm : mayC c = true := by simp only [Bool.or_eq_false_iff, Bool.not_eq_false'] at h; exact h.2
        have hck := finE_check hce hm hs
        have hne : e ≠ [] := by
          rintro rfl
          have hof : ofC [] = (zeroC, 280) := by kernel_rfl
          rw [hof] at h0
          cases h0
        have p2 := diff38 x false e (finE e c) hne hce hck
        have hdl : (diffL e (finE e c) (bothN e (finE e c))).length ≤ 1000 := by
          have h1 := diffL_len e (finE e c) (bothN e (finE e c)) (bothN e (finE e c)).length
          rw [List.take_length] at h1
          have h2 := bothN_len (a := e) (b := finE e c)
          have h3 := (check_good hce).few
          have h4 := (check_good hck).few
          omega
        have p3 := parted39k false (diffL e (finE e c) (bothN e (finE e c))) 40 (fun m => m.1 == 2) hdl (fun m _ => kind40 m)
        have hpk : partK (diffL e (finE e c) (bothN e (finE e c))) = (diffL e (finE e c) (bothN e (finE e c))).filter (fun m => m.1 == 2) ++ (diffL e (finE e c) (bothN e (finE e c))).filter (fun m => !(m.1 == 2)) := rfl
        rw [← hpk] at p3
        generalize partK (diffL e (finE e c) (bothN e (finE e c))) = pk at *
        generalize diffL e (finE e c) (bothN e (finE e c)) = dl at *
        generalize finE e c = o at *
        have hl4 : ∀ H u, lend H [.vsl 3 x (e.map encE), .vsl 3 false (o.map encE)] u = some [.vsl 3 x (e.map encE), .vsl 3 false (o.map encE)] := by intro H u; simp [lend, AV.hfs, AV.hf, encE_hfs]
        have hl5 : ∀ H u, lend H [.vsl 4 false (dl.map encK), .func (.func 40) [] []] u = some [.vsl 4 false (dl.map encK), .func (.func 40) [] []] := by intro H u; simp [lend, AV.hfs, AV.hf, encK_hfs]
        have e00 : ((0 : Int) != 0) = false := rfl
        refine .seq (.region [.pure (.ret (.tup [.vsl 3 false (o.map encE), .int .i64 0]))] (by decide) ?_)
        simp only [EOps, EDf, isRd, gdA, callOf, isPanic, nextOf, altA, evalOp, St.ev, Av.get, St.put, argT, ofV, thenQ, Nat.reduceEqDiff, ↓reduceIte, Bool.and_self, List.map_cons, List.map_nil, List.nil_append, List.append_nil, List.getElem?_cons_zero, List.getElem?_cons_succ, List.getElem?_toArray, Option.map_some, Option.bind_some, decide_true, decide_false, beq_false, beq_true, Bool.not_true, Bool.not_false, Bool.false_eq_true, pickA, cond_true, cond_false, h28, hl3]
        refine ⟨p1, ?_⟩
        refine .seq (.seq (.region [] (by decide) ?_))
        simp only [EOps, EDf, isRd, gdA, callOf, isPanic, nextOf, altA, evalOp, St.ev, Av.get, St.put, argT, ofV, thenQ, Nat.reduceEqDiff, ↓reduceIte, Bool.and_self, List.map_cons, List.map_nil, List.nil_append, List.append_nil, List.getElem?_cons_zero, List.getElem?_cons_succ, List.getElem?_toArray, Option.map_some, Option.bind_some, decide_true, decide_false, beq_false, beq_true, Bool.not_true, Bool.not_false, Bool.false_eq_true, pickA, cond_true, cond_false, b_neq, e00]
        refine .cond (t := false) rfl (.skip ?_)
        refine .seq (.region [.pure (.ret (.tup [.vsl 4 false (dl.map encK), .int .i64 0]))] (by decide) ?_)
        simp only [EOps, EDf, isRd, gdA, callOf, isPanic, nextOf, altA, evalOp, St.ev, Av.get, St.put, argT, ofV, thenQ, Nat.reduceEqDiff, ↓reduceIte, Bool.and_self, List.map_cons, List.map_nil, List.nil_append, List.append_nil, List.getElem?_cons_zero, List.getElem?_cons_succ, List.getElem?_toArray, Option.map_some, Option.bind_some, decide_true, decide_false, beq_false, beq_true, Bool.not_true, Bool.not_false, Bool.false_eq_true, pickA, cond_true, cond_false, hl4]
        refine ⟨p2, ?_⟩
        refine .seq (.region [.pure (.ret (.vsl 4 false (pk.map encK)))] (by decide) ?_)
        simp only [EOps, EDf, isRd, gdA, callOf, isPanic, nextOf, altA, evalOp, St.ev, Av.get, St.put, argT, ofV, thenQ, Nat.reduceEqDiff, ↓reduceIte, Bool.and_self, List.map_cons, List.map_nil, List.nil_append, List.append_nil, List.getElem?_cons_zero, List.getElem?_cons_succ, List.getElem?_toArray, Option.map_some, Option.bind_some, decide_true, decide_false, beq_false, beq_true, Bool.not_true, Bool.not_false, Bool.false_eq_true, pickA, cond_true, cond_false, hl5, and_self, if_true]
        refine ⟨p3, ?_⟩
        exact .ret (retF2 4 5 rfl rfl rfl rfl (fz_hf (by simp only [AV.hf]; exact encK_hfs _)) rfl (.refl _))
end Go.Proofs.YtmeijkidjifagaaGreat
namespace Go.Proofs.YtmeijkidjifagaaGreat
set_option linter.unusedVariables false
set_option linter.unusedSimpArgs false
open Go Go.Av

def stepW1 (s : Bytes) (st : List Bytes × Bool) (x : Bytes) : List Bytes × Bool := if (!st.2 && !(Op.bytesLess x s)) = true then (st.1 ++ [s], true) else st
def stepW (s : Bytes) (st : List Bytes × Bool) (x : Bytes) : List Bytes × Bool := if (!(x == s)) = true then ((stepW1 s st x).1 ++ [x], (stepW1 s st x).2) else stepW1 s st x
def withS (l : List Bytes) (s : Bytes) : List Bytes × Bool := l.foldl (stepW s) ([], false)
def endW (s : Bytes) (st : List Bytes × Bool) : List Bytes := if (!st.2) = true then st.1 ++ [s] else st.1
def withL (l : List Bytes) (s : Bytes) : List Bytes := endW s (withS l s)
theorem withS_succ (l : List Bytes) (s : Bytes) (i : Nat) (x : Bytes) (h : l[i]? = some x) : withS (l.take (i + 1)) s = stepW s (withS (l.take i) s) x := by
  unfold withS
  rw [List.take_add_one, h, List.foldl_append]; rfl
theorem withS_len (l : List Bytes) (s : Bytes) : ∀ i, i ≤ l.length → (withS (l.take i) s).1.length ≤ 2 * i
  | 0, _ => by simp [withS]
  | i + 1, h => by
    have ih := withS_len l s i (by omega)
    rw [withS_succ l s i _ (List.getElem?_eq_getElem (by omega))]
    generalize withS (l.take i) s = st at ih
    have h1 : (stepW1 s st l[i]).1.length ≤ st.1.length + 1 := by unfold stepW1; split <;> simp
    unfold stepW
    split
    · simp; omega
    · omega

/-! Its law. -/
theorem stepW_done (s : Bytes) : ∀ (l acc : List Bytes), l.foldl (stepW s) (acc, true) = (acc ++ l.filter (fun x => !(x == s)), true)
  | [], acc => by simp
  | x :: l, acc => by
    have h : stepW s (acc, true) x = (acc ++ (if (!(x == s)) = true then [x] else []), true) := by
      unfold stepW stepW1
      simp only [Bool.not_true, Bool.false_and, Bool.false_eq_true, if_false]
      split <;> simp
    rw [List.foldl_cons, h, stepW_done s l, List.filter_cons]
    split <;> simp
theorem filter_all_ne {s : Bytes} {l : List Bytes} (h : ∀ x ∈ l, s < x) : l.filter (fun x => !(x == s)) = l := by
  rw [List.filter_eq_self]
  intro x hx
  have : x ≠ s := (b_lt_ne (h x hx)).symm
  simpa using this
theorem endW_form (s : Bytes) : ∀ (l acc : List Bytes), Up (acc ++ l) → (∀ a ∈ acc, a < s) → Up (endW s (l.foldl (stepW s) (acc, false))) ∧ ∀ n, n ∈ endW s (l.foldl (stepW s) (acc, false)) ↔ n = s ∨ n ∈ acc ∨ n ∈ l
  | [], acc, hu, ha => by
    have h0 : endW s (([] : List Bytes).foldl (stepW s) (acc, false)) = acc ++ [s] := rfl
    rw [h0]
    refine ⟨?_, fun n => by simp [or_comm]⟩
    rw [List.append_nil] at hu
    exact List.pairwise_append.2 ⟨hu, by simp, fun a h b hb => by simp at hb; subst hb; exact ha a h⟩
  | x :: l, acc, hu, ha => by
    rw [List.foldl_cons]
    obtain ⟨hu1, hu2, hu3⟩ := List.pairwise_append.1 hu
    obtain ⟨hx, hl⟩ := List.pairwise_cons.1 hu2
    rcases b_tri x s with hlt | heq | hgt
    · have hs : stepW s (acc, false) x = (acc ++ [x], false) := by
        unfold stepW stepW1
        have hne : (x == s) = false := by simpa using b_lt_ne hlt
        simp [less_lt, hlt, hne]
      rw [hs]
      obtain ⟨g1, g2⟩ := endW_form s l (acc ++ [x]) (by simpa using hu) (by
        intro a h
        rcases List.mem_append.1 h with h | h
        · exact ha a h
        · simp at h; subst h; exact hlt)
      refine ⟨g1, fun n => ?_⟩
      rw [g2]; simp [or_assoc]
    · subst heq
      have hs : stepW x (acc, false) x = (acc ++ [x], true) := by
        unfold stepW stepW1
        simp [less_lt, b_lt_irrefl]
      rw [hs, stepW_done, filter_all_ne hx]
      have h0 : endW x (acc ++ [x] ++ l, true) = acc ++ [x] ++ l := rfl
      rw [h0]
      refine ⟨by simpa using hu, fun n => by simp [or_assoc, or_left_comm]⟩
    · have hnl : ¬ x < s := fun h => b_lt_irrefl _ (b_lt_trans h hgt)
      have hs : stepW s (acc, false) x = (acc ++ [s] ++ [x], true) := by
        unfold stepW stepW1
        have hne : (x == s) = false := by simpa using (b_lt_ne hgt).symm
        simp [less_lt, hnl, hne]
      rw [hs, stepW_done, filter_all_ne fun y hy => b_lt_trans hgt (hx y hy)]
      have h0 : endW s (acc ++ [s] ++ [x] ++ l, true) = acc ++ [s] ++ [x] ++ l := rfl
      rw [h0]
      refine ⟨?_, fun n => by simp [or_assoc, or_left_comm]⟩
      have he : acc ++ [s] ++ [x] ++ l = acc ++ (s :: x :: l) := by simp
      rw [he]
      refine List.pairwise_append.2 ⟨hu1, List.pairwise_cons.2 ⟨?_, hu2⟩, ?_⟩
      · intro y hy
        rcases List.mem_cons.1 hy with rfl | hy
        · exact hgt
        · exact b_lt_trans hgt (hx y hy)
      · intro a h b hb
        rcases List.mem_cons.1 hb with rfl | hb
        · exact ha a h
        · exact hu3 a h b hb
theorem withL_law {l : List Bytes} (h : Up l) (s : Bytes) : Up (withL l s) ∧ ∀ n, n ∈ withL l s ↔ n = s ∨ n ∈ l := by
  obtain ⟨h1, h2⟩ := endW_form s l [] (by simpa using h) (by simp)
  exact ⟨h1, fun n => by rw [withL, withS, h2]; simp⟩

theorem ap26g (L : List Bytes) (x : Bytes) (hb : L.length ≤ 1000000) : evAppend Tryz.prog 26 26 (growV 0 0 L) (.vsl 0 true [.str x]) (grow [] AV.str L) = some (growV 0 0 (L ++ [x]), grow [] AV.str (L ++ [x])) :=
  grow_app (P := Tryz.prog) (sT := 26) (e := 9) (wd := 0) (bytes := 16) Tryz.underlying26 ap9 [] AV.str (fun _ => rfl) (fun _ => rfl) (by decide) L x true (by omega)

set_option maxRecDepth 100000 in
theorem with71 (x : Bool) (l : List Bytes) (s : Bytes) (hl : l.length ≤ 1000) : PureFn Tryz.prog 71 [.vsl 0 x (l.map .str), .str s] (.ret (.vsl 0 false ((withL l s).map .str))) := by
  refine PureFn.of Tryz.func71 rfl (enters_call enters Tryz.func71 rfl) (by simp [Tryz.ntmps71]) ?_
  show W Tryz.prog 48 _ none _ _ _
  refine .seq (.region [] (by decide) ?_)
  simp only [EOps, EDf, isRd, gdA, callOf, isPanic, nextOf, altA, evalOp, St.ev, Av.get, St.put, argT, ofV, thenQ, Nat.reduceEqDiff, ↓reduceIte, Bool.and_self, List.map_cons, List.map_nil, List.nil_append, List.append_nil, List.getElem?_cons_zero, List.getElem?_cons_succ, List.getElem?_toArray, Option.map_some, Option.bind_some, decide_true, decide_false, beq_false, beq_true, Bool.not_true, Bool.not_false, Bool.false_eq_true, pickA, cond_true, cond_false, and_self, if_true]
  refine .seq (.region [] (by decide) ?_)
  simp only [EOps, EDf, isRd, gdA, callOf, isPanic, nextOf, altA, evalOp, St.ev, Av.get, St.put, argT, ofV, thenQ, Nat.reduceEqDiff, ↓reduceIte, Bool.and_self, List.map_cons, List.map_nil, List.nil_append, List.append_nil, List.getElem?_cons_zero, List.getElem?_cons_succ, List.getElem?_toArray, Option.map_some, Option.bind_some, decide_true, decide_false, beq_false, beq_true, Bool.not_true, Bool.not_false, Bool.false_eq_true, pickA, cond_true, cond_false, and_self, if_true]
  refine .seq (.region [] (by decide) ?_)
  simp only [EOps, EDf, isRd, gdA, callOf, isPanic, nextOf, altA, evalOp, St.ev, Av.get, St.put, argT, ofV, thenQ, Nat.reduceEqDiff, ↓reduceIte, Bool.and_self, List.map_cons, List.map_nil, List.nil_append, List.append_nil, List.getElem?_cons_zero, List.getElem?_cons_succ, List.getElem?_toArray, Option.map_some, Option.bind_some, decide_true, decide_false, beq_false, beq_true, Bool.not_true, Bool.not_false, Bool.false_eq_true, pickA, cond_true, cond_false]
  refine .seq (.seq (.region [] (by decide) ?_))
  simp only [EOps, EDf, isRd, gdA, callOf, isPanic, nextOf, altA, evalOp, St.ev, Av.get, St.put, argT, ofV, thenQ, Nat.reduceEqDiff, ↓reduceIte, Bool.and_self, List.map_cons, List.map_nil, List.nil_append, List.append_nil, List.getElem?_cons_zero, List.getElem?_cons_succ, List.getElem?_toArray, Option.map_some, Option.bind_some, decide_true, decide_false, beq_false, beq_true, Bool.not_true, Bool.not_false, Bool.false_eq_true, pickA, cond_true, cond_false]
  refine .block ?_
  have hH : ∀ m L, (grow [] AV.str L).all (OB.hlt m) = true := fun m L => grow_hlt rfl (fun _ => rfl) L
  refine .forR 7 11 12 13 0 l.length (by simp only [maxLen']; omega) (Nat.zero_le _) rfl rfl rfl rfl rfl rfl rfl rfl rfl (by decide)
    (fun i => [(5, growV 0 0 (withS (l.take i) s).1), (6, .bool (withS (l.take i) s).2), (0, .vsl 0 x (l.map .str)), (1, .str s)]) (fun _ => rfl) (fun i => grow [] AV.str (withS (l.take i) s).1) (fun _ => Nat.zero_le _) (fun i => i ≤ l.length) rfl (Nat.zero_le _) ?_ ?_ (subH_nil _ _) ?_ ?_ ?_
  · simp only [subT, Av.get, Nat.reduceEqDiff, ↓reduceIte, Le_rfl, nat0, nat1, and_self, withS, List.take_zero, List.foldl_nil, growV]
  · intro i _
    have h1 : (growV 0 0 (withS (l.take i) s).1).hlt (grow [] AV.str (withS (l.take i) s).1).length = true := growV_hlt _ (by rw [grow_len]; simp)
    simp only [hltT, h1, AV.hlt, strs_hlts, Bool.true_and, Bool.and_true]
  · intro i hi _
    refine .region [] (by decide) ?_
    simp only [EOps, EDf, isRd, gdA, callOf, isPanic, nextOf, altA, evalOp, St.ev, Av.get, St.put, argT, ofV, thenQ, Nat.reduceEqDiff, ↓reduceIte, Bool.and_self, List.map_cons, List.map_nil, List.nil_append, List.append_nil, List.getElem?_cons_zero, List.getElem?_cons_succ, List.getElem?_toArray, Option.map_some, Option.bind_some, decide_true, decide_false, beq_false, beq_true, Bool.not_true, Bool.not_false, Bool.false_eq_true, pickA, cond_true, cond_false, ln26, b_lss, dlt]
    refine ⟨trivial, ?_, subH_self (hH _ _), trivial⟩
    simp only [subT, Av.get, Nat.reduceEqDiff, ↓reduceIte, Le_rfl, nat0, nat1, and_self]
  · intro i hi _
    obtain ⟨u, hu, hdu⟩ := drop_at hi
    have hsl := withS_len l s i (by omega)
    have hsu := withS_succ l s i u hu
    generalize withS (l.take i) s = st at hsl hsu
    generalize withS (l.take (i + 1)) s = st' at hsu
    obtain ⟨o, d⟩ := st
    simp only at hsl ⊢
    refine .block ?_
    have h1l : (stepW1 s (o, d) u).1.length ≤ o.length + 1 := by unfold stepW1; split <;> simp
    refine .seqP True [(5, growV 0 0 (stepW1 s (o, d) u).1), (6, .bool (stepW1 s (o, d) u).2), (7, .int .i64 (i : Int)), (0, .vsl 0 x (l.map .str)), (1, .str s)] (grow [] AV.str (stepW1 s (o, d) u).1) ?_ ?_
    · have hstep : stepW1 s (o, d) u = if (!d && !(Op.bytesLess u s)) = true then (o ++ [s], true) else (o, d) := rfl
      generalize stepW1 s (o, d) u = w at hstep
      generalize h2 : Op.bytesLess u s = b2 at hstep
      cases d with
      | true =>
        simp only [Bool.not_true, Bool.false_and, Bool.false_eq_true, if_false] at hstep
        subst hstep
        refine .seq (.region [] (by decide) ?_)
        simp only [EOps, EDf, isRd, gdA, callOf, isPanic, nextOf, altA, evalOp, St.ev, Av.get, St.put, argT, ofV, thenQ, Nat.reduceEqDiff, ↓reduceIte, Bool.and_self, List.map_cons, List.map_nil, List.nil_append, List.append_nil, List.getElem?_cons_zero, List.getElem?_cons_succ, List.getElem?_toArray, Option.map_some, Option.bind_some, decide_true, decide_false, beq_false, beq_true, Bool.not_true, Bool.not_false, Bool.false_eq_true, pickA, cond_true, cond_false, u_not]
        refine .cond (t := false) rfl (.skip ?_)
        refine ⟨by trivial, ?_, by trivial, by trivial⟩
        simp [holdsT, Av.get]
      | false =>
        refine .seq (.region [] (by decide) ?_)
        cases b2 with
        | true =>
          simp only [Bool.not_false, Bool.not_true, Bool.and_false, Bool.false_eq_true, if_false] at hstep
          subst hstep
          simp only [EOps, EDf, isRd, gdA, callOf, isPanic, nextOf, altA, evalOp, St.ev, Av.get, St.put, argT, ofV, thenQ, Nat.reduceEqDiff, ↓reduceIte, Bool.and_self, List.map_cons, List.map_nil, List.nil_append, List.append_nil, List.getElem?_cons_zero, List.getElem?_cons_succ, List.getElem?_toArray, Option.map_some, Option.bind_some, decide_true, decide_false, beq_false, beq_true, Bool.not_true, Bool.not_false, Bool.false_eq_true, pickA, cond_true, cond_false, u_not, ia26 _ _ _ _ hu, ld9v, s_geq, h2]
          refine .cond (t := false) rfl (.skip ?_)
          refine ⟨by trivial, ?_, by trivial, by trivial⟩
          simp [holdsT, Av.get]
        | false =>
          simp only [Bool.not_false, Bool.and_self, if_true] at hstep
          subst hstep
          simp only [EOps, EDf, isRd, gdA, callOf, isPanic, nextOf, altA, evalOp, St.ev, Av.get, St.put, argT, ofV, thenQ, Nat.reduceEqDiff, ↓reduceIte, Bool.and_self, List.map_cons, List.map_nil, List.nil_append, List.append_nil, List.getElem?_cons_zero, List.getElem?_cons_succ, List.getElem?_toArray, Option.map_some, Option.bind_some, decide_true, decide_false, beq_false, beq_true, Bool.not_true, Bool.not_false, Bool.false_eq_true, pickA, cond_true, cond_false, u_not, ia26 _ _ _ _ hu, ld9v, s_geq, h2]
          have hap := ap26g o s (by omega)
          refine .cond (t := true) rfl (.seq (.region [] (by decide) ?_))
          simp only [EOps, EDf, isRd, gdA, callOf, isPanic, nextOf, altA, evalOp, St.ev, Av.get, St.put, argT, ofV, thenQ, Nat.reduceEqDiff, ↓reduceIte, Bool.and_self, List.map_cons, List.map_nil, List.nil_append, List.append_nil, List.getElem?_cons_zero, List.getElem?_cons_succ, List.getElem?_toArray, Option.map_some, Option.bind_some, decide_true, decide_false, beq_false, beq_true, Bool.not_true, Bool.not_false, Bool.false_eq_true, pickA, cond_true, cond_false, bs26one, hap]
          refine .region [] (by decide) ?_
          simp only [EOps, EDf, isRd, gdA, callOf, isPanic, nextOf, altA, evalOp, St.ev, Av.get, St.put, argT, ofV, thenQ, Nat.reduceEqDiff, ↓reduceIte, Bool.and_self, List.map_cons, List.map_nil, List.nil_append, List.append_nil, List.getElem?_cons_zero, List.getElem?_cons_succ, List.getElem?_toArray, Option.map_some, Option.bind_some, decide_true, decide_false, beq_false, beq_true, Bool.not_true, Bool.not_false, Bool.false_eq_true, pickA, cond_true, cond_false]
          refine ⟨by trivial, ?_, by trivial, by trivial⟩
          simp [holdsT, Av.get]
    · intro _
      have hstep : st' = if (!(u == s)) = true then ((stepW1 s (o, d) u).1 ++ [u], (stepW1 s (o, d) u).2) else stepW1 s (o, d) u := hsu
      generalize stepW1 s (o, d) u = w at hstep h1l ⊢
      obtain ⟨o', d'⟩ := w
      simp only at h1l hstep ⊢
      generalize h2 : (u == s) = b2 at hstep
      refine .seq (.region [] (by decide) ?_)
      cases b2 with
      | true =>
        simp only [Bool.not_true, Bool.false_eq_true, if_false] at hstep
        subst hstep
        simp only [EOps, EDf, isRd, gdA, callOf, isPanic, nextOf, altA, evalOp, St.ev, Av.get, St.put, argT, ofV, thenQ, Nat.reduceEqDiff, ↓reduceIte, Bool.and_self, List.map_cons, List.map_nil, List.nil_append, List.append_nil, List.getElem?_cons_zero, List.getElem?_cons_succ, List.getElem?_toArray, Option.map_some, Option.bind_some, decide_true, decide_false, beq_false, beq_true, Bool.not_true, Bool.not_false, Bool.false_eq_true, pickA, cond_true, cond_false, ia26 _ _ _ _ hu, ld9v, s_neq, h2]
        refine .cond (t := false) rfl (.skip ?_)
        refine ⟨hi, ?_, subH_self (hH _ _), rfl⟩
        simp only [subT, Av.get, Nat.reduceEqDiff, ↓reduceIte, Le_rfl, nat0, nat1, and_self]
      | false =>
        simp only [Bool.not_false, if_true] at hstep
        subst hstep
        simp only [EOps, EDf, isRd, gdA, callOf, isPanic, nextOf, altA, evalOp, St.ev, Av.get, St.put, argT, ofV, thenQ, Nat.reduceEqDiff, ↓reduceIte, Bool.and_self, List.map_cons, List.map_nil, List.nil_append, List.append_nil, List.getElem?_cons_zero, List.getElem?_cons_succ, List.getElem?_toArray, Option.map_some, Option.bind_some, decide_true, decide_false, beq_false, beq_true, Bool.not_true, Bool.not_false, Bool.false_eq_true, pickA, cond_true, cond_false, ia26 _ _ _ _ hu, ld9v, s_neq, h2]
        have hap := ap26g o' u (by omega)
        refine .cond (t := true) rfl (.region [] (by decide) ?_)
        simp only [EOps, EDf, isRd, gdA, callOf, isPanic, nextOf, altA, evalOp, St.ev, Av.get, St.put, argT, ofV, thenQ, Nat.reduceEqDiff, ↓reduceIte, Bool.and_self, List.map_cons, List.map_nil, List.nil_append, List.append_nil, List.getElem?_cons_zero, List.getElem?_cons_succ, List.getElem?_toArray, Option.map_some, Option.bind_some, decide_true, decide_false, beq_false, beq_true, Bool.not_true, Bool.not_false, Bool.false_eq_true, pickA, cond_true, cond_false, ia26 _ _ _ _ hu, ld9v, bs26one, hap]
        refine ⟨hi, ?_, subH_self (hH _ _), rfl⟩
        simp only [subT, Av.get, Nat.reduceEqDiff, ↓reduceIte, Le_rfl, nat0, nat1, and_self]
  · intro _
    simp only [EOps, EDf, isRd, gdA, callOf, isPanic, nextOf, altA, evalOp, St.ev, Av.get, St.put, argT, ofV, thenQ, Nat.reduceEqDiff, ↓reduceIte, Bool.and_self, List.map_cons, List.map_nil, List.nil_append, List.append_nil, List.getElem?_cons_zero, List.getElem?_cons_succ, List.getElem?_toArray, Option.map_some, Option.bind_some, decide_true, decide_false, beq_false, beq_true, Bool.not_true, Bool.not_false, Bool.false_eq_true, pickA, cond_true, cond_false, blockQ]
    have hsl := withS_len l s l.length (Nat.le_refl _)
    rw [List.take_length] at hsl ⊢
    have hw : withL l s = if (!(withS l s).2) = true then (withS l s).1 ++ [s] else (withS l s).1 := rfl
    generalize withL l s = W at hw ⊢
    generalize withS l s = st at hsl hw ⊢
    obtain ⟨o, d⟩ := st
    simp only at hsl hw ⊢
    have hfin : ∀ L : List Bytes, ∃ y, fz (grow [] AV.str L) 20 (growV 0 0 L) = some (.vsl 0 y (L.map .str)) := fun L => grow_fz0 (B := []) L (strs_hfs L) (strs_one L)
    refine .seq (.seq (.region [] (by decide) ?_))
    cases d with
    | true =>
      simp only [Bool.not_true, Bool.false_eq_true, if_false] at hw
      subst hw
      simp only [EOps, EDf, isRd, gdA, callOf, isPanic, nextOf, altA, evalOp, St.ev, Av.get, St.put, argT, ofV, thenQ, Nat.reduceEqDiff, ↓reduceIte, Bool.and_self, List.map_cons, List.map_nil, List.nil_append, List.append_nil, List.getElem?_cons_zero, List.getElem?_cons_succ, List.getElem?_toArray, Option.map_some, Option.bind_some, decide_true, decide_false, beq_false, beq_true, Bool.not_true, Bool.not_false, Bool.false_eq_true, pickA, cond_true, cond_false, u_not]
      refine .cond (t := false) rfl (.skip ?_)
      refine .seq (.region [] (by decide) ?_)
      simp only [EOps, EDf, isRd, gdA, callOf, isPanic, nextOf, altA, evalOp, St.ev, Av.get, St.put, argT, ofV, thenQ, Nat.reduceEqDiff, ↓reduceIte, Bool.and_self, List.map_cons, List.map_nil, List.nil_append, List.append_nil, List.getElem?_cons_zero, List.getElem?_cons_succ, List.getElem?_toArray, Option.map_some, Option.bind_some, decide_true, decide_false, beq_false, beq_true, Bool.not_true, Bool.not_false, Bool.false_eq_true, pickA, cond_true, cond_false]
      obtain ⟨y, hy⟩ := hfin W
      exact .ret (retF 4 rfl rfl rfl hy (.exact _ _ _))
    | false =>
      simp only [Bool.not_false, if_true] at hw
      subst hw
      have hap := ap26g o s (by omega)
      simp only [EOps, EDf, isRd, gdA, callOf, isPanic, nextOf, altA, evalOp, St.ev, Av.get, St.put, argT, ofV, thenQ, Nat.reduceEqDiff, ↓reduceIte, Bool.and_self, List.map_cons, List.map_nil, List.nil_append, List.append_nil, List.getElem?_cons_zero, List.getElem?_cons_succ, List.getElem?_toArray, Option.map_some, Option.bind_some, decide_true, decide_false, beq_false, beq_true, Bool.not_true, Bool.not_false, Bool.false_eq_true, pickA, cond_true, cond_false, u_not]
      refine .cond (t := true) rfl (.region [] (by decide) ?_)
      simp only [EOps, EDf, isRd, gdA, callOf, isPanic, nextOf, altA, evalOp, St.ev, Av.get, St.put, argT, ofV, thenQ, Nat.reduceEqDiff, ↓reduceIte, Bool.and_self, List.map_cons, List.map_nil, List.nil_append, List.append_nil, List.getElem?_cons_zero, List.getElem?_cons_succ, List.getElem?_toArray, Option.map_some, Option.bind_some, decide_true, decide_false, beq_false, beq_true, Bool.not_true, Bool.not_false, Bool.false_eq_true, pickA, cond_true, cond_false, bs26one, hap]
      refine .seq (.region [] (by decide) ?_)
      simp only [EOps, EDf, isRd, gdA, callOf, isPanic, nextOf, altA, evalOp, St.ev, Av.get, St.put, argT, ofV, thenQ, Nat.reduceEqDiff, ↓reduceIte, Bool.and_self, List.map_cons, List.map_nil, List.nil_append, List.append_nil, List.getElem?_cons_zero, List.getElem?_cons_succ, List.getElem?_toArray, Option.map_some, Option.bind_some, decide_true, decide_false, beq_false, beq_true, Bool.not_true, Bool.not_false, Bool.false_eq_true, pickA, cond_true, cond_false]
      obtain ⟨y, hy⟩ := hfin (o ++ [s])
      exact .ret (retF 4 rfl rfl rfl hy (.exact _ _ _))
end Go.Proofs.YtmeijkidjifagaaGreat
