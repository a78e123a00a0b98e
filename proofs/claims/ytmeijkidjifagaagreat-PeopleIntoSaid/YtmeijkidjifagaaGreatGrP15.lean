/- Contracts of functions that the statements of this seat reach: under the conditions named at each theorem. -/
import Derived.Test.YtmeijkidjifagaaGreatGrP14
namespace Go.Proofs.YtmeijkidjifagaaGreat
set_option linter.unusedVariables false
set_option linter.unusedSimpArgs false
open Go Go.Av

def putN (ns : List Bytes) (e : List Atr) : List Bytes := e.foldl (fun l a => withL l a.1) ns
def namesR (a b : List Atr) : List Bytes := putN (putN [] a) b
theorem putN_succ (ns : List Bytes) (e : List Atr) (i : Nat) (a : Atr) (h : e[i]? = some a) : putN ns (e.take (i + 1)) = withL (putN ns (e.take i)) a.1 := by
  unfold putN
  rw [List.take_add_one, h, List.foldl_append]; rfl
theorem putN_law : ∀ (e : List Atr) (ns : List Bytes), Up ns → Up (putN ns e) ∧ ∀ n, n ∈ putN ns e ↔ n ∈ ns ∨ n ∈ e.map (·.1)
  | [], ns, h => ⟨h, fun n => by simp [putN]⟩
  | a :: e, ns, h => by
    obtain ⟨h1, h2⟩ := withL_law h a.1
    obtain ⟨g1, g2⟩ := putN_law e _ h1
    refine ⟨g1, fun n => ?_⟩
    rw [show putN ns (a :: e) = putN (withL ns a.1) e from rfl, g2, h2, List.map_cons, List.mem_cons]
    constructor
    · rintro ((h | h) | h)
      · exact .inr (.inl h)
      · exact .inl h
      · exact .inr (.inr h)
    · rintro (h | h | h)
      · exact .inl (.inr h)
      · exact .inl (.inl h)
      · exact .inr h
theorem up_nodup {l : List Bytes} (h : Up l) : l.Nodup := h.imp fun h => b_lt_ne h
theorem putN_len (e : List Atr) (ns : List Bytes) (h : Up ns) : (putN ns e).length ≤ ns.length + e.length := by
  obtain ⟨h1, h2⟩ := putN_law e ns h
  have := len_sub (l := putN ns e) (m := ns ++ e.map (·.1)) (up_nodup h1) fun n hn => List.mem_append.2 ((h2 n).1 hn)
  simpa using this
theorem namesR_up (a b : List Atr) : Up (namesR a b) := (putN_law b _ (putN_law a [] .nil).1).1
theorem namesR_mem (a b : List Atr) (n : Bytes) : n ∈ namesR a b ↔ n ∈ a.map (·.1) ∨ n ∈ b.map (·.1) := by
  rw [namesR, (putN_law b _ (putN_law a [] .nil).1).2, (putN_law a [] .nil).2]; simp
theorem namesR_len (a b : List Atr) : (namesR a b).length ≤ a.length + b.length := by
  have h1 := putN_len a [] .nil
  have h2 := putN_len b _ (putN_law a [] .nil).1
  simp only [List.length_nil] at h1
  unfold namesR; omega

set_option maxRecDepth 100000 in
theorem diff41 (x y : Bool) (a b : List Atr) (hla : a.length ≤ 50) (hlb : b.length ≤ 50) (hsa : ∀ c ∈ a, small c.1 = c.1) (hsb : ∀ c ∈ b, small c.1 = c.1) :
    PureFn Tryz.prog 41 [.vsl 3 x (a.map encE), .vsl 3 y (b.map encE)] (.ret (.vsl 4 false ((diffL a b (namesR a b)).map encK))) := by
  have hns : ∀ n ∈ namesR a b, small n = n := by
    intro n hn
    rcases (namesR_mem a b n).1 hn with h | h
    · obtain ⟨c, hc, rfl⟩ := List.mem_map.1 h; exact hsa c hc
    · obtain ⟨c, hc, rfl⟩ := List.mem_map.1 h; exact hsb c hc
  have hnl := namesR_len a b
  have hua : ∀ i, Up (putN [] (a.take i)) := fun i => (putN_law _ [] .nil).1
  have hub : ∀ i, Up (putN (putN [] a) (b.take i)) := fun i => (putN_law _ _ (putN_law a [] .nil).1).1
  have hal : ∀ i, (putN [] (a.take i)).length ≤ 1000 := fun i => by
    have h1 := putN_len (a.take i) [] .nil
    simp only [List.length_nil, List.length_take] at h1; omega
  have hbl : ∀ i, (putN (putN [] a) (b.take i)).length ≤ 1000 := fun i => by
    have h1 := putN_len a [] .nil
    have h2 := putN_len (b.take i) _ (putN_law a [] .nil).1
    simp only [List.length_nil, List.length_take] at h1 h2; omega
  refine PureFn.of Tryz.func41 rfl (enters_call enters Tryz.func41 rfl) (by simp [Tryz.ntmps41]) ?_
  show W Tryz.prog 79 _ none _ _ _
  refine .seq (.region [] (by decide) ?_)
  simp only [EOps, EDf, isRd, gdA, callOf, isPanic, nextOf, altA, evalOp, St.ev, Av.get, St.put, argT, ofV, thenQ, Nat.reduceEqDiff, ↓reduceIte, Bool.and_self, List.map_cons, List.map_nil, List.nil_append, List.append_nil, List.getElem?_cons_zero, List.getElem?_cons_succ, List.getElem?_toArray, Option.map_some, Option.bind_some, decide_true, decide_false, beq_false, beq_true, Bool.not_true, Bool.not_false, Bool.false_eq_true, pickA, cond_true, cond_false, and_self, if_true]
  refine .seq (.region [] (by decide) ?_)
  simp only [EOps, EDf, isRd, gdA, callOf, isPanic, nextOf, altA, evalOp, St.ev, Av.get, St.put, argT, ofV, thenQ, Nat.reduceEqDiff, ↓reduceIte, Bool.and_self, List.map_cons, List.map_nil, List.nil_append, List.append_nil, List.getElem?_cons_zero, List.getElem?_cons_succ, List.getElem?_toArray, Option.map_some, Option.bind_some, decide_true, decide_false, beq_false, beq_true, Bool.not_true, Bool.not_false, Bool.false_eq_true, pickA, cond_true, cond_false, and_self, if_true]
  refine .seq (.seq (.region [] (by decide) ?_))
  simp only [EOps, EDf, isRd, gdA, callOf, isPanic, nextOf, altA, evalOp, St.ev, Av.get, St.put, argT, ofV, thenQ, Nat.reduceEqDiff, ↓reduceIte, Bool.and_self, List.map_cons, List.map_nil, List.nil_append, List.append_nil, List.getElem?_cons_zero, List.getElem?_cons_succ, List.getElem?_toArray, Option.map_some, Option.bind_some, decide_true, decide_false, beq_false, beq_true, Bool.not_true, Bool.not_false, Bool.false_eq_true, pickA, cond_true, cond_false]
  refine .block ?_
  refine .forR 6 16 17 18 0 a.length (by simp only [maxLen']; omega) (Nat.zero_le _) rfl rfl rfl rfl rfl rfl rfl rfl rfl (by decide)
    (fun i => [(5, .vsl 0 false ((putN [] (a.take i)).map .str)), (0, .vsl 3 x (a.map encE)), (1, .vsl 3 y (b.map encE))]) (fun _ => rfl) (fun i => []) (fun _ => Nat.zero_le _) (fun i => True) rfl trivial ?_ ?_ (subH_nil _ _) ?_ ?_ ?_
  · simp only [subT, Av.get, Nat.reduceEqDiff, ↓reduceIte, Le_rfl, nat0, and_self, and_true, true_and]
    exact .nil _ _ _
  · intro i _
    simp only [hltT, AV.hlt, encE_hlts, strs_hlts, Bool.true_and, Bool.and_true]
  · intro i hi _
    refine .region [] (by decide) ?_
    simp only [EOps, EDf, isRd, gdA, callOf, isPanic, nextOf, altA, evalOp, St.ev, Av.get, St.put, argT, ofV, thenQ, Nat.reduceEqDiff, ↓reduceIte, Bool.and_self, List.map_cons, List.map_nil, List.nil_append, List.append_nil, List.getElem?_cons_zero, List.getElem?_cons_succ, List.getElem?_toArray, Option.map_some, Option.bind_some, decide_true, decide_false, beq_false, beq_true, Bool.not_true, Bool.not_false, Bool.false_eq_true, pickA, cond_true, cond_false, ln23, b_lss, dlt]
    refine ⟨trivial, ?_, subH_nil _ _, trivial⟩
    simp only [subT, Av.get, Nat.reduceEqDiff, ↓reduceIte, Le_rfl, nat0, nat1, and_self]
  · intro i hi _
    obtain ⟨c, hc, hdc⟩ := drop_at hi
    have hsu := putN_succ [] a i c hc
    have hl := hal i
    generalize putN [] (a.take i) = ns at hsu hl ⊢
    have p1 := with71 false ns c.1 hl
    rw [← hsu] at p1
    have hl1 : ∀ H o, lend H [.vsl 0 false (ns.map .str), .str c.1] o = some [.vsl 0 false (ns.map .str), .str c.1] := by intro H o; simp [lend, AV.hfs, AV.hf, strs_hfs]
    refine .block (.region [.pure (.ret (.vsl 0 false ((putN [] (a.take (i + 1))).map .str)))] (by decide) ?_)
    simp only [EOps, EDf, isRd, gdA, callOf, isPanic, nextOf, altA, evalOp, St.ev, Av.get, St.put, argT, ofV, thenQ, Nat.reduceEqDiff, ↓reduceIte, Bool.and_self, List.map_cons, List.map_nil, List.nil_append, List.append_nil, List.getElem?_cons_zero, List.getElem?_cons_succ, List.getElem?_toArray, Option.map_some, Option.bind_some, decide_true, decide_false, beq_false, beq_true, Bool.not_true, Bool.not_false, Bool.false_eq_true, pickA, cond_true, cond_false, ia23 _ _ _ _ hc, faE0, ldE0, hl1]
    refine ⟨p1, trivial, ?_, subH_nil _ _, rfl⟩
    simp only [subT, Av.get, Nat.reduceEqDiff, ↓reduceIte, Le_rfl, nat0, nat1, and_self]
  · intro _
    simp only [EOps, EDf, isRd, gdA, callOf, isPanic, nextOf, altA, evalOp, St.ev, Av.get, St.put, argT, ofV, thenQ, Nat.reduceEqDiff, ↓reduceIte, Bool.and_self, List.map_cons, List.map_nil, List.nil_append, List.append_nil, List.getElem?_cons_zero, List.getElem?_cons_succ, List.getElem?_toArray, Option.map_some, Option.bind_some, decide_true, decide_false, beq_false, beq_true, Bool.not_true, Bool.not_false, Bool.false_eq_true, pickA, cond_true, cond_false, blockQ]
    rw [List.take_length]
    refine .seq (.seq (.region [] (by decide) ?_))
    simp only [EOps, EDf, isRd, gdA, callOf, isPanic, nextOf, altA, evalOp, St.ev, Av.get, St.put, argT, ofV, thenQ, Nat.reduceEqDiff, ↓reduceIte, Bool.and_self, List.map_cons, List.map_nil, List.nil_append, List.append_nil, List.getElem?_cons_zero, List.getElem?_cons_succ, List.getElem?_toArray, Option.map_some, Option.bind_some, decide_true, decide_false, beq_false, beq_true, Bool.not_true, Bool.not_false, Bool.false_eq_true, pickA, cond_true, cond_false]
    refine .block ?_
    have hns0 : namesR a b = putN (putN [] a) b := rfl
    generalize putN [] a = na at hub hbl hns0 ⊢
    refine .forR 7 29 30 31 0 b.length (by simp only [maxLen']; omega) (Nat.zero_le _) rfl rfl rfl rfl rfl rfl rfl rfl rfl (by decide)
      (fun i => [(5, .vsl 0 false ((putN na (b.take i)).map .str)), (0, .vsl 3 x (a.map encE)), (1, .vsl 3 y (b.map encE))]) (fun _ => rfl) (fun i => []) (fun _ => Nat.zero_le _) (fun i => True) rfl trivial ?_ ?_ (subH_nil _ _) ?_ ?_ ?_
    · have h0 : putN na (b.take 0) = na := rfl
      simp only [subT, Av.get, Nat.reduceEqDiff, ↓reduceIte, Le_rfl, nat0, nat1, and_self, h0]
    · intro i _
      simp only [hltT, AV.hlt, encE_hlts, strs_hlts, Bool.true_and, Bool.and_true]
    · intro i hi _
      refine .region [] (by decide) ?_
      simp only [EOps, EDf, isRd, gdA, callOf, isPanic, nextOf, altA, evalOp, St.ev, Av.get, St.put, argT, ofV, thenQ, Nat.reduceEqDiff, ↓reduceIte, Bool.and_self, List.map_cons, List.map_nil, List.nil_append, List.append_nil, List.getElem?_cons_zero, List.getElem?_cons_succ, List.getElem?_toArray, Option.map_some, Option.bind_some, decide_true, decide_false, beq_false, beq_true, Bool.not_true, Bool.not_false, Bool.false_eq_true, pickA, cond_true, cond_false, ln23, b_lss, dlt]
      refine ⟨trivial, ?_, subH_nil _ _, trivial⟩
      simp only [subT, Av.get, Nat.reduceEqDiff, ↓reduceIte, Le_rfl, nat0, nat1, and_self]
    · intro i hi _
      obtain ⟨c, hc, hdc⟩ := drop_at hi
      have hsu := putN_succ na b i c hc
      have hl := hbl i
      generalize putN na (b.take i) = ns at hsu hl ⊢
      have p1 := with71 false ns c.1 hl
      rw [← hsu] at p1
      have hl1 : ∀ H o, lend H [.vsl 0 false (ns.map .str), .str c.1] o = some [.vsl 0 false (ns.map .str), .str c.1] := by intro H o; simp [lend, AV.hfs, AV.hf, strs_hfs]
      refine .block (.region [.pure (.ret (.vsl 0 false ((putN na (b.take (i + 1))).map .str)))] (by decide) ?_)
      simp only [EOps, EDf, isRd, gdA, callOf, isPanic, nextOf, altA, evalOp, St.ev, Av.get, St.put, argT, ofV, thenQ, Nat.reduceEqDiff, ↓reduceIte, Bool.and_self, List.map_cons, List.map_nil, List.nil_append, List.append_nil, List.getElem?_cons_zero, List.getElem?_cons_succ, List.getElem?_toArray, Option.map_some, Option.bind_some, decide_true, decide_false, beq_false, beq_true, Bool.not_true, Bool.not_false, Bool.false_eq_true, pickA, cond_true, cond_false, ia23 _ _ _ _ hc, faE0, ldE0, hl1]
      refine ⟨p1, trivial, ?_, subH_nil _ _, rfl⟩
      simp only [subT, Av.get, Nat.reduceEqDiff, ↓reduceIte, Le_rfl, nat0, nat1, and_self]
    · intro _
      simp only [EOps, EDf, isRd, gdA, callOf, isPanic, nextOf, altA, evalOp, St.ev, Av.get, St.put, argT, ofV, thenQ, Nat.reduceEqDiff, ↓reduceIte, Bool.and_self, List.map_cons, List.map_nil, List.nil_append, List.append_nil, List.getElem?_cons_zero, List.getElem?_cons_succ, List.getElem?_toArray, Option.map_some, Option.bind_some, decide_true, decide_false, beq_false, beq_true, Bool.not_true, Bool.not_false, Bool.false_eq_true, pickA, cond_true, cond_false, blockQ]
      rw [List.take_length, ← hns0]
      clear hns0 hub hbl
      generalize namesR a b = ns at *
      refine .seq (.region [] (by decide) ?_)
      simp only [EOps, EDf, isRd, gdA, callOf, isPanic, nextOf, altA, evalOp, St.ev, Av.get, St.put, argT, ofV, thenQ, Nat.reduceEqDiff, ↓reduceIte, Bool.and_self, List.map_cons, List.map_nil, List.nil_append, List.append_nil, List.getElem?_cons_zero, List.getElem?_cons_succ, List.getElem?_toArray, Option.map_some, Option.bind_some, decide_true, decide_false, beq_false, beq_true, Bool.not_true, Bool.not_false, Bool.false_eq_true, pickA, cond_true, cond_false]
      refine .seq (.seq (.region [] (by decide) ?_))
      simp only [EOps, EDf, isRd, gdA, callOf, isPanic, nextOf, altA, evalOp, St.ev, Av.get, St.put, argT, ofV, thenQ, Nat.reduceEqDiff, ↓reduceIte, Bool.and_self, List.map_cons, List.map_nil, List.nil_append, List.append_nil, List.getElem?_cons_zero, List.getElem?_cons_succ, List.getElem?_toArray, Option.map_some, Option.bind_some, decide_true, decide_false, beq_false, beq_true, Bool.not_true, Bool.not_false, Bool.false_eq_true, pickA, cond_true, cond_false]
      refine .block ?_
      refine .loop (X := Nat) (fun i s => Av.get s.T 0 = .vsl 3 x (a.map encE) ∧ Av.get s.T 1 = .vsl 3 y (b.map encE) ∧ Av.get s.T 5 = .vsl 0 false (ns.map .str) ∧ Av.get s.T 9 = .int .i64 (i : Int) ∧ i ≤ ns.length ∧ slIn 4 encK s.H (Av.get s.T 8) (diffL a b (ns.take i)) ∧ s.D = []) (fun i => ns.length - i) 0
        ⟨rfl, rfl, rfl, rfl, Nat.zero_le _, .inl ⟨rfl, 0, rfl⟩, rfl⟩ ?_
      rintro i ⟨T, M, D⟩ ⟨h0, h1, h5, h9, hi, hs, rfl⟩
      simp only at h0 h1 h5 h9 hs
      generalize hv8 : Av.get T 8 = v8 at hs
      refine .seq (.seq (.region [] (by decide) ?_))
      simp only [EOps, EDf, isRd, gdA, callOf, isPanic, nextOf, altA, evalOp, St.ev, Av.get, St.put, argT, ofV, thenQ, Nat.reduceEqDiff, ↓reduceIte, Bool.and_self, List.map_cons, List.map_nil, List.nil_append, List.append_nil, List.getElem?_cons_zero, List.getElem?_cons_succ, List.getElem?_toArray, Option.map_some, Option.bind_some, decide_true, decide_false, beq_false, beq_true, Bool.not_true, Bool.not_false, Bool.false_eq_true, pickA, cond_true, cond_false, h0, h1, h5, h9, hv8, ln26, b_lss, dlt]
      by_cases h : i < ns.length
      · obtain ⟨n, hn, hdrop⟩ := drop_at h
        have hsm := hns n (List.mem_of_getElem? hn)
        have hdl := diffL_len a b ns i
        have hsucc := diffL_succ a b ns i n hn
        refine .cond (t := true) (by simp [St.ev, Av.get, h]) (.skip ?_)
        simp only [thenQ]
        have q1 := get24 x a n
        have q2 := get24 y b n
        rw [hsm] at q1 q2
        have hdA : diffA a b n = if decide (getE a n = getE b n) = true then none else some (if (((getE b n).length : Int) == 0) = true then 2 else if (((getE a n).length : Int) == 0) = true then 1 else 3, n, false, getE b n) := rfl
        generalize getE a n = g at q1 hdA
        generalize getE b n = g' at q2 hdA
        rw [hdA] at hsucc
        have hl7 : ∀ H o, lend H [.vsl 3 x (a.map encE), .str n] o = some [.vsl 3 x (a.map encE), .str n] := by intro H o; simp [lend, AV.hfs, AV.hf, encE_hfs]
        have hl8 : ∀ H o, lend H [.vsl 3 y (b.map encE), .str n] o = some [.vsl 3 y (b.map encE), .str n] := by intro H o; simp [lend, AV.hfs, AV.hf, encE_hfs]
        refine .seq (.block (.seq (.drawf [.pure (.ret (encV (false, g))), .pure (.ret (encV (false, g')))] mixed (by kernel_rfl) (by kernel_rfl) (by kernel_rfl) ?_)))
        simp only [EOps, EDf, isRd, gdA, callOf, isPanic, nextOf, altA, evalOp, St.ev, Av.get, St.put, argT, ofV, thenQ, Nat.reduceEqDiff, ↓reduceIte, Bool.and_self, List.map_cons, List.map_nil, List.nil_append, List.append_nil, List.getElem?_cons_zero, List.getElem?_cons_succ, List.getElem?_toArray, Option.map_some, Option.bind_some, decide_true, decide_false, beq_false, beq_true, Bool.not_true, Bool.not_false, Bool.false_eq_true, pickA, cond_true, cond_false, h0, h1, h5, h9, hv8, ia26 _ _ _ _ hn, ld9v, hl7, hl8]
        refine ⟨q1, q2, ?_⟩
        have hst : evStore Tryz.prog 68 (.ptr M.length 0) (encK (3, n, false, g')) (M ++ [.cells [.int .i64 0, .str [], .vsl 0 true []] false]) = some (M ++ [.cells (kcell (3, n, false, g')) false]) := by
          rw [st68k _ _ _ _ _ _ (by rw [List.getElem?_concat_length])]
          congr 1
          rw [List.set_append_right _ _ (Nat.le_refl _), Nat.sub_self]
          rfl
        refine .seq (.region [] (by decide) ?_)
        simp only [EOps, EDf, isRd, gdA, callOf, isPanic, nextOf, altA, evalOp, St.ev, Av.get, St.put, argT, ofV, thenQ, Nat.reduceEqDiff, ↓reduceIte, Bool.and_self, List.map_cons, List.map_nil, List.nil_append, List.append_nil, List.getElem?_cons_zero, List.getElem?_cons_succ, List.getElem?_toArray, Option.map_some, Option.bind_some, decide_true, decide_false, beq_false, beq_true, Bool.not_true, Bool.not_false, Bool.false_eq_true, pickA, cond_true, cond_false, h0, h1, h5, h9, hv8, ia26 _ _ _ _ hn, ld9v, bd68k n (false, g'), za68, cells_agg', hst]
        have q3 := texts23 false false g g'
        have hl9 : ∀ H o, lend H [encV (false, g), encV (false, g')] o = some [encV (false, g), encV (false, g')] := by intro H o; simp [lend, AV.hfs, AV.hf, encV, strs_hfs]
        have hln : ∀ (l : List Bytes) H, evLen Tryz.prog 26 (encV (false, l)) H = some (.int .i64 l.length) := fun l H => ln26 _ _ _
        generalize decide (g = g') = b1 at q3 hsucc
        generalize h2 : (((g'.length) : Int) == 0) = b2 at hsucc
        generalize h3 : (((g.length) : Int) == 0) = b3 at hsucc
        have hset : ∀ k, evStore Tryz.prog 66 (.ptr M.length 0) (.int .i64 k) (M ++ [.cells (kcell (3, n, false, g')) false]) = some (M ++ [.cells (kcell (k, n, false, g')) false]) := by
          intro k
          rw [st66 _ _ _ _ (by rw [List.getElem?_concat_length])]
          congr 1
          rw [List.set_append_right _ _ (Nat.le_refl _), Nat.sub_self]
          rfl
        have hadd : evBin Tryz.prog .add 3 (.int .i64 (i : Int)) (.int .i64 1) = some (.int .i64 ((i + 1 : Nat) : Int)) := by
          rw [b_add64 _ _ (by omega)]; simp
        obtain ⟨kd, hkd⟩ : ∃ kd : Int, kd = if b2 = true then 2 else if b3 = true then 1 else 3 := ⟨_, rfl⟩
        rw [← hkd] at hsucc
        refine .seq (.seq (.region [.pure (.ret (.bool b1))] (by decide) ?_))
        simp only [EOps, EDf, isRd, gdA, callOf, isPanic, nextOf, altA, evalOp, St.ev, Av.get, St.put, argT, ofV, thenQ, Nat.reduceEqDiff, ↓reduceIte, Bool.and_self, List.map_cons, List.map_nil, List.nil_append, List.append_nil, List.getElem?_cons_zero, List.getElem?_cons_succ, List.getElem?_toArray, Option.map_some, Option.bind_some, decide_true, decide_false, beq_false, beq_true, Bool.not_true, Bool.not_false, Bool.false_eq_true, pickA, cond_true, cond_false, h0, h1, h5, h9, hv8, hl9]
        refine ⟨q3, ?_⟩
        cases b1 with
        | true =>
          refine .cond (t := true) rfl (.exit ?_)
          simp only [EOps, EDf, isRd, gdA, callOf, isPanic, nextOf, altA, evalOp, St.ev, Av.get, St.put, argT, ofV, thenQ, Nat.reduceEqDiff, ↓reduceIte, Bool.and_self, List.map_cons, List.map_nil, List.nil_append, List.append_nil, List.getElem?_cons_zero, List.getElem?_cons_succ, List.getElem?_toArray, Option.map_some, Option.bind_some, decide_true, decide_false, beq_false, beq_true, Bool.not_true, Bool.not_false, Bool.false_eq_true, pickA, cond_true, cond_false, blockQ]
          simp only [if_true] at hsucc
          refine .region [] (by decide) ?_
          simp only [EOps, EDf, isRd, gdA, callOf, isPanic, nextOf, altA, evalOp, St.ev, Av.get, St.put, argT, ofV, thenQ, Nat.reduceEqDiff, ↓reduceIte, Bool.and_self, List.map_cons, List.map_nil, List.nil_append, List.append_nil, List.getElem?_cons_zero, List.getElem?_cons_succ, List.getElem?_toArray, Option.map_some, Option.bind_some, decide_true, decide_false, beq_false, beq_true, Bool.not_true, Bool.not_false, Bool.false_eq_true, pickA, cond_true, cond_false, h0, h1, h5, h9, hv8, hadd]
          refine ⟨i + 1, ⟨trivial, trivial, trivial, rfl, h, ?_, trivial⟩, by omega⟩
          rw [hsucc]
          exact slIn_keep hs fun d hd _ => List.getElem?_append_left hd
        | false =>
          simp only [Bool.false_eq_true, if_false] at hsucc
          refine .cond (t := false) rfl (.skip ?_)
          refine .seqP True [(0, .vsl 3 x (a.map encE)), (1, .vsl 3 y (b.map encE)), (5, .vsl 0 false (ns.map .str)), (9, .int .i64 (i : Int)), (8, v8), (12, .ptr M.length 0)] (M ++ [.cells (kcell (kd, n, false, g')) false]) ?_ ?_
          · refine .seq (.region [] (by decide) ?_)
            cases b2 with
            | true =>
              subst hkd
              simp only [EOps, EDf, isRd, gdA, callOf, isPanic, nextOf, altA, evalOp, St.ev, Av.get, St.put, argT, ofV, thenQ, Nat.reduceEqDiff, ↓reduceIte, Bool.and_self, List.map_cons, List.map_nil, List.nil_append, List.append_nil, List.getElem?_cons_zero, List.getElem?_cons_succ, List.getElem?_toArray, Option.map_some, Option.bind_some, decide_true, decide_false, beq_false, beq_true, Bool.not_true, Bool.not_false, Bool.false_eq_true, pickA, cond_true, cond_false, h0, h1, h5, h9, hv8, hln, b_eql, h2]
              refine .cond (t := true) rfl (.region [] (by decide) ?_)
              simp only [EOps, EDf, isRd, gdA, callOf, isPanic, nextOf, altA, evalOp, St.ev, Av.get, St.put, argT, ofV, thenQ, Nat.reduceEqDiff, ↓reduceIte, Bool.and_self, List.map_cons, List.map_nil, List.nil_append, List.append_nil, List.getElem?_cons_zero, List.getElem?_cons_succ, List.getElem?_toArray, Option.map_some, Option.bind_some, decide_true, decide_false, beq_false, beq_true, Bool.not_true, Bool.not_false, Bool.false_eq_true, pickA, cond_true, cond_false, fa68_0, hset]
              refine ⟨by trivial, ?_, by trivial, by trivial⟩
              simp [holdsT, Av.get, h0, h1, h5, h9, hv8]
            | false =>
              simp only [EOps, EDf, isRd, gdA, callOf, isPanic, nextOf, altA, evalOp, St.ev, Av.get, St.put, argT, ofV, thenQ, Nat.reduceEqDiff, ↓reduceIte, Bool.and_self, List.map_cons, List.map_nil, List.nil_append, List.append_nil, List.getElem?_cons_zero, List.getElem?_cons_succ, List.getElem?_toArray, Option.map_some, Option.bind_some, decide_true, decide_false, beq_false, beq_true, Bool.not_true, Bool.not_false, Bool.false_eq_true, pickA, cond_true, cond_false, h0, h1, h5, h9, hv8, hln, b_eql, h2]
              refine .cond (t := false) rfl (.seq (.region [] (by decide) ?_))
              cases b3 with
              | true =>
                subst hkd
                simp only [EOps, EDf, isRd, gdA, callOf, isPanic, nextOf, altA, evalOp, St.ev, Av.get, St.put, argT, ofV, thenQ, Nat.reduceEqDiff, ↓reduceIte, Bool.and_self, List.map_cons, List.map_nil, List.nil_append, List.append_nil, List.getElem?_cons_zero, List.getElem?_cons_succ, List.getElem?_toArray, Option.map_some, Option.bind_some, decide_true, decide_false, beq_false, beq_true, Bool.not_true, Bool.not_false, Bool.false_eq_true, pickA, cond_true, cond_false, h0, h1, h5, h9, hv8, hln, b_eql, h3]
                refine .cond (t := true) rfl (.region [] (by decide) ?_)
                simp only [EOps, EDf, isRd, gdA, callOf, isPanic, nextOf, altA, evalOp, St.ev, Av.get, St.put, argT, ofV, thenQ, Nat.reduceEqDiff, ↓reduceIte, Bool.and_self, List.map_cons, List.map_nil, List.nil_append, List.append_nil, List.getElem?_cons_zero, List.getElem?_cons_succ, List.getElem?_toArray, Option.map_some, Option.bind_some, decide_true, decide_false, beq_false, beq_true, Bool.not_true, Bool.not_false, Bool.false_eq_true, pickA, cond_true, cond_false, fa68_0, hset]
                refine ⟨by trivial, ?_, by trivial, by trivial⟩
                simp [holdsT, Av.get, h0, h1, h5, h9, hv8]
              | false =>
                subst hkd
                simp only [EOps, EDf, isRd, gdA, callOf, isPanic, nextOf, altA, evalOp, St.ev, Av.get, St.put, argT, ofV, thenQ, Nat.reduceEqDiff, ↓reduceIte, Bool.and_self, List.map_cons, List.map_nil, List.nil_append, List.append_nil, List.getElem?_cons_zero, List.getElem?_cons_succ, List.getElem?_toArray, Option.map_some, Option.bind_some, decide_true, decide_false, beq_false, beq_true, Bool.not_true, Bool.not_false, Bool.false_eq_true, pickA, cond_true, cond_false, h0, h1, h5, h9, hv8, hln, b_eql, h3]
                refine .cond (t := false) rfl (.skip ?_)
                refine ⟨by trivial, ?_, by trivial, by trivial⟩
                simp [holdsT, Av.get, h0, h1, h5, h9, hv8]
          · intro _
            have hs' := slIn_keep (M' := M ++ [.cells (kcell (kd, n, false, g')) false]) hs fun d hd _ => List.getElem?_append_left hd
            obtain ⟨M', hap, hl', hnew, hold⟩ := slIn_app (P := Tryz.prog) (sT := 43) (wd := 4) (bytes := 48) Tryz.underlying43 ap68 encK (fun _ => rfl) (fun _ => rfl) (by decide) hs' (kd, n, false, g') true (by omega)
            have hx : evLoad Tryz.prog 68 (.ptr M.length 0) (M ++ [.cells (kcell (kd, n, false, g')) false]) = some (encK (kd, n, false, g')) := ld68k _ _ _ false (by rw [List.getElem?_concat_length])
            refine .region [] (by decide) ?_
            simp only [EOps, EDf, isRd, gdA, callOf, isPanic, nextOf, altA, evalOp, St.ev, Av.get, St.put, argT, ofV, thenQ, Nat.reduceEqDiff, ↓reduceIte, Bool.and_self, List.map_cons, List.map_nil, List.nil_append, List.append_nil, List.getElem?_cons_zero, List.getElem?_cons_succ, List.getElem?_toArray, Option.map_some, Option.bind_some, decide_true, decide_false, beq_false, beq_true, Bool.not_true, Bool.not_false, Bool.false_eq_true, pickA, cond_true, cond_false, hx, bs43k, hap, blockQ]
            refine .region [] (by decide) ?_
            simp only [EOps, EDf, isRd, gdA, callOf, isPanic, nextOf, altA, evalOp, St.ev, Av.get, St.put, argT, ofV, thenQ, Nat.reduceEqDiff, ↓reduceIte, Bool.and_self, List.map_cons, List.map_nil, List.nil_append, List.append_nil, List.getElem?_cons_zero, List.getElem?_cons_succ, List.getElem?_toArray, Option.map_some, Option.bind_some, decide_true, decide_false, beq_false, beq_true, Bool.not_true, Bool.not_false, Bool.false_eq_true, pickA, cond_true, cond_false, hadd]
            refine ⟨i + 1, ⟨trivial, trivial, trivial, rfl, h, ?_, trivial⟩, by omega⟩
            rw [hsucc]
            exact .inr ⟨_, by simp, hnew⟩
      · have hi' : i = ns.length := by omega
        subst hi'
        rw [List.take_length] at hs
        refine .cond (t := false) (by simp [St.ev, Av.get]) (.exit ?_)
        simp only [EOps, EDf, isRd, gdA, callOf, isPanic, nextOf, altA, evalOp, St.ev, Av.get, St.put, argT, ofV, thenQ, Nat.reduceEqDiff, ↓reduceIte, Bool.and_self, List.map_cons, List.map_nil, List.nil_append, List.append_nil, List.getElem?_cons_zero, List.getElem?_cons_succ, List.getElem?_toArray, Option.map_some, Option.bind_some, decide_true, decide_false, beq_false, beq_true, Bool.not_true, Bool.not_false, Bool.false_eq_true, pickA, cond_true, cond_false, blockQ]
        refine .seq (.region [] (by decide) ?_)
        simp only [EOps, EDf, isRd, gdA, callOf, isPanic, nextOf, altA, evalOp, St.ev, Av.get, St.put, argT, ofV, thenQ, Nat.reduceEqDiff, ↓reduceIte, Bool.and_self, List.map_cons, List.map_nil, List.nil_append, List.append_nil, List.getElem?_cons_zero, List.getElem?_cons_succ, List.getElem?_toArray, Option.map_some, Option.bind_some, decide_true, decide_false, beq_false, beq_true, Bool.not_true, Bool.not_false, Bool.false_eq_true, pickA, cond_true, cond_false, hv8]
        obtain ⟨u, hz, hle⟩ := slIn_fz (n := 3) (k := 19) (by decide) encK_agg encK_chf hs
        exact .ret (retF 4 rfl rfl rfl hz hle)
end Go.Proofs.YtmeijkidjifagaaGreat
namespace Go.Proofs.YtmeijkidjifagaaGreat
set_option linter.unusedVariables false
set_option linter.unusedSimpArgs false
open Go Go.Av

/-- The names of what is laid are small. -/
theorem lay_small {e : List Atr} (he : checkE e = true) {c : List Val} {sn : Bool} (hc : checkC c = true) : ∀ a ∈ layN e c sn 8, small a.1 = a.1 := by
  have hall : ∀ i, i ≤ 8 → ∀ a ∈ layN e c sn i, small a.1 = a.1 := by
    intro i
    induction i with
    | zero =>
      intro _ a ha
      unfold layN keepE at ha
      rw [List.take_length] at ha
      exact ((check_good he).each a (List.mem_filter.1 ha).1).1
    | succ i ih =>
      intro hi a ha
      rw [layN] at ha
      split at ha
      · exact ih (by omega) a ha
      · rcases insA_mem ha with rfl | ha
        · exact small_name i (by omega)
        · exact ih (by omega) a ha
  exact hall 8 (Nat.le_refl _)
def intoR (e : List Atr) (c : List Val) : Out :=
  if ((refOf e).2 == 2 || !(mayR c)) = true then .ret (.tup [.vsl 3 false [], .int .i64 2])
  else if ((refOf e).2 != 0) = true then .ret (.tup [.vsl 3 false [], .int .i64 (refOf e).2])
  else if longE (layN e c false 8) = true then .ret (.tup [.vsl 3 false [], .int .i64 3]) else .ret (.tup [.vsl 3 false ((layN e c false 8).map encE), .int .i64 0])

set_option maxRecDepth 100000 in
theorem into17 (x : Bool) (e : List Atr) (c : List Val) (hc : c.length = 8) (he : e.length ≤ 1000) :
    PureFn Tryz.prog 17 [.vsl 3 x (e.map encE), .agg (c.map encV)] (intoR e c) := by
  have p1 := of10 x e
  have hd8 := refOf_len e
  have p2 := may36 c hc
  have p3 := lay37 x e c false hc he
  refine PureFn.of Tryz.func17 rfl (enters_call enters Tryz.func17 rfl) (by simp [Tryz.ntmps17]) ?_
  show W Tryz.prog 31 _ none _ _ _
  refine .seq (.region [] (by decide) ?_)
  simp only [EOps, EDf, isRd, gdA, callOf, isPanic, nextOf, altA, evalOp, St.ev, Av.get, St.put, argT, ofV, thenQ, Nat.reduceEqDiff, ↓reduceIte, Bool.and_self, List.map_cons, List.map_nil, List.nil_append, List.append_nil, List.getElem?_cons_zero, List.getElem?_cons_succ, List.getElem?_toArray, Option.map_some, Option.bind_some, decide_true, decide_false, beq_false, beq_true, Bool.not_true, Bool.not_false, Bool.false_eq_true, pickA, cond_true, cond_false, encV_told, if_true, List.length_nil, cells_agg', and_self]
  have hl1 : ∀ H o, lend H [.vsl 3 x (e.map encE)] o = some [.vsl 3 x (e.map encE)] := by intro H o; simp [lend, AV.hfs, AV.hf, encE_hfs]
  have hl2 : ∀ H o, lend H [.agg (c.map encV)] o = some [.agg (c.map encV)] := by intro H o; simp [lend, AV.hfs, AV.hf, encV_hfs]
  have hl3 : ∀ H o, lend H [.vsl 3 x (e.map encE), .agg (c.map encV), .bool false] o = some [.vsl 3 x (e.map encE), .agg (c.map encV), .bool false] := by intro H o; simp [lend, AV.hfs, AV.hf, encE_hfs, encV_hfs]
  have hst : evStore Tryz.prog 28 (.ptr 1 0) (.agg ((refOf e).1.map encV)) [.cells (c.map encV) false, .cells (zeroC.map encV) false] = some [.cells (c.map encV) false, .cells ((refOf e).1.map encV) false] := st28 _ 1 zeroC _ rfl hd8 rfl
  have h28 : evLoad Tryz.prog 28 (.ptr 0 0) [.cells (c.map encV) false, .cells ((refOf e).1.map encV) false] = some (.agg (c.map encV)) := ld28 _ 0 c false hc rfl
  refine .seq (.region [.pure (.ret (.tup [.agg ((refOf e).1.map encV), .int .i64 (refOf e).2]))] (by decide) ?_)
  simp only [EOps, EDf, isRd, gdA, callOf, isPanic, nextOf, altA, evalOp, St.ev, Av.get, St.put, argT, ofV, thenQ, Nat.reduceEqDiff, ↓reduceIte, Bool.and_self, List.map_cons, List.map_nil, List.nil_append, List.append_nil, List.getElem?_cons_zero, List.getElem?_cons_succ, List.getElem?_toArray, Option.map_some, Option.bind_some, decide_true, decide_false, beq_false, beq_true, Bool.not_true, Bool.not_false, Bool.false_eq_true, pickA, cond_true, cond_false, hl1, za28, cells_agg', List.length_singleton, List.cons_append, hst]
  refine ⟨p1, ?_⟩
  unfold intoR
  cases h2 : ((refOf e).2 == 2) with
  | true =>
    simp only [Bool.true_or, if_true]
    refine .seq (.seq (.region [] (by decide) ?_))
    simp only [EOps, EDf, isRd, gdA, callOf, isPanic, nextOf, altA, evalOp, St.ev, Av.get, St.put, argT, ofV, thenQ, Nat.reduceEqDiff, ↓reduceIte, Bool.and_self, List.map_cons, List.map_nil, List.nil_append, List.append_nil, List.getElem?_cons_zero, List.getElem?_cons_succ, List.getElem?_toArray, Option.map_some, Option.bind_some, decide_true, decide_false, beq_false, beq_true, Bool.not_true, Bool.not_false, Bool.false_eq_true, pickA, cond_true, cond_false, b_eql, h2]
    refine .cond (t := true) rfl (.seq (.region [] (by decide) ?_))
    simp only [EOps, EDf, isRd, gdA, callOf, isPanic, nextOf, altA, evalOp, St.ev, Av.get, St.put, argT, ofV, thenQ, Nat.reduceEqDiff, ↓reduceIte, Bool.and_self, List.map_cons, List.map_nil, List.nil_append, List.append_nil, List.getElem?_cons_zero, List.getElem?_cons_succ, List.getElem?_toArray, Option.map_some, Option.bind_some, decide_true, decide_false, beq_false, beq_true, Bool.not_true, Bool.not_false, Bool.false_eq_true, pickA, cond_true, cond_false, and_self, if_true]
    exact .ret (retF2 4 5 rfl rfl rfl rfl rfl rfl (.nil _ _ _))
  | false =>
    cases hm : mayR c with
    | false =>
      simp only [Bool.not_false, Bool.or_true, if_true]
      rw [hm] at p2
      refine .seq (.seq (.region [.pure (.ret (.bool false))] (by decide) ?_))
      simp only [EOps, EDf, isRd, gdA, callOf, isPanic, nextOf, altA, evalOp, St.ev, Av.get, St.put, argT, ofV, thenQ, Nat.reduceEqDiff, ↓reduceIte, Bool.and_self, List.map_cons, List.map_nil, List.nil_append, List.append_nil, List.getElem?_cons_zero, List.getElem?_cons_succ, List.getElem?_toArray, Option.map_some, Option.bind_some, decide_true, decide_false, beq_false, beq_true, Bool.not_true, Bool.not_false, Bool.false_eq_true, pickA, cond_true, cond_false, b_eql, h2, h28, hl2, u_not]
      refine ⟨p2, .cond (t := true) rfl (.seq (.region [] (by decide) ?_))⟩
      simp only [EOps, EDf, isRd, gdA, callOf, isPanic, nextOf, altA, evalOp, St.ev, Av.get, St.put, argT, ofV, thenQ, Nat.reduceEqDiff, ↓reduceIte, Bool.and_self, List.map_cons, List.map_nil, List.nil_append, List.append_nil, List.getElem?_cons_zero, List.getElem?_cons_succ, List.getElem?_toArray, Option.map_some, Option.bind_some, decide_true, decide_false, beq_false, beq_true, Bool.not_true, Bool.not_false, Bool.false_eq_true, pickA, cond_true, cond_false, and_self, if_true]
      exact .ret (retF2 4 5 rfl rfl rfl rfl rfl rfl (.nil _ _ _))
    | true =>
      simp only [Bool.not_true, Bool.or_false, Bool.false_eq_true, if_false]
      rw [hm] at p2
      refine .seq (.seq (.region [.pure (.ret (.bool true))] (by decide) ?_))
      simp only [EOps, EDf, isRd, gdA, callOf, isPanic, nextOf, altA, evalOp, St.ev, Av.get, St.put, argT, ofV, thenQ, Nat.reduceEqDiff, ↓reduceIte, Bool.and_self, List.map_cons, List.map_nil, List.nil_append, List.append_nil, List.getElem?_cons_zero, List.getElem?_cons_succ, List.getElem?_toArray, Option.map_some, Option.bind_some, decide_true, decide_false, beq_false, beq_true, Bool.not_true, Bool.not_false, Bool.false_eq_true, pickA, cond_true, cond_false, b_eql, h2, h28, hl2, u_not]
      refine ⟨p2, .cond (t := false) rfl (.skip ?_)⟩
      refine .seq (.seq (.region [] (by decide) ?_))
      cases h0 : ((refOf e).2 != 0) with
      | true =>
        simp only [if_true]
        simp only [EOps, EDf, isRd, gdA, callOf, isPanic, nextOf, altA, evalOp, St.ev, Av.get, St.put, argT, ofV, thenQ, Nat.reduceEqDiff, ↓reduceIte, Bool.and_self, List.map_cons, List.map_nil, List.nil_append, List.append_nil, List.getElem?_cons_zero, List.getElem?_cons_succ, List.getElem?_toArray, Option.map_some, Option.bind_some, decide_true, decide_false, beq_false, beq_true, Bool.not_true, Bool.not_false, Bool.false_eq_true, pickA, cond_true, cond_false, b_neq, h0]
        refine .cond (t := true) rfl (.seq (.region [] (by decide) ?_))
        simp only [EOps, EDf, isRd, gdA, callOf, isPanic, nextOf, altA, evalOp, St.ev, Av.get, St.put, argT, ofV, thenQ, Nat.reduceEqDiff, ↓reduceIte, Bool.and_self, List.map_cons, List.map_nil, List.nil_append, List.append_nil, List.getElem?_cons_zero, List.getElem?_cons_succ, List.getElem?_toArray, Option.map_some, Option.bind_some, decide_true, decide_false, beq_false, beq_true, Bool.not_true, Bool.not_false, Bool.false_eq_true, pickA, cond_true, cond_false, and_self, if_true]
        exact .ret (retF2 4 5 rfl rfl rfl rfl rfl rfl (.nil _ _ _))
      | false =>
        simp only [Bool.false_eq_true, if_false]
        simp only [EOps, EDf, isRd, gdA, callOf, isPanic, nextOf, altA, evalOp, St.ev, Av.get, St.put, argT, ofV, thenQ, Nat.reduceEqDiff, ↓reduceIte, Bool.and_self, List.map_cons, List.map_nil, List.nil_append, List.append_nil, List.getElem?_cons_zero, List.getElem?_cons_succ, List.getElem?_toArray, Option.map_some, Option.bind_some, decide_true, decide_false, beq_false, beq_true, Bool.not_true, Bool.not_false, Bool.false_eq_true, pickA, cond_true, cond_false, b_neq, h0]
        refine .cond (t := false) rfl (.skip ?_)
        generalize layN e c false 8 = o at p3 ⊢
        refine .seq (.region [.pure (.ret (.vsl 3 false (o.map encE)))] (by decide) ?_)
        simp only [EOps, EDf, isRd, gdA, callOf, isPanic, nextOf, altA, evalOp, St.ev, Av.get, St.put, argT, ofV, thenQ, Nat.reduceEqDiff, ↓reduceIte, Bool.and_self, List.map_cons, List.map_nil, List.nil_append, List.append_nil, List.getElem?_cons_zero, List.getElem?_cons_succ, List.getElem?_toArray, Option.map_some, Option.bind_some, decide_true, decide_false, beq_false, beq_true, Bool.not_true, Bool.not_false, Bool.false_eq_true, pickA, cond_true, cond_false, h28, hl3]
        refine ⟨p3, ?_⟩
        unfold longE
        generalize h4 : decide ((o.length : Int) > 24) = b4
        refine .seq (.seq (.region [] (by decide) ?_))
        cases b4 with
        | true =>
          simp only [if_true]
          simp only [EOps, EDf, isRd, gdA, callOf, isPanic, nextOf, altA, evalOp, St.ev, Av.get, St.put, argT, ofV, thenQ, Nat.reduceEqDiff, ↓reduceIte, Bool.and_self, List.map_cons, List.map_nil, List.nil_append, List.append_nil, List.getElem?_cons_zero, List.getElem?_cons_succ, List.getElem?_toArray, Option.map_some, Option.bind_some, decide_true, decide_false, beq_false, beq_true, Bool.not_true, Bool.not_false, Bool.false_eq_true, pickA, cond_true, cond_false, ln23, b_gtr, h4]
          refine .cond (t := true) rfl (.seq (.region [] (by decide) ?_))
          simp only [EOps, EDf, isRd, gdA, callOf, isPanic, nextOf, altA, evalOp, St.ev, Av.get, St.put, argT, ofV, thenQ, Nat.reduceEqDiff, ↓reduceIte, Bool.and_self, List.map_cons, List.map_nil, List.nil_append, List.append_nil, List.getElem?_cons_zero, List.getElem?_cons_succ, List.getElem?_toArray, Option.map_some, Option.bind_some, decide_true, decide_false, beq_false, beq_true, Bool.not_true, Bool.not_false, Bool.false_eq_true, pickA, cond_true, cond_false, and_self, if_true]
          exact .ret (retF2 4 5 rfl rfl rfl rfl rfl rfl (.nil _ _ _))
        | false =>
          simp only [Bool.false_eq_true, if_false]
          simp only [EOps, EDf, isRd, gdA, callOf, isPanic, nextOf, altA, evalOp, St.ev, Av.get, St.put, argT, ofV, thenQ, Nat.reduceEqDiff, ↓reduceIte, Bool.and_self, List.map_cons, List.map_nil, List.nil_append, List.append_nil, List.getElem?_cons_zero, List.getElem?_cons_succ, List.getElem?_toArray, Option.map_some, Option.bind_some, decide_true, decide_false, beq_false, beq_true, Bool.not_true, Bool.not_false, Bool.false_eq_true, pickA, cond_true, cond_false, ln23, b_gtr, h4]
          refine .cond (t := false) rfl (.skip ?_)
          refine .seq (.region [] (by decide) ?_)
          simp only [EOps, EDf, isRd, gdA, callOf, isPanic, nextOf, altA, evalOp, St.ev, Av.get, St.put, argT, ofV, thenQ, Nat.reduceEqDiff, ↓reduceIte, Bool.and_self, List.map_cons, List.map_nil, List.nil_append, List.append_nil, List.getElem?_cons_zero, List.getElem?_cons_succ, List.getElem?_toArray, Option.map_some, Option.bind_some, decide_true, decide_false, beq_false, beq_true, Bool.not_true, Bool.not_false, Bool.false_eq_true, pickA, cond_true, cond_false]
          exact .ret (retF2 4 5 rfl rfl rfl rfl (fz_hf (by simp only [AV.hf]; exact encE_hfs _)) rfl (.refl _))

def modsR (e : List Atr) (c : List Val) : Out :=
  if ((refOf e).2 == 2 || !(mayR c)) = true then .ret (.tup [.vsl 4 false [], .int .i64 2])
  else if ((refOf e).2 != 0) = true then .ret (.tup [.vsl 4 false [], .int .i64 (refOf e).2])
  else if longE (layN e c false 8) = true then .ret (.tup [.vsl 4 false [], .int .i64 3])
  else .ret (.tup [.vsl 4 false ((partK (diffL e (layN e c false 8) (namesR e (layN e c false 8)))).map encK), .int .i64 0])
theorem eb4 (a b : Bool) : evBin Tryz.prog .eql 4 (.bool a) (.bool b) = some (.bool (a == b)) := by simp [evBin, Tryz.underlying4]
theorem fa68v (m : Mk) : evFieldAddr Tryz.prog 68 (.vptr (kcell m)) 0 = some (.vptr (kcell m)) := by simp [evFieldAddr, fld68_0]
theorem ld66v (m : Mk) (H : List OB) : evLoad Tryz.prog 66 (.vptr (kcell m)) H = some (.int .i64 m.1) := by simp [evLoad, tz66, tg66, ldA, kcell]
/-- What is gathered in so many turns, and so many of one more. -/
def turnK (l : List Mk) : Nat → Nat → List Mk
  | 0, i => (l.take i).filter fun m => m.1 == 2
  | t + 1, i => l.filter (fun m => m.1 == 2) ++ (l.take i).filter fun m => !(m.1 == 2)
theorem turnK_succ (l : List Mk) (t i : Nat) (m : Mk) (h : l[i]? = some m) (ht : t < 2) : turnK l t (i + 1) = if ((m.1 == 2) == ((t : Int) == 0)) = true then turnK l t i ++ [m] else turnK l t i := by
  have htk : l.take (i + 1) = l.take i ++ [m] := by rw [List.take_add_one, h]; rfl
  have : t = 0 ∨ t = 1 := by omega
  rcases this with rfl | rfl
  · simp only [turnK, htk, List.filter_append]
    cases hb : (m.1 == 2) <;> simp [hb]
  · simp only [turnK, htk, List.filter_append]
    cases hb : (m.1 == 2) <;> simp [hb]
theorem turnK_len (l : List Mk) (t i : Nat) : (turnK l t i).length ≤ 2 * l.length := by
  cases t with
  | zero =>
    have h1 := List.length_filter_le (fun m : Mk => m.1 == 2) (l.take i)
    have h2 : (l.take i).length ≤ l.length := by simp; omega
    simp only [turnK]; omega
  | succ t =>
    have h1 := List.length_filter_le (fun m : Mk => !(m.1 == 2)) (l.take i)
    have h2 : (l.take i).length ≤ l.length := by simp; omega
    have h3 := List.length_filter_le (fun m : Mk => m.1 == 2) l
    simp only [turnK, List.length_append]; omega
theorem turnK_next (l : List Mk) (t : Nat) (ht : t < 1) : turnK l (t + 1) 0 = turnK l t l.length := by
  have : t = 0 := by omega
  subst this
  simp [turnK]

set_option maxRecDepth 100000 in
theorem mods19 (x : Bool) (e : List Atr) (c : List Val) (hc : c.length = 8) (he : e.length ≤ 40) :
    PureFn Tryz.prog 19 [.vsl 3 x (e.map encE), .agg (c.map encV)] (modsR e c) := by
  have p1 := into17 x e c hc (by omega)
  have hl3 : ∀ H o, lend H [.vsl 3 x (e.map encE), .agg (c.map encV)] o = some [.vsl 3 x (e.map encE), .agg (c.map encV)] := by intro H o; simp [lend, AV.hfs, AV.hf, encE_hfs, encV_hfs]
  refine PureFn.of Tryz.func19 rfl (enters_call enters Tryz.func19 rfl) (by simp [Tryz.ntmps19]) ?_
  show W Tryz.prog 51 _ none _ _ _
  refine .seq (.region [] (by decide) ?_)
  simp only [EOps, EDf, isRd, gdA, callOf, isPanic, nextOf, altA, evalOp, St.ev, Av.get, St.put, argT, ofV, thenQ, Nat.reduceEqDiff, ↓reduceIte, Bool.and_self, List.map_cons, List.map_nil, List.nil_append, List.append_nil, List.getElem?_cons_zero, List.getElem?_cons_succ, List.getElem?_toArray, Option.map_some, Option.bind_some, decide_true, decide_false, beq_false, beq_true, Bool.not_true, Bool.not_false, Bool.false_eq_true, pickA, cond_true, cond_false, encV_told, if_true, List.length_nil, cells_agg', and_self]
  have h28 : evLoad Tryz.prog 28 (.ptr 0 0) [.cells (c.map encV) false] = some (.agg (c.map encV)) := ld28 _ 0 c false hc rfl
  have bad : ∀ k : Int, (k != 0) = true → intoR e c = .ret (.tup [.vsl 3 false [], .int .i64 k]) → modsR e c = .ret (.tup [.vsl 4 false [], .int .i64 k]) →
      W Tryz.prog 51 0 none (match Tryz.f19.body with | some (.seq _ r) => r | _ => .skip) (retQ Tryz.prog Tryz.f19.results.toList (modsR e c)) ⟨[(5, .int .i64 0), (4, .vsl 0 true []), (3, .ptr 0 0), (0, .vsl 3 x (e.map encE)), (0 + 1, .agg (c.map encV))], [.cells (c.map encV) false], []⟩ := by
    intro k hk hi hmo
    rw [hi] at p1
    rw [hmo]
    show W Tryz.prog 51 0 none (.seq (.region 1 _ _) _) _ _
    refine .seq (.region [.pure (.ret (.tup [.vsl 3 false [], .int .i64 k]))] (by decide) ?_)
    simp only [EOps, EDf, isRd, gdA, callOf, isPanic, nextOf, altA, evalOp, St.ev, Av.get, St.put, argT, ofV, thenQ, Nat.reduceEqDiff, ↓reduceIte, Bool.and_self, List.map_cons, List.map_nil, List.nil_append, List.append_nil, List.getElem?_cons_zero, List.getElem?_cons_succ, List.getElem?_toArray, Option.map_some, Option.bind_some, decide_true, decide_false, beq_false, beq_true, Bool.not_true, Bool.not_false, Bool.false_eq_true, pickA, cond_true, cond_false, h28, hl3]
    refine ⟨p1, ?_⟩
    refine .seq (.seq (.region [] (by decide) ?_))
    simp only [EOps, EDf, isRd, gdA, callOf, isPanic, nextOf, altA, evalOp, St.ev, Av.get, St.put, argT, ofV, thenQ, Nat.reduceEqDiff, ↓reduceIte, Bool.and_self, List.map_cons, List.map_nil, List.nil_append, List.append_nil, List.getElem?_cons_zero, List.getElem?_cons_succ, List.getElem?_toArray, Option.map_some, Option.bind_some, decide_true, decide_false, beq_false, beq_true, Bool.not_true, Bool.not_false, Bool.false_eq_true, pickA, cond_true, cond_false, b_neq, hk]
    refine .cond (t := true) rfl (.seq (.region [] (by decide) ?_))
    simp only [EOps, EDf, isRd, gdA, callOf, isPanic, nextOf, altA, evalOp, St.ev, Av.get, St.put, argT, ofV, thenQ, Nat.reduceEqDiff, ↓reduceIte, Bool.and_self, List.map_cons, List.map_nil, List.nil_append, List.append_nil, List.getElem?_cons_zero, List.getElem?_cons_succ, List.getElem?_toArray, Option.map_some, Option.bind_some, decide_true, decide_false, beq_false, beq_true, Bool.not_true, Bool.not_false, Bool.false_eq_true, pickA, cond_true, cond_false, and_self, if_true]
    exact .ret (retF2 4 5 rfl rfl rfl rfl rfl rfl (.nil _ _ _))
  cases h : ((refOf e).2 == 2 || !(mayR c)) with
  | true => exact bad 2 rfl (by unfold intoR; rw [h]; rfl) (by unfold modsR; rw [h]; rfl)
  | false =>
    cases h0 : ((refOf e).2 != 0) with
    | true => exact bad _ h0 (by unfold intoR; rw [h, h0]; rfl) (by unfold modsR; rw [h, h0]; rfl)
    | false =>
      cases hs : longE (layN e c false 8) with
      | true => exact bad 3 rfl (by unfold intoR; rw [h, h0, hs]; rfl) (by unfold modsR; rw [h, h0, hs]; rfl)
      | false =>
        have hio : intoR e c = .ret (.tup [.vsl 3 false ((layN e c false 8).map encE), .int .i64 0]) := by unfold intoR; rw [h, h0, hs]; rfl
        have hmo : modsR e c = .ret (.tup [.vsl 4 false ((partK (diffL e (layN e c false 8) (namesR e (layN e c false 8)))).map encK), .int .i64 0]) := by unfold modsR; rw [h, h0, hs]; rfl
        rw [hmo]
        rw [hio] at p1
        have hce : checkE e = true := (ofC_zero (by rw [of_ref]; exact h0)).1
        have hcm : mayC c = true := by rw [may_same c hc]; simp only [Bool.or_eq_false_iff, Bool.not_eq_false'] at h; exact h.2
        have hcc : checkC c = true := by unfold mayC at hcm; simp only [Bool.and_eq_true] at hcm; exact hcm.1
        have hsmall := lay_small (sn := false) hce hcc
        have hll : (layN e c false 8).length ≤ 24 := by have := of_decide_eq_false hs; omega
        have p2 := diff41 x false e (layN e c false 8) (by omega) (by omega) (fun a ha => ((check_good hce).each a ha).1) hsmall
        have hdl : (diffL e (layN e c false 8) (namesR e (layN e c false 8))).length ≤ 1000 := by
          have h1 := diffL_len e (layN e c false 8) (namesR e (layN e c false 8)) (namesR e (layN e c false 8)).length
          rw [List.take_length] at h1
          have h2 := namesR_len e (layN e c false 8)
          omega
        have hpk : partK (diffL e (layN e c false 8) (namesR e (layN e c false 8))) = turnK (diffL e (layN e c false 8) (namesR e (layN e c false 8))) 1 (diffL e (layN e c false 8) (namesR e (layN e c false 8))).length := by
          simp only [turnK, List.take_length]; rfl
        rw [hpk]
        generalize diffL e (layN e c false 8) (namesR e (layN e c false 8)) = l at *
        clear hpk hmo hio hsmall hll
        generalize layN e c false 8 = o at *
        have hl4 : ∀ H u, lend H [.vsl 3 x (e.map encE), .vsl 3 false (o.map encE)] u = some [.vsl 3 x (e.map encE), .vsl 3 false (o.map encE)] := by intro H u; simp [lend, AV.hfs, AV.hf, encE_hfs]
        have e00 : ((0 : Int) != 0) = false := rfl
        refine .seq (.region [.pure (.ret (.tup [.vsl 3 false (o.map encE), .int .i64 0]))] (by decide) ?_)
        simp only [EOps, EDf, isRd, gdA, callOf, isPanic, nextOf, altA, evalOp, St.ev, Av.get, St.put, argT, ofV, thenQ, Nat.reduceEqDiff, ↓reduceIte, Bool.and_self, List.map_cons, List.map_nil, List.nil_append, List.append_nil, List.getElem?_cons_zero, List.getElem?_cons_succ, List.getElem?_toArray, Option.map_some, Option.bind_some, decide_true, decide_false, beq_false, beq_true, Bool.not_true, Bool.not_false, Bool.false_eq_true, pickA, cond_true, cond_false, h28, hl3]
        refine ⟨p1, ?_⟩
        refine .seq (.seq (.region [] (by decide) ?_))
        simp only [EOps, EDf, isRd, gdA, callOf, isPanic, nextOf, altA, evalOp, St.ev, Av.get, St.put, argT, ofV, thenQ, Nat.reduceEqDiff, ↓reduceIte, Bool.and_self, List.map_cons, List.map_nil, List.nil_append, List.append_nil, List.getElem?_cons_zero, List.getElem?_cons_succ, List.getElem?_toArray, Option.map_some, Option.bind_some, decide_true, decide_false, beq_false, beq_true, Bool.not_true, Bool.not_false, Bool.false_eq_true, pickA, cond_true, cond_false, b_neq, e00]
        refine .cond (t := false) rfl (.skip ?_)
        refine .seq (.region [.pure (.ret (.vsl 4 false (l.map encK)))] (by decide) ?_)
        simp only [EOps, EDf, isRd, gdA, callOf, isPanic, nextOf, altA, evalOp, St.ev, Av.get, St.put, argT, ofV, thenQ, Nat.reduceEqDiff, ↓reduceIte, Bool.and_self, List.map_cons, List.map_nil, List.nil_append, List.append_nil, List.getElem?_cons_zero, List.getElem?_cons_succ, List.getElem?_toArray, Option.map_some, Option.bind_some, decide_true, decide_false, beq_false, beq_true, Bool.not_true, Bool.not_false, Bool.false_eq_true, pickA, cond_true, cond_false, hl4]
        refine ⟨p2, ?_⟩
        refine .seq (.region [] (by decide) ?_)
        simp only [EOps, EDf, isRd, gdA, callOf, isPanic, nextOf, altA, evalOp, St.ev, Av.get, St.put, argT, ofV, thenQ, Nat.reduceEqDiff, ↓reduceIte, Bool.and_self, List.map_cons, List.map_nil, List.nil_append, List.append_nil, List.getElem?_cons_zero, List.getElem?_cons_succ, List.getElem?_toArray, Option.map_some, Option.bind_some, decide_true, decide_false, beq_false, beq_true, Bool.not_true, Bool.not_false, Bool.false_eq_true, pickA, cond_true, cond_false, and_self, if_true]
        refine .seq (.seq (.region [] (by decide) ?_))
        simp only [EOps, EDf, isRd, gdA, callOf, isPanic, nextOf, altA, evalOp, St.ev, Av.get, St.put, argT, ofV, thenQ, Nat.reduceEqDiff, ↓reduceIte, Bool.and_self, List.map_cons, List.map_nil, List.nil_append, List.append_nil, List.getElem?_cons_zero, List.getElem?_cons_succ, List.getElem?_toArray, Option.map_some, Option.bind_some, decide_true, decide_false, beq_false, beq_true, Bool.not_true, Bool.not_false, Bool.false_eq_true, pickA, cond_true, cond_false]
        refine .block ?_
        have hBh : ∀ m, [OB.cells (c.map encV) false].all (OB.hlt m) = true := by intro m; simp [OB.hlt, encV_hlts]
        generalize hB : [OB.cells (c.map encV) false] = B at hBh ⊢
        have hBl : B.length = 1 := by rw [← hB]; rfl
        have hH : ∀ m L, (grow B encK L).all (OB.hlt m) = true := fun m L => grow_hlt (hBh m) (fun a => by simp only [encK, AV.cells, AV.hlts, AV.hlt, strs_hlts, Bool.and_self]) L
        have hgV : ∀ m L, B.length + L.length ≤ m → (growW 1 0 4 L : AV).hlt m = true := fun m (L : List Mk) hm => growW_hlt _ (by rw [hBl] at hm; exact hm)
        obtain ⟨q, q0, qt, qn⟩ : ∃ q : Nat → List Mk, q 0 = [] ∧ (∀ t, t < 2 → q t = turnK l t 0) ∧ (∀ t, t < 2 → q (t + 1) = turnK l t l.length) := by
          refine ⟨fun t => if t = 2 then turnK l 1 l.length else turnK l t 0, rfl, fun t ht => if_neg (by omega), fun t ht => ?_⟩
          have : t = 0 ∨ t = 1 := by omega
          rcases this with rfl | rfl
          · show (if 0 + 1 = 2 then _ else _) = _
            rw [if_neg (by decide)]; exact turnK_next l 0 (by decide)
          · exact if_pos rfl
        refine .forR 10 25 26 27 0 2 (by decide) (Nat.zero_le _) rfl rfl rfl rfl rfl rfl rfl rfl rfl (by decide)
          (fun t => [(9, growW 1 0 4 (q t)), (8, .vsl 4 false (l.map encK))]) (fun _ => rfl) (fun t => grow B encK (q t)) (fun _ => Nat.zero_le _) (fun _ => True) rfl trivial ?_ ?_ ?_ ?_ ?_ ?_
        · simp only [subT, Av.get, Nat.reduceEqDiff, ↓reduceIte, Le_rfl, nat0, nat1, and_self, q0, growW]
        · intro t _
          have h1 := hgV (grow B encK (q t)).length (q t) (by rw [grow_len]; exact Nat.le_refl _)
          simp only [hltT, h1, AV.hlt, encK_hlts, Bool.true_and, Bool.and_true]
        · rw [q0]; exact subH_self (hH _ [])
        · intro t ht _
          refine .region [] (by decide) ?_
          have : decide ((t : Int) < 2) = decide (t < 2) := dlt t 2
          simp only [EOps, EDf, isRd, gdA, callOf, isPanic, nextOf, altA, evalOp, St.ev, Av.get, St.put, argT, ofV, thenQ, Nat.reduceEqDiff, ↓reduceIte, Bool.and_self, List.map_cons, List.map_nil, List.nil_append, List.append_nil, List.getElem?_cons_zero, List.getElem?_cons_succ, List.getElem?_toArray, Option.map_some, Option.bind_some, decide_true, decide_false, beq_false, beq_true, Bool.not_true, Bool.not_false, Bool.false_eq_true, pickA, cond_true, cond_false, b_lss, this]
          refine ⟨trivial, ?_, subH_self (hH _ _), trivial⟩
          simp only [subT, Av.get, Nat.reduceEqDiff, ↓reduceIte, Le_rfl, nat0, nat1, and_self]
        · intro t ht _
          have hqt := qt t ht
          have hqn := qn t ht
          rw [hqt]
          refine .block (.seq (.region [] (by decide) ?_))
          simp only [EOps, EDf, isRd, gdA, callOf, isPanic, nextOf, altA, evalOp, St.ev, Av.get, St.put, argT, ofV, thenQ, Nat.reduceEqDiff, ↓reduceIte, Bool.and_self, List.map_cons, List.map_nil, List.nil_append, List.append_nil, List.getElem?_cons_zero, List.getElem?_cons_succ, List.getElem?_toArray, Option.map_some, Option.bind_some, decide_true, decide_false, beq_false, beq_true, Bool.not_true, Bool.not_false, Bool.false_eq_true, pickA, cond_true, cond_false]
          refine .block ?_
          refine .forR 11 31 32 33 0 l.length (by simp only [maxLen']; omega) (Nat.zero_le _) rfl rfl rfl rfl rfl rfl rfl rfl rfl (by decide)
            (fun i => [(9, growW 1 0 4 (turnK l t i)), (8, .vsl 4 false (l.map encK)), (10, .int .i64 (t : Int))]) (fun _ => rfl) (fun i => grow B encK (turnK l t i)) (fun _ => Nat.zero_le _) (fun _ => True) rfl trivial ?_ ?_ (subH_self (hH _ _)) ?_ ?_ ?_
          · simp only [subT, Av.get, Nat.reduceEqDiff, ↓reduceIte, Le_rfl, nat0, nat1, and_self]
          · intro i _
            have h1 := hgV (grow B encK (turnK l t i)).length (turnK l t i) (by rw [grow_len]; exact Nat.le_refl _)
            simp only [hltT, h1, AV.hlt, encK_hlts, Bool.true_and, Bool.and_true]
          · intro i hi _
            refine .region [] (by decide) ?_
            simp only [EOps, EDf, isRd, gdA, callOf, isPanic, nextOf, altA, evalOp, St.ev, Av.get, St.put, argT, ofV, thenQ, Nat.reduceEqDiff, ↓reduceIte, Bool.and_self, List.map_cons, List.map_nil, List.nil_append, List.append_nil, List.getElem?_cons_zero, List.getElem?_cons_succ, List.getElem?_toArray, Option.map_some, Option.bind_some, decide_true, decide_false, beq_false, beq_true, Bool.not_true, Bool.not_false, Bool.false_eq_true, pickA, cond_true, cond_false, ln43k, b_lss, dlt]
            refine ⟨trivial, ?_, subH_self (hH _ _), trivial⟩
            simp only [subT, Av.get, Nat.reduceEqDiff, ↓reduceIte, Le_rfl, nat0, nat1, and_self]
          · intro i hi _
            obtain ⟨m, hm, hdm⟩ := drop_at hi
            have hts := turnK_succ l t i m hm ht
            have htl := turnK_len l t i
            generalize turnK l t i = L at hts htl ⊢
            generalize turnK l t (i + 1) = L' at hts ⊢
            refine .block (.seq (.region [] (by decide) ?_))
            generalize hb : ((m.1 == 2) == ((t : Int) == 0)) = b at hts
            cases b with
            | false =>
              simp only [EOps, EDf, isRd, gdA, callOf, isPanic, nextOf, altA, evalOp, St.ev, Av.get, St.put, argT, ofV, thenQ, Nat.reduceEqDiff, ↓reduceIte, Bool.and_self, List.map_cons, List.map_nil, List.nil_append, List.append_nil, List.getElem?_cons_zero, List.getElem?_cons_succ, List.getElem?_toArray, Option.map_some, Option.bind_some, decide_true, decide_false, beq_false, beq_true, Bool.not_true, Bool.not_false, Bool.false_eq_true, pickA, cond_true, cond_false, ia43k _ _ _ _ hm, fa68v, ld66v, b_eql, eb4, hb]
              simp only [Bool.false_eq_true, if_false] at hts
              subst hts
              refine .cond (t := false) rfl (.skip ?_)
              refine ⟨trivial, ?_, subH_self (hH _ _), rfl⟩
              simp only [subT, Av.get, Nat.reduceEqDiff, ↓reduceIte, Le_rfl, nat0, nat1, and_self]
            | true =>
              simp only [EOps, EDf, isRd, gdA, callOf, isPanic, nextOf, altA, evalOp, St.ev, Av.get, St.put, argT, ofV, thenQ, Nat.reduceEqDiff, ↓reduceIte, Bool.and_self, List.map_cons, List.map_nil, List.nil_append, List.append_nil, List.getElem?_cons_zero, List.getElem?_cons_succ, List.getElem?_toArray, Option.map_some, Option.bind_some, decide_true, decide_false, beq_false, beq_true, Bool.not_true, Bool.not_false, Bool.false_eq_true, pickA, cond_true, cond_false, ia43k _ _ _ _ hm, fa68v, ld66v, b_eql, eb4, hb]
              simp only [if_true] at hts
              subst hts
              have hap : evAppend Tryz.prog 43 43 (growW 1 0 4 L) (.vsl 4 true [encK m]) (grow B encK L) = some (growW 1 0 4 (L ++ [m]), grow B encK (L ++ [m])) := by
                have := growW_app (wd := 4) (bytes := 48) Tryz.underlying43 ap68 B encK (fun _ => rfl) (fun _ => rfl) (by decide) 0 L m true (by omega)
                rw [hBl] at this; exact this
              refine .cond (t := true) rfl (.region [] (by decide) ?_)
              simp only [EOps, EDf, isRd, gdA, callOf, isPanic, nextOf, altA, evalOp, St.ev, Av.get, St.put, argT, ofV, thenQ, Nat.reduceEqDiff, ↓reduceIte, Bool.and_self, List.map_cons, List.map_nil, List.nil_append, List.append_nil, List.getElem?_cons_zero, List.getElem?_cons_succ, List.getElem?_toArray, Option.map_some, Option.bind_some, decide_true, decide_false, beq_false, beq_true, Bool.not_true, Bool.not_false, Bool.false_eq_true, pickA, cond_true, cond_false, ia43k _ _ _ _ hm, ld68vk, bs43k, hap]
              refine ⟨trivial, ?_, subH_self (hH _ _), rfl⟩
              simp only [subT, Av.get, Nat.reduceEqDiff, ↓reduceIte, Le_rfl, nat0, nat1, and_self]
          · intro _
            simp only [blockQ, if_true, thenQ]
            refine ⟨trivial, ?_, ?_, by trivial⟩
            · simp only [subT, Av.get, Nat.reduceEqDiff, ↓reduceIte, Le_rfl, nat0, nat1, and_self, hqn]
            · rw [hqn]; exact subH_self (hH _ _)
        · intro _
          simp only [EOps, EDf, isRd, gdA, callOf, isPanic, nextOf, altA, evalOp, St.ev, Av.get, St.put, argT, ofV, thenQ, Nat.reduceEqDiff, ↓reduceIte, Bool.and_self, List.map_cons, List.map_nil, List.nil_append, List.append_nil, List.getElem?_cons_zero, List.getElem?_cons_succ, List.getElem?_toArray, Option.map_some, Option.bind_some, decide_true, decide_false, beq_false, beq_true, Bool.not_true, Bool.not_false, Bool.false_eq_true, pickA, cond_true, cond_false, blockQ]
          have hq2 := qn 1 (by decide)
          have hq2' : q 2 = turnK l 1 l.length := hq2
          rw [hq2']
          have hsl : slIn 4 encK (grow B encK (turnK l 1 l.length)) (growW 1 0 4 (turnK l 1 l.length)) (turnK l 1 l.length) := by
            have := growW_slIn B encK 0 4 (turnK l 1 l.length)
            rw [hBl] at this; exact this
          obtain ⟨u, hz, hle⟩ := slIn_fz (n := 3) (k := 18) (by decide) encK_agg encK_chf hsl
          refine .seq (.region [] (by decide) ?_)
          simp only [EOps, EDf, isRd, gdA, callOf, isPanic, nextOf, altA, evalOp, St.ev, Av.get, St.put, argT, ofV, thenQ, Nat.reduceEqDiff, ↓reduceIte, Bool.and_self, List.map_cons, List.map_nil, List.nil_append, List.append_nil, List.getElem?_cons_zero, List.getElem?_cons_succ, List.getElem?_toArray, Option.map_some, Option.bind_some, decide_true, decide_false, beq_false, beq_true, Bool.not_true, Bool.not_false, Bool.false_eq_true, pickA, cond_true, cond_false]
          exact .ret (retF2 4 5 rfl rfl rfl rfl hz rfl hle)
end Go.Proofs.YtmeijkidjifagaaGreat
namespace Go.Proofs.YtmeijkidjifagaaGreat
set_option linter.unusedVariables false
set_option linter.unusedSimpArgs false
open Go Go.Av

theorem fa68v1 (m : Mk) : evFieldAddr Tryz.prog 68 (.vptr (kcell m)) 1 = some (.vptr ((kcell m).drop 1)) := by
  have h : fldA Tryz.prog 68 1 = some (1, 1, 9) := by kernel_rfl
  simp [evFieldAddr, h]
theorem fa68v2 (m : Mk) : evFieldAddr Tryz.prog 68 (.vptr (kcell m)) 2 = some (.vptr ((kcell m).drop 2)) := by simp [evFieldAddr, fld68_2]
theorem ld9k (m : Mk) (H : List OB) : evLoad Tryz.prog 9 (.vptr ((kcell m).drop 1)) H = some (.str m.2.1) := by simp [evLoad, tz9, tg9, ldA, kcell]
theorem ld26k (m : Mk) (H : List OB) : evLoad Tryz.prog 26 (.vptr ((kcell m).drop 2)) H = some (.vsl 0 m.2.2.1 (m.2.2.2.map .str)) := by simp [evLoad, tz26, tg26, ldA, kcell]

set_option maxRecDepth 100000 in
theorem sameMods20 (x y : Bool) (l : List Mk) (hl : l.length ≤ 1000) : PureFn Tryz.prog 20 [.vsl 4 x (l.map encK), .vsl 4 y (l.map encK)] (.ret (.bool true)) := by
  refine PureFn.of Tryz.func20 rfl (enters_call enters Tryz.func20 rfl) (by simp [Tryz.ntmps20]) ?_
  show W Tryz.prog 55 _ none _ _ _
  refine .seq (.region [] (by decide) ?_)
  simp only [EOps, EDf, isRd, gdA, callOf, isPanic, nextOf, altA, evalOp, St.ev, Av.get, St.put, argT, ofV, thenQ, Nat.reduceEqDiff, ↓reduceIte, Bool.and_self, List.map_cons, List.map_nil, List.nil_append, List.append_nil, List.getElem?_cons_zero, List.getElem?_cons_succ, List.getElem?_toArray, Option.map_some, Option.bind_some, decide_true, decide_false, beq_false, beq_true, Bool.not_true, Bool.not_false, Bool.false_eq_true, pickA, cond_true, cond_false]
  refine .seq (.seq (.region [] (by decide) ?_))
  have h1 : (((l.length : Int)) != (l.length : Int)) = false := by simp
  simp only [EOps, EDf, isRd, gdA, callOf, isPanic, nextOf, altA, evalOp, St.ev, Av.get, St.put, argT, ofV, thenQ, Nat.reduceEqDiff, ↓reduceIte, Bool.and_self, List.map_cons, List.map_nil, List.nil_append, List.append_nil, List.getElem?_cons_zero, List.getElem?_cons_succ, List.getElem?_toArray, Option.map_some, Option.bind_some, decide_true, decide_false, beq_false, beq_true, Bool.not_true, Bool.not_false, Bool.false_eq_true, pickA, cond_true, cond_false, ln43k, b_neq, h1]
  refine .cond (t := false) rfl (.skip ?_)
  refine .seq (.seq (.region [] (by decide) ?_))
  simp only [EOps, EDf, isRd, gdA, callOf, isPanic, nextOf, altA, evalOp, St.ev, Av.get, St.put, argT, ofV, thenQ, Nat.reduceEqDiff, ↓reduceIte, Bool.and_self, List.map_cons, List.map_nil, List.nil_append, List.append_nil, List.getElem?_cons_zero, List.getElem?_cons_succ, List.getElem?_toArray, Option.map_some, Option.bind_some, decide_true, decide_false, beq_false, beq_true, Bool.not_true, Bool.not_false, Bool.false_eq_true, pickA, cond_true, cond_false]
  refine .block ?_
  refine .forR 5 14 15 16 0 l.length (by simp only [maxLen']; omega) (Nat.zero_le _) rfl rfl rfl rfl rfl rfl rfl rfl rfl (by decide)
    (fun i => [(0, .vsl 4 x (l.map encK)), (1, .vsl 4 y (l.map encK))]) (fun _ => rfl) (fun _ => []) (fun _ => Nat.zero_le _) (fun i => True) rfl trivial ?_ ?_ (subH_nil _ _) ?_ ?_ ?_
  · simp only [subT, Av.get, Nat.reduceEqDiff, ↓reduceIte, Le_rfl, nat0, nat1, and_self]
  · intro i _
    simp only [hltT, AV.hlt, encK_hlts, Bool.true_and, Bool.and_true]
  · intro i hi _
    refine .region [] (by decide) ?_
    simp only [EOps, EDf, isRd, gdA, callOf, isPanic, nextOf, altA, evalOp, St.ev, Av.get, St.put, argT, ofV, thenQ, Nat.reduceEqDiff, ↓reduceIte, Bool.and_self, List.map_cons, List.map_nil, List.nil_append, List.append_nil, List.getElem?_cons_zero, List.getElem?_cons_succ, List.getElem?_toArray, Option.map_some, Option.bind_some, decide_true, decide_false, beq_false, beq_true, Bool.not_true, Bool.not_false, Bool.false_eq_true, pickA, cond_true, cond_false, ln43k, b_lss, dlt]
    refine ⟨trivial, ?_, subH_nil _ _, trivial⟩
    simp only [subT, Av.get, Nat.reduceEqDiff, ↓reduceIte, Le_rfl, nat0, nat1, and_self]
  · intro i hi _
    obtain ⟨m, hm, hdm⟩ := drop_at hi
    have p1 := texts23 m.2.2.1 m.2.2.1 m.2.2.2 m.2.2.2
    have ht : decide (m.2.2.2 = m.2.2.2) = true := decide_eq_true rfl
    rw [ht] at p1
    have hl1 : ∀ H o, lend H [.vsl 0 m.2.2.1 (m.2.2.2.map .str), .vsl 0 m.2.2.1 (m.2.2.2.map .str)] o = some [.vsl 0 m.2.2.1 (m.2.2.2.map .str), .vsl 0 m.2.2.1 (m.2.2.2.map .str)] := by intro H o; simp [lend, AV.hfs, AV.hf, strs_hfs]
    have h2 : (m.1 != m.1) = false := by simp
    have h3 : (m.2.1 == m.2.1) = true := by simp
    refine .block (.seq (.drawf [.pure (.ret (.bool true))] mixed (by kernel_rfl) (by kernel_rfl) (by kernel_rfl) ?_))
    simp only [EOps, EDf, isRd, gdA, callOf, isPanic, nextOf, altA, evalOp, St.ev, Av.get, St.put, argT, ofV, thenQ, Nat.reduceEqDiff, ↓reduceIte, Bool.and_self, List.map_cons, List.map_nil, List.nil_append, List.append_nil, List.getElem?_cons_zero, List.getElem?_cons_succ, List.getElem?_toArray, Option.map_some, Option.bind_some, decide_true, decide_false, beq_false, beq_true, Bool.not_true, Bool.not_false, Bool.false_eq_true, pickA, cond_true, cond_false, ia43k _ _ _ _ hm, fa68v, fa68v1, fa68v2, ld66v, ld9k, ld26k, b_neq, h2, s_neq, h3, hl1, u_not]
    refine ⟨p1, .cond (t := false) rfl (.skip ?_)⟩
    refine ⟨trivial, ?_, subH_nil _ _, rfl⟩
    simp only [subT, Av.get, Nat.reduceEqDiff, ↓reduceIte, Le_rfl, nat0, nat1, and_self]
  · intro _
    simp only [EOps, EDf, isRd, gdA, callOf, isPanic, nextOf, altA, evalOp, St.ev, Av.get, St.put, argT, ofV, thenQ, Nat.reduceEqDiff, ↓reduceIte, Bool.and_self, List.map_cons, List.map_nil, List.nil_append, List.append_nil, List.getElem?_cons_zero, List.getElem?_cons_succ, List.getElem?_toArray, Option.map_some, Option.bind_some, decide_true, decide_false, beq_false, beq_true, Bool.not_true, Bool.not_false, Bool.false_eq_true, pickA, cond_true, cond_false, blockQ]
    refine .seq (.region [] (by decide) ?_)
    simp only [EOps, EDf, isRd, gdA, callOf, isPanic, nextOf, altA, evalOp, St.ev, Av.get, St.put, argT, ofV, thenQ, Nat.reduceEqDiff, ↓reduceIte, Bool.and_self, List.map_cons, List.map_nil, List.nil_append, List.append_nil, List.getElem?_cons_zero, List.getElem?_cons_succ, List.getElem?_toArray, Option.map_some, Option.bind_some, decide_true, decide_false, beq_false, beq_true, Bool.not_true, Bool.not_false, Bool.false_eq_true, pickA, cond_true, cond_false]
    exact .ret ⟨_, rfl, _, rfl, .refl _⟩

/-! What both say is the same. -/
theorem getE_nv : ∀ {e f : List Atr}, e.map nv = f.map nv → ∀ n, getE e n = getE f n
  | [], [], _, _ => rfl
  | [], b :: f, h, _ => by simp at h
  | a :: e, [], h, _ => by simp at h
  | a :: e, b :: f, h, n => by
    rw [List.map_cons, List.map_cons, List.cons.injEq] at h
    obtain ⟨h1, h2⟩ := h
    simp only [nv, Prod.mk.injEq] at h1
    rw [getE_cons, getE_cons, h1.1, h1.2, getE_nv h2 n]
theorem names_nv {e f : List Atr} (h : e.map nv = f.map nv) : e.map (·.1) = f.map (·.1) := by
  have : ∀ e : List Atr, e.map (·.1) = (e.map nv).map (·.1) := fun e => by rw [List.map_map]; rfl
  rw [this e, this f, h]
theorem up_ext {l m : List Bytes} (hl : Up l) (hm : Up m) (h : ∀ n, n ∈ l ↔ n ∈ m) : l = m :=
  sorted_eq ((List.perm_ext_iff_of_nodup (up_nodup hl) (up_nodup hm)).2 h) (hl.imp b_le_of) (hm.imp b_le_of)
theorem want_lay (e : List Atr) (c : List Val) : ∀ i, i < 8 → (wantC e c i).2 = (layV e c false i).2 := by
  intro i hi
  unfold wantC layV
  have hcd : (c.getD i (true, [])).2 = fld c i := rfl
  by_cases h2 : i = 2
  · subst h2
    have hsm : small (nameAt 2) = [115, 110] := by kernel_rfl
    rw [hsm]
    cases h : (((fld c 2).length : Int) == 0) <;> cases h3 : decide (((getE e [115, 110]).length : Int) > 0) <;> simp [hcd]
    all_goals first | rfl | exact hcd.symm
  · have h3 : ((i : Int) == 2) = false := by simp; omega
    rw [h3]
    simp only [Bool.false_and, Bool.false_eq_true, if_false]
    exact hcd.symm
theorem fin_lay {e : List Atr} (he : checkE e = true) {c : List Val} (hc : checkC c = true) : (finE e c).map nv = (layN e c false 8).map nv :=
  final_lay (check_ent he) (check_ent he) (fun i hi => (want_facts hc hi).2.2) (want_lay e c) (fun _ _ => rfl)
theorem diff_same {e o l : List Atr} (h : o.map nv = l.map nv) : diffL e o (bothN e o) = diffL e l (namesR e l) := by
  have hn : bothN e o = namesR e l := up_ext (bothN_up e o) (namesR_up e l) fun n => by
    rw [namesR_mem, ← names_nv h]
    have h1 := (addAll_keys (e ++ o)).2 n
    rw [List.map_append, List.mem_append] at h1
    rw [← h1]
    exact (sortB_isPerm _).mem_iff
  rw [hn]
  have hd : diffA e o = diffA e l := by
    funext n
    unfold diffA
    rw [getE_nv h n]
  unfold diffL
  rw [hd]
theorem into_same (e : List Atr) (c : List Val) (hc : c.length = 8) : ∃ (o l : List Atr) (k : Int) (ms : List Mk), intoO e c = .ret (.tup [.vsl 3 false (o.map encE), .int .i64 k]) ∧ intoR e c = .ret (.tup [.vsl 3 false (l.map encE), .int .i64 k]) ∧
    modsO e c = .ret (.tup [.vsl 4 false (ms.map encK), .int .i64 k]) ∧ modsR e c = .ret (.tup [.vsl 4 false (ms.map encK), .int .i64 k]) ∧ sameE o l = true ∧ o.length ≤ 1000 ∧ ms.length ≤ 1000 := by
  have hs0 : sameE [] [] = true := rfl
  cases h : ((ofC e).2 == 2 || !(mayC c)) with
  | true =>
    have h' : ((refOf e).2 == 2 || !(mayR c)) = true := by rw [← of_ref, ← may_same c hc]; exact h
    refine ⟨[], [], 2, [], by unfold intoO; rw [h]; rfl, by unfold intoR; rw [h']; rfl, by unfold modsO; rw [h]; rfl, by unfold modsR; rw [h']; rfl, hs0, by simp, by simp⟩
  | false =>
    have h' : ((refOf e).2 == 2 || !(mayR c)) = false := by rw [← of_ref, ← may_same c hc]; exact h
    cases h0 : ((ofC e).2 != 0) with
    | true =>
      have h0' : ((refOf e).2 != 0) = true := by rw [← of_ref]; exact h0
      refine ⟨[], [], (ofC e).2, [], by unfold intoO; rw [h, h0]; rfl, by unfold intoR; rw [h', h0', of_ref]; rfl, by unfold modsO; rw [h, h0]; rfl, by unfold modsR; rw [h', h0', of_ref]; rfl, hs0, by simp, by simp⟩
    | false =>
      have h0' : ((refOf e).2 != 0) = false := by rw [← of_ref]; exact h0
      have hce := (ofC_zero h0).1
      have hm : mayC c = true := by simp only [Bool.or_eq_false_iff, Bool.not_eq_false'] at h; exact h.2
      have hcc : checkC c = true := by unfold mayC at hm; simp only [Bool.and_eq_true] at hm; exact hm.1
      have hfl := fin_lay hce hcc
      have hll : longE (layN e c false 8) = longE (finE e c) := by unfold longE; rw [nv_len hfl]
      have hio := intoO_eq h h0
      cases hs : longE (finE e c) with
      | true =>
        rw [hs] at hll
        refine ⟨[], [], 3, [], by rw [hio, hs]; rfl, by unfold intoR; rw [h', h0', hll]; rfl, by unfold modsO; rw [h, h0, hs]; rfl, by unfold modsR; rw [h', h0', hll]; rfl, hs0, by simp, by simp⟩
      | false =>
        rw [hs] at hll
        refine ⟨finE e c, layN e c false 8, 0, partK (diffL e (finE e c) (bothN e (finE e c))), by rw [hio, hs]; rfl, by unfold intoR; rw [h', h0', hll]; rfl, by unfold modsO; rw [h, h0, hs]; rfl, by unfold modsR; rw [h', h0', hll, diff_same hfl]; rfl, decide_eq_true hfl, ?_, ?_⟩
        · have := of_decide_eq_false hs; omega
        · have h1 := diffL_len e (finE e c) (bothN e (finE e c)) (bothN e (finE e c)).length
          rw [List.take_length] at h1
          have h2 := bothN_len (a := e) (b := finE e c)
          have h3 := (check_good hce).few
          have h4 := of_decide_eq_false hs
          have h5 := List.length_filter_le (fun m : Mk => m.1 == 2) (diffL e (finE e c) (bothN e (finE e c)))
          have h6 := List.length_filter_le (fun m : Mk => !(m.1 == 2)) (diffL e (finE e c) (bothN e (finE e c)))
          unfold partK
          rw [List.length_append]
          omega

set_option maxRecDepth 100000 in
theorem peopleInto5 (hk : PureFn Tryz.prog 8 [] (.ret (.bool true))) (x : Bool) (e : List Atr) (c : List Val) (hc : c.length = 8) : PureFn Tryz.prog 5 [.vsl 3 x (e.map encE), .agg (c.map encV)] (.ret (.bool true)) := by
  refine PureFn.of Tryz.func5 rfl (enters_call enters Tryz.func5 rfl) (by simp [Tryz.ntmps5]) ?_
  show W Tryz.prog 67 _ none _ _ _
  refine .seq (.region [] (by decide) ?_)
  simp only [EOps, EDf, isRd, gdA, callOf, isPanic, nextOf, altA, evalOp, St.ev, Av.get, St.put, argT, ofV, thenQ, Nat.reduceEqDiff, ↓reduceIte, Bool.and_self, List.map_cons, List.map_nil, List.nil_append, List.append_nil, List.getElem?_cons_zero, List.getElem?_cons_succ, List.getElem?_toArray, Option.map_some, Option.bind_some, decide_true, decide_false, beq_false, beq_true, Bool.not_true, Bool.not_false, Bool.false_eq_true, pickA, cond_true, cond_false, encV_told, if_true, List.length_nil, cells_agg']
  have h28 : evLoad Tryz.prog 28 (.ptr 0 0) [.cells (c.map encV) false] = some (.agg (c.map encV)) := ld28 _ 0 c false hc rfl
  have hl0 : ∀ H o, lend H [] o = some [] := by intro H o; rfl
  have hl1 : ∀ H o, lend H [.vsl 3 x (e.map encE)] o = some [.vsl 3 x (e.map encE)] := by intro H o; simp [lend, AV.hfs, AV.hf, encE_hfs]
  have hl2 : ∀ H o, lend H [.agg (c.map encV)] o = some [.agg (c.map encV)] := by intro H o; simp [lend, AV.hfs, AV.hf, encV_hfs]
  have hl3 : ∀ H o, lend H [.vsl 3 x (e.map encE), .agg (c.map encV)] o = some [.vsl 3 x (e.map encE), .agg (c.map encV)] := by intro H o; simp [lend, AV.hfs, AV.hf, encE_hfs, encV_hfs]
  have p1 := light7 x e
  have p2 := few12 c hc
  generalize h1 : lightB e = b1 at p1
  generalize h2 : fewB c = b2 at p2
  cases b1 with
  | false =>
    refine .seq (.seq (.region [.pure (.ret (.bool false))] (by decide) ?_))
    simp only [EOps, EDf, isRd, gdA, callOf, isPanic, nextOf, altA, evalOp, St.ev, Av.get, St.put, argT, ofV, thenQ, Nat.reduceEqDiff, ↓reduceIte, Bool.and_self, List.map_cons, List.map_nil, List.nil_append, List.append_nil, List.getElem?_cons_zero, List.getElem?_cons_succ, List.getElem?_toArray, Option.map_some, Option.bind_some, decide_true, decide_false, beq_false, beq_true, Bool.not_true, Bool.not_false, Bool.false_eq_true, pickA, cond_true, cond_false, hl1, u_not]
    refine ⟨p1, .cond (t := true) rfl (.seq (.region [.pure (.ret (.bool true))] (by decide) ?_))⟩
    simp only [EOps, EDf, isRd, gdA, callOf, isPanic, nextOf, altA, evalOp, St.ev, Av.get, St.put, argT, ofV, thenQ, Nat.reduceEqDiff, ↓reduceIte, Bool.and_self, List.map_cons, List.map_nil, List.nil_append, List.append_nil, List.getElem?_cons_zero, List.getElem?_cons_succ, List.getElem?_toArray, Option.map_some, Option.bind_some, decide_true, decide_false, beq_false, beq_true, Bool.not_true, Bool.not_false, Bool.false_eq_true, pickA, cond_true, cond_false, hl0]
    exact ⟨hk, .ret ⟨_, rfl, _, rfl, .refl _⟩⟩
  | true =>
    cases b2 with
    | false =>
      refine .seq (.seq (.region [.pure (.ret (.bool true)), .pure (.ret (.bool false))] (by decide) ?_))
      simp only [EOps, EDf, isRd, gdA, callOf, isPanic, nextOf, altA, evalOp, St.ev, Av.get, St.put, argT, ofV, thenQ, Nat.reduceEqDiff, ↓reduceIte, Bool.and_self, List.map_cons, List.map_nil, List.nil_append, List.append_nil, List.getElem?_cons_zero, List.getElem?_cons_succ, List.getElem?_toArray, Option.map_some, Option.bind_some, decide_true, decide_false, beq_false, beq_true, Bool.not_true, Bool.not_false, Bool.false_eq_true, pickA, cond_true, cond_false, hl1, u_not, h28, hl2]
      refine ⟨p1, p2, .cond (t := true) rfl (.seq (.region [.pure (.ret (.bool true))] (by decide) ?_))⟩
      simp only [EOps, EDf, isRd, gdA, callOf, isPanic, nextOf, altA, evalOp, St.ev, Av.get, St.put, argT, ofV, thenQ, Nat.reduceEqDiff, ↓reduceIte, Bool.and_self, List.map_cons, List.map_nil, List.nil_append, List.append_nil, List.getElem?_cons_zero, List.getElem?_cons_succ, List.getElem?_toArray, Option.map_some, Option.bind_some, decide_true, decide_false, beq_false, beq_true, Bool.not_true, Bool.not_false, Bool.false_eq_true, pickA, cond_true, cond_false, hl0]
      exact ⟨hk, .ret ⟨_, rfl, _, rfl, .refl _⟩⟩
    | true =>
      obtain ⟨he, hb⟩ := light_bound h1
      have hb6 : ∀ a ∈ e, a.2.2.length ≤ 1000000 := fun a ha => by have := hb a ha; omega
      have q1 := into16 x e c hc (by omega) hb6
      have q2 := into17 x e c hc (by omega)
      have q3 := mods18 x e c hc (by omega) hb6
      have q4 := mods19 x e c hc (by omega)
      obtain ⟨o, l, k, ms, g1, g2, g3, g4, g5, g6, g7⟩ := into_same e c hc
      rw [g1] at q1
      rw [g2] at q2
      rw [g3] at q3
      rw [g4] at q4
      have q5 := same15 false false o l g6
      rw [g5] at q5
      have q6 := sameMods20 false false ms g7
      have hl4 : ∀ H u, lend H [.vsl 3 false (o.map encE), .vsl 3 false (l.map encE)] u = some [.vsl 3 false (o.map encE), .vsl 3 false (l.map encE)] := by intro H u; simp [lend, AV.hfs, AV.hf, encE_hfs]
      have hl5 : ∀ H u, lend H [.vsl 4 false (ms.map encK), .vsl 4 false (ms.map encK)] u = some [.vsl 4 false (ms.map encK), .vsl 4 false (ms.map encK)] := by intro H u; simp [lend, AV.hfs, AV.hf, encK_hfs]
      have hkk : (k == k) = true := by simp
      refine .seq (.seq (.region [.pure (.ret (.bool true)), .pure (.ret (.bool true))] (by decide) ?_))
      simp only [EOps, EDf, isRd, gdA, callOf, isPanic, nextOf, altA, evalOp, St.ev, Av.get, St.put, argT, ofV, thenQ, Nat.reduceEqDiff, ↓reduceIte, Bool.and_self, List.map_cons, List.map_nil, List.nil_append, List.append_nil, List.getElem?_cons_zero, List.getElem?_cons_succ, List.getElem?_toArray, Option.map_some, Option.bind_some, decide_true, decide_false, beq_false, beq_true, Bool.not_true, Bool.not_false, Bool.false_eq_true, pickA, cond_true, cond_false, hl1, u_not, h28, hl2]
      refine ⟨p1, p2, .cond (t := false) rfl (.skip ?_)⟩
      refine .seq (.region [.pure (.ret (.tup [.vsl 3 false (o.map encE), .int .i64 k]))] (by decide) ?_)
      simp only [EOps, EDf, isRd, gdA, callOf, isPanic, nextOf, altA, evalOp, St.ev, Av.get, St.put, argT, ofV, thenQ, Nat.reduceEqDiff, ↓reduceIte, Bool.and_self, List.map_cons, List.map_nil, List.nil_append, List.append_nil, List.getElem?_cons_zero, List.getElem?_cons_succ, List.getElem?_toArray, Option.map_some, Option.bind_some, decide_true, decide_false, beq_false, beq_true, Bool.not_true, Bool.not_false, Bool.false_eq_true, pickA, cond_true, cond_false, h28, hl3]
      refine ⟨q1, ?_⟩
      refine .seq (.region [.pure (.ret (.tup [.vsl 3 false (l.map encE), .int .i64 k]))] (by decide) ?_)
      simp only [EOps, EDf, isRd, gdA, callOf, isPanic, nextOf, altA, evalOp, St.ev, Av.get, St.put, argT, ofV, thenQ, Nat.reduceEqDiff, ↓reduceIte, Bool.and_self, List.map_cons, List.map_nil, List.nil_append, List.append_nil, List.getElem?_cons_zero, List.getElem?_cons_succ, List.getElem?_toArray, Option.map_some, Option.bind_some, decide_true, decide_false, beq_false, beq_true, Bool.not_true, Bool.not_false, Bool.false_eq_true, pickA, cond_true, cond_false, h28, hl3]
      refine ⟨q2, ?_⟩
      refine .seq (.region [.pure (.ret (.tup [.vsl 4 false (ms.map encK), .int .i64 k]))] (by decide) ?_)
      simp only [EOps, EDf, isRd, gdA, callOf, isPanic, nextOf, altA, evalOp, St.ev, Av.get, St.put, argT, ofV, thenQ, Nat.reduceEqDiff, ↓reduceIte, Bool.and_self, List.map_cons, List.map_nil, List.nil_append, List.append_nil, List.getElem?_cons_zero, List.getElem?_cons_succ, List.getElem?_toArray, Option.map_some, Option.bind_some, decide_true, decide_false, beq_false, beq_true, Bool.not_true, Bool.not_false, Bool.false_eq_true, pickA, cond_true, cond_false, h28, hl3]
      refine ⟨q3, ?_⟩
      refine .seq (.region [.pure (.ret (.tup [.vsl 4 false (ms.map encK), .int .i64 k]))] (by decide) ?_)
      simp only [EOps, EDf, isRd, gdA, callOf, isPanic, nextOf, altA, evalOp, St.ev, Av.get, St.put, argT, ofV, thenQ, Nat.reduceEqDiff, ↓reduceIte, Bool.and_self, List.map_cons, List.map_nil, List.nil_append, List.append_nil, List.getElem?_cons_zero, List.getElem?_cons_succ, List.getElem?_toArray, Option.map_some, Option.bind_some, decide_true, decide_false, beq_false, beq_true, Bool.not_true, Bool.not_false, Bool.false_eq_true, pickA, cond_true, cond_false, h28, hl3]
      refine ⟨q4, ?_⟩
      refine .seq (.region [.pure (.ret (.bool true)), .pure (.ret (.bool true)), .pure (.ret (.bool true))] (by decide) ?_)
      simp only [EOps, EDf, isRd, gdA, callOf, isPanic, nextOf, altA, evalOp, St.ev, Av.get, St.put, argT, ofV, thenQ, Nat.reduceEqDiff, ↓reduceIte, Bool.and_self, List.map_cons, List.map_nil, List.nil_append, List.append_nil, List.getElem?_cons_zero, List.getElem?_cons_succ, List.getElem?_toArray, Option.map_some, Option.bind_some, decide_true, decide_false, beq_false, beq_true, Bool.not_true, Bool.not_false, Bool.false_eq_true, pickA, cond_true, cond_false, b_eql, hkk, hl4, hl5, hl0]
      exact ⟨q5, q6, hk, .ret ⟨_, rfl, _, rfl, .refl _⟩⟩
end Go.Proofs.YtmeijkidjifagaaGreat
