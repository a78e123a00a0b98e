/- Contracts of functions that the statements of this seat reach: under the conditions named at each theorem. -/
import Derived.Test.YtmeijkidjifagaaGreatSrP8
import Derived.Test.YtmeijkidjifagaaGreatSrP7
import Derived.Test.YtmeijkidjifagaaGreatSvP6
namespace Go.Proofs.YtmeijkidjifagaaGreat
set_option linter.unusedVariables false
set_option linter.unusedSimpArgs false
open Go Go.Av

theorem values84 (x : Bool) (l : List Bytes) : PureFn Tryz.prog 84 [.vsl 0 x (l.map .str)] (.ret (.func (.func 102) [] [.vptr [.vsl 0 x (l.map .str)]])) := by
  refine PureFn.of Tryz.func84 rfl (enters_call enters Tryz.func84 rfl) (by simp [Tryz.ntmps84]) ?_
  show W Tryz.prog 4 _ none _ _ _
  have hcl : AV.cells (.vsl 0 x (l.map .str)) = [.vsl 0 x (l.map .str)] := rfl
  have ht : AV.told (.vsl 0 x (l.map .str)) = true := rfl
  refine .seq (.region [] (by decide) ?_)
  simp only [EOps, EDf, isRd, gdA, callOf, isPanic, nextOf, altA, evalOp, St.ev, Av.get, St.put, argT, ofV, thenQ, Nat.reduceEqDiff, ↓reduceIte, Bool.and_self, List.map_cons, List.map_nil, List.nil_append, List.append_nil, List.getElem?_cons_zero, List.getElem?_cons_succ, List.getElem?_toArray, Option.map_some, Option.bind_some, decide_true, decide_false, beq_false, beq_true, Bool.not_true, Bool.not_false, Bool.false_eq_true, pickA, cond_true, cond_false, ht, if_true, hcl, List.length_nil]
  refine .seq (.region [] (by decide) ?_)
  simp only [EOps, EDf, isRd, gdA, callOf, isPanic, nextOf, altA, evalOp, St.ev, Av.get, St.put, argT, ofV, thenQ, Nat.reduceEqDiff, ↓reduceIte, Bool.and_self, List.map_cons, List.map_nil, List.nil_append, List.append_nil, List.getElem?_cons_zero, List.getElem?_cons_succ, List.getElem?_toArray, Option.map_some, Option.bind_some, decide_true, decide_false, beq_false, beq_true, Bool.not_true, Bool.not_false, Bool.false_eq_true, pickA, cond_true, cond_false]
  have hh : AV.hf (.vsl 0 x (l.map .str)) = true := by simp [AV.hf, strs_hfs]
  have hz : fz [.cells [.vsl 0 x (l.map .str)] false] 20 (.func (.func 102) [] [.ptr 0 0]) = some (.func (.func 102) [] [.vptr [.vsl 0 x (l.map .str)]]) := by
    have h1 : fz [.cells [.vsl 0 x (l.map .str)] false] 19 (.ptr 0 0) = some (.vptr [.vsl 0 x (l.map .str)]) := by
      unfold fz
      rw [if_neg (by simp [AV.hf])]
      simp [AV.hfs, hh]
    unfold fz
    rw [if_neg (by simp [AV.hf, AV.hfs])]
    simp [AV.hfs, AV.hf, h1]
  exact .ret (retF 2 rfl rfl rfl hz (.refl _))

theorem values102 (yid : Nat) (x : Bool) (l : List Bytes) (hL : l.length ≤ 1000000) (H : List OB) (J : List Bytes → List OB → Prop) (hJ : J [] H)
    (hstep : ∀ s b K, s.length < l.length → J s K → ∃ K', YFn Tryz.prog yid [.str b] K (.ret (.bool true)) K' ∧ J (s ++ [b]) K') :
    ShFnS Tryz.prog 102 [.yld yid, .vptr [.vsl 0 x (l.map .str)]] H (fun out K => out = .ret (.tup []) ∧ J l K) := by
  refine ShFnS.ofX Tryz.func102 rfl (enters_call enters Tryz.func102 rfl) (by simp [Tryz.ntmps102]) ?_
  show W Tryz.prog 16 _ none _ _ _
  have hld : ∀ K, evLoad Tryz.prog 26 (.vptr [.vsl 0 x (l.map .str)]) K = some (.vsl 0 x (l.map .str)) := by intro K; simp [evLoad, tz26, tg26, ldA]
  refine .seq (.region [] (by decide) ?_)
  simp only [EOps, EDf, isRd, gdA, callOf, isPanic, nextOf, altA, evalOp, St.ev, Av.get, St.put, argT, ofV, thenQ, Nat.reduceEqDiff, ↓reduceIte, Bool.and_self, List.map_cons, List.map_nil, List.nil_append, List.append_nil, List.getElem?_cons_zero, List.getElem?_cons_succ, List.getElem?_toArray, Option.map_some, Option.bind_some, decide_true, decide_false, beq_false, beq_true, Bool.not_true, Bool.not_false, Bool.false_eq_true, pickA, cond_true, cond_false, hld, ln26]
  refine .block ?_
  refine .loop (X := Nat) (fun i a => Av.get a.T 0 = .yld yid ∧ Av.get a.T 5 = .vsl 0 x (l.map .str) ∧ Av.get a.T 6 = .int .i64 l.length ∧ Av.get a.T 7 = .int .i64 (i : Int) ∧ J (l.take i) a.H ∧ i ≤ l.length ∧ a.D = []) (fun i => l.length - i) 0 ⟨rfl, rfl, rfl, rfl, hJ, Nat.zero_le _, rfl⟩ ?_
  rintro i ⟨T, K, D⟩ ⟨h0, h5, h6, h7, hK, hi, rfl⟩
  simp only at h0 h5 h6 h7 hK
  refine .seq (.region [] (by decide) ?_)
  simp only [EOps, EDf, isRd, gdA, callOf, isPanic, nextOf, altA, evalOp, St.ev, Av.get, St.put, argT, ofV, thenQ, Nat.reduceEqDiff, ↓reduceIte, Bool.and_self, List.map_cons, List.map_nil, List.nil_append, List.append_nil, List.getElem?_cons_zero, List.getElem?_cons_succ, List.getElem?_toArray, Option.map_some, Option.bind_some, decide_true, decide_false, beq_false, beq_true, Bool.not_true, Bool.not_false, Bool.false_eq_true, pickA, cond_true, cond_false, h0, h5, h6, h7, b_lss, dlt]
  by_cases h : i < l.length
  · obtain ⟨b, hb, hdrop⟩ := drop_at h
    have htake : l.take (i + 1) = l.take i ++ [b] := by rw [List.take_add_one, hb]; rfl
    refine .seq (.cond (t := true) (by simp [St.ev, Av.get, h]) (.skip ?_))
    simp only [thenQ]
    refine .seq (.block (.seq (.region [] (by decide) ?_)))
    simp only [EOps, EDf, isRd, gdA, callOf, isPanic, nextOf, altA, evalOp, St.ev, Av.get, St.put, argT, ofV, thenQ, Nat.reduceEqDiff, ↓reduceIte, Bool.and_self, List.map_cons, List.map_nil, List.nil_append, List.append_nil, List.getElem?_cons_zero, List.getElem?_cons_succ, List.getElem?_toArray, Option.map_some, Option.bind_some, decide_true, decide_false, beq_false, beq_true, Bool.not_true, Bool.not_false, Bool.false_eq_true, pickA, cond_true, cond_false, h0, h5, h6, h7, ia26 _ _ _ _ hb, ld9v]
    obtain ⟨K', hy, hJ'⟩ := hstep (l.take i) b K (by simp; omega) hK
    refine .seq (.region [.sh (.ret (.bool true)) K'] (by decide) ?_)
    simp only [EOps, EDf, isRd, gdA, callOf, isPanic, nextOf, altA, evalOp, St.ev, Av.get, St.put, argT, ofV, thenQ, Nat.reduceEqDiff, ↓reduceIte, Bool.and_self, List.map_cons, List.map_nil, List.nil_append, List.append_nil, List.getElem?_cons_zero, List.getElem?_cons_succ, List.getElem?_toArray, Option.map_some, Option.bind_some, decide_true, decide_false, beq_false, beq_true, Bool.not_true, Bool.not_false, Bool.false_eq_true, pickA, cond_true, cond_false, h0, h5, h6, h7, ClOK, u_not]
    refine ⟨hy, ?_⟩
    refine .cond (t := false) rfl (.skip ?_)
    simp only [EOps, EDf, isRd, gdA, callOf, isPanic, nextOf, altA, evalOp, St.ev, Av.get, St.put, argT, ofV, thenQ, Nat.reduceEqDiff, ↓reduceIte, lend, AV.hfs, AV.hf, Bool.and_self, List.map_cons, List.map_nil, List.nil_append, List.append_nil, List.getElem?_cons_zero, List.getElem?_cons_succ, List.getElem?_toArray, Option.map_some, Option.bind_some, decide_true, decide_false, beq_false, beq_true, Bool.not_true, Bool.not_false, Bool.false_eq_true, pickA, cond_true, cond_false, blockQ]
    refine .region [] (by decide) ?_
    have hadd : evBin Tryz.prog .add 3 (.int .i64 (i : Int)) (.int .i64 1) = some (.int .i64 ((i + 1 : Nat) : Int)) := by
      rw [b_add64 _ _ (by omega)]; simp
    simp only [EOps, EDf, isRd, gdA, callOf, isPanic, nextOf, altA, evalOp, St.ev, Av.get, St.put, argT, ofV, thenQ, Nat.reduceEqDiff, ↓reduceIte, Bool.and_self, List.map_cons, List.map_nil, List.nil_append, List.append_nil, List.getElem?_cons_zero, List.getElem?_cons_succ, List.getElem?_toArray, Option.map_some, Option.bind_some, decide_true, decide_false, beq_false, beq_true, Bool.not_true, Bool.not_false, Bool.false_eq_true, pickA, cond_true, cond_false, h0, h5, h6, h7, hadd]
    refine ⟨i + 1, ⟨trivial, trivial, trivial, rfl, ?_, h, trivial⟩, by omega⟩
    rw [htake]; exact hJ'
  · have hi' : i = l.length := by omega
    subst hi'
    rw [List.take_length] at hK
    refine .seq (.cond (t := false) (by simp [St.ev, Av.get]) (.exit ?_))
    simp only [EOps, EDf, isRd, gdA, callOf, isPanic, nextOf, altA, evalOp, St.ev, Av.get, St.put, argT, ofV, thenQ, Nat.reduceEqDiff, ↓reduceIte, lend, AV.hfs, AV.hf, Bool.and_self, List.map_cons, List.map_nil, List.nil_append, List.append_nil, List.getElem?_cons_zero, List.getElem?_cons_succ, List.getElem?_toArray, Option.map_some, Option.bind_some, decide_true, decide_false, beq_false, beq_true, Bool.not_true, Bool.not_false, Bool.false_eq_true, pickA, cond_true, cond_false, blockQ]
    exact ⟨_, _, ⟨rfl, hK⟩, _, rfl, rfl, _, rfl, rfl⟩

noncomputable def as118 : Code := match Tryz.f118.body with
  | some (.seq _ (.seq (.seq _ (.block _ (.rangeFunc _ _ a _))) _)) => a
  | _ => .skip
noncomputable def bd118 : Code := match Tryz.f118.body with
  | some (.seq _ (.seq (.seq _ (.block _ (.rangeFunc _ _ _ b))) _)) => b
  | _ => .skip
noncomputable def lk118 : LoopK := ⟨13, #[7], as118, bd118, .ready, none⟩
noncomputable def kb118 : LoopK := ⟨13, #[7], as118, bd118, .busy, none⟩
def t118 (g : AV) : List (Nat × AV) := [(6, g), (4, .vsl 0 true []), (2, .ptr 0 0), (0, .vsl 0 true []), (1, g)]
def J118 (g : AV) (s : List Bytes) (K : List OB) : Prop :=
  K[1]? = some .dfr ∧ K[2]? = some (.loop (t118 g) lk118) ∧ ∃ v, K[0]? = some (.cells [v] false) ∧ slIn 0 AV.str K v s ∧ (s = [] → v = .vsl 0 true []) ∧ ∀ i, i < 3 → v ≠ .sl i 0 s.length 0
theorem ld26c (H : List OB) (id : Nat) (v : AV) (b : Bool) (h : H[id]? = some (.cells [v] b)) : evLoad Tryz.prog 26 (.ptr id 0) H = some v := ld26 H id 0 _ b v h rfl
theorem st26c (H : List OB) (id : Nat) (u v : AV) (h : H[id]? = some (.cells [u] false)) (hv : v.isC = true) : evStore Tryz.prog 26 (.ptr id 0) v H = some (H.set id (.cells [v] false)) := by
  have hc : v.cells = [v] := one_cells (by cases v <;> first | rfl | cases hv)
  simp [evStore, tz26, h, hc, hv, setC]

set_option maxRecDepth 100000 in
theorem round118 (g : AV) (s : List Bytes) (m : Bytes) (K : List OB) (hs : s.length < 1000000) (hJ : J118 g s K) :
    ∃ K', YFn Tryz.prog 2 [.str m] K (.ret (.bool true)) K' ∧ J118 g (s ++ [m]) K' := by
  obtain ⟨h1, h2, v, h0, hin, hvc, hne⟩ := hJ
  have l2 : 2 < K.length := (List.getElem?_eq_some_iff.1 h2).1
  obtain ⟨M, hM⟩ : ∃ M, M = K.set 2 (.loop (t118 g) kb118) := ⟨_, rfl⟩
  have lM : M.length = K.length := by rw [hM, List.length_set]
  have gM : ∀ i, i ≠ 2 → M[i]? = K[i]? := by
    intro i hi2
    rw [hM, List.getElem?_set, if_neg (by omega)]
  have gM2 : M[2]? = some (.loop (t118 g) kb118) := by rw [hM, List.getElem?_set_self (by omega)]
  have hin' : slIn 0 AV.str M v s := by
    rcases hin with h | ⟨d, hv, hd⟩
    · exact .inl h
    · have hd2 : d ≠ 2 := by rintro rfl; rw [h2] at hd; cases hd
      exact .inr ⟨d, hv, by rw [gM d hd2]; exact hd⟩
  obtain ⟨M', hap, hl', hnew, hold⟩ := slIn_app (P := Tryz.prog) (sT := 26) (wd := 0) (bytes := 16) Tryz.underlying26 ap9 AV.str (fun _ => rfl) (fun _ => rfl) (by decide) hin' m true (by omega)
  have o0 : M'[0]? = some (.cells [v] false) := by rw [hold 0 (by omega) (hne 0 (by omega)), gM 0 (by omega)]; exact h0
  have o1 : M'[1]? = some .dfr := by rw [hold 1 (by omega) (hne 1 (by omega)), gM 1 (by omega)]; exact h1
  have o2 : M'[2]? = some (.loop (t118 g) kb118) := by rw [hold 2 (by omega) (hne 2 (by omega))]; exact gM2
  have k0 : evLoad Tryz.prog 26 (.ptr 0 0) M = some v := ld26c M 0 v false (by rw [gM 0 (by omega)]; exact h0)
  have k2 : evStore Tryz.prog 26 (.ptr 0 0) (.sl M.length 0 (s.length + 1) 0) M' = some (M'.set 0 (.cells [.sl M.length 0 (s.length + 1) 0] false)) := st26c M' 0 v _ o0 rfl
  refine ⟨(M'.set 0 (.cells [.sl M.length 0 (s.length + 1) 0] false)).set 2 (.loop (t118 g) lk118), ?_, ?_⟩
  · refine YFn.of h2 (by simp [lk118]) fun l => ?_
    show W Tryz.prog 13 _ _ (.region 2 _ _) _ ⟨(7, .str m) :: t118 g, K, []⟩
    refine .region [] (by decide) ?_
    simp only [EOps, EDf, isRd, gdA, callOf, isPanic, nextOf, altA, evalOp, St.ev, Av.get, St.put, argT, ofV, thenQ, Nat.reduceEqDiff, ↓reduceIte, Bool.and_self, List.map_cons, List.map_nil, List.nil_append, List.append_nil, List.getElem?_cons_zero, List.getElem?_cons_succ, List.getElem?_toArray, Option.map_some, Option.bind_some, decide_true, decide_false, beq_false, beq_true, Bool.not_true, Bool.not_false, Bool.false_eq_true, pickA, cond_true, cond_false, t118]
    refine ⟨t118 g, lk118, h2, rfl, ?_⟩
    rw [show ({ lk118 with st := .busy } : LoopK) = kb118 from rfl, ← hM]
    show W Tryz.prog 13 _ _ (.block 1 (.region 3 _ _)) _ _
    refine .block (.region [] (by decide) ?_)
    simp only [EOps, EDf, isRd, gdA, callOf, isPanic, nextOf, altA, evalOp, St.ev, Av.get, St.put, argT, ofV, thenQ, Nat.reduceEqDiff, ↓reduceIte, Bool.and_self, List.map_cons, List.map_nil, List.nil_append, List.append_nil, List.getElem?_cons_zero, List.getElem?_cons_succ, List.getElem?_toArray, Option.map_some, Option.bind_some, decide_true, decide_false, beq_false, beq_true, Bool.not_true, Bool.not_false, Bool.false_eq_true, pickA, cond_true, cond_false, k0, bs26one, hap, k2]
    refine ⟨t118 g, kb118, ?_, rfl, rfl⟩
    show (M'.set 0 _)[2]? = _
    rw [List.getElem?_set, if_neg (by decide)]; exact o2
  · have q : ∀ i, i ≠ 0 → i ≠ 2 → ((M'.set 0 (.cells [.sl M.length 0 (s.length + 1) 0] false)).set 2 (.loop (t118 g) lk118))[i]? = M'[i]? := by
      intro i hi0 hi2
      rw [List.getElem?_set, if_neg (by omega), List.getElem?_set, if_neg (by omega)]
    refine ⟨by rw [q 1 (by decide) (by decide)]; exact o1, ?_, .sl M.length 0 (s.length + 1) 0, ?_, .inr ⟨M.length, by simp, ?_⟩, (fun h => by simp at h), ?_⟩
    · rw [List.getElem?_set_self (by rw [List.length_set]; omega)]
    · rw [List.getElem?_set, if_neg (by decide), List.getElem?_set_self (by omega)]
    · rw [q M.length (by omega) (by omega)]; exact hnew
    · intro i hi h
      injection h with h3
      omega

/-- These, in this order, in a slice of one's own. -/
def inOrder (l : List Bytes) (out : Out) (K : List OB) : Prop := (l = [] ∧ out = .ret (.vsl 0 true []) ∧ K = []) ∨ (out = .ret (.sl 0 0 l.length 0) ∧ K = [.cells (l.map .str) true])
theorem flat_str (l : List Bytes) : flatA AV.str l = l.map .str := cells_strs l

set_option maxRecDepth 100000 in
theorem seq118 (x : Bool) (l : List Bytes) (hL : l.length ≤ 1000000) :
    ShFnS Tryz.prog 118 [.vsl 0 true [], .func (.func 102) [] [.vptr [.vsl 0 x (l.map .str)]]] [] (inOrder l) := by
  generalize hg : AV.func (.func 102) [] [.vptr [.vsl 0 x (l.map .str)]] = g
  refine ShFnS.of0 Tryz.func118 rfl (enters_call enters Tryz.func118 rfl) (by simp [Tryz.ntmps118]) ?_
  show W Tryz.prog 13 _ none _ _ _
  have hcl : AV.cells (.vsl 0 true []) = [.vsl 0 true []] := rfl
  refine .seq (.region [] (by decide) ?_)
  simp only [EOps, EDf, isRd, gdA, callOf, isPanic, nextOf, altA, evalOp, St.ev, Av.get, St.put, argT, ofV, thenQ, Nat.reduceEqDiff, ↓reduceIte, Bool.and_self, List.map_cons, List.map_nil, List.nil_append, List.append_nil, List.getElem?_cons_zero, List.getElem?_cons_succ, List.getElem?_toArray, Option.map_some, Option.bind_some, decide_true, decide_false, beq_false, beq_true, Bool.not_true, Bool.not_false, Bool.false_eq_true, pickA, cond_true, cond_false, AV.told, if_true, hcl, List.length_nil, and_self]
  refine .seq (.seq (.region [] (by decide) ?_))
  simp only [EOps, EDf, isRd, gdA, callOf, isPanic, nextOf, altA, evalOp, St.ev, Av.get, St.put, argT, ofV, thenQ, Nat.reduceEqDiff, ↓reduceIte, Bool.and_self, List.map_cons, List.map_nil, List.nil_append, List.append_nil, List.getElem?_cons_zero, List.getElem?_cons_succ, List.getElem?_toArray, Option.map_some, Option.bind_some, decide_true, decide_false, beq_false, beq_true, Bool.not_true, Bool.not_false, Bool.false_eq_true, pickA, cond_true, cond_false]
  refine .block ?_
  have hstep := values102 2 x l hL ([.cells [.vsl 0 true []] false] ++ [.dfr, .loop (t118 g) lk118]) (J118 g) ⟨rfl, rfl, _, rfl, .inl ⟨rfl, 0, rfl⟩, (fun _ => rfl), by intro i _ h; cases h⟩ (fun s m K hs hJ => round118 g s m K (by omega) hJ)
  refine W.rangeFuncS (gf := 102) (fs := []) (cs := [.vptr [.vsl 0 x (l.map .str)]]) (by rw [hg]; rfl) (enters_call enters Tryz.func102 rfl) hstep ?_
  rintro out K ⟨rfl, h1, h2, v, h0, hin, hvc, hne⟩
  refine ⟨_, _, _, rfl, h2, by simp [lk118], ?_⟩
  show behindQ _ _ _ _ _ none
  simp only [behindQ, blockQ, thenQ]
  have k0 : evLoad Tryz.prog 26 (.ptr 0 0) (K.set 2 .dead) = some v := ld26c _ 0 v false (by rw [List.getElem?_set, if_neg (by decide)]; exact h0)
  have hd1 : (K.set 2 OB.dead)[1]? = some .dfr := by rw [List.getElem?_set, if_neg (by decide)]; exact h1
  refine .seq (.region [] (by decide) ?_)
  simp only [EOps, EDf, isRd, gdA, callOf, isPanic, nextOf, altA, evalOp, St.ev, Av.get, St.put, argT, ofV, thenQ, Nat.reduceEqDiff, ↓reduceIte, Bool.and_self, List.map_cons, List.map_nil, List.nil_append, List.append_nil, List.getElem?_cons_zero, List.getElem?_cons_succ, List.getElem?_toArray, Option.map_some, Option.bind_some, decide_true, decide_false, beq_false, beq_true, Bool.not_true, Bool.not_false, Bool.false_eq_true, pickA, cond_true, cond_false, List.length_cons, List.length_nil, Nat.reduceAdd, k0]
  have hE : ∀ T, endA ⟨T, K.set 2 .dead, [1]⟩ = some ⟨T, (K.set 2 .dead).set 1 .dead, []⟩ := by intro T; simp [endA, takeD, hd1]
  rcases hin with ⟨rfl, w, rfl⟩ | ⟨d, rfl, hd⟩
  · have hw := hvc rfl
    rw [hw]
    exact .ret ⟨_, hE _, .inl ⟨_, rfl, rfl, .inl ⟨rfl, rfl, rfl⟩⟩⟩
  · have hd2 : d ≠ 2 := by rintro rfl; rw [h2] at hd; cases hd
    have hd1' : d ≠ 1 := by rintro rfl; rw [h1] at hd; cases hd
    rw [flat_str] at hd
    refine .ret ⟨_, hE _, .inr ⟨d, 0, l.length, 0, l.map .str, true, rfl, ?_, strs_hfs l, .inr ⟨rfl, rfl⟩⟩⟩
    show ((K.set 2 OB.dead).set 1 OB.dead)[d]? = _
    rw [List.getElem?_set, if_neg (by omega), List.getElem?_set, if_neg (by omega)]; exact hd

theorem col111 (x : Bool) (l : List Bytes) (hL : l.length ≤ 1000000) : ShFnS Tryz.prog 111 [.func (.func 102) [] [.vptr [.vsl 0 x (l.map .str)]]] [] (inOrder l) := by
  refine ShFnS.of0 Tryz.func111 rfl (enters_call enters Tryz.func111 rfl) (by simp [Tryz.ntmps111]) ?_
  show W Tryz.prog 5 _ none _ _ _
  refine .seq (.region [] (by decide) ?_)
  simp only [EOps, EDf, isRd, gdA, callOf, isPanic, nextOf, altA, evalOp, St.ev, Av.get, St.put, argT, ofV, thenQ, Nat.reduceEqDiff, ↓reduceIte, Bool.and_self, List.map_cons, List.map_nil, List.nil_append, List.append_nil, List.getElem?_cons_zero, List.getElem?_cons_succ, List.getElem?_toArray, Option.map_some, Option.bind_some, decide_true, decide_false, beq_false, beq_true, Bool.not_true, Bool.not_false, Bool.false_eq_true, pickA, cond_true, cond_false, and_self, if_true]
  refine .seq (.region [.any (inOrder l)] (by decide) ?_)
  simp only [EOps, EDf, isRd, gdA, callOf, isPanic, nextOf, altA, evalOp, St.ev, Av.get, St.put, argT, ofV, thenQ, Nat.reduceEqDiff, ↓reduceIte, Bool.and_self, List.map_cons, List.map_nil, List.nil_append, List.append_nil, List.getElem?_cons_zero, List.getElem?_cons_succ, List.getElem?_toArray, Option.map_some, Option.bind_some, decide_true, decide_false, beq_false, beq_true, Bool.not_true, Bool.not_false, Bool.false_eq_true, pickA, cond_true, cond_false, and_self, if_true]
  refine ⟨seq118 x l hL, ?_⟩
  rintro out K (⟨rfl, rfl, rfl⟩ | ⟨rfl, rfl⟩)
  · exact .ret ⟨_, rfl, .inl ⟨_, rfl, rfl, .inl ⟨rfl, rfl, rfl⟩⟩⟩
  · exact .ret ⟨_, rfl, .inr ⟨0, 0, l.length, 0, l.map .str, true, rfl, rfl, strs_hfs l, .inr ⟨rfl, rfl⟩⟩⟩

def wayN : Ways := { pm := fun f => true, gm := fun _ => false, conP := fun _ _ => none, conS := fun _ _ _ => none, fuel := 2000 }
theorem wayN_ok : WaysRight Tryz.prog wayN := ⟨by kernel_rfl, enters, fun f args out h => (by cases h), fun f args H out H' h => (by cases h)⟩
theorem sortNil_run : endP Tryz.prog Tryz.f112 (runC Tryz.prog (callN Tryz.prog wayN 40) wayN.pm Tryz.f112.ntmps false wayN.fuel (Tryz.f112.body.getD .skip) ⟨argT 0 [.vsl 0 true []], [], []⟩) = some (.ret (.tup [])) := by kernel_rfl
theorem sortNil : PureFn Tryz.prog 112 [.vsl 0 true []] (.ret (.tup [])) := PureFn.run wayN_ok 40 Tryz.func112 rfl (by simp [Tryz.ntmps112]) sortNil_run

theorem sorted95v (x : Bool) (l : List Bytes) (hL : l.length ≤ 1000000) : PureFn Tryz.prog 95 [.func (.func 102) [] [.vptr [.vsl 0 x (l.map .str)]]] (.ret (.vsl 0 false ((sortB l).map .str))) := by
  refine PureFn.of Tryz.func95 rfl (enters_call enters Tryz.func95 rfl) (by simp [Tryz.ntmps95]) ?_
  show W Tryz.prog 9 _ none _ _ _
  have hsl : (sortB l).length = l.length := (List.mergeSort_perm l _).length_eq
  refine .seq (.region [] (by decide) ?_)
  simp only [EOps, EDf, isRd, gdA, callOf, isPanic, nextOf, altA, evalOp, St.ev, Av.get, St.put, argT, ofV, thenQ, Nat.reduceEqDiff, ↓reduceIte, Bool.and_self, List.map_cons, List.map_nil, List.nil_append, List.append_nil, List.getElem?_cons_zero, List.getElem?_cons_succ, List.getElem?_toArray, Option.map_some, Option.bind_some, decide_true, decide_false, beq_false, beq_true, Bool.not_true, Bool.not_false, Bool.false_eq_true, pickA, cond_true, cond_false, and_self, if_true]
  refine .seq (.region [.any (inOrder l)] (by decide) ?_)
  simp only [EOps, EDf, isRd, gdA, callOf, isPanic, nextOf, altA, evalOp, St.ev, Av.get, St.put, argT, ofV, thenQ, Nat.reduceEqDiff, ↓reduceIte, Bool.and_self, List.map_cons, List.map_nil, List.nil_append, List.append_nil, List.getElem?_cons_zero, List.getElem?_cons_succ, List.getElem?_toArray, Option.map_some, Option.bind_some, decide_true, decide_false, beq_false, beq_true, Bool.not_true, Bool.not_false, Bool.false_eq_true, pickA, cond_true, cond_false, and_self, if_true]
  refine ⟨col111 x l hL, ?_⟩
  rintro out K (⟨rfl, rfl, rfl⟩ | ⟨rfl, rfl⟩)
  · have hl : ∀ H o, lend H [.vsl 0 true []] o = some [.vsl 0 true []] := by intro H o; rfl
    simp only [thenQ]
    refine .seq (.region [.pure (.ret (.tup []))] (by decide) ?_)
    simp only [EOps, EDf, isRd, gdA, callOf, isPanic, nextOf, altA, evalOp, St.ev, Av.get, St.put, argT, ofV, thenQ, Nat.reduceEqDiff, ↓reduceIte, Bool.and_self, List.map_cons, List.map_nil, List.nil_append, List.append_nil, List.getElem?_cons_zero, List.getElem?_cons_succ, List.getElem?_toArray, Option.map_some, Option.bind_some, decide_true, decide_false, beq_false, beq_true, Bool.not_true, Bool.not_false, Bool.false_eq_true, pickA, cond_true, cond_false, hl]
    refine ⟨sortNil, ?_⟩
    refine .seq (.region [] (by decide) ?_)
    simp only [EOps, EDf, isRd, gdA, callOf, isPanic, nextOf, altA, evalOp, St.ev, Av.get, St.put, argT, ofV, thenQ, Nat.reduceEqDiff, ↓reduceIte, Bool.and_self, List.map_cons, List.map_nil, List.nil_append, List.append_nil, List.getElem?_cons_zero, List.getElem?_cons_succ, List.getElem?_toArray, Option.map_some, Option.bind_some, decide_true, decide_false, beq_false, beq_true, Bool.not_true, Bool.not_false, Bool.false_eq_true, pickA, cond_true, cond_false]
    have h0 : sortB [] = [] := by simp [sortB]
    rw [h0]
    exact .ret ⟨_, rfl, _, rfl, .nil _ _ _⟩
  · have hs := sort112 (H := [.cells (l.map .str) true]) (d := 0) (l := l) (opn := true) rfl hL
    simp only [List.set_cons_zero] at hs
    simp only [thenQ]
    refine .seq (.region [.sh (.ret (.tup [])) [.cells ((sortB l).map .str) true]] (by decide) ?_)
    simp only [EOps, EDf, isRd, gdA, callOf, isPanic, nextOf, altA, evalOp, St.ev, Av.get, St.put, argT, ofV, thenQ, Nat.reduceEqDiff, ↓reduceIte, Bool.and_self, List.map_cons, List.map_nil, List.nil_append, List.append_nil, List.getElem?_cons_zero, List.getElem?_cons_succ, List.getElem?_toArray, Option.map_some, Option.bind_some, decide_true, decide_false, beq_false, beq_true, Bool.not_true, Bool.not_false, Bool.false_eq_true, pickA, cond_true, cond_false, ClOK]
    refine ⟨hs, ?_⟩
    refine .seq (.region [] (by decide) ?_)
    simp only [EOps, EDf, isRd, gdA, callOf, isPanic, nextOf, altA, evalOp, St.ev, Av.get, St.put, argT, ofV, thenQ, Nat.reduceEqDiff, ↓reduceIte, Bool.and_self, List.map_cons, List.map_nil, List.nil_append, List.append_nil, List.getElem?_cons_zero, List.getElem?_cons_succ, List.getElem?_toArray, Option.map_some, Option.bind_some, decide_true, decide_false, beq_false, beq_true, Bool.not_true, Bool.not_false, Bool.false_eq_true, pickA, cond_true, cond_false]
    have hz := fz_strs (sortB l) [.cells ((sortB l).map .str) true] 0 true rfl
    rw [hsl] at hz
    exact .ret (retF 2 rfl rfl rfl hz (.refl _))
end Go.Proofs.YtmeijkidjifagaaGreat
namespace Go.Proofs.YtmeijkidjifagaaGreat
set_option linter.unusedVariables false
set_option linter.unusedSimpArgs false
open Go Go.Av

/-- No two neighbours are the same. -/
def apartB : List Bytes → Bool
  | a :: b :: l => !(b == a) && apartB (b :: l)
  | _ => true

theorem apart_at : ∀ (l : List Bytes) (i : Nat) (u v : Bytes), apartB l = true → l[i]? = some u → l[i + 1]? = some v → (v == u) = false
  | [], i, u, v, _, h, _ => by simp at h
  | [a], i, u, v, _, h, h2 => by
    have : i + 1 < 1 := by simpa using (List.getElem?_eq_some_iff.1 h2).1
    omega
  | a :: b :: l, 0, u, v, h, h1, h2 => by
    simp only [apartB, Bool.and_eq_true, Bool.not_eq_true'] at h
    simp at h1 h2; subst h1; subst h2; exact h.1
  | a :: b :: l, i + 1, u, v, h, h1, h2 => by
    simp only [apartB, Bool.and_eq_true] at h
    exact apart_at (b :: l) i u v h.2 (by simpa using h1) (by simpa using h2)

theorem apart_of : ∀ {l : List Bytes}, List.Pairwise (fun a b : Bytes => a < b) l → apartB l = true
  | [], _ => rfl
  | [_], _ => rfl
  | a :: b :: l, h => by
    have h1 : a < b := (List.pairwise_cons.1 h).1 b (by simp)
    have h2 := apart_of (List.pairwise_cons.1 h).2
    have : (b == a) = false := by simpa using fun e => b_lt_ne h1 e.symm
    simp only [apartB, this, h2]
    rfl
theorem rises_of : ∀ {l : List Bytes}, List.Pairwise (fun a b : Bytes => a < b) l → risesB l = true
  | [], _ => rfl
  | [_], _ => rfl
  | a :: b :: l, h => by
    have h1 : a < b := (List.pairwise_cons.1 h).1 b (by simp)
    have h2 := rises_of (List.pairwise_cons.1 h).2
    simp only [risesB, less_lt, h1, decide_true, h2]
    rfl
theorem of_rises : ∀ {l : List Bytes}, risesB l = true → List.Pairwise (fun a b : Bytes => a < b) l
  | [], _ => .nil
  | [a], _ => by simp
  | a :: b :: l, h => by
    simp only [risesB, less_lt, Bool.and_eq_true, decide_eq_true_eq] at h
    have ih := of_rises h.2
    refine List.pairwise_cons.2 ⟨fun c hc => ?_, ih⟩
    rcases List.mem_cons.1 hc with rfl | hc
    · exact h.1
    · exact b_lt_trans h.1 ((List.pairwise_cons.1 ih).1 c hc)

theorem compact94 (x : Bool) (l : List Bytes) (hL : l.length ≤ 1000000) (ha : apartB l = true) : PureFn Tryz.prog 94 [.vsl 0 x (l.map .str)] (.ret (.vsl 0 false (l.map .str))) := by
  refine PureFn.of Tryz.func94 rfl (enters_call enters Tryz.func94 rfl) (by simp [Tryz.ntmps94]) ?_
  show W Tryz.prog 61 _ none _ _ _
  refine .seq (.region [] (by decide) ?_)
  simp only [EOps, EDf, isRd, gdA, callOf, isPanic, nextOf, altA, evalOp, St.ev, Av.get, St.put, argT, ofV, thenQ, Nat.reduceEqDiff, ↓reduceIte, Bool.and_self, List.map_cons, List.map_nil, List.nil_append, List.append_nil, List.getElem?_cons_zero, List.getElem?_cons_succ, List.getElem?_toArray, Option.map_some, Option.bind_some, decide_true, decide_false, beq_false, beq_true, Bool.not_true, Bool.not_false, Bool.false_eq_true, pickA, cond_true, cond_false]
  refine .seq (.seq (.region [] (by decide) ?_))
  generalize h1 : decide ((l.length : Int) < 2) = b1
  cases b1 with
  | true =>
    simp only [EOps, EDf, isRd, gdA, callOf, isPanic, nextOf, altA, evalOp, St.ev, Av.get, St.put, argT, ofV, thenQ, Nat.reduceEqDiff, ↓reduceIte, Bool.and_self, List.map_cons, List.map_nil, List.nil_append, List.append_nil, List.getElem?_cons_zero, List.getElem?_cons_succ, List.getElem?_toArray, Option.map_some, Option.bind_some, decide_true, decide_false, beq_false, beq_true, Bool.not_true, Bool.not_false, Bool.false_eq_true, pickA, cond_true, cond_false, ln26, b_lss, h1]
    refine .cond (t := true) rfl (.seq (.region [] (by decide) ?_))
    simp only [EOps, EDf, isRd, gdA, callOf, isPanic, nextOf, altA, evalOp, St.ev, Av.get, St.put, argT, ofV, thenQ, Nat.reduceEqDiff, ↓reduceIte, Bool.and_self, List.map_cons, List.map_nil, List.nil_append, List.append_nil, List.getElem?_cons_zero, List.getElem?_cons_succ, List.getElem?_toArray, Option.map_some, Option.bind_some, decide_true, decide_false, beq_false, beq_true, Bool.not_true, Bool.not_false, Bool.false_eq_true, pickA, cond_true, cond_false]
    exact .ret (retT 2 rfl rfl rfl (by simp [Av.get, AV.hf, strs_hfs]) (.exact _ _ _))
  | false =>
    have hl2 : 2 ≤ l.length := by have := of_decide_eq_false h1; omega
    simp only [EOps, EDf, isRd, gdA, callOf, isPanic, nextOf, altA, evalOp, St.ev, Av.get, St.put, argT, ofV, thenQ, Nat.reduceEqDiff, ↓reduceIte, Bool.and_self, List.map_cons, List.map_nil, List.nil_append, List.append_nil, List.getElem?_cons_zero, List.getElem?_cons_succ, List.getElem?_toArray, Option.map_some, Option.bind_some, decide_true, decide_false, beq_false, beq_true, Bool.not_true, Bool.not_false, Bool.false_eq_true, pickA, cond_true, cond_false, ln26, b_lss, h1]
    refine .cond (t := false) rfl (.skip ?_)
    refine .seq (.seq (.region [] (by decide) ?_))
    simp only [EOps, EDf, isRd, gdA, callOf, isPanic, nextOf, altA, evalOp, St.ev, Av.get, St.put, argT, ofV, thenQ, Nat.reduceEqDiff, ↓reduceIte, Bool.and_self, List.map_cons, List.map_nil, List.nil_append, List.append_nil, List.getElem?_cons_zero, List.getElem?_cons_succ, List.getElem?_toArray, Option.map_some, Option.bind_some, decide_true, decide_false, beq_false, beq_true, Bool.not_true, Bool.not_false, Bool.false_eq_true, pickA, cond_true, cond_false]
    refine .block ?_
    refine .forR 3 13 14 15 1 l.length (by simp only [maxLen']; omega) (by omega) rfl rfl rfl rfl rfl rfl rfl rfl rfl (by decide)
      (fun i => [(0, .vsl 0 x (l.map .str))]) (fun _ => rfl) (fun _ => []) (fun _ => Nat.zero_le _) (fun i => 1 ≤ i) rfl (Nat.le_refl _) ?_ ?_ trivial ?_ ?_ ?_
    · simp only [subT, Av.get, Nat.reduceEqDiff, ↓reduceIte, Le_rfl, nat0, nat1, and_self]
    · intro i _
      simp only [hltT, AV.hlt, AV.hlts, strs_hlts, Bool.and_self, Bool.and_true, Bool.true_and]
    · intro i hi hok
      refine .region [] (by decide) ?_
      simp only [EOps, EDf, isRd, gdA, callOf, isPanic, nextOf, altA, evalOp, St.ev, Av.get, St.put, argT, ofV, thenQ, Nat.reduceEqDiff, ↓reduceIte, Bool.and_self, List.map_cons, List.map_nil, List.nil_append, List.append_nil, List.getElem?_cons_zero, List.getElem?_cons_succ, List.getElem?_toArray, Option.map_some, Option.bind_some, decide_true, decide_false, beq_false, beq_true, Bool.not_true, Bool.not_false, Bool.false_eq_true, pickA, cond_true, cond_false, ln26, b_lss, dlt]
      refine ⟨trivial, ?_, trivial, trivial⟩
      simp only [subT, Av.get, Nat.reduceEqDiff, ↓reduceIte, Le_rfl, nat0, nat1, and_self]
    · intro i hi hok
      obtain ⟨j, rfl⟩ : ∃ j, i = j + 1 := ⟨i - 1, by omega⟩
      obtain ⟨v, hv, _⟩ := drop_at hi
      obtain ⟨u, hu, _⟩ := drop_at (l := l) (i := j) (by omega)
      have hne := apart_at l j u v ha hu hv
      have hsub : evBin Tryz.prog .sub 3 (.int .i64 ((j + 1 : Nat) : Int)) (.int .i64 1) = some (.int .i64 (j : Int)) := by
        rw [b_sub64 _ _ (by omega)]; simp
      refine .block (.seq (.drawf [] mixed (by kernel_rfl) (by kernel_rfl) (by kernel_rfl) ?_))
      simp only [EOps, EDf, isRd, gdA, callOf, isPanic, nextOf, altA, evalOp, St.ev, Av.get, St.put, argT, ofV, thenQ, Nat.reduceEqDiff, ↓reduceIte, lend, AV.hfs, AV.hf, Bool.and_self, List.map_cons, List.map_nil, List.nil_append, List.append_nil, List.getElem?_cons_zero, List.getElem?_cons_succ, List.getElem?_toArray, Option.map_some, Option.bind_some, decide_true, decide_false, beq_false, beq_true, Bool.not_true, Bool.not_false, Bool.false_eq_true, pickA, cond_true, cond_false, hsub, ia26 _ _ _ _ hu, ia26 _ _ _ _ hv, ld9v, s_eql, hne]
      refine .cond (t := false) rfl (.skip ?_)
      refine ⟨by omega, ?_, trivial, rfl⟩
      simp only [subT, Av.get, Nat.reduceEqDiff, ↓reduceIte, Le_rfl, nat0, nat1, and_self]
    · intro hok
      simp only [EOps, EDf, isRd, gdA, callOf, isPanic, nextOf, altA, evalOp, St.ev, Av.get, St.put, argT, ofV, thenQ, Nat.reduceEqDiff, ↓reduceIte, Bool.and_self, List.map_cons, List.map_nil, List.nil_append, List.append_nil, List.getElem?_cons_zero, List.getElem?_cons_succ, List.getElem?_toArray, Option.map_some, Option.bind_some, decide_true, decide_false, beq_false, beq_true, Bool.not_true, Bool.not_false, Bool.false_eq_true, pickA, cond_true, cond_false, blockQ]
      refine .seq (.region [] (by decide) ?_)
      simp only [EOps, EDf, isRd, gdA, callOf, isPanic, nextOf, altA, evalOp, St.ev, Av.get, St.put, argT, ofV, thenQ, Nat.reduceEqDiff, ↓reduceIte, Bool.and_self, List.map_cons, List.map_nil, List.nil_append, List.append_nil, List.getElem?_cons_zero, List.getElem?_cons_succ, List.getElem?_toArray, Option.map_some, Option.bind_some, decide_true, decide_false, beq_false, beq_true, Bool.not_true, Bool.not_false, Bool.false_eq_true, pickA, cond_true, cond_false]
      exact .ret (retT 2 rfl rfl rfl (by simp [Av.get, AV.hf, strs_hfs]) (.exact _ _ _))

theorem ordered69v (x : Bool) (l : List Bytes) (hL : l.length ≤ 1000000) (ha : apartB (sortB l) = true) : PureFn Tryz.prog 69 [.func (.func 102) [] [.vptr [.vsl 0 x (l.map .str)]]] (.ret (.vsl 0 false ((sortB l).map .str))) := by
  refine PureFn.of Tryz.func69 rfl (enters_call enters Tryz.func69 rfl) (by simp [Tryz.ntmps69]) ?_
  show W Tryz.prog 6 _ none _ _ _
  have hsl : (sortB l).length = l.length := (List.mergeSort_perm l _).length_eq
  refine .seq (.region [] (by decide) ?_)
  simp only [EOps, EDf, isRd, gdA, callOf, isPanic, nextOf, altA, evalOp, St.ev, Av.get, St.put, argT, ofV, thenQ, Nat.reduceEqDiff, ↓reduceIte, Bool.and_self, List.map_cons, List.map_nil, List.nil_append, List.append_nil, List.getElem?_cons_zero, List.getElem?_cons_succ, List.getElem?_toArray, Option.map_some, Option.bind_some, decide_true, decide_false, beq_false, beq_true, Bool.not_true, Bool.not_false, Bool.false_eq_true, pickA, cond_true, cond_false]
  have hl1 : ∀ H o, lend H [.func (.func 102) [] [.vptr [.vsl 0 x (l.map .str)]]] o = some [.func (.func 102) [] [.vptr [.vsl 0 x (l.map .str)]]] := by intro H o; simp [lend, AV.hfs, AV.hf, strs_hfs]
  have hl2 : ∀ H o, lend H [.vsl 0 false ((sortB l).map .str)] o = some [.vsl 0 false ((sortB l).map .str)] := by intro H o; simp [lend, AV.hfs, AV.hf, strs_hfs]
  refine .seq (.region [.pure (.ret (.vsl 0 false ((sortB l).map .str))), .pure (.ret (.vsl 0 false ((sortB l).map .str)))] (by decide) ?_)
  simp only [EOps, EDf, isRd, gdA, callOf, isPanic, nextOf, altA, evalOp, St.ev, Av.get, St.put, argT, ofV, thenQ, Nat.reduceEqDiff, ↓reduceIte, Bool.and_self, List.map_cons, List.map_nil, List.nil_append, List.append_nil, List.getElem?_cons_zero, List.getElem?_cons_succ, List.getElem?_toArray, Option.map_some, Option.bind_some, decide_true, decide_false, beq_false, beq_true, Bool.not_true, Bool.not_false, Bool.false_eq_true, pickA, cond_true, cond_false, hl1, hl2]
  refine ⟨sorted95v x l hL, compact94 false (sortB l) (by omega) ha, ?_⟩
  exact .ret (retT 2 rfl rfl rfl (by simp [Av.get, AV.hf, strs_hfs]) (.refl _))

theorem sorted95k (l : List Bytes) (vs : List AV) (hlen : vs.length = l.length) (hL : l.length ≤ 1000000) (hne : l ≠ []) :
    PureFn Tryz.prog 95 [.func (.func 96) [] [.vptr [.vmap (l.map .str) vs]]] (.ret (.vsl 0 false ((sortB l).map .str))) := by
  refine K.sorted69 l vs (sortB l) hlen hL hne (List.mergeSort_perm l _).length_eq ?_
  intro p hp
  obtain ⟨q, rfl, hq⟩ := perm_strs hp
  have hql : q.length = l.length := hq.length_eq
  have hs := sort112 (H := [.cells (q.map .str) true]) (d := 0) (l := q) (opn := true) rfl (by omega)
  simp only [List.set_cons_zero, sortB_perm hq] at hs
  rw [List.length_map]
  exact hs

theorem ordered69k (l : List Bytes) (vs : List AV) (hlen : vs.length = l.length) (hL : l.length ≤ 1000000) (hne : l ≠ []) (hvs : AV.hfs vs = true) (ha : apartB (sortB l) = true) :
    PureFn Tryz.prog 69 [.func (.func 96) [] [.vptr [.vmap (l.map .str) vs]]] (.ret (.vsl 0 false ((sortB l).map .str))) := by
  refine PureFn.of Tryz.func69 rfl (enters_call enters Tryz.func69 rfl) (by simp [Tryz.ntmps69]) ?_
  show W Tryz.prog 6 _ none _ _ _
  have hsl : (sortB l).length = l.length := (List.mergeSort_perm l _).length_eq
  refine .seq (.region [] (by decide) ?_)
  simp only [EOps, EDf, isRd, gdA, callOf, isPanic, nextOf, altA, evalOp, St.ev, Av.get, St.put, argT, ofV, thenQ, Nat.reduceEqDiff, ↓reduceIte, Bool.and_self, List.map_cons, List.map_nil, List.nil_append, List.append_nil, List.getElem?_cons_zero, List.getElem?_cons_succ, List.getElem?_toArray, Option.map_some, Option.bind_some, decide_true, decide_false, beq_false, beq_true, Bool.not_true, Bool.not_false, Bool.false_eq_true, pickA, cond_true, cond_false]
  have hl1 : ∀ H o, lend H [.func (.func 96) [] [.vptr [.vmap (l.map .str) vs]]] o = some [.func (.func 96) [] [.vptr [.vmap (l.map .str) vs]]] := by intro H o; simp [lend, AV.hfs, AV.hf, strs_hfs, hvs]
  have hl2 : ∀ H o, lend H [.vsl 0 false ((sortB l).map .str)] o = some [.vsl 0 false ((sortB l).map .str)] := by intro H o; simp [lend, AV.hfs, AV.hf, strs_hfs]
  refine .seq (.region [.pure (.ret (.vsl 0 false ((sortB l).map .str))), .pure (.ret (.vsl 0 false ((sortB l).map .str)))] (by decide) ?_)
  simp only [EOps, EDf, isRd, gdA, callOf, isPanic, nextOf, altA, evalOp, St.ev, Av.get, St.put, argT, ofV, thenQ, Nat.reduceEqDiff, ↓reduceIte, Bool.and_self, List.map_cons, List.map_nil, List.nil_append, List.append_nil, List.getElem?_cons_zero, List.getElem?_cons_succ, List.getElem?_toArray, Option.map_some, Option.bind_some, decide_true, decide_false, beq_false, beq_true, Bool.not_true, Bool.not_false, Bool.false_eq_true, pickA, cond_true, cond_false, hl1, hl2]
  refine ⟨sorted95k l vs hlen hL hne, compact94 false (sortB l) (by omega) ha, ?_⟩
  exact .ret (retT 2 rfl rfl rfl (by simp [Av.get, AV.hf, strs_hfs]) (.refl _))
end Go.Proofs.YtmeijkidjifagaaGreat
namespace Go.Proofs.YtmeijkidjifagaaGreat
set_option linter.unusedVariables false
set_option linter.unusedSimpArgs false
open Go Go.Av

theorem find_none (n : Bytes) : ∀ (ks : List Bytes) (i : Nat), n ∉ ks → findA .string (.str n) (ks.map .str) i = some none
  | [], _, _ => rfl
  | k :: ks, i, h => by
    have h1 : n ≠ k := fun e => h (by simp [e])
    simp only [List.map_cons, findA, keyEq]
    have : (n == k) = false := by simpa using h1
    rw [this]
    exact find_none n ks (i + 1) fun hm => h (List.mem_cons_of_mem _ hm)
theorem find_some (n : Bytes) : ∀ (ks : List Bytes) (i j : Nat), ks.Nodup → ks[j]? = some n → findA .string (.str n) (ks.map .str) i = some (some (i + j))
  | [], _, j, _, h => by simp at h
  | k :: ks, i, 0, _, h => by
    simp at h; subst h
    simp only [List.map_cons, findA, keyEq, beq_self_eq_true]
    rfl
  | k :: ks, i, j + 1, hn, h => by
    have hn' := List.nodup_cons.1 hn
    have hm : n ∈ ks := List.mem_of_getElem? (by simpa using h)
    have h1 : (n == k) = false := by simpa using fun e : n = k => hn'.1 (e ▸ hm)
    simp only [List.map_cons, findA, keyEq, h1]
    rw [find_some n ks (i + 1) j hn'.2 (by simpa using h)]
    congr 2; omega

abbrev Tab := List (Bytes × List Bytes)
/-- A value of a table: texts, in memory that stays, or in memory of one's own. -/
def valIn (M : List OB) (v : AV) (l : List Bytes) : Prop := (∃ x, v = .vsl 0 x (l.map .str)) ∨ (∃ d, v = .sl d 0 l.length 0 ∧ M[d]? = some (.cells (l.map .str) true))
/-- A table in memory. -/
def tabOK (M : List OB) (id : Nat) (t : Tab) : Prop := ∃ vs : List AV, M[id]? = some (.map ((t.map (·.1)).map .str) vs) ∧ vs.length = t.length ∧ ∀ (j : Nat) (p : Bytes × List Bytes), t[j]? = some p → ∃ v, vs[j]? = some v ∧ valIn M v p.2
theorem valIn_keep {M M' : List OB} {v : AV} {l : List Bytes} (h : valIn M v l) (hk : ∀ (d : Nat) (cs : List AV) (b : Bool), M[d]? = some (OB.cells cs b) → M'[d]? = M[d]?) : valIn M' v l := by
  rcases h with h | ⟨d, hv, hd⟩
  · exact .inl h
  · exact .inr ⟨d, hv, by rw [hk d _ _ hd]; exact hd⟩

theorem ul86 : Tryz.prog.underlying 86 = some (.map 9 26) := Tryz.underlying86
theorem za26 : zeroA Tryz.prog 26 = some (.vsl 0 true []) := by kernel_rfl
theorem lk86_none (M : List OB) (id : Nat) (ks : List Bytes) (vs : List AV) (n : Bytes) (h : M[id]? = some (.map (ks.map .str) vs)) (hn : n ∉ ks) : evLookup Tryz.prog 86 (.map id) (.str n) false M = some (.vsl 0 true []) := by
  simp [evLookup, ul86, Tryz.underlying9, za26, keyD, h, find_none n ks 0 hn]
theorem mu86_new (M : List OB) (id : Nat) (ks : List Bytes) (vs : List AV) (n : Bytes) (v : AV) (h : M[id]? = some (.map (ks.map .str) vs)) (hn : n ∉ ks) : evMapUpdate Tryz.prog 86 (.map id) (.str n) v M = some (M.set id (.map ((ks ++ [n]).map .str) (vs ++ [v]))) := by
  simp [evMapUpdate, ul86, Tryz.underlying9, keyD, h, find_none n ks 0 hn]
theorem mu86_old (M : List OB) (id : Nat) (ks : List Bytes) (vs : List AV) (n : Bytes) (v : AV) (j : Nat) (h : M[id]? = some (.map (ks.map .str) vs)) (hd : ks.Nodup) (hj : ks[j]? = some n) : evMapUpdate Tryz.prog 86 (.map id) (.str n) v M = some (M.set id (.map (ks.map .str) (vs.set j v))) := by
  have := find_some n ks 0 j hd hj
  simp only [Nat.zero_add] at this
  simp [evMapUpdate, ul86, Tryz.underlying9, keyD, h, this]

theorem ap26v (x : Bool) (l : List Bytes) (M : List OB) (hb : l.length ≤ 1000000) : ∃ v X, evAppend Tryz.prog 26 26 (.vsl 0 true []) (.vsl 0 x (l.map .str)) M = some (v, M ++ X) ∧ valIn (M ++ X) v l ∧ X.length ≤ 1 := by
  cases l with
  | nil => exact ⟨.vsl 0 true [], [], by rw [List.append_nil]; exact ap26_0 x M, .inl ⟨true, rfl⟩, by simp⟩
  | cons u l =>
    exact ⟨_, _, ap26_n x (u :: l) M (by simp) hb, .inr ⟨M.length, rfl, by simp⟩, by simp⟩

theorem ln22 (x : Bool) (e : List Atr) (H : List OB) : evLen Tryz.prog 22 (.vsl 3 x (e.map encE)) H = some (.int .i64 e.length) := by simp [evLen, Tryz.underlying22]
theorem ia22 (x : Bool) (e : List Atr) (i : Nat) (a : Atr) (h : e[i]? = some a) (H : List OB) : evIndexAddr Tryz.prog 22 (.vsl 3 x (e.map encE)) (.int .i64 (i : Int)) H = some (.vptr (encE a).cells) := by
  have h1 : (e.map encE)[i]? = some (encE a) := by simp [h]
  have := shp_len (encE_shp a)
  simp [evIndexAddr, idx_nat, Tryz.underlying22, tz53, h1, this]
def tabE (e : List Atr) : Tab := e.map fun a => (a.1, a.2.2)

set_option maxRecDepth 100000 in
theorem tabled63 (x : Bool) (e : List Atr) (H : List OB) (he : e.length ≤ 1000000) (hb : ∀ a ∈ e, a.2.2.length ≤ 1000000) (hs : ∀ a ∈ e, small a.1 = a.1) (hn : (e.map (·.1)).Nodup) :
    ShFnS Tryz.prog 63 [.vsl 3 x (e.map encE)] H (fun out K => out = .ret (.map H.length) ∧ H.length < K.length ∧ (∀ i, i < H.length → K[i]? = H[i]?) ∧ tabOK K H.length (tabE e)) := by
  refine ShFnS.ofX Tryz.func63 rfl (enters_call enters Tryz.func63 rfl) (by simp [Tryz.ntmps63]) ?_
  show W Tryz.prog 27 _ none _ _ _
  refine .seq (.region [] (by decide) ?_)
  simp only [EOps, EDf, isRd, gdA, callOf, isPanic, nextOf, altA, evalOp, St.ev, Av.get, St.put, argT, ofV, thenQ, Nat.reduceEqDiff, ↓reduceIte, Bool.and_self, List.map_cons, List.map_nil, List.nil_append, List.append_nil, List.getElem?_cons_zero, List.getElem?_cons_succ, List.getElem?_toArray, Option.map_some, Option.bind_some, decide_true, decide_false, beq_false, beq_true, Bool.not_true, Bool.not_false, Bool.false_eq_true, pickA, cond_true, cond_false]
  refine .seq (.region [] (by decide) ?_)
  simp only [EOps, EDf, isRd, gdA, callOf, isPanic, nextOf, altA, evalOp, St.ev, Av.get, St.put, argT, ofV, thenQ, Nat.reduceEqDiff, ↓reduceIte, Bool.and_self, List.map_cons, List.map_nil, List.nil_append, List.append_nil, List.getElem?_cons_zero, List.getElem?_cons_succ, List.getElem?_toArray, Option.map_some, Option.bind_some, decide_true, decide_false, beq_false, beq_true, Bool.not_true, Bool.not_false, Bool.false_eq_true, pickA, cond_true, cond_false, evMakeMap]
  refine .seq (.seq (.region [] (by decide) ?_))
  simp only [EOps, EDf, isRd, gdA, callOf, isPanic, nextOf, altA, evalOp, St.ev, Av.get, St.put, argT, ofV, thenQ, Nat.reduceEqDiff, ↓reduceIte, Bool.and_self, List.map_cons, List.map_nil, List.nil_append, List.append_nil, List.getElem?_cons_zero, List.getElem?_cons_succ, List.getElem?_toArray, Option.map_some, Option.bind_some, decide_true, decide_false, beq_false, beq_true, Bool.not_true, Bool.not_false, Bool.false_eq_true, pickA, cond_true, cond_false, ln22]
  refine .block ?_
  have hg0 : (H ++ [OB.map [] []])[H.length]? = some (.map [] []) := by rw [List.getElem?_concat_length]
  refine .loop (X := Nat) (fun i a => Av.get a.T 3 = .map H.length ∧ Av.get a.T 8 = .vsl 3 x (e.map encE) ∧ Av.get a.T 9 = .int .i64 e.length ∧ Av.get a.T 10 = .int .i64 (i : Int) ∧ i ≤ e.length ∧
      H.length < a.H.length ∧ (∀ k, k < H.length → a.H[k]? = H[k]?) ∧ tabOK a.H H.length ((tabE e).take i) ∧ a.D = []) (fun i => e.length - i) 0
      ⟨rfl, rfl, rfl, rfl, Nat.zero_le _, by simp, fun k hk => List.getElem?_append_left hk, ⟨[], hg0, rfl, by simp⟩, rfl⟩ ?_
  rintro i ⟨T, K, D⟩ ⟨h3, h8, h9, h10, hi, hlt, hkeep, htab, rfl⟩
  simp only at h3 h8 h9 h10 hlt hkeep htab
  refine .seq (.region [] (by decide) ?_)
  simp only [EOps, EDf, isRd, gdA, callOf, isPanic, nextOf, altA, evalOp, St.ev, Av.get, St.put, argT, ofV, thenQ, Nat.reduceEqDiff, ↓reduceIte, Bool.and_self, List.map_cons, List.map_nil, List.nil_append, List.append_nil, List.getElem?_cons_zero, List.getElem?_cons_succ, List.getElem?_toArray, Option.map_some, Option.bind_some, decide_true, decide_false, beq_false, beq_true, Bool.not_true, Bool.not_false, Bool.false_eq_true, pickA, cond_true, cond_false, h3, h8, h9, h10, b_lss, dlt]
  by_cases h : i < e.length
  · obtain ⟨a, ha, hdrop⟩ := drop_at h
    have hmem : a ∈ e := List.mem_of_getElem? ha
    have hsm := hs a hmem
    have htake : (tabE e).take (i + 1) = (tabE e).take i ++ [(a.1, a.2.2)] := by
      rw [List.take_add_one]; simp [tabE, ha]
    have hfresh : a.1 ∉ ((tabE e).take i).map (·.1) := by
      intro hm
      obtain ⟨p, hp, hpe⟩ := List.mem_map.1 hm
      obtain ⟨j, hj⟩ := List.mem_iff_getElem?.1 hp
      rw [List.getElem?_take] at hj
      split at hj
      · rename_i hji
        have h1 : (e.map (·.1))[j]? = some a.1 := by
          simp only [tabE, List.getElem?_map, Option.map_eq_some_iff] at hj ⊢
          obtain ⟨b, hb, rfl⟩ := hj
          exact ⟨b, hb, hpe⟩
        have h2 : (e.map (·.1))[i]? = some a.1 := by simp [ha]
        have := (List.getElem?_inj (by simp; omega) hn).1 (h1.trans h2.symm)
        omega
      · cases hj
    obtain ⟨vs, hm, hvl, hvs⟩ := htab
    refine .seq (.cond (t := true) (by simp [St.ev, Av.get, h]) (.skip ?_))
    simp only [thenQ]
    have hst : evStore Tryz.prog 53 (.ptr K.length 0) (encE a) (K ++ [.cells [.str [], .vsl 0 true []] false]) = some (K ++ [acell a]) := by
      rw [st53 a _ _ _ _ (by rw [List.getElem?_concat_length])]
      congr 1
      rw [List.set_append_right _ _ (Nat.le_refl _), Nat.sub_self]
      rfl
    refine .seq (.block (.seq (.region [] (by decide) ?_)))
    simp only [EOps, EDf, isRd, gdA, callOf, isPanic, nextOf, altA, evalOp, St.ev, Av.get, St.put, argT, ofV, thenQ, Nat.reduceEqDiff, ↓reduceIte, Bool.and_self, List.map_cons, List.map_nil, List.nil_append, List.append_nil, List.getElem?_cons_zero, List.getElem?_cons_succ, List.getElem?_toArray, Option.map_some, Option.bind_some, decide_true, decide_false, beq_false, beq_true, Bool.not_true, Bool.not_false, Bool.false_eq_true, pickA, cond_true, cond_false, h3, h8, h9, h10, ia22 _ _ _ _ ha, ld53, za53, cells_agg, hst]
    obtain ⟨M, hM⟩ : ∃ M, M = K ++ [acell a] := ⟨_, rfl⟩
    rw [← hM]
    have lM : M.length = K.length + 1 := by rw [hM]; simp
    have gM : ∀ d, d < K.length → M[d]? = K[d]? := fun d hd => by rw [hM, List.getElem?_append_left hd]
    have gMa : M[K.length]? = some (acell a) := by rw [hM, List.getElem?_concat_length]
    have l0 : evLoad Tryz.prog 9 (.ptr K.length 0) M = some (.str a.1) := ld9 _ _ _ _ _ _ gMa rfl
    have l1 : evLoad Tryz.prog 26 (.ptr K.length 1) M = some (.vsl 0 a.2.1 (a.2.2.map .str)) := ld26 _ _ _ _ _ _ gMa rfl
    have hl : ∀ H o, lend H [.str a.1] o = some [.str a.1] := by intro H o; simp [lend, AV.hfs, AV.hf]
    have hmM : M[H.length]? = some (.map ((((tabE e).take i).map (·.1)).map .str) vs) := by rw [gM _ hlt]; exact hm
    have p1 := small46 a.1
    rw [hsm] at p1
    refine .seq (.region [.pure (.ret (.str a.1))] (by decide) ?_)
    simp only [EOps, EDf, isRd, gdA, callOf, isPanic, nextOf, altA, evalOp, St.ev, Av.get, St.put, argT, ofV, thenQ, Nat.reduceEqDiff, ↓reduceIte, Bool.and_self, List.map_cons, List.map_nil, List.nil_append, List.append_nil, List.getElem?_cons_zero, List.getElem?_cons_succ, List.getElem?_toArray, Option.map_some, Option.bind_some, decide_true, decide_false, beq_false, beq_true, Bool.not_true, Bool.not_false, Bool.false_eq_true, pickA, cond_true, cond_false, h3, h8, h9, h10, fa53_0, l0, hl]
    refine ⟨p1, ?_⟩
    obtain ⟨v, X, hap, hval, hX⟩ := ap26v a.2.1 a.2.2 M (hb a hmem)
    have hmX : (M ++ X)[H.length]? = some (.map ((((tabE e).take i).map (·.1)).map .str) vs) := by rw [List.getElem?_append_left (by omega)]; exact hmM
    have hup := mu86_new (M ++ X) H.length _ vs a.1 v hmX hfresh
    refine .region [] (by decide) ?_
    simp only [EOps, EDf, isRd, gdA, callOf, isPanic, nextOf, altA, evalOp, St.ev, Av.get, St.put, argT, ofV, thenQ, Nat.reduceEqDiff, ↓reduceIte, Bool.and_self, List.map_cons, List.map_nil, List.nil_append, List.append_nil, List.getElem?_cons_zero, List.getElem?_cons_succ, List.getElem?_toArray, Option.map_some, Option.bind_some, decide_true, decide_false, beq_false, beq_true, Bool.not_true, Bool.not_false, Bool.false_eq_true, pickA, cond_true, cond_false, h3, h8, h9, h10, lk86_none M H.length _ vs a.1 hmM hfresh, fa53_1, l1, hap, hup, blockQ]
    have hadd : evBin Tryz.prog .add 3 (.int .i64 (i : Int)) (.int .i64 1) = some (.int .i64 ((i + 1 : Nat) : Int)) := by
      rw [b_add64 _ _ (by omega)]; simp
    refine .region [] (by decide) ?_
    simp only [EOps, EDf, isRd, gdA, callOf, isPanic, nextOf, altA, evalOp, St.ev, Av.get, St.put, argT, ofV, thenQ, Nat.reduceEqDiff, ↓reduceIte, Bool.and_self, List.map_cons, List.map_nil, List.nil_append, List.append_nil, List.getElem?_cons_zero, List.getElem?_cons_succ, List.getElem?_toArray, Option.map_some, Option.bind_some, decide_true, decide_false, beq_false, beq_true, Bool.not_true, Bool.not_false, Bool.false_eq_true, pickA, cond_true, cond_false, h3, h8, h9, h10, hadd]
    refine ⟨i + 1, ⟨trivial, trivial, trivial, rfl, h, ?_, ?_, ?_, trivial⟩, by omega⟩
    · rw [List.length_set, List.length_append]; omega
    · intro k hk
      rw [List.getElem?_set, if_neg (by omega), List.getElem?_append_left (by omega), gM k (by omega)]
      exact hkeep k hk
    · have hcell : ∀ (d : Nat) (cs : List AV) (b : Bool), (M ++ X)[d]? = some (OB.cells cs b) → ((M ++ X).set H.length (OB.map (((((tabE e).take i).map (·.1)) ++ [a.1]).map .str) (vs ++ [v])))[d]? = (M ++ X)[d]? := by
        intro d cs b hd
        rw [List.getElem?_set, if_neg]
        rintro rfl
        rw [hmX] at hd; cases hd
      refine ⟨vs ++ [v], ?_, ?_, ?_⟩
      · rw [List.getElem?_set_self (by rw [List.length_append]; omega), htake]
        simp
      · rw [htake]; simp [hvl]
      · intro j p hp
        rw [htake] at hp
        rcases Nat.lt_or_ge j ((tabE e).take i).length with hj | hj
        · rw [List.getElem?_append_left hj] at hp
          obtain ⟨u, hu, huv⟩ := hvs j p hp
          refine ⟨u, by rw [List.getElem?_append_left (by rw [hvl]; exact hj)]; exact hu, valIn_keep (valIn_keep (valIn_keep huv (M' := M) ?_) (M' := M ++ X) ?_) hcell⟩
          · intro d cs b hd; exact gM d (List.getElem?_eq_some_iff.1 hd).1
          · intro d cs b hd; exact List.getElem?_append_left (List.getElem?_eq_some_iff.1 hd).1
        · rw [List.getElem?_append_right hj] at hp
          have hj0 : j - ((tabE e).take i).length = 0 := by
            have := (List.getElem?_eq_some_iff.1 hp).1; simp at this ⊢; omega
          rw [hj0] at hp
          simp at hp; subst hp
          refine ⟨v, ?_, valIn_keep hval hcell⟩
          rw [List.getElem?_append_right (by rw [hvl]; exact hj), hvl, hj0]; rfl
  · have hi' : i = e.length := by omega
    subst hi'
    refine .seq (.cond (t := false) (by simp [St.ev, Av.get]) (.exit ?_))
    simp only [EOps, EDf, isRd, gdA, callOf, isPanic, nextOf, altA, evalOp, St.ev, Av.get, St.put, argT, ofV, thenQ, Nat.reduceEqDiff, ↓reduceIte, Bool.and_self, List.map_cons, List.map_nil, List.nil_append, List.append_nil, List.getElem?_cons_zero, List.getElem?_cons_succ, List.getElem?_toArray, Option.map_some, Option.bind_some, decide_true, decide_false, beq_false, beq_true, Bool.not_true, Bool.not_false, Bool.false_eq_true, pickA, cond_true, cond_false, blockQ]
    refine .seq (.region [] (by decide) ?_)
    simp only [EOps, EDf, isRd, gdA, callOf, isPanic, nextOf, altA, evalOp, St.ev, Av.get, St.put, argT, ofV, thenQ, Nat.reduceEqDiff, ↓reduceIte, Bool.and_self, List.map_cons, List.map_nil, List.nil_append, List.append_nil, List.getElem?_cons_zero, List.getElem?_cons_succ, List.getElem?_toArray, Option.map_some, Option.bind_some, decide_true, decide_false, beq_false, beq_true, Bool.not_true, Bool.not_false, Bool.false_eq_true, pickA, cond_true, cond_false, h3]
    have htk : (tabE e).take e.length = tabE e := List.take_of_length_le (by simp [tabE])
    rw [htk] at htab
    exact .ret ⟨_, K, ⟨rfl, hlt, hkeep, htab⟩, _, rfl, rfl, _, rfl, rfl⟩
end Go.Proofs.YtmeijkidjifagaaGreat
namespace Go.Proofs.YtmeijkidjifagaaGreat
set_option linter.unusedVariables false
set_option linter.unusedSimpArgs false
open Go Go.Av

theorem replace91 (H H' : List OB) (id : Nat) (n : Bytes) (x : Bool) (l : List Bytes) (hl : l.length ≤ 1000000) (h : evMapUpdate Tryz.prog 86 (.map id) (.str n) (.vsl 0 false (l.map .str)) H = some H') :
    ShFn Tryz.prog 91 [.map id, .str n, .vsl 0 x (l.map .str)] H (.ret (.int .i64 0)) H' := by
  refine ShFnS.one (ShFnS.ofX Tryz.func91 rfl (enters_call enters Tryz.func91 rfl) (by simp [Tryz.ntmps91]) ?_)
  show W Tryz.prog 11 _ none _ _ _
  refine .seq (.region [] (by decide) ?_)
  simp only [EOps, EDf, isRd, gdA, callOf, isPanic, nextOf, altA, evalOp, St.ev, Av.get, St.put, argT, ofV, thenQ, Nat.reduceEqDiff, ↓reduceIte, Bool.and_self, List.map_cons, List.map_nil, List.nil_append, List.append_nil, List.getElem?_cons_zero, List.getElem?_cons_succ, List.getElem?_toArray, Option.map_some, Option.bind_some, decide_true, decide_false, beq_false, beq_true, Bool.not_true, Bool.not_false, Bool.false_eq_true, pickA, cond_true, cond_false]
  have hl1 : ∀ H o, lend H [.vsl 0 x (l.map .str)] o = some [.vsl 0 x (l.map .str)] := by intro H o; simp [lend, AV.hfs, AV.hf, strs_hfs]
  refine .seq (.region [.pure (.ret (.vsl 0 false (l.map .str)))] (by decide) ?_)
  simp only [EOps, EDf, isRd, gdA, callOf, isPanic, nextOf, altA, evalOp, St.ev, Av.get, St.put, argT, ofV, thenQ, Nat.reduceEqDiff, ↓reduceIte, Bool.and_self, List.map_cons, List.map_nil, List.nil_append, List.append_nil, List.getElem?_cons_zero, List.getElem?_cons_succ, List.getElem?_toArray, Option.map_some, Option.bind_some, decide_true, decide_false, beq_false, beq_true, Bool.not_true, Bool.not_false, Bool.false_eq_true, pickA, cond_true, cond_false, hl1, h]
  refine ⟨clone50 x l hl, ?_⟩
  refine .seq (.region [] (by decide) ?_)
  simp only [EOps, EDf, isRd, gdA, callOf, isPanic, nextOf, altA, evalOp, St.ev, Av.get, St.put, argT, ofV, thenQ, Nat.reduceEqDiff, ↓reduceIte, Bool.and_self, List.map_cons, List.map_nil, List.nil_append, List.append_nil, List.getElem?_cons_zero, List.getElem?_cons_succ, List.getElem?_toArray, Option.map_some, Option.bind_some, decide_true, decide_false, beq_false, beq_true, Bool.not_true, Bool.not_false, Bool.false_eq_true, pickA, cond_true, cond_false]
  exact .ret ⟨_, _, ⟨rfl, rfl⟩, _, rfl, rfl, _, rfl, rfl⟩

theorem keys70p (ks vs : List AV) (hk : AV.hfs ks = true) (hv : AV.hfs vs = true) : PureFn Tryz.prog 70 [.vmap ks vs] (.ret (.func (.func 96) [] [.vptr [.vmap ks vs]])) := by
  refine PureFn.of Tryz.func70 rfl (enters_call enters Tryz.func70 rfl) (by simp [Tryz.ntmps70]) ?_
  show W Tryz.prog 4 _ none _ _ _
  have hcl : AV.cells (.vmap ks vs) = [.vmap ks vs] := rfl
  have ht : AV.told (.vmap ks vs) = true := rfl
  refine .seq (.region [] (by decide) ?_)
  simp only [EOps, EDf, isRd, gdA, callOf, isPanic, nextOf, altA, evalOp, St.ev, Av.get, St.put, argT, ofV, thenQ, Nat.reduceEqDiff, ↓reduceIte, Bool.and_self, List.map_cons, List.map_nil, List.nil_append, List.append_nil, List.getElem?_cons_zero, List.getElem?_cons_succ, List.getElem?_toArray, Option.map_some, Option.bind_some, decide_true, decide_false, beq_false, beq_true, Bool.not_true, Bool.not_false, Bool.false_eq_true, pickA, cond_true, cond_false, ht, if_true, hcl, List.length_nil]
  refine .seq (.region [] (by decide) ?_)
  simp only [EOps, EDf, isRd, gdA, callOf, isPanic, nextOf, altA, evalOp, St.ev, Av.get, St.put, argT, ofV, thenQ, Nat.reduceEqDiff, ↓reduceIte, Bool.and_self, List.map_cons, List.map_nil, List.nil_append, List.append_nil, List.getElem?_cons_zero, List.getElem?_cons_succ, List.getElem?_toArray, Option.map_some, Option.bind_some, decide_true, decide_false, beq_false, beq_true, Bool.not_true, Bool.not_false, Bool.false_eq_true, pickA, cond_true, cond_false]
  have hh : AV.hf (.vmap ks vs) = true := by simp [AV.hf, hk, hv]
  have hz : fz [.cells [.vmap ks vs] false] 20 (.func (.func 96) [] [.ptr 0 0]) = some (.func (.func 96) [] [.vptr [.vmap ks vs]]) := by
    have h1 : fz [.cells [.vmap ks vs] false] 19 (.ptr 0 0) = some (.vptr [.vmap ks vs]) := by
      unfold fz
      rw [if_neg (by simp [AV.hf])]
      simp [AV.hfs, hh]
    unfold fz
    rw [if_neg (by simp [AV.hf, AV.hfs])]
    simp [AV.hfs, AV.hf, h1]
  exact .ret (retF 2 rfl rfl rfl hz (.refl _))

def lookT (t : Tab) (n : Bytes) : List Bytes := match t.find? (fun p => p.1 == n) with
  | some p => p.2
  | none => []
theorem lookT_at {t : Tab} (hn : (t.map (·.1)).Nodup) {j : Nat} {p : Bytes × List Bytes} (h : t[j]? = some p) : lookT t p.1 = p.2 := by
  induction t generalizing j with
  | nil => simp at h
  | cons q t ih =>
    rw [List.map_cons, List.nodup_cons] at hn
    unfold lookT
    rw [List.find?_cons]
    cases j with
    | zero => simp at h; subst h; simp
    | succ j =>
      have hp : t[j]? = some p := by simpa using h
      have hne : (q.1 == p.1) = false := by
        simpa using fun e : q.1 = p.1 => hn.1 (e ▸ List.mem_map.2 ⟨p, List.mem_of_getElem? hp, rfl⟩)
      rw [hne]
      exact ih hn.2 hp
def entA (t : Tab) (n : Bytes) : Option Atr := if sortB (lookT t n) = [] then none else some (n, false, sortB (lookT t n))
def entT (t : Tab) (i : Nat) : List Atr := ((sortB (t.map (·.1))).take i).filterMap (entA t)
def entryT (t : Tab) : List Atr := (sortB (t.map (·.1))).filterMap (entA t)
theorem entT_succ (t : Tab) (i : Nat) (n : Bytes) (h : (sortB (t.map (·.1)))[i]? = some n) : entT t (i + 1) = match entA t n with | none => entT t i | some a => entT t i ++ [a] := by
  unfold entT
  rw [List.take_add_one, h, List.filterMap_append]
  cases h2 : entA t n <;> simp [h2]
theorem entT_len (t : Tab) (i : Nat) : (entT t i).length ≤ i := by
  have := List.length_filterMap_le (entA t) ((sortB (t.map (·.1))).take i)
  simp at this
  unfold entT; omega
theorem ap53 : apT Tryz.prog 53 = some (2, 3, 40) := by kernel_rfl
theorem bs23 (a : Atr) : evBuildSlice Tryz.prog 23 1 [(0, encE a)] = some (.vsl 3 true [encE a]) := by
  simp [evBuildSlice, Tryz.underlying23, ap53, encE, AV.cells, AV.told, List.range']
theorem bd53 (n : Bytes) (v : AV) (hv : v.one = true) (ht : v.told = true) : evBuild Tryz.prog 53 [(0, .str n), (1, v)] = some (.agg [.str n, v]) := by
  cases v <;> first | (cases hv; done) | (cases ht; done) | kernel_rfl
theorem ap23 (R : List Atr) (a : Atr) (hb : R.length ≤ 1000000) : evAppend Tryz.prog 23 23 (growW 0 0 3 R) (.vsl 3 true [encE a]) (grow [] encE R) = some (growW 0 0 3 (R ++ [a]), grow [] encE (R ++ [a])) :=
  growW_app (wd := 3) (bytes := 40) Tryz.underlying23 ap53 [] encE (fun _ => rfl) (fun _ => rfl) (by decide) 0 R a true (by omega)
theorem lk86_vmap (ks : List Bytes) (vs : List AV) (hn : ks.Nodup) (j : Nat) (n : Bytes) (v : AV) (hj : ks[j]? = some n) (hv : vs[j]? = some v) (M : List OB) : evLookup Tryz.prog 86 (.vmap (ks.map .str) vs) (.str n) false M = some v := by
  have := find_some n ks 0 j hn hj
  simp only [Nat.zero_add] at this
  simp [evLookup, ul86, Tryz.underlying9, za26, keyD, this, hv]
theorem retF2 {P : Program} {rs : List ResultVar} {a : St} {v v' v'' u : AV} (s t : Nat) (hr : rs = [.tmp s, .tmp t]) (hD : a.D = []) (hs : Av.get a.T s = v) (ht : Av.get a.T t = u) (hz : fz a.H 19 v = some v') (hu : u.hf = true) (hl : Le v' v'') : retQ P rs (.ret (.tup [v'', u])) .ret a := by
  obtain ⟨T, H, D⟩ := a
  simp only at hD hs ht hz
  subst hD; subst hr; subst hs; subst ht
  refine ⟨⟨T, H, []⟩, rfl, .tup [v', Av.get T t], ?_, .tup _ _ (.cons _ _ _ _ hl (.cons _ _ _ _ (.refl _) .nil))⟩
  show fz H 20 (.tup [Av.get T s, Av.get T t]) = _
  unfold fz
  by_cases hh : (AV.tup [Av.get T s, Av.get T t]).hf = true
  · rw [if_pos hh]
    simp only [AV.hf, AV.hfs, Bool.and_true, Bool.and_eq_true] at hh
    have := fz_hf (H := H) (k := 18) hh.1
    rw [this] at hz; cases hz; rfl
  · rw [if_neg hh]
    have hh' : AV.hfs [Av.get T s, Av.get T t] = false := by simpa [AV.hf] using hh
    have hu2 := fz_hf (H := H) (k := 18) hu
    simp [hh', hz, hu2]

/-- What entry.entry answers. -/
def outE (r : List Atr) : Out := if decide ((r.length : Int) > 24) = true then .ret (.tup [.vsl 3 false [], .int .i64 3]) else .ret (.tup [.vsl 3 false (r.map encE), .int .i64 0])
noncomputable def cd62 : Code := match Tryz.f62.body with
  | some (.seq _ (.scope c)) => c
  | _ => .skip
noncomputable def lb62 : Code := match findLabel cd62 0 with
  | some r => r
  | none => .skip

set_option maxRecDepth 100000 in
theorem entry62 (t : Tab) (vs : List AV) (hn : (t.map (·.1)).Nodup) (hL : t.length ≤ 1000000) (hne : t ≠ []) (hvl : vs.length = t.length)
    (hvs : ∀ (j : Nat) (p : Bytes × List Bytes), t[j]? = some p → ∃ x, vs[j]? = some (.vsl 0 x (p.2.map .str)))
    (hap : ∀ p ∈ t, apartB (sortB p.2) = true ∧ p.2.length ≤ 16) :
    PureFn Tryz.prog 62 [.vmap ((t.map (·.1)).map .str) vs] (outE (entryT t)) := by
  have hkl : (t.map (·.1)).length = t.length := by simp
  have hsp : (sortB (t.map (·.1))).Perm (t.map (·.1)) := sortB_isPerm _
  have hsl : (sortB (t.map (·.1))).length = t.length := by rw [hsp.length_eq, hkl]
  have hvh : AV.hfs vs = true := by
    rw [hfs_all, List.all_eq_true]
    intro v hv
    obtain ⟨j, hj⟩ := List.mem_iff_getElem?.1 hv
    have hjl : j < t.length := by rw [← hvl]; exact (List.getElem?_eq_some_iff.1 hj).1
    obtain ⟨x, hx⟩ := hvs j t[j] (List.getElem?_eq_getElem hjl)
    rw [hj] at hx; cases hx
    simp [AV.hf, strs_hfs]
  have hkh := strs_hfs (t.map (·.1))
  have hkne : t.map (·.1) ≠ [] := by simpa using hne
  have hap1 : apartB (sortB (t.map (·.1))) = true := apart_of (sortB_rises hn)
  have hord := ordered69k (t.map (·.1)) vs (by rw [hvl, hkl]) (by rw [hkl]; exact hL) hkne hvh hap1
  generalize hks : t.map (·.1) = ks at *
  generalize hsk : sortB ks = sk at *
  refine PureFn.of Tryz.func62 rfl (enters_call enters Tryz.func62 rfl) (by simp [Tryz.ntmps62]) ?_
  show W Tryz.prog 37 _ none _ _ _
  refine .seq (.region [] (by decide) ?_)
  simp only [EOps, EDf, isRd, gdA, callOf, isPanic, nextOf, altA, evalOp, St.ev, Av.get, St.put, argT, ofV, thenQ, Nat.reduceEqDiff, ↓reduceIte, Bool.and_self, List.map_cons, List.map_nil, List.nil_append, List.append_nil, List.getElem?_cons_zero, List.getElem?_cons_succ, List.getElem?_toArray, Option.map_some, Option.bind_some, decide_true, decide_false, beq_false, beq_true, Bool.not_true, Bool.not_false, Bool.false_eq_true, pickA, cond_true, cond_false, and_self, if_true]
  show W Tryz.prog 37 0 none (.scope cd62) _ _
  refine W.scope (rest := lb62) 0 rfl ?_
  show W Tryz.prog 37 0 none (.seq (.seq (.region 1 _ _) _) _) _ _
  have hl1 : ∀ H o, lend H [.vmap (ks.map .str) vs] o = some [.vmap (ks.map .str) vs] := by intro H o; simp [lend, AV.hfs, AV.hf, hkh, hvh]
  have hl2 : ∀ H o, lend H [.func (.func 96) [] [.vptr [.vmap (ks.map .str) vs]]] o = some [.func (.func 96) [] [.vptr [.vmap (ks.map .str) vs]]] := by intro H o; simp [lend, AV.hfs, AV.hf, hkh, hvh]
  refine .seq (.seq (.region [.pure (.ret (.func (.func 96) [] [.vptr [.vmap (ks.map .str) vs]])), .pure (.ret (.vsl 0 false (sk.map .str)))] (by decide) ?_))
  simp only [EOps, EDf, isRd, gdA, callOf, isPanic, nextOf, altA, evalOp, St.ev, Av.get, St.put, argT, ofV, thenQ, Nat.reduceEqDiff, ↓reduceIte, Bool.and_self, List.map_cons, List.map_nil, List.nil_append, List.append_nil, List.getElem?_cons_zero, List.getElem?_cons_succ, List.getElem?_toArray, Option.map_some, Option.bind_some, decide_true, decide_false, beq_false, beq_true, Bool.not_true, Bool.not_false, Bool.false_eq_true, pickA, cond_true, cond_false, hl1, hl2, ln26]
  refine ⟨keys70p _ _ hkh hvh, hord, ?_⟩
  refine .block ?_
  have hH : ∀ m R, (grow [] encE R).all (OB.hlt m) = true := fun m R => grow_hlt rfl (fun a => by simp [encE, AV.cells, AV.hlts, AV.hlt, strs_hlts]) R
  refine .forG 11 10 12 32 sk.length (by simp only [maxLen']; omega) rfl rfl rfl rfl rfl rfl rfl rfl rfl (by decide) (by decide) (by decide)
    (fun i => [(2, growW 0 0 3 (entT t i)), (9, .vsl 0 false (sk.map .str)), (0, .vmap (ks.map .str) vs)]) (fun _ => rfl) (fun i => grow [] encE (entT t i)) (fun _ => Nat.zero_le _) (fun i => True) rfl trivial ?_ ?_ trivial ?_ ?_
  · have h0 : entT t 0 = [] := by simp [entT]
    simp only [h0, growW]
    simp only [subT, Av.get, Nat.reduceEqDiff, ↓reduceIte, Le_rfl, nat0, nat1, and_self]
  · intro i _
    have h1 : (growW 0 0 3 (entT t i)).hlt (grow [] encE (entT t i)).length = true := growW_hlt _ (by rw [grow_len]; simp)
    simp only [hltT, AV.hlt, AV.hlts, strs_hlts, Bool.and_self, Bool.and_true, Bool.true_and, h1, hfs_hlts hkh, hfs_hlts hvh]
  · intro i hi _
    obtain ⟨n, hnn, _⟩ := drop_at hi
    have hmemk : n ∈ ks := by rw [← hsk] at hnn; exact (sortB_isPerm ks).mem_iff.1 (List.mem_of_getElem? hnn)
    obtain ⟨j, hj⟩ := List.mem_iff_getElem?.1 hmemk
    obtain ⟨p, hp, hpn⟩ : ∃ p, t[j]? = some p ∧ p.1 = n := by
      rw [← hks, List.getElem?_map, Option.map_eq_some_iff] at hj; exact hj
    obtain ⟨fl, hv⟩ := hvs j p hp
    have hlook : lookT t n = p.2 := by rw [← hpn]; exact lookT_at (by rw [hks]; exact hn) hp
    obtain ⟨happ, hp16⟩ := hap p (List.mem_of_getElem? hp)
    have hpl : (sortB p.2).length = p.2.length := (sortB_isPerm p.2).length_eq
    have hsucc := entT_succ t i n (by rw [hks, hsk]; exact hnn)
    have hent : entA t n = if sortB p.2 = [] then none else some (n, false, sortB p.2) := by unfold entA; rw [hlook]
    have hR : (entT t i).length ≤ 1000000 := by have := entT_len t i; omega
    generalize entT t i = R at hsucc hR
    have hl3 : ∀ H o, lend H [.vsl 0 fl (p.2.map .str)] o = some [.vsl 0 fl (p.2.map .str)] := by intro H o; simp [lend, AV.hfs, AV.hf, strs_hfs]
    have hl4 : ∀ H o, lend H [.func (.func 102) [] [.vptr [.vsl 0 fl (p.2.map .str)]]] o = some [.func (.func 102) [] [.vptr [.vsl 0 fl (p.2.map .str)]]] := by intro H o; simp [lend, AV.hfs, AV.hf, strs_hfs]
    have hlk : ∀ M, evLookup Tryz.prog 86 (.vmap (ks.map .str) vs) (.str n) false M = some (.vsl 0 fl (p.2.map .str)) := fun M => lk86_vmap ks vs hn j n _ hj hv M
    have p1 := values84 fl p.2
    have p2 := ordered69v fl p.2 (by omega) happ
    refine .block (.seq (.region [] (by decide) ?_))
    simp only [EOps, EDf, isRd, gdA, callOf, isPanic, nextOf, altA, evalOp, St.ev, Av.get, St.put, argT, ofV, thenQ, Nat.reduceEqDiff, ↓reduceIte, Bool.and_self, List.map_cons, List.map_nil, List.nil_append, List.append_nil, List.getElem?_cons_zero, List.getElem?_cons_succ, List.getElem?_toArray, Option.map_some, Option.bind_some, decide_true, decide_false, beq_false, beq_true, Bool.not_true, Bool.not_false, Bool.false_eq_true, pickA, cond_true, cond_false, ia26 _ _ _ _ hnn, ld9v]
    refine .seq (.region [.pure (.ret (.func (.func 102) [] [.vptr [.vsl 0 fl (p.2.map .str)]])), .pure (.ret (.vsl 0 false ((sortB p.2).map .str)))] (by decide) ?_)
    simp only [EOps, EDf, isRd, gdA, callOf, isPanic, nextOf, altA, evalOp, St.ev, Av.get, St.put, argT, ofV, thenQ, Nat.reduceEqDiff, ↓reduceIte, Bool.and_self, List.map_cons, List.map_nil, List.nil_append, List.append_nil, List.getElem?_cons_zero, List.getElem?_cons_succ, List.getElem?_toArray, Option.map_some, Option.bind_some, decide_true, decide_false, beq_false, beq_true, Bool.not_true, Bool.not_false, Bool.false_eq_true, pickA, cond_true, cond_false, hlk, hl3, hl4]
    refine ⟨p1, p2, ?_⟩
    generalize sortB p.2 = q at hent hpl
    have h16 : decide ((q.length : Int) > 16) = false := decide_eq_false (by omega)
    refine .seq (.seq (.region [] (by decide) ?_))
    simp only [EOps, EDf, isRd, gdA, callOf, isPanic, nextOf, altA, evalOp, St.ev, Av.get, St.put, argT, ofV, thenQ, Nat.reduceEqDiff, ↓reduceIte, Bool.and_self, List.map_cons, List.map_nil, List.nil_append, List.append_nil, List.getElem?_cons_zero, List.getElem?_cons_succ, List.getElem?_toArray, Option.map_some, Option.bind_some, decide_true, decide_false, beq_false, beq_true, Bool.not_true, Bool.not_false, Bool.false_eq_true, pickA, cond_true, cond_false, ln26, b_gtr, h16]
    refine .cond (t := false) rfl (.skip ?_)
    simp only [EOps, EDf, isRd, gdA, callOf, isPanic, nextOf, altA, evalOp, St.ev, Av.get, St.put, argT, ofV, thenQ, Nat.reduceEqDiff, ↓reduceIte, Bool.and_self, List.map_cons, List.map_nil, List.nil_append, List.append_nil, List.getElem?_cons_zero, List.getElem?_cons_succ, List.getElem?_toArray, Option.map_some, Option.bind_some, decide_true, decide_false, beq_false, beq_true, Bool.not_true, Bool.not_false, Bool.false_eq_true, pickA, cond_true, cond_false]
    refine .seq (.region [] (by decide) ?_)
    cases q with
    | nil =>
      have h0 : decide ((([] : List Bytes).length : Int) > 0) = false := rfl
      have hnil : ∀ H, evLen Tryz.prog 26 (.vsl 0 false (([] : List Bytes).map .str)) H = some (.int .i64 ([] : List Bytes).length) := fun H => ln26 _ _ _
      simp only [EOps, EDf, isRd, gdA, callOf, isPanic, nextOf, altA, evalOp, St.ev, Av.get, St.put, argT, ofV, thenQ, Nat.reduceEqDiff, ↓reduceIte, Bool.and_self, List.map_cons, List.map_nil, List.nil_append, List.append_nil, List.getElem?_cons_zero, List.getElem?_cons_succ, List.getElem?_toArray, Option.map_some, Option.bind_some, decide_true, decide_false, beq_false, beq_true, Bool.not_true, Bool.not_false, Bool.false_eq_true, pickA, cond_true, cond_false, hnil, b_gtr, h0]
      refine .cond (t := false) rfl (.skip ?_)
      rw [if_pos rfl] at hent
      rw [hent] at hsucc
      rw [hsucc]
      refine ⟨trivial, ?_, subH_self (hH _ _), rfl⟩
      simp only [subT, Av.get, Nat.reduceEqDiff, ↓reduceIte, Le_rfl, nat0, nat1, and_self]
    | cons b q =>
      have h0 : decide (((b :: q).length : Int) > 0) = true := decide_eq_true (by simp)
      have hcon : ∀ H, evLen Tryz.prog 26 (.vsl 0 false ((b :: q).map .str)) H = some (.int .i64 (b :: q).length) := fun H => ln26 _ _ _
      generalize hbq : b :: q = w at hent hpl h0 hcon h16
      have hwne : w ≠ [] := by rw [← hbq]; simp
      rw [if_neg hwne] at hent
      rw [hent] at hsucc
      simp only [EOps, EDf, isRd, gdA, callOf, isPanic, nextOf, altA, evalOp, St.ev, Av.get, St.put, argT, ofV, thenQ, Nat.reduceEqDiff, ↓reduceIte, Bool.and_self, List.map_cons, List.map_nil, List.nil_append, List.append_nil, List.getElem?_cons_zero, List.getElem?_cons_succ, List.getElem?_toArray, Option.map_some, Option.bind_some, decide_true, decide_false, beq_false, beq_true, Bool.not_true, Bool.not_false, Bool.false_eq_true, pickA, cond_true, cond_false, hcon, b_gtr, h0]
      refine .cond (t := true) rfl (.region [] (by decide) ?_)
      have hbd : evBuild Tryz.prog 53 [(0, .str n), (1, .vsl 0 false (w.map .str))] = some (encE (n, false, w)) := bd53 n (.vsl 0 false (w.map .str)) rfl rfl
      simp only [EOps, EDf, isRd, gdA, callOf, isPanic, nextOf, altA, evalOp, St.ev, Av.get, St.put, argT, ofV, thenQ, Nat.reduceEqDiff, ↓reduceIte, Bool.and_self, List.map_cons, List.map_nil, List.nil_append, List.append_nil, List.getElem?_cons_zero, List.getElem?_cons_succ, List.getElem?_toArray, Option.map_some, Option.bind_some, decide_true, decide_false, beq_false, beq_true, Bool.not_true, Bool.not_false, Bool.false_eq_true, pickA, cond_true, cond_false, hbd, bs23, ap23 R (n, false, w) hR]
      rw [hsucc]
      refine ⟨trivial, ?_, subH_self (hH _ _), rfl⟩
      simp only [subT, Av.get, Nat.reduceEqDiff, ↓reduceIte, Le_rfl, nat0, nat1, and_self]
  · intro _
    have hall : entT t sk.length = entryT t := by
      unfold entT entryT; rw [hks, hsk, List.take_length]
    rw [hall]
    generalize hr : entryT t = r
    have hrl : ∀ M, evLen Tryz.prog 23 (growW 0 0 3 r) M = some (.int .i64 r.length) := by
      intro M; cases r <;> simp [growW, evLen, Tryz.underlying23]
    simp only [EOps, EDf, isRd, gdA, callOf, isPanic, nextOf, altA, evalOp, St.ev, Av.get, St.put, argT, ofV, thenQ, Nat.reduceEqDiff, ↓reduceIte, Bool.and_self, List.map_cons, List.map_nil, List.nil_append, List.append_nil, List.getElem?_cons_zero, List.getElem?_cons_succ, List.getElem?_toArray, Option.map_some, Option.bind_some, decide_true, decide_false, beq_false, beq_true, Bool.not_true, Bool.not_false, Bool.false_eq_true, pickA, cond_true, cond_false, blockQ]
    unfold outE
    generalize h24 : decide ((r.length : Int) > 24) = b24
    refine .seq (.seq (.region [] (by decide) ?_))
    simp only [EOps, EDf, isRd, gdA, callOf, isPanic, nextOf, altA, evalOp, St.ev, Av.get, St.put, argT, ofV, thenQ, Nat.reduceEqDiff, ↓reduceIte, Bool.and_self, List.map_cons, List.map_nil, List.nil_append, List.append_nil, List.getElem?_cons_zero, List.getElem?_cons_succ, List.getElem?_toArray, Option.map_some, Option.bind_some, decide_true, decide_false, beq_false, beq_true, Bool.not_true, Bool.not_false, Bool.false_eq_true, pickA, cond_true, cond_false, hrl, b_gtr, h24]
    cases b24 with
    | true =>
      refine .cond (t := true) rfl (.goto ?_)
      refine ⟨rfl, ?_⟩
      show W Tryz.prog 37 0 none (.seq .skip (.seq (.region 11 _ _) _)) _ _
      refine .seq (.skip ?_)
      refine .seq (.region [] (by decide) ?_)
      simp only [EOps, EDf, isRd, gdA, callOf, isPanic, nextOf, altA, evalOp, St.ev, Av.get, St.put, argT, ofV, thenQ, Nat.reduceEqDiff, ↓reduceIte, Bool.and_self, List.map_cons, List.map_nil, List.nil_append, List.append_nil, List.getElem?_cons_zero, List.getElem?_cons_succ, List.getElem?_toArray, Option.map_some, Option.bind_some, decide_true, decide_false, beq_false, beq_true, Bool.not_true, Bool.not_false, Bool.false_eq_true, pickA, cond_true, cond_false, and_self, if_true]
      exact .ret (retF2 2 3 rfl rfl rfl rfl rfl rfl (.nil _ _ _))
    | false =>
      refine .cond (t := false) rfl (.skip ?_)
      refine .seq (.seq (.region [] (by decide) ?_))
      simp only [EOps, EDf, isRd, gdA, callOf, isPanic, nextOf, altA, evalOp, St.ev, Av.get, St.put, argT, ofV, thenQ, Nat.reduceEqDiff, ↓reduceIte, Bool.and_self, List.map_cons, List.map_nil, List.nil_append, List.append_nil, List.getElem?_cons_zero, List.getElem?_cons_succ, List.getElem?_toArray, Option.map_some, Option.bind_some, decide_true, decide_false, beq_false, beq_true, Bool.not_true, Bool.not_false, Bool.false_eq_true, pickA, cond_true, cond_false]
      obtain ⟨u, hz, hle⟩ := slIn_fz (n := 2) (k := 18) (f := encE) (by decide) (fun (a : Atr) => ⟨[.str a.1, .vsl 0 a.2.1 (a.2.2.map .str)], rfl, rfl⟩) (fun (a : Atr) => by show AV.hfs [.str a.1, .vsl 0 a.2.1 (a.2.2.map .str)] = true; simp [AV.hfs, AV.hf, strs_hfs]) (growW_slIn [] encE 0 3 r)
      exact .ret (retF2 2 3 rfl rfl rfl rfl hz rfl hle)
end Go.Proofs.YtmeijkidjifagaaGreat
