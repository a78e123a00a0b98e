/- Contracts of functions that the statements of this seat reach: under the conditions named at each theorem. -/
import Derived.Test.YtmeijkidjifagaaGreatSrP6
import Derived.Test.YtmeijkidjifagaaGreatSvP6
import Derived.Shelf.Sort.Plain
import Derived.Test.YtmeijkidjifagaaGreatProg
namespace Go.Proofs
set_option linter.unusedVariables false
set_option linter.unusedSimpArgs false
open Go.Shelf
def Tryz.lays190_ren : Go.Shelf.Ren := ⟨fun | 190 => 112 | 125 => 120 | 258 => 119 | 128 => 131 | 129 => 132 | 302 => 122 | 303 => 123 | 304 => 124 | 305 => 125 | 306 => 126 | 307 => 127 | 308 => 128 | 309 => 129 | 310 => 130 | 333 => 133 | 329 => 134 | 330 => 135 | 334 => 136 | 335 => 137 | 336 => 138 | 344 => 139 | n => n, fun | 31 => 26 | 9 => 9 | 3 => 3 | 46 => 130 | 0 => 0 | 51 => 142 | 53 => 144 | 4 => 4 | 183 => 134 | 182 => 133 | 131 => 139 | 5 => 5 | 218 => 145 | 222 => 149 | 228 => 151 | 229 => 152 | n => n, fun | n => n⟩
theorem Tryz.lays190 : Go.Proofs.Lays.n190 Tryz.prog Tryz.lays190_ren := {
  mixed := by kernel_rfl
  f125 := Tryz.func120.trans (congrArg some (by kernel_rfl))
  f128 := Tryz.func131.trans (congrArg some (by kernel_rfl))
  f129 := Tryz.func132.trans (congrArg some (by kernel_rfl))
  f190 := Tryz.func112.trans (congrArg some (by kernel_rfl))
  f258 := Tryz.func119.trans (congrArg some (by kernel_rfl))
  f302 := Tryz.func122.trans (congrArg some (by kernel_rfl))
  f303 := Tryz.func123.trans (congrArg some (by kernel_rfl))
  f304 := Tryz.func124.trans (congrArg some (by kernel_rfl))
  f305 := Tryz.func125.trans (congrArg some (by kernel_rfl))
  f306 := Tryz.func126.trans (congrArg some (by kernel_rfl))
  f307 := Tryz.func127.trans (congrArg some (by kernel_rfl))
  f308 := Tryz.func128.trans (congrArg some (by kernel_rfl))
  f309 := Tryz.func129.trans (congrArg some (by kernel_rfl))
  f310 := Tryz.func130.trans (congrArg some (by kernel_rfl))
  f329 := Tryz.func134.trans (congrArg some (by kernel_rfl))
  f330 := Tryz.func135.trans (congrArg some (by kernel_rfl))
  f333 := Tryz.func133.trans (congrArg some (by kernel_rfl))
  f334 := Tryz.func136.trans (congrArg some (by kernel_rfl))
  f335 := Tryz.func137.trans (congrArg some (by kernel_rfl))
  f336 := Tryz.func138.trans (congrArg some (by kernel_rfl))
  f344 := Tryz.func139.trans (congrArg some (by kernel_rfl))
  t0 := Tryz.underlying0
  a0 := Tryz.isAgg0
  z0 := Tryz.sizeOf0
  v0 := Tryz.zeroValue0
  t3 := Tryz.underlying3
  a3 := Tryz.isAgg3
  z3 := Tryz.sizeOf3
  v3 := Tryz.zeroValue3
  t4 := Tryz.underlying4
  a4 := Tryz.isAgg4
  z4 := Tryz.sizeOf4
  v4 := Tryz.zeroValue4
  t5 := Tryz.underlying5
  a5 := Tryz.isAgg5
  z5 := Tryz.sizeOf5
  v5 := Tryz.zeroValue5
  t9 := Tryz.underlying9
  a9 := Tryz.isAgg9
  z9 := Tryz.sizeOf9
  v9 := Tryz.zeroValue9
  t31 := Tryz.underlying26
  a31 := Tryz.isAgg26
  z31 := Tryz.sizeOf26
  v31 := Tryz.zeroValue26
  t46 := Tryz.underlying130
  a46 := Tryz.isAgg130
  z46 := Tryz.sizeOf130
  v46 := Tryz.zeroValue130
  t51 := Tryz.underlying142
  a51 := Tryz.isAgg142
  z51 := Tryz.sizeOf142
  v51 := Tryz.zeroValue142
  t53 := Tryz.underlying144
  a53 := Tryz.isAgg144
  z53 := Tryz.sizeOf144
  v53 := Tryz.zeroValue144
  t131 := Tryz.underlying139
  a131 := Tryz.isAgg139
  z131 := Tryz.sizeOf139
  v131 := Tryz.zeroValue139
  t182 := Tryz.underlying133
  a182 := Tryz.isAgg133
  z182 := Tryz.sizeOf133
  v182 := Tryz.zeroValue133
  t183 := Tryz.underlying134
  a183 := Tryz.isAgg134
  z183 := Tryz.sizeOf134
  v183 := Tryz.zeroValue134
  t218 := Tryz.underlying145
  a218 := Tryz.isAgg145
  z218 := Tryz.sizeOf145
  v218 := Tryz.zeroValue145
  t222 := Tryz.underlying149
  a222 := Tryz.isAgg149
  z222 := Tryz.sizeOf149
  v222 := Tryz.zeroValue149
  t228 := Tryz.underlying151
  a228 := Tryz.isAgg151
  z228 := Tryz.sizeOf151
  v228 := Tryz.zeroValue151
  t229 := Tryz.underlying152
  a229 := Tryz.isAgg152
  z229 := Tryz.sizeOf152
  v229 := Tryz.zeroValue152 }
open Go.Sort Go.RowKit in
theorem Tryz.slices_Sort_string (blk off cap : Nat) (ss : List (List UInt8)) (w : World) (hH : Holds encStr w blk off ss.toArray) (hblk : blk < w.heap.size) (hsz : ss.length < 4611686018427387904) :
    Calls Tryz.prog 112 #[.slice (some ⟨blk, off, none⟩) ss.length cap] w fun e w' =>
      e = .returned (.tuple #[]) ∧ ∃ n os, w' = grow (putRow encStr (Sort.ahead w n) blk off (ss.mergeSort fun x y => decide (x ≤ y)).toArray) os := Any.slices_Sort_string Tryz.lays190 blk off cap ss w hH hblk hsz
end Go.Proofs
namespace Go.Proofs.YtmeijkidjifagaaGreat
set_option linter.unusedVariables false
set_option linter.unusedSimpArgs false
open Go Go.Av

theorem sort112 {H : List OB} {d : Nat} {l : List Bytes} {opn : Bool} (hd : H[d]? = some (.cells (l.map .str) opn)) (hl : l.length ≤ 1000000) :
    ShFn Tryz.prog 112 [.sl d 0 l.length 0] H (.ret (.tup [])) (H.set d (.cells ((sortB l).map .str) opn)) :=
  sort_sh enters Tryz.func112 rfl (fun blk off cap ss w h1 h2 h3 => Tryz.slices_Sort_string blk off cap ss w h1 h2 h3) hd hl
end Go.Proofs.YtmeijkidjifagaaGreat
namespace Go.Proofs.YtmeijkidjifagaaGreat
set_option linter.unusedVariables false
set_option linter.unusedSimpArgs false
open Go Go.Av

/-- A change that replaces: its name, whether its slice has no room behind, its values. -/
abbrev Mo := Bytes × Bool × List Bytes
def encM (m : Mo) : AV := .agg [.int .i64 3, .str m.1, .vsl 0 m.2.1 (m.2.2.map .str)]
def nameAt (i : Nat) : Bytes := attrNames.getD i []
/-- What an attribute is to have. -/
def wantC (e : List Atr) (c : List Val) (i : Nat) : Bool × List Bytes :=
  if ((i : Int) == 2 && ((fld c i).length : Int) == 0 && decide (((getE e (small (nameAt i))).length : Int) > 0)) = true then (true, [[45]]) else (false, fld c i)
def chgAt (e : List Atr) (c : List Val) (i : Nat) : Option Mo :=
  if getE e (small (nameAt i)) = (wantC e c i).2 then none else some (nameAt i, wantC e c i)
def chgs (e : List Atr) (c : List Val) (n : Nat) : List Mo := (List.range n).filterMap (chgAt e c)
theorem chgs_succ (e : List Atr) (c : List Val) (n : Nat) : chgs e c (n + 1) = match chgAt e c n with | none => chgs e c n | some m => chgs e c n ++ [m] := by
  unfold chgs
  rw [List.range_succ, List.filterMap_append]
  cases h : chgAt e c n <;> simp [h]
theorem chgs_len (e : List Atr) (c : List Val) (n : Nat) : (chgs e c n).length ≤ n := by
  have := List.length_filterMap_le (chgAt e c) (List.range n)
  simpa [chgs] using this

theorem tz23 : tsz Tryz.prog 23 = some 1 := by kernel_rfl
theorem tg23 : tag Tryz.prog 23 = some false := by kernel_rfl
theorem ld23v (v : AV) (H : List OB) : evLoad Tryz.prog 23 (.vptr [v]) H = some v := by simp [evLoad, tz23, tg23, ldA]
theorem ia28v (c : List Val) (i : Nat) (hi : i < 8) (H : List OB) : evIndexAddr Tryz.prog 28 (.vptr (c.map encV)) (.int .i64 (i : Int)) H = some (.vptr ((c.map encV).drop i)) := by
  simp [evIndexAddr, idx_nat, Tryz.underlying28, tz26, hi]
theorem ld26d (c : List Val) (i : Nat) (v : Val) (h : c[i]? = some v) (H : List OB) : evLoad Tryz.prog 26 (.vptr ((c.map encV).drop i)) H = some (encV v) := by
  obtain ⟨u, hu, hd⟩ := drop_at (l := c.map encV) (i := i) (by simpa using (List.getElem?_eq_some_iff.1 h).1)
  rw [hd]
  have : u = encV v := by simp [h] at hu; exact hu.symm
  rw [this]
  simp [evLoad, tz26, tg26, ldA]
theorem bd68 (n : Bytes) (v : Val) : evBuild Tryz.prog 68 [(0, .int .i64 3), (1, .str n), (2, encV v)] = some (.agg [.int .i64 3, .str n, encV v]) := by kernel_rfl

set_option maxRecDepth 100000 in
theorem changes86 (yid : Nat) (x : Bool) (e : List Atr) (c : List Val) (hc : c.length = 8) (hbe : ∀ a ∈ e, a.2.2.length ≤ 1000000) (hbc : ∀ v ∈ c, v.2.length ≤ 1000000) (H : List OB) (J : List Mo → List OB → Prop) (hJ : J [] H)
    (hstep : ∀ s m K, s.length < 8 → J s K → ∃ K', YFn Tryz.prog yid [encM m] K (.ret (.bool true)) K' ∧ J (s ++ [m]) K') :
    ShFnS Tryz.prog 86 [.yld yid, .vptr [.vsl 3 x (e.map encE)], .vptr (c.map encV)] H (fun out K => out = .ret (.tup []) ∧ J (chgs e c 8) K) := by
  refine ShFnS.ofX Tryz.func86 rfl (enters_call enters Tryz.func86 rfl) (by simp [Tryz.ntmps86]) ?_
  show W Tryz.prog 46 _ none _ _ _
  have hl0 : ∀ H o, lend H [] o = some [] := by intro H o; rfl
  refine .seq (.region [.pure (.ret (.agg (attrNames.map .str)))] (by decide) ?_)
  simp only [EOps, EDf, isRd, gdA, callOf, isPanic, nextOf, altA, evalOp, St.ev, Av.get, St.put, argT, ofV, thenQ, Nat.reduceEqDiff, ↓reduceIte, Bool.and_self, List.map_cons, List.map_nil, List.nil_append, List.append_nil, List.getElem?_cons_zero, List.getElem?_cons_succ, List.getElem?_toArray, Option.map_some, Option.bind_some, decide_true, decide_false, beq_false, beq_true, Bool.not_true, Bool.not_false, Bool.false_eq_true, pickA, cond_true, cond_false, hl0]
  refine ⟨attributes25, ?_⟩
  refine .block ?_
  refine .loop (X := Nat) (fun i a => Av.get a.T 0 = .yld yid ∧ Av.get a.T 1 = .vptr [.vsl 3 x (e.map encE)] ∧ Av.get a.T 2 = .vptr (c.map encV) ∧ Av.get a.T 8 = .agg (attrNames.map .str) ∧ Av.get a.T 9 = .int .i64 (i : Int) ∧ J (chgs e c i) a.H ∧ i ≤ 8 ∧ a.D = []) (fun i => 8 - i) 0 ⟨rfl, rfl, rfl, rfl, rfl, hJ, by omega, rfl⟩ ?_
  rintro i ⟨T, K, D⟩ ⟨h0, h1, h2, h8, h9, hK, hi, rfl⟩
  simp only at h0 h1 h2 h8 h9 hK
  have hlt8 : decide ((i : Int) < 8) = decide (i < 8) := dlt i 8
  refine .seq (.region [] (by decide) ?_)
  simp only [EOps, EDf, isRd, gdA, callOf, isPanic, nextOf, altA, evalOp, St.ev, Av.get, St.put, argT, ofV, thenQ, Nat.reduceEqDiff, ↓reduceIte, Bool.and_self, List.map_cons, List.map_nil, List.nil_append, List.append_nil, List.getElem?_cons_zero, List.getElem?_cons_succ, List.getElem?_toArray, Option.map_some, Option.bind_some, decide_true, decide_false, beq_false, beq_true, Bool.not_true, Bool.not_false, Bool.false_eq_true, pickA, cond_true, cond_false, h9, b_lss, hlt8]
  by_cases h : i < 8
  · obtain ⟨n, hn, _⟩ := getC_at e i h
    obtain ⟨v, hv, hfv⟩ := fld_at c i (by omega)
    have hna : nameAt i = n := by simp [nameAt, List.getD, hn]
    have hvb : v.2.length ≤ 1000000 := hbc v (List.mem_of_getElem? hv)
    refine .seq (.cond (t := true) (by simp [St.ev, Av.get, h]) (.skip ?_))
    simp only [thenQ]
    refine .seq (.block (.seq (.region [] (by decide) ?_)))
    simp only [EOps, EDf, isRd, gdA, callOf, isPanic, nextOf, altA, evalOp, St.ev, Av.get, St.put, argT, ofV, thenQ, Nat.reduceEqDiff, ↓reduceIte, Bool.and_self, List.map_cons, List.map_nil, List.nil_append, List.append_nil, List.getElem?_cons_zero, List.getElem?_cons_succ, List.getElem?_toArray, Option.map_some, Option.bind_some, decide_true, decide_false, beq_false, beq_true, Bool.not_true, Bool.not_false, Bool.false_eq_true, pickA, cond_true, cond_false, h0, h1, h2, h8, h9, ix56 i n hn]
    generalize hg : getE e (small n) = g
    have hl1 : ∀ H o, lend H [.vsl 3 x (e.map encE), .str n] o = some [.vsl 3 x (e.map encE), .str n] := by intro H o; simp [lend, AV.hfs, AV.hf, encE_hfs]
    have hl2 : ∀ H o, lend H [encV v] o = some [encV v] := by intro H o; simp [lend, AV.hfs, AV.hf, encV, strs_hfs]
    have p1 := get27 x e n hbe
    rw [hg] at p1
    have p2 : PureFn Tryz.prog 50 [encV v] (.ret (encV (false, v.2))) := clone50 v.1 v.2 hvb
    refine .seq (.drawf [.pure (.ret (encV (false, g))), .pure (.ret (encV (false, v.2)))] mixed (by kernel_rfl) (by kernel_rfl) (by kernel_rfl) ?_)
    simp only [EOps, EDf, isRd, gdA, callOf, isPanic, nextOf, altA, evalOp, St.ev, Av.get, St.put, argT, ofV, thenQ, Nat.reduceEqDiff, ↓reduceIte, Bool.and_self, List.map_cons, List.map_nil, List.nil_append, List.append_nil, List.getElem?_cons_zero, List.getElem?_cons_succ, List.getElem?_toArray, Option.map_some, Option.bind_some, decide_true, decide_false, beq_false, beq_true, Bool.not_true, Bool.not_false, Bool.false_eq_true, pickA, cond_true, cond_false, h0, h1, h2, h8, h9, ld23v, hl1, ia28v c i h, ld26d c i v hv, hl2]
    refine ⟨p1, p2, ?_⟩
    have hch : chgAt e c i = if g = (wantC e c i).2 then none else some (n, wantC e c i) := by unfold chgAt; rw [hna, hg]
    have hw : wantC e c i = if ((i : Int) == 2 && (v.2.length : Int) == 0 && decide ((g.length : Int) > 0)) = true then (true, [[45]]) else (false, v.2) := by unfold wantC; rw [hna, hg, hfv]
    generalize hww : wantC e c i = ww at hch hw
    have hadd : evBin Tryz.prog .add 3 (.int .i64 (i : Int)) (.int .i64 1) = some (.int .i64 ((i + 1 : Nat) : Int)) := by
      rw [b_add64 _ _ (by omega)]; simp
    have hfin : ∀ (T' : List (Nat × AV)) (K' : List OB), Av.get T' 0 = .yld yid → Av.get T' 1 = .vptr [.vsl 3 x (e.map encE)] → Av.get T' 2 = .vptr (c.map encV) → Av.get T' 8 = .agg (attrNames.map .str) → Av.get T' 9 = .int .i64 (i : Int) → J (chgs e c (i + 1)) K' →
        W Tryz.prog 46 H.length none (match Tryz.f86.body with | some (.seq _ (.block _ (.loop (.seq _ (.seq _ (.seq _ r)))))) => r | _ => .skip) (thenQ (fun b => ∃ y : Nat, (Av.get b.T 0 = .yld yid ∧ Av.get b.T 1 = .vptr [.vsl 3 x (e.map encE)] ∧ Av.get b.T 2 = .vptr (c.map encV) ∧ Av.get b.T 8 = .agg (attrNames.map .str) ∧ Av.get b.T 9 = .int .i64 (y : Int) ∧ J (chgs e c y) b.H ∧ y ≤ 8 ∧ b.D = []) ∧ 8 - y < 8 - i) (blockQ 0 (fun ex a => ∃ out H', (out = .ret (.tup []) ∧ J (chgs e c 8) H') ∧ retX Tryz.prog Tryz.f86.results.toList out H' ex a))) ⟨T', K', []⟩ := by
      intro T' K' q0 q1 q2 q8 q9 qJ
      show W Tryz.prog 46 H.length none (.region 7 _ _) _ _
      refine .region [] (by decide) ?_
      simp only [EOps, EDf, isRd, gdA, callOf, isPanic, nextOf, altA, evalOp, St.ev, Av.get, St.put, argT, ofV, thenQ, Nat.reduceEqDiff, ↓reduceIte, Bool.and_self, List.map_cons, List.map_nil, List.nil_append, List.append_nil, List.getElem?_cons_zero, List.getElem?_cons_succ, List.getElem?_toArray, Option.map_some, Option.bind_some, decide_true, decide_false, beq_false, beq_true, Bool.not_true, Bool.not_false, Bool.false_eq_true, pickA, cond_true, cond_false, q9, hadd]
      refine ⟨i + 1, ⟨?_, ?_, ?_, ?_, rfl, qJ, h, trivial⟩, by omega⟩ <;> simp [Av.get, q0, q1, q2, q8]
    refine .seqT [(0, .yld yid), (1, .vptr [.vsl 3 x (e.map encE)]), (2, .vptr (c.map encV)), (8, .agg (attrNames.map .str)), (9, .int .i64 (i : Int)), (5, .str n), (6, encV (false, g)), (7, encV ww)] K ?_ ?_
    · generalize e1 : ((i : Int) == 2) = b1 at hw
      generalize e2 : ((v.2.length : Int) == 0) = b2 at hw
      generalize e3 : decide ((g.length : Int) > 0) = b3 at hw
      have hln1 : ∀ K, evLen Tryz.prog 26 (encV (false, v.2)) K = some (.int .i64 v.2.length) := fun K => ln26 _ _ _
      have hln2 : ∀ K, evLen Tryz.prog 26 (encV (false, g)) K = some (.int .i64 g.length) := fun K => ln26 _ _ _
      refine .seq (.region [] (by decide) ?_)
      have x1 : ({ data := #[45] } : ByteArray).size ≤ maxLen' := by decide
      cases b1 <;> cases b2 <;> cases b3 <;> simp only [EOps, EDf, isRd, gdA, callOf, isPanic, nextOf, altA, evalOp, St.ev, Av.get, St.put, argT, ofV, thenQ, Nat.reduceEqDiff, ↓reduceIte, Bool.and_self, List.map_cons, List.map_nil, List.nil_append, List.append_nil, List.getElem?_cons_zero, List.getElem?_cons_succ, List.getElem?_toArray, Option.map_some, Option.bind_some, decide_true, decide_false, beq_false, beq_true, Bool.not_true, Bool.not_false, Bool.false_eq_true, pickA, cond_true, cond_false, b_eql, b_gtr, e1, e2, e3, hln1, hln2]
      case true.true.true =>
        refine .cond (t := true) rfl (.region [] (by decide) ?_)
        simp only [EOps, EDf, isRd, gdA, callOf, isPanic, nextOf, altA, evalOp, St.ev, Av.get, St.put, argT, ofV, thenQ, Nat.reduceEqDiff, ↓reduceIte, Bool.and_self, List.map_cons, List.map_nil, List.nil_append, List.append_nil, List.getElem?_cons_zero, List.getElem?_cons_succ, List.getElem?_toArray, Option.map_some, Option.bind_some, decide_true, decide_false, beq_false, beq_true, Bool.not_true, Bool.not_false, Bool.false_eq_true, pickA, cond_true, cond_false, x1, if_true, bs26one]
        have : ww = (true, [[45]]) := by rw [hw]; rfl
        rw [this]
        refine ⟨?_, by trivial, by trivial⟩
        simp [holdsT, Av.get, h0, h1, h2, h8, h9, encV]
      all_goals
        refine .cond (t := false) rfl (.skip ?_)
        have : ww = (false, v.2) := by rw [hw]; rfl
        rw [this]
        refine ⟨?_, by trivial, by trivial⟩
        simp [holdsT, Av.get, h0, h1, h2, h8, h9]
    · have p3 : PureFn Tryz.prog 28 [encV (false, g), encV ww] (.ret (.bool (decide (g = ww.2)))) := equal28 false ww.1 g ww.2
      have hl3 : ∀ H o, lend H [encV (false, g), encV ww] o = some [encV (false, g), encV ww] := by intro H o; simp [lend, AV.hfs, AV.hf, encV, strs_hfs]
      by_cases hgw : g = ww.2
      · rw [if_pos hgw] at hch
        rw [decide_eq_true hgw] at p3
        refine .seq (.region [.pure (.ret (.bool true))] (by decide) ?_)
        simp only [EOps, EDf, isRd, gdA, callOf, isPanic, nextOf, altA, evalOp, St.ev, Av.get, St.put, argT, ofV, thenQ, Nat.reduceEqDiff, ↓reduceIte, Bool.and_self, List.map_cons, List.map_nil, List.nil_append, List.append_nil, List.getElem?_cons_zero, List.getElem?_cons_succ, List.getElem?_toArray, Option.map_some, Option.bind_some, decide_true, decide_false, beq_false, beq_true, Bool.not_true, Bool.not_false, Bool.false_eq_true, pickA, cond_true, cond_false, hl3, u_not]
        refine ⟨p3, .cond (t := false) rfl (.skip ?_)⟩
        refine hfin _ K rfl rfl rfl rfl rfl ?_
        rw [chgs_succ, hch]
        exact hK
      · rw [if_neg hgw] at hch
        rw [decide_eq_false hgw] at p3
        obtain ⟨K', hy, hJ'⟩ := hstep (chgs e c i) (n, ww) K (by have := chgs_len e c i; omega) hK
        refine .seq (.region [.pure (.ret (.bool false)), .sh (.ret (.bool true)) K'] (by decide) ?_)
        simp only [EOps, EDf, isRd, gdA, callOf, isPanic, nextOf, altA, evalOp, St.ev, Av.get, St.put, argT, ofV, thenQ, Nat.reduceEqDiff, ↓reduceIte, Bool.and_self, List.map_cons, List.map_nil, List.nil_append, List.append_nil, List.getElem?_cons_zero, List.getElem?_cons_succ, List.getElem?_toArray, Option.map_some, Option.bind_some, decide_true, decide_false, beq_false, beq_true, Bool.not_true, Bool.not_false, Bool.false_eq_true, pickA, cond_true, cond_false, hl3, u_not, bd68, ClOK]
        refine ⟨p3, hy, .cond (t := false) rfl (.skip ?_)⟩
        refine hfin _ K' rfl rfl rfl rfl rfl ?_
        rw [chgs_succ, hch]
        exact hJ'
  · have hi' : i = 8 := by omega
    subst hi'
    refine .seq (.cond (t := false) (by simp [St.ev, Av.get]) (.exit ?_))
    simp only [EOps, EDf, isRd, gdA, callOf, isPanic, nextOf, altA, evalOp, St.ev, Av.get, St.put, argT, ofV, thenQ, Nat.reduceEqDiff, ↓reduceIte, lend, AV.hfs, AV.hf, Bool.and_self, List.map_cons, List.map_nil, List.nil_append, List.append_nil, List.getElem?_cons_zero, List.getElem?_cons_succ, List.getElem?_toArray, Option.map_some, Option.bind_some, decide_true, decide_false, beq_false, beq_true, Bool.not_true, Bool.not_false, Bool.false_eq_true, pickA, cond_true, cond_false, blockQ]
    exact ⟨_, _, ⟨rfl, hK⟩, _, rfl, rfl, _, rfl, rfl⟩
end Go.Proofs.YtmeijkidjifagaaGreat
namespace Go.Proofs.YtmeijkidjifagaaGreat
set_option linter.unusedVariables false
set_option linter.unusedSimpArgs false
open Go Go.Av

theorem changes65 (x : Bool) (e : List Atr) (c : List Val) (hc : c.length = 8) : PureFn Tryz.prog 65 [.vsl 3 x (e.map encE), .agg (c.map encV)] (.ret (.func (.func 86) [] [.vptr [.vsl 3 x (e.map encE)], .vptr (c.map encV)])) := by
  refine PureFn.of Tryz.func65 rfl (enters_call enters Tryz.func65 rfl) (by simp [Tryz.ntmps65]) ?_
  show W Tryz.prog 6 _ none _ _ _
  have ht : (AV.vsl 3 x (e.map encE)).told = true := rfl
  have hcl : AV.cells (.vsl 3 x (e.map encE)) = [.vsl 3 x (e.map encE)] := rfl
  refine .seq (.region [] (by decide) ?_)
  simp only [EOps, EDf, isRd, gdA, callOf, isPanic, nextOf, altA, evalOp, St.ev, Av.get, St.put, argT, ofV, thenQ, Nat.reduceEqDiff, ↓reduceIte, Bool.and_self, List.map_cons, List.map_nil, List.nil_append, List.append_nil, List.getElem?_cons_zero, List.getElem?_cons_succ, List.getElem?_toArray, Option.map_some, Option.bind_some, decide_true, decide_false, beq_false, beq_true, Bool.not_true, Bool.not_false, Bool.false_eq_true, pickA, cond_true, cond_false, ht, hcl, encV_told, if_true, List.length_nil, cells_agg', List.length_singleton, List.length_cons, List.cons_append]
  refine .seq (.region [] (by decide) ?_)
  simp only [EOps, EDf, isRd, gdA, callOf, isPanic, nextOf, altA, evalOp, St.ev, Av.get, St.put, argT, ofV, thenQ, Nat.reduceEqDiff, ↓reduceIte, Bool.and_self, List.map_cons, List.map_nil, List.nil_append, List.append_nil, List.getElem?_cons_zero, List.getElem?_cons_succ, List.getElem?_toArray, Option.map_some, Option.bind_some, decide_true, decide_false, beq_false, beq_true, Bool.not_true, Bool.not_false, Bool.false_eq_true, pickA, cond_true, cond_false]
  have hz : fz [.cells [.vsl 3 x (e.map encE)] false, .cells (c.map encV) false] 20 (.func (.func 86) [] [.ptr 0 0, .ptr 1 0]) = some (.func (.func 86) [] [.vptr [.vsl 3 x (e.map encE)], .vptr (c.map encV)]) := by
    have h0 : fz [.cells [.vsl 3 x (e.map encE)] false, .cells (c.map encV) false] 19 (.ptr 0 0) = some (.vptr [.vsl 3 x (e.map encE)]) := by
      unfold fz
      rw [if_neg (by simp [AV.hf])]
      simp [AV.hfs, AV.hf, encE_hfs]
    have h1 : fz [.cells [.vsl 3 x (e.map encE)] false, .cells (c.map encV) false] 19 (.ptr 1 0) = some (.vptr (c.map encV)) := by
      unfold fz
      rw [if_neg (by simp [AV.hf])]
      simp [encV_hfs]
    unfold fz
    rw [if_neg (by simp [AV.hf, AV.hfs])]
    simp [AV.hfs, AV.hf, h0, h1]
  exact .ret (retF 4 rfl rfl rfl hz (.refl _))

noncomputable def as85 : Code := match Tryz.f85.body with
  | some (.seq _ (.seq (.seq _ (.block _ (.rangeFunc _ _ a _))) _)) => a
  | _ => .skip
noncomputable def bd85 : Code := match Tryz.f85.body with
  | some (.seq _ (.seq (.seq _ (.block _ (.rangeFunc _ _ _ b))) _)) => b
  | _ => .skip
noncomputable def lk85 : LoopK := ⟨13, #[7], as85, bd85, .ready, none⟩
noncomputable def kb85 : LoopK := ⟨13, #[7], as85, bd85, .busy, none⟩
def t85 (g : AV) : List (Nat × AV) := [(6, g), (4, .vsl 0 true []), (2, .ptr 0 0), (0, .vsl 0 true []), (1, g)]
/-- What stands in AppendSeq's memory, so many taken. -/
def J85 (g : AV) (s : List Mo) (K : List OB) : Prop :=
  K[1]? = some .dfr ∧ K[2]? = some (.loop (t85 g) lk85) ∧ ∃ v, K[0]? = some (.cells [v] false) ∧ slIn 4 encM K v s ∧ v.isC = true ∧ ∀ i, i < 3 → v ≠ .sl i 0 s.length 4

theorem tz68 : tsz Tryz.prog 68 = some 3 := by kernel_rfl
theorem tg68 : tag Tryz.prog 68 = some true := by kernel_rfl
theorem za68 : zeroA Tryz.prog 68 = some (.agg [.int .i64 0, .str [], .vsl 0 true []]) := by kernel_rfl
theorem ap68 : apT Tryz.prog 68 = some (3, 4, 48) := by kernel_rfl
theorem tz43 : tsz Tryz.prog 43 = some 1 := by kernel_rfl
theorem tg43 : tag Tryz.prog 43 = some false := by kernel_rfl
def mcell (m : Mo) : List AV := [.int .i64 3, .str m.1, .vsl 0 m.2.1 (m.2.2.map .str)]
theorem encM_cells (m : Mo) : (encM m).cells = mcell m := rfl
theorem st68 (m : Mo) (H : List OB) (id : Nat) (u v w : AV) (h : H[id]? = some (.cells [u, v, w] false)) : evStore Tryz.prog 68 (.ptr id 0) (encM m) H = some (H.set id (.cells (mcell m) false)) := by
  simp [evStore, tz68, h, encM, mcell, AV.cells, AV.isC, setC]
theorem ld68 (m : Mo) (H : List OB) (id : Nat) (b : Bool) (h : H[id]? = some (.cells (mcell m) b)) : evLoad Tryz.prog 68 (.ptr id 0) H = some (encM m) := by
  simp [evLoad, tz68, tg68, ldA, h, mcell, encM]
theorem ld43 (H : List OB) (id : Nat) (v : AV) (b : Bool) (h : H[id]? = some (.cells [v] b)) : evLoad Tryz.prog 43 (.ptr id 0) H = some v := by
  simp [evLoad, tz43, tg43, ldA, h]
theorem st43 (H : List OB) (id : Nat) (u v : AV) (h : H[id]? = some (.cells [u] false)) (hv : v.isC = true) : evStore Tryz.prog 43 (.ptr id 0) v H = some (H.set id (.cells [v] false)) := by
  have hc : v.cells = [v] := one_cells (by cases v <;> first | rfl | cases hv)
  simp [evStore, tz43, h, hc, hv, setC]
theorem bs43 (m : Mo) : evBuildSlice Tryz.prog 43 1 [(0, encM m)] = some (.vsl 4 true [encM m]) := by
  simp [evBuildSlice, Tryz.underlying43, ap68, encM, AV.cells, AV.told, List.range']

set_option maxRecDepth 100000 in
theorem round85 (g : AV) (s : List Mo) (m : Mo) (K : List OB) (hs : s.length < 8) (hJ : J85 g s K) :
    ∃ K', YFn Tryz.prog 2 [encM m] K (.ret (.bool true)) K' ∧ J85 g (s ++ [m]) K' := by
  obtain ⟨h1, h2, v, h0, hin, hvc, hne⟩ := hJ
  have l2 : 2 < K.length := (List.getElem?_eq_some_iff.1 h2).1
  obtain ⟨M, hM⟩ : ∃ M, M = (K ++ [OB.cells (mcell m) false]).set 2 (.loop (t85 g) kb85) := ⟨_, rfl⟩
  have lM : M.length = K.length + 1 := by rw [hM, List.length_set]; simp
  have gM : ∀ i, i < K.length → i ≠ 2 → M[i]? = K[i]? := by
    intro i hi hi2
    rw [hM, List.getElem?_set, if_neg (by omega), List.getElem?_append_left hi]
  have gM2 : M[2]? = some (.loop (t85 g) kb85) := by rw [hM, List.getElem?_set_self (by simp; omega)]
  have gMm : M[K.length]? = some (.cells (mcell m) false) := by
    rw [hM, List.getElem?_set, if_neg (by omega), List.getElem?_concat_length]
  have hin' : slIn 4 encM M v s := by
    rcases hin with h | ⟨d, hv, hd⟩
    · exact .inl h
    · have hdl : d < K.length := (List.getElem?_eq_some_iff.1 hd).1
      have hd2 : d ≠ 2 := by rintro rfl; rw [h2] at hd; cases hd
      exact .inr ⟨d, hv, by rw [gM d hdl hd2]; exact hd⟩
  obtain ⟨M', hap, hl', hnew, hold⟩ := slIn_app (P := Tryz.prog) (sT := 43) (wd := 4) (bytes := 48) Tryz.underlying43 ap68 encM (fun _ => rfl) (fun _ => rfl) (by decide) hin' m true (by omega)
  have o0 : M'[0]? = some (.cells [v] false) := by rw [hold 0 (by omega) (hne 0 (by omega)), gM 0 (by omega) (by omega)]; exact h0
  have o1 : M'[1]? = some .dfr := by rw [hold 1 (by omega) (hne 1 (by omega)), gM 1 (by omega) (by omega)]; exact h1
  have o2 : M'[2]? = some (.loop (t85 g) kb85) := by rw [hold 2 (by omega) (hne 2 (by omega))]; exact gM2
  have k0 : evLoad Tryz.prog 43 (.ptr 0 0) M = some v := ld43 M 0 v false (by rw [gM 0 (by omega) (by omega)]; exact h0)
  have k1 : evLoad Tryz.prog 68 (.ptr K.length 0) M = some (encM m) := ld68 m M K.length false gMm
  have k2 : evStore Tryz.prog 43 (.ptr 0 0) (.sl M.length 0 (s.length + 1) 4) M' = some (M'.set 0 (.cells [.sl M.length 0 (s.length + 1) 4] false)) := st43 M' 0 v _ o0 rfl
  have k3 : evStore Tryz.prog 68 (.ptr K.length 0) (encM m) (K ++ [.cells [.int .i64 0, .str [], .vsl 0 true []] false]) = some (K ++ [.cells (mcell m) false]) := by
    rw [st68 m _ _ _ _ _ (by rw [List.getElem?_concat_length])]
    congr 1
    rw [List.set_append_right _ _ (Nat.le_refl _), Nat.sub_self]
    rfl
  refine ⟨(M'.set 0 (.cells [.sl M.length 0 (s.length + 1) 4] false)).set 2 (.loop (t85 g) lk85), ?_, ?_⟩
  · refine YFn.of h2 (by simp [lk85]) fun l => ?_
    show W Tryz.prog 13 _ _ (.region 2 _ _) _ ⟨(7, encM m) :: t85 g, K, []⟩
    refine .region [] (by decide) ?_
    simp only [EOps, EDf, isRd, gdA, callOf, isPanic, nextOf, altA, evalOp, St.ev, Av.get, St.put, argT, ofV, thenQ, Nat.reduceEqDiff, ↓reduceIte, Bool.and_self, List.map_cons, List.map_nil, List.nil_append, List.append_nil, List.getElem?_cons_zero, List.getElem?_cons_succ, List.getElem?_toArray, Option.map_some, Option.bind_some, decide_true, decide_false, beq_false, beq_true, Bool.not_true, Bool.not_false, Bool.false_eq_true, pickA, cond_true, cond_false, t85, za68, cells_agg', k3]
    refine ⟨t85 g, lk85, by rw [List.getElem?_append_left (by omega)]; exact h2, rfl, ?_⟩
    rw [show ({ lk85 with st := .busy } : LoopK) = kb85 from rfl, ← hM]
    show W Tryz.prog 13 _ _ (.block 1 (.region 3 _ _)) _ _
    refine .block (.region [] (by decide) ?_)
    simp only [EOps, EDf, isRd, gdA, callOf, isPanic, nextOf, altA, evalOp, St.ev, Av.get, St.put, argT, ofV, thenQ, Nat.reduceEqDiff, ↓reduceIte, Bool.and_self, List.map_cons, List.map_nil, List.nil_append, List.append_nil, List.getElem?_cons_zero, List.getElem?_cons_succ, List.getElem?_toArray, Option.map_some, Option.bind_some, decide_true, decide_false, beq_false, beq_true, Bool.not_true, Bool.not_false, Bool.false_eq_true, pickA, cond_true, cond_false, k0, k1, bs43, hap, k2]
    refine ⟨t85 g, kb85, ?_, rfl, rfl⟩
    show (M'.set 0 _)[2]? = _
    rw [List.getElem?_set, if_neg (by decide)]; exact o2
  · have q : ∀ i, i ≠ 0 → i ≠ 2 → ((M'.set 0 (.cells [.sl M.length 0 (s.length + 1) 4] false)).set 2 (.loop (t85 g) lk85))[i]? = M'[i]? := by
      intro i hi0 hi2
      rw [List.getElem?_set, if_neg (by omega), List.getElem?_set, if_neg (by omega)]
    refine ⟨by rw [q 1 (by decide) (by decide)]; exact o1, ?_, .sl M.length 0 (s.length + 1) 4, ?_, .inr ⟨M.length, by simp, ?_⟩, rfl, ?_⟩
    · rw [List.getElem?_set_self (by rw [List.length_set]; omega)]
    · rw [List.getElem?_set, if_neg (by decide), List.getElem?_set_self (by omega)]
    · rw [q M.length (by omega) (by omega)]; exact hnew
    · intro i hi h
      injection h with h3
      omega

theorem retFd {P : Program} {rs : List ResultVar} {a : St} {v u v' : AV} (t d : Nat) (hr : rs = [.tmp t]) (hD : a.D = [d]) (hd : a.H[d]? = some .dfr) (hg : Av.get a.T t = v) (hz : fz (a.H.set d .dead) 20 v = some u) (hl : Le u v') : retQ P rs (.ret v') .ret a := by
  obtain ⟨T, H, D⟩ := a
  simp only at hD hd hg hz
  subst hD; subst hr; subst hg
  refine ⟨⟨T, H.set d .dead, []⟩, ?_, u, hz, hl⟩
  simp [endA, takeD, hd]

set_option maxRecDepth 100000 in
theorem seq85 (x : Bool) (e : List Atr) (c : List Val) (hc : c.length = 8) (hbe : ∀ a ∈ e, a.2.2.length ≤ 1000000) (hbc : ∀ v ∈ c, v.2.length ≤ 1000000) :
    PureFn Tryz.prog 85 [.vsl 0 true [], .func (.func 86) [] [.vptr [.vsl 3 x (e.map encE)], .vptr (c.map encV)]] (.ret (.vsl 4 false ((chgs e c 8).map encM))) := by
  generalize hg : AV.func (.func 86) [] [.vptr [.vsl 3 x (e.map encE)], .vptr (c.map encV)] = g
  refine PureFn.of Tryz.func85 rfl (enters_call enters Tryz.func85 rfl) (by simp [Tryz.ntmps85]) ?_
  show W Tryz.prog 13 _ none _ _ _
  have hcl : AV.cells (.vsl 0 true []) = [.vsl 0 true []] := rfl
  refine .seq (.region [] (by decide) ?_)
  simp only [EOps, EDf, isRd, gdA, callOf, isPanic, nextOf, altA, evalOp, St.ev, Av.get, St.put, argT, ofV, thenQ, Nat.reduceEqDiff, ↓reduceIte, Bool.and_self, List.map_cons, List.map_nil, List.nil_append, List.append_nil, List.getElem?_cons_zero, List.getElem?_cons_succ, List.getElem?_toArray, Option.map_some, Option.bind_some, decide_true, decide_false, beq_false, beq_true, Bool.not_true, Bool.not_false, Bool.false_eq_true, pickA, cond_true, cond_false, AV.told, if_true, hcl, List.length_nil, and_self]
  refine .seq (.seq (.region [] (by decide) ?_))
  simp only [EOps, EDf, isRd, gdA, callOf, isPanic, nextOf, altA, evalOp, St.ev, Av.get, St.put, argT, ofV, thenQ, Nat.reduceEqDiff, ↓reduceIte, Bool.and_self, List.map_cons, List.map_nil, List.nil_append, List.append_nil, List.getElem?_cons_zero, List.getElem?_cons_succ, List.getElem?_toArray, Option.map_some, Option.bind_some, decide_true, decide_false, beq_false, beq_true, Bool.not_true, Bool.not_false, Bool.false_eq_true, pickA, cond_true, cond_false]
  refine .block ?_
  have hstep := changes86 2 x e c hc hbe hbc ([.cells [.vsl 0 true []] false] ++ [.dfr, .loop (t85 g) lk85]) (J85 g) ⟨rfl, rfl, _, rfl, .inl ⟨rfl, 0, rfl⟩, rfl, by intro i _ h; cases h⟩ (fun s m K hs hJ => round85 g s m K hs hJ)
  refine W.rangeFuncS (gf := 86) (fs := []) (cs := [.vptr [.vsl 3 x (e.map encE)], .vptr (c.map encV)]) (by rw [hg]; rfl) (enters_call enters Tryz.func86 rfl) hstep ?_
  rintro out K ⟨rfl, h1, h2, v, h0, hin, hvc, hne⟩
  refine ⟨_, _, _, rfl, h2, by simp [lk85], ?_⟩
  show behindQ _ _ _ _ _ none
  simp only [behindQ, blockQ, thenQ]
  have l2 : 2 < K.length := (List.getElem?_eq_some_iff.1 h2).1
  have k0 : evLoad Tryz.prog 43 (.ptr 0 0) (K.set 2 .dead) = some v := ld43 _ 0 v false (by rw [List.getElem?_set, if_neg (by decide)]; exact h0)
  refine .seq (.region [] (by decide) ?_)
  simp only [EOps, EDf, isRd, gdA, callOf, isPanic, nextOf, altA, evalOp, St.ev, Av.get, St.put, argT, ofV, thenQ, Nat.reduceEqDiff, ↓reduceIte, Bool.and_self, List.map_cons, List.map_nil, List.nil_append, List.append_nil, List.getElem?_cons_zero, List.getElem?_cons_succ, List.getElem?_toArray, Option.map_some, Option.bind_some, decide_true, decide_false, beq_false, beq_true, Bool.not_true, Bool.not_false, Bool.false_eq_true, pickA, cond_true, cond_false, List.length_cons, List.length_nil, Nat.reduceAdd, k0]
  have hin' : slIn 4 encM ((K.set 2 .dead).set 1 .dead) v (chgs e c 8) := by
    rcases hin with h | ⟨d, hv, hd⟩
    · exact .inl h
    · have hd2 : d ≠ 2 := by rintro rfl; rw [h2] at hd; cases hd
      have hd1 : d ≠ 1 := by rintro rfl; rw [h1] at hd; cases hd
      exact .inr ⟨d, hv, by rw [List.getElem?_set, if_neg (by omega), List.getElem?_set, if_neg (by omega)]; exact hd⟩
  obtain ⟨u, hz, hle⟩ := slIn_fz (n := 3) (k := 19) (by decide) (fun m => ⟨mcell m, rfl, rfl⟩) (fun m => by show AV.hfs (mcell m) = true; simp [mcell, AV.hfs, AV.hf, strs_hfs]) hin'
  have hd1 : (K.set 2 OB.dead)[1]? = some .dfr := by rw [List.getElem?_set, if_neg (by decide)]; exact h1
  exact .ret (retFd 4 1 rfl rfl hd1 rfl hz hle)

theorem collect64 (x : Bool) (e : List Atr) (c : List Val) (hc : c.length = 8) (hbe : ∀ a ∈ e, a.2.2.length ≤ 1000000) (hbc : ∀ v ∈ c, v.2.length ≤ 1000000) :
    PureFn Tryz.prog 64 [.func (.func 86) [] [.vptr [.vsl 3 x (e.map encE)], .vptr (c.map encV)]] (.ret (.vsl 4 false ((chgs e c 8).map encM))) := by
  refine PureFn.of Tryz.func64 rfl (enters_call enters Tryz.func64 rfl) (by simp [Tryz.ntmps64]) ?_
  show W Tryz.prog 5 _ none _ _ _
  refine .seq (.region [] (by decide) ?_)
  simp only [EOps, EDf, isRd, gdA, callOf, isPanic, nextOf, altA, evalOp, St.ev, Av.get, St.put, argT, ofV, thenQ, Nat.reduceEqDiff, ↓reduceIte, Bool.and_self, List.map_cons, List.map_nil, List.nil_append, List.append_nil, List.getElem?_cons_zero, List.getElem?_cons_succ, List.getElem?_toArray, Option.map_some, Option.bind_some, decide_true, decide_false, beq_false, beq_true, Bool.not_true, Bool.not_false, Bool.false_eq_true, pickA, cond_true, cond_false, and_self, if_true]
  have hl : ∀ H o, lend H [.vsl 0 true [], .func (.func 86) [] [.vptr [.vsl 3 x (e.map encE)], .vptr (c.map encV)]] o = some [.vsl 0 true [], .func (.func 86) [] [.vptr [.vsl 3 x (e.map encE)], .vptr (c.map encV)]] := by
    intro H o; simp [lend, AV.hfs, AV.hf, encE_hfs, encV_hfs]
  have hm : AV.hfs ((chgs e c 8).map encM) = true := by
    rw [hfs_all, List.all_eq_true]; intro v hv; obtain ⟨r, _, rfl⟩ := List.mem_map.1 hv; simp [encM, AV.hf, AV.hfs, strs_hfs]
  refine .seq (.region [.pure (.ret (.vsl 4 false ((chgs e c 8).map encM)))] (by decide) ?_)
  simp only [EOps, EDf, isRd, gdA, callOf, isPanic, nextOf, altA, evalOp, St.ev, Av.get, St.put, argT, ofV, thenQ, Nat.reduceEqDiff, ↓reduceIte, Bool.and_self, List.map_cons, List.map_nil, List.nil_append, List.append_nil, List.getElem?_cons_zero, List.getElem?_cons_succ, List.getElem?_toArray, Option.map_some, Option.bind_some, decide_true, decide_false, beq_false, beq_true, Bool.not_true, Bool.not_false, Bool.false_eq_true, pickA, cond_true, cond_false, hl, and_self, if_true]
  refine ⟨seq85 x e c hc hbe hbc, ?_⟩
  exact .ret (retT 2 rfl rfl rfl (by simp [Av.get, AV.hf, hm]) (.refl _))
end Go.Proofs.YtmeijkidjifagaaGreat
namespace Go.Proofs.YtmeijkidjifagaaGreat
set_option linter.unusedVariables false
set_option linter.unusedSimpArgs false
open Go Go.Av

def goesB (m : Mo) : Bool := (m.2.2.length : Int) == 0
theorem fld68_2 : fldA Tryz.prog 68 2 = some (2, 1, 26) := by kernel_rfl
theorem fa68_2 (id : Nat) : evFieldAddr Tryz.prog 68 (.ptr id 0) 2 = some (.ptr id 2) := by simp [evFieldAddr, fld68_2]
theorem encM_hf (m : Mo) : AV.hf (encM m) = true := by simp [encM, AV.hf, AV.hfs, strs_hfs]
theorem encM_hfs (l : List Mo) : AV.hfs (l.map encM) = true := by
  rw [hfs_all, List.all_eq_true]; intro v hv; obtain ⟨r, _, rfl⟩ := List.mem_map.1 hv; exact encM_hf r

theorem goes66 (m : Mo) : PureFn Tryz.prog 66 [encM m] (.ret (.bool (goesB m))) := by
  refine PureFn.of Tryz.func66 rfl (enters_call enters Tryz.func66 rfl) (by simp [Tryz.ntmps66]) ?_
  show W Tryz.prog 7 _ none _ _ _
  have ht : (encM m).told = true := rfl
  refine .seq (.region [] (by decide) ?_)
  simp only [EOps, EDf, isRd, gdA, callOf, isPanic, nextOf, altA, evalOp, St.ev, Av.get, St.put, argT, ofV, thenQ, Nat.reduceEqDiff, ↓reduceIte, Bool.and_self, List.map_cons, List.map_nil, List.nil_append, List.append_nil, List.getElem?_cons_zero, List.getElem?_cons_succ, List.getElem?_toArray, Option.map_some, Option.bind_some, decide_true, decide_false, beq_false, beq_true, Bool.not_true, Bool.not_false, Bool.false_eq_true, pickA, cond_true, cond_false, ht, if_true, List.length_nil, encM_cells]
  have hl : evLoad Tryz.prog 26 (.ptr 0 2) [.cells (mcell m) false] = some (.vsl 0 m.2.1 (m.2.2.map .str)) := ld26 _ 0 2 _ _ _ rfl rfl
  refine .seq (.region [] (by decide) ?_)
  simp only [EOps, EDf, isRd, gdA, callOf, isPanic, nextOf, altA, evalOp, St.ev, Av.get, St.put, argT, ofV, thenQ, Nat.reduceEqDiff, ↓reduceIte, Bool.and_self, List.map_cons, List.map_nil, List.nil_append, List.append_nil, List.getElem?_cons_zero, List.getElem?_cons_succ, List.getElem?_toArray, Option.map_some, Option.bind_some, decide_true, decide_false, beq_false, beq_true, Bool.not_true, Bool.not_false, Bool.false_eq_true, pickA, cond_true, cond_false, fa68_2, hl, ln26, b_eql]
  exact .ret ⟨_, rfl, _, rfl, .refl _⟩

theorem ln43 (x : Bool) (l : List Mo) (H : List OB) : evLen Tryz.prog 43 (.vsl 4 x (l.map encM)) H = some (.int .i64 l.length) := by simp [evLen, Tryz.underlying43]
theorem ia43 (x : Bool) (l : List Mo) (i : Nat) (m : Mo) (h : l[i]? = some m) (H : List OB) : evIndexAddr Tryz.prog 43 (.vsl 4 x (l.map encM)) (.int .i64 (i : Int)) H = some (.vptr (mcell m)) := by
  have h1 : (l.map encM)[i]? = some (encM m) := by simp [h]
  simp [evIndexAddr, idx_nat, Tryz.underlying43, tz68, h1, encM_cells, mcell]
theorem ld68v (m : Mo) (H : List OB) : evLoad Tryz.prog 68 (.vptr (mcell m)) H = some (encM m) := by
  simp [evLoad, tz68, tg68, ldA, mcell, encM]

set_option maxRecDepth 100000 in
theorem parted39 (x : Bool) (l : List Mo) (g : FuncId) (p : Mo → Bool) (hb : l.length ≤ 1000) (hp : ∀ m ∈ l, PureFn Tryz.prog g [encM m] (.ret (.bool (p m)))) :
    PureFn Tryz.prog 39 [.vsl 4 x (l.map encM), .func (.func g) [] []] (.ret (.vsl 4 false ((l.filter p ++ l.filter (fun m => !(p m))).map encM))) := by
  refine PureFn.of Tryz.func39 rfl (enters_call enters Tryz.func39 rfl) (by simp [Tryz.ntmps39]) ?_
  show W Tryz.prog 30 _ none _ _ _
  refine .seq (.region [] (by decide) ?_)
  simp only [EOps, EDf, isRd, gdA, callOf, isPanic, nextOf, altA, evalOp, St.ev, Av.get, St.put, argT, ofV, thenQ, Nat.reduceEqDiff, ↓reduceIte, Bool.and_self, List.map_cons, List.map_nil, List.nil_append, List.append_nil, List.getElem?_cons_zero, List.getElem?_cons_succ, List.getElem?_toArray, Option.map_some, Option.bind_some, decide_true, decide_false, beq_false, beq_true, Bool.not_true, Bool.not_false, Bool.false_eq_true, pickA, cond_true, cond_false]
  refine .seq (.region [] (by decide) ?_)
  simp only [EOps, EDf, isRd, gdA, callOf, isPanic, nextOf, altA, evalOp, St.ev, Av.get, St.put, argT, ofV, thenQ, Nat.reduceEqDiff, ↓reduceIte, Bool.and_self, List.map_cons, List.map_nil, List.nil_append, List.append_nil, List.getElem?_cons_zero, List.getElem?_cons_succ, List.getElem?_toArray, Option.map_some, Option.bind_some, decide_true, decide_false, beq_false, beq_true, Bool.not_true, Bool.not_false, Bool.false_eq_true, pickA, cond_true, cond_false, and_self, if_true]
  refine .seq (.seq (.region [] (by decide) ?_))
  simp only [EOps, EDf, isRd, gdA, callOf, isPanic, nextOf, altA, evalOp, St.ev, Av.get, St.put, argT, ofV, thenQ, Nat.reduceEqDiff, ↓reduceIte, Bool.and_self, List.map_cons, List.map_nil, List.nil_append, List.append_nil, List.getElem?_cons_zero, List.getElem?_cons_succ, List.getElem?_toArray, Option.map_some, Option.bind_some, decide_true, decide_false, beq_false, beq_true, Bool.not_true, Bool.not_false, Bool.false_eq_true, pickA, cond_true, cond_false, ln43]
  refine .block ?_
  refine .loop (X := Nat) (fun i a => Av.get a.T 1 = .func (.func g) [] [] ∧ Av.get a.T 9 = .vsl 4 x (l.map encM) ∧ Av.get a.T 10 = .int .i64 l.length ∧ Av.get a.T 11 = .int .i64 (i : Int) ∧ i ≤ l.length ∧
      slIn 4 encM a.H (Av.get a.T 5) ((l.take i).filter p) ∧ slIn 4 encM a.H (Av.get a.T 6) ((l.take i).filter fun m => !(p m)) ∧ (∀ d n n', Av.get a.T 5 = .sl d 0 n 4 → Av.get a.T 6 ≠ .sl d 0 n' 4) ∧ a.D = []) (fun i => l.length - i) 0
      ⟨rfl, rfl, rfl, rfl, Nat.zero_le _, .inl ⟨rfl, 0, rfl⟩, .inl ⟨rfl, 0, rfl⟩, (fun d n n' h => by cases h), rfl⟩ ?_
  rintro i ⟨T, K, D⟩ ⟨h1, h9, h10, h11, hi, ha, hbb, hdis, rfl⟩
  simp only at h1 h9 h10 h11 ha hbb hdis
  refine .seq (.region [] (by decide) ?_)
  simp only [EOps, EDf, isRd, gdA, callOf, isPanic, nextOf, altA, evalOp, St.ev, Av.get, St.put, argT, ofV, thenQ, Nat.reduceEqDiff, ↓reduceIte, Bool.and_self, List.map_cons, List.map_nil, List.nil_append, List.append_nil, List.getElem?_cons_zero, List.getElem?_cons_succ, List.getElem?_toArray, Option.map_some, Option.bind_some, decide_true, decide_false, beq_false, beq_true, Bool.not_true, Bool.not_false, Bool.false_eq_true, pickA, cond_true, cond_false, h1, h9, h10, h11, b_lss, dlt]
  by_cases h : i < l.length
  · obtain ⟨m, hm, hdrop⟩ := drop_at h
    have hmem : m ∈ l := List.mem_of_getElem? hm
    have htake : l.take (i + 1) = l.take i ++ [m] := by rw [List.take_add_one, hm]; rfl
    refine .seq (.cond (t := true) (by simp [St.ev, Av.get, h]) (.skip ?_))
    simp only [thenQ]
    have hst : evStore Tryz.prog 68 (.ptr K.length 0) (encM m) (K ++ [.cells [.int .i64 0, .str [], .vsl 0 true []] false]) = some (K ++ [.cells (mcell m) false]) := by
      rw [st68 m _ _ _ _ _ (by rw [List.getElem?_concat_length])]
      congr 1
      rw [List.set_append_right _ _ (Nat.le_refl _), Nat.sub_self]
      rfl
    refine .seq (.block (.seq (.region [] (by decide) ?_)))
    simp only [EOps, EDf, isRd, gdA, callOf, isPanic, nextOf, altA, evalOp, St.ev, Av.get, St.put, argT, ofV, thenQ, Nat.reduceEqDiff, ↓reduceIte, Bool.and_self, List.map_cons, List.map_nil, List.nil_append, List.append_nil, List.getElem?_cons_zero, List.getElem?_cons_succ, List.getElem?_toArray, Option.map_some, Option.bind_some, decide_true, decide_false, beq_false, beq_true, Bool.not_true, Bool.not_false, Bool.false_eq_true, pickA, cond_true, cond_false, h1, h9, h10, h11, ia43 _ _ _ _ hm, ld68v, za68, cells_agg', hst]
    obtain ⟨M, hM⟩ : ∃ M, M = K ++ [OB.cells (mcell m) false] := ⟨_, rfl⟩
    rw [← hM]
    have lM : M.length = K.length + 1 := by rw [hM]; simp
    have gM : ∀ d, d < K.length → M[d]? = K[d]? := fun d hd => by rw [hM, List.getElem?_append_left hd]
    have hx : evLoad Tryz.prog 68 (.ptr K.length 0) M = some (encM m) := ld68 m M K.length false (by rw [hM, List.getElem?_concat_length])
    have ha' := slIn_keep (M' := M) ha (fun d hd _ => gM d hd)
    have hb' := slIn_keep (M' := M) hbb (fun d hd _ => gM d hd)
    have hl : ∀ H o, lend H [encM m] o = some [encM m] := by intro H o; simp [lend, AV.hfs, encM_hf]
    have lenA : ((l.take i).filter p).length ≤ 1000 := Nat.le_trans (List.length_filter_le _ _) (by simp; omega)
    have lenB : ((l.take i).filter fun m => !(p m)).length ≤ 1000 := Nat.le_trans (List.length_filter_le _ _) (by simp; omega)
    have hadd : evBin Tryz.prog .add 3 (.int .i64 (i : Int)) (.int .i64 1) = some (.int .i64 ((i + 1 : Nat) : Int)) := by
      rw [b_add64 _ _ (by omega)]; simp
    generalize hva : Av.get T 5 = va at ha ha' hdis
    generalize hvb : Av.get T 6 = vb at hbb hb' hdis
    refine .seq (.region [.pure (.ret (.bool (p m)))] (by decide) ?_)
    simp only [EOps, EDf, isRd, gdA, callOf, isPanic, nextOf, altA, evalOp, St.ev, Av.get, St.put, argT, ofV, thenQ, Nat.reduceEqDiff, ↓reduceIte, Bool.and_self, List.map_cons, List.map_nil, List.nil_append, List.append_nil, List.getElem?_cons_zero, List.getElem?_cons_succ, List.getElem?_toArray, Option.map_some, Option.bind_some, decide_true, decide_false, beq_false, beq_true, Bool.not_true, Bool.not_false, Bool.false_eq_true, pickA, cond_true, cond_false, h1, h9, h10, h11, hva, hvb, hx, hl, List.append_nil]
    refine ⟨hp m hmem, ?_⟩
    cases hpm : p m with
    | true =>
      obtain ⟨M', hap, hl', hnew, hold⟩ := slIn_app (P := Tryz.prog) (sT := 43) (wd := 4) (bytes := 48) Tryz.underlying43 ap68 encM (fun _ => rfl) (fun _ => rfl) (by decide) ha' m true (by omega)
      refine .cond (t := true) rfl (.region [] (by decide) ?_)
      simp only [EOps, EDf, isRd, gdA, callOf, isPanic, nextOf, altA, evalOp, St.ev, Av.get, St.put, argT, ofV, thenQ, Nat.reduceEqDiff, ↓reduceIte, Bool.and_self, List.map_cons, List.map_nil, List.nil_append, List.append_nil, List.getElem?_cons_zero, List.getElem?_cons_succ, List.getElem?_toArray, Option.map_some, Option.bind_some, decide_true, decide_false, beq_false, beq_true, Bool.not_true, Bool.not_false, Bool.false_eq_true, pickA, cond_true, cond_false, h1, h9, h10, h11, hva, hvb, hx, bs43, hap, blockQ]
      refine .region [] (by decide) ?_
      simp only [EOps, EDf, isRd, gdA, callOf, isPanic, nextOf, altA, evalOp, St.ev, Av.get, St.put, argT, ofV, thenQ, Nat.reduceEqDiff, ↓reduceIte, Bool.and_self, List.map_cons, List.map_nil, List.nil_append, List.append_nil, List.getElem?_cons_zero, List.getElem?_cons_succ, List.getElem?_toArray, Option.map_some, Option.bind_some, decide_true, decide_false, beq_false, beq_true, Bool.not_true, Bool.not_false, Bool.false_eq_true, pickA, cond_true, cond_false, h1, h9, h10, h11, hva, hvb, hadd]
      refine ⟨i + 1, ⟨trivial, trivial, trivial, rfl, h, ?_, ?_, ?_, trivial⟩, by omega⟩
      · rw [htake, List.filter_append]
        simp only [List.filter_cons, hpm, if_true, List.filter_nil]
        exact .inr ⟨M.length, by simp, hnew⟩
      · rw [htake, List.filter_append]
        simp only [List.filter_cons, hpm, Bool.not_true, Bool.false_eq_true, if_false, List.filter_nil, List.append_nil]
        exact slIn_keep hb' fun d hd hv => hold d hd fun hv' => hdis d _ _ hv' hv
      · intro d n n' h5 h6
        cases h5
        have := slIn_lt hb' h6
        omega
    | false =>
      obtain ⟨M', hap, hl', hnew, hold⟩ := slIn_app (P := Tryz.prog) (sT := 43) (wd := 4) (bytes := 48) Tryz.underlying43 ap68 encM (fun _ => rfl) (fun _ => rfl) (by decide) hb' m true (by omega)
      refine .cond (t := false) rfl (.region [] (by decide) ?_)
      simp only [EOps, EDf, isRd, gdA, callOf, isPanic, nextOf, altA, evalOp, St.ev, Av.get, St.put, argT, ofV, thenQ, Nat.reduceEqDiff, ↓reduceIte, Bool.and_self, List.map_cons, List.map_nil, List.nil_append, List.append_nil, List.getElem?_cons_zero, List.getElem?_cons_succ, List.getElem?_toArray, Option.map_some, Option.bind_some, decide_true, decide_false, beq_false, beq_true, Bool.not_true, Bool.not_false, Bool.false_eq_true, pickA, cond_true, cond_false, h1, h9, h10, h11, hva, hvb, hx, bs43, hap, blockQ]
      refine .region [] (by decide) ?_
      simp only [EOps, EDf, isRd, gdA, callOf, isPanic, nextOf, altA, evalOp, St.ev, Av.get, St.put, argT, ofV, thenQ, Nat.reduceEqDiff, ↓reduceIte, Bool.and_self, List.map_cons, List.map_nil, List.nil_append, List.append_nil, List.getElem?_cons_zero, List.getElem?_cons_succ, List.getElem?_toArray, Option.map_some, Option.bind_some, decide_true, decide_false, beq_false, beq_true, Bool.not_true, Bool.not_false, Bool.false_eq_true, pickA, cond_true, cond_false, h1, h9, h10, h11, hva, hvb, hadd]
      refine ⟨i + 1, ⟨trivial, trivial, trivial, rfl, h, ?_, ?_, ?_, trivial⟩, by omega⟩
      · rw [htake, List.filter_append]
        simp only [List.filter_cons, hpm, Bool.false_eq_true, if_false, List.filter_nil, List.append_nil]
        exact slIn_keep ha' fun d hd hv => hold d hd fun hv' => hdis d _ _ hv hv'
      · rw [htake, List.filter_append]
        simp only [List.filter_cons, hpm, Bool.not_false, if_true, List.filter_nil]
        exact .inr ⟨M.length, by simp, hnew⟩
      · intro d n n' h5 h6
        cases h6
        have := slIn_lt ha' h5
        omega
  · have hi' : i = l.length := by omega
    subst hi'
    rw [List.take_length] at ha hbb
    generalize hva : Av.get T 5 = va at ha hdis
    generalize hvb : Av.get T 6 = vb at hbb hdis
    have lenA : (l.filter p).length ≤ 1000 := Nat.le_trans (List.length_filter_le _ _) hb
    have lenB : (l.filter fun m => !(p m)).length ≤ 1000 := Nat.le_trans (List.length_filter_le _ _) hb
    obtain ⟨v', M', hap, hin⟩ := slIn_cat (P := Tryz.prog) (sT := 43) (wd := 4) (bytes := 48) Tryz.underlying43 ap68 encM (fun _ => rfl) (fun _ => rfl) (by decide) ha hbb (by omega)
    obtain ⟨u, hz, hle⟩ := slIn_fz (n := 3) (k := 19) (by decide) (fun m => ⟨mcell m, rfl, rfl⟩) (fun m => by show AV.hfs (mcell m) = true; simp [mcell, AV.hfs, AV.hf, strs_hfs]) hin
    refine .seq (.cond (t := false) (by simp [St.ev, Av.get]) (.exit ?_))
    simp only [EOps, EDf, isRd, gdA, callOf, isPanic, nextOf, altA, evalOp, St.ev, Av.get, St.put, argT, ofV, thenQ, Nat.reduceEqDiff, ↓reduceIte, Bool.and_self, List.map_cons, List.map_nil, List.nil_append, List.append_nil, List.getElem?_cons_zero, List.getElem?_cons_succ, List.getElem?_toArray, Option.map_some, Option.bind_some, decide_true, decide_false, beq_false, beq_true, Bool.not_true, Bool.not_false, Bool.false_eq_true, pickA, cond_true, cond_false, blockQ]
    refine .seq (.region [] (by decide) ?_)
    simp only [EOps, EDf, isRd, gdA, callOf, isPanic, nextOf, altA, evalOp, St.ev, Av.get, St.put, argT, ofV, thenQ, Nat.reduceEqDiff, ↓reduceIte, Bool.and_self, List.map_cons, List.map_nil, List.nil_append, List.append_nil, List.getElem?_cons_zero, List.getElem?_cons_succ, List.getElem?_toArray, Option.map_some, Option.bind_some, decide_true, decide_false, beq_false, beq_true, Bool.not_true, Bool.not_false, Bool.false_eq_true, pickA, cond_true, cond_false, hva, hvb, hap]
    exact .ret (retF 4 rfl rfl rfl hz hle)
end Go.Proofs.YtmeijkidjifagaaGreat
