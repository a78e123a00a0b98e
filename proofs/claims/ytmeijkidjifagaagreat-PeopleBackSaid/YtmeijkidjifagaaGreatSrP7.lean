/- Contracts of functions that the statements of this seat reach: under the conditions named at each theorem. -/
import Derived.Test.YtmeijkidjifagaaGreatSrP6
import Derived.WalkKit
import Derived.Test.YtmeijkidjifagaaGreatSvP4
namespace Go.Proofs.YtmeijkidjifagaaGreat.K
set_option linter.unusedVariables false
set_option linter.unusedSimpArgs false
open Go Go.Av

theorem nk25 : nilKind Tryz.prog 26 = 1 := by kernel_rfl
theorem ul25 : Tryz.prog.underlying 26 = some (.slice 9) := Tryz.underlying26
theorem ap9 : apT Tryz.prog 9 = some (1, 0, 16) := by kernel_rfl
theorem bs25 : evBuildSlice Tryz.prog 26 0 [] = some (.vsl 0 true []) := by kernel_rfl
theorem ap25 (x : Bool) : evAppend Tryz.prog 26 26 (.vsl 0 true []) (.vsl 0 x []) [] = some (.vsl 0 true [], []) := by
  have : apT Tryz.prog 9 = some (1, 0, 16) := ap9
  simp [evAppend, ul25, this, newsA, esz]

theorem clone21 (x : Bool) : PureFn Tryz.prog 50 [.vsl 0 x []] (.ret (.vsl 0 true [])) := by
  refine PureFn.of Tryz.func50 rfl (enters_call enters Tryz.func50 rfl) (by simp [Tryz.ntmps50]) ?_
  show W Tryz.prog 8 0 none _ _ _
  refine .seq (.region [] (by decide) ?_)
  simp only [EOps, gdA, callOf, isPanic, altA, evalOp, St.ev, Av.get, St.put, argT, ofV, thenQ, and_self, if_true, Nat.reduceEqDiff, ↓reduceIte, nk25, decide_true, Option.map_some, List.map_cons, List.map_nil, bs25, ap25]
  refine .seq (.seq (.region [] (by decide) ?_))
  simp only [EOps, gdA, callOf, isPanic, altA, evalOp, St.ev, Av.get, St.put, argT, ofV, thenQ, and_self, if_true, Nat.reduceEqDiff, ↓reduceIte, nk25, decide_true, Option.map_some, List.map_cons, List.map_nil, bs25, ap25]
  intro b
  refine .cond (t := b) rfl ?_
  have hr : ∀ T, retQ Tryz.prog Tryz.f50.results.toList (Out.ret (AV.vsl 0 true [])) .ret ⟨(2, .vsl 0 true []) :: T, [], []⟩ := by
    intro T
    exact ⟨_, rfl, _, rfl, .refl _⟩
  cases b with
  | true =>
    refine .seq (.region [] (by decide) ?_)
    simp only [EOps, gdA, callOf, isPanic, altA, evalOp, St.ev, Av.get, St.put, argT, ofV, thenQ, and_self, if_true, Nat.reduceEqDiff, ↓reduceIte, nk25, decide_true, Option.map_some, List.map_cons, List.map_nil, bs25, ap25]
    exact .ret (hr _)
  | false =>
    refine .skip ?_
    simp only [EOps, gdA, callOf, isPanic, altA, evalOp, St.ev, Av.get, St.put, argT, ofV, thenQ, and_self, if_true, Nat.reduceEqDiff, ↓reduceIte, nk25, decide_true, Option.map_some, List.map_cons, List.map_nil, bs25, ap25]
    refine .seq (.region [] (by decide) ?_)
    simp only [EOps, gdA, callOf, isPanic, altA, evalOp, St.ev, Av.get, St.put, argT, ofV, thenQ, and_self, if_true, Nat.reduceEqDiff, ↓reduceIte, nk25, decide_true, Option.map_some, List.map_cons, List.map_nil, bs25, ap25]
    exact .ret (hr _)
end Go.Proofs.YtmeijkidjifagaaGreat.K
namespace Go.Proofs.YtmeijkidjifagaaGreat.K
set_option linter.unusedVariables false
set_option linter.unusedSimpArgs false
open Go Go.Av

theorem ld81 (ks vs : List AV) (H : List OB) : evLoad Tryz.prog 86 (.vptr [.vmap ks vs]) H = some (.vmap ks vs) := by
  have h1 : tsz Tryz.prog 86 = some 1 := by kernel_rfl
  have h2 : tag Tryz.prog 86 = some false := by kernel_rfl
  simp [evLoad, h1, h2, ldA]
theorem rg81 (ks vs : List AV) (H : List OB) : evRange Tryz.prog 86 (.vmap ks vs) H = some (.ptr H.length 0, H ++ [.iter ks vs []]) := by
  simp [evRange, Tryz.underlying86]

theorem keys70 (ks vs : List AV) (yid : Nat) (H : List OB) (J : List Nat → List OB → Prop) (hlen : vs.length = ks.length)
    (hJ0 : J [] (H ++ [.iter ks vs []])) (hJi : ∀ s K, J s K → K[H.length]? = some (.iter ks vs s))
    (hstep : ∀ s K j k, J s K → s.Nodup → (∀ i ∈ s, i < ks.length) → ks[j]? = some k → j ∉ s → ∃ K', YFn Tryz.prog yid [k] (K.set H.length (.iter ks vs (s ++ [j]))) (.ret (.bool true)) K' ∧ J (s ++ [j]) K') :
    ShFnS Tryz.prog 96 [.yld yid, .vptr [.vmap ks vs]] H (fun out K => out = .ret (.tup []) ∧ ∃ s, J s K ∧ s.Nodup ∧ (∀ j, j ∈ s ↔ j < ks.length)) := by
  refine ShFnS.ofX Tryz.func96 rfl (enters_call enters Tryz.func96 rfl) (by simp [Tryz.ntmps96]) ?_
  show W Tryz.prog 14 _ none _ _ _
  refine .seq (.region [] (by decide) ?_)
  simp only [EOps, gdA, callOf, isPanic, nextOf, altA, evalOp, St.ev, Av.get, St.put, argT, ofV, thenQ, and_self, if_true, Nat.reduceEqDiff, ↓reduceIte, Option.map_some, ld81, rg81, Nat.reduceAdd]
  refine .block ?_
  refine .loop (X := List Nat) (fun s a => Av.get a.T 0 = .yld yid ∧ Av.get a.T 5 = .ptr H.length 0 ∧ J s a.H ∧ s.Nodup ∧ (∀ j ∈ s, j < ks.length) ∧ a.D = []) (fun s => ks.length + 1 - s.length) [] ⟨rfl, rfl, hJ0, by simp, by simp, rfl⟩ ?_
  rintro s ⟨T, K, D⟩ ⟨h0, h5, hJ, hnd, hlt, rfl⟩
  simp only at h0 h5 hJ
  refine .seq (.region [] (by decide) ?_)
  simp only [EOps, gdA, callOf, isPanic, nextOf, St.ev, h5, hJi _ _ hJ]
  intro v K' hn
  cases hn with
  | over hall =>
    simp only [altA, evalOp, St.ev, Av.get, St.put, thenQ, ↓reduceIte, List.getElem?_cons_zero, Option.map_some]
    refine .seq (.cond (t := false) rfl (.exit ?_))
    simp only [thenQ, blockQ, ↓reduceIte]
    refine ⟨_, _, ⟨rfl, s, hJ, hnd, fun j => ⟨hlt j, hall j⟩⟩, _, rfl, rfl, _, rfl, rfl⟩
  | one j k v hk hv hjn =>
    simp only [altA, evalOp, St.ev, Av.get, St.put, thenQ, ↓reduceIte, List.getElem?_cons_zero, Option.map_some]
    refine .seq (.cond (t := true) rfl (.skip ?_))
    simp only [thenQ]
    refine .block (.seq (.region [] (by decide) ?_))
    have hKl : H.length < K.length := (List.getElem?_eq_some_iff.1 (hJi _ _ hJ)).1
    have hget : (K.set H.length (.iter ks vs (s ++ [j])))[H.length]? = some (.iter ks vs (s ++ [j])) := by
      rw [List.getElem?_set_self hKl]
    have hent : evEntry (.ptr H.length 0) (K.set H.length (.iter ks vs (s ++ [j]))) = some (.tup [k, v]) := by
      simp [evEntry, hget, hk, hv]
    simp only [EOps, gdA, callOf, isPanic, nextOf, altA, evalOp, St.ev, Av.get, St.put, thenQ, Nat.reduceEqDiff, ↓reduceIte, h5, hent, Option.map_some, List.getElem?_cons_zero]
    obtain ⟨K', hy, hJ'⟩ := hstep s K j k hJ hnd hlt hk hjn
    refine .seq (.region [.sh (.ret (.bool true)) K'] (by decide) ?_)
    simp only [EOps, gdA, callOf, isPanic, nextOf, altA, evalOp, St.ev, Av.get, St.put, thenQ, Nat.reduceEqDiff, ↓reduceIte, h0, Option.map_some, List.map_cons, List.map_nil, ClOK, evUn]
    refine ⟨hy, ?_⟩
    refine .cond (t := false) rfl (.skip ?_)
    simp only [thenQ, blockQ]
    have hnd' : (s ++ [j]).Nodup := by
      rw [List.nodup_append]
      refine ⟨hnd, by simp, ?_⟩
      intro x hx y hy2
      simp at hy2; subst hy2
      rintro rfl; exact hjn hx
    have hlt' : ∀ i ∈ s ++ [j], i < ks.length := by
      intro i hi
      rcases List.mem_append.1 hi with h | h
      · exact hlt i h
      · simp at h; subst h; exact (List.getElem?_eq_some_iff.1 hk).1
    have := nodup_lt _ _ hnd' hlt'
    refine ⟨s ++ [j], ⟨?_, ?_, hJ', hnd', hlt', trivial⟩, ?_⟩
    · simp only [Av.get, Nat.reduceEqDiff, ↓reduceIte, h0]
    · simp only [Av.get, Nat.reduceEqDiff, ↓reduceIte, h5]
    · simp at this ⊢; omega

def kAt (ks : List AV) (j : Nat) : AV := (ks[j]?).getD .junk

/-- What stands in AppendSeq's memory, so many keys taken. -/
def J75 (ks vs : List AV) (T : List (Nat × AV)) (LK : LoopK) (s : List Nat) (K : List OB) : Prop :=
  K[1]? = some .dfr ∧ K[2]? = some (.loop T LK) ∧ K[3]? = some (.iter ks vs s) ∧
    ((s = [] ∧ K[0]? = some (.cells [.vsl 0 true []] false)) ∨ (∃ d, 4 ≤ d ∧ K[0]? = some (.cells [.sl d 0 s.length 0] false) ∧ K[d]? = some (.cells (s.map (kAt ks)) true)))

theorem bs25one (k : AV) (hk : k.one = true) (ht : k.told = true) : evBuildSlice Tryz.prog 26 1 [(0, k)] = some (.vsl 0 true [k]) := by
  have h : apT Tryz.prog 9 = some (1, 0, 16) := ap9
  have hc : k.cells.length = 1 := by rw [one_cells hk]; rfl
  simp [evBuildSlice, ul25, h, hc, ht, List.range']
theorem ld25 (v : AV) (id : Nat) (K : List OB) (h : K[id]? = some (.cells [v] false)) : evLoad Tryz.prog 26 (.ptr id 0) K = some v := by
  have h1 : tsz Tryz.prog 26 = some 1 := by kernel_rfl
  have h2 : tag Tryz.prog 26 = some false := by kernel_rfl
  simp [evLoad, h1, h2, ldA, h]
theorem st25 (v u : AV) (id : Nat) (K : List OB) (h : K[id]? = some (.cells [v] false)) (hu : u.isC = true) : evStore Tryz.prog 26 (.ptr id 0) u K = some (K.set id (.cells [u] false)) := by
  have h1 : tsz Tryz.prog 26 = some 1 := by kernel_rfl
  have h2 : tag Tryz.prog 26 = some false := by kernel_rfl
  have hc : u.cells = [u] := one_cells (by cases u <;> first | rfl | cases hu)
  simp [evStore, h1, h2, h, hu, hc, setC]
theorem ap25new (k : AV) (K : List OB) (hk : k.one = true) : evAppend Tryz.prog 26 26 (.vsl 0 true []) (.vsl 0 true [k]) K = some (.sl K.length 0 1 0, K ++ [.cells [k] true]) := by
  have h : apT Tryz.prog 9 = some (1, 0, 16) := ap9
  simp [evAppend, ul25, h, newsA, esz, one_cells hk]
theorem ap25more (k : AV) (K : List OB) (d : Nat) (cs : List AV) (hk : k.one = true) (hc : k.isC = true) (h : K[d]? = some (.cells cs true)) (hb : cs.length ≤ 1000000) :
    evAppend Tryz.prog 26 26 (.sl d 0 cs.length 0) (.vsl 0 true [k]) K = some (.sl K.length 0 (cs.length + 1) 0, K.set d .dead ++ [.cells (cs ++ [k]) true]) := by
  have ha : apT Tryz.prog 9 = some (1, 0, 16) := ap9
  have h1 : (cs.length + 1) * 16 ≤ 2 ^ 47 := by omega
  simp [evAppend, ul25, ha, newsA, esz, one_cells hk, h, hc, h1]
  omega

/-- Some order of the keys, in a slice of one's own. -/
def anyOrder (ks : List AV) (out : Out) (K : List OB) : Prop :=
  ∃ p : List AV, p.Perm ks ∧ ((p = [] ∧ out = .ret (.vsl 0 true []) ∧ K = []) ∨ (out = .ret (.sl 0 0 p.length 0) ∧ K = [.cells p true]))

theorem perm_kAt (ks : List AV) (s : List Nat) (hs : s.Nodup) (hm : ∀ j, j ∈ s ↔ j < ks.length) : (s.map (kAt ks)).Perm ks := by
  have h1 : s.Perm (List.range ks.length) := (List.perm_ext_iff_of_nodup hs List.nodup_range).2 (fun j => by rw [hm, List.mem_range])
  have h2 : (List.range ks.length).map (kAt ks) = ks := by
    apply List.ext_getElem?
    intro i
    rw [List.getElem?_map]
    by_cases hi : i < ks.length
    · rw [List.getElem?_range hi]; simp [kAt, hi]
    · rw [List.getElem?_eq_none (by simpa using hi), List.getElem?_eq_none (by omega)]; rfl
  have := h1.map (kAt ks)
  rw [h2] at this
  exact this

noncomputable def as75 : Code := match Tryz.f118.body with
  | some (.seq _ (.seq (.seq _ (.block _ (.rangeFunc _ _ a _))) _)) => a
  | _ => .skip
noncomputable def bd75 : Code := match Tryz.f118.body with
  | some (.seq _ (.seq (.seq _ (.block _ (.rangeFunc _ _ _ b))) _)) => b
  | _ => .skip
noncomputable def lk75 : LoopK := ⟨13, #[7], as75, bd75, .ready, none⟩
def t75 (ks vs : List AV) : List (Nat × AV) :=
  [(6, .func (.func 96) [] [.vptr [.vmap ks vs]]), (4, .vsl 0 true []), (2, .ptr 0 0), (0, .vsl 0 true []), (1, .func (.func 96) [] [.vptr [.vmap ks vs]])]

noncomputable def kb75 : LoopK := ⟨13, #[7], as75, bd75, .busy, none⟩
theorem lk75_ready : lk75 = ({ kb75 with st := .ready, pend := none } : LoopK) := by simp only [lk75, kb75]

theorem round75 (ks vs : List AV) (s : List Nat) (K : List OB) (j : Nat) (b : Bytes) (hb : ks.length ≤ 1000000) (hs : s.length ≤ 1000000) (hJ : J75 ks vs (t75 ks vs) lk75 s K) (hk : ks[j]? = some (.str b)) :
    ∃ K', YFn Tryz.prog 2 [.str b] (K.set 3 (.iter ks vs (s ++ [j]))) (.ret (.bool true)) K' ∧ J75 ks vs (t75 ks vs) lk75 (s ++ [j]) K' := by
  obtain ⟨h1, h2, h3, h4⟩ := hJ
  have l3 : 3 < K.length := (List.getElem?_eq_some_iff.1 h3).1
  have hkat : kAt ks j = .str b := by simp [kAt, hk]
  obtain ⟨G, hG⟩ : ∃ G, G = K.set 3 (.iter ks vs (s ++ [j])) := ⟨_, rfl⟩
  have hlG : G.length = K.length := by rw [hG, List.length_set]
  have g : ∀ i, G[i]? = if i = 3 then some (.iter ks vs (s ++ [j])) else K[i]? := by
    intro i
    rw [hG, List.getElem?_set]
    by_cases e : i = 3
    · subst e; simp [l3]
    · rw [if_neg (fun h => e h.symm), if_neg e]
  rw [← hG]
  have hG2 : G[2]? = some (.loop (t75 ks vs) lk75) := by rw [g]; simp [h2]
  -- the loop's record: busy, then ready again
  have hbusy : ∀ i, (G.set 2 (.loop (t75 ks vs) kb75))[i]? = if i = 2 then some (.loop (t75 ks vs) kb75) else G[i]? := by
    intro i
    rw [List.getElem?_set]
    by_cases e : i = 2
    · subst e; simp [hlG]; omega
    · rw [if_neg (fun h => e h.symm), if_neg e]
  have hB0 : ∀ i, i ≠ 2 → (G.set 2 (.loop (t75 ks vs) kb75))[i]? = G[i]? := fun i hi => by rw [hbusy, if_neg hi]
  obtain ⟨B, hB⟩ : ∃ B, B = G.set 2 (.loop (t75 ks vs) kb75) := ⟨_, rfl⟩
  rw [← hB] at hbusy hB0
  have hlB : B.length = K.length := by rw [hB, List.length_set, hlG]
  have hK0 : K[0]? = B[0]? := by rw [hB0 0 (by decide), g]; rfl
  have body : ∀ (v v' : AV) (B' : List OB), K[0]? = some (.cells [v] false) → evAppend Tryz.prog 26 26 v (.vsl 0 true [.str b]) B = some (v', B') → v'.isC = true → B'[0]? = some (.cells [v] false) → B'[2]? = some (.loop (t75 ks vs) kb75) →
      YFn Tryz.prog 2 [.str b] G (.ret (.bool true)) ((B'.set 0 (.cells [v'] false)).set 2 (.loop (t75 ks vs) lk75)) := by
    intro v v' B' hv hap hc hB'0 hB'2
    refine YFn.of hG2 (by simp [lk75]) fun l => ?_
    show W Tryz.prog 13 _ _ (.region 2 _ _) _ ⟨(7, .str b) :: t75 ks vs, G, []⟩
    refine .region [] (by decide) ?_
    simp only [EOps, gdA, callOf, isPanic, nextOf, altA, evalOp, St.ev, Av.get, St.put, putsA, ↓reduceIte, Nat.reduceEqDiff, beginQ]
    refine ⟨t75 ks vs, lk75, hG2, rfl, ?_⟩
    rw [show G.set 2 (.loop (t75 ks vs) { lk75 with st := .busy }) = B from hB.symm]
    show W Tryz.prog 13 _ _ (.block 1 (.region 3 _ _)) _ _
    refine .block (.region [] (by decide) ?_)
    have hld : evLoad Tryz.prog 26 (.ptr 0 0) B = some v := ld25 v 0 B (by rw [← hK0]; exact hv)
    have hst : evStore Tryz.prog 26 (.ptr 0 0) v' B' = some (B'.set 0 (.cells [v'] false)) := st25 v v' 0 B' hB'0 hc
    have hbs : evBuildSlice Tryz.prog 26 1 [(0, .str b)] = some (.vsl 0 true [.str b]) := bs25one _ rfl rfl
    simp only [EOps, gdA, callOf, isPanic, nextOf, altA, evalOp, St.ev, Av.get, St.put, t75, ↓reduceIte, Nat.reduceEqDiff, hld, hst, hbs, hap, Option.map_some, List.map_cons, List.map_nil, blockQ, roundQ]
    have l2 : 2 < B'.length := (List.getElem?_eq_some_iff.1 hB'2).1
    refine ⟨t75 ks vs, kb75, ?_, trivial, congrArg (fun k => (B'.set 0 (.cells [v'] false)).set 2 (.loop (t75 ks vs) k)) lk75_ready⟩
    rw [List.getElem?_set, if_neg (by decide)]
    exact hB'2
  have B2 : B[2]? = some (.loop (t75 ks vs) kb75) := by rw [hbusy]; rfl
  have B1 : B[1]? = some .dfr := by rw [hB0 1 (by decide), g]; exact h1
  have B3 : B[3]? = some (.iter ks vs (s ++ [j])) := by rw [hB0 3 (by decide), g]; rfl
  have fin : ∀ (B' : List OB) (v' : AV), B'[1]? = some .dfr → B'[3]? = some (.iter ks vs (s ++ [j])) → 4 ≤ B'.length → (∀ d, v' = .sl d 0 (s ++ [j]).length 0 → 4 ≤ d → B'[d]? = some (.cells ((s ++ [j]).map (kAt ks)) true) → J75 ks vs (t75 ks vs) lk75 (s ++ [j]) ((B'.set 0 (.cells [v'] false)).set 2 (.loop (t75 ks vs) lk75))) := by
    intro B' v' e1 e3 el d hv hd hcd
    have get' : ∀ i, i ≠ 0 → i ≠ 2 → ((B'.set 0 (.cells [v'] false)).set 2 (.loop (t75 ks vs) lk75))[i]? = B'[i]? := by
      intro i i0 i2
      rw [List.getElem?_set, if_neg (fun h => i2 h.symm), List.getElem?_set, if_neg (fun h => i0 h.symm)]
    refine ⟨by rw [get' 1 (by decide) (by decide)]; exact e1, ?_, by rw [get' 3 (by decide) (by decide)]; exact e3, .inr ⟨d, hd, ?_, by rw [get' d (by omega) (by omega)]; exact hcd⟩⟩
    · rw [List.getElem?_set_self (by rw [List.length_set]; omega)]
    · rw [List.getElem?_set, if_neg (by decide), List.getElem?_set_self (by omega), hv]
  rcases h4 with ⟨rfl, h0⟩ | ⟨d, hd, h0, hcd⟩
  · refine ⟨_, body _ _ _ h0 (ap25new (.str b) B rfl) rfl ?_ ?_, ?_⟩
    · rw [List.getElem?_append_left (by omega), ← hK0]; exact h0
    · rw [List.getElem?_append_left (by omega)]; exact B2
    · refine fin _ _ (by rw [List.getElem?_append_left (by omega)]; exact B1) (by rw [List.getElem?_append_left (by omega)]; exact B3) (by simp; omega) B.length rfl (by omega) ?_
      rw [List.getElem?_append_right (Nat.le_refl _)]
      simp [hkat]
  · have hdB : B[d]? = some (.cells (s.map (kAt ks)) true) := by rw [hB0 d (by omega), g, if_neg (by omega)]; exact hcd
    have hap := ap25more (.str b) B d (s.map (kAt ks)) rfl rfl hdB (by simpa using hs)
    rw [List.length_map] at hap
    have dl : d < B.length := (List.getElem?_eq_some_iff.1 hdB).1
    have ge : ∀ i, i ≠ d → i < B.length → (B.set d .dead ++ [.cells (s.map (kAt ks) ++ [.str b]) true])[i]? = B[i]? := by
      intro i h h'
      rw [List.getElem?_append_left (by simpa using h'), List.getElem?_set, if_neg (fun e => h e.symm)]
    refine ⟨_, body _ _ _ h0 hap rfl ?_ ?_, ?_⟩
    · rw [ge 0 (by omega) (by omega), ← hK0]; exact h0
    · rw [ge 2 (by omega) (by omega)]; exact B2
    · refine fin _ _ (by rw [ge 1 (by omega) (by omega)]; exact B1) (by rw [ge 3 (by omega) (by omega)]; exact B3) (by simp; omega) B.length (by simp) (by omega) ?_
      rw [List.getElem?_append_right (by simp)]
      simp [hkat]

theorem seq75 (l : List Bytes) (vs : List AV) (hlen : vs.length = l.length) (hb : l.length ≤ 1000000) :
    ShFnS Tryz.prog 118 [.vsl 0 true [], .func (.func 96) [] [.vptr [.vmap (l.map .str) vs]]] [] (anyOrder (l.map .str)) := by
  refine ShFnS.of0 Tryz.func118 rfl (enters_call enters Tryz.func118 rfl) (by simp [Tryz.ntmps118]) ?_
  show W Tryz.prog 13 _ none _ _ _
  refine .seq (.region [] (by decide) ?_)
  simp only [EOps, gdA, callOf, isPanic, nextOf, altA, evalOp, St.ev, Av.get, St.put, argT, ofV, thenQ, and_self, if_true, Nat.reduceEqDiff, ↓reduceIte, Option.map_some, AV.told, AV.cells, List.nil_append, List.length_nil]
  refine .seq (.seq (.region [] (by decide) ?_))
  simp only [EOps, gdA, callOf, isPanic, nextOf, altA, evalOp, St.ev, Av.get, St.put, thenQ, Nat.reduceEqDiff, ↓reduceIte, Nat.reduceAdd]
  refine .block ?_
  refine W.rangeFuncS (S := fun out K => out = .ret (.tup []) ∧ ∃ s, J75 (l.map .str) vs (t75 (l.map .str) vs) lk75 s K ∧ s.Nodup ∧ (∀ j, j ∈ s ↔ j < (l.map AV.str).length)) (gf := 96) (fs := []) (cs := [.vptr [.vmap (l.map .str) vs]]) rfl (enters_call enters Tryz.func96 rfl) ?_ ?_
  · refine keys70 (l.map .str) vs 2 _ (J75 (l.map .str) vs (t75 (l.map .str) vs) lk75) (by simpa using hlen) ⟨rfl, rfl, rfl, .inl ⟨rfl, rfl⟩⟩ (fun s K h => h.2.2.1) ?_
    intro s K j k hJ hnd hlt hk hj
    obtain ⟨b, rfl⟩ : ∃ b, k = .str b := by
      rw [List.getElem?_map, Option.map_eq_some_iff] at hk
      obtain ⟨b, _, rfl⟩ := hk
      exact ⟨b, rfl⟩
    exact round75 _ _ s K j b (by simpa using hb) (by have := nodup_lt _ _ hnd hlt; simp at this; omega) hJ hk
  · rintro out K ⟨rfl, s, ⟨h1, h2, h3, h4⟩, hnd, hm⟩
    refine ⟨_, _, _, rfl, h2, by simp [lk75], ?_⟩
    have l3 : 3 < K.length := (List.getElem?_eq_some_iff.1 h3).1
    show behindQ _ _ _ _ _ none
    simp only [behindQ, blockQ, thenQ]
    have hfin : ∀ v : AV, K[0]? = some (.cells [v] false) → evLoad Tryz.prog 26 (.ptr 0 0) (K.set 2 .dead) = some v := by
      intro v hv
      exact ld25 v 0 _ (by rw [List.getElem?_set, if_neg (by decide)]; exact hv)
    have hD : ∀ T, endA ⟨T, K.set 2 .dead, [1]⟩ = some ⟨T, (K.set 2 .dead).set 1 .dead, []⟩ := by
      intro T
      have : (K.set 2 OB.dead)[1]? = some .dfr := by rw [List.getElem?_set, if_neg (by decide)]; exact h1
      simp [endA, takeD, this]
    rcases h4 with ⟨rfl, h0⟩ | ⟨d, hd, h0, hcd⟩
    · refine .seq (.region [] (by decide) ?_)
      simp only [EOps, gdA, callOf, isPanic, nextOf, altA, evalOp, St.ev, Av.get, St.put, ↓reduceIte, Nat.reduceEqDiff, List.length_cons, List.length_nil, Nat.reduceAdd, hfin _ h0, Option.map_some]
      refine .ret ⟨_, hD _, .inl ⟨_, rfl, rfl, [], ?_, .inl ⟨rfl, rfl, rfl⟩⟩⟩
      exact perm_kAt _ _ hnd hm
    · refine .seq (.region [] (by decide) ?_)
      simp only [EOps, gdA, callOf, isPanic, nextOf, altA, evalOp, St.ev, Av.get, St.put, ↓reduceIte, Nat.reduceEqDiff, List.length_cons, List.length_nil, Nat.reduceAdd, hfin _ h0, Option.map_some]
      refine .ret ⟨_, hD _, .inr ⟨d, 0, s.length, 0, s.map (kAt (l.map .str)), true, rfl, ?_, ?_, s.map (kAt (l.map .str)), perm_kAt _ _ hnd hm, .inr ⟨by simp, rfl⟩⟩⟩
      · show ((K.set 2 OB.dead).set 1 OB.dead)[d]? = _
        rw [List.getElem?_set, if_neg (by omega), List.getElem?_set, if_neg (by omega)]; exact hcd
      · rw [hfs_all, List.all_eq_true]
        intro x hx
        obtain ⟨j, hj, rfl⟩ := List.mem_map.1 hx
        have hjl := (hm j).1 hj
        simp at hjl
        simp [kAt, hjl, AV.hf]
end Go.Proofs.YtmeijkidjifagaaGreat.K
namespace Go.Proofs.YtmeijkidjifagaaGreat.K
set_option linter.unusedVariables false
set_option linter.unusedSimpArgs false
open Go Go.Av

theorem anyOrder_hfs {l : List Bytes} {p : List AV} (h : p.Perm (l.map .str)) : AV.hfs p = true := by
  rw [hfs_all, List.all_eq_true]
  intro x hx
  obtain ⟨b, _, rfl⟩ := List.mem_map.1 (h.mem_iff.1 hx)
  rfl

theorem col73 (l : List Bytes) (vs : List AV) (hlen : vs.length = l.length) (hb : l.length ≤ 1000000) :
    ShFnS Tryz.prog 111 [.func (.func 96) [] [.vptr [.vmap (l.map .str) vs]]] [] (anyOrder (l.map .str)) := by
  refine ShFnS.of0 Tryz.func111 rfl (enters_call enters Tryz.func111 rfl) (by simp [Tryz.ntmps111]) ?_
  show W Tryz.prog 5 _ none _ _ _
  refine .seq (.region [] (by decide) ?_)
  simp only [EOps, gdA, callOf, isPanic, nextOf, altA, evalOp, St.ev, Av.get, St.put, argT, ofV, thenQ, Nat.reduceEqDiff, ↓reduceIte]
  refine .seq (.region [.any (anyOrder (l.map .str))] (by decide) ?_)
  simp only [EOps, gdA, callOf, isPanic, nextOf, altA, evalOp, St.ev, Av.get, St.put, ofV, thenQ, Nat.reduceEqDiff, ↓reduceIte, List.map_cons, List.map_nil, List.nil_append, List.append_nil, and_self]
  refine ⟨seq75 l vs hlen hb, ?_⟩
  rintro out K ⟨p, hp, ⟨rfl, rfl, rfl⟩ | ⟨rfl, rfl⟩⟩
  · exact .ret ⟨_, rfl, .inl ⟨_, rfl, rfl, [], hp, .inl ⟨rfl, rfl, rfl⟩⟩⟩
  · exact .ret ⟨_, rfl, .inr ⟨0, 0, p.length, 0, p, true, rfl, rfl, anyOrder_hfs hp, p, hp, .inr ⟨rfl, rfl⟩⟩⟩

theorem sorted69 (l : List Bytes) (vs : List AV) (r : List Bytes) (hlen : vs.length = l.length) (hb : l.length ≤ 1000000) (hne : l ≠ []) (hr : r.length = l.length)
    (hsort : ∀ p : List AV, p.Perm (l.map .str) → ShFn Tryz.prog 112 [.sl 0 0 p.length 0] [.cells p true] (.ret (.tup [])) [.cells (r.map .str) true]) :
    PureFn Tryz.prog 95 [.func (.func 96) [] [.vptr [.vmap (l.map .str) vs]]] (.ret (.vsl 0 false (r.map .str))) := by
  refine PureFn.of Tryz.func95 rfl (enters_call enters Tryz.func95 rfl) (by simp [Tryz.ntmps95]) ?_
  show W Tryz.prog 9 _ none _ _ _
  refine .seq (.region [] (by decide) ?_)
  simp only [EOps, gdA, callOf, isPanic, nextOf, altA, evalOp, St.ev, Av.get, St.put, argT, ofV, thenQ, Nat.reduceEqDiff, ↓reduceIte]
  refine .seq (.region [.any (anyOrder (l.map .str))] (by decide) ?_)
  simp only [EOps, gdA, callOf, isPanic, nextOf, altA, evalOp, St.ev, Av.get, St.put, ofV, thenQ, Nat.reduceEqDiff, ↓reduceIte, List.map_cons, List.map_nil, List.nil_append, List.append_nil, and_self]
  refine ⟨col73 l vs hlen hb, ?_⟩
  rintro out K ⟨p, hp, ⟨rfl, rfl, rfl⟩ | ⟨rfl, rfl⟩⟩
  · have := hp.length_eq
    simp at this
    exact (hne (List.eq_nil_of_length_eq_zero this.symm)).elim
  · have hpl : p.length = r.length := by have := hp.length_eq; simp at this; omega
    simp only [thenQ]
    refine .seq (.region [.sh (.ret (.tup [])) [.cells (r.map .str) true]] (by decide) ?_)
    simp only [EOps, gdA, callOf, isPanic, nextOf, altA, evalOp, St.ev, Av.get, St.put, ofV, thenQ, Nat.reduceEqDiff, ↓reduceIte, List.map_cons, List.map_nil, List.nil_append, List.append_nil, and_self, ClOK]
    refine ⟨hsort p hp, ?_⟩
    refine .seq (.region [] (by decide) ?_)
    simp only [EOps, gdA, callOf, isPanic, nextOf, altA, evalOp, St.ev, Av.get, St.put, ofV, thenQ, Nat.reduceEqDiff, ↓reduceIte]
    refine .ret ⟨_, rfl, .vsl 0 false (r.map .str), ?_, .refl _⟩
    show (resA Tryz.prog [.tmp 2] _).bind _ = _
    have h1 : AV.hfs (r.map .str) = true := anyOrder_hfs (List.Perm.refl _)
    have h2 : (r.map AV.str).all AV.one = true := by rw [List.all_eq_true]; intro x hx; obtain ⟨b, _, rfl⟩ := List.mem_map.1 hx; rfl
    have h3 : ((r.map AV.str).drop 0).take p.length = r.map .str := by rw [List.drop_zero, hpl]; exact List.take_of_length_le (by simp)
    have := fz_sl0 (H := [.cells (r.map .str) true]) (id := 0) (off := 0) (len := p.length) (k := 19) (opn := true) rfl (by simp; omega) (by rw [h3]; exact h1) (by rw [h3]; exact h2)
    rw [h3] at this
    exact this
end Go.Proofs.YtmeijkidjifagaaGreat.K
namespace Go.Proofs.YtmeijkidjifagaaGreat.K
set_option linter.unusedVariables false
set_option linter.unusedSimpArgs false
open Go Go.Av

theorem perm2 {α : Type} {p : List α} {a b : α} (h : p.Perm [a, b]) : p = [a, b] ∨ p = [b, a] := by
  cases p with
  | nil => exact (by simpa using h.length_eq : False).elim
  | cons x p =>
    have hx : x ∈ [a, b] := h.mem_iff.1 (by simp)
    simp at hx
    rcases hx with rfl | rfl
    · have := List.perm_singleton.1 h.cons_inv; subst this; exact .inl rfl
    · have := List.perm_singleton.1 (h.trans (List.Perm.swap x a [])).cons_inv; subst this; exact .inr rfl

theorem perm3 {α : Type} {p : List α} {a b c : α} (h : p.Perm [a, b, c]) : p = [a, b, c] ∨ p = [a, c, b] ∨ p = [b, a, c] ∨ p = [b, c, a] ∨ p = [c, a, b] ∨ p = [c, b, a] := by
  cases p with
  | nil => exact (by simpa using h.length_eq : False).elim
  | cons x p =>
    have hx : x ∈ [a, b, c] := h.mem_iff.1 (by simp)
    simp at hx
    rcases hx with rfl | rfl | rfl
    · rcases perm2 h.cons_inv with rfl | rfl
      · exact .inl rfl
      · exact .inr (.inl rfl)
    · rcases perm2 (h.trans (List.Perm.swap x a [c])).cons_inv with rfl | rfl
      · exact .inr (.inr (.inl rfl))
      · exact .inr (.inr (.inr (.inl rfl)))
    · have h3 : [a, b, x].Perm [x, a, b] := ((List.Perm.swap x b []).cons a).trans (List.Perm.swap x a [b])
      rcases perm2 (h.trans h3).cons_inv with rfl | rfl
      · exact .inr (.inr (.inr (.inr (.inl rfl))))
      · exact .inr (.inr (.inr (.inr (.inr rfl))))

def wayS : Ways := { pm := fun f => !([112,119,122,123,124,126,127,129,130,133].contains f), gm := fun _ => false, conP := fun _ _ => none, conS := fun _ _ _ => none, fuel := 2000 }
theorem wayS_ok : WaysRight Tryz.prog wayS := ⟨by kernel_rfl, enters, fun f args out h => (by cases h), fun f args H out H' h => (by cases h)⟩

theorem sort_run (p : List AV) (h : callN Tryz.prog wayS 40 (.fn 112) [.sl 0 0 3 0] [.cells p true] = some (.ret (.tup []), [.cells [.str [99, 110], .str [115, 110], .str [120]] true])) :
    ShFn Tryz.prog 112 [.sl 0 0 3 0] [.cells p true] (.ret (.tup [])) [.cells [.str [99, 110], .str [115, 110], .str [120]] true] := (callN_ok wayS_ok 40).1 (.fn 112) _ _ _ _ h

theorem sort3 (p : List AV) (h : p.Perm [.str [99, 110], .str [115, 110], .str [120]]) : ShFn Tryz.prog 112 [.sl 0 0 p.length 0] [.cells p true] (.ret (.tup [])) [.cells [.str [99, 110], .str [115, 110], .str [120]] true] := by
  rcases perm3 h with rfl | rfl | rfl | rfl | rfl | rfl
  · exact sort_run _ (by kernel_rfl)
  · exact sort_run _ (by kernel_rfl)
  · exact sort_run _ (by kernel_rfl)
  · exact sort_run _ (by kernel_rfl)
  · exact sort_run _ (by kernel_rfl)
  · exact sort_run _ (by kernel_rfl)

theorem sorted3 (u v w : AV) : PureFn Tryz.prog 95 [.func (.func 96) [] [.vptr [.vmap [.str [99, 110], .str [115, 110], .str [120]] [u, v, w]]]] (.ret (.vsl 0 false [.str [99, 110], .str [115, 110], .str [120]])) :=
  sorted69 [[99, 110], [115, 110], [120]] [u, v, w] [[99, 110], [115, 110], [120]] rfl (by decide) (by decide) rfl sort3

def conP (f : FuncId) (a : List AV) : Option Out :=
  match f, a with
    | 50, [.vsl 0 _ []] => some (.ret (.vsl 0 true []))
    | 95, [.func (.func 96) [] [.vptr [.vmap [.str [99, 110], .str [115, 110], .str [120]] [_, _, _]]]] => some (.ret (.vsl 0 false [.str [99, 110], .str [115, 110], .str [120]]))
    | _, _ => none
def ways : Ways := { pm := fun f => !([77,100,102,96,86,110,63,89,90,91,62].contains f), gm := fun f => f == 62, conP := conP, conS := fun _ _ _ => none, fuel := 2000 }

theorem ways_ok : WaysRight Tryz.prog ways := by
  refine ⟨by kernel_rfl, enters, fun f args out h => ?_, fun f args H out H' h => (by cases h)⟩
  simp only [ways, conP] at h
  split at h
  · cases h; exact clone21 _
  · cases h; exact sorted3 _ _ _
  · cases h
end Go.Proofs.YtmeijkidjifagaaGreat.K
namespace Go.Proofs.YtmeijkidjifagaaGreat.K
set_option linter.unusedVariables false
set_option linter.unusedSimpArgs false
open Go Go.Av
theorem known5_run : endP Tryz.prog Tryz.f8 (runC Tryz.prog (callN Tryz.prog ways 40) ways.pm Tryz.f8.ntmps false ways.fuel (Tryz.f8.body.getD .skip) ⟨argT 0 [], [], []⟩) = some (.ret (.bool true)) := by kernel_rfl
theorem known5 : PureFn Tryz.prog 8 [] (.ret (.bool true)) := PureFn.run ways_ok 40 Tryz.func8 rfl (by simp) known5_run
end Go.Proofs.YtmeijkidjifagaaGreat.K
