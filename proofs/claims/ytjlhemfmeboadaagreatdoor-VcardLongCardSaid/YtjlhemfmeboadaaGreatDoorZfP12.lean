/- Contracts of functions that the statements of this seat reach: under the conditions named at each theorem. -/
import Derived.Test.YtjlhemfmeboadaaGreatDoorZfP11
namespace Go.Proofs.YtjlhemfmeboadaaGreatDoor
set_option linter.unusedVariables false
set_option linter.unusedSimpArgs false
open Go Go.Av Go.RowKit

theorem leadN_at:∀ (cs s:Bytes) (x:UInt8),s[leadN cs s]? = some x→x ∈ cs
 | cs,[],x,h=>by simp at h
 | cs,y::t,x,h=>by
  unfold leadN at h
  split at h
  ·rename_i hy; simp at h; subst h; exact hy
  ·exact leadN_at cs t x (by simpa using h)
theorem leadN_lt:∀ (cs s:Bytes) (j:Nat),j < leadN cs s→∃ x,s[j]? = some x∧x ∉ cs
 | cs,[],j,h=>by simp [leadN] at h
 | cs,y::t,j,h=>by
  unfold leadN at h
  split at h
  ·omega
  ·rename_i hy
   cases j with
   | zero=>exact ⟨y,rfl,hy⟩
   | succ j=>
    obtain ⟨x,h1,h2⟩:=leadN_lt cs t j (by omega)
    exact ⟨x,by simpa using h1,h2⟩
noncomputable def pgTail:Code:=match Tryz.f47.body with
 | some (.seq _ (.seq _ (.seq _ (.seq _ c))))=>c
 | _=>.skip
def pgV (k:Nat) (z:Bool) (L:List (Bytes × Bytes)):AV:=if z then .sl (2 + k) 0 L.length 3 else .nilsl
def pgB (g n:Bytes) (v:AV):List OB:=[lrZ,.cells [.str g,.str n,v,.str []] false]
def pgOut (q:Ln × Bool):Out:=.ret (.tup [encLn q.1,.bool q.2])
theorem pgV_deN {k:Nat} {z:Bool} {L:List (Bytes × Bytes)} (h:z = false→L = []):deN (pgV k z L) = memV 2 0 3 encR k z L:=by
 cases z
 ·rw [h rfl]; rfl
 ·rfl
theorem pgV_hlt {k m:Nat} {z:Bool} {L:List (Bytes × Bytes)} (h:z = true→2 + k < m):(pgV k z L).hlt m = true:=by
 cases z
 ·rfl
 ·simp [pgV,AV.hlt,h rfl]
theorem pgB_hlt {g n:Bytes} {v:AV} {m:Nat} (hv:v.hlt m = true):(pgB g n v).all (OB.hlt m) = true:=by
 simp [pgB,lrZ,OB.hlt,AV.hlts,AV.hlt,hv]
theorem sl1 {s:Bytes} (h:s ≠ []):evSlice Tryz.prog 9 (.str s) (some (.int .i64 1)) none none = some (.str (s.drop 1)):=by
 have:1≤s.length:=List.length_pos_iff.2 h
 have:=bnds_from (n:=s.length) .i64 1 this
 rw [ss9]
 rw [show ((1:Int)) = ((1:Nat):Int) from rfl,this]
 simp only [Option.map_some,take_drop_all]
theorem x0s {s:Bytes} {c:UInt8} (h:s[0]? = some c):evIndex Tryz.prog 9 (.str s) (.int .i64 0) = some (.int .u8 c.toNat):=xi9 (n:=0) h
theorem isn (t:Bytes):Le (.bool (decide ((t.length:Int) > 0))) (.bool (!t.isEmpty)):=by
 cases t
 ·simp [Le_rfl]
 ·rw [decide_eq_true (by simp)]; simp [Le_rfl]
theorem ne_at {s:Bytes} (h:s ≠ []):∃ c,s[0]? = some c:=by
 cases s with
 | nil=>exact (h rfl).elim
 | cons c t=>exact ⟨c,rfl⟩
set_option maxRecDepth 8000 in
theorem parsedT (g n u0 : Bytes) (hu0 : u0.length ≤ 1000000) (T : List (Nat × AV)) (hT : holdsT T [(2, .ptr 0 0), (7, .ptr 1 0), (5, .str u0), (6, .bool (!u0.isEmpty))]) :
    W Tryz.prog 148 0 none pgTail (retQ Tryz.prog Tryz.f47.results.toList (pgOut (tailG g n u0))) ⟨T, pgB g n .nilsl, []⟩ := by
  refine W.fewer _ hT ?_
  have hbp : evBuild Tryz.prog 54 [] = some (.agg [.str [], .str []]) := by kernel_rfl
  have hb1 : ∀ p q : Bytes, evBuildSlice Tryz.prog 43 1 [(0, .agg [.str p, .str q])] = some (.vsl 3 true [encR (p, q)]) := by
    intro p q; simp [evBuildSlice, Tryz.underlying43, ap43, AV.cells, AV.told, List.range', encR]
  refine .seq (.block ?_)
  refine W.loopG (X := Bytes × Bool × List (Bytes × Bytes) × Nat × Nat × Bool × Nat) (fun x => [(2, .ptr 0 0), (7, .ptr 1 0), (5, .str x.1), (6, .bool x.2.1)])
    (fun x => mem (pgB g n (pgV x.2.2.2.1 x.2.2.2.2.2.1 x.2.2.1)) encR x.2.2.2.1 x.2.2.2.2.1 x.2.2.2.2.2.1 x.2.2.1)
    (fun x => x.1.length + x.2.2.1.length ≤ 1000000 ∧ x.1.length < x.2.2.2.2.2.2 ∧ (x.2.2.2.2.2.1 = false → x.2.2.1 = []) ∧ (x.2.1 = true → x.1 ≠ []) ∧ endG g n (psG x.2.2.2.2.2.2 x.2.2.1 x.1 x.2.1) = tailG g n u0)
    (fun x => x.1.length) (u0, !u0.isEmpty, [], 0, 0, false, u0.length + 1) (fun _ => Nat.zero_le _) rfl ⟨by simpa using hu0, Nat.lt_succ_self _, fun _ => rfl, (by intro h e; simp only at e; subst e; cases h), rfl⟩ ?_ ?_ ?_ ?_
  · simp only [subT, Av.get, Nat.reduceEqDiff, ↓reduceIte, Le_rfl, nat0, nat1, and_self, true_and, and_true, List.length_map, List.length_nil]
  · simp [hltT, AV.hlt, mem_len, pgB]
  · simp [mem, pgB, pgV, lrZ, subH, OB.hlt, AV.hlts, AV.hlt]
  rintro ⟨s, is, L, k, j, z, fu⟩ ⟨l1, l2, l3, l4, l5⟩
  simp only at l1 l2 l3 l4 l5 ⊢
  obtain ⟨v, hv⟩ : ∃ v, v = pgV k z L := ⟨_, rfl⟩
  obtain ⟨M, hM⟩ : ∃ M, M = mem (pgB g n (pgV k z L)) encR k j z L := ⟨_, rfl⟩
  have hM0 : M[0]? = some (.cells [.str [], .str [], .nilsl, .str []] false) := by rw [hM, mem_get (by simp [pgB])]; rfl
  have hM1 : M[1]? = some (.cells [.str g, .str n, v, .str []] false) := by rw [hM, mem_get (by simp [pgB]), hv]; rfl
  have hMl : 2 ≤ M.length := by rw [hM, mem_len]; simp [pgB]; omega
  have hvC : v.isC = true := by rw [hv]; cases z <;> rfl
  have hv1 : v.cells = [v] := by rw [hv]; cases z <;> rfl
  have hvd : deN v = memV 2 0 3 encR k z L := by rw [hv]; exact pgV_deN l3
  have hvz : ∀ H : List OB, (∀ i, 2 ≤ i → i < M.length → H[i]? = M[i]?) → ∃ u, fz H 18 v = some u ∧ Le u (.vsl 3 false (L.map encR)) := by
    intro H hH
    cases z with
    | false => rw [hv, l3 rfl]; exact ⟨_, rfl, .nils _ _⟩
    | true =>
      rw [hv]
      refine slIn_fz (n := 2) (k := 17) (by decide) (fun x => ⟨[.str x.1, .str x.2], rfl, rfl⟩) (fun _ => rfl) (.inr ⟨2 + k, rfl, ?_⟩)
      have hlt : 2 + k < M.length := by rw [hM, mem_len]; simp [pgB]
      rw [hH _ (by omega) hlt, hM]
      exact mem_at (B := pgB g n (pgV k true L))
  rw [← hM]
  have gone : ∀ (T : List (Nat × AV)) (E : List OB), tailG g n u0 = (⟨g, n, false, L, []⟩, false) → Av.get T 2 = .ptr 0 0 → Av.get T 3 = .bool false →
      retQ Tryz.prog Tryz.f47.results.toList (pgOut (tailG g n u0)) .ret ⟨T, M.set 0 (.cells [.str g, .str n, v, .str []] false) ++ E, []⟩ := by
    intro T E ht h2 h3
    rw [ht]
    refine retQct (v := .agg [.str g, .str n, v, .str []]) (u := .bool false) 2 45 3 rfl rfl ?_ h3 ⟨fz_aggL (k := 17) (ts := [.str g, .str n, .vsl 3 false (L.map encR), .str []]) (LzL_hf rfl (LzL_hf rfl ⟨hvz _ (fun i hi hl => by rw [List.getElem?_append_left (by rw [List.length_set]; exact hl), List.getElem?_set_ne (by omega)]), LzL_hf rfl trivial⟩)), LzL_hf rfl trivial⟩
    simp only [h2]
    rw [ld45]
    simp only [ldG]
    rw [List.getElem?_append_left (by rw [List.length_set]; omega), List.getElem?_set_self (by omega)]
    rfl
  have gone0 : ∀ (T : List (Nat × AV)), tailG g n u0 = (⟨g, n, false, L, []⟩, false) → Av.get T 2 = .ptr 0 0 → Av.get T 3 = .bool false →
      retQ Tryz.prog Tryz.f47.results.toList (pgOut (tailG g n u0)) .ret ⟨T, M.set 0 (.cells [.str g, .str n, v, .str []] false), []⟩ := by
    intro T ht h2 h3
    have := gone T [] ht h2 h3
    rwa [List.append_nil] at this
  obtain ⟨fu, rfl⟩ : ∃ f, fu = f + 1 := ⟨fu - 1, by omega⟩
  rw [psG] at l5
  refine .vc (by decide) ?_
  by_cases q : is = true ∧ s[0]? = some 59
  · obtain ⟨q1, q2⟩ := q
    subst q1
    have hsne := l4 rfl
    have hsl : 0 < s.length := List.length_pos_iff.2 hsne
    rw [if_pos ⟨rfl, q2⟩] at l5
    have hx0 := x0s q2
    have hsl1 := sl1 hsne
    have hnm := nameRf (s.drop 1) (by simp; omega)
    have h59 : (UInt8.toNat 59) = 59 := rfl
    rw [h59] at hx0
    cases hn : nmR (s.drop 1) with
    | none =>
      rw [hn] at hnm
      have hp : prRf (s.drop 1) = none := by simp only [prRf, hn]
      rw [hp] at l5
      have ht : tailG g n u0 = (⟨g, n, false, L, []⟩, false) := by rw [← l5]; rfl
      repeat' (first | (simp (disch := first | omega | (simp only [List.length_append, List.length_cons, List.length_nil, List.length_map, List.length_set]; omega)) only [VC_skip, VC_seq, VC_cond, VC_block, VC_ret, VC_region, VI_true, VO_nil, VO_plain, VO_guard, VG_true, VG_false, VV_some, VS, blockQ, u_notb, ofV_bool, ofV_int, deN_str, gdA, callOf, isPanic, nextOf, altA, evalOp, ev_tmp, ev_const, ev_func, Av.get, St.put, thenQ, Nat.reduceEqDiff, ↓reduceIte, Bool.and_self, List.map_cons, List.map_nil, List.nil_append, List.append_nil, List.getElem?_cons_zero, List.getElem?_cons_succ, List.getElem?_toArray, Option.map_some, Option.map_none, Option.bind_some, beq_false, beq_true, Bool.not_true, Bool.not_false, pickA, cond_true, ldG, stC, cl_str, ic_str, cl_agg, setC, List.set_cons_zero, List.set_cons_succ, List.length_cons, List.length_nil, Nat.reduceAdd, Nat.reduceLeDiff, List.all_cons, List.all_nil, and_self, Nat.add_zero, Nat.zero_add, List.drop_zero, List.take_succ_cons, List.take_zero, Nat.le_refl, b_eql, ieq_t, st9, st45, ld45, st54, fa54_0, zz54, hx0, hsl1, hbp, hM0, hM1, hvC, hv1, List.getElem?_append_left, List.getElem?_append_right, List.set_append_left, List.set_append_right, Nat.sub_self]) | (guard_target =~ VCall _ _ _ _ _ _ _; refine VCall.pure (by first | with_reducible exact hnm) (by (first | rfl | (simp only [AV.hfs, AV.hf, Bool.and_self, Bool.and_true, Bool.true_and, strs_hfs]))) ?_) | (guard_target =~ DCal _ _ _ _ _ _ _; refine DCal.pure (by first | with_reducible exact hnm) (by (first | rfl | (simp only [AV.hfs, AV.hf, Bool.and_self, Bool.and_true, Bool.true_and, strs_hfs]))) ?_))
      exact gone _ _ ht rfl rfl
    | some pq =>
      obtain ⟨pn, t⟩ := pq
      rw [hn] at hnm
      have htne := nmR_ne hn
      have htl := nmR_len hn
      obtain ⟨c, hc⟩ := ne_at htne
      have hxc := x0s hc
      by_cases h61 : c.toNat = 61
      · have hc61 : t[0]? = some 61 := by rw [hc, UInt8.toNat_inj.1 (show c.toNat = (61 : UInt8).toNat from h61)]
        have hslt := sl1 htne
        obtain ⟨r, hr⟩ : ∃ r, r = t.drop 1 := ⟨_, rfl⟩
        rw [← hr] at hslt
        have hrl : r.length + 1 ≤ s.length := by rw [hr]; simp at htl ⊢; omega
        obtain ⟨N, hN⟩ : ∃ N, N = M.length := ⟨_, rfl⟩
        have fin : ∀ (T : List (Nat × AV)) (val rest : Bytes) (c0 : List Code) (tl : Code), prRf (s.drop 1) = some ((pn, val), rest) → True := fun _ _ _ _ _ _ => trivial
        obtain ⟨hfin, hfin2⟩ : (∀ val rest, prRf (s.drop 1) = some ((pn, val), rest) → rest.length < s.length) ∧ True := ⟨fun val rest h => by have := prRf_len h; simp at this; omega, trivial⟩
        have app : ∀ val : Bytes, ∃ M', evAppend Tryz.prog 43 43 (memV 2 0 3 encR k z L) (.vsl 3 true [encR (pn, val)]) (M ++ [.cells [.str pn, .str val] false]) = some (.sl (2 + (M.length + 1 - 2)) 0 (L.length + 1) 3, M') ∧ M'[1]? = some (.cells [.str g, .str n, v, .str []] false) ∧
            (∀ rest : Bytes, subH (mem (pgB g n (pgV (M.length + 1 - 2) true (L ++ [(pn, val)]))) encR (M.length + 1 - 2) 0 true (L ++ [(pn, val)])).length (M'.set 1 (.cells [.str g, .str n, .sl (2 + (M.length + 1 - 2)) 0 (L.length + 1) 3, .str []] false)) (mem (pgB g n (pgV (M.length + 1 - 2) true (L ++ [(pn, val)]))) encR (M.length + 1 - 2) 0 true (L ++ [(pn, val)]))) := by
          intro val
          obtain ⟨M', ha1, ha2, ha3, ha4, ha5⟩ := mem_app (wd := 3) (bytes := 32) Tryz.underlying43 ap43 encR encR_cells (fun _ => rfl) (by decide) (pgB g n (pgV k z L)) k j z L (w0 := 0) (fun hz => .inr (l3 hz)) [.cells [.str pn, .str val] false] (pn, val) true (by omega) hM
          have hBl : (pgB g n (pgV k z L)).length = 2 := rfl
          have hel : [OB.cells [AV.str pn, .str val] false].length = 1 := rfl
          rw [hBl, hel] at ha1 ha4
          refine ⟨M', ?_, by rw [ha5 1 (by simp [pgB]), hv]; rfl, ?_⟩
          · rw [ha1]; simp [memV]
          · intro rest
            have h4 := ha4 (mem (pgB g n (pgV (M.length + 1 - 2) true (L ++ [(pn, val)]))) encR (M.length + 1 - 2) 0 true (L ++ [(pn, val)])).length (pgB_hlt (pgV_hlt fun hz => ?_)) (encRc_hlts _)
            · have h5 := subH_set (b := .cells [.str g, .str n, pgV (M.length + 1 - 2) true (L ++ [(pn, val)]), .str []] false) (i := 1) ?_ h4
              · rw [mem_set (by simp [pgB])] at h5
                have e : (pgB g n (pgV k z L)).set 1 (.cells [.str g, .str n, pgV (M.length + 1 - 2) true (L ++ [(pn, val)]), .str []] false) = pgB g n (pgV (M.length + 1 - 2) true (L ++ [(pn, val)])) := rfl
                rw [e] at h5
                simpa [pgV] using h5
              · have : (pgV (M.length + 1 - 2) true (L ++ [(pn, val)])).hlt (mem (pgB g n (pgV (M.length + 1 - 2) true (L ++ [(pn, val)]))) encR (M.length + 1 - 2) 0 true (L ++ [(pn, val)])).length = true := pgV_hlt fun _ => by rw [mem_len]; simp [pgB]
                simp only [OB.hlt, AV.hlts, AV.hlt, this, Bool.and_true, Bool.true_and]
            · rw [mem_len]
              rw [hM, mem_len, hz]; simp [pgB]; omega
        have last : ∀ (val rest : Bytes) (T : List (Nat × AV)) (M' : List OB), prRf (s.drop 1) = some ((pn, val), rest) → subT T [(2, .ptr 0 0), (7, .ptr 1 0), (5, .str rest), (6, .bool (!rest.isEmpty))] →
            subH (mem (pgB g n (pgV (M.length + 1 - 2) true (L ++ [(pn, val)]))) encR (M.length + 1 - 2) 0 true (L ++ [(pn, val)])).length M' (mem (pgB g n (pgV (M.length + 1 - 2) true (L ++ [(pn, val)]))) encR (M.length + 1 - 2) 0 true (L ++ [(pn, val)])) →
            ∃ y : Bytes × Bool × List (Bytes × Bytes) × Nat × Nat × Bool × Nat, (y.1.length + y.2.2.1.length ≤ 1000000 ∧ y.1.length < y.2.2.2.2.2.2 ∧ (y.2.2.2.2.2.1 = false → y.2.2.1 = []) ∧ (y.2.1 = true → y.1 ≠ []) ∧ endG g n (psG y.2.2.2.2.2.2 y.2.2.1 y.1 y.2.1) = tailG g n u0) ∧ y.1.length < s.length ∧ subT T [(2, .ptr 0 0), (7, .ptr 1 0), (5, .str y.1), (6, .bool y.2.1)] ∧
              hltT (mem (pgB g n (pgV y.2.2.2.1 y.2.2.2.2.2.1 y.2.2.1)) encR y.2.2.2.1 y.2.2.2.2.1 y.2.2.2.2.2.1 y.2.2.1).length [(2, .ptr 0 0), (7, .ptr 1 0), (5, .str y.1), (6, .bool y.2.1)] = true ∧
              subH (mem (pgB g n (pgV y.2.2.2.1 y.2.2.2.2.2.1 y.2.2.1)) encR y.2.2.2.1 y.2.2.2.2.1 y.2.2.2.2.2.1 y.2.2.1).length M' (mem (pgB g n (pgV y.2.2.2.1 y.2.2.2.2.2.1 y.2.2.1)) encR y.2.2.2.1 y.2.2.2.2.1 y.2.2.2.2.2.1 y.2.2.1) := by
          intro val rest T M' hp hT hM'
          have hlr := hfin val rest hp
          rw [hp] at l5
          refine ⟨(rest, !rest.isEmpty, L ++ [(pn, val)], M.length + 1 - 2, 0, true, fu), ⟨by simp only [List.length_append, List.length_cons, List.length_nil]; omega, by simp only; omega, (fun h => by cases h), (by intro h e; simp only at e; subst e; cases h), l5⟩, hlr, hT, ?_, hM'⟩
          simp [hltT, AV.hlt, mem_len, pgB]; omega
        by_cases h34 : r[0]? = some 34
        · have hrne : r ≠ [] := by intro e; rw [e] at h34; cases h34
          have hxr := x0s h34
          have e34 : (UInt8.toNat 34) = 34 := rfl
          rw [e34] at hxr
          have hrpos : 0 < r.length := List.length_pos_iff.2 hrne
          repeat' (first | (simp (disch := first | omega | (simp only [List.length_append, List.length_cons, List.length_nil, List.length_map, List.length_set]; omega)) only [VC_skip, VC_seq, VC_cond, VC_block, VC_region, VC_loop, VI_true, VI_false, VO_nil, VO_plain, VO_guard, VG_true, VV_some, VS, u_notb, ofV_bool, ofV_int, deN_str, gdA, callOf, isPanic, nextOf, altA, evalOp, ev_tmp, ev_const, ev_func, Av.get, St.put, thenQ, Nat.reduceEqDiff, ↓reduceIte, Bool.and_self, List.map_cons, List.map_nil, List.nil_append, List.append_nil, List.getElem?_cons_zero, List.getElem?_cons_succ, List.getElem?_toArray, Option.map_some, Option.map_none, Option.bind_some, beq_false, beq_true, Bool.not_true, Bool.not_false, pickA, cond_true, cond_false, stC, cl_str, ic_str, cl_agg, setC, List.set_cons_zero, List.set_cons_succ, List.length_cons, List.length_nil, Nat.reduceAdd, Nat.reduceLeDiff, List.all_cons, List.all_nil, and_self, Nat.add_zero, Nat.zero_add, Nat.le_refl, b_gtr, b_eql, b_neq, ieq_t, ine_f, decide_eq_true, st9, ls9, st54, fa54_0, zz54, hx0, hsl1, hbp, hM0, hM1, hvC, hv1, hxc, hslt, hxr, List.getElem?_append_right, List.set_append_right, Nat.sub_self]) | (guard_target =~ VCall _ _ _ _ _ _ _; refine VCall.pure (by first | with_reducible exact hnm) (by (first | rfl | (simp only [AV.hfs, AV.hf, Bool.and_self, Bool.and_true, Bool.true_and, strs_hfs]))) ?_) | (guard_target =~ DCal _ _ _ _ _ _ _; refine DCal.pure (by first | with_reducible exact hnm) (by (first | rfl | (simp only [AV.hfs, AV.hf, Bool.and_self, Bool.and_true, Bool.true_and, strs_hfs]))) ?_))
          obtain ⟨qd, hqd⟩ : ∃ qd, qd = leadN [34] (r.drop 1) := ⟨_, rfl⟩
          have hqle := leadN_le [34] (r.drop 1)
          rw [← hqd, List.length_drop] at hqle
          refine W.loopT (X := Nat) (fun i => [(9, .int .i64 (i : Int)), (8, .ptr M.length 0), (5, .str r), (2, .ptr 0 0), (7, .ptr 1 0), (6, .bool true)]) (fun _ => M ++ [.cells [.str pn, .str []] false]) (fun i => 1 ≤ i ∧ i ≤ qd + 1) (fun i => qd + 1 - i) 1 ⟨Nat.le_refl _, by omega⟩ ⟨rfl, rfl, rfl, rfl, rfl, rfl, trivial⟩ rfl ?_
          rintro i ⟨hi1, hi2⟩
          refine .vc (by decide) ?_
          by_cases hiq : i < qd + 1
          · obtain ⟨y, hy, hyn⟩ := leadN_lt [34] (r.drop 1) (i - 1) (by omega)
            rw [List.getElem?_drop, show 1 + (i - 1) = i from by omega] at hy
            have hil : i < r.length := (List.getElem?_eq_some_iff.1 hy).1
            have hyn' : y.toNat ≠ 34 := by intro e; apply hyn; rw [UInt8.toNat_inj.1 (show y.toNat = (34 : UInt8).toNat from e)]; simp
            repeat' (first | (simp (disch := first | omega | (simp only [List.length_append, List.length_cons, List.length_nil, List.length_map, List.length_set]; omega)) only [VC_skip, VC_seq, VC_cond, VC_block, VC_region, VI_true, VO_nil, VO_plain, VO_guard, VG_true, VV_some, VS, blockQ, ofV_bool, ofV_int, deN_str, gdA, callOf, isPanic, nextOf, altA, evalOp, ev_tmp, ev_const, Av.get, St.put, thenQ, Nat.reduceEqDiff, ↓reduceIte, List.getElem?_cons_zero, List.getElem?_cons_succ, List.getElem?_toArray, Option.map_some, Option.bind_some, beq_true, pickA, cond_true, and_self, and_true, b_lss, b_neq, b_add64, ine_t, castS, decide_eq_true, ls9, xi9 hy]))
            exact ⟨i + 1, ⟨by omega, by omega⟩, by omega, ⟨rfl, rfl, rfl, rfl, rfl, rfl, trivial⟩⟩
          · have e : i = qd + 1 := by omega
            subst e
            by_cases hq : qd < (r.drop 1).length
            · have hql : qd + 1 < r.length := by simp at hq; omega
              obtain ⟨y, hy, _⟩ := drop_at hql
              have hyat : y.toNat = 34 := by
                have := leadN_at [34] (r.drop 1) y (by rw [← hqd, List.getElem?_drop, Nat.add_comm]; exact hy)
                simp at this; rw [this]; rfl
              have hp : prRf (s.drop 1) = some ((pn, (r.drop 1).take qd), r.drop (qd + 2)) := by
                simp only [prRf, hn, if_pos hc61, ← hr, if_pos h34, ← hqd, if_pos hq, List.drop_drop]
                rw [show 1 + (qd + 1) = qd + 2 from by omega]
              have hsv : evSlice Tryz.prog 9 (.str r) (some (.int .i64 1)) (some (.int .i64 ((qd + 1 : Nat) : Int))) none = some (.str ((r.drop 1).take qd)) := by
                rw [ss9, show ((1 : Int)) = ((1 : Nat) : Int) from rfl, bnds_both _ _ _ _ (by omega) (by omega)]; rfl
              have hsr : evSlice Tryz.prog 9 (.str r) (some (.int .i64 ((qd + 1 + 1 : Nat) : Int))) none none = some (.str (r.drop (qd + 2))) := by
                rw [ss9, bnds_from _ _ (by omega)]; simp only [Option.map_some, take_drop_all]
              obtain ⟨M', ha, hM'1, hsub⟩ := app ((r.drop 1).take qd)
              have hfl : decide (0 < (r.drop (qd + 2)).length) = !(r.drop (qd + 2)).isEmpty := by cases r.drop (qd + 2) <;> simp
              have hfl2 : decide (0 < r.length - (qd + 2)) = !(r.drop (qd + 2)).isEmpty := by rw [← hfl, List.length_drop]
              have hfl3 : decide (qd + 2 < r.length) = !(r.drop (qd + 2)).isEmpty := by rw [← hfl2]; exact decide_eq_decide.2 (by omega)
              repeat' (first | (simp (disch := first | omega | (simp only [List.length_append, List.length_cons, List.length_nil, List.length_map, List.length_set]; omega)) only [VC_skip, VC_seq, VC_cond, VC_exit, VC_region, VI_false, VO_nil, VO_plain, VO_guard, VG_true, VV_some, VS, blockQ, ofV_bool, ofV_int, deN_vsl, deN_str, gdA, callOf, isPanic, nextOf, altA, evalOp, ev_tmp, ev_const, Av.get, St.put, thenQ, Nat.reduceEqDiff, ↓reduceIte, Bool.and_self, List.map_cons, List.map_nil, List.getElem?_cons_zero, List.getElem?_cons_succ, List.getElem?_toArray, Option.map_some, Option.map_none, Option.bind_some, beq_true, pickA, cond_true, ldC, ldG, stC, cl_str, ic_str, cl_sl, ic_sl, setC, List.set_cons_zero, List.set_cons_succ, List.length_cons, List.length_nil, Nat.reduceAdd, Nat.reduceLeDiff, List.all_cons, List.all_nil, and_self, and_true, Nat.zero_add, List.drop_zero, List.take_succ_cons, List.take_zero, Nat.le_refl, b_lss, b_gtr, b_geq, b_neq, b_add64, ine_f, castS, decide_eq_true, decide_eq_false, st9, ls9, st43, ld43, fa45_2, ld54, fa54_1, xi9 hy, hsv, hsr, hb1, hM1, hvd, ha, hM'1, List.getElem?_append_left, List.getElem?_append_right, List.set_append_right, Nat.sub_self]))
              refine last _ _ _ _ hp ?_ (hsub (r.drop (qd + 2)))
              simp only [subT, Av.get, Nat.reduceEqDiff, ↓reduceIte, Le_rfl, nat0, nat1, and_self, true_and, and_true, List.length_map, List.length_nil]
              exact isn _
            · have hql : ¬ qd + 1 < r.length := by simp at hq; omega
              have hp : prRf (s.drop 1) = none := by
                simp only [prRf, hn, if_pos hc61, ← hr, if_pos h34, ← hqd, if_neg hq]
              rw [hp] at l5
              have ht : tailG g n u0 = (⟨g, n, false, L, []⟩, false) := by rw [← l5]; rfl
              have e1 : qd + 1 = r.length := by omega
              repeat' (first | (simp (disch := first | omega | (simp only [List.length_append, List.length_cons, List.length_nil, List.length_map, List.length_set]; omega)) only [VC_seq, VC_cond, VC_exit, VC_ret, VC_region, VI_true, VI_false, VO_nil, VO_plain, VO_guard, VG_false, VV_some, VS, blockQ, ofV_bool, deN_str, gdA, callOf, isPanic, nextOf, altA, evalOp, ev_tmp, ev_const, Av.get, St.put, thenQ, Nat.reduceEqDiff, ↓reduceIte, Bool.and_self, List.getElem?_cons_zero, List.getElem?_cons_succ, List.getElem?_toArray, Option.map_some, Option.bind_some, beq_true, Bool.false_eq_true, pickA, ldG, stC, ic_str, cl_agg, setC, List.set_cons_zero, List.set_cons_succ, List.length_cons, List.length_nil, Nat.reduceAdd, List.all_cons, List.all_nil, and_self, Nat.zero_add, List.drop_zero, List.take_succ_cons, List.take_zero, Nat.le_refl, b_lss, b_geq, decide_eq_true, decide_eq_false, ls9, st45, ld45, hM0, hM1, hvC, hv1, List.getElem?_append_left, List.set_append_left, Nat.sub_self]))
              exact gone _ _ ht rfl rfl
        · obtain ⟨qd, hqd⟩ : ∃ qd, qd = leadN [58, 59, 44, 34] r := ⟨_, rfl⟩
          have hqle := leadN_le [58, 59, 44, 34] r
          rw [← hqd] at hqle
          have hp : prRf (s.drop 1) = some ((pn, r.take qd), r.drop qd) := by
            simp only [prRf, hn, if_pos hc61, ← hr, if_neg h34, ← hqd]
          have hsv : evSlice Tryz.prog 9 (.str r) none (some (.int .i64 ((qd : Nat) : Int))) none = some (.str (r.take qd)) := by
            rw [ss9, bnds_to _ _ (by omega)]; rfl
          have hsr : evSlice Tryz.prog 9 (.str r) (some (.int .i64 ((qd : Nat) : Int))) none none = some (.str (r.drop qd)) := by
            rw [ss9, bnds_from _ _ (by omega)]; simp only [Option.map_some, take_drop_all]
          obtain ⟨M', ha, hM'1, hsub⟩ := app (r.take qd)
          have hfl3 : decide (qd < r.length) = !(r.drop qd).isEmpty := by
            by_cases e : qd < r.length
            · rw [decide_eq_true e]
              obtain ⟨y, hy, hd⟩ := drop_at e
              rw [hd]; rfl
            · rw [decide_eq_false e, List.drop_of_length_le (by omega)]; rfl
          have h13 : r.length = 0 ∨ ∃ c', r[0]? = some c' ∧ c'.toNat ≠ 34 := by
            cases r with
            | nil => exact .inl rfl
            | cons x _ =>
              refine .inr ⟨x, rfl, ?_⟩
              intro e; apply h34; rw [UInt8.toNat_inj.1 (show x.toNat = (34 : UInt8).toNat from e)]; rfl
          rcases h13 with h13 | ⟨c', hc', hcn⟩
          focus
            repeat' (first | (simp (disch := first | omega | (simp only [List.length_append, List.length_cons, List.length_nil, List.length_map, List.length_set]; omega)) only [VC_skip, VC_seq, VC_cond, VC_block, VC_region, VC_loop, VI_true, VI_false, VO_nil, VO_plain, VO_guard, VG_true, VG_false, VV_some, VS, u_notb, ofV_bool, ofV_int, deN_str, gdA, callOf, isPanic, nextOf, altA, evalOp, ev_tmp, ev_const, ev_func, Av.get, St.put, thenQ, Nat.reduceEqDiff, ↓reduceIte, Bool.and_self, List.map_cons, List.map_nil, List.nil_append, List.append_nil, List.getElem?_cons_zero, List.getElem?_cons_succ, List.getElem?_toArray, Option.map_some, Option.map_none, Option.bind_some, beq_false, beq_true, Bool.not_true, Bool.not_false, Bool.false_eq_true, pickA, cond_true, cond_false, stC, cl_str, ic_str, cl_agg, setC, List.set_cons_zero, List.set_cons_succ, List.length_cons, List.length_nil, Nat.reduceAdd, Nat.reduceLeDiff, List.all_cons, List.all_nil, and_self, Nat.add_zero, Nat.zero_add, Nat.le_refl, b_gtr, b_eql, b_neq, ieq_t, ine_f, decide_eq_false, st9, ls9, st54, fa54_0, zz54, hx0, hsl1, hbp, hM0, hM1, hvC, hv1, hxc, hslt, h13, List.getElem?_append_right, List.set_append_right, Nat.sub_self]) | (guard_target =~ VCall _ _ _ _ _ _ _; refine VCall.pure (by first | with_reducible exact hnm) (by (first | rfl | (simp only [AV.hfs, AV.hf, Bool.and_self, Bool.and_true, Bool.true_and, strs_hfs]))) ?_) | (guard_target =~ DCal _ _ _ _ _ _ _; refine DCal.pure (by first | with_reducible exact hnm) (by (first | rfl | (simp only [AV.hfs, AV.hf, Bool.and_self, Bool.and_true, Bool.true_and, strs_hfs]))) ?_))
          rotate_left
          focus
            have hxr := x0s hc'
            have hrpos : 0 < r.length := (List.getElem?_eq_some_iff.1 hc').1
            repeat' (first | (simp (disch := first | omega | (simp only [List.length_append, List.length_cons, List.length_nil, List.length_map, List.length_set]; omega)) only [VC_skip, VC_seq, VC_cond, VC_block, VC_region, VC_loop, VI_true, VI_false, VO_nil, VO_plain, VO_guard, VG_true, VV_some, VS, u_notb, ofV_bool, ofV_int, deN_str, gdA, callOf, isPanic, nextOf, altA, evalOp, ev_tmp, ev_const, ev_func, Av.get, St.put, thenQ, Nat.reduceEqDiff, ↓reduceIte, Bool.and_self, List.map_cons, List.map_nil, List.nil_append, List.append_nil, List.getElem?_cons_zero, List.getElem?_cons_succ, List.getElem?_toArray, Option.map_some, Option.map_none, Option.bind_some, beq_false, beq_true, Bool.not_true, Bool.not_false, pickA, cond_true, cond_false, stC, cl_str, ic_str, cl_agg, setC, List.set_cons_zero, List.set_cons_succ, List.length_cons, List.length_nil, Nat.reduceAdd, Nat.reduceLeDiff, List.all_cons, List.all_nil, and_self, Nat.add_zero, Nat.zero_add, Nat.le_refl, b_gtr, b_eql, b_neq, ieq_t, ieq_f, ine_f, decide_eq_true, st9, ls9, st54, fa54_0, zz54, hx0, hsl1, hbp, hM0, hM1, hvC, hv1, hxc, hslt, hxr, List.getElem?_append_right, List.set_append_right, Nat.sub_self]) | (guard_target =~ VCall _ _ _ _ _ _ _; refine VCall.pure (by first | with_reducible exact hnm) (by (first | rfl | (simp only [AV.hfs, AV.hf, Bool.and_self, Bool.and_true, Bool.true_and, strs_hfs]))) ?_) | (guard_target =~ DCal _ _ _ _ _ _ _; refine DCal.pure (by first | with_reducible exact hnm) (by (first | rfl | (simp only [AV.hfs, AV.hf, Bool.and_self, Bool.and_true, Bool.true_and, strs_hfs]))) ?_))
          all_goals
            refine W.loopT (X := Nat) (fun i => [(9, .int .i64 (i : Int)), (8, .ptr M.length 0), (5, .str r), (2, .ptr 0 0), (7, .ptr 1 0), (6, .bool true)]) (fun _ => M ++ [.cells [.str pn, .str []] false]) (fun i => i ≤ qd) (fun i => qd - i) 0 (Nat.zero_le _) ⟨rfl, rfl, rfl, rfl, rfl, rfl, trivial⟩ rfl ?_
            intro i hi
            refine .vc (by decide) ?_
            by_cases hiq : i < qd
            · obtain ⟨y, hy, hyn⟩ := leadN_lt [58, 59, 44, 34] r i (by omega)
              have hil : i < r.length := by omega
              have n1 : y.toNat ≠ 58 := by intro e; apply hyn; rw [UInt8.toNat_inj.1 (show y.toNat = (58 : UInt8).toNat from e)]; simp
              have n2 : y.toNat ≠ 59 := by intro e; apply hyn; rw [UInt8.toNat_inj.1 (show y.toNat = (59 : UInt8).toNat from e)]; simp
              have n3 : y.toNat ≠ 44 := by intro e; apply hyn; rw [UInt8.toNat_inj.1 (show y.toNat = (44 : UInt8).toNat from e)]; simp
              have n4 : y.toNat ≠ 34 := by intro e; apply hyn; rw [UInt8.toNat_inj.1 (show y.toNat = (34 : UInt8).toNat from e)]; simp
              repeat' (first | (simp (disch := first | omega | (simp only [List.length_append, List.length_cons, List.length_nil, List.length_map, List.length_set]; omega)) only [VC_skip, VC_seq, VC_cond, VC_block, VC_region, VI_true, VO_nil, VO_plain, VO_guard, VG_true, VV_some, VS, blockQ, ofV_bool, ofV_int, deN_str, gdA, callOf, isPanic, nextOf, altA, evalOp, ev_tmp, ev_const, Av.get, St.put, thenQ, Nat.reduceEqDiff, ↓reduceIte, List.getElem?_cons_zero, List.getElem?_cons_succ, List.getElem?_toArray, Option.map_some, Option.bind_some, beq_true, pickA, cond_true, and_self, and_true, b_lss, b_neq, b_add64, ine_t, castS, decide_eq_true, ls9, xi9 hy]))
              exact ⟨i + 1, by omega, by omega, ⟨rfl, rfl, rfl, rfl, rfl, rfl, trivial⟩⟩
            · have e : i = qd := by omega
              subst e
              by_cases hq : i < r.length
              · obtain ⟨y, hy, _⟩ := drop_at hq
                try (exfalso; omega)
                all_goals
                  have hym := leadN_at [58, 59, 44, 34] r y (by rw [← hqd]; exact hy)
                  simp only [List.mem_cons, List.not_mem_nil, or_false] at hym
                  have hym : y.toNat = 58 ∨ y.toNat = 59 ∨ y.toNat = 44 ∨ y.toNat = 34 := by
                    rcases hym with e | e | e | e <;> subst e <;> simp
                  rcases hym with e | e | e | e
                  all_goals
                    repeat' (first | (simp (disch := first | omega | (simp only [List.length_append, List.length_cons, List.length_nil, List.length_map, List.length_set]; omega)) only [VC_seq, VC_cond, VC_exit, VC_region, VI_false, VO_nil, VO_plain, VO_guard, VG_true, VG_false, VV_some, VS, blockQ, ofV_bool, ofV_int, deN_vsl, deN_str, gdA, callOf, isPanic, nextOf, altA, evalOp, ev_tmp, ev_const, Av.get, St.put, thenQ, Nat.reduceEqDiff, ↓reduceIte, Bool.and_self, List.map_cons, List.map_nil, List.getElem?_cons_zero, List.getElem?_cons_succ, List.getElem?_toArray, Option.map_some, Option.map_none, Option.bind_some, beq_true, Bool.false_eq_true, pickA, cond_true, ldC, ldG, stC, cl_str, ic_str, cl_sl, ic_sl, setC, List.set_cons_zero, List.set_cons_succ, List.length_cons, List.length_nil, Nat.reduceAdd, Nat.reduceLeDiff, List.all_cons, List.all_nil, and_self, and_true, Nat.zero_add, List.drop_zero, List.take_succ_cons, List.take_zero, Nat.le_refl, b_lss, b_gtr, b_neq, ine_t, ine_f, decide_eq_true, st9, ls9, st43, ld43, fa45_2, ld54, fa54_1, xi9 hy, hsv, hsr, hb1, hM1, hvd, ha, hM'1, List.getElem?_append_left, List.getElem?_append_right, List.set_append_right, Nat.sub_self]))
                    refine last _ _ _ _ hp ?_ (hsub (r.drop i))
                    simp only [subT, Av.get, Nat.reduceEqDiff, ↓reduceIte, Le_rfl, nat0, nat1, and_self, true_and, and_true, List.length_map, List.length_nil]
                    exact isn _
              · repeat' (first | (simp (disch := first | omega | (simp only [List.length_append, List.length_cons, List.length_nil, List.length_map, List.length_set]; omega)) only [VC_seq, VC_cond, VC_exit, VC_region, VI_false, VO_nil, VO_plain, VO_guard, VG_false, VV_some, VS, blockQ, ofV_bool, ofV_int, deN_vsl, deN_str, gdA, callOf, isPanic, nextOf, altA, evalOp, ev_tmp, ev_const, Av.get, St.put, thenQ, Nat.reduceEqDiff, ↓reduceIte, Bool.and_self, List.map_cons, List.map_nil, List.getElem?_cons_zero, List.getElem?_cons_succ, List.getElem?_toArray, Option.map_some, Option.map_none, Option.bind_some, beq_true, Bool.false_eq_true, pickA, ldC, ldG, stC, cl_str, ic_str, cl_sl, ic_sl, setC, List.set_cons_zero, List.set_cons_succ, List.length_cons, List.length_nil, Nat.reduceAdd, Nat.reduceLeDiff, List.all_cons, List.all_nil, and_self, and_true, Nat.zero_add, List.drop_zero, List.take_succ_cons, List.take_zero, Nat.le_refl, b_lss, b_gtr, decide_eq_false, st9, ls9, st43, ld43, fa45_2, ld54, fa54_1, hsv, hsr, hb1, hM1, hvd, ha, hM'1, List.getElem?_append_left, List.getElem?_append_right, List.set_append_right, Nat.sub_self]))
                refine last _ _ _ _ hp ?_ (hsub (r.drop i))
                simp only [subT, Av.get, Nat.reduceEqDiff, ↓reduceIte, Le_rfl, nat0, nat1, and_self, true_and, and_true, List.length_map, List.length_nil]
                exact isn _
      · have hne : t[0]? ≠ some 61 := by rw [hc]; intro e; cases e; exact h61 rfl
        have hp : prRf (s.drop 1) = none := by simp only [prRf, hn, if_neg hne]
        rw [hp] at l5
        have ht : tailG g n u0 = (⟨g, n, false, L, []⟩, false) := by rw [← l5]; rfl
        repeat' (first | (simp (disch := first | omega | (simp only [List.length_append, List.length_cons, List.length_nil, List.length_map, List.length_set]; omega)) only [VC_skip, VC_seq, VC_cond, VC_block, VC_ret, VC_region, VI_true, VO_nil, VO_plain, VO_guard, VG_true, VV_some, VS, blockQ, u_notb, ofV_bool, ofV_int, deN_str, gdA, callOf, isPanic, nextOf, altA, evalOp, ev_tmp, ev_const, ev_func, Av.get, St.put, thenQ, Nat.reduceEqDiff, ↓reduceIte, Bool.and_self, List.map_cons, List.map_nil, List.nil_append, List.append_nil, List.getElem?_cons_zero, List.getElem?_cons_succ, List.getElem?_toArray, Option.map_some, Option.map_none, Option.bind_some, beq_false, beq_true, Bool.not_true, Bool.not_false, pickA, cond_true, cond_false, ldG, stC, cl_str, ic_str, cl_agg, setC, List.set_cons_zero, List.set_cons_succ, List.length_cons, List.length_nil, Nat.reduceAdd, Nat.reduceLeDiff, List.all_cons, List.all_nil, and_self, Nat.add_zero, Nat.zero_add, List.drop_zero, List.take_succ_cons, List.take_zero, Nat.le_refl, b_eql, b_neq, ieq_t, ine_t, st9, st45, ld45, st54, fa54_0, zz54, hx0, hsl1, hbp, hM0, hM1, hvC, hv1, hxc, List.getElem?_append_left, List.getElem?_append_right, List.set_append_left, List.set_append_right, Nat.sub_self]) | (guard_target =~ VCall _ _ _ _ _ _ _; refine VCall.pure (by first | with_reducible exact hnm) (by (first | rfl | (simp only [AV.hfs, AV.hf, Bool.and_self, Bool.and_true, Bool.true_and, strs_hfs]))) ?_) | (guard_target =~ DCal _ _ _ _ _ _ _; refine DCal.pure (by first | with_reducible exact hnm) (by (first | rfl | (simp only [AV.hfs, AV.hf, Bool.and_self, Bool.and_true, Bool.true_and, strs_hfs]))) ?_))
        exact gone _ _ ht rfl rfl
  · rw [if_neg q] at l5
    cases is with
    | false =>
      have ht : tailG g n u0 = (⟨g, n, false, L, []⟩, false) := by rw [← l5]; rfl
      repeat' (first | (simp (disch := first | omega | (simp only [List.length_append, List.length_cons, List.length_nil, List.length_map, List.length_set]; omega)) only [VC_seq, VC_cond, VC_exit, VC_region, VI_false, VO_nil, VO_plain, VO_guard, VG_false, VV_some, VS, blockQ, ofV_bool, gdA, callOf, isPanic, nextOf, altA, evalOp, ev_tmp, ev_const, Av.get, St.put, thenQ, Nat.reduceEqDiff, ↓reduceIte, List.getElem?_cons_zero, List.getElem?_cons_succ, List.getElem?_toArray, Option.bind_some, beq_true, Bool.false_eq_true, pickA, hM0, hM1, hvC, hv1]))
      refine .vc (by decide) ?_
      repeat' (first | (simp (disch := first | omega | (simp only [List.length_append, List.length_cons, List.length_nil, List.length_map, List.length_set]; omega)) only [VC_seq, VC_cond, VC_ret, VC_region, VI_true, VO_nil, VO_plain, VO_guard, VG_false, VV_some, VS, u_notb, ofV_bool, gdA, callOf, isPanic, nextOf, altA, evalOp, ev_tmp, ev_const, Av.get, St.put, thenQ, Nat.reduceEqDiff, ↓reduceIte, Bool.and_self, List.getElem?_cons_zero, List.getElem?_cons_succ, List.getElem?_toArray, Option.map_some, Option.bind_some, beq_false, Bool.not_true, Bool.not_false, pickA, ldG, stC, ic_str, cl_agg, setC, List.set_cons_zero, List.set_cons_succ, List.length_cons, List.length_nil, Nat.reduceAdd, List.all_cons, List.all_nil, and_self, Nat.zero_add, List.drop_zero, List.take_succ_cons, List.take_zero, Nat.le_refl, st45, ld45, hM0, hM1, hvC, hv1]))
      exact gone0 _ ht rfl rfl
    | true =>
      have hsne := l4 rfl
      obtain ⟨c, hc⟩ := ne_at hsne
      have hxc := x0s hc
      have hc59 : c.toNat ≠ 59 := by
        intro e; apply q
        refine ⟨rfl, ?_⟩
        rw [hc, UInt8.toNat_inj.1 (show c.toNat = (59 : UInt8).toNat from e)]
      by_cases h58 : c.toNat = 58
      · have hc58 : s[0]? = some 58 := by rw [hc, UInt8.toNat_inj.1 (show c.toNat = (58 : UInt8).toNat from h58)]
        have hsl1 := sl1 hsne
        have ht : tailG g n u0 = (⟨g, n, false, L, s.drop 1⟩, true) := by rw [← l5]; simp [endG, hc58]
        repeat' (first | (simp (disch := first | omega | (simp only [List.length_append, List.length_cons, List.length_nil, List.length_map, List.length_set]; omega)) only [VC_seq, VC_cond, VC_exit, VC_region, VI_false, VO_nil, VO_plain, VO_guard, VG_true, VV_some, VS, blockQ, ofV_bool, ofV_int, gdA, callOf, isPanic, nextOf, altA, evalOp, ev_tmp, ev_const, Av.get, St.put, thenQ, Nat.reduceEqDiff, ↓reduceIte, List.getElem?_cons_zero, List.getElem?_cons_succ, List.getElem?_toArray, Option.map_some, Option.bind_some, beq_true, pickA, cond_true, b_eql, ieq_f, hxc]))
        refine .vc (by decide) ?_
        repeat' (first | (simp (disch := first | omega | (simp only [List.length_append, List.length_cons, List.length_nil, List.length_map, List.length_set]; omega)) only [VC_skip, VC_seq, VC_cond, VC_ret, VC_region, VI_false, VO_nil, VO_plain, VO_guard, VG_true, VV_some, VS, u_notb, ofV_bool, ofV_int, deN_str, gdA, callOf, isPanic, nextOf, altA, evalOp, ev_tmp, ev_const, Av.get, St.put, thenQ, Nat.reduceEqDiff, ↓reduceIte, Bool.and_self, List.getElem?_cons_zero, List.getElem?_cons_succ, List.getElem?_toArray, Option.map_some, Option.map_none, Option.bind_some, beq_false, Bool.not_true, Bool.not_false, pickA, cond_false, ldG, stC, cl_str, ic_str, cl_agg, setC, List.set_cons_zero, List.set_cons_succ, List.length_cons, List.length_nil, Nat.reduceAdd, List.all_cons, List.all_nil, and_self, Nat.zero_add, List.drop_zero, List.take_succ_cons, List.take_zero, Nat.le_refl, b_neq, ine_f, st9, st45, ld45, fa45_3, hM0, hM1, hvC, hv1, hxc, hsl1, List.getElem?_set_self, List.getElem?_set_ne]))
        rw [ht]
        refine retQct (v := .agg [.str g, .str n, v, .str (s.drop 1)]) (u := .bool true) 2 45 3 rfl rfl ?_ rfl ⟨fz_aggL (k := 17) (ts := [.str g, .str n, .vsl 3 false (L.map encR), .str (s.drop 1)]) (LzL_hf rfl (LzL_hf rfl ⟨hvz _ (fun i hi hl => ?_), LzL_hf rfl trivial⟩)), LzL_hf rfl trivial⟩
        · simp only [Av.get, Nat.reduceEqDiff, ↓reduceIte]
          rw [ld45]
          simp only [ldG]
          rw [List.getElem?_set_self (by rw [List.length_set]; omega)]
          rfl
        · rw [List.getElem?_set_ne (by omega), List.getElem?_set_ne (by omega)]
      · have hc58 : s[0]? ≠ some 58 := by rw [hc]; intro e; cases e; exact h58 rfl
        have ht : tailG g n u0 = (⟨g, n, false, L, []⟩, false) := by rw [← l5]; simp [endG, hc58]
        repeat' (first | (simp (disch := first | omega | (simp only [List.length_append, List.length_cons, List.length_nil, List.length_map, List.length_set]; omega)) only [VC_seq, VC_cond, VC_exit, VC_region, VI_false, VO_nil, VO_plain, VO_guard, VG_true, VV_some, VS, blockQ, ofV_bool, ofV_int, gdA, callOf, isPanic, nextOf, altA, evalOp, ev_tmp, ev_const, Av.get, St.put, thenQ, Nat.reduceEqDiff, ↓reduceIte, List.getElem?_cons_zero, List.getElem?_cons_succ, List.getElem?_toArray, Option.map_some, Option.bind_some, beq_true, pickA, cond_true, b_eql, ieq_f, hxc]))
        refine .vc (by decide) ?_
        repeat' (first | (simp (disch := first | omega | (simp only [List.length_append, List.length_cons, List.length_nil, List.length_map, List.length_set]; omega)) only [VC_seq, VC_cond, VC_ret, VC_region, VI_true, VO_nil, VO_plain, VO_guard, VG_true, VV_some, VS, u_notb, ofV_bool, ofV_int, gdA, callOf, isPanic, nextOf, altA, evalOp, ev_tmp, ev_const, Av.get, St.put, thenQ, Nat.reduceEqDiff, ↓reduceIte, Bool.and_self, List.getElem?_cons_zero, List.getElem?_cons_succ, List.getElem?_toArray, Option.map_some, Option.bind_some, beq_false, Bool.not_true, Bool.not_false, pickA, cond_false, ldG, stC, ic_str, cl_agg, setC, List.set_cons_zero, List.set_cons_succ, List.length_cons, List.length_nil, Nat.reduceAdd, List.all_cons, List.all_nil, and_self, Nat.zero_add, List.drop_zero, List.take_succ_cons, List.take_zero, Nat.le_refl, b_neq, ine_t, st45, ld45, hM0, hM1, hvC, hv1, hxc]))
        exact gone0 _ ht rfl rfl
end Go.Proofs.YtjlhemfmeboadaaGreatDoor
namespace Go.Proofs.YtjlhemfmeboadaaGreatDoor
set_option linter.unusedVariables false
set_option linter.unusedSimpArgs false
open Go Go.Av Go.RowKit

theorem pgT (g n u : Bytes) (b : Bool) (hu : u.length ≤ 1000000) (hb : b = !u.isEmpty) (q : Ln × Bool) (hq : q = tailG g n u) :
    W Tryz.prog 148 0 none pgTail (retQ Tryz.prog Tryz.f47.results.toList (pgOut q)) ⟨[(2, .ptr 0 0), (7, .ptr 1 0), (5, .str u), (6, .bool b)], pgB g n .nilsl, []⟩ := by
  subst hb hq
  exact parsedT g n u hu _ ⟨rfl, rfl, rfl, rfl, trivial⟩

set_option maxRecDepth 8000 in
theorem parsedV (s:Bytes) (hs:s.length≤1000000):PureFn Tryz.prog 47 [.str s] (pgOut (parsedG s)):=by
 refine PureFn.of Tryz.func47 rfl (enters_call enters Tryz.func47 rfl) (by simp [Tryz.ntmps47]) ?_
 show W Tryz.prog 148 0 none _ _ _
 have hnm:=nameRf s hs
 have hb0:∀ n:Bytes,evBuild Tryz.prog 45 [(1,.str n)] = some (.agg [.str [],.str n,.nilsl,.str []]):=fun s=>by kernel_rfl
 refine .seq (.vc (by decide) ?_)
 repeat' (first | (simp (disch:=first | omega | (simp only [List.length_append,List.length_cons,List.length_nil,List.length_map,List.length_set]; omega)) only [VC_region,VO_nil,VO_plain,VV_some,VS,ofV_bool,callOf,isPanic,nextOf,altA,evalOp,ev_const,St.put,argT,thenQ,List.nil_append,Option.map_some,cl_agg,List.length_nil,zz45]))
 refine .seq (.vc (by decide) ?_)
 cases hn:nmR s with
 | none=>
  rw [hn] at hnm
  have hp:parsedG s = tailG [] [] []:=by simp only [parsedG,hn]; rfl
  repeat' (first | (simp (disch:=first | omega | (simp only [List.length_append,List.length_cons,List.length_nil,List.length_map,List.length_set]; omega)) only [VC_region,VO_nil,VO_plain,VV_some,VS,callOf,isPanic,nextOf,altA,evalOp,ev_tmp,ev_func,Av.get,St.put,thenQ,Nat.reduceEqDiff,↓reduceIte,List.map_cons,List.map_nil,List.nil_append,List.append_nil,List.getElem?_cons_zero,List.getElem?_cons_succ,Option.map_some]) | (guard_target =~ VCall _ _ _ _ _ _ _; refine VCall.pure (by first | with_reducible exact hnm) (by (first | rfl | (simp only [AV.hfs,AV.hf,Bool.and_self,Bool.and_true,Bool.true_and,strs_hfs]))) ?_) | (guard_target =~ DCal _ _ _ _ _ _ _; refine DCal.pure (by first | with_reducible exact hnm) (by (first | rfl | (simp only [AV.hfs,AV.hf,Bool.and_self,Bool.and_true,Bool.true_and,strs_hfs]))) ?_))
  refine .seq (.vc (by decide) ?_)
  repeat' (first | (simp (disch:=first | omega | (simp only [List.length_append,List.length_cons,List.length_nil,List.length_map,List.length_set]; omega)) only [VC_region,VO_nil,VO_plain,VV_some,VS,callOf,isPanic,nextOf,altA,evalOp,ev_tmp,Av.get,St.put,thenQ,Nat.reduceEqDiff,↓reduceIte,Bool.and_self,List.map_cons,List.map_nil,List.nil_append,List.getElem?_cons_zero,List.getElem?_cons_succ,Option.map_some,stC,ic_str,ic_nilsl,cl_agg,setC,List.set_cons_zero,List.set_cons_succ,List.length_cons,List.length_nil,Nat.reduceAdd,List.all_cons,List.all_nil,and_self,Nat.zero_add,Nat.le_refl,List.cons_append,st45,zz45,hb0]))
  refine W.seqT [(2,.ptr 0 0),(7,.ptr 1 0),(5,.str []),(6,.bool false)] (pgB [] [] .nilsl) (.vc (by decide) ?_) (pgT [] [] [] false (by simp) rfl _ hp)
  repeat' (first | (simp (disch:=first | omega | (simp only [List.length_append,List.length_cons,List.length_nil,List.length_map,List.length_set]; omega)) only [VC_skip,VC_seq,VC_cond,VC_region,VI_false,VO_nil,VO_plain,VO_guard,VG_false,VV_some,VS,ofV_bool,gdA,callOf,isPanic,nextOf,altA,evalOp,ev_tmp,ev_const,Av.get,St.put,thenQ,Nat.reduceEqDiff,↓reduceIte,List.getElem?_cons_zero,List.getElem?_cons_succ,List.getElem?_toArray,Option.bind_some,beq_true,Bool.false_eq_true,pickA,and_true]))
  exact ⟨⟨rfl,rfl,rfl,rfl,trivial⟩,rfl⟩
 | some q=>
  obtain ⟨n,t⟩:=q
  rw [hn] at hnm
  have htne:=nmR_ne hn
  have htl:=nmR_len hn
  obtain ⟨c,hc⟩:=ne_at htne
  have hxc:=x0s hc
  have hte:t.isEmpty = false:=by cases t<;>simp at htne ⊢
  have hsl1:=sl1 htne
  repeat' (first | (simp (disch:=first | omega | (simp only [List.length_append,List.length_cons,List.length_nil,List.length_map,List.length_set]; omega)) only [VC_region,VO_nil,VO_plain,VV_some,VS,callOf,isPanic,nextOf,altA,evalOp,ev_tmp,ev_func,Av.get,St.put,thenQ,Nat.reduceEqDiff,↓reduceIte,List.map_cons,List.map_nil,List.nil_append,List.append_nil,List.getElem?_cons_zero,List.getElem?_cons_succ,Option.map_some]) | (guard_target =~ VCall _ _ _ _ _ _ _; refine VCall.pure (by first | with_reducible exact hnm) (by (first | rfl | (simp only [AV.hfs,AV.hf,Bool.and_self,Bool.and_true,Bool.true_and,strs_hfs]))) ?_) | (guard_target =~ DCal _ _ _ _ _ _ _; refine DCal.pure (by first | with_reducible exact hnm) (by (first | rfl | (simp only [AV.hfs,AV.hf,Bool.and_self,Bool.and_true,Bool.true_and,strs_hfs]))) ?_))
  refine .seq (.vc (by decide) ?_)
  repeat' (first | (simp (disch:=first | omega | (simp only [List.length_append,List.length_cons,List.length_nil,List.length_map,List.length_set]; omega)) only [VC_region,VO_nil,VO_plain,VV_some,VS,callOf,isPanic,nextOf,altA,evalOp,ev_tmp,Av.get,St.put,thenQ,Nat.reduceEqDiff,↓reduceIte,Bool.and_self,List.map_cons,List.map_nil,List.nil_append,List.getElem?_cons_zero,List.getElem?_cons_succ,Option.map_some,stC,ic_str,ic_nilsl,cl_agg,setC,List.set_cons_zero,List.set_cons_succ,List.length_cons,List.length_nil,Nat.reduceAdd,List.all_cons,List.all_nil,and_self,Nat.zero_add,Nat.le_refl,List.cons_append,st45,zz45,hb0]))
  by_cases h46:c.toNat = 46
  ·have hc46:t[0]? = some 46:=by rw [hc,UInt8.toNat_inj.1 (show c.toNat = (46:UInt8).toNat from h46)]
   have hnm2:=nameRf (t.drop 1) (by simp; omega)
   cases hn2:nmR (t.drop 1) with
   | none=>
    rw [hn2] at hnm2
    have hp:parsedG s = tailG n [] []:=by simp only [parsedG,hn,if_pos hc46,hn2]; rfl
    refine W.seqT [(2,.ptr 0 0),(7,.ptr 1 0),(5,.str []),(6,.bool false)] (pgB n [] .nilsl) (.vc (by decide) ?_) (pgT n [] [] false (by simp) rfl _ hp)
    repeat' (first | (simp (disch:=first | omega | (simp only [List.length_append,List.length_cons,List.length_nil,List.length_map,List.length_set]; omega)) only [VC_seq,VC_cond,VC_region,VI_true,VO_nil,VO_plain,VO_guard,VG_true,VV_some,VS,ofV_bool,ofV_int,deN_str,gdA,callOf,isPanic,nextOf,altA,evalOp,ev_tmp,ev_const,ev_func,Av.get,St.put,thenQ,Nat.reduceEqDiff,↓reduceIte,Bool.and_self,List.map_cons,List.map_nil,List.nil_append,List.append_nil,List.getElem?_cons_zero,List.getElem?_cons_succ,List.getElem?_toArray,Option.map_some,Option.map_none,Option.bind_some,beq_true,pickA,cond_true,stC,cl_str,ic_str,setC,List.set_cons_zero,List.set_cons_succ,List.length_cons,List.length_nil,Nat.reduceAdd,Nat.reduceLeDiff,List.all_cons,List.all_nil,and_self,and_true,Nat.add_zero,Nat.zero_add,b_eql,ieq_t,st9,fa45_0,fa45_1,hxc,hsl1]) | (guard_target =~ VCall _ _ _ _ _ _ _; refine VCall.pure (by first | with_reducible exact hnm2) (by (first | rfl | (simp only [AV.hfs,AV.hf,Bool.and_self,Bool.and_true,Bool.true_and,strs_hfs]))) ?_) | (guard_target =~ DCal _ _ _ _ _ _ _; refine DCal.pure (by first | with_reducible exact hnm2) (by (first | rfl | (simp only [AV.hfs,AV.hf,Bool.and_self,Bool.and_true,Bool.true_and,strs_hfs]))) ?_))
    exact ⟨⟨rfl,rfl,rfl,rfl,trivial⟩,rfl⟩
   | some q2=>
    obtain ⟨m,u⟩:=q2
    rw [hn2] at hnm2
    have hune:=nmR_ne hn2
    have hul:=nmR_len hn2
    have hue:u.isEmpty = false:=by cases u<;>simp at hune ⊢
    have hp:parsedG s = tailG n m u:=by simp only [parsedG,hn,if_pos hc46,hn2]
    refine W.seqT [(2,.ptr 0 0),(7,.ptr 1 0),(5,.str u),(6,.bool true)] (pgB n m .nilsl) (.vc (by decide) ?_) (pgT n m u true (by simp at hul; omega) (by rw [hue]; rfl) _ hp)
    repeat' (first | (simp (disch:=first | omega | (simp only [List.length_append,List.length_cons,List.length_nil,List.length_map,List.length_set]; omega)) only [VC_seq,VC_cond,VC_region,VI_true,VO_nil,VO_plain,VO_guard,VG_true,VV_some,VS,ofV_bool,ofV_int,deN_str,gdA,callOf,isPanic,nextOf,altA,evalOp,ev_tmp,ev_const,ev_func,Av.get,St.put,thenQ,Nat.reduceEqDiff,↓reduceIte,Bool.and_self,List.map_cons,List.map_nil,List.nil_append,List.append_nil,List.getElem?_cons_zero,List.getElem?_cons_succ,List.getElem?_toArray,Option.map_some,Option.map_none,Option.bind_some,beq_true,pickA,cond_true,stC,cl_str,ic_str,setC,List.set_cons_zero,List.set_cons_succ,List.length_cons,List.length_nil,Nat.reduceAdd,Nat.reduceLeDiff,List.all_cons,List.all_nil,and_self,and_true,Nat.add_zero,Nat.zero_add,b_eql,ieq_t,st9,fa45_0,fa45_1,hxc,hsl1]) | (guard_target =~ VCall _ _ _ _ _ _ _; refine VCall.pure (by first | with_reducible exact hnm2) (by (first | rfl | (simp only [AV.hfs,AV.hf,Bool.and_self,Bool.and_true,Bool.true_and,strs_hfs]))) ?_) | (guard_target =~ DCal _ _ _ _ _ _ _; refine DCal.pure (by first | with_reducible exact hnm2) (by (first | rfl | (simp only [AV.hfs,AV.hf,Bool.and_self,Bool.and_true,Bool.true_and,strs_hfs]))) ?_))
    exact ⟨⟨rfl,rfl,rfl,rfl,trivial⟩,rfl⟩
  ·have hc46:t[0]? ≠ some 46:=by rw [hc]; intro e; cases e; exact h46 rfl
   have hp:parsedG s = tailG [] n t:=by simp only [parsedG,hn,if_neg hc46]
   refine W.seqT [(2,.ptr 0 0),(7,.ptr 1 0),(5,.str t),(6,.bool true)] (pgB [] n .nilsl) (.vc (by decide) ?_) (pgT [] n t true (by omega) (by rw [hte]; rfl) _ hp)
   repeat' (first | (simp (disch:=first | omega | (simp only [List.length_append,List.length_cons,List.length_nil,List.length_map,List.length_set]; omega)) only [VC_skip,VC_seq,VC_cond,VC_region,VI_false,VO_nil,VO_plain,VO_guard,VG_true,VV_some,VS,ofV_bool,ofV_int,gdA,callOf,isPanic,nextOf,altA,evalOp,ev_tmp,ev_const,Av.get,St.put,thenQ,Nat.reduceEqDiff,↓reduceIte,List.getElem?_cons_zero,List.getElem?_cons_succ,List.getElem?_toArray,Option.map_some,Option.bind_some,beq_true,pickA,cond_true,and_true,b_eql,ieq_f,hxc,hsl1]))
   exact ⟨⟨rfl,rfl,rfl,rfl,trivial⟩,rfl⟩
end Go.Proofs.YtjlhemfmeboadaaGreatDoor
namespace Go.Proofs.YtjlhemfmeboadaaGreatDoor
set_option linter.unusedVariables false
set_option linter.unusedSimpArgs false
open Go Go.Av Go.RowKit

def wadd (a b:Int):Int:=IntKind.i64.wrap (a + b)
theorem add_w (a b:Int):evBin Tryz.prog .add 3 (.int .i64 a) (.int .i64 b) = some (.int .i64 (wadd a b)):=by
 have hu:Tryz.prog.underlying 3 = some (.int .i64):=by kernel_rfl
 simp [evBin,wadd]
def lightP:Int→List (Bytes × Bytes)→Option Int
 | n,[]=>some n
 | n,p::r=>if wadd p.1.length p.2.length > 300 then none else lightP (wadd n p.2.length) r
def lightL:Int→List Ln→Bool
 | _,[]=>true
 | n,l::r=>if 12 < l.ps.length∨8000 < l.v.length∨wadd l.g.length l.n.length > 300 then false else
  match lightP (wadd n l.v.length) l.ps with
  | none=>false
  | some m=>if m > 8000 then false else lightL m r
def lightB (c:Cd):Bool:=if 120 < c.ls.length∨100 < c.ver.length then false else lightL 0 c.ls
set_option maxRecDepth 8000 in
theorem lightV (c:Cd):PureFn Tryz.prog 11 [encCd c] (.ret (.bool (lightB c))):=by
 obtain ⟨ver,x,ls⟩:=c
 simp only [encCd]
 refine PureFn.of Tryz.func11 rfl (enters_call enters Tryz.func11 rfl) (by simp [Tryz.ntmps11]) ?_
 show W Tryz.prog 88 0 none _ _ _
 refine W.vc (by decide) ?_
 by_cases h1:120 < ls.length
 ·have e:lightB ⟨ver,x,ls⟩ = false:=by simp [lightB,h1]
  rw [e]
  repeat' (first | (simp (disch:=first | omega | (simp only [List.length_append,List.length_cons,List.length_nil,List.length_map,List.length_set]; omega)) only [VC_seq,VC_cond,VC_ret,VC_region,VI_true,VO_nil,VO_plain,VO_guard,VG_false,VV_some,VS,List.length_map,AV.told,ofV_bool,ofV_int,deN_vsl,gdA,callOf,isPanic,nextOf,altA,evalOp,ev_tmp,ev_const,Av.get,St.put,argT,thenQ,Nat.reduceEqDiff,↓reduceIte,List.nil_append,List.getElem?_cons_zero,List.getElem?_cons_succ,List.getElem?_toArray,Option.map_some,Option.bind_some,beq_false,Bool.not_true,pickA,ldC,cl_agg,List.length_nil,Nat.zero_add,b_gtr,decide_eq_true,ld22,lv22,fa24_1]))
  exact ⟨_,rfl,_,rfl,.refl _⟩
 by_cases h2:100 < ver.length
 ·have e:lightB ⟨ver,x,ls⟩ = false:=by simp [lightB,h2]
  rw [e]
  repeat' (first | (simp (disch:=first | omega | (simp only [List.length_append,List.length_cons,List.length_nil,List.length_map,List.length_set]; omega)) only [VC_seq,VC_cond,VC_ret,VC_region,VI_true,VO_nil,VO_plain,VO_guard,VG_true,VV_some,VS,List.length_map,AV.told,ofV_bool,ofV_int,deN_vsl,deN_str,gdA,callOf,isPanic,nextOf,altA,evalOp,ev_tmp,ev_const,Av.get,St.put,argT,thenQ,Nat.reduceEqDiff,↓reduceIte,List.nil_append,List.getElem?_cons_zero,List.getElem?_cons_succ,List.getElem?_toArray,Option.map_some,Option.bind_some,beq_false,Bool.not_false,pickA,cond_false,ldC,cl_agg,List.length_nil,Nat.add_zero,Nat.zero_add,b_gtr,decide_eq_true,decide_eq_false,ld9,ls9,ld22,lv22,fa24_0,fa24_1]))
  exact ⟨_,rfl,_,rfl,.refl _⟩
 have e:lightB ⟨ver,x,ls⟩ = lightL 0 ls:=by simp [lightB,h1,h2]
 rw [e]
 repeat' (first | (simp (disch:=first | omega | (simp only [List.length_append,List.length_cons,List.length_nil,List.length_map,List.length_set]; omega)) only [VC_skip,VC_seq,VC_cond,VC_block,VC_region,VC_loop,VI_false,VO_nil,VO_plain,VO_guard,VG_true,VV_some,VS,List.length_map,AV.told,ofV_bool,ofV_int,deN_vsl,deN_str,gdA,callOf,isPanic,nextOf,altA,evalOp,ev_tmp,ev_const,Av.get,St.put,argT,thenQ,Nat.reduceEqDiff,↓reduceIte,List.nil_append,List.getElem?_cons_zero,List.getElem?_cons_succ,List.getElem?_toArray,Option.map_some,Option.bind_some,beq_false,Bool.not_false,pickA,cond_false,ldC,cl_agg,List.length_nil,Nat.add_zero,Nat.zero_add,b_gtr,decide_eq_false,ld9,ls9,ld22,lv22,fa24_0,fa24_1]))
 refine W.loopG (X:=Int × Nat) (fun y=>[(3,.int .i64 y.1),(4,.int .i64 (y.2:Int)),(1,.ptr 0 0)]) (fun _=>[.cells [.str ver,.vsl 5 x (ls.map encLn)] false])
  (fun y=>y.2≤ls.length∧lightL y.1 (ls.drop y.2) = lightL 0 ls) (fun y=>ls.length - y.2) (0,0) (fun _=>Nat.zero_le _) rfl ⟨Nat.zero_le _,rfl⟩ ?_ rfl ?_ ?_
 ·simp only [subT,Av.get,Nat.reduceEqDiff,↓reduceIte,Le_rfl,nat0,nat1,and_self,true_and,and_true,List.length_map,List.length_nil]
 ·exact subH_self (by simp [OB.hlt,AV.hlts,AV.hlt,encLn_hlts])
 rintro ⟨m,i⟩ ⟨hi,hL⟩
 simp only at hi hL ⊢
 refine .vc (by decide) ?_
 by_cases h:i < ls.length
 ·obtain ⟨⟨g,n,xl,ps,v⟩,hu,hd⟩:=drop_at h
  have hia:∀ H,evIndexAddr Tryz.prog 22 (.vsl 5 x (ls.map encLn)) (.int .i64 (i:Int)) H = some (.vptr [.str g,.str n,.vsl 3 xl (ps.map encR),.str v]):=fun H=>iv22 (v:=encLn ⟨g,n,xl,ps,v⟩) (by simp [hu]) rfl H
  rw [hd,lightL] at hL
  simp only at hL
  by_cases c1:12 < ps.length
  ·rw [if_pos (.inl c1)] at hL
   rw [← hL]
   repeat' (first | (simp (disch:=first | omega | (simp only [List.length_append,List.length_cons,List.length_nil,List.length_map,List.length_set]; omega)) only [VC_skip,VC_seq,VC_cond,VC_block,VC_ret,VC_region,VI_true,VO_nil,VO_plain,VO_guard,VG_false,VV_some,VS,blockQ,List.length_map,ofV_bool,ofV_int,deN_vsl,gdA,callOf,isPanic,nextOf,altA,evalOp,ev_tmp,ev_const,Av.get,St.put,thenQ,Nat.reduceEqDiff,↓reduceIte,Bool.and_self,List.nil_append,List.getElem?_cons_zero,List.getElem?_cons_succ,List.getElem?_toArray,Option.map_some,Option.bind_some,beq_false,Bool.not_true,pickA,ldC,stC,ic_str,ic_vsl,cl_agg,setC,List.set_cons_zero,List.set_cons_succ,List.length_cons,List.length_nil,Nat.reduceAdd,List.all_cons,List.all_nil,and_self,Nat.zero_add,List.take_succ_cons,List.take_zero,Nat.le_refl,List.cons_append,b_lss,b_gtr,decide_eq_true,ld22,lv22,fa24_1,ld43,lv43,st45,lw45,fa45_2,zz45,hia,add_w]))
   exact ⟨_,rfl,_,rfl,.refl _⟩
  by_cases c2:8000 < v.length
  ·rw [if_pos (.inr (.inl c2))] at hL
   rw [← hL]
   repeat' (first | (simp (disch:=first | omega | (simp only [List.length_append,List.length_cons,List.length_nil,List.length_map,List.length_set]; omega)) only [VC_skip,VC_seq,VC_cond,VC_block,VC_ret,VC_region,VI_true,VO_nil,VO_plain,VO_guard,VG_true,VG_false,VV_some,VS,blockQ,List.length_map,ofV_bool,ofV_int,deN_vsl,deN_str,gdA,callOf,isPanic,nextOf,altA,evalOp,ev_tmp,ev_const,Av.get,St.put,thenQ,Nat.reduceEqDiff,↓reduceIte,Bool.and_self,List.nil_append,List.getElem?_cons_zero,List.getElem?_cons_succ,List.getElem?_toArray,Option.map_some,Option.bind_some,beq_false,Bool.not_true,Bool.not_false,pickA,cond_false,ldC,stC,ic_str,ic_vsl,cl_agg,setC,List.set_cons_zero,List.set_cons_succ,List.length_cons,List.length_nil,Nat.reduceAdd,List.all_cons,List.all_nil,and_self,Nat.zero_add,List.take_succ_cons,List.take_zero,Nat.le_refl,List.cons_append,b_lss,b_gtr,decide_eq_true,decide_eq_false,ld9,ls9,ld22,lv22,fa24_1,ld43,lv43,st45,lw45,fa45_2,fa45_3,zz45,hia,add_w]))
   exact ⟨_,rfl,_,rfl,.refl _⟩
  by_cases c3:wadd g.length n.length > 300
  ·rw [if_pos (.inr (.inr c3))] at hL
   rw [← hL]
   repeat' (first | (simp (disch:=first | omega | (simp only [List.length_append,List.length_cons,List.length_nil,List.length_map,List.length_set]; omega)) only [VC_skip,VC_seq,VC_cond,VC_block,VC_ret,VC_region,VI_true,VO_nil,VO_plain,VO_guard,VG_true,VV_some,VS,blockQ,List.length_map,ofV_bool,ofV_int,deN_vsl,deN_str,gdA,callOf,isPanic,nextOf,altA,evalOp,ev_tmp,ev_const,Av.get,St.put,thenQ,Nat.reduceEqDiff,↓reduceIte,Bool.and_self,List.nil_append,List.getElem?_cons_zero,List.getElem?_cons_succ,List.getElem?_toArray,Option.map_some,Option.bind_some,beq_false,Bool.not_false,pickA,cond_false,ldC,stC,ic_str,ic_vsl,cl_agg,setC,List.set_cons_zero,List.set_cons_succ,List.length_cons,List.length_nil,Nat.reduceAdd,List.all_cons,List.all_nil,and_self,Nat.add_zero,Nat.zero_add,List.take_succ_cons,List.take_zero,Nat.le_refl,List.cons_append,b_lss,b_gtr,decide_eq_true,decide_eq_false,ld9,ls9,ld22,lv22,fa24_1,ld43,lv43,st45,lw45,fa45_0,fa45_1,fa45_2,fa45_3,zz45,hia,add_w]))
   exact ⟨_,rfl,_,rfl,.refl _⟩
  rw [if_neg (by omega)] at hL
  repeat' (first | (simp (disch:=first | omega | (simp only [List.length_append,List.length_cons,List.length_nil,List.length_map,List.length_set]; omega)) only [VC_skip,VC_seq,VC_cond,VC_block,VC_region,VC_loop,VI_true,VI_false,VO_nil,VO_plain,VO_guard,VG_true,VV_some,VS,List.length_map,ofV_bool,ofV_int,deN_vsl,deN_str,gdA,callOf,isPanic,nextOf,altA,evalOp,ev_tmp,ev_const,Av.get,St.put,thenQ,Nat.reduceEqDiff,↓reduceIte,Bool.and_self,List.nil_append,List.getElem?_cons_zero,List.getElem?_cons_succ,List.getElem?_toArray,Option.map_some,Option.bind_some,beq_false,Bool.not_false,pickA,cond_false,ldC,stC,ic_str,ic_vsl,cl_agg,setC,List.set_cons_zero,List.set_cons_succ,List.length_cons,List.length_nil,Nat.reduceAdd,List.all_cons,List.all_nil,and_self,Nat.add_zero,Nat.zero_add,List.take_succ_cons,List.take_zero,Nat.le_refl,List.cons_append,b_lss,b_gtr,decide_eq_true,decide_eq_false,ld9,ls9,ld22,lv22,fa24_1,ld43,lv43,st45,lw45,fa45_0,fa45_1,fa45_2,fa45_3,zz45,hia,add_w]))
  refine W.loopT (X:=Int × Nat) (fun y=>[(3,.int .i64 y.1),(6,.int .i64 (y.2:Int)),(5,.ptr 1 0),(4,.int .i64 (i:Int)),(1,.ptr 0 0)]) (fun _=>[.cells [.str ver,.vsl 5 x (ls.map encLn)] false,.cells [.str g,.str n,.vsl 3 xl (ps.map encR),.str v] false])
   (fun y=>y.2≤ps.length∧lightP y.1 (ps.drop y.2) = lightP (wadd m v.length) ps) (fun y=>ps.length - y.2) (wadd m v.length,0) ⟨Nat.zero_le _,rfl⟩ ⟨rfl,rfl,rfl,rfl,rfl,trivial⟩ rfl ?_
  rintro ⟨q,k⟩ ⟨hk,hP⟩
  simp only at hk hP ⊢
  refine .vc (by decide) ?_
  by_cases hkl:k < ps.length
  ·obtain ⟨⟨pn,pv⟩,hp,hpd⟩:=drop_at hkl
   have hja:∀ H,evIndexAddr Tryz.prog 43 (.vsl 3 xl (ps.map encR)) (.int .i64 (k:Int)) H = some (.vptr [.str pn,.str pv]):=fun H=>iv43 (v:=encR (pn,pv)) (by simp [hp]) rfl H
   rw [hpd,lightP] at hP
   simp only at hP
   repeat' (first | (simp (disch:=first | omega | (simp only [List.length_append,List.length_cons,List.length_nil,List.length_map,List.length_set]; omega)) only [VC_skip,VC_seq,VC_cond,VC_block,VC_region,VC_drawn,VI_true,VO_nil,VO_plain,VV_some,VS,List.length_map,deN_vsl,callOf,isPanic,nextOf,altA,evalOp,ev_tmp,Av.get,St.put,thenQ,Nat.reduceEqDiff,↓reduceIte,List.getElem?_cons_zero,List.getElem?_cons_succ,Option.map_some,ldC,Nat.zero_add,b_lss,decide_eq_true,ld43,lv43,fa45_2,hja]))
   refine W.drawN [] [false,false,false,false,false,false,false,false,false,false,false,false,false,false,false,false] [] mixed (by kernel_rfl) (by kernel_rfl) (by kernel_rfl) ?_
   by_cases c4:wadd pn.length pv.length > 300
   ·rw [if_pos c4] at hP
    rw [← hP] at hL
    simp only at hL
    rw [← hL]
    repeat' (first | (simp (disch:=first | omega | (simp only [List.length_append,List.length_cons,List.length_nil,List.length_map,List.length_set]; omega)) only [VC_seq,VC_cond,VC_ret,VC_region,VI_true,VO_nil,VO_plain,VV_some,VS,blockQ,DT_nil,DT_plain,DS,cHs_f,cHs_n,cPs,lastS_1,lastS_2,ofV_bool,ofV_int,deN_str,callOf,isPanic,nextOf,altA,evalOp,ev_tmp,ev_const,Av.get,St.put,thenQ,Nat.reduceEqDiff,↓reduceIte,List.nil_append,List.getElem?_cons_zero,List.getElem?_cons_succ,Option.map_some,ldC,and_self,true_and,Nat.zero_add,List.drop_succ_cons,List.drop_zero,List.cons_append,b_gtr,decide_eq_true,lw9,ls9,ld43,fa45_2,fv54_0,fv54_1,hja,add_w]))
    exact ⟨_,rfl,_,rfl,.refl _⟩
   ·rw [if_neg c4] at hP
    repeat' (first | (simp (disch:=first | omega | (simp only [List.length_append,List.length_cons,List.length_nil,List.length_map,List.length_set]; omega)) only [VC_skip,VC_cond,VC_region,VI_false,VO_nil,VO_plain,VV_some,VS,blockQ,DT_nil,DT_plain,DS,cHs_f,cHs_n,cPs,lastS_1,lastS_2,ofV_int,deN_str,callOf,isPanic,nextOf,altA,evalOp,ev_tmp,ev_const,Av.get,St.put,thenQ,Nat.reduceEqDiff,↓reduceIte,List.nil_append,List.getElem?_cons_zero,List.getElem?_cons_succ,Option.map_some,ldC,and_self,true_and,and_true,Nat.zero_add,List.drop_succ_cons,List.drop_zero,List.cons_append,b_gtr,b_add64,castS,decide_eq_false,lw9,ls9,ld43,fa45_2,fv54_0,fv54_1,hja,add_w]))
    exact ⟨(wadd q pv.length,k + 1),⟨by simp only; omega,hP⟩,by simp only; omega,⟨rfl,rfl,rfl,rfl,rfl,trivial⟩⟩
  ·have e:k = ps.length:=by omega
   subst e
   have hP:some q = lightP (wadd m v.length) ps:=by rw [← hP,List.drop_length]; rfl
   rw [← hP] at hL
   simp only at hL
   by_cases c5:q > 8000
   ·rw [if_pos c5] at hL
    rw [← hL]
    repeat' (first | (simp (disch:=first | omega | (simp only [List.length_append,List.length_cons,List.length_nil,List.length_map,List.length_set]; omega)) only [VC_seq,VC_cond,VC_exit,VC_ret,VC_region,VI_true,VI_false,VO_nil,VO_plain,VV_some,VS,blockQ,List.length_map,ofV_bool,ofV_int,deN_vsl,callOf,isPanic,nextOf,altA,evalOp,ev_tmp,ev_const,Av.get,St.put,thenQ,Nat.reduceEqDiff,↓reduceIte,List.getElem?_cons_zero,List.getElem?_cons_succ,Option.map_some,ldC,Nat.zero_add,b_lss,b_gtr,decide_eq_true,decide_eq_false,ld43,lv43,fa45_2]))
    exact ⟨_,rfl,_,rfl,.refl _⟩
   ·rw [if_neg c5] at hL
    repeat' (first | (simp (disch:=first | omega | (simp only [List.length_append,List.length_cons,List.length_nil,List.length_map,List.length_set]; omega)) only [VC_skip,VC_seq,VC_cond,VC_exit,VC_region,VI_false,VO_nil,VO_plain,VV_some,VS,blockQ,List.length_map,ofV_int,deN_vsl,callOf,isPanic,nextOf,altA,evalOp,ev_tmp,ev_const,Av.get,St.put,thenQ,Nat.reduceEqDiff,↓reduceIte,List.getElem?_cons_zero,List.getElem?_cons_succ,Option.map_some,ldC,and_true,Nat.zero_add,b_lss,b_gtr,b_add64,castS,decide_eq_false,ld43,lv43,fa45_2,add_w]))
    refine ⟨(q,i + 1),⟨by simp only; omega,hL⟩,by simp only; omega,?_,rfl,?_⟩
    ·simp only [subT,Av.get,Nat.reduceEqDiff,↓reduceIte,Le_rfl,nat0,nat1,and_self,true_and,and_true,List.length_map,List.length_nil]
    ·exact subH_drop (A:=[.cells [.str ver,.vsl 5 x (ls.map encLn)] false]) (by simp [OB.hlt,AV.hlts,AV.hlt,encLn_hlts])
 ·have e:i = ls.length:=by omega
  subst e
  have hL:true = lightL 0 ls:=by rw [← hL,List.drop_length]; rfl
  rw [← hL]
  repeat' (first | (simp (disch:=first | omega | (simp only [List.length_append,List.length_cons,List.length_nil,List.length_map,List.length_set]; omega)) only [VC_seq,VC_cond,VC_exit,VC_ret,VC_region,VI_false,VO_nil,VO_plain,VV_some,VS,blockQ,List.length_map,ofV_bool,deN_vsl,callOf,isPanic,nextOf,altA,evalOp,ev_tmp,ev_const,Av.get,St.put,thenQ,Nat.reduceEqDiff,↓reduceIte,List.getElem?_cons_zero,List.getElem?_cons_succ,Option.map_some,ldC,List.length_cons,List.length_nil,Nat.zero_add,b_lss,decide_eq_false,ld22,lv22,fa24_1]))
  exact ⟨_,rfl,_,rfl,.refl _⟩
end Go.Proofs.YtjlhemfmeboadaaGreatDoor
namespace Go.Proofs.YtjlhemfmeboadaaGreatDoor
set_option linter.unusedVariables false
set_option linter.unusedSimpArgs false
open Go Go.Av Go.RowKit

def sK:Bytes:=[98,101,103,105,110,58,118,99,97,114,100,10,86,101,114,115,105,111,110,58,51,46,48,10,105,116,101,109,49,46,84,69,76,59,116,121,112,101,61,34,104,111,109,101,34,58,49,10,32,50,10,101,110,100,58,118,99,97,114,100,10]
def tK:Bytes:=[66,69,71,73,78,58,86,67,65,82,68,13,10,86,69,82,83,73,79,78,58,51,46,48,13,10,73,84,69,77,49,46,84,69,76,59,84,89,80,69,61,104,111,109,101,58,49,50,13,10,69,78,68,58,86,67,65,82,68,13,10]
def lK:Ln:=⟨[105,116,101,109,49],[116,101,108],false,[([116,121,112,101],[104,111,109,101])],[49,50]⟩
def cK:Cd:=⟨[51,46,48],false,[lK]⟩
theorem parse_K:parseO sK = (cK,0):=by kernel_rfl
theorem text_K:textC cK = tK:=by kernel_rfl
theorem check_K:checkC cK = 0:=by kernel_rfl
set_option maxRecDepth 8000 in
theorem knownV:PureFn Tryz.prog 12 [] (.ret (.bool true)):=by
 have hp:=parseV sK (by decide)
 rw [parse_K] at hp
 have ht:=textV cK
 rw [text_K,check_K] at ht
 simp only [outP,encCd,cK,encLn,lK,List.map_cons,List.map_nil,encR,sK,tK] at hp ht
 have hia:∀ H,evIndexAddr Tryz.prog 22 (.vsl 5 false [.agg [.str [105,116,101,109,49],.str [116,101,108],.vsl 3 false [.agg [.str [116,121,112,101],.str [104,111,109,101]]],.str [49,50]]]) (.int .i64 0) H = some (.vptr [.str [105,116,101,109,49],.str [116,101,108],.vsl 3 false [.agg [.str [116,121,112,101],.str [104,111,109,101]]],.str [49,50]]):=fun H=>by
  have:=iv22 (n:=0) (x:=false) (wd:=5) (es:=[encLn lK]) (k:=.i64) (v:=encLn lK) rfl rfl H
  exact this
 refine PureFn.of Tryz.func12 rfl (enters_call enters Tryz.func12 rfl) (by simp [Tryz.ntmps12]) ?_
 show W Tryz.prog 46 0 none _ _ _
 refine W.vc (by decide) ?_
 repeat' (first | (simp (disch:=first | omega | (simp only [List.length_append,List.length_cons,List.length_nil,List.length_map,List.length_set]; omega)) only [VC_seq,VC_ret,VC_region,VO_nil,VO_plain,VO_guard,VG_true,VV_some,VS,ofV_bool,ofV_int,ofV_lit,deN_vsl,gdA,callOf,isPanic,nextOf,altA,evalOp,ev_tmp,ev_const,ev_func,Av.get,St.put,argT,thenQ,Nat.reduceEqDiff,↓reduceIte,Bool.and_self,List.map_cons,List.map_nil,List.nil_append,List.append_nil,List.getElem?_cons_zero,List.getElem?_cons_succ,List.getElem?_toArray,Option.map_some,Option.bind_some,pickA,cond_true,ldC,ldG,stC,ic_str,ic_vsl,cl_agg,setC,List.set_cons_zero,List.set_cons_succ,List.length_cons,List.length_nil,Nat.reduceAdd,List.all_cons,List.all_nil,and_self,Nat.zero_add,List.drop_succ_cons,List.drop_zero,List.take_succ_cons,List.take_zero,Nat.le_refl,b_eql,s_eql,ieq_t,lw9,ld22,lv22,st24,ld24,fa24_1,fv45_0,fv45_3,zz24,hia,beq_self_eq_true,tK]) | (guard_target =~ VCall _ _ _ _ _ _ _; refine VCall.pure (by first | with_reducible exact hp | with_reducible exact ht) (by (first | rfl | (simp only [AV.hfs,AV.hf,Bool.and_self,Bool.and_true,Bool.true_and,strs_hfs]))) ?_) | (guard_target =~ DCal _ _ _ _ _ _ _; refine DCal.pure (by first | with_reducible exact hp | with_reducible exact ht) (by (first | rfl | (simp only [AV.hfs,AV.hf,Bool.and_self,Bool.and_true,Bool.true_and,strs_hfs]))) ?_))
 exact ⟨_,rfl,_,rfl,.refl _⟩
end Go.Proofs.YtjlhemfmeboadaaGreatDoor
namespace Go.Proofs.YtjlhemfmeboadaaGreatDoor
set_option linter.unusedVariables false
set_option linter.unusedSimpArgs false
open Go Go.Av Go.RowKit

section
variable {α:Type}
def eqL (p:α→α→Bool):List α→List α→Bool
 | [],[]=>true
 | a::r,b::s=>p a b && eqL p r s
 | _,_=>false
theorem eqL_len {p:α→α→Bool}:∀ {a b:List α},eqL p a b = true→a.length = b.length
 | [],[],_=>rfl
 | x::a,y::b,h=>by
  simp only [eqL,Bool.and_eq_true] at h
  simp [eqL_len h.2]
 | [],_::_,h=>by cases h
 | _::_,[],h=>by cases h
end
def sameP (p q:Bytes × Bytes):Bool:=small p.1 == small q.1 && p.2 == q.2
def sameN (a b:Ln):Bool:=small a.g == small b.g && (small a.n == small b.n && (a.v == b.v && eqL sameP a.ps b.ps))
def sameC (a b:Cd):Bool:=a.ver == b.ver && eqL sameN a.ls b.ls
end Go.Proofs.YtjlhemfmeboadaaGreatDoor
namespace Go.Proofs.YtjlhemfmeboadaaGreatDoor
set_option linter.unusedVariables false
set_option linter.unusedSimpArgs false
open Go Go.Av Go.RowKit

set_option maxRecDepth 8000 in
theorem same_R (a b:Ln):PureFn Tryz.prog 44 [encLn a,encLn b] (.ret (.bool (sameN a b))):=by
 obtain ⟨u1,u2,u5,u3,u4⟩:=a
 obtain ⟨v1,v2,v5,v3,v4⟩:=b
 have h1:=smallR u1
 have h2:=smallR v1
 have h3:=smallR u2
 have h4:=smallR v2
 refine PureFn.fitA fun hfit=>?_
 have hfl:u3.length≤9223372036854775807:=by have:=hfit [.str u1,.str u2,.vsl 3 u5 (u3.map encR),.str u4] (by simp [encLn]) (.vsl 3 u5 (u3.map encR)) (by simp); simp only [AV.fit,List.length_map] at this; exact this
 simp only [encLn]
 refine PureFn.of Tryz.func44 rfl (enters_call enters Tryz.func44 rfl) (by simp [Tryz.ntmps44]) ?_
 show W Tryz.prog 75 0 none _ _ _
 refine W.vc (by decide) ?_
 repeat' (first | (simp (disch:=first | omega | (simp only [List.length_append,List.length_cons,List.length_nil,List.length_map,List.length_set]; omega)) only [VC_seq,VC_region,VC_drawn,VO_nil,VO_plain,VV_some,VS,AV.told,ofV_bool,callOf,isPanic,nextOf,altA,evalOp,ev_tmp,ev_const,Av.get,St.put,argT,thenQ,Nat.reduceEqDiff,↓reduceIte,List.nil_append,cl_agg,List.length_cons,List.length_nil,Nat.zero_add,List.cons_append]))
 refine W.drawN [] [false,false,false,false,false,false,false,false,false,false,false,false,false,false,false,false,false,false,false,false,false,false,false,false,false,false,false,false,false,false,false,false] [] mixed (by kernel_rfl) (by kernel_rfl) (by kernel_rfl) ?_
 cases e1:small u1 == small v1 with
 | false=>
  have e:sameN ⟨u1,u2,u5,u3,u4⟩ ⟨v1,v2,v5,v3,v4⟩ = false:=by simp only [sameN,e1]; rfl
  rw [e]
  repeat' (first | (simp (disch:=first | omega | (simp only [List.length_append,List.length_cons,List.length_nil,List.length_map,List.length_set]; omega)) only [VC_seq,VC_cond,VC_ret,VC_region,VI_true,VO_nil,VO_plain,VV_some,VS,DT_nil,DT_plain,DT_guard,DG_false,DS,cHs_f,cHs_n,cPs,lastS_1,lastS_2,ofV_bool,gdA,callOf,isPanic,nextOf,altA,evalOp,ev_tmp,ev_const,ev_func,Av.get,St.put,thenQ,Nat.reduceEqDiff,↓reduceIte,List.map_cons,List.map_nil,List.nil_append,List.append_nil,List.getElem?_cons_zero,List.getElem?_cons_succ,List.getElem?_toArray,Option.map_some,Option.bind_some,beq_false,Bool.not_true,Bool.not_false,pickA,ldC,and_self,true_and,Nat.add_zero,List.cons_append,s_neq,ld9,fa45_0,e1,bne]) | (guard_target =~ VCall _ _ _ _ _ _ _; refine VCall.pure (by first | with_reducible exact h1 | with_reducible exact h2) (by (first | rfl | (simp only [AV.hfs,AV.hf,Bool.and_self,Bool.and_true,Bool.true_and,strs_hfs]))) ?_) | (guard_target =~ DCal _ _ _ _ _ _ _; refine DCal.pure (by first | with_reducible exact h1 | with_reducible exact h2) (by (first | rfl | (simp only [AV.hfs,AV.hf,Bool.and_self,Bool.and_true,Bool.true_and,strs_hfs]))) ?_))
  exact ⟨_,rfl,_,rfl,.refl _⟩
 | true=>
  cases e2:small u2 == small v2 with
  | false=>
   have e:sameN ⟨u1,u2,u5,u3,u4⟩ ⟨v1,v2,v5,v3,v4⟩ = false:=by simp only [sameN,e1,e2]; rfl
   rw [e]
   repeat' (first | (simp (disch:=first | omega | (simp only [List.length_append,List.length_cons,List.length_nil,List.length_map,List.length_set]; omega)) only [VC_seq,VC_cond,VC_ret,VC_region,VI_true,VO_nil,VO_plain,VV_some,VS,DT_nil,DT_plain,DT_guard,DG_true,DG_false,DS,cHs_f,cHs_n,cPs,lastS_1,lastS_2,ofV_bool,gdA,callOf,isPanic,nextOf,altA,evalOp,ev_tmp,ev_const,ev_func,Av.get,St.put,thenQ,Nat.reduceEqDiff,↓reduceIte,List.map_cons,List.map_nil,List.nil_append,List.append_nil,List.getElem?_cons_zero,List.getElem?_cons_succ,List.getElem?_toArray,Option.map_some,Option.bind_some,beq_false,Bool.not_true,Bool.not_false,pickA,cond_false,ldC,and_self,true_and,Nat.add_zero,Nat.zero_add,List.cons_append,s_neq,ld9,fa45_0,fa45_1,e1,e2,bne]) | (guard_target =~ VCall _ _ _ _ _ _ _; refine VCall.pure (by first | with_reducible exact h1 | with_reducible exact h2 | with_reducible exact h3 | with_reducible exact h4) (by (first | rfl | (simp only [AV.hfs,AV.hf,Bool.and_self,Bool.and_true,Bool.true_and,strs_hfs]))) ?_) | (guard_target =~ DCal _ _ _ _ _ _ _; refine DCal.pure (by first | with_reducible exact h1 | with_reducible exact h2 | with_reducible exact h3 | with_reducible exact h4) (by (first | rfl | (simp only [AV.hfs,AV.hf,Bool.and_self,Bool.and_true,Bool.true_and,strs_hfs]))) ?_))
   exact ⟨_,rfl,_,rfl,.refl _⟩
  | true=>
   cases e3:u4 == v4 with
   | false=>
    have e:sameN ⟨u1,u2,u5,u3,u4⟩ ⟨v1,v2,v5,v3,v4⟩ = false:=by simp only [sameN,e1,e2,e3]; rfl
    rw [e]
    repeat' (first | (simp (disch:=first | omega | (simp only [List.length_append,List.length_cons,List.length_nil,List.length_map,List.length_set]; omega)) only [VC_seq,VC_cond,VC_ret,VC_region,VI_true,VO_nil,VO_plain,VV_some,VS,DT_nil,DT_plain,DT_guard,DG_true,DG_false,DS,cHs_f,cHs_n,cPs,lastS_1,lastS_2,ofV_bool,gdA,callOf,isPanic,nextOf,altA,evalOp,ev_tmp,ev_const,ev_func,Av.get,St.put,thenQ,Nat.reduceEqDiff,↓reduceIte,List.map_cons,List.map_nil,List.nil_append,List.append_nil,List.getElem?_cons_zero,List.getElem?_cons_succ,List.getElem?_toArray,Option.map_some,Option.bind_some,beq_false,Bool.not_true,Bool.not_false,pickA,cond_false,ldC,and_self,true_and,Nat.add_zero,Nat.zero_add,List.cons_append,s_neq,ld9,fa45_0,fa45_1,fa45_3,e1,e2,e3,bne]) | (guard_target =~ VCall _ _ _ _ _ _ _; refine VCall.pure (by first | with_reducible exact h1 | with_reducible exact h2 | with_reducible exact h3 | with_reducible exact h4) (by (first | rfl | (simp only [AV.hfs,AV.hf,Bool.and_self,Bool.and_true,Bool.true_and,strs_hfs]))) ?_) | (guard_target =~ DCal _ _ _ _ _ _ _; refine DCal.pure (by first | with_reducible exact h1 | with_reducible exact h2 | with_reducible exact h3 | with_reducible exact h4) (by (first | rfl | (simp only [AV.hfs,AV.hf,Bool.and_self,Bool.and_true,Bool.true_and,strs_hfs]))) ?_))
    exact ⟨_,rfl,_,rfl,.refl _⟩
   | true=>
    have e:sameN ⟨u1,u2,u5,u3,u4⟩ ⟨v1,v2,v5,v3,v4⟩ = eqL sameP u3 v3:=by simp only [sameN,e1,e2,e3]; rfl
    rw [e]
    by_cases hl:u3.length = v3.length
    ·repeat' (first | (simp (disch:=first | omega | (simp only [List.length_append,List.length_cons,List.length_nil,List.length_map,List.length_set]; omega)) only [VC_skip,VC_seq,VC_cond,VC_block,VC_region,VC_loop,VI_false,VO_nil,VO_plain,VV_some,VS,DT_nil,DT_plain,DT_guard,DG_true,DS,cHs_f,cHs_n,cPs,lastS_1,lastS_2,List.length_map,ofV_bool,ofV_int,deN_vsl,gdA,callOf,isPanic,nextOf,altA,evalOp,ev_tmp,ev_const,ev_func,Av.get,St.put,thenQ,Nat.reduceEqDiff,↓reduceIte,List.map_cons,List.map_nil,List.nil_append,List.append_nil,List.getElem?_cons_zero,List.getElem?_cons_succ,List.getElem?_toArray,Option.map_some,Option.bind_some,beq_false,Bool.not_true,Bool.not_false,pickA,cond_false,ldC,and_self,true_and,Nat.add_zero,Nat.zero_add,List.cons_append,b_neq,s_neq,ieq_t,ld9,ld43,lv43,fa45_0,fa45_1,fa45_2,fa45_3,e1,e2,e3,bne]) | (guard_target =~ VCall _ _ _ _ _ _ _; refine VCall.pure (by first | with_reducible exact h1 | with_reducible exact h2 | with_reducible exact h3 | with_reducible exact h4) (by (first | rfl | (simp only [AV.hfs,AV.hf,Bool.and_self,Bool.and_true,Bool.true_and,strs_hfs]))) ?_) | (guard_target =~ DCal _ _ _ _ _ _ _; refine DCal.pure (by first | with_reducible exact h1 | with_reducible exact h2 | with_reducible exact h3 | with_reducible exact h4) (by (first | rfl | (simp only [AV.hfs,AV.hf,Bool.and_self,Bool.and_true,Bool.true_and,strs_hfs]))) ?_))
     refine W.loopT (X:=Nat) (fun i=>[(5,.int .i64 (i:Int)),(2,.ptr 0 0),(3,.ptr 1 0)]) (fun _=>[.cells [.str u1,.str u2,.vsl 3 u5 (u3.map encR),.str u4] false,.cells [.str v1,.str v2,.vsl 3 v5 (v3.map encR),.str v4] false])
      (fun i=>i≤u3.length∧eqL sameP (u3.drop i) (v3.drop i) = eqL sameP u3 v3) (fun i=>u3.length - i) 0 ⟨Nat.zero_le _,rfl⟩ ⟨rfl,rfl,rfl,trivial⟩ rfl ?_
     rintro i ⟨hi,hE⟩
     refine .vc (by decide) ?_
     by_cases h:i < u3.length
     ·obtain ⟨⟨p1,p2⟩,hu,hud⟩:=drop_at h
      obtain ⟨⟨q1,q2⟩,hv,hvd⟩:=drop_at (show i < v3.length from by omega)
      rw [hud,hvd,eqL] at hE
      have hia:∀ H,evIndexAddr Tryz.prog 43 (.vsl 3 u5 (u3.map encR)) (.int .i64 (i:Int)) H = some (.vptr [.str p1,.str p2]):=fun H=>iv43 (v:=encR (p1,p2)) (by simp [hu]) rfl H
      have hib:∀ H,evIndexAddr Tryz.prog 43 (.vsl 3 v5 (v3.map encR)) (.int .i64 (i:Int)) H = some (.vptr [.str q1,.str q2]):=fun H=>iv43 (v:=encR (q1,q2)) (by simp [hv]) rfl H
      have g1:=smallR p1
      have g2:=smallR q1
      repeat' (first | (simp (disch:=first | omega | (simp only [List.length_append,List.length_cons,List.length_nil,List.length_map,List.length_set]; omega)) only [VC_skip,VC_seq,VC_cond,VC_block,VC_region,VC_drawn,VI_true,VO_nil,VO_plain,VV_some,VS,List.length_map,deN_vsl,callOf,isPanic,nextOf,altA,evalOp,ev_tmp,Av.get,St.put,thenQ,Nat.reduceEqDiff,↓reduceIte,List.getElem?_cons_zero,List.getElem?_cons_succ,Option.map_some,ldC,Nat.zero_add,b_lss,decide_eq_true,ld43,lv43,fa45_2]))
      refine W.drawN [] [false,false,false,false,false,false,false,false,false,false,false,false,false,false,false,false,false,false,false,false,false,false,false,false,false,false,false,false,false,false] [] mixed (by kernel_rfl) (by kernel_rfl) (by kernel_rfl) ?_
      cases f1:small p1 == small q1 with
      | false=>
       have e:sameP (p1,p2) (q1,q2) = false:=by simp only [sameP,f1]; rfl
       rw [e] at hE
       rw [← hE]
       repeat' (first | (simp (disch:=first | omega | (simp only [List.length_append,List.length_cons,List.length_nil,List.length_map,List.length_set]; omega)) only [VC_seq,VC_cond,VC_ret,VC_region,VI_true,VO_nil,VO_plain,VV_some,VS,blockQ,DT_nil,DT_plain,DT_guard,DG_false,DS,cHs_f,cHs_n,cPs,lastS_1,lastS_2,ofV_bool,gdA,callOf,isPanic,nextOf,altA,evalOp,ev_tmp,ev_const,ev_func,Av.get,St.put,thenQ,Nat.reduceEqDiff,↓reduceIte,List.map_cons,List.map_nil,List.nil_append,List.append_nil,List.getElem?_cons_zero,List.getElem?_cons_succ,List.getElem?_toArray,Option.map_some,Option.bind_some,beq_false,Bool.not_true,Bool.not_false,pickA,ldC,and_self,true_and,Nat.zero_add,List.drop_zero,List.cons_append,s_neq,Bool.false_and,lw9,ld43,fa45_2,fv54_0,hia,hib,f1,bne]) | (guard_target =~ VCall _ _ _ _ _ _ _; refine VCall.pure (by first | with_reducible exact g1 | with_reducible exact g2) (by (first | rfl | (simp only [AV.hfs,AV.hf,Bool.and_self,Bool.and_true,Bool.true_and,strs_hfs]))) ?_) | (guard_target =~ DCal _ _ _ _ _ _ _; refine DCal.pure (by first | with_reducible exact g1 | with_reducible exact g2) (by (first | rfl | (simp only [AV.hfs,AV.hf,Bool.and_self,Bool.and_true,Bool.true_and,strs_hfs]))) ?_))
       exact ⟨_,rfl,_,rfl,.refl _⟩
      | true=>
       cases f2:p2 == q2 with
       | false=>
        have e:sameP (p1,p2) (q1,q2) = false:=by simp only [sameP,f1,f2]; rfl
        rw [e] at hE
        rw [← hE]
        repeat' (first | (simp (disch:=first | omega | (simp only [List.length_append,List.length_cons,List.length_nil,List.length_map,List.length_set]; omega)) only [VC_seq,VC_cond,VC_ret,VC_region,VI_true,VO_nil,VO_plain,VV_some,VS,blockQ,DT_nil,DT_plain,DT_guard,DG_true,DS,cHs_f,cHs_n,cPs,lastS_1,lastS_2,ofV_bool,gdA,callOf,isPanic,nextOf,altA,evalOp,ev_tmp,ev_const,ev_func,Av.get,St.put,thenQ,Nat.reduceEqDiff,↓reduceIte,List.map_cons,List.map_nil,List.nil_append,List.append_nil,List.getElem?_cons_zero,List.getElem?_cons_succ,List.getElem?_toArray,Option.map_some,Option.bind_some,beq_false,Bool.not_true,Bool.not_false,pickA,cond_false,ldC,and_self,true_and,Nat.zero_add,List.drop_succ_cons,List.drop_zero,List.cons_append,s_neq,Bool.false_and,lw9,ld43,fa45_2,fv54_0,fv54_1,hia,hib,f1,f2,bne]) | (guard_target =~ VCall _ _ _ _ _ _ _; refine VCall.pure (by first | with_reducible exact g1 | with_reducible exact g2) (by (first | rfl | (simp only [AV.hfs,AV.hf,Bool.and_self,Bool.and_true,Bool.true_and,strs_hfs]))) ?_) | (guard_target =~ DCal _ _ _ _ _ _ _; refine DCal.pure (by first | with_reducible exact g1 | with_reducible exact g2) (by (first | rfl | (simp only [AV.hfs,AV.hf,Bool.and_self,Bool.and_true,Bool.true_and,strs_hfs]))) ?_))
        exact ⟨_,rfl,_,rfl,.refl _⟩
       | true=>
        have e:sameP (p1,p2) (q1,q2) = true:=by simp only [sameP,f1,f2]; rfl
        rw [e] at hE
        repeat' (first | (simp (disch:=first | omega | (simp only [List.length_append,List.length_cons,List.length_nil,List.length_map,List.length_set]; omega)) only [VC_skip,VC_cond,VC_region,VI_false,VO_nil,VO_plain,VV_some,VS,blockQ,DT_nil,DT_plain,DT_guard,DG_true,DS,cHs_f,cHs_n,cPs,lastS_1,lastS_2,ofV_bool,ofV_int,gdA,callOf,isPanic,nextOf,altA,evalOp,ev_tmp,ev_const,ev_func,Av.get,St.put,thenQ,Nat.reduceEqDiff,↓reduceIte,List.map_cons,List.map_nil,List.nil_append,List.append_nil,List.getElem?_cons_zero,List.getElem?_cons_succ,List.getElem?_toArray,Option.map_some,Option.bind_some,beq_false,Bool.not_true,Bool.not_false,pickA,cond_false,ldC,and_self,true_and,and_true,Nat.zero_add,List.drop_succ_cons,List.drop_zero,List.cons_append,b_add64,s_neq,castS,lw9,ld43,fa45_2,fv54_0,fv54_1,hia,hib,f1,f2,bne]) | (guard_target =~ VCall _ _ _ _ _ _ _; refine VCall.pure (by first | with_reducible exact g1 | with_reducible exact g2) (by (first | rfl | (simp only [AV.hfs,AV.hf,Bool.and_self,Bool.and_true,Bool.true_and,strs_hfs]))) ?_) | (guard_target =~ DCal _ _ _ _ _ _ _; refine DCal.pure (by first | with_reducible exact g1 | with_reducible exact g2) (by (first | rfl | (simp only [AV.hfs,AV.hf,Bool.and_self,Bool.and_true,Bool.true_and,strs_hfs]))) ?_))
        exact ⟨i + 1,⟨by omega,by rw [← hE]; rfl⟩,by omega,⟨rfl,rfl,rfl,trivial⟩⟩
     ·have e:i = u3.length:=by omega
      subst e
      rw [List.drop_length,hl,List.drop_length] at hE
      rw [← hE]
      repeat' (first | (simp (disch:=first | omega | (simp only [List.length_append,List.length_cons,List.length_nil,List.length_map,List.length_set]; omega)) only [VC_seq,VC_cond,VC_exit,VC_ret,VC_region,VI_false,VO_nil,VO_plain,VV_some,VS,blockQ,List.length_map,ofV_bool,deN_vsl,callOf,isPanic,nextOf,altA,evalOp,ev_tmp,ev_const,Av.get,St.put,thenQ,Nat.reduceEqDiff,↓reduceIte,List.getElem?_cons_zero,List.getElem?_cons_succ,Option.map_some,ldC,Nat.zero_add,b_lss,decide_eq_false,ld43,lv43,fa45_2]))
      exact ⟨_,rfl,_,rfl,.refl _⟩
    ·have e:eqL sameP u3 v3 = false:=by
      cases h:eqL sameP u3 v3 with
      | false=>rfl
      | true=>exact (hl (eqL_len h)).elim
     rw [e]
     repeat' (first | (simp (disch:=first | omega | (simp only [List.length_append,List.length_cons,List.length_nil,List.length_map,List.length_set]; omega)) only [VC_seq,VC_cond,VC_ret,VC_region,VI_true,VO_nil,VO_plain,VV_some,VS,DT_nil,DT_plain,DT_guard,DG_true,DS,cHs_f,cHs_n,cPs,lastS_1,lastS_2,List.length_map,ofV_bool,deN_vsl,gdA,callOf,isPanic,nextOf,altA,evalOp,ev_tmp,ev_const,ev_func,Av.get,St.put,thenQ,Nat.reduceEqDiff,↓reduceIte,List.map_cons,List.map_nil,List.nil_append,List.append_nil,List.getElem?_cons_zero,List.getElem?_cons_succ,List.getElem?_toArray,Option.map_some,Option.bind_some,beq_false,Bool.not_true,Bool.not_false,pickA,cond_false,ldC,and_self,true_and,Nat.add_zero,Nat.zero_add,List.cons_append,b_neq,s_neq,ieq_f,ld9,ld43,lv43,fa45_0,fa45_1,fa45_2,fa45_3,e1,e2,e3,bne]) | (guard_target =~ VCall _ _ _ _ _ _ _; refine VCall.pure (by first | with_reducible exact h1 | with_reducible exact h2 | with_reducible exact h3 | with_reducible exact h4) (by (first | rfl | (simp only [AV.hfs,AV.hf,Bool.and_self,Bool.and_true,Bool.true_and,strs_hfs]))) ?_) | (guard_target =~ DCal _ _ _ _ _ _ _; refine DCal.pure (by first | with_reducible exact h1 | with_reducible exact h2 | with_reducible exact h3 | with_reducible exact h4) (by (first | rfl | (simp only [AV.hfs,AV.hf,Bool.and_self,Bool.and_true,Bool.true_and,strs_hfs]))) ?_))
     exact ⟨_,rfl,_,rfl,.refl _⟩
set_option maxRecDepth 8000 in
theorem sameRf (a b:Cd):PureFn Tryz.prog 18 [encCd a,encCd b] (.ret (.bool (sameC a b))):=by
 obtain ⟨u1,u2,u3⟩:=a
 obtain ⟨v1,v2,v3⟩:=b
 refine PureFn.fitA fun hfit=>?_
 have hfl:u3.length≤9223372036854775807:=by have:=hfit [.str u1,.vsl 5 u2 (u3.map encLn)] (by simp [encCd]) (.vsl 5 u2 (u3.map encLn)) (by simp); simp only [AV.fit,List.length_map] at this; exact this
 simp only [encCd]
 refine PureFn.of Tryz.func18 rfl (enters_call enters Tryz.func18 rfl) (by simp [Tryz.ntmps18]) ?_
 show W Tryz.prog 39 0 none _ _ _
 refine W.vc (by decide) ?_
 cases e1:u1 == v1 with
 | false=>
  have e:sameC ⟨u1,u2,u3⟩ ⟨v1,v2,v3⟩ = false:=by simp only [sameC,e1]; rfl
  rw [e]
  repeat' (first | (simp (disch:=first | omega | (simp only [List.length_append,List.length_cons,List.length_nil,List.length_map,List.length_set]; omega)) only [VC_seq,VC_cond,VC_ret,VC_region,VI_true,VO_nil,VO_plain,VO_guard,VG_false,VV_some,VS,AV.told,ofV_bool,gdA,callOf,isPanic,nextOf,altA,evalOp,ev_tmp,ev_const,Av.get,St.put,argT,thenQ,Nat.reduceEqDiff,↓reduceIte,List.nil_append,List.getElem?_cons_zero,List.getElem?_cons_succ,List.getElem?_toArray,Option.map_some,Option.bind_some,beq_false,Bool.not_true,Bool.not_false,pickA,ldC,cl_agg,List.length_cons,List.length_nil,Nat.add_zero,Nat.zero_add,List.cons_append,s_neq,ld9,fa24_0,e1,bne]))
  exact ⟨_,rfl,_,rfl,.refl _⟩
 | true=>
  have e:sameC ⟨u1,u2,u3⟩ ⟨v1,v2,v3⟩ = eqL sameN u3 v3:=by simp only [sameC,e1]; rfl
  rw [e]
  by_cases hl:u3.length = v3.length
  ·repeat' (first | (simp (disch:=first | omega | (simp only [List.length_append,List.length_cons,List.length_nil,List.length_map,List.length_set]; omega)) only [VC_skip,VC_seq,VC_cond,VC_block,VC_region,VC_loop,VI_false,VO_nil,VO_plain,VO_guard,VG_true,VV_some,VS,List.length_map,AV.told,ofV_bool,ofV_int,deN_vsl,gdA,callOf,isPanic,nextOf,altA,evalOp,ev_tmp,ev_const,Av.get,St.put,argT,thenQ,Nat.reduceEqDiff,↓reduceIte,List.nil_append,List.getElem?_cons_zero,List.getElem?_cons_succ,List.getElem?_toArray,Option.map_some,Option.bind_some,beq_false,Bool.not_true,Bool.not_false,pickA,cond_false,ldC,cl_agg,List.length_cons,List.length_nil,Nat.add_zero,Nat.zero_add,List.cons_append,b_neq,s_neq,ieq_t,ld9,ld22,lv22,fa24_0,fa24_1,e1,bne]))
   refine W.loopT (X:=Nat) (fun i=>[(5,.int .i64 (i:Int)),(2,.ptr 0 0),(3,.ptr 1 0)]) (fun _=>[.cells [.str u1,.vsl 5 u2 (u3.map encLn)] false,.cells [.str v1,.vsl 5 v2 (v3.map encLn)] false])
    (fun i=>i≤u3.length∧eqL sameN (u3.drop i) (v3.drop i) = eqL sameN u3 v3) (fun i=>u3.length - i) 0 ⟨Nat.zero_le _,rfl⟩ ⟨rfl,rfl,rfl,trivial⟩ rfl ?_
   rintro i ⟨hi,hE⟩
   refine .vc (by decide) ?_
   by_cases h:i < u3.length
   ·obtain ⟨⟨p1,p2,p3,p4,p5⟩,hu,hud⟩:=drop_at h
    obtain ⟨⟨q1,q2,q3,q4,q5⟩,hv,hvd⟩:=drop_at (show i < v3.length from by omega)
    rw [hud,hvd,eqL] at hE
    have hia:∀ H,evIndexAddr Tryz.prog 22 (.vsl 5 u2 (u3.map encLn)) (.int .i64 (i:Int)) H = some (.vptr [.str p1,.str p2,.vsl 3 p3 (p4.map encR),.str p5]):=fun H=>iv22 (v:=encLn ⟨p1,p2,p3,p4,p5⟩) (by simp [hu]) rfl H
    have hib:∀ H,evIndexAddr Tryz.prog 22 (.vsl 5 v2 (v3.map encLn)) (.int .i64 (i:Int)) H = some (.vptr [.str q1,.str q2,.vsl 3 q3 (q4.map encR),.str q5]):=fun H=>iv22 (v:=encLn ⟨q1,q2,q3,q4,q5⟩) (by simp [hv]) rfl H
    have g1:=same_R ⟨p1,p2,p3,p4,p5⟩ ⟨q1,q2,q3,q4,q5⟩
    simp only [encLn] at g1
    repeat' (first | (simp (disch:=first | omega | (simp only [List.length_append,List.length_cons,List.length_nil,List.length_map,List.length_set]; omega)) only [VC_skip,VC_seq,VC_cond,VC_block,VC_region,VC_drawn,VI_true,VO_nil,VO_plain,VV_some,VS,List.length_map,deN_vsl,callOf,isPanic,nextOf,altA,evalOp,ev_tmp,Av.get,St.put,thenQ,Nat.reduceEqDiff,↓reduceIte,List.getElem?_cons_zero,List.getElem?_cons_succ,Option.map_some,ldC,Nat.zero_add,b_lss,decide_eq_true,ld22,lv22,fa24_1]))
    refine W.drawN [] [false,false,false,false,false,false,false,false,false,false,false,false] [] mixed (by kernel_rfl) (by kernel_rfl) (by kernel_rfl) ?_
    cases f1:sameN ⟨p1,p2,p3,p4,p5⟩ ⟨q1,q2,q3,q4,q5⟩ with
    | false=>
     rw [f1] at hE g1
     rw [← hE]
     repeat' (first | (simp (disch:=first | omega | (simp only [List.length_append,List.length_cons,List.length_nil,List.length_map,List.length_set]; omega)) only [VC_seq,VC_cond,VC_ret,VC_region,VI_true,VO_nil,VO_plain,VV_some,VS,blockQ,DT_nil,DT_plain,DS,cHs_f,cHs_n,cPs,lastS_1,lastS_2,u_notb,ofV_bool,callOf,isPanic,nextOf,altA,evalOp,ev_tmp,ev_const,ev_func,Av.get,St.put,thenQ,Nat.reduceEqDiff,↓reduceIte,List.map_cons,List.map_nil,List.nil_append,List.append_nil,List.getElem?_cons_zero,List.getElem?_cons_succ,Option.map_some,Bool.not_false,ldC,List.length_cons,List.length_nil,Nat.reduceAdd,and_self,true_and,Nat.zero_add,List.take_succ_cons,List.take_zero,Nat.le_refl,List.cons_append,Bool.false_and,ld22,fa24_1,lw45,hia,hib]) | (guard_target =~ VCall _ _ _ _ _ _ _; refine VCall.pure (by first | with_reducible exact g1) (by (first | rfl | (simp only [AV.hfs,AV.hf,Bool.and_self,Bool.and_true,Bool.true_and,strs_hfs,encR_hfs]))) ?_) | (guard_target =~ DCal _ _ _ _ _ _ _; refine DCal.pure (by first | with_reducible exact g1) (by (first | rfl | (simp only [AV.hfs,AV.hf,Bool.and_self,Bool.and_true,Bool.true_and,strs_hfs,encR_hfs]))) ?_))
     exact ⟨_,rfl,_,rfl,.refl _⟩
    | true=>
     rw [f1] at hE g1
     repeat' (first | (simp (disch:=first | omega | (simp only [List.length_append,List.length_cons,List.length_nil,List.length_map,List.length_set]; omega)) only [VC_skip,VC_cond,VC_region,VI_false,VO_nil,VO_plain,VV_some,VS,blockQ,DT_nil,DT_plain,DS,cHs_f,cHs_n,cPs,lastS_1,lastS_2,u_notb,ofV_int,callOf,isPanic,nextOf,altA,evalOp,ev_tmp,ev_const,ev_func,Av.get,St.put,thenQ,Nat.reduceEqDiff,↓reduceIte,List.map_cons,List.map_nil,List.nil_append,List.append_nil,List.getElem?_cons_zero,List.getElem?_cons_succ,Option.map_some,Bool.not_true,ldC,List.length_cons,List.length_nil,Nat.reduceAdd,and_self,true_and,and_true,Nat.zero_add,List.take_succ_cons,List.take_zero,Nat.le_refl,List.cons_append,b_add64,castS,ld22,fa24_1,lw45,hia,hib]) | (guard_target =~ VCall _ _ _ _ _ _ _; refine VCall.pure (by first | with_reducible exact g1) (by (first | rfl | (simp only [AV.hfs,AV.hf,Bool.and_self,Bool.and_true,Bool.true_and,strs_hfs,encR_hfs]))) ?_) | (guard_target =~ DCal _ _ _ _ _ _ _; refine DCal.pure (by first | with_reducible exact g1) (by (first | rfl | (simp only [AV.hfs,AV.hf,Bool.and_self,Bool.and_true,Bool.true_and,strs_hfs,encR_hfs]))) ?_))
     exact ⟨i + 1,⟨by omega,by rw [← hE]; rfl⟩,by omega,⟨rfl,rfl,rfl,trivial⟩⟩
   ·have e:i = u3.length:=by omega
    subst e
    rw [List.drop_length,hl,List.drop_length] at hE
    rw [← hE]
    repeat' (first | (simp (disch:=first | omega | (simp only [List.length_append,List.length_cons,List.length_nil,List.length_map,List.length_set]; omega)) only [VC_seq,VC_cond,VC_exit,VC_ret,VC_region,VI_false,VO_nil,VO_plain,VV_some,VS,blockQ,List.length_map,ofV_bool,deN_vsl,callOf,isPanic,nextOf,altA,evalOp,ev_tmp,ev_const,Av.get,St.put,thenQ,Nat.reduceEqDiff,↓reduceIte,List.getElem?_cons_zero,List.getElem?_cons_succ,Option.map_some,ldC,Nat.zero_add,b_lss,decide_eq_false,ld22,lv22,fa24_1]))
    exact ⟨_,rfl,_,rfl,.refl _⟩
  ·have e:eqL sameN u3 v3 = false:=by
    cases h:eqL sameN u3 v3 with
    | false=>rfl
    | true=>exact (hl (eqL_len h)).elim
   rw [e]
   repeat' (first | (simp (disch:=first | omega | (simp only [List.length_append,List.length_cons,List.length_nil,List.length_map,List.length_set]; omega)) only [VC_seq,VC_cond,VC_ret,VC_region,VI_true,VO_nil,VO_plain,VO_guard,VG_true,VV_some,VS,List.length_map,AV.told,ofV_bool,deN_vsl,gdA,callOf,isPanic,nextOf,altA,evalOp,ev_tmp,ev_const,Av.get,St.put,argT,thenQ,Nat.reduceEqDiff,↓reduceIte,List.nil_append,List.getElem?_cons_zero,List.getElem?_cons_succ,List.getElem?_toArray,Option.map_some,Option.bind_some,beq_false,Bool.not_true,Bool.not_false,pickA,cond_false,ldC,cl_agg,List.length_cons,List.length_nil,Nat.add_zero,Nat.zero_add,List.cons_append,b_neq,s_neq,ieq_f,ld9,ld22,lv22,fa24_0,fa24_1,e1,bne]))
   exact ⟨_,rfl,_,rfl,.refl _⟩
end Go.Proofs.YtjlhemfmeboadaaGreatDoor
namespace Go.Proofs.YtjlhemfmeboadaaGreatDoor
set_option linter.unusedVariables false
set_option linter.unusedSimpArgs false
open Go Go.Av Go.RowKit

theorem eqL_refl {α:Type} {p:α→α→Bool} (hp:∀ a,p a a = true):∀ a:List α,eqL p a a = true
 | []=>rfl
 | x::a=>by rw [eqL,hp x,eqL_refl hp a]; rfl
theorem sameP_refl (a:Bytes × Bytes):sameP a a = true:=by simp [sameP]
theorem sameN_refl (a:Ln):sameN a a = true:=by simp [sameN,eqL_refl sameP_refl]
theorem sameC_refl (a:Cd):sameC a a = true:=by simp [sameC,eqL_refl sameN_refl]
end Go.Proofs.YtjlhemfmeboadaaGreatDoor
namespace Go.Proofs.YtjlhemfmeboadaaGreatDoor
set_option linter.unusedVariables false
set_option linter.unusedSimpArgs false
open Go Go.Av Go.RowKit

/-! ### Folds let go -/
def okT (t:Bytes):Prop:=∀ x ∈ t,x ≠ 10∧x ≠ 13
def noB (t:Bytes):Prop:=t[0]? ≠ some 9∧t[0]? ≠ some 32
theorem unf_app:∀ (a b:Bytes),okT a→unf (a++b) = a++unf b
 | [],b,_=>rfl
 | x::a,b,h=>by
  have hx:=h x (by simp)
  rw [List.cons_append,unf_cons0 _ _ (lk_other hx.2 hx.1),unf_app a b (fun y hy=>h y (List.mem_cons_of_mem _ hy))]; rfl
theorem unf_fold3 (b:Bytes):unf (13::10::32::b) = unf b:=by
 have:lk (13::10::32::b) = 3:=by rw [lk_1310]; simp
 rw [unf_drop _ (by rw [this]; decide),this]; rfl
theorem unf_foldN:∀ (k m:Nat) (s r:Bytes),okT s→unf (foldN k m s++r) = s++unf r
 | 0,m,s,r,h=>unf_app s r h
 | k + 1,m,s,r,h=>by
  rw [foldN]
  split
  ·rw [List.append_assoc,unf_app (s.take m) _ (fun x hx=>h x (List.mem_of_mem_take hx))]
   simp only [List.append_assoc,List.cons_append,List.nil_append]
   rw [unf_fold3,unf_foldN k 74 _ r (fun x hx=>h x (List.mem_of_mem_drop hx)),← List.append_assoc,List.take_append_drop]
  ·exact unf_app s r h
theorem unf_fold (s r:Bytes) (h:okT s):unf (fold s++r) = s++unf r:=unf_foldN _ _ _ _ h
theorem unf_end {b:Bytes} (h:noB b):unf (13::10::b) = 13::10::unf b:=by
 cases b with
 | nil=>rfl
 | cons y t=>
  have h9:¬ (y = 9∨y = 32):=by
   intro e; rcases e with e | e<;>subst e
   ·exact h.1 rfl
   ·exact h.2 rfl
  rw [unf_cons0 _ _ (by rw [lk_1310,if_neg h9]),unf_cons0 _ _ (by rw [lk_10,if_neg h9])]
theorem foldN_head:∀ (k m:Nat) (s:Bytes),0 < m→(foldN k m s)[0]? = s[0]?
 | 0,m,s,_=>rfl
 | k + 1,m,s,hm=>by
  rw [foldN]
  split
  ·rw [List.getElem?_append_left (by simp; omega),List.getElem?_take_of_lt hm]
  ·rfl
def lnOK (t:Bytes):Prop:=okT t∧t ≠ []∧noB t
theorem joined_cons (x:Bytes) (L:List Bytes):joined (x::L) = x++13::10::joined L:=by simp [joined]
theorem joined_noB:∀ (L:List Bytes),(∀ t ∈ L,t ≠ []∧noB t)→noB (joined L)
 | [],_=>by simp [noB,joined]
 | x::L,h=>by
  obtain ⟨h1,h2⟩:=h x (by simp)
  rw [joined_cons]
  have h0:0 < x.length:=List.length_pos_iff.2 h1
  unfold noB
  rw [List.getElem?_append_left h0]; exact h2
theorem fold_ne {s:Bytes} (h:s ≠ []):fold s ≠ []:=by
 intro e
 have:=foldN_head s.length 75 s (by decide)
 unfold fold at e
 rw [e] at this
 cases s with
 | nil=>exact h rfl
 | cons x t=>simp at this
theorem unf_joined:∀ (L:List Bytes),(∀ t ∈ L,lnOK t)→unf (joined (L.map fold)) = joined L
 | [],_=>rfl
 | x::L,h=>by
  obtain ⟨h1,h2,h3⟩:=h x (by simp)
  have hL:∀ t ∈ L,lnOK t:=fun t ht=>h t (List.mem_cons_of_mem _ ht)
  rw [List.map_cons,joined_cons,joined_cons,unf_fold _ _ h1,unf_end,unf_joined L hL]
  refine joined_noB _ fun t ht=>?_
  obtain ⟨u,hu,rfl⟩:=List.mem_map.1 ht
  obtain ⟨g1,g2,g3⟩:=hL u hu
  refine ⟨fold_ne g2,?_⟩
  unfold noB fold
  rw [foldN_head _ _ _ (by decide)]; exact g3
/-! ### Lines -/
theorem lines_crlf {t r:Bytes} (h:okT t):linesU (t++13::10::r) = t::linesU r:=by
 have e:t++13::10::r = (t++[13])++10::r:=by simp
 have hc:cutB ((t++[13])++10::r) 10 = (t++[13],r,true):=by
  have:=cutB_at ((t++[13])++10::r) 10 (t++[13]).length (by simp) (by
   rw [List.take_left]; intro e
   rcases List.mem_append.1 e with e | e
   ·exact (h _ e).1 rfl
   ·simp at e)
  rw [this,List.take_left,List.drop_length_add_append]; rfl
 rw [e,linesU_cons (by simp),hc]
 simp only [if_true]
 rw [trimS_cr,if_pos (by simp)]; simp
theorem lines_joined:∀ (L:List Bytes),(∀ t ∈ L,okT t)→linesU (joined L) = L
 | [],_=>rfl
 | x::L,h=>by
  rw [joined_cons,lines_crlf (h x (by simp)),lines_joined L (fun t ht=>h t (List.mem_cons_of_mem _ ht))]
theorem hasS_app (a b:Bytes) (h:hasS b [10] = true):hasS (a++b) [10] = true:=by
 simp only [hasS,Bool.and_eq_true,decide_eq_true_eq,List.length_singleton] at h ⊢
 refine ⟨by simp; omega,?_⟩
 have e:(a++b).length - 1 = a.length + (b.length - 1):=by simp; omega
 rw [e,List.drop_length_add_append]; exact h.2
theorem joined_last:∀ (L:List Bytes),L ≠ []→hasS (joined L) [10] = true
 | [x],_=>by
  rw [joined_cons]
  exact hasS_app x _ rfl
 | x::y::L,_=>by
  have ih:=joined_last (y::L) (by simp)
  rw [joined_cons]
  exact hasS_app x _ (hasS_app [13,10] _ ih)
/-! ### A card -/
def lowLn (l:Ln):Ln:=⟨small l.g,small l.n,false,l.ps.map fun p=>(small p.1,p.2),l.v⟩
def lowC (c:Cd):Cd:=⟨c.ver,false,c.ls.map lowLn⟩
theorem small_great (s:Bytes):small (great s) = small s:=by
 simp only [small,great,List.map_map]; congr 1; funext x
 have:=u8_all (fun x=>low (up x) == low x) (by decide +kernel) x
 simpa using this
theorem great_small (s:Bytes):great (small s) = great s:=by
 simp only [small,great,List.map_map]; congr 1; funext x
 have:=u8_all (fun x=>up (low x) == up x) (by decide +kernel) x
 simpa using this
theorem small_nil {s:Bytes}:small s = []↔s = []:=by simp [small]
theorem great_nil {s:Bytes}:great s = []↔s = []:=by simp [great]
theorem nameB_of {s t:Bytes} (h:small s = small t):nameB s = nameB t:=by simp only [nameB,h]
theorem paramB_low (p:Bytes × Bytes) (n:Bytes) (h:small n = small p.1):paramB (n,p.2) = paramB p:=by simp only [paramB,nameB_of h]
theorem lineB_low (l:Ln):lineB (lowLn l) = lineB l:=by
 have h1:(small l.g == []) = (l.g == []):=by
  by_cases h:l.g = []
  ·rw [h]; rfl
  ·have:small l.g ≠ []:=fun e=>h (small_nil.1 e)
   rw [beq_eq_false_iff_ne.2 h,beq_eq_false_iff_ne.2 this]
 have h2:(l.ps.map fun p=>(small p.1,p.2)).all paramB = l.ps.all paramB:=by
  rw [List.all_map]; congr 1; funext p; exact paramB_low p _ (small_small _)
 have h3:nameB (small l.g) = nameB l.g:=nameB_of (small_small l.g)
 simp only [lineB,lowLn,small_small,h1,h2,h3,List.length_map]
 rfl
theorem told_low (l:Ln):told (lowLn l) = told l:=by
 have h2:parsT (l.ps.map fun p=>(small p.1,p.2)) = parsT l.ps:=by
  simp only [parsT,List.map_map]; congr 2; funext p; simp only [Function.comp,parT,great_small]
 have h1:headT (lowLn l) = headT l:=by
  unfold headT lowLn
  simp only [small_nil,great_small]
 simp only [told,h1]
 simp only [lowLn,h2]
theorem told_T (l:Ln):told l = lineT (great l.g) (great l.n) (l.ps.map fun p=>(great p.1,p.2)) l.v:=by
 have h2:((l.ps.map fun p=>(great p.1,p.2)).map parV).flatten = parsT l.ps:=by
  simp only [parsT,List.map_map]; rfl
 simp only [told,lineT,headT,great_nil,h2]
theorem checkC_low (c:Cd):checkC (lowC c) = checkC c:=by
 have h1:rightC (lowC c) = rightC c:=by
  simp only [rightC,lowC,List.length_map,List.all_map]
  congr 2; funext l; exact lineB_low l
 have h2:laid (lowC c) = laid c:=by
  simp only [laid,rowsC,lowC,List.map_map]
  congr 4; funext l; simp only [Function.comp,told_low]
 simp only [checkC,h1,h2]
theorem sameC_low (c:Cd):sameC (lowC c) c = true:=by
 have hp:∀ ps:List (Bytes × Bytes),eqL sameP (ps.map fun p=>(small p.1,p.2)) ps = true:=by
  intro ps; induction ps with
  | nil=>rfl
  | cons p ps ih=>simp only [List.map_cons,eqL,ih,sameP,small_small,beq_self_eq_true,Bool.and_self]
 have hl:∀ ls:List Ln,eqL sameN (ls.map lowLn) ls = true:=by
  intro ls; induction ls with
  | nil=>rfl
  | cons l ls ih=>simp only [List.map_cons,eqL,ih,sameN,lowLn,small_small,hp,beq_self_eq_true,Bool.and_self]
 simp only [sameC,lowC,hl,beq_self_eq_true,Bool.and_self]
theorem runP_lines : ∀ (ls : List Ln) (ts : List Bytes) (ver : Bytes) (acc : List Ln), ts.map lnR = ls.map (fun l => some (lowLn l)) → (∀ l ∈ ls, lineB l = true) →
    runP ⟨ver, false, acc⟩ ts = some ⟨ver, false, acc ++ ls.map lowLn⟩
  | [], [], ver, acc, _, _ => by simp [runP]
  | [], _ :: _, _, _, h, _ => by cases h
  | _ :: _, [], _, _, h, _ => by cases h
  | l :: ls, t :: ts, ver, acc, h, hb => by
    simp only [List.map_cons, List.cons.injEq] at h
    have hl := hb l (by simp)
    have hn : (lowLn l).n ≠ sVersion := by
      have := hl
      simp only [lineB, Bool.and_eq_true, Bool.not_eq_true', beq_eq_false_iff_ne] at this
      exact this.2.2.2.2.1
    have hs : stepP ⟨ver, false, acc⟩ t = some ⟨ver, false, acc ++ [lowLn l]⟩ := by
      simp only [stepP, h.1, if_neg hn, lineB_low, hl, if_true]
    rw [runP, hs, Option.bind_some, runP_lines ls ts ver _ h.2 (fun x hx => hb x (List.mem_cons_of_mem _ hx))]
    simp
theorem parse_lines {s : Bytes} {c : Cd} {b w e : Bytes} {ts : List Bytes} (hs : s.length ≤ 16000) (hc : checkC c = 0) (hl : linesR s = b :: w :: (ts ++ [e])) (hb : small b = kbegin) (he : small e = kend)
    (hw : lnR w = some ⟨[], sVersion, false, [], c.ver⟩) (ht : ts.map lnR = c.ls.map (fun l => some (lowLn l))) (hlast : hasS (unf s) [10] = true) : parseO s = (lowC c, 0) := by
  have hr : rightC c = true := by
    unfold checkC at hc; split at hc
    · assumption
    · cases hc
  have hr' := hr
  simp only [rightC, Bool.and_eq_true, decide_eq_true_eq] at hr'
  obtain ⟨⟨hv, _⟩, hall⟩ := hr'
  have hhead : headP s = true := by
    have h1 : (linesR s).length = ts.length + 3 := by rw [hl]; simp
    have h2 : (linesR s).getD 0 [] = b := by rw [hl]; rfl
    have h3 : (linesR s).getD ((linesR s).length - 1) [] = e := by
      rw [h1, hl]; simp
    simp only [headP, h2, h3, hb, he, hlast, beq_self_eq_true, Bool.and_true, Bool.and_self, decide_eq_true_eq]; omega
  have hmid : midP s = w :: ts := by
    unfold midP
    rw [hl]; simp
  have hst : stepP cd0 w = some ⟨c.ver, false, []⟩ := by
    simp only [stepP, hw, if_true]
    rw [if_pos ⟨rfl, trivial, trivial, hv⟩]; rfl
  have hrun : runP cd0 (midP s) = some (lowC c) := by
    rw [hmid, runP, hst, Option.bind_some, runP_lines c.ls ts c.ver [] ht (fun l h => List.all_eq_true.1 hall l h)]; rfl
  have hm : parseM s = some (lowC c) := by
    simp only [parseM, hhead, if_true, hrun, Option.bind_some, checkC_low, hc]
  unfold parseO
  rw [if_neg (by omega), hm]
end Go.Proofs.YtjlhemfmeboadaaGreatDoor
namespace Go.Proofs.YtjlhemfmeboadaaGreatDoor
set_option linter.unusedVariables false
set_option linter.unusedSimpArgs false
open Go Go.Av Go.RowKit

theorem fold_short {s:Bytes} (h:s.length≤75):fold s = s:=by
 unfold fold
 cases s.length with
 | zero=>rfl
 | succ k=>rw [foldN,if_neg (by omega)]
def lineL (c:Cd):List Bytes:=kBEGIN::(kVERSION++c.ver)::(c.ls.map told++[kEND])
theorem ver_len {v:Bytes} (h:version v = true):v = [51,46,48]∨v = [52,46,48]:=by
 simpa [version] using h
theorem laid_lines {c:Cd} (h:version c.ver = true):laid c = joined ((lineL c).map fold):=by
 have h1:fold kBEGIN = kBEGIN:=fold_short (by decide)
 have h2:fold kEND = kEND:=fold_short (by decide)
 have h3:fold (kVERSION++c.ver) = kVERSION++c.ver:=by
  apply fold_short
  rcases ver_len h with e | e<;>rw [e]<;>decide
 simp only [laid,rowsC,lineL,List.map_cons,List.map_append,List.map_map,List.map_nil,h1,h2,h3]
 rfl
theorem nm_ok {x:UInt8} (h:nmI x.toNat = true):x ≠ 10∧x ≠ 13∧x ≠ 9∧x ≠ 32:=by
 have:=u8_all (fun x=>!nmI x.toNat || (x != 10 && x != 13 && x != 9 && x != 32)) (by decide +kernel) x
 simp only [h,Bool.not_true,Bool.false_or,Bool.and_eq_true,bne_iff_ne] at this
 exact ⟨this.1.1.1,this.1.1.2,this.1.2,this.2⟩
theorem byP_ok {x:UInt8} (h:byP x = true):x ≠ 10∧x ≠ 13:=by
 have:=u8_all (fun x=>!byP x || (x != 10 && x != 13)) (by decide +kernel) x
 simpa [h] using this
theorem byL_ok {x:UInt8} (h:byL x = true):x ≠ 10∧x ≠ 13:=by
 have:=u8_all (fun x=>!byL x || (x != 10 && x != 13)) (by decide +kernel) x
 simpa [h] using this
theorem okT_app {a b:Bytes} (h1:okT a) (h2:okT b):okT (a++b):=by
 intro x hx; rcases List.mem_append.1 hx with h | h
 ·exact h1 x h
 ·exact h2 x h
theorem name_okT {s:Bytes} (h:nameB s = true):okT s:=fun x hx=>⟨(nm_ok ((name_nm h).2 x hx)).1,(nm_ok ((name_nm h).2 x hx)).2.1⟩
theorem one_okT {d:UInt8} (h:d ≠ 10∧d ≠ 13):okT [d]:=by intro x hx; simp at hx; subst hx; exact h
theorem par_okT {p:Bytes × Bytes} (h:paramB p = true):okT (parV p):=by
 simp only [paramB,Bool.and_eq_true] at h
 have hv:okT p.2:=fun x hx=>byP_ok (List.all_eq_true.1 h.2 x hx)
 have hq:okT (qv p.2):=by
  unfold qv; split
  ·exact okT_app (okT_app (one_okT (by decide)) hv) (one_okT (by decide))
  ·exact hv
 exact okT_app (okT_app (okT_app (one_okT (by decide)) (name_okT h.1.1)) (one_okT (by decide))) hq
theorem line_ok {g n:Bytes} {ps:List (Bytes × Bytes)} {v:Bytes} (hg:g = []∨nameB g = true) (hn:nameB n = true) (hp:∀ p ∈ ps,paramB p = true) (hv:v.all byL = true):lnOK (lineT g n ps v):=by
 have hps:okT (ps.map parV).flatten:=by
  intro x hx
  obtain ⟨l,hl,hx⟩:=List.mem_flatten.1 hx
  obtain ⟨p,hp',rfl⟩:=List.mem_map.1 hl
  exact par_okT (hp p hp') x hx
 have hvt:okT v:=fun x hx=>byL_ok (List.all_eq_true.1 hv x hx)
 have hd:∀ {s r:Bytes},nameB s = true→s++r ≠ []∧noB (s++r):=by
  intro s r h
  obtain ⟨h1,h2⟩:=name_nm h
  cases s with
  | nil=>exact (h1 rfl).elim
  | cons x t=>
   have:=nm_ok (h2 x (by simp))
   exact ⟨by simp,by simp [noB,this.2.2.1,this.2.2.2]⟩
 unfold lineT
 split
 ·refine ⟨okT_app (okT_app (okT_app (name_okT hn) hps) (one_okT (by decide))) hvt,?_⟩
  simp only [List.append_assoc]
  exact hd hn
 ·rename_i h0
  have hg:=hg.resolve_left h0
  refine ⟨okT_app (okT_app (okT_app (okT_app (okT_app (name_okT hg) (one_okT (by decide))) (name_okT hn)) hps) (one_okT (by decide))) hvt,?_⟩
  simp only [List.append_assoc]
  exact hd hg
theorem lineB_has {l:Ln} (h:lineB l = true):(l.g = []∨nameB l.g = true)∧nameB l.n = true∧(∀ p ∈ l.ps,paramB p = true)∧l.v.all byL = true:=by
 simp only [lineB,Bool.and_eq_true,Bool.or_eq_true,beq_iff_eq] at h
 refine ⟨h.1,?_,List.all_eq_true.1 h.2.2.2.2.2.2.1,h.2.2.2.2.2.2.2.2⟩
 rw [← nameB_of (small_small l.n)]; exact h.2.1
theorem great_name {s:Bytes} (h:nameB s = true):nameB (great s) = true:=by rw [nameB_of (small_great s)]; exact h
theorem told_has {l:Ln} (h:lineB l = true):(great l.g = []∨nameB (great l.g) = true)∧nameB (great l.n) = true∧∀ p ∈ l.ps.map (fun p=>(great p.1,p.2)),paramB p = true:=by
 obtain ⟨h1,h2,h3,_⟩:=lineB_has h
 refine ⟨?_,great_name h2,?_⟩
 ·rcases h1 with e | e
  ·exact .inl (great_nil.2 e)
  ·exact .inr (great_name e)
 ·intro p hp
  obtain ⟨q,hq,rfl⟩:=List.mem_map.1 hp
  rw [paramB_low q _ (small_great _)]; exact h3 q hq
theorem told_ok {l:Ln} (h:lineB l = true):lnOK (told l):=by
 obtain ⟨h1,h2,h3⟩:=told_has h
 rw [told_T]; exact line_ok h1 h2 h3 (lineB_has h).2.2.2
theorem lnR_told {l:Ln} (h:lineB l = true):lnR (told l) = some (lowLn l):=by
 obtain ⟨h1,h2,h3⟩:=told_has h
 rw [told_T,lnR_line h1 h2 h3]
 have e:((fun p:Bytes × Bytes=>(small p.1,p.2)) ∘ fun p:Bytes × Bytes=>(great p.1,p.2)) = fun p=>(small p.1,p.2):=by funext p; simp [small_great]
 simp only [lowLn,small_great,List.map_map,e]
theorem lnR_ver (v:Bytes):lnR (kVERSION++v) = some ⟨[],sVersion,false,[],v⟩:=by
 have h:kVERSION++v = lineT [] [86,69,82,83,73,79,78] [] v:=rfl
 rw [h,lnR_line (.inl rfl) (by decide +kernel) (by simp)]; rfl
theorem lineL_ok {c:Cd} (h:rightC c = true):∀ t ∈ lineL c,lnOK t:=by
 simp only [rightC,Bool.and_eq_true,List.all_eq_true] at h
 intro t ht
 simp only [lineL,List.mem_cons,List.mem_append,List.not_mem_nil,or_false] at ht
 rcases ht with rfl | rfl | ht | rfl
 ·exact ⟨by unfold okT kBEGIN; decide,by decide,by unfold noB kBEGIN; decide⟩
 ·rcases ver_len h.1.1 with e | e<;>rw [e]<;>exact ⟨by unfold okT kVERSION; decide,by decide,by unfold noB kVERSION; decide⟩
 ·obtain ⟨l,hl,rfl⟩:=List.mem_map.1 ht
  exact told_ok (h.2 l hl)
 ·exact ⟨by unfold okT kEND; decide,by decide,by unfold noB kEND; decide⟩
theorem checkC_right {c:Cd} (h:checkC c = 0):rightC c = true∧(laid c).length≤16000:=by
 unfold checkC at h
 split at h
 ·refine ⟨by assumption,?_⟩
  split at h
  ·cases h
  ·omega
 ·cases h
theorem unf_laid {c:Cd} (h:rightC c = true):unf (laid c) = joined (lineL c):=by
 have hv:version c.ver = true:=by simp only [rightC,Bool.and_eq_true] at h; exact h.1.1
 rw [laid_lines hv,unf_joined _ (lineL_ok h)]
theorem linesR_laid {c:Cd} (h:rightC c = true):linesR (laid c) = lineL c:=by
 unfold linesR
 rw [unf_laid h,lines_joined _ (fun t ht=>(lineL_ok h t ht).1)]
theorem parse_laid {c:Cd} (h:checkC c = 0):parseO (laid c) = (lowC c,0):=by
 obtain ⟨h1,h2⟩:=checkC_right h
 refine parse_lines h2 h (linesR_laid h1) (by decide) (by decide) (lnR_ver _) ?_ (by rw [unf_laid h1]; exact joined_last _ (by simp [lineL]))
 rw [List.map_map]
 apply List.map_congr_left
 intro l hl
 simp only [rightC,Bool.and_eq_true,List.all_eq_true] at h1
 exact lnR_told (h1.2 l hl)
set_option maxRecDepth 8000 in
theorem vcardTexts (c:Cd):PureFn Tryz.prog 3 [encCd c] (.ret (.bool true)):=by
 have hl:=lightV c
 have hk:=knownV
 have ht:=textV c
 have hc:=checkR c
 have hd:=checkV c
 have he:=encCd_hfs c
 obtain ⟨no,hno⟩:∃ no,no = checkC c:=⟨_,rfl⟩
 rw [← hno] at ht hc hd
 have hs:sameC (lowC c) c = true:=sameC_low c
 have hr:=sameRf (lowC c) c
 rw [hs] at hr
 by_cases h0:no = 0
 case neg=>
  have hx:textC c = []:=by unfold textC; rw [if_neg (by omega)]
  have hn0:0 < no:=by omega
  rw [hx] at ht
  obtain ⟨ver,x,ls⟩:=c
  generalize lightB ⟨ver,x,ls⟩ = lb at *
  simp only [encCd] at *
  refine PureFn.of Tryz.func3 rfl (enters_call enters Tryz.func3 rfl) (by simp [Tryz.ntmps3]) ?_
  show W Tryz.prog 56 0 none _ _ _
  refine W.vc (by decide) ?_
  cases lb with
  | false=>
   repeat' (first | (simp (disch:=first | omega | (simp only [List.length_append,List.length_cons,List.length_nil,List.length_map,List.length_set]; omega)) only [VC_seq,VC_cond,VC_ret,VC_region,VI_true,VO_nil,VO_plain,VV_some,VS,u_notb,AV.told,ofV_bool,callOf,isPanic,nextOf,altA,evalOp,ev_tmp,ev_const,ev_func,Av.get,St.put,argT,thenQ,Nat.reduceEqDiff,↓reduceIte,List.map_cons,List.map_nil,List.nil_append,List.append_nil,List.getElem?_cons_zero,Option.map_some,Bool.not_false,ldG,cl_agg,List.length_cons,List.length_nil,Nat.reduceAdd,Nat.zero_add,List.drop_zero,List.take_succ_cons,List.take_zero,Nat.le_refl,ld24]) | (guard_target =~ VCall _ _ _ _ _ _ _; refine VCall.pure (by first | with_reducible exact hl | with_reducible exact hk) (by (first | rfl | (simp only [AV.hfs,AV.hf,Bool.and_self,Bool.and_true,Bool.true_and,strs_hfs,encLn_hfs]))) ?_) | (guard_target =~ DCal _ _ _ _ _ _ _; refine DCal.pure (by first | with_reducible exact hl | with_reducible exact hk) (by (first | rfl | (simp only [AV.hfs,AV.hf,Bool.and_self,Bool.and_true,Bool.true_and,strs_hfs,encLn_hfs]))) ?_))
   exact ⟨_,rfl,_,rfl,.refl _⟩
  | true=>
   repeat' (first | (simp (disch:=first | omega | (simp only [List.length_append,List.length_cons,List.length_nil,List.length_map,List.length_set]; omega)) only [VC_skip,VC_seq,VC_cond,VC_ret,VC_region,VI_true,VI_false,VO_nil,VO_plain,VO_guard,VG_true,VV_some,VS,u_notb,AV.told,ofV_bool,ofV_int,ofV_lit,gdA,callOf,isPanic,nextOf,altA,evalOp,ev_tmp,ev_const,ev_func,Av.get,St.put,argT,thenQ,Nat.reduceEqDiff,↓reduceIte,List.map_cons,List.map_nil,List.nil_append,List.append_nil,List.getElem?_cons_zero,List.getElem?_cons_succ,List.getElem?_toArray,Option.map_some,Option.bind_some,Bool.not_true,pickA,cond_true,cond_false,ldG,cl_agg,List.length_cons,List.length_nil,Nat.reduceAdd,Nat.zero_add,List.drop_zero,List.take_succ_cons,List.take_zero,Nat.le_refl,b_neq,s_eql,ine_t,ine_f,ld24,beq_self_eq_true]) | (guard_target =~ VCall _ _ _ _ _ _ _; refine VCall.pure (by first | with_reducible exact hl | with_reducible exact hk | with_reducible exact ht | with_reducible exact hc | with_reducible exact hd) (by (first | rfl | (simp only [AV.hfs,AV.hf,Bool.and_self,Bool.and_true,Bool.true_and,strs_hfs,encLn_hfs]))) ?_) | (guard_target =~ DCal _ _ _ _ _ _ _; refine DCal.pure (by first | with_reducible exact hl | with_reducible exact hk | with_reducible exact ht | with_reducible exact hc | with_reducible exact hd) (by (first | rfl | (simp only [AV.hfs,AV.hf,Bool.and_self,Bool.and_true,Bool.true_and,strs_hfs,encLn_hfs]))) ?_))
   exact ⟨_,rfl,_,rfl,.refl _⟩
 subst h0
 have h0:=hno.symm
 obtain ⟨h1,h2⟩:=checkC_right h0
 have hx:textC c = laid c:=by unfold textC; rw [if_pos h0]
 have hp:=parseV (laid c) (by omega)
 rw [parse_laid h0] at hp
 have hrt:=textR c (fun l hl=>by
  simp only [rightC,Bool.and_eq_true,List.all_eq_true] at h1
  have:=(line_plain (h1.2 l hl)).2
  omega) (by omega) (by simp only [rightC,Bool.and_eq_true,decide_eq_true_eq] at h1; omega)
 rw [hx] at ht
 simp only [outP] at hp
 generalize laid c = s at *
 generalize lowC c = d at *
 obtain ⟨ver,x,ls⟩:=c
 obtain ⟨ver',x',ls'⟩:=d
 generalize lightB ⟨ver,x,ls⟩ = lb at *
 simp only [encCd] at *
 refine PureFn.of Tryz.func3 rfl (enters_call enters Tryz.func3 rfl) (by simp [Tryz.ntmps3]) ?_
 show W Tryz.prog 56 0 none _ _ _
 refine W.vc (by decide) ?_
 cases lb with
 | false=>
  repeat' (first | (simp (disch:=first | omega | (simp only [List.length_append,List.length_cons,List.length_nil,List.length_map,List.length_set]; omega)) only [VC_seq,VC_cond,VC_ret,VC_region,VI_true,VO_nil,VO_plain,VV_some,VS,u_notb,AV.told,ofV_bool,callOf,isPanic,nextOf,altA,evalOp,ev_tmp,ev_const,ev_func,Av.get,St.put,argT,thenQ,Nat.reduceEqDiff,↓reduceIte,List.map_cons,List.map_nil,List.nil_append,List.append_nil,List.getElem?_cons_zero,Option.map_some,Bool.not_false,ldG,cl_agg,List.length_cons,List.length_nil,Nat.reduceAdd,Nat.zero_add,List.drop_zero,List.take_succ_cons,List.take_zero,Nat.le_refl,ld24]) | (guard_target =~ VCall _ _ _ _ _ _ _; refine VCall.pure (by first | with_reducible exact hl | with_reducible exact hk) (by (first | rfl | (simp only [AV.hfs,AV.hf,Bool.and_self,Bool.and_true,Bool.true_and,strs_hfs,encLn_hfs]))) ?_) | (guard_target =~ DCal _ _ _ _ _ _ _; refine DCal.pure (by first | with_reducible exact hl | with_reducible exact hk) (by (first | rfl | (simp only [AV.hfs,AV.hf,Bool.and_self,Bool.and_true,Bool.true_and,strs_hfs,encLn_hfs]))) ?_))
  exact ⟨_,rfl,_,rfl,.refl _⟩
 | true=>
  repeat' (first | (simp (disch:=first | omega | (simp only [List.length_append,List.length_cons,List.length_nil,List.length_map,List.length_set]; omega)) only [VC_skip,VC_seq,VC_cond,VC_ret,VC_region,VI_false,VO_nil,VO_plain,VO_guard,VG_true,VV_some,VS,u_notb,AV.told,ofV_bool,ofV_int,gdA,callOf,isPanic,nextOf,altA,evalOp,ev_tmp,ev_const,ev_func,Av.get,St.put,argT,thenQ,Nat.reduceEqDiff,↓reduceIte,Bool.and_self,List.map_cons,List.map_nil,List.nil_append,List.append_nil,List.getElem?_cons_zero,List.getElem?_cons_succ,List.getElem?_toArray,Option.map_some,Option.bind_some,Bool.not_true,pickA,cond_true,cond_false,ldG,stC,ic_str,ic_vsl,cl_agg,setC,List.set_cons_zero,List.set_cons_succ,List.length_cons,List.length_nil,Nat.reduceAdd,List.all_cons,List.all_nil,and_self,Nat.zero_add,List.drop_zero,List.take_succ_cons,List.take_zero,Nat.le_refl,List.cons_append,b_eql,b_neq,s_eql,ieq_t,ine_f,st24,ld24,zz24,beq_self_eq_true]) | (guard_target =~ VCall _ _ _ _ _ _ _; refine VCall.pure (by first | with_reducible exact hl | with_reducible exact hk | with_reducible exact ht | with_reducible exact hc | with_reducible exact hd | with_reducible exact hp | with_reducible exact hr | with_reducible exact hrt) (by (first | rfl | (simp only [AV.hfs,AV.hf,Bool.and_self,Bool.and_true,Bool.true_and,strs_hfs,encLn_hfs]))) ?_) | (guard_target =~ DCal _ _ _ _ _ _ _; refine DCal.pure (by first | with_reducible exact hl | with_reducible exact hk | with_reducible exact ht | with_reducible exact hc | with_reducible exact hd | with_reducible exact hp | with_reducible exact hr | with_reducible exact hrt) (by (first | rfl | (simp only [AV.hfs,AV.hf,Bool.and_self,Bool.and_true,Bool.true_and,strs_hfs,encLn_hfs]))) ?_))
  exact ⟨_,rfl,_,rfl,.refl _⟩
end Go.Proofs.YtjlhemfmeboadaaGreatDoor
namespace Go.Proofs.YtjlhemfmeboadaaGreatDoor
set_option linter.unusedVariables false
set_option linter.unusedSimpArgs false
open Go Go.Av Go.RowKit

end Go.Proofs.YtjlhemfmeboadaaGreatDoor
namespace Go.Proofs.YtjlhemfmeboadaaGreatDoor
set_option linter.unusedVariables false
set_option linter.unusedSimpArgs false
open Go Go.Av Go.RowKit

def mk (c:Bool):UInt8:=if c then 44 else 59
end Go.Proofs.YtjlhemfmeboadaaGreatDoor
namespace Go.Proofs.YtjlhemfmeboadaaGreatDoor
set_option linter.unusedVariables false
set_option linter.unusedSimpArgs false
open Go Go.Av Go.RowKit

end Go.Proofs.YtjlhemfmeboadaaGreatDoor
namespace Go.Proofs.YtjlhemfmeboadaaGreatDoor
set_option linter.unusedVariables false
set_option linter.unusedSimpArgs false
open Go Go.Av Go.RowKit

/-! ### The replacer, looked up -/
def e4:Bytes:=[10,59,44,92]
def rv (x:Nat):AV:=if x = 10 then .vsl 0 false [.int .u8 92,.int .u8 110] else if x = 59 then .vsl 0 false [.int .u8 92,.int .u8 59] else if x = 44 then .vsl 0 false [.int .u8 92,.int .u8 44] else if x = 92 then .vsl 0 false [.int .u8 92,.int .u8 92] else .nilsl
def spB (x:UInt8):Bool:=x == 10 || x == 59 || x == 44 || x == 92
def ex (t:Bytes):Nat:=(t.filter spB).length
end Go.Proofs.YtjlhemfmeboadaaGreatDoor
namespace Go.Proofs.YtjlhemfmeboadaaGreatDoor
set_option linter.unusedVariables false
set_option linter.unusedSimpArgs false
open Go Go.Av Go.RowKit

def wE (n:Nat) (out:Bytes):List OB:=[.cells (bytesA out++zeros (n - out.length)) false]
theorem wE_put (n:Nat) (out:Bytes) (a:UInt8) (h:out.length < n):evStore Tryz.prog 5 (.ptr 0 out.length) (.int .u8 a.toNat) (wE n out) = some (wE n (out++[a])):=by
 have hset:(bytesA out++zeros (n - out.length)).set out.length (.int .u8 a.toNat) = bytesA (out++[a])++zeros (n - (out++[a]).length):=by
  have:=setC_over (bytesA out) (zeros (n - out.length)) [.int .u8 a.toNat] (by simp [zeros]; omega)
  rw [bytesA_len,setC_one] at this
  rw [this]
  congr 1
  ·simp [bytesA,byteA]
  ·simp [zeros,Nat.sub_sub]
 have hl:(bytesA out++zeros (n - out.length)).length = n:=by rw [List.length_append,bytesA_len]; simp [zeros]; omega
 rw [st5]
 simp [stC,wE,AV.cells,AV.isC,setC_one,hl,hset]; omega
theorem wE_str (out:Bytes) (n:Nat) (h:out.length = n):evConv Tryz.prog 42 9 (.sl 0 0 n 0) (wE n out) = some (.str out,wE n out):=by
 subst h
 have hbl:=bytesA_len out
 simp [evConv,Tryz.underlying9,Tryz.underlying42,Tryz.underlying5,wE,zeros,hbl,List.take_of_length_le,unbyte_bytesA]
theorem tq_n {K:St→Prop} {Q:Ex→St→Prop} {a:St}:thenQ K Q .normal a = K a:=Eq.trans rfl rfl
end Go.Proofs.YtjlhemfmeboadaaGreatDoor
