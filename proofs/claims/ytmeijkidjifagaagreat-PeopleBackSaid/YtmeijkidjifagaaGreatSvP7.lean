/- A framework of abstract values: no program in sight; under the conditions named at each theorem. -/
import Derived.Test.YtmeijkidjifagaaGreatSvP6
import Derived.Test.YtmeijkidjifagaaGreatSvP5
import Derived.Shelf.Spec.SlicesGrow
namespace Go.Av
set_option linter.unusedVariables false
set_option linter.unusedSimpArgs false

theorem get_mem (T : List (Nat × AV)) (t : Nat) : get T t = .junk ∨ (t, get T t) ∈ T := by
  induction T with
  | nil => exact .inl rfl
  | cons p T ih =>
    obtain ⟨s, v⟩ := p
    simp only [get]
    by_cases h : s = t
    · subst h; rw [if_pos rfl]; exact .inr (by simp)
    · rw [if_neg h]
      rcases ih with ih | ih
      · exact .inl ih
      · exact .inr (List.mem_cons_of_mem _ ih)

/-- Slots, some of their memory given up. -/
def frzT (S : List Nat) (H : List OB) (T : List (Nat × AV)) : List (Nat × AV) → Prop
  | [] => True
  | (t, v) :: r => (get T t = v ∨ ∃ v0, fz (keepS S 0 H) 20 (get T t) = some v0 ∧ Le v0 v) ∧ frzT S H T r
theorem frzT_mem {S : List Nat} {H : List OB} {T : List (Nat × AV)} : ∀ {T' : List (Nat × AV)}, frzT S H T T' → ∀ t v, (t, v) ∈ T' → get T t = v ∨ ∃ v0, fz (keepS S 0 H) 20 (get T t) = some v0 ∧ Le v0 v
  | [], _, t, v, h => by simp at h
  | (s, u) :: r, h, t, v, hm => by
    rcases List.mem_cons.1 hm with e | hm
    · cases e; exact h.1
    · exact frzT_mem h.2 t v hm

theorem W.froze {P : Program} {n m : Nat} {R : Option Nat} {a : St} {Q : Ex → St → Prop} {c : Code} (S : List Nat) (T' : List (Nat × AV)) (h : frzT S a.H a.T T') (hc : W P n m R c Q ⟨T', dropS S 0 a.H, a.D⟩) : W P n m R c Q a := by
  intro B act w ⟨F, μ, s, y, t⟩
  obtain ⟨x, s', hz⟩ := s.freeze S
  refine hc B act w ⟨lent F μ (keepS S 0 a.H), μ, s', y.trans x, ⟨t.defers.mono x.mu, t.size, fun i => ?_⟩⟩
  rcases get_mem T' i with hj | hm
  · rw [hj]; exact .junk _
  · rcases frzT_mem h i _ hm with he | ⟨v0, h1, h2⟩
    · have := VR.mono x (t.slots i)
      rw [he] at this
      exact this
    · have h3 := hz _ _ _ h1 (t.slots i)
      have hx : Ext (lent F μ (keepS S 0 a.H)) w noμ (lent F μ (keepS S 0 a.H)) w μ := ⟨(fun id L h => by cases h), fun _ _ h => h, fun _ _ _ _ h => h, fun _ _ _ _ h => h⟩
      exact (VR.mono hx h3).le h2
end Go.Av
namespace Go.Av
set_option linter.unusedVariables false
set_option linter.unusedSimpArgs false
section
variable {α : Type}

theorem newsA_vsl {wd : Nat} {f : α → AV} (y : Bool) (N : List α) (M : List OB) : newsA (esz wd) (.vsl wd y (N.map f)) M = some (N.length, flatA f N) := by
  simp [newsA, flatA]

/-- The slice's memory is behind so much. -/
def behindV (lo : Nat) (v : AV) : Prop := match v with
  | .sl d _ _ _ => lo ≤ d
  | _ => True

/-- Any such texts behind such a slice; what is ahead of it stays. -/
theorem slIn_catN {P : Program} {sT e : TypeId} {wd bytes : Nat} (hu : P.underlying sT = some (.slice e)) (ha : apT P e = some (esz wd, wd, bytes)) (f : α → AV) (hf : ∀ x, (f x).cells.length = esz wd) (hc : ∀ x, (f x).cells.all AV.isC = true) (hz : 0 < esz wd)
    {M : List OB} {v u : AV} {L N : List α} (lo : Nat) (h : slIn wd f M v L) (hb1 : behindV lo v) (hlo : lo ≤ M.length) (hnew : newsA (esz wd) u M = some (N.length, flatA f N)) (hb : (L.length + N.length) * bytes ≤ 2 ^ 47) :
    ∃ v' M', evAppend P sT sT v u M = some (v', M') ∧ slIn wd f M' v' (L ++ N) ∧ behindV lo v' ∧ lo ≤ M'.length ∧ ∀ i, i < lo → M'[i]? = M[i]? := by
  have hflat : flatA f (L ++ N) = flatA f L ++ flatA f N := by simp [flatA]
  have hisC : (flatA f N).all AV.isC = true := by
    rw [flatA, List.all_flatMap, List.all_eq_true]; intro u hu; obtain ⟨a, _, rfl⟩ := List.mem_map.1 hu; exact hc a
  by_cases hN : N.length = 0
  · have hN' : N = [] := List.eq_nil_of_length_eq_zero hN
    subst hN'
    have hfl : flatA f ([] : List α) = [] := rfl
    rcases h with ⟨rfl, w, rfl⟩ | ⟨d, rfl, hd⟩
    · refine ⟨.vsl w true [], M, ?_, .inl ⟨rfl, w, rfl⟩, trivial, hlo, fun _ _ => rfl⟩
      simp only [evAppend, hu, ha, hnew, List.length_nil]
      rw [if_pos trivial]
    · have hlen : (flatA f L).length = L.length * esz wd := flatA_len hf L
      have hb1' : lo ≤ d := hb1
      refine ⟨.sl d 0 L.length wd, M.set d (.cells (flatA f L) true), ?_, .inr ⟨d, by simp, by rw [List.append_nil, List.getElem?_set_self (List.getElem?_eq_some_iff.1 hd).1]⟩, hb1, by simpa using hlo, fun i hi => ?_⟩
      · simp only [evAppend, hu, ha, hnew, hd, hfl, List.length_nil]
        rw [if_pos ⟨trivial, rfl, by simpa using hb, by simp [hlen]⟩, if_pos (by simp [hlen])]
        simp [setC]
      · rw [List.getElem?_set, if_neg (by omega)]
  · rcases h with ⟨rfl, w, rfl⟩ | ⟨d, rfl, hd⟩
    · have hold : newsA (esz wd) (.vsl w true []) M = some (0, []) := by simp [newsA]
      refine ⟨.sl M.length 0 N.length wd, M ++ [.cells (flatA f N) true], ?_, .inr ⟨M.length, by simp, by simp⟩, hlo, by simp; omega, fun i hi => List.getElem?_append_left (by omega)⟩
      simp only [evAppend, hu, ha, hnew, hold, List.nil_append, List.length_nil, Nat.zero_add]
      rw [if_neg hN, if_pos (by simpa using hb)]
    · have hlen : (flatA f L).length = L.length * esz wd := flatA_len hf L
      have hb1' : lo ≤ d := hb1
      have hnot : ¬ ((L.length + N.length) * esz wd ≤ L.length * esz wd) := by
        rw [Nat.add_mul]
        have : 0 < N.length * esz wd := Nat.mul_pos (by omega) hz
        omega
      refine ⟨.sl M.length 0 (L.length + N.length) wd, M.set d .dead ++ [.cells (flatA f L ++ flatA f N) true], ?_, .inr ⟨M.length, by simp, ?_⟩, hlo, by simp; omega, fun i hi => ?_⟩
      · simp only [evAppend, hu, ha, hnew, hd]
        rw [if_pos ⟨trivial, hisC, hb, by omega⟩]
        simp only [Nat.zero_add, hlen, if_true, List.drop_zero]
        rw [if_neg hnot]
      · rw [List.getElem?_append_right (by simp), hflat]; simp
      · rw [List.getElem?_append_left (by simp; omega), List.getElem?_set, if_neg (by omega)]

end
end Go.Av
namespace Go.Av
set_option linter.unusedVariables false
set_option linter.unusedSimpArgs false
open Go.RowKit (Below)

/-- As drawStatic; a slot may also be written behind all that look at it. -/
def drawStatic2 (ops : Array Oper) (tab : List Nat) : Bool :=
  (List.range ops.size).all fun i => match ops[i]? with
    | none => false
    | some o => o.after.toList.all (fun e => !Region.binds .any e || decide (e.on < i)) && tab.getD i 0 == maskOf tab o &&
      (o.looksAt ops).all (fun t => (List.range ops.size).all fun j => match ops[j]? with | some o' => !dstB o' t || ((tab.getD i 0).testBit j || (decide (i < j) && (tab.getD j 0).testBit i)) | none => true) &&
      (match o.dst with | none => true | some d => (List.range ops.size).all fun j => j == i || match ops[j]? with | some o' => !dstB o' d | none => true)

section
variable {P : Program} {w0 : World} {F0 F F' : Nat → Nat → Prop} {μ μ' : Nat → Option Loc} {H H' : List OB} {w w' : World} {n m : Nat} {R : Option Nat} {a : St} {act : Act} {Q : Ex → St → Prop}
  {call : Cl → List AV → List OB → Option (Out × List OB)} {ops : Array Oper}

theorem W.drawF2 {id : Nat} {af : St} (v : Nat → AV) (T : Nat → List (Nat × AV)) (Hk : Nat → List OB) (wr : Nat → Bool) (anc : Nat → Nat → Bool)
    (hm : P.follows .mixedOrders = true) (hf : fits n ops = true)
    (h0 : T 0 = a.T) (hT : ∀ (i : Nat) (o : Oper), ops[i]? = some o → T (i + 1) = (match o.dst with | none => T i | some d => (d, v i) :: T i)) (hH : Hk 0 = a.H)
    (hE : ∀ (i : Nat) (o : Oper) (e : Edge), ops[i]? = some o → e ∈ o.after → Region.binds .any e = true → e.on < i)
    (hA : ∀ (i j : Nat) (o : Oper), ops[i]? = some o → anc i j = true → ∃ e ∈ o.after, Region.binds .any e = true ∧ (j = e.on ∨ anc e.on j = true))
    (hL : ∀ (i : Nat) (o : Oper) (t : Nat) (j : Nat) (o' : Oper), ops[i]? = some o → t ∈ o.looksAt ops → ops[j]? = some o' → o'.dst = some t → anc i j = true ∨ (i < j ∧ anc j i = true))
    (hD : ∀ (i j : Nat) (o o' : Oper) (d : Nat), ops[i]? = some o → ops[j]? = some o' → o.dst = some d → o'.dst = some d → i = j)
    (hS : ∀ (i : Nat) (o : Oper) (k : Nat), ops[i]? = some o → cnt ops.size (fun j => wr j && anc i j) ≤ k → k ≤ cnt ops.size (fun j => wr j && !anc j i && !(j == i)) →
      StepR P n m R ops o ⟨only ops o (T i), Hk k, a.D⟩ (.val (v i) (Hk (k + (if wr i = true then 1 else 0)))))
    (hq : Q .normal ⟨T ops.size, Hk (cnt ops.size wr), a.D⟩) : W P n m R (.region id ops true) Q a := by
  intro B act w ⟨F, μ, s, y, t⟩
  refine wpIn_region_any hm ?_
  obtain ⟨x1, s1⟩ := s.same (w' := { w with drawn := w.drawn + 1 }) rfl rfl rfl rfl
  -- what stands in the slots, in the order of the text
  have hTx : ∀ i, i ≤ ops.size → ∀ t, (∀ (j : Nat) (o : Oper), j < i → ops[j]? = some o → o.dst = some t → get (T i) t = v j) ∧ ((∀ (j : Nat) (o : Oper), j < i → ops[j]? = some o → o.dst ≠ some t) → get (T i) t = get a.T t) := by
    intro i
    induction i with
    | zero => intro _ t; exact ⟨fun j _ hj => by omega, fun _ => by rw [h0]⟩
    | succ i ih =>
      intro hi t
      have ho : ops[i]? = some ops[i] := Array.getElem?_eq_getElem (by omega)
      obtain ⟨g1, g2⟩ := ih (by omega) t
      have hTi := hT i _ ho
      have hget : get (T (i + 1)) t = if (ops[i]).dst = some t then v i else get (T i) t := by
        rw [hTi]
        cases hd : (ops[i]).dst with
        | none => simp
        | some d =>
          simp only [get]
          by_cases e : d = t
          · subst e; simp
          · rw [if_neg e, if_neg (by simpa using e)]
      rw [hget]
      refine ⟨fun j o hj hoj hdj => ?_, fun hno => ?_⟩
      · by_cases e : j = i
        · subst e; rw [ho] at hoj; cases hoj; rw [if_pos hdj]
        · have hne : (ops[i]).dst ≠ some t := fun h => e (hD j i _ _ t hoj ho hdj h)
          rw [if_neg hne]; exact g1 j o (by omega) hoj hdj
      · rw [if_neg (hno i _ (by omega) ho)]; exact g2 fun j o hj => hno j o (by omega)
  let Inv : Array Bool → Act → World → Prop := fun listed act w => listed.size = ops.size ∧
    (∀ (i : Nat) (o : Oper) (e : Edge), ops[i]? = some o → listed[i]? = some true → e ∈ o.after → Region.binds .any e = true → listed[e.on]? = some true) ∧
    ∃ F μ, Sim B.w0 B.F0 F μ (Hk (cnt ops.size fun j => wr j && listed.getD j false)) w ∧ Ext B.Fs B.ws B.μs F w μ ∧ VD μ a.D act.defers ∧ act.tmps.size = n ∧
      ∀ t, (∀ (j : Nat) (o : Oper), ops[j]? = some o → o.dst = some t → listed[j]? = some true → VR F w μ (v j) (act.tmps.getD t undef)) ∧
        ((∀ (j : Nat) (o : Oper), ops[j]? = some o → o.dst = some t → listed[j]? ≠ some true) → VR F w μ (get a.T t) (act.tmps.getD t undef))
  have main : ∀ fuel listed act w, Inv listed act w → cnt ops.size (fun j => !listed.getD j false) ≤ fuel → wpAnyIn (fnc R) 1 P .any ops (RelE n B Q) fuel listed act w := by
    have hdone : ∀ listed act w, Inv listed act w → Region.ready .any ops listed = [] → RelE n B Q .normal act w := by
      intro listed act w ⟨hsz, hcl, F, μ, s, y, vd, hn, hsl⟩ hr
      have hall : ∀ i, i < ops.size → listed[i]? = some true := by
        intro i
        induction i using Nat.strongRecOn with
        | _ i ih =>
          intro hi
          cases hli : listed[i]? with
          | none => rw [Array.getElem?_eq_none_iff] at hli; omega
          | some b =>
            cases b with
            | true => rfl
            | false =>
              have ho : ops[i]? = some ops[i] := Array.getElem?_eq_getElem hi
              have : i ∈ Region.ready .any ops listed := by
                unfold Region.ready
                rw [List.mem_filter]
                refine ⟨by simp [hi], ?_⟩
                rw [ho]
                simp only [Array.getD_eq_getD_getElem?, hli, Option.getD_some, Bool.not_false, Bool.true_and, Option.map_some]
                rw [Array.all_eq_true']
                intro e he
                by_cases hb : Region.binds .any e = true
                · have := ih e.on (hE i _ e ho he hb) (by have := hE i _ e ho he hb; omega)
                  simp [this]
                · simp at hb; simp [hb]
              rw [hr] at this; cases this
      have hc : cnt ops.size (fun j => wr j && listed.getD j false) = cnt ops.size wr := cnt_congr fun i hi => by simp [Array.getD_eq_getD_getElem?, hall i hi]
      rw [hc] at s
      refine ⟨_, _, F, μ, hq, .normal, s, y, vd, hn, fun t => ?_⟩
      obtain ⟨g1, g2⟩ := hTx ops.size (Nat.le_refl _) t
      by_cases hex : ∃ (j : Nat) (o : Oper), ops[j]? = some o ∧ o.dst = some t
      · obtain ⟨j, o, ho, hd⟩ := hex
        have hj : j < ops.size := (Array.getElem?_eq_some_iff.1 ho).1
        rw [g1 j o hj ho hd]
        exact (hsl t).1 j o ho hd (hall j hj)
      · rw [g2 fun j o _ ho hd => hex ⟨j, o, ho, hd⟩]
        exact (hsl t).2 fun j o ho hd => (hex ⟨j, o, ho, hd⟩).elim
    intro fuel
    induction fuel with
    | zero =>
      intro listed act w hI hfu
      have hr : Region.ready .any ops listed = [] := by
        rw [List.eq_nil_iff_forall_not_mem]
        intro i hi
        unfold Region.ready at hi
        rw [List.mem_filter] at hi
        obtain ⟨h1, h2⟩ := hi
        simp only [List.mem_range] at h1
        simp only [Bool.and_eq_true, Bool.not_eq_true'] at h2
        have hlt : i < listed.size := by rw [hI.1]; exact h1
        have h2' : listed.getD i false = false := by have := h2.1; simp [Array.getD_eq_getD_getElem?, hlt] at this ⊢; exact this
        have : cnt ops.size (fun j => decide (j = i)) ≤ cnt ops.size (fun j => !listed.getD j false) := cnt_le fun j _ hj => by simp at hj; subst hj; simp [h2']
        have h3 : cnt ops.size (fun j => decide (j = i)) = cnt ops.size (fun _ => false) + (if decide (i = i) = true then 1 else 0) := cnt_set h1 rfl fun j hj => by simp [hj]
        simp at h3
        omega
      exact ⟨hr, hdone _ _ _ hI hr⟩
    | succ fuel ih =>
      intro listed act w hI hfu
      refine ⟨hdone _ _ _ hI, fun i hi => ?_⟩
      obtain ⟨hsz, hcl, F, μ, s, y, vd, hn, hsl⟩ := hI
      unfold Region.ready at hi
      rw [List.mem_filter] at hi
      obtain ⟨h1, h2⟩ := hi
      simp only [List.mem_range] at h1
      simp only [Bool.and_eq_true, Bool.not_eq_true'] at h2
      have ho : ops[i]? = some ops[i] := Array.getElem?_eq_getElem h1
      have hlt : i < listed.size := by rw [hsz]; exact h1
      have hli : listed[i]? = some false := by have := h2.1; simp [Array.getD_eq_getD_getElem?, hlt] at this; simp [hlt, this]
      have hafter : ∀ e ∈ (ops[i]).after, Region.binds .any e = true → listed[e.on]? = some true := by
        have := h2.2
        rw [ho] at this
        simp only [Option.map_some, Option.getD_some] at this
        rw [Array.all_eq_true'] at this
        intro e he hb
        have := this e he
        rw [hb] at this
        simp [Array.getD_eq_getD_getElem?] at this
        cases hx : listed[e.on]? with
        | none => rw [hx] at this; simp at this
        | some b => rw [hx] at this; simp at this; rw [this]
      have hancl : ∀ (i : Nat) (o : Oper), ops[i]? = some o → (∀ e ∈ o.after, Region.binds .any e = true → listed[e.on]? = some true) → ∀ j, anc i j = true → listed[j]? = some true := by
        intro i
        induction i using Nat.strongRecOn with
        | _ i ihh =>
          intro o hoi hh j hj
          obtain ⟨e, he, hb, hje⟩ := hA i j o hoi hj
          rcases hje with rfl | hje
          · exact hh e he hb
          · have hon := hE i o e hoi he hb
            have hois : i < ops.size := (Array.getElem?_eq_some_iff.1 hoi).1
            have hoe : ops[e.on]? = some ops[e.on] := Array.getElem?_eq_getElem (by omega)
            exact ihh e.on hon _ hoe (fun e' he' hb' => hcl _ _ e' hoe (hh e he hb) he' hb') j hje
      have hanci := hancl i _ ho hafter
      have hlo : cnt ops.size (fun j => wr j && anc i j) ≤ cnt ops.size (fun j => wr j && listed.getD j false) := cnt_le fun j _ hj => by
        simp only [Bool.and_eq_true] at hj ⊢
        exact ⟨hj.1, by simp [Array.getD_eq_getD_getElem?, hanci j hj.2]⟩
      have hhi : cnt ops.size (fun j => wr j && listed.getD j false) ≤ cnt ops.size (fun j => wr j && !anc j i && !(j == i)) := cnt_le fun j hjs hj => by
        simp only [Bool.and_eq_true, Bool.not_eq_true'] at hj ⊢
        have hlj : listed[j]? = some true := by
          have := hj.2
          simp [Array.getD_eq_getD_getElem?] at this
          cases hx : listed[j]? with
          | none => rw [hx] at this; simp at this
          | some b => rw [hx] at this; simp at this; rw [this]
        refine ⟨⟨hj.1, ?_⟩, ?_⟩
        · cases hx : anc j i with
          | false => rfl
          | true =>
            have hoj : ops[j]? = some ops[j] := Array.getElem?_eq_getElem hjs
            have := hancl j _ hoj (fun e he hb => hcl j _ e hoj hlj he hb) i hx
            rw [hli] at this; cases this
        · cases hx : (j == i) with
          | false => rfl
          | true => have : j = i := by simpa using hx
                    subst this; rw [hli] at hlj; cases hlj
      have hcl' : ∀ (i' : Nat) (o : Oper) (e : Edge), ops[i']? = some o → (listed.setIfInBounds i true)[i']? = some true → e ∈ o.after → Region.binds .any e = true → (listed.setIfInBounds i true)[e.on]? = some true := by
        intro i' o e hoi' hl' he hb
        have hset : ∀ (j : Nat), listed[j]? = some true → (listed.setIfInBounds i true)[j]? = some true := by
          intro j hj
          rw [Array.getElem?_setIfInBounds]
          split
          · first | rfl | simp [hlt]
          · exact hj
        by_cases e' : i' = i
        · subst e'; rw [ho] at hoi'; cases hoi'; exact hset _ (hafter e he hb)
        · rw [Array.getElem?_setIfInBounds, if_neg (by omega)] at hl'
          exact hset _ (hcl i' o e hoi' hl' he hb)
      have hcnt : cnt ops.size (fun j => wr j && (listed.setIfInBounds i true).getD j false) = cnt ops.size (fun j => wr j && listed.getD j false) + (if wr i = true then 1 else 0) := by
        have := cnt_set (k := ops.size) (i := i) (p := fun j => wr j && listed.getD j false) (q := fun j => wr j && (listed.setIfInBounds i true).getD j false) h1 (by simp [Array.getD_eq_getD_getElem?, hli]) (fun j hj => by
          simp only [Array.getD_eq_getD_getElem?, Array.getElem?_setIfInBounds]; rw [if_neg (by omega)])
        rw [this]
        simp [Array.getD_eq_getD_getElem?, Array.getElem?_setIfInBounds, hlt]
      have hfu' : cnt ops.size (fun j => !(listed.setIfInBounds i true).getD j false) ≤ fuel := by
        have := cnt_set (k := ops.size) (i := i) (p := fun j => !(listed.setIfInBounds i true).getD j false) (q := fun j => !listed.getD j false) h1 (by simp [Array.getD_eq_getD_getElem?, Array.getElem?_setIfInBounds, hlt]) (fun j hj => by
          simp only [Array.getD_eq_getD_getElem?, Array.getElem?_setIfInBounds]; rw [if_neg (by omega)])
        have h1 : (!listed.getD i false) = true := by simp only [Array.getD_eq_getD_getElem?, hli]; rfl
        simp only [h1, if_true] at this
        omega
      have hrest : RelT n F μ ⟨only ops ops[i] (T i), Hk (cnt ops.size fun j => wr j && listed.getD j false), a.D⟩ act w := by
        refine ⟨vd, hn, fun t => ?_⟩
        show VR F w μ (get (only ops ops[i] (T i)) t) _
        unfold only
        rw [get_only]
        split
        · rename_i ht
          obtain ⟨g1, g2⟩ := hTx i (by omega) t
          by_cases hex : ∃ (j : Nat) (o : Oper), ops[j]? = some o ∧ o.dst = some t
          · obtain ⟨j, o, hoj, hd⟩ := hex
            rcases hL i _ t j o ho ht hoj hd with haj | ⟨hij, haj⟩
            · have hji : j < i := by
                have key : ∀ (i' : Nat) (o' : Oper), ops[i']? = some o' → ∀ j, anc i' j = true → j < i' := by
                  intro i'
                  induction i' using Nat.strongRecOn with
                  | _ i' ihh =>
                    intro o' hoi' j hj
                    obtain ⟨e, he, hb, hje⟩ := hA i' j o' hoi' hj
                    have hon := hE i' o' e hoi' he hb
                    rcases hje with rfl | hje
                    · exact hon
                    · have hois : i' < ops.size := (Array.getElem?_eq_some_iff.1 hoi').1
                      have := ihh e.on hon _ (Array.getElem?_eq_getElem (by omega)) j hje
                      omega
                exact key i _ ho j haj
              rw [g1 j o hji hoj hd]
              exact (hsl t).1 j o hoj hd (hanci j haj)
            · rw [g2 fun k o' hk hok hdk => by
                have := hD k j _ _ t hok hoj hdk hd
                omega]
              refine (hsl t).2 fun k o' hok hdk hlk => ?_
              have hkj := hD k j _ _ t hok hoj hdk hd
              subst hkj
              have := hancl k _ hoj (fun e he hb => hcl k _ e hoj hlk he hb) i haj
              rw [hli] at this; cases this
          · rw [g2 fun j o _ hoj hd => hex ⟨j, o, hoj, hd⟩]
            exact (hsl t).2 fun j o hoj hd => (hex ⟨j, o, hoj, hd⟩).elim
        · exact .junk _
      refine hS i _ _ ho hlo hhi i B (RelE n B Q) _ F μ act w ho s hrest ?_ (fun _ _ _ h => by cases h)
      rintro v' H' he V w' F' μ' x s' hV
      cases he
      refine ih _ _ _ ⟨by simpa using hsz, hcl', F', μ', by rw [hcnt]; exact s', y.trans x, ?_, ?_, fun t => ?_⟩ hfu'
      · cases (ops[i]).dst <;> exact vd.mono x.mu
      · cases (ops[i]).dst <;> simp [Act.put, hn]
      · have hslot : ∀ t, (act.put (ops[i]).dst V).tmps.getD t undef = if (ops[i]).dst = some t then V else act.tmps.getD t undef := by
          intro t
          cases hd : (ops[i]).dst with
          | none => simp [Act.put]
          | some d =>
            have hdn : d < act.tmps.size := by rw [hn]; exact fits_get hf i _ d ho hd
            simp only [Act.put, Array.getD_eq_getD_getElem?, Array.getElem?_setIfInBounds]
            by_cases e : d = t
            · subst e; simp [hdn]
            · simp [e]
        rw [hslot]
        refine ⟨fun j o hoj hd hl => ?_, fun hno => ?_⟩
        · by_cases e : j = i
          · subst e; rw [ho] at hoj; cases hoj; rw [if_pos hd]; exact hV
          · rw [if_neg fun h => e (hD j i _ _ t hoj ho hd h)]
            rw [Array.getElem?_setIfInBounds, if_neg (by omega)] at hl
            exact VR.mono x ((hsl t).1 j o hoj hd hl)
        · have hne : (ops[i]).dst ≠ some t := fun h => hno i _ ho h (by rw [Array.getElem?_setIfInBounds, if_pos rfl, if_pos hlt])
          rw [if_neg hne]
          refine VR.mono x ((hsl t).2 fun j o hoj hd hl => hno j o hoj hd ?_)
          rw [Array.getElem?_setIfInBounds]
          split
          · first | rfl | simp [hlt]
          · exact hl
  refine main _ _ _ _ ⟨by simp, ?_, F, μ, ?_, y.trans x1, t.defers, t.size, fun tt => ⟨?_, ?_⟩⟩ ?_
  · intro i o e _ hl
    rw [Array.getElem?_replicate] at hl
    split at hl <;> cases hl
  · have : cnt ops.size (fun j => wr j && (Array.replicate ops.size false).getD j false) = cnt 0 (fun _ => false) := by
      have : ∀ k, cnt k (fun j => wr j && (Array.replicate ops.size false).getD j false) = 0 := by
        intro k
        induction k with
        | zero => rfl
        | succ k ih =>
          simp only [cnt, ih]
          by_cases hk : k < ops.size <;> simp [Array.getD_eq_getD_getElem?, Array.getElem?_replicate, hk]
      rw [this]; rfl
    rw [this]; simp only [cnt]; rw [hH]; exact s1
  · intro j o _ _ hl
    rw [Array.getElem?_replicate] at hl
    split at hl <;> cases hl
  · intro _; exact VR.mono x1 (t.slots tt)
  · refine Nat.le_trans (cnt_le (q := fun _ => true) fun _ _ _ => rfl) ?_
    have : ∀ k, cnt k (fun _ => true) = k := by
      intro k; induction k with
      | zero => rfl
      | succ k ih => simp [cnt, ih]
    rw [this]; exact Nat.le_refl _
/-- A region that draws its order and leaves memory as it was. -/
theorem W.draw2 {id : Nat} (rs : List CR) (hm : P.follows .mixedOrders = true) (hf : fits n ops = true) (hr : allRd ops = true) (hst : drawStatic2 ops (mkTab ops.toList []) = true) (h : EDr P ops (Q .normal) rs ops.toList a) : W P n m R (.region id ops true) Q a := by
  obtain ⟨v, T, h0, hq, ht⟩ := EDr_trace (R := R) (m := m) hf hr h
  have hstI : ∀ (i : Nat) (o : Oper), ops[i]? = some o → (o.after.toList.all (fun e => !Region.binds .any e || decide (e.on < i)) && (mkTab ops.toList []).getD i 0 == maskOf (mkTab ops.toList []) o &&
      (o.looksAt ops).all (fun t => (List.range ops.size).all fun j => match ops[j]? with | some o' => !dstB o' t || (((mkTab ops.toList []).getD i 0).testBit j || (decide (i < j) && ((mkTab ops.toList []).getD j 0).testBit i)) | none => true) &&
      (match o.dst with | none => true | some d => (List.range ops.size).all fun j => j == i || match ops[j]? with | some o' => !dstB o' d | none => true)) = true := by
    intro i o ho
    have := all_range hst i (Array.getElem?_eq_some_iff.1 ho).1
    rw [ho] at this
    exact this
  have ht' : ∀ (i : Nat) (o : Oper), ops[i]? = some o → _ := fun i o ho => ht i o (by rw [Array.getElem?_toList]; exact ho)
  refine W.drawF2 (af := a) v T (fun _ => a.H) (fun _ => false) (fun i j => ((mkTab ops.toList []).getD i 0).testBit j) hm hf h0 (fun i o ho => (ht' i o ho).1) rfl ?_ ?_ ?_ ?_ ?_ ?_
  · intro i o e ho he hb
    have := hstI i o ho
    simp only [Bool.and_eq_true] at this
    have h1 := List.all_eq_true.1 this.1.1.1 e (Array.mem_toList_iff.2 he)
    simpa [hb] using h1
  · intro i j o ho hj
    have := hstI i o ho
    simp only [Bool.and_eq_true, beq_iff_eq] at this
    have h1 := this.1.1.2
    simp only [h1] at hj
    unfold maskOf at hj
    rcases foldl_or _ _ _ _ hj with h2 | ⟨e, he, hb, hje⟩
    · simp at h2
    · exact ⟨e, Array.mem_toList_iff.1 he, hb, hje⟩
  · intro i o t j o' ho ht ho' hd
    have := hstI i o ho
    simp only [Bool.and_eq_true] at this
    have h1 := all_range (List.all_eq_true.1 this.1.2 t ht) j (Array.getElem?_eq_some_iff.1 ho').1
    rw [ho'] at h1
    simp only [dstB, hd] at h1
    simpa [Bool.or_eq_true, Bool.and_eq_true] using h1
  · intro i j o o' d ho ho' hd hd'
    have := hstI i o ho
    simp only [Bool.and_eq_true, hd] at this
    have h1 := all_range this.2 j (Array.getElem?_eq_some_iff.1 ho').1
    rw [ho'] at h1
    have : j = i := by simpa [dstB, hd'] using h1
    exact this.symm
  · intro i o k ho _ _
    exact (ht' i o ho).2
  · rw [← Array.length_toList]; exact hq

theorem W.drawf2 {id : Nat} (rs : List CR) (hm : P.follows .mixedOrders = true) (hf : fits n ops = true) (hr : allRd ops = true) (hst : drawStatic2 ops (mkTab ops.toList []) = true)
    (h : EDf P ops (Q .normal) rs ops.toList a) : W P n m R (.region id ops true) Q a := W.draw2 rs hm hf hr hst (EDf_EDr h)

end
end Go.Av
namespace Go.Av
set_option linter.unusedVariables false
set_option linter.unusedSimpArgs false
section
variable {α : Type}

/-- Something behind such a slice: new memory. -/
theorem slIn_catX {P : Program} {sT e : TypeId} {wd bytes : Nat} (hu : P.underlying sT = some (.slice e)) (ha : apT P e = some (esz wd, wd, bytes)) (f : α → AV) (hf : ∀ x, (f x).cells.length = esz wd) (hc : ∀ x, (f x).cells.all AV.isC = true) (hz : 0 < esz wd)
    {M : List OB} {v u : AV} {L N : List α} (h : slIn wd f M v L) (hN : N ≠ []) (hnew : newsA (esz wd) u M = some (N.length, flatA f N)) (hb : (L.length + N.length) * bytes ≤ 2 ^ 47) :
    ∃ M', evAppend P sT sT v u M = some (.sl M.length 0 (L.length + N.length) wd, M') ∧ M'.length = M.length + 1 ∧ M'[M.length]? = some (.cells (flatA f (L ++ N)) true) ∧ ∀ i, i < M.length → v ≠ .sl i 0 L.length wd → M'[i]? = M[i]? := by
  have hflat : flatA f (L ++ N) = flatA f L ++ flatA f N := by simp [flatA]
  have hisC : (flatA f N).all AV.isC = true := by
    rw [flatA, List.all_flatMap, List.all_eq_true]; intro u hu; obtain ⟨a, _, rfl⟩ := List.mem_map.1 hu; exact hc a
  have hN0 : 0 < N.length := List.length_pos_iff.2 hN
  rcases h with ⟨rfl, w, rfl⟩ | ⟨d, rfl, hd⟩
  · have hold : newsA (esz wd) (.vsl w true []) M = some (0, []) := by simp [newsA]
    refine ⟨M ++ [.cells (flatA f N) true], ?_, by simp, by simp, fun i hi _ => List.getElem?_append_left hi⟩
    simp only [evAppend, hu, ha, hnew, hold, List.nil_append, List.length_nil, Nat.zero_add]
    rw [if_neg (by omega), if_pos (by simpa using hb)]
  · have hlen : (flatA f L).length = L.length * esz wd := flatA_len hf L
    have hnot : ¬ ((L.length + N.length) * esz wd ≤ L.length * esz wd) := by
      rw [Nat.add_mul]
      have : 0 < N.length * esz wd := Nat.mul_pos hN0 hz
      omega
    refine ⟨M.set d .dead ++ [.cells (flatA f L ++ flatA f N) true], ?_, by simp, ?_, fun i hi hne => ?_⟩
    · simp only [evAppend, hu, ha, hnew, hd]
      rw [if_pos ⟨trivial, hisC, hb, by omega⟩]
      simp only [Nat.zero_add, hlen, if_true, List.drop_zero]
      rw [if_neg hnot]
    · rw [List.getElem?_append_right (by simp), hflat]; simp
    · rw [List.getElem?_append_left (by simpa using hi), List.getElem?_set, if_neg]
      rintro rfl
      exact hne rfl
end

open Go.RowKit (Below)
/-- slices.Grow of the nil slice. -/
theorem grow_sh {P : Program} {f : FuncId} {fn : Func} {c : Code} {ρ : Go.Shelf.Ren} (hN : Enters P) (hf : P.funcs[f]? = some fn) (hb : fn.body = some c) (L : Go.Proofs.Lays8.n4 P ρ) (hfn : ρ.f 4 = f) (i0 : TypeInfo) (z : Value) (hi0 : P.info? (ρ.t 25) = some i0) (hz0 : i0.zero = some z)
    {wd : Nat} (hsz : i0.size = esz wd) (hzs : z.cells.size = i0.size) (hs0 : 0 < i0.size) {n : Nat} (hn : 0 < n) (hbig : n * i0.bytes ≤ 140737488355328) (h63 : n ≤ 1000000) (H : List OB) :
    ShFn P f [.vsl 0 true [], .int .i64 n] H (.ret (.sl H.length 0 0 wd)) (H ++ [.cells [] true]) := by
  intro w0 F0 F μ w Vs s hv
  cases hv with
  | cons _ _ _ _ h1 h2 =>
  cases h2 with
  | cons _ _ _ _ h3 h4 =>
  cases h4
  cases h3
  cases h1 with
  | vsl _ _ _ A cap hxx hl hbb ha =>
  have hc0 : cap = 0 := hxx rfl
  subst hc0
  have hcall := Go.Proofs.Any8.slices_Grow_grow L i0 z hi0 hz0 hs0 A 0 0 n [] w (Nat.le_refl _) (by omega) (by simpa using hbig) (by omega) (by simp) (fun _ => rfl) (fun a _ j v hj => by simp at hj)
  rw [hfn] at hcall
  refine .inl ⟨w, enters_call hN hf hb _ _, rfl, hcall.mono ?_⟩
  rintro e w' ⟨rfl, rfl⟩
  obtain ⟨G, hG⟩ : ∃ G, G = grownCap w (0 + n) 0 (ρ.t 25) := ⟨_, rfl⟩
  have hGn : 0 + n ≤ G := by rw [hG]; exact grownCap_ge w _ _ _
  rw [← hG]
  obtain ⟨c, hcdef⟩ : ∃ c, c = (([] : List Value).toArray ++ Builtin.zeroCells z.cells (0 + n - 0) ++ Builtin.zeroCells z.cells (G - (0 + n))) := ⟨_, rfl⟩
  have hcs : c.size = G * esz wd := by
    rw [hcdef]
    simp only [Array.size_append, size_zeroCells, hzs, hsz, List.size_toArray, List.length_nil, Nat.zero_add, Nat.sub_zero]
    rw [← Nat.add_mul]
    congr 1; omega
  rw [← hcdef]
  obtain ⟨μ', x, hμ', s'⟩ := s.grow (cs := []) (Vs := []) .nil c (ρ.t 25) (G * esz wd) (fun j V hj => by simp at hj) hcs (Nat.zero_le _)
  refine ⟨F, μ', x, s', .ret _ _ ?_⟩
  have := VR.sl (F := F) (w := w.drew.alloc (.cells c (ρ.t 25))) (μ := μ') H.length 0 0 wd G ⟨w.heap.size, 0, G * esz wd⟩ hμ' (by simp) (Nat.zero_le _) (Nat.zero_le _)
  simpa using this
end Go.Av
namespace Go.Av
set_option linter.unusedVariables false
set_option linter.unusedSimpArgs false
open Go.RowKit (Below)

section
variable {P : Program} {n m : Nat} {R : Option Nat} {a : St} {Q : Ex → St → Prop} {ops : Array Oper}

open Classical in
theorem W.drawC {id : Nat} {pre : List Oper} {oc : Oper} (rs : List CR) (hm : P.follows .mixedOrders = true) (hf : fits n ops = true) (hsp : ops.toList = pre ++ [oc]) (hst : drawStatic2 ops (mkTab ops.toList []) = true) (hch : chainStatic ops (mkTab ops.toList []) = true)
    (hno : isApp oc.op = false) (hlast : ((List.range pre.length).all fun i => ((mkTab ops.toList []).getD pre.length 0).testBit i) = true)
    (h : EDm P ops (fun a1 => gdA ops a1 oc.guard = some true ∧ ∃ f args args' r, callOf a1 oc.op = some (.fn f, args) ∧ lend a1.H args (.ret r) = some args' ∧ PureFn P f args' (.ret r) ∧ Q .normal (a1.put oc.dst r)) rs pre a) : W P n m R (.region id ops true) Q a := by
  obtain ⟨v0, T0, H0, h0, hH0, ⟨hg, f, args, args', r, hc, hl, hp, hq⟩, ht⟩ := EDm_trace (R := R) (m := m) hf h
  obtain ⟨p, hp0⟩ : ∃ p, p = pre.length := ⟨_, rfl⟩
  have hsize : ops.size = p + 1 := by rw [← Array.length_toList, hsp, hp0]; simp
  rw [← hp0] at hg hc hl hq hlast
  have hlast' : ∀ i, i < p → ((mkTab ops.toList []).getD p 0).testBit i = true := fun i hi => List.all_eq_true.1 hlast i (List.mem_range.2 hi)
  have hat : ∀ (i : Nat) (o : Oper), ops[i]? = some o → (i < p ∧ pre[i]? = some o) ∨ (i = p ∧ o = oc) := by
    intro i o ho
    rw [← Array.getElem?_toList, hsp] at ho
    rcases Nat.lt_or_ge i pre.length with hi | hi
    · rw [List.getElem?_append_left hi] at ho; exact .inl ⟨by omega, ho⟩
    · rw [List.getElem?_append_right hi] at ho
      have : i - pre.length = 0 := by have := (List.getElem?_eq_some_iff.1 ho).1; simp at this; omega
      rw [this] at ho
      simp at ho
      exact .inr ⟨by omega, ho.symm⟩
  have hstep : StepR P n m R ops oc ⟨only ops oc (T0 p), H0 p, a.D⟩ (.val r (H0 p)) := by
    refine stepA_ok (call := fun c x K => if c = .fn f ∧ x = args ∧ K = H0 p then some (.ret r, H0 p) else none) (a := ⟨only ops oc (T0 p), H0 p, a.D⟩) ?_ hf ?_
    · intro c x K out K' hh
      simp only at hh
      split at hh
      · rename_i hcond
        obtain ⟨rfl, rfl, rfl⟩ := hcond
        cases hh
        exact PureFn.sh hl hp
      · cases hh
    · have e1 : gdA ops ⟨only ops oc (T0 p), H0 p, a.D⟩ oc.guard = some true := by
        rw [only_gd (a := ⟨T0 p, H0 p, a.D⟩)]; exact hg
      have e2 : callOf ⟨only ops oc (T0 p), H0 p, a.D⟩ oc.op = some (.fn f, args) := by
        rw [callOf_congr (b := ⟨T0 p, H0 p, a.D⟩) oc.op (fun x hx => only_ev (ops := ops) (o := oc) (a := ⟨T0 p, H0 p, a.D⟩) hx)]; exact hc
      simp [stepA, e1, e2]
  obtain ⟨v, hv⟩ : ∃ v : Nat → AV, v = fun i => if i = p then r else v0 i := ⟨_, rfl⟩
  obtain ⟨T, hT⟩ : ∃ T : Nat → List (Nat × AV), T = fun i => if i ≤ p then T0 i else (match oc.dst with | none => T0 p | some d => (d, r) :: T0 p) := ⟨_, rfl⟩
  obtain ⟨Hs, hHs⟩ : ∃ Hs : Nat → List OB, Hs = fun i => if i ≤ p then H0 i else H0 p := ⟨_, rfl⟩
  have ht' : ∀ (i : Nat) (o : Oper), ops[i]? = some o → T (i + 1) = (match o.dst with | none => T i | some d => (d, v i) :: T i) ∧ (isApp o.op = true → StepR P n m R ops o ⟨only ops o (T i), Hs i, a.D⟩ (.val (v i) (Hs (i + 1)))) ∧
      (isApp o.op = false → Hs (i + 1) = Hs i ∧ ∀ K, (i = p → K = Hs p) → StepR P n m R ops o ⟨only ops o (T i), K, a.D⟩ (.val (v i) K)) := by
    intro i o ho
    rcases hat i o ho with ⟨hi, hpi⟩ | ⟨rfl, rfl⟩
    · obtain ⟨g1, g2, g3⟩ := ht i o hpi
      have eT : T i = T0 i := by rw [hT]; exact if_pos (by omega)
      have eT' : T (i + 1) = T0 (i + 1) := by rw [hT]; exact if_pos (by omega)
      have eH : Hs i = H0 i := by rw [hHs]; exact if_pos (by omega)
      have eH' : Hs (i + 1) = H0 (i + 1) := by rw [hHs]; exact if_pos (by omega)
      have ev : v i = v0 i := by rw [hv]; exact if_neg (by omega)
      rw [eT, eT', eH, eH', ev]
      exact ⟨g1, g2, fun hx => ⟨(g3 hx).1, fun K _ => (g3 hx).2 K⟩⟩
    · have eT : T i = T0 i := by rw [hT]; exact if_pos (by omega)
      have eT' : T (i + 1) = (match o.dst with | none => T0 i | some d => (d, r) :: T0 i) := by rw [hT]; exact if_neg (by omega)
      have eH : Hs i = H0 i := by rw [hHs]; exact if_pos (by omega)
      have eH' : Hs (i + 1) = H0 i := by rw [hHs]; exact if_neg (by omega)
      have ev : v i = r := by rw [hv]; exact if_pos rfl
      rw [eT, eT', eH, eH', ev]
      refine ⟨rfl, (fun hx => by rw [hno] at hx; cases hx), fun _ => ⟨rfl, fun K hK => ?_⟩⟩
      rw [hK rfl]; exact hstep
  have hT0 : T 0 = a.T := by rw [hT]; simp only [Nat.zero_le, if_true]; exact h0
  have hHs0 : Hs 0 = a.H := by rw [hHs]; simp only [Nat.zero_le, if_true]; exact hH0
  have hq' : Q .normal ⟨T ops.size, Hs ops.size, a.D⟩ := by
    have e1 : T ops.size = (match oc.dst with | none => T0 p | some d => (d, r) :: T0 p) := by rw [hT]; exact if_neg (by omega)
    have e2 : Hs ops.size = H0 p := by rw [hHs]; exact if_neg (by omega)
    rw [e1, e2]
    cases hd : oc.dst with
    | none => rw [hd] at hq; exact hq
    | some d => rw [hd] at hq; exact hq
  obtain ⟨wr, hwr⟩ : ∃ wr : Nat → Bool, wr = fun i => match ops[i]? with | some o => isApp o.op | none => false := ⟨_, rfl⟩
  have wr_at : ∀ i o, ops[i]? = some o → wr i = isApp o.op := fun i o ho => by rw [hwr]; simp only [ho]
  have wr_lt : ∀ i, wr i = true → i < ops.size := by
    intro i hi
    rw [hwr] at hi
    simp only at hi
    split at hi
    · rename_i o ho; exact (Array.getElem?_eq_some_iff.1 ho).1
    · cases hi
  have const : ∀ i, i ≤ ops.size → ∀ j, j ≤ i → cnt j wr = cnt i wr → Hs j = Hs i := by
    intro i
    induction i with
    | zero => intro _ j hj _; have : j = 0 := by omega
              rw [this]
    | succ i ih =>
      intro hi j hj hc
      by_cases hji : j = i + 1
      · rw [hji]
      · have hfl := cnt_flat (p := wr) (show j ≤ i by omega) (show i < i + 1 by omega) hc
        have hc' : cnt j wr = cnt i wr := by rw [cnt, hfl] at hc; simpa using hc
        have ho : ops[i]? = some ops[i] := Array.getElem?_eq_getElem (by omega)
        have hno : isApp ops[i].op = false := by rw [← wr_at i _ ho]; exact hfl
        rw [ih (by omega) j (by omega) hc', ((ht' i _ ho).2.2 hno).1]
  obtain ⟨Hk, hHk⟩ : ∃ Hk : Nat → List OB, Hk = fun k => match (List.range (ops.size + 1)).find? (fun i => cnt i wr == k) with | some i => Hs i | none => a.H := ⟨_, rfl⟩
  have hk_at : ∀ i, i ≤ ops.size → Hk (cnt i wr) = Hs i := by
    intro i hi
    rw [hHk]
    simp only
    cases hfd : (List.range (ops.size + 1)).find? (fun j => cnt j wr == cnt i wr) with
    | none =>
      have := List.find?_eq_none.1 hfd i (List.mem_range.2 (by omega))
      simp at this
    | some j =>
      have h1 := List.find?_some hfd
      have h2 := List.mem_range.1 (List.mem_of_find?_eq_some hfd)
      have h3 : cnt j wr = cnt i wr := by simpa using h1
      simp only
      rcases Nat.le_total j i with hji | hij
      · exact const i hi j hji h3
      · exact (const j (by omega) i hij h3.symm).symm
  have hstI : ∀ (i : Nat) (o : Oper), ops[i]? = some o → (o.after.toList.all (fun e => !Region.binds .any e || decide (e.on < i)) && (mkTab ops.toList []).getD i 0 == maskOf (mkTab ops.toList []) o &&
      (o.looksAt ops).all (fun t => (List.range ops.size).all fun j => match ops[j]? with | some o' => !dstB o' t || (((mkTab ops.toList []).getD i 0).testBit j || (decide (i < j) && ((mkTab ops.toList []).getD j 0).testBit i)) | none => true) &&
      (match o.dst with | none => true | some d => (List.range ops.size).all fun j => j == i || match ops[j]? with | some o' => !dstB o' d | none => true)) = true := by
    intro i o ho
    have := all_range hst i (Array.getElem?_eq_some_iff.1 ho).1
    rw [ho] at this
    exact this
  have chain : ∀ i j, i < j → wr i = true → wr j = true → ((mkTab ops.toList []).getD j 0).testBit i = true := by
    intro i j hij hi hj
    have hi' := wr_lt i hi
    have hj' := wr_lt j hj
    have hoi : ops[i]? = some ops[i] := Array.getElem?_eq_getElem hi'
    have hoj : ops[j]? = some ops[j] := Array.getElem?_eq_getElem hj'
    have := all_range (all_range hch i hi') j hj'
    rw [hoi, hoj] at this
    simp only at this
    rw [wr_at i _ hoi] at hi
    rw [wr_at j _ hoj] at hj
    simpa [hij, hi, hj] using this
  refine W.drawF2 (af := a) v T Hk wr (fun i j => ((mkTab ops.toList []).getD i 0).testBit j) hm hf hT0 (fun i o ho => (ht' i o ho).1) (by rw [← hHs0]; exact hk_at 0 (Nat.zero_le _)) ?_ ?_ ?_ ?_ ?_ ?_
  · intro i o e ho he hb
    have := hstI i o ho
    simp only [Bool.and_eq_true] at this
    have h1 := List.all_eq_true.1 this.1.1.1 e (Array.mem_toList_iff.2 he)
    simpa [hb] using h1
  · intro i j o ho hj
    have := hstI i o ho
    simp only [Bool.and_eq_true, beq_iff_eq] at this
    have h1 := this.1.1.2
    simp only [h1] at hj
    unfold maskOf at hj
    rcases foldl_or _ _ _ _ hj with h2 | ⟨e, he, hb, hje⟩
    · simp at h2
    · exact ⟨e, Array.mem_toList_iff.1 he, hb, hje⟩
  · intro i o t j o' ho ht ho' hd
    have := hstI i o ho
    simp only [Bool.and_eq_true] at this
    have h1 := all_range (List.all_eq_true.1 this.1.2 t ht) j (Array.getElem?_eq_some_iff.1 ho').1
    rw [ho'] at h1
    simp only [dstB, hd] at h1
    simpa [Bool.or_eq_true, Bool.and_eq_true] using h1
  · intro i j o o' d ho ho' hd hd'
    have := hstI i o ho
    simp only [Bool.and_eq_true, hd] at this
    have h1 := all_range this.2 j (Array.getElem?_eq_some_iff.1 ho').1
    rw [ho'] at h1
    have : j = i := by simpa [dstB, hd'] using h1
    exact this.symm
  · intro i o k ho hlo hup
    have hi : i < ops.size := (Array.getElem?_eq_some_iff.1 ho).1
    obtain ⟨_, q1, q2⟩ := ht' i o ho
    cases hw : isApp o.op with
    | false =>
      have : wr i = false := by rw [wr_at i o ho]; exact hw
      rw [this]
      refine (q2 hw).2 _ fun hip => ?_
      subst hip
      have h1 : cnt ops.size wr ≤ k := by
        refine Nat.le_trans (cnt_le fun j hj hwj => ?_) hlo
        have hjp : j ≠ i := by rintro rfl; rw [wr_at j o ho, hw] at hwj; cases hwj
        rw [hwj, hlast' j (by omega)]; rfl
      have h2 : k ≤ cnt ops.size wr := Nat.le_trans hup (cnt_le fun j hj hpj => by simp only [Bool.and_eq_true] at hpj; exact hpj.1.1)
      have h3 : cnt i wr = cnt ops.size wr := by rw [hsize, cnt, this]; simp
      have hk : k = cnt i wr := by omega
      rw [hk, hk_at i (by omega)]
    | true =>
      have hwi : wr i = true := by rw [wr_at i o ho]; exact hw
      have h1 : cnt i wr ≤ k := by
        refine Nat.le_trans ?_ hlo
        refine Nat.le_trans (cnt_le (q := fun j => wr j && ((mkTab ops.toList []).getD i 0).testBit j) fun j hj hwj => ?_) (cnt_mono (by omega))
        rw [hwj, chain j i hj hwj hwi]; rfl
      have h2 : k ≤ cnt i wr := by
        refine Nat.le_trans hup (Nat.le_trans (cnt_tail (i := i) (fun j hj => ?_) ops.size) (cnt_le fun j hj hpj => ?_))
        · by_cases hji : j = i
          · subst hji; simp
          · cases hwj : wr j with
            | false => simp
            | true => rw [chain i j (by omega) hwi hwj]; simp
        · simp only [Bool.and_eq_true] at hpj; exact hpj.1.1
      have hk : k = cnt i wr := by omega
      subst hk
      rw [hwi, if_pos rfl, hk_at i (by omega)]
      have : Hk (cnt i wr + 1) = Hs (i + 1) := by
        have := hk_at (i + 1) (by omega)
        rw [cnt, hwi, if_pos rfl] at this
        exact this
      rw [this]
      exact q1 hw
  · rw [hk_at ops.size (Nat.le_refl _)]
    exact hq'
end
end Go.Av
