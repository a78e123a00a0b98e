/- One operation from what it looks at; regions that draw their order: under the conditions named; a text without a program. -/
import Derived.Test.YtmeijkidjifagaaAvO
namespace Go.Av
open Go.RowKit (Below)
set_option linter.unusedVariables false

/-- What an operation comes to. -/
inductive Rs where
  | val (v : AV) (H : List OB)
  | pan (t : TypeId) (v : AV) (H : List OB)

/-- One operation; 'call' answers calls. -/
def stepA (P : Program) (call : Cl → List AV → List OB → Option (Out × List OB)) (ops : Array Oper) (a : St) (o : Oper) : Option Rs :=
  match gdA ops a o.guard with
  | none => none
  | some false => some (.val (.tup []) a.H)
  | some true => match callOf a o.op with
    | some (f, args) => match call f args a.H with
      | some (.ret r, H') => some (.val r H')
      | some (.pan t v, H') => some (.pan t v H')
      | none => none
    | none => match isPanic o.op with
      | some x => match a.ev x with
        | .iface t v => some (.pan t v a.H)
        | _ => none
      | none => (evalOp P o.op a).map fun p => .val p.1 p.2

/-- The calls are answered rightly. -/
def CallsRight (P : Program) (call : Cl → List AV → List OB → Option (Out × List OB)) : Prop :=
  ∀ f args H out H', call f args H = some (out, H') → ClOK P f args H out H'

/-- An operation, from each machine's state that is one of 'a', comes to this. -/
def StepR (P : Program) (n m : Nat) (R : Option Nat) (ops : Array Oper) (o : Oper) (a : St) (r : Rs) : Prop :=
  ∀ (i : Nat) (B : Bs m) (Qm : Exit → Act → World → Prop) (K : Act → World → Prop) F μ act w, ops[i]? = some o → Sim B.w0 B.F0 F μ a.H w → RelT n F μ a act w →
    (∀ v H', r = .val v H' → ∀ V w' F' μ', Ext F w μ F' w' μ' → Sim B.w0 B.F0 F' μ' H' w' → VR F' w' μ' v V → K (act.put o.dst V) w') →
    (∀ t v H', r = .pan t v H' → ∀ V w' F' μ', Ext F w μ F' w' μ' → Sim B.w0 B.F0 F' μ' H' w' → VR F' w' μ' v V → Qm (.panic [{ v := .iface t V, recovered := false }]) act w') →
    wpOpIn (fnc R) 1 P ops Qm i K act w

section
variable {P : Program} {w0 : World} {F0 F F' : Nat → Nat → Prop} {μ μ' : Nat → Option Loc} {H H' : List OB} {w w' : World} {n m : Nat} {R : Option Nat} {a : St} {act : Act} {Q : Ex → St → Prop}
  {call : Cl → List AV → List OB → Option (Out × List OB)} {ops : Array Oper}

theorem stepA_ok (hcall : CallsRight P call) (hf : fits n ops = true) {o : Oper} {r : Rs} (h : stepA P call ops a o = some r) : StepR P n m R ops o a r := by
  intro i B Qm K F μ act w ho s t hval hpan
  unfold wpOpIn
  simp only [ho]
  have habout : ∀ f, o.about P w act.eval = some f → (fnc R).fn f := fun _ _ => trivial
  unfold stepA at h
  split at h
  · cases h
  · rename_i hg
    cases h
    have := gdA_ok t (fits_get hf) hg
    simp only [this, Bool.false_eq_true, if_false]
    exact ⟨habout, hval _ _ rfl undef w F μ (Ext.refl _ _ _) s (.tup [] #[] .nil)⟩
  · rename_i hg
    have := gdA_ok t (fits_get hf) hg
    simp only [this, if_true]
    refine ⟨habout, ?_⟩
    split at h
    · rename_i f args hc
      rw [Oper.semAt_eq _ _ _ (callOf_op hc)]
      have key : ∀ (out : Out) (H' : List OB) (e : Ending) (w' : World), call f args a.H = some (out, H') → (∃ F' μ', Ext F w μ F' w' μ' ∧ Sim B.w0 B.F0 F' μ' H' w' ∧ OutR F' w' μ' out e) →
          (match (generalizing := false) e, w' with
            | .returned v, w'' => K (act.put o.dst v) w''
            | .panicked chain, w'' => Qm (.panic chain) act w''
            | .outgrown, _ => LetsOut Qm) := by
        rintro out H' e w' hcl ⟨F', μ', x, s', ho'⟩
        cases ho' with
        | ret r Rv hr =>
          rw [hcl] at h; cases h
          exact hval _ _ rfl Rv w' F' μ' x s' hr
        | pan tt v V hv =>
          rw [hcl] at h; cases h
          exact hpan _ _ _ rfl V w' F' μ' x s' hv
      have hgo : ∀ (out : Out) (H' : List OB), call f args a.H = some (out, H') → o.uponIn (fnc R) 1 P act K Qm ((execOp act.eval o).run P w) := by
        intro out H' hcl
        rcases ClOK.goes s (a := a) t hc (hcall _ _ _ _ _ hcl) with ⟨f, Vs, w1, h1, h2⟩ | ⟨V, w1, h1, h2⟩ | ⟨l, f, tmps, as, bd, w1, h1, h2⟩
        · rw [h1, Oper.uponIn_enter]
          exact ⟨fun _ => Nat.le_refl _, callsIn_fnc.2 (h2.mono fun e w' he => key out H' e w' hcl he)⟩
        · rw [h1, Oper.uponIn_value]
          exact key out H' (.returned V) w1 hcl h2
        · rw [h1, Oper.uponIn_round]
          exact ⟨fun _ => Nat.le_refl _, roundIn_fnc (h2.mono fun e w' he => key out H' e w' hcl he)⟩
      split at h
      · exact hgo _ _ ‹_›
      · exact hgo _ _ ‹_›
      · cases h
    · split at h
      · rename_i x hx
        have hop := isPanic_ok hx
        rw [Oper.semAt_eq _ _ _ (by rw [hop]; simp)]
        split at h
        · rename_i tt v hv
          cases h
          have hvv := t.ev x
          rw [hv] at hvv
          generalize hX : act.eval x = X at hvv
          cases hvv with
          | iface _ _ V hV =>
            have hr : (execOp act.eval o).run P w = .halt (.panic (.iface tt V)) w := by
              unfold execOp
              rw [hop]
              simp [hX, Instr.panic, goPanic]
            rw [hr, Oper.uponIn_panic]
            exact hpan _ _ _ rfl V w F μ (Ext.refl _ _ _) s hV
        · cases h
      · rw [Option.map_eq_some_iff] at h
        obtain ⟨⟨v, H'⟩, hev, rfl⟩ := h
        rw [Oper.semAt_eq _ _ _ (by rintro c hc; rw [hc] at hev; cases hev)]
        obtain ⟨nx, V, w', F', μ', h1, h2, h3, h4, h5⟩ := evalOp_ok (P := P) (o := o) s t hev
        rw [h1]
        rcases h2 with rfl | ⟨rfl, rfl⟩
        · rw [Oper.uponIn_value]; exact hval _ _ rfl V w' F' μ' h3 h4 h5
        · rw [Oper.uponIn_skip]; exact hval _ _ rfl undef w' F' μ' h3 h4 h5

/-! ### Any order -/

/-- What an operation looks at, of all slots. -/
def only (ops : Array Oper) (o : Oper) (T : List (Nat × AV)) : List (Nat × AV) := (o.looksAt ops).map fun t => (t, get T t)

theorem get_only {l : List Nat} {T : List (Nat × AV)} (t : Nat) : get (l.map fun t => (t, get T t)) t = if t ∈ l then get T t else .junk := by
  induction l with
  | nil => simp [get]
  | cons x l ih =>
    simp only [List.map_cons, get]
    by_cases e : x = t
    · subst e; simp
    · rw [if_neg e, ih]
      by_cases h : t ∈ l
      · simp [h]
      · have : ¬ t = x := fun h => e h.symm
        simp [h, this]

def cnt (k : Nat) (p : Nat → Bool) : Nat :=
  match k with
  | 0 => 0
  | k + 1 => cnt k p + (if p k = true then 1 else 0)

theorem cnt_le {k : Nat} {p q : Nat → Bool} (h : ∀ i, i < k → p i = true → q i = true) : cnt k p ≤ cnt k q := by
  induction k with
  | zero => exact Nat.le_refl _
  | succ k ih =>
    have h1 := ih fun i hi => h i (by omega)
    have h2 := h k (by omega)
    simp only [cnt]
    cases hp : p k
    · simp; omega
    · rw [h2 hp]; simp; exact h1

theorem cnt_set {k i : Nat} {p q : Nat → Bool} (hi : i < k) (hp : p i = false) (h : ∀ j, j ≠ i → q j = p j) : cnt k q = cnt k p + (if q i = true then 1 else 0) := by
  induction k with
  | zero => omega
  | succ k ih =>
    simp only [cnt]
    by_cases e : i = k
    · subst e
      rw [hp]
      have : cnt i q = cnt i p := by
        have key : ∀ k', k' ≤ i → cnt k' q = cnt k' p := by
          intro k'
          induction k' with
          | zero => intro _; rfl
          | succ k' ih' => intro hk; simp only [cnt]; rw [ih' (by omega), h k' (by omega)]
        exact key i (Nat.le_refl _)
      rw [this]; simp
    · rw [ih (by omega), h k (by omega)]; omega

theorem cnt_congr {k : Nat} {p q : Nat → Bool} (h : ∀ i, i < k → p i = q i) : cnt k p = cnt k q := by
  induction k with
  | zero => rfl
  | succ k ih => simp only [cnt]; rw [ih fun i hi => h i (by omega), h k (by omega)]

/-- A region that draws its order. 'v': what each operation tells; 'T': the slots ahead of each, in the order of the text; 'Hk': memory behind so many that write; 'wr': who writes; 'anc': who must come ahead. -/
theorem W.drawF {id : Nat} {af : St} (v : Nat → AV) (T : Nat → List (Nat × AV)) (Hk : Nat → List OB) (wr : Nat → Bool) (anc : Nat → Nat → Bool)
    (hm : P.follows .mixedOrders = true) (hf : fits n ops = true)
    (h0 : T 0 = a.T) (hT : ∀ (i : Nat) (o : Oper), ops[i]? = some o → T (i + 1) = (match o.dst with | none => T i | some d => (d, v i) :: T i)) (hH : Hk 0 = a.H)
    (hE : ∀ (i : Nat) (o : Oper) (e : Edge), ops[i]? = some o → e ∈ o.after → Region.binds .any e = true → e.on < i)
    (hA : ∀ (i j : Nat) (o : Oper), ops[i]? = some o → anc i j = true → ∃ e ∈ o.after, Region.binds .any e = true ∧ (j = e.on ∨ anc e.on j = true))
    (hL : ∀ (i : Nat) (o : Oper) (t : Nat) (j : Nat) (o' : Oper), ops[i]? = some o → t ∈ o.looksAt ops → ops[j]? = some o' → o'.dst = some t → anc i j = true)
    (hD : ∀ (i j : Nat) (o o' : Oper) (d : Nat), ops[i]? = some o → ops[j]? = some o' → o.dst = some d → o'.dst = some d → i = j)
    (hS : ∀ (i : Nat) (o : Oper) (k : Nat), ops[i]? = some o → cnt ops.size (fun j => wr j && anc i j) ≤ k → k ≤ cnt ops.size (fun j => wr j && !anc j i && !(j == i)) →
      StepR P n m R ops o ⟨only ops o (T i), Hk k, a.D⟩ (.val (v i) (Hk (k + (if wr i = true then 1 else 0)))))
    (hq : Q .normal ⟨T ops.size, Hk (cnt ops.size wr), a.D⟩) : W P n m R (.region id ops true) Q a := by
  intro B act w ⟨F, μ, s, y, t⟩
  refine wpIn_region_any hm ?_
  obtain ⟨x1, s1⟩ := s.same (w' := { w with drawn := w.drawn + 1 }) rfl rfl rfl rfl
  -- what stands in the slots, in the order of the text
  have hTx : ∀ i, i ≤ ops.size → ∀ t, (∀ (j : Nat) (o : Oper), j < i → ops[j]? = some o → o.dst = some t → get (T i) t = v j) ∧ ((∀ (j : Nat) (o : Oper), j < i → ops[j]? = some o → o.dst ≠ some t) → get (T i) t = get a.T t) := by
    intro i
    induction i with
    | zero => intro _ t; exact ⟨fun j _ hj => by omega, fun _ => by rw [h0]⟩
    | succ i ih =>
      intro hi t
      have ho : ops[i]? = some ops[i] := Array.getElem?_eq_getElem (by omega)
      obtain ⟨g1, g2⟩ := ih (by omega) t
      have hTi := hT i _ ho
      have hget : get (T (i + 1)) t = if (ops[i]).dst = some t then v i else get (T i) t := by
        rw [hTi]
        cases hd : (ops[i]).dst with
        | none => simp
        | some d =>
          simp only [get]
          by_cases e : d = t
          · subst e; simp
          · rw [if_neg e, if_neg (by simpa using e)]
      rw [hget]
      refine ⟨fun j o hj hoj hdj => ?_, fun hno => ?_⟩
      · by_cases e : j = i
        · subst e; rw [ho] at hoj; cases hoj; rw [if_pos hdj]
        · have hne : (ops[i]).dst ≠ some t := fun h => e (hD j i _ _ t hoj ho hdj h)
          rw [if_neg hne]; exact g1 j o (by omega) hoj hdj
      · rw [if_neg (hno i _ (by omega) ho)]; exact g2 fun j o hj => hno j o (by omega)
  let Inv : Array Bool → Act → World → Prop := fun listed act w => listed.size = ops.size ∧
    (∀ (i : Nat) (o : Oper) (e : Edge), ops[i]? = some o → listed[i]? = some true → e ∈ o.after → Region.binds .any e = true → listed[e.on]? = some true) ∧
    ∃ F μ, Sim B.w0 B.F0 F μ (Hk (cnt ops.size fun j => wr j && listed.getD j false)) w ∧ Ext B.Fs B.ws B.μs F w μ ∧ VD μ a.D act.defers ∧ act.tmps.size = n ∧
      ∀ t, (∀ (j : Nat) (o : Oper), ops[j]? = some o → o.dst = some t → listed[j]? = some true → VR F w μ (v j) (act.tmps.getD t undef)) ∧
        ((∀ (j : Nat) (o : Oper), ops[j]? = some o → o.dst = some t → listed[j]? ≠ some true) → VR F w μ (get a.T t) (act.tmps.getD t undef))
  have main : ∀ fuel listed act w, Inv listed act w → cnt ops.size (fun j => !listed.getD j false) ≤ fuel → wpAnyIn (fnc R) 1 P .any ops (RelE n B Q) fuel listed act w := by
    have hdone : ∀ listed act w, Inv listed act w → Region.ready .any ops listed = [] → RelE n B Q .normal act w := by
      intro listed act w ⟨hsz, hcl, F, μ, s, y, vd, hn, hsl⟩ hr
      have hall : ∀ i, i < ops.size → listed[i]? = some true := by
        intro i
        induction i using Nat.strongRecOn with
        | _ i ih =>
          intro hi
          cases hli : listed[i]? with
          | none => rw [Array.getElem?_eq_none_iff] at hli; omega
          | some b =>
            cases b with
            | true => rfl
            | false =>
              have ho : ops[i]? = some ops[i] := Array.getElem?_eq_getElem hi
              have : i ∈ Region.ready .any ops listed := by
                unfold Region.ready
                rw [List.mem_filter]
                refine ⟨by simp [hi], ?_⟩
                rw [ho]
                simp only [Array.getD_eq_getD_getElem?, hli, Option.getD_some, Bool.not_false, Bool.true_and, Option.map_some]
                rw [Array.all_eq_true']
                intro e he
                by_cases hb : Region.binds .any e = true
                · have := ih e.on (hE i _ e ho he hb) (by have := hE i _ e ho he hb; omega)
                  simp [this]
                · simp at hb; simp [hb]
              rw [hr] at this; cases this
      have hc : cnt ops.size (fun j => wr j && listed.getD j false) = cnt ops.size wr := cnt_congr fun i hi => by simp [Array.getD_eq_getD_getElem?, hall i hi]
      rw [hc] at s
      refine ⟨_, _, F, μ, hq, .normal, s, y, vd, hn, fun t => ?_⟩
      obtain ⟨g1, g2⟩ := hTx ops.size (Nat.le_refl _) t
      by_cases hex : ∃ (j : Nat) (o : Oper), ops[j]? = some o ∧ o.dst = some t
      · obtain ⟨j, o, ho, hd⟩ := hex
        have hj : j < ops.size := (Array.getElem?_eq_some_iff.1 ho).1
        rw [g1 j o hj ho hd]
        exact (hsl t).1 j o ho hd (hall j hj)
      · rw [g2 fun j o _ ho hd => hex ⟨j, o, ho, hd⟩]
        exact (hsl t).2 fun j o ho hd => (hex ⟨j, o, ho, hd⟩).elim
    intro fuel
    induction fuel with
    | zero =>
      intro listed act w hI hfu
      have hr : Region.ready .any ops listed = [] := by
        rw [List.eq_nil_iff_forall_not_mem]
        intro i hi
        unfold Region.ready at hi
        rw [List.mem_filter] at hi
        obtain ⟨h1, h2⟩ := hi
        simp only [List.mem_range] at h1
        simp only [Bool.and_eq_true, Bool.not_eq_true'] at h2
        have hlt : i < listed.size := by rw [hI.1]; exact h1
        have h2' : listed.getD i false = false := by have := h2.1; simp [Array.getD_eq_getD_getElem?, hlt] at this ⊢; exact this
        have : cnt ops.size (fun j => decide (j = i)) ≤ cnt ops.size (fun j => !listed.getD j false) := cnt_le fun j _ hj => by simp at hj; subst hj; simp [h2']
        have h3 : cnt ops.size (fun j => decide (j = i)) = cnt ops.size (fun _ => false) + (if decide (i = i) = true then 1 else 0) := cnt_set h1 rfl fun j hj => by simp [hj]
        simp at h3
        omega
      exact ⟨hr, hdone _ _ _ hI hr⟩
    | succ fuel ih =>
      intro listed act w hI hfu
      refine ⟨hdone _ _ _ hI, fun i hi => ?_⟩
      obtain ⟨hsz, hcl, F, μ, s, y, vd, hn, hsl⟩ := hI
      unfold Region.ready at hi
      rw [List.mem_filter] at hi
      obtain ⟨h1, h2⟩ := hi
      simp only [List.mem_range] at h1
      simp only [Bool.and_eq_true, Bool.not_eq_true'] at h2
      have ho : ops[i]? = some ops[i] := Array.getElem?_eq_getElem h1
      have hlt : i < listed.size := by rw [hsz]; exact h1
      have hli : listed[i]? = some false := by have := h2.1; simp [Array.getD_eq_getD_getElem?, hlt] at this; simp [hlt, this]
      have hafter : ∀ e ∈ (ops[i]).after, Region.binds .any e = true → listed[e.on]? = some true := by
        have := h2.2
        rw [ho] at this
        simp only [Option.map_some, Option.getD_some] at this
        rw [Array.all_eq_true'] at this
        intro e he hb
        have := this e he
        rw [hb] at this
        simp [Array.getD_eq_getD_getElem?] at this
        cases hx : listed[e.on]? with
        | none => rw [hx] at this; simp at this
        | some b => rw [hx] at this; simp at this; rw [this]
      have hancl : ∀ (i : Nat) (o : Oper), ops[i]? = some o → (∀ e ∈ o.after, Region.binds .any e = true → listed[e.on]? = some true) → ∀ j, anc i j = true → listed[j]? = some true := by
        intro i
        induction i using Nat.strongRecOn with
        | _ i ihh =>
          intro o hoi hh j hj
          obtain ⟨e, he, hb, hje⟩ := hA i j o hoi hj
          rcases hje with rfl | hje
          · exact hh e he hb
          · have hon := hE i o e hoi he hb
            have hois : i < ops.size := (Array.getElem?_eq_some_iff.1 hoi).1
            have hoe : ops[e.on]? = some ops[e.on] := Array.getElem?_eq_getElem (by omega)
            exact ihh e.on hon _ hoe (fun e' he' hb' => hcl _ _ e' hoe (hh e he hb) he' hb') j hje
      have hanci := hancl i _ ho hafter
      have hlo : cnt ops.size (fun j => wr j && anc i j) ≤ cnt ops.size (fun j => wr j && listed.getD j false) := cnt_le fun j _ hj => by
        simp only [Bool.and_eq_true] at hj ⊢
        exact ⟨hj.1, by simp [Array.getD_eq_getD_getElem?, hanci j hj.2]⟩
      have hhi : cnt ops.size (fun j => wr j && listed.getD j false) ≤ cnt ops.size (fun j => wr j && !anc j i && !(j == i)) := cnt_le fun j hjs hj => by
        simp only [Bool.and_eq_true, Bool.not_eq_true'] at hj ⊢
        have hlj : listed[j]? = some true := by
          have := hj.2
          simp [Array.getD_eq_getD_getElem?] at this
          cases hx : listed[j]? with
          | none => rw [hx] at this; simp at this
          | some b => rw [hx] at this; simp at this; rw [this]
        refine ⟨⟨hj.1, ?_⟩, ?_⟩
        · cases hx : anc j i with
          | false => rfl
          | true =>
            have hoj : ops[j]? = some ops[j] := Array.getElem?_eq_getElem hjs
            have := hancl j _ hoj (fun e he hb => hcl j _ e hoj hlj he hb) i hx
            rw [hli] at this; cases this
        · cases hx : (j == i) with
          | false => rfl
          | true => have : j = i := by simpa using hx
                    subst this; rw [hli] at hlj; cases hlj
      have hcl' : ∀ (i' : Nat) (o : Oper) (e : Edge), ops[i']? = some o → (listed.setIfInBounds i true)[i']? = some true → e ∈ o.after → Region.binds .any e = true → (listed.setIfInBounds i true)[e.on]? = some true := by
        intro i' o e hoi' hl' he hb
        have hset : ∀ (j : Nat), listed[j]? = some true → (listed.setIfInBounds i true)[j]? = some true := by
          intro j hj
          rw [Array.getElem?_setIfInBounds]
          split
          · first | rfl | simp [hlt]
          · exact hj
        by_cases e' : i' = i
        · subst e'; rw [ho] at hoi'; cases hoi'; exact hset _ (hafter e he hb)
        · rw [Array.getElem?_setIfInBounds, if_neg (by omega)] at hl'
          exact hset _ (hcl i' o e hoi' hl' he hb)
      have hcnt : cnt ops.size (fun j => wr j && (listed.setIfInBounds i true).getD j false) = cnt ops.size (fun j => wr j && listed.getD j false) + (if wr i = true then 1 else 0) := by
        have := cnt_set (k := ops.size) (i := i) (p := fun j => wr j && listed.getD j false) (q := fun j => wr j && (listed.setIfInBounds i true).getD j false) h1 (by simp [Array.getD_eq_getD_getElem?, hli]) (fun j hj => by
          simp only [Array.getD_eq_getD_getElem?, Array.getElem?_setIfInBounds]; rw [if_neg (by omega)])
        rw [this]
        simp [Array.getD_eq_getD_getElem?, Array.getElem?_setIfInBounds, hlt]
      have hfu' : cnt ops.size (fun j => !(listed.setIfInBounds i true).getD j false) ≤ fuel := by
        have := cnt_set (k := ops.size) (i := i) (p := fun j => !(listed.setIfInBounds i true).getD j false) (q := fun j => !listed.getD j false) h1 (by simp [Array.getD_eq_getD_getElem?, Array.getElem?_setIfInBounds, hlt]) (fun j hj => by
          simp only [Array.getD_eq_getD_getElem?, Array.getElem?_setIfInBounds]; rw [if_neg (by omega)])
        have h1 : (!listed.getD i false) = true := by simp only [Array.getD_eq_getD_getElem?, hli]; rfl
        simp only [h1, if_true] at this
        omega
      have hrest : RelT n F μ ⟨only ops ops[i] (T i), Hk (cnt ops.size fun j => wr j && listed.getD j false), a.D⟩ act w := by
        refine ⟨vd, hn, fun t => ?_⟩
        show VR F w μ (get (only ops ops[i] (T i)) t) _
        unfold only
        rw [get_only]
        split
        · rename_i ht
          obtain ⟨g1, g2⟩ := hTx i (by omega) t
          by_cases hex : ∃ (j : Nat) (o : Oper), ops[j]? = some o ∧ o.dst = some t
          · obtain ⟨j, o, hoj, hd⟩ := hex
            have haj := hL i _ t j o ho ht hoj hd
            have hji : j < i := by
              have key : ∀ (i' : Nat) (o' : Oper), ops[i']? = some o' → ∀ j, anc i' j = true → j < i' := by
                intro i'
                induction i' using Nat.strongRecOn with
                | _ i' ihh =>
                  intro o' hoi' j hj
                  obtain ⟨e, he, hb, hje⟩ := hA i' j o' hoi' hj
                  have hon := hE i' o' e hoi' he hb
                  rcases hje with rfl | hje
                  · exact hon
                  · have hois : i' < ops.size := (Array.getElem?_eq_some_iff.1 hoi').1
                    have := ihh e.on hon _ (Array.getElem?_eq_getElem (by omega)) j hje
                    omega
              exact key i _ ho j haj
            rw [g1 j o hji hoj hd]
            exact (hsl t).1 j o hoj hd (hanci j haj)
          · rw [g2 fun j o _ hoj hd => hex ⟨j, o, hoj, hd⟩]
            exact (hsl t).2 fun j o hoj hd => (hex ⟨j, o, hoj, hd⟩).elim
        · exact .junk _
      refine hS i _ _ ho hlo hhi i B (RelE n B Q) _ F μ act w ho s hrest ?_ (fun _ _ _ h => by cases h)
      rintro v' H' he V w' F' μ' x s' hV
      cases he
      refine ih _ _ _ ⟨by simpa using hsz, hcl', F', μ', by rw [hcnt]; exact s', y.trans x, ?_, ?_, fun t => ?_⟩ hfu'
      · cases (ops[i]).dst <;> exact vd.mono x.mu
      · cases (ops[i]).dst <;> simp [Act.put, hn]
      · have hslot : ∀ t, (act.put (ops[i]).dst V).tmps.getD t undef = if (ops[i]).dst = some t then V else act.tmps.getD t undef := by
          intro t
          cases hd : (ops[i]).dst with
          | none => simp [Act.put]
          | some d =>
            have hdn : d < act.tmps.size := by rw [hn]; exact fits_get hf i _ d ho hd
            simp only [Act.put, Array.getD_eq_getD_getElem?, Array.getElem?_setIfInBounds]
            by_cases e : d = t
            · subst e; simp [hdn]
            · simp [e]
        rw [hslot]
        refine ⟨fun j o hoj hd hl => ?_, fun hno => ?_⟩
        · by_cases e : j = i
          · subst e; rw [ho] at hoj; cases hoj; rw [if_pos hd]; exact hV
          · rw [if_neg fun h => e (hD j i _ _ t hoj ho hd h)]
            rw [Array.getElem?_setIfInBounds, if_neg (by omega)] at hl
            exact VR.mono x ((hsl t).1 j o hoj hd hl)
        · have hne : (ops[i]).dst ≠ some t := fun h => hno i _ ho h (by rw [Array.getElem?_setIfInBounds, if_pos rfl, if_pos hlt])
          rw [if_neg hne]
          refine VR.mono x ((hsl t).2 fun j o hoj hd hl => hno j o hoj hd ?_)
          rw [Array.getElem?_setIfInBounds]
          split
          · first | rfl | simp [hlt]
          · exact hl
  refine main _ _ _ _ ⟨by simp, ?_, F, μ, ?_, y.trans x1, t.defers, t.size, fun tt => ⟨?_, ?_⟩⟩ ?_
  · intro i o e _ hl
    rw [Array.getElem?_replicate] at hl
    split at hl <;> cases hl
  · have : cnt ops.size (fun j => wr j && (Array.replicate ops.size false).getD j false) = cnt 0 (fun _ => false) := by
      have : ∀ k, cnt k (fun j => wr j && (Array.replicate ops.size false).getD j false) = 0 := by
        intro k
        induction k with
        | zero => rfl
        | succ k ih =>
          simp only [cnt, ih]
          by_cases hk : k < ops.size <;> simp [Array.getD_eq_getD_getElem?, Array.getElem?_replicate, hk]
      rw [this]; rfl
    rw [this]; simp only [cnt]; rw [hH]; exact s1
  · intro j o _ _ hl
    rw [Array.getElem?_replicate] at hl
    split at hl <;> cases hl
  · intro _; exact VR.mono x1 (t.slots tt)
  · refine Nat.le_trans (cnt_le (q := fun _ => true) fun _ _ _ => rfl) ?_
    have : ∀ k, cnt k (fun _ => true) = k := by
      intro k; induction k with
      | zero => rfl
      | succ k ih => simp [cnt, ih]
    rw [this]; exact Nat.le_refl _
end
end Go.Av
