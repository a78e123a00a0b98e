/- A framework of abstract values: no program in sight; under the conditions named at each theorem. -/
import Derived.Test.YtjlhemfmeboadaaGreatDoorZeP3
namespace Go.Av
set_option linter.unusedVariables false
set_option linter.unusedSimpArgs false
open Go.RowKit (Below)
def EDg (P:Program) (ops:Array Oper) (Q:St→Prop):List CR→List Oper→St→Prop
 | _,[],a=>Q a
 | rs,o::rest,a=>match gdA ops a o.guard with
  | none=>False
  | some false=>EDg P ops Q rs rest (a.put o.dst (.tup []))
  | some true=>match callOf a o.op with
   | some (f,args)=>match rs with
    | .pure (.ret r)::rs=>match f with
     | .fn f=>match lend a.H args (.ret r) with
      | some args'=>PureFn P f args' (.ret r)∧EDg P ops Q rs rest (a.put o.dst r)
      | none=>False
     | _=>False
    | _=>False
   | none=>match isPanic o.op with
    | some _=>False
    | none=>match evalOp P o.op a with
     | some (v,H')=>H' = a.H∧EDg P ops Q rs rest (a.put o.dst v)
     | none=>False
open Classical in
theorem EDg_step {P : Program} {n m : Nat} {R : Option Nat} {a : St} {ops : Array Oper} (hf : fits n ops = true) {o : Oper} {Q' : St → Prop} {rs : List CR} {rest : List Oper} (h : EDg P ops Q' rs (o :: rest) a) :
    ∃ v rs', StepR P n m R ops o ⟨only ops o a.T, a.H, a.D⟩ (.val v a.H) ∧ EDg P ops Q' rs' rest (a.put o.dst v) := by
  have e1 : gdA ops ⟨only ops o a.T, a.H, a.D⟩ o.guard = gdA ops a o.guard := only_gd
  have e2 : callOf ⟨only ops o a.T, a.H, a.D⟩ o.op = callOf a o.op := callOf_congr o.op (fun x hx => only_ev (ops := ops) (o := o) (a := a) (H := a.H) (D := a.D) hx)
  have e3 : evalOp P o.op ⟨only ops o a.T, a.H, a.D⟩ = evalOp P o.op a := evalOp_congr (a := ⟨only ops o a.T, a.H, a.D⟩) (b := a) rfl o.op (fun x hx => only_ev hx)
  unfold EDg at h
  split at h
  · exact h.elim
  · rename_i hg
    refine ⟨_, rs, stepR_of (call := fun _ _ _ => none) (a := ⟨only ops o a.T, a.H, a.D⟩) hf (fun _ _ _ _ _ h => by cases h) ?_, h⟩
    simp [stepA, e1, hg]
  · rename_i hg
    split at h
    · rename_i f args hc
      split at h
      · rename_i r rs'
        split at h
        · rename_i f
          split at h
          · rename_i args' hl
            obtain ⟨hp, hq⟩ := h
            refine ⟨r, rs', stepR_of (call := fun c x H => if c = .fn f ∧ x = args ∧ H = a.H then some (.ret r, a.H) else none) (a := ⟨only ops o a.T, a.H, a.D⟩) hf ?_ ?_, hq⟩
            · intro c x H out H' hh
              simp only at hh
              split at hh
              · rename_i hcond
                obtain ⟨rfl, rfl, rfl⟩ := hcond
                cases hh
                exact PureFn.sh hl hp
              · cases hh
            · simp [stepA, e1, hg, e2, hc]
          · exact h.elim
        · exact h.elim
      · exact h.elim
    · rename_i hc
      split at h
      · exact h.elim
      · rename_i hpn
        split at h
        · rename_i v H' hev
          obtain ⟨rfl, h⟩ := h
          refine ⟨v, rs, stepR_of (call := fun _ _ _ => none) (a := ⟨only ops o a.T, a.H, a.D⟩) hf (fun _ _ _ _ _ h => by cases h) ?_, h⟩
          simp [stepA, e1, hg, e2, hc, hpn, e3, hev]
        · exact h.elim

theorem EDg_trace {P : Program} {n m : Nat} {R : Option Nat} {ops : Array Oper} (hf : fits n ops = true) {Q' : St → Prop} : ∀ {l : List Oper} {rs : List CR} {a : St}, EDg P ops Q' rs l a →
    ∃ (v : Nat → AV) (T : Nat → List (Nat × AV)), T 0 = a.T ∧ Q' ⟨T l.length, a.H, a.D⟩ ∧ ∀ (i : Nat) (o : Oper), l[i]? = some o →
      T (i + 1) = (match o.dst with | none => T i | some d => (d, v i) :: T i) ∧ StepR P n m R ops o ⟨only ops o (T i), a.H, a.D⟩ (.val (v i) a.H) := by
  intro l
  induction l with
  | nil => intro rs a h; exact ⟨fun _ => .junk, fun _ => a.T, rfl, h, by simp⟩
  | cons o l ih =>
    intro rs a h
    obtain ⟨v0, rs', h1, h2⟩ := EDg_step (R := R) (m := m) (n := n) hf h
    obtain ⟨v, T, g1, g2, g3⟩ := ih h2
    have hH : (a.put o.dst v0).H = a.H := by cases o.dst <;> rfl
    have hD : (a.put o.dst v0).D = a.D := by cases o.dst <;> rfl
    rw [hH, hD] at g2
    refine ⟨fun i => match i with | 0 => v0 | i + 1 => v i, fun i => match i with | 0 => a.T | i + 1 => T i, rfl, g2, ?_⟩
    intro i o' hi
    cases i with
    | zero =>
      simp at hi; subst hi
      refine ⟨?_, h1⟩
      show T 0 = _
      rw [g1]; cases o.dst <;> rfl
    | succ i =>
      have := g3 i o' (by simpa using hi)
      rw [hH, hD] at this
      exact this

section
variable {P:Program} {n m:Nat} {R:Option Nat} {a:St} {Q:Ex→St→Prop} {ops:Array Oper}
open Classical in
theorem W.drawS {id : Nat} {pre post : List Oper} {ow : Oper} {r : AV} {H' : List OB} (rs1 rs2 : List CR) (hm : P.follows .mixedOrders = true) (hf : fits n ops = true)
    (hsp : ops.toList = pre ++ ow :: post)
    (hst : drawStatic ops (mkTab ops.toList []) = true) (hone : oneStatic ops (mkTab ops.toList []) pre.length = true)
    (h : EDg P ops (fun a1 => gdA ops a1 ow.guard = some true ∧ callOf a1 ow.op = none ∧ isPanic ow.op = none ∧ evalOp P ow.op a1 = some (r, H') ∧ EDg P ops (Q .normal) rs2 post ({ a1 with H := H' }.put ow.dst r)) rs1 pre a) :
    W P n m R (.region id ops true) Q a := by
  obtain ⟨v1, T1, g0, ⟨hg, hc, hpn, hev, h2⟩, ht1⟩ := EDg_trace (R := R) (m := m) (n := n) hf h
  simp only at hg hc hev h2
  obtain ⟨v2, T2, k0, hq, ht2⟩ := EDg_trace (R := R) (m := m) (n := n) hf h2
  have hput : ({ ({ T := T1 pre.length, H := a.H, D := a.D } : St) with H := H' }.put ow.dst r) = ⟨(match ow.dst with | none => T1 pre.length | some d => (d, r) :: T1 pre.length), H', a.D⟩ := by cases ow.dst <;> rfl
  rw [hput] at k0 hq ht2
  simp only at k0 hq ht2
  have hsize : ops.size = pre.length + 1 + post.length := by rw [← Array.length_toList, hsp]; simp; omega
  have hget : ∀ i, ops[i]? = (pre ++ ow :: post)[i]? := fun i => by rw [← hsp, Array.getElem?_toList]
  have hw : StepR P n m R ops ow ⟨only ops ow (T1 pre.length), a.H, a.D⟩ (.val r H') := by
    refine stepA_ok (call := fun _ _ _ => none) (fun _ _ _ _ _ h => by cases h) hf ?_
    have e1 : gdA ops ⟨only ops ow (T1 pre.length), a.H, a.D⟩ ow.guard = some true := by
      rw [only_gd (a := ⟨T1 pre.length, a.H, a.D⟩)]; exact hg
    have e2 : callOf ⟨only ops ow (T1 pre.length), a.H, a.D⟩ ow.op = none := by
      exact (callOf_congr (a := ⟨only ops ow (T1 pre.length), a.H, a.D⟩) (b := ⟨T1 pre.length, a.H, a.D⟩) ow.op (fun x hx => only_ev (ops := ops) (o := ow) (a := ⟨T1 pre.length, a.H, a.D⟩) hx)).trans hc
    have e3 : evalOp P ow.op ⟨only ops ow (T1 pre.length), a.H, a.D⟩ = some (r, H') := by
      exact (evalOp_congr (a := ⟨only ops ow (T1 pre.length), a.H, a.D⟩) (b := ⟨T1 pre.length, a.H, a.D⟩) rfl ow.op (fun x hx => only_ev (ops := ops) (o := ow) (a := ⟨T1 pre.length, a.H, a.D⟩) hx)).trans hev
    simp [stepA, e1, e2, hpn, e3]
  have hstI : ∀ (i : Nat) (o : Oper), ops[i]? = some o → (o.after.toList.all (fun e => !Region.binds .any e || decide (e.on < i)) && (mkTab ops.toList []).getD i 0 == maskOf (mkTab ops.toList []) o &&
      (o.looksAt ops).all (fun t => (List.range ops.size).all fun j => match ops[j]? with | some o' => !dstB o' t || ((mkTab ops.toList []).getD i 0).testBit j | none => true) &&
      (match o.dst with | none => true | some d => (List.range ops.size).all fun j => j == i || match ops[j]? with | some o' => !dstB o' d | none => true)) = true := by
    intro i o ho
    have := all_range hst i (Array.getElem?_eq_some_iff.1 ho).1
    rw [ho] at this
    exact this
  have hbef : ∀ i, i < pre.length → ((mkTab ops.toList []).getD pre.length 0).testBit i = true := by
    intro i hi
    have := all_range hone i (by omega)
    simp only [Bool.or_eq_true, Bool.and_eq_true, decide_eq_true_eq] at this
    rcases this with (h | h) | h
    · omega
    · exact h.2
    · omega
  have hbeh : ∀ i, pre.length < i → i < ops.size → ((mkTab ops.toList []).getD i 0).testBit pre.length = true := by
    intro i hi hs
    have := all_range hone i hs
    simp only [Bool.or_eq_true, Bool.and_eq_true, decide_eq_true_eq] at this
    rcases this with (h | h) | h
    · omega
    · omega
    · exact h.2
  have hcases : ∀ i o, ops[i]? = some o → (i < pre.length ∧ pre[i]? = some o) ∨ (i = pre.length ∧ o = ow) ∨ (∃ j, i = pre.length + 1 + j ∧ post[j]? = some o) := by
    intro i o ho
    rw [hget] at ho
    rcases Nat.lt_trichotomy i pre.length with h | h | h
    · exact .inl ⟨h, by rwa [List.getElem?_append_left h] at ho⟩
    · subst h
      rw [List.getElem?_append_right (Nat.le_refl _), Nat.sub_self] at ho
      simp at ho
      exact .inr (.inl ⟨rfl, ho.symm⟩)
    · obtain ⟨j, rfl⟩ : ∃ j, i = pre.length + 1 + j := ⟨i - pre.length - 1, by omega⟩
      rw [List.getElem?_append_right (by omega), show pre.length + 1 + j - pre.length = j + 1 by omega] at ho
      exact .inr (.inr ⟨j, rfl, by simpa using ho⟩)
  obtain ⟨v, hv⟩ : ∃ v : Nat → AV, v = fun i => if i < pre.length then v1 i else if i = pre.length then r else v2 (i - pre.length - 1) := ⟨_, rfl⟩
  obtain ⟨T, hT⟩ : ∃ T : Nat → List (Nat × AV), T = fun i => if i ≤ pre.length then T1 i else T2 (i - pre.length - 1) := ⟨_, rfl⟩
  obtain ⟨Hk, hHk⟩ : ∃ Hk : Nat → List OB, Hk = fun k => if k = 0 then a.H else H' := ⟨_, rfl⟩
  have step : ∀ i o, ops[i]? = some o → T (i + 1) = (match o.dst with | none => T i | some d => (d, v i) :: T i) ∧ ∀ k, (i < pre.length → k = 0) → (i = pre.length → k = 0) → (pre.length < i → k = 1) →
      StepR P n m R ops o ⟨only ops o (T i), Hk k, a.D⟩ (.val (v i) (Hk (k + (if (i == pre.length) = true then 1 else 0)))) := by
    intro i o ho
    rcases hcases i o ho with ⟨hi, hp⟩ | ⟨rfl, rfl⟩ | ⟨j, rfl, hp⟩
    · obtain ⟨q1, q2⟩ := ht1 i o hp
      have e1 : T i = T1 i := by rw [hT]; simp only; rw [if_pos (by omega)]
      have e2 : T (i + 1) = T1 (i + 1) := by rw [hT]; simp only; rw [if_pos (by omega)]
      have e3 : v i = v1 i := by rw [hv]; simp only; rw [if_pos hi]
      have e4 : (i == pre.length) = false := by simpa using (show i ≠ pre.length by omega)
      refine ⟨by rw [e1, e2, e3]; exact q1, fun k hk _ _ => ?_⟩
      rw [hk hi, e1, e3, e4, hHk]
      exact q2
    · have e1 : T pre.length = T1 pre.length := by rw [hT]; simp only; rw [if_pos (Nat.le_refl _)]
      have e2 : T (pre.length + 1) = T2 0 := by rw [hT]; simp only; rw [if_neg (by omega)]; congr 1; omega
      have e3 : v pre.length = r := by rw [hv]; simp
      refine ⟨by rw [e1, e2, e3, k0], fun k _ hk _ => ?_⟩
      rw [hk rfl, e1, e3, hHk]
      simp only [beq_self_eq_true, if_true]
      exact hw
    · obtain ⟨q1, q2⟩ := ht2 j o hp
      have e1 : T (pre.length + 1 + j) = T2 j := by rw [hT]; simp only; rw [if_neg (by omega)]; congr 1; omega
      have e2 : T (pre.length + 1 + j + 1) = T2 (j + 1) := by rw [hT]; simp only; rw [if_neg (by omega)]; congr 1; omega
      have e3 : v (pre.length + 1 + j) = v2 j := by rw [hv]; simp only; rw [if_neg (by omega), if_neg (by omega)]; congr 1; omega
      have e4 : (pre.length + 1 + j == pre.length) = false := by simpa using (show pre.length + 1 + j ≠ pre.length by omega)
      refine ⟨by rw [e1, e2, e3]; exact q1, fun k _ _ hk => ?_⟩
      rw [hk (by omega), e1, e3, e4, hHk]
      exact q2
  have hin : pre.length < ops.size := by omega
  refine W.drawF (af := a) v T Hk (fun i => i == pre.length) (fun i j => ((mkTab ops.toList []).getD i 0).testBit j) hm hf (by rw [hT]; simp only; rw [if_pos (Nat.zero_le _)]; exact g0) (fun i o ho => (step i o ho).1) (by rw [hHk]; rfl) ?_ ?_ ?_ ?_ ?_ ?_
  · intro i o e ho he hb
    have := hstI i o ho
    simp only [Bool.and_eq_true] at this
    have h1 := List.all_eq_true.1 this.1.1.1 e (Array.mem_toList_iff.2 he)
    simpa [hb] using h1
  · intro i j o ho hj
    have := hstI i o ho
    simp only [Bool.and_eq_true, beq_iff_eq] at this
    have h1 := this.1.1.2
    simp only [h1] at hj
    unfold maskOf at hj
    rcases foldl_or _ _ _ _ hj with h2 | ⟨e, he, hb, hje⟩
    · simp at h2
    · exact ⟨e, Array.mem_toList_iff.1 he, hb, hje⟩
  · intro i o t j o' ho ht ho' hd
    have := hstI i o ho
    simp only [Bool.and_eq_true] at this
    have h1 := all_range (List.all_eq_true.1 this.1.2 t ht) j (Array.getElem?_eq_some_iff.1 ho').1
    rw [ho'] at h1
    simpa [dstB, hd] using h1
  · intro i j o o' d ho ho' hd hd'
    have := hstI i o ho
    simp only [Bool.and_eq_true, hd] at this
    have h1 := all_range this.2 j (Array.getElem?_eq_some_iff.1 ho').1
    rw [ho'] at h1
    have : j = i := by simpa [dstB, hd'] using h1
    exact this.symm
  · intro i o k ho hlo hup
    have hi : i < ops.size := (Array.getElem?_eq_some_iff.1 ho).1
    have hup' : k ≤ if pre.length < ops.size ∧ (!((mkTab ops.toList []).getD pre.length 0).testBit i && !(pre.length == i)) = true then 1 else 0 := by
      rw [← cnt_one (p := pre.length) (q := fun j => !((mkTab ops.toList []).getD j 0).testBit i && !(j == i))]
      refine Nat.le_trans hup (cnt_le fun j _ hj => ?_)
      simp only [Bool.and_eq_true] at hj ⊢
      exact ⟨hj.1.1, hj.1.2, hj.2⟩
    have hlo' : (if pre.length < ops.size ∧ ((mkTab ops.toList []).getD i 0).testBit pre.length = true then 1 else 0) ≤ k := by
      rw [← cnt_one (p := pre.length) (q := fun j => ((mkTab ops.toList []).getD i 0).testBit j)]
      exact hlo
    refine (step i o ho).2 k ?_ ?_ ?_
    · intro h
      rw [if_neg (by rw [hbef i h]; simp)] at hup'
      omega
    · intro h
      rw [if_neg (by simp [h])] at hup'
      omega
    · intro h
      rw [if_pos ⟨hin, hbeh i h hi⟩] at hlo'
      split at hup' <;> omega
  · have hc1 : cnt ops.size (fun i => i == pre.length) = 1 := by
      have := cnt_one (p := pre.length) (q := fun _ => true) ops.size
      simp only [Bool.and_true, and_true] at this
      rw [this, if_pos hin]
    rw [hc1, hHk, hT]
    simp only
    rw [if_neg (by omega), if_neg (by omega), show ops.size - pre.length - 1 = post.length by omega]
    exact hq
theorem W.drawG {id : Nat} (rs : List CR) (hm : P.follows .mixedOrders = true) (hf : fits n ops = true) (hst : drawStatic ops (mkTab ops.toList []) = true) (h : EDg P ops (Q .normal) rs ops.toList a) : W P n m R (.region id ops true) Q a := by
  obtain ⟨v, T, h0, hq, ht⟩ := EDg_trace (R := R) (m := m) (n := n) hf h
  have hstI : ∀ (i : Nat) (o : Oper), ops[i]? = some o → (o.after.toList.all (fun e => !Region.binds .any e || decide (e.on < i)) && (mkTab ops.toList []).getD i 0 == maskOf (mkTab ops.toList []) o &&
      (o.looksAt ops).all (fun t => (List.range ops.size).all fun j => match ops[j]? with | some o' => !dstB o' t || ((mkTab ops.toList []).getD i 0).testBit j | none => true) &&
      (match o.dst with | none => true | some d => (List.range ops.size).all fun j => j == i || match ops[j]? with | some o' => !dstB o' d | none => true)) = true := by
    intro i o ho
    have := all_range hst i (Array.getElem?_eq_some_iff.1 ho).1
    rw [ho] at this
    exact this
  have ht' : ∀ (i : Nat) (o : Oper), ops[i]? = some o → _ := fun i o ho => ht i o (by rw [Array.getElem?_toList]; exact ho)
  refine W.drawF (af := a) v T (fun _ => a.H) (fun _ => false) (fun i j => ((mkTab ops.toList []).getD i 0).testBit j) hm hf h0 (fun i o ho => (ht' i o ho).1) rfl ?_ ?_ ?_ ?_ ?_ ?_
  · intro i o e ho he hb
    have := hstI i o ho
    simp only [Bool.and_eq_true] at this
    have h1 := List.all_eq_true.1 this.1.1.1 e (Array.mem_toList_iff.2 he)
    simpa [hb] using h1
  · intro i j o ho hj
    have := hstI i o ho
    simp only [Bool.and_eq_true, beq_iff_eq] at this
    have h1 := this.1.1.2
    simp only [h1] at hj
    unfold maskOf at hj
    rcases foldl_or _ _ _ _ hj with h2 | ⟨e, he, hb, hje⟩
    · simp at h2
    · exact ⟨e, Array.mem_toList_iff.1 he, hb, hje⟩
  · intro i o t j o' ho ht ho' hd
    have := hstI i o ho
    simp only [Bool.and_eq_true] at this
    have h1 := all_range (List.all_eq_true.1 this.1.2 t ht) j (Array.getElem?_eq_some_iff.1 ho').1
    rw [ho'] at h1
    simpa [dstB, hd] using h1
  · intro i j o o' d ho ho' hd hd'
    have := hstI i o ho
    simp only [Bool.and_eq_true, hd] at this
    have h1 := all_range this.2 j (Array.getElem?_eq_some_iff.1 ho').1
    rw [ho'] at h1
    have : j = i := by simpa [dstB, hd'] using h1
    exact this.symm
  · intro i o k ho _ _
    exact (ht' i o ho).2
  · rw [← Array.length_toList]; exact hq
end
end Go.Av
