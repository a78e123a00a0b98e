/- Drawn regions, checked in the order of the text; a run of code over abstract values that are known: under the conditions named; a text without a program. -/
import Derived.Test.YtmeijkidjifagaaAvP
namespace Go.Av
open Go.RowKit (Below)
set_option linter.unusedVariables false

/-! ### Equal values -/

mutual
def eqA : AV → AV → Bool
  | .junk, .junk => true
  | .bool a, .bool b => a == b
  | .int k n, .int l m => decide (k = l) && decide (n = m)
  | .str a, .str b => a == b
  | .nilptr, .nilptr => true
  | .ptr a b, .ptr c d => a == c && b == d
  | .vptr a, .vptr b => eqAs a b
  | .sl a b c d, .sl e f g h => a == e && b == f && c == g && d == h
  | .vsl a b c, .vsl d e f => a == d && b == e && eqAs c f
  | .nilmap, .nilmap => true
  | .map a, .map b => a == b
  | .vmap a b, .vmap c d => eqAs a c && eqAs b d
  | .nilfunc, .nilfunc => true
  | .iface t v, .iface u x => decide (t = u) && eqA v x
  | .nilif, .nilif => true
  | .agg a, .agg b => eqAs a b
  | .tup a, .tup b => eqAs a b
  | .yld a, .yld b => a == b
  | _, _ => false
def eqAs : List AV → List AV → Bool
  | [], [] => true
  | a :: l, b :: m => eqA a b && eqAs l m
  | _, _ => false
end

mutual
theorem eqA_eq : ∀ {a b : AV}, eqA a b = true → a = b
  | .junk, b, h => by cases b <;> simp_all [eqA]
  | .bool _, b, h => by cases b <;> simp_all [eqA]
  | .int _ _, b, h => by cases b <;> simp_all [eqA]
  | .str _, b, h => by cases b <;> simp_all [eqA]
  | .nilptr, b, h => by cases b <;> simp_all [eqA]
  | .ptr _ _, b, h => by cases b <;> simp_all [eqA]
  | .vptr l, b, h => by cases b <;> simp [eqA] at h ⊢; exact eqAs_eq h
  | .sl _ _ _ _, b, h => by cases b <;> simp_all [eqA]
  | .vsl _ _ l, b, h => by cases b <;> simp [eqA] at h ⊢; exact ⟨h.1.1, h.1.2, eqAs_eq h.2⟩
  | .nilmap, b, h => by cases b <;> simp_all [eqA]
  | .map _, b, h => by cases b <;> simp_all [eqA]
  | .vmap l m, b, h => by cases b <;> simp [eqA] at h ⊢; exact ⟨eqAs_eq h.1, eqAs_eq h.2⟩
  | .func _ _ _, b, h => by cases b <;> simp_all [eqA]
  | .nilfunc, b, h => by cases b <;> simp_all [eqA]
  | .iface _ v, b, h => by cases b <;> simp [eqA] at h ⊢; exact ⟨h.1, eqA_eq h.2⟩
  | .nilif, b, h => by cases b <;> simp_all [eqA]
  | .agg l, b, h => by cases b <;> simp [eqA] at h ⊢; exact eqAs_eq h
  | .tup l, b, h => by cases b <;> simp [eqA] at h ⊢; exact eqAs_eq h
  | .yld _, b, h => by cases b <;> simp_all [eqA]
theorem eqAs_eq : ∀ {a b : List AV}, eqAs a b = true → a = b
  | [], b, h => by cases b <;> simp_all [eqAs]
  | x :: l, b, h => by
    cases b with
    | nil => simp [eqAs] at h
    | cons y m => simp only [eqAs, Bool.and_eq_true] at h; rw [eqA_eq h.1, eqAs_eq h.2]
end

/-! ### Who leaves memory as it was -/

def isRd (o : Op) : Bool :=
  match o with
  | .move _ | .assign _ | .pick _ _ _ | .build _ _ | .buildSlice _ _ _ | .load _ _ | .nilCheck _ | .binOp _ _ _ _ _ | .unOp _ _ _ | .makeInterface _ _ | .makeFunc _ _ _ | .slice _ _ _ _ _
  | .fieldAddr _ _ _ | .field _ _ _ | .indexAddr _ _ _ | .index _ _ _ | .lookup _ _ _ _ | .extract _ _ => true
  | .call c => match c.callee with
    | .builtin .len | .builtin .cap | .builtin .max | .builtin .min => true
    | _ => false
  | _ => false

theorem evalOp_rd {P : Program} {o : Op} {a : St} {v : AV} {H' : List OB} (hr : isRd o = true) (h : evalOp P o a = some (v, H')) : H' = a.H := by
  cases o <;> simp only [isRd] at hr <;> first | (cases hr; done) | skip
  case call c =>
    obtain ⟨cl, args, ts⟩ := c
    cases cl with
    | value f => cases hr
    | invoke r m => cases hr
    | builtin b =>
      simp only [evalOp] at h
      split at h <;> first | (cases h; done) | (simp at hr; done) | skip
      all_goals
        rw [Option.map_eq_some_iff] at h
        obtain ⟨_, _, h⟩ := h
        cases h; rfl
  all_goals
    simp only [evalOp] at h
    first
      | (cases h; rfl)
      | (rw [Option.map_eq_some_iff] at h; obtain ⟨_, _, h⟩ := h; cases h; rfl)
      | (split at h <;> first | (cases h; done) | (cases h; rfl) | (rw [Option.map_eq_some_iff] at h; obtain ⟨_, _, h⟩ := h; cases h; rfl) |
          (split at h <;> first | (cases h; done) | (cases h; rfl) | (rw [Option.map_eq_some_iff] at h; obtain ⟨_, _, h⟩ := h; cases h; rfl)))

def rdAt (pm : FuncId → Bool) (a : St) (o : Oper) : Bool :=
  isRd o.op || match callOf a o.op with
    | some (.fn f, _) => pm f
    | _ => false

theorem rdAt_H (pm : FuncId → Bool) (a : St) (H : List OB) (o : Oper) : rdAt pm { a with H := H } o = rdAt pm a o := rfl

theorem callOf_isRd {a : St} {o : Op} (h : isRd o = true) : callOf a o = none := by
  cases o <;> simp only [isRd] at h <;> first | rfl | (cases h; done) | skip
  rename_i c
  obtain ⟨cl, args, ts⟩ := c
  cases cl with
  | value f => cases h
  | invoke r m => rfl
  | builtin b => rfl

/-- Calls of these leave memory as it was. -/
def PureMode (pm : FuncId → Bool) (call : Cl → List AV → List OB → Option (Out × List OB)) : Prop :=
  ∀ f args H out H', pm f = true → call (.fn f) args H = some (out, H') → H' = H

theorem stepA_rd {P : Program} {call : Cl → List AV → List OB → Option (Out × List OB)} {pm : FuncId → Bool} (hpm : PureMode pm call) {ops : Array Oper} {a : St} {o : Oper} {v : AV} {H' : List OB} (hr : rdAt pm a o = true)
    (h : stepA P call ops a o = some (.val v H')) : H' = a.H := by
  unfold stepA at h
  split at h
  · cases h
  · cases h; rfl
  · split at h
    · rename_i f args hc
      have hcall : ∀ out H', call f args a.H = some (out, H') → H' = a.H := by
        intro out H1 h1
        unfold rdAt at hr
        simp only [Bool.or_eq_true] at hr
        rcases hr with hr | hr
        · rw [callOf_isRd hr] at hc; cases hc
        · rw [hc] at hr
          cases f with
          | fn f => exact hpm f args _ _ _ hr h1
          | yld id => cases hr
      split at h
      · cases h; exact hcall _ _ ‹_›
      · cases h
      · cases h
    · rename_i hno
      split at h
      · split at h <;> cases h
      · rw [Option.map_eq_some_iff] at h
        obtain ⟨⟨v1, H1⟩, h1, h2⟩ := h
        cases h2
        have hrd : isRd o.op = true := by
          unfold rdAt at hr
          rw [hno] at hr
          simpa using hr
        exact evalOp_rd hrd h1

/-! ### A region that draws, in the order of the text -/

def maskOf (tab : List Nat) (o : Oper) : Nat := o.after.toList.foldl (fun m e => if Region.binds .any e = true then m ||| (1 <<< e.on) ||| tab.getD e.on 0 else m) 0

def mkTab : List Oper → List Nat → List Nat
  | [], tab => tab
  | o :: l, tab => mkTab l (tab ++ [maskOf tab o])

def dstB (o : Oper) (t : Nat) : Bool := match o.dst with | some d => d == t | none => false

/-- What of a region does not hang on the run. -/
def drawStatic (ops : Array Oper) (tab : List Nat) : Bool :=
  (List.range ops.size).all fun i => match ops[i]? with
    | none => false
    | some o => o.after.toList.all (fun e => !Region.binds .any e || decide (e.on < i)) && tab.getD i 0 == maskOf tab o &&
      (o.looksAt ops).all (fun t => (List.range ops.size).all fun j => match ops[j]? with | some o' => !dstB o' t || (tab.getD i 0).testBit j | none => true) &&
      (match o.dst with | none => true | some d => (List.range ops.size).all fun j => j == i || match ops[j]? with | some o' => !dstB o' d | none => true)

def trA (P : Program) (call : Cl → List AV → List OB → Option (Out × List OB)) (ops : Array Oper) : List Oper → St → Option (List (St × AV × List OB) × St)
  | [], a => some ([], a)
  | o :: rest, a => match stepA P call ops ⟨only ops o a.T, a.H, a.D⟩ o with
    | some (.val v H') => match trA P call ops rest ({ a with H := H' }.put o.dst v) with
      | some (l, af) => some ((a, v, H') :: l, af)
      | none => none
    | _ => none

def stAt (tr : List (St × AV × List OB)) (af : St) (i : Nat) : St := match tr[i]? with | some e => e.1 | none => af
def hkAt (tr : List (St × AV × List OB)) (af : St) (wr : Nat → Bool) (N k : Nat) : List OB := match (List.range (N + 1)).find? (fun i => cnt i wr == k) with | some i => (stAt tr af i).H | none => []

def drawA (P : Program) (call : Cl → List AV → List OB → Option (Out × List OB)) (pm : FuncId → Bool) (ops : Array Oper) (a : St) : Option St :=
  let tab := mkTab ops.toList []
  if drawStatic ops tab = true then match trA P call ops ops.toList a with
    | some (tr, af) =>
      let wl := tr.zipWith (fun e o => !rdAt pm ⟨only ops o e.1.T, e.1.H, e.1.D⟩ o) ops.toList
      let wr := fun i => wl.getD i false
      let N := ops.size
      if ((List.range N).all fun i => match ops[i]?, tr[i]? with
        | some o, some e =>
          let lo := cnt N (fun j => wr j && (tab.getD i 0).testBit j)
          let hi := cnt N (fun j => wr j && !(tab.getD j 0).testBit i && !(j == i))
          let c := cnt i wr
          (List.range (hi + 1)).all fun k => decide (k < lo) || k == c || (!wr i && match stepA P call ops ⟨only ops o e.1.T, hkAt tr af wr N k, e.1.D⟩ o with
            | some (.val v _) => eqA v e.2.1
            | _ => false)
        | _, _ => false) = true then some af else none
    | none => none
  else none

section
variable {P : Program} {w0 : World} {F0 F F' : Nat → Nat → Prop} {μ μ' : Nat → Option Loc} {H H' : List OB} {w w' : World} {n m : Nat} {R : Option Nat} {a : St} {act : Act} {Q : Ex → St → Prop}
  {call : Cl → List AV → List OB → Option (Out × List OB)} {ops : Array Oper} {pm : FuncId → Bool}

theorem foldl_or (tab : List Nat) : ∀ (l : List Edge) (m j : Nat), (l.foldl (fun m e => if Region.binds .any e = true then m ||| (1 <<< e.on) ||| tab.getD e.on 0 else m) m).testBit j = true →
    m.testBit j = true ∨ ∃ e ∈ l, Region.binds .any e = true ∧ (j = e.on ∨ (tab.getD e.on 0).testBit j = true) := by
  intro l
  induction l with
  | nil => intro m j h; exact .inl h
  | cons e l ih =>
    intro m j h
    simp only [List.foldl_cons] at h
    rcases ih _ j h with h | ⟨e', he, hb, hj⟩
    · split at h
      · rename_i hb
        simp only [Nat.testBit_or, Bool.or_eq_true] at h
        rcases h with (h | h) | h
        · exact .inl h
        · refine .inr ⟨e, by simp, hb, .inl ?_⟩
          rw [Nat.shiftLeft_eq, Nat.one_mul, Nat.testBit_two_pow] at h
          simpa using (of_decide_eq_true h).symm
        · exact .inr ⟨e, by simp, hb, .inr h⟩
      · exact .inl h
    · exact .inr ⟨e', by simp [he], hb, hj⟩

theorem trA_spec : ∀ {l : List Oper} {a af : St} {tr : List (St × AV × List OB)}, trA P call ops l a = some (tr, af) → tr.length = l.length ∧ stAt tr af 0 = a ∧ stAt tr af l.length = af ∧
    ∀ (i : Nat) (o : Oper), l[i]? = some o → ∃ e, tr[i]? = some e ∧ stepA P call ops ⟨only ops o e.1.T, e.1.H, e.1.D⟩ o = some (.val e.2.1 e.2.2) ∧ e.1.D = a.D ∧ stAt tr af (i + 1) = { e.1 with H := e.2.2 }.put o.dst e.2.1 := by
  intro l
  induction l with
  | nil => intro a af tr h; simp only [trA, Option.some.injEq, Prod.mk.injEq] at h; obtain ⟨rfl, rfl⟩ := h; exact ⟨rfl, rfl, rfl, by simp⟩
  | cons o l ih =>
    intro a af tr h
    simp only [trA] at h
    split at h
    · rename_i v H' hs
      split at h
      · rename_i tr' af' htr
        simp only [Option.some.injEq, Prod.mk.injEq] at h
        obtain ⟨rfl, rfl⟩ := h
        obtain ⟨h1, h2, h3, h4⟩ := ih htr
        refine ⟨by simp [h1], rfl, ?_, ?_⟩
        · rw [List.length_cons]; exact h3
        · intro i o' hi
          cases i with
          | zero =>
            simp at hi; subst hi
            exact ⟨_, rfl, hs, rfl, h2⟩
          | succ i =>
            obtain ⟨e, g1, g2, g3, g4⟩ := h4 i o' (by simpa using hi)
            refine ⟨e, by simpa using g1, g2, ?_, g4⟩
            rw [g3]; cases o.dst <;> rfl
      · cases h
    · cases h

theorem cnt_mono {p : Nat → Bool} {i j : Nat} (h : i ≤ j) : cnt i p ≤ cnt j p := by
  induction j with
  | zero => have : i = 0 := by omega
            subst this; exact Nat.le_refl _
  | succ j ih =>
    by_cases e : i = j + 1
    · subst e; exact Nat.le_refl _
    · have := ih (by omega); simp only [cnt]; omega

theorem cnt_flat {p : Nat → Bool} {i j k : Nat} (hij : i ≤ k) (hk : k < j) (h : cnt i p = cnt j p) : p k = false := by
  have h1 := cnt_mono (p := p) hij
  have h2 := cnt_mono (p := p) (show k + 1 ≤ j from hk)
  simp only [cnt] at h2
  cases hp : p k with
  | false => rfl
  | true => rw [hp] at h2; simp at h2; omega

theorem all_range {k : Nat} {p : Nat → Bool} (h : (List.range k).all p = true) (i : Nat) (hi : i < k) : p i = true := List.all_eq_true.1 h i (List.mem_range.2 hi)

theorem drawA_ok {id : Nat} {af : St} (hm : P.follows .mixedOrders = true) (hcall : CallsRight P call) (hpm : PureMode pm call) (hf : fits n ops = true) (h : drawA P call pm ops a = some af) (hq : Q .normal af) :
    W P n m R (.region id ops true) Q a := by
  unfold drawA at h
  simp only at h
  split at h
  case isFalse => cases h
  rename_i hst
  split at h
  case h_2 => cases h
  rename_i tr af' htr
  split at h
  case isFalse => cases h
  rename_i hdy
  cases h
  obtain ⟨hlen, hS0, hSN, hspec⟩ := trA_spec htr
  rw [Array.length_toList] at hlen hSN
  let tab := mkTab ops.toList []
  let wl := tr.zipWith (fun e o => !rdAt pm ⟨only ops o e.1.T, e.1.H, e.1.D⟩ o) ops.toList
  let wr : Nat → Bool := fun i => wl.getD i false
  have hspec' : ∀ (i : Nat) (o : Oper), ops[i]? = some o → ∃ e, tr[i]? = some e ∧ stepA P call ops ⟨only ops o e.1.T, e.1.H, e.1.D⟩ o = some (.val e.2.1 e.2.2) ∧ e.1.D = a.D ∧ stAt tr af (i + 1) = { e.1 with H := e.2.2 }.put o.dst e.2.1 :=
    fun i o ho => hspec i o (by rw [Array.getElem?_toList]; exact ho)
  have hwr : ∀ (i : Nat) (o : Oper) e, ops[i]? = some o → tr[i]? = some e → wr i = !rdAt pm ⟨only ops o e.1.T, e.1.H, e.1.D⟩ o := by
    intro i o e ho he
    show (List.zipWith _ tr ops.toList).getD i false = _
    rw [List.getD_eq_getElem?_getD, List.getElem?_zipWith, he, Array.getElem?_toList, ho]; rfl
  have hstI : ∀ (i : Nat) (o : Oper), ops[i]? = some o → (o.after.toList.all (fun e => !Region.binds .any e || decide (e.on < i)) && tab.getD i 0 == maskOf tab o &&
      (o.looksAt ops).all (fun t => (List.range ops.size).all fun j => match ops[j]? with | some o' => !dstB o' t || (tab.getD i 0).testBit j | none => true) &&
      (match o.dst with | none => true | some d => (List.range ops.size).all fun j => j == i || match ops[j]? with | some o' => !dstB o' d | none => true)) = true := by
    intro i o ho
    have := all_range hst i (Array.getElem?_eq_some_iff.1 ho).1
    rw [ho] at this
    exact this
  have hstA : ∀ i, i < ops.size → stAt tr af i = (match tr[i]? with | some e => e.1 | none => af) := fun i _ => rfl
  have hHk : ∀ i, i ≤ ops.size → (stAt tr af i).H = hkAt tr af wr ops.size (cnt i wr) := by
    have hflat : ∀ i j, i ≤ j → j ≤ ops.size → cnt i wr = cnt j wr → (stAt tr af i).H = (stAt tr af j).H := by
      intro i j hij
      induction j with
      | zero => intro _ _; have : i = 0 := by omega
                subst this; rfl
      | succ j ih =>
        intro hj hc
        by_cases e : i = j + 1
        · subst e; rfl
        · have hc' : cnt i wr = cnt j wr := by
            have h1 := cnt_mono (p := wr) (show i ≤ j by omega)
            have h2 := cnt_mono (p := wr) (show j ≤ j + 1 by omega)
            omega
          rw [ih (by omega) (by omega) hc']
          have ho : ops[j]? = some ops[j] := Array.getElem?_eq_getElem (by omega)
          obtain ⟨e', g1, g2, g3, g4⟩ := hspec' j _ ho
          have hw := cnt_flat (p := wr) (show i ≤ j by omega) (show j < j + 1 by omega) hc
          rw [hwr j _ e' ho g1] at hw
          have hrd := stepA_rd hpm (by simpa using hw) g2
          rw [g4]
          have : stAt tr af j = e'.1 := by simp only [stAt, g1]
          rw [this]
          cases (ops[j]).dst <;> exact hrd.symm
    intro i hi
    unfold hkAt
    cases hfd : (List.range (ops.size + 1)).find? (fun i' => cnt i' wr == cnt i wr) with
    | none =>
      rw [List.find?_eq_none] at hfd
      have := hfd i (by simp; omega)
      simp at this
    | some i0 =>
      have h1 := List.find?_some hfd
      have h2 := List.mem_of_find?_eq_some hfd
      simp only [List.mem_range] at h2
      simp only [beq_iff_eq] at h1
      simp only
      by_cases hle : i0 ≤ i
      · exact (hflat i0 i hle hi h1).symm
      · exact hflat i i0 (by omega) (by omega) h1.symm
  have hgoal := W.drawF (P := P) (m := m) (R := R) (Q := Q) (a := a) (ops := ops) (id := id) (af := af) (fun i => match tr[i]? with | some e => e.2.1 | none => .junk) (fun i => (stAt tr af i).T) (hkAt tr af wr ops.size) wr
    (fun i j => (tab.getD i 0).testBit j) hm hf ?_ ?_ ?_ ?_ ?_ ?_ ?_ ?_ ?_
  · exact hgoal
  · rw [hS0]
  · intro i o ho
    obtain ⟨e, g1, g2, g3, g4⟩ := hspec' i o ho
    rw [g4]
    have : stAt tr af i = e.1 := by simp only [stAt, g1]
    rw [this]
    simp only [g1]
    cases o.dst <;> rfl
  · have := hHk 0 (Nat.zero_le _)
    rw [hS0] at this
    exact this.symm
  · intro i o e ho he hb
    have := hstI i o ho
    simp only [Bool.and_eq_true] at this
    have h1 := List.all_eq_true.1 this.1.1.1 e (Array.mem_toList_iff.2 he)
    simpa [hb] using h1
  · intro i j o ho hj
    have := hstI i o ho
    simp only [Bool.and_eq_true, beq_iff_eq] at this
    have h1 := this.1.1.2
    simp only [h1] at hj
    unfold maskOf at hj
    rcases foldl_or tab _ _ _ hj with h2 | ⟨e, he, hb, hje⟩
    · simp at h2
    · exact ⟨e, Array.mem_toList_iff.1 he, hb, hje⟩
  · intro i o t j o' ho ht ho' hd
    have := hstI i o ho
    simp only [Bool.and_eq_true] at this
    have h1 := all_range (List.all_eq_true.1 this.1.2 t ht) j (Array.getElem?_eq_some_iff.1 ho').1
    rw [ho'] at h1
    simpa [dstB, hd] using h1
  · intro i j o o' d ho ho' hd hd'
    have := hstI i o ho
    simp only [Bool.and_eq_true, hd] at this
    have h1 := all_range this.2 j (Array.getElem?_eq_some_iff.1 ho').1
    rw [ho'] at h1
    have : j = i := by simpa [dstB, hd'] using h1
    exact this.symm
  · intro i o k ho hlo hhi
    have his := (Array.getElem?_eq_some_iff.1 ho).1
    obtain ⟨e, g1, g2, g3, g4⟩ := hspec' i o ho
    have hsti : stAt tr af i = e.1 := by simp only [stAt, g1]
    have hc : wr i = !rdAt pm ⟨only ops o e.1.T, e.1.H, e.1.D⟩ o := hwr i o e ho g1
    have hd := all_range hdy i his
    simp only [ho, g1] at hd
    have hd' := all_range hd k (by
      have : cnt ops.size (fun j => wr j && !(tab.getD j 0).testBit i && !(j == i)) = cnt ops.size (fun j => (List.zipWith (fun e o => !rdAt pm ⟨only ops o e.1.T, e.1.H, e.1.D⟩ o) tr ops.toList).getD j false && !((mkTab ops.toList []).getD j 0).testBit i && !(j == i)) := rfl
      omega)
    simp only [Bool.or_eq_true, decide_eq_true_eq, beq_iff_eq] at hd'
    simp only [g1, hsti]
    rcases hd' with (hlt | hk) | hre
    · exfalso
      have : cnt ops.size (fun j => wr j && (tab.getD i 0).testBit j) = cnt ops.size (fun j => (List.zipWith (fun e o => !rdAt pm ⟨only ops o e.1.T, e.1.H, e.1.D⟩ o) tr ops.toList).getD j false && ((mkTab ops.toList []).getD i 0).testBit j) := rfl
      omega
    · have hk' : k = cnt i wr := hk
      subst hk'
      have h1 := hHk i (by omega)
      have h2 := hHk (i + 1) (by omega)
      rw [hsti] at h1
      rw [g4] at h2
      simp only [cnt] at h2
      have h3 : hkAt tr af wr ops.size (cnt i wr + if wr i = true then 1 else 0) = e.2.2 := by
        rw [← h2]; cases o.dst <;> rfl
      rw [h3, ← h1, ← g3]
      exact stepA_ok hcall hf g2
    · simp only [Bool.and_eq_true, Bool.not_eq_true'] at hre
      obtain ⟨hw0, hre⟩ := hre
      have hw0' : wr i = false := hw0
      split at hre
      · rename_i v H1 hs1
        have hv := eqA_eq hre
        subst hv
        have hrd : rdAt pm ⟨only ops o e.1.T, hkAt tr af wr ops.size k, e.1.D⟩ o = true := by
          rw [hw0'] at hc
          have : rdAt pm ⟨only ops o e.1.T, e.1.H, e.1.D⟩ o = true := by simpa using hc.symm
          exact this
        have hH1 := stepA_rd hpm hrd hs1
        subst hH1
        rw [hw0']
        simp only [Bool.false_eq_true, if_false, Nat.add_zero]
        rw [← g3]
        exact stepA_ok hcall hf hs1
      · cases hre
  · have h1 := hHk ops.size (Nat.le_refl _)
    rw [hSN] at h1
    have hDf : af.D = a.D := by
      by_cases h0 : ops.size = 0
      · rw [h0] at hSN; rw [hS0] at hSN; rw [← hSN]
      · have ho : ops[ops.size - 1]? = some ops[ops.size - 1] := Array.getElem?_eq_getElem (by omega)
        obtain ⟨e, g1, g2, g3, g4⟩ := hspec' _ _ ho
        rw [show ops.size - 1 + 1 = ops.size from by omega, hSN] at g4
        rw [g4, ← g3]
        cases (ops[ops.size - 1]).dst <;> rfl
    simp only [hSN]
    rw [← h1, ← hDf]
    exact hq
end
end Go.Av
