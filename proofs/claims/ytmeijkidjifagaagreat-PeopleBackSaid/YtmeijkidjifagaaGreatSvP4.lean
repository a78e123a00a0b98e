/- A framework of abstract values: no program in sight; under the conditions named at each theorem. -/
import Derived.Test.YtmeijkidjifagaaGreatSvP3
import Derived.TacticsIn
namespace Go.Av
set_option linter.unusedVariables false
set_option linter.unusedSimpArgs false
open Go.RowKit (Below)

/-! ### Equal values -/

mutual
def eqA : AV → AV → Bool
  | .junk, .junk => true
  | .bool a, .bool b => a == b
  | .int k n, .int l m => decide (k = l) && decide (n = m)
  | .str a, .str b => a == b
  | .nilptr, .nilptr => true
  | .ptr a b, .ptr c d => a == c && b == d
  | .vptr a, .vptr b => eqAs a b
  | .sl a b c d, .sl e f g h => a == e && b == f && c == g && d == h
  | .vsl a b c, .vsl d e f => a == d && b == e && eqAs c f
  | .nilmap, .nilmap => true
  | .map a, .map b => a == b
  | .vmap a b, .vmap c d => eqAs a c && eqAs b d
  | .nilfunc, .nilfunc => true
  | .iface t v, .iface u x => decide (t = u) && eqA v x
  | .nilif, .nilif => true
  | .agg a, .agg b => eqAs a b
  | .tup a, .tup b => eqAs a b
  | .yld a, .yld b => a == b
  | _, _ => false
def eqAs : List AV → List AV → Bool
  | [], [] => true
  | a :: l, b :: m => eqA a b && eqAs l m
  | _, _ => false
end

mutual
theorem eqA_eq : ∀ {a b : AV}, eqA a b = true → a = b
  | .junk, b, h => by cases b <;> simp_all [eqA]
  | .bool _, b, h => by cases b <;> simp_all [eqA]
  | .int _ _, b, h => by cases b <;> simp_all [eqA]
  | .str _, b, h => by cases b <;> simp_all [eqA]
  | .nilptr, b, h => by cases b <;> simp_all [eqA]
  | .ptr _ _, b, h => by cases b <;> simp_all [eqA]
  | .vptr l, b, h => by cases b <;> simp [eqA] at h ⊢; exact eqAs_eq h
  | .sl _ _ _ _, b, h => by cases b <;> simp_all [eqA]
  | .vsl _ _ l, b, h => by cases b <;> simp [eqA] at h ⊢; exact ⟨h.1.1, h.1.2, eqAs_eq h.2⟩
  | .nilmap, b, h => by cases b <;> simp_all [eqA]
  | .map _, b, h => by cases b <;> simp_all [eqA]
  | .vmap l m, b, h => by cases b <;> simp [eqA] at h ⊢; exact ⟨eqAs_eq h.1, eqAs_eq h.2⟩
  | .func _ _ _, b, h => by cases b <;> simp_all [eqA]
  | .nilfunc, b, h => by cases b <;> simp_all [eqA]
  | .iface _ v, b, h => by cases b <;> simp [eqA] at h ⊢; exact ⟨h.1, eqA_eq h.2⟩
  | .nilif, b, h => by cases b <;> simp_all [eqA]
  | .agg l, b, h => by cases b <;> simp [eqA] at h ⊢; exact eqAs_eq h
  | .tup l, b, h => by cases b <;> simp [eqA] at h ⊢; exact eqAs_eq h
  | .yld _, b, h => by cases b <;> simp_all [eqA]
theorem eqAs_eq : ∀ {a b : List AV}, eqAs a b = true → a = b
  | [], b, h => by cases b <;> simp_all [eqAs]
  | x :: l, b, h => by
    cases b with
    | nil => simp [eqAs] at h
    | cons y m => simp only [eqAs, Bool.and_eq_true] at h; rw [eqA_eq h.1, eqAs_eq h.2]
end

/-! ### Who leaves memory as it was -/

def isRd (o : Op) : Bool :=
  match o with
  | .move _ | .assign _ | .pick _ _ _ | .build _ _ | .buildSlice _ _ _ | .load _ _ | .nilCheck _ | .binOp _ _ _ _ _ | .unOp _ _ _ | .makeInterface _ _ | .makeFunc _ _ _ | .slice _ _ _ _ _
  | .fieldAddr _ _ _ | .field _ _ _ | .indexAddr _ _ _ | .index _ _ _ | .lookup _ _ _ _ | .extract _ _ => true
  | .call c => match c.callee with
    | .builtin .len | .builtin .cap | .builtin .max | .builtin .min => true
    | _ => false
  | _ => false

theorem evalOp_rd {P : Program} {o : Op} {a : St} {v : AV} {H' : List OB} (hr : isRd o = true) (h : evalOp P o a = some (v, H')) : H' = a.H := by
  cases o <;> simp only [isRd] at hr <;> first | (cases hr; done) | skip
  case call c =>
    obtain ⟨cl, args, ts⟩ := c
    cases cl with
    | value f => cases hr
    | invoke r m => cases hr
    | builtin b =>
      simp only [evalOp] at h
      split at h <;> first | (cases h; done) | (simp at hr; done) | skip
      all_goals
        rw [Option.map_eq_some_iff] at h
        obtain ⟨_, _, h⟩ := h
        cases h; rfl
  all_goals
    simp only [evalOp] at h
    first
      | (cases h; rfl)
      | (rw [Option.map_eq_some_iff] at h; obtain ⟨_, _, h⟩ := h; cases h; rfl)
      | (split at h <;> first | (cases h; done) | (cases h; rfl) | (rw [Option.map_eq_some_iff] at h; obtain ⟨_, _, h⟩ := h; cases h; rfl) |
          (split at h <;> first | (cases h; done) | (cases h; rfl) | (rw [Option.map_eq_some_iff] at h; obtain ⟨_, _, h⟩ := h; cases h; rfl)))

def rdAt (pm : FuncId → Bool) (a : St) (o : Oper) : Bool :=
  isRd o.op || match callOf a o.op with
    | some (.fn f, _) => pm f
    | _ => false

theorem callOf_isRd {a : St} {o : Op} (h : isRd o = true) : callOf a o = none := by
  cases o <;> simp only [isRd] at h <;> first | rfl | (cases h; done) | skip
  rename_i c
  obtain ⟨cl, args, ts⟩ := c
  cases cl with
  | value f => cases h
  | invoke r m => rfl
  | builtin b => rfl

/-- Calls of these leave memory as it was. -/
def PureMode (pm : FuncId → Bool) (call : Cl → List AV → List OB → Option (Out × List OB)) : Prop :=
  ∀ f args H out H', pm f = true → call (.fn f) args H = some (out, H') → H' = H

theorem stepA_rd {P : Program} {call : Cl → List AV → List OB → Option (Out × List OB)} {pm : FuncId → Bool} (hpm : PureMode pm call) {ops : Array Oper} {a : St} {o : Oper} {v : AV} {H' : List OB} (hr : rdAt pm a o = true)
    (h : stepA P call ops a o = some (.val v H')) : H' = a.H := by
  unfold stepA at h
  split at h
  · cases h
  · cases h; rfl
  · split at h
    · rename_i f args hc
      have hcall : ∀ out H', call f args a.H = some (out, H') → H' = a.H := by
        intro out H1 h1
        unfold rdAt at hr
        simp only [Bool.or_eq_true] at hr
        rcases hr with hr | hr
        · rw [callOf_isRd hr] at hc; cases hc
        · rw [hc] at hr
          cases f with
          | fn f => exact hpm f args _ _ _ hr h1
          | yld id => cases hr
      split at h
      · cases h; exact hcall _ _ ‹_›
      · cases h
      · cases h
    · rename_i hno
      split at h
      · split at h <;> cases h
      · rw [Option.map_eq_some_iff] at h
        obtain ⟨⟨v1, H1⟩, h1, h2⟩ := h
        cases h2
        have hrd : isRd o.op = true := by
          unfold rdAt at hr
          rw [hno] at hr
          simpa using hr
        exact evalOp_rd hrd h1

/-! ### A region that draws, in the order of the text -/

def maskOf (tab : List Nat) (o : Oper) : Nat := o.after.toList.foldl (fun m e => if Region.binds .any e = true then m ||| (1 <<< e.on) ||| tab.getD e.on 0 else m) 0

def mkTab : List Oper → List Nat → List Nat
  | [], tab => tab
  | o :: l, tab => mkTab l (tab ++ [maskOf tab o])

def dstB (o : Oper) (t : Nat) : Bool := match o.dst with | some d => d == t | none => false

/-- What of a region does not hang on the run. -/
def drawStatic (ops : Array Oper) (tab : List Nat) : Bool :=
  (List.range ops.size).all fun i => match ops[i]? with
    | none => false
    | some o => o.after.toList.all (fun e => !Region.binds .any e || decide (e.on < i)) && tab.getD i 0 == maskOf tab o &&
      (o.looksAt ops).all (fun t => (List.range ops.size).all fun j => match ops[j]? with | some o' => !dstB o' t || (tab.getD i 0).testBit j | none => true) &&
      (match o.dst with | none => true | some d => (List.range ops.size).all fun j => j == i || match ops[j]? with | some o' => !dstB o' d | none => true)

def trA (P : Program) (call : Cl → List AV → List OB → Option (Out × List OB)) (ops : Array Oper) : List Oper → St → Option (List (St × AV × List OB) × St)
  | [], a => some ([], a)
  | o :: rest, a => match stepA P call ops ⟨only ops o a.T, a.H, a.D⟩ o with
    | some (.val v H') => match trA P call ops rest ({ a with H := H' }.put o.dst v) with
      | some (l, af) => some ((a, v, H') :: l, af)
      | none => none
    | _ => none

def stAt (tr : List (St × AV × List OB)) (af : St) (i : Nat) : St := match tr[i]? with | some e => e.1 | none => af
def hkAt (tr : List (St × AV × List OB)) (af : St) (wr : Nat → Bool) (N k : Nat) : List OB := match (List.range (N + 1)).find? (fun i => cnt i wr == k) with | some i => (stAt tr af i).H | none => []

def drawA (P : Program) (call : Cl → List AV → List OB → Option (Out × List OB)) (pm : FuncId → Bool) (ops : Array Oper) (a : St) : Option St :=
  let tab := mkTab ops.toList []
  if drawStatic ops tab = true then match trA P call ops ops.toList a with
    | some (tr, af) =>
      let wl := tr.zipWith (fun e o => !rdAt pm ⟨only ops o e.1.T, e.1.H, e.1.D⟩ o) ops.toList
      let wr := fun i => wl.getD i false
      let N := ops.size
      if ((List.range N).all fun i => match ops[i]?, tr[i]? with
        | some o, some e =>
          let lo := cnt N (fun j => wr j && (tab.getD i 0).testBit j)
          let hi := cnt N (fun j => wr j && !(tab.getD j 0).testBit i && !(j == i))
          let c := cnt i wr
          (List.range (hi + 1)).all fun k => decide (k < lo) || k == c || (!wr i && match stepA P call ops ⟨only ops o e.1.T, hkAt tr af wr N k, e.1.D⟩ o with
            | some (.val v _) => eqA v e.2.1
            | _ => false)
        | _, _ => false) = true then some af else none
    | none => none
  else none

section
variable {P : Program} {w0 : World} {F0 F F' : Nat → Nat → Prop} {μ μ' : Nat → Option Loc} {H H' : List OB} {w w' : World} {n m : Nat} {R : Option Nat} {a : St} {act : Act} {Q : Ex → St → Prop}
  {call : Cl → List AV → List OB → Option (Out × List OB)} {ops : Array Oper} {pm : FuncId → Bool}

theorem foldl_or (tab : List Nat) : ∀ (l : List Edge) (m j : Nat), (l.foldl (fun m e => if Region.binds .any e = true then m ||| (1 <<< e.on) ||| tab.getD e.on 0 else m) m).testBit j = true →
    m.testBit j = true ∨ ∃ e ∈ l, Region.binds .any e = true ∧ (j = e.on ∨ (tab.getD e.on 0).testBit j = true) := by
  intro l
  induction l with
  | nil => intro m j h; exact .inl h
  | cons e l ih =>
    intro m j h
    simp only [List.foldl_cons] at h
    rcases ih _ j h with h | ⟨e', he, hb, hj⟩
    · split at h
      · rename_i hb
        simp only [Nat.testBit_or, Bool.or_eq_true] at h
        rcases h with (h | h) | h
        · exact .inl h
        · refine .inr ⟨e, by simp, hb, .inl ?_⟩
          rw [Nat.shiftLeft_eq, Nat.one_mul, Nat.testBit_two_pow] at h
          simpa using (of_decide_eq_true h).symm
        · exact .inr ⟨e, by simp, hb, .inr h⟩
      · exact .inl h
    · exact .inr ⟨e', by simp [he], hb, hj⟩

theorem trA_spec : ∀ {l : List Oper} {a af : St} {tr : List (St × AV × List OB)}, trA P call ops l a = some (tr, af) → tr.length = l.length ∧ stAt tr af 0 = a ∧ stAt tr af l.length = af ∧
    ∀ (i : Nat) (o : Oper), l[i]? = some o → ∃ e, tr[i]? = some e ∧ stepA P call ops ⟨only ops o e.1.T, e.1.H, e.1.D⟩ o = some (.val e.2.1 e.2.2) ∧ e.1.D = a.D ∧ stAt tr af (i + 1) = { e.1 with H := e.2.2 }.put o.dst e.2.1 := by
  intro l
  induction l with
  | nil => intro a af tr h; simp only [trA, Option.some.injEq, Prod.mk.injEq] at h; obtain ⟨rfl, rfl⟩ := h; exact ⟨rfl, rfl, rfl, by simp⟩
  | cons o l ih =>
    intro a af tr h
    simp only [trA] at h
    split at h
    · rename_i v H' hs
      split at h
      · rename_i tr' af' htr
        simp only [Option.some.injEq, Prod.mk.injEq] at h
        obtain ⟨rfl, rfl⟩ := h
        obtain ⟨h1, h2, h3, h4⟩ := ih htr
        refine ⟨by simp [h1], rfl, ?_, ?_⟩
        · rw [List.length_cons]; exact h3
        · intro i o' hi
          cases i with
          | zero =>
            simp at hi; subst hi
            exact ⟨_, rfl, hs, rfl, h2⟩
          | succ i =>
            obtain ⟨e, g1, g2, g3, g4⟩ := h4 i o' (by simpa using hi)
            refine ⟨e, by simpa using g1, g2, ?_, g4⟩
            rw [g3]; cases o.dst <;> rfl
      · cases h
    · cases h

theorem cnt_mono {p : Nat → Bool} {i j : Nat} (h : i ≤ j) : cnt i p ≤ cnt j p := by
  induction j with
  | zero => have : i = 0 := by omega
            subst this; exact Nat.le_refl _
  | succ j ih =>
    by_cases e : i = j + 1
    · subst e; exact Nat.le_refl _
    · have := ih (by omega); simp only [cnt]; omega

theorem cnt_flat {p : Nat → Bool} {i j k : Nat} (hij : i ≤ k) (hk : k < j) (h : cnt i p = cnt j p) : p k = false := by
  have h1 := cnt_mono (p := p) hij
  have h2 := cnt_mono (p := p) (show k + 1 ≤ j from hk)
  simp only [cnt] at h2
  cases hp : p k with
  | false => rfl
  | true => rw [hp] at h2; simp at h2; omega

theorem all_range {k : Nat} {p : Nat → Bool} (h : (List.range k).all p = true) (i : Nat) (hi : i < k) : p i = true := List.all_eq_true.1 h i (List.mem_range.2 hi)

theorem drawA_ok {id : Nat} {af : St} (hm : P.follows .mixedOrders = true) (hcall : CallsRight P call) (hpm : PureMode pm call) (hf : fits n ops = true) (h : drawA P call pm ops a = some af) (hq : Q .normal af) :
    W P n m R (.region id ops true) Q a := by
  unfold drawA at h
  simp only at h
  split at h
  case isFalse => cases h
  rename_i hst
  split at h
  case h_2 => cases h
  rename_i tr af' htr
  split at h
  case isFalse => cases h
  rename_i hdy
  cases h
  obtain ⟨hlen, hS0, hSN, hspec⟩ := trA_spec htr
  rw [Array.length_toList] at hlen hSN
  let tab := mkTab ops.toList []
  let wl := tr.zipWith (fun e o => !rdAt pm ⟨only ops o e.1.T, e.1.H, e.1.D⟩ o) ops.toList
  let wr : Nat → Bool := fun i => wl.getD i false
  have hspec' : ∀ (i : Nat) (o : Oper), ops[i]? = some o → ∃ e, tr[i]? = some e ∧ stepA P call ops ⟨only ops o e.1.T, e.1.H, e.1.D⟩ o = some (.val e.2.1 e.2.2) ∧ e.1.D = a.D ∧ stAt tr af (i + 1) = { e.1 with H := e.2.2 }.put o.dst e.2.1 :=
    fun i o ho => hspec i o (by rw [Array.getElem?_toList]; exact ho)
  have hwr : ∀ (i : Nat) (o : Oper) e, ops[i]? = some o → tr[i]? = some e → wr i = !rdAt pm ⟨only ops o e.1.T, e.1.H, e.1.D⟩ o := by
    intro i o e ho he
    show (List.zipWith _ tr ops.toList).getD i false = _
    rw [List.getD_eq_getElem?_getD, List.getElem?_zipWith, he, Array.getElem?_toList, ho]; rfl
  have hstI : ∀ (i : Nat) (o : Oper), ops[i]? = some o → (o.after.toList.all (fun e => !Region.binds .any e || decide (e.on < i)) && tab.getD i 0 == maskOf tab o &&
      (o.looksAt ops).all (fun t => (List.range ops.size).all fun j => match ops[j]? with | some o' => !dstB o' t || (tab.getD i 0).testBit j | none => true) &&
      (match o.dst with | none => true | some d => (List.range ops.size).all fun j => j == i || match ops[j]? with | some o' => !dstB o' d | none => true)) = true := by
    intro i o ho
    have := all_range hst i (Array.getElem?_eq_some_iff.1 ho).1
    rw [ho] at this
    exact this
  have hstA : ∀ i, i < ops.size → stAt tr af i = (match tr[i]? with | some e => e.1 | none => af) := fun i _ => rfl
  have hHk : ∀ i, i ≤ ops.size → (stAt tr af i).H = hkAt tr af wr ops.size (cnt i wr) := by
    have hflat : ∀ i j, i ≤ j → j ≤ ops.size → cnt i wr = cnt j wr → (stAt tr af i).H = (stAt tr af j).H := by
      intro i j hij
      induction j with
      | zero => intro _ _; have : i = 0 := by omega
                subst this; rfl
      | succ j ih =>
        intro hj hc
        by_cases e : i = j + 1
        · subst e; rfl
        · have hc' : cnt i wr = cnt j wr := by
            have h1 := cnt_mono (p := wr) (show i ≤ j by omega)
            have h2 := cnt_mono (p := wr) (show j ≤ j + 1 by omega)
            omega
          rw [ih (by omega) (by omega) hc']
          have ho : ops[j]? = some ops[j] := Array.getElem?_eq_getElem (by omega)
          obtain ⟨e', g1, g2, g3, g4⟩ := hspec' j _ ho
          have hw := cnt_flat (p := wr) (show i ≤ j by omega) (show j < j + 1 by omega) hc
          rw [hwr j _ e' ho g1] at hw
          have hrd := stepA_rd hpm (by simpa using hw) g2
          rw [g4]
          have : stAt tr af j = e'.1 := by simp only [stAt, g1]
          rw [this]
          cases (ops[j]).dst <;> exact hrd.symm
    intro i hi
    unfold hkAt
    cases hfd : (List.range (ops.size + 1)).find? (fun i' => cnt i' wr == cnt i wr) with
    | none =>
      rw [List.find?_eq_none] at hfd
      have := hfd i (by simp; omega)
      simp at this
    | some i0 =>
      have h1 := List.find?_some hfd
      have h2 := List.mem_of_find?_eq_some hfd
      simp only [List.mem_range] at h2
      simp only [beq_iff_eq] at h1
      simp only
      by_cases hle : i0 ≤ i
      · exact (hflat i0 i hle hi h1).symm
      · exact hflat i i0 (by omega) (by omega) h1.symm
  have hgoal := W.drawF (P := P) (m := m) (R := R) (Q := Q) (a := a) (ops := ops) (id := id) (af := af) (fun i => match tr[i]? with | some e => e.2.1 | none => .junk) (fun i => (stAt tr af i).T) (hkAt tr af wr ops.size) wr
    (fun i j => (tab.getD i 0).testBit j) hm hf ?_ ?_ ?_ ?_ ?_ ?_ ?_ ?_ ?_
  · exact hgoal
  · rw [hS0]
  · intro i o ho
    obtain ⟨e, g1, g2, g3, g4⟩ := hspec' i o ho
    rw [g4]
    have : stAt tr af i = e.1 := by simp only [stAt, g1]
    rw [this]
    simp only [g1]
    cases o.dst <;> rfl
  · have := hHk 0 (Nat.zero_le _)
    rw [hS0] at this
    exact this.symm
  · intro i o e ho he hb
    have := hstI i o ho
    simp only [Bool.and_eq_true] at this
    have h1 := List.all_eq_true.1 this.1.1.1 e (Array.mem_toList_iff.2 he)
    simpa [hb] using h1
  · intro i j o ho hj
    have := hstI i o ho
    simp only [Bool.and_eq_true, beq_iff_eq] at this
    have h1 := this.1.1.2
    simp only [h1] at hj
    unfold maskOf at hj
    rcases foldl_or tab _ _ _ hj with h2 | ⟨e, he, hb, hje⟩
    · simp at h2
    · exact ⟨e, Array.mem_toList_iff.1 he, hb, hje⟩
  · intro i o t j o' ho ht ho' hd
    have := hstI i o ho
    simp only [Bool.and_eq_true] at this
    have h1 := all_range (List.all_eq_true.1 this.1.2 t ht) j (Array.getElem?_eq_some_iff.1 ho').1
    rw [ho'] at h1
    simpa [dstB, hd] using h1
  · intro i j o o' d ho ho' hd hd'
    have := hstI i o ho
    simp only [Bool.and_eq_true, hd] at this
    have h1 := all_range this.2 j (Array.getElem?_eq_some_iff.1 ho').1
    rw [ho'] at h1
    have : j = i := by simpa [dstB, hd'] using h1
    exact this.symm
  · intro i o k ho hlo hhi
    have his := (Array.getElem?_eq_some_iff.1 ho).1
    obtain ⟨e, g1, g2, g3, g4⟩ := hspec' i o ho
    have hsti : stAt tr af i = e.1 := by simp only [stAt, g1]
    have hc : wr i = !rdAt pm ⟨only ops o e.1.T, e.1.H, e.1.D⟩ o := hwr i o e ho g1
    have hd := all_range hdy i his
    simp only [ho, g1] at hd
    have hd' := all_range hd k (by
      have : cnt ops.size (fun j => wr j && !(tab.getD j 0).testBit i && !(j == i)) = cnt ops.size (fun j => (List.zipWith (fun e o => !rdAt pm ⟨only ops o e.1.T, e.1.H, e.1.D⟩ o) tr ops.toList).getD j false && !((mkTab ops.toList []).getD j 0).testBit i && !(j == i)) := rfl
      omega)
    simp only [Bool.or_eq_true, decide_eq_true_eq, beq_iff_eq] at hd'
    simp only [g1, hsti]
    rcases hd' with (hlt | hk) | hre
    · exfalso
      have : cnt ops.size (fun j => wr j && (tab.getD i 0).testBit j) = cnt ops.size (fun j => (List.zipWith (fun e o => !rdAt pm ⟨only ops o e.1.T, e.1.H, e.1.D⟩ o) tr ops.toList).getD j false && ((mkTab ops.toList []).getD i 0).testBit j) := rfl
      omega
    · have hk' : k = cnt i wr := hk
      subst hk'
      have h1 := hHk i (by omega)
      have h2 := hHk (i + 1) (by omega)
      rw [hsti] at h1
      rw [g4] at h2
      simp only [cnt] at h2
      have h3 : hkAt tr af wr ops.size (cnt i wr + if wr i = true then 1 else 0) = e.2.2 := by
        rw [← h2]; cases o.dst <;> rfl
      rw [h3, ← h1, ← g3]
      exact stepA_ok hcall hf g2
    · simp only [Bool.and_eq_true, Bool.not_eq_true'] at hre
      obtain ⟨hw0, hre⟩ := hre
      have hw0' : wr i = false := hw0
      split at hre
      · rename_i v H1 hs1
        have hv := eqA_eq hre
        subst hv
        have hrd : rdAt pm ⟨only ops o e.1.T, hkAt tr af wr ops.size k, e.1.D⟩ o = true := by
          rw [hw0'] at hc
          have : rdAt pm ⟨only ops o e.1.T, e.1.H, e.1.D⟩ o = true := by simpa using hc.symm
          exact this
        have hH1 := stepA_rd hpm hrd hs1
        subst hH1
        rw [hw0']
        simp only [Bool.false_eq_true, if_false, Nat.add_zero]
        rw [← g3]
        exact stepA_ok hcall hf hs1
      · cases hre
  · have h1 := hHk ops.size (Nat.le_refl _)
    rw [hSN] at h1
    have hDf : af.D = a.D := by
      by_cases h0 : ops.size = 0
      · rw [h0] at hSN; rw [hS0] at hSN; rw [← hSN]
      · have ho : ops[ops.size - 1]? = some ops[ops.size - 1] := Array.getElem?_eq_getElem (by omega)
        obtain ⟨e, g1, g2, g3, g4⟩ := hspec' _ _ ho
        rw [show ops.size - 1 + 1 = ops.size from by omega, hSN] at g4
        rw [g4, ← g3]
        cases (ops[ops.size - 1]).dst <;> rfl
    simp only [hSN]
    rw [← h1, ← hDf]
    exact hq
end
end Go.Av
namespace Go.Av
set_option linter.unusedVariables false
set_option linter.unusedSimpArgs false
open Go.RowKit (Below)

def hasKey (t : Nat) : List (Nat × AV) → Bool
  | [] => false
  | (s, _) :: r => s == t || hasKey t r

/-- Each slot once. -/
def dedup : List (Nat × AV) → List (Nat × AV) → List (Nat × AV)
  | [], acc => acc.reverse
  | (t, v) :: r, acc => if hasKey t acc = true then dedup r acc else dedup r ((t, v) :: acc)

theorem get_append (l r : List (Nat × AV)) (t : Nat) : get (l ++ r) t = if hasKey t l = true then get l t else get r t := by
  induction l with
  | nil => simp [hasKey]
  | cons p l ih =>
    obtain ⟨s, v⟩ := p
    simp only [List.cons_append, get, hasKey]
    by_cases e : s = t
    · subst e; simp
    · rw [if_neg e, ih]
      have : (s == t) = false := by simpa using e
      simp [this, e]

theorem hasKey_append (l r : List (Nat × AV)) (t : Nat) : hasKey t (l ++ r) = (hasKey t l || hasKey t r) := by
  induction l with
  | nil => simp [hasKey]
  | cons p l ih => obtain ⟨s, v⟩ := p; simp [hasKey, ih, Bool.or_assoc]

theorem hasKey_reverse (l : List (Nat × AV)) (t : Nat) : hasKey t l.reverse = hasKey t l := by
  induction l with
  | nil => rfl
  | cons p l ih => obtain ⟨s, v⟩ := p; simp [hasKey_append, hasKey, ih, Bool.or_comm]

theorem dedup_get : ∀ (l acc : List (Nat × AV)) (t : Nat), get (dedup l acc) t = get (acc.reverse ++ l) t := by
  intro l
  induction l with
  | nil => intro acc t; simp [dedup]
  | cons p l ih =>
    intro acc t
    obtain ⟨s, v⟩ := p
    simp only [dedup]
    split
    · rename_i h
      rw [ih, get_append, get_append]
      by_cases hk : hasKey t acc.reverse = true
      · rw [if_pos hk, if_pos hk]
      · rw [if_neg hk, if_neg hk]
        have : s ≠ t := by rintro rfl; rw [hasKey_reverse] at hk; exact hk h
        simp [get, this]
    · rw [ih, List.reverse_cons, List.append_assoc]; rfl

def norm (a : St) : St := { a with T := dedup a.T [] }

def rops (P : Program) (call : Cl → List AV → List OB → Option (Out × List OB)) (ops : Array Oper) : List Oper → St → Option (Ex × St)
  | [], a => some (.normal, a)
  | o :: rest, a => match stepA P call ops a o with
    | some (.val v H') => rops P call ops rest ({ a with H := H' }.put o.dst v)
    | some (.pan t v H') => some (.panic t v, { a with H := H' })
    | none => none

/-- Rounds. -/
def loopA (body : St → Option (Ex × St)) : Nat → St → Option (Ex × St)
  | 0, _ => none
  | j + 1, a => match body (norm a) with
    | some (.normal, a') => loopA body j a'
    | r => r

/-- Code, run. 'inr': in a round of a loop over a function. -/
def runC (P : Program) (call : Cl → List AV → List OB → Option (Out × List OB)) (pm : FuncId → Bool) (n : Nat) (inr : Bool) : Nat → Code → St → Option (Ex × St)
  | 0, _, _ => none
  | k + 1, c, a => match c with
    | .skip => some (.normal, a)
    | .label _ => some (.normal, a)
    | .exit id => some (.exit id, a)
    | .goto l => some (.goto l, a)
    | .ret => some (.ret, a)
    | .region _ ops draw => if fits n ops = true then (if draw = true then (drawA P call pm ops a).map fun a' => (.normal, a') else rops P call ops ops.toList a) else none
    | .seq x y => match runC P call pm n inr k x a with
      | some (.normal, a') => runC P call pm n inr k y a'
      | r => r
    | .cond c x y => match a.ev c with
      | .bool t => runC P call pm n inr k (if t = true then x else y) a
      | _ => none
    | .block id c => match runC P call pm n inr k c a with
      | some (.exit i, a') => if i = id then some (.normal, a') else some (.exit i, a')
      | r => r
    | .loop c => loopA (fun a => runC P call pm n inr k c a) k a
    | .refuse _ => none
    | .scope c => if inr = true then none else match runC P call pm n inr k c a with
      | some (.goto l, a') => match findLabel c l with
        | some rest => match runC P call pm n inr k rest a' with
          | some (.goto _, _) => none
          | r => r
        | none => none
      | r => r
    | .rangeFunc g ps assign body => if inr = true then none else match a.ev g with
      | .func (.func gf) fs cs => match call (.fn gf) (fs ++ [.yld (a.H.length + 1)] ++ cs) (a.H ++ [.dfr, .loop a.T ⟨n, ps, assign, body, .ready, none⟩]) with
        | some (.ret _, H') => match H'[a.H.length + 1]? with
          | some (.loop _ K') => if K'.st = .busy then none else
            let a' : St := ⟨a.T, H'.set (a.H.length + 1) .dead, a.H.length :: a.D⟩
            match K'.pend with
            | none => some (.normal, a')
            | some c => runC P call pm n inr k c a'
          | _ => none
        | _ => none
      | _ => none

/-- Functions by a body are entered. -/
def Enters (P : Program) : Prop := ∀ (f : FuncId) (fn : Func), P.funcs[f]? = some fn → (fn.name == "runtime.NumGoroutine") = false

/-- What a run's end says. -/
def endsQ (r : Ex × St) : Ex → St → Prop := fun ex a => ex = r.1 ∧ a = r.2

section
variable {P : Program} {w0 : World} {F0 F F' : Nat → Nat → Prop} {μ μ' : Nat → Option Loc} {H H' : List OB} {w w' : World} {n m : Nat} {R : Option Nat} {a : St} {act : Act} {Q : Ex → St → Prop}
  {call : Cl → List AV → List OB → Option (Out × List OB)} {ops : Array Oper} {pm : FuncId → Bool}

theorem W.same {c : Code} (b : St) (hD : b.D = a.D) (hH : b.H = a.H) (hT : ∀ t, get b.T t = get a.T t) (h : W P n m R c Q b) : W P n m R c Q a := by
  intro B act w ⟨F, μ, s, y, t⟩
  exact h B act w ⟨F, μ, by rw [hH]; exact s, y, ⟨by rw [hD]; exact t.defers, t.size, fun i => by rw [hT]; exact t.slots i⟩⟩

theorem rops_ok (hcall : CallsRight P call) (hf : fits n ops = true) {B : Bs m} : ∀ (rest : List Oper) (k : Nat) (a : St) (act : Act) (w : World) (r : Ex × St),
    (∀ (i : Nat) (o : Oper), rest[i]? = some o → ops[k + i]? = some o) → rops P call ops rest a = some r → Q r.1 r.2 → Rel n B a act w → wpOpsIn (fnc R) 1 P ops (RelE n B Q) (List.range' k rest.length) act w := by
  intro rest
  induction rest with
  | nil =>
    intro k a act w r hk h hq ⟨F, μ, s, y, t⟩
    simp only [rops, Option.some.injEq] at h
    subst h
    exact ⟨_, a, F, μ, hq, .normal, s, y, t⟩
  | cons o rest ih =>
    intro k a act w r hk h hq ⟨F, μ, s, y, t⟩
    have ho : ops[k]? = some o := hk 0 o rfl
    have hk' : ∀ (i : Nat) (o' : Oper), rest[i]? = some o' → ops[k + 1 + i]? = some o' := fun i o' hi => by
      rw [show k + 1 + i = k + (i + 1) from by omega]; exact hk (i + 1) o' (by simpa using hi)
    have hd : ∀ d, o.dst = some d → d < n := fun d hd => fits_get hf k o d ho hd
    rw [List.length_cons, List.range'_succ, wpOpsIn_cons]
    simp only [rops] at h
    cases hs : stepA P call ops a o with
    | none => rw [hs] at h; cases h
    | some rs =>
      rw [hs] at h
      refine stepA_ok (R := R) (m := m) hcall hf hs k B _ _ F μ act w ho s t ?_ ?_
      · rintro v H' rfl V w' F' μ' x s' hV
        exact ih (k + 1) _ _ _ r hk' h hq ⟨F', μ', by cases o.dst <;> exact s', y.trans x, t.put x hV hd⟩
      · rintro tt v H' rfl V w' F' μ' x s' hV
        simp only [Option.some.injEq] at h
        subst h
        exact ⟨_, _, F', μ', hq, .panic tt v V hV, s', y.trans x, ⟨t.defers.mono x.mu, t.size, fun i => VR.mono x (t.slots i)⟩⟩

theorem enters_call (hN : Enters P) {f : FuncId} {fn : Func} {c : Code} (hf : P.funcs[f]? = some fn) (hb : fn.body = some c) : ∀ Vs w, (callFunc f Vs).run P w = .ok (.enter f Vs) w := by
  intro Vs w
  have := hN f fn hf
  have h' : ¬ fn.name = "runtime.NumGoroutine" := by simpa using this
  simp [callFunc, program, Sem.run_bind, Sem.run, Result.andThen, hf, h', hb]

/-- A loop whose head is come to. -/
def LW (P : Program) (n m : Nat) (R : Option Nat) (c : Code) (Q : Ex → St → Prop) (a : St) : Prop :=
  ∀ (B : Bs m) act w, Rel n B a act w → ∀ (b : Frame) (k : List Item) (cs : List Frame), b.roundOf = (fnc R).round → (fnc R).fn b.fn → (fnc R).room (cs.length + 1 + 1) →
    ∃ e a' w', RelE n B Q e a' w' ∧ ArrivesIn (Machine.fenced P (fnc R)) P (lone (b.atR act (.code c :: .inLoop c :: k)) cs w) b k cs e a' w'

theorem W.loop_of {c : Code} (h : LW P n m R c Q a) : W P n m R (.loop c) Q a := by
  intro B act w r b k cs hro hb hr
  obtain ⟨e, a', w', hq, harr⟩ := h B act w r b k cs hro hb hr
  exact ⟨e, a', w', hq, .of_steps (.one (fenced_calm hb hr rfl) stepR_loop) harr⟩

theorem LW.step {c : Code} (h : W P n m R c (thenQ (LW P n m R c Q) Q) a) : LW P n m R c Q a := by
  intro B act w r b k cs hro hb hr
  obtain ⟨e, act₁, w₁, hq, harr⟩ := h B act w r b (.inLoop c :: k) cs hro hb hr
  obtain ⟨ex, a', F, μ, q, hx, s, y, t⟩ := hq
  cases hx with
  | normal =>
    obtain ⟨e₂, a₂, w₂, hq₂, harr₂⟩ := q B act₁ w₁ ⟨F, μ, s, y, t⟩ b k cs hro hb hr
    exact ⟨e₂, a₂, w₂, hq₂, .of_steps (StepsIn.trans harr (.one (fenced_calm hb hr rfl) stepR_inLoop)) harr₂⟩
  | exit id => exact ⟨_, act₁, w₁, ⟨_, a', F, μ, q, .exit id, s, y, t⟩, .pass (x := .inLoop c) rfl (fun _ _ => .inl (by simp)) harr⟩
  | goto l => exact ⟨_, act₁, w₁, ⟨_, a', F, μ, q, .goto l, s, y, t⟩, .pass (x := .inLoop c) rfl (fun _ _ => .inl (by simp)) harr⟩
  | ret => exact ⟨_, act₁, w₁, ⟨_, a', F, μ, q, .ret, s, y, t⟩, .pass (x := .inLoop c) rfl (fun _ _ => .inl (by simp)) harr⟩
  | panic t v V h => exact ⟨_, act₁, w₁, ⟨_, a', F, μ, q, .panic t v V h, s, y, ‹_›⟩, .pass (x := .inLoop c) rfl (fun _ _ => .inl (by simp)) harr⟩

theorem loopA_ok {c : Code} {body : St → Option (Ex × St)} (hb : ∀ a r, body a = some r → W P n m R c (endsQ r) a) : ∀ (j : Nat) (a : St) (r : Ex × St), loopA body j a = some r → LW P n m R c (endsQ r) a := by
  intro j
  induction j with
  | zero => intro a r h; cases h
  | succ j ih =>
    intro a r h
    simp only [loopA] at h
    refine LW.step (W.same (norm a) rfl rfl (fun t => by have := dedup_get a.T [] t; simpa [norm] using this) ?_)
    split at h
    · rename_i a' h1
      refine (hb _ _ h1).mono ?_
      rintro ex b ⟨rfl, rfl⟩
      exact ih _ r h
    · rename_i hne
      refine (hb _ r h).mono ?_
      rintro ex b ⟨rfl, rfl⟩
      obtain ⟨ex, b⟩ := r
      cases ex with
      | normal => exact (hne b h).elim
      | exit _ => exact ⟨rfl, rfl⟩
      | goto _ => exact ⟨rfl, rfl⟩
      | ret => exact ⟨rfl, rfl⟩
      | panic _ _ => exact ⟨rfl, rfl⟩

theorem runC_ok (hm : P.follows .mixedOrders = true) (hcall : CallsRight P call) (hpm : PureMode pm call) (hgf : ∀ gf args H r, call (.fn gf) args H = some r → ∀ Vs w, (callFunc gf Vs).run P w = .ok (.enter gf Vs) w) {inr : Bool} (hR : inr = false → R = none) :
    ∀ (k : Nat) (c : Code) (a : St) (r : Ex × St), runC P call pm n inr k c a = some r → W P n m R c (endsQ r) a := by
  intro k
  induction k with
  | zero => intro c a r h; simp [runC] at h
  | succ k ih =>
    intro c a r h
    unfold runC at h
    cases c with
    | skip => simp only [Option.some.injEq] at h; subst h; exact .skip ⟨rfl, rfl⟩
    | label l => simp only [Option.some.injEq] at h; subst h; exact .label ⟨rfl, rfl⟩
    | exit id => simp only [Option.some.injEq] at h; subst h; exact .exit ⟨rfl, rfl⟩
    | goto l => simp only [Option.some.injEq] at h; subst h; exact .goto ⟨rfl, rfl⟩
    | ret => simp only [Option.some.injEq] at h; subst h; exact .ret ⟨rfl, rfl⟩
    | region id ops draw =>
      simp only at h
      split at h
      case isFalse => cases h
      rename_i hf
      split at h
      · rename_i hd
        subst hd
        rw [Option.map_eq_some_iff] at h
        obtain ⟨a', h1, rfl⟩ := h
        exact drawA_ok hm hcall hpm hf h1 ⟨rfl, rfl⟩
      · rename_i hd
        have : draw = false := by simpa using hd
        subst this
        intro B act w hr
        refine wpIn_region ?_
        have := rops_ok (R := R) (Q := endsQ r) (B := B) hcall hf ops.toList 0 a act w r (fun i o hi => by rw [Nat.zero_add, ← Array.getElem?_toList]; exact hi) h ⟨rfl, rfl⟩ hr
        rw [Array.length_toList, ← List.range_eq_range'] at this
        exact this
    | seq x y =>
      simp only at h
      refine .seq ?_
      split at h
      · rename_i a' h1
        refine (ih x a _ h1).mono ?_
        rintro ex b ⟨rfl, rfl⟩
        exact ih y _ r h
      · rename_i hne
        refine (ih x a r h).mono ?_
        rintro ex b ⟨rfl, rfl⟩
        obtain ⟨ex, b⟩ := r
        cases ex with
        | normal => exact (hne b h).elim
        | exit _ => exact ⟨rfl, rfl⟩
        | goto _ => exact ⟨rfl, rfl⟩
        | ret => exact ⟨rfl, rfl⟩
        | panic _ _ => exact ⟨rfl, rfl⟩
    | cond c x y =>
      simp only at h
      split at h
      · rename_i t ht
        exact .cond ht (ih _ a r h)
      · cases h
    | block id c =>
      simp only at h
      refine .block ?_
      split at h
      · rename_i i a' h1
        refine (ih c a _ h1).mono ?_
        rintro ex b ⟨rfl, rfl⟩
        simp only [blockQ]
        split at h
        · rename_i e; rw [if_pos e]; cases h; exact ⟨rfl, rfl⟩
        · rename_i e; rw [if_neg e]; cases h; exact ⟨rfl, rfl⟩
      · rename_i hne
        refine (ih c a r h).mono ?_
        rintro ex b ⟨rfl, rfl⟩
        obtain ⟨ex, b⟩ := r
        cases ex with
        | exit i => exact (hne i b h).elim
        | normal => exact ⟨rfl, rfl⟩
        | goto _ => exact ⟨rfl, rfl⟩
        | ret => exact ⟨rfl, rfl⟩
        | panic _ _ => exact ⟨rfl, rfl⟩
    | loop c =>
      simp only at h
      exact W.loop_of (loopA_ok (fun a r hr => ih c a r hr) k a r h)
    | refuse _ => cases h
    | scope c =>
      simp only at h
      split at h
      · cases h
      · rename_i hi
        have hR' := hR (by simpa using hi)
        subst hR'
        split at h
        · rename_i l a' h1
          split at h
          case h_2 => cases h
          rename_i rest hfl
          refine W.scope l hfl ((ih c a _ h1).mono ?_)
          rintro ex b ⟨rfl, rfl⟩
          refine ⟨rfl, ?_⟩
          split at h
          · cases h
          · rename_i hne
            refine (ih rest _ r h).mono ?_
            rintro ex b ⟨rfl, rfl⟩
            obtain ⟨ex, b⟩ := r
            cases ex with
            | goto i => exact (hne i b h).elim
            | normal => exact ⟨rfl, rfl⟩
            | exit _ => exact ⟨rfl, rfl⟩
            | ret => exact ⟨rfl, rfl⟩
            | panic _ _ => exact ⟨rfl, rfl⟩
        · rename_i hne
          refine W.scope_straight ((ih c a r h).mono ?_)
          rintro ex b ⟨rfl, rfl⟩
          obtain ⟨ex, b⟩ := r
          cases ex with
          | goto i => exact (hne i b h).elim
          | normal => exact ⟨rfl, rfl⟩
          | exit _ => exact ⟨rfl, rfl⟩
          | ret => exact ⟨rfl, rfl⟩
          | panic _ _ => exact ⟨rfl, rfl⟩
    | rangeFunc g ps assign body =>
      simp only at h
      split at h
      · cases h
      · rename_i hi
        have hR' := hR (by simpa using hi)
        subst hR'
        split at h
        case h_2 => cases h
        rename_i gf fs cs hg
        split at h
        case h_2 => cases h
        rename_i rv H' hc
        split at h
        case h_2 => cases h
        rename_i T' K' hl
        split at h
        · cases h
        · rename_i hst
          refine W.rangeFunc hg (hgf _ _ _ _ hc) (hcall (.fn gf) _ _ _ _ hc) hl hst ?_
          split at h
          · rename_i hp
            rw [hp]
            cases h
            exact ⟨rfl, rfl⟩
          · rename_i c hp
            rw [hp]
            exact ih c _ r h
end
end Go.Av
namespace Go.Av
set_option linter.unusedVariables false
set_option linter.unusedSimpArgs false
open Go.RowKit (Below)

/-- What a function with a body says at a run's end, its memory told as it stands. -/
def endP (P : Program) (fn : Func) : Option (Ex × St) → Option Out
  | some (.normal, a) | some (.ret, a) => (endA a).bind fun a' => ((resA P fn.results.toList a').bind (fz a'.H 20)).map .ret
  | some (.panic t v, a) => (endA a).bind fun a' => (fz a'.H 20 v).map (.pan t)
  | _ => none

/-- The same, its memory left as it is. -/
def endS (P : Program) (fn : Func) : Option (Ex × St) → Option (Out × List OB)
  | some (.normal, a) | some (.ret, a) => (endA a).bind fun a' => (resA P fn.results.toList a').map fun r => (.ret r, a'.H)
  | some (.panic t v, a) => (endA a).bind fun a' => some (.pan t v, a'.H)
  | _ => none

/-- A round's end. -/
def endY (id : Nat) : Option (Ex × St) → Option (Out × List OB)
  | some (ex, a) => match a.H[id]? with
    | some (.loop T K) => match ex with
      | .normal => some (.ret (.bool true), a.H.set id (.loop T { K with st := .ready, pend := none }))
      | .ret => some (.ret (.bool false), a.H.set id (.loop T { K with st := .done, pend := some .ret }))
      | .exit i => some (.ret (.bool false), a.H.set id (.loop T { K with st := .done, pend := some (.exit i) }))
      | .goto i => some (.ret (.bool false), a.H.set id (.loop T { K with st := .done, pend := some (.goto i) }))
      | .panic _ _ => none
    | _ => none
  | none => none

/-- The blocks that are come to from a value. -/
def reachA (H : List OB) : Nat → AV → List Nat → List Nat
  | 0, _, S => S
  | k + 1, v, S =>
    let on (id : Nat) (S : List Nat) : List Nat := if S.contains id = true then S else match H[id]? with
      | some (.cells cs _) => cs.foldl (fun S v => reachA H k v S) (id :: S)
      | some (.map ks vs) => vs.foldl (fun S v => reachA H k v S) (ks.foldl (fun S v => reachA H k v S) (id :: S))
      | _ => S
    match v with
    | .ptr id _ | .sl id _ _ _ | .map id => on id S
    | .func _ fs cs => cs.foldl (fun S v => reachA H k v S) (fs.foldl (fun S v => reachA H k v S) S)
    | .iface _ v => reachA H k v S
    | .agg l | .tup l => l.foldl (fun S v => reachA H k v S) S
    | _ => S

/-- These blocks alone; all but these. -/
def keepS (S : List Nat) : Nat → List OB → List OB
  | _, [] => []
  | i, b :: r => (if S.contains i = true then b else .dead) :: keepS S (i + 1) r
def dropS (S : List Nat) : Nat → List OB → List OB
  | _, [] => []
  | i, b :: r => (if S.contains i = true then .dead else b) :: dropS S (i + 1) r

structure Ways where
  pm : FuncId → Bool
  gm : FuncId → Bool
  conP : FuncId → List AV → Option Out
  conS : FuncId → List AV → List OB → Option (Out × List OB)
  fuel : Nat

/-- A call, so many calls deep at most. -/
def callN (P : Program) (Y : Ways) : Nat → Cl → List AV → List OB → Option (Out × List OB)
  | 0, _, _, _ => none
  | d + 1, .fn f, args, H => match P.funcs[f]? with
    | none => none
    | some fn => match fn.body with
      | none => none
      | some c => if args.length ≤ fn.ntmps then
          if Y.pm f = true then match (if AV.hfs args = true then some args else args.mapM (fz H 20)) with
            | none => none
            | some args' => match (match Y.conP f args' with | some out => some out | none => endP P fn (runC P (callN P Y d) Y.pm fn.ntmps false Y.fuel c ⟨argT 0 args', [], []⟩)) with
              | some out => if (AV.hfs args || out.scalar) = true then some (out, H) else none
              | none => none
          else if Y.gm f = true then
            let S := args.foldl (fun S v => reachA H 20 v S) []
            match args.mapM (fz (keepS S 0 H) 20) with
            | none => none
            | some args' => match (match Y.conP f args' with | some out => some out | none => endP P fn (runC P (callN P Y d) Y.pm fn.ntmps false Y.fuel c ⟨argT 0 args', [], []⟩)) with
              | some out => some (out, dropS S 0 H)
              | none => none
          else match Y.conS f args H with
            | some r => some r
            | none => endS P fn (runC P (callN P Y d) Y.pm fn.ntmps false Y.fuel c ⟨argT 0 args, H, []⟩)
        else none
  | d + 1, .yld id, args, H => match H[id]? with
    | some (.loop T K) => if (K.ps.toList.all (fun p => decide (p < K.n)) && decide (K.ps.size = args.length)) = true then
        match runC P (callN P Y d) Y.pm K.n true Y.fuel K.assign ⟨putsA T K.ps.toList args, H, []⟩ with
        | some (.normal, a1) => match a1.H[id]? with
          | some (.loop T1 K1) => if K1.st = .ready then endY id (runC P (callN P Y d) Y.pm K.n true Y.fuel K.body { a1 with H := a1.H.set id (.loop T1 { K1 with st := .busy }) }) else none
          | _ => none
        | _ => none
      else none
    | _ => none

structure WaysRight (P : Program) (Y : Ways) : Prop where
  mixed : P.follows .mixedOrders = true
  enters : Enters P
  conP : ∀ f args out, Y.conP f args = some out → PureFn P f args out
  conS : ∀ f args H out H', Y.conS f args H = some (out, H') → ShFn P f args H out H'

section
variable {P : Program} {w0 : World} {F0 F F' : Nat → Nat → Prop} {μ μ' : Nat → Option Loc} {H H' : List OB} {w w' : World} {n m : Nat} {R : Option Nat} {a : St} {act : Act} {Q : Ex → St → Prop}

def retX (P : Program) (rs : List ResultVar) (out : Out) (H' : List OB) : Ex → St → Prop
  | .normal, a | .ret, a => ∃ a', endA a = some a' ∧ a'.H = H' ∧ ∃ r, resA P rs a' = some r ∧ out = .ret r
  | .panic t v, a => ∃ a', endA a = some a' ∧ a'.H = H' ∧ out = .pan t v
  | _, _ => False

theorem ShFn.ofX {f : FuncId} {fn : Func} {c : Code} {args : List AV} {out : Out} (hf : P.funcs[f]? = some fn) (hb : fn.body = some c) (hc : ∀ Vs w, (callFunc f Vs).run P w = .ok (.enter f Vs) w) (hn : args.length ≤ fn.ntmps)
    (h : W P fn.ntmps H.length none c (retX P fn.results.toList out H') ⟨argT 0 args, H, []⟩) : ShFn P f args H out H' := by
  intro w0 F0 F μ w Vs s0 hv
  refine .inl ⟨w, hc _ _, rfl, (callsIn_wide (n := 1)).1 (callsIn_of_wp_marks hf hb trivial ?_ rfl)⟩
  refine wpIn_mono (h ⟨w0, F0, w, F, μ, s0.dom⟩ _ w ⟨F, μ, s0, Ext.refl _ _ _, RelT.start hv hn⟩) ?_
  rintro e act' w' ⟨ex, a', F', μ', hq, hx, s, y, t⟩
  have hret : (∃ a1, endA a' = some a1 ∧ a1.H = H' ∧ ∃ r, resA P fn.results.toList a1 = some r ∧ out = .ret r) → LeavesInM Fence.wide 1 P fn act'.tmps (fun e w' => ∃ F' μ', Ext F w μ F' w' μ' ∧ Sim w0 F0 F' μ' H' w' ∧ OutR F' w' μ' out e) act'.defers .returning w' := by
    rintro ⟨a1, h1, rfl, r, h2, rfl⟩
    refine endA_ok (by simp) s t h1 fun w'' x s'' t'' => ?_
    obtain ⟨V, h5, h6⟩ := results_ok (P := P) (act := { act' with defers := [] }) s'' t'' h2
    exact ⟨V, h5, F', μ', y.trans x, s'', .ret r V h6⟩
  cases hx with
  | normal => exact hret hq
  | ret => exact hret hq
  | exit id => exact hq.elim
  | goto l => exact hq.elim
  | panic tt v V hV =>
    obtain ⟨a1, h1, rfl, rfl⟩ := hq
    refine endA_ok (by simp) s t h1 fun w'' x s'' t'' => ?_
    exact ⟨F', μ', y.trans x, s'', .pan tt v V (VR.mono x hV)⟩

theorem endS_ok {fn : Func} {r : Option (Ex × St)} {out : Out} (h : endS P fn r = some (out, H')) : ∃ e, r = some e ∧ retX P fn.results.toList out H' e.1 e.2 := by
  unfold endS at h
  split at h
  · rw [Option.bind_eq_some_iff] at h
    obtain ⟨a', h1, h2⟩ := h
    rw [Option.map_eq_some_iff] at h2
    obtain ⟨rr, h3, h4⟩ := h2
    cases h4
    exact ⟨_, rfl, a', h1, rfl, rr, h3, rfl⟩
  · rw [Option.bind_eq_some_iff] at h
    obtain ⟨a', h1, h2⟩ := h
    rw [Option.map_eq_some_iff] at h2
    obtain ⟨rr, h3, h4⟩ := h2
    cases h4
    exact ⟨_, rfl, a', h1, rfl, rr, h3, rfl⟩
  · rw [Option.bind_eq_some_iff] at h
    obtain ⟨a', h1, h2⟩ := h
    cases h2
    exact ⟨_, rfl, a', h1, rfl, rfl⟩
  · cases h

theorem endP_ok {fn : Func} {r : Option (Ex × St)} {out : Out} (h : endP P fn r = some out) : ∃ e, r = some e ∧ retQ P fn.results.toList out e.1 e.2 := by
  unfold endP at h
  split at h
  · rw [Option.bind_eq_some_iff] at h
    obtain ⟨a', h1, h2⟩ := h
    rw [Option.map_eq_some_iff] at h2
    obtain ⟨rr, h3, rfl⟩ := h2
    exact ⟨_, rfl, a', h1, rr, h3, .refl _⟩
  · rw [Option.bind_eq_some_iff] at h
    obtain ⟨a', h1, h2⟩ := h
    rw [Option.map_eq_some_iff] at h2
    obtain ⟨rr, h3, rfl⟩ := h2
    exact ⟨_, rfl, a', h1, rr, h3, .refl _⟩
  · rw [Option.bind_eq_some_iff] at h
    obtain ⟨a', h1, h2⟩ := h
    rw [Option.map_eq_some_iff] at h2
    obtain ⟨rr, h3, rfl⟩ := h2
    exact ⟨_, rfl, a', h1, rfl, rr, h3, .refl _⟩
  · cases h

theorem endY_ok {id : Nat} {r : Option (Ex × St)} {out : Out} (h : endY id r = some (out, H')) : ∃ e, r = some e ∧ roundQ id out H' e.1 e.2 := by
  unfold endY at h
  split at h
  · rename_i ex a
    split at h
    · rename_i T K hid
      split at h <;> first | (cases h; exact ⟨_, rfl, T, K, hid, rfl, rfl⟩) | cases h
    · cases h
  · cases h

theorem PureFn.sh {f : FuncId} {args args' : List AV} {out : Out} (hl : lend H args out = some args') (hp : PureFn P f args' out) : ShFn P f args H out H :=
  fun w0 F0 F μ w Vs s hv => PureFn.call s hl hp hv

theorem keepS_get (S : List Nat) : ∀ (H : List OB) (k i : Nat), (keepS S k H)[i]? = (H[i]?).map fun b => if S.contains (k + i) = true then b else .dead := by
  intro H
  induction H with
  | nil => intro k i; simp [keepS]
  | cons b r ih =>
    intro k i
    cases i with
    | zero => simp [keepS]
    | succ i => simp only [keepS, List.getElem?_cons_succ, ih]; rw [show k + 1 + i = k + (i + 1) from by omega]

theorem dropS_get (S : List Nat) : ∀ (H : List OB) (k i : Nat), (dropS S k H)[i]? = (H[i]?).map fun b => if S.contains (k + i) = true then .dead else b := by
  intro H
  induction H with
  | nil => intro k i; simp [dropS]
  | cons b r ih =>
    intro k i
    cases i with
    | zero => simp [dropS]
    | succ i => simp only [dropS, List.getElem?_cons_succ, ih]; rw [show k + 1 + i = k + (i + 1) from by omega]

theorem dropS_len (S : List Nat) : ∀ (H : List OB) (k : Nat), (dropS S k H).length = H.length := by
  intro H; induction H with
  | nil => intro k; rfl
  | cons b r ih => intro k; simp [dropS, ih]
theorem keepS_len (S : List Nat) : ∀ (H : List OB) (k : Nat), (keepS S k H).length = H.length := by
  intro H; induction H with
  | nil => intro k; rfl
  | cons b r ih => intro k; simp [keepS, ih]

theorem Sim.sub (s : Sim w0 F0 F μ H w) (hl : H'.length = H.length) (hs : ∀ (i : Nat) (b : OB), H'[i]? = some b → b = .dead ∨ H[i]? = some b) : Sim w0 F0 F μ H' w := by
  have hlv : ∀ (i : Nat) (b : OB), H'[i]? = some b → b.live = true → H[i]? = some b := by
    intro i b h hb
    rcases hs i b h with rfl | h
    · cases hb
    · exact h
  refine ⟨s.below, s.new, s.old, s.lt, ?_, ?_, fun id L h => by rw [hl]; exact s.dom id L h⟩
  · intro id b h
    by_cases hb : b.live = true
    · exact s.obs id b (hlv id b h hb)
    · exact OBR.dead_of (by simpa using hb)
  · intro i j bi bj Li Lj hi hj li lj mi mj hij
    exact s.apart i j bi bj Li Lj (hlv i bi hi li) (hlv j bj hj lj) li lj mi mj hij

/-- Some blocks are written no more. -/
theorem Sim.freeze (s : Sim w0 F0 F μ H w) (S : List Nat) : Ext F w μ (lent F μ (keepS S 0 H)) w μ ∧ Sim w0 F0 (lent F μ (keepS S 0 H)) μ (dropS S 0 H) w ∧
    ∀ v v' V, fz (keepS S 0 H) 20 v = some v' → VR F w μ v V → VR (lent F μ (keepS S 0 H)) w noμ v' V := by
  have hk : ∀ (i : Nat) (b : OB), (keepS S 0 H)[i]? = some b → b.live = true → H[i]? = some b ∧ S.contains i = true := by
    intro i b h hb
    rw [keepS_get, Option.map_eq_some_iff] at h
    obtain ⟨b', h1, h2⟩ := h
    rw [Nat.zero_add] at h2
    split at h2
    · subst h2; exact ⟨h1, ‹_›⟩
    · subst h2; cases hb
  have hd : ∀ (i : Nat) (b : OB), (dropS S 0 H)[i]? = some b → b.live = true → H[i]? = some b ∧ S.contains i = false := by
    intro i b h hb
    rw [dropS_get, Option.map_eq_some_iff] at h
    obtain ⟨b', h1, h2⟩ := h
    rw [Nat.zero_add] at h2
    split at h2
    · subst h2; cases hb
    · rename_i hn; subst h2; exact ⟨h1, by simpa using hn⟩
  have sk : Sim w0 F0 F μ (keepS S 0 H) w := s.sub (keepS_len _ _ _) fun i b h => by
    by_cases hb : b.live = true
    · exact .inr (hk i b h hb).1
    · cases b <;> first | exact .inl rfl | exact (hb rfl).elim
  have sd : Sim w0 F0 F μ (dropS S 0 H) w := s.sub (dropS_len _ _ _) fun i b h => by
    by_cases hb : b.live = true
    · exact .inr (hd i b h hb).1
    · cases b <;> first | exact .inl rfl | exact (hb rfl).elim
  refine ⟨lent_ext, ⟨sd.below, fun b o h => .inl (s.new b o h), fun b o hb h => lent_old sk b o hb h, lent_lt sk, ?_, sd.apart, sd.dom⟩, fun v v' V h hv => fz_ok sk 20 v v' V h hv⟩
  intro id b h
  by_cases hb : b.live = true
  · refine (sd.obs id b h).mono lent_ext (fun _ _ => rfl) ?_
    rintro L o hμ (hf | ⟨id', b', L', g1, g2, g3, g4⟩)
    · exact hf
    · obtain ⟨q1, q2⟩ := hk id' b' g1 g2
      obtain ⟨q3, q4⟩ := hd id b h hb
      have hne : id' ≠ id := by rintro rfl; rw [q2] at q4; cases q4
      exact (s.apart id' id b' b L' L q1 q3 g2 hb g3 hμ hne g4).elim
  · exact OBR.dead_of (by simpa using hb)

theorem PureFn.give {f : FuncId} {args args' : List AV} {out : Out} (S : List Nat) (hl : args.mapM (fz (keepS S 0 H) 20) = some args') (hp : PureFn P f args' out) : ShFn P f args H out (dropS S 0 H) := by
  intro w0 F0 F μ w Vs s hv
  obtain ⟨x0, s0, hz⟩ := s.freeze S
  obtain ⟨hlen, hget⟩ := mapM_get hl
  have hv' : VRs (lent F μ (keepS S 0 H)) w noμ args' Vs := by
    refine .of_get (by rw [hlen, VRs.len hv]) fun i v' hi => ?_
    have hil : i < args.length := by rw [← hlen]; exact (List.getElem?_eq_some_iff.1 hi).1
    obtain ⟨v'', h1, h2⟩ := hget i args[i] (List.getElem?_eq_getElem hil)
    rw [hi] at h1; cases h1
    obtain ⟨V, h3, h4⟩ := hv.get (List.getElem?_eq_getElem hil)
    exact ⟨V, h3, hz _ _ _ h2 h4⟩
  refine (hp _ w Vs s0.lt hv').mono ?_
  rintro e w' ⟨hb, F', h1, h2, h3, h4⟩
  obtain ⟨x, s'⟩ := s0.behind hb h1 h2 h3
  exact ⟨F', μ, x0.trans x, s', h4.noμ⟩

theorem callN_ok {Y : Ways} (hY : WaysRight P Y) : ∀ d, CallsRight P (callN P Y d) ∧ PureMode Y.pm (callN P Y d) ∧ ∀ gf args H r, callN P Y d (.fn gf) args H = some r → ∀ Vs w, (callFunc gf Vs).run P w = .ok (.enter gf Vs) w := by
  intro d
  induction d with
  | zero =>
    refine ⟨?_, ?_, ?_⟩
    · intro f args H out H' h; simp [callN] at h
    · intro f args H out H' _ h; simp [callN] at h
    · intro gf args H r h; simp [callN] at h
  | succ d ih =>
    obtain ⟨ih1, ih2, ih3⟩ := ih
    have hrun : ∀ (inr : Bool) (R : Option Nat) (n m : Nat), (inr = false → R = none) → ∀ c a r, runC P (callN P Y d) Y.pm n inr Y.fuel c a = some r → W P n m R c (endsQ r) a :=
      fun inr R n m hR c a r h => runC_ok (m := m) hY.mixed ih1 ih2 ih3 hR Y.fuel c a r h
    refine ⟨?_, ?_, ?_⟩
    · intro cl args H out H' h
      cases cl with
      | fn f =>
        unfold callN at h
        split at h
        · cases h
        rename_i fn hfn
        split at h
        · cases h
        rename_i c hb
        have hc := enters_call hY.enters hfn hb
        split at h
        case isFalse => cases h
        rename_i hlen
        split at h
        · split at h
          · cases h
          rename_i args' hargs
          have hlen' : args'.length = args.length := by
            split at hargs
            · cases hargs; rfl
            · exact (mapM_get hargs).1
          split at h
          · rename_i out' hout
            split at h
            case isFalse => cases h
            rename_i hsc
            cases h
            have hl : lend H args out = some args' := by
              unfold lend
              split at hargs
              · rename_i hh; rw [if_pos hh]; exact hargs
              · rename_i hh
                rw [if_neg hh]
                have : out.scalar = true := by simpa [hh] using hsc
                rw [if_pos this]; exact hargs
            refine PureFn.sh hl ?_
            split at hout
            · cases hout; exact hY.conP _ _ _ ‹_›
            · obtain ⟨e, he, hq⟩ := endP_ok hout
              refine PureFn.of hfn hb hc (by omega) ((hrun false none _ _ (fun _ => rfl) _ _ _ he).mono ?_)
              rintro ex b ⟨rfl, rfl⟩; exact hq
          · cases h
        · split at h
          · simp only at h
            split at h
            · cases h
            rename_i args' hargs
            split at h
            · rename_i out' hout
              cases h
              refine PureFn.give _ hargs ?_
              split at hout
              · cases hout; exact hY.conP _ _ _ ‹_›
              · obtain ⟨e, he, hq⟩ := endP_ok hout
                refine PureFn.of hfn hb hc (by rw [(mapM_get hargs).1]; exact hlen) ((hrun false none _ _ (fun _ => rfl) _ _ _ he).mono ?_)
                rintro ex b ⟨rfl, rfl⟩; exact hq
            · cases h
          split at h
          · cases h; exact hY.conS _ _ _ _ _ ‹_›
          · obtain ⟨e, he, hq⟩ := endS_ok h
            refine ShFn.ofX hfn hb hc hlen ((hrun false none _ _ (fun _ => rfl) _ _ _ he).mono ?_)
            rintro ex b ⟨rfl, rfl⟩; exact hq
      | yld id =>
        unfold callN at h
        split at h
        case h_2 => cases h
        rename_i T K hid
        split at h
        case isFalse => cases h
        rename_i hps
        split at h
        case h_2 => cases h
        rename_i a1 hr1
        split at h
        case h_2 => cases h
        rename_i T1 K1 hid1
        split at h
        case isFalse => cases h
        rename_i hst
        obtain ⟨e, he, hq⟩ := endY_ok h
        refine YFn.of hid hps fun l => ((hrun true (some l) _ _ (fun h => by cases h) _ _ _ hr1).mono ?_)
        rintro ex b ⟨rfl, rfl⟩
        refine ⟨T1, K1, hid1, hst, (hrun true (some l) _ _ (fun h => by cases h) _ _ _ he).mono ?_⟩
        rintro ex b ⟨rfl, rfl⟩; exact hq
    · intro f args H out H' hp h
      unfold callN at h
      split at h
      · cases h
      split at h
      · cases h
      split at h
      case isFalse => cases h
      try rw [if_pos hp] at h
      split at h
      · cases h
      split at h
      · split at h
        · cases h; rfl
        · cases h
      · cases h
    · intro gf args H r h
      unfold callN at h
      split at h
      · cases h
      rename_i fn hfn
      split at h
      · cases h
      rename_i c hb
      exact enters_call hY.enters hfn hb

/-- A run of a function of values. -/
theorem PureFn.run {Y : Ways} (hY : WaysRight P Y) (d : Nat) {f : FuncId} {fn : Func} {c : Code} {args : List AV} {out : Out} (hf : P.funcs[f]? = some fn) (hb : fn.body = some c) (hn : args.length ≤ fn.ntmps)
    (h : endP P fn (runC P (callN P Y d) Y.pm fn.ntmps false Y.fuel c ⟨argT 0 args, [], []⟩) = some out) : PureFn P f args out := by
  obtain ⟨e, he, hq⟩ := endP_ok h
  obtain ⟨h1, h2, h3⟩ := callN_ok hY d
  refine PureFn.of hf hb (enters_call hY.enters hf hb) hn ((runC_ok (m := 0) hY.mixed h1 h2 h3 (R := none) (fun _ => rfl) Y.fuel c _ _ he).mono ?_)
  rintro ex b ⟨rfl, rfl⟩; exact hq
end
end Go.Av
namespace Go.Av
set_option linter.unusedVariables false
set_option linter.unusedSimpArgs false
open Go.RowKit (Below)
section
variable {P : Program} {w0 : World} {F0 F F' : Nat → Nat → Prop} {μ μ' : Nat → Option Loc} {H H' : List OB} {w w' : World} {n m : Nat} {R : Option Nat} {a : St} {act : Act} {Q : Ex → St → Prop}

/-- A function that writes the caller's memory, out of its body. -/
theorem ShFnS.of {S : Out → List OB → Prop} {f : FuncId} {fn : Func} {c : Code} {args : List AV} (hf : P.funcs[f]? = some fn) (hb : fn.body = some c) (hc : ∀ Vs w, (callFunc f Vs).run P w = .ok (.enter f Vs) w) (hn : args.length ≤ fn.ntmps)
    (hle : ∀ o K, S o K → H.length ≤ K.length) (h : W P fn.ntmps H.length none c (fun ex a => ∃ out H', S out H' ∧ retS P fn.results.toList out H' ex a) ⟨argT 0 args, H, []⟩) : ShFnS P f args H S := by
  intro w0 F0 F μ w Vs s0 hv
  refine .inl ⟨w, hc _ _, rfl, (callsIn_wide (n := 1)).1 (callsIn_of_wp_marks hf hb trivial ?_ rfl)⟩
  refine wpIn_mono (h ⟨w0, F0, w, F, μ, s0.dom⟩ _ w ⟨F, μ, s0, Ext.refl _ _ _, RelT.start hv hn⟩) ?_
  rintro e act' w' ⟨ex, a', F', μ', ⟨out, H', hS, hq⟩, hx, s, y, t⟩
  have hle := hle _ _ hS
  have hext : ∀ (H1 : List OB) (w'' : World) (x : Ext F' w' μ' F' w'' μ') (s'' : Sim w0 F0 F' μ' H1 w'') (hs : subH H'.length H1 H'), Ext F w μ F' w'' (cutμ H'.length μ') ∧ Sim w0 F0 F' (cutμ H'.length μ') H' w'' := by
    intro H1 w'' x s'' hs
    have y' := y.trans x
    refine ⟨⟨?_, y'.fr, y'.cell, y'.obj⟩, s''.cut rfl (subH_get hs)⟩
    intro id L hL
    have := s0.dom id L hL
    unfold cutμ
    rw [if_pos (by omega)]
    exact y'.mu _ _ hL
  have hret : (∃ a1, endA a' = some a1 ∧ retPS P fn.results.toList out H' a1) → LeavesInM Fence.wide 1 P fn act'.tmps (fun e w' => ∃ out H' F' μ', S out H' ∧ Ext F w μ F' w' μ' ∧ Sim w0 F0 F' μ' H' w' ∧ OutR F' w' μ' out e) act'.defers .returning w' := by
    rintro ⟨a1, h1, hq⟩
    refine endA_ok (by simp) s t h1 fun w'' x s'' t'' => ?_
    cases out with
    | pan _ _ => exact hq.elim
    | ret r =>
      obtain ⟨r', h1, h2, h3, h4⟩ := hq
      obtain ⟨V, h5, h6⟩ := results_ok (P := P) (act := { act' with defers := [] }) s'' t'' h1
      obtain ⟨x1, s1⟩ := hext _ _ x s'' h4
      exact ⟨V, h5, _, _, F', _, hS, x1, s1, .ret r V ((h6.le h2).cut h3)⟩
  cases hx with
  | normal => exact hret hq
  | ret => exact hret hq
  | exit id => exact hq.elim
  | goto l => exact hq.elim
  | panic tt v V hV =>
    obtain ⟨a1, h1, hq⟩ := hq
    refine endA_ok (by simp) s t h1 fun w'' x s'' t'' => ?_
    cases out with
    | ret _ => exact hq.elim
    | pan t' v' =>
      obtain ⟨rfl, h2, h3, h4⟩ := hq
      obtain ⟨x1, s1⟩ := hext _ _ x s'' h4
      exact ⟨_, _, F', _, hS, x1, s1, .pan tt v' V (((VR.mono x hV).le h2).cut h3)⟩

/-- A loop over a function. -/
theorem W.rangeFuncS {S : Out → List OB → Prop} {g : Operand} {ps : Array Tmp} {assign body : Code} {gf : FuncId} {fs cs : List AV}
    (hg : a.ev g = .func (.func gf) fs cs) (hc : ∀ Vs w, (callFunc gf Vs).run P w = .ok (.enter gf Vs) w)
    (hcall : ShFnS P gf (fs ++ [.yld (a.H.length + 1)] ++ cs) (a.H ++ [.dfr, .loop a.T ⟨n, ps, assign, body, .ready, none⟩]) S)
    (hq : ∀ out H', S out H' → ∃ r T' K', out = .ret r ∧ H'[a.H.length + 1]? = some (.loop T' K') ∧ K'.st ≠ .busy ∧ behindQ P n m Q ⟨a.T, H'.set (a.H.length + 1) .dead, a.H.length :: a.D⟩ K'.pend) : W P n m none (.rangeFunc g ps assign body) Q a := by
  intro B act w ⟨F, μ, s, y, t⟩
  refine wpIn_rangeFunc (F := fnc none) fun fn _ => ?_
  have hgv := t.ev g
  rw [hg] at hgv
  generalize hX : act.eval g = X at hgv
  cases hgv with
  | func _ _ _ Fs Cs h1 h2 =>
    -- the two blocks
    obtain ⟨μ1, x1, m1, s1⟩ := s.alloc (.deferred (some [])) .dfr ⟨w.heap.size, 0, 0⟩ rfl (fun μ' x hm hF => .dfr _ hm s.below.size (by simp) hF)
    have hlen1 : ({ w with heap := w.heap.push (.deferred (some [])) } : World).heap.size = w.heap.size + 1 := by simp
    obtain ⟨μ2, x2, m2, s2⟩ := s1.alloc (.loop { state := .ready, pending := none, fn, tmps := act.tmps, params := ps, assign, body, defers := w.heap.size }) (.loop a.T ⟨n, ps, assign, body, .ready, none⟩)
      ⟨w.heap.size + 1, 0, 0⟩ hlen1.symm (fun μ' x hm hF => .loop _ _ _ { state := .ready, pending := none, fn, tmps := act.tmps, params := ps, assign, body, defers := w.heap.size } hm (by have := s.below.size; show _ ≤ w.heap.size + 1; omega) (by show ((w.heap.push _).push _)[w.heap.size + 1]? = _; rw [Array.getElem?_push, if_pos (by simp)]) rfl rfl rfl rfl rfl t.size (fun i => VR.mono (x1.trans x) (t.slots i)) hF)
    have x12 := x1.trans x2
    rw [List.length_append, List.length_singleton] at m2
    have hH : a.H ++ [OB.dfr] ++ [OB.loop a.T ⟨n, ps, assign, body, .ready, none⟩] = a.H ++ [.dfr, .loop a.T ⟨n, ps, assign, body, .ready, none⟩] := by simp
    rw [hH] at s2
    have m1' := x2.mu _ _ m1
    refine ⟨w.heap.size + 1, [{ target := .collected w.heap.size, args := #[] }], (w.alloc (.deferred (some []))).alloc (.loop { state := .ready, pending := none, fn, tmps := act.tmps, params := ps, assign, body, defers := w.heap.size }), { target := .fn (.func gf) Cs, args := Fs ++ #[.func (.yield (w.heap.size + 1)) #[] #[]] }, (w.alloc (.deferred (some []))).alloc (.loop { state := .ready, pending := none, fn, tmps := act.tmps, params := ps, assign, body, defers := w.heap.size }), gf,
      (Fs.toList ++ [Value.func (.yield (w.heap.size + 1)) #[] #[]] ++ Cs.toList).toArray, (w.alloc (.deferred (some []))).alloc (.loop { state := .ready, pending := none, fn, tmps := act.tmps, params := ps, assign, body, defers := w.heap.size }), run_enterLoop_outer fn act.tmps ps assign body, ?_, fun _ _ => trivial, ?_, fun _ => Nat.le_refl _, ?_⟩
    · simp only [rangeCall, resolve, hX, Deferred.ofValue, Sem.run_pure]
      simp [Act.eval]
    · simp only [invoke]
      have : (Fs ++ #[Value.func (.yield (w.heap.size + 1)) #[] #[]] ++ Cs) = (Fs.toList ++ [Value.func (.yield (w.heap.size + 1)) #[] #[]] ++ Cs.toList).toArray := by apply Array.ext'; simp
      rw [this]; exact hc _ _
    · refine callsIn_fnc.2 ?_
      have hvs : VRs F ((w.alloc (.deferred (some []))).alloc (.loop { state := .ready, pending := none, fn, tmps := act.tmps, params := ps, assign, body, defers := w.heap.size })) μ2 (fs ++ [.yld (a.H.length + 1)] ++ cs)
          (Fs.toList ++ [Value.func (.yield (w.heap.size + 1)) #[] #[]] ++ Cs.toList) :=
        ((VRs.mono x12 h1).append (.cons _ _ _ _ (.yld _ _ m2) .nil)).append (VRs.mono x12 h2)
      have hcc := hcall B.w0 B.F0 F μ2 _ _ s2 hvs
      have hgo : Calls P gf (Fs.toList ++ [Value.func (.yield (w.heap.size + 1)) #[] #[]] ++ Cs.toList).toArray ((w.alloc (.deferred (some []))).alloc (.loop { state := .ready, pending := none, fn, tmps := act.tmps, params := ps, assign, body, defers := w.heap.size }))
          (fun e w' => ∃ out H' F' μ', S out H' ∧ Ext F ((w.alloc (.deferred (some []))).alloc (.loop { state := .ready, pending := none, fn, tmps := act.tmps, params := ps, assign, body, defers := w.heap.size })) μ2 F' w' μ' ∧ Sim B.w0 B.F0 F' μ' H' w' ∧ OutR F' w' μ' out e) := by
        rcases hcc with ⟨w1, g1, rfl, g2⟩ | ⟨V, w1, g1, g2⟩
        · exact g2
        · rw [hc] at g1; cases g1
      refine hgo.mono ?_
      rintro e w3 ⟨out, H', F3, μ3, hS, x3, s3, ho⟩
      obtain ⟨r, T', K', rfl, hloop, hst, hq⟩ := hq out H' hS
      cases ho with
      | ret _ V hV =>
        have hμ3 := x3.mu _ _ m2
        have hob := s3.obs _ _ hloop
        cases hob with
        | loop _ _ L' rec hμ' hB hw e1 e2 e3 e4 e5 e6 hT hF =>
          rw [hμ3] at hμ'; cases hμ'
          obtain ⟨x4, s4⟩ := s3.write (a.H.length + 1) _ .dead _ hloop rfl hμ3 (.loop { rec with state := .exhausted }) (fun _ => .dead)
          have y4 := y.trans (x12.trans (x3.trans x4))
          have t4 : RelT n F3 μ3 ⟨a.T, H'.set (a.H.length + 1) .dead, a.H.length :: a.D⟩ { act with defers := [{ target := .collected w.heap.size, args := #[] }] ++ act.defers } (w3.putObj (w.heap.size + 1) (.loop { rec with state := .exhausted })) :=
            ⟨.cons _ ⟨w.heap.size, 0, 0⟩ _ _ (x3.mu _ _ m1') (t.defers.mono (x12.trans x3).mu), t.size, fun i => VR.mono (x12.trans (x3.trans x4)) (t.slots i)⟩
          refine ⟨_, _, run_endLoop hw (by rw [e4]; exact hst), ?_⟩
          have key : ∀ (pe : Option Code) (act' : Act) (W4 : World), behindQ P n m Q ⟨a.T, H'.set (a.H.length + 1) .dead, a.H.length :: a.D⟩ pe → Sim B.w0 B.F0 F3 μ3 (H'.set (a.H.length + 1) .dead) W4 → Ext B.Fs B.ws B.μs F3 W4 μ3 →
              RelT n F3 μ3 ⟨a.T, H'.set (a.H.length + 1) .dead, a.H.length :: a.D⟩ act' W4 → (match pe with | none => RelE n B Q .normal act' W4 | some c => c.wpIn (fnc none) 1 P (RelE n B Q) act' W4) := by
            intro pe act' W4 hq s4 y4 t4
            cases pe with
            | none => exact ⟨_, _, F3, μ3, hq, .normal, s4, y4, t4⟩
            | some c => exact hq B _ _ ⟨F3, μ3, s4, y4, t4⟩
          exact key rec.pending _ _ (by rw [e5]; exact hq) s4 y4 t4
end
end Go.Av
namespace Go.Av
set_option linter.unusedVariables false
set_option linter.unusedSimpArgs false
open Go.RowKit (Below)

/-- What a function hands back: no memory that is written, or one slice of it. -/
def retO (P : Program) (rs : List ResultVar) (S : Out → List OB → Prop) : Ex → St → Prop
  | .normal, a | .ret, a => ∃ a', endA a = some a' ∧ ((∃ v, resA P rs a' = some v ∧ AV.hf v = true ∧ S (.ret v) []) ∨
      (∃ d off len wd cs opn, resA P rs a' = some (.sl d off len wd) ∧ a'.H[d]? = some (.cells cs opn) ∧ AV.hfs cs = true ∧ S (.ret (.sl 0 off len wd)) [.cells cs opn]))
  | _, _ => False

section
variable {P : Program} {w0 : World} {F0 F F' : Nat → Nat → Prop} {μ μ' : Nat → Option Loc} {H H' : List OB} {w w' : World} {n m : Nat} {R : Option Nat} {a : St} {act : Act} {Q : Ex → St → Prop}

theorem Sim.none (s : Sim w0 F0 F μ H w) : Sim w0 F0 F noμ [] w :=
  ⟨s.below, s.new, s.old, s.lt, fun id b h => by simp at h, fun i j bi bj Li Lj h => by simp at h, fun id L h => by cases h⟩

theorem VRs.hf_any {l : List AV} {L : List Value} (h : VRs F w μ l L) (hh : AV.hfs l = true) : VRs F w μ' l L :=
  VRs.mono (F := F) (w := w) (μ := noμ) ⟨(fun _ _ h => by cases h), (fun _ _ h => h), (fun _ _ _ _ h => h), (fun _ _ _ _ h => h)⟩ (h.hf_no hh)
theorem VR.hf_any {v : AV} {V : Value} (h : VR F w μ v V) (hh : AV.hf v = true) : VR F w μ' v V :=
  VR.mono (F := F) (w := w) (μ := noμ) ⟨(fun _ _ h => by cases h), (fun _ _ h => h), (fun _ _ _ _ h => h), (fun _ _ _ _ h => h)⟩ (h.hf_no hh)

theorem Sim.lone (s : Sim w0 F0 F μ H w) {d : Nat} {cs : List AV} {opn : Bool} (hd : H[d]? = some (.cells cs opn)) (hh : AV.hfs cs = true) : Sim w0 F0 F (fun i => if i = 0 then μ d else Option.none) [.cells cs opn] w := by
  refine ⟨s.below, s.new, s.old, s.lt, ?_, ?_, ?_⟩
  · intro id b h
    cases id with
    | succ id => simp at h
    | zero =>
      simp at h; subst h
      have hob := s.obs d _ hd
      cases hob with
      | cells _ _ L c el lo hi hμ hB hw hcap hlen hfix hun hcs hF =>
        refine .cells cs opn L c el lo hi (by simpa using hμ) hB hw hcap hlen hfix hun (fun i v hi => ?_) hF
        obtain ⟨V, h1, h2⟩ := hcs i v hi
        rw [hfs_all] at hh
        exact ⟨V, h1, h2.hf_any (List.all_eq_true.1 hh v (List.mem_of_getElem? hi))⟩
  · intro i j bi bj Li Lj hi hj _ _ _ _ hij
    cases i with
    | succ i => simp at hi
    | zero =>
      cases j with
      | succ j => simp at hj
      | zero => exact (hij rfl).elim
  · intro id L h
    by_cases e : id = 0
    · subst e; simp
    · simp [e] at h

theorem ShFnS.of0 {S : Out → List OB → Prop} {f : FuncId} {fn : Func} {c : Code} {args : List AV} (hf : P.funcs[f]? = some fn) (hb : fn.body = some c) (hc : ∀ Vs w, (callFunc f Vs).run P w = .ok (.enter f Vs) w) (hn : args.length ≤ fn.ntmps)
    (h : W P fn.ntmps 0 none c (retO P fn.results.toList S) ⟨argT 0 args, [], []⟩) : ShFnS P f args [] S := by
  intro w0 F0 F μ w Vs s0 hv
  refine .inl ⟨w, hc _ _, rfl, (callsIn_wide (n := 1)).1 (callsIn_of_wp_marks hf hb trivial ?_ rfl)⟩
  refine wpIn_mono (h ⟨w0, F0, w, F, μ, s0.dom⟩ _ w ⟨F, μ, s0, Ext.refl _ _ _, RelT.start hv hn⟩) ?_
  rintro e act' w' ⟨ex, a', F', μ', hq, hx, s, y, t⟩
  have hno : ∀ {w''} μ'', Ext F w μ F' w'' μ' → Ext F w μ F' w'' μ'' := fun μ'' x =>
    ⟨fun id L hL => by have := s0.dom id L hL; simp at this, x.fr, x.cell, x.obj⟩
  have hret : (∃ a1, endA a' = some a1 ∧ ((∃ v, resA P fn.results.toList a1 = some v ∧ AV.hf v = true ∧ S (.ret v) []) ∨
      (∃ d off len wd cs opn, resA P fn.results.toList a1 = some (.sl d off len wd) ∧ a1.H[d]? = some (.cells cs opn) ∧ AV.hfs cs = true ∧ S (.ret (.sl 0 off len wd)) [.cells cs opn]))) →
      LeavesInM Fence.wide 1 P fn act'.tmps (fun e w' => ∃ out H' F' μ', S out H' ∧ Ext F w μ F' w' μ' ∧ Sim w0 F0 F' μ' H' w' ∧ OutR F' w' μ' out e) act'.defers .returning w' := by
    rintro ⟨a1, h1, hq⟩
    refine endA_ok (by simp) s t h1 fun w'' x s'' t'' => ?_
    rcases hq with ⟨v, h2, h3, h4⟩ | ⟨d, off, len, wd, cs, opn, h2, h3, h4, h5⟩
    · obtain ⟨V, h6, h7⟩ := results_ok (P := P) (act := { act' with defers := [] }) s'' t'' h2
      exact ⟨V, h6, _, _, F', noμ, h4, hno _ (y.trans x), s''.none, .ret v V (h7.hf_any h3)⟩
    · obtain ⟨V, h6, h7⟩ := results_ok (P := P) (act := { act' with defers := [] }) s'' t'' h2
      refine ⟨V, h6, _, _, F', _, h5, hno _ (y.trans x), s''.lone h3 h4, .ret _ V ?_⟩
      cases h7 with
      | sl _ _ _ _ cap L hμ hcc hl hbb => exact .sl 0 off len wd cap L (by simpa using hμ) hcc hl hbb
  cases hx with
  | normal => exact hret hq
  | ret => exact hret hq
  | exit id => exact hq.elim
  | goto l => exact hq.elim
  | panic tt v V hV => exact hq.elim
theorem ShFnS.ofX {S : Out → List OB → Prop} {f : FuncId} {fn : Func} {c : Code} {args : List AV} (hf : P.funcs[f]? = some fn) (hb : fn.body = some c) (hc : ∀ Vs w, (callFunc f Vs).run P w = .ok (.enter f Vs) w) (hn : args.length ≤ fn.ntmps)
    (h : W P fn.ntmps H.length none c (fun ex a => ∃ out H', S out H' ∧ retX P fn.results.toList out H' ex a) ⟨argT 0 args, H, []⟩) : ShFnS P f args H S := by
  intro w0 F0 F μ w Vs s0 hv
  refine .inl ⟨w, hc _ _, rfl, (callsIn_wide (n := 1)).1 (callsIn_of_wp_marks hf hb trivial ?_ rfl)⟩
  refine wpIn_mono (h ⟨w0, F0, w, F, μ, s0.dom⟩ _ w ⟨F, μ, s0, Ext.refl _ _ _, RelT.start hv hn⟩) ?_
  rintro e act' w' ⟨ex, a', F', μ', ⟨out, H', hS, hq⟩, hx, s, y, t⟩
  have hret : (∃ a1, endA a' = some a1 ∧ a1.H = H' ∧ ∃ r, resA P fn.results.toList a1 = some r ∧ out = .ret r) → LeavesInM Fence.wide 1 P fn act'.tmps (fun e w' => ∃ out H' F' μ', S out H' ∧ Ext F w μ F' w' μ' ∧ Sim w0 F0 F' μ' H' w' ∧ OutR F' w' μ' out e) act'.defers .returning w' := by
    rintro ⟨a1, h1, rfl, r, h2, rfl⟩
    refine endA_ok (by simp) s t h1 fun w'' x s'' t'' => ?_
    obtain ⟨V, h5, h6⟩ := results_ok (P := P) (act := { act' with defers := [] }) s'' t'' h2
    exact ⟨V, h5, _, _, F', μ', hS, y.trans x, s'', .ret r V h6⟩
  cases hx with
  | normal => exact hret hq
  | ret => exact hret hq
  | exit id => exact hq.elim
  | goto l => exact hq.elim
  | panic tt v V hV =>
    obtain ⟨a1, h1, rfl, rfl⟩ := hq
    refine endA_ok (by simp) s t h1 fun w'' x s'' t'' => ?_
    exact ⟨_, _, F', μ', hS, y.trans x, s'', .pan tt v V (VR.mono x hV)⟩


theorem nodup_lt : ∀ (n : Nat) (s : List Nat), s.Nodup → (∀ j ∈ s, j < n) → s.length ≤ n := by
  intro n
  induction n with
  | zero =>
    intro s _ h
    cases s with
    | nil => simp
    | cons x s => have := h x (by simp); omega
  | succ n ih =>
    intro s hs h
    have h1 := ih (s.erase n) (hs.erase n) (fun j hj => by
      have := (hs.mem_erase_iff).1 hj
      have := h j this.2
      omega)
    rw [List.length_erase] at h1
    split at h1 <;> omega

theorem fz_sl0 {id off len k : Nat} {cs : List AV} {opn : Bool} (h : H[id]? = some (.cells cs opn)) (hl : off + len ≤ cs.length) (hh : AV.hfs ((cs.drop off).take len) = true) (ho : ((cs.drop off).take len).all AV.one = true) :
    fz H (k + 1) (.sl id off len 0) = some (.vsl 0 false ((cs.drop off).take len)) := by
  unfold fz
  rw [if_neg (by simp [AV.hf])]
  simp only [h, esz, Nat.mul_one]
  rw [if_pos hl, if_pos hh]
  simp only [Option.bind_some]
  rw [if_pos ho]
end
end Go.Av
namespace Go.Av
set_option linter.unusedVariables false
set_option linter.unusedSimpArgs false
open Go.RowKit (Below)

/-- These slots hold these. -/
def holdsT (T : List (Nat × AV)) : List (Nat × AV) → Prop
  | [] => True
  | (t, v) :: r => get T t = v ∧ holdsT T r

theorem holdsT_get {T : List (Nat × AV)} : ∀ {C : List (Nat × AV)}, holdsT T C → ∀ t, get C t = .junk ∨ get T t = get C t := by
  intro C
  induction C with
  | nil => intro _ t; exact .inl rfl
  | cons p r ih =>
    intro h t
    obtain ⟨s, v⟩ := p
    simp only [holdsT] at h
    simp only [get]
    by_cases e : s = t
    · subst e; rw [if_pos rfl]; exact .inr h.1
    · rw [if_neg e]; exact ih h.2 t

section
variable {P : Program} {n m : Nat} {R : Option Nat} {a : St} {Q : Ex → St → Prop}

theorem Rel.fewer {k : Nat} {B : Bs k} {b : St} {act : Act} {w : World} (hT : holdsT a.T b.T) (hH : b.H = a.H) (hD : b.D = a.D) (r : Rel n B a act w) : Rel n B b act w := by
  obtain ⟨F, μ, s, y, t⟩ := r
  refine ⟨F, μ, by rw [hH]; exact s, y, ⟨by rw [hD]; exact t.defers, t.size, fun i => ?_⟩⟩
  rcases holdsT_get hT i with h | h
  · rw [h]; exact .junk _
  · rw [← h]; exact t.slots i

theorem W.fewer {c : Code} (C : List (Nat × AV)) (hT : holdsT a.T C) (h : W P n m R c Q ⟨C, a.H, a.D⟩) : W P n m R c Q a :=
  fun B act w r => h B act w (r.fewer (b := ⟨C, a.H, a.D⟩) hT rfl rfl)

/-- A loop: at its head these slots hold these, memory is this. -/
theorem W.loopT {c : Code} {X : Type} (C : X → List (Nat × AV)) (Hx : X → List OB) (ok : X → Prop) (ms : X → Nat) (x0 : X) (hx : ok x0) (hT : holdsT a.T (C x0)) (hH : a.H = Hx x0)
    (round : ∀ x, ok x → W P n m R c (thenQ (fun a' => ∃ y, ok y ∧ ms y < ms x ∧ holdsT a'.T (C y) ∧ a'.H = Hx y ∧ a'.D = a.D) Q) ⟨C x, Hx x, a.D⟩) : W P n m R (.loop c) Q a := by
  refine W.loop (X := X) (fun x a' => ok x ∧ holdsT a'.T (C x) ∧ a'.H = Hx x ∧ a'.D = a.D) ms x0 ⟨hx, hT, hH, rfl⟩ ?_
  rintro x ⟨T, H, D⟩ ⟨h1, h2, h3, h4⟩
  simp only at h2 h3 h4
  subst h3; subst h4
  refine W.fewer (C x) h2 ((round x h1).mono ?_)
  intro ex b hq
  cases ex with
  | normal => obtain ⟨y, q1, q2, q3, q4, q5⟩ := hq; exact ⟨y, ⟨q1, q3, q4, q5⟩, q2⟩
  | exit _ => exact hq
  | goto _ => exact hq
  | ret => exact hq
  | panic _ _ => exact hq

/-- One part, then the next, with the slots that count between them. -/
theorem W.seqT {x y : Code} (C : List (Nat × AV)) (H' : List OB) (h1 : W P n m R x (thenQ (fun a' => holdsT a'.T C ∧ a'.H = H' ∧ a'.D = a.D) Q) a) (h2 : W P n m R y Q ⟨C, H', a.D⟩) : W P n m R (.seq x y) Q a := by
  refine .seq (h1.mono ?_)
  intro ex b hq
  cases ex with
  | normal =>
    obtain ⟨q1, rfl, q3⟩ := hq
    refine W.fewer C q1 ?_
    rw [q3]; exact h2
  | exit _ => exact hq
  | goto _ => exact hq
  | ret => exact hq
  | panic _ _ => exact hq

theorem W.seqP {x y : Code} (p : Prop) (C : List (Nat × AV)) (H' : List OB) (h1 : W P n m R x (thenQ (fun a' => p ∧ holdsT a'.T C ∧ a'.H = H' ∧ a'.D = a.D) Q) a) (h2 : p → W P n m R y Q ⟨C, H', a.D⟩) : W P n m R (.seq x y) Q a := by
  refine .seq (h1.mono ?_)
  intro ex b hq
  cases ex with
  | normal =>
    obtain ⟨hp, q1, rfl, q3⟩ := hq
    refine W.fewer C q1 ?_
    rw [q3]; exact h2 hp
  | exit _ => exact hq
  | goto _ => exact hq
  | ret => exact hq
  | panic _ _ => exact hq

/-- A loop whose rounds lay blocks of their own, given up at each round's end. -/
theorem W.loopG {c : Code} {X : Type} (C : X → List (Nat × AV)) (Hx : X → List OB) (ok : X → Prop) (ms : X → Nat) (x0 : X) (hm : ∀ x, m ≤ (Hx x).length) (hD : a.D = []) (hx : ok x0) (hT : subT a.T (C x0)) (hh : hltT (Hx x0).length (C x0) = true) (hH : subH (Hx x0).length a.H (Hx x0))
    (round : ∀ x, ok x → W P n m R c (thenQ (fun a' => ∃ y, ok y ∧ ms y < ms x ∧ subT a'.T (C y) ∧ hltT (Hx y).length (C y) = true ∧ subH (Hx y).length a'.H (Hx y) ∧ a'.D = []) Q) ⟨C x, Hx x, []⟩) : W P n m R (.loop c) Q a := by
  refine W.loop (X := X) (fun x a' => ok x ∧ subT a'.T (C x) ∧ hltT (Hx x).length (C x) = true ∧ subH (Hx x).length a'.H (Hx x) ∧ a'.D = []) ms x0 ⟨hx, hT, hh, hH, hD⟩ ?_
  rintro x a' ⟨h1, h2, h3, h4, h5⟩
  refine W.weaken ⟨C x, Hx x, []⟩ ⟨h5, rfl⟩ (hm x) h2 h3 h4 ((round x h1).mono ?_)
  intro ex b hq
  cases ex with
  | normal => obtain ⟨y, q1, q2, q3, q4, q5, q6⟩ := hq; exact ⟨y, ⟨q1, q3, q4, q5, q6⟩, q2⟩
  | exit _ => exact hq
  | goto _ => exact hq
  | ret => exact hq
  | panic _ _ => exact hq
end
end Go.Av
namespace Go.Av
set_option linter.unusedVariables false
set_option linter.unusedSimpArgs false
section
variable {P : Program} {t : TypeId} {k : IntKind}
theorem b_lss (a b : Int) : evBin P .lss t (.int k a) (.int k b) = some (.bool (decide (a < b))) := by simp [evBin]
theorem b_leq (a b : Int) : evBin P .leq t (.int k a) (.int k b) = some (.bool (decide (a ≤ b))) := by simp [evBin]
theorem b_gtr (a b : Int) : evBin P .gtr t (.int k a) (.int k b) = some (.bool (decide (a > b))) := by simp [evBin]
theorem b_geq (a b : Int) : evBin P .geq t (.int k a) (.int k b) = some (.bool (decide (a ≥ b))) := by simp [evBin]
theorem b_eql (a b : Int) : evBin P .eql t (.int k a) (.int k b) = some (.bool (a == b)) := by simp [evBin]
theorem b_neq (a b : Int) : evBin P .neq t (.int k a) (.int k b) = some (.bool (a != b)) := by simp [evBin]
theorem wrap64 (a : Int) (h : -9223372036854775808 ≤ a ∧ a < 9223372036854775808) : IntKind.wrap .i64 a = a := by
  unfold IntKind.wrap
  simp [IntKind.bits, IntKind.signed]
  omega
theorem b_add64 (a b : Int) (h : -9223372036854775808 ≤ a + b ∧ a + b < 9223372036854775808) : evBin P .add t (.int .i64 a) (.int .i64 b) = some (.int .i64 (a + b)) := by simp [evBin, wrap64 _ h]
theorem b_sub64 (a b : Int) (h : -9223372036854775808 ≤ a - b ∧ a - b < 9223372036854775808) : evBin P .sub t (.int .i64 a) (.int .i64 b) = some (.int .i64 (a - b)) := by simp [evBin, wrap64 _ h]
theorem idx_nat (n : Nat) : idx (.int k (n : Int)) = some n := by simp [idx]
theorem s_eql (a b : Bytes) : evBin P .eql t (.str a) (.str b) = some (.bool (a == b)) := by simp [evBin]
theorem s_neq (a b : Bytes) : evBin P .neq t (.str a) (.str b) = some (.bool !(a == b)) := by simp [evBin]
theorem s_geq (a b : Bytes) : evBin P .geq t (.str a) (.str b) = some (.bool !(Op.bytesLess a b)) := by simp [evBin]
end

/-- How long a value may be. -/
def AV.fit : AV → Prop
  | .str s => s.length ≤ maxLen'
  | .vsl _ _ es => es.length ≤ maxLen'
  | _ => True

theorem VR.fit {F : Nat → Nat → Prop} {w : World} {μ : Nat → Option Loc} {v : AV} {V : Value} (h : VR F w μ v V) : v.fit := by
  cases h <;> first | exact trivial | assumption

theorem VRs.fit {F : Nat → Nat → Prop} {w : World} {μ : Nat → Option Loc} {l : List AV} {L : List Value} (h : VRs F w μ l L) : ∀ v ∈ l, v.fit := by
  intro v hv
  obtain ⟨i, hi⟩ := List.mem_iff_getElem?.1 hv
  obtain ⟨V, _, h2⟩ := h.get hi
  exact h2.fit

/-- What may be taken of the arguments' lengths. -/
theorem PureFn.fit {P : Program} {f : FuncId} {args : List AV} {out : Out} (h : (∀ v ∈ args, v.fit) → PureFn P f args out) : PureFn P f args out :=
  fun F w Vs hlt hv => h hv.fit F w Vs hlt hv

theorem setC_one (cs : List AV) (i : Nat) (v : AV) : setC cs i [v] = cs.set i v := rfl

/-- The first so many turned. -/
def mapN {α : Type} (f : α → α) : Nat → List α → List α
  | 0, l => l
  | _, [] => []
  | i + 1, x :: l => f x :: mapN f i l

theorem mapN_get {α : Type} (f : α → α) : ∀ (i : Nat) (l : List α), (mapN f i l)[i]? = l[i]?
  | 0, l => by simp [mapN]
  | i + 1, [] => rfl
  | i + 1, x :: l => by simp only [mapN, List.getElem?_cons_succ]; exact mapN_get f i l
theorem mapN_set {α : Type} (f : α → α) : ∀ (i : Nat) (l : List α) (x : α), l[i]? = some x → (mapN f i l).set i (f x) = mapN f (i + 1) l
  | _, [], x, h => by simp at h
  | 0, y :: l, x, h => by simp at h; subst h; rfl
  | i + 1, y :: l, x, h => by simp only [mapN, List.set_cons_succ]; rw [mapN_set f i l x (by simpa using h)]
theorem mapN_all {α : Type} (f : α → α) : ∀ (i : Nat) (l : List α), l.length ≤ i → mapN f i l = l.map f
  | 0, [], _ => rfl
  | _ + 1, [], _ => rfl
  | 0, x :: l, h => by simp at h
  | i + 1, x :: l, h => by simp only [mapN, List.map_cons]; rw [mapN_all f i l (by simpa using h)]
theorem mapN_len {α : Type} (f : α → α) : ∀ (i : Nat) (l : List α), (mapN f i l).length = l.length
  | 0, l => by simp [mapN]
  | _ + 1, [] => rfl
  | i + 1, x :: l => by simp only [mapN, List.length_cons]; rw [mapN_len f i l]
theorem set_same {α : Type} {l : List α} {i : Nat} {x : α} (h : l[i]? = some x) : l.set i x = l := by
  apply List.ext_getElem?
  intro j
  rw [List.getElem?_set]
  split
  · rename_i e; subst e
    rw [if_pos (List.getElem?_eq_some_iff.1 h).1, h]
  · rfl
theorem bytesA_set (s : Bytes) (i : Nat) (x : UInt8) : (bytesA s).set i (byteA x) = bytesA (s.set i x) := by simp [bytesA, List.map_set]
theorem bytesA_get {s : Bytes} {i : Nat} {x : UInt8} (h : s[i]? = some x) : (bytesA s)[i]? = some (byteA x) := by simp [bytesA, h]
theorem bytesA_len (s : Bytes) : (bytesA s).length = s.length := by simp [bytesA]
end Go.Av
namespace Go.Av
set_option linter.unusedVariables false
set_option linter.unusedSimpArgs false
open Go.RowKit (Below)

def isVal (o : Op) : Bool :=
  match o with
  | .call c => match c.callee with
    | .value _ => true
    | _ => false
  | _ => false

/-- None of these writes memory, but for calls. -/
def allRd (ops : Array Oper) : Bool := ops.toList.all fun o => isRd o.op || isVal o.op

theorem rd_of {P : Program} {o : Op} {a : St} {r : AV × List OB} (h : (isRd o || isVal o) = true) (he : evalOp P o a = some r) : isRd o = true := by
  cases hr : isRd o with
  | true => rfl
  | false =>
    rw [hr] at h
    simp only [Bool.false_or] at h
    unfold isVal at h
    split at h
    · rename_i c
      split at h
      · rename_i f hf
        simp only [evalOp, hf] at he
        cases he
      · cases h
    · cases h

/-- The operations in the order of the text, each from what it looks at; none writes memory. -/
def EDr (P : Program) (ops : Array Oper) (Q : St → Prop) : List CR → List Oper → St → Prop
  | _, [], a => Q a
  | rs, o :: rest, a => match gdA ops ⟨only ops o a.T, a.H, a.D⟩ o.guard with
    | none => False
    | some false => EDr P ops Q rs rest (a.put o.dst (.tup []))
    | some true => match callOf ⟨only ops o a.T, a.H, a.D⟩ o.op with
      | some (f, args) => match rs with
        | .pure (.ret r) :: rs => match f with
          | .fn f => match lend a.H args (.ret r) with
            | some args' => PureFn P f args' (.ret r) ∧ EDr P ops Q rs rest (a.put o.dst r)
            | none => False
          | .yld _ => False
        | _ => False
      | none => match isPanic o.op with
        | some _ => False
        | none => match evalOp P o.op ⟨only ops o a.T, a.H, a.D⟩ with
          | some (v, _) => EDr P ops Q rs rest (a.put o.dst v)
          | none => False

section
variable {P : Program} {n m : Nat} {R : Option Nat} {a : St} {Q : Ex → St → Prop} {ops : Array Oper}

theorem stepR_of {call : Cl → List AV → List OB → Option (Out × List OB)} (hf : fits n ops = true) (hc : CallsRight P call) {o : Oper} {v : AV} (h : stepA P call ops a o = some (.val v a.H)) : StepR P n m R ops o a (.val v a.H) :=
  stepA_ok hc hf h

open Classical in
theorem EDr_step (hf : fits n ops = true) {o : Oper} (hr : (isRd o.op || isVal o.op) = true) {Q' : St → Prop} {rs : List CR} {rest : List Oper} (h : EDr P ops Q' rs (o :: rest) a) :
    ∃ v rs', StepR P n m R ops o ⟨only ops o a.T, a.H, a.D⟩ (.val v a.H) ∧ EDr P ops Q' rs' rest (a.put o.dst v) := by
  unfold EDr at h
  split at h
  · exact h.elim
  · rename_i hg
    refine ⟨_, rs, stepR_of (call := fun _ _ _ => none) (a := ⟨only ops o a.T, a.H, a.D⟩) hf (fun _ _ _ _ _ h => by cases h) ?_, h⟩
    simp [stepA, hg]
  · rename_i hg
    split at h
    · rename_i f args hc
      split at h
      · rename_i r rs'
        split at h
        · rename_i f
          split at h
          · rename_i args' hl
            obtain ⟨hp, hq⟩ := h
            refine ⟨r, rs', stepR_of (call := fun c x H => if c = .fn f ∧ x = args ∧ H = a.H then some (.ret r, a.H) else none) (a := ⟨only ops o a.T, a.H, a.D⟩) hf ?_ ?_, hq⟩
            · intro c x H out H' hh
              simp only at hh
              split at hh
              · rename_i hcond
                obtain ⟨rfl, rfl, rfl⟩ := hcond
                cases hh
                exact PureFn.sh hl hp
              · cases hh
            · simp [stepA, hg, hc]
          · exact h.elim
        · exact h.elim
      · exact h.elim
    · rename_i hc
      split at h
      · exact h.elim
      · rename_i hpn
        split at h
        · rename_i v H' hev
          have hrd := rd_of hr hev
          have : H' = a.H := evalOp_rd (a := ⟨only ops o a.T, a.H, a.D⟩) hrd hev
          subst this
          refine ⟨v, rs, stepR_of (call := fun _ _ _ => none) (a := ⟨only ops o a.T, a.H, a.D⟩) hf (fun _ _ _ _ _ h => by cases h) ?_, h⟩
          simp [stepA, hg, hc, hpn, hev]
        · exact h.elim

theorem EDr_trace (hf : fits n ops = true) {Q' : St → Prop} : ∀ {l : List Oper} {rs : List CR} {a : St}, (l.all fun o => isRd o.op || isVal o.op) = true → EDr P ops Q' rs l a →
    ∃ (v : Nat → AV) (T : Nat → List (Nat × AV)), T 0 = a.T ∧ Q' ⟨T l.length, a.H, a.D⟩ ∧ ∀ (i : Nat) (o : Oper), l[i]? = some o →
      T (i + 1) = (match o.dst with | none => T i | some d => (d, v i) :: T i) ∧ StepR P n m R ops o ⟨only ops o (T i), a.H, a.D⟩ (.val (v i) a.H) := by
  intro l
  induction l with
  | nil => intro rs a _ h; exact ⟨fun _ => .junk, fun _ => a.T, rfl, h, by simp⟩
  | cons o l ih =>
    intro rs a hr h
    simp only [List.all_cons, Bool.and_eq_true] at hr
    obtain ⟨v0, rs', h1, h2⟩ := EDr_step (R := R) (m := m) hf hr.1 h
    obtain ⟨v, T, g1, g2, g3⟩ := ih hr.2 h2
    have hH : (a.put o.dst v0).H = a.H := by cases o.dst <;> rfl
    have hD : (a.put o.dst v0).D = a.D := by cases o.dst <;> rfl
    rw [hH, hD] at g2
    refine ⟨fun i => match i with | 0 => v0 | i + 1 => v i, fun i => match i with | 0 => a.T | i + 1 => T i, rfl, g2, ?_⟩
    intro i o' hi
    cases i with
    | zero =>
      simp at hi; subst hi
      refine ⟨?_, h1⟩
      show T 0 = _
      rw [g1]; cases o.dst <;> rfl
    | succ i =>
      have := g3 i o' (by simpa using hi)
      rw [hH, hD] at this
      exact this

/-- A region that draws its order and leaves memory as it was. -/
theorem W.draw {id : Nat} (rs : List CR) (hm : P.follows .mixedOrders = true) (hf : fits n ops = true) (hr : allRd ops = true) (hst : drawStatic ops (mkTab ops.toList []) = true) (h : EDr P ops (Q .normal) rs ops.toList a) : W P n m R (.region id ops true) Q a := by
  obtain ⟨v, T, h0, hq, ht⟩ := EDr_trace (R := R) (m := m) hf hr h
  have hstI : ∀ (i : Nat) (o : Oper), ops[i]? = some o → (o.after.toList.all (fun e => !Region.binds .any e || decide (e.on < i)) && (mkTab ops.toList []).getD i 0 == maskOf (mkTab ops.toList []) o &&
      (o.looksAt ops).all (fun t => (List.range ops.size).all fun j => match ops[j]? with | some o' => !dstB o' t || ((mkTab ops.toList []).getD i 0).testBit j | none => true) &&
      (match o.dst with | none => true | some d => (List.range ops.size).all fun j => j == i || match ops[j]? with | some o' => !dstB o' d | none => true)) = true := by
    intro i o ho
    have := all_range hst i (Array.getElem?_eq_some_iff.1 ho).1
    rw [ho] at this
    exact this
  have ht' : ∀ (i : Nat) (o : Oper), ops[i]? = some o → _ := fun i o ho => ht i o (by rw [Array.getElem?_toList]; exact ho)
  refine W.drawF (af := a) v T (fun _ => a.H) (fun _ => false) (fun i j => ((mkTab ops.toList []).getD i 0).testBit j) hm hf h0 (fun i o ho => (ht' i o ho).1) rfl ?_ ?_ ?_ ?_ ?_ ?_
  · intro i o e ho he hb
    have := hstI i o ho
    simp only [Bool.and_eq_true] at this
    have h1 := List.all_eq_true.1 this.1.1.1 e (Array.mem_toList_iff.2 he)
    simpa [hb] using h1
  · intro i j o ho hj
    have := hstI i o ho
    simp only [Bool.and_eq_true, beq_iff_eq] at this
    have h1 := this.1.1.2
    simp only [h1] at hj
    unfold maskOf at hj
    rcases foldl_or _ _ _ _ hj with h2 | ⟨e, he, hb, hje⟩
    · simp at h2
    · exact ⟨e, Array.mem_toList_iff.1 he, hb, hje⟩
  · intro i o t j o' ho ht ho' hd
    have := hstI i o ho
    simp only [Bool.and_eq_true] at this
    have h1 := all_range (List.all_eq_true.1 this.1.2 t ht) j (Array.getElem?_eq_some_iff.1 ho').1
    rw [ho'] at h1
    simpa [dstB, hd] using h1
  · intro i j o o' d ho ho' hd hd'
    have := hstI i o ho
    simp only [Bool.and_eq_true, hd] at this
    have h1 := all_range this.2 j (Array.getElem?_eq_some_iff.1 ho').1
    rw [ho'] at h1
    have : j = i := by simpa [dstB, hd'] using h1
    exact this.symm
  · intro i o k ho _ _
    exact (ht' i o ho).2
  · rw [← Array.length_toList]; exact hq
end
end Go.Av
