/- Regions of operations in the order of the text, calls by what is known of the callee: under the conditions named; a text without a program. -/
import Derived.Test.YtmeijkidjifagaaAvL
import Derived.OrdersIn
import Derived.RangeFuncSeq
namespace Go.Av
open Go.RowKit (Below)
set_option linter.unusedVariables false

/-- What is known of a call. -/
inductive CR where
  | pure (out : Out)
  | sh (out : Out) (H' : List OB)
  | any (S : Out → List OB → Prop)

/-- Who is called: a function, or the body of a loop over a function. -/
inductive Cl where
  | fn (f : FuncId)
  | yld (id : Nat)

/-- A call of a function with a body: which one, with what. -/
def callOf (a : St) (o : Op) : Option (Cl × List AV) :=
  match o with
  | .call c => match c.callee with
    | .value f => match a.ev f with
      | .func (.func g) fs cs => some (.fn g, fs ++ c.args.toList.map a.ev ++ cs)
      | .yld id => some (.yld id, c.args.toList.map a.ev)
      | _ => none
    | _ => none
  | _ => none

/-- The body of a loop over a function, called with these, ends so. -/
def YFn (P : Program) (id : Nat) (args : List AV) (H : List OB) (out : Out) (H' : List OB) : Prop :=
  ∀ (w0 : World) (F0 F : Nat → Nat → Prop) (μ : Nat → Option Loc) (w : World) (Vs : List Value) (L : Loc), Sim w0 F0 F μ H w → VRs F w μ args Vs → μ id = some L →
    YieldAt Fence.wide 0 P L.block Vs.toArray w (fun e w' => ∃ F' μ', Ext F w μ F' w' μ' ∧ Sim w0 F0 F' μ' H' w' ∧ OutR F' w' μ' out e)

/-- A function that writes memory of the caller's, and of which not all is told. -/
def ShFnS (P : Program) (f : FuncId) (args : List AV) (H : List OB) (S : Out → List OB → Prop) : Prop :=
  ∀ (w0 : World) (F0 F : Nat → Nat → Prop) (μ : Nat → Option Loc) (w : World) (Vs : List Value), Sim w0 F0 F μ H w → VRs F w μ args Vs →
    CallsA P f Vs.toArray w (fun e w' => ∃ out H' F' μ', S out H' ∧ Ext F w μ F' w' μ' ∧ Sim w0 F0 F' μ' H' w' ∧ OutR F' w' μ' out e)

theorem ShFn.anyS {P : Program} {f : FuncId} {args : List AV} {H H' : List OB} {out : Out} {S : Out → List OB → Prop} (h : ShFn P f args H out H') (hs : S out H') : ShFnS P f args H S :=
  fun w0 F0 F μ w Vs s hv => (h w0 F0 F μ w Vs s hv).mono fun e w' ⟨F', μ', x, s', o⟩ => ⟨out, H', F', μ', hs, x, s', o⟩

theorem ShFnS.one {P : Program} {f : FuncId} {args : List AV} {H H' : List OB} {out : Out} (h : ShFnS P f args H (fun o K => o = out ∧ K = H')) : ShFn P f args H out H' :=
  fun w0 F0 F μ w Vs s hv => (h w0 F0 F μ w Vs s hv).mono fun e w' ⟨_, _, F', μ', ⟨e1, e2⟩, x, s', o⟩ => by subst e1; subst e2; exact ⟨F', μ', x, s', o⟩

theorem ShFnS.mono {P : Program} {f : FuncId} {args : List AV} {H : List OB} {S S' : Out → List OB → Prop} (h : ShFnS P f args H S) (hs : ∀ o K, S o K → S' o K) : ShFnS P f args H S' :=
  fun w0 F0 F μ w Vs s hv => (h w0 F0 F μ w Vs s hv).mono fun e w' ⟨o, K, F', μ', h1, x, s', h2⟩ => ⟨o, K, F', μ', hs _ _ h1, x, s', h2⟩

def ClOK (P : Program) (c : Cl) (args : List AV) (H : List OB) (out : Out) (H' : List OB) : Prop :=
  match c with
  | .fn f => ShFn P f args H out H'
  | .yld id => YFn P id args H out H'

/-- What a run of an operation that calls comes to. -/
def Goes (P : Program) (r : Result Next) (R : Ending → World → Prop) : Prop :=
  (∃ f Vs w1, r = .ok (.enter f Vs) w1 ∧ Calls P f Vs w1 R) ∨ (∃ V w1, r = .ok (.value V) w1 ∧ R (.returned V) w1) ∨
  (∃ l f tmps as bd w1, r = .ok (.round l f tmps as bd) w1 ∧ RoundIn Fence.wide 0 P l f tmps as bd w1 R)

def isPanic : Op → Option Operand
  | .panic x => some x
  | _ => none

/-- Is an operation carried out? -/
def gdA (ops : Array Oper) (a : St) (g : Option (Nat × Bool)) : Option Bool :=
  match g with
  | none => some true
  | some (j, want) => match (ops[j]?).bind (·.dst) with
    | some d => match get a.T d with
      | .bool b => some (b == want)
      | .tup _ => some false
      | _ => none
    | none => none

def Out.scalar : Out → Bool
  | .ret r => r.scalar
  | .pan _ v => v.scalar

/-- What a callee of values is handed: the caller's own memory is lent to it. -/
def lend (H : List OB) (args : List AV) (out : Out) : Option (List AV) :=
  if AV.hfs args = true then some args else if out.scalar = true then args.mapM (fz H 20) else none

def EOps (P : Program) (ops : Array Oper) (Q : Ex → St → Prop) : List CR → List Oper → St → Prop
  | _, [], a => Q .normal a
  | rs, o :: rest, a => match gdA ops a o.guard with
    | none => False
    | some false => EOps P ops Q rs rest (a.put o.dst (.tup []))
    | some true => match callOf a o.op with
      | some (f, args) => match rs with
        | .pure out :: rs => match f with
          | .fn f => match lend a.H args out with
            | some args' => PureFn P f args' out ∧ match out with
              | .ret r => EOps P ops Q rs rest (a.put o.dst r)
              | .pan t v => Q (.panic t v) a
            | none => False
          | .yld _ => False
        | .sh out H' :: rs => ClOK P f args a.H out H' ∧ match out with
          | .ret r => EOps P ops Q rs rest ({ a with H := H' }.put o.dst r)
          | .pan t v => Q (.panic t v) { a with H := H' }
        | .any S :: rs => match f with
          | .fn f => ShFnS P f args a.H S ∧ ∀ out H', S out H' → match out with
            | .ret r => EOps P ops Q rs rest ({ a with H := H' }.put o.dst r)
            | .pan t v => Q (.panic t v) { a with H := H' }
          | .yld _ => False
        | [] => False
      | none => match isPanic o.op with
        | some x => match a.ev x with
          | .iface t v => Q (.panic t v) a
          | _ => False
        | none => match nextOf o.op a.ev a.H with
         | some (id, ks, vs, seen) => ∀ v H', NextR a.H id ks vs seen v H' → EOps P ops Q rs rest ({ a with H := H' }.put o.dst v)
         | none => match altA P o.op a with
          | true => ∀ b : Bool, EOps P ops Q rs rest (a.put o.dst (.bool b))
          | false => match evalOp P o.op a with
            | some (v, H') => EOps P ops Q rs rest ({ a with H := H' }.put o.dst v)
            | none => False

def fits (n : Nat) (ops : Array Oper) : Bool := ops.toList.all fun o => match o.dst with | some d => d < n | none => true

section
variable {P : Program} {w0 : World} {F0 F F' : Nat → Nat → Prop} {μ μ' : Nat → Option Loc} {H H' : List OB} {w w' : World} {n m : Nat} {R : Option Nat} {a : St} {act : Act} {Q : Ex → St → Prop}

theorem RelT.put (t : RelT n F μ a act w) (x : Ext F w μ F' w' μ') {v : AV} {V : Value} (hv : VR F' w' μ' v V) {dst : Option Nat} (hd : ∀ d, dst = some d → d < n) :
    RelT n F' μ' ({ a with H := H' }.put dst v) (act.put dst V) w' := by
  cases dst with
  | none => exact ⟨t.defers.mono x.mu, t.size, fun s => VR.mono x (t.slots s)⟩
  | some d =>
    refine ⟨t.defers.mono x.mu, by simp [Act.put, t.size], fun s => ?_⟩
    simp only [St.put, get, Act.put]
    by_cases e : d = s
    · subst e
      rw [if_pos rfl]
      have : d < act.tmps.size := by rw [t.size]; exact hd d rfl
      simp [Array.getD_eq_getD_getElem?, Array.getElem?_setIfInBounds, this, hv]
    · rw [if_neg e]
      have := t.slots s
      simp only [Array.getD_eq_getD_getElem?, Array.getElem?_setIfInBounds, if_neg e] at this ⊢
      exact VR.mono x this

theorem RelT.mono (t : RelT n F μ a act w) (x : Ext F w μ F' w' μ') : RelT n F' μ' a act w' := ⟨t.defers.mono x.mu, t.size, fun s => VR.mono x (t.slots s)⟩

theorem gdA_ok {ops : Array Oper} {o : Oper} {b : Bool} (t : RelT n F μ a act w) (hf : ∀ (j : Nat) (o' : Oper) (d : Nat), ops[j]? = some o' → o'.dst = some d → d < n) (h : gdA ops a o.guard = some b) : Region.wanted o (yielded ops act.tmps) = b := by
  unfold gdA at h
  unfold Region.wanted
  split at h
  · rename_i hg; cases h; rw [hg]
  · rename_i j want hg
    rw [hg]
    simp only
    split at h
    · rename_i d hd
      split at h
      · rename_i b' hb
        cases h
        have hs := t.slots d
        rw [hb] at hs
        generalize hV : act.tmps.getD d undef = V at hs
        cases hs
        have hlt : d < act.tmps.size := by
          rw [t.size]
          cases ho : ops[j]? with
          | none => rw [ho] at hd; cases hd
          | some o' => rw [ho] at hd; exact hf j o' d ho hd
        have hget : act.tmps[d]? = some (.bool b') := by
          rw [Array.getD_eq_getD_getElem?] at hV
          rw [Array.getElem?_eq_getElem hlt] at hV ⊢
          simp at hV; rw [hV]
        unfold yielded
        rw [hd]
        simp only [Option.bind_some, hget]
        cases b' <;> cases want <;> rfl
      · rename_i l' hb
        cases h
        have hs := t.slots d
        rw [hb] at hs
        generalize hV : act.tmps.getD d undef = V at hs
        cases hs
        have hlt : d < act.tmps.size := by
          rw [t.size]
          cases ho : ops[j]? with
          | none => rw [ho] at hd; cases hd
          | some o' => rw [ho] at hd; exact hf j o' d ho hd
        rename_i A _
        have hget : act.tmps[d]? = some (.tuple A) := by
          rw [Array.getD_eq_getD_getElem?] at hV
          rw [Array.getElem?_eq_getElem hlt] at hV ⊢
          simp at hV; rw [hV]
        unfold yielded
        rw [hd]
        simp only [Option.bind_some, hget]
        cases want <;> rfl
      · cases h
    · cases h

/-- What was there is as it was: what is still written is still written. -/
theorem Sim.behind (s : Sim w0 F0 F μ H w) (hb : Below w.heap.size w w') (hF : ∀ b o, F b o → F' b o) (hlt : ∀ b o, F' b o → b < w'.heap.size) (hold : ∀ b o, b < w.heap.size → F' b o → F b o) :
    Ext F w μ F' w' μ ∧ Sim w0 F0 F' μ H w' := by
  have x : Ext F w μ F' w' μ := by
    refine ⟨fun _ _ h => h, hF, ?_, ?_⟩
    · intro b o V hf h
      rw [hb.cell (p := ⟨b, o, none⟩) (s.lt b o hf)]; exact h
    · intro b es c hf h
      rw [hb.block b (s.lt b 0 hf)]; exact h
  refine ⟨x, ⟨s.below.trans (hb.mono s.below.size), fun b o h => hF b o (s.new b o h), ?_, hlt, ?_, s.apart, s.dom⟩⟩
  · intro b o hbl h
    exact s.old b o hbl (hold b o (by have := s.below.size; omega) h)
  · intro id blk h
    by_cases hl : blk.live = true
    · obtain ⟨L, h1, h2, h3, h4⟩ := (s.obs id blk h).loc hl
      refine (s.obs id blk h).mono x ?_ ?_
      · intro L' e; rw [h1] at e; cases e; exact hb.block _ h3
      · intro L' o e hf; rw [h1] at e; cases e; exact hold _ _ h3 hf
    · exact OBR.dead_of (by simpa using hl)

theorem OutR.noμ {out : Out} {e : Ending} (h : OutR F w noμ out e) : OutR F w μ out e := by
  have x : Ext F w Av.noμ F w μ := ⟨(fun _ _ h => by cases h), fun _ _ h => h, fun _ _ _ _ h => h, fun _ _ _ _ h => h⟩
  cases h with
  | ret r R h => exact .ret r R (VR.mono x h)
  | pan t v V h => exact .pan t v V (VR.mono x h)

theorem OutR.scalar {F F' : Nat → Nat → Prop} {w w' : World} {μ μ' : Nat → Option Loc} {out : Out} {e : Ending} (h : OutR F w μ out e) (hs : out.scalar = true) : OutR F' w' μ' out e := by
  cases h with
  | ret r R h => exact .ret r R (h.of_scalar hs)
  | pan t v V h => exact .pan t v V (h.of_scalar hs)

/-- A call of a function of values. -/
theorem PureFn.call (s : Sim w0 F0 F μ H w) {f : FuncId} {args args' : List AV} {out : Out} {Vs : List Value} (hl : lend H args out = some args') (hp : PureFn P f args' out) (hv : VRs F w μ args Vs) :
    CallsA P f Vs.toArray w (fun e w' => ∃ F' μ', Ext F w μ F' w' μ' ∧ Sim w0 F0 F' μ' H w' ∧ OutR F' w' μ' out e) := by
  unfold lend at hl
  split at hl
  · rename_i hh
    cases hl
    refine (hp F w Vs s.lt (hv.hf_no hh)).mono ?_
    rintro e w' ⟨hb, F', h1, h2, h3, h4⟩
    obtain ⟨x, s'⟩ := s.behind hb h1 h2 h3
    exact ⟨F', μ, x, s', h4.noμ⟩
  · split at hl
    case isFalse => cases hl
    rename_i hsc
    obtain ⟨hlen, hget⟩ := mapM_get hl
    have hlt : ∀ b o, lent F μ H b o → b < w.heap.size := by
      rintro b o (h | ⟨id, blk, L, h1, h2, h3, rfl⟩)
      · exact s.lt b o h
      · obtain ⟨L', h4, _, h5, _⟩ := (s.obs id blk h1).loc h2
        rw [h3] at h4; cases h4; exact h5
    have hv' : VRs (lent F μ H) w noμ args' Vs := by
      refine .of_get (by rw [hlen, VRs.len hv]) fun i v' hi => ?_
      have hil : i < args.length := by rw [← hlen]; exact (List.getElem?_eq_some_iff.1 hi).1
      obtain ⟨v'', h1, h2⟩ := hget i args[i] (List.getElem?_eq_getElem hil)
      rw [hi] at h1; cases h1
      obtain ⟨V, h3, h4⟩ := hv.get (List.getElem?_eq_getElem hil)
      exact ⟨V, h3, fz_ok s _ _ _ _ h2 h4⟩
    refine (hp _ w Vs hlt hv').mono ?_
    rintro e w' ⟨hb, F', h1, h2, h3, h4⟩
    obtain ⟨x, s'⟩ := s.behind (F' := F) hb (fun _ _ h => h) (fun b o h => by have := s.lt b o h; have := hb.size; omega) (fun _ _ _ h => h)
    exact ⟨F, μ, x, s', h4.scalar hsc⟩

theorem callOf_fn (t : RelT n F μ a act w) {o : Oper} {f : FuncId} {args : List AV} (h : callOf a o.op = some (.fn f, args)) :
    ∃ Vs : List Value, VRs F w μ args Vs ∧ ∀ w', (execOp act.eval o).run P w' = (callFunc f Vs.toArray).run P w' := by
  obtain ⟨dst, op, ty, pos, after, guard⟩ := o
  simp only at h
  unfold callOf at h
  split at h
  case h_2 => cases h
  rename_i c
  obtain ⟨callee, args0, argTypes⟩ := c
  simp only at h
  split at h
  case h_2 => cases h
  rename_i x
  split at h
  · rename_i g fs cs hx
    cases h
    have hv := t.ev x
    rw [hx] at hv
    generalize hX : act.eval x = X at hv
    cases hv with
    | func _ _ _ Fs Cs h1 h2 =>
      refine ⟨Fs.toList ++ args0.toList.map act.eval ++ Cs.toList, (h1.append (t.evs _)).append h2, fun w' => ?_⟩
      simp only [execOp, resolve, hX, Deferred.ofValue, Sem.run_bind, Sem.run_pure, Result.andThen, invoke]
      congr 1
      congr 1
      apply Array.ext'
      simp
  · cases h
  · cases h

theorem callOf_yld (t : RelT n F μ a act w) {o : Oper} {id : Nat} {args : List AV} (h : callOf a o.op = some (.yld id, args)) :
    ∃ (Vs : List Value) (L : Loc), μ id = some L ∧ VRs F w μ args Vs ∧ ∀ w', (execOp act.eval o).run P w' = (Instr.yield L.block Vs.toArray).run P w' := by
  obtain ⟨dst, op, ty, pos, after, guard⟩ := o
  simp only at h
  unfold callOf at h
  split at h
  case h_2 => cases h
  rename_i c
  obtain ⟨callee, args0, argTypes⟩ := c
  simp only at h
  split at h
  case h_2 => cases h
  rename_i x
  split at h
  · cases h
  · rename_i id' hx
    cases h
    have hv := t.ev x
    rw [hx] at hv
    generalize hX : act.eval x = X at hv
    cases hv with
    | yld _ L hμ =>
      refine ⟨args0.toList.map act.eval, L, hμ, t.evs _, fun w' => ?_⟩
      simp only [execOp, resolve, hX, Deferred.ofValue, Sem.run_bind, Sem.run_pure, Result.andThen, invoke]
      congr 1
      congr 1
      apply Array.ext'
      simp
  · cases h

theorem callOf_op {a : St} {o : Op} {c : Cl × List AV} (h : callOf a o = some c) : ∀ d, o ≠ .defer d := by
  rintro d rfl; cases h

theorem ClOK.goes (s : Sim w0 F0 F μ H w) (t : RelT n F μ { a with H := H } act w) {o : Oper} {f : Cl} {args : List AV} (h : callOf a o.op = some (f, args)) {out : Out} (hp : ClOK P f args H out H') :
    Goes P ((execOp act.eval o).run P w) (fun e w' => ∃ F' μ', Ext F w μ F' w' μ' ∧ Sim w0 F0 F' μ' H' w' ∧ OutR F' w' μ' out e) := by
  cases f with
  | fn f =>
    obtain ⟨Vs, hVs, hrun⟩ := callOf_fn (P := P) (a := { a with H := H }) t (o := o) h
    rw [hrun w]
    rcases hp w0 F0 F μ w Vs s hVs with ⟨w1, h1, rfl, h2⟩ | ⟨V, w1, h1, h2⟩
    · exact .inl ⟨f, _, _, h1, h2⟩
    · exact .inr (.inl ⟨V, w1, h1, h2⟩)
  | yld id =>
    obtain ⟨Vs, L, hμ, hVs, hrun⟩ := callOf_yld (P := P) (a := { a with H := H }) t (o := o) h
    rw [hrun w]
    obtain ⟨fn, tmps, as, bd, h1, h2⟩ := hp w0 F0 F μ w Vs L s hVs hμ
    exact .inr (.inr ⟨L.block, fn, tmps, as, bd, w, h1, h2⟩)

theorem callsIn_fnc {k : Nat} {f : FuncId} {Vs : Array Value} {E : Ending → World → Prop} : CallsIn (fnc R) k P f Vs w E ↔ Calls P f Vs w E := callsIn_wide (n := k)

theorem roundIn_fnc {k : Nat} {l f : Nat} {tmps : Array Value} {as bd : Code} {E : Ending → World → Prop} (h : RoundIn Fence.wide 0 P l f tmps as bd w E) : RoundIn (fnc R) k P l f tmps as bd w E :=
  ⟨trivial, fun c cs _ => h.2 c cs (room_wide _)⟩

theorem isPanic_ok {o : Oper} {x : Operand} (h : isPanic o.op = some x) : o.op = .panic x := by
  unfold isPanic at h
  split at h
  · cases h; assumption
  · cases h

theorem EOps_ok {B : Bs m} {ops : Array Oper} (hf : ∀ (j : Nat) (o' : Oper) (d : Nat), ops[j]? = some o' → o'.dst = some d → d < n) : ∀ (rest : List Oper) (k : Nat) (rs : List CR) (a : St) (act : Act) (w : World),
    (∀ i o, rest[i]? = some o → ops[k + i]? = some o) → EOps P ops Q rs rest a → Rel n B a act w → wpOpsIn (fnc R) 1 P ops (RelE n B Q) (List.range' k rest.length) act w := by
  intro rest
  induction rest with
  | nil =>
    intro k rs a act w hk h hr
    obtain ⟨F, μ, s, y, t⟩ := hr
    exact ⟨_, a, F, μ, h, .normal, s, y, t⟩
  | cons o rest ih =>
    intro k rs a act w hk h hr
    obtain ⟨F, μ, s, y, t⟩ := hr
    have ho : ops[k]? = some o := hk 0 o rfl
    have hk' : ∀ i o', rest[i]? = some o' → ops[k + 1 + i]? = some o' := fun i o' hi => by
      rw [show k + 1 + i = k + (i + 1) from by omega]; exact hk (i + 1) o' (by simpa using hi)
    have hd : ∀ d, o.dst = some d → d < n := fun d hd => hf k o d ho hd
    rw [List.length_cons, List.range'_succ]
    simp only [wpOpsIn, ho]
    have habout : ∀ f, o.about P w act.eval = some f → (fnc R).fn f := fun _ _ => trivial
    unfold EOps at h
    split at h
    · exact h.elim
    · rename_i hg
      have := gdA_ok t hf hg
      simp only [this, Bool.false_eq_true, if_false]
      refine ⟨habout, ih (k + 1) rs _ _ _ hk' h ⟨F, μ, ?_, y, t.put (Ext.refl _ _ _) (.tup [] #[] .nil) hd⟩⟩
      cases o.dst <;> exact s
    · rename_i hg
      have := gdA_ok t hf hg
      simp only [this, if_true]
      refine ⟨habout, ?_⟩
      split at h
      · rename_i f args hc
        rw [Oper.semAt_eq _ _ _ (callOf_op hc)]
        -- what is known of the call
        have keyS : ∀ (S : Out → List OB → Prop) (nextOK : ∀ r H', S (.ret r) H' → ∃ rs', EOps P ops Q rs' rest ({ a with H := H' }.put o.dst r)) (panOK : ∀ tt v H', S (.pan tt v) H' → Q (.panic tt v) { a with H := H' }),
            Goes P ((execOp act.eval o).run P w) (fun e w' => ∃ out H' F' μ', S out H' ∧ Ext F w μ F' w' μ' ∧ Sim B.w0 B.F0 F' μ' H' w' ∧ OutR F' w' μ' out e) →
            o.uponIn (fnc R) 1 P act (wpOpsIn (fnc R) 1 P ops (RelE n B Q) (List.range' (k + 1) rest.length)) (RelE n B Q) ((execOp act.eval o).run P w) := by
          intro S nextOK panOK hcall
          have fin : ∀ (e : Ending) (w' : World), (∃ out H' F' μ', S out H' ∧ Ext F w μ F' w' μ' ∧ Sim B.w0 B.F0 F' μ' H' w' ∧ OutR F' w' μ' out e) →
              (match (generalizing := false) e, w' with
                | .returned v, w'' => wpOpsIn (fnc R) 1 P ops (RelE n B Q) (List.range' (k + 1) rest.length) (act.put o.dst v) w''
                | .panicked chain, w'' => RelE n B Q (.panic chain) act w''
                | .outgrown, _ => LetsOut (RelE n B Q)) := by
            rintro e w' ⟨out, H', F', μ', hS, x, s', ho'⟩
            cases ho' with
            | ret r Rv hr =>
              obtain ⟨rs', hn⟩ := nextOK r H' hS
              exact ih (k + 1) rs' _ _ _ hk' hn ⟨F', μ', by cases o.dst <;> exact s', y.trans x, t.put x hr hd⟩
            | pan tt v V hv => exact ⟨_, _, F', μ', panOK tt v H' hS, .panic tt v V hv, s', y.trans x, ⟨t.defers.mono x.mu, t.size, fun s => VR.mono x (t.slots s)⟩⟩
          rcases hcall with ⟨f, Vs, w1, h1, h2⟩ | ⟨V, w1, h1, h2⟩ | ⟨l, f, tmps, as, bd, w1, h1, h2⟩
          · rw [h1, Oper.uponIn_enter]
            exact ⟨fun _ => Nat.le_refl _, callsIn_fnc.2 (h2.mono fin)⟩
          · rw [h1, Oper.uponIn_value]
            exact fin (.returned V) w1 h2
          · rw [h1, Oper.uponIn_round]
            exact ⟨fun _ => Nat.le_refl _, roundIn_fnc (h2.mono fin)⟩
        have key : ∀ (out : Out) (H' : List OB) (nextOK : ∀ r, out = .ret r → ∃ rs', EOps P ops Q rs' rest ({ a with H := H' }.put o.dst r)) (panOK : ∀ tt v, out = .pan tt v → Q (.panic tt v) { a with H := H' }),
            Goes P ((execOp act.eval o).run P w) (fun e w' => ∃ F' μ', Ext F w μ F' w' μ' ∧ Sim B.w0 B.F0 F' μ' H' w' ∧ OutR F' w' μ' out e) →
            o.uponIn (fnc R) 1 P act (wpOpsIn (fnc R) 1 P ops (RelE n B Q) (List.range' (k + 1) rest.length)) (RelE n B Q) ((execOp act.eval o).run P w) := by
          intro out H' nextOK panOK hcall
          refine keyS (fun o K => o = out ∧ K = H') ?_ ?_ ?_
          · rintro r K ⟨e1, rfl⟩; exact nextOK r e1.symm
          · rintro tt v K ⟨e1, rfl⟩; exact panOK tt v e1.symm
          · rcases hcall with ⟨f, Vs, w1, h1, h2⟩ | ⟨V, w1, h1, h2⟩ | ⟨l, f, tmps, as, bd, w1, h1, h2⟩
            · exact .inl ⟨f, Vs, w1, h1, h2.mono fun e w' ⟨F', μ', q⟩ => ⟨out, H', F', μ', ⟨rfl, rfl⟩, q⟩⟩
            · exact .inr (.inl ⟨V, w1, h1, let ⟨F', μ', q⟩ := h2; ⟨out, H', F', μ', ⟨rfl, rfl⟩, q⟩⟩)
            · exact .inr (.inr ⟨l, f, tmps, as, bd, w1, h1, h2.mono fun e w' ⟨F', μ', q⟩ => ⟨out, H', F', μ', ⟨rfl, rfl⟩, q⟩⟩)
        split at h
        · rename_i out rs
          split at h
          · rename_i f
            split at h
            · rename_i args' hl
              obtain ⟨hp, hq⟩ := h
              obtain ⟨Vs, hVs, hrun⟩ := callOf_fn (P := P) t hc
              refine key out a.H ?_ ?_ ?_
              · rintro r rfl; exact ⟨rs, hq⟩
              · rintro tt v rfl; exact hq
              · rw [hrun w]
                rcases PureFn.call s hl hp hVs with ⟨w1, h1, rfl, h2⟩ | ⟨V, w1, h1, h2⟩
                · exact .inl ⟨f, _, _, h1, h2⟩
                · exact .inr (.inl ⟨V, w1, h1, h2⟩)
            · exact h.elim
          · exact h.elim
        · rename_i out H' rs
          obtain ⟨hp, hq⟩ := h
          refine key out H' ?_ ?_ (ClOK.goes s (a := a) t hc hp)
          · rintro r rfl; exact ⟨rs, hq⟩
          · rintro tt v rfl; exact hq
        · rename_i S rs
          split at h
          · rename_i f
            obtain ⟨hp, hq⟩ := h
            obtain ⟨Vs, hVs, hrun⟩ := callOf_fn (P := P) t hc
            refine keyS S (fun r H' hS => ⟨rs, hq _ _ hS⟩) (fun tt v H' hS => hq _ _ hS) ?_
            rw [hrun w]
            rcases hp B.w0 B.F0 F μ w Vs s hVs with ⟨w1, h1, rfl, h2⟩ | ⟨V, w1, h1, h2⟩
            · exact .inl ⟨f, _, _, h1, h2⟩
            · exact .inr (.inl ⟨V, w1, h1, h2⟩)
          · exact h.elim
        · exact h.elim
      · split at h
        · rename_i x hx
          have hop := isPanic_ok hx
          rw [Oper.semAt_eq _ _ _ (by rw [hop]; simp)]
          split at h
          · rename_i tt v hv
            have hvv := t.ev x
            rw [hv] at hvv
            generalize hX : act.eval x = X at hvv
            cases hvv with
            | iface _ _ V hV =>
              have hr : (execOp act.eval o).run P w = .halt (.panic (.iface tt V)) w := by
                unfold execOp
                rw [hop]
                simp [hX, Instr.panic, goPanic]
              rw [hr, Oper.uponIn_panic]
              exact ⟨_, a, F, μ, h, .panic tt v V hV, s, y, t⟩
          · exact h.elim
        · split at h
          · rename_i id ks vs seen hnx
            obtain ⟨x, b, hop⟩ : ∃ x b, o.op = .next x b := by
              unfold nextOf at hnx
              split at hnx
              · rename_i x hop; exact ⟨x, false, hop⟩
              · cases hnx
            rw [Oper.semAt_eq _ _ _ (by rw [hop]; simp)]
            obtain ⟨v, H', hn, hdo⟩ := next_ok (P := P) (ty := o.type) s hop (t.ev x) hnx
            have : DoesN P (execOp act.eval o) B.w0 B.F0 F μ w v H' := by
              unfold execOp
              rw [hop]
              exact DoesN.of hdo
            obtain ⟨nx, V, w', F', μ', h1, h2, h3, h4, h5⟩ := this
            rw [h1]
            have hrel : Rel n B ({ a with H := H' }.put o.dst v) (act.put o.dst V) w' := ⟨F', μ', by cases o.dst <;> exact h4, y.trans h3, t.put h3 h5 hd⟩
            rcases h2 with rfl | ⟨rfl, rfl⟩
            · rw [Oper.uponIn_value]; exact ih (k + 1) rs _ _ _ hk' (h v H' hn) hrel
            · rw [Oper.uponIn_skip]; exact ih (k + 1) rs _ _ _ hk' (h v H' hn) hrel
          split at h
          · rename_i halt
            obtain ⟨b, hb⟩ := altA_ok (P := P) t halt
            rw [Oper.semAt_eq _ _ _ (by rintro c hc; rw [hc] at halt; cases halt), hb, Oper.uponIn_value]
            exact ih (k + 1) rs _ _ _ hk' (h b) ⟨F, μ, by cases o.dst <;> exact s, y, t.put (Ext.refl _ _ _) (.bool b) hd⟩
          split at h
          · rename_i v H' hev
            rw [Oper.semAt_eq _ _ _ (by rintro c hc; rw [hc] at hev; cases hev)]
            obtain ⟨nx, V, w', F', μ', h1, h2, h3, h4, h5⟩ := evalOp_ok (P := P) (o := o) s t hev
            rw [h1]
            have hrel : Rel n B ({ a with H := H' }.put o.dst v) (act.put o.dst V) w' := ⟨F', μ', by cases o.dst <;> exact h4, y.trans h3, t.put h3 h5 hd⟩
            rcases h2 with rfl | ⟨rfl, rfl⟩
            · rw [Oper.uponIn_value]; exact ih (k + 1) rs _ _ _ hk' h hrel
            · rw [Oper.uponIn_skip]; exact ih (k + 1) rs _ _ _ hk' h hrel
          · exact h.elim

theorem fits_get {ops : Array Oper} (h : fits n ops = true) (j : Nat) (o : Oper) (d : Nat) (ho : ops[j]? = some o) (hd : o.dst = some d) : d < n := by
  unfold fits at h
  have := List.all_eq_true.1 h o (Array.mem_toList_iff.2 (Array.mem_of_getElem? ho))
  rw [hd] at this
  simpa using this

theorem W.region {id : Nat} {ops : Array Oper} (rs : List CR) (hf : fits n ops = true) (h : EOps P ops Q rs ops.toList a) : W P n m R (.region id ops false) Q a := by
  intro B act w r
  refine wpIn_region ?_
  have := EOps_ok (P := P) (R := R) (Q := Q) (B := B) (fits_get hf) ops.toList 0 rs a act w (fun i o hi => by rw [Nat.zero_add, ← Array.getElem?_toList]; exact hi) h r
  rw [Array.length_toList, ← List.range_eq_range'] at this
  exact this
end
end Go.Av
