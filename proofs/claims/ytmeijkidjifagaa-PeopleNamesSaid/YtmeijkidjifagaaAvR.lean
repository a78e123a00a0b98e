/- A run of code over abstract values that are known, and what it proves: under the conditions named; a text without a program. -/
import Derived.Test.YtmeijkidjifagaaAvQ
import Derived.TacticsIn
namespace Go.Av
open Go.RowKit (Below)
set_option linter.unusedVariables false

def hasKey (t : Nat) : List (Nat × AV) → Bool
  | [] => false
  | (s, _) :: r => s == t || hasKey t r

/-- Each slot once. -/
def dedup : List (Nat × AV) → List (Nat × AV) → List (Nat × AV)
  | [], acc => acc.reverse
  | (t, v) :: r, acc => if hasKey t acc = true then dedup r acc else dedup r ((t, v) :: acc)

theorem get_append (l r : List (Nat × AV)) (t : Nat) : get (l ++ r) t = if hasKey t l = true then get l t else get r t := by
  induction l with
  | nil => simp [hasKey]
  | cons p l ih =>
    obtain ⟨s, v⟩ := p
    simp only [List.cons_append, get, hasKey]
    by_cases e : s = t
    · subst e; simp
    · rw [if_neg e, ih]
      have : (s == t) = false := by simpa using e
      simp [this, e]

theorem hasKey_append (l r : List (Nat × AV)) (t : Nat) : hasKey t (l ++ r) = (hasKey t l || hasKey t r) := by
  induction l with
  | nil => simp [hasKey]
  | cons p l ih => obtain ⟨s, v⟩ := p; simp [hasKey, ih, Bool.or_assoc]

theorem hasKey_reverse (l : List (Nat × AV)) (t : Nat) : hasKey t l.reverse = hasKey t l := by
  induction l with
  | nil => rfl
  | cons p l ih => obtain ⟨s, v⟩ := p; simp [hasKey_append, hasKey, ih, Bool.or_comm]

theorem dedup_get : ∀ (l acc : List (Nat × AV)) (t : Nat), get (dedup l acc) t = get (acc.reverse ++ l) t := by
  intro l
  induction l with
  | nil => intro acc t; simp [dedup]
  | cons p l ih =>
    intro acc t
    obtain ⟨s, v⟩ := p
    simp only [dedup]
    split
    · rename_i h
      rw [ih, get_append, get_append]
      by_cases hk : hasKey t acc.reverse = true
      · rw [if_pos hk, if_pos hk]
      · rw [if_neg hk, if_neg hk]
        have : s ≠ t := by rintro rfl; rw [hasKey_reverse] at hk; exact hk h
        simp [get, this]
    · rw [ih, List.reverse_cons, List.append_assoc]; rfl

def norm (a : St) : St := { a with T := dedup a.T [] }

def rops (P : Program) (call : Cl → List AV → List OB → Option (Out × List OB)) (ops : Array Oper) : List Oper → St → Option (Ex × St)
  | [], a => some (.normal, a)
  | o :: rest, a => match stepA P call ops a o with
    | some (.val v H') => rops P call ops rest ({ a with H := H' }.put o.dst v)
    | some (.pan t v H') => some (.panic t v, { a with H := H' })
    | none => none

/-- Rounds. -/
def loopA (body : St → Option (Ex × St)) : Nat → St → Option (Ex × St)
  | 0, _ => none
  | j + 1, a => match body (norm a) with
    | some (.normal, a') => loopA body j a'
    | r => r

/-- Code, run. 'inr': in a round of a loop over a function. -/
def runC (P : Program) (call : Cl → List AV → List OB → Option (Out × List OB)) (pm : FuncId → Bool) (n : Nat) (inr : Bool) : Nat → Code → St → Option (Ex × St)
  | 0, _, _ => none
  | k + 1, c, a => match c with
    | .skip => some (.normal, a)
    | .label _ => some (.normal, a)
    | .exit id => some (.exit id, a)
    | .goto l => some (.goto l, a)
    | .ret => some (.ret, a)
    | .region _ ops draw => if fits n ops = true then (if draw = true then (drawA P call pm ops a).map fun a' => (.normal, a') else rops P call ops ops.toList a) else none
    | .seq x y => match runC P call pm n inr k x a with
      | some (.normal, a') => runC P call pm n inr k y a'
      | r => r
    | .cond c x y => match a.ev c with
      | .bool t => runC P call pm n inr k (if t = true then x else y) a
      | _ => none
    | .block id c => match runC P call pm n inr k c a with
      | some (.exit i, a') => if i = id then some (.normal, a') else some (.exit i, a')
      | r => r
    | .loop c => loopA (fun a => runC P call pm n inr k c a) k a
    | .refuse _ => none
    | .scope c => if inr = true then none else match runC P call pm n inr k c a with
      | some (.goto l, a') => match findLabel c l with
        | some rest => match runC P call pm n inr k rest a' with
          | some (.goto _, _) => none
          | r => r
        | none => none
      | r => r
    | .rangeFunc g ps assign body => if inr = true then none else match a.ev g with
      | .func (.func gf) fs cs => match call (.fn gf) (fs ++ [.yld (a.H.length + 1)] ++ cs) (a.H ++ [.dfr, .loop a.T ⟨n, ps, assign, body, .ready, none⟩]) with
        | some (.ret _, H') => match H'[a.H.length + 1]? with
          | some (.loop _ K') => if K'.st = .busy then none else
            let a' : St := ⟨a.T, H'.set (a.H.length + 1) .dead, a.H.length :: a.D⟩
            match K'.pend with
            | none => some (.normal, a')
            | some c => runC P call pm n inr k c a'
          | _ => none
        | _ => none
      | _ => none

/-- Functions by a body are entered. -/
def Enters (P : Program) : Prop := ∀ (f : FuncId) (fn : Func), P.funcs[f]? = some fn → (fn.name == "runtime.NumGoroutine") = false

/-- What a run's end says. -/
def endsQ (r : Ex × St) : Ex → St → Prop := fun ex a => ex = r.1 ∧ a = r.2

section
variable {P : Program} {w0 : World} {F0 F F' : Nat → Nat → Prop} {μ μ' : Nat → Option Loc} {H H' : List OB} {w w' : World} {n m : Nat} {R : Option Nat} {a : St} {act : Act} {Q : Ex → St → Prop}
  {call : Cl → List AV → List OB → Option (Out × List OB)} {ops : Array Oper} {pm : FuncId → Bool}

theorem W.same {c : Code} (b : St) (hD : b.D = a.D) (hH : b.H = a.H) (hT : ∀ t, get b.T t = get a.T t) (h : W P n m R c Q b) : W P n m R c Q a := by
  intro B act w ⟨F, μ, s, y, t⟩
  exact h B act w ⟨F, μ, by rw [hH]; exact s, y, ⟨by rw [hD]; exact t.defers, t.size, fun i => by rw [hT]; exact t.slots i⟩⟩

theorem rops_ok (hcall : CallsRight P call) (hf : fits n ops = true) {B : Bs m} : ∀ (rest : List Oper) (k : Nat) (a : St) (act : Act) (w : World) (r : Ex × St),
    (∀ (i : Nat) (o : Oper), rest[i]? = some o → ops[k + i]? = some o) → rops P call ops rest a = some r → Q r.1 r.2 → Rel n B a act w → wpOpsIn (fnc R) 1 P ops (RelE n B Q) (List.range' k rest.length) act w := by
  intro rest
  induction rest with
  | nil =>
    intro k a act w r hk h hq ⟨F, μ, s, y, t⟩
    simp only [rops, Option.some.injEq] at h
    subst h
    exact ⟨_, a, F, μ, hq, .normal, s, y, t⟩
  | cons o rest ih =>
    intro k a act w r hk h hq ⟨F, μ, s, y, t⟩
    have ho : ops[k]? = some o := hk 0 o rfl
    have hk' : ∀ (i : Nat) (o' : Oper), rest[i]? = some o' → ops[k + 1 + i]? = some o' := fun i o' hi => by
      rw [show k + 1 + i = k + (i + 1) from by omega]; exact hk (i + 1) o' (by simpa using hi)
    have hd : ∀ d, o.dst = some d → d < n := fun d hd => fits_get hf k o d ho hd
    rw [List.length_cons, List.range'_succ, wpOpsIn_cons]
    simp only [rops] at h
    cases hs : stepA P call ops a o with
    | none => rw [hs] at h; cases h
    | some rs =>
      rw [hs] at h
      refine stepA_ok (R := R) (m := m) hcall hf hs k B _ _ F μ act w ho s t ?_ ?_
      · rintro v H' rfl V w' F' μ' x s' hV
        exact ih (k + 1) _ _ _ r hk' h hq ⟨F', μ', by cases o.dst <;> exact s', y.trans x, t.put x hV hd⟩
      · rintro tt v H' rfl V w' F' μ' x s' hV
        simp only [Option.some.injEq] at h
        subst h
        exact ⟨_, _, F', μ', hq, .panic tt v V hV, s', y.trans x, ⟨t.defers.mono x.mu, t.size, fun i => VR.mono x (t.slots i)⟩⟩

theorem enters_call (hN : Enters P) {f : FuncId} {fn : Func} {c : Code} (hf : P.funcs[f]? = some fn) (hb : fn.body = some c) : ∀ Vs w, (callFunc f Vs).run P w = .ok (.enter f Vs) w := by
  intro Vs w
  have := hN f fn hf
  have h' : ¬ fn.name = "runtime.NumGoroutine" := by simpa using this
  simp [callFunc, program, Sem.run_bind, Sem.run, Result.andThen, hf, h', hb]

/-- A loop whose head is come to. -/
def LW (P : Program) (n m : Nat) (R : Option Nat) (c : Code) (Q : Ex → St → Prop) (a : St) : Prop :=
  ∀ (B : Bs m) act w, Rel n B a act w → ∀ (b : Frame) (k : List Item) (cs : List Frame), b.roundOf = (fnc R).round → (fnc R).fn b.fn → (fnc R).room (cs.length + 1 + 1) →
    ∃ e a' w', RelE n B Q e a' w' ∧ ArrivesIn (Machine.fenced P (fnc R)) P (lone (b.atR act (.code c :: .inLoop c :: k)) cs w) b k cs e a' w'

theorem W.loop_of {c : Code} (h : LW P n m R c Q a) : W P n m R (.loop c) Q a := by
  intro B act w r b k cs hro hb hr
  obtain ⟨e, a', w', hq, harr⟩ := h B act w r b k cs hro hb hr
  exact ⟨e, a', w', hq, .of_steps (.one (fenced_calm hb hr rfl) stepR_loop) harr⟩

theorem LW.step {c : Code} (h : W P n m R c (thenQ (LW P n m R c Q) Q) a) : LW P n m R c Q a := by
  intro B act w r b k cs hro hb hr
  obtain ⟨e, act₁, w₁, hq, harr⟩ := h B act w r b (.inLoop c :: k) cs hro hb hr
  obtain ⟨ex, a', F, μ, q, hx, s, y, t⟩ := hq
  cases hx with
  | normal =>
    obtain ⟨e₂, a₂, w₂, hq₂, harr₂⟩ := q B act₁ w₁ ⟨F, μ, s, y, t⟩ b k cs hro hb hr
    exact ⟨e₂, a₂, w₂, hq₂, .of_steps (StepsIn.trans harr (.one (fenced_calm hb hr rfl) stepR_inLoop)) harr₂⟩
  | exit id => exact ⟨_, act₁, w₁, ⟨_, a', F, μ, q, .exit id, s, y, t⟩, .pass (x := .inLoop c) rfl (fun _ _ => .inl (by simp)) harr⟩
  | goto l => exact ⟨_, act₁, w₁, ⟨_, a', F, μ, q, .goto l, s, y, t⟩, .pass (x := .inLoop c) rfl (fun _ _ => .inl (by simp)) harr⟩
  | ret => exact ⟨_, act₁, w₁, ⟨_, a', F, μ, q, .ret, s, y, t⟩, .pass (x := .inLoop c) rfl (fun _ _ => .inl (by simp)) harr⟩
  | panic t v V h => exact ⟨_, act₁, w₁, ⟨_, a', F, μ, q, .panic t v V h, s, y, ‹_›⟩, .pass (x := .inLoop c) rfl (fun _ _ => .inl (by simp)) harr⟩

theorem loopA_ok {c : Code} {body : St → Option (Ex × St)} (hb : ∀ a r, body a = some r → W P n m R c (endsQ r) a) : ∀ (j : Nat) (a : St) (r : Ex × St), loopA body j a = some r → LW P n m R c (endsQ r) a := by
  intro j
  induction j with
  | zero => intro a r h; cases h
  | succ j ih =>
    intro a r h
    simp only [loopA] at h
    refine LW.step (W.same (norm a) rfl rfl (fun t => by have := dedup_get a.T [] t; simpa [norm] using this) ?_)
    split at h
    · rename_i a' h1
      refine (hb _ _ h1).mono ?_
      rintro ex b ⟨rfl, rfl⟩
      exact ih _ r h
    · rename_i hne
      refine (hb _ r h).mono ?_
      rintro ex b ⟨rfl, rfl⟩
      obtain ⟨ex, b⟩ := r
      cases ex with
      | normal => exact (hne b h).elim
      | exit _ => exact ⟨rfl, rfl⟩
      | goto _ => exact ⟨rfl, rfl⟩
      | ret => exact ⟨rfl, rfl⟩
      | panic _ _ => exact ⟨rfl, rfl⟩

theorem runC_ok (hm : P.follows .mixedOrders = true) (hcall : CallsRight P call) (hpm : PureMode pm call) (hgf : ∀ gf args H r, call (.fn gf) args H = some r → ∀ Vs w, (callFunc gf Vs).run P w = .ok (.enter gf Vs) w) {inr : Bool} (hR : inr = false → R = none) :
    ∀ (k : Nat) (c : Code) (a : St) (r : Ex × St), runC P call pm n inr k c a = some r → W P n m R c (endsQ r) a := by
  intro k
  induction k with
  | zero => intro c a r h; simp [runC] at h
  | succ k ih =>
    intro c a r h
    unfold runC at h
    cases c with
    | skip => simp only [Option.some.injEq] at h; subst h; exact .skip ⟨rfl, rfl⟩
    | label l => simp only [Option.some.injEq] at h; subst h; exact .label ⟨rfl, rfl⟩
    | exit id => simp only [Option.some.injEq] at h; subst h; exact .exit ⟨rfl, rfl⟩
    | goto l => simp only [Option.some.injEq] at h; subst h; exact .goto ⟨rfl, rfl⟩
    | ret => simp only [Option.some.injEq] at h; subst h; exact .ret ⟨rfl, rfl⟩
    | region id ops draw =>
      simp only at h
      split at h
      case isFalse => cases h
      rename_i hf
      split at h
      · rename_i hd
        subst hd
        rw [Option.map_eq_some_iff] at h
        obtain ⟨a', h1, rfl⟩ := h
        exact drawA_ok hm hcall hpm hf h1 ⟨rfl, rfl⟩
      · rename_i hd
        have : draw = false := by simpa using hd
        subst this
        intro B act w hr
        refine wpIn_region ?_
        have := rops_ok (R := R) (Q := endsQ r) (B := B) hcall hf ops.toList 0 a act w r (fun i o hi => by rw [Nat.zero_add, ← Array.getElem?_toList]; exact hi) h ⟨rfl, rfl⟩ hr
        rw [Array.length_toList, ← List.range_eq_range'] at this
        exact this
    | seq x y =>
      simp only at h
      refine .seq ?_
      split at h
      · rename_i a' h1
        refine (ih x a _ h1).mono ?_
        rintro ex b ⟨rfl, rfl⟩
        exact ih y _ r h
      · rename_i hne
        refine (ih x a r h).mono ?_
        rintro ex b ⟨rfl, rfl⟩
        obtain ⟨ex, b⟩ := r
        cases ex with
        | normal => exact (hne b h).elim
        | exit _ => exact ⟨rfl, rfl⟩
        | goto _ => exact ⟨rfl, rfl⟩
        | ret => exact ⟨rfl, rfl⟩
        | panic _ _ => exact ⟨rfl, rfl⟩
    | cond c x y =>
      simp only at h
      split at h
      · rename_i t ht
        exact .cond ht (ih _ a r h)
      · cases h
    | block id c =>
      simp only at h
      refine .block ?_
      split at h
      · rename_i i a' h1
        refine (ih c a _ h1).mono ?_
        rintro ex b ⟨rfl, rfl⟩
        simp only [blockQ]
        split at h
        · rename_i e; rw [if_pos e]; cases h; exact ⟨rfl, rfl⟩
        · rename_i e; rw [if_neg e]; cases h; exact ⟨rfl, rfl⟩
      · rename_i hne
        refine (ih c a r h).mono ?_
        rintro ex b ⟨rfl, rfl⟩
        obtain ⟨ex, b⟩ := r
        cases ex with
        | exit i => exact (hne i b h).elim
        | normal => exact ⟨rfl, rfl⟩
        | goto _ => exact ⟨rfl, rfl⟩
        | ret => exact ⟨rfl, rfl⟩
        | panic _ _ => exact ⟨rfl, rfl⟩
    | loop c =>
      simp only at h
      exact W.loop_of (loopA_ok (fun a r hr => ih c a r hr) k a r h)
    | refuse _ => cases h
    | scope c =>
      simp only at h
      split at h
      · cases h
      · rename_i hi
        have hR' := hR (by simpa using hi)
        subst hR'
        split at h
        · rename_i l a' h1
          split at h
          case h_2 => cases h
          rename_i rest hfl
          refine W.scope l hfl ((ih c a _ h1).mono ?_)
          rintro ex b ⟨rfl, rfl⟩
          refine ⟨rfl, ?_⟩
          split at h
          · cases h
          · rename_i hne
            refine (ih rest _ r h).mono ?_
            rintro ex b ⟨rfl, rfl⟩
            obtain ⟨ex, b⟩ := r
            cases ex with
            | goto i => exact (hne i b h).elim
            | normal => exact ⟨rfl, rfl⟩
            | exit _ => exact ⟨rfl, rfl⟩
            | ret => exact ⟨rfl, rfl⟩
            | panic _ _ => exact ⟨rfl, rfl⟩
        · rename_i hne
          refine W.scope_straight ((ih c a r h).mono ?_)
          rintro ex b ⟨rfl, rfl⟩
          obtain ⟨ex, b⟩ := r
          cases ex with
          | goto i => exact (hne i b h).elim
          | normal => exact ⟨rfl, rfl⟩
          | exit _ => exact ⟨rfl, rfl⟩
          | ret => exact ⟨rfl, rfl⟩
          | panic _ _ => exact ⟨rfl, rfl⟩
    | rangeFunc g ps assign body =>
      simp only at h
      split at h
      · cases h
      · rename_i hi
        have hR' := hR (by simpa using hi)
        subst hR'
        split at h
        case h_2 => cases h
        rename_i gf fs cs hg
        split at h
        case h_2 => cases h
        rename_i rv H' hc
        split at h
        case h_2 => cases h
        rename_i T' K' hl
        split at h
        · cases h
        · rename_i hst
          refine W.rangeFunc hg (hgf _ _ _ _ hc) (hcall (.fn gf) _ _ _ _ hc) hl hst ?_
          split at h
          · rename_i hp
            rw [hp]
            cases h
            exact ⟨rfl, rfl⟩
          · rename_i c hp
            rw [hp]
            exact ih c _ r h
end
end Go.Av
