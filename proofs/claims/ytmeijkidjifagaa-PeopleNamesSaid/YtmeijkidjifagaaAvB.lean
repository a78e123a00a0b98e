/- States of a walk over abstract values, what a machine's state has to do with one, and the rules for blocks, loops, tests and jumps: no condition; a text without a program. -/
import Derived.Test.YtmeijkidjifagaaAvA
import Derived.ScopeJumps
import Derived.RangeFuncLeaves
namespace Go.Av
set_option linter.unusedVariables false
open Go.RowKit (Below)

/-- What of a loop over a function stays, and where it stands. -/
structure LoopK where
  n : Nat
  ps : Array Tmp
  assign : Code
  body : Code
  st : LoopState
  pend : Option Code

/-- Memory that is still written. 'opn': behind its cells there is room that nobody else has. 'loop': a loop over a function that runs; 'dfr': what a function with such a loop leaves with. -/
inductive OB where
  | cells (cs : List AV) (opn : Bool)
  | map (ks vs : List AV)
  | loop (T : List (Nat × AV)) (K : LoopK)
  | dfr
  | iter (ks vs : List AV) (seen : List Nat)
  | dead
  deriving Inhabited

/-- A state: what the slots hold (what is not told: anything), the memory that is written. -/
structure St where
  T : List (Nat × AV)
  H : List OB
  D : List Nat

def St.put (a : St) (d : Option Nat) (v : AV) : St :=
  match d with
  | none => a
  | some d => { a with T := (d, v) :: a.T }

/-- What a slot holds. -/
def get (T : List (Nat × AV)) (t : Nat) : AV :=
  match T with
  | [] => .junk
  | (i, v) :: r => if i = t then v else get r t

/-- A constant as an abstract value. -/
def ofV : Value → AV
  | .bool b => .bool b
  | .int k n => .int k n
  | .string s => if s.size ≤ maxLen' then .str s.data.toList else .junk
  | .pointer none => .nilptr
  | .slice none l c => if l = 0 ∧ c = 0 then .vsl 0 true [] else .junk
  | .map none => .nilmap
  | .nilFunc => .nilfunc
  | .nilIface => .nilif
  | .func fn f c => if f = #[] ∧ c = #[] then .func fn [] [] else .junk
  | _ => .junk

def St.ev (a : St) : Operand → AV
  | .tmp t => get a.T t
  | .const v => ofV v
  | .func f => .func (.func f) [] []
  | .global _ => .junk

inductive OBR (B0 : Nat) (F : Nat → Nat → Prop) (w : World) (μ : Nat → Option Loc) (id : Nat) : OB → Prop
  | cells (cs : List AV) (opn : Bool) (L : Loc) (c : Array Value) (el : TypeId) (lo hi : Nat) (hμ : μ id = some L) (hB : B0 ≤ L.block)
      (hw : w.heap[L.block]? = some (.cells c el (lo, hi))) (hcap : L.off + L.cap ≤ c.size) (hlen : cs.length ≤ L.cap) (hfix : opn = false → L.cap = cs.length)
      (hun : ∀ o, L.off ≤ o → o < L.off + L.cap → ¬ (lo ≤ o ∧ o < hi))
      (hcs : ∀ i v, cs[i]? = some v → ∃ V, c[L.off + i]? = some V ∧ VR F w μ v V) (hF : ∀ o, ¬ F L.block o) : OBR B0 F w μ id (.cells cs opn)
  | map (ks vs : List AV) (L : Loc) (es : Array MapEntry) (clock : Nat) (hμ : μ id = some L) (hB : B0 ≤ L.block)
      (hw : w.heap[L.block]? = some (.map es clock)) (hes : VRk F w μ ks vs es.toList) (hb : Born es.toList clock) (hF : ∀ o, ¬ F L.block o) : OBR B0 F w μ id (.map ks vs)
  | loop (T : List (Nat × AV)) (K : LoopK) (L : Loc) (rec : Loop) (hμ : μ id = some L) (hB : B0 ≤ L.block)
      (hw : w.heap[L.block]? = some (.loop rec)) (hps : rec.params = K.ps) (has : rec.assign = K.assign) (hbd : rec.body = K.body) (hst : rec.state = K.st) (hpe : rec.pending = K.pend)
      (hn : rec.tmps.size = K.n) (hT : ∀ t, VR F w μ (get T t) (rec.tmps.getD t undef)) (hF : ∀ o, ¬ F L.block o) : OBR B0 F w μ id (.loop T K)
  | dfr (L : Loc) (hμ : μ id = some L) (hB : B0 ≤ L.block) (hw : w.heap[L.block]? = some (.deferred (some []))) (hF : ∀ o, ¬ F L.block o) : OBR B0 F w μ id .dfr
  | iter (ks vs : List AV) (seen : List Nat) (L : Loc) (m : Nat) (es : Array MapEntry) (clock : Nat) (ss : Array Nat) (hμ : μ id = some L) (hB : B0 ≤ L.block) (h0 : L.off = 0)
      (hw : w.heap[L.block]? = some (.mapIter (some m) clock ss clock)) (hm : F m 0) (hmw : w.heap[m]? = some (.map es clock)) (hb : Born es.toList clock) (hk : VRk F w μ ks vs es.toList)
      (hss : ss.toList.map some = seen.map (fun j => (es.toList[j]?).map (·.born))) (hF : ∀ o, ¬ F L.block o) : OBR B0 F w μ id (.iter ks vs seen)
  | dead : OBR B0 F w μ id .dead

def OB.live : OB → Bool
  | .dead => false
  | _ => true

structure Sim (w0 : World) (F0 F : Nat → Nat → Prop) (μ : Nat → Option Loc) (H : List OB) (w : World) : Prop where
  below : Below w0.heap.size w0 w
  new : ∀ b o, F0 b o → F b o
  old : ∀ b o, b < w0.heap.size → F b o → F0 b o
  lt : ∀ b o, F b o → b < w.heap.size
  obs : ∀ id blk, H[id]? = some blk → OBR w0.heap.size F w μ id blk
  apart : ∀ i j bi bj Li Lj, H[i]? = some bi → H[j]? = some bj → bi.live = true → bj.live = true → μ i = some Li → μ j = some Lj → i ≠ j → Li.block ≠ Lj.block
  dom : ∀ id L, μ id = some L → id < H.length

/-- What the activation leaves with: the marks of its loops over functions. -/
inductive VD (μ : Nat → Option Loc) : List Nat → List Deferred → Prop
  | nil : VD μ [] []
  | cons (id : Nat) (L : Loc) (D : List Nat) (ds : List Deferred) (h : μ id = some L) (t : VD μ D ds) : VD μ (id :: D) ({ target := .collected L.block, args := #[] } :: ds)

theorem VD.mono {μ μ' : Nat → Option Loc} {D : List Nat} {ds : List Deferred} (h : VD μ D ds) (x : ∀ id L, μ id = some L → μ' id = some L) : VD μ' D ds := by
  induction h with
  | nil => exact .nil
  | cons id L D ds h _ ih => exact .cons id L D ds (x _ _ h) ih

/-- What a machine's state has to do with a state. -/
structure RelT (n : Nat) (F : Nat → Nat → Prop) (μ : Nat → Option Loc) (a : St) (act : Act) (w : World) : Prop where
  defers : VD μ a.D act.defers
  size : act.tmps.size = n
  slots : ∀ t, VR F w μ (get a.T t) (act.tmps.getD t undef)

inductive Ex where
  | normal
  | exit (id : Nat)
  | goto (l : Nat)
  | ret
  | panic (t : TypeId) (v : AV)

inductive ExR (F : Nat → Nat → Prop) (w : World) (μ : Nat → Option Loc) : Ex → Exit → Prop
  | normal : ExR F w μ .normal .normal
  | exit (id : Nat) : ExR F w μ (.exit id) (.exit id)
  | goto (l : Nat) : ExR F w μ (.goto l) (.goto l)
  | ret : ExR F w μ .ret .ret
  | panic (t : TypeId) (v : AV) (V : Value) (h : VR F w μ v V) : ExR F w μ (.panic t v) (.panic [{ v := .iface t V, recovered := false }])

/-- Where a walk began: its caller's memory, what must be told of it behind the walk. -/
structure Bs (m : Nat) where
  w0 : World
  F0 : Nat → Nat → Prop
  ws : World
  Fs : Nat → Nat → Prop
  μs : Nat → Option Loc
  dom : ∀ id L, μs id = some L → id < m

def Rel (n : Nat) {m : Nat} (B : Bs m) (a : St) (act : Act) (w : World) : Prop :=
  ∃ F μ, Sim B.w0 B.F0 F μ a.H w ∧ Ext B.Fs B.ws B.μs F w μ ∧ RelT n F μ a act w

def RelE (n : Nat) {m : Nat} (B : Bs m) (Q : Ex → St → Prop) (e : Exit) (act : Act) (w : World) : Prop :=
  ∃ ex a F μ, Q ex a ∧ ExR F w μ ex e ∧ Sim B.w0 B.F0 F μ a.H w ∧ Ext B.Fs B.ws B.μs F w μ ∧ RelT n F μ a act w

/-- Any function; in a round of a loop over a function, or in none. -/
def fnc (R : Option Nat) : Fence := { Fence.wide with round := R }

/-- From each machine's state that is one of 'a', the code runs, and ends as 'Q' says. -/
def W (P : Program) (n m : Nat) (R : Option Nat) (c : Code) (Q : Ex → St → Prop) (a : St) : Prop :=
  ∀ (B : Bs m) act w, Rel n B a act w → c.wpIn (fnc R) 1 P (RelE n B Q) act w

section
variable {P : Program} {n m : Nat} {R : Option Nat} {Q Q' : Ex → St → Prop} {a b : St}

theorem W.mono {c : Code} (h : W P n m R c Q a) (hq : ∀ ex a, Q ex a → Q' ex a) : W P n m R c Q' a :=
  fun B act w r => wpIn_mono (h B act w r) fun _ _ _ ⟨ex, a', F, μ, q, x⟩ => ⟨ex, a', F, μ, hq _ _ q, x⟩

theorem RelE.of {B : Bs m} {act : Act} {w : World} {ex : Ex} {e : Exit} (hr : Rel n B a act w) (hq : Q ex a) (hx : ∀ F μ, ExR F w μ ex e) :
    RelE n B Q e act w := let ⟨F, μ, s, y, t⟩ := hr; ⟨ex, a, F, μ, hq, hx F μ, s, y, t⟩

theorem W.skip (h : Q .normal a) : W P n m R .skip Q a := fun B act w r => wpIn_skip (.of r h fun _ _ => .normal)
theorem W.label {l : Nat} (h : Q .normal a) : W P n m R (.label l) Q a := fun B act w r => wpIn_label (.of r h fun _ _ => .normal)
theorem W.exit {id : Nat} (h : Q (.exit id) a) : W P n m R (.exit id) Q a := fun B act w r => wpIn_exit (.of r h fun _ _ => .exit id)
theorem W.goto {l : Nat} (h : Q (.goto l) a) : W P n m R (.goto l) Q a := fun B act w r => wpIn_goto (.of r h fun _ _ => .goto l)
theorem W.ret (h : Q .ret a) : W P n m R .ret Q a := fun B act w r => wpIn_ret (.of r h fun _ _ => .ret)

/-- Where the first part ends, the second goes on. -/
def thenQ (next : St → Prop) (Q : Ex → St → Prop) : Ex → St → Prop
  | .normal, a => next a
  | ex, a => Q ex a

theorem W.seq {x y : Code} (h : W P n m R x (thenQ (W P n m R y Q) Q) a) : W P n m R (.seq x y) Q a := by
  intro B act w r
  refine wpIn_seq (wpIn_mono (h B act w r) ?_)
  rintro e act' w' ⟨ex, a', F, μ, q, x, s, y, t⟩
  cases x with
  | normal => exact q B act' w' ⟨F, μ, s, y, t⟩
  | exit id => exact ⟨_, a', F, μ, q, .exit id, s, y, t⟩
  | goto l => exact ⟨_, a', F, μ, q, .goto l, s, y, t⟩
  | ret => exact ⟨_, a', F, μ, q, .ret, s, y, t⟩
  | panic t v V h => exact ⟨_, a', F, μ, q, .panic t v V h, s, y, ‹_›⟩

theorem RelT.ev {F : Nat → Nat → Prop} {μ : Nat → Option Loc} {act : Act} {w : World} (h : RelT n F μ a act w) (x : Operand) : VR F w μ (a.ev x) (act.eval x) := by
  cases x with
  | tmp t => exact h.slots t
  | const v =>
    simp only [St.ev, Act.eval]
    cases v with
    | bool b => exact .bool _
    | int k n => exact .int _ _
    | string s =>
      simp only [ofV]
      split
      · rename_i hs
        have := VR.str (F := F) (w := w) (μ := μ) s.data.toList (by rw [Array.length_toList]; exact hs)
        simpa using this
      · exact .junk _
    | pointer p => cases p with
      | none => exact .nilptr
      | some p => exact .junk _
    | slice p l c => cases p with
      | none =>
        simp only [ofV]
        split
        · rename_i h; obtain ⟨rfl, rfl⟩ := h; exact .vsl 0 true [] none 0 (fun _ => rfl) (Nat.le_refl _) (Nat.zero_le _) (.nil _ _)
        · exact .junk _
      | some p => exact .junk _
    | map p => cases p with
      | none => exact .nilmap
      | some p => exact .junk _
    | nilFunc => exact .nilfunc
    | nilIface => exact .nilif
    | func fn f c =>
      simp only [ofV]
      split
      · rename_i h; obtain ⟨rfl, rfl⟩ := h; exact .func _ [] [] #[] #[] .nil .nil
      · exact .junk _
    | float k b => exact .junk _
    | complex k b d => exact .junk _
    | chan r => exact .junk _
    | iface t v => exact .junk _
    | agg c => exact .junk _
    | tuple c => exact .junk _
  | func f => exact .func _ [] [] #[] #[] .nil .nil
  | global g => exact .junk _

theorem W.cond {c : Operand} {x y : Code} {t : Bool} (hc : a.ev c = .bool t) (h : W P n m R (if t then x else y) Q a) : W P n m R (.cond c x y) Q a := by
  intro B act w r
  obtain ⟨F, μ, s, y, ht⟩ := r
  have hv := ht.ev c
  rw [hc] at hv
  generalize hV : act.eval c = V at hv
  cases hv
  exact wpIn_cond hV (h B act w ⟨F, μ, s, y, ht⟩)

/-- An exit of this block is its end. -/
def blockQ (id : Nat) (Q : Ex → St → Prop) : Ex → St → Prop
  | .exit id', a => if id' = id then Q .normal a else Q (.exit id') a
  | ex, a => Q ex a

theorem W.block {id : Nat} {c : Code} (h : W P n m R c (blockQ id Q) a) : W P n m R (.block id c) Q a := by
  intro B act w r
  refine wpIn_block (wpIn_mono (h B act w r) ?_)
  rintro e act' w' ⟨ex, a', F, μ, q, x, s, y, t⟩
  cases x with
  | normal => exact ⟨_, a', F, μ, q, .normal, s, y, t⟩
  | exit id' =>
    simp only [Exit.inBlock]
    simp only [blockQ] at q
    by_cases hid : id' = id
    · rw [if_pos hid] at q ⊢; exact ⟨_, a', F, μ, q, .normal, s, y, t⟩
    · rw [if_neg hid] at q ⊢; exact ⟨_, a', F, μ, q, .exit id', s, y, t⟩
  | goto l => exact ⟨_, a', F, μ, q, .goto l, s, y, t⟩
  | ret => exact ⟨_, a', F, μ, q, .ret, s, y, t⟩
  | panic t v V h => exact ⟨_, a', F, μ, q, .panic t v V h, s, y, ‹_›⟩

/-- A loop: what holds at each round's head is one of the states 'S x'; each round lowers the measure. -/
theorem W.loop {c : Code} {X : Type} (I : X → St → Prop) (ms : X → Nat) (x0 : X) (h0 : I x0 a)
    (round : ∀ x a, I x a → W P n m R c (thenQ (fun a' => ∃ y, I y a' ∧ ms y < ms x) Q) a) : W P n m R (.loop c) Q a := by
  intro B act w r
  intro fb k cs hro hb hr
  have key : ∀ N x a act w, ms x = N → I x a → Rel n B a act w →
      ∃ e act' w', RelE n B Q e act' w' ∧ ArrivesIn (Machine.fenced P (fnc R)) P (lone (fb.atR act (.code c :: .inLoop c :: k)) cs w) fb k cs e act' w' := by
    intro N
    induction N using Nat.strongRecOn with
    | _ N ih =>
      intro x a act w hN hI hrel
      obtain ⟨e, act₁, w₁, hq, harr⟩ := round x a hI B act w hrel fb (.inLoop c :: k) cs hro hb hr
      obtain ⟨ex, a', F, μ, q, hx, s, y, t⟩ := hq
      cases hx with
      | normal =>
        obtain ⟨x', hIy, hlt⟩ := q
        obtain ⟨e₂, a₂, w₂, hq₂, harr₂⟩ := ih (ms x') (hN ▸ hlt) x' a' act₁ w₁ rfl hIy ⟨F, μ, s, y, t⟩
        exact ⟨e₂, a₂, w₂, hq₂, .of_steps (StepsIn.trans harr (.one (fenced_calm hb hr rfl) stepR_inLoop)) harr₂⟩
      | exit id => exact ⟨_, act₁, w₁, ⟨_, a', F, μ, q, .exit id, s, y, t⟩, .pass (x := .inLoop c) rfl (fun _ _ => .inl (by simp)) harr⟩
      | goto l => exact ⟨_, act₁, w₁, ⟨_, a', F, μ, q, .goto l, s, y, t⟩, .pass (x := .inLoop c) rfl (fun _ _ => .inl (by simp)) harr⟩
      | ret => exact ⟨_, act₁, w₁, ⟨_, a', F, μ, q, .ret, s, y, t⟩, .pass (x := .inLoop c) rfl (fun _ _ => .inl (by simp)) harr⟩
      | panic t v V h => exact ⟨_, act₁, w₁, ⟨_, a', F, μ, q, .panic t v V h, s, y, ‹_›⟩, .pass (x := .inLoop c) rfl (fun _ _ => .inl (by simp)) harr⟩
  obtain ⟨e, act', w', hq, harr⟩ := key _ x0 a act w rfl h0 r
  exact ⟨e, act', w', hq, .of_steps (.one (fenced_calm hb hr rfl) stepR_loop) harr⟩

/-- What a jump forward to a label of this scope does: what stands behind the label. -/
def scopeQ (l : Nat) (J : St → Prop) (Q : Ex → St → Prop) : Ex → St → Prop
  | .goto l', a => l' = l ∧ J a
  | ex, a => Q ex a

/-- No jump leaves what stands behind the label. -/
def noGotoQ (Q : Ex → St → Prop) : Ex → St → Prop
  | .goto _, _ => False
  | ex, a => Q ex a

theorem W.scope_straight {c : Code} (h : W P n m none c (noGotoQ Q) a) : W P n m none (.scope c) Q a := by
  intro B act w r
  refine wpIn_wide.2 (wp_scope_straight (wp_mono (wpIn_wide.1 (h B act w r)) ?_))
  rintro e act' w' ⟨ex, a', F, μ, q, x, s, y, t⟩
  cases x with
  | normal => exact ⟨_, a', F, μ, q, .normal, s, y, t⟩
  | exit id' => exact ⟨_, a', F, μ, q, .exit id', s, y, t⟩
  | goto l => exact q.elim
  | ret => exact ⟨_, a', F, μ, q, .ret, s, y, t⟩
  | panic t v V h => exact ⟨_, a', F, μ, q, .panic t v V h, s, y, ‹_›⟩

/-- A scope with one label, to which the run jumps forward. -/
theorem W.scope {c rest : Code} (l : Nat) (hf : findLabel c l = some rest) (h : W P n m none c (scopeQ l (W P n m none rest (noGotoQ Q)) Q) a) : W P n m none (.scope c) Q a := by
  intro B act w r
  refine wpIn_wide.2 (wp_scope_jumps l (fun act w => ∃ a, Rel n B a act w ∧ W P n m none rest (noGotoQ Q) a) (fun _ _ => 0) hf (wp_mono (wpIn_wide.1 (h B act w r)) ?_) ?_)
  · rintro e act' w' ⟨ex, a', F, μ, q, x, s, y, t⟩
    cases x with
    | normal => exact ⟨_, a', F, μ, q, .normal, s, y, t⟩
    | exit id' => exact ⟨_, a', F, μ, q, .exit id', s, y, t⟩
    | goto l' => exact ⟨q.1, a', ⟨F, μ, s, y, t⟩, q.2⟩
    | ret => exact ⟨_, a', F, μ, q, .ret, s, y, t⟩
    | panic t v V h => exact ⟨_, a', F, μ, q, .panic t v V h, s, y, ‹_›⟩
  · rintro act w ⟨a, hr, hw⟩
    refine wp_mono (wpIn_wide.1 (hw B act w hr)) ?_
    rintro e act' w' ⟨ex, a', F, μ, q, x, s, y, t⟩
    cases x with
    | normal => exact ⟨_, a', F, μ, q, .normal, s, y, t⟩
    | exit id' => exact ⟨_, a', F, μ, q, .exit id', s, y, t⟩
    | goto l => exact q.elim
    | ret => exact ⟨_, a', F, μ, q, .ret, s, y, t⟩
    | panic t v V h => exact ⟨_, a', F, μ, q, .panic t v V h, s, y, ‹_›⟩
end
end Go.Av
