/- A framework of abstract values: no program in sight; under the conditions named at each theorem. -/
import Derived.Scope
import Derived.Below
import Derived.ScopeJumps
import Derived.RangeFuncLeaves
import Derived.Laws.Cells
import Derived.Lib.IndexBytes
namespace Go.Av
set_option linter.unusedVariables false
set_option linter.unusedSimpArgs false

abbrev Bytes := List UInt8

/-- Abstract values: data as trees; 'ptr', 'sl', 'map' are handles to memory that is still written; 'vptr', 'vsl', 'vmap' are memory that stays as it is. -/
inductive AV where
  | junk
  | bool (b : Bool)
  | int (k : IntKind) (n : Int)
  | str (s : Bytes)
  | nilptr
  | ptr (id off : Nat)
  | vptr (cells : List AV)
  | sl (id off len wd : Nat)
  | vsl (wd : Nat) (exact : Bool) (elems : List AV)
  | nilmap
  | map (id : Nat)
  | vmap (keys vals : List AV)
  | func (fn : Fn) (first captured : List AV)
  | nilfunc
  | iface (t : TypeId) (v : AV)
  | nilif
  | agg (l : List AV)
  | tup (l : List AV)
  | yld (id : Nat)
  deriving Inhabited

def AV.cells : AV → List AV
  | .agg l => l
  | v => [v]

/-- How many cells an element has: 0 says one cell, no aggregate. -/
def esz : Nat → Nat
  | 0 => 1
  | n + 1 => n

structure Loc where
  block : Nat
  off : Nat
  cap : Nat

def maxLen' : Nat := 9223372036854775807

/-- The stamps of a map's entries: each its own, all below the clock. -/
structure Born (es : List MapEntry) (clock : Nat) : Prop where
  lt : ∀ e ∈ es, e.born < clock
  own : (es.map (·.born)).Nodup

section
variable (F : Nat → Nat → Prop) (w : World) (μ : Nat → Option Loc)

mutual
inductive VR : AV → Value → Prop
  | junk (V : Value) : VR .junk V
  | bool (b : Bool) : VR (.bool b) (.bool b)
  | int (k : IntKind) (n : Int) : VR (.int k n) (.int k n)
  | str (s : Bytes) (hb : s.length ≤ maxLen') : VR (.str s) (.string ⟨s.toArray⟩)
  | nilptr : VR .nilptr (.pointer none)
  | ptr (id off : Nat) (L : Loc) (h : μ id = some L) : VR (.ptr id off) (.pointer (some ⟨L.block, L.off + off, none⟩))
  | vptr (cs : List AV) (b o : Nat) (h : VRm cs b o) : VR (.vptr cs) (.pointer (some ⟨b, o, none⟩))
  | sl (id off len wd cap : Nat) (L : Loc) (h : μ id = some L) (hc : off + cap * esz wd = L.cap) (hl : len ≤ cap) (hb : len ≤ maxLen') :
      VR (.sl id off len wd) (.slice (some ⟨L.block, L.off + off, none⟩) len cap)
  | vsl (wd : Nat) (x : Bool) (es : List AV) (A : Option Addr) (cap : Nat) (hx : x = true → cap = es.length) (hl : es.length ≤ cap) (hb : es.length ≤ maxLen') (h : VRa es (esz wd) A) :
      VR (.vsl wd x es) (.slice A es.length cap)
  | nilmap : VR .nilmap (.map none)
  | map (id : Nat) (L : Loc) (h : μ id = some L) : VR (.map id) (.map (some L.block))
  | vmap (ks vs : List AV) (r : Nat) (es : Array MapEntry) (clock : Nat) (hF : F r 0) (hr : w.heap[r]? = some (.map es clock)) (hb : Born es.toList clock) (h : VRk ks vs es.toList) :
      VR (.vmap ks vs) (.map (some r))
  | func (fn : Fn) (fs cs : List AV) (Fs Cs : Array Value) (hf : VRs fs Fs.toList) (hc : VRs cs Cs.toList) : VR (.func fn fs cs) (.func fn Fs Cs)
  | nilfunc : VR .nilfunc .nilFunc
  | iface (t : TypeId) (v : AV) (V : Value) (h : VR v V) : VR (.iface t v) (.iface t V)
  | nilif : VR .nilif .nilIface
  | agg (l : List AV) (A : Array Value) (h : VRs l A.toList) : VR (.agg l) (.agg A)
  | tup (l : List AV) (A : Array Value) (h : VRs l A.toList) : VR (.tup l) (.tuple A)
  | yld (id : Nat) (L : Loc) (h : μ id = some L) : VR (.yld id) (.func (.yield L.block) #[] #[])
inductive VRs : List AV → List Value → Prop
  | nil : VRs [] []
  | cons (v : AV) (V : Value) (vs : List AV) (Vs : List Value) (h : VR v V) (t : VRs vs Vs) : VRs (v :: vs) (V :: Vs)
/-- Cells one behind the other in memory that stays. -/
inductive VRm : List AV → Nat → Nat → Prop
  | nil (b o : Nat) : VRm [] b o
  | cons (v : AV) (V : Value) (vs : List AV) (b o : Nat) (hF : F b o) (hc : w.cell? ⟨b, o, none⟩ = some V) (h : VR v V) (t : VRm vs b (o + 1)) : VRm (v :: vs) b o
/-- Elements one behind the other, each of 'size' cells. -/
inductive VRe : List AV → Nat → Nat → Nat → Prop
  | nil (size b o : Nat) : VRe [] size b o
  | cons (v : AV) (vs : List AV) (size b o : Nat) (hs : v.cells.length = size) (h : VRm v.cells b o) (t : VRe vs size b (o + size)) : VRe (v :: vs) size b o
inductive VRa : List AV → Nat → Option Addr → Prop
  | nil (size : Nat) (A : Option Addr) : VRa [] size A
  | at (es : List AV) (size b o : Nat) (h : VRe es size b o) : VRa es size (some ⟨b, o, none⟩)
inductive VRk : List AV → List AV → List MapEntry → Prop
  | nil : VRk [] [] []
  | cons (k v : AV) (ks vs : List AV) (e : MapEntry) (es : List MapEntry) (hk : VR k e.key) (hv : VR v e.val) (t : VRk ks vs es) : VRk (k :: ks) (v :: vs) (e :: es)
end
end

/-- What may change between two states of memory. -/
structure Ext (F : Nat → Nat → Prop) (w : World) (μ : Nat → Option Loc) (F' : Nat → Nat → Prop) (w' : World) (μ' : Nat → Option Loc) : Prop where
  mu : ∀ id L, μ id = some L → μ' id = some L
  fr : ∀ b o, F b o → F' b o
  cell : ∀ b o V, F b o → w.cell? ⟨b, o, none⟩ = some V → w'.cell? ⟨b, o, none⟩ = some V
  obj : ∀ b es c, F b 0 → w.heap[b]? = some (.map es c) → w'.heap[b]? = some (.map es c)

theorem Ext.refl (F : Nat → Nat → Prop) (w : World) (μ : Nat → Option Loc) : Ext F w μ F w μ := ⟨fun _ _ h => h, fun _ _ h => h, fun _ _ _ _ h => h, fun _ _ _ _ h => h⟩
theorem Ext.trans {F F1 F2 : Nat → Nat → Prop} {w w1 w2 : World} {μ μ1 μ2 : Nat → Option Loc} (h : Ext F w μ F1 w1 μ1) (k : Ext F1 w1 μ1 F2 w2 μ2) : Ext F w μ F2 w2 μ2 :=
  ⟨fun id L e => k.mu _ _ (h.mu _ _ e), fun b o e => k.fr _ _ (h.fr _ _ e), fun b o V f e => k.cell _ _ _ (h.fr _ _ f) (h.cell _ _ _ f e), fun b es c f e => k.obj _ _ _ (h.fr _ _ f) (h.obj _ _ _ f e)⟩

section
variable {F F' : Nat → Nat → Prop} {w w' : World} {μ μ' : Nat → Option Loc}
mutual
theorem VR.mono (x : Ext F w μ F' w' μ') {v : AV} {V : Value} : VR F w μ v V → VR F' w' μ' v V
  | .junk V => .junk V
  | .bool b => .bool b
  | .int k n => .int k n
  | .str s hb => .str s hb
  | .nilptr => .nilptr
  | .ptr id off L h => .ptr id off L (x.mu _ _ h)
  | .vptr cs b o h => .vptr cs b o (VRm.mono x h)
  | .sl id off len wd cap L h hc hl hb => .sl id off len wd cap L (x.mu _ _ h) hc hl hb
  | .vsl wd e es A cap hx hl hb h => .vsl wd e es A cap hx hl hb (VRa.mono x h)
  | .nilmap => .nilmap
  | .map id L h => .map id L (x.mu _ _ h)
  | .vmap ks vs r es clock hF hr hb h => .vmap ks vs r es clock (x.fr _ _ hF) (x.obj _ _ _ hF hr) hb (VRk.mono x h)
  | .func fn fs cs Fs Cs hf hc => .func fn fs cs Fs Cs (VRs.mono x hf) (VRs.mono x hc)
  | .nilfunc => .nilfunc
  | .iface t v V h => .iface t v V (VR.mono x h)
  | .nilif => .nilif
  | .agg l A h => .agg l A (VRs.mono x h)
  | .tup l A h => .tup l A (VRs.mono x h)
  | .yld id L h => .yld id L (x.mu _ _ h)
theorem VRs.mono (x : Ext F w μ F' w' μ') {vs : List AV} {Vs : List Value} : VRs F w μ vs Vs → VRs F' w' μ' vs Vs
  | .nil => .nil
  | .cons v V vs Vs h t => .cons v V vs Vs (VR.mono x h) (VRs.mono x t)
theorem VRm.mono (x : Ext F w μ F' w' μ') {vs : List AV} {b o : Nat} : VRm F w μ vs b o → VRm F' w' μ' vs b o
  | .nil b o => .nil b o
  | .cons v V vs b o hF hc h t => .cons v V vs b o (x.fr _ _ hF) (x.cell _ _ _ hF hc) (VR.mono x h) (VRm.mono x t)
theorem VRe.mono (x : Ext F w μ F' w' μ') {vs : List AV} {size b o : Nat} : VRe F w μ vs size b o → VRe F' w' μ' vs size b o
  | .nil s b o => .nil s b o
  | .cons v vs s b o hs h t => .cons v vs s b o hs (VRm.mono x h) (VRe.mono x t)
theorem VRa.mono (x : Ext F w μ F' w' μ') {vs : List AV} {size : Nat} {A : Option Addr} : VRa F w μ vs size A → VRa F' w' μ' vs size A
  | .nil s A => .nil s A
  | .at es s b o h => .at es s b o (VRe.mono x h)
theorem VRk.mono (x : Ext F w μ F' w' μ') {ks vs : List AV} {es : List MapEntry} : VRk F w μ ks vs es → VRk F' w' μ' ks vs es
  | .nil => .nil
  | .cons k v ks vs e es hk hv t => .cons k v ks vs e es (VR.mono x hk) (VR.mono x hv) (VRk.mono x t)
end
end
end Go.Av
namespace Go.Av
set_option linter.unusedVariables false
set_option linter.unusedSimpArgs false
open Go.RowKit (Below)

/-- What of a loop over a function stays, and where it stands. -/
structure LoopK where
  n : Nat
  ps : Array Tmp
  assign : Code
  body : Code
  st : LoopState
  pend : Option Code

/-- Memory that is still written. 'opn': behind its cells there is room that nobody else has. 'loop': a loop over a function that runs; 'dfr': what a function with such a loop leaves with. -/
inductive OB where
  | cells (cs : List AV) (opn : Bool)
  | map (ks vs : List AV)
  | loop (T : List (Nat × AV)) (K : LoopK)
  | dfr
  | iter (ks vs : List AV) (seen : List Nat)
  | dead
  deriving Inhabited

/-- A state: what the slots hold (what is not told: anything), the memory that is written. -/
structure St where
  T : List (Nat × AV)
  H : List OB
  D : List Nat

def St.put (a : St) (d : Option Nat) (v : AV) : St :=
  match d with
  | none => a
  | some d => { a with T := (d, v) :: a.T }

/-- What a slot holds. -/
def get (T : List (Nat × AV)) (t : Nat) : AV :=
  match T with
  | [] => .junk
  | (i, v) :: r => if i = t then v else get r t

/-- A constant as an abstract value. -/
def ofV : Value → AV
  | .bool b => .bool b
  | .int k n => .int k n
  | .string s => if s.size ≤ maxLen' then .str s.data.toList else .junk
  | .pointer none => .nilptr
  | .slice none l c => if l = 0 ∧ c = 0 then .vsl 0 true [] else .junk
  | .map none => .nilmap
  | .nilFunc => .nilfunc
  | .nilIface => .nilif
  | .func fn f c => if f = #[] ∧ c = #[] then .func fn [] [] else .junk
  | _ => .junk

def St.ev (a : St) : Operand → AV
  | .tmp t => get a.T t
  | .const v => ofV v
  | .func f => .func (.func f) [] []
  | .global _ => .junk

inductive OBR (B0 : Nat) (F : Nat → Nat → Prop) (w : World) (μ : Nat → Option Loc) (id : Nat) : OB → Prop
  | cells (cs : List AV) (opn : Bool) (L : Loc) (c : Array Value) (el : TypeId) (lo hi : Nat) (hμ : μ id = some L) (hB : B0 ≤ L.block)
      (hw : w.heap[L.block]? = some (.cells c el (lo, hi))) (hcap : L.off + L.cap ≤ c.size) (hlen : cs.length ≤ L.cap) (hfix : opn = false → L.cap = cs.length)
      (hun : ∀ o, L.off ≤ o → o < L.off + L.cap → ¬ (lo ≤ o ∧ o < hi))
      (hcs : ∀ i v, cs[i]? = some v → ∃ V, c[L.off + i]? = some V ∧ VR F w μ v V) (hF : ∀ o, ¬ F L.block o) : OBR B0 F w μ id (.cells cs opn)
  | map (ks vs : List AV) (L : Loc) (es : Array MapEntry) (clock : Nat) (hμ : μ id = some L) (hB : B0 ≤ L.block)
      (hw : w.heap[L.block]? = some (.map es clock)) (hes : VRk F w μ ks vs es.toList) (hb : Born es.toList clock) (hF : ∀ o, ¬ F L.block o) : OBR B0 F w μ id (.map ks vs)
  | loop (T : List (Nat × AV)) (K : LoopK) (L : Loc) (rec : Loop) (hμ : μ id = some L) (hB : B0 ≤ L.block)
      (hw : w.heap[L.block]? = some (.loop rec)) (hps : rec.params = K.ps) (has : rec.assign = K.assign) (hbd : rec.body = K.body) (hst : rec.state = K.st) (hpe : rec.pending = K.pend)
      (hn : rec.tmps.size = K.n) (hT : ∀ t, VR F w μ (get T t) (rec.tmps.getD t undef)) (hF : ∀ o, ¬ F L.block o) : OBR B0 F w μ id (.loop T K)
  | dfr (L : Loc) (hμ : μ id = some L) (hB : B0 ≤ L.block) (hw : w.heap[L.block]? = some (.deferred (some []))) (hF : ∀ o, ¬ F L.block o) : OBR B0 F w μ id .dfr
  | iter (ks vs : List AV) (seen : List Nat) (L : Loc) (m : Nat) (es : Array MapEntry) (clock : Nat) (ss : Array Nat) (hμ : μ id = some L) (hB : B0 ≤ L.block) (h0 : L.off = 0)
      (hw : w.heap[L.block]? = some (.mapIter (some m) clock ss clock)) (hm : F m 0) (hmw : w.heap[m]? = some (.map es clock)) (hb : Born es.toList clock) (hk : VRk F w μ ks vs es.toList)
      (hss : ss.toList.map some = seen.map (fun j => (es.toList[j]?).map (·.born))) (hF : ∀ o, ¬ F L.block o) : OBR B0 F w μ id (.iter ks vs seen)
  | dead : OBR B0 F w μ id .dead

def OB.live : OB → Bool
  | .dead => false
  | _ => true

structure Sim (w0 : World) (F0 F : Nat → Nat → Prop) (μ : Nat → Option Loc) (H : List OB) (w : World) : Prop where
  below : Below w0.heap.size w0 w
  new : ∀ b o, F0 b o → F b o
  old : ∀ b o, b < w0.heap.size → F b o → F0 b o
  lt : ∀ b o, F b o → b < w.heap.size
  obs : ∀ id blk, H[id]? = some blk → OBR w0.heap.size F w μ id blk
  apart : ∀ i j bi bj Li Lj, H[i]? = some bi → H[j]? = some bj → bi.live = true → bj.live = true → μ i = some Li → μ j = some Lj → i ≠ j → Li.block ≠ Lj.block
  dom : ∀ id L, μ id = some L → id < H.length

/-- What the activation leaves with: the marks of its loops over functions. -/
inductive VD (μ : Nat → Option Loc) : List Nat → List Deferred → Prop
  | nil : VD μ [] []
  | cons (id : Nat) (L : Loc) (D : List Nat) (ds : List Deferred) (h : μ id = some L) (t : VD μ D ds) : VD μ (id :: D) ({ target := .collected L.block, args := #[] } :: ds)

theorem VD.mono {μ μ' : Nat → Option Loc} {D : List Nat} {ds : List Deferred} (h : VD μ D ds) (x : ∀ id L, μ id = some L → μ' id = some L) : VD μ' D ds := by
  induction h with
  | nil => exact .nil
  | cons id L D ds h _ ih => exact .cons id L D ds (x _ _ h) ih

/-- What a machine's state has to do with a state. -/
structure RelT (n : Nat) (F : Nat → Nat → Prop) (μ : Nat → Option Loc) (a : St) (act : Act) (w : World) : Prop where
  defers : VD μ a.D act.defers
  size : act.tmps.size = n
  slots : ∀ t, VR F w μ (get a.T t) (act.tmps.getD t undef)

inductive Ex where
  | normal
  | exit (id : Nat)
  | goto (l : Nat)
  | ret
  | panic (t : TypeId) (v : AV)

inductive ExR (F : Nat → Nat → Prop) (w : World) (μ : Nat → Option Loc) : Ex → Exit → Prop
  | normal : ExR F w μ .normal .normal
  | exit (id : Nat) : ExR F w μ (.exit id) (.exit id)
  | goto (l : Nat) : ExR F w μ (.goto l) (.goto l)
  | ret : ExR F w μ .ret .ret
  | panic (t : TypeId) (v : AV) (V : Value) (h : VR F w μ v V) : ExR F w μ (.panic t v) (.panic [{ v := .iface t V, recovered := false }])

/-- Where a walk began: its caller's memory, what must be told of it behind the walk. -/
structure Bs (m : Nat) where
  w0 : World
  F0 : Nat → Nat → Prop
  ws : World
  Fs : Nat → Nat → Prop
  μs : Nat → Option Loc
  dom : ∀ id L, μs id = some L → id < m

def Rel (n : Nat) {m : Nat} (B : Bs m) (a : St) (act : Act) (w : World) : Prop :=
  ∃ F μ, Sim B.w0 B.F0 F μ a.H w ∧ Ext B.Fs B.ws B.μs F w μ ∧ RelT n F μ a act w

def RelE (n : Nat) {m : Nat} (B : Bs m) (Q : Ex → St → Prop) (e : Exit) (act : Act) (w : World) : Prop :=
  ∃ ex a F μ, Q ex a ∧ ExR F w μ ex e ∧ Sim B.w0 B.F0 F μ a.H w ∧ Ext B.Fs B.ws B.μs F w μ ∧ RelT n F μ a act w

/-- Any function; in a round of a loop over a function, or in none. -/
def fnc (R : Option Nat) : Fence := { Fence.wide with round := R }

/-- From each machine's state that is one of 'a', the code runs, and ends as 'Q' says. -/
def W (P : Program) (n m : Nat) (R : Option Nat) (c : Code) (Q : Ex → St → Prop) (a : St) : Prop :=
  ∀ (B : Bs m) act w, Rel n B a act w → c.wpIn (fnc R) 1 P (RelE n B Q) act w

section
variable {P : Program} {n m : Nat} {R : Option Nat} {Q Q' : Ex → St → Prop} {a b : St}

theorem W.mono {c : Code} (h : W P n m R c Q a) (hq : ∀ ex a, Q ex a → Q' ex a) : W P n m R c Q' a :=
  fun B act w r => wpIn_mono (h B act w r) fun _ _ _ ⟨ex, a', F, μ, q, x⟩ => ⟨ex, a', F, μ, hq _ _ q, x⟩

theorem RelE.of {B : Bs m} {act : Act} {w : World} {ex : Ex} {e : Exit} (hr : Rel n B a act w) (hq : Q ex a) (hx : ∀ F μ, ExR F w μ ex e) :
    RelE n B Q e act w := let ⟨F, μ, s, y, t⟩ := hr; ⟨ex, a, F, μ, hq, hx F μ, s, y, t⟩

theorem W.skip (h : Q .normal a) : W P n m R .skip Q a := fun B act w r => wpIn_skip (.of r h fun _ _ => .normal)
theorem W.label {l : Nat} (h : Q .normal a) : W P n m R (.label l) Q a := fun B act w r => wpIn_label (.of r h fun _ _ => .normal)
theorem W.exit {id : Nat} (h : Q (.exit id) a) : W P n m R (.exit id) Q a := fun B act w r => wpIn_exit (.of r h fun _ _ => .exit id)
theorem W.goto {l : Nat} (h : Q (.goto l) a) : W P n m R (.goto l) Q a := fun B act w r => wpIn_goto (.of r h fun _ _ => .goto l)
theorem W.ret (h : Q .ret a) : W P n m R .ret Q a := fun B act w r => wpIn_ret (.of r h fun _ _ => .ret)

/-- Where the first part ends, the second goes on. -/
def thenQ (next : St → Prop) (Q : Ex → St → Prop) : Ex → St → Prop
  | .normal, a => next a
  | ex, a => Q ex a

theorem W.seq {x y : Code} (h : W P n m R x (thenQ (W P n m R y Q) Q) a) : W P n m R (.seq x y) Q a := by
  intro B act w r
  refine wpIn_seq (wpIn_mono (h B act w r) ?_)
  rintro e act' w' ⟨ex, a', F, μ, q, x, s, y, t⟩
  cases x with
  | normal => exact q B act' w' ⟨F, μ, s, y, t⟩
  | exit id => exact ⟨_, a', F, μ, q, .exit id, s, y, t⟩
  | goto l => exact ⟨_, a', F, μ, q, .goto l, s, y, t⟩
  | ret => exact ⟨_, a', F, μ, q, .ret, s, y, t⟩
  | panic t v V h => exact ⟨_, a', F, μ, q, .panic t v V h, s, y, ‹_›⟩

theorem RelT.ev {F : Nat → Nat → Prop} {μ : Nat → Option Loc} {act : Act} {w : World} (h : RelT n F μ a act w) (x : Operand) : VR F w μ (a.ev x) (act.eval x) := by
  cases x with
  | tmp t => exact h.slots t
  | const v =>
    simp only [St.ev, Act.eval]
    cases v with
    | bool b => exact .bool _
    | int k n => exact .int _ _
    | string s =>
      simp only [ofV]
      split
      · rename_i hs
        have := VR.str (F := F) (w := w) (μ := μ) s.data.toList (by rw [Array.length_toList]; exact hs)
        simpa using this
      · exact .junk _
    | pointer p => cases p with
      | none => exact .nilptr
      | some p => exact .junk _
    | slice p l c => cases p with
      | none =>
        simp only [ofV]
        split
        · rename_i h; obtain ⟨rfl, rfl⟩ := h; exact .vsl 0 true [] none 0 (fun _ => rfl) (Nat.le_refl _) (Nat.zero_le _) (.nil _ _)
        · exact .junk _
      | some p => exact .junk _
    | map p => cases p with
      | none => exact .nilmap
      | some p => exact .junk _
    | nilFunc => exact .nilfunc
    | nilIface => exact .nilif
    | func fn f c =>
      simp only [ofV]
      split
      · rename_i h; obtain ⟨rfl, rfl⟩ := h; exact .func _ [] [] #[] #[] .nil .nil
      · exact .junk _
    | float k b => exact .junk _
    | complex k b d => exact .junk _
    | chan r => exact .junk _
    | iface t v => exact .junk _
    | agg c => exact .junk _
    | tuple c => exact .junk _
  | func f => exact .func _ [] [] #[] #[] .nil .nil
  | global g => exact .junk _

theorem W.cond {c : Operand} {x y : Code} {t : Bool} (hc : a.ev c = .bool t) (h : W P n m R (if t then x else y) Q a) : W P n m R (.cond c x y) Q a := by
  intro B act w r
  obtain ⟨F, μ, s, y, ht⟩ := r
  have hv := ht.ev c
  rw [hc] at hv
  generalize hV : act.eval c = V at hv
  cases hv
  exact wpIn_cond hV (h B act w ⟨F, μ, s, y, ht⟩)

/-- An exit of this block is its end. -/
def blockQ (id : Nat) (Q : Ex → St → Prop) : Ex → St → Prop
  | .exit id', a => if id' = id then Q .normal a else Q (.exit id') a
  | ex, a => Q ex a

theorem W.block {id : Nat} {c : Code} (h : W P n m R c (blockQ id Q) a) : W P n m R (.block id c) Q a := by
  intro B act w r
  refine wpIn_block (wpIn_mono (h B act w r) ?_)
  rintro e act' w' ⟨ex, a', F, μ, q, x, s, y, t⟩
  cases x with
  | normal => exact ⟨_, a', F, μ, q, .normal, s, y, t⟩
  | exit id' =>
    simp only [Exit.inBlock]
    simp only [blockQ] at q
    by_cases hid : id' = id
    · rw [if_pos hid] at q ⊢; exact ⟨_, a', F, μ, q, .normal, s, y, t⟩
    · rw [if_neg hid] at q ⊢; exact ⟨_, a', F, μ, q, .exit id', s, y, t⟩
  | goto l => exact ⟨_, a', F, μ, q, .goto l, s, y, t⟩
  | ret => exact ⟨_, a', F, μ, q, .ret, s, y, t⟩
  | panic t v V h => exact ⟨_, a', F, μ, q, .panic t v V h, s, y, ‹_›⟩

/-- A loop: what holds at each round's head is one of the states 'S x'; each round lowers the measure. -/
theorem W.loop {c : Code} {X : Type} (I : X → St → Prop) (ms : X → Nat) (x0 : X) (h0 : I x0 a)
    (round : ∀ x a, I x a → W P n m R c (thenQ (fun a' => ∃ y, I y a' ∧ ms y < ms x) Q) a) : W P n m R (.loop c) Q a := by
  intro B act w r
  intro fb k cs hro hb hr
  have key : ∀ N x a act w, ms x = N → I x a → Rel n B a act w →
      ∃ e act' w', RelE n B Q e act' w' ∧ ArrivesIn (Machine.fenced P (fnc R)) P (lone (fb.atR act (.code c :: .inLoop c :: k)) cs w) fb k cs e act' w' := by
    intro N
    induction N using Nat.strongRecOn with
    | _ N ih =>
      intro x a act w hN hI hrel
      obtain ⟨e, act₁, w₁, hq, harr⟩ := round x a hI B act w hrel fb (.inLoop c :: k) cs hro hb hr
      obtain ⟨ex, a', F, μ, q, hx, s, y, t⟩ := hq
      cases hx with
      | normal =>
        obtain ⟨x', hIy, hlt⟩ := q
        obtain ⟨e₂, a₂, w₂, hq₂, harr₂⟩ := ih (ms x') (hN ▸ hlt) x' a' act₁ w₁ rfl hIy ⟨F, μ, s, y, t⟩
        exact ⟨e₂, a₂, w₂, hq₂, .of_steps (StepsIn.trans harr (.one (fenced_calm hb hr rfl) stepR_inLoop)) harr₂⟩
      | exit id => exact ⟨_, act₁, w₁, ⟨_, a', F, μ, q, .exit id, s, y, t⟩, .pass (x := .inLoop c) rfl (fun _ _ => .inl (by simp)) harr⟩
      | goto l => exact ⟨_, act₁, w₁, ⟨_, a', F, μ, q, .goto l, s, y, t⟩, .pass (x := .inLoop c) rfl (fun _ _ => .inl (by simp)) harr⟩
      | ret => exact ⟨_, act₁, w₁, ⟨_, a', F, μ, q, .ret, s, y, t⟩, .pass (x := .inLoop c) rfl (fun _ _ => .inl (by simp)) harr⟩
      | panic t v V h => exact ⟨_, act₁, w₁, ⟨_, a', F, μ, q, .panic t v V h, s, y, ‹_›⟩, .pass (x := .inLoop c) rfl (fun _ _ => .inl (by simp)) harr⟩
  obtain ⟨e, act', w', hq, harr⟩ := key _ x0 a act w rfl h0 r
  exact ⟨e, act', w', hq, .of_steps (.one (fenced_calm hb hr rfl) stepR_loop) harr⟩

/-- What a jump forward to a label of this scope does: what stands behind the label. -/
def scopeQ (l : Nat) (J : St → Prop) (Q : Ex → St → Prop) : Ex → St → Prop
  | .goto l', a => l' = l ∧ J a
  | ex, a => Q ex a

/-- No jump leaves what stands behind the label. -/
def noGotoQ (Q : Ex → St → Prop) : Ex → St → Prop
  | .goto _, _ => False
  | ex, a => Q ex a

theorem W.scope_straight {c : Code} (h : W P n m none c (noGotoQ Q) a) : W P n m none (.scope c) Q a := by
  intro B act w r
  refine wpIn_wide.2 (wp_scope_straight (wp_mono (wpIn_wide.1 (h B act w r)) ?_))
  rintro e act' w' ⟨ex, a', F, μ, q, x, s, y, t⟩
  cases x with
  | normal => exact ⟨_, a', F, μ, q, .normal, s, y, t⟩
  | exit id' => exact ⟨_, a', F, μ, q, .exit id', s, y, t⟩
  | goto l => exact q.elim
  | ret => exact ⟨_, a', F, μ, q, .ret, s, y, t⟩
  | panic t v V h => exact ⟨_, a', F, μ, q, .panic t v V h, s, y, ‹_›⟩

/-- A scope with one label, to which the run jumps forward. -/
theorem W.scope {c rest : Code} (l : Nat) (hf : findLabel c l = some rest) (h : W P n m none c (scopeQ l (W P n m none rest (noGotoQ Q)) Q) a) : W P n m none (.scope c) Q a := by
  intro B act w r
  refine wpIn_wide.2 (wp_scope_jumps l (fun act w => ∃ a, Rel n B a act w ∧ W P n m none rest (noGotoQ Q) a) (fun _ _ => 0) hf (wp_mono (wpIn_wide.1 (h B act w r)) ?_) ?_)
  · rintro e act' w' ⟨ex, a', F, μ, q, x, s, y, t⟩
    cases x with
    | normal => exact ⟨_, a', F, μ, q, .normal, s, y, t⟩
    | exit id' => exact ⟨_, a', F, μ, q, .exit id', s, y, t⟩
    | goto l' => exact ⟨q.1, a', ⟨F, μ, s, y, t⟩, q.2⟩
    | ret => exact ⟨_, a', F, μ, q, .ret, s, y, t⟩
    | panic t v V h => exact ⟨_, a', F, μ, q, .panic t v V h, s, y, ‹_›⟩
  · rintro act w ⟨a, hr, hw⟩
    refine wp_mono (wpIn_wide.1 (hw B act w hr)) ?_
    rintro e act' w' ⟨ex, a', F, μ, q, x, s, y, t⟩
    cases x with
    | normal => exact ⟨_, a', F, μ, q, .normal, s, y, t⟩
    | exit id' => exact ⟨_, a', F, μ, q, .exit id', s, y, t⟩
    | goto l => exact q.elim
    | ret => exact ⟨_, a', F, μ, q, .ret, s, y, t⟩
    | panic t v V h => exact ⟨_, a', F, μ, q, .panic t v V h, s, y, ‹_›⟩
end
end Go.Av
namespace Go.Av
set_option linter.unusedVariables false
set_option linter.unusedSimpArgs false
open Go.RowKit (Below)

section
variable {w0 : World} {F0 F : Nat → Nat → Prop} {μ : Nat → Option Loc} {H : List OB} {w : World}

theorem cell_eq (w : World) (b o : Nat) (c : Array Value) (el : TypeId) (fz : Nat × Nat) (h : w.heap[b]? = some (.cells c el fz)) : w.cell? ⟨b, o, none⟩ = c[o]? := by
  simp [World.cell?, h]
theorem cell_block {w : World} {b o : Nat} {V : Value} (h : w.cell? ⟨b, o, none⟩ = some V) : ∃ c el fz, w.heap[b]? = some (.cells c el fz) ∧ c[o]? = some V := by
  unfold World.cell? at h
  split at h
  · rename_i c el fz hc; exact ⟨c, el, fz, hc, by simpa using h⟩
  · cases h

/-- The same memory, whatever was drawn. -/
theorem Sim.same {w' : World} (s : Sim w0 F0 F μ H w) (hh : w'.heap = w.heap) (ho : w'.os = w.os) (ht : w'.tape = w.tape) (hu : w'.output = w.output) :
    Ext F w μ F w' μ ∧ Sim w0 F0 F μ H w' := by
  have x : Ext F w μ F w' μ := ⟨fun _ _ h => h, fun _ _ h => h, fun b o V _ h => by simpa [World.cell?, hh] using h, fun b es c _ h => by rw [hh]; exact h⟩
  refine ⟨x, ⟨⟨by rw [ho]; exact s.below.os, by rw [ht]; exact s.below.tape, by rw [hu]; exact s.below.output, by rw [hh]; exact s.below.size, fun k hk => by rw [hh]; exact s.below.block k hk⟩,
    s.new, s.old, fun b o h => by rw [hh]; exact s.lt b o h, ?_, s.apart, s.dom⟩⟩
  intro id blk h
  cases s.obs id blk h with
  | cells cs opn L c el lo hi hμ hB hw hcap hlen hfix hun hcs hF =>
    exact .cells cs opn L c el lo hi hμ hB (by rw [hh]; exact hw) hcap hlen hfix hun (fun i v hi => let ⟨V, h1, h2⟩ := hcs i v hi; ⟨V, h1, VR.mono x h2⟩) hF
  | map ks vs L es clock hμ hB hw hes hb hF => exact .map ks vs L es clock hμ hB (by rw [hh]; exact hw) (VRk.mono x hes) hb hF
  | loop T K L rec hμ hB hw h1 h2 h3 h4 h5 h6 hT hF => exact .loop T K L rec hμ hB (by rw [hh]; exact hw) h1 h2 h3 h4 h5 h6 (fun t => VR.mono x (hT t)) hF
  | dfr L hμ hB hw hF => exact .dfr L hμ hB (by rw [hh]; exact hw) hF
  | iter ks vs seen L m es clock ss hμ hB h0 hw hm hmw hb hk hss hF => exact .iter ks vs seen L m es clock ss hμ hB h0 (by rw [hh]; exact hw) hm (by rw [hh]; exact hmw) hb (VRk.mono x hk) hss hF
  | dead => exact .dead

theorem OBR.mono {B0 : Nat} {F F' : Nat → Nat → Prop} {w w' : World} {μ μ' : Nat → Option Loc} {id : Nat} {blk : OB} (x : Ext F w μ F' w' μ')
    (hh : ∀ L, μ id = some L → w'.heap[L.block]? = w.heap[L.block]?) (hF : ∀ L o, μ id = some L → F' L.block o → F L.block o) (h : OBR B0 F w μ id blk) : OBR B0 F' w' μ' id blk := by
  cases h with
  | cells cs opn L c el lo hi hμ hB hw hcap hlen hfix hun hcs hF0 =>
    exact .cells cs opn L c el lo hi (x.mu _ _ hμ) hB (by rw [hh L hμ]; exact hw) hcap hlen hfix hun (fun i v hi => let ⟨V, h1, h2⟩ := hcs i v hi; ⟨V, h1, VR.mono x h2⟩) (fun o h => hF0 o (hF L o hμ h))
  | map ks vs L es clock hμ hB hw hes hb hF0 => exact .map ks vs L es clock (x.mu _ _ hμ) hB (by rw [hh L hμ]; exact hw) (VRk.mono x hes) hb (fun o h => hF0 o (hF L o hμ h))
  | loop T K L rec hμ hB hw h1 h2 h3 h4 h5 h6 hT hF0 => exact .loop T K L rec (x.mu _ _ hμ) hB (by rw [hh L hμ]; exact hw) h1 h2 h3 h4 h5 h6 (fun t => VR.mono x (hT t)) (fun o h => hF0 o (hF L o hμ h))
  | dfr L hμ hB hw hF0 => exact .dfr L (x.mu _ _ hμ) hB (by rw [hh L hμ]; exact hw) (fun o h => hF0 o (hF L o hμ h))
  | iter ks vs seen L m es clock ss hμ hB h0 hw hm hmw hb hk hss hF0 => exact .iter ks vs seen L m es clock ss (x.mu _ _ hμ) hB h0 (by rw [hh L hμ]; exact hw) (x.fr _ _ hm) (x.obj _ _ _ hm hmw) hb (VRk.mono x hk) hss (fun o h => hF0 o (hF L o hμ h))
  | dead => exact .dead

theorem OBR.loc {B0 : Nat} {id : Nat} {blk : OB} (h : OBR B0 F w μ id blk) (hl : blk.live = true) : ∃ L, μ id = some L ∧ B0 ≤ L.block ∧ L.block < w.heap.size ∧ (∀ o, ¬ F L.block o) := by
  cases h with
  | cells cs opn L c el lo hi hμ hB hw hcap hlen hfix hun hcs hF => exact ⟨L, hμ, hB, (Array.getElem?_eq_some_iff.1 hw).1, hF⟩
  | map ks vs L es clock hμ hB hw hes hb hF => exact ⟨L, hμ, hB, (Array.getElem?_eq_some_iff.1 hw).1, hF⟩
  | loop T K L rec hμ hB hw h1 h2 h3 h4 h5 h6 hT hF => exact ⟨L, hμ, hB, (Array.getElem?_eq_some_iff.1 hw).1, hF⟩
  | dfr L hμ hB hw hF => exact ⟨L, hμ, hB, (Array.getElem?_eq_some_iff.1 hw).1, hF⟩
  | iter ks vs seen L m es clock ss hμ hB h0 hw hm hmw hb hk hss hF => exact ⟨L, hμ, hB, (Array.getElem?_eq_some_iff.1 hw).1, hF⟩
  | dead => cases hl

theorem OBR.dead_of {B0 : Nat} {F : Nat → Nat → Prop} {w : World} {μ : Nat → Option Loc} {id : Nat} {blk : OB} (h : blk.live = false) : OBR B0 F w μ id blk := by
  cases blk with
  | dead => exact .dead
  | cells _ _ => cases h
  | map _ _ => cases h
  | loop _ _ => cases h
  | dfr => cases h
  | iter _ _ _ => cases h

theorem push_get (w : World) (o : Obj) (k : Nat) : ({ w with heap := w.heap.push o } : World).heap[k]? = if k = w.heap.size then some o else w.heap[k]? := by
  show (w.heap.push o)[k]? = _
  rw [Array.getElem?_push]

/-- A new block: what was there stays. -/
theorem Ext.push (s : Sim w0 F0 F μ H w) (o : Obj) {F' : Nat → Nat → Prop} {μ' : Nat → Option Loc} (hF : ∀ b o, F b o → F' b o) (hμ : ∀ id L, μ id = some L → μ' id = some L) :
    Ext F w μ F' { w with heap := w.heap.push o } μ' := by
  refine ⟨hμ, hF, ?_, ?_⟩
  · intro b i V hf h
    obtain ⟨c, el, fz, hc, hi⟩ := cell_block h
    have hb := s.lt b i hf
    have e : ({ w with heap := w.heap.push o } : World).heap[b]? = some (.cells c el fz) := by rw [push_get, if_neg (show b ≠ w.heap.size by omega)]; exact hc
    rw [cell_eq _ b i c el fz e]; exact hi
  · intro b es c hf h
    have hb := s.lt b 0 hf
    rw [push_get, if_neg (by omega)]; exact h

/-- A new block that is still written. -/
theorem Sim.alloc (s : Sim w0 F0 F μ H w) (o : Obj) (blk : OB) (L : Loc) (hL : L.block = w.heap.size)
    (hb : ∀ μ', Ext F w μ F { w with heap := w.heap.push o } μ' → μ' H.length = some L → (∀ o, ¬ F L.block o) → OBR w0.heap.size F { w with heap := w.heap.push o } μ' H.length blk) :
    ∃ μ', Ext F w μ F { w with heap := w.heap.push o } μ' ∧ μ' H.length = some L ∧ Sim w0 F0 F μ' (H ++ [blk]) { w with heap := w.heap.push o } := by
  let μ' : Nat → Option Loc := fun i => if i = H.length then some L else μ i
  have hμ : ∀ id L, μ id = some L → μ' id = some L := by
    intro id L' h
    have := s.dom id L' h
    show (if id = H.length then some L else μ id) = _
    rw [if_neg (by omega)]; exact h
  have hx : Ext F w μ F { w with heap := w.heap.push o } μ' := Ext.push s o (fun _ _ h => h) hμ
  have hne : ∀ o, ¬ F L.block o := fun i h => by have := s.lt _ _ h; omega
  have hnew : μ' H.length = some L := by show (if _ then _ else _) = _; rw [if_pos rfl]
  refine ⟨μ', hx, hnew, ⟨⟨s.below.os, s.below.tape, s.below.output, ?_, ?_⟩, s.new, s.old, ?_, ?_, ?_, ?_⟩⟩
  · show _ ≤ (w.heap.push o).size
    rw [Array.size_push]; have := s.below.size; omega
  · intro k hk
    have := s.below.size
    rw [push_get, if_neg (by omega)]; exact s.below.block k hk
  · intro b i h
    show _ < (w.heap.push o).size
    rw [Array.size_push]; have := s.lt b i h; omega
  · intro id b h
    rw [List.getElem?_append] at h
    split at h
    · rename_i hlt
      by_cases hl : b.live = true
      · obtain ⟨L', h1, h2, h3, h4⟩ := (s.obs id b h).loc hl
        refine (s.obs id b h).mono hx ?_ (fun _ _ _ h => h)
        intro L'' e
        rw [h1] at e; cases e
        rw [push_get, if_neg (by omega)]
      · exact OBR.dead_of (by simpa using hl)
    · have : id = H.length := by
        rcases Nat.lt_or_ge (id - H.length) 1 with h' | h'
        · omega
        · rw [List.getElem?_eq_none (by simp; omega)] at h; cases h
      subst this
      simp at h; subst h
      exact hb μ' hx hnew hne
  · intro i j bi bj Li Lj hi hj li lj mi mj hij
    rw [List.getElem?_append] at hi hj
    have hfresh : ∀ k bk Lk, H[k]? = some bk → bk.live = true → μ' k = some Lk → Lk.block < w.heap.size := by
      intro k bk Lk hk lk mk
      obtain ⟨L', h1, _, h3, _⟩ := (s.obs k bk hk).loc lk
      have := hμ _ _ h1
      rw [this] at mk; cases mk; exact h3
    split at hi
    · split at hj
      · rename_i ci cj
        have e1 : μ' i = μ i := if_neg (by omega)
        have e2 : μ' j = μ j := if_neg (by omega)
        rw [e1] at mi; rw [e2] at mj
        exact s.apart i j bi bj Li Lj hi hj li lj mi mj hij
      · have : j = H.length := by
          rcases Nat.lt_or_ge (j - H.length) 1 with h' | h'
          · omega
          · rw [List.getElem?_eq_none (by simp; omega)] at hj; cases hj
        subst this
        have := hfresh i bi Li hi li mi
        rw [hnew] at mj; cases mj; omega
    · have hi' : i = H.length := by
        rcases Nat.lt_or_ge (i - H.length) 1 with h' | h'
        · omega
        · rw [List.getElem?_eq_none (by simp; omega)] at hi; cases hi
      subst hi'
      split at hj
      · have := hfresh j bj Lj hj lj mj
        rw [hnew] at mi; cases mi; omega
      · have : j = H.length := by
          rcases Nat.lt_or_ge (j - H.length) 1 with h' | h'
          · omega
          · rw [List.getElem?_eq_none (by simp; omega)] at hj; cases hj
        omega
  · intro id L' h
    by_cases e : id = H.length
    · simp; omega
    · have : μ' id = μ id := if_neg e
      rw [this] at h
      have := s.dom id L' h
      simp; omega

/-- A new block that stays as it is. -/
theorem Sim.allocF (s : Sim w0 F0 F μ H w) (o : Obj) :
    Ext F w μ (fun b i => F b i ∨ b = w.heap.size) { w with heap := w.heap.push o } μ ∧ Sim w0 F0 (fun b i => F b i ∨ b = w.heap.size) μ H { w with heap := w.heap.push o } := by
  have hx : Ext F w μ (fun b i => F b i ∨ b = w.heap.size) { w with heap := w.heap.push o } μ := Ext.push s o (fun _ _ h => .inl h) (fun _ _ h => h)
  refine ⟨hx, ⟨⟨s.below.os, s.below.tape, s.below.output, ?_, ?_⟩, fun b o h => .inl (s.new b o h), ?_, ?_, ?_, s.apart, s.dom⟩⟩
  · show _ ≤ (w.heap.push o).size
    rw [Array.size_push]; have := s.below.size; omega
  · intro k hk
    have := s.below.size
    rw [push_get, if_neg (by omega)]; exact s.below.block k hk
  · intro b i hb h
    rcases h with h | h
    · exact s.old b i hb h
    · have := s.below.size; omega
  · intro b i h
    show _ < (w.heap.push o).size
    rw [Array.size_push]
    rcases h with h | h
    · have := s.lt b i h; omega
    · omega
  · intro id b h
    by_cases hl : b.live = true
    · obtain ⟨L', h1, h2, h3, h4⟩ := (s.obs id b h).loc hl
      refine (s.obs id b h).mono hx ?_ ?_
      · intro L'' e
        rw [h1] at e; cases e
        rw [push_get, if_neg (by omega)]
      · intro L'' i e hf
        rw [h1] at e; cases e
        rcases hf with hf | hf
        · exact hf
        · omega
    · exact OBR.dead_of (by simpa using hl)

/-- A write into a block that is still written. -/
theorem Sim.write (s : Sim w0 F0 F μ H w) (id : Nat) (blk blk' : OB) (L : Loc) (hid : H[id]? = some blk) (hl : blk.live = true) (hμ : μ id = some L) (o : Obj)
    (hb : Ext F w μ F { w with heap := w.heap.setIfInBounds L.block o } μ → OBR w0.heap.size F { w with heap := w.heap.setIfInBounds L.block o } μ id blk') :
    Ext F w μ F { w with heap := w.heap.setIfInBounds L.block o } μ ∧ Sim w0 F0 F μ (H.set id blk') { w with heap := w.heap.setIfInBounds L.block o } := by
  obtain ⟨L1, h1, h2, h3, h4⟩ := (s.obs id blk hid).loc hl
  rw [hμ] at h1; cases h1
  have hget : ∀ k, k ≠ L.block → ({ w with heap := w.heap.setIfInBounds L.block o } : World).heap[k]? = w.heap[k]? := by
    intro k hk
    show (w.heap.setIfInBounds L.block o)[k]? = _
    rw [Array.getElem?_setIfInBounds, if_neg (by omega)]
  have hx : Ext F w μ F { w with heap := w.heap.setIfInBounds L.block o } μ := by
    refine ⟨fun _ _ h => h, fun _ _ h => h, ?_, ?_⟩
    · intro b i V hf h
      have : b ≠ L.block := fun e => h4 i (e ▸ hf)
      simp only [World.cell?, hget b this] at h ⊢; exact h
    · intro b es c hf h
      have : b ≠ L.block := fun e => h4 0 (e ▸ hf)
      rw [hget b this]; exact h
  refine ⟨hx, ⟨⟨s.below.os, s.below.tape, s.below.output, ?_, ?_⟩, s.new, s.old, ?_, ?_, ?_, ?_⟩⟩
  · show _ ≤ (w.heap.setIfInBounds L.block o).size
    rw [Array.size_setIfInBounds]; exact s.below.size
  · intro k hk
    rw [hget k (by omega)]; exact s.below.block k hk
  · intro b i h
    show _ < (w.heap.setIfInBounds L.block o).size
    rw [Array.size_setIfInBounds]; exact s.lt b i h
  · intro j b h
    rw [List.getElem?_set] at h
    split at h
    · rename_i e
      split at h
      · cases h; subst e; exact hb hx
      · cases h
    · rename_i e
      by_cases hlb : b.live = true
      · refine (s.obs j b h).mono hx ?_ (fun _ _ _ h => h)
        intro L' hL'
        exact hget _ (s.apart j id b blk L' L h hid hlb hl hL' hμ (by omega))
      · exact OBR.dead_of (by simpa using hlb)
  · intro i j bi bj Li Lj hi hj li lj mi mj hij
    have key : ∀ (k : Nat) (bk : OB), (H.set id blk')[k]? = some bk → bk.live = true → ∃ bk', H[k]? = some bk' ∧ bk'.live = true := by
      intro k bk hk lk
      rw [List.getElem?_set] at hk
      split at hk
      · rename_i e; subst e; exact ⟨blk, hid, hl⟩
      · exact ⟨bk, hk, lk⟩
    obtain ⟨ci, h5, h6⟩ := key i bi hi li
    obtain ⟨cj, h7, h8⟩ := key j bj hj lj
    exact s.apart i j ci cj Li Lj h5 h7 h6 h8 mi mj hij
  · intro j L' h
    rw [List.length_set]; exact s.dom j L' h

/-- A block that nobody writes any more. -/
theorem Sim.kill (s : Sim w0 F0 F μ H w) (id : Nat) : Sim w0 F0 F μ (H.set id .dead) w := by
  refine ⟨s.below, s.new, s.old, s.lt, ?_, ?_, fun j L' h => by rw [List.length_set]; exact s.dom j L' h⟩
  · intro j b h
    rw [List.getElem?_set] at h
    split at h
    · split at h
      · cases h; exact .dead
      · cases h
    · exact s.obs j b h
  · intro i j bi bj Li Lj hi hj li lj mi mj hij
    have key : ∀ (k : Nat) (bk : OB), (H.set id .dead)[k]? = some bk → bk.live = true → H[k]? = some bk := by
      intro k bk hk lk
      rw [List.getElem?_set] at hk
      split at hk
      · split at hk
        · cases hk; cases lk
        · cases hk
      · exact hk
    exact s.apart i j bi bj Li Lj (key i bi hi li) (key j bj hj lj) li lj mi mj hij
end
end Go.Av
namespace Go.Av
set_option linter.unusedVariables false
set_option linter.unusedSimpArgs false
open Go.RowKit (Below)

def tsz (P : Program) (t : TypeId) : Option Nat := (P.info? t).map (·.size)
def isAggD : TypeDesc → Bool
  | .struct _ | .array _ _ => true
  | _ => false
def tag (P : Program) (t : TypeId) : Option Bool := (P.underlying t).map isAggD

section
variable {P : Program} {w0 : World} {F0 F : Nat → Nat → Prop} {μ : Nat → Option Loc} {H : List OB} {w : World}

theorem run_typeInfo {t : TypeId} {i : TypeInfo} (h : P.info? t = some i) (w : World) : (typeInfo t).run P w = .ok i w := by simp [typeInfo, h]
theorem run_sizeOf' {t n : Nat} (h : tsz P t = some n) (w : World) : (sizeOf t).run P w = .ok n w := by
  unfold tsz at h
  cases hi : P.info? t with
  | none => rw [hi] at h; cases h
  | some i => rw [hi] at h; cases h; simp [sizeOf, run_typeInfo hi]
theorem run_isAgg' {t : TypeId} {b : Bool} (h : tag P t = some b) (w : World) : (isAgg t).run P w = .ok b w := by
  unfold tag at h
  cases hi : P.underlying t with
  | none => rw [hi] at h; cases h
  | some d =>
    rw [hi] at h; simp only [Option.map_some, Option.some.injEq] at h
    simp only [isAgg, Sem.run_bind, run_underlying hi, Result.andThen]
    subst h
    cases d <;> rfl

/-- What a store takes. -/
def AV.isC : AV → Bool
  | .junk | .agg _ | .tup _ => false
  | _ => true

def oneC : Value → Bool
  | .agg _ | .tuple _ => false
  | _ => true

theorem VR.oneC {v : AV} {V : Value} (h : VR F w μ v V) (hc : v.isC = true) : oneC V = true := by
  cases h <;> first | rfl | cases hc

theorem VRs.len {vs : List AV} {Vs : List Value} (h : VRs F w μ vs Vs) : Vs.length = vs.length := by
  induction vs generalizing Vs with
  | nil => cases h; rfl
  | cons v vs ih => cases h with | cons _ V _ Vs h t => simp [ih t]

theorem VRs.get {vs : List AV} {Vs : List Value} (h : VRs F w μ vs Vs) {i : Nat} {v : AV} (hi : vs[i]? = some v) : ∃ V, Vs[i]? = some V ∧ VR F w μ v V := by
  induction vs generalizing Vs i with
  | nil => simp at hi
  | cons v0 vs ih =>
    cases h with
    | cons _ V _ Vs h t =>
      cases i with
      | zero => simp at hi; subst hi; exact ⟨V, rfl, h⟩
      | succ i => simpa using ih t (by simpa using hi)

theorem VRs.all_oneC {vs : List AV} {Vs : List Value} (h : VRs F w μ vs Vs) (hc : vs.all AV.isC = true) : ∀ V ∈ Vs, Av.oneC V = true := by
  induction vs generalizing Vs with
  | nil => cases h; simp
  | cons v vs ih =>
    cases h with
    | cons _ V _ Vs h t =>
      simp only [List.all_cons, Bool.and_eq_true] at hc
      intro V' hV'
      rcases List.mem_cons.1 hV' with rfl | hm
      · exact VR.oneC h hc.1
      · exact ih t hc.2 V' hm

theorem VRs.append {xs ys : List AV} {Xs Ys : List Value} (h : VRs F w μ xs Xs) (k : VRs F w μ ys Ys) : VRs F w μ (xs ++ ys) (Xs ++ Ys) := by
  induction xs generalizing Xs with
  | nil => cases h; exact k
  | cons v vs ih => cases h with | cons _ V _ Vs h t => exact .cons v V _ _ h (ih t)

/-- A value's cells. -/
theorem VR.cells {v : AV} {V : Value} (h : VR F w μ v V) (hj : v ≠ .junk) : VRs F w μ v.cells V.cells.toList := by
  cases h with
  | agg l A h => exact h
  | junk V => exact absurd rfl hj
  | bool b => exact .cons _ _ _ _ (.bool b) .nil
  | int k n => exact .cons _ _ _ _ (.int k n) .nil
  | str s hb => exact .cons _ _ _ _ (.str s hb) .nil
  | nilptr => exact .cons _ _ _ _ .nilptr .nil
  | ptr id off L h => exact .cons _ _ _ _ (.ptr id off L h) .nil
  | vptr cs b o h => exact .cons _ _ _ _ (.vptr cs b o h) .nil
  | sl id off len wd cap L h hc hl hb => exact .cons _ _ _ _ (.sl id off len wd cap L h hc hl hb) .nil
  | vsl wd x es A cap hx hl hb h => exact .cons _ _ _ _ (.vsl wd x es A cap hx hl hb h) .nil
  | nilmap => exact .cons _ _ _ _ .nilmap .nil
  | map id L h => exact .cons _ _ _ _ (.map id L h) .nil
  | vmap ks vs r es clock hF hr hb h => exact .cons _ _ _ _ (.vmap ks vs r es clock hF hr hb h) .nil
  | func fn fs cs Fs Cs hf hc => exact .cons _ _ _ _ (.func fn fs cs Fs Cs hf hc) .nil
  | nilfunc => exact .cons _ _ _ _ .nilfunc .nil
  | iface t v V h => exact .cons _ _ _ _ (.iface t v V h) .nil
  | nilif => exact .cons _ _ _ _ .nilif .nil
  | tup l A h => exact .cons _ _ _ _ (.tup l A h) .nil
  | yld id L h => exact .cons _ _ _ _ (.yld id L h) .nil

theorem VRm.get {cs : List AV} {b o : Nat} (h : VRm F w μ cs b o) {i : Nat} {v : AV} (hi : cs[i]? = some v) :
    F b (o + i) ∧ ∃ V, w.cell? ⟨b, o + i, none⟩ = some V ∧ VR F w μ v V := by
  induction cs generalizing o i with
  | nil => simp at hi
  | cons v0 vs ih =>
    cases h with
    | cons _ V _ _ _ hF hc h t =>
      cases i with
      | zero => simp at hi; subst hi; exact ⟨hF, V, hc, h⟩
      | succ i =>
        have := ih t (by simpa using hi)
        rw [show o + (i + 1) = o + 1 + i from by omega]; exact this

theorem VRm.of {cs : List AV} {b o : Nat} (h : ∀ i v, cs[i]? = some v → F b (o + i) ∧ ∃ V, w.cell? ⟨b, o + i, none⟩ = some V ∧ VR F w μ v V) : VRm F w μ cs b o := by
  induction cs generalizing o with
  | nil => exact .nil _ _
  | cons v vs ih =>
    obtain ⟨hF, V, hc, hv⟩ := h 0 v rfl
    exact .cons v V vs b o hF hc hv (ih fun i v' hi => by
      have := h (i + 1) v' (by simpa using hi)
      rwa [show o + (i + 1) = o + 1 + i from by omega] at this)

theorem VRm.drop {cs : List AV} {b o : Nat} (h : VRm F w μ cs b o) (k : Nat) : VRm F w μ (cs.drop k) b (o + k) :=
  .of fun i v hi => by
    rw [List.getElem?_drop] at hi
    have := h.get hi
    rwa [show o + (k + i) = o + k + i from by omega] at this

theorem VRe.get {es : List AV} {size b o : Nat} (h : VRe F w μ es size b o) {i : Nat} {v : AV} (hi : es[i]? = some v) :
    v.cells.length = size ∧ VRm F w μ v.cells b (o + i * size) := by
  induction es generalizing o i with
  | nil => simp at hi
  | cons v0 vs ih =>
    cases h with
    | cons _ _ _ _ _ hs h t =>
      cases i with
      | zero => simp at hi; subst hi; exact ⟨hs, by simpa using h⟩
      | succ i =>
        have := ih t (by simpa using hi)
        rw [show o + (i + 1) * size = o + size + i * size from by rw [Nat.add_mul]; omega]; exact this

theorem VRe.of {es : List AV} {size b o : Nat} (h : ∀ i v, es[i]? = some v → v.cells.length = size ∧ VRm F w μ v.cells b (o + i * size)) : VRe F w μ es size b o := by
  induction es generalizing o with
  | nil => exact .nil _ _ _
  | cons v vs ih =>
    obtain ⟨hs, hm⟩ := h 0 v rfl
    refine .cons v vs size b o hs (by simpa using hm) (ih fun i v' hi => ?_)
    have := h (i + 1) v' (by simpa using hi)
    rwa [show o + (i + 1) * size = o + size + i * size from by rw [Nat.add_mul]; omega] at this

/-- Cells as values. -/
theorem cells_read {cs : List AV} {g : Nat → Option Value} (h : ∀ i v, cs[i]? = some v → ∃ V, g i = some V ∧ VR F w μ v V) :
    ∃ Vs : List Value, VRs F w μ cs Vs ∧ ∀ j V, Vs[j]? = some V → g j = some V := by
  induction cs generalizing g with
  | nil => exact ⟨[], .nil, by simp⟩
  | cons v vs ih =>
    obtain ⟨V, hg, hv⟩ := h 0 v rfl
    obtain ⟨Vs, h1, h2⟩ := ih (g := fun i => g (i + 1)) fun i v' hi => h (i + 1) v' (by simpa using hi)
    refine ⟨V :: Vs, .cons v V vs Vs hv h1, ?_⟩
    intro j V' hj
    cases j with
    | zero => simp at hj; subst hj; exact hg
    | succ j => exact h2 j V' (by simpa using hj)

theorem add_plain (b o j : Nat) : (⟨b, o, none⟩ : Addr).add j = ⟨b, o + j, none⟩ := by unfold Addr.add; split <;> simp_all

/-- What a load tells. -/
def ldA (sz : Nat) (ag : Bool) (cs : List AV) (off : Nat) : Option AV :=
  if ag then (if off + sz ≤ cs.length then some (.agg ((cs.drop off).take sz)) else none) else cs[off]?

theorem run_loadVar {t sz : Nat} {ag : Bool} (hs : tsz P t = some sz) (ha : tag P t = some ag) {cs : List AV} {off b o : Nat} {v : AV} (hv : ldA sz ag cs off = some v)
    (h : ∀ i v, cs[i]? = some v → ∃ V, w.cell? ⟨b, o + i, none⟩ = some V ∧ VR F w μ v V) :
    ∃ V, (loadVar t ⟨b, o + off, none⟩).run P w = .ok V w ∧ VR F w μ v V := by
  unfold ldA at hv
  cases ag with
  | false =>
    simp only [Bool.false_eq_true, if_false] at hv
    obtain ⟨V, h1, h2⟩ := h off v hv
    exact ⟨V, by simp [loadVar, run_isAgg' ha, h1], h2⟩
  | true =>
    simp only [if_true] at hv
    split at hv
    · rename_i hle
      cases hv
      obtain ⟨Vs, h1, h2⟩ := cells_read (F := F) (w := w) (μ := μ) (cs := (cs.drop off).take sz) (g := fun i => w.cell? ⟨b, o + off + i, none⟩) (fun i v hi => by
        rw [List.getElem?_take] at hi
        split at hi
        · rw [List.getElem?_drop] at hi
          obtain ⟨V, h3, h4⟩ := h _ _ hi
          exact ⟨V, by rw [show o + off + i = o + (off + i) from by omega]; exact h3, h4⟩
        · cases hi)
      have hlen : Vs.length = sz := by rw [VRs.len h1]; simp; omega
      have hl := run_loadCells_list (P := P) w ⟨b, o + off, none⟩ Vs (fun j V hj => by rw [add_plain]; exact h2 j V hj)
      rw [hlen] at hl
      exact ⟨.agg Vs.toArray, by simp [loadVar, run_isAgg' ha, run_sizeOf' hs, hl], .agg _ _ (by simpa using h1)⟩
    · cases hv

/-- Cells with others from a place on. -/
def updA : Array Value → Nat → List Value → Array Value
  | c, _, [] => c
  | c, k, V :: Vs => updA (c.setIfInBounds k V) (k + 1) Vs

theorem updA_size (c : Array Value) (k : Nat) (Vs : List Value) : (updA c k Vs).size = c.size := by
  induction Vs generalizing c k with
  | nil => rfl
  | cons V Vs ih => simp [updA, ih]

theorem updA_get (Vs : List Value) : ∀ (c : Array Value) (k : Nat), k + Vs.length ≤ c.size → ∀ j, (updA c k Vs)[j]? = if k ≤ j ∧ j < k + Vs.length then Vs[j - k]? else c[j]? := by
  induction Vs with
  | nil => intro c k h j; simp [updA]; intro h1 h2; omega
  | cons V Vs ih =>
    intro c k h j
    simp only [List.length_cons] at h
    rw [updA, ih _ _ (by rw [Array.size_setIfInBounds]; omega) j, Array.getElem?_setIfInBounds]
    by_cases e : j = k
    · subst e
      rw [if_neg (by omega), if_pos rfl, if_pos (by omega), if_pos (by simp), Nat.sub_self]; rfl
    · by_cases e2 : k + 1 ≤ j ∧ j < k + 1 + Vs.length
      · rw [if_pos e2, if_pos (by simp; omega), show j - k = (j - (k + 1)) + 1 from by omega]; rfl
      · rw [if_neg e2, if_neg (by omega), if_neg (by simp; omega)]

theorem setCell_heap (w : World) (b o : Nat) (V : Value) (c : Array Value) (el : TypeId) (fz : Nat × Nat) (h : w.heap[b]? = some (.cells c el fz)) :
    w.setCell ⟨b, o, none⟩ V = { w with heap := w.heap.setIfInBounds b (.cells (c.setIfInBounds o V) el fz) } := by
  have hb : b < w.heap.size := (Array.getElem?_eq_some_iff.1 h).1
  have hx : w.heap[b] = .cells c el fz := (Array.getElem?_eq_some_iff.1 h).2
  unfold World.setCell
  congr 1
  apply Array.ext_getElem?
  intro j
  rw [Array.getElem?_modify, Array.getElem?_setIfInBounds]
  split
  · rename_i e
    subst e
    simp [hb, hx]
  · rfl

theorem run_store1 (w : World) (b o : Nat) (V : Value) (c : Array Value) (el : TypeId) (fz : Nat × Nat) (h : w.heap[b]? = some (.cells c el fz)) (hV : oneC V = true) (ho : o < c.size)
    (hf : ¬ (fz.1 ≤ o ∧ o < fz.2)) : (store ⟨b, o, none⟩ V).run P w = .ok () { w with heap := w.heap.setIfInBounds b (.cells (c.setIfInBounds o V) el fz) } := by
  have hc : w.cell? ⟨b, o, none⟩ = some c[o] := by rw [cell_eq w b o c el fz h]; simp [ho]
  have hfr : w.frozen? ⟨b, o, none⟩ = false := by
    obtain ⟨lo, hi⟩ := fz
    simp only [World.frozen?, h]
    simp only [Bool.and_eq_false_iff, decide_eq_false_iff_not]
    rcases Nat.lt_or_ge o lo with h1 | h1
    · exact .inl (by omega)
    · exact .inr (fun h2 => hf ⟨h1, h2⟩)
  rw [← setCell_heap w b o V c el fz h]
  unfold store
  cases V <;> first | (cases hV; done) | (simp only [Sem.run, hc, hfr, Bool.false_eq_true, if_false])

theorem run_storeCells (b o : Nat) (el : TypeId) (fz : Nat × Nat) : ∀ (Vs : List Value) (i : Nat) (w : World) (c : Array Value), w.heap[b]? = some (.cells c el fz) → (∀ V ∈ Vs, oneC V = true) →
    o + i + Vs.length ≤ c.size → (∀ k, o + i ≤ k → k < o + i + Vs.length → ¬ (fz.1 ≤ k ∧ k < fz.2)) →
    (storeCells ⟨b, o, none⟩ Vs i).run P w = .ok () { w with heap := w.heap.setIfInBounds b (.cells (updA c (o + i) Vs) el fz) }
  | [], i, w, c, h, h1, h2, h3 => by
    simp only [storeCells, Sem.run_pure, updA]
    congr 1
    have hb : b < w.heap.size := (Array.getElem?_eq_some_iff.1 h).1
    have hx : w.heap[b] = .cells c el fz := (Array.getElem?_eq_some_iff.1 h).2
    have : w.heap.setIfInBounds b (.cells c el fz) = w.heap := by
      apply Array.ext_getElem?
      intro j
      rw [Array.getElem?_setIfInBounds]
      split
      · rename_i e; subst e; simp [hb, hx]
      · rfl
    rw [this]
  | V :: Vs, i, w, c, h, h1, h2, h3 => by
    simp only [List.length_cons] at h2 h3
    have hb : b < w.heap.size := (Array.getElem?_eq_some_iff.1 h).1
    have e1 := run_store1 (P := P) w b (o + i) V c el fz h (h1 V (by simp)) (by omega) (h3 (o + i) (by omega) (by omega))
    have ih := run_storeCells b o el fz Vs (i + 1) { w with heap := w.heap.setIfInBounds b (.cells (c.setIfInBounds (o + i) V) el fz) } (c.setIfInBounds (o + i) V)
      (by show (w.heap.setIfInBounds b _)[b]? = _; rw [Array.getElem?_setIfInBounds, if_pos rfl, if_pos hb])
      (fun V' hV' => h1 V' (by simp [hV'])) (by rw [Array.size_setIfInBounds]; omega) (fun k hk hk' => h3 k (by omega) (by omega))
    simp only [storeCells, Sem.run_bind, add_plain, e1, Result.andThen, ih, updA]
    congr 1
    rw [show o + i + 1 = o + (i + 1) from by omega]
    congr 1
    apply Array.ext_getElem?
    intro j
    simp only [Array.getElem?_setIfInBounds, Array.size_setIfInBounds]
    split <;> simp_all

/-- The abstract twin of 'updA'. -/
def setC : List AV → Nat → List AV → List AV
  | cs, _, [] => cs
  | cs, k, v :: vs => setC (cs.set k v) (k + 1) vs

theorem setC_length (vs : List AV) : ∀ (cs : List AV) (k : Nat), (setC cs k vs).length = cs.length := by
  induction vs with
  | nil => intro cs k; rfl
  | cons v vs ih => intro cs k; simp [setC, ih]

theorem setC_get (vs : List AV) : ∀ (cs : List AV) (k : Nat), k + vs.length ≤ cs.length → ∀ j, (setC cs k vs)[j]? = if k ≤ j ∧ j < k + vs.length then vs[j - k]? else cs[j]? := by
  induction vs with
  | nil => intro c k h j; simp [setC]; intro h1 h2; omega
  | cons V Vs ih =>
    intro c k h j
    simp only [List.length_cons] at h
    rw [setC, ih _ _ (by rw [List.length_set]; omega) j, List.getElem?_set]
    by_cases e : j = k
    · subst e
      rw [if_neg (by omega), if_pos rfl, if_pos (by omega), if_pos (by simp), Nat.sub_self]; rfl
    · by_cases e2 : k + 1 ≤ j ∧ j < k + 1 + Vs.length
      · rw [if_pos e2, if_pos (by simp; omega), show j - k = (j - (k + 1)) + 1 from by omega]; rfl
      · rw [if_neg e2, if_neg (by omega), if_neg (by simp; omega)]

/-- Values into cells that are still written. -/
theorem Sim.store (s : Sim w0 F0 F μ H w) {id off : Nat} {cs vs : List AV} {opn : Bool} {Vs : List Value} (hid : H[id]? = some (.cells cs opn)) (hvs : VRs F w μ vs Vs) (hc : vs.all AV.isC = true)
    (hle : off + vs.length ≤ cs.length) {L : Loc} (hμ : μ id = some L) :
    ∃ w', (storeCells ⟨L.block, L.off + off, none⟩ Vs).run P w = .ok () w' ∧ Ext F w μ F w' μ ∧ Sim w0 F0 F μ (H.set id (.cells (setC cs off vs) opn)) w' := by
  have hob := s.obs id _ hid
  cases hob with
  | cells _ _ L' c el lo hi hμ' hB hw hcap hlen hfix hun hcs hF =>
    rw [hμ] at hμ'; cases hμ'
    have hl := VRs.len hvs
    have hsz : L.off + off + Vs.length ≤ c.size := by omega
    have hr := run_storeCells (P := P) L.block (L.off + off) el (lo, hi) Vs 0 w c hw (VRs.all_oneC hvs hc) (by omega) (fun k h1 h2 => hun k (by omega) (by omega))
    simp only [Nat.add_zero] at hr
    have hw' := s.write id _ (.cells (setC cs off vs) opn) L hid rfl hμ (.cells (updA c (L.off + off) Vs) el (lo, hi)) (fun x => by
      have hb : L.block < w.heap.size := (Array.getElem?_eq_some_iff.1 hw).1
      refine .cells _ _ L (updA c (L.off + off) Vs) el lo hi hμ hB (by show (w.heap.setIfInBounds L.block _)[L.block]? = _; rw [Array.getElem?_setIfInBounds, if_pos rfl, if_pos hb]) (by rw [updA_size]; exact hcap)
        (by rw [setC_length]; exact hlen) (by rw [setC_length]; exact hfix) hun ?_ hF
      intro i v hi
      rw [setC_get _ _ _ hle] at hi
      rw [updA_get _ _ _ hsz]
      split at hi
      · rename_i h12
        rw [if_pos (by omega)]
        obtain ⟨V, h5, h6⟩ := VRs.get hvs hi
        exact ⟨V, by rw [show L.off + i - (L.off + off) = i - off from by omega]; exact h5, VR.mono x h6⟩
      · rename_i h12
        rw [if_neg (by omega)]
        obtain ⟨V, h5, h6⟩ := hcs i v hi
        exact ⟨V, h5, VR.mono x h6⟩)
    exact ⟨_, hr, hw'⟩

/-- A new variable. -/
theorem Sim.newCells (s : Sim w0 F0 F μ H w) {vs : List AV} {Vs : List Value} (hvs : VRs F w μ vs Vs) (el : TypeId) :
    ∃ μ', Ext F w μ F { w with heap := w.heap.push (.cells Vs.toArray el) } μ' ∧ μ' H.length = some ⟨w.heap.size, 0, vs.length⟩ ∧
      Sim w0 F0 F μ' (H ++ [.cells vs false]) { w with heap := w.heap.push (.cells Vs.toArray el) } := by
  refine s.alloc (.cells Vs.toArray el) (.cells vs false) ⟨w.heap.size, 0, vs.length⟩ rfl ?_
  intro μ' x hμ' hF
  have hl := VRs.len hvs
  refine .cells _ _ ⟨w.heap.size, 0, vs.length⟩ Vs.toArray el 0 0 hμ' s.below.size (by rw [push_get, if_pos rfl]) (by simp; omega) (Nat.le_refl _) (fun _ => rfl) (fun o _ _ h => by omega) ?_ hF
  intro i v hi
  obtain ⟨V, h1, h2⟩ := VRs.get hvs hi
  exact ⟨V, by simpa using h1, VR.mono x h2⟩
end
end Go.Av
namespace Go.Av
set_option linter.unusedVariables false
set_option linter.unusedSimpArgs false
open Go.RowKit (Below)

/-- A zero value. -/
def zeroA (P : Program) (t : TypeId) : Option AV :=
  match (P.info? t).bind (·.zero) with
  | some (.agg cs) => some (.agg (cs.toList.map ofV))
  | some v => some (ofV v)
  | none => none

def esA (P : Program) (t : TypeId) : Option Nat :=
  match tag P t, tsz P t with
  | some true, some n => some (n + 1)
  | some false, some 1 => some 0
  | _, _ => none

/-- A field's place: where, how many cells. -/
def fldA (P : Program) (t : TypeId) (f : Nat) : Option (Nat × Nat × TypeId) :=
  match P.underlying t with
  | some (.struct fs) => match fs[f]? with
    | some f => (tsz P f.type).map fun n => (f.offset, n, f.type)
    | none => none
  | _ => none

/-- Whatever the run of s comes to, it is this value over this memory. -/
def DoesV (P : Program) (s : Sem Value) (w0 : World) (F0 F : Nat → Nat → Prop) (μ : Nat → Option Loc) (w : World) (v : AV) (H' : List OB) : Prop :=
  ∃ V w' F' μ', s.run P w = .ok V w' ∧ Ext F w μ F' w' μ' ∧ Sim w0 F0 F' μ' H' w' ∧ VR F' w' μ' v V

section
variable {P : Program} {w0 : World} {F0 F : Nat → Nat → Prop} {μ : Nat → Option Loc} {H : List OB} {w : World}

theorem DoesV.pure_ (s : Sim w0 F0 F μ H w) {x : Sem Value} {V : Value} {v : AV} (h : x.run P w = .ok V w) (hv : VR F w μ v V) : DoesV P x w0 F0 F μ w v H :=
  ⟨V, w, F, μ, h, Ext.refl _ _ _, s, hv⟩

theorem VR.ofV (v : Value) : VR F w μ (ofV v) v := by
  have : RelT 0 F μ ⟨[], [], []⟩ ⟨#[], []⟩ w := ⟨.nil, rfl, fun t => .junk _⟩
  exact this.ev (.const v)

theorem VRs.ofV (l : List Value) : VRs F w μ (l.map ofV) l := by
  induction l with
  | nil => exact .nil
  | cons v l ih => exact .cons _ _ _ _ (VR.ofV v) ih

theorem ofV_cells (v : Value) : (ofV v).cells = [ofV v] := by
  cases v with
  | string s => simp only [ofV]; split <;> rfl
  | pointer p => cases p <;> rfl
  | slice p l c => cases p with
    | none => simp only [ofV]; split <;> rfl
    | some p => rfl
  | map p => cases p <;> rfl
  | func fn f c => simp only [ofV]; split <;> rfl
  | _ => rfl

theorem zero_run {t : TypeId} {z : AV} (h : zeroA P t = some z) (w : World) : ∃ V, (zeroValue t).run P w = .ok V w ∧ VR F w μ z V ∧ VRs F w μ z.cells V.cells.toList := by
  unfold zeroA at h
  cases hi : P.info? t with
  | none => rw [hi] at h; cases h
  | some i =>
    rw [hi] at h
    simp only [Option.bind_some] at h
    have hr : ∀ V, i.zero = some V → (zeroValue t).run P w = .ok V w := fun V hz => by simp [zeroValue, run_typeInfo hi, hz]
    cases hz : i.zero with
    | none => rw [hz] at h; cases h
    | some V =>
      rw [hz] at h
      refine ⟨V, hr V hz, ?_⟩
      have key : ∀ V : Value, V.cells = #[V] → VR F w μ (ofV V) V ∧ VRs F w μ (ofV V).cells V.cells.toList := by
        intro V hV
        rw [ofV_cells, hV]
        exact ⟨VR.ofV V, .cons _ _ _ _ (VR.ofV V) .nil⟩
      cases V <;> simp only [Option.some.injEq] at h <;> subst h
      case agg cs => exact ⟨.agg _ _ (VRs.ofV _), VRs.ofV _⟩
      all_goals exact key _ rfl

/-! ### Loads and stores -/

def evLoad (P : Program) (t : TypeId) (x : AV) (H : List OB) : Option AV :=
  match tsz P t, tag P t with
  | some sz, some ag => match x with
    | .ptr id off => match H[id]? with
      | some (.cells cs _) => ldA sz ag cs off
      | _ => none
    | .vptr cs => ldA sz ag cs 0
    | _ => none
  | _, _ => none

theorem evLoad_ok (s : Sim w0 F0 F μ H w) {t : TypeId} {x v : AV} {X : Value} (hx : VR F w μ x X) (h : evLoad P t x H = some v) : DoesV P (Instr.loadAt t X) w0 F0 F μ w v H := by
  unfold evLoad at h
  split at h
  · rename_i sz ag hs ha
    split at h
    · rename_i id off
      split at h
      · rename_i cs opn hid
        cases hx with
        | ptr _ _ L hμ =>
          cases s.obs id _ hid with
          | cells _ _ L' c el lo hi hμ' hB hw hcap hlen hfix hun hcs hF =>
            rw [hμ] at hμ'; cases hμ'
            obtain ⟨V, h1, h2⟩ := run_loadVar (P := P) (F := F) (w := w) (μ := μ) hs ha (b := L.block) (o := L.off) h (fun i v hiv => by
              obtain ⟨V, h3, h4⟩ := hcs i v hiv
              exact ⟨V, by rw [cell_eq w _ _ c el (lo, hi) hw]; exact h3, h4⟩)
            exact .pure_ s (by simp [Instr.loadAt, Instr.sureAddr, h1]) h2
      · cases h
    · rename_i cs
      cases hx with
      | vptr _ b o hm =>
        obtain ⟨V, h1, h2⟩ := run_loadVar (P := P) (F := F) (w := w) (μ := μ) hs ha (b := b) (o := o) h (fun i v hi => (hm.get hi).2)
        exact .pure_ s (by simp [Instr.loadAt, Instr.sureAddr]; simpa using h1) h2
    · cases h
  · cases h

def evStore (P : Program) (t : TypeId) (x v : AV) (H : List OB) : Option (List OB) :=
  match tsz P t, x with
  | some sz, .ptr id off => match H[id]? with
    | some (.cells cs opn) => if v.cells.length = sz ∧ off + sz ≤ cs.length ∧ v.cells.all AV.isC = true then some (H.set id (.cells (setC cs off v.cells) opn)) else none
    | _ => none
  | _, _ => none

theorem ne_junk {v : AV} (h : v.cells.all AV.isC = true) : v ≠ .junk := by rintro rfl; simp [AV.cells, AV.isC] at h

theorem evStore_ok (s : Sim w0 F0 F μ H w) {t : TypeId} {x v : AV} {X V : Value} {H' : List OB} (hx : VR F w μ x X) (hv : VR F w μ v V) (h : evStore P t x v H = some H') :
    ∃ w', (Instr.storeAt t X V).run P w = .ok () w' ∧ Ext F w μ F w' μ ∧ Sim w0 F0 F μ H' w' := by
  unfold evStore at h
  split at h
  · rename_i sz id off hs
    split at h
    · rename_i cs opn hid
      split at h
      · rename_i hh
        obtain ⟨h1, h2, h3⟩ := hh
        cases h
        cases hx with
        | ptr _ _ L hμ =>
          have hc := VR.cells hv (ne_junk h3)
          obtain ⟨w', h4, h5, h6⟩ := s.store (P := P) (off := off) hid hc h3 (by omega) hμ
          have hl := VRs.len hc
          rw [Array.length_toList] at hl
          refine ⟨w', ?_, h5, h6⟩
          simp only [Instr.storeAt, Instr.sureAddr, Sem.run_bind, Sem.run_pure, Result.andThen, storeVar, run_sizeOf' hs]
          rw [if_neg (by omega)]
          exact h4
      · cases h
    · cases h
  · cases h

/-! ### New variables -/

def evNew (v : AV) (H : List OB) : Option (AV × List OB) :=
  match v with
  | .junk => none
  | v => some (.ptr H.length 0, H ++ [.cells v.cells false])

theorem newVar_ok (s : Sim w0 F0 F μ H w) {cs : List AV} {V : Value} {t : TypeId} (hv : VRs F w μ cs V.cells.toList) :
    DoesV P (do pure (.pointer (some (← newVar t V)))) w0 F0 F μ w (.ptr H.length 0) (H ++ [.cells cs false]) := by
  obtain ⟨μ', h1, h2, h3⟩ := s.newCells hv t
  refine ⟨.pointer (some ⟨w.heap.size, 0, none⟩), _, F, μ', ?_, h1, h3, ?_⟩
  · simp [newVar, newRow]
  · have := VR.ptr (F := F) (w := { w with heap := w.heap.push (.cells V.cells.toList.toArray t) }) (μ := μ') H.length 0 ⟨w.heap.size, 0, cs.length⟩ h2
    simpa using this

/-! ### Addresses -/

def evFieldAddr (P : Program) (t : TypeId) (x : AV) (f : Nat) : Option AV :=
  match fldA P t f with
  | some (o, n, _) => if n = 0 then none else match x with
    | .ptr id off => some (.ptr id (off + o))
    | .vptr cs => some (.vptr (cs.drop o))
    | _ => none
  | none => none

theorem fldA_get {t : TypeId} {f o n : Nat} {ft : TypeId} (h : fldA P t f = some (o, n, ft)) : ∃ fs fl, P.underlying t = some (.struct fs) ∧ fs[f]? = some fl ∧ fl.offset = o ∧ tsz P fl.type = some n ∧ fl.type = ft := by
  unfold fldA at h
  split at h
  · rename_i fs hu
    split at h
    · rename_i fl hf
      cases hn : tsz P fl.type with
      | none => rw [hn] at h; cases h
      | some m => rw [hn] at h; simp at h; exact ⟨fs, fl, hu, hf, h.1, by rw [hn, h.2.1], h.2.2⟩
    · cases h
  · cases h

theorem evFieldAddr_ok (s : Sim w0 F0 F μ H w) {t : TypeId} {x v : AV} {X : Value} {f : Nat} (hx : VR F w μ x X) (h : evFieldAddr P t x f = some v) : DoesV P (Instr.fieldAt t X f) w0 F0 F μ w v H := by
  unfold evFieldAddr at h
  split at h
  · rename_i o n ft hf
    obtain ⟨fs, fl, h1, h2, h3, h4, h5⟩ := fldA_get hf
    split at h
    · cases h
    · rename_i hn
      have hr : ∀ b i, (Instr.fieldAt t (.pointer (some ⟨b, i, none⟩)) f).run P w = .ok (.pointer (some ⟨b, i + o, none⟩)) w := by
        intro b i
        simp only [Instr.fieldAt, Sem.run_bind, run_underlying h1, Result.andThen, h2, Instr.sureAddr, Sem.run_pure, fieldPlace, run_sizeOf' h4, if_neg hn, add_plain, h3]
      split at h
      · cases h
        cases hx with
        | ptr id off L hμ => exact .pure_ s (hr _ _) (by rw [Nat.add_assoc]; exact .ptr _ _ L hμ)
      · cases h
        cases hx with
        | vptr cs b i hm => exact .pure_ s (hr _ _) (.vptr _ _ _ (hm.drop _))
      · cases h
  · cases h

/-- An index. -/
def idx : AV → Option Nat
  | .int _ i => if 0 ≤ i then some i.toNat else none
  | _ => none

def evIndexAddr (P : Program) (t : TypeId) (x i : AV) (H : List OB) : Option AV :=
  match idx i, P.underlying t with
  | some i, some (.slice e) => match tsz P e, x with
    | some n, .sl id off len wd => if i < len then some (.ptr id (off + i * n)) else none
    | some n, .vsl _ _ es => match es[i]? with
      | some v => if v.cells.length = n then some (.vptr v.cells) else none
      | none => none
    | _, _ => none
  | some i, some (.array len e) => match tsz P e, x with
    | some n, .ptr id off => if i < len then some (.ptr id (off + i * n)) else none
    | some n, .vptr cs => if i < len then some (.vptr (cs.drop (i * n))) else none
    | _, _ => none
  | _, _ => none

theorem idx_get {i : AV} {I : Value} {k : Nat} (hi : VR F w μ i I) (h : idx i = some k) : ∃ kd, I = .int kd (k : Int) := by
  unfold idx at h
  split at h
  · rename_i kd n
    split at h
    · rename_i hn
      cases h
      cases hi
      exact ⟨kd, by rw [Int.toNat_of_nonneg hn]⟩
    · cases h
  · cases h

theorem evIndexAddr_ok (s : Sim w0 F0 F μ H w) {t : TypeId} {x i v : AV} {X I : Value} (hx : VR F w μ x X) (hi : VR F w μ i I) (h : evIndexAddr P t x i H = some v) :
    DoesV P (Instr.indexAt t X I) w0 F0 F μ w v H := by
  unfold evIndexAddr at h
  split at h
  · rename_i k e hk hu
    obtain ⟨kd, rfl⟩ := idx_get hi hk
    have hr : ∀ b o len cap n, tsz P e = some n → k < len → (Instr.indexAt t (.slice (some ⟨b, o, none⟩) len cap) (.int kd (k : Int))).run P w = .ok (.pointer (some ⟨b, o + k * n, none⟩)) w := by
      intro b o len cap n hn hlt
      simp [Instr.indexAt, asIntOf, run_underlying hu, run_sizeOf' hn, hlt, add_plain]
    split at h
    · rename_i n id off len wd hn
      split at h
      · rename_i hlt
        cases h
        cases hx with
        | sl _ _ _ _ cap L hμ hc hl hb => exact .pure_ s (hr _ _ _ _ n hn hlt) (by rw [Nat.add_assoc]; exact .ptr _ _ L hμ)
      · cases h
    · rename_i n wd xx es hn
      split at h
      · rename_i v' hv'
        split at h
        · rename_i hlen
          cases h
          have hlt : k < es.length := (List.getElem?_eq_some_iff.1 hv').1
          cases hx with
          | vsl _ _ _ A cap hxx hl hb ha =>
            generalize hz : esz wd = size at ha
            cases ha with
            | nil _ A => simp at hlt
            | «at» _ _ b o he =>
              obtain ⟨h1, h2⟩ := he.get hv'
              rw [hlen] at h1; subst h1
              exact .pure_ s (hr _ _ _ _ n hn hlt) (.vptr _ _ _ h2)
        · cases h
      · cases h
    · cases h
  · rename_i k len e hk hu
    obtain ⟨kd, rfl⟩ := idx_get hi hk
    have hr : ∀ b o n, tsz P e = some n → k < len → (Instr.indexAt t (.pointer (some ⟨b, o, none⟩)) (.int kd (k : Int))).run P w = .ok (.pointer (some ⟨b, o + k * n, none⟩)) w := by
      intro b o n hn hlt
      simp [Instr.indexAt, asIntOf, run_underlying hu, run_sizeOf' hn, hlt, add_plain, Instr.sureAddr]
    split at h
    · rename_i n id off hn
      split at h
      · rename_i hlt
        cases h
        cases hx with
        | ptr _ _ L hμ => exact .pure_ s (hr _ _ n hn hlt) (by rw [Nat.add_assoc]; exact .ptr _ _ L hμ)
      · cases h
    · rename_i n cs hn
      split at h
      · rename_i hlt
        cases h
        cases hx with
        | vptr _ b o hm => exact .pure_ s (hr _ _ n hn hlt) (.vptr _ _ _ (hm.drop _))
      · cases h
    · cases h
  · cases h

/-- A part of cells. -/
def evPart (P : Program) (t : TypeId) (cs : List AV) (off : Nat) : Option AV :=
  match tsz P t, tag P t with
  | some sz, some ag => ldA sz ag cs off
  | _, _ => none

theorem VRs.take {vs : List AV} {Vs : List Value} (h : VRs F w μ vs Vs) (k : Nat) : VRs F w μ (vs.take k) (Vs.take k) := by
  induction vs generalizing Vs k with
  | nil => cases h; simp; exact .nil
  | cons v vs ih =>
    cases h with
    | cons _ V _ Vs h t => cases k with
      | zero => exact .nil
      | succ k => exact .cons _ _ _ _ h (ih t k)
theorem VRs.drop {vs : List AV} {Vs : List Value} (h : VRs F w μ vs Vs) (k : Nat) : VRs F w μ (vs.drop k) (Vs.drop k) := by
  induction vs generalizing Vs k with
  | nil => cases h; simp; exact .nil
  | cons v vs ih =>
    cases h with
    | cons _ V _ Vs h t => cases k with
      | zero => exact .cons _ _ _ _ h t
      | succ k => exact ih t k

theorem evPart_ok {t : TypeId} {cs : List AV} {A : Array Value} {off : Nat} {v : AV} (hc : VRs F w μ cs A.toList) (h : evPart P t cs off = some v) : ∃ V, (part t A off).run P w = .ok V w ∧ VR F w μ v V := by
  unfold evPart at h
  split at h
  · rename_i sz ag hs ha
    unfold ldA at h
    cases ag with
    | false =>
      simp only [Bool.false_eq_true, if_false] at h
      obtain ⟨V, h1, h2⟩ := hc.get h
      rw [Array.getElem?_toList] at h1
      exact ⟨V, by simp [part, run_isAgg' ha, h1], h2⟩
    | true =>
      simp only [if_true] at h
      split at h
      · rename_i hle
        cases h
        refine ⟨.agg (A.extract off (off + sz)), by simp [part, run_isAgg' ha, run_sizeOf' hs], .agg _ _ ?_⟩
        have := (hc.drop off).take sz
        rw [Array.toList_extract, List.extract_eq_take_drop, show off + sz - off = sz from by omega]
        exact this
      · cases h
  · cases h

def evField (P : Program) (t : TypeId) (x : AV) (f : Nat) : Option AV :=
  match fldA P t f, x with
  | some (o, _, ft), .agg cs => evPart P ft cs o
  | _, _ => none

theorem evField_ok (s : Sim w0 F0 F μ H w) {t : TypeId} {x v : AV} {X : Value} {f : Nat} (hx : VR F w μ x X) (h : evField P t x f = some v) : DoesV P (Instr.field t X f) w0 F0 F μ w v H := by
  unfold evField at h
  split at h
  · rename_i o n ft cs hf
    obtain ⟨fs, fl, h1, h2, h3, h4, h5⟩ := fldA_get hf
    cases hx with
    | agg _ A hA =>
      obtain ⟨V, h6, h7⟩ := evPart_ok (P := P) (w := w) hA h
      refine .pure_ s ?_ h7
      simp only [Instr.field, Sem.run_bind, run_underlying h1, Result.andThen, h2, asAgg, Sem.run_pure, h3, h5]
      exact h6
  · cases h

def evIndex (P : Program) (t : TypeId) (x i : AV) : Option AV :=
  match idx i, P.underlying t with
  | some i, some (.array len e) => match tsz P e, x with
    | some n, .agg cs => if i < len then evPart P e cs (i * n) else none
    | _, _ => none
  | some i, some .string => match x with
    | .str s => (s[i]?).map fun b => .int .u8 b.toNat
    | _ => none
  | _, _ => none

theorem evIndex_ok (s : Sim w0 F0 F μ H w) {t : TypeId} {x i v : AV} {X I : Value} (hx : VR F w μ x X) (hi : VR F w μ i I) (h : evIndex P t x i = some v) :
    DoesV P (Instr.index t X I) w0 F0 F μ w v H := by
  unfold evIndex at h
  split at h
  · rename_i k len e hk hu
    obtain ⟨kd, rfl⟩ := idx_get hi hk
    split at h
    · rename_i n cs hn
      split at h
      · rename_i hlt
        cases hx with
        | agg _ A hA =>
          obtain ⟨V, h6, h7⟩ := evPart_ok (P := P) (w := w) hA h
          refine .pure_ s ?_ h7
          simp [Instr.index, asIntOf, run_underlying hu, run_sizeOf' hn, hlt, h6]
      · cases h
    · cases h
  · rename_i k hk hu
    obtain ⟨kd, rfl⟩ := idx_get hi hk
    split at h
    · rename_i sb
      cases hb : sb[k]? with
      | none => rw [hb] at h; cases h
      | some b =>
        rw [hb] at h; cases h
        cases hx with
        | str _ hl =>
          have hlt := (List.getElem?_eq_some_iff.1 hb).1
          have hget := (List.getElem?_eq_some_iff.1 hb).2
          refine .pure_ s ?_ (.int _ _)
          have : (⟨sb.toArray⟩ : ByteArray)[k]? = some b := by
            have hsz : k < (⟨sb.toArray⟩ : ByteArray).size := by show k < sb.toArray.size; simpa using hlt
            rw [getElem?_pos _ k hsz]
            congr 1
          simp [Instr.index, asIntOf, run_underlying hu, this]
    · cases h
  · cases h
end
end Go.Av
namespace Go.Av
set_option linter.unusedVariables false
set_option linter.unusedSimpArgs false
open Go.RowKit (Below)

section
variable {P : Program} {w0 : World} {F0 F : Nat → Nat → Prop} {μ : Nat → Option Loc} {H : List OB} {w : World}

/-! ### x[lo:hi], x[lo:hi:max] -/

/-- The bounds: low, high, and the third, if there is one. -/
def bnds (len : Nat) (lo hi : Option AV) : Option (Nat × Nat) :=
  match (match lo with | none => some 0 | some l => idx l), (match hi with | none => some len | some h => idx h) with
  | some l, some h => if l ≤ h ∧ h ≤ len then some (l, h) else none
  | _, _ => none

inductive VRo (F : Nat → Nat → Prop) (w : World) (μ : Nat → Option Loc) : Option AV → Option Value → Prop
  | none : VRo F w μ none none
  | some (v : AV) (V : Value) (h : VR F w μ v V) : VRo F w μ (some v) (some V)

theorem bnds_ok {isS : Bool} {len cap : Nat} {lo hi : Option AV} {Lo Hi : Option Value} (hlo : VRo F w μ lo Lo) (hhi : VRo F w μ hi Hi) {l h : Nat} (hb : bnds len lo hi = some (l, h)) (hc : len ≤ cap) :
    l ≤ h ∧ h ≤ len ∧ (Instr.sliceBounds isS len cap Lo Hi none).run P w = .ok (l, h, cap) w := by
  unfold bnds at hb
  split at hb
  · rename_i l' h' e1 e2
    split at hb
    · rename_i hle
      simp only [Option.some.injEq, Prod.mk.injEq] at hb
      obtain ⟨rfl, rfl⟩ := hb
      refine ⟨hle.1, hle.2, ?_⟩
      have key : ∀ (kd : IntKind) (n y : Nat) (code : BoundsCode), n ≤ y → (Instr.sliceBound (.int kd (n : Int)) y code).run P w = .ok n w := by
        intro kd n y code hny
        simp [Instr.sliceBound, asIntOf, hny]
      have hsb : (if isS = true then BoundsCode.sliceAcap else .sliceAlen) = (if isS = true then BoundsCode.sliceAcap else .sliceAlen) := rfl
      cases hhi with
      | none =>
        simp only [Option.some.injEq] at e2; subst e2
        cases hlo with
        | none => simp only [Option.some.injEq] at e1; subst e1; simp [Instr.sliceBounds]
        | some v V hv =>
          obtain ⟨kd, rfl⟩ := idx_get hv e1
          simp [Instr.sliceBounds, key _ _ _ _ hle.1]
      | some v V hv =>
        obtain ⟨kd, rfl⟩ := idx_get hv e2
        have hk := key kd h' cap
        cases hlo with
        | none => simp only [Option.some.injEq] at e1; subst e1; simp [Instr.sliceBounds, hk _ (by omega)]
        | some v' V' hv' =>
          obtain ⟨kd', rfl⟩ := idx_get hv' e1
          simp [Instr.sliceBounds, hk _ (by omega), key _ _ _ _ hle.1]
    · cases hb
  · cases hb

def evSlice (P : Program) (t : TypeId) (x : AV) (lo hi mx : Option AV) : Option AV :=
  match P.underlying t, x, mx with
  | some .string, .str s, none => (bnds s.length lo hi).map fun (l, h) => .str ((s.drop l).take (h - l))
  | some (.slice e), .vsl wd ex es, none => match tsz P e, bnds es.length lo hi with
    | some n, some (l, h) => if l = 0 ∨ n = esz wd then some (.vsl wd (ex && h == es.length) ((es.drop l).take (h - l))) else none
    | _, _ => none
  | some (.slice e), .sl id off len wd, none => match tsz P e, bnds len lo hi with
    | some n, some (l, h) => if n = esz wd then some (if l = 0 ∨ l < h then .sl id (off + l * n) (h - l) wd else .vsl wd false []) else none
    | _, _ => none
  | some (.slice e), .vsl wd ex es, some (.int _ 0) => match tsz P e, lo, hi with
    | some _, none, some (.int _ 0) => some (.vsl wd true [])
    | some _, some (.int _ 0), some (.int _ 0) => some (.vsl wd true [])
    | _, _, _ => none
  | _, _, _ => none

theorem VRe.take_drop {es : List AV} {n b o : Nat} (h : VRe F w μ es n b o) (l k : Nat) : VRe F w μ ((es.drop l).take k) n b (o + l * n) :=
  .of fun i v hi => by
    rw [List.getElem?_take] at hi
    split at hi
    · rw [List.getElem?_drop] at hi
      obtain ⟨h1, h2⟩ := h.get hi
      exact ⟨h1, by rw [show o + l * n + i * n = o + (l + i) * n from by rw [Nat.add_mul]; omega]; exact h2⟩
    · cases hi

theorem str_size (s : Bytes) : (⟨s.toArray⟩ : ByteArray).size = s.length := by show s.toArray.size = _; simp

theorem mk_data (b : ByteArray) (l : Bytes) (h : b.data.toList = l) : b = ⟨l.toArray⟩ := by
  cases b with
  | mk d => simp at h; subst h; simp

theorem str_extract (s : Bytes) (l h : Nat) : (⟨s.toArray⟩ : ByteArray).extract l h = ⟨((s.drop l).take (h - l)).toArray⟩ :=
  mk_data _ _ (by rw [Lib.extract_data])

theorem dt_len {α : Type} (l : List α) {a h : Nat} (hah : a ≤ h) (hl : h ≤ l.length) : ((l.drop a).take (h - a)).length = h - a := by simp; omega

theorem evSlice_ok (s : Sim w0 F0 F μ H w) {t : TypeId} {x v : AV} {X : Value} {lo hi mx : Option AV} {Lo Hi Mx : Option Value} (hx : VR F w μ x X) (hlo : VRo F w μ lo Lo) (hhi : VRo F w μ hi Hi) (hmx : VRo F w μ mx Mx)
    (h : evSlice P t x lo hi mx = some v) : DoesV P (Instr.sliceAt t X Lo Hi Mx) w0 F0 F μ w v H := by
  unfold evSlice at h
  split at h
  · rename_i sb hu
    cases hmx
    cases hb : bnds sb.length lo hi with
    | none => rw [hb] at h; cases h
    | some p =>
      obtain ⟨l, hh⟩ := p
      rw [hb] at h; cases h
      cases hx with
      | str _ hl =>
        obtain ⟨h1, h2, h3⟩ := bnds_ok (P := P) (isS := false) hlo hhi hb (Nat.le_refl _)
        refine .pure_ s (V := .string ⟨((sb.drop l).take (hh - l)).toArray⟩) ?_ (.str _ (by rw [dt_len sb h1 h2]; omega))
        rw [← str_extract]
        simp [Instr.sliceAt, run_underlying hu, Instr.slice, str_size, h3]
  · rename_i e wd ex es hu
    cases hmx
    split at h
    · rename_i n l hh hn hb
      split at h
      · rename_i hcond
        cases h
        cases hx with
        | vsl _ _ _ A cap hxx hl hbd ha =>
          obtain ⟨h1, h2, h3⟩ := bnds_ok (P := P) (isS := true) hlo hhi hb hl
          have hrun : (Instr.sliceAt t (.slice A es.length cap) Lo Hi none).run P w = .ok (.slice (if cap = l then A else A.map (·.add (l * n))) (hh - l) (cap - l)) w := by
            simp [Instr.sliceAt, run_underlying hu, Instr.slice, h3, run_sizeOf' hn]
          have hlen := dt_len es h1 h2
          refine .pure_ s (V := .slice (if cap = l then A else A.map (·.add (l * n))) (hh - l) (cap - l)) hrun ?_
          have := VR.vsl (F := F) (w := w) (μ := μ) wd (ex && hh == es.length) ((es.drop l).take (hh - l)) (if cap = l then A else A.map (·.add (l * n))) (cap - l)
            (fun hb' => by
              simp only [Bool.and_eq_true, beq_iff_eq] at hb'
              rw [hlen, hxx hb'.1, hb'.2]) (by rw [hlen]; omega) (by rw [hlen]; omega) (by
              by_cases hemp : hh - l = 0
              · rw [hemp, List.take_zero]; exact .nil _ _
              · have hcl : cap ≠ l := by omega
                rw [if_neg hcl]
                cases ha with
                | nil _ A => simp at h2; omega
                | «at» _ _ b o he =>
                  simp only [Option.map_some, add_plain]
                  rcases hcond with h0 | h0
                  · subst h0
                    have := he.take_drop 0 (hh - 0)
                    simp only [Nat.zero_mul, Nat.add_zero] at this ⊢
                    exact .at _ _ _ _ this
                  · subst h0
                    exact .at _ _ _ _ (he.take_drop l (hh - l)))
          rw [hlen] at this
          exact this
      · cases h
    · cases h
  · rename_i e id off len wd hu
    cases hmx
    split at h
    · rename_i n l hh hn hb
      split at h
      · rename_i hnz
        cases h
        cases hx with
        | sl _ _ _ _ cap L hμ hc hl hbd =>
          obtain ⟨h1, h2, h3⟩ := bnds_ok (P := P) (isS := true) hlo hhi hb hl
          have hrun : (Instr.sliceAt t (.slice (some ⟨L.block, L.off + off, none⟩) len cap) Lo Hi none).run P w
              = .ok (.slice (if cap = l then some ⟨L.block, L.off + off, none⟩ else some ⟨L.block, L.off + off + l * n, none⟩) (hh - l) (cap - l)) w := by
            simp [Instr.sliceAt, run_underlying hu, Instr.slice, h3, run_sizeOf' hn, add_plain]
          refine .pure_ s hrun ?_
          split
          · rename_i hcond
            have hA : (if cap = l then some (⟨L.block, L.off + off, none⟩ : Addr) else some ⟨L.block, L.off + off + l * n, none⟩) = some ⟨L.block, L.off + (off + l * n), none⟩ := by
              split
              · have : l = 0 := by omega
                subst this; simp
              · rw [Nat.add_assoc]
            rw [hA]
            refine .sl _ _ _ _ _ L hμ ?_ (by omega) (by omega)
            have hlc : l ≤ cap := by omega
            have : l * n + (cap - l) * n = cap * n := by rw [← Nat.add_mul]; congr 1; omega
            rw [← hnz, Nat.add_assoc, this, hnz]; exact hc
          · have : hh - l = 0 := by omega
            have k := VR.vsl (F := F) (w := w) (μ := μ) wd false [] (if cap = l then some ⟨L.block, L.off + off, none⟩ else some ⟨L.block, L.off + off + l * n, none⟩) (cap - l) (fun h => by cases h) (Nat.zero_le _) (Nat.zero_le _) (.nil _ _)
            rw [this]; exact k
      · cases h
    · cases h
  · rename_i e wd ex es k hu
    cases hmx with
    | some _ V hV =>
      cases hV
      cases hx with
      | vsl _ _ _ A cap hxx hl hbd ha =>
        have key : ∀ Lo Hi, (Lo = none ∨ ∃ k, Lo = some (.int k 0)) → (∃ k, Hi = some (.int k 0)) → (∃ n, tsz P e = some n) →
            ∃ A', (Instr.sliceAt t (.slice A es.length cap) Lo Hi (some (.int k 0))).run P w = .ok (.slice A' 0 0) w := by
          rintro Lo Hi hLo ⟨k2, rfl⟩ ⟨n, hn⟩
          refine ⟨A, ?_⟩
          have hsb : ∀ (kd : IntKind) (y : Nat) (code : BoundsCode), (Instr.sliceBound (.int kd 0) y code).run P w = .ok 0 w := by
            intro kd y code; simp [Instr.sliceBound, asIntOf]
          rcases hLo with rfl | ⟨k3, rfl⟩ <;> simp [Instr.sliceAt, run_underlying hu, Instr.slice, Instr.sliceBounds, hsb, run_sizeOf' hn]
        have hres : ∀ A', VR F w μ (.vsl wd true []) (.slice A' 0 0) := fun A' => .vsl wd true [] A' 0 (fun _ => rfl) (Nat.le_refl _) (Nat.zero_le _) (.nil _ _)
        split at h
        · rename_i n k2 hn
          cases h
          cases hlo
          cases hhi with
          | some _ V hV2 =>
            cases hV2
            obtain ⟨A', h1⟩ := key none (some (.int k2 0)) (.inl rfl) ⟨_, rfl⟩ ⟨_, hn⟩
            exact .pure_ s h1 (hres A')
        · rename_i n k3 k2 hn
          cases h
          cases hlo with
          | some _ V1 hV1 =>
            cases hV1
            cases hhi with
            | some _ V hV2 =>
              cases hV2
              obtain ⟨A', h1⟩ := key _ (some (.int _ 0)) (.inr ⟨_, rfl⟩) ⟨_, rfl⟩ ⟨_, hn⟩
              exact .pure_ s h1 (hres A')
        · cases h
  · cases h

/-! ### Arithmetic and tests -/

def evBin (P : Program) (op : BinOp) (t : TypeId) (x y : AV) : Option AV :=
  match x, y with
  | .int k a, .int k' b =>
    match op with
    | .shl => if 0 ≤ b then some (.int k (k.wrap (a * 2 ^ (min b.toNat k.bits)))) else none
    | .shr => if 0 ≤ b then some (.int k (a.fdiv (2 ^ (min b.toNat k.bits)))) else none
    | op => if k = k' then
      match op with
      | .add => some (.int k (k.wrap (a + b)))
      | .sub => some (.int k (k.wrap (a - b)))
      | .mul => some (.int k (k.wrap (a * b)))
      | .quo => if b = 0 then none else some (.int k (k.wrap (a.tdiv b)))
      | .rem => if b = 0 then none else some (.int k (a.tmod b))
      | .eql => some (.bool (a == b))
      | .neq => some (.bool (a != b))
      | .lss => some (.bool (decide (a < b)))
      | .leq => some (.bool (decide (a ≤ b)))
      | .gtr => some (.bool (decide (a > b)))
      | .geq => some (.bool (decide (a ≥ b)))
      | .and => some (.int k (k.wrap (BitVec.ofInt k.bits a &&& BitVec.ofInt k.bits b).toNat))
      | .or => some (.int k (k.wrap (BitVec.ofInt k.bits a ||| BitVec.ofInt k.bits b).toNat))
      | .xor => some (.int k (k.wrap (BitVec.ofInt k.bits a ^^^ BitVec.ofInt k.bits b).toNat))
      | _ => none
      else none
  | .str a, .str b =>
    match op with
    | .add => if a.length + b.length ≤ maxLen' then some (.str (a ++ b)) else none
    | .eql => some (.bool (a == b))
    | .neq => some (.bool !(a == b))
    | .lss => some (.bool (Op.bytesLess a b))
    | .leq => some (.bool (Op.bytesLess a b || a == b))
    | .gtr => some (.bool !(Op.bytesLess a b || a == b))
    | .geq => some (.bool !(Op.bytesLess a b))
    | _ => none
  | .bool a, .bool b =>
    match op, P.underlying t with
    | .eql, some .bool => some (.bool (a == b))
    | .neq, some .bool => some (.bool !(a == b))
    | _, _ => none
  | _, _ => none

theorem equalIn_bool {t : TypeId} (hu : P.underlying t = some .bool) (d : Nat) (a b : Bool) : (Op.equalIn (d + 1) t (.bool a) (.bool b)).run P w = .ok (a == b) w := by
  simp [Op.equalIn, run_underlying hu]
theorem equal_bool {t : TypeId} (hu : P.underlying t = some .bool) (a b : Bool) : (Op.equal t (.bool a) (.bool b)).run P w = .ok (a == b) w := equalIn_bool hu 9999 a b

theorem sdata (s : Bytes) : (⟨s.toArray⟩ : ByteArray).toList = s := by rw [ByteArray.toList_eq]

theorem str_append (a b : Bytes) : (⟨a.toArray⟩ : ByteArray) ++ ⟨b.toArray⟩ = ⟨(a ++ b).toArray⟩ := mk_data _ _ (by rw [ByteArray.data_append]; simp)

theorem evBin_ok (s : Sim w0 F0 F μ H w) {op : BinOp} {t : TypeId} {x y v : AV} {X Y : Value} {ox oy : Operand} (hx : VR F w μ x X) (hy : VR F w μ y Y) (h : evBin P op t x y = some v) :
    DoesV P (do eqGuard op t ox oy X Y; binOp op t X Y) w0 F0 F μ w v H := by
  unfold evBin at h
  split at h
  · rename_i k a k' b
    cases hx; cases hy
    have hg : (eqGuard op t ox oy (.int k a) (.int k' b)).run P w = .ok () w := by unfold eqGuard; cases op <;> simp
    split at h
    · split at h
      · rename_i hb
        cases h
        exact .pure_ s (by simp [hg, binOp, Op.shift, show ¬ b < 0 from by omega]) (.int _ _)
      · cases h
    · split at h
      · rename_i hb
        cases h
        exact .pure_ s (by simp [hg, binOp, Op.shift, show ¬ b < 0 from by omega]) (.int _ _)
      · cases h
    · rename_i h1 h2
      split at h
      · rename_i hk
        subst hk
        split at h
        case h_4 => split at h <;> first | (cases h; done) | (rename_i hb; cases h; exact .pure_ s (by simp [hg, binOp, Op.intDiv, hb]) (.int _ _))
        case h_5 => split at h <;> first | (cases h; done) | (rename_i hb; cases h; exact .pure_ s (by simp [hg, binOp, Op.intDiv, hb]) (.int _ _))
        all_goals first
          | (cases h; done)
          | (cases h; exact .pure_ s (by simp [hg, binOp, Op.intArith, Op.intCmp, Op.intBits]) (.int _ _))
          | (cases h; exact .pure_ s (by simp [hg, binOp, Op.intArith, Op.intCmp, Op.intBits]) (.bool _))
      · cases h
  · rename_i a b
    cases hx with
    | str _ ha =>
      cases hy with
      | str _ hb =>
        have hg : (eqGuard op t ox oy (.string ⟨a.toArray⟩) (.string ⟨b.toArray⟩)).run P w = .ok () w := by unfold eqGuard; cases op <;> simp
        split at h
        · split at h
          · rename_i hl
            cases h
            refine .pure_ s (V := .string ⟨(a ++ b).toArray⟩) ?_ (.str _ (by rw [List.length_append]; exact hl))
            rw [← str_append]
            have hm : ¬ (((a.length + b.length : Nat) : Int) > IntKind.i64.max) := by
              have : IntKind.i64.max = 9223372036854775807 := by decide
              rw [this]; unfold maxLen' at hl; omega
            simp only [Sem.run_bind, hg, Result.andThen, binOp, Op.stringOp, str_size]
            rw [if_neg hm]; rfl
          · cases h
        all_goals first
          | (cases h; done)
          | (cases h; exact .pure_ s (by simp [hg, binOp, Op.stringOp, sdata]) (.bool _))
  · rename_i a b
    cases hx; cases hy
    have hg : (eqGuard op t ox oy (.bool a) (.bool b)).run P w = .ok () w := by unfold eqGuard; cases op <;> simp
    split at h
    · rename_i hu
      cases h
      exact .pure_ s (by simp only [Sem.run_bind, hg, Result.andThen, binOp, equal_bool hu, Sem.run_pure]) (.bool _)
    · rename_i hu
      cases h
      exact .pure_ s (by simp only [Sem.run_bind, hg, Result.andThen, binOp, equal_bool hu, Sem.run_pure]) (.bool _)
    · cases h
  · cases h

def evUn (op : UnOp) (x : AV) : Option AV :=
  match op, x with
  | .not, .bool b => some (.bool !b)
  | .neg, .int k n => some (.int k (k.wrap (0 - n)))
  | _, _ => none

theorem evUn_ok (s : Sim w0 F0 F μ H w) {op : UnOp} {x v : AV} {X : Value} (hx : VR F w μ x X) (h : evUn op x = some v) : DoesV P (Op.unary op X) w0 F0 F μ w v H := by
  unfold evUn at h
  split at h
  · cases h; cases hx; exact .pure_ s (by simp [Op.unary]) (.bool _)
  · cases h; cases hx; exact .pure_ s (by simp [Op.unary, Op.intArith]) (.int _ _)
  · cases h
end
end Go.Av
