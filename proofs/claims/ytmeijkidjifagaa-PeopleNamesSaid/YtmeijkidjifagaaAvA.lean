/- Abstract values for Go values, and what it says that a Go value stands for one: no condition; a text without a program. -/
import Derived.Scope
import Derived.Below
namespace Go.Av
set_option linter.unusedVariables false

abbrev Bytes := List UInt8

/-- Abstract values: data as trees; 'ptr', 'sl', 'map' are handles to memory that is still written; 'vptr', 'vsl', 'vmap' are memory that stays as it is. -/
inductive AV where
  | junk
  | bool (b : Bool)
  | int (k : IntKind) (n : Int)
  | str (s : Bytes)
  | nilptr
  | ptr (id off : Nat)
  | vptr (cells : List AV)
  | sl (id off len wd : Nat)
  | vsl (wd : Nat) (exact : Bool) (elems : List AV)
  | nilmap
  | map (id : Nat)
  | vmap (keys vals : List AV)
  | func (fn : Fn) (first captured : List AV)
  | nilfunc
  | iface (t : TypeId) (v : AV)
  | nilif
  | agg (l : List AV)
  | tup (l : List AV)
  | yld (id : Nat)
  deriving Inhabited

def AV.cells : AV → List AV
  | .agg l => l
  | v => [v]

/-- How many cells an element has: 0 says one cell, no aggregate. -/
def esz : Nat → Nat
  | 0 => 1
  | n + 1 => n

structure Loc where
  block : Nat
  off : Nat
  cap : Nat

def maxLen' : Nat := 9223372036854775807

/-- The stamps of a map's entries: each its own, all below the clock. -/
structure Born (es : List MapEntry) (clock : Nat) : Prop where
  lt : ∀ e ∈ es, e.born < clock
  own : (es.map (·.born)).Nodup

section
variable (F : Nat → Nat → Prop) (w : World) (μ : Nat → Option Loc)

mutual
inductive VR : AV → Value → Prop
  | junk (V : Value) : VR .junk V
  | bool (b : Bool) : VR (.bool b) (.bool b)
  | int (k : IntKind) (n : Int) : VR (.int k n) (.int k n)
  | str (s : Bytes) (hb : s.length ≤ maxLen') : VR (.str s) (.string ⟨s.toArray⟩)
  | nilptr : VR .nilptr (.pointer none)
  | ptr (id off : Nat) (L : Loc) (h : μ id = some L) : VR (.ptr id off) (.pointer (some ⟨L.block, L.off + off, none⟩))
  | vptr (cs : List AV) (b o : Nat) (h : VRm cs b o) : VR (.vptr cs) (.pointer (some ⟨b, o, none⟩))
  | sl (id off len wd cap : Nat) (L : Loc) (h : μ id = some L) (hc : off + cap * esz wd = L.cap) (hl : len ≤ cap) (hb : len ≤ maxLen') :
      VR (.sl id off len wd) (.slice (some ⟨L.block, L.off + off, none⟩) len cap)
  | vsl (wd : Nat) (x : Bool) (es : List AV) (A : Option Addr) (cap : Nat) (hx : x = true → cap = es.length) (hl : es.length ≤ cap) (hb : es.length ≤ maxLen') (h : VRa es (esz wd) A) :
      VR (.vsl wd x es) (.slice A es.length cap)
  | nilmap : VR .nilmap (.map none)
  | map (id : Nat) (L : Loc) (h : μ id = some L) : VR (.map id) (.map (some L.block))
  | vmap (ks vs : List AV) (r : Nat) (es : Array MapEntry) (clock : Nat) (hF : F r 0) (hr : w.heap[r]? = some (.map es clock)) (hb : Born es.toList clock) (h : VRk ks vs es.toList) :
      VR (.vmap ks vs) (.map (some r))
  | func (fn : Fn) (fs cs : List AV) (Fs Cs : Array Value) (hf : VRs fs Fs.toList) (hc : VRs cs Cs.toList) : VR (.func fn fs cs) (.func fn Fs Cs)
  | nilfunc : VR .nilfunc .nilFunc
  | iface (t : TypeId) (v : AV) (V : Value) (h : VR v V) : VR (.iface t v) (.iface t V)
  | nilif : VR .nilif .nilIface
  | agg (l : List AV) (A : Array Value) (h : VRs l A.toList) : VR (.agg l) (.agg A)
  | tup (l : List AV) (A : Array Value) (h : VRs l A.toList) : VR (.tup l) (.tuple A)
  | yld (id : Nat) (L : Loc) (h : μ id = some L) : VR (.yld id) (.func (.yield L.block) #[] #[])
inductive VRs : List AV → List Value → Prop
  | nil : VRs [] []
  | cons (v : AV) (V : Value) (vs : List AV) (Vs : List Value) (h : VR v V) (t : VRs vs Vs) : VRs (v :: vs) (V :: Vs)
/-- Cells one behind the other in memory that stays. -/
inductive VRm : List AV → Nat → Nat → Prop
  | nil (b o : Nat) : VRm [] b o
  | cons (v : AV) (V : Value) (vs : List AV) (b o : Nat) (hF : F b o) (hc : w.cell? ⟨b, o, none⟩ = some V) (h : VR v V) (t : VRm vs b (o + 1)) : VRm (v :: vs) b o
/-- Elements one behind the other, each of 'size' cells. -/
inductive VRe : List AV → Nat → Nat → Nat → Prop
  | nil (size b o : Nat) : VRe [] size b o
  | cons (v : AV) (vs : List AV) (size b o : Nat) (hs : v.cells.length = size) (h : VRm v.cells b o) (t : VRe vs size b (o + size)) : VRe (v :: vs) size b o
inductive VRa : List AV → Nat → Option Addr → Prop
  | nil (size : Nat) (A : Option Addr) : VRa [] size A
  | at (es : List AV) (size b o : Nat) (h : VRe es size b o) : VRa es size (some ⟨b, o, none⟩)
inductive VRk : List AV → List AV → List MapEntry → Prop
  | nil : VRk [] [] []
  | cons (k v : AV) (ks vs : List AV) (e : MapEntry) (es : List MapEntry) (hk : VR k e.key) (hv : VR v e.val) (t : VRk ks vs es) : VRk (k :: ks) (v :: vs) (e :: es)
end
end

/-- What may change between two states of memory. -/
structure Ext (F : Nat → Nat → Prop) (w : World) (μ : Nat → Option Loc) (F' : Nat → Nat → Prop) (w' : World) (μ' : Nat → Option Loc) : Prop where
  mu : ∀ id L, μ id = some L → μ' id = some L
  fr : ∀ b o, F b o → F' b o
  cell : ∀ b o V, F b o → w.cell? ⟨b, o, none⟩ = some V → w'.cell? ⟨b, o, none⟩ = some V
  obj : ∀ b es c, F b 0 → w.heap[b]? = some (.map es c) → w'.heap[b]? = some (.map es c)

theorem Ext.refl (F : Nat → Nat → Prop) (w : World) (μ : Nat → Option Loc) : Ext F w μ F w μ := ⟨fun _ _ h => h, fun _ _ h => h, fun _ _ _ _ h => h, fun _ _ _ _ h => h⟩
theorem Ext.trans {F F1 F2 : Nat → Nat → Prop} {w w1 w2 : World} {μ μ1 μ2 : Nat → Option Loc} (h : Ext F w μ F1 w1 μ1) (k : Ext F1 w1 μ1 F2 w2 μ2) : Ext F w μ F2 w2 μ2 :=
  ⟨fun id L e => k.mu _ _ (h.mu _ _ e), fun b o e => k.fr _ _ (h.fr _ _ e), fun b o V f e => k.cell _ _ _ (h.fr _ _ f) (h.cell _ _ _ f e), fun b es c f e => k.obj _ _ _ (h.fr _ _ f) (h.obj _ _ _ f e)⟩

section
variable {F F' : Nat → Nat → Prop} {w w' : World} {μ μ' : Nat → Option Loc}
mutual
theorem VR.mono (x : Ext F w μ F' w' μ') {v : AV} {V : Value} : VR F w μ v V → VR F' w' μ' v V
  | .junk V => .junk V
  | .bool b => .bool b
  | .int k n => .int k n
  | .str s hb => .str s hb
  | .nilptr => .nilptr
  | .ptr id off L h => .ptr id off L (x.mu _ _ h)
  | .vptr cs b o h => .vptr cs b o (VRm.mono x h)
  | .sl id off len wd cap L h hc hl hb => .sl id off len wd cap L (x.mu _ _ h) hc hl hb
  | .vsl wd e es A cap hx hl hb h => .vsl wd e es A cap hx hl hb (VRa.mono x h)
  | .nilmap => .nilmap
  | .map id L h => .map id L (x.mu _ _ h)
  | .vmap ks vs r es clock hF hr hb h => .vmap ks vs r es clock (x.fr _ _ hF) (x.obj _ _ _ hF hr) hb (VRk.mono x h)
  | .func fn fs cs Fs Cs hf hc => .func fn fs cs Fs Cs (VRs.mono x hf) (VRs.mono x hc)
  | .nilfunc => .nilfunc
  | .iface t v V h => .iface t v V (VR.mono x h)
  | .nilif => .nilif
  | .agg l A h => .agg l A (VRs.mono x h)
  | .tup l A h => .tup l A (VRs.mono x h)
  | .yld id L h => .yld id L (x.mu _ _ h)
theorem VRs.mono (x : Ext F w μ F' w' μ') {vs : List AV} {Vs : List Value} : VRs F w μ vs Vs → VRs F' w' μ' vs Vs
  | .nil => .nil
  | .cons v V vs Vs h t => .cons v V vs Vs (VR.mono x h) (VRs.mono x t)
theorem VRm.mono (x : Ext F w μ F' w' μ') {vs : List AV} {b o : Nat} : VRm F w μ vs b o → VRm F' w' μ' vs b o
  | .nil b o => .nil b o
  | .cons v V vs b o hF hc h t => .cons v V vs b o (x.fr _ _ hF) (x.cell _ _ _ hF hc) (VR.mono x h) (VRm.mono x t)
theorem VRe.mono (x : Ext F w μ F' w' μ') {vs : List AV} {size b o : Nat} : VRe F w μ vs size b o → VRe F' w' μ' vs size b o
  | .nil s b o => .nil s b o
  | .cons v vs s b o hs h t => .cons v vs s b o hs (VRm.mono x h) (VRe.mono x t)
theorem VRa.mono (x : Ext F w μ F' w' μ') {vs : List AV} {size : Nat} {A : Option Addr} : VRa F w μ vs size A → VRa F' w' μ' vs size A
  | .nil s A => .nil s A
  | .at es s b o h => .at es s b o (VRe.mono x h)
theorem VRk.mono (x : Ext F w μ F' w' μ') {ks vs : List AV} {es : List MapEntry} : VRk F w μ ks vs es → VRk F' w' μ' ks vs es
  | .nil => .nil
  | .cons k v ks vs e es hk hv t => .cons k v ks vs e es (VR.mono x hk) (VR.mono x hv) (VRk.mono x t)
end
end
end Go.Av
