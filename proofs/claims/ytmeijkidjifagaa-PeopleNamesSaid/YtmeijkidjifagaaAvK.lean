/- What calls owe: a function of values that leaves memory as it was; what of the caller's own memory is lent to it: under the conditions named; a text without a program. -/
import Derived.Test.YtmeijkidjifagaaAvJ
namespace Go.Av
open Go.RowKit (Below)
set_option linter.unusedVariables false

/-! ### Values without handles -/

mutual
def AV.hf : AV → Bool
  | .ptr _ _ | .sl _ _ _ _ | .map _ | .yld _ => false
  | .vptr l => AV.hfs l
  | .vsl _ _ l => AV.hfs l
  | .vmap ks vs => AV.hfs ks && AV.hfs vs
  | .func _ fs cs => AV.hfs fs && AV.hfs cs
  | .iface _ v => AV.hf v
  | .agg l => AV.hfs l
  | .tup l => AV.hfs l
  | _ => true
def AV.hfs : List AV → Bool
  | [] => true
  | v :: l => AV.hf v && AV.hfs l
end

theorem hfs_all (l : List AV) : AV.hfs l = l.all AV.hf := by
  induction l with
  | nil => rfl
  | cons v l ih => simp [AV.hfs, ih]

def AV.sc1 : AV → Bool
  | .bool _ | .int _ _ | .str _ | .nilptr | .nilmap | .nilfunc | .nilif => true
  | _ => false
def AV.one : AV → Bool
  | .agg _ => false
  | _ => true

/-- Values in which nothing of memory stands. -/
def AV.scalar : AV → Bool
  | .tup l => l.all AV.sc1
  | v => v.sc1

/-! ### What an ending says -/

inductive Out where
  | ret (r : AV)
  | pan (t : TypeId) (v : AV)

inductive OutR (F : Nat → Nat → Prop) (w : World) (μ : Nat → Option Loc) : Out → Ending → Prop
  | ret (r : AV) (R : Value) (h : VR F w μ r R) : OutR F w μ (.ret r) (.returned R)
  | pan (t : TypeId) (v : AV) (V : Value) (h : VR F w μ v V) : OutR F w μ (.pan t v) (.panicked [{ v := .iface t V, recovered := false }])

def noμ : Nat → Option Loc := fun _ => none

/-- What is known behind a call of a function of values. -/
def Post (F : Nat → Nat → Prop) (w : World) (out : Out) (e : Ending) (w' : World) : Prop :=
  Below w.heap.size w w' ∧ ∃ F', (∀ b o, F b o → F' b o) ∧ (∀ b o, F' b o → b < w'.heap.size) ∧ (∀ b o, b < w.heap.size → F' b o → F b o) ∧ OutR F' w' noμ out e

/-- The function is called so: it has a body (or the model answers for it). -/
def CallsA (P : Program) (f : FuncId) (Vs : Array Value) (w : World) (R : Ending → World → Prop) : Prop :=
  (∃ w1, (callFunc f Vs).run P w = .ok (.enter f Vs) w1 ∧ w1 = w ∧ Calls P f Vs w R) ∨ (∃ V w1, (callFunc f Vs).run P w = .ok (.value V) w1 ∧ R (.returned V) w1)

theorem CallsA.mono {P : Program} {f : FuncId} {Vs : Array Value} {w : World} {R R' : Ending → World → Prop} (h : CallsA P f Vs w R) (hr : ∀ e w', R e w' → R' e w') : CallsA P f Vs w R' := by
  rcases h with ⟨w1, h1, h2, h3⟩ | ⟨V, w1, h1, h2⟩
  · exact .inl ⟨w1, h1, h2, h3.mono hr⟩
  · exact .inr ⟨V, w1, h1, hr _ _ h2⟩

/-- A function of values: called with these, it ends so, and memory that was there stays as it was. -/
def PureFn (P : Program) (f : FuncId) (args : List AV) (out : Out) : Prop :=
  ∀ (F : Nat → Nat → Prop) (w : World) (Vs : List Value), (∀ b o, F b o → b < w.heap.size) → VRs F w noμ args Vs → CallsA P f Vs.toArray w (Post F w out)

/-- A function that writes memory of the caller's. -/
def ShFn (P : Program) (f : FuncId) (args : List AV) (H : List OB) (out : Out) (H' : List OB) : Prop :=
  ∀ (w0 : World) (F0 F : Nat → Nat → Prop) (μ : Nat → Option Loc) (w : World) (Vs : List Value), Sim w0 F0 F μ H w → VRs F w μ args Vs →
    CallsA P f Vs.toArray w (fun e w' => ∃ F' μ', Ext F w μ F' w' μ' ∧ Sim w0 F0 F' μ' H' w' ∧ OutR F' w' μ' out e)

section
variable {P : Program} {w0 : World} {F0 F F' : Nat → Nat → Prop} {μ : Nat → Option Loc} {H : List OB} {w w' : World}

mutual
theorem VR.hf_no {v : AV} {V : Value} : VR F w μ v V → AV.hf v = true → VR F w noμ v V
  | .junk V, _ => .junk V
  | .bool b, _ => .bool b
  | .int k n, _ => .int k n
  | .str s hb, _ => .str s hb
  | .nilptr, _ => .nilptr
  | .ptr id off L h, hh => by simp [AV.hf] at hh
  | .vptr cs b o h, hh => .vptr cs b o (VRm.hf_no h (by simpa [AV.hf] using hh))
  | .sl id off len wd cap L h hc hl hb, hh => by simp [AV.hf] at hh
  | .vsl wd e es A cap hx hl hb h, hh => .vsl wd e es A cap hx hl hb (VRa.hf_no h (by simpa [AV.hf] using hh))
  | .nilmap, _ => .nilmap
  | .map id L h, hh => by simp [AV.hf] at hh
  | .vmap ks vs r es clock hF hr hb h, hh => .vmap ks vs r es clock hF hr hb (VRk.hf_no h (by simp [AV.hf] at hh; exact hh.1) (by simp [AV.hf] at hh; exact hh.2))
  | .func fn fs cs Fs Cs hf hc, hh => .func fn fs cs Fs Cs (VRs.hf_no hf (by simp [AV.hf] at hh; exact hh.1)) (VRs.hf_no hc (by simp [AV.hf] at hh; exact hh.2))
  | .nilfunc, _ => .nilfunc
  | .iface t v V h, hh => .iface t v V (VR.hf_no h (by simpa [AV.hf] using hh))
  | .nilif, _ => .nilif
  | .agg l A h, hh => .agg l A (VRs.hf_no h (by simpa [AV.hf] using hh))
  | .tup l A h, hh => .tup l A (VRs.hf_no h (by simpa [AV.hf] using hh))
  | .yld id L h, hh => by simp [AV.hf] at hh
theorem VRs.hf_no {vs : List AV} {Vs : List Value} : VRs F w μ vs Vs → AV.hfs vs = true → VRs F w noμ vs Vs
  | .nil, _ => .nil
  | .cons v V vs Vs h t, hh => .cons v V vs Vs (VR.hf_no h (by simp [AV.hfs] at hh; exact hh.1)) (VRs.hf_no t (by simp [AV.hfs] at hh; exact hh.2))
theorem VRm.hf_no {vs : List AV} {b o : Nat} : VRm F w μ vs b o → AV.hfs vs = true → VRm F w noμ vs b o
  | .nil b o, _ => .nil b o
  | .cons v V vs b o hF hc h t, hh => .cons v V vs b o hF hc (VR.hf_no h (by simp [AV.hfs] at hh; exact hh.1)) (VRm.hf_no t (by simp [AV.hfs] at hh; exact hh.2))
theorem VRe.hf_no {vs : List AV} {size b o : Nat} : VRe F w μ vs size b o → AV.hfs vs = true → VRe F w noμ vs size b o
  | .nil s b o, _ => .nil s b o
  | .cons v vs s b o hs h t, hh => .cons v vs s b o hs (VRm.hf_no h (by
      simp [AV.hfs] at hh
      have h1 := hh.1
      cases v <;> simp_all [AV.cells, AV.hfs, AV.hf])) (VRe.hf_no t (by simp [AV.hfs] at hh; exact hh.2))
theorem VRa.hf_no {vs : List AV} {size : Nat} {A : Option Addr} : VRa F w μ vs size A → AV.hfs vs = true → VRa F w noμ vs size A
  | .nil s A, _ => .nil s A
  | .at es s b o h, hh => .at es s b o (VRe.hf_no h hh)
theorem VRk.hf_no {ks vs : List AV} {es : List MapEntry} : VRk F w μ ks vs es → AV.hfs ks = true → AV.hfs vs = true → VRk F w noμ ks vs es
  | .nil, _, _ => .nil
  | .cons k v ks vs e es hk hv t, h1, h2 => .cons k v ks vs e es (VR.hf_no hk (by simp [AV.hfs] at h1; exact h1.1)) (VR.hf_no hv (by simp [AV.hfs] at h2; exact h2.1)) (VRk.hf_no t (by simp [AV.hfs] at h1; exact h1.2) (by simp [AV.hfs] at h2; exact h2.2))
end

theorem VR.scalar1 {F F' : Nat → Nat → Prop} {w w' : World} {μ μ' : Nat → Option Loc} {v : AV} {V : Value} (h : VR F w μ v V) (hs : v.sc1 = true) : VR F' w' μ' v V := by
  cases h <;> first
    | (simp [AV.sc1] at hs; done)
    | exact .bool _
    | exact .int _ _
    | exact .str _ ‹_›
    | exact .nilptr
    | exact .nilmap
    | exact .nilfunc
    | exact .nilif

theorem VRs.scalars {F F' : Nat → Nat → Prop} {w w' : World} {μ μ' : Nat → Option Loc} {l : List AV} {L : List Value} (h : VRs F w μ l L) (hs : l.all AV.sc1 = true) : VRs F' w' μ' l L := by
  induction l generalizing L with
  | nil => cases h; exact .nil
  | cons v l ih =>
    cases h with
    | cons _ V _ L h t =>
      simp only [List.all_cons, Bool.and_eq_true] at hs
      exact .cons _ _ _ _ (VR.scalar1 h hs.1) (ih t hs.2)

theorem VR.of_scalar {F F' : Nat → Nat → Prop} {w w' : World} {μ μ' : Nat → Option Loc} {v : AV} {V : Value} (h : VR F w μ v V) (hs : v.scalar = true) : VR F' w' μ' v V := by
  cases v with
  | tup l => cases h with | tup l A h => exact .tup l A (VRs.scalars h hs)
  | _ => exact VR.scalar1 h hs

/-! ### Memory of one's own, lent or left as it is -/

/-- All cells of what is still written. -/
def lent (F : Nat → Nat → Prop) (μ : Nat → Option Loc) (H : List OB) : Nat → Nat → Prop :=
  fun b o => F b o ∨ ∃ id blk L, H[id]? = some blk ∧ blk.live = true ∧ μ id = some L ∧ L.block = b

theorem lent_ext : Ext F w μ (lent F μ H) w μ := ⟨fun _ _ h => h, fun _ _ h => .inl h, fun _ _ _ _ h => h, fun _ _ _ _ h => h⟩

def chunkA (n : Nat) : Nat → List AV → List AV
  | 0, _ => []
  | k + 1, l => .agg (l.take n) :: chunkA n k (l.drop n)

/-- A value with its memory as it stands: fuel, what is written. -/
def fz (H : List OB) : Nat → AV → Option AV
  | 0, _ => none
  | k + 1, v => if v.hf then some v else
    let fzs (l : List AV) : Option (List AV) := if AV.hfs l then some l else l.mapM (fz H k)
    match v with
    | .ptr id off => match H[id]? with
      | some (.cells cs _) => if off ≤ cs.length then (fzs (cs.drop off)).map .vptr else none
      | _ => none
    | .sl id off len wd => match H[id]? with
      | some (.cells cs _) => if off + len * esz wd ≤ cs.length then
          (fzs ((cs.drop off).take (len * esz wd))).bind fun l => match wd with | 0 => if l.all AV.one = true then some (.vsl 0 false l) else none | n + 1 => some (.vsl (n + 1) false (chunkA n len l))
        else none
      | _ => none
    | .map id => match H[id]? with
      | some (.map ks vs) => match fzs ks, fzs vs with
        | some ks, some vs => some (.vmap ks vs)
        | _, _ => none
      | _ => none
    | .func fn fs cs => match fzs fs, fzs cs with
      | some fs, some cs => some (.func fn fs cs)
      | _, _ => none
    | .iface t v => (fz H k v).map (.iface t)
    | .agg l => (fzs l).map .agg
    | .tup l => (fzs l).map .tup
    | _ => none

theorem mapM_get {f : AV → Option AV} : ∀ {l l' : List AV}, l.mapM f = some l' → l'.length = l.length ∧ ∀ (i : Nat) (v : AV), l[i]? = some v → ∃ v', l'[i]? = some v' ∧ f v = some v' := by
  intro l
  induction l with
  | nil => intro l' h; simp at h; subst h; exact ⟨rfl, by simp⟩
  | cons a l ih =>
    intro l' h
    simp only [List.mapM_cons] at h
    cases ha : f a with
    | none => rw [ha] at h; cases h
    | some b =>
      rw [ha] at h
      cases hl : l.mapM f with
      | none => rw [hl] at h; cases h
      | some bs =>
        rw [hl] at h; cases h
        obtain ⟨h1, h2⟩ := ih hl
        refine ⟨by simp [h1], ?_⟩
        intro i v hi
        cases i with
        | zero => simp at hi; subst hi; exact ⟨b, rfl, ha⟩
        | succ i => simpa using h2 i v (by simpa using hi)

theorem VRs.of_get {G : Nat → Nat → Prop} {u : World} {ν : Nat → Option Loc} {l : List AV} {L : List Value} (hl : L.length = l.length) (h : ∀ (i : Nat) (v : AV), l[i]? = some v → ∃ V, L[i]? = some V ∧ VR G u ν v V) : VRs G u ν l L := by
  induction l generalizing L with
  | nil => have : L = [] := by simpa using hl
           subst this; exact .nil
  | cons v l ih =>
    cases L with
    | nil => simp at hl
    | cons V L =>
      obtain ⟨V', h1, h2⟩ := h 0 v rfl
      simp at h1; subst h1
      exact .cons _ _ _ _ h2 (ih (by simpa using hl) fun i v hi => by simpa using h (i + 1) v (by simpa using hi))

theorem VRk.of_get {G : Nat → Nat → Prop} {u : World} {ν : Nat → Option Loc} : ∀ {ks vs : List AV} {es : List MapEntry}, es.length = ks.length → vs.length = ks.length →
    (∀ (i : Nat) (k : AV), ks[i]? = some k → ∃ e, es[i]? = some e ∧ VR G u ν k e.key) → (∀ (i : Nat) (v : AV), vs[i]? = some v → ∃ e, es[i]? = some e ∧ VR G u ν v e.val) → VRk G u ν ks vs es := by
  intro ks
  induction ks with
  | nil => intro vs es h1 h2 _ _
           have : es = [] := by simpa using h1
           have : vs = [] := by simpa using h2
           subst_vars; exact .nil
  | cons k ks ih =>
    intro vs es h1 h2 h3 h4
    cases es with
    | nil => simp at h1
    | cons e es =>
      cases vs with
      | nil => simp at h2
      | cons v vs =>
        obtain ⟨e1, h5, h6⟩ := h3 0 k rfl
        obtain ⟨e2, h7, h8⟩ := h4 0 v rfl
        simp at h5 h7; subst h5; subst h7
        exact .cons k v ks vs e es h6 h8 (ih (by simpa using h1) (by simpa using h2) (fun i k hi => by simpa using h3 (i + 1) k (by simpa using hi)) (fun i v hi => by simpa using h4 (i + 1) v (by simpa using hi)))

theorem VRk.get {ks vs : List AV} {es : List MapEntry} (h : VRk F w μ ks vs es) :
    (∀ (i : Nat) (k : AV), ks[i]? = some k → ∃ e, es[i]? = some e ∧ VR F w μ k e.key) ∧ (∀ (i : Nat) (v : AV), vs[i]? = some v → ∃ e, es[i]? = some e ∧ VR F w μ v e.val) := by
  induction ks generalizing vs es with
  | nil => cases h; exact ⟨by simp, by simp⟩
  | cons k ks ih =>
    cases h with
    | cons _ v _ vs e es hk hv t =>
      obtain ⟨h1, h2⟩ := ih t
      refine ⟨fun i k' hi => ?_, fun i v' hi => ?_⟩
      · cases i with
        | zero => simp at hi; subst hi; exact ⟨e, rfl, hk⟩
        | succ i => simpa using h1 i k' (by simpa using hi)
      · cases i with
        | zero => simp at hi; subst hi; exact ⟨e, rfl, hv⟩
        | succ i => simpa using h2 i v' (by simpa using hi)

theorem chunk_VRe {G : Nat → Nat → Prop} {u : World} {ν : Nat → Option Loc} (n : Nat) : ∀ (k : Nat) (l : List AV) (b o : Nat), l.length = k * n → VRm G u ν l b o → VRe G u ν (chunkA n k l) n b o := by
  intro k
  induction k with
  | zero => intro l b o _ _; exact .nil _ _ _
  | succ k ih =>
    intro l b o hl h
    have hle : n ≤ l.length := by rw [hl, Nat.add_mul]; omega
    refine .cons _ _ n b o (by simp [AV.cells]; omega) ?_ (ih _ _ _ (by rw [List.length_drop, hl, Nat.add_mul]; omega) (h.drop n))
    refine .of fun i v hi => ?_
    have hi' : (l.take n)[i]? = some v := hi
    rw [List.getElem?_take] at hi'
    split at hi'
    · exact h.get hi'
    · cases hi'

theorem VRe.ones {G : Nat → Nat → Prop} {u : World} {ν : Nat → Option Loc} {l : List AV} {b o : Nat} (h : VRm G u ν l b o) (hc : ∀ v ∈ l, v.cells = [v]) : VRe G u ν l 1 b o :=
  .of fun i v hi => by
    have := hc v (List.mem_of_getElem? hi)
    rw [this]
    obtain ⟨hF, V, h1, h2⟩ := h.get hi
    rw [Nat.mul_one]
    exact ⟨rfl, .cons v V [] b (o + i) hF h1 h2 (.nil _ _)⟩

theorem chunkA_length (n k : Nat) (l : List AV) : (chunkA n k l).length = k := by
  induction k generalizing l with
  | zero => rfl
  | succ k ih => simp [chunkA, ih]

theorem one_cells {v : AV} (h : v.one = true) : v.cells = [v] := by cases v <;> first | rfl | cases h

theorem fz_ok (s : Sim w0 F0 F μ H w) : ∀ (k : Nat) (v v' : AV) (V : Value), fz H k v = some v' → VR F w μ v V → VR (lent F μ H) w noμ v' V := by
  intro k
  induction k with
  | zero => intro v v' V h; simp [fz] at h
  | succ k ih =>
    intro v v' V h hv
    unfold fz at h
    split at h
    · rename_i hh
      cases h
      exact (VR.mono lent_ext hv).hf_no hh
    · rename_i hh
      simp only at h
      have key : ∀ (l l' : List AV), (if AV.hfs l = true then some l else l.mapM (fz H k)) = some l' → l'.length = l.length ∧ ∀ (i : Nat) (v : AV), l[i]? = some v → ∃ v', l'[i]? = some v' ∧ ∀ V, VR F w μ v V → VR (lent F μ H) w noμ v' V := by
        intro l l' hl
        split at hl
        · rename_i hf
          cases hl
          refine ⟨rfl, fun i v hi => ⟨v, hi, fun V hV => (VR.mono lent_ext hV).hf_no ?_⟩⟩
          rw [hfs_all] at hf
          exact List.all_eq_true.1 hf v (List.mem_of_getElem? hi)
        · obtain ⟨h1, h2⟩ := mapM_get hl
          refine ⟨h1, fun i v hi => ?_⟩
          obtain ⟨v', h3, h4⟩ := h2 i v hi
          exact ⟨v', h3, fun V hV => ih v v' V h4 hV⟩
      have keyR : ∀ (l l' : List AV), (if AV.hfs l = true then some l else l.mapM (fz H k)) = some l' → l'.length = l.length ∧ ∀ (i : Nat) (v' : AV), l'[i]? = some v' → ∃ v, l[i]? = some v ∧ ∀ V, VR F w μ v V → VR (lent F μ H) w noμ v' V := by
        intro l l' hl
        obtain ⟨h1, h2⟩ := key l l' hl
        refine ⟨h1, fun i v' hi => ?_⟩
        have hlt : i < l.length := by rw [← h1]; exact (List.getElem?_eq_some_iff.1 hi).1
        obtain ⟨v'', h3, h4⟩ := h2 i l[i] (List.getElem?_eq_getElem hlt)
        rw [hi] at h3; cases h3
        exact ⟨l[i], List.getElem?_eq_getElem hlt, h4⟩
      have keyS : ∀ (l l' : List AV) (L : List Value), (if AV.hfs l = true then some l else l.mapM (fz H k)) = some l' → VRs F w μ l L → VRs (lent F μ H) w noμ l' L := by
        intro l l' L hl hL
        obtain ⟨h1, h2⟩ := keyR l l' hl
        refine .of_get (by rw [h1, VRs.len hL]) fun i v' hi => ?_
        obtain ⟨v, h3, h4⟩ := h2 i v' hi
        obtain ⟨V, h5, h6⟩ := hL.get h3
        exact ⟨V, h5, h4 V h6⟩
      have keyM : ∀ (id off : Nat) (cs l l' : List AV) (opn : Bool) (L : Loc), H[id]? = some (.cells cs opn) → μ id = some L → (∀ (i : Nat) (v : AV), l[i]? = some v → cs[off + i]? = some v) →
          (if AV.hfs l = true then some l else l.mapM (fz H k)) = some l' → VRm (lent F μ H) w noμ l' L.block (L.off + off) := by
        intro id off cs l l' opn L hid hμ hsub hl
        obtain ⟨h1, h2⟩ := keyR l l' hl
        refine .of fun i v' hi => ?_
        obtain ⟨v, h3, h4⟩ := h2 i v' hi
        refine ⟨.inr ⟨id, _, L, hid, rfl, hμ, rfl⟩, ?_⟩
        cases s.obs id _ hid with
        | cells _ _ L' c el lo hi' hμ' hB hw hcap hlen hfix hun hcs hF =>
          rw [hμ] at hμ'; cases hμ'
          obtain ⟨V, h5, h6⟩ := hcs _ v (hsub i v h3)
          exact ⟨V, by rw [cell_eq w _ _ c el (lo, hi') hw, Nat.add_assoc]; exact h5, h4 V h6⟩
      split at h
      · rename_i id off
        split at h
        · rename_i cs opn hid
          split at h
          case isFalse => cases h
          rename_i hle
          rw [Option.map_eq_some_iff] at h
          obtain ⟨l', hl, rfl⟩ := h
          cases hv with
          | ptr _ _ L hμ => exact .vptr _ _ _ (keyM id off cs _ l' opn L hid hμ (fun i v hi => by rw [List.getElem?_drop] at hi; exact hi) hl)
        · cases h
      · rename_i id off len wd
        split at h
        · rename_i cs opn hid
          split at h
          case isFalse => cases h
          rename_i hle
          rw [Option.bind_eq_some_iff] at h
          obtain ⟨l', hl, h⟩ := h
          cases hv with
          | sl _ _ _ _ cap L hμ hc hcl hb =>
            have hm := keyM id off cs _ l' opn L hid hμ (fun i v hi => by
              rw [List.getElem?_take] at hi
              split at hi
              · rw [List.getElem?_drop] at hi; exact hi
              · cases hi) hl
            have hlen : l'.length = len * esz wd := by
              rw [(key _ _ hl).1, List.length_take, List.length_drop]; omega
            cases wd with
            | zero =>
              simp only at h
              split at h
              case isFalse => cases h
              rename_i hone
              cases h
              have hl1 : l'.length = len := by rw [hlen]; simp [esz]
              have := VR.vsl (F := lent F μ H) (w := w) (μ := noμ) 0 false l' (some ⟨L.block, L.off + off, none⟩) cap (fun h => by cases h) (by omega) (by omega) (.at _ _ _ _ (VRe.ones hm (fun v hv => one_cells (List.all_eq_true.1 hone v hv))))
              rw [hl1] at this; exact this
            | succ n =>
              simp only [Option.some.injEq] at h
              cases h
              have := VR.vsl (F := lent F μ H) (w := w) (μ := noμ) (n + 1) false (chunkA n len l') (some ⟨L.block, L.off + off, none⟩) cap (fun h => by cases h) (by rw [chunkA_length]; omega) (by rw [chunkA_length]; omega)
                (.at _ _ _ _ (chunk_VRe n len l' _ _ hlen hm))
              rw [chunkA_length] at this; exact this
        · cases h
      · rename_i id
        split at h
        · rename_i ks vs hid
          split at h
          · rename_i ks' vs' hks hvs
            cases h
            cases hv with
            | map _ L hμ =>
              cases s.obs id _ hid with
              | map _ _ L' es clock hμ' hB hw hes hb hF =>
                rw [hμ] at hμ'; cases hμ'
                obtain ⟨h1, h2⟩ := keyR ks ks' hks
                obtain ⟨h3, h4⟩ := keyR vs vs' hvs
                obtain ⟨h5, h6⟩ := VRk.len hes
                obtain ⟨h7, h8⟩ := VRk.get hes
                refine .vmap ks' vs' L.block es clock (.inr ⟨id, _, L, hid, rfl, hμ, rfl⟩) hw hb (.of_get (by omega) (by omega) ?_ ?_)
                · intro i k' hi
                  obtain ⟨k0, h9, h10⟩ := h2 i k' hi
                  obtain ⟨e, h11, h12⟩ := h7 i k0 h9
                  exact ⟨e, h11, h10 _ h12⟩
                · intro i v0 hi
                  obtain ⟨v1, h9, h10⟩ := h4 i v0 hi
                  obtain ⟨e, h11, h12⟩ := h8 i v1 h9
                  exact ⟨e, h11, h10 _ h12⟩
          · cases h
        · cases h
      · rename_i fn fs cs
        split at h
        · rename_i fs' cs' hfs hcs
          cases h
          cases hv with
          | func _ _ _ Fs Cs h1 h2 => exact .func fn fs' cs' Fs Cs (keyS _ _ _ hfs h1) (keyS _ _ _ hcs h2)
        · cases h
      · rename_i t v0
        rw [Option.map_eq_some_iff] at h
        obtain ⟨v1, h1, rfl⟩ := h
        cases hv with
        | iface _ _ V0 h2 => exact .iface t v1 V0 (ih _ _ _ h1 h2)
      · rename_i l
        rw [Option.map_eq_some_iff] at h
        obtain ⟨l', h1, rfl⟩ := h
        cases hv with
        | agg _ A h2 => exact .agg l' A (keyS _ _ _ h1 h2)
      · rename_i l
        rw [Option.map_eq_some_iff] at h
        obtain ⟨l', h1, rfl⟩ := h
        cases hv with
        | tup _ A h2 => exact .tup l' A (keyS _ _ _ h1 h2)
      · cases h
end
end Go.Av
