/- Loads, stores, new variables: what the model does with them, over abstract values: under the conditions named; a text without a program. -/
import Derived.Test.YtmeijkidjifagaaAvC
namespace Go.Av
open Go.RowKit (Below)
set_option linter.unusedVariables false

def tsz (P : Program) (t : TypeId) : Option Nat := (P.info? t).map (·.size)
def isAggD : TypeDesc → Bool
  | .struct _ | .array _ _ => true
  | _ => false
def tag (P : Program) (t : TypeId) : Option Bool := (P.underlying t).map isAggD

section
variable {P : Program} {w0 : World} {F0 F : Nat → Nat → Prop} {μ : Nat → Option Loc} {H : List OB} {w : World}

theorem run_typeInfo {t : TypeId} {i : TypeInfo} (h : P.info? t = some i) (w : World) : (typeInfo t).run P w = .ok i w := by simp [typeInfo, h]
theorem run_sizeOf' {t n : Nat} (h : tsz P t = some n) (w : World) : (sizeOf t).run P w = .ok n w := by
  unfold tsz at h
  cases hi : P.info? t with
  | none => rw [hi] at h; cases h
  | some i => rw [hi] at h; cases h; simp [sizeOf, run_typeInfo hi]
theorem run_isAgg' {t : TypeId} {b : Bool} (h : tag P t = some b) (w : World) : (isAgg t).run P w = .ok b w := by
  unfold tag at h
  cases hi : P.underlying t with
  | none => rw [hi] at h; cases h
  | some d =>
    rw [hi] at h; simp only [Option.map_some, Option.some.injEq] at h
    simp only [isAgg, Sem.run_bind, run_underlying hi, Result.andThen]
    subst h
    cases d <;> rfl

/-- What a store takes. -/
def AV.isC : AV → Bool
  | .junk | .agg _ | .tup _ => false
  | _ => true

def oneC : Value → Bool
  | .agg _ | .tuple _ => false
  | _ => true

theorem VR.oneC {v : AV} {V : Value} (h : VR F w μ v V) (hc : v.isC = true) : oneC V = true := by
  cases h <;> first | rfl | cases hc

theorem VRs.len {vs : List AV} {Vs : List Value} (h : VRs F w μ vs Vs) : Vs.length = vs.length := by
  induction vs generalizing Vs with
  | nil => cases h; rfl
  | cons v vs ih => cases h with | cons _ V _ Vs h t => simp [ih t]

theorem VRs.get {vs : List AV} {Vs : List Value} (h : VRs F w μ vs Vs) {i : Nat} {v : AV} (hi : vs[i]? = some v) : ∃ V, Vs[i]? = some V ∧ VR F w μ v V := by
  induction vs generalizing Vs i with
  | nil => simp at hi
  | cons v0 vs ih =>
    cases h with
    | cons _ V _ Vs h t =>
      cases i with
      | zero => simp at hi; subst hi; exact ⟨V, rfl, h⟩
      | succ i => simpa using ih t (by simpa using hi)

theorem VRs.all_oneC {vs : List AV} {Vs : List Value} (h : VRs F w μ vs Vs) (hc : vs.all AV.isC = true) : ∀ V ∈ Vs, Av.oneC V = true := by
  induction vs generalizing Vs with
  | nil => cases h; simp
  | cons v vs ih =>
    cases h with
    | cons _ V _ Vs h t =>
      simp only [List.all_cons, Bool.and_eq_true] at hc
      intro V' hV'
      rcases List.mem_cons.1 hV' with rfl | hm
      · exact VR.oneC h hc.1
      · exact ih t hc.2 V' hm

theorem VRs.append {xs ys : List AV} {Xs Ys : List Value} (h : VRs F w μ xs Xs) (k : VRs F w μ ys Ys) : VRs F w μ (xs ++ ys) (Xs ++ Ys) := by
  induction xs generalizing Xs with
  | nil => cases h; exact k
  | cons v vs ih => cases h with | cons _ V _ Vs h t => exact .cons v V _ _ h (ih t)

/-- A value's cells. -/
theorem VR.cells {v : AV} {V : Value} (h : VR F w μ v V) (hj : v ≠ .junk) : VRs F w μ v.cells V.cells.toList := by
  cases h with
  | agg l A h => exact h
  | junk V => exact absurd rfl hj
  | bool b => exact .cons _ _ _ _ (.bool b) .nil
  | int k n => exact .cons _ _ _ _ (.int k n) .nil
  | str s hb => exact .cons _ _ _ _ (.str s hb) .nil
  | nilptr => exact .cons _ _ _ _ .nilptr .nil
  | ptr id off L h => exact .cons _ _ _ _ (.ptr id off L h) .nil
  | vptr cs b o h => exact .cons _ _ _ _ (.vptr cs b o h) .nil
  | sl id off len wd cap L h hc hl hb => exact .cons _ _ _ _ (.sl id off len wd cap L h hc hl hb) .nil
  | vsl wd x es A cap hx hl hb h => exact .cons _ _ _ _ (.vsl wd x es A cap hx hl hb h) .nil
  | nilmap => exact .cons _ _ _ _ .nilmap .nil
  | map id L h => exact .cons _ _ _ _ (.map id L h) .nil
  | vmap ks vs r es clock hF hr hb h => exact .cons _ _ _ _ (.vmap ks vs r es clock hF hr hb h) .nil
  | func fn fs cs Fs Cs hf hc => exact .cons _ _ _ _ (.func fn fs cs Fs Cs hf hc) .nil
  | nilfunc => exact .cons _ _ _ _ .nilfunc .nil
  | iface t v V h => exact .cons _ _ _ _ (.iface t v V h) .nil
  | nilif => exact .cons _ _ _ _ .nilif .nil
  | tup l A h => exact .cons _ _ _ _ (.tup l A h) .nil
  | yld id L h => exact .cons _ _ _ _ (.yld id L h) .nil

theorem VRm.get {cs : List AV} {b o : Nat} (h : VRm F w μ cs b o) {i : Nat} {v : AV} (hi : cs[i]? = some v) :
    F b (o + i) ∧ ∃ V, w.cell? ⟨b, o + i, none⟩ = some V ∧ VR F w μ v V := by
  induction cs generalizing o i with
  | nil => simp at hi
  | cons v0 vs ih =>
    cases h with
    | cons _ V _ _ _ hF hc h t =>
      cases i with
      | zero => simp at hi; subst hi; exact ⟨hF, V, hc, h⟩
      | succ i =>
        have := ih t (by simpa using hi)
        rw [show o + (i + 1) = o + 1 + i from by omega]; exact this

theorem VRm.of {cs : List AV} {b o : Nat} (h : ∀ i v, cs[i]? = some v → F b (o + i) ∧ ∃ V, w.cell? ⟨b, o + i, none⟩ = some V ∧ VR F w μ v V) : VRm F w μ cs b o := by
  induction cs generalizing o with
  | nil => exact .nil _ _
  | cons v vs ih =>
    obtain ⟨hF, V, hc, hv⟩ := h 0 v rfl
    exact .cons v V vs b o hF hc hv (ih fun i v' hi => by
      have := h (i + 1) v' (by simpa using hi)
      rwa [show o + (i + 1) = o + 1 + i from by omega] at this)

theorem VRm.drop {cs : List AV} {b o : Nat} (h : VRm F w μ cs b o) (k : Nat) : VRm F w μ (cs.drop k) b (o + k) :=
  .of fun i v hi => by
    rw [List.getElem?_drop] at hi
    have := h.get hi
    rwa [show o + (k + i) = o + k + i from by omega] at this

theorem VRe.get {es : List AV} {size b o : Nat} (h : VRe F w μ es size b o) {i : Nat} {v : AV} (hi : es[i]? = some v) :
    v.cells.length = size ∧ VRm F w μ v.cells b (o + i * size) := by
  induction es generalizing o i with
  | nil => simp at hi
  | cons v0 vs ih =>
    cases h with
    | cons _ _ _ _ _ hs h t =>
      cases i with
      | zero => simp at hi; subst hi; exact ⟨hs, by simpa using h⟩
      | succ i =>
        have := ih t (by simpa using hi)
        rw [show o + (i + 1) * size = o + size + i * size from by rw [Nat.add_mul]; omega]; exact this

theorem VRe.of {es : List AV} {size b o : Nat} (h : ∀ i v, es[i]? = some v → v.cells.length = size ∧ VRm F w μ v.cells b (o + i * size)) : VRe F w μ es size b o := by
  induction es generalizing o with
  | nil => exact .nil _ _ _
  | cons v vs ih =>
    obtain ⟨hs, hm⟩ := h 0 v rfl
    refine .cons v vs size b o hs (by simpa using hm) (ih fun i v' hi => ?_)
    have := h (i + 1) v' (by simpa using hi)
    rwa [show o + (i + 1) * size = o + size + i * size from by rw [Nat.add_mul]; omega] at this

/-- Cells as values. -/
theorem cells_read {cs : List AV} {g : Nat → Option Value} (h : ∀ i v, cs[i]? = some v → ∃ V, g i = some V ∧ VR F w μ v V) :
    ∃ Vs : List Value, VRs F w μ cs Vs ∧ ∀ j V, Vs[j]? = some V → g j = some V := by
  induction cs generalizing g with
  | nil => exact ⟨[], .nil, by simp⟩
  | cons v vs ih =>
    obtain ⟨V, hg, hv⟩ := h 0 v rfl
    obtain ⟨Vs, h1, h2⟩ := ih (g := fun i => g (i + 1)) fun i v' hi => h (i + 1) v' (by simpa using hi)
    refine ⟨V :: Vs, .cons v V vs Vs hv h1, ?_⟩
    intro j V' hj
    cases j with
    | zero => simp at hj; subst hj; exact hg
    | succ j => exact h2 j V' (by simpa using hj)

theorem add_plain (b o j : Nat) : (⟨b, o, none⟩ : Addr).add j = ⟨b, o + j, none⟩ := by unfold Addr.add; split <;> simp_all

/-- What a load tells. -/
def ldA (sz : Nat) (ag : Bool) (cs : List AV) (off : Nat) : Option AV :=
  if ag then (if off + sz ≤ cs.length then some (.agg ((cs.drop off).take sz)) else none) else cs[off]?

theorem run_loadVar {t sz : Nat} {ag : Bool} (hs : tsz P t = some sz) (ha : tag P t = some ag) {cs : List AV} {off b o : Nat} {v : AV} (hv : ldA sz ag cs off = some v)
    (h : ∀ i v, cs[i]? = some v → ∃ V, w.cell? ⟨b, o + i, none⟩ = some V ∧ VR F w μ v V) :
    ∃ V, (loadVar t ⟨b, o + off, none⟩).run P w = .ok V w ∧ VR F w μ v V := by
  unfold ldA at hv
  cases ag with
  | false =>
    simp only [Bool.false_eq_true, if_false] at hv
    obtain ⟨V, h1, h2⟩ := h off v hv
    exact ⟨V, by simp [loadVar, run_isAgg' ha, h1], h2⟩
  | true =>
    simp only [if_true] at hv
    split at hv
    · rename_i hle
      cases hv
      obtain ⟨Vs, h1, h2⟩ := cells_read (F := F) (w := w) (μ := μ) (cs := (cs.drop off).take sz) (g := fun i => w.cell? ⟨b, o + off + i, none⟩) (fun i v hi => by
        rw [List.getElem?_take] at hi
        split at hi
        · rw [List.getElem?_drop] at hi
          obtain ⟨V, h3, h4⟩ := h _ _ hi
          exact ⟨V, by rw [show o + off + i = o + (off + i) from by omega]; exact h3, h4⟩
        · cases hi)
      have hlen : Vs.length = sz := by rw [VRs.len h1]; simp; omega
      have hl := run_loadCells_list (P := P) w ⟨b, o + off, none⟩ Vs (fun j V hj => by rw [add_plain]; exact h2 j V hj)
      rw [hlen] at hl
      exact ⟨.agg Vs.toArray, by simp [loadVar, run_isAgg' ha, run_sizeOf' hs, hl], .agg _ _ (by simpa using h1)⟩
    · cases hv

/-- Cells with others from a place on. -/
def updA : Array Value → Nat → List Value → Array Value
  | c, _, [] => c
  | c, k, V :: Vs => updA (c.setIfInBounds k V) (k + 1) Vs

theorem updA_size (c : Array Value) (k : Nat) (Vs : List Value) : (updA c k Vs).size = c.size := by
  induction Vs generalizing c k with
  | nil => rfl
  | cons V Vs ih => simp [updA, ih]

theorem updA_get (Vs : List Value) : ∀ (c : Array Value) (k : Nat), k + Vs.length ≤ c.size → ∀ j, (updA c k Vs)[j]? = if k ≤ j ∧ j < k + Vs.length then Vs[j - k]? else c[j]? := by
  induction Vs with
  | nil => intro c k h j; simp [updA]; intro h1 h2; omega
  | cons V Vs ih =>
    intro c k h j
    simp only [List.length_cons] at h
    rw [updA, ih _ _ (by rw [Array.size_setIfInBounds]; omega) j, Array.getElem?_setIfInBounds]
    by_cases e : j = k
    · subst e
      rw [if_neg (by omega), if_pos rfl, if_pos (by omega), if_pos (by simp), Nat.sub_self]; rfl
    · by_cases e2 : k + 1 ≤ j ∧ j < k + 1 + Vs.length
      · rw [if_pos e2, if_pos (by simp; omega), show j - k = (j - (k + 1)) + 1 from by omega]; rfl
      · rw [if_neg e2, if_neg (by omega), if_neg (by simp; omega)]

theorem setCell_heap (w : World) (b o : Nat) (V : Value) (c : Array Value) (el : TypeId) (fz : Nat × Nat) (h : w.heap[b]? = some (.cells c el fz)) :
    w.setCell ⟨b, o, none⟩ V = { w with heap := w.heap.setIfInBounds b (.cells (c.setIfInBounds o V) el fz) } := by
  have hb : b < w.heap.size := (Array.getElem?_eq_some_iff.1 h).1
  have hx : w.heap[b] = .cells c el fz := (Array.getElem?_eq_some_iff.1 h).2
  unfold World.setCell
  congr 1
  apply Array.ext_getElem?
  intro j
  rw [Array.getElem?_modify, Array.getElem?_setIfInBounds]
  split
  · rename_i e
    subst e
    simp [hb, hx]
  · rfl

theorem run_store1 (w : World) (b o : Nat) (V : Value) (c : Array Value) (el : TypeId) (fz : Nat × Nat) (h : w.heap[b]? = some (.cells c el fz)) (hV : oneC V = true) (ho : o < c.size)
    (hf : ¬ (fz.1 ≤ o ∧ o < fz.2)) : (store ⟨b, o, none⟩ V).run P w = .ok () { w with heap := w.heap.setIfInBounds b (.cells (c.setIfInBounds o V) el fz) } := by
  have hc : w.cell? ⟨b, o, none⟩ = some c[o] := by rw [cell_eq w b o c el fz h]; simp [ho]
  have hfr : w.frozen? ⟨b, o, none⟩ = false := by
    obtain ⟨lo, hi⟩ := fz
    simp only [World.frozen?, h]
    simp only [Bool.and_eq_false_iff, decide_eq_false_iff_not]
    rcases Nat.lt_or_ge o lo with h1 | h1
    · exact .inl (by omega)
    · exact .inr (fun h2 => hf ⟨h1, h2⟩)
  rw [← setCell_heap w b o V c el fz h]
  unfold store
  cases V <;> first | (cases hV; done) | (simp only [Sem.run, hc, hfr, Bool.false_eq_true, if_false])

theorem run_storeCells (b o : Nat) (el : TypeId) (fz : Nat × Nat) : ∀ (Vs : List Value) (i : Nat) (w : World) (c : Array Value), w.heap[b]? = some (.cells c el fz) → (∀ V ∈ Vs, oneC V = true) →
    o + i + Vs.length ≤ c.size → (∀ k, o + i ≤ k → k < o + i + Vs.length → ¬ (fz.1 ≤ k ∧ k < fz.2)) →
    (storeCells ⟨b, o, none⟩ Vs i).run P w = .ok () { w with heap := w.heap.setIfInBounds b (.cells (updA c (o + i) Vs) el fz) }
  | [], i, w, c, h, h1, h2, h3 => by
    simp only [storeCells, Sem.run_pure, updA]
    congr 1
    have hb : b < w.heap.size := (Array.getElem?_eq_some_iff.1 h).1
    have hx : w.heap[b] = .cells c el fz := (Array.getElem?_eq_some_iff.1 h).2
    have : w.heap.setIfInBounds b (.cells c el fz) = w.heap := by
      apply Array.ext_getElem?
      intro j
      rw [Array.getElem?_setIfInBounds]
      split
      · rename_i e; subst e; simp [hb, hx]
      · rfl
    rw [this]
  | V :: Vs, i, w, c, h, h1, h2, h3 => by
    simp only [List.length_cons] at h2 h3
    have hb : b < w.heap.size := (Array.getElem?_eq_some_iff.1 h).1
    have e1 := run_store1 (P := P) w b (o + i) V c el fz h (h1 V (by simp)) (by omega) (h3 (o + i) (by omega) (by omega))
    have ih := run_storeCells b o el fz Vs (i + 1) { w with heap := w.heap.setIfInBounds b (.cells (c.setIfInBounds (o + i) V) el fz) } (c.setIfInBounds (o + i) V)
      (by show (w.heap.setIfInBounds b _)[b]? = _; rw [Array.getElem?_setIfInBounds, if_pos rfl, if_pos hb])
      (fun V' hV' => h1 V' (by simp [hV'])) (by rw [Array.size_setIfInBounds]; omega) (fun k hk hk' => h3 k (by omega) (by omega))
    simp only [storeCells, Sem.run_bind, add_plain, e1, Result.andThen, ih, updA]
    congr 1
    rw [show o + i + 1 = o + (i + 1) from by omega]
    congr 1
    apply Array.ext_getElem?
    intro j
    simp only [Array.getElem?_setIfInBounds, Array.size_setIfInBounds]
    split <;> simp_all

/-- The abstract twin of 'updA'. -/
def setC : List AV → Nat → List AV → List AV
  | cs, _, [] => cs
  | cs, k, v :: vs => setC (cs.set k v) (k + 1) vs

theorem setC_length (vs : List AV) : ∀ (cs : List AV) (k : Nat), (setC cs k vs).length = cs.length := by
  induction vs with
  | nil => intro cs k; rfl
  | cons v vs ih => intro cs k; simp [setC, ih]

theorem setC_get (vs : List AV) : ∀ (cs : List AV) (k : Nat), k + vs.length ≤ cs.length → ∀ j, (setC cs k vs)[j]? = if k ≤ j ∧ j < k + vs.length then vs[j - k]? else cs[j]? := by
  induction vs with
  | nil => intro c k h j; simp [setC]; intro h1 h2; omega
  | cons V Vs ih =>
    intro c k h j
    simp only [List.length_cons] at h
    rw [setC, ih _ _ (by rw [List.length_set]; omega) j, List.getElem?_set]
    by_cases e : j = k
    · subst e
      rw [if_neg (by omega), if_pos rfl, if_pos (by omega), if_pos (by simp), Nat.sub_self]; rfl
    · by_cases e2 : k + 1 ≤ j ∧ j < k + 1 + Vs.length
      · rw [if_pos e2, if_pos (by simp; omega), show j - k = (j - (k + 1)) + 1 from by omega]; rfl
      · rw [if_neg e2, if_neg (by omega), if_neg (by simp; omega)]

/-- Values into cells that are still written. -/
theorem Sim.store (s : Sim w0 F0 F μ H w) {id off : Nat} {cs vs : List AV} {opn : Bool} {Vs : List Value} (hid : H[id]? = some (.cells cs opn)) (hvs : VRs F w μ vs Vs) (hc : vs.all AV.isC = true)
    (hle : off + vs.length ≤ cs.length) {L : Loc} (hμ : μ id = some L) :
    ∃ w', (storeCells ⟨L.block, L.off + off, none⟩ Vs).run P w = .ok () w' ∧ Ext F w μ F w' μ ∧ Sim w0 F0 F μ (H.set id (.cells (setC cs off vs) opn)) w' := by
  have hob := s.obs id _ hid
  cases hob with
  | cells _ _ L' c el lo hi hμ' hB hw hcap hlen hfix hun hcs hF =>
    rw [hμ] at hμ'; cases hμ'
    have hl := VRs.len hvs
    have hsz : L.off + off + Vs.length ≤ c.size := by omega
    have hr := run_storeCells (P := P) L.block (L.off + off) el (lo, hi) Vs 0 w c hw (VRs.all_oneC hvs hc) (by omega) (fun k h1 h2 => hun k (by omega) (by omega))
    simp only [Nat.add_zero] at hr
    have hw' := s.write id _ (.cells (setC cs off vs) opn) L hid rfl hμ (.cells (updA c (L.off + off) Vs) el (lo, hi)) (fun x => by
      have hb : L.block < w.heap.size := (Array.getElem?_eq_some_iff.1 hw).1
      refine .cells _ _ L (updA c (L.off + off) Vs) el lo hi hμ hB (by show (w.heap.setIfInBounds L.block _)[L.block]? = _; rw [Array.getElem?_setIfInBounds, if_pos rfl, if_pos hb]) (by rw [updA_size]; exact hcap)
        (by rw [setC_length]; exact hlen) (by rw [setC_length]; exact hfix) hun ?_ hF
      intro i v hi
      rw [setC_get _ _ _ hle] at hi
      rw [updA_get _ _ _ hsz]
      split at hi
      · rename_i h12
        rw [if_pos (by omega)]
        obtain ⟨V, h5, h6⟩ := VRs.get hvs hi
        exact ⟨V, by rw [show L.off + i - (L.off + off) = i - off from by omega]; exact h5, VR.mono x h6⟩
      · rename_i h12
        rw [if_neg (by omega)]
        obtain ⟨V, h5, h6⟩ := hcs i v hi
        exact ⟨V, h5, VR.mono x h6⟩)
    exact ⟨_, hr, hw'⟩

/-- A new variable. -/
theorem Sim.newCells (s : Sim w0 F0 F μ H w) {vs : List AV} {Vs : List Value} (hvs : VRs F w μ vs Vs) (el : TypeId) :
    ∃ μ', Ext F w μ F { w with heap := w.heap.push (.cells Vs.toArray el) } μ' ∧ μ' H.length = some ⟨w.heap.size, 0, vs.length⟩ ∧
      Sim w0 F0 F μ' (H ++ [.cells vs false]) { w with heap := w.heap.push (.cells Vs.toArray el) } := by
  refine s.alloc (.cells Vs.toArray el) (.cells vs false) ⟨w.heap.size, 0, vs.length⟩ rfl ?_
  intro μ' x hμ' hF
  have hl := VRs.len hvs
  refine .cells _ _ ⟨w.heap.size, 0, vs.length⟩ Vs.toArray el 0 0 hμ' s.below.size (by rw [push_get, if_pos rfl]) (by simp; omega) (Nat.le_refl _) (fun _ => rfl) (fun o _ _ h => by omega) ?_ hF
  intro i v hi
  obtain ⟨V, h1, h2⟩ := VRs.get hvs hi
  exact ⟨V, by simpa using h1, VR.mono x h2⟩
end
end Go.Av
