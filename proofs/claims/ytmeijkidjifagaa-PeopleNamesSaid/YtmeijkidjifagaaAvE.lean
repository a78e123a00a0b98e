/- What operations tell, over abstract values, and that the model does so: under the conditions that the evaluator asks; a text without a program. -/
import Derived.Test.YtmeijkidjifagaaAvD
import Derived.Lib.IndexBytes
namespace Go.Av
open Go.RowKit (Below)
set_option linter.unusedVariables false

/-- A zero value. -/
def zeroA (P : Program) (t : TypeId) : Option AV :=
  match (P.info? t).bind (·.zero) with
  | some (.agg cs) => some (.agg (cs.toList.map ofV))
  | some v => some (ofV v)
  | none => none

def esA (P : Program) (t : TypeId) : Option Nat :=
  match tag P t, tsz P t with
  | some true, some n => some (n + 1)
  | some false, some 1 => some 0
  | _, _ => none

/-- A field's place: where, how many cells. -/
def fldA (P : Program) (t : TypeId) (f : Nat) : Option (Nat × Nat × TypeId) :=
  match P.underlying t with
  | some (.struct fs) => match fs[f]? with
    | some f => (tsz P f.type).map fun n => (f.offset, n, f.type)
    | none => none
  | _ => none

/-- Whatever the run of s comes to, it is this value over this memory. -/
def DoesV (P : Program) (s : Sem Value) (w0 : World) (F0 F : Nat → Nat → Prop) (μ : Nat → Option Loc) (w : World) (v : AV) (H' : List OB) : Prop :=
  ∃ V w' F' μ', s.run P w = .ok V w' ∧ Ext F w μ F' w' μ' ∧ Sim w0 F0 F' μ' H' w' ∧ VR F' w' μ' v V

section
variable {P : Program} {w0 : World} {F0 F : Nat → Nat → Prop} {μ : Nat → Option Loc} {H : List OB} {w : World}

theorem DoesV.pure_ (s : Sim w0 F0 F μ H w) {x : Sem Value} {V : Value} {v : AV} (h : x.run P w = .ok V w) (hv : VR F w μ v V) : DoesV P x w0 F0 F μ w v H :=
  ⟨V, w, F, μ, h, Ext.refl _ _ _, s, hv⟩

theorem VR.ofV (v : Value) : VR F w μ (ofV v) v := by
  have : RelT 0 F μ ⟨[], [], []⟩ ⟨#[], []⟩ w := ⟨.nil, rfl, fun t => .junk _⟩
  exact this.ev (.const v)

theorem VRs.ofV (l : List Value) : VRs F w μ (l.map ofV) l := by
  induction l with
  | nil => exact .nil
  | cons v l ih => exact .cons _ _ _ _ (VR.ofV v) ih

theorem ofV_cells (v : Value) : (ofV v).cells = [ofV v] := by
  cases v with
  | string s => simp only [ofV]; split <;> rfl
  | pointer p => cases p <;> rfl
  | slice p l c => cases p with
    | none => simp only [ofV]; split <;> rfl
    | some p => rfl
  | map p => cases p <;> rfl
  | func fn f c => simp only [ofV]; split <;> rfl
  | _ => rfl

theorem zero_run {t : TypeId} {z : AV} (h : zeroA P t = some z) (w : World) : ∃ V, (zeroValue t).run P w = .ok V w ∧ VR F w μ z V ∧ VRs F w μ z.cells V.cells.toList := by
  unfold zeroA at h
  cases hi : P.info? t with
  | none => rw [hi] at h; cases h
  | some i =>
    rw [hi] at h
    simp only [Option.bind_some] at h
    have hr : ∀ V, i.zero = some V → (zeroValue t).run P w = .ok V w := fun V hz => by simp [zeroValue, run_typeInfo hi, hz]
    cases hz : i.zero with
    | none => rw [hz] at h; cases h
    | some V =>
      rw [hz] at h
      refine ⟨V, hr V hz, ?_⟩
      have key : ∀ V : Value, V.cells = #[V] → VR F w μ (ofV V) V ∧ VRs F w μ (ofV V).cells V.cells.toList := by
        intro V hV
        rw [ofV_cells, hV]
        exact ⟨VR.ofV V, .cons _ _ _ _ (VR.ofV V) .nil⟩
      cases V <;> simp only [Option.some.injEq] at h <;> subst h
      case agg cs => exact ⟨.agg _ _ (VRs.ofV _), VRs.ofV _⟩
      all_goals exact key _ rfl

/-! ### Loads and stores -/

def evLoad (P : Program) (t : TypeId) (x : AV) (H : List OB) : Option AV :=
  match tsz P t, tag P t with
  | some sz, some ag => match x with
    | .ptr id off => match H[id]? with
      | some (.cells cs _) => ldA sz ag cs off
      | _ => none
    | .vptr cs => ldA sz ag cs 0
    | _ => none
  | _, _ => none

theorem evLoad_ok (s : Sim w0 F0 F μ H w) {t : TypeId} {x v : AV} {X : Value} (hx : VR F w μ x X) (h : evLoad P t x H = some v) : DoesV P (Instr.loadAt t X) w0 F0 F μ w v H := by
  unfold evLoad at h
  split at h
  · rename_i sz ag hs ha
    split at h
    · rename_i id off
      split at h
      · rename_i cs opn hid
        cases hx with
        | ptr _ _ L hμ =>
          cases s.obs id _ hid with
          | cells _ _ L' c el lo hi hμ' hB hw hcap hlen hfix hun hcs hF =>
            rw [hμ] at hμ'; cases hμ'
            obtain ⟨V, h1, h2⟩ := run_loadVar (P := P) (F := F) (w := w) (μ := μ) hs ha (b := L.block) (o := L.off) h (fun i v hiv => by
              obtain ⟨V, h3, h4⟩ := hcs i v hiv
              exact ⟨V, by rw [cell_eq w _ _ c el (lo, hi) hw]; exact h3, h4⟩)
            exact .pure_ s (by simp [Instr.loadAt, Instr.sureAddr, h1]) h2
      · cases h
    · rename_i cs
      cases hx with
      | vptr _ b o hm =>
        obtain ⟨V, h1, h2⟩ := run_loadVar (P := P) (F := F) (w := w) (μ := μ) hs ha (b := b) (o := o) h (fun i v hi => (hm.get hi).2)
        exact .pure_ s (by simp [Instr.loadAt, Instr.sureAddr]; simpa using h1) h2
    · cases h
  · cases h

def evStore (P : Program) (t : TypeId) (x v : AV) (H : List OB) : Option (List OB) :=
  match tsz P t, x with
  | some sz, .ptr id off => match H[id]? with
    | some (.cells cs opn) => if v.cells.length = sz ∧ off + sz ≤ cs.length ∧ v.cells.all AV.isC = true then some (H.set id (.cells (setC cs off v.cells) opn)) else none
    | _ => none
  | _, _ => none

theorem ne_junk {v : AV} (h : v.cells.all AV.isC = true) : v ≠ .junk := by rintro rfl; simp [AV.cells, AV.isC] at h

theorem evStore_ok (s : Sim w0 F0 F μ H w) {t : TypeId} {x v : AV} {X V : Value} {H' : List OB} (hx : VR F w μ x X) (hv : VR F w μ v V) (h : evStore P t x v H = some H') :
    ∃ w', (Instr.storeAt t X V).run P w = .ok () w' ∧ Ext F w μ F w' μ ∧ Sim w0 F0 F μ H' w' := by
  unfold evStore at h
  split at h
  · rename_i sz id off hs
    split at h
    · rename_i cs opn hid
      split at h
      · rename_i hh
        obtain ⟨h1, h2, h3⟩ := hh
        cases h
        cases hx with
        | ptr _ _ L hμ =>
          have hc := VR.cells hv (ne_junk h3)
          obtain ⟨w', h4, h5, h6⟩ := s.store (P := P) (off := off) hid hc h3 (by omega) hμ
          have hl := VRs.len hc
          rw [Array.length_toList] at hl
          refine ⟨w', ?_, h5, h6⟩
          simp only [Instr.storeAt, Instr.sureAddr, Sem.run_bind, Sem.run_pure, Result.andThen, storeVar, run_sizeOf' hs]
          rw [if_neg (by omega)]
          exact h4
      · cases h
    · cases h
  · cases h

/-! ### New variables -/

def evNew (v : AV) (H : List OB) : Option (AV × List OB) :=
  match v with
  | .junk => none
  | v => some (.ptr H.length 0, H ++ [.cells v.cells false])

theorem newVar_ok (s : Sim w0 F0 F μ H w) {cs : List AV} {V : Value} {t : TypeId} (hv : VRs F w μ cs V.cells.toList) :
    DoesV P (do pure (.pointer (some (← newVar t V)))) w0 F0 F μ w (.ptr H.length 0) (H ++ [.cells cs false]) := by
  obtain ⟨μ', h1, h2, h3⟩ := s.newCells hv t
  refine ⟨.pointer (some ⟨w.heap.size, 0, none⟩), _, F, μ', ?_, h1, h3, ?_⟩
  · simp [newVar, newRow]
  · have := VR.ptr (F := F) (w := { w with heap := w.heap.push (.cells V.cells.toList.toArray t) }) (μ := μ') H.length 0 ⟨w.heap.size, 0, cs.length⟩ h2
    simpa using this

/-! ### Addresses -/

def evFieldAddr (P : Program) (t : TypeId) (x : AV) (f : Nat) : Option AV :=
  match fldA P t f with
  | some (o, n, _) => if n = 0 then none else match x with
    | .ptr id off => some (.ptr id (off + o))
    | .vptr cs => some (.vptr (cs.drop o))
    | _ => none
  | none => none

theorem fldA_get {t : TypeId} {f o n : Nat} {ft : TypeId} (h : fldA P t f = some (o, n, ft)) : ∃ fs fl, P.underlying t = some (.struct fs) ∧ fs[f]? = some fl ∧ fl.offset = o ∧ tsz P fl.type = some n ∧ fl.type = ft := by
  unfold fldA at h
  split at h
  · rename_i fs hu
    split at h
    · rename_i fl hf
      cases hn : tsz P fl.type with
      | none => rw [hn] at h; cases h
      | some m => rw [hn] at h; simp at h; exact ⟨fs, fl, hu, hf, h.1, by rw [hn, h.2.1], h.2.2⟩
    · cases h
  · cases h

theorem evFieldAddr_ok (s : Sim w0 F0 F μ H w) {t : TypeId} {x v : AV} {X : Value} {f : Nat} (hx : VR F w μ x X) (h : evFieldAddr P t x f = some v) : DoesV P (Instr.fieldAt t X f) w0 F0 F μ w v H := by
  unfold evFieldAddr at h
  split at h
  · rename_i o n ft hf
    obtain ⟨fs, fl, h1, h2, h3, h4, h5⟩ := fldA_get hf
    split at h
    · cases h
    · rename_i hn
      have hr : ∀ b i, (Instr.fieldAt t (.pointer (some ⟨b, i, none⟩)) f).run P w = .ok (.pointer (some ⟨b, i + o, none⟩)) w := by
        intro b i
        simp only [Instr.fieldAt, Sem.run_bind, run_underlying h1, Result.andThen, h2, Instr.sureAddr, Sem.run_pure, fieldPlace, run_sizeOf' h4, if_neg hn, add_plain, h3]
      split at h
      · cases h
        cases hx with
        | ptr id off L hμ => exact .pure_ s (hr _ _) (by rw [Nat.add_assoc]; exact .ptr _ _ L hμ)
      · cases h
        cases hx with
        | vptr cs b i hm => exact .pure_ s (hr _ _) (.vptr _ _ _ (hm.drop _))
      · cases h
  · cases h

/-- An index. -/
def idx : AV → Option Nat
  | .int _ i => if 0 ≤ i then some i.toNat else none
  | _ => none

def evIndexAddr (P : Program) (t : TypeId) (x i : AV) (H : List OB) : Option AV :=
  match idx i, P.underlying t with
  | some i, some (.slice e) => match tsz P e, x with
    | some n, .sl id off len wd => if i < len then some (.ptr id (off + i * n)) else none
    | some n, .vsl _ _ es => match es[i]? with
      | some v => if v.cells.length = n then some (.vptr v.cells) else none
      | none => none
    | _, _ => none
  | some i, some (.array len e) => match tsz P e, x with
    | some n, .ptr id off => if i < len then some (.ptr id (off + i * n)) else none
    | some n, .vptr cs => if i < len then some (.vptr (cs.drop (i * n))) else none
    | _, _ => none
  | _, _ => none

theorem idx_get {i : AV} {I : Value} {k : Nat} (hi : VR F w μ i I) (h : idx i = some k) : ∃ kd, I = .int kd (k : Int) := by
  unfold idx at h
  split at h
  · rename_i kd n
    split at h
    · rename_i hn
      cases h
      cases hi
      exact ⟨kd, by rw [Int.toNat_of_nonneg hn]⟩
    · cases h
  · cases h

theorem evIndexAddr_ok (s : Sim w0 F0 F μ H w) {t : TypeId} {x i v : AV} {X I : Value} (hx : VR F w μ x X) (hi : VR F w μ i I) (h : evIndexAddr P t x i H = some v) :
    DoesV P (Instr.indexAt t X I) w0 F0 F μ w v H := by
  unfold evIndexAddr at h
  split at h
  · rename_i k e hk hu
    obtain ⟨kd, rfl⟩ := idx_get hi hk
    have hr : ∀ b o len cap n, tsz P e = some n → k < len → (Instr.indexAt t (.slice (some ⟨b, o, none⟩) len cap) (.int kd (k : Int))).run P w = .ok (.pointer (some ⟨b, o + k * n, none⟩)) w := by
      intro b o len cap n hn hlt
      simp [Instr.indexAt, asIntOf, run_underlying hu, run_sizeOf' hn, hlt, add_plain]
    split at h
    · rename_i n id off len wd hn
      split at h
      · rename_i hlt
        cases h
        cases hx with
        | sl _ _ _ _ cap L hμ hc hl hb => exact .pure_ s (hr _ _ _ _ n hn hlt) (by rw [Nat.add_assoc]; exact .ptr _ _ L hμ)
      · cases h
    · rename_i n wd xx es hn
      split at h
      · rename_i v' hv'
        split at h
        · rename_i hlen
          cases h
          have hlt : k < es.length := (List.getElem?_eq_some_iff.1 hv').1
          cases hx with
          | vsl _ _ _ A cap hxx hl hb ha =>
            generalize hz : esz wd = size at ha
            cases ha with
            | nil _ A => simp at hlt
            | «at» _ _ b o he =>
              obtain ⟨h1, h2⟩ := he.get hv'
              rw [hlen] at h1; subst h1
              exact .pure_ s (hr _ _ _ _ n hn hlt) (.vptr _ _ _ h2)
        · cases h
      · cases h
    · cases h
  · rename_i k len e hk hu
    obtain ⟨kd, rfl⟩ := idx_get hi hk
    have hr : ∀ b o n, tsz P e = some n → k < len → (Instr.indexAt t (.pointer (some ⟨b, o, none⟩)) (.int kd (k : Int))).run P w = .ok (.pointer (some ⟨b, o + k * n, none⟩)) w := by
      intro b o n hn hlt
      simp [Instr.indexAt, asIntOf, run_underlying hu, run_sizeOf' hn, hlt, add_plain, Instr.sureAddr]
    split at h
    · rename_i n id off hn
      split at h
      · rename_i hlt
        cases h
        cases hx with
        | ptr _ _ L hμ => exact .pure_ s (hr _ _ n hn hlt) (by rw [Nat.add_assoc]; exact .ptr _ _ L hμ)
      · cases h
    · rename_i n cs hn
      split at h
      · rename_i hlt
        cases h
        cases hx with
        | vptr _ b o hm => exact .pure_ s (hr _ _ n hn hlt) (.vptr _ _ _ (hm.drop _))
      · cases h
    · cases h
  · cases h

/-- A part of cells. -/
def evPart (P : Program) (t : TypeId) (cs : List AV) (off : Nat) : Option AV :=
  match tsz P t, tag P t with
  | some sz, some ag => ldA sz ag cs off
  | _, _ => none

theorem VRs.take {vs : List AV} {Vs : List Value} (h : VRs F w μ vs Vs) (k : Nat) : VRs F w μ (vs.take k) (Vs.take k) := by
  induction vs generalizing Vs k with
  | nil => cases h; simp; exact .nil
  | cons v vs ih =>
    cases h with
    | cons _ V _ Vs h t => cases k with
      | zero => exact .nil
      | succ k => exact .cons _ _ _ _ h (ih t k)
theorem VRs.drop {vs : List AV} {Vs : List Value} (h : VRs F w μ vs Vs) (k : Nat) : VRs F w μ (vs.drop k) (Vs.drop k) := by
  induction vs generalizing Vs k with
  | nil => cases h; simp; exact .nil
  | cons v vs ih =>
    cases h with
    | cons _ V _ Vs h t => cases k with
      | zero => exact .cons _ _ _ _ h t
      | succ k => exact ih t k

theorem evPart_ok {t : TypeId} {cs : List AV} {A : Array Value} {off : Nat} {v : AV} (hc : VRs F w μ cs A.toList) (h : evPart P t cs off = some v) : ∃ V, (part t A off).run P w = .ok V w ∧ VR F w μ v V := by
  unfold evPart at h
  split at h
  · rename_i sz ag hs ha
    unfold ldA at h
    cases ag with
    | false =>
      simp only [Bool.false_eq_true, if_false] at h
      obtain ⟨V, h1, h2⟩ := hc.get h
      rw [Array.getElem?_toList] at h1
      exact ⟨V, by simp [part, run_isAgg' ha, h1], h2⟩
    | true =>
      simp only [if_true] at h
      split at h
      · rename_i hle
        cases h
        refine ⟨.agg (A.extract off (off + sz)), by simp [part, run_isAgg' ha, run_sizeOf' hs], .agg _ _ ?_⟩
        have := (hc.drop off).take sz
        rw [Array.toList_extract, List.extract_eq_take_drop, show off + sz - off = sz from by omega]
        exact this
      · cases h
  · cases h

def evField (P : Program) (t : TypeId) (x : AV) (f : Nat) : Option AV :=
  match fldA P t f, x with
  | some (o, _, ft), .agg cs => evPart P ft cs o
  | _, _ => none

theorem evField_ok (s : Sim w0 F0 F μ H w) {t : TypeId} {x v : AV} {X : Value} {f : Nat} (hx : VR F w μ x X) (h : evField P t x f = some v) : DoesV P (Instr.field t X f) w0 F0 F μ w v H := by
  unfold evField at h
  split at h
  · rename_i o n ft cs hf
    obtain ⟨fs, fl, h1, h2, h3, h4, h5⟩ := fldA_get hf
    cases hx with
    | agg _ A hA =>
      obtain ⟨V, h6, h7⟩ := evPart_ok (P := P) (w := w) hA h
      refine .pure_ s ?_ h7
      simp only [Instr.field, Sem.run_bind, run_underlying h1, Result.andThen, h2, asAgg, Sem.run_pure, h3, h5]
      exact h6
  · cases h

def evIndex (P : Program) (t : TypeId) (x i : AV) : Option AV :=
  match idx i, P.underlying t with
  | some i, some (.array len e) => match tsz P e, x with
    | some n, .agg cs => if i < len then evPart P e cs (i * n) else none
    | _, _ => none
  | some i, some .string => match x with
    | .str s => (s[i]?).map fun b => .int .u8 b.toNat
    | _ => none
  | _, _ => none

theorem evIndex_ok (s : Sim w0 F0 F μ H w) {t : TypeId} {x i v : AV} {X I : Value} (hx : VR F w μ x X) (hi : VR F w μ i I) (h : evIndex P t x i = some v) :
    DoesV P (Instr.index t X I) w0 F0 F μ w v H := by
  unfold evIndex at h
  split at h
  · rename_i k len e hk hu
    obtain ⟨kd, rfl⟩ := idx_get hi hk
    split at h
    · rename_i n cs hn
      split at h
      · rename_i hlt
        cases hx with
        | agg _ A hA =>
          obtain ⟨V, h6, h7⟩ := evPart_ok (P := P) (w := w) hA h
          refine .pure_ s ?_ h7
          simp [Instr.index, asIntOf, run_underlying hu, run_sizeOf' hn, hlt, h6]
      · cases h
    · cases h
  · rename_i k hk hu
    obtain ⟨kd, rfl⟩ := idx_get hi hk
    split at h
    · rename_i sb
      cases hb : sb[k]? with
      | none => rw [hb] at h; cases h
      | some b =>
        rw [hb] at h; cases h
        cases hx with
        | str _ hl =>
          have hlt := (List.getElem?_eq_some_iff.1 hb).1
          have hget := (List.getElem?_eq_some_iff.1 hb).2
          refine .pure_ s ?_ (.int _ _)
          have : (⟨sb.toArray⟩ : ByteArray)[k]? = some b := by
            have hsz : k < (⟨sb.toArray⟩ : ByteArray).size := by show k < sb.toArray.size; simpa using hlt
            rw [getElem?_pos _ k hsz]
            congr 1
          simp [Instr.index, asIntOf, run_underlying hu, this]
    · cases h
  · cases h
end
end Go.Av
