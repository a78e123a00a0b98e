/- Literals of structs and slices, make, maps, min, max, interface values, over abstract values: under the conditions that the evaluator asks; a text without a program. -/
import Derived.Test.YtmeijkidjifagaaAvH
import Derived.IntWalk
namespace Go.Av
open Go.RowKit (Below)
set_option linter.unusedVariables false

section
variable {P : Program} {w0 : World} {F0 F : Nat → Nat → Prop} {μ : Nat → Option Loc} {H : List OB} {w : World}

def AV.told : AV → Bool
  | .junk => false
  | _ => true
theorem told_ne {v : AV} (h : v.told = true) : v ≠ .junk := by rintro rfl; cases h

/-! ### Literals of structs and arrays -/

def fillA (place : Nat → Option (Nat × Nat)) (cells : List AV) : List (Nat × AV) → Option (List AV)
  | [] => some cells
  | (i, v) :: rest => match place i with
    | some (off, size) => if v.cells.length = size ∧ off + size ≤ cells.length ∧ v.told = true then fillA place (setC cells off v.cells) rest else none
    | none => none

inductive VRp (F : Nat → Nat → Prop) (w : World) (μ : Nat → Option Loc) : List (Nat × AV) → List (Nat × Value) → Prop
  | nil : VRp F w μ [] []
  | cons (i : Nat) (v : AV) (V : Value) (ps : List (Nat × AV)) (Ps : List (Nat × Value)) (h : VR F w μ v V) (t : VRp F w μ ps Ps) : VRp F w μ ((i, v) :: ps) ((i, V) :: Ps)

theorem zipIdx_upd (Vs : List Value) : ∀ (c : Array Value) (off k : Nat), (Vs.zipIdx k).foldl (fun cs (x : Value × Nat) => cs.setIfInBounds (off + x.2) x.1) c = updA c (off + k) Vs := by
  induction Vs with
  | nil => intro c off k; rfl
  | cons V Vs ih => intro c off k; simp only [List.zipIdx_cons, List.foldl_cons, ih, updA]; rw [Nat.add_assoc]

theorem VRs.upd {cs vs : List AV} {C : Array Value} {Vs : List Value} (h : VRs F w μ cs C.toList) (k : VRs F w μ vs Vs) {off : Nat} (hle : off + vs.length ≤ cs.length) :
    VRs F w μ (setC cs off vs) (updA C off Vs).toList := by
  have hl := VRs.len k
  have hc := VRs.len h
  rw [Array.length_toList] at hc
  have h1 : ∀ (i : Nat) (v : AV), (setC cs off vs)[i]? = some v → ∃ V, (updA C off Vs)[i]? = some V ∧ VR F w μ v V := by
    intro i v hi
    rw [setC_get _ _ _ hle] at hi
    rw [updA_get _ _ _ (by omega)]
    split at hi
    · rename_i h12
      rw [if_pos (by omega)]
      exact k.get hi
    · rw [if_neg (by omega)]
      obtain ⟨V, h3, h4⟩ := h.get hi
      exact ⟨V, by rw [Array.getElem?_toList] at h3; exact h3, h4⟩
  obtain ⟨Ws, h5, h6⟩ := cells_read (F := F) (w := w) (μ := μ) (g := fun i => (updA C off Vs)[i]?) h1
  have : Ws = (updA C off Vs).toList := by
    apply List.ext_getElem?
    intro i
    by_cases hi : i < Ws.length
    · have e : Ws[i]? = some Ws[i] := List.getElem?_eq_getElem hi
      rw [e, Array.getElem?_toList, h6 i _ e]
    · have hw := VRs.len h5
      rw [setC_length] at hw
      rw [List.getElem?_eq_none (by omega), List.getElem?_eq_none (by rw [Array.length_toList, updA_size]; omega)]
  rw [← this]; exact h5

theorem fill_ok {place : Nat → Option (Nat × Nat)} {ps : List (Nat × AV)} {Ps : List (Nat × Value)} (hp : VRp F w μ ps Ps) : ∀ {cs cs' : List AV} {C : Array Value}, VRs F w μ cs C.toList → fillA place cs ps = some cs' →
    ∃ C', Instr.fill place C Ps = some C' ∧ VRs F w μ cs' C'.toList := by
  induction hp with
  | nil => intro cs cs' C h hf; simp [fillA] at hf; subst hf; exact ⟨C, rfl, h⟩
  | cons i v V ps Ps hv t ih =>
    intro cs cs' C h hf
    unfold fillA at hf
    split at hf
    · rename_i off size hpl
      split at hf
      · rename_i hh
        obtain ⟨h1, h2, h3⟩ := hh
        have hc := VR.cells hv (told_ne h3)
        have hl := VRs.len hc
        have hcl := VRs.len h
        rw [Array.length_toList] at hl hcl
        obtain ⟨C', h5, h6⟩ := ih (h.upd hc (by omega)) hf
        refine ⟨C', ?_, h6⟩
        unfold Instr.fill
        simp only [hpl]
        rw [if_neg (by simp; omega)]
        have := zipIdx_upd V.cells.toList C off 0
        rw [Nat.add_zero] at this
        rw [← Array.foldl_toList, Array.toList_zipIdx]
        rw [show (List.foldl (fun cs x => match x with | (c, j) => cs.setIfInBounds (off + j) c) C V.cells.toList.zipIdx) = List.foldl (fun cs (x : Value × Nat) => cs.setIfInBounds (off + x.2) x.1) C V.cells.toList.zipIdx from rfl, this]
        exact h5
      · cases hf
    · cases hf

/-- A struct's fields: where, how many cells. -/
def fldsA (P : Program) (t : TypeId) : Option (List (Nat × Nat)) :=
  match P.underlying t with
  | some (.struct fs) => fs.toList.mapM fun f => (tsz P f.type).map fun n => (f.offset, n)
  | _ => none

theorem run_places {fs : List Field} : ∀ {ps : List (Nat × Nat)}, fs.mapM (fun f => (tsz P f.type).map fun n => (f.offset, n)) = some ps →
    (fs.mapM (fun f => do pure (f.offset, ← sizeOf f.type) : Field → Sem (Nat × Nat))).run P w = .ok ps w := by
  induction fs with
  | nil => intro ps h; simp at h; subst h; rfl
  | cons f fs ih =>
    intro ps h
    simp only [List.mapM_cons] at h
    cases hn : tsz P f.type with
    | none => rw [hn] at h; cases h
    | some n =>
      rw [hn] at h
      cases hr : fs.mapM (fun f => (tsz P f.type).map fun n => (f.offset, n)) with
      | none => rw [hr] at h; cases h
      | some rs =>
        rw [hr] at h
        cases h
        have := ih hr
        simp only [List.mapM_cons, Sem.run_bind, run_sizeOf' hn, Result.andThen, Sem.run_pure, this]

def evBuild (P : Program) (t : TypeId) (ps : List (Nat × AV)) : Option AV :=
  match zeroA P t, P.underlying t with
  | some z, some (.struct _) => match fldsA P t with
    | some fl => if z.told = true then (fillA (fl[·]?) z.cells ps).map .agg else none
    | none => none
  | some z, some (.array _ e) => match tsz P e with
    | some n => if z.told = true then (fillA (fun i => some (i * n, n)) z.cells ps).map .agg else none
    | none => none
  | _, _ => none

theorem evBuild_ok (s : Sim w0 F0 F μ H w) {t : TypeId} {ps : List (Nat × AV)} {Ps : Array (Nat × Value)} {v : AV} (hp : VRp F w μ ps Ps.toList) (h : evBuild P t ps = some v) : DoesV P (Instr.build t Ps) w0 F0 F μ w v H := by
  unfold evBuild at h
  split at h
  · rename_i z fs hz hu
    split at h
    · rename_i fl hfl
      split at h
      case isFalse => cases h
      cases hf : fillA (fl[·]?) z.cells ps with
      | none => rw [hf] at h; cases h
      | some cs =>
        rw [hf] at h; cases h
        obtain ⟨Z, h1, _, h3⟩ := zero_run (P := P) (F := F) (μ := μ) hz w
        obtain ⟨C', h4, h5⟩ := fill_ok hp h3 hf
        unfold fldsA at hfl
        rw [hu] at hfl
        have hm := run_places (P := P) (w := w) hfl
        refine .pure_ s (V := .agg C') ?_ (.agg _ _ h5)
        have harr : (fs.mapM (fun f => do pure (f.offset, ← sizeOf f.type) : Field → Sem (Nat × Nat))).run P w = .ok fl.toArray w := by
          rw [Array.mapM_eq_mapM_toList, Sem.run_map, hm]; rfl
        simp only [Instr.build, Sem.run_bind, h1, Result.andThen, run_underlying hu, harr]
        have : (fun (x : Nat) => fl.toArray[x]?) = (fun x => fl[x]?) := by funext x; simp
        simp only [this, h4, Sem.run_pure]
    · cases h
  · rename_i z n e hz hu
    split at h
    · rename_i k hk
      split at h
      case isFalse => cases h
      cases hf : fillA (fun i => some (i * k, k)) z.cells ps with
      | none => rw [hf] at h; cases h
      | some cs =>
        rw [hf] at h; cases h
        obtain ⟨Z, h1, _, h3⟩ := zero_run (P := P) (F := F) (μ := μ) hz w
        obtain ⟨C', h4, h5⟩ := fill_ok hp h3 hf
        refine .pure_ s (V := .agg C') ?_ (.agg _ _ h5)
        simp only [Instr.build, Sem.run_bind, h1, Result.andThen, run_underlying hu, run_sizeOf' hk, h4, Sem.run_pure]
    · cases h
  · cases h

/-! ### Literals of slices -/

def junks (k : Nat) : List AV := List.replicate k .junk

theorem setC_append (done vs rest : List AV) (hl : vs.length ≤ rest.length) : setC (done ++ rest) done.length vs = done ++ vs ++ rest.drop vs.length := by
  induction vs generalizing done rest with
  | nil => simp [setC]
  | cons v vs ih =>
    cases rest with
    | nil => simp at hl
    | cons r rest =>
      rw [setC]
      have h1 : (done ++ r :: rest).set done.length v = (done ++ [v]) ++ rest := by
        rw [List.set_append_right _ _ (Nat.le_refl _)]; simp
      rw [h1]
      have := ih (done ++ [v]) rest (by simpa using hl)
      rw [List.length_append, List.length_singleton] at this
      rw [this]; simp

theorem fillA_range (n : Nat) : ∀ (es done : List AV) (k : Nat), done.length = k * n → (∀ v ∈ es, v.cells.length = n ∧ v.told = true) →
    fillA (fun i => some (i * n, n)) (done ++ junks (es.length * n)) ((List.range' k es.length).zip es) = some (done ++ es.flatMap AV.cells) := by
  intro es
  induction es with
  | nil => intro done k h1 h2; simp [fillA, junks]
  | cons v es ih =>
    intro done k h1 h2
    obtain ⟨h3, h4⟩ := h2 v (by simp)
    rw [List.length_cons, List.range'_succ, List.zip_cons_cons, fillA]
    simp only
    have hjl : (junks ((es.length + 1) * n)).length = (es.length + 1) * n := by simp [junks]
    rw [if_pos ⟨h3, by rw [List.length_append, hjl, h1, Nat.add_mul]; omega, h4⟩, ← h1, setC_append _ _ _ (by simp [junks, h3, Nat.add_mul])]
    have hj : (junks ((es.length + 1) * n)).drop v.cells.length = junks (es.length * n) := by
      rw [h3]; unfold junks; rw [List.drop_replicate]; congr 1; rw [Nat.add_mul]; omega
    rw [hj, ih (done ++ v.cells) (k + 1) (by rw [List.length_append, h1, h3, Nat.add_mul]; omega) (fun u hu => h2 u (by simp [hu]))]
    simp

def evBuildSlice (P : Program) (t : TypeId) (len : Nat) (ps : List (Nat × AV)) : Option AV :=
  match P.underlying t with
  | some (.slice e) => match apT P e with
    | some (n, wd, _) => if ps.map (·.1) = List.range' 0 len ∧ len * n ≤ 16777216 ∧ (ps.all fun p => p.2.cells.length == n && p.2.told) = true then some (.vsl wd true (ps.map (·.2))) else none
    | none => none
  | _ => none

theorem zip_unzip (ps : List (Nat × AV)) : (ps.map (·.1)).zip (ps.map (·.2)) = ps := by
  induction ps with
  | nil => rfl
  | cons p ps ih => simp [ih]

theorem vr_junks (A : List Value) : VRs F w μ (junks A.length) A := by
  induction A with
  | nil => exact .nil
  | cons V A ih => exact .cons _ _ _ _ (.junk V) ih

theorem evBuildSlice_ok (s : Sim w0 F0 F μ H w) {t len : Nat} {ps : List (Nat × AV)} {Ps : Array (Nat × Value)} {v : AV} (hp : VRp F w μ ps Ps.toList) (h : evBuildSlice P t len ps = some v) :
    DoesV P (Instr.buildSlice t len Ps) w0 F0 F μ w v H := by
  unfold evBuildSlice at h
  split at h
  case h_2 => cases h
  rename_i e hu
  split at h
  case h_2 => cases h
  rename_i n wd by_ hap
  obtain ⟨z, ht⟩ := apT_get hap
  split at h
  case isFalse => cases h
  rename_i hh
  obtain ⟨h1, h2, h3⟩ := hh
  cases h
  have hlen : (ps.map (·.2)).length = len := by
    have := congrArg List.length h1
    simpa using this
  have hall : ∀ v ∈ ps.map (·.2), v.cells.length = n ∧ v.told = true := by
    intro v hv
    obtain ⟨p, hp1, rfl⟩ := List.mem_map.1 hv
    have := List.all_eq_true.1 h3 p hp1
    simpa using this
  have hz : ps = (List.range' 0 (ps.map (·.2)).length).zip (ps.map (·.2)) := by rw [hlen, ← h1]; exact (zip_unzip ps).symm
  have hfr := fillA_range n (ps.map (·.2)) [] 0 (by simp) hall
  rw [← hz, hlen] at hfr
  simp only [List.nil_append] at hfr
  obtain ⟨Z, hZ1, _, hZ3⟩ := zero_run (P := P) (F := F) (μ := μ) ht.zero w
  have hZs : Z.cells.size = n := by rw [← Array.length_toList, VRs.len hZ3]; exact ht.zlen
  -- the run
  let C0 : Array Value := (Array.range (len * n)).map fun i => (if len * n = 0 then (#[] : Array Value) else Z.cells)[i % (if len * n = 0 then (#[] : Array Value) else Z.cells).size]!
  have hC0 : C0.size = len * n := by simp [C0]
  have hj := vr_junks (F := F) (w := w) (μ := μ) C0.toList
  rw [Array.length_toList, hC0] at hj
  obtain ⟨C', h4, h5⟩ := fill_ok hp hj hfr
  have hn1 := ht.n1
  have hrun : (Instr.buildSlice t len Ps).run P w = .ok (.slice (some ⟨w.heap.size, 0, none⟩) len len) { w with heap := w.heap.push (.cells C' e) } := by
    have hsm : ¬ len * n > 2 ^ 24 := by omega
    have hsm' : ¬ 16777216 < len * n := by omega
    by_cases h0 : len * n = 0
    · have hC0' : C0 = (Array.range (len * n)).map fun i => (#[] : Array Value)[i % (#[] : Array Value).size]! := by simp [C0, h0]
      rw [hC0'] at h4
      simp only [Instr.buildSlice, Sem.run_bind, run_underlying hu, Result.andThen, run_sizeOf' ht.tsz]
      rw [if_neg hsm]
      simp only [Sem.run_bind, Sem.run_ite, Result.andThen]
      rw [if_pos h0]
      simp only [Sem.run_pure, Result.andThen, h4, Sem.run_bind, newRow, run_newObj]
    · have hC0' : C0 = (Array.range (len * n)).map fun i => Z.cells[i % Z.cells.size]! := by simp [C0, h0]
      rw [hC0'] at h4
      simp only [Instr.buildSlice, Sem.run_bind, run_underlying hu, Result.andThen, run_sizeOf' ht.tsz]
      rw [if_neg hsm]
      simp only [Sem.run_bind, Sem.run_ite, Result.andThen]
      rw [if_neg h0]
      simp only [Sem.run_bind, hZ1, Result.andThen, Sem.run_pure, h4, newRow, run_newObj]
  obtain ⟨x1, s1⟩ := s.allocF (.cells C' e)
  refine ⟨_, _, _, μ, hrun, x1, s1, ?_⟩
  have key := VR.vsl (F := fun b i => F b i ∨ b = w.heap.size) (w := { w with heap := w.heap.push (.cells C' e) }) (μ := μ) wd true (ps.map (·.2)) (some ⟨w.heap.size, 0, none⟩) len (fun _ => hlen.symm) (by omega) (by unfold maxLen'; have : len ≤ len * n := Nat.le_mul_of_pos_right _ hn1; omega) (by
    refine .at _ _ _ _ (.of fun i v hi => ?_)
    rw [← ht.nwd]
    have hmem : v ∈ ps.map (·.2) := List.mem_of_getElem? hi
    refine ⟨(hall v hmem).1, .of fun j u hj => ?_⟩
    refine ⟨.inr rfl, ?_⟩
    have hflat : ∀ (es : List AV) (i : Nat) (v : AV), (∀ v ∈ es, v.cells.length = n) → es[i]? = some v → ∀ j u, v.cells[j]? = some u → (es.flatMap AV.cells)[i * n + j]? = some u := by
      intro es
      induction es with
      | nil => intro i v _ hi; simp at hi
      | cons a es ih =>
        intro i v ha hi j u hj
        rw [List.flatMap_cons]
        cases i with
        | zero =>
          simp at hi; subst hi
          have := (List.getElem?_eq_some_iff.1 hj).1
          rw [Nat.zero_mul, Nat.zero_add, List.getElem?_append_left this]; exact hj
        | succ i =>
          rw [List.getElem?_append_right (by rw [ha a (by simp), Nat.add_mul]; omega), ha a (by simp), show (i + 1) * n + j - n = i * n + j from by rw [Nat.add_mul]; omega]
          exact ih i v (fun v hv => ha v (by simp [hv])) (by simpa using hi) j u hj
    have hf := hflat _ i v (fun v hv => (hall v hv).1) hi j u hj
    obtain ⟨V, h6, h7⟩ := h5.get hf
    rw [Array.getElem?_toList] at h6
    refine ⟨V, ?_, VR.mono x1 h7⟩
    rw [cell_eq _ _ _ C' e (0, 0) (by rw [push_get, if_pos rfl]), show 0 + i * n + j = i * n + j from by omega]
    exact h6)
  rw [hlen] at key
  exact key
end
end Go.Av
