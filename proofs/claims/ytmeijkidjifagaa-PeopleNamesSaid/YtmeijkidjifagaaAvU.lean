/- A function called where nothing is written: what it hands back, its one block ahead: under the conditions named; a text without a program. -/
import Derived.Test.YtmeijkidjifagaaAvT
namespace Go.Av
open Go.RowKit (Below)
set_option linter.unusedVariables false

/-- What a function hands back: no memory that is written, or one slice of it. -/
def retO (P : Program) (rs : List ResultVar) (S : Out → List OB → Prop) : Ex → St → Prop
  | .normal, a | .ret, a => ∃ a', endA a = some a' ∧ ((∃ v, resA P rs a' = some v ∧ AV.hf v = true ∧ S (.ret v) []) ∨
      (∃ d off len wd cs opn, resA P rs a' = some (.sl d off len wd) ∧ a'.H[d]? = some (.cells cs opn) ∧ AV.hfs cs = true ∧ S (.ret (.sl 0 off len wd)) [.cells cs opn]))
  | _, _ => False

section
variable {P : Program} {w0 : World} {F0 F F' : Nat → Nat → Prop} {μ μ' : Nat → Option Loc} {H H' : List OB} {w w' : World} {n m : Nat} {R : Option Nat} {a : St} {act : Act} {Q : Ex → St → Prop}

theorem Sim.none (s : Sim w0 F0 F μ H w) : Sim w0 F0 F noμ [] w :=
  ⟨s.below, s.new, s.old, s.lt, fun id b h => by simp at h, fun i j bi bj Li Lj h => by simp at h, fun id L h => by cases h⟩

theorem VRs.hf_any {l : List AV} {L : List Value} (h : VRs F w μ l L) (hh : AV.hfs l = true) : VRs F w μ' l L :=
  VRs.mono (F := F) (w := w) (μ := noμ) ⟨(fun _ _ h => by cases h), (fun _ _ h => h), (fun _ _ _ _ h => h), (fun _ _ _ _ h => h)⟩ (h.hf_no hh)
theorem VR.hf_any {v : AV} {V : Value} (h : VR F w μ v V) (hh : AV.hf v = true) : VR F w μ' v V :=
  VR.mono (F := F) (w := w) (μ := noμ) ⟨(fun _ _ h => by cases h), (fun _ _ h => h), (fun _ _ _ _ h => h), (fun _ _ _ _ h => h)⟩ (h.hf_no hh)

theorem Sim.lone (s : Sim w0 F0 F μ H w) {d : Nat} {cs : List AV} {opn : Bool} (hd : H[d]? = some (.cells cs opn)) (hh : AV.hfs cs = true) : Sim w0 F0 F (fun i => if i = 0 then μ d else Option.none) [.cells cs opn] w := by
  refine ⟨s.below, s.new, s.old, s.lt, ?_, ?_, ?_⟩
  · intro id b h
    cases id with
    | succ id => simp at h
    | zero =>
      simp at h; subst h
      have hob := s.obs d _ hd
      cases hob with
      | cells _ _ L c el lo hi hμ hB hw hcap hlen hfix hun hcs hF =>
        refine .cells cs opn L c el lo hi (by simpa using hμ) hB hw hcap hlen hfix hun (fun i v hi => ?_) hF
        obtain ⟨V, h1, h2⟩ := hcs i v hi
        rw [hfs_all] at hh
        exact ⟨V, h1, h2.hf_any (List.all_eq_true.1 hh v (List.mem_of_getElem? hi))⟩
  · intro i j bi bj Li Lj hi hj _ _ _ _ hij
    cases i with
    | succ i => simp at hi
    | zero =>
      cases j with
      | succ j => simp at hj
      | zero => exact (hij rfl).elim
  · intro id L h
    by_cases e : id = 0
    · subst e; simp
    · simp [e] at h

theorem ShFnS.of0 {S : Out → List OB → Prop} {f : FuncId} {fn : Func} {c : Code} {args : List AV} (hf : P.funcs[f]? = some fn) (hb : fn.body = some c) (hc : ∀ Vs w, (callFunc f Vs).run P w = .ok (.enter f Vs) w) (hn : args.length ≤ fn.ntmps)
    (h : W P fn.ntmps 0 none c (retO P fn.results.toList S) ⟨argT 0 args, [], []⟩) : ShFnS P f args [] S := by
  intro w0 F0 F μ w Vs s0 hv
  refine .inl ⟨w, hc _ _, rfl, (callsIn_wide (n := 1)).1 (callsIn_of_wp_marks hf hb trivial ?_ rfl)⟩
  refine wpIn_mono (h ⟨w0, F0, w, F, μ, s0.dom⟩ _ w ⟨F, μ, s0, Ext.refl _ _ _, RelT.start hv hn⟩) ?_
  rintro e act' w' ⟨ex, a', F', μ', hq, hx, s, y, t⟩
  have hno : ∀ {w''} μ'', Ext F w μ F' w'' μ' → Ext F w μ F' w'' μ'' := fun μ'' x =>
    ⟨fun id L hL => by have := s0.dom id L hL; simp at this, x.fr, x.cell, x.obj⟩
  have hret : (∃ a1, endA a' = some a1 ∧ ((∃ v, resA P fn.results.toList a1 = some v ∧ AV.hf v = true ∧ S (.ret v) []) ∨
      (∃ d off len wd cs opn, resA P fn.results.toList a1 = some (.sl d off len wd) ∧ a1.H[d]? = some (.cells cs opn) ∧ AV.hfs cs = true ∧ S (.ret (.sl 0 off len wd)) [.cells cs opn]))) →
      LeavesInM Fence.wide 1 P fn act'.tmps (fun e w' => ∃ out H' F' μ', S out H' ∧ Ext F w μ F' w' μ' ∧ Sim w0 F0 F' μ' H' w' ∧ OutR F' w' μ' out e) act'.defers .returning w' := by
    rintro ⟨a1, h1, hq⟩
    refine endA_ok (by simp) s t h1 fun w'' x s'' t'' => ?_
    rcases hq with ⟨v, h2, h3, h4⟩ | ⟨d, off, len, wd, cs, opn, h2, h3, h4, h5⟩
    · obtain ⟨V, h6, h7⟩ := results_ok (P := P) (act := { act' with defers := [] }) s'' t'' h2
      exact ⟨V, h6, _, _, F', noμ, h4, hno _ (y.trans x), s''.none, .ret v V (h7.hf_any h3)⟩
    · obtain ⟨V, h6, h7⟩ := results_ok (P := P) (act := { act' with defers := [] }) s'' t'' h2
      refine ⟨V, h6, _, _, F', _, h5, hno _ (y.trans x), s''.lone h3 h4, .ret _ V ?_⟩
      cases h7 with
      | sl _ _ _ _ cap L hμ hcc hl hbb => exact .sl 0 off len wd cap L (by simpa using hμ) hcc hl hbb
  cases hx with
  | normal => exact hret hq
  | ret => exact hret hq
  | exit id => exact hq.elim
  | goto l => exact hq.elim
  | panic tt v V hV => exact hq.elim
theorem ShFnS.ofX {S : Out → List OB → Prop} {f : FuncId} {fn : Func} {c : Code} {args : List AV} (hf : P.funcs[f]? = some fn) (hb : fn.body = some c) (hc : ∀ Vs w, (callFunc f Vs).run P w = .ok (.enter f Vs) w) (hn : args.length ≤ fn.ntmps)
    (h : W P fn.ntmps H.length none c (fun ex a => ∃ out H', S out H' ∧ retX P fn.results.toList out H' ex a) ⟨argT 0 args, H, []⟩) : ShFnS P f args H S := by
  intro w0 F0 F μ w Vs s0 hv
  refine .inl ⟨w, hc _ _, rfl, (callsIn_wide (n := 1)).1 (callsIn_of_wp_marks hf hb trivial ?_ rfl)⟩
  refine wpIn_mono (h ⟨w0, F0, w, F, μ, s0.dom⟩ _ w ⟨F, μ, s0, Ext.refl _ _ _, RelT.start hv hn⟩) ?_
  rintro e act' w' ⟨ex, a', F', μ', ⟨out, H', hS, hq⟩, hx, s, y, t⟩
  have hret : (∃ a1, endA a' = some a1 ∧ a1.H = H' ∧ ∃ r, resA P fn.results.toList a1 = some r ∧ out = .ret r) → LeavesInM Fence.wide 1 P fn act'.tmps (fun e w' => ∃ out H' F' μ', S out H' ∧ Ext F w μ F' w' μ' ∧ Sim w0 F0 F' μ' H' w' ∧ OutR F' w' μ' out e) act'.defers .returning w' := by
    rintro ⟨a1, h1, rfl, r, h2, rfl⟩
    refine endA_ok (by simp) s t h1 fun w'' x s'' t'' => ?_
    obtain ⟨V, h5, h6⟩ := results_ok (P := P) (act := { act' with defers := [] }) s'' t'' h2
    exact ⟨V, h5, _, _, F', μ', hS, y.trans x, s'', .ret r V h6⟩
  cases hx with
  | normal => exact hret hq
  | ret => exact hret hq
  | exit id => exact hq.elim
  | goto l => exact hq.elim
  | panic tt v V hV =>
    obtain ⟨a1, h1, rfl, rfl⟩ := hq
    refine endA_ok (by simp) s t h1 fun w'' x s'' t'' => ?_
    exact ⟨_, _, F', μ', hS, y.trans x, s'', .pan tt v V (VR.mono x hV)⟩


theorem nodup_lt : ∀ (n : Nat) (s : List Nat), s.Nodup → (∀ j ∈ s, j < n) → s.length ≤ n := by
  intro n
  induction n with
  | zero =>
    intro s _ h
    cases s with
    | nil => simp
    | cons x s => have := h x (by simp); omega
  | succ n ih =>
    intro s hs h
    have h1 := ih (s.erase n) (hs.erase n) (fun j hj => by
      have := (hs.mem_erase_iff).1 hj
      have := h j this.2
      omega)
    rw [List.length_erase] at h1
    split at h1 <;> omega

theorem fz_sl0 {id off len k : Nat} {cs : List AV} {opn : Bool} (h : H[id]? = some (.cells cs opn)) (hl : off + len ≤ cs.length) (hh : AV.hfs ((cs.drop off).take len) = true) (ho : ((cs.drop off).take len).all AV.one = true) :
    fz H (k + 1) (.sl id off len 0) = some (.vsl 0 false ((cs.drop off).take len)) := by
  unfold fz
  rw [if_neg (by simp [AV.hf])]
  simp only [h, esz, Nat.mul_one]
  rw [if_pos hl, if_pos hh]
  simp only [Option.bind_some]
  rw [if_pos ho]
end
end Go.Av
