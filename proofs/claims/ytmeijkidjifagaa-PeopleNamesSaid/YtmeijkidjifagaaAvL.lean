/- One operation after the other, over abstract values; calls by what is known of the callee: under the conditions named; a text without a program. -/
import Derived.Test.YtmeijkidjifagaaAvKa
namespace Go.Av
open Go.RowKit (Below)
set_option linter.unusedVariables false

/-- One of two. -/
def pickA (t : Bool) (x y : AV) : AV :=
  match x, y with
  | .bool p, .bool q => .bool (cond t p q)
  | x, y => if t = true then x else y

/-- A function value's name, if it is no method's. -/
def plainFn : Fn → Bool
  | .func _ => true
  | _ => false

def evNil (x : AV) : Option AV :=
  match x with
  | .ptr a b => some (.ptr a b)
  | .vptr l => some (.vptr l)
  | .func fn fs cs => if plainFn fn then some (.func fn fs cs) else none
  | _ => none

/-- Two that are held against nil. -/
def evNilEq (P : Program) (op : BinOp) (t : TypeId) (x y : AV) : Option AV :=
  match (match x, y with
    | .ptr _ _, .nilptr | .nilptr, .ptr _ _ | .vptr _, .nilptr | .nilptr, .vptr _ => some false
    | .nilptr, .nilptr => some true
    | _, _ => none : Option Bool) with
  | some b => match P.underlying t, op with
    | some (.pointer _), .eql => some (.bool b)
    | some (.pointer _), .neq => some (.bool !b)
    | _, _ => none
  | none => none

/-- An array's type, or a pointer's to one: how many of what. -/
def arrOf (P : Program) (t : TypeId) : Option (Nat × TypeId) :=
  match P.underlying t with
  | some (.array n e) => some (n, e)
  | some (.pointer arr) => match P.underlying arr with
    | some (.array n e) => some (n, e)
    | _ => none
  | _ => none

/-- All of an array as a slice. -/
def evSliceArr (P : Program) (t : TypeId) (x : AV) (H : List OB) : Option AV :=
  match arrOf P t with
  | some (n, e) => match tsz P e, esA P e, x with
    | some k, some wd, .ptr id off => match H[id]? with
      | some (.cells cs false) => if k = esz wd ∧ off + n * k = cs.length ∧ n ≤ maxLen' ∧ 0 < n then some (.sl id off n wd) else none
      | _ => none
    | some k, some 0, .vptr cs => if k = 1 ∧ n = cs.length ∧ n ≤ maxLen' ∧ 0 < n ∧ cs.all AV.one = true then some (.vsl 0 false cs) else none
    | some k, some (wd + 1), .vptr cs => if k = wd ∧ n * k = cs.length ∧ n ≤ maxLen' ∧ 0 < n then some (.vsl (wd + 1) false (chunkA k n cs)) else none
    | _, _, _ => none
  | none => none

/-- The kinds of values that are held against nil. -/
def nilKind (P : Program) (t : TypeId) : Nat :=
  match P.underlying t with
  | some (.slice _) => 1
  | some (.map _ _) => 2
  | some (.func _ _ _) => 3
  | some (.interface _) => 4
  | _ => 0

/-- A value that is held against the word nil. -/
def evNilC (P : Program) (op : BinOp) (t : TypeId) (x : AV) (y : Operand) : Option AV :=
  match (match y, x with
    | .const (.slice none _ _), .vsl _ _ (_ :: _) | .const (.slice none _ _), .sl _ _ _ _ => if nilKind P t = 1 then some false else none
    | .const (.map none), .map _ | .const (.map none), .vmap _ _ => if nilKind P t = 2 then some false else none
    | .const (.map none), .nilmap => if nilKind P t = 2 then some true else none
    | .const .nilFunc, .func _ _ _ => if nilKind P t = 3 then some false else none
    | .const .nilFunc, .nilfunc => if nilKind P t = 3 then some true else none
    | .const .nilIface, .iface _ _ => if nilKind P t = 4 then some false else none
    | .const .nilIface, .nilif => if nilKind P t = 4 then some true else none
    | _, _ => none : Option Bool) with
  | some b => match op with
    | .eql => some (.bool b)
    | .neq => some (.bool !b)
    | _ => none
  | none => none

/-- A slice of no elements is held against nil: either answer. -/
def altA (P : Program) (o : Op) (a : St) : Bool :=
  match o with
  | .binOp .eql t x (.const (.slice none _ _)) _ => match a.ev x with
    | .vsl _ _ [] => decide (nilKind P t = 1)
    | _ => false
  | _ => false

/-- What an operation that calls nothing tells, and what it makes of memory. -/
def evalOp (P : Program) (o : Op) (a : St) : Option (AV × List OB) :=
  match o with
  | .move x | .assign x => some (a.ev x, a.H)
  | .pick c x y => match a.ev c with
    | .bool t => some (pickA t (a.ev x) (a.ev y), a.H)
    | _ => none
  | .alloc t => (zeroA P t).map fun z => (.ptr a.H.length 0, a.H ++ [.cells z.cells false])
  | .box t x => if (a.ev x).told = true then some (.ptr a.H.length 0, a.H ++ [.cells (a.ev x).cells false]) else none
  | .build t ps => (evBuild P t (ps.toList.map fun p => (p.1, a.ev p.2))).map fun v => (v, a.H)
  | .buildSlice t n ps => (evBuildSlice P t n (ps.toList.map fun p => (p.1, a.ev p.2))).map fun v => (v, a.H)
  | .load t x => (evLoad P t (a.ev x) a.H).map fun v => (v, a.H)
  | .store t x v => (evStore P t (a.ev x) (a.ev v) a.H).map fun H' => (.junk, H')
  | .nilCheck x => (evNil (a.ev x)).map fun v => (v, a.H)
  | .binOp op t x y _ => match evBin P op t (a.ev x) (a.ev y) with
    | some v => some (v, a.H)
    | none => match evNilEq P op t (a.ev x) (a.ev y) with
      | some v => some (v, a.H)
      | none => (evNilC P op t (a.ev x) y).map fun v => (v, a.H)
  | .unOp op _ x => (evUn op (a.ev x)).map fun v => (v, a.H)
  | .convert s d x => evConv P s d (a.ev x) a.H
  | .makeInterface t x => match P.underlying t with
    | some (.interface _) => none
    | some _ => some (.iface t (a.ev x), a.H)
    | none => none
  | .makeFunc fn fs cs => some (.func fn (fs.toList.map a.ev) (cs.toList.map a.ev), a.H)
  | .makeMap _ none => some (evMakeMap a.H)
  | .range t x => evRange P t (a.ev x) a.H
  | .entry x => (evEntry (a.ev x) a.H).map fun v => (v, a.H)
  | .makeSlice t l c => evMakeSlice P t (a.ev l) (a.ev c) a.H
  | .slice t x lo hi mx => match evSlice P t (a.ev x) (lo.map a.ev) (hi.map a.ev) (mx.map a.ev) with
    | some v => some (v, a.H)
    | none => match lo, hi, mx with
      | none, none, none => (evSliceArr P t (a.ev x) a.H).map fun v => (v, a.H)
      | _, _, _ => none
  | .fieldAddr t x f => (evFieldAddr P t (a.ev x) f).map fun v => (v, a.H)
  | .field t x f => (evField P t (a.ev x) f).map fun v => (v, a.H)
  | .indexAddr t x i => (evIndexAddr P t (a.ev x) (a.ev i) a.H).map fun v => (v, a.H)
  | .index t x i => (evIndex P t (a.ev x) (a.ev i)).map fun v => (v, a.H)
  | .lookup t x k ok => (evLookup P t (a.ev x) (a.ev k) ok a.H).map fun v => (v, a.H)
  | .mapUpdate t m k x | .insert t m k x => (evMapUpdate P t (a.ev m) (a.ev k) (a.ev x) a.H).map fun H' => (.junk, H')
  | .extract t i => match a.ev t with
    | .tup l => (l[i]?).map fun v => (v, a.H)
    | _ => none
  | .call c => match c.callee with
    | .builtin b => match b, c.args.toList, c.argTypes.toList with
      | .len, [x], [t] => (evLen P t (a.ev x) a.H).map fun v => (v, a.H)
      | .cap, [x], [t] => (evCap P t (a.ev x)).map fun v => (v, a.H)
      | .append, [x, y], [t, u] => evAppend P t u (a.ev x) (a.ev y) a.H
      | .max, [x, y], _ => (evMax (a.ev x) (a.ev y)).map fun v => (v, a.H)
      | .min, [x, y], _ => (evMin (a.ev x) (a.ev y)).map fun v => (v, a.H)
      | _, _, _ => none
    | _ => none
  | _ => none

/-- What the run of an operation comes to. -/
def DoesN (P : Program) (x : Sem Next) (w0 : World) (F0 F : Nat → Nat → Prop) (μ : Nat → Option Loc) (w : World) (v : AV) (H' : List OB) : Prop :=
  ∃ nx V w' F' μ', x.run P w = .ok nx w' ∧ (nx = .value V ∨ (nx = .skip ∧ V = undef)) ∧ Ext F w μ F' w' μ' ∧ Sim w0 F0 F' μ' H' w' ∧ VR F' w' μ' v V

section
variable {P : Program} {w0 : World} {F0 F : Nat → Nat → Prop} {μ : Nat → Option Loc} {H : List OB} {w : World} {n : Nat} {a : St} {act : Act}

theorem DoesN.of {x : Sem Value} {v : AV} {H' : List OB} (h : DoesV P x w0 F0 F μ w v H') : DoesN P (do pure (.value (← x))) w0 F0 F μ w v H' := by
  obtain ⟨V, w', F', μ', h1, h2, h3, h4⟩ := h
  exact ⟨.value V, V, w', F', μ', by simp [h1], .inl rfl, h2, h3, h4⟩

theorem DoesN.ofU {x : Sem Unit} {H' : List OB} {w' : World} (h1 : x.run P w = .ok () w') (h2 : Ext F w μ F w' μ) (h3 : Sim w0 F0 F μ H' w') : DoesN P (do x; pure .skip) w0 F0 F μ w .junk H' :=
  ⟨.skip, undef, w', F, μ, by simp [h1], .inr ⟨rfl, rfl⟩, h2, h3, .junk _⟩

theorem RelT.evs (t : RelT n F μ a act w) (l : List Operand) : VRs F w μ (l.map a.ev) (l.map act.eval) := by
  induction l with
  | nil => exact .nil
  | cons x l ih => exact .cons _ _ _ _ (t.ev x) ih

theorem RelT.evp (t : RelT n F μ a act w) (l : List (Nat × Operand)) : VRp F w μ (l.map fun p => (p.1, a.ev p.2)) (l.map fun p => (p.1, act.eval p.2)) := by
  induction l with
  | nil => exact .nil
  | cons x l ih => exact .cons _ _ _ _ _ (t.ev x.2) ih

theorem RelT.evo (t : RelT n F μ a act w) (x : Option Operand) : VRo F w μ (x.map a.ev) (x.map act.eval) := by
  cases x with
  | none => exact .none
  | some x => exact .some _ _ (t.ev x)

theorem pick_ok {t : Bool} {x y : AV} {X Y : Value} (hx : VR F w μ x X) (hy : VR F w μ y Y) : VR F w μ (pickA t x y) (if t then X else Y) := by
  unfold pickA
  split
  · cases hx; cases hy; cases t <;> exact .bool _
  · cases t <;> simp [hx, hy]

theorem evNilEq_ok (s : Sim w0 F0 F μ H w) {op : BinOp} {t : TypeId} {x y v : AV} {X Y : Value} {ox oy : Operand} (hx : VR F w μ x X) (hy : VR F w μ y Y) (h : evNilEq P op t x y = some v) :
    DoesV P (do eqGuard op t ox oy X Y; binOp op t X Y) w0 F0 F μ w v H := by
  unfold evNilEq at h
  split at h
  case h_2 => cases h
  rename_i b hb
  have key : ∃ A B : Option Addr, X = .pointer A ∧ Y = .pointer B ∧ (A = none ∨ B = none) ∧ b = (A.isNone && B.isNone) := by
    split at hb <;> first | (cases hb; done) | skip
    all_goals
      cases hb
      cases hx
      cases hy
      first
        | exact ⟨_, _, rfl, rfl, .inr rfl, rfl⟩
        | exact ⟨_, _, rfl, rfl, .inl rfl, rfl⟩
  obtain ⟨A, B, rfl, rfl, h1, h2⟩ := key
  have hg : (eqGuard op t ox oy (.pointer A) (.pointer B)).run P w = .ok () w := by unfold eqGuard; cases op <;> simp
  have he : ∀ (d : Nat) (e : TypeId), P.underlying t = some (.pointer e) → (Op.equalIn (d + 1) t (.pointer A) (.pointer B)).run P w = .ok b w := by
    intro d e hu
    subst h2
    rcases h1 with rfl | rfl
    · simp [Op.equalIn, run_underlying hu]
    · cases A <;> simp [Op.equalIn, run_underlying hu]
  have he' : ∀ (e : TypeId), P.underlying t = some (.pointer e) → (Op.equal t (.pointer A) (.pointer B)).run P w = .ok b w := fun e hu => he 9999 e hu
  split at h
  · rename_i e hu
    cases h
    exact .pure_ s (by simp only [Sem.run_bind, hg, Result.andThen, binOp, he' e hu, Sem.run_pure]) (.bool _)
  · rename_i e hu
    cases h
    exact .pure_ s (by simp only [Sem.run_bind, hg, Result.andThen, binOp, he' e hu, Sem.run_pure]) (.bool _)
  · cases h

theorem evSliceArr_ok (s : Sim w0 F0 F μ H w) {t : TypeId} {x v : AV} {X : Value} (hx : VR F w μ x X) (h : evSliceArr P t x H = some v) : DoesV P (Instr.sliceAt t X none none none) w0 F0 F μ w v H := by
  unfold evSliceArr at h
  split at h
  case h_2 => cases h
  rename_i n e harr
  have hrun : ∀ (b o k : Nat), tsz P e = some k → 0 < n → (Instr.sliceAt t (.pointer (some ⟨b, o, none⟩)) none none none).run P w = .ok (.slice (some ⟨b, o, none⟩) n n) w := by
    intro b o k hk hn
    unfold arrOf at harr
    split at harr
    · rename_i hu
      cases harr
      simp [Instr.sliceAt, run_underlying hu, Instr.sliceBounds, run_sizeOf' hk, Instr.sureAddr, asAddr, Addr.add]
    · rename_i arr hu
      split at harr
      · rename_i hua
        cases harr
        simp [Instr.sliceAt, run_underlying hu, run_underlying hua, Instr.slice, Instr.sliceBounds, run_sizeOf' hk, asAddr, Addr.add]
      · cases harr
    · cases harr
  split at h
  · rename_i k wd id off hk he
    split at h
    case h_2 => cases h
    rename_i cs hid
    split at h
    case isFalse => cases h
    rename_i hc
    cases h
    cases hx with
    | ptr _ _ L hμ =>
      have hob := s.obs id _ hid
      cases hob with
      | cells _ _ L' c el lo hi hμ' hB hw hcap hlen hfix hun hcs hF =>
        rw [hμ] at hμ'; cases hμ'
        exact .pure_ s (hrun _ _ k hk hc.2.2.2) (.sl id off n wd n L hμ (by rw [← hc.1, hfix rfl]; exact hc.2.1) (Nat.le_refl _) hc.2.2.1)
  · rename_i k cs hk he
    split at h
    case isFalse => cases h
    rename_i hc
    cases h
    cases hx with
    | vptr _ b o hm =>
      have := VR.vsl (F := F) (w := w) (μ := μ) 0 false cs (some ⟨b, o, none⟩) n (fun h => by cases h) (by omega) (by omega) (.at _ _ _ _ (VRe.ones hm (fun v hv => one_cells (List.all_eq_true.1 hc.2.2.2.2 v hv))))
      rw [← hc.2.1] at this
      exact .pure_ s (hrun _ _ k hk hc.2.2.2.1) this
  · rename_i k wd cs hk he
    split at h
    case isFalse => cases h
    rename_i hc
    cases h
    cases hx with
    | vptr _ b o hm =>
      have := VR.vsl (F := F) (w := w) (μ := μ) (wd + 1) false (chunkA k n cs) (some ⟨b, o, none⟩) n (fun h => by cases h) (by rw [chunkA_length]; omega) (by rw [chunkA_length]; exact hc.2.2.1) (.at _ _ _ _ (by
        rw [show esz (wd + 1) = k from hc.1.symm]
        exact chunk_VRe k n cs b o hc.2.1.symm hm))
      rw [chunkA_length] at this
      exact .pure_ s (hrun _ _ k hk hc.2.2.2) this
  · cases h

theorem nilKind_some {t : TypeId} {k : Nat} (h : nilKind P t = k) (hk : k ≠ 0) : (∃ e, P.underlying t = some (.slice e) ∧ k = 1) ∨ (∃ a b, P.underlying t = some (.map a b) ∧ k = 2) ∨ (∃ a b c, P.underlying t = some (.func a b c) ∧ k = 3) ∨ (∃ m, P.underlying t = some (.interface m) ∧ k = 4) := by
  unfold nilKind at h
  split at h
  · rename_i e hu; exact .inl ⟨e, hu, h.symm⟩
  · rename_i x y hu; exact .inr (.inl ⟨x, y, hu, h.symm⟩)
  · rename_i x y z hu; exact .inr (.inr (.inl ⟨x, y, z, hu, h.symm⟩))
  · rename_i m hu; exact .inr (.inr (.inr ⟨m, hu, h.symm⟩))
  · exact (hk h.symm).elim

def eqlB (op : BinOp) (b : Bool) : Bool := match op with
  | .eql => b
  | _ => !b

theorem run_nilC {op : BinOp} {t : TypeId} {ox oy : Operand} {X Y : Value} {b : Bool} (hop : op = .eql ∨ op = .neq) (hg : (eqGuard op t ox oy X Y).run P w = .ok () w) (he : ∀ d, (Op.equalIn (d + 1) t X Y).run P w = .ok b w)
    (hb : binOp op t X Y = (match op with | .eql => do pure (.bool (← Op.equal t X Y)) | _ => do pure (.bool (!(← Op.equal t X Y))) : Sem Value)) :
    (do eqGuard op t ox oy X Y; binOp op t X Y : Sem Value).run P w = .ok (.bool (eqlB op b)) w := by
  have he' : (Op.equal t X Y).run P w = .ok b w := he 9999
  rcases hop with rfl | rfl
  · simp only [Sem.run_bind, hg, Result.andThen, hb, he', Sem.run_pure, eqlB]
  · simp only [Sem.run_bind, hg, Result.andThen, hb, he', Sem.run_pure, eqlB]

theorem evNilC_ok (s : Sim w0 F0 F μ a.H w) (ht : RelT n F μ a act w) {op : BinOp} {t : TypeId} {x y : Operand} {v : AV} (h : evNilC P op t (a.ev x) y = some v) :
    DoesV P (do eqGuard op t x y (act.eval x) (act.eval y); binOp op t (act.eval x) (act.eval y)) w0 F0 F μ w v a.H := by
  have hx := ht.ev x
  generalize act.eval x = X at hx ⊢
  unfold evNilC at h
  split at h
  case h_2 => cases h
  rename_i b hb
  have hop : (op = .eql ∨ op = .neq) ∧ v = .bool (eqlB op b) := by
    split at h <;> first | (cases h; done) | (cases h; exact ⟨.inl rfl, rfl⟩) | (cases h; exact ⟨.inr rfl, rfl⟩)
  obtain ⟨hop, rfl⟩ := hop
  generalize hav : a.ev x = ax at hx hb
  split at hb <;> first | (cases hb; done) | skip
  all_goals
    split at hb
    case isFalse => cases hb
    rename_i hk
    cases hb
    rcases nilKind_some hk (by decide) with ⟨e, hu, h1⟩ | ⟨e, f, hu, h1⟩ | ⟨e, f, g, hu, h1⟩ | ⟨e, hu, h1⟩ <;> first | (cases h1; done) | skip
    cases hx
    try (have hva := ‹VRa F w μ _ _ _›; cases hva)
    refine .pure_ s (run_nilC hop ?_ (fun d => ?_) ?_) (.bool _)
    · rcases hop with rfl | rfl <;> simp [Act.eval, eqGuard]
    · simp [Act.eval, Op.equalIn, run_underlying hu]
    · rcases hop with rfl | rfl <;> rfl

/-- Either answer. -/
theorem altA_ok (ht : RelT n F μ a act w) {o : Oper} (h : altA P o.op a = true) : ∃ b : Bool, (execOp act.eval o).run P w = .ok (.value (.bool b)) w := by
  obtain ⟨dst, op, ty, pos, after, guard⟩ := o
  simp only at h
  unfold altA at h
  split at h
  case h_2 => cases h
  rename_i t x l c u
  split at h
  case h_2 => cases h
  rename_i wd xx hv
  have hx := ht.ev x
  rw [hv] at hx
  generalize hX : act.eval x = X at hx
  have hk : nilKind P t = 1 := by simpa using h
  rcases nilKind_some hk (by decide) with ⟨e, hu, h1⟩ | ⟨e, f, hu, h1⟩ | ⟨e, f, g, hu, h1⟩ | ⟨e, hu, h1⟩ <;> first | (cases h1; done) | skip
  cases hx with
  | vsl _ _ _ A cap _ _ _ _ =>
    refine ⟨A.isNone, ?_⟩
    have he0 : ∀ d, (Op.equalIn (d + 1) t (.slice A 0 cap) (.slice none l c)).run P w = .ok A.isNone w := by
      intro d
      cases A <;> simp [Op.equalIn, run_underlying hu]
    have he : (Op.equal t (.slice A 0 cap) (.slice none l c)).run P w = .ok A.isNone w := he0 9999
    have hy : act.eval (.const (.slice none l c)) = .slice none l c := rfl
    simp [execOp, hX, hy, eqGuard, binOp, he]

theorem evalOp_ok (s : Sim w0 F0 F μ a.H w) (t : RelT n F μ a act w) {o : Oper} {v : AV} {H' : List OB} (h : evalOp P o.op a = some (v, H')) : DoesN P (execOp act.eval o) w0 F0 F μ w v H' := by
  obtain ⟨dst, op, ty, pos, after, guard⟩ := o
  simp only at h
  unfold evalOp at h
  split at h
  · cases h; exact ⟨_, _, w, F, μ, by simp [execOp], .inl rfl, Ext.refl _ _ _, s, t.ev _⟩
  · cases h; exact ⟨_, _, w, F, μ, by simp [execOp], .inl rfl, Ext.refl _ _ _, s, t.ev _⟩
  · rename_i c x y
    split at h
    · rename_i b hb
      cases h
      have hc := t.ev c
      rw [hb] at hc
      generalize hC : act.eval c = C at hc
      cases hc
      refine ⟨_, _, w, F, μ, ?_, .inl rfl, Ext.refl _ _ _, s, pick_ok (t.ev x) (t.ev y)⟩
      simp [execOp, hC, asBool]
    · cases h
  · rename_i tt
    rw [Option.map_eq_some_iff] at h
    obtain ⟨z, hz, h⟩ := h
    cases h
    obtain ⟨Z, h1, _, h3⟩ := zero_run (P := P) (F := F) (μ := μ) hz w
    have := newVar_ok (P := P) s (t := tt) (V := Z) h3
    obtain ⟨V, w', F', μ', h4, h5, h6, h7⟩ := this
    refine ⟨.value V, V, w', F', μ', ?_, .inl rfl, h5, h6, h7⟩
    simp only [Sem.run_bind] at h4
    simp only [execOp, Instr.alloc, Sem.run_bind, h1, Result.andThen]
    simp only [Result.andThen] at h4
    rw [h4]
    rfl
  · rename_i tt x
    split at h
    case isFalse => cases h
    rename_i hj
    cases h
    have := newVar_ok (P := P) s (t := tt) (V := act.eval x) (VR.cells (t.ev x) (told_ne hj))
    exact DoesN.of (by simpa [Instr.box] using this)
  · rename_i tt ps
    rw [Option.map_eq_some_iff] at h
    obtain ⟨v', h1, h⟩ := h
    cases h
    exact DoesN.of (evBuild_ok s (by simpa using t.evp ps.toList) h1)
  · rename_i tt k ps
    rw [Option.map_eq_some_iff] at h
    obtain ⟨v', h1, h⟩ := h
    cases h
    exact DoesN.of (evBuildSlice_ok s (by simpa using t.evp ps.toList) h1)
  · rw [Option.map_eq_some_iff] at h
    obtain ⟨v', h1, h⟩ := h
    cases h
    exact DoesN.of (evLoad_ok s (t.ev _) h1)
  · rw [Option.map_eq_some_iff] at h
    obtain ⟨v', h1, h⟩ := h
    cases h
    obtain ⟨w', h2, h3, h4⟩ := evStore_ok (P := P) s (t.ev _) (t.ev _) h1
    exact DoesN.ofU h2 h3 h4
  · rename_i x
    rw [Option.map_eq_some_iff] at h
    obtain ⟨v', h1, h⟩ := h
    cases h
    have hx := t.ev x
    generalize hX : act.eval x = X at hx
    unfold evNil at h1
    split at h1
    · rename_i i o he
      cases h1
      rw [he] at hx
      have hx' := hx
      cases hx
      exact ⟨_, _, w, F, μ, by simp [execOp, hX], .inl rfl, Ext.refl _ _ _, s, hx'⟩
    · rename_i l he
      cases h1
      rw [he] at hx
      have hx' := hx
      cases hx
      exact ⟨_, _, w, F, μ, by simp [execOp, hX], .inl rfl, Ext.refl _ _ _, s, hx'⟩
    · rename_i fn fs cs he
      split at h1
      case isFalse => cases h1
      rename_i hp
      cases h1
      rw [he] at hx
      have hx' := hx
      cases hx
      cases fn <;> first | (cases hp; done) | exact ⟨_, _, w, F, μ, by simp [execOp, hX], .inl rfl, Ext.refl _ _ _, s, hx'⟩
    · cases h1
  · rename_i op tt x y yt
    split at h
    · rename_i v' h1
      cases h
      exact DoesN.of (evBin_ok s (t.ev _) (t.ev _) h1)
    · split at h
      · rename_i v' h1
        cases h
        exact DoesN.of (evNilEq_ok s (t.ev _) (t.ev _) h1)
      · rw [Option.map_eq_some_iff] at h
        obtain ⟨v', h1, h⟩ := h
        cases h
        exact DoesN.of (evNilC_ok s t h1)
  · rw [Option.map_eq_some_iff] at h
    obtain ⟨v', h1, h⟩ := h
    cases h
    exact DoesN.of (evUn_ok s (t.ev _) h1)
  · exact DoesN.of (evConv_ok s (t.ev _) h)
  · rename_i tt x
    split at h
    · cases h
    · rename_i d hd hu
      cases h
      refine ⟨_, .iface tt (act.eval x), w, F, μ, ?_, .inl rfl, Ext.refl _ _ _, s, .iface _ _ _ (t.ev x)⟩
      cases d <;> first | (exact (hd _ rfl).elim) | simp [execOp, Instr.makeInterface, run_underlying hu]
    · cases h
  · rename_i fn fs cs
    cases h
    refine ⟨_, .func fn (fs.map act.eval) (cs.map act.eval), w, F, μ, by simp [execOp, Instr.makeFunc], .inl rfl, Ext.refl _ _ _, s, .func _ _ _ _ _ ?_ ?_⟩
    · rw [Array.toList_map]; exact t.evs _
    · rw [Array.toList_map]; exact t.evs _
  · rename_i tt
    cases h
    exact DoesN.of (evMakeMap_ok s tt)
  · exact DoesN.of (evRange_ok s (t.ev _) h)
  · rw [Option.map_eq_some_iff] at h
    obtain ⟨v', h1, h⟩ := h
    cases h
    exact DoesN.of (evEntry_ok s (t.ev _) h1)
  · exact DoesN.of (evMakeSlice_ok s (t.ev _) (t.ev _) h)
  · split at h
    · rename_i v' h1
      cases h
      exact DoesN.of (evSlice_ok s (t.ev _) (t.evo _) (t.evo _) (t.evo _) h1)
    · split at h
      · rw [Option.map_eq_some_iff] at h
        obtain ⟨v', h1, h⟩ := h
        cases h
        exact DoesN.of (evSliceArr_ok s (t.ev _) h1)
      · cases h
  · rw [Option.map_eq_some_iff] at h
    obtain ⟨v', h1, h⟩ := h
    cases h
    exact DoesN.of (evFieldAddr_ok s (t.ev _) h1)
  · rw [Option.map_eq_some_iff] at h
    obtain ⟨v', h1, h⟩ := h
    cases h
    exact DoesN.of (evField_ok s (t.ev _) h1)
  · rw [Option.map_eq_some_iff] at h
    obtain ⟨v', h1, h⟩ := h
    cases h
    exact DoesN.of (evIndexAddr_ok s (t.ev _) (t.ev _) h1)
  · rw [Option.map_eq_some_iff] at h
    obtain ⟨v', h1, h⟩ := h
    cases h
    exact DoesN.of (evIndex_ok s (t.ev _) (t.ev _) h1)
  · rw [Option.map_eq_some_iff] at h
    obtain ⟨v', h1, h⟩ := h
    cases h
    exact DoesN.of (evLookup_ok s (t.ev _) (t.ev _) h1)
  · rw [Option.map_eq_some_iff] at h
    obtain ⟨v', h1, h⟩ := h
    cases h
    obtain ⟨w', h2, h3, h4⟩ := evMapUpdate_ok (P := P) s (t.ev _) (t.ev _) (t.ev _) h1
    exact DoesN.ofU h2 h3 h4
  · rw [Option.map_eq_some_iff] at h
    obtain ⟨v', h1, h⟩ := h
    cases h
    obtain ⟨w', h2, h3, h4⟩ := evMapUpdate_ok (P := P) s (t.ev _) (t.ev _) (t.ev _) h1
    exact DoesN.ofU h2 h3 h4
  · rename_i x i
    split at h
    · rename_i l hl
      rw [Option.map_eq_some_iff] at h
      obtain ⟨v', h1, h⟩ := h
      cases h
      have hx := t.ev x
      rw [hl] at hx
      generalize hX : act.eval x = X at hx
      cases hx with
      | tup _ A hA =>
        obtain ⟨V, h2, h3⟩ := hA.get h1
        rw [Array.getElem?_toList] at h2
        exact ⟨_, V, w, F, μ, by simp [execOp, hX, Instr.extract, h2], .inl rfl, Ext.refl _ _ _, s, h3⟩
    · cases h
  · rename_i c
    obtain ⟨callee, args, argTypes⟩ := c
    simp only at h
    split at h
    case h_2 => cases h
    rename_i b
    have hres : ∀ (l : List Operand), args.toList = l → args = l.toArray := fun l h => by rw [← h]
    have htys : ∀ (l : List TypeId), argTypes.toList = l → argTypes = l.toArray := fun l h => by rw [← h]
    split at h
    · rename_i x tt ha hb
      rw [Option.map_eq_some_iff] at h
      obtain ⟨v', h1, h⟩ := h
      cases h
      obtain rfl := hres _ ha
      obtain rfl := htys _ hb
      have := DoesN.of (evLen_ok (P := P) (rT := ty) s (t.ev x) h1)
      simpa [execOp, resolve, invoke, builtin] using this
    · rename_i x tt ha hb
      rw [Option.map_eq_some_iff] at h
      obtain ⟨v', h1, h⟩ := h
      cases h
      obtain rfl := hres _ ha
      obtain rfl := htys _ hb
      have := DoesN.of (evCap_ok (P := P) (rT := ty) s (t.ev x) h1)
      simpa [execOp, resolve, invoke, builtin] using this
    · rename_i x y tt u ha hb
      obtain rfl := hres _ ha
      obtain rfl := htys _ hb
      have := DoesN.of (evAppend_ok (P := P) (rT := ty) s (t.ev x) (t.ev y) h)
      simpa [execOp, resolve, invoke, builtin] using this
    · rename_i x y ha
      rw [Option.map_eq_some_iff] at h
      obtain ⟨v', h1, h⟩ := h
      cases h
      obtain rfl := hres _ ha
      have := DoesN.of (evMax_ok (P := P) (ts := argTypes) (rT := ty) s (t.ev x) (t.ev y) h1)
      simpa [execOp, resolve, invoke, builtin] using this
    · rename_i x y ha
      rw [Option.map_eq_some_iff] at h
      obtain ⟨v', h1, h⟩ := h
      cases h
      obtain rfl := hres _ ha
      have := DoesN.of (evMin_ok (P := P) (ts := argTypes) (rT := ty) s (t.ev x) (t.ev y) h1)
      simpa [execOp, resolve, invoke, builtin] using this
    · cases h
  · cases h
end
end Go.Av
