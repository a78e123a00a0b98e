/- A framework of abstract values: no program in sight; under the conditions named at each theorem. -/
import Derived.Test.YtmeijkidjifagaaGreatSvP2
import Derived.OrdersIn
import Derived.RangeFuncSeq
namespace Go.Av
set_option linter.unusedVariables false
set_option linter.unusedSimpArgs false
open Go.RowKit (Below)

/-- One of two. -/
def pickA (t : Bool) (x y : AV) : AV :=
  match x, y with
  | .bool p, .bool q => .bool (cond t p q)
  | x, y => if t = true then x else y

/-- A function value's name, if it is no method's. -/
def plainFn : Fn → Bool
  | .func _ => true
  | _ => false

def evNil (x : AV) : Option AV :=
  match x with
  | .ptr a b => some (.ptr a b)
  | .vptr l => some (.vptr l)
  | .func fn fs cs => if plainFn fn then some (.func fn fs cs) else none
  | _ => none

/-- Two that are held against nil. -/
def evNilEq (P : Program) (op : BinOp) (t : TypeId) (x y : AV) : Option AV :=
  match (match x, y with
    | .ptr _ _, .nilptr | .nilptr, .ptr _ _ | .vptr _, .nilptr | .nilptr, .vptr _ => some false
    | .nilptr, .nilptr => some true
    | _, _ => none : Option Bool) with
  | some b => match P.underlying t, op with
    | some (.pointer _), .eql => some (.bool b)
    | some (.pointer _), .neq => some (.bool !b)
    | _, _ => none
  | none => none

/-- An array's type, or a pointer's to one: how many of what. -/
def arrOf (P : Program) (t : TypeId) : Option (Nat × TypeId) :=
  match P.underlying t with
  | some (.array n e) => some (n, e)
  | some (.pointer arr) => match P.underlying arr with
    | some (.array n e) => some (n, e)
    | _ => none
  | _ => none

/-- All of an array as a slice. -/
def evSliceArr (P : Program) (t : TypeId) (x : AV) (H : List OB) : Option AV :=
  match arrOf P t with
  | some (n, e) => match tsz P e, esA P e, x with
    | some k, some wd, .ptr id off => match H[id]? with
      | some (.cells cs false) => if k = esz wd ∧ off + n * k = cs.length ∧ n ≤ maxLen' ∧ 0 < n then some (.sl id off n wd) else none
      | _ => none
    | some k, some 0, .vptr cs => if k = 1 ∧ n = cs.length ∧ n ≤ maxLen' ∧ 0 < n ∧ cs.all AV.one = true then some (.vsl 0 false cs) else none
    | some k, some (wd + 1), .vptr cs => if k = wd ∧ n * k = cs.length ∧ n ≤ maxLen' ∧ 0 < n then some (.vsl (wd + 1) false (chunkA k n cs)) else none
    | _, _, _ => none
  | none => none

/-- The kinds of values that are held against nil. -/
def nilKind (P : Program) (t : TypeId) : Nat :=
  match P.underlying t with
  | some (.slice _) => 1
  | some (.map _ _) => 2
  | some (.func _ _ _) => 3
  | some (.interface _) => 4
  | _ => 0

/-- A value that is held against the word nil. -/
def evNilC (P : Program) (op : BinOp) (t : TypeId) (x : AV) (y : Operand) : Option AV :=
  match (match y, x with
    | .const (.slice none _ _), .vsl _ _ (_ :: _) | .const (.slice none _ _), .sl _ _ _ _ => if nilKind P t = 1 then some false else none
    | .const (.map none), .map _ | .const (.map none), .vmap _ _ => if nilKind P t = 2 then some false else none
    | .const (.map none), .nilmap => if nilKind P t = 2 then some true else none
    | .const .nilFunc, .func _ _ _ => if nilKind P t = 3 then some false else none
    | .const .nilFunc, .nilfunc => if nilKind P t = 3 then some true else none
    | .const .nilIface, .iface _ _ => if nilKind P t = 4 then some false else none
    | .const .nilIface, .nilif => if nilKind P t = 4 then some true else none
    | _, _ => none : Option Bool) with
  | some b => match op with
    | .eql => some (.bool b)
    | .neq => some (.bool !b)
    | _ => none
  | none => none

/-- A slice of no elements is held against nil: either answer. -/
def altA (P : Program) (o : Op) (a : St) : Bool :=
  match o with
  | .binOp .eql t x (.const (.slice none _ _)) _ => match a.ev x with
    | .vsl _ _ [] => decide (nilKind P t = 1)
    | _ => false
  | _ => false

/-- What an operation that calls nothing tells, and what it makes of memory. -/
def evalOp (P : Program) (o : Op) (a : St) : Option (AV × List OB) :=
  match o with
  | .move x | .assign x => some (a.ev x, a.H)
  | .pick c x y => match a.ev c with
    | .bool t => some (pickA t (a.ev x) (a.ev y), a.H)
    | _ => none
  | .alloc t => (zeroA P t).map fun z => (.ptr a.H.length 0, a.H ++ [.cells z.cells false])
  | .box t x => if (a.ev x).told = true then some (.ptr a.H.length 0, a.H ++ [.cells (a.ev x).cells false]) else none
  | .build t ps => (evBuild P t (ps.toList.map fun p => (p.1, a.ev p.2))).map fun v => (v, a.H)
  | .buildSlice t n ps => (evBuildSlice P t n (ps.toList.map fun p => (p.1, a.ev p.2))).map fun v => (v, a.H)
  | .load t x => (evLoad P t (a.ev x) a.H).map fun v => (v, a.H)
  | .store t x v => (evStore P t (a.ev x) (a.ev v) a.H).map fun H' => (.junk, H')
  | .nilCheck x => (evNil (a.ev x)).map fun v => (v, a.H)
  | .binOp op t x y _ => match evBin P op t (a.ev x) (a.ev y) with
    | some v => some (v, a.H)
    | none => match evNilEq P op t (a.ev x) (a.ev y) with
      | some v => some (v, a.H)
      | none => (evNilC P op t (a.ev x) y).map fun v => (v, a.H)
  | .unOp op _ x => (evUn op (a.ev x)).map fun v => (v, a.H)
  | .convert s d x => evConv P s d (a.ev x) a.H
  | .makeInterface t x => match P.underlying t with
    | some (.interface _) => none
    | some _ => some (.iface t (a.ev x), a.H)
    | none => none
  | .makeFunc fn fs cs => some (.func fn (fs.toList.map a.ev) (cs.toList.map a.ev), a.H)
  | .makeMap _ none => some (evMakeMap a.H)
  | .range t x => evRange P t (a.ev x) a.H
  | .entry x => (evEntry (a.ev x) a.H).map fun v => (v, a.H)
  | .makeSlice t l c => evMakeSlice P t (a.ev l) (a.ev c) a.H
  | .slice t x lo hi mx => match evSlice P t (a.ev x) (lo.map a.ev) (hi.map a.ev) (mx.map a.ev) with
    | some v => some (v, a.H)
    | none => match lo, hi, mx with
      | none, none, none => (evSliceArr P t (a.ev x) a.H).map fun v => (v, a.H)
      | _, _, _ => none
  | .fieldAddr t x f => (evFieldAddr P t (a.ev x) f).map fun v => (v, a.H)
  | .field t x f => (evField P t (a.ev x) f).map fun v => (v, a.H)
  | .indexAddr t x i => (evIndexAddr P t (a.ev x) (a.ev i) a.H).map fun v => (v, a.H)
  | .index t x i => (evIndex P t (a.ev x) (a.ev i)).map fun v => (v, a.H)
  | .lookup t x k ok => (evLookup P t (a.ev x) (a.ev k) ok a.H).map fun v => (v, a.H)
  | .mapUpdate t m k x | .insert t m k x => (evMapUpdate P t (a.ev m) (a.ev k) (a.ev x) a.H).map fun H' => (.junk, H')
  | .extract t i => match a.ev t with
    | .tup l => (l[i]?).map fun v => (v, a.H)
    | _ => none
  | .call c => match c.callee with
    | .builtin b => match b, c.args.toList, c.argTypes.toList with
      | .len, [x], [t] => (evLen P t (a.ev x) a.H).map fun v => (v, a.H)
      | .cap, [x], [t] => (evCap P t (a.ev x)).map fun v => (v, a.H)
      | .append, [x, y], [t, u] => evAppend P t u (a.ev x) (a.ev y) a.H
      | .max, [x, y], _ => (evMax (a.ev x) (a.ev y)).map fun v => (v, a.H)
      | .min, [x, y], _ => (evMin (a.ev x) (a.ev y)).map fun v => (v, a.H)
      | _, _, _ => none
    | _ => none
  | _ => none

/-- What the run of an operation comes to. -/
def DoesN (P : Program) (x : Sem Next) (w0 : World) (F0 F : Nat → Nat → Prop) (μ : Nat → Option Loc) (w : World) (v : AV) (H' : List OB) : Prop :=
  ∃ nx V w' F' μ', x.run P w = .ok nx w' ∧ (nx = .value V ∨ (nx = .skip ∧ V = undef)) ∧ Ext F w μ F' w' μ' ∧ Sim w0 F0 F' μ' H' w' ∧ VR F' w' μ' v V

section
variable {P : Program} {w0 : World} {F0 F : Nat → Nat → Prop} {μ : Nat → Option Loc} {H : List OB} {w : World} {n : Nat} {a : St} {act : Act}

theorem DoesN.of {x : Sem Value} {v : AV} {H' : List OB} (h : DoesV P x w0 F0 F μ w v H') : DoesN P (do pure (.value (← x))) w0 F0 F μ w v H' := by
  obtain ⟨V, w', F', μ', h1, h2, h3, h4⟩ := h
  exact ⟨.value V, V, w', F', μ', by simp [h1], .inl rfl, h2, h3, h4⟩

theorem DoesN.ofU {x : Sem Unit} {H' : List OB} {w' : World} (h1 : x.run P w = .ok () w') (h2 : Ext F w μ F w' μ) (h3 : Sim w0 F0 F μ H' w') : DoesN P (do x; pure .skip) w0 F0 F μ w .junk H' :=
  ⟨.skip, undef, w', F, μ, by simp [h1], .inr ⟨rfl, rfl⟩, h2, h3, .junk _⟩

theorem RelT.evs (t : RelT n F μ a act w) (l : List Operand) : VRs F w μ (l.map a.ev) (l.map act.eval) := by
  induction l with
  | nil => exact .nil
  | cons x l ih => exact .cons _ _ _ _ (t.ev x) ih

theorem RelT.evp (t : RelT n F μ a act w) (l : List (Nat × Operand)) : VRp F w μ (l.map fun p => (p.1, a.ev p.2)) (l.map fun p => (p.1, act.eval p.2)) := by
  induction l with
  | nil => exact .nil
  | cons x l ih => exact .cons _ _ _ _ _ (t.ev x.2) ih

theorem RelT.evo (t : RelT n F μ a act w) (x : Option Operand) : VRo F w μ (x.map a.ev) (x.map act.eval) := by
  cases x with
  | none => exact .none
  | some x => exact .some _ _ (t.ev x)

theorem pick_ok {t : Bool} {x y : AV} {X Y : Value} (hx : VR F w μ x X) (hy : VR F w μ y Y) : VR F w μ (pickA t x y) (if t then X else Y) := by
  unfold pickA
  split
  · cases hx; cases hy; cases t <;> exact .bool _
  · cases t <;> simp [hx, hy]

theorem evNilEq_ok (s : Sim w0 F0 F μ H w) {op : BinOp} {t : TypeId} {x y v : AV} {X Y : Value} {ox oy : Operand} (hx : VR F w μ x X) (hy : VR F w μ y Y) (h : evNilEq P op t x y = some v) :
    DoesV P (do eqGuard op t ox oy X Y; binOp op t X Y) w0 F0 F μ w v H := by
  unfold evNilEq at h
  split at h
  case h_2 => cases h
  rename_i b hb
  have key : ∃ A B : Option Addr, X = .pointer A ∧ Y = .pointer B ∧ (A = none ∨ B = none) ∧ b = (A.isNone && B.isNone) := by
    split at hb <;> first | (cases hb; done) | skip
    all_goals
      cases hb
      cases hx
      cases hy
      first
        | exact ⟨_, _, rfl, rfl, .inr rfl, rfl⟩
        | exact ⟨_, _, rfl, rfl, .inl rfl, rfl⟩
  obtain ⟨A, B, rfl, rfl, h1, h2⟩ := key
  have hg : (eqGuard op t ox oy (.pointer A) (.pointer B)).run P w = .ok () w := by unfold eqGuard; cases op <;> simp
  have he : ∀ (d : Nat) (e : TypeId), P.underlying t = some (.pointer e) → (Op.equalIn (d + 1) t (.pointer A) (.pointer B)).run P w = .ok b w := by
    intro d e hu
    subst h2
    rcases h1 with rfl | rfl
    · simp [Op.equalIn, run_underlying hu]
    · cases A <;> simp [Op.equalIn, run_underlying hu]
  have he' : ∀ (e : TypeId), P.underlying t = some (.pointer e) → (Op.equal t (.pointer A) (.pointer B)).run P w = .ok b w := fun e hu => he 9999 e hu
  split at h
  · rename_i e hu
    cases h
    exact .pure_ s (by simp only [Sem.run_bind, hg, Result.andThen, binOp, he' e hu, Sem.run_pure]) (.bool _)
  · rename_i e hu
    cases h
    exact .pure_ s (by simp only [Sem.run_bind, hg, Result.andThen, binOp, he' e hu, Sem.run_pure]) (.bool _)
  · cases h

theorem evSliceArr_ok (s : Sim w0 F0 F μ H w) {t : TypeId} {x v : AV} {X : Value} (hx : VR F w μ x X) (h : evSliceArr P t x H = some v) : DoesV P (Instr.sliceAt t X none none none) w0 F0 F μ w v H := by
  unfold evSliceArr at h
  split at h
  case h_2 => cases h
  rename_i n e harr
  have hrun : ∀ (b o k : Nat), tsz P e = some k → 0 < n → (Instr.sliceAt t (.pointer (some ⟨b, o, none⟩)) none none none).run P w = .ok (.slice (some ⟨b, o, none⟩) n n) w := by
    intro b o k hk hn
    unfold arrOf at harr
    split at harr
    · rename_i hu
      cases harr
      simp [Instr.sliceAt, run_underlying hu, Instr.sliceBounds, run_sizeOf' hk, Instr.sureAddr, asAddr, Addr.add]
    · rename_i arr hu
      split at harr
      · rename_i hua
        cases harr
        simp [Instr.sliceAt, run_underlying hu, run_underlying hua, Instr.slice, Instr.sliceBounds, run_sizeOf' hk, asAddr, Addr.add]
      · cases harr
    · cases harr
  split at h
  · rename_i k wd id off hk he
    split at h
    case h_2 => cases h
    rename_i cs hid
    split at h
    case isFalse => cases h
    rename_i hc
    cases h
    cases hx with
    | ptr _ _ L hμ =>
      have hob := s.obs id _ hid
      cases hob with
      | cells _ _ L' c el lo hi hμ' hB hw hcap hlen hfix hun hcs hF =>
        rw [hμ] at hμ'; cases hμ'
        exact .pure_ s (hrun _ _ k hk hc.2.2.2) (.sl id off n wd n L hμ (by rw [← hc.1, hfix rfl]; exact hc.2.1) (Nat.le_refl _) hc.2.2.1)
  · rename_i k cs hk he
    split at h
    case isFalse => cases h
    rename_i hc
    cases h
    cases hx with
    | vptr _ b o hm =>
      have := VR.vsl (F := F) (w := w) (μ := μ) 0 false cs (some ⟨b, o, none⟩) n (fun h => by cases h) (by omega) (by omega) (.at _ _ _ _ (VRe.ones hm (fun v hv => one_cells (List.all_eq_true.1 hc.2.2.2.2 v hv))))
      rw [← hc.2.1] at this
      exact .pure_ s (hrun _ _ k hk hc.2.2.2.1) this
  · rename_i k wd cs hk he
    split at h
    case isFalse => cases h
    rename_i hc
    cases h
    cases hx with
    | vptr _ b o hm =>
      have := VR.vsl (F := F) (w := w) (μ := μ) (wd + 1) false (chunkA k n cs) (some ⟨b, o, none⟩) n (fun h => by cases h) (by rw [chunkA_length]; omega) (by rw [chunkA_length]; exact hc.2.2.1) (.at _ _ _ _ (by
        rw [show esz (wd + 1) = k from hc.1.symm]
        exact chunk_VRe k n cs b o hc.2.1.symm hm))
      rw [chunkA_length] at this
      exact .pure_ s (hrun _ _ k hk hc.2.2.2) this
  · cases h

theorem nilKind_some {t : TypeId} {k : Nat} (h : nilKind P t = k) (hk : k ≠ 0) : (∃ e, P.underlying t = some (.slice e) ∧ k = 1) ∨ (∃ a b, P.underlying t = some (.map a b) ∧ k = 2) ∨ (∃ a b c, P.underlying t = some (.func a b c) ∧ k = 3) ∨ (∃ m, P.underlying t = some (.interface m) ∧ k = 4) := by
  unfold nilKind at h
  split at h
  · rename_i e hu; exact .inl ⟨e, hu, h.symm⟩
  · rename_i x y hu; exact .inr (.inl ⟨x, y, hu, h.symm⟩)
  · rename_i x y z hu; exact .inr (.inr (.inl ⟨x, y, z, hu, h.symm⟩))
  · rename_i m hu; exact .inr (.inr (.inr ⟨m, hu, h.symm⟩))
  · exact (hk h.symm).elim

def eqlB (op : BinOp) (b : Bool) : Bool := match op with
  | .eql => b
  | _ => !b

theorem run_nilC {op : BinOp} {t : TypeId} {ox oy : Operand} {X Y : Value} {b : Bool} (hop : op = .eql ∨ op = .neq) (hg : (eqGuard op t ox oy X Y).run P w = .ok () w) (he : ∀ d, (Op.equalIn (d + 1) t X Y).run P w = .ok b w)
    (hb : binOp op t X Y = (match op with | .eql => do pure (.bool (← Op.equal t X Y)) | _ => do pure (.bool (!(← Op.equal t X Y))) : Sem Value)) :
    (do eqGuard op t ox oy X Y; binOp op t X Y : Sem Value).run P w = .ok (.bool (eqlB op b)) w := by
  have he' : (Op.equal t X Y).run P w = .ok b w := he 9999
  rcases hop with rfl | rfl
  · simp only [Sem.run_bind, hg, Result.andThen, hb, he', Sem.run_pure, eqlB]
  · simp only [Sem.run_bind, hg, Result.andThen, hb, he', Sem.run_pure, eqlB]

theorem evNilC_ok (s : Sim w0 F0 F μ a.H w) (ht : RelT n F μ a act w) {op : BinOp} {t : TypeId} {x y : Operand} {v : AV} (h : evNilC P op t (a.ev x) y = some v) :
    DoesV P (do eqGuard op t x y (act.eval x) (act.eval y); binOp op t (act.eval x) (act.eval y)) w0 F0 F μ w v a.H := by
  have hx := ht.ev x
  generalize act.eval x = X at hx ⊢
  unfold evNilC at h
  split at h
  case h_2 => cases h
  rename_i b hb
  have hop : (op = .eql ∨ op = .neq) ∧ v = .bool (eqlB op b) := by
    split at h <;> first | (cases h; done) | (cases h; exact ⟨.inl rfl, rfl⟩) | (cases h; exact ⟨.inr rfl, rfl⟩)
  obtain ⟨hop, rfl⟩ := hop
  generalize hav : a.ev x = ax at hx hb
  split at hb <;> first | (cases hb; done) | skip
  all_goals
    split at hb
    case isFalse => cases hb
    rename_i hk
    cases hb
    rcases nilKind_some hk (by decide) with ⟨e, hu, h1⟩ | ⟨e, f, hu, h1⟩ | ⟨e, f, g, hu, h1⟩ | ⟨e, hu, h1⟩ <;> first | (cases h1; done) | skip
    cases hx
    try (have hva := ‹VRa F w μ _ _ _›; cases hva)
    refine .pure_ s (run_nilC hop ?_ (fun d => ?_) ?_) (.bool _)
    · rcases hop with rfl | rfl <;> simp [Act.eval, eqGuard]
    · simp [Act.eval, Op.equalIn, run_underlying hu]
    · rcases hop with rfl | rfl <;> rfl

/-- Either answer. -/
theorem altA_ok (ht : RelT n F μ a act w) {o : Oper} (h : altA P o.op a = true) : ∃ b : Bool, (execOp act.eval o).run P w = .ok (.value (.bool b)) w := by
  obtain ⟨dst, op, ty, pos, after, guard⟩ := o
  simp only at h
  unfold altA at h
  split at h
  case h_2 => cases h
  rename_i t x l c u
  split at h
  case h_2 => cases h
  rename_i wd xx hv
  have hx := ht.ev x
  rw [hv] at hx
  generalize hX : act.eval x = X at hx
  have hk : nilKind P t = 1 := by simpa using h
  rcases nilKind_some hk (by decide) with ⟨e, hu, h1⟩ | ⟨e, f, hu, h1⟩ | ⟨e, f, g, hu, h1⟩ | ⟨e, hu, h1⟩ <;> first | (cases h1; done) | skip
  cases hx with
  | vsl _ _ _ A cap _ _ _ _ =>
    refine ⟨A.isNone, ?_⟩
    have he0 : ∀ d, (Op.equalIn (d + 1) t (.slice A 0 cap) (.slice none l c)).run P w = .ok A.isNone w := by
      intro d
      cases A <;> simp [Op.equalIn, run_underlying hu]
    have he : (Op.equal t (.slice A 0 cap) (.slice none l c)).run P w = .ok A.isNone w := he0 9999
    have hy : act.eval (.const (.slice none l c)) = .slice none l c := rfl
    simp [execOp, hX, hy, eqGuard, binOp, he]

theorem evalOp_ok (s : Sim w0 F0 F μ a.H w) (t : RelT n F μ a act w) {o : Oper} {v : AV} {H' : List OB} (h : evalOp P o.op a = some (v, H')) : DoesN P (execOp act.eval o) w0 F0 F μ w v H' := by
  obtain ⟨dst, op, ty, pos, after, guard⟩ := o
  simp only at h
  unfold evalOp at h
  split at h
  · cases h; exact ⟨_, _, w, F, μ, by simp [execOp], .inl rfl, Ext.refl _ _ _, s, t.ev _⟩
  · cases h; exact ⟨_, _, w, F, μ, by simp [execOp], .inl rfl, Ext.refl _ _ _, s, t.ev _⟩
  · rename_i c x y
    split at h
    · rename_i b hb
      cases h
      have hc := t.ev c
      rw [hb] at hc
      generalize hC : act.eval c = C at hc
      cases hc
      refine ⟨_, _, w, F, μ, ?_, .inl rfl, Ext.refl _ _ _, s, pick_ok (t.ev x) (t.ev y)⟩
      simp [execOp, hC, asBool]
    · cases h
  · rename_i tt
    rw [Option.map_eq_some_iff] at h
    obtain ⟨z, hz, h⟩ := h
    cases h
    obtain ⟨Z, h1, _, h3⟩ := zero_run (P := P) (F := F) (μ := μ) hz w
    have := newVar_ok (P := P) s (t := tt) (V := Z) h3
    obtain ⟨V, w', F', μ', h4, h5, h6, h7⟩ := this
    refine ⟨.value V, V, w', F', μ', ?_, .inl rfl, h5, h6, h7⟩
    simp only [Sem.run_bind] at h4
    simp only [execOp, Instr.alloc, Sem.run_bind, h1, Result.andThen]
    simp only [Result.andThen] at h4
    rw [h4]
    rfl
  · rename_i tt x
    split at h
    case isFalse => cases h
    rename_i hj
    cases h
    have := newVar_ok (P := P) s (t := tt) (V := act.eval x) (VR.cells (t.ev x) (told_ne hj))
    exact DoesN.of (by simpa [Instr.box] using this)
  · rename_i tt ps
    rw [Option.map_eq_some_iff] at h
    obtain ⟨v', h1, h⟩ := h
    cases h
    exact DoesN.of (evBuild_ok s (by simpa using t.evp ps.toList) h1)
  · rename_i tt k ps
    rw [Option.map_eq_some_iff] at h
    obtain ⟨v', h1, h⟩ := h
    cases h
    exact DoesN.of (evBuildSlice_ok s (by simpa using t.evp ps.toList) h1)
  · rw [Option.map_eq_some_iff] at h
    obtain ⟨v', h1, h⟩ := h
    cases h
    exact DoesN.of (evLoad_ok s (t.ev _) h1)
  · rw [Option.map_eq_some_iff] at h
    obtain ⟨v', h1, h⟩ := h
    cases h
    obtain ⟨w', h2, h3, h4⟩ := evStore_ok (P := P) s (t.ev _) (t.ev _) h1
    exact DoesN.ofU h2 h3 h4
  · rename_i x
    rw [Option.map_eq_some_iff] at h
    obtain ⟨v', h1, h⟩ := h
    cases h
    have hx := t.ev x
    generalize hX : act.eval x = X at hx
    unfold evNil at h1
    split at h1
    · rename_i i o he
      cases h1
      rw [he] at hx
      have hx' := hx
      cases hx
      exact ⟨_, _, w, F, μ, by simp [execOp, hX], .inl rfl, Ext.refl _ _ _, s, hx'⟩
    · rename_i l he
      cases h1
      rw [he] at hx
      have hx' := hx
      cases hx
      exact ⟨_, _, w, F, μ, by simp [execOp, hX], .inl rfl, Ext.refl _ _ _, s, hx'⟩
    · rename_i fn fs cs he
      split at h1
      case isFalse => cases h1
      rename_i hp
      cases h1
      rw [he] at hx
      have hx' := hx
      cases hx
      cases fn <;> first | (cases hp; done) | exact ⟨_, _, w, F, μ, by simp [execOp, hX], .inl rfl, Ext.refl _ _ _, s, hx'⟩
    · cases h1
  · rename_i op tt x y yt
    split at h
    · rename_i v' h1
      cases h
      exact DoesN.of (evBin_ok s (t.ev _) (t.ev _) h1)
    · split at h
      · rename_i v' h1
        cases h
        exact DoesN.of (evNilEq_ok s (t.ev _) (t.ev _) h1)
      · rw [Option.map_eq_some_iff] at h
        obtain ⟨v', h1, h⟩ := h
        cases h
        exact DoesN.of (evNilC_ok s t h1)
  · rw [Option.map_eq_some_iff] at h
    obtain ⟨v', h1, h⟩ := h
    cases h
    exact DoesN.of (evUn_ok s (t.ev _) h1)
  · exact DoesN.of (evConv_ok s (t.ev _) h)
  · rename_i tt x
    split at h
    · cases h
    · rename_i d hd hu
      cases h
      refine ⟨_, .iface tt (act.eval x), w, F, μ, ?_, .inl rfl, Ext.refl _ _ _, s, .iface _ _ _ (t.ev x)⟩
      cases d <;> first | (exact (hd _ rfl).elim) | simp [execOp, Instr.makeInterface, run_underlying hu]
    · cases h
  · rename_i fn fs cs
    cases h
    refine ⟨_, .func fn (fs.map act.eval) (cs.map act.eval), w, F, μ, by simp [execOp, Instr.makeFunc], .inl rfl, Ext.refl _ _ _, s, .func _ _ _ _ _ ?_ ?_⟩
    · rw [Array.toList_map]; exact t.evs _
    · rw [Array.toList_map]; exact t.evs _
  · rename_i tt
    cases h
    exact DoesN.of (evMakeMap_ok s tt)
  · exact DoesN.of (evRange_ok s (t.ev _) h)
  · rw [Option.map_eq_some_iff] at h
    obtain ⟨v', h1, h⟩ := h
    cases h
    exact DoesN.of (evEntry_ok s (t.ev _) h1)
  · exact DoesN.of (evMakeSlice_ok s (t.ev _) (t.ev _) h)
  · split at h
    · rename_i v' h1
      cases h
      exact DoesN.of (evSlice_ok s (t.ev _) (t.evo _) (t.evo _) (t.evo _) h1)
    · split at h
      · rw [Option.map_eq_some_iff] at h
        obtain ⟨v', h1, h⟩ := h
        cases h
        exact DoesN.of (evSliceArr_ok s (t.ev _) h1)
      · cases h
  · rw [Option.map_eq_some_iff] at h
    obtain ⟨v', h1, h⟩ := h
    cases h
    exact DoesN.of (evFieldAddr_ok s (t.ev _) h1)
  · rw [Option.map_eq_some_iff] at h
    obtain ⟨v', h1, h⟩ := h
    cases h
    exact DoesN.of (evField_ok s (t.ev _) h1)
  · rw [Option.map_eq_some_iff] at h
    obtain ⟨v', h1, h⟩ := h
    cases h
    exact DoesN.of (evIndexAddr_ok s (t.ev _) (t.ev _) h1)
  · rw [Option.map_eq_some_iff] at h
    obtain ⟨v', h1, h⟩ := h
    cases h
    exact DoesN.of (evIndex_ok s (t.ev _) (t.ev _) h1)
  · rw [Option.map_eq_some_iff] at h
    obtain ⟨v', h1, h⟩ := h
    cases h
    exact DoesN.of (evLookup_ok s (t.ev _) (t.ev _) h1)
  · rw [Option.map_eq_some_iff] at h
    obtain ⟨v', h1, h⟩ := h
    cases h
    obtain ⟨w', h2, h3, h4⟩ := evMapUpdate_ok (P := P) s (t.ev _) (t.ev _) (t.ev _) h1
    exact DoesN.ofU h2 h3 h4
  · rw [Option.map_eq_some_iff] at h
    obtain ⟨v', h1, h⟩ := h
    cases h
    obtain ⟨w', h2, h3, h4⟩ := evMapUpdate_ok (P := P) s (t.ev _) (t.ev _) (t.ev _) h1
    exact DoesN.ofU h2 h3 h4
  · rename_i x i
    split at h
    · rename_i l hl
      rw [Option.map_eq_some_iff] at h
      obtain ⟨v', h1, h⟩ := h
      cases h
      have hx := t.ev x
      rw [hl] at hx
      generalize hX : act.eval x = X at hx
      cases hx with
      | tup _ A hA =>
        obtain ⟨V, h2, h3⟩ := hA.get h1
        rw [Array.getElem?_toList] at h2
        exact ⟨_, V, w, F, μ, by simp [execOp, hX, Instr.extract, h2], .inl rfl, Ext.refl _ _ _, s, h3⟩
    · cases h
  · rename_i c
    obtain ⟨callee, args, argTypes⟩ := c
    simp only at h
    split at h
    case h_2 => cases h
    rename_i b
    have hres : ∀ (l : List Operand), args.toList = l → args = l.toArray := fun l h => by rw [← h]
    have htys : ∀ (l : List TypeId), argTypes.toList = l → argTypes = l.toArray := fun l h => by rw [← h]
    split at h
    · rename_i x tt ha hb
      rw [Option.map_eq_some_iff] at h
      obtain ⟨v', h1, h⟩ := h
      cases h
      obtain rfl := hres _ ha
      obtain rfl := htys _ hb
      have := DoesN.of (evLen_ok (P := P) (rT := ty) s (t.ev x) h1)
      simpa [execOp, resolve, invoke, builtin] using this
    · rename_i x tt ha hb
      rw [Option.map_eq_some_iff] at h
      obtain ⟨v', h1, h⟩ := h
      cases h
      obtain rfl := hres _ ha
      obtain rfl := htys _ hb
      have := DoesN.of (evCap_ok (P := P) (rT := ty) s (t.ev x) h1)
      simpa [execOp, resolve, invoke, builtin] using this
    · rename_i x y tt u ha hb
      obtain rfl := hres _ ha
      obtain rfl := htys _ hb
      have := DoesN.of (evAppend_ok (P := P) (rT := ty) s (t.ev x) (t.ev y) h)
      simpa [execOp, resolve, invoke, builtin] using this
    · rename_i x y ha
      rw [Option.map_eq_some_iff] at h
      obtain ⟨v', h1, h⟩ := h
      cases h
      obtain rfl := hres _ ha
      have := DoesN.of (evMax_ok (P := P) (ts := argTypes) (rT := ty) s (t.ev x) (t.ev y) h1)
      simpa [execOp, resolve, invoke, builtin] using this
    · rename_i x y ha
      rw [Option.map_eq_some_iff] at h
      obtain ⟨v', h1, h⟩ := h
      cases h
      obtain rfl := hres _ ha
      have := DoesN.of (evMin_ok (P := P) (ts := argTypes) (rT := ty) s (t.ev x) (t.ev y) h1)
      simpa [execOp, resolve, invoke, builtin] using this
    · cases h
  · cases h
end
end Go.Av
namespace Go.Av
set_option linter.unusedVariables false
set_option linter.unusedSimpArgs false
open Go.RowKit (Below)

/-- What is known of a call. -/
inductive CR where
  | pure (out : Out)
  | sh (out : Out) (H' : List OB)
  | any (S : Out → List OB → Prop)

/-- Who is called: a function, or the body of a loop over a function. -/
inductive Cl where
  | fn (f : FuncId)
  | yld (id : Nat)

/-- A call of a function with a body: which one, with what. -/
def callOf (a : St) (o : Op) : Option (Cl × List AV) :=
  match o with
  | .call c => match c.callee with
    | .value f => match a.ev f with
      | .func (.func g) fs cs => some (.fn g, fs ++ c.args.toList.map a.ev ++ cs)
      | .yld id => some (.yld id, c.args.toList.map a.ev)
      | _ => none
    | _ => none
  | _ => none

/-- The body of a loop over a function, called with these, ends so. -/
def YFn (P : Program) (id : Nat) (args : List AV) (H : List OB) (out : Out) (H' : List OB) : Prop :=
  ∀ (w0 : World) (F0 F : Nat → Nat → Prop) (μ : Nat → Option Loc) (w : World) (Vs : List Value) (L : Loc), Sim w0 F0 F μ H w → VRs F w μ args Vs → μ id = some L →
    YieldAt Fence.wide 0 P L.block Vs.toArray w (fun e w' => ∃ F' μ', Ext F w μ F' w' μ' ∧ Sim w0 F0 F' μ' H' w' ∧ OutR F' w' μ' out e)

/-- A function that writes memory of the caller's, and of which not all is told. -/
def ShFnS (P : Program) (f : FuncId) (args : List AV) (H : List OB) (S : Out → List OB → Prop) : Prop :=
  ∀ (w0 : World) (F0 F : Nat → Nat → Prop) (μ : Nat → Option Loc) (w : World) (Vs : List Value), Sim w0 F0 F μ H w → VRs F w μ args Vs →
    CallsA P f Vs.toArray w (fun e w' => ∃ out H' F' μ', S out H' ∧ Ext F w μ F' w' μ' ∧ Sim w0 F0 F' μ' H' w' ∧ OutR F' w' μ' out e)

theorem ShFnS.one {P : Program} {f : FuncId} {args : List AV} {H H' : List OB} {out : Out} (h : ShFnS P f args H (fun o K => o = out ∧ K = H')) : ShFn P f args H out H' :=
  fun w0 F0 F μ w Vs s hv => (h w0 F0 F μ w Vs s hv).mono fun e w' ⟨_, _, F', μ', ⟨e1, e2⟩, x, s', o⟩ => by subst e1; subst e2; exact ⟨F', μ', x, s', o⟩

theorem ShFnS.mono {P : Program} {f : FuncId} {args : List AV} {H : List OB} {S S' : Out → List OB → Prop} (h : ShFnS P f args H S) (hs : ∀ o K, S o K → S' o K) : ShFnS P f args H S' :=
  fun w0 F0 F μ w Vs s hv => (h w0 F0 F μ w Vs s hv).mono fun e w' ⟨o, K, F', μ', h1, x, s', h2⟩ => ⟨o, K, F', μ', hs _ _ h1, x, s', h2⟩

def ClOK (P : Program) (c : Cl) (args : List AV) (H : List OB) (out : Out) (H' : List OB) : Prop :=
  match c with
  | .fn f => ShFn P f args H out H'
  | .yld id => YFn P id args H out H'

/-- What a run of an operation that calls comes to. -/
def Goes (P : Program) (r : Result Next) (R : Ending → World → Prop) : Prop :=
  (∃ f Vs w1, r = .ok (.enter f Vs) w1 ∧ Calls P f Vs w1 R) ∨ (∃ V w1, r = .ok (.value V) w1 ∧ R (.returned V) w1) ∨
  (∃ l f tmps as bd w1, r = .ok (.round l f tmps as bd) w1 ∧ RoundIn Fence.wide 0 P l f tmps as bd w1 R)

def isPanic : Op → Option Operand
  | .panic x => some x
  | _ => none

/-- Is an operation carried out? -/
def gdA (ops : Array Oper) (a : St) (g : Option (Nat × Bool)) : Option Bool :=
  match g with
  | none => some true
  | some (j, want) => match (ops[j]?).bind (·.dst) with
    | some d => match get a.T d with
      | .bool b => some (b == want)
      | .tup _ => some false
      | _ => none
    | none => none

def Out.scalar : Out → Bool
  | .ret r => r.scalar
  | .pan _ v => v.scalar

/-- What a callee of values is handed: the caller's own memory is lent to it. -/
def lend (H : List OB) (args : List AV) (out : Out) : Option (List AV) :=
  if AV.hfs args = true then some args else if out.scalar = true then args.mapM (fz H 20) else none

def EOps (P : Program) (ops : Array Oper) (Q : Ex → St → Prop) : List CR → List Oper → St → Prop
  | _, [], a => Q .normal a
  | rs, o :: rest, a => match gdA ops a o.guard with
    | none => False
    | some false => EOps P ops Q rs rest (a.put o.dst (.tup []))
    | some true => match callOf a o.op with
      | some (f, args) => match rs with
        | .pure out :: rs => match f with
          | .fn f => match lend a.H args out with
            | some args' => PureFn P f args' out ∧ match out with
              | .ret r => EOps P ops Q rs rest (a.put o.dst r)
              | .pan t v => Q (.panic t v) a
            | none => False
          | .yld _ => False
        | .sh out H' :: rs => ClOK P f args a.H out H' ∧ match out with
          | .ret r => EOps P ops Q rs rest ({ a with H := H' }.put o.dst r)
          | .pan t v => Q (.panic t v) { a with H := H' }
        | .any S :: rs => match f with
          | .fn f => ShFnS P f args a.H S ∧ ∀ out H', S out H' → match out with
            | .ret r => EOps P ops Q rs rest ({ a with H := H' }.put o.dst r)
            | .pan t v => Q (.panic t v) { a with H := H' }
          | .yld _ => False
        | [] => False
      | none => match isPanic o.op with
        | some x => match a.ev x with
          | .iface t v => Q (.panic t v) a
          | _ => False
        | none => match nextOf o.op a.ev a.H with
         | some (id, ks, vs, seen) => ∀ v H', NextR a.H id ks vs seen v H' → EOps P ops Q rs rest ({ a with H := H' }.put o.dst v)
         | none => match altA P o.op a with
          | true => ∀ b : Bool, EOps P ops Q rs rest (a.put o.dst (.bool b))
          | false => match evalOp P o.op a with
            | some (v, H') => EOps P ops Q rs rest ({ a with H := H' }.put o.dst v)
            | none => False

def fits (n : Nat) (ops : Array Oper) : Bool := ops.toList.all fun o => match o.dst with | some d => d < n | none => true

section
variable {P : Program} {w0 : World} {F0 F F' : Nat → Nat → Prop} {μ μ' : Nat → Option Loc} {H H' : List OB} {w w' : World} {n m : Nat} {R : Option Nat} {a : St} {act : Act} {Q : Ex → St → Prop}

theorem RelT.put (t : RelT n F μ a act w) (x : Ext F w μ F' w' μ') {v : AV} {V : Value} (hv : VR F' w' μ' v V) {dst : Option Nat} (hd : ∀ d, dst = some d → d < n) :
    RelT n F' μ' ({ a with H := H' }.put dst v) (act.put dst V) w' := by
  cases dst with
  | none => exact ⟨t.defers.mono x.mu, t.size, fun s => VR.mono x (t.slots s)⟩
  | some d =>
    refine ⟨t.defers.mono x.mu, by simp [Act.put, t.size], fun s => ?_⟩
    simp only [St.put, get, Act.put]
    by_cases e : d = s
    · subst e
      rw [if_pos rfl]
      have : d < act.tmps.size := by rw [t.size]; exact hd d rfl
      simp [Array.getD_eq_getD_getElem?, Array.getElem?_setIfInBounds, this, hv]
    · rw [if_neg e]
      have := t.slots s
      simp only [Array.getD_eq_getD_getElem?, Array.getElem?_setIfInBounds, if_neg e] at this ⊢
      exact VR.mono x this

theorem RelT.mono (t : RelT n F μ a act w) (x : Ext F w μ F' w' μ') : RelT n F' μ' a act w' := ⟨t.defers.mono x.mu, t.size, fun s => VR.mono x (t.slots s)⟩

theorem gdA_ok {ops : Array Oper} {o : Oper} {b : Bool} (t : RelT n F μ a act w) (hf : ∀ (j : Nat) (o' : Oper) (d : Nat), ops[j]? = some o' → o'.dst = some d → d < n) (h : gdA ops a o.guard = some b) : Region.wanted o (yielded ops act.tmps) = b := by
  unfold gdA at h
  unfold Region.wanted
  split at h
  · rename_i hg; cases h; rw [hg]
  · rename_i j want hg
    rw [hg]
    simp only
    split at h
    · rename_i d hd
      split at h
      · rename_i b' hb
        cases h
        have hs := t.slots d
        rw [hb] at hs
        generalize hV : act.tmps.getD d undef = V at hs
        cases hs
        have hlt : d < act.tmps.size := by
          rw [t.size]
          cases ho : ops[j]? with
          | none => rw [ho] at hd; cases hd
          | some o' => rw [ho] at hd; exact hf j o' d ho hd
        have hget : act.tmps[d]? = some (.bool b') := by
          rw [Array.getD_eq_getD_getElem?] at hV
          rw [Array.getElem?_eq_getElem hlt] at hV ⊢
          simp at hV; rw [hV]
        unfold yielded
        rw [hd]
        simp only [Option.bind_some, hget]
        cases b' <;> cases want <;> rfl
      · rename_i l' hb
        cases h
        have hs := t.slots d
        rw [hb] at hs
        generalize hV : act.tmps.getD d undef = V at hs
        cases hs
        have hlt : d < act.tmps.size := by
          rw [t.size]
          cases ho : ops[j]? with
          | none => rw [ho] at hd; cases hd
          | some o' => rw [ho] at hd; exact hf j o' d ho hd
        rename_i A _
        have hget : act.tmps[d]? = some (.tuple A) := by
          rw [Array.getD_eq_getD_getElem?] at hV
          rw [Array.getElem?_eq_getElem hlt] at hV ⊢
          simp at hV; rw [hV]
        unfold yielded
        rw [hd]
        simp only [Option.bind_some, hget]
        cases want <;> rfl
      · cases h
    · cases h

/-- What was there is as it was: what is still written is still written. -/
theorem Sim.behind (s : Sim w0 F0 F μ H w) (hb : Below w.heap.size w w') (hF : ∀ b o, F b o → F' b o) (hlt : ∀ b o, F' b o → b < w'.heap.size) (hold : ∀ b o, b < w.heap.size → F' b o → F b o) :
    Ext F w μ F' w' μ ∧ Sim w0 F0 F' μ H w' := by
  have x : Ext F w μ F' w' μ := by
    refine ⟨fun _ _ h => h, hF, ?_, ?_⟩
    · intro b o V hf h
      rw [hb.cell (p := ⟨b, o, none⟩) (s.lt b o hf)]; exact h
    · intro b es c hf h
      rw [hb.block b (s.lt b 0 hf)]; exact h
  refine ⟨x, ⟨s.below.trans (hb.mono s.below.size), fun b o h => hF b o (s.new b o h), ?_, hlt, ?_, s.apart, s.dom⟩⟩
  · intro b o hbl h
    exact s.old b o hbl (hold b o (by have := s.below.size; omega) h)
  · intro id blk h
    by_cases hl : blk.live = true
    · obtain ⟨L, h1, h2, h3, h4⟩ := (s.obs id blk h).loc hl
      refine (s.obs id blk h).mono x ?_ ?_
      · intro L' e; rw [h1] at e; cases e; exact hb.block _ h3
      · intro L' o e hf; rw [h1] at e; cases e; exact hold _ _ h3 hf
    · exact OBR.dead_of (by simpa using hl)

theorem OutR.noμ {out : Out} {e : Ending} (h : OutR F w noμ out e) : OutR F w μ out e := by
  have x : Ext F w Av.noμ F w μ := ⟨(fun _ _ h => by cases h), fun _ _ h => h, fun _ _ _ _ h => h, fun _ _ _ _ h => h⟩
  cases h with
  | ret r R h => exact .ret r R (VR.mono x h)
  | pan t v V h => exact .pan t v V (VR.mono x h)

theorem OutR.scalar {F F' : Nat → Nat → Prop} {w w' : World} {μ μ' : Nat → Option Loc} {out : Out} {e : Ending} (h : OutR F w μ out e) (hs : out.scalar = true) : OutR F' w' μ' out e := by
  cases h with
  | ret r R h => exact .ret r R (h.of_scalar hs)
  | pan t v V h => exact .pan t v V (h.of_scalar hs)

/-- A call of a function of values. -/
theorem PureFn.call (s : Sim w0 F0 F μ H w) {f : FuncId} {args args' : List AV} {out : Out} {Vs : List Value} (hl : lend H args out = some args') (hp : PureFn P f args' out) (hv : VRs F w μ args Vs) :
    CallsA P f Vs.toArray w (fun e w' => ∃ F' μ', Ext F w μ F' w' μ' ∧ Sim w0 F0 F' μ' H w' ∧ OutR F' w' μ' out e) := by
  unfold lend at hl
  split at hl
  · rename_i hh
    cases hl
    refine (hp F w Vs s.lt (hv.hf_no hh)).mono ?_
    rintro e w' ⟨hb, F', h1, h2, h3, h4⟩
    obtain ⟨x, s'⟩ := s.behind hb h1 h2 h3
    exact ⟨F', μ, x, s', h4.noμ⟩
  · split at hl
    case isFalse => cases hl
    rename_i hsc
    obtain ⟨hlen, hget⟩ := mapM_get hl
    have hlt : ∀ b o, lent F μ H b o → b < w.heap.size := by
      rintro b o (h | ⟨id, blk, L, h1, h2, h3, rfl⟩)
      · exact s.lt b o h
      · obtain ⟨L', h4, _, h5, _⟩ := (s.obs id blk h1).loc h2
        rw [h3] at h4; cases h4; exact h5
    have hv' : VRs (lent F μ H) w noμ args' Vs := by
      refine .of_get (by rw [hlen, VRs.len hv]) fun i v' hi => ?_
      have hil : i < args.length := by rw [← hlen]; exact (List.getElem?_eq_some_iff.1 hi).1
      obtain ⟨v'', h1, h2⟩ := hget i args[i] (List.getElem?_eq_getElem hil)
      rw [hi] at h1; cases h1
      obtain ⟨V, h3, h4⟩ := hv.get (List.getElem?_eq_getElem hil)
      exact ⟨V, h3, fz_ok s _ _ _ _ h2 h4⟩
    refine (hp _ w Vs hlt hv').mono ?_
    rintro e w' ⟨hb, F', h1, h2, h3, h4⟩
    obtain ⟨x, s'⟩ := s.behind (F' := F) hb (fun _ _ h => h) (fun b o h => by have := s.lt b o h; have := hb.size; omega) (fun _ _ _ h => h)
    exact ⟨F, μ, x, s', h4.scalar hsc⟩

theorem callOf_fn (t : RelT n F μ a act w) {o : Oper} {f : FuncId} {args : List AV} (h : callOf a o.op = some (.fn f, args)) :
    ∃ Vs : List Value, VRs F w μ args Vs ∧ ∀ w', (execOp act.eval o).run P w' = (callFunc f Vs.toArray).run P w' := by
  obtain ⟨dst, op, ty, pos, after, guard⟩ := o
  simp only at h
  unfold callOf at h
  split at h
  case h_2 => cases h
  rename_i c
  obtain ⟨callee, args0, argTypes⟩ := c
  simp only at h
  split at h
  case h_2 => cases h
  rename_i x
  split at h
  · rename_i g fs cs hx
    cases h
    have hv := t.ev x
    rw [hx] at hv
    generalize hX : act.eval x = X at hv
    cases hv with
    | func _ _ _ Fs Cs h1 h2 =>
      refine ⟨Fs.toList ++ args0.toList.map act.eval ++ Cs.toList, (h1.append (t.evs _)).append h2, fun w' => ?_⟩
      simp only [execOp, resolve, hX, Deferred.ofValue, Sem.run_bind, Sem.run_pure, Result.andThen, invoke]
      congr 1
      congr 1
      apply Array.ext'
      simp
  · cases h
  · cases h

theorem callOf_yld (t : RelT n F μ a act w) {o : Oper} {id : Nat} {args : List AV} (h : callOf a o.op = some (.yld id, args)) :
    ∃ (Vs : List Value) (L : Loc), μ id = some L ∧ VRs F w μ args Vs ∧ ∀ w', (execOp act.eval o).run P w' = (Instr.yield L.block Vs.toArray).run P w' := by
  obtain ⟨dst, op, ty, pos, after, guard⟩ := o
  simp only at h
  unfold callOf at h
  split at h
  case h_2 => cases h
  rename_i c
  obtain ⟨callee, args0, argTypes⟩ := c
  simp only at h
  split at h
  case h_2 => cases h
  rename_i x
  split at h
  · cases h
  · rename_i id' hx
    cases h
    have hv := t.ev x
    rw [hx] at hv
    generalize hX : act.eval x = X at hv
    cases hv with
    | yld _ L hμ =>
      refine ⟨args0.toList.map act.eval, L, hμ, t.evs _, fun w' => ?_⟩
      simp only [execOp, resolve, hX, Deferred.ofValue, Sem.run_bind, Sem.run_pure, Result.andThen, invoke]
      congr 1
      congr 1
      apply Array.ext'
      simp
  · cases h

theorem callOf_op {a : St} {o : Op} {c : Cl × List AV} (h : callOf a o = some c) : ∀ d, o ≠ .defer d := by
  rintro d rfl; cases h

theorem ClOK.goes (s : Sim w0 F0 F μ H w) (t : RelT n F μ { a with H := H } act w) {o : Oper} {f : Cl} {args : List AV} (h : callOf a o.op = some (f, args)) {out : Out} (hp : ClOK P f args H out H') :
    Goes P ((execOp act.eval o).run P w) (fun e w' => ∃ F' μ', Ext F w μ F' w' μ' ∧ Sim w0 F0 F' μ' H' w' ∧ OutR F' w' μ' out e) := by
  cases f with
  | fn f =>
    obtain ⟨Vs, hVs, hrun⟩ := callOf_fn (P := P) (a := { a with H := H }) t (o := o) h
    rw [hrun w]
    rcases hp w0 F0 F μ w Vs s hVs with ⟨w1, h1, rfl, h2⟩ | ⟨V, w1, h1, h2⟩
    · exact .inl ⟨f, _, _, h1, h2⟩
    · exact .inr (.inl ⟨V, w1, h1, h2⟩)
  | yld id =>
    obtain ⟨Vs, L, hμ, hVs, hrun⟩ := callOf_yld (P := P) (a := { a with H := H }) t (o := o) h
    rw [hrun w]
    obtain ⟨fn, tmps, as, bd, h1, h2⟩ := hp w0 F0 F μ w Vs L s hVs hμ
    exact .inr (.inr ⟨L.block, fn, tmps, as, bd, w, h1, h2⟩)

theorem callsIn_fnc {k : Nat} {f : FuncId} {Vs : Array Value} {E : Ending → World → Prop} : CallsIn (fnc R) k P f Vs w E ↔ Calls P f Vs w E := callsIn_wide (n := k)

theorem roundIn_fnc {k : Nat} {l f : Nat} {tmps : Array Value} {as bd : Code} {E : Ending → World → Prop} (h : RoundIn Fence.wide 0 P l f tmps as bd w E) : RoundIn (fnc R) k P l f tmps as bd w E :=
  ⟨trivial, fun c cs _ => h.2 c cs (room_wide _)⟩

theorem isPanic_ok {o : Oper} {x : Operand} (h : isPanic o.op = some x) : o.op = .panic x := by
  unfold isPanic at h
  split at h
  · cases h; assumption
  · cases h

theorem EOps_ok {B : Bs m} {ops : Array Oper} (hf : ∀ (j : Nat) (o' : Oper) (d : Nat), ops[j]? = some o' → o'.dst = some d → d < n) : ∀ (rest : List Oper) (k : Nat) (rs : List CR) (a : St) (act : Act) (w : World),
    (∀ i o, rest[i]? = some o → ops[k + i]? = some o) → EOps P ops Q rs rest a → Rel n B a act w → wpOpsIn (fnc R) 1 P ops (RelE n B Q) (List.range' k rest.length) act w := by
  intro rest
  induction rest with
  | nil =>
    intro k rs a act w hk h hr
    obtain ⟨F, μ, s, y, t⟩ := hr
    exact ⟨_, a, F, μ, h, .normal, s, y, t⟩
  | cons o rest ih =>
    intro k rs a act w hk h hr
    obtain ⟨F, μ, s, y, t⟩ := hr
    have ho : ops[k]? = some o := hk 0 o rfl
    have hk' : ∀ i o', rest[i]? = some o' → ops[k + 1 + i]? = some o' := fun i o' hi => by
      rw [show k + 1 + i = k + (i + 1) from by omega]; exact hk (i + 1) o' (by simpa using hi)
    have hd : ∀ d, o.dst = some d → d < n := fun d hd => hf k o d ho hd
    rw [List.length_cons, List.range'_succ]
    simp only [wpOpsIn, ho]
    have habout : ∀ f, o.about P w act.eval = some f → (fnc R).fn f := fun _ _ => trivial
    unfold EOps at h
    split at h
    · exact h.elim
    · rename_i hg
      have := gdA_ok t hf hg
      simp only [this, Bool.false_eq_true, if_false]
      refine ⟨habout, ih (k + 1) rs _ _ _ hk' h ⟨F, μ, ?_, y, t.put (Ext.refl _ _ _) (.tup [] #[] .nil) hd⟩⟩
      cases o.dst <;> exact s
    · rename_i hg
      have := gdA_ok t hf hg
      simp only [this, if_true]
      refine ⟨habout, ?_⟩
      split at h
      · rename_i f args hc
        rw [Oper.semAt_eq _ _ _ (callOf_op hc)]
        -- what is known of the call
        have keyS : ∀ (S : Out → List OB → Prop) (nextOK : ∀ r H', S (.ret r) H' → ∃ rs', EOps P ops Q rs' rest ({ a with H := H' }.put o.dst r)) (panOK : ∀ tt v H', S (.pan tt v) H' → Q (.panic tt v) { a with H := H' }),
            Goes P ((execOp act.eval o).run P w) (fun e w' => ∃ out H' F' μ', S out H' ∧ Ext F w μ F' w' μ' ∧ Sim B.w0 B.F0 F' μ' H' w' ∧ OutR F' w' μ' out e) →
            o.uponIn (fnc R) 1 P act (wpOpsIn (fnc R) 1 P ops (RelE n B Q) (List.range' (k + 1) rest.length)) (RelE n B Q) ((execOp act.eval o).run P w) := by
          intro S nextOK panOK hcall
          have fin : ∀ (e : Ending) (w' : World), (∃ out H' F' μ', S out H' ∧ Ext F w μ F' w' μ' ∧ Sim B.w0 B.F0 F' μ' H' w' ∧ OutR F' w' μ' out e) →
              (match (generalizing := false) e, w' with
                | .returned v, w'' => wpOpsIn (fnc R) 1 P ops (RelE n B Q) (List.range' (k + 1) rest.length) (act.put o.dst v) w''
                | .panicked chain, w'' => RelE n B Q (.panic chain) act w''
                | .outgrown, _ => LetsOut (RelE n B Q)) := by
            rintro e w' ⟨out, H', F', μ', hS, x, s', ho'⟩
            cases ho' with
            | ret r Rv hr =>
              obtain ⟨rs', hn⟩ := nextOK r H' hS
              exact ih (k + 1) rs' _ _ _ hk' hn ⟨F', μ', by cases o.dst <;> exact s', y.trans x, t.put x hr hd⟩
            | pan tt v V hv => exact ⟨_, _, F', μ', panOK tt v H' hS, .panic tt v V hv, s', y.trans x, ⟨t.defers.mono x.mu, t.size, fun s => VR.mono x (t.slots s)⟩⟩
          rcases hcall with ⟨f, Vs, w1, h1, h2⟩ | ⟨V, w1, h1, h2⟩ | ⟨l, f, tmps, as, bd, w1, h1, h2⟩
          · rw [h1, Oper.uponIn_enter]
            exact ⟨fun _ => Nat.le_refl _, callsIn_fnc.2 (h2.mono fin)⟩
          · rw [h1, Oper.uponIn_value]
            exact fin (.returned V) w1 h2
          · rw [h1, Oper.uponIn_round]
            exact ⟨fun _ => Nat.le_refl _, roundIn_fnc (h2.mono fin)⟩
        have key : ∀ (out : Out) (H' : List OB) (nextOK : ∀ r, out = .ret r → ∃ rs', EOps P ops Q rs' rest ({ a with H := H' }.put o.dst r)) (panOK : ∀ tt v, out = .pan tt v → Q (.panic tt v) { a with H := H' }),
            Goes P ((execOp act.eval o).run P w) (fun e w' => ∃ F' μ', Ext F w μ F' w' μ' ∧ Sim B.w0 B.F0 F' μ' H' w' ∧ OutR F' w' μ' out e) →
            o.uponIn (fnc R) 1 P act (wpOpsIn (fnc R) 1 P ops (RelE n B Q) (List.range' (k + 1) rest.length)) (RelE n B Q) ((execOp act.eval o).run P w) := by
          intro out H' nextOK panOK hcall
          refine keyS (fun o K => o = out ∧ K = H') ?_ ?_ ?_
          · rintro r K ⟨e1, rfl⟩; exact nextOK r e1.symm
          · rintro tt v K ⟨e1, rfl⟩; exact panOK tt v e1.symm
          · rcases hcall with ⟨f, Vs, w1, h1, h2⟩ | ⟨V, w1, h1, h2⟩ | ⟨l, f, tmps, as, bd, w1, h1, h2⟩
            · exact .inl ⟨f, Vs, w1, h1, h2.mono fun e w' ⟨F', μ', q⟩ => ⟨out, H', F', μ', ⟨rfl, rfl⟩, q⟩⟩
            · exact .inr (.inl ⟨V, w1, h1, let ⟨F', μ', q⟩ := h2; ⟨out, H', F', μ', ⟨rfl, rfl⟩, q⟩⟩)
            · exact .inr (.inr ⟨l, f, tmps, as, bd, w1, h1, h2.mono fun e w' ⟨F', μ', q⟩ => ⟨out, H', F', μ', ⟨rfl, rfl⟩, q⟩⟩)
        split at h
        · rename_i out rs
          split at h
          · rename_i f
            split at h
            · rename_i args' hl
              obtain ⟨hp, hq⟩ := h
              obtain ⟨Vs, hVs, hrun⟩ := callOf_fn (P := P) t hc
              refine key out a.H ?_ ?_ ?_
              · rintro r rfl; exact ⟨rs, hq⟩
              · rintro tt v rfl; exact hq
              · rw [hrun w]
                rcases PureFn.call s hl hp hVs with ⟨w1, h1, rfl, h2⟩ | ⟨V, w1, h1, h2⟩
                · exact .inl ⟨f, _, _, h1, h2⟩
                · exact .inr (.inl ⟨V, w1, h1, h2⟩)
            · exact h.elim
          · exact h.elim
        · rename_i out H' rs
          obtain ⟨hp, hq⟩ := h
          refine key out H' ?_ ?_ (ClOK.goes s (a := a) t hc hp)
          · rintro r rfl; exact ⟨rs, hq⟩
          · rintro tt v rfl; exact hq
        · rename_i S rs
          split at h
          · rename_i f
            obtain ⟨hp, hq⟩ := h
            obtain ⟨Vs, hVs, hrun⟩ := callOf_fn (P := P) t hc
            refine keyS S (fun r H' hS => ⟨rs, hq _ _ hS⟩) (fun tt v H' hS => hq _ _ hS) ?_
            rw [hrun w]
            rcases hp B.w0 B.F0 F μ w Vs s hVs with ⟨w1, h1, rfl, h2⟩ | ⟨V, w1, h1, h2⟩
            · exact .inl ⟨f, _, _, h1, h2⟩
            · exact .inr (.inl ⟨V, w1, h1, h2⟩)
          · exact h.elim
        · exact h.elim
      · split at h
        · rename_i x hx
          have hop := isPanic_ok hx
          rw [Oper.semAt_eq _ _ _ (by rw [hop]; simp)]
          split at h
          · rename_i tt v hv
            have hvv := t.ev x
            rw [hv] at hvv
            generalize hX : act.eval x = X at hvv
            cases hvv with
            | iface _ _ V hV =>
              have hr : (execOp act.eval o).run P w = .halt (.panic (.iface tt V)) w := by
                unfold execOp
                rw [hop]
                simp [hX, Instr.panic, goPanic]
              rw [hr, Oper.uponIn_panic]
              exact ⟨_, a, F, μ, h, .panic tt v V hV, s, y, t⟩
          · exact h.elim
        · split at h
          · rename_i id ks vs seen hnx
            obtain ⟨x, b, hop⟩ : ∃ x b, o.op = .next x b := by
              unfold nextOf at hnx
              split at hnx
              · rename_i x hop; exact ⟨x, false, hop⟩
              · cases hnx
            rw [Oper.semAt_eq _ _ _ (by rw [hop]; simp)]
            obtain ⟨v, H', hn, hdo⟩ := next_ok (P := P) (ty := o.type) s hop (t.ev x) hnx
            have : DoesN P (execOp act.eval o) B.w0 B.F0 F μ w v H' := by
              unfold execOp
              rw [hop]
              exact DoesN.of hdo
            obtain ⟨nx, V, w', F', μ', h1, h2, h3, h4, h5⟩ := this
            rw [h1]
            have hrel : Rel n B ({ a with H := H' }.put o.dst v) (act.put o.dst V) w' := ⟨F', μ', by cases o.dst <;> exact h4, y.trans h3, t.put h3 h5 hd⟩
            rcases h2 with rfl | ⟨rfl, rfl⟩
            · rw [Oper.uponIn_value]; exact ih (k + 1) rs _ _ _ hk' (h v H' hn) hrel
            · rw [Oper.uponIn_skip]; exact ih (k + 1) rs _ _ _ hk' (h v H' hn) hrel
          split at h
          · rename_i halt
            obtain ⟨b, hb⟩ := altA_ok (P := P) t halt
            rw [Oper.semAt_eq _ _ _ (by rintro c hc; rw [hc] at halt; cases halt), hb, Oper.uponIn_value]
            exact ih (k + 1) rs _ _ _ hk' (h b) ⟨F, μ, by cases o.dst <;> exact s, y, t.put (Ext.refl _ _ _) (.bool b) hd⟩
          split at h
          · rename_i v H' hev
            rw [Oper.semAt_eq _ _ _ (by rintro c hc; rw [hc] at hev; cases hev)]
            obtain ⟨nx, V, w', F', μ', h1, h2, h3, h4, h5⟩ := evalOp_ok (P := P) (o := o) s t hev
            rw [h1]
            have hrel : Rel n B ({ a with H := H' }.put o.dst v) (act.put o.dst V) w' := ⟨F', μ', by cases o.dst <;> exact h4, y.trans h3, t.put h3 h5 hd⟩
            rcases h2 with rfl | ⟨rfl, rfl⟩
            · rw [Oper.uponIn_value]; exact ih (k + 1) rs _ _ _ hk' h hrel
            · rw [Oper.uponIn_skip]; exact ih (k + 1) rs _ _ _ hk' h hrel
          · exact h.elim

theorem fits_get {ops : Array Oper} (h : fits n ops = true) (j : Nat) (o : Oper) (d : Nat) (ho : ops[j]? = some o) (hd : o.dst = some d) : d < n := by
  unfold fits at h
  have := List.all_eq_true.1 h o (Array.mem_toList_iff.2 (Array.mem_of_getElem? ho))
  rw [hd] at this
  simpa using this

theorem W.region {id : Nat} {ops : Array Oper} (rs : List CR) (hf : fits n ops = true) (h : EOps P ops Q rs ops.toList a) : W P n m R (.region id ops false) Q a := by
  intro B act w r
  refine wpIn_region ?_
  have := EOps_ok (P := P) (R := R) (Q := Q) (B := B) (fits_get hf) ops.toList 0 rs a act w (fun i o hi => by rw [Nat.zero_add, ← Array.getElem?_toList]; exact hi) h r
  rw [Array.length_toList, ← List.range_eq_range'] at this
  exact this
end
end Go.Av
namespace Go.Av
set_option linter.unusedVariables false
set_option linter.unusedSimpArgs false
open Go.RowKit (Below)

/-! ### A value told less exactly -/

mutual
inductive Le : AV → AV → Prop
  | refl (v : AV) : Le v v
  | junk (v : AV) : Le v .junk
  | exact (wd : Nat) (x : Bool) (es : List AV) : Le (.vsl wd x es) (.vsl wd false es)
  | nil (wd wd' : Nat) (x : Bool) : Le (.vsl wd x []) (.vsl wd' false [])
  | agg (l l' : List AV) (h : Les l l') : Le (.agg l) (.agg l')
  | tup (l l' : List AV) (h : Les l l') : Le (.tup l) (.tup l')
inductive Les : List AV → List AV → Prop
  | nil : Les [] []
  | cons (v v' : AV) (l l' : List AV) (h : Le v v') (t : Les l l') : Les (v :: l) (v' :: l')
end

section
variable {F : Nat → Nat → Prop} {w : World} {μ : Nat → Option Loc}
mutual
theorem VR.le {v v' : AV} {V : Value} (h : VR F w μ v V) : Le v v' → VR F w μ v' V
  | .refl _ => h
  | .junk _ => .junk _
  | .exact wd x es => by
    cases h with
    | vsl _ _ _ A cap hx hl hb ha => exact .vsl wd false es A cap (fun h => by cases h) hl hb ha
  | .nil wd wd' x => by
    cases h with
    | vsl _ _ _ A cap hx hl hb ha => exact .vsl wd' false [] A cap (fun h => by cases h) hl hb (.nil _ _)
  | .agg l l' hl => by
    cases h with
    | agg _ A hA => exact .agg l' A (VRs.le hA hl)
  | .tup l l' hl => by
    cases h with
    | tup _ A hA => exact .tup l' A (VRs.le hA hl)
theorem VRs.le {l l' : List AV} {L : List Value} (h : VRs F w μ l L) : Les l l' → VRs F w μ l' L
  | .nil => h
  | .cons v v' l l' hv t => by
    cases h with
    | cons _ V _ L h1 h2 => exact .cons _ _ _ _ (VR.le h1 hv) (VRs.le h2 t)
end
end

/-! ### Handles below a number -/

mutual
def AV.hlt (m : Nat) : AV → Bool
  | .ptr id _ | .sl id _ _ _ | .map id | .yld id => decide (id < m)
  | .vptr l => AV.hlts m l
  | .vsl _ _ l => AV.hlts m l
  | .vmap ks vs => AV.hlts m ks && AV.hlts m vs
  | .func _ fs cs => AV.hlts m fs && AV.hlts m cs
  | .iface _ v => AV.hlt m v
  | .agg l => AV.hlts m l
  | .tup l => AV.hlts m l
  | _ => true
def AV.hlts (m : Nat) : List AV → Bool
  | [] => true
  | v :: l => AV.hlt m v && AV.hlts m l
end

def hltT (m : Nat) : List (Nat × AV) → Bool
  | [] => true
  | (_, v) :: r => v.hlt m && hltT m r

theorem hltT_get {m : Nat} : ∀ {T : List (Nat × AV)}, hltT m T = true → ∀ t, (get T t).hlt m = true := by
  intro T
  induction T with
  | nil => intro _ t; rfl
  | cons p r ih =>
    intro h t
    obtain ⟨s, v⟩ := p
    simp only [hltT, Bool.and_eq_true] at h
    simp only [get]
    split
    · exact h.1
    · exact ih h.2 t

def OB.hlt (m : Nat) : OB → Bool
  | .cells cs _ => AV.hlts m cs
  | .map ks vs => AV.hlts m ks && AV.hlts m vs
  | .loop T _ => hltT m T
  | .dfr => true
  | .iter ks vs _ => AV.hlts m ks && AV.hlts m vs
  | .dead => true

theorem hlts_all (m : Nat) (l : List AV) : AV.hlts m l = l.all (AV.hlt m) := by
  induction l with
  | nil => rfl
  | cons v l ih => simp [AV.hlts, ih]

def cutμ (m : Nat) (μ : Nat → Option Loc) : Nat → Option Loc := fun i => if i < m then μ i else none

section
variable {P : Program} {w0 : World} {F0 F F' : Nat → Nat → Prop} {μ μ' : Nat → Option Loc} {H H' : List OB} {w w' : World} {n m k : Nat} {a b : St} {act : Act} {R : Option Nat} {Q : Ex → St → Prop}

mutual
theorem VR.cut {v : AV} {V : Value} : VR F w μ v V → AV.hlt m v = true → VR F w (cutμ m μ) v V
  | .junk V, _ => .junk V
  | .bool b, _ => .bool b
  | .int k n, _ => .int k n
  | .str s hb, _ => .str s hb
  | .nilptr, _ => .nilptr
  | .ptr id off L h, hh => .ptr id off L (by simp [AV.hlt] at hh; simp [cutμ, hh, h])
  | .vptr cs b o h, hh => .vptr cs b o (VRm.cut h (by simpa [AV.hlt] using hh))
  | .sl id off len wd cap L h hc hl hb, hh => .sl id off len wd cap L (by simp [AV.hlt] at hh; simp [cutμ, hh, h]) hc hl hb
  | .vsl wd e es A cap hx hl hb h, hh => .vsl wd e es A cap hx hl hb (VRa.cut h (by simpa [AV.hlt] using hh))
  | .nilmap, _ => .nilmap
  | .map id L h, hh => .map id L (by simp [AV.hlt] at hh; simp [cutμ, hh, h])
  | .vmap ks vs r es clock hF hr hb h, hh => .vmap ks vs r es clock hF hr hb (VRk.cut h (by simp [AV.hlt] at hh; exact hh.1) (by simp [AV.hlt] at hh; exact hh.2))
  | .func fn fs cs Fs Cs hf hc, hh => .func fn fs cs Fs Cs (VRs.cut hf (by simp [AV.hlt] at hh; exact hh.1)) (VRs.cut hc (by simp [AV.hlt] at hh; exact hh.2))
  | .nilfunc, _ => .nilfunc
  | .iface t v V h, hh => .iface t v V (VR.cut h (by simpa [AV.hlt] using hh))
  | .nilif, _ => .nilif
  | .agg l A h, hh => .agg l A (VRs.cut h (by simpa [AV.hlt] using hh))
  | .tup l A h, hh => .tup l A (VRs.cut h (by simpa [AV.hlt] using hh))
  | .yld id L h, hh => .yld id L (by simp [AV.hlt] at hh; simp [cutμ, hh, h])
theorem VRs.cut {vs : List AV} {Vs : List Value} : VRs F w μ vs Vs → AV.hlts m vs = true → VRs F w (cutμ m μ) vs Vs
  | .nil, _ => .nil
  | .cons v V vs Vs h t, hh => .cons v V vs Vs (VR.cut h (by simp [AV.hlts] at hh; exact hh.1)) (VRs.cut t (by simp [AV.hlts] at hh; exact hh.2))
theorem VRm.cut {vs : List AV} {b o : Nat} : VRm F w μ vs b o → AV.hlts m vs = true → VRm F w (cutμ m μ) vs b o
  | .nil b o, _ => .nil b o
  | .cons v V vs b o hF hc h t, hh => .cons v V vs b o hF hc (VR.cut h (by simp [AV.hlts] at hh; exact hh.1)) (VRm.cut t (by simp [AV.hlts] at hh; exact hh.2))
theorem VRe.cut {vs : List AV} {size b o : Nat} : VRe F w μ vs size b o → AV.hlts m vs = true → VRe F w (cutμ m μ) vs size b o
  | .nil s b o, _ => .nil s b o
  | .cons v vs s b o hs h t, hh => .cons v vs s b o hs (VRm.cut h (by
      simp [AV.hlts] at hh
      have h1 := hh.1
      cases v <;> simp_all [AV.cells, AV.hlts, AV.hlt])) (VRe.cut t (by simp [AV.hlts] at hh; exact hh.2))
theorem VRa.cut {vs : List AV} {size : Nat} {A : Option Addr} : VRa F w μ vs size A → AV.hlts m vs = true → VRa F w (cutμ m μ) vs size A
  | .nil s A, _ => .nil s A
  | .at es s b o h, hh => .at es s b o (VRe.cut h hh)
theorem VRk.cut {ks vs : List AV} {es : List MapEntry} : VRk F w μ ks vs es → AV.hlts m ks = true → AV.hlts m vs = true → VRk F w (cutμ m μ) ks vs es
  | .nil, _, _ => .nil
  | .cons k v ks vs e es hk hv t, h1, h2 => .cons k v ks vs e es (VR.cut hk (by simp [AV.hlts] at h1; exact h1.1)) (VR.cut hv (by simp [AV.hlts] at h2; exact h2.1)) (VRk.cut t (by simp [AV.hlts] at h1; exact h1.2) (by simp [AV.hlts] at h2; exact h2.2))
end

/-- The first m blocks alone, some of them given up. -/
theorem Sim.cut (s : Sim w0 F0 F μ H w) (hm : H'.length = m) (hsub : ∀ (i : Nat) (blk : OB), H'[i]? = some blk → blk = .dead ∨ (H[i]? = some blk ∧ blk.hlt m = true)) :
    Sim w0 F0 F (cutμ m μ) H' w := by
  have hl : ∀ (i : Nat) (blk : OB), H'[i]? = some blk → blk.live = true → H[i]? = some blk ∧ blk.hlt m = true := by
    intro i blk hi hl
    rcases hsub i blk hi with rfl | h
    · cases hl
    · exact h
  have hc : ∀ i L, cutμ m μ i = some L → μ i = some L ∧ i < m := by
    intro i L h
    unfold cutμ at h
    split at h
    · exact ⟨h, ‹_›⟩
    · cases h
  refine ⟨s.below, s.new, s.old, s.lt, ?_, ?_, ?_⟩
  · intro i blk hi
    by_cases hlv : blk.live = true
    · obtain ⟨h1, h2⟩ := hl i blk hi hlv
      have him : i < m := by rw [← hm]; exact (List.getElem?_eq_some_iff.1 hi).1
      cases s.obs i blk h1 with
      | cells cs opn L c el lo hi2 hμ hB hw hcap hlen hfix hun hcs hF =>
        refine .cells cs opn L c el lo hi2 (by simp [cutμ, him, hμ]) hB hw hcap hlen hfix hun (fun j v hj => ?_) hF
        obtain ⟨V, h3, h4⟩ := hcs j v hj
        simp only [OB.hlt, hlts_all] at h2
        exact ⟨V, h3, h4.cut (List.all_eq_true.1 h2 v (List.mem_of_getElem? hj))⟩
      | map ks vs L es clock hμ hB hw hes hb hF =>
        simp only [OB.hlt, Bool.and_eq_true] at h2
        exact .map ks vs L es clock (by simp [cutμ, him, hμ]) hB hw (hes.cut h2.1 h2.2) hb hF
      | loop T K L rec hμ hB hw e1 e2 e3 e4 e5 e6 hT hF =>
        exact .loop T K L rec (by simp [cutμ, him, hμ]) hB hw e1 e2 e3 e4 e5 e6 (fun t => (hT t).cut (hltT_get h2 t)) hF
      | dfr L hμ hB hw hF => exact .dfr L (by simp [cutμ, him, hμ]) hB hw hF
      | iter ks vs seen L mm es clock ss hμ hB h0 hw hm hmw hb hk hss hF =>
        simp only [OB.hlt, Bool.and_eq_true] at h2
        exact .iter ks vs seen L mm es clock ss (by simp [cutμ, him, hμ]) hB h0 hw hm hmw hb (hk.cut h2.1 h2.2) hss hF
      | dead => cases hlv
    · exact OBR.dead_of (by simpa using hlv)
  · intro i j bi bj Li Lj hi hj li lj mi mj hij
    exact s.apart i j bi bj Li Lj (hl i bi hi li).1 (hl j bj hj lj).1 li lj (hc i Li mi).1 (hc j Lj mj).1 hij
  · intro i L h
    rw [hm]; exact (hc i L h).2

/-- Slots told less exactly. -/
def subT (T : List (Nat × AV)) : List (Nat × AV) → Prop
  | [] => True
  | (t, v) :: r => Le (get T t) v ∧ subT T r

/-- Blocks, the first of some, each as it was or given up. -/
def subH (m : Nat) : List OB → List OB → Prop
  | _, [] => True
  | blk :: r, .dead :: r' => subH m r r'
  | blk :: r, blk' :: r' => blk = blk' ∧ blk'.hlt m = true ∧ subH m r r'
  | [], _ :: _ => False

theorem subH_get : ∀ {H H' : List OB}, subH m H H' → ∀ (i : Nat) (blk : OB), H'[i]? = some blk → blk = .dead ∨ (H[i]? = some blk ∧ blk.hlt m = true) := by
  intro H H'
  induction H' generalizing H with
  | nil => intro _ i blk h; simp at h
  | cons b' r' ih =>
    intro h i blk hi
    cases H with
    | nil => cases b' <;> simp [subH] at h
    | cons b r =>
      cases i with
      | zero =>
        simp at hi; subst hi
        cases b' with
        | dead => exact .inl rfl
        | cells _ _ => simp only [subH] at h; exact .inr ⟨by simp [h.1], h.2.1⟩
        | map _ _ => simp only [subH] at h; exact .inr ⟨by simp [h.1], h.2.1⟩
        | loop _ _ => simp only [subH] at h; exact .inr ⟨by simp [h.1], h.2.1⟩
        | dfr => simp only [subH] at h; exact .inr ⟨by simp [h.1], h.2.1⟩
        | iter _ _ _ => simp only [subH] at h; exact .inr ⟨by simp [h.1], h.2.1⟩
      | succ i =>
        have h' : subH m r r' := by
          cases b' with
          | dead => exact h
          | cells _ _ => simp only [subH] at h; exact h.2.2
          | map _ _ => simp only [subH] at h; exact h.2.2
          | loop _ _ => simp only [subH] at h; exact h.2.2
          | dfr => simp only [subH] at h; exact h.2.2
          | iter _ _ _ => simp only [subH] at h; exact h.2.2
        simpa using ih h' i blk (by simpa using hi)

theorem subT_get {T : List (Nat × AV)} : ∀ {T' : List (Nat × AV)}, subT T T' → hltT m T' = true → ∀ t, get T' t = .junk ∨ (Le (get T t) (get T' t) ∧ (get T' t).hlt m = true) := by
  intro T'
  induction T' with
  | nil => intro _ _ t; exact .inl rfl
  | cons p r ih =>
    intro h hh t
    obtain ⟨s, v⟩ := p
    simp only [subT] at h
    simp only [hltT, Bool.and_eq_true] at hh
    simp only [get]
    by_cases e : s = t
    · subst e; rw [if_pos rfl]; exact .inr ⟨h.1, hh.1⟩
    · rw [if_neg e]; exact ih h.2 hh.2 t

/-- A state told less exactly. -/
theorem VD.cut {D : List Nat} {ds : List Deferred} (h : VD μ D ds) (hh : D.all (fun id => decide (id < m)) = true) : VD (cutμ m μ) D ds := by
  induction h with
  | nil => exact .nil
  | cons id L D ds h _ ih =>
    simp only [List.all_cons, Bool.and_eq_true, decide_eq_true_eq] at hh
    exact .cons id L D ds (by simp [cutμ, hh.1, h]) (ih hh.2)

theorem Rel.weaken {B : Bs k} (hD : a.D = b.D ∧ b.D.all (fun id => decide (id < b.H.length)) = true) (hk : k ≤ b.H.length) (hT : subT a.T b.T) (hh : hltT b.H.length b.T = true) (hH : subH b.H.length a.H b.H) (r : Rel n B a act w) : Rel n B b act w := by
  obtain ⟨F, μ, s, y, t⟩ := r
  have hc : ∀ id L, B.μs id = some L → cutμ b.H.length μ id = some L := by
    intro id L h
    have := B.dom id L h
    unfold cutμ
    rw [if_pos (by omega)]; exact y.mu _ _ h
  refine ⟨F, cutμ b.H.length μ, s.cut rfl (subH_get hH), ⟨hc, y.fr, y.cell, y.obj⟩, ⟨(hD.1 ▸ t.defers).cut hD.2, t.size, fun i => ?_⟩⟩
  rcases subT_get hT hh i with h | ⟨h1, h2⟩
  · rw [h]; exact .junk _
  · exact ((t.slots i).le h1).cut h2

theorem W.weaken {c : Code} (b : St) (hD : a.D = b.D ∧ b.D.all (fun id => decide (id < b.H.length)) = true) (hk : k ≤ b.H.length) (hT : subT a.T b.T) (hh : hltT b.H.length b.T = true) (hH : subH b.H.length a.H b.H) (h : W P n k R c Q b) : W P n k R c Q a :=
  fun B act w r => h B act w (r.weaken hD hk hT hh hH)

/-! ### Functions -/

def argT : Nat → List AV → List (Nat × AV)
  | _, [] => []
  | i, v :: vs => (i, v) :: argT (i + 1) vs

/-- One result. -/
def resA1 (P : Program) (a : St) : ResultVar → Option AV
  | .tmp t => some (get a.T t)
  | .cell t ty => evLoad P ty (get a.T t) a.H

/-- The results. -/
def resA (P : Program) (rs : List ResultVar) (a : St) : Option AV :=
  match rs with
  | [r] => resA1 P a r
  | rs => (rs.mapM (resA1 P a)).map .tup

def retP (P : Program) (rs : List ResultVar) (out : Out) (a : St) : Prop :=
  match out with
  | .ret r => ∃ r', (resA P rs a).bind (fz a.H 20) = some r' ∧ Le r' r
  | _ => False

/-- The marks are taken. -/
def takeD (H : List OB) : List Nat → Option (List OB)
  | [] => some H
  | id :: D => match H[id]? with
    | some .dfr => takeD (H.set id .dead) D
    | _ => none

/-- A state behind the marks. -/
def endA (a : St) : Option St := (takeD a.H a.D).map fun H' => ⟨a.T, H', []⟩

/-- The end of a function of values. -/
def retQ (P : Program) (rs : List ResultVar) (out : Out) : Ex → St → Prop
  | .normal, a | .ret, a => ∃ a', endA a = some a' ∧ retP P rs out a'
  | .panic t v, a => ∃ a', endA a = some a' ∧ match out with
    | .pan t' v' => t = t' ∧ ∃ v0, fz a'.H 20 v = some v0 ∧ Le v0 v'
    | _ => False
  | _, _ => False

theorem get_argT (vs : List AV) : ∀ (i t : Nat), get (argT i vs) t = if i ≤ t then (vs[t - i]?).getD .junk else .junk := by
  induction vs with
  | nil => intro i t; simp [argT, get]
  | cons v vs ih =>
    intro i t
    simp only [argT, get]
    by_cases e : i = t
    · subst e; simp
    · rw [if_neg e, ih]
      by_cases h : i + 1 ≤ t
      · rw [if_pos h, if_pos (by omega), show t - i = (t - (i + 1)) + 1 from by omega]; simp
      · rw [if_neg h, if_neg (by omega)]

theorem RelT.start {args : List AV} {Vs : List Value} (hv : VRs F w μ args Vs) (hn : args.length ≤ n) :
    RelT n F μ ⟨argT 0 args, H, []⟩ { tmps := Vs.toArray ++ Array.replicate (n - Vs.toArray.size) undef, defers := [] } w := by
  have hl := VRs.len hv
  refine ⟨.nil, by simp; omega, fun t => ?_⟩
  rw [get_argT, if_pos (Nat.zero_le _), Nat.sub_zero]
  cases hi : args[t]? with
  | none => exact .junk _
  | some v =>
    obtain ⟨V, h1, h2⟩ := hv.get hi
    have : t < Vs.length := (List.getElem?_eq_some_iff.1 h1).1
    simp only [Option.getD_some]
    rw [Array.getD_eq_getD_getElem?, Array.getElem?_append_left (by simpa using this)]
    simpa [h1] using h2

theorem resA1_ok (s : Sim w0 F0 F μ a.H w) (t : RelT n F μ a act w) {r : ResultVar} {v : AV} (h : resA1 P a r = some v) :
    ∃ V, (match r with | .tmp t => pure (act.tmps.getD t undef) | .cell x ty => do loadVar ty (← asAddr (act.tmps.getD x undef)) : Sem Value).run P w = .ok V w ∧ VR F w μ v V := by
  cases r with
  | tmp x => simp only [resA1, Option.some.injEq] at h; subst h; exact ⟨_, rfl, t.slots x⟩
  | cell x ty =>
    simp only [resA1] at h
    have hx := t.slots x
    have h' := h
    unfold evLoad at h
    split at h
    · rename_i sz ag hs ha
      split at h
      · rename_i id off hg
        rw [hg] at hx
        generalize hX : act.tmps.getD x undef = X at hx ⊢
        split at h
        · rename_i cs opn hid
          cases hx with
          | ptr _ _ L hμ =>
            cases s.obs id _ hid with
            | cells _ _ L' c el lo hi hμ' hB hw hcap hlen hfix hun hcs hF =>
              rw [hμ] at hμ'; cases hμ'
              obtain ⟨V, h1, h2⟩ := run_loadVar (P := P) (F := F) (w := w) (μ := μ) hs ha (b := L.block) (o := L.off) h (fun i v hiv => by
                obtain ⟨V, h3, h4⟩ := hcs i v hiv
                exact ⟨V, by rw [cell_eq w _ _ c el (lo, hi) hw]; exact h3, h4⟩)
              exact ⟨V, by simp only [Sem.run_bind, hX, asAddr, Sem.run_pure, Result.andThen, h1], h2⟩
        · cases h
      · rename_i cs hg
        rw [hg] at hx
        generalize hX : act.tmps.getD x undef = X at hx ⊢
        cases hx with
        | vptr _ b o hm =>
          obtain ⟨V, h1, h2⟩ := run_loadVar (P := P) (F := F) (w := w) (μ := μ) hs ha (b := b) (o := o) h (fun i v hi => (hm.get hi).2)
          exact ⟨V, by simp only [Sem.run_bind, hX, asAddr, Sem.run_pure, Result.andThen]; simpa using h1, h2⟩
      · cases h
    · cases h

theorem resAs_ok (s : Sim w0 F0 F μ a.H w) (t : RelT n F μ a act w) : ∀ {rs : List ResultVar} {vs : List AV}, rs.mapM (resA1 P a) = some vs →
    ∃ Vs : List Value, (rs.mapM (fun r => (match r with | .tmp t => pure (act.tmps.getD t undef) | .cell x ty => do loadVar ty (← asAddr (act.tmps.getD x undef)) : Sem Value))).run P w = .ok Vs w ∧ VRs F w μ vs Vs := by
  intro rs
  induction rs with
  | nil => intro vs h; simp at h; subst h; exact ⟨[], rfl, .nil⟩
  | cons r rs ih =>
    intro vs h
    simp only [List.mapM_cons] at h
    cases hr : resA1 P a r with
    | none => rw [hr] at h; cases h
    | some v =>
      rw [hr] at h
      cases hrs : rs.mapM (resA1 P a) with
      | none => rw [hrs] at h; cases h
      | some vs' =>
        rw [hrs] at h; cases h
        obtain ⟨V, h1, h2⟩ := resA1_ok (P := P) s t hr
        obtain ⟨Vs, h3, h4⟩ := ih hrs
        exact ⟨V :: Vs, by simp only [List.mapM_cons, Sem.run_bind, h1, Result.andThen, h3, Sem.run_pure], .cons _ _ _ _ h2 h4⟩

theorem results_ok {fn : Func} (s : Sim w0 F0 F μ a.H w) (t : RelT n F μ a act w) {v : AV} (h : resA P fn.results.toList a = some v) : ∃ V, (results fn act.tmps).run P w = .ok V w ∧ VR F w μ v V := by
  have hm : ∀ {vs : List AV}, fn.results.toList.mapM (resA1 P a) = some vs → ∃ Vs : List Value, VRs F w μ vs Vs ∧ Vs.length = fn.results.toList.length ∧ (results fn act.tmps).run P w = .ok (if h : Vs.toArray.size = 1 then Vs.toArray[0] else .tuple Vs.toArray) w := by
    intro vs hvs
    obtain ⟨Vs, h1, h2⟩ := resAs_ok (P := P) s t hvs
    have hlen : Vs.length = fn.results.toList.length := by
      rw [VRs.len h2]
      have key : ∀ (rs : List ResultVar) (vs : List AV), rs.mapM (resA1 P a) = some vs → vs.length = rs.length := by
        intro rs
        induction rs with
        | nil => intro vs h; simp at h; subst h; rfl
        | cons r rs ih =>
          intro vs h
          simp only [List.mapM_cons] at h
          cases hr : resA1 P a r with
          | none => rw [hr] at h; cases h
          | some v =>
            rw [hr] at h
            cases hrs : rs.mapM (resA1 P a) with
            | none => rw [hrs] at h; cases h
            | some vs' => rw [hrs] at h; cases h; simp [ih _ hrs]
      exact key _ _ hvs
    refine ⟨Vs, h2, hlen, ?_⟩
    unfold results
    rw [Array.mapM_eq_mapM_toList]
    simp only [Sem.run_bind, Sem.run_map]
    have h1' : (fn.results.toList.mapM (fun r => (match r with | .tmp t => pure (act.tmps.getD t undef) | .cell x ty => do loadVar ty (← asAddr (act.tmps.getD x undef)) : Sem Value))).run P w = .ok Vs w := h1
    refine (congrArg (fun r : Result (List Value) => (r.andThen _).andThen _) h1').trans ?_
    rfl
  unfold resA at h
  split at h
  · rename_i r hr
    have hvs : fn.results.toList.mapM (resA1 P a) = some [v] := by rw [hr]; simp [h]
    obtain ⟨Vs, h1, h2, h3⟩ := hm hvs
    cases h1 with
    | cons _ V _ Vs h4 h5 =>
      cases h5
      exact ⟨V, by simpa using h3, h4⟩
  · rename_i hne
    rw [Option.map_eq_some_iff] at h
    obtain ⟨vs, hvs, rfl⟩ := h
    obtain ⟨Vs, h1, h2, h3⟩ := hm hvs
    refine ⟨.tuple Vs.toArray, ?_, .tup _ _ (by simpa using h1)⟩
    rw [h3, dif_neg]
    intro h4
    have : fn.results.toList.length = 1 := by rw [← h2]; simpa using h4
    match hq : fn.results.toList with
    | [] => rw [hq] at this; cases this
    | [r] => exact hne r hq
    | _ :: _ :: _ => rw [hq] at this; simp at this

theorem lent_lt (s : Sim w0 F0 F μ H w) : ∀ b o, lent F μ H b o → b < w.heap.size := by
  rintro b o (h | ⟨id, blk, L, h1, h2, h3, rfl⟩)
  · exact s.lt b o h
  · obtain ⟨L', h4, _, h5, _⟩ := (s.obs id blk h1).loc h2
    rw [h3] at h4; cases h4; exact h5

theorem lent_old (s : Sim w0 F0 F μ H w) : ∀ b o, b < w0.heap.size → lent F μ H b o → F0 b o := by
  rintro b o hb (h | ⟨id, blk, L, h1, h2, h3, rfl⟩)
  · exact s.old b o hb h
  · obtain ⟨L', h4, h5, _, _⟩ := (s.obs id blk h1).loc h2
    rw [h3] at h4; cases h4; omega

/-- A function leaves: its marks are taken. -/
theorem takeD_ok {fn : Func} {tmps : Array Value} {E : Ending → World → Prop} {u : FrameMode} (hu : u ≠ .run) : ∀ {D : List Nat} {ds : List Deferred} {H H' : List OB} {w : World}, Sim w0 F0 F μ H w → takeD H D = some H' → VD μ D ds →
    (∀ w', Ext F w μ F w' μ → Sim w0 F0 F μ H' w' → LeavesIn Fence.wide 1 P fn tmps E [] u w') → LeavesInM Fence.wide 1 P fn tmps E ds u w := by
  intro D
  induction D with
  | nil =>
    intro ds H H' w s h hd hlast
    cases hd
    simp only [takeD, Option.some.injEq] at h; subst h
    exact hlast w (Ext.refl _ _ _) s
  | cons id D ih =>
    intro ds H H' w s h hd hlast
    cases hd with
    | cons _ L _ ds hμ hd =>
      simp only [takeD] at h
      split at h
      case h_2 => cases h
      rename_i hid
      have hob := s.obs id _ hid
      cases hob with
      | dfr L' hμ' hB hw hF =>
        rw [hμ] at hμ'; cases hμ'
        obtain ⟨x, s'⟩ := s.write id .dfr .dead L hid rfl hμ (.deferred none) (fun _ => .dead)
        refine ⟨hu, .inl ⟨L.block, _, rfl, ?_, ih s' h hd fun w' x' s'' => hlast w' (x.trans x') s''⟩⟩
        simp [Instr.takeDeferred, getObj, setObj, Sem.run, Sem.run_bind, hw, Result.andThen]

theorem endA_ok {fn : Func} {tmps : Array Value} {E : Ending → World → Prop} {u : FrameMode} (hu : u ≠ .run) {a' : St} (s : Sim w0 F0 F μ a.H w) (t : RelT n F μ a act w) (h : endA a = some a')
    (hlast : ∀ w', Ext F w μ F w' μ → Sim w0 F0 F μ a'.H w' → RelT n F μ a' { act with defers := [] } w' → LeavesIn Fence.wide 1 P fn tmps E [] u w') : LeavesInM Fence.wide 1 P fn tmps E act.defers u w := by
  unfold endA at h
  rw [Option.map_eq_some_iff] at h
  obtain ⟨H', h1, rfl⟩ := h
  exact takeD_ok hu s h1 t.defers fun w' x s' => hlast w' x s' ⟨.nil, t.size, fun i => VR.mono x (t.slots i)⟩

/-- A function of values, out of its body. -/
theorem PureFn.of {f : FuncId} {fn : Func} {c : Code} {args : List AV} {out : Out} (hf : P.funcs[f]? = some fn) (hb : fn.body = some c) (hc : ∀ Vs w, (callFunc f Vs).run P w = .ok (.enter f Vs) w) (hn : args.length ≤ fn.ntmps)
    (h : W P fn.ntmps 0 none c (retQ P fn.results.toList out) ⟨argT 0 args, [], []⟩) : PureFn P f args out := by
  intro F w Vs hlt hv
  refine .inl ⟨w, hc _ _, rfl, (callsIn_wide (n := 1)).1 (callsIn_of_wp_marks hf hb trivial ?_ rfl)⟩
  have s0 : Sim w F F noμ [] w := ⟨Below.refl _ _, fun _ _ h => h, fun _ _ _ h => h, hlt, by simp, by simp, fun _ _ h => by cases h⟩
  refine wpIn_mono (h ⟨w, F, w, F, noμ, fun _ _ h => by cases h⟩ _ w ⟨F, noμ, s0, Ext.refl _ _ _, RelT.start hv hn⟩) ?_
  rintro e act' w' ⟨ex, a', F', μ', hq, hx, s, y, t⟩
  have hpost : ∀ (H' : List OB) w'' out' e', Sim w F F' μ' H' w'' → OutR (lent F' μ' H') w'' noμ out' e' → Post F w out' e' w'' := by
    intro H' w'' out' e' s ho
    exact ⟨s.below, lent F' μ' H', fun b o h => .inl (s.new b o h), lent_lt s, fun b o hb h => lent_old s b o hb h, ho⟩
  have hret : (∃ a1, endA a' = some a1 ∧ retP P fn.results.toList out a1) → LeavesInM Fence.wide 1 P fn act'.tmps (Post F w out) act'.defers .returning w' := by
    rintro ⟨a1, h1, hq⟩
    refine endA_ok (by simp) s t h1 fun w'' x s'' t'' => ?_
    cases out with
    | pan _ _ => exact hq.elim
    | ret r =>
      obtain ⟨r', h1, h2⟩ := hq
      rw [Option.bind_eq_some_iff] at h1
      obtain ⟨r0, h3, h4⟩ := h1
      obtain ⟨V, h5, h6⟩ := results_ok (P := P) (act := { act' with defers := [] }) s'' t'' h3
      exact ⟨V, h5, hpost _ _ _ _ s'' (.ret r V ((fz_ok s'' _ _ _ _ h4 h6).le h2))⟩
  cases hx with
  | normal => exact hret hq
  | ret => exact hret hq
  | exit id => exact hq.elim
  | goto l => exact hq.elim
  | panic tt v V hV =>
    obtain ⟨a1, h1, hq⟩ := hq
    refine endA_ok (by simp) s t h1 fun w'' x s'' t'' => ?_
    cases out with
    | ret _ => exact hq.elim
    | pan t' v' =>
      obtain ⟨rfl, v0, h1, h2⟩ := hq
      exact hpost _ _ _ _ s'' (.pan tt v' V ((fz_ok s'' _ _ _ _ h1 (VR.mono x hV)).le h2))

def retPS (P : Program) (rs : List ResultVar) (out : Out) (H' : List OB) (a : St) : Prop :=
  match out with
  | .ret r => ∃ r', resA P rs a = some r' ∧ Le r' r ∧ r.hlt H'.length = true ∧ subH H'.length a.H H'
  | _ => False

/-- The end of a function that writes the caller's memory. -/
def retS (P : Program) (rs : List ResultVar) (out : Out) (H' : List OB) : Ex → St → Prop
  | .normal, a | .ret, a => ∃ a', endA a = some a' ∧ retPS P rs out H' a'
  | .panic t v, a => ∃ a', endA a = some a' ∧ match out with
    | .pan t' v' => t = t' ∧ Le v v' ∧ v'.hlt H'.length = true ∧ subH H'.length a'.H H'
    | _ => False
  | _, _ => False

/-- A function that writes the caller's memory, out of its body. -/
theorem ShFn.of {f : FuncId} {fn : Func} {c : Code} {args : List AV} {out : Out} (hf : P.funcs[f]? = some fn) (hb : fn.body = some c) (hc : ∀ Vs w, (callFunc f Vs).run P w = .ok (.enter f Vs) w) (hn : args.length ≤ fn.ntmps)
    (hle : H.length ≤ H'.length) (h : W P fn.ntmps H.length none c (retS P fn.results.toList out H') ⟨argT 0 args, H, []⟩) : ShFn P f args H out H' := by
  intro w0 F0 F μ w Vs s0 hv
  refine .inl ⟨w, hc _ _, rfl, (callsIn_wide (n := 1)).1 (callsIn_of_wp_marks hf hb trivial ?_ rfl)⟩
  refine wpIn_mono (h ⟨w0, F0, w, F, μ, s0.dom⟩ _ w ⟨F, μ, s0, Ext.refl _ _ _, RelT.start hv hn⟩) ?_
  rintro e act' w' ⟨ex, a', F', μ', hq, hx, s, y, t⟩
  have hext : ∀ (H1 : List OB) (w'' : World) (x : Ext F' w' μ' F' w'' μ') (s'' : Sim w0 F0 F' μ' H1 w'') (hs : subH H'.length H1 H'), Ext F w μ F' w'' (cutμ H'.length μ') ∧ Sim w0 F0 F' (cutμ H'.length μ') H' w'' := by
    intro H1 w'' x s'' hs
    have y' := y.trans x
    refine ⟨⟨?_, y'.fr, y'.cell, y'.obj⟩, s''.cut rfl (subH_get hs)⟩
    intro id L hL
    have := s0.dom id L hL
    unfold cutμ
    rw [if_pos (by omega)]
    exact y'.mu _ _ hL
  have hret : (∃ a1, endA a' = some a1 ∧ retPS P fn.results.toList out H' a1) → LeavesInM Fence.wide 1 P fn act'.tmps (fun e w' => ∃ F' μ', Ext F w μ F' w' μ' ∧ Sim w0 F0 F' μ' H' w' ∧ OutR F' w' μ' out e) act'.defers .returning w' := by
    rintro ⟨a1, h1, hq⟩
    refine endA_ok (by simp) s t h1 fun w'' x s'' t'' => ?_
    cases out with
    | pan _ _ => exact hq.elim
    | ret r =>
      obtain ⟨r', h1, h2, h3, h4⟩ := hq
      obtain ⟨V, h5, h6⟩ := results_ok (P := P) (act := { act' with defers := [] }) s'' t'' h1
      obtain ⟨x1, s1⟩ := hext _ _ x s'' h4
      exact ⟨V, h5, F', _, x1, s1, .ret r V ((h6.le h2).cut h3)⟩
  cases hx with
  | normal => exact hret hq
  | ret => exact hret hq
  | exit id => exact hq.elim
  | goto l => exact hq.elim
  | panic tt v V hV =>
    obtain ⟨a1, h1, hq⟩ := hq
    refine endA_ok (by simp) s t h1 fun w'' x s'' t'' => ?_
    cases out with
    | ret _ => exact hq.elim
    | pan t' v' =>
      obtain ⟨rfl, h2, h3, h4⟩ := hq
      obtain ⟨x1, s1⟩ := hext _ _ x s'' h4
      exact ⟨F', _, x1, s1, .pan tt v' V (((VR.mono x hV).le h2).cut h3)⟩
end
end Go.Av
namespace Go.Av
set_option linter.unusedVariables false
set_option linter.unusedSimpArgs false
open Go.RowKit (Below)

def putsA (T : List (Nat × AV)) : List Tmp → List AV → List (Nat × AV)
  | p :: ps, v :: vs => putsA ((p, v) :: T) ps vs
  | _, _ => T

/-- How a round ends. -/
def roundQ (id : Nat) (out : Out) (H' : List OB) : Ex → St → Prop
  | .normal, a => ∃ T K, a.H[id]? = some (.loop T K) ∧ out = .ret (.bool true) ∧ H' = a.H.set id (.loop T { K with st := .ready, pend := none })
  | .ret, a => ∃ T K, a.H[id]? = some (.loop T K) ∧ out = .ret (.bool false) ∧ H' = a.H.set id (.loop T { K with st := .done, pend := some .ret })
  | .exit i, a => ∃ T K, a.H[id]? = some (.loop T K) ∧ out = .ret (.bool false) ∧ H' = a.H.set id (.loop T { K with st := .done, pend := some (.exit i) })
  | .goto i, a => ∃ T K, a.H[id]? = some (.loop T K) ∧ out = .ret (.bool false) ∧ H' = a.H.set id (.loop T { K with st := .done, pend := some (.goto i) })
  | .panic _ _, _ => False

/-- What stands between a round's parameters and its body. -/
def beginQ (P : Program) (n m l : Nat) (id : Nat) (body : Code) (out : Out) (H' : List OB) : Ex → St → Prop
  | .normal, a => ∃ T K, a.H[id]? = some (.loop T K) ∧ K.st = .ready ∧ W P n m (some l) body (roundQ id out H') { a with H := a.H.set id (.loop T { K with st := .busy }) }
  | _, _ => False

section
variable {P : Program} {w0 : World} {F0 F F' : Nat → Nat → Prop} {μ μ' : Nat → Option Loc} {H H' : List OB} {w w' : World} {n m : Nat} {R : Option Nat} {a : St} {act : Act} {Q : Ex → St → Prop}

theorem wpIn_wide_n {c : Code} {k : Nat} {E : Exit → Act → World → Prop} (h : c.wpIn (fnc R) 1 P E act w) : c.wpIn (fnc R) k P E act w :=
  fun b ks cs hro hb _ => h b ks cs hro hb (fun _ hd => by simp [fnc, Fence.wide] at hd)

theorem RelT.puts (n : Nat) (F : Nat → Nat → Prop) (μ : Nat → Option Loc) (w : World) : ∀ {ps : List Tmp} {args : List AV} {Vs : List Value} {T : List (Nat × AV)} {tmps : Array Value}, VRs F w μ args Vs → tmps.size = n → (∀ p ∈ ps, p < n) → ps.length = args.length →
    (∀ t, VR F w μ (get T t) (tmps.getD t undef)) →
    ((ps.zip Vs).foldl (fun tmps (p : Nat × Value) => tmps.setIfInBounds p.1 p.2) tmps).size = n ∧ ∀ t, VR F w μ (get (putsA T ps args) t) (((ps.zip Vs).foldl (fun tmps (p : Nat × Value) => tmps.setIfInBounds p.1 p.2) tmps).getD t undef) := by
  intro ps
  induction ps with
  | nil =>
    intro args Vs T tmps hv hs _ hl hT
    cases args with
    | nil => exact ⟨by simpa using hs, by simpa [putsA] using hT⟩
    | cons _ _ => simp at hl
  | cons p ps ih =>
    intro args Vs T tmps hv hs hp hl hT
    cases hv with
    | nil => simp at hl
    | cons v V vs Vs h t =>
      simp only [List.zip_cons_cons, List.foldl_cons, putsA]
      refine ih t (by simpa using hs) (fun q hq => hp q (List.mem_cons_of_mem _ hq)) (by simpa using hl) fun s => ?_
      simp only [get]
      have hpn : p < tmps.size := by rw [hs]; exact hp p (by simp)
      by_cases e : p = s
      · subst e
        rw [if_pos rfl]
        simp [Array.getD_eq_getD_getElem?, Array.getElem?_setIfInBounds, hpn, h]
      · rw [if_neg e]
        have := hT s
        simp only [Array.getD_eq_getD_getElem?, Array.getElem?_setIfInBounds, if_neg e] at this ⊢
        exact this

/-- A record is turned. -/
theorem Sim.setLoop (s : Sim w0 F0 F μ H w) {id : Nat} {T : List (Nat × AV)} {K : LoopK} (hid : H[id]? = some (.loop T K)) {L : Loc} (hμ : μ id = some L) (st : LoopState) (pe : Option Code) :
    ∃ rec, w.heap[L.block]? = some (.loop rec) ∧ rec.state = K.st ∧ rec.pending = K.pend ∧ Ext F w μ F (w.putObj L.block (.loop { rec with state := st, pending := pe })) μ ∧
      Sim w0 F0 F μ (H.set id (.loop T { K with st := st, pend := pe })) (w.putObj L.block (.loop { rec with state := st, pending := pe })) := by
  have hob := s.obs id _ hid
  cases hob with
  | loop _ _ L' rec hμ' hB hw e1 e2 e3 e4 e5 e6 hT hF =>
    rw [hμ] at hμ'; cases hμ'
    refine ⟨rec, hw, e4, e5, ?_⟩
    exact s.write id _ (.loop T { K with st := st, pend := pe }) L hid rfl hμ _ (fun x => by
      refine .loop T _ L { rec with state := st, pending := pe } hμ hB ?_ e1 e2 e3 rfl rfl e6 (fun t => VR.mono x (hT t)) hF
      show (w.heap.setIfInBounds L.block _)[L.block]? = _
      rw [Array.getElem?_setIfInBounds, if_pos rfl, if_pos (Array.getElem?_eq_some_iff.1 hw).1])

/-- The body of a loop over a function, called. -/
theorem YFn.of {id : Nat} {T : List (Nat × AV)} {K : LoopK} {args : List AV} {out : Out} (hid : H[id]? = some (.loop T K)) (hps : (K.ps.toList.all (fun p => decide (p < K.n)) && decide (K.ps.size = args.length)) = true)
    (h : ∀ l, W P K.n H.length (some l) K.assign (beginQ P K.n H.length l id K.body out H') ⟨putsA T K.ps.toList args, H, []⟩) : YFn P id args H out H' := by
  intro w0 F0 F μ w Vs L s hv hμ
  simp only [Bool.and_eq_true, decide_eq_true_eq] at hps
  obtain ⟨hp1, hp2⟩ := hps
  have hob := s.obs id _ hid
  cases hob with
  | loop _ _ L' rec hμ' hB hw e1 e2 e3 e4 e5 e6 hT hF =>
    rw [hμ] at hμ'; cases hμ'
    have hvl := VRs.len hv
    refine ⟨rec.fn, _, rec.assign, rec.body, run_yield hw (by rw [e1]; simp; omega), ?_⟩
    obtain ⟨z1, z2⟩ := RelT.puts K.n F μ w (ps := K.ps.toList) hv e6 (fun p hp => by simpa using List.all_eq_true.1 hp1 p hp) (by simpa using hp2) hT
    have hfold : (rec.params.zip Vs.toArray).foldl (fun tmps (t, a) => tmps.setIfInBounds t a) rec.tmps = (K.ps.toList.zip Vs).foldl (fun tmps (p : Nat × Value) => tmps.setIfInBounds p.1 p.2) rec.tmps := by
      rw [e1, ← Array.foldl_toList, Array.toList_zip]
    rw [hfold, e2, e3]
    have hn0 : (fnc (some L.block)) = Fence.wide.inRound L.block := rfl
    refine roundIn_of_wpIn trivial ?_
    rw [← hn0]
    refine wpIn_mono (wpIn_wide_n (h L.block ⟨w0, F0, w, F, μ, s.dom⟩ _ w ⟨F, μ, s, Ext.refl _ _ _, ⟨.nil, z1, z2⟩⟩)) ?_
    rintro e act1 w1 ⟨ex, a1, F1, μ1, hq, hx, s1, y1, t1⟩
    cases hx with
    | exit _ => exact hq.elim
    | goto _ => exact hq.elim
    | ret => exact hq.elim
    | panic _ _ _ _ => exact hq.elim
    | normal =>
      obtain ⟨T1, K1, hid1, hst1, hbody⟩ := hq
      have hμ1 := y1.mu _ _ hμ
      obtain ⟨rec1, g1, g2, g3, x1, s2⟩ := s1.setLoop hid1 hμ1 .busy K1.pend
      have hrec : ({ rec1 with state := .busy, pending := K1.pend } : Loop) = { rec1 with state := .busy } := by rw [← g3]
      have hK : ({ K1 with st := .busy, pend := K1.pend } : LoopK) = { K1 with st := .busy } := rfl
      rw [hrec] at x1 s2
      rw [hK] at s2
      refine ⟨_, run_beginRound g1 (g2.trans hst1), ?_⟩
      refine wpIn_mono (wpIn_wide_n (hbody ⟨w0, F0, w, F, μ, s.dom⟩ act1 _ ⟨F1, μ1, s2, y1.trans x1, ⟨t1.defers.mono x1.mu, t1.size, fun i => VR.mono x1 (t1.slots i)⟩⟩)) ?_
      rintro e act2 w2 ⟨ex, a2, F2, μ2, hq, hx, s3, y3, t3⟩
      have hμ2 := y3.mu _ _ hμ
      cases hx with
      | panic _ _ _ _ => exact hq.elim
      | normal =>
        obtain ⟨T2, K2, hid2, rfl, rfl⟩ := hq
        obtain ⟨rec2, g1, _, _, x2, s4⟩ := s3.setLoop hid2 hμ2 .ready none
        exact ⟨_, _, run_endRound none g1, F2, μ2, y3.trans x2, s4, .ret _ _ (.bool true)⟩
      | ret =>
        obtain ⟨T2, K2, hid2, rfl, rfl⟩ := hq
        obtain ⟨rec2, g1, _, _, x2, s4⟩ := s3.setLoop hid2 hμ2 .done (some .ret)
        exact ⟨_, _, run_endRound (some .ret) g1, F2, μ2, y3.trans x2, s4, .ret _ _ (.bool false)⟩
      | exit i =>
        obtain ⟨T2, K2, hid2, rfl, rfl⟩ := hq
        obtain ⟨rec2, g1, _, _, x2, s4⟩ := s3.setLoop hid2 hμ2 .done (some (.exit i))
        exact ⟨_, _, run_endRound (some (.exit i)) g1, F2, μ2, y3.trans x2, s4, .ret _ _ (.bool false)⟩
      | goto i =>
        obtain ⟨T2, K2, hid2, rfl, rfl⟩ := hq
        obtain ⟨rec2, g1, _, _, x2, s4⟩ := s3.setLoop hid2 hμ2 .done (some (.goto i))
        exact ⟨_, _, run_endRound (some (.goto i)) g1, F2, μ2, y3.trans x2, s4, .ret _ _ (.bool false)⟩

/-- What goes on behind a loop over a function. -/
def behindQ (P : Program) (n m : Nat) (Q : Ex → St → Prop) (a : St) : Option Code → Prop
  | none => Q .normal a
  | some c => W P n m none c Q a

/-- A loop over a function. -/
theorem W.rangeFunc {g : Operand} {ps : Array Tmp} {assign body : Code} {gf : FuncId} {fs cs : List AV} {T' : List (Nat × AV)} {K' : LoopK} {r : AV}
    (hg : a.ev g = .func (.func gf) fs cs) (hc : ∀ Vs w, (callFunc gf Vs).run P w = .ok (.enter gf Vs) w)
    (hcall : ShFn P gf (fs ++ [.yld (a.H.length + 1)] ++ cs) (a.H ++ [.dfr, .loop a.T ⟨n, ps, assign, body, .ready, none⟩]) (.ret r) H')
    (hloop : H'[a.H.length + 1]? = some (.loop T' K')) (hst : K'.st ≠ .busy)
    (hq : behindQ P n m Q ⟨a.T, H'.set (a.H.length + 1) .dead, a.H.length :: a.D⟩ K'.pend) : W P n m none (.rangeFunc g ps assign body) Q a := by
  intro B act w ⟨F, μ, s, y, t⟩
  refine wpIn_rangeFunc (F := fnc none) fun fn _ => ?_
  have hgv := t.ev g
  rw [hg] at hgv
  generalize hX : act.eval g = X at hgv
  cases hgv with
  | func _ _ _ Fs Cs h1 h2 =>
    -- the two blocks
    obtain ⟨μ1, x1, m1, s1⟩ := s.alloc (.deferred (some [])) .dfr ⟨w.heap.size, 0, 0⟩ rfl (fun μ' x hm hF => .dfr _ hm s.below.size (by simp) hF)
    have hlen1 : ({ w with heap := w.heap.push (.deferred (some [])) } : World).heap.size = w.heap.size + 1 := by simp
    obtain ⟨μ2, x2, m2, s2⟩ := s1.alloc (.loop { state := .ready, pending := none, fn, tmps := act.tmps, params := ps, assign, body, defers := w.heap.size }) (.loop a.T ⟨n, ps, assign, body, .ready, none⟩)
      ⟨w.heap.size + 1, 0, 0⟩ hlen1.symm (fun μ' x hm hF => .loop _ _ _ { state := .ready, pending := none, fn, tmps := act.tmps, params := ps, assign, body, defers := w.heap.size } hm (by have := s.below.size; show _ ≤ w.heap.size + 1; omega) (by show ((w.heap.push _).push _)[w.heap.size + 1]? = _; rw [Array.getElem?_push, if_pos (by simp)]) rfl rfl rfl rfl rfl t.size (fun i => VR.mono (x1.trans x) (t.slots i)) hF)
    have x12 := x1.trans x2
    rw [List.length_append, List.length_singleton] at m2
    have hH : a.H ++ [OB.dfr] ++ [OB.loop a.T ⟨n, ps, assign, body, .ready, none⟩] = a.H ++ [.dfr, .loop a.T ⟨n, ps, assign, body, .ready, none⟩] := by simp
    rw [hH] at s2
    have m1' := x2.mu _ _ m1
    refine ⟨w.heap.size + 1, [{ target := .collected w.heap.size, args := #[] }], (w.alloc (.deferred (some []))).alloc (.loop { state := .ready, pending := none, fn, tmps := act.tmps, params := ps, assign, body, defers := w.heap.size }), { target := .fn (.func gf) Cs, args := Fs ++ #[.func (.yield (w.heap.size + 1)) #[] #[]] }, (w.alloc (.deferred (some []))).alloc (.loop { state := .ready, pending := none, fn, tmps := act.tmps, params := ps, assign, body, defers := w.heap.size }), gf,
      (Fs.toList ++ [Value.func (.yield (w.heap.size + 1)) #[] #[]] ++ Cs.toList).toArray, (w.alloc (.deferred (some []))).alloc (.loop { state := .ready, pending := none, fn, tmps := act.tmps, params := ps, assign, body, defers := w.heap.size }), run_enterLoop_outer fn act.tmps ps assign body, ?_, fun _ _ => trivial, ?_, fun _ => Nat.le_refl _, ?_⟩
    · simp only [rangeCall, resolve, hX, Deferred.ofValue, Sem.run_pure]
      simp [Act.eval]
    · simp only [invoke]
      have : (Fs ++ #[Value.func (.yield (w.heap.size + 1)) #[] #[]] ++ Cs) = (Fs.toList ++ [Value.func (.yield (w.heap.size + 1)) #[] #[]] ++ Cs.toList).toArray := by apply Array.ext'; simp
      rw [this]; exact hc _ _
    · refine callsIn_fnc.2 ?_
      have hvs : VRs F ((w.alloc (.deferred (some []))).alloc (.loop { state := .ready, pending := none, fn, tmps := act.tmps, params := ps, assign, body, defers := w.heap.size })) μ2 (fs ++ [.yld (a.H.length + 1)] ++ cs)
          (Fs.toList ++ [Value.func (.yield (w.heap.size + 1)) #[] #[]] ++ Cs.toList) :=
        ((VRs.mono x12 h1).append (.cons _ _ _ _ (.yld _ _ m2) .nil)).append (VRs.mono x12 h2)
      have hcc := hcall B.w0 B.F0 F μ2 _ _ s2 hvs
      have hgo : Calls P gf (Fs.toList ++ [Value.func (.yield (w.heap.size + 1)) #[] #[]] ++ Cs.toList).toArray ((w.alloc (.deferred (some []))).alloc (.loop { state := .ready, pending := none, fn, tmps := act.tmps, params := ps, assign, body, defers := w.heap.size }))
          (fun e w' => ∃ F' μ', Ext F ((w.alloc (.deferred (some []))).alloc (.loop { state := .ready, pending := none, fn, tmps := act.tmps, params := ps, assign, body, defers := w.heap.size })) μ2 F' w' μ' ∧ Sim B.w0 B.F0 F' μ' H' w' ∧ OutR F' w' μ' (.ret r) e) := by
        rcases hcc with ⟨w1, g1, rfl, g2⟩ | ⟨V, w1, g1, g2⟩
        · exact g2
        · rw [hc] at g1; cases g1
      refine hgo.mono ?_
      rintro e w3 ⟨F3, μ3, x3, s3, ho⟩
      cases ho with
      | ret _ V hV =>
        have hμ3 := x3.mu _ _ m2
        have hob := s3.obs _ _ hloop
        cases hob with
        | loop _ _ L' rec hμ' hB hw e1 e2 e3 e4 e5 e6 hT hF =>
          rw [hμ3] at hμ'; cases hμ'
          obtain ⟨x4, s4⟩ := s3.write (a.H.length + 1) _ .dead _ hloop rfl hμ3 (.loop { rec with state := .exhausted }) (fun _ => .dead)
          have y4 := y.trans (x12.trans (x3.trans x4))
          have t4 : RelT n F3 μ3 ⟨a.T, H'.set (a.H.length + 1) .dead, a.H.length :: a.D⟩ { act with defers := [{ target := .collected w.heap.size, args := #[] }] ++ act.defers } (w3.putObj (w.heap.size + 1) (.loop { rec with state := .exhausted })) :=
            ⟨.cons _ ⟨w.heap.size, 0, 0⟩ _ _ (x3.mu _ _ m1') (t.defers.mono (x12.trans x3).mu), t.size, fun i => VR.mono (x12.trans (x3.trans x4)) (t.slots i)⟩
          refine ⟨_, _, run_endLoop hw (by rw [e4]; exact hst), ?_⟩
          have key : ∀ (pe : Option Code) (act' : Act) (W4 : World), behindQ P n m Q ⟨a.T, H'.set (a.H.length + 1) .dead, a.H.length :: a.D⟩ pe → Sim B.w0 B.F0 F3 μ3 (H'.set (a.H.length + 1) .dead) W4 → Ext B.Fs B.ws B.μs F3 W4 μ3 →
              RelT n F3 μ3 ⟨a.T, H'.set (a.H.length + 1) .dead, a.H.length :: a.D⟩ act' W4 → (match pe with | none => RelE n B Q .normal act' W4 | some c => c.wpIn (fnc none) 1 P (RelE n B Q) act' W4) := by
            intro pe act' W4 hq s4 y4 t4
            cases pe with
            | none => exact ⟨_, _, F3, μ3, hq, .normal, s4, y4, t4⟩
            | some c => exact hq B _ _ ⟨F3, μ3, s4, y4, t4⟩
          exact key rec.pending _ _ (by rw [e5]; exact hq) s4 y4 t4
end
end Go.Av
namespace Go.Av
set_option linter.unusedVariables false
set_option linter.unusedSimpArgs false
open Go.RowKit (Below)

/-- What an operation comes to. -/
inductive Rs where
  | val (v : AV) (H : List OB)
  | pan (t : TypeId) (v : AV) (H : List OB)

/-- One operation; 'call' answers calls. -/
def stepA (P : Program) (call : Cl → List AV → List OB → Option (Out × List OB)) (ops : Array Oper) (a : St) (o : Oper) : Option Rs :=
  match gdA ops a o.guard with
  | none => none
  | some false => some (.val (.tup []) a.H)
  | some true => match callOf a o.op with
    | some (f, args) => match call f args a.H with
      | some (.ret r, H') => some (.val r H')
      | some (.pan t v, H') => some (.pan t v H')
      | none => none
    | none => match isPanic o.op with
      | some x => match a.ev x with
        | .iface t v => some (.pan t v a.H)
        | _ => none
      | none => (evalOp P o.op a).map fun p => .val p.1 p.2

/-- The calls are answered rightly. -/
def CallsRight (P : Program) (call : Cl → List AV → List OB → Option (Out × List OB)) : Prop :=
  ∀ f args H out H', call f args H = some (out, H') → ClOK P f args H out H'

/-- An operation, from each machine's state that is one of 'a', comes to this. -/
def StepR (P : Program) (n m : Nat) (R : Option Nat) (ops : Array Oper) (o : Oper) (a : St) (r : Rs) : Prop :=
  ∀ (i : Nat) (B : Bs m) (Qm : Exit → Act → World → Prop) (K : Act → World → Prop) F μ act w, ops[i]? = some o → Sim B.w0 B.F0 F μ a.H w → RelT n F μ a act w →
    (∀ v H', r = .val v H' → ∀ V w' F' μ', Ext F w μ F' w' μ' → Sim B.w0 B.F0 F' μ' H' w' → VR F' w' μ' v V → K (act.put o.dst V) w') →
    (∀ t v H', r = .pan t v H' → ∀ V w' F' μ', Ext F w μ F' w' μ' → Sim B.w0 B.F0 F' μ' H' w' → VR F' w' μ' v V → Qm (.panic [{ v := .iface t V, recovered := false }]) act w') →
    wpOpIn (fnc R) 1 P ops Qm i K act w

section
variable {P : Program} {w0 : World} {F0 F F' : Nat → Nat → Prop} {μ μ' : Nat → Option Loc} {H H' : List OB} {w w' : World} {n m : Nat} {R : Option Nat} {a : St} {act : Act} {Q : Ex → St → Prop}
  {call : Cl → List AV → List OB → Option (Out × List OB)} {ops : Array Oper}

theorem stepA_ok (hcall : CallsRight P call) (hf : fits n ops = true) {o : Oper} {r : Rs} (h : stepA P call ops a o = some r) : StepR P n m R ops o a r := by
  intro i B Qm K F μ act w ho s t hval hpan
  unfold wpOpIn
  simp only [ho]
  have habout : ∀ f, o.about P w act.eval = some f → (fnc R).fn f := fun _ _ => trivial
  unfold stepA at h
  split at h
  · cases h
  · rename_i hg
    cases h
    have := gdA_ok t (fits_get hf) hg
    simp only [this, Bool.false_eq_true, if_false]
    exact ⟨habout, hval _ _ rfl undef w F μ (Ext.refl _ _ _) s (.tup [] #[] .nil)⟩
  · rename_i hg
    have := gdA_ok t (fits_get hf) hg
    simp only [this, if_true]
    refine ⟨habout, ?_⟩
    split at h
    · rename_i f args hc
      rw [Oper.semAt_eq _ _ _ (callOf_op hc)]
      have key : ∀ (out : Out) (H' : List OB) (e : Ending) (w' : World), call f args a.H = some (out, H') → (∃ F' μ', Ext F w μ F' w' μ' ∧ Sim B.w0 B.F0 F' μ' H' w' ∧ OutR F' w' μ' out e) →
          (match (generalizing := false) e, w' with
            | .returned v, w'' => K (act.put o.dst v) w''
            | .panicked chain, w'' => Qm (.panic chain) act w''
            | .outgrown, _ => LetsOut Qm) := by
        rintro out H' e w' hcl ⟨F', μ', x, s', ho'⟩
        cases ho' with
        | ret r Rv hr =>
          rw [hcl] at h; cases h
          exact hval _ _ rfl Rv w' F' μ' x s' hr
        | pan tt v V hv =>
          rw [hcl] at h; cases h
          exact hpan _ _ _ rfl V w' F' μ' x s' hv
      have hgo : ∀ (out : Out) (H' : List OB), call f args a.H = some (out, H') → o.uponIn (fnc R) 1 P act K Qm ((execOp act.eval o).run P w) := by
        intro out H' hcl
        rcases ClOK.goes s (a := a) t hc (hcall _ _ _ _ _ hcl) with ⟨f, Vs, w1, h1, h2⟩ | ⟨V, w1, h1, h2⟩ | ⟨l, f, tmps, as, bd, w1, h1, h2⟩
        · rw [h1, Oper.uponIn_enter]
          exact ⟨fun _ => Nat.le_refl _, callsIn_fnc.2 (h2.mono fun e w' he => key out H' e w' hcl he)⟩
        · rw [h1, Oper.uponIn_value]
          exact key out H' (.returned V) w1 hcl h2
        · rw [h1, Oper.uponIn_round]
          exact ⟨fun _ => Nat.le_refl _, roundIn_fnc (h2.mono fun e w' he => key out H' e w' hcl he)⟩
      split at h
      · exact hgo _ _ ‹_›
      · exact hgo _ _ ‹_›
      · cases h
    · split at h
      · rename_i x hx
        have hop := isPanic_ok hx
        rw [Oper.semAt_eq _ _ _ (by rw [hop]; simp)]
        split at h
        · rename_i tt v hv
          cases h
          have hvv := t.ev x
          rw [hv] at hvv
          generalize hX : act.eval x = X at hvv
          cases hvv with
          | iface _ _ V hV =>
            have hr : (execOp act.eval o).run P w = .halt (.panic (.iface tt V)) w := by
              unfold execOp
              rw [hop]
              simp [hX, Instr.panic, goPanic]
            rw [hr, Oper.uponIn_panic]
            exact hpan _ _ _ rfl V w F μ (Ext.refl _ _ _) s hV
        · cases h
      · rw [Option.map_eq_some_iff] at h
        obtain ⟨⟨v, H'⟩, hev, rfl⟩ := h
        rw [Oper.semAt_eq _ _ _ (by rintro c hc; rw [hc] at hev; cases hev)]
        obtain ⟨nx, V, w', F', μ', h1, h2, h3, h4, h5⟩ := evalOp_ok (P := P) (o := o) s t hev
        rw [h1]
        rcases h2 with rfl | ⟨rfl, rfl⟩
        · rw [Oper.uponIn_value]; exact hval _ _ rfl V w' F' μ' h3 h4 h5
        · rw [Oper.uponIn_skip]; exact hval _ _ rfl undef w' F' μ' h3 h4 h5

/-! ### Any order -/

/-- What an operation looks at, of all slots. -/
def only (ops : Array Oper) (o : Oper) (T : List (Nat × AV)) : List (Nat × AV) := (o.looksAt ops).map fun t => (t, get T t)

theorem get_only {l : List Nat} {T : List (Nat × AV)} (t : Nat) : get (l.map fun t => (t, get T t)) t = if t ∈ l then get T t else .junk := by
  induction l with
  | nil => simp [get]
  | cons x l ih =>
    simp only [List.map_cons, get]
    by_cases e : x = t
    · subst e; simp
    · rw [if_neg e, ih]
      by_cases h : t ∈ l
      · simp [h]
      · have : ¬ t = x := fun h => e h.symm
        simp [h, this]

def cnt (k : Nat) (p : Nat → Bool) : Nat :=
  match k with
  | 0 => 0
  | k + 1 => cnt k p + (if p k = true then 1 else 0)

theorem cnt_le {k : Nat} {p q : Nat → Bool} (h : ∀ i, i < k → p i = true → q i = true) : cnt k p ≤ cnt k q := by
  induction k with
  | zero => exact Nat.le_refl _
  | succ k ih =>
    have h1 := ih fun i hi => h i (by omega)
    have h2 := h k (by omega)
    simp only [cnt]
    cases hp : p k
    · simp; omega
    · rw [h2 hp]; simp; exact h1

theorem cnt_set {k i : Nat} {p q : Nat → Bool} (hi : i < k) (hp : p i = false) (h : ∀ j, j ≠ i → q j = p j) : cnt k q = cnt k p + (if q i = true then 1 else 0) := by
  induction k with
  | zero => omega
  | succ k ih =>
    simp only [cnt]
    by_cases e : i = k
    · subst e
      rw [hp]
      have : cnt i q = cnt i p := by
        have key : ∀ k', k' ≤ i → cnt k' q = cnt k' p := by
          intro k'
          induction k' with
          | zero => intro _; rfl
          | succ k' ih' => intro hk; simp only [cnt]; rw [ih' (by omega), h k' (by omega)]
        exact key i (Nat.le_refl _)
      rw [this]; simp
    · rw [ih (by omega), h k (by omega)]; omega

theorem cnt_congr {k : Nat} {p q : Nat → Bool} (h : ∀ i, i < k → p i = q i) : cnt k p = cnt k q := by
  induction k with
  | zero => rfl
  | succ k ih => simp only [cnt]; rw [ih fun i hi => h i (by omega), h k (by omega)]

/-- A region that draws its order. 'v': what each operation tells; 'T': the slots ahead of each, in the order of the text; 'Hk': memory behind so many that write; 'wr': who writes; 'anc': who must come ahead. -/
theorem W.drawF {id : Nat} {af : St} (v : Nat → AV) (T : Nat → List (Nat × AV)) (Hk : Nat → List OB) (wr : Nat → Bool) (anc : Nat → Nat → Bool)
    (hm : P.follows .mixedOrders = true) (hf : fits n ops = true)
    (h0 : T 0 = a.T) (hT : ∀ (i : Nat) (o : Oper), ops[i]? = some o → T (i + 1) = (match o.dst with | none => T i | some d => (d, v i) :: T i)) (hH : Hk 0 = a.H)
    (hE : ∀ (i : Nat) (o : Oper) (e : Edge), ops[i]? = some o → e ∈ o.after → Region.binds .any e = true → e.on < i)
    (hA : ∀ (i j : Nat) (o : Oper), ops[i]? = some o → anc i j = true → ∃ e ∈ o.after, Region.binds .any e = true ∧ (j = e.on ∨ anc e.on j = true))
    (hL : ∀ (i : Nat) (o : Oper) (t : Nat) (j : Nat) (o' : Oper), ops[i]? = some o → t ∈ o.looksAt ops → ops[j]? = some o' → o'.dst = some t → anc i j = true)
    (hD : ∀ (i j : Nat) (o o' : Oper) (d : Nat), ops[i]? = some o → ops[j]? = some o' → o.dst = some d → o'.dst = some d → i = j)
    (hS : ∀ (i : Nat) (o : Oper) (k : Nat), ops[i]? = some o → cnt ops.size (fun j => wr j && anc i j) ≤ k → k ≤ cnt ops.size (fun j => wr j && !anc j i && !(j == i)) →
      StepR P n m R ops o ⟨only ops o (T i), Hk k, a.D⟩ (.val (v i) (Hk (k + (if wr i = true then 1 else 0)))))
    (hq : Q .normal ⟨T ops.size, Hk (cnt ops.size wr), a.D⟩) : W P n m R (.region id ops true) Q a := by
  intro B act w ⟨F, μ, s, y, t⟩
  refine wpIn_region_any hm ?_
  obtain ⟨x1, s1⟩ := s.same (w' := { w with drawn := w.drawn + 1 }) rfl rfl rfl rfl
  -- what stands in the slots, in the order of the text
  have hTx : ∀ i, i ≤ ops.size → ∀ t, (∀ (j : Nat) (o : Oper), j < i → ops[j]? = some o → o.dst = some t → get (T i) t = v j) ∧ ((∀ (j : Nat) (o : Oper), j < i → ops[j]? = some o → o.dst ≠ some t) → get (T i) t = get a.T t) := by
    intro i
    induction i with
    | zero => intro _ t; exact ⟨fun j _ hj => by omega, fun _ => by rw [h0]⟩
    | succ i ih =>
      intro hi t
      have ho : ops[i]? = some ops[i] := Array.getElem?_eq_getElem (by omega)
      obtain ⟨g1, g2⟩ := ih (by omega) t
      have hTi := hT i _ ho
      have hget : get (T (i + 1)) t = if (ops[i]).dst = some t then v i else get (T i) t := by
        rw [hTi]
        cases hd : (ops[i]).dst with
        | none => simp
        | some d =>
          simp only [get]
          by_cases e : d = t
          · subst e; simp
          · rw [if_neg e, if_neg (by simpa using e)]
      rw [hget]
      refine ⟨fun j o hj hoj hdj => ?_, fun hno => ?_⟩
      · by_cases e : j = i
        · subst e; rw [ho] at hoj; cases hoj; rw [if_pos hdj]
        · have hne : (ops[i]).dst ≠ some t := fun h => e (hD j i _ _ t hoj ho hdj h)
          rw [if_neg hne]; exact g1 j o (by omega) hoj hdj
      · rw [if_neg (hno i _ (by omega) ho)]; exact g2 fun j o hj => hno j o (by omega)
  let Inv : Array Bool → Act → World → Prop := fun listed act w => listed.size = ops.size ∧
    (∀ (i : Nat) (o : Oper) (e : Edge), ops[i]? = some o → listed[i]? = some true → e ∈ o.after → Region.binds .any e = true → listed[e.on]? = some true) ∧
    ∃ F μ, Sim B.w0 B.F0 F μ (Hk (cnt ops.size fun j => wr j && listed.getD j false)) w ∧ Ext B.Fs B.ws B.μs F w μ ∧ VD μ a.D act.defers ∧ act.tmps.size = n ∧
      ∀ t, (∀ (j : Nat) (o : Oper), ops[j]? = some o → o.dst = some t → listed[j]? = some true → VR F w μ (v j) (act.tmps.getD t undef)) ∧
        ((∀ (j : Nat) (o : Oper), ops[j]? = some o → o.dst = some t → listed[j]? ≠ some true) → VR F w μ (get a.T t) (act.tmps.getD t undef))
  have main : ∀ fuel listed act w, Inv listed act w → cnt ops.size (fun j => !listed.getD j false) ≤ fuel → wpAnyIn (fnc R) 1 P .any ops (RelE n B Q) fuel listed act w := by
    have hdone : ∀ listed act w, Inv listed act w → Region.ready .any ops listed = [] → RelE n B Q .normal act w := by
      intro listed act w ⟨hsz, hcl, F, μ, s, y, vd, hn, hsl⟩ hr
      have hall : ∀ i, i < ops.size → listed[i]? = some true := by
        intro i
        induction i using Nat.strongRecOn with
        | _ i ih =>
          intro hi
          cases hli : listed[i]? with
          | none => rw [Array.getElem?_eq_none_iff] at hli; omega
          | some b =>
            cases b with
            | true => rfl
            | false =>
              have ho : ops[i]? = some ops[i] := Array.getElem?_eq_getElem hi
              have : i ∈ Region.ready .any ops listed := by
                unfold Region.ready
                rw [List.mem_filter]
                refine ⟨by simp [hi], ?_⟩
                rw [ho]
                simp only [Array.getD_eq_getD_getElem?, hli, Option.getD_some, Bool.not_false, Bool.true_and, Option.map_some]
                rw [Array.all_eq_true']
                intro e he
                by_cases hb : Region.binds .any e = true
                · have := ih e.on (hE i _ e ho he hb) (by have := hE i _ e ho he hb; omega)
                  simp [this]
                · simp at hb; simp [hb]
              rw [hr] at this; cases this
      have hc : cnt ops.size (fun j => wr j && listed.getD j false) = cnt ops.size wr := cnt_congr fun i hi => by simp [Array.getD_eq_getD_getElem?, hall i hi]
      rw [hc] at s
      refine ⟨_, _, F, μ, hq, .normal, s, y, vd, hn, fun t => ?_⟩
      obtain ⟨g1, g2⟩ := hTx ops.size (Nat.le_refl _) t
      by_cases hex : ∃ (j : Nat) (o : Oper), ops[j]? = some o ∧ o.dst = some t
      · obtain ⟨j, o, ho, hd⟩ := hex
        have hj : j < ops.size := (Array.getElem?_eq_some_iff.1 ho).1
        rw [g1 j o hj ho hd]
        exact (hsl t).1 j o ho hd (hall j hj)
      · rw [g2 fun j o _ ho hd => hex ⟨j, o, ho, hd⟩]
        exact (hsl t).2 fun j o ho hd => (hex ⟨j, o, ho, hd⟩).elim
    intro fuel
    induction fuel with
    | zero =>
      intro listed act w hI hfu
      have hr : Region.ready .any ops listed = [] := by
        rw [List.eq_nil_iff_forall_not_mem]
        intro i hi
        unfold Region.ready at hi
        rw [List.mem_filter] at hi
        obtain ⟨h1, h2⟩ := hi
        simp only [List.mem_range] at h1
        simp only [Bool.and_eq_true, Bool.not_eq_true'] at h2
        have hlt : i < listed.size := by rw [hI.1]; exact h1
        have h2' : listed.getD i false = false := by have := h2.1; simp [Array.getD_eq_getD_getElem?, hlt] at this ⊢; exact this
        have : cnt ops.size (fun j => decide (j = i)) ≤ cnt ops.size (fun j => !listed.getD j false) := cnt_le fun j _ hj => by simp at hj; subst hj; simp [h2']
        have h3 : cnt ops.size (fun j => decide (j = i)) = cnt ops.size (fun _ => false) + (if decide (i = i) = true then 1 else 0) := cnt_set h1 rfl fun j hj => by simp [hj]
        simp at h3
        omega
      exact ⟨hr, hdone _ _ _ hI hr⟩
    | succ fuel ih =>
      intro listed act w hI hfu
      refine ⟨hdone _ _ _ hI, fun i hi => ?_⟩
      obtain ⟨hsz, hcl, F, μ, s, y, vd, hn, hsl⟩ := hI
      unfold Region.ready at hi
      rw [List.mem_filter] at hi
      obtain ⟨h1, h2⟩ := hi
      simp only [List.mem_range] at h1
      simp only [Bool.and_eq_true, Bool.not_eq_true'] at h2
      have ho : ops[i]? = some ops[i] := Array.getElem?_eq_getElem h1
      have hlt : i < listed.size := by rw [hsz]; exact h1
      have hli : listed[i]? = some false := by have := h2.1; simp [Array.getD_eq_getD_getElem?, hlt] at this; simp [hlt, this]
      have hafter : ∀ e ∈ (ops[i]).after, Region.binds .any e = true → listed[e.on]? = some true := by
        have := h2.2
        rw [ho] at this
        simp only [Option.map_some, Option.getD_some] at this
        rw [Array.all_eq_true'] at this
        intro e he hb
        have := this e he
        rw [hb] at this
        simp [Array.getD_eq_getD_getElem?] at this
        cases hx : listed[e.on]? with
        | none => rw [hx] at this; simp at this
        | some b => rw [hx] at this; simp at this; rw [this]
      have hancl : ∀ (i : Nat) (o : Oper), ops[i]? = some o → (∀ e ∈ o.after, Region.binds .any e = true → listed[e.on]? = some true) → ∀ j, anc i j = true → listed[j]? = some true := by
        intro i
        induction i using Nat.strongRecOn with
        | _ i ihh =>
          intro o hoi hh j hj
          obtain ⟨e, he, hb, hje⟩ := hA i j o hoi hj
          rcases hje with rfl | hje
          · exact hh e he hb
          · have hon := hE i o e hoi he hb
            have hois : i < ops.size := (Array.getElem?_eq_some_iff.1 hoi).1
            have hoe : ops[e.on]? = some ops[e.on] := Array.getElem?_eq_getElem (by omega)
            exact ihh e.on hon _ hoe (fun e' he' hb' => hcl _ _ e' hoe (hh e he hb) he' hb') j hje
      have hanci := hancl i _ ho hafter
      have hlo : cnt ops.size (fun j => wr j && anc i j) ≤ cnt ops.size (fun j => wr j && listed.getD j false) := cnt_le fun j _ hj => by
        simp only [Bool.and_eq_true] at hj ⊢
        exact ⟨hj.1, by simp [Array.getD_eq_getD_getElem?, hanci j hj.2]⟩
      have hhi : cnt ops.size (fun j => wr j && listed.getD j false) ≤ cnt ops.size (fun j => wr j && !anc j i && !(j == i)) := cnt_le fun j hjs hj => by
        simp only [Bool.and_eq_true, Bool.not_eq_true'] at hj ⊢
        have hlj : listed[j]? = some true := by
          have := hj.2
          simp [Array.getD_eq_getD_getElem?] at this
          cases hx : listed[j]? with
          | none => rw [hx] at this; simp at this
          | some b => rw [hx] at this; simp at this; rw [this]
        refine ⟨⟨hj.1, ?_⟩, ?_⟩
        · cases hx : anc j i with
          | false => rfl
          | true =>
            have hoj : ops[j]? = some ops[j] := Array.getElem?_eq_getElem hjs
            have := hancl j _ hoj (fun e he hb => hcl j _ e hoj hlj he hb) i hx
            rw [hli] at this; cases this
        · cases hx : (j == i) with
          | false => rfl
          | true => have : j = i := by simpa using hx
                    subst this; rw [hli] at hlj; cases hlj
      have hcl' : ∀ (i' : Nat) (o : Oper) (e : Edge), ops[i']? = some o → (listed.setIfInBounds i true)[i']? = some true → e ∈ o.after → Region.binds .any e = true → (listed.setIfInBounds i true)[e.on]? = some true := by
        intro i' o e hoi' hl' he hb
        have hset : ∀ (j : Nat), listed[j]? = some true → (listed.setIfInBounds i true)[j]? = some true := by
          intro j hj
          rw [Array.getElem?_setIfInBounds]
          split
          · first | rfl | simp [hlt]
          · exact hj
        by_cases e' : i' = i
        · subst e'; rw [ho] at hoi'; cases hoi'; exact hset _ (hafter e he hb)
        · rw [Array.getElem?_setIfInBounds, if_neg (by omega)] at hl'
          exact hset _ (hcl i' o e hoi' hl' he hb)
      have hcnt : cnt ops.size (fun j => wr j && (listed.setIfInBounds i true).getD j false) = cnt ops.size (fun j => wr j && listed.getD j false) + (if wr i = true then 1 else 0) := by
        have := cnt_set (k := ops.size) (i := i) (p := fun j => wr j && listed.getD j false) (q := fun j => wr j && (listed.setIfInBounds i true).getD j false) h1 (by simp [Array.getD_eq_getD_getElem?, hli]) (fun j hj => by
          simp only [Array.getD_eq_getD_getElem?, Array.getElem?_setIfInBounds]; rw [if_neg (by omega)])
        rw [this]
        simp [Array.getD_eq_getD_getElem?, Array.getElem?_setIfInBounds, hlt]
      have hfu' : cnt ops.size (fun j => !(listed.setIfInBounds i true).getD j false) ≤ fuel := by
        have := cnt_set (k := ops.size) (i := i) (p := fun j => !(listed.setIfInBounds i true).getD j false) (q := fun j => !listed.getD j false) h1 (by simp [Array.getD_eq_getD_getElem?, Array.getElem?_setIfInBounds, hlt]) (fun j hj => by
          simp only [Array.getD_eq_getD_getElem?, Array.getElem?_setIfInBounds]; rw [if_neg (by omega)])
        have h1 : (!listed.getD i false) = true := by simp only [Array.getD_eq_getD_getElem?, hli]; rfl
        simp only [h1, if_true] at this
        omega
      have hrest : RelT n F μ ⟨only ops ops[i] (T i), Hk (cnt ops.size fun j => wr j && listed.getD j false), a.D⟩ act w := by
        refine ⟨vd, hn, fun t => ?_⟩
        show VR F w μ (get (only ops ops[i] (T i)) t) _
        unfold only
        rw [get_only]
        split
        · rename_i ht
          obtain ⟨g1, g2⟩ := hTx i (by omega) t
          by_cases hex : ∃ (j : Nat) (o : Oper), ops[j]? = some o ∧ o.dst = some t
          · obtain ⟨j, o, hoj, hd⟩ := hex
            have haj := hL i _ t j o ho ht hoj hd
            have hji : j < i := by
              have key : ∀ (i' : Nat) (o' : Oper), ops[i']? = some o' → ∀ j, anc i' j = true → j < i' := by
                intro i'
                induction i' using Nat.strongRecOn with
                | _ i' ihh =>
                  intro o' hoi' j hj
                  obtain ⟨e, he, hb, hje⟩ := hA i' j o' hoi' hj
                  have hon := hE i' o' e hoi' he hb
                  rcases hje with rfl | hje
                  · exact hon
                  · have hois : i' < ops.size := (Array.getElem?_eq_some_iff.1 hoi').1
                    have := ihh e.on hon _ (Array.getElem?_eq_getElem (by omega)) j hje
                    omega
              exact key i _ ho j haj
            rw [g1 j o hji hoj hd]
            exact (hsl t).1 j o hoj hd (hanci j haj)
          · rw [g2 fun j o _ hoj hd => hex ⟨j, o, hoj, hd⟩]
            exact (hsl t).2 fun j o hoj hd => (hex ⟨j, o, hoj, hd⟩).elim
        · exact .junk _
      refine hS i _ _ ho hlo hhi i B (RelE n B Q) _ F μ act w ho s hrest ?_ (fun _ _ _ h => by cases h)
      rintro v' H' he V w' F' μ' x s' hV
      cases he
      refine ih _ _ _ ⟨by simpa using hsz, hcl', F', μ', by rw [hcnt]; exact s', y.trans x, ?_, ?_, fun t => ?_⟩ hfu'
      · cases (ops[i]).dst <;> exact vd.mono x.mu
      · cases (ops[i]).dst <;> simp [Act.put, hn]
      · have hslot : ∀ t, (act.put (ops[i]).dst V).tmps.getD t undef = if (ops[i]).dst = some t then V else act.tmps.getD t undef := by
          intro t
          cases hd : (ops[i]).dst with
          | none => simp [Act.put]
          | some d =>
            have hdn : d < act.tmps.size := by rw [hn]; exact fits_get hf i _ d ho hd
            simp only [Act.put, Array.getD_eq_getD_getElem?, Array.getElem?_setIfInBounds]
            by_cases e : d = t
            · subst e; simp [hdn]
            · simp [e]
        rw [hslot]
        refine ⟨fun j o hoj hd hl => ?_, fun hno => ?_⟩
        · by_cases e : j = i
          · subst e; rw [ho] at hoj; cases hoj; rw [if_pos hd]; exact hV
          · rw [if_neg fun h => e (hD j i _ _ t hoj ho hd h)]
            rw [Array.getElem?_setIfInBounds, if_neg (by omega)] at hl
            exact VR.mono x ((hsl t).1 j o hoj hd hl)
        · have hne : (ops[i]).dst ≠ some t := fun h => hno i _ ho h (by rw [Array.getElem?_setIfInBounds, if_pos rfl, if_pos hlt])
          rw [if_neg hne]
          refine VR.mono x ((hsl t).2 fun j o hoj hd hl => hno j o hoj hd ?_)
          rw [Array.getElem?_setIfInBounds]
          split
          · first | rfl | simp [hlt]
          · exact hl
  refine main _ _ _ _ ⟨by simp, ?_, F, μ, ?_, y.trans x1, t.defers, t.size, fun tt => ⟨?_, ?_⟩⟩ ?_
  · intro i o e _ hl
    rw [Array.getElem?_replicate] at hl
    split at hl <;> cases hl
  · have : cnt ops.size (fun j => wr j && (Array.replicate ops.size false).getD j false) = cnt 0 (fun _ => false) := by
      have : ∀ k, cnt k (fun j => wr j && (Array.replicate ops.size false).getD j false) = 0 := by
        intro k
        induction k with
        | zero => rfl
        | succ k ih =>
          simp only [cnt, ih]
          by_cases hk : k < ops.size <;> simp [Array.getD_eq_getD_getElem?, Array.getElem?_replicate, hk]
      rw [this]; rfl
    rw [this]; simp only [cnt]; rw [hH]; exact s1
  · intro j o _ _ hl
    rw [Array.getElem?_replicate] at hl
    split at hl <;> cases hl
  · intro _; exact VR.mono x1 (t.slots tt)
  · refine Nat.le_trans (cnt_le (q := fun _ => true) fun _ _ _ => rfl) ?_
    have : ∀ k, cnt k (fun _ => true) = k := by
      intro k; induction k with
      | zero => rfl
      | succ k ih => simp [cnt, ih]
    rw [this]; exact Nat.le_refl _
end
end Go.Av
