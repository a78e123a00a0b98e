/- Slices of slices and strings, arithmetic, tests, conversions, over abstract values: under the conditions that the evaluator asks; a text without a program. -/
import Derived.Test.YtmeijkidjifagaaAvE
namespace Go.Av
open Go.RowKit (Below)
set_option linter.unusedVariables false

section
variable {P : Program} {w0 : World} {F0 F : Nat → Nat → Prop} {μ : Nat → Option Loc} {H : List OB} {w : World}

/-! ### x[lo:hi], x[lo:hi:max] -/

/-- The bounds: low, high, and the third, if there is one. -/
def bnds (len : Nat) (lo hi : Option AV) : Option (Nat × Nat) :=
  match (match lo with | none => some 0 | some l => idx l), (match hi with | none => some len | some h => idx h) with
  | some l, some h => if l ≤ h ∧ h ≤ len then some (l, h) else none
  | _, _ => none

inductive VRo (F : Nat → Nat → Prop) (w : World) (μ : Nat → Option Loc) : Option AV → Option Value → Prop
  | none : VRo F w μ none none
  | some (v : AV) (V : Value) (h : VR F w μ v V) : VRo F w μ (some v) (some V)

theorem bnds_ok {isS : Bool} {len cap : Nat} {lo hi : Option AV} {Lo Hi : Option Value} (hlo : VRo F w μ lo Lo) (hhi : VRo F w μ hi Hi) {l h : Nat} (hb : bnds len lo hi = some (l, h)) (hc : len ≤ cap) :
    l ≤ h ∧ h ≤ len ∧ (Instr.sliceBounds isS len cap Lo Hi none).run P w = .ok (l, h, cap) w := by
  unfold bnds at hb
  split at hb
  · rename_i l' h' e1 e2
    split at hb
    · rename_i hle
      simp only [Option.some.injEq, Prod.mk.injEq] at hb
      obtain ⟨rfl, rfl⟩ := hb
      refine ⟨hle.1, hle.2, ?_⟩
      have key : ∀ (kd : IntKind) (n y : Nat) (code : BoundsCode), n ≤ y → (Instr.sliceBound (.int kd (n : Int)) y code).run P w = .ok n w := by
        intro kd n y code hny
        simp [Instr.sliceBound, asIntOf, hny]
      have hsb : (if isS = true then BoundsCode.sliceAcap else .sliceAlen) = (if isS = true then BoundsCode.sliceAcap else .sliceAlen) := rfl
      cases hhi with
      | none =>
        simp only [Option.some.injEq] at e2; subst e2
        cases hlo with
        | none => simp only [Option.some.injEq] at e1; subst e1; simp [Instr.sliceBounds]
        | some v V hv =>
          obtain ⟨kd, rfl⟩ := idx_get hv e1
          simp [Instr.sliceBounds, key _ _ _ _ hle.1]
      | some v V hv =>
        obtain ⟨kd, rfl⟩ := idx_get hv e2
        have hk := key kd h' cap
        cases hlo with
        | none => simp only [Option.some.injEq] at e1; subst e1; simp [Instr.sliceBounds, hk _ (by omega)]
        | some v' V' hv' =>
          obtain ⟨kd', rfl⟩ := idx_get hv' e1
          simp [Instr.sliceBounds, hk _ (by omega), key _ _ _ _ hle.1]
    · cases hb
  · cases hb

def evSlice (P : Program) (t : TypeId) (x : AV) (lo hi mx : Option AV) : Option AV :=
  match P.underlying t, x, mx with
  | some .string, .str s, none => (bnds s.length lo hi).map fun (l, h) => .str ((s.drop l).take (h - l))
  | some (.slice e), .vsl wd ex es, none => match tsz P e, bnds es.length lo hi with
    | some n, some (l, h) => if l = 0 ∨ n = esz wd then some (.vsl wd (ex && h == es.length) ((es.drop l).take (h - l))) else none
    | _, _ => none
  | some (.slice e), .sl id off len wd, none => match tsz P e, bnds len lo hi with
    | some n, some (l, h) => if n = esz wd then some (if l = 0 ∨ l < h then .sl id (off + l * n) (h - l) wd else .vsl wd false []) else none
    | _, _ => none
  | some (.slice e), .vsl wd ex es, some (.int _ 0) => match tsz P e, lo, hi with
    | some _, none, some (.int _ 0) => some (.vsl wd true [])
    | some _, some (.int _ 0), some (.int _ 0) => some (.vsl wd true [])
    | _, _, _ => none
  | _, _, _ => none

theorem VRe.take_drop {es : List AV} {n b o : Nat} (h : VRe F w μ es n b o) (l k : Nat) : VRe F w μ ((es.drop l).take k) n b (o + l * n) :=
  .of fun i v hi => by
    rw [List.getElem?_take] at hi
    split at hi
    · rw [List.getElem?_drop] at hi
      obtain ⟨h1, h2⟩ := h.get hi
      exact ⟨h1, by rw [show o + l * n + i * n = o + (l + i) * n from by rw [Nat.add_mul]; omega]; exact h2⟩
    · cases hi

theorem str_size (s : Bytes) : (⟨s.toArray⟩ : ByteArray).size = s.length := by show s.toArray.size = _; simp

theorem mk_data (b : ByteArray) (l : Bytes) (h : b.data.toList = l) : b = ⟨l.toArray⟩ := by
  cases b with
  | mk d => simp at h; subst h; simp

theorem str_extract (s : Bytes) (l h : Nat) : (⟨s.toArray⟩ : ByteArray).extract l h = ⟨((s.drop l).take (h - l)).toArray⟩ :=
  mk_data _ _ (by rw [Lib.extract_data])

theorem tsz_info {t n : Nat} (h : tsz P t = some n) : ∃ i, P.info? t = some i ∧ i.size = n := by
  unfold tsz at h
  cases hi : P.info? t with
  | none => rw [hi] at h; cases h
  | some i => rw [hi] at h; simp at h; exact ⟨i, rfl, h⟩

theorem dt_len {α : Type} (l : List α) {a h : Nat} (hah : a ≤ h) (hl : h ≤ l.length) : ((l.drop a).take (h - a)).length = h - a := by simp; omega

theorem evSlice_ok (s : Sim w0 F0 F μ H w) {t : TypeId} {x v : AV} {X : Value} {lo hi mx : Option AV} {Lo Hi Mx : Option Value} (hx : VR F w μ x X) (hlo : VRo F w μ lo Lo) (hhi : VRo F w μ hi Hi) (hmx : VRo F w μ mx Mx)
    (h : evSlice P t x lo hi mx = some v) : DoesV P (Instr.sliceAt t X Lo Hi Mx) w0 F0 F μ w v H := by
  unfold evSlice at h
  split at h
  · rename_i sb hu
    cases hmx
    cases hb : bnds sb.length lo hi with
    | none => rw [hb] at h; cases h
    | some p =>
      obtain ⟨l, hh⟩ := p
      rw [hb] at h; cases h
      cases hx with
      | str _ hl =>
        obtain ⟨h1, h2, h3⟩ := bnds_ok (P := P) (isS := false) hlo hhi hb (Nat.le_refl _)
        refine .pure_ s (V := .string ⟨((sb.drop l).take (hh - l)).toArray⟩) ?_ (.str _ (by rw [dt_len sb h1 h2]; omega))
        rw [← str_extract]
        simp [Instr.sliceAt, run_underlying hu, Instr.slice, str_size, h3]
  · rename_i e wd ex es hu
    cases hmx
    split at h
    · rename_i n l hh hn hb
      split at h
      · rename_i hcond
        cases h
        cases hx with
        | vsl _ _ _ A cap hxx hl hbd ha =>
          obtain ⟨h1, h2, h3⟩ := bnds_ok (P := P) (isS := true) hlo hhi hb hl
          have hrun : (Instr.sliceAt t (.slice A es.length cap) Lo Hi none).run P w = .ok (.slice (if cap = l then A else A.map (·.add (l * n))) (hh - l) (cap - l)) w := by
            simp [Instr.sliceAt, run_underlying hu, Instr.slice, h3, run_sizeOf' hn]
          have hlen := dt_len es h1 h2
          refine .pure_ s (V := .slice (if cap = l then A else A.map (·.add (l * n))) (hh - l) (cap - l)) hrun ?_
          have := VR.vsl (F := F) (w := w) (μ := μ) wd (ex && hh == es.length) ((es.drop l).take (hh - l)) (if cap = l then A else A.map (·.add (l * n))) (cap - l)
            (fun hb' => by
              simp only [Bool.and_eq_true, beq_iff_eq] at hb'
              rw [hlen, hxx hb'.1, hb'.2]) (by rw [hlen]; omega) (by rw [hlen]; omega) (by
              by_cases hemp : hh - l = 0
              · rw [hemp, List.take_zero]; exact .nil _ _
              · have hcl : cap ≠ l := by omega
                rw [if_neg hcl]
                cases ha with
                | nil _ A => simp at h2; omega
                | «at» _ _ b o he =>
                  simp only [Option.map_some, add_plain]
                  rcases hcond with h0 | h0
                  · subst h0
                    have := he.take_drop 0 (hh - 0)
                    simp only [Nat.zero_mul, Nat.add_zero] at this ⊢
                    exact .at _ _ _ _ this
                  · subst h0
                    exact .at _ _ _ _ (he.take_drop l (hh - l)))
          rw [hlen] at this
          exact this
      · cases h
    · cases h
  · rename_i e id off len wd hu
    cases hmx
    split at h
    · rename_i n l hh hn hb
      split at h
      · rename_i hnz
        cases h
        cases hx with
        | sl _ _ _ _ cap L hμ hc hl hbd =>
          obtain ⟨h1, h2, h3⟩ := bnds_ok (P := P) (isS := true) hlo hhi hb hl
          have hrun : (Instr.sliceAt t (.slice (some ⟨L.block, L.off + off, none⟩) len cap) Lo Hi none).run P w
              = .ok (.slice (if cap = l then some ⟨L.block, L.off + off, none⟩ else some ⟨L.block, L.off + off + l * n, none⟩) (hh - l) (cap - l)) w := by
            simp [Instr.sliceAt, run_underlying hu, Instr.slice, h3, run_sizeOf' hn, add_plain]
          refine .pure_ s hrun ?_
          split
          · rename_i hcond
            have hA : (if cap = l then some (⟨L.block, L.off + off, none⟩ : Addr) else some ⟨L.block, L.off + off + l * n, none⟩) = some ⟨L.block, L.off + (off + l * n), none⟩ := by
              split
              · have : l = 0 := by omega
                subst this; simp
              · rw [Nat.add_assoc]
            rw [hA]
            refine .sl _ _ _ _ _ L hμ ?_ (by omega) (by omega)
            have hlc : l ≤ cap := by omega
            have : l * n + (cap - l) * n = cap * n := by rw [← Nat.add_mul]; congr 1; omega
            rw [← hnz, Nat.add_assoc, this, hnz]; exact hc
          · have : hh - l = 0 := by omega
            have k := VR.vsl (F := F) (w := w) (μ := μ) wd false [] (if cap = l then some ⟨L.block, L.off + off, none⟩ else some ⟨L.block, L.off + off + l * n, none⟩) (cap - l) (fun h => by cases h) (Nat.zero_le _) (Nat.zero_le _) (.nil _ _)
            rw [this]; exact k
      · cases h
    · cases h
  · rename_i e wd ex es k hu
    cases hmx with
    | some _ V hV =>
      cases hV
      cases hx with
      | vsl _ _ _ A cap hxx hl hbd ha =>
        have key : ∀ Lo Hi, (Lo = none ∨ ∃ k, Lo = some (.int k 0)) → (∃ k, Hi = some (.int k 0)) → (∃ n, tsz P e = some n) →
            ∃ A', (Instr.sliceAt t (.slice A es.length cap) Lo Hi (some (.int k 0))).run P w = .ok (.slice A' 0 0) w := by
          rintro Lo Hi hLo ⟨k2, rfl⟩ ⟨n, hn⟩
          refine ⟨A, ?_⟩
          have hsb : ∀ (kd : IntKind) (y : Nat) (code : BoundsCode), (Instr.sliceBound (.int kd 0) y code).run P w = .ok 0 w := by
            intro kd y code; simp [Instr.sliceBound, asIntOf]
          rcases hLo with rfl | ⟨k3, rfl⟩ <;> simp [Instr.sliceAt, run_underlying hu, Instr.slice, Instr.sliceBounds, hsb, run_sizeOf' hn]
        have hres : ∀ A', VR F w μ (.vsl wd true []) (.slice A' 0 0) := fun A' => .vsl wd true [] A' 0 (fun _ => rfl) (Nat.le_refl _) (Nat.zero_le _) (.nil _ _)
        split at h
        · rename_i n k2 hn
          cases h
          cases hlo
          cases hhi with
          | some _ V hV2 =>
            cases hV2
            obtain ⟨A', h1⟩ := key none (some (.int k2 0)) (.inl rfl) ⟨_, rfl⟩ ⟨_, hn⟩
            exact .pure_ s h1 (hres A')
        · rename_i n k3 k2 hn
          cases h
          cases hlo with
          | some _ V1 hV1 =>
            cases hV1
            cases hhi with
            | some _ V hV2 =>
              cases hV2
              obtain ⟨A', h1⟩ := key _ (some (.int _ 0)) (.inr ⟨_, rfl⟩) ⟨_, rfl⟩ ⟨_, hn⟩
              exact .pure_ s h1 (hres A')
        · cases h
  · cases h

/-! ### Arithmetic and tests -/

def evBin (P : Program) (op : BinOp) (t : TypeId) (x y : AV) : Option AV :=
  match x, y with
  | .int k a, .int k' b =>
    match op with
    | .shl => if 0 ≤ b then some (.int k (k.wrap (a * 2 ^ (min b.toNat k.bits)))) else none
    | .shr => if 0 ≤ b then some (.int k (a.fdiv (2 ^ (min b.toNat k.bits)))) else none
    | op => if k = k' then
      match op with
      | .add => some (.int k (k.wrap (a + b)))
      | .sub => some (.int k (k.wrap (a - b)))
      | .mul => some (.int k (k.wrap (a * b)))
      | .quo => if b = 0 then none else some (.int k (k.wrap (a.tdiv b)))
      | .rem => if b = 0 then none else some (.int k (a.tmod b))
      | .eql => some (.bool (a == b))
      | .neq => some (.bool (a != b))
      | .lss => some (.bool (decide (a < b)))
      | .leq => some (.bool (decide (a ≤ b)))
      | .gtr => some (.bool (decide (a > b)))
      | .geq => some (.bool (decide (a ≥ b)))
      | .and => some (.int k (k.wrap (BitVec.ofInt k.bits a &&& BitVec.ofInt k.bits b).toNat))
      | .or => some (.int k (k.wrap (BitVec.ofInt k.bits a ||| BitVec.ofInt k.bits b).toNat))
      | .xor => some (.int k (k.wrap (BitVec.ofInt k.bits a ^^^ BitVec.ofInt k.bits b).toNat))
      | _ => none
      else none
  | .str a, .str b =>
    match op with
    | .add => if a.length + b.length ≤ maxLen' then some (.str (a ++ b)) else none
    | .eql => some (.bool (a == b))
    | .neq => some (.bool !(a == b))
    | .lss => some (.bool (Op.bytesLess a b))
    | .leq => some (.bool (Op.bytesLess a b || a == b))
    | .gtr => some (.bool !(Op.bytesLess a b || a == b))
    | .geq => some (.bool !(Op.bytesLess a b))
    | _ => none
  | .bool a, .bool b =>
    match op, P.underlying t with
    | .eql, some .bool => some (.bool (a == b))
    | .neq, some .bool => some (.bool !(a == b))
    | _, _ => none
  | _, _ => none

theorem equalIn_bool {t : TypeId} (hu : P.underlying t = some .bool) (d : Nat) (a b : Bool) : (Op.equalIn (d + 1) t (.bool a) (.bool b)).run P w = .ok (a == b) w := by
  simp [Op.equalIn, run_underlying hu]
theorem equal_bool {t : TypeId} (hu : P.underlying t = some .bool) (a b : Bool) : (Op.equal t (.bool a) (.bool b)).run P w = .ok (a == b) w := equalIn_bool hu 9999 a b

theorem sdata (s : Bytes) : (⟨s.toArray⟩ : ByteArray).toList = s := by rw [ByteArray.toList_eq]

theorem str_append (a b : Bytes) : (⟨a.toArray⟩ : ByteArray) ++ ⟨b.toArray⟩ = ⟨(a ++ b).toArray⟩ := mk_data _ _ (by rw [ByteArray.data_append]; simp)

theorem evBin_ok (s : Sim w0 F0 F μ H w) {op : BinOp} {t : TypeId} {x y v : AV} {X Y : Value} {ox oy : Operand} (hx : VR F w μ x X) (hy : VR F w μ y Y) (h : evBin P op t x y = some v) :
    DoesV P (do eqGuard op t ox oy X Y; binOp op t X Y) w0 F0 F μ w v H := by
  unfold evBin at h
  split at h
  · rename_i k a k' b
    cases hx; cases hy
    have hg : (eqGuard op t ox oy (.int k a) (.int k' b)).run P w = .ok () w := by unfold eqGuard; cases op <;> simp
    split at h
    · split at h
      · rename_i hb
        cases h
        exact .pure_ s (by simp [hg, binOp, Op.shift, show ¬ b < 0 from by omega]) (.int _ _)
      · cases h
    · split at h
      · rename_i hb
        cases h
        exact .pure_ s (by simp [hg, binOp, Op.shift, show ¬ b < 0 from by omega]) (.int _ _)
      · cases h
    · rename_i h1 h2
      split at h
      · rename_i hk
        subst hk
        split at h
        case h_4 => split at h <;> first | (cases h; done) | (rename_i hb; cases h; exact .pure_ s (by simp [hg, binOp, Op.intDiv, hb]) (.int _ _))
        case h_5 => split at h <;> first | (cases h; done) | (rename_i hb; cases h; exact .pure_ s (by simp [hg, binOp, Op.intDiv, hb]) (.int _ _))
        all_goals first
          | (cases h; done)
          | (cases h; exact .pure_ s (by simp [hg, binOp, Op.intArith, Op.intCmp, Op.intBits]) (.int _ _))
          | (cases h; exact .pure_ s (by simp [hg, binOp, Op.intArith, Op.intCmp, Op.intBits]) (.bool _))
      · cases h
  · rename_i a b
    cases hx with
    | str _ ha =>
      cases hy with
      | str _ hb =>
        have hg : (eqGuard op t ox oy (.string ⟨a.toArray⟩) (.string ⟨b.toArray⟩)).run P w = .ok () w := by unfold eqGuard; cases op <;> simp
        split at h
        · split at h
          · rename_i hl
            cases h
            refine .pure_ s (V := .string ⟨(a ++ b).toArray⟩) ?_ (.str _ (by rw [List.length_append]; exact hl))
            rw [← str_append]
            have hm : ¬ (((a.length + b.length : Nat) : Int) > IntKind.i64.max) := by
              have : IntKind.i64.max = 9223372036854775807 := by decide
              rw [this]; unfold maxLen' at hl; omega
            simp only [Sem.run_bind, hg, Result.andThen, binOp, Op.stringOp, str_size]
            rw [if_neg hm]; rfl
          · cases h
        all_goals first
          | (cases h; done)
          | (cases h; exact .pure_ s (by simp [hg, binOp, Op.stringOp, sdata]) (.bool _))
  · rename_i a b
    cases hx; cases hy
    have hg : (eqGuard op t ox oy (.bool a) (.bool b)).run P w = .ok () w := by unfold eqGuard; cases op <;> simp
    split at h
    · rename_i hu
      cases h
      exact .pure_ s (by simp only [Sem.run_bind, hg, Result.andThen, binOp, equal_bool hu, Sem.run_pure]) (.bool _)
    · rename_i hu
      cases h
      exact .pure_ s (by simp only [Sem.run_bind, hg, Result.andThen, binOp, equal_bool hu, Sem.run_pure]) (.bool _)
    · cases h
  · cases h

def evUn (op : UnOp) (x : AV) : Option AV :=
  match op, x with
  | .not, .bool b => some (.bool !b)
  | .neg, .int k n => some (.int k (k.wrap (0 - n)))
  | _, _ => none

theorem evUn_ok (s : Sim w0 F0 F μ H w) {op : UnOp} {x v : AV} {X : Value} (hx : VR F w μ x X) (h : evUn op x = some v) : DoesV P (Op.unary op X) w0 F0 F μ w v H := by
  unfold evUn at h
  split at h
  · cases h; cases hx; exact .pure_ s (by simp [Op.unary]) (.bool _)
  · cases h; cases hx; exact .pure_ s (by simp [Op.unary, Op.intArith]) (.int _ _)
  · cases h
end
end Go.Av
