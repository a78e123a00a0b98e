/- make, maps, min, max, copy, clear, over abstract values: under the conditions that the evaluator asks; a text without a program. -/
import Derived.Test.YtmeijkidjifagaaAvI
namespace Go.Av
open Go.RowKit (Below)
set_option linter.unusedVariables false

section
variable {P : Program} {w0 : World} {F0 F : Nat → Nat → Prop} {μ : Nat → Option Loc} {H : List OB} {w : World}

/-! ### make([]T, n, c) -/

def rep (c : Nat) (l : List AV) : List AV := (List.replicate c l).flatten

theorem rep_length (c : Nat) (l : List AV) : (rep c l).length = c * l.length := by simp [rep]

theorem rep_get (l : List AV) : ∀ (c i : Nat) (v : AV), (rep c l)[i]? = some v → l[i % l.length]? = some v := by
  intro c
  induction c with
  | zero => intro i v h; simp [rep] at h
  | succ c ih =>
    intro i v h
    have : rep (c + 1) l = l ++ rep c l := by simp [rep, List.replicate_succ]
    rw [this, List.getElem?_append] at h
    split at h
    · rename_i hlt; rw [Nat.mod_eq_of_lt hlt]; exact h
    · rename_i hge
      have := ih _ _ h
      rw [← Nat.mod_eq_sub_mod (by omega)] at this; exact this

def evMakeSlice (P : Program) (t : TypeId) (l c : AV) (H : List OB) : Option (AV × List OB) :=
  match P.underlying t, idx l, idx c with
  | some (.slice e), some l, some c => match apT P e, zeroA P e with
    | some (_, wd, bytes), some z => if l ≤ c ∧ c * bytes ≤ 2 ^ 47 then some (.sl H.length 0 l wd, H ++ [.cells (rep c z.cells) false]) else none
    | _, _ => none
  | _, _, _ => none

theorem evMakeSlice_ok (s : Sim w0 F0 F μ H w) {t : TypeId} {l c v : AV} {L C : Value} {H' : List OB} (hl : VR F w μ l L) (hc : VR F w μ c C) (h : evMakeSlice P t l c H = some (v, H')) :
    DoesV P (Instr.makeSlice t L C) w0 F0 F μ w v H' := by
  unfold evMakeSlice at h
  split at h
  case h_2 => cases h
  rename_i e ln cn hu hln hcn
  obtain ⟨k1, rfl⟩ := idx_get hl hln
  obtain ⟨k2, rfl⟩ := idx_get hc hcn
  split at h
  case h_2 => cases h
  rename_i n wd bytes z hap hz
  obtain ⟨z', ht⟩ := apT_get hap
  have : z' = z := by have := ht.zero; rw [hz] at this; cases this; rfl
  subst this
  split at h
  case isFalse => cases h
  rename_i hh
  obtain ⟨hlc, hbig⟩ := hh
  cases h
  have hb1 := ht.b1
  have hn1 := ht.n1
  have hc47 : cn ≤ 2 ^ 47 := Nat.le_trans (Nat.le_mul_of_pos_right _ hb1) hbig
  obtain ⟨i, hi, hi1, hi2⟩ := ht.info
  obtain ⟨Z, hZ1, _, hZ3⟩ := zero_run (P := P) (F := F) (μ := μ) hz w
  have hZs : Z.cells.size = n := by rw [← Array.length_toList, VRs.len hZ3]; exact ht.zlen
  let CC : Array Value := (Array.range (cn * n)).map fun i => (if cn * n = 0 then (#[] : Array Value) else Z.cells)[i % (if cn * n = 0 then (#[] : Array Value) else Z.cells).size]!
  have hw1 : IntKind.i64.wrap (ln : Int) = ln := IntWalk.i64_in _ (by omega)
  have hw2 : IntKind.i64.wrap (cn : Int) = cn := IntWalk.i64_in _ (by omega)
  have hbm : ∀ k : Nat, k ≤ cn → ¬ ((bytes : Int) * (k : Int) > 2 ^ 48) := by
    intro k hk
    have h1 : k * bytes ≤ cn * bytes := Nat.mul_le_mul_right _ hk
    have h2 : (bytes : Int) * (k : Int) = ((k * bytes : Nat) : Int) := by rw [Int.natCast_mul, Int.mul_comm]
    rw [h2]; omega
  have hrun : (Instr.makeSlice t (.int k1 ln) (.int k2 cn)).run P w = .ok (.slice (some ⟨w.heap.size, 0, none⟩) ln cn) { w with heap := w.heap.push (.cells CC e) } := by
    have h1 := hbm cn (Nat.le_refl _)
    simp only [Instr.makeSlice, Sem.run_bind, run_underlying hu, Result.andThen, asInt, asIntOf, Sem.run_pure, run_typeInfo hi, hw1, hw2, hi2]
    rw [if_neg (by simp; omega)]
    simp only [Sem.run_bind, run_askRoom, Result.andThen, run_sizeOf' ht.tsz, Int.toNat_natCast]
    by_cases h0 : cn * n = 0
    · simp only [Sem.run_ite, h0, if_true, Sem.run_pure, Result.andThen, newRow, Sem.run_bind, run_newObj, Int.toNat_natCast, CC]
    · simp only [Sem.run_ite, if_neg h0, Sem.run_bind, hZ1, Result.andThen, Sem.run_pure, newRow, run_newObj, Int.toNat_natCast, CC]
  have hCCs : CC.size = cn * n := by simp [CC]
  obtain ⟨μ', x1, h2, s1⟩ := s.alloc (.cells CC e) (.cells (rep cn z'.cells) false) ⟨w.heap.size, 0, cn * n⟩ rfl (fun μ' x hμ' hF => by
    refine .cells _ _ ⟨w.heap.size, 0, cn * n⟩ CC e 0 0 hμ' s.below.size (by rw [push_get]; exact if_pos rfl) (by show 0 + cn * n ≤ _; omega) (by rw [rep_length, ht.zlen]; exact Nat.le_refl _) (fun _ => by rw [rep_length, ht.zlen]) (fun o _ _ h => by omega) ?_ hF
    intro i v hi
    have hlt : i < cn * n := by have := (List.getElem?_eq_some_iff.1 hi).1; rw [rep_length, ht.zlen] at this; exact this
    have hne : cn * n ≠ 0 := by omega
    have hz := rep_get _ _ _ _ hi
    obtain ⟨V, h3, h4⟩ := hZ3.get hz
    refine ⟨V, ?_, VR.mono x h4⟩
    rw [Array.getElem?_toList, ht.zlen] at h3
    show CC[0 + i]? = _
    rw [Nat.zero_add]
    simp only [CC, Array.getElem?_map, Array.getElem?_range, if_pos hlt, Option.map_some, if_neg hne, hZs]
    congr 1
    rw [getElem!_def, h3])
  refine ⟨_, _, F, μ', hrun, x1, s1, ?_⟩
  exact .sl H.length 0 ln wd cn ⟨w.heap.size, 0, cn * n⟩ h2 (by rw [← ht.nwd]; exact Nat.zero_add _) hlc (by unfold maxLen'; omega)

/-! ### Maps -/

def keyD : TypeDesc → Bool
  | .string | .bool | .int _ => true
  | _ => false

def keyEq : TypeDesc → AV → AV → Option Bool
  | .string, .str a, .str b => some (a == b)
  | .bool, .bool a, .bool b => some (a == b)
  | .int _, .int k a, .int k' b => if k = k' then some (a == b) else none
  | _, _, _ => none

/-- Where a key stands among some: none: it can't be told. -/
def findA (d : TypeDesc) (key : AV) : List AV → Nat → Option (Option Nat)
  | [], _ => some none
  | k :: ks, i => match keyEq d key k with
    | some true => some (some i)
    | some false => findA d key ks (i + 1)
    | none => none

theorem ba_beq (x y : Bytes) : ((⟨x.toArray⟩ : ByteArray) == ⟨y.toArray⟩) = (x == y) := by
  show (x.toArray == y.toArray) = _
  simp

theorem keyEq_ok {d : TypeDesc} {a b : AV} {A B : Value} {t : Bool} (ha : VR F w μ a A) (hb : VR F w μ b B) (h : keyEq d a b = some t) : Instr.sameNow d A B = some t ∧ (t = true → A = B) := by
  unfold keyEq at h
  split at h
  · cases h
    cases ha; cases hb
    refine ⟨?_, ?_⟩
    · simp only [Instr.sameNow, ba_beq]
    · intro e; simp at e; subst e; rfl
  · cases h
    cases ha; cases hb
    exact ⟨rfl, fun e => by simp at e; subst e; rfl⟩
  · split at h
    · rename_i hk
      cases h
      cases ha; cases hb
      subst hk
      exact ⟨by simp [Instr.sameNow], fun e => by simp at e; subst e; rfl⟩
    · cases h
  · cases h

theorem findA_ok {d : TypeDesc} {key : AV} {K : Value} (hK : VR F w μ key K) : ∀ {ks vs : List AV} {es : List MapEntry} {i : Nat} {r : Option Nat}, VRk F w μ ks vs es → findA d key ks i = some r →
    (r = none → Instr.findNow d K es i = some none) ∧ (∀ j, r = some j → i ≤ j ∧ ∃ e v, es[j - i]? = some e ∧ vs[j - i]? = some v ∧ VR F w μ v e.val ∧ e.key = K ∧ ks[j - i]?.isSome = true ∧ Instr.findNow d K es i = some (some (j, e.val))) := by
  intro ks
  induction ks with
  | nil =>
    intro vs es i r h hf
    cases h
    simp [findA] at hf
    subst hf
    exact ⟨fun _ => rfl, (fun j hj => by cases hj)⟩
  | cons k ks ih =>
    intro vs es i r h hf
    cases h with
    | cons _ v _ vs e es hk hv t =>
      unfold findA at hf
      split at hf
      · rename_i hq
        cases hf
        obtain ⟨h1, h2⟩ := keyEq_ok hK hk hq
        refine ⟨(fun h => by cases h), fun j hj => ?_⟩
        cases hj
        refine ⟨Nat.le_refl _, e, v, by simp, by simp, hv, (h2 rfl).symm, by simp, ?_⟩
        simp [Instr.findNow, h1]
      · rename_i hq
        obtain ⟨h1, h2⟩ := keyEq_ok hK hk hq
        obtain ⟨h3, h4⟩ := ih t hf
        refine ⟨fun hr => by simp only [Instr.findNow, h1]; exact h3 hr, fun j hj => ?_⟩
        obtain ⟨h5, e', v', h6, h7, h8, h9, h10, h11⟩ := h4 j hj
        refine ⟨by omega, e', v', ?_, ?_, h8, h9, ?_, by simp only [Instr.findNow, h1]; exact h11⟩
        · rw [show j - i = (j - (i + 1)) + 1 from by omega]; simpa using h6
        · rw [show j - i = (j - (i + 1)) + 1 from by omega]; simpa using h7
        · rw [show j - i = (j - (i + 1)) + 1 from by omega]; simpa using h10
      · cases hf

theorem run_checkKey' {kt : TypeId} {d : TypeDesc} (hu : P.underlying kt = some d) (hd : keyD d = true) (emp : Bool) (K : Value) (n : Nat) : (Instr.checkKey emp (n + 1) kt K).run P w = .ok () w := by
  cases d <;> first | (cases hd; done) | (cases K <;> simp [Instr.checkKey, run_underlying hu])
theorem run_checkKey {kt : TypeId} {d : TypeDesc} (hu : P.underlying kt = some d) (hd : keyD d = true) (emp : Bool) (K : Value) : (Instr.checkKey emp 10000 kt K).run P w = .ok () w := run_checkKey' hu hd emp K 9999

theorem run_findKey {kt : TypeId} {d : TypeDesc} (hu : P.underlying kt = some d) {K : Value} {es : List MapEntry} {r : Option (Nat × Value)} (h : Instr.findNow d K es 0 = some r) : (Instr.findKey kt K es).run P w = .ok r w := by
  simp [Instr.findKey, run_underlying hu, h]

theorem run_lookup {t kt et : TypeId} (hu : P.underlying t = some (.map kt et)) {d : TypeDesc} (hd : P.underlying kt = some d) (hkd : keyD d = true) {X K Z : Value} {es : List MapEntry} {ok : Bool}
    (hX : (X = .map none ∧ es = []) ∨ ∃ r E clock, X = .map (some r) ∧ w.heap[r]? = some (.map E clock) ∧ E.toList = es) {r : Option (Nat × Value)} (hf : Instr.findNow d K es 0 = some r) (hZ : (zeroValue et).run P w = .ok Z w) :
    (Instr.lookup t X K ok).run P w = .ok (if ok then .tuple #[(r.map (·.2)).getD Z, .bool r.isSome] else (r.map (·.2)).getD Z) w := by
  rcases hX with ⟨rfl, rfl⟩ | ⟨q, E, clock, rfl, hq, rfl⟩
  · have hfk := run_findKey (P := P) (w := w) hd hf
    simp only [Instr.lookup, Sem.run_bind, run_underlying hu, Result.andThen, Sem.run_pure, run_checkKey hd hkd]
    rw [hfk]
    cases r with
    | none => simp [hZ]
    | some p => simp
  · have hfk := run_findKey (P := P) (w := w) hd hf
    simp only [Instr.lookup, Sem.run_bind, run_underlying hu, Result.andThen, getObj, Sem.run, hq, Sem.run_pure, run_checkKey hd hkd, hfk]
    cases r with
    | none => simp [hZ]
    | some p => simp

def evLookup (P : Program) (t : TypeId) (x key : AV) (ok : Bool) (H : List OB) : Option AV :=
  match P.underlying t with
  | some (.map kt et) => match P.underlying kt, zeroA P et with
    | some d, some z => if keyD d = true then
        match (match x with | .nilmap => some ([], []) | .vmap ks vs => some (ks, vs) | .map id => (match H[id]? with | some (.map ks vs) => some (ks, vs) | _ => none) | _ => none) with
        | some (ks, vs) => match findA d key ks 0 with
          | some (some j) => (vs[j]?).map fun v => if ok then .tup [v, .bool true] else v
          | some none => some (if ok then .tup [z, .bool false] else z)
          | none => none
        | none => none
      else none
    | _, _ => none
  | _ => none

theorem evLookup_ok (s : Sim w0 F0 F μ H w) {t : TypeId} {x key v : AV} {X K : Value} {ok : Bool} (hx : VR F w μ x X) (hk : VR F w μ key K) (h : evLookup P t x key ok H = some v) :
    DoesV P (Instr.lookup t X K ok) w0 F0 F μ w v H := by
  unfold evLookup at h
  split at h
  case h_2 => cases h
  rename_i kt et hu
  split at h
  case h_2 => cases h
  rename_i d z hd hz
  split at h
  case isFalse => cases h
  rename_i hkd
  split at h
  case h_2 => cases h
  rename_i ks vs hks
  have hent : ∃ es : List MapEntry, VRk F w μ ks vs es ∧ ((X = .map none ∧ es = []) ∨ ∃ r E clock, X = .map (some r) ∧ w.heap[r]? = some (.map E clock) ∧ E.toList = es) := by
    split at hks
    · cases hks
      cases hx
      exact ⟨[], .nil, .inl ⟨rfl, rfl⟩⟩
    · cases hks
      cases hx with
      | vmap _ _ r E clock hF hr hbb hes => exact ⟨E.toList, hes, .inr ⟨r, E, clock, rfl, hr, rfl⟩⟩
    · rename_i id
      split at hks
      · rename_i ks' vs' hid
        cases hks
        cases hx with
        | map _ L hμ =>
          cases s.obs id _ hid with
          | map _ _ L' E clock hμ' hB hw hes hb hF =>
            rw [hμ] at hμ'; cases hμ'
            exact ⟨E.toList, hes, .inr ⟨_, E, clock, rfl, hw, rfl⟩⟩
      · cases hks
    · cases hks
  obtain ⟨es, hes, hX⟩ := hent
  obtain ⟨Z, hZ1, hZ2, _⟩ := zero_run (P := P) (F := F) (μ := μ) hz w
  split at h
  · rename_i j hj
    obtain ⟨_, h2⟩ := findA_ok hk hes hj
    obtain ⟨_, e, v', h5, h6, h7, _, _, h11⟩ := h2 j rfl
    rw [Nat.sub_zero] at h6
    rw [h6] at h
    cases h
    refine .pure_ s (run_lookup (ok := ok) hu hd hkd hX h11 hZ1) ?_
    cases ok
    · exact h7
    · exact .tup _ #[e.val, .bool true] (.cons _ _ _ _ h7 (.cons _ _ _ _ (.bool true) .nil))
  · rename_i hj
    obtain ⟨h1, _⟩ := findA_ok hk hes hj
    cases h
    refine .pure_ s (run_lookup (ok := ok) hu hd hkd hX (h1 rfl) hZ1) ?_
    cases ok
    · exact hZ2
    · exact .tup _ #[Z, .bool false] (.cons _ _ _ _ hZ2 (.cons _ _ _ _ (.bool false) .nil))
  · cases h

theorem VRk.set {ks vs : List AV} {es : List MapEntry} (h : VRk F w μ ks vs es) : ∀ {j : Nat} {e : MapEntry} {v : AV} {V K : Value}, es[j]? = some e → VR F w μ v V → e.key = K →
    VRk F w μ ks (vs.set j v) (es.set j { e with key := K, val := V }) := by
  induction ks generalizing vs es with
  | nil => cases h; intro j e v V K hj; simp at hj
  | cons k ks ih =>
    cases h with
    | cons _ v0 _ vs e0 es hk hv t =>
      intro j e v V K hj hV hK
      cases j with
      | zero =>
        simp at hj; subst hj
        exact .cons k v ks vs _ es (by rw [← hK]; exact hk) hV t
      | succ j => exact .cons k v0 ks _ e0 _ hk hv (ih t (by simpa using hj) hV hK)

theorem VRk.push {ks vs : List AV} {es : List MapEntry} (h : VRk F w μ ks vs es) {k v : AV} {e : MapEntry} (hk : VR F w μ k e.key) (hv : VR F w μ v e.val) : VRk F w μ (ks ++ [k]) (vs ++ [v]) (es ++ [e]) := by
  induction ks generalizing vs es with
  | nil => cases h; exact .cons k v [] [] e [] hk hv .nil
  | cons k0 ks ih => cases h with | cons _ v0 _ vs e0 es hk0 hv0 t => exact .cons k0 v0 _ _ e0 _ hk0 hv0 (ih t)

theorem sameBits_key {d : TypeDesc} {key k : AV} {K : Value} (hK : VR F w μ key K) (h : keyEq d key k = some true) : Instr.sameBits 10000 K K = true := by
  show Instr.sameBits (9999 + 1) K K = true
  unfold keyEq at h
  split at h
  · cases hK; simp [Instr.sameBits, ba_beq]
  · cases hK; simp [Instr.sameBits]
  · cases hK; simp [Instr.sameBits]
  · cases h

theorem findA_eq {d : TypeDesc} {key : AV} : ∀ {ks : List AV} {i j : Nat}, findA d key ks i = some (some j) → ∃ k, keyEq d key k = some true := by
  intro ks
  induction ks with
  | nil => intro i j h; simp [findA] at h
  | cons k ks ih =>
    intro i j h
    unfold findA at h
    split at h
    · exact ⟨k, ‹_›⟩
    · exact ih h
    · cases h

def evMapUpdate (P : Program) (t : TypeId) (x key v : AV) (H : List OB) : Option (List OB) :=
  match P.underlying t, x with
  | some (.map kt _), .map id => match P.underlying kt, H[id]? with
    | some d, some (.map ks vs) => if keyD d = true then
        match findA d key ks 0 with
        | some (some j) => some (H.set id (.map ks (vs.set j v)))
        | some none => some (H.set id (.map (ks ++ [key]) (vs ++ [v])))
        | none => none
      else none
    | _, _ => none
  | _, _ => none

theorem evMapUpdate_ok (s : Sim w0 F0 F μ H w) {t : TypeId} {x key v : AV} {X K V : Value} {H' : List OB} (hx : VR F w μ x X) (hk : VR F w μ key K) (hv : VR F w μ v V) (h : evMapUpdate P t x key v H = some H') :
    ∃ w', (Instr.mapUpdate t X K V).run P w = .ok () w' ∧ Ext F w μ F w' μ ∧ Sim w0 F0 F μ H' w' := by
  unfold evMapUpdate at h
  split at h
  case h_2 => cases h
  rename_i kt et id hu
  split at h
  case h_2 => cases h
  rename_i d ks vs hd hid
  split at h
  case isFalse => cases h
  rename_i hkd
  cases hx with
  | map _ L hμ =>
    have hob := s.obs id _ hid
    cases hob with
    | map _ _ L' E clock hμ' hB hw hes hb hF =>
      rw [hμ] at hμ'; cases hμ'
      have hlt : L.block < w.heap.size := (Array.getElem?_eq_some_iff.1 hw).1
      split at h
      · rename_i j hj
        cases h
        obtain ⟨_, h2⟩ := findA_ok hk hes hj
        obtain ⟨_, e, v', h5, h6, h7, h8, h9, h11⟩ := h2 j rfl
        rw [Nat.sub_zero] at h5 h6
        obtain ⟨k0, hk0⟩ := findA_eq hj
        have hsb := sameBits_key hk hk0
        have hEj : E[j]? = some e := by rw [← Array.getElem?_toList]; exact h5
        have hmod : E.modify j (fun e => { e with key := K, val := V }) = (E.toList.set j { e with key := K, val := V }).toArray := by
          apply Array.ext_getElem?
          intro i
          rw [Array.getElem?_modify, show (E.toList.set j { e with key := K, val := V }).toArray[i]? = (E.toList.set j { e with key := K, val := V })[i]? from by simp, List.getElem?_set]
          split
          · rename_i e1
            subst e1
            have hjl := (List.getElem?_eq_some_iff.1 h5).1
            rw [hEj, if_pos hjl]; rfl
          · rw [Array.getElem?_toList]
        have hrun : (Instr.mapUpdate t (.map (some L.block)) K V).run P w = .ok () { w with heap := w.heap.setIfInBounds L.block (.map (E.modify j (fun e => { e with key := K, val := V })) clock) } := by
          simp only [Instr.mapUpdate, Sem.run_bind, run_underlying hu, Result.andThen]
          simp [getObj, setObj, Sem.run, hw, run_checkKey hd hkd, run_findKey hd h11, Instr.keyThatStays, hEj, h8, hsb]
        obtain ⟨x1, s1⟩ := s.write id _ (.map ks (vs.set j v)) L hid rfl hμ (.map (E.modify j (fun e => { e with key := K, val := V })) clock) (fun x => by
          refine .map _ _ L _ clock hμ hB (by show (w.heap.setIfInBounds L.block _)[L.block]? = _; rw [Array.getElem?_setIfInBounds, if_pos rfl, if_pos hlt]) ?_ ?_ hF
          · have hml : (E.modify j (fun e => { e with key := K, val := V })).toList = E.toList.set j { e with key := K, val := V } := by rw [hmod]
            rw [hml]
            exact VRk.mono x (hes.set h5 hv h8)
          · rw [hmod]
            refine ⟨fun e' he' => ?_, ?_⟩
            · rcases List.mem_or_eq_of_mem_set (by simpa using he') with h12 | h12
              · exact hb.lt e' h12
              · subst h12; exact hb.lt e (List.mem_of_getElem? h5)
            · have : (E.toList.set j { e with key := K, val := V }).map (·.born) = E.toList.map (·.born) := by
                apply List.ext_getElem?
                intro i
                simp only [List.getElem?_map, List.getElem?_set]
                split
                · rename_i e1
                  subst e1
                  rw [h5]
                  have hjl := (List.getElem?_eq_some_iff.1 h5).1
                  rw [if_pos hjl]; rfl
                · rfl
              show ((E.toList.set j { e with key := K, val := V }).toArray.toList.map (·.born)).Nodup
              rw [show (E.toList.set j { e with key := K, val := V }).toArray.toList = E.toList.set j { e with key := K, val := V } from rfl, this]
              exact hb.own)
        exact ⟨_, hrun, x1, s1⟩
      · rename_i hj
        cases h
        obtain ⟨h1, _⟩ := findA_ok hk hes hj
        have hrun : (Instr.mapUpdate t (.map (some L.block)) K V).run P w = .ok () { w with heap := w.heap.setIfInBounds L.block (.map (E.push { key := K, val := V, born := clock }) (clock + 1)) } := by
          simp only [Instr.mapUpdate, Sem.run_bind, run_underlying hu, Result.andThen]
          simp [getObj, setObj, Sem.run, hw, run_checkKey hd hkd, run_findKey hd (h1 rfl)]
        obtain ⟨x1, s1⟩ := s.write id _ (.map (ks ++ [key]) (vs ++ [v])) L hid rfl hμ (.map (E.push { key := K, val := V, born := clock }) (clock + 1)) (fun x => by
          refine .map _ _ L _ (clock + 1) hμ hB (by show (w.heap.setIfInBounds L.block _)[L.block]? = _; rw [Array.getElem?_setIfInBounds, if_pos rfl, if_pos hlt]) ?_ ?_ hF
          · rw [Array.toList_push]
            exact VRk.mono x (hes.push (e := { key := K, val := V, born := clock }) hk hv)
          · rw [Array.toList_push]
            refine ⟨fun e' he' => ?_, ?_⟩
            · rcases List.mem_append.1 he' with h12 | h12
              · have := hb.lt e' h12; omega
              · simp at h12; subst h12; simp
            · rw [List.map_append, List.nodup_append]
              refine ⟨hb.own, by simp, ?_⟩
              intro x hx y hy
              simp at hy
              obtain ⟨e', h13, rfl⟩ := List.mem_map.1 hx
              have := hb.lt e' h13
              omega)
        exact ⟨_, hrun, x1, s1⟩
      · cases h

def evMakeMap (H : List OB) : AV × List OB := (.map H.length, H ++ [.map [] []])

theorem evMakeMap_ok (s : Sim w0 F0 F μ H w) (t : TypeId) : DoesV P (Instr.makeMap t none) w0 F0 F μ w (.map H.length) (H ++ [.map [] []]) := by
  obtain ⟨μ', x1, h2, s1⟩ := s.alloc (.map #[] 0) (.map [] []) ⟨w.heap.size, 0, 0⟩ rfl (fun μ' x hμ' hF =>
    .map [] [] ⟨w.heap.size, 0, 0⟩ #[] 0 hμ' s.below.size (by rw [push_get]; exact if_pos rfl) .nil ⟨by simp, by simp⟩ hF)
  refine ⟨.map (some w.heap.size), _, F, μ', ?_, x1, s1, .map H.length ⟨w.heap.size, 0, 0⟩ h2⟩
  simp [Instr.makeMap]

/-! ### min, max -/

def evMax (x y : AV) : Option AV :=
  match x, y with
  | .int k a, .int _ b => some (.int k (if b > a then b else a))
  | _, _ => none
def evMin (x y : AV) : Option AV :=
  match x, y with
  | .int k a, .int _ b => some (.int k (if b < a then b else a))
  | _, _ => none

theorem evMax_ok (s : Sim w0 F0 F μ H w) {ts : Array TypeId} {rT : TypeId} {x y v : AV} {X Y : Value} (hx : VR F w μ x X) (hy : VR F w μ y Y) (h : evMax x y = some v) : DoesV P (Builtin.max_ ts rT #[X, Y]) w0 F0 F μ w v H := by
  unfold evMax at h
  split at h
  · cases h; cases hx; cases hy
    exact .pure_ s (by simp [Builtin.max_, Builtin.max2]) (.int _ _)
  · cases h
theorem evMin_ok (s : Sim w0 F0 F μ H w) {ts : Array TypeId} {rT : TypeId} {x y v : AV} {X Y : Value} (hx : VR F w μ x X) (hy : VR F w μ y Y) (h : evMin x y = some v) : DoesV P (Builtin.min_ ts rT #[X, Y]) w0 F0 F μ w v H := by
  unfold evMin at h
  split at h
  · cases h; cases hx; cases hy
    exact .pure_ s (by simp [Builtin.min_, Builtin.min2]) (.int _ _)
  · cases h
end
end Go.Av
