/- Functions out of their bodies; a state told less exactly; regions that draw their order and leave memory as it was: under the conditions named; a text without a program. -/
import Derived.Test.YtmeijkidjifagaaAvM
namespace Go.Av
open Go.RowKit (Below)
set_option linter.unusedVariables false

/-! ### A value told less exactly -/

mutual
inductive Le : AV → AV → Prop
  | refl (v : AV) : Le v v
  | junk (v : AV) : Le v .junk
  | exact (wd : Nat) (x : Bool) (es : List AV) : Le (.vsl wd x es) (.vsl wd false es)
  | nil (wd wd' : Nat) (x : Bool) : Le (.vsl wd x []) (.vsl wd' false [])
  | agg (l l' : List AV) (h : Les l l') : Le (.agg l) (.agg l')
  | tup (l l' : List AV) (h : Les l l') : Le (.tup l) (.tup l')
inductive Les : List AV → List AV → Prop
  | nil : Les [] []
  | cons (v v' : AV) (l l' : List AV) (h : Le v v') (t : Les l l') : Les (v :: l) (v' :: l')
end

section
variable {F : Nat → Nat → Prop} {w : World} {μ : Nat → Option Loc}
mutual
theorem VR.le {v v' : AV} {V : Value} (h : VR F w μ v V) : Le v v' → VR F w μ v' V
  | .refl _ => h
  | .junk _ => .junk _
  | .exact wd x es => by
    cases h with
    | vsl _ _ _ A cap hx hl hb ha => exact .vsl wd false es A cap (fun h => by cases h) hl hb ha
  | .nil wd wd' x => by
    cases h with
    | vsl _ _ _ A cap hx hl hb ha => exact .vsl wd' false [] A cap (fun h => by cases h) hl hb (.nil _ _)
  | .agg l l' hl => by
    cases h with
    | agg _ A hA => exact .agg l' A (VRs.le hA hl)
  | .tup l l' hl => by
    cases h with
    | tup _ A hA => exact .tup l' A (VRs.le hA hl)
theorem VRs.le {l l' : List AV} {L : List Value} (h : VRs F w μ l L) : Les l l' → VRs F w μ l' L
  | .nil => h
  | .cons v v' l l' hv t => by
    cases h with
    | cons _ V _ L h1 h2 => exact .cons _ _ _ _ (VR.le h1 hv) (VRs.le h2 t)
end
end

/-! ### Handles below a number -/

mutual
def AV.hlt (m : Nat) : AV → Bool
  | .ptr id _ | .sl id _ _ _ | .map id | .yld id => decide (id < m)
  | .vptr l => AV.hlts m l
  | .vsl _ _ l => AV.hlts m l
  | .vmap ks vs => AV.hlts m ks && AV.hlts m vs
  | .func _ fs cs => AV.hlts m fs && AV.hlts m cs
  | .iface _ v => AV.hlt m v
  | .agg l => AV.hlts m l
  | .tup l => AV.hlts m l
  | _ => true
def AV.hlts (m : Nat) : List AV → Bool
  | [] => true
  | v :: l => AV.hlt m v && AV.hlts m l
end

def hltT (m : Nat) : List (Nat × AV) → Bool
  | [] => true
  | (_, v) :: r => v.hlt m && hltT m r

theorem hltT_get {m : Nat} : ∀ {T : List (Nat × AV)}, hltT m T = true → ∀ t, (get T t).hlt m = true := by
  intro T
  induction T with
  | nil => intro _ t; rfl
  | cons p r ih =>
    intro h t
    obtain ⟨s, v⟩ := p
    simp only [hltT, Bool.and_eq_true] at h
    simp only [get]
    split
    · exact h.1
    · exact ih h.2 t

def OB.hlt (m : Nat) : OB → Bool
  | .cells cs _ => AV.hlts m cs
  | .map ks vs => AV.hlts m ks && AV.hlts m vs
  | .loop T _ => hltT m T
  | .dfr => true
  | .iter ks vs _ => AV.hlts m ks && AV.hlts m vs
  | .dead => true

theorem hlts_all (m : Nat) (l : List AV) : AV.hlts m l = l.all (AV.hlt m) := by
  induction l with
  | nil => rfl
  | cons v l ih => simp [AV.hlts, ih]

def cutμ (m : Nat) (μ : Nat → Option Loc) : Nat → Option Loc := fun i => if i < m then μ i else none

section
variable {P : Program} {w0 : World} {F0 F F' : Nat → Nat → Prop} {μ μ' : Nat → Option Loc} {H H' : List OB} {w w' : World} {n m k : Nat} {a b : St} {act : Act} {R : Option Nat} {Q : Ex → St → Prop}

mutual
theorem VR.cut {v : AV} {V : Value} : VR F w μ v V → AV.hlt m v = true → VR F w (cutμ m μ) v V
  | .junk V, _ => .junk V
  | .bool b, _ => .bool b
  | .int k n, _ => .int k n
  | .str s hb, _ => .str s hb
  | .nilptr, _ => .nilptr
  | .ptr id off L h, hh => .ptr id off L (by simp [AV.hlt] at hh; simp [cutμ, hh, h])
  | .vptr cs b o h, hh => .vptr cs b o (VRm.cut h (by simpa [AV.hlt] using hh))
  | .sl id off len wd cap L h hc hl hb, hh => .sl id off len wd cap L (by simp [AV.hlt] at hh; simp [cutμ, hh, h]) hc hl hb
  | .vsl wd e es A cap hx hl hb h, hh => .vsl wd e es A cap hx hl hb (VRa.cut h (by simpa [AV.hlt] using hh))
  | .nilmap, _ => .nilmap
  | .map id L h, hh => .map id L (by simp [AV.hlt] at hh; simp [cutμ, hh, h])
  | .vmap ks vs r es clock hF hr hb h, hh => .vmap ks vs r es clock hF hr hb (VRk.cut h (by simp [AV.hlt] at hh; exact hh.1) (by simp [AV.hlt] at hh; exact hh.2))
  | .func fn fs cs Fs Cs hf hc, hh => .func fn fs cs Fs Cs (VRs.cut hf (by simp [AV.hlt] at hh; exact hh.1)) (VRs.cut hc (by simp [AV.hlt] at hh; exact hh.2))
  | .nilfunc, _ => .nilfunc
  | .iface t v V h, hh => .iface t v V (VR.cut h (by simpa [AV.hlt] using hh))
  | .nilif, _ => .nilif
  | .agg l A h, hh => .agg l A (VRs.cut h (by simpa [AV.hlt] using hh))
  | .tup l A h, hh => .tup l A (VRs.cut h (by simpa [AV.hlt] using hh))
  | .yld id L h, hh => .yld id L (by simp [AV.hlt] at hh; simp [cutμ, hh, h])
theorem VRs.cut {vs : List AV} {Vs : List Value} : VRs F w μ vs Vs → AV.hlts m vs = true → VRs F w (cutμ m μ) vs Vs
  | .nil, _ => .nil
  | .cons v V vs Vs h t, hh => .cons v V vs Vs (VR.cut h (by simp [AV.hlts] at hh; exact hh.1)) (VRs.cut t (by simp [AV.hlts] at hh; exact hh.2))
theorem VRm.cut {vs : List AV} {b o : Nat} : VRm F w μ vs b o → AV.hlts m vs = true → VRm F w (cutμ m μ) vs b o
  | .nil b o, _ => .nil b o
  | .cons v V vs b o hF hc h t, hh => .cons v V vs b o hF hc (VR.cut h (by simp [AV.hlts] at hh; exact hh.1)) (VRm.cut t (by simp [AV.hlts] at hh; exact hh.2))
theorem VRe.cut {vs : List AV} {size b o : Nat} : VRe F w μ vs size b o → AV.hlts m vs = true → VRe F w (cutμ m μ) vs size b o
  | .nil s b o, _ => .nil s b o
  | .cons v vs s b o hs h t, hh => .cons v vs s b o hs (VRm.cut h (by
      simp [AV.hlts] at hh
      have h1 := hh.1
      cases v <;> simp_all [AV.cells, AV.hlts, AV.hlt])) (VRe.cut t (by simp [AV.hlts] at hh; exact hh.2))
theorem VRa.cut {vs : List AV} {size : Nat} {A : Option Addr} : VRa F w μ vs size A → AV.hlts m vs = true → VRa F w (cutμ m μ) vs size A
  | .nil s A, _ => .nil s A
  | .at es s b o h, hh => .at es s b o (VRe.cut h hh)
theorem VRk.cut {ks vs : List AV} {es : List MapEntry} : VRk F w μ ks vs es → AV.hlts m ks = true → AV.hlts m vs = true → VRk F w (cutμ m μ) ks vs es
  | .nil, _, _ => .nil
  | .cons k v ks vs e es hk hv t, h1, h2 => .cons k v ks vs e es (VR.cut hk (by simp [AV.hlts] at h1; exact h1.1)) (VR.cut hv (by simp [AV.hlts] at h2; exact h2.1)) (VRk.cut t (by simp [AV.hlts] at h1; exact h1.2) (by simp [AV.hlts] at h2; exact h2.2))
end

/-- The first m blocks alone, some of them given up. -/
theorem Sim.cut (s : Sim w0 F0 F μ H w) (hm : H'.length = m) (hsub : ∀ (i : Nat) (blk : OB), H'[i]? = some blk → blk = .dead ∨ (H[i]? = some blk ∧ blk.hlt m = true)) :
    Sim w0 F0 F (cutμ m μ) H' w := by
  have hl : ∀ (i : Nat) (blk : OB), H'[i]? = some blk → blk.live = true → H[i]? = some blk ∧ blk.hlt m = true := by
    intro i blk hi hl
    rcases hsub i blk hi with rfl | h
    · cases hl
    · exact h
  have hc : ∀ i L, cutμ m μ i = some L → μ i = some L ∧ i < m := by
    intro i L h
    unfold cutμ at h
    split at h
    · exact ⟨h, ‹_›⟩
    · cases h
  refine ⟨s.below, s.new, s.old, s.lt, ?_, ?_, ?_⟩
  · intro i blk hi
    by_cases hlv : blk.live = true
    · obtain ⟨h1, h2⟩ := hl i blk hi hlv
      have him : i < m := by rw [← hm]; exact (List.getElem?_eq_some_iff.1 hi).1
      cases s.obs i blk h1 with
      | cells cs opn L c el lo hi2 hμ hB hw hcap hlen hfix hun hcs hF =>
        refine .cells cs opn L c el lo hi2 (by simp [cutμ, him, hμ]) hB hw hcap hlen hfix hun (fun j v hj => ?_) hF
        obtain ⟨V, h3, h4⟩ := hcs j v hj
        simp only [OB.hlt, hlts_all] at h2
        exact ⟨V, h3, h4.cut (List.all_eq_true.1 h2 v (List.mem_of_getElem? hj))⟩
      | map ks vs L es clock hμ hB hw hes hb hF =>
        simp only [OB.hlt, Bool.and_eq_true] at h2
        exact .map ks vs L es clock (by simp [cutμ, him, hμ]) hB hw (hes.cut h2.1 h2.2) hb hF
      | loop T K L rec hμ hB hw e1 e2 e3 e4 e5 e6 hT hF =>
        exact .loop T K L rec (by simp [cutμ, him, hμ]) hB hw e1 e2 e3 e4 e5 e6 (fun t => (hT t).cut (hltT_get h2 t)) hF
      | dfr L hμ hB hw hF => exact .dfr L (by simp [cutμ, him, hμ]) hB hw hF
      | iter ks vs seen L mm es clock ss hμ hB h0 hw hm hmw hb hk hss hF =>
        simp only [OB.hlt, Bool.and_eq_true] at h2
        exact .iter ks vs seen L mm es clock ss (by simp [cutμ, him, hμ]) hB h0 hw hm hmw hb (hk.cut h2.1 h2.2) hss hF
      | dead => cases hlv
    · exact OBR.dead_of (by simpa using hlv)
  · intro i j bi bj Li Lj hi hj li lj mi mj hij
    exact s.apart i j bi bj Li Lj (hl i bi hi li).1 (hl j bj hj lj).1 li lj (hc i Li mi).1 (hc j Lj mj).1 hij
  · intro i L h
    rw [hm]; exact (hc i L h).2

/-- Slots told less exactly. -/
def subT (T : List (Nat × AV)) : List (Nat × AV) → Prop
  | [] => True
  | (t, v) :: r => Le (get T t) v ∧ subT T r

/-- Blocks, the first of some, each as it was or given up. -/
def subH (m : Nat) : List OB → List OB → Prop
  | _, [] => True
  | blk :: r, .dead :: r' => subH m r r'
  | blk :: r, blk' :: r' => blk = blk' ∧ blk'.hlt m = true ∧ subH m r r'
  | [], _ :: _ => False

theorem subH_get : ∀ {H H' : List OB}, subH m H H' → ∀ (i : Nat) (blk : OB), H'[i]? = some blk → blk = .dead ∨ (H[i]? = some blk ∧ blk.hlt m = true) := by
  intro H H'
  induction H' generalizing H with
  | nil => intro _ i blk h; simp at h
  | cons b' r' ih =>
    intro h i blk hi
    cases H with
    | nil => cases b' <;> simp [subH] at h
    | cons b r =>
      cases i with
      | zero =>
        simp at hi; subst hi
        cases b' with
        | dead => exact .inl rfl
        | cells _ _ => simp only [subH] at h; exact .inr ⟨by simp [h.1], h.2.1⟩
        | map _ _ => simp only [subH] at h; exact .inr ⟨by simp [h.1], h.2.1⟩
        | loop _ _ => simp only [subH] at h; exact .inr ⟨by simp [h.1], h.2.1⟩
        | dfr => simp only [subH] at h; exact .inr ⟨by simp [h.1], h.2.1⟩
        | iter _ _ _ => simp only [subH] at h; exact .inr ⟨by simp [h.1], h.2.1⟩
      | succ i =>
        have h' : subH m r r' := by
          cases b' with
          | dead => exact h
          | cells _ _ => simp only [subH] at h; exact h.2.2
          | map _ _ => simp only [subH] at h; exact h.2.2
          | loop _ _ => simp only [subH] at h; exact h.2.2
          | dfr => simp only [subH] at h; exact h.2.2
          | iter _ _ _ => simp only [subH] at h; exact h.2.2
        simpa using ih h' i blk (by simpa using hi)

theorem subT_get {T : List (Nat × AV)} : ∀ {T' : List (Nat × AV)}, subT T T' → hltT m T' = true → ∀ t, get T' t = .junk ∨ (Le (get T t) (get T' t) ∧ (get T' t).hlt m = true) := by
  intro T'
  induction T' with
  | nil => intro _ _ t; exact .inl rfl
  | cons p r ih =>
    intro h hh t
    obtain ⟨s, v⟩ := p
    simp only [subT] at h
    simp only [hltT, Bool.and_eq_true] at hh
    simp only [get]
    by_cases e : s = t
    · subst e; rw [if_pos rfl]; exact .inr ⟨h.1, hh.1⟩
    · rw [if_neg e]; exact ih h.2 hh.2 t

/-- A state told less exactly. -/
theorem VD.cut {D : List Nat} {ds : List Deferred} (h : VD μ D ds) (hh : D.all (fun id => decide (id < m)) = true) : VD (cutμ m μ) D ds := by
  induction h with
  | nil => exact .nil
  | cons id L D ds h _ ih =>
    simp only [List.all_cons, Bool.and_eq_true, decide_eq_true_eq] at hh
    exact .cons id L D ds (by simp [cutμ, hh.1, h]) (ih hh.2)

theorem Rel.weaken {B : Bs k} (hD : a.D = b.D ∧ b.D.all (fun id => decide (id < b.H.length)) = true) (hk : k ≤ b.H.length) (hT : subT a.T b.T) (hh : hltT b.H.length b.T = true) (hH : subH b.H.length a.H b.H) (r : Rel n B a act w) : Rel n B b act w := by
  obtain ⟨F, μ, s, y, t⟩ := r
  have hc : ∀ id L, B.μs id = some L → cutμ b.H.length μ id = some L := by
    intro id L h
    have := B.dom id L h
    unfold cutμ
    rw [if_pos (by omega)]; exact y.mu _ _ h
  refine ⟨F, cutμ b.H.length μ, s.cut rfl (subH_get hH), ⟨hc, y.fr, y.cell, y.obj⟩, ⟨(hD.1 ▸ t.defers).cut hD.2, t.size, fun i => ?_⟩⟩
  rcases subT_get hT hh i with h | ⟨h1, h2⟩
  · rw [h]; exact .junk _
  · exact ((t.slots i).le h1).cut h2

theorem W.weaken {c : Code} (b : St) (hD : a.D = b.D ∧ b.D.all (fun id => decide (id < b.H.length)) = true) (hk : k ≤ b.H.length) (hT : subT a.T b.T) (hh : hltT b.H.length b.T = true) (hH : subH b.H.length a.H b.H) (h : W P n k R c Q b) : W P n k R c Q a :=
  fun B act w r => h B act w (r.weaken hD hk hT hh hH)

/-! ### Functions -/

def argT : Nat → List AV → List (Nat × AV)
  | _, [] => []
  | i, v :: vs => (i, v) :: argT (i + 1) vs

/-- One result. -/
def resA1 (P : Program) (a : St) : ResultVar → Option AV
  | .tmp t => some (get a.T t)
  | .cell t ty => evLoad P ty (get a.T t) a.H

/-- The results. -/
def resA (P : Program) (rs : List ResultVar) (a : St) : Option AV :=
  match rs with
  | [r] => resA1 P a r
  | rs => (rs.mapM (resA1 P a)).map .tup

def retP (P : Program) (rs : List ResultVar) (out : Out) (a : St) : Prop :=
  match out with
  | .ret r => ∃ r', (resA P rs a).bind (fz a.H 20) = some r' ∧ Le r' r
  | _ => False

/-- The marks are taken. -/
def takeD (H : List OB) : List Nat → Option (List OB)
  | [] => some H
  | id :: D => match H[id]? with
    | some .dfr => takeD (H.set id .dead) D
    | _ => none

/-- A state behind the marks. -/
def endA (a : St) : Option St := (takeD a.H a.D).map fun H' => ⟨a.T, H', []⟩

/-- The end of a function of values. -/
def retQ (P : Program) (rs : List ResultVar) (out : Out) : Ex → St → Prop
  | .normal, a | .ret, a => ∃ a', endA a = some a' ∧ retP P rs out a'
  | .panic t v, a => ∃ a', endA a = some a' ∧ match out with
    | .pan t' v' => t = t' ∧ ∃ v0, fz a'.H 20 v = some v0 ∧ Le v0 v'
    | _ => False
  | _, _ => False

theorem get_argT (vs : List AV) : ∀ (i t : Nat), get (argT i vs) t = if i ≤ t then (vs[t - i]?).getD .junk else .junk := by
  induction vs with
  | nil => intro i t; simp [argT, get]
  | cons v vs ih =>
    intro i t
    simp only [argT, get]
    by_cases e : i = t
    · subst e; simp
    · rw [if_neg e, ih]
      by_cases h : i + 1 ≤ t
      · rw [if_pos h, if_pos (by omega), show t - i = (t - (i + 1)) + 1 from by omega]; simp
      · rw [if_neg h, if_neg (by omega)]

theorem RelT.start {args : List AV} {Vs : List Value} (hv : VRs F w μ args Vs) (hn : args.length ≤ n) :
    RelT n F μ ⟨argT 0 args, H, []⟩ { tmps := Vs.toArray ++ Array.replicate (n - Vs.toArray.size) undef, defers := [] } w := by
  have hl := VRs.len hv
  refine ⟨.nil, by simp; omega, fun t => ?_⟩
  rw [get_argT, if_pos (Nat.zero_le _), Nat.sub_zero]
  cases hi : args[t]? with
  | none => exact .junk _
  | some v =>
    obtain ⟨V, h1, h2⟩ := hv.get hi
    have : t < Vs.length := (List.getElem?_eq_some_iff.1 h1).1
    simp only [Option.getD_some]
    rw [Array.getD_eq_getD_getElem?, Array.getElem?_append_left (by simpa using this)]
    simpa [h1] using h2

theorem resA1_ok (s : Sim w0 F0 F μ a.H w) (t : RelT n F μ a act w) {r : ResultVar} {v : AV} (h : resA1 P a r = some v) :
    ∃ V, (match r with | .tmp t => pure (act.tmps.getD t undef) | .cell x ty => do loadVar ty (← asAddr (act.tmps.getD x undef)) : Sem Value).run P w = .ok V w ∧ VR F w μ v V := by
  cases r with
  | tmp x => simp only [resA1, Option.some.injEq] at h; subst h; exact ⟨_, rfl, t.slots x⟩
  | cell x ty =>
    simp only [resA1] at h
    have hx := t.slots x
    have h' := h
    unfold evLoad at h
    split at h
    · rename_i sz ag hs ha
      split at h
      · rename_i id off hg
        rw [hg] at hx
        generalize hX : act.tmps.getD x undef = X at hx ⊢
        split at h
        · rename_i cs opn hid
          cases hx with
          | ptr _ _ L hμ =>
            cases s.obs id _ hid with
            | cells _ _ L' c el lo hi hμ' hB hw hcap hlen hfix hun hcs hF =>
              rw [hμ] at hμ'; cases hμ'
              obtain ⟨V, h1, h2⟩ := run_loadVar (P := P) (F := F) (w := w) (μ := μ) hs ha (b := L.block) (o := L.off) h (fun i v hiv => by
                obtain ⟨V, h3, h4⟩ := hcs i v hiv
                exact ⟨V, by rw [cell_eq w _ _ c el (lo, hi) hw]; exact h3, h4⟩)
              exact ⟨V, by simp only [Sem.run_bind, hX, asAddr, Sem.run_pure, Result.andThen, h1], h2⟩
        · cases h
      · rename_i cs hg
        rw [hg] at hx
        generalize hX : act.tmps.getD x undef = X at hx ⊢
        cases hx with
        | vptr _ b o hm =>
          obtain ⟨V, h1, h2⟩ := run_loadVar (P := P) (F := F) (w := w) (μ := μ) hs ha (b := b) (o := o) h (fun i v hi => (hm.get hi).2)
          exact ⟨V, by simp only [Sem.run_bind, hX, asAddr, Sem.run_pure, Result.andThen]; simpa using h1, h2⟩
      · cases h
    · cases h

theorem resAs_ok (s : Sim w0 F0 F μ a.H w) (t : RelT n F μ a act w) : ∀ {rs : List ResultVar} {vs : List AV}, rs.mapM (resA1 P a) = some vs →
    ∃ Vs : List Value, (rs.mapM (fun r => (match r with | .tmp t => pure (act.tmps.getD t undef) | .cell x ty => do loadVar ty (← asAddr (act.tmps.getD x undef)) : Sem Value))).run P w = .ok Vs w ∧ VRs F w μ vs Vs := by
  intro rs
  induction rs with
  | nil => intro vs h; simp at h; subst h; exact ⟨[], rfl, .nil⟩
  | cons r rs ih =>
    intro vs h
    simp only [List.mapM_cons] at h
    cases hr : resA1 P a r with
    | none => rw [hr] at h; cases h
    | some v =>
      rw [hr] at h
      cases hrs : rs.mapM (resA1 P a) with
      | none => rw [hrs] at h; cases h
      | some vs' =>
        rw [hrs] at h; cases h
        obtain ⟨V, h1, h2⟩ := resA1_ok (P := P) s t hr
        obtain ⟨Vs, h3, h4⟩ := ih hrs
        exact ⟨V :: Vs, by simp only [List.mapM_cons, Sem.run_bind, h1, Result.andThen, h3, Sem.run_pure], .cons _ _ _ _ h2 h4⟩

theorem results_ok {fn : Func} (s : Sim w0 F0 F μ a.H w) (t : RelT n F μ a act w) {v : AV} (h : resA P fn.results.toList a = some v) : ∃ V, (results fn act.tmps).run P w = .ok V w ∧ VR F w μ v V := by
  have hm : ∀ {vs : List AV}, fn.results.toList.mapM (resA1 P a) = some vs → ∃ Vs : List Value, VRs F w μ vs Vs ∧ Vs.length = fn.results.toList.length ∧ (results fn act.tmps).run P w = .ok (if h : Vs.toArray.size = 1 then Vs.toArray[0] else .tuple Vs.toArray) w := by
    intro vs hvs
    obtain ⟨Vs, h1, h2⟩ := resAs_ok (P := P) s t hvs
    have hlen : Vs.length = fn.results.toList.length := by
      rw [VRs.len h2]
      have key : ∀ (rs : List ResultVar) (vs : List AV), rs.mapM (resA1 P a) = some vs → vs.length = rs.length := by
        intro rs
        induction rs with
        | nil => intro vs h; simp at h; subst h; rfl
        | cons r rs ih =>
          intro vs h
          simp only [List.mapM_cons] at h
          cases hr : resA1 P a r with
          | none => rw [hr] at h; cases h
          | some v =>
            rw [hr] at h
            cases hrs : rs.mapM (resA1 P a) with
            | none => rw [hrs] at h; cases h
            | some vs' => rw [hrs] at h; cases h; simp [ih _ hrs]
      exact key _ _ hvs
    refine ⟨Vs, h2, hlen, ?_⟩
    unfold results
    rw [Array.mapM_eq_mapM_toList]
    simp only [Sem.run_bind, Sem.run_map]
    have h1' : (fn.results.toList.mapM (fun r => (match r with | .tmp t => pure (act.tmps.getD t undef) | .cell x ty => do loadVar ty (← asAddr (act.tmps.getD x undef)) : Sem Value))).run P w = .ok Vs w := h1
    refine (congrArg (fun r : Result (List Value) => (r.andThen _).andThen _) h1').trans ?_
    rfl
  unfold resA at h
  split at h
  · rename_i r hr
    have hvs : fn.results.toList.mapM (resA1 P a) = some [v] := by rw [hr]; simp [h]
    obtain ⟨Vs, h1, h2, h3⟩ := hm hvs
    cases h1 with
    | cons _ V _ Vs h4 h5 =>
      cases h5
      exact ⟨V, by simpa using h3, h4⟩
  · rename_i hne
    rw [Option.map_eq_some_iff] at h
    obtain ⟨vs, hvs, rfl⟩ := h
    obtain ⟨Vs, h1, h2, h3⟩ := hm hvs
    refine ⟨.tuple Vs.toArray, ?_, .tup _ _ (by simpa using h1)⟩
    rw [h3, dif_neg]
    intro h4
    have : fn.results.toList.length = 1 := by rw [← h2]; simpa using h4
    match hq : fn.results.toList with
    | [] => rw [hq] at this; cases this
    | [r] => exact hne r hq
    | _ :: _ :: _ => rw [hq] at this; simp at this

theorem lent_lt (s : Sim w0 F0 F μ H w) : ∀ b o, lent F μ H b o → b < w.heap.size := by
  rintro b o (h | ⟨id, blk, L, h1, h2, h3, rfl⟩)
  · exact s.lt b o h
  · obtain ⟨L', h4, _, h5, _⟩ := (s.obs id blk h1).loc h2
    rw [h3] at h4; cases h4; exact h5

theorem lent_old (s : Sim w0 F0 F μ H w) : ∀ b o, b < w0.heap.size → lent F μ H b o → F0 b o := by
  rintro b o hb (h | ⟨id, blk, L, h1, h2, h3, rfl⟩)
  · exact s.old b o hb h
  · obtain ⟨L', h4, h5, _, _⟩ := (s.obs id blk h1).loc h2
    rw [h3] at h4; cases h4; omega

/-- A function leaves: its marks are taken. -/
theorem takeD_ok {fn : Func} {tmps : Array Value} {E : Ending → World → Prop} {u : FrameMode} (hu : u ≠ .run) : ∀ {D : List Nat} {ds : List Deferred} {H H' : List OB} {w : World}, Sim w0 F0 F μ H w → takeD H D = some H' → VD μ D ds →
    (∀ w', Ext F w μ F w' μ → Sim w0 F0 F μ H' w' → LeavesIn Fence.wide 1 P fn tmps E [] u w') → LeavesInM Fence.wide 1 P fn tmps E ds u w := by
  intro D
  induction D with
  | nil =>
    intro ds H H' w s h hd hlast
    cases hd
    simp only [takeD, Option.some.injEq] at h; subst h
    exact hlast w (Ext.refl _ _ _) s
  | cons id D ih =>
    intro ds H H' w s h hd hlast
    cases hd with
    | cons _ L _ ds hμ hd =>
      simp only [takeD] at h
      split at h
      case h_2 => cases h
      rename_i hid
      have hob := s.obs id _ hid
      cases hob with
      | dfr L' hμ' hB hw hF =>
        rw [hμ] at hμ'; cases hμ'
        obtain ⟨x, s'⟩ := s.write id .dfr .dead L hid rfl hμ (.deferred none) (fun _ => .dead)
        refine ⟨hu, .inl ⟨L.block, _, rfl, ?_, ih s' h hd fun w' x' s'' => hlast w' (x.trans x') s''⟩⟩
        simp [Instr.takeDeferred, getObj, setObj, Sem.run, Sem.run_bind, hw, Result.andThen]

theorem endA_ok {fn : Func} {tmps : Array Value} {E : Ending → World → Prop} {u : FrameMode} (hu : u ≠ .run) {a' : St} (s : Sim w0 F0 F μ a.H w) (t : RelT n F μ a act w) (h : endA a = some a')
    (hlast : ∀ w', Ext F w μ F w' μ → Sim w0 F0 F μ a'.H w' → RelT n F μ a' { act with defers := [] } w' → LeavesIn Fence.wide 1 P fn tmps E [] u w') : LeavesInM Fence.wide 1 P fn tmps E act.defers u w := by
  unfold endA at h
  rw [Option.map_eq_some_iff] at h
  obtain ⟨H', h1, rfl⟩ := h
  exact takeD_ok hu s h1 t.defers fun w' x s' => hlast w' x s' ⟨.nil, t.size, fun i => VR.mono x (t.slots i)⟩

/-- A function of values, out of its body. -/
theorem PureFn.of {f : FuncId} {fn : Func} {c : Code} {args : List AV} {out : Out} (hf : P.funcs[f]? = some fn) (hb : fn.body = some c) (hc : ∀ Vs w, (callFunc f Vs).run P w = .ok (.enter f Vs) w) (hn : args.length ≤ fn.ntmps)
    (h : W P fn.ntmps 0 none c (retQ P fn.results.toList out) ⟨argT 0 args, [], []⟩) : PureFn P f args out := by
  intro F w Vs hlt hv
  refine .inl ⟨w, hc _ _, rfl, (callsIn_wide (n := 1)).1 (callsIn_of_wp_marks hf hb trivial ?_ rfl)⟩
  have s0 : Sim w F F noμ [] w := ⟨Below.refl _ _, fun _ _ h => h, fun _ _ _ h => h, hlt, by simp, by simp, fun _ _ h => by cases h⟩
  refine wpIn_mono (h ⟨w, F, w, F, noμ, fun _ _ h => by cases h⟩ _ w ⟨F, noμ, s0, Ext.refl _ _ _, RelT.start hv hn⟩) ?_
  rintro e act' w' ⟨ex, a', F', μ', hq, hx, s, y, t⟩
  have hpost : ∀ (H' : List OB) w'' out' e', Sim w F F' μ' H' w'' → OutR (lent F' μ' H') w'' noμ out' e' → Post F w out' e' w'' := by
    intro H' w'' out' e' s ho
    exact ⟨s.below, lent F' μ' H', fun b o h => .inl (s.new b o h), lent_lt s, fun b o hb h => lent_old s b o hb h, ho⟩
  have hret : (∃ a1, endA a' = some a1 ∧ retP P fn.results.toList out a1) → LeavesInM Fence.wide 1 P fn act'.tmps (Post F w out) act'.defers .returning w' := by
    rintro ⟨a1, h1, hq⟩
    refine endA_ok (by simp) s t h1 fun w'' x s'' t'' => ?_
    cases out with
    | pan _ _ => exact hq.elim
    | ret r =>
      obtain ⟨r', h1, h2⟩ := hq
      rw [Option.bind_eq_some_iff] at h1
      obtain ⟨r0, h3, h4⟩ := h1
      obtain ⟨V, h5, h6⟩ := results_ok (P := P) (act := { act' with defers := [] }) s'' t'' h3
      exact ⟨V, h5, hpost _ _ _ _ s'' (.ret r V ((fz_ok s'' _ _ _ _ h4 h6).le h2))⟩
  cases hx with
  | normal => exact hret hq
  | ret => exact hret hq
  | exit id => exact hq.elim
  | goto l => exact hq.elim
  | panic tt v V hV =>
    obtain ⟨a1, h1, hq⟩ := hq
    refine endA_ok (by simp) s t h1 fun w'' x s'' t'' => ?_
    cases out with
    | ret _ => exact hq.elim
    | pan t' v' =>
      obtain ⟨rfl, v0, h1, h2⟩ := hq
      exact hpost _ _ _ _ s'' (.pan tt v' V ((fz_ok s'' _ _ _ _ h1 (VR.mono x hV)).le h2))

def retPS (P : Program) (rs : List ResultVar) (out : Out) (H' : List OB) (a : St) : Prop :=
  match out with
  | .ret r => ∃ r', resA P rs a = some r' ∧ Le r' r ∧ r.hlt H'.length = true ∧ subH H'.length a.H H'
  | _ => False

/-- The end of a function that writes the caller's memory. -/
def retS (P : Program) (rs : List ResultVar) (out : Out) (H' : List OB) : Ex → St → Prop
  | .normal, a | .ret, a => ∃ a', endA a = some a' ∧ retPS P rs out H' a'
  | .panic t v, a => ∃ a', endA a = some a' ∧ match out with
    | .pan t' v' => t = t' ∧ Le v v' ∧ v'.hlt H'.length = true ∧ subH H'.length a'.H H'
    | _ => False
  | _, _ => False

/-- A function that writes the caller's memory, out of its body. -/
theorem ShFn.of {f : FuncId} {fn : Func} {c : Code} {args : List AV} {out : Out} (hf : P.funcs[f]? = some fn) (hb : fn.body = some c) (hc : ∀ Vs w, (callFunc f Vs).run P w = .ok (.enter f Vs) w) (hn : args.length ≤ fn.ntmps)
    (hle : H.length ≤ H'.length) (h : W P fn.ntmps H.length none c (retS P fn.results.toList out H') ⟨argT 0 args, H, []⟩) : ShFn P f args H out H' := by
  intro w0 F0 F μ w Vs s0 hv
  refine .inl ⟨w, hc _ _, rfl, (callsIn_wide (n := 1)).1 (callsIn_of_wp_marks hf hb trivial ?_ rfl)⟩
  refine wpIn_mono (h ⟨w0, F0, w, F, μ, s0.dom⟩ _ w ⟨F, μ, s0, Ext.refl _ _ _, RelT.start hv hn⟩) ?_
  rintro e act' w' ⟨ex, a', F', μ', hq, hx, s, y, t⟩
  have hext : ∀ (H1 : List OB) (w'' : World) (x : Ext F' w' μ' F' w'' μ') (s'' : Sim w0 F0 F' μ' H1 w'') (hs : subH H'.length H1 H'), Ext F w μ F' w'' (cutμ H'.length μ') ∧ Sim w0 F0 F' (cutμ H'.length μ') H' w'' := by
    intro H1 w'' x s'' hs
    have y' := y.trans x
    refine ⟨⟨?_, y'.fr, y'.cell, y'.obj⟩, s''.cut rfl (subH_get hs)⟩
    intro id L hL
    have := s0.dom id L hL
    unfold cutμ
    rw [if_pos (by omega)]
    exact y'.mu _ _ hL
  have hret : (∃ a1, endA a' = some a1 ∧ retPS P fn.results.toList out H' a1) → LeavesInM Fence.wide 1 P fn act'.tmps (fun e w' => ∃ F' μ', Ext F w μ F' w' μ' ∧ Sim w0 F0 F' μ' H' w' ∧ OutR F' w' μ' out e) act'.defers .returning w' := by
    rintro ⟨a1, h1, hq⟩
    refine endA_ok (by simp) s t h1 fun w'' x s'' t'' => ?_
    cases out with
    | pan _ _ => exact hq.elim
    | ret r =>
      obtain ⟨r', h1, h2, h3, h4⟩ := hq
      obtain ⟨V, h5, h6⟩ := results_ok (P := P) (act := { act' with defers := [] }) s'' t'' h1
      obtain ⟨x1, s1⟩ := hext _ _ x s'' h4
      exact ⟨V, h5, F', _, x1, s1, .ret r V ((h6.le h2).cut h3)⟩
  cases hx with
  | normal => exact hret hq
  | ret => exact hret hq
  | exit id => exact hq.elim
  | goto l => exact hq.elim
  | panic tt v V hV =>
    obtain ⟨a1, h1, hq⟩ := hq
    refine endA_ok (by simp) s t h1 fun w'' x s'' t'' => ?_
    cases out with
    | ret _ => exact hq.elim
    | pan t' v' =>
      obtain ⟨rfl, h2, h3, h4⟩ := hq
      obtain ⟨x1, s1⟩ := hext _ _ x s'' h4
      exact ⟨F', _, x1, s1, .pan tt v' V (((VR.mono x hV).le h2).cut h3)⟩
end
end Go.Av
