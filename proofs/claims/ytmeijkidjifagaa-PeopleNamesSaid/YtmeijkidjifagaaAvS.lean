/- Calls, run: each function by its body or by what is known of it: under the conditions named; a text without a program. -/
import Derived.Test.YtmeijkidjifagaaAvR
namespace Go.Av
open Go.RowKit (Below)
set_option linter.unusedVariables false

/-- What a function with a body says at a run's end, its memory told as it stands. -/
def endP (P : Program) (fn : Func) : Option (Ex × St) → Option Out
  | some (.normal, a) | some (.ret, a) => (endA a).bind fun a' => ((resA P fn.results.toList a').bind (fz a'.H 20)).map .ret
  | some (.panic t v, a) => (endA a).bind fun a' => (fz a'.H 20 v).map (.pan t)
  | _ => none

/-- The same, its memory left as it is. -/
def endS (P : Program) (fn : Func) : Option (Ex × St) → Option (Out × List OB)
  | some (.normal, a) | some (.ret, a) => (endA a).bind fun a' => (resA P fn.results.toList a').map fun r => (.ret r, a'.H)
  | some (.panic t v, a) => (endA a).bind fun a' => some (.pan t v, a'.H)
  | _ => none

/-- A round's end. -/
def endY (id : Nat) : Option (Ex × St) → Option (Out × List OB)
  | some (ex, a) => match a.H[id]? with
    | some (.loop T K) => match ex with
      | .normal => some (.ret (.bool true), a.H.set id (.loop T { K with st := .ready, pend := none }))
      | .ret => some (.ret (.bool false), a.H.set id (.loop T { K with st := .done, pend := some .ret }))
      | .exit i => some (.ret (.bool false), a.H.set id (.loop T { K with st := .done, pend := some (.exit i) }))
      | .goto i => some (.ret (.bool false), a.H.set id (.loop T { K with st := .done, pend := some (.goto i) }))
      | .panic _ _ => none
    | _ => none
  | none => none

/-- The blocks that are come to from a value. -/
def reachA (H : List OB) : Nat → AV → List Nat → List Nat
  | 0, _, S => S
  | k + 1, v, S =>
    let on (id : Nat) (S : List Nat) : List Nat := if S.contains id = true then S else match H[id]? with
      | some (.cells cs _) => cs.foldl (fun S v => reachA H k v S) (id :: S)
      | some (.map ks vs) => vs.foldl (fun S v => reachA H k v S) (ks.foldl (fun S v => reachA H k v S) (id :: S))
      | _ => S
    match v with
    | .ptr id _ | .sl id _ _ _ | .map id => on id S
    | .func _ fs cs => cs.foldl (fun S v => reachA H k v S) (fs.foldl (fun S v => reachA H k v S) S)
    | .iface _ v => reachA H k v S
    | .agg l | .tup l => l.foldl (fun S v => reachA H k v S) S
    | _ => S

/-- These blocks alone; all but these. -/
def keepS (S : List Nat) : Nat → List OB → List OB
  | _, [] => []
  | i, b :: r => (if S.contains i = true then b else .dead) :: keepS S (i + 1) r
def dropS (S : List Nat) : Nat → List OB → List OB
  | _, [] => []
  | i, b :: r => (if S.contains i = true then .dead else b) :: dropS S (i + 1) r

structure Ways where
  pm : FuncId → Bool
  gm : FuncId → Bool
  conP : FuncId → List AV → Option Out
  conS : FuncId → List AV → List OB → Option (Out × List OB)
  fuel : Nat

/-- A call, so many calls deep at most. -/
def callN (P : Program) (Y : Ways) : Nat → Cl → List AV → List OB → Option (Out × List OB)
  | 0, _, _, _ => none
  | d + 1, .fn f, args, H => match P.funcs[f]? with
    | none => none
    | some fn => match fn.body with
      | none => none
      | some c => if args.length ≤ fn.ntmps then
          if Y.pm f = true then match (if AV.hfs args = true then some args else args.mapM (fz H 20)) with
            | none => none
            | some args' => match (match Y.conP f args' with | some out => some out | none => endP P fn (runC P (callN P Y d) Y.pm fn.ntmps false Y.fuel c ⟨argT 0 args', [], []⟩)) with
              | some out => if (AV.hfs args || out.scalar) = true then some (out, H) else none
              | none => none
          else if Y.gm f = true then
            let S := args.foldl (fun S v => reachA H 20 v S) []
            match args.mapM (fz (keepS S 0 H) 20) with
            | none => none
            | some args' => match (match Y.conP f args' with | some out => some out | none => endP P fn (runC P (callN P Y d) Y.pm fn.ntmps false Y.fuel c ⟨argT 0 args', [], []⟩)) with
              | some out => some (out, dropS S 0 H)
              | none => none
          else match Y.conS f args H with
            | some r => some r
            | none => endS P fn (runC P (callN P Y d) Y.pm fn.ntmps false Y.fuel c ⟨argT 0 args, H, []⟩)
        else none
  | d + 1, .yld id, args, H => match H[id]? with
    | some (.loop T K) => if (K.ps.toList.all (fun p => decide (p < K.n)) && decide (K.ps.size = args.length)) = true then
        match runC P (callN P Y d) Y.pm K.n true Y.fuel K.assign ⟨putsA T K.ps.toList args, H, []⟩ with
        | some (.normal, a1) => match a1.H[id]? with
          | some (.loop T1 K1) => if K1.st = .ready then endY id (runC P (callN P Y d) Y.pm K.n true Y.fuel K.body { a1 with H := a1.H.set id (.loop T1 { K1 with st := .busy }) }) else none
          | _ => none
        | _ => none
      else none
    | _ => none

structure WaysRight (P : Program) (Y : Ways) : Prop where
  mixed : P.follows .mixedOrders = true
  enters : Enters P
  conP : ∀ f args out, Y.conP f args = some out → PureFn P f args out
  conS : ∀ f args H out H', Y.conS f args H = some (out, H') → ShFn P f args H out H'

section
variable {P : Program} {w0 : World} {F0 F F' : Nat → Nat → Prop} {μ μ' : Nat → Option Loc} {H H' : List OB} {w w' : World} {n m : Nat} {R : Option Nat} {a : St} {act : Act} {Q : Ex → St → Prop}

def retX (P : Program) (rs : List ResultVar) (out : Out) (H' : List OB) : Ex → St → Prop
  | .normal, a | .ret, a => ∃ a', endA a = some a' ∧ a'.H = H' ∧ ∃ r, resA P rs a' = some r ∧ out = .ret r
  | .panic t v, a => ∃ a', endA a = some a' ∧ a'.H = H' ∧ out = .pan t v
  | _, _ => False

theorem ShFn.ofX {f : FuncId} {fn : Func} {c : Code} {args : List AV} {out : Out} (hf : P.funcs[f]? = some fn) (hb : fn.body = some c) (hc : ∀ Vs w, (callFunc f Vs).run P w = .ok (.enter f Vs) w) (hn : args.length ≤ fn.ntmps)
    (h : W P fn.ntmps H.length none c (retX P fn.results.toList out H') ⟨argT 0 args, H, []⟩) : ShFn P f args H out H' := by
  intro w0 F0 F μ w Vs s0 hv
  refine .inl ⟨w, hc _ _, rfl, (callsIn_wide (n := 1)).1 (callsIn_of_wp_marks hf hb trivial ?_ rfl)⟩
  refine wpIn_mono (h ⟨w0, F0, w, F, μ, s0.dom⟩ _ w ⟨F, μ, s0, Ext.refl _ _ _, RelT.start hv hn⟩) ?_
  rintro e act' w' ⟨ex, a', F', μ', hq, hx, s, y, t⟩
  have hret : (∃ a1, endA a' = some a1 ∧ a1.H = H' ∧ ∃ r, resA P fn.results.toList a1 = some r ∧ out = .ret r) → LeavesInM Fence.wide 1 P fn act'.tmps (fun e w' => ∃ F' μ', Ext F w μ F' w' μ' ∧ Sim w0 F0 F' μ' H' w' ∧ OutR F' w' μ' out e) act'.defers .returning w' := by
    rintro ⟨a1, h1, rfl, r, h2, rfl⟩
    refine endA_ok (by simp) s t h1 fun w'' x s'' t'' => ?_
    obtain ⟨V, h5, h6⟩ := results_ok (P := P) (act := { act' with defers := [] }) s'' t'' h2
    exact ⟨V, h5, F', μ', y.trans x, s'', .ret r V h6⟩
  cases hx with
  | normal => exact hret hq
  | ret => exact hret hq
  | exit id => exact hq.elim
  | goto l => exact hq.elim
  | panic tt v V hV =>
    obtain ⟨a1, h1, rfl, rfl⟩ := hq
    refine endA_ok (by simp) s t h1 fun w'' x s'' t'' => ?_
    exact ⟨F', μ', y.trans x, s'', .pan tt v V (VR.mono x hV)⟩

theorem endS_ok {fn : Func} {r : Option (Ex × St)} {out : Out} (h : endS P fn r = some (out, H')) : ∃ e, r = some e ∧ retX P fn.results.toList out H' e.1 e.2 := by
  unfold endS at h
  split at h
  · rw [Option.bind_eq_some_iff] at h
    obtain ⟨a', h1, h2⟩ := h
    rw [Option.map_eq_some_iff] at h2
    obtain ⟨rr, h3, h4⟩ := h2
    cases h4
    exact ⟨_, rfl, a', h1, rfl, rr, h3, rfl⟩
  · rw [Option.bind_eq_some_iff] at h
    obtain ⟨a', h1, h2⟩ := h
    rw [Option.map_eq_some_iff] at h2
    obtain ⟨rr, h3, h4⟩ := h2
    cases h4
    exact ⟨_, rfl, a', h1, rfl, rr, h3, rfl⟩
  · rw [Option.bind_eq_some_iff] at h
    obtain ⟨a', h1, h2⟩ := h
    cases h2
    exact ⟨_, rfl, a', h1, rfl, rfl⟩
  · cases h

theorem endP_ok {fn : Func} {r : Option (Ex × St)} {out : Out} (h : endP P fn r = some out) : ∃ e, r = some e ∧ retQ P fn.results.toList out e.1 e.2 := by
  unfold endP at h
  split at h
  · rw [Option.bind_eq_some_iff] at h
    obtain ⟨a', h1, h2⟩ := h
    rw [Option.map_eq_some_iff] at h2
    obtain ⟨rr, h3, rfl⟩ := h2
    exact ⟨_, rfl, a', h1, rr, h3, .refl _⟩
  · rw [Option.bind_eq_some_iff] at h
    obtain ⟨a', h1, h2⟩ := h
    rw [Option.map_eq_some_iff] at h2
    obtain ⟨rr, h3, rfl⟩ := h2
    exact ⟨_, rfl, a', h1, rr, h3, .refl _⟩
  · rw [Option.bind_eq_some_iff] at h
    obtain ⟨a', h1, h2⟩ := h
    rw [Option.map_eq_some_iff] at h2
    obtain ⟨rr, h3, rfl⟩ := h2
    exact ⟨_, rfl, a', h1, rfl, rr, h3, .refl _⟩
  · cases h

theorem endY_ok {id : Nat} {r : Option (Ex × St)} {out : Out} (h : endY id r = some (out, H')) : ∃ e, r = some e ∧ roundQ id out H' e.1 e.2 := by
  unfold endY at h
  split at h
  · rename_i ex a
    split at h
    · rename_i T K hid
      split at h <;> first | (cases h; exact ⟨_, rfl, T, K, hid, rfl, rfl⟩) | cases h
    · cases h
  · cases h

theorem PureFn.sh {f : FuncId} {args args' : List AV} {out : Out} (hl : lend H args out = some args') (hp : PureFn P f args' out) : ShFn P f args H out H :=
  fun w0 F0 F μ w Vs s hv => PureFn.call s hl hp hv

theorem keepS_get (S : List Nat) : ∀ (H : List OB) (k i : Nat), (keepS S k H)[i]? = (H[i]?).map fun b => if S.contains (k + i) = true then b else .dead := by
  intro H
  induction H with
  | nil => intro k i; simp [keepS]
  | cons b r ih =>
    intro k i
    cases i with
    | zero => simp [keepS]
    | succ i => simp only [keepS, List.getElem?_cons_succ, ih]; rw [show k + 1 + i = k + (i + 1) from by omega]

theorem dropS_get (S : List Nat) : ∀ (H : List OB) (k i : Nat), (dropS S k H)[i]? = (H[i]?).map fun b => if S.contains (k + i) = true then .dead else b := by
  intro H
  induction H with
  | nil => intro k i; simp [dropS]
  | cons b r ih =>
    intro k i
    cases i with
    | zero => simp [dropS]
    | succ i => simp only [dropS, List.getElem?_cons_succ, ih]; rw [show k + 1 + i = k + (i + 1) from by omega]

theorem dropS_len (S : List Nat) : ∀ (H : List OB) (k : Nat), (dropS S k H).length = H.length := by
  intro H; induction H with
  | nil => intro k; rfl
  | cons b r ih => intro k; simp [dropS, ih]
theorem keepS_len (S : List Nat) : ∀ (H : List OB) (k : Nat), (keepS S k H).length = H.length := by
  intro H; induction H with
  | nil => intro k; rfl
  | cons b r ih => intro k; simp [keepS, ih]

theorem Sim.sub (s : Sim w0 F0 F μ H w) (hl : H'.length = H.length) (hs : ∀ (i : Nat) (b : OB), H'[i]? = some b → b = .dead ∨ H[i]? = some b) : Sim w0 F0 F μ H' w := by
  have hlv : ∀ (i : Nat) (b : OB), H'[i]? = some b → b.live = true → H[i]? = some b := by
    intro i b h hb
    rcases hs i b h with rfl | h
    · cases hb
    · exact h
  refine ⟨s.below, s.new, s.old, s.lt, ?_, ?_, fun id L h => by rw [hl]; exact s.dom id L h⟩
  · intro id b h
    by_cases hb : b.live = true
    · exact s.obs id b (hlv id b h hb)
    · exact OBR.dead_of (by simpa using hb)
  · intro i j bi bj Li Lj hi hj li lj mi mj hij
    exact s.apart i j bi bj Li Lj (hlv i bi hi li) (hlv j bj hj lj) li lj mi mj hij

/-- Some blocks are written no more. -/
theorem Sim.freeze (s : Sim w0 F0 F μ H w) (S : List Nat) : Ext F w μ (lent F μ (keepS S 0 H)) w μ ∧ Sim w0 F0 (lent F μ (keepS S 0 H)) μ (dropS S 0 H) w ∧
    ∀ v v' V, fz (keepS S 0 H) 20 v = some v' → VR F w μ v V → VR (lent F μ (keepS S 0 H)) w noμ v' V := by
  have hk : ∀ (i : Nat) (b : OB), (keepS S 0 H)[i]? = some b → b.live = true → H[i]? = some b ∧ S.contains i = true := by
    intro i b h hb
    rw [keepS_get, Option.map_eq_some_iff] at h
    obtain ⟨b', h1, h2⟩ := h
    rw [Nat.zero_add] at h2
    split at h2
    · subst h2; exact ⟨h1, ‹_›⟩
    · subst h2; cases hb
  have hd : ∀ (i : Nat) (b : OB), (dropS S 0 H)[i]? = some b → b.live = true → H[i]? = some b ∧ S.contains i = false := by
    intro i b h hb
    rw [dropS_get, Option.map_eq_some_iff] at h
    obtain ⟨b', h1, h2⟩ := h
    rw [Nat.zero_add] at h2
    split at h2
    · subst h2; cases hb
    · rename_i hn; subst h2; exact ⟨h1, by simpa using hn⟩
  have sk : Sim w0 F0 F μ (keepS S 0 H) w := s.sub (keepS_len _ _ _) fun i b h => by
    by_cases hb : b.live = true
    · exact .inr (hk i b h hb).1
    · cases b <;> first | exact .inl rfl | exact (hb rfl).elim
  have sd : Sim w0 F0 F μ (dropS S 0 H) w := s.sub (dropS_len _ _ _) fun i b h => by
    by_cases hb : b.live = true
    · exact .inr (hd i b h hb).1
    · cases b <;> first | exact .inl rfl | exact (hb rfl).elim
  refine ⟨lent_ext, ⟨sd.below, fun b o h => .inl (s.new b o h), fun b o hb h => lent_old sk b o hb h, lent_lt sk, ?_, sd.apart, sd.dom⟩, fun v v' V h hv => fz_ok sk 20 v v' V h hv⟩
  intro id b h
  by_cases hb : b.live = true
  · refine (sd.obs id b h).mono lent_ext (fun _ _ => rfl) ?_
    rintro L o hμ (hf | ⟨id', b', L', g1, g2, g3, g4⟩)
    · exact hf
    · obtain ⟨q1, q2⟩ := hk id' b' g1 g2
      obtain ⟨q3, q4⟩ := hd id b h hb
      have hne : id' ≠ id := by rintro rfl; rw [q2] at q4; cases q4
      exact (s.apart id' id b' b L' L q1 q3 g2 hb g3 hμ hne g4).elim
  · exact OBR.dead_of (by simpa using hb)

theorem PureFn.give {f : FuncId} {args args' : List AV} {out : Out} (S : List Nat) (hl : args.mapM (fz (keepS S 0 H) 20) = some args') (hp : PureFn P f args' out) : ShFn P f args H out (dropS S 0 H) := by
  intro w0 F0 F μ w Vs s hv
  obtain ⟨x0, s0, hz⟩ := s.freeze S
  obtain ⟨hlen, hget⟩ := mapM_get hl
  have hv' : VRs (lent F μ (keepS S 0 H)) w noμ args' Vs := by
    refine .of_get (by rw [hlen, VRs.len hv]) fun i v' hi => ?_
    have hil : i < args.length := by rw [← hlen]; exact (List.getElem?_eq_some_iff.1 hi).1
    obtain ⟨v'', h1, h2⟩ := hget i args[i] (List.getElem?_eq_getElem hil)
    rw [hi] at h1; cases h1
    obtain ⟨V, h3, h4⟩ := hv.get (List.getElem?_eq_getElem hil)
    exact ⟨V, h3, hz _ _ _ h2 h4⟩
  refine (hp _ w Vs s0.lt hv').mono ?_
  rintro e w' ⟨hb, F', h1, h2, h3, h4⟩
  obtain ⟨x, s'⟩ := s0.behind hb h1 h2 h3
  exact ⟨F', μ, x0.trans x, s', h4.noμ⟩

theorem callN_ok {Y : Ways} (hY : WaysRight P Y) : ∀ d, CallsRight P (callN P Y d) ∧ PureMode Y.pm (callN P Y d) ∧ ∀ gf args H r, callN P Y d (.fn gf) args H = some r → ∀ Vs w, (callFunc gf Vs).run P w = .ok (.enter gf Vs) w := by
  intro d
  induction d with
  | zero =>
    refine ⟨?_, ?_, ?_⟩
    · intro f args H out H' h; simp [callN] at h
    · intro f args H out H' _ h; simp [callN] at h
    · intro gf args H r h; simp [callN] at h
  | succ d ih =>
    obtain ⟨ih1, ih2, ih3⟩ := ih
    have hrun : ∀ (inr : Bool) (R : Option Nat) (n m : Nat), (inr = false → R = none) → ∀ c a r, runC P (callN P Y d) Y.pm n inr Y.fuel c a = some r → W P n m R c (endsQ r) a :=
      fun inr R n m hR c a r h => runC_ok (m := m) hY.mixed ih1 ih2 ih3 hR Y.fuel c a r h
    refine ⟨?_, ?_, ?_⟩
    · intro cl args H out H' h
      cases cl with
      | fn f =>
        unfold callN at h
        split at h
        · cases h
        rename_i fn hfn
        split at h
        · cases h
        rename_i c hb
        have hc := enters_call hY.enters hfn hb
        split at h
        case isFalse => cases h
        rename_i hlen
        split at h
        · split at h
          · cases h
          rename_i args' hargs
          have hlen' : args'.length = args.length := by
            split at hargs
            · cases hargs; rfl
            · exact (mapM_get hargs).1
          split at h
          · rename_i out' hout
            split at h
            case isFalse => cases h
            rename_i hsc
            cases h
            have hl : lend H args out = some args' := by
              unfold lend
              split at hargs
              · rename_i hh; rw [if_pos hh]; exact hargs
              · rename_i hh
                rw [if_neg hh]
                have : out.scalar = true := by simpa [hh] using hsc
                rw [if_pos this]; exact hargs
            refine PureFn.sh hl ?_
            split at hout
            · cases hout; exact hY.conP _ _ _ ‹_›
            · obtain ⟨e, he, hq⟩ := endP_ok hout
              refine PureFn.of hfn hb hc (by omega) ((hrun false none _ _ (fun _ => rfl) _ _ _ he).mono ?_)
              rintro ex b ⟨rfl, rfl⟩; exact hq
          · cases h
        · split at h
          · simp only at h
            split at h
            · cases h
            rename_i args' hargs
            split at h
            · rename_i out' hout
              cases h
              refine PureFn.give _ hargs ?_
              split at hout
              · cases hout; exact hY.conP _ _ _ ‹_›
              · obtain ⟨e, he, hq⟩ := endP_ok hout
                refine PureFn.of hfn hb hc (by rw [(mapM_get hargs).1]; exact hlen) ((hrun false none _ _ (fun _ => rfl) _ _ _ he).mono ?_)
                rintro ex b ⟨rfl, rfl⟩; exact hq
            · cases h
          split at h
          · cases h; exact hY.conS _ _ _ _ _ ‹_›
          · obtain ⟨e, he, hq⟩ := endS_ok h
            refine ShFn.ofX hfn hb hc hlen ((hrun false none _ _ (fun _ => rfl) _ _ _ he).mono ?_)
            rintro ex b ⟨rfl, rfl⟩; exact hq
      | yld id =>
        unfold callN at h
        split at h
        case h_2 => cases h
        rename_i T K hid
        split at h
        case isFalse => cases h
        rename_i hps
        split at h
        case h_2 => cases h
        rename_i a1 hr1
        split at h
        case h_2 => cases h
        rename_i T1 K1 hid1
        split at h
        case isFalse => cases h
        rename_i hst
        obtain ⟨e, he, hq⟩ := endY_ok h
        refine YFn.of hid hps fun l => ((hrun true (some l) _ _ (fun h => by cases h) _ _ _ hr1).mono ?_)
        rintro ex b ⟨rfl, rfl⟩
        refine ⟨T1, K1, hid1, hst, (hrun true (some l) _ _ (fun h => by cases h) _ _ _ he).mono ?_⟩
        rintro ex b ⟨rfl, rfl⟩; exact hq
    · intro f args H out H' hp h
      unfold callN at h
      split at h
      · cases h
      split at h
      · cases h
      split at h
      case isFalse => cases h
      try rw [if_pos hp] at h
      split at h
      · cases h
      split at h
      · split at h
        · cases h; rfl
        · cases h
      · cases h
    · intro gf args H r h
      unfold callN at h
      split at h
      · cases h
      rename_i fn hfn
      split at h
      · cases h
      rename_i c hb
      exact enters_call hY.enters hfn hb

/-- A run of a function of values. -/
theorem PureFn.run {Y : Ways} (hY : WaysRight P Y) (d : Nat) {f : FuncId} {fn : Func} {c : Code} {args : List AV} {out : Out} (hf : P.funcs[f]? = some fn) (hb : fn.body = some c) (hn : args.length ≤ fn.ntmps)
    (h : endP P fn (runC P (callN P Y d) Y.pm fn.ntmps false Y.fuel c ⟨argT 0 args, [], []⟩) = some out) : PureFn P f args out := by
  obtain ⟨e, he, hq⟩ := endP_ok h
  obtain ⟨h1, h2, h3⟩ := callN_ok hY d
  refine PureFn.of hf hb (enters_call hY.enters hf hb) hn ((runC_ok (m := 0) hY.mixed h1 h2 h3 (R := none) (fun _ => rfl) Y.fuel c _ _ he).mono ?_)
  rintro ex b ⟨rfl, rfl⟩; exact hq
end
end Go.Av
