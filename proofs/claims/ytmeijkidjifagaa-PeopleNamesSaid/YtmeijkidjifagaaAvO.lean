/- Loops over functions: their bodies as what is called, the statement itself: under the conditions named; a text without a program. -/
import Derived.Test.YtmeijkidjifagaaAvN
namespace Go.Av
open Go.RowKit (Below)
set_option linter.unusedVariables false

def putsA (T : List (Nat × AV)) : List Tmp → List AV → List (Nat × AV)
  | p :: ps, v :: vs => putsA ((p, v) :: T) ps vs
  | _, _ => T

/-- How a round ends. -/
def roundQ (id : Nat) (out : Out) (H' : List OB) : Ex → St → Prop
  | .normal, a => ∃ T K, a.H[id]? = some (.loop T K) ∧ out = .ret (.bool true) ∧ H' = a.H.set id (.loop T { K with st := .ready, pend := none })
  | .ret, a => ∃ T K, a.H[id]? = some (.loop T K) ∧ out = .ret (.bool false) ∧ H' = a.H.set id (.loop T { K with st := .done, pend := some .ret })
  | .exit i, a => ∃ T K, a.H[id]? = some (.loop T K) ∧ out = .ret (.bool false) ∧ H' = a.H.set id (.loop T { K with st := .done, pend := some (.exit i) })
  | .goto i, a => ∃ T K, a.H[id]? = some (.loop T K) ∧ out = .ret (.bool false) ∧ H' = a.H.set id (.loop T { K with st := .done, pend := some (.goto i) })
  | .panic _ _, _ => False

/-- What stands between a round's parameters and its body. -/
def beginQ (P : Program) (n m l : Nat) (id : Nat) (body : Code) (out : Out) (H' : List OB) : Ex → St → Prop
  | .normal, a => ∃ T K, a.H[id]? = some (.loop T K) ∧ K.st = .ready ∧ W P n m (some l) body (roundQ id out H') { a with H := a.H.set id (.loop T { K with st := .busy }) }
  | _, _ => False

section
variable {P : Program} {w0 : World} {F0 F F' : Nat → Nat → Prop} {μ μ' : Nat → Option Loc} {H H' : List OB} {w w' : World} {n m : Nat} {R : Option Nat} {a : St} {act : Act} {Q : Ex → St → Prop}

theorem wpIn_wide_n {c : Code} {k : Nat} {E : Exit → Act → World → Prop} (h : c.wpIn (fnc R) 1 P E act w) : c.wpIn (fnc R) k P E act w :=
  fun b ks cs hro hb _ => h b ks cs hro hb (fun _ hd => by simp [fnc, Fence.wide] at hd)

theorem RelT.puts (n : Nat) (F : Nat → Nat → Prop) (μ : Nat → Option Loc) (w : World) : ∀ {ps : List Tmp} {args : List AV} {Vs : List Value} {T : List (Nat × AV)} {tmps : Array Value}, VRs F w μ args Vs → tmps.size = n → (∀ p ∈ ps, p < n) → ps.length = args.length →
    (∀ t, VR F w μ (get T t) (tmps.getD t undef)) →
    ((ps.zip Vs).foldl (fun tmps (p : Nat × Value) => tmps.setIfInBounds p.1 p.2) tmps).size = n ∧ ∀ t, VR F w μ (get (putsA T ps args) t) (((ps.zip Vs).foldl (fun tmps (p : Nat × Value) => tmps.setIfInBounds p.1 p.2) tmps).getD t undef) := by
  intro ps
  induction ps with
  | nil =>
    intro args Vs T tmps hv hs _ hl hT
    cases args with
    | nil => exact ⟨by simpa using hs, by simpa [putsA] using hT⟩
    | cons _ _ => simp at hl
  | cons p ps ih =>
    intro args Vs T tmps hv hs hp hl hT
    cases hv with
    | nil => simp at hl
    | cons v V vs Vs h t =>
      simp only [List.zip_cons_cons, List.foldl_cons, putsA]
      refine ih t (by simpa using hs) (fun q hq => hp q (List.mem_cons_of_mem _ hq)) (by simpa using hl) fun s => ?_
      simp only [get]
      have hpn : p < tmps.size := by rw [hs]; exact hp p (by simp)
      by_cases e : p = s
      · subst e
        rw [if_pos rfl]
        simp [Array.getD_eq_getD_getElem?, Array.getElem?_setIfInBounds, hpn, h]
      · rw [if_neg e]
        have := hT s
        simp only [Array.getD_eq_getD_getElem?, Array.getElem?_setIfInBounds, if_neg e] at this ⊢
        exact this

/-- A record is turned. -/
theorem Sim.setLoop (s : Sim w0 F0 F μ H w) {id : Nat} {T : List (Nat × AV)} {K : LoopK} (hid : H[id]? = some (.loop T K)) {L : Loc} (hμ : μ id = some L) (st : LoopState) (pe : Option Code) :
    ∃ rec, w.heap[L.block]? = some (.loop rec) ∧ rec.state = K.st ∧ rec.pending = K.pend ∧ Ext F w μ F (w.putObj L.block (.loop { rec with state := st, pending := pe })) μ ∧
      Sim w0 F0 F μ (H.set id (.loop T { K with st := st, pend := pe })) (w.putObj L.block (.loop { rec with state := st, pending := pe })) := by
  have hob := s.obs id _ hid
  cases hob with
  | loop _ _ L' rec hμ' hB hw e1 e2 e3 e4 e5 e6 hT hF =>
    rw [hμ] at hμ'; cases hμ'
    refine ⟨rec, hw, e4, e5, ?_⟩
    exact s.write id _ (.loop T { K with st := st, pend := pe }) L hid rfl hμ _ (fun x => by
      refine .loop T _ L { rec with state := st, pending := pe } hμ hB ?_ e1 e2 e3 rfl rfl e6 (fun t => VR.mono x (hT t)) hF
      show (w.heap.setIfInBounds L.block _)[L.block]? = _
      rw [Array.getElem?_setIfInBounds, if_pos rfl, if_pos (Array.getElem?_eq_some_iff.1 hw).1])

/-- The body of a loop over a function, called. -/
theorem YFn.of {id : Nat} {T : List (Nat × AV)} {K : LoopK} {args : List AV} {out : Out} (hid : H[id]? = some (.loop T K)) (hps : (K.ps.toList.all (fun p => decide (p < K.n)) && decide (K.ps.size = args.length)) = true)
    (h : ∀ l, W P K.n H.length (some l) K.assign (beginQ P K.n H.length l id K.body out H') ⟨putsA T K.ps.toList args, H, []⟩) : YFn P id args H out H' := by
  intro w0 F0 F μ w Vs L s hv hμ
  simp only [Bool.and_eq_true, decide_eq_true_eq] at hps
  obtain ⟨hp1, hp2⟩ := hps
  have hob := s.obs id _ hid
  cases hob with
  | loop _ _ L' rec hμ' hB hw e1 e2 e3 e4 e5 e6 hT hF =>
    rw [hμ] at hμ'; cases hμ'
    have hvl := VRs.len hv
    refine ⟨rec.fn, _, rec.assign, rec.body, run_yield hw (by rw [e1]; simp; omega), ?_⟩
    obtain ⟨z1, z2⟩ := RelT.puts K.n F μ w (ps := K.ps.toList) hv e6 (fun p hp => by simpa using List.all_eq_true.1 hp1 p hp) (by simpa using hp2) hT
    have hfold : (rec.params.zip Vs.toArray).foldl (fun tmps (t, a) => tmps.setIfInBounds t a) rec.tmps = (K.ps.toList.zip Vs).foldl (fun tmps (p : Nat × Value) => tmps.setIfInBounds p.1 p.2) rec.tmps := by
      rw [e1, ← Array.foldl_toList, Array.toList_zip]
    rw [hfold, e2, e3]
    have hn0 : (fnc (some L.block)) = Fence.wide.inRound L.block := rfl
    refine roundIn_of_wpIn trivial ?_
    rw [← hn0]
    refine wpIn_mono (wpIn_wide_n (h L.block ⟨w0, F0, w, F, μ, s.dom⟩ _ w ⟨F, μ, s, Ext.refl _ _ _, ⟨.nil, z1, z2⟩⟩)) ?_
    rintro e act1 w1 ⟨ex, a1, F1, μ1, hq, hx, s1, y1, t1⟩
    cases hx with
    | exit _ => exact hq.elim
    | goto _ => exact hq.elim
    | ret => exact hq.elim
    | panic _ _ _ _ => exact hq.elim
    | normal =>
      obtain ⟨T1, K1, hid1, hst1, hbody⟩ := hq
      have hμ1 := y1.mu _ _ hμ
      obtain ⟨rec1, g1, g2, g3, x1, s2⟩ := s1.setLoop hid1 hμ1 .busy K1.pend
      have hrec : ({ rec1 with state := .busy, pending := K1.pend } : Loop) = { rec1 with state := .busy } := by rw [← g3]
      have hK : ({ K1 with st := .busy, pend := K1.pend } : LoopK) = { K1 with st := .busy } := rfl
      rw [hrec] at x1 s2
      rw [hK] at s2
      refine ⟨_, run_beginRound g1 (g2.trans hst1), ?_⟩
      refine wpIn_mono (wpIn_wide_n (hbody ⟨w0, F0, w, F, μ, s.dom⟩ act1 _ ⟨F1, μ1, s2, y1.trans x1, ⟨t1.defers.mono x1.mu, t1.size, fun i => VR.mono x1 (t1.slots i)⟩⟩)) ?_
      rintro e act2 w2 ⟨ex, a2, F2, μ2, hq, hx, s3, y3, t3⟩
      have hμ2 := y3.mu _ _ hμ
      cases hx with
      | panic _ _ _ _ => exact hq.elim
      | normal =>
        obtain ⟨T2, K2, hid2, rfl, rfl⟩ := hq
        obtain ⟨rec2, g1, _, _, x2, s4⟩ := s3.setLoop hid2 hμ2 .ready none
        exact ⟨_, _, run_endRound none g1, F2, μ2, y3.trans x2, s4, .ret _ _ (.bool true)⟩
      | ret =>
        obtain ⟨T2, K2, hid2, rfl, rfl⟩ := hq
        obtain ⟨rec2, g1, _, _, x2, s4⟩ := s3.setLoop hid2 hμ2 .done (some .ret)
        exact ⟨_, _, run_endRound (some .ret) g1, F2, μ2, y3.trans x2, s4, .ret _ _ (.bool false)⟩
      | exit i =>
        obtain ⟨T2, K2, hid2, rfl, rfl⟩ := hq
        obtain ⟨rec2, g1, _, _, x2, s4⟩ := s3.setLoop hid2 hμ2 .done (some (.exit i))
        exact ⟨_, _, run_endRound (some (.exit i)) g1, F2, μ2, y3.trans x2, s4, .ret _ _ (.bool false)⟩
      | goto i =>
        obtain ⟨T2, K2, hid2, rfl, rfl⟩ := hq
        obtain ⟨rec2, g1, _, _, x2, s4⟩ := s3.setLoop hid2 hμ2 .done (some (.goto i))
        exact ⟨_, _, run_endRound (some (.goto i)) g1, F2, μ2, y3.trans x2, s4, .ret _ _ (.bool false)⟩

/-- What goes on behind a loop over a function. -/
def behindQ (P : Program) (n m : Nat) (Q : Ex → St → Prop) (a : St) : Option Code → Prop
  | none => Q .normal a
  | some c => W P n m none c Q a

/-- A loop over a function. -/
theorem W.rangeFunc {g : Operand} {ps : Array Tmp} {assign body : Code} {gf : FuncId} {fs cs : List AV} {T' : List (Nat × AV)} {K' : LoopK} {r : AV}
    (hg : a.ev g = .func (.func gf) fs cs) (hc : ∀ Vs w, (callFunc gf Vs).run P w = .ok (.enter gf Vs) w)
    (hcall : ShFn P gf (fs ++ [.yld (a.H.length + 1)] ++ cs) (a.H ++ [.dfr, .loop a.T ⟨n, ps, assign, body, .ready, none⟩]) (.ret r) H')
    (hloop : H'[a.H.length + 1]? = some (.loop T' K')) (hst : K'.st ≠ .busy)
    (hq : behindQ P n m Q ⟨a.T, H'.set (a.H.length + 1) .dead, a.H.length :: a.D⟩ K'.pend) : W P n m none (.rangeFunc g ps assign body) Q a := by
  intro B act w ⟨F, μ, s, y, t⟩
  refine wpIn_rangeFunc (F := fnc none) fun fn _ => ?_
  have hgv := t.ev g
  rw [hg] at hgv
  generalize hX : act.eval g = X at hgv
  cases hgv with
  | func _ _ _ Fs Cs h1 h2 =>
    -- the two blocks
    obtain ⟨μ1, x1, m1, s1⟩ := s.alloc (.deferred (some [])) .dfr ⟨w.heap.size, 0, 0⟩ rfl (fun μ' x hm hF => .dfr _ hm s.below.size (by simp) hF)
    have hlen1 : ({ w with heap := w.heap.push (.deferred (some [])) } : World).heap.size = w.heap.size + 1 := by simp
    obtain ⟨μ2, x2, m2, s2⟩ := s1.alloc (.loop { state := .ready, pending := none, fn, tmps := act.tmps, params := ps, assign, body, defers := w.heap.size }) (.loop a.T ⟨n, ps, assign, body, .ready, none⟩)
      ⟨w.heap.size + 1, 0, 0⟩ hlen1.symm (fun μ' x hm hF => .loop _ _ _ { state := .ready, pending := none, fn, tmps := act.tmps, params := ps, assign, body, defers := w.heap.size } hm (by have := s.below.size; show _ ≤ w.heap.size + 1; omega) (by show ((w.heap.push _).push _)[w.heap.size + 1]? = _; rw [Array.getElem?_push, if_pos (by simp)]) rfl rfl rfl rfl rfl t.size (fun i => VR.mono (x1.trans x) (t.slots i)) hF)
    have x12 := x1.trans x2
    rw [List.length_append, List.length_singleton] at m2
    have hH : a.H ++ [OB.dfr] ++ [OB.loop a.T ⟨n, ps, assign, body, .ready, none⟩] = a.H ++ [.dfr, .loop a.T ⟨n, ps, assign, body, .ready, none⟩] := by simp
    rw [hH] at s2
    have m1' := x2.mu _ _ m1
    refine ⟨w.heap.size + 1, [{ target := .collected w.heap.size, args := #[] }], (w.alloc (.deferred (some []))).alloc (.loop { state := .ready, pending := none, fn, tmps := act.tmps, params := ps, assign, body, defers := w.heap.size }), { target := .fn (.func gf) Cs, args := Fs ++ #[.func (.yield (w.heap.size + 1)) #[] #[]] }, (w.alloc (.deferred (some []))).alloc (.loop { state := .ready, pending := none, fn, tmps := act.tmps, params := ps, assign, body, defers := w.heap.size }), gf,
      (Fs.toList ++ [Value.func (.yield (w.heap.size + 1)) #[] #[]] ++ Cs.toList).toArray, (w.alloc (.deferred (some []))).alloc (.loop { state := .ready, pending := none, fn, tmps := act.tmps, params := ps, assign, body, defers := w.heap.size }), run_enterLoop_outer fn act.tmps ps assign body, ?_, fun _ _ => trivial, ?_, fun _ => Nat.le_refl _, ?_⟩
    · simp only [rangeCall, resolve, hX, Deferred.ofValue, Sem.run_pure]
      simp [Act.eval]
    · simp only [invoke]
      have : (Fs ++ #[Value.func (.yield (w.heap.size + 1)) #[] #[]] ++ Cs) = (Fs.toList ++ [Value.func (.yield (w.heap.size + 1)) #[] #[]] ++ Cs.toList).toArray := by apply Array.ext'; simp
      rw [this]; exact hc _ _
    · refine callsIn_fnc.2 ?_
      have hvs : VRs F ((w.alloc (.deferred (some []))).alloc (.loop { state := .ready, pending := none, fn, tmps := act.tmps, params := ps, assign, body, defers := w.heap.size })) μ2 (fs ++ [.yld (a.H.length + 1)] ++ cs)
          (Fs.toList ++ [Value.func (.yield (w.heap.size + 1)) #[] #[]] ++ Cs.toList) :=
        ((VRs.mono x12 h1).append (.cons _ _ _ _ (.yld _ _ m2) .nil)).append (VRs.mono x12 h2)
      have hcc := hcall B.w0 B.F0 F μ2 _ _ s2 hvs
      have hgo : Calls P gf (Fs.toList ++ [Value.func (.yield (w.heap.size + 1)) #[] #[]] ++ Cs.toList).toArray ((w.alloc (.deferred (some []))).alloc (.loop { state := .ready, pending := none, fn, tmps := act.tmps, params := ps, assign, body, defers := w.heap.size }))
          (fun e w' => ∃ F' μ', Ext F ((w.alloc (.deferred (some []))).alloc (.loop { state := .ready, pending := none, fn, tmps := act.tmps, params := ps, assign, body, defers := w.heap.size })) μ2 F' w' μ' ∧ Sim B.w0 B.F0 F' μ' H' w' ∧ OutR F' w' μ' (.ret r) e) := by
        rcases hcc with ⟨w1, g1, rfl, g2⟩ | ⟨V, w1, g1, g2⟩
        · exact g2
        · rw [hc] at g1; cases g1
      refine hgo.mono ?_
      rintro e w3 ⟨F3, μ3, x3, s3, ho⟩
      cases ho with
      | ret _ V hV =>
        have hμ3 := x3.mu _ _ m2
        have hob := s3.obs _ _ hloop
        cases hob with
        | loop _ _ L' rec hμ' hB hw e1 e2 e3 e4 e5 e6 hT hF =>
          rw [hμ3] at hμ'; cases hμ'
          obtain ⟨x4, s4⟩ := s3.write (a.H.length + 1) _ .dead _ hloop rfl hμ3 (.loop { rec with state := .exhausted }) (fun _ => .dead)
          have y4 := y.trans (x12.trans (x3.trans x4))
          have t4 : RelT n F3 μ3 ⟨a.T, H'.set (a.H.length + 1) .dead, a.H.length :: a.D⟩ { act with defers := [{ target := .collected w.heap.size, args := #[] }] ++ act.defers } (w3.putObj (w.heap.size + 1) (.loop { rec with state := .exhausted })) :=
            ⟨.cons _ ⟨w.heap.size, 0, 0⟩ _ _ (x3.mu _ _ m1') (t.defers.mono (x12.trans x3).mu), t.size, fun i => VR.mono (x12.trans (x3.trans x4)) (t.slots i)⟩
          refine ⟨_, _, run_endLoop hw (by rw [e4]; exact hst), ?_⟩
          have key : ∀ (pe : Option Code) (act' : Act) (W4 : World), behindQ P n m Q ⟨a.T, H'.set (a.H.length + 1) .dead, a.H.length :: a.D⟩ pe → Sim B.w0 B.F0 F3 μ3 (H'.set (a.H.length + 1) .dead) W4 → Ext B.Fs B.ws B.μs F3 W4 μ3 →
              RelT n F3 μ3 ⟨a.T, H'.set (a.H.length + 1) .dead, a.H.length :: a.D⟩ act' W4 → (match pe with | none => RelE n B Q .normal act' W4 | some c => c.wpIn (fnc none) 1 P (RelE n B Q) act' W4) := by
            intro pe act' W4 hq s4 y4 t4
            cases pe with
            | none => exact ⟨_, _, F3, μ3, hq, .normal, s4, y4, t4⟩
            | some c => exact hq B _ _ ⟨F3, μ3, s4, y4, t4⟩
          exact key rec.pending _ _ (by rw [e5]; exact hq) s4 y4 t4
end
end Go.Av
