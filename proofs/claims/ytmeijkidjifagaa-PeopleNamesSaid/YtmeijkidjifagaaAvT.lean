/- Functions and loops over functions of which not all is told: under the conditions named; a text without a program. -/
import Derived.Test.YtmeijkidjifagaaAvS
namespace Go.Av
open Go.RowKit (Below)
set_option linter.unusedVariables false
section
variable {P : Program} {w0 : World} {F0 F F' : Nat → Nat → Prop} {μ μ' : Nat → Option Loc} {H H' : List OB} {w w' : World} {n m : Nat} {R : Option Nat} {a : St} {act : Act} {Q : Ex → St → Prop}

/-- A function that writes the caller's memory, out of its body. -/
theorem ShFnS.of {S : Out → List OB → Prop} {f : FuncId} {fn : Func} {c : Code} {args : List AV} (hf : P.funcs[f]? = some fn) (hb : fn.body = some c) (hc : ∀ Vs w, (callFunc f Vs).run P w = .ok (.enter f Vs) w) (hn : args.length ≤ fn.ntmps)
    (hle : ∀ o K, S o K → H.length ≤ K.length) (h : W P fn.ntmps H.length none c (fun ex a => ∃ out H', S out H' ∧ retS P fn.results.toList out H' ex a) ⟨argT 0 args, H, []⟩) : ShFnS P f args H S := by
  intro w0 F0 F μ w Vs s0 hv
  refine .inl ⟨w, hc _ _, rfl, (callsIn_wide (n := 1)).1 (callsIn_of_wp_marks hf hb trivial ?_ rfl)⟩
  refine wpIn_mono (h ⟨w0, F0, w, F, μ, s0.dom⟩ _ w ⟨F, μ, s0, Ext.refl _ _ _, RelT.start hv hn⟩) ?_
  rintro e act' w' ⟨ex, a', F', μ', ⟨out, H', hS, hq⟩, hx, s, y, t⟩
  have hle := hle _ _ hS
  have hext : ∀ (H1 : List OB) (w'' : World) (x : Ext F' w' μ' F' w'' μ') (s'' : Sim w0 F0 F' μ' H1 w'') (hs : subH H'.length H1 H'), Ext F w μ F' w'' (cutμ H'.length μ') ∧ Sim w0 F0 F' (cutμ H'.length μ') H' w'' := by
    intro H1 w'' x s'' hs
    have y' := y.trans x
    refine ⟨⟨?_, y'.fr, y'.cell, y'.obj⟩, s''.cut rfl (subH_get hs)⟩
    intro id L hL
    have := s0.dom id L hL
    unfold cutμ
    rw [if_pos (by omega)]
    exact y'.mu _ _ hL
  have hret : (∃ a1, endA a' = some a1 ∧ retPS P fn.results.toList out H' a1) → LeavesInM Fence.wide 1 P fn act'.tmps (fun e w' => ∃ out H' F' μ', S out H' ∧ Ext F w μ F' w' μ' ∧ Sim w0 F0 F' μ' H' w' ∧ OutR F' w' μ' out e) act'.defers .returning w' := by
    rintro ⟨a1, h1, hq⟩
    refine endA_ok (by simp) s t h1 fun w'' x s'' t'' => ?_
    cases out with
    | pan _ _ => exact hq.elim
    | ret r =>
      obtain ⟨r', h1, h2, h3, h4⟩ := hq
      obtain ⟨V, h5, h6⟩ := results_ok (P := P) (act := { act' with defers := [] }) s'' t'' h1
      obtain ⟨x1, s1⟩ := hext _ _ x s'' h4
      exact ⟨V, h5, _, _, F', _, hS, x1, s1, .ret r V ((h6.le h2).cut h3)⟩
  cases hx with
  | normal => exact hret hq
  | ret => exact hret hq
  | exit id => exact hq.elim
  | goto l => exact hq.elim
  | panic tt v V hV =>
    obtain ⟨a1, h1, hq⟩ := hq
    refine endA_ok (by simp) s t h1 fun w'' x s'' t'' => ?_
    cases out with
    | ret _ => exact hq.elim
    | pan t' v' =>
      obtain ⟨rfl, h2, h3, h4⟩ := hq
      obtain ⟨x1, s1⟩ := hext _ _ x s'' h4
      exact ⟨_, _, F', _, hS, x1, s1, .pan tt v' V (((VR.mono x hV).le h2).cut h3)⟩

/-- A loop over a function. -/
theorem W.rangeFuncS {S : Out → List OB → Prop} {g : Operand} {ps : Array Tmp} {assign body : Code} {gf : FuncId} {fs cs : List AV}
    (hg : a.ev g = .func (.func gf) fs cs) (hc : ∀ Vs w, (callFunc gf Vs).run P w = .ok (.enter gf Vs) w)
    (hcall : ShFnS P gf (fs ++ [.yld (a.H.length + 1)] ++ cs) (a.H ++ [.dfr, .loop a.T ⟨n, ps, assign, body, .ready, none⟩]) S)
    (hq : ∀ out H', S out H' → ∃ r T' K', out = .ret r ∧ H'[a.H.length + 1]? = some (.loop T' K') ∧ K'.st ≠ .busy ∧ behindQ P n m Q ⟨a.T, H'.set (a.H.length + 1) .dead, a.H.length :: a.D⟩ K'.pend) : W P n m none (.rangeFunc g ps assign body) Q a := by
  intro B act w ⟨F, μ, s, y, t⟩
  refine wpIn_rangeFunc (F := fnc none) fun fn _ => ?_
  have hgv := t.ev g
  rw [hg] at hgv
  generalize hX : act.eval g = X at hgv
  cases hgv with
  | func _ _ _ Fs Cs h1 h2 =>
    -- the two blocks
    obtain ⟨μ1, x1, m1, s1⟩ := s.alloc (.deferred (some [])) .dfr ⟨w.heap.size, 0, 0⟩ rfl (fun μ' x hm hF => .dfr _ hm s.below.size (by simp) hF)
    have hlen1 : ({ w with heap := w.heap.push (.deferred (some [])) } : World).heap.size = w.heap.size + 1 := by simp
    obtain ⟨μ2, x2, m2, s2⟩ := s1.alloc (.loop { state := .ready, pending := none, fn, tmps := act.tmps, params := ps, assign, body, defers := w.heap.size }) (.loop a.T ⟨n, ps, assign, body, .ready, none⟩)
      ⟨w.heap.size + 1, 0, 0⟩ hlen1.symm (fun μ' x hm hF => .loop _ _ _ { state := .ready, pending := none, fn, tmps := act.tmps, params := ps, assign, body, defers := w.heap.size } hm (by have := s.below.size; show _ ≤ w.heap.size + 1; omega) (by show ((w.heap.push _).push _)[w.heap.size + 1]? = _; rw [Array.getElem?_push, if_pos (by simp)]) rfl rfl rfl rfl rfl t.size (fun i => VR.mono (x1.trans x) (t.slots i)) hF)
    have x12 := x1.trans x2
    rw [List.length_append, List.length_singleton] at m2
    have hH : a.H ++ [OB.dfr] ++ [OB.loop a.T ⟨n, ps, assign, body, .ready, none⟩] = a.H ++ [.dfr, .loop a.T ⟨n, ps, assign, body, .ready, none⟩] := by simp
    rw [hH] at s2
    have m1' := x2.mu _ _ m1
    refine ⟨w.heap.size + 1, [{ target := .collected w.heap.size, args := #[] }], (w.alloc (.deferred (some []))).alloc (.loop { state := .ready, pending := none, fn, tmps := act.tmps, params := ps, assign, body, defers := w.heap.size }), { target := .fn (.func gf) Cs, args := Fs ++ #[.func (.yield (w.heap.size + 1)) #[] #[]] }, (w.alloc (.deferred (some []))).alloc (.loop { state := .ready, pending := none, fn, tmps := act.tmps, params := ps, assign, body, defers := w.heap.size }), gf,
      (Fs.toList ++ [Value.func (.yield (w.heap.size + 1)) #[] #[]] ++ Cs.toList).toArray, (w.alloc (.deferred (some []))).alloc (.loop { state := .ready, pending := none, fn, tmps := act.tmps, params := ps, assign, body, defers := w.heap.size }), run_enterLoop_outer fn act.tmps ps assign body, ?_, fun _ _ => trivial, ?_, fun _ => Nat.le_refl _, ?_⟩
    · simp only [rangeCall, resolve, hX, Deferred.ofValue, Sem.run_pure]
      simp [Act.eval]
    · simp only [invoke]
      have : (Fs ++ #[Value.func (.yield (w.heap.size + 1)) #[] #[]] ++ Cs) = (Fs.toList ++ [Value.func (.yield (w.heap.size + 1)) #[] #[]] ++ Cs.toList).toArray := by apply Array.ext'; simp
      rw [this]; exact hc _ _
    · refine callsIn_fnc.2 ?_
      have hvs : VRs F ((w.alloc (.deferred (some []))).alloc (.loop { state := .ready, pending := none, fn, tmps := act.tmps, params := ps, assign, body, defers := w.heap.size })) μ2 (fs ++ [.yld (a.H.length + 1)] ++ cs)
          (Fs.toList ++ [Value.func (.yield (w.heap.size + 1)) #[] #[]] ++ Cs.toList) :=
        ((VRs.mono x12 h1).append (.cons _ _ _ _ (.yld _ _ m2) .nil)).append (VRs.mono x12 h2)
      have hcc := hcall B.w0 B.F0 F μ2 _ _ s2 hvs
      have hgo : Calls P gf (Fs.toList ++ [Value.func (.yield (w.heap.size + 1)) #[] #[]] ++ Cs.toList).toArray ((w.alloc (.deferred (some []))).alloc (.loop { state := .ready, pending := none, fn, tmps := act.tmps, params := ps, assign, body, defers := w.heap.size }))
          (fun e w' => ∃ out H' F' μ', S out H' ∧ Ext F ((w.alloc (.deferred (some []))).alloc (.loop { state := .ready, pending := none, fn, tmps := act.tmps, params := ps, assign, body, defers := w.heap.size })) μ2 F' w' μ' ∧ Sim B.w0 B.F0 F' μ' H' w' ∧ OutR F' w' μ' out e) := by
        rcases hcc with ⟨w1, g1, rfl, g2⟩ | ⟨V, w1, g1, g2⟩
        · exact g2
        · rw [hc] at g1; cases g1
      refine hgo.mono ?_
      rintro e w3 ⟨out, H', F3, μ3, hS, x3, s3, ho⟩
      obtain ⟨r, T', K', rfl, hloop, hst, hq⟩ := hq out H' hS
      cases ho with
      | ret _ V hV =>
        have hμ3 := x3.mu _ _ m2
        have hob := s3.obs _ _ hloop
        cases hob with
        | loop _ _ L' rec hμ' hB hw e1 e2 e3 e4 e5 e6 hT hF =>
          rw [hμ3] at hμ'; cases hμ'
          obtain ⟨x4, s4⟩ := s3.write (a.H.length + 1) _ .dead _ hloop rfl hμ3 (.loop { rec with state := .exhausted }) (fun _ => .dead)
          have y4 := y.trans (x12.trans (x3.trans x4))
          have t4 : RelT n F3 μ3 ⟨a.T, H'.set (a.H.length + 1) .dead, a.H.length :: a.D⟩ { act with defers := [{ target := .collected w.heap.size, args := #[] }] ++ act.defers } (w3.putObj (w.heap.size + 1) (.loop { rec with state := .exhausted })) :=
            ⟨.cons _ ⟨w.heap.size, 0, 0⟩ _ _ (x3.mu _ _ m1') (t.defers.mono (x12.trans x3).mu), t.size, fun i => VR.mono (x12.trans (x3.trans x4)) (t.slots i)⟩
          refine ⟨_, _, run_endLoop hw (by rw [e4]; exact hst), ?_⟩
          have key : ∀ (pe : Option Code) (act' : Act) (W4 : World), behindQ P n m Q ⟨a.T, H'.set (a.H.length + 1) .dead, a.H.length :: a.D⟩ pe → Sim B.w0 B.F0 F3 μ3 (H'.set (a.H.length + 1) .dead) W4 → Ext B.Fs B.ws B.μs F3 W4 μ3 →
              RelT n F3 μ3 ⟨a.T, H'.set (a.H.length + 1) .dead, a.H.length :: a.D⟩ act' W4 → (match pe with | none => RelE n B Q .normal act' W4 | some c => c.wpIn (fnc none) 1 P (RelE n B Q) act' W4) := by
            intro pe act' W4 hq s4 y4 t4
            cases pe with
            | none => exact ⟨_, _, F3, μ3, hq, .normal, s4, y4, t4⟩
            | some c => exact hq B _ _ ⟨F3, μ3, s4, y4, t4⟩
          exact key rec.pending _ _ (by rw [e5]; exact hq) s4 y4 t4
end
end Go.Av
