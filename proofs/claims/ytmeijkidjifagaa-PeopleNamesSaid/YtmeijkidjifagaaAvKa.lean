/- Ranges over maps that stay as they are: under the conditions named; a text without a program. -/
import Derived.Test.YtmeijkidjifagaaAvK
namespace Go.Av
open Go.RowKit (Below)
set_option linter.unusedVariables false

def evRange (P : Program) (t : TypeId) (x : AV) (H : List OB) : Option (AV × List OB) :=
  match P.underlying t, x with
  | some (.map _ _), .vmap ks vs => some (.ptr H.length 0, H ++ [.iter ks vs []])
  | _, _ => none

def evEntry (x : AV) (H : List OB) : Option AV :=
  match x with
  | .ptr id 0 => match H[id]? with
    | some (.iter ks vs seen) => match seen.getLast? with
      | some j => match ks[j]?, vs[j]? with
        | some k, some v => some (.tup [k, v])
        | _, _ => none
      | none => none
    | _ => none
  | _ => none

/-- What is next: nothing, if all were; else any that was not. -/
inductive NextR (H : List OB) (id : Nat) (ks vs : List AV) (seen : List Nat) : AV → List OB → Prop
  | over (h : ∀ j, j < ks.length → j ∈ seen) : NextR H id ks vs seen (.tup [.bool false]) H
  | one (j : Nat) (k v : AV) (hk : ks[j]? = some k) (hv : vs[j]? = some v) (hn : j ∉ seen) : NextR H id ks vs seen (.tup [.bool true, k, v]) (H.set id (.iter ks vs (seen ++ [j])))

def nextOf (o : Op) (ev : Operand → AV) (H : List OB) : Option (Nat × List AV × List AV × List Nat) :=
  match o with
  | .next x false => match ev x with
    | .ptr id 0 => match H[id]? with
      | some (.iter ks vs seen) => some (id, ks, vs, seen)
      | _ => none
    | _ => none
  | _ => none

section
variable {P : Program} {w0 : World} {F0 F F' : Nat → Nat → Prop} {μ : Nat → Option Loc} {H : List OB} {w w' : World}

theorem evRange_ok (s : Sim w0 F0 F μ H w) {t : TypeId} {x v : AV} {X : Value} {H' : List OB} (hx : VR F w μ x X) (h : evRange P t x H = some (v, H')) : DoesV P (Instr.range t X) w0 F0 F μ w v H' := by
  unfold evRange at h
  split at h
  case h_2 => cases h
  rename_i kt et ks vs hu
  cases h
  cases hx with
  | vmap _ _ r es clock hF hr hb hk =>
    obtain ⟨μ', x1, h2, s1⟩ := s.alloc (.mapIter (some r) clock #[] clock) (.iter ks vs []) ⟨w.heap.size, 0, 0⟩ rfl (fun μ' x hμ' hF' =>
      .iter ks vs [] ⟨w.heap.size, 0, 0⟩ r es clock #[] hμ' s.below.size rfl (by rw [push_get]; exact if_pos rfl) hF
        (x.obj _ _ _ hF hr) hb (VRk.mono x hk) rfl hF')
    refine ⟨.pointer (some ⟨w.heap.size, 0, none⟩), _, F, μ', ?_, x1, s1, .ptr H.length 0 ⟨w.heap.size, 0, 0⟩ h2⟩
    simp [Instr.range, run_underlying hu, getObj, newObj, Sem.run, hr]

theorem born_idx {es : List MapEntry} {clock : Nat} (hb : Born es clock) {i j : Nat} {e e' : MapEntry} (hi : es[i]? = some e) (hj : es[j]? = some e') (h : e.born = e'.born) : i = j := by
  have h1 : (es.map (·.born))[i]? = some e.born := by rw [List.getElem?_map, hi]; rfl
  have h2 : (es.map (·.born))[j]? = some e.born := by rw [List.getElem?_map, hj, h]; rfl
  have hil := (List.getElem?_eq_some_iff.1 h1).1
  have hjl := (List.getElem?_eq_some_iff.1 h2).1
  have e1 := (List.getElem?_eq_some_iff.1 h1).2
  have e2 := (List.getElem?_eq_some_iff.1 h2).2
  rcases Nat.lt_trichotomy i j with hlt | heq | hgt
  · exact (List.pairwise_iff_getElem.1 hb.own i j hil hjl hlt (e1.trans e2.symm)).elim
  · exact heq
  · exact (List.pairwise_iff_getElem.1 hb.own j i hjl hil hgt (e2.trans e1.symm)).elim

theorem evEntry_ok (s : Sim w0 F0 F μ H w) {x v : AV} {X : Value} (hx : VR F w μ x X) (h : evEntry x H = some v) : DoesV P (Instr.entry X) w0 F0 F μ w v H := by
  unfold evEntry at h
  split at h
  case h_2 => cases h
  rename_i id
  split at h
  case h_2 => cases h
  rename_i ks vs seen hid
  split at h
  case h_2 => cases h
  rename_i j hj
  split at h
  case h_2 => cases h
  rename_i k v' hk hv
  cases h
  cases hx with
  | ptr _ _ L hμ =>
    have hob := s.obs id _ hid
    cases hob with
    | iter _ _ _ L' m es clock ss hμ' hB h0 hw hm hmw hb hkk hss hF =>
      rw [hμ] at hμ'; cases hμ'
      obtain ⟨e, he1, he2⟩ := (VRk.get hkk).1 j k hk
      obtain ⟨e', he3, he4⟩ := (VRk.get hkk).2 j v' hv
      rw [he1] at he3; cases he3
      have hback : ss.back? = some e.born := by
        have h1 : (ss.toList.map some).getLast? = some (some e.born) := by rw [hss, List.getLast?_map, hj]; simp only [Option.map_some, he1]
        rw [List.getLast?_map, Option.map_eq_some_iff] at h1
        obtain ⟨b, h2, h3⟩ := h1
        cases h3
        rw [← Array.getLast?_toList]; exact h2
      have hfind : es.find? (fun x => x.born == e.born) = some e := by
        rw [← Array.find?_toList, List.find?_eq_some_iff_getElem]
        have hjl := (List.getElem?_eq_some_iff.1 he1).1
        refine ⟨by simp, j, hjl, (List.getElem?_eq_some_iff.1 he1).2, fun i hi => ?_⟩
        have hil : i < es.toList.length := by omega
        have hne : ¬ (es.toList[i]).born = e.born := fun hh => by
          have := born_idx hb (List.getElem?_eq_getElem hil) he1 hh
          omega
        simpa using hne
      refine .pure_ s (V := .tuple #[e.key, e.val]) ?_ (.tup _ _ (.cons _ _ _ _ he2 (.cons _ _ _ _ he4 .nil)))
      simp [Instr.entry, h0, getObj, Sem.run, hw, hmw, hback, hfind]

theorem next_ok (s : Sim w0 F0 F μ H w) {o : Op} {ev : Operand → AV} {x : Operand} {b : Bool} {X : Value} {id : Nat} {ks vs : List AV} {seen : List Nat} {ty : TypeId} (ho : o = .next x b) (hx : VR F w μ (ev x) X) (h : nextOf o ev H = some (id, ks, vs, seen)) :
    ∃ v H', NextR H id ks vs seen v H' ∧ DoesV P (Instr.next X b ty) w0 F0 F μ w v H' := by
  subst ho
  unfold nextOf at h
  split at h
  case h_2 => cases h
  rename_i x' hop
  cases hop
  split at h
  case h_2 => cases h
  rename_i id' hid0
  split at h
  case h_2 => cases h
  rename_i ks' vs' seen' hid
  cases h
  rw [hid0] at hx
  cases hx with
  | ptr _ _ L hμ =>
    have hob := s.obs id _ hid
    cases hob with
    | iter _ _ _ L' m es clock ss hμ' hB h0 hw hm hmw hb hkk hss hF =>
      rw [hμ] at hμ'; cases hμ'
      have hlen := VRk.len hkk
      have hcon : ∀ (j : Nat) (e : MapEntry), es.toList[j]? = some e → (ss.contains e.born = true ↔ j ∈ seen) := by
        intro j e he
        rw [Array.contains_iff_mem, ← Array.mem_toList_iff]
        constructor
        · intro hmem
          have : some e.born ∈ ss.toList.map some := List.mem_map.2 ⟨_, hmem, rfl⟩
          rw [hss] at this
          obtain ⟨i, hi, h1⟩ := List.mem_map.1 this
          rw [Option.map_eq_some_iff] at h1
          obtain ⟨e', h2, h3⟩ := h1
          have := born_idx hb h2 he h3
          subst this; exact hi
        · intro hmem
          have : some e.born ∈ seen.map (fun j => (es.toList[j]?).map (·.born)) := List.mem_map.2 ⟨j, hmem, by rw [he]; rfl⟩
          rw [← hss] at this
          obtain ⟨b, hb1, hb2⟩ := List.mem_map.1 this
          cases hb2; exact hb1
      have hgone : (!ss.isEmpty && !es.isEmpty && es.all (fun x => decide (x.born ≥ clock))) = false := by
        cases he : es.isEmpty with
        | true => simp
        | false =>
          have hpos : 0 < es.size := by
            rcases Nat.eq_zero_or_pos es.size with h | h
            · rw [Array.isEmpty_eq_false_iff] at he; exact (he (Array.eq_empty_of_size_eq_zero h)).elim
            · exact h
          have hlt := hb.lt es[0] (by simp)
          have : es.all (fun x => decide (x.born ≥ clock)) = false := by
            rw [Array.all_eq_false]
            exact ⟨0, hpos, by simp; omega⟩
          simp [this]
      have hnew : (es.filter fun e => !ss.contains e.born).filter (fun x => decide (x.born ≥ clock)) = #[] := by
        rw [Array.filter_eq_empty_iff]
        intro e he
        have h1 := (Array.mem_filter.1 he).1
        have := hb.lt e (Array.mem_toList_iff.2 h1)
        simp; omega
      have hold : (es.filter fun e => !ss.contains e.born).filter (fun x => decide (x.born < clock)) = es.filter fun e => !ss.contains e.born := by
        rw [Array.filter_eq_self]
        intro e he
        have h1 := (Array.mem_filter.1 he).1
        have := hb.lt e (Array.mem_toList_iff.2 h1)
        simpa using this
      obtain ⟨left, hleft⟩ : ∃ left, (es.filter fun e => !ss.contains e.born) = left := ⟨_, rfl⟩
      rw [hleft] at hnew hold
      have hrun : (Instr.next (.pointer (some ⟨L.block, L.off + 0, none⟩)) false ty).run P w =
          (do
            let candidates := (if left.isEmpty then #[none] else #[]) ++ left.map some
            match candidates[← choose (.mapNext candidates.size)]? with
            | some (some e) => setObj L.block (.mapIter (some m) clock (ss.push e.born) clock); pure (.tuple #[.bool true, e.key, e.val])
            | some none => pure (.tuple #[.bool false])
            | none => stuck "Next: no such candidate" : Sem Value).run P w := by
        simp only [Instr.next, h0, Nat.add_zero, Sem.run_bind]
        rw [show (getObj L.block).run P w = .ok (.mapIter (some m) clock ss clock) w from by simp [getObj, Sem.run, hw]]
        simp only [Result.andThen, Sem.run_bind]
        rw [show (getObj m).run P w = .ok (.map es clock) w from by simp [getObj, Sem.run, hmw]]
        simp only [Result.andThen, hgone, hleft, hold, hnew, Array.append_empty, Bool.false_eq_true, if_false]
        rw [Sem.run_bind]; rfl
      have hchoose : ∀ n, 0 < n → ∃ i w', i < n ∧ (choose (.mapNext n)).run P w = .ok i w' ∧ w'.heap = w.heap ∧ w'.os = w.os ∧ w'.tape = w.tape ∧ w'.output = w.output := by
        intro n hn
        rw [run_choose_drew]
        split
        · exact ⟨0, w, hn, rfl, rfl, rfl, rfl, rfl⟩
        · exact ⟨_, _, Nat.mod_lt _ hn, rfl, rfl, rfl, rfl, rfl⟩
      have hone : ∀ (w' : World), Ext F w μ F w' μ → Sim w0 F0 F μ H w' → ∀ e, e ∈ left → ∃ v H' w'', NextR H id ks vs seen v H' ∧
          (do setObj L.block (.mapIter (some m) clock (ss.push e.born) clock); pure (.tuple #[.bool true, e.key, e.val]) : Sem Value).run P w' = .ok (.tuple #[.bool true, e.key, e.val]) w'' ∧ Ext F w μ F w'' μ ∧ Sim w0 F0 F μ H' w'' ∧ VR F w'' μ v (.tuple #[.bool true, e.key, e.val]) := by
        intro w' x1 s1 e he
        rw [← hleft, Array.mem_filter] at he
        obtain ⟨he1, he2⟩ := he
        obtain ⟨j, hj⟩ := List.mem_iff_getElem?.1 (Array.mem_toList_iff.2 he1)
        have hjn : j ∉ seen := fun h => by rw [(hcon j e hj).2 h] at he2; cases he2
        have hjl := (List.getElem?_eq_some_iff.1 hj).1
        obtain ⟨k, hk⟩ : ∃ k, ks[j]? = some k := ⟨ks[j]'(by omega), List.getElem?_eq_getElem _⟩
        obtain ⟨v, hv⟩ : ∃ v, vs[j]? = some v := ⟨vs[j]'(by omega), List.getElem?_eq_getElem _⟩
        obtain ⟨ek, hk1, hk2⟩ := (VRk.get hkk).1 j k hk
        obtain ⟨ev', hv1, hv2⟩ := (VRk.get hkk).2 j v hv
        rw [hj] at hk1 hv1; cases hk1; cases hv1
        have hob := s1.obs id _ hid
        cases hob with
        | iter _ _ _ L' m' es' clock' ss' hμ' hB' h0' hw' hm' hmw' hb' hkk' hss' hF' =>
          rw [hμ] at hμ'; cases hμ'
          have hlt : L.block < w'.heap.size := (Array.getElem?_eq_some_iff.1 hw').1
          have hmm : w'.heap[m]? = some (.map es clock) := x1.obj _ _ _ hm hmw
          obtain ⟨x2, s2⟩ := s1.write id _ (.iter ks vs (seen ++ [j])) L hid rfl hμ (.mapIter (some m) clock (ss.push e.born) clock) (fun x => by
            refine .iter ks vs (seen ++ [j]) L m es clock (ss.push e.born) hμ hB h0 ?_ hm (x.obj _ _ _ hm hmm) hb (VRk.mono (x1.trans x) hkk) ?_ hF
            · show (w'.heap.setIfInBounds L.block _)[L.block]? = _
              rw [Array.getElem?_setIfInBounds, if_pos rfl, if_pos hlt]
            · rw [Array.toList_push, List.map_append, hss, List.map_append]; simp only [List.map_cons, List.map_nil, hj, Option.map_some])
          refine ⟨_, _, _, .one j k v hk hv hjn, ?_, x1.trans x2, s2, .tup _ _ (.cons _ _ _ _ (.bool _) (.cons _ _ _ _ (VR.mono (x1.trans x2) hk2) (.cons _ _ _ _ (VR.mono (x1.trans x2) hv2) .nil)))⟩
          simp [setObj, Sem.run, hw']
      by_cases hemp : left.isEmpty = true
      · have hl0 : left = #[] := by simpa using hemp
        refine ⟨_, _, .over (fun j hj => ?_), ?_⟩
        · have hjl : j < es.toList.length := by omega
          have hmem : (es.toList[j]) ∉ left := by rw [hl0]; simp
          rw [← hleft, Array.mem_filter] at hmem
          have h1 := hcon j _ (List.getElem?_eq_getElem hjl)
          refine h1.1 ?_
          cases hc : ss.contains (es.toList[j]).born with
          | true => rfl
          | false => exact (hmem ⟨Array.mem_toList_iff.1 (List.getElem_mem hjl), by rw [hc]; rfl⟩).elim
        · have hch : ∀ n, n ≤ 1 → (choose (.mapNext n)).run P w = .ok 0 w := by
            intro n hn
            rw [run_choose_drew, if_pos (by simp [Question.forced, hn])]
          refine .pure_ s (V := .tuple #[.bool false]) ?_ (.tup _ _ (.cons _ _ _ _ (.bool _) .nil))
          rw [hrun, hl0, Sem.run_bind, hch _ (by simp)]
          simp [Result.andThen]
      · have hpos : 0 < left.size := by
          rcases Nat.eq_zero_or_pos left.size with h | h
          · exact (hemp (by rw [Array.eq_empty_of_size_eq_zero h]; rfl)).elim
          · exact h
        obtain ⟨i, w', hi, hch, q1, q2, q3, q4⟩ := hchoose left.size hpos
        obtain ⟨x1, s1⟩ := s.same q1 q2 q3 q4
        obtain ⟨v, H', w'', hn, hr, x2, s2, hv⟩ := hone w' x1 s1 left[i] (by simp)
        refine ⟨v, H', hn, _, w'', F, μ, ?_, x2, s2, hv⟩
        rw [hrun]
        simp only [hemp, if_false, Bool.false_eq_true, Array.empty_append, Sem.run_bind, Array.size_map, hch, Result.andThen]
        have hget : (left.map some)[i]? = some (some left[i]) := by simp [hi]
        rw [hget]
        exact hr
end
end Go.Av
