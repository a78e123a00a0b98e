/- Contracts of functions that the statements of this seat reach: under the conditions named at each theorem. -/
import Derived.Test.YtmeijkidjifagaaGreatSrP15
namespace Go.Proofs.YtmeijkidjifagaaGreat
set_option linter.unusedVariables false
set_option linter.unusedSimpArgs false
open Go Go.Av

theorem take_longs {e : List Atr} (he : Ent e) (hs : longE e = false) {D A : List Mo} (hD : ∀ m ∈ D, m.2.2 = []) (hA : ∀ m ∈ A, m.2.2 ≠ []) (hu : ∀ m ∈ A, Up m.2.2) (hf : longE (doF e (D ++ A)) = false) (i : Nat) : longE (doF e ((D ++ A).take i)) = false := by
  have hDu : ∀ m ∈ D, Up m.2.2 := fun m hm => by rw [hD m hm]; exact .nil
  by_cases hi : i ≤ D.length
  · rw [List.take_append_of_le_length hi]
    exact (doAll_less (l := D.take i) he hs fun m hm => hD m (List.mem_of_mem_take hm)).2
  · have h1 : (D ++ A).take i = D ++ A.take (i - D.length) := by
      rw [List.take_append, List.take_of_length_le (by omega)]
    rw [h1]
    refine longE_le ?_ hf
    have h2 : doF e (D ++ A) = doF (doF e (D ++ A.take (i - D.length))) (A.drop (i - D.length)) := by
      rw [show doF (doF e (D ++ A.take (i - D.length))) (A.drop (i - D.length)) = doF e ((D ++ A.take (i - D.length)) ++ A.drop (i - D.length)) from (List.foldl_append).symm]
      rw [List.append_assoc, List.take_append_drop]
    rw [h2]
    refine doF_grows (ent_doF he fun m hm => ?_) (fun m hm => hu m (List.mem_of_mem_drop hm)) fun m hm => hA m (List.mem_of_mem_drop hm)
    rcases List.mem_append.1 hm with hm | hm
    · exact hDu m hm
    · exact hu m (List.mem_of_mem_take hm)

theorem right_attr {e : List Atr} (h : checkE e = true) {a : Atr} (ha : a ∈ e) : isName a.1 = true ∧ small a.1 = a.1 ∧ a.2.2.length ≤ 16 ∧ a.2.2.all valueB = true := by
  rw [check_right] at h
  unfold rightB at h
  simp only [Bool.and_eq_true] at h
  have := List.all_eq_true.1 h.2.1 a ha
  unfold attrR at this
  simp only [Bool.and_eq_true, Bool.not_eq_true', decide_eq_false_iff_not, beq_iff_eq] at this
  exact ⟨this.1.1.1.1, this.1.1.1.2, by omega, this.1.2⟩
theorem right_get {e : List Atr} (h : checkE e = true) (n : Bytes) : (getE e n).length ≤ 16 ∧ (getE e n).all valueB = true := by
  rcases getE_cases e n with h0 | ⟨a, ha, _, h1⟩
  · rw [h0]; exact ⟨by simp, rfl⟩
  · rw [h1]; exact ⟨(right_attr h ha).2.2.1, (right_attr h ha).2.2.2⟩
theorem bothN_mem {a b : List Atr} (n : Bytes) : n ∈ bothN a b ↔ n ∈ a.map (·.1) ∨ n ∈ b.map (·.1) := by
  have h1 := (addAll_keys (a ++ b)).2 n
  rw [List.map_append, List.mem_append] at h1
  rw [← h1]
  exact (sortB_isPerm _).mem_iff
theorem diff_mem {e o : List Atr} {m : Mk} (h : m ∈ diffL e o (bothN e o)) : ∃ n, n ∈ bothN e o ∧ m.2 = (n, false, getE o n) ∧ getE e n ≠ getE o n ∧ ((m.1 = 2 ∧ getE o n = []) ∨ (m.1 = 1 ∧ getE o n ≠ [] ∧ getE e n = []) ∨ (m.1 = 3 ∧ getE o n ≠ [] ∧ getE e n ≠ [])) := by
  obtain ⟨n, hn, hd⟩ := List.mem_filterMap.1 h
  unfold diffA at hd
  split at hd
  · cases hd
  · rename_i hne
    have hne' : getE e n ≠ getE o n := by simpa using hne
    cases hd
    refine ⟨n, hn, rfl, hne', ?_⟩
    by_cases h1 : getE o n = []
    · exact .inl ⟨by rw [h1]; rfl, h1⟩
    · have h1' : (((getE o n).length : Int) == 0) = false := by simpa using h1
      by_cases h2 : getE e n = []
      · refine .inr (.inl ⟨?_, h1, h2⟩)
        show (if _ then _ else _) = _
        rw [h1', if_neg (by simp), h2]; rfl
      · have h2' : (((getE e n).length : Int) == 0) = false := by simpa using h2
        refine .inr (.inr ⟨?_, h1, h2⟩)
        show (if _ then _ else _) = _
        rw [h1', if_neg (by simp), h2', if_neg (by simp)]
theorem newK_diff {e o : List Atr} {m : Mk} (h : m ∈ diffL e o (bothN e o)) : (newK m).2 = getE o m.2.1 := by
  obtain ⟨n, _, h2, _, h4⟩ := diff_mem h
  unfold newK
  rw [h2]
  rcases h4 with ⟨h5, h6⟩ | ⟨h5, h6, _⟩ | ⟨h5, h6, _⟩
  · rw [if_pos h5, h6]
  · rw [if_neg (by rw [h5]; decide)]
  · rw [if_neg (by rw [h5]; decide)]
theorem part_mem {l : List Mk} {m : Mk} : m ∈ partK l ↔ m ∈ l := by
  unfold partK
  rw [List.mem_append, List.mem_filter, List.mem_filter]
  constructor
  · rintro (h | h) <;> exact h.1
  · intro h
    cases hb : (m.1 == 2)
    · exact .inr ⟨h, by simp [hb]⟩
    · exact .inl ⟨h, rfl⟩
theorem diff_names (e o : List Atr) : ((diffL e o (bothN e o)).map (·.2.1)).Sublist (bothN e o) := by
  unfold diffL
  generalize bothN e o = ns
  induction ns with
  | nil => simp
  | cons n ns ih =>
    rw [List.filterMap_cons]
    cases h : diffA e o n with
    | none => exact ih.cons _
    | some m =>
      have : m.2.1 = n := by
        unfold diffA at h
        split at h
        · cases h
        · cases h; rfl
      rw [List.map_cons, this]
      exact ih.cons_cons n
theorem part_names (e o : List Atr) : ((partK (diffL e o (bothN e o))).map (·.2.1)).Nodup := by
  have h1 : ((diffL e o (bothN e o)).map (·.2.1)).Nodup := (diff_names e o).nodup ((bothN_up e o).imp fun h => b_lt_ne h)
  generalize diffL e o (bothN e o) = l at h1
  unfold partK
  rw [List.map_append, List.nodup_append]
  refine ⟨(List.filter_sublist.map _).nodup h1, (List.filter_sublist.map _).nodup h1, ?_⟩
  intro a ha b hb hab
  subst hab
  obtain ⟨m, hm, hma⟩ := List.mem_map.1 ha
  obtain ⟨k, hk, hka⟩ := List.mem_map.1 hb
  obtain ⟨m1, m2⟩ := List.mem_filter.1 hm
  obtain ⟨k1, k2⟩ := List.mem_filter.1 hk
  have hmk : m = k := by
    obtain ⟨i, hi⟩ := List.mem_iff_getElem?.1 m1
    obtain ⟨j, hj⟩ := List.mem_iff_getElem?.1 k1
    have hi' : (l.map (·.2.1))[i]? = some a := by simp [hi, hma]
    have hj' : (l.map (·.2.1))[j]? = some a := by simp [hj, hka]
    have hij := (List.getElem?_inj (by simpa using (List.getElem?_eq_some_iff.1 hi).1) h1).1 (hi'.trans hj'.symm)
    subst hij
    rw [hi] at hj; cases hj; rfl
  subst hmk
  rw [m2] at k2; cases k2

/-- All that Do asks of the changes of Diff, and what they make. -/
theorem diff_done {e o : List Atr} (he : checkE e = true) (ho : checkE o = true) :
    (∀ m ∈ partK (diffL e o (bothN e o)), MayK m ∧ Up m.2.2.2 ∧ small m.2.1 = m.2.1) ∧
    (∀ (i : Nat) (m : Mk), (partK (diffL e o (bothN e o)))[i]? = some m → goodK (setAll e ((partK (diffL e o (bothN e o))).take i)) m ∧ longE (setE (setAll e ((partK (diffL e o (bothN e o))).take i)) m.2.1 (newK m)) = false ∧ (setAll e ((partK (diffL e o (bothN e o))).take i)).length ≤ 1000) ∧
    sameE (setAll e (partK (diffL e o (bothN e o)))) o = true := by
  have hee := check_ent he
  have heo := check_ent ho
  have hmem : ∀ m, m ∈ partK (diffL e o (bothN e o)) → m ∈ diffL e o (bothN e o) := fun m => part_mem.1
  have hnd := part_names e o
  have hnew : ∀ m ∈ partK (diffL e o (bothN e o)), (newK m).2 = getE o m.2.1 := fun m hm => newK_diff (hmem m hm)
  have hnu : ∀ m ∈ partK (diffL e o (bothN e o)), Up (newK m).2 := fun m hm => by rw [hnew m hm]; exact heo.getUp _
  have hall : ∀ n, getE (doF e ((partK (diffL e o (bothN e o))).map toMo)) n = getE o n := by
    intro n
    refine getE_doF hee (fun k hk => ?_) (fun k hk hkn => ?_) ?_
    · obtain ⟨m, hm, rfl⟩ := List.mem_map.1 hk; exact hnu m hm
    · obtain ⟨m, hm, rfl⟩ := List.mem_map.1 hk
      show (newK m).2 = _
      rw [hnew m hm]
      exact congrArg (getE o) hkn
    · by_cases hn : n ∈ bothN e o
      · by_cases heq : getE e n = getE o n
        · exact .inr heq
        · refine .inl ?_
          have hd : diffA e o n = some (if (((getE o n).length : Int) == 0) = true then 2 else if (((getE e n).length : Int) == 0) = true then 1 else 3, n, false, getE o n) := by
            unfold diffA; rw [if_neg (by simpa using heq)]
          have hm : _ ∈ diffL e o (bothN e o) := List.mem_filterMap.2 ⟨n, hn, hd⟩
          exact ⟨toMo _, List.mem_map.2 ⟨_, part_mem.2 hm, rfl⟩, rfl⟩
      · rw [bothN_mem] at hn
        rw [getE_no fun a ha h => hn (.inl (List.mem_map.2 ⟨a, ha, h⟩)), getE_no fun a ha h => hn (.inr (List.mem_map.2 ⟨a, ha, h⟩))]
        exact .inr rfl
  have hform := fun (m : Mk) (h : m ∈ diffL e o (bothN e o)) => diff_mem h
  generalize hP : partK (diffL e o (bothN e o)) = P at *
  have hdo : ∀ i, (setAll e (P.take i)).map nv = (doF e ((P.take i).map toMo)).map nv ∧ Ent (setAll e (P.take i)) := fun i =>
    setAll_doF hee hee rfl fun m hm => hnu m (List.mem_of_mem_take hm)
  have hfin : (doF e (P.map toMo)).map nv = o.map nv := ent_ext (ent_doF hee fun k hk => by obtain ⟨m, hm, rfl⟩ := List.mem_map.1 hk; exact hnu m hm) heo hall
  have hlf : longE (doF e (P.map toMo)) = false := by
    have := check_short ho
    unfold longE at this ⊢
    rw [nv_len hfin]; exact this
  have hlong : ∀ i, longE (setAll e (P.take i)) = false := by
    intro i
    have h1 : (setAll e (P.take i)).length = (doF e ((P.take i).map toMo)).length := nv_len (hdo i).1
    have h2 : longE (doF e ((P.map toMo).take i)) = false := by
      have hsplit : P.map toMo = ((diffL e o (bothN e o)).filter (fun m => m.1 == 2)).map toMo ++ ((diffL e o (bothN e o)).filter fun m => !(m.1 == 2)).map toMo := by
        rw [← List.map_append, ← hP]; rfl
      rw [hsplit] at hlf ⊢
      refine take_longs hee (check_short he) ?_ ?_ ?_ hlf i
      · intro k hk
        obtain ⟨m, hm, rfl⟩ := List.mem_map.1 hk
        have := (List.mem_filter.1 hm).2
        show (newK m).2 = []
        unfold newK
        rw [if_pos (by simpa using this)]
      · intro k hk
        obtain ⟨m, hm, rfl⟩ := List.mem_map.1 hk
        obtain ⟨m1, m2⟩ := List.mem_filter.1 hm
        show (newK m).2 ≠ []
        rw [newK_diff m1]
        obtain ⟨n, _, h2, _, h4⟩ := hform m m1
        rw [h2]
        have hne : m.1 ≠ 2 := by simpa using m2
        rcases h4 with ⟨h5, _⟩ | ⟨_, h6, _⟩ | ⟨_, h6, _⟩
        · exact (hne h5).elim
        · exact h6
        · exact h6
      · intro k hk
        obtain ⟨m, hm, rfl⟩ := List.mem_map.1 hk
        show Up (newK m).2
        rw [newK_diff (List.mem_filter.1 hm).1]
        exact heo.getUp _
    rw [← List.map_take] at h2
    unfold longE at h2 ⊢
    rw [h1]; exact h2
  refine ⟨fun m hm => ?_, fun i m hi => ?_, ?_⟩
  · obtain ⟨n, hn, h2, _, h4⟩ := hform m (hmem m hm)
    have hv : m.2.2.2 = getE o n := by rw [h2]
    have hmn : m.2.1 = n := by rw [h2]
    have hnn : isName n = true ∧ small n = n := by
      rcases (bothN_mem n).1 hn with h | h
      · obtain ⟨a, ha, rfl⟩ := List.mem_map.1 h; exact ⟨(right_attr he ha).1, (right_attr he ha).2.1⟩
      · obtain ⟨a, ha, rfl⟩ := List.mem_map.1 h; exact ⟨(right_attr ho ha).1, (right_attr ho ha).2.1⟩
    obtain ⟨w1, w2⟩ := right_get ho n
    refine ⟨⟨?_, by rw [hmn]; exact hnn.1, by rw [hv]; exact w1, by rw [hv]; exact w2, fun h1 => ?_⟩, by rw [hv]; exact heo.getUp n, by rw [hmn]; exact hnn.2⟩
    · rcases h4 with ⟨h5, _⟩ | ⟨h5, _⟩ | ⟨h5, _⟩
      · exact .inr (.inl h5)
      · exact .inl h5
      · exact .inr (.inr h5)
    · rw [hv]
      rcases h4 with ⟨h5, _⟩ | ⟨_, h6, _⟩ | ⟨_, h6, _⟩
      · omega
      · exact h6
      · exact h6
  · have hm := List.mem_of_getElem? hi
    obtain ⟨n, hn, h2, hne, h4⟩ := hform m (hmem m hm)
    have hv : m.2.2.2 = getE o n := by rw [h2]
    have hmn : m.2.1 = n := by rw [h2]
    have hget : getE (setAll e (P.take i)) n = getE e n := by
      rw [getE_nvU (hdo i).1 n]
      refine getE_doF_no hee (fun k hk => ?_) fun k hk hkn => ?_
      · obtain ⟨u, hu, rfl⟩ := List.mem_map.1 hk; exact hnu u (List.mem_of_mem_take hu)
      · obtain ⟨u, hu, rfl⟩ := List.mem_map.1 hk
        obtain ⟨j, hj⟩ := List.mem_iff_getElem?.1 hu
        rw [List.getElem?_take] at hj
        split at hj
        · rename_i hji
          have h6 : (P.map (·.2.1))[j]? = some n := by
            have : u.2.1 = n := hkn
            simp [hj, this]
          have h7 : (P.map (·.2.1))[i]? = some n := by simp [hi, hmn]
          have := (List.getElem?_inj (by simpa using (List.getElem?_eq_some_iff.1 hj).1) hnd).1 (h6.trans h7.symm)
          omega
        · cases hj
    refine ⟨?_, ?_, ?_⟩
    · unfold goodK
      rw [hmn, hv, hget]
      rcases h4 with ⟨h5, h6⟩ | ⟨h5, h6, h7⟩ | ⟨h5, h6, h7⟩
      · exact .inl ⟨h5, h6, fun h => hne (by rw [h, h6])⟩
      · exact .inr (.inl ⟨h5, h6, h7⟩)
      · exact .inr (.inr ⟨h5, h6⟩)
    · rw [← setAll_succ e P i m hi]; exact hlong (i + 1)
    · have := of_decide_eq_false (hlong i); omega
  · have h1 := hdo P.length
    rw [List.take_length] at h1
    exact decide_eq_true (h1.1.trans hfin)

/-- What an entry says goes into it, and nothing changes. -/
theorem was_want {e : List Atr} : ∀ i, i < 8 → (wantC e (dashC (getC e)) i).2 = getE e (nameAt i) := by
  intro i hi
  have hF : fld (dashC (getC e)) i = if i = 2 ∧ getE e (nameAt 2) = [[45]] then [] else getE e (nameAt i) := by
    rw [fld_dash (getC e) (getC_len e), getC_fld e 2 (by decide), getC_fld e i hi]
  unfold wantC
  rw [small_name i hi]
  generalize fld (dashC (getC e)) i = F at hF ⊢
  by_cases h2 : i = 2
  · subst h2
    have e2 : (((2 : Nat) : Int) == 2) = true := rfl
    generalize getE e (nameAt 2) = g at *
    by_cases hd : g = [[45]]
    · subst hd
      simp only [true_and, if_true] at hF
      subst hF
      rfl
    · simp only [true_and, hd, if_false] at hF
      subst hF
      rw [e2]
      cases F with
      | nil => rfl
      | cons u l =>
        have h0 : ((((u :: l).length : Nat) : Int) == 0) = false := by simp; omega
        rw [h0]; rfl
  · have h3 : ((i : Int) == 2) = false := by simp; omega
    have h4 : ¬ (i = 2 ∧ getE e (nameAt 2) = [[45]]) := fun h => h2 h.1
    rw [if_neg h4] at hF
    rw [h3, hF]; rfl
theorem back_same {e : List Atr} (h0 : ((ofC e).2 != 0) = false) : intoO e (ofC e).1 = .ret (.tup [.vsl 3 false ((e.map clr).map encE), .int .i64 0]) ∧ modsO e (ofC e).1 = .ret (.tup [.vsl 4 false [], .int .i64 0]) ∧ sameE (e.map clr) e = true := by
  obtain ⟨hce, hcc⟩ := ofC_zero h0
  have hwas : (ofC e).1 = dashC (getC e) := by
    unfold ofC at hcc ⊢
    rw [hce] at hcc ⊢
    simp only [if_true] at hcc ⊢
    cases h2 : checkC (dashC (getC e)) with
    | true => rfl
    | false => rw [h2] at hcc; simp only [Bool.false_eq_true, if_false] at hcc; exact absurd hcc (by decide)
  have hk2 : ((ofC e).2 == 2) = false := by
    have : (ofC e).2 = 0 := by simpa using h0
    rw [this]; rfl
  have hm : mayC (ofC e).1 = true := by
    unfold mayC
    rw [hcc, hwas, fld_dash _ (getC_len e)]
    split
    · rfl
    · rename_i h
      have : ¬ fld (getC e) 2 = [[45]] := fun h' => h ⟨rfl, h'⟩
      simp [this]
  have hor : ((ofC e).2 == 2 || !(mayC (ofC e).1)) = false := by rw [hk2, hm]; rfl
  have hch : modsC e (ofC e).1 = [] := by
    have : chgs e (ofC e).1 8 = [] := by
      unfold chgs
      rw [List.filterMap_eq_nil_iff]
      intro i hi
      have hi8 := List.mem_range.1 hi
      unfold chgAt
      rw [small_name i hi8, hwas, was_want i hi8, if_pos rfl]
    unfold modsC; rw [this]; rfl
  have hfin : finE e (ofC e).1 = e.map clr := by unfold finE; rw [hch]; rfl
  have hlong : longE (e.map clr) = false := by unfold longE; rw [List.length_map]; exact check_short hce
  have hnv : (e.map clr).map nv = e.map nv := by rw [List.map_map]; rfl
  refine ⟨?_, ?_, decide_eq_true hnv⟩
  · rw [intoO_eq hor h0, hfin, hlong]; rfl
  · unfold modsO
    rw [hor, h0, hfin, hlong]
    simp only [Bool.false_eq_true, if_false]
    have hd : diffL e (e.map clr) (bothN e (e.map clr)) = [] := by
      unfold diffL
      rw [List.filterMap_eq_nil_iff]
      intro n _
      unfold diffA
      rw [getE_clr, if_pos (decide_eq_true rfl)]
    rw [hd]; rfl
/-- Attributes of other names stay. -/
theorem fin_other {e : List Atr} (he : checkE e = true) {c : List Val} (hc : checkC c = true) {a : Atr} (ha : a ∈ e) (ht : toldN a.1 8 = false) : getE (finE e c) a.1 = a.2.2 := by
  have h := (final_get (check_ent he) (c := c) fun i hi => (want_facts hc hi).2.2).2.2 a.1 ht
  rw [show finE e c = doF (e.map clr) (modsC e c) from rfl, h]
  exact (check_ent he).get ha
end Go.Proofs.YtmeijkidjifagaaGreat
namespace Go.Proofs.YtmeijkidjifagaaGreat
set_option linter.unusedVariables false
set_option linter.unusedSimpArgs false
open Go Go.Av

set_option maxRecDepth 100000 in
theorem peopleBack6 (hk : PureFn Tryz.prog 8 [] (.ret (.bool true))) (x : Bool) (e : List Atr) (c : List Val) (hc : c.length = 8) : PureFn Tryz.prog 6 [.vsl 3 x (e.map encE), .agg (c.map encV)] (.ret (.bool true)) := by
  refine PureFn.of Tryz.func6 rfl (enters_call enters Tryz.func6 rfl) (by simp [Tryz.ntmps6]) ?_
  show W Tryz.prog 156 _ none _ _ _
  refine .seq (.region [] (by decide) ?_)
  simp only [EOps, EDf, isRd, gdA, callOf, isPanic, nextOf, altA, evalOp, St.ev, Av.get, St.put, argT, ofV, thenQ, Nat.reduceEqDiff, ↓reduceIte, Bool.and_self, List.map_cons, List.map_nil, List.nil_append, List.append_nil, List.getElem?_cons_zero, List.getElem?_cons_succ, List.getElem?_toArray, Option.map_some, Option.bind_some, decide_true, decide_false, beq_false, beq_true, Bool.not_true, Bool.not_false, Bool.false_eq_true, pickA, cond_true, cond_false, encV_told, if_true, List.length_nil, cells_agg']
  have h28 : evLoad Tryz.prog 28 (.ptr 0 0) [.cells (c.map encV) false] = some (.agg (c.map encV)) := ld28 _ 0 c false hc rfl
  have hl0 : ∀ H o, lend H [] o = some [] := by intro H o; rfl
  have hl1 : ∀ (z : Bool) (a : List Atr) H o, lend H [.vsl 3 z (a.map encE)] o = some [.vsl 3 z (a.map encE)] := by intro z a H o; simp [lend, AV.hfs, AV.hf, encE_hfs]
  have hl2 : ∀ H o, lend H [.agg (c.map encV)] o = some [.agg (c.map encV)] := by intro H o; simp [lend, AV.hfs, AV.hf, encV_hfs]
  have hl3 : ∀ (d : List Val) H o, lend H [.vsl 3 x (e.map encE), .agg (d.map encV)] o = some [.vsl 3 x (e.map encE), .agg (d.map encV)] := by intro d H o; simp [lend, AV.hfs, AV.hf, encE_hfs, encV_hfs]
  have p1 := light7 x e
  have p2 := few12 c hc
  generalize h1 : lightB e = b1 at p1
  generalize h2 : fewB c = b2 at p2
  cases b1 with
  | false =>
    refine .seq (.seq (.region [.pure (.ret (.bool false))] (by decide) ?_))
    simp only [EOps, EDf, isRd, gdA, callOf, isPanic, nextOf, altA, evalOp, St.ev, Av.get, St.put, argT, ofV, thenQ, Nat.reduceEqDiff, ↓reduceIte, Bool.and_self, List.map_cons, List.map_nil, List.nil_append, List.append_nil, List.getElem?_cons_zero, List.getElem?_cons_succ, List.getElem?_toArray, Option.map_some, Option.bind_some, decide_true, decide_false, beq_false, beq_true, Bool.not_true, Bool.not_false, Bool.false_eq_true, pickA, cond_true, cond_false, hl1, u_not]
    refine ⟨p1, .cond (t := true) rfl (.seq (.region [.pure (.ret (.bool true))] (by decide) ?_))⟩
    simp only [EOps, EDf, isRd, gdA, callOf, isPanic, nextOf, altA, evalOp, St.ev, Av.get, St.put, argT, ofV, thenQ, Nat.reduceEqDiff, ↓reduceIte, Bool.and_self, List.map_cons, List.map_nil, List.nil_append, List.append_nil, List.getElem?_cons_zero, List.getElem?_cons_succ, List.getElem?_toArray, Option.map_some, Option.bind_some, decide_true, decide_false, beq_false, beq_true, Bool.not_true, Bool.not_false, Bool.false_eq_true, pickA, cond_true, cond_false, hl0]
    exact ⟨hk, .ret ⟨_, rfl, _, rfl, .refl _⟩⟩
  | true =>
    cases b2 with
    | false =>
      refine .seq (.seq (.region [.pure (.ret (.bool true)), .pure (.ret (.bool false))] (by decide) ?_))
      simp only [EOps, EDf, isRd, gdA, callOf, isPanic, nextOf, altA, evalOp, St.ev, Av.get, St.put, argT, ofV, thenQ, Nat.reduceEqDiff, ↓reduceIte, Bool.and_self, List.map_cons, List.map_nil, List.nil_append, List.append_nil, List.getElem?_cons_zero, List.getElem?_cons_succ, List.getElem?_toArray, Option.map_some, Option.bind_some, decide_true, decide_false, beq_false, beq_true, Bool.not_true, Bool.not_false, Bool.false_eq_true, pickA, cond_true, cond_false, hl1, u_not, h28, hl2]
      refine ⟨p1, p2, .cond (t := true) rfl (.seq (.region [.pure (.ret (.bool true))] (by decide) ?_))⟩
      simp only [EOps, EDf, isRd, gdA, callOf, isPanic, nextOf, altA, evalOp, St.ev, Av.get, St.put, argT, ofV, thenQ, Nat.reduceEqDiff, ↓reduceIte, Bool.and_self, List.map_cons, List.map_nil, List.nil_append, List.append_nil, List.getElem?_cons_zero, List.getElem?_cons_succ, List.getElem?_toArray, Option.map_some, Option.bind_some, decide_true, decide_false, beq_false, beq_true, Bool.not_true, Bool.not_false, Bool.false_eq_true, pickA, cond_true, cond_false, hl0]
      exact ⟨hk, .ret ⟨_, rfl, _, rfl, .refl _⟩⟩
    | true =>
      obtain ⟨he, hb⟩ := light_bound h1
      have hb6 : ∀ a ∈ e, a.2.2.length ≤ 1000000 := fun a ha => by have := hb a ha; omega
      have q1 := of9 x e (by omega) hb6
      have hd8 := ofC_len8 e
      have q2 := into16 x e (ofC e).1 hd8 (by omega) hb6
      have q3 := mods18 x e (ofC e).1 hd8 (by omega) hb6
      have q4 := into16 x e c hc (by omega) hb6
      have q5 := mods18 x e c hc (by omega) hb6
      refine .seq (.seq (.region [.pure (.ret (.bool true)), .pure (.ret (.bool true))] (by decide) ?_))
      simp only [EOps, EDf, isRd, gdA, callOf, isPanic, nextOf, altA, evalOp, St.ev, Av.get, St.put, argT, ofV, thenQ, Nat.reduceEqDiff, ↓reduceIte, Bool.and_self, List.map_cons, List.map_nil, List.nil_append, List.append_nil, List.getElem?_cons_zero, List.getElem?_cons_succ, List.getElem?_toArray, Option.map_some, Option.bind_some, decide_true, decide_false, beq_false, beq_true, Bool.not_true, Bool.not_false, Bool.false_eq_true, pickA, cond_true, cond_false, hl1, u_not, h28, hl2]
      refine ⟨p1, p2, .cond (t := false) rfl (.skip ?_)⟩
      have hst1 : evStore Tryz.prog 28 (.ptr 1 0) (.agg ((ofC e).1.map encV)) [.cells (c.map encV) false, .cells (zeroC.map encV) false] = some [.cells (c.map encV) false, .cells ((ofC e).1.map encV) false] := st28 _ 1 zeroC _ rfl hd8 rfl
      refine .seq (.region [.pure (.ret (.tup [.agg ((ofC e).1.map encV), .int .i64 (ofC e).2]))] (by decide) ?_)
      simp only [EOps, EDf, isRd, gdA, callOf, isPanic, nextOf, altA, evalOp, St.ev, Av.get, St.put, argT, ofV, thenQ, Nat.reduceEqDiff, ↓reduceIte, Bool.and_self, List.map_cons, List.map_nil, List.nil_append, List.append_nil, List.getElem?_cons_zero, List.getElem?_cons_succ, List.getElem?_toArray, Option.map_some, Option.bind_some, decide_true, decide_false, beq_false, beq_true, Bool.not_true, Bool.not_false, Bool.false_eq_true, pickA, cond_true, cond_false, hl1, za28, cells_agg', List.length_singleton, List.cons_append, hst1]
      refine ⟨q1, ?_⟩
      cases h0 : ((ofC e).2 != 0) with
      | true =>
        refine .seq (.seq (.region [] (by decide) ?_))
        simp only [EOps, EDf, isRd, gdA, callOf, isPanic, nextOf, altA, evalOp, St.ev, Av.get, St.put, argT, ofV, thenQ, Nat.reduceEqDiff, ↓reduceIte, Bool.and_self, List.map_cons, List.map_nil, List.nil_append, List.append_nil, List.getElem?_cons_zero, List.getElem?_cons_succ, List.getElem?_toArray, Option.map_some, Option.bind_some, decide_true, decide_false, beq_false, beq_true, Bool.not_true, Bool.not_false, Bool.false_eq_true, pickA, cond_true, cond_false, b_neq, h0]
        refine .cond (t := true) rfl (.seq (.region [.pure (.ret (.bool true))] (by decide) ?_))
        simp only [EOps, EDf, isRd, gdA, callOf, isPanic, nextOf, altA, evalOp, St.ev, Av.get, St.put, argT, ofV, thenQ, Nat.reduceEqDiff, ↓reduceIte, Bool.and_self, List.map_cons, List.map_nil, List.nil_append, List.append_nil, List.getElem?_cons_zero, List.getElem?_cons_succ, List.getElem?_toArray, Option.map_some, Option.bind_some, decide_true, decide_false, beq_false, beq_true, Bool.not_true, Bool.not_false, Bool.false_eq_true, pickA, cond_true, cond_false, hl0]
        exact ⟨hk, .ret ⟨_, rfl, _, rfl, .refl _⟩⟩
      | false =>
        obtain ⟨g1, g2, g3⟩ := back_same h0
        obtain ⟨hce, hcc0⟩ := ofC_zero h0
        rw [g1] at q2
        rw [g2] at q3
        have q6 := same15 false x (e.map clr) e (by simp; omega)
        rw [g3] at q6
        have hl4 : ∀ (a b : List Atr) (y z : Bool) H o, lend H [.vsl 3 y (a.map encE), .vsl 3 z (b.map encE)] o = some [.vsl 3 y (a.map encE), .vsl 3 z (b.map encE)] := by intro a b y z H o; simp [lend, AV.hfs, AV.hf, encE_hfs]
        have h28a : evLoad Tryz.prog 28 (.ptr 0 0) [.cells (c.map encV) false, .cells ((ofC e).1.map encV) false] = some (.agg (c.map encV)) := ld28 _ 0 c false hc rfl
        have h28b : evLoad Tryz.prog 28 (.ptr 1 0) [.cells (c.map encV) false, .cells ((ofC e).1.map encV) false] = some (.agg ((ofC e).1.map encV)) := ld28 _ 1 _ false hd8 rfl
        have hk0 : (ofC e).2 = 0 := by simpa using h0
        have hl43 : ∀ H, evLen Tryz.prog 43 (.vsl 4 false []) H = some (.int .i64 0) := fun H => ln43k false [] H
        have e00 : ((0 : Int) != 0) = false := rfl
        generalize hclr : e.map clr = e1 at *
        generalize hw : (ofC e).1 = w at *
        refine .seq (.seq (.region [] (by decide) ?_))
        simp only [EOps, EDf, isRd, gdA, callOf, isPanic, nextOf, altA, evalOp, St.ev, Av.get, St.put, argT, ofV, thenQ, Nat.reduceEqDiff, ↓reduceIte, Bool.and_self, List.map_cons, List.map_nil, List.nil_append, List.append_nil, List.getElem?_cons_zero, List.getElem?_cons_succ, List.getElem?_toArray, Option.map_some, Option.bind_some, decide_true, decide_false, beq_false, beq_true, Bool.not_true, Bool.not_false, Bool.false_eq_true, pickA, cond_true, cond_false, b_neq, h0]
        refine .cond (t := false) rfl (.skip ?_)
        refine .seq (.region [.pure (.ret (.tup [.vsl 3 false (e1.map encE), .int .i64 0]))] (by decide) ?_)
        simp only [EOps, EDf, isRd, gdA, callOf, isPanic, nextOf, altA, evalOp, St.ev, Av.get, St.put, argT, ofV, thenQ, Nat.reduceEqDiff, ↓reduceIte, Bool.and_self, List.map_cons, List.map_nil, List.nil_append, List.append_nil, List.getElem?_cons_zero, List.getElem?_cons_succ, List.getElem?_toArray, Option.map_some, Option.bind_some, decide_true, decide_false, beq_false, beq_true, Bool.not_true, Bool.not_false, Bool.false_eq_true, pickA, cond_true, cond_false, h28b, hl3]
        refine ⟨q2, ?_⟩
        refine .seq (.region [.pure (.ret (.tup [.vsl 4 false [], .int .i64 0]))] (by decide) ?_)
        simp only [EOps, EDf, isRd, gdA, callOf, isPanic, nextOf, altA, evalOp, St.ev, Av.get, St.put, argT, ofV, thenQ, Nat.reduceEqDiff, ↓reduceIte, Bool.and_self, List.map_cons, List.map_nil, List.nil_append, List.append_nil, List.getElem?_cons_zero, List.getElem?_cons_succ, List.getElem?_toArray, Option.map_some, Option.bind_some, decide_true, decide_false, beq_false, beq_true, Bool.not_true, Bool.not_false, Bool.false_eq_true, pickA, cond_true, cond_false, h28b, hl3]
        refine ⟨q3, ?_⟩
        refine .seq (.seq (.region [.pure (.ret (.bool true))] (by decide) ?_))
        simp only [EOps, EDf, isRd, gdA, callOf, isPanic, nextOf, altA, evalOp, St.ev, Av.get, St.put, argT, ofV, thenQ, Nat.reduceEqDiff, ↓reduceIte, Bool.and_self, List.map_cons, List.map_nil, List.nil_append, List.append_nil, List.getElem?_cons_zero, List.getElem?_cons_succ, List.getElem?_toArray, Option.map_some, Option.bind_some, decide_true, decide_false, beq_false, beq_true, Bool.not_true, Bool.not_false, Bool.false_eq_true, pickA, cond_true, cond_false, b_neq, e00, hl4, u_not, hl43]
        refine ⟨q6, .cond (t := false) rfl (.skip ?_)⟩
        -- what Into says of the contact
        have hbad : ∀ k : Int, (k != 0) = true → intoO e c = .ret (.tup [.vsl 3 false [], .int .i64 k]) → ∀ (T : List (Nat × AV)), Av.get T 0 = .vsl 3 x (e.map encE) → Av.get T 3 = .ptr 0 0 →
            W Tryz.prog 156 0 none (match Tryz.f6.body with | some (.seq _ (.seq _ (.seq _ (.seq _ (.seq _ (.seq _ (.seq _ r))))))) => r | _ => .skip) (retQ Tryz.prog Tryz.f6.results.toList (.ret (.bool true))) ⟨T, [.cells (c.map encV) false, .cells (w.map encV) false], []⟩ := by
          intro k hkk hi T hT0 hT3
          rw [hi] at q4
          show W Tryz.prog 156 0 none (.seq (.region 10 _ _) _) _ _
          refine .seq (.region [.pure (.ret (.tup [.vsl 3 false [], .int .i64 k]))] (by decide) ?_)
          simp only [EOps, EDf, isRd, gdA, callOf, isPanic, nextOf, altA, evalOp, St.ev, Av.get, St.put, argT, ofV, thenQ, Nat.reduceEqDiff, ↓reduceIte, Bool.and_self, List.map_cons, List.map_nil, List.nil_append, List.append_nil, List.getElem?_cons_zero, List.getElem?_cons_succ, List.getElem?_toArray, Option.map_some, Option.bind_some, decide_true, decide_false, beq_false, beq_true, Bool.not_true, Bool.not_false, Bool.false_eq_true, pickA, cond_true, cond_false, hT0, hT3, h28a, hl3]
          refine ⟨q4, ?_⟩
          refine .seq (.seq (.region [] (by decide) ?_))
          simp only [EOps, EDf, isRd, gdA, callOf, isPanic, nextOf, altA, evalOp, St.ev, Av.get, St.put, argT, ofV, thenQ, Nat.reduceEqDiff, ↓reduceIte, Bool.and_self, List.map_cons, List.map_nil, List.nil_append, List.append_nil, List.getElem?_cons_zero, List.getElem?_cons_succ, List.getElem?_toArray, Option.map_some, Option.bind_some, decide_true, decide_false, beq_false, beq_true, Bool.not_true, Bool.not_false, Bool.false_eq_true, pickA, cond_true, cond_false, b_neq, hkk]
          refine .cond (t := true) rfl (.seq (.region [.pure (.ret (.bool true))] (by decide) ?_))
          simp only [EOps, EDf, isRd, gdA, callOf, isPanic, nextOf, altA, evalOp, St.ev, Av.get, St.put, argT, ofV, thenQ, Nat.reduceEqDiff, ↓reduceIte, Bool.and_self, List.map_cons, List.map_nil, List.nil_append, List.append_nil, List.getElem?_cons_zero, List.getElem?_cons_succ, List.getElem?_toArray, Option.map_some, Option.bind_some, decide_true, decide_false, beq_false, beq_true, Bool.not_true, Bool.not_false, Bool.false_eq_true, pickA, cond_true, cond_false, hl0]
          exact ⟨hk, .ret ⟨_, rfl, _, rfl, .refl _⟩⟩
        have hk2 : ((ofC e).2 == 2) = false := by rw [hk0]; rfl
        cases hm : mayC c with
        | false => exact hbad 2 rfl (by unfold intoO; rw [hk2, hm]; rfl) _ rfl rfl
        | true =>
          have hor : ((ofC e).2 == 2 || !(mayC c)) = false := by rw [hk2, hm]; rfl
          have hio := intoO_eq hor h0
          cases hs : longE (finE e c) with
          | true => exact hbad 3 rfl (by rw [hio, hs]; rfl) _ rfl rfl
          | false =>
            clear hbad
            have hcc : checkC c = true := by have h := hm; unfold mayC at h; simp only [Bool.and_eq_true] at h; exact h.1
            rw [hs] at hio
            simp only [Bool.false_eq_true, if_false] at hio
            rw [hio] at q4
            have hmo : modsO e c = .ret (.tup [.vsl 4 false ((partK (diffL e (finE e c) (bothN e (finE e c)))).map encK), .int .i64 0]) := by unfold modsO; rw [hor, h0, hs]; rfl
            rw [hmo] at q5
            have hck := finE_check hce hm hs
            obtain ⟨f1, f2⟩ := final_of hce hm hs
            obtain ⟨m1, m2, m3⟩ := diff_done hce hck
            have hother : ∀ a ∈ e, toldN a.1 8 = false → getE (finE e c) a.1 = a.2.2 := fun a ha ht => fin_other hce hcc ha ht
            have hfold : doF (e.map clr) (modsC e c) = finE e c := rfl
            rw [hfold] at f1 f2
            have hol : (finE e c).length ≤ 24 := (check_good hck).few
            have hob : ∀ a ∈ finE e c, a.2.2.length ≤ 1000000 := fun a ha => by have := ((check_good hck).each a ha).2.2; omega
            have hdl : (partK (diffL e (finE e c) (bothN e (finE e c)))).length ≤ 1000 := by
              have h1 := diffL_len e (finE e c) (bothN e (finE e c)) (bothN e (finE e c)).length
              rw [List.take_length] at h1
              have h2 := bothN_len (a := e) (b := finE e c)
              have h5 := List.length_filter_le (fun m : Mk => m.1 == 2) (diffL e (finE e c) (bothN e (finE e c)))
              have h6 := List.length_filter_le (fun m : Mk => !(m.1 == 2)) (diffL e (finE e c) (bothN e (finE e c)))
              unfold partK
              rw [List.length_append]
              omega
            generalize partK (diffL e (finE e c) (bothN e (finE e c))) = P at *
            have r1 := do21 x false e P (by rw [← check_right]; exact hce) hdl (fun m hm => (m1 m hm).1) (fun m hm => (m1 m hm).2.1) (fun m hm => (m1 m hm).2.2) m2
            have hal : (setAll e P).length ≤ 1000 := by
              have : (setAll e P).length = (finE e c).length := nv_len (of_decide_eq_true m3)
              omega
            have r2 := same15 false false (setAll e P) (finE e c) hal
            rw [m3] at r2
            have r3 := of9 false (finE e c) (by omega) hob
            have hn8 := ofC_len8 (finE e c)
            have r4 := same11 (ofC (finE e c)).1 c hn8 hc
            rw [f2] at r4
            rw [f1] at r3
            clear hio hmo hs hck f1 f2 m1 m2 m3 hfold hol hob hdl hal
            generalize setAll e P = dn at *
            generalize (ofC (finE e c)).1 = nw at *
            generalize finE e c = o at *
            have hl5 : ∀ H u, lend H [.vsl 3 x (e.map encE), .vsl 4 false (P.map encK)] u = some [.vsl 3 x (e.map encE), .vsl 4 false (P.map encK)] := by intro H u; simp [lend, AV.hfs, AV.hf, encE_hfs, encK_hfs]
            have hl6 : ∀ H u, lend H [.agg (nw.map encV), .agg (c.map encV)] u = some [.agg (nw.map encV), .agg (c.map encV)] := by intro H u; simp [lend, AV.hfs, AV.hf, encV_hfs]
            have hst2 : evStore Tryz.prog 28 (.ptr 2 0) (.agg (nw.map encV)) [.cells (c.map encV) false, .cells (w.map encV) false, .cells (zeroC.map encV) false] = some [.cells (c.map encV) false, .cells (w.map encV) false, .cells (nw.map encV) false] := st28 _ 2 zeroC nw rfl hn8 rfl
            have h28c : evLoad Tryz.prog 28 (.ptr 0 0) [.cells (c.map encV) false, .cells (w.map encV) false, .cells (nw.map encV) false] = some (.agg (c.map encV)) := ld28 _ 0 c false hc rfl
            have h28d : evLoad Tryz.prog 28 (.ptr 2 0) [.cells (c.map encV) false, .cells (w.map encV) false, .cells (nw.map encV) false] = some (.agg (nw.map encV)) := ld28 _ 2 nw false hn8 rfl
            refine .seq (.region [.pure (.ret (.tup [.vsl 3 false (o.map encE), .int .i64 0]))] (by decide) ?_)
            simp only [EOps, EDf, isRd, gdA, callOf, isPanic, nextOf, altA, evalOp, St.ev, Av.get, St.put, argT, ofV, thenQ, Nat.reduceEqDiff, ↓reduceIte, Bool.and_self, List.map_cons, List.map_nil, List.nil_append, List.append_nil, List.getElem?_cons_zero, List.getElem?_cons_succ, List.getElem?_toArray, Option.map_some, Option.bind_some, decide_true, decide_false, beq_false, beq_true, Bool.not_true, Bool.not_false, Bool.false_eq_true, pickA, cond_true, cond_false, h28a, hl3]
            refine ⟨q4, ?_⟩
            refine .seq (.seq (.region [] (by decide) ?_))
            simp only [EOps, EDf, isRd, gdA, callOf, isPanic, nextOf, altA, evalOp, St.ev, Av.get, St.put, argT, ofV, thenQ, Nat.reduceEqDiff, ↓reduceIte, Bool.and_self, List.map_cons, List.map_nil, List.nil_append, List.append_nil, List.getElem?_cons_zero, List.getElem?_cons_succ, List.getElem?_toArray, Option.map_some, Option.bind_some, decide_true, decide_false, beq_false, beq_true, Bool.not_true, Bool.not_false, Bool.false_eq_true, pickA, cond_true, cond_false, b_neq, e00]
            refine .cond (t := false) rfl (.skip ?_)
            refine .seq (.region [.pure (.ret (.tup [.agg (nw.map encV), .int .i64 0]))] (by decide) ?_)
            simp only [EOps, EDf, isRd, gdA, callOf, isPanic, nextOf, altA, evalOp, St.ev, Av.get, St.put, argT, ofV, thenQ, Nat.reduceEqDiff, ↓reduceIte, Bool.and_self, List.map_cons, List.map_nil, List.nil_append, List.append_nil, List.getElem?_cons_zero, List.getElem?_cons_succ, List.getElem?_toArray, Option.map_some, Option.bind_some, decide_true, decide_false, beq_false, beq_true, Bool.not_true, Bool.not_false, Bool.false_eq_true, pickA, cond_true, cond_false, hl1, za28, cells_agg', List.length_cons, List.length_nil, List.cons_append, Nat.reduceAdd, hst2]
            refine ⟨r3, ?_⟩
            refine .seq (.seq (.region [.pure (.ret (.bool true))] (by decide) ?_))
            simp only [EOps, EDf, isRd, gdA, callOf, isPanic, nextOf, altA, evalOp, St.ev, Av.get, St.put, argT, ofV, thenQ, Nat.reduceEqDiff, ↓reduceIte, Bool.and_self, List.map_cons, List.map_nil, List.nil_append, List.append_nil, List.getElem?_cons_zero, List.getElem?_cons_succ, List.getElem?_toArray, Option.map_some, Option.bind_some, decide_true, decide_false, beq_false, beq_true, Bool.not_true, Bool.not_false, Bool.false_eq_true, pickA, cond_true, cond_false, b_neq, e00, h28c, h28d, hl6, u_not]
            refine ⟨r4, .cond (t := false) rfl (.skip ?_)⟩
            refine .seq (.region [.pure (.ret (.tup [.vsl 4 false (P.map encK), .int .i64 0]))] (by decide) ?_)
            simp only [EOps, EDf, isRd, gdA, callOf, isPanic, nextOf, altA, evalOp, St.ev, Av.get, St.put, argT, ofV, thenQ, Nat.reduceEqDiff, ↓reduceIte, Bool.and_self, List.map_cons, List.map_nil, List.nil_append, List.append_nil, List.getElem?_cons_zero, List.getElem?_cons_succ, List.getElem?_toArray, Option.map_some, Option.bind_some, decide_true, decide_false, beq_false, beq_true, Bool.not_true, Bool.not_false, Bool.false_eq_true, pickA, cond_true, cond_false, h28c, hl3]
            refine ⟨q5, ?_⟩
            refine .seq (.region [.pure (.ret (.tup [.vsl 3 false (dn.map encE), .int .i64 0]))] (by decide) ?_)
            simp only [EOps, EDf, isRd, gdA, callOf, isPanic, nextOf, altA, evalOp, St.ev, Av.get, St.put, argT, ofV, thenQ, Nat.reduceEqDiff, ↓reduceIte, Bool.and_self, List.map_cons, List.map_nil, List.nil_append, List.append_nil, List.getElem?_cons_zero, List.getElem?_cons_succ, List.getElem?_toArray, Option.map_some, Option.bind_some, decide_true, decide_false, beq_false, beq_true, Bool.not_true, Bool.not_false, Bool.false_eq_true, pickA, cond_true, cond_false, hl5]
            refine ⟨r1, ?_⟩
            refine .seq (.seq (.region [.pure (.ret (.bool true))] (by decide) ?_))
            simp only [EOps, EDf, isRd, gdA, callOf, isPanic, nextOf, altA, evalOp, St.ev, Av.get, St.put, argT, ofV, thenQ, Nat.reduceEqDiff, ↓reduceIte, Bool.and_self, List.map_cons, List.map_nil, List.nil_append, List.append_nil, List.getElem?_cons_zero, List.getElem?_cons_succ, List.getElem?_toArray, Option.map_some, Option.bind_some, decide_true, decide_false, beq_false, beq_true, Bool.not_true, Bool.not_false, Bool.false_eq_true, pickA, cond_true, cond_false, b_neq, e00, hl4, u_not]
            refine ⟨r2, .cond (t := false) rfl (.skip ?_)⟩
            refine .seq (.seq (.region [] (by decide) ?_))
            simp only [EOps, EDf, isRd, gdA, callOf, isPanic, nextOf, altA, evalOp, St.ev, Av.get, St.put, argT, ofV, thenQ, Nat.reduceEqDiff, ↓reduceIte, Bool.and_self, List.map_cons, List.map_nil, List.nil_append, List.append_nil, List.getElem?_cons_zero, List.getElem?_cons_succ, List.getElem?_toArray, Option.map_some, Option.bind_some, decide_true, decide_false, beq_false, beq_true, Bool.not_true, Bool.not_false, Bool.false_eq_true, pickA, cond_true, cond_false]
            refine .block ?_
            refine .forR 19 117 118 119 0 e.length (by simp only [maxLen']; omega) (Nat.zero_le _) rfl rfl rfl rfl rfl rfl rfl rfl rfl (by decide)
              (fun i => [(0, .vsl 3 x (e.map encE)), (11, .vsl 3 false (o.map encE))]) (fun _ => rfl) (fun _ => []) (fun _ => Nat.zero_le _) (fun i => True) rfl trivial ?_ ?_ (subH_nil _ _) ?_ ?_ ?_
            · simp only [subT, Av.get, Nat.reduceEqDiff, ↓reduceIte, Le_rfl, nat0, nat1, and_self]
            · intro i _
              simp only [hltT, AV.hlt, encE_hlts, Bool.true_and, Bool.and_true]
            · intro i hi _
              refine .region [] (by decide) ?_
              simp only [EOps, EDf, isRd, gdA, callOf, isPanic, nextOf, altA, evalOp, St.ev, Av.get, St.put, argT, ofV, thenQ, Nat.reduceEqDiff, ↓reduceIte, Bool.and_self, List.map_cons, List.map_nil, List.nil_append, List.append_nil, List.getElem?_cons_zero, List.getElem?_cons_succ, List.getElem?_toArray, Option.map_some, Option.bind_some, decide_true, decide_false, beq_false, beq_true, Bool.not_true, Bool.not_false, Bool.false_eq_true, pickA, cond_true, cond_false, ln23, b_lss, dlt]
              refine ⟨trivial, ?_, subH_nil _ _, trivial⟩
              simp only [subT, Av.get, Nat.reduceEqDiff, ↓reduceIte, Le_rfl, nat0, nat1, and_self]
            · intro i hi _
              obtain ⟨a, ha, hda⟩ := drop_at hi
              have hoa := hother a (List.mem_of_getElem? ha)
              refine .block (.seq (.region [] (by decide) ?_))
              simp only [EOps, EDf, isRd, gdA, callOf, isPanic, nextOf, altA, evalOp, St.ev, Av.get, St.put, argT, ofV, thenQ, Nat.reduceEqDiff, ↓reduceIte, Bool.and_self, List.map_cons, List.map_nil, List.nil_append, List.append_nil, List.getElem?_cons_zero, List.getElem?_cons_succ, List.getElem?_toArray, Option.map_some, Option.bind_some, decide_true, decide_false, beq_false, beq_true, Bool.not_true, Bool.not_false, Bool.false_eq_true, pickA, cond_true, cond_false]
              refine .seq (.seq (.region [] (by decide) ?_))
              simp only [EOps, EDf, isRd, gdA, callOf, isPanic, nextOf, altA, evalOp, St.ev, Av.get, St.put, argT, ofV, thenQ, Nat.reduceEqDiff, ↓reduceIte, Bool.and_self, List.map_cons, List.map_nil, List.nil_append, List.append_nil, List.getElem?_cons_zero, List.getElem?_cons_succ, List.getElem?_toArray, Option.map_some, Option.bind_some, decide_true, decide_false, beq_false, beq_true, Bool.not_true, Bool.not_false, Bool.false_eq_true, pickA, cond_true, cond_false]
              refine .block ?_
              refine .forR 21 121 122 123 0 8 (by decide) (Nat.zero_le _) rfl rfl rfl rfl rfl rfl rfl rfl rfl (by decide)
                (fun k => [(20, .bool (toldN a.1 k)), (19, .int .i64 (i : Int)), (0, .vsl 3 x (e.map encE)), (11, .vsl 3 false (o.map encE))]) (fun _ => rfl) (fun _ => []) (fun _ => Nat.zero_le _) (fun _ => True) rfl trivial ?_ ?_ (subH_nil _ _) ?_ ?_ ?_
              · simp only [subT, Av.get, Nat.reduceEqDiff, ↓reduceIte, Le_rfl, nat0, nat1, and_self, toldN, List.take_zero, List.any_nil]
              · intro k _
                simp only [hltT, AV.hlt, encE_hlts, Bool.true_and, Bool.and_true]
              · intro k hk' _
                refine .region [] (by decide) ?_
                have : decide ((k : Int) < 8) = decide (k < 8) := dlt k 8
                simp only [EOps, EDf, isRd, gdA, callOf, isPanic, nextOf, altA, evalOp, St.ev, Av.get, St.put, argT, ofV, thenQ, Nat.reduceEqDiff, ↓reduceIte, Bool.and_self, List.map_cons, List.map_nil, List.nil_append, List.append_nil, List.getElem?_cons_zero, List.getElem?_cons_succ, List.getElem?_toArray, Option.map_some, Option.bind_some, decide_true, decide_false, beq_false, beq_true, Bool.not_true, Bool.not_false, Bool.false_eq_true, pickA, cond_true, cond_false, b_lss, this]
                refine ⟨trivial, ?_, subH_nil _ _, trivial⟩
                simp only [subT, Av.get, Nat.reduceEqDiff, ↓reduceIte, Le_rfl, nat0, nat1, and_self]
              · intro k hk' _
                have hm' := nameAt_at k hk'
                have hts := toldN_succ a.1 k _ hm'
                generalize nameAt k = m at hm' hts
                refine .block ?_
                generalize toldN a.1 k = b at hts
                cases b with
                | true =>
                  refine .drawf2 [] mixed (by kernel_rfl) (by kernel_rfl) (by kernel_rfl) ?_
                  simp only [EOps, EDf, isRd, gdA, callOf, isPanic, nextOf, altA, evalOp, St.ev, Av.get, St.put, argT, ofV, thenQ, Nat.reduceEqDiff, ↓reduceIte, Bool.and_self, List.map_cons, List.map_nil, List.nil_append, List.append_nil, List.getElem?_cons_zero, List.getElem?_cons_succ, List.getElem?_toArray, Option.map_some, Option.bind_some, decide_true, decide_false, beq_false, beq_true, Bool.not_true, Bool.not_false, Bool.false_eq_true, pickA, cond_true, cond_false]
                  refine ⟨trivial, ?_, subH_nil _ _, rfl⟩
                  simp only [subT, Av.get, Nat.reduceEqDiff, ↓reduceIte, Le_rfl, nat0, nat1, and_self, hts, Bool.true_or]
                | false =>
                  refine .drawf2 [.pure (.ret (.vsl 0 true (attrNames.map .str)))] mixed (by kernel_rfl) (by kernel_rfl) (by kernel_rfl) ?_
                  simp only [EOps, EDf, isRd, gdA, callOf, isPanic, nextOf, altA, evalOp, St.ev, Av.get, St.put, argT, ofV, thenQ, Nat.reduceEqDiff, ↓reduceIte, Bool.and_self, List.map_cons, List.map_nil, List.nil_append, List.append_nil, List.getElem?_cons_zero, List.getElem?_cons_succ, List.getElem?_toArray, Option.map_some, Option.bind_some, decide_true, decide_false, beq_false, beq_true, Bool.not_true, Bool.not_false, Bool.false_eq_true, pickA, cond_true, cond_false, hl0, ia26 _ _ _ _ hm', ld9v, ia23 _ _ _ _ ha, faE0, ldE0, s_eql]
                  refine ⟨names22, trivial, ?_, subH_nil _ _, rfl⟩
                  simp only [subT, Av.get, Nat.reduceEqDiff, ↓reduceIte, Le_rfl, nat0, nat1, and_self, hts, Bool.false_or]
              · intro _
                simp only [EOps, EDf, isRd, gdA, callOf, isPanic, nextOf, altA, evalOp, St.ev, Av.get, St.put, argT, ofV, thenQ, Nat.reduceEqDiff, ↓reduceIte, Bool.and_self, List.map_cons, List.map_nil, List.nil_append, List.append_nil, List.getElem?_cons_zero, List.getElem?_cons_succ, List.getElem?_toArray, Option.map_some, Option.bind_some, decide_true, decide_false, beq_false, beq_true, Bool.not_true, Bool.not_false, Bool.false_eq_true, pickA, cond_true, cond_false, blockQ]
                generalize toldN a.1 8 = b at hoa
                cases b with
                | true =>
                  refine .seq (.drawf [] mixed (by kernel_rfl) (by kernel_rfl) (by kernel_rfl) ?_)
                  simp only [EOps, EDf, isRd, gdA, callOf, isPanic, nextOf, altA, evalOp, St.ev, Av.get, St.put, argT, ofV, thenQ, Nat.reduceEqDiff, ↓reduceIte, Bool.and_self, List.map_cons, List.map_nil, List.nil_append, List.append_nil, List.getElem?_cons_zero, List.getElem?_cons_succ, List.getElem?_toArray, Option.map_some, Option.bind_some, decide_true, decide_false, beq_false, beq_true, Bool.not_true, Bool.not_false, Bool.false_eq_true, pickA, cond_true, cond_false, u_not]
                  refine .cond (t := false) rfl (.skip ?_)
                  refine ⟨trivial, ?_, subH_nil _ _, rfl⟩
                  simp only [subT, Av.get, Nat.reduceEqDiff, ↓reduceIte, Le_rfl, nat0, nat1, and_self]
                | false =>
                  have hv := hoa rfl
                  have hsa : small a.1 = a.1 := ((check_good hce).each a (List.mem_of_getElem? ha)).1
                  have s1 := get24 false o a.1
                  rw [hsa, hv] at s1
                  have s2 := texts23 false a.2.1 a.2.2 a.2.2
                  have ht : decide (a.2.2 = a.2.2) = true := decide_eq_true rfl
                  rw [ht] at s2
                  have hl7 : ∀ H u, lend H [.vsl 3 false (o.map encE), .str a.1] u = some [.vsl 3 false (o.map encE), .str a.1] := by intro H u; simp [lend, AV.hfs, AV.hf, encE_hfs]
                  have hl8 : ∀ H u, lend H [.vsl 0 false (a.2.2.map .str), .vsl 0 a.2.1 (a.2.2.map .str)] u = some [.vsl 0 false (a.2.2.map .str), .vsl 0 a.2.1 (a.2.2.map .str)] := by intro H u; simp [lend, AV.hfs, AV.hf, strs_hfs]
                  refine .seq (.drawf [.pure (.ret (.vsl 0 false (a.2.2.map .str))), .pure (.ret (.bool true))] mixed (by kernel_rfl) (by kernel_rfl) (by kernel_rfl) ?_)
                  simp only [EOps, EDf, isRd, gdA, callOf, isPanic, nextOf, altA, evalOp, St.ev, Av.get, St.put, argT, ofV, thenQ, Nat.reduceEqDiff, ↓reduceIte, Bool.and_self, List.map_cons, List.map_nil, List.nil_append, List.append_nil, List.getElem?_cons_zero, List.getElem?_cons_succ, List.getElem?_toArray, Option.map_some, Option.bind_some, decide_true, decide_false, beq_false, beq_true, Bool.not_true, Bool.not_false, Bool.false_eq_true, pickA, cond_true, cond_false, u_not, ia23 _ _ _ _ ha, faE0, ldE0, faE1, ldE1, hl7, hl8]
                  refine ⟨s1, s2, .cond (t := false) rfl (.skip ?_)⟩
                  refine ⟨trivial, ?_, subH_nil _ _, rfl⟩
                  simp only [subT, Av.get, Nat.reduceEqDiff, ↓reduceIte, Le_rfl, nat0, nat1, and_self]
            · intro _
              simp only [EOps, EDf, isRd, gdA, callOf, isPanic, nextOf, altA, evalOp, St.ev, Av.get, St.put, argT, ofV, thenQ, Nat.reduceEqDiff, ↓reduceIte, Bool.and_self, List.map_cons, List.map_nil, List.nil_append, List.append_nil, List.getElem?_cons_zero, List.getElem?_cons_succ, List.getElem?_toArray, Option.map_some, Option.bind_some, decide_true, decide_false, beq_false, beq_true, Bool.not_true, Bool.not_false, Bool.false_eq_true, pickA, cond_true, cond_false, blockQ]
              refine .seq (.region [.pure (.ret (.bool true))] (by decide) ?_)
              simp only [EOps, EDf, isRd, gdA, callOf, isPanic, nextOf, altA, evalOp, St.ev, Av.get, St.put, argT, ofV, thenQ, Nat.reduceEqDiff, ↓reduceIte, Bool.and_self, List.map_cons, List.map_nil, List.nil_append, List.append_nil, List.getElem?_cons_zero, List.getElem?_cons_succ, List.getElem?_toArray, Option.map_some, Option.bind_some, decide_true, decide_false, beq_false, beq_true, Bool.not_true, Bool.not_false, Bool.false_eq_true, pickA, cond_true, cond_false, hl0]
              exact ⟨hk, .ret ⟨_, rfl, _, rfl, .refl _⟩⟩
end Go.Proofs.YtmeijkidjifagaaGreat
