/- Contracts of functions that the statements of this seat reach: under the conditions named at each theorem. -/
import Derived.Test.YtmeijkidjifagaaGreatSrP11
import Derived.Test.YtmeijkidjifagaaGreatSrP6
namespace Go.Proofs.YtmeijkidjifagaaGreat
set_option linter.unusedVariables false
set_option linter.unusedSimpArgs false
open Go Go.Av

abbrev Up (l : List Bytes) : Prop := List.Pairwise (fun a b : Bytes => a < b) l
def nv (a : Atr) : Bytes × List Bytes := (a.1, a.2.2)
/-- An entry in order: names rise, no attribute without a value, values rise. -/
structure Ent (e : List Atr) : Prop where
  up : Up (e.map (·.1))
  ne : ∀ a ∈ e, a.2.2 ≠ []
  vs : ∀ a ∈ e, Up a.2.2
theorem Ent.tail {a : Atr} {e : List Atr} (h : Ent (a :: e)) : Ent e :=
  ⟨(List.pairwise_cons.1 h.up).2, fun b hb => h.ne b (List.mem_cons_of_mem _ hb), fun b hb => h.vs b (List.mem_cons_of_mem _ hb)⟩
theorem Ent.nil : Ent [] := ⟨.nil, by simp, by simp⟩
theorem getE_nil (n : Bytes) : getE [] n = [] := rfl
theorem getE_no {e : List Atr} {n : Bytes} (h : ∀ a ∈ e, a.1 ≠ n) : getE e n = [] := by
  induction e with
  | nil => rfl
  | cons a e ih =>
    rw [getE_cons, if_neg (by simpa using h a (by simp)), ih fun b hb => h b (List.mem_cons_of_mem _ hb)]
theorem getE_cases (e : List Atr) (n : Bytes) : getE e n = [] ∨ ∃ a ∈ e, a.1 = n ∧ getE e n = a.2.2 := by
  induction e with
  | nil => exact .inl rfl
  | cons a e ih =>
    rw [getE_cons]
    by_cases h : a.1 = n
    · rw [if_pos (by simpa using h)]; exact .inr ⟨a, by simp, h, rfl⟩
    · rw [if_neg (by simpa using h)]
      rcases ih with ih | ⟨b, hb, h1, h2⟩
      · exact .inl ih
      · exact .inr ⟨b, List.mem_cons_of_mem _ hb, h1, h2⟩
theorem Ent.gt {a : Atr} {e : List Atr} (h : Ent (a :: e)) : ∀ b ∈ e, a.1 < b.1 := fun b hb => (List.pairwise_cons.1 h.up).1 b.1 (List.mem_map.2 ⟨b, hb, rfl⟩)
theorem Ent.get {e : List Atr} (h : Ent e) {a : Atr} (ha : a ∈ e) : getE e a.1 = a.2.2 := by
  induction e with
  | nil => simp at ha
  | cons b e ih =>
    rw [getE_cons]
    rcases List.mem_cons.1 ha with rfl | ha
    · simp
    · have := b_lt_ne (h.gt a ha)
      rw [if_neg (by simpa using this), ih h.tail ha]
theorem Ent.getUp {e : List Atr} (h : Ent e) (n : Bytes) : Up (getE e n) := by
  rcases getE_cases e n with h0 | ⟨a, ha, _, h1⟩
  · rw [h0]; exact .nil
  · rw [h1]; exact h.vs a ha
/-- Two entries in order that tell the same of every name are the same. -/
theorem ent_ext : ∀ {e f : List Atr}, Ent e → Ent f → (∀ n, getE e n = getE f n) → e.map nv = f.map nv
  | [], [], _, _, _ => rfl
  | [], b :: f, _, hf, h => by
    have := h b.1
    rw [getE_nil, getE_cons] at this
    simp at this
    exact (hf.ne b (by simp) this).elim
  | a :: e, [], he, _, h => by
    have := h a.1
    rw [getE_nil, getE_cons] at this
    simp at this
    exact (he.ne a (by simp) this).elim
  | a :: e, b :: f, he, hf, h => by
    have hab : a.1 = b.1 := by
      rcases b_tri a.1 b.1 with hlt | heq | hgt
      · have h1 := h a.1
        rw [getE_cons, getE_no (e := b :: f) (n := a.1)] at h1
        · simp at h1; exact (he.ne a (by simp) h1).elim
        · intro c hc
          rcases List.mem_cons.1 hc with rfl | hc
          · exact (b_lt_ne hlt).symm
          · exact (b_lt_ne (b_lt_trans hlt (hf.gt c hc))).symm
      · exact heq
      · have h1 := h b.1
        rw [getE_cons (a := b), getE_no (e := a :: e) (n := b.1)] at h1
        · simp at h1; exact (hf.ne b (by simp) h1).elim
        · intro c hc
          rcases List.mem_cons.1 hc with rfl | hc
          · exact (b_lt_ne hgt).symm
          · exact (b_lt_ne (b_lt_trans hgt (he.gt c hc))).symm
    have hv : a.2.2 = b.2.2 := by
      have h1 := h a.1
      rw [getE_cons, getE_cons, hab] at h1
      simpa using h1
    have ht : ∀ n, getE e n = getE f n := by
      intro n
      have h1 := h n
      rw [getE_cons, getE_cons, hab] at h1
      by_cases hn : b.1 = n
      · rw [getE_no fun c hc => (b_lt_ne (hn ▸ hab ▸ he.gt c hc)).symm, getE_no fun c hc => (b_lt_ne (hn ▸ hf.gt c hc)).symm]
      · rw [if_neg (by simpa using hn), if_neg (by simpa using hn)] at h1
        exact h1
    rw [List.map_cons, List.map_cons, ent_ext he.tail hf.tail ht]
    simp only [nv, hab, hv]

theorem lookT_repl (t : Tab) (n : Bytes) (l : List Bytes) (k : Bytes) : lookT (replT t n l) k = if k = n then l else lookT t k := by
  induction t with
  | nil =>
    unfold lookT replT
    rw [List.find?_cons]
    by_cases h : k = n
    · subst h; simp
    · have : (n == k) = false := by simpa using fun e : n = k => h e.symm
      rw [if_neg h, this]
  | cons p t ih =>
    unfold replT
    by_cases hp : p.1 = n
    · rw [if_pos (by simpa using hp)]
      unfold lookT
      rw [List.find?_cons, List.find?_cons]
      by_cases h : k = n
      · subst h; simp [hp]
      · have : (p.1 == k) = false := by simpa using fun e : p.1 = k => h (e.symm.trans hp)
        rw [if_neg h]
        simp only [this]
    · rw [if_neg (by simpa using hp)]
      unfold lookT at ih ⊢
      rw [List.find?_cons, List.find?_cons]
      by_cases hk : p.1 = k
      · have : ¬ k = n := fun e => hp (hk.trans e)
        have h2 : (p.1 == k) = true := by simpa using hk
        rw [if_neg this, h2]
      · have h2 : (p.1 == k) = false := by simpa using hk
        rw [h2]; exact ih
theorem lookT_tab (e : List Atr) (n : Bytes) : lookT (tabE e) n = getE e n := by
  induction e with
  | nil => rfl
  | cons a e ih =>
    rw [getE_cons]
    have : tabE (a :: e) = (a.1, a.2.2) :: tabE e := rfl
    rw [this]
    unfold lookT at ih ⊢
    rw [List.find?_cons]
    by_cases h : a.1 = n
    · have h2 : (a.1 == n) = true := by simpa using h
      simp only [h2, if_true]
    · have h2 : (a.1 == n) = false := by simpa using h
      simp only [h2, Bool.false_eq_true, if_false]; exact ih
theorem lookT_no {t : Tab} {n : Bytes} (h : n ∉ t.map (·.1)) : lookT t n = [] := by
  unfold lookT
  rw [List.find?_eq_none.2]
  intro p hp
  simpa using fun e : p.1 = n => h (List.mem_map.2 ⟨p, hp, e⟩)
theorem getE_fm (g : Bytes → Option Atr) (hg : ∀ n a, g n = some a → a.1 = n) (n : Bytes) : ∀ ks : List Bytes, getE (ks.filterMap g) n = if n ∈ ks then (match g n with | some a => a.2.2 | none => []) else []
  | [] => rfl
  | k :: ks => by
    have ih := getE_fm g hg n ks
    rw [List.filterMap_cons]
    by_cases hk : k = n
    · subst hk
      rw [if_pos (by simp)]
      cases h : g k with
      | none =>
        simp only
        rw [ih, h]; split <;> rfl
      | some a => simp only; rw [getE_cons, hg k a h]; simp
    · have hne : ¬ n = k := fun e => hk e.symm
      cases h : g k with
      | none => simp only; rw [ih]; simp [hne]
      | some a =>
        simp only
        rw [getE_cons, hg k a h, if_neg (by simpa using hk), ih]; simp [hne]
theorem sortB_nil : sortB [] = [] := by simp [sortB]
theorem getE_entry (t : Tab) (n : Bytes) : getE (entryT t) n = sortB (lookT t n) := by
  unfold entryT
  rw [getE_fm _ (fun n a h => by rw [(entA_name h).1])]
  by_cases hn : n ∈ t.map (·.1)
  · rw [if_pos ((sortB_isPerm _).mem_iff.2 hn)]
    cases h : entA t n with
    | none =>
      unfold entA at h
      split at h
      · rename_i h0; rw [h0]
      · cases h
    | some a => simp only; rw [(entA_name h).1]
  · rw [if_neg (fun h => hn ((sortB_isPerm _).mem_iff.1 h)), lookT_no hn, sortB_nil]
theorem entryT_names' {t : Tab} (h : (t.map (·.1)).Nodup) : Up ((entryT t).map (·.1)) := (sortB_rises h).sublist (entryT_names t)
theorem replT_keys {t : Tab} (n : Bytes) (l : List Bytes) (h : (t.map (·.1)).Nodup) : ((replT t n l).map (·.1)).Nodup := by
  by_cases hm : n ∈ t.map (·.1)
  · obtain ⟨j, hj⟩ := List.mem_iff_getElem?.1 hm
    rw [replT_old t n l j h hj, List.map_set, set_same hj]; exact h
  · rw [replT_new t n l hm, List.map_append, List.nodup_append]
    exact ⟨h, by simp, by intro a ha b hb; simp at hb; subst hb; rintro rfl; exact hm ha⟩
/-- What a change makes of an entry. -/
theorem getE_do {e : List Atr} (he : Ent e) {m : Mo} (hm : Up m.2.2) (n : Bytes) : getE (doT e m) n = if n = m.1 then m.2.2 else getE e n := by
  unfold doT
  rw [getE_entry, lookT_repl]
  split
  · exact sortB_of hm
  · rw [lookT_tab]; exact sortB_of (he.getUp n)
theorem ent_do {e : List Atr} (he : Ent e) {m : Mo} (hm : Up m.2.2) : Ent (doT e m) := by
  have hk : ((tabE e).map (·.1)).Nodup := by
    have : (tabE e).map (·.1) = e.map (·.1) := by simp [tabE]
    rw [this]; exact he.up.imp fun h => b_lt_ne h
  have hup : Up ((doT e m).map (·.1)) := entryT_names' (replT_keys _ _ hk)
  have hat : ∀ a ∈ doT e m, a.2.2 = sortB (lookT (replT (tabE e) m.1 m.2.2) a.1) ∧ a.2.2 ≠ [] := by
    intro a ha
    unfold doT entryT at ha
    obtain ⟨n, _, hn⟩ := List.mem_filterMap.1 ha
    obtain ⟨rfl, h2⟩ := entA_name hn
    exact ⟨rfl, h2⟩
  refine ⟨hup, fun a ha => (hat a ha).2, fun a ha => ?_⟩
  rw [(hat a ha).1, lookT_repl]
  split
  · rw [sortB_of hm]; exact hm
  · rw [lookT_tab, sortB_of (he.getUp _)]; exact he.getUp _

/-- All changes done. -/
def doF (e : List Atr) (l : List Mo) : List Atr := l.foldl doT e
theorem ent_doF : ∀ {l : List Mo} {e : List Atr}, Ent e → (∀ m ∈ l, Up m.2.2) → Ent (doF e l)
  | [], _, he, _ => he
  | m :: l, e, he, hl => ent_doF (l := l) (ent_do he (hl m (by simp))) fun k hk => hl k (List.mem_cons_of_mem _ hk)
theorem getE_doF_no {n : Bytes} : ∀ {l : List Mo} {e : List Atr}, Ent e → (∀ m ∈ l, Up m.2.2) → (∀ m ∈ l, m.1 ≠ n) → getE (doF e l) n = getE e n
  | [], _, _, _, _ => rfl
  | m :: l, e, he, hl, hn => by
    have := getE_doF_no (n := n) (l := l) (ent_do he (hl m (by simp))) (fun k hk => hl k (List.mem_cons_of_mem _ hk)) fun k hk => hn k (List.mem_cons_of_mem _ hk)
    rw [show doF e (m :: l) = doF (doT e m) l from rfl, this, getE_do he (hl m (by simp)), if_neg fun h => hn m (by simp) h.symm]
theorem getE_doF {n : Bytes} {w : List Bytes} : ∀ {l : List Mo} {e : List Atr}, Ent e → (∀ m ∈ l, Up m.2.2) → (∀ m ∈ l, m.1 = n → m.2.2 = w) → ((∃ m ∈ l, m.1 = n) ∨ getE e n = w) → getE (doF e l) n = w
  | [], _, _, _, _, h => by rcases h with ⟨m, hm, _⟩ | h; · simp at hm
                            · exact h
  | m :: l, e, he, hl, hn, h => by
    refine getE_doF (l := l) (ent_do he (hl m (by simp))) (fun k hk => hl k (List.mem_cons_of_mem _ hk)) (fun k hk => hn k (List.mem_cons_of_mem _ hk)) ?_
    by_cases hmn : n = m.1
    · exact .inr (by rw [getE_do he (hl m (by simp)), if_pos hmn]; exact hn m (by simp) hmn.symm)
    · rcases h with ⟨k, hk, hkn⟩ | h
      · rcases List.mem_cons.1 hk with rfl | hk
        · exact (hmn hkn.symm).elim
        · exact .inl ⟨k, hk, hkn⟩
      · exact .inr (by rw [getE_do he (hl m (by simp)), if_neg hmn]; exact h)

theorem len_sub {l m : List Bytes} (hn : l.Nodup) (h : ∀ a ∈ l, a ∈ m) : l.length ≤ m.length := by
  induction l generalizing m with
  | nil => simp
  | cons a l ih =>
    rw [List.nodup_cons] at hn
    have ha := h a (by simp)
    have h1 := ih (m := m.erase a) hn.2 fun b hb => (List.mem_erase_of_ne (by rintro rfl; exact hn.1 hb)).2 (h b (List.mem_cons_of_mem _ hb))
    rw [List.length_erase_of_mem ha] at h1
    have : 0 < m.length := List.length_pos_of_mem ha
    simp; omega
theorem len_get {e f : List Atr} (he : Ent e) (h : ∀ n, getE e n ≠ [] → getE f n ≠ []) : e.length ≤ f.length := by
  have hnd : (e.map (·.1)).Nodup := he.up.imp fun h => b_lt_ne h
  have := len_sub (l := e.map (·.1)) (m := f.map (·.1)) hnd fun n hn => by
    obtain ⟨a, ha, rfl⟩ := List.mem_map.1 hn
    have h1 := h a.1 (by rw [he.get ha]; exact he.ne a ha)
    rcases getE_cases f a.1 with h2 | ⟨b, hb, h2, _⟩
    · exact (h1 h2).elim
    · exact List.mem_map.2 ⟨b, hb, h2⟩
  simpa using this
theorem doAll_app : ∀ {l k : List Mo} {e : List Atr}, doAll e (l ++ k) = (doAll e l).bind fun r => doAll r k
  | [], _, _ => rfl
  | m :: l, k, e => by
    rw [List.cons_append, doAll, doAll]
    split
    · rfl
    · exact doAll_app
theorem longE_le {e f : List Atr} (h : e.length ≤ f.length) (hf : longE f = false) : longE e = false := by
  unfold longE at hf ⊢
  have := of_decide_eq_false hf
  exact decide_eq_false (by omega)
theorem doAll_less : ∀ {l : List Mo} {e : List Atr}, Ent e → longE e = false → (∀ m ∈ l, m.2.2 = []) → doAll e l = some (doF e l) ∧ longE (doF e l) = false
  | [], e, _, hl, _ => ⟨rfl, hl⟩
  | m :: l, e, he, hl, hm => by
    have hm0 := hm m (by simp)
    have hup : Up m.2.2 := by rw [hm0]; exact .nil
    have hd := ent_do he hup
    have hle : (doT e m).length ≤ e.length := len_get hd fun n hn => by
      rw [getE_do he hup] at hn
      split at hn
      · exact (hn hm0).elim
      · exact hn
    have hs := longE_le hle hl
    rw [doAll, hs]
    exact doAll_less (l := l) hd hs fun k hk => hm k (List.mem_cons_of_mem _ hk)
theorem doF_grows : ∀ {l : List Mo} {e : List Atr}, Ent e → (∀ m ∈ l, Up m.2.2) → (∀ m ∈ l, m.2.2 ≠ []) → e.length ≤ (doF e l).length
  | [], _, _, _, _ => Nat.le_refl _
  | m :: l, e, he, hl, hn => by
    have hd := ent_do he (hl m (by simp))
    have h1 : e.length ≤ (doT e m).length := len_get he fun n h => by
      rw [getE_do he (hl m (by simp))]
      split
      · exact hn m (by simp)
      · exact h
    exact Nat.le_trans h1 (doF_grows (l := l) hd (fun k hk => hl k (List.mem_cons_of_mem _ hk)) fun k hk => hn k (List.mem_cons_of_mem _ hk))
theorem doAll_more : ∀ {l : List Mo} {e : List Atr}, Ent e → longE e = false → (∀ m ∈ l, Up m.2.2) → (∀ m ∈ l, m.2.2 ≠ []) → doAll e l = if longE (doF e l) = true then none else some (doF e l)
  | [], e, _, h, _, _ => by rw [show doF e [] = e from rfl, h]; rfl
  | m :: l, e, he, h, hl, hn => by
    have hd := ent_do he (hl m (by simp))
    have hg := doF_grows (l := l) hd (fun k hk => hl k (List.mem_cons_of_mem _ hk)) fun k hk => hn k (List.mem_cons_of_mem _ hk)
    rw [doAll, show doF e (m :: l) = doF (doT e m) l from rfl]
    cases hs : longE (doT e m) with
    | true =>
      have : longE (doF (doT e m) l) = true := by
        cases h2 : longE (doF (doT e m) l) with
        | true => rfl
        | false => rw [longE_le hg h2] at hs; cases hs
      rw [this]; rfl
    | false =>
      exact doAll_more (l := l) hd hs (fun k hk => hl k (List.mem_cons_of_mem _ hk)) fun k hk => hn k (List.mem_cons_of_mem _ hk)
theorem goes_nil (m : Mo) : goesB m = true ↔ m.2.2 = [] := by
  unfold goesB
  simp
theorem doAll_mods {e : List Atr} (he : Ent e) (hl : longE e = false) {l : List Mo} (hu : ∀ m ∈ l, Up m.2.2) :
    doAll e (l.filter goesB ++ l.filter fun m => !(goesB m)) = if longE (doF e (l.filter goesB ++ l.filter fun m => !(goesB m))) = true then none else some (doF e (l.filter goesB ++ l.filter fun m => !(goesB m))) := by
  obtain ⟨h1, h2⟩ := doAll_less (l := l.filter goesB) he hl fun m hm => (goes_nil m).1 (List.mem_filter.1 hm).2
  have hd := ent_doF (l := l.filter goesB) he fun m hm => hu m (List.mem_filter.1 hm).1
  rw [doAll_app, h1, Option.bind_some, doAll_more hd h2 (fun m hm => hu m (List.mem_filter.1 hm).1) (fun m hm h0 => by
    have := (List.mem_filter.1 hm).2
    rw [(goes_nil m).2 h0] at this; cases this)]
  rw [show doF e (l.filter goesB ++ l.filter fun m => !(goesB m)) = doF (doF e (l.filter goesB)) (l.filter fun m => !(goesB m)) from List.foldl_append]
end Go.Proofs.YtmeijkidjifagaaGreat
namespace Go.Proofs.YtmeijkidjifagaaGreat
set_option linter.unusedVariables false
set_option linter.unusedSimpArgs false
open Go Go.Av

theorem check_ent {e : List Atr} (h : checkE e = true) : Ent e := by
  unfold checkE at h
  simp only [Bool.and_eq_true, Bool.not_eq_true', decide_eq_false_iff_not] at h
  have hat : ∀ a ∈ e, ¬ (a.2.2.length : Int) < 1 ∧ Up a.2.2 := by
    intro a ha
    have := List.all_eq_true.1 h.1 a ha
    unfold attrB at this
    simp only [Bool.and_eq_true, Bool.not_eq_true', decide_eq_false_iff_not, beq_iff_eq] at this
    exact ⟨this.1.1.2.1, of_rises this.2⟩
  refine ⟨of_rises h.2.2, fun a ha h0 => ?_, fun a ha => (hat a ha).2⟩
  have := (hat a ha).1
  rw [h0] at this; simp at this
theorem check_short {e : List Atr} (h : checkE e = true) : longE e = false := by
  unfold checkE at h
  simp only [Bool.and_eq_true, Bool.not_eq_true'] at h
  exact h.2.1

theorem ent_filter {e : List Atr} (h : Ent e) (p : Atr → Bool) : Ent (e.filter p) :=
  ⟨h.up.sublist (List.filter_sublist.map _), fun a ha => h.ne a (List.mem_filter.1 ha).1, fun a ha => h.vs a (List.mem_filter.1 ha).1⟩
theorem getE_filter (p : Bytes → Bool) (n : Bytes) : ∀ e : List Atr, getE (e.filter fun a => p a.1) n = if p n = true then getE e n else []
  | [] => by rw [List.filter_nil, getE_nil]; split <;> rfl
  | a :: e => by
    have ih := getE_filter p n e
    rw [List.filter_cons]
    by_cases ha : a.1 = n
    · subst ha
      by_cases hp : p a.1 = true
      · rw [if_pos hp, if_pos hp, getE_cons, getE_cons]; simp
      · rw [if_neg hp, ih, if_neg hp, if_neg hp]
    · have hne : (a.1 == n) = false := by simpa using ha
      have h1 : getE (a :: e) n = getE e n := by rw [getE_cons, hne]; rfl
      rw [h1]
      by_cases hp : p a.1 = true
      · rw [if_pos hp, getE_cons, hne]; exact ih
      · rw [if_neg hp, ih]
theorem insA_cons (n : Bytes) (v : Val) (a : Atr) (l : List Atr) : insA n v (a :: l) = if Op.bytesLess a.1 n = true then a :: insA n v l else (n, v.1, v.2) :: a :: l := by
  unfold insA
  rw [kIn_cons]
  split <;> simp
theorem insA_mem {n : Bytes} {v : Val} {l : List Atr} {b : Atr} (h : b ∈ insA n v l) : b = (n, v.1, v.2) ∨ b ∈ l := by
  induction l with
  | nil => simp [insA, kIn] at h; exact .inl h
  | cons a l ih =>
    rw [insA_cons] at h
    split at h
    · rcases List.mem_cons.1 h with rfl | h
      · exact .inr (by simp)
      · rcases ih h with h | h
        · exact .inl h
        · exact .inr (List.mem_cons_of_mem _ h)
    · rcases List.mem_cons.1 h with rfl | h
      · exact .inl rfl
      · exact .inr h
theorem Ent.cons {a : Atr} {e : List Atr} (h : Ent e) (hg : ∀ b ∈ e, a.1 < b.1) (hn : a.2.2 ≠ []) (hv : Up a.2.2) : Ent (a :: e) := by
  refine ⟨?_, ?_, ?_⟩
  · rw [List.map_cons]
    exact List.pairwise_cons.2 ⟨fun n hn => by obtain ⟨b, hb, rfl⟩ := List.mem_map.1 hn; exact hg b hb, h.up⟩
  · intro b hb; rcases List.mem_cons.1 hb with rfl | hb
    · exact hn
    · exact h.ne b hb
  · intro b hb; rcases List.mem_cons.1 hb with rfl | hb
    · exact hv
    · exact h.vs b hb
theorem ent_ins {n : Bytes} {v : Val} (hv0 : v.2 ≠ []) (hv : Up v.2) : ∀ {l : List Atr}, Ent l → (∀ a ∈ l, a.1 ≠ n) → Ent (insA n v l) ∧ ∀ k, getE (insA n v l) k = if k = n then v.2 else getE l k
  | [], _, _ => by
    have h0 : insA n v [] = [(n, v.1, v.2)] := by simp [insA, kIn]
    rw [h0]
    refine ⟨Ent.cons Ent.nil (by simp) hv0 hv, fun k => ?_⟩
    rw [getE_cons]
    by_cases h : n = k
    · rw [if_pos (by simpa using h), if_pos h.symm]
    · rw [if_neg (by simpa using h), if_neg fun e => h e.symm]
  | a :: l, he, hn => by
    have hna := hn a (by simp)
    obtain ⟨ih1, ih2⟩ := ent_ins hv0 hv he.tail fun b hb => hn b (List.mem_cons_of_mem _ hb)
    rw [insA_cons, less_lt]
    by_cases hlt : a.1 < n
    · simp only [hlt, decide_true, if_true]
      refine ⟨Ent.cons ih1 (fun b hb => ?_) (he.ne a (by simp)) (he.vs a (by simp)), fun k => ?_⟩
      · rcases insA_mem hb with rfl | hb
        · exact hlt
        · exact he.gt b hb
      · rw [getE_cons, getE_cons, ih2]
        by_cases h : a.1 = k
        · have h1 : ¬ k = n := fun e => hna (h.trans e)
          have h2 : (a.1 == k) = true := by simpa using h
          simp [h2, h1]
        · have h2 : (a.1 == k) = false := by simpa using h
          rw [h2]; rfl
    · have hgt : n < a.1 := by
        rcases b_tri a.1 n with h | h | h
        · exact (hlt h).elim
        · exact (hna h).elim
        · exact h
      simp only [hlt, decide_false, Bool.false_eq_true, if_false]
      refine ⟨Ent.cons he (fun b hb => ?_) hv0 hv, fun k => ?_⟩
      · rcases List.mem_cons.1 hb with rfl | hb
        · exact hgt
        · exact b_lt_trans hgt (he.gt b hb)
      · rw [getE_cons]
        by_cases h : n = k
        · rw [if_pos (by simpa using h), if_pos h.symm]
        · rw [if_neg (by simpa using h), if_neg fun e => h e.symm]

theorem name_ne : ∀ i, i < 8 → ∀ j, j < i → nameAt j ≠ nameAt i := by decide
theorem told_at : ∀ i, i < 8 → toldN (nameAt i) 8 = true := by decide
theorem told_iff (n : Bytes) : toldN n 8 = true ↔ ∃ i, i < 8 ∧ n = nameAt i := by
  constructor
  · intro h
    unfold toldN at h
    obtain ⟨m, hm, he⟩ := List.any_eq_true.1 h
    have he' : m = n := by simpa using he
    subst he'
    obtain ⟨i, hi⟩ := List.mem_iff_getElem?.1 (List.mem_of_mem_take hm)
    have hlt : i < 8 := (List.getElem?_eq_some_iff.1 hi).1
    rw [nameAt_at i hlt] at hi
    exact ⟨i, hlt, by cases hi; rfl⟩
  · rintro ⟨i, hi, rfl⟩; exact told_at i hi

theorem getE_clr (e : List Atr) (n : Bytes) : getE (e.map clr) n = getE e n := by
  induction e with
  | nil => rfl
  | cons a e ih => rw [List.map_cons, getE_cons, getE_cons, ih]; rfl
theorem ent_clr {e : List Atr} (h : Ent e) : Ent (e.map clr) := by
  refine ⟨?_, ?_, ?_⟩
  · have : (e.map clr).map (·.1) = e.map (·.1) := by rw [List.map_map]; rfl
    rw [this]; exact h.up
  · intro a ha; obtain ⟨b, hb, rfl⟩ := List.mem_map.1 ha; exact h.ne b hb
  · intro a ha; obtain ⟨b, hb, rfl⟩ := List.mem_map.1 ha; exact h.vs b hb
theorem small_name : ∀ i, i < 8 → small (nameAt i) = nameAt i := fun i hi => (nameAt_good i hi).1
theorem mods_at {e : List Atr} {c : List Val} {i : Nat} (hi : i < 8) : (∃ m ∈ modsC e c, m.1 = nameAt i) ∨ getE e (nameAt i) = (wantC e c i).2 := by
  by_cases h : getE e (nameAt i) = (wantC e c i).2
  · exact .inr h
  · have hc : chgAt e c i = some (nameAt i, wantC e c i) := by unfold chgAt; rw [small_name i hi, if_neg h]
    have hm : (nameAt i, wantC e c i) ∈ chgs e c 8 := List.mem_filterMap.2 ⟨i, List.mem_range.2 hi, hc⟩
    refine .inl ⟨(nameAt i, wantC e c i), ?_, rfl⟩
    unfold modsC
    by_cases hg : goesB (nameAt i, wantC e c i) = true
    · exact List.mem_append.2 (.inl (List.mem_filter.2 ⟨hm, hg⟩))
    · exact List.mem_append.2 (.inr (List.mem_filter.2 ⟨hm, by simpa using hg⟩))
theorem name_inj {i j : Nat} (hi : i < 8) (hj : j < 8) (h : nameAt i = nameAt j) : i = j := by
  rcases Nat.lt_trichotomy i j with hl | he | hg
  · exact (name_ne j hj i hl h).elim
  · exact he
  · exact (name_ne i hi j hg h.symm).elim
/-- What the changes make of an entry. -/
theorem final_get {e : List Atr} (he : Ent e) {c : List Val} (hu : ∀ i, i < 8 → Up (wantC e c i).2) : Ent (doF (e.map clr) (modsC e c)) ∧ (∀ i, i < 8 → getE (doF (e.map clr) (modsC e c)) (nameAt i) = (wantC e c i).2) ∧ (∀ n, toldN n 8 = false → getE (doF (e.map clr) (modsC e c)) n = getE e n) := by
  have hm : ∀ m ∈ modsC e c, Up m.2.2 := fun m hm => by obtain ⟨i, hi, rfl⟩ := modsC_mem hm; exact hu i hi
  have hc := ent_clr he
  refine ⟨ent_doF hc hm, fun i hi => ?_, fun n hn => ?_⟩
  · refine getE_doF hc hm (fun m hmm hmn => ?_) ?_
    · obtain ⟨j, hj, rfl⟩ := modsC_mem hmm
      rw [name_inj hj hi hmn]
    · rw [getE_clr]; exact mods_at hi
  · rw [getE_doF_no hc hm, getE_clr]
    intro m hmm hmn
    obtain ⟨j, hj, rfl⟩ := modsC_mem hmm
    rw [← hmn, told_at j hj] at hn; cases hn
theorem nv_len {e f : List Atr} (h : e.map nv = f.map nv) : e.length = f.length := by
  have := congrArg List.length h
  simpa using this

end Go.Proofs.YtmeijkidjifagaaGreat
namespace Go.Proofs.YtmeijkidjifagaaGreat
set_option linter.unusedVariables false
set_option linter.unusedSimpArgs false
open Go Go.Av

def sameE (a b : List Atr) : Bool := decide (a.map nv = b.map nv)

set_option maxRecDepth 100000 in
theorem same15 (x y : Bool) (a b : List Atr) (ha : a.length ≤ 1000) : PureFn Tryz.prog 15 [.vsl 3 x (a.map encE), .vsl 3 y (b.map encE)] (.ret (.bool (sameE a b))) := by
  refine PureFn.of Tryz.func15 rfl (enters_call enters Tryz.func15 rfl) (by simp [Tryz.ntmps15]) ?_
  show W Tryz.prog 42 _ none _ _ _
  refine .seq (.region [] (by decide) ?_)
  simp only [EOps, EDf, isRd, gdA, callOf, isPanic, nextOf, altA, evalOp, St.ev, Av.get, St.put, argT, ofV, thenQ, Nat.reduceEqDiff, ↓reduceIte, Bool.and_self, List.map_cons, List.map_nil, List.nil_append, List.append_nil, List.getElem?_cons_zero, List.getElem?_cons_succ, List.getElem?_toArray, Option.map_some, Option.bind_some, decide_true, decide_false, beq_false, beq_true, Bool.not_true, Bool.not_false, Bool.false_eq_true, pickA, cond_true, cond_false]
  refine .seq (.seq (.region [] (by decide) ?_))
  generalize h1 : (((a.length : Int)) != (b.length : Int)) = b1
  cases b1 with
  | true =>
    simp only [EOps, EDf, isRd, gdA, callOf, isPanic, nextOf, altA, evalOp, St.ev, Av.get, St.put, argT, ofV, thenQ, Nat.reduceEqDiff, ↓reduceIte, Bool.and_self, List.map_cons, List.map_nil, List.nil_append, List.append_nil, List.getElem?_cons_zero, List.getElem?_cons_succ, List.getElem?_toArray, Option.map_some, Option.bind_some, decide_true, decide_false, beq_false, beq_true, Bool.not_true, Bool.not_false, Bool.false_eq_true, pickA, cond_true, cond_false, ln23, b_neq, h1]
    refine .cond (t := true) rfl (.seq (.region [] (by decide) ?_))
    simp only [EOps, EDf, isRd, gdA, callOf, isPanic, nextOf, altA, evalOp, St.ev, Av.get, St.put, argT, ofV, thenQ, Nat.reduceEqDiff, ↓reduceIte, Bool.and_self, List.map_cons, List.map_nil, List.nil_append, List.append_nil, List.getElem?_cons_zero, List.getElem?_cons_succ, List.getElem?_toArray, Option.map_some, Option.bind_some, decide_true, decide_false, beq_false, beq_true, Bool.not_true, Bool.not_false, Bool.false_eq_true, pickA, cond_true, cond_false]
    have hne : a.length ≠ b.length := by
      intro e; rw [e] at h1; simp at h1
    have : sameE a b = false := by
      unfold sameE
      rw [decide_eq_false_iff_not]
      exact fun h => hne (nv_len h)
    rw [this]
    exact .ret ⟨_, rfl, _, rfl, .refl _⟩
  | false =>
    have hlen : a.length = b.length := by have : (a.length : Int) = b.length := by simpa using h1
                                          omega
    simp only [EOps, EDf, isRd, gdA, callOf, isPanic, nextOf, altA, evalOp, St.ev, Av.get, St.put, argT, ofV, thenQ, Nat.reduceEqDiff, ↓reduceIte, Bool.and_self, List.map_cons, List.map_nil, List.nil_append, List.append_nil, List.getElem?_cons_zero, List.getElem?_cons_succ, List.getElem?_toArray, Option.map_some, Option.bind_some, decide_true, decide_false, beq_false, beq_true, Bool.not_true, Bool.not_false, Bool.false_eq_true, pickA, cond_true, cond_false, ln23, b_neq, h1]
    refine .cond (t := false) rfl (.skip ?_)
    refine .seq (.seq (.region [] (by decide) ?_))
    simp only [EOps, EDf, isRd, gdA, callOf, isPanic, nextOf, altA, evalOp, St.ev, Av.get, St.put, argT, ofV, thenQ, Nat.reduceEqDiff, ↓reduceIte, Bool.and_self, List.map_cons, List.map_nil, List.nil_append, List.append_nil, List.getElem?_cons_zero, List.getElem?_cons_succ, List.getElem?_toArray, Option.map_some, Option.bind_some, decide_true, decide_false, beq_false, beq_true, Bool.not_true, Bool.not_false, Bool.false_eq_true, pickA, cond_true, cond_false]
    refine .block ?_
    refine .forR 5 14 15 16 0 a.length (by simp only [maxLen']; omega) (Nat.zero_le _) rfl rfl rfl rfl rfl rfl rfl rfl rfl (by decide)
      (fun i => [(0, .vsl 3 x (a.map encE)), (1, .vsl 3 y (b.map encE))]) (fun _ => rfl) (fun _ => []) (fun _ => Nat.zero_le _) (fun i => decide ((a.drop i).map nv = (b.drop i).map nv) = sameE a b) rfl rfl ?_ ?_ trivial ?_ ?_ ?_
    · simp only [subT, Av.get, Nat.reduceEqDiff, ↓reduceIte, Le_rfl, nat0, nat1, and_self]
    · intro i _
      simp only [hltT, AV.hlt, encE_hlts, Bool.true_and, Bool.and_true]
    · intro i hi hok
      refine .region [] (by decide) ?_
      simp only [EOps, EDf, isRd, gdA, callOf, isPanic, nextOf, altA, evalOp, St.ev, Av.get, St.put, argT, ofV, thenQ, Nat.reduceEqDiff, ↓reduceIte, Bool.and_self, List.map_cons, List.map_nil, List.nil_append, List.append_nil, List.getElem?_cons_zero, List.getElem?_cons_succ, List.getElem?_toArray, Option.map_some, Option.bind_some, decide_true, decide_false, beq_false, beq_true, Bool.not_true, Bool.not_false, Bool.false_eq_true, pickA, cond_true, cond_false, ln23, b_lss, dlt]
      refine ⟨trivial, ?_, trivial, trivial⟩
      simp only [subT, Av.get, Nat.reduceEqDiff, ↓reduceIte, Le_rfl, nat0, nat1, and_self]
    · intro i hi hok
      obtain ⟨u, hu, hdu⟩ := drop_at hi
      obtain ⟨v, hv, hdv⟩ := drop_at (l := b) (i := i) (by omega)
      rw [hdu, hdv, List.map_cons, List.map_cons] at hok
      have hsplit : decide (nv u :: (a.drop (i + 1)).map nv = nv v :: (b.drop (i + 1)).map nv) = ((u.1 == v.1) && (decide (u.2.2 = v.2.2) && decide ((a.drop (i + 1)).map nv = (b.drop (i + 1)).map nv))) := by
        rw [Bool.eq_iff_iff]
        simp [nv, and_assoc]
      rw [hsplit] at hok
      generalize hb2 : (u.1 == v.1) = b2 at hok
      refine .block ?_
      cases b2 with
      | false =>
        refine .seq (.drawf [] mixed (by kernel_rfl) (by kernel_rfl) (by kernel_rfl) ?_)
        simp only [EOps, EDf, isRd, gdA, callOf, isPanic, nextOf, altA, evalOp, St.ev, Av.get, St.put, argT, ofV, thenQ, Nat.reduceEqDiff, ↓reduceIte, Bool.and_self, List.map_cons, List.map_nil, List.nil_append, List.append_nil, List.getElem?_cons_zero, List.getElem?_cons_succ, List.getElem?_toArray, Option.map_some, Option.bind_some, decide_true, decide_false, beq_false, beq_true, Bool.not_true, Bool.not_false, Bool.false_eq_true, pickA, cond_true, cond_false, ia23 _ _ _ _ hu, ia23 _ _ _ _ hv, faE0, ldE0, s_neq, hb2]
        refine .cond (t := true) rfl (.seq (.region [] (by decide) ?_))
        simp only [EOps, EDf, isRd, gdA, callOf, isPanic, nextOf, altA, evalOp, St.ev, Av.get, St.put, argT, ofV, thenQ, Nat.reduceEqDiff, ↓reduceIte, Bool.and_self, List.map_cons, List.map_nil, List.nil_append, List.append_nil, List.getElem?_cons_zero, List.getElem?_cons_succ, List.getElem?_toArray, Option.map_some, Option.bind_some, decide_true, decide_false, beq_false, beq_true, Bool.not_true, Bool.not_false, Bool.false_eq_true, pickA, cond_true, cond_false]
        rw [← hok]
        exact .ret ⟨_, rfl, _, rfl, .refl _⟩
      | true =>
        have p1 := texts23 u.2.1 v.2.1 u.2.2 v.2.2
        have hl1 : ∀ H o, lend H [.vsl 0 u.2.1 (u.2.2.map .str), .vsl 0 v.2.1 (v.2.2.map .str)] o = some [.vsl 0 u.2.1 (u.2.2.map .str), .vsl 0 v.2.1 (v.2.2.map .str)] := by intro H o; simp [lend, AV.hfs, AV.hf, strs_hfs]
        generalize decide (u.2.2 = v.2.2) = b3 at p1 hok
        refine .seq (.drawf [.pure (.ret (.bool b3))] mixed (by kernel_rfl) (by kernel_rfl) (by kernel_rfl) ?_)
        cases b3 <;> simp only [EOps, EDf, isRd, gdA, callOf, isPanic, nextOf, altA, evalOp, St.ev, Av.get, St.put, argT, ofV, thenQ, Nat.reduceEqDiff, ↓reduceIte, Bool.and_self, List.map_cons, List.map_nil, List.nil_append, List.append_nil, List.getElem?_cons_zero, List.getElem?_cons_succ, List.getElem?_toArray, Option.map_some, Option.bind_some, decide_true, decide_false, beq_false, beq_true, Bool.not_true, Bool.not_false, Bool.false_eq_true, pickA, cond_true, cond_false, ia23 _ _ _ _ hu, ia23 _ _ _ _ hv, faE0, ldE0, faE1, ldE1, s_neq, hb2, hl1, u_not]
        · refine ⟨p1, .cond (t := true) rfl (.seq (.region [] (by decide) ?_))⟩
          simp only [EOps, EDf, isRd, gdA, callOf, isPanic, nextOf, altA, evalOp, St.ev, Av.get, St.put, argT, ofV, thenQ, Nat.reduceEqDiff, ↓reduceIte, Bool.and_self, List.map_cons, List.map_nil, List.nil_append, List.append_nil, List.getElem?_cons_zero, List.getElem?_cons_succ, List.getElem?_toArray, Option.map_some, Option.bind_some, decide_true, decide_false, beq_false, beq_true, Bool.not_true, Bool.not_false, Bool.false_eq_true, pickA, cond_true, cond_false]
          rw [← hok]
          exact .ret ⟨_, rfl, _, rfl, .refl _⟩
        · refine ⟨p1, .cond (t := false) rfl (.skip ?_)⟩
          refine ⟨by rw [← hok]; rfl, ?_, trivial, rfl⟩
          simp only [subT, Av.get, Nat.reduceEqDiff, ↓reduceIte, Le_rfl, nat0, nat1, and_self]
    · intro hok
      simp only [EOps, EDf, isRd, gdA, callOf, isPanic, nextOf, altA, evalOp, St.ev, Av.get, St.put, argT, ofV, thenQ, Nat.reduceEqDiff, ↓reduceIte, Bool.and_self, List.map_cons, List.map_nil, List.nil_append, List.append_nil, List.getElem?_cons_zero, List.getElem?_cons_succ, List.getElem?_toArray, Option.map_some, Option.bind_some, decide_true, decide_false, beq_false, beq_true, Bool.not_true, Bool.not_false, Bool.false_eq_true, pickA, cond_true, cond_false, blockQ]
      refine .seq (.region [] (by decide) ?_)
      simp only [EOps, EDf, isRd, gdA, callOf, isPanic, nextOf, altA, evalOp, St.ev, Av.get, St.put, argT, ofV, thenQ, Nat.reduceEqDiff, ↓reduceIte, Bool.and_self, List.map_cons, List.map_nil, List.nil_append, List.append_nil, List.getElem?_cons_zero, List.getElem?_cons_succ, List.getElem?_toArray, Option.map_some, Option.bind_some, decide_true, decide_false, beq_false, beq_true, Bool.not_true, Bool.not_false, Bool.false_eq_true, pickA, cond_true, cond_false]
      rw [List.drop_length, hlen, List.drop_length] at hok
      rw [← hok]
      exact .ret ⟨_, rfl, _, rfl, .refl _⟩

def refE : List Atr := [([111, 98, 106, 101, 99, 116, 99, 108, 97, 115, 115], true, [[105, 110, 101, 116, 111, 114, 103, 112, 101, 114, 115, 111, 110]])]
def newR (c : List Val) : Out := if mayR c = true then .ret (.tup [.vsl 3 false ((layN refE c true 8).map encE), .int .i64 0]) else .ret (.tup [.vsl 3 false [], .int .i64 2])

/-! What the new entry says. -/
theorem getC_fld (e : List Atr) : ∀ i, i < 8 → fld (getC e) i = getE e (nameAt i) := by
  intro i hi
  obtain ⟨n, h1, h2⟩ := getC_at e i hi
  have hn : nameAt i = n := by simp [nameAt, List.getD, h1]
  have : fld (getC e) i = getE e (small n) := by simp [fld, List.getD, h2]
  rw [this, ← hn, small_name i hi]
theorem fld_set (c : List Val) (hc : c.length = 8) (v : Val) (i : Nat) : fld (c.set 2 v) i = if i = 2 then v.2 else fld c i := by
  unfold fld
  rw [List.getD_eq_getElem?_getD, List.getD_eq_getElem?_getD, List.getElem?_set]
  by_cases h : i = 2
  · subst h; simp [hc]
  · rw [if_neg (fun e => h e.symm), if_neg h]
theorem fld_dash (c : List Val) (hc : c.length = 8) (i : Nat) : fld (dashC c) i = if i = 2 ∧ fld c 2 = [[45]] then [] else fld c i := by
  unfold dashC
  by_cases h : fld c 2 = [[45]]
  · rw [if_pos h, fld_set c hc]
    by_cases h2 : i = 2 <;> simp [h2, h]
  · rw [if_neg h, if_neg (fun e => h e.2)]
theorem check_fld {a b : List Val} (h : ∀ i, i < 8 → fld a i = fld b i) : checkC a = checkC b := by
  unfold checkC allFields
  rw [h 0 (by decide)]
  congr 1
  rw [Bool.eq_iff_iff, List.all_eq_true, List.all_eq_true]
  constructor <;> intro g i hi
  · rw [← h i (List.mem_range.1 hi)]; exact g i hi
  · rw [h i (List.mem_range.1 hi)]; exact g i hi
theorem same_fld {a b : List Val} (h : ∀ i, i < 8 → fld a i = fld b i) : sameC a b = true := by
  unfold sameC diffs
  have : (List.range 8).filter (fun i => !(decide (fld a i = fld b i))) = [] := by
    rw [List.filter_eq_nil_iff]
    intro i hi
    simp [h i (List.mem_range.1 hi)]
  rw [this]; rfl
theorem want_fld (e : List Atr) (c : List Val) (h2 : fld c 2 ≠ [[45]]) : ∀ i, i < 8 → (if i = 2 ∧ (wantC e c 2).2 = [[45]] then [] else (wantC e c i).2) = fld c i := by
  intro i hi
  by_cases hi2 : i = 2
  · subst hi2
    unfold wantC
    split
    · rename_i h
      simp only [Bool.and_eq_true] at h
      have h0 : fld c 2 = [] := by simpa using h.1.2
      simp [h0]
    · simp [h2]
  · have : wantC e c i = (false, fld c i) := by
      unfold wantC
      rw [if_neg]
      intro h
      simp only [Bool.and_eq_true] at h
      have h1 := h.1.1
      simp at h1; omega
    rw [this]; simp [hi2]
theorem attr_of {a : Atr} (h1 : nameB a.1 = true) (h2 : small a.1 = a.1) (h3 : a.2.2 ≠ []) (h4 : a.2.2.length ≤ 16) (h5 : a.2.2.all valueB = true) (h6 : Up a.2.2) : attrB a = true := by
  have h7 : 0 < a.2.2.length := List.length_pos_iff.2 h3
  unfold attrB
  simp only [Bool.and_eq_true, Bool.not_eq_true', decide_eq_false_iff_not, beq_iff_eq]
  exact ⟨⟨⟨⟨h1, h2⟩, ⟨by omega, by omega⟩⟩, h5⟩, rises_of h6⟩
theorem of_attr {a b : Atr} (h : attrB b = true) (h1 : a.1 = b.1) (h2 : a.2.2 = b.2.2) : attrB a = true := by
  unfold attrB at h ⊢
  rw [h1, h2]; exact h
/-- The entry that the changes make may be. -/
theorem final_check {e : List Atr} (he : checkE e = true) {c : List Val} (hc : checkC c = true) (hs : longE (doF (e.map clr) (modsC e c)) = false) : checkE (doF (e.map clr) (modsC e c)) = true := by
  obtain ⟨a1, a2, a3⟩ := final_get (check_ent he) (c := c) fun i hi => (want_facts hc hi).2.2
  unfold checkE
  simp only [Bool.and_eq_true]
  refine ⟨List.all_eq_true.2 fun a ha => ?_, by unfold longE at hs; rw [hs]; rfl, rises_of a1.up⟩
  have hg := a1.get ha
  have hne := a1.ne a ha
  cases ht : toldN a.1 8 with
  | true =>
    obtain ⟨i, hi, hn⟩ := (told_iff _).1 ht
    rw [hn, a2 i hi] at hg
    obtain ⟨w1, w2, w3⟩ := want_facts (e := e) hc hi
    obtain ⟨n1, n2⟩ := nameAt_good i hi
    rw [hg] at w1 w2 w3
    exact attr_of (by rw [hn]; exact n2) (by rw [hn]; exact n1) hne (by omega) w2 w3
  | false =>
    rw [a3 _ ht] at hg
    rcases getE_cases e a.1 with h0 | ⟨b, hb, h1, h2⟩
    · rw [h0] at hg; exact (hne hg.symm).elim
    · unfold checkE at he
      simp only [Bool.and_eq_true] at he
      exact of_attr (List.all_eq_true.1 he.1 b hb) h1.symm (by rw [← hg, h2])
/-- What went into an entry is what it says. -/
theorem final_of {e : List Atr} (he : checkE e = true) {c : List Val} (hm : mayC c = true) (hs : longE (doF (e.map clr) (modsC e c)) = false) :
    (ofC (doF (e.map clr) (modsC e c))).2 = 0 ∧ sameC (ofC (doF (e.map clr) (modsC e c))).1 c = true := by
  unfold mayC at hm
  simp only [Bool.and_eq_true, Bool.not_eq_true', decide_eq_false_iff_not] at hm
  obtain ⟨hc, h2⟩ := hm
  obtain ⟨a1, a2, a3⟩ := final_get (check_ent he) (c := c) fun i hi => (want_facts hc hi).2.2
  have hck := final_check he hc hs
  generalize doF (e.map clr) (modsC e c) = o at *
  have hf : ∀ i, i < 8 → fld (dashC (getC o)) i = fld c i := by
    intro i hi
    rw [fld_dash _ (getC_len o), getC_fld o 2 (by decide), getC_fld o i hi, a2 2 (by decide), a2 i hi]
    exact want_fld e c h2 i hi
  unfold ofC
  rw [if_pos hck, if_pos (by rw [check_fld hf]; exact hc)]
  exact ⟨rfl, same_fld hf⟩
end Go.Proofs.YtmeijkidjifagaaGreat
namespace Go.Proofs.YtmeijkidjifagaaGreat
set_option linter.unusedVariables false
set_option linter.unusedSimpArgs false
open Go Go.Av Go.ChangeShapes Go.WideShapes Go.ChangeAt Go.RowKit

section
variable {H : Type} {enc : TypeId × Value → H} {w : World} {base : Nat} {sp : Nat → Bool} {held : Bool}
theorem vrs_cells {F : Nat → Nat → Prop} {w : World} {μ : Nat → Option Av.Loc} : ∀ {n : Nat} {cs : List Value}, cs.length = n → (∀ i (hi : i < cs.length), ∃ v : Val, VR F w μ (encV v) cs[i]) → ∃ c : List Val, c.length = n ∧ VRs F w μ (c.map encV) cs
  | 0, [], _, _ => ⟨[], rfl, .nil⟩
  | 0, _ :: _, h, _ => by simp at h
  | n + 1, [], h, _ => by simp at h
  | n + 1, x :: cs, h, hv => by
    obtain ⟨v, h0⟩ := hv 0 (by simp)
    obtain ⟨c, h1, h2⟩ := vrs_cells (n := n) (cs := cs) (by simpa using h) fun i hi => hv (i + 1) (by simpa using hi)
    exact ⟨v :: c, by simp [h1], .cons _ _ _ _ h0 h2⟩

set_option maxRecDepth 100000 in
theorem open_contact {v : Value} {d : DataW H} {ps : List MemPlace} {r : Reach} {b0 : Nat} (hval : Value.okWide Tryz.prog w r b0 28 v) (hd : DataW.Trod enc Tryz.prog w base sp held 28 v d ps) :
    ∃ c : List Val, c.length = 8 ∧ VR (allF w) w noμ (.agg (c.map encV)) v := by
  have hco : Tryz.prog.cellsOf 28 = 8 := by kernel_rfl
  simp only [Value.okWide, Tryz.underlying28] at hval
  obtain ⟨cs, rfl, h2, _⟩ := hval
  rw [hco] at h2
  obtain ⟨fuel, hf⟩ := hd
  obtain ⟨xs, m, _, _, _, hl, hel⟩ := DataW.trod_array Tryz.underlying28 hf
  have hcl : (Value.agg cs).cells.toList = cs.toList := rfl
  have h2' : cs.toList.length = 8 := by simpa using h2
  obtain ⟨c, h3, h4⟩ := vrs_cells (F := allF w) (w := w) (μ := noμ) (n := 8) (cs := cs.toList) h2' fun i hi => by
    have h5 := hel i (by omega)
    rw [co26, Nat.mul_one, hcl, List.getElem?_eq_getElem (by omega : i < xs.length)] at h5
    have h6 : (cs.toList.drop i).take 1 = [cs.toList[i]] := by
      rw [List.drop_eq_getElem_cons hi]; rfl
    rw [h6] at h5
    obtain ⟨u, ⟨l, rfl⟩, hu⟩ := opens26 (enc := enc) m _ _ h5
    refine ⟨(false, l), ?_⟩
    have hu' : VRs (allF w) w noμ [.vsl 0 false (l.map .str)] [cs.toList[i]] := hu
    cases hu' with
    | cons _ _ _ _ g _ => exact g
  exact ⟨c, h3, .agg _ _ h4⟩
end
end Go.Proofs.YtmeijkidjifagaaGreat
