/- append, len, conversions, make, literals of slices and structs, over abstract values: under the conditions that the evaluator asks; a text without a program. -/
import Derived.Test.YtmeijkidjifagaaAvF
namespace Go.Av
open Go.RowKit (Below)
set_option linter.unusedVariables false

section
variable {P : Program} {w0 : World} {F0 F : Nat → Nat → Prop} {μ : Nat → Option Loc} {H : List OB} {w : World}

/-- What append asks of an element's type: cells, width, bytes. -/
def apT (P : Program) (e : TypeId) : Option (Nat × Nat × Nat) :=
  match P.info? e, esA P e, zeroA P e with
  | some i, some wd, some z => if i.size = esz wd ∧ z.cells.length = i.size ∧ 1 ≤ i.size ∧ 1 ≤ i.bytes then some (i.size, wd, i.bytes) else none
  | _, _, _ => none

theorem nextcap_le (need cap : Nat) (h : cap < need) : Builtin.nextslicecap need cap ≤ 2 * need := by
  unfold Builtin.nextslicecap
  split
  · omega
  · split
    · omega
    · have key : ∀ r c, c < need + need → Builtin.growBy need r c ≤ 2 * need := by
        intro r
        induction r with
        | zero => intro c hc; simp [Builtin.growBy]; omega
        | succ r ih =>
          intro c hc
          simp only [Builtin.growBy]
          split
          · omega
          · exact ih _ (by omega)
      exact key 4 cap (by omega)

theorem cut_cap (need cap : Nat) (e : TypeId) (t : Nat) : need ≤ (Question.appendCap need cap e).cut t := Nat.le_add_right _ _

theorem run_first {n m cap : Nat} {A : Option Addr} {Vs : List Value} (hl : Vs.length = m * n) (h : m = 0 ∨ ∃ b o, A = some ⟨b, o, none⟩ ∧ ∀ j V, Vs[j]? = some V → w.cell? ⟨b, o + j, none⟩ = some V) :
    (Builtin.firstCells n m (.slice A m cap)).run P w = .ok Vs.toArray w := by
  cases A with
  | none =>
    rcases h with h | ⟨b, o, h, _⟩
    · subst h; have : Vs = [] := by simpa using hl
      subst this; simp [Builtin.firstCells]
    · cases h
  | some a =>
    simp only [Builtin.firstCells]
    rw [← hl]
    rcases h with h | ⟨b, o, h, hc⟩
    · subst h; have : Vs = [] := by simpa using hl
      subst this; simp [loadCells, loadCellsFrom]
    · cases h
      exact run_loadCells_list w _ Vs (fun j V hj => by rw [add_plain]; exact hc j V hj)

structure ApT (P : Program) (e n : Nat) (wd bytes : Nat) (z : AV) : Prop where
  info : ∃ i, P.info? e = some i ∧ i.size = n ∧ i.bytes = bytes
  es : esA P e = some wd
  nwd : n = esz wd
  zero : zeroA P e = some z
  zlen : z.cells.length = n
  n1 : 1 ≤ n
  b1 : 1 ≤ bytes

theorem apT_get {e n wd bytes : Nat} (h : apT P e = some (n, wd, bytes)) : ∃ z, ApT P e n wd bytes z := by
  unfold apT at h
  split at h
  · rename_i i wd' z hi he hz
    split at h
    · rename_i hh
      simp only [Option.some.injEq, Prod.mk.injEq] at h
      obtain ⟨h1, h2, h3⟩ := h
      subst h1 h2 h3
      exact ⟨z, ⟨⟨i, hi, rfl, rfl⟩, he, hh.1, hz, hh.2.1, hh.2.2.1, hh.2.2.2⟩⟩
    · cases h
  · cases h

theorem ApT.tsz {e n wd bytes : Nat} {z : AV} (h : ApT P e n wd bytes z) : tsz P e = some n := by
  obtain ⟨i, h1, h2, h3⟩ := h.info
  simp [Av.tsz, h1, h2]

/-- append within the room that is there. -/
theorem run_append_in {sT xT rT e n wd bytes : Nat} {z : AV} (ht : ApT P e n wd bytes z) (hs : P.underlying sT = some (.slice e)) {e' : TypeId} (hx : P.underlying xT = some (.slice e'))
    {A B : Option Addr} {sl sc m cap : Nat} {Vs : List Value} (hroom : sl + m ≤ sc) (hl : Vs.length = m * n)
    (hv : m = 0 ∨ ∃ b o, B = some ⟨b, o, none⟩ ∧ ∀ j V, Vs[j]? = some V → w.cell? ⟨b, o + j, none⟩ = some V)
    {w' : World} (hst : match A with | some a => (storeCells (a.add (sl * n)) Vs).run P w = .ok () w' | none => w' = w) :
    (Builtin.append_ #[sT, xT] rT #[.slice A sl sc, .slice B m cap]).run P w = .ok (.slice A (sl + m) sc) w' := by
  have hf := run_first (P := P) (cap := cap) hl hv
  cases A with
  | none =>
    simp only at hst; subst hst
    simp [Builtin.append_, run_underlying hs, run_underlying hx, run_sizeOf' ht.tsz, Builtin.lenOf, hroom, hf]
  | some a =>
    simp only at hst
    simp [Builtin.append_, run_underlying hs, run_underlying hx, run_sizeOf' ht.tsz, Builtin.lenOf, hroom, hf, hst]

/-- append into a new array. -/
theorem run_append_new {sT xT rT e n wd bytes : Nat} {z : AV} (ht : ApT P e n wd bytes z) (hs : P.underlying sT = some (.slice e)) {e' : TypeId} (hx : P.underlying xT = some (.slice e'))
    {A B : Option Addr} {sl sc m cap : Nat} {Os Vs : List Value} (hroom : sc < sl + m) (hlo : Os.length = sl * n) (hl : Vs.length = m * n)
    (ho : sl = 0 ∨ ∃ b o, A = some ⟨b, o, none⟩ ∧ ∀ j V, Os[j]? = some V → w.cell? ⟨b, o + j, none⟩ = some V)
    (hv : m = 0 ∨ ∃ b o, B = some ⟨b, o, none⟩ ∧ ∀ j V, Vs[j]? = some V → w.cell? ⟨b, o + j, none⟩ = some V)
    (hbig : (sl + m) * bytes ≤ 2 ^ 47) :
    ∃ (c : Array Value) (nc : Nat), sl + m ≤ nc ∧ c.size = nc * n ∧ (∀ (j : Nat) (V : Value), (Os ++ Vs)[j]? = some V → c[j]? = some V) ∧
    (Builtin.append_ #[sT, xT] rT #[.slice A sl sc, .slice B m cap]).run P w =
      .ok (.slice (some ⟨w.heap.size, 0, none⟩) (sl + m) nc) (w.drew.alloc (.cells c e)) := by
  have h1 := cut_cap (sl + m) sc e (w.tape w.drawn (.appendCap (sl + m) sc e))
  generalize hnc : (Question.appendCap (sl + m) sc e).cut (w.tape w.drawn (.appendCap (sl + m) sc e)) = nc at h1
  obtain ⟨Z, h3, _, h4⟩ := zero_run (P := P) (F := fun _ _ => False) (μ := fun _ => none) ht.zero w.drew
  obtain ⟨i, hi, hi1, hi2⟩ := ht.info
  have hzs : Z.cells.size = n := by rw [← Array.length_toList, VRs.len h4]; exact ht.zlen
  have hfo := run_first (P := P) (w := w.drew) (cap := sc) hlo (by
    rcases ho with h | ⟨b, o, h5, h6⟩
    · exact .inl h
    · exact .inr ⟨b, o, h5, fun j V hj => h6 j V hj⟩)
  have hfv := run_first (P := P) (w := w.drew) (cap := cap) hl (by
    rcases hv with h | ⟨b, o, h5, h6⟩
    · exact .inl h
    · exact .inr ⟨b, o, h5, fun j V hj => h6 j V hj⟩)
  refine ⟨Os.toArray ++ (Vs.toArray ++ Builtin.zeroCells Z.cells (nc - (sl + m))), nc, h1, ?_, ?_, ?_⟩
  · simp only [Array.size_append, List.size_toArray, hlo, hl, Builtin.zeroCells, Array.size_map, Array.size_range, hzs]
    have : nc = sl + m + (nc - (sl + m)) := by omega
    rw [← Nat.add_assoc, ← Nat.add_mul, ← Nat.add_mul, ← this]
  · intro j V hj
    rw [← Array.append_assoc, Array.getElem?_append_left (by
      have := (List.getElem?_eq_some_iff.1 hj).1
      simp at this ⊢; exact this)]
    rw [List.append_toArray, List.getElem?_toArray]
    exact hj
  · have hcap : ¬ Builtin.nextslicecap (sl + m) sc * bytes > 2 ^ 48 := by
      have := nextcap_le (sl + m) sc hroom
      have h9 := Nat.mul_le_mul_right bytes this
      rw [Nat.mul_assoc] at h9
      omega
    have hcap' : ¬ 281474976710656 < Builtin.nextslicecap (sl + m) sc * bytes := by simpa using hcap
    have hb := ht.b1
    have hb0 : ¬ bytes = 0 := by omega
    have hnroom : ¬ sl + m ≤ sc := by omega
    have hforced : (Question.appendCap (sl + m) sc e).forced = false := rfl
    simp [Builtin.append_, run_underlying hs, run_underlying hx, run_sizeOf' ht.tsz, Builtin.lenOf, hnroom, run_typeInfo hi, hi2, hb0, hcap', hforced, hnc, hfo, hfv, h3, newRow]

/-! ### append over states -/

theorem VRm.append {xs ys : List AV} {b o : Nat} (h : VRm F w μ xs b o) (k : VRm F w μ ys b (o + xs.length)) : VRm F w μ (xs ++ ys) b o := by
  induction xs generalizing o with
  | nil => simpa using k
  | cons x xs ih =>
    cases h with
    | cons _ V _ _ _ hF hc hv t =>
      refine .cons x V _ b o hF hc hv (ih t ?_)
      rw [List.length_cons] at k
      rw [show o + 1 + xs.length = o + (xs.length + 1) from by omega]; exact k

theorem VRe.flat {es : List AV} {n b o : Nat} (h : VRe F w μ es n b o) : VRm F w μ (es.flatMap AV.cells) b o ∧ (es.flatMap AV.cells).length = es.length * n := by
  induction es generalizing o with
  | nil => exact ⟨.nil _ _, by simp⟩
  | cons v vs ih =>
    cases h with
    | cons _ _ _ _ _ hs h t =>
      obtain ⟨h1, h2⟩ := ih t
      refine ⟨?_, ?_⟩
      · rw [List.flatMap_cons]
        exact h.append (by rw [hs]; exact h1)
      · rw [List.flatMap_cons, List.length_append, hs, h2, List.length_cons, Nat.add_mul]; omega

/-- What is appended: how many elements, their cells. -/
def newsA (n : Nat) (x : AV) (H : List OB) : Option (Nat × List AV) :=
  match x with
  | .vsl wd _ es => if n = esz wd then some (es.length, es.flatMap AV.cells) else if es.isEmpty then some (0, []) else none
  | .sl id off len wd => match H[id]? with
    | some (.cells cs _) => if n = esz wd ∧ off + len * n ≤ cs.length then some (len, (cs.drop off).take (len * n)) else none
    | _ => none
  | _ => none

theorem newsA_ok (s : Sim w0 F0 F μ H w) {n m : Nat} {x : AV} {X : Value} {nc : List AV} (hx : VR F w μ x X) (h : newsA n x H = some (m, nc)) :
    ∃ B cap Vs, X = .slice B m cap ∧ VRs F w μ nc Vs ∧ Vs.length = m * n ∧ (m = 0 ∨ ∃ b o, B = some ⟨b, o, none⟩ ∧ ∀ (j : Nat) (V : Value), Vs[j]? = some V → w.cell? ⟨b, o + j, none⟩ = some V) := by
  unfold newsA at h
  split at h
  · rename_i wd ex es
    cases hx with
    | vsl _ _ _ A cap hxx hl hb ha =>
      split at h
      · rename_i hn
        cases h
        cases ha with
        | nil _ A => exact ⟨A, cap, [], rfl, .nil, by simp, .inl rfl⟩
        | «at» _ _ b o he =>
          rw [← hn] at he
          obtain ⟨h1, h2⟩ := he.flat
          obtain ⟨Vs, h3, h4⟩ := cells_read (F := F) (w := w) (μ := μ) (g := fun i => w.cell? ⟨b, o + i, none⟩) (fun i v hi => (h1.get hi).2)
          exact ⟨_, cap, Vs, rfl, h3, by rw [VRs.len h3, h2], .inr ⟨b, o, rfl, h4⟩⟩
      · split at h
        · rename_i hemp
          cases h
          have : es = [] := by simpa using hemp
          subst this
          exact ⟨A, cap, [], rfl, .nil, by simp, .inl rfl⟩
        · cases h
  · rename_i id off len wd
    split at h
    · rename_i cs opn hid
      split at h
      · rename_i hn
        cases h
        cases hx with
        | sl _ _ _ _ cap L hμ hc hl hb =>
          cases s.obs id _ hid with
          | cells _ _ L' c el lo hi hμ' hB hw hcap hlen hfix hun hcs hF =>
            rw [hμ] at hμ'; cases hμ'
            obtain ⟨Vs, h3, h4⟩ := cells_read (F := F) (w := w) (μ := μ) (cs := (cs.drop off).take (m * n)) (g := fun i => w.cell? ⟨L.block, L.off + off + i, none⟩) (fun i v hiv => by
              rw [List.getElem?_take] at hiv
              split at hiv
              · rw [List.getElem?_drop] at hiv
                obtain ⟨V, h5, h6⟩ := hcs _ v hiv
                exact ⟨V, by rw [cell_eq w _ _ c el (lo, hi) hw, show L.off + off + i = L.off + (off + i) from by omega]; exact h5, h6⟩
              · cases hiv)
            exact ⟨_, cap, Vs, rfl, h3, by rw [VRs.len h3]; simp; omega, .inr ⟨_, _, rfl, h4⟩⟩
      · cases h
    · cases h
  · cases h

/-- A block with room behind it grows. -/
theorem Sim.extend (s : Sim w0 F0 F μ H w) {id : Nat} {cs vs : List AV} {Vs : List Value} (hid : H[id]? = some (.cells cs true)) (hvs : VRs F w μ vs Vs) (hc : vs.all AV.isC = true) {L : Loc} (hμ : μ id = some L)
    (hle : cs.length + vs.length ≤ L.cap) :
    ∃ w', (storeCells ⟨L.block, L.off + cs.length, none⟩ Vs).run P w = .ok () w' ∧ Ext F w μ F w' μ ∧ Sim w0 F0 F μ (H.set id (.cells (cs ++ vs) true)) w' := by
  have hob := s.obs id _ hid
  cases hob with
  | cells _ _ L' c el lo hi hμ' hB hw hcap hlen hfix hun hcs hF =>
    rw [hμ] at hμ'; cases hμ'
    have hl := VRs.len hvs
    have hsz : L.off + cs.length + Vs.length ≤ c.size := by omega
    have hr := run_storeCells (P := P) L.block (L.off + cs.length) el (lo, hi) Vs 0 w c hw (VRs.all_oneC hvs hc) (by omega) (fun k h1 h2 => hun k (by omega) (by omega))
    simp only [Nat.add_zero] at hr
    have hw' := s.write id _ (.cells (cs ++ vs) true) L hid rfl hμ (.cells (updA c (L.off + cs.length) Vs) el (lo, hi)) (fun x => by
      have hb : L.block < w.heap.size := (Array.getElem?_eq_some_iff.1 hw).1
      refine .cells _ _ L (updA c (L.off + cs.length) Vs) el lo hi hμ hB (by show (w.heap.setIfInBounds L.block _)[L.block]? = _; rw [Array.getElem?_setIfInBounds, if_pos rfl, if_pos hb]) (by rw [updA_size]; exact hcap)
        (by rw [List.length_append]; exact hle) (fun h => by cases h) hun ?_ hF
      intro i v hi
      rw [updA_get _ _ _ hsz]
      rw [List.getElem?_append] at hi
      split at hi
      · rw [if_neg (by omega)]
        obtain ⟨V, h5, h6⟩ := hcs i v hi
        exact ⟨V, h5, VR.mono x h6⟩
      · have hlt := (List.getElem?_eq_some_iff.1 hi).1
        rw [if_pos (by omega)]
        obtain ⟨V, h5, h6⟩ := VRs.get hvs hi
        exact ⟨V, by rw [show L.off + i - (L.off + cs.length) = i - cs.length from by omega]; exact h5, VR.mono x h6⟩)
    exact ⟨_, hr, hw'⟩

/-- A block under a new number, from a place on. -/
theorem Sim.move (s : Sim w0 F0 F μ H w) {id off : Nat} {cs : List AV} (hid : H[id]? = some (.cells cs true)) {L : Loc} (hμ : μ id = some L) (hoff : off ≤ cs.length) :
    ∃ μ', Ext F w μ F w μ' ∧ μ' H.length = some ⟨L.block, L.off + off, L.cap - off⟩ ∧ Sim w0 F0 F μ' (H.set id .dead ++ [.cells (cs.drop off) true]) w := by
  let L' : Loc := ⟨L.block, L.off + off, L.cap - off⟩
  let μ' : Nat → Option Loc := fun i => if i = H.length then some L' else μ i
  have hμ' : ∀ id L, μ id = some L → μ' id = some L := by
    intro id L'' h
    have := s.dom id L'' h
    show (if id = H.length then some L' else μ id) = _
    rw [if_neg (by omega)]; exact h
  have hx : Ext F w μ F w μ' := ⟨hμ', fun _ _ h => h, fun _ _ _ _ h => h, fun _ _ _ _ h => h⟩
  have hnew : μ' H.length = some L' := by show (if _ then _ else _) = _; rw [if_pos rfl]
  have hidlt : id < H.length := (List.getElem?_eq_some_iff.1 hid).1
  have live : ∀ (k : Nat) (bk : OB), (H.set id .dead ++ [.cells (cs.drop off) true])[k]? = some bk → bk.live = true → (k < H.length ∧ k ≠ id ∧ H[k]? = some bk) ∨ (k = H.length ∧ bk = .cells (cs.drop off) true) := by
    intro k bk hk lk
    rw [List.getElem?_append] at hk
    split at hk
    · rename_i hlt
      rw [List.length_set] at hlt
      rw [List.getElem?_set] at hk
      by_cases e : id = k
      · rw [if_pos e, if_pos (by omega)] at hk
        cases hk; cases lk
      · rw [if_neg e] at hk
        exact .inl ⟨hlt, by omega, hk⟩
    · rename_i hge
      rw [List.length_set] at hge hk
      rcases Nat.lt_or_ge (k - H.length) 1 with h1 | h1
      · have : k = H.length := by omega
        subst this
        simp at hk
        exact .inr ⟨rfl, hk.symm⟩
      · rw [List.getElem?_eq_none (by simp; omega)] at hk; cases hk
  have hob := s.obs id _ hid
  cases hob with
  | cells _ _ L2 c el lo hi hμ2 hB hw hcap hlen hfix hun hcs hF =>
    rw [hμ] at hμ2; cases hμ2
    refine ⟨μ', hx, hnew, ⟨s.below, s.new, s.old, s.lt, ?_, ?_, ?_⟩⟩
    · intro k bk hk
      by_cases lk : bk.live = true
      · rcases live k bk hk lk with ⟨h1, h2, h3⟩ | ⟨h1, h2⟩
        · exact (s.obs k bk h3).mono hx (fun _ _ => rfl) (fun _ _ _ h => h)
        · subst h1 h2
          refine .cells _ _ L' c el lo hi hnew hB hw (by show L.off + off + (L.cap - off) ≤ _; omega) (by rw [List.length_drop]; show _ ≤ L.cap - off; omega) (fun h => by cases h)
            (fun o h1 h2 => hun o (by have : L'.off = L.off + off := rfl; omega) (by have h3 : L'.off = L.off + off := rfl; have h4 : L'.cap = L.cap - off := rfl; omega)) ?_ hF
          intro i v hiv
          rw [List.getElem?_drop] at hiv
          obtain ⟨V, h5, h6⟩ := hcs _ v hiv
          exact ⟨V, by show c[L.off + off + i]? = _; rw [Nat.add_assoc]; exact h5, VR.mono hx h6⟩
      · exact OBR.dead_of (by simpa using lk)
    · intro i j bi bj Li Lj hi hj li lj mi mj hij
      have old : ∀ (k : Nat) (bk : OB) (Lk : Loc), k < H.length → μ' k = some Lk → μ k = some Lk := by
        intro k bk Lk hk mk
        have : μ' k = μ k := if_neg (by omega)
        rw [this] at mk; exact mk
      rcases live i bi hi li with ⟨a1, a2, a3⟩ | ⟨a1, a2⟩ <;> rcases live j bj hj lj with ⟨b1, b2, b3⟩ | ⟨b1, b2⟩
      · exact s.apart i j bi bj Li Lj a3 b3 li lj (old i bi Li a1 mi) (old j bj Lj b1 mj) hij
      · subst b1; rw [hnew] at mj; cases mj
        exact s.apart i id bi _ Li L a3 hid li rfl (old i bi Li a1 mi) hμ a2
      · subst a1; rw [hnew] at mi; cases mi
        exact fun e => s.apart j id bj _ Lj L b3 hid lj rfl (old j bj Lj b1 mj) hμ b2 e.symm
      · omega
    · intro k Lk h
      simp only [List.length_append, List.length_set, List.length_singleton]
      by_cases e : k = H.length
      · omega
      · have : μ' k = μ k := if_neg e
        rw [this] at h
        have := s.dom k Lk h
        omega

/-- A new array for an append. -/
theorem Sim.grow (s : Sim w0 F0 F μ H w) {cs : List AV} {Vs : List Value} (hvs : VRs F w μ cs Vs) (c : Array Value) (e k : Nat) (hc : ∀ (j : Nat) (V : Value), Vs[j]? = some V → c[j]? = some V) (hk : c.size = k) (hl : cs.length ≤ k) :
    ∃ μ', Ext F w μ F (w.drew.alloc (.cells c e)) μ' ∧ μ' H.length = some ⟨w.heap.size, 0, k⟩ ∧ Sim w0 F0 F μ' (H ++ [.cells cs true]) (w.drew.alloc (.cells c e)) := by
  obtain ⟨x1, s1⟩ := s.same (w' := w.drew) rfl rfl rfl rfl
  obtain ⟨μ', x2, h2, s2⟩ := s1.alloc (.cells c e) (.cells cs true) ⟨w.heap.size, 0, k⟩ rfl (fun μ' x hμ' hF => by
    refine .cells _ _ ⟨w.heap.size, 0, k⟩ c e 0 0 hμ' s.below.size (by rw [push_get]; exact if_pos rfl) (by show 0 + k ≤ _; omega) hl (fun h => by cases h) (fun o _ _ h => by omega) ?_ hF
    intro i v hi
    obtain ⟨V, h3, h4⟩ := VRs.get hvs hi
    exact ⟨V, by show c[0 + i]? = _; rw [Nat.zero_add]; exact hc i V h3, VR.mono x (VR.mono x1 h4)⟩)
  exact ⟨μ', x1.trans x2, h2, s2⟩

def evAppend (P : Program) (sT xT : TypeId) (sv x : AV) (H : List OB) : Option (AV × List OB) :=
  match P.underlying sT, P.underlying xT with
  | some (.slice e), some (.slice _) => match apT P e with
    | some (n, wd, bytes) => match newsA n x H with
      | some (m, nc) => match sv with
        | .vsl wd' true es => if m = 0 then some (.vsl wd' true es, H) else
          match newsA n (.vsl wd' true es) H with
          | some (_, oc) => if (es.length + m) * bytes ≤ 2 ^ 47 then some (.sl H.length 0 (es.length + m) wd, H ++ [.cells (oc ++ nc) true]) else none
          | none => none
        | .sl id off len wd' => match H[id]? with
          | some (.cells cs opn) => if n = esz wd' ∧ nc.all AV.isC = true ∧ (len + m) * bytes ≤ 2 ^ 47 ∧ off + len * n ≤ cs.length then
              if off + (len + m) * n ≤ cs.length then some (.sl id off (len + m) wd', H.set id (.cells (setC cs (off + len * n) nc) opn))
              else if opn = true then (if off + len * n = cs.length then some (.sl H.length 0 (len + m) wd', H.set id .dead ++ [.cells (cs.drop off ++ nc) true]) else none)
              else some (.sl H.length 0 (len + m) wd', H ++ [.cells ((cs.drop off).take (len * n) ++ nc) true])
            else none
          | _ => none
        | _ => none
      | none => none
    | none => none
  | _, _ => none

theorem evAppend_ok (s : Sim w0 F0 F μ H w) {sT xT rT : TypeId} {sv x v : AV} {S X : Value} {H' : List OB} (hs : VR F w μ sv S) (hx : VR F w μ x X) (h : evAppend P sT xT sv x H = some (v, H')) :
    DoesV P (Builtin.append_ #[sT, xT] rT #[S, X]) w0 F0 F μ w v H' := by
  unfold evAppend at h
  split at h
  case h_2 => cases h
  rename_i e e' hus hux
  split at h
  case h_2 => cases h
  rename_i n wd bytes hap
  obtain ⟨z, ht⟩ := apT_get hap
  split at h
  case h_2 => cases h
  rename_i m nc hnews
  obtain ⟨B, cap, Vs, rfl, hVs, hVl, hVc⟩ := newsA_ok s hx hnews
  have hnl : nc.length = m * n := by rw [← VRs.len hVs]; exact hVl
  have hb1 := ht.b1
  have hn1 := ht.n1
  split at h
  · rename_i wd' es
    cases hs with
    | vsl _ _ _ A sc hxx hl hb ha =>
      have hsc := hxx rfl
      subst hsc
      split at h
      · rename_i hm
        subst hm
        cases h
        have : Vs = [] := by simpa using hVl
        subst this
        refine .pure_ s (run_append_in (z := z) ht hus hux (A := A) (B := B) (sl := es.length) (sc := es.length) (m := 0) (cap := cap) (Vs := []) (Nat.le_refl _) (by simp) (.inl rfl) (w' := w) ?_) (.vsl _ _ _ _ _ (fun _ => rfl) (Nat.le_refl _) hb ha)
        cases A <;> simp [storeCells]
      · rename_i hm
        split at h
        case h_2 => cases h
        rename_i mo oc hold
        split at h
        case isFalse => cases h
        rename_i hbig
        cases h
        obtain ⟨A', cap', Os, heq, hOs, hOl, hOc⟩ := newsA_ok s (VR.vsl wd' true es A es.length (fun _ => rfl) (Nat.le_refl _) hb ha) hold
        simp only [Value.slice.injEq] at heq
        obtain ⟨rfl, h5, rfl⟩ := heq
        obtain ⟨c, nc', h6, h7, h8, h9⟩ := run_append_new (P := P) (w := w) (rT := rT) (cap := cap) ht hus hux (A := A) (B := B) (sl := es.length) (sc := es.length) (m := m) (by omega) (by rw [h5]; exact hOl) hVl
          (by rcases hOc with h | h
              · exact .inl (by omega)
              · exact .inr h) hVc hbig
        have hall := hOs.append hVs
        have hle : es.length + m ≤ 2 ^ 47 := Nat.le_trans (Nat.le_mul_of_pos_right _ hb1) hbig
        have hlen : (oc ++ nc).length = (es.length + m) * n := by rw [← VRs.len hall, List.length_append, hOl, hVl, h5, Nat.add_mul]
        obtain ⟨μ', x1, h10, s1⟩ := s.grow hall c e (nc' * n) h8 h7 (by rw [hlen]; exact Nat.mul_le_mul_right n h6)
        refine ⟨_, _, F, μ', h9, x1, s1, ?_⟩
        have hwd : esz wd = n := ht.nwd.symm
        exact .sl H.length 0 (es.length + m) wd nc' ⟨w.heap.size, 0, nc' * n⟩ h10 (by rw [hwd]; exact Nat.zero_add _) h6 (by unfold maxLen'; omega)
  · rename_i id off len wd'
    split at h
    case h_2 => cases h
    rename_i cs opn hid
    split at h
    case isFalse => cases h
    rename_i hh
    obtain ⟨hnw, hall, hbig, hfit⟩ := hh
    have hle : len + m ≤ 2 ^ 47 := Nat.le_trans (Nat.le_mul_of_pos_right _ hb1) hbig
    cases hs with
    | sl _ _ _ _ sc L hμ hc hl hb =>
      have hob := s.obs id _ hid
      cases hob with
      | cells _ _ L2 c el lo hi hμ2 hB hw hcap hlen hfix hun hcs hF =>
        rw [hμ] at hμ2; cases hμ2
        rw [← hnw] at hc
        have hmul : (len + m) * n = len * n + m * n := Nat.add_mul ..
        split at h
        · -- within what is known
          rename_i hin
          cases h
          have hroom : len + m ≤ sc := by
            have : (len + m) * n ≤ sc * n := by omega
            exact Nat.le_of_mul_le_mul_right this hn1
          obtain ⟨w', h1, h2, h3⟩ := s.store (P := P) (off := off + len * n) hid hVs hall (by omega) hμ
          have hrun := run_append_in (z := z) (rT := rT) (P := P) (w := w) ht hus hux (A := some ⟨L.block, L.off + off, none⟩) (B := B) (sl := len) (sc := sc) (m := m) (cap := cap) (Vs := Vs) hroom hVl hVc (w' := w') (by
            simp only [add_plain]
            rw [show L.off + off + len * n = L.off + (off + len * n) from by omega]; exact h1)
          exact ⟨_, w', F, μ, hrun, h2, h3, .sl id off (len + m) wd' sc L hμ (by rw [← hnw]; exact hc) hroom (by unfold maxLen'; omega)⟩
        · rename_i hout
          split at h
          · rename_i hopn
            subst hopn
            split at h
            case isFalse => cases h
            rename_i hend
            cases h
            by_cases hroom : len + m ≤ sc
            · -- in place
              have hmn : (len + m) * n ≤ sc * n := Nat.mul_le_mul_right n hroom
              obtain ⟨w', h1, h2, h3⟩ := s.extend (P := P) hid hVs hall hμ (by omega)
              have hrun := run_append_in (z := z) (rT := rT) (P := P) (w := w) ht hus hux (A := some ⟨L.block, L.off + off, none⟩) (B := B) (sl := len) (sc := sc) (m := m) (cap := cap) (Vs := Vs) hroom hVl hVc (w' := w') (by
                simp only [add_plain]
                rw [show L.off + off + len * n = L.off + cs.length from by omega]; exact h1)
              have hid' : (H.set id (.cells (cs ++ nc) true))[id]? = some (.cells (cs ++ nc) true) := by
                have := (List.getElem?_eq_some_iff.1 hid).1
                rw [List.getElem?_set, if_pos rfl, if_pos this]
              obtain ⟨μ', x2, h4, s4⟩ := h3.move (off := off) hid' hμ (by rw [List.length_append]; omega)
              rw [List.length_set] at h4
              rw [List.set_set, List.drop_append_of_le_length (by omega)] at s4
              refine ⟨_, w', F, μ', hrun, h2.trans x2, s4, ?_⟩
              have := VR.sl (F := F) (w := w') (μ := μ') H.length 0 (len + m) wd' sc ⟨L.block, L.off + off, L.cap - off⟩ h4 (by rw [← hnw]; show 0 + sc * n = L.cap - off; omega) hroom (by unfold maxLen'; omega)
              exact this
            · -- a new array
              obtain ⟨Os, hOs, hOc⟩ := cells_read (F := F) (w := w) (μ := μ) (cs := cs.drop off) (g := fun i => w.cell? ⟨L.block, L.off + off + i, none⟩) (fun i v hiv => by
                rw [List.getElem?_drop] at hiv
                obtain ⟨V, h5, h6⟩ := hcs _ v hiv
                exact ⟨V, by rw [cell_eq w _ _ c el (lo, hi) hw, show L.off + off + i = L.off + (off + i) from by omega]; exact h5, h6⟩)
              have hOl : Os.length = len * n := by rw [VRs.len hOs, List.length_drop]; omega
              obtain ⟨c', nc', h6, h7, h8, h9⟩ := run_append_new (P := P) (w := w) (rT := rT) (cap := cap) ht hus hux (A := some ⟨L.block, L.off + off, none⟩) (B := B) (sl := len) (sc := sc) (m := m) (by omega) hOl hVl
                (.inr ⟨_, _, rfl, hOc⟩) hVc hbig
              have hall2 := hOs.append hVs
              have hlen2 : (cs.drop off ++ nc).length = (len + m) * n := by rw [← VRs.len hall2, List.length_append, hOl, hVl, Nat.add_mul]
              have hkill := s.kill id
              obtain ⟨μ', x1, h10, s1⟩ := hkill.grow hall2 c' e (nc' * n) h8 h7 (by rw [hlen2]; exact Nat.mul_le_mul_right n h6)
              rw [List.length_set] at h10
              refine ⟨_, _, F, μ', h9, x1, s1, ?_⟩
              exact .sl H.length 0 (len + m) wd' nc' ⟨w.heap.size, 0, nc' * n⟩ h10 (by rw [← hnw]; exact Nat.zero_add _) h6 (by unfold maxLen'; omega)
          · rename_i hopn
            have hopn' : opn = false := by simpa using hopn
            subst hopn'
            cases h
            have hfx := hfix rfl
            have hroom : ¬ len + m ≤ sc := by
              intro hr
              have := Nat.mul_le_mul_right n hr
              omega
            obtain ⟨Os, hOs, hOc⟩ := cells_read (F := F) (w := w) (μ := μ) (cs := (cs.drop off).take (len * n)) (g := fun i => w.cell? ⟨L.block, L.off + off + i, none⟩) (fun i v hiv => by
              rw [List.getElem?_take] at hiv
              split at hiv
              · rw [List.getElem?_drop] at hiv
                obtain ⟨V, h5, h6⟩ := hcs _ v hiv
                exact ⟨V, by rw [cell_eq w _ _ c el (lo, hi) hw, show L.off + off + i = L.off + (off + i) from by omega]; exact h5, h6⟩
              · cases hiv)
            have hOl : Os.length = len * n := by rw [VRs.len hOs]; simp; omega
            obtain ⟨c', nc', h6, h7, h8, h9⟩ := run_append_new (P := P) (w := w) (rT := rT) (cap := cap) ht hus hux (A := some ⟨L.block, L.off + off, none⟩) (B := B) (sl := len) (sc := sc) (m := m) (by omega) hOl hVl
              (.inr ⟨_, _, rfl, hOc⟩) hVc hbig
            have hall2 := hOs.append hVs
            have hlen2 : ((cs.drop off).take (len * n) ++ nc).length = (len + m) * n := by rw [← VRs.len hall2, List.length_append, hOl, hVl, Nat.add_mul]
            obtain ⟨μ', x1, h10, s1⟩ := s.grow hall2 c' e (nc' * n) h8 h7 (by rw [hlen2]; exact Nat.mul_le_mul_right n h6)
            refine ⟨_, _, F, μ', h9, x1, s1, ?_⟩
            exact .sl H.length 0 (len + m) wd' nc' ⟨w.heap.size, 0, nc' * n⟩ h10 (by rw [← hnw]; exact Nat.zero_add _) h6 (by unfold maxLen'; omega)
  · cases h
end
end Go.Av
