/- Steps of memory: a draw, a new block (that is still written, or that stays), a write into a block that is still written; loads and stores as the model does them: each under the conditions that it names; a text without a program. -/
import Derived.Test.YtmeijkidjifagaaAvB
import Derived.Laws.Cells
namespace Go.Av
open Go.RowKit (Below)
set_option linter.unusedVariables false

section
variable {w0 : World} {F0 F : Nat → Nat → Prop} {μ : Nat → Option Loc} {H : List OB} {w : World}

theorem cell_eq (w : World) (b o : Nat) (c : Array Value) (el : TypeId) (fz : Nat × Nat) (h : w.heap[b]? = some (.cells c el fz)) : w.cell? ⟨b, o, none⟩ = c[o]? := by
  simp [World.cell?, h]
theorem cell_block {w : World} {b o : Nat} {V : Value} (h : w.cell? ⟨b, o, none⟩ = some V) : ∃ c el fz, w.heap[b]? = some (.cells c el fz) ∧ c[o]? = some V := by
  unfold World.cell? at h
  split at h
  · rename_i c el fz hc; exact ⟨c, el, fz, hc, by simpa using h⟩
  · cases h

/-- The same memory, whatever was drawn. -/
theorem Sim.same {w' : World} (s : Sim w0 F0 F μ H w) (hh : w'.heap = w.heap) (ho : w'.os = w.os) (ht : w'.tape = w.tape) (hu : w'.output = w.output) :
    Ext F w μ F w' μ ∧ Sim w0 F0 F μ H w' := by
  have x : Ext F w μ F w' μ := ⟨fun _ _ h => h, fun _ _ h => h, fun b o V _ h => by simpa [World.cell?, hh] using h, fun b es c _ h => by rw [hh]; exact h⟩
  refine ⟨x, ⟨⟨by rw [ho]; exact s.below.os, by rw [ht]; exact s.below.tape, by rw [hu]; exact s.below.output, by rw [hh]; exact s.below.size, fun k hk => by rw [hh]; exact s.below.block k hk⟩,
    s.new, s.old, fun b o h => by rw [hh]; exact s.lt b o h, ?_, s.apart, s.dom⟩⟩
  intro id blk h
  cases s.obs id blk h with
  | cells cs opn L c el lo hi hμ hB hw hcap hlen hfix hun hcs hF =>
    exact .cells cs opn L c el lo hi hμ hB (by rw [hh]; exact hw) hcap hlen hfix hun (fun i v hi => let ⟨V, h1, h2⟩ := hcs i v hi; ⟨V, h1, VR.mono x h2⟩) hF
  | map ks vs L es clock hμ hB hw hes hb hF => exact .map ks vs L es clock hμ hB (by rw [hh]; exact hw) (VRk.mono x hes) hb hF
  | loop T K L rec hμ hB hw h1 h2 h3 h4 h5 h6 hT hF => exact .loop T K L rec hμ hB (by rw [hh]; exact hw) h1 h2 h3 h4 h5 h6 (fun t => VR.mono x (hT t)) hF
  | dfr L hμ hB hw hF => exact .dfr L hμ hB (by rw [hh]; exact hw) hF
  | iter ks vs seen L m es clock ss hμ hB h0 hw hm hmw hb hk hss hF => exact .iter ks vs seen L m es clock ss hμ hB h0 (by rw [hh]; exact hw) hm (by rw [hh]; exact hmw) hb (VRk.mono x hk) hss hF
  | dead => exact .dead

theorem OBR.mono {B0 : Nat} {F F' : Nat → Nat → Prop} {w w' : World} {μ μ' : Nat → Option Loc} {id : Nat} {blk : OB} (x : Ext F w μ F' w' μ')
    (hh : ∀ L, μ id = some L → w'.heap[L.block]? = w.heap[L.block]?) (hF : ∀ L o, μ id = some L → F' L.block o → F L.block o) (h : OBR B0 F w μ id blk) : OBR B0 F' w' μ' id blk := by
  cases h with
  | cells cs opn L c el lo hi hμ hB hw hcap hlen hfix hun hcs hF0 =>
    exact .cells cs opn L c el lo hi (x.mu _ _ hμ) hB (by rw [hh L hμ]; exact hw) hcap hlen hfix hun (fun i v hi => let ⟨V, h1, h2⟩ := hcs i v hi; ⟨V, h1, VR.mono x h2⟩) (fun o h => hF0 o (hF L o hμ h))
  | map ks vs L es clock hμ hB hw hes hb hF0 => exact .map ks vs L es clock (x.mu _ _ hμ) hB (by rw [hh L hμ]; exact hw) (VRk.mono x hes) hb (fun o h => hF0 o (hF L o hμ h))
  | loop T K L rec hμ hB hw h1 h2 h3 h4 h5 h6 hT hF0 => exact .loop T K L rec (x.mu _ _ hμ) hB (by rw [hh L hμ]; exact hw) h1 h2 h3 h4 h5 h6 (fun t => VR.mono x (hT t)) (fun o h => hF0 o (hF L o hμ h))
  | dfr L hμ hB hw hF0 => exact .dfr L (x.mu _ _ hμ) hB (by rw [hh L hμ]; exact hw) (fun o h => hF0 o (hF L o hμ h))
  | iter ks vs seen L m es clock ss hμ hB h0 hw hm hmw hb hk hss hF0 => exact .iter ks vs seen L m es clock ss (x.mu _ _ hμ) hB h0 (by rw [hh L hμ]; exact hw) (x.fr _ _ hm) (x.obj _ _ _ hm hmw) hb (VRk.mono x hk) hss (fun o h => hF0 o (hF L o hμ h))
  | dead => exact .dead

theorem OBR.loc {B0 : Nat} {id : Nat} {blk : OB} (h : OBR B0 F w μ id blk) (hl : blk.live = true) : ∃ L, μ id = some L ∧ B0 ≤ L.block ∧ L.block < w.heap.size ∧ (∀ o, ¬ F L.block o) := by
  cases h with
  | cells cs opn L c el lo hi hμ hB hw hcap hlen hfix hun hcs hF => exact ⟨L, hμ, hB, (Array.getElem?_eq_some_iff.1 hw).1, hF⟩
  | map ks vs L es clock hμ hB hw hes hb hF => exact ⟨L, hμ, hB, (Array.getElem?_eq_some_iff.1 hw).1, hF⟩
  | loop T K L rec hμ hB hw h1 h2 h3 h4 h5 h6 hT hF => exact ⟨L, hμ, hB, (Array.getElem?_eq_some_iff.1 hw).1, hF⟩
  | dfr L hμ hB hw hF => exact ⟨L, hμ, hB, (Array.getElem?_eq_some_iff.1 hw).1, hF⟩
  | iter ks vs seen L m es clock ss hμ hB h0 hw hm hmw hb hk hss hF => exact ⟨L, hμ, hB, (Array.getElem?_eq_some_iff.1 hw).1, hF⟩
  | dead => cases hl

theorem OBR.dead_of {B0 : Nat} {F : Nat → Nat → Prop} {w : World} {μ : Nat → Option Loc} {id : Nat} {blk : OB} (h : blk.live = false) : OBR B0 F w μ id blk := by
  cases blk with
  | dead => exact .dead
  | cells _ _ => cases h
  | map _ _ => cases h
  | loop _ _ => cases h
  | dfr => cases h
  | iter _ _ _ => cases h

theorem push_get (w : World) (o : Obj) (k : Nat) : ({ w with heap := w.heap.push o } : World).heap[k]? = if k = w.heap.size then some o else w.heap[k]? := by
  show (w.heap.push o)[k]? = _
  rw [Array.getElem?_push]

/-- A new block: what was there stays. -/
theorem Ext.push (s : Sim w0 F0 F μ H w) (o : Obj) {F' : Nat → Nat → Prop} {μ' : Nat → Option Loc} (hF : ∀ b o, F b o → F' b o) (hμ : ∀ id L, μ id = some L → μ' id = some L) :
    Ext F w μ F' { w with heap := w.heap.push o } μ' := by
  refine ⟨hμ, hF, ?_, ?_⟩
  · intro b i V hf h
    obtain ⟨c, el, fz, hc, hi⟩ := cell_block h
    have hb := s.lt b i hf
    have e : ({ w with heap := w.heap.push o } : World).heap[b]? = some (.cells c el fz) := by rw [push_get, if_neg (show b ≠ w.heap.size by omega)]; exact hc
    rw [cell_eq _ b i c el fz e]; exact hi
  · intro b es c hf h
    have hb := s.lt b 0 hf
    rw [push_get, if_neg (by omega)]; exact h

/-- A new block that is still written. -/
theorem Sim.alloc (s : Sim w0 F0 F μ H w) (o : Obj) (blk : OB) (L : Loc) (hL : L.block = w.heap.size)
    (hb : ∀ μ', Ext F w μ F { w with heap := w.heap.push o } μ' → μ' H.length = some L → (∀ o, ¬ F L.block o) → OBR w0.heap.size F { w with heap := w.heap.push o } μ' H.length blk) :
    ∃ μ', Ext F w μ F { w with heap := w.heap.push o } μ' ∧ μ' H.length = some L ∧ Sim w0 F0 F μ' (H ++ [blk]) { w with heap := w.heap.push o } := by
  let μ' : Nat → Option Loc := fun i => if i = H.length then some L else μ i
  have hμ : ∀ id L, μ id = some L → μ' id = some L := by
    intro id L' h
    have := s.dom id L' h
    show (if id = H.length then some L else μ id) = _
    rw [if_neg (by omega)]; exact h
  have hx : Ext F w μ F { w with heap := w.heap.push o } μ' := Ext.push s o (fun _ _ h => h) hμ
  have hne : ∀ o, ¬ F L.block o := fun i h => by have := s.lt _ _ h; omega
  have hnew : μ' H.length = some L := by show (if _ then _ else _) = _; rw [if_pos rfl]
  refine ⟨μ', hx, hnew, ⟨⟨s.below.os, s.below.tape, s.below.output, ?_, ?_⟩, s.new, s.old, ?_, ?_, ?_, ?_⟩⟩
  · show _ ≤ (w.heap.push o).size
    rw [Array.size_push]; have := s.below.size; omega
  · intro k hk
    have := s.below.size
    rw [push_get, if_neg (by omega)]; exact s.below.block k hk
  · intro b i h
    show _ < (w.heap.push o).size
    rw [Array.size_push]; have := s.lt b i h; omega
  · intro id b h
    rw [List.getElem?_append] at h
    split at h
    · rename_i hlt
      by_cases hl : b.live = true
      · obtain ⟨L', h1, h2, h3, h4⟩ := (s.obs id b h).loc hl
        refine (s.obs id b h).mono hx ?_ (fun _ _ _ h => h)
        intro L'' e
        rw [h1] at e; cases e
        rw [push_get, if_neg (by omega)]
      · exact OBR.dead_of (by simpa using hl)
    · have : id = H.length := by
        rcases Nat.lt_or_ge (id - H.length) 1 with h' | h'
        · omega
        · rw [List.getElem?_eq_none (by simp; omega)] at h; cases h
      subst this
      simp at h; subst h
      exact hb μ' hx hnew hne
  · intro i j bi bj Li Lj hi hj li lj mi mj hij
    rw [List.getElem?_append] at hi hj
    have hfresh : ∀ k bk Lk, H[k]? = some bk → bk.live = true → μ' k = some Lk → Lk.block < w.heap.size := by
      intro k bk Lk hk lk mk
      obtain ⟨L', h1, _, h3, _⟩ := (s.obs k bk hk).loc lk
      have := hμ _ _ h1
      rw [this] at mk; cases mk; exact h3
    split at hi
    · split at hj
      · rename_i ci cj
        have e1 : μ' i = μ i := if_neg (by omega)
        have e2 : μ' j = μ j := if_neg (by omega)
        rw [e1] at mi; rw [e2] at mj
        exact s.apart i j bi bj Li Lj hi hj li lj mi mj hij
      · have : j = H.length := by
          rcases Nat.lt_or_ge (j - H.length) 1 with h' | h'
          · omega
          · rw [List.getElem?_eq_none (by simp; omega)] at hj; cases hj
        subst this
        have := hfresh i bi Li hi li mi
        rw [hnew] at mj; cases mj; omega
    · have hi' : i = H.length := by
        rcases Nat.lt_or_ge (i - H.length) 1 with h' | h'
        · omega
        · rw [List.getElem?_eq_none (by simp; omega)] at hi; cases hi
      subst hi'
      split at hj
      · have := hfresh j bj Lj hj lj mj
        rw [hnew] at mi; cases mi; omega
      · have : j = H.length := by
          rcases Nat.lt_or_ge (j - H.length) 1 with h' | h'
          · omega
          · rw [List.getElem?_eq_none (by simp; omega)] at hj; cases hj
        omega
  · intro id L' h
    by_cases e : id = H.length
    · simp; omega
    · have : μ' id = μ id := if_neg e
      rw [this] at h
      have := s.dom id L' h
      simp; omega

/-- A new block that stays as it is. -/
theorem Sim.allocF (s : Sim w0 F0 F μ H w) (o : Obj) :
    Ext F w μ (fun b i => F b i ∨ b = w.heap.size) { w with heap := w.heap.push o } μ ∧ Sim w0 F0 (fun b i => F b i ∨ b = w.heap.size) μ H { w with heap := w.heap.push o } := by
  have hx : Ext F w μ (fun b i => F b i ∨ b = w.heap.size) { w with heap := w.heap.push o } μ := Ext.push s o (fun _ _ h => .inl h) (fun _ _ h => h)
  refine ⟨hx, ⟨⟨s.below.os, s.below.tape, s.below.output, ?_, ?_⟩, fun b o h => .inl (s.new b o h), ?_, ?_, ?_, s.apart, s.dom⟩⟩
  · show _ ≤ (w.heap.push o).size
    rw [Array.size_push]; have := s.below.size; omega
  · intro k hk
    have := s.below.size
    rw [push_get, if_neg (by omega)]; exact s.below.block k hk
  · intro b i hb h
    rcases h with h | h
    · exact s.old b i hb h
    · have := s.below.size; omega
  · intro b i h
    show _ < (w.heap.push o).size
    rw [Array.size_push]
    rcases h with h | h
    · have := s.lt b i h; omega
    · omega
  · intro id b h
    by_cases hl : b.live = true
    · obtain ⟨L', h1, h2, h3, h4⟩ := (s.obs id b h).loc hl
      refine (s.obs id b h).mono hx ?_ ?_
      · intro L'' e
        rw [h1] at e; cases e
        rw [push_get, if_neg (by omega)]
      · intro L'' i e hf
        rw [h1] at e; cases e
        rcases hf with hf | hf
        · exact hf
        · omega
    · exact OBR.dead_of (by simpa using hl)

/-- A write into a block that is still written. -/
theorem Sim.write (s : Sim w0 F0 F μ H w) (id : Nat) (blk blk' : OB) (L : Loc) (hid : H[id]? = some blk) (hl : blk.live = true) (hμ : μ id = some L) (o : Obj)
    (hb : Ext F w μ F { w with heap := w.heap.setIfInBounds L.block o } μ → OBR w0.heap.size F { w with heap := w.heap.setIfInBounds L.block o } μ id blk') :
    Ext F w μ F { w with heap := w.heap.setIfInBounds L.block o } μ ∧ Sim w0 F0 F μ (H.set id blk') { w with heap := w.heap.setIfInBounds L.block o } := by
  obtain ⟨L1, h1, h2, h3, h4⟩ := (s.obs id blk hid).loc hl
  rw [hμ] at h1; cases h1
  have hget : ∀ k, k ≠ L.block → ({ w with heap := w.heap.setIfInBounds L.block o } : World).heap[k]? = w.heap[k]? := by
    intro k hk
    show (w.heap.setIfInBounds L.block o)[k]? = _
    rw [Array.getElem?_setIfInBounds, if_neg (by omega)]
  have hx : Ext F w μ F { w with heap := w.heap.setIfInBounds L.block o } μ := by
    refine ⟨fun _ _ h => h, fun _ _ h => h, ?_, ?_⟩
    · intro b i V hf h
      have : b ≠ L.block := fun e => h4 i (e ▸ hf)
      simp only [World.cell?, hget b this] at h ⊢; exact h
    · intro b es c hf h
      have : b ≠ L.block := fun e => h4 0 (e ▸ hf)
      rw [hget b this]; exact h
  refine ⟨hx, ⟨⟨s.below.os, s.below.tape, s.below.output, ?_, ?_⟩, s.new, s.old, ?_, ?_, ?_, ?_⟩⟩
  · show _ ≤ (w.heap.setIfInBounds L.block o).size
    rw [Array.size_setIfInBounds]; exact s.below.size
  · intro k hk
    rw [hget k (by omega)]; exact s.below.block k hk
  · intro b i h
    show _ < (w.heap.setIfInBounds L.block o).size
    rw [Array.size_setIfInBounds]; exact s.lt b i h
  · intro j b h
    rw [List.getElem?_set] at h
    split at h
    · rename_i e
      split at h
      · cases h; subst e; exact hb hx
      · cases h
    · rename_i e
      by_cases hlb : b.live = true
      · refine (s.obs j b h).mono hx ?_ (fun _ _ _ h => h)
        intro L' hL'
        exact hget _ (s.apart j id b blk L' L h hid hlb hl hL' hμ (by omega))
      · exact OBR.dead_of (by simpa using hlb)
  · intro i j bi bj Li Lj hi hj li lj mi mj hij
    have key : ∀ (k : Nat) (bk : OB), (H.set id blk')[k]? = some bk → bk.live = true → ∃ bk', H[k]? = some bk' ∧ bk'.live = true := by
      intro k bk hk lk
      rw [List.getElem?_set] at hk
      split at hk
      · rename_i e; subst e; exact ⟨blk, hid, hl⟩
      · exact ⟨bk, hk, lk⟩
    obtain ⟨ci, h5, h6⟩ := key i bi hi li
    obtain ⟨cj, h7, h8⟩ := key j bj hj lj
    exact s.apart i j ci cj Li Lj h5 h7 h6 h8 mi mj hij
  · intro j L' h
    rw [List.length_set]; exact s.dom j L' h

/-- A block that nobody writes any more. -/
theorem Sim.kill (s : Sim w0 F0 F μ H w) (id : Nat) : Sim w0 F0 F μ (H.set id .dead) w := by
  refine ⟨s.below, s.new, s.old, s.lt, ?_, ?_, fun j L' h => by rw [List.length_set]; exact s.dom j L' h⟩
  · intro j b h
    rw [List.getElem?_set] at h
    split at h
    · split at h
      · cases h; exact .dead
      · cases h
    · exact s.obs j b h
  · intro i j bi bj Li Lj hi hj li lj mi mj hij
    have key : ∀ (k : Nat) (bk : OB), (H.set id .dead)[k]? = some bk → bk.live = true → H[k]? = some bk := by
      intro k bk hk lk
      rw [List.getElem?_set] at hk
      split at hk
      · split at hk
        · cases hk; cases lk
        · cases hk
      · exact hk
    exact s.apart i j bi bj Li Lj (key i bi hi li) (key j bj hj lj) li lj mi mj hij
end
end Go.Av
