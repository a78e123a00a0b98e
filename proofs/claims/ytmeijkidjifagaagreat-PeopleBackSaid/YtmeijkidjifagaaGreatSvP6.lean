/- A framework of abstract values: no program in sight; under the conditions named at each theorem. -/
import Derived.Test.YtmeijkidjifagaaGreatSvP5
import Derived.Shelf.Sort.Plain
namespace Go.Av
set_option linter.unusedVariables false
set_option linter.unusedSimpArgs false
open Go.RowKit (Below)
open Go.Sort (putRow Holds)

def sortB (l : List Bytes) : List Bytes := l.mergeSort fun x y => decide (x ≤ y)

theorem below_ahead (w : World) (n B : Nat) : Below B w (Go.Sort.ahead w n) := ⟨rfl, rfl, rfl, Nat.le_refl _, fun _ _ => rfl⟩
theorem below_grow (w : World) (os : Array Obj) : Below w.heap.size w (Go.Sort.grow w os) :=
  ⟨rfl, rfl, rfl, by simp [Go.Sort.grow], fun k hk => by simp [Go.Sort.grow, Array.getElem?_append_left hk]⟩

variable {P : Program}

theorem sort_sh {f : FuncId} {fn : Func} {c : Code} (hN : Enters P) (hf : P.funcs[f]? = some fn) (hb : fn.body = some c)
    (hS : ∀ (blk off cap : Nat) (ss : List (List UInt8)) (w : World), Holds Go.Proofs.encStr w blk off ss.toArray → blk < w.heap.size → ss.length < 4611686018427387904 → Calls P f #[.slice (some ⟨blk, off, none⟩) ss.length cap] w fun e w' =>
      e = .returned (.tuple #[]) ∧ ∃ n os, w' = Go.Sort.grow (putRow Go.Proofs.encStr (Go.Sort.ahead w n) blk off (ss.mergeSort fun x y => decide (x ≤ y)).toArray) os)
    {H : List OB} {d : Nat} {l : List Bytes} {opn : Bool} (hd : H[d]? = some (.cells (l.map .str) opn)) (hl : l.length ≤ 1000000) :
    ShFn P f [.sl d 0 l.length 0] H (.ret (.tup [])) (H.set d (.cells ((sortB l).map .str) opn)) := by
  intro w0 F0 F μ w Vs s hv
  cases hv with
  | cons _ _ _ _ h1 h2 =>
  cases h2
  cases h1 with
  | sl _ _ _ _ cap L hμ hc hlc hlb =>
  have hob := s.obs d _ hd
  cases hob with
  | cells _ _ L' ca el lo hi hμ' hB hw hcap hlen hfix hun hcs hF =>
  rw [hμ] at hμ'; cases hμ'
  have hlen' : l.length ≤ L.cap := by simpa using hlen
  have hblk : L.block < w.heap.size := (Array.getElem?_eq_some_iff.1 hw).1
  have each : ∀ (j : Nat) (t : Bytes), l[j]? = some t → ca[L.off + j]? = some (.string ⟨t.toArray⟩) ∧ t.length ≤ maxLen' := by
    intro j t ht
    obtain ⟨V, g1, g2⟩ := hcs j (.str t) (by simp [ht])
    cases g2 with
    | str _ hb => exact ⟨g1, hb⟩
  have hH : Holds Go.Proofs.encStr w L.block (L.off + 0) l.toArray := by
    intro j hj
    have hjl : j < l.length := by simpa using hj
    obtain ⟨g1, _⟩ := each j l[j] (List.getElem?_eq_getElem hjl)
    have hget : (l.toArray)[j]! = l[j] := by rw [getElem!_pos _ j hj]; simp
    refine ⟨?_, ?_⟩
    · rw [hget]
      simp only [World.cell?, hw, Nat.add_zero]
      simpa using g1
    · simp only [World.frozen?, hw, Nat.add_zero]
      have := hun (L.off + j) (by omega) (by omega)
      simp only [Bool.and_eq_false_iff, decide_eq_false_iff_not]
      omega
  refine .inl ⟨w, enters_call hN hf hb _ _, rfl, (hS L.block (L.off + 0) cap l w hH hblk (by omega)).mono ?_⟩
  rintro e w' ⟨rfl, n, os, rfl⟩
  obtain ⟨x1, s1⟩ := s.behind (below_ahead w n w.heap.size) (fun _ _ h => h) (fun b o h => s.lt b o h) (fun b o _ h => h)
  have hD : (l.mergeSort fun x y => decide (x ≤ y)) = sortB l := rfl
  rw [hD]
  have hperm : (sortB l).Perm l := List.mergeSort_perm _ _
  have hsl : (sortB l).length = l.length := hperm.length_eq
  have hput : putRow Go.Proofs.encStr (Go.Sort.ahead w n) L.block (L.off + 0) (sortB l).toArray = { Go.Sort.ahead w n with heap := (Go.Sort.ahead w n).heap.setIfInBounds L.block (.cells (Go.Sort.putCells Go.Proofs.encStr L.off (sortB l).toArray ca) el (lo, hi)) } := by
    unfold putRow Go.Sort.mapBlock
    congr 1
    apply Array.ext_getElem?
    intro j
    rw [Array.getElem?_modify, Array.getElem?_setIfInBounds]
    by_cases hj : L.block = j
    · subst hj
      rw [if_pos rfl, if_pos rfl, if_pos (show L.block < (Go.Sort.ahead w n).heap.size from hblk)]
      have : (Go.Sort.ahead w n).heap[L.block]? = some (.cells ca el (lo, hi)) := hw
      rw [this]
      rfl
    · rw [if_neg hj, if_neg hj]
  rw [hput]
  have hcget : ∀ i, i < l.length → (Go.Sort.putCells Go.Proofs.encStr L.off (sortB l).toArray ca)[L.off + i]? = some (Go.Proofs.encStr ((sortB l).toArray[i]!)) := by
    intro i hi
    unfold Go.Sort.putCells
    rw [Array.getElem?_mapIdx]
    obtain ⟨g1, _⟩ := each i l[i] (List.getElem?_eq_getElem hi)
    rw [g1]
    simp only [Option.map_some]
    rw [if_pos ⟨by omega, by simp [hsl]; omega⟩]
    rw [show L.off + i - L.off = i by omega]
  obtain ⟨x2, s2⟩ := s1.write d _ (.cells ((sortB l).map .str) opn) L hd rfl hμ (.cells (Go.Sort.putCells Go.Proofs.encStr L.off (sortB l).toArray ca) el (lo, hi)) (fun x => by
    refine .cells _ _ L (Go.Sort.putCells Go.Proofs.encStr L.off (sortB l).toArray ca) el lo hi hμ hB ?_ (by simpa [Go.Sort.putCells] using hcap) (by simp [hsl]; omega) (fun h => by have := hfix h; simpa [hsl] using this) hun ?_ hF
    · show ((Go.Sort.ahead w n).heap.setIfInBounds L.block _)[L.block]? = _
      rw [Array.getElem?_setIfInBounds, if_pos rfl, if_pos (show L.block < (Go.Sort.ahead w n).heap.size from hblk)]
    · intro i v hv
      rw [List.getElem?_map, Option.map_eq_some_iff] at hv
      obtain ⟨t, ht, rfl⟩ := hv
      have hi : i < (sortB l).length := (List.getElem?_eq_some_iff.1 ht).1
      refine ⟨_, hcget i (by omega), ?_⟩
      have hget : (sortB l).toArray[i]! = t := by
        rw [getElem!_pos _ i (by simpa using hi)]
        have : (sortB l)[i] = t := (List.getElem?_eq_some_iff.1 ht).2
        simpa using this
      rw [hget]
      have hmem : t ∈ l := hperm.mem_iff.1 (List.mem_of_getElem? ht)
      obtain ⟨j, hj⟩ := List.mem_iff_getElem?.1 hmem
      exact .str t (each j t hj).2)
  obtain ⟨x3, s3⟩ := s2.behind (below_grow _ os) (fun _ _ h => h) (fun b o h => Nat.lt_of_lt_of_le (s2.lt b o h) (by simp [Go.Sort.grow])) (fun b o _ h => h)
  exact ⟨F, μ, x1.trans (x2.trans x3), s3, .ret _ _ (.tup [] #[] .nil)⟩
end Go.Av
namespace Go.Av
set_option linter.unusedVariables false
set_option linter.unusedSimpArgs false
section
variable {α : Type}

def flatA (f : α → AV) (L : List α) : List AV := (L.map f).flatMap AV.cells
theorem flatA_app (f : α → AV) (L : List α) (x : α) : flatA f (L ++ [x]) = flatA f L ++ (f x).cells := by simp [flatA]
theorem flatA_one (f : α → AV) (x : α) : flatA f [x] = (f x).cells := by simp [flatA]
theorem flatA_len {f : α → AV} {wd : Nat} (hf : ∀ x, (f x).cells.length = esz wd) (L : List α) : (flatA f L).length = L.length * esz wd := by
  rw [flatA, cells_len (wd := wd) (by intro v hv; obtain ⟨a, _, rfl⟩ := List.mem_map.1 hv; exact hf a)]; simp

/-- A slice that holds these, in memory of one's own with room that nobody else has. -/
def slIn (wd : Nat) (f : α → AV) (M : List OB) (v : AV) (L : List α) : Prop :=
  (L = [] ∧ ∃ w, v = .vsl w true []) ∨ (∃ d, v = .sl d 0 L.length wd ∧ M[d]? = some (.cells (flatA f L) true))

theorem slIn_app {P : Program} {sT e : TypeId} {wd bytes : Nat} (hu : P.underlying sT = some (.slice e)) (ha : apT P e = some (esz wd, wd, bytes)) (f : α → AV) (hf : ∀ x, (f x).cells.length = esz wd) (hc : ∀ x, (f x).cells.all AV.isC = true) (hz : 0 < esz wd)
    {M : List OB} {v : AV} {L : List α} (h : slIn wd f M v L) (x : α) (y : Bool) (hb : (L.length + 1) * bytes ≤ 2 ^ 47) :
    ∃ M', evAppend P sT sT v (.vsl wd y [f x]) M = some (.sl M.length 0 (L.length + 1) wd, M') ∧ M'.length = M.length + 1 ∧ M'[M.length]? = some (.cells (flatA f (L ++ [x])) true) ∧ ∀ i, i < M.length → v ≠ .sl i 0 L.length wd → M'[i]? = M[i]? := by
  have hnew : newsA (esz wd) (.vsl wd y [f x]) = fun H => some (1, (f x).cells) := by funext H; simp [newsA]
  rcases h with ⟨rfl, w, rfl⟩ | ⟨d, rfl, hd⟩
  · have hold : newsA (esz wd) (.vsl w true []) = fun H => some (0, []) := by funext H; simp [newsA]
    refine ⟨M ++ [.cells (f x).cells true], ?_, by simp, by simp [flatA_one], fun i hi _ => List.getElem?_append_left hi⟩
    simp only [evAppend, hu, ha, hnew, hold, List.nil_append, List.length_nil, Nat.zero_add]
    rw [if_neg (by omega), if_pos (by simpa using hb)]
  · have hlen : (flatA f L).length = L.length * esz wd := flatA_len hf L
    have hdl : d < M.length := (List.getElem?_eq_some_iff.1 hd).1
    have hnot : ¬ ((L.length + 1) * esz wd ≤ (flatA f L).length) := by rw [hlen, Nat.add_mul]; omega
    refine ⟨M.set d .dead ++ [.cells (flatA f L ++ (f x).cells) true], ?_, by simp, ?_, ?_⟩
    · simp only [evAppend, hu, ha, hnew, hd]
      rw [if_pos ⟨trivial, hc x, hb, by rw [hlen]; omega⟩]
      rw [hlen] at hnot
      simp only [Nat.zero_add, hlen, if_true, List.drop_zero]
      rw [if_neg hnot]
    · rw [List.getElem?_append_right (by simp), flatA_app]; simp
    · intro i hi hne
      rw [List.getElem?_append_left (by simpa using hi), List.getElem?_set, if_neg]
      rintro rfl
      exact hne rfl

theorem slIn_keep {wd : Nat} {f : α → AV} {M M' : List OB} {v : AV} {L : List α} (h : slIn wd f M v L) (hk : ∀ d, d < M.length → v = .sl d 0 L.length wd → M'[d]? = M[d]?) : slIn wd f M' v L := by
  rcases h with h | ⟨d, hv, hd⟩
  · exact .inl h
  · exact .inr ⟨d, hv, by rw [hk d (List.getElem?_eq_some_iff.1 hd).1 hv]; exact hd⟩
theorem slIn_lt {wd : Nat} {f : α → AV} {M : List OB} {v : AV} {L : List α} (h : slIn wd f M v L) {d n : Nat} (hv : v = .sl d 0 n wd) : d < M.length := by
  rcases h with ⟨_, w, h⟩ | ⟨d', h, hd⟩
  · rw [hv] at h; cases h
  · rw [hv] at h; cases h; exact (List.getElem?_eq_some_iff.1 hd).1
theorem slIn_news {wd : Nat} {f : α → AV} (hf : ∀ x, (f x).cells.length = esz wd) {M : List OB} {v : AV} {L : List α} (h : slIn wd f M v L) : newsA (esz wd) v M = some (L.length, flatA f L) := by
  rcases h with ⟨rfl, w, rfl⟩ | ⟨d, rfl, hd⟩
  · simp [newsA, flatA]
  · have hlen : (flatA f L).length = L.length * esz wd := flatA_len hf L
    simp only [newsA, hd]
    rw [if_pos ⟨trivial, by omega⟩, List.drop_zero, List.take_of_length_le (by omega)]

/-- One such slice behind another. -/
theorem slIn_cat {P : Program} {sT e : TypeId} {wd bytes : Nat} (hu : P.underlying sT = some (.slice e)) (ha : apT P e = some (esz wd, wd, bytes)) (f : α → AV) (hf : ∀ x, (f x).cells.length = esz wd) (hc : ∀ x, (f x).cells.all AV.isC = true) (hz : 0 < esz wd)
    {M : List OB} {v u : AV} {L N : List α} (h : slIn wd f M v L) (g : slIn wd f M u N) (hb : (L.length + N.length) * bytes ≤ 2 ^ 47) :
    ∃ v' M', evAppend P sT sT v u M = some (v', M') ∧ slIn wd f M' v' (L ++ N) := by
  have hnew := slIn_news hf g
  have hflat : flatA f (L ++ N) = flatA f L ++ flatA f N := by simp [flatA]
  have hisC : (flatA f N).all AV.isC = true := by
    rw [flatA, List.all_flatMap, List.all_eq_true]; intro u hu; obtain ⟨a, _, rfl⟩ := List.mem_map.1 hu; exact hc a
  by_cases hN : N.length = 0
  · have hN' : N = [] := List.eq_nil_of_length_eq_zero hN
    subst hN'
    have hfl : flatA f ([] : List α) = [] := rfl
    rcases h with ⟨rfl, w, rfl⟩ | ⟨d, rfl, hd⟩
    · refine ⟨.vsl w true [], M, ?_, .inl ⟨rfl, w, rfl⟩⟩
      simp only [evAppend, hu, ha, hnew, List.length_nil]
      rw [if_pos trivial]
    · have hlen : (flatA f L).length = L.length * esz wd := flatA_len hf L
      refine ⟨.sl d 0 L.length wd, M.set d (.cells (flatA f L) true), ?_, .inr ⟨d, by simp, by rw [List.append_nil, List.getElem?_set_self (List.getElem?_eq_some_iff.1 hd).1]⟩⟩
      simp only [evAppend, hu, ha, hnew, hd, hfl, List.length_nil]
      rw [if_pos ⟨trivial, rfl, by simpa using hb, by simp [hlen]⟩, if_pos (by simp [hlen])]
      simp [setC]
  · rcases h with ⟨rfl, w, rfl⟩ | ⟨d, rfl, hd⟩
    · have hold : newsA (esz wd) (.vsl w true []) M = some (0, []) := by simp [newsA]
      refine ⟨.sl M.length 0 N.length wd, M ++ [.cells (flatA f N) true], ?_, .inr ⟨M.length, by simp, by simp⟩⟩
      simp only [evAppend, hu, ha, hnew, hold, List.nil_append, List.length_nil, Nat.zero_add]
      rw [if_neg hN, if_pos (by simpa using hb)]
    · have hlen : (flatA f L).length = L.length * esz wd := flatA_len hf L
      have hnot : ¬ ((L.length + N.length) * esz wd ≤ L.length * esz wd) := by
        rw [Nat.add_mul]
        have : 0 < N.length * esz wd := Nat.mul_pos (by omega) hz
        omega
      refine ⟨.sl M.length 0 (L.length + N.length) wd, M.set d .dead ++ [.cells (flatA f L ++ flatA f N) true], ?_, .inr ⟨M.length, by simp, ?_⟩⟩
      · simp only [evAppend, hu, ha, hnew, hd]
        rw [if_pos ⟨trivial, hisC, hb, by omega⟩]
        simp only [Nat.zero_add, hlen, if_true, List.drop_zero]
        rw [if_neg hnot]
      · rw [List.getElem?_append_right (by simp), hflat]; simp

theorem grow_slIn (B : List OB) (f : α → AV) (wd : Nat) (L : List α) : slIn wd f (grow B f L) (growV B.length wd L) L := by
  cases L with
  | nil => exact .inl ⟨rfl, wd, rfl⟩
  | cons u t =>
    refine .inr ⟨B.length + t.length, rfl, ?_⟩
    rw [grow, List.getElem?_append_right (by omega), List.getElem?_append_right (by simp)]
    simp [flatA]

/-- That slice, its first state of another width. -/
def growW (b w0 wd : Nat) : List α → AV
  | [] => .vsl w0 true []
  | _ :: t => .sl (b + t.length) 0 (t.length + 1) wd
theorem growW_app {P : Program} {sT e : TypeId} {wd bytes : Nat} (hu : P.underlying sT = some (.slice e)) (ha : apT P e = some (esz wd, wd, bytes)) (B : List OB) (f : α → AV) (hf : ∀ x, (f x).cells.length = esz wd) (hc : ∀ x, (f x).cells.all AV.isC = true) (hz : 0 < esz wd) (w0 : Nat)
    (L : List α) (x : α) (y : Bool) (hb : (L.length + 1) * bytes ≤ 2 ^ 47) :
    evAppend P sT sT (growW B.length w0 wd L) (.vsl wd y [f x]) (grow B f L) = some (growW B.length w0 wd (L ++ [x]), grow B f (L ++ [x])) := by
  cases L with
  | nil =>
    have hnew : newsA (esz wd) (.vsl wd y [f x]) = fun H => some (1, (f x).cells) := by funext H; simp [newsA]
    have hold : newsA (esz wd) (.vsl w0 true []) = fun H => some (0, []) := by funext H; simp [newsA]
    simp only [growW, grow, evAppend, hu, ha, hnew, hold, List.nil_append, List.length_nil, Nat.zero_add]
    rw [if_neg (by omega), if_pos (by simpa using hb)]
    simp
  | cons u t => exact grow_app hu ha B f hf hc hz (u :: t) x y hb
theorem growW_slIn (B : List OB) (f : α → AV) (w0 wd : Nat) (L : List α) : slIn wd f (grow B f L) (growW B.length w0 wd L) L := by
  cases L with
  | nil => exact .inl ⟨rfl, w0, rfl⟩
  | cons u t => exact grow_slIn B f wd (u :: t)
theorem growW_hlt {m b w0 wd : Nat} (L : List α) (h : b + L.length ≤ m) : (growW b w0 wd L).hlt m = true := by
  cases L with
  | nil => rfl
  | cons u t => simp at h; simp [growW, AV.hlt]; omega

theorem chunk_flat {wd n : Nat} (hn : 0 < n) : ∀ (l : List AV), (∀ v ∈ l, ∃ cs, v = .agg cs ∧ cs.length = n) → chunkA n l.length (l.flatMap AV.cells) = l
  | [], _ => rfl
  | v :: l, h => by
    obtain ⟨cs, rfl, hc⟩ := h v (by simp)
    have hcell : AV.cells (.agg cs) = cs := rfl
    rw [List.length_cons, List.flatMap_cons, hcell, chunkA]
    rw [List.take_left' hc, List.drop_left' hc, chunk_flat (wd := wd) hn l (fun u hu => h u (List.mem_cons_of_mem _ hu))]

/-- Such a slice of structs, its memory given up. -/
theorem slIn_fz {f : α → AV} {n k : Nat} {M : List OB} {v : AV} {L : List α} (hn : 0 < n) (hf : ∀ x, ∃ cs, f x = .agg cs ∧ cs.length = n) (hh : ∀ x, AV.hfs (f x).cells = true) (h : slIn (n + 1) f M v L) : ∃ u, fz M (k + 1) v = some u ∧ Le u (.vsl (n + 1) false (L.map f)) := by
  rcases h with ⟨rfl, w, rfl⟩ | ⟨d, rfl, hd⟩
  · exact ⟨_, rfl, .nil _ _ _⟩
  · refine ⟨.vsl (n + 1) false (L.map f), ?_, .refl _⟩
    have hlen : (flatA f L).length = L.length * esz (n + 1) := flatA_len (wd := n + 1) (fun x => by obtain ⟨cs, h1, h2⟩ := hf x; rw [h1]; exact h2) L
    have hhf : AV.hfs (flatA f L) = true := by
      rw [hfs_all, flatA, List.all_flatMap, List.all_eq_true]
      intro u hu
      obtain ⟨a, _, rfl⟩ := List.mem_map.1 hu
      rw [← hfs_all]; exact hh a
    have ht : ((flatA f L).drop 0).take (L.length * esz (n + 1)) = flatA f L := by rw [List.drop_zero, List.take_of_length_le (by omega)]
    have hck : chunkA n L.length (flatA f L) = L.map f := by
      have := chunk_flat (wd := 0) hn (L.map f) (by intro u hu; obtain ⟨a, _, rfl⟩ := List.mem_map.1 hu; exact hf a)
      simpa [flatA] using this
    unfold fz
    rw [if_neg (by simp [AV.hf])]
    simp only [hd, ht, hhf, if_true]
    rw [if_pos (by omega)]
    simp only [Option.bind_some, hck]
end
end Go.Av
namespace Go.Av
set_option linter.unusedVariables false
set_option linter.unusedSimpArgs false

theorem less_lt : ∀ (x y : Bytes), Op.bytesLess x y = decide (x < y)
  | [], [] => by simp [Op.bytesLess]
  | _ :: _, [] => by simp [Op.bytesLess]
  | [], _ :: _ => by simp [Op.bytesLess]
  | a :: x, b :: y => by
    rw [Op.bytesLess, less_lt x y]
    simp only [List.cons_lt_cons_iff]
    by_cases h1 : a < b <;> by_cases h2 : a = b <;> by_cases h3 : x < y <;> simp [h1, h2, h3]

theorem b_lt_trans {a b c : Bytes} (h : a < b) (k : b < c) : a < c := List.lt_trans h k
theorem b_lt_irrefl (a : Bytes) : ¬ a < a := List.lt_irrefl a
theorem b_lt_ne {a b : Bytes} (h : a < b) : a ≠ b := fun e => by subst e; exact b_lt_irrefl _ h
theorem b_le {a b : Bytes} : a ≤ b ↔ ¬ b < a := List.not_lt.symm
theorem b_le_of {a b : Bytes} (h : a < b) : a ≤ b := b_le.2 fun k => b_lt_irrefl _ (b_lt_trans h k)
theorem b_tri (a b : Bytes) : a < b ∨ a = b ∨ b < a := by
  by_cases h : a < b
  · exact .inl h
  · by_cases k : b < a
    · exact .inr (.inr k)
    · exact .inr (.inl (List.le_antisymm (b_le.2 k) (b_le.2 h)))

def unstr : AV → Bytes
  | .str s => s
  | _ => []
theorem perm_strs {p : List AV} {l : List Bytes} (h : p.Perm (l.map .str)) : ∃ q : List Bytes, p = q.map .str ∧ q.Perm l := by
  refine ⟨p.map unstr, ?_, ?_⟩
  · rw [List.map_map]
    have : p.map (AV.str ∘ unstr) = p.map id := List.map_congr_left fun v hv => by
      obtain ⟨s, _, rfl⟩ := List.mem_map.1 (h.mem_iff.1 hv)
      rfl
    rw [this, List.map_id]
  · have := h.map unstr
    rw [List.map_map] at this
    have hid : l.map (unstr ∘ AV.str) = l := by
      have : l.map (unstr ∘ AV.str) = l.map id := List.map_congr_left fun v _ => rfl
      rw [this, List.map_id]
    rwa [hid] at this

theorem sortB_sorted (l : List Bytes) : List.Pairwise (fun a b : Bytes => a ≤ b) (sortB l) := by
  have := List.pairwise_mergeSort (le := fun x y : Bytes => decide (x ≤ y)) (fun a b c h k => by simp only [decide_eq_true_eq] at *; exact List.le_trans h k) (fun a b => by simpa using List.le_total a b) l
  exact this.imp (fun h => by simpa using h)
theorem sortB_isPerm (l : List Bytes) : (sortB l).Perm l := List.mergeSort_perm l _
theorem sorted_eq {l m : List Bytes} (h : l.Perm m) (hl : List.Pairwise (fun a b : Bytes => a ≤ b) l) (hm : List.Pairwise (fun a b : Bytes => a ≤ b) m) : l = m :=
  List.Perm.eq_of_pairwise (fun a b _ _ h k => List.le_antisymm h k) hl hm h
theorem sortB_perm {l m : List Bytes} (h : m.Perm l) : sortB m = sortB l :=
  sorted_eq (((sortB_isPerm m).trans h).trans (sortB_isPerm l).symm) (sortB_sorted m) (sortB_sorted l)
theorem sortB_of {l : List Bytes} (h : List.Pairwise (fun a b : Bytes => a < b) l) : sortB l = l :=
  sorted_eq (sortB_isPerm l) (sortB_sorted l) (h.imp b_le_of)
/-- Different texts, sorted: they rise. -/
theorem sortB_rises {l : List Bytes} (h : l.Nodup) : List.Pairwise (fun a b : Bytes => a < b) (sortB l) := by
  have hn : (sortB l).Nodup := (sortB_isPerm l).nodup_iff.2 h
  have := (sortB_sorted l).and hn
  refine this.imp fun {a b} hab => ?_
  rcases b_tri a b with h | h | h
  · exact h
  · exact (hab.2 h).elim
  · exact (b_le.1 hab.1 h).elim
end Go.Av
namespace Go.Av
set_option linter.unusedVariables false
set_option linter.unusedSimpArgs false
open Go.RowKit (Below)

theorem cnt_one {p : Nat} {q : Nat → Bool} : ∀ n, cnt n (fun j => (j == p) && q j) = if p < n ∧ q p = true then 1 else 0
  | 0 => by simp [cnt]
  | n + 1 => by
    rw [cnt, cnt_one n]
    by_cases hp : n = p
    · subst hp
      cases hq : q n <;> simp [hq]
    · have h1 : (n == p) = false := by simpa using hp
      have h2 : p < n + 1 ↔ p < n := by omega
      simp [h1, h2]

/-- All ahead of the p-th come ahead of it, all behind it behind. -/
def oneStatic (ops : Array Oper) (tab : List Nat) (p : Nat) : Bool :=
  (List.range ops.size).all fun i => decide (i = p) || (decide (i < p) && (tab.getD p 0).testBit i) || (decide (p < i) && (tab.getD i 0).testBit p)

section
variable {P : Program} {n m : Nat} {R : Option Nat} {a : St} {Q : Ex → St → Prop} {ops : Array Oper}

open Classical in
theorem W.drawW {id : Nat} {pre post : List Oper} {ow : Oper} {r : AV} {H' : List OB} (rs1 rs2 : List CR) (hm : P.follows .mixedOrders = true) (hf : fits n ops = true)
    (hsp : ops.toList = pre ++ ow :: post) (hr1 : (pre.all fun o => isRd o.op || isVal o.op) = true) (hr2 : (post.all fun o => isRd o.op || isVal o.op) = true)
    (hst : drawStatic ops (mkTab ops.toList []) = true) (hone : oneStatic ops (mkTab ops.toList []) pre.length = true)
    (h : EDf P ops (fun a1 => gdA ops a1 ow.guard = some true ∧ ∃ f args, callOf a1 ow.op = some (f, args) ∧ ClOK P f args a1.H (.ret r) H' ∧ EDf P ops (Q .normal) rs2 post ({ a1 with H := H' }.put ow.dst r)) rs1 pre a) :
    W P n m R (.region id ops true) Q a := by
  obtain ⟨v1, T1, g0, ⟨hg, f, args, hc, hcl, h2⟩, ht1⟩ := EDr_trace (R := R) (m := m) hf hr1 (EDf_EDr h)
  simp only at hg hc hcl h2
  obtain ⟨v2, T2, k0, hq, ht2⟩ := EDr_trace (R := R) (m := m) hf hr2 (EDf_EDr h2)
  have hput : ({ ({ T := T1 pre.length, H := a.H, D := a.D } : St) with H := H' }.put ow.dst r) = ⟨(match ow.dst with | none => T1 pre.length | some d => (d, r) :: T1 pre.length), H', a.D⟩ := by cases ow.dst <;> rfl
  rw [hput] at k0 hq ht2
  simp only at k0 hq ht2
  have hsize : ops.size = pre.length + 1 + post.length := by rw [← Array.length_toList, hsp]; simp; omega
  have hget : ∀ i, ops[i]? = (pre ++ ow :: post)[i]? := fun i => by rw [← hsp, Array.getElem?_toList]
  have hw : StepR P n m R ops ow ⟨only ops ow (T1 pre.length), a.H, a.D⟩ (.val r H') := by
    refine stepA_ok (call := fun c x K => if c = f ∧ x = args ∧ K = a.H then some (.ret r, H') else none) ?_ hf ?_
    · intro c x K out K' hh
      simp only at hh
      split at hh
      · rename_i hcond
        obtain ⟨rfl, rfl, rfl⟩ := hcond
        cases hh
        exact hcl
      · cases hh
    · have e1 : gdA ops ⟨only ops ow (T1 pre.length), a.H, a.D⟩ ow.guard = some true := by
        rw [only_gd (a := ⟨T1 pre.length, a.H, a.D⟩)]; exact hg
      have e2 : callOf ⟨only ops ow (T1 pre.length), a.H, a.D⟩ ow.op = some (f, args) := by
        rw [callOf_congr (b := ⟨T1 pre.length, a.H, a.D⟩) ow.op (fun x hx => only_ev (ops := ops) (o := ow) (a := ⟨T1 pre.length, a.H, a.D⟩) hx)]; exact hc
      simp [stepA, e1, e2]
  have hstI : ∀ (i : Nat) (o : Oper), ops[i]? = some o → (o.after.toList.all (fun e => !Region.binds .any e || decide (e.on < i)) && (mkTab ops.toList []).getD i 0 == maskOf (mkTab ops.toList []) o &&
      (o.looksAt ops).all (fun t => (List.range ops.size).all fun j => match ops[j]? with | some o' => !dstB o' t || ((mkTab ops.toList []).getD i 0).testBit j | none => true) &&
      (match o.dst with | none => true | some d => (List.range ops.size).all fun j => j == i || match ops[j]? with | some o' => !dstB o' d | none => true)) = true := by
    intro i o ho
    have := all_range hst i (Array.getElem?_eq_some_iff.1 ho).1
    rw [ho] at this
    exact this
  have hbef : ∀ i, i < pre.length → ((mkTab ops.toList []).getD pre.length 0).testBit i = true := by
    intro i hi
    have := all_range hone i (by omega)
    simp only [Bool.or_eq_true, Bool.and_eq_true, decide_eq_true_eq] at this
    rcases this with (h | h) | h
    · omega
    · exact h.2
    · omega
  have hbeh : ∀ i, pre.length < i → i < ops.size → ((mkTab ops.toList []).getD i 0).testBit pre.length = true := by
    intro i hi hs
    have := all_range hone i hs
    simp only [Bool.or_eq_true, Bool.and_eq_true, decide_eq_true_eq] at this
    rcases this with (h | h) | h
    · omega
    · omega
    · exact h.2
  have hcases : ∀ i o, ops[i]? = some o → (i < pre.length ∧ pre[i]? = some o) ∨ (i = pre.length ∧ o = ow) ∨ (∃ j, i = pre.length + 1 + j ∧ post[j]? = some o) := by
    intro i o ho
    rw [hget] at ho
    rcases Nat.lt_trichotomy i pre.length with h | h | h
    · exact .inl ⟨h, by rwa [List.getElem?_append_left h] at ho⟩
    · subst h
      rw [List.getElem?_append_right (Nat.le_refl _), Nat.sub_self] at ho
      simp at ho
      exact .inr (.inl ⟨rfl, ho.symm⟩)
    · obtain ⟨j, rfl⟩ : ∃ j, i = pre.length + 1 + j := ⟨i - pre.length - 1, by omega⟩
      rw [List.getElem?_append_right (by omega), show pre.length + 1 + j - pre.length = j + 1 by omega] at ho
      exact .inr (.inr ⟨j, rfl, by simpa using ho⟩)
  obtain ⟨v, hv⟩ : ∃ v : Nat → AV, v = fun i => if i < pre.length then v1 i else if i = pre.length then r else v2 (i - pre.length - 1) := ⟨_, rfl⟩
  obtain ⟨T, hT⟩ : ∃ T : Nat → List (Nat × AV), T = fun i => if i ≤ pre.length then T1 i else T2 (i - pre.length - 1) := ⟨_, rfl⟩
  obtain ⟨Hk, hHk⟩ : ∃ Hk : Nat → List OB, Hk = fun k => if k = 0 then a.H else H' := ⟨_, rfl⟩
  have step : ∀ i o, ops[i]? = some o → T (i + 1) = (match o.dst with | none => T i | some d => (d, v i) :: T i) ∧ ∀ k, (i < pre.length → k = 0) → (i = pre.length → k = 0) → (pre.length < i → k = 1) →
      StepR P n m R ops o ⟨only ops o (T i), Hk k, a.D⟩ (.val (v i) (Hk (k + (if (i == pre.length) = true then 1 else 0)))) := by
    intro i o ho
    rcases hcases i o ho with ⟨hi, hp⟩ | ⟨rfl, rfl⟩ | ⟨j, rfl, hp⟩
    · obtain ⟨q1, q2⟩ := ht1 i o hp
      have e1 : T i = T1 i := by rw [hT]; simp only; rw [if_pos (by omega)]
      have e2 : T (i + 1) = T1 (i + 1) := by rw [hT]; simp only; rw [if_pos (by omega)]
      have e3 : v i = v1 i := by rw [hv]; simp only; rw [if_pos hi]
      have e4 : (i == pre.length) = false := by simpa using (show i ≠ pre.length by omega)
      refine ⟨by rw [e1, e2, e3]; exact q1, fun k hk _ _ => ?_⟩
      rw [hk hi, e1, e3, e4, hHk]
      exact q2
    · have e1 : T pre.length = T1 pre.length := by rw [hT]; simp only; rw [if_pos (Nat.le_refl _)]
      have e2 : T (pre.length + 1) = T2 0 := by rw [hT]; simp only; rw [if_neg (by omega)]; congr 1; omega
      have e3 : v pre.length = r := by rw [hv]; simp
      refine ⟨by rw [e1, e2, e3, k0], fun k _ hk _ => ?_⟩
      rw [hk rfl, e1, e3, hHk]
      simp only [beq_self_eq_true, if_true]
      exact hw
    · obtain ⟨q1, q2⟩ := ht2 j o hp
      have e1 : T (pre.length + 1 + j) = T2 j := by rw [hT]; simp only; rw [if_neg (by omega)]; congr 1; omega
      have e2 : T (pre.length + 1 + j + 1) = T2 (j + 1) := by rw [hT]; simp only; rw [if_neg (by omega)]; congr 1; omega
      have e3 : v (pre.length + 1 + j) = v2 j := by rw [hv]; simp only; rw [if_neg (by omega), if_neg (by omega)]; congr 1; omega
      have e4 : (pre.length + 1 + j == pre.length) = false := by simpa using (show pre.length + 1 + j ≠ pre.length by omega)
      refine ⟨by rw [e1, e2, e3]; exact q1, fun k _ _ hk => ?_⟩
      rw [hk (by omega), e1, e3, e4, hHk]
      exact q2
  have hin : pre.length < ops.size := by omega
  refine W.drawF (af := a) v T Hk (fun i => i == pre.length) (fun i j => ((mkTab ops.toList []).getD i 0).testBit j) hm hf (by rw [hT]; simp only; rw [if_pos (Nat.zero_le _)]; exact g0) (fun i o ho => (step i o ho).1) (by rw [hHk]; rfl) ?_ ?_ ?_ ?_ ?_ ?_
  · intro i o e ho he hb
    have := hstI i o ho
    simp only [Bool.and_eq_true] at this
    have h1 := List.all_eq_true.1 this.1.1.1 e (Array.mem_toList_iff.2 he)
    simpa [hb] using h1
  · intro i j o ho hj
    have := hstI i o ho
    simp only [Bool.and_eq_true, beq_iff_eq] at this
    have h1 := this.1.1.2
    simp only [h1] at hj
    unfold maskOf at hj
    rcases foldl_or _ _ _ _ hj with h2 | ⟨e, he, hb, hje⟩
    · simp at h2
    · exact ⟨e, Array.mem_toList_iff.1 he, hb, hje⟩
  · intro i o t j o' ho ht ho' hd
    have := hstI i o ho
    simp only [Bool.and_eq_true] at this
    have h1 := all_range (List.all_eq_true.1 this.1.2 t ht) j (Array.getElem?_eq_some_iff.1 ho').1
    rw [ho'] at h1
    simpa [dstB, hd] using h1
  · intro i j o o' d ho ho' hd hd'
    have := hstI i o ho
    simp only [Bool.and_eq_true, hd] at this
    have h1 := all_range this.2 j (Array.getElem?_eq_some_iff.1 ho').1
    rw [ho'] at h1
    have : j = i := by simpa [dstB, hd'] using h1
    exact this.symm
  · intro i o k ho hlo hup
    have hi : i < ops.size := (Array.getElem?_eq_some_iff.1 ho).1
    have hup' : k ≤ if pre.length < ops.size ∧ (!((mkTab ops.toList []).getD pre.length 0).testBit i && !(pre.length == i)) = true then 1 else 0 := by
      rw [← cnt_one (p := pre.length) (q := fun j => !((mkTab ops.toList []).getD j 0).testBit i && !(j == i))]
      refine Nat.le_trans hup (cnt_le fun j _ hj => ?_)
      simp only [Bool.and_eq_true] at hj ⊢
      exact ⟨hj.1.1, hj.1.2, hj.2⟩
    have hlo' : (if pre.length < ops.size ∧ ((mkTab ops.toList []).getD i 0).testBit pre.length = true then 1 else 0) ≤ k := by
      rw [← cnt_one (p := pre.length) (q := fun j => ((mkTab ops.toList []).getD i 0).testBit j)]
      exact hlo
    refine (step i o ho).2 k ?_ ?_ ?_
    · intro h
      rw [if_neg (by rw [hbef i h]; simp)] at hup'
      omega
    · intro h
      rw [if_neg (by simp [h])] at hup'
      omega
    · intro h
      rw [if_pos ⟨hin, hbeh i h hi⟩] at hlo'
      split at hup' <;> omega
  · have hc1 : cnt ops.size (fun i => i == pre.length) = 1 := by
      have := cnt_one (p := pre.length) (q := fun _ => true) ops.size
      simp only [Bool.and_true, and_true] at this
      rw [this, if_pos hin]
    rw [hc1, hHk, hT]
    simp only
    rw [if_neg (by omega), if_neg (by omega), show ops.size - pre.length - 1 = post.length by omega]
    exact hq
end
end Go.Av
namespace Go.Av
set_option linter.unusedVariables false
set_option linter.unusedSimpArgs false
open Go.RowKit (Below)

def isApp (o : Op) : Bool :=
  match o with
  | .call c => match c.callee with
    | .builtin .append => true
    | _ => false
  | _ => false

/-- The operations in the order of the text: appends write, nothing else looks at memory. -/
def EDm (P : Program) (ops : Array Oper) (Q : St → Prop) : List CR → List Oper → St → Prop
  | _, [], a => Q a
  | rs, o :: rest, a => match gdA ops a o.guard with
    | none => False
    | some false => EDm P ops Q rs rest (a.put o.dst (.tup []))
    | some true => match callOf a o.op with
      | some (f, args) => match rs with
        | .pure (.ret r) :: rs => match f with
          | .fn f => AV.hfs args = true ∧ PureFn P f args (.ret r) ∧ EDm P ops Q rs rest (a.put o.dst r)
          | .yld _ => False
        | _ => False
      | none => match isPanic o.op with
        | some _ => False
        | none => if isApp o.op = true then (match evalOp P o.op a with
          | some (v, H') => EDm P ops Q rs rest ({ a with H := H' }.put o.dst v)
          | none => False) else ∃ v, (∀ K, evalOp P o.op { a with H := K } = some (v, K)) ∧ EDm P ops Q rs rest (a.put o.dst v)

theorem cnt_tail {p : Nat → Bool} {i : Nat} (h : ∀ j, i ≤ j → p j = false) : ∀ n, cnt n p ≤ cnt i p
  | 0 => by simp [cnt]
  | n + 1 => by
    rw [cnt]
    by_cases hn : i ≤ n
    · rw [h n hn]; simpa using cnt_tail h n
    · have : n + 1 ≤ i := by omega
      have h2 := cnt_mono (p := p) this
      rwa [cnt] at h2

/-- The appends come one behind the other. -/
def chainStatic (ops : Array Oper) (tab : List Nat) : Bool :=
  (List.range ops.size).all fun i => (List.range ops.size).all fun j => match ops[i]?, ops[j]? with
    | some o, some o' => !(decide (i < j) && isApp o.op && isApp o'.op) || (tab.getD j 0).testBit i
    | _, _ => true

section
variable {P : Program} {n m : Nat} {R : Option Nat} {a : St} {Q : Ex → St → Prop} {ops : Array Oper}

open Classical in
theorem EDm_step (hf : fits n ops = true) {o : Oper} {Q' : St → Prop} {rs : List CR} {rest : List Oper} (h : EDm P ops Q' rs (o :: rest) a) :
    ∃ v H' rs', (isApp o.op = true → StepR P n m R ops o ⟨only ops o a.T, a.H, a.D⟩ (.val v H')) ∧ (isApp o.op = false → H' = a.H ∧ ∀ K, StepR P n m R ops o ⟨only ops o a.T, K, a.D⟩ (.val v K)) ∧ EDm P ops Q' rs' rest ({ a with H := H' }.put o.dst v) := by
  have nocall : CallsRight P (fun _ _ _ => none) := fun _ _ _ _ _ h => by cases h
  have hself : ∀ v, ({ a with H := a.H } : St).put o.dst v = a.put o.dst v := fun v => rfl
  unfold EDm at h
  split at h
  · exact h.elim
  · rename_i hg
    have hgo : ∀ K, gdA ops ⟨only ops o a.T, K, a.D⟩ o.guard = some false := fun K => by rw [only_gd (a := a)]; exact hg
    refine ⟨_, a.H, rs, fun _ => ?_, fun _ => ⟨rfl, fun K => ?_⟩, h⟩
    · exact stepA_ok (call := fun _ _ _ => none) (a := ⟨only ops o a.T, a.H, a.D⟩) nocall hf (by simp [stepA, hgo])
    · exact stepA_ok (call := fun _ _ _ => none) (a := ⟨only ops o a.T, K, a.D⟩) nocall hf (by simp [stepA, hgo])
  · rename_i hg
    have hgo : ∀ K, gdA ops ⟨only ops o a.T, K, a.D⟩ o.guard = some true := fun K => by rw [only_gd (a := a)]; exact hg
    have hco : ∀ K, callOf ⟨only ops o a.T, K, a.D⟩ o.op = callOf a o.op := fun K => callOf_congr o.op (fun x hx => only_ev (ops := ops) (o := o) (a := a) hx)
    split at h
    · rename_i f args hc
      split at h
      · rename_i r rs'
        split at h
        · rename_i f
          obtain ⟨hh, hp, hq⟩ := h
          have hst : ∀ K, StepR P n m R ops o ⟨only ops o a.T, K, a.D⟩ (.val r K) := by
            intro K
            refine stepA_ok (call := fun c x H => if c = .fn f ∧ x = args ∧ H = K then some (.ret r, K) else none) (a := ⟨only ops o a.T, K, a.D⟩) ?_ hf ?_
            · intro c x H out H' hh2
              simp only at hh2
              split at hh2
              · rename_i hcond
                obtain ⟨rfl, rfl, rfl⟩ := hcond
                cases hh2
                exact PureFn.sh (show lend H x (.ret r) = some x by unfold lend; rw [if_pos hh]) hp
              · cases hh2
            · simp [stepA, hgo, hco, hc]
          exact ⟨r, a.H, rs', fun _ => hst a.H, fun _ => ⟨rfl, hst⟩, hq⟩
        · exact h.elim
      · exact h.elim
    · rename_i hc
      split at h
      · exact h.elim
      · rename_i hpn
        by_cases happ : isApp o.op = true
        · rw [if_pos happ] at h
          split at h
          · rename_i v H' hev
            refine ⟨v, H', rs, fun _ => ?_, (fun hno => absurd (happ.symm.trans hno) (by simp)), h⟩
            refine stepA_ok (call := fun _ _ _ => none) (a := ⟨only ops o a.T, a.H, a.D⟩) nocall hf ?_
            have : evalOp P o.op ⟨only ops o a.T, a.H, a.D⟩ = some (v, H') :=
              (evalOp_congr (a := ⟨only ops o a.T, a.H, a.D⟩) (b := a) rfl o.op (fun x hx => only_ev (ops := ops) (o := o) (a := a) hx)).trans hev
            simp [stepA, hgo, hco, hc, hpn, this]
          · exact h.elim
        · rw [if_neg happ] at h
          obtain ⟨v, hev, hq⟩ := h
          have hst : ∀ K, StepR P n m R ops o ⟨only ops o a.T, K, a.D⟩ (.val v K) := by
            intro K
            refine stepA_ok (call := fun _ _ _ => none) (a := ⟨only ops o a.T, K, a.D⟩) nocall hf ?_
            have : evalOp P o.op ⟨only ops o a.T, K, a.D⟩ = some (v, K) :=
              (evalOp_congr (a := ⟨only ops o a.T, K, a.D⟩) (b := ⟨a.T, K, a.D⟩) rfl o.op (fun x hx => only_ev (ops := ops) (o := o) (a := ⟨a.T, K, a.D⟩) hx)).trans (hev K)
            simp [stepA, hgo, hco, hc, hpn, this]
          exact ⟨v, a.H, rs, fun h1 => (happ h1).elim, fun _ => ⟨rfl, hst⟩, hq⟩

theorem EDm_trace (hf : fits n ops = true) {Q' : St → Prop} : ∀ {l : List Oper} {rs : List CR} {a : St}, EDm P ops Q' rs l a →
    ∃ (v : Nat → AV) (T : Nat → List (Nat × AV)) (Hs : Nat → List OB), T 0 = a.T ∧ Hs 0 = a.H ∧ Q' ⟨T l.length, Hs l.length, a.D⟩ ∧ ∀ (i : Nat) (o : Oper), l[i]? = some o →
      T (i + 1) = (match o.dst with | none => T i | some d => (d, v i) :: T i) ∧ (isApp o.op = true → StepR P n m R ops o ⟨only ops o (T i), Hs i, a.D⟩ (.val (v i) (Hs (i + 1)))) ∧
      (isApp o.op = false → Hs (i + 1) = Hs i ∧ ∀ K, StepR P n m R ops o ⟨only ops o (T i), K, a.D⟩ (.val (v i) K)) := by
  intro l
  induction l with
  | nil => intro rs a h; exact ⟨fun _ => .junk, fun _ => a.T, fun _ => a.H, rfl, rfl, h, by simp⟩
  | cons o l ih =>
    intro rs a h
    obtain ⟨v0, H0, rs', h1, h2, h3⟩ := EDm_step (R := R) (m := m) hf h
    obtain ⟨v, T, Hs, g1, g2, g3, g4⟩ := ih h3
    have hH : ({ a with H := H0 }.put o.dst v0 : St).H = H0 := by cases o.dst <;> rfl
    have hD : ({ a with H := H0 }.put o.dst v0 : St).D = a.D := by cases o.dst <;> rfl
    rw [hD] at g3 g4
    rw [hH] at g2
    refine ⟨fun i => match i with | 0 => v0 | i + 1 => v i, fun i => match i with | 0 => a.T | i + 1 => T i, fun i => match i with | 0 => a.H | i + 1 => Hs i, rfl, rfl, g3, ?_⟩
    intro i o' hi
    cases i with
    | zero =>
      simp at hi; subst hi
      refine ⟨?_, fun hw => ?_, fun hw => ?_⟩
      · show T 0 = _
        rw [g1]; cases o.dst <;> rfl
      · show StepR P n m R ops o ⟨only ops o a.T, a.H, a.D⟩ (.val v0 (Hs 0))
        rw [g2]; exact h1 hw
      · show Hs 0 = a.H ∧ _
        rw [g2]; exact h2 hw
    | succ i => exact g4 i o' (by simpa using hi)

end
end Go.Av
