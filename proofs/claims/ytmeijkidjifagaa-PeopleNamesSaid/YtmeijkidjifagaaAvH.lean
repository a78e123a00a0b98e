/- Conversions, make, literals, maps, len and its kin, over abstract values: under the conditions that the evaluator asks; a text without a program. -/
import Derived.Test.YtmeijkidjifagaaAvG
import Derived.Lib.ConvBytes
import Derived.Laws.BytesString
namespace Go.Av
open Go.RowKit (Below)
set_option linter.unusedVariables false

/-- Bytes as cells, and back. -/
def byteA (b : UInt8) : AV := .int .u8 b.toNat
def bytesA (s : Bytes) : List AV := s.map byteA
def unbyte : List AV → Option Bytes
  | [] => some []
  | .int .u8 n :: r => if 0 ≤ n ∧ n < 256 then (unbyte r).map fun s => UInt8.ofNat n.toNat :: s else none
  | _ :: _ => none

theorem byte_range (b : UInt8) : 0 ≤ (b.toNat : Int) ∧ (b.toNat : Int) < 256 := ⟨by omega, by have := b.toNat_lt; omega⟩
theorem unbyte_bytesA (s : Bytes) : unbyte (bytesA s) = some s := by
  induction s with
  | nil => rfl
  | cons b s ih =>
    simp only [bytesA, List.map_cons, byteA, unbyte]
    rw [if_pos (byte_range b)]
    have : unbyte (List.map byteA s) = some s := ih
    rw [this]
    simp

section
variable {P : Program} {w0 : World} {F0 F : Nat → Nat → Prop} {μ : Nat → Option Loc} {H : List OB} {w : World}

def evConv (P : Program) (src dst : TypeId) (x : AV) (H : List OB) : Option (AV × List OB) :=
  match P.underlying src, P.underlying dst, x with
  | some _, some (.int k), .int _ n => some (.int k (k.wrap n), H)
  | some _, some .string, .str s => some (.str s, H)
  | some _, some (.slice e), .str s => match P.underlying e with
    | some (.int .u8) => some (.sl H.length 0 s.length 0, H ++ [.cells (bytesA s) true])
    | _ => none
  | some (.slice e), some .string, .sl id off len 0 => match P.underlying e, H[id]? with
    | some (.int .u8), some (.cells cs _) => if off + len ≤ cs.length then (unbyte ((cs.drop off).take len)).map fun s => (.str s, H) else none
    | _, _ => none
  | some (.slice e), some .string, .vsl wd _ es => match P.underlying e with
    | some (.int .u8) => if wd = 0 ∨ es = [] then (unbyte es).map fun s => (.str s, H) else none
    | _ => none
  | _, _, _ => none

theorem unbyte_vals {cs : List AV} {Vs : List Value} {s : Bytes} (h : VRs F w μ cs Vs) (hs : unbyte cs = some s) :
    ∃ ns : List Int, Vs = ns.map (Value.int .u8) ∧ ns.map (fun n => UInt8.ofNat n.toNat) = s ∧ s.length = cs.length := by
  induction cs generalizing Vs s with
  | nil => cases h; simp [unbyte] at hs; subst hs; exact ⟨[], rfl, rfl, rfl⟩
  | cons c cs ih =>
    cases h with
    | cons _ V _ Vs h t =>
      unfold unbyte at hs
      split at hs
      · cases ‹_ :: _ = []›
      · rename_i n r heq
        simp only [List.cons.injEq] at heq
        obtain ⟨rfl, rfl⟩ := heq
        split at hs
        · cases hr : unbyte cs with
          | none => rw [hr] at hs; cases hs
          | some s' =>
            rw [hr] at hs; cases hs
            obtain ⟨ns, h1, h2, h3⟩ := ih t hr
            cases h
            exact ⟨n :: ns, by simp [h1], by simp [h2], by simp [h3]⟩
        · cases hs
      · cases hs

theorem fold_push (ns : List Int) (b : ByteArray) : ns.foldl (fun r n => r.push (UInt8.ofNat n.toNat)) b = ⟨(b.data.toList ++ ns.map (fun n => UInt8.ofNat n.toNat)).toArray⟩ := by
  induction ns generalizing b with
  | nil => cases b; simp
  | cons n ns ih =>
    simp only [List.foldl_cons, ih, List.map_cons]
    congr 1
    cases b
    simp [ByteArray.push]

theorem run_to_string {src dst e : TypeId} (hs : P.underlying src = some (.slice e)) (he : P.underlying e = some (.int .u8)) (hd : P.underlying dst = some .string) {b o len cap : Nat} {cs : List AV} {Vs : List Value} {s : Bytes}
    (h : VRs F w μ cs Vs) (hl : cs.length = len) (hu : unbyte cs = some s) (hc : ∀ (j : Nat) (V : Value), Vs[j]? = some V → w.cell? ⟨b, o + j, none⟩ = some V) :
    (convert src dst (.slice (some ⟨b, o, none⟩) len cap)).run P w = .ok (.string ⟨s.toArray⟩) w := by
  obtain ⟨ns, h1, h2, h3⟩ := unbyte_vals h hu
  rw [run_convert_bytes_string w src dst e _ _ _ hs he hd]
  have hlen : Vs.length = len := by rw [VRs.len h, hl]
  have hload := run_loadCells_list (P := P) w ⟨b, o, none⟩ Vs (fun j V hj => by rw [add_plain]; exact hc j V hj)
  rw [hlen] at hload
  rw [run_bytesToString w ⟨b, o, none⟩ len cap ns (by rw [hload, h1]), fold_push, h2]
  simp

theorem evConv_ok (s : Sim w0 F0 F μ H w) {src dst : TypeId} {x v : AV} {X : Value} {H' : List OB} (hx : VR F w μ x X) (h : evConv P src dst x H = some (v, H')) :
    DoesV P (convert src dst X) w0 F0 F μ w v H' := by
  unfold evConv at h
  split at h
  · rename_i d k kk n hs hd
    cases h
    cases hx
    exact .pure_ s (by simp [convert, run_underlying hs, run_underlying hd, Conv.intToInt]) (.int _ _)
  · rename_i d sb hs hd
    cases h
    cases hx with
    | str _ hb => exact .pure_ s (V := .string ⟨sb.toArray⟩) (by cases d <;> simp [convert, run_underlying hs, run_underlying hd]) (.str _ hb)
  · rename_i d e sb hs hd
    split at h
    · rename_i he
      cases h
      cases hx with
      | str _ hb =>
        have hrun := Lib.run_convert_string_bytes (P := P) w src dst e ⟨sb.toArray⟩ hs hd he
        rw [str_size] at hrun
        have hcap : sb.length ≤ grownCap w sb.length 0 e := cut_cap _ _ _ _
        generalize hcells : Lib.bytesCells w e ⟨sb.toArray⟩ = c at *
        have hcs : c = (sb.map fun b => Value.int .u8 b.toNat).toArray ++ Array.replicate (grownCap w sb.length 0 e - sb.length) (.int .u8 0) := by
          rw [← hcells]; unfold Lib.bytesCells; rw [str_size]; simp
        have hsz : c.size = grownCap w sb.length 0 e := by rw [hcs]; simp; omega
        obtain ⟨μ', x1, h2, s2⟩ := s.alloc (.cells c e (c.size, c.size + 1)) (.cells (bytesA sb) true) ⟨w.heap.size, 0, grownCap w sb.length 0 e⟩ rfl (fun μ' x hμ' hF => by
          refine .cells _ _ ⟨w.heap.size, 0, _⟩ c e c.size (c.size + 1) hμ' s.below.size (by rw [push_get]; exact if_pos rfl) (by show 0 + grownCap w sb.length 0 e ≤ _; omega) (by show (bytesA sb).length ≤ _; unfold bytesA; simpa using hcap) (fun h => by cases h)
            (fun o h1 h2 h3 => by have h5 : o < 0 + grownCap w sb.length 0 e := h2; omega) ?_ hF
          intro i v hi
          unfold bytesA at hi
          rw [List.getElem?_map] at hi
          cases hb' : sb[i]? with
          | none => rw [hb'] at hi; cases hi
          | some b =>
            rw [hb'] at hi; cases hi
            refine ⟨.int .u8 b.toNat, ?_, .int _ _⟩
            show c[0 + i]? = _
            have hlt := (List.getElem?_eq_some_iff.1 hb').1
            rw [hcs, Nat.zero_add, Array.getElem?_append_left (by simpa using hlt), List.getElem?_toArray, List.getElem?_map, hb']
            rfl)
        have hheap : (Lib.bytesWorld w e ⟨sb.toArray⟩).heap = w.heap.push (.cells c e (c.size, c.size + 1)) := by
          apply Array.ext_getElem?
          intro j
          rw [Array.getElem?_push]
          rcases Nat.lt_trichotomy j w.heap.size with hj | hj | hj
          · rw [if_neg (by omega)]; exact Lib.bytesWorld_at_old w e _ j hj
          · subst hj; rw [if_pos rfl, Lib.bytesWorld_at_new, hcells]
          · rw [if_neg (by omega), Array.getElem?_eq_none (by rw [Lib.bytesWorld_size]; omega), Array.getElem?_eq_none (by omega)]
        obtain ⟨x3, s3⟩ := s2.same (w' := Lib.bytesWorld w e ⟨sb.toArray⟩) hheap (by simp [Lib.bytesWorld, World.freeze, World.alloc, World.drew, -World.alloc_eq, -World.drew_eq]) (by simp [Lib.bytesWorld, World.freeze, World.alloc, World.drew, -World.alloc_eq, -World.drew_eq]) (by simp [Lib.bytesWorld, World.freeze, World.alloc, World.drew, -World.alloc_eq, -World.drew_eq])
        refine ⟨_, _, F, μ', hrun, x1.trans x3, s3, ?_⟩
        exact .sl H.length 0 sb.length 0 _ ⟨w.heap.size, 0, grownCap w sb.length 0 e⟩ h2 (by show 0 + grownCap w sb.length 0 e * 1 = grownCap w sb.length 0 e; omega) hcap hb
    · cases h
  · rename_i e id off len hs hd
    split at h
    · rename_i cs opn he hid
      split at h
      · rename_i hle
        cases hu : unbyte ((cs.drop off).take len) with
        | none => rw [hu] at h; cases h
        | some sb =>
          rw [hu] at h; cases h
          cases hx with
          | sl _ _ _ _ cap L hμ hc hl hb =>
            cases s.obs id _ hid with
            | cells _ _ L' c el lo hi hμ' hB hw hcap hlen hfix hun hcs hF =>
              rw [hμ] at hμ'; cases hμ'
              obtain ⟨Vs, h3, h4⟩ := cells_read (F := F) (w := w) (μ := μ) (cs := (cs.drop off).take len) (g := fun i => w.cell? ⟨L.block, L.off + off + i, none⟩) (fun i v hiv => by
                rw [List.getElem?_take] at hiv
                split at hiv
                · rw [List.getElem?_drop] at hiv
                  obtain ⟨V, h5, h6⟩ := hcs _ v hiv
                  exact ⟨V, by rw [cell_eq w _ _ c el (lo, hi) hw, show L.off + off + i = L.off + (off + i) from by omega]; exact h5, h6⟩
                · cases hiv)
              have hlen2 : ((cs.drop off).take len).length = len := by simp; omega
              obtain ⟨_, _, _, h9⟩ := unbyte_vals h3 hu
              exact .pure_ s (run_to_string hs he hd h3 hlen2 hu h4) (.str _ (by rw [h9, hlen2]; exact hb))
      · cases h
    · cases h
  · rename_i e wd ex es hs hd
    split at h
    · rename_i he
      split at h
      · rename_i hwd
        cases hu : unbyte es with
        | none => rw [hu] at h; cases h
        | some sb =>
          rw [hu] at h; cases h
          cases hx with
          | vsl _ _ _ A cap hxx hl hb ha =>
            have nilcase : es = [] → DoesV P (convert src dst (.slice A es.length cap)) w0 F0 F μ w (.str sb) H := by
              rintro rfl
              simp [unbyte] at hu; subst hu
              refine .pure_ s (V := .string ⟨([] : Bytes).toArray⟩) ?_ (.str [] (Nat.zero_le _))
              cases A with
              | none => simp [convert, run_underlying hs, run_underlying hd, run_underlying he, Conv.bytesToString]; rfl
              | some a =>
                rw [run_convert_bytes_string w src dst e _ _ _ hs he hd]
                have := run_bytesToString (P := P) w a 0 cap [] (by simp [loadCells, loadCellsFrom])
                rw [List.length_nil]; exact this
            generalize hz : esz wd = size at ha
            cases ha with
            | nil _ A => exact nilcase rfl
            | «at» _ _ b o he' =>
              rcases hwd with h0 | h0
              · subst h0
                have : size = 1 := by rw [← hz]; rfl
                subst this
                have hm : VRm F w μ es b o := .of fun i v hi => by
                  obtain ⟨h5, h6⟩ := he'.get hi
                  rw [Nat.mul_one] at h6
                  have hne : v.cells = [v] := by
                    have hcell : ∀ (l : List AV) (k : Nat) (u : AV) (sb : Bytes), unbyte l = some sb → l[k]? = some u → u.cells = [u] := by
                      intro l
                      induction l with
                      | nil => intro k u sb _ hk; simp at hk
                      | cons a l ih =>
                        intro k u sb hub hk
                        unfold unbyte at hub
                        split at hub
                        · cases ‹_ :: _ = []›
                        · rename_i n r heq
                          simp only [List.cons.injEq] at heq
                          obtain ⟨rfl, rfl⟩ := heq
                          split at hub
                          · cases hr : unbyte l with
                            | none => rw [hr] at hub; cases hub
                            | some s' =>
                              cases k with
                              | zero => simp at hk; subst hk; rfl
                              | succ k => exact ih k u s' hr (by simpa using hk)
                          · cases hub
                        · cases hub
                    exact hcell es i v sb hu hi
                  rw [hne] at h6
                  have := h6.get (i := 0) (v := v) rfl
                  simpa using this
                obtain ⟨Vs, h3, h4⟩ := cells_read (F := F) (w := w) (μ := μ) (g := fun i => w.cell? ⟨b, o + i, none⟩) (fun i v hi => (hm.get hi).2)
                obtain ⟨_, _, _, h9⟩ := unbyte_vals h3 hu
                exact .pure_ s (run_to_string hs he hd h3 rfl hu h4) (.str _ (by rw [h9]; exact hb))
              · exact nilcase h0
      · cases h
    · cases h
  · cases h

/-! ### len, cap -/

def evLen (P : Program) (t : TypeId) (x : AV) (H : List OB) : Option AV :=
  match P.underlying t, x with
  | some .string, .str s => some (.int .i64 s.length)
  | some (.slice _), .vsl _ _ es => some (.int .i64 es.length)
  | some (.slice _), .sl _ _ len _ => some (.int .i64 len)
  | some (.map _ _), .nilmap => some (.int .i64 0)
  | some (.map _ _), .map id => match H[id]? with
    | some (.map ks _) => some (.int .i64 ks.length)
    | _ => none
  | some (.map _ _), .vmap ks _ => some (.int .i64 ks.length)
  | some (.array n _), _ => some (.int .i64 n)
  | _, _ => none

theorem VRk.len {ks vs : List AV} {es : List MapEntry} (h : VRk F w μ ks vs es) : es.length = ks.length ∧ vs.length = ks.length := by
  induction ks generalizing vs es with
  | nil => cases h; exact ⟨rfl, rfl⟩
  | cons k ks ih => cases h with | cons _ v _ vs e es hk hv t => have := ih t; simp [this]

theorem evLen_ok (s : Sim w0 F0 F μ H w) {t rT : TypeId} {x v : AV} {X : Value} (hx : VR F w μ x X) (h : evLen P t x H = some v) : DoesV P (Builtin.len_ #[t] rT #[X]) w0 F0 F μ w v H := by
  unfold evLen at h
  split at h
  · rename_i sb hu
    cases h
    cases hx with
    | str _ hb => exact .pure_ s (by simp [Builtin.len_, run_underlying hu, goInt, str_size]) (.int _ _)
  · rename_i e wd ex es hu
    cases h
    cases hx with
    | vsl _ _ _ A cap hxx hl hb ha => exact .pure_ s (by simp [Builtin.len_, run_underlying hu, goInt]) (.int _ _)
  · rename_i e id off len wd hu
    cases h
    cases hx with
    | sl _ _ _ _ cap L hμ hc hl hb => exact .pure_ s (by simp [Builtin.len_, run_underlying hu, goInt]) (.int _ _)
  · rename_i a b hu
    cases h
    cases hx
    exact .pure_ s (by simp [Builtin.len_, run_underlying hu, goInt]) (.int _ _)
  · rename_i a b id hu
    split at h
    · rename_i ks vs hid
      cases h
      cases hx with
      | map _ L hμ =>
        cases s.obs id _ hid with
        | map _ _ L' es clock hμ' hB hw hes hb hF =>
          rw [hμ] at hμ'; cases hμ'
          have := (VRk.len hes).1
          rw [Array.length_toList] at this
          refine .pure_ s (V := .int .i64 ks.length) ?_ (.int _ _)
          rw [← this]
          simp [Builtin.len_, run_underlying hu, goInt, getObj, Sem.run, hw]
    · cases h
  · rename_i a b ks vs hu
    cases h
    cases hx with
    | vmap _ _ r es clock hF hr hbb hes =>
      have := (VRk.len hes).1
      rw [Array.length_toList] at this
      refine .pure_ s (V := .int .i64 ks.length) ?_ (.int _ _)
      rw [← this]
      simp [Builtin.len_, run_underlying hu, goInt, getObj, Sem.run, hr]
  · rename_i n e hu
    cases h
    exact .pure_ s (V := .int .i64 n) (by cases X <;> simp [Builtin.len_, run_underlying hu, goInt]) (.int _ _)
  · cases h

def evCap (P : Program) (t : TypeId) (x : AV) : Option AV :=
  match P.underlying t, x with
  | some (.slice _), .vsl _ true es => some (.int .i64 es.length)
  | _, _ => none

theorem evCap_ok (s : Sim w0 F0 F μ H w) {t rT : TypeId} {x v : AV} {X : Value} (hx : VR F w μ x X) (h : evCap P t x = some v) : DoesV P (Builtin.cap_ #[t] rT #[X]) w0 F0 F μ w v H := by
  unfold evCap at h
  split at h
  · rename_i e wd es hu
    cases h
    cases hx with
    | vsl _ _ _ A cap hxx hl hb ha => rw [hxx rfl]; exact .pure_ s (by simp [Builtin.cap_, run_underlying hu, goInt]) (.int _ _)
  · cases h
end
end Go.Av
