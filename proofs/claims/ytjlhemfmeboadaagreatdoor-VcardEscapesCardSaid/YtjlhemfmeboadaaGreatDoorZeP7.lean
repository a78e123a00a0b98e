/- A framework of abstract values: no program in sight; under the conditions named at each theorem. -/
import Derived.Test.YtjlhemfmeboadaaGreatDoorZeP5
import Derived.Test.YtjlhemfmeboadaaGreatDoorZeP3
import Derived.Shelf.Sort.Plain
import Derived.Shelf.Spec.SlicesGrow
import Derived.ProofKit
import Derived.OpenShut
namespace Go.Av
set_option linter.unusedVariables false
set_option linter.unusedSimpArgs false

def eqOB:OB→OB→Bool
 | .cells a x,.cells b y=>eqAs a b && x == y
 | .dead,.dead=>true
 | _,_=>false
def eqH:List OB→List OB→Bool
 | [],[]=>true
 | a::l,b::m=>eqOB a b && eqH l m
 | _,_=>false
theorem eqOB_eq:∀ {a b:OB},eqOB a b = true→a = b
 | .cells a x,b,h=>by
  cases b<;>simp [eqOB] at h
  rename_i c y
  obtain ⟨h1,h2⟩:=h
  rw [eqAs_eq h1,h2]
 | .dead,b,h=>by cases b<;>simp_all [eqOB]
 | .map _ _,b,h=>by simp [eqOB] at h
 | .loop _ _,b,h=>by simp [eqOB] at h
 | .dfr,b,h=>by simp [eqOB] at h
 | .iter _ _ _,b,h=>by simp [eqOB] at h
 | .siter _ _,b,h=>by simp [eqOB] at h
theorem eqH_eq:∀ {a b:List OB},eqH a b = true→a = b
 | [],b,h=>by cases b<;>simp_all [eqH]
 | x::l,b,h=>by
  cases b with
  | nil=>simp [eqH] at h
  | cons y m=>simp only [eqH,Bool.and_eq_true] at h; rw [eqOB_eq h.1,eqH_eq h.2]
def chk (C:List (Nat × AV)) (H:List OB) (b:St):Bool:=
 (C.all fun p=>eqA (get b.T p.1) p.2) && eqH b.H H && b.D.isEmpty
theorem holdsT_of {T:List (Nat × AV)}:∀ {C:List (Nat × AV)},(C.all fun p=>eqA (get T p.1) p.2) = true→holdsT T C
 | [],_=>trivial
 | (t,v)::r,h=>by
  simp only [List.all_cons,Bool.and_eq_true] at h
  exact ⟨eqA_eq h.1,holdsT_of h.2⟩
def wayN:Ways:={ pm:=fun f=>false,gm:=fun _=>false,conP:=fun _ _=>none,conS:=fun _ _ _=>none,fuel:=2000 }
theorem W.runs {P : Program} {n m : Nat} {c : Code} {Q : Ex → St → Prop} {a : St} (hm : P.follows .mixedOrders = true) (hN : Enters P) (d : Nat) (C : List (Nat × AV)) (H : List OB)
    (h : (match runC P (callN P wayN d) wayN.pm n false 2000 c a with | some (.normal, b) => chk C H b | _ => false) = true)
    (hq : Q .normal ⟨C, H, []⟩ ∨ ∀ b : St, holdsT b.T C → b.H = H → b.D = [] → Q .normal b) : W P n m none c Q a := by
  have hY : WaysRight P wayN := ⟨hm, hN, fun f args out h => (by cases h), fun f args H out H' h => (by cases h)⟩
  obtain ⟨h1, h2, h3⟩ := callN_ok hY d
  split at h
  case h_2 => cases h
  rename_i b hb
  have hw := runC_ok (m := m) (R := none) hm h1 h2 h3 (inr := false) (fun _ => rfl) 2000 c a _ hb
  simp only [chk, Bool.and_eq_true] at h
  obtain ⟨⟨g1, g2⟩, g3⟩ := h
  have e2 := eqH_eq g2
  have e3 : b.D = [] := by simpa using g3
  rcases hq with hq | hq
  · intro B act w r
    refine wpIn_mono (hw B act w r) ?_
    rintro e act' w' ⟨ex, a', F, μ, ⟨h8, h9⟩, x, s, y, t⟩
    simp only at h8 h9
    subst h8
    rw [h9] at s t
    obtain ⟨F', μ', s', y', t'⟩ := Rel.fewer (b := ⟨C, H, []⟩) (a := b) (holdsT_of g1) e2.symm e3.symm ⟨F, μ, s, y, t⟩
    cases x with
    | normal => exact ⟨.normal, _, F', μ', hq, .normal, s', y', t'⟩
  · refine hw.mono ?_
    rintro ex b' ⟨rfl, rfl⟩
    exact hq _ (holdsT_of g1) e2 e3
end Go.Av
namespace Go.Av
set_option linter.unusedVariables false
set_option linter.unusedSimpArgs false
open Go.RowKit (Below)

mutual
theorem hf_hlt {m:Nat}:∀ {v:AV},v.hf = true→v.hlt m = true
 | .ptr _ _,h | .sl _ _ _ _,h | .map _,h | .yld _,h=>by simp [AV.hf] at h
 | .vptr l,h=>by simp only [AV.hf] at h; simp only [AV.hlt]; exact hfs_hlts h
 | .vsl _ _ l,h=>by simp only [AV.hf] at h; simp only [AV.hlt]; exact hfs_hlts h
 | .vmap ks vs,h=>by
  simp only [AV.hf,Bool.and_eq_true] at h; simp only [AV.hlt,Bool.and_eq_true]; exact ⟨hfs_hlts h.1,hfs_hlts h.2⟩
 | .func _ fs cs,h=>by
  simp only [AV.hf,Bool.and_eq_true] at h; simp only [AV.hlt,Bool.and_eq_true]; exact ⟨hfs_hlts h.1,hfs_hlts h.2⟩
 | .iface _ v,h=>by simp only [AV.hf] at h; simp only [AV.hlt]; exact hf_hlt h
 | .agg l,h=>by simp only [AV.hf] at h; simp only [AV.hlt]; exact hfs_hlts h
 | .tup l,h=>by simp only [AV.hf] at h; simp only [AV.hlt]; exact hfs_hlts h
 | .junk,_ | .bool _,_ | .int _ _,_ | .str _,_ | .nilptr,_ | .nilmap,_ | .nilsl,_ | .nilfunc,_ | .nilif,_=>rfl
theorem hfs_hlts {m:Nat}:∀ {l:List AV},AV.hfs l = true→AV.hlts m l = true
 | [],_=>rfl
 | v::l,h=>by
  simp only [AV.hfs,Bool.and_eq_true] at h; simp only [AV.hlts,Bool.and_eq_true]; exact ⟨hf_hlt h.1,hfs_hlts h.2⟩
end

theorem strs_hfs (l:List Bytes):AV.hfs (l.map AV.str) = true:=by
 rw [hfs_all,List.all_eq_true]; intro v hv; obtain ⟨r,_,rfl⟩:=List.mem_map.1 hv; rfl
theorem strs_hlts (m:Nat) (l:List Bytes):AV.hlts m (l.map AV.str) = true:=hfs_hlts (strs_hfs l)
theorem strs_one (l:List Bytes):(l.map AV.str).all AV.one = true:=by
 rw [List.all_eq_true]; intro v hv; obtain ⟨r,_,rfl⟩:=List.mem_map.1 hv; rfl
theorem cells_strs (l:List Bytes):(l.map AV.str).flatMap AV.cells = l.map AV.str:=by
 induction l with
 | nil=>rfl
 | cons a l ih=>simp only [List.map_cons,List.flatMap_cons,ih]; rfl
theorem fz_hf {H:List OB} {k:Nat} {v:AV} (h:v.hf = true):fz H (k + 1) v = some v:=by
 unfold fz; rw [if_pos h]
theorem nat0:((0:Nat):Int) = 0:=rfl
theorem nat1:((1:Nat):Int) = 1:=rfl
theorem Le_rfl (v:AV):Le v v = True:=eq_true (.refl v)
theorem subT_skip {T:List (Nat × AV)} {t:Nat} {v:AV}:∀ {C:List (Nat × AV)},C.all (fun p=>p.1 != t) = true→subT T C→subT ((t,v)::T) C
 | [],_,_=>trivial
 | (s,u)::C,h,hs=>by
  simp only [List.all_cons,Bool.and_eq_true,bne_iff_ne] at h
  simp only [subT] at hs ⊢
  refine ⟨?_,subT_skip h.2 hs.2⟩
  simp only [get]
  rw [if_neg (fun e=>h.1 e.symm)]; exact hs.1
theorem retF {P:Program} {rs:List ResultVar} {a:St} {v u v':AV} (t:Nat) (hr:rs = [.tmp t]) (hD:a.D = []) (hg:Av.get a.T t = v) (hz:fz a.H 20 v = some u) (hl:Le u v'):retQ P rs (.ret v') .ret a:=by
 obtain ⟨T,H,D⟩:=a
 simp only at hD hg hz
 subst hD; subst hr; subst hg
 exact ⟨_,rfl,u,hz,hl⟩
theorem retT {P:Program} {rs:List ResultVar} {a:St} {v v':AV} (t:Nat) (hr:rs = [.tmp t]) (hD:a.D = []) (hg:Av.get a.T t = v) (hv:v.hf = true) (hl:Le v v'):retQ P rs (.ret v') .ret a:=
 retF t hr hD hg (fz_hf hv) hl
theorem W.forG {P : Program} {n m : Nat} {R : Option Nat} {a : St} {Q : Ex → St → Prop} {k1 k2 e ty ty1 ty2 : Nat} {o1 o2 o3 : Oper} {body : Code} (tI tL tC tU : Nat) (L : Nat) (hL : L ≤ maxLen')
    (d1 : o1.dst = some tC) (p1 : o1.op = .binOp .lss ty (.tmp tI) (.tmp tL) ty1) (g1 : o1.guard = none)
    (d2 : o2.dst = some tU) (p2 : o2.op = .binOp .add ty (.tmp tI) (.const (.int .i64 1)) ty2) (g2 : o2.guard = none)
    (d3 : o3.dst = some tI) (p3 : o3.op = .move (.tmp tU)) (g3 : o3.guard = none)
    (hf1 : fits n #[o1] = true) (hf2 : fits n #[o2, o3] = true)
    (ne : (tI != tL && tI != tC && tL != tC && tU != tI && tU != tL) = true)
    (C : Nat → List (Nat × AV)) (hC : ∀ i, (C i).all (fun p => p.1 != tI && p.1 != tU && p.1 != tC) = true) (Hx : Nat → List OB) (hm : ∀ i, m ≤ (Hx i).length) (ok : Nat → Prop)
    (hD : a.D = []) (h0 : ok 0) (hT : subT a.T ((tI, .int .i64 0) :: (tL, .int .i64 L) :: C 0)) (hh : ∀ i, ok i → hltT (Hx i).length (C i) = true) (hH : subH (Hx 0).length a.H (Hx 0))
    (round : ∀ i, i < L → ok i → W P n m R body (thenQ (fun a' => ok (i + 1) ∧ subT a'.T ((tI, .int .i64 i) :: (tL, .int .i64 L) :: C (i + 1)) ∧ subH (Hx (i + 1)).length a'.H (Hx (i + 1)) ∧ a'.D = []) Q) ⟨(tC, .bool true) :: (tI, .int .i64 i) :: (tL, .int .i64 L) :: C i, Hx i, []⟩)
    (behind : ok L → Q (.exit e) ⟨(tC, .bool false) :: (tI, .int .i64 L) :: (tL, .int .i64 L) :: C L, Hx L, []⟩) :
    W P n m R (.loop (.seq (.region k1 #[o1] false) (.seq (.cond (.tmp tC) .skip (.exit e)) (.seq body (.region k2 #[o2, o3] false))))) Q a := by
  simp only [Bool.and_eq_true, bne_iff_ne] at ne
  obtain ⟨⟨⟨⟨n1, n2⟩, n3⟩, n4⟩, n5⟩ := ne
  have hC' : ∀ i, (C i).all (fun p => p.1 != tI) = true ∧ (C i).all (fun p => p.1 != tU) = true ∧ (C i).all (fun p => p.1 != tC) = true := by
    intro i
    have h := hC i
    rw [List.all_eq_true] at h
    refine ⟨?_, ?_, ?_⟩ <;> rw [List.all_eq_true] <;> intro p hp <;> have := h p hp <;> simp only [Bool.and_eq_true] at this
    · exact this.1.1
    · exact this.1.2
    · exact this.2
  have refl : ∀ (Z : List (Nat × AV)) , subT Z [] := fun _ => trivial
  refine .loopG (X := Nat) (fun i => (tI, .int .i64 i) :: (tL, .int .i64 L) :: C i) Hx (fun i => i ≤ L ∧ ok i) (fun i => L - i) 0 hm hD ⟨Nat.zero_le _, h0⟩ hT (by simp only [hltT, AV.hlt, Bool.true_and]; exact hh 0 h0) hH ?_
  rintro i ⟨hi, hok⟩
  refine .seq (.region [] hf1 ?_)
  by_cases h : i < L
  · have hd : decide ((i : Int) < (L : Int)) = true := decide_eq_true (by omega)
    simp only [EOps, gdA, callOf, isPanic, altA, nextOf, evalOp, St.ev, Av.get, St.put, thenQ, g1, p1, d1, b_lss, hd, ↓reduceIte, n1]
    refine .seq (.cond (t := true) (by simp [St.ev, Av.get]) (.skip ?_))
    simp only [thenQ]
    refine .seq ((round i h hok).mono ?_)
    intro ex b hq
    cases ex with
    | normal =>
      obtain ⟨q1, q2, q3, q4⟩ := hq
      obtain ⟨T, K, D⟩ := b
      simp only at q2 q3 q4
      subst q4
      simp only [subT] at q2
      obtain ⟨r1, r2, r3⟩ := q2
      have e1 : Av.get T tI = .int .i64 (i : Int) := by generalize Av.get T tI = v at r1; cases r1; rfl
      have hadd : evBin P .add ty (.int .i64 (i : Int)) (.int .i64 1) = some (.int .i64 ((i + 1 : Nat) : Int)) := by
        rw [b_add64 _ _ (by simp only [maxLen'] at hL; omega)]; simp
      refine .region [] hf2 ?_
      have n4' : ¬ tU = tI := n4
      simp only [EOps, gdA, callOf, isPanic, altA, nextOf, evalOp, St.ev, Av.get, St.put, thenQ, g2, p2, d2, g3, p3, d3, e1, ofV, hadd, ↓reduceIte, List.cons.injEq, Option.map_some]
      refine ⟨i + 1, ⟨h, q1⟩, by omega, ?_, ?_, q3, trivial⟩
      · refine ⟨?_, ?_, ?_⟩
        · simp only [Av.get, ↓reduceIte]; exact .refl _
        · simp only [Av.get]
          rw [if_neg n1, if_neg n5]; exact r2
        · exact subT_skip (hC' (i + 1)).1 (subT_skip (hC' (i + 1)).2.1 r3)
      · simp only [hltT, AV.hlt, Bool.true_and]; exact hh _ q1
    | exit _ => exact hq
    | goto _ => exact hq
    | ret => exact hq
    | panic _ _ => exact hq
  · have hi' : i = L := by omega
    subst hi'
    simp only [EOps, gdA, callOf, isPanic, altA, nextOf, evalOp, St.ev, Av.get, St.put, thenQ, g1, p1, d1, b_lss, Int.lt_irrefl, decide_false, ↓reduceIte, n1]
    refine .seq (.cond (t := false) (by simp [St.ev, Av.get]) (.exit ?_))
    exact behind hok
theorem W.forK {P : Program} {n m : Nat} {R : Option Nat} {a : St} {Q : Ex → St → Prop} {k1 k2 e ty ty1 ty2 : Nat} {o1 o2 o3 : Oper} {body : Code} (tI tC tU : Nat) (L : Nat) (hL : L ≤ maxLen')
    (d1 : o1.dst = some tC) (p1 : o1.op = .binOp .lss ty (.tmp tI) (.const (.int .i64 L)) ty1) (g1 : o1.guard = none)
    (d2 : o2.dst = some tU) (p2 : o2.op = .binOp .add ty (.tmp tI) (.const (.int .i64 1)) ty2) (g2 : o2.guard = none)
    (d3 : o3.dst = some tI) (p3 : o3.op = .move (.tmp tU)) (g3 : o3.guard = none)
    (hf1 : fits n #[o1] = true) (hf2 : fits n #[o2, o3] = true)
    (ne : (tI != tC && tU != tI) = true)
    (C : Nat → List (Nat × AV)) (hC : ∀ i, (C i).all (fun p => p.1 != tI && p.1 != tU && p.1 != tC) = true) (Hx : Nat → List OB) (hm : ∀ i, m ≤ (Hx i).length) (ok : Nat → Prop)
    (hD : a.D = []) (h0 : ok 0) (hT : subT a.T ((tI, .int .i64 0) :: C 0)) (hh : ∀ i, ok i → hltT (Hx i).length (C i) = true) (hH : subH (Hx 0).length a.H (Hx 0))
    (round : ∀ i, i < L → ok i → W P n m R body (thenQ (fun a' => ok (i + 1) ∧ subT a'.T ((tI, .int .i64 i) :: C (i + 1)) ∧ subH (Hx (i + 1)).length a'.H (Hx (i + 1)) ∧ a'.D = []) Q) ⟨(tC, .bool true) :: (tI, .int .i64 i) :: C i, Hx i, []⟩)
    (behind : ok L → Q (.exit e) ⟨(tC, .bool false) :: (tI, .int .i64 L) :: C L, Hx L, []⟩) :
    W P n m R (.loop (.seq (.region k1 #[o1] false) (.seq (.cond (.tmp tC) .skip (.exit e)) (.seq body (.region k2 #[o2, o3] false))))) Q a := by
  simp only [Bool.and_eq_true, bne_iff_ne] at ne
  obtain ⟨n2, n4⟩ := ne
  have hC' : ∀ i, (C i).all (fun p => p.1 != tI) = true ∧ (C i).all (fun p => p.1 != tU) = true ∧ (C i).all (fun p => p.1 != tC) = true := by
    intro i
    have h := hC i
    rw [List.all_eq_true] at h
    refine ⟨?_, ?_, ?_⟩ <;> rw [List.all_eq_true] <;> intro p hp <;> have := h p hp <;> simp only [Bool.and_eq_true] at this
    · exact this.1.1
    · exact this.1.2
    · exact this.2
  have refl : ∀ (Z : List (Nat × AV)) , subT Z [] := fun _ => trivial
  refine .loopG (X := Nat) (fun i => (tI, .int .i64 i) :: C i) Hx (fun i => i ≤ L ∧ ok i) (fun i => L - i) 0 hm hD ⟨Nat.zero_le _, h0⟩ hT (by simp only [hltT, AV.hlt, Bool.true_and]; exact hh 0 h0) hH ?_
  rintro i ⟨hi, hok⟩
  refine .seq (.region [] hf1 ?_)
  by_cases h : i < L
  · have hd : decide ((i : Int) < (L : Int)) = true := decide_eq_true (by omega)
    simp only [EOps, gdA, callOf, isPanic, altA, nextOf, evalOp, St.ev, ofV, Av.get, St.put, thenQ, g1, p1, d1, b_lss, hd, ↓reduceIte]
    refine .seq (.cond (t := true) (by simp [St.ev, Av.get]) (.skip ?_))
    simp only [thenQ]
    refine .seq ((round i h hok).mono ?_)
    intro ex b hq
    cases ex with
    | normal =>
      obtain ⟨q1, q2, q3, q4⟩ := hq
      obtain ⟨T, K, D⟩ := b
      simp only at q2 q3 q4
      subst q4
      simp only [subT] at q2
      obtain ⟨r1, r3⟩ := q2
      have e1 : Av.get T tI = .int .i64 (i : Int) := by generalize Av.get T tI = v at r1; cases r1; rfl
      have hadd : evBin P .add ty (.int .i64 (i : Int)) (.int .i64 1) = some (.int .i64 ((i + 1 : Nat) : Int)) := by
        rw [b_add64 _ _ (by simp only [maxLen'] at hL; omega)]; simp
      refine .region [] hf2 ?_
      have n4' : ¬ tU = tI := n4
      simp only [EOps, gdA, callOf, isPanic, altA, nextOf, evalOp, St.ev, Av.get, St.put, thenQ, g2, p2, d2, g3, p3, d3, e1, ofV, hadd, ↓reduceIte, List.cons.injEq, Option.map_some]
      refine ⟨i + 1, ⟨h, q1⟩, by omega, ?_, ?_, q3, trivial⟩
      · refine ⟨?_, ?_⟩
        · simp only [Av.get, ↓reduceIte]; exact .refl _
        · exact subT_skip (hC' (i + 1)).1 (subT_skip (hC' (i + 1)).2.1 r3)
      · simp only [hltT, AV.hlt, Bool.true_and]; exact hh _ q1
    | exit _ => exact hq
    | goto _ => exact hq
    | ret => exact hq
    | panic _ _ => exact hq
  · have hi' : i = L := by omega
    subst hi'
    simp only [EOps, gdA, callOf, isPanic, altA, nextOf, evalOp, St.ev, Av.get, St.put, thenQ, g1, p1, d1, ofV, b_lss, Int.lt_irrefl, decide_false, ↓reduceIte]
    refine .seq (.cond (t := false) (by simp [St.ev, Av.get]) (.exit ?_))
    exact behind hok
theorem W.forR {P : Program} {n m : Nat} {R : Option Nat} {a : St} {Q : Ex → St → Prop} {k2 e ty2 ty : Nat} {o2 o3 o4 : Oper} {head body : Code} (tI tC tA tB : Nat) (s L : Nat) (hL : L ≤ maxLen') (hsL : s ≤ L)
    (d2 : o2.dst = some tA) (p2 : o2.op = .move (.tmp tI)) (g2 : o2.guard = none)
    (d3 : o3.dst = some tB) (p3 : o3.op = .binOp .add ty (.tmp tA) (.const (.int .i64 1)) ty2) (g3 : o3.guard = none)
    (d4 : o4.dst = some tI) (p4 : o4.op = .assign (.tmp tB)) (g4 : o4.guard = none)
    (hf2 : fits n #[o2, o3, o4] = true)
    (C : Nat → List (Nat × AV)) (hC : ∀ i, (C i).all (fun p => p.1 != tI && p.1 != tA && p.1 != tB) = true) (Hx : Nat → List OB) (hm : ∀ i, m ≤ (Hx i).length) (ok : Nat → Prop)
    (hD : a.D = []) (h0 : ok s) (hT : subT a.T ((tI, .int .i64 s) :: C s)) (hh : ∀ i, ok i → hltT (Hx i).length (C i) = true) (hH : subH (Hx s).length a.H (Hx s))
    (hd : ∀ i, i ≤ L → ok i → W P n m R head (thenQ (fun a' => Av.get a'.T tC = .bool (decide (i < L)) ∧ subT a'.T ((tI, .int .i64 i) :: C i) ∧ subH (Hx i).length a'.H (Hx i) ∧ a'.D = []) Q) ⟨(tI, .int .i64 i) :: C i, Hx i, []⟩)
    (round : ∀ i, i < L → ok i → W P n m R body (thenQ (fun a' => ok (i + 1) ∧ subT a'.T ((tI, .int .i64 i) :: C (i + 1)) ∧ subH (Hx (i + 1)).length a'.H (Hx (i + 1)) ∧ a'.D = []) Q) ⟨(tI, .int .i64 i) :: C i, Hx i, []⟩)
    (behind : ok L → Q (.exit e) ⟨(tC, .bool false) :: (tI, .int .i64 L) :: C L, Hx L, []⟩) :
    W P n m R (.loop (.seq (.seq head (.cond (.tmp tC) .skip (.exit e))) (.seq body (.region k2 #[o2, o3, o4] false)))) Q a := by
  have hC' : ∀ i, (C i).all (fun p => p.1 != tI) = true ∧ (C i).all (fun p => p.1 != tA) = true ∧ (C i).all (fun p => p.1 != tB) = true := by
    intro i
    have h := hC i
    rw [List.all_eq_true] at h
    refine ⟨?_, ?_, ?_⟩ <;> rw [List.all_eq_true] <;> intro p hp <;> have := h p hp <;> simp only [Bool.and_eq_true] at this
    · exact this.1.1
    · exact this.1.2
    · exact this.2
  refine .loopG (X := Nat) (fun i => (tI, .int .i64 i) :: C i) Hx (fun i => i ≤ L ∧ ok i) (fun i => L - i) s hm hD ⟨hsL, h0⟩ hT (by simp only [hltT, AV.hlt, Bool.true_and]; exact hh s h0) hH ?_
  rintro i ⟨hi, hok⟩
  have hbody : i < L → W P n m R (.seq body (.region k2 #[o2, o3, o4] false)) (thenQ (fun a' => ∃ y, (y ≤ L ∧ ok y) ∧ L - y < L - i ∧ subT a'.T ((tI, .int .i64 y) :: C y) ∧ hltT (Hx y).length ((tI, .int .i64 y) :: C y) = true ∧ subH (Hx y).length a'.H (Hx y) ∧ a'.D = []) Q) ⟨(tI, .int .i64 i) :: C i, Hx i, []⟩ := by
    intro h
    refine .seq ((round i h hok).mono ?_)
    intro ex b hq
    cases ex with
    | normal =>
      obtain ⟨q1, q2, q3, q4⟩ := hq
      obtain ⟨T, K, D⟩ := b
      simp only at q2 q3 q4
      subst q4
      simp only [subT] at q2
      obtain ⟨r1, r3⟩ := q2
      have e1 : Av.get T tI = .int .i64 (i : Int) := by generalize Av.get T tI = v at r1; cases r1; rfl
      have hadd : evBin P .add ty (.int .i64 (i : Int)) (.int .i64 1) = some (.int .i64 ((i + 1 : Nat) : Int)) := by
        rw [b_add64 _ _ (by simp only [maxLen'] at hL; omega)]; simp
      refine .region [] hf2 ?_
      simp only [EOps, gdA, callOf, isPanic, altA, nextOf, evalOp, St.ev, Av.get, St.put, thenQ, g2, p2, d2, g3, p3, d3, g4, p4, d4, e1, ofV, hadd, ↓reduceIte, List.cons.injEq, Option.map_some]
      refine ⟨i + 1, ⟨h, q1⟩, by omega, ?_, ?_, q3, trivial⟩
      · refine ⟨?_, ?_⟩
        · simp only [Av.get, ↓reduceIte]; exact .refl _
        · exact subT_skip (hC' (i + 1)).1 (subT_skip (hC' (i + 1)).2.2 (subT_skip (hC' (i + 1)).2.1 r3))
      · simp only [hltT, AV.hlt, Bool.true_and]; exact hh _ q1
    | exit _ => exact hq
    | goto _ => exact hq
    | ret => exact hq
    | panic _ _ => exact hq
  refine .seq (.seq ((hd i hi hok).mono ?_))
  intro ex b hq
  cases ex with
  | normal =>
    obtain ⟨q1, q2, q3, q4⟩ := hq
    obtain ⟨T, K, D⟩ := b
    simp only at q1 q2 q3 q4
    subst q4
    by_cases h : i < L
    · refine .cond (t := true) (by show Av.get T tC = _; rw [q1]; simp [h]) (.skip ?_)
      exact W.weaken ⟨(tI, .int .i64 i) :: C i, Hx i, []⟩ ⟨rfl, rfl⟩ (hm i) q2 (by simp only [hltT, AV.hlt, Bool.true_and]; exact hh i hok) q3 (hbody h)
    · refine W.weaken ⟨(tC, .bool false) :: (tI, .int .i64 i) :: C i, Hx i, []⟩ ⟨rfl, rfl⟩ (hm i) ⟨by rw [q1]; simp only [h, decide_false, Av.get, ↓reduceIte]; exact .refl _, q2⟩ (by simp only [hltT, AV.hlt, Bool.true_and]; exact hh i hok) q3 ?_
      refine .cond (t := false) (by simp [St.ev, Av.get]) (.exit ?_)
      have hi' : i = L := by omega
      subst hi'
      exact behind hok
  | exit _ => exact hq
  | goto _ => exact hq
  | ret => exact hq
  | panic _ _ => exact hq
end Go.Av
namespace Go.Av
set_option linter.unusedVariables false
set_option linter.unusedSimpArgs false
section
variable {α:Type}
def grow (B:List OB) (f:α→AV):List α→List OB
 | []=>B
 | x::t=>B++(List.replicate t.length .dead++[.cells (((x::t).map f).flatMap AV.cells) true])
theorem cells_len {wd:Nat} {l:List AV} (h:∀ v ∈ l,v.cells.length = esz wd):(l.flatMap AV.cells).length = l.length * esz wd:=by
 induction l with
 | nil=>simp
 | cons v l ih=>
  rw [List.flatMap_cons,List.length_append,h v (by simp),ih (fun u hu=>h u (List.mem_cons_of_mem _ hu)),List.length_cons,Nat.add_mul,Nat.one_mul,Nat.add_comm]
theorem subH_self {m:Nat}:∀ {H:List OB},H.all (OB.hlt m) = true→subH m H H
 | [],_=>trivial
 | b::H,h=>by
  simp only [List.all_cons,Bool.and_eq_true] at h
  cases b<;>simp only [subH]<;>first | exact ⟨trivial,h.1,subH_self h.2⟩ | exact subH_self h.2
end
end Go.Av
namespace Go.Av
set_option linter.unusedVariables false
set_option linter.unusedSimpArgs false
section
variable {α:Type}
def flatA (f:α→AV) (L:List α):List AV:=(L.map f).flatMap AV.cells
theorem flatA_app (f:α→AV) (L:List α) (x:α):flatA f (L++[x]) = flatA f L++(f x).cells:=by simp [flatA]
theorem flatA_one (f:α→AV) (x:α):flatA f [x] = (f x).cells:=by simp [flatA]
theorem flatA_len {f:α→AV} {wd:Nat} (hf:∀ x,(f x).cells.length = esz wd) (L:List α):(flatA f L).length = L.length * esz wd:=by
 rw [flatA,cells_len (wd:=wd) (by intro v hv; obtain ⟨a,_,rfl⟩:=List.mem_map.1 hv; exact hf a)]; simp
def slIn (wd:Nat) (f:α→AV) (M:List OB) (v:AV) (L:List α):Prop:=
 (L = []∧∃ w,v = .vsl w true [])∨(∃ d,v = .sl d 0 L.length wd∧M[d]? = some (.cells (flatA f L) true))
theorem slIn_app {P : Program} {sT e : TypeId} {wd bytes : Nat} (hu : P.underlying sT = some (.slice e)) (ha : apT P e = some (esz wd, wd, bytes)) (f : α → AV) (hf : ∀ x, (f x).cells.length = esz wd) (hc : ∀ x, (f x).cells.all AV.isC = true) (hz : 0 < esz wd)
    {M : List OB} {v : AV} {L : List α} (h : slIn wd f M v L) (x : α) (y : Bool) (hb : (L.length + 1) * bytes ≤ 2 ^ 47) :
    ∃ M', evAppend P sT sT v (.vsl wd y [f x]) M = some (.sl M.length 0 (L.length + 1) wd, M') ∧ M'.length = M.length + 1 ∧ M'[M.length]? = some (.cells (flatA f (L ++ [x])) true) ∧ ∀ i, i < M.length → v ≠ .sl i 0 L.length wd → M'[i]? = M[i]? := by
  have hnew : newsA (esz wd) (.vsl wd y [f x]) = fun H => some (1, (f x).cells) := by funext H; simp [newsA]
  rcases h with ⟨rfl, w, rfl⟩ | ⟨d, rfl, hd⟩
  · have hold : newsA (esz wd) (.vsl w true []) = fun H => some (0, []) := by funext H; simp [newsA]
    refine ⟨M ++ [.cells (f x).cells true], ?_, by simp, by simp [flatA_one], fun i hi _ => List.getElem?_append_left hi⟩
    simp only [evAppend, hu, apX, ha, newsX, hnew, hold, List.nil_append, List.length_nil, Nat.zero_add]
    rw [if_neg (by omega), if_pos (by simpa using hb)]
  · have hlen : (flatA f L).length = L.length * esz wd := flatA_len hf L
    have hdl : d < M.length := (List.getElem?_eq_some_iff.1 hd).1
    have hnot : ¬ ((L.length + 1) * esz wd ≤ (flatA f L).length) := by rw [hlen, Nat.add_mul]; omega
    refine ⟨M.set d .dead ++ [.cells (flatA f L ++ (f x).cells) true], ?_, by simp, ?_, ?_⟩
    · simp only [evAppend, hu, apX, ha, newsX, hnew, hd]
      rw [if_pos ⟨trivial, hc x, hb, by rw [hlen]; omega⟩]
      rw [hlen] at hnot
      simp only [Nat.zero_add, hlen, if_true, List.drop_zero]
      rw [if_neg hnot]
    · rw [List.getElem?_append_right (by simp), flatA_app]; simp
    · intro i hi hne
      rw [List.getElem?_append_left (by simpa using hi), List.getElem?_set, if_neg]
      rintro rfl
      exact hne rfl

theorem chunk_flat {wd n:Nat} (hn:0 < n):∀ (l:List AV),(∀ v ∈ l,∃ cs,v = .agg cs∧cs.length = n)→chunkA n l.length (l.flatMap AV.cells) = l
 | [],_=>rfl
 | v::l,h=>by
  obtain ⟨cs,rfl,hc⟩:=h v (by simp)
  have hcell:AV.cells (.agg cs) = cs:=rfl
  rw [List.length_cons,List.flatMap_cons,hcell,chunkA]
  rw [List.take_left' hc,List.drop_left' hc,chunk_flat (wd:=wd) hn l (fun u hu=>h u (List.mem_cons_of_mem _ hu))]
theorem slIn_fz {f:α→AV} {n k:Nat} {M:List OB} {v:AV} {L:List α} (hn:0 < n) (hf:∀ x,∃ cs,f x = .agg cs∧cs.length = n) (hh:∀ x,AV.hfs (f x).cells = true) (h:slIn (n + 1) f M v L):∃ u,fz M (k + 1) v = some u∧Le u (.vsl (n + 1) false (L.map f)):=by
 rcases h with ⟨rfl,w,rfl⟩ | ⟨d,rfl,hd⟩
 ·exact ⟨_,rfl,.nil _ _ _⟩
 ·refine ⟨.vsl (n + 1) false (L.map f),?_,.refl _⟩
  have hlen:(flatA f L).length = L.length * esz (n + 1):=flatA_len (wd:=n + 1) (fun x=>by obtain ⟨cs,h1,h2⟩:=hf x; rw [h1]; exact h2) L
  have hhf:AV.hfs (flatA f L) = true:=by
   rw [hfs_all,flatA,List.all_flatMap,List.all_eq_true]
   intro u hu
   obtain ⟨a,_,rfl⟩:=List.mem_map.1 hu
   rw [← hfs_all]; exact hh a
  have ht:((flatA f L).drop 0).take (L.length * esz (n + 1)) = flatA f L:=by rw [List.drop_zero,List.take_of_length_le (by omega)]
  have hck:chunkA n L.length (flatA f L) = L.map f:=by
   have:=chunk_flat (wd:=0) hn (L.map f) (by intro u hu; obtain ⟨a,_,rfl⟩:=List.mem_map.1 hu; exact hf a)
   simpa [flatA] using this
  unfold fz
  rw [if_neg (by simp [AV.hf])]
  simp only [hd,ht,hhf,if_true]
  rw [if_pos (by omega)]
  simp only [Option.bind_some,hck]
end
end Go.Av
namespace Go.Av
set_option linter.unusedVariables false
set_option linter.unusedSimpArgs false

end Go.Av
namespace Go.Av
set_option linter.unusedVariables false
set_option linter.unusedSimpArgs false
section
variable {α:Type}
end
end Go.Av
namespace Go.Av
set_option linter.unusedVariables false
set_option linter.unusedSimpArgs false
open Go.RowKit (Below)
open Go.Sort (putRow Holds)

variable {P:Program}
end Go.Av
namespace Go.Av
set_option linter.unusedVariables false
set_option linter.unusedSimpArgs false
section
variable {α:Type}
end

open Go.RowKit (Below)
end Go.Av
namespace Go.Av
set_option linter.unusedVariables false
set_option linter.unusedSimpArgs false
open Go Go.ChangeShapes Go.WideShapes Go.ChangeAt Go.RowKit

def allF (w:World):Nat→Nat→Prop:=fun b _=>b < w.heap.size
section
variable {H:Type} {enc:TypeId × Value→H} {P:Program} {w:World} {base:Nat} {sp:Nat→Bool} {held:Bool} {fuel:Nat} {x:DataW H × List MemPlace} {cs:List Value} {t e:TypeId}
def Opens (enc:TypeId × Value→H) (P:Program) (w:World) (base:Nat) (sp:Nat→Bool) (held:Bool) (t:TypeId) (good:AV→Prop):Prop:=
 ∀ (fuel:Nat) (cs:List Value) (x:DataW H × List MemPlace),DataW.trod enc P w base sp held fuel t cs = some x→∃ v,good v∧VRs (allF w) w noμ v.cells cs
theorem opens_str (ht:P.underlying t = some .string):Opens enc P w base sp held t (fun v=>∃ s,v = .str s):=by
 intro fuel cs x h
 obtain ⟨s,rfl,_,hs⟩:=DataW.trod_string ht h
 refine ⟨.str s.data.toList,⟨_,rfl⟩,?_⟩
 have:VR (allF w) w noμ (.str s.data.toList) (.string ⟨s.data.toList.toArray⟩):=.str _ (by simpa [maxLen',maxLen] using hs)
 exact .cons _ _ _ _ this .nil
end
end Go.Av
