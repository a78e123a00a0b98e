/- Contracts of functions that the statements of this seat reach: under the conditions named at each theorem. -/
import Derived.Test.YtjlhemfmeboadaaGreatDoorZeP4
import Derived.Test.YtjlhemfmeboadaaGreatDoorZeP5
namespace Go.Proofs.YtjlhemfmeboadaaGreatDoor
set_option linter.unusedVariables false
set_option linter.unusedSimpArgs false
open Go Go.Av

theorem nload114 {H:List OB} {id off:Nat} {cs:List AV} {opn:Bool} {x:Int} (hid:H[id]? = some (.cells cs opn)) (hx:cs[off]? = some (.int .u32 x)):ShFn Tryz.prog 114 [.ptr id off] H (.ret (.int .u32 x)) H:=
 nat_load Tryz.func114 (by kernel_rfl) (by kernel_rfl) (by kernel_rfl) .u32 (by kernel_rfl) hid hx
theorem nstore138 {H:List OB} {id off:Nat} {cs:List AV} {opn:Bool} {v:AV} {y:Int} (hid:H[id]? = some (.cells cs opn)) (hx:cs[off]? = some v):ShFn Tryz.prog 138 [.ptr id off,.int .u32 y] H (.ret (.tup [])) (H.set id (.cells (cs.set off (.int .u32 y)) opn)):=
 nat_store Tryz.func138 (by kernel_rfl) (by kernel_rfl) (by kernel_rfl) (by kernel_rfl) hid hx
theorem ncas153 {H : List OB} {id off : Nat} {cs : List AV} {opn : Bool} {x y : Int} (hid : H[id]? = some (.cells cs opn)) (hx : cs[off]? = some (.int .i32 x)) :
    ShFn Tryz.prog 153 [.ptr id off, .int .i32 x, .int .i32 y] H (.ret (.bool true)) (H.set id (.cells (cs.set off (.int .i32 y)) opn)) :=
  nat_cas Tryz.func153 (by kernel_rfl) (by kernel_rfl) (by kernel_rfl) .i32 (by kernel_rfl) hid hx
theorem nadd158 {H : List OB} {id off : Nat} {cs : List AV} {opn : Bool} {x y : Int} (hid : H[id]? = some (.cells cs opn)) (hx : cs[off]? = some (.int .i32 x)) :
    ShFn Tryz.prog 158 [.ptr id off, .int .i32 y] H (.ret (.int .i32 (IntKind.wrap .i32 (x + y)))) (H.set id (.cells (cs.set off (.int .i32 (IntKind.wrap .i32 (x + y)))) opn)) :=
  nat_add Tryz.func158 (by kernel_rfl) (by kernel_rfl) (by kernel_rfl) .i32 (by kernel_rfl) hid hx
theorem ndis152 (H:List OB):ShFn Tryz.prog 152 [] H (.ret (.tup [])) H:=nat_mark0 Tryz.func152 (by kernel_rfl) (by kernel_rfl) (by kernel_rfl) .disable (by kernel_rfl)
theorem nena154 (H:List OB):ShFn Tryz.prog 154 [] H (.ret (.tup [])) H:=nat_mark0 Tryz.func154 (by kernel_rfl) (by kernel_rfl) (by kernel_rfl) .enable (by kernel_rfl)
theorem nacq155 (H:List OB) (id off:Nat):ShFn Tryz.prog 155 [.ptr id off] H (.ret (.tup [])) H:=nat_marked Tryz.func155 (by kernel_rfl) (by kernel_rfl) (by kernel_rfl) .acquire (by kernel_rfl) id off
theorem nrel157 (H:List OB) (id off:Nat):ShFn Tryz.prog 157 [.ptr id off] H (.ret (.tup [])) H:=nat_marked Tryz.func157 (by kernel_rfl) (by kernel_rfl) (by kernel_rfl) .releaseMerge (by kernel_rfl) id off
theorem mixed:Tryz.prog.follows .mixedOrders = true:=by kernel_rfl
theorem load96 (v : Int) (cs : List AV) (opn : Bool) (b0 : OB) (rest : List OB) :
    ShFn Tryz.prog 96 [.ptr 1 0] (b0 :: .cells (.int .u32 v :: cs) opn :: rest) (.ret (.bool (v != 0))) (b0 :: .cells (.int .u32 v :: cs) opn :: rest) := by
  refine ShFn.ofX Tryz.func96 rfl (enters_call enters Tryz.func96 rfl) (by simp [Tryz.ntmps96]) ?_
  show W Tryz.prog 8 _ none _ _ _
  refine .seq (.region [] (by decide) ?_)
  simp only [EOps, gdA, callOf, isPanic, nextOf, altA, evalOp, St.ev, St.put, argT, ofV, thenQ]
  refine .seq (.region [.sh (.ret (.int .u32 v)) (b0 :: .cells (.int .u32 v :: cs) opn :: rest)] (by decide) ?_)
  simp only [EOps, gdA, callOf, isPanic, nextOf, altA, evalOp, St.ev, Av.get, St.put, ofV, thenQ, Nat.reduceEqDiff, ↓reduceIte, List.map_cons, List.map_nil, List.nil_append, List.append_nil, Option.map_some, List.length_cons, Nat.add_zero, evNil, fa94_1, b_neq]
  refine ⟨nload114 rfl rfl, ?_⟩
  exact .ret ⟨_, rfl, rfl, _, rfl, rfl⟩

theorem b32139 (b:Bool):PureFn Tryz.prog 139 [.bool b] (.ret (.int .u32 (if b = true then 1 else 0))):=by
 refine PureFn.of Tryz.func139 rfl (enters_call enters Tryz.func139 rfl) (by simp [Tryz.ntmps139]) ?_
 show W Tryz.prog 4 _ none _ _ _
 refine .seq (.region [] (by decide) ?_)
 simp only [EOps,gdA,callOf,isPanic,nextOf,altA,evalOp,St.ev,St.put,argT,ofV,thenQ]
 refine .seq (.seq (.region [] (by decide) ?_))
 simp only [EOps,gdA,callOf,isPanic,nextOf,altA,evalOp,St.ev,Av.get,St.put,thenQ,Nat.reduceEqDiff,↓reduceIte]
 cases b
 ·refine .cond (t:=false) rfl (.skip ?_)
  simp only [thenQ,↓reduceIte,Bool.false_eq_true]
  refine .seq (.region [] (by decide) ?_)
  simp only [EOps,gdA,callOf,isPanic,nextOf,altA,evalOp,St.ev,St.put,ofV,thenQ]
  exact .ret ⟨_,rfl,_,rfl,.refl _⟩
 ·refine .cond (t:=true) rfl (.seq (.region [] (by decide) ?_))
  simp only [EOps,gdA,callOf,isPanic,nextOf,altA,evalOp,St.ev,St.put,ofV,thenQ,↓reduceIte]
  exact .ret ⟨_,rfl,_,rfl,.refl _⟩
theorem storeB (v : Int) (cs : List AV) (opn : Bool) (b0 : OB) (rest : List OB) {fn : Func} (Q : Ex → St → Prop)
    (hq : ∀ T, Q .normal ⟨T, b0 :: .cells (.int .u32 1 :: cs) opn :: rest, []⟩) (c : Code) (hc : Tryz.f117.body = some c) :
    W Tryz.prog 10 (rest.length + 1 + 1) none c Q ⟨argT 0 [.ptr 1 0, .bool true], b0 :: .cells (.int .u32 v :: cs) opn :: rest, []⟩ := by
  cases hc
  refine W.drawW (pre := [_, _, _, _, _]) (ow := _) (post := []) (r := .tup []) (H' := b0 :: .cells (.int .u32 1 :: cs) opn :: rest) [.pure (.ret (.int .u32 1))] [] mixed (by kernel_rfl) rfl (by kernel_rfl) (by kernel_rfl) (by kernel_rfl) (by kernel_rfl) ?_
  simp only [EDf, gdA, callOf, isPanic, evalOp, St.ev, Av.get, St.put, argT, Nat.reduceEqDiff, ↓reduceIte, lend, AV.hfs, AV.hf, Bool.and_self, List.map_cons, List.map_nil, List.nil_append, List.append_nil, Option.map_some, and_self, true_and, Nat.add_zero, Nat.zero_add, evNil, fa94_1]
  refine ⟨b32139 true, _, _, rfl, ?_⟩
  exact ⟨nstore138 (H := b0 :: .cells (.int .u32 v :: cs) opn :: rest) (id := 1) (off := 0) (cs := .int .u32 v :: cs) (opn := opn) (v := .int .u32 v) (y := 1) rfl rfl, hq _⟩

theorem lock136 (v se : Int) (cs : List AV) (opn : Bool) (b0 : OB) (rest : List OB) :
    ShFn Tryz.prog 136 [.ptr 1 1] (b0 :: .cells (.int .u32 v :: .int .i32 0 :: .int .u32 se :: cs) opn :: rest) (.ret (.tup [])) (b0 :: .cells (.int .u32 v :: .int .i32 1 :: .int .u32 se :: cs) opn :: rest) := by
  have hup : ∀ x, evConv Tryz.prog 184 188 (.ptr 1 1) x = none := by intro x; simp [evConv, Tryz.underlying184, Tryz.underlying188]
  have hup2 : ∀ y cs, evUP Tryz.prog 184 188 (.ptr 1 1) (b0 :: .cells (.int .u32 v :: y :: cs) opn :: rest) = some (.ptr 1 1) := by
    intro y cs
    have : (Tryz.prog.info? 96).map (fun i => decide (i.size = 0)) = some false := by kernel_rfl
    simp [evUP, Tryz.underlying184, Tryz.underlying188, this]
  refine ShFn.ofX Tryz.func136 rfl (enters_call enters Tryz.func136 rfl) (by simp [Tryz.ntmps136]) ?_
  show W Tryz.prog 13 _ none _ _ _
  refine .seq (.region [.sh (.ret (.tup [])) (b0 :: .cells (.int .u32 v :: .int .i32 0 :: .int .u32 se :: cs) opn :: rest)] (by decide) ?_)
  simp only [EOps, gdA, callOf, St.ev, St.put, argT, thenQ, List.map_nil, List.append_nil, List.length_cons]
  refine ⟨ndis152 _, ?_⟩
  refine .seq (.seq (.region [.sh (.ret (.bool true)) (b0 :: .cells (.int .u32 v :: .int .i32 1 :: .int .u32 se :: cs) opn :: rest)] (by decide) ?_))
  simp only [EOps, gdA, callOf, isPanic, nextOf, altA, evalOp, St.ev, Av.get, St.put, ofV, thenQ, Nat.reduceEqDiff, ↓reduceIte, List.map_cons, List.map_nil, List.nil_append, List.append_nil, Option.map_some, Nat.add_zero, evNil, fa96_0]
  refine ⟨ncas153 (H := b0 :: .cells (.int .u32 v :: .int .i32 0 :: .int .u32 se :: cs) opn :: rest) (id := 1) (off := 1) (cs := .int .u32 v :: .int .i32 0 :: .int .u32 se :: cs) (opn := opn) (x := 0) (y := 1) rfl rfl, ?_⟩
  refine .cond (t := true) rfl (.seq (.cond (t := true) rfl ?_))
  refine .seq (.region [.sh (.ret (.tup [])) (b0 :: .cells (.int .u32 v :: .int .i32 1 :: .int .u32 se :: cs) opn :: rest)] (by decide) ?_)
  simp only [EOps, gdA, callOf, St.ev, St.put, thenQ, List.map_nil, List.append_nil]
  refine ⟨nena154 _, ?_⟩
  refine .region [.sh (.ret (.tup [])) (b0 :: .cells (.int .u32 v :: .int .i32 1 :: .int .u32 se :: cs) opn :: rest)] (by decide) ?_
  simp only [EOps, gdA, callOf, isPanic, nextOf, altA, evalOp, St.ev, Av.get, St.put, thenQ, Nat.reduceEqDiff, ↓reduceIte, List.map_cons, List.map_nil, List.nil_append, List.append_nil, Option.map_some, hup, hup2]
  refine ⟨nacq155 _ 1 1, ?_⟩
  exact .ret ⟨_, rfl, rfl, _, rfl, rfl⟩

theorem lock115 (v se : Int) (cs : List AV) (opn : Bool) (b0 : OB) (rest : List OB) :
    ShFn Tryz.prog 115 [.ptr 1 1] (b0 :: .cells (.int .u32 v :: .int .i32 0 :: .int .u32 se :: cs) opn :: rest) (.ret (.tup [])) (b0 :: .cells (.int .u32 v :: .int .i32 1 :: .int .u32 se :: cs) opn :: rest) := by
  refine ShFn.ofX Tryz.func115 rfl (enters_call enters Tryz.func115 rfl) (by simp [Tryz.ntmps115]) ?_
  show W Tryz.prog 6 _ none _ _ _
  refine .region [.sh (.ret (.tup [])) (b0 :: .cells (.int .u32 v :: .int .i32 1 :: .int .u32 se :: cs) opn :: rest)] (by decide) ?_
  simp only [EOps, gdA, callOf, isPanic, nextOf, altA, evalOp, St.ev, Av.get, St.put, argT, ↓reduceIte, List.map_cons, List.map_nil, List.nil_append, List.append_nil, Option.map_some, Nat.add_zero, evNil, fa98_1]
  exact ⟨lock136 _ _ _ _ _ _, ⟨_, rfl, rfl, _, rfl, rfl⟩⟩

theorem unlock137 (v se : Int) (cs : List AV) (opn : Bool) (b0 : OB) (rest : List OB) :
    ShFn Tryz.prog 137 [.ptr 1 1] (b0 :: .cells (.int .u32 v :: .int .i32 1 :: .int .u32 se :: cs) opn :: rest) (.ret (.tup [])) (b0 :: .cells (.int .u32 v :: .int .i32 0 :: .int .u32 se :: cs) opn :: rest) := by
  have hup : ∀ x, evConv Tryz.prog 184 188 (.ptr 1 1) x = none := by intro x; simp [evConv, Tryz.underlying184, Tryz.underlying188]
  have hup2 : ∀ y cs, evUP Tryz.prog 184 188 (.ptr 1 1) (b0 :: .cells (.int .u32 v :: y :: cs) opn :: rest) = some (.ptr 1 1) := by
    intro y cs
    have : (Tryz.prog.info? 96).map (fun i => decide (i.size = 0)) = some false := by kernel_rfl
    simp [evUP, Tryz.underlying184, Tryz.underlying188, this]
  refine ShFn.ofX Tryz.func137 rfl (enters_call enters Tryz.func137 rfl) (by simp [Tryz.ntmps137]) ?_
  show W Tryz.prog 21 _ none _ _ _
  refine .seq (.cond (t := true) rfl (.seq (.region [] (by decide) ?_)))
  simp only [EOps, gdA, callOf, isPanic, nextOf, altA, evalOp, St.ev, Av.get, St.put, argT, thenQ, ↓reduceIte, List.getElem?_cons_zero, List.getElem?_cons_succ, Option.map_some, ldC, List.length_cons, Nat.add_zero, evNil, fa96_0, ld21]
  refine .seq (.region [.sh (.ret (.tup [])) (b0 :: .cells (.int .u32 v :: .int .i32 1 :: .int .u32 se :: cs) opn :: rest)] (by decide) ?_)
  simp only [EOps, gdA, callOf, isPanic, nextOf, altA, evalOp, St.ev, Av.get, St.put, thenQ, Nat.reduceEqDiff, ↓reduceIte, List.map_cons, List.map_nil, List.nil_append, List.append_nil, Option.map_some, hup, hup2]
  refine ⟨nrel157 _ 1 1, ?_⟩
  refine .region [.sh (.ret (.tup [])) (b0 :: .cells (.int .u32 v :: .int .i32 1 :: .int .u32 se :: cs) opn :: rest)] (by decide) ?_
  simp only [EOps, gdA, callOf, St.ev, St.put, thenQ, List.map_nil, List.append_nil]
  refine ⟨ndis152 _, ?_⟩
  refine .seq (.region [.sh (.ret (.int .i32 0)) (b0 :: .cells (.int .u32 v :: .int .i32 0 :: .int .u32 se :: cs) opn :: rest)] (by decide) ?_)
  simp only [EOps, gdA, callOf, isPanic, nextOf, altA, evalOp, St.ev, Av.get, St.put, ofV, thenQ, Nat.reduceEqDiff, ↓reduceIte, List.map_cons, List.map_nil, List.nil_append, List.append_nil, Option.map_some, Nat.add_zero, evNil, fa96_0]
  refine ⟨nadd158 (H := b0 :: .cells (.int .u32 v :: .int .i32 1 :: .int .u32 se :: cs) opn :: rest) (id := 1) (off := 1) (cs := .int .u32 v :: .int .i32 1 :: .int .u32 se :: cs) (opn := opn) (x := 1) (y := -1) rfl rfl, ?_⟩
  refine .seq (.seq (.region [] (by decide) ?_))
  simp only [EOps, gdA, callOf, isPanic, nextOf, altA, evalOp, St.ev, Av.get, St.put, ofV, thenQ, ↓reduceIte, b_neq]
  refine .cond (t := false) rfl (.skip ?_)
  simp only [thenQ]
  refine .region [.sh (.ret (.tup [])) (b0 :: .cells (.int .u32 v :: .int .i32 0 :: .int .u32 se :: cs) opn :: rest)] (by decide) ?_
  simp only [EOps, gdA, callOf, St.ev, St.put, List.map_nil, List.append_nil]
  exact ⟨nena154 _, ⟨_, rfl, rfl, _, rfl, rfl⟩⟩

theorem dstore (v : Int) (cs : List AV) (opn : Bool) (b0 : OB) (rest : List OB) :
    DCall Tryz.prog 117 [.ptr 1 0, .bool true] .ret (b0 :: .cells (.int .u32 v :: cs) opn :: rest) .ret (b0 :: .cells (.int .u32 1 :: cs) opn :: rest) :=
  DCall.ofX Tryz.func117 rfl (enters_call enters Tryz.func117 rfl) (by simp [Tryz.ntmps117]) (storeB (fn := Tryz.f117) v cs opn b0 rest _ (fun T => ⟨rfl, ⟨_, rfl⟩, rfl⟩) _ rfl)

theorem dunlock (v se : Int) (cs : List AV) (opn : Bool) (b0 : OB) (rest : List OB) :
    DCall Tryz.prog 116 [.ptr 1 1] .ret (b0 :: .cells (.int .u32 v :: .int .i32 1 :: .int .u32 se :: cs) opn :: rest) .ret (b0 :: .cells (.int .u32 v :: .int .i32 0 :: .int .u32 se :: cs) opn :: rest) := by
  refine DCall.ofX Tryz.func116 rfl (enters_call enters Tryz.func116 rfl) (by simp [Tryz.ntmps116]) ?_
  show W Tryz.prog 6 _ none _ _ _
  refine .region [.sh (.ret (.tup [])) (b0 :: .cells (.int .u32 v :: .int .i32 0 :: .int .u32 se :: cs) opn :: rest)] (by decide) ?_
  simp only [EOps, gdA, callOf, isPanic, nextOf, altA, evalOp, St.ev, Av.get, St.put, argT, ↓reduceIte, List.map_cons, List.map_nil, List.nil_append, List.append_nil, Option.map_some, Nat.add_zero, evNil, fa98_1]
  exact ⟨unlock137 _ _ _ _ _ _, ⟨rfl, ⟨_, rfl⟩, rfl⟩⟩

theorem slow97 {g : FuncId} {fs : List AV} {r o r2 o2 : AV} {b0 : OB} {rest rest2 : List OB} (hlen : rest.length ≤ rest2.length)
    (hg : ShFn Tryz.prog g fs (b0 :: .cells [.int .u32 0, .int .i32 1, .int .u32 0, r, o] false :: rest) (.ret (.tup [])) (b0 :: .cells [.int .u32 0, .int .i32 1, .int .u32 0, r2, o2] false :: rest2)) :
    ShFn Tryz.prog 97 [.ptr 1 0, .func (.func g) fs []] (b0 :: .cells [.int .u32 0, .int .i32 0, .int .u32 0, r, o] false :: rest) (.ret (.tup [])) (b0 :: .cells [.int .u32 1, .int .i32 0, .int .u32 0, r2, o2] false :: rest2) := by
  refine ShFn.ofDX Tryz.func97 rfl (enters_call enters Tryz.func97 rfl) (by simp [Tryz.ntmps97]) ?_
  show W Tryz.prog 21 _ none _ _ _
  refine .seq (.region [.sh (.ret (.tup [])) (b0 :: .cells [.int .u32 0, .int .i32 1, .int .u32 0, r, o] false :: rest)] (by decide) ?_)
  simp only [EOps, gdA, callOf, isPanic, nextOf, altA, evalOp, St.ev, Av.get, St.put, argT, thenQ, ↓reduceIte, List.map_cons, List.map_nil, List.nil_append, List.append_nil, Option.map_some, List.length_cons, Nat.zero_add, evNil, fa100_2]
  refine ⟨lock115 0 0 [r, o] false b0 rest, ?_⟩
  refine .seq ?_
  refine W.deferR [_, _, _] _ _ [] rfl rfl rfl rfl ?_ ?_
  · decide
  simp only [EOps, gdA, callOf, isPanic, nextOf, altA, evalOp, St.ev, Av.get, St.put, thenQ, Nat.reduceEqDiff, ↓reduceIte, List.map_cons, List.map_nil, List.nil_append, Option.map_some, Nat.zero_add, deferQ, deferOf, evNil, fa100_2]
  refine ⟨_, rfl, ?_⟩
  refine .seq (.region [.sh (.ret (.bool false)) (b0 :: .cells [.int .u32 0, .int .i32 1, .int .u32 0, r, o] false :: rest)] (by decide) ?_)
  simp only [EOps, gdA, callOf, isPanic, nextOf, altA, evalOp, St.ev, Av.get, St.put, thenQ, Nat.reduceEqDiff, ↓reduceIte, List.map_cons, List.map_nil, List.nil_append, List.append_nil, Option.map_some, Bool.not_false, Nat.add_zero, evNil, fa100_1, evUn]
  refine ⟨load96 0 _ _ _ _, ?_⟩
  refine .cond (t := true) rfl (.seq ?_)
  refine W.deferR [_, _, _] _ _ [] rfl rfl rfl rfl ?_ ?_
  · decide
  simp only [EOps, gdA, callOf, isPanic, nextOf, altA, evalOp, St.ev, Av.get, St.put, ofV, thenQ, Nat.reduceEqDiff, ↓reduceIte, List.map_cons, List.map_nil, List.nil_append, Option.map_some, Nat.add_zero, deferQ, deferOf, evNil, fa100_1]
  refine ⟨_, rfl, ?_⟩
  refine .region [.sh (.ret (.tup [])) (b0 :: .cells [.int .u32 0, .int .i32 1, .int .u32 0, r2, o2] false :: rest2)] (by decide) ?_
  simp only [EOps, gdA, callOf, isPanic, nextOf, altA, evalOp, St.ev, Av.get, St.put, Nat.reduceEqDiff, ↓reduceIte, List.map_nil, List.append_nil]
  refine ⟨hg, ?_⟩
  exact ⟨.ret, b0 :: .cells [.int .u32 1, .int .i32 1, .int .u32 0, r2, o2] false :: rest2, dstore 0 _ _ _ _, .ret, b0 :: .cells [.int .u32 1, .int .i32 0, .int .u32 0, r2, o2] false :: rest2, dunlock 1 0 _ _ _ _, rfl, _, rfl, rfl⟩

theorem do76 {g : FuncId} {fs : List AV} {r o r2 o2 : AV} {b0 : OB} {rest rest2 : List OB} (hlen : rest.length ≤ rest2.length)
    (hg : ShFn Tryz.prog g fs (b0 :: .cells [.int .u32 0, .int .i32 1, .int .u32 0, r, o] false :: rest) (.ret (.tup [])) (b0 :: .cells [.int .u32 0, .int .i32 1, .int .u32 0, r2, o2] false :: rest2)) :
    ShFn Tryz.prog 76 [.ptr 1 0, .func (.func g) fs []] (b0 :: .cells [.int .u32 0, .int .i32 0, .int .u32 0, r, o] false :: rest) (.ret (.tup [])) (b0 :: .cells [.int .u32 1, .int .i32 0, .int .u32 0, r2, o2] false :: rest2) := by
  refine ShFn.ofX Tryz.func76 rfl (enters_call enters Tryz.func76 rfl) (by simp [Tryz.ntmps76]) ?_
  show W Tryz.prog 12 _ none _ _ _
  refine .seq (.region [.sh (.ret (.bool false)) (b0 :: .cells [.int .u32 0, .int .i32 0, .int .u32 0, r, o] false :: rest)] (by decide) ?_)
  simp only [EOps, gdA, callOf, isPanic, nextOf, altA, evalOp, St.ev, Av.get, St.put, argT, thenQ, ↓reduceIte, List.map_cons, List.map_nil, List.nil_append, List.append_nil, Option.map_some, Bool.not_false, List.length_cons, Nat.add_zero, Nat.zero_add, evNil, fa100_1, evUn]
  refine ⟨load96 0 _ _ _ _, ?_⟩
  refine .cond (t := true) rfl ?_
  refine .region [.sh (.ret (.tup [])) (b0 :: .cells [.int .u32 1, .int .i32 0, .int .u32 0, r2, o2] false :: rest2)] (by decide) ?_
  simp only [EOps, gdA, callOf, isPanic, nextOf, altA, evalOp, St.ev, Av.get, St.put, Nat.reduceEqDiff, ↓reduceIte, List.map_cons, List.map_nil, List.nil_append, List.append_nil]
  exact ⟨slow97 hlen hg, ⟨_, rfl, rfl, _, rfl, rfl⟩⟩
end Go.Proofs.YtjlhemfmeboadaaGreatDoor
