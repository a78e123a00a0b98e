/- Contracts of functions that the statements of this seat reach: under the conditions named at each theorem. -/
import Derived.Test.YtekcidbpejicdaaGreatDoorZaP4
import Derived.Test.YtekcidbpejicdaaGreatDoorZaP6
import Derived.Test.YtekcidbpejicdaaGreatDoorZaP7
import Derived.Test.YtekcidbpejicdaaGreatDoorZaP5
namespace Go.Proofs.YtekcidbpejicdaaGreatDoor
set_option linter.unusedVariables false
set_option linter.unusedSimpArgs false
attribute [go_sem] lw3 st4 ld4 lw4 st5
attribute [go_sem] st9 ld9 lw9 ls9 ss9
attribute [go_sem] Iy Ds kA Kt sf Dt tZ vW iS F9 Du vX Dv
attribute [go_sem] Ga IB gQ Gc ID
attribute [go_sem] IG oW ua vY vZ AY wa wb Gf gR sg Gh
attribute [go_sem] IJ Kz KA si wc we wg KC zb
attribute [go_sem] Gj KF KH KI Gl Gn Gq
attribute [go_sem] Gr Gs Gu Gw Gy
attribute [go_sem] KM
attribute [go_sem] IQ KR
attribute [go_sem] IU
attribute [go_sem] sj xB Fu
attribute [go_sem] sm nZ sn
attribute [go_sem] oa so xC sq xD
attribute [go_sem] Fx Fy
attribute [go_sem] DL DN
attribute [go_sem] KT
attribute [go_sem] KU KV Bf KW KX KY
attribute [go_sem] KZ K0 K3
open Go Go.Av
theorem Bg{H:List OB}{id off:Nat}{cs:List AV}{opn:Bool}{x:Int}(hid:H[id]? =some (.cells cs opn))(hx:cs[off]? =some (.int .u32 x)):bF Tryz.prog 199 [.ptr id off] H (.ret (.int .u32 x)) H:=
 AS Tryz.func199 (by kernel_rfl) (by kernel_rfl) (by kernel_rfl) .u32 (by kernel_rfl) hid hx
theorem zl{H:List OB}{id off:Nat}{cs:List AV}{opn:Bool}{v:AV}{y:Int}(hid:H[id]? =some (.cells cs opn))(hx:cs[off]? =some v):bF Tryz.prog 220 [.ptr id off,.int .u32 y] H (.ret (.tup [])) (H.set id (.cells (cs.set off (.int .u32 y)) opn)):=
 yZ Tryz.func220 (by kernel_rfl) (by kernel_rfl) (by kernel_rfl) (by kernel_rfl) hid hx
theorem D3{H:List OB}{id off:Nat}{cs:List AV}{opn:Bool}{x y:Int}(hid:H[id]? =some (.cells cs opn))(hx:cs[off]? =some (.int .i32 x)):
    bF Tryz.prog 230 [.ptr id off,.int .i32 x,.int .i32 y] H (.ret (.bool true)) (H.set id (.cells (cs.set off (.int .i32 y)) opn)):=
  Dq Tryz.func230 (by kernel_rfl) (by kernel_rfl) (by kernel_rfl) .i32 (by kernel_rfl) hid hx
theorem D4{H:List OB}{id off:Nat}{cs:List AV}{opn:Bool}{x y:Int}(hid:H[id]? =some (.cells cs opn))(hx:cs[off]? =some (.int .i32 x)):
    bF Tryz.prog 235 [.ptr id off,.int .i32 y] H (.ret (.int .i32 (IntKind.wrap .i32 (x+y)))) (H.set id (.cells (cs.set off (.int .i32 (IntKind.wrap .i32 (x+y)))) opn)):=
  Dr Tryz.func235 (by kernel_rfl) (by kernel_rfl) (by kernel_rfl) .i32 (by kernel_rfl) hid hx
theorem xK(H:List OB):bF Tryz.prog 229 [] H (.ret (.tup [])) H:=qQ Tryz.func229 (by kernel_rfl) (by kernel_rfl) (by kernel_rfl) .disable (by kernel_rfl)
theorem xL(H:List OB):bF Tryz.prog 231 [] H (.ret (.tup [])) H:=qQ Tryz.func231 (by kernel_rfl) (by kernel_rfl) (by kernel_rfl) .enable (by kernel_rfl)
theorem D5(H:List OB)(id off:Nat):bF Tryz.prog 232 [.ptr id off] H (.ret (.tup [])) H:=oS Tryz.func232 (by kernel_rfl) (by kernel_rfl) (by kernel_rfl) .acquire (by kernel_rfl) id off
theorem D6(H:List OB)(id off:Nat):bF Tryz.prog 234 [.ptr id off] H (.ret (.tup [])) H:=oS Tryz.func234 (by kernel_rfl) (by kernel_rfl) (by kernel_rfl) .releaseMerge (by kernel_rfl) id off
theorem mixed:Tryz.prog.follows .mixedOrders=true:=by kernel_rfl
theorem xM(v:Int)(cs:List AV)(opn:Bool)(b0:OB)(rest:List OB):
    bF Tryz.prog 174 [.ptr 1 0] (b0::.cells (.int .u32 v::cs) opn::rest) (.ret (.bool (v !=0))) (b0::.cells (.int .u32 v::cs) opn::rest):=by
  refine bF.ofX Tryz.func174 rfl (ab enters Tryz.func174 rfl) (by simp[Tryz.ntmps174]) ?_;show W Tryz.prog 8 _ none _ _ _;refine .seq (.region [] (by decide) ?_);simp only[ao,gdA,ae,ad,ai,au,evalOp,St.ev,St.put,bn,ofV,ak];refine .seq (.region [.sh (.ret (.int .u32 v)) (b0::.cells (.int .u32 v::cs) opn::rest)] (by decide) ?_);simp only[ao,gdA,ae,ad,ai,au,evalOp,St.ev,Av.get,St.put,ofV,ak,Nat.reduceEqDiff,↓reduceIte,List.map_cons,List.map_nil,List.nil_append,List.append_nil,Option.map_some,List.length_cons,Nat.add_zero,ej,sm,nu];refine⟨Bg rfl rfl,?_⟩;exact .ret ⟨_,rfl,rfl,_,rfl,rfl⟩
theorem GM(b:Bool):aa Tryz.prog 221 [.bool b] (.ret (.int .u32 (if b=true then 1 else 0))):=by
 refine aa.of Tryz.func221 rfl (ab enters Tryz.func221 rfl) (by simp[Tryz.ntmps221]) ?_;show W Tryz.prog 4 _ none _ _ _;refine .seq (.region [] (by decide) ?_);simp only[ao,gdA,ae,ad,ai,au,evalOp,St.ev,St.put,bn,ofV,ak];refine .seq (.seq (.region [] (by decide) ?_));simp only[ao,gdA,ae,ad,ai,au,evalOp,St.ev,Av.get,St.put,ak,Nat.reduceEqDiff,↓reduceIte];cases b
 ·refine .cond (t:=false) rfl (.skip ?_)
  simp only[ak,↓reduceIte,Bool.false_eq_true];refine .seq (.region [] (by decide) ?_);simp only[ao,gdA,ae,ad,ai,au,evalOp,St.ev,St.put,ofV,ak];exact .ret ⟨_,rfl,_,rfl,.refl _⟩
 ·refine .cond (t:=true) rfl (.seq (.region [] (by decide) ?_))
  simp only[ao,gdA,ae,ad,ai,au,evalOp,St.ev,St.put,ofV,ak,↓reduceIte];exact .ret ⟨_,rfl,_,rfl,.refl _⟩
theorem GN (v:Int) (cs:List AV) (opn:Bool) (b0:OB) (rest:List OB) {fn:Func} (Q:Ex→St→Prop)
    (hq: ∀T,Q .normal ⟨T,b0::.cells (.int .u32 1::cs) opn::rest,[]⟩) (c:Code) (hc:Tryz.f202.body=some c):
    W Tryz.prog 10 (rest.length+1+1) none c Q ⟨bn 0 [.ptr 1 0,.bool true],b0::.cells (.int .u32 v::cs) opn::rest,[]⟩:=by
  cases hc;refine W.Iu (pre:=[_,_,_,_,_]) (ow:=_) (post:=[]) (r:=.tup []) (H':=b0::.cells (.int .u32 1::cs) opn::rest) [.pure (.ret (.int .u32 1))] [] mixed (by kernel_rfl) rfl (by kernel_rfl) (by kernel_rfl) (by kernel_rfl) (by kernel_rfl) ?_;simp only[EDf,gdA,ae,ad,evalOp,St.ev,Av.get,St.put,bn,Nat.reduceEqDiff,↓reduceIte,aX,AV.hfs,AV.hf,Bool.and_self,List.map_cons,List.map_nil,List.nil_append,List.append_nil,Option.map_some,and_self,true_and,Nat.add_zero,Nat.zero_add,ej,sm];refine⟨GM true,_,_,rfl,?_⟩
  exact⟨zl (H:=b0::.cells (.int .u32 v::cs) opn::rest) (id:=1) (off:=0) (cs:=.int .u32 v::cs) (opn:=opn) (v:=.int .u32 v) (y:=1) rfl rfl,hq _⟩
theorem D7(v se:Int)(cs:List AV)(opn:Bool)(b0:OB)(rest:List OB):
    bF Tryz.prog 218 [.ptr 1 1] (b0::.cells (.int .u32 v::.int .i32 0::.int .u32 se::cs) opn::rest) (.ret (.tup [])) (b0::.cells (.int .u32 v::.int .i32 1::.int .u32 se::cs) opn::rest):=by
  have hup: ∀x,cc Tryz.prog 267 203 (.ptr 1 1) x=none:=by intro x;simp[cc,Tryz.underlying267,Tryz.underlying203]
  have hup2: ∀y cs,vO Tryz.prog 267 203 (.ptr 1 1) (b0::.cells (.int .u32 v::y::cs) opn::rest)=some (.ptr 1 1):=by
    intro y cs;have:(Tryz.prog.info? 169).map (fun i=>decide (i.size=0))=some false:=by kernel_rfl
    simp[vO,Tryz.underlying267,Tryz.underlying203,this]
  refine bF.ofX Tryz.func218 rfl (ab enters Tryz.func218 rfl) (by simp[Tryz.ntmps218]) ?_;show W Tryz.prog 13 _ none _ _ _;refine .seq (.region [.sh (.ret (.tup [])) (b0::.cells (.int .u32 v::.int .i32 0::.int .u32 se::cs) opn::rest)] (by decide) ?_);simp only[ao,gdA,ae,St.ev,St.put,bn,ak,List.map_nil,List.append_nil,List.length_cons];refine⟨xK _,?_⟩;refine .seq (.seq (.region [.sh (.ret (.bool true)) (b0::.cells (.int .u32 v::.int .i32 1::.int .u32 se::cs) opn::rest)] (by decide) ?_))
  simp only[ao,gdA,ae,ad,ai,au,evalOp,St.ev,Av.get,St.put,ofV,ak,Nat.reduceEqDiff,↓reduceIte,List.map_cons,List.map_nil,List.nil_append,List.append_nil,Option.map_some,Nat.add_zero,ej,nZ];refine⟨D3 (H:=b0::.cells (.int .u32 v::.int .i32 0::.int .u32 se::cs) opn::rest) (id:=1) (off:=1) (cs:=.int .u32 v::.int .i32 0::.int .u32 se::cs) (opn:=opn) (x:=0) (y:=1) rfl rfl,?_⟩;refine .cond (t:=true) rfl (.seq (.cond (t:=true) rfl ?_));refine .seq (.region [.sh (.ret (.tup [])) (b0::.cells (.int .u32 v::.int .i32 1::.int .u32 se::cs) opn::rest)] (by decide) ?_)
  simp only[ao,gdA,ae,St.ev,St.put,ak,List.map_nil,List.append_nil];refine⟨xL _,?_⟩;refine .region [.sh (.ret (.tup [])) (b0::.cells (.int .u32 v::.int .i32 1::.int .u32 se::cs) opn::rest)] (by decide) ?_;simp only[ao,gdA,ae,ad,ai,au,evalOp,St.ev,Av.get,St.put,ak,Nat.reduceEqDiff,↓reduceIte,List.map_cons,List.map_nil,List.nil_append,List.append_nil,Option.map_some,hup,hup2];refine⟨D5 _ 1 1,?_⟩;exact .ret ⟨_,rfl,rfl,_,rfl,rfl⟩
theorem D8(v se:Int)(cs:List AV)(opn:Bool)(b0:OB)(rest:List OB):
    bF Tryz.prog 200 [.ptr 1 1] (b0::.cells (.int .u32 v::.int .i32 0::.int .u32 se::cs) opn::rest) (.ret (.tup [])) (b0::.cells (.int .u32 v::.int .i32 1::.int .u32 se::cs) opn::rest):=by
  refine bF.ofX Tryz.func200 rfl (ab enters Tryz.func200 rfl) (by simp[Tryz.ntmps200]) ?_;show W Tryz.prog 6 _ none _ _ _;refine .region [.sh (.ret (.tup [])) (b0::.cells (.int .u32 v::.int .i32 1::.int .u32 se::cs) opn::rest)] (by decide) ?_;simp only[ao,gdA,ae,ad,ai,au,evalOp,St.ev,Av.get,St.put,bn,↓reduceIte,List.map_cons,List.map_nil,List.nil_append,List.append_nil,Option.map_some,Nat.add_zero,ej,sn];exact⟨D7 _ _ _ _ _ _,⟨_,rfl,rfl,_,rfl,rfl⟩⟩
theorem zm(v se:Int)(cs:List AV)(opn:Bool)(b0:OB)(rest:List OB):
    bF Tryz.prog 219 [.ptr 1 1] (b0::.cells (.int .u32 v::.int .i32 1::.int .u32 se::cs) opn::rest) (.ret (.tup [])) (b0::.cells (.int .u32 v::.int .i32 0::.int .u32 se::cs) opn::rest):=by
  have hup: ∀x,cc Tryz.prog 267 203 (.ptr 1 1) x=none:=by intro x;simp[cc,Tryz.underlying267,Tryz.underlying203]
  have hup2: ∀y cs,vO Tryz.prog 267 203 (.ptr 1 1) (b0::.cells (.int .u32 v::y::cs) opn::rest)=some (.ptr 1 1):=by
    intro y cs;have:(Tryz.prog.info? 169).map (fun i=>decide (i.size=0))=some false:=by kernel_rfl
    simp[vO,Tryz.underlying267,Tryz.underlying203,this]
  refine bF.ofX Tryz.func219 rfl (ab enters Tryz.func219 rfl) (by simp[Tryz.ntmps219]) ?_;show W Tryz.prog 21 _ none _ _ _;refine .seq (.cond (t:=true) rfl (.seq (.region [] (by decide) ?_)));simp only[ao,gdA,ae,ad,ai,au,evalOp,St.ev,Av.get,St.put,bn,ak,↓reduceIte,List.getElem?_cons_zero,List.getElem?_cons_succ,Option.map_some,ldC,List.length_cons,Nat.add_zero,ej,nZ,Iy];refine .seq (.region [.sh (.ret (.tup [])) (b0::.cells (.int .u32 v::.int .i32 1::.int .u32 se::cs) opn::rest)] (by decide) ?_)
  simp only[ao,gdA,ae,ad,ai,au,evalOp,St.ev,Av.get,St.put,ak,Nat.reduceEqDiff,↓reduceIte,List.map_cons,List.map_nil,List.nil_append,List.append_nil,Option.map_some,hup,hup2];refine⟨D6 _ 1 1,?_⟩;refine .region [.sh (.ret (.tup [])) (b0::.cells (.int .u32 v::.int .i32 1::.int .u32 se::cs) opn::rest)] (by decide) ?_;simp only[ao,gdA,ae,St.ev,St.put,ak,List.map_nil,List.append_nil];refine⟨xK _,?_⟩;refine .seq (.region [.sh (.ret (.int .i32 0)) (b0::.cells (.int .u32 v::.int .i32 0::.int .u32 se::cs) opn::rest)] (by decide) ?_)
  simp only[ao,gdA,ae,ad,ai,au,evalOp,St.ev,Av.get,St.put,ofV,ak,Nat.reduceEqDiff,↓reduceIte,List.map_cons,List.map_nil,List.nil_append,List.append_nil,Option.map_some,Nat.add_zero,ej,nZ];refine⟨D4 (H:=b0::.cells (.int .u32 v::.int .i32 1::.int .u32 se::cs) opn::rest) (id:=1) (off:=1) (cs:=.int .u32 v::.int .i32 1::.int .u32 se::cs) (opn:=opn) (x:=1) (y:= -1) rfl rfl,?_⟩;refine .seq (.seq (.region [] (by decide) ?_));simp only[ao,gdA,ae,ad,ai,au,evalOp,St.ev,Av.get,St.put,ofV,ak,↓reduceIte,nu];refine .cond (t:=false) rfl (.skip ?_);simp only[ak]
  refine .region [.sh (.ret (.tup [])) (b0::.cells (.int .u32 v::.int .i32 0::.int .u32 se::cs) opn::rest)] (by decide) ?_;simp only[ao,gdA,ae,St.ev,St.put,List.map_nil,List.append_nil];exact⟨xL _,⟨_,rfl,rfl,_,rfl,rfl⟩⟩
theorem GO(v:Int)(cs:List AV)(opn:Bool)(b0:OB)(rest:List OB):
    lN Tryz.prog 202 [.ptr 1 0,.bool true] .ret (b0::.cells (.int .u32 v::cs) opn::rest) .ret (b0::.cells (.int .u32 1::cs) opn::rest):=
  lN.ofX Tryz.func202 rfl (ab enters Tryz.func202 rfl) (by simp[Tryz.ntmps202]) (GN (fn:=Tryz.f202) v cs opn b0 rest _ (fun T=>⟨rfl,⟨_,rfl⟩,rfl⟩) _ rfl)
theorem D9(v se:Int)(cs:List AV)(opn:Bool)(b0:OB)(rest:List OB):
    lN Tryz.prog 201 [.ptr 1 1] .ret (b0::.cells (.int .u32 v::.int .i32 1::.int .u32 se::cs) opn::rest) .ret (b0::.cells (.int .u32 v::.int .i32 0::.int .u32 se::cs) opn::rest):=by
  refine lN.ofX Tryz.func201 rfl (ab enters Tryz.func201 rfl) (by simp[Tryz.ntmps201]) ?_;show W Tryz.prog 6 _ none _ _ _;refine .region [.sh (.ret (.tup [])) (b0::.cells (.int .u32 v::.int .i32 0::.int .u32 se::cs) opn::rest)] (by decide) ?_;simp only[ao,gdA,ae,ad,ai,au,evalOp,St.ev,Av.get,St.put,bn,↓reduceIte,List.map_cons,List.map_nil,List.nil_append,List.append_nil,Option.map_some,Nat.add_zero,ej,sn];exact⟨zm _ _ _ _ _ _,⟨rfl,⟨_,rfl⟩,rfl⟩⟩
theorem Ea {g:FuncId} {fs:List AV} {r o r2 o2:AV} {b0:OB} {rest rest2:List OB} (hlen:rest.length≤rest2.length)
    (hg:bF Tryz.prog g fs (b0::.cells [.int .u32 0,.int .i32 1,.int .u32 0,r,o] false::rest) (.ret (.tup [])) (b0::.cells [.int .u32 0,.int .i32 1,.int .u32 0,r2,o2] false::rest2)):
    bF Tryz.prog 175 [.ptr 1 0,.func (.func g) fs []] (b0::.cells [.int .u32 0,.int .i32 0,.int .u32 0,r,o] false::rest) (.ret (.tup [])) (b0::.cells [.int .u32 1,.int .i32 0,.int .u32 0,r2,o2] false::rest2):=by
  refine bF.Kp Tryz.func175 rfl (ab enters Tryz.func175 rfl) (by simp[Tryz.ntmps175]) ?_;show W Tryz.prog 21 _ none _ _ _;refine .seq (.region [.sh (.ret (.tup [])) (b0::.cells [.int .u32 0,.int .i32 1,.int .u32 0,r,o] false::rest)] (by decide) ?_);simp only[ao,gdA,ae,ad,ai,au,evalOp,St.ev,Av.get,St.put,bn,ak,↓reduceIte,List.map_cons,List.map_nil,List.nil_append,List.append_nil,Option.map_some,List.length_cons,Nat.zero_add,ej,so];refine⟨D8 0 0 [r,o] false b0 rest,?_⟩;refine .seq ?_;refine W.Ay [_,_,_] _ _ [] rfl rfl rfl rfl ?_ ?_
  · decide
  simp only[ao,gdA,ae,ad,ai,au,evalOp,St.ev,Av.get,St.put,ak,Nat.reduceEqDiff,↓reduceIte,List.map_cons,List.map_nil,List.nil_append,Option.map_some,Nat.zero_add,oJ,lB,ej,so];refine⟨_,rfl,?_⟩;refine .seq (.region [.sh (.ret (.bool false)) (b0::.cells [.int .u32 0,.int .i32 1,.int .u32 0,r,o] false::rest)] (by decide) ?_);simp only[ao,gdA,ae,ad,ai,au,evalOp,St.ev,Av.get,St.put,ak,Nat.reduceEqDiff,↓reduceIte,List.map_cons,List.map_nil,List.nil_append,List.append_nil,Option.map_some,Bool.not_false,Nat.add_zero,ej,oa,vD];refine⟨xM 0 _ _ _ _,?_⟩;refine .cond (t:=true) rfl (.seq ?_)
  refine W.Ay [_,_,_] _ _ [] rfl rfl rfl rfl ?_ ?_
  · decide
  simp only[ao,gdA,ae,ad,ai,au,evalOp,St.ev,Av.get,St.put,ofV,ak,Nat.reduceEqDiff,↓reduceIte,List.map_cons,List.map_nil,List.nil_append,Option.map_some,Nat.add_zero,oJ,lB,ej,oa];refine⟨_,rfl,?_⟩;refine .region [.sh (.ret (.tup [])) (b0::.cells [.int .u32 0,.int .i32 1,.int .u32 0,r2,o2] false::rest2)] (by decide) ?_;simp only[ao,gdA,ae,ad,ai,au,evalOp,St.ev,Av.get,St.put,Nat.reduceEqDiff,↓reduceIte,List.map_nil,List.append_nil];refine⟨hg,?_⟩
  exact⟨.ret,b0::.cells [.int .u32 1,.int .i32 1,.int .u32 0,r2,o2] false::rest2,GO 0 _ _ _ _,.ret,b0::.cells [.int .u32 1,.int .i32 0,.int .u32 0,r2,o2] false::rest2,D9 1 0 _ _ _ _,rfl,_,rfl,rfl⟩
theorem I7 {g:FuncId} {fs:List AV} {r o r2 o2:AV} {b0:OB} {rest rest2:List OB} (hlen:rest.length≤rest2.length)
    (hg:bF Tryz.prog g fs (b0::.cells [.int .u32 0,.int .i32 1,.int .u32 0,r,o] false::rest) (.ret (.tup [])) (b0::.cells [.int .u32 0,.int .i32 1,.int .u32 0,r2,o2] false::rest2)):
    bF Tryz.prog 142 [.ptr 1 0,.func (.func g) fs []] (b0::.cells [.int .u32 0,.int .i32 0,.int .u32 0,r,o] false::rest) (.ret (.tup [])) (b0::.cells [.int .u32 1,.int .i32 0,.int .u32 0,r2,o2] false::rest2):=by
  refine bF.ofX Tryz.func142 rfl (ab enters Tryz.func142 rfl) (by simp[Tryz.ntmps142]) ?_;show W Tryz.prog 12 _ none _ _ _;refine .seq (.region [.sh (.ret (.bool false)) (b0::.cells [.int .u32 0,.int .i32 0,.int .u32 0,r,o] false::rest)] (by decide) ?_);simp only[ao,gdA,ae,ad,ai,au,evalOp,St.ev,Av.get,St.put,bn,ak,↓reduceIte,List.map_cons,List.map_nil,List.nil_append,List.append_nil,Option.map_some,Bool.not_false,List.length_cons,Nat.add_zero,Nat.zero_add,ej,oa,vD];refine⟨xM 0 _ _ _ _,?_⟩;refine .cond (t:=true) rfl ?_
  refine .region [.sh (.ret (.tup [])) (b0::.cells [.int .u32 1,.int .i32 0,.int .u32 0,r2,o2] false::rest2)] (by decide) ?_;simp only[ao,gdA,ae,ad,ai,au,evalOp,St.ev,Av.get,St.put,Nat.reduceEqDiff,↓reduceIte,List.map_cons,List.map_nil,List.nil_append,List.append_nil];exact⟨Ea hlen hg,⟨_,rfl,rfl,_,rfl,rfl⟩⟩
end Go.Proofs.YtekcidbpejicdaaGreatDoor
