/- Contracts of functions that the statements of this seat reach: under the conditions named at each theorem. -/
import Derived.Test.YtekcidbpejicdaaGreatDoorZbP4
import Derived.Test.YtekcidbpejicdaaGreatDoorZbP6
import Derived.Test.YtekcidbpejicdaaGreatDoorZbP7
import Derived.Test.YtekcidbpejicdaaGreatDoorZbP5
namespace Go.Proofs.YtekcidbpejicdaaGreatDoor
set_option linter.unusedVariables false
set_option linter.unusedSimpArgs false
attribute [go_sem] st3 ld3 lw3 st4 ld4 lw4 st5
attribute [go_sem] st9 ld9 lw9 ls9 ss9
attribute [go_sem] I2 I4 Db Ly Lz I6 va Gu Gv Gw Dc yo I7 Gx
attribute [go_sem] Gy I8 pj GA GB
attribute [go_sem] Jb Jc LD GC sW LF GF GG GH GJ GK GL
attribute [go_sem] Jf LH LI LJ ra GM ve GN LM yp
attribute [go_sem] GO LP LR LS GQ GS GV
attribute [go_sem] GW GX GZ G1 G3
attribute [go_sem] LX
attribute [go_sem] Jl LZ
attribute [go_sem] Jo Jq
attribute [go_sem] Dh Dj
attribute [go_sem] rb wB FH
attribute [go_sem] re mZ rf
attribute [go_sem] na rh ri kF nb
attribute [go_sem] FJ FK
attribute [go_sem] Dw Dy
attribute [go_sem] sY FM pY
attribute [go_sem] wC ji kG wD wG jj wI rj nf rk kH rl
attribute [go_sem] Am An
attribute [go_sem] L0
attribute [go_sem] L3 L4 L5 L6 L7 L8
attribute [go_sem] L9 Ma Mb
open Go Go.Av
theorem AQ{H:List OB}{id off:Nat}{cs:List AV}{opn:Bool}{x:Int}(hid:H[id]? =some (.cells cs opn))(hx:cs[off]? =some (.int .u32 x)):aY Tryz.prog 199 [.ptr id off] H (.ret (.int .u32 x)) H:=
 Ad Tryz.func199 (by kernel_rfl) (by kernel_rfl) (by kernel_rfl) .u32 (by kernel_rfl) hid hx
theorem yz{H:List OB}{id off:Nat}{cs:List AV}{opn:Bool}{v:AV}{y:Int}(hid:H[id]? =some (.cells cs opn))(hx:cs[off]? =some v):aY Tryz.prog 220 [.ptr id off,.int .u32 y] H (.ret (.tup [])) (H.set id (.cells (cs.set off (.int .u32 y)) opn)):=
 ym Tryz.func220 (by kernel_rfl) (by kernel_rfl) (by kernel_rfl) (by kernel_rfl) hid hx
theorem D8{H:List OB}{id off:Nat}{cs:List AV}{opn:Bool}{x y:Int}(hid:H[id]? =some (.cells cs opn))(hx:cs[off]? =some (.int .i32 x)):
    aY Tryz.prog 230 [.ptr id off,.int .i32 x,.int .i32 y] H (.ret (.bool true)) (H.set id (.cells (cs.set off (.int .i32 y)) opn)):=
  C9 Tryz.func230 (by kernel_rfl) (by kernel_rfl) (by kernel_rfl) .i32 (by kernel_rfl) hid hx
theorem D9{H:List OB}{id off:Nat}{cs:List AV}{opn:Bool}{x y:Int}(hid:H[id]? =some (.cells cs opn))(hx:cs[off]? =some (.int .i32 x)):
    aY Tryz.prog 235 [.ptr id off,.int .i32 y] H (.ret (.int .i32 (IntKind.wrap .i32 (x+y)))) (H.set id (.cells (cs.set off (.int .i32 (IntKind.wrap .i32 (x+y)))) opn)):=
  Da Tryz.func235 (by kernel_rfl) (by kernel_rfl) (by kernel_rfl) .i32 (by kernel_rfl) hid hx
theorem wX(H:List OB):aY Tryz.prog 229 [] H (.ret (.tup [])) H:=pX Tryz.func229 (by kernel_rfl) (by kernel_rfl) (by kernel_rfl) .disable (by kernel_rfl)
theorem wY(H:List OB):aY Tryz.prog 231 [] H (.ret (.tup [])) H:=pX Tryz.func231 (by kernel_rfl) (by kernel_rfl) (by kernel_rfl) .enable (by kernel_rfl)
theorem Ea(H:List OB)(id off:Nat):aY Tryz.prog 232 [.ptr id off] H (.ret (.tup [])) H:=nS Tryz.func232 (by kernel_rfl) (by kernel_rfl) (by kernel_rfl) .acquire (by kernel_rfl) id off
theorem Eb(H:List OB)(id off:Nat):aY Tryz.prog 234 [.ptr id off] H (.ret (.tup [])) H:=nS Tryz.func234 (by kernel_rfl) (by kernel_rfl) (by kernel_rfl) .releaseMerge (by kernel_rfl) id off
theorem mixed:Tryz.prog.follows .mixedOrders=true:=by kernel_rfl
theorem wZ(v:Int)(cs:List AV)(opn:Bool)(b0:OB)(rest:List OB):
    aY Tryz.prog 174 [.ptr 1 0] (b0::.cells (.int .u32 v::cs) opn::rest) (.ret (.bool (v !=0))) (b0::.cells (.int .u32 v::cs) opn::rest):=by
  refine aY.ofX Tryz.func174 rfl (ab enters Tryz.func174 rfl) (by simp[Tryz.ntmps174]) ?_;show W Tryz.prog 8 _ none _ _ _;refine .seq (.region [] (by decide) ?_);simp only[al,gdA,ae,aa,ah,an,evalOp,St.ev,St.put,aL,ofV,ai];refine .seq (.region [.sh (.ret (.int .u32 v)) (b0::.cells (.int .u32 v::cs) opn::rest)] (by decide) ?_);simp only[al,gdA,ae,aa,ah,an,evalOp,St.ev,Av.get,St.put,ofV,ai,Nat.reduceEqDiff,↓reduceIte,List.map_cons,List.map_nil,List.nil_append,List.append_nil,Option.map_some,List.length_cons,Nat.add_zero,bl,re,ir];refine⟨AQ rfl rfl,?_⟩;exact .ret ⟨_,rfl,rfl,_,rfl,rfl⟩
theorem Hq(b:Bool):ad Tryz.prog 221 [.bool b] (.ret (.int .u32 (if b=true then 1 else 0))):=by
 refine ad.of Tryz.func221 rfl (ab enters Tryz.func221 rfl) (by simp[Tryz.ntmps221]) ?_;show W Tryz.prog 4 _ none _ _ _;refine .seq (.region [] (by decide) ?_);simp only[al,gdA,ae,aa,ah,an,evalOp,St.ev,St.put,aL,ofV,ai];refine .seq (.seq (.region [] (by decide) ?_));simp only[al,gdA,ae,aa,ah,an,evalOp,St.ev,Av.get,St.put,ai,Nat.reduceEqDiff,↓reduceIte];cases b
 ·refine .cond (t:=false) rfl (.skip ?_)
  simp only[ai,↓reduceIte,Bool.false_eq_true];refine .seq (.region [] (by decide) ?_);simp only[al,gdA,ae,aa,ah,an,evalOp,St.ev,St.put,ofV,ai];exact .ret ⟨_,rfl,_,rfl,.refl _⟩
 ·refine .cond (t:=true) rfl (.seq (.region [] (by decide) ?_))
  simp only[al,gdA,ae,aa,ah,an,evalOp,St.ev,St.put,ofV,ai,↓reduceIte];exact .ret ⟨_,rfl,_,rfl,.refl _⟩
theorem Hr (v:Int) (cs:List AV) (opn:Bool) (b0:OB) (rest:List OB) {fn:Func} (Q:Ex→St→Prop)
    (hq: ∀T,Q .normal ⟨T,b0::.cells (.int .u32 1::cs) opn::rest,[]⟩) (c:Code) (hc:Tryz.f202.body=some c):
    W Tryz.prog 10 (rest.length+1+1) none c Q ⟨aL 0 [.ptr 1 0,.bool true],b0::.cells (.int .u32 v::cs) opn::rest,[]⟩:=by
  cases hc;refine W.zY (pre:=[_,_,_,_,_]) (ow:=_) (post:=[]) (r:=.tup []) (H':=b0::.cells (.int .u32 1::cs) opn::rest) [.pure (.ret (.int .u32 1))] [] mixed (by kernel_rfl) rfl (by kernel_rfl) (by kernel_rfl) (by kernel_rfl) (by kernel_rfl) ?_;simp only[EDf,gdA,ae,aa,evalOp,St.ev,Av.get,St.put,aL,Nat.reduceEqDiff,↓reduceIte,aG,AV.hfs,AV.hf,Bool.and_self,List.map_cons,List.map_nil,List.nil_append,List.append_nil,Option.map_some,and_self,true_and,Nat.add_zero,Nat.zero_add,bl,re];refine⟨Hq true,_,_,rfl,?_⟩
  exact⟨yz (H:=b0::.cells (.int .u32 v::cs) opn::rest) (id:=1) (off:=0) (cs:=.int .u32 v::cs) (opn:=opn) (v:=.int .u32 v) (y:=1) rfl rfl,hq _⟩
theorem Ec(v se:Int)(cs:List AV)(opn:Bool)(b0:OB)(rest:List OB):
    aY Tryz.prog 218 [.ptr 1 1] (b0::.cells (.int .u32 v::.int .i32 0::.int .u32 se::cs) opn::rest) (.ret (.tup [])) (b0::.cells (.int .u32 v::.int .i32 1::.int .u32 se::cs) opn::rest):=by
  have hup: ∀x,bx Tryz.prog 267 203 (.ptr 1 1) x=none:=by intro x;simp[bx,Tryz.underlying267,Tryz.underlying203]
  have hup2: ∀y cs,uS Tryz.prog 267 203 (.ptr 1 1) (b0::.cells (.int .u32 v::y::cs) opn::rest)=some (.ptr 1 1):=by
    intro y cs;have:(Tryz.prog.info? 169).map (fun i=>decide (i.size=0))=some false:=by kernel_rfl
    simp[uS,Tryz.underlying267,Tryz.underlying203,this]
  refine aY.ofX Tryz.func218 rfl (ab enters Tryz.func218 rfl) (by simp[Tryz.ntmps218]) ?_;show W Tryz.prog 13 _ none _ _ _;refine .seq (.region [.sh (.ret (.tup [])) (b0::.cells (.int .u32 v::.int .i32 0::.int .u32 se::cs) opn::rest)] (by decide) ?_);simp only[al,gdA,ae,St.ev,St.put,aL,ai,List.map_nil,List.append_nil,List.length_cons];refine⟨wX _,?_⟩;refine .seq (.seq (.region [.sh (.ret (.bool true)) (b0::.cells (.int .u32 v::.int .i32 1::.int .u32 se::cs) opn::rest)] (by decide) ?_))
  simp only[al,gdA,ae,aa,ah,an,evalOp,St.ev,Av.get,St.put,ofV,ai,Nat.reduceEqDiff,↓reduceIte,List.map_cons,List.map_nil,List.nil_append,List.append_nil,Option.map_some,Nat.add_zero,bl,mZ];refine⟨D8 (H:=b0::.cells (.int .u32 v::.int .i32 0::.int .u32 se::cs) opn::rest) (id:=1) (off:=1) (cs:=.int .u32 v::.int .i32 0::.int .u32 se::cs) (opn:=opn) (x:=0) (y:=1) rfl rfl,?_⟩;refine .cond (t:=true) rfl (.seq (.cond (t:=true) rfl ?_));refine .seq (.region [.sh (.ret (.tup [])) (b0::.cells (.int .u32 v::.int .i32 1::.int .u32 se::cs) opn::rest)] (by decide) ?_)
  simp only[al,gdA,ae,St.ev,St.put,ai,List.map_nil,List.append_nil];refine⟨wY _,?_⟩;refine .region [.sh (.ret (.tup [])) (b0::.cells (.int .u32 v::.int .i32 1::.int .u32 se::cs) opn::rest)] (by decide) ?_;simp only[al,gdA,ae,aa,ah,an,evalOp,St.ev,Av.get,St.put,ai,Nat.reduceEqDiff,↓reduceIte,List.map_cons,List.map_nil,List.nil_append,List.append_nil,Option.map_some,hup,hup2];refine⟨Ea _ 1 1,?_⟩;exact .ret ⟨_,rfl,rfl,_,rfl,rfl⟩
theorem Ed(v se:Int)(cs:List AV)(opn:Bool)(b0:OB)(rest:List OB):
    aY Tryz.prog 200 [.ptr 1 1] (b0::.cells (.int .u32 v::.int .i32 0::.int .u32 se::cs) opn::rest) (.ret (.tup [])) (b0::.cells (.int .u32 v::.int .i32 1::.int .u32 se::cs) opn::rest):=by
  refine aY.ofX Tryz.func200 rfl (ab enters Tryz.func200 rfl) (by simp[Tryz.ntmps200]) ?_;show W Tryz.prog 6 _ none _ _ _;refine .region [.sh (.ret (.tup [])) (b0::.cells (.int .u32 v::.int .i32 1::.int .u32 se::cs) opn::rest)] (by decide) ?_;simp only[al,gdA,ae,aa,ah,an,evalOp,St.ev,Av.get,St.put,aL,↓reduceIte,List.map_cons,List.map_nil,List.nil_append,List.append_nil,Option.map_some,Nat.add_zero,bl,rf];exact⟨Ec _ _ _ _ _ _,⟨_,rfl,rfl,_,rfl,rfl⟩⟩
theorem yA(v se:Int)(cs:List AV)(opn:Bool)(b0:OB)(rest:List OB):
    aY Tryz.prog 219 [.ptr 1 1] (b0::.cells (.int .u32 v::.int .i32 1::.int .u32 se::cs) opn::rest) (.ret (.tup [])) (b0::.cells (.int .u32 v::.int .i32 0::.int .u32 se::cs) opn::rest):=by
  have hup: ∀x,bx Tryz.prog 267 203 (.ptr 1 1) x=none:=by intro x;simp[bx,Tryz.underlying267,Tryz.underlying203]
  have hup2: ∀y cs,uS Tryz.prog 267 203 (.ptr 1 1) (b0::.cells (.int .u32 v::y::cs) opn::rest)=some (.ptr 1 1):=by
    intro y cs;have:(Tryz.prog.info? 169).map (fun i=>decide (i.size=0))=some false:=by kernel_rfl
    simp[uS,Tryz.underlying267,Tryz.underlying203,this]
  refine aY.ofX Tryz.func219 rfl (ab enters Tryz.func219 rfl) (by simp[Tryz.ntmps219]) ?_;show W Tryz.prog 21 _ none _ _ _;refine .seq (.cond (t:=true) rfl (.seq (.region [] (by decide) ?_)));simp only[al,gdA,ae,aa,ah,an,evalOp,St.ev,Av.get,St.put,aL,ai,↓reduceIte,List.getElem?_cons_zero,List.getElem?_cons_succ,Option.map_some,ldC,List.length_cons,Nat.add_zero,bl,mZ,I2];refine .seq (.region [.sh (.ret (.tup [])) (b0::.cells (.int .u32 v::.int .i32 1::.int .u32 se::cs) opn::rest)] (by decide) ?_)
  simp only[al,gdA,ae,aa,ah,an,evalOp,St.ev,Av.get,St.put,ai,Nat.reduceEqDiff,↓reduceIte,List.map_cons,List.map_nil,List.nil_append,List.append_nil,Option.map_some,hup,hup2];refine⟨Eb _ 1 1,?_⟩;refine .region [.sh (.ret (.tup [])) (b0::.cells (.int .u32 v::.int .i32 1::.int .u32 se::cs) opn::rest)] (by decide) ?_;simp only[al,gdA,ae,St.ev,St.put,ai,List.map_nil,List.append_nil];refine⟨wX _,?_⟩;refine .seq (.region [.sh (.ret (.int .i32 0)) (b0::.cells (.int .u32 v::.int .i32 0::.int .u32 se::cs) opn::rest)] (by decide) ?_)
  simp only[al,gdA,ae,aa,ah,an,evalOp,St.ev,Av.get,St.put,ofV,ai,Nat.reduceEqDiff,↓reduceIte,List.map_cons,List.map_nil,List.nil_append,List.append_nil,Option.map_some,Nat.add_zero,bl,mZ];refine⟨D9 (H:=b0::.cells (.int .u32 v::.int .i32 1::.int .u32 se::cs) opn::rest) (id:=1) (off:=1) (cs:=.int .u32 v::.int .i32 1::.int .u32 se::cs) (opn:=opn) (x:=1) (y:= -1) rfl rfl,?_⟩;refine .seq (.seq (.region [] (by decide) ?_));simp only[al,gdA,ae,aa,ah,an,evalOp,St.ev,Av.get,St.put,ofV,ai,↓reduceIte,ir];refine .cond (t:=false) rfl (.skip ?_);simp only[ai]
  refine .region [.sh (.ret (.tup [])) (b0::.cells (.int .u32 v::.int .i32 0::.int .u32 se::cs) opn::rest)] (by decide) ?_;simp only[al,gdA,ae,St.ev,St.put,List.map_nil,List.append_nil];exact⟨wY _,⟨_,rfl,rfl,_,rfl,rfl⟩⟩
theorem Hs(v:Int)(cs:List AV)(opn:Bool)(b0:OB)(rest:List OB):
    gG Tryz.prog 202 [.ptr 1 0,.bool true] .ret (b0::.cells (.int .u32 v::cs) opn::rest) .ret (b0::.cells (.int .u32 1::cs) opn::rest):=
  gG.ofX Tryz.func202 rfl (ab enters Tryz.func202 rfl) (by simp[Tryz.ntmps202]) (Hr (fn:=Tryz.f202) v cs opn b0 rest _ (fun T=>⟨rfl,⟨_,rfl⟩,rfl⟩) _ rfl)
theorem Ee(v se:Int)(cs:List AV)(opn:Bool)(b0:OB)(rest:List OB):
    gG Tryz.prog 201 [.ptr 1 1] .ret (b0::.cells (.int .u32 v::.int .i32 1::.int .u32 se::cs) opn::rest) .ret (b0::.cells (.int .u32 v::.int .i32 0::.int .u32 se::cs) opn::rest):=by
  refine gG.ofX Tryz.func201 rfl (ab enters Tryz.func201 rfl) (by simp[Tryz.ntmps201]) ?_;show W Tryz.prog 6 _ none _ _ _;refine .region [.sh (.ret (.tup [])) (b0::.cells (.int .u32 v::.int .i32 0::.int .u32 se::cs) opn::rest)] (by decide) ?_;simp only[al,gdA,ae,aa,ah,an,evalOp,St.ev,Av.get,St.put,aL,↓reduceIte,List.map_cons,List.map_nil,List.nil_append,List.append_nil,Option.map_some,Nat.add_zero,bl,rf];exact⟨yA _ _ _ _ _ _,⟨rfl,⟨_,rfl⟩,rfl⟩⟩
theorem Ef {g:FuncId} {fs:List AV} {r o r2 o2:AV} {b0:OB} {rest rest2:List OB} (hlen:rest.length≤rest2.length)
    (hg:aY Tryz.prog g fs (b0::.cells [.int .u32 0,.int .i32 1,.int .u32 0,r,o] false::rest) (.ret (.tup [])) (b0::.cells [.int .u32 0,.int .i32 1,.int .u32 0,r2,o2] false::rest2)):
    aY Tryz.prog 175 [.ptr 1 0,.func (.func g) fs []] (b0::.cells [.int .u32 0,.int .i32 0,.int .u32 0,r,o] false::rest) (.ret (.tup [])) (b0::.cells [.int .u32 1,.int .i32 0,.int .u32 0,r2,o2] false::rest2):=by
  refine aY.Lu Tryz.func175 rfl (ab enters Tryz.func175 rfl) (by simp[Tryz.ntmps175]) ?_;show W Tryz.prog 21 _ none _ _ _;refine .seq (.region [.sh (.ret (.tup [])) (b0::.cells [.int .u32 0,.int .i32 1,.int .u32 0,r,o] false::rest)] (by decide) ?_);simp only[al,gdA,ae,aa,ah,an,evalOp,St.ev,Av.get,St.put,aL,ai,↓reduceIte,List.map_cons,List.map_nil,List.nil_append,List.append_nil,Option.map_some,List.length_cons,Nat.zero_add,bl,rh];refine⟨Ed 0 0 [r,o] false b0 rest,?_⟩;refine .seq ?_;refine W.uW [_,_,_] _ _ [] rfl rfl rfl rfl ?_ ?_
  · decide
  simp only[al,gdA,ae,aa,ah,an,evalOp,St.ev,Av.get,St.put,ai,Nat.reduceEqDiff,↓reduceIte,List.map_cons,List.map_nil,List.nil_append,Option.map_some,Nat.zero_add,lK,jf,bl,rh];refine⟨_,rfl,?_⟩;refine .seq (.region [.sh (.ret (.bool false)) (b0::.cells [.int .u32 0,.int .i32 1,.int .u32 0,r,o] false::rest)] (by decide) ?_);simp only[al,gdA,ae,aa,ah,an,evalOp,St.ev,Av.get,St.put,ai,Nat.reduceEqDiff,↓reduceIte,List.map_cons,List.map_nil,List.nil_append,List.append_nil,Option.map_some,Bool.not_false,Nat.add_zero,bl,na,qK];refine⟨wZ 0 _ _ _ _,?_⟩;refine .cond (t:=true) rfl (.seq ?_)
  refine W.uW [_,_,_] _ _ [] rfl rfl rfl rfl ?_ ?_
  · decide
  simp only[al,gdA,ae,aa,ah,an,evalOp,St.ev,Av.get,St.put,ofV,ai,Nat.reduceEqDiff,↓reduceIte,List.map_cons,List.map_nil,List.nil_append,Option.map_some,Nat.add_zero,lK,jf,bl,na];refine⟨_,rfl,?_⟩;refine .region [.sh (.ret (.tup [])) (b0::.cells [.int .u32 0,.int .i32 1,.int .u32 0,r2,o2] false::rest2)] (by decide) ?_;simp only[al,gdA,ae,aa,ah,an,evalOp,St.ev,Av.get,St.put,Nat.reduceEqDiff,↓reduceIte,List.map_nil,List.append_nil];refine⟨hg,?_⟩
  exact⟨.ret,b0::.cells [.int .u32 1,.int .i32 1,.int .u32 0,r2,o2] false::rest2,Hs 0 _ _ _ _,.ret,b0::.cells [.int .u32 1,.int .i32 0,.int .u32 0,r2,o2] false::rest2,Ee 1 0 _ _ _ _,rfl,_,rfl,rfl⟩
theorem FU {g:FuncId} {fs:List AV} {r o r2 o2:AV} {b0:OB} {rest rest2:List OB} (hlen:rest.length≤rest2.length)
    (hg:aY Tryz.prog g fs (b0::.cells [.int .u32 0,.int .i32 1,.int .u32 0,r,o] false::rest) (.ret (.tup [])) (b0::.cells [.int .u32 0,.int .i32 1,.int .u32 0,r2,o2] false::rest2)):
    aY Tryz.prog 142 [.ptr 1 0,.func (.func g) fs []] (b0::.cells [.int .u32 0,.int .i32 0,.int .u32 0,r,o] false::rest) (.ret (.tup [])) (b0::.cells [.int .u32 1,.int .i32 0,.int .u32 0,r2,o2] false::rest2):=by
  refine aY.ofX Tryz.func142 rfl (ab enters Tryz.func142 rfl) (by simp[Tryz.ntmps142]) ?_;show W Tryz.prog 12 _ none _ _ _;refine .seq (.region [.sh (.ret (.bool false)) (b0::.cells [.int .u32 0,.int .i32 0,.int .u32 0,r,o] false::rest)] (by decide) ?_);simp only[al,gdA,ae,aa,ah,an,evalOp,St.ev,Av.get,St.put,aL,ai,↓reduceIte,List.map_cons,List.map_nil,List.nil_append,List.append_nil,Option.map_some,Bool.not_false,List.length_cons,Nat.add_zero,Nat.zero_add,bl,na,qK];refine⟨wZ 0 _ _ _ _,?_⟩;refine .cond (t:=true) rfl ?_
  refine .region [.sh (.ret (.tup [])) (b0::.cells [.int .u32 1,.int .i32 0,.int .u32 0,r2,o2] false::rest2)] (by decide) ?_;simp only[al,gdA,ae,aa,ah,an,evalOp,St.ev,Av.get,St.put,Nat.reduceEqDiff,↓reduceIte,List.map_cons,List.map_nil,List.nil_append,List.append_nil];exact⟨Ef hlen hg,⟨_,rfl,rfl,_,rfl,rfl⟩⟩
end Go.Proofs.YtekcidbpejicdaaGreatDoor
