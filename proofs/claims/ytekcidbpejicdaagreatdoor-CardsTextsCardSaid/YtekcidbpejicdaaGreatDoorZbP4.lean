/- Contracts of functions that the statements of this seat reach: under the conditions named at each theorem. -/
import Derived.Test.YtekcidbpejicdaaGreatDoorRows
import Derived.WalkKit
import Derived.Test.YtekcidbpejicdaaGreatDoorZbP3
namespace Go.Proofs.YtekcidbpejicdaaGreatDoor
set_option linter.unusedVariables false
set_option linter.unusedSimpArgs false
open Go Go.Av
set_option maxRecDepth 100000 in
theorem enters:Enters Tryz.prog:=by
  have h: ∀i,i<Tryz.prog.funcs.size→(match Tryz.prog.funcs[i]? with|some fn=> !(fn.name== "runtime.NumGoroutine")|none=>true)=true:=by
    have:(List.range Tryz.prog.funcs.size).all (fun i=>match Tryz.prog.funcs[i]? with|some fn=> !(fn.name== "runtime.NumGoroutine")|none=>true)=true:=by kernel_rfl
    intro i hi;exact List.all_eq_true.1 this i (List.mem_range.2 hi)
  intro f fn hf;have hlt:=(Array.getElem?_eq_some_iff.1 hf).1;have:=h f hlt;rw[hf]at this;simpa using this
theorem tz3:tsz Tryz.prog 3=some 1:=by kernel_rfl
theorem tg3:tag Tryz.prog 3=some false:=by kernel_rfl
theorem st3(id off:Nat)(v:AV)(H:List OB):aA Tryz.prog 3 (.ptr id off) v H=stC 1 H id off v:=cG tz3 id off v H
theorem ld3(id off:Nat)(H:List OB):ao Tryz.prog 3 (.ptr id off) H=ldC H id off:=ff tz3 tg3 id off H
theorem lw3(c:AV)(cs:List AV)(H:List OB):ao Tryz.prog 3 (.vptr (c::cs)) H=some c:=jM tz3 tg3 c cs H
theorem tz4:tsz Tryz.prog 4=some 1:=by kernel_rfl
theorem tg4:tag Tryz.prog 4=some false:=by kernel_rfl
theorem st4(id off:Nat)(v:AV)(H:List OB):aA Tryz.prog 4 (.ptr id off) v H=stC 1 H id off v:=cG tz4 id off v H
theorem ld4(id off:Nat)(H:List OB):ao Tryz.prog 4 (.ptr id off) H=ldC H id off:=ff tz4 tg4 id off H
theorem lw4(c:AV)(cs:List AV)(H:List OB):ao Tryz.prog 4 (.vptr (c::cs)) H=some c:=jM tz4 tg4 c cs H
theorem tz5:tsz Tryz.prog 5=some 1:=by kernel_rfl
theorem tg5:tag Tryz.prog 5=some false:=by kernel_rfl
theorem st5(id off:Nat)(v:AV)(H:List OB):aA Tryz.prog 5 (.ptr id off) v H=stC 1 H id off v:=cG tz5 id off v H
theorem tz9:tsz Tryz.prog 9=some 1:=by kernel_rfl
theorem tg9:tag Tryz.prog 9=some false:=by kernel_rfl
theorem st9(id off:Nat)(v:AV)(H:List OB):aA Tryz.prog 9 (.ptr id off) v H=stC 1 H id off v:=cG tz9 id off v H
theorem ld9(id off:Nat)(H:List OB):ao Tryz.prog 9 (.ptr id off) H=ldC H id off:=ff tz9 tg9 id off H
theorem lw9(c:AV)(cs:List AV)(H:List OB):ao Tryz.prog 9 (.vptr (c::cs)) H=some c:=jM tz9 tg9 c cs H
theorem ls9(s:Bytes)(H:List OB):aI Tryz.prog 9 (.str s) H=some (.int .i64 s.length):=Gq Tryz.underlying9 s H
theorem ss9(s:Bytes)(lo hi:Option AV):aM Tryz.prog 9 (.str s) lo hi none=(iw s.length lo hi).map fun p=>.str ((s.drop p.1).take (p.2 - p.1)):=I1 Tryz.underlying9 s lo hi
theorem Lw:tsz Tryz.prog 21=some 1:=by kernel_rfl
theorem Lx:tag Tryz.prog 21=some false:=by kernel_rfl
theorem I2(id off:Nat)(H:List OB):ao Tryz.prog 21 (.ptr id off) H=ldC H id off:=ff Lw Lx id off H
theorem Gs:tsz Tryz.prog 22=some 1:=by kernel_rfl
theorem I3:tag Tryz.prog 22=some false:=by kernel_rfl
theorem I4(id off:Nat)(v:AV)(H:List OB):aA Tryz.prog 22 (.ptr id off) v H=stC 1 H id off v:=cG Gs id off v H
theorem Db(id off:Nat)(H:List OB):ao Tryz.prog 22 (.ptr id off) H=ldC H id off:=ff Gs I3 id off H
theorem Ly(c:AV)(cs:List AV)(H:List OB):ao Tryz.prog 22 (.vptr (c::cs)) H=some c:=jM Gs I3 c cs H
theorem Lz(wd:Nat)(x:Bool)(es:List AV)(H:List OB):aI Tryz.prog 22 (.vsl wd x es) H=some (.int .i64 es.length):=lP Tryz.underlying22 wd x es H
theorem yn:apT Tryz.prog 46=some (4,5,72):=by kernel_rfl
theorem I5:tsz Tryz.prog 24=some 2:=by kernel_rfl
theorem LA:tag Tryz.prog 24=some true:=by kernel_rfl
theorem I6(id off:Nat)(v:AV)(H:List OB):aA Tryz.prog 24 (.ptr id off) v H=stC 2 H id off v:=cG I5 id off v H
theorem va(id off:Nat)(H:List OB):ao Tryz.prog 24 (.ptr id off) H=ldG 2 H id off:=jJ I5 LA id off H
theorem Gt:cS Tryz.prog 24 0=some (0,1,9):=by kernel_rfl
theorem Gu(id off:Nat):aq Tryz.prog 24 (.ptr id off) 0=some (.ptr id (off+0)):=cE Gt (by decide) id off
theorem Af:cS Tryz.prog 24 1=some (1,1,22):=by kernel_rfl
theorem Gv(id off:Nat):aq Tryz.prog 24 (.ptr id off) 1=some (.ptr id (off+1)):=cE Af (by decide) id off
theorem Gw(cs:List AV):aq Tryz.prog 24 (.vptr cs) 1=some (.vptr (cs.drop 1)):=fO Af (by decide) cs
theorem ph:tsz Tryz.prog 25=some 1:=by kernel_rfl
theorem Ag:tag Tryz.prog 25=some false:=by kernel_rfl
theorem Dc(id off:Nat)(v:AV)(H:List OB):aA Tryz.prog 25 (.ptr id off) v H=stC 1 H id off v:=cG ph id off v H
theorem yo(id off:Nat)(H:List OB):ao Tryz.prog 25 (.ptr id off) H=ldC H id off:=ff ph Ag id off H
theorem I7(c:AV)(cs:List AV)(H:List OB):ao Tryz.prog 25 (.vptr (c::cs)) H=some c:=jM ph Ag c cs H
theorem Gx(id off len wd:Nat)(H:List OB):aI Tryz.prog 25 (.sl id off len wd) H=some (.int .i64 len):=Gr Tryz.underlying25 id off len wd H
theorem Gy(wd:Nat)(x:Bool)(es:List AV)(H:List OB):aI Tryz.prog 25 (.vsl wd x es) H=some (.int .i64 es.length):=lP Tryz.underlying25 wd x es H
theorem gH:apT Tryz.prog 9=some (1,0,16):=by kernel_rfl
theorem Dd:tsz Tryz.prog 27=some 8:=by kernel_rfl
theorem Gz:tag Tryz.prog 27=some true:=by kernel_rfl
theorem I8(id off:Nat)(v:AV)(H:List OB):aA Tryz.prog 27 (.ptr id off) v H=stC 8 H id off v:=cG Dd id off v H
theorem pj(id off:Nat)(H:List OB):ao Tryz.prog 27 (.ptr id off) H=ldG 8 H id off:=jJ Dd Gz id off H
theorem I9:tsz Tryz.prog 31=some 1:=by kernel_rfl
theorem LB:tag Tryz.prog 31=some false:=by kernel_rfl
theorem GA(id off:Nat)(v:AV)(H:List OB):aA Tryz.prog 31 (.ptr id off) v H=stC 1 H id off v:=cG I9 id off v H
theorem GB(id off:Nat)(H:List OB):ao Tryz.prog 31 (.ptr id off) H=ldC H id off:=ff I9 LB id off H
theorem Ja:tsz Tryz.prog 44=some 1:=by kernel_rfl
theorem LC:tag Tryz.prog 44=some false:=by kernel_rfl
theorem Jb(id off:Nat)(v:AV)(H:List OB):aA Tryz.prog 44 (.ptr id off) v H=stC 1 H id off v:=cG Ja id off v H
theorem Jc(id off:Nat)(H:List OB):ao Tryz.prog 44 (.ptr id off) H=ldC H id off:=ff Ja LC id off H
theorem LD(wd:Nat)(x:Bool)(es:List AV)(H:List OB):aI Tryz.prog 44 (.vsl wd x es) H=some (.int .i64 es.length):=lP Tryz.underlying44 wd x es H
theorem vb:apT Tryz.prog 55=some (2,3,32):=by kernel_rfl
theorem De:tsz Tryz.prog 46=some 4:=by kernel_rfl
theorem Jd:tag Tryz.prog 46=some true:=by kernel_rfl
theorem GC(id off:Nat)(v:AV)(H:List OB):aA Tryz.prog 46 (.ptr id off) v H=stC 4 H id off v:=cG De id off v H
theorem sW(id off:Nat)(H:List OB):ao Tryz.prog 46 (.ptr id off) H=ldG 4 H id off:=jJ De Jd id off H
theorem LF(cs:List AV)(H:List OB):ao Tryz.prog 46 (.vptr cs) H=if 4≤cs.length then some (.agg (cs.take 4))else none:=Ae De Jd cs H
theorem GD:cS Tryz.prog 46 0=some (0,1,9):=by kernel_rfl
theorem GF(id off:Nat):aq Tryz.prog 46 (.ptr id off) 0=some (.ptr id (off+0)):=cE GD (by decide) id off
theorem Ah:cS Tryz.prog 46 1=some (1,1,9):=by kernel_rfl
theorem GG(id off:Nat):aq Tryz.prog 46 (.ptr id off) 1=some (.ptr id (off+1)):=cE Ah (by decide) id off
theorem GH(cs:List AV):aq Tryz.prog 46 (.vptr cs) 1=some (.vptr (cs.drop 1)):=fO Ah (by decide) cs
theorem GI:cS Tryz.prog 46 2=some (2,1,44):=by kernel_rfl
theorem GJ(id off:Nat):aq Tryz.prog 46 (.ptr id off) 2=some (.ptr id (off+2)):=cE GI (by decide) id off
theorem Ai:cS Tryz.prog 46 3=some (3,1,9):=by kernel_rfl
theorem GK(id off:Nat):aq Tryz.prog 46 (.ptr id off) 3=some (.ptr id (off+3)):=cE Ai (by decide) id off
theorem GL(cs:List AV):aq Tryz.prog 46 (.vptr cs) 3=some (.vptr (cs.drop 3)):=fO Ai (by decide) cs
theorem Je:tsz Tryz.prog 53=some 1:=by kernel_rfl
theorem LG:tag Tryz.prog 53=some false:=by kernel_rfl
theorem Jf(id off:Nat)(v:AV)(H:List OB):aA Tryz.prog 53 (.ptr id off) v H=stC 1 H id off v:=cG Je id off v H
theorem Df:tsz Tryz.prog 55=some 2:=by kernel_rfl
theorem Jg:tag Tryz.prog 55=some true:=by kernel_rfl
theorem LH(id off:Nat)(v:AV)(H:List OB):aA Tryz.prog 55 (.ptr id off) v H=stC 2 H id off v:=cG Df id off v H
theorem LI(id off:Nat)(H:List OB):ao Tryz.prog 55 (.ptr id off) H=ldG 2 H id off:=jJ Df Jg id off H
theorem LJ(cs:List AV)(H:List OB):ao Tryz.prog 55 (.vptr cs) H=if 2≤cs.length then some (.agg (cs.take 2))else none:=Ae Df Jg cs H
theorem Aj:cS Tryz.prog 55 0=some (0,1,9):=by kernel_rfl
theorem ra(id off:Nat):aq Tryz.prog 55 (.ptr id off) 0=some (.ptr id (off+0)):=cE Aj (by decide) id off
theorem GM(cs:List AV):aq Tryz.prog 55 (.vptr cs) 0=some (.vptr (cs.drop 0)):=fO Aj (by decide) cs
theorem Ak:cS Tryz.prog 55 1=some (1,1,9):=by kernel_rfl
theorem ve(id off:Nat):aq Tryz.prog 55 (.ptr id off) 1=some (.ptr id (off+1)):=cE Ak (by decide) id off
theorem GN(cs:List AV):aq Tryz.prog 55 (.vptr cs) 1=some (.vptr (cs.drop 1)):=fO Ak (by decide) cs
theorem Jh:tsz Tryz.prog 60=some 1:=by kernel_rfl
theorem LK:tag Tryz.prog 60=some false:=by kernel_rfl
theorem LM(id off:Nat)(v:AV)(H:List OB):aA Tryz.prog 60 (.ptr id off) v H=stC 1 H id off v:=cG Jh id off v H
theorem yp(id off:Nat)(H:List OB):ao Tryz.prog 60 (.ptr id off) H=ldC H id off:=ff Jh LK id off H
theorem LN:tsz Tryz.prog 64=some 1:=by kernel_rfl
theorem LO:tag Tryz.prog 64=some false:=by kernel_rfl
theorem GO(id off:Nat)(H:List OB):ao Tryz.prog 64 (.ptr id off) H=ldC H id off:=ff LN LO id off H
theorem LP(wd:Nat)(x:Bool)(es:List AV)(H:List OB):aI Tryz.prog 64 (.vsl wd x es) H=some (.int .i64 es.length):=lP Tryz.underlying64 wd x es H
theorem Ji:tsz Tryz.prog 66=some 3:=by kernel_rfl
theorem LQ:tag Tryz.prog 66=some true:=by kernel_rfl
theorem LR(id off:Nat)(v:AV)(H:List OB):aA Tryz.prog 66 (.ptr id off) v H=stC 3 H id off v:=cG Ji id off v H
theorem LS(id off:Nat)(H:List OB):ao Tryz.prog 66 (.ptr id off) H=ldG 3 H id off:=jJ Ji LQ id off H
theorem GP:cS Tryz.prog 66 0=some (0,1,64):=by kernel_rfl
theorem GQ(id off:Nat):aq Tryz.prog 66 (.ptr id off) 0=some (.ptr id (off+0)):=cE GP (by decide) id off
theorem GR:cS Tryz.prog 66 1=some (1,1,4):=by kernel_rfl
theorem GS(id off:Nat):aq Tryz.prog 66 (.ptr id off) 1=some (.ptr id (off+1)):=cE GR (by decide) id off
theorem GU:cS Tryz.prog 66 2=some (2,1,4):=by kernel_rfl
theorem GV(id off:Nat):aq Tryz.prog 66 (.ptr id off) 2=some (.ptr id (off+2)):=cE GU (by decide) id off
theorem Jj:tsz Tryz.prog 68=some 8:=by kernel_rfl
theorem LU:tag Tryz.prog 68=some true:=by kernel_rfl
theorem GW(id off:Nat)(v:AV)(H:List OB):aA Tryz.prog 68 (.ptr id off) v H=stC 8 H id off v:=cG Jj id off v H
theorem GX(id off:Nat)(H:List OB):ao Tryz.prog 68 (.ptr id off) H=ldG 8 H id off:=jJ Jj LU id off H
theorem GY:cS Tryz.prog 68 0=some (0,4,46):=by kernel_rfl
theorem GZ(id off:Nat):aq Tryz.prog 68 (.ptr id off) 0=some (.ptr id (off+0)):=cE GY (by decide) id off
theorem G0:cS Tryz.prog 68 1=some (4,3,66):=by kernel_rfl
theorem G1(id off:Nat):aq Tryz.prog 68 (.ptr id off) 1=some (.ptr id (off+4)):=cE G0 (by decide) id off
theorem G2:cS Tryz.prog 68 2=some (7,1,9):=by kernel_rfl
theorem G3(id off:Nat):aq Tryz.prog 68 (.ptr id off) 2=some (.ptr id (off+7)):=cE G2 (by decide) id off
theorem Jk:tsz Tryz.prog 93=some 1:=by kernel_rfl
theorem LV:tag Tryz.prog 93=some false:=by kernel_rfl
theorem LX(id off:Nat)(v:AV)(H:List OB):aA Tryz.prog 93 (.ptr id off) v H=stC 1 H id off v:=cG Jk id off v H
theorem Jl(id off:Nat)(H:List OB):ao Tryz.prog 93 (.ptr id off) H=ldC H id off:=ff Jk LV id off H
theorem Jm:tsz Tryz.prog 97=some 1:=by kernel_rfl
theorem LY:tag Tryz.prog 97=some false:=by kernel_rfl
theorem LZ(id off:Nat)(v:AV)(H:List OB):aA Tryz.prog 97 (.ptr id off) v H=stC 1 H id off v:=cG Jm id off v H
theorem FG:tsz Tryz.prog 108=some 1:=by kernel_rfl
theorem Jn:tag Tryz.prog 108=some false:=by kernel_rfl
theorem Jo(wd:Nat)(x:Bool)(es:List AV)(H:List OB):aI Tryz.prog 108 (.vsl wd x es) H=some (.int .i64 es.length):=lP Tryz.underlying108 wd x es H
theorem sX:apT Tryz.prog 5=some (1,0,1):=by kernel_rfl
theorem Jp:tsz Tryz.prog 112=some 0:=by kernel_rfl
theorem Jq(id off:Nat)(v:AV)(H:List OB):aA Tryz.prog 112 (.ptr id off) v H=stC 0 H id off v:=cG Jp id off v H
theorem Jr:tsz Tryz.prog 125=some 1:=by kernel_rfl
theorem Js:tag Tryz.prog 125=some false:=by kernel_rfl
theorem Dg:cS Tryz.prog 152 0=some (0,1,9):=by kernel_rfl
theorem Dh(id off:Nat):aq Tryz.prog 152 (.ptr id off) 0=some (.ptr id (off+0)):=cE Dg (by decide) id off
theorem Di:cS Tryz.prog 154 0=some (0,1,152):=by kernel_rfl
theorem Dj(id off:Nat):aq Tryz.prog 154 (.ptr id off) 0=some (.ptr id (off+0)):=cE Di (by decide) id off
theorem Dk:cS Tryz.prog 159 0=some (0,1,9):=by kernel_rfl
theorem rb(id off:Nat):aq Tryz.prog 159 (.ptr id off) 0=some (.ptr id (off+0)):=cE Dk (by decide) id off
theorem Dl:cS Tryz.prog 159 1=some (1,1,9):=by kernel_rfl
theorem wB(id off:Nat):aq Tryz.prog 159 (.ptr id off) 1=some (.ptr id (off+1)):=cE Dl (by decide) id off
theorem FH(wd:Nat)(x:Bool)(es:List AV)(H:List OB):aI Tryz.prog 161 (.vsl wd x es) H=some (.int .i64 es.length):=lP Tryz.underlying161 wd x es H
theorem Jt:apT Tryz.prog 159=some (2,3,32):=by kernel_rfl
theorem Dm:cS Tryz.prog 167 1=some (0,1,165):=by kernel_rfl
theorem re(id off:Nat):aq Tryz.prog 167 (.ptr id off) 1=some (.ptr id (off+0)):=cE Dm (by decide) id off
theorem Dn:cS Tryz.prog 169 0=some (0,1,21):=by kernel_rfl
theorem mZ(id off:Nat):aq Tryz.prog 169 (.ptr id off) 0=some (.ptr id (off+0)):=cE Dn (by decide) id off
theorem Dp:cS Tryz.prog 171 1=some (0,2,169):=by kernel_rfl
theorem rf(id off:Nat):aq Tryz.prog 171 (.ptr id off) 1=some (.ptr id (off+0)):=cE Dp (by decide) id off
theorem Dq:cS Tryz.prog 173 1=some (0,1,167):=by kernel_rfl
theorem na(id off:Nat):aq Tryz.prog 173 (.ptr id off) 1=some (.ptr id (off+0)):=cE Dq (by decide) id off
theorem Dr:cS Tryz.prog 173 2=some (1,2,171):=by kernel_rfl
theorem rh(id off:Nat):aq Tryz.prog 173 (.ptr id off) 2=some (.ptr id (off+1)):=cE Dr (by decide) id off
theorem Ds:cS Tryz.prog 177 0=some (0,3,173):=by kernel_rfl
theorem ri(id off:Nat):aq Tryz.prog 177 (.ptr id off) 0=some (.ptr id (off+0)):=cE Ds (by decide) id off
theorem Dt:cS Tryz.prog 177 1=some (3,1,175):=by kernel_rfl
theorem kF(id off:Nat):aq Tryz.prog 177 (.ptr id off) 1=some (.ptr id (off+3)):=cE Dt (by decide) id off
theorem Du:cS Tryz.prog 177 2=some (4,1,25):=by kernel_rfl
theorem nb(id off:Nat):aq Tryz.prog 177 (.ptr id off) 2=some (.ptr id (off+4)):=cE Du (by decide) id off
theorem FI:tsz Tryz.prog 216=some 256:=by kernel_rfl
theorem Ju:tag Tryz.prog 216=some true:=by kernel_rfl
theorem FJ(id off:Nat)(v:AV)(H:List OB):aA Tryz.prog 216 (.ptr id off) v H=stC 256 H id off v:=cG FI id off v H
theorem FK(id off:Nat)(H:List OB):ao Tryz.prog 216 (.ptr id off) H=ldG 256 H id off:=jJ FI Ju id off H
theorem Dv:cS Tryz.prog 235 0=some (0,256,233):=by kernel_rfl
theorem Dw(cs:List AV):aq Tryz.prog 235 (.vptr cs) 0=some (.vptr (cs.drop 0)):=fO Dv (by decide) cs
theorem Dx:cS Tryz.prog 235 1=some (256,1,25):=by kernel_rfl
theorem Dy(cs:List AV):aq Tryz.prog 235 (.vptr cs) 1=some (.vptr (cs.drop 256)):=fO Dx (by decide) cs
theorem Al:tsz Tryz.prog 256=some 1:=by kernel_rfl
theorem Jv:tag Tryz.prog 256=some false:=by kernel_rfl
theorem sY(c:AV)(cs:List AV)(H:List OB):ao Tryz.prog 256 (.vptr (c::cs)) H=some c:=jM Al Jv c cs H
theorem FL:tsz Tryz.prog 257=some 1:=by kernel_rfl
theorem Jw:tag Tryz.prog 257=some false:=by kernel_rfl
theorem FM(id off:Nat)(v:AV)(H:List OB):aA Tryz.prog 257 (.ptr id off) v H=stC 1 H id off v:=cG FL id off v H
theorem pY(c:AV)(cs:List AV)(H:List OB):ao Tryz.prog 257 (.vptr (c::cs)) H=some c:=jM FL Jw c cs H
theorem Dz:cS Tryz.prog 259 0=some (0,1,9):=by kernel_rfl
theorem wC(cs:List AV):aq Tryz.prog 259 (.vptr cs) 0=some (.vptr (cs.drop 0)):=fO Dz (by decide) cs
theorem DA:cS Tryz.prog 259 1=some (1,1,3):=by kernel_rfl
theorem ji(cs:List AV):aq Tryz.prog 259 (.vptr cs) 1=some (.vptr (cs.drop 1)):=fO DA (by decide) cs
theorem DB:cS Tryz.prog 259 2=some (2,1,9):=by kernel_rfl
theorem kG(cs:List AV):aq Tryz.prog 259 (.vptr cs) 2=some (.vptr (cs.drop 2)):=fO DB (by decide) cs
theorem DC:cS Tryz.prog 259 3=some (3,1,256):=by kernel_rfl
theorem wD(cs:List AV):aq Tryz.prog 259 (.vptr cs) 3=some (.vptr (cs.drop 3)):=fO DC (by decide) cs
theorem wF:cS Tryz.prog 259 4=some (4,1,257):=by kernel_rfl
theorem wG(id off:Nat):aq Tryz.prog 259 (.ptr id off) 4=some (.ptr id (off+4)):=cE wF (by decide) id off
theorem jj(cs:List AV):aq Tryz.prog 259 (.vptr cs) 4=some (.vptr (cs.drop 4)):=fO wF (by decide) cs
theorem wH:cS Tryz.prog 261 0=some (0,5,259):=by kernel_rfl
theorem wI(id off:Nat):aq Tryz.prog 261 (.ptr id off) 0=some (.ptr id (off+0)):=cE wH (by decide) id off
theorem rj(cs:List AV):aq Tryz.prog 261 (.vptr cs) 0=some (.vptr (cs.drop 0)):=fO wH (by decide) cs
theorem wJ:cS Tryz.prog 261 1=some (5,1,3):=by kernel_rfl
theorem nf(id off:Nat):aq Tryz.prog 261 (.ptr id off) 1=some (.ptr id (off+5)):=cE wJ (by decide) id off
theorem rk(cs:List AV):aq Tryz.prog 261 (.vptr cs) 1=some (.vptr (cs.drop 5)):=fO wJ (by decide) cs
theorem wK:cS Tryz.prog 261 2=some (6,256,230):=by kernel_rfl
theorem kH(id off:Nat):aq Tryz.prog 261 (.ptr id off) 2=some (.ptr id (off+6)):=cE wK (by decide) id off
theorem rl(cs:List AV):aq Tryz.prog 261 (.vptr cs) 2=some (.vptr (cs.drop 6)):=fO wK (by decide) cs
theorem FN:tsz Tryz.prog 305=some 1:=by kernel_rfl
theorem Jx:tag Tryz.prog 305=some false:=by kernel_rfl
theorem Am(id off:Nat)(v:AV)(H:List OB):aA Tryz.prog 305 (.ptr id off) v H=stC 1 H id off v:=cG FN id off v H
theorem An(id off:Nat)(H:List OB):ao Tryz.prog 305 (.ptr id off) H=ldC H id off:=ff FN Jx id off H
theorem FO:apT Tryz.prog 5=some (1,0,1):=by kernel_rfl
end Go.Proofs.YtekcidbpejicdaaGreatDoor
