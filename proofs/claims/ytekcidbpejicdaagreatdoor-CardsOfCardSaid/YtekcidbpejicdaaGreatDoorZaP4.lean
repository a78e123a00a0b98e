/- Contracts of functions that the statements of this seat reach: under the conditions named at each theorem. -/
import Derived.Test.YtekcidbpejicdaaGreatDoorRows
import Derived.WalkKit
import Derived.Test.YtekcidbpejicdaaGreatDoorZaP3
namespace Go.Proofs.YtekcidbpejicdaaGreatDoor
set_option linter.unusedVariables false
set_option linter.unusedSimpArgs false
open Go Go.Av
set_option maxRecDepth 100000 in
theorem enters:Enters Tryz.prog:=by
  have h: ∀i,i<Tryz.prog.funcs.size→(match Tryz.prog.funcs[i]? with|some fn=> !(fn.name== "runtime.NumGoroutine")|none=>true)=true:=by
    have:(List.range Tryz.prog.funcs.size).all (fun i=>match Tryz.prog.funcs[i]? with|some fn=> !(fn.name== "runtime.NumGoroutine")|none=>true)=true:=by kernel_rfl
    intro i hi;exact List.all_eq_true.1 this i (List.mem_range.2 hi)
  intro f fn hf;have hlt:=(Array.getElem?_eq_some_iff.1 hf).1;have:=h f hlt;rw[hf]at this;simpa using this
theorem tz3:tsz Tryz.prog 3=some 1:=by kernel_rfl
theorem tg3:tag Tryz.prog 3=some false:=by kernel_rfl
theorem lw3(c:AV)(cs:List AV)(H:List OB):al Tryz.prog 3 (.vptr (c::cs)) H=some c:=oT tz3 tg3 c cs H
theorem tz4:tsz Tryz.prog 4=some 1:=by kernel_rfl
theorem tg4:tag Tryz.prog 4=some false:=by kernel_rfl
theorem st4(id off:Nat)(v:AV)(H:List OB):aE Tryz.prog 4 (.ptr id off) v H=stC 1 H id off v:=cY tz4 id off v H
theorem ld4(id off:Nat)(H:List OB):al Tryz.prog 4 (.ptr id off) H=ldC H id off:=gP tz4 tg4 id off H
theorem lw4(c:AV)(cs:List AV)(H:List OB):al Tryz.prog 4 (.vptr (c::cs)) H=some c:=oT tz4 tg4 c cs H
theorem tz5:tsz Tryz.prog 5=some 1:=by kernel_rfl
theorem tg5:tag Tryz.prog 5=some false:=by kernel_rfl
theorem st5(id off:Nat)(v:AV)(H:List OB):aE Tryz.prog 5 (.ptr id off) v H=stC 1 H id off v:=cY tz5 id off v H
theorem tz9:tsz Tryz.prog 9=some 1:=by kernel_rfl
theorem tg9:tag Tryz.prog 9=some false:=by kernel_rfl
theorem st9(id off:Nat)(v:AV)(H:List OB):aE Tryz.prog 9 (.ptr id off) v H=stC 1 H id off v:=cY tz9 id off v H
theorem ld9(id off:Nat)(H:List OB):al Tryz.prog 9 (.ptr id off) H=ldC H id off:=gP tz9 tg9 id off H
theorem lw9(c:AV)(cs:List AV)(H:List OB):al Tryz.prog 9 (.vptr (c::cs)) H=some c:=oT tz9 tg9 c cs H
theorem ls9(s:Bytes)(H:List OB):aI Tryz.prog 9 (.str s) H=some (.int .i64 s.length):=F6 Tryz.underlying9 s H
theorem ss9(s:Bytes)(lo hi:Option AV):bo Tryz.prog 9 (.str s) lo hi none=(ky s.length lo hi).map fun p=>.str ((s.drop p.1).take (p.2 - p.1)):=Ix Tryz.underlying9 s lo hi
theorem Kr:tsz Tryz.prog 21=some 1:=by kernel_rfl
theorem Ks:tag Tryz.prog 21=some false:=by kernel_rfl
theorem Iy(id off:Nat)(H:List OB):al Tryz.prog 21 (.ptr id off) H=ldC H id off:=gP Kr Ks id off H
theorem F7:tsz Tryz.prog 22=some 1:=by kernel_rfl
theorem Iz:tag Tryz.prog 22=some false:=by kernel_rfl
theorem Ds(id off:Nat)(v:AV)(H:List OB):aE Tryz.prog 22 (.ptr id off) v H=stC 1 H id off v:=cY F7 id off v H
theorem kA(id off:Nat)(H:List OB):al Tryz.prog 22 (.ptr id off) H=ldC H id off:=gP F7 Iz id off H
theorem Kt(c:AV)(cs:List AV)(H:List OB):al Tryz.prog 22 (.vptr (c::cs)) H=some c:=oT F7 Iz c cs H
theorem sf(wd:Nat)(x:Bool)(es:List AV)(H:List OB):aI Tryz.prog 22 (.vsl wd x es) H=some (.int .i64 es.length):=mQ Tryz.underlying22 wd x es H
theorem za:apT Tryz.prog 46=some (4,5,72):=by kernel_rfl
theorem IA:tsz Tryz.prog 24=some 2:=by kernel_rfl
theorem Ku:tag Tryz.prog 24=some true:=by kernel_rfl
theorem Dt(id off:Nat)(v:AV)(H:List OB):aE Tryz.prog 24 (.ptr id off) v H=stC 2 H id off v:=cY IA id off v H
theorem tZ(id off:Nat)(H:List OB):al Tryz.prog 24 (.ptr id off) H=ldG 2 H id off:=mP IA Ku id off H
theorem F8:dF Tryz.prog 24 0=some (0,1,9):=by kernel_rfl
theorem vW(id off:Nat):aC Tryz.prog 24 (.ptr id off) 0=some (.ptr id (off+0)):=da F8 (by decide) id off
theorem AW:dF Tryz.prog 24 1=some (1,1,22):=by kernel_rfl
theorem iS(id off:Nat):aC Tryz.prog 24 (.ptr id off) 1=some (.ptr id (off+1)):=da AW (by decide) id off
theorem F9(cs:List AV):aC Tryz.prog 24 (.vptr cs) 1=some (.vptr (cs.drop 1)):=oU AW (by decide) cs
theorem qx:tsz Tryz.prog 25=some 1:=by kernel_rfl
theorem AX:tag Tryz.prog 25=some false:=by kernel_rfl
theorem Du(id off:Nat)(v:AV)(H:List OB):aE Tryz.prog 25 (.ptr id off) v H=stC 1 H id off v:=cY qx id off v H
theorem vX(id off:Nat)(H:List OB):al Tryz.prog 25 (.ptr id off) H=ldC H id off:=gP qx AX id off H
theorem Dv(c:AV)(cs:List AV)(H:List OB):al Tryz.prog 25 (.vptr (c::cs)) H=some c:=oT qx AX c cs H
theorem Ga(wd:Nat)(x:Bool)(es:List AV)(H:List OB):aI Tryz.prog 25 (.vsl wd x es) H=some (.int .i64 es.length):=mQ Tryz.underlying25 wd x es H
theorem ik:apT Tryz.prog 9=some (1,0,16):=by kernel_rfl
theorem Dw:tsz Tryz.prog 27=some 8:=by kernel_rfl
theorem Gb:tag Tryz.prog 27=some true:=by kernel_rfl
theorem IB(id off:Nat)(v:AV)(H:List OB):aE Tryz.prog 27 (.ptr id off) v H=stC 8 H id off v:=cY Dw id off v H
theorem gQ(id off:Nat)(H:List OB):al Tryz.prog 27 (.ptr id off) H=ldG 8 H id off:=mP Dw Gb id off H
theorem IC:tsz Tryz.prog 31=some 1:=by kernel_rfl
theorem Kv:tag Tryz.prog 31=some false:=by kernel_rfl
theorem Gc(id off:Nat)(v:AV)(H:List OB):aE Tryz.prog 31 (.ptr id off) v H=stC 1 H id off v:=cY IC id off v H
theorem ID(id off:Nat)(H:List OB):al Tryz.prog 31 (.ptr id off) H=ldC H id off:=gP IC Kv id off H
theorem IE:tsz Tryz.prog 44=some 1:=by kernel_rfl
theorem Kw:tag Tryz.prog 44=some false:=by kernel_rfl
theorem IG(id off:Nat)(v:AV)(H:List OB):aE Tryz.prog 44 (.ptr id off) v H=stC 1 H id off v:=cY IE id off v H
theorem oW(id off:Nat)(H:List OB):al Tryz.prog 44 (.ptr id off) H=ldC H id off:=gP IE Kw id off H
theorem ua(wd:Nat)(x:Bool)(es:List AV)(H:List OB):aI Tryz.prog 44 (.vsl wd x es) H=some (.int .i64 es.length):=mQ Tryz.underlying44 wd x es H
theorem Gd:apT Tryz.prog 55=some (2,3,32):=by kernel_rfl
theorem Dx:tsz Tryz.prog 46=some 4:=by kernel_rfl
theorem IH:tag Tryz.prog 46=some true:=by kernel_rfl
theorem vY(id off:Nat)(v:AV)(H:List OB):aE Tryz.prog 46 (.ptr id off) v H=stC 4 H id off v:=cY Dx id off v H
theorem vZ(id off:Nat)(H:List OB):al Tryz.prog 46 (.ptr id off) H=ldG 4 H id off:=mP Dx IH id off H
theorem AY(cs:List AV)(H:List OB):al Tryz.prog 46 (.vptr cs) H=if 4≤cs.length then some (.agg (cs.take 4))else none:=AU Dx IH cs H
theorem Ge:dF Tryz.prog 46 0=some (0,1,9):=by kernel_rfl
theorem wa(id off:Nat):aC Tryz.prog 46 (.ptr id off) 0=some (.ptr id (off+0)):=da Ge (by decide) id off
theorem AZ:dF Tryz.prog 46 1=some (1,1,9):=by kernel_rfl
theorem wb(id off:Nat):aC Tryz.prog 46 (.ptr id off) 1=some (.ptr id (off+1)):=da AZ (by decide) id off
theorem Gf(cs:List AV):aC Tryz.prog 46 (.vptr cs) 1=some (.vptr (cs.drop 1)):=oU AZ (by decide) cs
theorem Gg:dF Tryz.prog 46 2=some (2,1,44):=by kernel_rfl
theorem gR(id off:Nat):aC Tryz.prog 46 (.ptr id off) 2=some (.ptr id (off+2)):=da Gg (by decide) id off
theorem A0:dF Tryz.prog 46 3=some (3,1,9):=by kernel_rfl
theorem sg(id off:Nat):aC Tryz.prog 46 (.ptr id off) 3=some (.ptr id (off+3)):=da A0 (by decide) id off
theorem Gh(cs:List AV):aC Tryz.prog 46 (.vptr cs) 3=some (.vptr (cs.drop 3)):=oU A0 (by decide) cs
theorem II:tsz Tryz.prog 53=some 1:=by kernel_rfl
theorem Kx:tag Tryz.prog 53=some false:=by kernel_rfl
theorem IJ(id off:Nat)(v:AV)(H:List OB):aE Tryz.prog 53 (.ptr id off) v H=stC 1 H id off v:=cY II id off v H
theorem Gi:tsz Tryz.prog 55=some 2:=by kernel_rfl
theorem Ky:tag Tryz.prog 55=some true:=by kernel_rfl
theorem Kz(id off:Nat)(v:AV)(H:List OB):aE Tryz.prog 55 (.ptr id off) v H=stC 2 H id off v:=cY Gi id off v H
theorem KA(cs:List AV)(H:List OB):al Tryz.prog 55 (.vptr cs) H=if 2≤cs.length then some (.agg (cs.take 2))else none:=AU Gi Ky cs H
theorem A1:dF Tryz.prog 55 0=some (0,1,9):=by kernel_rfl
theorem si(id off:Nat):aC Tryz.prog 55 (.ptr id off) 0=some (.ptr id (off+0)):=da A1 (by decide) id off
theorem wc(cs:List AV):aC Tryz.prog 55 (.vptr cs) 0=some (.vptr (cs.drop 0)):=oU A1 (by decide) cs
theorem A2:dF Tryz.prog 55 1=some (1,1,9):=by kernel_rfl
theorem we(id off:Nat):aC Tryz.prog 55 (.ptr id off) 1=some (.ptr id (off+1)):=da A2 (by decide) id off
theorem wg(cs:List AV):aC Tryz.prog 55 (.vptr cs) 1=some (.vptr (cs.drop 1)):=oU A2 (by decide) cs
theorem IK:tsz Tryz.prog 60=some 1:=by kernel_rfl
theorem KB:tag Tryz.prog 60=some false:=by kernel_rfl
theorem KC(id off:Nat)(v:AV)(H:List OB):aE Tryz.prog 60 (.ptr id off) v H=stC 1 H id off v:=cY IK id off v H
theorem zb(id off:Nat)(H:List OB):al Tryz.prog 60 (.ptr id off) H=ldC H id off:=gP IK KB id off H
theorem KD:tsz Tryz.prog 64=some 1:=by kernel_rfl
theorem KE:tag Tryz.prog 64=some false:=by kernel_rfl
theorem Gj(id off:Nat)(H:List OB):al Tryz.prog 64 (.ptr id off) H=ldC H id off:=gP KD KE id off H
theorem KF(wd:Nat)(x:Bool)(es:List AV)(H:List OB):aI Tryz.prog 64 (.vsl wd x es) H=some (.int .i64 es.length):=mQ Tryz.underlying64 wd x es H
theorem IL:tsz Tryz.prog 66=some 3:=by kernel_rfl
theorem KG:tag Tryz.prog 66=some true:=by kernel_rfl
theorem KH(id off:Nat)(v:AV)(H:List OB):aE Tryz.prog 66 (.ptr id off) v H=stC 3 H id off v:=cY IL id off v H
theorem KI(id off:Nat)(H:List OB):al Tryz.prog 66 (.ptr id off) H=ldG 3 H id off:=mP IL KG id off H
theorem Gk:dF Tryz.prog 66 0=some (0,1,64):=by kernel_rfl
theorem Gl(id off:Nat):aC Tryz.prog 66 (.ptr id off) 0=some (.ptr id (off+0)):=da Gk (by decide) id off
theorem Gm:dF Tryz.prog 66 1=some (1,1,4):=by kernel_rfl
theorem Gn(id off:Nat):aC Tryz.prog 66 (.ptr id off) 1=some (.ptr id (off+1)):=da Gm (by decide) id off
theorem Gp:dF Tryz.prog 66 2=some (2,1,4):=by kernel_rfl
theorem Gq(id off:Nat):aC Tryz.prog 66 (.ptr id off) 2=some (.ptr id (off+2)):=da Gp (by decide) id off
theorem IM:tsz Tryz.prog 68=some 8:=by kernel_rfl
theorem KJ:tag Tryz.prog 68=some true:=by kernel_rfl
theorem Gr(id off:Nat)(v:AV)(H:List OB):aE Tryz.prog 68 (.ptr id off) v H=stC 8 H id off v:=cY IM id off v H
theorem Gs(id off:Nat)(H:List OB):al Tryz.prog 68 (.ptr id off) H=ldG 8 H id off:=mP IM KJ id off H
theorem Gt:dF Tryz.prog 68 0=some (0,4,46):=by kernel_rfl
theorem Gu(id off:Nat):aC Tryz.prog 68 (.ptr id off) 0=some (.ptr id (off+0)):=da Gt (by decide) id off
theorem Gv:dF Tryz.prog 68 1=some (4,3,66):=by kernel_rfl
theorem Gw(id off:Nat):aC Tryz.prog 68 (.ptr id off) 1=some (.ptr id (off+4)):=da Gv (by decide) id off
theorem Gx:dF Tryz.prog 68 2=some (7,1,9):=by kernel_rfl
theorem Gy(id off:Nat):aC Tryz.prog 68 (.ptr id off) 2=some (.ptr id (off+7)):=da Gx (by decide) id off
theorem IP:tsz Tryz.prog 93=some 1:=by kernel_rfl
theorem KK:tag Tryz.prog 93=some false:=by kernel_rfl
theorem KM(id off:Nat)(v:AV)(H:List OB):aE Tryz.prog 93 (.ptr id off) v H=stC 1 H id off v:=cY IP id off v H
theorem IQ(id off:Nat)(H:List OB):al Tryz.prog 93 (.ptr id off) H=ldC H id off:=gP IP KK id off H
theorem IS:tsz Tryz.prog 97=some 1:=by kernel_rfl
theorem KO:tag Tryz.prog 97=some false:=by kernel_rfl
theorem KR(id off:Nat)(v:AV)(H:List OB):aE Tryz.prog 97 (.ptr id off) v H=stC 1 H id off v:=cY IS id off v H
theorem Ft:tsz Tryz.prog 108=some 1:=by kernel_rfl
theorem IT:tag Tryz.prog 108=some false:=by kernel_rfl
theorem IU(wd:Nat)(x:Bool)(es:List AV)(H:List OB):aI Tryz.prog 108 (.vsl wd x es) H=some (.int .i64 es.length):=mQ Tryz.underlying108 wd x es H
theorem ub:apT Tryz.prog 5=some (1,0,1):=by kernel_rfl
theorem IV:tsz Tryz.prog 125=some 1:=by kernel_rfl
theorem IW:tag Tryz.prog 125=some false:=by kernel_rfl
theorem Dy:dF Tryz.prog 159 0=some (0,1,9):=by kernel_rfl
theorem sj(id off:Nat):aC Tryz.prog 159 (.ptr id off) 0=some (.ptr id (off+0)):=da Dy (by decide) id off
theorem Dz:dF Tryz.prog 159 1=some (1,1,9):=by kernel_rfl
theorem xB(id off:Nat):aC Tryz.prog 159 (.ptr id off) 1=some (.ptr id (off+1)):=da Dz (by decide) id off
theorem Fu(wd:Nat)(x:Bool)(es:List AV)(H:List OB):aI Tryz.prog 161 (.vsl wd x es) H=some (.int .i64 es.length):=mQ Tryz.underlying161 wd x es H
theorem IX:apT Tryz.prog 159=some (2,3,32):=by kernel_rfl
theorem DA:dF Tryz.prog 167 1=some (0,1,165):=by kernel_rfl
theorem sm(id off:Nat):aC Tryz.prog 167 (.ptr id off) 1=some (.ptr id (off+0)):=da DA (by decide) id off
theorem DB:dF Tryz.prog 169 0=some (0,1,21):=by kernel_rfl
theorem nZ(id off:Nat):aC Tryz.prog 169 (.ptr id off) 0=some (.ptr id (off+0)):=da DB (by decide) id off
theorem DC:dF Tryz.prog 171 1=some (0,2,169):=by kernel_rfl
theorem sn(id off:Nat):aC Tryz.prog 171 (.ptr id off) 1=some (.ptr id (off+0)):=da DC (by decide) id off
theorem DD:dF Tryz.prog 173 1=some (0,1,167):=by kernel_rfl
theorem oa(id off:Nat):aC Tryz.prog 173 (.ptr id off) 1=some (.ptr id (off+0)):=da DD (by decide) id off
theorem DF:dF Tryz.prog 173 2=some (1,2,171):=by kernel_rfl
theorem so(id off:Nat):aC Tryz.prog 173 (.ptr id off) 2=some (.ptr id (off+1)):=da DF (by decide) id off
theorem DH:dF Tryz.prog 177 0=some (0,3,173):=by kernel_rfl
theorem xC(id off:Nat):aC Tryz.prog 177 (.ptr id off) 0=some (.ptr id (off+0)):=da DH (by decide) id off
theorem DI:dF Tryz.prog 177 1=some (3,1,175):=by kernel_rfl
theorem sq(id off:Nat):aC Tryz.prog 177 (.ptr id off) 1=some (.ptr id (off+3)):=da DI (by decide) id off
theorem DJ:dF Tryz.prog 177 2=some (4,1,25):=by kernel_rfl
theorem xD(id off:Nat):aC Tryz.prog 177 (.ptr id off) 2=some (.ptr id (off+4)):=da DJ (by decide) id off
theorem Fw:tsz Tryz.prog 216=some 256:=by kernel_rfl
theorem IY:tag Tryz.prog 216=some true:=by kernel_rfl
theorem Fx(id off:Nat)(v:AV)(H:List OB):aE Tryz.prog 216 (.ptr id off) v H=stC 256 H id off v:=cY Fw id off v H
theorem Fy(id off:Nat)(H:List OB):al Tryz.prog 216 (.ptr id off) H=ldG 256 H id off:=mP Fw IY id off H
theorem DK:dF Tryz.prog 235 0=some (0,256,233):=by kernel_rfl
theorem DL(cs:List AV):aC Tryz.prog 235 (.vptr cs) 0=some (.vptr (cs.drop 0)):=oU DK (by decide) cs
theorem DM:dF Tryz.prog 235 1=some (256,1,25):=by kernel_rfl
theorem DN(cs:List AV):aC Tryz.prog 235 (.vptr cs) 1=some (.vptr (cs.drop 256)):=oU DM (by decide) cs
theorem IZ:tsz Tryz.prog 256=some 1:=by kernel_rfl
end Go.Proofs.YtekcidbpejicdaaGreatDoor
