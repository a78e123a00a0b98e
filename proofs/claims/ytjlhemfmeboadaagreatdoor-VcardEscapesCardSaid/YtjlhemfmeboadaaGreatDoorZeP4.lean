/- Contracts of functions that the statements of this seat reach: under the conditions named at each theorem. -/
import Derived.Test.YtjlhemfmeboadaaGreatDoorRows
import Derived.WalkKit
import Derived.Test.YtjlhemfmeboadaaGreatDoorZeP3
namespace Go.Proofs.YtjlhemfmeboadaaGreatDoor
set_option linter.unusedVariables false
set_option linter.unusedSimpArgs false
open Go Go.Av

set_option maxRecDepth 100000 in
theorem enters : Enters Tryz.prog := by
  have h : ∀ i, i < Tryz.prog.funcs.size → (match Tryz.prog.funcs[i]? with | some fn => !(fn.name == "runtime.NumGoroutine") | none => true) = true := by
    have : (List.range Tryz.prog.funcs.size).all (fun i => match Tryz.prog.funcs[i]? with | some fn => !(fn.name == "runtime.NumGoroutine") | none => true) = true := by kernel_rfl
    intro i hi
    exact List.all_eq_true.1 this i (List.mem_range.2 hi)
  intro f fn hf
  have hlt := (Array.getElem?_eq_some_iff.1 hf).1
  have := h f hlt
  rw [hf] at this
  simpa using this

theorem tz3:tsz Tryz.prog 3 = some 1:=by kernel_rfl
theorem tg3:tag Tryz.prog 3 = some false:=by kernel_rfl
theorem st3 (id off:Nat) (v:AV) (H:List OB):evStore Tryz.prog 3 (.ptr id off) v H = stC 1 H id off v:=stC_of tz3 id off v H
theorem ld3 (id off:Nat) (H:List OB):evLoad Tryz.prog 3 (.ptr id off) H = ldC H id off:=ldC_of tz3 tg3 id off H
theorem lw3 (c:AV) (cs:List AV) (H:List OB):evLoad Tryz.prog 3 (.vptr (c::cs)) H = some c:=ldV_of tz3 tg3 c cs H
theorem tz4:tsz Tryz.prog 4 = some 1:=by kernel_rfl
theorem tg4:tag Tryz.prog 4 = some false:=by kernel_rfl
theorem st4 (id off:Nat) (v:AV) (H:List OB):evStore Tryz.prog 4 (.ptr id off) v H = stC 1 H id off v:=stC_of tz4 id off v H
theorem lw4 (c:AV) (cs:List AV) (H:List OB):evLoad Tryz.prog 4 (.vptr (c::cs)) H = some c:=ldV_of tz4 tg4 c cs H
theorem tz5:tsz Tryz.prog 5 = some 1:=by kernel_rfl
theorem tg5:tag Tryz.prog 5 = some false:=by kernel_rfl
theorem st5 (id off:Nat) (v:AV) (H:List OB):evStore Tryz.prog 5 (.ptr id off) v H = stC 1 H id off v:=stC_of tz5 id off v H
theorem tz9:tsz Tryz.prog 9 = some 1:=by kernel_rfl
theorem tg9:tag Tryz.prog 9 = some false:=by kernel_rfl
theorem st9 (id off:Nat) (v:AV) (H:List OB):evStore Tryz.prog 9 (.ptr id off) v H = stC 1 H id off v:=stC_of tz9 id off v H
theorem ld9 (id off:Nat) (H:List OB):evLoad Tryz.prog 9 (.ptr id off) H = ldC H id off:=ldC_of tz9 tg9 id off H
theorem lw9 (c:AV) (cs:List AV) (H:List OB):evLoad Tryz.prog 9 (.vptr (c::cs)) H = some c:=ldV_of tz9 tg9 c cs H
theorem ls9 (s:Bytes) (H:List OB):evLen Tryz.prog 9 (.str s) H = some (.int .i64 s.length):=lns_of Tryz.underlying9 s H
theorem ss9 (s:Bytes) (lo hi:Option AV):evSlice Tryz.prog 9 (.str s) lo hi none = (bnds s.length lo hi).map fun p=>.str ((s.drop p.1).take (p.2 - p.1)):=sl_of Tryz.underlying9 s lo hi
theorem tz21:tsz Tryz.prog 21 = some 1:=by kernel_rfl
theorem tg21:tag Tryz.prog 21 = some false:=by kernel_rfl
theorem ld21 (id off:Nat) (H:List OB):evLoad Tryz.prog 21 (.ptr id off) H = ldC H id off:=ldC_of tz21 tg21 id off H
theorem tz22:tsz Tryz.prog 22 = some 1:=by kernel_rfl
theorem tg22:tag Tryz.prog 22 = some false:=by kernel_rfl
theorem st22 (id off:Nat) (v:AV) (H:List OB):evStore Tryz.prog 22 (.ptr id off) v H = stC 1 H id off v:=stC_of tz22 id off v H
theorem ld22 (id off:Nat) (H:List OB):evLoad Tryz.prog 22 (.ptr id off) H = ldC H id off:=ldC_of tz22 tg22 id off H
theorem lv22 (wd:Nat) (x:Bool) (es:List AV) (H:List OB):evLen Tryz.prog 22 (.vsl wd x es) H = some (.int .i64 es.length):=lnv_of Tryz.underlying22 wd x es H
theorem ap22:apT Tryz.prog 45 = some (4,5,72):=by kernel_rfl
theorem tz24:tsz Tryz.prog 24 = some 2:=by kernel_rfl
theorem tg24:tag Tryz.prog 24 = some true:=by kernel_rfl
theorem st24 (id off:Nat) (v:AV) (H:List OB):evStore Tryz.prog 24 (.ptr id off) v H = stC 2 H id off v:=stC_of tz24 id off v H
theorem ld24 (id off:Nat) (H:List OB):evLoad Tryz.prog 24 (.ptr id off) H = ldG 2 H id off:=ldG_of tz24 tg24 id off H
theorem fl24_0:fldA Tryz.prog 24 0 = some (0,1,9):=by kernel_rfl
theorem fa24_0 (id off:Nat):evFieldAddr Tryz.prog 24 (.ptr id off) 0 = some (.ptr id (off + 0)):=fa_of fl24_0 (by decide) id off
theorem fl24_1:fldA Tryz.prog 24 1 = some (1,1,22):=by kernel_rfl
theorem fa24_1 (id off:Nat):evFieldAddr Tryz.prog 24 (.ptr id off) 1 = some (.ptr id (off + 1)):=fa_of fl24_1 (by decide) id off
theorem tz27:tsz Tryz.prog 27 = some 1:=by kernel_rfl
theorem tg27:tag Tryz.prog 27 = some false:=by kernel_rfl
theorem st27 (id off:Nat) (v:AV) (H:List OB):evStore Tryz.prog 27 (.ptr id off) v H = stC 1 H id off v:=stC_of tz27 id off v H
theorem ld27 (id off:Nat) (H:List OB):evLoad Tryz.prog 27 (.ptr id off) H = ldC H id off:=ldC_of tz27 tg27 id off H
theorem tz38:tsz Tryz.prog 38 = some 1:=by kernel_rfl
theorem tg38:tag Tryz.prog 38 = some false:=by kernel_rfl
theorem st38 (id off:Nat) (v:AV) (H:List OB):evStore Tryz.prog 38 (.ptr id off) v H = stC 1 H id off v:=stC_of tz38 id off v H
theorem ld38 (id off:Nat) (H:List OB):evLoad Tryz.prog 38 (.ptr id off) H = ldC H id off:=ldC_of tz38 tg38 id off H
theorem ll38 (id off len wd:Nat) (H:List OB):evLen Tryz.prog 38 (.sl id off len wd) H = some (.int .i64 len):=lnl_of Tryz.underlying38 id off len wd H
theorem lv38 (wd:Nat) (x:Bool) (es:List AV) (H:List OB):evLen Tryz.prog 38 (.vsl wd x es) H = some (.int .i64 es.length):=lnv_of Tryz.underlying38 wd x es H
theorem ap38:apT Tryz.prog 9 = some (1,0,16):=by kernel_rfl
theorem tz42:tsz Tryz.prog 42 = some 1:=by kernel_rfl
theorem tg42:tag Tryz.prog 42 = some false:=by kernel_rfl
theorem lv42 (wd:Nat) (x:Bool) (es:List AV) (H:List OB):evLen Tryz.prog 42 (.vsl wd x es) H = some (.int .i64 es.length):=lnv_of Tryz.underlying42 wd x es H
theorem ap42:apT Tryz.prog 5 = some (1,0,1):=by kernel_rfl
theorem tz43:tsz Tryz.prog 43 = some 1:=by kernel_rfl
theorem tg43:tag Tryz.prog 43 = some false:=by kernel_rfl
theorem st43 (id off:Nat) (v:AV) (H:List OB):evStore Tryz.prog 43 (.ptr id off) v H = stC 1 H id off v:=stC_of tz43 id off v H
theorem ld43 (id off:Nat) (H:List OB):evLoad Tryz.prog 43 (.ptr id off) H = ldC H id off:=ldC_of tz43 tg43 id off H
theorem lv43 (wd:Nat) (x:Bool) (es:List AV) (H:List OB):evLen Tryz.prog 43 (.vsl wd x es) H = some (.int .i64 es.length):=lnv_of Tryz.underlying43 wd x es H
theorem ap43:apT Tryz.prog 54 = some (2,3,32):=by kernel_rfl
theorem tz45:tsz Tryz.prog 45 = some 4:=by kernel_rfl
theorem tg45:tag Tryz.prog 45 = some true:=by kernel_rfl
theorem st45 (id off:Nat) (v:AV) (H:List OB):evStore Tryz.prog 45 (.ptr id off) v H = stC 4 H id off v:=stC_of tz45 id off v H
theorem ld45 (id off:Nat) (H:List OB):evLoad Tryz.prog 45 (.ptr id off) H = ldG 4 H id off:=ldG_of tz45 tg45 id off H
theorem lw45 (cs:List AV) (H:List OB):evLoad Tryz.prog 45 (.vptr cs) H = if 4≤cs.length then some (.agg (cs.take 4)) else none:=ldW_of tz45 tg45 cs H
theorem fl45_0:fldA Tryz.prog 45 0 = some (0,1,9):=by kernel_rfl
theorem fa45_0 (id off:Nat):evFieldAddr Tryz.prog 45 (.ptr id off) 0 = some (.ptr id (off + 0)):=fa_of fl45_0 (by decide) id off
theorem fv45_0 (cs:List AV):evFieldAddr Tryz.prog 45 (.vptr cs) 0 = some (.vptr (cs.drop 0)):=fv_of fl45_0 (by decide) cs
theorem fl45_1:fldA Tryz.prog 45 1 = some (1,1,9):=by kernel_rfl
theorem fa45_1 (id off:Nat):evFieldAddr Tryz.prog 45 (.ptr id off) 1 = some (.ptr id (off + 1)):=fa_of fl45_1 (by decide) id off
theorem fl45_2:fldA Tryz.prog 45 2 = some (2,1,43):=by kernel_rfl
theorem fa45_2 (id off:Nat):evFieldAddr Tryz.prog 45 (.ptr id off) 2 = some (.ptr id (off + 2)):=fa_of fl45_2 (by decide) id off
theorem fl45_3:fldA Tryz.prog 45 3 = some (3,1,9):=by kernel_rfl
theorem fa45_3 (id off:Nat):evFieldAddr Tryz.prog 45 (.ptr id off) 3 = some (.ptr id (off + 3)):=fa_of fl45_3 (by decide) id off
theorem fv45_3 (cs:List AV):evFieldAddr Tryz.prog 45 (.vptr cs) 3 = some (.vptr (cs.drop 3)):=fv_of fl45_3 (by decide) cs
theorem tz54:tsz Tryz.prog 54 = some 2:=by kernel_rfl
theorem tg54:tag Tryz.prog 54 = some true:=by kernel_rfl
theorem st54 (id off:Nat) (v:AV) (H:List OB):evStore Tryz.prog 54 (.ptr id off) v H = stC 2 H id off v:=stC_of tz54 id off v H
theorem ld54 (id off:Nat) (H:List OB):evLoad Tryz.prog 54 (.ptr id off) H = ldG 2 H id off:=ldG_of tz54 tg54 id off H
theorem lw54 (cs:List AV) (H:List OB):evLoad Tryz.prog 54 (.vptr cs) H = if 2≤cs.length then some (.agg (cs.take 2)) else none:=ldW_of tz54 tg54 cs H
theorem fl54_0:fldA Tryz.prog 54 0 = some (0,1,9):=by kernel_rfl
theorem fa54_0 (id off:Nat):evFieldAddr Tryz.prog 54 (.ptr id off) 0 = some (.ptr id (off + 0)):=fa_of fl54_0 (by decide) id off
theorem fl54_1:fldA Tryz.prog 54 1 = some (1,1,9):=by kernel_rfl
theorem fa54_1 (id off:Nat):evFieldAddr Tryz.prog 54 (.ptr id off) 1 = some (.ptr id (off + 1)):=fa_of fl54_1 (by decide) id off
theorem tz58:tsz Tryz.prog 58 = some 0:=by kernel_rfl
theorem st58 (id off:Nat) (v:AV) (H:List OB):evStore Tryz.prog 58 (.ptr id off) v H = stC 0 H id off v:=stC_of tz58 id off v H
theorem fl78_0:fldA Tryz.prog 78 0 = some (0,1,9):=by kernel_rfl
theorem fa78_0 (id off:Nat):evFieldAddr Tryz.prog 78 (.ptr id off) 0 = some (.ptr id (off + 0)):=fa_of fl78_0 (by decide) id off
theorem fl80_0:fldA Tryz.prog 80 0 = some (0,1,78):=by kernel_rfl
theorem fa80_0 (id off:Nat):evFieldAddr Tryz.prog 80 (.ptr id off) 0 = some (.ptr id (off + 0)):=fa_of fl80_0 (by decide) id off
theorem fl94_1:fldA Tryz.prog 94 1 = some (0,1,92):=by kernel_rfl
theorem fa94_1 (id off:Nat):evFieldAddr Tryz.prog 94 (.ptr id off) 1 = some (.ptr id (off + 0)):=fa_of fl94_1 (by decide) id off
theorem fl96_0:fldA Tryz.prog 96 0 = some (0,1,21):=by kernel_rfl
theorem fa96_0 (id off:Nat):evFieldAddr Tryz.prog 96 (.ptr id off) 0 = some (.ptr id (off + 0)):=fa_of fl96_0 (by decide) id off
theorem fl98_1:fldA Tryz.prog 98 1 = some (0,2,96):=by kernel_rfl
theorem fa98_1 (id off:Nat):evFieldAddr Tryz.prog 98 (.ptr id off) 1 = some (.ptr id (off + 0)):=fa_of fl98_1 (by decide) id off
theorem fl100_1:fldA Tryz.prog 100 1 = some (0,1,94):=by kernel_rfl
theorem fa100_1 (id off:Nat):evFieldAddr Tryz.prog 100 (.ptr id off) 1 = some (.ptr id (off + 0)):=fa_of fl100_1 (by decide) id off
theorem fl100_2:fldA Tryz.prog 100 2 = some (1,2,98):=by kernel_rfl
theorem fa100_2 (id off:Nat):evFieldAddr Tryz.prog 100 (.ptr id off) 2 = some (.ptr id (off + 1)):=fa_of fl100_2 (by decide) id off
theorem fl104_0:fldA Tryz.prog 104 0 = some (0,3,100):=by kernel_rfl
theorem fa104_0 (id off:Nat):evFieldAddr Tryz.prog 104 (.ptr id off) 0 = some (.ptr id (off + 0)):=fa_of fl104_0 (by decide) id off
theorem fl104_1:fldA Tryz.prog 104 1 = some (3,1,102):=by kernel_rfl
theorem fa104_1 (id off:Nat):evFieldAddr Tryz.prog 104 (.ptr id off) 1 = some (.ptr id (off + 3)):=fa_of fl104_1 (by decide) id off
theorem fl104_2:fldA Tryz.prog 104 2 = some (4,1,38):=by kernel_rfl
theorem fa104_2 (id off:Nat):evFieldAddr Tryz.prog 104 (.ptr id off) 2 = some (.ptr id (off + 4)):=fa_of fl104_2 (by decide) id off
theorem fl109_0:fldA Tryz.prog 109 0 = some (0,1,9):=by kernel_rfl
theorem fa109_0 (id off:Nat):evFieldAddr Tryz.prog 109 (.ptr id off) 0 = some (.ptr id (off + 0)):=fa_of fl109_0 (by decide) id off
theorem fl109_1:fldA Tryz.prog 109 1 = some (1,1,9):=by kernel_rfl
theorem fa109_1 (id off:Nat):evFieldAddr Tryz.prog 109 (.ptr id off) 1 = some (.ptr id (off + 1)):=fa_of fl109_1 (by decide) id off
theorem lv111 (wd:Nat) (x:Bool) (es:List AV) (H:List OB):evLen Tryz.prog 111 (.vsl wd x es) H = some (.int .i64 es.length):=lnv_of Tryz.underlying111 wd x es H
theorem ap111:apT Tryz.prog 109 = some (2,3,32):=by kernel_rfl
theorem tz127:tsz Tryz.prog 127 = some 256:=by kernel_rfl
theorem tg127:tag Tryz.prog 127 = some true:=by kernel_rfl
theorem st127 (id off:Nat) (v:AV) (H:List OB):evStore Tryz.prog 127 (.ptr id off) v H = stC 256 H id off v:=stC_of tz127 id off v H
theorem ld127 (id off:Nat) (H:List OB):evLoad Tryz.prog 127 (.ptr id off) H = ldG 256 H id off:=ldG_of tz127 tg127 id off H
theorem fl142_0:fldA Tryz.prog 142 0 = some (0,256,140):=by kernel_rfl
theorem fv142_0 (cs:List AV):evFieldAddr Tryz.prog 142 (.vptr cs) 0 = some (.vptr (cs.drop 0)):=fv_of fl142_0 (by decide) cs
theorem fl142_1:fldA Tryz.prog 142 1 = some (256,1,38):=by kernel_rfl
theorem fv142_1 (cs:List AV):evFieldAddr Tryz.prog 142 (.vptr cs) 1 = some (.vptr (cs.drop 256)):=fv_of fl142_1 (by decide) cs
theorem tz167:tsz Tryz.prog 167 = some 1:=by kernel_rfl
theorem tg167:tag Tryz.prog 167 = some false:=by kernel_rfl
theorem lw167 (c:AV) (cs:List AV) (H:List OB):evLoad Tryz.prog 167 (.vptr (c::cs)) H = some c:=ldV_of tz167 tg167 c cs H
theorem tz168:tsz Tryz.prog 168 = some 1:=by kernel_rfl
theorem tg168:tag Tryz.prog 168 = some false:=by kernel_rfl
theorem st168 (id off:Nat) (v:AV) (H:List OB):evStore Tryz.prog 168 (.ptr id off) v H = stC 1 H id off v:=stC_of tz168 id off v H
theorem lw168 (c:AV) (cs:List AV) (H:List OB):evLoad Tryz.prog 168 (.vptr (c::cs)) H = some c:=ldV_of tz168 tg168 c cs H
theorem fl170_0:fldA Tryz.prog 170 0 = some (0,1,9):=by kernel_rfl
theorem fv170_0 (cs:List AV):evFieldAddr Tryz.prog 170 (.vptr cs) 0 = some (.vptr (cs.drop 0)):=fv_of fl170_0 (by decide) cs
theorem fl170_1:fldA Tryz.prog 170 1 = some (1,1,3):=by kernel_rfl
theorem fv170_1 (cs:List AV):evFieldAddr Tryz.prog 170 (.vptr cs) 1 = some (.vptr (cs.drop 1)):=fv_of fl170_1 (by decide) cs
theorem fl170_2:fldA Tryz.prog 170 2 = some (2,1,9):=by kernel_rfl
theorem fv170_2 (cs:List AV):evFieldAddr Tryz.prog 170 (.vptr cs) 2 = some (.vptr (cs.drop 2)):=fv_of fl170_2 (by decide) cs
theorem fl170_3:fldA Tryz.prog 170 3 = some (3,1,167):=by kernel_rfl
theorem fv170_3 (cs:List AV):evFieldAddr Tryz.prog 170 (.vptr cs) 3 = some (.vptr (cs.drop 3)):=fv_of fl170_3 (by decide) cs
theorem fl170_4:fldA Tryz.prog 170 4 = some (4,1,168):=by kernel_rfl
theorem fa170_4 (id off:Nat):evFieldAddr Tryz.prog 170 (.ptr id off) 4 = some (.ptr id (off + 4)):=fa_of fl170_4 (by decide) id off
theorem fv170_4 (cs:List AV):evFieldAddr Tryz.prog 170 (.vptr cs) 4 = some (.vptr (cs.drop 4)):=fv_of fl170_4 (by decide) cs
theorem fl172_0:fldA Tryz.prog 172 0 = some (0,5,170):=by kernel_rfl
theorem fa172_0 (id off:Nat):evFieldAddr Tryz.prog 172 (.ptr id off) 0 = some (.ptr id (off + 0)):=fa_of fl172_0 (by decide) id off
theorem fv172_0 (cs:List AV):evFieldAddr Tryz.prog 172 (.vptr cs) 0 = some (.vptr (cs.drop 0)):=fv_of fl172_0 (by decide) cs
theorem fl172_1:fldA Tryz.prog 172 1 = some (5,1,3):=by kernel_rfl
theorem fa172_1 (id off:Nat):evFieldAddr Tryz.prog 172 (.ptr id off) 1 = some (.ptr id (off + 5)):=fa_of fl172_1 (by decide) id off
theorem fv172_1 (cs:List AV):evFieldAddr Tryz.prog 172 (.vptr cs) 1 = some (.vptr (cs.drop 5)):=fv_of fl172_1 (by decide) cs
theorem fl172_2:fldA Tryz.prog 172 2 = some (6,256,137):=by kernel_rfl
theorem fa172_2 (id off:Nat):evFieldAddr Tryz.prog 172 (.ptr id off) 2 = some (.ptr id (off + 6)):=fa_of fl172_2 (by decide) id off
theorem fv172_2 (cs:List AV):evFieldAddr Tryz.prog 172 (.vptr cs) 2 = some (.vptr (cs.drop 6)):=fv_of fl172_2 (by decide) cs
theorem tz227:tsz Tryz.prog 227 = some 1:=by kernel_rfl
theorem tg227:tag Tryz.prog 227 = some false:=by kernel_rfl
theorem st227 (id off:Nat) (v:AV) (H:List OB):evStore Tryz.prog 227 (.ptr id off) v H = stC 1 H id off v:=stC_of tz227 id off v H
theorem ld227 (id off:Nat) (H:List OB):evLoad Tryz.prog 227 (.ptr id off) H = ldC H id off:=ldC_of tz227 tg227 id off H
theorem ap227:apT Tryz.prog 5 = some (1,0,1):=by kernel_rfl
end Go.Proofs.YtjlhemfmeboadaaGreatDoor
