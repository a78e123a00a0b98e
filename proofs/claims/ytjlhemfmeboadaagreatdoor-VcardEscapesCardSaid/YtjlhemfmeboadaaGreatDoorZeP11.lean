/- Contracts of functions that the statements of this seat reach: under the conditions named at each theorem. -/
import Derived.Test.YtjlhemfmeboadaaGreatDoorZeP10
import Derived.Test.YtjlhemfmeboadaaGreatDoorZeP7
import Derived.WalkKit
import Derived.ProofKit
import Derived.OpenShut
import Derived.Carry
import Derived.ChangeMaps5
import Derived.LaidMore
import Derived.Lay
import Derived.Stop.Joined
import Derived.Test.YtjlhemfmeboadaaGreatDoorRows
namespace Go.Proofs.YtjlhemfmeboadaaGreatDoor
set_option linter.unusedVariables false
set_option linter.unusedSimpArgs false
open Go Go.Av Go.RowKit

def kbegin:Bytes:=[98,101,103,105,110,58,118,99,97,114,100]
def kend:Bytes:=[101,110,100,58,118,99,97,114,100]
def cd0:Cd:=⟨[],false,[]⟩
def stepP (c:Cd) (s:Bytes):Option Cd:=match lnR s with
 | none=>none
 | some l=>if l.n = sVersion then (if c.ver = []∧l.g = []∧l.ps = []∧version l.v = true then some { c with ver:=l.v } else none)
  else if lineB l = true then some { c with ls:=c.ls++[l] } else none
def runP:Cd→List Bytes→Option Cd
 | c,[]=>some c
 | c,s::r=>(stepP c s).bind fun d=>runP d r
def midP (s:Bytes):List Bytes:=((linesR s).drop 1).take ((linesR s).length - 2)
def headP (s:Bytes):Bool:=decide (3≤(linesR s).length) && (hasS (unf s) [10] && ((small ((linesR s).getD 0 []) == kbegin) && (small ((linesR s).getD ((linesR s).length - 1) []) == kend)))
def parseM (s:Bytes):Option Cd:=if headP s = true then (runP cd0 (midP s)).bind (fun c=>if checkC c = 0 then some c else none) else none
def parseO (s:Bytes):Cd × Nat:=if s.length > 16000 then (cd0,3) else match parseM s with | some c=>(c,0) | none=>(cd0,250)
def outP (o:Cd × Nat):Out:=.ret (.tup [encCd o.1,.int .i64 o.2])
theorem linesF_le:∀ (n:Nat) (s x:Bytes),x ∈ linesF n s→x.length≤s.length
 | 0,s,x,h=>by simp [linesF] at h
 | n + 1,s,x,h=>by
  rw [linesF] at h
  split at h
  ·simp at h
  ·simp only [List.mem_cons] at h
   rcases h with h | h
   ·have h1:=cutB_len1 s 10
    rw [h]
    split
    ·unfold trimS; split
     ·simp only [List.length_take]; omega
     ·exact h1
    ·exact h1
   ·have:=linesF_le n _ x h
    have h2:=cutB_len s 10
    omega
theorem linesR_le {s x:Bytes} (h:x ∈ linesR s):x.length≤s.length:=by
 have:=linesF_le _ _ _ h
 have:=unf_le s
 omega
theorem linesF_len:∀ (n:Nat) (s:Bytes),(linesF n s).length≤s.length
 | 0,s=>by simp [linesF]
 | n + 1,s=>by
  rw [linesF]
  split
  ·simp
  ·rename_i h
   have h1:=linesF_len n (cutB s 10).2.1
   have h2:=cutB_lt (c:=10) h
   simp only [List.length_cons]; omega
theorem linesR_len (s:Bytes):(linesR s).length≤s.length:=by
 have h1:=linesF_len ((unf s).length + 1) (unf s)
 have h2:=unf_le s
 unfold linesR linesU; omega
def dP:List DE:=[.call (.func 37) [.ptr 0 0,.ptr 1 0] []]
def pV (k:Nat) (z:Bool) (L:List Ln):AV:=if z then .sl (2 + k) 0 L.length 5 else .nilsl
def pB (ver:Bytes) (v:AV):List OB:=[.cells [.str ver,v] false,.cells [.int .i64 0] false]
theorem pV_deN {k:Nat} {z:Bool} {L:List Ln} (h:z = false→L = []):deN (pV k z L) = memV 2 0 5 encLn k z L:=by
 cases z
 ·rw [h rfl]; rfl
 ·rfl
theorem pV_hlt {k m:Nat} {z:Bool} {L:List Ln} (h:z = true→2 + k < m):(pV k z L).hlt m = true:=by
 cases z
 ·rfl
 ·simp [pV,AV.hlt,h rfl]
theorem encLnc_hlts (m:Nat) (l:Ln):AV.hlts m (encLn l).cells = true:=by simp [encLn,AV.cells,AV.hlts,AV.hlt,encR_hlts]
theorem pB_hlt {ver:Bytes} {v:AV} {m:Nat} (hv:v.hlt m = true):(pB ver v).all (OB.hlt m) = true:=by
 simp [pB,OB.hlt,AV.hlts,AV.hlt,hv]
theorem pM_ok {ver:Bytes} {k j:Nat} {z:Bool} {L:List Ln}:okH (mem (pB ver (pV k z L)) encLn k j z L):=fun m hm=>by
 refine mem_hlt (pB_hlt (pV_hlt fun hz=>?_)) (encLnc_hlts m)
 rw [mem_len,hz] at hm
 simp [pB] at hm; omega
theorem panP {T : List (Nat × AV)} {H : List OB} {a b c : AV} (hok : okH H) (h0 : H[0]? = some (.cells [a, b] false)) (h1 : H[1]? = some (.cells [c] false)) (t2 : Av.get T 2 = .ptr 0 0) (t3 : Av.get T 3 = .ptr 1 0) :
    lvQ Tryz.prog (retPK Tryz.prog Tryz.f16.results.toList (outP (cd0, 250))) (.panic 58 (.agg [])) ⟨T, H, dP⟩ := by
  have l1 : 1 < H.length := (List.getElem?_eq_some_iff.1 h1).1
  refine ⟨.ret, _, recT hok h0 h1, retPcc 2 24 3 27 rfl (v1 := .agg [.str [], .nilsl]) (v2 := .int .i64 250) ?_ ?_ ?_⟩
  · simp only [t2]
    rw [ld24]
    simp only [ldG]
    rw [List.getElem?_set_ne (by decide), List.getElem?_set_self (by omega)]
    rfl
  · simp only [t3]
    rw [ld27]
    simp only [ldC]
    rw [List.getElem?_set_self (by rw [List.length_set]; omega)]
    rfl
  · exact ⟨fz_aggL (k := 17) (ts := [.str [], .vsl 5 false []]) (LzL_hf rfl ⟨⟨_, rfl, .nils _ _⟩, trivial⟩), LzL_hf rfl trivial⟩

set_option maxRecDepth 8000 in
theorem parseV (s:Bytes) (hs:s.length≤1000000):PureFn Tryz.prog 16 [.str s] (outP (parseO s)):=by
 refine PureFn.ofD Tryz.func16 rfl (enters_call enters Tryz.func16 rfl) (by simp [Tryz.ntmps16]) ?_
 show W Tryz.prog 94 0 none _ _ _
 refine .seq (.vc (by decide) ?_)
 repeat' (first | (simp (disch:=first | omega | (simp only [List.length_append,List.length_cons,List.length_nil,List.length_map,List.length_set]; omega)) only [VC_region,VO_nil,VO_plain,VV_some,VS,callOf,isPanic,nextOf,altA,evalOp,St.put,argT,thenQ,List.nil_append,Option.map_some,cl_int,cl_agg,List.length_cons,List.length_nil,Nat.zero_add,List.cons_append,zz24,zz27]))
 by_cases q0:s.length > 16000
 ·have e:parseO s = (cd0,3):=by simp only [parseO,if_pos q0]
  rw [e]
  refine .vc (by decide) ?_
  repeat' (first | (simp (disch:=first | omega | (simp only [List.length_append,List.length_cons,List.length_nil,List.length_map,List.length_set]; omega)) only [VC_seq,VC_cond,VC_ret,VC_region,VI_true,VO_nil,VO_plain,VV_some,VS,ofV_int,deN_str,callOf,isPanic,nextOf,altA,evalOp,ev_tmp,ev_const,Av.get,St.put,thenQ,Nat.reduceEqDiff,↓reduceIte,Bool.and_self,List.getElem?_cons_zero,List.getElem?_cons_succ,Option.map_some,ldG,stC,cl_int,ic_int,ic_str,ic_nilsl,cl_agg,setC,List.set_cons_zero,List.set_cons_succ,List.length_cons,List.length_nil,Nat.reduceAdd,List.all_cons,List.all_nil,and_self,Nat.zero_add,List.drop_zero,List.take_succ_cons,List.take_zero,Nat.le_refl,b_gtr,decide_eq_true,ls9,st24,ld24,st27]))
  refine retPcc 2 24 3 27 rfl (v1:=.agg [.str [],.nilsl]) (v2:=.int .i64 3) ?_ ?_ ?_
  ·simp (disch:=first | omega | (simp only [List.length_append,List.length_cons,List.length_nil,List.length_map,List.length_set]; omega)) only [Av.get,Nat.reduceEqDiff,↓reduceIte,List.getElem?_cons_zero,ldG,List.length_cons,List.length_nil,Nat.reduceAdd,Nat.zero_add,List.drop_zero,List.take_succ_cons,List.take_zero,Nat.le_refl,ld24]
  ·simp (disch:=first | omega | (simp only [List.length_append,List.length_cons,List.length_nil,List.length_map,List.length_set]; omega)) only [Av.get,Nat.reduceEqDiff,↓reduceIte,List.getElem?_cons_zero,List.getElem?_cons_succ,ldC,ld27]
  ·exact ⟨fz_aggL (k:=17) (ts:=[.str [],.vsl 5 false []]) (LzL_hf rfl ⟨⟨_,rfl,.nils _ _⟩,trivial⟩),LzL_hf rfl trivial⟩
 refine .seq (.vc (by decide) ?_)
 repeat' (first | (simp (disch:=first | omega | (simp only [List.length_append,List.length_cons,List.length_nil,List.length_map,List.length_set]; omega)) only [VC_skip,VC_seq,VC_cond,VC_region,VI_false,VO_nil,VO_plain,VV_some,VS,ofV_int,deN_str,callOf,isPanic,nextOf,altA,evalOp,ev_tmp,ev_const,Av.get,St.put,thenQ,Nat.reduceEqDiff,↓reduceIte,Option.map_some,b_gtr,decide_eq_false,ls9]))
 refine .seq (W.deferR [_] _ _ [] rfl rfl rfl rfl (by decide) ?_)
 simp only [EOps,gdA,callOf,isPanic,nextOf,altA,evalOp,St.ev,Av.get,St.put,thenQ,Nat.reduceEqDiff,↓reduceIte,List.map_cons,List.map_nil,List.append_nil,deferQ,deferOf]
 refine ⟨_,rfl,?_⟩
 have hun:=unfoldV s hs
 have huf:=unfolded40 s hs
 have hull:=unf_le s
 have hsf:=suffix39 (unf s) [10] (by omega)
 obtain ⟨all,hall⟩:∃ all,all = linesR s:=⟨_,rfl⟩
 have hal:all.length≤1000000:=by have:=linesR_len s; rw [← hall] at this; omega
 have hae:∀ x ∈ all,x.length≤1000000:=by intro x hx; rw [hall] at hx; have:=linesR_le hx; omega
 rw [← hall] at hun
 have hok0:okH [.cells [.str [],.nilsl] false,.cells [.int .i64 0] false]:=fun m _=>rfl
 have bad:∀ T,Av.get T 2 = .ptr 0 0→Av.get T 3 = .ptr 1 0→parseM s = none→lvQ Tryz.prog (retPK Tryz.prog Tryz.f16.results.toList (outP (parseO s))) (.panic 58 (.agg [])) ⟨T,[.cells [.str [],.nilsl] false,.cells [.int .i64 0] false],dP⟩:=by
  intro T h2 h3 hn
  have e:parseO s = (cd0,250):=by simp only [parseO,if_neg q0,hn]
  rw [e]
  exact panP hok0 rfl rfl h2 h3
 have hnot:headP s = false→parseM s = none:=fun h=>by simp [parseM,h]
 by_cases q1:3≤all.length
 case neg=>
  refine .vc (by decide) ?_
  repeat' (first | (simp (disch:=first | omega | (simp only [List.length_append,List.length_cons,List.length_nil,List.length_map,List.length_set]; omega)) only [VC_seq,VC_region,VO_nil,VO_plain,VO_guard,VG_false,VV_some,VS,List.length_map,ofV_bool,ofV_int,deN_vsl,gdA,callOf,isPanic,nextOf,altA,evalOp,ev_tmp,ev_const,ev_func,Av.get,St.put,thenQ,Nat.reduceEqDiff,↓reduceIte,List.map_cons,List.map_nil,List.nil_append,List.append_nil,List.getElem?_cons_zero,List.getElem?_cons_succ,List.getElem?_toArray,Option.map_some,Option.bind_some,beq_true,Bool.false_eq_true,pickA,b_geq,decide_eq_false,lv38]) | (guard_target =~ VCall _ _ _ _ _ _ _; refine VCall.pure (by first | with_reducible exact hun) (by (first | rfl | (simp only [AV.hfs,AV.hf,Bool.and_self,Bool.and_true,Bool.true_and,strs_hfs,strs_hfs]))) ?_) | (guard_target =~ DCal _ _ _ _ _ _ _; refine DCal.pure (by first | with_reducible exact hun) (by (first | rfl | (simp only [AV.hfs,AV.hf,Bool.and_self,Bool.and_true,Bool.true_and,strs_hfs,strs_hfs]))) ?_))
  refine VCall.pan mustF rfl (bad _ (by rfl) (by rfl) (hnot ?_))
  simp [headP,← hall,q1]
 by_cases q2:hasS (unf s) [10] = true
 case neg=>
  have q2:hasS (unf s) [10] = false:=by simpa using q2
  rw [q2] at hsf
  refine .vc (by decide) ?_
  repeat' (first | (simp (disch:=first | omega | (simp only [List.length_append,List.length_cons,List.length_nil,List.length_map,List.length_set]; omega)) only [VC_seq,VC_region,VO_nil,VO_plain,VO_guard,VG_true,VG_false,VV_some,VS,List.length_map,ofV_bool,ofV_int,ofV_lit,deN_vsl,gdA,callOf,isPanic,nextOf,altA,evalOp,ev_tmp,ev_const,ev_func,Av.get,St.put,thenQ,Nat.reduceEqDiff,↓reduceIte,List.map_cons,List.map_nil,List.nil_append,List.append_nil,List.getElem?_cons_zero,List.getElem?_cons_succ,List.getElem?_toArray,Option.map_some,Option.bind_some,beq_true,Bool.false_eq_true,pickA,cond_true,b_geq,decide_eq_true,lv38]) | (guard_target =~ VCall _ _ _ _ _ _ _; refine VCall.pure (by first | with_reducible exact hun | with_reducible exact huf | with_reducible exact hsf) (by (first | rfl | (simp only [AV.hfs,AV.hf,Bool.and_self,Bool.and_true,Bool.true_and,strs_hfs,strs_hfs]))) ?_) | (guard_target =~ DCal _ _ _ _ _ _ _; refine DCal.pure (by first | with_reducible exact hun | with_reducible exact huf | with_reducible exact hsf) (by (first | rfl | (simp only [AV.hfs,AV.hf,Bool.and_self,Bool.and_true,Bool.true_and,strs_hfs,strs_hfs]))) ?_))
  refine VCall.pan mustF rfl (bad _ (by rfl) (by rfl) (hnot ?_))
  simp [headP,q2]
 rw [q2] at hsf
 have hne:all ≠ []:=by intro h; rw [h] at q1; simp at q1
 obtain ⟨a0,ha0⟩:∃ a0,all[0]? = some a0:=⟨_,List.getElem?_eq_getElem (by omega)⟩
 obtain ⟨a1,ha1⟩:∃ a1,all[all.length - 1]? = some a1:=⟨_,List.getElem?_eq_getElem (by omega)⟩
 have hd0:all.getD 0 [] = a0:=by simp [List.getD,ha0]
 have hd1:all.getD (all.length - 1) [] = a1:=by simp [List.getD,ha1]
 have hi0:∀ H,evIndexAddr Tryz.prog 38 (.vsl 0 false (all.map .str)) (.int .i64 0) H = some (.vptr [.str a0]):=fun H=>iv38 (n:=0) (v:=.str a0) (by simp [ha0]) rfl H
 have hi1:∀ H,evIndexAddr Tryz.prog 38 (.vsl 0 false (all.map .str)) (.int .i64 ((all.length:Int) - 1)) H = some (.vptr [.str a1]):=by
  intro H
  have:((all.length:Int) - 1) = ((all.length - 1:Nat):Int):=by omega
  rw [this]
  exact iv38 (v:=.str a1) (by simp [ha1]) rfl H
 have hs0:=smallD a0
 have hs1:=smallD a1
 by_cases q3:small a0 = kbegin
 case neg=>
  have e3:(small a0 == kbegin) = false:=by simpa using q3
  have e3q:=e3
  simp only [kbegin] at e3
  refine .vc (by decide) ?_
  repeat' (first | (simp (disch:=first | omega | (simp only [List.length_append,List.length_cons,List.length_nil,List.length_map,List.length_set]; omega)) only [VC_seq,VC_region,VO_nil,VO_plain,VO_guard,VG_true,VG_false,VV_some,VS,List.length_map,ofV_bool,ofV_int,ofV_lit,deN_vsl,gdA,callOf,isPanic,nextOf,altA,evalOp,ev_tmp,ev_const,ev_func,Av.get,St.put,thenQ,Nat.reduceEqDiff,↓reduceIte,List.map_cons,List.map_nil,List.nil_append,List.append_nil,List.getElem?_cons_zero,List.getElem?_cons_succ,List.getElem?_toArray,Option.map_some,Option.bind_some,beq_true,Bool.false_eq_true,pickA,cond_true,b_geq,s_eql,decide_eq_true,lw9,lv38,hi0,e3]) | (guard_target =~ VCall _ _ _ _ _ _ _; refine VCall.pure (by first | with_reducible exact hun | with_reducible exact huf | with_reducible exact hsf | with_reducible exact hs0) (by (first | rfl | (simp only [AV.hfs,AV.hf,Bool.and_self,Bool.and_true,Bool.true_and,strs_hfs,strs_hfs]))) ?_) | (guard_target =~ DCal _ _ _ _ _ _ _; refine DCal.pure (by first | with_reducible exact hun | with_reducible exact huf | with_reducible exact hsf | with_reducible exact hs0) (by (first | rfl | (simp only [AV.hfs,AV.hf,Bool.and_self,Bool.and_true,Bool.true_and,strs_hfs,strs_hfs]))) ?_))
  refine VCall.pan mustF rfl (bad _ (by rfl) (by rfl) (hnot ?_))
  simp only [headP,← hall,hd0,e3q,Bool.false_and,Bool.and_false]
 have e3:(small a0 == kbegin) = true:=by simp [q3]
 have e3q:=e3
 simp only [kbegin] at e3
 by_cases q4:small a1 = kend
 case neg=>
  have e4:(small a1 == kend) = false:=by simpa using q4
  have e4q:=e4
  simp only [kend] at e4
  refine .vc (by decide) ?_
  repeat' (first | (simp (disch:=first | omega | (simp only [List.length_append,List.length_cons,List.length_nil,List.length_map,List.length_set]; omega)) only [VC_seq,VC_region,VO_nil,VO_plain,VO_guard,VG_true,VV_some,VS,List.length_map,ofV_bool,ofV_int,ofV_lit,deN_vsl,gdA,callOf,isPanic,nextOf,altA,evalOp,ev_tmp,ev_const,ev_func,Av.get,St.put,thenQ,Nat.reduceEqDiff,↓reduceIte,List.map_cons,List.map_nil,List.nil_append,List.append_nil,List.getElem?_cons_zero,List.getElem?_cons_succ,List.getElem?_toArray,Option.map_some,Option.bind_some,beq_true,pickA,cond_true,b_geq,b_sub64,s_eql,decide_eq_true,lw9,lv38,hi0,hi1,e3,e4]) | (guard_target =~ VCall _ _ _ _ _ _ _; refine VCall.pure (by first | with_reducible exact hun | with_reducible exact huf | with_reducible exact hsf | with_reducible exact hs0 | with_reducible exact hs1) (by (first | rfl | (simp only [AV.hfs,AV.hf,Bool.and_self,Bool.and_true,Bool.true_and,strs_hfs,strs_hfs]))) ?_) | (guard_target =~ DCal _ _ _ _ _ _ _; refine DCal.pure (by first | with_reducible exact hun | with_reducible exact huf | with_reducible exact hsf | with_reducible exact hs0 | with_reducible exact hs1) (by (first | rfl | (simp only [AV.hfs,AV.hf,Bool.and_self,Bool.and_true,Bool.true_and,strs_hfs,strs_hfs]))) ?_))
  refine VCall.pan mustF rfl (bad _ (by rfl) (by rfl) (hnot ?_))
  simp only [headP,← hall,hd1,e4q,Bool.false_and,Bool.and_false]
 have e4:(small a1 == kend) = true:=by simp [q4]
 have hhead:headP s = true:=by
  simp only [headP,← hall,hd0,hd1,e3q,e4,q2,Bool.and_true,decide_eq_true_eq]; exact q1
 simp only [kend] at e4
 obtain ⟨mid,hmid⟩:∃ mid,mid = midP s:=⟨_,rfl⟩
 have hml:mid.length = all.length - 2:=by rw [hmid,midP,← hall]; simp; omega
 have hsl:evSlice Tryz.prog 38 (.vsl 0 false (all.map .str)) (some (.int .i64 1)) (some (.int .i64 ((all.length:Int) - 1))) none = some (.vsl 0 false (mid.map .str)):=by
  have h1:idx (.int .i64 1) = some 1:=rfl
  have h2:idx (.int .i64 ((all.length:Int) - 1)) = some (all.length - 1):=by simp [idx]; omega
  simp only [evSlice,Tryz.underlying38,bnds,h1,h2,List.length_map,Option.map_some]
  rw [if_pos (by omega)]
  rw [hmid,midP,← hall,List.map_take,List.map_drop]
  congr 2
 have hpm:parseM s = (runP cd0 mid).bind (fun c=>if checkC c = 0 then some c else none):=by simp only [parseM,hhead,if_true,hmid]
 have hme:∀ x ∈ mid,x.length≤1000000:=by
  intro x hx
  refine hae x ?_
  rw [hmid,midP,← hall] at hx
  exact List.mem_of_mem_drop (List.mem_of_mem_take hx)
 refine .vc (by decide) ?_
 repeat' (first | (simp (disch:=first | omega | (simp only [List.length_append,List.length_cons,List.length_nil,List.length_map,List.length_set]; omega)) only [VC_seq,VC_block,VC_region,VC_loop,VO_nil,VO_plain,VO_guard,VG_true,VV_some,VS,List.length_map,ofV_bool,ofV_int,ofV_lit,deN_vsl,gdA,callOf,isPanic,nextOf,altA,evalOp,ev_tmp,ev_const,ev_func,Av.get,St.put,thenQ,Nat.reduceEqDiff,↓reduceIte,List.map_cons,List.map_nil,List.nil_append,List.append_nil,List.getElem?_cons_zero,List.getElem?_cons_succ,List.getElem?_toArray,Option.map_some,Option.map_none,Option.bind_some,beq_true,pickA,cond_true,b_geq,b_sub64,s_eql,decide_eq_true,lw9,lv38,hi0,hi1,e3,e4,hsl]) | (guard_target =~ VCall _ _ _ _ _ _ _; refine VCall.pure (by first | with_reducible exact hun | with_reducible exact huf | with_reducible exact hsf | with_reducible exact hs0 | with_reducible exact hs1 | with_reducible exact mustT) (by (first | rfl | (simp only [AV.hfs,AV.hf,Bool.and_self,Bool.and_true,Bool.true_and,strs_hfs,strs_hfs]))) ?_) | (guard_target =~ DCal _ _ _ _ _ _ _; refine DCal.pure (by first | with_reducible exact hun | with_reducible exact huf | with_reducible exact hsf | with_reducible exact hs0 | with_reducible exact hs1 | with_reducible exact mustT) (by (first | rfl | (simp only [AV.hfs,AV.hf,Bool.and_self,Bool.and_true,Bool.true_and,strs_hfs,strs_hfs]))) ?_))
 refine W.loopD dP (X:=Nat × Cd × Nat × Nat × Bool) (fun x=>[(47,.int .i64 (x.1:Int)),(46,.int .i64 (mid.length:Int)),(45,.vsl 0 false (mid.map .str)),(2,.ptr 0 0),(3,.ptr 1 0)])
  (fun x=>mem (pB x.2.1.ver (pV x.2.2.1 x.2.2.2.2 x.2.1.ls)) encLn x.2.2.1 x.2.2.2.1 x.2.2.2.2 x.2.1.ls)
  (fun x=>x.1≤mid.length∧runP x.2.1 (mid.drop x.1) = runP cd0 mid∧(x.2.2.2.2 = false→x.2.1.ls = [])∧x.2.1.ls.length≤x.1∧x.2.1.x = false)
  (fun x=>mid.length - x.1) (0,cd0,0,0,false) (fun _=>Nat.zero_le _) ?_ rfl ⟨Nat.zero_le _,rfl,fun _=>rfl,Nat.le_refl _,rfl⟩ ?_ ?_ ?_ ?_
 ·intro x
  have:2≤(mem (pB x.2.1.ver (pV x.2.2.1 x.2.2.2.2 x.2.1.ls)) encLn x.2.2.1 x.2.2.2.1 x.2.2.2.2 x.2.1.ls).length:=by rw [mem_len]; simp [pB]; omega
  simp only [dP,List.all_cons,List.all_nil,DE.hlt,AV.hlts,AV.hlt,Bool.and_true,Bool.and_eq_true,decide_eq_true_eq]
  omega
 ·simp only [subT,Av.get,Nat.reduceEqDiff,↓reduceIte,Le_rfl,nat0,nat1,and_self,true_and,and_true,List.length_map,List.length_nil]
 ·have hfs:AV.hlts (mem (pB cd0.ver (pV 0 false cd0.ls)) encLn 0 0 false cd0.ls).length (mid.map .str) = true:=strs_hlts _ _
  have:2≤(mem (pB cd0.ver (pV 0 false cd0.ls)) encLn 0 0 false cd0.ls).length:=by rw [mem_len]; simp [pB]
  simp only [hltT,AV.hlt,hfs,Bool.and_true,Bool.true_and,Bool.and_eq_true,decide_eq_true_eq]
  omega
 ·simp [mem,pB,pV,cd0,subH,OB.hlt,AV.hlts,AV.hlt]
 rintro ⟨i,⟨ver,cx,ls⟩,k,j,z⟩ ⟨l1,l2,l3,l4,l5⟩
 simp only at l1 l2 l3 l4 l5 ⊢
 subst l5
 obtain ⟨v,hv⟩:∃ v,v = pV k z ls:=⟨_,rfl⟩
 obtain ⟨M,hM⟩:∃ M,M = mem (pB ver (pV k z ls)) encLn k j z ls:=⟨_,rfl⟩
 have hok:okH M:=by rw [hM]; exact pM_ok
 have hM0:M[0]? = some (.cells [.str ver,v] false):=by rw [hM,mem_get (by simp [pB]),hv]; rfl
 have hM1:M[1]? = some (.cells [.int .i64 0] false):=by rw [hM,mem_get (by simp [pB])]; rfl
 have hMl:2≤M.length:=by rw [hM,mem_len]; simp [pB]; omega
 have hvI:v = .nilsl∨∃ a b,v = .sl a 0 b 5:=by rw [hv]; cases z<;>simp [pV]
 have hvC:v.isC = true:=by rcases hvI with h | ⟨a,b,h⟩<;>rw [h]<;>rfl
 have hv1:v.cells = [v]:=by rcases hvI with h | ⟨a,b,h⟩<;>rw [h]<;>rfl
 have hhl:∀ (y:Nat × Cd × Nat × Nat × Bool),hltT (mem (pB y.2.1.ver (pV y.2.2.1 y.2.2.2.2 y.2.1.ls)) encLn y.2.2.1 y.2.2.2.1 y.2.2.2.2 y.2.1.ls).length [(47,.int .i64 (y.1:Int)),(46,.int .i64 (mid.length:Int)),(45,.vsl 0 false (mid.map .str)),(2,.ptr 0 0),(3,.ptr 1 0)] = true:=by
  intro y
  have hfs:AV.hlts (mem (pB y.2.1.ver (pV y.2.2.1 y.2.2.2.2 y.2.1.ls)) encLn y.2.2.1 y.2.2.2.1 y.2.2.2.2 y.2.1.ls).length (mid.map .str) = true:=strs_hlts _ _
  have:2≤(mem (pB y.2.1.ver (pV y.2.2.1 y.2.2.2.2 y.2.1.ls)) encLn y.2.2.1 y.2.2.2.1 y.2.2.2.2 y.2.1.ls).length:=by rw [mem_len]; simp [pB]; omega
  simp only [hltT,AV.hlt,hfs,Bool.and_true,Bool.true_and,Bool.and_eq_true,decide_eq_true_eq]
  omega
 have hfzv:∀ c0 c1,∃ u,fz ((M.set 0 c0).set 1 c1) 18 v = some u∧Le u (.vsl 5 false (ls.map encLn)):=by
  intro c0 c1
  cases z with
  | false=>rw [hv,l3 rfl]; exact ⟨_,rfl,.nils _ _⟩
  | true=>
   rw [hv]
   refine slIn_fz (n:=4) (k:=17) (by decide) (fun x=>⟨[.str x.g,.str x.n,.vsl 3 x.x (x.ps.map encR),.str x.v],rfl,rfl⟩) (fun x=>by simp [encLn,AV.cells,AV.hfs,AV.hf,encR_hfs]) (.inr ⟨2 + k,rfl,?_⟩)
   rw [List.getElem?_set_ne (by omega),List.getElem?_set_ne (by omega),hM]
   exact mem_at (B:=pB ver (pV k true ls))
 have hfzw:∀ c0 c1,∃ u,fz ((M.set 0 c0).set 1 c1) 19 v = some u∧Le u (.vsl 5 false (ls.map encLn)):=by
  intro c0 c1
  cases z with
  | false=>rw [hv,l3 rfl]; exact ⟨_,rfl,.nils _ _⟩
  | true=>
   rw [hv]
   refine slIn_fz (n:=4) (k:=18) (by decide) (fun x=>⟨[.str x.g,.str x.n,.vsl 3 x.x (x.ps.map encR),.str x.v],rfl,rfl⟩) (fun x=>by simp [encLn,AV.cells,AV.hfs,AV.hf,encR_hfs]) (.inr ⟨2 + k,rfl,?_⟩)
   rw [List.getElem?_set_ne (by omega),List.getElem?_set_ne (by omega),hM]
   exact mem_at (B:=pB ver (pV k true ls))
 rw [← hM]
 have pend:∀ T E,(∀ m,M.length + E.length≤m→E.all (OB.hlt m) = true)→parseM s = none→Av.get T 2 = .ptr 0 0→Av.get T 3 = .ptr 1 0→lvQ Tryz.prog (retPK Tryz.prog Tryz.f16.results.toList (outP (parseO s))) (.panic 58 (.agg [])) ⟨T,M++E,dP⟩:=by
  intro T E hE hn h2 h3
  have e:parseO s = (cd0,250):=by simp only [parseO,if_neg q0,hn]
  rw [e]
  exact panP (okH_app hok hE) (get_app hM0) (get_app hM1) h2 h3
 have pend0:∀ T,parseM s = none→Av.get T 2 = .ptr 0 0→Av.get T 3 = .ptr 1 0→lvQ Tryz.prog (retPK Tryz.prog Tryz.f16.results.toList (outP (parseO s))) (.panic 58 (.agg [])) ⟨T,M,dP⟩:=by
  intro T hn h2 h3
  have:=pend T [] (fun _ _=>rfl) hn h2 h3
  rwa [List.append_nil] at this
 by_cases h:i < mid.length
 ·obtain ⟨u,hu,hdrop⟩:=drop_at h
  have hul:=hme u (List.mem_of_getElem? hu)
  have hl:=linedV u hul
  have hia:∀ H,evIndexAddr Tryz.prog 38 (.vsl 0 false (mid.map .str)) (.int .i64 (i:Int)) H = some (.vptr [.str u]):=fun H=>iv38 (v:=.str u) (by simp [hu]) rfl H
  rw [hdrop,runP] at l2
  refine .vc (by decide) ?_
  cases hln:lnR u with
  | none=>
   have hn:parseM s = none:=by rw [hpm,← l2]; simp [stepP,hln]
   rw [hln] at hl
   simp only [lnOut,stopA] at hl
   repeat' (first | (simp (disch:=first | omega | (simp only [List.length_append,List.length_cons,List.length_nil,List.length_map,List.length_set]; omega)) only [VC_skip,VC_seq,VC_cond,VC_block,VC_region,VI_true,VO_nil,VO_plain,VV_some,VS,blockQ,callOf,isPanic,nextOf,altA,evalOp,ev_tmp,ev_func,Av.get,St.put,thenQ,Nat.reduceEqDiff,↓reduceIte,List.map_cons,List.map_nil,List.nil_append,List.append_nil,Option.map_some,b_lss,decide_eq_true,lw9,hia,hM0,hM1]) | (guard_target =~ VCall _ _ _ _ _ _ _; refine VCall.pan hl rfl ?_))
   exact pend0 _ hn rfl rfl
  | some l=>
   obtain ⟨lg,ln,lx,lps,lv⟩:=l
   rw [hln] at hl
   simp only [lnOut,encLn] at hl
   have hE:∀ m,M.length + [OB.cells [.str lg,.str ln,.vsl 3 lx (lps.map encR),.str lv] false].length≤m→[OB.cells [.str lg,.str ln,.vsl 3 lx (lps.map encR),.str lv] false].all (OB.hlt m) = true:=by
    intro m _; simp [OB.hlt,AV.hlts,AV.hlt,encR_hlts]
   have hEm:∀ m,OB.hlt m (OB.cells [.str lg,.str ln,.vsl 3 lx (lps.map encR),.str lv] false) = true:=by
    intro m; simp [OB.hlt,AV.hlts,AV.hlt,encR_hlts]
   by_cases qv:ln = sVersion
   ·have ev:(ln == sVersion) = true:=by simp [qv]
    simp only [sVersion] at ev
    by_cases c1:ver = []
    case neg=>
     have e1:(ver == []) = false:=by simp [c1]
     have hn:parseM s = none:=by rw [hpm,← l2]; simp [stepP,hln,qv,c1]
     repeat' (first | (simp (disch:=first | omega | (simp only [List.length_append,List.length_cons,List.length_nil,List.length_map,List.length_set]; omega)) only [VC_skip,VC_seq,VC_cond,VC_block,VC_region,VI_true,VO_nil,VO_plain,VO_guard,VG_false,VV_some,VS,ofV_bool,ofV_lit,gdA,callOf,isPanic,nextOf,altA,evalOp,ev_tmp,ev_const,ev_func,Av.get,St.put,thenQ,Nat.reduceEqDiff,↓reduceIte,Bool.and_self,List.map_cons,List.map_nil,List.nil_append,List.append_nil,List.getElem?_cons_zero,List.getElem?_cons_succ,List.getElem?_toArray,Option.map_some,Option.bind_some,beq_true,Bool.false_eq_true,pickA,ldC,stC,ic_str,ic_vsl,cl_agg,setC,List.set_cons_zero,List.set_cons_succ,List.length_cons,List.length_nil,Nat.reduceAdd,List.all_cons,List.all_nil,and_self,Nat.add_zero,Nat.zero_add,Nat.le_refl,b_lss,s_eql,decide_eq_true,ld9,lw9,fa24_0,st45,fa45_1,zz45,hia,hM0,hM1,ev,e1,List.getElem?_append_left,List.getElem?_append_right,List.set_append_right,Nat.sub_self]) | (guard_target =~ VCall _ _ _ _ _ _ _; refine VCall.pure (by first | with_reducible exact hl) (by (first | rfl | (simp only [AV.hfs,AV.hf,Bool.and_self,Bool.and_true,Bool.true_and,strs_hfs]))) ?_) | (guard_target =~ DCal _ _ _ _ _ _ _; refine DCal.pure (by first | with_reducible exact hl) (by (first | rfl | (simp only [AV.hfs,AV.hf,Bool.and_self,Bool.and_true,Bool.true_and,strs_hfs]))) ?_))
     refine VCall.pan mustF rfl (pend _ _ hE hn rfl rfl)
    have e1:(ver == []) = true:=by simp [c1]
    by_cases c2:lg = []
    case neg=>
     have e2:(lg == []) = false:=by simp [c2]
     have hn:parseM s = none:=by rw [hpm,← l2]; simp [stepP,hln,qv,c2]
     repeat' (first | (simp (disch:=first | omega | (simp only [List.length_append,List.length_cons,List.length_nil,List.length_map,List.length_set]; omega)) only [VC_skip,VC_seq,VC_cond,VC_block,VC_region,VI_true,VO_nil,VO_plain,VO_guard,VG_true,VG_false,VV_some,VS,ofV_bool,ofV_lit,gdA,callOf,isPanic,nextOf,altA,evalOp,ev_tmp,ev_const,ev_func,Av.get,St.put,thenQ,Nat.reduceEqDiff,↓reduceIte,Bool.and_self,List.map_cons,List.map_nil,List.nil_append,List.append_nil,List.getElem?_cons_zero,List.getElem?_cons_succ,List.getElem?_toArray,Option.map_some,Option.bind_some,beq_true,Bool.false_eq_true,pickA,cond_true,ldC,stC,ic_str,ic_vsl,cl_agg,setC,List.set_cons_zero,List.set_cons_succ,List.length_cons,List.length_nil,Nat.reduceAdd,List.all_cons,List.all_nil,and_self,Nat.add_zero,Nat.zero_add,Nat.le_refl,b_lss,s_eql,decide_eq_true,ld9,lw9,fa24_0,st45,fa45_0,fa45_1,zz45,hia,hM0,hM1,ev,e1,e2,List.getElem?_append_left,List.getElem?_append_right,List.set_append_right,Nat.sub_self]) | (guard_target =~ VCall _ _ _ _ _ _ _; refine VCall.pure (by first | with_reducible exact hl) (by (first | rfl | (simp only [AV.hfs,AV.hf,Bool.and_self,Bool.and_true,Bool.true_and,strs_hfs]))) ?_) | (guard_target =~ DCal _ _ _ _ _ _ _; refine DCal.pure (by first | with_reducible exact hl) (by (first | rfl | (simp only [AV.hfs,AV.hf,Bool.and_self,Bool.and_true,Bool.true_and,strs_hfs]))) ?_))
     refine VCall.pan mustF rfl (pend _ _ hE hn rfl rfl)
    have e2:(lg == []) = true:=by simp [c2]
    by_cases c3:lps.length = 0
    case neg=>
     have hn:parseM s = none:=by
      have:lps ≠ []:=by intro h; rw [h] at c3; simp at c3
      rw [hpm,← l2]; simp [stepP,hln,qv,this]
     repeat' (first | (simp (disch:=first | omega | (simp only [List.length_append,List.length_cons,List.length_nil,List.length_map,List.length_set]; omega)) only [VC_skip,VC_seq,VC_cond,VC_block,VC_region,VI_true,VO_nil,VO_plain,VO_guard,VG_true,VG_false,VV_some,VS,List.length_map,ofV_bool,ofV_int,ofV_lit,deN_vsl,gdA,callOf,isPanic,nextOf,altA,evalOp,ev_tmp,ev_const,ev_func,Av.get,St.put,thenQ,Nat.reduceEqDiff,↓reduceIte,Bool.and_self,List.map_cons,List.map_nil,List.nil_append,List.append_nil,List.getElem?_cons_zero,List.getElem?_cons_succ,List.getElem?_toArray,Option.map_some,Option.bind_some,beq_true,Bool.false_eq_true,pickA,cond_true,ldC,stC,ic_str,ic_vsl,cl_agg,setC,List.set_cons_zero,List.set_cons_succ,List.length_cons,List.length_nil,Nat.reduceAdd,List.all_cons,List.all_nil,and_self,Nat.add_zero,Nat.zero_add,Nat.le_refl,b_lss,b_eql,s_eql,ieq_f,decide_eq_true,ld9,lw9,fa24_0,ld43,lv43,st45,fa45_0,fa45_1,fa45_2,zz45,hia,hM0,hM1,ev,e1,e2,List.getElem?_append_left,List.getElem?_append_right,List.set_append_right,Nat.sub_self]) | (guard_target =~ VCall _ _ _ _ _ _ _; refine VCall.pure (by first | with_reducible exact hl) (by (first | rfl | (simp only [AV.hfs,AV.hf,Bool.and_self,Bool.and_true,Bool.true_and,strs_hfs]))) ?_) | (guard_target =~ DCal _ _ _ _ _ _ _; refine DCal.pure (by first | with_reducible exact hl) (by (first | rfl | (simp only [AV.hfs,AV.hf,Bool.and_self,Bool.and_true,Bool.true_and,strs_hfs]))) ?_))
     refine VCall.pan mustF rfl (pend _ _ hE hn rfl rfl)
    have c3':lps = []:=List.length_eq_zero_iff.1 c3
    have hver:=versionV lv
    by_cases c4:version lv = true
    case neg=>
     have c4:version lv = false:=by simpa using c4
     rw [c4] at hver
     have hn:parseM s = none:=by rw [hpm,← l2]; simp [stepP,hln,qv,c4]
     repeat' (first | (simp (disch:=first | omega | (simp only [List.length_append,List.length_cons,List.length_nil,List.length_map,List.length_set]; omega)) only [VC_skip,VC_seq,VC_cond,VC_block,VC_region,VI_true,VO_nil,VO_plain,VO_guard,VG_true,VV_some,VS,List.length_map,ofV_bool,ofV_int,ofV_lit,deN_vsl,gdA,callOf,isPanic,nextOf,altA,evalOp,ev_tmp,ev_const,ev_func,Av.get,St.put,thenQ,Nat.reduceEqDiff,↓reduceIte,Bool.and_self,List.map_cons,List.map_nil,List.nil_append,List.append_nil,List.getElem?_cons_zero,List.getElem?_cons_succ,List.getElem?_toArray,Option.map_some,Option.bind_some,beq_true,pickA,cond_true,ldC,stC,ic_str,ic_vsl,cl_agg,setC,List.set_cons_zero,List.set_cons_succ,List.length_cons,List.length_nil,Nat.reduceAdd,List.all_cons,List.all_nil,and_self,Nat.add_zero,Nat.zero_add,Nat.le_refl,b_lss,b_eql,s_eql,ieq_t,decide_eq_true,ld9,lw9,fa24_0,ld43,lv43,st45,fa45_0,fa45_1,fa45_2,fa45_3,zz45,hia,hM0,hM1,ev,e1,e2,List.getElem?_append_left,List.getElem?_append_right,List.set_append_right,Nat.sub_self]) | (guard_target =~ VCall _ _ _ _ _ _ _; refine VCall.pure (by first | with_reducible exact hl | with_reducible exact hver) (by (first | rfl | (simp only [AV.hfs,AV.hf,Bool.and_self,Bool.and_true,Bool.true_and,strs_hfs]))) ?_) | (guard_target =~ DCal _ _ _ _ _ _ _; refine DCal.pure (by first | with_reducible exact hl | with_reducible exact hver) (by (first | rfl | (simp only [AV.hfs,AV.hf,Bool.and_self,Bool.and_true,Bool.true_and,strs_hfs]))) ?_))
     refine VCall.pan mustF rfl (pend _ _ hE hn rfl rfl)
    rw [c4] at hver
    have hst:stepP ⟨ver,false,ls⟩ u = some ⟨lv,false,ls⟩:=by simp [stepP,hln,qv,c1,c2,c3',c4]
    rw [hst,Option.bind_some] at l2
    repeat' (first | (simp (disch:=first | omega | (simp only [List.length_append,List.length_cons,List.length_nil,List.length_map,List.length_set]; omega)) only [VC_skip,VC_seq,VC_cond,VC_block,VC_exit,VC_region,VI_true,VO_nil,VO_plain,VO_guard,VG_true,VV_some,VS,blockQ,List.length_map,ofV_bool,ofV_int,ofV_lit,deN_vsl,gdA,callOf,isPanic,nextOf,altA,evalOp,ev_tmp,ev_const,ev_func,Av.get,St.put,thenQ,Nat.reduceEqDiff,↓reduceIte,Bool.and_self,List.map_cons,List.map_nil,List.nil_append,List.append_nil,List.getElem?_cons_zero,List.getElem?_cons_succ,List.getElem?_toArray,Option.map_some,Option.bind_some,beq_true,pickA,cond_true,ldC,stC,cl_str,ic_str,ic_vsl,cl_agg,setC,List.set_cons_zero,List.set_cons_succ,List.length_cons,List.length_nil,Nat.reduceAdd,Nat.reduceLeDiff,List.all_cons,List.all_nil,and_self,and_true,Nat.add_zero,Nat.zero_add,Nat.le_refl,b_lss,b_eql,b_add64,s_eql,ieq_t,castS,decide_eq_true,st9,ld9,lw9,fa24_0,ld43,lv43,st45,fa45_0,fa45_1,fa45_2,fa45_3,zz45,hia,hM0,hM1,ev,e1,e2,List.getElem?_append_left,List.getElem?_append_right,List.set_append_left,List.set_append_right,Nat.sub_self]) | (guard_target =~ VCall _ _ _ _ _ _ _; refine VCall.pure (by first | with_reducible exact hl | with_reducible exact hver | with_reducible exact mustT) (by (first | rfl | (simp only [AV.hfs,AV.hf,Bool.and_self,Bool.and_true,Bool.true_and,strs_hfs]))) ?_) | (guard_target =~ DCal _ _ _ _ _ _ _; refine DCal.pure (by first | with_reducible exact hl | with_reducible exact hver | with_reducible exact mustT) (by (first | rfl | (simp only [AV.hfs,AV.hf,Bool.and_self,Bool.and_true,Bool.true_and,strs_hfs]))) ?_))
    refine ⟨(i + 1,⟨lv,false,ls⟩,(if z then k else k + 1),j + 1,z),⟨h,l2,l3,by simp only; omega,rfl⟩,by simp only; omega,?_,hhl _,?_⟩
    ·simp only [subT,Av.get,Nat.reduceEqDiff,↓reduceIte,Le_rfl,nat0,nat1,and_self,true_and,and_true,List.length_map,List.length_nil]
    ·have hvz:pV (if z then k else k + 1) z ls = v:=by rw [hv]; cases z<;>rfl
     simp only [hvz]
     have:=mem_more (B:=pB lv v) (f:=encLn) (k:=k) (j:=j) (z:=z) (L:=ls) (E:=[.cells [.str lg,.str ln,.vsl 3 lx (lps.map encR),.str lv] false]) (m:=(mem (pB lv v) encLn (if z then k else k + 1) (j + 1) z ls).length) (pB_hlt (by
      rw [hv]; refine pV_hlt fun hz=>?_
      rw [mem_len,hz]; simp [pB])) (encLnc_hlts _)
     have e:M.set 0 (.cells [.str lv,v] false) = mem (pB lv v) encLn k j z ls:=by rw [hM,mem_set (by simp [pB]),← hv]; rfl
     rw [e]; exact this
   ·have ev:(ln == sVersion) = false:=by simpa using qv
    simp only [sVersion] at ev
    have hlv:=lineV ⟨lg,ln,lx,lps,lv⟩
    simp only [encLn] at hlv
    by_cases c1:lineB ⟨lg,ln,lx,lps,lv⟩ = true
    case neg=>
     have c1:lineB ⟨lg,ln,lx,lps,lv⟩ = false:=by simpa using c1
     rw [c1] at hlv
     have hn:parseM s = none:=by rw [hpm,← l2]; simp [stepP,hln,qv,c1]
     repeat' (first | (simp (disch:=first | omega | (simp only [List.length_append,List.length_cons,List.length_nil,List.length_map,List.length_set]; omega)) only [VC_skip,VC_seq,VC_cond,VC_block,VC_region,VI_true,VI_false,VO_nil,VO_plain,VV_some,VS,ofV_lit,callOf,isPanic,nextOf,altA,evalOp,ev_tmp,ev_const,ev_func,Av.get,St.put,thenQ,Nat.reduceEqDiff,↓reduceIte,Bool.and_self,List.map_cons,List.map_nil,List.nil_append,List.append_nil,List.getElem?_cons_zero,List.getElem?_cons_succ,Option.map_some,ldC,ldG,stC,ic_str,ic_vsl,cl_agg,setC,List.set_cons_zero,List.set_cons_succ,List.length_cons,List.length_nil,Nat.reduceAdd,List.all_cons,List.all_nil,and_self,Nat.zero_add,List.drop_zero,List.take_succ_cons,List.take_zero,Nat.le_refl,b_lss,s_eql,decide_eq_true,ld9,lw9,st45,ld45,fa45_1,zz45,hia,hM0,hM1,ev,List.getElem?_append_right,List.set_append_right,Nat.sub_self]) | (guard_target =~ VCall _ _ _ _ _ _ _; refine VCall.pure (by first | with_reducible exact hl | with_reducible exact hlv) (by (first | rfl | (simp only [AV.hfs,AV.hf,Bool.and_self,Bool.and_true,Bool.true_and,strs_hfs,encR_hfs]))) ?_) | (guard_target =~ DCal _ _ _ _ _ _ _; refine DCal.pure (by first | with_reducible exact hl | with_reducible exact hlv) (by (first | rfl | (simp only [AV.hfs,AV.hf,Bool.and_self,Bool.and_true,Bool.true_and,strs_hfs,encR_hfs]))) ?_))
     refine VCall.pan mustF rfl (pend _ _ hE hn rfl rfl)
    rw [c1] at hlv
    have hst:stepP ⟨ver,false,ls⟩ u = some ⟨ver,false,ls++[⟨lg,ln,lx,lps,lv⟩]⟩:=by simp [stepP,hln,qv,c1]
    rw [hst,Option.bind_some] at l2
    have hbs:evBuildSlice Tryz.prog 22 1 [(0,.agg [.str lg,.str ln,.vsl 3 lx (lps.map encR),.str lv])] = some (.vsl 5 true [encLn ⟨lg,ln,lx,lps,lv⟩]):=by
     simp [evBuildSlice,Tryz.underlying22,ap22,AV.cells,AV.told,List.range',encLn]
    obtain ⟨M',ha1,ha2,ha3,ha4,ha5⟩:=mem_app (wd:=5) (bytes:=72) Tryz.underlying22 ap22 encLn (fun _=>rfl) (fun _=>rfl) (by decide) (pB ver (pV k z ls)) k j z ls (w0:=0) (fun hz=>.inr (l3 hz)) [.cells [.str lg,.str ln,.vsl 3 lx (lps.map encR),.str lv] false] ⟨lg,ln,lx,lps,lv⟩ true (by omega) hM
    have hBl:(pB ver (pV k z ls)).length = 2:=rfl
    obtain ⟨k',hk'⟩:∃ k',k' = M.length + [OB.cells [.str lg,.str ln,.vsl 3 lx (lps.map encR),.str lv] false].length - 2:=⟨_,rfl⟩
    rw [hBl,← hk'] at ha4
    rw [hBl,← pV_deN l3,← hv,← hk'] at ha1
    have hvN:memV 2 0 5 encLn k' true (ls++[⟨lg,ln,lx,lps,lv⟩]) = .sl (2 + k') 0 (ls++[(⟨lg,ln,lx,lps,lv⟩:Ln)]).length 5:=rfl
    rw [hvN] at ha1
    have hM'0:M'[0]? = some (.cells [.str ver,v] false):=by rw [ha5 0 (by simp [pB]),hv]; rfl
    have hvd:deN v = memV 2 0 5 encLn k z ls:=by rw [hv]; exact pV_deN l3
    repeat' (first | (simp (disch:=first | omega | (simp only [List.length_append,List.length_cons,List.length_nil,List.length_map,List.length_set]; omega)) only [VC_skip,VC_seq,VC_cond,VC_block,VC_region,VI_true,VI_false,VO_nil,VO_plain,VV_some,VS,blockQ,ofV_int,ofV_lit,deN_vsl,callOf,isPanic,nextOf,altA,evalOp,ev_tmp,ev_const,ev_func,Av.get,St.put,thenQ,Nat.reduceEqDiff,↓reduceIte,Bool.and_self,List.map_cons,List.map_nil,List.nil_append,List.append_nil,List.getElem?_cons_zero,List.getElem?_cons_succ,Option.map_some,ldC,ldG,stC,ic_str,cl_sl,ic_sl,ic_vsl,cl_agg,setC,List.set_cons_zero,List.set_cons_succ,List.length_cons,List.length_nil,Nat.reduceAdd,List.all_cons,List.all_nil,and_self,and_true,Nat.zero_add,List.drop_zero,List.take_succ_cons,List.take_zero,Nat.le_refl,b_lss,b_add64,s_eql,castS,decide_eq_true,ld9,lw9,st22,ld22,fa24_1,st45,ld45,fa45_1,zz45,hia,hM0,hM1,hM'0,ev,hbs,ha1,List.getElem?_append_left,List.getElem?_append_right,List.set_append_right,List.length_append,Nat.sub_self]) | (guard_target =~ VCall _ _ _ _ _ _ _; refine VCall.pure (by first | with_reducible exact hl | with_reducible exact hlv | with_reducible exact mustT) (by (first | rfl | (simp only [AV.hfs,AV.hf,Bool.and_self,Bool.and_true,Bool.true_and,strs_hfs,encR_hfs]))) ?_) | (guard_target =~ DCal _ _ _ _ _ _ _; refine DCal.pure (by first | with_reducible exact hl | with_reducible exact hlv | with_reducible exact mustT) (by (first | rfl | (simp only [AV.hfs,AV.hf,Bool.and_self,Bool.and_true,Bool.true_and,strs_hfs,encR_hfs]))) ?_))
    refine ⟨(i + 1,⟨ver,false,ls++[⟨lg,ln,lx,lps,lv⟩]⟩,k',0,true),⟨h,l2,(fun hh=>by cases hh),by simp only [List.length_append,List.length_cons,List.length_nil]; omega,rfl⟩,by simp only; omega,?_,hhl _,?_⟩
    ·simp only [subT,Av.get,Nat.reduceEqDiff,↓reduceIte,Le_rfl,nat0,nat1,and_self,true_and,and_true,List.length_map,List.length_nil]
    ·have h4:=ha4 (mem (pB ver (pV k' true (ls++[⟨lg,ln,lx,lps,lv⟩]))) encLn k' 0 true (ls++[⟨lg,ln,lx,lps,lv⟩])).length (pB_hlt (pV_hlt fun hz=>?_)) (encLnc_hlts _)
     ·have h5:=subH_set (b:=.cells [.str ver,pV k' true (ls++[⟨lg,ln,lx,lps,lv⟩])] false) (i:=0) ?_ h4
      ·rw [mem_set (by simp [pB])] at h5
       have e:(pB ver (pV k z ls)).set 0 (.cells [.str ver,pV k' true (ls++[⟨lg,ln,lx,lps,lv⟩])] false) = pB ver (pV k' true (ls++[⟨lg,ln,lx,lps,lv⟩])):=rfl
       rw [e] at h5
       simpa [pV] using h5
      ·have:(pV k' true (ls++[(⟨lg,ln,lx,lps,lv⟩:Ln)])).hlt (mem (pB ver (pV k' true (ls++[⟨lg,ln,lx,lps,lv⟩]))) encLn k' 0 true (ls++[⟨lg,ln,lx,lps,lv⟩])).length = true:=pV_hlt fun _=>by rw [mem_len]; simp [pB]
       simp [OB.hlt,AV.hlts,AV.hlt,this]
     ·rw [mem_len,hk']
      rw [hM,mem_len,hz]; simp [pB]; omega
 ·have hie:i = mid.length:=by omega
  subst hie
  rw [List.drop_length,runP] at l2
  obtain ⟨u,hu,hle⟩:=hfzw (.cells [.str ver,v] false) (.cells [.int .i64 0] false)
  have hM00:(M.set 0 (.cells [.str ver,v] false)).set 1 (.cells [.int .i64 0] false) = M:=by rw [set_get_same hM0,set_get_same hM1]
  rw [hM00] at hu
  obtain ⟨cc,hcc⟩:∃ cc,cc = checkC ⟨ver,false,ls⟩:=⟨_,rfl⟩
  have hck:PureFn Tryz.prog 15 [.agg [.str ver,u]] (.ret (.int .i64 cc)):=by
   rw [hcc]
   exact PureFn.le (.cons _ _ _ _ (.agg _ _ (.cons _ _ _ _ (.refl _) (.cons _ _ _ _ hle .nil))) .nil) (checkV ⟨ver,false,ls⟩)
  have hln:lend M [.agg [.str ver,v]] (.ret (.int .i64 cc)) = some [.agg [.str ver,u]]:=by
   have h1:fz M 20 (.agg [.str ver,v]) = some (.agg [.str ver,u]):=fz_agg_any (k:=18) (by simp only [List.mapM_cons,List.mapM_nil,hu]; rfl)
   exact lend_fz (by simp only [List.mapM_cons,List.mapM_nil,h1]; rfl) rfl
  refine .vc (by decide) ?_
  by_cases c0:cc = 0
  ·rw [c0] at hck hln
   have hn:parseO s = (⟨ver,false,ls⟩,0):=by
    have:parseM s = some ⟨ver,false,ls⟩:=by rw [hpm,← l2,Option.bind_some,← hcc,if_pos c0]
    simp only [parseO,if_neg q0,this]
   rw [hn]
   rcases hvI with hvI | ⟨a,b,hvI⟩
   all_goals
    rw [hvI] at hM0 hln hM00
    repeat' (first | (simp (disch:=first | omega | (simp only [List.length_append,List.length_cons,List.length_nil,List.length_map,List.length_set]; omega)) only [VC_seq,VC_cond,VC_exit,VC_ret,VC_region,VI_false,VO_nil,VO_plain,VV_some,VS,blockQ,ofV_int,callOf,isPanic,nextOf,altA,evalOp,ev_tmp,ev_const,ev_func,Av.get,St.put,thenQ,Nat.reduceEqDiff,↓reduceIte,Bool.and_self,List.map_cons,List.map_nil,List.nil_append,List.append_nil,Option.map_some,ldG,stC,cl_int,ic_int,ic_str,ic_sl,ic_nilsl,cl_agg,setC,List.set_cons_zero,List.set_cons_succ,List.length_cons,List.length_nil,Nat.reduceAdd,List.all_cons,List.all_nil,and_self,Nat.zero_add,List.drop_zero,List.take_succ_cons,List.take_zero,Nat.le_refl,b_lss,b_eql,ieq_t,decide_eq_false,st24,ld24,st27,hM0,hM1,Nat.sub_self,List.getElem?_set_ne]) | (guard_target =~ VCall _ _ _ _ _ _ _; refine VCall.lend _ hck hln ?_) | (guard_target =~ VCall _ _ _ _ _ _ _; refine VCall.pure (by first | with_reducible exact mustT) (by (first | rfl | (simp only [AV.hfs,AV.hf,Bool.and_self,Bool.and_true,Bool.true_and,strs_hfs]))) ?_) | (guard_target =~ DCal _ _ _ _ _ _ _; refine DCal.pure (by first | with_reducible exact mustT) (by (first | rfl | (simp only [AV.hfs,AV.hf,Bool.and_self,Bool.and_true,Bool.true_and,strs_hfs]))) ?_))
    refine ⟨.ret,_,recN (by rw [hM00]; exact hok),retPcc 2 24 3 27 rfl (v1:=.agg [.str ver,v]) (v2:=.int .i64 0) ?_ ?_ ⟨fz_aggL (k:=17) (ts:=[.str ver,.vsl 5 false (ls.map encLn)]) (LzL_hf rfl (⟨hfzv _ _,trivial⟩:LzL _ 18 [v] [.vsl 5 false (ls.map encLn)])),LzL_hf rfl trivial⟩⟩
    ·rw [hvI]; simp (disch:=first | omega | (simp only [List.length_append,List.length_cons,List.length_nil,List.length_map,List.length_set]; omega)) only [Av.get,Nat.reduceEqDiff,↓reduceIte,ldG,List.length_cons,List.length_nil,Nat.reduceAdd,Nat.zero_add,List.drop_zero,List.take_succ_cons,List.take_zero,Nat.le_refl,ld24,List.getElem?_set_self,List.getElem?_set_ne]
    ·simp (disch:=first | omega | (simp only [List.length_append,List.length_cons,List.length_nil,List.length_map,List.length_set]; omega)) only [Av.get,Nat.reduceEqDiff,↓reduceIte,List.getElem?_cons_zero,ldC,ld27,List.getElem?_set_self]
  ·have hn:parseM s = none:=by rw [hpm,← l2,Option.bind_some,← hcc,if_neg c0]
   repeat' (first | (simp (disch:=first | omega | (simp only [List.length_append,List.length_cons,List.length_nil,List.length_map,List.length_set]; omega)) only [VC_seq,VC_cond,VC_exit,VC_region,VI_false,VO_nil,VO_plain,VV_some,VS,blockQ,ofV_int,callOf,isPanic,nextOf,altA,evalOp,ev_tmp,ev_const,ev_func,Av.get,St.put,thenQ,Nat.reduceEqDiff,↓reduceIte,List.map_cons,List.map_nil,List.nil_append,List.append_nil,Option.map_some,ldG,List.length_cons,List.length_nil,Nat.reduceAdd,Nat.zero_add,List.drop_zero,List.take_succ_cons,List.take_zero,Nat.le_refl,b_lss,b_eql,ieq_f,decide_eq_false,ld24,hM0,hM1,Nat.sub_self]) | (guard_target =~ VCall _ _ _ _ _ _ _; refine VCall.lend _ hck hln ?_))
   refine VCall.pan mustF rfl (pend0 _ hn rfl rfl)
end Go.Proofs.YtjlhemfmeboadaaGreatDoor
namespace Go.Proofs.YtjlhemfmeboadaaGreatDoor
set_option linter.unusedVariables false
set_option linter.unusedSimpArgs false
open Go Go.Av Go.RowKit

/-! ### Names -/
/-! ### Folded -/
theorem bsBs (x:UInt8):evBuildSlice Tryz.prog 42 1 [(0,.int .u8 x.toNat)] = some (.vsl 0 true [byteA x]):=bsB x
def byM (k:Nat) (z:Bool) (L:Bytes):List OB:=mem [] byteA k 0 z L
def byV (k:Nat) (z:Bool) (L:Bytes):AV:=memV 0 0 0 byteA k z L
theorem flat_bytes (L:Bytes):flatA byteA L = bytesA L:=by
 induction L with
 | nil=>rfl
 | cons x t ih=>simp only [flatA,List.map_cons,List.flatMap_cons] at ih ⊢; rw [ih]; rfl
theorem by_app1 (k : Nat) (z : Bool) (L : Bytes) (x : UInt8) (y : Bool) (hb : L.length ≤ 1000000) (h : z = false → L = []) :
    ∃ k', evAppend Tryz.prog 42 42 (byV k z L) (.vsl 0 y [byteA x]) (byM k z L) = some (byV k' true (L ++ [x]), byM k' true (L ++ [x])) := by
  have hz8 : (1 : Nat) = esz 0 := rfl
  cases z with
  | false =>
    rw [h rfl]
    refine ⟨k, ?_⟩
    have : (mem [] byteA k 0 false ([] : Bytes)) = List.replicate k .dead := by simp [mem]
    simp only [byV, byM, memV, Bool.false_eq_true, if_false, List.map_nil, this, evAppend, Tryz.underlying42, apX, ap42, newsX, newsA]
    simp [mem, flat_bytes, bytesA, esz, AV.cells, byteA]
  | true =>
    refine ⟨k + 1, ?_⟩
    have hl : (mem [] byteA k 0 true L) = List.replicate k .dead ++ [.cells (bytesA L) true] := by simp [mem, flat_bytes]
    have hl2 : (mem [] byteA (k + 1) 0 true (L ++ [x])) = List.replicate (k + 1) .dead ++ [.cells (bytesA (L ++ [x])) true] := by simp [mem, flat_bytes]
    have hg : (List.replicate k OB.dead ++ [OB.cells (bytesA L) true])[k]? = some (.cells (bytesA L) true) := by
      rw [List.getElem?_append_right (by simp)]; simp
    have hs : (List.replicate k OB.dead ++ [OB.cells (bytesA L) true]).set k .dead = List.replicate (k + 1) .dead := by
      rw [List.set_append_right _ _ (by simp)]; simp [List.replicate_succ']
    simp only [byV, byM, memV, if_true, hl, hl2, Nat.zero_add, List.length_nil, evAppend, Tryz.underlying42, apX, ap42, newsX, newsA, hg]
    have hbl : (bytesA L).length = L.length := bytesA_len L
    have hn : ([byteA x].flatMap AV.cells) = [byteA x] := rfl
    simp only [hn, List.length_cons, List.length_nil, esz, if_true, Nat.mul_one, Nat.zero_add, hbl, List.drop_zero]
    rw [if_pos ⟨trivial, rfl, by omega, Nat.le_refl _⟩, if_neg (by omega)]
    simp [hs, bytesA, List.replicate_succ']
theorem by_str (k:Nat) (z:Bool) (L:Bytes) (h:z = false→L = []):evConv Tryz.prog 42 9 (byV k z L) (byM k z L) = some (.str L,byM k z L):=by
 cases z with
 | false=>rw [h rfl]; simp [byV,memV,evConv,Tryz.underlying9,Tryz.underlying42,Tryz.underlying5]; rfl
 | true=>
  have hl:(mem [] byteA k 0 true L) = List.replicate k .dead++[.cells (bytesA L) true]:=by simp [mem,flat_bytes]
  have hg:(List.replicate k OB.dead++[OB.cells (bytesA L) true])[k]? = some (.cells (bytesA L) true):=by
   rw [List.getElem?_append_right (by simp)]; simp
  have hbl:(bytesA L).length = L.length:=bytesA_len L
  simp only [byV,byM,memV,if_true,hl,Nat.zero_add,List.length_nil,evConv,Tryz.underlying9,Tryz.underlying42,Tryz.underlying5,hg,Nat.zero_add,hbl]
  simp [List.take_of_length_le,unbyte_bytesA,hbl]
end Go.Proofs.YtjlhemfmeboadaaGreatDoor
namespace Go.Proofs.YtjlhemfmeboadaaGreatDoor
set_option linter.unusedVariables false
set_option linter.unusedSimpArgs false
open Go Go.Av Go.RowKit

/-! ### Fold -/
def room (i:Nat):Nat:=if i < 75 then 75 - i else (74 - (i - 75) % 74) % 74
/-! ### told, Text -/
end Go.Proofs.YtjlhemfmeboadaaGreatDoor
namespace Go.Proofs.YtjlhemfmeboadaaGreatDoor
set_option linter.unusedVariables false
set_option linter.unusedSimpArgs false
open Go Go.Av Go.RowKit

end Go.Proofs.YtjlhemfmeboadaaGreatDoor
namespace Go.Proofs.YtjlhemfmeboadaaGreatDoor
set_option linter.unusedVariables false
set_option linter.unusedSimpArgs false
open Go Go.Av Go.RowKit

/-! ### Lines -/
/-! ### A name in front -/
end Go.Proofs.YtjlhemfmeboadaaGreatDoor
namespace Go.Proofs.YtjlhemfmeboadaaGreatDoor
set_option linter.unusedVariables false
set_option linter.unusedSimpArgs false
open Go Go.Av Go.RowKit

/-! ### It is the program's -/
end Go.Proofs.YtjlhemfmeboadaaGreatDoor
namespace Go.Proofs.YtjlhemfmeboadaaGreatDoor
set_option linter.unusedVariables false
set_option linter.unusedSimpArgs false
open Go Go.Av Go.RowKit

end Go.Proofs.YtjlhemfmeboadaaGreatDoor
namespace Go.Proofs.YtjlhemfmeboadaaGreatDoor
set_option linter.unusedVariables false
set_option linter.unusedSimpArgs false
open Go Go.Av Go.RowKit

end Go.Proofs.YtjlhemfmeboadaaGreatDoor
namespace Go.Proofs.YtjlhemfmeboadaaGreatDoor
set_option linter.unusedVariables false
set_option linter.unusedSimpArgs false
open Go Go.Av Go.RowKit

end Go.Proofs.YtjlhemfmeboadaaGreatDoor
namespace Go.Proofs.YtjlhemfmeboadaaGreatDoor
set_option linter.unusedVariables false
set_option linter.unusedSimpArgs false
open Go Go.Av Go.RowKit

end Go.Proofs.YtjlhemfmeboadaaGreatDoor
namespace Go.Proofs.YtjlhemfmeboadaaGreatDoor
set_option linter.unusedVariables false
set_option linter.unusedSimpArgs false
open Go Go.Av Go.RowKit

def sK:Bytes:=[98,101,103,105,110,58,118,99,97,114,100,10,86,101,114,115,105,111,110,58,51,46,48,10,105,116,101,109,49,46,84,69,76,59,116,121,112,101,61,34,104,111,109,101,34,58,49,10,32,50,10,101,110,100,58,118,99,97,114,100,10]
def tK:Bytes:=[66,69,71,73,78,58,86,67,65,82,68,13,10,86,69,82,83,73,79,78,58,51,46,48,13,10,73,84,69,77,49,46,84,69,76,59,84,89,80,69,61,104,111,109,101,58,49,50,13,10,69,78,68,58,86,67,65,82,68,13,10]
def lK:Ln:=⟨[105,116,101,109,49],[116,101,108],false,[([116,121,112,101],[104,111,109,101])],[49,50]⟩
def cK:Cd:=⟨[51,46,48],false,[lK]⟩
theorem parse_K:parseO sK = (cK,0):=by kernel_rfl
theorem text_K:textC cK = tK:=by kernel_rfl
theorem check_K:checkC cK = 0:=by kernel_rfl
set_option maxRecDepth 8000 in
theorem knownV:PureFn Tryz.prog 12 [] (.ret (.bool true)):=by
 have hp:=parseV sK (by decide)
 rw [parse_K] at hp
 have ht:=textV cK
 rw [text_K,check_K] at ht
 simp only [outP,encCd,cK,encLn,lK,List.map_cons,List.map_nil,encR,sK,tK] at hp ht
 have hia:∀ H,evIndexAddr Tryz.prog 22 (.vsl 5 false [.agg [.str [105,116,101,109,49],.str [116,101,108],.vsl 3 false [.agg [.str [116,121,112,101],.str [104,111,109,101]]],.str [49,50]]]) (.int .i64 0) H = some (.vptr [.str [105,116,101,109,49],.str [116,101,108],.vsl 3 false [.agg [.str [116,121,112,101],.str [104,111,109,101]]],.str [49,50]]):=fun H=>by
  have:=iv22 (n:=0) (x:=false) (wd:=5) (es:=[encLn lK]) (k:=.i64) (v:=encLn lK) rfl rfl H
  exact this
 refine PureFn.of Tryz.func12 rfl (enters_call enters Tryz.func12 rfl) (by simp [Tryz.ntmps12]) ?_
 show W Tryz.prog 46 0 none _ _ _
 refine W.vc (by decide) ?_
 repeat' (first | (simp (disch:=first | omega | (simp only [List.length_append,List.length_cons,List.length_nil,List.length_map,List.length_set]; omega)) only [VC_seq,VC_ret,VC_region,VO_nil,VO_plain,VO_guard,VG_true,VV_some,VS,ofV_bool,ofV_int,ofV_lit,deN_vsl,gdA,callOf,isPanic,nextOf,altA,evalOp,ev_tmp,ev_const,ev_func,Av.get,St.put,argT,thenQ,Nat.reduceEqDiff,↓reduceIte,Bool.and_self,List.map_cons,List.map_nil,List.nil_append,List.append_nil,List.getElem?_cons_zero,List.getElem?_cons_succ,List.getElem?_toArray,Option.map_some,Option.bind_some,pickA,cond_true,ldC,ldG,stC,ic_str,ic_vsl,cl_agg,setC,List.set_cons_zero,List.set_cons_succ,List.length_cons,List.length_nil,Nat.reduceAdd,List.all_cons,List.all_nil,and_self,Nat.zero_add,List.drop_succ_cons,List.drop_zero,List.take_succ_cons,List.take_zero,Nat.le_refl,b_eql,s_eql,ieq_t,lw9,ld22,lv22,st24,ld24,fa24_1,fv45_0,fv45_3,zz24,hia,beq_self_eq_true,tK]) | (guard_target =~ VCall _ _ _ _ _ _ _; refine VCall.pure (by first | with_reducible exact hp | with_reducible exact ht) (by (first | rfl | (simp only [AV.hfs,AV.hf,Bool.and_self,Bool.and_true,Bool.true_and,strs_hfs]))) ?_) | (guard_target =~ DCal _ _ _ _ _ _ _; refine DCal.pure (by first | with_reducible exact hp | with_reducible exact ht) (by (first | rfl | (simp only [AV.hfs,AV.hf,Bool.and_self,Bool.and_true,Bool.true_and,strs_hfs]))) ?_))
 exact ⟨_,rfl,_,rfl,.refl _⟩
end Go.Proofs.YtjlhemfmeboadaaGreatDoor
namespace Go.Proofs.YtjlhemfmeboadaaGreatDoor
set_option linter.unusedVariables false
set_option linter.unusedSimpArgs false
open Go Go.Av Go.RowKit

section
variable {α:Type}
end
end Go.Proofs.YtjlhemfmeboadaaGreatDoor
namespace Go.Proofs.YtjlhemfmeboadaaGreatDoor
set_option linter.unusedVariables false
set_option linter.unusedSimpArgs false
open Go Go.Av Go.RowKit

end Go.Proofs.YtjlhemfmeboadaaGreatDoor
namespace Go.Proofs.YtjlhemfmeboadaaGreatDoor
set_option linter.unusedVariables false
set_option linter.unusedSimpArgs false
open Go Go.Av Go.RowKit

end Go.Proofs.YtjlhemfmeboadaaGreatDoor
namespace Go.Proofs.YtjlhemfmeboadaaGreatDoor
set_option linter.unusedVariables false
set_option linter.unusedSimpArgs false
open Go Go.Av Go.RowKit

/-! ### Folds let go -/
/-! ### Lines -/
/-! ### A card -/
end Go.Proofs.YtjlhemfmeboadaaGreatDoor
namespace Go.Proofs.YtjlhemfmeboadaaGreatDoor
set_option linter.unusedVariables false
set_option linter.unusedSimpArgs false
open Go Go.Av Go.RowKit

end Go.Proofs.YtjlhemfmeboadaaGreatDoor
namespace Go.Proofs.YtjlhemfmeboadaaGreatDoor
set_option linter.unusedVariables false
set_option linter.unusedSimpArgs false
open Go Go.Av Go.RowKit

def escC (x:UInt8):Bytes:=if x = 92∨x = 44∨x = 59 then [92,x] else if x = 10 then [92,110] else [x]
def esc (s:Bytes):Bytes:=(s.map escC).flatten
def unn (x:UInt8):UInt8:=if x = 110∨x = 78 then 10 else x
def unesc:Bytes→Bytes
 | []=>[]
 | [x]=>[x]
 | x::y::t=>if x = 92 then unn y::unesc t else x::unesc (y::t)
def partsF (m:UInt8):Bool→Bytes→Bytes→List Bytes
 | _,cur,[]=>[cur]
 | true,cur,x::t=>partsF m false (cur++[x]) t
 | false,cur,x::t=>if x = 92 then partsF m true (cur++[x]) t else if x = m then cur::partsF m false [] t else partsF m false (cur++[x]) t
def partsB (m:UInt8) (s:Bytes):List Bytes:=partsF m false [] s
theorem esc_cons (x:UInt8) (s:Bytes):esc (x::s) = escC x++esc s:=by simp [esc]
theorem esc_app (a b:Bytes):esc (a++b) = esc a++esc b:=by simp [esc]
theorem escC_len (x:UInt8):1≤(escC x).length∧(escC x).length≤2:=by unfold escC; split<;>(try split)<;>simp
theorem esc_len:∀ s:Bytes,(esc s).length≤2 * s.length
 | []=>by simp [esc]
 | x::s=>by have:=esc_len s; have:=escC_len x; rw [esc_cons,List.length_append,List.length_cons]; omega
theorem esc_take {s:Bytes} {i:Nat} {x:UInt8} (h:s[i]? = some x):esc (s.take (i + 1)) = esc (s.take i)++escC x:=by
 rw [List.take_add_one,h,esc_app]; simp [esc]
theorem esc_take_le (s:Bytes) (i:Nat):(esc (s.take i)).length≤(esc s).length:=by
 have:esc s = esc (s.take i)++esc (s.drop i):=by rw [← esc_app,List.take_append_drop]
 rw [this,List.length_append]; omega
theorem unesc_92 (y:UInt8) (t:Bytes):unesc (92::y::t) = unn y::unesc t:=by rw [unesc]; simp
theorem unesc_ne {x:UInt8} (h:x ≠ 92) (t:Bytes):unesc (x::t) = x::unesc t:=by
 cases t with
 | nil=>rfl
 | cons y t=>rw [unesc,if_neg h]
theorem unesc_one (x:UInt8):unesc [x] = [x]:=rfl
theorem unesc_esc:∀ s:Bytes,unesc (esc s) = s
 | []=>rfl
 | x::s=>by
  rw [esc_cons]
  unfold escC
  split
  ·rename_i h
   show unesc (92::x::esc s) = _
   rw [unesc_92,unesc_esc s]
   have:unn x = x:=by
    unfold unn; rw [if_neg]
    rintro (e | e)<;>subst e<;>simp at h
   rw [this]
  ·split
   ·rename_i h; subst h
    show unesc (92::110::esc s) = _
    rw [unesc_92,unesc_esc s]; rfl
   ·rename_i h _
    show unesc (x::esc s) = _
    rw [unesc_ne (fun e=>h (.inl e)),unesc_esc s]
theorem parts_skip (m:UInt8) (cur:Bytes) (y:UInt8) (t:Bytes):partsF m false cur (92::y::t) = partsF m false (cur++[92,y]) t:=by
 rw [partsF,if_pos rfl,partsF]; simp
theorem parts_esc {m:UInt8} (hm:m = 59∨m = 44):∀ (s cur r:Bytes),partsF m false cur (esc s++r) = partsF m false (cur++esc s) r
 | [],cur,r=>by simp [esc]
 | x::s,cur,r=>by
  rw [esc_cons]
  unfold escC
  split
  ·show partsF m false cur (92::x::(esc s++r)) = _
   rw [parts_skip,parts_esc hm s]; simp
  ·split
   ·rename_i h; subst h
    show partsF m false cur (92::110::(esc s++r)) = _
    rw [parts_skip,parts_esc hm s]; simp
   ·rename_i h _
    show partsF m false cur (x::(esc s++r)) = _
    have h1:x ≠ 92:=fun e=>h (.inl e)
    have h2:x ≠ m:=by
     intro e; rcases hm with e' | e'<;>subst e'<;>subst e<;>simp at h
    rw [partsF,if_neg h1,if_neg h2,parts_esc hm s]; simp
theorem parts_two {m:UInt8} (hm:m = 59∨m = 44) (s t:Bytes):partsB m (esc s++m::esc t) = [esc s,esc t]:=by
 unfold partsB
 rw [parts_esc hm]
 have h1:m ≠ 92:=by rintro rfl; simp at hm
 rw [List.nil_append,partsF,if_neg h1,if_pos rfl]
 have:=parts_esc hm t [] []
 rw [List.append_nil] at this
 rw [this]; rfl
theorem partsF_len (m:UInt8):∀ (b:Bool) (cur t:Bytes),(partsF m b cur t).length≤t.length + 1
 | _,cur,[]=>by simp [partsF]
 | true,cur,x::t=>by have:=partsF_len m false (cur++[x]) t; rw [partsF]; simp only [List.length_cons]; omega
 | false,cur,x::t=>by
  have h1:=partsF_len m true (cur++[x]) t
  have h2:=partsF_len m false [] t
  have h3:=partsF_len m false (cur++[x]) t
  rw [partsF]; split
  ·simp only [List.length_cons]; omega
  ·split<;>simp only [List.length_cons]<;>omega
end Go.Proofs.YtjlhemfmeboadaaGreatDoor
namespace Go.Proofs.YtjlhemfmeboadaaGreatDoor
set_option linter.unusedVariables false
set_option linter.unusedSimpArgs false
open Go Go.Av Go.RowKit

theorem slB {s:Bytes} {i:Nat} {x:UInt8} (h:s[i]? = some x):evSlice Tryz.prog 9 (.str s) (some (.int .i64 (i:Int))) (some (.int .i64 ((i + 1:Nat):Int))) none = some (.str [x]):=by
 have hl:=(List.getElem?_eq_some_iff.1 h).1
 obtain ⟨y,hy,hd⟩:=drop_at hl
 rw [h] at hy; cases hy
 rw [ss9,bnds_both _ _ _ _ (by omega) (by omega)]
 simp [hd]
theorem by_ne {x:UInt8} (c:UInt8) (h:x.toNat ≠ c.toNat):x ≠ c:=fun e=>h (by rw [e])
theorem by_eq {x:UInt8} (c:UInt8) (h:x.toNat = c.toNat):x = c:=UInt8.toNat_inj.1 h
set_option maxRecDepth 8000 in
theorem escR (s:Bytes) (hs:s.length≤1000000):PureFn Tryz.prog 27 [.str s] (.ret (.str (esc s))):=by
 have hel:=esc_len s
 refine PureFn.of Tryz.func27 rfl (enters_call enters Tryz.func27 rfl) (by simp [Tryz.ntmps27]) ?_
 show W Tryz.prog 38 0 none _ _ _
 refine W.vc (by decide) ?_
 repeat' (first | (simp (disch:=first | omega | (simp only [List.length_append,List.length_cons,List.length_nil,List.length_map,List.length_set]; omega)) only [VC_seq,VC_block,VC_region,VC_loop,VO_nil,VO_plain,VV_some,VS,ofV_int,ofV_lit,callOf,isPanic,nextOf,altA,evalOp,ev_const,St.put,argT,thenQ]))
 refine W.loopT (X:=Nat) (fun i=>[(4,.int .i64 (i:Int)),(3,.str (esc (s.take i))),(0,.str s)]) (fun _=>[]) (fun i=>i≤s.length) (fun i=>s.length - i) 0 (Nat.zero_le _) ⟨rfl,rfl,rfl,trivial⟩ rfl ?_
 intro i hi
 refine .vc (by decide) ?_
 by_cases h:i < s.length
 ·obtain ⟨x,hx,hdrop⟩:=drop_at h
  have htk:=esc_take hx
  have hle:=esc_take_le s i
  have hsl:=slB hx
  by_cases h1:x.toNat = 92
  ·have e:escC x = [92,x]:=by have:=by_eq 92 h1; subst this; rfl
   rw [e] at htk
   repeat' (first | (simp (disch:=first | omega | (simp only [List.length_append,List.length_cons,List.length_nil,List.length_map,List.length_set]; omega)) only [VC_skip,VC_seq,VC_cond,VC_block,VC_region,VI_true,VO_nil,VO_plain,VV_some,VS,blockQ,ofV_int,ofV_lit,saddL,deN_str,callOf,isPanic,nextOf,altA,evalOp,ev_tmp,ev_const,Av.get,St.put,thenQ,Nat.reduceEqDiff,↓reduceIte,Option.map_some,Option.map_none,and_self,and_true,b_lss,b_eql,b_add64,ieq_t,castS,decide_eq_true,ls9,xi9 hx,hsl]))
   exact ⟨i + 1,by omega,by omega,⟨rfl,by rw [htk]; simp [Av.get],rfl,trivial⟩⟩
  by_cases h2:x.toNat = 44
  ·have e:escC x = [92,x]:=by have:=by_eq 44 h2; subst this; rfl
   rw [e] at htk
   repeat' (first | (simp (disch:=first | omega | (simp only [List.length_append,List.length_cons,List.length_nil,List.length_map,List.length_set]; omega)) only [VC_skip,VC_seq,VC_cond,VC_block,VC_region,VI_true,VI_false,VO_nil,VO_plain,VV_some,VS,blockQ,ofV_int,ofV_lit,saddL,deN_str,callOf,isPanic,nextOf,altA,evalOp,ev_tmp,ev_const,Av.get,St.put,thenQ,Nat.reduceEqDiff,↓reduceIte,Option.map_some,Option.map_none,and_self,and_true,b_lss,b_eql,b_add64,ieq_t,ieq_f,castS,decide_eq_true,ls9,xi9 hx,hsl]))
   exact ⟨i + 1,by omega,by omega,⟨rfl,by rw [htk]; simp [Av.get],rfl,trivial⟩⟩
  by_cases h3:x.toNat = 59
  ·have e:escC x = [92,x]:=by have:=by_eq 59 h3; subst this; rfl
   rw [e] at htk
   repeat' (first | (simp (disch:=first | omega | (simp only [List.length_append,List.length_cons,List.length_nil,List.length_map,List.length_set]; omega)) only [VC_skip,VC_seq,VC_cond,VC_block,VC_region,VI_true,VI_false,VO_nil,VO_plain,VV_some,VS,blockQ,ofV_int,ofV_lit,saddL,deN_str,callOf,isPanic,nextOf,altA,evalOp,ev_tmp,ev_const,Av.get,St.put,thenQ,Nat.reduceEqDiff,↓reduceIte,Option.map_some,Option.map_none,and_self,and_true,b_lss,b_eql,b_add64,ieq_t,ieq_f,castS,decide_eq_true,ls9,xi9 hx,hsl]))
   exact ⟨i + 1,by omega,by omega,⟨rfl,by rw [htk]; simp [Av.get],rfl,trivial⟩⟩
  by_cases h4:x.toNat = 10
  ·have e:escC x = [92,110]:=by have:=by_eq 10 h4; subst this; rfl
   rw [e] at htk
   repeat' (first | (simp (disch:=first | omega | (simp only [List.length_append,List.length_cons,List.length_nil,List.length_map,List.length_set]; omega)) only [VC_skip,VC_seq,VC_cond,VC_block,VC_region,VI_true,VI_false,VO_nil,VO_plain,VV_some,VS,blockQ,ofV_int,ofV_lit,saddL,deN_str,callOf,isPanic,nextOf,altA,evalOp,ev_tmp,ev_const,Av.get,St.put,thenQ,Nat.reduceEqDiff,↓reduceIte,Option.map_some,and_self,and_true,b_lss,b_eql,b_add64,ieq_t,ieq_f,castS,decide_eq_true,ls9,xi9 hx]))
   exact ⟨i + 1,by omega,by omega,⟨rfl,by rw [htk]; simp [Av.get],rfl,trivial⟩⟩
  ·have e:escC x = [x]:=by
    have e1:=by_ne 92 h1; have e2:=by_ne 44 h2; have e3:=by_ne 59 h3; have e4:=by_ne 10 h4
    unfold escC; rw [if_neg,if_neg e4]; rintro (e | e | e)
    ·exact e1 e
    ·exact e2 e
    ·exact e3 e
   rw [e] at htk
   repeat' (first | (simp (disch:=first | omega | (simp only [List.length_append,List.length_cons,List.length_nil,List.length_map,List.length_set]; omega)) only [VC_skip,VC_seq,VC_cond,VC_block,VC_region,VI_true,VI_false,VO_nil,VO_plain,VV_some,VS,blockQ,ofV_int,saddL,deN_str,callOf,isPanic,nextOf,altA,evalOp,ev_tmp,ev_const,Av.get,St.put,thenQ,Nat.reduceEqDiff,↓reduceIte,Option.map_some,Option.map_none,and_self,and_true,b_lss,b_eql,b_add64,ieq_f,castS,decide_eq_true,ls9,xi9 hx,hsl]))
   exact ⟨i + 1,by omega,by omega,⟨rfl,by rw [htk]; simp [Av.get],rfl,trivial⟩⟩
 ·have e:i = s.length:=by omega
  subst e
  rw [List.take_length]
  repeat' (first | (simp (disch:=first | omega | (simp only [List.length_append,List.length_cons,List.length_nil,List.length_map,List.length_set]; omega)) only [VC_seq,VC_cond,VC_exit,VC_ret,VC_region,VI_false,VO_nil,VO_plain,VV_some,VS,blockQ,deN_str,callOf,isPanic,nextOf,altA,evalOp,ev_tmp,Av.get,St.put,thenQ,Nat.reduceEqDiff,↓reduceIte,Option.map_some,b_lss,decide_eq_false,ls9]))
  exact ⟨_,rfl,_,rfl,.refl _⟩
set_option maxRecDepth 8000 in
theorem unescR (s:Bytes) (hs:s.length≤1000000):PureFn Tryz.prog 29 [.str s] (.ret (.str (unesc s))):=by
 refine PureFn.of Tryz.func29 rfl (enters_call enters Tryz.func29 rfl) (by simp [Tryz.ntmps29]) ?_
 show W Tryz.prog 51 0 none _ _ _
 refine W.vc (by decide) ?_
 repeat' (first | (simp (disch:=first | omega | (simp only [List.length_append,List.length_cons,List.length_nil,List.length_map,List.length_set]; omega)) only [VC_seq,VC_block,VC_region,VC_loop,VO_nil,VO_plain,VV_some,VS,ofV_int,ofV_lit,callOf,isPanic,nextOf,altA,evalOp,ev_const,St.put,argT,thenQ]))
 refine W.loopT (X:=Nat × Bytes) (fun y=>[(4,.int .i64 (y.1:Int)),(3,.str y.2),(0,.str s)]) (fun _=>[]) (fun y=>y.1≤s.length∧y.2++unesc (s.drop y.1) = unesc s∧y.2.length≤y.1) (fun y=>s.length - y.1) (0,[]) ⟨Nat.zero_le _,rfl,Nat.zero_le _⟩ ⟨rfl,rfl,rfl,trivial⟩ rfl ?_
 rintro ⟨i,o⟩ ⟨l1,l2,l3⟩
 simp only at l1 l2 l3 ⊢
 refine .vc (by decide) ?_
 by_cases h:i < s.length
 ·obtain ⟨x,hx,hdrop⟩:=drop_at h
  have hsl:=slB hx
  rw [hdrop] at l2
  by_cases h1:x.toNat = 92
  ·have e1:x = 92:=by_eq 92 h1
   by_cases h2:i + 1 < s.length
   ·obtain ⟨y,hy,hd1⟩:=drop_at h2
    have hsl1:=slB hy
    rw [e1,hd1,unesc_92] at l2
    by_cases h3:y.toNat = 110
    ·have e2:unn y = 10:=by have:=by_eq 110 h3; subst this; rfl
     rw [e2] at l2
     repeat' (first | (simp (disch:=first | omega | (simp only [List.length_append,List.length_cons,List.length_nil,List.length_map,List.length_set]; omega)) only [VC_skip,VC_seq,VC_cond,VC_block,VC_region,VI_true,VI_false,VO_nil,VO_plain,VO_guard,VG_true,VG_false,VV_some,VS,blockQ,ofV_bool,ofV_int,ofV_lit,saddL,deN_str,gdA,callOf,isPanic,nextOf,altA,evalOp,ev_tmp,ev_const,Av.get,St.put,thenQ,Nat.reduceEqDiff,↓reduceIte,List.getElem?_cons_zero,List.getElem?_cons_succ,List.getElem?_toArray,Option.map_some,Option.bind_some,beq_false,Bool.not_true,Bool.not_false,pickA,cond_false,and_self,and_true,b_lss,b_geq,b_eql,b_neq,b_add64,ieq_t,ine_f,castS,decide_eq_true,decide_eq_false,ls9,xi9 hx,xi9 hy]))
     exact ⟨(i + 2,o++[10]),⟨by simp only; omega,by simpa using l2,by simp; omega⟩,by simp only; omega,⟨rfl,rfl,rfl,trivial⟩⟩
    by_cases h4:y.toNat = 78
    ·have e2:unn y = 10:=by have:=by_eq 78 h4; subst this; rfl
     rw [e2] at l2
     repeat' (first | (simp (disch:=first | omega | (simp only [List.length_append,List.length_cons,List.length_nil,List.length_map,List.length_set]; omega)) only [VC_skip,VC_seq,VC_cond,VC_block,VC_region,VI_true,VI_false,VO_nil,VO_plain,VO_guard,VG_true,VV_some,VS,blockQ,ofV_bool,ofV_int,ofV_lit,saddL,deN_str,gdA,callOf,isPanic,nextOf,altA,evalOp,ev_tmp,ev_const,Av.get,St.put,thenQ,Nat.reduceEqDiff,↓reduceIte,List.getElem?_cons_zero,List.getElem?_cons_succ,List.getElem?_toArray,Option.map_some,Option.bind_some,beq_false,Bool.not_false,pickA,cond_false,and_self,and_true,b_lss,b_geq,b_eql,b_neq,b_add64,ieq_t,ieq_f,ine_f,castS,decide_eq_true,decide_eq_false,ls9,xi9 hx,xi9 hy]))
     exact ⟨(i + 2,o++[10]),⟨by simp only; omega,by simpa using l2,by simp; omega⟩,by simp only; omega,⟨rfl,rfl,rfl,trivial⟩⟩
    ·have e2:unn y = y:=by
      have e3:=by_ne 110 h3; have e4:=by_ne 78 h4
      unfold unn; rw [if_neg]; rintro (e | e)
      ·exact e3 e
      ·exact e4 e
     rw [e2] at l2
     repeat' (first | (simp (disch:=first | omega | (simp only [List.length_append,List.length_cons,List.length_nil,List.length_map,List.length_set]; omega)) only [VC_skip,VC_seq,VC_cond,VC_block,VC_region,VI_true,VI_false,VO_nil,VO_plain,VO_guard,VG_true,VV_some,VS,blockQ,ofV_bool,ofV_int,saddL,deN_str,gdA,callOf,isPanic,nextOf,altA,evalOp,ev_tmp,ev_const,Av.get,St.put,thenQ,Nat.reduceEqDiff,↓reduceIte,List.getElem?_cons_zero,List.getElem?_cons_succ,List.getElem?_toArray,Option.map_some,Option.map_none,Option.bind_some,beq_false,Bool.not_false,pickA,cond_false,and_self,and_true,b_lss,b_geq,b_eql,b_neq,b_add64,ieq_f,ine_f,castS,decide_eq_true,decide_eq_false,ls9,xi9 hx,xi9 hy,hsl1]))
     exact ⟨(i + 2,o++[y]),⟨by simp only; omega,by simpa using l2,by simp; omega⟩,by simp only; omega,⟨rfl,rfl,rfl,trivial⟩⟩
   ·have hd1:s.drop (i + 1) = []:=List.drop_of_length_le (by omega)
    rw [hd1,unesc_one] at l2
    repeat' (first | (simp (disch:=first | omega | (simp only [List.length_append,List.length_cons,List.length_nil,List.length_map,List.length_set]; omega)) only [VC_skip,VC_seq,VC_cond,VC_block,VC_exit,VC_region,VI_true,VO_nil,VO_plain,VO_guard,VG_true,VV_some,VS,blockQ,ofV_bool,ofV_int,saddL,deN_str,gdA,callOf,isPanic,nextOf,altA,evalOp,ev_tmp,ev_const,Av.get,St.put,thenQ,Nat.reduceEqDiff,↓reduceIte,List.getElem?_cons_zero,List.getElem?_cons_succ,List.getElem?_toArray,Option.map_some,Option.map_none,Option.bind_some,beq_false,Bool.not_false,pickA,cond_false,and_self,and_true,b_lss,b_geq,b_neq,b_add64,ine_f,castS,decide_eq_true,ls9,xi9 hx,hsl]))
    exact ⟨(i + 1,o++[x]),⟨by simp only; omega,by simp [hd1,unesc]; exact l2,by simp; omega⟩,by simp only; omega,⟨rfl,rfl,rfl,trivial⟩⟩
  ·rw [unesc_ne (by_ne 92 h1)] at l2
   repeat' (first | (simp (disch:=first | omega | (simp only [List.length_append,List.length_cons,List.length_nil,List.length_map,List.length_set]; omega)) only [VC_skip,VC_seq,VC_cond,VC_block,VC_exit,VC_region,VI_true,VO_nil,VO_plain,VO_guard,VG_false,VV_some,VS,blockQ,ofV_bool,ofV_int,saddL,deN_str,gdA,callOf,isPanic,nextOf,altA,evalOp,ev_tmp,ev_const,Av.get,St.put,thenQ,Nat.reduceEqDiff,↓reduceIte,List.getElem?_cons_zero,List.getElem?_cons_succ,List.getElem?_toArray,Option.map_some,Option.map_none,Option.bind_some,beq_false,Bool.not_true,pickA,and_self,and_true,b_lss,b_neq,b_add64,ine_t,castS,decide_eq_true,ls9,xi9 hx,hsl]))
   exact ⟨(i + 1,o++[x]),⟨by simp only; omega,by simpa using l2,by simp; omega⟩,by simp only; omega,⟨rfl,rfl,rfl,trivial⟩⟩
 ·have e:i = s.length:=by omega
  subst e
  rw [List.drop_length,unesc,List.append_nil] at l2
  repeat' (first | (simp (disch:=first | omega | (simp only [List.length_append,List.length_cons,List.length_nil,List.length_map,List.length_set]; omega)) only [VC_seq,VC_cond,VC_exit,VC_ret,VC_region,VI_false,VO_nil,VO_plain,VV_some,VS,blockQ,deN_str,callOf,isPanic,nextOf,altA,evalOp,ev_tmp,Av.get,St.put,thenQ,Nat.reduceEqDiff,↓reduceIte,Option.map_some,b_lss,decide_eq_false,ls9]))
  rw [l2]
  exact ⟨_,rfl,_,rfl,.refl _⟩
def mk (c:Bool):UInt8:=if c then 44 else 59
theorem pt_app (u:Bytes) (hs:u.length≤1000000) {out:List Bytes} (ho:out.length≤1000001) (z:Bool) (k:Nat) (hz:z = false→out = []) (x:Bytes):evAppend Tryz.prog 38 38 (memV 0 0 0 AV.str k z out) (.vsl 0 true [.str x]) (mem [] AV.str k 0 z out) = some (memV 0 0 0 AV.str (if z then k + 1 else k) true (out++[x]),mem [] AV.str (if z then k + 1 else k) 0 true (out++[x])):=
 mem_appX (wd:=0) (bytes:=16) Tryz.underlying38 ap38 AV.str (fun _=>rfl) (fun _=>rfl) (by decide) [] k z out (fun h=>.inl rfl) x true (by omega)
theorem cur_add {s:Bytes} {fr i:Nat} {x:UInt8} (h1:fr≤i) (h:s[i]? = some x):(s.drop fr).take (i + 1 - fr) = (s.drop fr).take (i - fr)++[x]:=by
 rw [show i + 1 - fr = (i - fr) + 1 from by omega,List.take_add_one,List.getElem?_drop,show fr + (i - fr) = i from by omega,h]; rfl
set_option maxRecDepth 8000 in
theorem partsR (s:Bytes) (c:Bool) (hs:s.length≤1000000):PureFn Tryz.prog 31 [.str s,.bool c] (.ret (.vsl 0 false ((partsB (mk c) s).map .str))):=by
 refine PureFn.of Tryz.func31 rfl (enters_call enters Tryz.func31 rfl) (by simp [Tryz.ntmps31]) ?_
 show W Tryz.prog 55 0 none _ _ _
 refine W.vc (by decide) ?_
 have hb1:=bsS1
 have hm92:mk c ≠ 92:=by cases c<;>decide
 repeat' (first | (simp (disch:=first | omega | (simp only [List.length_append,List.length_cons,List.length_nil,List.length_map,List.length_set]; omega)) only [VC_seq,VC_block,VC_region,VC_loop,VO_nil,VO_plain,VV_some,VS,ofV_bool,ofV_int,ofV_nsl,callOf,isPanic,nextOf,altA,evalOp,ev_const,St.put,argT,thenQ,Nat.zero_add]))
 refine W.loopT (X:=Nat × Nat × Bool × Nat × Bool × List Bytes) (fun x=>[(8,.int .i64 (x.1:Int)),(6,.int .i64 (x.2.1:Int)),(7,.bool x.2.2.1),(5,memV 0 0 0 AV.str x.2.2.2.1 x.2.2.2.2.1 x.2.2.2.2.2),(0,.str s),(1,.bool c)]) (fun x=>mem [] AV.str x.2.2.2.1 0 x.2.2.2.2.1 x.2.2.2.2.2)
  (fun x=>x.1≤s.length∧x.2.1≤x.1∧x.2.2.2.2.2++partsF (mk c) x.2.2.1 ((s.drop x.2.1).take (x.1 - x.2.1)) (s.drop x.1) = partsB (mk c) s∧(x.2.2.2.2.1 = false→x.2.2.2.2.2 = [])∧x.2.2.2.2.2.length≤x.1) (fun x=>s.length - x.1) (0,0,false,0,false,[]) ⟨Nat.zero_le _,Nat.le_refl _,rfl,fun _=>rfl,Nat.le_refl _⟩ ⟨rfl,rfl,rfl,rfl,rfl,rfl,trivial⟩ rfl ?_
 rintro ⟨i,fr,t,k,z,out⟩ ⟨l1,l2,l3,l4,l5⟩
 simp only at l1 l2 l3 l4 l5 ⊢
 have hde:deN (memV 0 0 0 AV.str k z out) = memV 0 0 0 AV.str k z out:=deN_mem _ _ _ _ _ _ _
 refine .vc (by decide) ?_
 by_cases h:i < s.length
 ·obtain ⟨x,hx,hdrop⟩:=drop_at h
  have hcur:=cur_add l2 hx
  rw [hdrop] at l3
  cases t with
  | true=>
   rw [partsF] at l3
   repeat' (first | (simp (disch:=first | omega | (simp only [List.length_append,List.length_cons,List.length_nil,List.length_map,List.length_set]; omega)) only [VC_skip,VC_seq,VC_cond,VC_block,VC_region,VI_true,VO_nil,VO_plain,VV_some,VS,blockQ,ofV_bool,ofV_int,deN_str,callOf,isPanic,nextOf,altA,evalOp,ev_tmp,ev_const,Av.get,St.put,thenQ,Nat.reduceEqDiff,↓reduceIte,Option.map_some,and_true,b_lss,b_add64,castS,decide_eq_true,ls9]))
   exact ⟨(i + 1,fr,false,k,z,out),⟨by simp only; omega,by simp only; omega,by simp only; rw [hcur]; exact l3,l4,by simp only; omega⟩,by simp only; omega,⟨rfl,rfl,rfl,rfl,rfl,rfl,trivial⟩,rfl⟩
  | false=>
   rw [partsF] at l3
   by_cases h1:x.toNat = 92
   ·rw [if_pos (by_eq 92 h1)] at l3
    repeat' (first | (simp (disch:=first | omega | (simp only [List.length_append,List.length_cons,List.length_nil,List.length_map,List.length_set]; omega)) only [VC_skip,VC_seq,VC_cond,VC_block,VC_region,VI_true,VI_false,VO_nil,VO_plain,VV_some,VS,blockQ,ofV_bool,ofV_int,deN_str,callOf,isPanic,nextOf,altA,evalOp,ev_tmp,ev_const,Av.get,St.put,thenQ,Nat.reduceEqDiff,↓reduceIte,Option.map_some,and_true,b_lss,b_eql,b_add64,ieq_t,castS,decide_eq_true,ls9,xi9 hx]))
    exact ⟨(i + 1,fr,true,k,z,out),⟨by simp only; omega,by simp only; omega,by simp only; rw [hcur]; exact l3,l4,by simp only; omega⟩,by simp only; omega,⟨rfl,rfl,rfl,rfl,rfl,rfl,trivial⟩,rfl⟩
   rw [if_neg (by_ne 92 h1)] at l3
   have hsl:evSlice Tryz.prog 9 (.str s) (some (.int .i64 (fr:Int))) (some (.int .i64 (i:Int))) none = some (.str ((s.drop fr).take (i - fr))):=by
    rw [ss9,bnds_both _ _ _ _ l2 (by omega)]; rfl
   have ha:=pt_app s hs (show out.length≤1000001 by omega) z k l4 ((s.drop fr).take (i - fr))
   have hit:x = mk c→∃ y:Nat × Nat × Bool × Nat × Bool × List Bytes,(y.1≤s.length∧y.2.1≤y.1∧y.2.2.2.2.2++partsF (mk c) y.2.2.1 ((s.drop y.2.1).take (y.1 - y.2.1)) (s.drop y.1) = partsB (mk c) s∧(y.2.2.2.2.1 = false→y.2.2.2.2.2 = [])∧y.2.2.2.2.2.length≤y.1)∧y = (i + 1,i + 1,false,(if z then k + 1 else k),true,out++[(s.drop fr).take (i - fr)]):=by
    intro e
    rw [if_pos e] at l3
    exact ⟨_,⟨by simp only; omega,Nat.le_refl _,by simp only [Nat.sub_self,List.take_zero]; rw [← l3]; simp,(fun h=>by cases h),by simp only [List.length_append,List.length_cons,List.length_nil]; omega⟩,rfl⟩
   have miss:x ≠ mk c→∃ y:Nat × Nat × Bool × Nat × Bool × List Bytes,(y.1≤s.length∧y.2.1≤y.1∧y.2.2.2.2.2++partsF (mk c) y.2.2.1 ((s.drop y.2.1).take (y.1 - y.2.1)) (s.drop y.1) = partsB (mk c) s∧(y.2.2.2.2.1 = false→y.2.2.2.2.2 = [])∧y.2.2.2.2.2.length≤y.1)∧y = (i + 1,fr,false,k,z,out):=by
    intro e
    rw [if_neg e] at l3
    exact ⟨_,⟨by simp only; omega,by simp only; omega,by simp only; rw [hcur]; exact l3,l4,by simp only; omega⟩,rfl⟩
   cases c with
   | true=>
    by_cases h2:x.toNat = 44
    ·obtain ⟨y,hy,e⟩:=hit (by_eq 44 h2)
     subst e
     repeat' (first | (simp (disch:=first | omega | (simp only [List.length_append,List.length_cons,List.length_nil,List.length_map,List.length_set]; omega)) only [VC_skip,VC_seq,VC_cond,VC_block,VC_region,VI_true,VI_false,VO_nil,VO_plain,VO_guard,VG_true,VG_false,VV_some,VS,blockQ,ofV_bool,ofV_int,deN_vsl,deN_str,gdA,callOf,isPanic,nextOf,altA,evalOp,ev_tmp,ev_const,Av.get,St.put,thenQ,Nat.reduceEqDiff,↓reduceIte,List.map_cons,List.map_nil,List.getElem?_cons_zero,List.getElem?_cons_succ,List.getElem?_toArray,Option.map_some,Option.map_none,Option.bind_some,beq_false,beq_true,Bool.not_true,pickA,cond_true,and_true,b_lss,b_eql,b_add64,ieq_t,ieq_f,castS,decide_eq_true,ls9,xi9 hx,hsl,hb1,ha,hde]))
     exact ⟨_,hy,by simp only; omega,⟨rfl,rfl,rfl,rfl,rfl,rfl,trivial⟩,rfl⟩
    ·obtain ⟨y,hy,e⟩:=miss (by_ne 44 h2)
     subst e
     repeat' (first | (simp (disch:=first | omega | (simp only [List.length_append,List.length_cons,List.length_nil,List.length_map,List.length_set]; omega)) only [VC_skip,VC_seq,VC_cond,VC_block,VC_region,VI_true,VI_false,VO_nil,VO_plain,VO_guard,VG_true,VG_false,VV_some,VS,blockQ,u_notb,ofV_bool,ofV_int,deN_str,gdA,callOf,isPanic,nextOf,altA,evalOp,ev_tmp,ev_const,Av.get,St.put,thenQ,Nat.reduceEqDiff,↓reduceIte,List.getElem?_cons_zero,List.getElem?_cons_succ,List.getElem?_toArray,Option.map_some,Option.bind_some,beq_false,beq_true,Bool.not_true,Bool.not_false,Bool.false_eq_true,pickA,cond_true,cond_false,and_true,b_lss,b_eql,b_add64,ieq_f,castS,decide_eq_true,ls9,xi9 hx]))
     exact ⟨_,hy,by simp only; omega,⟨rfl,rfl,rfl,rfl,rfl,rfl,trivial⟩,rfl⟩
   | false=>
    by_cases h2:x.toNat = 59
    ·obtain ⟨y,hy,e⟩:=hit (by_eq 59 h2)
     subst e
     repeat' (first | (simp (disch:=first | omega | (simp only [List.length_append,List.length_cons,List.length_nil,List.length_map,List.length_set]; omega)) only [VC_skip,VC_seq,VC_cond,VC_block,VC_region,VI_true,VI_false,VO_nil,VO_plain,VO_guard,VG_true,VG_false,VV_some,VS,blockQ,u_notb,ofV_bool,ofV_int,deN_vsl,deN_str,gdA,callOf,isPanic,nextOf,altA,evalOp,ev_tmp,ev_const,Av.get,St.put,thenQ,Nat.reduceEqDiff,↓reduceIte,List.map_cons,List.map_nil,List.getElem?_cons_zero,List.getElem?_cons_succ,List.getElem?_toArray,Option.map_some,Option.map_none,Option.bind_some,beq_false,beq_true,Bool.not_false,Bool.false_eq_true,pickA,cond_true,cond_false,and_true,b_lss,b_eql,b_add64,ieq_t,ieq_f,castS,decide_eq_true,ls9,xi9 hx,hsl,hb1,ha,hde]))
     exact ⟨_,hy,by simp only; omega,⟨rfl,rfl,rfl,rfl,rfl,rfl,trivial⟩,rfl⟩
    ·obtain ⟨y,hy,e⟩:=miss (by_ne 59 h2)
     subst e
     repeat' (first | (simp (disch:=first | omega | (simp only [List.length_append,List.length_cons,List.length_nil,List.length_map,List.length_set]; omega)) only [VC_skip,VC_seq,VC_cond,VC_block,VC_region,VI_true,VI_false,VO_nil,VO_plain,VO_guard,VG_true,VG_false,VV_some,VS,blockQ,u_notb,ofV_bool,ofV_int,deN_str,gdA,callOf,isPanic,nextOf,altA,evalOp,ev_tmp,ev_const,Av.get,St.put,thenQ,Nat.reduceEqDiff,↓reduceIte,List.getElem?_cons_zero,List.getElem?_cons_succ,List.getElem?_toArray,Option.map_some,Option.bind_some,beq_false,beq_true,Bool.not_false,Bool.false_eq_true,pickA,cond_true,cond_false,and_true,b_lss,b_eql,b_add64,ieq_f,castS,decide_eq_true,ls9,xi9 hx]))
     exact ⟨_,hy,by simp only; omega,⟨rfl,rfl,rfl,rfl,rfl,rfl,trivial⟩,rfl⟩
 ·have e:i = s.length:=by omega
  subst e
  rw [List.drop_length,List.take_of_length_le (by simp)] at l3
  have l3:out++[s.drop fr] = partsB (mk c) s:=by
   cases t<;>simpa [partsF] using l3
  have hsl:evSlice Tryz.prog 9 (.str s) (some (.int .i64 (fr:Int))) none none = some (.str (s.drop fr)):=by
   rw [ss9,bnds_from _ _ (by omega)]; simp only [Option.map_some,take_drop_all]
  have ha:=pt_app s hs (show out.length≤1000001 by omega) z k l4 (s.drop fr)
  repeat' (first | (simp (disch:=first | omega | (simp only [List.length_append,List.length_cons,List.length_nil,List.length_map,List.length_set]; omega)) only [VC_seq,VC_cond,VC_exit,VC_ret,VC_region,VI_false,VO_nil,VO_plain,VV_some,VS,blockQ,deN_vsl,deN_str,callOf,isPanic,nextOf,altA,evalOp,ev_tmp,Av.get,St.put,thenQ,Nat.reduceEqDiff,↓reduceIte,List.map_cons,List.map_nil,Option.map_some,Option.map_none,b_lss,decide_eq_false,ls9,hsl,hb1,ha,hde]))
  obtain ⟨w,hz,hw⟩:=mem_fz0 (B:=[]) (f:=AV.str) (w0:=0) (k:=if z then k + 1 else k) (z:=true) (L:=out++[s.drop fr]) (n:=19) (M:=mem [] AV.str (if z then k + 1 else k) 0 true (out++[s.drop fr])) (fun _=>mem_at) (strs_hfs _) (strs_one _)
  rw [← l3]
  exact retF 4 rfl rfl rfl hz (by rcases hw with rfl | rfl<;>first | exact .exact _ _ _ | exact .refl _)
end Go.Proofs.YtjlhemfmeboadaaGreatDoor
namespace Go.Proofs.YtjlhemfmeboadaaGreatDoor
set_option linter.unusedVariables false
set_option linter.unusedSimpArgs false
open Go Go.Av Go.RowKit

set_option maxRecDepth 8000 in
theorem unescV (s:Bytes) (hs:s.length≤1000000):PureFn Tryz.prog 28 [.str s] (.ret (.str (unesc s))):=by
 refine PureFn.of Tryz.func28 rfl (enters_call enters Tryz.func28 rfl) (by simp [Tryz.ntmps28]) ?_
 show W Tryz.prog 41 0 none _ _ _
 refine W.vc (by decide) ?_
 repeat' (first | (simp (disch:=first | omega | (simp only [List.length_append,List.length_cons,List.length_nil,List.length_map,List.length_set]; omega)) only [VC_seq,VC_block,VC_region,VC_loop,VO_nil,VO_plain,VV_some,VS,ofV_int,ofV_lit,ofV_nsl,callOf,isPanic,nextOf,altA,evalOp,ev_const,St.put,argT,thenQ]))
 refine W.loopT (X:=Nat × Nat × Bool × Bytes) (fun x=>[(4,.int .i64 (x.1:Int)),(3,byV x.2.1 x.2.2.1 x.2.2.2),(0,.str s)]) (fun x=>byM x.2.1 x.2.2.1 x.2.2.2)
  (fun x=>x.1≤s.length∧x.2.2.2++unesc (s.drop x.1) = unesc s∧(x.2.2.1 = false→x.2.2.2 = [])∧x.2.2.2.length≤x.1) (fun x=>s.length - x.1) (0,0,false,[]) ⟨Nat.zero_le _,rfl,fun _=>rfl,Nat.le_refl _⟩ (by simp [holdsT,Av.get,byV,memV]) rfl ?_
 rintro ⟨i,k,z,L⟩ ⟨l1,l2,l3,l4⟩
 simp only at l1 l2 l3 l4 ⊢
 refine .vc (by decide) ?_
 have hde:deN (byV k z L) = byV k z L:=deN_mem _ _ _ _ _ _ _
 by_cases h:i < s.length
 ·obtain ⟨x,hx,hdrop⟩:=drop_at h
  rw [hdrop] at l2
  obtain ⟨kx,hbx⟩:=by_app1 k z L x true (by omega) l3
  have hbs:=bsBs x
  by_cases h1:x.toNat = 92
  ·have e1:x = 92:=by_eq 92 h1
   by_cases h2:i + 1 < s.length
   ·obtain ⟨y,hy,hd1⟩:=drop_at h2
    rw [e1,hd1,unesc_92] at l2
    obtain ⟨k2,hb⟩:=by_app1 k z L (unn y) true (by omega) l3
    have hbu:=bsBs (unn y)
    by_cases h3:y.toNat = 110
    ·have e2:unn y = 10:=by have:=by_eq 110 h3; subst this; rfl
     rw [e2] at l2 hb hbu
     have hbu:evBuildSlice Tryz.prog 42 1 [(0,.int .u8 10)] = some (.vsl 0 true [byteA 10]):=hbu
     repeat' (first | (simp (disch:=first | omega | (simp only [List.length_append,List.length_cons,List.length_nil,List.length_map,List.length_set]; omega)) only [VC_skip,VC_seq,VC_cond,VC_block,VC_region,VI_true,VO_nil,VO_plain,VO_guard,VG_true,VG_false,VV_some,VS,blockQ,ofV_bool,ofV_int,deN_vsl,deN_str,gdA,callOf,isPanic,nextOf,altA,evalOp,ev_tmp,ev_const,Av.get,St.put,thenQ,Nat.reduceEqDiff,↓reduceIte,List.map_cons,List.map_nil,List.getElem?_cons_zero,List.getElem?_cons_succ,List.getElem?_toArray,Option.map_some,Option.bind_some,beq_false,beq_true,Bool.not_true,pickA,cond_true,and_true,b_lss,b_eql,b_add64,ieq_t,castS,decide_eq_true,ls9,xi9 hx,xi9 hy,hbu,hde,hb]))
     exact ⟨(i + 2,k2,true,L++[10]),⟨by simp only; omega,by simpa using l2,(fun h=>by cases h),by simp; omega⟩,by simp only; omega,⟨rfl,rfl,rfl,trivial⟩,rfl⟩
    by_cases h4:y.toNat = 78
    ·have e2:unn y = 10:=by have:=by_eq 78 h4; subst this; rfl
     rw [e2] at l2 hb hbu
     have hbu:evBuildSlice Tryz.prog 42 1 [(0,.int .u8 10)] = some (.vsl 0 true [byteA 10]):=hbu
     repeat' (first | (simp (disch:=first | omega | (simp only [List.length_append,List.length_cons,List.length_nil,List.length_map,List.length_set]; omega)) only [VC_skip,VC_seq,VC_cond,VC_block,VC_region,VI_true,VO_nil,VO_plain,VO_guard,VG_true,VV_some,VS,blockQ,ofV_bool,ofV_int,deN_vsl,deN_str,gdA,callOf,isPanic,nextOf,altA,evalOp,ev_tmp,ev_const,Av.get,St.put,thenQ,Nat.reduceEqDiff,↓reduceIte,List.map_cons,List.map_nil,List.getElem?_cons_zero,List.getElem?_cons_succ,List.getElem?_toArray,Option.map_some,Option.bind_some,beq_false,beq_true,Bool.not_false,pickA,cond_true,cond_false,and_true,b_lss,b_eql,b_add64,ieq_t,ieq_f,castS,decide_eq_true,ls9,xi9 hx,xi9 hy,hbu,hde,hb]))
     exact ⟨(i + 2,k2,true,L++[10]),⟨by simp only; omega,by simpa using l2,(fun h=>by cases h),by simp; omega⟩,by simp only; omega,⟨rfl,rfl,rfl,trivial⟩,rfl⟩
    ·have e2:unn y = y:=by
      have e3:=by_ne 110 h3; have e4:=by_ne 78 h4
      unfold unn; rw [if_neg]; rintro (e | e)
      ·exact e3 e
      ·exact e4 e
     rw [e2] at l2 hb hbu
     repeat' (first | (simp (disch:=first | omega | (simp only [List.length_append,List.length_cons,List.length_nil,List.length_map,List.length_set]; omega)) only [VC_skip,VC_seq,VC_cond,VC_block,VC_region,VI_true,VI_false,VO_nil,VO_plain,VO_guard,VG_true,VV_some,VS,blockQ,ofV_bool,ofV_int,deN_vsl,deN_str,gdA,callOf,isPanic,nextOf,altA,evalOp,ev_tmp,ev_const,Av.get,St.put,thenQ,Nat.reduceEqDiff,↓reduceIte,List.map_cons,List.map_nil,List.getElem?_cons_zero,List.getElem?_cons_succ,List.getElem?_toArray,Option.map_some,Option.bind_some,beq_false,beq_true,Bool.not_false,pickA,cond_true,cond_false,and_true,b_lss,b_eql,b_add64,ieq_t,ieq_f,castS,decide_eq_true,ls9,xi9 hx,xi9 hy,hbu,hde,hb]))
     exact ⟨(i + 2,k2,true,L++[y]),⟨by simp only; omega,by simpa using l2,(fun h=>by cases h),by simp; omega⟩,by simp only; omega,⟨rfl,rfl,rfl,trivial⟩,rfl⟩
   ·have hd1:s.drop (i + 1) = []:=List.drop_of_length_le (by omega)
    rw [hd1,unesc_one] at l2
    repeat' (first | (simp (disch:=first | omega | (simp only [List.length_append,List.length_cons,List.length_nil,List.length_map,List.length_set]; omega)) only [VC_skip,VC_seq,VC_cond,VC_block,VC_region,VI_true,VI_false,VO_nil,VO_plain,VO_guard,VG_true,VV_some,VS,blockQ,ofV_bool,ofV_int,deN_vsl,deN_str,gdA,callOf,isPanic,nextOf,altA,evalOp,ev_tmp,ev_const,Av.get,St.put,thenQ,Nat.reduceEqDiff,↓reduceIte,List.map_cons,List.map_nil,List.getElem?_cons_zero,List.getElem?_cons_succ,List.getElem?_toArray,Option.map_some,Option.bind_some,beq_true,pickA,cond_true,and_true,b_lss,b_eql,b_add64,ieq_t,castS,decide_eq_true,decide_eq_false,ls9,xi9 hx,hbs,hde,hbx]))
    exact ⟨(i + 1,kx,true,L++[x]),⟨by simp only; omega,by simp [hd1,unesc]; exact l2,(fun h=>by cases h),by simp; omega⟩,by simp only; omega,⟨rfl,rfl,rfl,trivial⟩,rfl⟩
  ·rw [unesc_ne (by_ne 92 h1)] at l2
   repeat' (first | (simp (disch:=first | omega | (simp only [List.length_append,List.length_cons,List.length_nil,List.length_map,List.length_set]; omega)) only [VC_skip,VC_seq,VC_cond,VC_block,VC_region,VI_true,VI_false,VO_nil,VO_plain,VO_guard,VG_false,VV_some,VS,blockQ,ofV_bool,ofV_int,deN_vsl,deN_str,gdA,callOf,isPanic,nextOf,altA,evalOp,ev_tmp,ev_const,Av.get,St.put,thenQ,Nat.reduceEqDiff,↓reduceIte,List.map_cons,List.map_nil,List.getElem?_cons_zero,List.getElem?_cons_succ,List.getElem?_toArray,Option.map_some,Option.bind_some,beq_true,Bool.false_eq_true,pickA,and_true,b_lss,b_eql,b_add64,ieq_f,castS,decide_eq_true,ls9,xi9 hx,hbs,hde,hbx]))
   exact ⟨(i + 1,kx,true,L++[x]),⟨by simp only; omega,by simpa using l2,(fun h=>by cases h),by simp; omega⟩,by simp only; omega,⟨rfl,rfl,rfl,trivial⟩,rfl⟩
 ·have e:i = s.length:=by omega
  subst e
  rw [List.drop_length,unesc,List.append_nil] at l2
  have hcv:=by_str k z L l3
  repeat' (first | (simp (disch:=first | omega | (simp only [List.length_append,List.length_cons,List.length_nil,List.length_map,List.length_set]; omega)) only [VC_seq,VC_cond,VC_exit,VC_ret,VC_region,VI_false,VO_nil,VO_plain,VV_some,VS,blockQ,deN_str,callOf,isPanic,nextOf,altA,evalOp,ev_tmp,Av.get,St.put,thenQ,Nat.reduceEqDiff,↓reduceIte,Option.map_some,b_lss,decide_eq_false,ls9,hcv]))
  rw [← l2]
  exact ⟨_,rfl,_,rfl,.refl _⟩
theorem partsF_end (m:UInt8) (b:Bool) (cur:Bytes):partsF m b cur [] = [cur]:=by cases b<;>rfl
set_option maxRecDepth 8000 in
theorem partsV (s:Bytes) (c:Bool) (hs:s.length≤1000000):PureFn Tryz.prog 30 [.str s,.bool c] (.ret (.vsl 0 false ((partsB (mk c) s).map .str))):=by
 refine PureFn.of Tryz.func30 rfl (enters_call enters Tryz.func30 rfl) (by simp [Tryz.ntmps30]) ?_
 show W Tryz.prog 41 0 none _ _ _
 have hb1:=bsS1
 have hm92:mk c ≠ 92:=by cases c<;>decide
 refine .seq (.vc (by decide) ?_)
 repeat' (first | (simp (disch:=first | omega | (simp only [List.length_append,List.length_cons,List.length_nil,List.length_map,List.length_set]; omega)) only [VC_region,VO_nil,VO_plain,VV_some,VS,ofV_nsl,callOf,isPanic,nextOf,altA,evalOp,ev_const,St.put,argT,thenQ,Nat.zero_add]))
 refine .seq (.vc (by decide) ?_)
 repeat' (first | (simp (disch:=first | omega | (simp only [List.length_append,List.length_cons,List.length_nil,List.length_map,List.length_set]; omega)) only [VC_region,VO_nil,VO_plain,VV_some,VS,ofV_int,callOf,isPanic,nextOf,altA,evalOp,ev_const,St.put,thenQ]))
 refine W.seqT [(5,.int .u8 (mk c).toNat),(0,.str s)] [] (.vc (by decide) ?_) ?_
 ·cases c
  ·repeat' (first | (simp (disch:=first | omega | (simp only [List.length_append,List.length_cons,List.length_nil,List.length_map,List.length_set]; omega)) only [VC_skip,VC_seq,VC_cond,VC_region,VI_false,VO_nil,VO_plain,VV_some,VS,callOf,isPanic,nextOf,altA,evalOp,ev_tmp,Av.get,St.put,thenQ,Nat.reduceEqDiff,↓reduceIte,and_self,and_true]))
   exact ⟨rfl,rfl,trivial⟩
  ·repeat' (first | (simp (disch:=first | omega | (simp only [List.length_append,List.length_cons,List.length_nil,List.length_map,List.length_set]; omega)) only [VC_seq,VC_cond,VC_region,VI_true,VO_nil,VO_plain,VV_some,VS,ofV_int,callOf,isPanic,nextOf,altA,evalOp,ev_tmp,ev_const,Av.get,St.put,thenQ,Nat.reduceEqDiff,↓reduceIte,and_self,and_true]))
   exact ⟨rfl,rfl,trivial⟩
 obtain ⟨m,hm⟩:∃ m,m = mk c:=⟨_,rfl⟩
 rw [← hm] at hm92 ⊢
 refine .vc (by decide) ?_
 repeat' (first | (simp (disch:=first | omega | (simp only [List.length_append,List.length_cons,List.length_nil,List.length_map,List.length_set]; omega)) only [VC_seq,VC_block,VC_region,VC_loop,VO_nil,VO_plain,VV_some,VS,ofV_int,ofV_nsl,callOf,isPanic,nextOf,altA,evalOp,ev_const,St.put,thenQ]))
 refine W.loopT (X:=Nat × Nat × Nat × Bool × List Bytes) (fun x=>[(8,.int .i64 (x.1:Int)),(7,.int .i64 (x.2.1:Int)),(6,memV 0 0 0 AV.str x.2.2.1 x.2.2.2.1 x.2.2.2.2),(0,.str s),(5,.int .u8 m.toNat)]) (fun x=>mem [] AV.str x.2.2.1 0 x.2.2.2.1 x.2.2.2.2)
  (fun x=>x.1≤s.length + 1∧x.2.1≤x.1∧x.2.1≤s.length∧x.2.2.2.2++partsF m false ((s.drop x.2.1).take (x.1 - x.2.1)) (s.drop x.1) = partsB m s∧(x.2.2.2.1 = false→x.2.2.2.2 = [])∧x.2.2.2.2.length≤x.2.1) (fun x=>s.length + 1 - x.1) (0,0,0,false,[]) ⟨Nat.zero_le _,Nat.le_refl _,Nat.zero_le _,rfl,fun _=>rfl,Nat.le_refl _⟩ ⟨rfl,rfl,rfl,rfl,rfl,trivial⟩ rfl ?_
 rintro ⟨i,fr,k,z,out⟩ ⟨l1,l2,l6,l3,l4,l5⟩
 simp only at l1 l2 l3 l4 l5 l6 ⊢
 have hde:deN (memV 0 0 0 AV.str k z out) = memV 0 0 0 AV.str k z out:=deN_mem _ _ _ _ _ _ _
 refine .vc (by decide) ?_
 by_cases h:i < s.length
 ·obtain ⟨x,hx,hdrop⟩:=drop_at h
  have hcur:=cur_add l2 hx
  rw [hdrop] at l3
  by_cases h1:x.toNat = 92
  ·have e1:=by_eq 92 h1
   have hnext:out++partsF m false ((s.drop fr).take (i + 2 - fr)) (s.drop (i + 2)) = partsB m s:=by
    by_cases h2:i + 1 < s.length
    ·obtain ⟨y,hy,hd1⟩:=drop_at h2
     rw [hd1,e1] at l3
     have:partsF m false ((s.drop fr).take (i - fr)) (92::y::s.drop (i + 1 + 1)) = _:=parts_skip m _ y _
     rw [this] at l3
     rw [cur_add (by omega) hy,hcur,e1]
     simpa using l3
    ·have hd1:s.drop (i + 1) = []:=List.drop_of_length_le (by omega)
     have hd2:s.drop (i + 2) = []:=List.drop_of_length_le (by omega)
     rw [hd1,partsF,if_pos e1,partsF_end] at l3
     rw [hd2,partsF_end,← l3,← hcur,List.take_of_length_le (by simp; omega),List.take_of_length_le (by simp; omega)]
   repeat' (first | (simp (disch:=first | omega | (simp only [List.length_append,List.length_cons,List.length_nil,List.length_map,List.length_set]; omega)) only [VC_skip,VC_seq,VC_cond,VC_block,VC_region,VI_true,VO_nil,VO_plain,VV_some,VS,blockQ,ofV_int,deN_str,callOf,isPanic,nextOf,altA,evalOp,ev_tmp,ev_const,Av.get,St.put,thenQ,Nat.reduceEqDiff,↓reduceIte,Option.map_some,and_true,b_lss,b_eql,b_add64,ieq_t,castS,decide_eq_true,ls9,xi9 hx]))
   exact ⟨(i + 2,fr,k,z,out),⟨by simp only; omega,by simp only; omega,l6,hnext,l4,l5⟩,by simp only; omega,⟨rfl,rfl,rfl,rfl,rfl,trivial⟩,rfl⟩
  rw [partsF,if_neg (by_ne 92 h1)] at l3
  have hsl:evSlice Tryz.prog 9 (.str s) (some (.int .i64 (fr:Int))) (some (.int .i64 (i:Int))) none = some (.str ((s.drop fr).take (i - fr))):=by
   rw [ss9,bnds_both _ _ _ _ l2 (by omega)]; rfl
  have ha:=pt_app s hs (show out.length≤1000001 by omega) z k l4 ((s.drop fr).take (i - fr))
  by_cases h2:x.toNat = m.toNat
  ·rw [if_pos (UInt8.toNat_inj.1 h2)] at l3
   repeat' (first | (simp (disch:=first | omega | (simp only [List.length_append,List.length_cons,List.length_nil,List.length_map,List.length_set]; omega)) only [VC_skip,VC_seq,VC_cond,VC_block,VC_region,VI_true,VI_false,VO_nil,VO_plain,VV_some,VS,blockQ,ofV_int,deN_vsl,deN_str,callOf,isPanic,nextOf,altA,evalOp,ev_tmp,ev_const,Av.get,St.put,thenQ,Nat.reduceEqDiff,↓reduceIte,List.map_cons,List.map_nil,Option.map_some,Option.map_none,and_true,b_lss,b_eql,b_add64,ieq_t,ieq_f,castS,decide_eq_true,ls9,xi9 hx,hsl,hb1,ha,hde]))
   exact ⟨(i + 1,i + 1,(if z then k + 1 else k),true,out++[(s.drop fr).take (i - fr)]),⟨by simp only; omega,Nat.le_refl _,by simp only; omega,by simp only [Nat.sub_self,List.take_zero]; rw [← l3]; simp,(fun h=>by cases h),by simp only [List.length_append,List.length_cons,List.length_nil]; omega⟩,by simp only; omega,⟨rfl,rfl,rfl,rfl,rfl,trivial⟩,rfl⟩
  ·rw [if_neg (fun e=>h2 (by rw [e]))] at l3
   repeat' (first | (simp (disch:=first | omega | (simp only [List.length_append,List.length_cons,List.length_nil,List.length_map,List.length_set]; omega)) only [VC_skip,VC_seq,VC_cond,VC_block,VC_region,VI_true,VI_false,VO_nil,VO_plain,VV_some,VS,blockQ,ofV_int,deN_str,callOf,isPanic,nextOf,altA,evalOp,ev_tmp,ev_const,Av.get,St.put,thenQ,Nat.reduceEqDiff,↓reduceIte,Option.map_some,and_true,b_lss,b_eql,b_add64,ieq_f,castS,decide_eq_true,ls9,xi9 hx]))
   exact ⟨(i + 1,fr,k,z,out),⟨by simp only; omega,by simp only; omega,l6,by simp only; rw [hcur]; exact l3,l4,l5⟩,by simp only; omega,⟨rfl,rfl,rfl,rfl,rfl,trivial⟩,rfl⟩
 ·have hd0:s.drop i = []:=List.drop_of_length_le (by omega)
  rw [hd0,partsF_end,List.take_of_length_le (by simp; omega)] at l3
  have hsl:evSlice Tryz.prog 9 (.str s) (some (.int .i64 (fr:Int))) none none = some (.str (s.drop fr)):=by
   rw [ss9,bnds_from _ _ (by omega)]; simp only [Option.map_some,take_drop_all]
  have ha:=pt_app s hs (show out.length≤1000001 by omega) z k l4 (s.drop fr)
  repeat' (first | (simp (disch:=first | omega | (simp only [List.length_append,List.length_cons,List.length_nil,List.length_map,List.length_set]; omega)) only [VC_seq,VC_cond,VC_exit,VC_ret,VC_region,VI_false,VO_nil,VO_plain,VV_some,VS,blockQ,deN_vsl,deN_str,callOf,isPanic,nextOf,altA,evalOp,ev_tmp,Av.get,St.put,thenQ,Nat.reduceEqDiff,↓reduceIte,List.map_cons,List.map_nil,Option.map_some,Option.map_none,b_lss,decide_eq_false,ls9,hsl,hb1,ha,hde]))
  obtain ⟨w,hz,hw⟩:=mem_fz0 (B:=[]) (f:=AV.str) (w0:=0) (k:=if z then k + 1 else k) (z:=true) (L:=out++[s.drop fr]) (n:=19) (M:=mem [] AV.str (if z then k + 1 else k) 0 true (out++[s.drop fr])) (fun _=>mem_at) (strs_hfs _) (strs_one _)
  rw [← l3]
  exact retF 4 rfl rfl rfl hz (by rcases hw with rfl | rfl<;>first | exact .exact _ _ _ | exact .refl _)
end Go.Proofs.YtjlhemfmeboadaaGreatDoor
namespace Go.Proofs.YtjlhemfmeboadaaGreatDoor
set_option linter.unusedVariables false
set_option linter.unusedSimpArgs false
open Go Go.Av Go.RowKit

theorem shRun {P:Program} (hm:P.follows .mixedOrders = true) (hN:Go.Av.Enters P) (d:Nat) {f:FuncId} {args:List AV} {H H':List OB} {out:Out} (h:callN P wayN d (.fn f) args H = some (out,H')):ShFn P f args H out H':=
 (callN_ok (P:=P) (Y:=wayN) ⟨hm,hN,fun f args out h=>(by cases h),fun f args H out H' h=>(by cases h)⟩ d).1 (.fn f) args H out H' h
def escs:List Bytes:=[[92],[92,92],[44],[92,44],[59],[92,59],[10],[92,110]]
def obE:OB:=.cells (escs.map .str) true
def repM (a b c d n:AV):List AV:=(List.range 256).map fun k=>if k = 10 then a else if k = 59 then b else if k = 44 then c else if k = 92 then d else n
def bsC:OB:=.cells (repM (.sl 4 0 2 0) (.sl 5 0 2 0) (.sl 6 0 2 0) (.sl 7 0 2 0) .nilsl++[.sl 2 0 4 0]) false
def bsT : List OB := [.cells [.str [10], .str [59], .str [44], .str [92]] false, bsC,
   .cells (bytesA [92, 110]) true, .cells (bytesA [92, 59]) true, .cells (bytesA [92, 44]) true, .cells (bytesA [92, 92]) true]

theorem buildE:ShFn Tryz.prog 98 [.ptr 1 0] [obE,obR] (.ret (.iface 143 (.ptr 3 0))) (obE::obR::bsT):=
 shRun mixed enters 2 (by kernel_rfl)
def obBE:OB:=.cells [.int .u32 0,.int .i32 1,.int .u32 0,.iface 143 (.ptr 3 0),.vsl 0 true []] false
def obDE:OB:=.cells [.int .u32 1,.int .i32 0,.int .u32 0,.iface 143 (.ptr 3 0),.vsl 0 true []] false
theorem onceE:ShFn Tryz.prog 77 [.ptr 1 0] [obE,obR] (.ret (.tup [])) (obE::obBE::bsT):=by
 refine ShFn.ofX Tryz.func77 rfl (enters_call enters Tryz.func77 rfl) (by simp [Tryz.ntmps77]) ?_
 show W Tryz.prog 10 2 none _ _ _
 have h1:evStore Tryz.prog 102 (.ptr 1 3) (.iface 143 (.ptr 3 0)) (obE::obR::bsT) = some (obE::.cells [.int .u32 0,.int .i32 1,.int .u32 0,.iface 143 (.ptr 3 0),.sl 0 0 8 0] false::bsT):=by kernel_rfl
 have h2:evStore Tryz.prog 38 (.ptr 1 4) (.vsl 0 true []) (obE::.cells [.int .u32 0,.int .i32 1,.int .u32 0,.iface 143 (.ptr 3 0),.sl 0 0 8 0] false::bsT) = some (obE::obBE::bsT):=by kernel_rfl
 refine .seq (.region [.sh (.ret (.iface 143 (.ptr 3 0))) (obE::obR::bsT)] (by decide) ?_)
 simp only [EOps,gdA,callOf,isPanic,nextOf,altA,evalOp,St.ev,Av.get,St.put,argT,thenQ,Nat.reduceEqDiff,↓reduceIte,List.map_cons,List.map_nil,List.nil_append,List.append_nil,Option.map_some,Nat.zero_add,evNil,fa104_1,h1]
 refine ⟨buildE,?_⟩
 refine .region [] (by decide) ?_
 simp only [EOps,gdA,callOf,isPanic,nextOf,altA,evalOp,St.ev,Av.get,St.put,ofV,Nat.reduceEqDiff,↓reduceIte,Option.map_some,and_self,Nat.zero_add,evNil,fa104_2,h2]
 exact ⟨_,rfl,rfl,_,rfl,rfl⟩
/-! ### The replacer, looked up -/
def e4:Bytes:=[10,59,44,92]
def rv (x:Nat):AV:=if x = 10 then .vsl 0 false [.int .u8 92,.int .u8 110] else if x = 59 then .vsl 0 false [.int .u8 92,.int .u8 59] else if x = 44 then .vsl 0 false [.int .u8 92,.int .u8 44] else if x = 92 then .vsl 0 false [.int .u8 92,.int .u8 92] else .nilsl
def eV:AV:=.vsl 0 false (e4.map fun x=>.str [x])
def eCs:List AV:=(List.range 256).map rv++[eV]
theorem lend_E (s:Bytes) (r:Bytes):lend (obE::obDE::bsT) [.ptr 3 0,.str s] (.ret (.str r)) = some [.vptr eCs,.str s]:=by kernel_rfl
def spB (x:UInt8):Bool:=x == 10 || x == 59 || x == 44 || x == 92
theorem rv_no {x:UInt8} (h:spB x = false):rv x.toNat = .nilsl:=by
 have:=u8_all (fun x=>spB x || (!(x.toNat == 10) && !(x.toNat == 59) && !(x.toNat == 44) && !(x.toNat == 92))) (by decide +kernel) x
 simp only [h,Bool.false_or,Bool.and_eq_true,Bool.not_eq_true',beq_eq_false_iff_ne] at this
 obtain ⟨⟨⟨h1,h2⟩,h3⟩,h4⟩:=this
 unfold rv; rw [if_neg h1,if_neg h2,if_neg h3,if_neg h4]
theorem rv_yes {x:UInt8} (h:spB x = true):∃ y:UInt8,escC x = [92,y]∧rv x.toNat = .vsl 0 false [.int .u8 92,.int .u8 y.toNat]:=by
 simp only [spB,Bool.or_eq_true,beq_iff_eq] at h
 rcases h with ((h | h) | h) | h<;>subst h
 ·exact ⟨110,rfl,rfl⟩
 ·exact ⟨59,rfl,rfl⟩
 ·exact ⟨44,rfl,rfl⟩
 ·exact ⟨92,rfl,rfl⟩
theorem escC_no {x:UInt8} (h:spB x = false):escC x = [x]:=by
 have:=u8_all (fun x=>spB x || (escC x == [x])) (by decide +kernel) x
 simpa [h] using this
def ex (t:Bytes):Nat:=(t.filter spB).length
theorem ex_take {s:Bytes} {i:Nat} {x:UInt8} (h:s[i]? = some x):ex (s.take (i + 1)) = ex (s.take i) + (if spB x then 1 else 0):=by
 unfold ex; rw [List.take_add_one,h,List.filter_append]; cases hx:spB x<;>simp [hx]
theorem esc_ex:∀ s:Bytes,(esc s).length = s.length + ex s
 | []=>rfl
 | x::s=>by
  rw [esc_cons,List.length_append,esc_ex s,List.length_cons]
  unfold ex
  cases hx:spB x with
  | false=>rw [escC_no hx,List.filter_cons_of_neg (by simp [hx])]; simp; omega
  | true=>obtain ⟨y,hy,_⟩:=rv_yes hx; rw [hy,List.filter_cons_of_pos hx]; simp; omega
theorem ex_0:∀ s:Bytes,ex s = 0→esc s = s
 | [],_=>rfl
 | x::s,h=>by
  unfold ex at h
  cases hx:spB x with
  | true=>rw [List.filter_cons_of_pos hx] at h; simp at h
  | false=>rw [List.filter_cons_of_neg (by simp [hx])] at h; rw [esc_cons,escC_no hx,ex_0 s h]; rfl
def cs4 (s:Bytes) (i:Nat):Nat:=((e4.take i).map fun x=>s.count x).sum
theorem cs4_all (s:Bytes):cs4 s 4 = ex s:=by
 show s.count 10 + (s.count 59 + (s.count 44 + (s.count 92 + 0))) = ex s
 unfold ex
 induction s with
 | nil=>rfl
 | cons x s ih=>
  cases hx:spB x with
  | true=>
   rw [List.filter_cons_of_pos hx,List.length_cons,← ih]
   simp only [spB,Bool.or_eq_true,beq_iff_eq] at hx
   rcases hx with ((h | h) | h) | h<;>subst h<;>simp [List.count_cons]<;>omega
  | false=>
   rw [List.filter_cons_of_neg (by simp [hx]),← ih]
   simp only [spB,Bool.or_eq_false_iff,beq_eq_false_iff_ne] at hx
   simp [List.count_cons,hx]
theorem cs4_take {s:Bytes} {i:Nat} {x:UInt8} (h:e4[i]? = some x):cs4 s (i + 1) = cs4 s i + s.count x:=by
 unfold cs4; rw [List.take_add_one,h]; simp
theorem cs4_le (s:Bytes) (i:Nat) (hi:i≤4):cs4 s i≤4 * s.length:=by
 have h:∀ x,s.count x≤s.length:=fun x=>List.count_le_length
 have:=h 10; have:=h 59; have:=h 44; have:=h 92
 match i,hi with
 | 0,_=>simp [cs4]
 | 1,_=>show s.count 10 + 0≤_; omega
 | 2,_=>show s.count 10 + (s.count 59 + 0)≤_; omega
 | 3,_=>show s.count 10 + (s.count 59 + (s.count 44 + 0))≤_; omega
 | 4,_=>show s.count 10 + (s.count 59 + (s.count 44 + (s.count 92 + 0)))≤_; omega
theorem countV (s:Bytes) (x:UInt8) (hs:s.length≤1000000):PureFn Tryz.prog 204 [.str s,.str [x]] (.ret (.int .i64 (s.count x:Int))):=by
 refine PureFn.ofCalls (V:=.int .i64 (Lib.countByte s x:Nat)) enters Tryz.func204 rfl strs2_vals (fun w=>(Tryz.strings_Count_one ⟨s.toArray⟩ x w).mono ?_) ?_
 ·rintro e w' ⟨rfl,rfl⟩
  exact ⟨rfl,.refl _ _⟩
 ·intro F w
  have:Lib.countByte s x = s.count x:=rfl
  exact .int _ _
theorem eCs_ld (x:UInt8) (H:List OB):evLoad Tryz.prog 42 (.vptr (eCs.drop x.toNat)) H = some (rv x.toNat):=by
 have h1:eCs[x.toNat]? = some (rv x.toNat):=by
  have:=x.toNat_lt
  unfold eCs; rw [List.getElem?_append_left (by simp; omega)]; simp [List.getElem?_range this]
 have h2:(rv x.toNat).isC = true:=by unfold rv; split<;>(try split)<;>(try split)<;>(try split)<;>rfl
 simp [evLoad,tz42,tg42,ldA,h1]
theorem eCs_ix (x:UInt8) (H:List OB):evIndexAddr Tryz.prog 140 (.vptr eCs) (.int .u8 (x.toNat:Int)) H = some (.vptr (eCs.drop x.toNat)):=by
 have:=x.toNat_lt
 simp [evIndexAddr,idx_nat,Tryz.underlying140,tz42,this]
end Go.Proofs.YtjlhemfmeboadaaGreatDoor
namespace Go.Proofs.YtjlhemfmeboadaaGreatDoor
set_option linter.unusedVariables false
set_option linter.unusedSimpArgs false
open Go Go.Av Go.RowKit

theorem ns1 (t wd:Nat) (x:Bool) (a:AV) (l:List AV) (hk:nilKind Tryz.prog t = 1) (p q:Nat):evNilC Tryz.prog .neq t (.vsl wd x (a::l)) (.const (.slice none p q)) = some (.bool true):=by simp [evNilC,hk]
theorem ns2 (t wd:Nat) (x:Bool) (l:List AV) (w:AV) (o:BinOp):evBin Tryz.prog o t (.vsl wd x l) w = none:=by cases o<;>rfl
theorem ns3 (t wd:Nat) (x:Bool) (l:List AV) (w:AV) (o:BinOp):evNilEq Tryz.prog o t (.vsl wd x l) w = none:=by cases o<;>simp [evNilEq]
theorem nk42:nilKind Tryz.prog 42 = 1:=by kernel_rfl
def wE (n:Nat) (out:Bytes):List OB:=[.cells (bytesA out++zeros (n - out.length)) false]
theorem wE_copy (n:Nat) (out:Bytes) (a b:UInt8) (h:out.length + 2≤n):evCopy Tryz.prog 42 (.sl 0 out.length (n - out.length) 0) (.vsl 0 false [.int .u8 a.toNat,.int .u8 b.toNat]) (wE n out) = some (.int .i64 2,wE n (out++[a,b])):=by
 have hset:setC (bytesA out++zeros (n - out.length)) out.length [.int .u8 a.toNat,.int .u8 b.toNat] = bytesA (out++[a,b])++zeros (n - (out++[a,b]).length):=by
  have:=setC_over (bytesA out) (zeros (n - out.length)) [.int .u8 a.toNat,.int .u8 b.toNat] (by simp [zeros]; omega)
  rw [bytesA_len] at this
  rw [this]
  congr 1
  ·simp [bytesA,byteA]
  ·simp [zeros,Nat.sub_sub]
 have hn:newsX 1 (.vsl 0 false [.int .u8 a.toNat,.int .u8 b.toNat]) (wE n out) = some (2,[.int .u8 a.toNat,.int .u8 b.toNat]):=rfl
 have hz:(zeros (n - out.length)).length = n - out.length:=by simp [zeros]
 simp only [evCopy,Tryz.underlying42,tz5,hn]
 simp only [wE,List.getElem?_cons_zero,esz,hset,↓reduceIte]
 rw [if_pos (by refine ⟨trivial,rfl,by omega,?_⟩; rw [List.length_append,bytesA_len,hz]; omega)]
 rfl
theorem wE_put (n:Nat) (out:Bytes) (a:UInt8) (h:out.length < n):evStore Tryz.prog 5 (.ptr 0 out.length) (.int .u8 a.toNat) (wE n out) = some (wE n (out++[a])):=by
 have hset:(bytesA out++zeros (n - out.length)).set out.length (.int .u8 a.toNat) = bytesA (out++[a])++zeros (n - (out++[a]).length):=by
  have:=setC_over (bytesA out) (zeros (n - out.length)) [.int .u8 a.toNat] (by simp [zeros]; omega)
  rw [bytesA_len,setC_one] at this
  rw [this]
  congr 1
  ·simp [bytesA,byteA]
  ·simp [zeros,Nat.sub_sub]
 have hl:(bytesA out++zeros (n - out.length)).length = n:=by rw [List.length_append,bytesA_len]; simp [zeros]; omega
 rw [st5]
 simp [stC,wE,AV.cells,AV.isC,setC_one,hl,hset]; omega
theorem wE_str (out:Bytes) (n:Nat) (h:out.length = n):evConv Tryz.prog 42 9 (.sl 0 0 n 0) (wE n out) = some (.str out,wE n out):=by
 subst h
 have hbl:=bytesA_len out
 simp [evConv,Tryz.underlying9,Tryz.underlying42,Tryz.underlying5,wE,zeros,hbl,List.take_of_length_le,unbyte_bytesA]
theorem tq_n {K:St→Prop} {Q:Ex→St→Prop} {a:St}:thenQ K Q .normal a = K a:=Eq.trans rfl rfl
set_option maxRecDepth 100000 in
theorem eCs_4 (H:List OB):evLoad Tryz.prog 38 (.vptr (eCs.drop 256)) H = some eV:=by kernel_rfl
set_option maxRecDepth 8000 in
theorem replaceE (s:Bytes) (hs:s.length≤1000000):PureFn Tryz.prog 202 [.vptr eCs,.str s] (.ret (.str (esc s))):=by
 have hld:=eCs_ld
 have hix:=eCs_ix
 have hl1:=eCs_4
 generalize eCs = E at *
 have hlen:=esc_ex s
 have hexl:ex s≤s.length:=by unfold ex; exact List.length_filter_le _ _
 have hne1:=ne1
 refine PureFn.of Tryz.func202 rfl (enters_call enters Tryz.func202 rfl) (by simp [Tryz.ntmps202]) ?_
 show W Tryz.prog 122 0 none _ _ _
 refine .seq (.vc (by decide) ?_)
 repeat' (first | (simp (disch:=first | omega | (simp only [List.length_append,List.length_cons,List.length_nil,List.length_map,List.length_set]; omega)) only [VC_region,VO_nil,VO_plain,VV_some,VS,ofV_lit,callOf,isPanic,nextOf,altA,evalOp,ev_const,St.put,argT,thenQ,Nat.zero_add]))
 refine .seq (.vc (by decide) ?_)
 repeat' (first | (simp (disch:=first | omega | (simp only [List.length_append,List.length_cons,List.length_nil,List.length_map,List.length_set]; omega)) only [VC_region,VO_nil,VO_plain,VV_some,VS,deN_str,callOf,isPanic,nextOf,altA,evalOp,ev_tmp,Av.get,St.put,thenQ,Nat.reduceEqDiff,↓reduceIte,Option.map_some,ls9]))
 refine .seq (.vc (by decide) ?_)
 repeat' (first | (simp (disch:=first | omega | (simp only [List.length_append,List.length_cons,List.length_nil,List.length_map,List.length_set]; omega)) only [VC_region,VO_nil,VO_plain,VV_some,VS,ofV_bool,callOf,isPanic,nextOf,altA,evalOp,ev_const,St.put,thenQ]))
 refine W.seqT [(5,.int .i64 ((s.length + ex s:Nat):Int)),(6,.bool (decide (0 < ex s))),(0,.vptr E),(1,.str s)] [] (.vc (by decide) ?_) ?_
 ·have hle:evLen Tryz.prog 38 eV [] = some (.int .i64 4):=by kernel_rfl
  have hdV:deN eV = eV:=rfl
  have hmul8:evBin Tryz.prog .mul 3 (.int .i64 4) (.int .i64 8) = some (.int .i64 32):=by kernel_rfl
  by_cases h32:32≤s.length
  ·repeat' (first | (simp (disch:=first | omega | (simp only [List.length_append,List.length_cons,List.length_nil,List.length_map,List.length_set]; omega)) only [VC_seq,VC_cond,VC_block,VC_region,VC_loop,VI_true,VO_nil,VO_plain,VV_some,VS,evNil,ofV_int,deN_str,callOf,isPanic,nextOf,altA,evalOp,ev_tmp,ev_const,Av.get,St.put,thenQ,Nat.reduceEqDiff,↓reduceIte,Option.map_some,b_leq,decide_eq_true,ls9,fv142_1,hl1,hle,hdV,hmul8]))
   refine W.loopT (X:=Nat) (fun i=>[(32,.int .i64 (i:Int)),(31,.int .i64 4),(30,eV),(5,.int .i64 ((s.length + cs4 s i:Nat):Int)),(6,.bool (decide (0 < cs4 s i))),(0,.vptr E),(1,.str s)]) (fun _=>[]) (fun i=>i≤4) (fun i=>4 - i) 0 (Nat.zero_le _) ⟨rfl,rfl,rfl,rfl,rfl,rfl,rfl,trivial⟩ rfl ?_
   intro i hi
   have hcle:=cs4_le s i hi
   have hcle1:=cs4_le s (i + 1)
   refine .vc (by decide) ?_
   by_cases h:i < 4
   ·obtain ⟨x,hx⟩:∃ x,e4[i]? = some x:=⟨_,List.getElem?_eq_getElem (by simpa [e4] using h)⟩
    have hia:∀ H,evIndexAddr Tryz.prog 38 eV (.int .i64 (i:Int)) H = some (.vptr [.str [x]]):=fun H=>iv38 (v:=.str [x]) (by simp [hx]) rfl H
    have hcs:=cs4_take (s:=s) hx
    have hc:=countV s x hs
    have hcl:=List.count_le_length (a:=x) (l:=s)
    have hsp:spB x = true:=by
     match i,h with
     | 0,_=>cases hx; rfl
     | 1,_=>cases hx; rfl
     | 2,_=>cases hx; rfl
     | 3,_=>cases hx; rfl
    obtain ⟨y,_,hrv⟩:=rv_yes hsp
    have hx0:evIndex Tryz.prog 9 (.str [x]) (.int .i64 0) = some (.int .u8 x.toNat):=xi9 (n:=0) rfl
    by_cases h0:s.count x = 0
    ·rw [h0] at hc hcs
     repeat' (first | (simp (disch:=first | omega | (simp only [List.length_append,List.length_cons,List.length_nil,List.length_map,List.length_set]; omega)) only [VC_skip,VC_seq,VC_cond,VC_block,VC_region,VI_true,VI_false,VO_nil,VO_plain,VV_some,VS,blockQ,ofV_int,callOf,isPanic,nextOf,altA,evalOp,ev_tmp,ev_const,ev_func,Av.get,St.put,thenQ,Nat.reduceEqDiff,↓reduceIte,List.map_cons,List.map_nil,List.nil_append,List.append_nil,Option.map_some,and_self,and_true,b_lss,b_neq,b_add64,ine_f,castS,decide_eq_true,lw9,hia]) | (guard_target =~ VCall _ _ _ _ _ _ _; refine VCall.pure (by first | with_reducible exact hc) (by (first | rfl | (simp only [AV.hfs,AV.hf,Bool.and_self,Bool.and_true,Bool.true_and,strs_hfs]))) ?_) | (guard_target =~ DCal _ _ _ _ _ _ _; refine DCal.pure (by first | with_reducible exact hc) (by (first | rfl | (simp only [AV.hfs,AV.hf,Bool.and_self,Bool.and_true,Bool.true_and,strs_hfs]))) ?_))
     refine ⟨i + 1,by omega,by omega,⟨rfl,rfl,rfl,by rw [hcs]; rfl,by rw [hcs]; rfl,rfl,rfl,trivial⟩⟩
    ·have h0':0 < s.count x:=by omega
     repeat' (first | (simp (disch:=first | omega | (simp only [List.length_append,List.length_cons,List.length_nil,List.length_map,List.length_set]; omega)) only [VC_skip,VC_seq,VC_cond,VC_block,VC_region,VC_drawn,VI_true,VO_nil,VO_plain,VV_some,VS,ofV_int,callOf,isPanic,nextOf,altA,evalOp,ev_tmp,ev_const,ev_func,Av.get,St.put,thenQ,Nat.reduceEqDiff,↓reduceIte,List.map_cons,List.map_nil,List.nil_append,List.append_nil,Option.map_some,b_lss,b_neq,ine_t,decide_eq_true,lw9,hia]) | (guard_target =~ VCall _ _ _ _ _ _ _; refine VCall.pure (by first | with_reducible exact hc) (by (first | rfl | (simp only [AV.hfs,AV.hf,Bool.and_self,Bool.and_true,Bool.true_and,strs_hfs]))) ?_) | (guard_target =~ DCal _ _ _ _ _ _ _; refine DCal.pure (by first | with_reducible exact hc) (by (first | rfl | (simp only [AV.hfs,AV.hf,Bool.and_self,Bool.and_true,Bool.true_and,strs_hfs]))) ?_))
     refine W.drawN [] [false,false,false,false,false,false,false,false,false,false,false,false,false,false] [] mixed (by kernel_rfl) (by kernel_rfl) (by kernel_rfl) ?_
     have hmul:evBin Tryz.prog .mul 3 (.int .i64 (s.count x:Int)) (.int .i64 (((2:Nat):Int) - 1)) = some (.int .i64 (s.count x:Int)):=by
      have:IntKind.i64.wrap ((s.count x:Int) * (((2:Nat):Int) - 1)) = (s.count x:Int):=by rw [show ((s.count x:Int) * (((2:Nat):Int) - 1)) = (s.count x:Int) by simp,Go.Av.wrap64 _ ⟨by omega,by omega⟩]
      simp only [evBin,this,↓reduceIte]
     repeat' (first | (simp (disch:=first | omega | (simp only [List.length_append,List.length_cons,List.length_nil,List.length_map,List.length_set]; omega)) only [VC_region,VO_nil,VO_plain,VV_some,VS,blockQ,DT_nil,DT_plain,DS,cHs_f,cHs_n,cPs,lastS_1,lastS_2,evNil,ofV_bool,ofV_int,deN_vsl,callOf,isPanic,nextOf,altA,evalOp,ev_tmp,ev_const,Av.get,St.put,thenQ,Nat.reduceEqDiff,↓reduceIte,List.nil_append,Option.map_some,List.length_cons,List.length_nil,Nat.reduceAdd,and_self,true_and,and_true,Nat.zero_add,List.drop_zero,List.cons_append,b_add64,b_sub64,castS,lv42,fv142_0,hx0,hix,hld,hrv,hmul,castA]))
     refine ⟨i + 1,by omega,by omega,⟨rfl,rfl,rfl,by simp only [Av.get,Nat.reduceEqDiff,↓reduceIte]; rw [hcs]; congr 1; omega,by rw [hcs]; simp [Av.get]; omega,rfl,rfl,trivial⟩⟩
   ·have e:i = 4:=by omega
    subst e
    rw [cs4_all]
    repeat' (first | (simp (disch:=first | omega | (simp only [List.length_append,List.length_cons,List.length_nil,List.length_map,List.length_set]; omega)) only [VC_seq,VC_cond,VC_exit,VC_region,VI_false,VO_nil,VO_plain,VV_some,VS,blockQ,callOf,isPanic,nextOf,altA,evalOp,ev_tmp,Av.get,St.put,thenQ,Nat.reduceEqDiff,↓reduceIte,Nat.reduceSub,and_self,and_true,b_lss,decide_eq_false]))
    exact ⟨rfl,rfl,rfl,rfl,trivial⟩
  ·repeat' (first | (simp (disch:=first | omega | (simp only [List.length_append,List.length_cons,List.length_nil,List.length_map,List.length_set]; omega)) only [VC_seq,VC_cond,VC_block,VC_region,VC_loop,VI_false,VO_nil,VO_plain,VV_some,VS,evNil,ofV_int,deN_str,callOf,isPanic,nextOf,altA,evalOp,ev_tmp,ev_const,Av.get,St.put,thenQ,Nat.reduceEqDiff,↓reduceIte,Option.map_some,b_leq,decide_eq_false,ls9,fv142_1,hl1,hle,hdV,hmul8]))
   refine W.loopT (X:=Nat) (fun i=>[(10,.int .i64 (i:Int)),(5,.int .i64 ((s.length + ex (s.take i):Nat):Int)),(6,.bool (decide (0 < ex (s.take i)))),(0,.vptr E),(1,.str s)]) (fun _=>[]) (fun i=>i≤s.length) (fun i=>s.length - i) 0 (Nat.zero_le _) ⟨rfl,rfl,rfl,rfl,rfl,trivial⟩ rfl ?_
   intro i hi
   refine .vc (by decide) ?_
   by_cases h:i < s.length
   ·obtain ⟨x,hx,hdrop⟩:=drop_at h
    have hex:=ex_take hx
    have hxl:ex (s.take i)≤s.length:=Nat.le_trans (List.length_filter_le _ _) (by simp; omega)
    cases hsp:spB x with
    | false=>
     have hrv:=rv_no hsp
     rw [hsp] at hex
     repeat' (first | (simp (disch:=first | omega | (simp only [List.length_append,List.length_cons,List.length_nil,List.length_map,List.length_set]; omega)) only [VC_skip,VC_seq,VC_cond,VC_block,VC_region,VI_true,VI_false,VO_nil,VO_plain,VV_some,VS,blockQ,evNil,ofV_int,ofV_nsl,deN_str,callOf,isPanic,nextOf,altA,evalOp,ev_tmp,ev_const,Av.get,St.put,thenQ,Nat.reduceEqDiff,↓reduceIte,Option.map_some,and_self,and_true,List.drop_zero,b_lss,b_add64,castS,decide_eq_true,ls9,fv142_0,xi9 hx,hix,hld,hrv,ne1 _ _ _ nk42,ne2 42 .nilsl,ne3]))
     refine ⟨i + 1,by omega,by omega,⟨rfl,by rw [hex]; simp [Av.get],by rw [hex]; simp [Av.get],rfl,rfl,trivial⟩⟩
    | true=>
     obtain ⟨y,_,hrv⟩:=rv_yes hsp
     rw [hsp] at hex
     repeat' (first | (simp (disch:=first | omega | (simp only [List.length_append,List.length_cons,List.length_nil,List.length_map,List.length_set]; omega)) only [VC_skip,VC_seq,VC_cond,VC_block,VC_region,VI_true,VO_nil,VO_plain,VV_some,VS,blockQ,evNil,ofV_bool,ofV_int,ofV_nsl,deN_vsl,deN_str,callOf,isPanic,nextOf,altA,evalOp,ev_tmp,ev_const,Av.get,St.put,thenQ,Nat.reduceEqDiff,↓reduceIte,Option.map_some,List.length_cons,List.length_nil,Nat.reduceAdd,and_self,and_true,Nat.zero_add,List.drop_zero,b_lss,b_add64,b_sub64,castS,decide_eq_true,ls9,lv42,fv142_0,xi9 hx,hix,hld,hrv,ns1 _ _ _ _ _ nk42,ns2,ns3,castA]))
     refine ⟨i + 1,by omega,by omega,⟨rfl,by rw [hex]; simp [Av.get]; omega,by rw [hex]; simp [Av.get],rfl,rfl,trivial⟩⟩
   ·have e:i = s.length:=by omega
    subst e
    rw [List.take_length]
    repeat' (first | (simp (disch:=first | omega | (simp only [List.length_append,List.length_cons,List.length_nil,List.length_map,List.length_set]; omega)) only [VC_seq,VC_cond,VC_exit,VC_region,VI_false,VO_nil,VO_plain,VV_some,VS,blockQ,deN_str,callOf,isPanic,nextOf,altA,evalOp,ev_tmp,Av.get,St.put,thenQ,Nat.reduceEqDiff,↓reduceIte,Option.map_some,and_self,and_true,b_lss,decide_eq_false,ls9]))
    exact ⟨rfl,rfl,rfl,rfl,trivial⟩
 refine W.seqP (ex s ≠ 0) [(5,.int .i64 ((s.length + ex s:Nat):Int)),(0,.vptr E),(1,.str s)] [] (.vc (by decide) ?_) ?_
 ·by_cases h0:ex s = 0
  ·have hd0:decide (0 < ex s) = false:=decide_eq_false (by omega)
   rw [hd0]
   repeat' (first | (simp (disch:=first | omega | (simp only [List.length_append,List.length_cons,List.length_nil,List.length_map,List.length_set]; omega)) only [VC_seq,VC_cond,VC_ret,VC_region,VI_true,VO_nil,VO_plain,VV_some,VS,u_notb,callOf,isPanic,nextOf,altA,evalOp,ev_tmp,Av.get,St.put,thenQ,Nat.reduceEqDiff,↓reduceIte,Option.map_some,Bool.not_false]))
   rw [ex_0 s h0]
   exact ⟨_,rfl,_,rfl,.refl _⟩
  ·have hd0:decide (0 < ex s) = true:=decide_eq_true (by omega)
   rw [hd0]
   repeat' (first | (simp (disch:=first | omega | (simp only [List.length_append,List.length_cons,List.length_nil,List.length_map,List.length_set]; omega)) only [VC_skip,VC_seq,VC_cond,VC_region,VI_false,VO_nil,VO_plain,VV_some,VS,u_notb,callOf,isPanic,nextOf,altA,evalOp,ev_tmp,Av.get,St.put,thenQ,Nat.reduceEqDiff,↓reduceIte,Option.map_some,Bool.not_true,and_self,and_true]))
   exact ⟨h0,rfl,rfl,rfl,trivial⟩
 intro h0
 rw [← hlen]
 obtain ⟨N,hN⟩:∃ N,N = (esc s).length:=⟨_,rfl⟩
 rw [← hN]
 have hmk:evMakeSlice Tryz.prog 42 (.int .i64 (N:Int)) (.int .i64 (N:Int)) [] = some (.sl 0 0 N 0,wE N []):=by
  have hz8:zeroA Tryz.prog 5 = some (.int .u8 0):=by kernel_rfl
  have hr:rep N (AV.cells (.int .u8 0)) = zeros N:=by simp [rep,zeros,AV.cells,List.flatten_replicate_singleton]
  simp only [evMakeSlice,Tryz.underlying42,idx_nat,ap42,hz8,List.length_nil,List.nil_append,hr]
  rw [if_pos (by omega)]; rfl
 refine .vc (by decide) ?_
 repeat' (first | (simp (disch:=first | omega | (simp only [List.length_append,List.length_cons,List.length_nil,List.length_map,List.length_set]; omega)) only [VC_seq,VC_block,VC_region,VC_loop,VO_nil,VO_plain,VV_some,VS,ofV_int,callOf,isPanic,nextOf,altA,evalOp,ev_tmp,ev_const,Av.get,St.put,thenQ,↓reduceIte,hmk]))
 refine W.loopT (X:=Nat) (fun i=>[(14,.int .i64 (i:Int)),(13,.int .i64 ((esc (s.take i)).length:Int)),(12,.sl 0 0 N 0),(0,.vptr E),(1,.str s)]) (fun i=>wE N (esc (s.take i))) (fun i=>i≤s.length) (fun i=>s.length - i) 0 (Nat.zero_le _) ⟨rfl,rfl,rfl,rfl,rfl,trivial⟩ rfl ?_
 intro i hi
 refine .vc (by decide) ?_
 by_cases h:i < s.length
 ·obtain ⟨x,hx,hdrop⟩:=drop_at h
  have htk:=esc_take hx
  have hle:=esc_take_le s (i + 1)
  rw [htk,← hN] at hle
  obtain ⟨o,ho⟩:∃ o,o = esc (s.take i):=⟨_,rfl⟩
  rw [← ho] at htk hle ⊢
  cases hsp:spB x with
  | false=>
   have hrv:=rv_no hsp
   rw [escC_no hsp] at htk hle
   simp only [List.length_append,List.length_cons,List.length_nil] at hle
   have hput:=wE_put N o x (by omega)
   have hia:∀ H,evIndexAddr Tryz.prog 42 (.sl 0 0 N 0) (.int .i64 (o.length:Int)) H = some (.ptr 0 o.length):=by
    intro H; simp [evIndexAddr,idx_nat,Tryz.underlying42,tz5]; omega
   repeat' (first | (simp (disch:=first | omega | (simp only [List.length_append,List.length_cons,List.length_nil,List.length_map,List.length_set]; omega)) only [VC_skip,VC_seq,VC_cond,VC_block,VC_region,VI_true,VI_false,VO_nil,VO_plain,VV_some,VS,blockQ,evNil,ofV_int,ofV_nsl,deN_str,callOf,isPanic,nextOf,altA,evalOp,ev_tmp,ev_const,Av.get,St.put,Nat.reduceEqDiff,↓reduceIte,Option.map_some,and_true,List.drop_zero,b_lss,b_add64,castS,decide_eq_true,ls9,fv142_0,xi9 hx,hix,hld,hrv,ne1 _ _ _ nk42,ne2 42 .nilsl,ne3,hia,hput,tq_n]))
   exact ⟨i + 1,by omega,by omega,⟨rfl,by rw [htk]; simp [Av.get],rfl,rfl,rfl,trivial⟩,by rw [htk]⟩
  | true=>
   obtain ⟨y,hy,hrv⟩:=rv_yes hsp
   rw [hy] at htk hle
   simp only [List.length_append,List.length_cons,List.length_nil] at hle
   have hcp:=wE_copy N o 92 y (by omega)
   have hcp:evCopy Tryz.prog 42 (.sl 0 o.length (N - o.length) 0) (.vsl 0 false [.int .u8 92,.int .u8 y.toNat]) (wE N o) = some (.int .i64 2,wE N (o++[92,y])):=hcp
   have hsl:evSlice Tryz.prog 42 (.sl 0 0 N 0) (some (.int .i64 (o.length:Int))) none none = some (.sl 0 o.length (N - o.length) 0):=by
    simp only [evSlice,Tryz.underlying42,tz5,bnds_from .i64 o.length (show o.length≤N by omega),esz,↓reduceIte]
    rw [if_pos (by omega)]; simp
   repeat' (first | (simp (disch:=first | omega | (simp only [List.length_append,List.length_cons,List.length_nil,List.length_map,List.length_set]; omega)) only [VC_skip,VC_seq,VC_cond,VC_block,VC_region,VC_drawn,VI_true,VO_nil,VO_plain,VV_some,VS,evNil,ofV_nsl,deN_str,callOf,isPanic,nextOf,altA,evalOp,ev_tmp,ev_const,Av.get,St.put,thenQ,Nat.reduceEqDiff,↓reduceIte,Option.map_some,List.drop_zero,b_lss,decide_eq_true,ls9,fv142_0,xi9 hx,hix,hld,hrv,ns1 _ _ _ _ _ nk42,ns2,ns3]))
   refine W.drawN [10] [false,false,false,false,false,false,false,false,false,false,true,false,false] [] mixed (by kernel_rfl) (by kernel_rfl) (by kernel_rfl) ?_
   repeat' (first | (simp (disch:=first | omega | (simp only [List.length_append,List.length_cons,List.length_nil,List.length_map,List.length_set]; omega)) only [VC_region,VO_nil,VO_plain,VV_some,VS,blockQ,DT_nil,DT_plain,DS,cHs_t,cHs_f,cHs_n,cPs,lastS_1,lastS_2,evNil,ofV_int,deN_vsl,deN_sl,callOf,isPanic,nextOf,altA,evalOp,ev_tmp,ev_const,Av.get,St.put,thenQ,Nat.reduceEqDiff,↓reduceIte,List.nil_append,Option.map_some,Option.map_none,and_self,true_and,and_true,List.drop_zero,List.cons_append,b_add64,castS,castS2,fv142_0,hix,hld,hrv,hsl,hcp]))
   exact ⟨i + 1,by omega,by omega,⟨rfl,by rw [htk]; simp [Av.get],rfl,rfl,rfl,trivial⟩,by rw [htk]⟩
 ·have e:i = s.length:=by omega
  subst e
  rw [List.take_length]
  have hcv:=wE_str (esc s) N hN.symm
  repeat' (first | (simp (disch:=first | omega | (simp only [List.length_append,List.length_cons,List.length_nil,List.length_map,List.length_set]; omega)) only [VC_seq,VC_cond,VC_exit,VC_ret,VC_region,VI_false,VO_nil,VO_plain,VV_some,VS,blockQ,deN_str,callOf,isPanic,nextOf,altA,evalOp,ev_tmp,Av.get,St.put,thenQ,Nat.reduceEqDiff,↓reduceIte,Option.map_some,b_lss,decide_eq_false,ls9,hcv]))
  exact ⟨_,rfl,_,rfl,.refl _⟩
theorem methE : methA Tryz.prog 143 "Replace" = some 202 := by kernel_rfl
theorem replE (s:Bytes) (hs:s.length≤1000000):ShFn Tryz.prog 53 [.ptr 1 0,.str s] [obE,obS] (.ret (.str (esc s))) (obE::obDE::bsT):=by
 refine ShFn.ofX Tryz.func53 rfl (enters_call enters Tryz.func53 rfl) (by simp [Tryz.ntmps53]) ?_
 show W Tryz.prog 17 2 none _ _ _
 refine .seq (.region [] (by decide) ?_)
 simp only [EOps,gdA,callOf,isPanic,nextOf,altA,evalOp,St.ev,St.put,argT,ofV,thenQ,Nat.zero_add]
 refine .seq (.region [.sh (.ret (.tup [])) (obE::obDE::bsT)] (by decide) ?_)
 simp only [EOps,gdA,callOf,isPanic,nextOf,altA,evalOp,St.ev,Av.get,St.put,thenQ,Nat.reduceEqDiff,↓reduceIte,List.map_cons,List.map_nil,List.nil_append,List.append_nil,Option.map_some,Nat.add_zero,evNil,fa104_0]
 refine ⟨do76 (Nat.zero_le _) onceE,?_⟩
 refine .seq (.region [.pure (.ret (.str (esc s)))] (by decide) ?_)
 have hl:evLoad Tryz.prog 102 (.ptr 1 3) (obE::obDE::bsT) = some (.iface 143 (.ptr 3 0)):=by kernel_rfl
 simp only [EOps,gdA,callOf,isPanic,nextOf,altA,evalOp,St.ev,Av.get,St.put,thenQ,Nat.reduceEqDiff,↓reduceIte,List.map_cons,List.map_nil,Option.map_some,Nat.zero_add,evNil,fa104_1,hl,methE,lend_E]
 refine ⟨replaceE s hs,?_⟩
 exact .ret ⟨_,rfl,rfl,_,rfl,rfl⟩
set_option maxRecDepth 4000 in
theorem escV (s:Bytes) (hs:s.length≤1000000):PureFn Tryz.prog 26 [.str s] (.ret (.str (esc s))):=by
 refine PureFn.of Tryz.func26 rfl (enters_call enters Tryz.func26 rfl) (by simp [Tryz.ntmps26]) ?_
 show W Tryz.prog 7 0 none _ _ _
 refine .seq (.region [] (by decide) ?_)
 simp only [EOps,gdA,callOf,isPanic,nextOf,altA,evalOp,St.ev,St.put,argT,ofV,thenQ]
 refine .seq (.region [.sh (.ret (.ptr 1 0)) [obE,obS],.sh (.ret (.str (esc s))) (obE::obDE::bsT)] (by decide) ?_)
 have hb:evBuildSlice Tryz.prog 38 8 [(0,.str [92]),(1,.str [92,92]),(2,.str [44]),(3,.str [92,44]),(4,.str [59]),(5,.str [92,59]),(6,.str [10]),(7,.str [92,110])] = some (.vsl 0 true (escs.map .str)):=by kernel_rfl
 have x1:({ data:=#[92] }:ByteArray).size≤maxLen':=by decide
 have x2:({ data:=#[92,92] }:ByteArray).size≤maxLen':=by decide
 have x3:({ data:=#[44] }:ByteArray).size≤maxLen':=by decide
 have x4:({ data:=#[92,44] }:ByteArray).size≤maxLen':=by decide
 have x5:({ data:=#[59] }:ByteArray).size≤maxLen':=by decide
 have x6:({ data:=#[92,59] }:ByteArray).size≤maxLen':=by decide
 have x7:({ data:=#[10] }:ByteArray).size≤maxLen':=by decide
 have x8:({ data:=#[92,110] }:ByteArray).size≤maxLen':=by decide
 simp only [EOps,gdA,callOf,isPanic,nextOf,altA,evalOp,St.ev,Av.get,St.put,ofV,thenQ,Nat.reduceEqDiff,↓reduceIte,List.map_cons,List.map_nil,List.nil_append,List.append_nil,Option.map_some,x1,x2,x3,x4,x5,x6,x7,x8,hb]
 refine ⟨new52 true escs rfl (by decide),replE s hs,?_⟩
 exact .ret ⟨_,rfl,_,rfl,.refl _⟩
end Go.Proofs.YtjlhemfmeboadaaGreatDoor
namespace Go.Proofs.YtjlhemfmeboadaaGreatDoor
set_option linter.unusedVariables false
set_option linter.unusedSimpArgs false
open Go Go.Av Go.RowKit

theorem partsB_len (m:UInt8) (s:Bytes):(partsB m s).length≤s.length + 1:=partsF_len m false [] s
set_option maxRecDepth 8000 in
theorem vcardEscapes (s t:Bytes):PureFn Tryz.prog 10 [.str s,.str t] (.ret (.bool true)):=by
 have hk:=knownV
 by_cases q1:s.length > 1000
 case pos=>
  refine PureFn.of Tryz.func10 rfl (enters_call enters Tryz.func10 rfl) (by simp [Tryz.ntmps10]) ?_
  show W Tryz.prog 103 0 none _ _ _
  refine W.vc (by decide) ?_
  repeat' (first | (simp (disch:=first | omega | (simp only [List.length_append,List.length_cons,List.length_nil,List.length_map,List.length_set]; omega)) only [VC_seq,VC_cond,VC_ret,VC_region,VI_true,VO_nil,VO_plain,VO_guard,VG_false,VV_some,VS,ofV_bool,ofV_int,deN_str,gdA,callOf,isPanic,nextOf,altA,evalOp,ev_tmp,ev_const,ev_func,Av.get,St.put,argT,thenQ,Nat.reduceEqDiff,↓reduceIte,List.map_nil,List.append_nil,List.getElem?_cons_zero,List.getElem?_cons_succ,List.getElem?_toArray,Option.map_some,Option.bind_some,beq_false,Bool.not_true,pickA,Nat.zero_add,b_gtr,decide_eq_true,ls9]) | (guard_target =~ VCall _ _ _ _ _ _ _; refine VCall.pure (by first | with_reducible exact hk) (by (first | rfl | (simp only [AV.hfs,AV.hf,Bool.and_self,Bool.and_true,Bool.true_and,strs_hfs]))) ?_) | (guard_target =~ DCal _ _ _ _ _ _ _; refine DCal.pure (by first | with_reducible exact hk) (by (first | rfl | (simp only [AV.hfs,AV.hf,Bool.and_self,Bool.and_true,Bool.true_and,strs_hfs]))) ?_))
  exact ⟨_,rfl,_,rfl,.refl _⟩
 by_cases q2:t.length > 1000
 case pos=>
  refine PureFn.of Tryz.func10 rfl (enters_call enters Tryz.func10 rfl) (by simp [Tryz.ntmps10]) ?_
  show W Tryz.prog 103 0 none _ _ _
  refine W.vc (by decide) ?_
  repeat' (first | (simp (disch:=first | omega | (simp only [List.length_append,List.length_cons,List.length_nil,List.length_map,List.length_set]; omega)) only [VC_seq,VC_cond,VC_ret,VC_region,VI_true,VO_nil,VO_plain,VO_guard,VG_true,VV_some,VS,ofV_bool,ofV_int,deN_str,gdA,callOf,isPanic,nextOf,altA,evalOp,ev_tmp,ev_const,ev_func,Av.get,St.put,argT,thenQ,Nat.reduceEqDiff,↓reduceIte,List.map_nil,List.append_nil,List.getElem?_cons_zero,List.getElem?_cons_succ,List.getElem?_toArray,Option.map_some,Option.bind_some,beq_false,Bool.not_false,pickA,cond_false,Nat.zero_add,b_gtr,decide_eq_true,decide_eq_false,ls9]) | (guard_target =~ VCall _ _ _ _ _ _ _; refine VCall.pure (by first | with_reducible exact hk) (by (first | rfl | (simp only [AV.hfs,AV.hf,Bool.and_self,Bool.and_true,Bool.true_and,strs_hfs]))) ?_) | (guard_target =~ DCal _ _ _ _ _ _ _; refine DCal.pure (by first | with_reducible exact hk) (by (first | rfl | (simp only [AV.hfs,AV.hf,Bool.and_self,Bool.and_true,Bool.true_and,strs_hfs]))) ?_))
  exact ⟨_,rfl,_,rfl,.refl _⟩
 have e1:=escV s (by omega)
 have e2:=escV t (by omega)
 have e3:=escR s (by omega)
 have u1:=unescV s (by omega)
 have u2:=unescR s (by omega)
 have l1:=esc_len s
 have l2:=esc_len t
 have u3:=unescV (esc s) (by omega)
 rw [unesc_esc] at u3
 have p1:∀ c,PureFn Tryz.prog 30 [.str s,.bool c] (.ret (.vsl 0 false ((partsB (mk c) s).map .str))):=fun c=>partsV s c (by omega)
 have p2:∀ c,PureFn Tryz.prog 31 [.str s,.bool c] (.ret (.vsl 0 false ((partsB (mk c) s).map .str))):=fun c=>partsR s c (by omega)
 have p3:∀ c,PureFn Tryz.prog 30 [.str (esc s++[mk c]++esc t),.bool c] (.ret (.vsl 0 false [.str (esc s),.str (esc t)])):=by
  intro c
  have:=partsV (esc s++[mk c]++esc t) c (by simp; omega)
  rw [show esc s++[mk c]++esc t = esc s++mk c::esc t by simp,parts_two (by cases c<;>simp [mk])] at this
  simpa using this
 have hPl:∀ c,(partsB (mk c) s).length≤1001:=fun c=>by have:=partsB_len (mk c) s; omega
 obtain ⟨PB,hPB⟩:∃ PB:Bool→List Bytes,∀ c,PB c = partsB (mk c) s:=⟨_,fun _=>rfl⟩
 simp only [← hPB] at p1 p2 hPl
 clear hPB
 generalize esc s = e at *
 generalize esc t = f at *
 have had1:∀ m:UInt8,evBin Tryz.prog .add 9 (.str e) (.str [m]) = some (.str (e++[m])):=fun m=>sadd _ _ (by simp only [List.length_append,List.length_cons,List.length_nil]; show _≤9223372036854775807; omega)
 have had2:∀ m:UInt8,evBin Tryz.prog .add 9 (.str (e++[m])) (.str f) = some (.str (e++[m]++f)):=fun m=>sadd _ _ (by simp only [List.length_append,List.length_cons,List.length_nil]; show _≤9223372036854775807; omega)
 have hbb:=bsBs
 have hcv:∀ (m:UInt8) H,evConv Tryz.prog 42 9 (.vsl 0 true [byteA m]) H = some (.str [m],H):=by
  intro m H; simp [evConv,Tryz.underlying9,Tryz.underlying42,Tryz.underlying5,unbyte,byteA]; have:=m.toNat_lt; omega
 have hx:∀ c:Bool,evIndex Tryz.prog 9 (.str [59,44]) (.int .i64 (if c then 1 else 0)) = some (.int .u8 (mk c).toNat):=by
  intro c; cases c
  ·exact xi9 (n:=0) rfl
  ·exact xi9 (n:=1) rfl
 have hi0:∀ H,evIndexAddr Tryz.prog 38 (.vsl 0 false [.str e,.str f]) (.int .i64 0) H = some (.vptr [.str e]):=fun H=>iv38 (n:=0) (v:=.str e) rfl rfl H
 have hi1:∀ H,evIndexAddr Tryz.prog 38 (.vsl 0 false [.str e,.str f]) (.int .i64 1) H = some (.vptr [.str f]):=fun H=>iv38 (n:=1) (v:=.str f) rfl rfl H
 refine PureFn.of Tryz.func10 rfl (enters_call enters Tryz.func10 rfl) (by simp [Tryz.ntmps10]) ?_
 show W Tryz.prog 103 0 none _ _ _
 refine W.vc (by decide) ?_
 repeat' (first | (simp (disch:=first | omega | (simp only [List.length_append,List.length_cons,List.length_nil,List.length_map,List.length_set]; omega)) only [VC_skip,VC_seq,VC_cond,VC_block,VC_region,VC_loop,VI_false,VO_nil,VO_plain,VO_guard,VG_true,VV_some,VS,ofV_bool,ofV_int,deN_str,gdA,callOf,isPanic,nextOf,altA,evalOp,ev_tmp,ev_const,ev_func,Av.get,St.put,argT,thenQ,Nat.reduceEqDiff,↓reduceIte,List.map_cons,List.map_nil,List.nil_append,List.append_nil,List.getElem?_cons_zero,List.getElem?_cons_succ,List.getElem?_toArray,Option.map_some,Option.bind_some,Bool.not_true,pickA,cond_false,Nat.zero_add,b_gtr,s_neq,decide_eq_false,ls9,beq_self_eq_true]) | (guard_target =~ VCall _ _ _ _ _ _ _; refine VCall.pure (by first | with_reducible exact e1 | with_reducible exact e2 | with_reducible exact e3 | with_reducible exact u1 | with_reducible exact u2 | with_reducible exact u3) (by (first | rfl | (simp only [AV.hfs,AV.hf,Bool.and_self,Bool.and_true,Bool.true_and,strs_hfs]))) ?_) | (guard_target =~ DCal _ _ _ _ _ _ _; refine DCal.pure (by first | with_reducible exact e1 | with_reducible exact e2 | with_reducible exact e3 | with_reducible exact u1 | with_reducible exact u2 | with_reducible exact u3) (by (first | rfl | (simp only [AV.hfs,AV.hf,Bool.and_self,Bool.and_true,Bool.true_and,strs_hfs]))) ?_))
 refine W.loopT (X:=Nat) (fun i=>[(7,.int .i64 (i:Int)),(5,.str e),(6,.str f),(0,.str s),(1,.str t)]) (fun _=>[]) (fun i=>i≤2) (fun i=>2 - i) 0 (Nat.zero_le _) ⟨rfl,rfl,rfl,rfl,rfl,trivial⟩ rfl ?_
 intro i hi
 refine .vc (by decide) ?_
 by_cases h:i < 2
 ·obtain ⟨c,hc⟩:∃ c:Bool,c = decide (i = 0):=⟨_,rfl⟩
  have hp1:=p1 c
  have hp2:=p2 c
  have hp3:=p3 (!c)
  have hpl:=hPl c
  have hx:=hx (!c)
  have had1:=had1 (mk !c)
  have had2:=had2 (mk !c)
  have hbb:=hbb (mk !c)
  have hcv:=hcv (mk !c)
  have hcE:evBin Tryz.prog .eql 3 (.int .i64 (i:Int)) (.int .i64 0) = some (.bool c):=by
   rw [b_eql,hc]
   match i,h with
   | 0,_=>rfl
   | 1,_=>rfl
  have hcF:evBin Tryz.prog .eql 3 (.int .i64 (i:Int)) (.int .i64 1) = some (.bool (!c)):=by
   rw [b_eql,hc]
   match i,h with
   | 0,_=>rfl
   | 1,_=>rfl
  have hxm:evIndex Tryz.prog 9 (.str [59,44]) (.int .i64 (i:Int)) = some (.int .u8 (mk !c).toNat):=by
   rw [← hx,hc]
   match i,h with
   | 0,_=>rfl
   | 1,_=>rfl
  generalize PB c = L at *
  generalize mk (!c) = m at *
  generalize (!c) = d at *
  repeat' (first | (simp (disch:=first | omega | (simp only [List.length_append,List.length_cons,List.length_nil,List.length_map,List.length_set]; omega)) only [VC_skip,VC_seq,VC_cond,VC_block,VC_region,VC_loop,VI_true,VI_false,VO_nil,VO_plain,VV_some,VS,List.length_map,ofV_int,deN_vsl,callOf,isPanic,nextOf,altA,evalOp,ev_tmp,ev_const,ev_func,Av.get,St.put,thenQ,Nat.reduceEqDiff,↓reduceIte,List.map_cons,List.map_nil,List.nil_append,List.append_nil,Option.map_some,b_lss,b_neq,ine_f,decide_eq_true,lv38,hcE]) | (guard_target =~ VCall _ _ _ _ _ _ _; refine VCall.pure (by first | with_reducible exact hp1 | with_reducible exact hp2) (by (first | rfl | (simp only [AV.hfs,AV.hf,Bool.and_self,Bool.and_true,Bool.true_and,strs_hfs,strs_hfs]))) ?_) | (guard_target =~ DCal _ _ _ _ _ _ _; refine DCal.pure (by first | with_reducible exact hp1 | with_reducible exact hp2) (by (first | rfl | (simp only [AV.hfs,AV.hf,Bool.and_self,Bool.and_true,Bool.true_and,strs_hfs,strs_hfs]))) ?_))
  refine W.loopT (X:=Nat) (fun k=>[(10,.int .i64 (k:Int)),(8,.vsl 0 false (L.map .str)),(9,.vsl 0 false (L.map .str)),(7,.int .i64 (i:Int)),(5,.str e),(6,.str f),(0,.str s),(1,.str t)]) (fun _=>[]) (fun k=>k≤L.length) (fun k=>L.length - k) 0 (Nat.zero_le _) ⟨rfl,rfl,rfl,rfl,rfl,rfl,rfl,rfl,trivial⟩ rfl ?_
  intro k hkk
  refine .vc (by decide) ?_
  by_cases hl:k < L.length
  ·obtain ⟨u,hu,_⟩:=drop_at hl
   have hia:∀ H,evIndexAddr Tryz.prog 38 (.vsl 0 false (L.map .str)) (.int .i64 (k:Int)) H = some (.vptr [.str u]):=fun H=>iv38 (v:=.str u) (by simp [hu]) rfl H
   repeat' (first | (simp (disch:=first | omega | (simp only [List.length_append,List.length_cons,List.length_nil,List.length_map,List.length_set]; omega)) only [VC_skip,VC_seq,VC_cond,VC_block,VC_region,VC_drawn,VI_true,VO_nil,VO_plain,VV_some,VS,List.length_map,deN_vsl,callOf,isPanic,nextOf,altA,evalOp,ev_tmp,Av.get,St.put,thenQ,Nat.reduceEqDiff,↓reduceIte,Option.map_some,b_lss,decide_eq_true,lv38]))
   refine W.drawN [] [false,false,false,false,false,false,false,false,false] [] mixed (by kernel_rfl) (by kernel_rfl) (by kernel_rfl) ?_
   repeat' (first | (simp (disch:=first | omega | (simp only [List.length_append,List.length_cons,List.length_nil,List.length_map,List.length_set]; omega)) only [VC_skip,VC_cond,VC_region,VI_false,VO_nil,VO_plain,VV_some,VS,blockQ,DT_nil,DT_plain,DS,cHs_f,cHs_n,cPs,lastS_1,lastS_2,ofV_int,callOf,isPanic,nextOf,altA,evalOp,ev_tmp,ev_const,Av.get,St.put,thenQ,Nat.reduceEqDiff,↓reduceIte,List.nil_append,Option.map_some,Bool.not_true,and_self,true_and,and_true,List.cons_append,b_add64,s_neq,castS,lw9,hia,beq_self_eq_true]))
   exact ⟨k + 1,by omega,by omega,⟨rfl,rfl,rfl,rfl,rfl,rfl,rfl,rfl,trivial⟩⟩
  ·have e0:k = L.length:=by omega
   subst e0
   repeat' (first | (simp (disch:=first | omega | (simp only [List.length_append,List.length_cons,List.length_nil,List.length_map,List.length_set]; omega)) only [VC_skip,VC_seq,VC_cond,VC_exit,VC_region,VI_false,VO_nil,VO_plain,VO_guard,VG_true,VV_some,VS,blockQ,List.length_map,ofV_bool,ofV_int,ofV_lit,deN_vsl,gdA,callOf,isPanic,nextOf,altA,evalOp,ev_tmp,ev_const,ev_func,Av.get,St.put,thenQ,Nat.reduceEqDiff,↓reduceIte,List.map_cons,List.map_nil,List.nil_append,List.append_nil,List.getElem?_cons_zero,List.getElem?_cons_succ,List.getElem?_toArray,Option.map_some,Option.bind_some,Bool.not_true,pickA,cond_false,List.length_cons,List.length_nil,Nat.reduceAdd,and_self,and_true,Nat.zero_add,b_lss,b_neq,b_add64,s_neq,ine_f,castS,decide_eq_false,lw9,lv38,hxm,hbb,hcv,had1,had2,hcF,hi0,hi1,beq_self_eq_true]) | (guard_target =~ VCall _ _ _ _ _ _ _; refine VCall.pure (by first | with_reducible exact hp3) (by (first | rfl | (simp only [AV.hfs,AV.hf,Bool.and_self,Bool.and_true,Bool.true_and,strs_hfs]))) ?_) | (guard_target =~ DCal _ _ _ _ _ _ _; refine DCal.pure (by first | with_reducible exact hp3) (by (first | rfl | (simp only [AV.hfs,AV.hf,Bool.and_self,Bool.and_true,Bool.true_and,strs_hfs]))) ?_))
   exact ⟨i + 1,by omega,by omega,⟨rfl,rfl,rfl,rfl,rfl,trivial⟩⟩
 ·have e:i = 2:=by omega
  subst e
  repeat' (first | (simp (disch:=first | omega | (simp only [List.length_append,List.length_cons,List.length_nil,List.length_map,List.length_set]; omega)) only [VC_seq,VC_cond,VC_exit,VC_ret,VC_region,VI_false,VO_nil,VO_plain,VV_some,VS,blockQ,ofV_int,callOf,isPanic,nextOf,altA,evalOp,ev_tmp,ev_const,ev_func,Av.get,St.put,thenQ,↓reduceIte,List.map_nil,List.append_nil,Nat.reduceSub,b_lss,decide_eq_false]) | (guard_target =~ VCall _ _ _ _ _ _ _; refine VCall.pure (by first | with_reducible exact hk) (by (first | rfl | (simp only [AV.hfs,AV.hf,Bool.and_self,Bool.and_true,Bool.true_and,strs_hfs]))) ?_) | (guard_target =~ DCal _ _ _ _ _ _ _; refine DCal.pure (by first | with_reducible exact hk) (by (first | rfl | (simp only [AV.hfs,AV.hf,Bool.and_self,Bool.and_true,Bool.true_and,strs_hfs]))) ?_))
  exact ⟨_,rfl,_,rfl,.refl _⟩
end Go.Proofs.YtjlhemfmeboadaaGreatDoor
namespace Go.Proofs.YtjlhemfmeboadaaGreatDoor
set_option linter.unusedVariables false
set_option linter.unusedSimpArgs false
open Go Go.Av Go.ChangeShapes Go.WideShapes Go.ChangeAt Go.RowKit

section
variable {H:Type} {enc:TypeId × Value→H} {w:World} {base:Nat} {sp:Nat→Bool} {held:Bool}
set_option maxRecDepth 100000 in
theorem open_text {v : Value} {d : DataW H} {ps : List MemPlace} {r : Reach} {b0 : Nat} (hval : Value.okWide Tryz.prog w r b0 9 v) (hd : DataW.Trod enc Tryz.prog w base sp held 9 v d ps) :
    ∃ s : Bytes, VR (allF w) w noμ (.str s) v := by
  obtain ⟨b, rfl, _⟩ := Go.ChangeMaps.open_string Tryz.underlying9 hval hd
  obtain ⟨fuel, hf⟩ := hd
  obtain ⟨u, ⟨s, rfl⟩, hu⟩ := opens_str (enc := enc) Tryz.underlying9 fuel _ _ hf
  have hu' : VRs (allF w) w noμ [.str s] [.string b] := hu
  cases hu' with
  | cons _ _ _ _ g _ => exact ⟨s, g⟩
end

theorem calls_of_pure {P : Program} {f : FuncId} {fn : Func} {c : Code} {args : List AV} {Vs : List Value} {r : AV} {V : Value} (hN : Go.Av.Enters P) (hf : P.funcs[f]? = some fn) (hb : fn.body = some c) (w : World) (hp : PureFn P f args (.ret r))
    (hv : VRs (allF w) w noμ args Vs) (hr : ∀ F' w' R, VR F' w' noμ r R → R = V) : Calls P f Vs.toArray w fun e w' => e = .returned V ∧ Below w.heap.size w w' := by
  rcases hp (allF w) w Vs (fun b o h => h) hv with ⟨w1, h1, rfl, h2⟩ | ⟨V', w1, h1, h2⟩
  · refine h2.mono ?_
    rintro e w' ⟨hbl, F', _, _, _, ho⟩
    cases ho with
    | ret _ R h => exact ⟨by rw [hr _ _ _ h], hbl⟩
  · rw [enters_call hN hf hb] at h1; cases h1

theorem post_same {H : Type} {enc : TypeId × Value → H} {P : Program} {f : Func} {s : ChangeSpec} {apart fresh handsOn again : Bool} {W W' : World} {args : Array Value} {v : Value} {ds gs : List (DataW H)} {before pa pv : List MemPlace}
    (hW : DataW.Whole enc P f.params.toList s.vars apart W args.toList ds gs before)
    (hres : ∀ (b : Nat) (sp : Nat → Bool) (hd : Bool), DataW.TrodAll enc P W' b sp hd f.resultTypes.toList (v.resultList f.resultTypes.size) (s.fn H (ds ++ gs)).results [])
    (hargs : ∀ sp : Nat → Bool, (∀ p ∈ before, sp p.block = true) → DataW.TrodAll enc P W' 0 sp true f.params.toList args.toList (s.fn H (ds ++ gs)).args pa)
    (hvars : ∀ sp : Nat → Bool, (∀ p ∈ before, sp p.block = true) → DataW.TrodVars enc P W' sp s.vars (s.fn H (ds ++ gs)).vars pv)
    (hps : before = pa ++ pv) (hbl : Below W.heap.size W W')
    (hok : ∀ (j : Nat) (t : TypeId) (r : Value), f.resultTypes[j]? = some t → (v.resultList f.resultTypes.size)[j]? = some r → Value.okWide P W' .any 0 t r) :
    s.post enc P f apart fresh handsOn again W args v W' := by
  have hlt : ∀ p ∈ before, p.block < W.heap.size := fun p hp => hW.lt p hp
  refine ⟨ds, gs, before, [], pa, pv, hW, hres _ _ _, hargs (fun b => decide (b < W.heap.size)) (fun p hp => by simpa using hlt p hp), hvars (fun b => decide (b < W.heap.size)) (fun p hp => by simpa using hlt p hp), ?_, fun _ => ?_⟩
  · refine World.keptBut_mono (fun p hp => ⟨hp, ?_⟩) (hbl.frame (· ∈ before))
    rw [hps, List.mem_append] at hp
    exact Or.inr hp
  · obtain ⟨_, _, _, _, _, hz, hn⟩ := hW
    refine ⟨hok, _, _, ([] ++ pa) ++ pv, ⟨[] ++ pa, pv, trodAll_append (hargs _ (fun _ _ => rfl)) (hres _ _ _), hvars _ (fun _ _ => rfl), rfl, ?_, ?_⟩, ?_⟩
    · intro b off hp
      have hb : MemPlace.cell b off ∈ before := by rw [hps]; simpa using hp
      rw [hbl.frozen (hlt _ hb)]
      exact hz b off hb
    · intro ha
      have := hn ha
      rw [hps] at this
      simpa using this
    · intro p hp _
      rw [hps]
      simpa using hp
theorem laidAll:laidOutB Tryz.prog = true:=by kernel_rfl
theorem stays {H : Type} {enc : TypeId × Value → H} {t : TypeId} (hr : Tryz.prog.readableRec t = true) (hrow : t < Tryz.prog.types.size) {W W' : World} {v : Value} {d : DataW H} {ps : List MemPlace}
    (h : DataW.Trod enc Tryz.prog W 0 (fun _ => true) true t v d ps) (hb : Below W.heap.size W W') (hlt : ∀ x ∈ ps, x.block < W.heap.size) (sp' : Nat → Bool) (hsp : ∀ x ∈ ps, sp' x.block = true) : DataW.Trod enc Tryz.prog W' 0 sp' true t v d ps :=
  WideElems.Trod_stays laidAll hr hrow h (fun x hx => hb.same (hlt x hx)) hsp

end Go.Proofs.YtjlhemfmeboadaaGreatDoor
