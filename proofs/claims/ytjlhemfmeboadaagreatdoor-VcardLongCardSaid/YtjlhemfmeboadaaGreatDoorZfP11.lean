/- Contracts of functions that the statements of this seat reach: under the conditions named at each theorem. -/
import Derived.Test.YtjlhemfmeboadaaGreatDoorZfP10
namespace Go.Proofs.YtjlhemfmeboadaaGreatDoor
set_option linter.unusedVariables false
set_option linter.unusedSimpArgs false
open Go Go.Av Go.RowKit

def kbegin:Bytes:=[98,101,103,105,110,58,118,99,97,114,100]
def kend:Bytes:=[101,110,100,58,118,99,97,114,100]
def cd0:Cd:=⟨[],false,[]⟩
def stepP (c:Cd) (s:Bytes):Option Cd:=match lnR s with
 | none=>none
 | some l=>if l.n = sVersion then (if c.ver = []∧l.g = []∧l.ps = []∧version l.v = true then some { c with ver:=l.v } else none)
  else if lineB l = true then some { c with ls:=c.ls++[l] } else none
def runP:Cd→List Bytes→Option Cd
 | c,[]=>some c
 | c,s::r=>(stepP c s).bind fun d=>runP d r
def midP (s:Bytes):List Bytes:=((linesR s).drop 1).take ((linesR s).length - 2)
def headP (s:Bytes):Bool:=decide (3≤(linesR s).length) && (hasS (unf s) [10] && ((small ((linesR s).getD 0 []) == kbegin) && (small ((linesR s).getD ((linesR s).length - 1) []) == kend)))
def parseM (s:Bytes):Option Cd:=if headP s = true then (runP cd0 (midP s)).bind (fun c=>if checkC c = 0 then some c else none) else none
def parseO (s:Bytes):Cd × Nat:=if s.length > 16000 then (cd0,3) else match parseM s with | some c=>(c,0) | none=>(cd0,250)
def outP (o:Cd × Nat):Out:=.ret (.tup [encCd o.1,.int .i64 o.2])
theorem linesF_le:∀ (n:Nat) (s x:Bytes),x ∈ linesF n s→x.length≤s.length
 | 0,s,x,h=>by simp [linesF] at h
 | n + 1,s,x,h=>by
  rw [linesF] at h
  split at h
  ·simp at h
  ·simp only [List.mem_cons] at h
   rcases h with h | h
   ·have h1:=cutB_len1 s 10
    rw [h]
    split
    ·unfold trimS; split
     ·simp only [List.length_take]; omega
     ·exact h1
    ·exact h1
   ·have:=linesF_le n _ x h
    have h2:=cutB_len s 10
    omega
theorem linesR_le {s x:Bytes} (h:x ∈ linesR s):x.length≤s.length:=by
 have:=linesF_le _ _ _ h
 have:=unf_le s
 omega
theorem linesF_len:∀ (n:Nat) (s:Bytes),(linesF n s).length≤s.length
 | 0,s=>by simp [linesF]
 | n + 1,s=>by
  rw [linesF]
  split
  ·simp
  ·rename_i h
   have h1:=linesF_len n (cutB s 10).2.1
   have h2:=cutB_lt (c:=10) h
   simp only [List.length_cons]; omega
theorem linesR_len (s:Bytes):(linesR s).length≤s.length:=by
 have h1:=linesF_len ((unf s).length + 1) (unf s)
 have h2:=unf_le s
 unfold linesR linesU; omega
def dP:List DE:=[.call (.func 37) [.ptr 0 0,.ptr 1 0] []]
def pV (k:Nat) (z:Bool) (L:List Ln):AV:=if z then .sl (2 + k) 0 L.length 5 else .nilsl
def pB (ver:Bytes) (v:AV):List OB:=[.cells [.str ver,v] false,.cells [.int .i64 0] false]
theorem pV_deN {k:Nat} {z:Bool} {L:List Ln} (h:z = false→L = []):deN (pV k z L) = memV 2 0 5 encLn k z L:=by
 cases z
 ·rw [h rfl]; rfl
 ·rfl
theorem pV_hlt {k m:Nat} {z:Bool} {L:List Ln} (h:z = true→2 + k < m):(pV k z L).hlt m = true:=by
 cases z
 ·rfl
 ·simp [pV,AV.hlt,h rfl]
theorem encLnc_hlts (m:Nat) (l:Ln):AV.hlts m (encLn l).cells = true:=by simp [encLn,AV.cells,AV.hlts,AV.hlt,encR_hlts]
theorem pB_hlt {ver:Bytes} {v:AV} {m:Nat} (hv:v.hlt m = true):(pB ver v).all (OB.hlt m) = true:=by
 simp [pB,OB.hlt,AV.hlts,AV.hlt,hv]
theorem pM_ok {ver:Bytes} {k j:Nat} {z:Bool} {L:List Ln}:okH (mem (pB ver (pV k z L)) encLn k j z L):=fun m hm=>by
 refine mem_hlt (pB_hlt (pV_hlt fun hz=>?_)) (encLnc_hlts m)
 rw [mem_len,hz] at hm
 simp [pB] at hm; omega
theorem panP {T : List (Nat × AV)} {H : List OB} {a b c : AV} (hok : okH H) (h0 : H[0]? = some (.cells [a, b] false)) (h1 : H[1]? = some (.cells [c] false)) (t2 : Av.get T 2 = .ptr 0 0) (t3 : Av.get T 3 = .ptr 1 0) :
    lvQ Tryz.prog (retPK Tryz.prog Tryz.f16.results.toList (outP (cd0, 250))) (.panic 58 (.agg [])) ⟨T, H, dP⟩ := by
  have l1 : 1 < H.length := (List.getElem?_eq_some_iff.1 h1).1
  refine ⟨.ret, _, recT hok h0 h1, retPcc 2 24 3 27 rfl (v1 := .agg [.str [], .nilsl]) (v2 := .int .i64 250) ?_ ?_ ?_⟩
  · simp only [t2]
    rw [ld24]
    simp only [ldG]
    rw [List.getElem?_set_ne (by decide), List.getElem?_set_self (by omega)]
    rfl
  · simp only [t3]
    rw [ld27]
    simp only [ldC]
    rw [List.getElem?_set_self (by rw [List.length_set]; omega)]
    rfl
  · exact ⟨fz_aggL (k := 17) (ts := [.str [], .vsl 5 false []]) (LzL_hf rfl ⟨⟨_, rfl, .nils _ _⟩, trivial⟩), LzL_hf rfl trivial⟩

set_option maxRecDepth 8000 in
theorem parseV (s:Bytes) (hs:s.length≤1000000):PureFn Tryz.prog 16 [.str s] (outP (parseO s)):=by
 refine PureFn.ofD Tryz.func16 rfl (enters_call enters Tryz.func16 rfl) (by simp [Tryz.ntmps16]) ?_
 show W Tryz.prog 94 0 none _ _ _
 refine .seq (.vc (by decide) ?_)
 repeat' (first | (simp (disch:=first | omega | (simp only [List.length_append,List.length_cons,List.length_nil,List.length_map,List.length_set]; omega)) only [VC_region,VO_nil,VO_plain,VV_some,VS,callOf,isPanic,nextOf,altA,evalOp,St.put,argT,thenQ,List.nil_append,Option.map_some,cl_int,cl_agg,List.length_cons,List.length_nil,Nat.zero_add,List.cons_append,zz24,zz27]))
 by_cases q0:s.length > 16000
 ·have e:parseO s = (cd0,3):=by simp only [parseO,if_pos q0]
  rw [e]
  refine .vc (by decide) ?_
  repeat' (first | (simp (disch:=first | omega | (simp only [List.length_append,List.length_cons,List.length_nil,List.length_map,List.length_set]; omega)) only [VC_seq,VC_cond,VC_ret,VC_region,VI_true,VO_nil,VO_plain,VV_some,VS,ofV_int,deN_str,callOf,isPanic,nextOf,altA,evalOp,ev_tmp,ev_const,Av.get,St.put,thenQ,Nat.reduceEqDiff,↓reduceIte,Bool.and_self,List.getElem?_cons_zero,List.getElem?_cons_succ,Option.map_some,ldG,stC,cl_int,ic_int,ic_str,ic_nilsl,cl_agg,setC,List.set_cons_zero,List.set_cons_succ,List.length_cons,List.length_nil,Nat.reduceAdd,List.all_cons,List.all_nil,and_self,Nat.zero_add,List.drop_zero,List.take_succ_cons,List.take_zero,Nat.le_refl,b_gtr,decide_eq_true,ls9,st24,ld24,st27]))
  refine retPcc 2 24 3 27 rfl (v1:=.agg [.str [],.nilsl]) (v2:=.int .i64 3) ?_ ?_ ?_
  ·simp (disch:=first | omega | (simp only [List.length_append,List.length_cons,List.length_nil,List.length_map,List.length_set]; omega)) only [Av.get,Nat.reduceEqDiff,↓reduceIte,List.getElem?_cons_zero,ldG,List.length_cons,List.length_nil,Nat.reduceAdd,Nat.zero_add,List.drop_zero,List.take_succ_cons,List.take_zero,Nat.le_refl,ld24]
  ·simp (disch:=first | omega | (simp only [List.length_append,List.length_cons,List.length_nil,List.length_map,List.length_set]; omega)) only [Av.get,Nat.reduceEqDiff,↓reduceIte,List.getElem?_cons_zero,List.getElem?_cons_succ,ldC,ld27]
  ·exact ⟨fz_aggL (k:=17) (ts:=[.str [],.vsl 5 false []]) (LzL_hf rfl ⟨⟨_,rfl,.nils _ _⟩,trivial⟩),LzL_hf rfl trivial⟩
 refine .seq (.vc (by decide) ?_)
 repeat' (first | (simp (disch:=first | omega | (simp only [List.length_append,List.length_cons,List.length_nil,List.length_map,List.length_set]; omega)) only [VC_skip,VC_seq,VC_cond,VC_region,VI_false,VO_nil,VO_plain,VV_some,VS,ofV_int,deN_str,callOf,isPanic,nextOf,altA,evalOp,ev_tmp,ev_const,Av.get,St.put,thenQ,Nat.reduceEqDiff,↓reduceIte,Option.map_some,b_gtr,decide_eq_false,ls9]))
 refine .seq (W.deferR [_] _ _ [] rfl rfl rfl rfl (by decide) ?_)
 simp only [EOps,gdA,callOf,isPanic,nextOf,altA,evalOp,St.ev,Av.get,St.put,thenQ,Nat.reduceEqDiff,↓reduceIte,List.map_cons,List.map_nil,List.append_nil,deferQ,deferOf]
 refine ⟨_,rfl,?_⟩
 have hun:=unfoldV s hs
 have huf:=unfolded40 s hs
 have hull:=unf_le s
 have hsf:=suffix39 (unf s) [10] (by omega)
 obtain ⟨all,hall⟩:∃ all,all = linesR s:=⟨_,rfl⟩
 have hal:all.length≤1000000:=by have:=linesR_len s; rw [← hall] at this; omega
 have hae:∀ x ∈ all,x.length≤1000000:=by intro x hx; rw [hall] at hx; have:=linesR_le hx; omega
 rw [← hall] at hun
 have hok0:okH [.cells [.str [],.nilsl] false,.cells [.int .i64 0] false]:=fun m _=>rfl
 have bad:∀ T,Av.get T 2 = .ptr 0 0→Av.get T 3 = .ptr 1 0→parseM s = none→lvQ Tryz.prog (retPK Tryz.prog Tryz.f16.results.toList (outP (parseO s))) (.panic 58 (.agg [])) ⟨T,[.cells [.str [],.nilsl] false,.cells [.int .i64 0] false],dP⟩:=by
  intro T h2 h3 hn
  have e:parseO s = (cd0,250):=by simp only [parseO,if_neg q0,hn]
  rw [e]
  exact panP hok0 rfl rfl h2 h3
 have hnot:headP s = false→parseM s = none:=fun h=>by simp [parseM,h]
 by_cases q1:3≤all.length
 case neg=>
  refine .vc (by decide) ?_
  repeat' (first | (simp (disch:=first | omega | (simp only [List.length_append,List.length_cons,List.length_nil,List.length_map,List.length_set]; omega)) only [VC_seq,VC_region,VO_nil,VO_plain,VO_guard,VG_false,VV_some,VS,List.length_map,ofV_bool,ofV_int,deN_vsl,gdA,callOf,isPanic,nextOf,altA,evalOp,ev_tmp,ev_const,ev_func,Av.get,St.put,thenQ,Nat.reduceEqDiff,↓reduceIte,List.map_cons,List.map_nil,List.nil_append,List.append_nil,List.getElem?_cons_zero,List.getElem?_cons_succ,List.getElem?_toArray,Option.map_some,Option.bind_some,beq_true,Bool.false_eq_true,pickA,b_geq,decide_eq_false,lv38]) | (guard_target =~ VCall _ _ _ _ _ _ _; refine VCall.pure (by first | with_reducible exact hun) (by (first | rfl | (simp only [AV.hfs,AV.hf,Bool.and_self,Bool.and_true,Bool.true_and,strs_hfs,strs_hfs]))) ?_) | (guard_target =~ DCal _ _ _ _ _ _ _; refine DCal.pure (by first | with_reducible exact hun) (by (first | rfl | (simp only [AV.hfs,AV.hf,Bool.and_self,Bool.and_true,Bool.true_and,strs_hfs,strs_hfs]))) ?_))
  refine VCall.pan mustF rfl (bad _ (by rfl) (by rfl) (hnot ?_))
  simp [headP,← hall,q1]
 by_cases q2:hasS (unf s) [10] = true
 case neg=>
  have q2:hasS (unf s) [10] = false:=by simpa using q2
  rw [q2] at hsf
  refine .vc (by decide) ?_
  repeat' (first | (simp (disch:=first | omega | (simp only [List.length_append,List.length_cons,List.length_nil,List.length_map,List.length_set]; omega)) only [VC_seq,VC_region,VO_nil,VO_plain,VO_guard,VG_true,VG_false,VV_some,VS,List.length_map,ofV_bool,ofV_int,ofV_lit,deN_vsl,gdA,callOf,isPanic,nextOf,altA,evalOp,ev_tmp,ev_const,ev_func,Av.get,St.put,thenQ,Nat.reduceEqDiff,↓reduceIte,List.map_cons,List.map_nil,List.nil_append,List.append_nil,List.getElem?_cons_zero,List.getElem?_cons_succ,List.getElem?_toArray,Option.map_some,Option.bind_some,beq_true,Bool.false_eq_true,pickA,cond_true,b_geq,decide_eq_true,lv38]) | (guard_target =~ VCall _ _ _ _ _ _ _; refine VCall.pure (by first | with_reducible exact hun | with_reducible exact huf | with_reducible exact hsf) (by (first | rfl | (simp only [AV.hfs,AV.hf,Bool.and_self,Bool.and_true,Bool.true_and,strs_hfs,strs_hfs]))) ?_) | (guard_target =~ DCal _ _ _ _ _ _ _; refine DCal.pure (by first | with_reducible exact hun | with_reducible exact huf | with_reducible exact hsf) (by (first | rfl | (simp only [AV.hfs,AV.hf,Bool.and_self,Bool.and_true,Bool.true_and,strs_hfs,strs_hfs]))) ?_))
  refine VCall.pan mustF rfl (bad _ (by rfl) (by rfl) (hnot ?_))
  simp [headP,q2]
 rw [q2] at hsf
 have hne:all ≠ []:=by intro h; rw [h] at q1; simp at q1
 obtain ⟨a0,ha0⟩:∃ a0,all[0]? = some a0:=⟨_,List.getElem?_eq_getElem (by omega)⟩
 obtain ⟨a1,ha1⟩:∃ a1,all[all.length - 1]? = some a1:=⟨_,List.getElem?_eq_getElem (by omega)⟩
 have hd0:all.getD 0 [] = a0:=by simp [List.getD,ha0]
 have hd1:all.getD (all.length - 1) [] = a1:=by simp [List.getD,ha1]
 have hi0:∀ H,evIndexAddr Tryz.prog 38 (.vsl 0 false (all.map .str)) (.int .i64 0) H = some (.vptr [.str a0]):=fun H=>iv38 (n:=0) (v:=.str a0) (by simp [ha0]) rfl H
 have hi1:∀ H,evIndexAddr Tryz.prog 38 (.vsl 0 false (all.map .str)) (.int .i64 ((all.length:Int) - 1)) H = some (.vptr [.str a1]):=by
  intro H
  have:((all.length:Int) - 1) = ((all.length - 1:Nat):Int):=by omega
  rw [this]
  exact iv38 (v:=.str a1) (by simp [ha1]) rfl H
 have hs0:=smallD a0
 have hs1:=smallD a1
 by_cases q3:small a0 = kbegin
 case neg=>
  have e3:(small a0 == kbegin) = false:=by simpa using q3
  have e3q:=e3
  simp only [kbegin] at e3
  refine .vc (by decide) ?_
  repeat' (first | (simp (disch:=first | omega | (simp only [List.length_append,List.length_cons,List.length_nil,List.length_map,List.length_set]; omega)) only [VC_seq,VC_region,VO_nil,VO_plain,VO_guard,VG_true,VG_false,VV_some,VS,List.length_map,ofV_bool,ofV_int,ofV_lit,deN_vsl,gdA,callOf,isPanic,nextOf,altA,evalOp,ev_tmp,ev_const,ev_func,Av.get,St.put,thenQ,Nat.reduceEqDiff,↓reduceIte,List.map_cons,List.map_nil,List.nil_append,List.append_nil,List.getElem?_cons_zero,List.getElem?_cons_succ,List.getElem?_toArray,Option.map_some,Option.bind_some,beq_true,Bool.false_eq_true,pickA,cond_true,b_geq,s_eql,decide_eq_true,lw9,lv38,hi0,e3]) | (guard_target =~ VCall _ _ _ _ _ _ _; refine VCall.pure (by first | with_reducible exact hun | with_reducible exact huf | with_reducible exact hsf | with_reducible exact hs0) (by (first | rfl | (simp only [AV.hfs,AV.hf,Bool.and_self,Bool.and_true,Bool.true_and,strs_hfs,strs_hfs]))) ?_) | (guard_target =~ DCal _ _ _ _ _ _ _; refine DCal.pure (by first | with_reducible exact hun | with_reducible exact huf | with_reducible exact hsf | with_reducible exact hs0) (by (first | rfl | (simp only [AV.hfs,AV.hf,Bool.and_self,Bool.and_true,Bool.true_and,strs_hfs,strs_hfs]))) ?_))
  refine VCall.pan mustF rfl (bad _ (by rfl) (by rfl) (hnot ?_))
  simp only [headP,← hall,hd0,e3q,Bool.false_and,Bool.and_false]
 have e3:(small a0 == kbegin) = true:=by simp [q3]
 have e3q:=e3
 simp only [kbegin] at e3
 by_cases q4:small a1 = kend
 case neg=>
  have e4:(small a1 == kend) = false:=by simpa using q4
  have e4q:=e4
  simp only [kend] at e4
  refine .vc (by decide) ?_
  repeat' (first | (simp (disch:=first | omega | (simp only [List.length_append,List.length_cons,List.length_nil,List.length_map,List.length_set]; omega)) only [VC_seq,VC_region,VO_nil,VO_plain,VO_guard,VG_true,VV_some,VS,List.length_map,ofV_bool,ofV_int,ofV_lit,deN_vsl,gdA,callOf,isPanic,nextOf,altA,evalOp,ev_tmp,ev_const,ev_func,Av.get,St.put,thenQ,Nat.reduceEqDiff,↓reduceIte,List.map_cons,List.map_nil,List.nil_append,List.append_nil,List.getElem?_cons_zero,List.getElem?_cons_succ,List.getElem?_toArray,Option.map_some,Option.bind_some,beq_true,pickA,cond_true,b_geq,b_sub64,s_eql,decide_eq_true,lw9,lv38,hi0,hi1,e3,e4]) | (guard_target =~ VCall _ _ _ _ _ _ _; refine VCall.pure (by first | with_reducible exact hun | with_reducible exact huf | with_reducible exact hsf | with_reducible exact hs0 | with_reducible exact hs1) (by (first | rfl | (simp only [AV.hfs,AV.hf,Bool.and_self,Bool.and_true,Bool.true_and,strs_hfs,strs_hfs]))) ?_) | (guard_target =~ DCal _ _ _ _ _ _ _; refine DCal.pure (by first | with_reducible exact hun | with_reducible exact huf | with_reducible exact hsf | with_reducible exact hs0 | with_reducible exact hs1) (by (first | rfl | (simp only [AV.hfs,AV.hf,Bool.and_self,Bool.and_true,Bool.true_and,strs_hfs,strs_hfs]))) ?_))
  refine VCall.pan mustF rfl (bad _ (by rfl) (by rfl) (hnot ?_))
  simp only [headP,← hall,hd1,e4q,Bool.false_and,Bool.and_false]
 have e4:(small a1 == kend) = true:=by simp [q4]
 have hhead:headP s = true:=by
  simp only [headP,← hall,hd0,hd1,e3q,e4,q2,Bool.and_true,decide_eq_true_eq]; exact q1
 simp only [kend] at e4
 obtain ⟨mid,hmid⟩:∃ mid,mid = midP s:=⟨_,rfl⟩
 have hml:mid.length = all.length - 2:=by rw [hmid,midP,← hall]; simp; omega
 have hsl:evSlice Tryz.prog 38 (.vsl 0 false (all.map .str)) (some (.int .i64 1)) (some (.int .i64 ((all.length:Int) - 1))) none = some (.vsl 0 false (mid.map .str)):=by
  have h1:idx (.int .i64 1) = some 1:=rfl
  have h2:idx (.int .i64 ((all.length:Int) - 1)) = some (all.length - 1):=by simp [idx]; omega
  simp only [evSlice,Tryz.underlying38,bnds,h1,h2,List.length_map,Option.map_some]
  rw [if_pos (by omega)]
  rw [hmid,midP,← hall,List.map_take,List.map_drop]
  congr 2
 have hpm:parseM s = (runP cd0 mid).bind (fun c=>if checkC c = 0 then some c else none):=by simp only [parseM,hhead,if_true,hmid]
 have hme:∀ x ∈ mid,x.length≤1000000:=by
  intro x hx
  refine hae x ?_
  rw [hmid,midP,← hall] at hx
  exact List.mem_of_mem_drop (List.mem_of_mem_take hx)
 refine .vc (by decide) ?_
 repeat' (first | (simp (disch:=first | omega | (simp only [List.length_append,List.length_cons,List.length_nil,List.length_map,List.length_set]; omega)) only [VC_seq,VC_block,VC_region,VC_loop,VO_nil,VO_plain,VO_guard,VG_true,VV_some,VS,List.length_map,ofV_bool,ofV_int,ofV_lit,deN_vsl,gdA,callOf,isPanic,nextOf,altA,evalOp,ev_tmp,ev_const,ev_func,Av.get,St.put,thenQ,Nat.reduceEqDiff,↓reduceIte,List.map_cons,List.map_nil,List.nil_append,List.append_nil,List.getElem?_cons_zero,List.getElem?_cons_succ,List.getElem?_toArray,Option.map_some,Option.map_none,Option.bind_some,beq_true,pickA,cond_true,b_geq,b_sub64,s_eql,decide_eq_true,lw9,lv38,hi0,hi1,e3,e4,hsl]) | (guard_target =~ VCall _ _ _ _ _ _ _; refine VCall.pure (by first | with_reducible exact hun | with_reducible exact huf | with_reducible exact hsf | with_reducible exact hs0 | with_reducible exact hs1 | with_reducible exact mustT) (by (first | rfl | (simp only [AV.hfs,AV.hf,Bool.and_self,Bool.and_true,Bool.true_and,strs_hfs,strs_hfs]))) ?_) | (guard_target =~ DCal _ _ _ _ _ _ _; refine DCal.pure (by first | with_reducible exact hun | with_reducible exact huf | with_reducible exact hsf | with_reducible exact hs0 | with_reducible exact hs1 | with_reducible exact mustT) (by (first | rfl | (simp only [AV.hfs,AV.hf,Bool.and_self,Bool.and_true,Bool.true_and,strs_hfs,strs_hfs]))) ?_))
 refine W.loopD dP (X:=Nat × Cd × Nat × Nat × Bool) (fun x=>[(47,.int .i64 (x.1:Int)),(46,.int .i64 (mid.length:Int)),(45,.vsl 0 false (mid.map .str)),(2,.ptr 0 0),(3,.ptr 1 0)])
  (fun x=>mem (pB x.2.1.ver (pV x.2.2.1 x.2.2.2.2 x.2.1.ls)) encLn x.2.2.1 x.2.2.2.1 x.2.2.2.2 x.2.1.ls)
  (fun x=>x.1≤mid.length∧runP x.2.1 (mid.drop x.1) = runP cd0 mid∧(x.2.2.2.2 = false→x.2.1.ls = [])∧x.2.1.ls.length≤x.1∧x.2.1.x = false)
  (fun x=>mid.length - x.1) (0,cd0,0,0,false) (fun _=>Nat.zero_le _) ?_ rfl ⟨Nat.zero_le _,rfl,fun _=>rfl,Nat.le_refl _,rfl⟩ ?_ ?_ ?_ ?_
 ·intro x
  have:2≤(mem (pB x.2.1.ver (pV x.2.2.1 x.2.2.2.2 x.2.1.ls)) encLn x.2.2.1 x.2.2.2.1 x.2.2.2.2 x.2.1.ls).length:=by rw [mem_len]; simp [pB]; omega
  simp only [dP,List.all_cons,List.all_nil,DE.hlt,AV.hlts,AV.hlt,Bool.and_true,Bool.and_eq_true,decide_eq_true_eq]
  omega
 ·simp only [subT,Av.get,Nat.reduceEqDiff,↓reduceIte,Le_rfl,nat0,nat1,and_self,true_and,and_true,List.length_map,List.length_nil]
 ·have hfs:AV.hlts (mem (pB cd0.ver (pV 0 false cd0.ls)) encLn 0 0 false cd0.ls).length (mid.map .str) = true:=strs_hlts _ _
  have:2≤(mem (pB cd0.ver (pV 0 false cd0.ls)) encLn 0 0 false cd0.ls).length:=by rw [mem_len]; simp [pB]
  simp only [hltT,AV.hlt,hfs,Bool.and_true,Bool.true_and,Bool.and_eq_true,decide_eq_true_eq]
  omega
 ·simp [mem,pB,pV,cd0,subH,OB.hlt,AV.hlts,AV.hlt]
 rintro ⟨i,⟨ver,cx,ls⟩,k,j,z⟩ ⟨l1,l2,l3,l4,l5⟩
 simp only at l1 l2 l3 l4 l5 ⊢
 subst l5
 obtain ⟨v,hv⟩:∃ v,v = pV k z ls:=⟨_,rfl⟩
 obtain ⟨M,hM⟩:∃ M,M = mem (pB ver (pV k z ls)) encLn k j z ls:=⟨_,rfl⟩
 have hok:okH M:=by rw [hM]; exact pM_ok
 have hM0:M[0]? = some (.cells [.str ver,v] false):=by rw [hM,mem_get (by simp [pB]),hv]; rfl
 have hM1:M[1]? = some (.cells [.int .i64 0] false):=by rw [hM,mem_get (by simp [pB])]; rfl
 have hMl:2≤M.length:=by rw [hM,mem_len]; simp [pB]; omega
 have hvI:v = .nilsl∨∃ a b,v = .sl a 0 b 5:=by rw [hv]; cases z<;>simp [pV]
 have hvC:v.isC = true:=by rcases hvI with h | ⟨a,b,h⟩<;>rw [h]<;>rfl
 have hv1:v.cells = [v]:=by rcases hvI with h | ⟨a,b,h⟩<;>rw [h]<;>rfl
 have hhl:∀ (y:Nat × Cd × Nat × Nat × Bool),hltT (mem (pB y.2.1.ver (pV y.2.2.1 y.2.2.2.2 y.2.1.ls)) encLn y.2.2.1 y.2.2.2.1 y.2.2.2.2 y.2.1.ls).length [(47,.int .i64 (y.1:Int)),(46,.int .i64 (mid.length:Int)),(45,.vsl 0 false (mid.map .str)),(2,.ptr 0 0),(3,.ptr 1 0)] = true:=by
  intro y
  have hfs:AV.hlts (mem (pB y.2.1.ver (pV y.2.2.1 y.2.2.2.2 y.2.1.ls)) encLn y.2.2.1 y.2.2.2.1 y.2.2.2.2 y.2.1.ls).length (mid.map .str) = true:=strs_hlts _ _
  have:2≤(mem (pB y.2.1.ver (pV y.2.2.1 y.2.2.2.2 y.2.1.ls)) encLn y.2.2.1 y.2.2.2.1 y.2.2.2.2 y.2.1.ls).length:=by rw [mem_len]; simp [pB]; omega
  simp only [hltT,AV.hlt,hfs,Bool.and_true,Bool.true_and,Bool.and_eq_true,decide_eq_true_eq]
  omega
 have hfzv:∀ c0 c1,∃ u,fz ((M.set 0 c0).set 1 c1) 18 v = some u∧Le u (.vsl 5 false (ls.map encLn)):=by
  intro c0 c1
  cases z with
  | false=>rw [hv,l3 rfl]; exact ⟨_,rfl,.nils _ _⟩
  | true=>
   rw [hv]
   refine slIn_fz (n:=4) (k:=17) (by decide) (fun x=>⟨[.str x.g,.str x.n,.vsl 3 x.x (x.ps.map encR),.str x.v],rfl,rfl⟩) (fun x=>by simp [encLn,AV.cells,AV.hfs,AV.hf,encR_hfs]) (.inr ⟨2 + k,rfl,?_⟩)
   rw [List.getElem?_set_ne (by omega),List.getElem?_set_ne (by omega),hM]
   exact mem_at (B:=pB ver (pV k true ls))
 have hfzw:∀ c0 c1,∃ u,fz ((M.set 0 c0).set 1 c1) 19 v = some u∧Le u (.vsl 5 false (ls.map encLn)):=by
  intro c0 c1
  cases z with
  | false=>rw [hv,l3 rfl]; exact ⟨_,rfl,.nils _ _⟩
  | true=>
   rw [hv]
   refine slIn_fz (n:=4) (k:=18) (by decide) (fun x=>⟨[.str x.g,.str x.n,.vsl 3 x.x (x.ps.map encR),.str x.v],rfl,rfl⟩) (fun x=>by simp [encLn,AV.cells,AV.hfs,AV.hf,encR_hfs]) (.inr ⟨2 + k,rfl,?_⟩)
   rw [List.getElem?_set_ne (by omega),List.getElem?_set_ne (by omega),hM]
   exact mem_at (B:=pB ver (pV k true ls))
 rw [← hM]
 have pend:∀ T E,(∀ m,M.length + E.length≤m→E.all (OB.hlt m) = true)→parseM s = none→Av.get T 2 = .ptr 0 0→Av.get T 3 = .ptr 1 0→lvQ Tryz.prog (retPK Tryz.prog Tryz.f16.results.toList (outP (parseO s))) (.panic 58 (.agg [])) ⟨T,M++E,dP⟩:=by
  intro T E hE hn h2 h3
  have e:parseO s = (cd0,250):=by simp only [parseO,if_neg q0,hn]
  rw [e]
  exact panP (okH_app hok hE) (get_app hM0) (get_app hM1) h2 h3
 have pend0:∀ T,parseM s = none→Av.get T 2 = .ptr 0 0→Av.get T 3 = .ptr 1 0→lvQ Tryz.prog (retPK Tryz.prog Tryz.f16.results.toList (outP (parseO s))) (.panic 58 (.agg [])) ⟨T,M,dP⟩:=by
  intro T hn h2 h3
  have:=pend T [] (fun _ _=>rfl) hn h2 h3
  rwa [List.append_nil] at this
 by_cases h:i < mid.length
 ·obtain ⟨u,hu,hdrop⟩:=drop_at h
  have hul:=hme u (List.mem_of_getElem? hu)
  have hl:=linedV u hul
  have hia:∀ H,evIndexAddr Tryz.prog 38 (.vsl 0 false (mid.map .str)) (.int .i64 (i:Int)) H = some (.vptr [.str u]):=fun H=>iv38 (v:=.str u) (by simp [hu]) rfl H
  rw [hdrop,runP] at l2
  refine .vc (by decide) ?_
  cases hln:lnR u with
  | none=>
   have hn:parseM s = none:=by rw [hpm,← l2]; simp [stepP,hln]
   rw [hln] at hl
   simp only [lnOut,stopA] at hl
   repeat' (first | (simp (disch:=first | omega | (simp only [List.length_append,List.length_cons,List.length_nil,List.length_map,List.length_set]; omega)) only [VC_skip,VC_seq,VC_cond,VC_block,VC_region,VI_true,VO_nil,VO_plain,VV_some,VS,blockQ,callOf,isPanic,nextOf,altA,evalOp,ev_tmp,ev_func,Av.get,St.put,thenQ,Nat.reduceEqDiff,↓reduceIte,List.map_cons,List.map_nil,List.nil_append,List.append_nil,Option.map_some,b_lss,decide_eq_true,lw9,hia,hM0,hM1]) | (guard_target =~ VCall _ _ _ _ _ _ _; refine VCall.pan hl rfl ?_))
   exact pend0 _ hn rfl rfl
  | some l=>
   obtain ⟨lg,ln,lx,lps,lv⟩:=l
   rw [hln] at hl
   simp only [lnOut,encLn] at hl
   have hE:∀ m,M.length + [OB.cells [.str lg,.str ln,.vsl 3 lx (lps.map encR),.str lv] false].length≤m→[OB.cells [.str lg,.str ln,.vsl 3 lx (lps.map encR),.str lv] false].all (OB.hlt m) = true:=by
    intro m _; simp [OB.hlt,AV.hlts,AV.hlt,encR_hlts]
   have hEm:∀ m,OB.hlt m (OB.cells [.str lg,.str ln,.vsl 3 lx (lps.map encR),.str lv] false) = true:=by
    intro m; simp [OB.hlt,AV.hlts,AV.hlt,encR_hlts]
   by_cases qv:ln = sVersion
   ·have ev:(ln == sVersion) = true:=by simp [qv]
    simp only [sVersion] at ev
    by_cases c1:ver = []
    case neg=>
     have e1:(ver == []) = false:=by simp [c1]
     have hn:parseM s = none:=by rw [hpm,← l2]; simp [stepP,hln,qv,c1]
     repeat' (first | (simp (disch:=first | omega | (simp only [List.length_append,List.length_cons,List.length_nil,List.length_map,List.length_set]; omega)) only [VC_skip,VC_seq,VC_cond,VC_block,VC_region,VI_true,VO_nil,VO_plain,VO_guard,VG_false,VV_some,VS,ofV_bool,ofV_lit,gdA,callOf,isPanic,nextOf,altA,evalOp,ev_tmp,ev_const,ev_func,Av.get,St.put,thenQ,Nat.reduceEqDiff,↓reduceIte,Bool.and_self,List.map_cons,List.map_nil,List.nil_append,List.append_nil,List.getElem?_cons_zero,List.getElem?_cons_succ,List.getElem?_toArray,Option.map_some,Option.bind_some,beq_true,Bool.false_eq_true,pickA,ldC,stC,ic_str,ic_vsl,cl_agg,setC,List.set_cons_zero,List.set_cons_succ,List.length_cons,List.length_nil,Nat.reduceAdd,List.all_cons,List.all_nil,and_self,Nat.add_zero,Nat.zero_add,Nat.le_refl,b_lss,s_eql,decide_eq_true,ld9,lw9,fa24_0,st45,fa45_1,zz45,hia,hM0,hM1,ev,e1,List.getElem?_append_left,List.getElem?_append_right,List.set_append_right,Nat.sub_self]) | (guard_target =~ VCall _ _ _ _ _ _ _; refine VCall.pure (by first | with_reducible exact hl) (by (first | rfl | (simp only [AV.hfs,AV.hf,Bool.and_self,Bool.and_true,Bool.true_and,strs_hfs]))) ?_) | (guard_target =~ DCal _ _ _ _ _ _ _; refine DCal.pure (by first | with_reducible exact hl) (by (first | rfl | (simp only [AV.hfs,AV.hf,Bool.and_self,Bool.and_true,Bool.true_and,strs_hfs]))) ?_))
     refine VCall.pan mustF rfl (pend _ _ hE hn rfl rfl)
    have e1:(ver == []) = true:=by simp [c1]
    by_cases c2:lg = []
    case neg=>
     have e2:(lg == []) = false:=by simp [c2]
     have hn:parseM s = none:=by rw [hpm,← l2]; simp [stepP,hln,qv,c2]
     repeat' (first | (simp (disch:=first | omega | (simp only [List.length_append,List.length_cons,List.length_nil,List.length_map,List.length_set]; omega)) only [VC_skip,VC_seq,VC_cond,VC_block,VC_region,VI_true,VO_nil,VO_plain,VO_guard,VG_true,VG_false,VV_some,VS,ofV_bool,ofV_lit,gdA,callOf,isPanic,nextOf,altA,evalOp,ev_tmp,ev_const,ev_func,Av.get,St.put,thenQ,Nat.reduceEqDiff,↓reduceIte,Bool.and_self,List.map_cons,List.map_nil,List.nil_append,List.append_nil,List.getElem?_cons_zero,List.getElem?_cons_succ,List.getElem?_toArray,Option.map_some,Option.bind_some,beq_true,Bool.false_eq_true,pickA,cond_true,ldC,stC,ic_str,ic_vsl,cl_agg,setC,List.set_cons_zero,List.set_cons_succ,List.length_cons,List.length_nil,Nat.reduceAdd,List.all_cons,List.all_nil,and_self,Nat.add_zero,Nat.zero_add,Nat.le_refl,b_lss,s_eql,decide_eq_true,ld9,lw9,fa24_0,st45,fa45_0,fa45_1,zz45,hia,hM0,hM1,ev,e1,e2,List.getElem?_append_left,List.getElem?_append_right,List.set_append_right,Nat.sub_self]) | (guard_target =~ VCall _ _ _ _ _ _ _; refine VCall.pure (by first | with_reducible exact hl) (by (first | rfl | (simp only [AV.hfs,AV.hf,Bool.and_self,Bool.and_true,Bool.true_and,strs_hfs]))) ?_) | (guard_target =~ DCal _ _ _ _ _ _ _; refine DCal.pure (by first | with_reducible exact hl) (by (first | rfl | (simp only [AV.hfs,AV.hf,Bool.and_self,Bool.and_true,Bool.true_and,strs_hfs]))) ?_))
     refine VCall.pan mustF rfl (pend _ _ hE hn rfl rfl)
    have e2:(lg == []) = true:=by simp [c2]
    by_cases c3:lps.length = 0
    case neg=>
     have hn:parseM s = none:=by
      have:lps ≠ []:=by intro h; rw [h] at c3; simp at c3
      rw [hpm,← l2]; simp [stepP,hln,qv,this]
     repeat' (first | (simp (disch:=first | omega | (simp only [List.length_append,List.length_cons,List.length_nil,List.length_map,List.length_set]; omega)) only [VC_skip,VC_seq,VC_cond,VC_block,VC_region,VI_true,VO_nil,VO_plain,VO_guard,VG_true,VG_false,VV_some,VS,List.length_map,ofV_bool,ofV_int,ofV_lit,deN_vsl,gdA,callOf,isPanic,nextOf,altA,evalOp,ev_tmp,ev_const,ev_func,Av.get,St.put,thenQ,Nat.reduceEqDiff,↓reduceIte,Bool.and_self,List.map_cons,List.map_nil,List.nil_append,List.append_nil,List.getElem?_cons_zero,List.getElem?_cons_succ,List.getElem?_toArray,Option.map_some,Option.bind_some,beq_true,Bool.false_eq_true,pickA,cond_true,ldC,stC,ic_str,ic_vsl,cl_agg,setC,List.set_cons_zero,List.set_cons_succ,List.length_cons,List.length_nil,Nat.reduceAdd,List.all_cons,List.all_nil,and_self,Nat.add_zero,Nat.zero_add,Nat.le_refl,b_lss,b_eql,s_eql,ieq_f,decide_eq_true,ld9,lw9,fa24_0,ld43,lv43,st45,fa45_0,fa45_1,fa45_2,zz45,hia,hM0,hM1,ev,e1,e2,List.getElem?_append_left,List.getElem?_append_right,List.set_append_right,Nat.sub_self]) | (guard_target =~ VCall _ _ _ _ _ _ _; refine VCall.pure (by first | with_reducible exact hl) (by (first | rfl | (simp only [AV.hfs,AV.hf,Bool.and_self,Bool.and_true,Bool.true_and,strs_hfs]))) ?_) | (guard_target =~ DCal _ _ _ _ _ _ _; refine DCal.pure (by first | with_reducible exact hl) (by (first | rfl | (simp only [AV.hfs,AV.hf,Bool.and_self,Bool.and_true,Bool.true_and,strs_hfs]))) ?_))
     refine VCall.pan mustF rfl (pend _ _ hE hn rfl rfl)
    have c3':lps = []:=List.length_eq_zero_iff.1 c3
    have hver:=versionV lv
    by_cases c4:version lv = true
    case neg=>
     have c4:version lv = false:=by simpa using c4
     rw [c4] at hver
     have hn:parseM s = none:=by rw [hpm,← l2]; simp [stepP,hln,qv,c4]
     repeat' (first | (simp (disch:=first | omega | (simp only [List.length_append,List.length_cons,List.length_nil,List.length_map,List.length_set]; omega)) only [VC_skip,VC_seq,VC_cond,VC_block,VC_region,VI_true,VO_nil,VO_plain,VO_guard,VG_true,VV_some,VS,List.length_map,ofV_bool,ofV_int,ofV_lit,deN_vsl,gdA,callOf,isPanic,nextOf,altA,evalOp,ev_tmp,ev_const,ev_func,Av.get,St.put,thenQ,Nat.reduceEqDiff,↓reduceIte,Bool.and_self,List.map_cons,List.map_nil,List.nil_append,List.append_nil,List.getElem?_cons_zero,List.getElem?_cons_succ,List.getElem?_toArray,Option.map_some,Option.bind_some,beq_true,pickA,cond_true,ldC,stC,ic_str,ic_vsl,cl_agg,setC,List.set_cons_zero,List.set_cons_succ,List.length_cons,List.length_nil,Nat.reduceAdd,List.all_cons,List.all_nil,and_self,Nat.add_zero,Nat.zero_add,Nat.le_refl,b_lss,b_eql,s_eql,ieq_t,decide_eq_true,ld9,lw9,fa24_0,ld43,lv43,st45,fa45_0,fa45_1,fa45_2,fa45_3,zz45,hia,hM0,hM1,ev,e1,e2,List.getElem?_append_left,List.getElem?_append_right,List.set_append_right,Nat.sub_self]) | (guard_target =~ VCall _ _ _ _ _ _ _; refine VCall.pure (by first | with_reducible exact hl | with_reducible exact hver) (by (first | rfl | (simp only [AV.hfs,AV.hf,Bool.and_self,Bool.and_true,Bool.true_and,strs_hfs]))) ?_) | (guard_target =~ DCal _ _ _ _ _ _ _; refine DCal.pure (by first | with_reducible exact hl | with_reducible exact hver) (by (first | rfl | (simp only [AV.hfs,AV.hf,Bool.and_self,Bool.and_true,Bool.true_and,strs_hfs]))) ?_))
     refine VCall.pan mustF rfl (pend _ _ hE hn rfl rfl)
    rw [c4] at hver
    have hst:stepP ⟨ver,false,ls⟩ u = some ⟨lv,false,ls⟩:=by simp [stepP,hln,qv,c1,c2,c3',c4]
    rw [hst,Option.bind_some] at l2
    repeat' (first | (simp (disch:=first | omega | (simp only [List.length_append,List.length_cons,List.length_nil,List.length_map,List.length_set]; omega)) only [VC_skip,VC_seq,VC_cond,VC_block,VC_exit,VC_region,VI_true,VO_nil,VO_plain,VO_guard,VG_true,VV_some,VS,blockQ,List.length_map,ofV_bool,ofV_int,ofV_lit,deN_vsl,gdA,callOf,isPanic,nextOf,altA,evalOp,ev_tmp,ev_const,ev_func,Av.get,St.put,thenQ,Nat.reduceEqDiff,↓reduceIte,Bool.and_self,List.map_cons,List.map_nil,List.nil_append,List.append_nil,List.getElem?_cons_zero,List.getElem?_cons_succ,List.getElem?_toArray,Option.map_some,Option.bind_some,beq_true,pickA,cond_true,ldC,stC,cl_str,ic_str,ic_vsl,cl_agg,setC,List.set_cons_zero,List.set_cons_succ,List.length_cons,List.length_nil,Nat.reduceAdd,Nat.reduceLeDiff,List.all_cons,List.all_nil,and_self,and_true,Nat.add_zero,Nat.zero_add,Nat.le_refl,b_lss,b_eql,b_add64,s_eql,ieq_t,castS,decide_eq_true,st9,ld9,lw9,fa24_0,ld43,lv43,st45,fa45_0,fa45_1,fa45_2,fa45_3,zz45,hia,hM0,hM1,ev,e1,e2,List.getElem?_append_left,List.getElem?_append_right,List.set_append_left,List.set_append_right,Nat.sub_self]) | (guard_target =~ VCall _ _ _ _ _ _ _; refine VCall.pure (by first | with_reducible exact hl | with_reducible exact hver | with_reducible exact mustT) (by (first | rfl | (simp only [AV.hfs,AV.hf,Bool.and_self,Bool.and_true,Bool.true_and,strs_hfs]))) ?_) | (guard_target =~ DCal _ _ _ _ _ _ _; refine DCal.pure (by first | with_reducible exact hl | with_reducible exact hver | with_reducible exact mustT) (by (first | rfl | (simp only [AV.hfs,AV.hf,Bool.and_self,Bool.and_true,Bool.true_and,strs_hfs]))) ?_))
    refine ⟨(i + 1,⟨lv,false,ls⟩,(if z then k else k + 1),j + 1,z),⟨h,l2,l3,by simp only; omega,rfl⟩,by simp only; omega,?_,hhl _,?_⟩
    ·simp only [subT,Av.get,Nat.reduceEqDiff,↓reduceIte,Le_rfl,nat0,nat1,and_self,true_and,and_true,List.length_map,List.length_nil]
    ·have hvz:pV (if z then k else k + 1) z ls = v:=by rw [hv]; cases z<;>rfl
     simp only [hvz]
     have:=mem_more (B:=pB lv v) (f:=encLn) (k:=k) (j:=j) (z:=z) (L:=ls) (E:=[.cells [.str lg,.str ln,.vsl 3 lx (lps.map encR),.str lv] false]) (m:=(mem (pB lv v) encLn (if z then k else k + 1) (j + 1) z ls).length) (pB_hlt (by
      rw [hv]; refine pV_hlt fun hz=>?_
      rw [mem_len,hz]; simp [pB])) (encLnc_hlts _)
     have e:M.set 0 (.cells [.str lv,v] false) = mem (pB lv v) encLn k j z ls:=by rw [hM,mem_set (by simp [pB]),← hv]; rfl
     rw [e]; exact this
   ·have ev:(ln == sVersion) = false:=by simpa using qv
    simp only [sVersion] at ev
    have hlv:=lineV ⟨lg,ln,lx,lps,lv⟩
    simp only [encLn] at hlv
    by_cases c1:lineB ⟨lg,ln,lx,lps,lv⟩ = true
    case neg=>
     have c1:lineB ⟨lg,ln,lx,lps,lv⟩ = false:=by simpa using c1
     rw [c1] at hlv
     have hn:parseM s = none:=by rw [hpm,← l2]; simp [stepP,hln,qv,c1]
     repeat' (first | (simp (disch:=first | omega | (simp only [List.length_append,List.length_cons,List.length_nil,List.length_map,List.length_set]; omega)) only [VC_skip,VC_seq,VC_cond,VC_block,VC_region,VI_true,VI_false,VO_nil,VO_plain,VV_some,VS,ofV_lit,callOf,isPanic,nextOf,altA,evalOp,ev_tmp,ev_const,ev_func,Av.get,St.put,thenQ,Nat.reduceEqDiff,↓reduceIte,Bool.and_self,List.map_cons,List.map_nil,List.nil_append,List.append_nil,List.getElem?_cons_zero,List.getElem?_cons_succ,Option.map_some,ldC,ldG,stC,ic_str,ic_vsl,cl_agg,setC,List.set_cons_zero,List.set_cons_succ,List.length_cons,List.length_nil,Nat.reduceAdd,List.all_cons,List.all_nil,and_self,Nat.zero_add,List.drop_zero,List.take_succ_cons,List.take_zero,Nat.le_refl,b_lss,s_eql,decide_eq_true,ld9,lw9,st45,ld45,fa45_1,zz45,hia,hM0,hM1,ev,List.getElem?_append_right,List.set_append_right,Nat.sub_self]) | (guard_target =~ VCall _ _ _ _ _ _ _; refine VCall.pure (by first | with_reducible exact hl | with_reducible exact hlv) (by (first | rfl | (simp only [AV.hfs,AV.hf,Bool.and_self,Bool.and_true,Bool.true_and,strs_hfs,encR_hfs]))) ?_) | (guard_target =~ DCal _ _ _ _ _ _ _; refine DCal.pure (by first | with_reducible exact hl | with_reducible exact hlv) (by (first | rfl | (simp only [AV.hfs,AV.hf,Bool.and_self,Bool.and_true,Bool.true_and,strs_hfs,encR_hfs]))) ?_))
     refine VCall.pan mustF rfl (pend _ _ hE hn rfl rfl)
    rw [c1] at hlv
    have hst:stepP ⟨ver,false,ls⟩ u = some ⟨ver,false,ls++[⟨lg,ln,lx,lps,lv⟩]⟩:=by simp [stepP,hln,qv,c1]
    rw [hst,Option.bind_some] at l2
    have hbs:evBuildSlice Tryz.prog 22 1 [(0,.agg [.str lg,.str ln,.vsl 3 lx (lps.map encR),.str lv])] = some (.vsl 5 true [encLn ⟨lg,ln,lx,lps,lv⟩]):=by
     simp [evBuildSlice,Tryz.underlying22,ap22,AV.cells,AV.told,List.range',encLn]
    obtain ⟨M',ha1,ha2,ha3,ha4,ha5⟩:=mem_app (wd:=5) (bytes:=72) Tryz.underlying22 ap22 encLn (fun _=>rfl) (fun _=>rfl) (by decide) (pB ver (pV k z ls)) k j z ls (w0:=0) (fun hz=>.inr (l3 hz)) [.cells [.str lg,.str ln,.vsl 3 lx (lps.map encR),.str lv] false] ⟨lg,ln,lx,lps,lv⟩ true (by omega) hM
    have hBl:(pB ver (pV k z ls)).length = 2:=rfl
    obtain ⟨k',hk'⟩:∃ k',k' = M.length + [OB.cells [.str lg,.str ln,.vsl 3 lx (lps.map encR),.str lv] false].length - 2:=⟨_,rfl⟩
    rw [hBl,← hk'] at ha4
    rw [hBl,← pV_deN l3,← hv,← hk'] at ha1
    have hvN:memV 2 0 5 encLn k' true (ls++[⟨lg,ln,lx,lps,lv⟩]) = .sl (2 + k') 0 (ls++[(⟨lg,ln,lx,lps,lv⟩:Ln)]).length 5:=rfl
    rw [hvN] at ha1
    have hM'0:M'[0]? = some (.cells [.str ver,v] false):=by rw [ha5 0 (by simp [pB]),hv]; rfl
    have hvd:deN v = memV 2 0 5 encLn k z ls:=by rw [hv]; exact pV_deN l3
    repeat' (first | (simp (disch:=first | omega | (simp only [List.length_append,List.length_cons,List.length_nil,List.length_map,List.length_set]; omega)) only [VC_skip,VC_seq,VC_cond,VC_block,VC_region,VI_true,VI_false,VO_nil,VO_plain,VV_some,VS,blockQ,ofV_int,ofV_lit,deN_vsl,callOf,isPanic,nextOf,altA,evalOp,ev_tmp,ev_const,ev_func,Av.get,St.put,thenQ,Nat.reduceEqDiff,↓reduceIte,Bool.and_self,List.map_cons,List.map_nil,List.nil_append,List.append_nil,List.getElem?_cons_zero,List.getElem?_cons_succ,Option.map_some,ldC,ldG,stC,ic_str,cl_sl,ic_sl,ic_vsl,cl_agg,setC,List.set_cons_zero,List.set_cons_succ,List.length_cons,List.length_nil,Nat.reduceAdd,List.all_cons,List.all_nil,and_self,and_true,Nat.zero_add,List.drop_zero,List.take_succ_cons,List.take_zero,Nat.le_refl,b_lss,b_add64,s_eql,castS,decide_eq_true,ld9,lw9,st22,ld22,fa24_1,st45,ld45,fa45_1,zz45,hia,hM0,hM1,hM'0,ev,hbs,ha1,List.getElem?_append_left,List.getElem?_append_right,List.set_append_right,List.length_append,Nat.sub_self]) | (guard_target =~ VCall _ _ _ _ _ _ _; refine VCall.pure (by first | with_reducible exact hl | with_reducible exact hlv | with_reducible exact mustT) (by (first | rfl | (simp only [AV.hfs,AV.hf,Bool.and_self,Bool.and_true,Bool.true_and,strs_hfs,encR_hfs]))) ?_) | (guard_target =~ DCal _ _ _ _ _ _ _; refine DCal.pure (by first | with_reducible exact hl | with_reducible exact hlv | with_reducible exact mustT) (by (first | rfl | (simp only [AV.hfs,AV.hf,Bool.and_self,Bool.and_true,Bool.true_and,strs_hfs,encR_hfs]))) ?_))
    refine ⟨(i + 1,⟨ver,false,ls++[⟨lg,ln,lx,lps,lv⟩]⟩,k',0,true),⟨h,l2,(fun hh=>by cases hh),by simp only [List.length_append,List.length_cons,List.length_nil]; omega,rfl⟩,by simp only; omega,?_,hhl _,?_⟩
    ·simp only [subT,Av.get,Nat.reduceEqDiff,↓reduceIte,Le_rfl,nat0,nat1,and_self,true_and,and_true,List.length_map,List.length_nil]
    ·have h4:=ha4 (mem (pB ver (pV k' true (ls++[⟨lg,ln,lx,lps,lv⟩]))) encLn k' 0 true (ls++[⟨lg,ln,lx,lps,lv⟩])).length (pB_hlt (pV_hlt fun hz=>?_)) (encLnc_hlts _)
     ·have h5:=subH_set (b:=.cells [.str ver,pV k' true (ls++[⟨lg,ln,lx,lps,lv⟩])] false) (i:=0) ?_ h4
      ·rw [mem_set (by simp [pB])] at h5
       have e:(pB ver (pV k z ls)).set 0 (.cells [.str ver,pV k' true (ls++[⟨lg,ln,lx,lps,lv⟩])] false) = pB ver (pV k' true (ls++[⟨lg,ln,lx,lps,lv⟩])):=rfl
       rw [e] at h5
       simpa [pV] using h5
      ·have:(pV k' true (ls++[(⟨lg,ln,lx,lps,lv⟩:Ln)])).hlt (mem (pB ver (pV k' true (ls++[⟨lg,ln,lx,lps,lv⟩]))) encLn k' 0 true (ls++[⟨lg,ln,lx,lps,lv⟩])).length = true:=pV_hlt fun _=>by rw [mem_len]; simp [pB]
       simp [OB.hlt,AV.hlts,AV.hlt,this]
     ·rw [mem_len,hk']
      rw [hM,mem_len,hz]; simp [pB]; omega
 ·have hie:i = mid.length:=by omega
  subst hie
  rw [List.drop_length,runP] at l2
  obtain ⟨u,hu,hle⟩:=hfzw (.cells [.str ver,v] false) (.cells [.int .i64 0] false)
  have hM00:(M.set 0 (.cells [.str ver,v] false)).set 1 (.cells [.int .i64 0] false) = M:=by rw [set_get_same hM0,set_get_same hM1]
  rw [hM00] at hu
  obtain ⟨cc,hcc⟩:∃ cc,cc = checkC ⟨ver,false,ls⟩:=⟨_,rfl⟩
  have hck:PureFn Tryz.prog 15 [.agg [.str ver,u]] (.ret (.int .i64 cc)):=by
   rw [hcc]
   exact PureFn.le (.cons _ _ _ _ (.agg _ _ (.cons _ _ _ _ (.refl _) (.cons _ _ _ _ hle .nil))) .nil) (checkV ⟨ver,false,ls⟩)
  have hln:lend M [.agg [.str ver,v]] (.ret (.int .i64 cc)) = some [.agg [.str ver,u]]:=by
   have h1:fz M 20 (.agg [.str ver,v]) = some (.agg [.str ver,u]):=fz_agg_any (k:=18) (by simp only [List.mapM_cons,List.mapM_nil,hu]; rfl)
   exact lend_fz (by simp only [List.mapM_cons,List.mapM_nil,h1]; rfl) rfl
  refine .vc (by decide) ?_
  by_cases c0:cc = 0
  ·rw [c0] at hck hln
   have hn:parseO s = (⟨ver,false,ls⟩,0):=by
    have:parseM s = some ⟨ver,false,ls⟩:=by rw [hpm,← l2,Option.bind_some,← hcc,if_pos c0]
    simp only [parseO,if_neg q0,this]
   rw [hn]
   rcases hvI with hvI | ⟨a,b,hvI⟩
   all_goals
    rw [hvI] at hM0 hln hM00
    repeat' (first | (simp (disch:=first | omega | (simp only [List.length_append,List.length_cons,List.length_nil,List.length_map,List.length_set]; omega)) only [VC_seq,VC_cond,VC_exit,VC_ret,VC_region,VI_false,VO_nil,VO_plain,VV_some,VS,blockQ,ofV_int,callOf,isPanic,nextOf,altA,evalOp,ev_tmp,ev_const,ev_func,Av.get,St.put,thenQ,Nat.reduceEqDiff,↓reduceIte,Bool.and_self,List.map_cons,List.map_nil,List.nil_append,List.append_nil,Option.map_some,ldG,stC,cl_int,ic_int,ic_str,ic_sl,ic_nilsl,cl_agg,setC,List.set_cons_zero,List.set_cons_succ,List.length_cons,List.length_nil,Nat.reduceAdd,List.all_cons,List.all_nil,and_self,Nat.zero_add,List.drop_zero,List.take_succ_cons,List.take_zero,Nat.le_refl,b_lss,b_eql,ieq_t,decide_eq_false,st24,ld24,st27,hM0,hM1,Nat.sub_self,List.getElem?_set_ne]) | (guard_target =~ VCall _ _ _ _ _ _ _; refine VCall.lend _ hck hln ?_) | (guard_target =~ VCall _ _ _ _ _ _ _; refine VCall.pure (by first | with_reducible exact mustT) (by (first | rfl | (simp only [AV.hfs,AV.hf,Bool.and_self,Bool.and_true,Bool.true_and,strs_hfs]))) ?_) | (guard_target =~ DCal _ _ _ _ _ _ _; refine DCal.pure (by first | with_reducible exact mustT) (by (first | rfl | (simp only [AV.hfs,AV.hf,Bool.and_self,Bool.and_true,Bool.true_and,strs_hfs]))) ?_))
    refine ⟨.ret,_,recN (by rw [hM00]; exact hok),retPcc 2 24 3 27 rfl (v1:=.agg [.str ver,v]) (v2:=.int .i64 0) ?_ ?_ ⟨fz_aggL (k:=17) (ts:=[.str ver,.vsl 5 false (ls.map encLn)]) (LzL_hf rfl (⟨hfzv _ _,trivial⟩:LzL _ 18 [v] [.vsl 5 false (ls.map encLn)])),LzL_hf rfl trivial⟩⟩
    ·rw [hvI]; simp (disch:=first | omega | (simp only [List.length_append,List.length_cons,List.length_nil,List.length_map,List.length_set]; omega)) only [Av.get,Nat.reduceEqDiff,↓reduceIte,ldG,List.length_cons,List.length_nil,Nat.reduceAdd,Nat.zero_add,List.drop_zero,List.take_succ_cons,List.take_zero,Nat.le_refl,ld24,List.getElem?_set_self,List.getElem?_set_ne]
    ·simp (disch:=first | omega | (simp only [List.length_append,List.length_cons,List.length_nil,List.length_map,List.length_set]; omega)) only [Av.get,Nat.reduceEqDiff,↓reduceIte,List.getElem?_cons_zero,ldC,ld27,List.getElem?_set_self]
  ·have hn:parseM s = none:=by rw [hpm,← l2,Option.bind_some,← hcc,if_neg c0]
   repeat' (first | (simp (disch:=first | omega | (simp only [List.length_append,List.length_cons,List.length_nil,List.length_map,List.length_set]; omega)) only [VC_seq,VC_cond,VC_exit,VC_region,VI_false,VO_nil,VO_plain,VV_some,VS,blockQ,ofV_int,callOf,isPanic,nextOf,altA,evalOp,ev_tmp,ev_const,ev_func,Av.get,St.put,thenQ,Nat.reduceEqDiff,↓reduceIte,List.map_cons,List.map_nil,List.nil_append,List.append_nil,Option.map_some,ldG,List.length_cons,List.length_nil,Nat.reduceAdd,Nat.zero_add,List.drop_zero,List.take_succ_cons,List.take_zero,Nat.le_refl,b_lss,b_eql,ieq_f,decide_eq_false,ld24,hM0,hM1,Nat.sub_self]) | (guard_target =~ VCall _ _ _ _ _ _ _; refine VCall.lend _ hck hln ?_))
   refine VCall.pan mustF rfl (pend0 _ hn rfl rfl)
end Go.Proofs.YtjlhemfmeboadaaGreatDoor
namespace Go.Proofs.YtjlhemfmeboadaaGreatDoor
set_option linter.unusedVariables false
set_option linter.unusedSimpArgs false
open Go Go.Av Go.RowKit

theorem all_at {α:Type} {l:List α} {p:α→Bool} {i:Nat} {x:α} (h:l[i]? = some x) (hp:p x = false):l.all p = false:=by
 cases hc:l.all p with
 | false=>rfl
 | true=>have:=List.all_eq_true.1 hc x (List.mem_of_getElem? h); rw [hp] at this; cases this
theorem all_succ {α:Type} {l:List α} {p:α→Bool} {i:Nat} {x:α} (h:l[i]? = some x) (ha:(l.take i).all p = true) (hp:p x = true):(l.take (i + 1)).all p = true:=by
 rw [List.take_add_one,h,List.all_append,ha]; simp [hp]
/-! ### Names -/
noncomputable def inOps:Array Oper:=match Tryz.f93.body with
 | some (.seq _ (.seq (.region _ ops _) _))=>ops
 | _=>#[]
theorem inFits:fits 29 inOps = true:=by kernel_rfl
theorem inHop (j:Nat) (hj:j < 27):(inOps[j]?).bind (fun x=>x.dst) = if j < 26 then some (j + 3) else some 2:=by
 have:(List.range 27).all (fun j=>decide ((inOps[j]?).bind (fun x=>x.dst) = if j < 26 then some (j + 3) else some 2)) = true:=by kernel_rfl
 exact of_decide_eq_true (List.all_eq_true.1 this j (List.mem_range.2 hj))
set_option maxRecDepth 8000 in
theorem inNameR (x:Int):PureFn Tryz.prog 93 [.int .u8 x] (.ret (.bool (nmI x))):=by
 refine PureFn.of Tryz.func93 rfl (enters_call enters Tryz.func93 rfl) (by simp [Tryz.ntmps93]) ?_
 show W Tryz.prog 29 0 none _ _ _
 unfold nmI
 generalize h1:decide (x ≥ 97) = b1
 generalize h2:decide (x≤122) = b2
 generalize h3:decide (x ≥ 65) = b3
 generalize h4:decide (x≤90) = b4
 generalize h5:decide (x ≥ 48) = b5
 generalize h6:decide (x≤57) = b6
 generalize h7:(x == 45) = b7
 refine .seq (.region [] (by decide) ?_)
 simp only [EOps,gdA,callOf,isPanic,nextOf,altA,evalOp,St.ev,St.put,argT,ofV,thenQ]
 refine .seq (RW.start (ops0:=inOps) rfl ?_)
 refine RW.cut 7 [(0,.int .u8 x),(9,.bool (b1 && b2))] [] inFits ?_ ?_
 ·cases b1<;>cases b2<;>simp only [EOps,gdA,callOf,isPanic,nextOf,altA,evalOp,St.ev,Av.get,St.put,ofV,thenQ,Nat.reduceEqDiff,↓reduceIte,Bool.and_self,beq_true,Bool.false_eq_true,pickA,cond_true,List.take_succ_cons,List.take_zero,inHop,Nat.reduceLT,b_geq,b_leq,u_not,h1,h2]<;>exact ⟨⟨rfl,rfl,trivial⟩,trivial,trivial⟩
 generalize (b1 && b2) = c1
 simp only [List.drop_succ_cons,List.drop_zero]
 refine RW.cut 8 [(0,.int .u8 x),(17,.bool (c1 || b3 && b4))] [] inFits ?_ ?_
 ·cases c1<;>cases b3<;>cases b4<;>simp only [EOps,gdA,callOf,isPanic,nextOf,altA,evalOp,St.ev,Av.get,St.put,ofV,thenQ,Nat.reduceEqDiff,↓reduceIte,Bool.and_self,beq_false,beq_true,Bool.not_true,Bool.not_false,Bool.false_eq_true,pickA,cond_true,cond_false,List.take_succ_cons,List.take_zero,inHop,Nat.reduceLT,b_geq,b_leq,u_not,h3,h4]<;>exact ⟨⟨rfl,rfl,trivial⟩,trivial,trivial⟩
 generalize (c1 || b3 && b4) = c2
 simp only [List.drop_succ_cons,List.drop_zero]
 refine RW.cut 8 [(0,.int .u8 x),(25,.bool (c2 || b5 && b6))] [] inFits ?_ ?_
 ·cases c2<;>cases b5<;>cases b6<;>simp only [EOps,gdA,callOf,isPanic,nextOf,altA,evalOp,St.ev,Av.get,St.put,ofV,thenQ,Nat.reduceEqDiff,↓reduceIte,Bool.and_self,beq_false,beq_true,Bool.not_true,Bool.not_false,Bool.false_eq_true,pickA,cond_true,cond_false,List.take_succ_cons,List.take_zero,inHop,Nat.reduceLT,b_geq,b_leq,u_not,h5,h6]<;>exact ⟨⟨rfl,rfl,trivial⟩,trivial,trivial⟩
 generalize (c2 || b5 && b6) = c3
 simp only [List.drop_succ_cons,List.drop_zero]
 refine RW.cut 4 [(2,.bool (c3 || b7))] [] inFits ?_ ?_
 ·cases c3<;>cases b7<;>simp only [EOps,gdA,callOf,isPanic,nextOf,altA,evalOp,St.ev,Av.get,St.put,ofV,thenQ,Nat.reduceEqDiff,↓reduceIte,beq_false,Bool.not_true,Bool.not_false,pickA,cond_false,List.take_succ_cons,List.take_zero,inHop,Nat.reduceLT,b_eql,u_not,h7]<;>exact ⟨⟨rfl,trivial⟩,trivial,trivial⟩
 simp only [List.drop_succ_cons,List.drop_zero]
 refine RW.done ?_
 exact .ret ⟨_,rfl,_,rfl,.refl _⟩
set_option maxRecDepth 8000 in
theorem greatR (s:Bytes) (hs:s.length≤1000000):PureFn Tryz.prog 68 [.str s] (.ret (.str (great s))):=by
 refine PureFn.of Tryz.func68 rfl (enters_call enters Tryz.func68 rfl) (by simp [Tryz.ntmps68]) ?_
 show W Tryz.prog 29 0 none _ _ _
 refine W.vc (by decide) ?_
 repeat' (first | (simp (disch:=first | omega | (simp only [List.length_append,List.length_cons,List.length_nil,List.length_map,List.length_set]; omega)) only [VC_seq,VC_block,VC_region,VC_loop,VO_nil,VO_plain,VV_some,VS,ofV_int,ofV_lit,callOf,isPanic,nextOf,altA,evalOp,ev_const,St.put,argT,thenQ]))
 refine W.loopT (X:=Nat) (fun i=>[(4,.int .i64 (i:Int)),(3,.str (great (s.take i))),(0,.str s)]) (fun _=>[]) (fun i=>i≤s.length) (fun i=>s.length - i) 0 (Nat.zero_le _) (by simp [holdsT,Av.get,great]) rfl ?_
 intro i hi
 refine .vc (by decide) ?_
 by_cases h:i < s.length
 ·obtain ⟨x,hx,_⟩:=drop_at h
  have hbs:=bsB (up x)
  have hcv:=cvS (up x)
  have hgl:(great (s.take i)).length≤1000000:=by rw [great_len]; simp; omega
  have hg:great (s.take (i + 1)) = great (s.take i)++[up x]:=by simp [great,List.take_add_one,hx]
  have hlt:=x.toNat_lt
  by_cases h1:97≤x.toNat
  ·by_cases h2:x.toNat≤122
   ·have hu:((x.toNat:Int) - 32) = ((up x).toNat:Int):=by
     have:up x = x - 32:=by unfold up; rw [if_pos ⟨UInt8.le_iff_toNat_le.2 h1,UInt8.le_iff_toNat_le.2 h2⟩]
     rw [this,UInt8.toNat_sub_of_le _ _ (UInt8.le_iff_toNat_le.2 (by simp; omega))]
     simp; omega
    have hsub:∀ t,evBin Tryz.prog .sub t (.int .u8 (x.toNat:Int)) (.int .u8 32) = some (.int .u8 (up x).toNat):=by
     intro t
     rw [← hu]
     simp only [evBin,IntKind.wrap,IntKind.bits,IntKind.signed]
     simp; omega
    repeat' (first | (simp (disch:=first | omega | (simp only [List.length_append,List.length_cons,List.length_nil,List.length_map,List.length_set]; omega)) only [VC_skip,VC_seq,VC_cond,VC_block,VC_region,VI_true,VO_nil,VO_plain,VO_guard,VG_true,VV_some,VS,blockQ,ofV_bool,ofV_int,saddL,deN_str,gdA,callOf,isPanic,nextOf,altA,evalOp,ev_tmp,ev_const,Av.get,St.put,thenQ,Nat.reduceEqDiff,↓reduceIte,List.map_cons,List.map_nil,List.getElem?_cons_zero,List.getElem?_cons_succ,List.getElem?_toArray,Option.map_some,Option.bind_some,beq_true,pickA,cond_true,and_self,and_true,b_lss,b_leq,b_geq,b_add64,castS,decide_eq_true,ls9,xi9 hx,hsub,hbs,hcv]))
    exact ⟨i + 1,by omega,by omega,⟨rfl,by rw [hg]; rfl,rfl,trivial⟩⟩
   ·have hu:up x = x:=by unfold up; rw [if_neg]; rintro ⟨_,h⟩; exact h2 (UInt8.le_iff_toNat_le.1 h)
    rw [hu] at hbs hcv hg
    repeat' (first | (simp (disch:=first | omega | (simp only [List.length_append,List.length_cons,List.length_nil,List.length_map,List.length_set]; omega)) only [VC_skip,VC_seq,VC_cond,VC_block,VC_region,VI_true,VI_false,VO_nil,VO_plain,VO_guard,VG_true,VV_some,VS,blockQ,ofV_bool,ofV_int,saddL,deN_str,gdA,callOf,isPanic,nextOf,altA,evalOp,ev_tmp,ev_const,Av.get,St.put,thenQ,Nat.reduceEqDiff,↓reduceIte,List.map_cons,List.map_nil,List.getElem?_cons_zero,List.getElem?_cons_succ,List.getElem?_toArray,Option.map_some,Option.bind_some,beq_true,pickA,cond_true,and_self,and_true,b_lss,b_leq,b_geq,b_add64,castS,decide_eq_true,decide_eq_false,ls9,xi9 hx,hbs,hcv]))
    exact ⟨i + 1,by omega,by omega,⟨rfl,by rw [hg]; rfl,rfl,trivial⟩⟩
  ·have hu:up x = x:=by unfold up; rw [if_neg]; rintro ⟨h,_⟩; exact h1 (UInt8.le_iff_toNat_le.1 h)
   rw [hu] at hbs hcv hg
   repeat' (first | (simp (disch:=first | omega | (simp only [List.length_append,List.length_cons,List.length_nil,List.length_map,List.length_set]; omega)) only [VC_skip,VC_seq,VC_cond,VC_block,VC_region,VI_true,VI_false,VO_nil,VO_plain,VO_guard,VG_false,VV_some,VS,blockQ,ofV_bool,ofV_int,saddL,deN_str,gdA,callOf,isPanic,nextOf,altA,evalOp,ev_tmp,ev_const,Av.get,St.put,thenQ,Nat.reduceEqDiff,↓reduceIte,List.map_cons,List.map_nil,List.getElem?_cons_zero,List.getElem?_cons_succ,List.getElem?_toArray,Option.map_some,Option.bind_some,beq_true,Bool.false_eq_true,pickA,and_self,and_true,b_lss,b_geq,b_add64,castS,decide_eq_true,decide_eq_false,ls9,xi9 hx,hbs,hcv]))
   exact ⟨i + 1,by omega,by omega,⟨rfl,by rw [hg]; rfl,rfl,trivial⟩⟩
 ·have e:i = s.length:=by omega
  subst e
  rw [List.take_length]
  repeat' (first | (simp (disch:=first | omega | (simp only [List.length_append,List.length_cons,List.length_nil,List.length_map,List.length_set]; omega)) only [VC_seq,VC_cond,VC_exit,VC_ret,VC_region,VI_false,VO_nil,VO_plain,VV_some,VS,blockQ,deN_str,callOf,isPanic,nextOf,altA,evalOp,ev_tmp,Av.get,St.put,thenQ,Nat.reduceEqDiff,↓reduceIte,Option.map_some,b_lss,decide_eq_false,ls9]))
  exact ⟨_,rfl,_,rfl,.refl _⟩
/-! ### Folded -/
theorem bsBs (x:UInt8):evBuildSlice Tryz.prog 42 1 [(0,.int .u8 x.toNat)] = some (.vsl 0 true [byteA x]):=bsB x
theorem crlf_new:newsX 1 (.str [13,10,32]) = fun _=>some (3,bytesA [13,10,32]):=by funext H; rfl
def byM (k:Nat) (z:Bool) (L:Bytes):List OB:=mem [] byteA k 0 z L
def byV (k:Nat) (z:Bool) (L:Bytes):AV:=memV 0 0 0 byteA k z L
theorem flat_bytes (L:Bytes):flatA byteA L = bytesA L:=by
 induction L with
 | nil=>rfl
 | cons x t ih=>simp only [flatA,List.map_cons,List.flatMap_cons] at ih ⊢; rw [ih]; rfl
theorem by_app1 (k : Nat) (z : Bool) (L : Bytes) (x : UInt8) (y : Bool) (hb : L.length ≤ 1000000) (h : z = false → L = []) :
    ∃ k', evAppend Tryz.prog 42 42 (byV k z L) (.vsl 0 y [byteA x]) (byM k z L) = some (byV k' true (L ++ [x]), byM k' true (L ++ [x])) := by
  have hz8 : (1 : Nat) = esz 0 := rfl
  cases z with
  | false =>
    rw [h rfl]
    refine ⟨k, ?_⟩
    have : (mem [] byteA k 0 false ([] : Bytes)) = List.replicate k .dead := by simp [mem]
    simp only [byV, byM, memV, Bool.false_eq_true, if_false, List.map_nil, this, evAppend, Tryz.underlying42, apX, ap42, newsX, newsA]
    simp [mem, flat_bytes, bytesA, esz, AV.cells, byteA]
  | true =>
    refine ⟨k + 1, ?_⟩
    have hl : (mem [] byteA k 0 true L) = List.replicate k .dead ++ [.cells (bytesA L) true] := by simp [mem, flat_bytes]
    have hl2 : (mem [] byteA (k + 1) 0 true (L ++ [x])) = List.replicate (k + 1) .dead ++ [.cells (bytesA (L ++ [x])) true] := by simp [mem, flat_bytes]
    have hg : (List.replicate k OB.dead ++ [OB.cells (bytesA L) true])[k]? = some (.cells (bytesA L) true) := by
      rw [List.getElem?_append_right (by simp)]; simp
    have hs : (List.replicate k OB.dead ++ [OB.cells (bytesA L) true]).set k .dead = List.replicate (k + 1) .dead := by
      rw [List.set_append_right _ _ (by simp)]; simp [List.replicate_succ']
    simp only [byV, byM, memV, if_true, hl, hl2, Nat.zero_add, List.length_nil, evAppend, Tryz.underlying42, apX, ap42, newsX, newsA, hg]
    have hbl : (bytesA L).length = L.length := bytesA_len L
    have hn : ([byteA x].flatMap AV.cells) = [byteA x] := rfl
    simp only [hn, List.length_cons, List.length_nil, esz, if_true, Nat.mul_one, Nat.zero_add, hbl, List.drop_zero]
    rw [if_pos ⟨trivial, rfl, by omega, Nat.le_refl _⟩, if_neg (by omega)]
    simp [hs, bytesA, List.replicate_succ']
theorem by_app3 (k : Nat) (z : Bool) (L : Bytes) (hb : L.length ≤ 1000000) (h : z = false → L = []) :
    ∃ k', evAppend Tryz.prog 42 9 (byV k z L) (.str [13, 10, 32]) (byM k z L) = some (byV k' true (L ++ [13, 10, 32]), byM k' true (L ++ [13, 10, 32])) := by
  have hap : apX Tryz.prog 9 = true := by simp [apX, Tryz.underlying9]
  have hcn := congrFun crlf_new
  cases z with
  | false =>
    rw [h rfl]
    refine ⟨k, ?_⟩
    have : (mem [] byteA k 0 false ([] : Bytes)) = List.replicate k .dead := by simp [mem]
    simp only [byV, byM, memV, Bool.false_eq_true, if_false, List.map_nil, this, evAppend, Tryz.underlying42, hap, ap42, hcn, newsA]
    simp [mem, flat_bytes, bytesA, esz, AV.cells, byteA]
  | true =>
    refine ⟨k + 1, ?_⟩
    have hl : (mem [] byteA k 0 true L) = List.replicate k .dead ++ [.cells (bytesA L) true] := by simp [mem, flat_bytes]
    have hl2 : (mem [] byteA (k + 1) 0 true (L ++ [13, 10, 32])) = List.replicate (k + 1) .dead ++ [.cells (bytesA (L ++ [13, 10, 32])) true] := by simp [mem, flat_bytes]
    have hg : (List.replicate k OB.dead ++ [OB.cells (bytesA L) true])[k]? = some (.cells (bytesA L) true) := by
      rw [List.getElem?_append_right (by simp)]; simp
    have hs : (List.replicate k OB.dead ++ [OB.cells (bytesA L) true]).set k .dead = List.replicate (k + 1) .dead := by
      rw [List.set_append_right _ _ (by simp)]; simp [List.replicate_succ']
    simp only [byV, byM, memV, if_true, hl, hl2, Nat.zero_add, List.length_nil, evAppend, Tryz.underlying42, hap, ap42, hcn, hg]
    have hbl : (bytesA L).length = L.length := bytesA_len L
    simp only [esz, if_true, Nat.mul_one, Nat.zero_add, hbl, List.drop_zero]
    rw [if_pos ⟨trivial, rfl, by omega, Nat.le_refl _⟩, if_neg (by omega)]
    simp [hs, bytesA, List.replicate_succ']
theorem by_str (k:Nat) (z:Bool) (L:Bytes) (h:z = false→L = []):evConv Tryz.prog 42 9 (byV k z L) (byM k z L) = some (.str L,byM k z L):=by
 cases z with
 | false=>rw [h rfl]; simp [byV,memV,evConv,Tryz.underlying9,Tryz.underlying42,Tryz.underlying5]; rfl
 | true=>
  have hl:(mem [] byteA k 0 true L) = List.replicate k .dead++[.cells (bytesA L) true]:=by simp [mem,flat_bytes]
  have hg:(List.replicate k OB.dead++[OB.cells (bytesA L) true])[k]? = some (.cells (bytesA L) true):=by
   rw [List.getElem?_append_right (by simp)]; simp
  have hbl:(bytesA L).length = L.length:=bytesA_len L
  simp only [byV,byM,memV,if_true,hl,Nat.zero_add,List.length_nil,evConv,Tryz.underlying9,Tryz.underlying42,Tryz.underlying5,hg,Nat.zero_add,hbl]
  simp [List.take_of_length_le,unbyte_bytesA,hbl]
end Go.Proofs.YtjlhemfmeboadaaGreatDoor
namespace Go.Proofs.YtjlhemfmeboadaaGreatDoor
set_option linter.unusedVariables false
set_option linter.unusedSimpArgs false
open Go Go.Av Go.RowKit

/-! ### Fold -/
def foldB:Nat→Bytes→Bytes
 | _,[]=>[]
 | i,x::t=>(if 75≤i∧(i - 75) % 74 = 0 then [13,10,32] else [])++x::foldB (i + 1) t
def foldD:Nat→Bytes→Bytes
 | _,[]=>[]
 | 0,x::t=>[13,10,32]++x::foldD 73 t
 | m + 1,x::t=>x::foldD m t
def room (i:Nat):Nat:=if i < 75 then 75 - i else (74 - (i - 75) % 74) % 74
theorem foldB_D:∀ (s:Bytes) (i:Nat),foldB i s = foldD (room i) s
 | [],i=>by cases h:room i<;>rfl
 | x::t,i=>by
  rw [foldB,foldB_D t (i + 1)]
  by_cases h:75≤i∧(i - 75) % 74 = 0
  ·have h0:room i = 0:=by unfold room; rw [if_neg (by omega)]; omega
   have h1:room (i + 1) = 73:=by unfold room; rw [if_neg (by omega)]; omega
   rw [if_pos h,h0,h1]; rfl
  ·have h1:room i = room (i + 1) + 1:=by
    unfold room
    by_cases h2:i < 75
    ·rw [if_pos h2]
     by_cases h3:i + 1 < 75
     ·rw [if_pos h3]; omega
     ·rw [if_neg h3]; have:i = 74:=by omega
      subst this; rfl
    ·rw [if_neg h2,if_neg (by omega)]; omega
   rw [if_neg h,h1]; rfl
theorem foldD_take:∀ (m:Nat) (s:Bytes),foldD m s = s.take m++foldD 0 (s.drop m)
 | 0,s=>by simp
 | m + 1,[]=>by simp [foldD]
 | m + 1,x::t=>by simp only [foldD,List.take_succ_cons,List.drop_succ_cons,List.cons_append]; rw [foldD_take m t]
theorem foldN_D:∀ (k m:Nat) (s:Bytes),s.length≤k→1≤m→foldN k m s = foldD m s
 | 0,m,s,h,_=>by
  have:s = []:=List.length_eq_zero_iff.1 (by omega)
  subst this; cases m<;>rfl
 | k + 1,m,s,h,hm=>by
  rw [foldN]
  by_cases h1:m < s.length
  ·rw [if_pos h1,foldN_D k 74 _ (by simp; omega) (by omega),foldD_take m s]
   congr 1
   obtain ⟨x,t,hx⟩:∃ x t,s.drop m = x::t:=by
    cases hd:s.drop m with
    | nil=>have:=congrArg List.length hd; simp at this; omega
    | cons x t=>exact ⟨x,t,rfl⟩
   rw [hx]; rfl
  ·rw [if_neg h1,foldD_take,List.take_of_length_le (by omega),List.drop_of_length_le (by omega)]
   simp [foldD]
theorem fold_B (s:Bytes):fold s = foldB 0 s:=by
 rw [foldB_D]
 exact foldN_D _ _ _ (Nat.le_refl _) (by omega)
set_option maxRecDepth 8000 in
theorem foldR (s:Bytes) (hs:s.length≤200000):PureFn Tryz.prog 23 [.str s] (.ret (.str (fold s))):=by
 rw [fold_B]
 refine PureFn.of Tryz.func23 rfl (enters_call enters Tryz.func23 rfl) (by simp [Tryz.ntmps23]) ?_
 show W Tryz.prog 29 0 none _ _ _
 refine W.vc (by decide) ?_
 repeat' (first | (simp (disch:=first | omega | (simp only [List.length_append,List.length_cons,List.length_nil,List.length_map,List.length_set]; omega)) only [VC_seq,VC_block,VC_region,VC_loop,VO_nil,VO_plain,VV_some,VS,ofV_int,ofV_lit,ofV_nsl,callOf,isPanic,nextOf,altA,evalOp,ev_const,St.put,argT,thenQ]))
 refine W.loopT (X:=Nat × Nat × Bool × Bytes) (fun x=>[(4,.int .i64 (x.1:Int)),(3,byV x.2.1 x.2.2.1 x.2.2.2),(0,.str s)]) (fun x=>byM x.2.1 x.2.2.1 x.2.2.2)
  (fun x=>x.1≤s.length∧x.2.2.2++foldB x.1 (s.drop x.1) = foldB 0 s∧(x.2.2.1 = false→x.2.2.2 = [])∧x.2.2.2.length≤4 * x.1) (fun x=>s.length - x.1) (0,0,false,[]) ⟨Nat.zero_le _,rfl,fun _=>rfl,Nat.le_refl _⟩ (by simp [holdsT,Av.get,byV,memV]) rfl ?_
 rintro ⟨i,k,z,L⟩ ⟨l1,l2,l3,l4⟩
 simp only at l1 l2 l3 l4 ⊢
 refine .vc (by decide) ?_
 have hde:deN (byV k z L) = byV k z L:=deN_mem _ _ _ _ _ _ _
 by_cases h:i < s.length
 ·obtain ⟨x,hx,hdrop⟩:=drop_at h
  rw [hdrop,foldB] at l2
  have hbs:=bsBs x
  by_cases h1:75≤i
  ·have hrem:∀ t,evBin Tryz.prog .rem t (.int .i64 ((i:Int) - 75)) (.int .i64 74) = some (.int .i64 (((i - 75) % 74:Nat):Int)):=by
    intro t
    have e:((i:Int) - 75) = ((i - 75:Nat):Int):=by omega
    simp only [evBin,e]
    simp [Int.tmod]
   by_cases h2:(i - 75) % 74 = 0
   ·rw [if_pos ⟨h1,h2⟩] at l2
    obtain ⟨k1,ha⟩:=by_app3 k z L (by omega) l3
    obtain ⟨k2,hb⟩:=by_app1 k1 true (L++[13,10,32]) x true (by simp; omega) (fun h=>by cases h)
    have hde1:deN (byV k1 true (L++[13,10,32])) = byV k1 true (L++[13,10,32]):=rfl
    repeat' (first | (simp (disch:=first | omega | (simp only [List.length_append,List.length_cons,List.length_nil,List.length_map,List.length_set]; omega)) only [VC_skip,VC_seq,VC_cond,VC_block,VC_region,VI_true,VO_nil,VO_plain,VO_guard,VG_true,VV_some,VS,blockQ,ofV_bool,ofV_int,ofV_lit,deN_vsl,deN_str,gdA,callOf,isPanic,nextOf,altA,evalOp,ev_tmp,ev_const,Av.get,St.put,thenQ,Nat.reduceEqDiff,↓reduceIte,List.map_cons,List.map_nil,List.getElem?_cons_zero,List.getElem?_cons_succ,List.getElem?_toArray,Option.map_some,Option.bind_some,beq_true,pickA,cond_true,and_true,b_lss,b_geq,b_eql,b_add64,b_sub64,ieq_t,castS,decide_eq_true,ls9,xi9 hx,hbs,hrem,hde,hde1,ha,hb]))
    refine ⟨(i + 1,k2,true,L++[13,10,32]++[x]),⟨by simp only; omega,?_,(fun h=>by cases h),?_⟩,by simp only; omega,⟨rfl,rfl,rfl,trivial⟩,rfl⟩
    ·rw [← l2]; simp
    ·simp; omega
   ·rw [if_neg (by simp [h2])] at l2
    obtain ⟨k2,hb⟩:=by_app1 k z L x true (by omega) l3
    repeat' (first | (simp (disch:=first | omega | (simp only [List.length_append,List.length_cons,List.length_nil,List.length_map,List.length_set]; omega)) only [VC_skip,VC_seq,VC_cond,VC_block,VC_region,VI_true,VI_false,VO_nil,VO_plain,VO_guard,VG_true,VV_some,VS,blockQ,ofV_bool,ofV_int,deN_vsl,deN_str,gdA,callOf,isPanic,nextOf,altA,evalOp,ev_tmp,ev_const,Av.get,St.put,thenQ,Nat.reduceEqDiff,↓reduceIte,List.map_cons,List.map_nil,List.getElem?_cons_zero,List.getElem?_cons_succ,List.getElem?_toArray,Option.map_some,Option.bind_some,beq_true,pickA,cond_true,and_true,b_lss,b_geq,b_eql,b_add64,b_sub64,ieq_f,castS,decide_eq_true,ls9,xi9 hx,hbs,hrem,hde,hb]))
    refine ⟨(i + 1,k2,true,L++[x]),⟨by simp only; omega,?_,(fun h=>by cases h),?_⟩,by simp only; omega,⟨rfl,rfl,rfl,trivial⟩,rfl⟩
    ·rw [← l2]; simp
    ·simp; omega
  ·rw [if_neg (by omega)] at l2
   obtain ⟨k2,hb⟩:=by_app1 k z L x true (by omega) l3
   repeat' (first | (simp (disch:=first | omega | (simp only [List.length_append,List.length_cons,List.length_nil,List.length_map,List.length_set]; omega)) only [VC_skip,VC_seq,VC_cond,VC_block,VC_region,VI_true,VI_false,VO_nil,VO_plain,VO_guard,VG_false,VV_some,VS,blockQ,ofV_bool,ofV_int,deN_vsl,deN_str,gdA,callOf,isPanic,nextOf,altA,evalOp,ev_tmp,ev_const,Av.get,St.put,thenQ,Nat.reduceEqDiff,↓reduceIte,List.map_cons,List.map_nil,List.getElem?_cons_zero,List.getElem?_cons_succ,List.getElem?_toArray,Option.map_some,Option.bind_some,beq_true,Bool.false_eq_true,pickA,and_true,b_lss,b_geq,b_add64,castS,decide_eq_true,decide_eq_false,ls9,xi9 hx,hbs,hde,hb]))
   refine ⟨(i + 1,k2,true,L++[x]),⟨by simp only; omega,?_,(fun h=>by cases h),?_⟩,by simp only; omega,⟨rfl,rfl,rfl,trivial⟩,rfl⟩
   ·rw [← l2]; simp
   ·simp; omega
 ·have e:i = s.length:=by omega
  subst e
  rw [List.drop_length,foldB,List.append_nil] at l2
  have hcv:=by_str k z L l3
  repeat' (first | (simp (disch:=first | omega | (simp only [List.length_append,List.length_cons,List.length_nil,List.length_map,List.length_set]; omega)) only [VC_seq,VC_cond,VC_exit,VC_ret,VC_region,VI_false,VO_nil,VO_plain,VV_some,VS,blockQ,deN_str,callOf,isPanic,nextOf,altA,evalOp,ev_tmp,Av.get,St.put,thenQ,Nat.reduceEqDiff,↓reduceIte,Option.map_some,b_lss,decide_eq_false,ls9,hcv]))
  rw [← l2]
  exact ⟨_,rfl,_,rfl,.refl _⟩
/-! ### told, Text -/
theorem quotesB_take {v:Bytes} {i:Nat} {x:UInt8} (h:v[i]? = some x):quotesB (v.take (i + 1)) = (quotesB (v.take i) || (x == 58 || x == 59 || x == 44)):=by
 unfold quotesB
 rw [List.take_add_one,h,List.any_append]; simp
set_option maxRecDepth 8000 in
theorem toldR (l:Ln) (hp:(told l).length≤200000):PureFn Tryz.prog 43 [encLn l] (.ret (.str (told l))):=by
 obtain ⟨g,n,x,ps,v⟩:=l
 simp only [told,List.length_append,List.length_cons,List.length_nil] at hp
 have hgl:g.length + n.length≤200000:=by
  have:(headT ⟨g,n,x,ps,v⟩).length ≥ g.length + n.length:=by unfold headT; simp only; split<;>simp_all [great_len]
  omega
 have hps:ps.length≤200000:=by
  have:∀ ps:List (Bytes × Bytes),ps.length≤(parsT ps).length:=by
   intro ps; induction ps with
   | nil=>simp
   | cons a ps ih=>simp only [parsT,List.map_cons,List.flatten_cons,List.length_append,List.length_cons,parT,List.length_nil] at ih ⊢; omega
  have:=this ps
  omega
 refine PureFn.of Tryz.func43 rfl (enters_call enters Tryz.func43 rfl) (by simp [Tryz.ntmps43]) ?_
 show W Tryz.prog 77 0 none _ _ _
 simp only [encLn]
 have hg:=greatR g (by omega)
 have hn:=greatR n (by omega)
 have:=great_len g; have:=great_len n
 refine .seq (.vc (by decide) ?_)
 repeat' (first | (simp (disch:=first | omega | (simp only [List.length_append,List.length_cons,List.length_nil,List.length_map,List.length_set]; omega)) only [VC_region,VO_nil,VO_plain,VV_some,VS,AV.told,ofV_lit,callOf,isPanic,nextOf,altA,evalOp,ev_tmp,ev_const,Av.get,St.put,argT,thenQ,↓reduceIte,List.nil_append,cl_agg,List.length_nil]))
 refine .seq (.vc (by decide) ?_)
 repeat' (first | (simp (disch:=first | omega | (simp only [List.length_append,List.length_cons,List.length_nil,List.length_map,List.length_set]; omega)) only [VC_region,VO_nil,VO_plain,VV_some,VS,ofV_lit,callOf,isPanic,nextOf,altA,evalOp,ev_const,St.put,thenQ]))
 refine W.seqT [(1,.ptr 0 0),(3,.str (if g = [] then [] else great g++[46]))] [.cells [.str g,.str n,.vsl 3 x (ps.map encR),.str v] false] (.vc (by decide) ?_) ?_
 ·by_cases h0:g = []
  ·have e0:(g == []) = true:=by simp [h0]
   repeat' (first | (simp (disch:=first | omega | (simp only [List.length_append,List.length_cons,List.length_nil,List.length_map,List.length_set]; omega)) only [VC_skip,VC_seq,VC_cond,VC_region,VI_false,VO_nil,VO_plain,VV_some,VS,ofV_lit,callOf,isPanic,nextOf,altA,evalOp,ev_tmp,ev_const,Av.get,St.put,thenQ,Nat.reduceEqDiff,↓reduceIte,List.getElem?_cons_zero,Option.map_some,Bool.not_true,ldC,and_self,and_true,Nat.add_zero,s_neq,ld9,fa45_0,e0]))
   exact ⟨rfl,by simp [Av.get,h0],trivial⟩
  ·have e0:(g == []) = false:=by simp [h0]
   repeat' (first | (simp (disch:=first | omega | (simp only [List.length_append,List.length_cons,List.length_nil,List.length_map,List.length_set]; omega)) only [VC_seq,VC_cond,VC_region,VI_true,VO_nil,VO_plain,VV_some,VS,ofV_lit,saddL,callOf,isPanic,nextOf,altA,evalOp,ev_tmp,ev_const,ev_func,Av.get,St.put,thenQ,Nat.reduceEqDiff,↓reduceIte,List.map_cons,List.map_nil,List.nil_append,List.append_nil,List.getElem?_cons_zero,Option.map_some,Bool.not_false,ldC,and_self,and_true,Nat.add_zero,s_neq,ld9,fa45_0,e0]) | (guard_target =~ VCall _ _ _ _ _ _ _; refine VCall.pure (by first | with_reducible exact hg) (by (first | rfl | (simp only [AV.hfs,AV.hf,Bool.and_self,Bool.and_true,Bool.true_and,strs_hfs]))) ?_) | (guard_target =~ DCal _ _ _ _ _ _ _; refine DCal.pure (by first | with_reducible exact hg) (by (first | rfl | (simp only [AV.hfs,AV.hf,Bool.and_self,Bool.and_true,Bool.true_and,strs_hfs]))) ?_))
   exact ⟨rfl,by simp [Av.get,h0],trivial⟩
 have hhd:(if g = [] then [] else great g++[46])++great n = headT ⟨g,n,x,ps,v⟩:=by unfold headT; simp only; split<;>simp
 have hhl:(if g = [] then [] else great g++[46]).length≤200001:=by split<;>simp [great_len]; omega
 obtain ⟨hd0,hhd0⟩:∃ hd0,hd0 = (if g = [] then [] else great g++[46]):=⟨_,rfl⟩
 rw [← hhd0] at hhd hhl ⊢
 refine .vc (by decide) ?_
 repeat' (first | (simp (disch:=first | omega | (simp only [List.length_append,List.length_cons,List.length_nil,List.length_map,List.length_set]; omega)) only [VC_seq,VC_block,VC_region,VC_loop,VO_nil,VO_plain,VV_some,VS,ofV_int,saddL,callOf,isPanic,nextOf,altA,evalOp,ev_tmp,ev_const,ev_func,Av.get,St.put,thenQ,Nat.reduceEqDiff,↓reduceIte,List.map_cons,List.map_nil,List.nil_append,List.append_nil,List.getElem?_cons_zero,List.getElem?_cons_succ,Option.map_some,ldC,Nat.zero_add,ld9,fa45_1]) | (guard_target =~ VCall _ _ _ _ _ _ _; refine VCall.pure (by first | with_reducible exact hn) (by (first | rfl | (simp only [AV.hfs,AV.hf,Bool.and_self,Bool.and_true,Bool.true_and,strs_hfs]))) ?_) | (guard_target =~ DCal _ _ _ _ _ _ _; refine DCal.pure (by first | with_reducible exact hn) (by (first | rfl | (simp only [AV.hfs,AV.hf,Bool.and_self,Bool.and_true,Bool.true_and,strs_hfs]))) ?_))
 refine W.loopT (X:=Nat) (fun i=>[(4,.int .i64 (i:Int)),(3,.str (headT ⟨g,n,x,ps,v⟩++parsT (ps.take i))),(1,.ptr 0 0)]) (fun _=>[.cells [.str g,.str n,.vsl 3 x (ps.map encR),.str v] false]) (fun i=>i≤ps.length) (fun i=>ps.length - i) 0 (Nat.zero_le _) ⟨rfl,by simp [Av.get,parsT,hhd],rfl,trivial⟩ rfl ?_
 intro i hi
 refine .vc (by decide) ?_
 by_cases h:i < ps.length
 ·obtain ⟨u,hu,hdrop⟩:=drop_at h
  have hia:∀ H,evIndexAddr Tryz.prog 43 (.vsl 3 x (ps.map encR)) (.int .i64 (i:Int)) H = some (.vptr [.str u.1,.str u.2]):=fun H=>iv43 (v:=encR u) (by simp [hu]) rfl H
  have hle:=parsT_le ps (i + 1)
  rw [parsT_take hu] at hle
  simp only [List.length_append,parT,List.length_cons,List.length_nil,great_len] at hle
  have hql:=qv_len u.2
  have hgu:=greatR u.1 (by omega)
  have hgl:=great_len u.1
  repeat' (first | (simp (disch:=first | omega | (simp only [List.length_append,List.length_cons,List.length_nil,List.length_map,List.length_set]; omega)) only [VC_skip,VC_seq,VC_cond,VC_block,VC_region,VC_loop,VI_true,VO_nil,VO_plain,VV_some,VS,List.length_map,ofV_int,ofV_lit,deN_vsl,callOf,isPanic,nextOf,altA,evalOp,ev_tmp,ev_const,Av.get,St.put,thenQ,Nat.reduceEqDiff,↓reduceIte,List.getElem?_cons_zero,List.getElem?_cons_succ,Option.map_some,ldC,Nat.zero_add,List.drop_succ_cons,List.drop_zero,b_lss,decide_eq_true,lw9,ld43,lv43,fa45_2,fv54_1,hia]))
  refine W.loopT (X:=Nat) (fun j=>[(7,.int .i64 (j:Int)),(6,.str (if quotesB (u.2.take j) then [34] else [])),(5,.str u.2),(4,.int .i64 (i:Int)),(3,.str (headT ⟨g,n,x,ps,v⟩++parsT (ps.take i))),(1,.ptr 0 0)]) (fun _=>[.cells [.str g,.str n,.vsl 3 x (ps.map encR),.str v] false]) (fun j=>j≤u.2.length) (fun j=>u.2.length - j) 0 (Nat.zero_le _) ⟨rfl,rfl,rfl,rfl,rfl,rfl,trivial⟩ rfl ?_
  intro j hj
  refine .vc (by decide) ?_
  by_cases hjl:j < u.2.length
  ·obtain ⟨y,hy,_⟩:=drop_at hjl
   have hqt:=quotesB_take hy
   by_cases hq:y = 58∨y = 59∨y = 44
   ·have hb:(y == 58 || y == 59 || y == 44) = true:=by rcases hq with h | h | h<;>simp [h]
    rw [hb,Bool.or_true] at hqt
    have hn:y.toNat = 58∨y.toNat = 59∨y.toNat = 44:=by rcases hq with h | h | h<;>simp [h]
    rcases hn with hn | hn | hn
    all_goals
     repeat' (first | (simp (disch:=first | omega | (simp only [List.length_append,List.length_cons,List.length_nil,List.length_map,List.length_set]; omega)) only [VC_skip,VC_seq,VC_cond,VC_block,VC_region,VI_true,VO_nil,VO_plain,VO_guard,VG_true,VG_false,VV_some,VS,blockQ,ofV_bool,ofV_int,ofV_lit,deN_str,gdA,callOf,isPanic,nextOf,altA,evalOp,ev_tmp,ev_const,Av.get,St.put,thenQ,Nat.reduceEqDiff,↓reduceIte,List.getElem?_cons_zero,List.getElem?_cons_succ,List.getElem?_toArray,Option.map_some,Option.bind_some,beq_false,Bool.not_true,Bool.not_false,pickA,cond_false,and_self,and_true,b_lss,b_eql,b_add64,ieq_t,ieq_f,castS,decide_eq_true,ls9,xi9 hy]))
     exact ⟨j + 1,by omega,by omega,⟨rfl,by rw [hqt]; rfl,rfl,rfl,rfl,rfl,trivial⟩⟩
   ·have hne:y.toNat ≠ 58∧y.toNat ≠ 59∧y.toNat ≠ 44:=by
     refine ⟨fun h=>hq ?_,fun h=>hq ?_,fun h=>hq ?_⟩
     ·exact .inl (UInt8.toNat_inj.1 h)
     ·exact .inr (.inl (UInt8.toNat_inj.1 h))
     ·exact .inr (.inr (UInt8.toNat_inj.1 h))
    obtain ⟨n1,n2,n3⟩:=hne
    have hb:(y == 58 || y == 59 || y == 44) = false:=by
     have:y ≠ 58∧y ≠ 59∧y ≠ 44:=⟨fun h=>hq (.inl h),fun h=>hq (.inr (.inl h)),fun h=>hq (.inr (.inr h))⟩
     simp [this]
    rw [hb,Bool.or_false] at hqt
    repeat' (first | (simp (disch:=first | omega | (simp only [List.length_append,List.length_cons,List.length_nil,List.length_map,List.length_set]; omega)) only [VC_skip,VC_seq,VC_cond,VC_block,VC_region,VI_true,VI_false,VO_nil,VO_plain,VO_guard,VG_true,VV_some,VS,blockQ,ofV_bool,ofV_int,deN_str,gdA,callOf,isPanic,nextOf,altA,evalOp,ev_tmp,ev_const,Av.get,St.put,thenQ,Nat.reduceEqDiff,↓reduceIte,List.getElem?_cons_zero,List.getElem?_cons_succ,List.getElem?_toArray,Option.map_some,Option.bind_some,beq_false,Bool.not_false,pickA,cond_false,and_self,and_true,b_lss,b_eql,b_add64,ieq_f,castS,decide_eq_true,ls9,xi9 hy]))
    exact ⟨j + 1,by omega,by omega,⟨rfl,by rw [hqt]; rfl,rfl,rfl,rfl,rfl,trivial⟩⟩
  ·have e:j = u.2.length:=by omega
   subst e
   rw [List.take_length]
   have hqv:(if quotesB u.2 then [34] else [])++u.2++(if quotesB u.2 then [34] else []) = qv u.2:=by unfold qv; split<;>simp
   have hq2:(if quotesB u.2 then [34] else ([]:Bytes)).length≤1:=by split<;>simp
   obtain ⟨qq,hqq⟩:∃ qq:Bytes,qq = (if quotesB u.2 then [34] else []):=⟨_,rfl⟩
   rw [← hqq] at hqv hq2 ⊢
   repeat' (first | (simp (disch:=first | omega | (simp only [List.length_append,List.length_cons,List.length_nil,List.length_map,List.length_set]; omega)) only [VC_seq,VC_cond,VC_exit,VC_region,VI_false,VO_nil,VO_plain,VV_some,VS,blockQ,ofV_int,ofV_lit,saddL,deN_str,callOf,isPanic,nextOf,altA,evalOp,ev_tmp,ev_const,ev_func,Av.get,St.put,thenQ,Nat.reduceEqDiff,↓reduceIte,List.map_cons,List.map_nil,List.nil_append,List.append_nil,List.getElem?_cons_zero,List.getElem?_cons_succ,Option.map_some,ldC,and_self,and_true,Nat.zero_add,List.drop_zero,b_lss,b_add64,castS,decide_eq_false,lw9,ls9,ld43,fa45_2,fv54_0,hia]) | (guard_target =~ VCall _ _ _ _ _ _ _; refine VCall.pure (by first | with_reducible exact hgu) (by (first | rfl | (simp only [AV.hfs,AV.hf,Bool.and_self,Bool.and_true,Bool.true_and,strs_hfs]))) ?_) | (guard_target =~ DCal _ _ _ _ _ _ _; refine DCal.pure (by first | with_reducible exact hgu) (by (first | rfl | (simp only [AV.hfs,AV.hf,Bool.and_self,Bool.and_true,Bool.true_and,strs_hfs]))) ?_))
   refine ⟨i + 1,by omega,by omega,⟨rfl,?_,rfl,trivial⟩⟩
   simp only [Av.get,Nat.reduceEqDiff,↓reduceIte]
   rw [parsT_take hu,parT,← hqv]; simp
 ·have e:i = ps.length:=by omega
  subst e
  rw [List.take_length]
  repeat' (first | (simp (disch:=first | omega | (simp only [List.length_append,List.length_cons,List.length_nil,List.length_map,List.length_set]; omega)) only [VC_seq,VC_cond,VC_exit,VC_ret,VC_region,VI_false,VO_nil,VO_plain,VV_some,VS,blockQ,List.length_map,ofV_lit,saddL,deN_vsl,callOf,isPanic,nextOf,altA,evalOp,ev_tmp,ev_const,Av.get,St.put,thenQ,Nat.reduceEqDiff,↓reduceIte,List.getElem?_cons_zero,List.getElem?_cons_succ,Option.map_some,ldC,Nat.zero_add,b_lss,decide_eq_false,ld9,ld43,lv43,fa45_2,fa45_3]))
  refine ⟨_,rfl,_,rfl,Le_str ?_⟩
  simp [told]
def txtT (ls:List Ln):Bytes:=(ls.map fun l=>fold (told l)++[13,10]).flatten
theorem laid_T (c:Cd):laid c = kBEGIN++[13,10]++(kVERSION++c.ver++[13,10])++txtT c.ls++(kEND++[13,10]):=by
 simp [laid,joined,rowsC,txtT,Function.comp_def]
theorem txtT_take {ls:List Ln} {i:Nat} {l:Ln} (h:ls[i]? = some l):txtT (ls.take (i + 1)) = txtT (ls.take i)++(fold (told l)++[13,10]):=by
 unfold txtT; rw [List.take_add_one,h]; simp
theorem txtT_le:∀ (ls:List Ln) (i:Nat),(txtT (ls.take i)).length≤(txtT ls).length
 | [],i=>by simp
 | x::l,0=>by simp [txtT]
 | x::l,i + 1=>by
  have:=txtT_le l i
  simp only [txtT,List.take_succ_cons,List.map_cons,List.flatten_cons,List.length_append] at this ⊢
  omega
set_option maxRecDepth 8000 in
theorem textR (c:Cd) (hp:∀ l ∈ c.ls,(told l).length≤200000) (hb:(laid c).length≤50000000) (hn:c.ls.length≤1000000):PureFn Tryz.prog 17 [encCd c] (.ret (.str (laid c))):=by
 rw [laid_T] at hb ⊢
 obtain ⟨ver,x,ls⟩:=c
 simp only at hp hb hn ⊢
 simp only [List.length_append,List.length_cons,List.length_nil] at hb
 refine PureFn.of Tryz.func17 rfl (enters_call enters Tryz.func17 rfl) (by simp [Tryz.ntmps17]) ?_
 show W Tryz.prog 28 0 none _ _ _
 refine W.vc (by decide) ?_
 simp only [encCd]
 repeat' (first | (simp (disch:=first | omega | (simp only [List.length_append,List.length_cons,List.length_nil,List.length_map,List.length_set]; omega)) only [VC_seq,VC_block,VC_region,VC_loop,VO_nil,VO_plain,VV_some,VS,AV.told,ofV_int,ofV_lit,saddL,callOf,isPanic,nextOf,altA,evalOp,ev_tmp,ev_const,Av.get,St.put,argT,thenQ,Nat.reduceEqDiff,↓reduceIte,List.nil_append,List.getElem?_cons_zero,Option.map_some,ldC,cl_agg,List.length_nil,Nat.add_zero,List.cons_append,ld9,fa24_0]))
 have e0:kBEGIN++[13,10]++(kVERSION++ver++[13,10]) = 66::69::71::73::78::58::86::67::65::82::68::13::10::86::69::82::83::73::79::78::58::(ver++[13,10]):=by simp [kBEGIN,kVERSION]
 rw [← e0]
 obtain ⟨hd,hhd⟩:∃ hd,hd = kBEGIN++[13,10]++(kVERSION++ver++[13,10]):=⟨_,rfl⟩
 have hhl:hd.length≤50000000:=by rw [hhd]; simp only [List.length_append,List.length_cons,List.length_nil]; omega
 rw [← hhd]
 refine W.loopT (X:=Nat) (fun i=>[(4,.int .i64 (i:Int)),(3,.str (hd++txtT (ls.take i))),(1,.ptr 0 0)]) (fun _=>[.cells [.str ver,.vsl 5 x (ls.map encLn)] false]) (fun i=>i≤ls.length) (fun i=>ls.length - i) 0 (Nat.zero_le _) ⟨rfl,by simp [Av.get,txtT],rfl,trivial⟩ rfl ?_
 intro i hi
 refine .vc (by decide) ?_
 have htl:=txtT_le ls i
 by_cases h:i < ls.length
 ·obtain ⟨u,hu,hdrop⟩:=drop_at h
  have hia:∀ H,evIndexAddr Tryz.prog 22 (.vsl 5 x (ls.map encLn)) (.int .i64 (i:Int)) H = some (.vptr [.str u.g,.str u.n,.vsl 3 u.x (u.ps.map encR),.str u.v]):=fun H=>iv22 (v:=encLn u) (by simp [hu]) rfl H
  have hmu:u ∈ ls:=List.mem_of_getElem? hu
  have ht:=toldR u (hp u hmu)
  simp only [encLn] at ht
  have hf:=foldR (told u) (hp u hmu)
  have hle:=txtT_le ls (i + 1)
  rw [txtT_take hu] at hle
  simp only [List.length_append,List.length_cons,List.length_nil] at hle
  repeat' (first | (simp (disch:=first | omega | (simp only [List.length_append,List.length_cons,List.length_nil,List.length_map,List.length_set]; omega)) only [VC_skip,VC_seq,VC_cond,VC_block,VC_region,VI_true,VO_nil,VO_plain,VV_some,VS,blockQ,List.length_map,ofV_int,ofV_lit,saddL,deN_vsl,callOf,isPanic,nextOf,altA,evalOp,ev_tmp,ev_const,ev_func,Av.get,St.put,thenQ,Nat.reduceEqDiff,↓reduceIte,List.map_cons,List.map_nil,List.nil_append,List.append_nil,List.getElem?_cons_zero,List.getElem?_cons_succ,Option.map_some,ldC,List.length_cons,List.length_nil,Nat.reduceAdd,and_self,and_true,Nat.zero_add,List.take_succ_cons,List.take_zero,Nat.le_refl,b_lss,b_add64,castS,decide_eq_true,ld22,lv22,fa24_1,lw45,hia]) | (guard_target =~ VCall _ _ _ _ _ _ _; refine VCall.pure (by first | with_reducible exact ht | with_reducible exact hf) (by (first | rfl | (simp only [AV.hfs,AV.hf,Bool.and_self,Bool.and_true,Bool.true_and,strs_hfs,encR_hfs]))) ?_) | (guard_target =~ DCal _ _ _ _ _ _ _; refine DCal.pure (by first | with_reducible exact ht | with_reducible exact hf) (by (first | rfl | (simp only [AV.hfs,AV.hf,Bool.and_self,Bool.and_true,Bool.true_and,strs_hfs,encR_hfs]))) ?_))
  refine ⟨i + 1,by omega,by omega,⟨rfl,?_,rfl,trivial⟩⟩
  simp only [Av.get,Nat.reduceEqDiff,↓reduceIte]
  rw [txtT_take hu]; simp
 ·have e:i = ls.length:=by omega
  subst e
  rw [List.take_length]
  have hend:kEND++[13,10] = [69,78,68,58,86,67,65,82,68,13,10]:=rfl
  rw [hend]
  repeat' (first | (simp (disch:=first | omega | (simp only [List.length_append,List.length_cons,List.length_nil,List.length_map,List.length_set]; omega)) only [VC_seq,VC_cond,VC_exit,VC_ret,VC_region,VI_false,VO_nil,VO_plain,VV_some,VS,blockQ,List.length_map,ofV_lit,saddL,deN_vsl,callOf,isPanic,nextOf,altA,evalOp,ev_tmp,ev_const,Av.get,St.put,thenQ,Nat.reduceEqDiff,↓reduceIte,List.getElem?_cons_zero,List.getElem?_cons_succ,Option.map_some,ldC,Nat.zero_add,b_lss,decide_eq_false,ld22,lv22,fa24_1]))
  exact ⟨_,rfl,_,rfl,.refl _⟩
end Go.Proofs.YtjlhemfmeboadaaGreatDoor
namespace Go.Proofs.YtjlhemfmeboadaaGreatDoor
set_option linter.unusedVariables false
set_option linter.unusedSimpArgs false
open Go Go.Av Go.RowKit

theorem ok_lettr (x:UInt8):okI true (low x).toNat = lettr x.toNat:=by
 have:=u8_all (fun x=>okI true (low x).toNat == lettr x.toNat) (by decide +kernel) x
 simpa using this
theorem ok_may (x:UInt8):okI false (low x).toNat = mayI x.toNat:=by
 have:=u8_all (fun x=>okI false (low x).toNat == mayI x.toNat) (by decide +kernel) x
 simpa using this
theorem lettr_may (x:UInt8) (h:lettr x.toNat = true):mayI x.toNat = true:=by
 have:=u8_all (fun x=>!lettr x.toNat || mayI x.toNat) (by decide +kernel) x
 simp only [h,Bool.not_true,Bool.false_or] at this
 exact this
theorem low_low (x:UInt8):low (low x) = low x:=by
 have:=u8_all (fun x=>low (low x) == low x) (by decide +kernel) x
 simpa using this
theorem small_small (s:Bytes):small (small s) = small s:=by
 simp only [small,List.map_map]; congr 1; funext x; exact low_low x
theorem nameB_is (s:Bytes):nameB s = isName (small s):=by
 simp [nameB,checkB,partB,small_small]
theorem allB_may:∀ (i:Nat) (s:Bytes),1≤i→allB i (small s) = s.all fun y=>mayI y.toNat
 | i,[],_=>rfl
 | i,x::t,h=>by
  have hi:(i == 0) = false:=by simp; omega
  have ih:=allB_may (i + 1) t (by omega)
  simp only [small,List.map_cons,allB,hi,List.all_cons,ok_may] at ih ⊢
  rw [ih]
theorem nameR_B (s:Bytes):nameR s = nameB s:=by
 rw [nameB_is]
 cases s with
 | nil=>simp [nameR,isName,small]
 | cons x t=>
  have h1:=allB_may 1 t (Nat.le_refl _)
  simp only [nameR,isName,small,List.map_cons,allB,beq_self_eq_true,ok_lettr,List.all_cons,List.length_cons,List.length_map] at h1 ⊢
  rw [h1]
  cases hl:lettr x.toNat with
  | false=>simp
  | true=>
   rw [lettr_may x hl]
   simp only [Bool.true_and]
   cases ha:(t.all fun y=>mayI y.toNat) with
   | false=>simp
   | true=>
    simp only [Bool.and_true,Bool.true_and]
    have e1:decide (((t.length + 1:Nat):Int) ≥ 1) = true:=decide_eq_true (by omega)
    rw [e1,Bool.true_and]
    by_cases h:((t.length + 1:Nat):Int) > 64
    ·rw [decide_eq_true h,decide_eq_false (by omega)]; rfl
    ·rw [decide_eq_false h,decide_eq_true (by omega)]; rfl
theorem nameRB (s:Bytes):PureFn Tryz.prog 80 [.str s] (.ret (.bool (nameB s))):=by rw [← nameR_B]; exact nameRef s
set_option maxRecDepth 8000 in
theorem paramRf (p:Bytes × Bytes):PureFn Tryz.prog 81 [encR p] (.ret (.bool (paramB p))):=by
 obtain ⟨n,v⟩:=p
 refine PureFn.fitA fun hfit=>?_
 have hvl:v.length≤9223372036854775807:=hfit [.str n,.str v] (by simp [encR]) (.str v) (by simp)
 refine PureFn.of Tryz.func81 rfl (enters_call enters Tryz.func81 rfl) (by simp [Tryz.ntmps81]) ?_
 show W Tryz.prog 32 0 none _ _ _
 refine W.vc (by decide) ?_
 simp only [encR]
 repeat' (first | (simp (disch:=first | omega | (simp only [List.length_append,List.length_cons,List.length_nil,List.length_map,List.length_set]; omega)) only [VC_seq,VC_block,VC_region,VC_loop,VO_nil,VO_plain,VV_some,VS,AV.told,ofV_bool,ofV_int,callOf,isPanic,nextOf,altA,evalOp,ev_tmp,ev_const,Av.get,St.put,argT,thenQ,↓reduceIte,List.nil_append,cl_agg,List.length_nil]))
 refine W.loopT (X:=Nat) (fun i=>[(3,.int .i64 (i:Int)),(1,.ptr 0 0)]) (fun _=>[.cells [.str n,.str v] false]) (fun i=>i≤v.length∧(v.take i).all byP = true) (fun i=>v.length - i) 0 ⟨Nat.zero_le _,by simp⟩ ⟨rfl,rfl,trivial⟩ rfl ?_
 rintro i ⟨hi,hall⟩
 refine .vc (by decide) ?_
 by_cases h:i < v.length
 ·obtain ⟨x,hx,_⟩:=drop_at h
  have bad:byP x = false→paramB (n,v) = false:=by
   intro hb
   simp only [paramB,all_at hx hb,Bool.and_false]
  by_cases h1:x.toNat < 32
  ·have hb:byP x = false:=by simp [byP]; omega
   rw [bad hb]
   repeat' (first | (simp (disch:=first | omega | (simp only [List.length_append,List.length_cons,List.length_nil,List.length_map,List.length_set]; omega)) only [VC_skip,VC_seq,VC_cond,VC_block,VC_ret,VC_region,VI_true,VO_nil,VO_plain,VO_guard,VG_false,VV_some,VS,blockQ,ofV_bool,ofV_int,deN_str,gdA,callOf,isPanic,nextOf,altA,evalOp,ev_tmp,ev_const,Av.get,St.put,thenQ,Nat.reduceEqDiff,↓reduceIte,List.getElem?_cons_zero,List.getElem?_cons_succ,List.getElem?_toArray,Option.map_some,Option.bind_some,beq_false,Bool.not_true,pickA,ldC,Nat.zero_add,b_lss,decide_eq_true,ld9,ls9,fa54_1,xi9 hx]))
   exact ⟨_,rfl,_,rfl,.refl _⟩
  ·by_cases h2:x.toNat = 34
   ·have hb:byP x = false:=by simp [byP,h2]
    rw [bad hb]
    repeat' (first | (simp (disch:=first | omega | (simp only [List.length_append,List.length_cons,List.length_nil,List.length_map,List.length_set]; omega)) only [VC_skip,VC_seq,VC_cond,VC_block,VC_ret,VC_region,VI_true,VO_nil,VO_plain,VO_guard,VG_true,VV_some,VS,blockQ,ofV_bool,ofV_int,deN_str,gdA,callOf,isPanic,nextOf,altA,evalOp,ev_tmp,ev_const,Av.get,St.put,thenQ,Nat.reduceEqDiff,↓reduceIte,List.getElem?_cons_zero,List.getElem?_cons_succ,List.getElem?_toArray,Option.map_some,Option.bind_some,beq_false,Bool.not_false,pickA,cond_false,ldC,Nat.zero_add,b_lss,b_eql,ieq_t,decide_eq_true,decide_eq_false,ld9,ls9,fa54_1,xi9 hx]))
    exact ⟨_,rfl,_,rfl,.refl _⟩
   ·have hb:byP x = true:=by simp [byP]; omega
    repeat' (first | (simp (disch:=first | omega | (simp only [List.length_append,List.length_cons,List.length_nil,List.length_map,List.length_set]; omega)) only [VC_skip,VC_seq,VC_cond,VC_block,VC_region,VI_true,VI_false,VO_nil,VO_plain,VO_guard,VG_true,VV_some,VS,blockQ,ofV_bool,ofV_int,deN_str,gdA,callOf,isPanic,nextOf,altA,evalOp,ev_tmp,ev_const,Av.get,St.put,thenQ,Nat.reduceEqDiff,↓reduceIte,List.getElem?_cons_zero,List.getElem?_cons_succ,List.getElem?_toArray,Option.map_some,Option.bind_some,beq_false,Bool.not_false,pickA,cond_false,ldC,and_self,and_true,Nat.zero_add,b_lss,b_eql,b_add64,ieq_f,castS,decide_eq_true,decide_eq_false,ld9,ls9,fa54_1,xi9 hx]))
    exact ⟨i + 1,⟨by omega,all_succ hx hall hb⟩,by omega,⟨rfl,rfl,trivial⟩⟩
 ·have e:i = v.length:=by omega
  subst e
  rw [List.take_length] at hall
  have hn:=nameRB n
  have e2:paramB (n,v) = (nameB n && decide ((v.length:Int)≤100)):=by simp only [paramB,hall,Bool.and_true]
  rw [e2]
  cases hb:nameB n with
  | true=>
   rw [hb] at hn
   by_cases h3:v.length≤100
   ·rw [decide_eq_true (show (v.length:Int)≤100 by omega)]
    repeat' (first | (simp (disch:=first | omega | (simp only [List.length_append,List.length_cons,List.length_nil,List.length_map,List.length_set]; omega)) only [VC_seq,VC_cond,VC_exit,VC_ret,VC_region,VI_false,VO_nil,VO_plain,VO_guard,VG_true,VV_some,VS,blockQ,ofV_bool,ofV_int,deN_str,gdA,callOf,isPanic,nextOf,altA,evalOp,ev_tmp,ev_const,ev_func,Av.get,St.put,thenQ,Nat.reduceEqDiff,↓reduceIte,Bool.and_self,List.map_cons,List.map_nil,List.nil_append,List.append_nil,List.getElem?_cons_zero,List.getElem?_cons_succ,List.getElem?_toArray,Option.map_some,Option.bind_some,beq_true,pickA,cond_true,ldC,and_self,Nat.add_zero,Nat.zero_add,b_lss,b_leq,decide_eq_true,decide_eq_false,ld9,ls9,fa54_0,fa54_1]) | (guard_target =~ VCall _ _ _ _ _ _ _; refine VCall.pure (by first | with_reducible exact hn) (by (first | rfl | (simp only [AV.hfs,AV.hf,Bool.and_self,Bool.and_true,Bool.true_and,strs_hfs]))) ?_) | (guard_target =~ DCal _ _ _ _ _ _ _; refine DCal.pure (by first | with_reducible exact hn) (by (first | rfl | (simp only [AV.hfs,AV.hf,Bool.and_self,Bool.and_true,Bool.true_and,strs_hfs]))) ?_))
    exact ⟨_,rfl,_,rfl,.refl _⟩
   ·rw [decide_eq_false (show ¬ (v.length:Int)≤100 by omega)]
    repeat' (first | (simp (disch:=first | omega | (simp only [List.length_append,List.length_cons,List.length_nil,List.length_map,List.length_set]; omega)) only [VC_seq,VC_cond,VC_exit,VC_ret,VC_region,VI_false,VO_nil,VO_plain,VO_guard,VG_true,VV_some,VS,blockQ,ofV_bool,ofV_int,deN_str,gdA,callOf,isPanic,nextOf,altA,evalOp,ev_tmp,ev_const,ev_func,Av.get,St.put,thenQ,Nat.reduceEqDiff,↓reduceIte,List.map_cons,List.map_nil,List.nil_append,List.append_nil,List.getElem?_cons_zero,List.getElem?_cons_succ,List.getElem?_toArray,Option.map_some,Option.bind_some,beq_true,pickA,cond_true,ldC,Nat.add_zero,Nat.zero_add,b_lss,b_leq,decide_eq_false,Bool.and_false,ld9,ls9,fa54_0,fa54_1]) | (guard_target =~ VCall _ _ _ _ _ _ _; refine VCall.pure (by first | with_reducible exact hn) (by (first | rfl | (simp only [AV.hfs,AV.hf,Bool.and_self,Bool.and_true,Bool.true_and,strs_hfs]))) ?_) | (guard_target =~ DCal _ _ _ _ _ _ _; refine DCal.pure (by first | with_reducible exact hn) (by (first | rfl | (simp only [AV.hfs,AV.hf,Bool.and_self,Bool.and_true,Bool.true_and,strs_hfs]))) ?_))
    exact ⟨_,rfl,_,rfl,.refl _⟩
  | false=>
   rw [hb] at hn
   repeat' (first | (simp (disch:=first | omega | (simp only [List.length_append,List.length_cons,List.length_nil,List.length_map,List.length_set]; omega)) only [VC_seq,VC_cond,VC_exit,VC_ret,VC_region,VI_false,VO_nil,VO_plain,VO_guard,VG_false,VV_some,VS,blockQ,ofV_bool,deN_str,gdA,callOf,isPanic,nextOf,altA,evalOp,ev_tmp,ev_const,ev_func,Av.get,St.put,thenQ,Nat.reduceEqDiff,↓reduceIte,List.map_cons,List.map_nil,List.nil_append,List.append_nil,List.getElem?_cons_zero,List.getElem?_cons_succ,List.getElem?_toArray,Option.map_some,Option.bind_some,beq_true,Bool.false_eq_true,pickA,ldC,Nat.add_zero,Nat.zero_add,b_lss,decide_eq_false,Bool.false_and,ld9,ls9,fa54_0,fa54_1]) | (guard_target =~ VCall _ _ _ _ _ _ _; refine VCall.pure (by first | with_reducible exact hn) (by (first | rfl | (simp only [AV.hfs,AV.hf,Bool.and_self,Bool.and_true,Bool.true_and,strs_hfs]))) ?_) | (guard_target =~ DCal _ _ _ _ _ _ _; refine DCal.pure (by first | with_reducible exact hn) (by (first | rfl | (simp only [AV.hfs,AV.hf,Bool.and_self,Bool.and_true,Bool.true_and,strs_hfs]))) ?_))
   exact ⟨_,rfl,_,rfl,.refl _⟩
set_option maxRecDepth 8000 in
theorem lineRf (l : Ln) : PureFn Tryz.prog 56 [encLn l] (.ret (.bool (lineB l))) := by
  refine PureFn.fitA fun hfit => ?_
  obtain ⟨g, n, x, ps, v⟩ := l
  have hvl : v.length ≤ 9223372036854775807 := hfit [.str g, .str n, .vsl 3 x (ps.map encR), .str v] (by simp [encLn]) (.str v) (by simp)
  have hpl : ps.length ≤ 9223372036854775807 := by
    have : (ps.map encR).length ≤ 9223372036854775807 := hfit [.str g, .str n, .vsl 3 x (ps.map encR), .str v] (by simp [encLn]) (.vsl 3 x (ps.map encR)) (by simp)
    simpa using this
  refine PureFn.of Tryz.func56 rfl (enters_call enters Tryz.func56 rfl) (by simp [Tryz.ntmps56]) ?_
  show W Tryz.prog 80 0 none _ _ _
  simp only [encLn]
  have hs := smallR n
  have hn := nameRB (small n)
  have hg := nameRB g
  cases c1 : nameB (small n) with
  | false =>
    have e : lineB ⟨g, n, x, ps, v⟩ = false := by simp [lineB, c1]
    rw [c1] at hn; rw [e]
    refine .vc (by decide) ?_
    repeat' (first | (simp (disch := first | omega | (simp only [List.length_append, List.length_cons, List.length_nil, List.length_map, List.length_set]; omega)) only [VC_seq, VC_cond, VC_ret, VC_region, VI_true, VO_nil, VO_plain, VO_guard, VG_false, VV_some, VS, u_notb, AV.told, ofV_bool, gdA, callOf, isPanic, nextOf, altA, evalOp, ev_tmp, ev_const, ev_func, Av.get, St.put, argT, thenQ, Nat.reduceEqDiff, ↓reduceIte, List.map_cons, List.map_nil, List.nil_append, List.append_nil, List.getElem?_cons_zero, List.getElem?_cons_succ, List.getElem?_toArray, Option.map_some, Option.bind_some, beq_false, Bool.not_true, Bool.not_false, pickA, ldC, cl_agg, List.length_nil, Nat.zero_add, ld9, fa45_1]) | (guard_target =~ VCall _ _ _ _ _ _ _; refine VCall.pure (by first | with_reducible exact hs | with_reducible exact hn) (by (first | rfl | (simp only [AV.hfs, AV.hf, Bool.and_self, Bool.and_true, Bool.true_and, strs_hfs]))) ?_) | (guard_target =~ DCal _ _ _ _ _ _ _; refine DCal.pure (by first | with_reducible exact hs | with_reducible exact hn) (by (first | rfl | (simp only [AV.hfs, AV.hf, Bool.and_self, Bool.and_true, Bool.true_and, strs_hfs]))) ?_))
    exact ⟨_, rfl, _, rfl, .refl _⟩
  | true =>
  rw [c1] at hn
  cases c2 : small n == sBegin with
  | true =>
    have e : lineB ⟨g, n, x, ps, v⟩ = false := by simp [lineB, c2]
    simp only [sBegin] at c2; rw [e]
    refine .vc (by decide) ?_
    repeat' (first | (simp (disch := first | omega | (simp only [List.length_append, List.length_cons, List.length_nil, List.length_map, List.length_set]; omega)) only [VC_seq, VC_cond, VC_ret, VC_region, VI_true, VO_nil, VO_plain, VO_guard, VG_true, VG_false, VV_some, VS, u_notb, AV.told, ofV_bool, ofV_lit, gdA, callOf, isPanic, nextOf, altA, evalOp, ev_tmp, ev_const, ev_func, Av.get, St.put, argT, thenQ, Nat.reduceEqDiff, ↓reduceIte, List.map_cons, List.map_nil, List.nil_append, List.append_nil, List.getElem?_cons_zero, List.getElem?_cons_succ, List.getElem?_toArray, Option.map_some, Option.bind_some, beq_false, Bool.not_true, Bool.not_false, pickA, cond_false, ldC, cl_agg, List.length_nil, Nat.zero_add, s_eql, ld9, fa45_1, c2]) | (guard_target =~ VCall _ _ _ _ _ _ _; refine VCall.pure (by first | with_reducible exact hs | with_reducible exact hn) (by (first | rfl | (simp only [AV.hfs, AV.hf, Bool.and_self, Bool.and_true, Bool.true_and, strs_hfs]))) ?_) | (guard_target =~ DCal _ _ _ _ _ _ _; refine DCal.pure (by first | with_reducible exact hs | with_reducible exact hn) (by (first | rfl | (simp only [AV.hfs, AV.hf, Bool.and_self, Bool.and_true, Bool.true_and, strs_hfs]))) ?_))
    exact ⟨_, rfl, _, rfl, .refl _⟩
  | false =>
  cases c3 : small n == sEnd with
  | true =>
    have e : lineB ⟨g, n, x, ps, v⟩ = false := by simp [lineB, c3]
    simp only [sBegin] at c2; simp only [sEnd] at c3; rw [e]
    refine .vc (by decide) ?_
    repeat' (first | (simp (disch := first | omega | (simp only [List.length_append, List.length_cons, List.length_nil, List.length_map, List.length_set]; omega)) only [VC_seq, VC_cond, VC_ret, VC_region, VI_true, VO_nil, VO_plain, VO_guard, VG_true, VG_false, VV_some, VS, u_notb, AV.told, ofV_bool, ofV_lit, gdA, callOf, isPanic, nextOf, altA, evalOp, ev_tmp, ev_const, ev_func, Av.get, St.put, argT, thenQ, Nat.reduceEqDiff, ↓reduceIte, List.map_cons, List.map_nil, List.nil_append, List.append_nil, List.getElem?_cons_zero, List.getElem?_cons_succ, List.getElem?_toArray, Option.map_some, Option.bind_some, beq_false, Bool.not_true, Bool.not_false, pickA, cond_false, ldC, cl_agg, List.length_nil, Nat.zero_add, s_eql, ld9, fa45_1, c2, c3]) | (guard_target =~ VCall _ _ _ _ _ _ _; refine VCall.pure (by first | with_reducible exact hs | with_reducible exact hn) (by (first | rfl | (simp only [AV.hfs, AV.hf, Bool.and_self, Bool.and_true, Bool.true_and, strs_hfs]))) ?_) | (guard_target =~ DCal _ _ _ _ _ _ _; refine DCal.pure (by first | with_reducible exact hs | with_reducible exact hn) (by (first | rfl | (simp only [AV.hfs, AV.hf, Bool.and_self, Bool.and_true, Bool.true_and, strs_hfs]))) ?_))
    exact ⟨_, rfl, _, rfl, .refl _⟩
  | false =>
  cases c4 : small n == sVersion with
  | true =>
    have e : lineB ⟨g, n, x, ps, v⟩ = false := by simp [lineB, c4]
    simp only [sBegin] at c2; simp only [sEnd] at c3; simp only [sVersion] at c4; rw [e]
    refine .vc (by decide) ?_
    repeat' (first | (simp (disch := first | omega | (simp only [List.length_append, List.length_cons, List.length_nil, List.length_map, List.length_set]; omega)) only [VC_seq, VC_cond, VC_ret, VC_region, VI_true, VO_nil, VO_plain, VO_guard, VG_true, VG_false, VV_some, VS, u_notb, AV.told, ofV_bool, ofV_lit, gdA, callOf, isPanic, nextOf, altA, evalOp, ev_tmp, ev_const, ev_func, Av.get, St.put, argT, thenQ, Nat.reduceEqDiff, ↓reduceIte, List.map_cons, List.map_nil, List.nil_append, List.append_nil, List.getElem?_cons_zero, List.getElem?_cons_succ, List.getElem?_toArray, Option.map_some, Option.bind_some, beq_false, Bool.not_true, Bool.not_false, pickA, cond_false, ldC, cl_agg, List.length_nil, Nat.zero_add, s_eql, ld9, fa45_1, c2, c3, c4]) | (guard_target =~ VCall _ _ _ _ _ _ _; refine VCall.pure (by first | with_reducible exact hs | with_reducible exact hn) (by (first | rfl | (simp only [AV.hfs, AV.hf, Bool.and_self, Bool.and_true, Bool.true_and, strs_hfs]))) ?_) | (guard_target =~ DCal _ _ _ _ _ _ _; refine DCal.pure (by first | with_reducible exact hs | with_reducible exact hn) (by (first | rfl | (simp only [AV.hfs, AV.hf, Bool.and_self, Bool.and_true, Bool.true_and, strs_hfs]))) ?_))
    exact ⟨_, rfl, _, rfl, .refl _⟩
  | false =>
  have e0 : lineB ⟨g, n, x, ps, v⟩ = ((g == [] || nameB g) && (decide ((ps.length : Int) ≤ 8) && (ps.all paramB && (decide ((v.length : Int) ≤ 4000) && v.all byL)))) := by
    simp only [lineB, c1, c2, c3, c4, Bool.not_false, Bool.true_and]
  simp only [sBegin] at c2; simp only [sEnd] at c3; simp only [sVersion] at c4
  have loops : ∀ (T : List (Nat × AV)), (g == [] || nameB g) = true → ps.length ≤ 8 → v.length ≤ 4000 → holdsT T [(1, .ptr 0 0)] →
      W Tryz.prog 80 0 none (match Tryz.f56.body with | some (.seq _ (.seq _ (.seq _ c))) => c | _ => .skip) (retQ Tryz.prog Tryz.f56.results.toList (.ret (.bool (lineB ⟨g, n, x, ps, v⟩)))) ⟨T, [.cells [.str g, .str n, .vsl 3 x (ps.map encR), .str v] false], []⟩ := by
    intro T q1 q2 q3 hT
    rw [e0, q1, decide_eq_true (show (ps.length : Int) ≤ 8 by omega), decide_eq_true (show (v.length : Int) ≤ 4000 by omega)]
    simp only [Bool.true_and]
    refine W.fewer _ hT ?_
    show W Tryz.prog 80 0 none (.seq (.seq _ _) _) _ _
    refine .vc (by decide) ?_
    repeat' (first | (simp (disch := first | omega | (simp only [List.length_append, List.length_cons, List.length_nil, List.length_map, List.length_set]; omega)) only [VC_seq, VC_block, VC_region, VC_loop, VO_nil, VO_plain, VV_some, VS, ofV_int, callOf, isPanic, nextOf, altA, evalOp, ev_const, St.put, thenQ]))
    refine W.loopT (X := Nat) (fun i => [(4, .int .i64 (i : Int)), (1, .ptr 0 0)]) (fun _ => [.cells [.str g, .str n, .vsl 3 x (ps.map encR), .str v] false]) (fun i => i ≤ ps.length ∧ (ps.take i).all paramB = true) (fun i => ps.length - i) 0 ⟨Nat.zero_le _, by simp⟩ ⟨rfl, rfl, trivial⟩ rfl ?_
    rintro i ⟨hi, hall⟩
    refine .vc (by decide) ?_
    by_cases h : i < ps.length
    · obtain ⟨u, hu, _⟩ := drop_at h
      have hia : ∀ H, evIndexAddr Tryz.prog 43 (.vsl 3 x (ps.map encR)) (.int .i64 (i : Int)) H = some (.vptr [.str u.1, .str u.2]) := fun H => iv43 (v := encR u) (by simp [hu]) rfl H
      have hpu := paramRf u
      simp only [encR] at hpu
      cases hb : paramB u with
      | false =>
        rw [hb] at hpu
        rw [all_at hu hb, Bool.false_and]
        repeat' (first | (simp (disch := first | omega | (simp only [List.length_append, List.length_cons, List.length_nil, List.length_map, List.length_set]; omega)) only [VC_skip, VC_seq, VC_cond, VC_block, VC_ret, VC_region, VI_true, VO_nil, VO_plain, VV_some, VS, blockQ, List.length_map, u_notb, ofV_bool, deN_vsl, callOf, isPanic, nextOf, altA, evalOp, ev_tmp, ev_const, ev_func, Av.get, St.put, thenQ, Nat.reduceEqDiff, ↓reduceIte, List.map_cons, List.map_nil, List.nil_append, List.append_nil, List.getElem?_cons_zero, List.getElem?_cons_succ, Option.map_some, Bool.not_false, ldC, List.length_cons, List.length_nil, Nat.reduceAdd, Nat.zero_add, List.take_succ_cons, List.take_zero, Nat.le_refl, b_lss, decide_eq_true, ld43, lv43, fa45_2, lw54, hia]) | (guard_target =~ VCall _ _ _ _ _ _ _; refine VCall.pure (by first | with_reducible exact hpu) (by (first | rfl | (simp only [AV.hfs, AV.hf, Bool.and_self, Bool.and_true, Bool.true_and, strs_hfs]))) ?_) | (guard_target =~ DCal _ _ _ _ _ _ _; refine DCal.pure (by first | with_reducible exact hpu) (by (first | rfl | (simp only [AV.hfs, AV.hf, Bool.and_self, Bool.and_true, Bool.true_and, strs_hfs]))) ?_))
        exact ⟨_, rfl, _, rfl, .refl _⟩
      | true =>
        rw [hb] at hpu
        repeat' (first | (simp (disch := first | omega | (simp only [List.length_append, List.length_cons, List.length_nil, List.length_map, List.length_set]; omega)) only [VC_skip, VC_seq, VC_cond, VC_block, VC_region, VI_true, VI_false, VO_nil, VO_plain, VV_some, VS, blockQ, List.length_map, u_notb, ofV_int, deN_vsl, callOf, isPanic, nextOf, altA, evalOp, ev_tmp, ev_const, ev_func, Av.get, St.put, thenQ, Nat.reduceEqDiff, ↓reduceIte, List.map_cons, List.map_nil, List.nil_append, List.append_nil, List.getElem?_cons_zero, List.getElem?_cons_succ, Option.map_some, Bool.not_true, ldC, List.length_cons, List.length_nil, Nat.reduceAdd, and_self, and_true, Nat.zero_add, List.take_succ_cons, List.take_zero, Nat.le_refl, b_lss, b_add64, castS, decide_eq_true, ld43, lv43, fa45_2, lw54, hia]) | (guard_target =~ VCall _ _ _ _ _ _ _; refine VCall.pure (by first | with_reducible exact hpu) (by (first | rfl | (simp only [AV.hfs, AV.hf, Bool.and_self, Bool.and_true, Bool.true_and, strs_hfs]))) ?_) | (guard_target =~ DCal _ _ _ _ _ _ _; refine DCal.pure (by first | with_reducible exact hpu) (by (first | rfl | (simp only [AV.hfs, AV.hf, Bool.and_self, Bool.and_true, Bool.true_and, strs_hfs]))) ?_))
        exact ⟨i + 1, ⟨by omega, all_succ hu hall hb⟩, by omega, ⟨rfl, rfl, trivial⟩⟩
    · have e : i = ps.length := by omega
      subst e
      rw [List.take_length] at hall
      rw [hall, Bool.true_and]
      repeat' (first | (simp (disch := first | omega | (simp only [List.length_append, List.length_cons, List.length_nil, List.length_map, List.length_set]; omega)) only [VC_seq, VC_cond, VC_block, VC_exit, VC_region, VC_loop, VI_false, VO_nil, VO_plain, VV_some, VS, blockQ, List.length_map, ofV_int, deN_vsl, callOf, isPanic, nextOf, altA, evalOp, ev_tmp, ev_const, Av.get, St.put, thenQ, Nat.reduceEqDiff, ↓reduceIte, List.getElem?_cons_zero, List.getElem?_cons_succ, Option.map_some, ldC, Nat.zero_add, b_lss, decide_eq_false, ld43, lv43, fa45_2]))
      refine W.loopT (X := Nat) (fun i => [(5, .int .i64 (i : Int)), (1, .ptr 0 0)]) (fun _ => [.cells [.str g, .str n, .vsl 3 x (ps.map encR), .str v] false]) (fun i => i ≤ v.length ∧ (v.take i).all byL = true) (fun i => v.length - i) 0 ⟨Nat.zero_le _, by simp⟩ ⟨rfl, rfl, trivial⟩ rfl ?_
      rintro i ⟨hi, hall2⟩
      refine .vc (by decide) ?_
      by_cases h : i < v.length
      · obtain ⟨y, hy, _⟩ := drop_at h
        by_cases h1 : y.toNat < 32
        · by_cases h2 : y.toNat = 9
          · have hb : byL y = true := by simp [byL, h2]
            repeat' (first | (simp (disch := first | omega | (simp only [List.length_append, List.length_cons, List.length_nil, List.length_map, List.length_set]; omega)) only [VC_skip, VC_seq, VC_cond, VC_block, VC_region, VI_true, VI_false, VO_nil, VO_plain, VO_guard, VG_true, VV_some, VS, blockQ, ofV_bool, ofV_int, deN_str, gdA, callOf, isPanic, nextOf, altA, evalOp, ev_tmp, ev_const, Av.get, St.put, thenQ, Nat.reduceEqDiff, ↓reduceIte, List.getElem?_cons_zero, List.getElem?_cons_succ, List.getElem?_toArray, Option.map_some, Option.bind_some, beq_true, pickA, cond_true, ldC, and_self, and_true, Nat.zero_add, b_lss, b_neq, b_add64, ine_f, castS, decide_eq_true, ld9, ls9, fa45_3, xi9 hy]))
            exact ⟨i + 1, ⟨by omega, all_succ hy hall2 hb⟩, by omega, ⟨rfl, rfl, trivial⟩⟩
          · have hb : byL y = false := by simp [byL]; omega
            rw [all_at hy hb]
            repeat' (first | (simp (disch := first | omega | (simp only [List.length_append, List.length_cons, List.length_nil, List.length_map, List.length_set]; omega)) only [VC_skip, VC_seq, VC_cond, VC_block, VC_ret, VC_region, VI_true, VO_nil, VO_plain, VO_guard, VG_true, VV_some, VS, blockQ, ofV_bool, ofV_int, deN_str, gdA, callOf, isPanic, nextOf, altA, evalOp, ev_tmp, ev_const, Av.get, St.put, thenQ, Nat.reduceEqDiff, ↓reduceIte, List.getElem?_cons_zero, List.getElem?_cons_succ, List.getElem?_toArray, Option.map_some, Option.bind_some, beq_true, pickA, cond_true, ldC, Nat.zero_add, b_lss, b_neq, ine_t, decide_eq_true, ld9, ls9, fa45_3, xi9 hy]))
            exact ⟨_, rfl, _, rfl, .refl _⟩
        · have hb : byL y = true := by simp [byL]; omega
          repeat' (first | (simp (disch := first | omega | (simp only [List.length_append, List.length_cons, List.length_nil, List.length_map, List.length_set]; omega)) only [VC_skip, VC_seq, VC_cond, VC_block, VC_region, VI_true, VI_false, VO_nil, VO_plain, VO_guard, VG_false, VV_some, VS, blockQ, ofV_bool, ofV_int, deN_str, gdA, callOf, isPanic, nextOf, altA, evalOp, ev_tmp, ev_const, Av.get, St.put, thenQ, Nat.reduceEqDiff, ↓reduceIte, List.getElem?_cons_zero, List.getElem?_cons_succ, List.getElem?_toArray, Option.map_some, Option.bind_some, beq_true, Bool.false_eq_true, pickA, ldC, and_self, and_true, Nat.zero_add, b_lss, b_add64, castS, decide_eq_true, decide_eq_false, ld9, ls9, fa45_3, xi9 hy]))
          exact ⟨i + 1, ⟨by omega, all_succ hy hall2 hb⟩, by omega, ⟨rfl, rfl, trivial⟩⟩
      · have e : i = v.length := by omega
        subst e
        rw [List.take_length] at hall2
        rw [hall2]
        repeat' (first | (simp (disch := first | omega | (simp only [List.length_append, List.length_cons, List.length_nil, List.length_map, List.length_set]; omega)) only [VC_seq, VC_cond, VC_exit, VC_ret, VC_region, VI_false, VO_nil, VO_plain, VV_some, VS, blockQ, ofV_bool, deN_str, callOf, isPanic, nextOf, altA, evalOp, ev_tmp, ev_const, Av.get, St.put, thenQ, Nat.reduceEqDiff, ↓reduceIte, List.getElem?_cons_zero, List.getElem?_cons_succ, Option.map_some, ldC, Nat.zero_add, b_lss, decide_eq_false, ld9, ls9, fa45_3]))
        exact ⟨_, rfl, _, rfl, .refl _⟩
  refine .seq (.vc (by decide) ?_)
  repeat' (first | (simp (disch := first | omega | (simp only [List.length_append, List.length_cons, List.length_nil, List.length_map, List.length_set]; omega)) only [VC_region, VO_nil, VO_plain, VV_some, VS, AV.told, ofV_bool, callOf, isPanic, nextOf, altA, evalOp, ev_tmp, ev_const, Av.get, St.put, argT, thenQ, ↓reduceIte, List.nil_append, cl_agg, List.length_nil]))
  refine .seq (.vc (by decide) ?_)
  repeat' (first | (simp (disch := first | omega | (simp only [List.length_append, List.length_cons, List.length_nil, List.length_map, List.length_set]; omega)) only [VC_region, VO_nil, VO_plain, VV_some, VS, callOf, isPanic, nextOf, altA, evalOp, ev_tmp, ev_func, Av.get, St.put, thenQ, Nat.reduceEqDiff, ↓reduceIte, List.map_cons, List.map_nil, List.nil_append, List.append_nil, List.getElem?_cons_zero, List.getElem?_cons_succ, Option.map_some, ldC, Nat.zero_add, ld9, fa45_1]) | (guard_target =~ VCall _ _ _ _ _ _ _; refine VCall.pure (by first | with_reducible exact hs) (by (first | rfl | (simp only [AV.hfs, AV.hf, Bool.and_self, Bool.and_true, Bool.true_and, strs_hfs]))) ?_) | (guard_target =~ DCal _ _ _ _ _ _ _; refine DCal.pure (by first | with_reducible exact hs) (by (first | rfl | (simp only [AV.hfs, AV.hf, Bool.and_self, Bool.and_true, Bool.true_and, strs_hfs]))) ?_))
  cases c5 : g == [] with
  | true =>
    by_cases h2 : ps.length ≤ 8
    · by_cases h3 : v.length ≤ 4000
      · refine W.seqT [(1, .ptr 0 0)] [.cells [.str g, .str n, .vsl 3 x (ps.map encR), .str v] false] (.vc (by decide) ?_) (loops _ (by rw [c5]; rfl) h2 h3 ⟨rfl, trivial⟩)
        repeat' (first | (simp (disch := first | omega | (simp only [List.length_append, List.length_cons, List.length_nil, List.length_map, List.length_set]; omega)) only [VC_skip, VC_seq, VC_cond, VC_region, VI_false, VO_nil, VO_plain, VO_guard, VG_true, VG_false, VV_some, VS, List.length_map, u_notb, ofV_bool, ofV_int, ofV_lit, deN_vsl, deN_str, gdA, callOf, isPanic, nextOf, altA, evalOp, ev_tmp, ev_const, ev_func, Av.get, St.put, thenQ, Nat.reduceEqDiff, ↓reduceIte, List.map_cons, List.map_nil, List.nil_append, List.append_nil, List.getElem?_cons_zero, List.getElem?_cons_succ, List.getElem?_toArray, Option.map_some, Option.bind_some, beq_false, beq_true, Bool.not_true, Bool.not_false, Bool.false_eq_true, pickA, cond_false, ldC, and_self, and_true, Nat.add_zero, Nat.zero_add, b_gtr, s_eql, s_neq, decide_eq_false, ld9, ls9, ld43, lv43, fa45_0, fa45_2, fa45_3, c2, c3, c4, c5]) | (guard_target =~ VCall _ _ _ _ _ _ _; refine VCall.pure (by first | with_reducible exact hn) (by (first | rfl | (simp only [AV.hfs, AV.hf, Bool.and_self, Bool.and_true, Bool.true_and, strs_hfs]))) ?_) | (guard_target =~ DCal _ _ _ _ _ _ _; refine DCal.pure (by first | with_reducible exact hn) (by (first | rfl | (simp only [AV.hfs, AV.hf, Bool.and_self, Bool.and_true, Bool.true_and, strs_hfs]))) ?_))
        exact ⟨rfl, trivial⟩
      · have e : lineB ⟨g, n, x, ps, v⟩ = false := by rw [e0, decide_eq_false (show ¬ (v.length : Int) ≤ 4000 by omega)]; simp
        rw [e]
        refine .vc (by decide) ?_
        repeat' (first | (simp (disch := first | omega | (simp only [List.length_append, List.length_cons, List.length_nil, List.length_map, List.length_set]; omega)) only [VC_seq, VC_cond, VC_ret, VC_region, VI_true, VO_nil, VO_plain, VO_guard, VG_true, VG_false, VV_some, VS, List.length_map, u_notb, ofV_bool, ofV_int, ofV_lit, deN_vsl, deN_str, gdA, callOf, isPanic, nextOf, altA, evalOp, ev_tmp, ev_const, ev_func, Av.get, St.put, thenQ, Nat.reduceEqDiff, ↓reduceIte, List.map_cons, List.map_nil, List.nil_append, List.append_nil, List.getElem?_cons_zero, List.getElem?_cons_succ, List.getElem?_toArray, Option.map_some, Option.bind_some, beq_false, beq_true, Bool.not_true, Bool.not_false, Bool.false_eq_true, pickA, cond_false, ldC, Nat.add_zero, Nat.zero_add, b_gtr, s_eql, s_neq, decide_eq_true, decide_eq_false, ld9, ls9, ld43, lv43, fa45_0, fa45_2, fa45_3, c2, c3, c4, c5]) | (guard_target =~ VCall _ _ _ _ _ _ _; refine VCall.pure (by first | with_reducible exact hn) (by (first | rfl | (simp only [AV.hfs, AV.hf, Bool.and_self, Bool.and_true, Bool.true_and, strs_hfs]))) ?_) | (guard_target =~ DCal _ _ _ _ _ _ _; refine DCal.pure (by first | with_reducible exact hn) (by (first | rfl | (simp only [AV.hfs, AV.hf, Bool.and_self, Bool.and_true, Bool.true_and, strs_hfs]))) ?_))
        exact ⟨_, rfl, _, rfl, .refl _⟩
    · have e : lineB ⟨g, n, x, ps, v⟩ = false := by rw [e0, decide_eq_false (show ¬ (ps.length : Int) ≤ 8 by omega)]; simp
      rw [e]
      refine .vc (by decide) ?_
      repeat' (first | (simp (disch := first | omega | (simp only [List.length_append, List.length_cons, List.length_nil, List.length_map, List.length_set]; omega)) only [VC_seq, VC_cond, VC_ret, VC_region, VI_true, VO_nil, VO_plain, VO_guard, VG_true, VG_false, VV_some, VS, List.length_map, u_notb, ofV_bool, ofV_int, ofV_lit, deN_vsl, gdA, callOf, isPanic, nextOf, altA, evalOp, ev_tmp, ev_const, ev_func, Av.get, St.put, thenQ, Nat.reduceEqDiff, ↓reduceIte, List.map_cons, List.map_nil, List.nil_append, List.append_nil, List.getElem?_cons_zero, List.getElem?_cons_succ, List.getElem?_toArray, Option.map_some, Option.bind_some, beq_false, beq_true, Bool.not_true, Bool.not_false, Bool.false_eq_true, pickA, cond_false, ldC, Nat.add_zero, Nat.zero_add, b_gtr, s_eql, s_neq, decide_eq_true, ld9, ld43, lv43, fa45_0, fa45_2, c2, c3, c4, c5]) | (guard_target =~ VCall _ _ _ _ _ _ _; refine VCall.pure (by first | with_reducible exact hn) (by (first | rfl | (simp only [AV.hfs, AV.hf, Bool.and_self, Bool.and_true, Bool.true_and, strs_hfs]))) ?_) | (guard_target =~ DCal _ _ _ _ _ _ _; refine DCal.pure (by first | with_reducible exact hn) (by (first | rfl | (simp only [AV.hfs, AV.hf, Bool.and_self, Bool.and_true, Bool.true_and, strs_hfs]))) ?_))
      exact ⟨_, rfl, _, rfl, .refl _⟩
  | false =>
    cases c6 : nameB g with
    | false =>
      have e : lineB ⟨g, n, x, ps, v⟩ = false := by rw [e0, c5, c6]; rfl
      rw [e]
      rw [c6] at hg
      refine .vc (by decide) ?_
      repeat' (first | (simp (disch := first | omega | (simp only [List.length_append, List.length_cons, List.length_nil, List.length_map, List.length_set]; omega)) only [VC_seq, VC_cond, VC_ret, VC_region, VI_true, VO_nil, VO_plain, VO_guard, VG_true, VG_false, VV_some, VS, u_notb, ofV_bool, ofV_lit, gdA, callOf, isPanic, nextOf, altA, evalOp, ev_tmp, ev_const, ev_func, Av.get, St.put, thenQ, Nat.reduceEqDiff, ↓reduceIte, List.map_cons, List.map_nil, List.nil_append, List.append_nil, List.getElem?_cons_zero, List.getElem?_cons_succ, List.getElem?_toArray, Option.map_some, Option.bind_some, beq_false, beq_true, Bool.not_true, Bool.not_false, pickA, cond_true, cond_false, ldC, Nat.add_zero, s_eql, s_neq, ld9, fa45_0, c2, c3, c4, c5]) | (guard_target =~ VCall _ _ _ _ _ _ _; refine VCall.pure (by first | with_reducible exact hn | with_reducible exact hg) (by (first | rfl | (simp only [AV.hfs, AV.hf, Bool.and_self, Bool.and_true, Bool.true_and, strs_hfs]))) ?_) | (guard_target =~ DCal _ _ _ _ _ _ _; refine DCal.pure (by first | with_reducible exact hn | with_reducible exact hg) (by (first | rfl | (simp only [AV.hfs, AV.hf, Bool.and_self, Bool.and_true, Bool.true_and, strs_hfs]))) ?_))
      exact ⟨_, rfl, _, rfl, .refl _⟩
    | true =>
      rw [c6] at hg
      by_cases h2 : ps.length ≤ 8
      · by_cases h3 : v.length ≤ 4000
        · refine W.seqT [(1, .ptr 0 0)] [.cells [.str g, .str n, .vsl 3 x (ps.map encR), .str v] false] (.vc (by decide) ?_) (loops _ (by rw [c6]; simp) h2 h3 ⟨rfl, trivial⟩)
          repeat' (first | (simp (disch := first | omega | (simp only [List.length_append, List.length_cons, List.length_nil, List.length_map, List.length_set]; omega)) only [VC_skip, VC_seq, VC_cond, VC_region, VI_false, VO_nil, VO_plain, VO_guard, VG_true, VV_some, VS, List.length_map, u_notb, ofV_bool, ofV_int, ofV_lit, deN_vsl, deN_str, gdA, callOf, isPanic, nextOf, altA, evalOp, ev_tmp, ev_const, ev_func, Av.get, St.put, thenQ, Nat.reduceEqDiff, ↓reduceIte, List.map_cons, List.map_nil, List.nil_append, List.append_nil, List.getElem?_cons_zero, List.getElem?_cons_succ, List.getElem?_toArray, Option.map_some, Option.bind_some, beq_false, beq_true, Bool.not_true, Bool.not_false, pickA, cond_true, cond_false, ldC, and_self, and_true, Nat.add_zero, Nat.zero_add, b_gtr, s_eql, s_neq, decide_eq_false, ld9, ls9, ld43, lv43, fa45_0, fa45_2, fa45_3, c2, c3, c4, c5]) | (guard_target =~ VCall _ _ _ _ _ _ _; refine VCall.pure (by first | with_reducible exact hn | with_reducible exact hg) (by (first | rfl | (simp only [AV.hfs, AV.hf, Bool.and_self, Bool.and_true, Bool.true_and, strs_hfs]))) ?_) | (guard_target =~ DCal _ _ _ _ _ _ _; refine DCal.pure (by first | with_reducible exact hn | with_reducible exact hg) (by (first | rfl | (simp only [AV.hfs, AV.hf, Bool.and_self, Bool.and_true, Bool.true_and, strs_hfs]))) ?_))
          exact ⟨rfl, trivial⟩
        · have e : lineB ⟨g, n, x, ps, v⟩ = false := by rw [e0, decide_eq_false (show ¬ (v.length : Int) ≤ 4000 by omega)]; simp
          rw [e]
          refine .vc (by decide) ?_
          repeat' (first | (simp (disch := first | omega | (simp only [List.length_append, List.length_cons, List.length_nil, List.length_map, List.length_set]; omega)) only [VC_seq, VC_cond, VC_ret, VC_region, VI_true, VO_nil, VO_plain, VO_guard, VG_true, VV_some, VS, List.length_map, u_notb, ofV_bool, ofV_int, ofV_lit, deN_vsl, deN_str, gdA, callOf, isPanic, nextOf, altA, evalOp, ev_tmp, ev_const, ev_func, Av.get, St.put, thenQ, Nat.reduceEqDiff, ↓reduceIte, List.map_cons, List.map_nil, List.nil_append, List.append_nil, List.getElem?_cons_zero, List.getElem?_cons_succ, List.getElem?_toArray, Option.map_some, Option.bind_some, beq_false, beq_true, Bool.not_true, Bool.not_false, pickA, cond_true, cond_false, ldC, Nat.add_zero, Nat.zero_add, b_gtr, s_eql, s_neq, decide_eq_true, decide_eq_false, ld9, ls9, ld43, lv43, fa45_0, fa45_2, fa45_3, c2, c3, c4, c5]) | (guard_target =~ VCall _ _ _ _ _ _ _; refine VCall.pure (by first | with_reducible exact hn | with_reducible exact hg) (by (first | rfl | (simp only [AV.hfs, AV.hf, Bool.and_self, Bool.and_true, Bool.true_and, strs_hfs]))) ?_) | (guard_target =~ DCal _ _ _ _ _ _ _; refine DCal.pure (by first | with_reducible exact hn | with_reducible exact hg) (by (first | rfl | (simp only [AV.hfs, AV.hf, Bool.and_self, Bool.and_true, Bool.true_and, strs_hfs]))) ?_))
          exact ⟨_, rfl, _, rfl, .refl _⟩
      · have e : lineB ⟨g, n, x, ps, v⟩ = false := by rw [e0, decide_eq_false (show ¬ (ps.length : Int) ≤ 8 by omega)]; simp
        rw [e]
        refine .vc (by decide) ?_
        repeat' (first | (simp (disch := first | omega | (simp only [List.length_append, List.length_cons, List.length_nil, List.length_map, List.length_set]; omega)) only [VC_seq, VC_cond, VC_ret, VC_region, VI_true, VO_nil, VO_plain, VO_guard, VG_true, VG_false, VV_some, VS, List.length_map, u_notb, ofV_bool, ofV_int, ofV_lit, deN_vsl, gdA, callOf, isPanic, nextOf, altA, evalOp, ev_tmp, ev_const, ev_func, Av.get, St.put, thenQ, Nat.reduceEqDiff, ↓reduceIte, List.map_cons, List.map_nil, List.nil_append, List.append_nil, List.getElem?_cons_zero, List.getElem?_cons_succ, List.getElem?_toArray, Option.map_some, Option.bind_some, beq_false, beq_true, Bool.not_true, Bool.not_false, pickA, cond_true, cond_false, ldC, Nat.add_zero, Nat.zero_add, b_gtr, s_eql, s_neq, decide_eq_true, ld9, ld43, lv43, fa45_0, fa45_2, c2, c3, c4, c5]) | (guard_target =~ VCall _ _ _ _ _ _ _; refine VCall.pure (by first | with_reducible exact hn | with_reducible exact hg) (by (first | rfl | (simp only [AV.hfs, AV.hf, Bool.and_self, Bool.and_true, Bool.true_and, strs_hfs]))) ?_) | (guard_target =~ DCal _ _ _ _ _ _ _; refine DCal.pure (by first | with_reducible exact hn | with_reducible exact hg) (by (first | rfl | (simp only [AV.hfs, AV.hf, Bool.and_self, Bool.and_true, Bool.true_and, strs_hfs]))) ?_))
        exact ⟨_, rfl, _, rfl, .refl _⟩

set_option maxRecDepth 8000 in
theorem rightR (c : Cd) : PureFn Tryz.prog 33 [encCd c] (.ret (.bool (rightC c))) := by
  obtain ⟨ver, x, ls⟩ := c
  refine PureFn.of Tryz.func33 rfl (enters_call enters Tryz.func33 rfl) (by simp [Tryz.ntmps33]) ?_
  show W Tryz.prog 32 0 none _ _ _
  simp only [encCd]
  have hver : version ver = (ver == [51, 46, 48] || ver == [52, 46, 48]) := rfl
  have loops : ∀ T : List (Nat × AV), version ver = true → ls.length ≤ 100 → holdsT T [(1, .ptr 0 0)] →
      W Tryz.prog 32 0 none (match Tryz.f33.body with | some (.seq _ (.seq _ c)) => c | _ => .skip) (retQ Tryz.prog Tryz.f33.results.toList (.ret (.bool (rightC ⟨ver, x, ls⟩)))) ⟨T, [.cells [.str ver, .vsl 5 x (ls.map encLn)] false], []⟩ := by
    intro T q1 q2 hT
    have e0 : rightC ⟨ver, x, ls⟩ = ls.all lineB := by simp [rightC, q1, q2]
    rw [e0]
    refine W.fewer _ hT ?_
    show W Tryz.prog 32 0 none (.seq (.seq _ _) _) _ _
    refine .vc (by decide) ?_
    repeat' (first | (simp (disch := first | omega | (simp only [List.length_append, List.length_cons, List.length_nil, List.length_map, List.length_set]; omega)) only [VC_seq, VC_block, VC_region, VC_loop, VO_nil, VO_plain, VV_some, VS, ofV_int, callOf, isPanic, nextOf, altA, evalOp, ev_const, St.put, thenQ]))
    refine W.loopT (X := Nat) (fun i => [(3, .int .i64 (i : Int)), (1, .ptr 0 0)]) (fun _ => [.cells [.str ver, .vsl 5 x (ls.map encLn)] false]) (fun i => i ≤ ls.length ∧ (ls.take i).all lineB = true) (fun i => ls.length - i) 0 ⟨Nat.zero_le _, by simp⟩ ⟨rfl, rfl, trivial⟩ rfl ?_
    rintro i ⟨hi, hall⟩
    refine .vc (by decide) ?_
    by_cases h : i < ls.length
    · obtain ⟨u, hu, _⟩ := drop_at h
      have hia : ∀ H, evIndexAddr Tryz.prog 22 (.vsl 5 x (ls.map encLn)) (.int .i64 (i : Int)) H = some (.vptr [.str u.g, .str u.n, .vsl 3 u.x (u.ps.map encR), .str u.v]) := fun H => iv22 (v := encLn u) (by simp [hu]) rfl H
      have hpu := lineRf u
      simp only [encLn] at hpu
      cases hb : lineB u with
      | false =>
        rw [hb] at hpu
        rw [all_at hu hb]
        repeat' (first | (simp (disch := first | omega | (simp only [List.length_append, List.length_cons, List.length_nil, List.length_map, List.length_set]; omega)) only [VC_skip, VC_seq, VC_cond, VC_block, VC_ret, VC_region, VI_true, VO_nil, VO_plain, VV_some, VS, blockQ, List.length_map, u_notb, ofV_bool, deN_vsl, callOf, isPanic, nextOf, altA, evalOp, ev_tmp, ev_const, ev_func, Av.get, St.put, thenQ, Nat.reduceEqDiff, ↓reduceIte, List.map_cons, List.map_nil, List.nil_append, List.append_nil, List.getElem?_cons_zero, List.getElem?_cons_succ, Option.map_some, Bool.not_false, ldC, List.length_cons, List.length_nil, Nat.reduceAdd, Nat.zero_add, List.take_succ_cons, List.take_zero, Nat.le_refl, b_lss, decide_eq_true, ld22, lv22, fa24_1, lw45, hia]) | (guard_target =~ VCall _ _ _ _ _ _ _; refine VCall.pure (by first | with_reducible exact hpu) (by (first | rfl | (simp only [AV.hfs, AV.hf, Bool.and_self, Bool.and_true, Bool.true_and, strs_hfs, encR_hfs]))) ?_) | (guard_target =~ DCal _ _ _ _ _ _ _; refine DCal.pure (by first | with_reducible exact hpu) (by (first | rfl | (simp only [AV.hfs, AV.hf, Bool.and_self, Bool.and_true, Bool.true_and, strs_hfs, encR_hfs]))) ?_))
        exact ⟨_, rfl, _, rfl, .refl _⟩
      | true =>
        rw [hb] at hpu
        repeat' (first | (simp (disch := first | omega | (simp only [List.length_append, List.length_cons, List.length_nil, List.length_map, List.length_set]; omega)) only [VC_skip, VC_seq, VC_cond, VC_block, VC_region, VI_true, VI_false, VO_nil, VO_plain, VV_some, VS, blockQ, List.length_map, u_notb, ofV_int, deN_vsl, callOf, isPanic, nextOf, altA, evalOp, ev_tmp, ev_const, ev_func, Av.get, St.put, thenQ, Nat.reduceEqDiff, ↓reduceIte, List.map_cons, List.map_nil, List.nil_append, List.append_nil, List.getElem?_cons_zero, List.getElem?_cons_succ, Option.map_some, Bool.not_true, ldC, List.length_cons, List.length_nil, Nat.reduceAdd, and_self, and_true, Nat.zero_add, List.take_succ_cons, List.take_zero, Nat.le_refl, b_lss, b_add64, castS, decide_eq_true, ld22, lv22, fa24_1, lw45, hia]) | (guard_target =~ VCall _ _ _ _ _ _ _; refine VCall.pure (by first | with_reducible exact hpu) (by (first | rfl | (simp only [AV.hfs, AV.hf, Bool.and_self, Bool.and_true, Bool.true_and, strs_hfs, encR_hfs]))) ?_) | (guard_target =~ DCal _ _ _ _ _ _ _; refine DCal.pure (by first | with_reducible exact hpu) (by (first | rfl | (simp only [AV.hfs, AV.hf, Bool.and_self, Bool.and_true, Bool.true_and, strs_hfs, encR_hfs]))) ?_))
        exact ⟨i + 1, ⟨by omega, all_succ hu hall hb⟩, by omega, ⟨rfl, rfl, trivial⟩⟩
    · have e : i = ls.length := by omega
      subst e
      rw [List.take_length] at hall
      rw [hall]
      repeat' (first | (simp (disch := first | omega | (simp only [List.length_append, List.length_cons, List.length_nil, List.length_map, List.length_set]; omega)) only [VC_seq, VC_cond, VC_exit, VC_ret, VC_region, VI_false, VO_nil, VO_plain, VV_some, VS, blockQ, List.length_map, ofV_bool, deN_vsl, callOf, isPanic, nextOf, altA, evalOp, ev_tmp, ev_const, Av.get, St.put, thenQ, Nat.reduceEqDiff, ↓reduceIte, List.getElem?_cons_zero, List.getElem?_cons_succ, Option.map_some, ldC, Nat.zero_add, b_lss, decide_eq_false, ld22, lv22, fa24_1]))
      exact ⟨_, rfl, _, rfl, .refl _⟩
  refine .seq (.vc (by decide) ?_)
  repeat' (first | (simp (disch := first | omega | (simp only [List.length_append, List.length_cons, List.length_nil, List.length_map, List.length_set]; omega)) only [VC_region, VO_nil, VO_plain, VV_some, VS, AV.told, ofV_bool, callOf, isPanic, nextOf, altA, evalOp, ev_tmp, ev_const, Av.get, St.put, argT, thenQ, ↓reduceIte, List.nil_append, cl_agg, List.length_nil]))
  have early : version ver = false → rightC ⟨ver, x, ls⟩ = false := fun h => by simp [rightC, h]
  by_cases h2 : ls.length ≤ 100
  · cases c1 : ver == [51, 46, 48] with
    | true =>
      have hv : version ver = true := by rw [hver, c1]; rfl
      refine W.seqT [(1, .ptr 0 0)] [.cells [.str ver, .vsl 5 x (ls.map encLn)] false] (.vc (by decide) ?_) (loops _ hv h2 ⟨rfl, trivial⟩)
      repeat' (first | (simp (disch := first | omega | (simp only [List.length_append, List.length_cons, List.length_nil, List.length_map, List.length_set]; omega)) only [VC_skip, VC_seq, VC_cond, VC_region, VI_false, VO_nil, VO_plain, VO_guard, VG_true, VG_false, VV_some, VS, List.length_map, ofV_bool, ofV_int, ofV_lit, deN_vsl, gdA, callOf, isPanic, nextOf, altA, evalOp, ev_tmp, ev_const, Av.get, St.put, thenQ, Nat.reduceEqDiff, ↓reduceIte, List.getElem?_cons_zero, List.getElem?_cons_succ, List.getElem?_toArray, Option.map_some, Option.bind_some, beq_false, beq_true, Bool.not_true, Bool.not_false, Bool.false_eq_true, pickA, cond_false, ldC, and_self, and_true, Nat.add_zero, Nat.zero_add, b_gtr, s_neq, decide_eq_false, ld9, ld22, lv22, fa24_0, fa24_1, c1]))
      exact ⟨rfl, trivial⟩
    | false =>
      cases c2 : ver == [52, 46, 48] with
      | true =>
        have hv : version ver = true := by rw [hver, c1, c2]; rfl
        refine W.seqT [(1, .ptr 0 0)] [.cells [.str ver, .vsl 5 x (ls.map encLn)] false] (.vc (by decide) ?_) (loops _ hv h2 ⟨rfl, trivial⟩)
        repeat' (first | (simp (disch := first | omega | (simp only [List.length_append, List.length_cons, List.length_nil, List.length_map, List.length_set]; omega)) only [VC_skip, VC_seq, VC_cond, VC_region, VI_false, VO_nil, VO_plain, VO_guard, VG_true, VV_some, VS, List.length_map, ofV_bool, ofV_int, ofV_lit, deN_vsl, gdA, callOf, isPanic, nextOf, altA, evalOp, ev_tmp, ev_const, Av.get, St.put, thenQ, Nat.reduceEqDiff, ↓reduceIte, List.getElem?_cons_zero, List.getElem?_cons_succ, List.getElem?_toArray, Option.map_some, Option.bind_some, beq_false, beq_true, Bool.not_true, Bool.not_false, pickA, cond_true, cond_false, ldC, and_self, and_true, Nat.add_zero, Nat.zero_add, b_gtr, s_neq, decide_eq_false, ld9, ld22, lv22, fa24_0, fa24_1, c1, c2]))
        exact ⟨rfl, trivial⟩
      | false =>
        rw [early (by rw [hver, c1, c2]; rfl)]
        refine .vc (by decide) ?_
        repeat' (first | (simp (disch := first | omega | (simp only [List.length_append, List.length_cons, List.length_nil, List.length_map, List.length_set]; omega)) only [VC_seq, VC_cond, VC_ret, VC_region, VI_true, VO_nil, VO_plain, VO_guard, VG_true, VG_false, VV_some, VS, ofV_bool, ofV_lit, gdA, callOf, isPanic, nextOf, altA, evalOp, ev_tmp, ev_const, Av.get, St.put, thenQ, Nat.reduceEqDiff, ↓reduceIte, List.getElem?_cons_zero, List.getElem?_cons_succ, List.getElem?_toArray, Option.map_some, Option.bind_some, beq_false, beq_true, Bool.not_true, Bool.not_false, pickA, cond_true, ldC, Nat.add_zero, s_neq, ld9, fa24_0, c1, c2]))
        exact ⟨_, rfl, _, rfl, .refl _⟩
  · have e : rightC ⟨ver, x, ls⟩ = false := by simp [rightC, h2]
    rw [e]
    refine .vc (by decide) ?_
    cases c1 : ver == [51, 46, 48] with
    | true =>
      repeat' (first | (simp (disch := first | omega | (simp only [List.length_append, List.length_cons, List.length_nil, List.length_map, List.length_set]; omega)) only [VC_seq, VC_cond, VC_ret, VC_region, VI_true, VO_nil, VO_plain, VO_guard, VG_true, VG_false, VV_some, VS, List.length_map, ofV_bool, ofV_int, ofV_lit, deN_vsl, gdA, callOf, isPanic, nextOf, altA, evalOp, ev_tmp, ev_const, Av.get, St.put, thenQ, Nat.reduceEqDiff, ↓reduceIte, List.getElem?_cons_zero, List.getElem?_cons_succ, List.getElem?_toArray, Option.map_some, Option.bind_some, beq_false, beq_true, Bool.not_true, Bool.not_false, Bool.false_eq_true, pickA, cond_false, ldC, Nat.add_zero, Nat.zero_add, b_gtr, s_neq, decide_eq_true, ld9, ld22, lv22, fa24_0, fa24_1, c1]))
      exact ⟨_, rfl, _, rfl, .refl _⟩
    | false =>
      cases c2 : ver == [52, 46, 48] with
      | true =>
        repeat' (first | (simp (disch := first | omega | (simp only [List.length_append, List.length_cons, List.length_nil, List.length_map, List.length_set]; omega)) only [VC_seq, VC_cond, VC_ret, VC_region, VI_true, VO_nil, VO_plain, VO_guard, VG_true, VV_some, VS, List.length_map, ofV_bool, ofV_int, ofV_lit, deN_vsl, gdA, callOf, isPanic, nextOf, altA, evalOp, ev_tmp, ev_const, Av.get, St.put, thenQ, Nat.reduceEqDiff, ↓reduceIte, List.getElem?_cons_zero, List.getElem?_cons_succ, List.getElem?_toArray, Option.map_some, Option.bind_some, beq_false, beq_true, Bool.not_true, Bool.not_false, pickA, cond_true, cond_false, ldC, Nat.add_zero, Nat.zero_add, b_gtr, s_neq, decide_eq_true, ld9, ld22, lv22, fa24_0, fa24_1, c1, c2]))
        exact ⟨_, rfl, _, rfl, .refl _⟩
      | false =>
        repeat' (first | (simp (disch := first | omega | (simp only [List.length_append, List.length_cons, List.length_nil, List.length_map, List.length_set]; omega)) only [VC_seq, VC_cond, VC_ret, VC_region, VI_true, VO_nil, VO_plain, VO_guard, VG_true, VG_false, VV_some, VS, ofV_bool, ofV_lit, gdA, callOf, isPanic, nextOf, altA, evalOp, ev_tmp, ev_const, Av.get, St.put, thenQ, Nat.reduceEqDiff, ↓reduceIte, List.getElem?_cons_zero, List.getElem?_cons_succ, List.getElem?_toArray, Option.map_some, Option.bind_some, beq_false, beq_true, Bool.not_true, Bool.not_false, pickA, cond_true, ldC, Nat.add_zero, s_neq, ld9, fa24_0, c1, c2]))
        exact ⟨_, rfl, _, rfl, .refl _⟩

set_option maxRecDepth 8000 in
theorem checkR (c:Cd):PureFn Tryz.prog 14 [encCd c] (.ret (.int .i64 (checkC c))):=by
 have hr:=rightR c
 have hhfs:=encCd_hfs c
 cases h:rightC c with
 | false=>
  have e:checkC c = 2:=by simp [checkC,h]
  rw [h] at hr; rw [e]
  obtain ⟨ver,x,ls⟩:=c
  refine PureFn.of Tryz.func14 rfl (enters_call enters Tryz.func14 rfl) (by simp [Tryz.ntmps14]) ?_
  show W Tryz.prog 10 0 none _ _ _
  refine W.vc (by decide) ?_
  simp only [encCd] at hr hhfs ⊢
  repeat' (first | (simp (disch:=first | omega | (simp only [List.length_append,List.length_cons,List.length_nil,List.length_map,List.length_set]; omega)) only [VC_seq,VC_cond,VC_ret,VC_region,VI_true,VO_nil,VO_plain,VV_some,VS,u_notb,AV.told,ofV_int,callOf,isPanic,nextOf,altA,evalOp,ev_tmp,ev_const,ev_func,Av.get,St.put,argT,thenQ,Nat.reduceEqDiff,↓reduceIte,List.map_cons,List.map_nil,List.nil_append,List.append_nil,List.getElem?_cons_zero,Option.map_some,Bool.not_false,ldG,cl_agg,List.length_cons,List.length_nil,Nat.reduceAdd,Nat.zero_add,List.drop_zero,List.take_succ_cons,List.take_zero,Nat.le_refl,ld24]) | (guard_target =~ VCall _ _ _ _ _ _ _; refine VCall.pure (by first | with_reducible exact hr) (by (first | rfl | (simp only [AV.hfs,AV.hf,Bool.and_self,Bool.and_true,Bool.true_and,strs_hfs,encLn_hfs]))) ?_) | (guard_target =~ DCal _ _ _ _ _ _ _; refine DCal.pure (by first | with_reducible exact hr) (by (first | rfl | (simp only [AV.hfs,AV.hf,Bool.and_self,Bool.and_true,Bool.true_and,strs_hfs,encLn_hfs]))) ?_))
  exact ⟨_,rfl,_,rfl,.refl _⟩
 | true=>
  rw [h] at hr
  have hb:=laid_bound h
  have ht:PureFn Tryz.prog 17 [encCd c] (.ret (.str (laid c))):=by
   have h':=h
   simp only [rightC,Bool.and_eq_true,decide_eq_true_eq,List.all_eq_true] at h'
   exact textR c (fun l hl=>by have:=(line_plain (h'.2 l hl)).2; omega) hb (by omega)
  by_cases h4:(laid c).length > 16000
  ·have e:checkC c = 3:=by simp only [checkC,h,if_true,if_pos h4]
   rw [e]
   obtain ⟨ver,x,ls⟩:=c
   refine PureFn.of Tryz.func14 rfl (enters_call enters Tryz.func14 rfl) (by simp [Tryz.ntmps14]) ?_
   show W Tryz.prog 10 0 none _ _ _
   refine W.vc (by decide) ?_
   simp only [encCd] at hr hhfs ht ⊢
   repeat' (first | (simp (disch:=first | omega | (simp only [List.length_append,List.length_cons,List.length_nil,List.length_map,List.length_set]; omega)) only [VC_skip,VC_seq,VC_cond,VC_ret,VC_region,VI_true,VI_false,VO_nil,VO_plain,VV_some,VS,u_notb,AV.told,ofV_int,deN_str,callOf,isPanic,nextOf,altA,evalOp,ev_tmp,ev_const,ev_func,Av.get,St.put,argT,thenQ,Nat.reduceEqDiff,↓reduceIte,List.map_cons,List.map_nil,List.nil_append,List.append_nil,List.getElem?_cons_zero,Option.map_some,Bool.not_true,ldG,cl_agg,List.length_cons,List.length_nil,Nat.reduceAdd,Nat.zero_add,List.drop_zero,List.take_succ_cons,List.take_zero,Nat.le_refl,b_gtr,decide_eq_true,ls9,ld24]) | (guard_target =~ VCall _ _ _ _ _ _ _; refine VCall.pure (by first | with_reducible exact hr | with_reducible exact ht) (by (first | rfl | (simp only [AV.hfs,AV.hf,Bool.and_self,Bool.and_true,Bool.true_and,strs_hfs,encLn_hfs]))) ?_) | (guard_target =~ DCal _ _ _ _ _ _ _; refine DCal.pure (by first | with_reducible exact hr | with_reducible exact ht) (by (first | rfl | (simp only [AV.hfs,AV.hf,Bool.and_self,Bool.and_true,Bool.true_and,strs_hfs,encLn_hfs]))) ?_))
   exact ⟨_,rfl,_,rfl,.refl _⟩
  ·have e:checkC c = 0:=by simp only [checkC,h,if_true,if_neg h4]
   rw [e]
   obtain ⟨ver,x,ls⟩:=c
   refine PureFn.of Tryz.func14 rfl (enters_call enters Tryz.func14 rfl) (by simp [Tryz.ntmps14]) ?_
   show W Tryz.prog 10 0 none _ _ _
   refine W.vc (by decide) ?_
   simp only [encCd] at hr hhfs ht ⊢
   repeat' (first | (simp (disch:=first | omega | (simp only [List.length_append,List.length_cons,List.length_nil,List.length_map,List.length_set]; omega)) only [VC_skip,VC_seq,VC_cond,VC_ret,VC_region,VI_false,VO_nil,VO_plain,VV_some,VS,u_notb,AV.told,ofV_int,deN_str,callOf,isPanic,nextOf,altA,evalOp,ev_tmp,ev_const,ev_func,Av.get,St.put,argT,thenQ,Nat.reduceEqDiff,↓reduceIte,List.map_cons,List.map_nil,List.nil_append,List.append_nil,List.getElem?_cons_zero,Option.map_some,Bool.not_true,ldG,cl_agg,List.length_cons,List.length_nil,Nat.reduceAdd,Nat.zero_add,List.drop_zero,List.take_succ_cons,List.take_zero,Nat.le_refl,b_gtr,decide_eq_false,ls9,ld24]) | (guard_target =~ VCall _ _ _ _ _ _ _; refine VCall.pure (by first | with_reducible exact hr | with_reducible exact ht) (by (first | rfl | (simp only [AV.hfs,AV.hf,Bool.and_self,Bool.and_true,Bool.true_and,strs_hfs,encLn_hfs]))) ?_) | (guard_target =~ DCal _ _ _ _ _ _ _; refine DCal.pure (by first | with_reducible exact hr | with_reducible exact ht) (by (first | rfl | (simp only [AV.hfs,AV.hf,Bool.and_self,Bool.and_true,Bool.true_and,strs_hfs,encLn_hfs]))) ?_))
   exact ⟨_,rfl,_,rfl,.refl _⟩
end Go.Proofs.YtjlhemfmeboadaaGreatDoor
namespace Go.Proofs.YtjlhemfmeboadaaGreatDoor
set_option linter.unusedVariables false
set_option linter.unusedSimpArgs false
open Go Go.Av Go.RowKit

theorem lk_other {x:UInt8} {t:Bytes} (h1:x ≠ 13) (h2:x ≠ 10):lk (x::t) = 0:=by
 unfold lk; split
 ·rename_i e; cases e; exact (h1 rfl).elim
 ·rename_i e; cases e; exact (h2 rfl).elim
 ·rfl
theorem lk_13n {y:UInt8} {t:Bytes} (h1:y ≠ 10):lk (13::y::t) = 0:=by
 unfold lk; split
 ·rename_i e; cases e; exact (h1 rfl).elim
 ·rename_i e; cases e
 ·rfl
theorem lk_1310 {y:UInt8} {t:Bytes}:lk (13::10::y::t) = if y = 9∨y = 32 then 3 else 0:=by
 unfold lk; rfl
def nl:Bytes→Nat
 | 10::_=>1
 | 13::10::_=>2
 | _=>0
theorem lk_nl0 {s:Bytes} (h:nl s = 0):lk s = 0:=by
 match s with
 | []=>rfl
 | x::t=>
  by_cases h1:x = 10
  ·subst h1; simp [nl] at h
  ·by_cases h2:x = 13
   ·subst h2
    match t with
    | []=>rfl
    | y::t=>
     by_cases h3:y = 10
     ·subst h3; simp [nl] at h
     ·exact lk_13n h3
   ·exact lk_other h2 h1
theorem lk_nl {s:Bytes} (h:nl s ≠ 0):lk s = match s[nl s]? with | some y=>if y = 9∨y = 32 then nl s + 1 else 0 | none=>0:=by
 match s with
 | []=>simp [nl] at h
 | x::t=>
  by_cases h1:x = 10
  ·subst h1
   match t with
   | []=>rfl
   | y::t=>show lk (10::y::t) = if y = 9∨y = 32 then 2 else 0; exact lk_10 _ _
  ·by_cases h2:x = 13
   ·subst h2
    match t with
    | []=>simp [nl] at h
    | y::t=>
     by_cases h3:y = 10
     ·subst h3
      match t with
      | []=>rfl
      | w::t=>show lk (13::10::w::t) = if w = 9∨w = 32 then 3 else 0; exact lk_1310
     ·have:nl (13::y::t) = 0:=by unfold nl; split<;>simp_all
      exact (h this).elim
   ·have:nl (x::t) = 0:=by unfold nl; split<;>simp_all
    exact (h this).elim
theorem nl_le (s:Bytes):nl s≤2:=by unfold nl; split<;>simp
set_option maxRecDepth 8000 in
theorem unfR (s:Bytes) (hs:s.length≤1000000):PureFn Tryz.prog 45 [.str s] (.ret (.str (unf s))):=by
 refine PureFn.of Tryz.func45 rfl (enters_call enters Tryz.func45 rfl) (by simp [Tryz.ntmps45]) ?_
 show W Tryz.prog 71 0 none _ _ _
 refine W.vc (by decide) ?_
 repeat' (first | (simp (disch:=first | omega | (simp only [List.length_append,List.length_cons,List.length_nil,List.length_map,List.length_set]; omega)) only [VC_seq,VC_block,VC_region,VC_loop,VO_nil,VO_plain,VV_some,VS,ofV_int,ofV_lit,ofV_nsl,callOf,isPanic,nextOf,altA,evalOp,ev_const,St.put,argT,thenQ]))
 refine W.loopT (X:=Nat × Nat × Bool × Bytes) (fun x=>[(4,.int .i64 (x.1:Int)),(3,byV x.2.1 x.2.2.1 x.2.2.2),(0,.str s)]) (fun x=>byM x.2.1 x.2.2.1 x.2.2.2)
  (fun x=>x.1≤s.length∧x.2.2.2++unf (s.drop x.1) = unf s∧(x.2.2.1 = false→x.2.2.2 = [])∧x.2.2.2.length≤x.1) (fun x=>s.length - x.1) (0,0,false,[]) ⟨Nat.zero_le _,rfl,fun _=>rfl,Nat.le_refl _⟩ (by simp [holdsT,Av.get,byV,memV]) rfl ?_
 rintro ⟨i,k,z,L⟩ ⟨l1,l2,l3,l4⟩
 simp only at l1 l2 l3 l4 ⊢
 have hde:deN (byV k z L) = byV k z L:=deN_mem _ _ _ _ _ _ _
 by_cases h:i < s.length
 ·obtain ⟨x,hx,hdrop⟩:=drop_at h
  have hbs:=bsBs x
  obtain ⟨k2,hb⟩:=by_app1 k z L x true (by omega) l3
  obtain ⟨nn,hnn⟩:∃ nn,nn = nl (s.drop i):=⟨_,rfl⟩
  have hn2:=nl_le (s.drop i)
  rw [← hnn] at hn2
  refine .seq (.vc (by decide) ?_)
  repeat' (first | (simp (disch:=first | omega | (simp only [List.length_append,List.length_cons,List.length_nil,List.length_map,List.length_set]; omega)) only [VC_skip,VC_seq,VC_cond,VC_region,VI_true,VO_nil,VO_plain,VV_some,VS,deN_str,callOf,isPanic,nextOf,altA,evalOp,ev_tmp,Av.get,St.put,thenQ,Nat.reduceEqDiff,↓reduceIte,Option.map_some,b_lss,decide_eq_true,ls9]))
  refine .seq (.block (.seq (.vc (by decide) ?_)))
  repeat' (first | (simp (disch:=first | omega | (simp only [List.length_append,List.length_cons,List.length_nil,List.length_map,List.length_set]; omega)) only [VC_region,VO_nil,VO_plain,VV_some,VS,ofV_int,callOf,isPanic,nextOf,altA,evalOp,ev_const,St.put,thenQ]))
  refine W.seqT [(5,.int .i64 (if x.toNat = 10 then 1 else 0)),(4,.int .i64 (i:Int)),(3,byV k z L),(0,.str s)] (byM k z L) (.vc (by decide) ?_) ?_
  ·by_cases h10:x.toNat = 10
   ·rw [if_pos h10]
    repeat' (first | (simp (disch:=first | omega | (simp only [List.length_append,List.length_cons,List.length_nil,List.length_map,List.length_set]; omega)) only [VC_seq,VC_cond,VC_region,VI_true,VO_nil,VO_plain,VV_some,VS,ofV_int,callOf,isPanic,nextOf,altA,evalOp,ev_tmp,ev_const,Av.get,St.put,thenQ,Nat.reduceEqDiff,↓reduceIte,Option.map_some,and_self,and_true,b_eql,ieq_t,xi9 hx]))
    exact ⟨rfl,rfl,rfl,rfl,trivial⟩
   ·rw [if_neg h10]
    repeat' (first | (simp (disch:=first | omega | (simp only [List.length_append,List.length_cons,List.length_nil,List.length_map,List.length_set]; omega)) only [VC_skip,VC_seq,VC_cond,VC_region,VI_false,VO_nil,VO_plain,VV_some,VS,ofV_int,callOf,isPanic,nextOf,altA,evalOp,ev_tmp,ev_const,Av.get,St.put,thenQ,Nat.reduceEqDiff,↓reduceIte,Option.map_some,and_self,and_true,b_eql,ieq_f,xi9 hx]))
    exact ⟨rfl,rfl,rfl,rfl,trivial⟩
  refine W.seqT [(5,.int .i64 (nn:Int)),(4,.int .i64 (i:Int)),(3,byV k z L),(0,.str s)] (byM k z L) (.vc (by decide) ?_) ?_
  ·by_cases h10:x.toNat = 10
   ·have hx10:x = 10:=UInt8.toNat_inj.1 h10
    have hn1:nn = 1:=by rw [hnn,hdrop,hx10]; rfl
    rw [if_pos h10,hn1]
    repeat' (first | (simp (disch:=first | omega | (simp only [List.length_append,List.length_cons,List.length_nil,List.length_map,List.length_set]; omega)) only [VC_skip,VC_seq,VC_cond,VC_region,VI_false,VO_nil,VO_plain,VO_guard,VG_false,VV_some,VS,ofV_bool,ofV_int,gdA,callOf,isPanic,nextOf,altA,evalOp,ev_tmp,ev_const,Av.get,St.put,thenQ,Nat.reduceEqDiff,↓reduceIte,List.getElem?_cons_zero,List.getElem?_cons_succ,List.getElem?_toArray,Option.map_some,Option.bind_some,beq_true,Bool.false_eq_true,pickA,and_self,and_true,b_eql,ieq_f,xi9 hx]))
    exact ⟨rfl,rfl,rfl,rfl,trivial⟩
   ·rw [if_neg h10]
    by_cases h13:x.toNat = 13
    ·have hx13:x = 13:=UInt8.toNat_inj.1 h13
     by_cases h1:i + 1 < s.length
     ·obtain ⟨y,hy,hd1⟩:=drop_at h1
      by_cases hy10:y.toNat = 10
      ·have hyy:y = 10:=UInt8.toNat_inj.1 hy10
       have hn1:nn = 2:=by rw [hnn,hdrop,hd1,hx13,hyy]; rfl
       rw [hn1]
       repeat' (first | (simp (disch:=first | omega | (simp only [List.length_append,List.length_cons,List.length_nil,List.length_map,List.length_set]; omega)) only [VC_seq,VC_cond,VC_region,VI_true,VO_nil,VO_plain,VO_guard,VG_true,VV_some,VS,ofV_bool,ofV_int,deN_str,gdA,callOf,isPanic,nextOf,altA,evalOp,ev_tmp,ev_const,Av.get,St.put,thenQ,Nat.reduceEqDiff,↓reduceIte,List.getElem?_cons_zero,List.getElem?_cons_succ,List.getElem?_toArray,Option.map_some,Option.bind_some,beq_true,pickA,cond_true,and_self,and_true,b_lss,b_eql,b_add64,ieq_t,castS,decide_eq_true,ls9,xi9 hx,xi9 hy]))
       exact ⟨rfl,rfl,rfl,rfl,trivial⟩
      ·have hn1:nn = 0:=by
        rw [hnn,hdrop,hd1,hx13]
        have:y ≠ 10:=fun h=>hy10 (by rw [h]; rfl)
        unfold nl; split<;>simp_all
       rw [hn1]
       repeat' (first | (simp (disch:=first | omega | (simp only [List.length_append,List.length_cons,List.length_nil,List.length_map,List.length_set]; omega)) only [VC_skip,VC_seq,VC_cond,VC_region,VI_false,VO_nil,VO_plain,VO_guard,VG_true,VV_some,VS,ofV_bool,ofV_int,deN_str,gdA,callOf,isPanic,nextOf,altA,evalOp,ev_tmp,ev_const,Av.get,St.put,thenQ,Nat.reduceEqDiff,↓reduceIte,List.getElem?_cons_zero,List.getElem?_cons_succ,List.getElem?_toArray,Option.map_some,Option.bind_some,beq_true,pickA,cond_true,and_self,and_true,b_lss,b_eql,b_add64,ieq_t,ieq_f,castS,decide_eq_true,ls9,xi9 hx,xi9 hy]))
       exact ⟨rfl,rfl,rfl,rfl,trivial⟩
     ·have hn1:nn = 0:=by
       have:s.drop (i + 1) = []:=List.drop_of_length_le (by omega)
       rw [hnn,hdrop,this,hx13]; rfl
      rw [hn1]
      repeat' (first | (simp (disch:=first | omega | (simp only [List.length_append,List.length_cons,List.length_nil,List.length_map,List.length_set]; omega)) only [VC_skip,VC_seq,VC_cond,VC_region,VI_false,VO_nil,VO_plain,VO_guard,VG_true,VG_false,VV_some,VS,ofV_bool,ofV_int,deN_str,gdA,callOf,isPanic,nextOf,altA,evalOp,ev_tmp,ev_const,Av.get,St.put,thenQ,Nat.reduceEqDiff,↓reduceIte,List.getElem?_cons_zero,List.getElem?_cons_succ,List.getElem?_toArray,Option.map_some,Option.bind_some,beq_true,Bool.false_eq_true,pickA,cond_true,and_self,and_true,b_lss,b_eql,b_add64,ieq_t,castS,decide_eq_false,ls9,xi9 hx]))
      exact ⟨rfl,rfl,rfl,rfl,trivial⟩
    ·have hn1:nn = 0:=by
      have n1:x ≠ 10:=fun h=>h10 (by rw [h]; rfl)
      have n2:x ≠ 13:=fun h=>h13 (by rw [h]; rfl)
      rw [hnn,hdrop]; unfold nl; split<;>simp_all
     rw [hn1]
     repeat' (first | (simp (disch:=first | omega | (simp only [List.length_append,List.length_cons,List.length_nil,List.length_map,List.length_set]; omega)) only [VC_skip,VC_seq,VC_cond,VC_region,VI_false,VO_nil,VO_plain,VO_guard,VG_false,VV_some,VS,ofV_bool,ofV_int,gdA,callOf,isPanic,nextOf,altA,evalOp,ev_tmp,ev_const,Av.get,St.put,thenQ,Nat.reduceEqDiff,↓reduceIte,List.getElem?_cons_zero,List.getElem?_cons_succ,List.getElem?_toArray,Option.map_some,Option.bind_some,beq_true,Bool.false_eq_true,pickA,and_self,and_true,b_eql,ieq_f,xi9 hx]))
     exact ⟨rfl,rfl,rfl,rfl,trivial⟩
  refine W.seqP (lk (s.drop i) = 0) [(4,.int .i64 (i:Int)),(3,byV k z L),(0,.str s)] (byM k z L) (.vc (by decide) ?_) ?_
  ·by_cases h0:nn = 0
   ·have hl:=lk_nl0 (hnn ▸ h0)
    rw [h0]
    repeat' (first | (simp (disch:=first | omega | (simp only [List.length_append,List.length_cons,List.length_nil,List.length_map,List.length_set]; omega)) only [VC_skip,VC_seq,VC_cond,VC_region,VI_false,VO_nil,VO_plain,VO_guard,VG_false,VV_some,VS,ofV_bool,ofV_int,gdA,callOf,isPanic,nextOf,altA,evalOp,ev_tmp,ev_const,Av.get,St.put,thenQ,Nat.reduceEqDiff,↓reduceIte,List.getElem?_cons_zero,List.getElem?_cons_succ,List.getElem?_toArray,Option.bind_some,beq_true,Bool.false_eq_true,pickA,and_self,and_true,b_gtr,decide_eq_false]))
    exact ⟨hl,rfl,rfl,rfl,trivial⟩
   ·have hl:=lk_nl (s:=s.drop i) (by rw [← hnn]; exact h0)
    rw [← hnn,List.getElem?_drop] at hl
    have hat:((i:Int) + (nn:Int)) = ((i + nn:Nat):Int):=rfl
    have hgt:decide ((nn:Int) > 0) = true:=decide_eq_true (by omega)
    by_cases h1:i + nn < s.length
    ·obtain ⟨y,hy,_⟩:=drop_at h1
     rw [hy] at hl
     simp only at hl
     have skip:(y = 9∨y = 32)→L++unf (s.drop (i + nn + 1)) = unf s:=by
      intro hyy
      rw [if_pos hyy] at hl
      rw [← l2,unf_drop (s.drop i) (by rw [hl]; omega),hl,List.drop_drop]; rfl
     by_cases hy32:y.toNat = 32
     ·have e:y = 32:=UInt8.toNat_inj.1 hy32
      have hfin:=skip (.inr e)
      repeat' (first | (simp (disch:=first | omega | (simp only [List.length_append,List.length_cons,List.length_nil,List.length_map,List.length_set]; omega)) only [VC_seq,VC_cond,VC_exit,VC_region,VI_true,VO_nil,VO_plain,VO_guard,VG_true,VG_false,VV_some,VS,blockQ,ofV_bool,ofV_int,deN_str,gdA,callOf,isPanic,nextOf,altA,evalOp,ev_tmp,ev_const,Av.get,St.put,thenQ,Nat.reduceEqDiff,↓reduceIte,List.getElem?_cons_zero,List.getElem?_cons_succ,List.getElem?_toArray,Option.map_some,Option.bind_some,beq_false,beq_true,Bool.not_true,pickA,cond_true,b_lss,b_gtr,b_eql,b_add64,ieq_t,decide_eq_true,ls9,xi9 hy,castA]))
      refine .vc (by decide) ?_
      repeat' (first | (simp (disch:=first | omega | (simp only [List.length_append,List.length_cons,List.length_nil,List.length_map,List.length_set]; omega)) only [VC_region,VO_nil,VO_plain,VV_some,VS,ofV_int,callOf,isPanic,nextOf,altA,evalOp,ev_tmp,ev_const,Av.get,St.put,thenQ,↓reduceIte,and_true,b_add64,castS]))
      exact ⟨(i + nn + 1,k,z,L),⟨by simp only; omega,hfin,l3,by simp only; omega⟩,by simp only; omega,⟨rfl,rfl,rfl,trivial⟩,rfl⟩
     ·by_cases hy9:y.toNat = 9
      ·have e:y = 9:=UInt8.toNat_inj.1 hy9
       have hfin:=skip (.inl e)
       repeat' (first | (simp (disch:=first | omega | (simp only [List.length_append,List.length_cons,List.length_nil,List.length_map,List.length_set]; omega)) only [VC_seq,VC_cond,VC_exit,VC_region,VI_true,VO_nil,VO_plain,VO_guard,VG_true,VV_some,VS,blockQ,ofV_bool,ofV_int,deN_str,gdA,callOf,isPanic,nextOf,altA,evalOp,ev_tmp,ev_const,Av.get,St.put,thenQ,Nat.reduceEqDiff,↓reduceIte,List.getElem?_cons_zero,List.getElem?_cons_succ,List.getElem?_toArray,Option.map_some,Option.bind_some,beq_false,beq_true,Bool.not_false,pickA,cond_true,cond_false,b_lss,b_gtr,b_eql,b_add64,ieq_t,ieq_f,decide_eq_true,ls9,xi9 hy,castA]))
       refine .vc (by decide) ?_
       repeat' (first | (simp (disch:=first | omega | (simp only [List.length_append,List.length_cons,List.length_nil,List.length_map,List.length_set]; omega)) only [VC_region,VO_nil,VO_plain,VV_some,VS,ofV_int,callOf,isPanic,nextOf,altA,evalOp,ev_tmp,ev_const,Av.get,St.put,thenQ,↓reduceIte,and_true,b_add64,castS]))
       exact ⟨(i + nn + 1,k,z,L),⟨by simp only; omega,hfin,l3,by simp only; omega⟩,by simp only; omega,⟨rfl,rfl,rfl,trivial⟩,rfl⟩
      ·have hl0:lk (s.drop i) = 0:=by
        rw [hl,if_neg]
        rintro (h | h)
        ·exact hy9 (by rw [h]; rfl)
        ·exact hy32 (by rw [h]; rfl)
       repeat' (first | (simp (disch:=first | omega | (simp only [List.length_append,List.length_cons,List.length_nil,List.length_map,List.length_set]; omega)) only [VC_skip,VC_seq,VC_cond,VC_region,VI_false,VO_nil,VO_plain,VO_guard,VG_true,VV_some,VS,ofV_bool,ofV_int,deN_str,gdA,callOf,isPanic,nextOf,altA,evalOp,ev_tmp,ev_const,Av.get,St.put,thenQ,Nat.reduceEqDiff,↓reduceIte,List.getElem?_cons_zero,List.getElem?_cons_succ,List.getElem?_toArray,Option.map_some,Option.bind_some,beq_false,beq_true,Bool.not_false,pickA,cond_true,cond_false,and_self,and_true,b_lss,b_gtr,b_eql,b_add64,ieq_f,decide_eq_true,ls9,xi9 hy,castA]))
       exact ⟨hl0,rfl,rfl,rfl,trivial⟩
    ·have hl0:lk (s.drop i) = 0:=by rw [hl,List.getElem?_eq_none (by omega)]
     repeat' (first | (simp (disch:=first | omega | (simp only [List.length_append,List.length_cons,List.length_nil,List.length_map,List.length_set]; omega)) only [VC_skip,VC_seq,VC_cond,VC_region,VI_false,VO_nil,VO_plain,VO_guard,VG_true,VG_false,VV_some,VS,ofV_bool,ofV_int,deN_str,gdA,callOf,isPanic,nextOf,altA,evalOp,ev_tmp,ev_const,Av.get,St.put,thenQ,Nat.reduceEqDiff,↓reduceIte,List.getElem?_cons_zero,List.getElem?_cons_succ,List.getElem?_toArray,Option.map_some,Option.bind_some,beq_true,Bool.false_eq_true,pickA,cond_true,and_self,and_true,b_lss,b_gtr,b_add64,decide_eq_true,decide_eq_false,ls9,castA]))
     exact ⟨hl0,rfl,rfl,rfl,trivial⟩
  ·intro h0
   have put:(L++[x])++unf (s.drop (i + 1)) = unf s:=by
    rw [hdrop] at h0 l2
    rw [← l2,unf_cons0 x _ h0]; simp
   refine .vc (by decide) ?_
   repeat' (first | (simp (disch:=first | omega | (simp only [List.length_append,List.length_cons,List.length_nil,List.length_map,List.length_set]; omega)) only [VC_region,VO_nil,VO_plain,VV_some,VS,blockQ,deN_vsl,callOf,isPanic,nextOf,altA,evalOp,ev_tmp,Av.get,St.put,thenQ,Nat.reduceEqDiff,↓reduceIte,List.map_cons,List.map_nil,Option.map_some,xi9 hx,hbs,hde,hb]))
   refine .vc (by decide) ?_
   repeat' (first | (simp (disch:=first | omega | (simp only [List.length_append,List.length_cons,List.length_nil,List.length_map,List.length_set]; omega)) only [VC_region,VO_nil,VO_plain,VV_some,VS,ofV_int,callOf,isPanic,nextOf,altA,evalOp,ev_tmp,ev_const,Av.get,St.put,thenQ,Nat.reduceEqDiff,↓reduceIte,and_true,b_add64,castS]))
   exact ⟨(i + 1,k2,true,L++[x]),⟨by simp only; omega,put,(fun h=>by cases h),by simp; omega⟩,by simp only; omega,⟨rfl,rfl,rfl,trivial⟩,rfl⟩
 ·have e:i = s.length:=by omega
  subst e
  rw [List.drop_length,unf_nil,List.append_nil] at l2
  have hcv:=by_str k z L l3
  refine .vc (by decide) ?_
  repeat' (first | (simp (disch:=first | omega | (simp only [List.length_append,List.length_cons,List.length_nil,List.length_map,List.length_set]; omega)) only [VC_seq,VC_cond,VC_exit,VC_ret,VC_region,VI_false,VO_nil,VO_plain,VV_some,VS,blockQ,deN_str,callOf,isPanic,nextOf,altA,evalOp,ev_tmp,Av.get,St.put,thenQ,Nat.reduceEqDiff,↓reduceIte,Option.map_some,b_lss,decide_eq_false,ls9,hcv]))
  rw [← l2]
  exact ⟨_,rfl,_,rfl,.refl _⟩
/-! ### Lines -/
theorem linesF_more:∀ (n:Nat) (s:Bytes),s.length < n→linesF n s = linesF (s.length + 1) s:=by
 intro n
 induction n using Nat.strongRecOn with
 | _ n ih=>
  intro s h
  obtain ⟨n,rfl⟩:∃ m,n = m + 1:=⟨n - 1,by omega⟩
  by_cases h0:s = []
  ·subst h0; simp [linesF]
  ·rw [linesF,linesF,if_neg h0,if_neg h0]
   have h1:=cutB_lt (c:=10) h0
   rw [ih n (by omega) _ (by omega)]
   rcases Nat.lt_or_ge s.length n with h2 | h2
   ·rw [ih s.length (by omega) _ h1]
   ·have:s.length = n:=by omega
    rw [this,ih n (by omega) _ (by omega)]
theorem linesU_nil:linesU [] = []:=rfl
theorem linesU_cons {u:Bytes} (h:u ≠ []):linesU u = (if (cutB u 10).2.2 then trimS (cutB u 10).1 [13] else (cutB u 10).1)::linesU (cutB u 10).2.1:=by
 have h1:=cutB_lt (c:=10) h
 unfold linesU
 rw [linesF,if_neg h,linesF_more u.length _ h1]
theorem trimS_cr (t:Bytes):trimS t [13] = if t.getLast? = some 13 then t.take (t.length - 1) else t:=by
 unfold trimS hasS
 rcases List.eq_nil_or_concat t with h | ⟨a,b,h⟩
 ·subst h; rfl
 ·subst h
  simp only [List.concat_eq_append,List.length_append,List.length_cons,List.length_nil,List.getLast?_append,List.getLast?_singleton]
  have e1:(a++[b]).drop (a.length + (0 + 1) - (0 + 1)) = [b]:=by
   rw [Nat.add_sub_cancel,List.drop_append_of_le_length (Nat.le_refl _)]; simp
  rw [e1]
  by_cases hb:b = 13
  ·subst hb; simp
  ·simp [hb]
set_option maxRecDepth 8000 in
theorem unfoldR (s:Bytes) (hs:s.length≤1000000):PureFn Tryz.prog 21 [.str s] (.ret (.vsl 0 false ((linesR s).map .str))):=by
 refine PureFn.of Tryz.func21 rfl (enters_call enters Tryz.func21 rfl) (by simp [Tryz.ntmps21]) ?_
 show W Tryz.prog 52 0 none _ _ _
 refine W.vc (by decide) ?_
 have hu:=unfR s hs
 have hul:=unf_le s
 obtain ⟨u,hu0⟩:∃ u,u = unf s:=⟨_,rfl⟩
 have hlin:linesR s = linesU u:=by rw [hu0]; rfl
 rw [hlin]
 rw [← hu0] at hu hul
 have hb1:=bsS1
 repeat' (first | (simp (disch:=first | omega | (simp only [List.length_append,List.length_cons,List.length_nil,List.length_map,List.length_set]; omega)) only [VC_seq,VC_block,VC_region,VC_loop,VO_nil,VO_plain,VV_some,VS,ofV_int,ofV_nsl,callOf,isPanic,nextOf,altA,evalOp,ev_tmp,ev_const,ev_func,Av.get,St.put,argT,thenQ,Nat.reduceEqDiff,↓reduceIte,List.map_cons,List.map_nil,List.nil_append,List.append_nil]) | (guard_target =~ VCall _ _ _ _ _ _ _; refine VCall.pure (by first | with_reducible exact hu) (by (first | rfl | (simp only [AV.hfs,AV.hf,Bool.and_self,Bool.and_true,Bool.true_and,strs_hfs]))) ?_) | (guard_target =~ DCal _ _ _ _ _ _ _; refine DCal.pure (by first | with_reducible exact hu) (by (first | rfl | (simp only [AV.hfs,AV.hf,Bool.and_self,Bool.and_true,Bool.true_and,strs_hfs]))) ?_))
 have hout:∀ out:List Bytes,out.length≤1000001→∀ (z:Bool) (k:Nat),(z = false→out = [])→∀ x:Bytes,evAppend Tryz.prog 38 38 (memV 0 0 0 AV.str k z out) (.vsl 0 true [.str x]) (mem [] AV.str k 0 z out) = some (memV 0 0 0 AV.str (if z then k + 1 else k) true (out++[x]),mem [] AV.str (if z then k + 1 else k) 0 true (out++[x])):=by
  intro out ho z k hz x
  exact mem_appX (wd:=0) (bytes:=16) Tryz.underlying38 ap38 AV.str (fun _=>rfl) (fun _=>rfl) (by decide) [] k z out (fun h=>.inl rfl) x true (by omega)
 refine W.loopT (X:=Nat × Nat × Nat × Bool × List Bytes) (fun x=>[(5,.int .i64 (x.1:Int)),(4,.int .i64 (x.2.1:Int)),(3,memV 0 0 0 AV.str x.2.2.1 x.2.2.2.1 x.2.2.2.2),(0,.str u)]) (fun x=>mem [] AV.str x.2.2.1 0 x.2.2.2.1 x.2.2.2.2)
  (fun x=>x.1≤u.length∧x.2.1≤x.1∧10 ∉ (u.drop x.2.1).take (x.1 - x.2.1)∧x.2.2.2.2++linesU (u.drop x.2.1) = linesU u∧(x.2.2.2.1 = false→x.2.2.2.2 = [])∧x.2.2.2.2.length≤x.2.1) (fun x=>u.length - x.1) (0,0,0,false,[]) ⟨Nat.zero_le _,Nat.le_refl _,by simp,rfl,fun _=>rfl,Nat.le_refl _⟩ ⟨rfl,rfl,rfl,rfl,trivial⟩ rfl ?_
 rintro ⟨i,fr,k,z,out⟩ ⟨l1,l2,l3,l4,l5,l6⟩
 simp only at l1 l2 l3 l4 l5 l6 ⊢
 have hde:deN (memV 0 0 0 AV.str k z out) = memV 0 0 0 AV.str k z out:=deN_mem _ _ _ _ _ _ _
 refine .vc (by decide) ?_
 by_cases h:i < u.length
 ·obtain ⟨x,hx,hdrop⟩:=drop_at h
  by_cases h10:x.toNat = 10
  ·have hx10:x = 10:=UInt8.toNat_inj.1 h10
   have hcut:cutB (u.drop fr) 10 = ((u.drop fr).take (i - fr),(u.drop fr).drop (i - fr + 1),true):=cutB_at _ _ _ (by rw [List.getElem?_drop,show fr + (i - fr) = i from by omega,hx,hx10]) l3
   have hne:u.drop fr ≠ []:=by intro e; have:=congrArg List.length e; simp at this; omega
   rw [linesU_cons hne,hcut,if_pos rfl] at l4
   simp only [List.drop_drop] at l4
   rw [show fr + (i - fr + 1) = i + 1 from by omega] at l4
   have fin:∀ line,line = trimS ((u.drop fr).take (i - fr)) [13]→∃ y:Nat × Nat × Nat × Bool × List Bytes,(y.1≤u.length∧y.2.1≤y.1∧10 ∉ (u.drop y.2.1).take (y.1 - y.2.1)∧y.2.2.2.2++linesU (u.drop y.2.1) = linesU u∧(y.2.2.2.1 = false→y.2.2.2.2 = [])∧y.2.2.2.2.length≤y.2.1)∧y = (i + 1,i + 1,(if z then k + 1 else k),true,out++[line]):=by
    intro line hl
    refine ⟨_,⟨by simp only; omega,Nat.le_refl _,by simp,?_,(fun h=>by cases h),by simp only [List.length_append,List.length_cons,List.length_nil]; omega⟩,rfl⟩
    rw [hl,← l4]; simp
   by_cases hc:fr < i∧u[i - 1]? = some 13
   ·obtain ⟨hc1,hc2⟩:=hc
    have hx1:evIndex Tryz.prog 9 (.str u) (.int .i64 ((i:Int) - 1)) = some (.int .u8 13):=by
     have:((i:Int) - 1) = ((i - 1:Nat):Int):=by omega
     rw [this]; exact xi9 hc2
    have hline:trimS ((u.drop fr).take (i - fr)) [13] = (u.drop fr).take (i - 1 - fr):=by
     rw [trimS_cr,if_pos]
     ·rw [List.length_take,List.take_take]; congr 1; simp; omega
     ·rw [List.getLast?_eq_getElem?,List.length_take,List.getElem?_take,if_pos (by simp; omega),List.getElem?_drop]
      rw [show fr + (min (i - fr) (u.drop fr).length - 1) = i - 1 from by simp; omega]; exact hc2
    have hsl:evSlice Tryz.prog 9 (.str u) (some (.int .i64 (fr:Int))) (some (.int .i64 ((i:Int) - 1))) none = some (.str ((u.drop fr).take (i - 1 - fr))):=by
     have e:((i:Int) - 1) = ((i - 1:Nat):Int):=by omega
     rw [e,ss9,bnds_both _ _ _ _ (by omega) (by omega)]; rfl
    have ha:=hout out (by omega) z k l5 ((u.drop fr).take (i - 1 - fr))
    repeat' (first | (simp (disch:=first | omega | (simp only [List.length_append,List.length_cons,List.length_nil,List.length_map,List.length_set]; omega)) only [VC_skip,VC_seq,VC_cond,VC_block,VC_region,VI_true,VI_false,VO_nil,VO_plain,VO_guard,VG_true,VV_some,VS,blockQ,ofV_bool,ofV_int,deN_vsl,deN_str,gdA,callOf,isPanic,nextOf,altA,evalOp,ev_tmp,ev_const,Av.get,St.put,thenQ,Nat.reduceEqDiff,↓reduceIte,List.map_cons,List.map_nil,List.getElem?_cons_zero,List.getElem?_cons_succ,List.getElem?_toArray,Option.map_some,Option.map_none,Option.bind_some,beq_true,pickA,cond_true,and_true,b_lss,b_gtr,b_eql,b_neq,b_add64,b_sub64,ieq_t,ine_f,castS,decide_eq_true,ls9,xi9 hx,hx1,hsl,hb1,ha,hde]))
    obtain ⟨y,hy,e⟩:=fin _ hline.symm
    subst e
    exact ⟨_,hy,by simp only; omega,⟨rfl,rfl,rfl,rfl,trivial⟩,rfl⟩
   ·have hline:trimS ((u.drop fr).take (i - fr)) [13] = (u.drop fr).take (i - fr):=by
     rw [trimS_cr,if_neg]
     rw [List.getLast?_eq_getElem?,List.length_take]
     rcases Nat.lt_or_ge fr i with h1 | h1
     ·rw [List.getElem?_take,if_pos (by simp; omega),List.getElem?_drop]
      rw [show fr + (min (i - fr) (u.drop fr).length - 1) = i - 1 from by simp; omega]
      exact fun e=>hc ⟨h1,e⟩
     ·have:i - fr = 0:=by omega
      rw [this]; simp
    have hsl:evSlice Tryz.prog 9 (.str u) (some (.int .i64 (fr:Int))) (some (.int .i64 (i:Int))) none = some (.str ((u.drop fr).take (i - fr))):=by
     rw [ss9,bnds_both _ _ _ _ l2 (by omega)]; rfl
    have ha:=hout out (by omega) z k l5 ((u.drop fr).take (i - fr))
    by_cases hfi:fr < i
    ·obtain ⟨w,hw⟩:∃ w,u[i - 1]? = some w:=⟨_,List.getElem?_eq_getElem (by omega)⟩
     have hw13:w.toNat ≠ 13:=fun e=>hc ⟨hfi,hw.trans (congrArg some ((UInt8.toNat_inj (b:=13)).1 e))⟩
     have hx1:evIndex Tryz.prog 9 (.str u) (.int .i64 ((i:Int) - 1)) = some (.int .u8 w.toNat):=by
      have:((i:Int) - 1) = ((i - 1:Nat):Int):=by omega
      rw [this]; exact xi9 hw
     repeat' (first | (simp (disch:=first | omega | (simp only [List.length_append,List.length_cons,List.length_nil,List.length_map,List.length_set]; omega)) only [VC_skip,VC_seq,VC_cond,VC_block,VC_region,VI_true,VI_false,VO_nil,VO_plain,VO_guard,VG_true,VV_some,VS,blockQ,ofV_bool,ofV_int,deN_vsl,deN_str,gdA,callOf,isPanic,nextOf,altA,evalOp,ev_tmp,ev_const,Av.get,St.put,thenQ,Nat.reduceEqDiff,↓reduceIte,List.map_cons,List.map_nil,List.getElem?_cons_zero,List.getElem?_cons_succ,List.getElem?_toArray,Option.map_some,Option.map_none,Option.bind_some,beq_true,pickA,cond_true,and_true,b_lss,b_gtr,b_eql,b_neq,b_add64,b_sub64,ieq_f,ine_f,castS,decide_eq_true,ls9,xi9 hx,hx1,hsl,hb1,ha,hde]))
     obtain ⟨y,hy,e⟩:=fin _ hline.symm
     subst e
     exact ⟨_,hy,by simp only; omega,⟨rfl,rfl,rfl,rfl,trivial⟩,rfl⟩
    ·repeat' (first | (simp (disch:=first | omega | (simp only [List.length_append,List.length_cons,List.length_nil,List.length_map,List.length_set]; omega)) only [VC_skip,VC_seq,VC_cond,VC_block,VC_region,VI_true,VI_false,VO_nil,VO_plain,VO_guard,VG_false,VV_some,VS,blockQ,ofV_bool,ofV_int,deN_vsl,deN_str,gdA,callOf,isPanic,nextOf,altA,evalOp,ev_tmp,ev_const,Av.get,St.put,thenQ,Nat.reduceEqDiff,↓reduceIte,List.map_cons,List.map_nil,List.getElem?_cons_zero,List.getElem?_cons_succ,List.getElem?_toArray,Option.map_some,Option.map_none,Option.bind_some,beq_true,Bool.false_eq_true,pickA,and_true,b_lss,b_gtr,b_neq,b_add64,ine_f,castS,decide_eq_true,decide_eq_false,ls9,xi9 hx,hsl,hb1,ha,hde]))
     obtain ⟨y,hy,e⟩:=fin _ hline.symm
     subst e
     exact ⟨_,hy,by simp only; omega,⟨rfl,rfl,rfl,rfl,trivial⟩,rfl⟩
  ·repeat' (first | (simp (disch:=first | omega | (simp only [List.length_append,List.length_cons,List.length_nil,List.length_map,List.length_set]; omega)) only [VC_skip,VC_seq,VC_cond,VC_block,VC_exit,VC_region,VI_true,VO_nil,VO_plain,VV_some,VS,blockQ,ofV_int,deN_str,callOf,isPanic,nextOf,altA,evalOp,ev_tmp,ev_const,Av.get,St.put,thenQ,Nat.reduceEqDiff,↓reduceIte,Option.map_some,and_true,b_lss,b_neq,b_add64,ine_t,castS,decide_eq_true,ls9,xi9 hx]))
   refine ⟨(i + 1,fr,k,z,out),⟨by simp only; omega,by simp only; omega,?_,l4,l5,l6⟩,by simp only; omega,⟨rfl,rfl,rfl,rfl,trivial⟩,rfl⟩
   simp only
   rw [show i + 1 - fr = (i - fr) + 1 from by omega,List.take_add_one,List.getElem?_drop,show fr + (i - fr) = i from by omega,hx]
   simp only [List.mem_append,not_or]
   refine ⟨l3,?_⟩
   simp only [Option.toList_some,List.mem_cons,List.not_mem_nil,or_false]
   intro e; exact h10 (by rw [← e]; rfl)
 ·have e:i = u.length:=by omega
  subst e
  have l3':10 ∉ u.drop fr:=by rwa [List.take_of_length_le (by simp)] at l3
  by_cases hf:fr < u.length
  ·have hne:u.drop fr ≠ []:=by intro e; have:=congrArg List.length e; simp at this; omega
   rw [linesU_cons hne,cutB_no _ _ l3',if_neg (by simp),linesU_nil] at l4
   have hsl:evSlice Tryz.prog 9 (.str u) (some (.int .i64 (fr:Int))) none none = some (.str (u.drop fr)):=by
    rw [ss9,bnds_from _ _ (by omega)]; simp only [Option.map_some,take_drop_all]
   have ha:=hout out (by omega) z k l5 (u.drop fr)
   repeat' (first | (simp (disch:=first | omega | (simp only [List.length_append,List.length_cons,List.length_nil,List.length_map,List.length_set]; omega)) only [VC_seq,VC_cond,VC_exit,VC_ret,VC_region,VI_true,VI_false,VO_nil,VO_plain,VV_some,VS,blockQ,deN_vsl,deN_str,callOf,isPanic,nextOf,altA,evalOp,ev_tmp,Av.get,St.put,thenQ,Nat.reduceEqDiff,↓reduceIte,List.map_cons,List.map_nil,Option.map_some,Option.map_none,b_lss,decide_eq_true,decide_eq_false,ls9,hsl,hb1,ha,hde]))
   obtain ⟨w,hz,hw⟩:=mem_fz0 (B:=[]) (f:=AV.str) (w0:=0) (k:=if z then k + 1 else k) (z:=true) (L:=out++[u.drop fr]) (n:=19) (M:=mem [] AV.str (if z then k + 1 else k) 0 true (out++[u.drop fr])) (fun _=>mem_at) (strs_hfs _) (strs_one _)
   rw [← l4]
   exact retF 2 rfl rfl rfl hz (by rcases hw with rfl | rfl<;>first | exact .exact _ _ _ | exact .refl _)
  ·have hnil:u.drop fr = []:=List.drop_of_length_le (by omega)
   rw [hnil,linesU_nil,List.append_nil] at l4
   repeat' (first | (simp (disch:=first | omega | (simp only [List.length_append,List.length_cons,List.length_nil,List.length_map,List.length_set]; omega)) only [VC_skip,VC_seq,VC_cond,VC_exit,VC_ret,VC_region,VI_false,VO_nil,VO_plain,VV_some,VS,blockQ,deN_str,callOf,isPanic,nextOf,altA,evalOp,ev_tmp,Av.get,St.put,thenQ,Nat.reduceEqDiff,↓reduceIte,Option.map_some,b_lss,decide_eq_false,ls9]))
   obtain ⟨w,hz,hw⟩:=mem_fz0 (B:=[]) (f:=AV.str) (w0:=0) (k:=k) (z:=z) (L:=out) (n:=19) (M:=mem [] AV.str k 0 z out) (fun hz=>by subst hz; exact mem_at) (strs_hfs _) (strs_one _)
   rw [← l4]
   exact retF 2 rfl rfl rfl hz (by rcases hw with rfl | rfl<;>first | exact .exact _ _ _ | exact .refl _)
/-! ### A name in front -/
theorem lead_ge:∀ (s:Bytes) (i:Nat),i≤lead s→∀ j,j < i→∃ x,s[j]? = some x∧nmI x.toNat = true
 | [],i,h,j,hj=>by simp [lead] at h; omega
 | x::t,i,h,j,hj=>by
  unfold lead at h
  split at h
  ·rename_i hx
   cases j with
   | zero=>exact ⟨x,rfl,hx⟩
   | succ j=>
    obtain ⟨y,h1,h2⟩:=lead_ge t (i - 1) (by omega) j (by omega)
    exact ⟨y,by simpa using h1,h2⟩
  ·omega
theorem lead_at:∀ (s:Bytes) (x:UInt8),s[lead s]? = some x→nmI x.toNat = false
 | [],x,h=>by simp at h
 | y::t,x,h=>by
  unfold lead at h
  split at h
  ·exact lead_at t x (by simpa using h)
  ·rename_i hy
   simp at h; subst h; simpa using hy
set_option maxRecDepth 8000 in
theorem nameRf (s:Bytes) (hs:s.length≤1000000):PureFn Tryz.prog 69 [.str s] (.ret (match nmR s with | some (n,t)=>.tup [.str n,.str t,.bool true] | none=>.tup [.str [],.str [],.bool false])):=by
 refine PureFn.of Tryz.func69 rfl (enters_call enters Tryz.func69 rfl) (by simp [Tryz.ntmps69]) ?_
 show W Tryz.prog 36 0 none _ _ _
 refine W.vc (by decide) ?_
 repeat' (first | (simp (disch:=first | omega | (simp only [List.length_append,List.length_cons,List.length_nil,List.length_map,List.length_set]; omega)) only [VC_seq,VC_block,VC_region,VC_loop,VO_nil,VO_plain,VV_some,VS,ofV_bool,ofV_int,ofV_lit,callOf,isPanic,nextOf,altA,evalOp,ev_const,St.put,argT,thenQ]))
 have hle:=lead_le s
 refine W.loopT (X:=Nat) (fun i=>[(5,.int .i64 (i:Int)),(0,.str s)]) (fun _=>[]) (fun i=>i≤lead s) (fun i=>lead s - i) 0 (Nat.zero_le _) ⟨rfl,rfl,trivial⟩ rfl ?_
 intro i hi
 refine .vc (by decide) ?_
 by_cases h:i < lead s
 ·obtain ⟨x,hx,hn⟩:=lead_ge s (lead s) (Nat.le_refl _) i h
  have hin:=inNameR (x.toNat:Int)
  rw [hn] at hin
  repeat' (first | (simp (disch:=first | omega | (simp only [List.length_append,List.length_cons,List.length_nil,List.length_map,List.length_set]; omega)) only [VC_skip,VC_seq,VC_cond,VC_block,VC_region,VI_true,VO_nil,VO_plain,VO_guard,VG_true,VV_some,VS,blockQ,ofV_bool,ofV_int,deN_str,gdA,callOf,isPanic,nextOf,altA,evalOp,ev_tmp,ev_const,ev_func,Av.get,St.put,thenQ,Nat.reduceEqDiff,↓reduceIte,List.map_cons,List.map_nil,List.nil_append,List.append_nil,List.getElem?_cons_zero,List.getElem?_cons_succ,List.getElem?_toArray,Option.map_some,Option.bind_some,beq_true,pickA,cond_true,and_self,and_true,b_lss,b_add64,castS,decide_eq_true,ls9,xi9 hx]) | (guard_target =~ VCall _ _ _ _ _ _ _; refine VCall.pure (by first | with_reducible exact hin) (by (first | rfl | (simp only [AV.hfs,AV.hf,Bool.and_self,Bool.and_true,Bool.true_and,strs_hfs]))) ?_) | (guard_target =~ DCal _ _ _ _ _ _ _; refine DCal.pure (by first | with_reducible exact hin) (by (first | rfl | (simp only [AV.hfs,AV.hf,Bool.and_self,Bool.and_true,Bool.true_and,strs_hfs]))) ?_))
  exact ⟨i + 1,by omega,by omega,⟨rfl,rfl,trivial⟩⟩
 ·have e:i = lead s:=by omega
  subst e
  by_cases hl:lead s < s.length
  ·obtain ⟨x,hx,_⟩:=drop_at hl
   have hnx:=lead_at s x hx
   have hin:=inNameR (x.toNat:Int)
   rw [hnx] at hin
   have hn:=nameRB (s.take (lead s))
   cases hb:nameB (s.take (lead s)) with
   | false=>
    rw [hb] at hn
    have e:nmR s = none:=by unfold nmR; rw [if_neg (by simp [hb])]
    rw [e]
    repeat' (first | (simp (disch:=first | omega | (simp only [List.length_append,List.length_cons,List.length_nil,List.length_map,List.length_set]; omega)) only [VC_seq,VC_cond,VC_exit,VC_ret,VC_region,VI_true,VI_false,VO_nil,VO_plain,VO_guard,VG_true,VV_some,VS,blockQ,Nat.sub_zero,u_notb,ofV_bool,ofV_lit,deN_str,gdA,callOf,isPanic,nextOf,altA,evalOp,ev_tmp,ev_const,ev_func,Av.get,St.put,thenQ,Nat.reduceEqDiff,↓reduceIte,List.map_cons,List.map_nil,List.nil_append,List.append_nil,List.getElem?_cons_zero,List.getElem?_cons_succ,List.getElem?_toArray,Option.map_some,Option.map_none,Option.bind_some,beq_false,beq_true,Bool.not_false,pickA,cond_true,cond_false,List.drop_zero,b_lss,b_geq,decide_eq_true,decide_eq_false,bnds_to,ls9,ss9,xi9 hx]) | (guard_target =~ VCall _ _ _ _ _ _ _; refine VCall.pure (by first | with_reducible exact hin | with_reducible exact hn) (by (first | rfl | (simp only [AV.hfs,AV.hf,Bool.and_self,Bool.and_true,Bool.true_and,strs_hfs]))) ?_) | (guard_target =~ DCal _ _ _ _ _ _ _; refine DCal.pure (by first | with_reducible exact hin | with_reducible exact hn) (by (first | rfl | (simp only [AV.hfs,AV.hf,Bool.and_self,Bool.and_true,Bool.true_and,strs_hfs]))) ?_))
    exact ⟨_,rfl,_,rfl,.refl _⟩
   | true=>
    rw [hb] at hn
    have h0:0 < lead s:=by
     rcases Nat.eq_zero_or_pos (lead s) with h0 | h0
     ·rw [h0] at hb; simp [nameB_is,isName,small] at hb
     ·exact h0
    have e:nmR s = some (small (s.take (lead s)),s.drop (lead s)):=by unfold nmR; rw [if_pos ⟨hl,h0,hb⟩]
    rw [e]
    have hsm:=smallR (s.take (lead s))
    repeat' (first | (simp (disch:=first | omega | (simp only [List.length_append,List.length_cons,List.length_nil,List.length_map,List.length_set]; omega)) only [VC_skip,VC_seq,VC_cond,VC_exit,VC_region,VC_drawn,VI_false,VO_nil,VO_plain,VO_guard,VG_true,VV_some,VS,blockQ,Nat.sub_zero,u_notb,ofV_bool,deN_str,gdA,callOf,isPanic,nextOf,altA,evalOp,ev_tmp,ev_const,ev_func,Av.get,St.put,thenQ,Nat.reduceEqDiff,↓reduceIte,List.map_cons,List.map_nil,List.nil_append,List.append_nil,List.getElem?_cons_zero,List.getElem?_cons_succ,List.getElem?_toArray,Option.map_some,Option.map_none,Option.bind_some,beq_false,beq_true,Bool.not_true,Bool.not_false,pickA,cond_true,cond_false,List.drop_zero,b_lss,b_geq,decide_eq_true,decide_eq_false,bnds_to,ls9,ss9,xi9 hx]) | (guard_target =~ VCall _ _ _ _ _ _ _; refine VCall.pure (by first | with_reducible exact hin | with_reducible exact hn) (by (first | rfl | (simp only [AV.hfs,AV.hf,Bool.and_self,Bool.and_true,Bool.true_and,strs_hfs]))) ?_) | (guard_target =~ DCal _ _ _ _ _ _ _; refine DCal.pure (by first | with_reducible exact hin | with_reducible exact hn) (by (first | rfl | (simp only [AV.hfs,AV.hf,Bool.and_self,Bool.and_true,Bool.true_and,strs_hfs]))) ?_))
    refine W.drawN [] [false,false,false,false,false,false,false,false,false,false] [] mixed (by kernel_rfl) (by kernel_rfl) (by kernel_rfl) ?_
    repeat' (first | (simp (disch:=first | omega | (simp only [List.length_append,List.length_cons,List.length_nil,List.length_map,List.length_set]; omega)) only [VC_ret,VV_some,DT_nil,DT_plain,DS,cHs_f,cHs_n,cPs,lastS_1,lastS_2,Nat.sub_zero,take_drop_all,ofV_bool,deN_str,callOf,isPanic,evalOp,ev_tmp,ev_const,ev_func,Av.get,St.put,thenQ,Nat.reduceEqDiff,↓reduceIte,List.map_cons,List.map_nil,List.nil_append,List.append_nil,Option.map_some,Option.map_none,and_self,true_and,List.drop_zero,List.cons_append,bnds_to,bnds_from,ss9]) | (guard_target =~ VCall _ _ _ _ _ _ _; refine VCall.pure (by first | with_reducible exact hsm) (by (first | rfl | (simp only [AV.hfs,AV.hf,Bool.and_self,Bool.and_true,Bool.true_and,strs_hfs]))) ?_) | (guard_target =~ DCal _ _ _ _ _ _ _; refine DCal.pure (by first | with_reducible exact hsm) (by (first | rfl | (simp only [AV.hfs,AV.hf,Bool.and_self,Bool.and_true,Bool.true_and,strs_hfs]))) ?_))
    exact ⟨_,rfl,_,rfl,.refl _⟩
  ·have e:nmR s = none:=by unfold nmR; rw [if_neg (by omega)]
   rw [e]
   repeat' (first | (simp (disch:=first | omega | (simp only [List.length_append,List.length_cons,List.length_nil,List.length_map,List.length_set]; omega)) only [VC_seq,VC_cond,VC_exit,VC_ret,VC_region,VI_true,VI_false,VO_nil,VO_plain,VO_guard,VG_false,VV_some,VS,blockQ,ofV_bool,ofV_lit,deN_str,gdA,callOf,isPanic,nextOf,altA,evalOp,ev_tmp,ev_const,Av.get,St.put,thenQ,Nat.reduceEqDiff,↓reduceIte,List.getElem?_cons_zero,List.getElem?_cons_succ,List.getElem?_toArray,Option.map_some,Option.bind_some,beq_false,beq_true,Bool.not_true,Bool.false_eq_true,pickA,b_lss,b_geq,decide_eq_true,decide_eq_false,ls9]))
   exact ⟨_,rfl,_,rfl,.refl _⟩
end Go.Proofs.YtjlhemfmeboadaaGreatDoor
namespace Go.Proofs.YtjlhemfmeboadaaGreatDoor
set_option linter.unusedVariables false
set_option linter.unusedSimpArgs false
open Go Go.Av Go.RowKit

def prRf (s : Bytes) : Option ((Bytes × Bytes) × Bytes) := match nmR s with
  | none => none
  | some (n, t) => if t[0]? = some 61 then
      (if (t.drop 1)[0]? = some 34 then
        (if leadN [34] ((t.drop 1).drop 1) < ((t.drop 1).drop 1).length then some ((n, ((t.drop 1).drop 1).take (leadN [34] ((t.drop 1).drop 1))), ((t.drop 1).drop 1).drop (leadN [34] ((t.drop 1).drop 1) + 1)) else none)
      else some ((n, (t.drop 1).take (leadN [58, 59, 44, 34] (t.drop 1))), (t.drop 1).drop (leadN [58, 59, 44, 34] (t.drop 1))))
    else none
def psG : Nat → List (Bytes × Bytes) → Bytes → Bool → List (Bytes × Bytes) × Bytes × Bool × Bool
  | 0, L, s, is => (L, s, is, false)
  | f + 1, L, s, is => if is = true ∧ s[0]? = some 59 then (match prRf (s.drop 1) with
      | none => (L, s, is, true)
      | some (p, t) => psG f (L ++ [p]) t (!t.isEmpty)) else (L, s, is, false)
def endG (g n:Bytes) (q:List (Bytes × Bytes) × Bytes × Bool × Bool):Ln × Bool:=
 if q.2.2.2 = true then (⟨g,n,false,q.1,[]⟩,false) else if q.2.2.1 = true∧q.2.1[0]? = some 58 then (⟨g,n,false,q.1,q.2.1.drop 1⟩,true) else (⟨g,n,false,q.1,[]⟩,false)
def tailG (g n u:Bytes):Ln × Bool:=endG g n (psG (u.length + 1) [] u (!u.isEmpty))
def parsedG (s : Bytes) : Ln × Bool := match nmR s with
  | none => (⟨[], [], false, [], []⟩, false)
  | some (n, t) => if t[0]? = some 46 then (match nmR (t.drop 1) with
      | none => (⟨n, [], false, [], []⟩, false)
      | some (m, u) => tailG n m u) else tailG [] n t

/-! ### It is the program's -/
theorem hasP_1 (s:Bytes) (c:UInt8):hasP s [c] = decide (s[0]? = some c):=by
 cases s with
 | nil=>simp [hasP]
 | cons x t=>simp [hasP]; rfl
theorem cutP_1 {s:Bytes} {c:UInt8} (h:s[0]? = some c):cutP s [c] = s.drop 1:=by
 unfold cutP; rw [if_pos (by rw [hasP_1]; simp [h])]; rfl
theorem cutP_0 {s:Bytes} {c:UInt8} (h:s[0]? ≠ some c):cutP s [c] = s:=by
 unfold cutP; rw [if_neg (by rw [hasP_1]; simp [h])]
theorem cutB_lead:∀ (s:Bytes) (c:UInt8),cutB s c = if leadN [c] s < s.length then (s.take (leadN [c] s),s.drop (leadN [c] s + 1),true) else (s,[],false)
 | [],c=>rfl
 | x::t,c=>by
  have ih:=cutB_lead t c
  by_cases h:x = c
  ·subst h; simp [cutB,leadN]
  ·have hc:cutB (x::t) c = (x::(cutB t c).1,(cutB t c).2.1,(cutB t c).2.2):=by simp [cutB,h]
   have hl:leadN [c] (x::t) = leadN [c] t + 1:=by simp [leadN,h]
   rw [hc,hl,ih]
   by_cases h2:leadN [c] t < t.length
   ·rw [if_pos h2,if_pos (by simp; omega)]; simp
   ·rw [if_neg h2,if_neg (by simp; omega)]
theorem nmR_ne {s n t:Bytes} (h:nmR s = some (n,t)):t ≠ []:=by
 unfold nmR at h
 split at h
 ·rename_i hh; cases h; intro e; have:=congrArg List.length e; simp at this; omega
 ·cases h
theorem prR_eq (s : Bytes) : prR s = match nmR s with
  | none => (none, s)
  | some (n, t) => if t[0]? = some 61 then
      (if (t.drop 1)[0]? = some 34 then
        (if leadN [34] ((t.drop 1).drop 1) < ((t.drop 1).drop 1).length then (some (n, ((t.drop 1).drop 1).take (leadN [34] ((t.drop 1).drop 1))), ((t.drop 1).drop 1).drop (leadN [34] ((t.drop 1).drop 1) + 1)) else (none, (t.drop 1).drop 1))
      else if leadN [58, 59, 44, 34] (t.drop 1) < (t.drop 1).length then (some (n, (t.drop 1).take (leadN [58, 59, 44, 34] (t.drop 1))), (t.drop 1).drop (leadN [58, 59, 44, 34] (t.drop 1))) else (none, t.drop 1))
    else (none, t) := by
  unfold prR
  cases h : nmR s with
  | none => rfl
  | some q =>
    obtain ⟨n, t⟩ := q
    simp only
    by_cases h1 : t[0]? = some 61
    · simp only [hasP_1 t, h1, decide_true, cutP_1 h1, if_true]
      by_cases h2 : (t.drop 1)[0]? = some 34
      · simp only [hasP_1 (t.drop 1), h2, decide_true, cutP_1 h2, if_true, cutB_lead]
        by_cases h3 : leadN [34] ((t.drop 1).drop 1) < ((t.drop 1).drop 1).length
        · simp only [if_pos h3, if_true]
        · simp only [if_neg h3, Bool.false_eq_true, if_false]
      · simp only [hasP_1 (t.drop 1), h2, decide_false, cutP_0 h2, Bool.false_eq_true, if_false]
    · simp only [hasP_1 t, h1, decide_false, cutP_0 h1, Bool.false_eq_true, if_false]
theorem prRf_some {s:Bytes} {p:Bytes × Bytes} {t:Bytes} (h:prRf s = some (p,t)):prR s = (some p,t)∨(t = []∧(prR s).1 = none):=by
 rw [prR_eq]
 unfold prRf at h
 cases hn:nmR s with
 | none=>rw [hn] at h; cases h
 | some q=>
  obtain ⟨n,u⟩:=q
  rw [hn] at h
  simp only at h ⊢
  by_cases h1:u[0]? = some 61
  ·rw [if_pos h1] at h ⊢
   by_cases h2:(u.drop 1)[0]? = some 34
   ·rw [if_pos h2] at h ⊢
    split at h
    ·rename_i h3
     rw [if_pos h3]; cases h; exact .inl rfl
    ·cases h
   ·rw [if_neg h2] at h ⊢
    cases h
    by_cases h3:leadN [58,59,44,34] (u.drop 1) < (u.drop 1).length
    ·rw [if_pos h3]; exact .inl rfl
    ·rw [if_neg h3]
     exact .inr ⟨List.drop_of_length_le (by omega),rfl⟩
  ·rw [if_neg h1] at h; cases h
theorem prRf_none {s:Bytes} (h:prRf s = none):(prR s).1 = none:=by
 rw [prR_eq]
 unfold prRf at h
 cases hn:nmR s with
 | none=>rfl
 | some q=>
  obtain ⟨n,u⟩:=q
  rw [hn] at h
  simp only at h ⊢
  by_cases h1:u[0]? = some 61
  ·rw [if_pos h1] at h ⊢
   by_cases h2:(u.drop 1)[0]? = some 34
   ·rw [if_pos h2] at h ⊢
    split at h
    ·cases h
    ·rename_i h3; rw [if_neg h3]
   ·rw [if_neg h2] at h; cases h
  ·rw [if_neg h1]
theorem prRf_len {s:Bytes} {p:Bytes × Bytes} {t:Bytes} (h:prRf s = some (p,t)):t.length≤s.length:=by
 unfold prRf at h
 cases hn:nmR s with
 | none=>rw [hn] at h; cases h
 | some q=>
  obtain ⟨n,u⟩:=q
  have hl:=nmR_len hn
  rw [hn] at h
  simp only at h
  split at h
  ·split at h
   ·split at h
    ·cases h; simp; omega
    ·cases h
   ·cases h; simp; omega
  ·cases h
def finG (q:List (Bytes × Bytes) × Bytes × Bool × Bool):Option (List (Bytes × Bytes) × Bytes):=if q.2.2.2 = true then none else if q.2.2.1 = true∧q.2.1[0]? = some 58 then some (q.1,q.2.1.drop 1) else none
theorem psG_psF : ∀ (f : Nat) (L : List (Bytes × Bytes)) (s : Bytes), s.length < f → s ≠ [] →
    finG (psG f L s true) = (match psF f s with | none => none | some (ps, t) => if hasP t [58] then some (L ++ ps, cutP t [58]) else none)
  | 0, L, s, h, _ => by omega
  | f + 1, L, s, h, hs => by
    rw [psG, psF]
    by_cases h1 : s[0]? = some 59
    · rw [if_pos ⟨rfl, h1⟩, hasP_1, decide_eq_true h1, if_pos rfl, cutP_1 h1]
      cases hp : prRf (s.drop 1) with
      | none =>
        have g1 := prRf_none hp
        obtain ⟨⟨o, l⟩, ho⟩ : ∃ x, x = prR (s.drop 1) := ⟨_, rfl⟩
        rw [← ho] at g1 ⊢
        simp only at g1
        subst g1
        rfl
      | some q =>
        obtain ⟨p, t⟩ := q
        have hl := prRf_len hp
        have hsl : 0 < s.length := List.length_pos_iff.2 hs
        have e1 : finG (psG f (L ++ [p]) [] (!([] : Bytes).isEmpty)) = none := by
          cases f with
          | zero => rfl
          | succ f => simp [psG, finG]
        simp only
        rcases prRf_some hp with hq | ⟨ht, hq⟩
        · rw [hq]
          simp only
          by_cases ht : t = []
          · subst ht
            rw [e1]
            cases f with
            | zero => omega
            | succ f => simp [psF, hasP]
          · have he : t.isEmpty = false := by cases t <;> simp at ht ⊢
            rw [he]
            simp only [Bool.not_false]
            rw [psG_psF f (L ++ [p]) t (by simp at hl; omega) ht]
            cases psF f t with
            | none => rfl
            | some q =>
              obtain ⟨ps, t'⟩ := q
              simp
        · subst ht
          rw [e1]
          obtain ⟨⟨o, l⟩, ho⟩ : ∃ x, x = prR (s.drop 1) := ⟨_, rfl⟩
          rw [← ho] at hq ⊢
          simp only at hq
          subst hq
          rfl
    · rw [if_neg (by simp [h1]), hasP_1, decide_eq_false h1]
      simp only [Bool.false_eq_true, if_false, finG, true_and]
      by_cases h2 : s[0]? = some 58
      · rw [hasP_1, decide_eq_true h2, if_pos h2, cutP_1 h2]; simp
      · rw [hasP_1, decide_eq_false h2, if_neg h2]; simp
theorem endG_fin (g n:Bytes) (q:List (Bytes × Bytes) × Bytes × Bool × Bool):(if (endG g n q).2 = true then some (endG g n q).1 else none) = (finG q).map fun r=>⟨g,n,false,r.1,r.2⟩:=by
 unfold endG finG
 split
 ·rfl
 ·split<;>rfl
theorem tailG_endR {g n u:Bytes} (hu:u ≠ []):endR g n u = if (tailG g n u).2 = true then some (tailG g n u).1 else none:=by
 have he:u.isEmpty = false:=by cases u<;>simp at hu ⊢
 unfold tailG
 rw [endG_fin,he]
 simp only [Bool.not_false]
 rw [psG_psF _ _ _ (Nat.lt_succ_self _) hu]
 unfold endR psR
 cases psF (u.length + 1) u with
 | none=>rfl
 | some q=>
  obtain ⟨ps,t⟩:=q
  simp only
  split<;>simp
theorem parsedG_lnR (s:Bytes):lnR s = if (parsedG s).2 = true then some (parsedG s).1 else none:=by
 unfold lnR parsedG
 cases h:nmR s with
 | none=>rfl
 | some q=>
  obtain ⟨n,t⟩:=q
  simp only
  by_cases h1:t[0]? = some 46
  ·rw [hasP_1,decide_eq_true h1,if_pos rfl,if_pos h1,cutP_1 h1]
   cases h2:nmR (t.drop 1) with
   | none=>rfl
   | some r=>
    obtain ⟨m,u⟩:=r
    exact tailG_endR (nmR_ne h2)
  ·rw [hasP_1,decide_eq_false h1,if_neg h1]
   simp only [Bool.false_eq_true,if_false]
   exact tailG_endR (nmR_ne h)
end Go.Proofs.YtjlhemfmeboadaaGreatDoor
namespace Go.Proofs.YtjlhemfmeboadaaGreatDoor
set_option linter.unusedVariables false
set_option linter.unusedSimpArgs false
open Go Go.Av Go.RowKit

theorem nm_may (x:UInt8):nmI x.toNat = mayI x.toNat:=by
 have:=u8_all (fun x=>nmI x.toNat == mayI x.toNat) (by decide +kernel) x
 simpa using this
theorem name_nm {s:Bytes} (h:nameB s = true):s ≠ []∧∀ x ∈ s,nmI x.toNat = true:=by
 rw [← nameR_B] at h
 cases s with
 | nil=>cases h
 | cons x t=>
  refine ⟨by simp,fun y hy=>?_⟩
  simp only [nameR,Bool.and_eq_true] at h
  rw [nm_may]
  exact List.all_eq_true.1 h.2.2 y hy
theorem lead_app:∀ (a b:Bytes),(∀ x ∈ a,nmI x.toNat = true)→lead (a++b) = a.length + lead b
 | [],b,_=>by simp
 | x::a,b,h=>by
  have ih:=lead_app a b (fun y hy=>h y (List.mem_cons_of_mem _ hy))
  simp only [List.cons_append,lead,h x (by simp),if_true,ih,List.length_cons]; omega
theorem nmR_app {n:Bytes} {d:UInt8} {r:Bytes} (h:nameB n = true) (hd:nmI d.toNat = false):nmR (n++d::r) = some (small n,d::r):=by
 obtain ⟨h1,h2⟩:=name_nm h
 have hl:lead (n++d::r) = n.length:=by rw [lead_app n _ h2]; simp [lead,hd]
 have h0:0 < n.length:=List.length_pos_iff.2 h1
 unfold nmR
 rw [hl,if_pos ⟨by simp,h0,by simpa using h⟩]
 simp
theorem leadN_app:∀ (cs a b:Bytes),(∀ x ∈ a,x ∉ cs)→leadN cs (a++b) = a.length + leadN cs b
 | cs,[],b,_=>by simp
 | cs,x::a,b,h=>by
  have ih:=leadN_app cs a b (fun y hy=>h y (List.mem_cons_of_mem _ hy))
  have hx:=h x (by simp)
  simp only [List.cons_append,leadN,hx,if_false,ih,List.length_cons]; omega
def parV (p:Bytes × Bytes):Bytes:=[59]++p.1++[61]++qv p.2
theorem quotes_no {v:Bytes} (h:quotesB v = false) (hv:∀ x ∈ v,byP x = true):∀ x ∈ v,x ∉ ([58,59,44,34]:Bytes):=by
 intro x hx hm
 have h1:=hv x hx
 have h2:=List.any_eq_false.1 h x hx
 simp only [List.mem_cons,List.not_mem_nil,or_false] at hm
 rcases hm with e | e | e | e
 ·subst e; simp at h2
 ·subst e; simp at h2
 ·subst e; simp at h2
 ·subst e; simp [byP] at h1
theorem prR_par {p:Bytes × Bytes} {d:UInt8} {r:Bytes} (h:paramB p = true) (hd:d = 58∨d = 59):prR (p.1++[61]++qv p.2++d::r) = (some (small p.1,p.2),d::r):=by
 obtain ⟨n,v⟩:=p
 simp only [paramB,Bool.and_eq_true] at h
 obtain ⟨⟨hn,_⟩,hv⟩:=h
 rw [List.all_eq_true] at hv
 have hx:=nmR_app (d:=61) (r:=qv v++d::r) hn (by decide)
 rw [prR_eq]
 simp only [List.append_assoc,List.cons_append,List.nil_append]
 rw [hx]
 simp only [List.getElem?_cons_zero,if_true,List.drop_succ_cons,List.drop_zero]
 unfold qv
 cases hq:quotesB v with
 | true=>
  simp only [if_true,List.append_assoc,List.cons_append,List.nil_append,List.getElem?_cons_zero,List.drop_succ_cons,List.drop_zero]
  have hl:leadN [34] (v++34::d::r) = v.length:=by
   rw [leadN_app _ _ _ (by
    intro x hx hm
    have:=hv x hx
    simp only [List.mem_singleton] at hm
    subst hm; simp [byP] at this)]
   simp [leadN]
  rw [hl,if_pos (by simp)]
  simp
 | false=>
  have hno:=quotes_no hq hv
  have hl:leadN [58,59,44,34] (v++d::r) = v.length:=by
   rw [leadN_app _ _ _ hno]
   rcases hd with e | e<;>subst e<;>simp [leadN]
  simp only [Bool.false_eq_true,if_false]
  have h34:(v++d::r)[0]? ≠ some 34:=by
   cases v with
   | nil=>rcases hd with e | e<;>subst e<;>simp
   | cons y t=>
    simp only [List.cons_append,List.getElem?_cons_zero,ne_eq,Option.some.injEq]
    intro e; exact hno y (by simp) (by rw [e]; simp)
  rw [if_neg h34,hl,if_pos (by simp)]
  simp
theorem psF_par:∀ (ps:List (Bytes × Bytes)) (k:Nat) (v:Bytes),(∀ p ∈ ps,paramB p = true)→ps.length < k→psF k ((ps.map parV).flatten++58::v) = some (ps.map fun p=>(small p.1,p.2),58::v)
 | [],k + 1,v,_,_=>by simp [psF,hasP_1]
 | p::ps,k + 1,v,h,hk=>by
  have ih:=psF_par ps k v (fun q hq=>h q (List.mem_cons_of_mem _ hq)) (by simpa using hk)
  obtain ⟨d,r,hr,hd⟩:∃ d r,(ps.map parV).flatten++58::v = d::r∧(d = 58∨d = 59):=by
   cases ps with
   | nil=>exact ⟨58,v,rfl,.inl rfl⟩
   | cons q ps=>exact ⟨59,_,by simp [parV]; rfl,.inr rfl⟩
  have hp:=prR_par (r:=r) (h p (by simp)) hd
  rw [← hr] at hp
  have e:((p::ps).map parV).flatten++58::v = 59::(p.1++[61]++qv p.2++((ps.map parV).flatten++58::v)):=by simp [parV]
  rw [e,psF,hasP_1,if_pos (by simp),cutP_1 (by simp)]
  simp only [List.drop_succ_cons,List.drop_zero]
  rw [hp]
  simp only [ih,Option.map_some,List.map_cons]
def lineT (g n:Bytes) (ps:List (Bytes × Bytes)) (v:Bytes):Bytes:=(if g = [] then n else g++[46]++n)++(ps.map parV).flatten++[58]++v
theorem ps_len (ps:List (Bytes × Bytes)) (v:Bytes):ps.length < ((ps.map parV).flatten++58::v).length + 1:=by
 induction ps with
 | nil=>simp
 | cons p ps ih=>simp [parV] at ih ⊢; omega
theorem lnR_line {g n : Bytes} {ps : List (Bytes × Bytes)} {v : Bytes} (hg : g = [] ∨ nameB g = true) (hn : nameB n = true) (hp : ∀ p ∈ ps, paramB p = true) :
    lnR (lineT g n ps v) = some ⟨small g, small n, false, ps.map fun p => (small p.1, p.2), v⟩ := by
  have hend : ∀ a b, endR a b ((ps.map parV).flatten ++ 58 :: v) = some ⟨a, b, false, ps.map fun p => (small p.1, p.2), v⟩ := by
    intro a b
    unfold endR psR
    rw [psF_par ps _ v hp (ps_len ps v)]
    simp only
    rw [hasP_1, if_pos (by simp), cutP_1 (by simp)]; rfl
  obtain ⟨d, r, hr, hd⟩ : ∃ d r, (ps.map parV).flatten ++ 58 :: v = d :: r ∧ (d = 58 ∨ d = 59) := by
    cases ps with
    | nil => exact ⟨58, v, rfl, .inl rfl⟩
    | cons q ps => exact ⟨59, _, by simp [parV]; rfl, .inr rfl⟩
  have hdn : nmI d.toNat = false := by rcases hd with e | e <;> subst e <;> decide
  have hd46 : hasP (d :: r) [46] = false := by rw [hasP_1]; rcases hd with e | e <;> subst e <;> simp
  by_cases h0 : g = []
  · subst h0
    have e : lineT [] n ps v = n ++ d :: r := by simp [lineT, ← hr]
    rw [e]
    unfold lnR
    rw [nmR_app hn hdn]
    simp only [hd46, Bool.false_eq_true, if_false]
    rw [← hr]
    exact hend _ _
  · have hg : nameB g = true := hg.resolve_left h0
    have e : lineT g n ps v = g ++ 46 :: (n ++ d :: r) := by simp [lineT, h0, ← hr]
    rw [e]
    unfold lnR
    rw [nmR_app hg (by decide)]
    simp only [hasP_1, List.getElem?_cons_zero, decide_true, if_true]
    rw [cutP_1 (by simp)]
    simp only [List.drop_succ_cons, List.drop_zero]
    rw [nmR_app hn hdn]
    simp only
    rw [← hr]
    exact hend _ _
end Go.Proofs.YtjlhemfmeboadaaGreatDoor
