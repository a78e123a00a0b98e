/- Contracts of functions that the statements of this seat reach: under the conditions named at each theorem. -/
import Derived.Test.YtjlhemfmeboadaaGreatDoorZfP12
import Derived.Test.YtjlhemfmeboadaaGreatDoorZfP13
import Derived.Test.YtjlhemfmeboadaaGreatDoorZfP10
import Derived.Test.YtjlhemfmeboadaaGreatDoorZfP7
import Derived.WalkKit
import Derived.ProofKit
import Derived.OpenShut
import Derived.Carry
import Derived.ChangeMaps5
import Derived.LaidMore
import Derived.Lay
import Derived.Stop.Joined
import Derived.Test.YtjlhemfmeboadaaGreatDoorRows
namespace Go.Proofs.YtjlhemfmeboadaaGreatDoor
set_option linter.unusedVariables false
set_option linter.unusedSimpArgs false
open Go Go.Av Go.RowKit

def stepG (c:Cd) (s:Bytes):Option Cd:=match lnR s with
 | none=>none
 | some l=>if l.n = sVersion then (if c.ver = []∧l.g = []∧l.ps = []∧version l.v = true then some { c with ver:=l.v } else none)
  else some { c with ls:=c.ls++[l] }
def runG:Cd→List Bytes→Option Cd
 | c,[]=>some c
 | c,s::r=>(stepG c s).bind fun d=>runG d r
def okC (c:Cd):Option Cd:=if checkC c = 0 then some c else none
theorem stepG_sub {c d:Cd} {s:Bytes} {x:Ln} (h:stepG c s = some d) (hx:x ∈ c.ls):x ∈ d.ls:=by
 unfold stepG at h
 split at h
 ·cases h
 ·split at h
  ·split at h
   ·cases h; exact hx
   ·cases h
  ·cases h; simp [hx]
theorem runG_sub:∀ {l:List Bytes} {c d:Cd} {x:Ln},runG c l = some d→x ∈ c.ls→x ∈ d.ls
 | [],c,d,x,h,hx=>by cases h; exact hx
 | s::r,c,d,x,h,hx=>by
  rw [runG] at h
  cases hs:stepG c s with
  | none=>rw [hs] at h; cases h
  | some e=>rw [hs] at h; exact runG_sub (l:=r) h (stepG_sub hs hx)
theorem okC_bad {c:Cd} {x:Ln} (hx:x ∈ c.ls) (hb:lineB x = false):okC c = none:=by
 have:rightC c = false:=by
  cases h:rightC c with
  | false=>rfl
  | true=>
   simp only [rightC,Bool.and_eq_true] at h
   have:=List.all_eq_true.1 h.2 x hx
   rw [hb] at this; cases this
 simp [okC,checkC,this]
theorem runG_runP:∀ (l:List Bytes) (c:Cd),(runG c l).bind okC = (runP c l).bind okC
 | [],c=>rfl
 | s::r,c=>by
  rw [runG,runP]
  unfold stepG stepP
  cases h:lnR s with
  | none=>rfl
  | some l=>
   simp only
   by_cases hv:l.n = sVersion
   ·rw [if_pos hv,if_pos hv]
    split
    ·exact runG_runP r _
    ·rfl
   ·rw [if_neg hv,if_neg hv]
    cases hb:lineB l with
    | true=>rw [if_pos rfl]; exact runG_runP r _
    | false=>
     rw [if_neg (by simp)]
     simp only [Option.bind_some,Option.bind_none]
     cases hr:runG { c with ls:=c.ls++[l] } r with
     | none=>rfl
     | some d=>exact okC_bad (runG_sub hr (by simp)) hb
theorem parseM_G (s:Bytes):parseM s = if headP s = true then (runG cd0 (midP s)).bind okC else none:=by
 rw [runG_runP]; rfl
theorem hasS_last {u:Bytes} {y:UInt8} (h:u[u.length - 1]? = some y):hasS u [10] = (y == 10):=by
 have hl:=(List.getElem?_eq_some_iff.1 h).1
 obtain ⟨z,hz,hd⟩:=drop_at hl
 rw [h] at hz
 cases hz
 have hn:u.drop (u.length - 1 + 1) = []:=List.drop_of_length_le (by omega)
 rw [hn] at hd
 have:decide (([10]:Bytes).length≤u.length) = true:=decide_eq_true (by simp; omega)
 have e:hasS u [10] = (u.drop (u.length - 1) == [10]):=by
  have h1:decide (1≤u.length) = true:=this
  simp only [hasS,List.length_singleton,h1,Bool.true_and]
 rw [e,hd]
 by_cases e:y = 10
 ·subst e; rfl
 ·simp [e]
def gB (ver:Bytes) (v:AV):List OB:=[.cells [.str [],.nilsl] false,.cells [.str ver,v] false]
theorem gB_hlt {ver:Bytes} {v:AV} {m:Nat} (hv:v.hlt m = true):(gB ver v).all (OB.hlt m) = true:=by
 simp [gB,OB.hlt,AV.hlts,AV.hlt,hv]
set_option maxRecDepth 8000 in
theorem parseR (s:Bytes) (hs:s.length≤1000000):PureFn Tryz.prog 19 [.str s] (outP (parseO s)):=by
 refine PureFn.of Tryz.func19 rfl (enters_call enters Tryz.func19 rfl) (by simp [Tryz.ntmps19]) ?_
 show W Tryz.prog 108 0 none _ _ _
 have hbz:evBuild Tryz.prog 24 [] = some (.agg [.str [],.nilsl]):=by kernel_rfl
 refine .seq (.vc (by decide) ?_)
 repeat' (first | (simp (disch:=first | omega | (simp only [List.length_append,List.length_cons,List.length_nil,List.length_map,List.length_set]; omega)) only [VC_region,VO_nil,VO_plain,VV_some,VS,ofV_int,callOf,isPanic,nextOf,altA,evalOp,ev_const,St.put,argT,thenQ,List.nil_append,Option.map_some,cl_agg,List.length_nil,zz24]))
 have zero:∀ (T:List (Nat × AV)) (H:List OB) (n:Nat),H[0]? = some (.cells [.str [],.nilsl] false)→Av.get T 2 = .ptr 0 0→Av.get T 3 = .int .i64 n→retQ Tryz.prog Tryz.f19.results.toList (outP (cd0,n)) .ret ⟨T,H,[]⟩:=by
  intro T H n h0 h2 h3
  refine retQct (v:=.agg [.str [],.nilsl]) (u:=.int .i64 n) 2 24 3 rfl rfl ?_ h3 ⟨fz_aggL (k:=17) (ts:=[.str [],.vsl 5 false []]) (LzL_hf rfl ⟨⟨_,rfl,.nils _ _⟩,trivial⟩),LzL_hf rfl trivial⟩
  simp only [h2]
  rw [ld24]
  simp only [ldG,h0]
  rfl
 by_cases q0:s.length > 16000
 ·have e:parseO s = (cd0,3):=by simp only [parseO,if_pos q0]
  rw [e]
  refine .vc (by decide) ?_
  repeat' (first | (simp (disch:=first | omega | (simp only [List.length_append,List.length_cons,List.length_nil,List.length_map,List.length_set]; omega)) only [VC_seq,VC_cond,VC_ret,VC_region,VI_true,VO_nil,VO_plain,VV_some,VS,ofV_int,deN_str,callOf,isPanic,nextOf,altA,evalOp,ev_tmp,ev_const,Av.get,St.put,thenQ,Nat.reduceEqDiff,↓reduceIte,Bool.and_self,List.map_nil,List.getElem?_cons_zero,Option.map_some,stC,ic_str,ic_nilsl,cl_agg,setC,List.set_cons_zero,List.set_cons_succ,List.length_cons,List.length_nil,Nat.reduceAdd,List.all_cons,List.all_nil,and_self,Nat.zero_add,Nat.le_refl,b_gtr,decide_eq_true,ls9,st24,hbz]))
  exact zero _ _ 3 rfl rfl rfl
 refine .seq (.vc (by decide) ?_)
 repeat' (first | (simp (disch:=first | omega | (simp only [List.length_append,List.length_cons,List.length_nil,List.length_map,List.length_set]; omega)) only [VC_skip,VC_seq,VC_cond,VC_region,VI_false,VO_nil,VO_plain,VV_some,VS,ofV_int,deN_str,callOf,isPanic,nextOf,altA,evalOp,ev_tmp,ev_const,Av.get,St.put,thenQ,Nat.reduceEqDiff,↓reduceIte,Option.map_some,b_gtr,decide_eq_false,ls9]))
 have hun:=unfoldR s hs
 have huf:=unfR s hs
 have hull:=unf_le s
 obtain ⟨all,hall⟩:∃ all,all = linesR s:=⟨_,rfl⟩
 have hal:all.length≤1000000:=by have:=linesR_len s; rw [← hall] at this; omega
 have hae:∀ x ∈ all,x.length≤1000000:=by intro x hx; rw [hall] at hx; have:=linesR_le hx; omega
 have hlu:all.length≤(unf s).length:=by rw [hall]; have:=linesF_len ((unf s).length + 1) (unf s); unfold linesR linesU; exact this
 rw [← hall] at hun
 have bad:∀ T,Av.get T 2 = .ptr 0 0→Av.get T 3 = .int .i64 250→headP s = false→retQ Tryz.prog Tryz.f19.results.toList (outP (parseO s)) .ret ⟨T,[.cells [.str [],.nilsl] false],[]⟩:=by
  intro T h2 h3 hn
  have hn:parseM s = none:=by simp [parseM,hn]
  have e:parseO s = (cd0,250):=by simp only [parseO,if_neg q0,hn]
  rw [e]
  exact zero _ _ 250 rfl h2 h3
 by_cases q1:3≤all.length
 case neg=>
  refine .vc (by decide) ?_
  repeat' (first | (simp (disch:=first | omega | (simp only [List.length_append,List.length_cons,List.length_nil,List.length_map,List.length_set]; omega)) only [VC_seq,VC_cond,VC_ret,VC_region,VI_true,VO_nil,VO_plain,VO_guard,VG_false,VV_some,VS,List.length_map,ofV_bool,ofV_int,deN_vsl,gdA,callOf,isPanic,nextOf,altA,evalOp,ev_tmp,ev_const,ev_func,Av.get,St.put,thenQ,Nat.reduceEqDiff,↓reduceIte,Bool.and_self,List.map_cons,List.map_nil,List.nil_append,List.append_nil,List.getElem?_cons_zero,List.getElem?_cons_succ,List.getElem?_toArray,Option.map_some,Option.bind_some,beq_false,Bool.not_true,pickA,stC,ic_str,ic_nilsl,cl_agg,setC,List.set_cons_zero,List.set_cons_succ,List.length_cons,List.length_nil,Nat.reduceAdd,List.all_cons,List.all_nil,and_self,Nat.zero_add,Nat.le_refl,b_lss,decide_eq_true,st24,lv38,hbz]) | (guard_target =~ VCall _ _ _ _ _ _ _; refine VCall.pure (by first | with_reducible exact hun | with_reducible exact huf) (by (first | rfl | (simp only [AV.hfs,AV.hf,Bool.and_self,Bool.and_true,Bool.true_and,strs_hfs,strs_hfs]))) ?_) | (guard_target =~ DCal _ _ _ _ _ _ _; refine DCal.pure (by first | with_reducible exact hun | with_reducible exact huf) (by (first | rfl | (simp only [AV.hfs,AV.hf,Bool.and_self,Bool.and_true,Bool.true_and,strs_hfs,strs_hfs]))) ?_))
  refine bad _ rfl rfl ?_
  simp [headP,← hall,q1]
 obtain ⟨y,hy⟩:∃ y,(unf s)[(unf s).length - 1]? = some y:=⟨_,List.getElem?_eq_getElem (by omega)⟩
 have hxy:evIndex Tryz.prog 9 (.str (unf s)) (.int .i64 (((unf s).length:Int) - 1)) = some (.int .u8 y.toNat):=by
  have:(((unf s).length:Int) - 1) = (((unf s).length - 1:Nat):Int):=by omega
  rw [this]; exact xi9 hy
 have hsl:=hasS_last hy
 by_cases q2:y.toNat = 10
 case neg=>
  have q2':(y == 10) = false:=by
   simp only [beq_eq_false_iff_ne]; intro e; apply q2; rw [e]; rfl
  refine .vc (by decide) ?_
  repeat' (first | (simp (disch:=first | omega | (simp only [List.length_append,List.length_cons,List.length_nil,List.length_map,List.length_set]; omega)) only [VC_seq,VC_cond,VC_ret,VC_region,VI_true,VO_nil,VO_plain,VO_guard,VG_true,VG_false,VV_some,VS,List.length_map,ofV_bool,ofV_int,deN_vsl,deN_str,gdA,callOf,isPanic,nextOf,altA,evalOp,ev_tmp,ev_const,ev_func,Av.get,St.put,thenQ,Nat.reduceEqDiff,↓reduceIte,Bool.and_self,List.map_cons,List.map_nil,List.nil_append,List.append_nil,List.getElem?_cons_zero,List.getElem?_cons_succ,List.getElem?_toArray,Option.map_some,Option.bind_some,beq_false,Bool.not_true,Bool.not_false,pickA,cond_false,stC,ic_str,ic_nilsl,cl_agg,setC,List.set_cons_zero,List.set_cons_succ,List.length_cons,List.length_nil,Nat.reduceAdd,List.all_cons,List.all_nil,and_self,Nat.zero_add,Nat.le_refl,b_lss,b_neq,b_sub64,ine_t,decide_eq_false,ls9,st24,lv38,hbz,hxy]) | (guard_target =~ VCall _ _ _ _ _ _ _; refine VCall.pure (by first | with_reducible exact hun | with_reducible exact huf) (by (first | rfl | (simp only [AV.hfs,AV.hf,Bool.and_self,Bool.and_true,Bool.true_and,strs_hfs,strs_hfs]))) ?_) | (guard_target =~ DCal _ _ _ _ _ _ _; refine DCal.pure (by first | with_reducible exact hun | with_reducible exact huf) (by (first | rfl | (simp only [AV.hfs,AV.hf,Bool.and_self,Bool.and_true,Bool.true_and,strs_hfs,strs_hfs]))) ?_))
  refine bad _ rfl rfl ?_
  simp [headP,hsl,q2']
 have q2':(y == 10) = true:=by
  simp only [beq_iff_eq]; exact UInt8.toNat_inj.1 (show y.toNat = (10:UInt8).toNat from q2)
 rw [q2'] at hsl
 obtain ⟨a0,ha0⟩:∃ a0,all[0]? = some a0:=⟨_,List.getElem?_eq_getElem (by omega)⟩
 obtain ⟨a1,ha1⟩:∃ a1,all[all.length - 1]? = some a1:=⟨_,List.getElem?_eq_getElem (by omega)⟩
 have hd0:all.getD 0 [] = a0:=by simp [List.getD,ha0]
 have hd1:all.getD (all.length - 1) [] = a1:=by simp [List.getD,ha1]
 have hi0:∀ H,evIndexAddr Tryz.prog 38 (.vsl 0 false (all.map .str)) (.int .i64 0) H = some (.vptr [.str a0]):=fun H=>iv38 (n:=0) (v:=.str a0) (by simp [ha0]) rfl H
 have hi1:∀ H,evIndexAddr Tryz.prog 38 (.vsl 0 false (all.map .str)) (.int .i64 ((all.length:Int) - 1)) H = some (.vptr [.str a1]):=by
  intro H
  have:((all.length:Int) - 1) = ((all.length - 1:Nat):Int):=by omega
  rw [this]
  exact iv38 (v:=.str a1) (by simp [ha1]) rfl H
 have hs0:=smallR a0
 have hs1:=smallR a1
 by_cases q3:small a0 = kbegin
 case neg=>
  have e3:(small a0 == kbegin) = false:=by simpa using q3
  have e3q:=e3
  simp only [kbegin] at e3
  refine .vc (by decide) ?_
  repeat' (first | (simp (disch:=first | omega | (simp only [List.length_append,List.length_cons,List.length_nil,List.length_map,List.length_set]; omega)) only [VC_seq,VC_cond,VC_ret,VC_region,VI_true,VO_nil,VO_plain,VO_guard,VG_true,VG_false,VV_some,VS,List.length_map,ofV_bool,ofV_int,ofV_lit,deN_vsl,deN_str,gdA,callOf,isPanic,nextOf,altA,evalOp,ev_tmp,ev_const,ev_func,Av.get,St.put,thenQ,Nat.reduceEqDiff,↓reduceIte,Bool.and_self,List.map_cons,List.map_nil,List.nil_append,List.append_nil,List.getElem?_cons_zero,List.getElem?_cons_succ,List.getElem?_toArray,Option.map_some,Option.bind_some,beq_false,Bool.not_true,Bool.not_false,pickA,cond_false,stC,ic_str,ic_nilsl,cl_agg,setC,List.set_cons_zero,List.set_cons_succ,List.length_cons,List.length_nil,Nat.reduceAdd,List.all_cons,List.all_nil,and_self,Nat.zero_add,Nat.le_refl,b_lss,b_neq,b_sub64,s_neq,ieq_t,decide_eq_false,lw9,ls9,st24,lv38,hbz,hxy,hi0,e3,bne]) | (guard_target =~ VCall _ _ _ _ _ _ _; refine VCall.pure (by first | with_reducible exact hun | with_reducible exact huf | with_reducible exact hs0) (by (first | rfl | (simp only [AV.hfs,AV.hf,Bool.and_self,Bool.and_true,Bool.true_and,strs_hfs,strs_hfs]))) ?_) | (guard_target =~ DCal _ _ _ _ _ _ _; refine DCal.pure (by first | with_reducible exact hun | with_reducible exact huf | with_reducible exact hs0) (by (first | rfl | (simp only [AV.hfs,AV.hf,Bool.and_self,Bool.and_true,Bool.true_and,strs_hfs,strs_hfs]))) ?_))
  refine bad _ rfl rfl ?_
  simp only [headP,← hall,hd0,e3q,Bool.false_and,Bool.and_false]
 have e3:(small a0 == kbegin) = true:=by simp [q3]
 have e3q:=e3
 simp only [kbegin] at e3
 by_cases q4:small a1 = kend
 case neg=>
  have e4:(small a1 == kend) = false:=by simpa using q4
  have e4q:=e4
  simp only [kend] at e4
  refine .vc (by decide) ?_
  repeat' (first | (simp (disch:=first | omega | (simp only [List.length_append,List.length_cons,List.length_nil,List.length_map,List.length_set]; omega)) only [VC_seq,VC_cond,VC_ret,VC_region,VI_true,VO_nil,VO_plain,VO_guard,VG_true,VV_some,VS,List.length_map,ofV_bool,ofV_int,ofV_lit,deN_vsl,deN_str,gdA,callOf,isPanic,nextOf,altA,evalOp,ev_tmp,ev_const,ev_func,Av.get,St.put,thenQ,Nat.reduceEqDiff,↓reduceIte,Bool.and_self,List.map_cons,List.map_nil,List.nil_append,List.append_nil,List.getElem?_cons_zero,List.getElem?_cons_succ,List.getElem?_toArray,Option.map_some,Option.bind_some,beq_false,Bool.not_true,Bool.not_false,pickA,cond_false,stC,ic_str,ic_nilsl,cl_agg,setC,List.set_cons_zero,List.set_cons_succ,List.length_cons,List.length_nil,Nat.reduceAdd,List.all_cons,List.all_nil,and_self,Nat.zero_add,Nat.le_refl,b_lss,b_neq,b_sub64,s_neq,ieq_t,decide_eq_false,lw9,ls9,st24,lv38,hbz,hxy,hi0,hi1,e3,e4,bne]) | (guard_target =~ VCall _ _ _ _ _ _ _; refine VCall.pure (by first | with_reducible exact hun | with_reducible exact huf | with_reducible exact hs0 | with_reducible exact hs1) (by (first | rfl | (simp only [AV.hfs,AV.hf,Bool.and_self,Bool.and_true,Bool.true_and,strs_hfs,strs_hfs]))) ?_) | (guard_target =~ DCal _ _ _ _ _ _ _; refine DCal.pure (by first | with_reducible exact hun | with_reducible exact huf | with_reducible exact hs0 | with_reducible exact hs1) (by (first | rfl | (simp only [AV.hfs,AV.hf,Bool.and_self,Bool.and_true,Bool.true_and,strs_hfs,strs_hfs]))) ?_))
  refine bad _ rfl rfl ?_
  simp only [headP,← hall,hd1,e4q,Bool.false_and,Bool.and_false]
 have e4:(small a1 == kend) = true:=by simp [q4]
 have hhead:headP s = true:=by
  simp only [headP,← hall,hd0,hd1,e3q,e4,hsl,Bool.and_true,decide_eq_true_eq]; exact q1
 simp only [kend] at e4
 obtain ⟨mid,hmid⟩:∃ mid,mid = midP s:=⟨_,rfl⟩
 have hml:mid.length = all.length - 2:=by rw [hmid,midP,← hall]; simp; omega
 have hma:∀ i,i < mid.length→all[i + 1]? = mid[i]?:=by
  intro i hi
  rw [hmid,midP,← hall,List.getElem?_take_of_lt (by omega),List.getElem?_drop,Nat.add_comm]
 have hpm:parseM s = (runG cd0 mid).bind okC:=by rw [parseM_G,hhead,if_pos rfl,hmid]
 have hme:∀ x ∈ mid,x.length≤1000000:=by
  intro x hx
  refine hae x ?_
  rw [hmid,midP,← hall] at hx
  exact List.mem_of_mem_drop (List.mem_of_mem_take hx)
 have hO:parseO s = match parseM s with | some c=>(c,0) | none=>(cd0,250):=by cases h:parseM s<;>simp only [parseO,if_neg q0,h]
 refine .vc (by decide) ?_
 repeat' (first | (simp (disch:=first | omega | (simp only [List.length_append,List.length_cons,List.length_nil,List.length_map,List.length_set]; omega)) only [VC_skip,VC_seq,VC_cond,VC_block,VC_region,VC_loop,VI_false,VO_nil,VO_plain,VO_guard,VG_true,VV_some,VS,List.length_map,ofV_bool,ofV_int,ofV_lit,deN_vsl,deN_str,gdA,callOf,isPanic,nextOf,altA,evalOp,ev_tmp,ev_const,ev_func,Av.get,St.put,thenQ,Nat.reduceEqDiff,↓reduceIte,Bool.and_self,List.map_cons,List.map_nil,List.nil_append,List.append_nil,List.getElem?_cons_zero,List.getElem?_cons_succ,List.getElem?_toArray,Option.map_some,Option.bind_some,beq_false,Bool.not_true,Bool.not_false,pickA,cond_false,stC,ic_str,ic_nilsl,cl_agg,setC,List.set_cons_zero,List.set_cons_succ,List.length_cons,List.length_nil,Nat.reduceAdd,List.all_cons,List.all_nil,and_self,Nat.zero_add,Nat.le_refl,List.cons_append,b_lss,b_neq,b_sub64,s_neq,ieq_t,decide_eq_false,lw9,ls9,st24,lv38,zz24,hbz,hxy,hi0,hi1,e3,e4,bne]) | (guard_target =~ VCall _ _ _ _ _ _ _; refine VCall.pure (by first | with_reducible exact hun | with_reducible exact huf | with_reducible exact hs0 | with_reducible exact hs1) (by (first | rfl | (simp only [AV.hfs,AV.hf,Bool.and_self,Bool.and_true,Bool.true_and,strs_hfs,strs_hfs]))) ?_) | (guard_target =~ DCal _ _ _ _ _ _ _; refine DCal.pure (by first | with_reducible exact hun | with_reducible exact huf | with_reducible exact hs0 | with_reducible exact hs1) (by (first | rfl | (simp only [AV.hfs,AV.hf,Bool.and_self,Bool.and_true,Bool.true_and,strs_hfs,strs_hfs]))) ?_))
 refine W.loopG (X:=Nat × Cd × Nat × Nat × Bool) (fun x=>[(8,.int .i64 ((x.1 + 1:Nat):Int)),(6,.int .i64 (all.length:Int)),(5,.vsl 0 false (all.map .str)),(2,.ptr 0 0),(7,.ptr 1 0),(3,.int .i64 0)])
  (fun x=>mem (gB x.2.1.ver (pV x.2.2.1 x.2.2.2.2 x.2.1.ls)) encLn x.2.2.1 x.2.2.2.1 x.2.2.2.2 x.2.1.ls)
  (fun x=>x.1≤mid.length∧runG x.2.1 (mid.drop x.1) = runG cd0 mid∧(x.2.2.2.2 = false→x.2.1.ls = [])∧x.2.1.ls.length≤x.1∧x.2.1.x = false)
  (fun x=>mid.length - x.1) (0,cd0,0,0,false) (fun _=>Nat.zero_le _) rfl ⟨Nat.zero_le _,rfl,fun _=>rfl,Nat.le_refl _,rfl⟩ ?_ ?_ ?_ ?_
 ·simp only [subT,Av.get,Nat.reduceEqDiff,↓reduceIte,Le_rfl,nat0,nat1,and_self,true_and,and_true,List.length_map,List.length_nil]
  exact Le.refl _
 ·have hfs:AV.hlts (mem (gB cd0.ver (pV 0 false cd0.ls)) encLn 0 0 false cd0.ls).length (all.map .str) = true:=strs_hlts _ _
  have:2≤(mem (gB cd0.ver (pV 0 false cd0.ls)) encLn 0 0 false cd0.ls).length:=by rw [mem_len]; simp [gB]
  simp only [hltT,AV.hlt,hfs,Bool.and_true,Bool.true_and,Bool.and_eq_true,decide_eq_true_eq]
  omega
 ·simp [mem,gB,pV,cd0,subH,OB.hlt,AV.hlts,AV.hlt]
 rintro ⟨i,⟨ver,cx,ls⟩,k,j,z⟩ ⟨l1,l2,l3,l4,l5⟩
 simp only at l1 l2 l3 l4 l5 ⊢
 subst l5
 obtain ⟨v,hv⟩:∃ v,v = pV k z ls:=⟨_,rfl⟩
 obtain ⟨M,hM⟩:∃ M,M = mem (gB ver (pV k z ls)) encLn k j z ls:=⟨_,rfl⟩
 have hM0:M[0]? = some (.cells [.str [],.nilsl] false):=by rw [hM,mem_get (by simp [gB])]; rfl
 have hM1:M[1]? = some (.cells [.str ver,v] false):=by rw [hM,mem_get (by simp [gB]),hv]; rfl
 have hMl:2≤M.length:=by rw [hM,mem_len]; simp [gB]; omega
 have hvI:v = .nilsl∨∃ a b,v = .sl a 0 b 5:=by rw [hv]; cases z<;>simp [pV]
 have hvC:v.isC = true:=by rcases hvI with h | ⟨a,b,h⟩<;>rw [h]<;>rfl
 have hv1:v.cells = [v]:=by rcases hvI with h | ⟨a,b,h⟩<;>rw [h]<;>rfl
 have hhl:∀ (y:Nat × Cd × Nat × Nat × Bool),hltT (mem (gB y.2.1.ver (pV y.2.2.1 y.2.2.2.2 y.2.1.ls)) encLn y.2.2.1 y.2.2.2.1 y.2.2.2.2 y.2.1.ls).length [(8,.int .i64 ((y.1 + 1:Nat):Int)),(6,.int .i64 (all.length:Int)),(5,.vsl 0 false (all.map .str)),(2,.ptr 0 0),(7,.ptr 1 0),(3,.int .i64 0)] = true:=by
  intro y
  have hfs:AV.hlts (mem (gB y.2.1.ver (pV y.2.2.1 y.2.2.2.2 y.2.1.ls)) encLn y.2.2.1 y.2.2.2.1 y.2.2.2.2 y.2.1.ls).length (all.map .str) = true:=strs_hlts _ _
  have:2≤(mem (gB y.2.1.ver (pV y.2.2.1 y.2.2.2.2 y.2.1.ls)) encLn y.2.2.1 y.2.2.2.1 y.2.2.2.2 y.2.1.ls).length:=by rw [mem_len]; simp [gB]; omega
  simp only [hltT,AV.hlt,hfs,Bool.and_true,Bool.true_and,Bool.and_eq_true,decide_eq_true_eq]
  omega
 have hfz:∀ (kk:Nat) (H:List OB),(∀ i,2≤i→i < M.length→H[i]? = M[i]?)→∃ u,fz H (kk + 1) v = some u∧Le u (.vsl 5 false (ls.map encLn)):=by
  intro kk H hH
  cases z with
  | false=>rw [hv,l3 rfl]; exact ⟨_,by unfold fz; rfl,.nils _ _⟩
  | true=>
   rw [hv]
   refine slIn_fz (n:=4) (k:=kk) (by decide) (fun x=>⟨[.str x.g,.str x.n,.vsl 3 x.x (x.ps.map encR),.str x.v],rfl,rfl⟩) (fun x=>by simp [encLn,AV.cells,AV.hfs,AV.hf,encR_hfs]) (.inr ⟨2 + k,rfl,?_⟩)
   have hlt:2 + k < M.length:=by rw [hM,mem_len]; simp [gB]
   rw [hH _ (by omega) hlt,hM]
   exact mem_at (B:=gB ver (pV k true ls))
 rw [← hM]
 have pend:∀ T E,parseM s = none→Av.get T 2 = .ptr 0 0→Av.get T 3 = .int .i64 250→retQ Tryz.prog Tryz.f19.results.toList (outP (parseO s)) .ret ⟨T,M.set 0 (.cells [.str [],.nilsl] false)++E,[]⟩:=by
  intro T E hn h2 h3
  rw [hO,hn]
  refine zero _ _ 250 ?_ h2 h3
  rw [List.getElem?_append_left (by rw [List.length_set]; omega),List.getElem?_set_self (by omega)]
 have pend0:∀ T,parseM s = none→Av.get T 2 = .ptr 0 0→Av.get T 3 = .int .i64 250→retQ Tryz.prog Tryz.f19.results.toList (outP (parseO s)) .ret ⟨T,M.set 0 (.cells [.str [],.nilsl] false),[]⟩:=by
  intro T hn h2 h3
  have:=pend T [] hn h2 h3
  rwa [List.append_nil] at this
 by_cases h:i < mid.length
 ·obtain ⟨u,hu,hdrop⟩:=drop_at h
  have hul:=hme u (List.mem_of_getElem? hu)
  have hl:=parsedV u hul
  have hlr:=parsedG_lnR u
  have hia:∀ H,evIndexAddr Tryz.prog 38 (.vsl 0 false (all.map .str)) (.int .i64 ((i + 1:Nat):Int)) H = some (.vptr [.str u]):=fun H=>iv38 (v:=.str u) (by simp [hma i h,hu]) rfl H
  rw [hdrop,runG] at l2
  obtain ⟨⟨⟨lg,ln,lx,lps,lv⟩,ok⟩,hq⟩:∃ q,q = parsedG u:=⟨_,rfl⟩
  rw [← hq] at hl hlr
  simp only [pgOut,encLn] at hl hlr
  refine .vc (by decide) ?_
  cases ok with
  | false=>
   have hln:lnR u = none:=by rw [hlr]; rfl
   have hn:parseM s = none:=by rw [hpm,← l2]; simp [stepG,hln]
   repeat' (first | (simp (disch:=first | omega | (simp only [List.length_append,List.length_cons,List.length_nil,List.length_map,List.length_set]; omega)) only [VC_skip,VC_seq,VC_cond,VC_block,VC_ret,VC_region,VI_true,VO_nil,VO_plain,VV_some,VS,blockQ,u_notb,ofV_int,callOf,isPanic,nextOf,altA,evalOp,ev_tmp,ev_const,ev_func,Av.get,St.put,thenQ,Nat.reduceEqDiff,↓reduceIte,Bool.and_self,List.map_cons,List.map_nil,List.nil_append,List.append_nil,List.getElem?_cons_zero,List.getElem?_cons_succ,Option.map_some,Bool.not_false,stC,ic_str,ic_vsl,ic_nilsl,cl_agg,setC,List.set_cons_zero,List.set_cons_succ,List.length_cons,List.length_nil,Nat.reduceAdd,List.all_cons,List.all_nil,and_self,Nat.zero_add,Nat.le_refl,b_lss,b_sub64,decide_eq_true,lw9,st24,st45,zz45,hia,hM0,hM1,hbz,List.getElem?_append_left,List.getElem?_append_right,List.set_append_left,List.set_append_right,Nat.sub_self]) | (guard_target =~ VCall _ _ _ _ _ _ _; refine VCall.pure (by first | with_reducible exact hl) (by (first | rfl | (simp only [AV.hfs,AV.hf,Bool.and_self,Bool.and_true,Bool.true_and,strs_hfs]))) ?_) | (guard_target =~ DCal _ _ _ _ _ _ _; refine DCal.pure (by first | with_reducible exact hl) (by (first | rfl | (simp only [AV.hfs,AV.hf,Bool.and_self,Bool.and_true,Bool.true_and,strs_hfs]))) ?_))
   exact pend _ _ hn rfl rfl
  | true=>
   have hln:lnR u = some ⟨lg,ln,lx,lps,lv⟩:=by rw [hlr]; rfl
   by_cases qv:ln = sVersion
   ·have ev:(ln == sVersion) = true:=by simp [qv]
    simp only [sVersion] at ev
    by_cases c1:ver = []
    case neg=>
     have e1:(ver == []) = false:=by simp [c1]
     have hn:parseM s = none:=by rw [hpm,← l2]; simp [stepG,hln,qv,c1]
     repeat' (first | (simp (disch:=first | omega | (simp only [List.length_append,List.length_cons,List.length_nil,List.length_map,List.length_set]; omega)) only [VC_skip,VC_seq,VC_cond,VC_block,VC_ret,VC_region,VI_true,VI_false,VO_nil,VO_plain,VO_guard,VG_false,VV_some,VS,blockQ,u_notb,ofV_bool,ofV_int,ofV_lit,gdA,callOf,isPanic,nextOf,altA,evalOp,ev_tmp,ev_const,ev_func,Av.get,St.put,thenQ,Nat.reduceEqDiff,↓reduceIte,Bool.and_self,List.map_cons,List.map_nil,List.nil_append,List.append_nil,List.getElem?_cons_zero,List.getElem?_cons_succ,List.getElem?_toArray,Option.map_some,Option.bind_some,beq_false,Bool.not_true,Bool.not_false,pickA,ldC,stC,ic_str,ic_vsl,ic_nilsl,cl_agg,setC,List.set_cons_zero,List.set_cons_succ,List.length_cons,List.length_nil,Nat.reduceAdd,List.all_cons,List.all_nil,and_self,Nat.add_zero,Nat.zero_add,Nat.le_refl,b_lss,b_sub64,s_eql,s_neq,decide_eq_true,ld9,lw9,st24,fa24_0,st45,fa45_1,zz45,hia,hM0,hM1,hbz,ev,e1,bne,List.getElem?_append_left,List.getElem?_append_right,List.set_append_left,List.set_append_right,Nat.sub_self]) | (guard_target =~ VCall _ _ _ _ _ _ _; refine VCall.pure (by first | with_reducible exact hl) (by (first | rfl | (simp only [AV.hfs,AV.hf,Bool.and_self,Bool.and_true,Bool.true_and,strs_hfs]))) ?_) | (guard_target =~ DCal _ _ _ _ _ _ _; refine DCal.pure (by first | with_reducible exact hl) (by (first | rfl | (simp only [AV.hfs,AV.hf,Bool.and_self,Bool.and_true,Bool.true_and,strs_hfs]))) ?_))
     exact pend _ _ hn rfl rfl
    have e1:(ver == []) = true:=by simp [c1]
    by_cases c2:lg = []
    case neg=>
     have e2:(lg == []) = false:=by simp [c2]
     have hn:parseM s = none:=by rw [hpm,← l2]; simp [stepG,hln,qv,c2]
     repeat' (first | (simp (disch:=first | omega | (simp only [List.length_append,List.length_cons,List.length_nil,List.length_map,List.length_set]; omega)) only [VC_skip,VC_seq,VC_cond,VC_block,VC_ret,VC_region,VI_true,VI_false,VO_nil,VO_plain,VO_guard,VG_true,VG_false,VV_some,VS,blockQ,u_notb,ofV_bool,ofV_int,ofV_lit,gdA,callOf,isPanic,nextOf,altA,evalOp,ev_tmp,ev_const,ev_func,Av.get,St.put,thenQ,Nat.reduceEqDiff,↓reduceIte,Bool.and_self,List.map_cons,List.map_nil,List.nil_append,List.append_nil,List.getElem?_cons_zero,List.getElem?_cons_succ,List.getElem?_toArray,Option.map_some,Option.bind_some,beq_false,Bool.not_true,Bool.not_false,pickA,cond_false,ldC,stC,ic_str,ic_vsl,ic_nilsl,cl_agg,setC,List.set_cons_zero,List.set_cons_succ,List.length_cons,List.length_nil,Nat.reduceAdd,List.all_cons,List.all_nil,and_self,Nat.add_zero,Nat.zero_add,Nat.le_refl,b_lss,b_sub64,s_eql,s_neq,decide_eq_true,ld9,lw9,st24,fa24_0,st45,fa45_0,fa45_1,zz45,hia,hM0,hM1,hbz,ev,e1,e2,bne,List.getElem?_append_left,List.getElem?_append_right,List.set_append_left,List.set_append_right,Nat.sub_self]) | (guard_target =~ VCall _ _ _ _ _ _ _; refine VCall.pure (by first | with_reducible exact hl) (by (first | rfl | (simp only [AV.hfs,AV.hf,Bool.and_self,Bool.and_true,Bool.true_and,strs_hfs]))) ?_) | (guard_target =~ DCal _ _ _ _ _ _ _; refine DCal.pure (by first | with_reducible exact hl) (by (first | rfl | (simp only [AV.hfs,AV.hf,Bool.and_self,Bool.and_true,Bool.true_and,strs_hfs]))) ?_))
     exact pend _ _ hn rfl rfl
    have e2:(lg == []) = true:=by simp [c2]
    by_cases c3:lps.length = 0
    case neg=>
     have hn:parseM s = none:=by
      have:lps ≠ []:=by intro h; rw [h] at c3; simp at c3
      rw [hpm,← l2]; simp [stepG,hln,qv,this]
     have c3':0 < lps.length:=by omega
     repeat' (first | (simp (disch:=first | omega | (simp only [List.length_append,List.length_cons,List.length_nil,List.length_map,List.length_set]; omega)) only [VC_skip,VC_seq,VC_cond,VC_block,VC_ret,VC_region,VI_true,VI_false,VO_nil,VO_plain,VO_guard,VG_true,VG_false,VV_some,VS,blockQ,List.length_map,u_notb,ofV_bool,ofV_int,ofV_lit,deN_vsl,gdA,callOf,isPanic,nextOf,altA,evalOp,ev_tmp,ev_const,ev_func,Av.get,St.put,thenQ,Nat.reduceEqDiff,↓reduceIte,Bool.and_self,List.map_cons,List.map_nil,List.nil_append,List.append_nil,List.getElem?_cons_zero,List.getElem?_cons_succ,List.getElem?_toArray,Option.map_some,Option.bind_some,beq_false,Bool.not_true,Bool.not_false,pickA,cond_false,ldC,stC,ic_str,ic_vsl,ic_nilsl,cl_agg,setC,List.set_cons_zero,List.set_cons_succ,List.length_cons,List.length_nil,Nat.reduceAdd,List.all_cons,List.all_nil,and_self,Nat.add_zero,Nat.zero_add,Nat.le_refl,b_lss,b_gtr,b_sub64,s_eql,s_neq,decide_eq_true,ld9,lw9,st24,fa24_0,ld43,lv43,st45,fa45_0,fa45_1,fa45_2,zz45,hia,hM0,hM1,hbz,ev,e1,e2,bne,List.getElem?_append_left,List.getElem?_append_right,List.set_append_left,List.set_append_right,Nat.sub_self]) | (guard_target =~ VCall _ _ _ _ _ _ _; refine VCall.pure (by first | with_reducible exact hl) (by (first | rfl | (simp only [AV.hfs,AV.hf,Bool.and_self,Bool.and_true,Bool.true_and,strs_hfs]))) ?_) | (guard_target =~ DCal _ _ _ _ _ _ _; refine DCal.pure (by first | with_reducible exact hl) (by (first | rfl | (simp only [AV.hfs,AV.hf,Bool.and_self,Bool.and_true,Bool.true_and,strs_hfs]))) ?_))
     exact pend _ _ hn rfl rfl
    have c3':lps = []:=List.length_eq_zero_iff.1 c3
    cases c4:lv == [51,46,48] with
    | true=>
     have hst:stepG ⟨ver,false,ls⟩ u = some ⟨lv,false,ls⟩:=by simp [stepG,hln,qv,c1,c2,c3',version,c4]
     rw [hst,Option.bind_some] at l2
     repeat' (first | (simp (disch:=first | omega | (simp only [List.length_append,List.length_cons,List.length_nil,List.length_map,List.length_set]; omega)) only [VC_skip,VC_seq,VC_cond,VC_block,VC_exit,VC_region,VI_true,VI_false,VO_nil,VO_plain,VO_guard,VG_true,VG_false,VV_some,VS,blockQ,List.length_map,u_notb,ofV_bool,ofV_int,ofV_lit,deN_vsl,gdA,callOf,isPanic,nextOf,altA,evalOp,ev_tmp,ev_const,ev_func,Av.get,St.put,thenQ,Nat.reduceEqDiff,↓reduceIte,Bool.and_self,List.map_cons,List.map_nil,List.nil_append,List.append_nil,List.getElem?_cons_zero,List.getElem?_cons_succ,List.getElem?_toArray,Option.map_some,Option.bind_some,beq_false,beq_true,Bool.not_true,Bool.not_false,Bool.false_eq_true,pickA,cond_false,ldC,stC,cl_str,ic_str,ic_vsl,cl_agg,setC,List.set_cons_zero,List.set_cons_succ,List.length_cons,List.length_nil,Nat.reduceAdd,Nat.reduceLeDiff,List.all_cons,List.all_nil,and_self,and_true,Nat.add_zero,Nat.zero_add,Nat.le_refl,b_lss,b_gtr,b_add64,b_sub64,s_eql,s_neq,castS,decide_eq_true,decide_eq_false,st9,ld9,lw9,fa24_0,ld43,lv43,st45,fa45_0,fa45_1,fa45_2,fa45_3,zz45,hia,hM0,hM1,ev,e1,e2,c4,bne,List.getElem?_append_left,List.getElem?_append_right,List.set_append_left,List.set_append_right,Nat.sub_self]) | (guard_target =~ VCall _ _ _ _ _ _ _; refine VCall.pure (by first | with_reducible exact hl) (by (first | rfl | (simp only [AV.hfs,AV.hf,Bool.and_self,Bool.and_true,Bool.true_and,strs_hfs]))) ?_) | (guard_target =~ DCal _ _ _ _ _ _ _; refine DCal.pure (by first | with_reducible exact hl) (by (first | rfl | (simp only [AV.hfs,AV.hf,Bool.and_self,Bool.and_true,Bool.true_and,strs_hfs]))) ?_))
     refine ⟨(i + 1,⟨lv,false,ls⟩,(if z then k else k + 1),j + 1,z),⟨h,l2,l3,by simp only; omega,rfl⟩,by simp only; omega,?_,hhl _,?_⟩
     ·simp only [subT,Av.get,Nat.reduceEqDiff,↓reduceIte,Le_rfl,nat0,nat1,and_self,true_and,and_true,List.length_map,List.length_nil]
     ·have hvz:pV (if z then k else k + 1) z ls = v:=by rw [hv]; cases z<;>rfl
      simp only [hvz]
      have:=mem_more (B:=gB lv v) (f:=encLn) (k:=k) (j:=j) (z:=z) (L:=ls) (E:=[.cells [.str lg,.str ln,.vsl 3 lx (lps.map encR),.str lv] false]) (m:=(mem (gB lv v) encLn (if z then k else k + 1) (j + 1) z ls).length) (gB_hlt (by
       rw [hv]; refine pV_hlt fun hz=>?_
       rw [mem_len,hz]; simp [gB])) (encLnc_hlts _)
      have e:M.set 1 (.cells [.str lv,v] false) = mem (gB lv v) encLn k j z ls:=by rw [hM,mem_set (by simp [gB]),← hv]; rfl
      rw [e]; exact this
    | false=>
     cases c5:lv == [52,46,48] with
     | false=>
      have hn:parseM s = none:=by rw [hpm,← l2]; simp [stepG,hln,qv,version,c4,c5]
      repeat' (first | (simp (disch:=first | omega | (simp only [List.length_append,List.length_cons,List.length_nil,List.length_map,List.length_set]; omega)) only [VC_skip,VC_seq,VC_cond,VC_block,VC_ret,VC_region,VI_true,VI_false,VO_nil,VO_plain,VO_guard,VG_true,VV_some,VS,blockQ,List.length_map,u_notb,ofV_bool,ofV_int,ofV_lit,deN_vsl,gdA,callOf,isPanic,nextOf,altA,evalOp,ev_tmp,ev_const,ev_func,Av.get,St.put,thenQ,Nat.reduceEqDiff,↓reduceIte,Bool.and_self,List.map_cons,List.map_nil,List.nil_append,List.append_nil,List.getElem?_cons_zero,List.getElem?_cons_succ,List.getElem?_toArray,Option.map_some,Option.bind_some,beq_false,beq_true,Bool.not_true,Bool.not_false,pickA,cond_true,cond_false,ldC,stC,ic_str,ic_vsl,ic_nilsl,cl_agg,setC,List.set_cons_zero,List.set_cons_succ,List.length_cons,List.length_nil,Nat.reduceAdd,List.all_cons,List.all_nil,and_self,Nat.add_zero,Nat.zero_add,Nat.le_refl,b_lss,b_gtr,b_sub64,s_eql,s_neq,decide_eq_true,decide_eq_false,ld9,lw9,st24,fa24_0,ld43,lv43,st45,fa45_0,fa45_1,fa45_2,fa45_3,zz45,hia,hM0,hM1,hbz,ev,e1,e2,c4,c5,bne,List.getElem?_append_left,List.getElem?_append_right,List.set_append_left,List.set_append_right,Nat.sub_self]) | (guard_target =~ VCall _ _ _ _ _ _ _; refine VCall.pure (by first | with_reducible exact hl) (by (first | rfl | (simp only [AV.hfs,AV.hf,Bool.and_self,Bool.and_true,Bool.true_and,strs_hfs]))) ?_) | (guard_target =~ DCal _ _ _ _ _ _ _; refine DCal.pure (by first | with_reducible exact hl) (by (first | rfl | (simp only [AV.hfs,AV.hf,Bool.and_self,Bool.and_true,Bool.true_and,strs_hfs]))) ?_))
      exact pend _ _ hn rfl rfl
     | true=>
      have hst:stepG ⟨ver,false,ls⟩ u = some ⟨lv,false,ls⟩:=by simp [stepG,hln,qv,c1,c2,c3',version,c4,c5]
      rw [hst,Option.bind_some] at l2
      repeat' (first | (simp (disch:=first | omega | (simp only [List.length_append,List.length_cons,List.length_nil,List.length_map,List.length_set]; omega)) only [VC_skip,VC_seq,VC_cond,VC_block,VC_exit,VC_region,VI_true,VI_false,VO_nil,VO_plain,VO_guard,VG_true,VV_some,VS,blockQ,List.length_map,u_notb,ofV_bool,ofV_int,ofV_lit,deN_vsl,gdA,callOf,isPanic,nextOf,altA,evalOp,ev_tmp,ev_const,ev_func,Av.get,St.put,thenQ,Nat.reduceEqDiff,↓reduceIte,Bool.and_self,List.map_cons,List.map_nil,List.nil_append,List.append_nil,List.getElem?_cons_zero,List.getElem?_cons_succ,List.getElem?_toArray,Option.map_some,Option.bind_some,beq_false,beq_true,Bool.not_true,Bool.not_false,pickA,cond_true,cond_false,ldC,stC,cl_str,ic_str,ic_vsl,cl_agg,setC,List.set_cons_zero,List.set_cons_succ,List.length_cons,List.length_nil,Nat.reduceAdd,Nat.reduceLeDiff,List.all_cons,List.all_nil,and_self,and_true,Nat.add_zero,Nat.zero_add,Nat.le_refl,b_lss,b_gtr,b_add64,b_sub64,s_eql,s_neq,castS,decide_eq_true,decide_eq_false,st9,ld9,lw9,fa24_0,ld43,lv43,st45,fa45_0,fa45_1,fa45_2,fa45_3,zz45,hia,hM0,hM1,ev,e1,e2,c4,c5,bne,List.getElem?_append_left,List.getElem?_append_right,List.set_append_left,List.set_append_right,Nat.sub_self]) | (guard_target =~ VCall _ _ _ _ _ _ _; refine VCall.pure (by first | with_reducible exact hl) (by (first | rfl | (simp only [AV.hfs,AV.hf,Bool.and_self,Bool.and_true,Bool.true_and,strs_hfs]))) ?_) | (guard_target =~ DCal _ _ _ _ _ _ _; refine DCal.pure (by first | with_reducible exact hl) (by (first | rfl | (simp only [AV.hfs,AV.hf,Bool.and_self,Bool.and_true,Bool.true_and,strs_hfs]))) ?_))
      refine ⟨(i + 1,⟨lv,false,ls⟩,(if z then k else k + 1),j + 1,z),⟨h,l2,l3,by simp only; omega,rfl⟩,by simp only; omega,?_,hhl _,?_⟩
      ·simp only [subT,Av.get,Nat.reduceEqDiff,↓reduceIte,Le_rfl,nat0,nat1,and_self,true_and,and_true,List.length_map,List.length_nil]
      ·have hvz:pV (if z then k else k + 1) z ls = v:=by rw [hv]; cases z<;>rfl
       simp only [hvz]
       have:=mem_more (B:=gB lv v) (f:=encLn) (k:=k) (j:=j) (z:=z) (L:=ls) (E:=[.cells [.str lg,.str ln,.vsl 3 lx (lps.map encR),.str lv] false]) (m:=(mem (gB lv v) encLn (if z then k else k + 1) (j + 1) z ls).length) (gB_hlt (by
        rw [hv]; refine pV_hlt fun hz=>?_
        rw [mem_len,hz]; simp [gB])) (encLnc_hlts _)
       have e:M.set 1 (.cells [.str lv,v] false) = mem (gB lv v) encLn k j z ls:=by rw [hM,mem_set (by simp [gB]),← hv]; rfl
       rw [e]; exact this
   ·have ev:(ln == sVersion) = false:=by simpa using qv
    simp only [sVersion] at ev
    have hst:stepG ⟨ver,false,ls⟩ u = some ⟨ver,false,ls++[⟨lg,ln,lx,lps,lv⟩]⟩:=by simp [stepG,hln,qv]
    rw [hst,Option.bind_some] at l2
    have hbs:evBuildSlice Tryz.prog 22 1 [(0,.agg [.str lg,.str ln,.vsl 3 lx (lps.map encR),.str lv])] = some (.vsl 5 true [encLn ⟨lg,ln,lx,lps,lv⟩]):=by
     simp [evBuildSlice,Tryz.underlying22,ap22,AV.cells,AV.told,List.range',encLn]
    obtain ⟨M',ha1,ha2,ha3,ha4,ha5⟩:=mem_app (wd:=5) (bytes:=72) Tryz.underlying22 ap22 encLn (fun _=>rfl) (fun _=>rfl) (by decide) (gB ver (pV k z ls)) k j z ls (w0:=0) (fun hz=>.inr (l3 hz)) [.cells [.str lg,.str ln,.vsl 3 lx (lps.map encR),.str lv] false] ⟨lg,ln,lx,lps,lv⟩ true (by omega) hM
    have hBl:(gB ver (pV k z ls)).length = 2:=rfl
    obtain ⟨k',hk'⟩:∃ k',k' = M.length + [OB.cells [.str lg,.str ln,.vsl 3 lx (lps.map encR),.str lv] false].length - 2:=⟨_,rfl⟩
    rw [hBl,← hk'] at ha4
    rw [hBl,← pV_deN l3,← hv,← hk'] at ha1
    have hvN:memV 2 0 5 encLn k' true (ls++[⟨lg,ln,lx,lps,lv⟩]) = .sl (2 + k') 0 (ls++[(⟨lg,ln,lx,lps,lv⟩:Ln)]).length 5:=rfl
    rw [hvN] at ha1
    have hM'1:M'[1]? = some (.cells [.str ver,v] false):=by rw [ha5 1 (by simp [gB]),hv]; rfl
    have hvd:deN v = memV 2 0 5 encLn k z ls:=by rw [hv]; exact pV_deN l3
    repeat' (first | (simp (disch:=first | omega | (simp only [List.length_append,List.length_cons,List.length_nil,List.length_map,List.length_set]; omega)) only [VC_skip,VC_seq,VC_cond,VC_block,VC_region,VI_true,VI_false,VO_nil,VO_plain,VV_some,VS,blockQ,u_notb,ofV_int,ofV_lit,deN_vsl,callOf,isPanic,nextOf,altA,evalOp,ev_tmp,ev_const,ev_func,Av.get,St.put,thenQ,Nat.reduceEqDiff,↓reduceIte,Bool.and_self,List.map_cons,List.map_nil,List.nil_append,List.append_nil,List.getElem?_cons_zero,List.getElem?_cons_succ,Option.map_some,Bool.not_true,ldC,ldG,stC,ic_str,cl_sl,ic_sl,ic_vsl,cl_agg,setC,List.set_cons_zero,List.set_cons_succ,List.length_cons,List.length_nil,Nat.reduceAdd,List.all_cons,List.all_nil,and_self,and_true,Nat.zero_add,List.drop_zero,List.take_succ_cons,List.take_zero,Nat.le_refl,b_lss,b_add64,b_sub64,s_eql,castS,decide_eq_true,ld9,lw9,st22,ld22,fa24_1,st45,ld45,fa45_1,zz45,hia,hM0,hM1,hM'1,ev,hbs,ha1,List.getElem?_append_left,List.getElem?_append_right,List.set_append_right,List.length_append,Nat.sub_self]) | (guard_target =~ VCall _ _ _ _ _ _ _; refine VCall.pure (by first | with_reducible exact hl) (by (first | rfl | (simp only [AV.hfs,AV.hf,Bool.and_self,Bool.and_true,Bool.true_and,strs_hfs]))) ?_) | (guard_target =~ DCal _ _ _ _ _ _ _; refine DCal.pure (by first | with_reducible exact hl) (by (first | rfl | (simp only [AV.hfs,AV.hf,Bool.and_self,Bool.and_true,Bool.true_and,strs_hfs]))) ?_))
    refine ⟨(i + 1,⟨ver,false,ls++[⟨lg,ln,lx,lps,lv⟩]⟩,k',0,true),⟨h,l2,(fun hh=>by cases hh),by simp only [List.length_append,List.length_cons,List.length_nil]; omega,rfl⟩,by simp only; omega,?_,hhl _,?_⟩
    ·simp only [subT,Av.get,Nat.reduceEqDiff,↓reduceIte,Le_rfl,nat0,nat1,and_self,true_and,and_true,List.length_map,List.length_nil]
    ·have h4:=ha4 (mem (gB ver (pV k' true (ls++[⟨lg,ln,lx,lps,lv⟩]))) encLn k' 0 true (ls++[⟨lg,ln,lx,lps,lv⟩])).length (gB_hlt (pV_hlt fun hz=>?_)) (encLnc_hlts _)
     ·have h5:=subH_set (b:=.cells [.str ver,pV k' true (ls++[⟨lg,ln,lx,lps,lv⟩])] false) (i:=1) ?_ h4
      ·rw [mem_set (by simp [gB])] at h5
       have e:(gB ver (pV k z ls)).set 1 (.cells [.str ver,pV k' true (ls++[⟨lg,ln,lx,lps,lv⟩])] false) = gB ver (pV k' true (ls++[⟨lg,ln,lx,lps,lv⟩])):=rfl
       rw [e] at h5
       simpa [pV] using h5
      ·have:(pV k' true (ls++[(⟨lg,ln,lx,lps,lv⟩:Ln)])).hlt (mem (gB ver (pV k' true (ls++[⟨lg,ln,lx,lps,lv⟩]))) encLn k' 0 true (ls++[⟨lg,ln,lx,lps,lv⟩])).length = true:=pV_hlt fun _=>by rw [mem_len]; simp [gB]
       simp [OB.hlt,AV.hlts,AV.hlt,this]
     ·rw [mem_len,hk']
      rw [hM,mem_len,hz]; simp [gB]; omega
 ·have hie:i = mid.length:=by omega
  subst hie
  rw [List.drop_length,runG] at l2
  obtain ⟨u,hu,hle⟩:=hfz 18 M (fun _ _ _=>rfl)
  obtain ⟨cc,hcc⟩:∃ cc,cc = checkC ⟨ver,false,ls⟩:=⟨_,rfl⟩
  have hck:PureFn Tryz.prog 14 [.agg [.str ver,u]] (.ret (.int .i64 cc)):=by
   rw [hcc]
   exact PureFn.le (.cons _ _ _ _ (.agg _ _ (.cons _ _ _ _ (.refl _) (.cons _ _ _ _ hle .nil))) .nil) (checkR ⟨ver,false,ls⟩)
  have hln:lend M [.agg [.str ver,v]] (.ret (.int .i64 cc)) = some [.agg [.str ver,u]]:=by
   have h1:fz M 20 (.agg [.str ver,v]) = some (.agg [.str ver,u]):=fz_agg_any (k:=18) (by simp only [List.mapM_cons,List.mapM_nil,hu]; rfl)
   exact lend_fz (by simp only [List.mapM_cons,List.mapM_nil,h1]; rfl) rfl
  refine .vc (by decide) ?_
  by_cases qc:cc = 0
  ·have hn:parseM s = some ⟨ver,false,ls⟩:=by rw [hpm,← l2]; simp [okC,← hcc,qc]
   rw [qc] at hck hln
   repeat' (first | (simp (disch:=first | omega | (simp only [List.length_append,List.length_cons,List.length_nil,List.length_map,List.length_set]; omega)) only [VC_skip,VC_seq,VC_cond,VC_exit,VC_ret,VC_region,VI_false,VO_nil,VO_plain,VV_some,VS,blockQ,ofV_int,callOf,isPanic,nextOf,altA,evalOp,ev_tmp,ev_const,ev_func,Av.get,St.put,thenQ,Nat.reduceEqDiff,↓reduceIte,Bool.and_self,List.map_cons,List.map_nil,List.nil_append,List.append_nil,Option.map_some,ldG,stC,ic_str,cl_agg,setC,List.set_cons_zero,List.set_cons_succ,List.length_cons,List.length_nil,Nat.reduceAdd,List.all_cons,List.all_nil,and_self,Nat.zero_add,List.drop_zero,List.take_succ_cons,List.take_zero,Nat.le_refl,b_lss,b_neq,b_sub64,ine_f,decide_eq_false,st24,ld24,hM0,hM1,hvC,hv1,Nat.sub_self]) | (guard_target =~ VCall _ _ _ _ _ _ _; refine VCall.lend _ hck hln ?_))
   rw [hO,hn]
   refine retQct (v:=.agg [.str ver,v]) (u:=.int .i64 0) 2 24 3 rfl rfl ?_ rfl ⟨fz_aggL (k:=17) (ts:=[.str ver,.vsl 5 false (ls.map encLn)]) (LzL_hf rfl ⟨hfz 17 _ (fun i hi hl=>?_),trivial⟩),LzL_hf rfl trivial⟩
   ·simp only [Av.get,Nat.reduceEqDiff,↓reduceIte]
    rw [ld24]
    simp only [ldG]
    rw [List.getElem?_set_self (by omega)]
    rfl
   ·rw [List.getElem?_set_ne (by omega)]
  ·have hn:parseM s = none:=by rw [hpm,← l2]; simp [okC,← hcc,qc]
   have qc':0 < cc:=by omega
   repeat' (first | (simp (disch:=first | omega | (simp only [List.length_append,List.length_cons,List.length_nil,List.length_map,List.length_set]; omega)) only [VC_seq,VC_cond,VC_exit,VC_ret,VC_region,VI_true,VI_false,VO_nil,VO_plain,VV_some,VS,blockQ,ofV_int,callOf,isPanic,nextOf,altA,evalOp,ev_tmp,ev_const,ev_func,Av.get,St.put,thenQ,Nat.reduceEqDiff,↓reduceIte,Bool.and_self,List.map_cons,List.map_nil,List.nil_append,List.append_nil,Option.map_some,ldG,stC,ic_str,ic_nilsl,cl_agg,setC,List.set_cons_zero,List.set_cons_succ,List.length_cons,List.length_nil,Nat.reduceAdd,List.all_cons,List.all_nil,and_self,Nat.zero_add,List.drop_zero,List.take_succ_cons,List.take_zero,Nat.le_refl,b_lss,b_neq,b_sub64,ine_t,decide_eq_false,st24,ld24,hM0,hM1,hvC,hv1,hbz,Nat.sub_self]) | (guard_target =~ VCall _ _ _ _ _ _ _; refine VCall.lend _ hck hln ?_))
   exact pend0 _ hn rfl rfl
end Go.Proofs.YtjlhemfmeboadaaGreatDoor
namespace Go.Proofs.YtjlhemfmeboadaaGreatDoor
set_option linter.unusedVariables false
set_option linter.unusedSimpArgs false
open Go Go.Av Go.RowKit

def v40:Bytes:=[52,46,48]
def ntB:Bytes:=[110,111,116,101]
def ntL:Ln:=⟨[],ntB,false,[],[]⟩
def ntA:AV:=.agg [.str [],.str ntB,.nilsl,.str []]
def ntF (_:Ln):AV:=ntA
def qV (k:Nat) (z:Bool) (n:Nat):AV:=if z then .sl (2 + k) 0 n 5 else .nilsl
def lB (b:OB) (v:AV):List OB:=[b,.cells [.str v40,v] false]
theorem parseO_3 (s:Bytes):(decide (s.length > 16000) == decide ((parseO s).2 = 3)) = true:=by
 unfold parseO
 by_cases h:s.length > 16000
 ·rw [if_pos h]; simp [h]
 ·rw [if_neg h]
  split<;>simp [h]
theorem nt_lee (n:Nat):Lee ((List.replicate n ntL).map ntF) ((List.replicate n ntL).map encLn):=by
 induction n with
 | zero=>exact .nil
 | succ n ih=>
  simp only [List.replicate_succ,List.map_cons]
  exact .cons _ _ _ _ (.cons _ _ _ _ (.refl _) (.cons _ _ _ _ (.refl _) (.cons _ _ _ _ (.nils _ _) (.cons _ _ _ _ (.refl _) .nil)))) ih
set_option maxRecDepth 8000 in
theorem vcardLong (n lines:Int):PureFn Tryz.prog 6 [.int .i64 n,.int .i64 lines] (.ret (.bool true)):=by
 have hk:=knownV
 by_cases q1:n < 15900
 case pos=>
  refine PureFn.of Tryz.func6 rfl (enters_call enters Tryz.func6 rfl) (by simp [Tryz.ntmps6]) ?_
  show W Tryz.prog 111 0 none _ _ _
  refine W.vc (by decide) ?_
  repeat' (first | (simp (disch:=first | omega | (simp only [List.length_append,List.length_cons,List.length_nil,List.length_map,List.length_set]; omega)) only [VC_seq,VC_cond,VC_ret,VC_region,VI_true,VO_nil,VO_plain,VO_guard,VG_false,VV_some,VS,ofV_bool,ofV_int,gdA,callOf,isPanic,nextOf,altA,evalOp,ev_tmp,ev_const,ev_func,Av.get,St.put,argT,thenQ,Nat.reduceEqDiff,↓reduceIte,List.map_nil,List.append_nil,List.getElem?_cons_zero,List.getElem?_cons_succ,List.getElem?_toArray,Option.bind_some,beq_false,Bool.not_true,pickA,Nat.zero_add,b_lss,decide_eq_true]) | (guard_target =~ VCall _ _ _ _ _ _ _; refine VCall.pure (by first | with_reducible exact hk) (by (first | rfl | (simp only [AV.hfs,AV.hf,Bool.and_self,Bool.and_true,Bool.true_and,strs_hfs]))) ?_) | (guard_target =~ DCal _ _ _ _ _ _ _; refine DCal.pure (by first | with_reducible exact hk) (by (first | rfl | (simp only [AV.hfs,AV.hf,Bool.and_self,Bool.and_true,Bool.true_and,strs_hfs]))) ?_))
  exact ⟨_,rfl,_,rfl,.refl _⟩
 by_cases q2:n > 16100
 case pos=>
  refine PureFn.of Tryz.func6 rfl (enters_call enters Tryz.func6 rfl) (by simp [Tryz.ntmps6]) ?_
  show W Tryz.prog 111 0 none _ _ _
  refine W.vc (by decide) ?_
  repeat' (first | (simp (disch:=first | omega | (simp only [List.length_append,List.length_cons,List.length_nil,List.length_map,List.length_set]; omega)) only [VC_seq,VC_cond,VC_ret,VC_region,VI_true,VO_nil,VO_plain,VO_guard,VG_true,VG_false,VV_some,VS,ofV_bool,ofV_int,gdA,callOf,isPanic,nextOf,altA,evalOp,ev_tmp,ev_const,ev_func,Av.get,St.put,argT,thenQ,Nat.reduceEqDiff,↓reduceIte,List.map_nil,List.append_nil,List.getElem?_cons_zero,List.getElem?_cons_succ,List.getElem?_toArray,Option.bind_some,beq_false,Bool.not_true,Bool.not_false,pickA,cond_false,Nat.zero_add,b_lss,b_gtr,decide_eq_true,decide_eq_false]) | (guard_target =~ VCall _ _ _ _ _ _ _; refine VCall.pure (by first | with_reducible exact hk) (by (first | rfl | (simp only [AV.hfs,AV.hf,Bool.and_self,Bool.and_true,Bool.true_and,strs_hfs]))) ?_) | (guard_target =~ DCal _ _ _ _ _ _ _; refine DCal.pure (by first | with_reducible exact hk) (by (first | rfl | (simp only [AV.hfs,AV.hf,Bool.and_self,Bool.and_true,Bool.true_and,strs_hfs]))) ?_))
  exact ⟨_,rfl,_,rfl,.refl _⟩
 by_cases q3:lines < 0
 case pos=>
  refine PureFn.of Tryz.func6 rfl (enters_call enters Tryz.func6 rfl) (by simp [Tryz.ntmps6]) ?_
  show W Tryz.prog 111 0 none _ _ _
  refine W.vc (by decide) ?_
  repeat' (first | (simp (disch:=first | omega | (simp only [List.length_append,List.length_cons,List.length_nil,List.length_map,List.length_set]; omega)) only [VC_seq,VC_cond,VC_ret,VC_region,VI_true,VO_nil,VO_plain,VO_guard,VG_true,VG_false,VV_some,VS,ofV_bool,ofV_int,gdA,callOf,isPanic,nextOf,altA,evalOp,ev_tmp,ev_const,ev_func,Av.get,St.put,argT,thenQ,Nat.reduceEqDiff,↓reduceIte,List.map_nil,List.append_nil,List.getElem?_cons_zero,List.getElem?_cons_succ,List.getElem?_toArray,Option.bind_some,beq_false,Bool.not_true,Bool.not_false,pickA,cond_false,Nat.zero_add,b_lss,b_gtr,decide_eq_true,decide_eq_false]) | (guard_target =~ VCall _ _ _ _ _ _ _; refine VCall.pure (by first | with_reducible exact hk) (by (first | rfl | (simp only [AV.hfs,AV.hf,Bool.and_self,Bool.and_true,Bool.true_and,strs_hfs]))) ?_) | (guard_target =~ DCal _ _ _ _ _ _ _; refine DCal.pure (by first | with_reducible exact hk) (by (first | rfl | (simp only [AV.hfs,AV.hf,Bool.and_self,Bool.and_true,Bool.true_and,strs_hfs]))) ?_))
  exact ⟨_,rfl,_,rfl,.refl _⟩
 by_cases q4:lines > 110
 case pos=>
  refine PureFn.of Tryz.func6 rfl (enters_call enters Tryz.func6 rfl) (by simp [Tryz.ntmps6]) ?_
  show W Tryz.prog 111 0 none _ _ _
  refine W.vc (by decide) ?_
  repeat' (first | (simp (disch:=first | omega | (simp only [List.length_append,List.length_cons,List.length_nil,List.length_map,List.length_set]; omega)) only [VC_seq,VC_cond,VC_ret,VC_region,VI_true,VO_nil,VO_plain,VO_guard,VG_true,VV_some,VS,ofV_bool,ofV_int,gdA,callOf,isPanic,nextOf,altA,evalOp,ev_tmp,ev_const,ev_func,Av.get,St.put,argT,thenQ,Nat.reduceEqDiff,↓reduceIte,List.map_nil,List.append_nil,List.getElem?_cons_zero,List.getElem?_cons_succ,List.getElem?_toArray,Option.bind_some,beq_false,Bool.not_false,pickA,cond_false,Nat.zero_add,b_lss,b_gtr,decide_eq_true,decide_eq_false]) | (guard_target =~ VCall _ _ _ _ _ _ _; refine VCall.pure (by first | with_reducible exact hk) (by (first | rfl | (simp only [AV.hfs,AV.hf,Bool.and_self,Bool.and_true,Bool.true_and,strs_hfs]))) ?_) | (guard_target =~ DCal _ _ _ _ _ _ _; refine DCal.pure (by first | with_reducible exact hk) (by (first | rfl | (simp only [AV.hfs,AV.hf,Bool.and_self,Bool.and_true,Bool.true_and,strs_hfs]))) ?_))
  exact ⟨_,rfl,_,rfl,.refl _⟩
 obtain ⟨N,rfl⟩:∃ N:Nat,n = (N:Int):=⟨n.toNat,by omega⟩
 obtain ⟨k0,rfl⟩:∃ k:Nat,lines = (k:Int):=⟨lines.toNat,by omega⟩
 have hvt:=vcardTexts ⟨v40,false,List.replicate k0 ntL⟩
 refine PureFn.of Tryz.func6 rfl (enters_call enters Tryz.func6 rfl) (by simp [Tryz.ntmps6]) ?_
 show W Tryz.prog 111 0 none _ _ _
 refine W.vc (by decide) ?_
 repeat' (first | (simp (disch:=first | omega | (simp only [List.length_append,List.length_cons,List.length_nil,List.length_map,List.length_set]; omega)) only [VC_skip,VC_seq,VC_cond,VC_block,VC_region,VC_loop,VI_false,VO_nil,VO_plain,VO_guard,VG_true,VV_some,VS,ofV_bool,ofV_int,ofV_lit,gdA,callOf,isPanic,nextOf,altA,evalOp,ev_tmp,ev_const,Av.get,St.put,argT,thenQ,Nat.reduceEqDiff,↓reduceIte,List.getElem?_cons_zero,List.getElem?_cons_succ,List.getElem?_toArray,Option.bind_some,beq_false,Bool.not_false,pickA,cond_false,Nat.zero_add,b_lss,b_gtr,decide_eq_false]))
 refine W.loopT (X:=Bytes) (fun x=>[(5,.str x),(0,.int .i64 (N:Int)),(1,.int .i64 (k0:Int))]) (fun _=>[]) (fun x=>34≤x.length∧x.length + 3≤N) (fun x=>N - x.length) [66,69,71,73,78,58,86,67,65,82,68,10,86,69,82,83,73,79,78,58,52,46,48,10,69,78,68,58,86,67,65,82,68,10] ⟨by decide,by simp only [List.length_cons,List.length_nil]; omega⟩ ⟨rfl,rfl,rfl,trivial⟩ rfl ?_
 rintro x ⟨l1,l2⟩
 refine .vc (by decide) ?_
 have hst:evSlice Tryz.prog 9 (.str x) none (some (.int .i64 24)) none = some (.str (x.take 24)):=by
  have:=bnds_to .i64 (n:=x.length) 24 (by omega)
  rw [ss9]; simp only [Int.ofNat_eq_natCast,show ((24:Nat):Int) = 24 from rfl] at this; rw [this]; rfl
 have hsd:evSlice Tryz.prog 9 (.str x) (some (.int .i64 24)) none none = some (.str (x.drop 24)):=by
  have:=bnds_from .i64 (n:=x.length) 24 (by omega)
  rw [ss9]; simp only [show ((24:Nat):Int) = 24 from rfl] at this; rw [this]; simp only [Option.map_some,take_drop_all]
 have had1:∀ t:Bytes,t.length≤100→evBin Tryz.prog .add 9 (.str (x.take 24)) (.str t) = some (.str (x.take 24++t)):=fun t ht=>sadd _ _ (by simp only [List.length_take]; show _≤9223372036854775807; omega)
 have had2:∀ t:Bytes,t.length≤100→evBin Tryz.prog .add 9 (.str (x.take 24++t)) (.str (x.drop 24)) = some (.str (x.take 24++t++x.drop 24)):=fun t ht=>sadd _ _ (by simp only [List.length_append,List.length_take,List.length_drop]; show _≤9223372036854775807; omega)
 by_cases h:x.length + 12 < N
 ·repeat' (first | (simp (disch:=first | omega | (simp only [List.length_append,List.length_cons,List.length_nil,List.length_map,List.length_set]; omega)) only [VC_skip,VC_seq,VC_cond,VC_block,VC_region,VC_drawn,VI_true,VO_nil,VO_plain,VV_some,VS,ofV_int,deN_str,callOf,isPanic,nextOf,altA,evalOp,ev_tmp,ev_const,Av.get,St.put,thenQ,Nat.reduceEqDiff,↓reduceIte,Option.map_some,b_lss,b_sub64,decide_eq_true,ls9]))
  refine W.drawN [] [false,false,false,false,false,false,false] [] mixed (by kernel_rfl) (by kernel_rfl) (by kernel_rfl) ?_
  repeat' (first | (simp (disch:=first | omega | (simp only [List.length_append,List.length_cons,List.length_nil,List.length_map,List.length_set]; omega)) only [VV_some,blockQ,DT_nil,DT_plain,DS,cHs_f,cHs_n,cPs,lastS_1,lastS_2,ofV_int,ofV_lit,deN_str,callOf,isPanic,evalOp,ev_tmp,ev_const,Av.get,St.put,thenQ,Nat.reduceEqDiff,↓reduceIte,List.nil_append,Option.map_some,Option.map_none,and_self,true_and,and_true,List.cons_append,hst,hsd,had1 [78,79,84,69,58,97,10,32,98,10] (by decide),had2 [78,79,84,69,58,97,10,32,98,10] (by decide)]))
  exact ⟨_,⟨by simp; omega,by simp; omega⟩,by simp; omega,⟨rfl,rfl,rfl,trivial⟩⟩
 ·obtain ⟨m,hm⟩:∃ m:Nat,m = N - x.length - 3:=⟨_,rfl⟩
  have hmx:evMax (.int .i64 0) (.int .i64 ((N:Int) - (x.length:Int) - 3)) = some (.int .i64 (m:Int)):=by
   have:(N:Int) - (x.length:Int) - 3 = (m:Int):=by omega
   rw [this]; simp [evMax]; try omega
  have hmk:evMakeSlice Tryz.prog 42 (.int .i64 (m:Int)) (.int .i64 (m:Int)) [] = some (.sl 0 0 m 0,wE m []):=by
   have hz8:zeroA Tryz.prog 5 = some (.int .u8 0):=by kernel_rfl
   have hr:rep m (AV.cells (.int .u8 0)) = zeros m:=by simp [rep,zeros,AV.cells,List.flatten_replicate_singleton]
   simp only [evMakeSlice,Tryz.underlying42,idx_nat,ap42,hz8,List.length_nil,List.nil_append,hr]
   rw [if_pos (by omega)]; rfl
  repeat' (first | (simp (disch:=first | omega | (simp only [List.length_append,List.length_cons,List.length_nil,List.length_map,List.length_set]; omega)) only [VC_seq,VC_cond,VC_block,VC_exit,VC_region,VC_loop,VI_false,VO_nil,VO_plain,VV_some,VS,blockQ,ofV_int,deN_str,callOf,isPanic,nextOf,altA,evalOp,ev_tmp,ev_const,Av.get,St.put,thenQ,Nat.reduceEqDiff,↓reduceIte,Option.map_some,b_lss,b_sub64,decide_eq_false,ls9,hmx,hmk]))
  refine W.loopT (X:=Nat) (fun i=>[(7,.int .i64 (i:Int)),(6,.sl 0 0 m 0),(5,.str x),(0,.int .i64 (N:Int)),(1,.int .i64 (k0:Int))]) (fun i=>wE m (List.replicate i 120)) (fun i=>i≤m) (fun i=>m - i) 0 (Nat.zero_le _) ⟨rfl,rfl,rfl,rfl,rfl,trivial⟩ rfl ?_
  intro i hi
  refine .vc (by decide) ?_
  have hln:∀ H,evLen Tryz.prog 42 (.sl 0 0 m 0) H = some (.int .i64 m):=by intro H; simp [evLen,Tryz.underlying42]
  by_cases hi':i < m
  ·have hput:=wE_put m (List.replicate i 120) 120 (by simp; omega)
   simp only [List.length_replicate] at hput
   have hput:evStore Tryz.prog 5 (.ptr 0 i) (.int .u8 120) (wE m (List.replicate i 120)) = some (wE m (List.replicate (i + 1) 120)):=by
    rw [List.replicate_succ']; exact hput
   have hia:∀ H,evIndexAddr Tryz.prog 42 (.sl 0 0 m 0) (.int .i64 (i:Int)) H = some (.ptr 0 i):=by
    intro H; simp [evIndexAddr,idx_nat,Tryz.underlying42,tz5]; omega
   repeat' (first | (simp (disch:=first | omega | (simp only [List.length_append,List.length_cons,List.length_nil,List.length_map,List.length_set]; omega)) only [VC_skip,VC_seq,VC_cond,VC_block,VC_region,VI_true,VO_nil,VO_plain,VV_some,VS,blockQ,ofV_int,deN_sl,callOf,isPanic,nextOf,altA,evalOp,ev_tmp,ev_const,Av.get,St.put,Nat.reduceEqDiff,↓reduceIte,Option.map_some,and_true,b_lss,b_add64,castS,decide_eq_true,hln,hia,hput,tq_n]))
   exact ⟨i + 1,by omega,by omega,⟨rfl,rfl,rfl,rfl,rfl,trivial⟩,rfl⟩
  ·have e:i = m:=by omega
   subst e
   have hcv:=wE_str (List.replicate i 120) i (by simp)
   repeat' (first | (simp (disch:=first | omega | (simp only [List.length_append,List.length_cons,List.length_nil,List.length_map,List.length_set]; omega)) only [VC_seq,VC_cond,VC_exit,VC_region,VC_drawn,VI_false,VO_nil,VO_plain,VV_some,VS,blockQ,deN_sl,callOf,isPanic,nextOf,altA,evalOp,ev_tmp,Av.get,St.put,thenQ,Nat.reduceEqDiff,↓reduceIte,Option.map_some,b_lss,decide_eq_false,hln]))
   refine W.drawN [4] [false,false,false,false,true,false,false,false,false,false,false] [] mixed (by kernel_rfl) (by kernel_rfl) (by kernel_rfl) ?_
   obtain ⟨r,hr⟩:∃ r:Bytes,r = List.replicate i 120:=⟨_,rfl⟩
   have hrl:r.length = i:=by rw [hr]; simp
   rw [← hr] at hcv ⊢
   obtain ⟨s,hs⟩:∃ s:Bytes,s = x.take 24++[78,58]++r++[10]++x.drop 24:=⟨_,rfl⟩
   have hsl:s.length = N:=by rw [hs]; simp; omega
   have hd1:evBin Tryz.prog .add 9 (.str (x.take 24)) (.str [78,58]) = some (.str (x.take 24++[78,58])):=had1 _ (by decide)
   have hd2:evBin Tryz.prog .add 9 (.str (x.take 24++[78,58])) (.str r) = some (.str (x.take 24++[78,58]++r)):=sadd _ _ (by simp only [List.length_append,List.length_take,List.length_cons,List.length_nil]; show _≤9223372036854775807; omega)
   have hd3:evBin Tryz.prog .add 9 (.str (x.take 24++[78,58]++r)) (.str [10]) = some (.str (x.take 24++[78,58]++r++[10])):=sadd _ _ (by simp only [List.length_append,List.length_take,List.length_cons,List.length_nil]; show _≤9223372036854775807; omega)
   have hd4:evBin Tryz.prog .add 9 (.str (x.take 24++[78,58]++r++[10])) (.str (x.drop 24)) = some (.str s):=by rw [hs]; exact sadd _ _ (by simp only [List.length_append,List.length_take,List.length_drop,List.length_cons,List.length_nil]; show _≤9223372036854775807; omega)
   have hb24:evBuild Tryz.prog 24 [(0,.str [52,46,48])] = some (.agg [.str v40,.nilsl]):=by kernel_rfl
   have hb45:evBuild Tryz.prog 45 [(1,.str [110,111,116,101])] = some ntA:=by kernel_rfl
   have hbs:evBuildSlice Tryz.prog 22 1 [(0,ntA)] = some (.vsl 5 true [ntA]):=by kernel_rfl
   obtain ⟨b0,hb0⟩:∃ b0:OB,wE i r = [b0]:=⟨_,rfl⟩
   rw [hb0] at hcv ⊢
   repeat' (first | (simp (disch:=first | omega | (simp only [List.length_append,List.length_cons,List.length_nil,List.length_map,List.length_set]; omega)) only [VC_seq,VC_block,VC_region,VC_loop,VO_nil,VO_plain,VV_some,VS,DT_nil,DT_plain,DS,cHs_t,cHs_f,cHs_n,cPs,lastS_1,lastS_2,List.getElem?_concat_length,set_concat,ofV_int,ofV_lit,deN_str,callOf,isPanic,nextOf,altA,evalOp,ev_tmp,ev_const,Av.get,St.put,thenQ,Nat.reduceEqDiff,↓reduceIte,Bool.and_self,List.map_cons,List.map_nil,List.nil_append,Option.map_some,Option.map_none,stC,ic_str,ic_nilsl,cl_agg,setC,List.set_cons_zero,List.set_cons_succ,List.length_cons,List.length_nil,Nat.reduceAdd,List.all_cons,List.all_nil,and_self,true_and,Nat.zero_add,Nat.le_refl,List.cons_append,st24,zz24,hst,hsd,hcv,hd1,hd2,hd3,hd4,hb24]))
   refine W.loopT (X:=Nat × Nat × Bool) (fun y=>[(9,.int .i64 (y.1:Int)),(8,.ptr 1 0),(5,.str s),(1,.int .i64 (k0:Int))]) (fun y=>mem (lB b0 (qV y.2.1 y.2.2 y.1)) ntF y.2.1 0 y.2.2 (List.replicate y.1 ntL)) (fun y=>y.1≤k0∧(y.2.2 = false→y.1 = 0)) (fun y=>k0 - y.1) (0,0,false) ⟨Nat.zero_le _,fun _=>rfl⟩ ⟨rfl,rfl,rfl,rfl,trivial⟩ rfl ?_
   rintro ⟨j,k,z⟩ ⟨g1,g2⟩
   simp only at g1 g2 ⊢
   obtain ⟨v,hv⟩:∃ v,v = qV k z j:=⟨_,rfl⟩
   obtain ⟨M,hM⟩:∃ M,M = mem (lB b0 (qV k z j)) ntF k 0 z (List.replicate j ntL):=⟨_,rfl⟩
   have hM1:M[1]? = some (.cells [.str v40,v] false):=by rw [hM,mem_get (by simp [lB]),hv]; rfl
   have hvI:v = .nilsl∨∃ a b,v = .sl a 0 b 5:=by rw [hv]; cases z<;>simp [qV]
   have hvC:v.isC = true:=by rcases hvI with h | ⟨a,b,h⟩<;>rw [h]<;>rfl
   have hv1:v.cells = [v]:=by rcases hvI with h | ⟨a,b,h⟩<;>rw [h]<;>rfl
   refine .vc (by decide) ?_
   rw [← hM]
   by_cases hj:j < k0
   ·have ha1:=mem_appX (wd:=5) (w0:=0) (bytes:=72) Tryz.underlying22 ap22 ntF (fun _=>rfl) (fun _=>rfl) (by decide) (lB b0 (qV k z j)) k z (List.replicate j ntL) (fun hz=>.inr (by rw [g2 hz]; rfl)) ntL true (by simp; omega)
    have hvd:deN v = memV (lB b0 (qV k z j)).length 0 5 ntF k z (List.replicate j ntL):=by
     rw [hv]; cases z
     ·rw [g2 rfl]; rfl
     ·simp [qV,memV,lB,deN]
    obtain ⟨k',hk'⟩:∃ k',k' = (if z then k + 1 else k):=⟨_,rfl⟩
    obtain ⟨M',hM'⟩:∃ M',M' = mem (lB b0 (qV k z j)) ntF k' 0 true (List.replicate j ntL++[ntL]):=⟨_,rfl⟩
    rw [← hvd,← hM,← hk',← hM'] at ha1
    have hv':memV (lB b0 (qV k z j)).length 0 5 ntF k' true (List.replicate j ntL++[ntL]) = .sl (2 + k') 0 (j + 1) 5:=by simp [memV,lB]
    rw [hv'] at ha1
    have ha1:evAppend Tryz.prog 22 22 (deN v) (.vsl 5 true [ntA]) M = some (.sl (2 + k') 0 (j + 1) 5,M'):=ha1
    have hM'1:M'[1]? = some (.cells [.str v40,v] false):=by rw [hM',mem_get (by simp [lB]),hv]; rfl
    repeat' (first | (simp (disch:=first | omega | (simp only [List.length_append,List.length_cons,List.length_nil,List.length_map,List.length_set]; omega)) only [VC_skip,VC_seq,VC_cond,VC_block,VC_region,VI_true,VO_nil,VO_plain,VV_some,VS,blockQ,ofV_int,ofV_lit,deN_vsl,callOf,isPanic,nextOf,altA,evalOp,ev_tmp,ev_const,Av.get,St.put,thenQ,Nat.reduceEqDiff,↓reduceIte,Bool.and_self,List.map_cons,List.map_nil,List.getElem?_cons_zero,List.getElem?_cons_succ,Option.map_some,ldC,stC,cl_sl,ic_sl,setC,List.set_cons_zero,List.set_cons_succ,List.length_cons,List.length_nil,Nat.reduceAdd,List.all_cons,List.all_nil,and_self,and_true,Nat.zero_add,Nat.le_refl,b_lss,b_add64,castS,decide_eq_true,st22,ld22,fa24_1,hM1,hM'1,hb45,hbs,ha1,hvC,hv1]))
    refine ⟨(j + 1,k',true),⟨by simp only; omega,fun h=>by cases h⟩,by simp only; omega,⟨rfl,rfl,rfl,rfl,trivial⟩,?_⟩
    simp only
    rw [hM',mem_set (by simp [lB]),List.replicate_succ']
    rfl
   ·have e:j = k0:=by omega
    subst e
    have hMl:2≤M.length:=by rw [hM,mem_len]; simp [lB]; omega
    have hp:=parseV s (by omega)
    have hp2:=parseR s (by omega)
    have hc3:=parseO_3 s
    obtain ⟨⟨c,no⟩,ho⟩:∃ o,o = parseO s:=⟨_,rfl⟩
    rw [← ho] at hp hp2 hc3
    have hrs:=sameRf c c
    rw [sameC_refl] at hrs
    simp only at hc3
    obtain ⟨ver,cx,ls⟩:=c
    simp only [outP,encCd] at hp hp2 hrs
    have hge:evBin Tryz.prog .eql 4 (.bool (decide ((s.length:Int) > 16000))) (.bool ((no:Int) == 3)) = some (.bool true):=by
     have h1:decide ((s.length:Int) > 16000) = decide (s.length > 16000):=by congr 1; simp; omega
     have h2:((no:Int) == 3) = decide (no = 3):=by
      by_cases h:no = 3
      ·subst h; rfl
      ·rw [decide_eq_false h]; simp; omega
     rw [h1,h2]
     simp only [beq_iff_eq] at hc3
     simp [evBin,hc3]
    obtain ⟨E,hE⟩:∃ E:OB,E = .cells [.str ver,.vsl 5 cx (ls.map encLn)] false:=⟨_,rfl⟩
    obtain ⟨u,hu,hule⟩:∃ u,fz (M++[E,E]) 19 v = some u∧Le u (.vsl 5 false ((List.replicate j ntL).map ntF)):=by
     cases z with
     | false=>rw [hv,g2 rfl]; exact ⟨_,rfl,.nils _ _⟩
     | true=>
      rw [hv]
      have hat:(M++[E,E])[2 + k]? = some (.cells (flatA ntF (List.replicate j ntL)) true):=by
       have h1:M[2 + k]? = some (.cells (flatA ntF (List.replicate j ntL)) true):=by rw [hM]; exact mem_at (B:=lB b0 (qV k true j))
       exact get_app h1
      have:=slIn_fz (f:=ntF) (n:=4) (k:=18) (L:=List.replicate j ntL) (by decide) (fun x=>⟨_,rfl,rfl⟩) (fun x=>rfl) (.inr ⟨2 + k,rfl,hat⟩)
      simpa [qV] using this
    have hvt':PureFn Tryz.prog 3 [.agg [.str v40,u]] (.ret (.bool true)):=
     PureFn.le (.cons _ _ _ _ (.agg _ _ (.cons _ _ _ _ (.refl _) (.cons _ _ _ _ hule .nil))) .nil)
      (PureFn.sub (.cons (Sb.agg (.cons (Sb.refl _) (.cons (Sb.elems (nt_lee _)) .nil))) .nil) hvt)
    have hln:lend (M++[E,E]) [.agg [.str v40,v]] (.ret (.bool true)) = some [.agg [.str v40,u]]:=by
     have h1:fz (M++[E,E]) 20 (.agg [.str v40,v]) = some (.agg [.str v40,u]):=fz_agg_any (k:=18) (by simp only [List.mapM_cons,List.mapM_nil,hu]; rfl)
     exact lend_fz (by simp only [List.mapM_cons,List.mapM_nil,h1]; rfl) rfl
    rw [hE] at hln
    repeat' (first | (simp (disch:=first | omega | (simp only [List.length_append,List.length_cons,List.length_nil,List.length_map,List.length_set]; omega)) only [VC_seq,VC_cond,VC_exit,VC_ret,VC_region,VI_false,VO_nil,VO_plain,VO_guard,VG_true,VV_some,VS,blockQ,ofV_bool,ofV_int,deN_str,gdA,callOf,isPanic,nextOf,altA,evalOp,ev_tmp,ev_const,ev_func,Av.get,St.put,thenQ,Nat.reduceEqDiff,↓reduceIte,Bool.and_self,List.map_cons,List.map_nil,List.nil_append,List.append_nil,List.getElem?_cons_zero,List.getElem?_cons_succ,List.getElem?_toArray,Option.map_some,Option.bind_some,beq_true,pickA,cond_true,ldG,stC,ic_str,ic_vsl,cl_agg,setC,List.set_cons_zero,List.set_cons_succ,List.length_cons,List.length_nil,Nat.reduceAdd,List.all_cons,List.all_nil,and_self,Nat.zero_add,List.drop_zero,List.take_succ_cons,List.take_zero,Nat.le_refl,List.cons_append,b_lss,b_gtr,b_eql,ieq_t,decide_eq_false,ls9,st24,ld24,zz24,hM1,hge,hvC,hv1,List.append_assoc,List.getElem?_append_left,List.getElem?_append_right,List.set_append_right,List.length_append,Nat.add_sub_cancel_left,Nat.sub_self]) | (guard_target =~ VCall _ _ _ _ _ _ _; refine VCall.lend _ hvt' hln ?_) | (guard_target =~ VCall _ _ _ _ _ _ _; refine VCall.pure (by first | with_reducible exact hp | with_reducible exact hp2 | with_reducible exact hrs | with_reducible exact hk) (by (first | rfl | (simp only [AV.hfs,AV.hf,Bool.and_self,Bool.and_true,Bool.true_and,strs_hfs,encLn_hfs]))) ?_) | (guard_target =~ DCal _ _ _ _ _ _ _; refine DCal.pure (by first | with_reducible exact hp | with_reducible exact hp2 | with_reducible exact hrs | with_reducible exact hk) (by (first | rfl | (simp only [AV.hfs,AV.hf,Bool.and_self,Bool.and_true,Bool.true_and,strs_hfs,encLn_hfs]))) ?_))
    exact ⟨_,rfl,_,rfl,.refl _⟩
end Go.Proofs.YtjlhemfmeboadaaGreatDoor
namespace Go.Proofs.YtjlhemfmeboadaaGreatDoor
set_option linter.unusedVariables false
set_option linter.unusedSimpArgs false
open Go Go.Av Go.ChangeShapes Go.WideShapes Go.ChangeAt Go.RowKit

section
variable {H:Type} {enc:TypeId × Value→H} {w:World} {base:Nat} {sp:Nat→Bool} {held:Bool}
set_option maxRecDepth 100000 in
theorem open_num {v : Value} {d : DataW H} {ps : List MemPlace} {r : Reach} {b0 : Nat} (hval : Value.okWide Tryz.prog w r b0 3 v) (hd : DataW.Trod enc Tryz.prog w base sp held 3 v d ps) :
    ∃ x : Int, VR (allF w) w noμ (.int .i64 x) v := by
  obtain ⟨x, rfl, _⟩ := open_int Tryz.underlying3 hval hd
  exact ⟨x, .int _ _⟩
end

theorem calls_of_pure {P : Program} {f : FuncId} {fn : Func} {c : Code} {args : List AV} {Vs : List Value} {r : AV} {V : Value} (hN : Go.Av.Enters P) (hf : P.funcs[f]? = some fn) (hb : fn.body = some c) (w : World) (hp : PureFn P f args (.ret r))
    (hv : VRs (allF w) w noμ args Vs) (hr : ∀ F' w' R, VR F' w' noμ r R → R = V) : Calls P f Vs.toArray w fun e w' => e = .returned V ∧ Below w.heap.size w w' := by
  rcases hp (allF w) w Vs (fun b o h => h) hv with ⟨w1, h1, rfl, h2⟩ | ⟨V', w1, h1, h2⟩
  · refine h2.mono ?_
    rintro e w' ⟨hbl, F', _, _, _, ho⟩
    cases ho with
    | ret _ R h => exact ⟨by rw [hr _ _ _ h], hbl⟩
  · rw [enters_call hN hf hb] at h1; cases h1

theorem post_same {H : Type} {enc : TypeId × Value → H} {P : Program} {f : Func} {s : ChangeSpec} {apart fresh handsOn again : Bool} {W W' : World} {args : Array Value} {v : Value} {ds gs : List (DataW H)} {before pa pv : List MemPlace}
    (hW : DataW.Whole enc P f.params.toList s.vars apart W args.toList ds gs before)
    (hres : ∀ (b : Nat) (sp : Nat → Bool) (hd : Bool), DataW.TrodAll enc P W' b sp hd f.resultTypes.toList (v.resultList f.resultTypes.size) (s.fn H (ds ++ gs)).results [])
    (hargs : ∀ sp : Nat → Bool, (∀ p ∈ before, sp p.block = true) → DataW.TrodAll enc P W' 0 sp true f.params.toList args.toList (s.fn H (ds ++ gs)).args pa)
    (hvars : ∀ sp : Nat → Bool, (∀ p ∈ before, sp p.block = true) → DataW.TrodVars enc P W' sp s.vars (s.fn H (ds ++ gs)).vars pv)
    (hps : before = pa ++ pv) (hbl : Below W.heap.size W W')
    (hok : ∀ (j : Nat) (t : TypeId) (r : Value), f.resultTypes[j]? = some t → (v.resultList f.resultTypes.size)[j]? = some r → Value.okWide P W' .any 0 t r) :
    s.post enc P f apart fresh handsOn again W args v W' := by
  have hlt : ∀ p ∈ before, p.block < W.heap.size := fun p hp => hW.lt p hp
  refine ⟨ds, gs, before, [], pa, pv, hW, hres _ _ _, hargs (fun b => decide (b < W.heap.size)) (fun p hp => by simpa using hlt p hp), hvars (fun b => decide (b < W.heap.size)) (fun p hp => by simpa using hlt p hp), ?_, fun _ => ?_⟩
  · refine World.keptBut_mono (fun p hp => ⟨hp, ?_⟩) (hbl.frame (· ∈ before))
    rw [hps, List.mem_append] at hp
    exact Or.inr hp
  · obtain ⟨_, _, _, _, _, hz, hn⟩ := hW
    refine ⟨hok, _, _, ([] ++ pa) ++ pv, ⟨[] ++ pa, pv, trodAll_append (hargs _ (fun _ _ => rfl)) (hres _ _ _), hvars _ (fun _ _ => rfl), rfl, ?_, ?_⟩, ?_⟩
    · intro b off hp
      have hb : MemPlace.cell b off ∈ before := by rw [hps]; simpa using hp
      rw [hbl.frozen (hlt _ hb)]
      exact hz b off hb
    · intro ha
      have := hn ha
      rw [hps] at this
      simpa using this
    · intro p hp _
      rw [hps]
      simpa using hp
theorem laidAll:laidOutB Tryz.prog = true:=by kernel_rfl
theorem stays {H : Type} {enc : TypeId × Value → H} {t : TypeId} (hr : Tryz.prog.readableRec t = true) (hrow : t < Tryz.prog.types.size) {W W' : World} {v : Value} {d : DataW H} {ps : List MemPlace}
    (h : DataW.Trod enc Tryz.prog W 0 (fun _ => true) true t v d ps) (hb : Below W.heap.size W W') (hlt : ∀ x ∈ ps, x.block < W.heap.size) (sp' : Nat → Bool) (hsp : ∀ x ∈ ps, sp' x.block = true) : DataW.Trod enc Tryz.prog W' 0 sp' true t v d ps :=
  WideElems.Trod_stays laidAll hr hrow h (fun x hx => hb.same (hlt x hx)) hsp

end Go.Proofs.YtjlhemfmeboadaaGreatDoor
