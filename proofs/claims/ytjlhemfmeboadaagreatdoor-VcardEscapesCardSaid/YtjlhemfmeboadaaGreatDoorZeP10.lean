/- Contracts of functions that the statements of this seat reach: under the conditions named at each theorem. -/
import Derived.Test.YtjlhemfmeboadaaGreatDoorZeP4
import Derived.Test.YtjlhemfmeboadaaGreatDoorZeP9
import Derived.Test.YtjlhemfmeboadaaGreatDoorZeP8
import Derived.Lib.TrimUEq
import Derived.Shelf.Strings.Builder1
import Derived.Shelf.Strings.Builder2
import Derived.Shelf.Strings.OnBuilder
import Derived.Shelf.Small.Utf8
import Derived.Shelf.Small.Strs
import Derived.Shelf.Strings.Search1
import Derived.Shelf.Strings.Search2
import Derived.Shelf.Strings.Search3
import Derived.Shelf.Strings.Cut
import Derived.Shelf.Strings.Count
import Derived.Shelf.LaysM
import Derived.Shelf.Strings.Shaped
import Derived.Shelf.Strings.Split
import Derived.Shelf.Unicode.Latin
import Derived.Shelf.Strings.Runes
import Derived.Shelf.Strings.IndexAny
import Derived.Shelf.Strings.AsciiSet
import Derived.Shelf.Strings.IndexAnyAll
import Derived.Shelf.Unicode.DecodeSlow
import Derived.Shelf.Unicode.CaseLookup
import Derived.Shelf.Unicode.CaseConvert
import Derived.Shelf.Unicode.CaseTo
import Derived.Shelf.Unicode.CaseLaid
import Derived.Test.YtjlhemfmeboadaaGreatDoorProg
namespace Go.Proofs.YtjlhemfmeboadaaGreatDoor
set_option linter.unusedVariables false
set_option linter.unusedSimpArgs false
open Go Go.Av
theorem xi9 {s:Bytes} {b:UInt8} {k:IntKind} {n:Nat} (h:s[n]? = some b):evIndex Tryz.prog 9 (.str s) (.int k (n:Int)) = some (.int .u8 b.toNat):=xs_of Tryz.underlying9 k n ⟨Int.natCast_nonneg n,by simpa using h⟩
theorem iv22 {wd:Nat} {x:Bool} {es:List AV} {k:IntKind} {n:Nat} {v:AV} (h:es[n]? = some v) (hv:v.cells.length = 4) (H:List OB):evIndexAddr Tryz.prog 22 (.vsl wd x es) (.int k (n:Int)) H = some (.vptr v.cells):=ixv_of Tryz.underlying22 tz45 wd x es k n H ⟨Int.natCast_nonneg n,by simpa using h⟩ hv
theorem zz24:zeroA Tryz.prog 24 = some (.agg [.str [],.nilsl]):=by kernel_rfl
theorem zz27:zeroA Tryz.prog 27 = some (.int .i64 0):=by kernel_rfl
theorem iv38 {wd:Nat} {x:Bool} {es:List AV} {k:IntKind} {n:Nat} {v:AV} (h:es[n]? = some v) (hv:v.cells.length = 1) (H:List OB):evIndexAddr Tryz.prog 38 (.vsl wd x es) (.int k (n:Int)) H = some (.vptr v.cells):=ixv_of Tryz.underlying38 tz9 wd x es k n H ⟨Int.natCast_nonneg n,by simpa using h⟩ hv
theorem iv43 {wd:Nat} {x:Bool} {es:List AV} {k:IntKind} {n:Nat} {v:AV} (h:es[n]? = some v) (hv:v.cells.length = 2) (H:List OB):evIndexAddr Tryz.prog 43 (.vsl wd x es) (.int k (n:Int)) H = some (.vptr v.cells):=ixv_of Tryz.underlying43 tz54 wd x es k n H ⟨Int.natCast_nonneg n,by simpa using h⟩ hv
theorem zz45:zeroA Tryz.prog 45 = some (.agg [.str [],.str [],.nilsl,.str []]):=by kernel_rfl
theorem zz54:zeroA Tryz.prog 54 = some (.agg [.str [],.str []]):=by kernel_rfl
end Go.Proofs.YtjlhemfmeboadaaGreatDoor
namespace Go.Proofs.YtjlhemfmeboadaaGreatDoor
set_option linter.unusedVariables false
set_option linter.unusedSimpArgs false
open Go Go.Av Go.RowKit

section
variable {P:Program} {n m:Nat} {R:Option Nat} {Q:Ex→St→Prop} {a:St}
def RW (P:Program) (n m:Nat) (R:Option Nat) (ops:Array Oper) (Q:Ex→St→Prop) (l:List Oper) (a:St):Prop:=
 ∀ k,(∀ i o,l[i]? = some o→ops[k + i]? = some o)→∀ (B:Bs m) (act:Act) (w:World),Rel n B a act w→wpOpsIn (fnc R) 1 P ops (RelE n B Q) (List.range' k l.length) act w
theorem RW.start {id:Nat} {ops ops0:Array Oper} (he:ops0 = ops) (h:RW P n m R ops0 Q ops.toList a):W P n m R (.region id ops false) Q a:=by
 subst he
 intro B act w r
 refine wpIn_region ?_
 have:=h 0 (fun i o hi=>by rw [Nat.zero_add,← Array.getElem?_toList]; exact hi) B act w r
 rw [Array.length_toList,← List.range_eq_range'] at this
 exact this
theorem RW.fewer {ops:Array Oper} {l:List Oper} (C:List (Nat × AV)) (hT:holdsT a.T C) (h:RW P n m R ops Q l ⟨C,a.H,a.D⟩):RW P n m R ops Q l a:=
 fun k hk B act w r=>h k hk B act w (r.fewer (b:=⟨C,a.H,a.D⟩) hT rfl rfl)
theorem RW.done {ops:Array Oper} (h:Q .normal a):RW P n m R ops Q [] a:=
 fun k hk B act w ⟨F,μ,s,y,t⟩=>⟨_,a,F,μ,h,.normal,s,y,t⟩
end

structure Ln where
 g:Bytes
 n:Bytes
 x:Bool
 ps:List (Bytes × Bytes)
 v:Bytes
def encLn (l:Ln):AV:=.agg [.str l.g,.str l.n,.vsl 3 l.x (l.ps.map encR),.str l.v]
def sBegin:Bytes:=[98,101,103,105,110]
def sEnd:Bytes:=[101,110,100]
def sVersion:Bytes:=[118,101,114,115,105,111,110]
def lineB (l:Ln):Bool:=
 (l.g == [] || nameB l.g) && (nameB (small l.n) && (!(small l.n == sBegin) && (!(small l.n == sEnd) && (!(small l.n == sVersion) && (decide ((l.ps.length:Int)≤8) && (l.ps.all paramB && (decide ((l.v.length:Int)≤4000) && l.v.all byL)))))))
def pP:AV→Bool
 | .agg [.str t,.str v]=>paramB (t,v)
 | _=>false
theorem eachP (x:Bool) (ps:List (Bytes × Bytes)):PureFn Tryz.prog 60 [.vsl 3 x (ps.map encR),.func (.func 61) [] []] (.ret (.bool (ps.all paramB))):=by
 have:=each_P x (ps.map encR) 61 [] [] pP (encR_shp ps) ⟨encR_hfs ps,rfl,rfl⟩ (by
  intro v hv; obtain ⟨r,_,rfl⟩:=List.mem_map.1 hv; exact paramV r)
 rw [List.all_map] at this
 exact this
set_option maxRecDepth 8000 in
set_option maxHeartbeats 1000000 in
theorem lineV (l:Ln):PureFn Tryz.prog 36 [encLn l] (.ret (.bool (lineB l))):=by
 obtain ⟨g,n,x,ps,v⟩:=l
 have ps0:=smallD n
 have p1:=nameV g
 have p2:=nameV (small n)
 have p7:=eachP x ps
 have p9:=eachL_ v
 have hcv:∀ b:OB,evConv Tryz.prog 9 42 (.str v) [b] = some (.sl 1 0 v.length 0,[b,.cells (bytesA v) true]):=by
  intro b; simp [evConv,Tryz.underlying9,Tryz.underlying42,Tryz.underlying5]
 have hld:∀ (b:OB) (o:Bool),lend [b,.cells (bytesA v) true] [.sl 1 0 v.length 0,.func (.func 63) [] []] (.ret (.bool o)) = some [.vsl 0 false (bytesA v),.func (.func 63) [] []]:=fun b o=>lend_bytes rfl
 have e0:lineB ⟨g,n,x,ps,v⟩ = ((g == [] || nameB g) && (nameB (small n) && (!(small n == sBegin) && (!(small n == sEnd) && (!(small n == sVersion) && (decide ((ps.length:Int)≤8) && (ps.all paramB && (decide ((v.length:Int)≤4000) && v.all byL)))))))):=rfl
 simp only [sBegin,sEnd,sVersion] at e0
 rw [e0]
 generalize nameB g = b1 at *
 generalize nameB (small n) = b2 at *
 generalize ps.all paramB = b7 at *
 generalize v.all byL = b9 at *
 generalize h0:(g == []) = c0
 generalize h3:(small n == [98,101,103,105,110]) = b3
 generalize h4:(small n == [101,110,100]) = b4
 generalize h5:(small n == [118,101,114,115,105,111,110]) = b5
 simp only [encLn]
 refine PureFn.of Tryz.func36 rfl (enters_call enters Tryz.func36 rfl) (by simp [Tryz.ntmps36]) ?_
 show W Tryz.prog 54 0 none _ _ _
 refine W.vc (by decide) ?_
 cases c0 with
 | true=>
  cases b2 with
  | false=>
   repeat' (first | (simp (disch:=first | omega | (simp only [List.length_append,List.length_cons,List.length_nil,List.length_map,List.length_set]; omega)) only [VC_seq,VC_ret,VC_region,VO_nil,VO_plain,VO_guard,VG_true,VG_false,VV_some,VS,AV.told,ofV_bool,ofV_lit,gdA,callOf,isPanic,nextOf,altA,evalOp,ev_tmp,ev_const,ev_func,Av.get,St.put,argT,thenQ,Nat.reduceEqDiff,↓reduceIte,List.map_cons,List.map_nil,List.nil_append,List.append_nil,List.getElem?_cons_zero,List.getElem?_cons_succ,List.getElem?_toArray,Option.map_some,Option.bind_some,beq_false,beq_true,Bool.not_true,Bool.false_eq_true,pickA,cond_true,ldC,cl_agg,List.length_nil,Nat.add_zero,Nat.zero_add,s_eql,Bool.and_false,Bool.false_and,Bool.true_or,ld9,fa45_0,fa45_1,h0,bne]) | (guard_target =~ VCall _ _ _ _ _ _ _; refine VCall.pure (by first | with_reducible exact ps0 | with_reducible exact p2) (by (first | rfl | (simp only [AV.hfs,AV.hf,Bool.and_self,Bool.and_true,Bool.true_and,strs_hfs,encR_hfs]))) ?_) | (guard_target =~ DCal _ _ _ _ _ _ _; refine DCal.pure (by first | with_reducible exact ps0 | with_reducible exact p2) (by (first | rfl | (simp only [AV.hfs,AV.hf,Bool.and_self,Bool.and_true,Bool.true_and,strs_hfs,encR_hfs]))) ?_))
   exact ⟨_,rfl,_,rfl,.refl _⟩
  | true=>
   cases b3 with
   | true=>
    repeat' (first | (simp (disch:=first | omega | (simp only [List.length_append,List.length_cons,List.length_nil,List.length_map,List.length_set]; omega)) only [VC_seq,VC_ret,VC_region,VO_nil,VO_plain,VO_guard,VG_true,VG_false,VV_some,VS,AV.told,ofV_bool,ofV_lit,gdA,callOf,isPanic,nextOf,altA,evalOp,ev_tmp,ev_const,ev_func,Av.get,St.put,argT,thenQ,Nat.reduceEqDiff,↓reduceIte,List.map_cons,List.map_nil,List.nil_append,List.append_nil,List.getElem?_cons_zero,List.getElem?_cons_succ,List.getElem?_toArray,Option.map_some,Option.bind_some,beq_false,beq_true,Bool.not_true,Bool.false_eq_true,pickA,cond_true,ldC,cl_agg,List.length_nil,Nat.add_zero,Nat.zero_add,s_eql,s_neq,Bool.and_false,Bool.false_and,Bool.true_or,ld9,fa45_0,fa45_1,h0,bne,h3]) | (guard_target =~ VCall _ _ _ _ _ _ _; refine VCall.pure (by first | with_reducible exact ps0 | with_reducible exact p2) (by (first | rfl | (simp only [AV.hfs,AV.hf,Bool.and_self,Bool.and_true,Bool.true_and,strs_hfs,encR_hfs]))) ?_) | (guard_target =~ DCal _ _ _ _ _ _ _; refine DCal.pure (by first | with_reducible exact ps0 | with_reducible exact p2) (by (first | rfl | (simp only [AV.hfs,AV.hf,Bool.and_self,Bool.and_true,Bool.true_and,strs_hfs,encR_hfs]))) ?_))
    exact ⟨_,rfl,_,rfl,.refl _⟩
   | false=>
    cases b4 with
    | true=>
     repeat' (first | (simp (disch:=first | omega | (simp only [List.length_append,List.length_cons,List.length_nil,List.length_map,List.length_set]; omega)) only [VC_seq,VC_ret,VC_region,VO_nil,VO_plain,VO_guard,VG_true,VG_false,VV_some,VS,AV.told,ofV_bool,ofV_lit,gdA,callOf,isPanic,nextOf,altA,evalOp,ev_tmp,ev_const,ev_func,Av.get,St.put,argT,thenQ,Nat.reduceEqDiff,↓reduceIte,List.map_cons,List.map_nil,List.nil_append,List.append_nil,List.getElem?_cons_zero,List.getElem?_cons_succ,List.getElem?_toArray,Option.map_some,Option.bind_some,beq_false,beq_true,Bool.not_true,Bool.not_false,Bool.false_eq_true,pickA,cond_true,ldC,cl_agg,List.length_nil,Nat.add_zero,Nat.zero_add,s_eql,s_neq,Bool.and_false,Bool.false_and,Bool.true_or,ld9,fa45_0,fa45_1,h0,bne,h3,h4]) | (guard_target =~ VCall _ _ _ _ _ _ _; refine VCall.pure (by first | with_reducible exact ps0 | with_reducible exact p2) (by (first | rfl | (simp only [AV.hfs,AV.hf,Bool.and_self,Bool.and_true,Bool.true_and,strs_hfs,encR_hfs]))) ?_) | (guard_target =~ DCal _ _ _ _ _ _ _; refine DCal.pure (by first | with_reducible exact ps0 | with_reducible exact p2) (by (first | rfl | (simp only [AV.hfs,AV.hf,Bool.and_self,Bool.and_true,Bool.true_and,strs_hfs,encR_hfs]))) ?_))
     exact ⟨_,rfl,_,rfl,.refl _⟩
    | false=>
     cases b5 with
     | true=>
      repeat' (first | (simp (disch:=first | omega | (simp only [List.length_append,List.length_cons,List.length_nil,List.length_map,List.length_set]; omega)) only [VC_seq,VC_ret,VC_region,VO_nil,VO_plain,VO_guard,VG_true,VG_false,VV_some,VS,AV.told,ofV_bool,ofV_lit,gdA,callOf,isPanic,nextOf,altA,evalOp,ev_tmp,ev_const,ev_func,Av.get,St.put,argT,thenQ,Nat.reduceEqDiff,↓reduceIte,List.map_cons,List.map_nil,List.nil_append,List.append_nil,List.getElem?_cons_zero,List.getElem?_cons_succ,List.getElem?_toArray,Option.map_some,Option.bind_some,beq_false,beq_true,Bool.not_true,Bool.not_false,Bool.false_eq_true,pickA,cond_true,ldC,cl_agg,List.length_nil,Nat.add_zero,Nat.zero_add,s_eql,s_neq,Bool.and_false,Bool.false_and,Bool.true_or,ld9,fa45_0,fa45_1,h0,bne,h3,h4,h5]) | (guard_target =~ VCall _ _ _ _ _ _ _; refine VCall.pure (by first | with_reducible exact ps0 | with_reducible exact p2) (by (first | rfl | (simp only [AV.hfs,AV.hf,Bool.and_self,Bool.and_true,Bool.true_and,strs_hfs,encR_hfs]))) ?_) | (guard_target =~ DCal _ _ _ _ _ _ _; refine DCal.pure (by first | with_reducible exact ps0 | with_reducible exact p2) (by (first | rfl | (simp only [AV.hfs,AV.hf,Bool.and_self,Bool.and_true,Bool.true_and,strs_hfs,encR_hfs]))) ?_))
      exact ⟨_,rfl,_,rfl,.refl _⟩
     | false=>
      by_cases h6:ps.length≤8
      case neg=>
       rw [decide_eq_false (show ¬ ((ps.length:Int)≤8) by omega)]
       repeat' (first | (simp (disch:=first | omega | (simp only [List.length_append,List.length_cons,List.length_nil,List.length_map,List.length_set]; omega)) only [VC_seq,VC_ret,VC_region,VO_nil,VO_plain,VO_guard,VG_true,VG_false,VV_some,VS,List.length_map,AV.told,ofV_bool,ofV_int,ofV_lit,deN_vsl,gdA,callOf,isPanic,nextOf,altA,evalOp,ev_tmp,ev_const,ev_func,Av.get,St.put,argT,thenQ,Nat.reduceEqDiff,↓reduceIte,List.map_cons,List.map_nil,List.nil_append,List.append_nil,List.getElem?_cons_zero,List.getElem?_cons_succ,List.getElem?_toArray,Option.map_some,Option.bind_some,beq_false,beq_true,Bool.not_true,Bool.not_false,Bool.false_eq_true,pickA,cond_true,ldC,cl_agg,List.length_nil,Nat.add_zero,Nat.zero_add,b_leq,s_eql,s_neq,decide_eq_false,Bool.and_false,Bool.false_and,Bool.true_or,ld9,ld43,lv43,fa45_0,fa45_1,fa45_2,h0,bne,h3,h4,h5]) | (guard_target =~ VCall _ _ _ _ _ _ _; refine VCall.pure (by first | with_reducible exact ps0 | with_reducible exact p2) (by (first | rfl | (simp only [AV.hfs,AV.hf,Bool.and_self,Bool.and_true,Bool.true_and,strs_hfs,encR_hfs]))) ?_) | (guard_target =~ DCal _ _ _ _ _ _ _; refine DCal.pure (by first | with_reducible exact ps0 | with_reducible exact p2) (by (first | rfl | (simp only [AV.hfs,AV.hf,Bool.and_self,Bool.and_true,Bool.true_and,strs_hfs,encR_hfs]))) ?_))
       exact ⟨_,rfl,_,rfl,.refl _⟩
      rw [decide_eq_true (show ((ps.length:Int)≤8) by omega)]
      cases b7 with
      | false=>
       repeat' (first | (simp (disch:=first | omega | (simp only [List.length_append,List.length_cons,List.length_nil,List.length_map,List.length_set]; omega)) only [VC_seq,VC_ret,VC_region,VO_nil,VO_plain,VO_guard,VG_true,VG_false,VV_some,VS,List.length_map,AV.told,ofV_bool,ofV_int,ofV_lit,deN_vsl,gdA,callOf,isPanic,nextOf,altA,evalOp,ev_tmp,ev_const,ev_func,Av.get,St.put,argT,thenQ,Nat.reduceEqDiff,↓reduceIte,List.map_cons,List.map_nil,List.nil_append,List.append_nil,List.getElem?_cons_zero,List.getElem?_cons_succ,List.getElem?_toArray,Option.map_some,Option.bind_some,beq_false,beq_true,Bool.not_true,Bool.not_false,Bool.false_eq_true,pickA,cond_true,ldC,cl_agg,List.length_nil,Nat.add_zero,Nat.zero_add,b_leq,s_eql,s_neq,decide_eq_true,Bool.and_false,Bool.false_and,Bool.true_or,ld9,ld43,lv43,fa45_0,fa45_1,fa45_2,h0,bne,h3,h4,h5]) | (guard_target =~ VCall _ _ _ _ _ _ _; refine VCall.pure (by first | with_reducible exact ps0 | with_reducible exact p2 | with_reducible exact p7) (by (first | rfl | (simp only [AV.hfs,AV.hf,Bool.and_self,Bool.and_true,Bool.true_and,strs_hfs,encR_hfs]))) ?_) | (guard_target =~ DCal _ _ _ _ _ _ _; refine DCal.pure (by first | with_reducible exact ps0 | with_reducible exact p2 | with_reducible exact p7) (by (first | rfl | (simp only [AV.hfs,AV.hf,Bool.and_self,Bool.and_true,Bool.true_and,strs_hfs,encR_hfs]))) ?_))
       exact ⟨_,rfl,_,rfl,.refl _⟩
      | true=>
       by_cases h8:v.length≤4000
       case neg=>
        rw [decide_eq_false (show ¬ ((v.length:Int)≤4000) by omega)]
        repeat' (first | (simp (disch:=first | omega | (simp only [List.length_append,List.length_cons,List.length_nil,List.length_map,List.length_set]; omega)) only [VC_seq,VC_ret,VC_region,VO_nil,VO_plain,VO_guard,VG_true,VG_false,VV_some,VS,List.length_map,AV.told,ofV_bool,ofV_int,ofV_lit,deN_vsl,deN_str,gdA,callOf,isPanic,nextOf,altA,evalOp,ev_tmp,ev_const,ev_func,Av.get,St.put,argT,thenQ,Nat.reduceEqDiff,↓reduceIte,List.map_cons,List.map_nil,List.nil_append,List.append_nil,List.getElem?_cons_zero,List.getElem?_cons_succ,List.getElem?_toArray,Option.map_some,Option.bind_some,beq_false,beq_true,Bool.not_true,Bool.not_false,Bool.false_eq_true,pickA,cond_true,ldC,cl_agg,List.length_nil,Nat.add_zero,Nat.zero_add,b_leq,s_eql,s_neq,decide_eq_true,decide_eq_false,Bool.and_false,Bool.false_and,Bool.true_or,ld9,ls9,ld43,lv43,fa45_0,fa45_1,fa45_2,fa45_3,h0,bne,h3,h4,h5]) | (guard_target =~ VCall _ _ _ _ _ _ _; refine VCall.pure (by first | with_reducible exact ps0 | with_reducible exact p2 | with_reducible exact p7) (by (first | rfl | (simp only [AV.hfs,AV.hf,Bool.and_self,Bool.and_true,Bool.true_and,strs_hfs,encR_hfs]))) ?_) | (guard_target =~ DCal _ _ _ _ _ _ _; refine DCal.pure (by first | with_reducible exact ps0 | with_reducible exact p2 | with_reducible exact p7) (by (first | rfl | (simp only [AV.hfs,AV.hf,Bool.and_self,Bool.and_true,Bool.true_and,strs_hfs,encR_hfs]))) ?_))
        exact ⟨_,rfl,_,rfl,.refl _⟩
       rw [decide_eq_true (show ((v.length:Int)≤4000) by omega)]
       repeat' (first | (simp (disch:=first | omega | (simp only [List.length_append,List.length_cons,List.length_nil,List.length_map,List.length_set]; omega)) only [VC_seq,VC_ret,VC_region,VO_nil,VO_plain,VO_guard,VG_true,VG_false,VV_some,VS,List.length_map,AV.told,ofV_bool,ofV_int,ofV_lit,deN_vsl,deN_str,gdA,callOf,isPanic,nextOf,altA,evalOp,ev_tmp,ev_const,ev_func,Av.get,St.put,argT,thenQ,Nat.reduceEqDiff,↓reduceIte,List.map_cons,List.map_nil,List.nil_append,List.append_nil,List.getElem?_cons_zero,List.getElem?_cons_succ,List.getElem?_toArray,Option.map_some,Option.bind_some,beq_false,beq_true,Bool.not_true,Bool.not_false,pickA,cond_true,ldC,cl_agg,List.length_nil,Bool.true_and,true_and,Nat.add_zero,Nat.zero_add,b_leq,s_eql,s_neq,decide_eq_true,Bool.true_or,ld9,ls9,ld43,lv43,fa45_0,fa45_1,fa45_2,fa45_3,h0,bne,h3,h4,h5,hcv]) | (guard_target =~ VCall _ _ _ _ _ _ _; refine VCall.lend _ p9 (hld _ _) ?_) | (guard_target =~ VCall _ _ _ _ _ _ _; refine VCall.pure (by first | with_reducible exact ps0 | with_reducible exact p2 | with_reducible exact p7) (by (first | rfl | (simp only [AV.hfs,AV.hf,Bool.and_self,Bool.and_true,Bool.true_and,strs_hfs,encR_hfs]))) ?_) | (guard_target =~ DCal _ _ _ _ _ _ _; refine DCal.pure (by first | with_reducible exact ps0 | with_reducible exact p2 | with_reducible exact p7) (by (first | rfl | (simp only [AV.hfs,AV.hf,Bool.and_self,Bool.and_true,Bool.true_and,strs_hfs,encR_hfs]))) ?_))
       exact ⟨_,rfl,_,rfl,.refl _⟩
 | false=>
  cases b1 with
  | false=>
   repeat' (first | (simp (disch:=first | omega | (simp only [List.length_append,List.length_cons,List.length_nil,List.length_map,List.length_set]; omega)) only [VC_seq,VC_ret,VC_region,VO_nil,VO_plain,VO_guard,VG_true,VG_false,VV_some,VS,AV.told,ofV_bool,ofV_lit,gdA,callOf,isPanic,nextOf,altA,evalOp,ev_tmp,ev_const,ev_func,Av.get,St.put,argT,thenQ,Nat.reduceEqDiff,↓reduceIte,List.map_cons,List.map_nil,List.nil_append,List.append_nil,List.getElem?_cons_zero,List.getElem?_cons_succ,List.getElem?_toArray,Option.map_some,Option.bind_some,beq_false,beq_true,Bool.not_false,Bool.false_eq_true,pickA,cond_false,ldC,cl_agg,List.length_nil,Nat.add_zero,Nat.zero_add,s_eql,Bool.or_false,Bool.false_and,ld9,fa45_0,fa45_1,h0,bne]) | (guard_target =~ VCall _ _ _ _ _ _ _; refine VCall.pure (by first | with_reducible exact ps0 | with_reducible exact p1) (by (first | rfl | (simp only [AV.hfs,AV.hf,Bool.and_self,Bool.and_true,Bool.true_and,strs_hfs]))) ?_) | (guard_target =~ DCal _ _ _ _ _ _ _; refine DCal.pure (by first | with_reducible exact ps0 | with_reducible exact p1) (by (first | rfl | (simp only [AV.hfs,AV.hf,Bool.and_self,Bool.and_true,Bool.true_and,strs_hfs]))) ?_))
   exact ⟨_,rfl,_,rfl,.refl _⟩
  | true=>
   cases b2 with
   | false=>
    repeat' (first | (simp (disch:=first | omega | (simp only [List.length_append,List.length_cons,List.length_nil,List.length_map,List.length_set]; omega)) only [VC_seq,VC_ret,VC_region,VO_nil,VO_plain,VO_guard,VG_true,VG_false,VV_some,VS,AV.told,ofV_bool,ofV_lit,gdA,callOf,isPanic,nextOf,altA,evalOp,ev_tmp,ev_const,ev_func,Av.get,St.put,argT,thenQ,Nat.reduceEqDiff,↓reduceIte,List.map_cons,List.map_nil,List.nil_append,List.append_nil,List.getElem?_cons_zero,List.getElem?_cons_succ,List.getElem?_toArray,Option.map_some,Option.bind_some,beq_false,beq_true,Bool.not_false,Bool.false_eq_true,pickA,cond_true,cond_false,ldC,cl_agg,List.length_nil,Nat.add_zero,Nat.zero_add,s_eql,Bool.and_false,Bool.false_and,Bool.or_true,ld9,fa45_0,fa45_1,h0,bne]) | (guard_target =~ VCall _ _ _ _ _ _ _; refine VCall.pure (by first | with_reducible exact ps0 | with_reducible exact p1 | with_reducible exact p2) (by (first | rfl | (simp only [AV.hfs,AV.hf,Bool.and_self,Bool.and_true,Bool.true_and,strs_hfs,encR_hfs]))) ?_) | (guard_target =~ DCal _ _ _ _ _ _ _; refine DCal.pure (by first | with_reducible exact ps0 | with_reducible exact p1 | with_reducible exact p2) (by (first | rfl | (simp only [AV.hfs,AV.hf,Bool.and_self,Bool.and_true,Bool.true_and,strs_hfs,encR_hfs]))) ?_))
    exact ⟨_,rfl,_,rfl,.refl _⟩
   | true=>
    cases b3 with
    | true=>
     repeat' (first | (simp (disch:=first | omega | (simp only [List.length_append,List.length_cons,List.length_nil,List.length_map,List.length_set]; omega)) only [VC_seq,VC_ret,VC_region,VO_nil,VO_plain,VO_guard,VG_true,VG_false,VV_some,VS,AV.told,ofV_bool,ofV_lit,gdA,callOf,isPanic,nextOf,altA,evalOp,ev_tmp,ev_const,ev_func,Av.get,St.put,argT,thenQ,Nat.reduceEqDiff,↓reduceIte,List.map_cons,List.map_nil,List.nil_append,List.append_nil,List.getElem?_cons_zero,List.getElem?_cons_succ,List.getElem?_toArray,Option.map_some,Option.bind_some,beq_false,beq_true,Bool.not_true,Bool.not_false,Bool.false_eq_true,pickA,cond_true,cond_false,ldC,cl_agg,List.length_nil,Nat.add_zero,Nat.zero_add,s_eql,s_neq,Bool.and_false,Bool.false_and,Bool.or_true,ld9,fa45_0,fa45_1,h0,bne,h3]) | (guard_target =~ VCall _ _ _ _ _ _ _; refine VCall.pure (by first | with_reducible exact ps0 | with_reducible exact p1 | with_reducible exact p2) (by (first | rfl | (simp only [AV.hfs,AV.hf,Bool.and_self,Bool.and_true,Bool.true_and,strs_hfs,encR_hfs]))) ?_) | (guard_target =~ DCal _ _ _ _ _ _ _; refine DCal.pure (by first | with_reducible exact ps0 | with_reducible exact p1 | with_reducible exact p2) (by (first | rfl | (simp only [AV.hfs,AV.hf,Bool.and_self,Bool.and_true,Bool.true_and,strs_hfs,encR_hfs]))) ?_))
     exact ⟨_,rfl,_,rfl,.refl _⟩
    | false=>
     cases b4 with
     | true=>
      repeat' (first | (simp (disch:=first | omega | (simp only [List.length_append,List.length_cons,List.length_nil,List.length_map,List.length_set]; omega)) only [VC_seq,VC_ret,VC_region,VO_nil,VO_plain,VO_guard,VG_true,VG_false,VV_some,VS,AV.told,ofV_bool,ofV_lit,gdA,callOf,isPanic,nextOf,altA,evalOp,ev_tmp,ev_const,ev_func,Av.get,St.put,argT,thenQ,Nat.reduceEqDiff,↓reduceIte,List.map_cons,List.map_nil,List.nil_append,List.append_nil,List.getElem?_cons_zero,List.getElem?_cons_succ,List.getElem?_toArray,Option.map_some,Option.bind_some,beq_false,beq_true,Bool.not_true,Bool.not_false,Bool.false_eq_true,pickA,cond_true,cond_false,ldC,cl_agg,List.length_nil,Nat.add_zero,Nat.zero_add,s_eql,s_neq,Bool.and_false,Bool.false_and,Bool.or_true,ld9,fa45_0,fa45_1,h0,bne,h3,h4]) | (guard_target =~ VCall _ _ _ _ _ _ _; refine VCall.pure (by first | with_reducible exact ps0 | with_reducible exact p1 | with_reducible exact p2) (by (first | rfl | (simp only [AV.hfs,AV.hf,Bool.and_self,Bool.and_true,Bool.true_and,strs_hfs,encR_hfs]))) ?_) | (guard_target =~ DCal _ _ _ _ _ _ _; refine DCal.pure (by first | with_reducible exact ps0 | with_reducible exact p1 | with_reducible exact p2) (by (first | rfl | (simp only [AV.hfs,AV.hf,Bool.and_self,Bool.and_true,Bool.true_and,strs_hfs,encR_hfs]))) ?_))
      exact ⟨_,rfl,_,rfl,.refl _⟩
     | false=>
      cases b5 with
      | true=>
       repeat' (first | (simp (disch:=first | omega | (simp only [List.length_append,List.length_cons,List.length_nil,List.length_map,List.length_set]; omega)) only [VC_seq,VC_ret,VC_region,VO_nil,VO_plain,VO_guard,VG_true,VG_false,VV_some,VS,AV.told,ofV_bool,ofV_lit,gdA,callOf,isPanic,nextOf,altA,evalOp,ev_tmp,ev_const,ev_func,Av.get,St.put,argT,thenQ,Nat.reduceEqDiff,↓reduceIte,List.map_cons,List.map_nil,List.nil_append,List.append_nil,List.getElem?_cons_zero,List.getElem?_cons_succ,List.getElem?_toArray,Option.map_some,Option.bind_some,beq_false,beq_true,Bool.not_true,Bool.not_false,Bool.false_eq_true,pickA,cond_true,cond_false,ldC,cl_agg,List.length_nil,Nat.add_zero,Nat.zero_add,s_eql,s_neq,Bool.and_false,Bool.false_and,Bool.or_true,ld9,fa45_0,fa45_1,h0,bne,h3,h4,h5]) | (guard_target =~ VCall _ _ _ _ _ _ _; refine VCall.pure (by first | with_reducible exact ps0 | with_reducible exact p1 | with_reducible exact p2) (by (first | rfl | (simp only [AV.hfs,AV.hf,Bool.and_self,Bool.and_true,Bool.true_and,strs_hfs,encR_hfs]))) ?_) | (guard_target =~ DCal _ _ _ _ _ _ _; refine DCal.pure (by first | with_reducible exact ps0 | with_reducible exact p1 | with_reducible exact p2) (by (first | rfl | (simp only [AV.hfs,AV.hf,Bool.and_self,Bool.and_true,Bool.true_and,strs_hfs,encR_hfs]))) ?_))
       exact ⟨_,rfl,_,rfl,.refl _⟩
      | false=>
       by_cases h6:ps.length≤8
       case neg=>
        rw [decide_eq_false (show ¬ ((ps.length:Int)≤8) by omega)]
        repeat' (first | (simp (disch:=first | omega | (simp only [List.length_append,List.length_cons,List.length_nil,List.length_map,List.length_set]; omega)) only [VC_seq,VC_ret,VC_region,VO_nil,VO_plain,VO_guard,VG_true,VG_false,VV_some,VS,List.length_map,AV.told,ofV_bool,ofV_int,ofV_lit,deN_vsl,gdA,callOf,isPanic,nextOf,altA,evalOp,ev_tmp,ev_const,ev_func,Av.get,St.put,argT,thenQ,Nat.reduceEqDiff,↓reduceIte,List.map_cons,List.map_nil,List.nil_append,List.append_nil,List.getElem?_cons_zero,List.getElem?_cons_succ,List.getElem?_toArray,Option.map_some,Option.bind_some,beq_false,beq_true,Bool.not_false,Bool.false_eq_true,pickA,cond_true,cond_false,ldC,cl_agg,List.length_nil,Nat.add_zero,Nat.zero_add,b_leq,s_eql,s_neq,decide_eq_false,Bool.and_false,Bool.false_and,Bool.or_true,ld9,ld43,lv43,fa45_0,fa45_1,fa45_2,h0,bne,h3,h4,h5]) | (guard_target =~ VCall _ _ _ _ _ _ _; refine VCall.pure (by first | with_reducible exact ps0 | with_reducible exact p1 | with_reducible exact p2) (by (first | rfl | (simp only [AV.hfs,AV.hf,Bool.and_self,Bool.and_true,Bool.true_and,strs_hfs,encR_hfs]))) ?_) | (guard_target =~ DCal _ _ _ _ _ _ _; refine DCal.pure (by first | with_reducible exact ps0 | with_reducible exact p1 | with_reducible exact p2) (by (first | rfl | (simp only [AV.hfs,AV.hf,Bool.and_self,Bool.and_true,Bool.true_and,strs_hfs,encR_hfs]))) ?_))
        exact ⟨_,rfl,_,rfl,.refl _⟩
       rw [decide_eq_true (show ((ps.length:Int)≤8) by omega)]
       cases b7 with
       | false=>
        repeat' (first | (simp (disch:=first | omega | (simp only [List.length_append,List.length_cons,List.length_nil,List.length_map,List.length_set]; omega)) only [VC_seq,VC_ret,VC_region,VO_nil,VO_plain,VO_guard,VG_true,VG_false,VV_some,VS,List.length_map,AV.told,ofV_bool,ofV_int,ofV_lit,deN_vsl,gdA,callOf,isPanic,nextOf,altA,evalOp,ev_tmp,ev_const,ev_func,Av.get,St.put,argT,thenQ,Nat.reduceEqDiff,↓reduceIte,List.map_cons,List.map_nil,List.nil_append,List.append_nil,List.getElem?_cons_zero,List.getElem?_cons_succ,List.getElem?_toArray,Option.map_some,Option.bind_some,beq_false,beq_true,Bool.not_false,Bool.false_eq_true,pickA,cond_true,cond_false,ldC,cl_agg,List.length_nil,Nat.add_zero,Nat.zero_add,b_leq,s_eql,s_neq,decide_eq_true,Bool.and_false,Bool.false_and,Bool.or_true,ld9,ld43,lv43,fa45_0,fa45_1,fa45_2,h0,bne,h3,h4,h5]) | (guard_target =~ VCall _ _ _ _ _ _ _; refine VCall.pure (by first | with_reducible exact ps0 | with_reducible exact p1 | with_reducible exact p2 | with_reducible exact p7) (by (first | rfl | (simp only [AV.hfs,AV.hf,Bool.and_self,Bool.and_true,Bool.true_and,strs_hfs,encR_hfs]))) ?_) | (guard_target =~ DCal _ _ _ _ _ _ _; refine DCal.pure (by first | with_reducible exact ps0 | with_reducible exact p1 | with_reducible exact p2 | with_reducible exact p7) (by (first | rfl | (simp only [AV.hfs,AV.hf,Bool.and_self,Bool.and_true,Bool.true_and,strs_hfs,encR_hfs]))) ?_))
        exact ⟨_,rfl,_,rfl,.refl _⟩
       | true=>
        by_cases h8:v.length≤4000
        case neg=>
         rw [decide_eq_false (show ¬ ((v.length:Int)≤4000) by omega)]
         repeat' (first | (simp (disch:=first | omega | (simp only [List.length_append,List.length_cons,List.length_nil,List.length_map,List.length_set]; omega)) only [VC_seq,VC_ret,VC_region,VO_nil,VO_plain,VO_guard,VG_true,VG_false,VV_some,VS,List.length_map,AV.told,ofV_bool,ofV_int,ofV_lit,deN_vsl,deN_str,gdA,callOf,isPanic,nextOf,altA,evalOp,ev_tmp,ev_const,ev_func,Av.get,St.put,argT,thenQ,Nat.reduceEqDiff,↓reduceIte,List.map_cons,List.map_nil,List.nil_append,List.append_nil,List.getElem?_cons_zero,List.getElem?_cons_succ,List.getElem?_toArray,Option.map_some,Option.bind_some,beq_false,beq_true,Bool.not_false,Bool.false_eq_true,pickA,cond_true,cond_false,ldC,cl_agg,List.length_nil,Nat.add_zero,Nat.zero_add,b_leq,s_eql,s_neq,decide_eq_true,decide_eq_false,Bool.and_false,Bool.false_and,Bool.or_true,ld9,ls9,ld43,lv43,fa45_0,fa45_1,fa45_2,fa45_3,h0,bne,h3,h4,h5]) | (guard_target =~ VCall _ _ _ _ _ _ _; refine VCall.pure (by first | with_reducible exact ps0 | with_reducible exact p1 | with_reducible exact p2 | with_reducible exact p7) (by (first | rfl | (simp only [AV.hfs,AV.hf,Bool.and_self,Bool.and_true,Bool.true_and,strs_hfs,encR_hfs]))) ?_) | (guard_target =~ DCal _ _ _ _ _ _ _; refine DCal.pure (by first | with_reducible exact ps0 | with_reducible exact p1 | with_reducible exact p2 | with_reducible exact p7) (by (first | rfl | (simp only [AV.hfs,AV.hf,Bool.and_self,Bool.and_true,Bool.true_and,strs_hfs,encR_hfs]))) ?_))
         exact ⟨_,rfl,_,rfl,.refl _⟩
        rw [decide_eq_true (show ((v.length:Int)≤4000) by omega)]
        repeat' (first | (simp (disch:=first | omega | (simp only [List.length_append,List.length_cons,List.length_nil,List.length_map,List.length_set]; omega)) only [VC_seq,VC_ret,VC_region,VO_nil,VO_plain,VO_guard,VG_true,VV_some,VS,List.length_map,AV.told,ofV_bool,ofV_int,ofV_lit,deN_vsl,deN_str,gdA,callOf,isPanic,nextOf,altA,evalOp,ev_tmp,ev_const,ev_func,Av.get,St.put,argT,thenQ,Nat.reduceEqDiff,↓reduceIte,List.map_cons,List.map_nil,List.nil_append,List.append_nil,List.getElem?_cons_zero,List.getElem?_cons_succ,List.getElem?_toArray,Option.map_some,Option.bind_some,beq_false,beq_true,Bool.not_false,pickA,cond_true,cond_false,ldC,cl_agg,List.length_nil,Bool.true_and,true_and,Nat.add_zero,Nat.zero_add,b_leq,s_eql,s_neq,decide_eq_true,Bool.or_true,ld9,ls9,ld43,lv43,fa45_0,fa45_1,fa45_2,fa45_3,h0,bne,h3,h4,h5,hcv]) | (guard_target =~ VCall _ _ _ _ _ _ _; refine VCall.lend _ p9 (hld _ _) ?_) | (guard_target =~ VCall _ _ _ _ _ _ _; refine VCall.pure (by first | with_reducible exact ps0 | with_reducible exact p1 | with_reducible exact p2 | with_reducible exact p7) (by (first | rfl | (simp only [AV.hfs,AV.hf,Bool.and_self,Bool.and_true,Bool.true_and,strs_hfs,encR_hfs]))) ?_) | (guard_target =~ DCal _ _ _ _ _ _ _; refine DCal.pure (by first | with_reducible exact ps0 | with_reducible exact p1 | with_reducible exact p2 | with_reducible exact p7) (by (first | rfl | (simp only [AV.hfs,AV.hf,Bool.and_self,Bool.and_true,Bool.true_and,strs_hfs,encR_hfs]))) ?_))
        exact ⟨_,rfl,_,rfl,.refl _⟩
end Go.Proofs.YtjlhemfmeboadaaGreatDoor
namespace Go.Proofs.YtjlhemfmeboadaaGreatDoor
set_option linter.unusedVariables false
set_option linter.unusedSimpArgs false
open Go Go.Av Go.RowKit

theorem addS (t:Nat) (a b:Bytes) (h:a.length + b.length≤100000000):evBin Tryz.prog .add t (.str a) (.str b) = some (.str (a++b)):=by
 simp only [evBin]
 rw [if_pos (by simp only [maxLen']; omega)]
def foldN:Nat→Nat→Bytes→Bytes
 | 0,_,s=>s
 | k + 1,m,s=>if m < s.length then s.take m++([13,10,32]++foldN k 74 (s.drop m)) else s
def fold (s:Bytes):Bytes:=foldN s.length 75 s
set_option maxRecDepth 8000 in
theorem foldV (s:Bytes) (hs:s.length≤1000000):PureFn Tryz.prog 22 [.str s] (.ret (.str (fold s))):=by
 refine PureFn.of Tryz.func22 rfl (enters_call enters Tryz.func22 rfl) (by simp [Tryz.ntmps22]) ?_
 show W Tryz.prog 21 0 none _ _ _
 refine .seq (.region [] (by decide) ?_)
 have x0:({ data:=#[] }:ByteArray).size≤maxLen':=by decide
 have x3:({ data:=#[13,10,32] }:ByteArray).size≤maxLen':=by decide
 simp only [EOps,gdA,callOf,isPanic,nextOf,altA,evalOp,St.ev,St.put,argT,ofV,thenQ]
 refine .seq (.region [] (by decide) ?_)
 simp only [EOps,gdA,callOf,isPanic,nextOf,altA,evalOp,St.ev,St.put,ofV,thenQ,↓reduceIte,x0]
 refine .seq (.block ?_)
 refine .loopT (X:=Bytes × Nat × Bytes × Nat) (fun x=>[(3,.str x.1),(4,.int .i64 (x.2.1:Int)),(0,.str x.2.2.1)]) (fun _=>[])
  (fun x=>x.1++foldN x.2.2.2 x.2.1 x.2.2.1 = fold s∧x.2.2.1.length≤x.2.2.2∧74≤x.2.1∧x.1.length + 2 * x.2.2.1.length≤2 * s.length) (fun x=>x.2.2.1.length) ([],75,s,s.length) ⟨rfl,Nat.le_refl _,by simp,by simp⟩
  (by simp [holdsT,Av.get]) rfl ?_
 rintro ⟨out,m,s',k⟩ ⟨h1,h2,h3,h4⟩
 simp only at h1 h2 h3 h4
 refine .seq (.seq (.region [] (by decide) ?_))
 simp only [EOps,deN,gdA,callOf,isPanic,nextOf,altA,evalOp,St.ev,Av.get,St.put,thenQ,Nat.reduceEqDiff,↓reduceIte,Option.map_some,ls9,b_gtr]
 by_cases h:m < s'.length
 ·refine .cond (t:=true) (by simp [St.ev,Av.get]; omega) (.skip ?_)
  simp only [thenQ]
  have hcat:evBin Tryz.prog .add 9 (.str out) (.str (s'.take m++[13,10,32])) = some (.str (out++(s'.take m++[13,10,32]))):=addS _ _ _ (by simp; omega)
  have hcat0:evBin Tryz.prog .add 9 (.str (s'.take m)) (.str [13,10,32]) = some (.str (s'.take m++[13,10,32])):=addS _ _ _ (by simp; omega)
  refine .block (.seq (.region [] (by decide) ?_))
  simp only [EOps,deN,gdA,callOf,isPanic,nextOf,altA,evalOp,St.ev,Av.get,St.put,ofV,thenQ,Nat.reduceEqDiff,↓reduceIte,Option.map_some,Option.map_none,List.drop_zero,ss9,bnds_to .i64 m (Nat.le_of_lt h),Nat.sub_zero,x3,hcat0,hcat]
  refine .region [] (by decide) ?_
  have htk:(s'.drop m).take (s'.length - m) = s'.drop m:=List.take_of_length_le (by simp)
  simp only [EOps,deN,gdA,callOf,isPanic,nextOf,altA,evalOp,St.ev,Av.get,St.put,ofV,thenQ,Nat.reduceEqDiff,↓reduceIte,Option.map_some,Option.map_none,and_self,and_true,blockQ,ss9,bnds_from .i64 m (Nat.le_of_lt h),htk]
  obtain ⟨k',rfl⟩:∃ k',k = k' + 1:=⟨k - 1,by omega⟩
  refine ⟨(out++(s'.take m++[13,10,32]),74,s'.drop m,k'),⟨?_,?_,?_,?_⟩,?_,⟨rfl,rfl,rfl,trivial⟩⟩
  ·simp only
   rw [← h1,foldN,if_pos h]; simp
  ·simp; omega
  ·simp
  ·simp; omega
  ·simp; omega
 ·refine .cond (t:=false) (by simp [St.ev,Av.get]; omega) (.exit ?_)
  simp only [thenQ,↓reduceIte,blockQ]
  have he:foldN k m s' = s':=by
   cases k with
   | zero=>rfl
   | succ k=>rw [foldN,if_neg h]
  refine .seq (.region [] (by decide) ?_)
  have hcat:evBin Tryz.prog .add 9 (.str out) (.str s') = some (.str (out++s')):=addS _ _ _ (by omega)
  simp only [EOps,gdA,callOf,isPanic,nextOf,altA,evalOp,St.ev,Av.get,St.put,thenQ,Nat.reduceEqDiff,↓reduceIte,hcat]
  rw [← h1,he]
  exact .ret ⟨_,rfl,_,rfl,.refl _⟩
def joined (l:List Bytes):Bytes:=(l.map fun x=>x++[13,10]).flatten
theorem joined_nil:joined [] = []:=rfl
theorem joined_snoc (l:List Bytes) (x:Bytes):joined (l++[x]) = joined l++(x++[13,10]):=by simp [joined]
theorem joined_take {l:List Bytes} {i:Nat} {x:Bytes} (h:l[i]? = some x):joined (l.take (i + 1)) = joined (l.take i)++(x++[13,10]):=by
 rw [List.take_add_one,h]; exact joined_snoc _ _
theorem joined_le:∀ (l:List Bytes) (i:Nat),(joined (l.take i)).length≤(joined l).length
 | [],i=>by simp
 | x::l,0=>by simp [joined]
 | x::l,i + 1=>by
  have:=joined_le l i
  simp only [joined,List.take_succ_cons,List.map_cons,List.flatten_cons,List.length_append] at this ⊢
  omega
set_option maxRecDepth 8000 in
theorem joinedV (x:Bool) (l:List Bytes) (hl:(joined l).length≤50000000):PureFn Tryz.prog 55 [.vsl 0 x (l.map .str)] (.ret (.str (joined l))):=by
 refine PureFn.fit fun hfit=>?_
 have hL:l.length≤maxLen':=by have:(l.map AV.str).length≤maxLen':=hfit (.vsl 0 x (l.map .str)) (by simp); simpa using this
 refine PureFn.of Tryz.func55 rfl (enters_call enters Tryz.func55 rfl) (by simp [Tryz.ntmps55]) ?_
 show W Tryz.prog 18 0 none _ _ _
 have x0:({ data:=#[] }:ByteArray).size≤maxLen':=by decide
 have x2:({ data:=#[13,10] }:ByteArray).size≤maxLen':=by decide
 refine .seq (.region [] (by decide) ?_)
 simp only [EOps,gdA,callOf,isPanic,nextOf,altA,evalOp,St.ev,St.put,argT,ofV,thenQ]
 refine .seq (.region [] (by decide) ?_)
 simp only [EOps,gdA,callOf,isPanic,nextOf,altA,evalOp,St.ev,St.put,ofV,thenQ,↓reduceIte,x0]
 have hln:∀ H,evLen Tryz.prog 38 (.vsl 0 x (l.map .str)) H = some (.int .i64 l.length):=by intro H; simp [lv38]
 refine .seq (.seq (.region [] (by decide) ?_))
 simp only [EOps,deN,gdA,callOf,isPanic,nextOf,altA,evalOp,St.ev,Av.get,St.put,ofV,thenQ,Nat.reduceEqDiff,↓reduceIte,Option.map_some,hln]
 refine .block ?_
 refine .forG 8 7 9 16 l.length hL rfl rfl rfl rfl rfl rfl rfl rfl rfl (by decide) (by decide) (by decide)
  (fun i=>[(6,.vsl 0 x (l.map .str)),(3,.str (joined (l.take i)))]) (fun _=>rfl) (fun _=>[]) (fun _=>Nat.zero_le _) (fun i=>True) rfl trivial ?_ ?_ trivial ?_ ?_
 ·simp only [List.take_zero,joined_nil]
  simp only [subT,Av.get,Nat.reduceEqDiff,↓reduceIte,Le_rfl,nat0,nat1,and_self]
 ·intro i _
  simp only [hltT,AV.hlt,AV.hlts,strs_hlts,Bool.and_self,Bool.and_true,Bool.true_and]
 ·intro i hi _
  obtain ⟨u,hu,hdrop⟩:=drop_at hi
  have hia:evIndexAddr Tryz.prog 38 (.vsl 0 x (l.map .str)) (.int .i64 (i:Int)) [] = some (.vptr [.str u]):=by
   simp [evIndexAddr,idx_nat,Tryz.underlying38,tz9,hu,AV.cells]
  have hle:=joined_le l (i + 1)
  rw [joined_take hu] at hle
  simp only [List.length_append,List.length_cons,List.length_nil] at hle
  have ha:evBin Tryz.prog .add 9 (.str u) (.str [13,10]) = some (.str (u++[13,10])):=addS _ _ _ (by simp; omega)
  have hb:evBin Tryz.prog .add 9 (.str (joined (l.take i))) (.str (u++[13,10])) = some (.str (joined (l.take (i + 1)))):=by rw [joined_take hu]; exact addS _ _ _ (by simp; omega)
  refine .block (.seq (.region [] (by decide) ?_))
  simp only [EOps,gdA,callOf,isPanic,nextOf,altA,evalOp,St.ev,Av.get,St.put,thenQ,Nat.reduceEqDiff,↓reduceIte,Option.map_some,hia,lw9]
  refine .region [] (by decide) ?_
  simp only [EOps,gdA,callOf,isPanic,nextOf,altA,evalOp,St.ev,Av.get,St.put,ofV,Nat.reduceEqDiff,↓reduceIte,x2,ha,hb]
  refine ⟨trivial,?_,trivial,rfl⟩
  simp only [subT,Av.get,Nat.reduceEqDiff,↓reduceIte,Le_rfl,nat0,nat1,and_self]
 ·intro _
  rw [List.take_length]
  simp only [thenQ,↓reduceIte,blockQ]
  refine .seq (.region [] (by decide) ?_)
  simp only [EOps,gdA,callOf,isPanic,nextOf,altA,evalOp,St.ev,Av.get,St.put,thenQ,Nat.reduceEqDiff,↓reduceIte]
  exact .ret ⟨_,rfl,_,rfl,.refl _⟩
end Go.Proofs.YtjlhemfmeboadaaGreatDoor
namespace Go.Proofs.YtjlhemfmeboadaaGreatDoor
set_option linter.unusedVariables false
set_option linter.unusedSimpArgs false
open Go Go.Av Go.RowKit

/-! ### Letters -/

set_option maxRecDepth 100000 in
theorem decN_hi (n b0 b1 b2 b3 : Nat) (h : 128 ≤ b0) (h0 : b0 < 256) :
    128 ≤ (Lib.decodeN n b0 b1 b2 b3).1 ∧ ((Lib.decodeN n b0 b1 b2 b3).2 = 1 ∨ ((Lib.decodeN n b0 b1 b2 b3).2 = 2 ∧ 1 < n ∧ 128 ≤ b1) ∨ ((Lib.decodeN n b0 b1 b2 b3).2 = 3 ∧ 2 < n ∧ 128 ≤ b1 ∧ 128 ≤ b2) ∨ ((Lib.decodeN n b0 b1 b2 b3).2 = 4 ∧ 3 < n ∧ 128 ≤ b1 ∧ 128 ≤ b2 ∧ 128 ≤ b3)) := by
  unfold Lib.decodeN
  repeat' split
  all_goals first
    | exact ⟨by dsimp only; omega, .inl rfl⟩
    | exact ⟨by dsimp only; omega, .inr (.inl ⟨rfl, by omega, by omega⟩)⟩
    | exact ⟨by dsimp only; omega, .inr (.inr (.inl ⟨rfl, by omega, by omega, by omega⟩))⟩
    | exact ⟨by dsimp only; omega, .inr (.inr (.inr ⟨rfl, by omega, by omega, by omega, by omega⟩))⟩
    | (exfalso; omega)

theorem dec_lo {s:Bytes} {i:Nat} {x:UInt8} (hx:s[i]? = some x) (h:x.toNat < 128):Utf8.decode ⟨s.toArray⟩ i = (x.toNat,1):=by
 rw [Lib.decode_N]
 have:(s.getD i 0) = x:=by simp [List.getD,hx]
 simp only [this]
 exact Lib.decodeN_ascii _ _ _ _ _ h
theorem dec_hi {s : Bytes} {i : Nat} {x : UInt8} (hx : s[i]? = some x) (h : 128 ≤ x.toNat) : 128 ≤ (Utf8.decode ⟨s.toArray⟩ i).1 ∧ 1 ≤ (Utf8.decode ⟨s.toArray⟩ i).2 ∧ i + (Utf8.decode ⟨s.toArray⟩ i).2 ≤ s.length ∧
    ∀ j, i ≤ j → j < i + (Utf8.decode ⟨s.toArray⟩ i).2 → 128 ≤ (s.getD j 0).toNat := by
  have hd : Utf8.decode ⟨s.toArray⟩ i = Lib.decodeN (s.length - i) (s.getD i 0).toNat (s.getD (i + 1) 0).toNat (s.getD (i + 2) 0).toNat (s.getD (i + 3) 0).toNat := by rw [Lib.decode_N]
  have hx0 : (s.getD i 0) = x := by simp [List.getD, hx]
  have hi := (List.getElem?_eq_some_iff.1 hx).1
  rw [hd, hx0]
  obtain ⟨h1, h2⟩ := decN_hi (s.length - i) x.toNat (s.getD (i + 1) 0).toNat (s.getD (i + 2) 0).toNat (s.getD (i + 3) 0).toNat h x.toNat_lt
  refine ⟨h1, ?_⟩
  generalize (Lib.decodeN (s.length - i) x.toNat (s.getD (i + 1) 0).toNat (s.getD (i + 2) 0).toNat (s.getD (i + 3) 0).toNat).2 = w at h2
  refine ⟨by omega, by omega, ?_⟩
  intro j hj1 hj2
  have hj : j = i ∨ j = i + 1 ∨ j = i + 2 ∨ j = i + 3 := by omega
  rcases hj with rfl | rfl | rfl | rfl
  · rw [hx0]; exact h
  all_goals omega

/-! ### Names -/

def nmI (x:Int):Bool:=decide (x ≥ 97) && decide (x≤122) || decide (x ≥ 65) && decide (x≤90) || decide (x ≥ 48) && decide (x≤57) || (x == 45)
def lead:Bytes→Nat
 | []=>0
 | x::t=>if nmI x.toNat then lead t + 1 else 0
def ixN (s:Bytes):Int:=if lead s < s.length then (lead s:Int) else -1
theorem nmI_hi (r:Nat) (h:128≤r):nmI r = false:=by
 have h1:¬ ((r:Int)≤122):=by omega
 have h2:¬ ((r:Int)≤90):=by omega
 have h3:¬ ((r:Int)≤57):=by omega
 have h4:¬ ((r:Int) = 45):=by omega
 simp [nmI,h1,h2,h3,h4]
section
variable {P:Program} {n m:Nat} {R:Option Nat} {Q:Ex→St→Prop} {a:St}
theorem RW.cut {ops : Array Oper} {l : List Oper} (c : Nat) (C : List (Nat × AV)) (rs : List CR) (hf : fits n ops = true) (h1 : EOps P ops (thenQ (fun a' => holdsT a'.T C ∧ a'.H = a.H ∧ a'.D = a.D) Q) rs (l.take c) a)
    (h2 : RW P n m R ops Q (l.drop c) ⟨C, a.H, a.D⟩) : RW P n m R ops Q l a := by
  intro k hk B act w r
  have hlen : (l.take c).length + (l.drop c).length = l.length := by rw [← List.length_append, List.take_append_drop]
  have := EOps_okT (P := P) (R := R) (Q := Q) (Q' := thenQ (fun a' => holdsT a'.T C ∧ a'.H = a.H ∧ a'.D = a.D) Q) (B := B) (List.range' (k + (l.take c).length) (l.drop c).length) (fits_get hf) ?_ (fun _ _ _ h => h) (l.take c) k rs a act w (fun i o hi => hk i o (by
    rw [List.getElem?_take] at hi; split at hi
    · exact hi
    · cases hi)) h1 r
  · rw [← hlen]
    rw [← List.range'_append_1]; exact this
  · rintro ⟨T, H, D⟩ act' w' ⟨ht, h3, h4⟩ hr
    simp only at h3 h4
    subst h3; subst h4
    refine RW.fewer C ht h2 _ (fun i o hi => ?_) B act' w' hr
    by_cases hc : c ≤ l.length
    · rw [List.length_take, Nat.min_eq_left hc, Nat.add_assoc]
      exact hk _ o (by rw [List.getElem?_drop] at hi; exact hi)
    · rw [List.drop_eq_nil_of_le (by omega)] at hi; simp at hi
end

noncomputable def nmOps:Array Oper:=match Tryz.f90.body with
 | some (.seq _ (.seq (.region _ ops _) _))=>ops
 | _=>#[]
theorem nmFits:fits 30 nmOps = true:=by kernel_rfl
theorem nmHop (j:Nat) (hj:j < 28):(nmOps[j]?).bind (fun x=>x.dst) = if j < 27 then some (j + 3) else some 2:=by
 have:(List.range 28).all (fun j=>decide ((nmOps[j]?).bind (fun x=>x.dst) = if j < 27 then some (j + 3) else some 2)) = true:=by kernel_rfl
 exact of_decide_eq_true (List.all_eq_true.1 this j (List.mem_range.2 hj))
set_option maxRecDepth 8000 in
theorem nmC (x:Int):PureFn Tryz.prog 90 [.int .i32 x] (.ret (.bool !(nmI x))):=by
 refine PureFn.of Tryz.func90 rfl (enters_call enters Tryz.func90 rfl) (by simp [Tryz.ntmps90]) ?_
 show W Tryz.prog 30 0 none _ _ _
 unfold nmI
 generalize h1:decide (x ≥ 97) = b1
 generalize h2:decide (x≤122) = b2
 generalize h3:decide (x ≥ 65) = b3
 generalize h4:decide (x≤90) = b4
 generalize h5:decide (x ≥ 48) = b5
 generalize h6:decide (x≤57) = b6
 generalize h7:(x == 45) = b7
 refine .seq (.region [] (by decide) ?_)
 simp only [EOps,gdA,callOf,isPanic,nextOf,altA,evalOp,St.ev,St.put,argT,ofV,thenQ]
 refine .seq (RW.start (ops0:=nmOps) rfl ?_)
 refine RW.cut 7 [(0,.int .i32 x),(9,.bool (b1 && b2))] [] nmFits ?_ ?_
 ·cases b1<;>cases b2<;>simp only [EOps,gdA,callOf,isPanic,nextOf,altA,evalOp,St.ev,Av.get,St.put,ofV,thenQ,Nat.reduceEqDiff,↓reduceIte,Bool.and_self,beq_true,Bool.false_eq_true,pickA,cond_true,List.take_succ_cons,List.take_zero,nmHop,Nat.reduceLT,b_geq,b_leq,u_not,h1,h2]<;>exact ⟨⟨rfl,rfl,trivial⟩,trivial,trivial⟩
 generalize (b1 && b2) = c1
 simp only [List.drop_succ_cons,List.drop_zero]
 refine RW.cut 8 [(0,.int .i32 x),(17,.bool (c1 || b3 && b4))] [] nmFits ?_ ?_
 ·cases c1<;>cases b3<;>cases b4<;>simp only [EOps,gdA,callOf,isPanic,nextOf,altA,evalOp,St.ev,Av.get,St.put,ofV,thenQ,Nat.reduceEqDiff,↓reduceIte,Bool.and_self,beq_false,beq_true,Bool.not_true,Bool.not_false,Bool.false_eq_true,pickA,cond_true,cond_false,List.take_succ_cons,List.take_zero,nmHop,Nat.reduceLT,b_geq,b_leq,u_not,h3,h4]<;>exact ⟨⟨rfl,rfl,trivial⟩,trivial,trivial⟩
 generalize (c1 || b3 && b4) = c2
 simp only [List.drop_succ_cons,List.drop_zero]
 refine RW.cut 8 [(0,.int .i32 x),(25,.bool (c2 || b5 && b6))] [] nmFits ?_ ?_
 ·cases c2<;>cases b5<;>cases b6<;>simp only [EOps,gdA,callOf,isPanic,nextOf,altA,evalOp,St.ev,Av.get,St.put,ofV,thenQ,Nat.reduceEqDiff,↓reduceIte,Bool.and_self,beq_false,beq_true,Bool.not_true,Bool.not_false,Bool.false_eq_true,pickA,cond_true,cond_false,List.take_succ_cons,List.take_zero,nmHop,Nat.reduceLT,b_geq,b_leq,u_not,h5,h6]<;>exact ⟨⟨rfl,rfl,trivial⟩,trivial,trivial⟩
 generalize (c2 || b5 && b6) = c3
 simp only [List.drop_succ_cons,List.drop_zero]
 refine RW.cut 5 [(2,.bool !(c3 || b7))] [] nmFits ?_ ?_
 ·cases c3<;>cases b7<;>simp only [EOps,gdA,callOf,isPanic,nextOf,altA,evalOp,St.ev,Av.get,St.put,ofV,thenQ,Nat.reduceEqDiff,↓reduceIte,Option.map_some,beq_false,Bool.not_true,Bool.not_false,pickA,cond_false,List.take_succ_cons,List.take_zero,nmHop,Nat.reduceLT,b_eql,u_not,h7]<;>exact ⟨⟨rfl,trivial⟩,trivial,trivial⟩
 simp only [List.drop_succ_cons,List.drop_zero]
 refine RW.done ?_
 exact .ret ⟨_,rfl,_,rfl,.refl _⟩
end Go.Proofs.YtjlhemfmeboadaaGreatDoor
namespace Go.Proofs.YtjlhemfmeboadaaGreatDoor
set_option linter.unusedVariables false
set_option linter.unusedSimpArgs false
open Go Go.Av Go.RowKit

theorem nextS_lo {s : Bytes} {i : Nat} {x : UInt8} (hx : s[i]? = some x) (h : x.toNat < 128) :
    evNextS (.ptr 0 0) [.siter s i] = some (.tup [.bool true, .int .i64 (i : Int), .int .i32 (x.toNat : Int)], [.siter s (i + 1)]) := by
  have hi := (List.getElem?_eq_some_iff.1 hx).1
  simp [evNextS, hi, dec_lo hx h]
theorem nextS_hi {s : Bytes} {i : Nat} {x : UInt8} (hx : s[i]? = some x) :
    evNextS (.ptr 0 0) [.siter s i] = some (.tup [.bool true, .int .i64 (i : Int), .int .i32 ((Utf8.decode ⟨s.toArray⟩ i).1 : Int)], [.siter s (i + (Utf8.decode ⟨s.toArray⟩ i).2)]) := by
  have hi := (List.getElem?_eq_some_iff.1 hx).1
  simp [evNextS, hi]
theorem nextS_end {s:Bytes} {i:Nat} (hi:s.length≤i):evNextS (.ptr 0 0) [.siter s i] = some (.tup [.bool false],[.siter s i]):=by
 simp [evNextS]; omega
theorem eqB (a b:Bool):evBin Tryz.prog .eql 4 (.bool a) (.bool b) = some (.bool (a == b)):=by simp [evBin,Tryz.underlying4]
def nmF:AV:=.func (.func 90) [] []
set_option maxRecDepth 8000 in
theorem ixf107 (s:Bytes):PureFn Tryz.prog 107 [.str s,nmF,.bool true] (.ret (.int .i64 (ixN s))):=by
 refine PureFn.of Tryz.func107 rfl (enters_call enters Tryz.func107 rfl) (by simp [Tryz.ntmps107]) ?_
 show W Tryz.prog 21 0 none _ _ _
 have hr:evRange Tryz.prog 9 (.str s) [] = some (.ptr 0 0,[.siter s 0]):=by simp [evRange,Tryz.underlying9]
 refine .seq (.region [] (by decide) ?_)
 simp only [EOps,gdA,callOf,isPanic,nextOf,altA,evalOp,St.ev,St.put,argT,ofV,thenQ]
 refine .seq (.seq (.region [] (by decide) ?_))
 simp only [EOps,gdA,callOf,isPanic,nextOf,altA,evalOp,St.ev,Av.get,St.put,thenQ,Nat.reduceEqDiff,↓reduceIte,hr]
 refine .block ?_
 refine .loopT (X:=Nat) (fun i=>[(10,.ptr 0 0),(1,nmF),(2,.bool true)]) (fun i=>[.siter s i]) (fun i=>i≤s.length∧i + lead (s.drop i) = lead s) (fun i=>s.length - i) 0 ⟨Nat.zero_le _,by simp⟩
  (by simp [holdsT,Av.get]) rfl ?_
 rintro i ⟨hi,hall⟩
 refine .seq (.region [] (by decide) ?_)
 by_cases h:i < s.length
 ·obtain ⟨x,hx,hdrop⟩:=drop_at h
  rw [hdrop,lead] at hall
  obtain ⟨r,w,hnx,hr,hw⟩:∃ (r:Int) (w:Nat),evNextS (.ptr 0 0) [.siter s i] = some (.tup [.bool true,.int .i64 (i:Int),.int .i32 r],[.siter s (i + w)])∧nmI r = nmI x.toNat∧(nmI x.toNat = true→w = 1):=by
   rcases Nat.lt_or_ge x.toNat 128 with h1 | h1
   ·exact ⟨_,1,nextS_lo hx h1,rfl,fun _=>rfl⟩
   ·refine ⟨_,_,nextS_hi hx,?_,fun h2=>?_⟩
    ·rw [nmI_hi _ (dec_hi hx h1).1,nmI_hi _ h1]
    ·rw [nmI_hi _ h1] at h2; cases h2
  have hc:=nmC r
  rw [hr] at hc
  simp only [EOps,evNextB,gdA,callOf,isPanic,nextOf,altA,evalOp,St.ev,Av.get,St.put,thenQ,↓reduceIte,List.getElem?_cons_zero,Option.map_some,hnx]
  refine .seq (.cond (t:=true) rfl (.skip ?_))
  simp only [thenQ]
  refine .block (.seq (.region [] (by decide) ?_))
  simp only [EOps,gdA,callOf,isPanic,nextOf,altA,evalOp,St.ev,Av.get,St.put,thenQ,Nat.reduceEqDiff,↓reduceIte,List.getElem?_cons_zero,List.getElem?_cons_succ,Option.map_some]
  cases hn:nmI x.toNat with
  | true=>
   rw [hn] at hc hall
   rw [hw hn] at *
   refine .seq (.region [.pure (.ret (.bool false))] (by decide) ?_)
   simp only [EOps,gdA,callOf,isPanic,nextOf,altA,evalOp,St.ev,Av.get,St.put,thenQ,Nat.reduceEqDiff,↓reduceIte,lend,AV.hfs,AV.hf,Bool.and_self,List.map_cons,List.map_nil,List.nil_append,List.append_nil,beq_true,nmF,eqB]
   refine ⟨hc,?_⟩
   refine .cond (t:=false) rfl (.skip ?_)
   simp only [thenQ,blockQ]
   refine ⟨i + 1,⟨by omega,by simp only [if_true] at hall; omega⟩,by omega,⟨rfl,rfl,rfl,trivial⟩,rfl,trivial⟩
  | false=>
   rw [hn] at hc hall
   refine .seq (.region [.pure (.ret (.bool true))] (by decide) ?_)
   simp only [EOps,gdA,callOf,isPanic,nextOf,altA,evalOp,St.ev,Av.get,St.put,thenQ,Nat.reduceEqDiff,↓reduceIte,lend,AV.hfs,AV.hf,Bool.and_self,List.map_cons,List.map_nil,List.nil_append,List.append_nil,beq_true,nmF,eqB]
   refine ⟨hc,?_⟩
   refine .cond (t:=true) rfl (.seq (.region [] (by decide) ?_))
   simp only [EOps,gdA,callOf,isPanic,nextOf,altA,evalOp,St.ev,Av.get,St.put,thenQ,Nat.reduceEqDiff,↓reduceIte]
   refine .ret ?_
   have:ixN s = (i:Int):=by
    simp only [Bool.false_eq_true,if_false,Nat.add_zero] at hall
    unfold ixN; rw [if_pos (by omega)]; omega
   rw [this]
   exact ⟨_,rfl,_,rfl,.refl _⟩
 ·have hi':i = s.length:=by omega
  subst hi'
  simp only [EOps,evNextB,gdA,callOf,isPanic,nextOf,altA,evalOp,St.ev,Av.get,St.put,thenQ,↓reduceIte,List.getElem?_cons_zero,Option.map_some,nextS_end (Nat.le_refl s.length)]
  refine .seq (.cond (t:=false) rfl (.exit ?_))
  simp only [thenQ,↓reduceIte,blockQ]
  refine .seq (.region [] (by decide) ?_)
  simp only [EOps,gdA,callOf,isPanic,nextOf,altA,evalOp,St.ev,St.put,ofV,thenQ]
  refine .ret ?_
  have:ixN s = -1:=by
   rw [List.drop_length] at hall
   simp only [lead] at hall
   unfold ixN; rw [if_neg (by omega)]
  rw [this]
  exact ⟨_,rfl,_,rfl,.refl _⟩
theorem ixf89 (s:Bytes):PureFn Tryz.prog 89 [.str s,nmF] (.ret (.int .i64 (ixN s))):=by
 refine PureFn.of Tryz.func89 rfl (enters_call enters Tryz.func89 rfl) (by simp [Tryz.ntmps89]) ?_
 show W Tryz.prog 8 0 none _ _ _
 refine .seq (.region [] (by decide) ?_)
 simp only [EOps,gdA,callOf,isPanic,nextOf,altA,evalOp,St.ev,St.put,argT,ofV,thenQ]
 refine .seq (.region [.pure (.ret (.int .i64 (ixN s)))] (by decide) ?_)
 simp only [EOps,gdA,callOf,isPanic,nextOf,altA,evalOp,St.ev,Av.get,St.put,ofV,thenQ,Nat.reduceEqDiff,↓reduceIte,lend,AV.hfs,AV.hf,Bool.and_self,List.map_cons,List.map_nil,List.nil_append,List.append_nil,nmF]
 exact ⟨ixf107 s,.ret ⟨_,rfl,_,rfl,.refl _⟩⟩
end Go.Proofs.YtjlhemfmeboadaaGreatDoor
namespace Go.Proofs.YtjlhemfmeboadaaGreatDoor
set_option linter.unusedVariables false
set_option linter.unusedSimpArgs false
open Go Go.Av Go.RowKit

def validB (r:Int):Bool:=decide (0≤r) && decide (r < 55296) || decide (57343 < r) && decide (r≤1114111)
set_option maxRecDepth 8000 in
theorem valid131 (r:Int):PureFn Tryz.prog 131 [.int .i32 r] (.ret (.bool (validB r))):=by
 unfold validB
 generalize h1:decide (0≤r) = b1
 generalize h2:decide (r < 55296) = b2
 generalize h3:decide (57343 < r) = b3
 generalize h4:decide (r≤1114111) = b4
 refine PureFn.of Tryz.func131 rfl (enters_call enters Tryz.func131 rfl) (by simp [Tryz.ntmps131]) ?_
 show W Tryz.prog 17 0 none _ _ _
 refine .seq (.region [] (by decide) ?_)
 simp only [EOps,gdA,callOf,isPanic,nextOf,altA,evalOp,St.ev,St.put,argT,ofV,thenQ]
 refine .seq (.block ?_)
 cases b1<;>cases b2<;>refine .seq (.region [] (by decide) ?_)<;>simp only [EOps,gdA,callOf,isPanic,nextOf,altA,evalOp,St.ev,Av.get,St.put,ofV,thenQ,Nat.reduceEqDiff,↓reduceIte,Bool.and_self,List.getElem?_cons_zero,List.getElem?_cons_succ,List.getElem?_toArray,Option.bind_some,beq_true,Bool.false_eq_true,pickA,cond_true,b_leq,b_lss,h1,h2]
 case true.true=>
  refine .cond (t:=true) rfl (.seq (.region [] (by decide) ?_))
  simp only [EOps,gdA,callOf,isPanic,nextOf,altA,evalOp,St.ev,St.put,ofV,thenQ]
  exact .ret ⟨_,rfl,_,rfl,.refl _⟩
 all_goals
  refine .cond (t:=false) rfl ?_
  cases b3<;>cases b4<;>refine .seq (.region [] (by decide) ?_)<;>simp only [EOps,gdA,callOf,isPanic,nextOf,altA,evalOp,St.ev,Av.get,St.put,ofV,thenQ,Nat.reduceEqDiff,↓reduceIte,Bool.and_self,List.getElem?_cons_zero,List.getElem?_cons_succ,List.getElem?_toArray,Option.bind_some,beq_true,Bool.false_eq_true,pickA,cond_true,b_leq,b_lss,h3,h4]
  case true.true=>
   refine .cond (t:=true) rfl (.seq (.region [] (by decide) ?_))
   simp only [EOps,gdA,callOf,isPanic,nextOf,altA,evalOp,St.ev,St.put,ofV,thenQ]
   exact .ret ⟨_,rfl,_,rfl,.refl _⟩
  all_goals
   refine .cond (t:=false) rfl (.skip ?_)
   simp only [thenQ,blockQ]
   refine .seq (.region [] (by decide) ?_)
   simp only [EOps,gdA,callOf,isPanic,nextOf,altA,evalOp,St.ev,St.put,ofV,thenQ]
   exact .ret ⟨_,rfl,_,rfl,.refl _⟩
theorem enc_hi (r:Nat) (h:128≤r):∃ e,(Utf8.encode (r:Int)).data.toList = e∧2≤e.length∧e.length≤4∧∃ z:UInt8,e[e.length - 1]? = some z∧128≤z.toNat:=by
 refine ⟨_,rfl,?_⟩
 have key:∀ c:Nat,128≤(UInt8.ofNat (0x80 + c % 64)).toNat:=by
  intro c; simp [UInt8.toNat_ofNat']; omega
 unfold Utf8.encode
 simp only
 have hc:128≤(if Utf8.valid (r:Int) = true then ((r:Int)).toNat else Utf8.runeError):=by
  split
  ·simpa using h
  ·decide
 generalize (if Utf8.valid (r:Int) = true then ((r:Int)).toNat else Utf8.runeError) = c at hc
 rw [if_neg (by omega)]
 split
 ·exact ⟨by simp,by simp,_,rfl,key c⟩
 ·split
  ·exact ⟨by simp,by simp,_,rfl,key c⟩
  ·exact ⟨by simp,by simp,_,rfl,key c⟩
theorem rune_lo (cs:Bytes) (x:UInt8) (h:x.toNat < 128):PureFn Tryz.prog 109 [.str cs,.int .i32 x.toNat] (.ret (.int .i64 (ixB cs x))):=by
 refine PureFn.of Tryz.func109 rfl (enters_call enters Tryz.func109 rfl) (by simp [Tryz.ntmps109]) ?_
 show W Tryz.prog 187 0 none _ _ _
 have h1:decide ((0:Int)≤(x.toNat:Int)) = true:=decide_eq_true (by omega)
 have h2:decide ((x.toNat:Int) < 128) = true:=decide_eq_true (by omega)
 have hcv:evConv Tryz.prog 21 5 (.int .i32 (x.toNat:Int)) [] = some (byteA x,[]):=by
  have:=x.toNat_lt
  simp [evConv,Tryz.underlying21,Tryz.underlying5,IntKind.wrap,IntKind.bits,IntKind.signed,byteA]
  omega
 refine .seq (.region [] (by decide) ?_)
 simp only [EOps,gdA,callOf,isPanic,nextOf,altA,evalOp,St.ev,St.put,argT,ofV,thenQ]
 refine .block (.seq (.region [] (by decide) ?_))
 simp only [EOps,gdA,callOf,isPanic,nextOf,altA,evalOp,St.ev,Av.get,St.put,ofV,thenQ,Nat.reduceEqDiff,↓reduceIte,List.getElem?_cons_zero,List.getElem?_cons_succ,List.getElem?_toArray,Option.bind_some,beq_true,pickA,cond_true,b_leq,b_lss,h1,h2]
 refine .cond (t:=true) rfl (.seq (.region [.pure (.ret (.int .i64 (ixB cs x)))] (by decide) ?_))
 simp only [EOps,gdA,callOf,isPanic,nextOf,altA,evalOp,St.ev,Av.get,St.put,thenQ,Nat.reduceEqDiff,↓reduceIte,lend,AV.hfs,AV.hf,Bool.and_self,List.map_cons,List.map_nil,List.nil_append,List.append_nil,hcv,byteA]
 refine ⟨byteI130 cs x,?_⟩
 exact .ret ⟨_,rfl,_,rfl,.refl _⟩
theorem ixB_no {s:Bytes} {c:UInt8} (h:c ∉ s):ixB s c = -1:=by
 rcases ixB_spec s c with ⟨h1,_⟩ | ⟨i,_,h2,_⟩
 ·exact h1
 ·exact absurd (List.mem_of_getElem? h2) h
set_option maxRecDepth 8000 in
theorem rune_hi (cs:Bytes) (hcs:∀ b ∈ cs,b.toNat < 128) (hl:cs.length≤1000) (r:Nat) (h:128≤r):PureFn Tryz.prog 109 [.str cs,.int .i32 r] (.ret (.int .i64 (-1))):=by
 refine PureFn.of Tryz.func109 rfl (enters_call enters Tryz.func109 rfl) (by simp [Tryz.ntmps109]) ?_
 show W Tryz.prog 187 0 none _ _ _
 have h1:decide ((0:Int)≤(r:Int)) = true:=decide_eq_true (by omega)
 have h2:decide ((r:Int) < 128) = false:=decide_eq_false (by omega)
 refine .seq (.region [] (by decide) ?_)
 simp only [EOps,gdA,callOf,isPanic,nextOf,altA,evalOp,St.ev,St.put,argT,ofV,thenQ]
 refine .block (.seq (.region [] (by decide) ?_))
 simp only [EOps,gdA,callOf,isPanic,nextOf,altA,evalOp,St.ev,Av.get,St.put,ofV,thenQ,Nat.reduceEqDiff,↓reduceIte,List.getElem?_cons_zero,List.getElem?_cons_succ,List.getElem?_toArray,Option.bind_some,beq_true,pickA,cond_true,b_leq,b_lss,h1,h2]
 refine .cond (t:=false) rfl ?_
 refine .seq (.region [] (by decide) ?_)
 generalize h3:((r:Int) == 65533) = b3
 cases b3 with
 | true=>
  have hr:evRange Tryz.prog 9 (.str cs) [] = some (.ptr 0 0,[.siter cs 0]):=by simp [evRange,Tryz.underlying9]
  simp only [EOps,gdA,callOf,isPanic,nextOf,altA,evalOp,St.ev,Av.get,St.put,ofV,thenQ,Nat.reduceEqDiff,↓reduceIte,b_eql,h3]
  refine .cond (t:=true) rfl (.seq (.seq (.region [] (by decide) ?_)))
  simp only [EOps,gdA,callOf,isPanic,nextOf,altA,evalOp,St.ev,Av.get,St.put,thenQ,Nat.reduceEqDiff,↓reduceIte,hr]
  refine .block ?_
  refine .loopT (X:=Nat) (fun i=>[(175,.ptr 0 0)]) (fun i=>[.siter cs i]) (fun i=>i≤cs.length) (fun i=>cs.length - i) 0 (Nat.zero_le _)
   (by simp [holdsT,Av.get]) rfl ?_
  intro i hi
  refine .seq (.region [] (by decide) ?_)
  by_cases hlt:i < cs.length
  ·obtain ⟨x,hx,hdrop⟩:=drop_at hlt
   have hx8:=hcs x (List.mem_of_getElem? hx)
   simp only [EOps,evNextB,gdA,callOf,isPanic,nextOf,altA,evalOp,St.ev,Av.get,St.put,thenQ,↓reduceIte,List.getElem?_cons_zero,Option.map_some,nextS_lo hx hx8]
   refine .seq (.cond (t:=true) rfl (.skip ?_))
   simp only [thenQ]
   refine .block (.seq (.region [] (by decide) ?_))
   simp only [EOps,gdA,callOf,isPanic,nextOf,altA,evalOp,St.ev,Av.get,St.put,thenQ,Nat.reduceEqDiff,↓reduceIte,List.getElem?_cons_zero,List.getElem?_cons_succ,Option.map_some]
   refine .seq (.region [] (by decide) ?_)
   have hne:((x.toNat:Int) == 65533) = false:=by simp; omega
   simp only [EOps,gdA,callOf,isPanic,nextOf,altA,evalOp,St.ev,Av.get,St.put,ofV,thenQ,↓reduceIte,b_eql,hne]
   refine .cond (t:=false) rfl (.skip ?_)
   simp only [thenQ,blockQ]
   refine ⟨i + 1,by omega,by omega,⟨rfl,trivial⟩,rfl,trivial⟩
  ·have hi':i = cs.length:=by omega
   subst hi'
   simp only [EOps,evNextB,gdA,callOf,isPanic,nextOf,altA,evalOp,St.ev,Av.get,St.put,thenQ,↓reduceIte,List.getElem?_cons_zero,Option.map_some,nextS_end (Nat.le_refl cs.length)]
   refine .seq (.cond (t:=false) rfl (.exit ?_))
   simp only [thenQ,↓reduceIte,blockQ]
   refine .seq (.region [] (by decide) ?_)
   simp only [EOps,gdA,callOf,isPanic,nextOf,altA,evalOp,St.ev,St.put,ofV,thenQ]
   exact .ret ⟨_,rfl,_,rfl,.refl _⟩
 | false=>
  simp only [EOps,gdA,callOf,isPanic,nextOf,altA,evalOp,St.ev,Av.get,St.put,ofV,thenQ,Nat.reduceEqDiff,↓reduceIte,b_eql,h3]
  refine .cond (t:=false) rfl ?_
  have hv:=valid131 (r:Int)
  generalize validB (r:Int) = b4 at hv
  refine .seq (.region [.pure (.ret (.bool b4))] (by decide) ?_)
  cases b4 with
  | false=>
   simp only [EOps,gdA,callOf,isPanic,nextOf,altA,evalOp,St.ev,Av.get,St.put,thenQ,Nat.reduceEqDiff,↓reduceIte,lend,AV.hfs,AV.hf,Bool.and_self,List.map_cons,List.map_nil,List.nil_append,List.append_nil,Option.map_some,Bool.not_false,u_not]
   refine ⟨hv,?_⟩
   refine .cond (t:=true) rfl (.seq (.region [] (by decide) ?_))
   simp only [EOps,gdA,callOf,isPanic,nextOf,altA,evalOp,St.ev,St.put,ofV,thenQ]
   exact .ret ⟨_,rfl,_,rfl,.refl _⟩
  | true=>
   simp only [EOps,gdA,callOf,isPanic,nextOf,altA,evalOp,St.ev,Av.get,St.put,thenQ,Nat.reduceEqDiff,↓reduceIte,lend,AV.hfs,AV.hf,Bool.and_self,List.map_cons,List.map_nil,List.nil_append,List.append_nil,Option.map_some,Bool.not_true,u_not]
   refine ⟨hv,?_⟩
   refine .cond (t:=false) rfl ?_
   obtain ⟨e,he,hl2,hl4,z,hz,hz8⟩:=enc_hi r h
   have hcv:evConv Tryz.prog 21 9 (.int .i32 (r:Int)) [] = some (.str e,[]):=by
    simp [evConv,Tryz.underlying21,Tryz.underlying9,he]
   have hze:evIndex Tryz.prog 9 (.str e) (.int .i64 ((e.length - 1:Nat):Int)) = some (.int .u8 z.toNat):=ix9 e _ z hz
   refine .scope_straight ?_
   refine .seq (.region [] (by decide) ?_)
   simp only [EOps,gdA,callOf,isPanic,nextOf,altA,evalOp,St.ev,Av.get,St.put,thenQ,Nat.reduceEqDiff,↓reduceIte,hcv]
   refine .seq (.region [] (by decide) ?_)
   have hsub:evBin Tryz.prog .sub 3 (.int .i64 (e.length:Int)) (.int .i64 1) = some (.int .i64 ((e.length - 1:Nat):Int)):=subN _ e.length 1 (by omega) (by omega)
   simp only [EOps,deN,gdA,callOf,isPanic,nextOf,altA,evalOp,St.ev,Av.get,St.put,ofV,thenQ,↓reduceIte,Option.map_some,ls9,hsub]
   refine .seq (.region [] (by decide) ?_)
   simp only [EOps,gdA,callOf,isPanic,nextOf,altA,evalOp,St.ev,Av.get,St.put,thenQ,↓reduceIte]
   refine .seq (.region [] (by decide) ?_)
   simp only [EOps,gdA,callOf,isPanic,nextOf,altA,evalOp,St.ev,St.put,ofV,thenQ]
   generalize hk:e.length - 1 = k at *
   refine .seq ?_
   refine .block ?_
   refine .loopT (X:=Unit) (fun _=>[(0,.str cs),(7,.str e),(8,.int .i64 (k:Int)),(9,.int .i64 (k:Int))]) (fun _=>[]) (fun _=>True) (fun _=>0) () trivial (by simp [holdsT,Av.get]) rfl ?_
   intro _ _
   refine .seq (.seq (.region [] (by decide) ?_))
   simp only [EOps,deN,gdA,callOf,isPanic,nextOf,altA,evalOp,St.ev,Av.get,St.put,thenQ,Nat.reduceEqDiff,↓reduceIte,Option.map_some,ls9,b_lss]
   by_cases hlt:k < cs.length
   ·obtain ⟨y,hy,hdrop⟩:=drop_at hlt
    have hy8:=hcs y (List.mem_of_getElem? hy)
    have hye:evIndex Tryz.prog 9 (.str cs) (.int .i64 (k:Int)) = some (.int .u8 y.toNat):=ix9 cs _ y hy
    have hyz:((y.toNat:Int) != (z.toNat:Int)) = true:=by simp; omega
    refine .cond (t:=true) (by simp [St.ev,Av.get]; omega) (.skip ?_)
    simp only [thenQ]
    refine .block (.scope_straight ?_)
    refine .seq (.seq (.drawf [] mixed (by kernel_rfl) (by kernel_rfl) (by kernel_rfl) ?_))
    simp only [EDf,gdA,callOf,isPanic,evalOp,St.ev,Av.get,St.put,thenQ,Nat.reduceEqDiff,↓reduceIte,Option.map_some,hye,hze,b_neq,hyz]
    have hno:z ∉ cs.drop (k + 1):=fun hm=>by have:=hcs z (List.mem_of_mem_drop hm); omega
    have hb:=byteI130 (cs.drop (k + 1)) z
    rw [ixB_no hno] at hb
    have hsl:evSlice Tryz.prog 9 (.str cs) (some (.int .i64 ((k + 1:Nat):Int))) none none = some (.str (cs.drop (k + 1))):=by
     rw [ss9,bnds_from .i64 (k + 1) (by omega)]
     simp only [Option.map_some]
     rw [List.take_of_length_le (by simp)]
    refine .cond (t:=true) rfl (.seq (.drawf [.pure (.ret (.int .i64 (-1)))] mixed (by kernel_rfl) (by kernel_rfl) (by kernel_rfl) ?_))
    simp only [EDf,deN,gdA,callOf,isPanic,evalOp,St.ev,Av.get,St.put,ofV,thenQ,Nat.reduceEqDiff,↓reduceIte,lend,AV.hfs,AV.hf,Bool.and_self,List.map_cons,List.map_nil,List.nil_append,List.append_nil,Option.map_some,Option.map_none,add1 3 k (by omega),hsl,hze]
    refine ⟨hb,?_⟩
    refine .seq (.seq (.region [] (by decide) ?_))
    have hm1:decide ((-1:Int) < 0) = true:=rfl
    simp only [EOps,gdA,callOf,isPanic,nextOf,altA,evalOp,St.ev,Av.get,St.put,ofV,thenQ,↓reduceIte,b_lss,hm1]
    refine .cond (t:=true) rfl (.seq (.region [] (by decide) ?_))
    simp only [EOps,gdA,callOf,isPanic,nextOf,altA,evalOp,St.ev,St.put,ofV,thenQ]
    exact .ret ⟨_,rfl,_,rfl,.refl _⟩
   ·refine .cond (t:=false) (by simp [St.ev,Av.get]; omega) (.exit ?_)
    simp only [thenQ,↓reduceIte,blockQ]
    refine .seq (.seq (.region [] (by decide) ?_))
    simp only [EOps,gdA,callOf,isPanic,nextOf,altA,evalOp,St.ev,St.put,ofV,thenQ]
    exact .ret ⟨_,rfl,_,rfl,.refl _⟩
end Go.Proofs.YtjlhemfmeboadaaGreatDoor
namespace Go.Proofs.YtjlhemfmeboadaaGreatDoor
set_option linter.unusedVariables false
set_option linter.unusedSimpArgs false
open Go Go.Av Go.RowKit

def leadN (cs:Bytes):Bytes→Nat
 | []=>0
 | x::t=>if x ∈ cs then 0 else leadN cs t + 1
def ixAny (s cs:Bytes):Int:=if leadN cs s < s.length then (leadN cs s:Int) else -1
theorem leadN_skip {cs:Bytes} (hcs:∀ b ∈ cs,b.toNat < 128) {s:Bytes}:∀ (w i:Nat),i + w≤s.length→(∀ j,i≤j→j < i + w→128≤(s.getD j 0).toNat)→leadN cs (s.drop i) = w + leadN cs (s.drop (i + w))
 | 0,i,_,_=>by simp
 | w + 1,i,hl,hj=>by
  obtain ⟨x,hx,hdrop⟩:=drop_at (show i < s.length by omega)
  have hx0:s.getD i 0 = x:=by simp [List.getD,hx]
  have h128:=hj i (Nat.le_refl _) (by omega)
  rw [hx0] at h128
  have hn:x ∉ cs:=fun hm=>by have:=hcs x hm; omega
  rw [hdrop,leadN,if_neg hn,leadN_skip hcs w (i + 1) (by omega) (fun j h1 h2=>hj j (by omega) (by omega))]
  rw [show i + (w + 1) = i + 1 + w from by omega]; omega
theorem ixB_pos {s:Bytes} {c:UInt8}:decide (ixB s c ≥ 0) = decide (c ∈ s):=by
 rcases ixB_spec s c with ⟨h1,h2⟩ | ⟨i,h1,h2,_⟩
 ·rw [h1,decide_eq_false h2]; rfl
 ·rw [h1,decide_eq_true (List.mem_of_getElem? h2)]; simp
theorem sets110 (n:Int):PureFn Tryz.prog 110 [.int .i64 n] (.ret (.bool (decide (n > 8)))):=by
 refine PureFn.of Tryz.func110 rfl (enters_call enters Tryz.func110 rfl) (by simp [Tryz.ntmps110]) ?_
 show W Tryz.prog 5 0 none _ _ _
 refine .seq (.region [] (by decide) ?_)
 simp only [EOps,gdA,callOf,isPanic,nextOf,altA,evalOp,St.ev,St.put,argT,ofV,thenQ]
 refine .seq (.region [] (by decide) ?_)
 simp only [EOps,gdA,callOf,isPanic,nextOf,altA,evalOp,St.ev,Av.get,St.put,ofV,thenQ,Nat.reduceEqDiff,↓reduceIte,b_gtr]
 exact .ret ⟨_,rfl,_,rfl,.refl _⟩
set_option maxRecDepth 8000 in
theorem any_short (s cs : Bytes) (hcs : ∀ b ∈ cs, b.toNat < 128) (h2 : 2 ≤ cs.length) (hl : cs.length ≤ 1000) (h8 : s.length ≤ 8) : PureFn Tryz.prog 92 [.str s, .str cs] (.ret (.int .i64 (ixAny s cs))) := by
  refine PureFn.of Tryz.func92 rfl (enters_call enters Tryz.func92 rfl) (by simp [Tryz.ntmps92]) ?_
  show W Tryz.prog 55 0 none _ _ _
  have e0 : (cs == []) = false := by cases cs with | nil => simp at h2 | cons _ _ => rfl
  have e1 : ((cs.length : Int) == 1) = false := by simp; omega
  have x0 : ({ data := #[] } : ByteArray).size ≤ maxLen' := by decide
  have hsh := sets110 (s.length : Int)
  rw [decide_eq_false (show ¬ ((s.length : Int) > 8) by omega)] at hsh
  refine .seq (.region [] (by decide) ?_)
  simp only [EOps, gdA, callOf, isPanic, nextOf, altA, evalOp, St.ev, St.put, argT, ofV, thenQ]
  refine .seq (.seq (.region [] (by decide) ?_))
  simp only [EOps, gdA, callOf, isPanic, nextOf, altA, evalOp, St.ev, Av.get, St.put, ofV, thenQ, Nat.reduceEqDiff, ↓reduceIte, s_eql, x0, e0]
  refine .cond (t := false) rfl (.skip ?_)
  refine .seq (.seq (.region [] (by decide) ?_))
  simp only [EOps, deN, gdA, callOf, isPanic, nextOf, altA, evalOp, St.ev, Av.get, St.put, ofV, thenQ, Nat.reduceEqDiff, ↓reduceIte, Option.map_some, ls9, b_eql, e1]
  refine .cond (t := false) rfl (.skip ?_)
  refine .seq (.seq (.region [.pure (.ret (.bool false))] (by decide) ?_))
  simp only [EOps, deN, gdA, callOf, isPanic, nextOf, altA, evalOp, St.ev, Av.get, St.put, thenQ, Nat.reduceEqDiff, ↓reduceIte, lend, AV.hfs, AV.hf, Bool.and_self, List.map_cons, List.map_nil, List.nil_append, List.append_nil, Option.map_some, ls9]
  refine ⟨hsh, ?_⟩
  refine .cond (t := false) rfl (.skip ?_)
  have hr : evRange Tryz.prog 9 (.str s) [] = some (.ptr 0 0, [.siter s 0]) := by simp [evRange, Tryz.underlying9]
  simp only [thenQ]
  refine .seq (.seq (.region [] (by decide) ?_))
  simp only [EOps, gdA, callOf, isPanic, nextOf, altA, evalOp, St.ev, Av.get, St.put, thenQ, Nat.reduceEqDiff, ↓reduceIte, hr]
  refine .block ?_
  refine .loopT (X := Nat) (fun i => [(45, .ptr 0 0), (1, .str cs)]) (fun i => [.siter s i]) (fun i => i ≤ s.length ∧ i + leadN cs (s.drop i) = leadN cs s) (fun i => s.length - i) 0 ⟨Nat.zero_le _, by simp⟩
    (by simp [holdsT, Av.get]) rfl ?_
  rintro i ⟨hi, hall⟩
  refine .seq (.region [] (by decide) ?_)
  by_cases h : i < s.length
  · obtain ⟨x, hx, hdrop⟩ := drop_at h
    obtain ⟨r, w, o, hnx, hrn, ho, hw⟩ : ∃ (r : Int) (w : Nat) (o : Int), evNextS (.ptr 0 0) [.siter s i] = some (.tup [.bool true, .int .i64 (i : Int), .int .i32 r], [.siter s (i + w)]) ∧
        PureFn Tryz.prog 109 [.str cs, .int .i32 r] (.ret (.int .i64 o)) ∧ decide (o ≥ 0) = decide (x ∈ cs) ∧ (x ∉ cs → 1 ≤ w ∧ i + w ≤ s.length ∧ leadN cs (s.drop i) = w + leadN cs (s.drop (i + w))) := by
      rcases Nat.lt_or_ge x.toNat 128 with h1 | h1
      · refine ⟨_, 1, _, nextS_lo hx h1, rune_lo cs x h1, ixB_pos, fun hn => ⟨Nat.le_refl _, by omega, ?_⟩⟩
        rw [hdrop, leadN, if_neg hn]; omega
      · obtain ⟨d1, d2, d3, d4⟩ := dec_hi hx h1
        have hn : x ∉ cs := fun hm => by have := hcs x hm; omega
        refine ⟨_, _, -1, nextS_hi hx, rune_hi cs hcs hl _ d1, ?_, fun _ => ⟨d2, d3, leadN_skip hcs _ _ d3 d4⟩⟩
        rw [decide_eq_false hn]; rfl
    simp only [EOps, evNextB, gdA, callOf, isPanic, nextOf, altA, evalOp, St.ev, Av.get, St.put, thenQ, ↓reduceIte, List.getElem?_cons_zero, Option.map_some, hnx]
    refine .seq (.cond (t := true) rfl (.skip ?_))
    simp only [thenQ]
    refine .block (.seq (.region [] (by decide) ?_))
    simp only [EOps, gdA, callOf, isPanic, nextOf, altA, evalOp, St.ev, Av.get, St.put, thenQ, Nat.reduceEqDiff, ↓reduceIte, List.getElem?_cons_zero, List.getElem?_cons_succ, Option.map_some]
    refine .seq (.region [.pure (.ret (.int .i64 o))] (by decide) ?_)
    by_cases hm : x ∈ cs
    · rw [decide_eq_true hm] at ho
      simp only [EOps, gdA, callOf, isPanic, nextOf, altA, evalOp, St.ev, Av.get, St.put, ofV, thenQ, Nat.reduceEqDiff, ↓reduceIte, lend, AV.hfs, AV.hf, Bool.and_self, List.map_cons, List.map_nil, List.nil_append, List.append_nil, b_geq, ho]
      refine ⟨hrn, ?_⟩
      refine .cond (t := true) rfl (.seq (.region [] (by decide) ?_))
      simp only [EOps, gdA, callOf, isPanic, nextOf, altA, evalOp, St.ev, Av.get, St.put, thenQ, Nat.reduceEqDiff, ↓reduceIte]
      refine .ret ?_
      have : ixAny s cs = (i : Int) := by
        rw [hdrop, leadN, if_pos hm] at hall
        unfold ixAny; rw [if_pos (by omega)]; omega
      rw [this]
      exact ⟨_, rfl, _, rfl, .refl _⟩
    · rw [decide_eq_false hm] at ho
      obtain ⟨w1, w2, w3⟩ := hw hm
      simp only [EOps, gdA, callOf, isPanic, nextOf, altA, evalOp, St.ev, Av.get, St.put, ofV, thenQ, Nat.reduceEqDiff, ↓reduceIte, lend, AV.hfs, AV.hf, Bool.and_self, List.map_cons, List.map_nil, List.nil_append, List.append_nil, b_geq, ho]
      refine ⟨hrn, ?_⟩
      refine .cond (t := false) rfl (.skip ?_)
      simp only [thenQ, blockQ]
      refine ⟨i + w, ⟨w2, by omega⟩, by omega, ⟨rfl, rfl, trivial⟩, rfl, trivial⟩
  · have hi' : i = s.length := by omega
    subst hi'
    simp only [EOps, evNextB, gdA, callOf, isPanic, nextOf, altA, evalOp, St.ev, Av.get, St.put, thenQ, ↓reduceIte, List.getElem?_cons_zero, Option.map_some, nextS_end (Nat.le_refl s.length)]
    refine .seq (.cond (t := false) rfl (.exit ?_))
    simp only [thenQ, ↓reduceIte, blockQ]
    refine .seq (.region [] (by decide) ?_)
    simp only [EOps, gdA, callOf, isPanic, nextOf, altA, evalOp, St.ev, St.put, ofV, thenQ]
    refine .ret ?_
    have : ixAny s cs = -1 := by
      rw [List.drop_length] at hall
      simp only [leadN] at hall
      unfold ixAny; rw [if_neg (by omega)]
    rw [this]
    exact ⟨_, rfl, _, rfl, .refl _⟩
end Go.Proofs.YtjlhemfmeboadaaGreatDoor
namespace Go.Proofs.YtjlhemfmeboadaaGreatDoor
set_option linter.unusedVariables false
set_option linter.unusedSimpArgs false
open Go Go.Av Go.RowKit

def setL (f:Nat→Bool):List AV:=(List.range 256).map fun k=>.bool (f k)
theorem setL_len (f:Nat→Bool):(setL f).length = 256:=by simp [setL]
theorem setL_get (f:Nat→Bool) (i:Nat) (h:i < 256):(setL f)[i]? = some (.bool (f i)):=by simp [setL,List.getElem?_range h]
theorem setL_set (f g:Nat→Bool) (i:Nat) (hg:g i = true) (h:∀ k,k ≠ i→g k = f k):(setL f).set i (.bool true) = setL g:=by
 apply List.ext_getElem?
 intro k
 rw [List.getElem?_set]
 by_cases e:i = k
 ·subst e
  rw [if_pos rfl]
  by_cases hl:i < 256
  ·rw [if_pos (by rw [setL_len]; exact hl),setL_get g i hl,hg]
  ·rw [if_neg (by rw [setL_len]; exact hl),List.getElem?_eq_none (by rw [setL_len]; omega)]
 ·rw [if_neg e]
  by_cases hl:k < 256
  ·rw [setL_get f k hl,setL_get g k hl,h k (fun x=>e x.symm)]
  ·rw [List.getElem?_eq_none (by rw [setL_len]; omega),List.getElem?_eq_none (by rw [setL_len]; omega)]
theorem setL_hlts (m:Nat) (f:Nat→Bool):AV.hlts m (setL f) = true:=by rw [hlts_all,List.all_eq_true]; intro v hv; obtain ⟨k,_,rfl⟩:=List.mem_map.1 hv; rfl
theorem setL_hfs (f:Nat→Bool):AV.hfs (setL f) = true:=by rw [hfs_all,List.all_eq_true]; intro v hv; obtain ⟨k,_,rfl⟩:=List.mem_map.1 hv; rfl
theorem setL_isC (f:Nat→Bool):(setL f).all AV.isC = true:=by rw [List.all_eq_true]; intro v hv; obtain ⟨k,_,rfl⟩:=List.mem_map.1 hv; rfl
def inC (cs:Bytes) (k:Nat):Bool:=cs.any fun b=>b.toNat == k
theorem setZ:zeroA Tryz.prog 127 = some (.agg (setL fun _=>false)):=by kernel_rfl
theorem setLd (f:Nat→Bool) (b:Bool):evLoad Tryz.prog 127 (.ptr 0 0) [.cells (setL f) b] = some (.agg (setL f)):=by
 simp [ld127,ldG,setL_len,List.take_of_length_le]
theorem setC_all {cs:List AV} {l:List AV} (h:l.length = cs.length):setC cs 0 l = l:=by
 have:=setC_append [] l cs (Nat.le_of_eq h)
 simpa [h] using this
theorem setSt (f g:Nat→Bool) (b:Bool):evStore Tryz.prog 127 (.ptr 0 0) (.agg (setL g)) [.cells (setL f) b] = some [.cells (setL g) b]:=by
 simp [st127,stC,AV.cells,setL_len,setL_isC,setC_all (cs:=setL f) (l:=setL g) (by rw [setL_len,setL_len])]
theorem setIa (f:Nat→Bool) (b:Bool) (x:UInt8):evIndexAddr Tryz.prog 127 (.ptr 0 0) (.int .u8 x.toNat) [.cells (setL f) b] = some (.ptr 0 x.toNat):=by
 have:=x.toNat_lt
 simp [evIndexAddr,idx_nat,Tryz.underlying127,tz4,this]
theorem setSt1 (cs:Bytes) (i:Nat) (x:UInt8) (hx:cs[i]? = some x) (b:Bool):evStore Tryz.prog 4 (.ptr 0 x.toNat) (.bool true) [.cells (setL (inC (cs.take i))) b] = some [.cells (setL (inC (cs.take (i + 1)))) b]:=by
 have hlt:=x.toNat_lt
 have h1:(setL (inC (cs.take i))).set x.toNat (.bool true) = setL (inC (cs.take (i + 1))):=by
  refine setL_set _ _ _ ?_ ?_
  ·simp only [inC,List.take_add_one,hx,List.any_append]; simp
  ·intro k hk
   simp only [inC,List.take_add_one,hx,List.any_append,Option.toList_some,List.any_cons,List.any_nil,Bool.or_false]
   have:(x.toNat == k) = false:=by simp; omega
   rw [this,Bool.or_false]
 simp [st4,stC,AV.cells,AV.isC,setL_len,setC_one,h1]
 omega
set_option maxRecDepth 8000 in
theorem makeset (cs:Bytes) (hcs:∀ b ∈ cs,b.toNat < 128):PureFn Tryz.prog 111 [.str cs] (.ret (.tup [.agg (setL (inC cs)),.bool true])):=by
 refine PureFn.fit fun hfit=>?_
 have hL:cs.length≤maxLen':=hfit (.str cs) (by simp)
 refine PureFn.of Tryz.func111 rfl (enters_call enters Tryz.func111 rfl) (by simp [Tryz.ntmps111]) ?_
 show W Tryz.prog 21 0 none _ _ _
 refine .seq (.region [] (by decide) ?_)
 simp only [EOps,gdA,callOf,isPanic,nextOf,altA,evalOp,St.ev,St.put,argT,ofV,thenQ,List.nil_append,Option.map_some,setZ,AV.cells]
 refine .seq (.seq (.region [] (by decide) ?_))
 simp only [EOps,gdA,callOf,isPanic,nextOf,altA,evalOp,St.ev,St.put,ofV,thenQ]
 refine .block ?_
 refine .forR 4 9 10 11 0 cs.length hL (Nat.zero_le _) rfl rfl rfl rfl rfl rfl rfl rfl rfl (by decide)
  (fun i=>[(0,.str cs),(2,.ptr 0 0)]) (fun _=>rfl) (fun i=>[.cells (setL (inC (cs.take i))) false]) (fun _=>Nat.zero_le _) (fun i=>True) rfl trivial ?_ ?_ ?_ ?_ ?_ ?_
 ·simp only [subT,Av.get,Nat.reduceEqDiff,↓reduceIte,Le_rfl,nat0,nat1,and_self,List.length_nil]
 ·intro i _
  simp only [hltT,AV.hlt,AV.hlts,strs_hlts,Bool.and_self,Bool.and_true,Bool.true_and]
  rfl
 ·have:inC (cs.take 0) = fun _=>false:=by funext k; simp [inC]
  rw [this]
  exact subH_self (by simp [OB.hlt,setL_hlts])
 ·intro i hi _
  refine .region [] (by decide) ?_
  simp only [EOps,deN,gdA,callOf,isPanic,nextOf,altA,evalOp,St.ev,Av.get,St.put,thenQ,Nat.reduceEqDiff,↓reduceIte,Option.map_some,ls9,b_lss,dlt]
  refine ⟨trivial,?_,subH_self (by simp [OB.hlt,setL_hlts]),trivial⟩
  simp only [subT,Av.get,Nat.reduceEqDiff,↓reduceIte,Le_rfl,nat0,nat1,and_self]
 ·intro i hi _
  obtain ⟨u,hu,hdrop⟩:=drop_at hi
  have h8:=hcs u (List.mem_of_getElem? hu)
  have hge:decide ((u.toNat:Int) ≥ 128) = false:=decide_eq_false (by omega)
  refine .block (.seq (.region [] (by decide) ?_))
  simp only [EOps,gdA,callOf,isPanic,nextOf,altA,evalOp,St.ev,Av.get,St.put,thenQ,Nat.reduceEqDiff,↓reduceIte,Option.map_some,ix9 _ _ _ hu]
  refine .seq (.seq (.region [] (by decide) ?_))
  simp only [EOps,gdA,callOf,isPanic,nextOf,altA,evalOp,St.ev,Av.get,St.put,ofV,thenQ,↓reduceIte,b_geq,hge]
  refine .cond (t:=false) rfl (.skip ?_)
  simp only [thenQ]
  refine .region [] (by decide) ?_
  simp only [EOps,gdA,callOf,isPanic,nextOf,altA,evalOp,St.ev,Av.get,St.put,ofV,Nat.reduceEqDiff,↓reduceIte,Option.map_some,setIa,setSt1 cs i u hu]
  refine ⟨trivial,?_,subH_self (by simp [OB.hlt,setL_hlts]),rfl⟩
  simp only [subT,Av.get,Nat.reduceEqDiff,↓reduceIte,Le_rfl,nat0,nat1,and_self]
 ·intro _
  rw [List.take_length]
  simp only [thenQ,↓reduceIte,blockQ]
  refine .seq (.region [] (by decide) ?_)
  simp only [EOps,gdA,callOf,isPanic,nextOf,altA,evalOp,St.ev,Av.get,St.put,ofV,thenQ,Nat.reduceEqDiff,↓reduceIte,Option.map_some,setLd,setSt]
  exact .ret (retC2 2 127 3 rfl rfl (setLd _ _) rfl (setL_hfs _) rfl)
set_option maxRecDepth 8000 in
theorem setHas (f:Nat→Bool) (x:UInt8):PureFn Tryz.prog 112 [.vptr (setL f),.int .u8 x.toNat] (.ret (.bool (f x.toNat))):=by
 refine PureFn.of Tryz.func112 rfl (enters_call enters Tryz.func112 rfl) (by simp [Tryz.ntmps112]) ?_
 show W Tryz.prog 10 0 none _ _ _
 refine .vc (by decide) ?_
 have hlt:=x.toNat_lt
 have h1:evIndexAddr Tryz.prog 127 (.vptr (setL f)) (.int .u8 (x.toNat:Int)) [] = some (.vptr ((setL f).drop x.toNat)):=by
  simp [evIndexAddr,idx_nat,Tryz.underlying127,tz4,hlt]
 have h2:(setL f).drop x.toNat = .bool (f x.toNat)::(setL f).drop (x.toNat + 1):=by
  rw [List.drop_eq_getElem_cons (by rw [setL_len]; exact hlt)]
  have:=setL_get f x.toNat hlt
  rw [List.getElem?_eq_getElem (by rw [setL_len]; exact hlt)] at this
  rw [Option.some.inj this]
 repeat' (first | (simp (disch:=first | omega | (simp only [List.length_append,List.length_cons,List.length_nil,List.length_map,List.length_set]; omega)) only [VC_seq,VC_ret,VC_region,VO_nil,VO_plain,VV_some,VS,evNil,ofV_bool,callOf,isPanic,nextOf,altA,evalOp,ev_tmp,ev_const,Av.get,St.put,argT,thenQ,Nat.reduceEqDiff,↓reduceIte,Option.map_some,Nat.zero_add,lw4,h1,h2]))
 exact ⟨_,rfl,_,rfl,.refl _⟩
theorem inC_mem (cs:Bytes) (x:UInt8):inC cs x.toNat = decide (x ∈ cs):=by
 simp only [inC]
 rw [Bool.eq_iff_iff]
 simp only [List.any_eq_true,beq_iff_eq,decide_eq_true_eq]
 constructor
 ·rintro ⟨b,hb,he⟩
  have:b = x:=UInt8.toNat_inj.1 he
  exact this ▸ hb
 ·exact fun h=>⟨x,h,rfl⟩
set_option maxRecDepth 8000 in
theorem any_long (s cs:Bytes) (hcs:∀ b ∈ cs,b.toNat < 128) (h2:2≤cs.length) (h8:8 < s.length):PureFn Tryz.prog 92 [.str s,.str cs] (.ret (.int .i64 (ixAny s cs))):=by
 refine PureFn.fit fun hfit=>?_
 have hL:s.length≤9223372036854775807:=hfit (.str s) (by simp)
 refine PureFn.of Tryz.func92 rfl (enters_call enters Tryz.func92 rfl) (by simp [Tryz.ntmps92]) ?_
 show W Tryz.prog 55 0 none _ _ _
 refine .vc (by decide) ?_
 have e0:(cs == []) = false:=by cases cs with | nil=>simp at h2 | cons _ _=>rfl
 have x0:({ data:=#[] }:ByteArray).size≤maxLen':=by decide
 have hsh:=sets110 (s.length:Int)
 rw [decide_eq_true (show ((s.length:Int) > 8) by omega)] at hsh
 have hzs:=setZ
 repeat' (first | (simp (disch:=first | omega | (simp only [List.length_append,List.length_cons,List.length_nil,List.length_map,List.length_set]; omega)) only [VC_skip,VC_seq,VC_cond,VC_block,VC_region,VC_loop,VI_true,VI_false,VO_nil,VO_plain,VV_some,VS,ofV_int,ofV_lit,deN_str,callOf,isPanic,nextOf,altA,evalOp,ev_tmp,ev_const,ev_func,Av.get,St.put,argT,thenQ,Nat.reduceEqDiff,↓reduceIte,List.map_cons,List.map_nil,List.nil_append,List.append_nil,List.getElem?_cons_zero,List.getElem?_cons_succ,Option.map_some,cl_agg,List.length_nil,Nat.zero_add,b_eql,s_eql,ieq_f,ls9,x0,e0,hzs,setSt]) | (guard_target =~ VCall _ _ _ _ _ _ _; refine VCall.pure (by first | with_reducible exact hsh | with_reducible exact makeset _ hcs) (by (first | rfl | (simp only [AV.hfs,AV.hf,Bool.and_self,Bool.and_true,Bool.true_and,strs_hfs]))) ?_) | (guard_target =~ DCal _ _ _ _ _ _ _; refine DCal.pure (by first | with_reducible exact hsh | with_reducible exact makeset _ hcs) (by (first | rfl | (simp only [AV.hfs,AV.hf,Bool.and_self,Bool.and_true,Bool.true_and,strs_hfs]))) ?_))
 refine W.loopT (X:=Nat) (fun i=>[(8,.int .i64 (i:Int)),(6,.ptr 0 0),(0,.str s)]) (fun i=>[.cells (setL (inC cs)) false]) (fun i=>i≤s.length∧i + leadN cs (s.drop i) = leadN cs s) (fun i=>s.length - i) 0 ⟨Nat.zero_le _,by simp⟩
  (by simp [holdsT,Av.get]) rfl ?_
 rintro i ⟨hi,hall⟩
 refine W.vc (by decide) ?_
 by_cases h:i < s.length
 ·obtain ⟨x,hx,hdrop⟩:=drop_at h
  have hhas:=setHas (inC cs) x
  rw [inC_mem] at hhas
  have hln:lend [.cells (setL (inC cs)) false] [.ptr 0 0,.int .u8 (x.toNat:Int)] (.ret (.bool (decide (x ∈ cs)))) = some [.vptr (setL (inC cs)),.int .u8 (x.toNat:Int)]:=lend_ptr1 (off:=0) rfl (Nat.zero_le _) (setL_hfs _) rfl rfl
  rw [hdrop,leadN] at hall
  by_cases hm:x ∈ cs
  ·rw [decide_eq_true hm] at hhas hln
   rw [if_pos hm] at hall
   repeat' (first | (simp (disch:=first | omega | (simp only [List.length_append,List.length_cons,List.length_nil,List.length_map,List.length_set]; omega)) only [VC_skip,VC_seq,VC_cond,VC_block,VC_ret,VC_region,VI_true,VO_nil,VO_plain,VV_some,VS,blockQ,deN_str,callOf,isPanic,nextOf,altA,evalOp,ev_tmp,ev_func,Av.get,St.put,thenQ,Nat.reduceEqDiff,↓reduceIte,List.map_cons,List.map_nil,List.nil_append,List.append_nil,Option.map_some,b_lss,decide_eq_true,ls9,ix9 _ _ _ hx]) | (guard_target =~ VCall _ _ _ _ _ _ _; refine VCall.lend _ hhas hln ?_))
   have:ixAny s cs = (i:Int):=by unfold ixAny; rw [if_pos (by omega)]; omega
   rw [this]
   exact ⟨_,rfl,_,rfl,.refl _⟩
  ·rw [decide_eq_false hm] at hhas hln
   rw [if_neg hm] at hall
   repeat' (first | (simp (disch:=first | omega | (simp only [List.length_append,List.length_cons,List.length_nil,List.length_map,List.length_set]; omega)) only [VC_skip,VC_seq,VC_cond,VC_block,VC_region,VI_true,VI_false,VO_nil,VO_plain,VV_some,VS,blockQ,ofV_int,deN_str,callOf,isPanic,nextOf,altA,evalOp,ev_tmp,ev_const,ev_func,Av.get,St.put,thenQ,Nat.reduceEqDiff,↓reduceIte,List.map_cons,List.map_nil,List.nil_append,List.append_nil,Option.map_some,and_self,and_true,b_lss,b_add64,castS,decide_eq_true,ls9,ix9 _ _ _ hx]) | (guard_target =~ VCall _ _ _ _ _ _ _; refine VCall.lend _ hhas hln ?_))
   exact ⟨i + 1,⟨by omega,by omega⟩,by omega,⟨rfl,rfl,rfl,trivial⟩⟩
 ·have hi':i = s.length:=by omega
  subst hi'
  repeat' (first | (simp (disch:=first | omega | (simp only [List.length_append,List.length_cons,List.length_nil,List.length_map,List.length_set]; omega)) only [VC_seq,VC_cond,VC_exit,VC_ret,VC_region,VI_false,VO_nil,VO_plain,VV_some,VS,blockQ,ofV_int,deN_str,callOf,isPanic,nextOf,altA,evalOp,ev_tmp,ev_const,Av.get,St.put,thenQ,Nat.reduceEqDiff,↓reduceIte,Option.map_some,b_lss,decide_eq_false,ls9]))
  have:ixAny s cs = -1:=by
   rw [List.drop_length] at hall
   simp only [leadN] at hall
   unfold ixAny; rw [if_neg (by omega)]
  rw [this]
  exact ⟨_,rfl,_,rfl,.refl _⟩
theorem any_all (s cs:Bytes) (hcs:∀ b ∈ cs,b.toNat < 128) (h2:2≤cs.length) (hl:cs.length≤1000):PureFn Tryz.prog 92 [.str s,.str cs] (.ret (.int .i64 (ixAny s cs))):=by
 rcases Nat.lt_or_ge 8 s.length with h | h
 ·exact any_long s cs hcs h2 h
 ·exact any_short s cs hcs h2 hl h
theorem containsAny (s cs:Bytes) (hcs:∀ b ∈ cs,b.toNat < 128) (h2:2≤cs.length) (hl:cs.length≤1000):PureFn Tryz.prog 100 [.str s,.str cs] (.ret (.bool (decide (ixAny s cs ≥ 0)))):=by
 refine PureFn.of Tryz.func100 rfl (enters_call enters Tryz.func100 rfl) (by simp [Tryz.ntmps100]) ?_
 show W Tryz.prog 9 0 none _ _ _
 refine W.vc (by decide) ?_
 repeat' (first | (simp (disch:=first | omega | (simp only [List.length_append,List.length_cons,List.length_nil,List.length_map,List.length_set]; omega)) only [VC_seq,VC_ret,VC_region,VO_nil,VO_plain,VV_some,VS,ofV_bool,ofV_int,callOf,isPanic,nextOf,altA,evalOp,ev_tmp,ev_const,ev_func,Av.get,St.put,argT,thenQ,Nat.reduceEqDiff,↓reduceIte,List.map_cons,List.map_nil,List.nil_append,List.append_nil,Nat.zero_add,b_geq]) | (guard_target =~ VCall _ _ _ _ _ _ _; refine VCall.pure (by first | with_reducible exact any_all _ _ hcs h2 hl) (by (first | rfl | (simp only [AV.hfs,AV.hf,Bool.and_self,Bool.and_true,Bool.true_and,strs_hfs]))) ?_) | (guard_target =~ DCal _ _ _ _ _ _ _; refine DCal.pure (by first | with_reducible exact any_all _ _ hcs h2 hl) (by (first | rfl | (simp only [AV.hfs,AV.hf,Bool.and_self,Bool.and_true,Bool.true_and,strs_hfs]))) ?_))
 exact ⟨_,rfl,_,rfl,.refl _⟩
def quotesB (s:Bytes):Bool:=s.any fun b=>b == 58 || b == 59 || b == 44
theorem any_lead (cs:Bytes):∀ s:Bytes,decide (leadN cs s < s.length) = s.any fun b=>decide (b ∈ cs)
 | []=>by simp [leadN]
 | x::t=>by
  rw [List.any_cons,← any_lead cs t,leadN]
  by_cases h:x ∈ cs
  ·simp [h]
  ·simp [h]
theorem quotesV (s:Bytes):PureFn Tryz.prog 79 [.str s] (.ret (.bool (quotesB s))):=by
 refine PureFn.of Tryz.func79 rfl (enters_call enters Tryz.func79 rfl) (by simp [Tryz.ntmps79]) ?_
 show W Tryz.prog 5 0 none _ _ _
 refine W.vc (by decide) ?_
 have x0:({ data:=#[58,59,44] }:ByteArray).size≤maxLen':=by decide
 have hq:decide (ixAny s [58,59,44] ≥ 0) = quotesB s:=by
  have:decide (ixAny s [58,59,44] ≥ 0) = decide (leadN [58,59,44] s < s.length):=by
   unfold ixAny; split
   ·rename_i h; simp [h]
   ·rename_i h; simp [h]
  rw [this,any_lead]
  unfold quotesB
  congr 1; funext b
  rw [Bool.eq_iff_iff]; simp [or_assoc]
 have hc:=containsAny s [58,59,44] (by decide) (by decide) (by decide)
 rw [hq] at hc
 repeat' (first | (simp (disch:=first | omega | (simp only [List.length_append,List.length_cons,List.length_nil,List.length_map,List.length_set]; omega)) only [VC_seq,VC_ret,VC_region,VO_nil,VO_plain,VV_some,VS,ofV_bool,ofV_lit,callOf,isPanic,nextOf,altA,evalOp,ev_tmp,ev_const,ev_func,Av.get,St.put,argT,thenQ,Nat.reduceEqDiff,↓reduceIte,List.map_cons,List.map_nil,List.nil_append,List.append_nil,x0]) | (guard_target =~ VCall _ _ _ _ _ _ _; refine VCall.pure (by first | with_reducible exact hc) (by (first | rfl | (simp only [AV.hfs,AV.hf,Bool.and_self,Bool.and_true,Bool.true_and,strs_hfs]))) ?_) | (guard_target =~ DCal _ _ _ _ _ _ _; refine DCal.pure (by first | with_reducible exact hc) (by (first | rfl | (simp only [AV.hfs,AV.hf,Bool.and_self,Bool.and_true,Bool.true_and,strs_hfs]))) ?_))
 exact ⟨_,rfl,_,rfl,.refl _⟩
end Go.Proofs.YtjlhemfmeboadaaGreatDoor

namespace Go.Proofs
set_option linter.unusedVariables false
set_option linter.unusedSimpArgs false
open Go.Shelf
open Go.Shelf
def Tryz.lays158_ren:Go.Shelf.Ren:=⟨fun | 158=>99 | 165=>120 | 166=>121 | 167=>122 | 169=>123 | 230=>124 | 203=>125 | 240=>142 | 241=>143 | 197=>144 | 118=>145 | 168=>146 | 270=>147 | 262=>148 | 276=>162 | 277=>163 | 260=>164 | 242=>165 | 313=>166 | 278=>174 | 274=>175 | 275=>176 | n=>n,fun | 9=>9 | 4=>4 | 3=>3 | 5=>5 | 72=>146 | 0=>0 | 76=>150 | 75=>149 | 107=>154 | 70=>144 | 20=>20 | 37=>42 | 127=>174 | 21=>21 | 105=>175 | 164=>188 | 162=>199 | 203=>197 | 119=>137 | 46=>158 | 139=>205 | 138=>204 | 51=>92 | 160=>206 | 208=>212 | 206=>210 | 80=>81 | n=>n,fun | 13=>1 | 3=>2 | 4=>3 | n=>n⟩
theorem Tryz.lays158:Go.Proofs.Lays.n158 Tryz.prog Tryz.lays158_ren:={
 mixed:=by kernel_rfl
 f118:=Tryz.func145.trans (congrArg some (by kernel_rfl))
 f158:=Tryz.func99.trans (congrArg some (by kernel_rfl))
 f165:=Tryz.func120.trans (congrArg some (by kernel_rfl))
 f166:=Tryz.func121.trans (congrArg some (by kernel_rfl))
 f167:=Tryz.func122.trans (congrArg some (by kernel_rfl))
 f168:=Tryz.func146.trans (congrArg some (by kernel_rfl))
 f169:=Tryz.func123.trans (congrArg some (by kernel_rfl))
 f197:=Tryz.func144.trans (congrArg some (by kernel_rfl))
 f203:=Tryz.func125.trans (congrArg some (by kernel_rfl))
 f230:=Tryz.func124.trans (congrArg some (by kernel_rfl))
 f240:=Tryz.func142.trans (congrArg some (by kernel_rfl))
 f241:=Tryz.func143.trans (congrArg some (by kernel_rfl))
 f242:=Tryz.func165.trans (congrArg some (by kernel_rfl))
 f260:=Tryz.func164.trans (congrArg some (by kernel_rfl))
 f262:=Tryz.func148.trans (congrArg some (by kernel_rfl))
 f270:=Tryz.func147.trans (congrArg some (by kernel_rfl))
 f274:=Tryz.func175.trans (congrArg some (by kernel_rfl))
 f275:=Tryz.func176.trans (congrArg some (by kernel_rfl))
 f276:=Tryz.func162.trans (congrArg some (by kernel_rfl))
 f277:=Tryz.func163.trans (congrArg some (by kernel_rfl))
 f278:=Tryz.func174.trans (congrArg some (by kernel_rfl))
 f313:=Tryz.func166.trans (congrArg some (by kernel_rfl))
 t0:=Tryz.underlying0
 a0:=Tryz.isAgg0
 z0:=Tryz.sizeOf0
 v0:=Tryz.zeroValue0
 t3:=Tryz.underlying3
 a3:=Tryz.isAgg3
 z3:=Tryz.sizeOf3
 v3:=Tryz.zeroValue3
 t4:=Tryz.underlying4
 a4:=Tryz.isAgg4
 z4:=Tryz.sizeOf4
 v4:=Tryz.zeroValue4
 t5:=Tryz.underlying5
 a5:=Tryz.isAgg5
 z5:=Tryz.sizeOf5
 v5:=Tryz.zeroValue5
 t9:=Tryz.underlying9
 a9:=Tryz.isAgg9
 z9:=Tryz.sizeOf9
 v9:=Tryz.zeroValue9
 t20:=Tryz.underlying20
 a20:=Tryz.isAgg20
 z20:=Tryz.sizeOf20
 v20:=Tryz.zeroValue20
 t21:=Tryz.underlying21
 a21:=Tryz.isAgg21
 z21:=Tryz.sizeOf21
 v21:=Tryz.zeroValue21
 t37:=Tryz.underlying42
 a37:=Tryz.isAgg42
 z37:=Tryz.sizeOf42
 v37:=Tryz.zeroValue42
 t46:=Tryz.underlying158
 a46:=Tryz.isAgg158
 z46:=Tryz.sizeOf158
 v46:=Tryz.zeroValue158
 t51:=Tryz.underlying92
 a51:=Tryz.isAgg92
 z51:=Tryz.sizeOf92
 v51:=Tryz.zeroValue92
 t70:=Tryz.underlying144
 a70:=Tryz.isAgg144
 z70:=Tryz.sizeOf144
 v70:=Tryz.zeroValue144
 t72:=Tryz.underlying146
 a72:=Tryz.isAgg146
 z72:=Tryz.sizeOf146
 v72:=Tryz.zeroValue146
 t75:=Tryz.underlying149
 a75:=Tryz.isAgg149
 z75:=Tryz.sizeOf149
 v75:=Tryz.zeroValue149
 t76:=Tryz.underlying150
 a76:=Tryz.isAgg150
 z76:=Tryz.sizeOf150
 v76:=Tryz.zeroValue150
 t105:=Tryz.underlying175
 a105:=Tryz.isAgg175
 z105:=Tryz.sizeOf175
 v105:=Tryz.zeroValue175
 t107:=Tryz.underlying154
 a107:=Tryz.isAgg154
 z107:=Tryz.sizeOf154
 v107:=Tryz.zeroValue154
 t119:=Tryz.underlying137
 a119:=Tryz.isAgg137
 z119:=Tryz.sizeOf137
 t127:=Tryz.underlying174
 a127:=Tryz.isAgg174
 z127:=Tryz.sizeOf174
 v127:=Tryz.zeroValue174
 t138:=Tryz.underlying204
 a138:=Tryz.isAgg204
 z138:=Tryz.sizeOf204
 v138:=Tryz.zeroValue204
 t139:=Tryz.underlying205
 a139:=Tryz.isAgg205
 z139:=Tryz.sizeOf205
 v139:=Tryz.zeroValue205
 t160:=Tryz.underlying206
 a160:=Tryz.isAgg206
 z160:=Tryz.sizeOf206
 v160:=Tryz.zeroValue206
 t162:=Tryz.underlying199
 a162:=Tryz.isAgg199
 z162:=Tryz.sizeOf199
 v162:=Tryz.zeroValue199
 t164:=Tryz.underlying188
 a164:=Tryz.isAgg188
 z164:=Tryz.sizeOf188
 v164:=Tryz.zeroValue188
 t203:=Tryz.underlying197
 a203:=Tryz.isAgg197
 z203:=Tryz.sizeOf197
 v203:=Tryz.zeroValue197
 t206:=Tryz.underlying210
 a206:=Tryz.isAgg210
 z206:=Tryz.sizeOf210
 v206:=Tryz.zeroValue210
 t208:=Tryz.underlying212
 a208:=Tryz.isAgg212
 z208:=Tryz.sizeOf212
 v208:=Tryz.zeroValue212
 g3:=by kernel_rfl
 g4:=by kernel_rfl
 g13:=by kernel_rfl }
theorem Tryz.Builder_Extra_158:Builder.Extra Tryz.prog Tryz.lays158_ren:={
 sizeBuilder:=by kernel_rfl
 liesBuilder:=by kernel_rfl
 t5:=Tryz.underlying5
 a5:=Tryz.isAgg5
 z5:=Tryz.sizeOf5
 v5:=Tryz.zeroValue5
 infoByte:=by kernel_rfl
 cellsByte:=by kernel_rfl
 sizeByte:=by kernel_rfl
 neB5:=by decide }
open Go.RowKit in
theorem Tryz.strings_ToUpper_ascii (s : ByteArray) (w : World) (hs : s.size ≤ 140737488355328) (hascii : ∀ (j : Nat) (b : UInt8), s.data.toList[j]? = some b → b.toNat < 128) :
    Calls Tryz.prog 99 #[.string s] w fun e w' => e = .returned (.string ⟨(Lib.toUpperA s.data.toList).toArray⟩) ∧ Below w.heap.size w w' := Any.strings_ToUpper_ascii Tryz.lays158 Tryz.Builder_Extra_158 s w hs hascii
def Tryz.lays138_ren:Go.Shelf.Ren:=⟨fun | 138=>204 | 195=>205 | 218=>206 | 143=>207 | 219=>113 | 217=>134 | 225=>133 | 224=>132 | 267=>135 | 266=>150 | 314=>151 | n=>n,fun | 9=>9 | 3=>3 | 4=>4 | 5=>5 | 0=>0 | 46=>158 | 146=>182 | 51=>92 | n=>n,fun | 1=>0 | n=>n⟩
theorem Tryz.lays138:Go.Proofs.Lays.n138 Tryz.prog Tryz.lays138_ren:={
 mixed:=by kernel_rfl
 f138:=Tryz.func204.trans (congrArg some (by kernel_rfl))
 f143:=Tryz.func207.trans (congrArg some (by kernel_rfl))
 f195:=Tryz.func205.trans (congrArg some (by kernel_rfl))
 f217:=Tryz.func134.trans (congrArg some (by kernel_rfl))
 f218:=Tryz.func206.trans (congrArg some (by kernel_rfl))
 f219:=Tryz.func113.trans (congrArg some (by kernel_rfl))
 f224:=Tryz.func132.trans (congrArg some (by kernel_rfl))
 f225:=Tryz.func133.trans (congrArg some (by kernel_rfl))
 f266:=Tryz.func150.trans (congrArg some (by kernel_rfl))
 f267:=Tryz.func135.trans (congrArg some (by kernel_rfl))
 f314:=Tryz.func151.trans (congrArg some (by kernel_rfl))
 t0:=Tryz.underlying0
 a0:=Tryz.isAgg0
 z0:=Tryz.sizeOf0
 v0:=Tryz.zeroValue0
 t3:=Tryz.underlying3
 a3:=Tryz.isAgg3
 z3:=Tryz.sizeOf3
 v3:=Tryz.zeroValue3
 t4:=Tryz.underlying4
 a4:=Tryz.isAgg4
 z4:=Tryz.sizeOf4
 v4:=Tryz.zeroValue4
 t5:=Tryz.underlying5
 a5:=Tryz.isAgg5
 z5:=Tryz.sizeOf5
 v5:=Tryz.zeroValue5
 t9:=Tryz.underlying9
 a9:=Tryz.isAgg9
 z9:=Tryz.sizeOf9
 v9:=Tryz.zeroValue9
 t46:=Tryz.underlying158
 a46:=Tryz.isAgg158
 z46:=Tryz.sizeOf158
 v46:=Tryz.zeroValue158
 t51:=Tryz.underlying92
 a51:=Tryz.isAgg92
 z51:=Tryz.sizeOf92
 v51:=Tryz.zeroValue92
 t146:=Tryz.underlying182
 a146:=Tryz.isAgg182
 z146:=Tryz.sizeOf182
 v146:=Tryz.zeroValue182
 g1:=by kernel_rfl }
open Go.RowKit Go.Lib in
theorem Tryz.strings_Count_one (s : ByteArray) (c : UInt8) (w : World) :
    Calls Tryz.prog 204 #[.string s, .string ⟨#[c]⟩] w fun e w' => e = .returned (.int .i64 (Lib.countByte s.data.toList c)) ∧ w' = w := Any.strings_Count_one Tryz.lays138 s c w
end Go.Proofs
namespace Go.Proofs.YtjlhemfmeboadaaGreatDoor
set_option linter.unusedVariables false
set_option linter.unusedSimpArgs false
open Go Go.Av Go.RowKit

theorem u8_all (p:UInt8→Bool) (h:(List.range 256).all (fun n=>p (UInt8.ofNat n)) = true) (x:UInt8):p x = true:=by
 have:=List.all_eq_true.1 h x.toNat (List.mem_range.2 x.toNat_lt)
 simpa using this
def up (x:UInt8):UInt8:=if 97≤x∧x≤122 then x - 32 else x
def great (s:Bytes):Bytes:=s.map up
def ascii (s:Bytes):Bool:=s.all fun b=>decide (b.toNat < 128)
theorem great_len (s:Bytes):(great s).length = s.length:=by simp [great]
theorem up_low (x:UInt8):Lib.upperB (low x) = up x:=by
 have:=u8_all (fun x=>Lib.upperB (low x) == up x) (by decide +kernel) x
 simpa using this
theorem low_lt (x:UInt8):(low x).toNat < 128↔x.toNat < 128:=by
 have:=u8_all (fun x=>decide ((low x).toNat < 128) == decide (x.toNat < 128)) (by decide +kernel) x
 simpa using this
theorem upperV (s:Bytes) (hs:s.length≤1000000) (ha:ascii s = true):PureFn Tryz.prog 99 [.str s] (.ret (.str (Lib.toUpperA s))):=by
 refine PureFn.ofCalls enters Tryz.func99 rfl strs1_vals (fun w=>Tryz.strings_ToUpper_ascii ⟨s.toArray⟩ w (by show s.toArray.size≤_; simp; omega) ?_) ?_
 ·intro j b hb
  simp only [ascii,List.all_eq_true,decide_eq_true_eq] at ha
  exact ha b (List.mem_of_getElem? (by simpa using hb))
 ·intro F w
  exact .str _ (by simp [Lib.toUpperA,maxLen']; omega)
theorem greatV (s:Bytes) (hs:s.length≤1000000) (ha:ascii s = true):PureFn Tryz.prog 78 [.str s] (.ret (.str (great s))):=by
 refine PureFn.of Tryz.func78 rfl (enters_call enters Tryz.func78 rfl) (by simp [Tryz.ntmps78]) ?_
 show W Tryz.prog 6 0 none _ _ _
 refine W.vc (by decide) ?_
 have hl:(small s).length = s.length:=by simp [small]
 have ha2:ascii (small s) = true:=by
  simp only [ascii,small,List.all_map,List.all_eq_true,Function.comp,decide_eq_true_eq] at ha ⊢
  exact fun x hx=>(low_lt x).2 (ha x hx)
 have he:Lib.toUpperA (small s) = great s:=by
  simp only [Lib.toUpperA,small,great,List.map_map]
  congr 1; funext x; exact up_low x
 have hu:=upperV (small s) (by omega) ha2
 rw [he] at hu
 repeat' (first | (simp (disch:=first | omega | (simp only [List.length_append,List.length_cons,List.length_nil,List.length_map,List.length_set]; omega)) only [VC_seq,VC_ret,VC_region,VO_nil,VO_plain,VV_some,VS,ofV_lit,callOf,isPanic,nextOf,altA,evalOp,ev_tmp,ev_const,ev_func,Av.get,St.put,argT,thenQ,Nat.reduceEqDiff,↓reduceIte,List.map_cons,List.map_nil,List.nil_append,List.append_nil]) | (guard_target =~ VCall _ _ _ _ _ _ _; refine VCall.pure (by first | with_reducible exact smallD _ | with_reducible exact hu) (by (first | rfl | (simp only [AV.hfs,AV.hf,Bool.and_self,Bool.and_true,Bool.true_and,strs_hfs]))) ?_) | (guard_target =~ DCal _ _ _ _ _ _ _; refine DCal.pure (by first | with_reducible exact smallD _ | with_reducible exact hu) (by (first | rfl | (simp only [AV.hfs,AV.hf,Bool.and_self,Bool.and_true,Bool.true_and,strs_hfs]))) ?_))
 exact ⟨_,rfl,_,rfl,.refl _⟩
/-! ### A line's text -/
def qv (v:Bytes):Bytes:=if quotesB v then [34]++v++[34] else v
def parT (p:Bytes × Bytes):Bytes:=[59]++great p.1++[61]++qv p.2
def parsT (ps:List (Bytes × Bytes)):Bytes:=(ps.map parT).flatten
def headT (l:Ln):Bytes:=if l.g = [] then great l.n else great l.g++[46]++great l.n
def told (l:Ln):Bytes:=headT l++parsT l.ps++[58]++l.v
theorem parsT_snoc (ps:List (Bytes × Bytes)) (p:Bytes × Bytes):parsT (ps++[p]) = parsT ps++parT p:=by simp [parsT]
theorem parsT_take {ps:List (Bytes × Bytes)} {i:Nat} {p:Bytes × Bytes} (h:ps[i]? = some p):parsT (ps.take (i + 1)) = parsT (ps.take i)++parT p:=by
 rw [List.take_add_one,h]; exact parsT_snoc _ _
theorem parsT_le:∀ (ps:List (Bytes × Bytes)) (i:Nat),(parsT (ps.take i)).length≤(parsT ps).length
 | [],i=>by simp
 | x::l,0=>by simp [parsT]
 | x::l,i + 1=>by
  have:=parsT_le l i
  simp only [parsT,List.take_succ_cons,List.map_cons,List.flatten_cons,List.length_append] at this ⊢
  omega
def plainL (l:Ln):Bool:=ascii l.g && ascii l.n && l.ps.all (fun p=>ascii p.1) && decide ((told l).length≤1000000)
theorem qv_len (v:Bytes):v.length≤(qv v).length:=by unfold qv; split<;>simp<;>omega
set_option maxRecDepth 8000 in
theorem toldV (l:Ln) (hp:plainL l = true):PureFn Tryz.prog 54 [encLn l] (.ret (.str (told l))):=by
 obtain ⟨g,n,x,ps,v⟩:=l
 simp only [plainL,Bool.and_eq_true,decide_eq_true_eq] at hp
 obtain ⟨⟨⟨h1,h2⟩,h3⟩,h4⟩:=hp
 rw [List.all_eq_true] at h3
 simp only [told,List.length_append,List.length_cons,List.length_nil] at h4
 have hgl:g.length + n.length≤1000000:=by
  have:(headT ⟨g,n,x,ps,v⟩).length ≥ g.length + n.length:=by unfold headT; simp only; split<;>simp_all [great_len]
  omega
 have hps:ps.length≤maxLen':=by
  have:∀ ps:List (Bytes × Bytes),ps.length≤(parsT ps).length:=by
   intro ps; induction ps with
   | nil=>simp
   | cons a ps ih=>simp only [parsT,List.map_cons,List.flatten_cons,List.length_append,List.length_cons,parT,List.length_nil] at ih ⊢; omega
  have:=this ps
  simp only [maxLen']; omega
 refine PureFn.of Tryz.func54 rfl (enters_call enters Tryz.func54 rfl) (by simp [Tryz.ntmps54]) ?_
 show W Tryz.prog 48 0 none _ _ _
 simp only [encLn]
 have hg:=greatV g (by omega) h1
 have hn:=greatV n (by omega) h2
 have hia:∀ (i:Nat) (u:Bytes × Bytes) (H:List OB),ps[i]? = some u→evIndexAddr Tryz.prog 43 (.vsl 3 x (ps.map encR)) (.int .i64 (i:Int)) H = some (.vptr [.str u.1,.str u.2]):=by
  intro i u H hu
  exact iv43 (v:=encR u) (by simp [hu]) rfl H
 refine .seq (.vc (by decide) ?_)
 repeat' (first | (simp (disch:=first | omega | (simp only [List.length_append,List.length_cons,List.length_nil,List.length_map,List.length_set]; omega)) only [VC_region,VO_nil,VO_plain,VV_some,VS,AV.told,ofV_lit,callOf,isPanic,nextOf,altA,evalOp,ev_tmp,ev_const,Av.get,St.put,argT,thenQ,↓reduceIte,List.nil_append,cl_agg,List.length_nil]))
 refine .seq (.vc (by decide) ?_)
 repeat' (first | (simp (disch:=first | omega | (simp only [List.length_append,List.length_cons,List.length_nil,List.length_map,List.length_set]; omega)) only [VC_region,VO_nil,VO_plain,VV_some,VS,callOf,isPanic,nextOf,altA,evalOp,ev_tmp,ev_func,Av.get,St.put,thenQ,Nat.reduceEqDiff,↓reduceIte,List.map_cons,List.map_nil,List.nil_append,List.append_nil,List.getElem?_cons_zero,List.getElem?_cons_succ,Option.map_some,ldC,Nat.zero_add,ld9,fa45_1]) | (guard_target =~ VCall _ _ _ _ _ _ _; refine VCall.pure (by first | with_reducible exact hg | with_reducible exact hn) (by (first | rfl | (simp only [AV.hfs,AV.hf,Bool.and_self,Bool.and_true,Bool.true_and,strs_hfs]))) ?_) | (guard_target =~ DCal _ _ _ _ _ _ _; refine DCal.pure (by first | with_reducible exact hg | with_reducible exact hn) (by (first | rfl | (simp only [AV.hfs,AV.hf,Bool.and_self,Bool.and_true,Bool.true_and,strs_hfs]))) ?_))
 refine W.seqT [(1,.ptr 0 0),(3,.str (headT ⟨g,n,x,ps,v⟩))] [.cells [.str g,.str n,.vsl 3 x (ps.map encR),.str v] false] (.vc (by decide) ?_) ?_
 ·have:=great_len g; have:=great_len n
  by_cases h0:g = []
  ·have e0:(g == []) = true:=by simp [h0]
   repeat' (first | (simp (disch:=first | omega | (simp only [List.length_append,List.length_cons,List.length_nil,List.length_map,List.length_set]; omega)) only [VC_skip,VC_seq,VC_cond,VC_region,VI_false,VO_nil,VO_plain,VV_some,VS,ofV_lit,callOf,isPanic,nextOf,altA,evalOp,ev_tmp,ev_const,Av.get,St.put,thenQ,Nat.reduceEqDiff,↓reduceIte,List.getElem?_cons_zero,Option.map_some,Bool.not_true,ldC,and_self,and_true,Nat.add_zero,s_neq,ld9,fa45_0,e0]))
   refine ⟨rfl,?_,trivial⟩
   simp [Av.get,headT,h0]
  ·have e0:(g == []) = false:=by simp [h0]
   repeat' (first | (simp (disch:=first | omega | (simp only [List.length_append,List.length_cons,List.length_nil,List.length_map,List.length_set]; omega)) only [VC_seq,VC_cond,VC_region,VI_true,VO_nil,VO_plain,VV_some,VS,ofV_lit,saddL,callOf,isPanic,nextOf,altA,evalOp,ev_tmp,ev_const,ev_func,Av.get,St.put,thenQ,Nat.reduceEqDiff,↓reduceIte,List.map_cons,List.map_nil,List.nil_append,List.append_nil,List.getElem?_cons_zero,Option.map_some,Bool.not_false,ldC,and_self,and_true,Nat.add_zero,s_neq,ld9,fa45_0,e0]) | (guard_target =~ VCall _ _ _ _ _ _ _; refine VCall.pure (by first | with_reducible exact hg) (by (first | rfl | (simp only [AV.hfs,AV.hf,Bool.and_self,Bool.and_true,Bool.true_and,strs_hfs]))) ?_) | (guard_target =~ DCal _ _ _ _ _ _ _; refine DCal.pure (by first | with_reducible exact hg) (by (first | rfl | (simp only [AV.hfs,AV.hf,Bool.and_self,Bool.and_true,Bool.true_and,strs_hfs]))) ?_))
   refine ⟨rfl,?_,trivial⟩
   simp [Av.get,headT,h0]
 refine .vc (by decide) ?_
 repeat' (first | (simp (disch:=first | omega | (simp only [List.length_append,List.length_cons,List.length_nil,List.length_map,List.length_set]; omega)) only [VC_seq,VC_block,VC_region,VC_loop,VO_nil,VO_plain,VV_some,VS,List.length_map,ofV_int,deN_vsl,callOf,isPanic,nextOf,altA,evalOp,ev_tmp,ev_const,Av.get,St.put,thenQ,↓reduceIte,List.getElem?_cons_zero,List.getElem?_cons_succ,Option.map_some,ldC,Nat.zero_add,ld43,lv43,fa45_2]))
 refine W.forG 22 21 23 42 ps.length hps rfl rfl rfl rfl rfl rfl rfl rfl rfl (by decide) (by decide) (by decide)
  (fun i=>[(20,.vsl 3 x (ps.map encR)),(3,.str (headT ⟨g,n,x,ps,v⟩++parsT (ps.take i))),(1,.ptr 0 0)]) (fun _=>rfl) (fun _=>[.cells [.str g,.str n,.vsl 3 x (ps.map encR),.str v] false]) (fun _=>Nat.zero_le _) (fun i=>True) rfl trivial ?_ ?_ (subH_self (by simp [OB.hlt,AV.hlts,AV.hlt,encR_hlts])) ?_ ?_
 ·simp only [List.take_zero,parsT,List.map_nil,List.flatten_nil,List.append_nil]
  simp only [subT,Av.get,Nat.reduceEqDiff,↓reduceIte,Le_rfl,nat0,nat1,and_self,List.length_map]
 ·intro i _
  simp only [hltT,AV.hlt,AV.hlts,strs_hlts,Bool.and_self,Bool.and_true,Bool.true_and,encR_hlts]
  rfl
 ·intro i hi _
  obtain ⟨u,hu,hdrop⟩:=drop_at hi
  have hle:=parsT_le ps (i + 1)
  rw [parsT_take hu] at hle
  simp only [List.length_append,parT,List.length_cons,List.length_nil,great_len] at hle
  have hql:=qv_len u.2
  have hmu:u ∈ ps:=List.mem_of_getElem? hu
  have hgu:=greatV u.1 (by omega) (h3 u hmu)
  have hqu:=quotesV u.2
  have hgl:=great_len u.1
  refine .vc (by decide) ?_
  by_cases hq:quotesB u.2 = true
  ·rw [hq] at hqu
   have hqq:qv u.2 = [34]++u.2++[34]:=by simp [qv,hq]
   repeat' (first | (simp (disch:=first | omega | (simp only [List.length_append,List.length_cons,List.length_nil,List.length_map,List.length_set]; omega)) only [VC_seq,VC_cond,VC_block,VC_region,VI_true,VO_nil,VO_plain,VV_some,VS,blockQ,ofV_lit,saddL,callOf,isPanic,nextOf,altA,evalOp,ev_tmp,ev_const,ev_func,Av.get,St.put,thenQ,Nat.reduceEqDiff,↓reduceIte,Bool.and_self,List.map_cons,List.map_nil,List.nil_append,List.append_nil,List.getElem?_cons_zero,List.getElem?_cons_succ,Option.map_some,ldC,stC,ic_str,cl_agg,setC,List.set_cons_zero,List.set_cons_succ,List.length_cons,List.length_nil,Nat.reduceAdd,List.all_cons,List.all_nil,and_self,true_and,and_true,Nat.add_zero,Nat.zero_add,List.take_succ_cons,List.take_zero,Nat.le_refl,List.cons_append,ld9,st54,lw54,fa54_0,fa54_1,zz54,hia i u _ hu]) | (guard_target =~ VCall _ _ _ _ _ _ _; refine VCall.pure (by first | with_reducible exact hgu | with_reducible exact hqu) (by (first | rfl | (simp only [AV.hfs,AV.hf,Bool.and_self,Bool.and_true,Bool.true_and,strs_hfs]))) ?_) | (guard_target =~ DCal _ _ _ _ _ _ _; refine DCal.pure (by first | with_reducible exact hgu | with_reducible exact hqu) (by (first | rfl | (simp only [AV.hfs,AV.hf,Bool.and_self,Bool.and_true,Bool.true_and,strs_hfs]))) ?_))
   refine ⟨?_,by simp [subH,OB.hlt,AV.hlts,AV.hlt,encR_hlts]⟩
   simp only [subT,Av.get,Nat.reduceEqDiff,↓reduceIte,Le_rfl,nat0,nat1,and_self,true_and,and_true,List.length_map,List.length_nil]
   exact Le_str (by rw [parsT_take hu,parT,hqq]; simp)
  ·have hq':quotesB u.2 = false:=by simpa using hq
   rw [hq'] at hqu
   have hqq:qv u.2 = u.2:=by simp [qv,hq']
   repeat' (first | (simp (disch:=first | omega | (simp only [List.length_append,List.length_cons,List.length_nil,List.length_map,List.length_set]; omega)) only [VC_skip,VC_seq,VC_cond,VC_block,VC_region,VI_false,VO_nil,VO_plain,VV_some,VS,blockQ,ofV_lit,saddL,callOf,isPanic,nextOf,altA,evalOp,ev_tmp,ev_const,ev_func,Av.get,St.put,thenQ,Nat.reduceEqDiff,↓reduceIte,Bool.and_self,List.map_cons,List.map_nil,List.nil_append,List.append_nil,List.getElem?_cons_zero,List.getElem?_cons_succ,Option.map_some,ldC,stC,ic_str,cl_agg,setC,List.set_cons_zero,List.set_cons_succ,List.length_cons,List.length_nil,Nat.reduceAdd,List.all_cons,List.all_nil,and_self,true_and,and_true,Nat.add_zero,Nat.zero_add,List.take_succ_cons,List.take_zero,Nat.le_refl,List.cons_append,ld9,st54,lw54,fa54_0,fa54_1,zz54,hia i u _ hu]) | (guard_target =~ VCall _ _ _ _ _ _ _; refine VCall.pure (by first | with_reducible exact hgu | with_reducible exact hqu) (by (first | rfl | (simp only [AV.hfs,AV.hf,Bool.and_self,Bool.and_true,Bool.true_and,strs_hfs]))) ?_) | (guard_target =~ DCal _ _ _ _ _ _ _; refine DCal.pure (by first | with_reducible exact hgu | with_reducible exact hqu) (by (first | rfl | (simp only [AV.hfs,AV.hf,Bool.and_self,Bool.and_true,Bool.true_and,strs_hfs]))) ?_))
   refine ⟨?_,by simp [subH,OB.hlt,AV.hlts,AV.hlt,encR_hlts]⟩
   simp only [subT,Av.get,Nat.reduceEqDiff,↓reduceIte,Le_rfl,nat0,nat1,and_self,true_and,and_true,List.length_map,List.length_nil]
   exact Le_str (by rw [parsT_take hu,parT,hqq]; simp)
 ·intro _
  rw [List.take_length]
  repeat' (first | (simp (disch:=first | omega | (simp only [List.length_append,List.length_cons,List.length_nil,List.length_map,List.length_set]; omega)) only [VC_seq,VC_ret,VC_region,VO_nil,VO_plain,VV_some,VS,blockQ,ofV_lit,saddL,callOf,isPanic,nextOf,altA,evalOp,ev_tmp,ev_const,Av.get,St.put,thenQ,Nat.reduceEqDiff,↓reduceIte,List.getElem?_cons_zero,List.getElem?_cons_succ,Option.map_some,ldC,Nat.zero_add,ld9,fa45_3]))
  refine ⟨_,rfl,_,rfl,Le_str ?_⟩
  simp [told]
end Go.Proofs.YtjlhemfmeboadaaGreatDoor
namespace Go.Proofs.YtjlhemfmeboadaaGreatDoor
set_option linter.unusedVariables false
set_option linter.unusedSimpArgs false
open Go Go.Av Go.RowKit

structure Cd where
 ver:Bytes
 x:Bool
 ls:List Ln
def encCd (c:Cd):AV:=.agg [.str c.ver,.vsl 5 c.x (c.ls.map encLn)]
def kBEGIN:Bytes:=[66,69,71,73,78,58,86,67,65,82,68]
def kEND:Bytes:=[69,78,68,58,86,67,65,82,68]
def kVERSION:Bytes:=[86,69,82,83,73,79,78,58]
def rowsC (c:Cd):List Bytes:=[kBEGIN,kVERSION++c.ver]++c.ls.map (fun l=>fold (told l))++[kEND]
def laid (c:Cd):Bytes:=joined (rowsC c)
theorem encLn_hf (l:Ln):(encLn l).hf = true:=by simp [encLn,AV.hf,AV.hfs,encR_hfs]
theorem encLn_hfs (ls:List Ln):AV.hfs (ls.map encLn) = true:=by
 rw [hfs_all,List.all_eq_true]; intro v hv; obtain ⟨l,_,rfl⟩:=List.mem_map.1 hv; exact encLn_hf l
theorem encLn_hlts (m:Nat) (ls:List Ln):AV.hlts m (ls.map encLn) = true:=hfs_hlts (encLn_hfs ls)
set_option maxRecDepth 8000 in
theorem laidV (c:Cd) (hp:∀ l ∈ c.ls,plainL l = true) (hb:(laid c).length≤50000000) (hn:c.ls.length≤1000000):PureFn Tryz.prog 32 [encCd c] (.ret (.str (laid c))):=by
 obtain ⟨ver,x,ls⟩:=c
 simp only at hp hn
 refine PureFn.fit fun hfit=>?_
 have hv1:ver.length≤100000000:=by
  have:kVERSION++ver ∈ rowsC ⟨ver,x,ls⟩:=by simp [rowsC]
  have h2:(kVERSION++ver).length≤(laid ⟨ver,x,ls⟩).length:=by
   unfold laid joined
   have:=(List.sublist_flatten_of_mem (List.mem_map_of_mem (f:=fun x=>x++[13,10]) this)).length_le
   simp at this ⊢; omega
  simp at h2; omega
 refine PureFn.of Tryz.func32 rfl (enters_call enters Tryz.func32 rfl) (by simp [Tryz.ntmps32]) ?_
 show W Tryz.prog 28 0 none _ _ _
 refine W.vc (by decide) ?_
 simp only [encCd]
 have hbs:evBuildSlice Tryz.prog 38 2 [(0,.str kBEGIN),(1,.str (kVERSION++ver))] = some (.vsl 0 true [.str kBEGIN,.str (kVERSION++ver)]):=by
  simp [evBuildSlice,Tryz.underlying38,ap38,AV.cells,AV.told,List.range']
 simp only [kBEGIN,kVERSION,List.cons_append,List.nil_append] at hbs
 repeat' (first | (simp (disch:=first | omega | (simp only [List.length_append,List.length_cons,List.length_nil,List.length_map,List.length_set]; omega)) only [VC_seq,VC_block,VC_region,VC_loop,VO_nil,VO_plain,VV_some,VS,List.length_map,AV.told,ofV_int,ofV_lit,saddL,deN_vsl,callOf,isPanic,nextOf,altA,evalOp,ev_tmp,ev_const,Av.get,St.put,argT,thenQ,Nat.reduceEqDiff,↓reduceIte,List.map_cons,List.map_nil,List.nil_append,List.getElem?_cons_zero,List.getElem?_cons_succ,Option.map_some,ldC,cl_agg,List.length_nil,Nat.add_zero,Nat.zero_add,List.cons_append,ld9,ld22,lv22,fa24_0,fa24_1,hbs]))
 have hia:∀ (i:Nat) (u:Ln) (H:List OB),ls[i]? = some u→evIndexAddr Tryz.prog 22 (.vsl 5 x (ls.map encLn)) (.int .i64 (i:Int)) H = some (.vptr [.str u.g,.str u.n,.vsl 3 u.x (u.ps.map encR),.str u.v]):=by
  intro i u H hu
  exact iv22 (v:=encLn u) (by simp [hu]) rfl H
 have hb1:∀ s,evBuildSlice Tryz.prog 38 1 [(0,.str s)] = some (.vsl 0 true [.str s]):=by
  intro s; simp [evBuildSlice,Tryz.underlying38,ap38,AV.cells,AV.told,List.range']
 obtain ⟨rows,hrows⟩:∃ rows:Nat→List Bytes,rows = fun i=>[kBEGIN,kVERSION++ver]++(ls.take i).map (fun l=>fold (told l)):=⟨_,rfl⟩
 have hrl:∀ i,(rows i).length≤1000002:=by intro i; subst hrows; simp; omega
 obtain ⟨B,hB⟩:∃ B:List OB,B = [.cells [.str ver,.vsl 5 x (ls.map encLn)] false]:=⟨_,rfl⟩
 have hBl:B.length = 1:=by subst hB; rfl
 have hBh:∀ m,B.all (OB.hlt m) = true:=by intro m; subst hB; simp [OB.hlt,AV.hlts,AV.hlt,encLn_hlts]
 obtain ⟨zz,hzz⟩:∃ zz:Nat→Bool,zz = fun i=>decide (0 < i):=⟨_,rfl⟩
 refine W.forG 13 12 14 23 ls.length (by simp only [maxLen']; omega) rfl rfl rfl rfl rfl rfl rfl rfl rfl (by decide) (by decide) (by decide)
  (fun i=>[(11,.vsl 5 x (ls.map encLn)),(3,memV 1 0 0 .str (2 * i - 1) (zz i) (rows i)),(1,.ptr 0 0)]) (fun _=>rfl) (fun i=>mem B .str (2 * i - 1) 0 (zz i) (rows i)) (fun _=>Nat.zero_le _) (fun i=>True) rfl trivial ?_ ?_ ?_ ?_ ?_
 ·subst hrows
  subst hzz
  simp only [Nat.lt_irrefl,decide_false,memV,Bool.false_eq_true,if_false,List.take_zero,List.map_nil,List.append_nil,List.map_cons,kBEGIN,kVERSION,List.cons_append,List.nil_append]
  simp only [subT,Av.get,Nat.reduceEqDiff,↓reduceIte,Le_rfl,nat0,nat1,and_self,true_and,and_true,List.length_map,List.length_nil]
 ·intro i _
  have hmv:=memV_hlt (w0:=0) (wd:=0) (f:=AV.str) (k:=2 * i - 1) (j:=0) (z:=zz i) (L:=rows i) hBl (fun x=>rfl)
  have h0:0 < (mem B AV.str (2 * i - 1) 0 (zz i) (rows i)).length:=by rw [mem_len]; omega
  simp only [hltT,AV.hlt,encLn_hlts,hmv,h0,decide_true,Bool.and_self]
 ·subst hrows
  subst hB
  subst hzz
  simp [mem,subH,OB.hlt,AV.hlts,AV.hlt,encLn_hlts]
 ·intro i hi _
  obtain ⟨u,hu,hdrop⟩:=drop_at hi
  have hmu:u ∈ ls:=List.mem_of_getElem? hu
  have hpu:=hp u hmu
  have htl:(told u).length≤1000000:=by simp only [plainL,Bool.and_eq_true,decide_eq_true_eq] at hpu; exact hpu.2
  have ht:=toldV u hpu
  have hf:=foldV (told u) htl
  simp only [encLn] at ht
  have hrow:rows (i + 1) = rows i++[fold (told u)]:=by subst hrows; simp [List.take_add_one,hu]
  obtain ⟨M,hM⟩:∃ M,M = mem B AV.str (2 * i - 1) 0 (zz i) (rows i):=⟨_,rfl⟩
  have hMl:M.length = 1 + 2 * i:=by rw [hM,mem_len,hBl,hzz]; by_cases h0:0 < i<;>simp [h0]<;>omega
  obtain ⟨M',ha1,ha2,ha3,ha4,ha5⟩:=mem_app (wd:=0) (bytes:=16) Tryz.underlying38 ap38 AV.str (fun _=>rfl) (fun _=>rfl) (by decide) B (2 * i - 1) 0 (zz i) (rows i) (w0:=0) (fun _=>.inl rfl) [.cells [.str u.g,.str u.n,.vsl 3 u.x (u.ps.map encR),.str u.v] false] (fold (told u)) true (by have:=hrl i; omega) hM
  rw [hBl] at ha1
  rw [← hM]
  refine .vc (by decide) ?_
  repeat' (first | (simp (disch:=first | omega | (simp only [List.length_append,List.length_cons,List.length_nil,List.length_map,List.length_set]; omega)) only [VC_seq,VC_block,VC_region,VO_nil,VO_plain,VV_some,VS,blockQ,List.getElem?_concat_length,set_concat,deN_vsl,deN_mem,callOf,isPanic,nextOf,altA,evalOp,ev_tmp,ev_func,Av.get,St.put,thenQ,Nat.reduceEqDiff,↓reduceIte,Bool.and_self,List.map_cons,List.map_nil,List.nil_append,List.append_nil,Option.map_some,ldG,stC,ic_str,ic_vsl,cl_agg,setC,List.set_cons_zero,List.set_cons_succ,List.length_cons,List.length_nil,Nat.reduceAdd,List.all_cons,List.all_nil,and_self,true_and,and_true,Nat.zero_add,List.drop_zero,List.take_succ_cons,List.take_zero,Nat.le_refl,st45,ld45,lw45,zz45,hia i u _ hu,hb1,ha1]) | (guard_target =~ VCall _ _ _ _ _ _ _; refine VCall.pure (by first | with_reducible exact ht | with_reducible exact hf) (by (first | rfl | (simp only [AV.hfs,AV.hf,Bool.and_self,Bool.and_true,Bool.true_and,strs_hfs,encR_hfs]))) ?_) | (guard_target =~ DCal _ _ _ _ _ _ _; refine DCal.pure (by first | with_reducible exact ht | with_reducible exact hf) (by (first | rfl | (simp only [AV.hfs,AV.hf,Bool.and_self,Bool.and_true,Bool.true_and,strs_hfs,encR_hfs]))) ?_))
  rw [hrow]
  have hz1:zz (i + 1) = true:=by rw [hzz]; simp
  have hk:M.length + 1 - 1 = 2 * (i + 1) - 1:=by omega
  simp only [List.length_cons,List.length_nil,hBl,hz1] at ha4 ⊢
  have h4:=ha4 (mem B AV.str (2 * (i + 1) - 1) 0 true (rows i++[fold (told u)])).length (hBh _) (fun x=>rfl)
  rw [hk] at h4 ⊢
  refine ⟨?_,h4⟩
  simp only [subT,Av.get,Nat.reduceEqDiff,↓reduceIte,Le_rfl,nat0,nat1,and_self,true_and,and_true,List.length_map,List.length_nil]
 ·intro _
  have hrowe:rowsC ⟨ver,x,ls⟩ = rows ls.length++[kEND]:=by subst hrows; simp [rowsC,List.take_length]
  obtain ⟨M,hM⟩:∃ M,M = mem B AV.str (2 * ls.length - 1) 0 (zz ls.length) (rows ls.length):=⟨_,rfl⟩
  obtain ⟨M',ha1,ha2,ha3,ha4,ha5⟩:=mem_app (wd:=0) (bytes:=16) Tryz.underlying38 ap38 AV.str (fun _=>rfl) (fun _=>rfl) (by decide) B (2 * ls.length - 1) 0 (zz ls.length) (rows ls.length) (w0:=0) (fun _=>.inl rfl) [] kEND true (by have:=hrl ls.length; omega) hM
  rw [hBl,List.append_nil] at ha1
  rw [← hrowe] at ha1 ha3
  have hM0:M'[0]? = some (.cells [.str ver,.vsl 5 x (ls.map encLn)] false):=by rw [ha5 0 (by omega),hB]; rfl
  have hBM:1≤M.length:=by rw [hM,mem_len]; omega
  obtain ⟨u,hfz,hu⟩:=mem_fz0 (B:=B) (f:=AV.str) (w0:=0) (k:=M.length - 1) (z:=true) (L:=rowsC ⟨ver,x,ls⟩) (n:=19) (M:=M') (fun _=>by rw [← ha3]; congr 1; simp; omega) (strs_hfs _) (strs_one _)
  rw [hBl] at hfz
  have hfz:fz M' 20 _ = _:=hfz
  obtain ⟨y,rfl⟩:∃ y,u = .vsl 0 y ((rowsC ⟨ver,x,ls⟩).map .str):=by rcases hu with rfl | rfl<;>exact ⟨_,rfl⟩
  have hj:=joinedV y (rowsC ⟨ver,x,ls⟩) hb
  have hln:lend M' [memV 1 0 0 AV.str (M.length - 1) true (rowsC ⟨ver,x,ls⟩)] (.ret (.str (laid ⟨ver,x,ls⟩))) = some [.vsl 0 y ((rowsC ⟨ver,x,ls⟩).map .str)]:=
   lend_map rfl rfl (by simp only [List.mapM_cons,List.mapM_nil,hfz]; rfl)
  simp only [kEND,List.length_nil,Nat.add_zero] at ha1
  rw [← hM]
  repeat' (first | (simp (disch:=first | omega | (simp only [List.length_append,List.length_cons,List.length_nil,List.length_map,List.length_set]; omega)) only [VC_seq,VC_ret,VC_region,VO_nil,VO_plain,VV_some,VS,blockQ,ofV_lit,deN_vsl,deN_mem,callOf,isPanic,nextOf,altA,evalOp,ev_tmp,ev_const,ev_func,Av.get,St.put,thenQ,Nat.reduceEqDiff,↓reduceIte,List.map_cons,List.map_nil,List.nil_append,List.append_nil,Option.map_some,hb1,ha1]) | (guard_target =~ VCall _ _ _ _ _ _ _; refine VCall.lend _ hj hln ?_))
  exact ⟨_,rfl,_,rfl,.refl _⟩
/-! ### Check, Text -/
def rightC (c:Cd):Bool:=version c.ver && decide (c.ls.length≤100) && c.ls.all lineB
def checkC (c:Cd):Nat:=if rightC c then (if (laid c).length > 16000 then 3 else 0) else 2
def textC (c:Cd):Bytes:=if checkC c = 0 then laid c else []
theorem encLn_shp (ls:List Ln):∀ v ∈ ls.map encLn,shp 5 v:=by
 intro v hv; obtain ⟨l,_,rfl⟩:=List.mem_map.1 hv; exact ⟨[.str l.g,.str l.n,.vsl 3 l.x (l.ps.map encR),.str l.v],rfl,rfl⟩
def pL:AV→Bool
 | .agg [.str g,.str n,.vsl _ x ps,.str v]=>lineB ⟨g,n,x,ps.map (fun | .agg [.str t,.str v]=>(t,v) | _=>([],[])),v⟩
 | _=>false
theorem pL_enc (l:Ln):pL (encLn l) = lineB l:=by
 have:(l.ps.map encR).map (fun | .agg [.str t,.str v]=>(t,v) | _=>(([],[]):Bytes × Bytes)) = l.ps:=by
  rw [List.map_map]; conv=>rhs; rw [← List.map_id l.ps]
  congr 1
 simp only [encLn,pL,this]
theorem eachLV (x:Bool) (ls:List Ln):PureFn Tryz.prog 35 [.vsl 5 x (ls.map encLn),.func (.func 36) [] []] (.ret (.bool (ls.all lineB))):=by
 have:=Go.Proofs.YtjlhemfmeboadaaGreatDoor.each_L x (ls.map encLn) 36 [] [] pL (encLn_shp ls) ⟨encLn_hfs ls,rfl,rfl⟩ (by
  intro v hv; obtain ⟨r,_,rfl⟩:=List.mem_map.1 hv; rw [pL_enc]; exact lineV r)
 rw [List.all_map] at this
 have e:(fun x=>pL (encLn x)) = lineB:=by funext l; exact pL_enc l
 simp only [Function.comp_def,e] at this
 exact this
/-! ### What may be told -/
theorem allB_ascii:∀ (i:Nat) (s:Bytes),allB i s = true→ascii s = true
 | _,[],_=>rfl
 | i,x::l,h=>by
  simp only [allB,Bool.and_eq_true] at h
  simp only [ascii,List.all_cons,Bool.and_eq_true]
  refine ⟨?_,allB_ascii (i + 1) l h.2⟩
  have h1:=h.1
  simp only [okI,decide_eq_true_eq] at h1 ⊢
  rcases Nat.lt_or_ge x.toNat 128 with h2 | h2
  ·exact h2
  ·have a1:¬ ((x.toNat:Int)≤122):=by omega
   have a2:¬ ((x.toNat:Int)≤90):=by omega
   have a3:¬ ((x.toNat:Int)≤57):=by omega
   have a4:¬ ((x.toNat:Int) = 45):=by omega
   simp [a1,a2,a3,a4] at h1
theorem ascii_small (s:Bytes):ascii (small s) = ascii s:=by
 simp only [ascii,small,List.all_map]
 congr 1; funext x; simp only [Function.comp]; exact decide_eq_decide.2 (low_lt x)
theorem name_plain {s:Bytes} (h:nameB s = true):ascii s = true∧s.length≤64:=by
 simp only [nameB,checkB,List.all_cons,List.all_nil,Bool.and_true,Bool.and_eq_true,partB] at h
 obtain ⟨_,⟨⟨h1,_⟩,_⟩,_⟩:=h
 simp only [isName,Bool.and_eq_true,decide_eq_true_eq] at h1
 refine ⟨by rw [← ascii_small]; exact allB_ascii 0 _ h1.1,?_⟩
 have:=h1.2.2
 simp [small] at this; omega
theorem qv_le (v:Bytes):(qv v).length≤v.length + 2:=by unfold qv; split<;>simp
theorem parsT_bound:∀ (ps:List (Bytes × Bytes)),(∀ p ∈ ps,p.1.length≤64∧p.2.length≤100)→(parsT ps).length≤200 * ps.length
 | [],_=>by simp [parsT]
 | p::ps,h=>by
  have ih:=parsT_bound ps (fun q hq=>h q (List.mem_cons_of_mem _ hq))
  have hp:=h p (by simp)
  have:=qv_le p.2
  simp only [parsT,List.map_cons,List.flatten_cons,List.length_append,parT,List.length_cons,List.length_nil,great_len] at ih ⊢
  omega
theorem line_plain {l:Ln} (h:lineB l = true):plainL l = true∧(told l).length≤6000:=by
 simp only [lineB,Bool.and_eq_true,Bool.or_eq_true,decide_eq_true_eq,beq_iff_eq] at h
 obtain ⟨hg,hn,_,_,_,hps,hall,hv,_⟩:=h
 have hg':ascii l.g = true∧l.g.length≤64:=by
  rcases hg with hg | hg
  ·rw [hg]; exact ⟨rfl,by simp⟩
  ·exact name_plain hg
 have hn':ascii l.n = true∧l.n.length≤64:=by
  have:=name_plain hn
  rw [ascii_small] at this
  exact ⟨this.1,by simpa [small] using this.2⟩
 rw [List.all_eq_true] at hall
 have hp:∀ p ∈ l.ps,ascii p.1 = true∧p.1.length≤64∧p.2.length≤100:=by
  intro p hp
  have:=hall p hp
  simp only [paramB,Bool.and_eq_true,decide_eq_true_eq] at this
  have h1:=name_plain this.1.1
  exact ⟨h1.1,h1.2,by have:=this.1.2; omega⟩
 have hb:=parsT_bound l.ps (fun p h=>(hp p h).2)
 have hh:(headT l).length≤129:=by unfold headT; split<;>simp [great_len]<;>omega
 have hlen:(told l).length≤6000:=by simp only [told,List.length_append,List.length_cons,List.length_nil]; omega
 refine ⟨?_,hlen⟩
 simp only [plainL,Bool.and_eq_true,decide_eq_true_eq,List.all_eq_true]
 exact ⟨⟨⟨hg'.1,hn'.1⟩,fun p h=>(hp p h).1⟩,by omega⟩
theorem foldN_le:∀ (k m:Nat) (s:Bytes),1≤m→(foldN k m s).length≤s.length + 3 * s.length
 | 0,m,s,_=>by simp [foldN]
 | k + 1,m,s,hm=>by
  rw [foldN]
  split
  ·rename_i h
   have:=foldN_le k 74 (s.drop m) (by omega)
   simp only [List.length_append,List.length_take,List.length_cons,List.length_nil,List.length_drop] at this ⊢
   omega
  ·omega
theorem joined_bound:∀ (l:List Bytes) (b:Nat),(∀ x ∈ l,x.length≤b)→(joined l).length≤(b + 2) * l.length
 | [],b,_=>by simp [joined]
 | x::l,b,h=>by
  have ih:=joined_bound l b (fun y hy=>h y (List.mem_cons_of_mem _ hy))
  have:=h x (by simp)
  simp only [joined,List.map_cons,List.flatten_cons,List.length_append,List.length_cons,List.length_nil] at ih ⊢
  rw [Nat.mul_add]; omega
theorem laid_bound {c:Cd} (h:rightC c = true):(laid c).length≤50000000:=by
 simp only [rightC,Bool.and_eq_true,decide_eq_true_eq,List.all_eq_true] at h
 obtain ⟨⟨h1,h2⟩,h3⟩:=h
 have:=joined_bound (rowsC c) 24000 (by
  intro x hx
  simp only [rowsC,List.mem_append,List.mem_cons,List.mem_map,List.not_mem_nil,or_false] at hx
  rcases hx with ((rfl | rfl) | ⟨l,hl,rfl⟩) | rfl
  ·decide
  ·simp only [version,Bool.or_eq_true,beq_iff_eq] at h1
   rcases h1 with h1 | h1<;>rw [h1]<;>decide
  ·have:=(line_plain (h3 l hl)).2
   have:=foldN_le (told l).length 75 (told l) (by omega)
   unfold fold; omega
  ·decide)
 have hl:(rowsC c).length≤103:=by simp [rowsC]; omega
 unfold laid
 have:(24000 + 2) * (rowsC c).length≤(24000 + 2) * 103:=Nat.mul_le_mul_left _ hl
 omega
theorem encCd_hfs (c:Cd):AV.hfs [encCd c] = true:=by simp [encCd,AV.hfs,AV.hf,encLn_hfs]
set_option maxRecDepth 8000 in
theorem checkV (c:Cd):PureFn Tryz.prog 15 [encCd c] (.ret (.int .i64 (checkC c))):=by
 have hlaid:rightC c = true→PureFn Tryz.prog 32 [encCd c] (.ret (.str (laid c))):=by
  intro h
  have hb:=laid_bound h
  simp only [rightC,Bool.and_eq_true,decide_eq_true_eq,List.all_eq_true] at h
  exact laidV c (fun l hl=>(line_plain (h.2 l hl)).1) hb (by omega)
 have hhfs:=encCd_hfs c
 obtain ⟨ver,x,ls⟩:=c
 refine PureFn.of Tryz.func15 rfl (enters_call enters Tryz.func15 rfl) (by simp [Tryz.ntmps15]) ?_
 show W Tryz.prog 25 0 none _ _ _
 refine W.vc (by decide) ?_
 simp only [encCd] at hlaid hhfs ⊢
 have hv:=versionV ver
 have he:=eachLV x ls
 by_cases h1:version ver = true
 ·rw [h1] at hv
  by_cases h2:ls.length≤100
  ·by_cases h3:ls.all lineB = true
   ·rw [h3] at he
    have hr:rightC ⟨ver,x,ls⟩ = true:=by simp [rightC,h1,h2,h3]
    have hl:=hlaid hr
    by_cases h4:(laid ⟨ver,x,ls⟩).length > 16000
    ·have hc:checkC ⟨ver,x,ls⟩ = 3:=by simp only [checkC,hr,if_true,if_pos h4]
     repeat' (first | (simp (disch:=first | omega | (simp only [List.length_append,List.length_cons,List.length_nil,List.length_map,List.length_set]; omega)) only [VC_seq,VC_cond,VC_block,VC_ret,VC_region,VI_true,VI_false,VO_nil,VO_plain,VO_guard,VG_true,VV_some,VS,blockQ,List.length_map,u_notb,AV.told,ofV_bool,ofV_int,deN_vsl,deN_str,gdA,callOf,isPanic,nextOf,altA,evalOp,ev_tmp,ev_const,ev_func,Av.get,St.put,argT,thenQ,Nat.reduceEqDiff,↓reduceIte,List.map_cons,List.map_nil,List.nil_append,List.append_nil,List.getElem?_cons_zero,List.getElem?_cons_succ,List.getElem?_toArray,Option.map_some,Option.bind_some,beq_false,Bool.not_true,Bool.not_false,pickA,cond_false,ldC,ldG,cl_agg,List.length_cons,List.length_nil,Nat.reduceAdd,Nat.add_zero,Nat.zero_add,List.drop_zero,List.take_succ_cons,List.take_zero,Nat.le_refl,b_gtr,decide_eq_true,decide_eq_false,ld9,ls9,ld22,lv22,ld24,fa24_0,fa24_1]) | (guard_target =~ VCall _ _ _ _ _ _ _; refine VCall.pure (by first | with_reducible exact hv | with_reducible exact he | with_reducible exact hl) (by (first | rfl | (simp only [AV.hfs,AV.hf,Bool.and_self,Bool.and_true,Bool.true_and,strs_hfs,encLn_hfs]))) ?_) | (guard_target =~ DCal _ _ _ _ _ _ _; refine DCal.pure (by first | with_reducible exact hv | with_reducible exact he | with_reducible exact hl) (by (first | rfl | (simp only [AV.hfs,AV.hf,Bool.and_self,Bool.and_true,Bool.true_and,strs_hfs,encLn_hfs]))) ?_))
     rw [hc]; exact ⟨_,rfl,_,rfl,.refl _⟩
    ·have hc:checkC ⟨ver,x,ls⟩ = 0:=by simp only [checkC,hr,if_true,if_neg h4]
     repeat' (first | (simp (disch:=first | omega | (simp only [List.length_append,List.length_cons,List.length_nil,List.length_map,List.length_set]; omega)) only [VC_skip,VC_seq,VC_cond,VC_block,VC_ret,VC_region,VI_false,VO_nil,VO_plain,VO_guard,VG_true,VV_some,VS,blockQ,List.length_map,u_notb,AV.told,ofV_bool,ofV_int,deN_vsl,deN_str,gdA,callOf,isPanic,nextOf,altA,evalOp,ev_tmp,ev_const,ev_func,Av.get,St.put,argT,thenQ,Nat.reduceEqDiff,↓reduceIte,List.map_cons,List.map_nil,List.nil_append,List.append_nil,List.getElem?_cons_zero,List.getElem?_cons_succ,List.getElem?_toArray,Option.map_some,Option.bind_some,beq_false,Bool.not_true,Bool.not_false,pickA,cond_false,ldC,ldG,cl_agg,List.length_cons,List.length_nil,Nat.reduceAdd,Nat.add_zero,Nat.zero_add,List.drop_zero,List.take_succ_cons,List.take_zero,Nat.le_refl,b_gtr,decide_eq_false,ld9,ls9,ld22,lv22,ld24,fa24_0,fa24_1]) | (guard_target =~ VCall _ _ _ _ _ _ _; refine VCall.pure (by first | with_reducible exact hv | with_reducible exact he | with_reducible exact hl) (by (first | rfl | (simp only [AV.hfs,AV.hf,Bool.and_self,Bool.and_true,Bool.true_and,strs_hfs,encLn_hfs]))) ?_) | (guard_target =~ DCal _ _ _ _ _ _ _; refine DCal.pure (by first | with_reducible exact hv | with_reducible exact he | with_reducible exact hl) (by (first | rfl | (simp only [AV.hfs,AV.hf,Bool.and_self,Bool.and_true,Bool.true_and,strs_hfs,encLn_hfs]))) ?_))
     rw [hc]; exact ⟨_,rfl,_,rfl,.refl _⟩
   ·have h3:ls.all lineB = false:=by simpa using h3
    rw [h3] at he
    have hc:checkC ⟨ver,x,ls⟩ = 2:=by simp [checkC,rightC,h1,h2,h3]
    repeat' (first | (simp (disch:=first | omega | (simp only [List.length_append,List.length_cons,List.length_nil,List.length_map,List.length_set]; omega)) only [VC_seq,VC_cond,VC_block,VC_ret,VC_region,VI_true,VO_nil,VO_plain,VO_guard,VG_true,VV_some,VS,blockQ,List.length_map,u_notb,AV.told,ofV_bool,ofV_int,deN_vsl,gdA,callOf,isPanic,nextOf,altA,evalOp,ev_tmp,ev_const,ev_func,Av.get,St.put,argT,thenQ,Nat.reduceEqDiff,↓reduceIte,List.map_cons,List.map_nil,List.nil_append,List.append_nil,List.getElem?_cons_zero,List.getElem?_cons_succ,List.getElem?_toArray,Option.map_some,Option.bind_some,beq_false,Bool.not_true,Bool.not_false,pickA,cond_false,ldC,cl_agg,List.length_nil,Nat.add_zero,Nat.zero_add,b_gtr,decide_eq_false,ld9,ld22,lv22,fa24_0,fa24_1]) | (guard_target =~ VCall _ _ _ _ _ _ _; refine VCall.pure (by first | with_reducible exact hv | with_reducible exact he) (by (first | rfl | (simp only [AV.hfs,AV.hf,Bool.and_self,Bool.and_true,Bool.true_and,strs_hfs,encLn_hfs]))) ?_) | (guard_target =~ DCal _ _ _ _ _ _ _; refine DCal.pure (by first | with_reducible exact hv | with_reducible exact he) (by (first | rfl | (simp only [AV.hfs,AV.hf,Bool.and_self,Bool.and_true,Bool.true_and,strs_hfs,encLn_hfs]))) ?_))
    rw [hc]; exact ⟨_,rfl,_,rfl,.refl _⟩
  ·have hc:checkC ⟨ver,x,ls⟩ = 2:=by simp [checkC,rightC,h1,h2]
   repeat' (first | (simp (disch:=first | omega | (simp only [List.length_append,List.length_cons,List.length_nil,List.length_map,List.length_set]; omega)) only [VC_seq,VC_cond,VC_block,VC_ret,VC_region,VI_true,VO_nil,VO_plain,VO_guard,VG_true,VG_false,VV_some,VS,blockQ,List.length_map,u_notb,AV.told,ofV_bool,ofV_int,deN_vsl,gdA,callOf,isPanic,nextOf,altA,evalOp,ev_tmp,ev_const,ev_func,Av.get,St.put,argT,thenQ,Nat.reduceEqDiff,↓reduceIte,List.map_cons,List.map_nil,List.nil_append,List.append_nil,List.getElem?_cons_zero,List.getElem?_cons_succ,List.getElem?_toArray,Option.map_some,Option.bind_some,beq_false,Bool.not_true,Bool.not_false,pickA,cond_false,ldC,cl_agg,List.length_nil,Nat.add_zero,Nat.zero_add,b_gtr,decide_eq_true,ld9,ld22,lv22,fa24_0,fa24_1]) | (guard_target =~ VCall _ _ _ _ _ _ _; refine VCall.pure (by first | with_reducible exact hv | with_reducible exact he) (by (first | rfl | (simp only [AV.hfs,AV.hf,Bool.and_self,Bool.and_true,Bool.true_and,strs_hfs,encLn_hfs]))) ?_) | (guard_target =~ DCal _ _ _ _ _ _ _; refine DCal.pure (by first | with_reducible exact hv | with_reducible exact he) (by (first | rfl | (simp only [AV.hfs,AV.hf,Bool.and_self,Bool.and_true,Bool.true_and,strs_hfs,encLn_hfs]))) ?_))
   rw [hc]; exact ⟨_,rfl,_,rfl,.refl _⟩
 ·have h1:version ver = false:=by simpa using h1
  rw [h1] at hv
  have hc:checkC ⟨ver,x,ls⟩ = 2:=by simp [checkC,rightC,h1]
  repeat' (first | (simp (disch:=first | omega | (simp only [List.length_append,List.length_cons,List.length_nil,List.length_map,List.length_set]; omega)) only [VC_seq,VC_cond,VC_block,VC_ret,VC_region,VI_true,VO_nil,VO_plain,VO_guard,VG_false,VV_some,VS,blockQ,u_notb,AV.told,ofV_bool,ofV_int,gdA,callOf,isPanic,nextOf,altA,evalOp,ev_tmp,ev_const,ev_func,Av.get,St.put,argT,thenQ,Nat.reduceEqDiff,↓reduceIte,List.map_cons,List.map_nil,List.nil_append,List.append_nil,List.getElem?_cons_zero,List.getElem?_cons_succ,List.getElem?_toArray,Option.map_some,Option.bind_some,beq_false,Bool.not_true,Bool.not_false,pickA,ldC,cl_agg,List.length_nil,Nat.add_zero,ld9,fa24_0]) | (guard_target =~ VCall _ _ _ _ _ _ _; refine VCall.pure (by first | with_reducible exact hv) (by (first | rfl | (simp only [AV.hfs,AV.hf,Bool.and_self,Bool.and_true,Bool.true_and,strs_hfs,encLn_hfs]))) ?_) | (guard_target =~ DCal _ _ _ _ _ _ _; refine DCal.pure (by first | with_reducible exact hv) (by (first | rfl | (simp only [AV.hfs,AV.hf,Bool.and_self,Bool.and_true,Bool.true_and,strs_hfs,encLn_hfs]))) ?_))
  rw [hc]; exact ⟨_,rfl,_,rfl,.refl _⟩
end Go.Proofs.YtjlhemfmeboadaaGreatDoor
namespace Go.Proofs.YtjlhemfmeboadaaGreatDoor
set_option linter.unusedVariables false
set_option linter.unusedSimpArgs false
open Go Go.Av Go.RowKit

set_option maxRecDepth 8000 in
theorem textV (c:Cd):PureFn Tryz.prog 13 [encCd c] (.ret (.tup [.str (textC c),.int .i64 (checkC c)])):=by
 have hc:=checkV c
 have hhfs:=encCd_hfs c
 by_cases h:checkC c = 0
 ·have hr:rightC c = true:=by
   simp only [checkC] at h
   split at h
   ·assumption
   ·cases h
  have hl:PureFn Tryz.prog 32 [encCd c] (.ret (.str (laid c))):=by
   have hb:=laid_bound hr
   simp only [rightC,Bool.and_eq_true,decide_eq_true_eq,List.all_eq_true] at hr
   exact laidV c (fun l hl=>(line_plain (hr.2 l hl)).1) hb (by omega)
  have ht:textC c = laid c:=by simp only [textC,if_pos h]
  rw [ht,h]
  rw [h] at hc
  obtain ⟨ver,x,ls⟩:=c
  refine PureFn.of Tryz.func13 rfl (enters_call enters Tryz.func13 rfl) (by simp [Tryz.ntmps13]) ?_
  show W Tryz.prog 12 0 none _ _ _
  refine W.vc (by decide) ?_
  simp only [encCd] at hc hl hhfs ⊢
  repeat' (first | (simp (disch:=first | omega | (simp only [List.length_append,List.length_cons,List.length_nil,List.length_map,List.length_set]; omega)) only [VC_skip,VC_seq,VC_cond,VC_ret,VC_region,VI_false,VO_nil,VO_plain,VV_some,VS,AV.told,ofV_int,ofV_lit,callOf,isPanic,nextOf,altA,evalOp,ev_tmp,ev_const,ev_func,Av.get,St.put,argT,thenQ,Nat.reduceEqDiff,↓reduceIte,List.map_cons,List.map_nil,List.nil_append,List.append_nil,List.getElem?_cons_zero,Option.map_some,ldG,cl_agg,List.length_cons,List.length_nil,Nat.reduceAdd,Nat.zero_add,List.drop_zero,List.take_succ_cons,List.take_zero,Nat.le_refl,b_neq,ine_f,ld24]) | (guard_target =~ VCall _ _ _ _ _ _ _; refine VCall.pure (by first | with_reducible exact hc | with_reducible exact hl) (by (first | rfl | (simp only [AV.hfs,AV.hf,Bool.and_self,Bool.and_true,Bool.true_and,strs_hfs,encLn_hfs]))) ?_) | (guard_target =~ DCal _ _ _ _ _ _ _; refine DCal.pure (by first | with_reducible exact hc | with_reducible exact hl) (by (first | rfl | (simp only [AV.hfs,AV.hf,Bool.and_self,Bool.and_true,Bool.true_and,strs_hfs,encLn_hfs]))) ?_))
  exact ⟨_,rfl,_,rfl,.refl _⟩
 ·have ht:textC c = []:=by simp only [textC,if_neg h]
  rw [ht]
  obtain ⟨ver,x,ls⟩:=c
  refine PureFn.of Tryz.func13 rfl (enters_call enters Tryz.func13 rfl) (by simp [Tryz.ntmps13]) ?_
  show W Tryz.prog 12 0 none _ _ _
  refine W.vc (by decide) ?_
  simp only [encCd] at hc hhfs ⊢
  repeat' (first | (simp (disch:=first | omega | (simp only [List.length_append,List.length_cons,List.length_nil,List.length_map,List.length_set]; omega)) only [VC_seq,VC_cond,VC_ret,VC_region,VI_true,VO_nil,VO_plain,VV_some,VS,AV.told,ofV_int,ofV_lit,callOf,isPanic,nextOf,altA,evalOp,ev_tmp,ev_const,ev_func,Av.get,St.put,argT,thenQ,Nat.reduceEqDiff,↓reduceIte,List.map_cons,List.map_nil,List.nil_append,List.append_nil,List.getElem?_cons_zero,Option.map_some,ldG,cl_agg,List.length_cons,List.length_nil,Nat.reduceAdd,Nat.zero_add,List.drop_zero,List.take_succ_cons,List.take_zero,Nat.le_refl,b_neq,ine_t,ld24]) | (guard_target =~ VCall _ _ _ _ _ _ _; refine VCall.pure (by first | with_reducible exact hc) (by (first | rfl | (simp only [AV.hfs,AV.hf,Bool.and_self,Bool.and_true,Bool.true_and,strs_hfs,encLn_hfs]))) ?_) | (guard_target =~ DCal _ _ _ _ _ _ _; refine DCal.pure (by first | with_reducible exact hc) (by (first | rfl | (simp only [AV.hfs,AV.hf,Bool.and_self,Bool.and_true,Bool.true_and,strs_hfs,encLn_hfs]))) ?_))
  exact ⟨_,rfl,_,rfl,.refl _⟩
/-! ### The reader -/
theorem mustT:PureFn Tryz.prog 38 [.bool true] (.ret (.tup [])):=must38 true
theorem mustF:PureFn Tryz.prog 38 [.bool false] (.pan 58 (.agg [])):=must38 false
def nmR (s:Bytes):Option (Bytes × Bytes):=if lead s < s.length∧0 < lead s∧nameB (s.take (lead s)) = true then some (small (s.take (lead s)),s.drop (lead s)) else none
set_option maxRecDepth 8000 in
theorem name_ok {H:List OB} {r:Nat} {s:Bytes} (hr:H[r]? = some (.cells [.str s] false)) (hall:okH H) {n t:Bytes} (h:nmR s = some (n,t)):ShFn Tryz.prog 65 [.ptr r 0] H (.ret (.str n)) (H.set r (.cells [.str t] false)):=by
 unfold nmR at h
 by_cases hh:lead s < s.length∧0 < lead s∧nameB (s.take (lead s)) = true
 case neg=>rw [if_neg hh] at h; cases h
 rw [if_pos hh] at h
 obtain ⟨h1,h2,h3⟩:=hh
 cases h
 refine ShFn.of Tryz.func65 rfl (enters_call enters Tryz.func65 rfl) (by simp [Tryz.ntmps65]) (by simp) ?_
 show W Tryz.prog 44 _ none _ _ _
 refine W.vc (by decide) ?_
 have hi:ixN s = (lead s:Int):=by unfold ixN; rw [if_pos h1]
 have hx:=ixf89 s
 rw [hi] at hx
 have hn:=nameV (s.take (lead s))
 rw [h3] at hn
 have hs:=smallD (s.take (lead s))
 simp only [nmF] at hx
 repeat' (first | (simp (disch:=first | omega | (simp only [List.length_append,List.length_cons,List.length_nil,List.length_map,List.length_set]; omega)) only [VC_seq,VC_ret,VC_region,VO_nil,VO_plain,VO_guard,VG_true,VV_some,VS,Nat.sub_zero,take_drop_all,evNil,ofV_bool,ofV_int,ofV_lit,deN_str,gdA,callOf,isPanic,nextOf,altA,evalOp,ev_tmp,ev_const,ev_func,Av.get,St.put,argT,thenQ,Nat.reduceEqDiff,↓reduceIte,Bool.and_self,List.map_cons,List.map_nil,List.nil_append,List.append_nil,List.getElem?_cons_zero,List.getElem?_cons_succ,List.getElem?_toArray,Option.map_some,Option.map_none,Option.bind_some,beq_true,pickA,cond_true,ldC,stC,cl_str,ic_str,setC,List.set_cons_zero,List.length_cons,List.length_nil,List.all_cons,List.all_nil,and_self,Nat.add_zero,Nat.zero_add,List.drop_zero,Nat.le_refl,b_gtr,decide_eq_true,bnds_to,bnds_from,st9,ld9,ss9,fa78_0,fa80_0,hr]) | (guard_target =~ VCall _ _ _ _ _ _ _; refine VCall.pure (by first | with_reducible exact hx | with_reducible exact hn | with_reducible exact mustT | with_reducible exact hs) (by (first | rfl | (simp only [AV.hfs,AV.hf,Bool.and_self,Bool.and_true,Bool.true_and,strs_hfs]))) ?_) | (guard_target =~ DCal _ _ _ _ _ _ _; refine DCal.pure (by first | with_reducible exact hx | with_reducible exact hn | with_reducible exact mustT | with_reducible exact hs) (by (first | rfl | (simp only [AV.hfs,AV.hf,Bool.and_self,Bool.and_true,Bool.true_and,strs_hfs]))) ?_))
 exact ⟨_,rfl,_,rfl,.refl _,rfl,subH_self (by rw [List.length_set]; exact set_hlt (hall _ (Nat.le_refl _)) rfl)⟩
set_option maxRecDepth 8000 in
theorem name_no {H:List OB} {r:Nat} {s:Bytes} (hr:H[r]? = some (.cells [.str s] false)) (hall:okH H) (h:nmR s = none):ShFn Tryz.prog 65 [.ptr r 0] H stopA H:=by
 unfold nmR at h
 by_cases hh:lead s < s.length∧0 < lead s∧nameB (s.take (lead s)) = true
 case pos=>rw [if_pos hh] at h; cases h
 refine ShFn.of Tryz.func65 rfl (enters_call enters Tryz.func65 rfl) (by simp [Tryz.ntmps65]) (Nat.le_refl _) ?_
 show W Tryz.prog 44 _ none _ _ _
 refine W.vc (by decide) ?_
 have hx:=ixf89 s
 simp only [nmF] at hx
 by_cases h1:lead s < s.length
 ·have hi:ixN s = (lead s:Int):=by unfold ixN; rw [if_pos h1]
  rw [hi] at hx
  by_cases h2:0 < lead s
  ·have h3:nameB (s.take (lead s)) = false:=by
    cases hb:nameB (s.take (lead s)) with
    | false=>rfl
    | true=>exact (hh ⟨h1,h2,hb⟩).elim
   have hn:=nameV (s.take (lead s))
   rw [h3] at hn
   repeat' (first | (simp (disch:=first | omega | (simp only [List.length_append,List.length_cons,List.length_nil,List.length_map,List.length_set]; omega)) only [VC_seq,VC_region,VO_nil,VO_plain,VO_guard,VG_true,VV_some,VS,Nat.sub_zero,evNil,ofV_bool,ofV_int,ofV_lit,deN_str,gdA,callOf,isPanic,nextOf,altA,evalOp,ev_tmp,ev_const,ev_func,Av.get,St.put,argT,thenQ,Nat.reduceEqDiff,↓reduceIte,List.map_cons,List.map_nil,List.nil_append,List.append_nil,List.getElem?_cons_zero,List.getElem?_cons_succ,List.getElem?_toArray,Option.map_some,Option.map_none,Option.bind_some,beq_true,pickA,cond_true,ldC,Nat.add_zero,List.drop_zero,b_gtr,decide_eq_true,bnds_to,ld9,ss9,fa78_0,fa80_0,hr]) | (guard_target =~ VCall _ _ _ _ _ _ _; refine VCall.pan mustF rfl ?_) | (guard_target =~ VCall _ _ _ _ _ _ _; refine VCall.pure (by first | with_reducible exact hx | with_reducible exact hn) (by (first | rfl | (simp only [AV.hfs,AV.hf,Bool.and_self,Bool.and_true,Bool.true_and,strs_hfs]))) ?_) | (guard_target =~ DCal _ _ _ _ _ _ _; refine DCal.pure (by first | with_reducible exact hx | with_reducible exact hn) (by (first | rfl | (simp only [AV.hfs,AV.hf,Bool.and_self,Bool.and_true,Bool.true_and,strs_hfs]))) ?_))
   exact ⟨_,rfl,rfl,.refl _,rfl,okH_self hall⟩
  ·repeat' (first | (simp (disch:=first | omega | (simp only [List.length_append,List.length_cons,List.length_nil,List.length_map,List.length_set]; omega)) only [VC_seq,VC_region,VO_nil,VO_plain,VO_guard,VG_false,VV_some,VS,evNil,ofV_bool,ofV_int,ofV_lit,gdA,callOf,isPanic,nextOf,altA,evalOp,ev_tmp,ev_const,ev_func,Av.get,St.put,argT,thenQ,Nat.reduceEqDiff,↓reduceIte,List.map_cons,List.map_nil,List.nil_append,List.append_nil,List.getElem?_cons_zero,List.getElem?_cons_succ,List.getElem?_toArray,Option.map_some,Option.bind_some,beq_true,Bool.false_eq_true,pickA,ldC,Nat.add_zero,b_gtr,decide_eq_false,ld9,fa78_0,fa80_0,hr]) | (guard_target =~ VCall _ _ _ _ _ _ _; refine VCall.pan mustF rfl ?_) | (guard_target =~ VCall _ _ _ _ _ _ _; refine VCall.pure (by first | with_reducible exact hx) (by (first | rfl | (simp only [AV.hfs,AV.hf,Bool.and_self,Bool.and_true,Bool.true_and,strs_hfs]))) ?_) | (guard_target =~ DCal _ _ _ _ _ _ _; refine DCal.pure (by first | with_reducible exact hx) (by (first | rfl | (simp only [AV.hfs,AV.hf,Bool.and_self,Bool.and_true,Bool.true_and,strs_hfs]))) ?_))
   exact ⟨_,rfl,rfl,.refl _,rfl,okH_self hall⟩
 ·have hi:ixN s = -1:=by unfold ixN; rw [if_neg h1]
  rw [hi] at hx
  repeat' (first | (simp (disch:=first | omega | (simp only [List.length_append,List.length_cons,List.length_nil,List.length_map,List.length_set]; omega)) only [VC_seq,VC_region,VO_nil,VO_plain,VO_guard,VG_false,VV_some,VS,evNil,ofV_bool,ofV_int,ofV_lit,gdA,callOf,isPanic,nextOf,altA,evalOp,ev_tmp,ev_const,ev_func,Av.get,St.put,argT,thenQ,Nat.reduceEqDiff,↓reduceIte,List.map_cons,List.map_nil,List.nil_append,List.append_nil,List.getElem?_cons_zero,List.getElem?_cons_succ,List.getElem?_toArray,Option.map_some,Option.bind_some,beq_true,Bool.false_eq_true,pickA,ldC,Nat.add_zero,b_gtr,decide_eq_false,ld9,fa78_0,fa80_0,hr]) | (guard_target =~ VCall _ _ _ _ _ _ _; refine VCall.pan mustF rfl ?_) | (guard_target =~ VCall _ _ _ _ _ _ _; refine VCall.pure (by first | with_reducible exact hx) (by (first | rfl | (simp only [AV.hfs,AV.hf,Bool.and_self,Bool.and_true,Bool.true_and,strs_hfs]))) ?_) | (guard_target =~ DCal _ _ _ _ _ _ _; refine DCal.pure (by first | with_reducible exact hx) (by (first | rfl | (simp only [AV.hfs,AV.hf,Bool.and_self,Bool.and_true,Bool.true_and,strs_hfs]))) ?_))
  exact ⟨_,rfl,rfl,.refl _,rfl,okH_self hall⟩
set_option maxRecDepth 8000 in
theorem isR {H:List OB} {r:Nat} {s:Bytes} (hr:H[r]? = some (.cells [.str s] false)) (hall:okH H) (p:Bytes):ShFn Tryz.prog 66 [.ptr r 0,.str p] H (.ret (.bool (hasP s p))) (H.set r (.cells [.str (cutP s p)] false)):=by
 refine ShFn.of Tryz.func66 rfl (enters_call enters Tryz.func66 rfl) (by simp [Tryz.ntmps66]) (by simp) ?_
 show W Tryz.prog 23 _ none _ _ _
 refine W.vc (by decide) ?_
 repeat' (first | (simp (disch:=first | omega | (simp only [List.length_append,List.length_cons,List.length_nil,List.length_map,List.length_set]; omega)) only [VC_seq,VC_ret,VC_region,VO_nil,VO_plain,VV_some,VS,evNil,ofV_bool,callOf,isPanic,nextOf,altA,evalOp,ev_tmp,ev_const,ev_func,Av.get,St.put,argT,thenQ,Nat.reduceEqDiff,↓reduceIte,Bool.and_self,List.map_cons,List.map_nil,List.nil_append,List.append_nil,List.getElem?_cons_zero,List.getElem?_cons_succ,Option.map_some,ldC,stC,cl_str,ic_str,setC,List.set_cons_zero,List.length_cons,List.length_nil,List.all_cons,List.all_nil,and_self,Nat.add_zero,Nat.zero_add,Nat.le_refl,st9,ld9,fa78_0,fa80_0,hr]) | (guard_target =~ VCall _ _ _ _ _ _ _; refine VCall.pure (by first | with_reducible exact cutp91 _ _) (by (first | rfl | (simp only [AV.hfs,AV.hf,Bool.and_self,Bool.and_true,Bool.true_and,strs_hfs]))) ?_) | (guard_target =~ DCal _ _ _ _ _ _ _; refine DCal.pure (by first | with_reducible exact cutp91 _ _) (by (first | rfl | (simp only [AV.hfs,AV.hf,Bool.and_self,Bool.and_true,Bool.true_and,strs_hfs]))) ?_))
 exact ⟨_,rfl,_,rfl,.refl _,rfl,subH_self (by rw [List.length_set]; exact set_hlt (hall _ (Nat.le_refl _)) rfl)⟩
def prR (s : Bytes) : Option (Bytes × Bytes) × Bytes :=
  match nmR s with
  | none => (none, s)
  | some (n, s1) => if hasP s1 [61] then
      (if hasP (cutP s1 [61]) [34] then
        (if (cutB (cutP (cutP s1 [61]) [34]) 34).2.2 then (some (n, (cutB (cutP (cutP s1 [61]) [34]) 34).1), (cutB (cutP (cutP s1 [61]) [34]) 34).2.1) else (none, cutP (cutP s1 [61]) [34]))
      else if leadN [58, 59, 44, 34] (cutP (cutP s1 [61]) [34]) < (cutP (cutP s1 [61]) [34]).length then (some (n, (cutP (cutP s1 [61]) [34]).take (leadN [58, 59, 44, 34] (cutP (cutP s1 [61]) [34]))), (cutP (cutP s1 [61]) [34]).drop (leadN [58, 59, 44, 34] (cutP (cutP s1 [61]) [34])))
      else (none, cutP (cutP s1 [61]) [34]))
    else (none, cutP s1 [61])

theorem nmR_len {s n t:Bytes} (h:nmR s = some (n,t)):t.length≤s.length:=by
 unfold nmR at h
 split at h
 ·cases h; simp
 ·cases h
theorem cutP_len (s p:Bytes):(cutP s p).length≤s.length:=by unfold cutP; split<;>simp
set_option maxRecDepth 8000 in
theorem paramR {H : List OB} {r : Nat} {s : Bytes} (hr : H[r]? = some (.cells [.str s] false)) (hall : okH H) (hs : s.length ≤ 1000000) :
    ShFn Tryz.prog 67 [.ptr r 0] H (match (prR s).1 with | some p => .ret (encR p) | none => stopA) (H.set r (.cells [.str (prR s).2] false)) := by
  have hrl : r < H.length := (List.getElem?_eq_some_iff.1 hr).1
  refine ShFn.of Tryz.func67 rfl (enters_call enters Tryz.func67 rfl) (by simp [Tryz.ntmps67]) (by simp) ?_
  show W Tryz.prog 64 _ none _ _ _
  refine W.vc (by decide) ?_
  have hok1 : okH (H ++ [.cells [.str [], .str []] false]) := okH_app hall (fun m _ => rfl)
  have hr1 : (H ++ [.cells [.str [], .str []] false])[r]? = some (.cells [.str s] false) := get_app hr
  have hok : ∀ (a b c : Bytes), okH (H.set r (.cells [.str a] false) ++ [.cells [.str [], .str []] false, .cells [.str b, .str c] false]) := fun a b c => okH_suf hall (fun m _ => rfl) (fun m _ => rfl)
  have hg : ∀ (a b c : Bytes), (H.set r (.cells [.str a] false) ++ [.cells [.str [], .str []] false, .cells [.str b, .str c] false])[r]? = some (.cells [.str a] false) := fun a b c => get_suf hrl
  have hbd : ∀ n : Bytes, evBuild Tryz.prog 54 [(0, .str n)] = some (.agg [.str n, .str []]) := fun n => by kernel_rfl
  cases hn : nmR s with
  | none =>
    have e1 : (prR s).1 = none := by simp only [prR, hn]
    have e2 : (prR s).2 = s := by simp only [prR, hn]
    rw [e1, e2, set_get_same hr]
    have h1 := name_no hr1 hok1 hn
    repeat' (first | (simp (disch := first | omega | (simp only [List.length_append, List.length_cons, List.length_nil, List.length_map, List.length_set]; omega)) only [VC_seq, VC_region, VO_nil, VO_plain, VV_some, VS, callOf, isPanic, nextOf, altA, evalOp, ev_tmp, ev_func, Av.get, St.put, argT, thenQ, Nat.reduceEqDiff, ↓reduceIte, List.map_cons, List.map_nil, List.nil_append, List.append_nil, Option.map_some, cl_agg, zz54, hr]) | (guard_target =~ VCall _ _ _ _ _ _ _; refine VCall.shPan h1 ?_))
    exact ⟨_, rfl, rfl, .refl _, rfl, subH_drop (hall _ (Nat.le_refl _))⟩
  | some p =>
    obtain ⟨n, s1⟩ := p
    have h1 := name_ok hr1 hok1 hn
    have h2 := isR (hg s1 n []) (hok s1 n []) [61]
    by_cases q1 : hasP s1 [61] = true
    · rw [q1] at h2
      obtain ⟨s2, hs2⟩ : ∃ s2, s2 = cutP s1 [61] := ⟨_, rfl⟩
      rw [← hs2] at h2
      have h3 := isR (hg s2 n []) (hok s2 n []) [34]
      obtain ⟨s3, hs3⟩ : ∃ s3, s3 = cutP s2 [34] := ⟨_, rfl⟩
      rw [← hs3] at h3
      have l1 : s1.length ≤ s.length := nmR_len hn
      have l2 : s2.length ≤ s1.length := by rw [hs2]; exact cutP_len _ _
      have l3 : s3.length ≤ s2.length := by rw [hs3]; exact cutP_len _ _
      by_cases q2 : hasP s2 [34] = true
      · rw [q2] at h3
        have hc := cut72 s3 34 (by omega)
        obtain ⟨⟨v, rest, b⟩, hv⟩ : ∃ x, x = cutB s3 34 := ⟨_, rfl⟩
        rw [← hv] at hc
        cases b with
        | true =>
          have e1 : prR s = (some (n, v), rest) := by simp only [prR, hn, q1, ← hs2, q2, ← hs3, ← hv, if_true]
          rw [e1]
          repeat' (first | (simp (disch := first | omega | (simp only [List.length_append, List.length_cons, List.length_nil, List.length_map, List.length_set]; omega)) only [VC_seq, VC_cond, VC_ret, VC_region, VI_true, VO_nil, VO_plain, VV_some, VS, evNil, ofV_lit, callOf, isPanic, nextOf, altA, evalOp, ev_tmp, ev_const, ev_func, Av.get, St.put, argT, thenQ, Nat.reduceEqDiff, ↓reduceIte, Bool.and_self, List.map_cons, List.map_nil, List.nil_append, List.append_nil, List.getElem?_cons_zero, List.getElem?_cons_succ, Option.map_some, ldC, ldG, stC, cl_str, ic_str, cl_agg, setC, List.set_cons_zero, List.set_cons_succ, List.length_cons, List.length_nil, Nat.reduceAdd, List.all_cons, List.all_nil, and_self, Nat.add_zero, Nat.zero_add, List.drop_zero, List.take_succ_cons, List.take_zero, Nat.le_refl, List.cons_append, st9, ld9, st54, ld54, fa54_1, fa78_0, fa80_0, zz54, hr, hbd, List.append_assoc, List.getElem?_append_left, List.getElem?_append_right, List.set_append_left, List.set_append_right, List.length_set, List.set_set, List.length_append, Nat.add_sub_cancel_left, Nat.sub_self, List.getElem?_set_self]) | (guard_target =~ VCall _ _ _ _ _ _ _; refine VCall.sh h1 ?_) | (guard_target =~ VCall _ _ _ _ _ _ _; refine VCall.sh h2 ?_) | (guard_target =~ VCall _ _ _ _ _ _ _; refine VCall.sh h3 ?_) | (guard_target =~ VCall _ _ _ _ _ _ _; refine VCall.pure (by first | with_reducible exact mustT | with_reducible exact hc) (by (first | rfl | (simp only [AV.hfs, AV.hf, Bool.and_self, Bool.and_true, Bool.true_and, strs_hfs]))) ?_) | (guard_target =~ DCal _ _ _ _ _ _ _; refine DCal.pure (by first | with_reducible exact mustT | with_reducible exact hc) (by (first | rfl | (simp only [AV.hfs, AV.hf, Bool.and_self, Bool.and_true, Bool.true_and, strs_hfs]))) ?_))
          refine retSc 2 54 rfl rfl ?_ (.refl _) rfl (subH_drop (set_hlt (hall _ (by rw [List.length_set]; exact Nat.le_refl _)) rfl))
          simp (disch := first | omega | (simp only [List.length_append, List.length_cons, List.length_nil, List.length_map, List.length_set]; omega)) only [Av.get, Nat.reduceEqDiff, ↓reduceIte, List.getElem?_cons_zero, ldG, List.length_cons, List.length_nil, Nat.reduceAdd, Nat.zero_add, List.drop_zero, List.take_succ_cons, List.take_zero, Nat.le_refl, ld54, List.getElem?_append_right, List.length_set, Nat.sub_self]
          rfl
        | false =>
          have e1 : prR s = (none, s3) := by simp only [prR, hn, q1, ← hs2, q2, ← hs3, ← hv, if_true]; rfl
          rw [e1]
          repeat' (first | (simp (disch := first | omega | (simp only [List.length_append, List.length_cons, List.length_nil, List.length_map, List.length_set]; omega)) only [VC_seq, VC_cond, VC_region, VI_true, VO_nil, VO_plain, VV_some, VS, evNil, ofV_lit, callOf, isPanic, nextOf, altA, evalOp, ev_tmp, ev_const, ev_func, Av.get, St.put, argT, thenQ, Nat.reduceEqDiff, ↓reduceIte, Bool.and_self, List.map_cons, List.map_nil, List.nil_append, List.append_nil, List.getElem?_cons_zero, List.getElem?_cons_succ, Option.map_some, ldC, stC, ic_str, cl_agg, setC, List.set_cons_zero, List.set_cons_succ, List.length_cons, List.length_nil, Nat.reduceAdd, List.all_cons, List.all_nil, and_self, Nat.add_zero, Nat.zero_add, Nat.le_refl, List.cons_append, ld9, st54, fa78_0, fa80_0, zz54, hr, hbd, List.append_assoc, List.getElem?_append_left, List.getElem?_append_right, List.set_append_left, List.set_append_right, List.length_set, List.set_set, List.length_append, Nat.add_sub_cancel_left, List.getElem?_set_self]) | (guard_target =~ VCall _ _ _ _ _ _ _; refine VCall.sh h1 ?_) | (guard_target =~ VCall _ _ _ _ _ _ _; refine VCall.sh h2 ?_) | (guard_target =~ VCall _ _ _ _ _ _ _; refine VCall.sh h3 ?_) | (guard_target =~ VCall _ _ _ _ _ _ _; refine VCall.pan mustF rfl ?_) | (guard_target =~ VCall _ _ _ _ _ _ _; refine VCall.pure (by first | with_reducible exact hc | with_reducible exact mustT) (by (first | rfl | (simp only [AV.hfs, AV.hf, Bool.and_self, Bool.and_true, Bool.true_and, strs_hfs]))) ?_) | (guard_target =~ DCal _ _ _ _ _ _ _; refine DCal.pure (by first | with_reducible exact hc | with_reducible exact mustT) (by (first | rfl | (simp only [AV.hfs, AV.hf, Bool.and_self, Bool.and_true, Bool.true_and, strs_hfs]))) ?_))
          exact ⟨_, rfl, rfl, .refl _, rfl, subH_drop (set_hlt (hall _ (by rw [List.length_set]; exact Nat.le_refl _)) rfl)⟩
      · have q2 : hasP s2 [34] = false := by simpa using q2
        rw [q2] at h3
        have hx := any_all s3 [58, 59, 44, 34] (by decide) (by decide) (by decide)
        by_cases q3 : leadN [58, 59, 44, 34] s3 < s3.length
        · have hix : ixAny s3 [58, 59, 44, 34] = (leadN [58, 59, 44, 34] s3 : Int) := by unfold ixAny; rw [if_pos q3]
          rw [hix] at hx
          have e1 : prR s = (some (n, s3.take (leadN [58, 59, 44, 34] s3)), s3.drop (leadN [58, 59, 44, 34] s3)) := by
            simp only [prR, hn, q1, ← hs2, q2, ← hs3, if_pos q3, if_true, Bool.false_eq_true, if_false]
          rw [e1]
          obtain ⟨k, hk⟩ : ∃ k, k = leadN [58, 59, 44, 34] s3 := ⟨_, rfl⟩
          rw [← hk] at q3 hx ⊢
          repeat' (first | (simp (disch := first | omega | (simp only [List.length_append, List.length_cons, List.length_nil, List.length_map, List.length_set]; omega)) only [VC_seq, VC_cond, VC_region, VC_drawn, VI_false, VO_nil, VO_plain, VV_some, VS, evNil, ofV_int, ofV_lit, callOf, isPanic, nextOf, altA, evalOp, ev_tmp, ev_const, ev_func, Av.get, St.put, argT, thenQ, Nat.reduceEqDiff, ↓reduceIte, Bool.and_self, List.map_cons, List.map_nil, List.nil_append, List.append_nil, List.getElem?_cons_zero, List.getElem?_cons_succ, Option.map_some, ldC, stC, ic_str, cl_agg, setC, List.set_cons_zero, List.set_cons_succ, List.length_cons, List.length_nil, Nat.reduceAdd, List.all_cons, List.all_nil, and_self, Nat.add_zero, Nat.zero_add, Nat.le_refl, List.cons_append, b_geq, decide_eq_true, ld9, st54, fa78_0, fa80_0, zz54, hr, hbd, List.append_assoc, List.getElem?_append_left, List.getElem?_append_right, List.set_append_left, List.set_append_right, List.length_set, List.set_set, List.length_append, Nat.add_sub_cancel_left, List.getElem?_set_self]) | (guard_target =~ VCall _ _ _ _ _ _ _; refine VCall.sh h1 ?_) | (guard_target =~ VCall _ _ _ _ _ _ _; refine VCall.sh h2 ?_) | (guard_target =~ VCall _ _ _ _ _ _ _; refine VCall.sh h3 ?_) | (guard_target =~ VCall _ _ _ _ _ _ _; refine VCall.pure (by first | with_reducible exact mustT | with_reducible exact hx) (by (first | rfl | (simp only [AV.hfs, AV.hf, Bool.and_self, Bool.and_true, Bool.true_and, strs_hfs]))) ?_) | (guard_target =~ DCal _ _ _ _ _ _ _; refine DCal.pure (by first | with_reducible exact mustT | with_reducible exact hx) (by (first | rfl | (simp only [AV.hfs, AV.hf, Bool.and_self, Bool.and_true, Bool.true_and, strs_hfs]))) ?_))
          refine W.drawN [16, 20] [false, false, false, false, false, false, false, false, false, false, false, false, false, false, false, false, true, false, false, false, true] [(12, 17)] mixed (by kernel_rfl) (by kernel_rfl) (by kernel_rfl) ?_
          repeat' (first | (simp (disch := first | omega | (simp only [List.length_append, List.length_cons, List.length_nil, List.length_map, List.length_set]; omega)) only [VC_seq, VC_ret, VC_region, VO_nil, VO_plain, VV_some, VS, DT_nil, DT_plain, DS, cHs_t, cHs_f, cHs_n, cPs, lastS_1, lastS_2, vOf, Nat.sub_zero, take_drop_all, evNil, AV.told, deN_str, evNextB, callOf, isPanic, nextOf, altA, evalOp, ev_tmp, Av.get, St.put, thenQ, Nat.reduceEqDiff, ↓reduceIte, Bool.and_self, List.nil_append, List.getElem?_cons_zero, List.getElem?_cons_succ, List.getElem?_toArray, Option.map_some, Option.map_none, pickA, ldC, ldG, stC, cl_str, ic_str, cl_agg, setC, List.set_cons_zero, List.set_cons_succ, List.length_cons, List.length_nil, Nat.reduceAdd, List.all_cons, List.all_nil, and_self, true_and, and_true, Nat.add_zero, Nat.zero_add, List.drop_zero, List.take_succ_cons, List.take_zero, Nat.le_refl, List.cons_append, bnds_to, bnds_from, st9, ld9, ss9, st54, ld54, fa54_1, fa78_0, fa80_0, hr, List.getElem?_append_left, List.getElem?_append_right, List.set_append_left, List.set_append_right, List.length_set, List.set_set, Nat.add_sub_cancel_left, Nat.sub_self, List.getElem?_set_self]))
          refine retSc 2 54 rfl rfl ?_ (.refl _) rfl (subH_drop (set_hlt (hall _ (by rw [List.length_set]; exact Nat.le_refl _)) rfl))
          simp (disch := first | omega | (simp only [List.length_append, List.length_cons, List.length_nil, List.length_map, List.length_set]; omega)) only [Av.get, Nat.reduceEqDiff, ↓reduceIte, List.getElem?_cons_zero, ldG, List.length_cons, List.length_nil, Nat.reduceAdd, Nat.zero_add, List.drop_zero, List.take_succ_cons, List.take_zero, Nat.le_refl, ld54, List.getElem?_append_right, List.length_set, Nat.sub_self]
          rfl
        · have hix : ixAny s3 [58, 59, 44, 34] = -1 := by unfold ixAny; rw [if_neg q3]
          rw [hix] at hx
          have e1 : prR s = (none, s3) := by
            simp only [prR, hn, q1, ← hs2, q2, ← hs3, if_neg q3, if_true, Bool.false_eq_true, if_false]
          rw [e1]
          repeat' (first | (simp (disch := first | omega | (simp only [List.length_append, List.length_cons, List.length_nil, List.length_map, List.length_set]; omega)) only [VC_seq, VC_cond, VC_region, VI_false, VO_nil, VO_plain, VV_some, VS, evNil, ofV_int, ofV_lit, callOf, isPanic, nextOf, altA, evalOp, ev_tmp, ev_const, ev_func, Av.get, St.put, argT, thenQ, Nat.reduceEqDiff, ↓reduceIte, Bool.and_self, List.map_cons, List.map_nil, List.nil_append, List.append_nil, List.getElem?_cons_zero, List.getElem?_cons_succ, Option.map_some, ldC, stC, ic_str, cl_agg, setC, List.set_cons_zero, List.set_cons_succ, List.length_cons, List.length_nil, Nat.reduceAdd, List.all_cons, List.all_nil, and_self, Nat.add_zero, Nat.zero_add, Nat.le_refl, List.cons_append, b_geq, decide_eq_false, ld9, st54, fa78_0, fa80_0, zz54, hr, hbd, List.append_assoc, List.getElem?_append_left, List.getElem?_append_right, List.set_append_left, List.set_append_right, List.length_set, List.set_set, List.length_append, Nat.add_sub_cancel_left, List.getElem?_set_self]) | (guard_target =~ VCall _ _ _ _ _ _ _; refine VCall.sh h1 ?_) | (guard_target =~ VCall _ _ _ _ _ _ _; refine VCall.sh h2 ?_) | (guard_target =~ VCall _ _ _ _ _ _ _; refine VCall.sh h3 ?_) | (guard_target =~ VCall _ _ _ _ _ _ _; refine VCall.pan mustF rfl ?_) | (guard_target =~ VCall _ _ _ _ _ _ _; refine VCall.pure (by first | with_reducible exact mustT | with_reducible exact hx) (by (first | rfl | (simp only [AV.hfs, AV.hf, Bool.and_self, Bool.and_true, Bool.true_and, strs_hfs]))) ?_) | (guard_target =~ DCal _ _ _ _ _ _ _; refine DCal.pure (by first | with_reducible exact mustT | with_reducible exact hx) (by (first | rfl | (simp only [AV.hfs, AV.hf, Bool.and_self, Bool.and_true, Bool.true_and, strs_hfs]))) ?_))
          exact ⟨_, rfl, rfl, .refl _, rfl, subH_drop (set_hlt (hall _ (by rw [List.length_set]; exact Nat.le_refl _)) rfl)⟩
    · have q1 : hasP s1 [61] = false := by simpa using q1
      rw [q1] at h2
      have e1 : prR s = (none, cutP s1 [61]) := by simp only [prR, hn, q1, Bool.false_eq_true, if_false]
      rw [e1]
      repeat' (first | (simp (disch := first | omega | (simp only [List.length_append, List.length_cons, List.length_nil, List.length_map, List.length_set]; omega)) only [VC_seq, VC_region, VO_nil, VO_plain, VV_some, VS, ofV_lit, callOf, isPanic, nextOf, altA, evalOp, ev_tmp, ev_const, ev_func, Av.get, St.put, argT, thenQ, Nat.reduceEqDiff, ↓reduceIte, Bool.and_self, List.map_cons, List.map_nil, List.nil_append, List.append_nil, List.getElem?_cons_zero, List.getElem?_cons_succ, Option.map_some, stC, ic_str, cl_agg, setC, List.set_cons_zero, List.set_cons_succ, List.length_cons, List.length_nil, Nat.reduceAdd, List.all_cons, List.all_nil, and_self, Nat.zero_add, Nat.le_refl, List.cons_append, st54, zz54, hr, hbd, List.append_assoc, List.getElem?_append_right, List.set_append_left, List.set_append_right, List.length_set, List.set_set, List.length_append, Nat.add_sub_cancel_left]) | (guard_target =~ VCall _ _ _ _ _ _ _; refine VCall.sh h1 ?_) | (guard_target =~ VCall _ _ _ _ _ _ _; refine VCall.sh h2 ?_) | (guard_target =~ VCall _ _ _ _ _ _ _; refine VCall.pan mustF rfl ?_))
      exact ⟨_, rfl, rfl, .refl _, rfl, subH_drop (set_hlt (hall _ (by rw [List.length_set]; exact Nat.le_refl _)) rfl)⟩
end Go.Proofs.YtjlhemfmeboadaaGreatDoor
namespace Go.Proofs.YtjlhemfmeboadaaGreatDoor
set_option linter.unusedVariables false
set_option linter.unusedSimpArgs false
open Go Go.Av Go.RowKit

def psF : Nat → Bytes → Option (List (Bytes × Bytes) × Bytes)
  | 0, s => some ([], s)
  | n + 1, s => if hasP s [59] then (match prR (cutP s [59]) with
      | (some p, t) => (psF n t).map fun q => (p :: q.1, q.2)
      | (none, _) => none) else some ([], s)
def psR (s:Bytes):Option (List (Bytes × Bytes) × Bytes):=psF (s.length + 1) s
def endR (g n s:Bytes):Option Ln:=match psR s with
 | none=>none
 | some (ps,t)=>if hasP t [58] then some ⟨g,n,false,ps,cutP t [58]⟩ else none
def lnR (s : Bytes) : Option Ln := match nmR s with
  | none => none
  | some (n, t) => if hasP t [46] then (match nmR (cutP t [46]) with
      | none => none
      | some (m, u) => endR n m u) else endR [] n t

def lnOut (o:Option Ln):Out:=match o with | some l=>.ret (encLn l) | none=>stopA
theorem hasP_cut {s p:Bytes} (h:hasP s p = true):(cutP s p).length + p.length = s.length:=by
 have:=hasP_le h
 unfold cutP; rw [if_pos h,List.length_drop]; omega
theorem cutB_len:∀ (s:Bytes) (c:UInt8),(cutB s c).2.1.length≤s.length
 | [],c=>by simp [cutB]
 | x::t,c=>by
  have:=cutB_len t c
  unfold cutB; split
  ·simp
  ·simp; omega
theorem prR_len (s:Bytes):(prR s).2.length≤s.length:=by
 unfold prR
 cases h:nmR s with
 | none=>simp
 | some p=>
  obtain ⟨n,s1⟩:=p
  have h1:=nmR_len h
  have h2:=cutP_len s1 [61]
  have h3:=cutP_len (cutP s1 [61]) [34]
  have h4:=cutB_len (cutP (cutP s1 [61]) [34]) 34
  simp only
  split
  ·split
   ·split
    ·simp only; omega
    ·simp only; omega
   ·split
    ·simp only [List.length_drop]; omega
    ·simp only; omega
  ·simp only; omega
theorem encR_cells (p:Bytes × Bytes):(encR p).cells.length = esz 3:=rfl
noncomputable def lnTail:Code:=match Tryz.f42.body with
 | some (.seq _ (.seq _ (.seq _ (.seq _ c))))=>c
 | _=>.skip
def lrZ:OB:=.cells [.str [],.str [],.nilsl,.str []] false
def lrV (k:Nat) (z:Bool) (L:List (Bytes × Bytes)):AV:=if z then .sl (3 + k) 0 L.length 3 else .nilsl
def lrB (s g n:Bytes) (v:AV):List OB:=[lrZ,.cells [.str s] false,.cells [.str g,.str n,v,.str []] false]
theorem lnV_deN {k:Nat} {z:Bool} {L:List (Bytes × Bytes)} (h:z = false→L = []):deN (lrV k z L) = memV 3 0 3 encR k z L:=by
 cases z
 ·rw [h rfl]; rfl
 ·rfl
theorem lnV_hlt {k m:Nat} {z:Bool} {L:List (Bytes × Bytes)} (h:z = true→3 + k < m):(lrV k z L).hlt m = true:=by
 cases z
 ·rfl
 ·simp [lrV,AV.hlt,h rfl]
theorem encRc_hlts (m:Nat) (p:Bytes × Bytes):AV.hlts m (encR p).cells = true:=rfl
theorem lnB_hlt {s g n:Bytes} {v:AV} {m:Nat} (hv:v.hlt m = true):(lrB s g n v).all (OB.hlt m) = true:=by
 simp [lrB,lrZ,OB.hlt,AV.hlts,AV.hlt,hv]
theorem lnM_ok {s g n:Bytes} {k j:Nat} {z:Bool} {L:List (Bytes × Bytes)}:okH (mem (lrB s g n (lrV k z L)) encR k j z L):=fun m hm=>by
 refine mem_hlt (lnB_hlt (lnV_hlt fun hz=>?_)) (encRc_hlts m)
 rw [mem_len,hz] at hm
 simp [lrB] at hm; omega
theorem lnB_set1 (s t g n:Bytes) (v:AV):(lrB s g n v).set 1 (.cells [.str t] false) = lrB t g n v:=rfl
set_option maxRecDepth 8000 in
theorem linedT (g n s0 : Bytes) (hs : s0.length ≤ 1000000) (T : List (Nat × AV)) (hT : holdsT T [(2, .ptr 0 0), (3, .ptr 1 0), (4, .ptr 2 0)]) :
    W Tryz.prog 39 0 none lnTail (retQ Tryz.prog Tryz.f42.results.toList (lnOut (endR g n s0))) ⟨T, lrB s0 g n .nilsl, []⟩ := by
  refine W.fewer _ hT ?_
  have hb1 : ∀ p : Bytes × Bytes, evBuildSlice Tryz.prog 43 1 [(0, .agg [.str p.1, .str p.2])] = some (.vsl 3 true [encR p]) := by
    intro p; simp [evBuildSlice, Tryz.underlying43, ap43, AV.cells, AV.told, List.range', encR]
  refine .seq (.block ?_)
  refine W.loopG (X := Bytes × List (Bytes × Bytes) × Nat × Nat × Bool × Nat) (fun _ => [(2, .ptr 0 0), (3, .ptr 1 0), (4, .ptr 2 0)])
    (fun x => mem (lrB x.1 g n (lrV x.2.2.1 x.2.2.2.2.1 x.2.1)) encR x.2.2.1 x.2.2.2.1 x.2.2.2.2.1 x.2.1)
    (fun x => x.1.length ≤ 1000000 ∧ x.1.length + x.2.1.length ≤ 1000000 ∧ x.1.length < x.2.2.2.2.2 ∧ (x.2.2.2.2.1 = false → x.2.1 = []) ∧ (psF x.2.2.2.2.2 x.1).map (fun q => (x.2.1 ++ q.1, q.2)) = psR s0)
    (fun x => x.1.length) (s0, [], 0, 0, false, s0.length + 1) (fun _ => Nat.zero_le _) rfl ⟨hs, by simpa using hs, Nat.lt_succ_self _, fun _ => rfl, by simp [psR]⟩ ?_ ?_ ?_ ?_
  · simp only [subT, Av.get, Nat.reduceEqDiff, ↓reduceIte, Le_rfl, nat0, nat1, and_self, true_and, and_true, List.length_map, List.length_nil]
  · simp only [hltT, AV.hlt, AV.hlts, strs_hlts, Bool.and_self, Bool.and_true, Bool.true_and, mem_len, lrB, List.length_cons, List.length_nil]
    decide
  · simp [mem, lrB, lrV, lrZ, subH, OB.hlt, AV.hlts, AV.hlt]
  rintro ⟨s, L, k, j, z, fu⟩ ⟨l1, l2, l3, l4, l5⟩
  simp only at l1 l2 l3 l4 l5 ⊢
  obtain ⟨v, hv⟩ : ∃ v, v = lrV k z L := ⟨_, rfl⟩
  obtain ⟨M, hM⟩ : ∃ M, M = mem (lrB s g n (lrV k z L)) encR k j z L := ⟨_, rfl⟩
  have hok : okH M := by rw [hM]; exact lnM_ok
  have hM0 : M[0]? = some lrZ := by rw [hM, mem_get (by simp [lrB])]; rfl
  have hM1 : M[1]? = some (.cells [.str s] false) := by rw [hM, mem_get (by simp [lrB])]; rfl
  have hM2 : M[2]? = some (.cells [.str g, .str n, v, .str []] false) := by rw [hM, mem_get (by simp [lrB]), hv]; rfl
  have hMl : 3 ≤ M.length := by rw [hM, mem_len]; simp [lrB]; omega
  rw [← hM]
  have hokS : ∀ t : Bytes, okH (M.set 1 (.cells [.str t] false)) := fun t => okH_set hok (fun m _ => rfl)
  have hgS : ∀ t : Bytes, (M.set 1 (.cells [.str t] false))[1]? = some (.cells [.str t] false) := fun t => set_get hM1
  have hi := isR hM1 hok [59]
  have hvh : ∀ m, M.length ≤ m → v.hlt m = true := by
    intro m hm
    rw [hv]; refine lnV_hlt fun hz => ?_
    rw [hM, mem_len, hz] at hm; simp [lrB] at hm; omega
  obtain ⟨fu, rfl⟩ : ∃ f, fu = f + 1 := ⟨fu - 1, by omega⟩
  rw [psF] at l5
  by_cases q : hasP s [59] = true
  · rw [q] at hi
    rw [if_pos q] at l5
    have hlen := hasP_cut q
    obtain ⟨s1, hs1⟩ : ∃ s1, s1 = cutP s [59] := ⟨_, rfl⟩
    rw [← hs1] at hi l5 hlen
    simp only [List.length_cons, List.length_nil] at hlen
    have hp := paramR (hgS s1) (hokS s1) (by omega)
    have hpl := prR_len s1
    rw [List.set_set] at hp
    refine .vc (by decide) ?_
    obtain ⟨⟨o, t⟩, ht⟩ : ∃ x, x = prR s1 := ⟨_, rfl⟩
    rw [← ht] at hp hpl l5
    simp only at hp hpl
    cases o with
    | none =>
      simp only [Option.map_none] at l5
      have hend : endR g n s0 = none := by simp only [endR, ← l5]
      rw [hend]
      simp only at hp
      repeat' (first | (simp (disch := first | omega | (simp only [List.length_append, List.length_cons, List.length_nil, List.length_map, List.length_set]; omega)) only [VC_skip, VC_seq, VC_cond, VC_block, VC_region, VC_drawn, VI_true, VO_nil, VO_plain, VV_some, VS, ofV_lit, callOf, isPanic, nextOf, altA, evalOp, ev_tmp, ev_const, ev_func, Av.get, St.put, thenQ, Nat.reduceEqDiff, ↓reduceIte, List.map_cons, List.map_nil, List.nil_append, List.append_nil, hM2]) | (guard_target =~ VCall _ _ _ _ _ _ _; refine VCall.sh hi ?_))
      refine W.drawP 3 [] [] [false, false, false] [] mixed (by kernel_rfl) (by kernel_rfl) (by kernel_rfl) ?_
      repeat' (first | (simp (disch := first | omega | (simp only [List.length_append, List.length_cons, List.length_nil, List.length_map, List.length_set]; omega)) only [VV_some, blockQ, DT_plain, DS, cHs_f, cHs_n, cPs, cF, callOf, isPanic, evalOp, ev_tmp, ev_func, Av.get, St.put, thenQ, Nat.reduceEqDiff, ↓reduceIte, List.map_cons, List.map_nil, List.nil_append, List.append_nil, List.getElem?_cons_zero, List.getElem?_cons_succ, Option.map_some, ldC, List.length_cons, List.length_nil, Nat.reduceAdd, and_self, true_and, Nat.zero_add, List.cons_append, ld43, fa45_2, hM2, List.getElem?_set_ne]) | (guard_target =~ DCal _ _ _ _ _ _ _; refine DCal.shPan hp ?_))
      exact ⟨_, rfl, rfl, _, rfl, .refl _⟩
    | some p =>
      simp only at hp l5
      obtain ⟨M', ha1, ha2, ha3, ha4, ha5⟩ := mem_app (wd := 3) (bytes := 32) Tryz.underlying43 ap43 encR encR_cells (fun _ => rfl) (by decide) (lrB t g n (lrV k z L)) k j z L (w0 := 0) (fun hz => .inr (l4 hz)) [] p true (by omega) (M := M.set 1 (.cells [.str t] false)) (by rw [hM, mem_set (by simp [lrB])]; rfl)
      have hk : (M.set 1 (.cells [.str t] false)).length + ([] : List OB).length - (lrB t g n (lrV k z L)).length = M.length - 3 := by rw [List.length_set]; simp [lrB]
      rw [hk] at ha1 ha4
      have hBl : (lrB t g n (lrV k z L)).length = 3 := rfl
      rw [List.append_nil, hBl, ← lnV_deN l4, ← hv] at ha1
      obtain ⟨k', hk'⟩ : ∃ k', k' = M.length - 3 := ⟨_, rfl⟩
      rw [← hk'] at ha1 ha4
      have hvN : memV 3 0 3 encR k' true (L ++ [p]) = .sl (3 + k') 0 (L ++ [p]).length 3 := rfl
      rw [hvN] at ha1
      have hM'2 : M'[2]? = some (.cells [.str g, .str n, v, .str []] false) := by rw [ha5 2 (by simp [lrB]), hv]; rfl
      simp only [encR] at hp
      have hvd : deN v = memV 3 0 3 encR k z L := by rw [hv]; exact lnV_deN l4
      repeat' (first | (simp (disch := first | omega | (simp only [List.length_append, List.length_cons, List.length_nil, List.length_map, List.length_set]; omega)) only [VC_skip, VC_seq, VC_cond, VC_block, VC_region, VC_drawn, VI_true, VO_nil, VO_plain, VV_some, VS, ofV_lit, callOf, isPanic, nextOf, altA, evalOp, ev_tmp, ev_const, ev_func, Av.get, St.put, thenQ, Nat.reduceEqDiff, ↓reduceIte, List.map_cons, List.map_nil, List.nil_append, List.append_nil, hM2]) | (guard_target =~ VCall _ _ _ _ _ _ _; refine VCall.sh hi ?_))
      refine W.drawN [3, 5, 7] [false, false, false, true, false, true, false, true] [(1, 4)] mixed (by kernel_rfl) (by kernel_rfl) (by kernel_rfl) ?_
      repeat' (first | (simp (disch := first | omega | (simp only [List.length_append, List.length_cons, List.length_nil, List.length_map, List.length_set]; omega)) only [VV_some, blockQ, DT_nil, DT_plain, DS, cHs_t, cHs_f, cHs_n, cPs, lastS_1, lastS_2, vOf, evNil, AV.told, deN_vsl, evNextB, callOf, isPanic, evalOp, ev_tmp, ev_func, Av.get, St.put, thenQ, Nat.reduceEqDiff, ↓reduceIte, Bool.and_self, List.map_cons, List.map_nil, List.nil_append, List.append_nil, List.getElem?_cons_zero, List.getElem?_cons_succ, List.getElem?_toArray, Option.map_some, pickA, ldC, stC, cl_sl, ic_sl, setC, List.set_cons_zero, List.set_cons_succ, List.length_cons, List.length_nil, Nat.reduceAdd, Nat.reduceLeDiff, List.all_cons, List.all_nil, and_self, true_and, and_true, Nat.zero_add, List.cons_append, st43, ld43, fa45_2, hM2, hb1 p, ha1, hM'2, List.length_append, List.getElem?_set_ne]) | (guard_target =~ DCal _ _ _ _ _ _ _; refine DCal.sh hp ?_))
      refine ⟨(t, L ++ [p], k', 0, true, fu), ⟨by simp only; omega, by simp only [List.length_append, List.length_cons, List.length_nil]; omega, by simp only; omega, (fun h => by cases h), ?_⟩, by simp only; omega, ?_, ?_, ?_⟩
      · simp only
        rw [← l5]
        cases psF fu t <;> simp
      · simp only [subT, Av.get, Nat.reduceEqDiff, ↓reduceIte, Le_rfl, nat0, nat1, and_self, true_and, and_true, List.length_map, List.length_nil]
      · have : 3 ≤ (mem (lrB t g n (lrV k' true (L ++ [p]))) encR k' 0 true (L ++ [p])).length := by rw [mem_len]; simp [lrB]; omega
        simp only [hltT, AV.hlt, Bool.and_eq_true, decide_eq_true_eq, Bool.and_true]
        omega
      · have h4 := ha4 (mem (lrB t g n (lrV k' true (L ++ [p]))) encR k' 0 true (L ++ [p])).length (lnB_hlt (lnV_hlt fun hz => ?_)) (encRc_hlts _)
        · have h5 := subH_set (b := .cells [.str g, .str n, lrV k' true (L ++ [p]), .str []] false) (i := 2) ?_ h4
          · rw [mem_set (by simp [lrB])] at h5
            have e : (lrB t g n (lrV k z L)).set 2 (.cells [.str g, .str n, lrV k' true (L ++ [p]), .str []] false) = lrB t g n (lrV k' true (L ++ [p])) := rfl
            rw [e] at h5
            simpa [lrV] using h5
          · have : (lrV k' true (L ++ [p])).hlt (mem (lrB t g n (lrV k' true (L ++ [p]))) encR k' 0 true (L ++ [p])).length = true := lnV_hlt fun _ => by rw [mem_len]; simp [lrB]
            simp [OB.hlt, AV.hlts, AV.hlt, this]
        · rw [mem_len, hk']
          rw [hM, mem_len, hz]; simp [lrB]; omega
  · have q : hasP s [59] = false := by simpa using q
    rw [q] at hi
    rw [if_neg (by simp [q])] at l5
    have hcut : cutP s [59] = s := by unfold cutP; rw [if_neg (by simp [q])]
    rw [hcut, set_get_same hM1] at hi
    simp only [Option.map_some, List.append_nil] at l5
    have hj := isR hM1 hok [58]
    refine .vc (by decide) ?_
    by_cases q2 : hasP s [58] = true
    · rw [q2] at hj
      have hend : endR g n s0 = some ⟨g, n, false, L, cutP s [58]⟩ := by simp only [endR, ← l5, q2, if_true]
      rw [hend]
      repeat' (first | (simp (disch := first | omega | (simp only [List.length_append, List.length_cons, List.length_nil, List.length_map, List.length_set]; omega)) only [VC_seq, VC_cond, VC_exit, VC_region, VI_false, VO_nil, VO_plain, VV_some, VS, blockQ, ofV_lit, callOf, isPanic, nextOf, altA, evalOp, ev_tmp, ev_const, ev_func, Av.get, St.put, thenQ, Nat.reduceEqDiff, ↓reduceIte, List.map_cons, List.map_nil, List.nil_append, List.append_nil, hM0, hM1, hM2]) | (guard_target =~ VCall _ _ _ _ _ _ _; refine VCall.sh hi ?_))
      refine .vc (by decide) ?_
      have hMk : z = true → (M.set 1 (.cells [.str (cutP s [58])] false))[3 + k]? = some (.cells (flatA encR L) true) := by
        intro hz
        rw [List.getElem?_set_ne (by omega), hM, hz]
        exact mem_at (B := lrB s g n (lrV k true L))
      have hvc : ∀ c c0, ∃ u, fz (((M.set 1 (.cells [.str (cutP s [58])] false)).set 2 c).set 0 c0) 19 v = some u ∧ Le u (.vsl 3 false (L.map encR)) := by
        intro c c0
        cases z with
        | false => rw [hv, l4 rfl]; exact ⟨_, rfl, .nils _ _⟩
        | true =>
          rw [hv]
          refine slIn_fz (n := 2) (k := 18) (by decide) (fun x => ⟨[.str x.1, .str x.2], rfl, rfl⟩) (fun _ => rfl) (.inr ⟨3 + k, rfl, ?_⟩)
          rw [List.getElem?_set_ne (by omega), List.getElem?_set_ne (by omega)]
          exact hMk rfl
      have hvI : v = .nilsl ∨ ∃ a b, v = .sl a 0 b 3 := by rw [hv]; cases z <;> simp [lrV]
      rcases hvI with hvI | ⟨a, b, hvI⟩ <;> rw [hvI] at hM2 hvc
      all_goals
        repeat' (first | (simp (disch := first | omega | (simp only [List.length_append, List.length_cons, List.length_nil, List.length_map, List.length_set]; omega)) only [VC_seq, VC_ret, VC_region, VO_nil, VO_plain, VV_some, VS, evNil, ofV_lit, callOf, isPanic, nextOf, altA, evalOp, ev_tmp, ev_const, ev_func, Av.get, St.put, thenQ, Nat.reduceEqDiff, ↓reduceIte, Bool.and_self, List.map_cons, List.map_nil, List.nil_append, List.append_nil, List.getElem?_cons_zero, Option.map_some, ldC, ldG, stC, cl_str, ic_str, ic_sl, ic_nilsl, cl_agg, setC, List.set_cons_zero, List.set_cons_succ, List.length_cons, List.length_nil, Nat.reduceAdd, List.all_cons, List.all_nil, and_self, Nat.add_zero, Nat.zero_add, List.drop_zero, List.take_succ_cons, List.take_zero, Nat.le_refl, st9, ld9, st45, ld45, fa45_3, fa78_0, fa80_0, hM0, hM1, hM2, lrZ, List.getElem?_set_self, List.getElem?_set_ne]) | (guard_target =~ VCall _ _ _ _ _ _ _; refine VCall.sh hj ?_) | (guard_target =~ VCall _ _ _ _ _ _ _; refine VCall.pure (by first | with_reducible exact mustT) (by (first | rfl | (simp only [AV.hfs, AV.hf, Bool.and_self, Bool.and_true, Bool.true_and, strs_hfs]))) ?_) | (guard_target =~ DCal _ _ _ _ _ _ _; refine DCal.pure (by first | with_reducible exact mustT) (by (first | rfl | (simp only [AV.hfs, AV.hf, Bool.and_self, Bool.and_true, Bool.true_and, strs_hfs]))) ?_))
        refine retCz (v := .agg [.str g, .str n, _, .str (cutP s [58])]) 2 45 rfl rfl ?_ (fz_aggL (k := 18) (ts := [.str g, .str n, .vsl 3 false (L.map encR), .str (cutP s [58])]) (LzL_hf rfl (LzL_hf rfl ⟨hvc _ _, LzL_hf rfl trivial⟩)))
        simp (disch := first | omega | (simp only [List.length_append, List.length_cons, List.length_nil, List.length_map, List.length_set]; omega)) only [Av.get, Nat.reduceEqDiff, ↓reduceIte, ldG, List.length_cons, List.length_nil, Nat.reduceAdd, Nat.zero_add, List.drop_zero, List.take_succ_cons, List.take_zero, Nat.le_refl, ld45, hM0, lrZ, List.getElem?_set_self]
    · have q2 : hasP s [58] = false := by simpa using q2
      rw [q2] at hj
      have hend : endR g n s0 = none := by simp only [endR, ← l5, q2, Bool.false_eq_true, if_false]
      rw [hend]
      repeat' (first | (simp (disch := first | omega | (simp only [List.length_append, List.length_cons, List.length_nil, List.length_map, List.length_set]; omega)) only [VC_seq, VC_cond, VC_exit, VC_region, VI_false, VO_nil, VO_plain, VV_some, VS, blockQ, ofV_lit, callOf, isPanic, nextOf, altA, evalOp, ev_tmp, ev_const, ev_func, Av.get, St.put, thenQ, Nat.reduceEqDiff, ↓reduceIte, List.map_cons, List.map_nil, List.nil_append, List.append_nil, hM2]) | (guard_target =~ VCall _ _ _ _ _ _ _; refine VCall.sh hi ?_))
      refine .vc (by decide) ?_
      repeat' (first | (simp (disch := first | omega | (simp only [List.length_append, List.length_cons, List.length_nil, List.length_map, List.length_set]; omega)) only [VC_seq, VC_region, VO_plain, VV_some, VS, ofV_lit, callOf, isPanic, nextOf, altA, evalOp, ev_tmp, ev_const, ev_func, Av.get, St.put, thenQ, Nat.reduceEqDiff, ↓reduceIte, List.map_cons, List.map_nil, List.nil_append, List.append_nil, hM2]) | (guard_target =~ VCall _ _ _ _ _ _ _; refine VCall.sh hj ?_) | (guard_target =~ VCall _ _ _ _ _ _ _; refine VCall.pan mustF rfl ?_))
      exact ⟨_, rfl, rfl, _, rfl, .refl _⟩

set_option maxRecDepth 8000 in
theorem linedV (s:Bytes) (hs:s.length≤1000000):PureFn Tryz.prog 42 [.str s] (lnOut (lnR s)):=by
 refine PureFn.of Tryz.func42 rfl (enters_call enters Tryz.func42 rfl) (by simp [Tryz.ntmps42]) ?_
 show W Tryz.prog 39 0 none _ _ _
 have hb1:∀ s:Bytes,evBuild Tryz.prog 78 [(0,.str s)] = some (.agg [.str s]):=fun s=>by kernel_rfl
 have hb2:∀ s:Bytes,evBuild Tryz.prog 80 [(0,.agg [.str s])] = some (.agg [.str s]):=fun s=>by kernel_rfl
 have hb3:∀ s:Bytes,evBuild Tryz.prog 45 [(1,.str s)] = some (.agg [.str [],.str s,.nilsl,.str []]):=fun s=>by kernel_rfl
 refine .seq (.vc (by decide) ?_)
 repeat' (first | (simp (disch:=first | omega | (simp only [List.length_append,List.length_cons,List.length_nil,List.length_map,List.length_set]; omega)) only [VC_region,VO_nil,VO_plain,VV_some,VS,callOf,isPanic,nextOf,altA,evalOp,St.put,argT,thenQ,List.nil_append,Option.map_some,cl_agg,List.length_nil,zz45]))
 refine .seq (.vc (by decide) ?_)
 repeat' (first | (simp (disch:=first | omega | (simp only [List.length_append,List.length_cons,List.length_nil,List.length_map,List.length_set]; omega)) only [VC_region,VO_nil,VO_plain,VV_some,VS,AV.told,callOf,isPanic,nextOf,altA,evalOp,ev_tmp,Av.get,St.put,thenQ,Nat.reduceEqDiff,↓reduceIte,List.map_cons,List.map_nil,List.nil_append,Option.map_some,cl_agg,List.length_cons,List.length_nil,Nat.zero_add,List.cons_append,hb1,hb2]))
 have hok1:okH [lrZ,.cells [.str s] false]:=fun m _=>rfl
 cases h1:nmR s with
 | none=>
  have e:lnR s = none:=by simp only [lnR,h1]
  rw [e]
  have hn:=name_no (r:=1) rfl hok1 h1
  simp only [lrZ] at hn
  refine .seq (.vc (by decide) ?_)
  repeat' (first | (simp (disch:=first | omega | (simp only [List.length_append,List.length_cons,List.length_nil,List.length_map,List.length_set]; omega)) only [VC_region,VO_plain,VV_some,VS,callOf,isPanic,nextOf,altA,evalOp,ev_tmp,ev_func,Av.get,St.put,thenQ,↓reduceIte,List.map_cons,List.map_nil,List.nil_append,List.append_nil]) | (guard_target =~ VCall _ _ _ _ _ _ _; refine VCall.shPan hn ?_))
  exact ⟨_,rfl,rfl,_,rfl,.refl _⟩
 | some p=>
  obtain ⟨n,t⟩:=p
  have l1:=nmR_len h1
  have hn:=name_ok (r:=1) rfl hok1 h1
  simp only [lrZ,List.set_cons_succ,List.set_cons_zero] at hn
  refine .seq (.vc (by decide) ?_)
  repeat' (first | (simp (disch:=first | omega | (simp only [List.length_append,List.length_cons,List.length_nil,List.length_map,List.length_set]; omega)) only [VC_region,VO_nil,VO_plain,VV_some,VS,callOf,isPanic,nextOf,altA,evalOp,ev_tmp,ev_func,Av.get,St.put,thenQ,Nat.reduceEqDiff,↓reduceIte,Bool.and_self,List.map_cons,List.map_nil,List.nil_append,List.append_nil,List.getElem?_cons_zero,List.getElem?_cons_succ,Option.map_some,stC,ic_str,ic_nilsl,cl_agg,setC,List.set_cons_zero,List.set_cons_succ,List.length_cons,List.length_nil,Nat.reduceAdd,List.all_cons,List.all_nil,and_self,Nat.zero_add,Nat.le_refl,List.cons_append,st45,zz45,hb3]) | (guard_target =~ VCall _ _ _ _ _ _ _; refine VCall.sh hn ?_))
  have hok2:∀ a b c:Bytes,okH (lrB a b c .nilsl):=fun a b c m _=>rfl
  have hi:=isR (r:=1) (s:=t) (H:=lrB t [] n .nilsl) rfl (hok2 _ _ _) [46]
  rw [lnB_set1] at hi
  simp only [lrB,lrZ] at hi
  by_cases q:hasP t [46] = true
  ·rw [q] at hi
   have l2:=cutP_len t [46]
   obtain ⟨t2,ht2⟩:∃ t2,t2 = cutP t [46]:=⟨_,rfl⟩
   rw [← ht2] at hi l2
   cases h2:nmR t2 with
   | none=>
    have e:lnR s = none:=by simp only [lnR,h1,q,if_true,← ht2,h2]
    rw [e]
    have hm:=name_no (r:=1) (s:=t2) (H:=lrB t2 [] n .nilsl) rfl (hok2 _ _ _) h2
    simp only [lrB,lrZ] at hm
    refine .seq (.vc (by decide) ?_)
    repeat' (first | (simp (disch:=first | omega | (simp only [List.length_append,List.length_cons,List.length_nil,List.length_map,List.length_set]; omega)) only [VC_seq,VC_cond,VC_region,VC_drawn,VI_true,VO_nil,VO_plain,VV_some,VS,ofV_lit,callOf,isPanic,nextOf,altA,evalOp,ev_tmp,ev_const,ev_func,Av.get,St.put,thenQ,Nat.reduceEqDiff,↓reduceIte,List.map_cons,List.map_nil,List.nil_append,List.append_nil]) | (guard_target =~ VCall _ _ _ _ _ _ _; refine VCall.sh hi ?_))
    refine W.drawP 3 [4] [] [false,false,false] [] mixed (by kernel_rfl) (by kernel_rfl) (by kernel_rfl) ?_
    repeat' (first | (simp (disch:=first | omega | (simp only [List.length_append,List.length_cons,List.length_nil,List.length_map,List.length_set]; omega)) only [VV_some,DT_plain,DS,cHs_f,cHs_n,cPs,lastS_1,lastS_2,cF,callOf,isPanic,evalOp,ev_tmp,ev_func,Av.get,St.put,thenQ,Nat.reduceEqDiff,↓reduceIte,List.map_cons,List.map_nil,List.nil_append,List.append_nil,List.getElem?_cons_zero,List.getElem?_cons_succ,List.getElem?_toArray,Option.map_some,ldC,List.length_cons,List.length_nil,Nat.reduceAdd,and_self,true_and,and_true,Nat.add_zero,Nat.zero_add,List.cons_append,ld9,fa45_0,fa45_1]) | (guard_target =~ DCal _ _ _ _ _ _ _; refine DCal.shPan hm ?_))
    exact ⟨⟨_,rfl⟩,_,rfl,rfl,_,rfl,.refl _⟩
   | some p2=>
    obtain ⟨m,u⟩:=p2
    have l3:=nmR_len h2
    have e:lnR s = endR n m u:=by simp only [lnR,h1,q,if_true,← ht2,h2]
    rw [e]
    have hm:=name_ok (r:=1) (s:=t2) (H:=lrB t2 [] n .nilsl) rfl (hok2 _ _ _) h2
    rw [lnB_set1] at hm
    simp only [lrB,lrZ] at hm
    refine W.seqT [(2,.ptr 0 0),(3,.ptr 1 0),(4,.ptr 2 0)] (lrB u n m .nilsl) (.vc (by decide) ?_) (linedT n m u (by omega) _ ⟨rfl,rfl,rfl,trivial⟩)
    simp only [lrB,lrZ]
    repeat' (first | (simp (disch:=first | omega | (simp only [List.length_append,List.length_cons,List.length_nil,List.length_map,List.length_set]; omega)) only [VC_seq,VC_cond,VC_region,VC_drawn,VI_true,VO_nil,VO_plain,VV_some,VS,ofV_lit,callOf,isPanic,nextOf,altA,evalOp,ev_tmp,ev_const,ev_func,Av.get,St.put,thenQ,Nat.reduceEqDiff,↓reduceIte,List.map_cons,List.map_nil,List.nil_append,List.append_nil]) | (guard_target =~ VCall _ _ _ _ _ _ _; refine VCall.sh hi ?_))
    refine W.drawN [3,5,7] [false,false,false,true,false,true,false,true] [(1,4)] mixed (by kernel_rfl) (by kernel_rfl) (by kernel_rfl) ?_
    repeat' (first | (simp (disch:=first | omega | (simp only [List.length_append,List.length_cons,List.length_nil,List.length_map,List.length_set]; omega)) only [VV_some,DT_nil,DT_plain,DS,cHs_t,cHs_f,cHs_n,cPs,lastS_1,lastS_2,vOf,evNil,AV.told,evNextB,callOf,isPanic,evalOp,ev_tmp,ev_func,Av.get,St.put,thenQ,Nat.reduceEqDiff,↓reduceIte,Bool.and_self,List.map_cons,List.map_nil,List.nil_append,List.append_nil,List.getElem?_cons_zero,List.getElem?_cons_succ,List.getElem?_toArray,Option.map_some,pickA,ldC,stC,cl_str,ic_str,setC,List.set_cons_zero,List.set_cons_succ,List.length_cons,List.length_nil,Nat.reduceAdd,Nat.reduceLeDiff,List.all_cons,List.all_nil,and_self,true_and,and_true,Nat.add_zero,Nat.zero_add,List.cons_append,st9,ld9,fa45_0,fa45_1]) | (guard_target =~ DCal _ _ _ _ _ _ _; refine DCal.sh hm ?_))
    exact ⟨rfl,rfl,rfl,trivial⟩
  ·have q:hasP t [46] = false:=by simpa using q
   rw [q] at hi
   have hcut:cutP t [46] = t:=by unfold cutP; rw [if_neg (by simp [q])]
   rw [hcut] at hi
   have e:lnR s = endR [] n t:=by simp only [lnR,h1,q,Bool.false_eq_true,if_false]
   rw [e]
   refine W.seqT [(2,.ptr 0 0),(3,.ptr 1 0),(4,.ptr 2 0)] (lrB t [] n .nilsl) (.vc (by decide) ?_) (linedT [] n t (by omega) _ ⟨rfl,rfl,rfl,trivial⟩)
   simp only [lrB,lrZ]
   repeat' (first | (simp (disch:=first | omega | (simp only [List.length_append,List.length_cons,List.length_nil,List.length_map,List.length_set]; omega)) only [VC_skip,VC_seq,VC_cond,VC_region,VI_false,VO_nil,VO_plain,VV_some,VS,ofV_lit,callOf,isPanic,nextOf,altA,evalOp,ev_tmp,ev_const,ev_func,Av.get,St.put,thenQ,Nat.reduceEqDiff,↓reduceIte,List.map_cons,List.map_nil,List.nil_append,List.append_nil,and_self,and_true]) | (guard_target =~ VCall _ _ _ _ _ _ _; refine VCall.sh hi ?_))
   exact ⟨rfl,rfl,rfl,trivial⟩
end Go.Proofs.YtjlhemfmeboadaaGreatDoor
namespace Go.Proofs.YtjlhemfmeboadaaGreatDoor
set_option linter.unusedVariables false
set_option linter.unusedSimpArgs false
open Go Go.Av Go.RowKit

def linesF:Nat→Bytes→List Bytes
 | 0,_=>[]
 | n + 1,s=>if s = [] then [] else (if (cutB s 10).2.2 then trimS (cutB s 10).1 [13] else (cutB s 10).1)::linesF n (cutB s 10).2.1
def linesU (u:Bytes):List Bytes:=linesF (u.length + 1) u
def linesR (s:Bytes):List Bytes:=linesU (unf s)
theorem cutB_lt {s:Bytes} {c:UInt8} (h:s ≠ []):(cutB s c).2.1.length < s.length:=by
 cases s with
 | nil=>exact (h rfl).elim
 | cons x t=>
  have:=cutB_len t c
  unfold cutB; split
  ·simp
  ·simp; omega
theorem cutB_len1:∀ (s:Bytes) (c:UInt8),(cutB s c).1.length≤s.length
 | [],c=>by simp [cutB]
 | x::t,c=>by
  have:=cutB_len1 t c
  unfold cutB; split
  ·simp
  ·simp; omega
set_option maxRecDepth 8000 in
theorem endsI (yid : Nat) (s : Bytes) (hs : s.length ≤ 1000000) (H : List OB) (J : List Bytes → List OB → Prop) (hJ : J [] H)
    (hstep : ∀ l m K, l.length ≤ 1000000 → J l K → ∃ K', YFn Tryz.prog yid [.str m] K (.ret (.bool true)) K' ∧ J (l ++ [m]) K') :
    ShFnS Tryz.prog 71 [.yld yid, .vptr [.str s]] H (fun out K => out = .ret (.tup []) ∧ J (linesR s) K) := by
  refine ShFnS.ofX Tryz.func71 rfl (enters_call enters Tryz.func71 rfl) (by simp [Tryz.ntmps71]) ?_
  show W Tryz.prog 25 _ none _ _ _
  refine W.scope_straight ?_
  have hu := unfolded40 s hs
  have hul := unf_le s
  refine .vc (by decide) ?_
  repeat' (first | (simp (disch := first | omega | (simp only [List.length_append, List.length_cons, List.length_nil, List.length_map, List.length_set]; omega)) only [VC_seq, VC_block, VC_label, VC_region, VC_loop, VO_nil, VO_plain, VV_some, VS, callOf, isPanic, nextOf, altA, evalOp, ev_tmp, ev_func, Av.get, St.put, argT, thenQ, Nat.reduceEqDiff, ↓reduceIte, List.map_cons, List.map_nil, List.nil_append, List.append_nil, Option.map_some, Nat.zero_add, lw9]) | (guard_target =~ VCall _ _ _ _ _ _ _; refine VCall.pure (by first | with_reducible exact hu) (by (first | rfl | (simp only [AV.hfs, AV.hf, Bool.and_self, Bool.and_true, Bool.true_and, strs_hfs]))) ?_) | (guard_target =~ DCal _ _ _ _ _ _ _; refine DCal.pure (by first | with_reducible exact hu) (by (first | rfl | (simp only [AV.hfs, AV.hf, Bool.and_self, Bool.and_true, Bool.true_and, strs_hfs]))) ?_))
  refine W.loop (X := Bytes × List Bytes × Nat) (fun x a => holdsT a.T [(0, .yld yid), (3, .str x.1)] ∧ J x.2.1 a.H ∧ a.D = [] ∧ x.2.1 ++ linesF x.2.2 x.1 = linesR s ∧ x.1.length < x.2.2 ∧ x.2.1.length + x.1.length ≤ 1000000) (fun x => x.1.length) (unf s, [], (unf s).length + 1) ⟨⟨rfl, rfl, trivial⟩, hJ, rfl, rfl, Nat.lt_succ_self _, by simp; omega⟩ ?_
  rintro ⟨left, l, n⟩ ⟨T, K, D⟩ ⟨h1, h2, rfl, h4, h5, h6⟩
  simp only at h1 h2 h4 h5 h6
  refine W.fewer _ h1 (.vc (by decide) ?_)
  obtain ⟨n, rfl⟩ : ∃ k, n = k + 1 := ⟨n - 1, by omega⟩
  rw [linesF] at h4
  by_cases q : left = []
  · have e : (left == []) = true := by simp [q]
    rw [if_pos q, List.append_nil] at h4
    repeat' (first | (simp (disch := first | omega | (simp only [List.length_append, List.length_cons, List.length_nil, List.length_map, List.length_set]; omega)) only [VC_seq, VC_cond, VC_exit, VC_region, VI_false, VO_nil, VO_plain, VV_some, VS, blockQ, ofV_lit, callOf, isPanic, nextOf, altA, evalOp, ev_tmp, ev_const, Av.get, St.put, thenQ, Nat.reduceEqDiff, ↓reduceIte, Bool.not_true, s_neq, e]))
    exact ⟨_, _, ⟨rfl, h4 ▸ h2⟩, _, rfl, rfl, _, rfl, rfl⟩
  · have e : (left == []) = false := by simp [q]
    rw [if_neg q] at h4
    have hc := cut72 left 10 (by omega)
    have hl := cutB_lt (c := 10) q
    have hl1 := cutB_len1 left 10
    obtain ⟨⟨a, b, is⟩, hv⟩ : ∃ x, x = cutB left 10 := ⟨_, rfl⟩
    rw [← hv] at hc h4 hl hl1
    simp only at h4 hl hl1
    cases is with
    | true =>
      have ht := trim73 a [13] (by omega)
      rw [if_pos rfl] at h4
      obtain ⟨K', hy, hJ'⟩ := hstep l (trimS a [13]) K (by omega) h2
      repeat' (first | (simp (disch := first | omega | (simp only [List.length_append, List.length_cons, List.length_nil, List.length_map, List.length_set]; omega)) only [VC_skip, VC_seq, VC_cond, VC_block, VC_region, VI_true, VI_false, VO_nil, VO_plain, VV_some, VS, blockQ, u_notb, ofV_lit, callOf, isPanic, nextOf, altA, evalOp, ev_tmp, ev_const, ev_func, Av.get, St.put, thenQ, Nat.reduceEqDiff, ↓reduceIte, List.map_cons, List.map_nil, List.nil_append, List.append_nil, List.getElem?_cons_zero, List.getElem?_cons_succ, Option.map_some, Bool.not_true, Bool.not_false, true_and, s_neq, e]) | (guard_target =~ VCall _ _ _ _ _ _ _; refine VCall.sh hy ?_) | (guard_target =~ VCall _ _ _ _ _ _ _; refine VCall.pure (by first | with_reducible exact hc | with_reducible exact ht) (by (first | rfl | (simp only [AV.hfs, AV.hf, Bool.and_self, Bool.and_true, Bool.true_and, strs_hfs]))) ?_) | (guard_target =~ DCal _ _ _ _ _ _ _; refine DCal.pure (by first | with_reducible exact hc | with_reducible exact ht) (by (first | rfl | (simp only [AV.hfs, AV.hf, Bool.and_self, Bool.and_true, Bool.true_and, strs_hfs]))) ?_))
      exact ⟨(b, l ++ [trimS a [13]], n), ⟨⟨rfl, rfl, trivial⟩, hJ', by rw [← h4]; simp, by simp only; omega, by simp only [List.length_append, List.length_cons, List.length_nil]; omega⟩, hl⟩
    | false =>
      rw [if_neg (by simp)] at h4
      obtain ⟨K', hy, hJ'⟩ := hstep l a K (by omega) h2
      repeat' (first | (simp (disch := first | omega | (simp only [List.length_append, List.length_cons, List.length_nil, List.length_map, List.length_set]; omega)) only [VC_skip, VC_seq, VC_cond, VC_block, VC_region, VI_true, VI_false, VO_nil, VO_plain, VV_some, VS, blockQ, u_notb, ofV_lit, callOf, isPanic, nextOf, altA, evalOp, ev_tmp, ev_const, ev_func, Av.get, St.put, thenQ, Nat.reduceEqDiff, ↓reduceIte, List.map_cons, List.map_nil, List.nil_append, List.append_nil, List.getElem?_cons_zero, List.getElem?_cons_succ, Option.map_some, Bool.not_true, Bool.not_false, true_and, s_neq, e]) | (guard_target =~ VCall _ _ _ _ _ _ _; refine VCall.sh hy ?_) | (guard_target =~ VCall _ _ _ _ _ _ _; refine VCall.pure (by first | with_reducible exact hc) (by (first | rfl | (simp only [AV.hfs, AV.hf, Bool.and_self, Bool.and_true, Bool.true_and, strs_hfs]))) ?_) | (guard_target =~ DCal _ _ _ _ _ _ _; refine DCal.pure (by first | with_reducible exact hc) (by (first | rfl | (simp only [AV.hfs, AV.hf, Bool.and_self, Bool.and_true, Bool.true_and, strs_hfs]))) ?_))
      exact ⟨(b, l ++ [a], n), ⟨⟨rfl, rfl, trivial⟩, hJ', by rw [← h4]; simp, by simp only; omega, by simp only [List.length_append, List.length_cons, List.length_nil]; omega⟩, hl⟩

/-! ### Collected -/
noncomputable def asC:Code:=match Tryz.f70.body with
 | some (.seq _ (.seq (.seq _ (.block _ (.rangeFunc _ _ a _))) _))=>a
 | _=>.skip
noncomputable def bdC:Code:=match Tryz.f70.body with
 | some (.seq _ (.seq (.seq _ (.block _ (.rangeFunc _ _ _ b))) _))=>b
 | _=>.skip
noncomputable def lkC:LoopK:=⟨13,#[7],asC,bdC,.ready,none⟩
noncomputable def kbC:LoopK:=⟨13,#[7],asC,bdC,.busy,none⟩
def tC (g:AV):List (Nat × AV):=[(6,g),(4,.vsl 0 true []),(2,.ptr 0 0),(0,.vsl 0 true []),(1,g)]
def jC (g:AV) (s:List Bytes) (K:List OB):Prop:=
 K[1]? = some .dfr∧K[2]? = some (.loop (tC g) lkC)∧∃ v,K[0]? = some (.cells [v] false)∧slIn 0 .str K v s∧v.isC = true∧(∀ i,i < 3→v ≠ .sl i 0 s.length 0)∧deN v = v
theorem ldS1 (H:List OB) (id:Nat) (v:AV) (b:Bool) (h:H[id]? = some (.cells [v] b)):evLoad Tryz.prog 38 (.ptr id 0) H = some v:=by
 simp [ld38,ldC,h]
theorem stS1 (H:List OB) (id:Nat) (u v:AV) (h:H[id]? = some (.cells [u] false)) (hv:v.isC = true):evStore Tryz.prog 38 (.ptr id 0) v H = some (H.set id (.cells [v] false)):=by
 have hc:v.cells = [v]:=one_cells (by cases v<;>first | rfl | cases hv)
 simp [st38,stC,h,hc,hv,setC]
theorem bsS1 (s:Bytes):evBuildSlice Tryz.prog 38 1 [(0,.str s)] = some (.vsl 0 true [.str s]):=by
 simp [evBuildSlice,Tryz.underlying38,ap38,AV.cells,AV.told,List.range']
set_option maxRecDepth 100000 in
theorem roundC (g : AV) (s : List Bytes) (m : Bytes) (K : List OB) (hs : s.length ≤ 1000000) (hJ : jC g s K) :
    ∃ K', YFn Tryz.prog 2 [.str m] K (.ret (.bool true)) K' ∧ jC g (s ++ [m]) K' := by
  obtain ⟨h1, h2, v, h0, hin, hvc, hne, hde⟩ := hJ
  have l2 : 2 < K.length := (List.getElem?_eq_some_iff.1 h2).1
  obtain ⟨M, hM⟩ : ∃ M, M = K.set 2 (.loop (tC g) kbC) := ⟨_, rfl⟩
  have lM : M.length = K.length := by rw [hM, List.length_set]
  have gM : ∀ i, i ≠ 2 → M[i]? = K[i]? := by
    intro i hi2
    rw [hM, List.getElem?_set, if_neg (by omega)]
  have gM2 : M[2]? = some (.loop (tC g) kbC) := by rw [hM, List.getElem?_set_self (by omega)]
  have hin' : slIn 0 AV.str M v s := by
    rcases hin with h | ⟨d, hv, hd⟩
    · exact .inl h
    · have hd2 : d ≠ 2 := by rintro rfl; rw [h2] at hd; cases hd
      exact .inr ⟨d, hv, by rw [gM d hd2]; exact hd⟩
  obtain ⟨M', hap, hl', hnew, hold⟩ := slIn_app (P := Tryz.prog) (sT := 38) (wd := 0) (bytes := 16) Tryz.underlying38 ap38 AV.str (fun _ => rfl) (fun _ => rfl) (by decide) hin' m true (by omega)
  have o0 : M'[0]? = some (.cells [v] false) := by rw [hold 0 (by omega) (hne 0 (by omega)), gM 0 (by omega)]; exact h0
  have o1 : M'[1]? = some .dfr := by rw [hold 1 (by omega) (hne 1 (by omega)), gM 1 (by omega)]; exact h1
  have o2 : M'[2]? = some (.loop (tC g) kbC) := by rw [hold 2 (by omega) (hne 2 (by omega))]; exact gM2
  have k0 : evLoad Tryz.prog 38 (.ptr 0 0) M = some v := ldS1 M 0 v false (by rw [gM 0 (by omega)]; exact h0)
  have k2 : evStore Tryz.prog 38 (.ptr 0 0) (.sl M.length 0 (s.length + 1) 0) M' = some (M'.set 0 (.cells [.sl M.length 0 (s.length + 1) 0] false)) := stS1 M' 0 v _ o0 rfl
  refine ⟨(M'.set 0 (.cells [.sl M.length 0 (s.length + 1) 0] false)).set 2 (.loop (tC g) lkC), ?_, ?_⟩
  · refine YFn.of h2 (by simp [lkC]) fun l => ?_
    show W Tryz.prog 13 _ _ (.region 2 _ _) _ ⟨(7, .str m) :: tC g, K, []⟩
    refine .vc (by decide) ?_
    repeat' (first | (simp (disch := first | omega | (simp only [List.length_append, List.length_cons, List.length_nil, List.length_map, List.length_set]; omega)) only [VC_region, VO_nil, VO_plain, VV_some, VS, callOf, isPanic, nextOf, altA, evalOp, ev_tmp, Av.get, St.put, ↓reduceIte, tC]))
    refine ⟨tC g, lkC, h2, rfl, ?_⟩
    rw [show ({ lkC with st := .busy } : LoopK) = kbC from rfl]
    show W Tryz.prog 13 _ _ (.block 1 (.region 3 _ _)) _ ⟨_, K.set 2 _, _⟩
    rw [← hM]
    refine .vc (by decide) ?_
    repeat' (first | (simp (disch := first | omega | (simp only [List.length_append, List.length_cons, List.length_nil, List.length_map, List.length_set]; omega)) only [VC_block, VC_region, VO_nil, VO_plain, VV_some, VS, blockQ, deN_vsl, callOf, isPanic, nextOf, altA, evalOp, ev_tmp, Av.get, St.put, Nat.reduceEqDiff, ↓reduceIte, List.map_cons, List.map_nil, Option.map_some, k0, bsS1, hde, hap, k2, tC]))
    refine ⟨tC g, kbC, ?_, rfl, rfl⟩
    show (M'.set 0 _)[2]? = _
    rw [List.getElem?_set, if_neg (by decide)]; exact o2
  · have q : ∀ i, i ≠ 0 → i ≠ 2 → ((M'.set 0 (.cells [.sl M.length 0 (s.length + 1) 0] false)).set 2 (.loop (tC g) lkC))[i]? = M'[i]? := by
      intro i hi0 hi2
      rw [List.getElem?_set, if_neg (by omega), List.getElem?_set, if_neg (by omega)]
    refine ⟨by rw [q 1 (by decide) (by decide)]; exact o1, ?_, .sl M.length 0 (s.length + 1) 0, ?_, .inr ⟨M.length, by simp, ?_⟩, rfl, ?_, rfl⟩
    · rw [List.getElem?_set_self (by rw [List.length_set]; omega)]
    · rw [List.getElem?_set, if_neg (by decide), List.getElem?_set_self (by omega)]
    · rw [q M.length (by omega) (by omega)]; exact hnew
    · intro i hi h
      injection h with h3
      omega

theorem retFd {P:Program} {rs:List ResultVar} {a:St} {v u v':AV} (t d:Nat) (hr:rs = [.tmp t]) (hD:a.D = [.mark d]) (hd:a.H[d]? = some .dfr) (hg:Av.get a.T t = v) (hz:fz (a.H.set d .dead) 20 v = some u) (hl:Le u v'):retQ P rs (.ret v') .ret a:=by
 obtain ⟨T,H,D⟩:=a
 simp only at hD hd hg hz
 subst hD; subst hr; subst hg
 refine ⟨⟨T,H.set d .dead,[]⟩,?_,u,hz,hl⟩
 simp [endA,takeD,hd]
theorem slIn_fz0 {M:List OB} {v:AV} {L:List Bytes} {k:Nat} (h:slIn 0 AV.str M v L):∃ u,fz M (k + 1) v = some u∧Le u (.vsl 0 false (L.map .str)):=by
 rcases h with ⟨rfl,w,rfl⟩ | ⟨d,rfl,hd⟩
 ·exact ⟨_,rfl,.nil _ _ _⟩
 ·have hc:flatA AV.str L = L.map .str:=cells_strs L
  rw [hc] at hd
  refine ⟨.vsl 0 false (L.map .str),?_,.refl _⟩
  have e:(L.map AV.str).take L.length = L.map .str:=List.take_of_length_le (by simp)
  have:=fz_sl0 (k:=k) (off:=0) (len:=L.length) hd (by simp) (by rw [List.drop_zero,e]; exact strs_hfs L) (by rw [List.drop_zero,e]; exact strs_one L)
  rwa [List.drop_zero,e] at this
set_option maxRecDepth 100000 in
theorem seqC (s : Bytes) (hs : s.length ≤ 1000000) :
    PureFn Tryz.prog 70 [.vsl 0 true [], .func (.func 71) [] [.vptr [.str s]]] (.ret (.vsl 0 false ((linesR s).map .str))) := by
  generalize hg : AV.func (.func 71) [] [.vptr [.str s]] = g
  refine PureFn.of Tryz.func70 rfl (enters_call enters Tryz.func70 rfl) (by simp [Tryz.ntmps70]) ?_
  show W Tryz.prog 13 0 none _ _ _
  refine W.vc (by decide) ?_
  repeat' (first | (simp (disch := first | omega | (simp only [List.length_append, List.length_cons, List.length_nil, List.length_map, List.length_set]; omega)) only [VC_seq, VC_block, VC_region, VC_rangeFunc, VO_nil, VO_plain, VV_some, VS, AV.told, ofV_nsl, callOf, isPanic, nextOf, altA, evalOp, ev_tmp, ev_const, Av.get, St.put, argT, thenQ, Nat.reduceEqDiff, ↓reduceIte, List.nil_append, cl_vsl, List.length_nil, Nat.zero_add]))
  have hstep := endsI 2 s hs ([.cells [.vsl 0 true []] false] ++ [.dfr, .loop (tC g) lkC]) (jC g) ⟨rfl, rfl, _, rfl, .inl ⟨rfl, 0, rfl⟩, rfl, (by intro i _ h; cases h), rfl⟩ (fun l m K hl hJ => roundC g l m K hl hJ)
  refine W.rangeFuncS (gf := 71) (fs := []) (cs := [.vptr [.str s]]) (by rw [hg]; rfl) (enters_call enters Tryz.func71 rfl) hstep ?_
  rintro out K ⟨rfl, h1, h2, v, h0, hin, hvc, hne, hde⟩
  refine ⟨_, _, _, rfl, h2, by simp [lkC], ?_⟩
  show behindQ _ _ _ _ _ none
  have l2 : 2 < K.length := (List.getElem?_eq_some_iff.1 h2).1
  have k0 : evLoad Tryz.prog 38 (.ptr 0 0) (K.set 2 .dead) = some v := ldS1 _ 0 v false (by rw [List.getElem?_set, if_neg (by decide)]; exact h0)
  simp (disch := first | omega | (simp only [List.length_append, List.length_cons, List.length_nil, List.length_map, List.length_set]; omega)) only [VC_seq, VC_ret, VC_region, VO_nil, VO_plain, VV_some, VS, blockQ, callOf, isPanic, nextOf, altA, evalOp, ev_tmp, Av.get, St.put, thenQ, Nat.reduceEqDiff, ↓reduceIte, Option.map_some, List.length_cons, List.length_nil, Nat.reduceAdd, Nat.zero_add, behindQ, k0]
  have hin' : slIn 0 AV.str ((K.set 2 .dead).set 1 .dead) v (linesR s) := by
    rcases hin with h | ⟨d, hv, hd⟩
    · exact .inl h
    · have hd2 : d ≠ 2 := by rintro rfl; rw [h2] at hd; cases hd
      have hd1 : d ≠ 1 := by rintro rfl; rw [h1] at hd; cases hd
      exact .inr ⟨d, hv, by rw [List.getElem?_set, if_neg (by omega), List.getElem?_set, if_neg (by omega)]; exact hd⟩
  obtain ⟨u, hz, hle⟩ := slIn_fz0 (k := 19) hin'
  have hd1 : (K.set 2 OB.dead)[1]? = some .dfr := by rw [List.getElem?_set, if_neg (by decide)]; exact h1
  exact retFd 4 1 rfl rfl hd1 rfl hz hle

theorem collectC (s : Bytes) (hs : s.length ≤ 1000000) :
    PureFn Tryz.prog 48 [.func (.func 71) [] [.vptr [.str s]]] (.ret (.vsl 0 false ((linesR s).map .str))) := by
  refine PureFn.of Tryz.func48 rfl (enters_call enters Tryz.func48 rfl) (by simp [Tryz.ntmps48]) ?_
  show W Tryz.prog 5 0 none _ _ _
  refine W.vc (by decide) ?_
  repeat' (first | (simp (disch := first | omega | (simp only [List.length_append, List.length_cons, List.length_nil, List.length_map, List.length_set]; omega)) only [VC_seq, VC_ret, VC_region, VO_nil, VO_plain, VV_some, VS, ofV_nsl, callOf, isPanic, nextOf, altA, evalOp, ev_tmp, ev_const, ev_func, Av.get, St.put, argT, thenQ, Nat.reduceEqDiff, ↓reduceIte, List.map_cons, List.map_nil, List.nil_append, List.append_nil]) | (guard_target =~ VCall _ _ _ _ _ _ _; refine VCall.pure (by first | with_reducible exact seqC s hs) (by (first | rfl | (simp only [AV.hfs, AV.hf, Bool.and_self, Bool.and_true, Bool.true_and, strs_hfs]))) ?_) | (guard_target =~ DCal _ _ _ _ _ _ _; refine DCal.pure (by first | with_reducible exact seqC s hs) (by (first | rfl | (simp only [AV.hfs, AV.hf, Bool.and_self, Bool.and_true, Bool.true_and, strs_hfs]))) ?_))
  exact retT 2 rfl rfl rfl (by simp [Av.get, AV.hf, strs_hfs]) (.refl _)

theorem endsV (s:Bytes):PureFn Tryz.prog 49 [.str s] (.ret (.func (.func 71) [] [.vptr [.str s]])):=by
 refine PureFn.of Tryz.func49 rfl (enters_call enters Tryz.func49 rfl) (by simp [Tryz.ntmps49]) ?_
 show W Tryz.prog 4 0 none _ _ _
 refine W.vc (by decide) ?_
 repeat' (first | (simp (disch:=first | omega | (simp only [List.length_append,List.length_cons,List.length_nil,List.length_map,List.length_set]; omega)) only [VC_seq,VC_ret,VC_region,VO_nil,VO_plain,VV_some,VS,AV.told,ofV_nfn,callOf,isPanic,nextOf,altA,evalOp,ev_tmp,ev_const,Av.get,St.put,argT,thenQ,Nat.reduceEqDiff,↓reduceIte,List.map_cons,List.map_nil,List.nil_append,cl_str,List.length_nil]))
 exact ⟨_,rfl,_,rfl,.refl _⟩
theorem unfoldV (s:Bytes) (hs:s.length≤1000000):PureFn Tryz.prog 20 [.str s] (.ret (.vsl 0 false ((linesR s).map .str))):=by
 refine PureFn.of Tryz.func20 rfl (enters_call enters Tryz.func20 rfl) (by simp [Tryz.ntmps20]) ?_
 show W Tryz.prog 6 0 none _ _ _
 refine W.vc (by decide) ?_
 repeat' (first | (simp (disch:=first | omega | (simp only [List.length_append,List.length_cons,List.length_nil,List.length_map,List.length_set]; omega)) only [VC_seq,VC_ret,VC_region,VO_nil,VO_plain,VV_some,VS,ofV_nsl,callOf,isPanic,nextOf,altA,evalOp,ev_tmp,ev_const,ev_func,Av.get,St.put,argT,thenQ,Nat.reduceEqDiff,↓reduceIte,List.map_cons,List.map_nil,List.nil_append,List.append_nil]) | (guard_target =~ VCall _ _ _ _ _ _ _; refine VCall.pure (by first | with_reducible exact endsV s | with_reducible exact collectC s hs) (by (first | rfl | (simp only [AV.hfs,AV.hf,Bool.and_self,Bool.and_true,Bool.true_and,strs_hfs]))) ?_) | (guard_target =~ DCal _ _ _ _ _ _ _; refine DCal.pure (by first | with_reducible exact endsV s | with_reducible exact collectC s hs) (by (first | rfl | (simp only [AV.hfs,AV.hf,Bool.and_self,Bool.and_true,Bool.true_and,strs_hfs]))) ?_))
 exact retT 2 rfl rfl rfl (by simp [Av.get,AV.hf,strs_hfs]) (.refl _)
end Go.Proofs.YtjlhemfmeboadaaGreatDoor
namespace Go.Proofs.YtjlhemfmeboadaaGreatDoor
set_option linter.unusedVariables false
set_option linter.unusedSimpArgs false
open Go Go.Av Go.RowKit

/-! ### What is done where a parse gives up -/
theorem nk20:nilKind Tryz.prog 20 = 4:=by kernel_rfl
set_option maxRecDepth 8000 in
theorem recT {H : List OB} {a b c : AV} (hok : okH H) (h0 : H[0]? = some (.cells [a, b] false)) (h1 : H[1]? = some (.cells [c] false)) :
    DCall Tryz.prog 37 [.ptr 0 0, .ptr 1 0] (.pan 58 (.agg [])) H .ret ((H.set 0 (.cells [.str [], .nilsl] false)).set 1 (.cells [.int .i64 250] false)) := by
  have l1 : 1 < H.length := (List.getElem?_eq_some_iff.1 h1).1
  refine DCall.rec Tryz.func37 rfl rfl rfl rfl rfl (by simp [Tryz.ntmps37]) (enters_call enters Tryz.func37 rfl) (by simp [Tryz.ntmps37]) (by simp) ?_
  show W Tryz.prog 12 _ none _ _ _
  refine .vc (by decide) ?_
  have ha : evAssert Tryz.prog (.iface 58 (.agg [])) 20 58 true = some (.tup [.agg [], .bool true]) := evAssert_same Tryz.underlying58 (by intro w h; cases h)
  have hz : zeroA Tryz.prog 58 = some (.agg []) := by kernel_rfl
  have hb : evBuild Tryz.prog 24 [] = some (.agg [.str [], .nilsl]) := by kernel_rfl
  repeat' (first | (simp (disch := first | omega | (simp only [List.length_append, List.length_cons, List.length_nil, List.length_map, List.length_set]; omega)) only [VC_seq, VC_cond, VC_block, VC_region, VI_true, VI_false, VO_nil, VO_plain, VV_some, VS, blockQ, evBin_in, evNilEq_in, ofV_int, ofV_nif, callOf, isPanic, nextOf, altA, evalOp, ev_tmp, ev_const, Av.get, St.put, argT, thenQ, Nat.reduceEqDiff, ↓reduceIte, Bool.and_self, List.map_nil, List.getElem?_cons_zero, List.getElem?_cons_succ, Option.map_some, stC, cl_int, ic_int, ic_str, ic_nilsl, cl_agg, setC, List.set_cons_zero, List.set_cons_succ, List.length_cons, List.length_nil, Nat.reduceAdd, List.all_cons, List.all_nil, and_self, Nat.add_zero, Nat.zero_add, Nat.le_refl, st24, st27, st58, evNilC_if nk20, ha, hz, hb, h0, h1, List.getElem?_append_left, List.getElem?_append_right, List.set_append_left, List.set_append_right, Nat.sub_self, List.getElem?_set_ne]))
  refine ⟨rfl, ⟨_, rfl⟩, subH_drop ?_⟩
  exact set_hlt (set_hlt (hok _ (by simp)) rfl) rfl
set_option maxRecDepth 8000 in
theorem recN {H:List OB} (hok:okH H):DCall Tryz.prog 37 [.ptr 0 0,.ptr 1 0] .ret H .ret H:=by
 refine DCall.rec Tryz.func37 rfl rfl rfl rfl rfl (by simp [Tryz.ntmps37]) (enters_call enters Tryz.func37 rfl) (by simp [Tryz.ntmps37]) (Nat.le_refl _) ?_
 show W Tryz.prog 12 _ none _ _ _
 refine .vc (by decide) ?_
 repeat' (first | (simp (disch:=first | omega | (simp only [List.length_append,List.length_cons,List.length_nil,List.length_map,List.length_set]; omega)) only [VC_seq,VC_cond,VC_block,VC_region,VI_true,VO_nil,VO_plain,VV_some,VS,blockQ,evBin_nn,evNilEq_nn,ofV_nif,callOf,isPanic,nextOf,altA,evalOp,ev_tmp,ev_const,Av.get,St.put,argT,thenQ,Nat.reduceEqDiff,↓reduceIte,Option.map_some,Nat.zero_add,evNilC_ni nk20]))
 exact ⟨rfl,⟨_,rfl⟩,okH_self hok⟩
end Go.Proofs.YtjlhemfmeboadaaGreatDoor
