/- Contracts of functions that the statements of this seat reach: under the conditions named at each theorem. -/
import Derived.Test.YtjlhemfmeboadaaGreatDoorZeP6
import Derived.Test.YtjlhemfmeboadaaGreatDoorZeP7
import Derived.Lib.Bytealg
namespace Go.Proofs.YtjlhemfmeboadaaGreatDoor
set_option linter.unusedVariables false
set_option linter.unusedSimpArgs false
open Go Go.Av

def folds:List Bytes:=[[13,10,32],[],[13,10,9],[],[10,32],[],[10,9],[]]
def obF:OB:=.cells (folds.map .str) true
def obR:OB:=.cells [.int .u32 0,.int .i32 1,.int .u32 0,.nilif,.sl 0 0 8 0] false
def m1 (k:Nat):Nat:=if k = 9∨k = 10∨k = 13∨k = 32 then 1 else 0
def s1 (k:Nat):Nat:=(if 9 < k then 1 else 0) + (if 10 < k then 1 else 0) + (if 13 < k then 1 else 0) + (if 32 < k then 1 else 0)
def m2 (k:Nat):Nat:=if m1 k = 0 then 4 else s1 k
def mapL (f:Nat→Nat):List AV:=(List.range 256).map fun k=>.int .u8 ((f k:Nat):Int)
def r6 (t:AV) (n:Nat):List AV:=[.str [],.int .i64 0,.str [],.nilptr,t,.int .i64 n]
theorem mapL_get (f:Nat→Nat) (i:Nat) (h:i < 256):(mapL f)[i]? = some (.int .u8 ((f i:Nat):Int)):=by
 simp [mapL,List.getElem?_range h]
theorem mapL_set (f g:Nat→Nat) (i:Nat) (h:∀ k,k ≠ i→g k = f k):(mapL f).set i (.int .u8 ((g i:Nat):Int)) = mapL g:=by
 apply List.ext_getElem?
 intro k
 rw [List.getElem?_set]
 by_cases e:i = k
 ·subst e
  rw [if_pos rfl]
  by_cases hl:i < 256
  ·rw [if_pos (by simpa [mapL] using hl),mapL_get g i hl]
  ·rw [if_neg (by simpa [mapL] using hl)]; simp [mapL,List.getElem?_eq_none (l:=List.range 256) (i:=i) (by simpa using hl)]
 ·rw [if_neg e]
  by_cases hl:k < 256
  ·rw [mapL_get f k hl,mapL_get g k hl,h k (fun x=>e x.symm)]
  ·simp [mapL,List.getElem?_eq_none (l:=List.range 256) (i:=k) (by simpa using hl)]
theorem s1_step (i:Nat):s1 (i + 1) = s1 i + m1 i:=by
 unfold s1 m1
 split<;>(repeat' split)<;>omega
theorem s1_0:s1 0 = 0:=rfl
theorem s1_le (i:Nat):s1 i≤4:=by
 unfold s1
 (repeat' split)<;>omega
theorem z172:zeroA Tryz.prog 172 = some (.agg (r6 .nilsl 0++mapL fun _=>0)):=by kernel_rfl
def genH : List OB :=
  [obF, obR,
   .cells (r6 (.sl 3 0 4 0) 4 ++ mapL m2) false,
   .cells [.nilptr, .ptr 9 0, .ptr 4 0, .nilptr] false,
   .cells [.str [], .int .i64 0, .str [10], .ptr 6 0, .nilsl] false,
   .cells [.str [], .int .i64 8, .str [], .nilptr, .nilsl] false,
   .cells [.str [], .int .i64 0, .str [], .nilptr, .sl 8 0 4 0] false,
   .cells [.str [], .int .i64 6, .str [], .nilptr, .nilsl] false,
   .cells [.ptr 7 0, .nilptr, .nilptr, .ptr 5 0] false,
   .cells [.str [], .int .i64 0, .str [], .nilptr, .sl 12 0 4 0] false,
   .cells [.str [], .int .i64 4, .str [], .nilptr, .nilsl] false,
   .cells [.str [], .int .i64 2, .str [], .nilptr, .nilsl] false,
   .cells [.ptr 11 0, .nilptr, .nilptr, .ptr 10 0] false]

theorem ix137 (f:Nat→Nat) (i:Nat) (h:i < 256):evIndex Tryz.prog 137 (.agg (mapL f)) (.int .i64 (i:Int)) = some (.int .u8 ((f i:Nat):Int)):=by
 have:=mapL_get f i h
 simp [evIndex,idx_nat,Tryz.underlying137,tz5,h,evPart,tg5,ldA,this]
theorem ia137 (i:Nat) (h:i < 256) (id off:Nat) (H:List OB):evIndexAddr Tryz.prog 137 (.ptr id off) (.int .i64 (i:Int)) H = some (.ptr id (off + i)):=by
 simp [evIndexAddr,idx_nat,Tryz.underlying137,tz5,h]
theorem wr8 (n:Nat) (h:n < 256):IntKind.wrap .u8 (n:Int) = n:=by
 unfold IntKind.wrap; simp [IntKind.bits,IntKind.signed]; omega
theorem wr64 (n:Nat) (h:n < 256):IntKind.wrap .i64 (n:Int) = n:=wrap64 _ (by omega)
theorem cv8 (n:Nat) (h:n < 256) (H:List OB):evConv Tryz.prog 5 3 (.int .u8 (n:Int)) H = some (.int .i64 (n:Int),H):=by
 simp [evConv,Tryz.underlying5,Tryz.underlying3,wr64 n h]
theorem cv64 (n:Nat) (h:n < 256) (H:List OB):evConv Tryz.prog 3 5 (.int .i64 (n:Int)) H = some (.int .u8 (n:Int),H):=by
 simp [evConv,Tryz.underlying5,Tryz.underlying3,wr8 n h]
theorem add64 (t a b:Nat) (h:a + b < 1000):evBin Tryz.prog .add t (.int .i64 (a:Int)) (.int .i64 (b:Int)) = some (.int .i64 ((a + b:Nat):Int)):=by
 rw [b_add64 _ _ (by omega)]; simp
theorem add1 (t a:Nat) (h:a < 9223372036854775807):evBin Tryz.prog .add t (.int .i64 (a:Int)) (.int .i64 1) = some (.int .i64 ((a + 1:Nat):Int)):=by
 rw [b_add64 _ _ (by omega)]; simp
theorem bnds1 {n:Nat} (k:IntKind) (h:1≤n):bnds n (some (.int k 1)) none = some (1,n):=bnds_from k 1 h
theorem m1_lt (k:Nat):m1 k < 256:=by unfold m1; split<;>omega
theorem hmapL (m:Nat) (f:Nat→Nat):AV.hlts m (mapL f) = true:=by rw [hlts_all,List.all_eq_true]; intro v hv; obtain ⟨k,_,rfl⟩:=List.mem_map.1 hv; rfl
theorem hmap1 (f:Nat→Nat):hltT 3 [(40,.agg (mapL f)),(3,.ptr 2 0),(0,.sl 0 0 8 0)] = true:=by
 simp [hltT,AV.hlt,hmapL]
theorem hmap2 (n:Nat) (f:Nat→Nat):hltT 3 [(9,.int .u8 (n:Int)),(57,.agg (mapL f)),(3,.ptr 2 0),(0,.sl 0 0 8 0)] = true:=by
 simp [hltT,AV.hlt,hmapL]
def mm (i k:Nat):Nat:=if k < i then m2 k else m1 k
theorem mm_next (i:Nat):∀ k,k ≠ i→mm (i + 1) k = mm i k:=by
 intro k hk
 unfold mm
 by_cases h:k < i
 ·rw [if_pos h,if_pos (by omega)]
 ·rw [if_neg h,if_neg (by omega)]
theorem st_map (i : Nat) (hi : i < 256) (f g : Nat → Nat) (h : ∀ k, k ≠ i → g k = f k) (t : AV) (n : Nat) :
    evStore Tryz.prog 5 (.ptr 2 (6 + i)) (.int .u8 ((g i : Nat) : Int)) [obF, obR, .cells (r6 t n ++ mapL f) false] = some [obF, obR, .cells (r6 t n ++ mapL g) false] := by
  have hl : (mapL f).length = 256 := by simp [mapL]
  have h6 : (r6 t n).length = 6 := rfl
  have hset : (r6 t n ++ mapL f).set (6 + i) (.int .u8 ((g i : Nat) : Int)) = r6 t n ++ mapL g := by
    rw [List.set_append_right _ _ (by omega), h6, Nat.add_sub_cancel_left, mapL_set f g i h]
  simp [st5, stC, AV.cells, AV.isC, setC, hset, hl, h6]
  omega

theorem hobs (n:Nat) (f:Nat→Nat):subH 3 [obF,obR,.cells (r6 .nilsl n++mapL f) false] [obF,obR,.cells (r6 .nilsl n++mapL f) false]:=by
 have:AV.hlts 3 (r6 .nilsl n++mapL f) = true:=by
  rw [hlts_all,List.all_append,← hlts_all,← hlts_all,hmapL]; rfl
 refine ⟨rfl,by rfl,rfl,by rfl,rfl,?_,trivial⟩
 exact this
theorem gen119:ShFn Tryz.prog 119 [.sl 0 0 8 0] [obF,obR] (.ret (.ptr 2 0)) genH:=by
 refine ShFn.ofX Tryz.func119 rfl (enters_call enters Tryz.func119 rfl) (by simp [Tryz.ntmps119]) ?_
 show W Tryz.prog 117 2 none _ _ _
 refine .seq (.region [] (by decide) ?_)
 simp only [EOps,gdA,callOf,isPanic,nextOf,altA,evalOp,St.ev,St.put,argT,ofV,thenQ]
 refine .seq (.region [] (by decide) ?_)
 simp only [EOps,gdA,callOf,isPanic,nextOf,altA,evalOp,St.ev,Av.get,St.put,thenQ,↓reduceIte,List.nil_append,Option.map_some,AV.cells,List.length_cons,List.length_nil,Nat.reduceAdd,Nat.zero_add,List.cons_append,z172]
 refine .seq (W.runs mixed enters 1 [(3,.ptr 2 0),(0,.sl 0 0 8 0)] [obF,obR,.cells (r6 .nilsl 0++mapL m1) false] (by kernel_rfl) (.inl ?_))
 refine .seq (.seq (.region [] (by decide) ?_))
 have hld:evLoad Tryz.prog 137 (.ptr 2 6) [obF,obR,.cells (r6 .nilsl 0++mapL m1) false] = some (.agg (mapL m1)):=by kernel_rfl
 simp only [EOps,gdA,callOf,isPanic,nextOf,altA,evalOp,St.ev,Av.get,St.put,ofV,thenQ,↓reduceIte,Option.map_some,Nat.zero_add,evNil,fa172_2,hld]
 refine .block ?_
 refine .forK 41 42 53 256 (by decide) rfl rfl rfl rfl rfl rfl rfl rfl rfl (by decide) (by decide) (by decide)
  (fun _=>[(40,.agg (mapL m1)),(3,.ptr 2 0),(0,.sl 0 0 8 0)]) (fun _=>rfl) (fun i=>[obF,obR,.cells (r6 .nilsl (s1 i)++mapL m1) false]) ?_ (fun _=>True)
  rfl trivial ?_ (fun i _=>hmap1 _) ?_ ?_ ?_
 ·intro i; exact Nat.le_succ 2
 ·simp only [subT,Av.get,Nat.reduceEqDiff,↓reduceIte,Le_rfl,nat0,nat1,and_self]
 ·exact hobs 0 m1
 ·intro i hi _
  refine .block (.seq (.region [] (by decide) ?_))
  simp only [EOps,gdA,callOf,isPanic,nextOf,altA,evalOp,St.ev,Av.get,St.put,thenQ,Nat.reduceEqDiff,↓reduceIte,Option.map_some,List.length_cons,List.length_nil,Nat.reduceAdd,true_and,Nat.zero_add,ix137 m1 i hi]
  refine .region [] (by decide) ?_
  have hl:evLoad Tryz.prog 3 (.ptr 2 5) [obF,obR,.cells (r6 .nilsl (s1 i)++mapL m1) false] = some (.int .i64 (s1 i:Int)):=by simp [ld3,ldC,r6]
  have hst:evStore Tryz.prog 3 (.ptr 2 5) (.int .i64 ((s1 (i + 1):Nat):Int)) [obF,obR,.cells (r6 .nilsl (s1 i)++mapL m1) false] = some [obF,obR,.cells (r6 .nilsl (s1 (i + 1))++mapL m1) false]:=by
   simp [st3,stC,r6,AV.cells,AV.isC,setC]
  simp only [EOps,gdA,callOf,isPanic,nextOf,altA,evalOp,St.ev,Av.get,St.put,thenQ,Nat.reduceEqDiff,↓reduceIte,Option.map_some,and_true,Nat.zero_add,blockQ,evNil,fa172_1,hl,cv8 _ (m1_lt i),add64 3 (s1 i) (m1 i) (by have:=s1_le i; have:=m1_lt i; omega),← s1_step i,hst]
  refine ⟨?_,?_⟩
  ·simp only [subT,Av.get,Nat.reduceEqDiff,↓reduceIte,Le_rfl,nat0,nat1,and_self]
  ·exact hobs _ _
 ·intro _
  simp only [thenQ,↓reduceIte,blockQ]
  refine .seq (.region [] (by decide) ?_)
  simp only [EOps,gdA,callOf,isPanic,nextOf,altA,evalOp,St.ev,St.put,ofV,thenQ]
  refine .seq (.seq (.region [] (by decide) ?_))
  have hld2:evLoad Tryz.prog 137 (.ptr 2 6) [obF,obR,.cells (r6 .nilsl (s1 256)++mapL m1) false] = some (.agg (mapL m1)):=by kernel_rfl
  simp only [EOps,gdA,callOf,isPanic,nextOf,altA,evalOp,St.ev,Av.get,St.put,ofV,thenQ,Nat.reduceEqDiff,↓reduceIte,Option.map_some,Nat.zero_add,evNil,fa172_2,hld2]
  refine .block ?_
  refine .forK 58 59 82 256 (by decide) rfl rfl rfl rfl rfl rfl rfl rfl rfl (by decide) (by decide) (by decide)
   (fun i=>[(9,.int .u8 (s1 i:Int)),(57,.agg (mapL m1)),(3,.ptr 2 0),(0,.sl 0 0 8 0)]) (fun _=>rfl) (fun i=>[obF,obR,.cells (r6 .nilsl 4++mapL (mm i)) false]) ?_ (fun _=>True)
   rfl trivial ?_ (fun i _=>hmap2 _ _) ?_ ?_ ?_
  ·intro i; exact Nat.le_succ 2
  ·simp only [subT,Av.get,Nat.reduceEqDiff,↓reduceIte,Le_rfl,nat0,nat1,and_self,s1_0]
  ·exact hobs 4 m1
  ·intro i hi _
   refine .block (.seq (.region [] (by decide) ?_))
   simp only [EOps,gdA,callOf,isPanic,nextOf,altA,evalOp,St.ev,Av.get,St.put,thenQ,Nat.reduceEqDiff,↓reduceIte,Option.map_some,List.length_cons,List.length_nil,Nat.reduceAdd,true_and,Nat.zero_add,ix137 m1 i hi]
   refine .seq (.region [] (by decide) ?_)
   simp only [EOps,gdA,callOf,isPanic,nextOf,altA,evalOp,St.ev,Av.get,St.put,ofV,thenQ,↓reduceIte,b_eql]
   have hs2:=s1_step i
   have hs4:=s1_le i
   by_cases hm:m1 i = 0
   ·refine .cond (t:=true) (by simp [St.ev,Av.get,hm]) ?_
    have hl:evLoad Tryz.prog 3 (.ptr 2 5) [obF,obR,.cells (r6 .nilsl 4++mapL (mm i)) false] = some (.int .i64 4):=by simp [ld3,ldC,r6]
    have hst:evStore Tryz.prog 5 (.ptr 2 (6 + i)) (.int .u8 4) [obF,obR,.cells (r6 .nilsl 4++mapL (mm i)) false] = some [obF,obR,.cells (r6 .nilsl 4++mapL (mm (i + 1))) false]:=by
     have:=st_map i hi (mm i) (mm (i + 1)) (mm_next i) .nilsl 4
     rw [show mm (i + 1) i = 4 by simp [mm,m2,hm]] at this
     exact this
    have hcv:evConv Tryz.prog 3 5 (.int .i64 4) [obF,obR,.cells (r6 .nilsl 4++mapL (mm i)) false] = some (.int .u8 4,[obF,obR,.cells (r6 .nilsl 4++mapL (mm i)) false]):=cv64 4 (by decide) _
    refine W.drawS (pre:=[_,_,_,_,_,_,_,_,_,_]) (ow:=_) (post:=[]) (r:=.junk) (H':=[obF,obR,.cells (r6 .nilsl 4++mapL (mm (i + 1))) false]) [] [] mixed (by kernel_rfl) rfl (by kernel_rfl) (by kernel_rfl) ?_
    generalize hB:[obF,obR,OB.cells (r6 .nilsl 4++mapL (mm i)) false] = B at *
    generalize hB2:[obF,obR,OB.cells (r6 .nilsl 4++mapL (mm (i + 1))) false] = B2 at *
    simp only [EDg,gdA,callOf,isPanic,evalOp,St.ev,Av.get,St.put,thenQ,Nat.reduceEqDiff,↓reduceIte,Option.map_some,true_and,and_true,Nat.zero_add,blockQ,evNil,fa172_1,fa172_2,hl,hcv,ia137 i hi,hst]
    subst hB2
    refine ⟨?_,hobs _ _⟩
    have:s1 (i + 1) = s1 i:=by omega
    simp only [subT,Av.get,Nat.reduceEqDiff,↓reduceIte,Le_rfl,nat0,nat1,and_self,this]
   ·refine .cond (t:=false) (by simp [St.ev,Av.get]; omega) ?_
    have hst:evStore Tryz.prog 5 (.ptr 2 (6 + i)) (.int .u8 ((s1 i:Nat):Int)) [obF,obR,.cells (r6 .nilsl 4++mapL (mm i)) false] = some [obF,obR,.cells (r6 .nilsl 4++mapL (mm (i + 1))) false]:=by
     have:=st_map i hi (mm i) (mm (i + 1)) (mm_next i) .nilsl 4
     rw [show mm (i + 1) i = s1 i by simp [mm,m2,hm]] at this
     exact this
    have hm1:m1 i = 1:=by unfold m1 at hm ⊢; split<;>simp_all
    have hadd:evBin Tryz.prog .add 5 (.int .u8 ((s1 i:Nat):Int)) (.int .u8 1) = some (.int .u8 ((s1 (i + 1):Nat):Int)):=by
     have h2:=wr8 (s1 i + 1) (by omega)
     have h3:((s1 i:Nat):Int) + 1 = ((s1 i + 1:Nat):Int):=by simp
     simp only [evBin,h3,h2,hs2,hm1,↓reduceIte]
    refine .seq (.region [] (by decide) ?_)
    simp only [EOps,gdA,callOf,isPanic,nextOf,altA,evalOp,St.ev,Av.get,St.put,thenQ,Nat.reduceEqDiff,↓reduceIte,Option.map_some,Nat.zero_add,evNil,fa172_2,ia137 i hi,hst]
    refine .region [] (by decide) ?_
    simp only [EOps,gdA,callOf,isPanic,nextOf,altA,evalOp,St.ev,Av.get,St.put,ofV,thenQ,Nat.reduceEqDiff,↓reduceIte,and_true,blockQ,hadd]
    refine ⟨?_,hobs _ _⟩
    simp only [subT,Av.get,Nat.reduceEqDiff,↓reduceIte,Le_rfl,nat0,nat1,and_self]
  ·intro _
   simp only [thenQ,↓reduceIte,blockQ]
   have hM:mapL (mm 256) = mapL m2:=by
    unfold mapL
    refine List.map_congr_left fun k hk=>?_
    have:k < 256:=by simpa using hk
    simp [mm,this]
   have hl:evLoad Tryz.prog 3 (.ptr 2 5) [obF,obR,.cells (r6 .nilsl 4++mapL m2) false] = some (.int .i64 4):=by simp [ld3,ldC,r6]
   have hmk:evMakeSlice Tryz.prog 168 (.int .i64 4) (.int .i64 4) [obF,obR,.cells (r6 .nilsl 4++mapL m2) false] = some (.sl 3 0 4 0,[obF,obR,.cells (r6 .nilsl 4++mapL m2) false,.cells [.nilptr,.nilptr,.nilptr,.nilptr] false]):=by kernel_rfl
   have hst:evStore Tryz.prog 168 (.ptr 2 4) (.sl 3 0 4 0) [obF,obR,.cells (r6 .nilsl 4++mapL m2) false,.cells [.nilptr,.nilptr,.nilptr,.nilptr] false] = some [obF,obR,.cells (r6 (.sl 3 0 4 0) 4++mapL m2) false,.cells [.nilptr,.nilptr,.nilptr,.nilptr] false]:=by
    simp [st168,stC,r6,AV.cells,AV.isC,setC]
   rw [hM]
   refine .seq (.region [] (by decide) ?_)
   simp only [EOps,gdA,callOf,isPanic,nextOf,altA,evalOp,St.ev,Av.get,St.put,thenQ,Nat.reduceEqDiff,↓reduceIte,Option.map_some,Nat.add_zero,Nat.zero_add,evNil,fa172_1,fa172_0,fa170_4,hl,hmk,hst]
   refine .seq (W.runs mixed enters 6 [(3,.ptr 2 0)] genH (by kernel_rfl) (.inl ?_))
   simp only [thenQ]
   refine .seq (.region [] (by decide) ?_)
   simp only [EOps,gdA,callOf,isPanic,nextOf,altA,evalOp,St.ev,Av.get,St.put,thenQ,↓reduceIte]
   exact .ret ⟨_,rfl,rfl,_,rfl,rfl⟩
end Go.Proofs.YtjlhemfmeboadaaGreatDoor
namespace Go.Proofs.YtjlhemfmeboadaaGreatDoor
set_option linter.unusedVariables false
set_option linter.unusedSimpArgs false
open Go Go.Av

def obB:OB:=.cells [.int .u32 0,.int .i32 1,.int .u32 0,.iface 135 (.ptr 2 0),.vsl 0 true []] false
def obD:OB:=.cells [.int .u32 1,.int .i32 0,.int .u32 0,.iface 135 (.ptr 2 0),.vsl 0 true []] false
def genT:List OB:=genH.drop 2
theorem build98:ShFn Tryz.prog 98 [.ptr 1 0] [obF,obR] (.ret (.iface 135 (.ptr 2 0))) genH:=by
 have hl:evLoad Tryz.prog 38 (.ptr 1 4) [obF,obR] = some (.sl 0 0 8 0):=by kernel_rfl
 refine ShFn.ofX Tryz.func98 rfl (enters_call enters Tryz.func98 rfl) (by simp [Tryz.ntmps98]) ?_
 show W Tryz.prog 132 2 none _ _ _
 refine .seq (.region [] (by decide) ?_)
 simp only [EOps,gdA,callOf,isPanic,nextOf,altA,evalOp,St.ev,St.put,argT,ofV,thenQ]
 refine .seq (.region [] (by decide) ?_)
 simp only [EOps,gdA,callOf,isPanic,nextOf,altA,evalOp,St.ev,Av.get,St.put,thenQ,Nat.reduceEqDiff,↓reduceIte,Option.map_some,Nat.zero_add,evNil,fa104_2,hl]
 refine .seq (.seq (.region [] (by decide) ?_))
 simp only [EOps,deN,gdA,callOf,isPanic,nextOf,altA,evalOp,St.ev,Av.get,St.put,ofV,thenQ,Nat.reduceEqDiff,↓reduceIte,List.getElem?_cons_zero,List.getElem?_cons_succ,List.getElem?_toArray,Option.map_some,Option.bind_some,beq_true,pickA,ll38,b_eql]
 refine .cond (t:=false) rfl (.skip ?_)
 simp only [thenQ]
 refine .seq (.region [] (by decide) ?_)
 simp only [EOps,gdA,callOf,isPanic,nextOf,altA,evalOp,St.ev,St.put,ofV,thenQ]
 refine .seq (.seq (.region [] (by decide) ?_))
 simp only [EOps,gdA,callOf,isPanic,nextOf,altA,evalOp,St.ev,St.put,ofV,thenQ]
 refine .block (.loop_of (.step ?_))
 refine .seq (.seq (.region [] (by decide) ?_))
 simp only [EOps,deN,gdA,callOf,isPanic,nextOf,altA,evalOp,St.ev,Av.get,St.put,thenQ,Nat.reduceEqDiff,↓reduceIte,Option.map_some,ll38,b_lss]
 refine .cond (t:=true) rfl (.skip ?_)
 simp only [thenQ]
 have hi:evIndexAddr Tryz.prog 38 (.sl 0 0 8 0) (.int .i64 0) [obF,obR] = some (.ptr 0 0):=by kernel_rfl
 have hs:evLoad Tryz.prog 9 (.ptr 0 0) [obF,obR] = some (.str [13,10,32]):=by kernel_rfl
 refine .seq (.block (.seq (.seq (.region [] (by decide) ?_))))
 simp only [EOps,deN,gdA,callOf,isPanic,nextOf,altA,evalOp,St.ev,Av.get,St.put,ofV,thenQ,Nat.reduceEqDiff,↓reduceIte,Option.map_some,List.length_cons,List.length_nil,Nat.reduceAdd,Nat.zero_add,hi,hs,ls9,b_neq]
 refine .cond (t:=true) rfl (.seq (.region [.sh (.ret (.ptr 2 0)) genH] (by decide) ?_))
 have hmi:∀ d,Tryz.prog.underlying 135 = some d→(match d with | .interface _=>false | _=>true) = true:=by intro d hd; rw [Tryz.underlying135] at hd; cases hd; rfl
 simp only [EOps,gdA,callOf,isPanic,nextOf,altA,evalOp,St.ev,Av.get,St.put,thenQ,Nat.reduceEqDiff,↓reduceIte,List.map_cons,List.map_nil,List.nil_append,List.append_nil,Tryz.underlying135]
 refine ⟨gen119,?_⟩
 exact .ret ⟨_,rfl,rfl,_,rfl,rfl⟩
theorem once77:ShFn Tryz.prog 77 [.ptr 1 0] [obF,obR] (.ret (.tup [])) (obF::obB::genT):=by
 refine ShFn.ofX Tryz.func77 rfl (enters_call enters Tryz.func77 rfl) (by simp [Tryz.ntmps77]) ?_
 show W Tryz.prog 10 2 none _ _ _
 have h1:evStore Tryz.prog 102 (.ptr 1 3) (.iface 135 (.ptr 2 0)) genH = some (obF::.cells [.int .u32 0,.int .i32 1,.int .u32 0,.iface 135 (.ptr 2 0),.sl 0 0 8 0] false::genT):=by kernel_rfl
 have h2:evStore Tryz.prog 38 (.ptr 1 4) (.vsl 0 true []) (obF::.cells [.int .u32 0,.int .i32 1,.int .u32 0,.iface 135 (.ptr 2 0),.sl 0 0 8 0] false::genT) = some (obF::obB::genT):=by kernel_rfl
 refine .seq (.region [.sh (.ret (.iface 135 (.ptr 2 0))) genH] (by decide) ?_)
 simp only [EOps,gdA,callOf,isPanic,nextOf,altA,evalOp,St.ev,Av.get,St.put,argT,thenQ,Nat.reduceEqDiff,↓reduceIte,List.map_cons,List.map_nil,List.nil_append,List.append_nil,Option.map_some,Nat.zero_add,evNil,fa104_1,h1]
 refine ⟨build98,?_⟩
 refine .region [] (by decide) ?_
 simp only [EOps,gdA,callOf,isPanic,nextOf,altA,evalOp,St.ev,Av.get,St.put,ofV,Nat.reduceEqDiff,↓reduceIte,Option.map_some,and_self,Nat.zero_add,evNil,fa104_2,h2]
 exact ⟨_,rfl,rfl,_,rfl,rfl⟩
theorem new52 (x : Bool) (l : List Bytes) (h2 : l.length % 2 = 0) (hl : 0 < l.length ∧ l.length ≤ 1000) :
    ShFn Tryz.prog 52 [.vsl 0 x (l.map .str)] [] (.ret (.ptr 1 0)) [.cells (l.map .str) true, .cells [.int .u32 0, .int .i32 0, .int .u32 0, .nilif, .sl 0 0 l.length 0] false] := by
  refine ShFn.ofX Tryz.func52 rfl (enters_call enters Tryz.func52 rfl) (by simp [Tryz.ntmps52]) ?_
  show W Tryz.prog 12 0 none _ _ _
  have hap : evAppend Tryz.prog 38 38 (.vsl 0 true []) (.vsl 0 x (l.map .str)) [] = some (.sl 0 0 l.length 0, [.cells (l.map .str) true]) := by
    have h0 : ¬ l.length = 0 := by omega
    simp only [evAppend, apX, Tryz.underlying38, ap38, newsX, newsA, esz, ↓reduceIte, List.length_map, h0, List.length_nil, Nat.zero_add, cells_strs, List.flatMap_nil, List.nil_append]
    rw [if_pos (by omega)]
  have hb : evBuild Tryz.prog 104 [(2, .sl 0 0 l.length 0)] = some (.agg [.int .u32 0, .int .i32 0, .int .u32 0, .nilif, .sl 0 0 l.length 0]) := by kernel_rfl
  have hr : evBin Tryz.prog .rem 3 (.int .i64 (l.length : Int)) (.int .i64 2) = some (.int .i64 0) := by
    have : ((l.length : Int)).tmod 2 = 0 := by rw [Int.tmod_eq_emod_of_nonneg (by omega)]; omega
    simp [evBin, this]
  refine .seq (.region [] (by decide) ?_)
  simp only [EOps, gdA, callOf, isPanic, nextOf, altA, evalOp, St.ev, St.put, argT, ofV, thenQ]
  refine .seq (.seq (.region [] (by decide) ?_))
  simp only [EOps, deN, gdA, callOf, isPanic, nextOf, altA, evalOp, St.ev, Av.get, St.put, ofV, thenQ, Nat.reduceEqDiff, ↓reduceIte, Option.map_some, lv38, List.length_map, hr, b_eql]
  refine .cond (t := false) rfl (.skip ?_)
  simp only [thenQ]
  refine .seq (.region [] (by decide) ?_)
  simp only [EOps, deN, gdA, callOf, isPanic, nextOf, altA, evalOp, St.ev, Av.get, St.put, ofV, thenQ, Nat.reduceEqDiff, ↓reduceIte, List.map_cons, List.map_nil, List.nil_append, Option.map_some, AV.cells, List.length_cons, List.length_nil, and_self, Nat.zero_add, List.cons_append, hap, hb, AV.told]
  exact .ret ⟨_, rfl, rfl, _, rfl, rfl⟩
end Go.Proofs.YtjlhemfmeboadaaGreatDoor
namespace Go.Proofs.YtjlhemfmeboadaaGreatDoor
set_option linter.unusedVariables false
set_option linter.unusedSimpArgs false
open Go Go.Av

def hasP (s p:Bytes):Bool:=decide (p.length≤s.length) && (s.take p.length == p)
set_option maxRecDepth 4000 in
theorem prefix129 (s p : Bytes) : PureFn Tryz.prog 129 [.str s, .str p] (.ret (.bool (hasP s p))) := by
  have key : ∀ b c : Bool, decide ((s.length : Int) ≥ (p.length : Int)) = b → (b = true → p.length ≤ s.length ∧ (s.take p.length == p) = c) → (b && c) = hasP s p →
      PureFn Tryz.prog 129 [.str s, .str p] (.ret (.bool (hasP s p))) := by
    intro b c h1 h2 h3
    refine PureFn.of Tryz.func129 rfl (enters_call enters Tryz.func129 rfl) (by simp [Tryz.ntmps129]) ?_
    show W Tryz.prog 18 0 none _ _ _
    refine .seq (.region [] (by decide) ?_)
    simp only [EOps, gdA, callOf, isPanic, nextOf, altA, evalOp, St.ev, St.put, argT, ofV, thenQ]
    refine .seq (.region [] (by decide) ?_)
    cases b with
    | true =>
      obtain ⟨h4, h5⟩ := h2 rfl
      simp only [EOps, deN, gdA, callOf, isPanic, nextOf, altA, evalOp, St.ev, Av.get, St.put, ofV, thenQ, Nat.reduceEqDiff, ↓reduceIte, List.getElem?_cons_zero, List.getElem?_cons_succ, List.getElem?_toArray, Option.map_some, Option.map_none, Option.bind_some, beq_true, pickA, cond_true, Nat.zero_add, List.drop_zero, ls9, b_geq, h1, ss9, bnds_to .i64 p.length h4, Nat.sub_zero, s_eql, h5]
      exact .ret ⟨_, rfl, _, rfl, by rw [← h3]; exact .refl _⟩
    | false =>
      simp only [EOps, deN, gdA, callOf, isPanic, nextOf, altA, evalOp, St.ev, Av.get, St.put, ofV, thenQ, Nat.reduceEqDiff, ↓reduceIte, List.getElem?_cons_zero, List.getElem?_cons_succ, List.getElem?_toArray, Option.map_some, Option.bind_some, beq_true, Bool.false_eq_true, pickA, Nat.zero_add, ls9, b_geq, h1]
      exact .ret ⟨_, rfl, _, rfl, by rw [← h3]; exact .refl _⟩
  rcases Nat.lt_or_ge s.length p.length with h | h
  · refine key false false (decide_eq_false (by omega)) (fun h => by cases h) ?_
    unfold hasP; rw [decide_eq_false (by omega)]; rfl
  · refine key true _ (decide_eq_true (by omega)) (fun _ => ⟨h, rfl⟩) ?_
    unfold hasP; rw [decide_eq_true h]

theorem prefix160 (s p:Bytes):PureFn Tryz.prog 160 [.str s,.str p] (.ret (.bool (hasP s p))):=by
 refine PureFn.of Tryz.func160 rfl (enters_call enters Tryz.func160 rfl) (by simp [Tryz.ntmps160]) ?_
 show W Tryz.prog 8 0 none _ _ _
 refine .seq (.region [] (by decide) ?_)
 simp only [EOps,gdA,callOf,isPanic,nextOf,altA,evalOp,St.ev,St.put,argT,ofV,thenQ]
 refine .seq (.region [.pure (.ret (.bool (hasP s p)))] (by decide) ?_)
 simp only [EOps,gdA,callOf,isPanic,nextOf,altA,evalOp,St.ev,Av.get,St.put,thenQ,Nat.reduceEqDiff,↓reduceIte,lend,AV.hfs,AV.hf,Bool.and_self,List.map_cons,List.map_nil,List.nil_append,List.append_nil,and_self,Nat.zero_add]
 exact ⟨prefix129 s p,.ret ⟨_,rfl,_,rfl,.refl _⟩⟩
/-! ### The tree -/

def leafN (p:Int):AV:=.vptr [.str [],.int .i64 p,.str [],.nilptr,.nilsl]
def n6:AV:=.vptr [.str [],.int .i64 0,.str [],.nilptr,.vsl 0 false [leafN 6,.nilptr,.nilptr,leafN 8]]
def n4:AV:=.vptr [.str [],.int .i64 0,.str [10],n6,.nilsl]
def n9:AV:=.vptr [.str [],.int .i64 0,.str [],.nilptr,.vsl 0 false [leafN 2,.nilptr,.nilptr,leafN 4]]
def treeC:List AV:=r6 (.vsl 0 false [.nilptr,n9,n4,.nilptr]) 4++mapL m2
def tree:AV:=.vptr treeC
theorem lend_tree (s:Bytes) (r:Bytes):lend (obF::obD::genT) [.ptr 2 0,.str s] (.ret (.str r)) = some [tree,.str s]:=by kernel_rfl
noncomputable def loopL:Code:=match Tryz.f199.body with
 | some (.seq _ (.seq _ (.seq _ (.seq _ (.seq (.block _ (.loop c)) _)))))=>c
 | _=>.skip
def stL (node:AV) (s:Bytes) (n:Nat):St:=⟨[(0,tree),(2,.bool false),(6,.str []),(7,.int .i64 0),(8,.bool false),(9,.int .i64 0),(10,node),(1,.str s),(11,.int .i64 (n:Int))],[],[]⟩
def finL (Q:Ex→St→Prop) (k:Nat) (f:Bool):Prop:=∀ T,holdsT T [(6,.str []),(7,.int .i64 (k:Int)),(8,.bool f)]→Q (.exit 0) ⟨T,[],[]⟩
def lpL (Q:Ex→St→Prop) (node:AV) (s:Bytes) (n:Nat):Prop:=LW Tryz.prog 107 0 none loopL Q (stL node s n)
theorem LW.fewer {P:Program} {n m:Nat} {R:Option Nat} {c:Code} {Q:Ex→St→Prop} {a:St} (C:List (Nat × AV)) (hT:holdsT a.T C) (h:LW P n m R c Q ⟨C,a.H,a.D⟩):LW P n m R c Q a:=
 fun B act w r=>h B act w (r.fewer (b:=⟨C,a.H,a.D⟩) hT rfl rfl)
theorem nq1 (l:List AV):evNilEq Tryz.prog .neq 167 (.vptr l) .nilptr = some (.bool true):=by simp [evNilEq,Tryz.underlying167]
theorem nq2:evNilEq Tryz.prog .neq 167 .nilptr .nilptr = some (.bool false):=by simp [evNilEq,Tryz.underlying167]
theorem nq3 (l:List AV) (t:TypeId) (o:BinOp):evBin Tryz.prog o t (.vptr l) .nilptr = none:=by cases o<;>rfl
theorem nq4 (t:TypeId) (o:BinOp):evBin Tryz.prog o t .nilptr .nilptr = none:=by cases o<;>rfl
theorem lpL_nil {Q:Ex→St→Prop} (s:Bytes) (n:Nat) (h:finL Q 0 false):lpL Q .nilptr s n:=by
 refine .step ?_
 refine .seq (.seq (.region [] (by decide) ?_))
 simp only [EOps,gdA,callOf,isPanic,nextOf,altA,evalOp,St.ev,Av.get,St.put,ofV,thenQ,Nat.reduceEqDiff,↓reduceIte,stL,nq2,nq4]
 refine .cond (t:=false) rfl (.exit ?_)
 exact h _ ⟨rfl,rfl,rfl,trivial⟩
theorem ne1 (t:TypeId) (l c:Nat) (hk:nilKind Tryz.prog t = 1):evNilC Tryz.prog .neq t .nilsl (.const (.slice none l c)) = some (.bool false):=by simp [evNilC,hk]
theorem ne2 (t:TypeId) (x w:AV) (o:BinOp):evBin Tryz.prog o t .nilsl w = none:=by cases o<;>rfl
theorem ne3 (t:TypeId) (o:BinOp) (w:AV):evNilEq Tryz.prog o t .nilsl w = none:=by cases o<;>simp [evNilEq]
theorem nk168:nilKind Tryz.prog 168 = 1:=by simp [nilKind,Tryz.underlying168]
theorem ne4 (t:TypeId) (l c w:Nat) (x:Bool) (v:AV) (vs:List AV) (hk:nilKind Tryz.prog t = 1):evNilC Tryz.prog .neq t (.vsl w x (v::vs)) (.const (.slice none l c)) = some (.bool true):=by simp [evNilC,hk]
theorem ne5 (t:TypeId) (w:Nat) (x:Bool) (vs:List AV) (u:AV) (o:BinOp):evBin Tryz.prog o t (.vsl w x vs) u = none:=by cases o<;>rfl
theorem ne6 (t:TypeId) (w:Nat) (x:Bool) (vs:List AV) (u:AV) (o:BinOp):evNilEq Tryz.prog o t (.vsl w x vs) u = none:=by cases o<;>simp [evNilEq]
theorem lpL_leaf {Q:Ex→St→Prop} (p:Nat) (hp:0 < p) (s:Bytes) (n:Nat) (h:finL Q n true):lpL Q (leafN p) s n:=by
 refine .step ?_
 refine .seq (.seq (.region [] (by decide) ?_))
 have hd:decide ((p:Int) > 0) = true:=decide_eq_true (by omega)
 simp only [EOps,gdA,callOf,isPanic,nextOf,altA,evalOp,St.ev,Av.get,St.put,ofV,thenQ,Nat.reduceEqDiff,↓reduceIte,stL,leafN,nq1,nq3]
 refine .cond (t:=true) rfl (.skip ?_)
 simp only [thenQ]
 refine .block (.seq (.seq (.region [] (by decide) ?_)))
 simp only [EOps,gdA,callOf,isPanic,nextOf,altA,evalOp,St.ev,Av.get,St.put,ofV,thenQ,Nat.reduceEqDiff,↓reduceIte,List.getElem?_cons_zero,List.getElem?_cons_succ,List.getElem?_toArray,Option.map_some,Option.bind_some,beq_true,Bool.not_false,Bool.false_eq_true,pickA,cond_true,List.drop_succ_cons,List.drop_zero,evNil,fv170_1,lw3,b_gtr,hd,evUn]
 refine .cond (t:=true) rfl (.seq (.region [] (by decide) ?_))
 simp only [EOps,gdA,callOf,isPanic,nextOf,altA,evalOp,St.ev,Av.get,St.put,thenQ,Nat.reduceEqDiff,↓reduceIte,Option.map_some,List.drop_succ_cons,List.drop_zero,evNil,fv170_1,lw3]
 refine .seq (.region [] (by decide) ?_)
 simp only [EOps,gdA,callOf,isPanic,nextOf,altA,evalOp,St.ev,Av.get,St.put,thenQ,Nat.reduceEqDiff,↓reduceIte,Option.map_some,List.drop_zero,evNil,fv170_0,lw9]
 refine .seq (.region [] (by decide) ?_)
 simp only [EOps,gdA,callOf,isPanic,nextOf,altA,evalOp,St.ev,Av.get,St.put,thenQ,Nat.reduceEqDiff,↓reduceIte]
 refine .region [] (by decide) ?_
 simp only [EOps,gdA,callOf,isPanic,nextOf,altA,evalOp,St.ev,St.put,ofV,thenQ]
 refine .seq (.seq (.region [] (by decide) ?_))
 simp only [EOps,gdA,callOf,isPanic,nextOf,altA,evalOp,St.ev,Av.get,St.put,ofV,thenQ,Nat.reduceEqDiff,↓reduceIte]
 cases s with
 | nil=>
  refine .cond (t:=true) rfl (.exit ?_)
  exact h _ ⟨rfl,rfl,rfl,trivial⟩
 | cons b t=>
  refine .cond (t:=false) rfl (.skip ?_)
  simp only [thenQ]
  refine .seq (.region [] (by decide) ?_)
  have h2:=fun w=>ne2 168 w w .neq
  have h3:=fun w=>ne3 168 .neq w
  simp only [EOps,gdA,callOf,isPanic,nextOf,altA,evalOp,St.ev,Av.get,St.put,ofV,thenQ,Nat.reduceEqDiff,↓reduceIte,Option.map_some,and_self,List.drop_succ_cons,List.drop_zero,evNil,fv170_4,lw168,h2,h3,ne1 _ _ _ nk168]
  refine .cond (t:=false) rfl (.seq (.region [] (by decide) ?_))
  simp only [EOps,gdA,callOf,isPanic,nextOf,altA,evalOp,St.ev,Av.get,St.put,ofV,thenQ,Nat.reduceEqDiff,↓reduceIte,List.map_cons,List.map_nil,List.nil_append,List.append_nil,List.getElem?_cons_zero,List.getElem?_cons_succ,List.getElem?_toArray,Option.map_some,Option.bind_some,beq_true,pickA,List.drop_succ_cons,List.drop_zero,evNil,fv170_2,lw9]
  refine .cond (t:=false) rfl (.exit ?_)
  exact h _ ⟨rfl,rfl,rfl,trivial⟩
theorem lpL_prefix {Q:Ex→St→Prop} (s:Bytes) (n:Nat) (hn:n < 100) (h:∀ t,s = 10::t→lpL Q n6 t (n + 1)) (h0:hasP s [10] = false→finL Q 0 false):lpL Q n4 s n:=by
 refine .step ?_
 refine .seq (.seq (.region [] (by decide) ?_))
 simp only [EOps,gdA,callOf,isPanic,nextOf,altA,evalOp,St.ev,Av.get,St.put,ofV,thenQ,Nat.reduceEqDiff,↓reduceIte,stL,n4,nq1,nq3]
 refine .cond (t:=true) rfl (.skip ?_)
 simp only [thenQ]
 refine .block (.seq (.seq (.region [] (by decide) ?_)))
 simp only [EOps,gdA,callOf,isPanic,nextOf,altA,evalOp,St.ev,Av.get,St.put,ofV,thenQ,Nat.reduceEqDiff,↓reduceIte,List.getElem?_cons_zero,List.getElem?_cons_succ,List.getElem?_toArray,Option.map_some,Option.bind_some,beq_true,Bool.false_eq_true,pickA,List.drop_succ_cons,List.drop_zero,evNil,fv170_1,lw3,b_gtr]
 refine .cond (t:=false) rfl (.skip ?_)
 simp only [thenQ]
 refine .seq (.seq (.region [] (by decide) ?_))
 simp only [EOps,gdA,callOf,isPanic,nextOf,altA,evalOp,St.ev,Av.get,St.put,ofV,thenQ,Nat.reduceEqDiff,↓reduceIte]
 cases s with
 | nil=>
  refine .cond (t:=true) rfl (.exit ?_)
  exact h0 rfl _ ⟨rfl,rfl,rfl,trivial⟩
 | cons b t=>
  refine .cond (t:=false) rfl (.skip ?_)
  simp only [thenQ]
  refine .seq (.region [] (by decide) ?_)
  have h2:=fun w=>ne2 168 w w .neq
  have h3:=fun w=>ne3 168 .neq w
  simp only [EOps,gdA,callOf,isPanic,nextOf,altA,evalOp,St.ev,Av.get,St.put,ofV,thenQ,Nat.reduceEqDiff,↓reduceIte,Option.map_some,and_self,List.drop_succ_cons,List.drop_zero,evNil,fv170_4,lw168,h2,h3,ne1 _ _ _ nk168]
  refine .cond (t:=false) rfl (.seq (.region [.pure (.ret (.bool (hasP (b::t) [10])))] (by decide) ?_))
  simp only [EOps,gdA,callOf,isPanic,nextOf,altA,evalOp,St.ev,Av.get,St.put,ofV,thenQ,Nat.reduceEqDiff,↓reduceIte,lend,AV.hfs,AV.hf,Bool.and_self,List.map_cons,List.map_nil,List.nil_append,List.append_nil,List.getElem?_cons_zero,List.getElem?_cons_succ,List.getElem?_toArray,Option.map_some,Option.bind_some,beq_true,pickA,Bool.and_true,Bool.true_and,and_self,true_and,and_true,List.drop_succ_cons,List.drop_zero,evNil,fv170_2,lw9]
  refine ⟨prefix160 _ _,?_⟩
  cases hp:hasP (b::t) [10] with
  | false=>
   refine .cond (t:=false) (by simp [St.ev,Av.get]) (.exit ?_)
   exact h0 hp _ ⟨rfl,rfl,rfl,trivial⟩
  | true=>
   have hb:b = 10:=by
    unfold hasP at hp
    simp at hp
    exact hp
   subst hb
   refine .cond (t:=true) (by simp [St.ev,Av.get]) (.seq (.region [] (by decide) ?_))
   have ha:=add64 3 n 1 (by omega)
   simp only [EOps,deN,gdA,callOf,isPanic,nextOf,altA,evalOp,St.ev,Av.get,St.put,thenQ,Nat.reduceEqDiff,↓reduceIte,Option.map_some,List.length_cons,List.length_nil,Nat.zero_add,List.drop_succ_cons,List.drop_zero,evNil,fv170_2,lw9,ls9,ha]
   refine .seq (.region [] (by decide) ?_)
   have hb:=bnds_from (n:=t.length + 1) .i64 1 (by simp)
   simp only [EOps,deN,gdA,callOf,isPanic,nextOf,altA,evalOp,St.ev,Av.get,St.put,thenQ,Nat.reduceEqDiff,↓reduceIte,Option.map_some,Option.map_none,List.length_cons,List.length_nil,Nat.zero_add,List.drop_succ_cons,List.drop_zero,evNil,fv170_2,lw9,ls9,ss9,hb,Nat.add_sub_cancel]
   refine .region [] (by decide) ?_
   simp only [EOps,gdA,callOf,isPanic,nextOf,altA,evalOp,St.ev,Av.get,St.put,thenQ,Nat.reduceEqDiff,↓reduceIte,Option.map_some,List.drop_succ_cons,List.drop_zero,blockQ,evNil,fv170_3,lw167]
   refine LW.fewer (a:=⟨_,_,_⟩) (stL n6 t (n + 1)).T ?_ (h t rfl)
   refine ⟨rfl,rfl,rfl,rfl,rfl,rfl,rfl,?_,?_,trivial⟩
   ·simp [Av.get,List.take_of_length_le]
   ·simp [Av.get]
theorem m2_lt (b:UInt8):m2 b.toNat≤4:=by
 unfold m2; split
 ·omega
 ·exact s1_le _
theorem lpL_tab {Q : Ex → St → Prop} (x : Bool) (tb : List AV) (e : AV) (hl : tb = [tb.getD 0 .junk, tb.getD 1 .junk, tb.getD 2 .junk, tb.getD 3 .junk]) (rest : List AV) (ho : tb.all AV.one = true) (s : Bytes) (n : Nat) (hn : n < 100)
    (h0 : (s = [] ∨ ∃ b t, s = b :: t ∧ m2 b.toNat = 4) → finL Q 0 false)
    (h1 : ∀ b t nd, s = b :: t → m2 b.toNat < 4 → tb[m2 b.toNat]? = some nd → lpL Q nd t (n + 1)) :
    lpL Q (.vptr (.str [] :: .int .i64 0 :: .str [] :: .nilptr :: .vsl 0 x tb :: rest)) s n := by
  have hne : ∃ v vs, tb = v :: vs := ⟨_, _, hl⟩
  obtain ⟨v, vs, hvs⟩ := hne
  refine .step ?_
  refine .seq (.seq (.region [] (by decide) ?_))
  simp only [EOps, gdA, callOf, isPanic, nextOf, altA, evalOp, St.ev, Av.get, St.put, ofV, thenQ, Nat.reduceEqDiff, ↓reduceIte, stL, nq1, nq3]
  refine .cond (t := true) rfl (.skip ?_)
  simp only [thenQ]
  refine .block (.seq (.seq (.region [] (by decide) ?_)))
  simp only [EOps, gdA, callOf, isPanic, nextOf, altA, evalOp, St.ev, Av.get, St.put, ofV, thenQ, Nat.reduceEqDiff, ↓reduceIte, List.getElem?_cons_zero, List.getElem?_cons_succ, List.getElem?_toArray, Option.map_some, Option.bind_some, beq_true, Bool.false_eq_true, pickA, List.drop_succ_cons, List.drop_zero, evNil, fv170_1, lw3, b_gtr]
  refine .cond (t := false) rfl (.skip ?_)
  simp only [thenQ]
  refine .seq (.seq (.region [] (by decide) ?_))
  simp only [EOps, gdA, callOf, isPanic, nextOf, altA, evalOp, St.ev, Av.get, St.put, ofV, thenQ, Nat.reduceEqDiff, ↓reduceIte]
  cases s with
  | nil =>
    refine .cond (t := true) rfl (.exit ?_)
    exact h0 (.inl rfl) _ ⟨rfl, rfl, rfl, trivial⟩
  | cons b t =>
    refine .cond (t := false) rfl (.skip ?_)
    simp only [thenQ]
    refine .seq (.region [] (by decide) ?_)
    have h2 := fun u => ne5 168 0 x (v :: vs) u .neq
    have h3 := fun u => ne6 168 0 x (v :: vs) u .neq
    have h4 := fun l c => ne4 168 l c 0 x v vs nk168
    subst hvs
    simp only [EOps, gdA, callOf, isPanic, nextOf, altA, evalOp, St.ev, Av.get, St.put, ofV, thenQ, Nat.reduceEqDiff, ↓reduceIte, Option.map_some, and_self, List.drop_succ_cons, List.drop_zero, evNil, fv170_4, lw168, h2, h3, h4]
    refine .cond (t := true) rfl (.seq ?_)
    have hx : evIndex Tryz.prog 9 (.str (b :: t)) (.int .i64 0) = some (byteA b) := xs_of Tryz.underlying9 .i64 0 (by simp)
    have hia : evIndexAddr Tryz.prog 137 (.vptr (mapL m2)) (byteA b) [] = some (.vptr ((mapL m2).drop b.toNat)) := by
      have := b.toNat_lt
      simp [byteA, evIndexAddr, idx_nat, Tryz.underlying137, tz5, this]
    have hld : evLoad Tryz.prog 5 (.vptr ((mapL m2).drop b.toNat)) [] = some (.int .u8 ((m2 b.toNat : Nat) : Int)) := by
      have := mapL_get m2 b.toNat b.toNat_lt
      simp [evLoad, tz5, tg5, ldA, this]
    refine W.drawG [] mixed (by kernel_rfl) (by kernel_rfl) ?_
    simp only [EDg, gdA, callOf, isPanic, evalOp, St.ev, Av.get, St.put, ofV, thenQ, Nat.reduceEqDiff, ↓reduceIte, List.nil_append, Option.map_some, true_and, List.drop_succ_cons, List.drop_zero, List.cons_append, evNil, hx, tree, treeC, r6, fv172_2, hia, hld]
    have hlt := m2_lt b
    refine .seq (.seq (.region [] (by decide) ?_))
    simp only [EOps, gdA, callOf, isPanic, nextOf, altA, evalOp, St.ev, Av.get, St.put, thenQ, Nat.reduceEqDiff, ↓reduceIte, Option.map_some, List.drop_succ_cons, List.drop_zero, evNil, cv8 _ (Nat.lt_of_le_of_lt hlt (by decide)), tree, treeC, r6, fv172_1, lw3, b_eql]
    rcases Nat.lt_or_ge (m2 b.toNat) 4 with h5 | h5
    · refine .cond (t := false) (by simp [St.ev, Av.get]; omega) (.skip ?_)
      simp only [thenQ]
      obtain ⟨nd, hnd⟩ : ∃ nd, (v :: vs)[m2 b.toNat]? = some nd := by
        have : (v :: vs).length = 4 := by rw [hl]; rfl
        exact ⟨_, List.getElem?_eq_getElem (by omega)⟩
      have hone : nd.cells = [nd] := one_cells (List.all_eq_true.1 ho nd (List.mem_of_getElem? hnd))
      have hia2 : evIndexAddr Tryz.prog 168 (.vsl 0 x (v :: vs)) (.int .u8 ((m2 b.toNat : Nat) : Int)) [] = some (.vptr [nd]) := by
        have := ixv_of (P := Tryz.prog) (t := 168) Tryz.underlying168 tz167 0 x (v :: vs) .u8 (m2 b.toNat : Int) [] (v := nd) ⟨by omega, by simpa using hnd⟩ (by rw [hone]; rfl)
        rw [hone] at this; exact this
      refine .seq (.region [] (by decide) ?_)
      simp only [EOps, gdA, callOf, isPanic, nextOf, altA, evalOp, St.ev, Av.get, St.put, thenQ, Nat.reduceEqDiff, ↓reduceIte, Option.map_some, List.drop_succ_cons, List.drop_zero, evNil, fv170_4, lw168, hia2, lw167]
      refine .seq (.region [] (by decide) ?_)
      have hb := bnds1 (n := t.length + 1) .i64 (by simp)
      simp only [EOps, deN, gdA, callOf, isPanic, nextOf, altA, evalOp, St.ev, Av.get, St.put, ofV, thenQ, Nat.reduceEqDiff, ↓reduceIte, Option.map_some, Option.map_none, List.length_cons, List.drop_succ_cons, List.drop_zero, ss9, hb, Nat.add_sub_cancel]
      refine .region [] (by decide) ?_
      simp only [EOps, gdA, callOf, isPanic, nextOf, altA, evalOp, St.ev, Av.get, St.put, ofV, thenQ, Nat.reduceEqDiff, ↓reduceIte, blockQ, add1 3 n (by omega)]
      refine LW.fewer (a := ⟨_, _, _⟩) (stL nd t (n + 1)).T ?_ (h1 b t nd rfl h5 hnd)
      refine ⟨rfl, rfl, rfl, rfl, rfl, rfl, rfl, ?_, ?_, trivial⟩
      · simp [Av.get, List.take_of_length_le]
      · simp [Av.get]
    · refine .cond (t := true) (by simp [St.ev, Av.get]; omega) (.exit ?_)
      exact h0 (.inr ⟨b, t, rfl, by omega⟩) _ ⟨rfl, rfl, rfl, trivial⟩

def lk:Bytes→Nat
 | 13::10::x::_=>if x = 9∨x = 32 then 3 else 0
 | 10::x::_=>if x = 9∨x = 32 then 2 else 0
 | _=>0
theorem m2_cases (b:UInt8):(m2 b.toNat = 0∧b = 9)∨(m2 b.toNat = 1∧b = 10)∨(m2 b.toNat = 2∧b = 13)∨(m2 b.toNat = 3∧b = 32)∨(m2 b.toNat = 4∧b ≠ 9∧b ≠ 10∧b ≠ 13∧b ≠ 32):=by
 have key:∀ n,n < 256→(m2 n = 0∧n = 9)∨(m2 n = 1∧n = 10)∨(m2 n = 2∧n = 13)∨(m2 n = 3∧n = 32)∨(m2 n = 4∧n ≠ 9∧n ≠ 10∧n ≠ 13∧n ≠ 32):=by decide +kernel
 have e:∀ k:UInt8,b = k↔b.toNat = k.toNat:=fun k=>⟨fun h=>by rw [h],fun h=>UInt8.toNat_inj.1 h⟩
 simp only [ne_eq,e]
 exact key _ b.toNat_lt
theorem lk_10 (x:UInt8) (t:Bytes):lk (10::x::t) = if x = 9∨x = 32 then 2 else 0:=by
 unfold lk; split<;>simp_all
theorem lk_13 (y x:UInt8) (t:Bytes):lk (13::y::x::t) = if y = 10∧(x = 9∨x = 32) then 3 else 0:=by
 unfold lk; split<;>simp_all
theorem lk_no (b:UInt8) (t:Bytes) (h:b ≠ 10∧b ≠ 13):lk (b::t) = 0:=by
 unfold lk; split<;>simp_all
theorem lookup199 (s:Bytes):PureFn Tryz.prog 199 [tree,.str s,.bool false] (.ret (.tup [.str [],.int .i64 (lk s:Int),.bool (decide (lk s ≠ 0))])):=by
 refine PureFn.of Tryz.func199 rfl (enters_call enters Tryz.func199 rfl) (by simp [Tryz.ntmps199]) ?_
 show W Tryz.prog 107 0 none _ _ _
 refine .seq (.region [] (by decide) ?_)
 simp only [EOps,gdA,callOf,isPanic,nextOf,altA,evalOp,St.ev,St.put,argT,ofV,thenQ,Nat.reduceAdd,Nat.zero_add]
 refine .seq (.region [] (by decide) ?_)
 simp only [EOps,gdA,callOf,isPanic,nextOf,altA,evalOp,St.ev,St.put,ofV,thenQ]
 refine .seq (.region [] (by decide) ?_)
 simp only [EOps,gdA,callOf,isPanic,nextOf,altA,evalOp,St.ev,Av.get,St.put,thenQ,Nat.reduceEqDiff,↓reduceIte,Option.map_some,List.drop_zero,evNil,tree,fv172_0]
 refine .seq (.region [] (by decide) ?_)
 simp only [EOps,gdA,callOf,isPanic,nextOf,altA,evalOp,St.ev,St.put,ofV,thenQ]
 refine .seq (.block (.loop_of ?_))
 refine LW.fewer (a:=⟨_,_,_⟩) (stL tree s 0).T ⟨rfl,rfl,rfl,rfl,rfl,rfl,rfl,rfl,rfl,trivial⟩ ?_
 generalize hQ:blockQ 0 _ = Q
 have fin:∀ k f,lk s = k→decide (lk s ≠ 0) = f→finL Q k f:=by
  rintro k f rfl rfl T ⟨h1,h2,h3,_⟩
  subst hQ
  simp only [thenQ,↓reduceIte,blockQ]
  refine .ret ⟨_,rfl,.tup [.str [],.int .i64 (lk s:Int),.bool (decide (lk s ≠ 0))],?_,.refl _⟩
  have hr:resA Tryz.prog Tryz.f199.results.toList ⟨T,[],[]⟩ = some (.tup [.str [],.int .i64 (lk s:Int),.bool (decide (lk s ≠ 0))]):=by
   show Option.map _ (some [_,_,_]) = _
   simp only [Option.map_some,h1,h2,h3]
  rw [hr]
  rfl
 show lpL Q tree s 0
 refine lpL_tab false [.nilptr,n9,n4,.nilptr] .junk rfl (.int .i64 4::mapL m2) rfl s 0 (by omega) ?_ ?_
 ·rintro (rfl | ⟨b,t,rfl,hm⟩)
  ·exact fin 0 false rfl rfl
  ·have:lk (b::t) = 0:=lk_no b t (by rcases m2_cases b with h | h | h | h | h<;>first | omega | exact ⟨h.2.2.1,h.2.2.2.1⟩)
   exact fin 0 false this (by rw [this]; rfl)
 ·rintro b t nd rfl hlt hnd
  rcases m2_cases b with ⟨hm,hb⟩ | ⟨hm,hb⟩ | ⟨hm,hb⟩ | ⟨hm,hb⟩ | ⟨hm,hb⟩
  ·rw [hm] at hnd; cases hnd
   have:lk (b::t) = 0:=lk_no b t (by subst hb; decide)
   exact lpL_nil t 1 (fin 0 false this (by rw [this]; rfl))
  ·rw [hm] at hnd; cases hnd
   subst hb
   refine lpL_tab false [leafN 2,.nilptr,.nilptr,leafN 4] .junk rfl [] rfl t 1 (by omega) ?_ ?_
   ·rintro (rfl | ⟨x,u,rfl,hx⟩)
    ·exact fin 0 false rfl rfl
    ·have:lk (10::x::u) = 0:=by
      rw [lk_10,if_neg]
      rcases m2_cases x with h | h | h | h | h<;>first | omega | (rintro (h9 | h9); exact h.2.1 h9; exact h.2.2.2.2 h9)
     exact fin 0 false this (by rw [this]; rfl)
   ·rintro x u nd rfl hlt hnd
    rcases m2_cases x with ⟨hm,hb⟩ | ⟨hm,hb⟩ | ⟨hm,hb⟩ | ⟨hm,hb⟩ | ⟨hm,hb⟩
    ·rw [hm] at hnd; cases hnd
     subst hb
     exact lpL_leaf 2 (by decide) u 2 (fin 2 true rfl rfl)
    ·rw [hm] at hnd; cases hnd
     subst hb
     exact lpL_nil u 2 (fin 0 false rfl rfl)
    ·rw [hm] at hnd; cases hnd
     subst hb
     exact lpL_nil u 2 (fin 0 false rfl rfl)
    ·rw [hm] at hnd; cases hnd
     subst hb
     exact lpL_leaf 4 (by decide) u 2 (fin 2 true rfl rfl)
    ·omega
  ·rw [hm] at hnd; cases hnd
   subst hb
   refine lpL_prefix t 1 (by omega) ?_ ?_
   ·rintro u rfl
    refine lpL_tab false [leafN 6,.nilptr,.nilptr,leafN 8] .junk rfl [] rfl u 2 (by omega) ?_ ?_
    ·rintro (rfl | ⟨x,v,rfl,hx⟩)
     ·exact fin 0 false rfl rfl
     ·have:lk (13::10::x::v) = 0:=by
       rw [lk_13,if_neg]
       rintro ⟨_,h9⟩
       rcases m2_cases x with h | h | h | h | h<;>first | omega | (rcases h9 with h9 | h9; exact h.2.1 h9; exact h.2.2.2.2 h9)
      exact fin 0 false this (by rw [this]; rfl)
    ·rintro x v nd rfl hlt hnd
     rcases m2_cases x with ⟨hm,hb⟩ | ⟨hm,hb⟩ | ⟨hm,hb⟩ | ⟨hm,hb⟩ | ⟨hm,hb⟩
     ·rw [hm] at hnd; cases hnd
      subst hb
      exact lpL_leaf 6 (by decide) v 3 (fin 3 true rfl rfl)
     ·rw [hm] at hnd; cases hnd
      subst hb
      exact lpL_nil v 3 (fin 0 false rfl rfl)
     ·rw [hm] at hnd; cases hnd
      subst hb
      exact lpL_nil v 3 (fin 0 false rfl rfl)
     ·rw [hm] at hnd; cases hnd
      subst hb
      exact lpL_leaf 8 (by decide) v 3 (fin 3 true rfl rfl)
     ·omega
   ·intro hno
    have:lk (13::t) = 0:=by
     match t,hno with
     | [],_=>rfl
     | [y],_=>unfold lk; split<;>simp_all
     | y::x::u,hno=>
      rw [lk_13,if_neg]
      rintro ⟨rfl,_⟩
      simp [hasP] at hno
    exact fin 0 false this (by rw [this]; rfl)
  ·rw [hm] at hnd; cases hnd
   have:lk (b::t) = 0:=lk_no b t (by subst hb; decide)
   exact lpL_nil t 1 (fin 0 false this (by rw [this]; rfl))
  ·omega
end Go.Proofs.YtjlhemfmeboadaaGreatDoor
namespace Go.Proofs.YtjlhemfmeboadaaGreatDoor
set_option linter.unusedVariables false
set_option linter.unusedSimpArgs false
open Go Go.Av

/-! ### The writer -/

def zeros (k:Nat):List AV:=List.replicate k (.int .u8 0)
def wrH (n:Nat) (out:Bytes):List OB:=[.cells (bytesA out++zeros (n - out.length)) false,.cells [.sl 0 0 out.length 0] false]
theorem setC_over (xs ys zs:List AV) (h:zs.length≤ys.length):setC (xs++ys) xs.length zs = xs++zs++ys.drop zs.length:=by
 apply List.ext_getElem?
 intro i
 rw [setC_get _ _ _ (by simp; omega)]
 split
 ·rename_i h1
  rw [List.append_assoc,List.getElem?_append_right h1.1,List.getElem?_append_left (by omega)]
 ·rename_i h1
  rcases Nat.lt_or_ge i xs.length with h2 | h2
  ·rw [List.getElem?_append_left h2,List.append_assoc,List.getElem?_append_left h2]
  ·rw [List.getElem?_append_right h2,List.append_assoc,List.getElem?_append_right h2,List.getElem?_append_right (by omega),List.getElem?_drop]
   congr 1; omega
theorem wr_app (n : Nat) (out t : Bytes) (h : out.length + t.length ≤ n) (hn : n ≤ 140737488355328) :
    evAppend Tryz.prog 227 9 (.sl 0 0 out.length 0) (.str t) (wrH n out) = some (.sl 0 0 (out.length + t.length) 0, [.cells (bytesA (out ++ t) ++ zeros (n - (out ++ t).length)) false, .cells [.sl 0 0 out.length 0] false]) := by
  have hbl : (bytesA out).length = out.length := by simp [bytesA]
  have htl : (bytesA t).length = t.length := by simp [bytesA]
  have hz : (zeros (n - out.length)).length = n - out.length := by simp [zeros]
  have hset : setC (bytesA out ++ zeros (n - out.length)) out.length (bytesA t) = bytesA (out ++ t) ++ zeros (n - (out ++ t).length) := by
    have := setC_over (bytesA out) (zeros (n - out.length)) (bytesA t) (by rw [htl, hz]; omega)
    rw [hbl] at this
    rw [this, htl]
    congr 1
    · simp [bytesA]
    · simp [zeros, Nat.sub_sub]
  have hc : (bytesA t).all AV.isC = true := by
    rw [List.all_eq_true]; intro v hv; obtain ⟨x, _, rfl⟩ := List.mem_map.1 hv; rfl
  have hm : List.map (fun b : UInt8 => AV.int .u8 (b.toNat : Int)) t = bytesA t := rfl
  simp only [evAppend, apX, Tryz.underlying227, Tryz.underlying9, ap227, newsX, ↓reduceIte, wrH, List.getElem?_cons_zero, esz, hm, hc, Nat.mul_one, Nat.zero_add, List.length_append, hbl, hz, hset]
  rw [if_pos (by refine ⟨trivial, trivial, ?_, ?_⟩ <;> omega), if_pos (by omega)]
  rfl

theorem wr212 (n : Nat) (out t : Bytes) (h : out.length + t.length ≤ n) (hn : n ≤ 140737488355328) :
    ShFn Tryz.prog 212 [.ptr 1 0, .str t] (wrH n out) (.ret (.tup [.int .i64 (t.length : Int), .nilif])) (wrH n (out ++ t)) := by
  refine ShFn.ofX Tryz.func212 rfl (enters_call enters Tryz.func212 rfl) (by simp [Tryz.ntmps212]) ?_
  show W Tryz.prog 15 2 none _ _ _
  have hl : evLoad Tryz.prog 227 (.ptr 1 0) (wrH n out) = some (.sl 0 0 out.length 0) := by simp [ld227, ldC, wrH]
  have hst : evStore Tryz.prog 227 (.ptr 1 0) (.sl 0 0 (out.length + t.length) 0) [.cells (bytesA (out ++ t) ++ zeros (n - (out ++ t).length)) false, .cells [.sl 0 0 out.length 0] false] = some (wrH n (out ++ t)) := by
    simp [st227, stC, wrH, AV.cells, AV.isC, setC]
  refine .seq (.region [] (by decide) ?_)
  simp only [EOps, gdA, callOf, isPanic, nextOf, altA, evalOp, St.ev, St.put, argT, ofV, thenQ, Nat.zero_add]
  refine .seq (.region [] (by decide) ?_)
  simp only [EOps, deN, gdA, callOf, isPanic, nextOf, altA, evalOp, St.ev, Av.get, St.put, thenQ, Nat.reduceEqDiff, ↓reduceIte, Option.map_some, evNil, hl, wr_app n out t h hn, hst]
  refine .seq (.region [] (by decide) ?_)
  simp only [EOps, deN, gdA, callOf, isPanic, nextOf, altA, evalOp, St.ev, Av.get, St.put, ofV, thenQ, Nat.reduceEqDiff, ↓reduceIte, Option.map_some, ls9]
  exact .ret ⟨_, rfl, rfl, _, rfl, rfl⟩

theorem assertW (v:AV):evAssert Tryz.prog (.iface 228 v) 230 232 true = some (.tup [.iface 228 v,.bool true]):=by kernel_rfl
theorem sw198 (H:List OB):ShFn Tryz.prog 198 [.iface 228 (.ptr 1 0)] H (.ret (.iface 228 (.ptr 1 0))) H:=by
 refine ShFn.ofX Tryz.func198 rfl (enters_call enters Tryz.func198 rfl) (by simp [Tryz.ntmps198]) ?_
 show W Tryz.prog 16 _ none _ _ _
 refine .seq (.region [] (by decide) ?_)
 simp only [EOps,gdA,callOf,isPanic,nextOf,altA,evalOp,St.ev,St.put,argT,ofV,thenQ]
 refine .seq (.region [] (by decide) ?_)
 simp only [EOps,gdA,callOf,isPanic,nextOf,altA,evalOp,St.ev,Av.get,St.put,thenQ,Nat.reduceEqDiff,↓reduceIte,List.getElem?_cons_zero,List.getElem?_cons_succ,Option.map_some,assertW]
 refine .seq (.seq (.region [] (by decide) ?_))
 simp only [EOps,gdA,callOf,isPanic,nextOf,altA,evalOp,St.ev,Av.get,St.put,thenQ,↓reduceIte,Option.map_some,Bool.not_true,evUn]
 refine .cond (t:=false) rfl (.skip ?_)
 simp only [thenQ]
 refine .seq (.region [] (by decide) ?_)
 simp only [EOps,gdA,callOf,isPanic,nextOf,altA,evalOp,St.ev,Av.get,St.put,thenQ,Nat.reduceEqDiff,↓reduceIte]
 exact .ret ⟨_,rfl,rfl,_,rfl,rfl⟩
end Go.Proofs.YtjlhemfmeboadaaGreatDoor
namespace Go.Proofs.YtjlhemfmeboadaaGreatDoor
set_option linter.unusedVariables false
set_option linter.unusedSimpArgs false
open Go Go.Av

/-! ### A text whose folds are let go -/

def unfN:Nat→Bytes→Bytes
 | 0,_=>[]
 | _ + 1,[]=>[]
 | n + 1,b::t=>if lk (b::t) = 0 then b::unfN n t else unfN n ((b::t).drop (lk (b::t)))
def unf (s:Bytes):Bytes:=unfN s.length s
theorem lk_le (s:Bytes):lk s≤s.length:=by
 unfold lk; split
 ·split<;>simp
 ·split<;>simp
 ·simp
theorem unfN_more:∀ (n:Nat) (s:Bytes),s.length≤n→unfN n s = unfN s.length s:=by
 intro n
 induction n using Nat.strongRecOn with
 | _ n ih=>
  intro s h
  match n,s,h with
  | 0,[],_=>rfl
  | n + 1,[],_=>rfl
  | n + 1,b::t,h=>
   simp only [List.length_cons,unfN]
   have h1:t.length≤n:=by simpa using h
   split
   ·rw [ih n (by omega) t h1]
   ·rename_i hk
    have hd:((b::t).drop (lk (b::t))).length≤t.length:=by simp; omega
    rw [ih n (by omega) _ (by omega)]
    rcases Nat.lt_or_ge t.length n with h2 | h2
    ·rw [ih t.length (by omega) _ hd]
    ·have:t.length = n:=by omega
     rw [this,ih n (by omega) _ (by omega)]
theorem unf_nil:unf [] = []:=rfl
theorem unf_cons0 (b:UInt8) (t:Bytes) (h:lk (b::t) = 0):unf (b::t) = b::unf t:=by
 show unfN (t.length + 1) (b::t) = _
 simp only [unfN,h,if_true]
 rfl
theorem unf_drop (s:Bytes) (h:lk s ≠ 0):unf s = unf (s.drop (lk s)):=by
 match s,h with
 | b::t,h=>
  show unfN (t.length + 1) (b::t) = _
  simp only [unfN,h,if_false]
  exact unfN_more _ _ (by simp; omega)
theorem unf_len:∀ (n:Nat) (s:Bytes),s.length≤n→(unf s).length≤s.length:=by
 intro n
 induction n with
 | zero=>intro s h; match s,h with | [],_=>simp [unf_nil]
 | succ n ih=>
  intro s h
  match s,h with
  | [],_=>simp [unf_nil]
  | b::t,h=>
   by_cases hk:lk (b::t) = 0
   ·rw [unf_cons0 b t hk]
    have:=ih t (by simpa using h)
    simpa using this
   ·rw [unf_drop _ hk]
    have:=ih ((b::t).drop (lk (b::t))) (by simp at h ⊢; omega)
    simp at this ⊢; omega
theorem unf_le (s:Bytes):(unf s).length≤s.length:=unf_len _ s (Nat.le_refl _)
structure wrI (s:Bytes) (i last:Nat) (out:Bytes):Prop where
 li:last≤i
 ln:last≤s.length
 le:i≤s.length + 1
 eq:out++((s.drop last).take (i - last)++unf (s.drop i)) = unf s
theorem wrI.len {s:Bytes} {i last:Nat} {out:Bytes} (h:wrI s i last out) (hi:i≤s.length):out.length + (i - last)≤s.length:=by
 have h1:=unf_le s
 rw [← h.eq] at h1
 have:=h.li
 simp at h1
 omega
theorem wrI.next {s:Bytes} {i last:Nat} {out:Bytes} (h:wrI s i last out) (hi:i≤s.length) (hk:lk (s.drop i) = 0):wrI s (i + 1) last out:=by
 have hli:=h.li
 refine ⟨by omega,h.ln,by omega,?_⟩
 rw [← h.eq]
 congr 1
 rcases Nat.lt_or_ge i s.length with h1 | h1
 ·have hd:s.drop i = s[i]::s.drop (i + 1):=by rw [List.drop_eq_getElem_cons h1]
  rw [hd] at hk
  rw [hd,unf_cons0 _ _ hk,show i + 1 - last = (i - last) + 1 by omega,List.take_add_one]
  have hg:(s.drop last)[i - last]? = some s[i]:=by rw [List.getElem?_drop,show last + (i - last) = i by omega]; exact List.getElem?_eq_getElem h1
  rw [hg]
  simp
 ·have:i = s.length:=by omega
  subst this
  have e1:s.drop s.length = []:=List.drop_eq_nil_of_le (Nat.le_refl _)
  have e2:s.drop (s.length + 1) = []:=List.drop_eq_nil_of_le (by omega)
  rw [e1,e2,unf_nil]
  simp only [List.append_nil]
  rw [List.take_of_length_le (by simp; omega),List.take_of_length_le (by simp)]
theorem wrI.cut {s:Bytes} {i last:Nat} {out:Bytes} (h:wrI s i last out) (hi:i≤s.length) (hk:lk (s.drop i) ≠ 0):wrI s (i + lk (s.drop i)) (i + lk (s.drop i)) (out++(s.drop last).take (i - last)):=by
 have hl:=lk_le (s.drop i)
 simp at hl
 refine ⟨Nat.le_refl _,by omega,by omega,?_⟩
 rw [Nat.sub_self,List.take_zero,List.nil_append,← h.eq,List.append_assoc]
 congr 2
 rw [unf_drop _ hk,List.drop_drop]
theorem wrI.last {s:Bytes} {last:Nat} {out:Bytes} (h:wrI s (s.length + 1) last out):out++s.drop last = unf s:=by
 have:=h.eq
 have e2:s.drop (s.length + 1) = []:=List.drop_eq_nil_of_le (by omega)
 rw [e2,unf_nil,List.append_nil,List.take_of_length_le (by simp; omega)] at this
 exact this
theorem wrI.start (s:Bytes):wrI s 0 0 []:=⟨Nat.le_refl _,Nat.zero_le _,by omega,by simp⟩
end Go.Proofs.YtjlhemfmeboadaaGreatDoor
namespace Go.Proofs.YtjlhemfmeboadaaGreatDoor
set_option linter.unusedVariables false
set_option linter.unusedSimpArgs false
open Go Go.Av

def wsC (s:Bytes) (i last:Nat) (out:Bytes):List (Nat × AV):=
 [(0,tree),(2,.str s),(8,.iface 228 (.ptr 1 0)),(9,.int .i64 (last:Int)),(6,.int .i64 (out.length:Int)),(7,.nilif),(11,.bool false),(12,.int .i64 (i:Int))]
theorem methW : methA Tryz.prog 228 "WriteString" = some 212 := by kernel_rfl
theorem ixS (s:Bytes) (i:Nat) (b:UInt8) (h:s[i]? = some b):evIndex Tryz.prog 9 (.str s) (.int .i64 (i:Int)) = some (byteA b):=xs_of Tryz.underlying9 .i64 (i:Int) ⟨by omega,by simpa using h⟩
theorem mapIA (b:UInt8) (H:List OB):evIndexAddr Tryz.prog 137 (.vptr (mapL m2)) (byteA b) H = some (.vptr ((mapL m2).drop b.toNat)):=by
 have:=b.toNat_lt
 simp [byteA,evIndexAddr,idx_nat,Tryz.underlying137,tz5,this]
theorem mapLD (b:UInt8) (H:List OB):evLoad Tryz.prog 5 (.vptr ((mapL m2).drop b.toNat)) H = some (.int .u8 ((m2 b.toNat:Nat):Int)):=by
 have:=mapL_get m2 b.toNat b.toNat_lt
 simp [evLoad,tz5,tg5,ldA,this]
theorem eqn1 (l:List AV):evNilEq Tryz.prog .eql 167 (.vptr l) .nilptr = some (.bool false):=by simp [evNilEq,Tryz.underlying167]
theorem eqn2:evNilEq Tryz.prog .eql 167 .nilptr .nilptr = some (.bool true):=by simp [evNilEq,Tryz.underlying167]
theorem tabIA (j:Nat) (nd:AV) (H:List OB) (h:([.nilptr,n9,n4,.nilptr]:List AV)[j]? = some nd) (ho:nd.cells = [nd]):evIndexAddr Tryz.prog 168 (.vsl 0 false [.nilptr,n9,n4,.nilptr]) (.int .i64 (j:Int)) H = some (.vptr [nd]):=by
 have:=ixv_of (P:=Tryz.prog) (t:=168) Tryz.underlying168 tz167 0 false [.nilptr,n9,n4,.nilptr] .i64 (j:Int) H (v:=nd) ⟨by omega,by simpa using h⟩ (by rw [ho]; rfl)
 rw [ho] at this; exact this
theorem nb1 (t:TypeId) (o:BinOp):evBin Tryz.prog o t .nilif .nilif = none:=by cases o<;>rfl
theorem nb2 (t:TypeId) (o:BinOp):evNilEq Tryz.prog o t .nilif .nilif = none:=by cases o<;>simp [evNilEq]
theorem nife:evNilC Tryz.prog .neq 149 .nilif (.const .nilIface) = some (.bool false):=by simp [evNilC,nilKind,Tryz.underlying149]
def treeT1:AV:=.vptr (.int .i64 4::mapL m2)
def treeP1:AV:=.vptr (treeC.drop 1)
def treeP4:AV:=.vptr (treeC.drop 4)
def tabV:AV:=.vsl 0 false [.nilptr,n9,n4,.nilptr]
theorem tN:evNil tree = some tree:=rfl
theorem tA0:evFieldAddr Tryz.prog 172 tree 0 = some tree:=by rw [tree,fv172_0]; rfl
theorem tA1:evFieldAddr Tryz.prog 172 tree 1 = some treeT1:=by rw [tree,fv172_1]; rfl
theorem tA2:evFieldAddr Tryz.prog 172 tree 2 = some (.vptr (mapL m2)):=by rw [tree,fv172_2]; rfl
theorem tB1:evFieldAddr Tryz.prog 170 tree 1 = some treeP1:=by rw [tree,fv170_1]; rfl
theorem tB4:evFieldAddr Tryz.prog 170 tree 4 = some treeP4:=by rw [tree,fv170_4]; rfl
theorem tL1 (H:List OB):evLoad Tryz.prog 3 treeT1 H = some (.int .i64 4):=lw3 _ _ H
theorem tL2 (H:List OB):evLoad Tryz.prog 3 treeP1 H = some (.int .i64 0):=lw3 _ _ H
theorem tL4 (H:List OB):evLoad Tryz.prog 168 treeP4 H = some tabV:=lw168 _ _ H
theorem tI (j:Nat) (nd:AV) (H:List OB) (h:([.nilptr,n9,n4,.nilptr]:List AV)[j]? = some nd) (ho:nd.cells = [nd]):evIndexAddr Tryz.prog 168 tabV (.int .i64 (j:Int)) H = some (.vptr [nd]):=tabIA j nd H h ho
theorem hfT (x:Bytes):AV.hfs [tree,.str x,.bool false] = true:=by kernel_rfl
theorem lendT (H:List OB) (x:Bytes) (o:Out):lend H [tree,.str x,.bool false] o = some [tree,.str x,.bool false]:=by unfold lend; rw [if_pos (hfT x)]
theorem addB (t a b:Nat) (h:a + b < 9223372036854775807):evBin Tryz.prog .add t (.int .i64 (a:Int)) (.int .i64 (b:Int)) = some (.int .i64 ((a + b:Nat):Int)):=by
 rw [b_add64 _ _ (by omega)]; simp
theorem nilM : evNilM Tryz.prog (.func (.method "WriteString") [.iface 228 (.ptr 1 0)] []) = some (.func (.method "WriteString") [.iface 228 (.ptr 1 0)] []) := by
  simp [evNilM, methW]
theorem plainM : plainFn (.method "WriteString") = false := rfl

set_option maxRecDepth 4000 in
theorem write197 (s : Bytes) (hs : s.length ≤ 1000000) :
    ShFn Tryz.prog 197 [tree, .iface 228 (.ptr 1 0), .str s] (wrH s.length []) (.ret (.tup [.int .i64 ((unf s).length : Int), .nilif])) (wrH s.length (unf s)) := by
  refine ShFn.ofX Tryz.func197 rfl (enters_call enters Tryz.func197 rfl) (by simp [Tryz.ntmps197]) ?_
  show W Tryz.prog 131 2 none _ _ _
  refine .seq (.region [] (by decide) ?_)
  simp only [EOps, gdA, callOf, isPanic, nextOf, altA, evalOp, St.ev, St.put, argT, ofV, thenQ, Nat.reduceAdd, Nat.zero_add]
  refine .seq (.region [.sh (.ret (.iface 228 (.ptr 1 0))) (wrH s.length [])] (by decide) ?_)
  simp only [EOps, gdA, callOf, isPanic, nextOf, altA, evalOp, St.ev, Av.get, St.put, thenQ, Nat.reduceEqDiff, ↓reduceIte, List.map_cons, List.map_nil, List.nil_append, List.append_nil]
  refine ⟨sw198 _, ?_⟩
  refine .seq (.region [] (by decide) ?_)
  simp only [EOps, gdA, callOf, isPanic, nextOf, altA, evalOp, St.ev, St.put, ofV, thenQ]
  refine .seq (.region [] (by decide) ?_)
  simp only [EOps, gdA, callOf, isPanic, nextOf, altA, evalOp, St.ev, St.put, ofV, thenQ]
  refine .seq (.seq (.region [] (by decide) ?_))
  simp only [EOps, gdA, callOf, isPanic, nextOf, altA, evalOp, St.ev, St.put, ofV, thenQ]
  refine .block (.loopT (X := Nat × Nat × Bytes) (fun x => wsC s x.1 x.2.1 x.2.2) (fun x => wrH s.length x.2.2) (fun x => wrI s x.1 x.2.1 x.2.2) (fun x => s.length + 1 - x.1) (0, 0, []) (wrI.start s) ⟨rfl, rfl, rfl, rfl, rfl, rfl, rfl, rfl, trivial⟩ rfl ?_)
  rintro ⟨i, last, out⟩ hI
  have hle := hI.le
  simp only at hI hle ⊢
  refine .seq (.seq (.region [] (by decide) ?_))
  simp only [EOps, deN, gdA, callOf, isPanic, nextOf, altA, evalOp, St.ev, Av.get, St.put, thenQ, Nat.reduceEqDiff, ↓reduceIte, Option.map_some, wsC, ls9, b_leq]
  rcases Nat.lt_or_ge s.length i with hi | hi
  · -- the end
    refine .cond (t := false) (by simp [St.ev, Av.get]; omega) (.exit ?_)
    have hii : i = s.length + 1 := by omega
    subst hii
    have hfin := hI.last
    have hln := hI.ln
    simp only [thenQ, ↓reduceIte, blockQ]
    refine .seq (.seq (.region [] (by decide) ?_))
    simp only [EOps, deN, gdA, callOf, isPanic, nextOf, altA, evalOp, St.ev, Av.get, St.put, thenQ, Nat.reduceEqDiff, ↓reduceIte, Option.map_some, ls9, b_neq]
    rcases Nat.lt_or_ge last s.length with hl | hl
    · refine .cond (t := true) (by simp [St.ev, Av.get]; omega) ?_
      have hw := wr212 s.length out (s.drop last) (by
        have := unf_le s; rw [← hfin] at this; simpa using this) (by omega)
      have hol : out.length + (s.drop last).length ≤ s.length := by have := unf_le s; rw [← hfin] at this; simpa using this
      refine .seq (W.drawW (pre := [_, _, _, _, _, _, _]) (ow := _) (post := [_, _, _, _, _]) (r := .tup [.int .i64 ((s.drop last).length : Int), .nilif]) (H' := wrH s.length (out ++ s.drop last)) [] [] mixed (by kernel_rfl) rfl (by kernel_rfl) (by kernel_rfl) (by kernel_rfl) (by kernel_rfl) ?_)
      have hb := bnds_from (n := s.length) .i64 last hln
      have ht : (s.drop last).take (s.length - last) = s.drop last := List.take_of_length_le (by simp)
      simp only [EDf, deN, gdA, callOf, isPanic, evalOp, St.ev, Av.get, St.put, thenQ, Nat.reduceEqDiff, ↓reduceIte, List.map_cons, List.map_nil, List.getElem?_cons_zero, List.getElem?_cons_succ, Option.map_some, Option.map_none, Bool.false_eq_true, true_and, ss9, hb, ht, evNil, plainM, nilM]
      refine ⟨_, _, rfl, ⟨_, methW, hw⟩, ?_⟩
      refine .region [] (by decide) ?_
      simp only [EOps, gdA, callOf, isPanic, nextOf, altA, evalOp, St.ev, Av.get, St.put, thenQ, Nat.reduceEqDiff, ↓reduceIte, addB 3 out.length (s.drop last).length (by omega)]
      refine .ret ⟨_, rfl, by rw [hfin], _, rfl, ?_⟩
      rw [← hfin, List.length_append]
      rfl
    · refine .cond (t := false) (by simp [St.ev, Av.get]; omega) (.skip ?_)
      have h0 : s.drop last = [] := List.drop_eq_nil_of_le hl
      rw [h0, List.append_nil] at hfin
      subst hfin
      simp only [thenQ]
      exact .ret ⟨_, rfl, rfl, _, rfl, rfl⟩
  · refine .cond (t := true) (by simp [St.ev, Av.get]; omega) (.skip ?_)
    simp only [thenQ]
    refine .block (.seqP True (wsC s i last out) (wrH s.length out) ?_ ?_)
    · rcases Nat.lt_or_ge i s.length with hlt | hge
      · obtain ⟨b, hb⟩ : ∃ b, s[i]? = some b := ⟨_, List.getElem?_eq_getElem hlt⟩
        have hne : ((i : Int) != (s.length : Int)) = true := by simp; omega
        have hdr : s.drop i = b :: s.drop (i + 1) := by
          rw [List.drop_eq_getElem_cons hlt]
          rw [List.getElem?_eq_getElem hlt] at hb
          cases hb; rfl
        refine .seq (.region [] (by decide) ?_)
        simp only [EOps, deN, gdA, callOf, isPanic, nextOf, altA, evalOp, St.ev, Av.get, St.put, ofV, thenQ, Nat.reduceEqDiff, ↓reduceIte, List.getElem?_cons_zero, List.getElem?_cons_succ, List.getElem?_toArray, Option.map_some, Option.bind_some, beq_true, pickA, cond_true, true_and, wsC, ls9, b_neq, hne, tN, tA0, tB1, tL2, b_eql]
        refine .cond (t := true) rfl (.seq (W.drawG [] mixed (by kernel_rfl) (by kernel_rfl) ?_))
        have hcv := cv8 (m2 b.toNat) (Nat.lt_of_le_of_lt (m2_lt b) (by decide)) (wrH s.length out)
        simp only [EDg, gdA, callOf, isPanic, evalOp, St.ev, Av.get, St.put, thenQ, Nat.reduceEqDiff, ↓reduceIte, Option.map_some, true_and, tN, tA2, ixS s i b hb, mapIA, mapLD, hcv]
        refine W.fewer ((13, .int .i64 ((m2 b.toNat : Nat) : Int)) :: wsC s i last out) ⟨rfl, rfl, rfl, rfl, rfl, rfl, rfl, rfl, rfl, trivial⟩ ?_
        have stop : m2 b.toNat = 4 ∨ ([.nilptr, n9, n4, .nilptr] : List AV)[m2 b.toNat]? = some .nilptr → lk (s.drop i) = 0 := by
          intro h
          rw [hdr]
          refine lk_no _ _ ?_
          rcases m2_cases b with ⟨hm, hbb⟩ | ⟨hm, hbb⟩ | ⟨hm, hbb⟩ | ⟨hm, hbb⟩ | ⟨hm, hbb⟩
          · subst hbb; decide
          · rw [hm] at h; rcases h with h | h <;> cases h
          · rw [hm] at h; rcases h with h | h <;> cases h
          · subst hbb; decide
          · exact ⟨hbb.2.1, hbb.2.2.1⟩
        have hj := m2_lt b
        generalize m2 b.toNat = j at *
        rcases Nat.lt_or_ge j 4 with h4 | h4
        · have he : ((j : Int) == 4) = false := by simp; omega
          have hnd : ([.nilptr, n9, n4, .nilptr] : List AV)[j]? = some .nilptr ∨ ∃ l, ([.nilptr, n9, n4, .nilptr] : List AV)[j]? = some (.vptr l) := by
            match j, h4 with
            | 0, _ => exact .inl rfl
            | 1, _ => exact .inr ⟨_, rfl⟩
            | 2, _ => exact .inr ⟨_, rfl⟩
            | 3, _ => exact .inl rfl
          rcases hnd with hnd | ⟨l, hnd⟩
          · refine .seq (.region [] (by decide) ?_)
            simp only [EOps, gdA, callOf, isPanic, nextOf, altA, evalOp, St.ev, Av.get, St.put, ofV, thenQ, Nat.reduceEqDiff, ↓reduceIte, List.getElem?_cons_zero, List.getElem?_cons_succ, List.getElem?_toArray, Option.map_some, Option.bind_some, beq_false, Bool.not_false, pickA, cond_false, wsC, tN, tA0, tA1, tB4, tL1, tL4, tI j .nilptr (wrH s.length out) hnd rfl, lw167, b_eql, he, eqn2, nq4]
            refine .cond (t := true) rfl (.seq (.region [] (by decide) ?_))
            simp only [EOps, gdA, callOf, isPanic, nextOf, altA, evalOp, St.ev, Av.get, St.put, ofV, thenQ, Nat.reduceEqDiff, ↓reduceIte, add1 3 i (by omega)]
            refine .exit ?_
            exact ⟨(i + 1, last, out), hI.next hi (stop (.inr hnd)), by omega, ⟨rfl, rfl, rfl, rfl, rfl, rfl, rfl, rfl, trivial⟩, rfl, rfl⟩
          · refine .seq (.region [] (by decide) ?_)
            simp only [EOps, gdA, callOf, isPanic, nextOf, altA, evalOp, St.ev, Av.get, St.put, ofV, thenQ, Nat.reduceEqDiff, ↓reduceIte, List.getElem?_cons_zero, List.getElem?_cons_succ, List.getElem?_toArray, Option.map_some, Option.bind_some, beq_false, Bool.not_false, pickA, cond_false, wsC, tN, tA0, tA1, tB4, tL1, tL4, tI j (.vptr l) (wrH s.length out) hnd rfl, lw167, b_eql, he, eqn1, nq3]
            refine .cond (t := false) rfl (.skip ?_)
            exact ⟨⟨rfl, rfl, rfl, rfl, rfl, rfl, rfl, rfl, trivial⟩, rfl, rfl⟩
        · have hj4 : j = 4 := by omega
          subst hj4
          refine .seq (.region [] (by decide) ?_)
          have he : (((4 : Nat) : Int) == 4) = true := rfl
          simp only [EOps, gdA, callOf, isPanic, nextOf, altA, evalOp, St.ev, Av.get, St.put, ofV, thenQ, Nat.reduceEqDiff, ↓reduceIte, List.getElem?_cons_zero, List.getElem?_cons_succ, List.getElem?_toArray, Option.map_some, Option.bind_some, beq_false, Bool.not_true, pickA, wsC, tN, tA1, tL1, b_eql, he]
          refine .cond (t := true) rfl (.seq (.region [] (by decide) ?_))
          simp only [EOps, gdA, callOf, isPanic, nextOf, altA, evalOp, St.ev, Av.get, St.put, ofV, thenQ, Nat.reduceEqDiff, ↓reduceIte, add1 3 i (by omega)]
          refine .exit ?_
          exact ⟨(i + 1, last, out), hI.next hi (stop (.inl rfl)), by omega, ⟨rfl, rfl, rfl, rfl, rfl, rfl, rfl, rfl, trivial⟩, rfl, rfl⟩
      · have hii : i = s.length := by omega
        have hne : ((i : Int) != (s.length : Int)) = false := by simp; omega
        refine .seq (.region [] (by decide) ?_)
        simp only [EOps, deN, gdA, callOf, isPanic, nextOf, altA, evalOp, St.ev, Av.get, St.put, ofV, thenQ, Nat.reduceEqDiff, ↓reduceIte, List.getElem?_cons_zero, List.getElem?_cons_succ, List.getElem?_toArray, Option.map_some, Option.bind_some, beq_true, Bool.false_eq_true, pickA, true_and, wsC, ls9, b_neq, hne]
        refine .cond (t := false) rfl (.skip ?_)
        exact ⟨⟨rfl, rfl, rfl, rfl, rfl, rfl, rfl, rfl, trivial⟩, rfl, rfl⟩
    · intro _
      have hbf := bnds_from (n := s.length) .i64 i hi
      have htk : (s.drop i).take (s.length - i) = s.drop i := List.take_of_length_le (by simp)
      refine .seq (.region [.pure (.ret (.tup [.str [], .int .i64 (lk (s.drop i) : Int), .bool (decide (lk (s.drop i) ≠ 0))]))] (by decide) ?_)
      simp only [EOps, deN, gdA, callOf, isPanic, nextOf, altA, evalOp, St.ev, Av.get, St.put, thenQ, Nat.reduceEqDiff, ↓reduceIte, List.map_cons, List.map_nil, List.nil_append, List.append_nil, List.getElem?_cons_zero, List.getElem?_cons_succ, Option.map_some, Option.map_none, wsC, ss9, hbf, htk, lendT]
      refine ⟨lookup199 _, ?_⟩
      refine W.fewer ((14, .str []) :: (15, .int .i64 (lk (s.drop i) : Int)) :: (16, .bool (decide (lk (s.drop i) ≠ 0))) :: wsC s i last out) ⟨rfl, rfl, rfl, rfl, rfl, rfl, rfl, rfl, rfl, rfl, rfl, trivial⟩ ?_
      have hlk := lk_le (s.drop i)
      rw [List.length_drop] at hlk
      have hnx := hI.next hi
      have hct := hI.cut hi
      have hlen := hI.len hi
      generalize lk (s.drop i) = k at *
      by_cases hk : k = 0
      · subst hk
        have hf : decide ((0 : Nat) ≠ 0) = false := rfl
        rw [hf]
        refine .seq (.region [] (by decide) ?_)
        simp only [EOps, gdA, callOf, isPanic, nextOf, altA, evalOp, St.ev, Av.get, St.put, ofV, thenQ, Nat.reduceEqDiff, ↓reduceIte, List.getElem?_cons_zero, List.getElem?_cons_succ, List.getElem?_toArray, Option.bind_some, beq_true, Bool.false_eq_true, pickA, wsC]
        refine .seq (.seq (.region [] (by decide) ?_))
        simp only [EOps, gdA, callOf, isPanic, nextOf, altA, evalOp, St.ev, Av.get, St.put, thenQ, Nat.reduceEqDiff, ↓reduceIte]
        refine .cond (t := false) rfl (.skip ?_)
        simp only [thenQ]
        refine .region [] (by decide) ?_
        simp only [EOps, gdA, callOf, isPanic, nextOf, altA, evalOp, St.ev, Av.get, St.put, ofV, thenQ, Nat.reduceEqDiff, ↓reduceIte, and_true, blockQ, add1 3 i (by omega)]
        exact ⟨(i + 1, last, out), hnx rfl, by omega, ⟨rfl, rfl, rfl, rfl, rfl, rfl, rfl, rfl, trivial⟩, rfl⟩
      · have hf : decide (k ≠ 0) = true := decide_eq_true hk
        have he : ((k : Int) == 0) = false := by simpa using hk
        rw [hf]
        obtain ⟨t, ht⟩ : ∃ t, t = (s.drop last).take (i - last) := ⟨_, rfl⟩
        have htl : t.length = i - last := by rw [ht]; simp; omega
        have hli := hI.li
        have hw := wr212 s.length out t (by omega) (by omega)
        have hw2 := wr212 s.length (out ++ t) [] (by simp; omega) (by omega)
        rw [List.append_nil] at hw2
        have hbb := bnds_both (n := s.length) .i64 .i64 last i hli hi
        have hcut := hct hk
        rw [← ht] at hcut
        refine .seq (.region [] (by decide) ?_)
        simp only [EOps, gdA, callOf, isPanic, nextOf, altA, evalOp, St.ev, Av.get, St.put, ofV, thenQ, Nat.reduceEqDiff, ↓reduceIte, List.getElem?_cons_zero, List.getElem?_cons_succ, List.getElem?_toArray, Option.bind_some, beq_true, pickA, cond_true, wsC, b_eql, he]
        refine .seq (.seq (.region [] (by decide) ?_))
        simp only [EOps, gdA, callOf, isPanic, nextOf, altA, evalOp, St.ev, Av.get, St.put, thenQ, Nat.reduceEqDiff, ↓reduceIte]
        refine .cond (t := true) rfl (.seq (W.drawW (pre := [_, _, _, _, _, _, _, _]) (ow := _) (post := [_, _, _, _, _]) (r := .tup [.int .i64 (t.length : Int), .nilif]) (H' := wrH s.length (out ++ t)) [] [] mixed (by kernel_rfl) rfl (by kernel_rfl) (by kernel_rfl) (by kernel_rfl) (by kernel_rfl) ?_))
        simp only [EDf, deN, gdA, callOf, isPanic, evalOp, St.ev, Av.get, St.put, thenQ, Nat.reduceEqDiff, ↓reduceIte, List.map_cons, List.map_nil, List.getElem?_cons_zero, List.getElem?_cons_succ, Option.map_some, Option.map_none, Bool.false_eq_true, true_and, ss9, hbb, ← ht, evNil, plainM, nilM]
        refine ⟨_, _, rfl, ⟨_, methW, hw⟩, ?_⟩
        refine W.fewer [(0, tree), (2, .str s), (8, .iface 228 (.ptr 1 0)), (6, .int .i64 (out.length : Int)), (7, .nilif), (10, .int .i64 (t.length : Int)), (11, .bool false), (12, .int .i64 (i : Int)), (14, .str []), (15, .int .i64 (k : Int))] ⟨rfl, rfl, rfl, rfl, rfl, rfl, rfl, rfl, rfl, rfl, trivial⟩ ?_
        refine .seq (.region [] (by decide) ?_)
        simp only [EOps, gdA, callOf, isPanic, nextOf, altA, evalOp, St.ev, Av.get, St.put, thenQ, Nat.reduceEqDiff, ↓reduceIte, addB 3 out.length t.length (by omega)]
        refine .seq (.seq (.region [] (by decide) ?_))
        simp only [EOps, gdA, callOf, isPanic, nextOf, altA, evalOp, St.ev, Av.get, St.put, ofV, thenQ, Nat.reduceEqDiff, ↓reduceIte, Option.map_some, nb1, nb2, nife]
        refine .cond (t := false) rfl (.skip ?_)
        simp only [thenQ]
        refine .seq (.region [.sh (.ret (.tup [.int .i64 (([] : Bytes).length : Int), .nilif])) (wrH s.length (out ++ t))] (by decide) ?_)
        simp only [EOps, gdA, callOf, isPanic, nextOf, altA, evalOp, St.ev, Av.get, St.put, thenQ, Nat.reduceEqDiff, ↓reduceIte, List.map_cons, List.map_nil, List.getElem?_cons_zero, List.getElem?_cons_succ, Option.map_some, List.length_nil]
        refine ⟨⟨_, methW, hw2⟩, ?_⟩
        refine .seq (.region [] (by decide) ?_)
        simp only [EOps, gdA, callOf, isPanic, nextOf, altA, evalOp, St.ev, Av.get, St.put, thenQ, Nat.reduceEqDiff, ↓reduceIte, Nat.add_zero, addB 3 (out.length + t.length) 0 (by omega)]
        refine .seq (.seq (.region [] (by decide) ?_))
        simp only [EOps, gdA, callOf, isPanic, nextOf, altA, evalOp, St.ev, Av.get, St.put, ofV, thenQ, Nat.reduceEqDiff, ↓reduceIte, Option.map_some, nb1, nb2, nife]
        refine .cond (t := false) rfl (.skip ?_)
        simp only [thenQ]
        refine .seq (.region [] (by decide) ?_)
        simp only [EOps, gdA, callOf, isPanic, nextOf, altA, evalOp, St.ev, Av.get, St.put, thenQ, Nat.reduceEqDiff, ↓reduceIte, addB 3 i k (by omega)]
        refine .seq (.region [] (by decide) ?_)
        simp only [EOps, gdA, callOf, isPanic, nextOf, altA, evalOp, St.ev, Av.get, St.put, thenQ, ↓reduceIte]
        refine .exit ?_
        refine ⟨(i + k, i + k, out ++ t), hcut, by simp only; omega, ⟨rfl, rfl, rfl, rfl, ?_, rfl, rfl, rfl, trivial⟩, rfl, rfl⟩
        simp [Av.get]
end Go.Proofs.YtjlhemfmeboadaaGreatDoor
namespace Go.Proofs.YtjlhemfmeboadaaGreatDoor
set_option linter.unusedVariables false
set_option linter.unusedSimpArgs false
open Go Go.Av

theorem replace196 (s:Bytes) (hs:s.length≤1000000):PureFn Tryz.prog 196 [tree,.str s] (.ret (.str (unf s))):=by
 refine PureFn.of Tryz.func196 rfl (enters_call enters Tryz.func196 rfl) (by simp [Tryz.ntmps196]) ?_
 show W Tryz.prog 15 0 none _ _ _
 have hz8:zeroA Tryz.prog 5 = some (.int .u8 0):=by kernel_rfl
 have hza:zeroA Tryz.prog 227 = some (.vsl 0 true []):=by kernel_rfl
 have hmk:evMakeSlice Tryz.prog 227 (.int .i64 0) (.int .i64 (s.length:Int)) [] = some (.sl 0 0 0 0,[.cells (zeros s.length) false]):=by
  have hi:idx (.int .i64 0) = some 0:=rfl
  have hr:rep s.length (AV.cells (.int .u8 0)) = zeros s.length:=by simp [rep,zeros,AV.cells,List.flatten_replicate_singleton]
  simp only [evMakeSlice,Tryz.underlying227,hi,idx_nat,ap227,hz8,List.length_nil,List.nil_append,hr]
  rw [if_pos (by omega)]
 have hl:∀ v,evLoad Tryz.prog 227 (.ptr 1 0) [.cells (bytesA (unf s)++zeros (s.length - (unf s).length)) false,.cells [v] false] = some v:=by intro v; simp [ld227,ldC]
 have hcv:evConv Tryz.prog 227 9 (.sl 0 0 (unf s).length 0) (wrH s.length (unf s)) = some (.str (unf s),wrH s.length (unf s)):=by
  have hbl:(bytesA (unf s)).length = (unf s).length:=by simp [bytesA]
  have ht:(bytesA (unf s)++zeros (s.length - (unf s).length)).take (unf s).length = bytesA (unf s):=by rw [List.take_append_of_le_length (by omega),List.take_of_length_le (by omega)]
  simp [evConv,Tryz.underlying227,Tryz.underlying9,Tryz.underlying5,wrH,ht,hbl,unbyte_bytesA]
 refine .seq (.region [] (by decide) ?_)
 simp only [EOps,gdA,callOf,isPanic,nextOf,altA,evalOp,St.ev,St.put,argT,ofV,thenQ,Nat.zero_add]
 refine .seq (.region [] (by decide) ?_)
 have hst:evStore Tryz.prog 227 (.ptr 1 0) (.sl 0 0 0 0) [.cells (zeros s.length) false,.cells [.vsl 0 true []] false] = some (wrH s.length []):=by
  simp [st227,stC,AV.cells,AV.isC,setC,wrH,bytesA]
 simp only [EOps,deN,gdA,callOf,isPanic,nextOf,altA,evalOp,St.ev,Av.get,St.put,ofV,thenQ,Nat.reduceEqDiff,↓reduceIte,List.nil_append,Option.map_some,AV.cells,List.length_cons,List.length_nil,Nat.zero_add,List.cons_append,ls9,hmk,hza,hst]
 refine .seq (.region [.sh (.ret (.tup [.int .i64 ((unf s).length:Int),.nilif])) (wrH s.length (unf s))] (by decide) ?_)
 simp only [EOps,gdA,callOf,isPanic,nextOf,altA,evalOp,St.ev,Av.get,St.put,thenQ,Nat.reduceEqDiff,↓reduceIte,List.map_cons,List.map_nil,List.nil_append,List.append_nil,Tryz.underlying228]
 refine ⟨write197 s hs,?_⟩
 refine .seq (.region [] (by decide) ?_)
 have hl2:evLoad Tryz.prog 227 (.ptr 1 0) (wrH s.length (unf s)) = some (.sl 0 0 (unf s).length 0):=hl _
 simp only [EOps,gdA,callOf,isPanic,nextOf,altA,evalOp,St.ev,Av.get,St.put,thenQ,Nat.reduceEqDiff,↓reduceIte,Option.map_some,hl2,hcv]
 exact .ret ⟨_,rfl,_,rfl,.refl _⟩
theorem methR : methA Tryz.prog 135 "Replace" = some 196 := by kernel_rfl

def obS:OB:=.cells [.int .u32 0,.int .i32 0,.int .u32 0,.nilif,.sl 0 0 8 0] false
theorem replace53 (s:Bytes) (hs:s.length≤1000000):ShFn Tryz.prog 53 [.ptr 1 0,.str s] [obF,obS] (.ret (.str (unf s))) (obF::obD::genT):=by
 refine ShFn.ofX Tryz.func53 rfl (enters_call enters Tryz.func53 rfl) (by simp [Tryz.ntmps53]) ?_
 show W Tryz.prog 17 2 none _ _ _
 refine .seq (.region [] (by decide) ?_)
 simp only [EOps,gdA,callOf,isPanic,nextOf,altA,evalOp,St.ev,St.put,argT,ofV,thenQ,Nat.zero_add]
 refine .seq (.region [.sh (.ret (.tup [])) (obF::obD::genT)] (by decide) ?_)
 simp only [EOps,gdA,callOf,isPanic,nextOf,altA,evalOp,St.ev,Av.get,St.put,thenQ,Nat.reduceEqDiff,↓reduceIte,List.map_cons,List.map_nil,List.nil_append,List.append_nil,Option.map_some,Nat.add_zero,evNil,fa104_0]
 refine ⟨do76 (Nat.zero_le _) once77,?_⟩
 refine .seq (.region [.pure (.ret (.str (unf s)))] (by decide) ?_)
 have hl:evLoad Tryz.prog 102 (.ptr 1 3) (obF::obD::genT) = some (.iface 135 (.ptr 2 0)):=by kernel_rfl
 simp only [EOps,gdA,callOf,isPanic,nextOf,altA,evalOp,St.ev,Av.get,St.put,thenQ,Nat.reduceEqDiff,↓reduceIte,List.map_cons,List.map_nil,Option.map_some,Nat.zero_add,evNil,fa104_1,hl,methR,lend_tree]
 refine ⟨replace196 s hs,?_⟩
 exact .ret ⟨_,rfl,rfl,_,rfl,rfl⟩
set_option maxRecDepth 4000 in
theorem unfolded40 (s:Bytes) (hs:s.length≤1000000):PureFn Tryz.prog 40 [.str s] (.ret (.str (unf s))):=by
 refine PureFn.of Tryz.func40 rfl (enters_call enters Tryz.func40 rfl) (by simp [Tryz.ntmps40]) ?_
 show W Tryz.prog 7 0 none _ _ _
 refine .seq (.region [] (by decide) ?_)
 simp only [EOps,gdA,callOf,isPanic,nextOf,altA,evalOp,St.ev,St.put,argT,ofV,thenQ]
 refine .seq (.region [.sh (.ret (.ptr 1 0)) [obF,obS],.sh (.ret (.str (unf s))) (obF::obD::genT)] (by decide) ?_)
 have hb:evBuildSlice Tryz.prog 38 8 [(0,.str [13,10,32]),(1,.str []),(2,.str [13,10,9]),(3,.str []),(4,.str [10,32]),(5,.str []),(6,.str [10,9]),(7,.str [])] = some (.vsl 0 true (folds.map .str)):=by kernel_rfl
 have x0:({ data:=#[] }:ByteArray).size≤maxLen':=by decide
 have x1:({ data:=#[13,10,32] }:ByteArray).size≤maxLen':=by decide
 have x2:({ data:=#[13,10,9] }:ByteArray).size≤maxLen':=by decide
 have x3:({ data:=#[10,32] }:ByteArray).size≤maxLen':=by decide
 have x4:({ data:=#[10,9] }:ByteArray).size≤maxLen':=by decide
 simp only [EOps,gdA,callOf,isPanic,nextOf,altA,evalOp,St.ev,Av.get,St.put,ofV,thenQ,Nat.reduceEqDiff,↓reduceIte,List.map_cons,List.map_nil,List.nil_append,List.append_nil,Option.map_some,x0,x1,x2,x3,x4,hb]
 refine ⟨new52 true folds rfl (by decide),replace53 s hs,?_⟩
 exact .ret ⟨_,rfl,_,rfl,.refl _⟩
end Go.Proofs.YtjlhemfmeboadaaGreatDoor
namespace Go.Proofs.YtjlhemfmeboadaaGreatDoor
set_option linter.unusedVariables false
set_option linter.unusedSimpArgs false
open Go Go.Av Go.RowKit

/-! ### Where a byte stands -/

def ixB (s:Bytes) (c:UInt8):Int:=Lib.indexByte s c
theorem ixB_spec:∀ (s:Bytes) (c:UInt8),(ixB s c = -1∧c ∉ s)∨∃ i,ixB s c = ((i:Nat):Int)∧s[i]? = some c∧c ∉ s.take i
 | [],c=>.inl ⟨rfl,by simp⟩
 | b::t,c=>by
  have ih:=ixB_spec t c
  unfold ixB at ih ⊢
  unfold Lib.indexByte
  by_cases hb:b = c
  ·subst hb; exact .inr ⟨0,by simp,rfl,by simp⟩
  ·rw [if_neg (by simpa using hb)]
   rcases ih with ⟨h1,h2⟩ | ⟨i,h1,h2,h3⟩
   ·rw [h1]
    exact .inl ⟨by simp,by simp [h2,Ne.symm hb]⟩
   ·rw [h1,if_neg (by simp; try omega)]
    refine .inr ⟨i + 1,by simp,by simpa using h2,?_⟩
    simp [h3,Ne.symm hb]
theorem byteS150 (s:Bytes) (c:UInt8):PureFn Tryz.prog 150 [.str s,byteA c] (.ret (.int .i64 (ixB s c))):=by
 intro F w Vs hlt hv
 cases hv with
 | cons _ _ _ _ h1 h2=>
 cases h2 with
 | cons _ _ _ _ h3 h4=>
 cases h4
 cases h1
 cases h3
 refine .inr ⟨.int .i64 (ixB s c),w,?_,Below.refl _ _,F,fun _ _ h=>h,hlt,fun _ _ _ h=>h,.ret _ _ (.int _ _)⟩
 show (callFunc _ #[.string ⟨s.toArray⟩,.int .u8 (c.toNat:Int)]).run _ _ = _
 rw [run_callFunc_extern Tryz.func150 (by kernel_rfl) (by kernel_rfl) (by kernel_rfl) (e:=Extern.BytealgIndexByte.indexByte) (by kernel_rfl),Lib.run_indexByteString]
 have:((c.toNat:Int)).toNat.toUInt8 = c:=by simp
 rw [this]
 rfl
theorem byteI134 (s:Bytes) (c:UInt8):PureFn Tryz.prog 134 [.str s,byteA c] (.ret (.int .i64 (ixB s c))):=by
 refine PureFn.of Tryz.func134 rfl (enters_call enters Tryz.func134 rfl) (by simp [Tryz.ntmps134]) ?_
 show W Tryz.prog 8 0 none _ _ _
 refine .seq (.region [] (by decide) ?_)
 simp only [EOps,gdA,callOf,isPanic,nextOf,altA,evalOp,St.ev,St.put,argT,ofV,thenQ,Nat.zero_add]
 refine .seq (.region [.pure (.ret (.int .i64 (ixB s c)))] (by decide) ?_)
 simp only [EOps,gdA,callOf,isPanic,nextOf,altA,evalOp,St.ev,Av.get,St.put,thenQ,Nat.reduceEqDiff,↓reduceIte,lend,AV.hfs,AV.hf,Bool.and_self,List.map_cons,List.map_nil,List.nil_append,List.append_nil,and_self,byteA]
 exact ⟨byteS150 s c,.ret ⟨_,rfl,_,rfl,.refl _⟩⟩
theorem byteI130 (s:Bytes) (c:UInt8):PureFn Tryz.prog 130 [.str s,byteA c] (.ret (.int .i64 (ixB s c))):=by
 refine PureFn.of Tryz.func130 rfl (enters_call enters Tryz.func130 rfl) (by simp [Tryz.ntmps130]) ?_
 show W Tryz.prog 8 0 none _ _ _
 refine .seq (.region [] (by decide) ?_)
 simp only [EOps,gdA,callOf,isPanic,nextOf,altA,evalOp,St.ev,St.put,argT,ofV,thenQ,Nat.zero_add]
 refine .seq (.region [.pure (.ret (.int .i64 (ixB s c)))] (by decide) ?_)
 simp only [EOps,gdA,callOf,isPanic,nextOf,altA,evalOp,St.ev,Av.get,St.put,thenQ,Nat.reduceEqDiff,↓reduceIte,lend,AV.hfs,AV.hf,Bool.and_self,List.map_cons,List.map_nil,List.nil_append,List.append_nil,and_self,byteA]
 exact ⟨byteI134 s c,.ret ⟨_,rfl,_,rfl,.refl _⟩⟩
theorem index113 (s:Bytes) (c:UInt8):PureFn Tryz.prog 113 [.str s,.str [c]] (.ret (.int .i64 (ixB s c))):=by
 have h0:evIndex Tryz.prog 9 (.str [c]) (.int .i64 0) = some (byteA c):=xs_of Tryz.underlying9 .i64 0 (by simp)
 have key:∀ b:Bool,([c] == s) = b→PureFn Tryz.prog 113 [.str s,.str [c]] (.ret (.int .i64 (ixB s c))):=by
  intro b hb
  refine PureFn.of Tryz.func113 rfl (enters_call enters Tryz.func113 rfl) (by simp [Tryz.ntmps113]) ?_
  show W Tryz.prog 143 0 none _ _ _
  refine .seq (.region [] (by decide) ?_)
  simp only [EOps,gdA,callOf,isPanic,nextOf,altA,evalOp,St.ev,St.put,argT,ofV,thenQ,Nat.zero_add]
  refine .seq (.region [] (by decide) ?_)
  simp only [EOps,deN,gdA,callOf,isPanic,nextOf,altA,evalOp,St.ev,Av.get,St.put,thenQ,Nat.reduceEqDiff,↓reduceIte,Option.map_some,List.length_cons,List.length_nil,Nat.zero_add,ls9]
  refine .seq (.block (.seq (.region [] (by decide) ?_)))
  have he:(((1:Nat):Int) == 0) = false:=rfl
  simp only [EOps,gdA,callOf,isPanic,nextOf,altA,evalOp,St.ev,Av.get,St.put,ofV,thenQ,Nat.reduceEqDiff,↓reduceIte,List.getElem?_cons_zero,List.getElem?_cons_succ,List.getElem?_toArray,Option.bind_some,beq_false,Bool.not_false,pickA,cond_false,b_eql,s_eql,hb,he]
  cases b with
  | true=>
   refine .cond (t:=true) rfl (.seq (.region [] (by decide) ?_))
   simp only [EOps,gdA,callOf,isPanic,nextOf,altA,evalOp,St.ev,St.put,ofV,thenQ]
   have hs:s = [c]:=(by simpa using hb:[c] = s).symm
   have:ixB s c = 0:=by subst hs; simp [ixB,Lib.indexByte]
   rw [this]
   exact .ret ⟨_,rfl,_,rfl,.refl _⟩
  | false=>
   refine .cond (t:=false) rfl (.seq (.region [] (by decide) ?_))
   simp only [EOps,gdA,callOf,isPanic,nextOf,altA,evalOp,St.ev,Av.get,St.put,ofV,thenQ,Nat.reduceEqDiff,↓reduceIte,b_eql]
   refine .cond (t:=true) rfl (.seq (.region [.pure (.ret (.int .i64 (ixB s c)))] (by decide) ?_))
   simp only [EOps,gdA,callOf,isPanic,nextOf,altA,evalOp,St.ev,Av.get,St.put,ofV,thenQ,Nat.reduceEqDiff,↓reduceIte,lend,AV.hfs,AV.hf,Bool.and_self,List.map_cons,List.map_nil,List.nil_append,List.append_nil,Option.map_some,and_self,h0,byteA]
   exact ⟨byteI134 s c,.ret ⟨_,rfl,_,rfl,.refl _⟩⟩
 exact key _ rfl
end Go.Proofs.YtjlhemfmeboadaaGreatDoor
namespace Go.Proofs.YtjlhemfmeboadaaGreatDoor
set_option linter.unusedVariables false
set_option linter.unusedSimpArgs false
open Go Go.Av Go.RowKit

theorem addN (t a b:Nat) (h:a + b < 9223372036854775807):evBin Tryz.prog .add t (.int .i64 (a:Int)) (.int .i64 (b:Int)) = some (.int .i64 ((a + b:Nat):Int)):=by
 rw [b_add64 _ _ (by omega)]; simp
theorem subN (t a b:Nat) (hb:b≤a) (h:a < 9223372036854775807):evBin Tryz.prog .sub t (.int .i64 (a:Int)) (.int .i64 (b:Int)) = some (.int .i64 ((a - b:Nat):Int)):=by
 rw [b_sub64 _ _ (by omega)]; congr 2; omega
def cutB:Bytes→UInt8→Bytes × Bytes × Bool
 | [],_=>([],[],false)
 | b::t,c=>if b = c then ([],t,true) else (b::(cutB t c).1,(cutB t c).2.1,(cutB t c).2.2)
theorem cutB_no:∀ (s:Bytes) (c:UInt8),c ∉ s→cutB s c = (s,[],false)
 | [],_,_=>rfl
 | b::t,c,h=>by
  simp only [List.mem_cons,not_or] at h
  unfold cutB; rw [if_neg (fun e=>h.1 e.symm),cutB_no t c h.2]
theorem cutB_at:∀ (s:Bytes) (c:UInt8) (i:Nat),s[i]? = some c→c ∉ s.take i→cutB s c = (s.take i,s.drop (i + 1),true)
 | [],c,i,h,_=>by simp at h
 | b::t,c,0,h,_=>by simp at h; unfold cutB; rw [if_pos h]; rfl
 | b::t,c,i + 1,h,h2=>by
  simp only [List.take_succ_cons,List.mem_cons,not_or] at h2
  unfold cutB; rw [if_neg (fun e=>h2.1 e.symm),cutB_at t c i (by simpa using h) h2.2]; rfl
set_option maxRecDepth 4000 in
theorem cut94 (s:Bytes) (c:UInt8) (hs:s.length≤1000000):PureFn Tryz.prog 94 [.str s,.str [c]] (.ret (.tup [.str (cutB s c).1,.str (cutB s c).2.1,.bool (cutB s c).2.2])):=by
 have key:∀ b:Bool,decide (ixB s c ≥ 0) = b→PureFn Tryz.prog 94 [.str s,.str [c]] (.ret (.tup [.str (cutB s c).1,.str (cutB s c).2.1,.bool (cutB s c).2.2])):=by
  intro b hb
  refine PureFn.of Tryz.func94 rfl (enters_call enters Tryz.func94 rfl) (by simp [Tryz.ntmps94]) ?_
  show W Tryz.prog 23 0 none _ _ _
  refine .seq (.region [] (by decide) ?_)
  simp only [EOps,gdA,callOf,isPanic,nextOf,altA,evalOp,St.ev,St.put,argT,ofV,thenQ,Nat.zero_add]
  refine .seq (.seq (.region [.pure (.ret (.int .i64 (ixB s c)))] (by decide) ?_))
  simp only [EOps,gdA,callOf,isPanic,nextOf,altA,evalOp,St.ev,Av.get,St.put,thenQ,Nat.reduceEqDiff,↓reduceIte,lend,AV.hfs,AV.hf,Bool.and_self,List.map_cons,List.map_nil,List.nil_append,List.append_nil,and_self]
  refine ⟨index113 s c,?_⟩
  refine .seq (.region [] (by decide) ?_)
  simp only [EOps,gdA,callOf,isPanic,nextOf,altA,evalOp,St.ev,Av.get,St.put,ofV,thenQ,↓reduceIte,b_geq,hb]
  rcases ixB_spec s c with ⟨h1,h2⟩ | ⟨i,h1,h2,h3⟩
  ·have hb':b = false:=by rw [← hb,h1]; rfl
   subst hb'
   refine .cond (t:=false) rfl (.skip ?_)
   rw [cutB_no s c h2]
   simp only [thenQ]
   refine .seq (.region [] (by decide) ?_)
   simp only [EOps,gdA,callOf,isPanic,nextOf,altA,evalOp,St.ev,Av.get,St.put,ofV,thenQ,Nat.reduceEqDiff,↓reduceIte]
   exact .ret ⟨_,rfl,_,rfl,.refl _⟩
  ·have hb':b = true:=by rw [← hb,h1]; simp
   subst hb'
   refine .cond (t:=true) rfl ?_
   have hi:i < s.length:=(List.getElem?_eq_some_iff.1 h2).1
   rw [cutB_at s c i h2 h3,h1]
   refine .seq (W.drawG [] mixed (by kernel_rfl) (by kernel_rfl) ?_)
   simp only [EDg,deN,gdA,callOf,isPanic,evalOp,St.ev,Av.get,St.put,ofV,thenQ,Nat.reduceEqDiff,↓reduceIte,Option.map_some,Option.map_none,List.length_cons,List.length_nil,true_and,Nat.zero_add,List.drop_zero,ls9,ss9,addN _ i 1 (by omega),bnds_to .i64 i (Nat.le_of_lt hi),bnds_from .i64 (i + 1) (by omega:i + 1≤s.length),Nat.sub_zero,(List.take_of_length_le (by simp):(s.drop (i + 1)).take (s.length - (i + 1)) = s.drop (i + 1))]
   exact .ret ⟨_,rfl,_,rfl,.refl _⟩
 exact key _ rfl
theorem cut72 (s:Bytes) (c:UInt8) (hs:s.length≤1000000):PureFn Tryz.prog 72 [.str s,.str [c]] (.ret (.tup [.str (cutB s c).1,.str (cutB s c).2.1,.bool (cutB s c).2.2])):=by
 refine PureFn.of Tryz.func72 rfl (enters_call enters Tryz.func72 rfl) (by simp [Tryz.ntmps72]) ?_
 show W Tryz.prog 13 0 none _ _ _
 refine .seq (.region [] (by decide) ?_)
 simp only [EOps,gdA,callOf,isPanic,nextOf,altA,evalOp,St.ev,St.put,argT,ofV,thenQ,Nat.zero_add]
 refine .seq (.region [.pure (.ret (.tup [.str (cutB s c).1,.str (cutB s c).2.1,.bool (cutB s c).2.2]))] (by decide) ?_)
 simp only [EOps,gdA,callOf,isPanic,nextOf,altA,evalOp,St.ev,Av.get,St.put,thenQ,Nat.reduceEqDiff,↓reduceIte,lend,AV.hfs,AV.hf,Bool.and_self,List.map_cons,List.map_nil,List.nil_append,List.append_nil,List.getElem?_cons_zero,List.getElem?_cons_succ,Option.map_some,and_self]
 exact ⟨cut94 s c hs,.ret ⟨_,rfl,_,rfl,.refl _⟩⟩
def hasS (s p:Bytes):Bool:=decide (p.length≤s.length) && (s.drop (s.length - p.length) == p)
set_option maxRecDepth 4000 in
theorem suffix64 (s p : Bytes) (hs : s.length ≤ 1000000) : PureFn Tryz.prog 64 [.str s, .str p] (.ret (.bool (hasS s p))) := by
  have key : ∀ b c : Bool, decide ((s.length : Int) ≥ (p.length : Int)) = b → (b = true → p.length ≤ s.length ∧ (s.drop (s.length - p.length) == p) = c) → (b && c) = hasS s p →
      PureFn Tryz.prog 64 [.str s, .str p] (.ret (.bool (hasS s p))) := by
    intro b c h1 h2 h3
    refine PureFn.of Tryz.func64 rfl (enters_call enters Tryz.func64 rfl) (by simp [Tryz.ntmps64]) ?_
    show W Tryz.prog 21 0 none _ _ _
    refine .seq (.region [] (by decide) ?_)
    simp only [EOps, gdA, callOf, isPanic, nextOf, altA, evalOp, St.ev, St.put, argT, ofV, thenQ]
    refine .seq (.region [] (by decide) ?_)
    cases b with
    | true =>
      obtain ⟨h4, h5⟩ := h2 rfl
      have h6 : ((s.drop (s.length - p.length)).take (s.length - (s.length - p.length)) == p) = c := by rw [List.take_of_length_le (by simp)]; exact h5
      simp only [EOps, deN, gdA, callOf, isPanic, nextOf, altA, evalOp, St.ev, Av.get, St.put, ofV, thenQ, Nat.reduceEqDiff, ↓reduceIte, List.getElem?_cons_zero, List.getElem?_cons_succ, List.getElem?_toArray, Option.map_some, Option.map_none, Option.bind_some, beq_true, pickA, cond_true, Nat.zero_add, ls9, b_geq, h1, ss9, subN _ _ _ h4 (by omega), bnds_from .i64 (s.length - p.length) (Nat.sub_le _ _), s_eql, h6]
      exact .ret ⟨_, rfl, _, rfl, by rw [← h3]; exact .refl _⟩
    | false =>
      simp only [EOps, deN, gdA, callOf, isPanic, nextOf, altA, evalOp, St.ev, Av.get, St.put, ofV, thenQ, Nat.reduceEqDiff, ↓reduceIte, List.getElem?_cons_zero, List.getElem?_cons_succ, List.getElem?_toArray, Option.map_some, Option.bind_some, beq_true, Bool.false_eq_true, pickA, Nat.zero_add, ls9, b_geq, h1]
      exact .ret ⟨_, rfl, _, rfl, by rw [← h3]; exact .refl _⟩
  rcases Nat.lt_or_ge s.length p.length with h | h
  · refine key false false (decide_eq_false (by omega)) (fun h => by cases h) ?_
    unfold hasS; rw [decide_eq_false (by omega)]; rfl
  · refine key true _ (decide_eq_true (by omega)) (fun _ => ⟨h, rfl⟩) ?_
    unfold hasS; rw [decide_eq_true h]

theorem suffix39 (s p:Bytes) (hs:s.length≤1000000):PureFn Tryz.prog 39 [.str s,.str p] (.ret (.bool (hasS s p))):=by
 refine PureFn.of Tryz.func39 rfl (enters_call enters Tryz.func39 rfl) (by simp [Tryz.ntmps39]) ?_
 show W Tryz.prog 8 0 none _ _ _
 refine .seq (.region [] (by decide) ?_)
 simp only [EOps,gdA,callOf,isPanic,nextOf,altA,evalOp,St.ev,St.put,argT,ofV,thenQ]
 refine .seq (.region [.pure (.ret (.bool (hasS s p)))] (by decide) ?_)
 simp only [EOps,gdA,callOf,isPanic,nextOf,altA,evalOp,St.ev,Av.get,St.put,thenQ,Nat.reduceEqDiff,↓reduceIte,lend,AV.hfs,AV.hf,Bool.and_self,List.map_cons,List.map_nil,List.nil_append,List.append_nil,and_self,Nat.zero_add]
 exact ⟨suffix64 s p hs,.ret ⟨_,rfl,_,rfl,.refl _⟩⟩
def trimS (s p:Bytes):Bytes:=if hasS s p then s.take (s.length - p.length) else s
theorem hasS_le {s p:Bytes} (h:hasS s p = true):p.length≤s.length:=by unfold hasS at h; simp only [Bool.and_eq_true,decide_eq_true_eq] at h; exact h.1
theorem hasP_le {s p:Bytes} (h:hasP s p = true):p.length≤s.length:=by unfold hasP at h; simp only [Bool.and_eq_true,decide_eq_true_eq] at h; exact h.1
theorem trim95 (s p:Bytes) (hs:s.length≤1000000):PureFn Tryz.prog 95 [.str s,.str p] (.ret (.str (trimS s p))):=by
 have key:∀ b:Bool,hasS s p = b→PureFn Tryz.prog 95 [.str s,.str p] (.ret (.str (trimS s p))):=by
  intro b hb
  have h0:=suffix64 s p hs
  unfold trimS
  rw [hb] at h0 ⊢
  refine PureFn.of Tryz.func95 rfl (enters_call enters Tryz.func95 rfl) (by simp [Tryz.ntmps95]) ?_
  show W Tryz.prog 16 0 none _ _ _
  refine .seq (.region [] (by decide) ?_)
  simp only [EOps,gdA,callOf,isPanic,nextOf,altA,evalOp,St.ev,St.put,argT,ofV,thenQ]
  refine .seq (.seq (.region [.pure (.ret (.bool b))] (by decide) ?_))
  simp only [EOps,gdA,callOf,isPanic,nextOf,altA,evalOp,St.ev,Av.get,St.put,thenQ,Nat.reduceEqDiff,↓reduceIte,lend,AV.hfs,AV.hf,Bool.and_self,List.map_cons,List.map_nil,List.nil_append,List.append_nil,and_self,Nat.zero_add]
  refine ⟨h0,?_⟩
  cases b with
  | true=>
   have hl:=hasS_le hb
   refine .cond (t:=true) rfl (.seq (.region [] (by decide) ?_))
   simp only [EOps,deN,gdA,callOf,isPanic,nextOf,altA,evalOp,St.ev,Av.get,St.put,thenQ,Nat.reduceEqDiff,↓reduceIte,Option.map_some,Option.map_none,List.drop_zero,ls9,ss9,subN _ _ _ hl (by omega),bnds_to .i64 (s.length - p.length) (Nat.sub_le _ _),Nat.sub_zero]
   exact .ret ⟨_,rfl,_,rfl,.refl _⟩
  | false=>
   refine .cond (t:=false) rfl (.skip ?_)
   simp only [thenQ,↓reduceIte,Bool.false_eq_true]
   refine .seq (.region [] (by decide) ?_)
   simp only [EOps,gdA,callOf,isPanic,nextOf,altA,evalOp,St.ev,Av.get,St.put,thenQ,Nat.reduceEqDiff,↓reduceIte]
   exact .ret ⟨_,rfl,_,rfl,.refl _⟩
 exact key _ rfl
theorem trim73 (s p:Bytes) (hs:s.length≤1000000):PureFn Tryz.prog 73 [.str s,.str p] (.ret (.str (trimS s p))):=by
 refine PureFn.of Tryz.func73 rfl (enters_call enters Tryz.func73 rfl) (by simp [Tryz.ntmps73]) ?_
 show W Tryz.prog 8 0 none _ _ _
 refine .seq (.region [] (by decide) ?_)
 simp only [EOps,gdA,callOf,isPanic,nextOf,altA,evalOp,St.ev,St.put,argT,ofV,thenQ]
 refine .seq (.region [.pure (.ret (.str (trimS s p)))] (by decide) ?_)
 simp only [EOps,gdA,callOf,isPanic,nextOf,altA,evalOp,St.ev,Av.get,St.put,thenQ,Nat.reduceEqDiff,↓reduceIte,lend,AV.hfs,AV.hf,Bool.and_self,List.map_cons,List.map_nil,List.nil_append,List.append_nil,and_self,Nat.zero_add]
 exact ⟨trim95 s p hs,.ret ⟨_,rfl,_,rfl,.refl _⟩⟩
def cutP (s p:Bytes):Bytes:=if hasP s p then s.drop p.length else s
theorem cutp108 (s p:Bytes):PureFn Tryz.prog 108 [.str s,.str p] (.ret (.tup [.str (cutP s p),.bool (hasP s p)])):=by
 have key:∀ b:Bool,hasP s p = b→PureFn Tryz.prog 108 [.str s,.str p] (.ret (.tup [.str (cutP s p),.bool (hasP s p)])):=by
  intro b hb
  have h0:=prefix129 s p
  unfold cutP
  rw [hb] at h0 ⊢
  refine PureFn.of Tryz.func108 rfl (enters_call enters Tryz.func108 rfl) (by simp [Tryz.ntmps108]) ?_
  show W Tryz.prog 15 0 none _ _ _
  refine .seq (.region [] (by decide) ?_)
  simp only [EOps,gdA,callOf,isPanic,nextOf,altA,evalOp,St.ev,St.put,argT,ofV,thenQ]
  refine .seq (.seq (.region [.pure (.ret (.bool b))] (by decide) ?_))
  cases b with
  | true=>
   simp only [EOps,gdA,callOf,isPanic,nextOf,altA,evalOp,St.ev,Av.get,St.put,thenQ,Nat.reduceEqDiff,↓reduceIte,lend,AV.hfs,AV.hf,Bool.and_self,List.map_cons,List.map_nil,List.nil_append,List.append_nil,and_self,Nat.zero_add]
   refine ⟨h0,?_⟩
   have hl:=hasP_le hb
   refine .cond (t:=false) rfl (.skip ?_)
   simp only [thenQ,Bool.not_true]
   refine .seq (.region [] (by decide) ?_)
   simp only [EOps,deN,gdA,callOf,isPanic,nextOf,altA,evalOp,St.ev,Av.get,St.put,ofV,thenQ,Nat.reduceEqDiff,↓reduceIte,Option.map_some,Option.map_none,ls9,ss9,bnds_from .i64 p.length hl,(List.take_of_length_le (by simp):(s.drop p.length).take (s.length - p.length) = s.drop p.length)]
   exact .ret ⟨_,rfl,_,rfl,.refl _⟩
  | false=>
   simp only [EOps,gdA,callOf,isPanic,nextOf,altA,evalOp,St.ev,Av.get,St.put,thenQ,Nat.reduceEqDiff,↓reduceIte,lend,AV.hfs,AV.hf,Bool.and_self,List.map_cons,List.map_nil,List.nil_append,List.append_nil,Bool.false_eq_true,and_self,Nat.zero_add]
   refine ⟨h0,?_⟩
   refine .cond (t:=true) rfl (.seq (.region [] (by decide) ?_))
   simp only [EOps,gdA,callOf,isPanic,nextOf,altA,evalOp,St.ev,Av.get,St.put,ofV,thenQ,Nat.reduceEqDiff,↓reduceIte,Bool.not_false]
   exact .ret ⟨_,rfl,_,rfl,.refl _⟩
 exact key _ rfl
theorem cutp91 (s p:Bytes):PureFn Tryz.prog 91 [.str s,.str p] (.ret (.tup [.str (cutP s p),.bool (hasP s p)])):=by
 refine PureFn.of Tryz.func91 rfl (enters_call enters Tryz.func91 rfl) (by simp [Tryz.ntmps91]) ?_
 show W Tryz.prog 11 0 none _ _ _
 refine .seq (.region [] (by decide) ?_)
 simp only [EOps,gdA,callOf,isPanic,nextOf,altA,evalOp,St.ev,St.put,argT,ofV,thenQ]
 refine .seq (.region [.pure (.ret (.tup [.str (cutP s p),.bool (hasP s p)]))] (by decide) ?_)
 simp only [EOps,gdA,callOf,isPanic,nextOf,altA,evalOp,St.ev,Av.get,St.put,thenQ,Nat.reduceEqDiff,↓reduceIte,lend,AV.hfs,AV.hf,Bool.and_self,List.map_cons,List.map_nil,List.nil_append,List.append_nil,List.getElem?_cons_zero,List.getElem?_cons_succ,Option.map_some,and_self,Nat.zero_add]
 exact ⟨cutp108 s p,.ret ⟨_,rfl,_,rfl,.refl _⟩⟩
def stopA:Out:=.pan 58 (.agg [])
set_option maxRecDepth 8000 in
theorem must38 (b:Bool):PureFn Tryz.prog 38 [.bool b] (if b then .ret (.tup []) else stopA):=by
 cases b with
 | true=>
  show PureFn Tryz.prog _ _ (.ret (.tup []))
  refine PureFn.of Tryz.func38 rfl (enters_call enters Tryz.func38 rfl) (by simp [Tryz.ntmps38]) ?_
  show W Tryz.prog 6 0 none _ _ _
  refine .seq (.region [] (by decide) ?_)
  simp only [EOps,gdA,callOf,isPanic,nextOf,altA,evalOp,St.ev,Av.get,St.put,argT,thenQ,↓reduceIte]
  refine .cond (t:=false) rfl (.skip ?_)
  exact ⟨_,rfl,_,rfl,.refl _⟩
 | false=>
  show PureFn Tryz.prog _ _ stopA
  refine PureFn.of Tryz.func38 rfl (enters_call enters Tryz.func38 rfl) (by simp [Tryz.ntmps38]) ?_
  show W Tryz.prog 6 0 none _ _ _
  refine .seq (.region [] (by decide) ?_)
  simp only [EOps,gdA,callOf,isPanic,nextOf,altA,evalOp,St.ev,Av.get,St.put,argT,thenQ,↓reduceIte]
  refine .cond (t:=true) rfl (.region [] (by decide) ?_)
  simp only [EOps,gdA,callOf,isPanic,nextOf,altA,evalOp,St.ev,Av.get,St.put,ofV,↓reduceIte,List.map_nil,Bool.not_false]
  exact ⟨_,rfl,rfl,_,rfl,.refl _⟩
end Go.Proofs.YtjlhemfmeboadaaGreatDoor
namespace Go.Proofs.YtjlhemfmeboadaaGreatDoor
set_option linter.unusedVariables false
set_option linter.unusedSimpArgs false
open Go Go.Av Go.RowKit

def low (x:UInt8):UInt8:=if 65≤x∧x≤90 then x + 32 else x
def small (s:Bytes):Bytes:=s.map low
theorem cvB (s:Bytes):evConv Tryz.prog 9 42 (.str s) [] = some (.sl 0 0 s.length 0,[.cells (bytesA s) true]):=by
 simp [evConv,Tryz.underlying9,Tryz.underlying42,Tryz.underlying5]
theorem lnB (n:Nat) (H:List OB):evLen Tryz.prog 42 (.sl 0 0 n 0) H = some (.int .i64 n):=by
 simp [evLen,Tryz.underlying42]
theorem iaB (n i:Nat) (hi:i < n) (H:List OB):evIndexAddr Tryz.prog 42 (.sl 0 0 n 0) (.int .i64 i) H = some (.ptr 0 i):=by
 simp [evIndexAddr,idx_nat,Tryz.underlying42,tz5,hi]
theorem smallD (s : Bytes) : PureFn Tryz.prog 41 [.str s] (.ret (.str (small s))) := by
  refine PureFn.fit fun hfit => ?_
  have hb : s.length ≤ maxLen' := hfit (.str s) (by simp)
  refine PureFn.of Tryz.func41 rfl (enters_call enters Tryz.func41 rfl) (by simp [Tryz.ntmps41]) ?_
  show W Tryz.prog 30 _ none _ _ _
  refine .seq (.region [] (by decide) ?_)
  simp only [EOps, gdA, callOf, isPanic, nextOf, altA, evalOp, St.ev, St.put, argT, ofV, thenQ]
  refine .seq (.region [] (by decide) ?_)
  simp only [EOps, gdA, callOf, isPanic, nextOf, altA, evalOp, St.ev, Av.get, St.put, thenQ, Nat.reduceEqDiff, ↓reduceIte, cvB]
  refine .seq (.seq (.region [] (by decide) ?_))
  simp only [EOps, deN, gdA, callOf, isPanic, nextOf, altA, evalOp, St.ev, Av.get, St.put, ofV, thenQ, ↓reduceIte, Option.map_some, lnB]
  refine .block ?_
  refine .loopT (X := Nat) (fun i => [(10, .int .i64 (i : Int)), (9, .int .i64 s.length), (8, .sl 0 0 s.length 0), (3, .sl 0 0 s.length 0)]) (fun i => [.cells (bytesA (mapN low i s)) true]) (fun i => i ≤ s.length) (fun i => s.length - i) 0 (Nat.zero_le _)
    (by simp [holdsT, Av.get]) rfl ?_
  intro i hi
  refine .seq (.region [] (by decide) ?_)
  simp only [EOps, gdA, callOf, isPanic, nextOf, altA, evalOp, St.ev, Av.get, St.put, thenQ, Nat.reduceEqDiff, ↓reduceIte, b_lss]
  by_cases h : i < s.length
  · have hx : s[i]? = some s[i] := List.getElem?_eq_getElem h
    obtain ⟨x, hxx⟩ : ∃ x, s[i] = x := ⟨_, rfl⟩
    rw [hxx] at hx
    have hcell : (bytesA (mapN low i s))[i]? = some (byteA x) := bytesA_get (by rw [mapN_get]; exact hx)
    have hld : evLoad Tryz.prog 5 (.ptr 0 i) [.cells (bytesA (mapN low i s)) true] = some (byteA x) := by
      simp [evLoad, tz5, tg5, ldA, hcell]
    refine .seq (.cond (t := true) (by simp [St.ev, Av.get]; omega) (.skip ?_))
    simp only [thenQ]
    refine .seq (.block (.seq (.region [] (by decide) ?_)))
    simp only [EOps, gdA, callOf, isPanic, nextOf, altA, evalOp, St.ev, Av.get, St.put, thenQ, Nat.reduceEqDiff, ↓reduceIte, Option.map_some, iaB _ _ h, hld]
    refine .seq (.region [] (by decide) ?_)
    have next : ∀ (T : List (Nat × AV)) (b' : Bytes), b' = mapN low (i + 1) s → holdsT T [(10, .int .i64 (i : Int)), (9, .int .i64 s.length), (8, .sl 0 0 s.length 0), (3, .sl 0 0 s.length 0)] → ∀ (c : Code) (Q : Ex → St → Prop),
        c = Code.region 7
                            #[{ dst := some 27,
                                op := Op.binOp BinOp.add 3 (Operand.tmp 10) (Operand.const (Value.int IntKind.i64 1)) 3,
                                type := 3, pos := "dn.go:32", after := #[], guard := none },
                              { dst := some 10, op := Op.move (Operand.tmp 27), type := 3, pos := "dn.go:32",
                                after := #[{ on := 0, ground := Ground.data }], guard := none }]
                            false →
        W Tryz.prog 30 0 none c (thenQ (fun a' => ∃ y, y ≤ s.length ∧ s.length - y < s.length - i ∧ holdsT a'.T [(10, .int .i64 (y : Int)), (9, .int .i64 s.length), (8, .sl 0 0 s.length 0), (3, .sl 0 0 s.length 0)] ∧ a'.H = [.cells (bytesA (mapN low y s)) true] ∧ a'.D = []) Q) ⟨T, [.cells (bytesA b') true], []⟩ := by
      rintro T b' rfl ⟨t10, t9, t8, t3, _⟩ c Q rfl
      refine .region [] (by decide) ?_
      have hadd : evBin Tryz.prog .add 3 (.int .i64 (i : Int)) (.int .i64 1) = some (.int .i64 ((i + 1 : Nat) : Int)) := by
        rw [b_add64 _ _ (by simp only [maxLen'] at hb; omega)]; simp
      simp only [EOps, gdA, callOf, isPanic, nextOf, altA, evalOp, St.ev, Av.get, St.put, ofV, thenQ, ↓reduceIte, t10, hadd]
      refine ⟨i + 1, by omega, by omega, ⟨?_, ?_, ?_, ?_, trivial⟩, rfl, trivial⟩ <;> simp [Av.get, t9, t8, t3]
    rcases Nat.lt_or_ge x.toNat 65 with hlo | hlo
    · have h1 : ¬ ((x.toNat : Int) ≥ 65) := by omega
      simp only [EOps, gdA, callOf, isPanic, nextOf, altA, evalOp, St.ev, Av.get, St.put, ofV, thenQ, Nat.reduceEqDiff, ↓reduceIte, List.getElem?_cons_zero, List.getElem?_cons_succ, List.getElem?_toArray, Option.bind_some, decide_false, beq_true, Bool.false_eq_true, pickA, b_geq, h1, byteA]
      refine .cond (t := false) rfl (.skip ?_)
      simp only [thenQ, blockQ]
      refine next _ _ ?_ ?_ _ _ rfl
      · rw [← mapN_set low i s x hx]
        have : low x = x := by
          unfold low; rw [if_neg]; rintro ⟨h1, _⟩; have := UInt8.le_iff_toNat_le.1 h1; simp at this; omega
        rw [this, set_same (by rw [mapN_get]; exact hx)]
      · simp [holdsT, Av.get]
    · rcases Nat.lt_or_ge 90 x.toNat with hhi | hhi
      · have h1 : ((x.toNat : Int) ≥ 65) := by omega
        have h2 : ¬ ((x.toNat : Int) ≤ 90) := by omega
        simp only [EOps, gdA, callOf, isPanic, nextOf, altA, evalOp, St.ev, Av.get, St.put, ofV, thenQ, Nat.reduceEqDiff, ↓reduceIte, List.getElem?_cons_zero, List.getElem?_cons_succ, List.getElem?_toArray, Option.bind_some, decide_true, decide_false, beq_true, pickA, cond_true, b_geq, b_leq, h1, h2, byteA]
        refine .cond (t := false) rfl (.skip ?_)
        simp only [thenQ, blockQ]
        refine next _ _ ?_ ?_ _ _ rfl
        · rw [← mapN_set low i s x hx]
          have : low x = x := by
            unfold low; rw [if_neg]; rintro ⟨_, h1⟩; have := UInt8.le_iff_toNat_le.1 h1; simp at this; omega
          rw [this, set_same (by rw [mapN_get]; exact hx)]
        · simp [holdsT, Av.get]
      · have h1 : ((x.toNat : Int) ≥ 65) := by omega
        have h2 : ((x.toNat : Int) ≤ 90) := by omega
        simp only [EOps, gdA, callOf, isPanic, nextOf, altA, evalOp, St.ev, Av.get, St.put, ofV, thenQ, Nat.reduceEqDiff, ↓reduceIte, List.getElem?_cons_zero, List.getElem?_cons_succ, List.getElem?_toArray, Option.bind_some, decide_true, beq_true, pickA, cond_true, b_geq, b_leq, h1, h2, byteA]
        refine .cond (t := true) rfl ?_
        refine .region [] (by decide) ?_
        have ha : evBin Tryz.prog .add 5 (.int .u8 (x.toNat : Int)) (.int .u8 97) = some (.int .u8 ((x.toNat : Int) + 97)) := by
          simp [evBin, IntKind.wrap, IntKind.bits, IntKind.signed]; omega
        have hs : evBin Tryz.prog .sub 5 (.int .u8 ((x.toNat : Int) + 97)) (.int .u8 65) = some (byteA (low x)) := by
          have hl : (low x).toNat = x.toNat + 32 := by
            unfold low
            rw [if_pos ⟨UInt8.le_iff_toNat_le.2 (by simpa using hlo), UInt8.le_iff_toNat_le.2 (by simpa using hhi)⟩]
            rw [UInt8.toNat_add]; simp; omega
          simp [evBin, IntKind.wrap, IntKind.bits, IntKind.signed, byteA, hl]; omega
        have hst : evStore Tryz.prog 5 (.ptr 0 i) (byteA (low x)) [.cells (bytesA (mapN low i s)) true] = some [.cells (bytesA (mapN low (i + 1) s)) true] := by
          have hl : i + 1 ≤ (bytesA (mapN low i s)).length := by rw [bytesA_len, mapN_len]; omega
          have hset : setC (bytesA (mapN low i s)) i [byteA (low x)] = bytesA (mapN low (i + 1) s) := by rw [setC_one, bytesA_set, mapN_set low i s x hx]
          simp [evStore, tz5, byteA, AV.cells, AV.isC, hl]
          exact hset
        simp only [EOps, gdA, callOf, isPanic, nextOf, altA, evalOp, St.ev, Av.get, St.put, ofV, thenQ, Nat.reduceEqDiff, ↓reduceIte, Option.map_some, ha, hs, iaB _ _ h, hst, blockQ]
        refine next _ _ rfl ?_ _ _ rfl
        simp [holdsT, Av.get]
  · have hi' : i = s.length := by omega
    subst hi'
    refine .seq (.cond (t := false) (by simp [St.ev, Av.get]) (.exit ?_))
    simp only [thenQ, ↓reduceIte, blockQ]
    refine .seq (.region [] (by decide) ?_)
    have hcv : evConv Tryz.prog 42 9 (.sl 0 0 s.length 0) [.cells (bytesA (mapN low s.length s)) true] = some (.str (small s), [.cells (bytesA (mapN low s.length s)) true]) := by
      rw [mapN_all low _ _ (Nat.le_refl _)]
      have hl : (bytesA (s.map low)).length = s.length := by simp [bytesA]
      simp [evConv, Tryz.underlying9, Tryz.underlying42, Tryz.underlying5, hl, List.take_of_length_le, unbyte_bytesA, small]
    simp only [EOps, gdA, callOf, isPanic, nextOf, altA, evalOp, St.ev, Av.get, St.put, thenQ, Nat.reduceEqDiff, ↓reduceIte, hcv]
    exact .ret ⟨_, rfl, _, rfl, .refl _⟩

theorem within (x lo hi:Int):PureFn Tryz.prog 126 [.int .u8 x,.int .u8 lo,.int .u8 hi] (.ret (.bool (decide (x ≥ lo) && decide (x≤hi)))):=by
 refine PureFn.of Tryz.func126 rfl (enters_call enters Tryz.func126 rfl) (by simp [Tryz.ntmps126]) ?_
 show W Tryz.prog 15 _ none _ _ _
 refine .seq (.region [] (by decide) ?_)
 simp only [EOps,gdA,callOf,isPanic,nextOf,altA,evalOp,St.ev,St.put,argT,ofV,thenQ]
 refine .seq (.region [] (by decide) ?_)
 generalize h1:decide (x ≥ lo) = b1
 generalize h2:decide (x≤hi) = b2
 cases b1<;>cases b2<;>simp only [EOps,gdA,callOf,isPanic,nextOf,altA,evalOp,St.ev,Av.get,St.put,ofV,thenQ,Nat.reduceEqDiff,↓reduceIte,Bool.and_self,List.getElem?_cons_zero,List.getElem?_cons_succ,List.getElem?_toArray,Option.bind_some,beq_true,Bool.false_eq_true,pickA,cond_true,b_geq,b_leq,h1,h2]<;>exact .ret ⟨_,rfl,_,rfl,.refl _⟩
theorem letter (x:Int):PureFn Tryz.prog 101 [.int .u8 x] (.ret (.bool (decide (x ≥ 65) && decide (x≤90) || decide (x ≥ 97) && decide (x≤122)))):=by
 refine PureFn.of Tryz.func101 rfl (enters_call enters Tryz.func101 rfl) (by simp [Tryz.ntmps101]) ?_
 show W Tryz.prog 17 _ none _ _ _
 refine .seq (.region [] (by decide) ?_)
 simp only [EOps,gdA,callOf,isPanic,nextOf,altA,evalOp,St.ev,St.put,argT,ofV,thenQ]
 refine .seq (.region [] (by decide) ?_)
 generalize h1:decide (x ≥ 65) = b1
 generalize h2:decide (x≤90) = b2
 generalize h3:decide (x ≥ 97) = b3
 generalize h4:decide (x≤122) = b4
 cases b1<;>cases b2<;>cases b3<;>cases b4<;>simp only [EOps,gdA,callOf,isPanic,nextOf,altA,evalOp,St.ev,Av.get,St.put,ofV,thenQ,Nat.reduceEqDiff,↓reduceIte,Bool.and_self,List.getElem?_cons_zero,List.getElem?_cons_succ,List.getElem?_toArray,Option.bind_some,beq_false,beq_true,Bool.not_true,Bool.not_false,Bool.false_eq_true,pickA,cond_true,cond_false,b_geq,b_leq,h1,h2,h3,h4]<;>exact .ret ⟨_,rfl,_,rfl,.refl _⟩
def okI (f:Bool) (x:Int):Bool:=
 !(!(decide (x ≥ 97) && decide (x≤122)) && (!(decide (x ≥ 65) && decide (x≤90)) && (f || (!(decide (x ≥ 48) && decide (x≤57)) && (x != 45)))))
def allB:Nat→Bytes→Bool
 | _,[]=>true
 | i,x::l=>okI (i == 0) x.toNat && allB (i + 1) l
def isName (s:Bytes):Bool:=allB 0 s && (decide ((s.length:Int) ≥ 1) && decide ((s.length:Int)≤64))
theorem ld5b (s:Bytes) (i:Nat) (x:UInt8) (hx:s[i]? = some x):evLoad Tryz.prog 5 (.ptr 0 i) [.cells (bytesA s) true] = some (.int .u8 x.toNat):=by
 have hcell:(bytesA s)[i]? = some (byteA x):=bytesA_get hx
 simp [evLoad,tz5,tg5,ldA,hcell,byteA]
theorem u_not (b:Bool):evUn .not (.bool b) = some (.bool !b):=rfl
set_option maxRecDepth 4000 in
theorem nameD (s:Bytes):PureFn Tryz.prog 103 [.str s] (.ret (.bool (isName s))):=by
 refine PureFn.fit fun hfit=>?_
 have hb:s.length≤maxLen':=hfit (.str s) (by simp)
 refine PureFn.of Tryz.func103 rfl (enters_call enters Tryz.func103 rfl) (by simp [Tryz.ntmps103]) ?_
 show W Tryz.prog 43 _ none _ _ _
 refine .seq (.region [] (by decide) ?_)
 simp only [EOps,gdA,callOf,isPanic,nextOf,altA,evalOp,St.ev,St.put,argT,ofV,thenQ]
 refine .seq (.seq (.region [] (by decide) ?_))
 simp only [EOps,deN,gdA,callOf,isPanic,nextOf,altA,evalOp,St.ev,Av.get,St.put,ofV,thenQ,Nat.reduceEqDiff,↓reduceIte,Option.map_some,cvB,lnB]
 refine .block ?_
 refine .loopT (X:=Nat) (fun i=>[(8,.int .i64 (i:Int)),(7,.int .i64 s.length),(6,.sl 0 0 s.length 0),(0,.str s)]) (fun i=>[.cells (bytesA s) true]) (fun i=>i≤s.length∧allB i (s.drop i) = allB 0 s) (fun i=>s.length - i) 0 ⟨Nat.zero_le _,rfl⟩
  (by simp [holdsT,Av.get]) rfl ?_
 rintro i ⟨hi,hall⟩
 refine .seq (.region [] (by decide) ?_)
 simp only [EOps,gdA,callOf,isPanic,nextOf,altA,evalOp,St.ev,Av.get,St.put,thenQ,Nat.reduceEqDiff,↓reduceIte,b_lss]
 by_cases h:i < s.length
 ·obtain ⟨x,hx⟩:∃ x,s[i]? = some x:=⟨s[i],List.getElem?_eq_getElem h⟩
  have hdrop:s.drop i = x::s.drop (i + 1):=by
   rw [List.drop_eq_getElem_cons h]; rw [List.getElem?_eq_getElem h] at hx; cases hx; rfl
  rw [hdrop,allB] at hall
  refine .seq (.cond (t:=true) (by simp [St.ev,Av.get]; omega) (.skip ?_))
  simp only [thenQ]
  refine .seqP (okI (i == 0) x.toNat = true) [(8,.int .i64 (i:Int)),(7,.int .i64 s.length),(6,.sl 0 0 s.length 0),(0,.str s)] [.cells (bytesA s) true] (x:=Code.block 1 _) ?_ ?_
  ·refine .block (.seq (.region [] (by decide) ?_))
   simp only [EOps,gdA,callOf,isPanic,nextOf,altA,evalOp,St.ev,Av.get,St.put,thenQ,Nat.reduceEqDiff,↓reduceIte,Option.map_some,iaB _ _ h,ld5b s i x hx]
   generalize hw1:(decide ((x.toNat:Int) ≥ 97) && decide ((x.toNat:Int)≤122)) = w1
   generalize hw2:(decide ((x.toNat:Int) ≥ 65) && decide ((x.toNat:Int)≤90)) = w2
   generalize hw3:(decide ((x.toNat:Int) ≥ 48) && decide ((x.toNat:Int)≤57)) = w3
   have p1:=within x.toNat 97 122
   have p2:=within x.toNat 65 90
   have p3:=within x.toNat 48 57
   rw [hw1] at p1; rw [hw2] at p2; rw [hw3] at p3
   have hok:okI (i == 0) x.toNat = !(!w1 && (!w2 && ((i == 0) || (!w3 && ((x.toNat:Int) != 45))))):=by simp only [okI,hw1,hw2,hw3]
   have bad:okI (i == 0) x.toNat = false→isName s = false:=by
    intro h; rw [h] at hall; simp [isName,← hall]
   cases w1 with
   | true=>
    refine .seq (.region [.pure (.ret (.bool true))] (by decide) ?_)
    simp only [EOps,gdA,callOf,isPanic,nextOf,altA,evalOp,St.ev,Av.get,St.put,ofV,thenQ,Nat.reduceEqDiff,↓reduceIte,lend,AV.hfs,AV.hf,Bool.and_self,List.map_cons,List.map_nil,List.nil_append,List.append_nil,List.getElem?_cons_zero,List.getElem?_cons_succ,List.getElem?_toArray,Option.map_some,Option.bind_some,beq_true,Bool.not_true,Bool.false_eq_true,pickA,u_not]
    refine ⟨p1,?_⟩
    refine .cond (t:=false) rfl (.skip ?_)
    refine ⟨by rw [hok]; rfl,?_,rfl,rfl⟩; simp [holdsT,Av.get]
   | false=>
    cases w2 with
    | true=>
     refine .seq (.region [.pure (.ret (.bool false)),.pure (.ret (.bool true))] (by decide) ?_)
     simp only [EOps,gdA,callOf,isPanic,nextOf,altA,evalOp,St.ev,Av.get,St.put,ofV,thenQ,Nat.reduceEqDiff,↓reduceIte,lend,AV.hfs,AV.hf,Bool.and_self,List.map_cons,List.map_nil,List.nil_append,List.append_nil,List.getElem?_cons_zero,List.getElem?_cons_succ,List.getElem?_toArray,Option.map_some,Option.bind_some,beq_true,Bool.not_true,Bool.not_false,Bool.false_eq_true,pickA,cond_true,u_not]
     refine ⟨p1,p2,?_⟩
     refine .cond (t:=false) rfl (.skip ?_)
     refine ⟨by rw [hok]; rfl,?_,rfl,rfl⟩; simp [holdsT,Av.get]
    | false=>
     by_cases h0:i = 0
     ·subst h0
      have hb':isName s = false:=bad (by rw [hok]; rfl)
      have e0:(((0:Nat):Int) == 0) = true:=rfl
      refine .seq (.region [.pure (.ret (.bool false)),.pure (.ret (.bool false))] (by decide) ?_)
      simp only [EOps,gdA,callOf,isPanic,nextOf,altA,evalOp,St.ev,Av.get,St.put,ofV,thenQ,Nat.reduceEqDiff,↓reduceIte,lend,AV.hfs,AV.hf,Bool.and_self,List.map_cons,List.map_nil,List.nil_append,List.append_nil,List.getElem?_cons_zero,List.getElem?_cons_succ,List.getElem?_toArray,Option.map_some,Option.bind_some,beq_false,beq_true,Bool.not_true,Bool.not_false,pickA,cond_true,u_not,b_eql,e0]
      refine ⟨p1,p2,?_⟩
      refine .cond (t:=true) rfl (.seq (.region [] (by decide) ?_))
      simp only [EOps,gdA,callOf,isPanic,nextOf,altA,evalOp,St.ev,St.put,ofV,thenQ]
      refine .ret ?_
      rw [hb']
      exact ⟨_,rfl,_,rfl,.refl _⟩
     ·have e0:((i:Int) == 0) = false:=by simpa using h0
      have e1:(i == 0) = false:=by simpa using h0
      cases w3 with
      | true=>
       rw [e1] at hok
       refine .seq (.region [.pure (.ret (.bool false)),.pure (.ret (.bool false)),.pure (.ret (.bool true))] (by decide) ?_)
       simp only [EOps,gdA,callOf,isPanic,nextOf,altA,evalOp,St.ev,Av.get,St.put,ofV,thenQ,Nat.reduceEqDiff,↓reduceIte,lend,AV.hfs,AV.hf,Bool.and_self,List.map_cons,List.map_nil,List.nil_append,List.append_nil,List.getElem?_cons_zero,List.getElem?_cons_succ,List.getElem?_toArray,Option.map_some,Option.bind_some,beq_false,beq_true,Bool.not_true,Bool.not_false,Bool.false_eq_true,pickA,cond_true,cond_false,u_not,b_eql,e0]
       refine ⟨p1,p2,p3,?_⟩
       refine .cond (t:=false) rfl (.skip ?_)
       refine ⟨by rw [e1,hok]; rfl,?_,rfl,rfl⟩; simp [holdsT,Av.get]
      | false=>
       refine .seq (.region [.pure (.ret (.bool false)),.pure (.ret (.bool false)),.pure (.ret (.bool false))] (by decide) ?_)
       generalize h45:((x.toNat:Int) != 45) = w4
       rw [h45,e1] at hok
       cases w4 with
       | true=>
        have hb':isName s = false:=bad (by rw [e1,hok]; rfl)
        simp only [EOps,gdA,callOf,isPanic,nextOf,altA,evalOp,St.ev,Av.get,St.put,ofV,thenQ,Nat.reduceEqDiff,↓reduceIte,lend,AV.hfs,AV.hf,Bool.and_self,List.map_cons,List.map_nil,List.nil_append,List.append_nil,List.getElem?_cons_zero,List.getElem?_cons_succ,List.getElem?_toArray,Option.map_some,Option.bind_some,beq_false,beq_true,Bool.not_false,pickA,cond_true,cond_false,u_not,b_eql,b_neq,e0,h45]
        refine ⟨p1,p2,p3,?_⟩
        refine .cond (t:=true) rfl (.seq (.region [] (by decide) ?_))
        simp only [EOps,gdA,callOf,isPanic,nextOf,altA,evalOp,St.ev,St.put,ofV,thenQ]
        refine .ret ?_
        rw [hb']
        exact ⟨_,rfl,_,rfl,.refl _⟩
       | false=>
        simp only [EOps,gdA,callOf,isPanic,nextOf,altA,evalOp,St.ev,Av.get,St.put,ofV,thenQ,Nat.reduceEqDiff,↓reduceIte,lend,AV.hfs,AV.hf,Bool.and_self,List.map_cons,List.map_nil,List.nil_append,List.append_nil,List.getElem?_cons_zero,List.getElem?_cons_succ,List.getElem?_toArray,Option.map_some,Option.bind_some,beq_false,beq_true,Bool.not_false,pickA,cond_true,cond_false,u_not,b_eql,b_neq,e0,h45]
        refine ⟨p1,p2,p3,?_⟩
        refine .cond (t:=false) rfl (.skip ?_)
        refine ⟨by rw [e1,hok]; rfl,?_,rfl,rfl⟩; simp [holdsT,Av.get]
  ·intro hgood
   rw [hgood,Bool.true_and] at hall
   refine .region [] (by decide) ?_
   have hadd:evBin Tryz.prog .add 3 (.int .i64 (i:Int)) (.int .i64 1) = some (.int .i64 ((i + 1:Nat):Int)):=by
    rw [b_add64 _ _ (by simp only [maxLen'] at hb; omega)]; simp
   simp only [EOps,gdA,callOf,isPanic,nextOf,altA,evalOp,St.ev,Av.get,St.put,ofV,thenQ,↓reduceIte,hadd]
   refine ⟨i + 1,⟨by omega,hall⟩,by omega,?_,trivial,trivial⟩
   simp [holdsT,Av.get]
 ·have hi':i = s.length:=by omega
  subst hi'
  refine .seq (.cond (t:=false) (by simp [St.ev,Av.get]) (.exit ?_))
  simp only [thenQ,↓reduceIte,blockQ]
  refine .seq (.region [] (by decide) ?_)
  have ht:allB 0 s = true:=by rw [← hall,List.drop_length]; rfl
  have hres:isName s = (decide ((s.length:Int) ≥ 1) && decide ((s.length:Int)≤64)):=by simp [isName,ht]
  rw [hres]
  generalize h1:decide ((s.length:Int) ≥ 1) = b1
  generalize h2:decide ((s.length:Int)≤64) = b2
  cases b1<;>cases b2<;>simp only [EOps,deN,gdA,callOf,isPanic,nextOf,altA,evalOp,St.ev,Av.get,St.put,ofV,thenQ,Nat.reduceEqDiff,↓reduceIte,Bool.and_self,List.getElem?_cons_zero,List.getElem?_cons_succ,List.getElem?_toArray,Option.map_some,Option.bind_some,beq_true,Bool.false_eq_true,pickA,cond_true,b_geq,b_leq,h1,h2,ls9]<;>exact .ret ⟨_,rfl,_,rfl,.refl _⟩
theorem drop_at {α:Type} {l:List α} {i:Nat} (h:i < l.length):∃ u,l[i]? = some u∧l.drop i = u::l.drop (i + 1):=
 ⟨l[i],List.getElem?_eq_getElem h,List.drop_eq_getElem_cons h⟩
theorem dlt (i L:Nat):decide ((i:Int) < (L:Int)) = decide (i < L):=by simp
theorem ix9 (s:Bytes) (i:Nat) (x:UInt8) (h:s[i]? = some x):evIndex Tryz.prog 9 (.str s) (.int .i64 (i:Int)) = some (.int .u8 x.toNat):=by
 simp [evIndex,idx_nat,Tryz.underlying9,h]
theorem bsB (x:UInt8):evBuildSlice Tryz.prog 42 1 [(0,.int .u8 x.toNat)] = some (.vsl 0 true [.int .u8 x.toNat]):=by
 have h:apT Tryz.prog 5 = some (1,0,1):=by kernel_rfl
 simp [evBuildSlice,Tryz.underlying42,h,AV.cells,AV.told,List.range']
end Go.Proofs.YtjlhemfmeboadaaGreatDoor
namespace Go.Proofs.YtjlhemfmeboadaaGreatDoor
set_option linter.unusedVariables false
set_option linter.unusedSimpArgs false
open Go Go.Av Go.RowKit

end Go.Proofs.YtjlhemfmeboadaaGreatDoor
namespace Go.Proofs.YtjlhemfmeboadaaGreatDoor
set_option linter.unusedVariables false
set_option linter.unusedSimpArgs false
open Go Go.Av Go.RowKit

def shp:Nat→AV→Prop
 | 0,v=>v.one = true
 | n + 1,v=>∃ l,v = .agg l∧l.length = n
def fI (p:AV→Bool):Nat→List AV→Int
 | _,[]=>-1
 | i,v::l=>if p v = true then (i:Int) else fI p (i + 1) l
theorem fI_pos (p:AV→Bool):∀ (l:List AV) (i:Nat),(fI p i l ≥ 0)↔l.any p = true
 | [],_=>by simp [fI]
 | v::l,i=>by
  have ih:=fI_pos p l (i + 1)
  simp only [fI,List.any_cons,Bool.or_eq_true]
  by_cases h:p v = true
  ·simp [h]
  ·rw [if_neg h]; simpa [h] using ih
theorem fI_any (p:AV→Bool) (l:List AV) (i:Nat):decide (fI p i l ≥ 0) = l.any p:=by
 have:=fI_pos p l i
 cases h:l.any p with
 | true=>exact decide_eq_true (this.2 h)
 | false=>exact decide_eq_false (fun hh=>by rw [this.1 hh] at h; cases h)
theorem shp_len {wd:Nat} {v:AV} (h:shp wd v):v.cells.length = esz wd:=by
 cases wd with
 | zero=>rw [one_cells h]; rfl
 | succ n=>obtain ⟨l,rfl,hl⟩:=h; exact hl
theorem shp_ld {P:Program} {e wd:Nat} (hz:tsz P e = some (esz wd)) (hg:tag P e = some (decide (wd ≠ 0))) {v:AV} (h:shp wd v) (H:List OB):evLoad P e (.vptr v.cells) H = some v:=by
 cases wd with
 | zero=>
  rw [one_cells h]
  simp [evLoad,hz,hg,ldA,esz]
 | succ n=>
  obtain ⟨l,rfl,hl⟩:=h
  subst hl
  simp [evLoad,hz,hg,ldA,esz,AV.cells]
theorem fz_func {g h : FuncId} {fs cs : List AV} {b : Bool} {k : Nat} (h1 : AV.hfs fs = true) (h2 : AV.hfs cs = true) :
    fz [.cells [.func (.func g) fs cs] b] (k + 2) (.func (.func h) [] [.ptr 0 0]) = some (.func (.func h) [] [.vptr [.func (.func g) fs cs]]) := by
  have hc : AV.hf (.func (.func g) fs cs) = true := by simp [AV.hf, h1, h2]
  unfold fz
  rw [if_neg (by simp [AV.hf, AV.hfs])]
  simp only [AV.hfs, AV.hf, Bool.false_and, Bool.false_eq_true, if_false, if_true, List.mapM_cons, List.mapM_nil]
  have : fz [.cells [.func (.func g) fs cs] b] (k + 1) (.ptr 0 0) = some (.vptr [.func (.func g) fs cs]) := by
    unfold fz
    rw [if_neg (by simp [AV.hf])]
    simp [AV.hfs, hc]
  rw [this]; rfl
theorem fz_vsl {H:List OB} {wd k:Nat} {x:Bool} {es:List AV} (h:AV.hfs es = true):fz H (k + 1) (.vsl wd x es) = some (.vsl wd x es):=by
 unfold fz
 rw [if_pos (by simpa [AV.hf] using h)]
theorem lend_each {g h : FuncId} {fs cs es : List AV} {b x o : Bool} {wd : Nat} (h0 : AV.hfs es = true) (h1 : AV.hfs fs = true) (h2 : AV.hfs cs = true) :
    lend [.cells [.func (.func g) fs cs] b] [.vsl wd x es, .func (.func h) [] [.ptr 0 0]] (.ret (.bool o)) = some [.vsl wd x es, .func (.func h) [] [.vptr [.func (.func g) fs cs]]] := by
  unfold lend
  rw [if_neg (by simp [AV.hfs, AV.hf]), if_pos (show (Out.ret (AV.bool o)).scalar = true from rfl)]
  simp only [List.mapM_cons, List.mapM_nil, fz_vsl h0, fz_func h1 h2]
  rfl

theorem tzIB:tsz Tryz.prog 5 = some (esz 0):=by kernel_rfl
theorem tgIB:tag Tryz.prog 5 = some (decide (0 ≠ 0)):=by kernel_rfl
theorem idxB (x : Bool) (es : List AV) (g : FuncId) (fs cs : List AV) (p : AV → Bool) (hs : ∀ v ∈ es, shp 0 v) (hh : AV.hfs es = true ∧ AV.hfs fs = true ∧ AV.hfs cs = true)
    (hp : ∀ v ∈ es, PureFn Tryz.prog g (fs ++ [v] ++ cs) (.ret (.bool (p v)))) : PureFn Tryz.prog 106 [.vsl 0 x es, .func (.func g) fs cs] (.ret (.int .i64 (fI p 0 es))) := by
  refine PureFn.fit fun hfit => ?_
  have hb : es.length ≤ maxLen' := hfit (.vsl 0 x es) (by simp)
  refine PureFn.of Tryz.func106 rfl (enters_call enters Tryz.func106 rfl) (by simp [Tryz.ntmps106]) ?_
  show W Tryz.prog 19 _ none _ _ _
  refine .seq (.region [] (by decide) ?_)
  simp only [EOps, gdA, callOf, isPanic, nextOf, altA, evalOp, St.ev, St.put, argT, ofV, thenQ]
  have hln : ∀ H, evLen Tryz.prog 42 (.vsl 0 x es) H = some (.int .i64 es.length) := by intro H; simp [evLen, Tryz.underlying42]
  refine .seq (.seq (.region [] (by decide) ?_))
  simp only [EOps, deN, gdA, callOf, isPanic, nextOf, altA, evalOp, St.ev, Av.get, St.put, ofV, thenQ, Nat.reduceEqDiff, ↓reduceIte, Option.map_some, hln]
  refine .block ?_
  refine .loopT (X := Nat) (fun i => [(8, .int .i64 (i : Int)), (7, .int .i64 es.length), (1, .func (.func g) fs cs), (0, .vsl 0 x es)]) (fun i => []) (fun i => i ≤ es.length ∧ fI p i (es.drop i) = fI p 0 es) (fun i => es.length - i) 0 ⟨Nat.zero_le _, rfl⟩
    (by simp [holdsT, Av.get]) rfl ?_
  rintro i ⟨hi, hall⟩
  refine .seq (.region [] (by decide) ?_)
  simp only [EOps, gdA, callOf, isPanic, nextOf, altA, evalOp, St.ev, Av.get, St.put, thenQ, Nat.reduceEqDiff, ↓reduceIte, b_lss]
  by_cases h : i < es.length
  · obtain ⟨v, hv⟩ : ∃ v, es[i]? = some v := ⟨es[i], List.getElem?_eq_getElem h⟩
    have hmem : v ∈ es := List.mem_of_getElem? hv
    have hdrop : es.drop i = v :: es.drop (i + 1) := by
      rw [List.drop_eq_getElem_cons h]; rw [List.getElem?_eq_getElem h] at hv; cases hv; rfl
    rw [hdrop, fI] at hall
    have hia : ∀ H, evIndexAddr Tryz.prog 42 (.vsl 0 x es) (.int .i64 (i : Int)) H = some (.vptr v.cells) := by
      intro H
      have := shp_len (hs v hmem)
      simp [evIndexAddr, idx_nat, Tryz.underlying42, tzIB, hv, this]
    have hld : ∀ H, evLoad Tryz.prog 5 (.vptr v.cells) H = some v := fun H => shp_ld tzIB tgIB (hs v hmem) H
    have hhf : AV.hfs (fs ++ ([v] ++ cs)) = true := by
      have h1 : AV.hf v = true := by have := hh.1; rw [hfs_all] at this; exact List.all_eq_true.1 this v hmem
      have h2 := hh.2.1; have h3 := hh.2.2
      rw [hfs_all] at h2 h3 ⊢
      simp [List.all_append, h1, h2, h3]
    refine .seq (.cond (t := true) (by simp [St.ev, Av.get]; omega) (.skip ?_))
    simp only [thenQ]
    refine .seqP (p v = false) [(8, .int .i64 (i : Int)), (7, .int .i64 es.length), (1, .func (.func g) fs cs), (0, .vsl 0 x es)] [] (x := Code.block 1 _) ?_ ?_
    · refine .block (.seq (.region [] (by decide) ?_))
      simp only [EOps, gdA, callOf, isPanic, nextOf, altA, evalOp, St.ev, Av.get, St.put, thenQ, Nat.reduceEqDiff, ↓reduceIte]
      refine .seq (.region [.pure (.ret (.bool (p v)))] (by decide) ?_)
      simp only [EOps, gdA, callOf, isPanic, nextOf, altA, evalOp, St.ev, Av.get, St.put, thenQ, Nat.reduceEqDiff, ↓reduceIte, lend, List.map_cons, List.map_nil, Option.map_some, hia, hld, List.append_assoc, hhf]
      refine ⟨by have := hp v hmem; rw [List.append_assoc] at this; exact this, ?_⟩
      cases hpv : p v with
      | true =>
        refine .cond (t := true) rfl (.seq (.region [] (by decide) ?_))
        simp only [EOps, gdA, callOf, isPanic, nextOf, altA, evalOp, St.ev, Av.get, St.put, thenQ, Nat.reduceEqDiff, ↓reduceIte]
        refine .ret ?_
        rw [if_pos hpv] at hall
        rw [← hall]
        exact ⟨_, rfl, _, rfl, .refl _⟩
      | false =>
        refine .cond (t := false) rfl (.skip ?_)
        refine ⟨rfl, ?_, rfl, rfl⟩
        simp [holdsT, Av.get]
    · intro hgood
      rw [hgood] at hall
      simp only [Bool.false_eq_true, if_false] at hall
      refine .region [] (by decide) ?_
      have hadd : evBin Tryz.prog .add 3 (.int .i64 (i : Int)) (.int .i64 1) = some (.int .i64 ((i + 1 : Nat) : Int)) := by
        rw [b_add64 _ _ (by simp only [maxLen'] at hb; omega)]; simp
      simp only [EOps, gdA, callOf, isPanic, nextOf, altA, evalOp, St.ev, Av.get, St.put, ofV, thenQ, ↓reduceIte, hadd]
      refine ⟨i + 1, ⟨by omega, hall⟩, by omega, ?_, trivial, trivial⟩
      simp [holdsT, Av.get]
  · have hi' : i = es.length := by omega
    subst hi'
    refine .seq (.cond (t := false) (by simp [St.ev, Av.get]) (.exit ?_))
    simp only [thenQ, ↓reduceIte, blockQ]
    refine .seq (.region [] (by decide) ?_)
    have ht : fI p 0 es = -1 := by rw [← hall, List.drop_length]; rfl
    rw [ht]
    simp only [EOps, gdA, callOf, isPanic, nextOf, altA, evalOp, St.ev, St.put, ofV, thenQ]
    exact .ret ⟨_, rfl, _, rfl, .refl _⟩

theorem cfB (x : Bool) (es : List AV) (g : FuncId) (fs cs : List AV) (p : AV → Bool) (hs : ∀ v ∈ es, shp 0 v) (hh : AV.hfs es = true ∧ AV.hfs fs = true ∧ AV.hfs cs = true)
    (hp : ∀ v ∈ es, PureFn Tryz.prog g (fs ++ [v] ++ cs) (.ret (.bool (p v)))) : PureFn Tryz.prog 87 [.vsl 0 x es, .func (.func g) fs cs] (.ret (.bool (es.any p))) := by
  refine PureFn.of Tryz.func87 rfl (enters_call enters Tryz.func87 rfl) (by simp [Tryz.ntmps87]) ?_
  show W Tryz.prog 9 _ none _ _ _
  refine .seq (.region [] (by decide) ?_)
  simp only [EOps, gdA, callOf, isPanic, nextOf, altA, evalOp, St.ev, St.put, argT, ofV, thenQ]
  refine .seq (.region [.pure (.ret (.int .i64 (fI p 0 es)))] (by decide) ?_)
  obtain ⟨h1, h2, h3⟩ := hh
  simp only [EOps, gdA, callOf, isPanic, nextOf, altA, evalOp, St.ev, Av.get, St.put, ofV, thenQ, Nat.reduceEqDiff, ↓reduceIte, lend, AV.hfs, AV.hf, Bool.and_self, List.map_cons, List.map_nil, List.nil_append, List.append_nil, h1, h2, h3, b_geq, fI_any]
  refine ⟨idxB x es g fs cs p hs ⟨h1, h2, h3⟩ hp, ?_⟩
  exact .ret ⟨_, rfl, _, rfl, .refl _⟩

theorem cloB (v : AV) (hsh : shp 0 v) (g : FuncId) (fs cs : List AV) (p : Bool) (hv : AV.hf v = true) (h1 : AV.hfs fs = true) (h2 : AV.hfs cs = true) (hp : PureFn Tryz.prog g (fs ++ [v] ++ cs) (.ret (.bool p))) :
    PureFn Tryz.prog 88 [v, .vptr [.func (.func g) fs cs]] (.ret (.bool !p)) := by
  skip
  refine PureFn.of Tryz.func88 rfl (enters_call enters Tryz.func88 rfl) (by simp [Tryz.ntmps88]) ?_
  show W Tryz.prog 8 _ none _ _ _
  have hz : tsz Tryz.prog 48 = some 1 := by kernel_rfl
  have hg : tag Tryz.prog 48 = some false := by kernel_rfl
  have hld : ∀ H, evLoad Tryz.prog 48 (.vptr [.func (.func g) fs cs]) H = some (.func (.func g) fs cs) := by intro H; simp [evLoad, hz, hg, ldA]
  have hhf : AV.hfs (fs ++ ([v] ++ cs)) = true := by
    rw [hfs_all] at h1 h2 ⊢
    simp [List.all_append, h1, h2, hv]
  have hld2 : True := trivial
  refine .seq (.region [] (by decide) ?_)
  simp only [EOps, gdA, callOf, isPanic, nextOf, altA, evalOp, St.ev, St.put, argT, ofV, thenQ]
  refine .seq (.region [.pure (.ret (.bool p))] (by decide) ?_)
  simp only [EOps, gdA, callOf, isPanic, nextOf, altA, evalOp, St.ev, Av.get, St.put, thenQ, Nat.reduceEqDiff, ↓reduceIte, lend, List.map_cons, List.map_nil, Option.map_some, hld, hld2, List.append_assoc, hhf, u_not]
  refine ⟨by rw [List.append_assoc] at hp; exact hp, ?_⟩
  exact .ret ⟨_, rfl, _, rfl, .refl _⟩

theorem each_B (x : Bool) (es : List AV) (g : FuncId) (fs cs : List AV) (p : AV → Bool) (hs : ∀ v ∈ es, shp 0 v) (hh : AV.hfs es = true ∧ AV.hfs fs = true ∧ AV.hfs cs = true)
    (hp : ∀ v ∈ es, PureFn Tryz.prog g (fs ++ [v] ++ cs) (.ret (.bool (p v)))) : PureFn Tryz.prog 62 [.vsl 0 x es, .func (.func g) fs cs] (.ret (.bool (es.all p))) := by
  obtain ⟨h0, h1, h2⟩ := hh
  refine PureFn.of Tryz.func62 rfl (enters_call enters Tryz.func62 rfl) (by simp [Tryz.ntmps62]) ?_
  show W Tryz.prog 9 _ none _ _ _
  refine .seq (.region [] (by decide) ?_)
  simp only [EOps, gdA, callOf, isPanic, nextOf, altA, evalOp, St.ev, Av.get, St.put, argT, ofV, thenQ, Nat.reduceEqDiff, ↓reduceIte, List.nil_append, AV.told, AV.cells, List.length_nil]
  have hl := lend_each (g := g) (fs := fs) (cs := cs) (es := es) (h := 88) (b := false) (x := x) (wd := 0) (o := es.any fun v => !p v) h0 h1 h2
  refine .seq (.region [.pure (.ret (.bool (es.any fun v => !p v)))] (by decide) ?_)
  simp only [EOps, gdA, callOf, isPanic, nextOf, altA, evalOp, St.ev, Av.get, St.put, thenQ, Nat.reduceEqDiff, ↓reduceIte, List.map_cons, List.map_nil, List.nil_append, List.append_nil, Option.map_some, hl, u_not]
  refine ⟨cfB x es 88 [] [.vptr [.func (.func g) fs cs]] (fun v => !p v) hs ⟨h0, rfl, by simp [AV.hfs, AV.hf, h1, h2]⟩ (fun v hv => cloB v (hs v hv) g fs cs (p v) ?_ h1 h2 (hp v hv)), ?_⟩
  · rw [hfs_all] at h0; exact List.all_eq_true.1 h0 v hv
  · refine .ret ⟨_, rfl, _, rfl, ?_⟩
    have : (!es.any fun v => !p v) = es.all p := by
      rw [List.any_eq_not_all_not]; simp
    rw [this]
    exact .refl _

theorem tzIP:tsz Tryz.prog 54 = some (esz 3):=by kernel_rfl
theorem tgIP:tag Tryz.prog 54 = some (decide (3 ≠ 0)):=by kernel_rfl
theorem idxP (x : Bool) (es : List AV) (g : FuncId) (fs cs : List AV) (p : AV → Bool) (hs : ∀ v ∈ es, shp 3 v) (hh : AV.hfs es = true ∧ AV.hfs fs = true ∧ AV.hfs cs = true)
    (hp : ∀ v ∈ es, PureFn Tryz.prog g (fs ++ [v] ++ cs) (.ret (.bool (p v)))) : PureFn Tryz.prog 105 [.vsl 3 x es, .func (.func g) fs cs] (.ret (.int .i64 (fI p 0 es))) := by
  refine PureFn.fit fun hfit => ?_
  have hb : es.length ≤ maxLen' := hfit (.vsl 3 x es) (by simp)
  refine PureFn.of Tryz.func105 rfl (enters_call enters Tryz.func105 rfl) (by simp [Tryz.ntmps105]) ?_
  show W Tryz.prog 19 _ none _ _ _
  refine .seq (.region [] (by decide) ?_)
  simp only [EOps, gdA, callOf, isPanic, nextOf, altA, evalOp, St.ev, St.put, argT, ofV, thenQ]
  have hln : ∀ H, evLen Tryz.prog 43 (.vsl 3 x es) H = some (.int .i64 es.length) := by intro H; simp [evLen, Tryz.underlying43]
  refine .seq (.seq (.region [] (by decide) ?_))
  simp only [EOps, deN, gdA, callOf, isPanic, nextOf, altA, evalOp, St.ev, Av.get, St.put, ofV, thenQ, Nat.reduceEqDiff, ↓reduceIte, Option.map_some, hln]
  refine .block ?_
  refine .loopT (X := Nat) (fun i => [(8, .int .i64 (i : Int)), (7, .int .i64 es.length), (1, .func (.func g) fs cs), (0, .vsl 3 x es)]) (fun i => []) (fun i => i ≤ es.length ∧ fI p i (es.drop i) = fI p 0 es) (fun i => es.length - i) 0 ⟨Nat.zero_le _, rfl⟩
    (by simp [holdsT, Av.get]) rfl ?_
  rintro i ⟨hi, hall⟩
  refine .seq (.region [] (by decide) ?_)
  simp only [EOps, gdA, callOf, isPanic, nextOf, altA, evalOp, St.ev, Av.get, St.put, thenQ, Nat.reduceEqDiff, ↓reduceIte, b_lss]
  by_cases h : i < es.length
  · obtain ⟨v, hv⟩ : ∃ v, es[i]? = some v := ⟨es[i], List.getElem?_eq_getElem h⟩
    have hmem : v ∈ es := List.mem_of_getElem? hv
    have hdrop : es.drop i = v :: es.drop (i + 1) := by
      rw [List.drop_eq_getElem_cons h]; rw [List.getElem?_eq_getElem h] at hv; cases hv; rfl
    rw [hdrop, fI] at hall
    have hia : ∀ H, evIndexAddr Tryz.prog 43 (.vsl 3 x es) (.int .i64 (i : Int)) H = some (.vptr v.cells) := by
      intro H
      have := shp_len (hs v hmem)
      simp [evIndexAddr, idx_nat, Tryz.underlying43, tzIP, hv, this]
    have hld : ∀ H, evLoad Tryz.prog 54 (.vptr v.cells) H = some v := fun H => shp_ld tzIP tgIP (hs v hmem) H
    have hhf : AV.hfs (fs ++ ([v] ++ cs)) = true := by
      have h1 : AV.hf v = true := by have := hh.1; rw [hfs_all] at this; exact List.all_eq_true.1 this v hmem
      have h2 := hh.2.1; have h3 := hh.2.2
      rw [hfs_all] at h2 h3 ⊢
      simp [List.all_append, h1, h2, h3]
    refine .seq (.cond (t := true) (by simp [St.ev, Av.get]; omega) (.skip ?_))
    simp only [thenQ]
    refine .seqP (p v = false) [(8, .int .i64 (i : Int)), (7, .int .i64 es.length), (1, .func (.func g) fs cs), (0, .vsl 3 x es)] [] (x := Code.block 1 _) ?_ ?_
    · refine .block (.seq (.region [] (by decide) ?_))
      simp only [EOps, gdA, callOf, isPanic, nextOf, altA, evalOp, St.ev, Av.get, St.put, thenQ, Nat.reduceEqDiff, ↓reduceIte]
      refine .seq (.region [.pure (.ret (.bool (p v)))] (by decide) ?_)
      simp only [EOps, gdA, callOf, isPanic, nextOf, altA, evalOp, St.ev, Av.get, St.put, thenQ, Nat.reduceEqDiff, ↓reduceIte, lend, List.map_cons, List.map_nil, Option.map_some, hia, hld, List.append_assoc, hhf]
      refine ⟨by have := hp v hmem; rw [List.append_assoc] at this; exact this, ?_⟩
      cases hpv : p v with
      | true =>
        refine .cond (t := true) rfl (.seq (.region [] (by decide) ?_))
        simp only [EOps, gdA, callOf, isPanic, nextOf, altA, evalOp, St.ev, Av.get, St.put, thenQ, Nat.reduceEqDiff, ↓reduceIte]
        refine .ret ?_
        rw [if_pos hpv] at hall
        rw [← hall]
        exact ⟨_, rfl, _, rfl, .refl _⟩
      | false =>
        refine .cond (t := false) rfl (.skip ?_)
        refine ⟨rfl, ?_, rfl, rfl⟩
        simp [holdsT, Av.get]
    · intro hgood
      rw [hgood] at hall
      simp only [Bool.false_eq_true, if_false] at hall
      refine .region [] (by decide) ?_
      have hadd : evBin Tryz.prog .add 3 (.int .i64 (i : Int)) (.int .i64 1) = some (.int .i64 ((i + 1 : Nat) : Int)) := by
        rw [b_add64 _ _ (by simp only [maxLen'] at hb; omega)]; simp
      simp only [EOps, gdA, callOf, isPanic, nextOf, altA, evalOp, St.ev, Av.get, St.put, ofV, thenQ, ↓reduceIte, hadd]
      refine ⟨i + 1, ⟨by omega, hall⟩, by omega, ?_, trivial, trivial⟩
      simp [holdsT, Av.get]
  · have hi' : i = es.length := by omega
    subst hi'
    refine .seq (.cond (t := false) (by simp [St.ev, Av.get]) (.exit ?_))
    simp only [thenQ, ↓reduceIte, blockQ]
    refine .seq (.region [] (by decide) ?_)
    have ht : fI p 0 es = -1 := by rw [← hall, List.drop_length]; rfl
    rw [ht]
    simp only [EOps, gdA, callOf, isPanic, nextOf, altA, evalOp, St.ev, St.put, ofV, thenQ]
    exact .ret ⟨_, rfl, _, rfl, .refl _⟩

theorem cfP (x : Bool) (es : List AV) (g : FuncId) (fs cs : List AV) (p : AV → Bool) (hs : ∀ v ∈ es, shp 3 v) (hh : AV.hfs es = true ∧ AV.hfs fs = true ∧ AV.hfs cs = true)
    (hp : ∀ v ∈ es, PureFn Tryz.prog g (fs ++ [v] ++ cs) (.ret (.bool (p v)))) : PureFn Tryz.prog 84 [.vsl 3 x es, .func (.func g) fs cs] (.ret (.bool (es.any p))) := by
  refine PureFn.of Tryz.func84 rfl (enters_call enters Tryz.func84 rfl) (by simp [Tryz.ntmps84]) ?_
  show W Tryz.prog 9 _ none _ _ _
  refine .seq (.region [] (by decide) ?_)
  simp only [EOps, gdA, callOf, isPanic, nextOf, altA, evalOp, St.ev, St.put, argT, ofV, thenQ]
  refine .seq (.region [.pure (.ret (.int .i64 (fI p 0 es)))] (by decide) ?_)
  obtain ⟨h1, h2, h3⟩ := hh
  simp only [EOps, gdA, callOf, isPanic, nextOf, altA, evalOp, St.ev, Av.get, St.put, ofV, thenQ, Nat.reduceEqDiff, ↓reduceIte, lend, AV.hfs, AV.hf, Bool.and_self, List.map_cons, List.map_nil, List.nil_append, List.append_nil, h1, h2, h3, b_geq, fI_any]
  refine ⟨idxP x es g fs cs p hs ⟨h1, h2, h3⟩ hp, ?_⟩
  exact .ret ⟨_, rfl, _, rfl, .refl _⟩

theorem cloP (v : AV) (hsh : shp 3 v) (g : FuncId) (fs cs : List AV) (p : Bool) (hv : AV.hf v = true) (h1 : AV.hfs fs = true) (h2 : AV.hfs cs = true) (hp : PureFn Tryz.prog g (fs ++ [v] ++ cs) (.ret (.bool p))) :
    PureFn Tryz.prog 85 [v, .vptr [.func (.func g) fs cs]] (.ret (.bool !p)) := by
  skip
  refine PureFn.of Tryz.func85 rfl (enters_call enters Tryz.func85 rfl) (by simp [Tryz.ntmps85]) ?_
  show W Tryz.prog 8 _ none _ _ _
  have hz : tsz Tryz.prog 74 = some 1 := by kernel_rfl
  have hg : tag Tryz.prog 74 = some false := by kernel_rfl
  have hld : ∀ H, evLoad Tryz.prog 74 (.vptr [.func (.func g) fs cs]) H = some (.func (.func g) fs cs) := by intro H; simp [evLoad, hz, hg, ldA]
  have hhf : AV.hfs (fs ++ ([v] ++ cs)) = true := by
    rw [hfs_all] at h1 h2 ⊢
    simp [List.all_append, h1, h2, hv]
  obtain ⟨l, rfl, hl'⟩ := hsh
  have hl : l.length = 2 := hl'
  have hz2 : tsz Tryz.prog 54 = some 2 := by kernel_rfl
  have hg2 : tag Tryz.prog 54 = some true := by kernel_rfl
  have hld2 : evLoad Tryz.prog 54 (.ptr 0 0) [.cells l false] = some (.agg l) := by
    simp [evLoad, hz2, hg2, ldA, hl]
    exact List.take_of_length_le (by rw [hl]; exact Nat.le_refl 2)
  refine .seq (.region [] (by decide) ?_)
  simp only [EOps, gdA, callOf, isPanic, nextOf, altA, evalOp, St.ev, Av.get, St.put, argT, ofV, thenQ, ↓reduceIte, List.nil_append, AV.told, AV.cells, List.length_nil]
  refine .seq (.region [.pure (.ret (.bool p))] (by decide) ?_)
  simp only [EOps, gdA, callOf, isPanic, nextOf, altA, evalOp, St.ev, Av.get, St.put, thenQ, Nat.reduceEqDiff, ↓reduceIte, lend, List.map_cons, List.map_nil, Option.map_some, hld, hld2, List.append_assoc, hhf, u_not]
  refine ⟨by rw [List.append_assoc] at hp; exact hp, ?_⟩
  exact .ret ⟨_, rfl, _, rfl, .refl _⟩

theorem each_P (x : Bool) (es : List AV) (g : FuncId) (fs cs : List AV) (p : AV → Bool) (hs : ∀ v ∈ es, shp 3 v) (hh : AV.hfs es = true ∧ AV.hfs fs = true ∧ AV.hfs cs = true)
    (hp : ∀ v ∈ es, PureFn Tryz.prog g (fs ++ [v] ++ cs) (.ret (.bool (p v)))) : PureFn Tryz.prog 60 [.vsl 3 x es, .func (.func g) fs cs] (.ret (.bool (es.all p))) := by
  obtain ⟨h0, h1, h2⟩ := hh
  refine PureFn.of Tryz.func60 rfl (enters_call enters Tryz.func60 rfl) (by simp [Tryz.ntmps60]) ?_
  show W Tryz.prog 9 _ none _ _ _
  refine .seq (.region [] (by decide) ?_)
  simp only [EOps, gdA, callOf, isPanic, nextOf, altA, evalOp, St.ev, Av.get, St.put, argT, ofV, thenQ, Nat.reduceEqDiff, ↓reduceIte, List.nil_append, AV.told, AV.cells, List.length_nil]
  have hl := lend_each (g := g) (fs := fs) (cs := cs) (es := es) (h := 85) (b := false) (x := x) (wd := 3) (o := es.any fun v => !p v) h0 h1 h2
  refine .seq (.region [.pure (.ret (.bool (es.any fun v => !p v)))] (by decide) ?_)
  simp only [EOps, gdA, callOf, isPanic, nextOf, altA, evalOp, St.ev, Av.get, St.put, thenQ, Nat.reduceEqDiff, ↓reduceIte, List.map_cons, List.map_nil, List.nil_append, List.append_nil, Option.map_some, hl, u_not]
  refine ⟨cfP x es 85 [] [.vptr [.func (.func g) fs cs]] (fun v => !p v) hs ⟨h0, rfl, by simp [AV.hfs, AV.hf, h1, h2]⟩ (fun v hv => cloP v (hs v hv) g fs cs (p v) ?_ h1 h2 (hp v hv)), ?_⟩
  · rw [hfs_all] at h0; exact List.all_eq_true.1 h0 v hv
  · refine .ret ⟨_, rfl, _, rfl, ?_⟩
    have : (!es.any fun v => !p v) = es.all p := by
      rw [List.any_eq_not_all_not]; simp
    rw [this]
    exact .refl _

theorem tzIL:tsz Tryz.prog 45 = some (esz 5):=by kernel_rfl
theorem tgIL:tag Tryz.prog 45 = some (decide (5 ≠ 0)):=by kernel_rfl
theorem idxL (x : Bool) (es : List AV) (g : FuncId) (fs cs : List AV) (p : AV → Bool) (hs : ∀ v ∈ es, shp 5 v) (hh : AV.hfs es = true ∧ AV.hfs fs = true ∧ AV.hfs cs = true)
    (hp : ∀ v ∈ es, PureFn Tryz.prog g (fs ++ [v] ++ cs) (.ret (.bool (p v)))) : PureFn Tryz.prog 82 [.vsl 5 x es, .func (.func g) fs cs] (.ret (.int .i64 (fI p 0 es))) := by
  refine PureFn.fit fun hfit => ?_
  have hb : es.length ≤ maxLen' := hfit (.vsl 5 x es) (by simp)
  refine PureFn.of Tryz.func82 rfl (enters_call enters Tryz.func82 rfl) (by simp [Tryz.ntmps82]) ?_
  show W Tryz.prog 19 _ none _ _ _
  refine .seq (.region [] (by decide) ?_)
  simp only [EOps, gdA, callOf, isPanic, nextOf, altA, evalOp, St.ev, St.put, argT, ofV, thenQ]
  have hln : ∀ H, evLen Tryz.prog 22 (.vsl 5 x es) H = some (.int .i64 es.length) := by intro H; simp [evLen, Tryz.underlying22]
  refine .seq (.seq (.region [] (by decide) ?_))
  simp only [EOps, deN, gdA, callOf, isPanic, nextOf, altA, evalOp, St.ev, Av.get, St.put, ofV, thenQ, Nat.reduceEqDiff, ↓reduceIte, Option.map_some, hln]
  refine .block ?_
  refine .loopT (X := Nat) (fun i => [(8, .int .i64 (i : Int)), (7, .int .i64 es.length), (1, .func (.func g) fs cs), (0, .vsl 5 x es)]) (fun i => []) (fun i => i ≤ es.length ∧ fI p i (es.drop i) = fI p 0 es) (fun i => es.length - i) 0 ⟨Nat.zero_le _, rfl⟩
    (by simp [holdsT, Av.get]) rfl ?_
  rintro i ⟨hi, hall⟩
  refine .seq (.region [] (by decide) ?_)
  simp only [EOps, gdA, callOf, isPanic, nextOf, altA, evalOp, St.ev, Av.get, St.put, thenQ, Nat.reduceEqDiff, ↓reduceIte, b_lss]
  by_cases h : i < es.length
  · obtain ⟨v, hv⟩ : ∃ v, es[i]? = some v := ⟨es[i], List.getElem?_eq_getElem h⟩
    have hmem : v ∈ es := List.mem_of_getElem? hv
    have hdrop : es.drop i = v :: es.drop (i + 1) := by
      rw [List.drop_eq_getElem_cons h]; rw [List.getElem?_eq_getElem h] at hv; cases hv; rfl
    rw [hdrop, fI] at hall
    have hia : ∀ H, evIndexAddr Tryz.prog 22 (.vsl 5 x es) (.int .i64 (i : Int)) H = some (.vptr v.cells) := by
      intro H
      have := shp_len (hs v hmem)
      simp [evIndexAddr, idx_nat, Tryz.underlying22, tzIL, hv, this]
    have hld : ∀ H, evLoad Tryz.prog 45 (.vptr v.cells) H = some v := fun H => shp_ld tzIL tgIL (hs v hmem) H
    have hhf : AV.hfs (fs ++ ([v] ++ cs)) = true := by
      have h1 : AV.hf v = true := by have := hh.1; rw [hfs_all] at this; exact List.all_eq_true.1 this v hmem
      have h2 := hh.2.1; have h3 := hh.2.2
      rw [hfs_all] at h2 h3 ⊢
      simp [List.all_append, h1, h2, h3]
    refine .seq (.cond (t := true) (by simp [St.ev, Av.get]; omega) (.skip ?_))
    simp only [thenQ]
    refine .seqP (p v = false) [(8, .int .i64 (i : Int)), (7, .int .i64 es.length), (1, .func (.func g) fs cs), (0, .vsl 5 x es)] [] (x := Code.block 1 _) ?_ ?_
    · refine .block (.seq (.region [] (by decide) ?_))
      simp only [EOps, gdA, callOf, isPanic, nextOf, altA, evalOp, St.ev, Av.get, St.put, thenQ, Nat.reduceEqDiff, ↓reduceIte]
      refine .seq (.region [.pure (.ret (.bool (p v)))] (by decide) ?_)
      simp only [EOps, gdA, callOf, isPanic, nextOf, altA, evalOp, St.ev, Av.get, St.put, thenQ, Nat.reduceEqDiff, ↓reduceIte, lend, List.map_cons, List.map_nil, Option.map_some, hia, hld, List.append_assoc, hhf]
      refine ⟨by have := hp v hmem; rw [List.append_assoc] at this; exact this, ?_⟩
      cases hpv : p v with
      | true =>
        refine .cond (t := true) rfl (.seq (.region [] (by decide) ?_))
        simp only [EOps, gdA, callOf, isPanic, nextOf, altA, evalOp, St.ev, Av.get, St.put, thenQ, Nat.reduceEqDiff, ↓reduceIte]
        refine .ret ?_
        rw [if_pos hpv] at hall
        rw [← hall]
        exact ⟨_, rfl, _, rfl, .refl _⟩
      | false =>
        refine .cond (t := false) rfl (.skip ?_)
        refine ⟨rfl, ?_, rfl, rfl⟩
        simp [holdsT, Av.get]
    · intro hgood
      rw [hgood] at hall
      simp only [Bool.false_eq_true, if_false] at hall
      refine .region [] (by decide) ?_
      have hadd : evBin Tryz.prog .add 3 (.int .i64 (i : Int)) (.int .i64 1) = some (.int .i64 ((i + 1 : Nat) : Int)) := by
        rw [b_add64 _ _ (by simp only [maxLen'] at hb; omega)]; simp
      simp only [EOps, gdA, callOf, isPanic, nextOf, altA, evalOp, St.ev, Av.get, St.put, ofV, thenQ, ↓reduceIte, hadd]
      refine ⟨i + 1, ⟨by omega, hall⟩, by omega, ?_, trivial, trivial⟩
      simp [holdsT, Av.get]
  · have hi' : i = es.length := by omega
    subst hi'
    refine .seq (.cond (t := false) (by simp [St.ev, Av.get]) (.exit ?_))
    simp only [thenQ, ↓reduceIte, blockQ]
    refine .seq (.region [] (by decide) ?_)
    have ht : fI p 0 es = -1 := by rw [← hall, List.drop_length]; rfl
    rw [ht]
    simp only [EOps, gdA, callOf, isPanic, nextOf, altA, evalOp, St.ev, St.put, ofV, thenQ]
    exact .ret ⟨_, rfl, _, rfl, .refl _⟩

theorem cfL (x : Bool) (es : List AV) (g : FuncId) (fs cs : List AV) (p : AV → Bool) (hs : ∀ v ∈ es, shp 5 v) (hh : AV.hfs es = true ∧ AV.hfs fs = true ∧ AV.hfs cs = true)
    (hp : ∀ v ∈ es, PureFn Tryz.prog g (fs ++ [v] ++ cs) (.ret (.bool (p v)))) : PureFn Tryz.prog 57 [.vsl 5 x es, .func (.func g) fs cs] (.ret (.bool (es.any p))) := by
  refine PureFn.of Tryz.func57 rfl (enters_call enters Tryz.func57 rfl) (by simp [Tryz.ntmps57]) ?_
  show W Tryz.prog 9 _ none _ _ _
  refine .seq (.region [] (by decide) ?_)
  simp only [EOps, gdA, callOf, isPanic, nextOf, altA, evalOp, St.ev, St.put, argT, ofV, thenQ]
  refine .seq (.region [.pure (.ret (.int .i64 (fI p 0 es)))] (by decide) ?_)
  obtain ⟨h1, h2, h3⟩ := hh
  simp only [EOps, gdA, callOf, isPanic, nextOf, altA, evalOp, St.ev, Av.get, St.put, ofV, thenQ, Nat.reduceEqDiff, ↓reduceIte, lend, AV.hfs, AV.hf, Bool.and_self, List.map_cons, List.map_nil, List.nil_append, List.append_nil, h1, h2, h3, b_geq, fI_any]
  refine ⟨idxL x es g fs cs p hs ⟨h1, h2, h3⟩ hp, ?_⟩
  exact .ret ⟨_, rfl, _, rfl, .refl _⟩

theorem cloL (v : AV) (hsh : shp 5 v) (g : FuncId) (fs cs : List AV) (p : Bool) (hv : AV.hf v = true) (h1 : AV.hfs fs = true) (h2 : AV.hfs cs = true) (hp : PureFn Tryz.prog g (fs ++ [v] ++ cs) (.ret (.bool p))) :
    PureFn Tryz.prog 58 [v, .vptr [.func (.func g) fs cs]] (.ret (.bool !p)) := by
  skip
  refine PureFn.of Tryz.func58 rfl (enters_call enters Tryz.func58 rfl) (by simp [Tryz.ntmps58]) ?_
  show W Tryz.prog 8 _ none _ _ _
  have hz : tsz Tryz.prog 56 = some 1 := by kernel_rfl
  have hg : tag Tryz.prog 56 = some false := by kernel_rfl
  have hld : ∀ H, evLoad Tryz.prog 56 (.vptr [.func (.func g) fs cs]) H = some (.func (.func g) fs cs) := by intro H; simp [evLoad, hz, hg, ldA]
  have hhf : AV.hfs (fs ++ ([v] ++ cs)) = true := by
    rw [hfs_all] at h1 h2 ⊢
    simp [List.all_append, h1, h2, hv]
  obtain ⟨l, rfl, hl'⟩ := hsh
  have hl : l.length = 4 := hl'
  have hz2 : tsz Tryz.prog 45 = some 4 := by kernel_rfl
  have hg2 : tag Tryz.prog 45 = some true := by kernel_rfl
  have hld2 : evLoad Tryz.prog 45 (.ptr 0 0) [.cells l false] = some (.agg l) := by
    simp [evLoad, hz2, hg2, ldA, hl]
    exact List.take_of_length_le (by rw [hl]; exact Nat.le_refl 4)
  refine .seq (.region [] (by decide) ?_)
  simp only [EOps, gdA, callOf, isPanic, nextOf, altA, evalOp, St.ev, Av.get, St.put, argT, ofV, thenQ, ↓reduceIte, List.nil_append, AV.told, AV.cells, List.length_nil]
  refine .seq (.region [.pure (.ret (.bool p))] (by decide) ?_)
  simp only [EOps, gdA, callOf, isPanic, nextOf, altA, evalOp, St.ev, Av.get, St.put, thenQ, Nat.reduceEqDiff, ↓reduceIte, lend, List.map_cons, List.map_nil, Option.map_some, hld, hld2, List.append_assoc, hhf, u_not]
  refine ⟨by rw [List.append_assoc] at hp; exact hp, ?_⟩
  exact .ret ⟨_, rfl, _, rfl, .refl _⟩

theorem each_L (x : Bool) (es : List AV) (g : FuncId) (fs cs : List AV) (p : AV → Bool) (hs : ∀ v ∈ es, shp 5 v) (hh : AV.hfs es = true ∧ AV.hfs fs = true ∧ AV.hfs cs = true)
    (hp : ∀ v ∈ es, PureFn Tryz.prog g (fs ++ [v] ++ cs) (.ret (.bool (p v)))) : PureFn Tryz.prog 35 [.vsl 5 x es, .func (.func g) fs cs] (.ret (.bool (es.all p))) := by
  obtain ⟨h0, h1, h2⟩ := hh
  refine PureFn.of Tryz.func35 rfl (enters_call enters Tryz.func35 rfl) (by simp [Tryz.ntmps35]) ?_
  show W Tryz.prog 9 _ none _ _ _
  refine .seq (.region [] (by decide) ?_)
  simp only [EOps, gdA, callOf, isPanic, nextOf, altA, evalOp, St.ev, Av.get, St.put, argT, ofV, thenQ, Nat.reduceEqDiff, ↓reduceIte, List.nil_append, AV.told, AV.cells, List.length_nil]
  have hl := lend_each (g := g) (fs := fs) (cs := cs) (es := es) (h := 58) (b := false) (x := x) (wd := 5) (o := es.any fun v => !p v) h0 h1 h2
  refine .seq (.region [.pure (.ret (.bool (es.any fun v => !p v)))] (by decide) ?_)
  simp only [EOps, gdA, callOf, isPanic, nextOf, altA, evalOp, St.ev, Av.get, St.put, thenQ, Nat.reduceEqDiff, ↓reduceIte, List.map_cons, List.map_nil, List.nil_append, List.append_nil, Option.map_some, hl, u_not]
  refine ⟨cfL x es 58 [] [.vptr [.func (.func g) fs cs]] (fun v => !p v) hs ⟨h0, rfl, by simp [AV.hfs, AV.hf, h1, h2]⟩ (fun v hv => cloL v (hs v hv) g fs cs (p v) ?_ h1 h2 (hp v hv)), ?_⟩
  · rw [hfs_all] at h0; exact List.all_eq_true.1 h0 v hv
  · refine .ret ⟨_, rfl, _, rfl, ?_⟩
    have : (!es.any fun v => !p v) = es.all p := by
      rw [List.any_eq_not_all_not]; simp
    rw [this]
    exact .refl _

theorem tzIR:tsz Tryz.prog 109 = some (esz 3):=by kernel_rfl
theorem tgIR:tag Tryz.prog 109 = some (decide (3 ≠ 0)):=by kernel_rfl
theorem idxR (x : Bool) (es : List AV) (g : FuncId) (fs cs : List AV) (p : AV → Bool) (hs : ∀ v ∈ es, shp 3 v) (hh : AV.hfs es = true ∧ AV.hfs fs = true ∧ AV.hfs cs = true)
    (hp : ∀ v ∈ es, PureFn Tryz.prog g (fs ++ [v] ++ cs) (.ret (.bool (p v)))) : PureFn Tryz.prog 149 [.vsl 3 x es, .func (.func g) fs cs] (.ret (.int .i64 (fI p 0 es))) := by
  refine PureFn.fit fun hfit => ?_
  have hb : es.length ≤ maxLen' := hfit (.vsl 3 x es) (by simp)
  refine PureFn.of Tryz.func149 rfl (enters_call enters Tryz.func149 rfl) (by simp [Tryz.ntmps149]) ?_
  show W Tryz.prog 19 _ none _ _ _
  refine .seq (.region [] (by decide) ?_)
  simp only [EOps, gdA, callOf, isPanic, nextOf, altA, evalOp, St.ev, St.put, argT, ofV, thenQ]
  have hln : ∀ H, evLen Tryz.prog 110 (.vsl 3 x es) H = some (.int .i64 es.length) := by intro H; simp [evLen, Tryz.underlying110]
  refine .seq (.seq (.region [] (by decide) ?_))
  simp only [EOps, deN, gdA, callOf, isPanic, nextOf, altA, evalOp, St.ev, Av.get, St.put, ofV, thenQ, Nat.reduceEqDiff, ↓reduceIte, Option.map_some, hln]
  refine .block ?_
  refine .loopT (X := Nat) (fun i => [(8, .int .i64 (i : Int)), (7, .int .i64 es.length), (1, .func (.func g) fs cs), (0, .vsl 3 x es)]) (fun i => []) (fun i => i ≤ es.length ∧ fI p i (es.drop i) = fI p 0 es) (fun i => es.length - i) 0 ⟨Nat.zero_le _, rfl⟩
    (by simp [holdsT, Av.get]) rfl ?_
  rintro i ⟨hi, hall⟩
  refine .seq (.region [] (by decide) ?_)
  simp only [EOps, gdA, callOf, isPanic, nextOf, altA, evalOp, St.ev, Av.get, St.put, thenQ, Nat.reduceEqDiff, ↓reduceIte, b_lss]
  by_cases h : i < es.length
  · obtain ⟨v, hv⟩ : ∃ v, es[i]? = some v := ⟨es[i], List.getElem?_eq_getElem h⟩
    have hmem : v ∈ es := List.mem_of_getElem? hv
    have hdrop : es.drop i = v :: es.drop (i + 1) := by
      rw [List.drop_eq_getElem_cons h]; rw [List.getElem?_eq_getElem h] at hv; cases hv; rfl
    rw [hdrop, fI] at hall
    have hia : ∀ H, evIndexAddr Tryz.prog 110 (.vsl 3 x es) (.int .i64 (i : Int)) H = some (.vptr v.cells) := by
      intro H
      have := shp_len (hs v hmem)
      simp [evIndexAddr, idx_nat, Tryz.underlying110, tzIR, hv, this]
    have hld : ∀ H, evLoad Tryz.prog 109 (.vptr v.cells) H = some v := fun H => shp_ld tzIR tgIR (hs v hmem) H
    have hhf : AV.hfs (fs ++ ([v] ++ cs)) = true := by
      have h1 : AV.hf v = true := by have := hh.1; rw [hfs_all] at this; exact List.all_eq_true.1 this v hmem
      have h2 := hh.2.1; have h3 := hh.2.2
      rw [hfs_all] at h2 h3 ⊢
      simp [List.all_append, h1, h2, h3]
    refine .seq (.cond (t := true) (by simp [St.ev, Av.get]; omega) (.skip ?_))
    simp only [thenQ]
    refine .seqP (p v = false) [(8, .int .i64 (i : Int)), (7, .int .i64 es.length), (1, .func (.func g) fs cs), (0, .vsl 3 x es)] [] (x := Code.block 1 _) ?_ ?_
    · refine .block (.seq (.region [] (by decide) ?_))
      simp only [EOps, gdA, callOf, isPanic, nextOf, altA, evalOp, St.ev, Av.get, St.put, thenQ, Nat.reduceEqDiff, ↓reduceIte]
      refine .seq (.region [.pure (.ret (.bool (p v)))] (by decide) ?_)
      simp only [EOps, gdA, callOf, isPanic, nextOf, altA, evalOp, St.ev, Av.get, St.put, thenQ, Nat.reduceEqDiff, ↓reduceIte, lend, List.map_cons, List.map_nil, Option.map_some, hia, hld, List.append_assoc, hhf]
      refine ⟨by have := hp v hmem; rw [List.append_assoc] at this; exact this, ?_⟩
      cases hpv : p v with
      | true =>
        refine .cond (t := true) rfl (.seq (.region [] (by decide) ?_))
        simp only [EOps, gdA, callOf, isPanic, nextOf, altA, evalOp, St.ev, Av.get, St.put, thenQ, Nat.reduceEqDiff, ↓reduceIte]
        refine .ret ?_
        rw [if_pos hpv] at hall
        rw [← hall]
        exact ⟨_, rfl, _, rfl, .refl _⟩
      | false =>
        refine .cond (t := false) rfl (.skip ?_)
        refine ⟨rfl, ?_, rfl, rfl⟩
        simp [holdsT, Av.get]
    · intro hgood
      rw [hgood] at hall
      simp only [Bool.false_eq_true, if_false] at hall
      refine .region [] (by decide) ?_
      have hadd : evBin Tryz.prog .add 3 (.int .i64 (i : Int)) (.int .i64 1) = some (.int .i64 ((i + 1 : Nat) : Int)) := by
        rw [b_add64 _ _ (by simp only [maxLen'] at hb; omega)]; simp
      simp only [EOps, gdA, callOf, isPanic, nextOf, altA, evalOp, St.ev, Av.get, St.put, ofV, thenQ, ↓reduceIte, hadd]
      refine ⟨i + 1, ⟨by omega, hall⟩, by omega, ?_, trivial, trivial⟩
      simp [holdsT, Av.get]
  · have hi' : i = es.length := by omega
    subst hi'
    refine .seq (.cond (t := false) (by simp [St.ev, Av.get]) (.exit ?_))
    simp only [thenQ, ↓reduceIte, blockQ]
    refine .seq (.region [] (by decide) ?_)
    have ht : fI p 0 es = -1 := by rw [← hall, List.drop_length]; rfl
    rw [ht]
    simp only [EOps, gdA, callOf, isPanic, nextOf, altA, evalOp, St.ev, St.put, ofV, thenQ]
    exact .ret ⟨_, rfl, _, rfl, .refl _⟩

theorem cfR (x : Bool) (es : List AV) (g : FuncId) (fs cs : List AV) (p : AV → Bool) (hs : ∀ v ∈ es, shp 3 v) (hh : AV.hfs es = true ∧ AV.hfs fs = true ∧ AV.hfs cs = true)
    (hp : ∀ v ∈ es, PureFn Tryz.prog g (fs ++ [v] ++ cs) (.ret (.bool (p v)))) : PureFn Tryz.prog 127 [.vsl 3 x es, .func (.func g) fs cs] (.ret (.bool (es.any p))) := by
  refine PureFn.of Tryz.func127 rfl (enters_call enters Tryz.func127 rfl) (by simp [Tryz.ntmps127]) ?_
  show W Tryz.prog 9 _ none _ _ _
  refine .seq (.region [] (by decide) ?_)
  simp only [EOps, gdA, callOf, isPanic, nextOf, altA, evalOp, St.ev, St.put, argT, ofV, thenQ]
  refine .seq (.region [.pure (.ret (.int .i64 (fI p 0 es)))] (by decide) ?_)
  obtain ⟨h1, h2, h3⟩ := hh
  simp only [EOps, gdA, callOf, isPanic, nextOf, altA, evalOp, St.ev, Av.get, St.put, ofV, thenQ, Nat.reduceEqDiff, ↓reduceIte, lend, AV.hfs, AV.hf, Bool.and_self, List.map_cons, List.map_nil, List.nil_append, List.append_nil, h1, h2, h3, b_geq, fI_any]
  refine ⟨idxR x es g fs cs p hs ⟨h1, h2, h3⟩ hp, ?_⟩
  exact .ret ⟨_, rfl, _, rfl, .refl _⟩

theorem cloR (v : AV) (hsh : shp 3 v) (g : FuncId) (fs cs : List AV) (p : Bool) (hv : AV.hf v = true) (h1 : AV.hfs fs = true) (h2 : AV.hfs cs = true) (hp : PureFn Tryz.prog g (fs ++ [v] ++ cs) (.ret (.bool p))) :
    PureFn Tryz.prog 128 [v, .vptr [.func (.func g) fs cs]] (.ret (.bool !p)) := by
  skip
  refine PureFn.of Tryz.func128 rfl (enters_call enters Tryz.func128 rfl) (by simp [Tryz.ntmps128]) ?_
  show W Tryz.prog 8 _ none _ _ _
  have hz : tsz Tryz.prog 119 = some 1 := by kernel_rfl
  have hg : tag Tryz.prog 119 = some false := by kernel_rfl
  have hld : ∀ H, evLoad Tryz.prog 119 (.vptr [.func (.func g) fs cs]) H = some (.func (.func g) fs cs) := by intro H; simp [evLoad, hz, hg, ldA]
  have hhf : AV.hfs (fs ++ ([v] ++ cs)) = true := by
    rw [hfs_all] at h1 h2 ⊢
    simp [List.all_append, h1, h2, hv]
  obtain ⟨l, rfl, hl'⟩ := hsh
  have hl : l.length = 2 := hl'
  have hz2 : tsz Tryz.prog 109 = some 2 := by kernel_rfl
  have hg2 : tag Tryz.prog 109 = some true := by kernel_rfl
  have hld2 : evLoad Tryz.prog 109 (.ptr 0 0) [.cells l false] = some (.agg l) := by
    simp [evLoad, hz2, hg2, ldA, hl]
    exact List.take_of_length_le (by rw [hl]; exact Nat.le_refl 2)
  refine .seq (.region [] (by decide) ?_)
  simp only [EOps, gdA, callOf, isPanic, nextOf, altA, evalOp, St.ev, Av.get, St.put, argT, ofV, thenQ, ↓reduceIte, List.nil_append, AV.told, AV.cells, List.length_nil]
  refine .seq (.region [.pure (.ret (.bool p))] (by decide) ?_)
  simp only [EOps, gdA, callOf, isPanic, nextOf, altA, evalOp, St.ev, Av.get, St.put, thenQ, Nat.reduceEqDiff, ↓reduceIte, lend, List.map_cons, List.map_nil, Option.map_some, hld, hld2, List.append_assoc, hhf, u_not]
  refine ⟨by rw [List.append_assoc] at hp; exact hp, ?_⟩
  exact .ret ⟨_, rfl, _, rfl, .refl _⟩

theorem each_R (x : Bool) (es : List AV) (g : FuncId) (fs cs : List AV) (p : AV → Bool) (hs : ∀ v ∈ es, shp 3 v) (hh : AV.hfs es = true ∧ AV.hfs fs = true ∧ AV.hfs cs = true)
    (hp : ∀ v ∈ es, PureFn Tryz.prog g (fs ++ [v] ++ cs) (.ret (.bool (p v)))) : PureFn Tryz.prog 104 [.vsl 3 x es, .func (.func g) fs cs] (.ret (.bool (es.all p))) := by
  obtain ⟨h0, h1, h2⟩ := hh
  refine PureFn.of Tryz.func104 rfl (enters_call enters Tryz.func104 rfl) (by simp [Tryz.ntmps104]) ?_
  show W Tryz.prog 9 _ none _ _ _
  refine .seq (.region [] (by decide) ?_)
  simp only [EOps, gdA, callOf, isPanic, nextOf, altA, evalOp, St.ev, Av.get, St.put, argT, ofV, thenQ, Nat.reduceEqDiff, ↓reduceIte, List.nil_append, AV.told, AV.cells, List.length_nil]
  have hl := lend_each (g := g) (fs := fs) (cs := cs) (es := es) (h := 128) (b := false) (x := x) (wd := 3) (o := es.any fun v => !p v) h0 h1 h2
  refine .seq (.region [.pure (.ret (.bool (es.any fun v => !p v)))] (by decide) ?_)
  simp only [EOps, gdA, callOf, isPanic, nextOf, altA, evalOp, St.ev, Av.get, St.put, thenQ, Nat.reduceEqDiff, ↓reduceIte, List.map_cons, List.map_nil, List.nil_append, List.append_nil, Option.map_some, hl, u_not]
  refine ⟨cfR x es 128 [] [.vptr [.func (.func g) fs cs]] (fun v => !p v) hs ⟨h0, rfl, by simp [AV.hfs, AV.hf, h1, h2]⟩ (fun v hv => cloR v (hs v hv) g fs cs (p v) ?_ h1 h2 (hp v hv)), ?_⟩
  · rw [hfs_all] at h0; exact List.all_eq_true.1 h0 v hv
  · refine .ret ⟨_, rfl, _, rfl, ?_⟩
    have : (!es.any fun v => !p v) = es.all p := by
      rw [List.any_eq_not_all_not]; simp
    rw [this]
    exact .refl _
end Go.Proofs.YtjlhemfmeboadaaGreatDoor
namespace Go.Proofs.YtjlhemfmeboadaaGreatDoor
set_option linter.unusedVariables false
set_option linter.unusedSimpArgs false
open Go Go.Av Go.RowKit

set_option maxRecDepth 100000 in
theorem part (t v:Bytes):PureFn Tryz.prog 102 [.agg [.str t,.str v]] (.ret (.bool (isName t && (small t == t) && decide ((v.length:Int) ≥ 1) && decide ((v.length:Int)≤200)))):=by
 refine PureFn.of Tryz.func102 rfl (enters_call enters Tryz.func102 rfl) (by simp [Tryz.ntmps102]) ?_
 show W Tryz.prog 26 _ none _ _ _
 refine .seq (.region [] (by decide) ?_)
 simp only [EOps,gdA,callOf,isPanic,nextOf,altA,evalOp,St.ev,Av.get,St.put,argT,ofV,thenQ,↓reduceIte,List.nil_append,AV.told,AV.cells,List.length_nil]
 have l0:evLoad Tryz.prog 9 (.ptr 0 0) [.cells [.str t,.str v] false] = some (.str t):=by simp [ld9,ldC]
 have l1:evLoad Tryz.prog 9 (.ptr 0 1) [.cells [.str t,.str v] false] = some (.str v):=by simp [ld9,ldC]
 have p1:=nameD t
 have p2:=smallD t
 generalize hb1:isName t = b1
 generalize hb2:(small t == t) = b2
 generalize hb3:decide ((v.length:Int) ≥ 1) = b3
 generalize hb4:decide ((v.length:Int)≤200) = b4
 rw [hb1] at p1
 cases b1 with
 | false=>
  refine .seq (.drawf [.pure (.ret (.bool false))] mixed (by kernel_rfl) (by kernel_rfl) (by kernel_rfl) ?_)
  simp only [EDf,gdA,callOf,isPanic,evalOp,St.ev,Av.get,St.put,ofV,thenQ,Nat.reduceEqDiff,↓reduceIte,lend,AV.hfs,AV.hf,Bool.and_self,List.map_cons,List.map_nil,List.nil_append,List.append_nil,List.getElem?_cons_zero,List.getElem?_cons_succ,List.getElem?_toArray,Option.map_some,Option.bind_some,beq_true,Bool.false_eq_true,pickA,fa109_0,l0,l1,Nat.add_zero]
  refine ⟨p1,?_⟩
  exact .ret ⟨_,rfl,_,rfl,.refl _⟩
 | true=>
  refine .seq (.drawf [.pure (.ret (.bool true)),.pure (.ret (.str (small t)))] mixed (by kernel_rfl) (by kernel_rfl) (by kernel_rfl) ?_)
  cases b2<;>cases b3<;>cases b4<;>simp only [EDf,deN,gdA,callOf,isPanic,evalOp,St.ev,Av.get,St.put,ofV,thenQ,Nat.reduceEqDiff,↓reduceIte,lend,AV.hfs,AV.hf,Bool.and_self,List.map_cons,List.map_nil,List.nil_append,List.append_nil,List.getElem?_cons_zero,List.getElem?_cons_succ,List.getElem?_toArray,Option.map_some,Option.bind_some,beq_true,Bool.false_eq_true,pickA,cond_true,fa109_0,fa109_1,Nat.add_zero,Nat.zero_add,l0,l1,s_eql,hb2,b_geq,b_leq,hb3,hb4,ls9]<;>exact ⟨p1,p2,.ret ⟨_,rfl,_,rfl,.refl _⟩⟩
def partB (t v:Bytes):Bool:=isName t && (small t == t) && decide ((v.length:Int) ≥ 1) && decide ((v.length:Int)≤200)
def encR (r:Bytes × Bytes):AV:=.agg [.str r.1,.str r.2]
def pA:AV→Bool
 | .agg [.str t,.str v]=>partB t v
 | _=>false
def checkB (d:List (Bytes × Bytes)):Bool:=!decide ((d.length:Int) > 16) && d.all fun r=>partB r.1 r.2
theorem encR_hfs (d:List (Bytes × Bytes)):AV.hfs (d.map encR) = true:=by
 rw [hfs_all,List.all_eq_true]; intro v hv; obtain ⟨r,_,rfl⟩:=List.mem_map.1 hv; rfl
theorem encR_hlts (m:Nat) (d:List (Bytes × Bytes)):AV.hlts m (d.map encR) = true:=by
 rw [hlts_all,List.all_eq_true]; intro v hv; obtain ⟨r,_,rfl⟩:=List.mem_map.1 hv; rfl
theorem encR_shp (d:List (Bytes × Bytes)):∀ v ∈ d.map encR,shp 3 v:=by
 intro v hv; obtain ⟨r,_,rfl⟩:=List.mem_map.1 hv; exact ⟨_,rfl,rfl⟩
theorem encR_all (d:List (Bytes × Bytes)):(d.map encR).all pA = d.all fun r=>partB r.1 r.2:=by
 rw [List.all_map]; rfl
theorem checkD (x:Bool) (d:List (Bytes × Bytes)):PureFn Tryz.prog 83 [.vsl 3 x (d.map encR)] (.ret (.int .i64 (if checkB d = true then 0 else 2))):=by
 refine PureFn.of Tryz.func83 rfl (enters_call enters Tryz.func83 rfl) (by simp [Tryz.ntmps83]) ?_
 show W Tryz.prog 13 _ none _ _ _
 refine .seq (.region [] (by decide) ?_)
 simp only [EOps,gdA,callOf,isPanic,nextOf,altA,evalOp,St.ev,St.put,argT,ofV,thenQ]
 refine .seq (.region [] (by decide) ?_)
 simp only [EOps,gdA,callOf,isPanic,nextOf,altA,evalOp,St.ev,St.put,thenQ]
 have hln:∀ H,evLen Tryz.prog 111 (.vsl 3 x (d.map encR)) H = some (.int .i64 d.length):=by intro H; simp [lv111]
 have hp:=each_R x (d.map encR) 102 [] [] pA (encR_shp d) ⟨encR_hfs d,rfl,rfl⟩ (by
  intro v hv; obtain ⟨r,_,rfl⟩:=List.mem_map.1 hv; exact part r.1 r.2)
 rw [encR_all] at hp
 have hh:=encR_hfs d
 have hc:checkB d = (!decide ((d.length:Int) > 16) && d.all fun r=>partB r.1 r.2):=rfl
 rw [hc]
 generalize h1:decide ((d.length:Int) > 16) = b1
 generalize h2:(d.all fun r=>partB r.1 r.2) = b2
 rw [h2] at hp
 cases b1 with
 | true=>
  refine .seq (.seq (.region [] (by decide) ?_))
  simp only [EOps,deN,gdA,callOf,isPanic,nextOf,altA,evalOp,St.ev,Av.get,St.put,ofV,thenQ,Nat.reduceEqDiff,↓reduceIte,List.getElem?_cons_zero,List.getElem?_cons_succ,List.getElem?_toArray,Option.map_some,Option.bind_some,beq_false,Bool.not_true,pickA,hln,b_gtr,h1]
  refine .cond (t:=true) rfl (.seq (.region [] (by decide) ?_))
  simp only [EOps,gdA,callOf,isPanic,nextOf,altA,evalOp,St.ev,St.put,ofV,thenQ]
  exact .ret ⟨_,rfl,_,rfl,.refl _⟩
 | false=>
  refine .seq (.seq (.region [.pure (.ret (.bool b2))] (by decide) ?_))
  simp only [EOps,deN,gdA,callOf,isPanic,nextOf,altA,evalOp,St.ev,Av.get,St.put,ofV,thenQ,Nat.reduceEqDiff,↓reduceIte,lend,AV.hfs,AV.hf,Bool.and_self,List.map_cons,List.map_nil,List.nil_append,List.append_nil,List.getElem?_cons_zero,List.getElem?_cons_succ,List.getElem?_toArray,Option.map_some,Option.bind_some,beq_false,Bool.not_false,pickA,cond_false,hln,b_gtr,h1,hh,u_not]
  refine ⟨hp,?_⟩
  cases b2 with
  | false=>
   refine .cond (t:=true) rfl (.seq (.region [] (by decide) ?_))
   simp only [EOps,gdA,callOf,isPanic,nextOf,altA,evalOp,St.ev,St.put,ofV,thenQ,Bool.not_false]
   exact .ret ⟨_,rfl,_,rfl,.refl _⟩
  | true=>
   refine .cond (t:=false) rfl (.skip ?_)
   simp only [thenQ,↓reduceIte,Bool.and_self,Bool.not_true]
   refine .seq (.region [] (by decide) ?_)
   simp only [EOps,gdA,callOf,isPanic,nextOf,altA,evalOp,St.ev,St.put,ofV,thenQ]
   exact .ret ⟨_,rfl,_,rfl,.refl _⟩
theorem bdR (t:Bytes):evBuild Tryz.prog 109 [(0,.str t),(1,.str [120])] = some (.agg [.str t,.str [120]]):=by kernel_rfl
theorem bsR (v:AV) (h:shp 3 v):evBuildSlice Tryz.prog 111 1 [(0,v)] = some (.vsl 3 true [v]):=by
 obtain ⟨l,rfl,hl'⟩:=h
 have hl:l.length = 2:=hl'
 simp [evBuildSlice,Tryz.underlying111,ap111,AV.cells,hl,AV.told,List.range']
def nameB (s:Bytes):Bool:=checkB [(small s,[120])]
theorem nameV (s:Bytes):PureFn Tryz.prog 59 [.str s] (.ret (.bool (nameB s))):=by
 refine PureFn.of Tryz.func59 rfl (enters_call enters Tryz.func59 rfl) (by simp [Tryz.ntmps59]) ?_
 show W Tryz.prog 9 _ none _ _ _
 refine .seq (.region [] (by decide) ?_)
 simp only [EOps,gdA,callOf,isPanic,nextOf,altA,evalOp,St.ev,St.put,argT,ofV,thenQ]
 have hp:=checkD true [(small s,[120])]
 have hs:=smallD s
 have hb:evBuildSlice Tryz.prog 111 1 [(0,.agg [.str (small s),.str [120]])] = some (.vsl 3 true [.agg [.str (small s),.str [120]]]):=bsR _ ⟨_,rfl,rfl⟩
 have hm:1≤maxLen':=by decide
 have hc:nameB s = checkB [(small s,[120])]:=rfl
 rw [hc]
 generalize checkB [(small s,[120])] = b at hp
 refine .seq (.region [.pure (.ret (.str (small s))),.pure (.ret (.int .i64 (if b = true then 0 else 2)))] (by decide) ?_)
 have x1:({ data:=#[120] }:ByteArray).size≤maxLen':=by decide
 have x2:AV.hf (.vsl 3 true [.agg [.str (small s),.str [120]]]) = true:=rfl
 have x3:(((if b = true then 0 else 2:Int)) == 0) = b:=by cases b<;>rfl
 simp only [EOps,gdA,callOf,isPanic,nextOf,altA,evalOp,St.ev,Av.get,St.put,ofV,thenQ,Nat.reduceEqDiff,↓reduceIte,lend,AV.hfs,AV.hf,Bool.and_self,List.map_cons,List.map_nil,List.nil_append,List.append_nil,Option.map_some,bdR,hb,b_eql,x1,x2,x3]
 exact ⟨hs,hp,.ret ⟨_,rfl,_,rfl,.refl _⟩⟩
/-! ### Bytes of values -/

def byP (x:UInt8):Bool:=decide ((x.toNat:Int) ≥ 32) && ((x.toNat:Int) != 34)
def byL (x:UInt8):Bool:=decide ((x.toNat:Int) ≥ 32) || ((x.toNat:Int) == 9)
def unb (p:UInt8→Bool):AV→Bool
 | .int .u8 x=>p x.toNat.toUInt8
 | _=>false
theorem unb_byte (p:UInt8→Bool) (x:UInt8):unb p (byteA x) = p x:=by simp [unb,byteA]
theorem unb_all (p:UInt8→Bool) (s:Bytes):(bytesA s).all (unb p) = s.all p:=by
 simp only [bytesA,List.all_map]; congr 1; funext x; exact unb_byte p x
theorem bytesA_hfs (s:Bytes):AV.hfs (bytesA s) = true:=by
 rw [hfs_all,List.all_eq_true]; intro v hv; obtain ⟨r,_,rfl⟩:=List.mem_map.1 hv; rfl
theorem bytesA_shp (s:Bytes):∀ v ∈ bytesA s,shp 0 v:=by
 intro v hv; obtain ⟨r,_,rfl⟩:=List.mem_map.1 hv; rfl
theorem paramC (x:UInt8):PureFn Tryz.prog 86 [byteA x] (.ret (.bool (byP x))):=by
 refine PureFn.of Tryz.func86 rfl (enters_call enters Tryz.func86 rfl) (by simp [Tryz.ntmps86]) ?_
 show W Tryz.prog 9 _ none _ _ _
 unfold byP byteA
 generalize h1:decide ((x.toNat:Int) ≥ 32) = b1
 generalize h2:((x.toNat:Int) != 34) = b2
 refine .seq (.region [] (by decide) ?_)
 simp only [EOps,gdA,callOf,isPanic,nextOf,altA,evalOp,St.ev,St.put,argT,ofV,thenQ]
 refine .seq (.region [] (by decide) ?_)
 cases b1<;>cases b2<;>simp only [EOps,gdA,callOf,isPanic,nextOf,altA,evalOp,St.ev,Av.get,St.put,ofV,thenQ,Nat.reduceEqDiff,↓reduceIte,Bool.and_self,List.getElem?_cons_zero,List.getElem?_cons_succ,List.getElem?_toArray,Option.bind_some,beq_true,Bool.false_eq_true,pickA,cond_true,b_geq,b_neq,h1,h2]<;>exact .ret ⟨_,rfl,_,rfl,.refl _⟩
theorem lineC (x:UInt8):PureFn Tryz.prog 63 [byteA x] (.ret (.bool (byL x))):=by
 refine PureFn.of Tryz.func63 rfl (enters_call enters Tryz.func63 rfl) (by simp [Tryz.ntmps63]) ?_
 show W Tryz.prog 9 _ none _ _ _
 unfold byL byteA
 generalize h1:decide ((x.toNat:Int) ≥ 32) = b1
 generalize h2:((x.toNat:Int) == 9) = b2
 refine .seq (.region [] (by decide) ?_)
 simp only [EOps,gdA,callOf,isPanic,nextOf,altA,evalOp,St.ev,St.put,argT,ofV,thenQ]
 refine .seq (.region [] (by decide) ?_)
 cases b1<;>cases b2<;>simp only [EOps,gdA,callOf,isPanic,nextOf,altA,evalOp,St.ev,Av.get,St.put,ofV,thenQ,Nat.reduceEqDiff,↓reduceIte,List.getElem?_cons_zero,List.getElem?_cons_succ,List.getElem?_toArray,Option.bind_some,beq_false,Bool.not_true,Bool.not_false,pickA,cond_false,b_geq,b_eql,h1,h2]<;>exact .ret ⟨_,rfl,_,rfl,.refl _⟩
def version (s:Bytes):Bool:=s == [51,46,48] || s == [52,46,48]
theorem versionV (s:Bytes):PureFn Tryz.prog 34 [.str s] (.ret (.bool (version s))):=by
 refine PureFn.of Tryz.func34 rfl (enters_call enters Tryz.func34 rfl) (by simp [Tryz.ntmps34]) ?_
 show W Tryz.prog 9 _ none _ _ _
 unfold version
 generalize h1:(s == [51,46,48]) = b1
 generalize h2:(s == [52,46,48]) = b2
 have x1:({ data:=#[51,46,48] }:ByteArray).size≤maxLen':=by decide
 have x2:({ data:=#[52,46,48] }:ByteArray).size≤maxLen':=by decide
 refine .seq (.region [] (by decide) ?_)
 simp only [EOps,gdA,callOf,isPanic,nextOf,altA,evalOp,St.ev,St.put,argT,ofV,thenQ]
 refine .seq (.region [] (by decide) ?_)
 cases b1<;>cases b2<;>simp only [EOps,gdA,callOf,isPanic,nextOf,altA,evalOp,St.ev,Av.get,St.put,ofV,thenQ,Nat.reduceEqDiff,↓reduceIte,List.getElem?_cons_zero,List.getElem?_cons_succ,List.getElem?_toArray,Option.bind_some,beq_false,Bool.not_true,Bool.not_false,pickA,cond_false,s_eql,x1,x2,h1,h2]<;>exact .ret ⟨_,rfl,_,rfl,.refl _⟩
theorem eachP_ (s:Bytes):PureFn Tryz.prog 62 [.vsl 0 false (bytesA s),.func (.func 86) [] []] (.ret (.bool (s.all byP))):=by
 have:=each_B false (bytesA s) 86 [] [] (unb byP) (bytesA_shp s) ⟨bytesA_hfs s,rfl,rfl⟩ (by
  intro v hv; obtain ⟨r,_,rfl⟩:=List.mem_map.1 hv; rw [unb_byte]; exact paramC r)
 rwa [unb_all] at this
theorem eachL_ (s:Bytes):PureFn Tryz.prog 62 [.vsl 0 false (bytesA s),.func (.func 63) [] []] (.ret (.bool (s.all byL))):=by
 have:=each_B false (bytesA s) 63 [] [] (unb byL) (bytesA_shp s) ⟨bytesA_hfs s,rfl,rfl⟩ (by
  intro v hv; obtain ⟨r,_,rfl⟩:=List.mem_map.1 hv; rw [unb_byte]; exact lineC r)
 rwa [unb_all] at this
theorem fz_bytes {H:List OB} {i:Nat} {s:Bytes} {b:Bool} (h:H[i]? = some (.cells (bytesA s) b)) (k:Nat):fz H (k + 1) (.sl i 0 s.length 0) = some (.vsl 0 false (bytesA s)):=by
 have hl:(bytesA s).length = s.length:=bytesA_len s
 have h1:(bytesA s).all AV.one = true:=by rw [List.all_eq_true]; intro v hv; exact bytesA_shp s v hv
 have h2:((bytesA s).drop 0).take (s.length * esz 0) = bytesA s:=by rw [List.drop_zero]; exact List.take_of_length_le (by simp [esz,hl])
 unfold fz
 rw [if_neg (by simp [AV.hf])]
 simp only [h,h2,bytesA_hfs,h1,if_true,Option.bind_some]
 rw [if_pos (by simp [esz,hl])]
theorem lend_bytes {H : List OB} {i : Nat} {s : Bytes} {b o : Bool} {g : Nat} (h : H[i]? = some (.cells (bytesA s) b)) :
    lend H [.sl i 0 s.length 0, .func (.func g) [] []] (.ret (.bool o)) = some [.vsl 0 false (bytesA s), .func (.func g) [] []] := by
  unfold lend
  rw [if_neg (by simp [AV.hfs, AV.hf]), if_pos (show (Out.ret (AV.bool o)).scalar = true from rfl)]
  have h2 : fz H 20 (.func (.func g) [] []) = some (.func (.func g) [] []) := by unfold fz; rw [if_pos (by simp [AV.hf, AV.hfs])]
  simp only [List.mapM_cons, List.mapM_nil, fz_bytes h, h2]
  rfl

def paramB (p:Bytes × Bytes):Bool:=nameB p.1 && decide ((p.2.length:Int)≤100) && p.2.all byP
theorem paramV (p:Bytes × Bytes):PureFn Tryz.prog 61 [encR p] (.ret (.bool (paramB p))):=by
 refine PureFn.of Tryz.func61 rfl (enters_call enters Tryz.func61 rfl) (by simp [Tryz.ntmps61]) ?_
 show W Tryz.prog 18 _ none _ _ _
 unfold paramB encR
 obtain ⟨n,v⟩:=p
 have p1:=nameV n
 have p2:=eachP_ v
 generalize nameB n = b1 at p1
 generalize h2:decide ((v.length:Int)≤100) = b2
 generalize v.all byP = b3 at p2
 refine .seq (.region [] (by decide) ?_)
 simp only [EOps,gdA,callOf,isPanic,nextOf,altA,evalOp,St.ev,Av.get,St.put,argT,ofV,thenQ,↓reduceIte,List.nil_append,AV.cells,List.length_nil,AV.told]
 have l0:∀ H,evLoad Tryz.prog 9 (.ptr 0 0) (.cells [.str n,.str v] false::H) = some (.str n):=by intro H; simp [ld9,ldC]
 have l1:∀ H,evLoad Tryz.prog 9 (.ptr 0 1) (.cells [.str n,.str v] false::H) = some (.str v):=by intro H; simp [ld9,ldC]
 have cv:∀ b,evConv Tryz.prog 9 42 (.str v) [.cells [.str n,.str v] b] = some (.sl 1 0 v.length 0,[.cells [.str n,.str v] b,.cells (bytesA v) true]):=by
  intro b; simp [evConv,Tryz.underlying9,Tryz.underlying42,Tryz.underlying5]
 cases b1 with
 | false=>
  refine .seq (.region [.pure (.ret (.bool false))] (by decide) ?_)
  simp only [EOps,gdA,callOf,isPanic,nextOf,altA,evalOp,St.ev,Av.get,St.put,ofV,thenQ,Nat.reduceEqDiff,↓reduceIte,lend,AV.hfs,AV.hf,Bool.and_self,List.map_cons,List.map_nil,List.nil_append,List.append_nil,List.getElem?_cons_zero,List.getElem?_cons_succ,List.getElem?_toArray,Option.map_some,Option.bind_some,beq_true,Bool.false_eq_true,pickA,fa54_0,Nat.add_zero,l0]
  exact ⟨p1,.ret ⟨_,rfl,_,rfl,.refl _⟩⟩
 | true=>
  cases b2 with
  | false=>
   refine .seq (.region [.pure (.ret (.bool true))] (by decide) ?_)
   simp only [EOps,deN,gdA,callOf,isPanic,nextOf,altA,evalOp,St.ev,Av.get,St.put,ofV,thenQ,Nat.reduceEqDiff,↓reduceIte,lend,AV.hfs,AV.hf,Bool.and_self,List.map_cons,List.map_nil,List.nil_append,List.append_nil,List.getElem?_cons_zero,List.getElem?_cons_succ,List.getElem?_toArray,Option.map_some,Option.bind_some,beq_true,Bool.false_eq_true,pickA,cond_true,fa54_0,fa54_1,Nat.add_zero,Nat.zero_add,l0,l1,ls9,b_leq,h2]
   exact ⟨p1,.ret ⟨_,rfl,_,rfl,.refl _⟩⟩
  | true=>
   refine .seq (.region [.pure (.ret (.bool true)),.pure (.ret (.bool b3))] (by decide) ?_)
   have hl:lend [.cells [.str n,.str v] false,.cells (bytesA v) true] [.sl 1 0 v.length 0,.func (.func 86) [] []] (.ret (.bool b3)) = some [.vsl 0 false (bytesA v),.func (.func 86) [] []]:=lend_bytes rfl
   simp only [EOps,deN,gdA,callOf,isPanic,nextOf,altA,evalOp,St.ev,Av.get,St.put,ofV,thenQ,Nat.reduceEqDiff,↓reduceIte,Bool.and_self,List.map_cons,List.map_nil,List.nil_append,List.append_nil,List.getElem?_cons_zero,List.getElem?_cons_succ,List.getElem?_toArray,Option.map_some,Option.bind_some,beq_true,pickA,cond_true,fa54_0,fa54_1,Nat.add_zero,Nat.zero_add,l0,l1,ls9,b_leq,h2,cv,hl]
   exact ⟨p1,p2,.ret ⟨_,rfl,_,rfl,.refl _⟩⟩
end Go.Proofs.YtjlhemfmeboadaaGreatDoor
