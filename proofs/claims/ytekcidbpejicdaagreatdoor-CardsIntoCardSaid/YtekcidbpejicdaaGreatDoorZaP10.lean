/- Contracts of functions that the statements of this seat reach: under the conditions named at each theorem. -/
import Derived.Test.YtekcidbpejicdaaGreatDoorZaP8
import Derived.Test.YtekcidbpejicdaaGreatDoorZaP5
import Derived.Test.YtekcidbpejicdaaGreatDoorZaP9
import Derived.Lib.Bytealg
import Derived.Test.YtekcidbpejicdaaGreatDoorZaP6
import Derived.Lib.TrimUEq
import Derived.Shelf.Strings.Builder1
import Derived.Shelf.Strings.Builder2
import Derived.Shelf.Strings.OnBuilder
import Derived.Shelf.Small.Utf8
import Derived.Shelf.Small.Strs
import Derived.Shelf.Strings.Search1
import Derived.Shelf.Strings.Search2
import Derived.Shelf.Strings.Search3
import Derived.Shelf.Strings.Cut
import Derived.Shelf.Strings.Count
import Derived.Shelf.LaysM
import Derived.Shelf.Strings.Shaped
import Derived.Shelf.Sort.Plain
import Derived.Shelf.Strings.Split
import Derived.Shelf.Unicode.Latin
import Derived.Shelf.Strings.Runes
import Derived.Shelf.Strings.IndexAny
import Derived.Shelf.Strings.AsciiSet
import Derived.Shelf.Strings.IndexAnyAll
import Derived.Shelf.Unicode.DecodeSlow
import Derived.Shelf.Unicode.CaseLookup
import Derived.Shelf.Unicode.CaseConvert
import Derived.Shelf.Unicode.CaseTo
import Derived.Shelf.Unicode.CaseLaid
import Derived.Test.YtekcidbpejicdaaGreatDoorProg
namespace Go.Proofs.YtekcidbpejicdaaGreatDoor
set_option linter.unusedVariables false
set_option linter.unusedSimpArgs false
open Go Go.Av
def LQ:List Bytes:=[[13,10,32],[],[13,10,9],[],[10,32],[],[10,9],[]]
def obR:OB:=.cells [.int .u32 0,.int .i32 1,.int .u32 0,.nilif,.sl 0 0 8 0] false
def m1(k:Nat):Nat:=if k=9∨k=10∨k=13∨k=32 then 1 else 0
def s1(k:Nat):Nat:=(if 9<k then 1 else 0)+(if 10<k then 1 else 0)+(if 13<k then 1 else 0)+(if 32<k then 1 else 0)
def m2(k:Nat):Nat:=if m1 k=0 then 4 else s1 k
def K4(f:Nat→Nat):List AV:=(List.range 256).map fun k=>.int .u8 ((f k:Nat):Int)
def r6(t:AV)(n:Nat):List AV:=[.str [],.int .i64 0,.str [],.nilptr,t,.int .i64 n]
theorem K5(t a:Nat)(h:a<9223372036854775807):aW Tryz.prog .add t (.int .i64 (a:Int)) (.int .i64 1)=some (.int .i64 ((a+1:Nat):Int)):=by
 rw[du _ _ (by omega)];simp
def mm(i k:Nat):Nat:=if k<i then m2 k else m1 k
theorem GQ(x:Bool)(l:List Bytes)(h2:l.length%2=0)(hl:0<l.length∧l.length≤1000):
    bF Tryz.prog 106 [.vsl 0 x (l.map .str)] [] (.ret (.ptr 1 0)) [.cells (l.map .str) true,.cells [.int .u32 0,.int .i32 0,.int .u32 0,.nilif,.sl 0 0 l.length 0] false]:=by
  refine bF.ofX Tryz.func106 rfl (ab enters Tryz.func106 rfl) (by simp[Tryz.ntmps106]) ?_;show W Tryz.prog 12 0 none _ _ _;have hap:aG Tryz.prog 25 25 (.vsl 0 true []) (.vsl 0 x (l.map .str)) []=some (.sl 0 0 l.length 0,[.cells (l.map .str) true]):=by
    have h0: ¬l.length=0:=by omega
    simp only[aG,apX,Tryz.underlying25,ik,ch,bW,esz,↓reduceIte,List.length_map,h0,List.length_nil,Nat.zero_add,dT,List.flatMap_nil,List.nil_append];rw[if_pos (by omega)]
  have hb:cB Tryz.prog 177 [(2,.sl 0 0 l.length 0)]=some (.agg [.int .u32 0,.int .i32 0,.int .u32 0,.nilif,.sl 0 0 l.length 0]):=by kernel_rfl
  have hr:aW Tryz.prog .rem 3 (.int .i64 (l.length:Int)) (.int .i64 2)=some (.int .i64 0):=by
    have:((l.length:Int)).tmod 2=0:=by rw[Int.tmod_eq_emod_of_nonneg (by omega)];omega
    simp[aW,this]
  refine .seq (.region [] (by decide) ?_);simp only[ao,gdA,ae,ad,ai,au,evalOp,St.ev,St.put,bn,ofV,ak];refine .seq (.seq (.region [] (by decide) ?_));simp only[ao,deN,gdA,ae,ad,ai,au,evalOp,St.ev,Av.get,St.put,ofV,ak,Nat.reduceEqDiff,↓reduceIte,Option.map_some,Ga,List.length_map,hr,jf];refine .cond (t:=false) rfl (.skip ?_);simp only[ak];refine .seq (.region [] (by decide) ?_)
  simp only[ao,deN,gdA,ae,ad,ai,au,evalOp,St.ev,Av.get,St.put,ofV,ak,Nat.reduceEqDiff,↓reduceIte,List.map_cons,List.map_nil,List.nil_append,Option.map_some,AV.cells,List.length_cons,List.length_nil,and_self,Nat.zero_add,List.cons_append,hap,hb,AV.told];exact .ret ⟨_,rfl,rfl,_,rfl,rfl⟩
/-! ### The tree -/
def xQ(p:Int):AV:=.vptr [.str [],.int .i64 p,.str [],.nilptr,.nilsl]
def n6:AV:=.vptr [.str [],.int .i64 0,.str [],.nilptr,.vsl 0 false [xQ 6,.nilptr,.nilptr,xQ 8]]
def n4:AV:=.vptr [.str [],.int .i64 0,.str [10],n6,.nilsl]
def n9:AV:=.vptr [.str [],.int .i64 0,.str [],.nilptr,.vsl 0 false [xQ 2,.nilptr,.nilptr,xQ 4]]
def I8:List AV:=r6 (.vsl 0 false [.nilptr,n9,n4,.nilptr]) 4++K4 m2
def tree:AV:=.vptr I8
theorem ne1(t:TypeId)(l c:Nat)(hk:cx Tryz.prog t=1):iM Tryz.prog .neq t .nilsl (.const (.slice none l c))=some (.bool false):=by simp[iM,hk]
theorem ne2(t:TypeId)(x w:AV)(o:BinOp):aW Tryz.prog o t .nilsl w=none:=by cases o<;>rfl
theorem ne3(t:TypeId)(o:BinOp)(w:AV):fE Tryz.prog o t .nilsl w=none:=by cases o<;>simp[fE]
def lk:Bytes→Nat
 |13::10::x::_=>if x=9∨x=32 then 3 else 0
 |10::x::_=>if x=9∨x=32 then 2 else 0
 |_=>0
/-! ### The writer -/
def eE(k:Nat):List AV:=List.replicate k (.int .u8 0)
theorem qV(xs ys zs:List AV)(h:zs.length≤ys.length):cm (xs++ys) xs.length zs=xs++zs++ys.drop zs.length:=by
 apply List.ext_getElem?;intro i;rw[ot _ _ _ (by simp;omega)];split
 ·rename_i h1
  rw[List.append_assoc,List.getElem?_append_right h1.1,List.getElem?_append_left (by omega)]
 ·rename_i h1
  rcases Nat.lt_or_ge i xs.length with h2|h2
  ·rw[List.getElem?_append_left h2,List.append_assoc,List.getElem?_append_left h2]
  ·rw[List.getElem?_append_right h2,List.append_assoc,List.getElem?_append_right h2,List.getElem?_append_right (by omega),List.getElem?_drop]
   congr 1;omega
/-! ### A text whose folds are let go -/
def Bh:Nat→Bytes→Bytes
 |0,_=>[]
 |_+1,[]=>[]
 |n+1,b::t=>if lk (b::t)=0 then b::Bh n t else Bh n ((b::t).drop (lk (b::t)))
def unf(s:Bytes):Bytes:=Bh s.length s
theorem xS:unf []=[]:=rfl
theorem zn(b:UInt8)(t:Bytes)(h:lk (b::t)=0):unf (b::t)=b::unf t:=by
 show Bh (t.length+1) (b::t)=_;simp only[Bh,h,if_true];rfl
structure wrI (s:Bytes) (i last:Nat) (out:Bytes):Prop where
 li:last≤i
 ln:last≤s.length
 le:i≤s.length+1
 eq:out++((s.drop last).take (i - last)++unf (s.drop i))=unf s
theorem wrI.next{s:Bytes}{i last:Nat}{out:Bytes}(h:wrI s i last out)(hi:i≤s.length)(hk:lk (s.drop i)=0):wrI s (i+1) last out:=by
 have hli:=h.li;refine⟨by omega,h.ln,by omega,?_⟩;rw[←h.eq];congr 1;rcases Nat.lt_or_ge i s.length with h1|h1
 ·have hd:s.drop i=s[i]::s.drop (i+1):=by rw[List.drop_eq_getElem_cons h1]
  rw[hd]at hk;rw[hd,zn _ _ hk,show i+1 - last=(i - last)+1 by omega,List.take_add_one];have hg:(s.drop last)[i - last]? =some s[i]:=by rw[List.getElem?_drop,show last+(i - last)=i by omega];exact List.getElem?_eq_getElem h1
  rw[hg];simp
 ·have:i=s.length:=by omega
  subst this;have e1:s.drop s.length=[]:=List.drop_eq_nil_of_le (Nat.le_refl _);have e2:s.drop (s.length+1)=[]:=List.drop_eq_nil_of_le (by omega);rw[e1,e2,xS];simp only[List.append_nil];rw[List.take_of_length_le (by simp;omega),List.take_of_length_le (by simp)]
theorem wrI.last{s:Bytes}{last:Nat}{out:Bytes}(h:wrI s (s.length+1) last out):out++s.drop last=unf s:=by
 have:=h.eq;have e2:s.drop (s.length+1)=[]:=List.drop_eq_nil_of_le (by omega);rw[e2,xS,List.append_nil,List.take_of_length_le (by simp;omega)]at this;exact this
theorem I9(j:Nat)(nd:AV)(H:List OB)(h:([.nilptr,n9,n4,.nilptr]:List AV)[j]? =some nd)(ho:nd.cells=[nd]):ah Tryz.prog 257 (.vsl 0 false [.nilptr,n9,n4,.nilptr]) (.int .i64 (j:Int)) H=some (.vptr [nd]):=by
 have:=oV (P:=Tryz.prog) (t:=257) Tryz.underlying257 IZ 0 false [.nilptr,n9,n4,.nilptr] .i64 (j:Int) H (v:=nd) ⟨by omega,by simpa using h⟩ (by rw[ho];rfl);rw[ho]at this;exact this
def K6:AV:=.vsl 0 false [.nilptr,n9,n4,.nilptr]
theorem tI(j:Nat)(nd:AV)(H:List OB)(h:([.nilptr,n9,n4,.nilptr]:List AV)[j]? =some nd)(ho:nd.cells=[nd]):ah Tryz.prog 257 K6 (.int .i64 (j:Int)) H=some (.vptr [nd]):=I9 j nd H h ho
def obS:OB:=.cells [.int .u32 0,.int .i32 0,.int .u32 0,.nilif,.sl 0 0 8 0] false
open Go Go.Av Go.RowKit
/-! ### Where a byte stands -/
def ixB(s:Bytes)(c:UInt8):Int:=Lib.indexByte s c
theorem pc:∀(s:Bytes) (c:UInt8),(ixB s c= -1∧c∉s)∨∃i,ixB s c=((i:Nat):Int)∧s[i]? =some c∧c∉s.take i
 | [],c=>.inl ⟨rfl,by simp⟩
 | b::t,c=>by
  have ih:=pc t c;unfold ixB at ih ⊢;unfold Lib.indexByte;by_cases hb:b=c
  ·subst hb;exact .inr ⟨0,by simp,rfl,by simp⟩
  ·rw[if_neg (by simpa using hb)]
   rcases ih with⟨h1,h2⟩|⟨i,h1,h2,h3⟩
   ·rw[h1]
    exact .inl ⟨by simp,by simp[h2,Ne.symm hb]⟩
   ·rw[h1,if_neg (by simp;try omega)]
    refine .inr ⟨i+1,by simp,by simpa using h2,?_⟩;simp[h3,Ne.symm hb]
theorem Bi(s:Bytes)(c:UInt8):aa Tryz.prog 239 [.str s,bp c] (.ret (.int .i64 (ixB s c))):=by
 intro F w Vs hlt hv;cases hv with
 |cons _ _ _ _ h1 h2=>
 cases h2 with
 |cons _ _ _ _ h3 h4=>
 cases h4;cases h1;cases h3;refine .inr ⟨.int .i64 (ixB s c),w,?_,Below.refl _ _,F,fun _ _ h=>h,hlt,fun _ _ _ h=>h,.ret _ _ (.int _ _)⟩;show(callFunc _ #[.string ⟨s.toArray⟩,.int .u8 (c.toNat:Int)]).run _ _=_;rw[run_callFunc_extern Tryz.func239 (by kernel_rfl) (by kernel_rfl) (by kernel_rfl) (e:=Extern.BytealgIndexByte.indexByte) (by kernel_rfl),Lib.run_indexByteString];have:((c.toNat:Int)).toNat.toUInt8=c:=by simp
 rw[this];rfl
theorem Bj(s:Bytes)(c:UInt8):aa Tryz.prog 224 [.str s,bp c] (.ret (.int .i64 (ixB s c))):=by
 refine aa.of Tryz.func224 rfl (ab enters Tryz.func224 rfl) (by simp[Tryz.ntmps224]) ?_;show W Tryz.prog 8 0 none _ _ _;refine .seq (.region [] (by decide) ?_);simp only[ao,gdA,ae,ad,ai,au,evalOp,St.ev,St.put,bn,ofV,ak,Nat.zero_add];refine .seq (.region [.pure (.ret (.int .i64 (ixB s c)))] (by decide) ?_);simp only[ao,gdA,ae,ad,ai,au,evalOp,St.ev,Av.get,St.put,ak,Nat.reduceEqDiff,↓reduceIte,aX,AV.hfs,AV.hf,Bool.and_self,List.map_cons,List.map_nil,List.nil_append,List.append_nil,and_self,bp];exact⟨Bi s c,.ret ⟨_,rfl,_,rfl,.refl _⟩⟩
theorem uq(s:Bytes)(c:UInt8):aa Tryz.prog 208 [.str s,bp c] (.ret (.int .i64 (ixB s c))):=by
 refine aa.of Tryz.func208 rfl (ab enters Tryz.func208 rfl) (by simp[Tryz.ntmps208]) ?_;show W Tryz.prog 8 0 none _ _ _;refine .seq (.region [] (by decide) ?_);simp only[ao,gdA,ae,ad,ai,au,evalOp,St.ev,St.put,bn,ofV,ak,Nat.zero_add];refine .seq (.region [.pure (.ret (.int .i64 (ixB s c)))] (by decide) ?_);simp only[ao,gdA,ae,ad,ai,au,evalOp,St.ev,Av.get,St.put,ak,Nat.reduceEqDiff,↓reduceIte,aX,AV.hfs,AV.hf,Bool.and_self,List.map_cons,List.map_nil,List.nil_append,List.append_nil,and_self,bp];exact⟨Bj s c,.ret ⟨_,rfl,_,rfl,.refl _⟩⟩
theorem K7(t a b:Nat)(hb:b≤a)(h:a<9223372036854775807):aW Tryz.prog .sub t (.int .i64 (a:Int)) (.int .i64 (b:Int))=some (.int .i64 ((a - b:Nat):Int)):=by
 rw[xy _ _ (by omega)];congr 2;omega
def low(x:UInt8):UInt8:=if 65≤x∧x≤90 then x+32 else x
def small(s:Bytes):Bytes:=s.map low
theorem cvB(s:Bytes):cc Tryz.prog 9 108 (.str s) []=some (.sl 0 0 s.length 0,[.cells (aA s) true]):=by
 simp[cc,Tryz.underlying9,Tryz.underlying108,Tryz.underlying5]
theorem lnB(n:Nat)(H:List OB):aI Tryz.prog 108 (.sl 0 0 n 0) H=some (.int .i64 n):=by
 simp[aI,Tryz.underlying108]
theorem iaB(n i:Nat)(hi:i<n)(H:List OB):ah Tryz.prog 108 (.sl 0 0 n 0) (.int .i64 i) H=some (.ptr 0 i):=by
 simp[ah,bL,Tryz.underlying108,tz5,hi]
theorem mU (s : Bytes) : aa Tryz.prog 69 [.str s] (.ret (.str (small s))):=by
  refine aa.fit fun hfit=> ?_;have hb:s.length≤ay:=hfit (.str s) (by simp);refine aa.of Tryz.func69 rfl (ab enters Tryz.func69 rfl) (by simp[Tryz.ntmps69]) ?_;show W Tryz.prog 30 _ none _ _ _;refine .seq (.region [] (by decide) ?_);simp only[ao,gdA,ae,ad,ai,au,evalOp,St.ev,St.put,bn,ofV,ak];refine .seq (.region [] (by decide) ?_);simp only[ao,gdA,ae,ad,ai,au,evalOp,St.ev,Av.get,St.put,ak,Nat.reduceEqDiff,↓reduceIte,cvB];refine .seq (.seq (.region [] (by decide) ?_));simp only[ao,deN,gdA,ae,ad,ai,au,evalOp,St.ev,Av.get,St.put,ofV,ak,↓reduceIte,Option.map_some,lnB];refine .block ?_
  refine .bh (X:=Nat) (fun i=>[(10,.int .i64 (i:Int)),(9,.int .i64 s.length),(8,.sl 0 0 s.length 0),(3,.sl 0 0 s.length 0)]) (fun i=>[.cells (aA (fG low i s)) true]) (fun i=>i≤s.length) (fun i=>s.length - i) 0 (Nat.zero_le _)
    (by simp[aB,Av.get]) rfl ?_
  intro i hi;refine .seq (.region [] (by decide) ?_);simp only[ao,gdA,ae,ad,ai,au,evalOp,St.ev,Av.get,St.put,ak,Nat.reduceEqDiff,↓reduceIte,cr];by_cases h:i<s.length
  · have hx : s[i]? = some s[i] :=List.getElem?_eq_getElem h
    obtain⟨x,hxx⟩: ∃x,s[i]=x:=⟨_,rfl⟩
    rw[hxx]at hx;have hcell:(aA (fG low i s))[i]? =some (bp x):=oQ (by rw[lI];exact hx);have hld:al Tryz.prog 5 (.ptr 0 i) [.cells (aA (fG low i s)) true]=some (bp x):=by
      simp[al,tz5,tg5,ldA,hcell]
    refine .seq (.cond (t:=true) (by simp[St.ev,Av.get];omega) (.skip ?_));simp only[ak];refine .seq (.block (.seq (.region [] (by decide) ?_)));simp only[ao,gdA,ae,ad,ai,au,evalOp,St.ev,Av.get,St.put,ak,Nat.reduceEqDiff,↓reduceIte,Option.map_some,iaB _ _ h,hld];refine .seq (.region [] (by decide) ?_)
    have next : ∀ (T : List (Nat×AV)) (b':Bytes),b'=fG low (i+1) s→aB T [(10,.int .i64 (i:Int)),(9,.int .i64 s.length),(8,.sl 0 0 s.length 0),(3,.sl 0 0 s.length 0)]→ ∀(c:Code) (Q:Ex→St→Prop),
        c=Code.region 7
                            #[{ dst:=some 27,
                                op:=Op.binOp BinOp.add 3 (Operand.tmp 10) (Operand.const (Value.int IntKind.i64 1)) 3,
                                type:=3,pos:= "dn.go:32",after:= #[],guard:=none},
                              { dst:=some 10,op:=Op.move (Operand.tmp 27),type:=3,pos:= "dn.go:32",
                                after:= #[{on:=0,ground:=Ground.data}],guard:=none}]
                            false→
        W Tryz.prog 30 0 none c (ak (fun a'=> ∃y,y≤s.length∧s.length - y<s.length - i∧aB a'.T [(10,.int .i64 (y:Int)),(9,.int .i64 s.length),(8,.sl 0 0 s.length 0),(3,.sl 0 0 s.length 0)]∧a'.H=[.cells (aA (fG low y s)) true]∧a'.D=[]) Q) ⟨T,[.cells (aA b') true],[]⟩:=by
      rintro T b' rfl ⟨t10,t9,t8,t3,_⟩ c Q rfl;refine .region [] (by decide) ?_;have hadd:aW Tryz.prog .add 3 (.int .i64 (i:Int)) (.int .i64 1)=some (.int .i64 ((i+1:Nat):Int)):=by
        rw[du _ _ (by simp only[ay]at hb;omega)];simp
      simp only[ao,gdA,ae,ad,ai,au,evalOp,St.ev,Av.get,St.put,ofV,ak,↓reduceIte,t10,hadd];refine⟨i+1,by omega,by omega,⟨?_,?_,?_,?_,trivial⟩,rfl,trivial⟩<;>simp[Av.get,t9,t8,t3]
    rcases Nat.lt_or_ge x.toNat 65 with hlo|hlo
    · have h1: ¬((x.toNat:Int)≥65):=by omega
      simp only[ao,gdA,ae,ad,ai,au,evalOp,St.ev,Av.get,St.put,ofV,ak,Nat.reduceEqDiff,↓reduceIte,List.getElem?_cons_zero,List.getElem?_cons_succ,List.getElem?_toArray,Option.bind_some,decide_false,beq_true,Bool.false_eq_true,bB,ed,h1,bp];refine .cond (t:=false) rfl (.skip ?_);simp only[ak,bl];refine next _ _ ?_ ?_ _ _ rfl
      · rw[←lJ low i s x hx]
        have:low x=x:=by
          unfold low;rw[if_neg];rintro⟨h1,_⟩;have:=UInt8.le_iff_toNat_le.1 h1;simp at this;omega
        rw[this,tY (by rw[lI];exact hx)]
      · simp[aB,Av.get]
    · rcases Nat.lt_or_ge 90 x.toNat with hhi|hhi
      · have h1:((x.toNat:Int)≥65):=by omega
        have h2: ¬((x.toNat:Int)≤90):=by omega
        simp only[ao,gdA,ae,ad,ai,au,evalOp,St.ev,Av.get,St.put,ofV,ak,Nat.reduceEqDiff,↓reduceIte,List.getElem?_cons_zero,List.getElem?_cons_succ,List.getElem?_toArray,Option.bind_some,decide_true,decide_false,beq_true,bB,cond_true,ed,gy,h1,h2,bp];refine .cond (t:=false) rfl (.skip ?_);simp only[ak,bl];refine next _ _ ?_ ?_ _ _ rfl
        · rw[←lJ low i s x hx]
          have:low x=x:=by
            unfold low;rw[if_neg];rintro⟨_,h1⟩;have:=UInt8.le_iff_toNat_le.1 h1;simp at this;omega
          rw[this,tY (by rw[lI];exact hx)]
        · simp[aB,Av.get]
      · have h1:((x.toNat:Int)≥65):=by omega
        have h2:((x.toNat:Int)≤90):=by omega
        simp only[ao,gdA,ae,ad,ai,au,evalOp,St.ev,Av.get,St.put,ofV,ak,Nat.reduceEqDiff,↓reduceIte,List.getElem?_cons_zero,List.getElem?_cons_succ,List.getElem?_toArray,Option.bind_some,decide_true,beq_true,bB,cond_true,ed,gy,h1,h2,bp];refine .cond (t:=true) rfl ?_;refine .region [] (by decide) ?_;have ha:aW Tryz.prog .add 5 (.int .u8 (x.toNat:Int)) (.int .u8 97)=some (.int .u8 ((x.toNat:Int)+97)):=by
          simp[aW,IntKind.wrap,IntKind.bits,IntKind.signed];omega
        have hs:aW Tryz.prog .sub 5 (.int .u8 ((x.toNat:Int)+97)) (.int .u8 65)=some (bp (low x)):=by
          have hl:(low x).toNat=x.toNat+32:=by
            unfold low;rw[if_pos ⟨UInt8.le_iff_toNat_le.2 (by simpa using hlo),UInt8.le_iff_toNat_le.2 (by simpa using hhi)⟩];rw[UInt8.toNat_add];simp;omega
          simp[aW,IntKind.wrap,IntKind.bits,IntKind.signed,bp,hl];omega
        have hst:aE Tryz.prog 5 (.ptr 0 i) (bp (low x)) [.cells (aA (fG low i s)) true]=some [.cells (aA (fG low (i+1) s)) true]:=by
          have hl:i+1≤(aA (fG low i s)).length:=by rw[cG,tX];omega
          have hset:cm (aA (fG low i s)) i [bp (low x)]=aA (fG low (i+1) s):=by rw[lH,vV,lJ low i s x hx]
          simp[aE,tz5,bp,AV.cells,AV.isC,hl];exact hset
        simp only[ao,gdA,ae,ad,ai,au,evalOp,St.ev,Av.get,St.put,ofV,ak,Nat.reduceEqDiff,↓reduceIte,Option.map_some,ha,hs,iaB _ _ h,hst,bl];refine next _ _ rfl ?_ _ _ rfl
        simp[aB,Av.get]
  · have hi':i=s.length:=by omega
    subst hi';refine .seq (.cond (t:=false) (by simp[St.ev,Av.get]) (.exit ?_));simp only[ak,↓reduceIte,bl];refine .seq (.region [] (by decide) ?_);have hcv:cc Tryz.prog 108 9 (.sl 0 0 s.length 0) [.cells (aA (fG low s.length s)) true]=some (.str (small s),[.cells (aA (fG low s.length s)) true]):=by
      rw[tW low _ _ (Nat.le_refl _)];have hl:(aA (s.map low)).length=s.length:=by simp[aA]
      simp[cc,Tryz.underlying9,Tryz.underlying108,Tryz.underlying5,hl,List.take_of_length_le,eU,small]
    simp only[ao,gdA,ae,ad,ai,au,evalOp,St.ev,Av.get,St.put,ak,Nat.reduceEqDiff,↓reduceIte,hcv];exact .ret ⟨_,rfl,_,rfl,.refl _⟩
theorem within(x lo hi:Int):aa Tryz.prog 193 [.int .u8 x,.int .u8 lo,.int .u8 hi] (.ret (.bool (decide (x≥lo)&&decide (x≤hi)))):=by
 refine aa.of Tryz.func193 rfl (ab enters Tryz.func193 rfl) (by simp[Tryz.ntmps193]) ?_;show W Tryz.prog 15 _ none _ _ _;refine .seq (.region [] (by decide) ?_);simp only[ao,gdA,ae,ad,ai,au,evalOp,St.ev,St.put,bn,ofV,ak];refine .seq (.region [] (by decide) ?_);generalize h1:decide (x≥lo)=b1;generalize h2:decide (x≤hi)=b2
 cases b1<;>cases b2<;>simp only[ao,gdA,ae,ad,ai,au,evalOp,St.ev,Av.get,St.put,ofV,ak,Nat.reduceEqDiff,↓reduceIte,Bool.and_self,List.getElem?_cons_zero,List.getElem?_cons_succ,List.getElem?_toArray,Option.bind_some,beq_true,Bool.false_eq_true,bB,cond_true,ed,gy,h1,h2]<;>exact .ret ⟨_,rfl,_,rfl,.refl _⟩
theorem letter(x:Int):aa Tryz.prog 166 [.int .u8 x] (.ret (.bool (decide (x≥65)&&decide (x≤90)||decide (x≥97)&&decide (x≤122)))):=by
 refine aa.of Tryz.func166 rfl (ab enters Tryz.func166 rfl) (by simp[Tryz.ntmps166]) ?_;show W Tryz.prog 17 _ none _ _ _;refine .seq (.region [] (by decide) ?_);simp only[ao,gdA,ae,ad,ai,au,evalOp,St.ev,St.put,bn,ofV,ak];refine .seq (.region [] (by decide) ?_);generalize h1:decide (x≥65)=b1;generalize h2:decide (x≤90)=b2;generalize h3:decide (x≥97)=b3;generalize h4:decide (x≤122)=b4
 cases b1<;>cases b2<;>cases b3<;>cases b4<;>simp only[ao,gdA,ae,ad,ai,au,evalOp,St.ev,Av.get,St.put,ofV,ak,Nat.reduceEqDiff,↓reduceIte,Bool.and_self,List.getElem?_cons_zero,List.getElem?_cons_succ,List.getElem?_toArray,Option.bind_some,beq_false,beq_true,Bool.not_true,Bool.not_false,Bool.false_eq_true,bB,cond_true,cond_false,ed,gy,h1,h2,h3,h4]<;>exact .ret ⟨_,rfl,_,rfl,.refl _⟩
def okI(f:Bool)(x:Int):Bool:=
 !(!(decide (x≥97)&&decide (x≤122))&&(!(decide (x≥65)&&decide (x≤90))&&(f||(!(decide (x≥48)&&decide (x≤57))&&(x !=45)))))
def pd:Nat→Bytes→Bool
 |_,[]=>true
 |i,x::l=>okI (i==0) x.toNat&&pd (i+1) l
def ew(s:Bytes):Bool:=pd 0 s&&(decide ((s.length:Int)≥1)&&decide ((s.length:Int)≤64))
theorem Ja(s:Bytes)(i:Nat)(x:UInt8)(hx:s[i]? =some x):al Tryz.prog 5 (.ptr 0 i) [.cells (aA s) true]=some (.int .u8 x.toNat):=by
 have hcell:(aA s)[i]? =some (bp x):=oQ hx;simp[al,tz5,tg5,ldA,hcell,bp]
theorem eF(b:Bool):vD .not (.bool b)=some (.bool !b):=rfl
set_option maxRecDepth 4000 in
theorem Jb (s:Bytes):aa Tryz.prog 168 [.str s] (.ret (.bool (ew s))):=by
 refine aa.fit fun hfit=>?_;have hb:s.length≤ay:=hfit (.str s) (by simp);refine aa.of Tryz.func168 rfl (ab enters Tryz.func168 rfl) (by simp[Tryz.ntmps168]) ?_;show W Tryz.prog 43 _ none _ _ _;refine .seq (.region [] (by decide) ?_);simp only[ao,gdA,ae,ad,ai,au,evalOp,St.ev,St.put,bn,ofV,ak];refine .seq (.seq (.region [] (by decide) ?_));simp only[ao,deN,gdA,ae,ad,ai,au,evalOp,St.ev,Av.get,St.put,ofV,ak,Nat.reduceEqDiff,↓reduceIte,Option.map_some,cvB,lnB];refine .block ?_
 refine .bh (X:=Nat) (fun i=>[(8,.int .i64 (i:Int)),(7,.int .i64 s.length),(6,.sl 0 0 s.length 0),(0,.str s)]) (fun i=>[.cells (aA s) true]) (fun i=>i≤s.length∧pd i (s.drop i)=pd 0 s) (fun i=>s.length - i) 0 ⟨Nat.zero_le _,rfl⟩
  (by simp[aB,Av.get]) rfl ?_
 rintro i ⟨hi,hall⟩;refine .seq (.region [] (by decide) ?_);simp only[ao,gdA,ae,ad,ai,au,evalOp,St.ev,Av.get,St.put,ak,Nat.reduceEqDiff,↓reduceIte,cr];by_cases h:i<s.length
 ·obtain⟨x,hx⟩:∃x,s[i]? =some x:=⟨s[i],List.getElem?_eq_getElem h⟩
  have hdrop:s.drop i=x::s.drop (i+1):=by
   rw[List.drop_eq_getElem_cons h];rw[List.getElem?_eq_getElem h]at hx;cases hx;rfl
  rw[hdrop,pd]at hall;refine .seq (.cond (t:=true) (by simp[St.ev,Av.get];omega) (.skip ?_));simp only[ak];refine .rZ (okI (i==0) x.toNat=true) [(8,.int .i64 (i:Int)),(7,.int .i64 s.length),(6,.sl 0 0 s.length 0),(0,.str s)] [.cells (aA s) true] (x:=Code.block 1 _) ?_ ?_
  ·refine .block (.seq (.region [] (by decide) ?_))
   simp only[ao,gdA,ae,ad,ai,au,evalOp,St.ev,Av.get,St.put,ak,Nat.reduceEqDiff,↓reduceIte,Option.map_some,iaB _ _ h,Ja s i x hx];generalize hw1:(decide ((x.toNat:Int)≥97)&&decide ((x.toNat:Int)≤122))=w1;generalize hw2:(decide ((x.toNat:Int)≥65)&&decide ((x.toNat:Int)≤90))=w2;generalize hw3:(decide ((x.toNat:Int)≥48)&&decide ((x.toNat:Int)≤57))=w3;have p1:=within x.toNat 97 122;have p2:=within x.toNat 65 90;have p3:=within x.toNat 48 57;rw[hw1]at p1;rw[hw2]at p2;rw[hw3]at p3;have hok:okI (i==0) x.toNat= !(!w1&&(!w2&&((i==0)||(!w3&&((x.toNat:Int) !=45))))):=by simp only[okI,hw1,hw2,hw3]
   have bad:okI (i==0) x.toNat=false→ew s=false:=by
    intro h;rw[h]at hall;simp[ew,←hall]
   cases w1 with
   |true=>
    refine .seq (.region [.pure (.ret (.bool true))] (by decide) ?_);simp only[ao,gdA,ae,ad,ai,au,evalOp,St.ev,Av.get,St.put,ofV,ak,Nat.reduceEqDiff,↓reduceIte,aX,AV.hfs,AV.hf,Bool.and_self,List.map_cons,List.map_nil,List.nil_append,List.append_nil,List.getElem?_cons_zero,List.getElem?_cons_succ,List.getElem?_toArray,Option.map_some,Option.bind_some,beq_true,Bool.not_true,Bool.false_eq_true,bB,eF];refine⟨p1,?_⟩;refine .cond (t:=false) rfl (.skip ?_);refine⟨by rw[hok];rfl,?_,rfl,rfl⟩;simp[aB,Av.get]
   | false=>
    cases w2 with
    |true=>
     refine .seq (.region [.pure (.ret (.bool false)),.pure (.ret (.bool true))] (by decide) ?_);simp only[ao,gdA,ae,ad,ai,au,evalOp,St.ev,Av.get,St.put,ofV,ak,Nat.reduceEqDiff,↓reduceIte,aX,AV.hfs,AV.hf,Bool.and_self,List.map_cons,List.map_nil,List.nil_append,List.append_nil,List.getElem?_cons_zero,List.getElem?_cons_succ,List.getElem?_toArray,Option.map_some,Option.bind_some,beq_true,Bool.not_true,Bool.not_false,Bool.false_eq_true,bB,cond_true,eF];refine⟨p1,p2,?_⟩;refine .cond (t:=false) rfl (.skip ?_);refine⟨by rw[hok];rfl,?_,rfl,rfl⟩;simp[aB,Av.get]
    | false=>
     by_cases h0:i=0
     ·subst h0
      have hb':ew s=false:=bad (by rw[hok];rfl);have e0:(((0:Nat):Int)==0)=true:=rfl;refine .seq (.region [.pure (.ret (.bool false)),.pure (.ret (.bool false))] (by decide) ?_);simp only[ao,gdA,ae,ad,ai,au,evalOp,St.ev,Av.get,St.put,ofV,ak,Nat.reduceEqDiff,↓reduceIte,aX,AV.hfs,AV.hf,Bool.and_self,List.map_cons,List.map_nil,List.nil_append,List.append_nil,List.getElem?_cons_zero,List.getElem?_cons_succ,List.getElem?_toArray,Option.map_some,Option.bind_some,beq_false,beq_true,Bool.not_true,Bool.not_false,bB,cond_true,eF,jf,e0];refine⟨p1,p2,?_⟩
      refine .cond (t:=true) rfl (.seq (.region [] (by decide) ?_));simp only[ao,gdA,ae,ad,ai,au,evalOp,St.ev,St.put,ofV,ak];refine .ret ?_;rw[hb'];exact⟨_,rfl,_,rfl,.refl _⟩
     ·have e0:((i:Int)==0)=false:=by simpa using h0
      have e1:(i==0)=false:=by simpa using h0
      cases w3 with
      |true=>
       rw[e1]at hok;refine .seq (.region [.pure (.ret (.bool false)),.pure (.ret (.bool false)),.pure (.ret (.bool true))] (by decide) ?_);simp only[ao,gdA,ae,ad,ai,au,evalOp,St.ev,Av.get,St.put,ofV,ak,Nat.reduceEqDiff,↓reduceIte,aX,AV.hfs,AV.hf,Bool.and_self,List.map_cons,List.map_nil,List.nil_append,List.append_nil,List.getElem?_cons_zero,List.getElem?_cons_succ,List.getElem?_toArray,Option.map_some,Option.bind_some,beq_false,beq_true,Bool.not_true,Bool.not_false,Bool.false_eq_true,bB,cond_true,cond_false,eF,jf,e0];refine⟨p1,p2,p3,?_⟩;refine .cond (t:=false) rfl (.skip ?_)
       refine⟨by rw[e1,hok];rfl,?_,rfl,rfl⟩;simp[aB,Av.get]
      | false=>
       refine .seq (.region [.pure (.ret (.bool false)),.pure (.ret (.bool false)),.pure (.ret (.bool false))] (by decide) ?_);generalize h45:((x.toNat:Int) !=45)=w4;rw[h45,e1]at hok;cases w4 with
       |true=>
        have hb':ew s=false:=bad (by rw[e1,hok];rfl);simp only[ao,gdA,ae,ad,ai,au,evalOp,St.ev,Av.get,St.put,ofV,ak,Nat.reduceEqDiff,↓reduceIte,aX,AV.hfs,AV.hf,Bool.and_self,List.map_cons,List.map_nil,List.nil_append,List.append_nil,List.getElem?_cons_zero,List.getElem?_cons_succ,List.getElem?_toArray,Option.map_some,Option.bind_some,beq_false,beq_true,Bool.not_false,bB,cond_true,cond_false,eF,jf,nu,e0,h45];refine⟨p1,p2,p3,?_⟩;refine .cond (t:=true) rfl (.seq (.region [] (by decide) ?_));simp only[ao,gdA,ae,ad,ai,au,evalOp,St.ev,St.put,ofV,ak];refine .ret ?_;rw[hb']
        exact⟨_,rfl,_,rfl,.refl _⟩
       |false=>
        simp only[ao,gdA,ae,ad,ai,au,evalOp,St.ev,Av.get,St.put,ofV,ak,Nat.reduceEqDiff,↓reduceIte,aX,AV.hfs,AV.hf,Bool.and_self,List.map_cons,List.map_nil,List.nil_append,List.append_nil,List.getElem?_cons_zero,List.getElem?_cons_succ,List.getElem?_toArray,Option.map_some,Option.bind_some,beq_false,beq_true,Bool.not_false,bB,cond_true,cond_false,eF,jf,nu,e0,h45];refine⟨p1,p2,p3,?_⟩;refine .cond (t:=false) rfl (.skip ?_);refine⟨by rw[e1,hok];rfl,?_,rfl,rfl⟩;simp[aB,Av.get]
  ·intro hgood
   rw[hgood,Bool.true_and]at hall;refine .region [] (by decide) ?_;have hadd:aW Tryz.prog .add 3 (.int .i64 (i:Int)) (.int .i64 1)=some (.int .i64 ((i+1:Nat):Int)):=by
    rw[du _ _ (by simp only[ay]at hb;omega)];simp
   simp only[ao,gdA,ae,ad,ai,au,evalOp,St.ev,Av.get,St.put,ofV,ak,↓reduceIte,hadd];refine⟨i+1,⟨by omega,hall⟩,by omega,?_,trivial,trivial⟩;simp[aB,Av.get]
 ·have hi':i=s.length:=by omega
  subst hi';refine .seq (.cond (t:=false) (by simp[St.ev,Av.get]) (.exit ?_));simp only[ak,↓reduceIte,bl];refine .seq (.region [] (by decide) ?_);have ht:pd 0 s=true:=by rw[←hall,List.drop_length];rfl
  have hres:ew s=(decide ((s.length:Int)≥1)&&decide ((s.length:Int)≤64)):=by simp[ew,ht]
  rw[hres];generalize h1:decide ((s.length:Int)≥1)=b1;generalize h2:decide ((s.length:Int)≤64)=b2;cases b1<;>cases b2<;>simp only[ao,deN,gdA,ae,ad,ai,au,evalOp,St.ev,Av.get,St.put,ofV,ak,Nat.reduceEqDiff,↓reduceIte,Bool.and_self,List.getElem?_cons_zero,List.getElem?_cons_succ,List.getElem?_toArray,Option.map_some,Option.bind_some,beq_true,Bool.false_eq_true,bB,cond_true,ed,gy,h1,h2,ls9]<;>exact .ret ⟨_,rfl,_,rfl,.refl _⟩
theorem drop_at{α:Type}{l:List α}{i:Nat}(h:i<l.length):∃u,l[i]? =some u∧l.drop i=u::l.drop (i+1):=
 ⟨l[i],List.getElem?_eq_getElem h,List.drop_eq_getElem_cons h⟩
theorem dlt(i L:Nat):decide ((i:Int)<(L:Int))=decide (i<L):=by simp
theorem ix9(s:Bytes)(i:Nat)(x:UInt8)(h:s[i]? =some x):dP Tryz.prog 9 (.str s) (.int .i64 (i:Int))=some (.int .u8 x.toNat):=by
 simp[dP,bL,Tryz.underlying9,h]
theorem wA(s:Bytes)(i:Nat)(x:UInt8)(h:s[i]? =some x):(s.take (i+1)).map low=(s.take i).map low++[low x]:=by
 rw[List.take_add_one,h];simp
theorem cvS(x:UInt8)(H:List OB):cc Tryz.prog 108 9 (.vsl 0 true [.int .u8 x.toNat]) H=some (.str [x],H):=by
 have:=eU [x];simp only[aA,bp,List.map_cons,List.map_nil]at this;simp[cc,Tryz.underlying108,Tryz.underlying9,Tryz.underlying5,this]
theorem bsB(x:UInt8):aw Tryz.prog 108 1 [(0,.int .u8 x.toNat)]=some (.vsl 0 true [.int .u8 x.toNat]):=by
 have h:apT Tryz.prog 5=some (1,0,1):=by kernel_rfl
 simp[aw,Tryz.underlying108,h,AV.cells,AV.told,List.range']
set_option maxRecDepth 100000 in
theorem jz(s:Bytes):aa Tryz.prog 39 [.str s] (.ret (.str (small s))):=by
 refine aa.fit fun hfit=>?_;have hL:s.length≤ay:=hfit (.str s) (by simp);refine aa.of Tryz.func39 rfl (ab enters Tryz.func39 rfl) (by simp[Tryz.ntmps39]) ?_;show W Tryz.prog 29 _ none _ _ _;have x0:({data:=#[]}:ByteArray).size≤ay:=by decide
 refine .seq (.region [] (by decide) ?_);simp only[ao,gdA,ae,ad,ai,au,evalOp,St.ev,St.put,bn,ofV,ak,↓reduceIte,x0];refine .seq (.region [] (by decide) ?_);simp only[ao,gdA,ae,ad,ai,au,evalOp,St.ev,St.put,ofV,ak,↓reduceIte,x0];refine .seq (.seq (.region [] (by decide) ?_));simp only[ao,gdA,ae,ad,ai,au,evalOp,St.ev,St.put,ofV,ak];refine .block ?_
 refine .GA 4 9 10 11 0 s.length hL (Nat.zero_le _) rfl rfl rfl rfl rfl rfl rfl rfl rfl (by decide)
  (fun i=>[(3,.str ((s.take i).map low)),(0,.str s)]) (fun _=>rfl) (fun _=>[]) (fun _=>Nat.zero_le _) (fun i=>True) rfl trivial ?_ ?_ trivial ?_ ?_ ?_
 ·simp only[List.take_zero,List.map_nil]
  simp only[cM,Av.get,Nat.reduceEqDiff,↓reduceIte,cz,gn,gq,and_self]
 ·intro i _
  simp only[eg,AV.hlt,AV.bS,cA,Bool.and_self,Bool.and_true,Bool.true_and]
 ·intro i hi hok
  refine .region [] (by decide) ?_;simp only[ao,deN,gdA,ae,ad,ai,au,evalOp,St.ev,Av.get,St.put,ak,Nat.reduceEqDiff,↓reduceIte,Option.map_some,ls9,cr,dlt];refine⟨trivial,?_,trivial,trivial⟩;simp only[cM,Av.get,Nat.reduceEqDiff,↓reduceIte,cz,gn,gq,and_self]
 ·intro i hi hok
  obtain⟨u,hu,hdrop⟩:=drop_at hi;have htl:((s.take i).map low).length=i:=by rw[List.length_map,List.length_take];omega
  have hadd:aW Tryz.prog .add 9 (.str ((s.take i).map low)) (.str [low u])=some (.str ((s.take (i+1)).map low)):=by
   rw[wA s i u hu];simp only[aW,htl,List.length_singleton];rw[if_pos (by omega)]
  refine .block (.seq (.region [] (by decide) ?_));simp only[ao,gdA,ae,ad,ai,au,evalOp,St.ev,Av.get,St.put,ak,Nat.reduceEqDiff,↓reduceIte,Option.map_some,ix9 _ _ _ hu];refine .oP [(5,.int .u8 (low u).toNat),(4,.int .i64 (i:Int)),(3,.str ((s.take i).map low)),(0,.str s)] [] ?_ ?_
  ·refine .seq (.region [] (by decide) ?_)
   generalize h1:decide ((u.toNat:Int)≥65)=b1;generalize h2:decide ((u.toNat:Int)≤90)=b2;have hlow:(low u).toNat=if(b1&&b2)=true then u.toNat+32 else u.toNat:=by
    have e1:b1=decide (65≤u):=by rw[←h1];simp[UInt8.le_iff_toNat_le];omega
    have e2:b2=decide (u≤90):=by rw[←h2];simp[UInt8.le_iff_toNat_le];omega
    unfold low;rw[e1,e2];simp only[Bool.and_eq_true,decide_eq_true_eq];split
    ·rename_i hc
     have:=UInt8.le_iff_toNat_le.1 hc.2;rw[UInt8.toNat_add];simp at this ⊢;omega
    ·rfl
   have hb:(u.toNat:Int)<256:=by have:=u.toNat_lt;omega
   cases b1<;>cases b2<;>simp only[ao,gdA,ae,ad,ai,au,evalOp,St.ev,Av.get,St.put,ofV,ak,Nat.reduceEqDiff,↓reduceIte,List.getElem?_cons_zero,List.getElem?_cons_succ,List.getElem?_toArray,Option.bind_some,beq_true,Bool.false_eq_true,bB,cond_true,ed,gy,h1,h2]
   case true.true=>
    refine .cond (t:=true) rfl (.region [] (by decide) ?_);have h90:(u.toNat:Int)≤90:=of_decide_eq_true h2;have ha:aW Tryz.prog .add 5 (.int .u8 (u.toNat:Int)) (.int .u8 32)=some (.int .u8 ((low u).toNat:Int)):=by
     rw[hlow];simp[aW,IntKind.wrap,IntKind.bits,IntKind.signed];omega
    simp only[ao,gdA,ae,ad,ai,au,evalOp,St.ev,Av.get,St.put,ofV,ak,Nat.reduceEqDiff,↓reduceIte,ha];refine⟨?_,trivial,trivial⟩;simp[aB,Av.get]
   all_goals
    refine .cond (t:=false) rfl (.skip ?_);refine⟨?_,rfl,rfl⟩;rw[hlow];simp[aB,Av.get]
  ·refine .region [] (by decide) ?_
   simp only[ao,gdA,ae,ad,ai,au,evalOp,St.ev,Av.get,St.put,ofV,Nat.reduceEqDiff,↓reduceIte,List.map_cons,List.map_nil,Option.map_some,bsB,cvS,hadd];refine⟨trivial,?_,trivial,rfl⟩;simp only[cM,Av.get,Nat.reduceEqDiff,↓reduceIte,cz,gn,gq,and_self]
 ·intro hok
  simp only[ak,↓reduceIte,bl];refine .seq (.region [] (by decide) ?_);simp only[ao,gdA,ae,ad,ai,au,evalOp,St.ev,Av.get,St.put,ak,Nat.reduceEqDiff,↓reduceIte];have:small s=(s.take s.length).map low:=by rw[List.take_length];rfl
  rw[this];exact .ret ⟨_,rfl,_,rfl,.refl _⟩
def im(x:Int):Bool:=decide (x≥65)&&decide (x≤90)||decide (x≥97)&&decide (x≤122)
def nR(x:Int):Bool:=!((!im x)&&((decide (x<48)||decide (x>57))&&(x !=45)))
def nB(s:Bytes):Bool:=match s with
 | []=>false
 |x::_=>!decide ((s.length:Int)>64)&&(im x.toNat&&s.all fun y=>nR y.toNat)
set_option maxRecDepth 4000 in
theorem Ec (s:Bytes):aa Tryz.prog 130 [.str s] (.ret (.bool (nB s))):=by
  refine aa.fit fun hfit=> ?_;have hL:s.length≤ay:=hfit (.str s) (by simp);refine aa.of Tryz.func130 rfl (ab enters Tryz.func130 rfl) (by simp[Tryz.ntmps130]) ?_;show W Tryz.prog 47 _ none _ _ _;refine .seq (.region [] (by decide) ?_);simp only[ao,gdA,ae,ad,ai,au,evalOp,St.ev,St.put,bn,ofV,ak];refine .rZ (nB s=s.all fun y=>nR y.toNat) [(0,.str s)] [] ?_ ?_
  · cases hs:s with
    | nil=>
      have h0:decide (((([]:Bytes).length:Nat):Int)<1)=true:=by decide
      refine .seq (.region [] (by decide) ?_);simp only[ao,deN,gdA,ae,ad,ai,au,evalOp,St.ev,Av.get,St.put,ofV,ak,Nat.reduceEqDiff,↓reduceIte,List.map_cons,List.map_nil,List.nil_append,List.append_nil,List.getElem?_cons_zero,List.getElem?_cons_succ,List.getElem?_toArray,Option.map_some,Option.bind_some,beq_false,bB,List.length_nil,List.all_nil,ls9,cr,h0];refine .cond (t:=true) rfl (.seq (.region [] (by decide) ?_));simp only[ao,gdA,ae,ad,ai,au,evalOp,St.ev,St.put,ofV,ak,↓reduceIte];exact .ret ⟨_,rfl,_,rfl,.refl _⟩
    | cons x t=>
      rw[←hs];have hx:s[0]? =some x:=by rw[hs];rfl
      have hn:nB s=(!decide ((s.length:Int)>64)&&(im x.toNat&&s.all fun y=>nR y.toNat)):=by rw[hs];rfl
      have h1:decide ((s.length:Int)<1)=false:=decide_eq_false (by rw[hs];simp;omega);have hx0:dP Tryz.prog 9 (.str s) (.int .i64 0)=some (.int .u8 x.toNat):=ix9 s 0 x hx;have hlet:aa Tryz.prog 166 [.int .u8 x.toNat] (.ret (.bool (im x.toNat))):=letter _;generalize hc:decide ((s.length:Int)>64)=c at hn;generalize hd:im x.toNat=d at hn hlet;cases c with
      | true=>
        refine .seq (.region [] (by decide) ?_);simp only[ao,deN,gdA,ae,ad,ai,au,evalOp,St.ev,Av.get,St.put,ofV,ak,Nat.reduceEqDiff,↓reduceIte,List.getElem?_cons_zero,List.getElem?_cons_succ,List.getElem?_toArray,Option.map_some,Option.bind_some,beq_false,Bool.not_true,Bool.not_false,bB,cond_false,ls9,cr,ec,h1,hc];refine .cond (t:=true) rfl (.seq (.region [] (by decide) ?_));simp only[ao,gdA,ae,ad,ai,au,evalOp,St.ev,St.put,ofV,ak];refine .ret ?_;rw[hn];exact⟨_,rfl,_,rfl,.refl _⟩
      | false=>
        refine .seq (.region [.pure (.ret (.bool d))] (by decide) ?_);cases d with
        | true=>
          simp only[ao,deN,gdA,ae,ad,ai,au,evalOp,St.ev,Av.get,St.put,ofV,ak,Nat.reduceEqDiff,↓reduceIte,aX,AV.hfs,AV.hf,Bool.and_self,List.map_cons,List.map_nil,List.nil_append,List.append_nil,List.getElem?_cons_zero,List.getElem?_cons_succ,List.getElem?_toArray,Option.map_some,Option.bind_some,beq_false,Bool.not_false,Bool.false_eq_true,bB,cond_false,and_self,ls9,cr,ec,h1,hc,hx0];refine⟨hlet,?_⟩;refine .cond (t:=false) rfl (.skip ?_);refine⟨by rw[hn];rfl,?_,rfl,rfl⟩;simp[aB,Av.get]
        | false=>
          simp only[ao,deN,gdA,ae,ad,ai,au,evalOp,St.ev,Av.get,St.put,ofV,ak,Nat.reduceEqDiff,↓reduceIte,aX,AV.hfs,AV.hf,Bool.and_self,List.map_cons,List.map_nil,List.nil_append,List.append_nil,List.getElem?_cons_zero,List.getElem?_cons_succ,List.getElem?_toArray,Option.map_some,Option.bind_some,beq_false,Bool.not_false,Bool.false_eq_true,bB,cond_false,and_self,ls9,cr,ec,h1,hc,hx0];refine⟨hlet,?_⟩;refine .cond (t:=true) rfl (.seq (.region [] (by decide) ?_));simp only[ao,gdA,ae,ad,ai,au,evalOp,St.ev,St.put,ofV,ak,Bool.not_false];refine .ret ?_;rw[hn];exact⟨_,rfl,_,rfl,.refl _⟩
  · intro hres
    refine .seq (.seq (.region [] (by decide) ?_));simp only[ao,gdA,ae,ad,ai,au,evalOp,St.ev,St.put,ofV,ak];refine .block ?_
    refine .GA 3 21 22 23 0 s.length hL (Nat.zero_le _) rfl rfl rfl rfl rfl rfl rfl rfl rfl (by decide)
      (fun i=>[(0,.str s)]) (fun _=>rfl) (fun _=>[]) (fun _=>Nat.zero_le _) (fun i=>(s.drop i).all (fun y=>nR y.toNat)=nB s) rfl (by rw[hres];rfl) ?_ ?_ trivial ?_ ?_ ?_
    · simp only[cM,Av.get,Nat.reduceEqDiff,↓reduceIte,cz,gn,gq,and_self]
    · intro i _
      simp only[eg,AV.hlt,AV.bS,cA,Bool.and_self,Bool.and_true,Bool.true_and]
    · intro i hi hok
      refine .region [] (by decide) ?_;simp only[ao,deN,gdA,ae,ad,ai,au,evalOp,St.ev,Av.get,St.put,ak,Nat.reduceEqDiff,↓reduceIte,Option.map_some,ls9,cr,dlt];refine⟨trivial,?_,trivial,trivial⟩;simp only[cM,Av.get,Nat.reduceEqDiff,↓reduceIte,cz,gn,gq,and_self]
    · intro i hi hok
      obtain⟨u,hu,hdrop⟩:=drop_at hi;rw[hdrop,List.all_cons]at hok;have hiu:=ix9 s i u hu;have hlet:aa Tryz.prog 166 [.int .u8 u.toNat] (.ret (.bool (im u.toNat))):=letter _;have hm:nR u.toNat= !((!im u.toNat)&&((decide ((u.toNat:Int)<48)||decide ((u.toNat:Int)>57))&&((u.toNat:Int) !=45))):=rfl;generalize im u.toNat=d at hm hlet;generalize h1:decide ((u.toNat:Int)<48)=b1 at hm;generalize h2:decide ((u.toNat:Int)>57)=b2 at hm;generalize h3:((u.toNat:Int) !=45)=b3 at hm;have bad:nR u.toNat=false→nB s=false:=by intro h;rw[←hok,h];rfl
      refine .block (.seq (.region [.pure (.ret (.bool d))] (by decide) ?_));cases d<;>cases b1<;>cases b2<;>cases b3<;>simp only[ao,gdA,ae,ad,ai,au,evalOp,St.ev,Av.get,St.put,ofV,ak,Nat.reduceEqDiff,↓reduceIte,aX,AV.hfs,AV.hf,Bool.and_self,List.map_cons,List.map_nil,List.nil_append,List.append_nil,List.getElem?_cons_zero,List.getElem?_cons_succ,List.getElem?_toArray,Option.map_some,Option.bind_some,beq_false,beq_true,Bool.not_true,Bool.not_false,Bool.false_eq_true,bB,cond_true,cond_false,eF,hiu,cr,ec,nu,h1,h2,h3]<;>refine⟨hlet,?_⟩
      all_goals first
        | (refine .cond (t:=false) rfl (.skip ?_)
           refine⟨?_,?_,trivial,rfl⟩
           · rw[←hok,hm];rfl
           · simp only[cM,Av.get,Nat.reduceEqDiff,↓reduceIte,cz,gn,gq,and_self])
        | (refine .cond (t:=true) rfl (.seq (.region [] (by decide) ?_))
           simp only[ao,gdA,ae,ad,ai,au,evalOp,St.ev,St.put,ofV,ak];rw[bad (by rw[hm];rfl)]
           exact .ret ⟨_,rfl,_,rfl,.refl _⟩)
    · intro hok
      simp only[ak,↓reduceIte,bl];refine .seq (.region [] (by decide) ?_);simp only[ao,gdA,ae,ad,ai,au,evalOp,St.ev,St.put,ofV,ak];rw[List.drop_length]at hok;rw[←hok];exact .ret ⟨_,rfl,_,rfl,.refl _⟩
def shp:Nat→AV→Prop
 |0,v=>v.one=true
 |n+1,v=>∃l,v=.agg l∧l.length=n
def fI(p:AV→Bool):Nat→List AV→Int
 |_,[]=>-1
 |i,v::l=>if p v=true then(i:Int)else fI p (i+1) l
theorem Bk(p:AV→Bool):∀(l:List AV) (i:Nat),(fI p i l≥0)↔l.any p=true
 | [],_=>by simp[fI]
 |v::l,i=>by
  have ih:=Bk p l (i+1);simp only[fI,List.any_cons,Bool.or_eq_true];by_cases h:p v=true
  ·simp[h]
  ·rw[if_neg h];simpa[h]using ih
theorem pf(p:AV→Bool)(l:List AV)(i:Nat):decide (fI p i l≥0)=l.any p:=by
 have:=Bk p l i;cases h:l.any p with
 |true=>exact decide_eq_true (this.2 h)
 |false=>exact decide_eq_false (fun hh=>by rw[this.1 hh]at h;cases h)
theorem lY{wd:Nat}{v:AV}(h:shp wd v):v.cells.length=esz wd:=by
 cases wd with
 |zero=>rw[eb h];rfl
 |succ n=>obtain⟨l,rfl,hl⟩:=h;exact hl
theorem pg{P:Program}{e wd:Nat}(hz:tsz P e=some (esz wd))(hg:tag P e=some (decide (wd≠0))){v:AV}(h:shp wd v)(H:List OB):al P e (.vptr v.cells) H=some v:=by
 cases wd with
 |zero=>
  rw[eb h];simp[al,hz,hg,ldA,esz]
 |succ n=>
  obtain⟨l,rfl,hl⟩:=h;subst hl;simp[al,hz,hg,ldA,esz,AV.cells]
theorem Ed{g h:FuncId}{fs cs:List AV}{b:Bool}{k:Nat}(h1:AV.hfs fs=true)(h2:AV.hfs cs=true):
    fz [.cells [.func (.func g) fs cs] b] (k+2) (.func (.func h) [] [.ptr 0 0])=some (.func (.func h) [] [.vptr [.func (.func g) fs cs]]):=by
  have hc:AV.hf (.func (.func g) fs cs)=true:=by simp[AV.hf,h1,h2]
  unfold fz;rw[if_neg (by simp[AV.hf,AV.hfs])];simp only[AV.hfs,AV.hf,Bool.false_and,Bool.false_eq_true,if_false,if_true,List.mapM_cons,List.mapM_nil];have:fz [.cells [.func (.func g) fs cs] b] (k+1) (.ptr 0 0)=some (.vptr [.func (.func g) fs cs]):=by
    unfold fz;rw[if_neg (by simp[AV.hf])];simp[AV.hfs,hc]
  rw[this];rfl
theorem Bl{H:List OB}{wd k:Nat}{x:Bool}{es:List AV}(h:AV.hfs es=true):fz H (k+1) (.vsl wd x es)=some (.vsl wd x es):=by
 unfold fz;rw[if_pos (by simpa[AV.hf]using h)]
theorem kg{g h:FuncId}{fs cs es:List AV}{b x o:Bool}{wd:Nat}(h0:AV.hfs es=true)(h1:AV.hfs fs=true)(h2:AV.hfs cs=true):
    aX [.cells [.func (.func g) fs cs] b] [.vsl wd x es,.func (.func h) [] [.ptr 0 0]] (.ret (.bool o))=some [.vsl wd x es,.func (.func h) [] [.vptr [.func (.func g) fs cs]]]:=by
  unfold aX;rw[if_neg (by simp[AV.hfs,AV.hf]),if_pos (show(Out.ret (AV.bool o)).scalar=true from rfl)];simp only[List.mapM_cons,List.mapM_nil,Bl h0,Ed h1 h2];rfl
theorem Jc:tsz Tryz.prog 5=some (esz 0):=by kernel_rfl
theorem K8:tag Tryz.prog 5=some (decide (0≠0)):=by kernel_rfl
theorem K9 (x:Bool) (es:List AV) (g:FuncId) (fs cs:List AV) (p:AV→Bool) (hs: ∀v∈es,shp 0 v) (hh:AV.hfs es=true∧AV.hfs fs=true∧AV.hfs cs=true)
    (hp: ∀v∈es,aa Tryz.prog g (fs++[v]++cs) (.ret (.bool (p v)))):aa Tryz.prog 171 [.vsl 0 x es,.func (.func g) fs cs] (.ret (.int .i64 (fI p 0 es))):=by
  refine aa.fit fun hfit=> ?_;have hb:es.length≤ay:=hfit (.vsl 0 x es) (by simp);refine aa.of Tryz.func171 rfl (ab enters Tryz.func171 rfl) (by simp[Tryz.ntmps171]) ?_;show W Tryz.prog 19 _ none _ _ _;refine .seq (.region [] (by decide) ?_);simp only[ao,gdA,ae,ad,ai,au,evalOp,St.ev,St.put,bn,ofV,ak];have hln: ∀H,aI Tryz.prog 108 (.vsl 0 x es) H=some (.int .i64 es.length):=by intro H;simp[aI,Tryz.underlying108]
  refine .seq (.seq (.region [] (by decide) ?_));simp only[ao,deN,gdA,ae,ad,ai,au,evalOp,St.ev,Av.get,St.put,ofV,ak,Nat.reduceEqDiff,↓reduceIte,Option.map_some,hln];refine .block ?_
  refine .bh (X:=Nat) (fun i=>[(8,.int .i64 (i:Int)),(7,.int .i64 es.length),(1,.func (.func g) fs cs),(0,.vsl 0 x es)]) (fun i=>[]) (fun i=>i≤es.length∧fI p i (es.drop i)=fI p 0 es) (fun i=>es.length - i) 0 ⟨Nat.zero_le _,rfl⟩
    (by simp[aB,Av.get]) rfl ?_
  rintro i ⟨hi,hall⟩;refine .seq (.region [] (by decide) ?_);simp only[ao,gdA,ae,ad,ai,au,evalOp,St.ev,Av.get,St.put,ak,Nat.reduceEqDiff,↓reduceIte,cr];by_cases h:i<es.length
  · obtain⟨v,hv⟩: ∃v,es[i]? =some v:=⟨es[i],List.getElem?_eq_getElem h⟩
    have hmem:v∈es:=List.mem_of_getElem? hv;have hdrop:es.drop i=v::es.drop (i+1):=by
      rw[List.drop_eq_getElem_cons h];rw[List.getElem?_eq_getElem h]at hv;cases hv;rfl
    rw[hdrop,fI]at hall;have hia: ∀H,ah Tryz.prog 108 (.vsl 0 x es) (.int .i64 (i:Int)) H=some (.vptr v.cells):=by
      intro H;have:=lY (hs v hmem);simp[ah,bL,Tryz.underlying108,Jc,hv,this]
    have hld: ∀H,al Tryz.prog 5 (.vptr v.cells) H=some v:=fun H=>pg Jc K8 (hs v hmem) H;have hhf:AV.hfs (fs++([v]++cs))=true:=by
      have h1:AV.hf v=true:=by have:=hh.1;rw[be]at this;exact List.all_eq_true.1 this v hmem
      have h2:=hh.2.1;have h3:=hh.2.2;rw[be]at h2 h3 ⊢;simp[List.all_append,h1,h2,h3]
    refine .seq (.cond (t:=true) (by simp[St.ev,Av.get];omega) (.skip ?_));simp only[ak];refine .rZ (p v=false) [(8,.int .i64 (i:Int)),(7,.int .i64 es.length),(1,.func (.func g) fs cs),(0,.vsl 0 x es)] [] (x:=Code.block 1 _) ?_ ?_
    · refine .block (.seq (.region [] (by decide) ?_))
      simp only[ao,gdA,ae,ad,ai,au,evalOp,St.ev,Av.get,St.put,ak,Nat.reduceEqDiff,↓reduceIte];refine .seq (.region [.pure (.ret (.bool (p v)))] (by decide) ?_);simp only[ao,gdA,ae,ad,ai,au,evalOp,St.ev,Av.get,St.put,ak,Nat.reduceEqDiff,↓reduceIte,aX,List.map_cons,List.map_nil,Option.map_some,hia,hld,List.append_assoc,hhf];refine⟨by have:=hp v hmem;rw[List.append_assoc]at this;exact this,?_⟩;cases hpv:p v with
      | true=>
        refine .cond (t:=true) rfl (.seq (.region [] (by decide) ?_));simp only[ao,gdA,ae,ad,ai,au,evalOp,St.ev,Av.get,St.put,ak,Nat.reduceEqDiff,↓reduceIte];refine .ret ?_;rw[if_pos hpv]at hall;rw[←hall];exact⟨_,rfl,_,rfl,.refl _⟩
      | false=>
        refine .cond (t:=false) rfl (.skip ?_);refine⟨rfl,?_,rfl,rfl⟩;simp[aB,Av.get]
    · intro hgood
      rw[hgood]at hall;simp only[Bool.false_eq_true,if_false]at hall;refine .region [] (by decide) ?_;have hadd:aW Tryz.prog .add 3 (.int .i64 (i:Int)) (.int .i64 1)=some (.int .i64 ((i+1:Nat):Int)):=by
        rw[du _ _ (by simp only[ay]at hb;omega)];simp
      simp only[ao,gdA,ae,ad,ai,au,evalOp,St.ev,Av.get,St.put,ofV,ak,↓reduceIte,hadd];refine⟨i+1,⟨by omega,hall⟩,by omega,?_,trivial,trivial⟩;simp[aB,Av.get]
  · have hi':i=es.length:=by omega
    subst hi';refine .seq (.cond (t:=false) (by simp[St.ev,Av.get]) (.exit ?_));simp only[ak,↓reduceIte,bl];refine .seq (.region [] (by decide) ?_);have ht:fI p 0 es= -1:=by rw[←hall,List.drop_length];rfl
    rw[ht];simp only[ao,gdA,ae,ad,ai,au,evalOp,St.ev,St.put,ofV,ak];exact .ret ⟨_,rfl,_,rfl,.refl _⟩
theorem cfB (x:Bool) (es:List AV) (g:FuncId) (fs cs:List AV) (p:AV→Bool) (hs: ∀v∈es,shp 0 v) (hh:AV.hfs es=true∧AV.hfs fs=true∧AV.hfs cs=true)
    (hp: ∀v∈es,aa Tryz.prog g (fs++[v]++cs) (.ret (.bool (p v)))):aa Tryz.prog 136 [.vsl 0 x es,.func (.func g) fs cs] (.ret (.bool (es.any p))):=by
  refine aa.of Tryz.func136 rfl (ab enters Tryz.func136 rfl) (by simp[Tryz.ntmps136]) ?_;show W Tryz.prog 9 _ none _ _ _;refine .seq (.region [] (by decide) ?_);simp only[ao,gdA,ae,ad,ai,au,evalOp,St.ev,St.put,bn,ofV,ak];refine .seq (.region [.pure (.ret (.int .i64 (fI p 0 es)))] (by decide) ?_);obtain⟨h1,h2,h3⟩:=hh;simp only[ao,gdA,ae,ad,ai,au,evalOp,St.ev,Av.get,St.put,ofV,ak,Nat.reduceEqDiff,↓reduceIte,aX,AV.hfs,AV.hf,Bool.and_self,List.map_cons,List.map_nil,List.nil_append,List.append_nil,h1,h2,h3,ed,pf];refine⟨K9 x es g fs cs p hs ⟨h1,h2,h3⟩ hp,?_⟩;exact .ret ⟨_,rfl,_,rfl,.refl _⟩
theorem La(v:AV)(hsh:shp 0 v)(g:FuncId)(fs cs:List AV)(p:Bool)(hv:AV.hf v=true)(h1:AV.hfs fs=true)(h2:AV.hfs cs=true)(hp:aa Tryz.prog g (fs++[v]++cs) (.ret (.bool p))):
    aa Tryz.prog 137 [v,.vptr [.func (.func g) fs cs]] (.ret (.bool !p)):=by
  skip
  refine aa.of Tryz.func137 rfl (ab enters Tryz.func137 rfl) (by simp[Tryz.ntmps137]) ?_;show W Tryz.prog 8 _ none _ _ _;have hz:tsz Tryz.prog 121=some 1:=by kernel_rfl
  have hg:tag Tryz.prog 121=some false:=by kernel_rfl
  have hld: ∀H,al Tryz.prog 121 (.vptr [.func (.func g) fs cs]) H=some (.func (.func g) fs cs):=by intro H;simp[al,hz,hg,ldA]
  have hhf:AV.hfs (fs++([v]++cs))=true:=by
    rw[be]at h1 h2 ⊢;simp[List.all_append,h1,h2,hv]
  have hld2:True:=trivial;refine .seq (.region [] (by decide) ?_);simp only[ao,gdA,ae,ad,ai,au,evalOp,St.ev,St.put,bn,ofV,ak];refine .seq (.region [.pure (.ret (.bool p))] (by decide) ?_);simp only[ao,gdA,ae,ad,ai,au,evalOp,St.ev,Av.get,St.put,ak,Nat.reduceEqDiff,↓reduceIte,aX,List.map_cons,List.map_nil,Option.map_some,hld,hld2,List.append_assoc,hhf,eF];refine⟨by rw[List.append_assoc]at hp;exact hp,?_⟩;exact .ret ⟨_,rfl,_,rfl,.refl _⟩
theorem Bm (x:Bool) (es:List AV) (g:FuncId) (fs cs:List AV) (p:AV→Bool) (hs: ∀v∈es,shp 0 v) (hh:AV.hfs es=true∧AV.hfs fs=true∧AV.hfs cs=true)
    (hp: ∀v∈es,aa Tryz.prog g (fs++[v]++cs) (.ret (.bool (p v)))):aa Tryz.prog 93 [.vsl 0 x es,.func (.func g) fs cs] (.ret (.bool (es.all p))):=by
  obtain⟨h0,h1,h2⟩:=hh;refine aa.of Tryz.func93 rfl (ab enters Tryz.func93 rfl) (by simp[Tryz.ntmps93]) ?_;show W Tryz.prog 9 _ none _ _ _;refine .seq (.region [] (by decide) ?_);simp only[ao,gdA,ae,ad,ai,au,evalOp,St.ev,Av.get,St.put,bn,ofV,ak,Nat.reduceEqDiff,↓reduceIte,List.nil_append,AV.told,AV.cells,List.length_nil];have hl:=kg (g:=g) (fs:=fs) (cs:=cs) (es:=es) (h:=137) (b:=false) (x:=x) (wd:=0) (o:=es.any fun v=> !p v) h0 h1 h2;refine .seq (.region [.pure (.ret (.bool (es.any fun v=> !p v)))] (by decide) ?_)
  simp only[ao,gdA,ae,ad,ai,au,evalOp,St.ev,Av.get,St.put,ak,Nat.reduceEqDiff,↓reduceIte,List.map_cons,List.map_nil,List.nil_append,List.append_nil,Option.map_some,hl,eF];refine⟨cfB x es 137 [] [.vptr [.func (.func g) fs cs]] (fun v=> !p v) hs ⟨h0,rfl,by simp[AV.hfs,AV.hf,h1,h2]⟩ (fun v hv=>La v (hs v hv) g fs cs (p v) ?_ h1 h2 (hp v hv)),?_⟩
  · rw[be]at h0;exact List.all_eq_true.1 h0 v hv
  · refine .ret ⟨_,rfl,_,rfl,?_⟩
    have:(!es.any fun v=> !p v)=es.all p:=by
      rw[List.any_eq_not_all_not];simp
    rw[this];exact .refl _
theorem Jd:tsz Tryz.prog 55=some (esz 3):=by kernel_rfl
theorem Lb:tag Tryz.prog 55=some (decide (3≠0)):=by kernel_rfl
theorem Lc (x:Bool) (es:List AV) (g:FuncId) (fs cs:List AV) (p:AV→Bool) (hs: ∀v∈es,shp 3 v) (hh:AV.hfs es=true∧AV.hfs fs=true∧AV.hfs cs=true)
    (hp: ∀v∈es,aa Tryz.prog g (fs++[v]++cs) (.ret (.bool (p v)))):aa Tryz.prog 170 [.vsl 3 x es,.func (.func g) fs cs] (.ret (.int .i64 (fI p 0 es))):=by
  refine aa.fit fun hfit=> ?_;have hb:es.length≤ay:=hfit (.vsl 3 x es) (by simp);refine aa.of Tryz.func170 rfl (ab enters Tryz.func170 rfl) (by simp[Tryz.ntmps170]) ?_;show W Tryz.prog 19 _ none _ _ _;refine .seq (.region [] (by decide) ?_);simp only[ao,gdA,ae,ad,ai,au,evalOp,St.ev,St.put,bn,ofV,ak];have hln: ∀H,aI Tryz.prog 44 (.vsl 3 x es) H=some (.int .i64 es.length):=by intro H;simp[aI,Tryz.underlying44]
  refine .seq (.seq (.region [] (by decide) ?_));simp only[ao,deN,gdA,ae,ad,ai,au,evalOp,St.ev,Av.get,St.put,ofV,ak,Nat.reduceEqDiff,↓reduceIte,Option.map_some,hln];refine .block ?_
  refine .bh (X:=Nat) (fun i=>[(8,.int .i64 (i:Int)),(7,.int .i64 es.length),(1,.func (.func g) fs cs),(0,.vsl 3 x es)]) (fun i=>[]) (fun i=>i≤es.length∧fI p i (es.drop i)=fI p 0 es) (fun i=>es.length - i) 0 ⟨Nat.zero_le _,rfl⟩
    (by simp[aB,Av.get]) rfl ?_
  rintro i ⟨hi,hall⟩;refine .seq (.region [] (by decide) ?_);simp only[ao,gdA,ae,ad,ai,au,evalOp,St.ev,Av.get,St.put,ak,Nat.reduceEqDiff,↓reduceIte,cr];by_cases h:i<es.length
  · obtain⟨v,hv⟩: ∃v,es[i]? =some v:=⟨es[i],List.getElem?_eq_getElem h⟩
    have hmem:v∈es:=List.mem_of_getElem? hv;have hdrop:es.drop i=v::es.drop (i+1):=by
      rw[List.drop_eq_getElem_cons h];rw[List.getElem?_eq_getElem h]at hv;cases hv;rfl
    rw[hdrop,fI]at hall;have hia: ∀H,ah Tryz.prog 44 (.vsl 3 x es) (.int .i64 (i:Int)) H=some (.vptr v.cells):=by
      intro H;have:=lY (hs v hmem);simp[ah,bL,Tryz.underlying44,Jd,hv,this]
    have hld: ∀H,al Tryz.prog 55 (.vptr v.cells) H=some v:=fun H=>pg Jd Lb (hs v hmem) H;have hhf:AV.hfs (fs++([v]++cs))=true:=by
      have h1:AV.hf v=true:=by have:=hh.1;rw[be]at this;exact List.all_eq_true.1 this v hmem
      have h2:=hh.2.1;have h3:=hh.2.2;rw[be]at h2 h3 ⊢;simp[List.all_append,h1,h2,h3]
    refine .seq (.cond (t:=true) (by simp[St.ev,Av.get];omega) (.skip ?_));simp only[ak];refine .rZ (p v=false) [(8,.int .i64 (i:Int)),(7,.int .i64 es.length),(1,.func (.func g) fs cs),(0,.vsl 3 x es)] [] (x:=Code.block 1 _) ?_ ?_
    · refine .block (.seq (.region [] (by decide) ?_))
      simp only[ao,gdA,ae,ad,ai,au,evalOp,St.ev,Av.get,St.put,ak,Nat.reduceEqDiff,↓reduceIte];refine .seq (.region [.pure (.ret (.bool (p v)))] (by decide) ?_);simp only[ao,gdA,ae,ad,ai,au,evalOp,St.ev,Av.get,St.put,ak,Nat.reduceEqDiff,↓reduceIte,aX,List.map_cons,List.map_nil,Option.map_some,hia,hld,List.append_assoc,hhf];refine⟨by have:=hp v hmem;rw[List.append_assoc]at this;exact this,?_⟩;cases hpv:p v with
      | true=>
        refine .cond (t:=true) rfl (.seq (.region [] (by decide) ?_));simp only[ao,gdA,ae,ad,ai,au,evalOp,St.ev,Av.get,St.put,ak,Nat.reduceEqDiff,↓reduceIte];refine .ret ?_;rw[if_pos hpv]at hall;rw[←hall];exact⟨_,rfl,_,rfl,.refl _⟩
      | false=>
        refine .cond (t:=false) rfl (.skip ?_);refine⟨rfl,?_,rfl,rfl⟩;simp[aB,Av.get]
    · intro hgood
      rw[hgood]at hall;simp only[Bool.false_eq_true,if_false]at hall;refine .region [] (by decide) ?_;have hadd:aW Tryz.prog .add 3 (.int .i64 (i:Int)) (.int .i64 1)=some (.int .i64 ((i+1:Nat):Int)):=by
        rw[du _ _ (by simp only[ay]at hb;omega)];simp
      simp only[ao,gdA,ae,ad,ai,au,evalOp,St.ev,Av.get,St.put,ofV,ak,↓reduceIte,hadd];refine⟨i+1,⟨by omega,hall⟩,by omega,?_,trivial,trivial⟩;simp[aB,Av.get]
  · have hi':i=es.length:=by omega
    subst hi';refine .seq (.cond (t:=false) (by simp[St.ev,Av.get]) (.exit ?_));simp only[ak,↓reduceIte,bl];refine .seq (.region [] (by decide) ?_);have ht:fI p 0 es= -1:=by rw[←hall,List.drop_length];rfl
    rw[ht];simp only[ao,gdA,ae,ad,ai,au,evalOp,St.ev,St.put,ofV,ak];exact .ret ⟨_,rfl,_,rfl,.refl _⟩
theorem cfP (x:Bool) (es:List AV) (g:FuncId) (fs cs:List AV) (p:AV→Bool) (hs: ∀v∈es,shp 3 v) (hh:AV.hfs es=true∧AV.hfs fs=true∧AV.hfs cs=true)
    (hp: ∀v∈es,aa Tryz.prog g (fs++[v]++cs) (.ret (.bool (p v)))):aa Tryz.prog 133 [.vsl 3 x es,.func (.func g) fs cs] (.ret (.bool (es.any p))):=by
  refine aa.of Tryz.func133 rfl (ab enters Tryz.func133 rfl) (by simp[Tryz.ntmps133]) ?_;show W Tryz.prog 9 _ none _ _ _;refine .seq (.region [] (by decide) ?_);simp only[ao,gdA,ae,ad,ai,au,evalOp,St.ev,St.put,bn,ofV,ak];refine .seq (.region [.pure (.ret (.int .i64 (fI p 0 es)))] (by decide) ?_);obtain⟨h1,h2,h3⟩:=hh;simp only[ao,gdA,ae,ad,ai,au,evalOp,St.ev,Av.get,St.put,ofV,ak,Nat.reduceEqDiff,↓reduceIte,aX,AV.hfs,AV.hf,Bool.and_self,List.map_cons,List.map_nil,List.nil_append,List.append_nil,h1,h2,h3,ed,pf];refine⟨Lc x es g fs cs p hs ⟨h1,h2,h3⟩ hp,?_⟩;exact .ret ⟨_,rfl,_,rfl,.refl _⟩
theorem Ld(v:AV)(hsh:shp 3 v)(g:FuncId)(fs cs:List AV)(p:Bool)(hv:AV.hf v=true)(h1:AV.hfs fs=true)(h2:AV.hfs cs=true)(hp:aa Tryz.prog g (fs++[v]++cs) (.ret (.bool p))):
    aa Tryz.prog 134 [v,.vptr [.func (.func g) fs cs]] (.ret (.bool !p)):=by
  skip
  refine aa.of Tryz.func134 rfl (ab enters Tryz.func134 rfl) (by simp[Tryz.ntmps134]) ?_;show W Tryz.prog 8 _ none _ _ _;have hz:tsz Tryz.prog 119=some 1:=by kernel_rfl
  have hg:tag Tryz.prog 119=some false:=by kernel_rfl
  have hld: ∀H,al Tryz.prog 119 (.vptr [.func (.func g) fs cs]) H=some (.func (.func g) fs cs):=by intro H;simp[al,hz,hg,ldA]
  have hhf:AV.hfs (fs++([v]++cs))=true:=by
    rw[be]at h1 h2 ⊢;simp[List.all_append,h1,h2,hv]
  obtain⟨l,rfl,hl'⟩:=hsh;have hl:l.length=2:=hl';have hz2:tsz Tryz.prog 55=some 2:=by kernel_rfl
  have hg2:tag Tryz.prog 55=some true:=by kernel_rfl
  have hld2:al Tryz.prog 55 (.ptr 0 0) [.cells l false]=some (.agg l):=by
    simp[al,hz2,hg2,ldA,hl];exact List.take_of_length_le (by rw[hl];exact Nat.le_refl 2)
  refine .seq (.region [] (by decide) ?_);simp only[ao,gdA,ae,ad,ai,au,evalOp,St.ev,Av.get,St.put,bn,ofV,ak,↓reduceIte,List.nil_append,AV.told,AV.cells,List.length_nil];refine .seq (.region [.pure (.ret (.bool p))] (by decide) ?_);simp only[ao,gdA,ae,ad,ai,au,evalOp,St.ev,Av.get,St.put,ak,Nat.reduceEqDiff,↓reduceIte,aX,List.map_cons,List.map_nil,Option.map_some,hld,hld2,List.append_assoc,hhf,eF];refine⟨by rw[List.append_assoc]at hp;exact hp,?_⟩;exact .ret ⟨_,rfl,_,rfl,.refl _⟩
theorem GR (x:Bool) (es:List AV) (g:FuncId) (fs cs:List AV) (p:AV→Bool) (hs: ∀v∈es,shp 3 v) (hh:AV.hfs es=true∧AV.hfs fs=true∧AV.hfs cs=true)
    (hp: ∀v∈es,aa Tryz.prog g (fs++[v]++cs) (.ret (.bool (p v)))):aa Tryz.prog 91 [.vsl 3 x es,.func (.func g) fs cs] (.ret (.bool (es.all p))):=by
  obtain⟨h0,h1,h2⟩:=hh;refine aa.of Tryz.func91 rfl (ab enters Tryz.func91 rfl) (by simp[Tryz.ntmps91]) ?_;show W Tryz.prog 9 _ none _ _ _;refine .seq (.region [] (by decide) ?_);simp only[ao,gdA,ae,ad,ai,au,evalOp,St.ev,Av.get,St.put,bn,ofV,ak,Nat.reduceEqDiff,↓reduceIte,List.nil_append,AV.told,AV.cells,List.length_nil];have hl:=kg (g:=g) (fs:=fs) (cs:=cs) (es:=es) (h:=134) (b:=false) (x:=x) (wd:=3) (o:=es.any fun v=> !p v) h0 h1 h2;refine .seq (.region [.pure (.ret (.bool (es.any fun v=> !p v)))] (by decide) ?_)
  simp only[ao,gdA,ae,ad,ai,au,evalOp,St.ev,Av.get,St.put,ak,Nat.reduceEqDiff,↓reduceIte,List.map_cons,List.map_nil,List.nil_append,List.append_nil,Option.map_some,hl,eF];refine⟨cfP x es 134 [] [.vptr [.func (.func g) fs cs]] (fun v=> !p v) hs ⟨h0,rfl,by simp[AV.hfs,AV.hf,h1,h2]⟩ (fun v hv=>Ld v (hs v hv) g fs cs (p v) ?_ h1 h2 (hp v hv)),?_⟩
  · rw[be]at h0;exact List.all_eq_true.1 h0 v hv
  · refine .ret ⟨_,rfl,_,rfl,?_⟩
    have:(!es.any fun v=> !p v)=es.all p:=by
      rw[List.any_eq_not_all_not];simp
    rw[this];exact .refl _
theorem Je:tsz Tryz.prog 46=some (esz 5):=by kernel_rfl
theorem Lf:tag Tryz.prog 46=some (decide (5≠0)):=by kernel_rfl
theorem Lg (x:Bool) (es:List AV) (g:FuncId) (fs cs:List AV) (p:AV→Bool) (hs: ∀v∈es,shp 5 v) (hh:AV.hfs es=true∧AV.hfs fs=true∧AV.hfs cs=true)
    (hp: ∀v∈es,aa Tryz.prog g (fs++[v]++cs) (.ret (.bool (p v)))):aa Tryz.prog 131 [.vsl 5 x es,.func (.func g) fs cs] (.ret (.int .i64 (fI p 0 es))):=by
  refine aa.fit fun hfit=> ?_;have hb:es.length≤ay:=hfit (.vsl 5 x es) (by simp);refine aa.of Tryz.func131 rfl (ab enters Tryz.func131 rfl) (by simp[Tryz.ntmps131]) ?_;show W Tryz.prog 19 _ none _ _ _;refine .seq (.region [] (by decide) ?_);simp only[ao,gdA,ae,ad,ai,au,evalOp,St.ev,St.put,bn,ofV,ak];have hln: ∀H,aI Tryz.prog 22 (.vsl 5 x es) H=some (.int .i64 es.length):=by intro H;simp[aI,Tryz.underlying22]
  refine .seq (.seq (.region [] (by decide) ?_));simp only[ao,deN,gdA,ae,ad,ai,au,evalOp,St.ev,Av.get,St.put,ofV,ak,Nat.reduceEqDiff,↓reduceIte,Option.map_some,hln];refine .block ?_
  refine .bh (X:=Nat) (fun i=>[(8,.int .i64 (i:Int)),(7,.int .i64 es.length),(1,.func (.func g) fs cs),(0,.vsl 5 x es)]) (fun i=>[]) (fun i=>i≤es.length∧fI p i (es.drop i)=fI p 0 es) (fun i=>es.length - i) 0 ⟨Nat.zero_le _,rfl⟩
    (by simp[aB,Av.get]) rfl ?_
  rintro i ⟨hi,hall⟩;refine .seq (.region [] (by decide) ?_);simp only[ao,gdA,ae,ad,ai,au,evalOp,St.ev,Av.get,St.put,ak,Nat.reduceEqDiff,↓reduceIte,cr];by_cases h:i<es.length
  · obtain⟨v,hv⟩: ∃v,es[i]? =some v:=⟨es[i],List.getElem?_eq_getElem h⟩
    have hmem:v∈es:=List.mem_of_getElem? hv;have hdrop:es.drop i=v::es.drop (i+1):=by
      rw[List.drop_eq_getElem_cons h];rw[List.getElem?_eq_getElem h]at hv;cases hv;rfl
    rw[hdrop,fI]at hall;have hia: ∀H,ah Tryz.prog 22 (.vsl 5 x es) (.int .i64 (i:Int)) H=some (.vptr v.cells):=by
      intro H;have:=lY (hs v hmem);simp[ah,bL,Tryz.underlying22,Je,hv,this]
    have hld: ∀H,al Tryz.prog 46 (.vptr v.cells) H=some v:=fun H=>pg Je Lf (hs v hmem) H;have hhf:AV.hfs (fs++([v]++cs))=true:=by
      have h1:AV.hf v=true:=by have:=hh.1;rw[be]at this;exact List.all_eq_true.1 this v hmem
      have h2:=hh.2.1;have h3:=hh.2.2;rw[be]at h2 h3 ⊢;simp[List.all_append,h1,h2,h3]
    refine .seq (.cond (t:=true) (by simp[St.ev,Av.get];omega) (.skip ?_));simp only[ak];refine .rZ (p v=false) [(8,.int .i64 (i:Int)),(7,.int .i64 es.length),(1,.func (.func g) fs cs),(0,.vsl 5 x es)] [] (x:=Code.block 1 _) ?_ ?_
    · refine .block (.seq (.region [] (by decide) ?_))
      simp only[ao,gdA,ae,ad,ai,au,evalOp,St.ev,Av.get,St.put,ak,Nat.reduceEqDiff,↓reduceIte];refine .seq (.region [.pure (.ret (.bool (p v)))] (by decide) ?_);simp only[ao,gdA,ae,ad,ai,au,evalOp,St.ev,Av.get,St.put,ak,Nat.reduceEqDiff,↓reduceIte,aX,List.map_cons,List.map_nil,Option.map_some,hia,hld,List.append_assoc,hhf];refine⟨by have:=hp v hmem;rw[List.append_assoc]at this;exact this,?_⟩;cases hpv:p v with
      | true=>
        refine .cond (t:=true) rfl (.seq (.region [] (by decide) ?_));simp only[ao,gdA,ae,ad,ai,au,evalOp,St.ev,Av.get,St.put,ak,Nat.reduceEqDiff,↓reduceIte];refine .ret ?_;rw[if_pos hpv]at hall;rw[←hall];exact⟨_,rfl,_,rfl,.refl _⟩
      | false=>
        refine .cond (t:=false) rfl (.skip ?_);refine⟨rfl,?_,rfl,rfl⟩;simp[aB,Av.get]
    · intro hgood
      rw[hgood]at hall;simp only[Bool.false_eq_true,if_false]at hall;refine .region [] (by decide) ?_;have hadd:aW Tryz.prog .add 3 (.int .i64 (i:Int)) (.int .i64 1)=some (.int .i64 ((i+1:Nat):Int)):=by
        rw[du _ _ (by simp only[ay]at hb;omega)];simp
      simp only[ao,gdA,ae,ad,ai,au,evalOp,St.ev,Av.get,St.put,ofV,ak,↓reduceIte,hadd];refine⟨i+1,⟨by omega,hall⟩,by omega,?_,trivial,trivial⟩;simp[aB,Av.get]
  · have hi':i=es.length:=by omega
    subst hi';refine .seq (.cond (t:=false) (by simp[St.ev,Av.get]) (.exit ?_));simp only[ak,↓reduceIte,bl];refine .seq (.region [] (by decide) ?_);have ht:fI p 0 es= -1:=by rw[←hall,List.drop_length];rfl
    rw[ht];simp only[ao,gdA,ae,ad,ai,au,evalOp,St.ev,St.put,ofV,ak];exact .ret ⟨_,rfl,_,rfl,.refl _⟩
theorem cfL (x:Bool) (es:List AV) (g:FuncId) (fs cs:List AV) (p:AV→Bool) (hs: ∀v∈es,shp 5 v) (hh:AV.hfs es=true∧AV.hfs fs=true∧AV.hfs cs=true)
    (hp: ∀v∈es,aa Tryz.prog g (fs++[v]++cs) (.ret (.bool (p v)))):aa Tryz.prog 88 [.vsl 5 x es,.func (.func g) fs cs] (.ret (.bool (es.any p))):=by
  refine aa.of Tryz.func88 rfl (ab enters Tryz.func88 rfl) (by simp[Tryz.ntmps88]) ?_;show W Tryz.prog 9 _ none _ _ _;refine .seq (.region [] (by decide) ?_);simp only[ao,gdA,ae,ad,ai,au,evalOp,St.ev,St.put,bn,ofV,ak];refine .seq (.region [.pure (.ret (.int .i64 (fI p 0 es)))] (by decide) ?_);obtain⟨h1,h2,h3⟩:=hh;simp only[ao,gdA,ae,ad,ai,au,evalOp,St.ev,Av.get,St.put,ofV,ak,Nat.reduceEqDiff,↓reduceIte,aX,AV.hfs,AV.hf,Bool.and_self,List.map_cons,List.map_nil,List.nil_append,List.append_nil,h1,h2,h3,ed,pf];refine⟨Lg x es g fs cs p hs ⟨h1,h2,h3⟩ hp,?_⟩;exact .ret ⟨_,rfl,_,rfl,.refl _⟩
theorem Lh(v:AV)(hsh:shp 5 v)(g:FuncId)(fs cs:List AV)(p:Bool)(hv:AV.hf v=true)(h1:AV.hfs fs=true)(h2:AV.hfs cs=true)(hp:aa Tryz.prog g (fs++[v]++cs) (.ret (.bool p))):
    aa Tryz.prog 89 [v,.vptr [.func (.func g) fs cs]] (.ret (.bool !p)):=by
  skip
  refine aa.of Tryz.func89 rfl (ab enters Tryz.func89 rfl) (by simp[Tryz.ntmps89]) ?_;show W Tryz.prog 8 _ none _ _ _;have hz:tsz Tryz.prog 43=some 1:=by kernel_rfl
  have hg:tag Tryz.prog 43=some false:=by kernel_rfl
  have hld: ∀H,al Tryz.prog 43 (.vptr [.func (.func g) fs cs]) H=some (.func (.func g) fs cs):=by intro H;simp[al,hz,hg,ldA]
  have hhf:AV.hfs (fs++([v]++cs))=true:=by
    rw[be]at h1 h2 ⊢;simp[List.all_append,h1,h2,hv]
  obtain⟨l,rfl,hl'⟩:=hsh;have hl:l.length=4:=hl';have hz2:tsz Tryz.prog 46=some 4:=by kernel_rfl
  have hg2:tag Tryz.prog 46=some true:=by kernel_rfl
  have hld2:al Tryz.prog 46 (.ptr 0 0) [.cells l false]=some (.agg l):=by
    simp[al,hz2,hg2,ldA,hl];exact List.take_of_length_le (by rw[hl];exact Nat.le_refl 4)
  refine .seq (.region [] (by decide) ?_);simp only[ao,gdA,ae,ad,ai,au,evalOp,St.ev,Av.get,St.put,bn,ofV,ak,↓reduceIte,List.nil_append,AV.told,AV.cells,List.length_nil];refine .seq (.region [.pure (.ret (.bool p))] (by decide) ?_);simp only[ao,gdA,ae,ad,ai,au,evalOp,St.ev,Av.get,St.put,ak,Nat.reduceEqDiff,↓reduceIte,aX,List.map_cons,List.map_nil,Option.map_some,hld,hld2,List.append_assoc,hhf,eF];refine⟨by rw[List.append_assoc]at hp;exact hp,?_⟩;exact .ret ⟨_,rfl,_,rfl,.refl _⟩
theorem GS (x:Bool) (es:List AV) (g:FuncId) (fs cs:List AV) (p:AV→Bool) (hs: ∀v∈es,shp 5 v) (hh:AV.hfs es=true∧AV.hfs fs=true∧AV.hfs cs=true)
    (hp: ∀v∈es,aa Tryz.prog g (fs++[v]++cs) (.ret (.bool (p v)))):aa Tryz.prog 46 [.vsl 5 x es,.func (.func g) fs cs] (.ret (.bool (es.all p))):=by
  obtain⟨h0,h1,h2⟩:=hh;refine aa.of Tryz.func46 rfl (ab enters Tryz.func46 rfl) (by simp[Tryz.ntmps46]) ?_;show W Tryz.prog 9 _ none _ _ _;refine .seq (.region [] (by decide) ?_);simp only[ao,gdA,ae,ad,ai,au,evalOp,St.ev,Av.get,St.put,bn,ofV,ak,Nat.reduceEqDiff,↓reduceIte,List.nil_append,AV.told,AV.cells,List.length_nil];have hl:=kg (g:=g) (fs:=fs) (cs:=cs) (es:=es) (h:=89) (b:=false) (x:=x) (wd:=5) (o:=es.any fun v=> !p v) h0 h1 h2;refine .seq (.region [.pure (.ret (.bool (es.any fun v=> !p v)))] (by decide) ?_)
  simp only[ao,gdA,ae,ad,ai,au,evalOp,St.ev,Av.get,St.put,ak,Nat.reduceEqDiff,↓reduceIte,List.map_cons,List.map_nil,List.nil_append,List.append_nil,Option.map_some,hl,eF];refine⟨cfL x es 89 [] [.vptr [.func (.func g) fs cs]] (fun v=> !p v) hs ⟨h0,rfl,by simp[AV.hfs,AV.hf,h1,h2]⟩ (fun v hv=>Lh v (hs v hv) g fs cs (p v) ?_ h1 h2 (hp v hv)),?_⟩
  · rw[be]at h0;exact List.all_eq_true.1 h0 v hv
  · refine .ret ⟨_,rfl,_,rfl,?_⟩
    have:(!es.any fun v=> !p v)=es.all p:=by
      rw[List.any_eq_not_all_not];simp
    rw[this];exact .refl _
theorem Jf:tsz Tryz.prog 159=some (esz 3):=by kernel_rfl
theorem Ll:tag Tryz.prog 159=some (decide (3≠0)):=by kernel_rfl
theorem Lm (x:Bool) (es:List AV) (g:FuncId) (fs cs:List AV) (p:AV→Bool) (hs: ∀v∈es,shp 3 v) (hh:AV.hfs es=true∧AV.hfs fs=true∧AV.hfs cs=true)
    (hp: ∀v∈es,aa Tryz.prog g (fs++[v]++cs) (.ret (.bool (p v)))):aa Tryz.prog 212 [.vsl 3 x es,.func (.func g) fs cs] (.ret (.int .i64 (fI p 0 es))):=by
  refine aa.fit fun hfit=> ?_;have hb:es.length≤ay:=hfit (.vsl 3 x es) (by simp);refine aa.of Tryz.func212 rfl (ab enters Tryz.func212 rfl) (by simp[Tryz.ntmps212]) ?_;show W Tryz.prog 19 _ none _ _ _;refine .seq (.region [] (by decide) ?_);simp only[ao,gdA,ae,ad,ai,au,evalOp,St.ev,St.put,bn,ofV,ak];have hln: ∀H,aI Tryz.prog 160 (.vsl 3 x es) H=some (.int .i64 es.length):=by intro H;simp[aI,Tryz.underlying160]
  refine .seq (.seq (.region [] (by decide) ?_));simp only[ao,deN,gdA,ae,ad,ai,au,evalOp,St.ev,Av.get,St.put,ofV,ak,Nat.reduceEqDiff,↓reduceIte,Option.map_some,hln];refine .block ?_
  refine .bh (X:=Nat) (fun i=>[(8,.int .i64 (i:Int)),(7,.int .i64 es.length),(1,.func (.func g) fs cs),(0,.vsl 3 x es)]) (fun i=>[]) (fun i=>i≤es.length∧fI p i (es.drop i)=fI p 0 es) (fun i=>es.length - i) 0 ⟨Nat.zero_le _,rfl⟩
    (by simp[aB,Av.get]) rfl ?_
  rintro i ⟨hi,hall⟩;refine .seq (.region [] (by decide) ?_);simp only[ao,gdA,ae,ad,ai,au,evalOp,St.ev,Av.get,St.put,ak,Nat.reduceEqDiff,↓reduceIte,cr];by_cases h:i<es.length
  · obtain⟨v,hv⟩: ∃v,es[i]? =some v:=⟨es[i],List.getElem?_eq_getElem h⟩
    have hmem:v∈es:=List.mem_of_getElem? hv;have hdrop:es.drop i=v::es.drop (i+1):=by
      rw[List.drop_eq_getElem_cons h];rw[List.getElem?_eq_getElem h]at hv;cases hv;rfl
    rw[hdrop,fI]at hall;have hia: ∀H,ah Tryz.prog 160 (.vsl 3 x es) (.int .i64 (i:Int)) H=some (.vptr v.cells):=by
      intro H;have:=lY (hs v hmem);simp[ah,bL,Tryz.underlying160,Jf,hv,this]
    have hld: ∀H,al Tryz.prog 159 (.vptr v.cells) H=some v:=fun H=>pg Jf Ll (hs v hmem) H;have hhf:AV.hfs (fs++([v]++cs))=true:=by
      have h1:AV.hf v=true:=by have:=hh.1;rw[be]at this;exact List.all_eq_true.1 this v hmem
      have h2:=hh.2.1;have h3:=hh.2.2;rw[be]at h2 h3 ⊢;simp[List.all_append,h1,h2,h3]
    refine .seq (.cond (t:=true) (by simp[St.ev,Av.get];omega) (.skip ?_));simp only[ak];refine .rZ (p v=false) [(8,.int .i64 (i:Int)),(7,.int .i64 es.length),(1,.func (.func g) fs cs),(0,.vsl 3 x es)] [] (x:=Code.block 1 _) ?_ ?_
    · refine .block (.seq (.region [] (by decide) ?_))
      simp only[ao,gdA,ae,ad,ai,au,evalOp,St.ev,Av.get,St.put,ak,Nat.reduceEqDiff,↓reduceIte];refine .seq (.region [.pure (.ret (.bool (p v)))] (by decide) ?_);simp only[ao,gdA,ae,ad,ai,au,evalOp,St.ev,Av.get,St.put,ak,Nat.reduceEqDiff,↓reduceIte,aX,List.map_cons,List.map_nil,Option.map_some,hia,hld,List.append_assoc,hhf];refine⟨by have:=hp v hmem;rw[List.append_assoc]at this;exact this,?_⟩;cases hpv:p v with
      | true=>
        refine .cond (t:=true) rfl (.seq (.region [] (by decide) ?_));simp only[ao,gdA,ae,ad,ai,au,evalOp,St.ev,Av.get,St.put,ak,Nat.reduceEqDiff,↓reduceIte];refine .ret ?_;rw[if_pos hpv]at hall;rw[←hall];exact⟨_,rfl,_,rfl,.refl _⟩
      | false=>
        refine .cond (t:=false) rfl (.skip ?_);refine⟨rfl,?_,rfl,rfl⟩;simp[aB,Av.get]
    · intro hgood
      rw[hgood]at hall;simp only[Bool.false_eq_true,if_false]at hall;refine .region [] (by decide) ?_;have hadd:aW Tryz.prog .add 3 (.int .i64 (i:Int)) (.int .i64 1)=some (.int .i64 ((i+1:Nat):Int)):=by
        rw[du _ _ (by simp only[ay]at hb;omega)];simp
      simp only[ao,gdA,ae,ad,ai,au,evalOp,St.ev,Av.get,St.put,ofV,ak,↓reduceIte,hadd];refine⟨i+1,⟨by omega,hall⟩,by omega,?_,trivial,trivial⟩;simp[aB,Av.get]
  · have hi':i=es.length:=by omega
    subst hi';refine .seq (.cond (t:=false) (by simp[St.ev,Av.get]) (.exit ?_));simp only[ak,↓reduceIte,bl];refine .seq (.region [] (by decide) ?_);have ht:fI p 0 es= -1:=by rw[←hall,List.drop_length];rfl
    rw[ht];simp only[ao,gdA,ae,ad,ai,au,evalOp,St.ev,St.put,ofV,ak];exact .ret ⟨_,rfl,_,rfl,.refl _⟩
theorem cfR (x:Bool) (es:List AV) (g:FuncId) (fs cs:List AV) (p:AV→Bool) (hs: ∀v∈es,shp 3 v) (hh:AV.hfs es=true∧AV.hfs fs=true∧AV.hfs cs=true)
    (hp: ∀v∈es,aa Tryz.prog g (fs++[v]++cs) (.ret (.bool (p v)))):aa Tryz.prog 194 [.vsl 3 x es,.func (.func g) fs cs] (.ret (.bool (es.any p))):=by
  refine aa.of Tryz.func194 rfl (ab enters Tryz.func194 rfl) (by simp[Tryz.ntmps194]) ?_;show W Tryz.prog 9 _ none _ _ _;refine .seq (.region [] (by decide) ?_);simp only[ao,gdA,ae,ad,ai,au,evalOp,St.ev,St.put,bn,ofV,ak];refine .seq (.region [.pure (.ret (.int .i64 (fI p 0 es)))] (by decide) ?_);obtain⟨h1,h2,h3⟩:=hh;simp only[ao,gdA,ae,ad,ai,au,evalOp,St.ev,Av.get,St.put,ofV,ak,Nat.reduceEqDiff,↓reduceIte,aX,AV.hfs,AV.hf,Bool.and_self,List.map_cons,List.map_nil,List.nil_append,List.append_nil,h1,h2,h3,ed,pf];refine⟨Lm x es g fs cs p hs ⟨h1,h2,h3⟩ hp,?_⟩;exact .ret ⟨_,rfl,_,rfl,.refl _⟩
theorem Lp(v:AV)(hsh:shp 3 v)(g:FuncId)(fs cs:List AV)(p:Bool)(hv:AV.hf v=true)(h1:AV.hfs fs=true)(h2:AV.hfs cs=true)(hp:aa Tryz.prog g (fs++[v]++cs) (.ret (.bool p))):
    aa Tryz.prog 195 [v,.vptr [.func (.func g) fs cs]] (.ret (.bool !p)):=by
  skip
  refine aa.of Tryz.func195 rfl (ab enters Tryz.func195 rfl) (by simp[Tryz.ntmps195]) ?_;show W Tryz.prog 8 _ none _ _ _;have hz:tsz Tryz.prog 197=some 1:=by kernel_rfl
  have hg:tag Tryz.prog 197=some false:=by kernel_rfl
  have hld: ∀H,al Tryz.prog 197 (.vptr [.func (.func g) fs cs]) H=some (.func (.func g) fs cs):=by intro H;simp[al,hz,hg,ldA]
  have hhf:AV.hfs (fs++([v]++cs))=true:=by
    rw[be]at h1 h2 ⊢;simp[List.all_append,h1,h2,hv]
  obtain⟨l,rfl,hl'⟩:=hsh;have hl:l.length=2:=hl';have hz2:tsz Tryz.prog 159=some 2:=by kernel_rfl
  have hg2:tag Tryz.prog 159=some true:=by kernel_rfl
  have hld2:al Tryz.prog 159 (.ptr 0 0) [.cells l false]=some (.agg l):=by
    simp[al,hz2,hg2,ldA,hl];exact List.take_of_length_le (by rw[hl];exact Nat.le_refl 2)
  refine .seq (.region [] (by decide) ?_);simp only[ao,gdA,ae,ad,ai,au,evalOp,St.ev,Av.get,St.put,bn,ofV,ak,↓reduceIte,List.nil_append,AV.told,AV.cells,List.length_nil];refine .seq (.region [.pure (.ret (.bool p))] (by decide) ?_);simp only[ao,gdA,ae,ad,ai,au,evalOp,St.ev,Av.get,St.put,ak,Nat.reduceEqDiff,↓reduceIte,aX,List.map_cons,List.map_nil,Option.map_some,hld,hld2,List.append_assoc,hhf,eF];refine⟨by rw[List.append_assoc]at hp;exact hp,?_⟩;exact .ret ⟨_,rfl,_,rfl,.refl _⟩
theorem GU (x:Bool) (es:List AV) (g:FuncId) (fs cs:List AV) (p:AV→Bool) (hs: ∀v∈es,shp 3 v) (hh:AV.hfs es=true∧AV.hfs fs=true∧AV.hfs cs=true)
    (hp: ∀v∈es,aa Tryz.prog g (fs++[v]++cs) (.ret (.bool (p v)))):aa Tryz.prog 169 [.vsl 3 x es,.func (.func g) fs cs] (.ret (.bool (es.all p))):=by
  obtain⟨h0,h1,h2⟩:=hh;refine aa.of Tryz.func169 rfl (ab enters Tryz.func169 rfl) (by simp[Tryz.ntmps169]) ?_;show W Tryz.prog 9 _ none _ _ _;refine .seq (.region [] (by decide) ?_);simp only[ao,gdA,ae,ad,ai,au,evalOp,St.ev,Av.get,St.put,bn,ofV,ak,Nat.reduceEqDiff,↓reduceIte,List.nil_append,AV.told,AV.cells,List.length_nil];have hl:=kg (g:=g) (fs:=fs) (cs:=cs) (es:=es) (h:=195) (b:=false) (x:=x) (wd:=3) (o:=es.any fun v=> !p v) h0 h1 h2;refine .seq (.region [.pure (.ret (.bool (es.any fun v=> !p v)))] (by decide) ?_)
  simp only[ao,gdA,ae,ad,ai,au,evalOp,St.ev,Av.get,St.put,ak,Nat.reduceEqDiff,↓reduceIte,List.map_cons,List.map_nil,List.nil_append,List.append_nil,Option.map_some,hl,eF];refine⟨cfR x es 195 [] [.vptr [.func (.func g) fs cs]] (fun v=> !p v) hs ⟨h0,rfl,by simp[AV.hfs,AV.hf,h1,h2]⟩ (fun v hv=>Lp v (hs v hv) g fs cs (p v) ?_ h1 h2 (hp v hv)),?_⟩
  · rw[be]at h0;exact List.all_eq_true.1 h0 v hv
  · refine .ret ⟨_,rfl,_,rfl,?_⟩
    have:(!es.any fun v=> !p v)=es.all p:=by
      rw[List.any_eq_not_all_not];simp
    rw[this];exact .refl _
set_option maxRecDepth 100000 in
theorem part(t v:Bytes):aa Tryz.prog 167 [.agg [.str t,.str v]] (.ret (.bool (ew t&&(small t==t)&&decide ((v.length:Int)≥1)&&decide ((v.length:Int)≤200)))):=by
 refine aa.of Tryz.func167 rfl (ab enters Tryz.func167 rfl) (by simp[Tryz.ntmps167]) ?_;show W Tryz.prog 26 _ none _ _ _;refine .seq (.region [] (by decide) ?_);simp only[ao,gdA,ae,ad,ai,au,evalOp,St.ev,Av.get,St.put,bn,ofV,ak,↓reduceIte,List.nil_append,AV.told,AV.cells,List.length_nil];have l0:al Tryz.prog 9 (.ptr 0 0) [.cells [.str t,.str v] false]=some (.str t):=by simp[ld9,ldC]
 have l1:al Tryz.prog 9 (.ptr 0 1) [.cells [.str t,.str v] false]=some (.str v):=by simp[ld9,ldC]
 have p1:=Jb t;have p2:=mU t;generalize hb1:ew t=b1;generalize hb2:(small t==t)=b2;generalize hb3:decide ((v.length:Int)≥1)=b3;generalize hb4:decide ((v.length:Int)≤200)=b4;rw[hb1]at p1;cases b1 with
 |false=>
  refine .seq (.xA [.pure (.ret (.bool false))] mixed (by kernel_rfl) (by kernel_rfl) (by kernel_rfl) ?_);simp only[EDf,gdA,ae,ad,evalOp,St.ev,Av.get,St.put,ofV,ak,Nat.reduceEqDiff,↓reduceIte,aX,AV.hfs,AV.hf,Bool.and_self,List.map_cons,List.map_nil,List.nil_append,List.append_nil,List.getElem?_cons_zero,List.getElem?_cons_succ,List.getElem?_toArray,Option.map_some,Option.bind_some,beq_true,Bool.false_eq_true,bB,sj,l0,l1,Nat.add_zero];refine⟨p1,?_⟩;exact .ret ⟨_,rfl,_,rfl,.refl _⟩
 |true=>
  refine .seq (.xA [.pure (.ret (.bool true)),.pure (.ret (.str (small t)))] mixed (by kernel_rfl) (by kernel_rfl) (by kernel_rfl) ?_);cases b2<;>cases b3<;>cases b4<;>simp only[EDf,deN,gdA,ae,ad,evalOp,St.ev,Av.get,St.put,ofV,ak,Nat.reduceEqDiff,↓reduceIte,aX,AV.hfs,AV.hf,Bool.and_self,List.map_cons,List.map_nil,List.nil_append,List.append_nil,List.getElem?_cons_zero,List.getElem?_cons_succ,List.getElem?_toArray,Option.map_some,Option.bind_some,beq_true,Bool.false_eq_true,bB,cond_true,sj,xB,Nat.add_zero,Nat.zero_add,l0,l1,xz,hb2,ed,gy,hb3,hb4,ls9]<;>exact⟨p1,p2,.ret ⟨_,rfl,_,rfl,.refl _⟩⟩
def ph(t v:Bytes):Bool:=ew t&&(small t==t)&&decide ((v.length:Int)≥1)&&decide ((v.length:Int)≤200)
def aH(r:Bytes×Bytes):AV:=.agg [.str r.1,.str r.2]
def pA:AV→Bool
 | .agg [.str t,.str v]=>ph t v
 |_=>false
def kQ(d:List (Bytes×Bytes)):Bool:=!decide ((d.length:Int)>16)&&d.all fun r=>ph r.1 r.2
theorem az(d:List (Bytes×Bytes)):AV.hfs (d.map aH)=true:=by
 rw[be,List.all_eq_true];intro v hv;obtain⟨r,_,rfl⟩:=List.mem_map.1 hv;rfl
theorem kh(m:Nat)(d:List (Bytes×Bytes)):AV.bS m (d.map aH)=true:=by
 rw[ic,List.all_eq_true];intro v hv;obtain⟨r,_,rfl⟩:=List.mem_map.1 hv;rfl
theorem ur(d:List (Bytes×Bytes)):∀v∈d.map aH,shp 3 v:=by
 intro v hv;obtain⟨r,_,rfl⟩:=List.mem_map.1 hv;exact⟨_,rfl,rfl⟩
theorem Bn(d:List (Bytes×Bytes)):(d.map aH).all pA=d.all fun r=>ph r.1 r.2:=by
 rw[List.all_map];rfl
theorem GV(x:Bool)(d:List (Bytes×Bytes)):aa Tryz.prog 132 [.vsl 3 x (d.map aH)] (.ret (.int .i64 (if kQ d=true then 0 else 2))):=by
 refine aa.of Tryz.func132 rfl (ab enters Tryz.func132 rfl) (by simp[Tryz.ntmps132]) ?_;show W Tryz.prog 13 _ none _ _ _;refine .seq (.region [] (by decide) ?_);simp only[ao,gdA,ae,ad,ai,au,evalOp,St.ev,St.put,bn,ofV,ak];refine .seq (.region [] (by decide) ?_);simp only[ao,gdA,ae,ad,ai,au,evalOp,St.ev,St.put,ak];have hln:∀H,aI Tryz.prog 161 (.vsl 3 x (d.map aH)) H=some (.int .i64 d.length):=by intro H;simp[Fu]
 have hp:=GU x (d.map aH) 167 [] [] pA (ur d) ⟨az d,rfl,rfl⟩ (by
  intro v hv;obtain⟨r,_,rfl⟩:=List.mem_map.1 hv;exact part r.1 r.2)
 rw[Bn]at hp;have hh:=az d;have hc:kQ d=(!decide ((d.length:Int)>16)&&d.all fun r=>ph r.1 r.2):=rfl;rw[hc];generalize h1:decide ((d.length:Int)>16)=b1;generalize h2:(d.all fun r=>ph r.1 r.2)=b2;rw[h2]at hp;cases b1 with
 |true=>
  refine .seq (.seq (.region [] (by decide) ?_));simp only[ao,deN,gdA,ae,ad,ai,au,evalOp,St.ev,Av.get,St.put,ofV,ak,Nat.reduceEqDiff,↓reduceIte,List.getElem?_cons_zero,List.getElem?_cons_succ,List.getElem?_toArray,Option.map_some,Option.bind_some,beq_false,Bool.not_true,bB,hln,ec,h1];refine .cond (t:=true) rfl (.seq (.region [] (by decide) ?_));simp only[ao,gdA,ae,ad,ai,au,evalOp,St.ev,St.put,ofV,ak];exact .ret ⟨_,rfl,_,rfl,.refl _⟩
 | false=>
  refine .seq (.seq (.region [.pure (.ret (.bool b2))] (by decide) ?_));simp only[ao,deN,gdA,ae,ad,ai,au,evalOp,St.ev,Av.get,St.put,ofV,ak,Nat.reduceEqDiff,↓reduceIte,aX,AV.hfs,AV.hf,Bool.and_self,List.map_cons,List.map_nil,List.nil_append,List.append_nil,List.getElem?_cons_zero,List.getElem?_cons_succ,List.getElem?_toArray,Option.map_some,Option.bind_some,beq_false,Bool.not_false,bB,cond_false,hln,ec,h1,hh,eF];refine⟨hp,?_⟩;cases b2 with
  |false=>
   refine .cond (t:=true) rfl (.seq (.region [] (by decide) ?_));simp only[ao,gdA,ae,ad,ai,au,evalOp,St.ev,St.put,ofV,ak,Bool.not_false];exact .ret ⟨_,rfl,_,rfl,.refl _⟩
  |true=>
   refine .cond (t:=false) rfl (.skip ?_);simp only[ak,↓reduceIte,Bool.and_self,Bool.not_true];refine .seq (.region [] (by decide) ?_);simp only[ao,gdA,ae,ad,ai,au,evalOp,St.ev,St.put,ofV,ak];exact .ret ⟨_,rfl,_,rfl,.refl _⟩
theorem bdR(t:Bytes):cB Tryz.prog 159 [(0,.str t),(1,.str [120])]=some (.agg [.str t,.str [120]]):=by kernel_rfl
theorem bsR(v:AV)(h:shp 3 v):aw Tryz.prog 161 1 [(0,v)]=some (.vsl 3 true [v]):=by
 obtain⟨l,rfl,hl'⟩:=h;have hl:l.length=2:=hl';simp[aw,Tryz.underlying161,IX,AV.cells,hl,AV.told,List.range']
def dz(s:Bytes):Bool:=kQ [(small s,[120])]
theorem Bo(s:Bytes):aa Tryz.prog 90 [.str s] (.ret (.bool (dz s))):=by
 refine aa.of Tryz.func90 rfl (ab enters Tryz.func90 rfl) (by simp[Tryz.ntmps90]) ?_;show W Tryz.prog 9 _ none _ _ _;refine .seq (.region [] (by decide) ?_);simp only[ao,gdA,ae,ad,ai,au,evalOp,St.ev,St.put,bn,ofV,ak];have hp:=GV true [(small s,[120])];have hs:=mU s;have hb:aw Tryz.prog 161 1 [(0,.agg [.str (small s),.str [120]])]=some (.vsl 3 true [.agg [.str (small s),.str [120]]]):=bsR _ ⟨_,rfl,rfl⟩;have hm:1≤ay:=by decide
 have hc:dz s=kQ [(small s,[120])]:=rfl;rw[hc];generalize kQ [(small s,[120])]=b at hp;refine .seq (.region [.pure (.ret (.str (small s))),.pure (.ret (.int .i64 (if b=true then 0 else 2)))] (by decide) ?_);have x1:({data:=#[120]}:ByteArray).size≤ay:=by decide
 have x2:AV.hf (.vsl 3 true [.agg [.str (small s),.str [120]]])=true:=rfl;have x3:(((if b=true then 0 else 2:Int))==0)=b:=by cases b<;>rfl
 simp only[ao,gdA,ae,ad,ai,au,evalOp,St.ev,Av.get,St.put,ofV,ak,Nat.reduceEqDiff,↓reduceIte,aX,AV.hfs,AV.hf,Bool.and_self,List.map_cons,List.map_nil,List.nil_append,List.append_nil,Option.map_some,bdR,hb,jf,x1,x2,x3];exact⟨hs,hp,.ret ⟨_,rfl,_,rfl,.refl _⟩⟩
/-! ### Bytes of values -/
def byP(x:UInt8):Bool:=decide ((x.toNat:Int)≥32)&&((x.toNat:Int) !=34)
def byL(x:UInt8):Bool:=decide ((x.toNat:Int)≥32)||((x.toNat:Int)==9)
def unb(p:UInt8→Bool):AV→Bool
 | .int .u8 x=>p x.toNat.toUInt8
 |_=>false
theorem pj(p:UInt8→Bool)(x:UInt8):unb p (bp x)=p x:=by simp[unb,bp]
theorem xU(p:UInt8→Bool)(s:Bytes):(aA s).all (unb p)=s.all p:=by
 simp only[aA,List.all_map];congr 1;funext x;exact pj p x
theorem kR(s:Bytes):AV.hfs (aA s)=true:=by
 rw[be,List.all_eq_true];intro v hv;obtain⟨r,_,rfl⟩:=List.mem_map.1 hv;rfl
theorem kS(s:Bytes):∀v∈aA s,shp 0 v:=by
 intro v hv;obtain⟨r,_,rfl⟩:=List.mem_map.1 hv;rfl
theorem GW(x:UInt8):aa Tryz.prog 135 [bp x] (.ret (.bool (byP x))):=by
 refine aa.of Tryz.func135 rfl (ab enters Tryz.func135 rfl) (by simp[Tryz.ntmps135]) ?_;show W Tryz.prog 9 _ none _ _ _;unfold byP bp;generalize h1:decide ((x.toNat:Int)≥32)=b1;generalize h2:((x.toNat:Int) !=34)=b2;refine .seq (.region [] (by decide) ?_);simp only[ao,gdA,ae,ad,ai,au,evalOp,St.ev,St.put,bn,ofV,ak];refine .seq (.region [] (by decide) ?_)
 cases b1<;>cases b2<;>simp only[ao,gdA,ae,ad,ai,au,evalOp,St.ev,Av.get,St.put,ofV,ak,Nat.reduceEqDiff,↓reduceIte,Bool.and_self,List.getElem?_cons_zero,List.getElem?_cons_succ,List.getElem?_toArray,Option.bind_some,beq_true,Bool.false_eq_true,bB,cond_true,ed,nu,h1,h2]<;>exact .ret ⟨_,rfl,_,rfl,.refl _⟩
theorem Jg(x:UInt8):aa Tryz.prog 94 [bp x] (.ret (.bool (byL x))):=by
 refine aa.of Tryz.func94 rfl (ab enters Tryz.func94 rfl) (by simp[Tryz.ntmps94]) ?_;show W Tryz.prog 9 _ none _ _ _;unfold byL bp;generalize h1:decide ((x.toNat:Int)≥32)=b1;generalize h2:((x.toNat:Int)==9)=b2;refine .seq (.region [] (by decide) ?_);simp only[ao,gdA,ae,ad,ai,au,evalOp,St.ev,St.put,bn,ofV,ak];refine .seq (.region [] (by decide) ?_)
 cases b1<;>cases b2<;>simp only[ao,gdA,ae,ad,ai,au,evalOp,St.ev,Av.get,St.put,ofV,ak,Nat.reduceEqDiff,↓reduceIte,List.getElem?_cons_zero,List.getElem?_cons_succ,List.getElem?_toArray,Option.bind_some,beq_false,Bool.not_true,Bool.not_false,bB,cond_false,ed,jf,h1,h2]<;>exact .ret ⟨_,rfl,_,rfl,.refl _⟩
def version(s:Bytes):Bool:=s==[51,46,48]||s==[52,46,48]
theorem Bp(s:Bytes):aa Tryz.prog 45 [.str s] (.ret (.bool (version s))):=by
 refine aa.of Tryz.func45 rfl (ab enters Tryz.func45 rfl) (by simp[Tryz.ntmps45]) ?_;show W Tryz.prog 9 _ none _ _ _;unfold version;generalize h1:(s==[51,46,48])=b1;generalize h2:(s==[52,46,48])=b2;have x1:({data:=#[51,46,48]}:ByteArray).size≤ay:=by decide
 have x2:({data:=#[52,46,48]}:ByteArray).size≤ay:=by decide
 refine .seq (.region [] (by decide) ?_);simp only[ao,gdA,ae,ad,ai,au,evalOp,St.ev,St.put,bn,ofV,ak];refine .seq (.region [] (by decide) ?_);cases b1<;>cases b2<;>simp only[ao,gdA,ae,ad,ai,au,evalOp,St.ev,Av.get,St.put,ofV,ak,Nat.reduceEqDiff,↓reduceIte,List.getElem?_cons_zero,List.getElem?_cons_succ,List.getElem?_toArray,Option.bind_some,beq_false,Bool.not_true,Bool.not_false,bB,cond_false,xz,x1,x2,h1,h2]<;>exact .ret ⟨_,rfl,_,rfl,.refl _⟩
theorem GX(s:Bytes):aa Tryz.prog 93 [.vsl 0 false (aA s),.func (.func 135) [] []] (.ret (.bool (s.all byP))):=by
 have:=Bm false (aA s) 135 [] [] (unb byP) (kS s) ⟨kR s,rfl,rfl⟩ (by
  intro v hv;obtain⟨r,_,rfl⟩:=List.mem_map.1 hv;rw[pj];exact GW r)
 rwa[xU]at this
theorem GY(s:Bytes):aa Tryz.prog 93 [.vsl 0 false (aA s),.func (.func 94) [] []] (.ret (.bool (s.all byL))):=by
 have:=Bm false (aA s) 94 [] [] (unb byL) (kS s) ⟨kR s,rfl,rfl⟩ (by
  intro v hv;obtain⟨r,_,rfl⟩:=List.mem_map.1 hv;rw[pj];exact Jg r)
 rwa[xU]at this
theorem Bq{H:List OB}{i:Nat}{s:Bytes}{b:Bool}(h:H[i]? =some (.cells (aA s) b))(k:Nat):fz H (k+1) (.sl i 0 s.length 0)=some (.vsl 0 false (aA s)):=by
 have hl:(aA s).length=s.length:=cG s;have h1:(aA s).all AV.one=true:=by rw[List.all_eq_true];intro v hv;exact kS s v hv
 have h2:((aA s).drop 0).take (s.length*esz 0)=aA s:=by rw[List.drop_zero];exact List.take_of_length_le (by simp[esz,hl])
 unfold fz;rw[if_neg (by simp[AV.hf])];simp only[h,h2,kR,h1,if_true,Option.bind_some];rw[if_pos (by simp[esz,hl])]
theorem pk{H:List OB}{i:Nat}{s:Bytes}{b o:Bool}{g:Nat}(h:H[i]? =some (.cells (aA s) b)):
    aX H [.sl i 0 s.length 0,.func (.func g) [] []] (.ret (.bool o))=some [.vsl 0 false (aA s),.func (.func g) [] []]:=by
  unfold aX;rw[if_neg (by simp[AV.hfs,AV.hf]),if_pos (show(Out.ret (AV.bool o)).scalar=true from rfl)];have h2:fz H 20 (.func (.func g) [] [])=some (.func (.func g) [] []):=by unfold fz;rw[if_pos (by simp[AV.hf,AV.hfs])]
  simp only[List.mapM_cons,List.mapM_nil,Bq h,h2];rfl
def dC(p:Bytes×Bytes):Bool:=dz p.1&&decide ((p.2.length:Int)≤100)&&p.2.all byP
theorem GZ(p:Bytes×Bytes):aa Tryz.prog 92 [aH p] (.ret (.bool (dC p))):=by
 refine aa.of Tryz.func92 rfl (ab enters Tryz.func92 rfl) (by simp[Tryz.ntmps92]) ?_;show W Tryz.prog 18 _ none _ _ _;unfold dC aH;obtain⟨n,v⟩:=p;have p1:=Bo n;have p2:=GX v;generalize dz n=b1 at p1;generalize h2:decide ((v.length:Int)≤100)=b2;generalize v.all byP=b3 at p2;refine .seq (.region [] (by decide) ?_);simp only[ao,gdA,ae,ad,ai,au,evalOp,St.ev,Av.get,St.put,bn,ofV,ak,↓reduceIte,List.nil_append,AV.cells,List.length_nil,AV.told];have l0:∀H,al Tryz.prog 9 (.ptr 0 0) (.cells [.str n,.str v] false::H)=some (.str n):=by intro H;simp[ld9,ldC]
 have l1:∀H,al Tryz.prog 9 (.ptr 0 1) (.cells [.str n,.str v] false::H)=some (.str v):=by intro H;simp[ld9,ldC]
 have cv:∀b,cc Tryz.prog 9 108 (.str v) [.cells [.str n,.str v] b]=some (.sl 1 0 v.length 0,[.cells [.str n,.str v] b,.cells (aA v) true]):=by
  intro b;simp[cc,Tryz.underlying9,Tryz.underlying108,Tryz.underlying5]
 cases b1 with
 |false=>
  refine .seq (.region [.pure (.ret (.bool false))] (by decide) ?_);simp only[ao,gdA,ae,ad,ai,au,evalOp,St.ev,Av.get,St.put,ofV,ak,Nat.reduceEqDiff,↓reduceIte,aX,AV.hfs,AV.hf,Bool.and_self,List.map_cons,List.map_nil,List.nil_append,List.append_nil,List.getElem?_cons_zero,List.getElem?_cons_succ,List.getElem?_toArray,Option.map_some,Option.bind_some,beq_true,Bool.false_eq_true,bB,si,Nat.add_zero,l0];exact⟨p1,.ret ⟨_,rfl,_,rfl,.refl _⟩⟩
 | true=>
  cases b2 with
  |false=>
   refine .seq (.region [.pure (.ret (.bool true))] (by decide) ?_);simp only[ao,deN,gdA,ae,ad,ai,au,evalOp,St.ev,Av.get,St.put,ofV,ak,Nat.reduceEqDiff,↓reduceIte,aX,AV.hfs,AV.hf,Bool.and_self,List.map_cons,List.map_nil,List.nil_append,List.append_nil,List.getElem?_cons_zero,List.getElem?_cons_succ,List.getElem?_toArray,Option.map_some,Option.bind_some,beq_true,Bool.false_eq_true,bB,cond_true,si,we,Nat.add_zero,Nat.zero_add,l0,l1,ls9,gy,h2];exact⟨p1,.ret ⟨_,rfl,_,rfl,.refl _⟩⟩
  |true=>
   refine .seq (.region [.pure (.ret (.bool true)),.pure (.ret (.bool b3))] (by decide) ?_);have hl:aX [.cells [.str n,.str v] false,.cells (aA v) true] [.sl 1 0 v.length 0,.func (.func 135) [] []] (.ret (.bool b3))=some [.vsl 0 false (aA v),.func (.func 135) [] []]:=pk rfl
   simp only[ao,deN,gdA,ae,ad,ai,au,evalOp,St.ev,Av.get,St.put,ofV,ak,Nat.reduceEqDiff,↓reduceIte,Bool.and_self,List.map_cons,List.map_nil,List.nil_append,List.append_nil,List.getElem?_cons_zero,List.getElem?_cons_succ,List.getElem?_toArray,Option.map_some,Option.bind_some,beq_true,bB,cond_true,si,we,Nat.add_zero,Nat.zero_add,l0,l1,ls9,gy,h2,cv,hl];exact⟨p1,p2,.ret ⟨_,rfl,_,rfl,.refl _⟩⟩
section
variable{P:Program} {n m:Nat} {R:Option Nat} {Q:Ex→St→Prop} {a:St}
end
structure Ln where
 g:Bytes
 n:Bytes
 x:Bool
 ps:List (Bytes×Bytes)
 v:Bytes
def aq(l:Ln):AV:=.agg [.str l.g,.str l.n,.vsl 3 l.x (l.ps.map aH),.str l.v]
def jA:Bytes:=[98,101,103,105,110]
def wB:Bytes:=[101,110,100]
def iq:Bytes:=[118,101,114,115,105,111,110]
def cf(l:Ln):Bool:=
 (l.g==[]||dz l.g)&&(dz (small l.n)&&(!(small l.n==jA)&&(!(small l.n==wB)&&(!(small l.n==iq)&&(decide ((l.ps.length:Int)≤8)&&(l.ps.all dC&&(decide ((l.v.length:Int)≤4000)&&l.v.all byL)))))))
def pP:AV→Bool
 | .agg [.str t,.str v]=>dC (t,v)
 |_=>false
theorem Jh(x:Bool)(ps:List (Bytes×Bytes)):aa Tryz.prog 91 [.vsl 3 x (ps.map aH),.func (.func 92) [] []] (.ret (.bool (ps.all dC))):=by
 have:=GR x (ps.map aH) 92 [] [] pP (ur ps) ⟨az ps,rfl,rfl⟩ (by
  intro v hv;obtain⟨r,_,rfl⟩:=List.mem_map.1 hv;exact GZ r)
 rw[List.all_map]at this;exact this
set_option maxRecDepth 8000 in
set_option maxHeartbeats 1000000 in
theorem Ji (l:Ln):aa Tryz.prog 47 [aq l] (.ret (.bool (cf l))):=by
 obtain⟨g,n,x,ps,v⟩:=l;have ps0:=mU n;have p1:=Bo g;have p2:=Bo (small n);have p7:=Jh x ps;have p9:=GY v;have hcv:∀b:OB,cc Tryz.prog 9 108 (.str v) [b]=some (.sl 1 0 v.length 0,[b,.cells (aA v) true]):=by
  intro b;simp[cc,Tryz.underlying9,Tryz.underlying108,Tryz.underlying5]
 have hld:∀(b:OB) (o:Bool),aX [b,.cells (aA v) true] [.sl 1 0 v.length 0,.func (.func 94) [] []] (.ret (.bool o))=some [.vsl 0 false (aA v),.func (.func 94) [] []]:=fun b o=>pk rfl;have e0:cf ⟨g,n,x,ps,v⟩=((g==[]||dz g)&&(dz (small n)&&(!(small n==jA)&&(!(small n==wB)&&(!(small n==iq)&&(decide ((ps.length:Int)≤8)&&(ps.all dC&&(decide ((v.length:Int)≤4000)&&v.all byL)))))))):=rfl;simp only[jA,wB,iq]at e0;rw[e0];generalize dz g=b1 at*;generalize dz (small n)=b2 at*;generalize ps.all dC=b7 at*;generalize v.all byL=b9 at*;generalize h0:(g==[])=c0;generalize h3:(small n==[98,101,103,105,110])=b3
 generalize h4:(small n==[101,110,100])=b4;generalize h5:(small n==[118,101,114,115,105,111,110])=b5;simp only[aq];refine aa.of Tryz.func47 rfl (ab enters Tryz.func47 rfl) (by simp[Tryz.ntmps47]) ?_;show W Tryz.prog 54 0 none _ _ _;refine W.vc (by decide) ?_;cases c0 with
 | true=>
  cases b2 with
  |false=>
   repeat'(first|(simp(disch:=first|omega|(simp only[zL];omega))only[go_sem,seval,h0,bne])|((with_reducible first|apply aj.pure|apply an.pure);(with_reducible first|exact ps0|exact p2);(first|rfl|simp only[go_sem,az])))
   exact⟨_,rfl,_,rfl,.refl _⟩
  | true=>
   cases b3 with
   |true=>
    repeat'(first|(simp(disch:=first|omega|(simp only[zL];omega))only[go_sem,seval,h0,bne,h3])|((with_reducible first|apply aj.pure|apply an.pure);(with_reducible first|exact ps0|exact p2);(first|rfl|simp only[go_sem,az])))
    exact⟨_,rfl,_,rfl,.refl _⟩
   | false=>
    cases b4 with
    |true=>
     repeat'(first|(simp(disch:=first|omega|(simp only[zL];omega))only[go_sem,seval,h0,bne,h3,h4])|((with_reducible first|apply aj.pure|apply an.pure);(with_reducible first|exact ps0|exact p2);(first|rfl|simp only[go_sem,az])))
     exact⟨_,rfl,_,rfl,.refl _⟩
    | false=>
     cases b5 with
     |true=>
      repeat'(first|(simp(disch:=first|omega|(simp only[zL];omega))only[go_sem,seval,h0,bne,h3,h4,h5])|((with_reducible first|apply aj.pure|apply an.pure);(with_reducible first|exact ps0|exact p2);(first|rfl|simp only[go_sem,az])))
      exact⟨_,rfl,_,rfl,.refl _⟩
     | false=>
      by_cases h6:ps.length≤8
      case neg=>
       rw[decide_eq_false (show¬((ps.length:Int)≤8) by omega)]
       repeat'(first|(simp(disch:=first|omega|(simp only[zL];omega))only[go_sem,seval,h0,bne,h3,h4,h5])|((with_reducible first|apply aj.pure|apply an.pure);(with_reducible first|exact ps0|exact p2);(first|rfl|simp only[go_sem,az])))
       exact⟨_,rfl,_,rfl,.refl _⟩
      rw[decide_eq_true (show((ps.length:Int)≤8) by omega)];cases b7 with
      |false=>
       repeat'(first|(simp(disch:=first|omega|(simp only[zL];omega))only[go_sem,seval,h0,bne,h3,h4,h5])|((with_reducible first|apply aj.pure|apply an.pure);(with_reducible first|exact ps0|exact p2|exact p7);(first|rfl|simp only[go_sem,az])))
       exact⟨_,rfl,_,rfl,.refl _⟩
      | true=>
       by_cases h8:v.length≤4000
       case neg=>
        rw[decide_eq_false (show¬((v.length:Int)≤4000) by omega)]
        repeat'(first|(simp(disch:=first|omega|(simp only[zL];omega))only[go_sem,seval,h0,bne,h3,h4,h5])|((with_reducible first|apply aj.pure|apply an.pure);(with_reducible first|exact ps0|exact p2|exact p7);(first|rfl|simp only[go_sem,az])))
        exact⟨_,rfl,_,rfl,.refl _⟩
       rw[decide_eq_true (show((v.length:Int)≤4000) by omega)]
       repeat'(first|(simp(disch:=first|omega|(simp only[zL];omega))only[go_sem,seval,h0,bne,h3,h4,h5,hcv])|(guard_target=~ aj _ _ _ _ _ _ _;refine aj.aX _ p9 (hld _ _) ?_)|((with_reducible first|apply aj.pure|apply an.pure);(with_reducible first|exact ps0|exact p2|exact p7);(first|rfl|simp only[go_sem,az])))
       exact⟨_,rfl,_,rfl,.refl _⟩
 | false=>
  cases b1 with
  |false=>
   repeat'(first|(simp(disch:=first|omega|(simp only[zL];omega))only[go_sem,seval,h0,bne])|((with_reducible first|apply aj.pure|apply an.pure);(with_reducible first|exact ps0|exact p1);(first|rfl|simp only[go_sem])))
   exact⟨_,rfl,_,rfl,.refl _⟩
  | true=>
   cases b2 with
   |false=>
    repeat'(first|(simp(disch:=first|omega|(simp only[zL];omega))only[go_sem,seval,h0,bne])|((with_reducible first|apply aj.pure|apply an.pure);(with_reducible first|exact ps0|exact p1|exact p2);(first|rfl|simp only[go_sem,az])))
    exact⟨_,rfl,_,rfl,.refl _⟩
   | true=>
    cases b3 with
    |true=>
     repeat'(first|(simp(disch:=first|omega|(simp only[zL];omega))only[go_sem,seval,h0,bne,h3])|((with_reducible first|apply aj.pure|apply an.pure);(with_reducible first|exact ps0|exact p1|exact p2);(first|rfl|simp only[go_sem,az])))
     exact⟨_,rfl,_,rfl,.refl _⟩
    | false=>
     cases b4 with
     |true=>
      repeat'(first|(simp(disch:=first|omega|(simp only[zL];omega))only[go_sem,seval,h0,bne,h3,h4])|((with_reducible first|apply aj.pure|apply an.pure);(with_reducible first|exact ps0|exact p1|exact p2);(first|rfl|simp only[go_sem,az])))
      exact⟨_,rfl,_,rfl,.refl _⟩
     | false=>
      cases b5 with
      |true=>
       repeat'(first|(simp(disch:=first|omega|(simp only[zL];omega))only[go_sem,seval,h0,bne,h3,h4,h5])|((with_reducible first|apply aj.pure|apply an.pure);(with_reducible first|exact ps0|exact p1|exact p2);(first|rfl|simp only[go_sem,az])))
       exact⟨_,rfl,_,rfl,.refl _⟩
      | false=>
       by_cases h6:ps.length≤8
       case neg=>
        rw[decide_eq_false (show¬((ps.length:Int)≤8) by omega)]
        repeat'(first|(simp(disch:=first|omega|(simp only[zL];omega))only[go_sem,seval,h0,bne,h3,h4,h5])|((with_reducible first|apply aj.pure|apply an.pure);(with_reducible first|exact ps0|exact p1|exact p2);(first|rfl|simp only[go_sem,az])))
        exact⟨_,rfl,_,rfl,.refl _⟩
       rw[decide_eq_true (show((ps.length:Int)≤8) by omega)];cases b7 with
       |false=>
        repeat'(first|(simp(disch:=first|omega|(simp only[zL];omega))only[go_sem,seval,h0,bne,h3,h4,h5])|((with_reducible first|apply aj.pure|apply an.pure);(with_reducible first|exact ps0|exact p1|exact p2|exact p7);(first|rfl|simp only[go_sem,az])))
        exact⟨_,rfl,_,rfl,.refl _⟩
       | true=>
        by_cases h8:v.length≤4000
        case neg=>
         rw[decide_eq_false (show¬((v.length:Int)≤4000) by omega)]
         repeat'(first|(simp(disch:=first|omega|(simp only[zL];omega))only[go_sem,seval,h0,bne,h3,h4,h5])|((with_reducible first|apply aj.pure|apply an.pure);(with_reducible first|exact ps0|exact p1|exact p2|exact p7);(first|rfl|simp only[go_sem,az])))
         exact⟨_,rfl,_,rfl,.refl _⟩
        rw[decide_eq_true (show((v.length:Int)≤4000) by omega)]
        repeat'(first|(simp(disch:=first|omega|(simp only[zL];omega))only[go_sem,seval,h0,bne,h3,h4,h5,hcv])|(guard_target=~ aj _ _ _ _ _ _ _;refine aj.aX _ p9 (hld _ _) ?_)|((with_reducible first|apply aj.pure|apply an.pure);(with_reducible first|exact ps0|exact p1|exact p2|exact p7);(first|rfl|simp only[go_sem,az])))
        exact⟨_,rfl,_,rfl,.refl _⟩
theorem Br(t:Nat)(a b:Bytes)(h:a.length+b.length≤100000000):aW Tryz.prog .add t (.str a) (.str b)=some (.str (a++b)):=by
 simp only[aW];rw[if_pos (by simp only[ay];omega)]
def jB:Nat→Nat→Bytes→Bytes
 |0,_,s=>s
 |k+1,m,s=>if m<s.length then s.take m++([13,10,32]++jB k 74 (s.drop m))else s
def fold(s:Bytes):Bytes:=jB s.length 75 s
set_option maxRecDepth 8000 in
theorem Jj(s:Bytes)(hs:s.length≤1000000):aa Tryz.prog 95 [.str s] (.ret (.str (fold s))):=by
 refine aa.of Tryz.func95 rfl (ab enters Tryz.func95 rfl) (by simp[Tryz.ntmps95]) ?_;show W Tryz.prog 21 0 none _ _ _;refine .seq (.region [] (by decide) ?_);have x0:({data:=#[]}:ByteArray).size≤ay:=by decide
 have x3:({data:=#[13,10,32]}:ByteArray).size≤ay:=by decide
 simp only[ao,gdA,ae,ad,ai,au,evalOp,St.ev,St.put,bn,ofV,ak];refine .seq (.region [] (by decide) ?_);simp only[ao,gdA,ae,ad,ai,au,evalOp,St.ev,St.put,ofV,ak,↓reduceIte,x0];refine .seq (.block ?_)
 refine .bh (X:=Bytes×Nat×Bytes×Nat) (fun x=>[(3,.str x.1),(4,.int .i64 (x.2.1:Int)),(0,.str x.2.2.1)]) (fun _=>[])
  (fun x=>x.1++jB x.2.2.2 x.2.1 x.2.2.1=fold s∧x.2.2.1.length≤x.2.2.2∧74≤x.2.1∧x.1.length+2*x.2.2.1.length≤2*s.length) (fun x=>x.2.2.1.length) ([],75,s,s.length) ⟨rfl,Nat.le_refl _,by simp,by simp⟩
  (by simp[aB,Av.get]) rfl ?_
 rintro⟨out,m,s',k⟩ ⟨h1,h2,h3,h4⟩;simp only at h1 h2 h3 h4;refine .seq (.seq (.region [] (by decide) ?_));simp only[ao,deN,gdA,ae,ad,ai,au,evalOp,St.ev,Av.get,St.put,ak,Nat.reduceEqDiff,↓reduceIte,Option.map_some,ls9,ec];by_cases h:m<s'.length
 ·refine .cond (t:=true) (by simp[St.ev,Av.get];omega) (.skip ?_)
  simp only[ak];have hcat:aW Tryz.prog .add 9 (.str out) (.str (s'.take m++[13,10,32]))=some (.str (out++(s'.take m++[13,10,32]))):=Br _ _ _ (by simp;omega);have hcat0:aW Tryz.prog .add 9 (.str (s'.take m)) (.str [13,10,32])=some (.str (s'.take m++[13,10,32])):=Br _ _ _ (by simp;omega);refine .block (.seq (.region [] (by decide) ?_));simp only[ao,deN,gdA,ae,ad,ai,au,evalOp,St.ev,Av.get,St.put,ofV,ak,Nat.reduceEqDiff,↓reduceIte,Option.map_some,Option.map_none,List.drop_zero,ss9,nY .i64 m (Nat.le_of_lt h),Nat.sub_zero,x3,hcat0,hcat];refine .region [] (by decide) ?_
  have htk:(s'.drop m).take (s'.length - m)=s'.drop m:=List.take_of_length_le (by simp);simp only[ao,deN,gdA,ae,ad,ai,au,evalOp,St.ev,Av.get,St.put,ofV,ak,Nat.reduceEqDiff,↓reduceIte,Option.map_some,Option.map_none,and_self,and_true,bl,ss9,cX .i64 m (Nat.le_of_lt h),htk];obtain⟨k',rfl⟩:∃k',k=k'+1:=⟨k - 1,by omega⟩
  refine⟨(out++(s'.take m++[13,10,32]),74,s'.drop m,k'),⟨?_,?_,?_,?_⟩,?_,⟨rfl,rfl,rfl,trivial⟩⟩
  ·simp only
   rw[←h1,jB,if_pos h];simp
  ·simp;omega
  ·simp
  ·simp;omega
  ·simp;omega
 ·refine .cond (t:=false) (by simp[St.ev,Av.get];omega) (.exit ?_)
  simp only[ak,↓reduceIte,bl];have he:jB k m s'=s':=by
   cases k with
   |zero=>rfl
   |succ k=>rw[jB,if_neg h]
  refine .seq (.region [] (by decide) ?_);have hcat:aW Tryz.prog .add 9 (.str out) (.str s')=some (.str (out++s')):=Br _ _ _ (by omega);simp only[ao,gdA,ae,ad,ai,au,evalOp,St.ev,Av.get,St.put,ak,Nat.reduceEqDiff,↓reduceIte,hcat];rw[←h1,he];exact .ret ⟨_,rfl,_,rfl,.refl _⟩
def cH(l:List Bytes):Bytes:=(l.map fun x=>x++[13,10]).flatten
theorem wC:cH []=[]:=rfl
theorem uu(l:List Bytes)(x:Bytes):cH (l++[x])=cH l++(x++[13,10]):=by simp[cH]
theorem nC{l:List Bytes}{i:Nat}{x:Bytes}(h:l[i]? =some x):cH (l.take (i+1))=cH (l.take i)++(x++[13,10]):=by
 rw[List.take_add_one,h];exact uu _ _
theorem qW:∀(l:List Bytes) (i:Nat),(cH (l.take i)).length≤(cH l).length
 | [],i=>by simp
 |x::l,0=>by simp[cH]
 |x::l,i+1=>by
  have:=qW l i;simp only[cH,List.take_succ_cons,List.map_cons,List.flatten_cons,List.length_append]at this ⊢;omega
set_option maxRecDepth 8000 in
theorem Ee(x:Bool)(l:List Bytes)(hl:(cH l).length≤50000000):aa Tryz.prog 97 [.vsl 0 x (l.map .str)] (.ret (.str (cH l))):=by
 refine aa.fit fun hfit=>?_;have hL:l.length≤ay:=by have:(l.map AV.str).length≤ay:=hfit (.vsl 0 x (l.map .str)) (by simp);simpa using this
 refine aa.of Tryz.func97 rfl (ab enters Tryz.func97 rfl) (by simp[Tryz.ntmps97]) ?_;show W Tryz.prog 18 0 none _ _ _;have x0:({data:=#[]}:ByteArray).size≤ay:=by decide
 have x2:({data:=#[13,10]}:ByteArray).size≤ay:=by decide
 refine .seq (.region [] (by decide) ?_);simp only[ao,gdA,ae,ad,ai,au,evalOp,St.ev,St.put,bn,ofV,ak];refine .seq (.region [] (by decide) ?_);simp only[ao,gdA,ae,ad,ai,au,evalOp,St.ev,St.put,ofV,ak,↓reduceIte,x0];have hln:∀H,aI Tryz.prog 25 (.vsl 0 x (l.map .str)) H=some (.int .i64 l.length):=by intro H;simp[Ga]
 refine .seq (.seq (.region [] (by decide) ?_));simp only[ao,deN,gdA,ae,ad,ai,au,evalOp,St.ev,Av.get,St.put,ofV,ak,Nat.reduceEqDiff,↓reduceIte,Option.map_some,hln];refine .block ?_
 refine .Gz 8 7 9 16 l.length hL rfl rfl rfl rfl rfl rfl rfl rfl rfl (by decide) (by decide) (by decide)
  (fun i=>[(6,.vsl 0 x (l.map .str)),(3,.str (cH (l.take i)))]) (fun _=>rfl) (fun _=>[]) (fun _=>Nat.zero_le _) (fun i=>True) rfl trivial ?_ ?_ trivial ?_ ?_
 ·simp only[List.take_zero,wC]
  simp only[cM,Av.get,Nat.reduceEqDiff,↓reduceIte,cz,gn,gq,and_self]
 ·intro i _
  simp only[eg,AV.hlt,AV.bS,cA,Bool.and_self,Bool.and_true,Bool.true_and]
 ·intro i hi _
  obtain⟨u,hu,hdrop⟩:=drop_at hi;have hia:ah Tryz.prog 25 (.vsl 0 x (l.map .str)) (.int .i64 (i:Int)) []=some (.vptr [.str u]):=by
   simp[ah,bL,Tryz.underlying25,tz9,hu,AV.cells]
  have hle:=qW l (i+1);rw[nC hu]at hle;simp only[List.length_append,List.length_cons,List.length_nil]at hle;have ha:aW Tryz.prog .add 9 (.str u) (.str [13,10])=some (.str (u++[13,10])):=Br _ _ _ (by simp;omega);have hb:aW Tryz.prog .add 9 (.str (cH (l.take i))) (.str (u++[13,10]))=some (.str (cH (l.take (i+1)))):=by rw[nC hu];exact Br _ _ _ (by simp;omega)
  refine .block (.seq (.region [] (by decide) ?_));simp only[ao,gdA,ae,ad,ai,au,evalOp,St.ev,Av.get,St.put,ak,Nat.reduceEqDiff,↓reduceIte,Option.map_some,hia,lw9];refine .region [] (by decide) ?_;simp only[ao,gdA,ae,ad,ai,au,evalOp,St.ev,Av.get,St.put,ofV,Nat.reduceEqDiff,↓reduceIte,x2,ha,hb];refine⟨trivial,?_,trivial,rfl⟩;simp only[cM,Av.get,Nat.reduceEqDiff,↓reduceIte,cz,gn,gq,and_self]
 ·intro _
  rw[List.take_length];simp only[ak,↓reduceIte,bl];refine .seq (.region [] (by decide) ?_);simp only[ao,gdA,ae,ad,ai,au,evalOp,St.ev,Av.get,St.put,ak,Nat.reduceEqDiff,↓reduceIte];exact .ret ⟨_,rfl,_,rfl,.refl _⟩
/-! ### Letters -/
set_option maxRecDepth 100000 in
theorem Ef(n b0 b1 b2 b3:Nat)(h:128≤b0)(h0:b0<256):
    128≤(Lib.decodeN n b0 b1 b2 b3).1∧((Lib.decodeN n b0 b1 b2 b3).2=1∨((Lib.decodeN n b0 b1 b2 b3).2=2∧1<n∧128≤b1)∨((Lib.decodeN n b0 b1 b2 b3).2=3∧2<n∧128≤b1∧128≤b2)∨((Lib.decodeN n b0 b1 b2 b3).2=4∧3<n∧128≤b1∧128≤b2∧128≤b3)):=by
  unfold Lib.decodeN
  repeat' split
  all_goals first
    |exact⟨by dsimp only;omega,.inl rfl⟩
    |exact⟨by dsimp only;omega,.inr (.inl ⟨rfl,by omega,by omega⟩)⟩
    |exact⟨by dsimp only;omega,.inr (.inr (.inl ⟨rfl,by omega,by omega,by omega⟩))⟩
    |exact⟨by dsimp only;omega,.inr (.inr (.inr ⟨rfl,by omega,by omega,by omega,by omega⟩))⟩
    |(exfalso;omega)
theorem G0{s:Bytes}{i:Nat}{x:UInt8}(hx:s[i]? =some x)(h:x.toNat<128):Utf8.decode ⟨s.toArray⟩ i=(x.toNat,1):=by
 rw[Lib.decode_N];have:(s.getD i 0)=x:=by simp[List.getD,hx]
 simp only[this];exact Lib.decodeN_ascii _ _ _ _ _ h
theorem G1{s:Bytes}{i:Nat}{x:UInt8}(hx:s[i]? =some x)(h:128≤x.toNat):128≤(Utf8.decode ⟨s.toArray⟩ i).1∧1≤(Utf8.decode ⟨s.toArray⟩ i).2∧i+(Utf8.decode ⟨s.toArray⟩ i).2≤s.length∧
    ∀j,i≤j→j<i+(Utf8.decode ⟨s.toArray⟩ i).2→128≤(s.getD j 0).toNat:=by
  have hd:Utf8.decode ⟨s.toArray⟩ i=Lib.decodeN (s.length - i) (s.getD i 0).toNat (s.getD (i+1) 0).toNat (s.getD (i+2) 0).toNat (s.getD (i+3) 0).toNat:=by rw[Lib.decode_N]
  have hx0:(s.getD i 0)=x:=by simp[List.getD,hx]
  have hi:=(List.getElem?_eq_some_iff.1 hx).1;rw[hd,hx0];obtain⟨h1,h2⟩:=Ef (s.length - i) x.toNat (s.getD (i+1) 0).toNat (s.getD (i+2) 0).toNat (s.getD (i+3) 0).toNat h x.toNat_lt;refine⟨h1,?_⟩;generalize(Lib.decodeN (s.length - i) x.toNat (s.getD (i+1) 0).toNat (s.getD (i+2) 0).toNat (s.getD (i+3) 0).toNat).2=w at h2;refine⟨by omega,by omega,?_⟩;intro j hj1 hj2;have hj:j=i∨j=i+1∨j=i+2∨j=i+3:=by omega
  rcases hj with rfl|rfl|rfl|rfl
  · rw[hx0];exact h
  all_goals omega
/-! ### Names -/
section
variable{P:Program} {n m:Nat} {R:Option Nat} {Q:Ex→St→Prop} {a:St}
end
theorem uv{s:Bytes}{i:Nat}{x:UInt8}(hx:s[i]? =some x)(h:x.toNat<128):
    eW (.ptr 0 0) [.siter s i]=some (.tup [.bool true,.int .i64 (i:Int),.int .i32 (x.toNat:Int)],[.siter s (i+1)]):=by
  have hi:=(List.getElem?_eq_some_iff.1 hx).1;simp[eW,hi,G0 hx h]
theorem Bt{s:Bytes}{i:Nat}{x:UInt8}(hx:s[i]? =some x):
    eW (.ptr 0 0) [.siter s i]=some (.tup [.bool true,.int .i64 (i:Int),.int .i32 ((Utf8.decode ⟨s.toArray⟩ i).1:Int)],[.siter s (i+(Utf8.decode ⟨s.toArray⟩ i).2)]):=by
  have hi:=(List.getElem?_eq_some_iff.1 hx).1;simp[eW,hi]
theorem qY{s:Bytes}{i:Nat}(hi:s.length≤i):eW (.ptr 0 0) [.siter s i]=some (.tup [.bool false],[.siter s i]):=by
 simp[eW];omega
def wD(r:Int):Bool:=decide (0≤r)&&decide (r<55296)||decide (57343<r)&&decide (r≤1114111)
set_option maxRecDepth 8000 in
theorem Bu(r:Int):aa Tryz.prog 209 [.int .i32 r] (.ret (.bool (wD r))):=by
 unfold wD;generalize h1:decide (0≤r)=b1;generalize h2:decide (r<55296)=b2;generalize h3:decide (57343<r)=b3;generalize h4:decide (r≤1114111)=b4;refine aa.of Tryz.func209 rfl (ab enters Tryz.func209 rfl) (by simp[Tryz.ntmps209]) ?_;show W Tryz.prog 17 0 none _ _ _;refine .seq (.region [] (by decide) ?_);simp only[ao,gdA,ae,ad,ai,au,evalOp,St.ev,St.put,bn,ofV,ak];refine .seq (.block ?_)
 cases b1<;>cases b2<;>refine .seq (.region [] (by decide) ?_)<;>simp only[ao,gdA,ae,ad,ai,au,evalOp,St.ev,Av.get,St.put,ofV,ak,Nat.reduceEqDiff,↓reduceIte,Bool.and_self,List.getElem?_cons_zero,List.getElem?_cons_succ,List.getElem?_toArray,Option.bind_some,beq_true,Bool.false_eq_true,bB,cond_true,gy,cr,h1,h2]
 case true.true=>
  refine .cond (t:=true) rfl (.seq (.region [] (by decide) ?_));simp only[ao,gdA,ae,ad,ai,au,evalOp,St.ev,St.put,ofV,ak];exact .ret ⟨_,rfl,_,rfl,.refl _⟩
 all_goals
  refine .cond (t:=false) rfl ?_;cases b3<;>cases b4<;>refine .seq (.region [] (by decide) ?_)<;>simp only[ao,gdA,ae,ad,ai,au,evalOp,St.ev,Av.get,St.put,ofV,ak,Nat.reduceEqDiff,↓reduceIte,Bool.and_self,List.getElem?_cons_zero,List.getElem?_cons_succ,List.getElem?_toArray,Option.bind_some,beq_true,Bool.false_eq_true,bB,cond_true,gy,cr,h3,h4]
  case true.true=>
   refine .cond (t:=true) rfl (.seq (.region [] (by decide) ?_));simp only[ao,gdA,ae,ad,ai,au,evalOp,St.ev,St.put,ofV,ak];exact .ret ⟨_,rfl,_,rfl,.refl _⟩
  all_goals
   refine .cond (t:=false) rfl (.skip ?_);simp only[ak,bl];refine .seq (.region [] (by decide) ?_);simp only[ao,gdA,ae,ad,ai,au,evalOp,St.ev,St.put,ofV,ak];exact .ret ⟨_,rfl,_,rfl,.refl _⟩
theorem G2(r:Nat)(h:128≤r):∃e,(Utf8.encode (r:Int)).data.toList=e∧2≤e.length∧e.length≤4∧∃z:UInt8,e[e.length - 1]? =some z∧128≤z.toNat:=by
 refine⟨_,rfl,?_⟩;have key:∀c:Nat,128≤(UInt8.ofNat (0x80+c%64)).toNat:=by
  intro c;simp[UInt8.toNat_ofNat'];omega
 unfold Utf8.encode;simp only;have hc:128≤(if Utf8.valid (r:Int)=true then((r:Int)).toNat else Utf8.runeError):=by
  split
  ·simpa using h
  ·decide
 generalize(if Utf8.valid (r:Int)=true then((r:Int)).toNat else Utf8.runeError)=c at hc;rw[if_neg (by omega)];split
 ·exact⟨by simp,by simp,_,rfl,key c⟩
 ·split
  ·exact⟨by simp,by simp,_,rfl,key c⟩
  ·exact⟨by simp,by simp,_,rfl,key c⟩
theorem Eg(cs:Bytes)(x:UInt8)(h:x.toNat<128):aa Tryz.prog 189 [.str cs,.int .i32 x.toNat] (.ret (.int .i64 (ixB cs x))):=by
 refine aa.of Tryz.func189 rfl (ab enters Tryz.func189 rfl) (by simp[Tryz.ntmps189]) ?_;show W Tryz.prog 187 0 none _ _ _;have h1:decide ((0:Int)≤(x.toNat:Int))=true:=decide_eq_true (by omega);have h2:decide ((x.toNat:Int)<128)=true:=decide_eq_true (by omega);have hcv:cc Tryz.prog 21 5 (.int .i32 (x.toNat:Int)) []=some (bp x,[]):=by
  have:=x.toNat_lt;simp[cc,Tryz.underlying21,Tryz.underlying5,IntKind.wrap,IntKind.bits,IntKind.signed,bp];omega
 refine .seq (.region [] (by decide) ?_);simp only[ao,gdA,ae,ad,ai,au,evalOp,St.ev,St.put,bn,ofV,ak];refine .block (.seq (.region [] (by decide) ?_));simp only[ao,gdA,ae,ad,ai,au,evalOp,St.ev,Av.get,St.put,ofV,ak,Nat.reduceEqDiff,↓reduceIte,List.getElem?_cons_zero,List.getElem?_cons_succ,List.getElem?_toArray,Option.bind_some,beq_true,bB,cond_true,gy,cr,h1,h2];refine .cond (t:=true) rfl (.seq (.region [.pure (.ret (.int .i64 (ixB cs x)))] (by decide) ?_))
 simp only[ao,gdA,ae,ad,ai,au,evalOp,St.ev,Av.get,St.put,ak,Nat.reduceEqDiff,↓reduceIte,aX,AV.hfs,AV.hf,Bool.and_self,List.map_cons,List.map_nil,List.nil_append,List.append_nil,hcv,bp];refine⟨uq cs x,?_⟩;exact .ret ⟨_,rfl,_,rfl,.refl _⟩
theorem G3{s:Bytes}{c:UInt8}(h:c∉s):ixB s c= -1:=by
 rcases pc s c with⟨h1,_⟩|⟨i,_,h2,_⟩
 ·exact h1
 ·exact absurd (List.mem_of_getElem? h2) h
set_option maxRecDepth 8000 in
theorem Eh(cs:Bytes)(hcs:∀b∈cs,b.toNat<128)(hl:cs.length≤1000)(r:Nat)(h:128≤r):aa Tryz.prog 189 [.str cs,.int .i32 r] (.ret (.int .i64 (-1))):=by
 refine aa.of Tryz.func189 rfl (ab enters Tryz.func189 rfl) (by simp[Tryz.ntmps189]) ?_;show W Tryz.prog 187 0 none _ _ _;have h1:decide ((0:Int)≤(r:Int))=true:=decide_eq_true (by omega);have h2:decide ((r:Int)<128)=false:=decide_eq_false (by omega);refine .seq (.region [] (by decide) ?_);simp only[ao,gdA,ae,ad,ai,au,evalOp,St.ev,St.put,bn,ofV,ak];refine .block (.seq (.region [] (by decide) ?_))
 simp only[ao,gdA,ae,ad,ai,au,evalOp,St.ev,Av.get,St.put,ofV,ak,Nat.reduceEqDiff,↓reduceIte,List.getElem?_cons_zero,List.getElem?_cons_succ,List.getElem?_toArray,Option.bind_some,beq_true,bB,cond_true,gy,cr,h1,h2];refine .cond (t:=false) rfl ?_;refine .seq (.region [] (by decide) ?_);generalize h3:((r:Int)==65533)=b3;cases b3 with
 | true=>
  have hr:iK Tryz.prog 9 (.str cs) []=some (.ptr 0 0,[.siter cs 0]):=by simp[iK,Tryz.underlying9]
  simp only[ao,gdA,ae,ad,ai,au,evalOp,St.ev,Av.get,St.put,ofV,ak,Nat.reduceEqDiff,↓reduceIte,jf,h3];refine .cond (t:=true) rfl (.seq (.seq (.region [] (by decide) ?_)));simp only[ao,gdA,ae,ad,ai,au,evalOp,St.ev,Av.get,St.put,ak,Nat.reduceEqDiff,↓reduceIte,hr];refine .block ?_
  refine .bh (X:=Nat) (fun i=>[(175,.ptr 0 0)]) (fun i=>[.siter cs i]) (fun i=>i≤cs.length) (fun i=>cs.length - i) 0 (Nat.zero_le _)
   (by simp[aB,Av.get]) rfl ?_
  intro i hi;refine .seq (.region [] (by decide) ?_);by_cases hlt:i<cs.length
  ·obtain⟨x,hx,hdrop⟩:=drop_at hlt
   have hx8:=hcs x (List.mem_of_getElem? hx);simp only[ao,iL,gdA,ae,ad,ai,au,evalOp,St.ev,Av.get,St.put,ak,↓reduceIte,List.getElem?_cons_zero,Option.map_some,uv hx hx8];refine .seq (.cond (t:=true) rfl (.skip ?_));simp only[ak];refine .block (.seq (.region [] (by decide) ?_));simp only[ao,gdA,ae,ad,ai,au,evalOp,St.ev,Av.get,St.put,ak,Nat.reduceEqDiff,↓reduceIte,List.getElem?_cons_zero,List.getElem?_cons_succ,Option.map_some];refine .seq (.region [] (by decide) ?_);have hne:((x.toNat:Int)==65533)=false:=by simp;omega
   simp only[ao,gdA,ae,ad,ai,au,evalOp,St.ev,Av.get,St.put,ofV,ak,↓reduceIte,jf,hne];refine .cond (t:=false) rfl (.skip ?_);simp only[ak,bl];refine⟨i+1,by omega,by omega,⟨rfl,trivial⟩,rfl,trivial⟩
  ·have hi':i=cs.length:=by omega
   subst hi';simp only[ao,iL,gdA,ae,ad,ai,au,evalOp,St.ev,Av.get,St.put,ak,↓reduceIte,List.getElem?_cons_zero,Option.map_some,qY (Nat.le_refl cs.length)];refine .seq (.cond (t:=false) rfl (.exit ?_));simp only[ak,↓reduceIte,bl];refine .seq (.region [] (by decide) ?_);simp only[ao,gdA,ae,ad,ai,au,evalOp,St.ev,St.put,ofV,ak];exact .ret ⟨_,rfl,_,rfl,.refl _⟩
 | false=>
  simp only[ao,gdA,ae,ad,ai,au,evalOp,St.ev,Av.get,St.put,ofV,ak,Nat.reduceEqDiff,↓reduceIte,jf,h3];refine .cond (t:=false) rfl ?_;have hv:=Bu (r:Int);generalize wD (r:Int)=b4 at hv;refine .seq (.region [.pure (.ret (.bool b4))] (by decide) ?_);cases b4 with
  |false=>
   simp only[ao,gdA,ae,ad,ai,au,evalOp,St.ev,Av.get,St.put,ak,Nat.reduceEqDiff,↓reduceIte,aX,AV.hfs,AV.hf,Bool.and_self,List.map_cons,List.map_nil,List.nil_append,List.append_nil,Option.map_some,Bool.not_false,eF];refine⟨hv,?_⟩;refine .cond (t:=true) rfl (.seq (.region [] (by decide) ?_));simp only[ao,gdA,ae,ad,ai,au,evalOp,St.ev,St.put,ofV,ak];exact .ret ⟨_,rfl,_,rfl,.refl _⟩
  | true=>
   simp only[ao,gdA,ae,ad,ai,au,evalOp,St.ev,Av.get,St.put,ak,Nat.reduceEqDiff,↓reduceIte,aX,AV.hfs,AV.hf,Bool.and_self,List.map_cons,List.map_nil,List.nil_append,List.append_nil,Option.map_some,Bool.not_true,eF];refine⟨hv,?_⟩;refine .cond (t:=false) rfl ?_;obtain⟨e,he,hl2,hl4,z,hz,hz8⟩:=G2 r h;have hcv:cc Tryz.prog 21 9 (.int .i32 (r:Int)) []=some (.str e,[]):=by
    simp[cc,Tryz.underlying21,Tryz.underlying9,he]
   have hze:dP Tryz.prog 9 (.str e) (.int .i64 ((e.length - 1:Nat):Int))=some (.int .u8 z.toNat):=ix9 e _ z hz;refine .fM ?_;refine .seq (.region [] (by decide) ?_);simp only[ao,gdA,ae,ad,ai,au,evalOp,St.ev,Av.get,St.put,ak,Nat.reduceEqDiff,↓reduceIte,hcv];refine .seq (.region [] (by decide) ?_);have hsub:aW Tryz.prog .sub 3 (.int .i64 (e.length:Int)) (.int .i64 1)=some (.int .i64 ((e.length - 1:Nat):Int)):=K7 _ e.length 1 (by omega) (by omega);simp only[ao,deN,gdA,ae,ad,ai,au,evalOp,St.ev,Av.get,St.put,ofV,ak,↓reduceIte,Option.map_some,ls9,hsub];refine .seq (.region [] (by decide) ?_)
   simp only[ao,gdA,ae,ad,ai,au,evalOp,St.ev,Av.get,St.put,ak,↓reduceIte];refine .seq (.region [] (by decide) ?_);simp only[ao,gdA,ae,ad,ai,au,evalOp,St.ev,St.put,ofV,ak];generalize hk:e.length - 1=k at*;refine .seq ?_;refine .block ?_;refine .bh (X:=Unit) (fun _=>[(0,.str cs),(7,.str e),(8,.int .i64 (k:Int)),(9,.int .i64 (k:Int))]) (fun _=>[]) (fun _=>True) (fun _=>0) () trivial (by simp[aB,Av.get]) rfl ?_;intro _ _;refine .seq (.seq (.region [] (by decide) ?_));simp only[ao,deN,gdA,ae,ad,ai,au,evalOp,St.ev,Av.get,St.put,ak,Nat.reduceEqDiff,↓reduceIte,Option.map_some,ls9,cr]
   by_cases hlt:k<cs.length
   ·obtain⟨y,hy,hdrop⟩:=drop_at hlt
    have hy8:=hcs y (List.mem_of_getElem? hy);have hye:dP Tryz.prog 9 (.str cs) (.int .i64 (k:Int))=some (.int .u8 y.toNat):=ix9 cs _ y hy;have hyz:((y.toNat:Int) !=(z.toNat:Int))=true:=by simp;omega
    refine .cond (t:=true) (by simp[St.ev,Av.get];omega) (.skip ?_);simp only[ak];refine .block (.fM ?_);refine .seq (.seq (.xA [] mixed (by kernel_rfl) (by kernel_rfl) (by kernel_rfl) ?_));simp only[EDf,gdA,ae,ad,evalOp,St.ev,Av.get,St.put,ak,Nat.reduceEqDiff,↓reduceIte,Option.map_some,hye,hze,nu,hyz];have hno:z∉cs.drop (k+1):=fun hm=>by have:=hcs z (List.mem_of_mem_drop hm);omega
    have hb:=uq (cs.drop (k+1)) z;rw[G3 hno]at hb;have hsl:bo Tryz.prog 9 (.str cs) (some (.int .i64 ((k+1:Nat):Int))) none none=some (.str (cs.drop (k+1))):=by
     rw[ss9,cX .i64 (k+1) (by omega)];simp only[Option.map_some];rw[List.take_of_length_le (by simp)]
    refine .cond (t:=true) rfl (.seq (.xA [.pure (.ret (.int .i64 (-1)))] mixed (by kernel_rfl) (by kernel_rfl) (by kernel_rfl) ?_));simp only[EDf,deN,gdA,ae,ad,evalOp,St.ev,Av.get,St.put,ofV,ak,Nat.reduceEqDiff,↓reduceIte,aX,AV.hfs,AV.hf,Bool.and_self,List.map_cons,List.map_nil,List.nil_append,List.append_nil,Option.map_some,Option.map_none,K5 3 k (by omega),hsl,hze];refine⟨hb,?_⟩;refine .seq (.seq (.region [] (by decide) ?_));have hm1:decide ((-1:Int)<0)=true:=rfl;simp only[ao,gdA,ae,ad,ai,au,evalOp,St.ev,Av.get,St.put,ofV,ak,↓reduceIte,cr,hm1]
    refine .cond (t:=true) rfl (.seq (.region [] (by decide) ?_));simp only[ao,gdA,ae,ad,ai,au,evalOp,St.ev,St.put,ofV,ak];exact .ret ⟨_,rfl,_,rfl,.refl _⟩
   ·refine .cond (t:=false) (by simp[St.ev,Av.get];omega) (.exit ?_)
    simp only[ak,↓reduceIte,bl];refine .seq (.seq (.region [] (by decide) ?_));simp only[ao,gdA,ae,ad,ai,au,evalOp,St.ev,St.put,ofV,ak];exact .ret ⟨_,rfl,_,rfl,.refl _⟩
def dH(cs:Bytes):Bytes→Nat
 | []=>0
 |x::t=>if x∈cs then 0 else dH cs t+1
def fT(s cs:Bytes):Int:=if dH cs s<s.length then(dH cs s:Int)else -1
theorem po{cs:Bytes}(hcs:∀b∈cs,b.toNat<128){s:Bytes}:∀(w i:Nat),i+w≤s.length→(∀j,i≤j→j<i+w→128≤(s.getD j 0).toNat)→dH cs (s.drop i)=w+dH cs (s.drop (i+w))
 |0,i,_,_=>by simp
 |w+1,i,hl,hj=>by
  obtain⟨x,hx,hdrop⟩:=drop_at (show i<s.length by omega);have hx0:s.getD i 0=x:=by simp[List.getD,hx]
  have h128:=hj i (Nat.le_refl _) (by omega);rw[hx0]at h128;have hn:x∉cs:=fun hm=>by have:=hcs x hm;omega
  rw[hdrop,dH,if_neg hn,po hcs w (i+1) (by omega) (fun j h1 h2=>hj j (by omega) (by omega))];rw[show i+(w+1)=i+1+w from by omega];omega
theorem Ei{s:Bytes}{c:UInt8}:decide (ixB s c≥0)=decide (c∈s):=by
 rcases pc s c with⟨h1,h2⟩|⟨i,h1,h2,_⟩
 ·rw[h1,decide_eq_false h2];rfl
 ·rw[h1,decide_eq_true (List.mem_of_getElem? h2)];simp
theorem xV(n:Int):aa Tryz.prog 190 [.int .i64 n] (.ret (.bool (decide (n>8)))):=by
 refine aa.of Tryz.func190 rfl (ab enters Tryz.func190 rfl) (by simp[Tryz.ntmps190]) ?_;show W Tryz.prog 5 0 none _ _ _;refine .seq (.region [] (by decide) ?_);simp only[ao,gdA,ae,ad,ai,au,evalOp,St.ev,St.put,bn,ofV,ak];refine .seq (.region [] (by decide) ?_);simp only[ao,gdA,ae,ad,ai,au,evalOp,St.ev,Av.get,St.put,ofV,ak,Nat.reduceEqDiff,↓reduceIte,ec];exact .ret ⟨_,rfl,_,rfl,.refl _⟩
set_option maxRecDepth 8000 in
theorem zo (s cs:Bytes) (hcs: ∀b∈cs,b.toNat<128) (h2:2≤cs.length) (hl:cs.length≤1000) (h8:s.length≤8):aa Tryz.prog 165 [.str s,.str cs] (.ret (.int .i64 (fT s cs))):=by
  refine aa.of Tryz.func165 rfl (ab enters Tryz.func165 rfl) (by simp[Tryz.ntmps165]) ?_;show W Tryz.prog 55 0 none _ _ _;have e0:(cs==[])=false:=by cases cs with|nil=>simp at h2|cons _ _=>rfl
  have e1:((cs.length:Int)==1)=false:=by simp;omega
  have x0:({data:= #[]}:ByteArray).size≤ay:=by decide
  have hsh:=xV (s.length:Int);rw[decide_eq_false (show¬((s.length:Int)>8) by omega)]at hsh;refine .seq (.region [] (by decide) ?_);simp only[ao,gdA,ae,ad,ai,au,evalOp,St.ev,St.put,bn,ofV,ak];refine .seq (.seq (.region [] (by decide) ?_));simp only[ao,gdA,ae,ad,ai,au,evalOp,St.ev,Av.get,St.put,ofV,ak,Nat.reduceEqDiff,↓reduceIte,xz,x0,e0];refine .cond (t:=false) rfl (.skip ?_);refine .seq (.seq (.region [] (by decide) ?_));simp only[ao,deN,gdA,ae,ad,ai,au,evalOp,St.ev,Av.get,St.put,ofV,ak,Nat.reduceEqDiff,↓reduceIte,Option.map_some,ls9,jf,e1];refine .cond (t:=false) rfl (.skip ?_)
  refine .seq (.seq (.region [.pure (.ret (.bool false))] (by decide) ?_));simp only[ao,deN,gdA,ae,ad,ai,au,evalOp,St.ev,Av.get,St.put,ak,Nat.reduceEqDiff,↓reduceIte,aX,AV.hfs,AV.hf,Bool.and_self,List.map_cons,List.map_nil,List.nil_append,List.append_nil,Option.map_some,ls9];refine⟨hsh,?_⟩;refine .cond (t:=false) rfl (.skip ?_);have hr:iK Tryz.prog 9 (.str s) []=some (.ptr 0 0,[.siter s 0]):=by simp[iK,Tryz.underlying9]
  simp only[ak];refine .seq (.seq (.region [] (by decide) ?_));simp only[ao,gdA,ae,ad,ai,au,evalOp,St.ev,Av.get,St.put,ak,Nat.reduceEqDiff,↓reduceIte,hr];refine .block ?_
  refine .bh (X:=Nat) (fun i=>[(45,.ptr 0 0),(1,.str cs)]) (fun i=>[.siter s i]) (fun i=>i≤s.length∧i+dH cs (s.drop i)=dH cs s) (fun i=>s.length - i) 0 ⟨Nat.zero_le _,by simp⟩
    (by simp[aB,Av.get]) rfl ?_
  rintro i ⟨hi,hall⟩;refine .seq (.region [] (by decide) ?_);by_cases h:i<s.length
  · obtain⟨x,hx,hdrop⟩:=drop_at h
    obtain⟨r,w,o,hnx,hrn,ho,hw⟩: ∃(r:Int) (w:Nat) (o:Int),eW (.ptr 0 0) [.siter s i]=some (.tup [.bool true,.int .i64 (i:Int),.int .i32 r],[.siter s (i+w)])∧
        aa Tryz.prog 189 [.str cs,.int .i32 r] (.ret (.int .i64 o))∧decide (o≥0)=decide (x∈cs)∧(x∉cs→1≤w∧i+w≤s.length∧dH cs (s.drop i)=w+dH cs (s.drop (i+w))):=by
      rcases Nat.lt_or_ge x.toNat 128 with h1|h1
      · refine⟨_,1,_,uv hx h1,Eg cs x h1,Ei,fun hn=>⟨Nat.le_refl _,by omega,?_⟩⟩
        rw[hdrop,dH,if_neg hn];omega
      · obtain⟨d1,d2,d3,d4⟩:=G1 hx h1
        have hn:x∉cs:=fun hm=>by have:=hcs x hm;omega
        refine⟨_,_,-1,Bt hx,Eh cs hcs hl _ d1,?_,fun _=>⟨d2,d3,po hcs _ _ d3 d4⟩⟩;rw[decide_eq_false hn];rfl
    simp only[ao,iL,gdA,ae,ad,ai,au,evalOp,St.ev,Av.get,St.put,ak,↓reduceIte,List.getElem?_cons_zero,Option.map_some,hnx];refine .seq (.cond (t:=true) rfl (.skip ?_));simp only[ak];refine .block (.seq (.region [] (by decide) ?_));simp only[ao,gdA,ae,ad,ai,au,evalOp,St.ev,Av.get,St.put,ak,Nat.reduceEqDiff,↓reduceIte,List.getElem?_cons_zero,List.getElem?_cons_succ,Option.map_some];refine .seq (.region [.pure (.ret (.int .i64 o))] (by decide) ?_);by_cases hm:x∈cs
    · rw[decide_eq_true hm]at ho
      simp only[ao,gdA,ae,ad,ai,au,evalOp,St.ev,Av.get,St.put,ofV,ak,Nat.reduceEqDiff,↓reduceIte,aX,AV.hfs,AV.hf,Bool.and_self,List.map_cons,List.map_nil,List.nil_append,List.append_nil,ed,ho];refine⟨hrn,?_⟩;refine .cond (t:=true) rfl (.seq (.region [] (by decide) ?_));simp only[ao,gdA,ae,ad,ai,au,evalOp,St.ev,Av.get,St.put,ak,Nat.reduceEqDiff,↓reduceIte];refine .ret ?_;have:fT s cs=(i:Int):=by
        rw[hdrop,dH,if_pos hm]at hall;unfold fT;rw[if_pos (by omega)];omega
      rw[this];exact⟨_,rfl,_,rfl,.refl _⟩
    · rw[decide_eq_false hm]at ho
      obtain⟨w1,w2,w3⟩:=hw hm;simp only[ao,gdA,ae,ad,ai,au,evalOp,St.ev,Av.get,St.put,ofV,ak,Nat.reduceEqDiff,↓reduceIte,aX,AV.hfs,AV.hf,Bool.and_self,List.map_cons,List.map_nil,List.nil_append,List.append_nil,ed,ho];refine⟨hrn,?_⟩;refine .cond (t:=false) rfl (.skip ?_);simp only[ak,bl];refine⟨i+w,⟨w2,by omega⟩,by omega,⟨rfl,rfl,trivial⟩,rfl,trivial⟩
  · have hi':i=s.length:=by omega
    subst hi';simp only[ao,iL,gdA,ae,ad,ai,au,evalOp,St.ev,Av.get,St.put,ak,↓reduceIte,List.getElem?_cons_zero,Option.map_some,qY (Nat.le_refl s.length)];refine .seq (.cond (t:=false) rfl (.exit ?_));simp only[ak,↓reduceIte,bl];refine .seq (.region [] (by decide) ?_);simp only[ao,gdA,ae,ad,ai,au,evalOp,St.ev,St.put,ofV,ak];refine .ret ?_;have:fT s cs= -1:=by
      rw[List.drop_length]at hall;simp only[dH]at hall;unfold fT;rw[if_neg (by omega)]
    rw[this];exact⟨_,rfl,_,rfl,.refl _⟩
def dI(f:Nat→Bool):List AV:=(List.range 256).map fun k=>.bool (f k)
theorem cT(f:Nat→Bool):(dI f).length=256:=by simp[dI]
theorem lZ(f:Nat→Bool)(i:Nat)(h:i<256):(dI f)[i]? =some (.bool (f i)):=by simp[dI,List.getElem?_range h]
theorem Bv(f g:Nat→Bool)(i:Nat)(hg:g i=true)(h:∀k,k≠i→g k=f k):(dI f).set i (.bool true)=dI g:=by
 apply List.ext_getElem?;intro k;rw[List.getElem?_set];by_cases e:i=k
 ·subst e
  rw[if_pos rfl];by_cases hl:i<256
  ·rw[if_pos (by rw[cT];exact hl),lZ g i hl,hg]
  ·rw[if_neg (by rw[cT];exact hl),List.getElem?_eq_none (by rw[cT];omega)]
 ·rw[if_neg e]
  by_cases hl:k<256
  ·rw[lZ f k hl,lZ g k hl,h k (fun x=>e x.symm)]
  ·rw[List.getElem?_eq_none (by rw[cT];omega),List.getElem?_eq_none (by rw[cT];omega)]
theorem mV(m:Nat)(f:Nat→Bool):AV.bS m (dI f)=true:=by rw[ic,List.all_eq_true];intro v hv;obtain⟨k,_,rfl⟩:=List.mem_map.1 hv;rfl
theorem uw(f:Nat→Bool):AV.hfs (dI f)=true:=by rw[be,List.all_eq_true];intro v hv;obtain⟨k,_,rfl⟩:=List.mem_map.1 hv;rfl
theorem Bw(f:Nat→Bool):(dI f).all AV.isC=true:=by rw[List.all_eq_true];intro v hv;obtain⟨k,_,rfl⟩:=List.mem_map.1 hv;rfl
def inC(cs:Bytes)(k:Nat):Bool:=cs.any fun b=>b.toNat==k
theorem Jk:bZ Tryz.prog 216=some (.agg (dI fun _=>false)):=by kernel_rfl
theorem FE(f:Nat→Bool)(b:Bool):al Tryz.prog 216 (.ptr 0 0) [.cells (dI f) b]=some (.agg (dI f)):=by
 simp[Fy,ldG,cT,List.take_of_length_le]
theorem Bx{cs:List AV}{l:List AV}(h:l.length=cs.length):cm cs 0 l=l:=by
 have:=nq [] l cs (Nat.le_of_eq h);simpa[h]using this
theorem FF(f g:Nat→Bool)(b:Bool):aE Tryz.prog 216 (.ptr 0 0) (.agg (dI g)) [.cells (dI f) b]=some [.cells (dI g) b]:=by
 simp[Fx,stC,AV.cells,cT,Bw,Bx (cs:=dI f) (l:=dI g) (by rw[cT,cT])]
theorem Jl(f:Nat→Bool)(b:Bool)(x:UInt8):ah Tryz.prog 216 (.ptr 0 0) (.int .u8 x.toNat) [.cells (dI f) b]=some (.ptr 0 x.toNat):=by
 have:=x.toNat_lt;simp[ah,bL,Tryz.underlying216,tz4,this]
theorem G4(cs:Bytes)(i:Nat)(x:UInt8)(hx:cs[i]? =some x)(b:Bool):aE Tryz.prog 4 (.ptr 0 x.toNat) (.bool true) [.cells (dI (inC (cs.take i))) b]=some [.cells (dI (inC (cs.take (i+1)))) b]:=by
 have hlt:=x.toNat_lt;have h1:(dI (inC (cs.take i))).set x.toNat (.bool true)=dI (inC (cs.take (i+1))):=by
  refine Bv _ _ _ ?_ ?_
  ·simp only[inC,List.take_add_one,hx,List.any_append];simp
  ·intro k hk
   simp only[inC,List.take_add_one,hx,List.any_append,Option.toList_some,List.any_cons,List.any_nil,Bool.or_false];have:(x.toNat==k)=false:=by simp;omega
   rw[this,Bool.or_false]
 simp[st4,stC,AV.cells,AV.isC,cT,lH,h1];omega
set_option maxRecDepth 8000 in
theorem Ej(cs:Bytes)(hcs:∀b∈cs,b.toNat<128):aa Tryz.prog 191 [.str cs] (.ret (.tup [.agg (dI (inC cs)),.bool true])):=by
 refine aa.fit fun hfit=>?_;have hL:cs.length≤ay:=hfit (.str cs) (by simp);refine aa.of Tryz.func191 rfl (ab enters Tryz.func191 rfl) (by simp[Tryz.ntmps191]) ?_;show W Tryz.prog 21 0 none _ _ _;refine .seq (.region [] (by decide) ?_);simp only[ao,gdA,ae,ad,ai,au,evalOp,St.ev,St.put,bn,ofV,ak,List.nil_append,Option.map_some,Jk,AV.cells];refine .seq (.seq (.region [] (by decide) ?_));simp only[ao,gdA,ae,ad,ai,au,evalOp,St.ev,St.put,ofV,ak];refine .block ?_
 refine .GA 4 9 10 11 0 cs.length hL (Nat.zero_le _) rfl rfl rfl rfl rfl rfl rfl rfl rfl (by decide)
  (fun i=>[(0,.str cs),(2,.ptr 0 0)]) (fun _=>rfl) (fun i=>[.cells (dI (inC (cs.take i))) false]) (fun _=>Nat.zero_le _) (fun i=>True) rfl trivial ?_ ?_ ?_ ?_ ?_ ?_
 ·simp only[cM,Av.get,Nat.reduceEqDiff,↓reduceIte,cz,gn,gq,and_self,List.length_nil]
 ·intro i _
  simp only[eg,AV.hlt,AV.bS,cA,Bool.and_self,Bool.and_true,Bool.true_and];rfl
 ·have:inC (cs.take 0)=fun _=>false:=by funext k;simp[inC]
  rw[this];exact ee (by simp[OB.hlt,mV])
 ·intro i hi _
  refine .region [] (by decide) ?_;simp only[ao,deN,gdA,ae,ad,ai,au,evalOp,St.ev,Av.get,St.put,ak,Nat.reduceEqDiff,↓reduceIte,Option.map_some,ls9,cr,dlt];refine⟨trivial,?_,ee (by simp[OB.hlt,mV]),trivial⟩;simp only[cM,Av.get,Nat.reduceEqDiff,↓reduceIte,cz,gn,gq,and_self]
 ·intro i hi _
  obtain⟨u,hu,hdrop⟩:=drop_at hi;have h8:=hcs u (List.mem_of_getElem? hu);have hge:decide ((u.toNat:Int)≥128)=false:=decide_eq_false (by omega);refine .block (.seq (.region [] (by decide) ?_));simp only[ao,gdA,ae,ad,ai,au,evalOp,St.ev,Av.get,St.put,ak,Nat.reduceEqDiff,↓reduceIte,Option.map_some,ix9 _ _ _ hu];refine .seq (.seq (.region [] (by decide) ?_));simp only[ao,gdA,ae,ad,ai,au,evalOp,St.ev,Av.get,St.put,ofV,ak,↓reduceIte,ed,hge];refine .cond (t:=false) rfl (.skip ?_);simp only[ak];refine .region [] (by decide) ?_
  simp only[ao,gdA,ae,ad,ai,au,evalOp,St.ev,Av.get,St.put,ofV,Nat.reduceEqDiff,↓reduceIte,Option.map_some,Jl,G4 cs i u hu];refine⟨trivial,?_,ee (by simp[OB.hlt,mV]),rfl⟩;simp only[cM,Av.get,Nat.reduceEqDiff,↓reduceIte,cz,gn,gq,and_self]
 ·intro _
  rw[List.take_length];simp only[ak,↓reduceIte,bl];refine .seq (.region [] (by decide) ?_);simp only[ao,gdA,ae,ad,ai,au,evalOp,St.ev,Av.get,St.put,ofV,ak,Nat.reduceEqDiff,↓reduceIte,Option.map_some,FE,FF];exact .ret (ud 2 216 3 rfl rfl (FE _ _) rfl (uw _) rfl)
set_option maxRecDepth 8000 in
theorem G5(f:Nat→Bool)(x:UInt8):aa Tryz.prog 192 [.vptr (dI f),.int .u8 x.toNat] (.ret (.bool (f x.toNat))):=by
 refine aa.of Tryz.func192 rfl (ab enters Tryz.func192 rfl) (by simp[Tryz.ntmps192]) ?_;show W Tryz.prog 10 0 none _ _ _;refine .vc (by decide) ?_;have hlt:=x.toNat_lt;have h1:ah Tryz.prog 216 (.vptr (dI f)) (.int .u8 (x.toNat:Int)) []=some (.vptr ((dI f).drop x.toNat)):=by
  simp[ah,bL,Tryz.underlying216,tz4,hlt]
 have h2:(dI f).drop x.toNat=.bool (f x.toNat)::(dI f).drop (x.toNat+1):=by
  rw[List.drop_eq_getElem_cons (by rw[cT];exact hlt)];have:=lZ f x.toNat hlt;rw[List.getElem?_eq_getElem (by rw[cT];exact hlt)]at this;rw[Option.some.inj this]
 repeat'(first|(simp(disch:=first|omega|(simp only[zL];omega))only[go_sem,seval,h1,h2]))
 exact⟨_,rfl,_,rfl,.refl _⟩
theorem Ek(cs:Bytes)(x:UInt8):inC cs x.toNat=decide (x∈cs):=by
 simp only[inC];rw[Bool.eq_iff_iff];simp only[List.any_eq_true,beq_iff_eq,decide_eq_true_eq];constructor
 ·rintro⟨b,hb,he⟩
  have:b=x:=UInt8.toNat_inj.1 he;exact this ▸ hb
 ·exact fun h=>⟨x,h,rfl⟩
set_option maxRecDepth 8000 in
theorem Bz(s cs:Bytes)(hcs:∀b∈cs,b.toNat<128)(h2:2≤cs.length)(h8:8<s.length):aa Tryz.prog 165 [.str s,.str cs] (.ret (.int .i64 (fT s cs))):=by
 refine aa.fit fun hfit=>?_;have hL:s.length≤9223372036854775807:=hfit (.str s) (by simp);refine aa.of Tryz.func165 rfl (ab enters Tryz.func165 rfl) (by simp[Tryz.ntmps165]) ?_;show W Tryz.prog 55 0 none _ _ _;refine .vc (by decide) ?_;have e0:(cs==[])=false:=by cases cs with|nil=>simp at h2|cons _ _=>rfl
 have x0:({data:=#[]}:ByteArray).size≤ay:=by decide
 have hsh:=xV (s.length:Int);rw[decide_eq_true (show((s.length:Int)>8) by omega)]at hsh;have hzs:=Jk
 repeat'(first|(simp(disch:=first|omega|(simp only[zL];omega))only[go_sem,seval,x0,e0,hzs,FF])|((with_reducible first|apply aj.pure|apply an.pure);(with_reducible first|exact hsh|exact Ej _ hcs);(first|rfl|simp only[go_sem])))
 refine W.bh (X:=Nat) (fun i=>[(8,.int .i64 (i:Int)),(6,.ptr 0 0),(0,.str s)]) (fun i=>[.cells (dI (inC cs)) false]) (fun i=>i≤s.length∧i+dH cs (s.drop i)=dH cs s) (fun i=>s.length - i) 0 ⟨Nat.zero_le _,by simp⟩
  (by simp[aB,Av.get]) rfl ?_
 rintro i ⟨hi,hall⟩;refine W.vc (by decide) ?_;by_cases h:i<s.length
 ·obtain⟨x,hx,hdrop⟩:=drop_at h
  have hhas:=G5 (inC cs) x;rw[Ek]at hhas;have hln:aX [.cells (dI (inC cs)) false] [.ptr 0 0,.int .u8 (x.toNat:Int)] (.ret (.bool (decide (x∈cs))))=some [.vptr (dI (inC cs)),.int .u8 (x.toNat:Int)]:=zf (off:=0) rfl (Nat.zero_le _) (uw _) rfl rfl;rw[hdrop,dH]at hall;by_cases hm:x∈cs
  ·rw[decide_eq_true hm]at hhas hln
   rw[if_pos hm]at hall
   repeat'(first|(simp(disch:=first|omega|(simp only[zL];omega))only[go_sem,seval,ix9 _ _ _ hx])|(guard_target=~ aj _ _ _ _ _ _ _;refine aj.aX _ hhas hln ?_))
   have:fT s cs=(i:Int):=by unfold fT;rw[if_pos (by omega)];omega
   rw[this];exact⟨_,rfl,_,rfl,.refl _⟩
  ·rw[decide_eq_false hm]at hhas hln
   rw[if_neg hm]at hall
   repeat'(first|(simp(disch:=first|omega|(simp only[zL];omega))only[go_sem,seval,ix9 _ _ _ hx])|(guard_target=~ aj _ _ _ _ _ _ _;refine aj.aX _ hhas hln ?_))
   exact⟨i+1,⟨by omega,by omega⟩,by omega,⟨rfl,rfl,rfl,trivial⟩⟩
 ·have hi':i=s.length:=by omega
  subst hi'
  repeat'(first|(simp(disch:=first|omega|(simp only[zL];omega))only[go_sem,seval]))
  have:fT s cs= -1:=by
   rw[List.drop_length]at hall;simp only[dH]at hall;unfold fT;rw[if_neg (by omega)]
  rw[this];exact⟨_,rfl,_,rfl,.refl _⟩
theorem El(s cs:Bytes)(hcs:∀b∈cs,b.toNat<128)(h2:2≤cs.length)(hl:cs.length≤1000):aa Tryz.prog 165 [.str s,.str cs] (.ret (.int .i64 (fT s cs))):=by
 rcases Nat.lt_or_ge 8 s.length with h|h
 ·exact Bz s cs hcs h2 h
 ·exact zo s cs hcs h2 hl h
theorem containsAny(s cs:Bytes)(hcs:∀b∈cs,b.toNat<128)(h2:2≤cs.length)(hl:cs.length≤1000):aa Tryz.prog 173 [.str s,.str cs] (.ret (.bool (decide (fT s cs≥0)))):=by
 refine aa.of Tryz.func173 rfl (ab enters Tryz.func173 rfl) (by simp[Tryz.ntmps173]) ?_;show W Tryz.prog 9 0 none _ _ _;refine W.vc (by decide) ?_
 repeat'(first|(simp(disch:=first|omega|(simp only[List.length_append,List.length_cons,List.length_nil,List.length_map,List.length_set];omega))only[ep,gT,bT,dU,cw,cQ,VS,cS,dv,ae,ad,ai,au,evalOp,dV,cD,xG,Av.get,St.put,bn,ak,Nat.reduceEqDiff,↓reduceIte,List.map_cons,List.map_nil,List.nil_append,List.append_nil,Nat.zero_add,ed])|((with_reducible first|apply aj.pure|apply an.pure);(with_reducible exact El _ _ hcs h2 hl);(first|rfl|simp only[go_sem])))
 exact⟨_,rfl,_,rfl,.refl _⟩
def df(s:Bytes):Bool:=s.any fun b=>b==58||b==59||b==44
theorem uy(cs:Bytes):∀s:Bytes,decide (dH cs s<s.length)=s.any fun b=>decide (b∈cs)
 | []=>by simp[dH]
 |x::t=>by
  rw[List.any_cons,←uy cs t,dH];by_cases h:x∈cs
  ·simp[h]
  ·simp[h]
theorem Em(s:Bytes):aa Tryz.prog 139 [.str s] (.ret (.bool (df s))):=by
 refine aa.of Tryz.func139 rfl (ab enters Tryz.func139 rfl) (by simp[Tryz.ntmps139]) ?_;show W Tryz.prog 5 0 none _ _ _;refine W.vc (by decide) ?_;have x0:({data:=#[58,59,44]}:ByteArray).size≤ay:=by decide
 have hq:decide (fT s [58,59,44]≥0)=df s:=by
  have:decide (fT s [58,59,44]≥0)=decide (dH [58,59,44] s<s.length):=by
   unfold fT;split
   ·rename_i h;simp[h]
   ·rename_i h;simp[h]
  rw[this,uy];unfold df;congr 1;funext b;rw[Bool.eq_iff_iff];simp[or_assoc]
 have hc:=containsAny s [58,59,44] (by decide) (by decide) (by decide);rw[hq]at hc
 repeat'(first|(simp(disch:=first|omega|(simp only[zL];omega))only[go_sem,seval,x0])|((with_reducible first|apply aj.pure|apply an.pure);(with_reducible exact hc);(first|rfl|simp only[go_sem])))
 exact⟨_,rfl,_,rfl,.refl _⟩
end Go.Proofs.YtekcidbpejicdaaGreatDoor
namespace Go.Proofs
set_option linter.unusedVariables false
set_option linter.unusedSimpArgs false
open Go.Shelf
open Go.Shelf
def Tryz.nD:Go.Shelf.Ren:=⟨fun|158=>172|165=>108|166=>109|167=>196|169=>110|230=>197|203=>198|240=>144|241=>145|197=>213|118=>214|168=>215|270=>216|262=>217|276=>177|277=>178|260=>226|242=>227|313=>228|278=>241|274=>242|275=>243|n=>n,fun|9=>9|4=>4|3=>3|5=>5|72=>134|0=>0|76=>138|75=>137|107=>222|70=>132|20=>20|37=>108|127=>179|21=>21|105=>243|164=>203|162=>266|203=>264|119=>230|46=>148|139=>280|138=>279|51=>165|160=>281|208=>290|206=>288|80=>140|n=>n,fun|13=>1|3=>2|4=>3|n=>n⟩
theorem Tryz.En:Go.Proofs.Lays.n158 Tryz.prog Tryz.nD:={
 mixed:=by kernel_rfl
 f118:=Tryz.func214.trans (congrArg some (by kernel_rfl))
 f158:=Tryz.func172.trans (congrArg some (by kernel_rfl))
 f165:=Tryz.func108.trans (congrArg some (by kernel_rfl))
 f166:=Tryz.func109.trans (congrArg some (by kernel_rfl))
 f167:=Tryz.func196.trans (congrArg some (by kernel_rfl))
 f168:=Tryz.func215.trans (congrArg some (by kernel_rfl))
 f169:=Tryz.func110.trans (congrArg some (by kernel_rfl))
 f197:=Tryz.func213.trans (congrArg some (by kernel_rfl))
 f203:=Tryz.func198.trans (congrArg some (by kernel_rfl))
 f230:=Tryz.func197.trans (congrArg some (by kernel_rfl))
 f240:=Tryz.func144.trans (congrArg some (by kernel_rfl))
 f241:=Tryz.func145.trans (congrArg some (by kernel_rfl))
 f242:=Tryz.func227.trans (congrArg some (by kernel_rfl))
 f260:=Tryz.func226.trans (congrArg some (by kernel_rfl))
 f262:=Tryz.func217.trans (congrArg some (by kernel_rfl))
 f270:=Tryz.func216.trans (congrArg some (by kernel_rfl))
 f274:=Tryz.func242.trans (congrArg some (by kernel_rfl))
 f275:=Tryz.func243.trans (congrArg some (by kernel_rfl))
 f276:=Tryz.func177.trans (congrArg some (by kernel_rfl))
 f277:=Tryz.func178.trans (congrArg some (by kernel_rfl))
 f278:=Tryz.func241.trans (congrArg some (by kernel_rfl))
 f313:=Tryz.func228.trans (congrArg some (by kernel_rfl))
 t0:=Tryz.underlying0
 a0:=Tryz.isAgg0
 z0:=Tryz.sizeOf0
 v0:=Tryz.zeroValue0
 t3:=Tryz.underlying3
 a3:=Tryz.isAgg3
 z3:=Tryz.sizeOf3
 v3:=Tryz.zeroValue3
 t4:=Tryz.underlying4
 a4:=Tryz.isAgg4
 z4:=Tryz.sizeOf4
 v4:=Tryz.zeroValue4
 t5:=Tryz.underlying5
 a5:=Tryz.isAgg5
 z5:=Tryz.sizeOf5
 v5:=Tryz.zeroValue5
 t9:=Tryz.underlying9
 a9:=Tryz.isAgg9
 z9:=Tryz.sizeOf9
 v9:=Tryz.zeroValue9
 t20:=Tryz.underlying20
 a20:=Tryz.isAgg20
 z20:=Tryz.sizeOf20
 v20:=Tryz.zeroValue20
 t21:=Tryz.underlying21
 a21:=Tryz.isAgg21
 z21:=Tryz.sizeOf21
 v21:=Tryz.zeroValue21
 t37:=Tryz.underlying108
 a37:=Tryz.isAgg108
 z37:=Tryz.sizeOf108
 v37:=Tryz.zeroValue108
 t46:=Tryz.underlying148
 a46:=Tryz.isAgg148
 z46:=Tryz.sizeOf148
 v46:=Tryz.zeroValue148
 t51:=Tryz.underlying165
 a51:=Tryz.isAgg165
 z51:=Tryz.sizeOf165
 v51:=Tryz.zeroValue165
 t70:=Tryz.underlying132
 a70:=Tryz.isAgg132
 z70:=Tryz.sizeOf132
 v70:=Tryz.zeroValue132
 t72:=Tryz.underlying134
 a72:=Tryz.isAgg134
 z72:=Tryz.sizeOf134
 v72:=Tryz.zeroValue134
 t75:=Tryz.underlying137
 a75:=Tryz.isAgg137
 z75:=Tryz.sizeOf137
 v75:=Tryz.zeroValue137
 t76:=Tryz.underlying138
 a76:=Tryz.isAgg138
 z76:=Tryz.sizeOf138
 v76:=Tryz.zeroValue138
 t105:=Tryz.underlying243
 a105:=Tryz.isAgg243
 z105:=Tryz.sizeOf243
 v105:=Tryz.zeroValue243
 t107:=Tryz.underlying222
 a107:=Tryz.isAgg222
 z107:=Tryz.sizeOf222
 v107:=Tryz.zeroValue222
 t119:=Tryz.underlying230
 a119:=Tryz.isAgg230
 z119:=Tryz.sizeOf230
 t127:=Tryz.underlying179
 a127:=Tryz.isAgg179
 z127:=Tryz.sizeOf179
 v127:=Tryz.zeroValue179
 t138:=Tryz.underlying279
 a138:=Tryz.isAgg279
 z138:=Tryz.sizeOf279
 v138:=Tryz.zeroValue279
 t139:=Tryz.underlying280
 a139:=Tryz.isAgg280
 z139:=Tryz.sizeOf280
 v139:=Tryz.zeroValue280
 t160:=Tryz.underlying281
 a160:=Tryz.isAgg281
 z160:=Tryz.sizeOf281
 v160:=Tryz.zeroValue281
 t162:=Tryz.underlying266
 a162:=Tryz.isAgg266
 z162:=Tryz.sizeOf266
 v162:=Tryz.zeroValue266
 t164:=Tryz.underlying203
 a164:=Tryz.isAgg203
 z164:=Tryz.sizeOf203
 v164:=Tryz.zeroValue203
 t203:=Tryz.underlying264
 a203:=Tryz.isAgg264
 z203:=Tryz.sizeOf264
 v203:=Tryz.zeroValue264
 t206:=Tryz.underlying288
 a206:=Tryz.isAgg288
 z206:=Tryz.sizeOf288
 v206:=Tryz.zeroValue288
 t208:=Tryz.underlying290
 a208:=Tryz.isAgg290
 z208:=Tryz.sizeOf290
 v208:=Tryz.zeroValue290
 g3:=by kernel_rfl
 g4:=by kernel_rfl
 g13:=by kernel_rfl}
theorem Tryz.ma:Builder.Extra Tryz.prog Tryz.nD:={
 sizeBuilder:=by kernel_rfl
 liesBuilder:=by kernel_rfl
 t5:=Tryz.underlying5
 a5:=Tryz.isAgg5
 z5:=Tryz.sizeOf5
 v5:=Tryz.zeroValue5
 infoByte:=by kernel_rfl
 cellsByte:=by kernel_rfl
 sizeByte:=by kernel_rfl
 neB5:=by decide}
open Go.RowKit in
theorem Tryz.strings_ToUpper_ascii(s:ByteArray)(w:World)(hs:s.size≤140737488355328)(hascii: ∀(j:Nat) (b:UInt8),s.data.toList[j]? =some b→b.toNat<128):
    Calls Tryz.prog 172 #[.string s] w fun e w'=>e=.returned (.string ⟨(Lib.toUpperA s.data.toList).toArray⟩)∧Below w.heap.size w w':=Any.strings_ToUpper_ascii Tryz.En Tryz.ma s w hs hascii
def Tryz.nE:Go.Shelf.Ren:=⟨fun|156=>62|165=>108|166=>109|169=>110|240=>144|241=>145|276=>177|277=>178|n=>n,fun|31=>25|9=>9|3=>3|4=>4|0=>0|20=>20|72=>134|76=>138|70=>132|37=>108|75=>137|127=>179|164=>203|5=>5|80=>140|n=>n,fun|n=>n⟩
theorem Tryz.xW:Go.Proofs.Lays.n156 Tryz.prog Tryz.nE:={
 mixed:=by kernel_rfl
 f156:=Tryz.func62.trans (congrArg some (by kernel_rfl))
 f165:=Tryz.func108.trans (congrArg some (by kernel_rfl))
 f166:=Tryz.func109.trans (congrArg some (by kernel_rfl))
 f169:=Tryz.func110.trans (congrArg some (by kernel_rfl))
 f240:=Tryz.func144.trans (congrArg some (by kernel_rfl))
 f241:=Tryz.func145.trans (congrArg some (by kernel_rfl))
 f276:=Tryz.func177.trans (congrArg some (by kernel_rfl))
 f277:=Tryz.func178.trans (congrArg some (by kernel_rfl))
 t0:=Tryz.underlying0
 a0:=Tryz.isAgg0
 z0:=Tryz.sizeOf0
 v0:=Tryz.zeroValue0
 t3:=Tryz.underlying3
 a3:=Tryz.isAgg3
 z3:=Tryz.sizeOf3
 v3:=Tryz.zeroValue3
 t4:=Tryz.underlying4
 a4:=Tryz.isAgg4
 z4:=Tryz.sizeOf4
 v4:=Tryz.zeroValue4
 t9:=Tryz.underlying9
 a9:=Tryz.isAgg9
 z9:=Tryz.sizeOf9
 v9:=Tryz.zeroValue9
 t20:=Tryz.underlying20
 a20:=Tryz.isAgg20
 z20:=Tryz.sizeOf20
 v20:=Tryz.zeroValue20
 t31:=Tryz.underlying25
 a31:=Tryz.isAgg25
 z31:=Tryz.sizeOf25
 v31:=Tryz.zeroValue25
 t37:=Tryz.underlying108
 a37:=Tryz.isAgg108
 z37:=Tryz.sizeOf108
 v37:=Tryz.zeroValue108
 t70:=Tryz.underlying132
 a70:=Tryz.isAgg132
 z70:=Tryz.sizeOf132
 v70:=Tryz.zeroValue132
 t72:=Tryz.underlying134
 a72:=Tryz.isAgg134
 z72:=Tryz.sizeOf134
 v72:=Tryz.zeroValue134
 t75:=Tryz.underlying137
 a75:=Tryz.isAgg137
 z75:=Tryz.sizeOf137
 v75:=Tryz.zeroValue137
 t76:=Tryz.underlying138
 a76:=Tryz.isAgg138
 z76:=Tryz.sizeOf138
 v76:=Tryz.zeroValue138
 t127:=Tryz.underlying179
 a127:=Tryz.isAgg179
 z127:=Tryz.sizeOf179
 v127:=Tryz.zeroValue179
 t164:=Tryz.underlying203
 a164:=Tryz.isAgg203
 z164:=Tryz.sizeOf203
 v164:=Tryz.zeroValue203}
theorem Tryz.gC:Builder.Extra Tryz.prog Tryz.nE:={
 sizeBuilder:=by kernel_rfl
 liesBuilder:=by kernel_rfl
 t5:=Tryz.underlying5
 a5:=Tryz.isAgg5
 z5:=Tryz.sizeOf5
 v5:=Tryz.zeroValue5
 infoByte:=by kernel_rfl
 cellsByte:=by kernel_rfl
 sizeByte:=by kernel_rfl
 neB5:=by decide}
open Go.RowKit in
theorem Tryz.strings_Join_none(a:Option Addr)(c:Nat)(sep:ByteArray)(w:World):
    Calls Tryz.prog 62 #[.slice a 0 c,.string sep] w fun e w'=>e=.returned (.string ⟨#[]⟩)∧w'=w:=Any.strings_Join_none Tryz.xW Tryz.gC a c sep w
open Go.RowKit in
theorem Tryz.strings_Join(bk o c:Nat)(xs:List ByteArray)(sep:ByteArray)(w:World)(hcells:∀(j:Nat) x,xs[j]? =some x→w.cell? ⟨bk,o+j,none⟩=some (.string x))(hbk:bk<w.heap.size)(hN:xs.length≤140737488355328)(hcap:xs.length≤c)(hlen:(Lib.join (xs.map (·.data.toList)) sep.data.toList).length≤140737488355328):
  Calls Tryz.prog 62 #[.slice (some ⟨bk,o,none⟩) xs.length c,.string sep] w fun e w'=>e=.returned (.string ⟨(Lib.join (xs.map (·.data.toList)) sep.data.toList).toArray⟩)∧Below w.heap.size w w':=Any.strings_Join Tryz.xW Tryz.gC bk o c xs sep w hcells hbk hN hcap hlen
def Tryz.uz:Go.Shelf.Ren:=⟨fun|138=>279|195=>280|218=>281|143=>282|219=>206|217=>224|225=>211|224=>210|267=>225|266=>239|314=>240|n=>n,fun|9=>9|3=>3|4=>4|5=>5|0=>0|46=>148|146=>276|51=>165|n=>n,fun|1=>0|n=>n⟩
theorem Tryz.Eo:Go.Proofs.Lays.n138 Tryz.prog Tryz.uz:={
 mixed:=by kernel_rfl
 f138:=Tryz.func279.trans (congrArg some (by kernel_rfl))
 f143:=Tryz.func282.trans (congrArg some (by kernel_rfl))
 f195:=Tryz.func280.trans (congrArg some (by kernel_rfl))
 f217:=Tryz.func224.trans (congrArg some (by kernel_rfl))
 f218:=Tryz.func281.trans (congrArg some (by kernel_rfl))
 f219:=Tryz.func206.trans (congrArg some (by kernel_rfl))
 f224:=Tryz.func210.trans (congrArg some (by kernel_rfl))
 f225:=Tryz.func211.trans (congrArg some (by kernel_rfl))
 f266:=Tryz.func239.trans (congrArg some (by kernel_rfl))
 f267:=Tryz.func225.trans (congrArg some (by kernel_rfl))
 f314:=Tryz.func240.trans (congrArg some (by kernel_rfl))
 t0:=Tryz.underlying0
 a0:=Tryz.isAgg0
 z0:=Tryz.sizeOf0
 v0:=Tryz.zeroValue0
 t3:=Tryz.underlying3
 a3:=Tryz.isAgg3
 z3:=Tryz.sizeOf3
 v3:=Tryz.zeroValue3
 t4:=Tryz.underlying4
 a4:=Tryz.isAgg4
 z4:=Tryz.sizeOf4
 v4:=Tryz.zeroValue4
 t5:=Tryz.underlying5
 a5:=Tryz.isAgg5
 z5:=Tryz.sizeOf5
 v5:=Tryz.zeroValue5
 t9:=Tryz.underlying9
 a9:=Tryz.isAgg9
 z9:=Tryz.sizeOf9
 v9:=Tryz.zeroValue9
 t46:=Tryz.underlying148
 a46:=Tryz.isAgg148
 z46:=Tryz.sizeOf148
 v46:=Tryz.zeroValue148
 t51:=Tryz.underlying165
 a51:=Tryz.isAgg165
 z51:=Tryz.sizeOf165
 v51:=Tryz.zeroValue165
 t146:=Tryz.underlying276
 a146:=Tryz.isAgg276
 z146:=Tryz.sizeOf276
 v146:=Tryz.zeroValue276
 g1:=by kernel_rfl}
open Go.RowKit Go.Lib in
theorem Tryz.strings_Count_one(s:ByteArray)(c:UInt8)(w:World):
    Calls Tryz.prog 279 #[.string s,.string ⟨#[c]⟩] w fun e w'=>e=.returned (.int .i64 (Lib.countByte s.data.toList c))∧w'=w:=Any.strings_Count_one Tryz.Eo s c w
def Tryz.uA:Go.Shelf.Ren:=⟨fun|190=>73|125=>122|258=>121|128=>157|129=>158|302=>148|303=>149|304=>150|305=>151|306=>152|307=>153|308=>154|309=>155|310=>156|333=>179|329=>180|330=>181|334=>182|335=>183|336=>184|344=>205|n=>n,fun|31=>25|9=>9|3=>3|46=>148|0=>0|51=>165|53=>190|4=>4|183=>182|182=>181|131=>186|5=>5|218=>206|222=>210|228=>237|229=>238|n=>n,fun|n=>n⟩
theorem Tryz.Ep:Go.Proofs.Lays.n190 Tryz.prog Tryz.uA:={
 mixed:=by kernel_rfl
 f125:=Tryz.func122.trans (congrArg some (by kernel_rfl))
 f128:=Tryz.func157.trans (congrArg some (by kernel_rfl))
 f129:=Tryz.func158.trans (congrArg some (by kernel_rfl))
 f190:=Tryz.func73.trans (congrArg some (by kernel_rfl))
 f258:=Tryz.func121.trans (congrArg some (by kernel_rfl))
 f302:=Tryz.func148.trans (congrArg some (by kernel_rfl))
 f303:=Tryz.func149.trans (congrArg some (by kernel_rfl))
 f304:=Tryz.func150.trans (congrArg some (by kernel_rfl))
 f305:=Tryz.func151.trans (congrArg some (by kernel_rfl))
 f306:=Tryz.func152.trans (congrArg some (by kernel_rfl))
 f307:=Tryz.func153.trans (congrArg some (by kernel_rfl))
 f308:=Tryz.func154.trans (congrArg some (by kernel_rfl))
 f309:=Tryz.func155.trans (congrArg some (by kernel_rfl))
 f310:=Tryz.func156.trans (congrArg some (by kernel_rfl))
 f329:=Tryz.func180.trans (congrArg some (by kernel_rfl))
 f330:=Tryz.func181.trans (congrArg some (by kernel_rfl))
 f333:=Tryz.func179.trans (congrArg some (by kernel_rfl))
 f334:=Tryz.func182.trans (congrArg some (by kernel_rfl))
 f335:=Tryz.func183.trans (congrArg some (by kernel_rfl))
 f336:=Tryz.func184.trans (congrArg some (by kernel_rfl))
 f344:=Tryz.func205.trans (congrArg some (by kernel_rfl))
 t0:=Tryz.underlying0
 a0:=Tryz.isAgg0
 z0:=Tryz.sizeOf0
 v0:=Tryz.zeroValue0
 t3:=Tryz.underlying3
 a3:=Tryz.isAgg3
 z3:=Tryz.sizeOf3
 v3:=Tryz.zeroValue3
 t4:=Tryz.underlying4
 a4:=Tryz.isAgg4
 z4:=Tryz.sizeOf4
 v4:=Tryz.zeroValue4
 t5:=Tryz.underlying5
 a5:=Tryz.isAgg5
 z5:=Tryz.sizeOf5
 v5:=Tryz.zeroValue5
 t9:=Tryz.underlying9
 a9:=Tryz.isAgg9
 z9:=Tryz.sizeOf9
 v9:=Tryz.zeroValue9
 t31:=Tryz.underlying25
 a31:=Tryz.isAgg25
 z31:=Tryz.sizeOf25
 v31:=Tryz.zeroValue25
 t46:=Tryz.underlying148
 a46:=Tryz.isAgg148
 z46:=Tryz.sizeOf148
 v46:=Tryz.zeroValue148
 t51:=Tryz.underlying165
 a51:=Tryz.isAgg165
 z51:=Tryz.sizeOf165
 v51:=Tryz.zeroValue165
 t53:=Tryz.underlying190
 a53:=Tryz.isAgg190
 z53:=Tryz.sizeOf190
 v53:=Tryz.zeroValue190
 t131:=Tryz.underlying186
 a131:=Tryz.isAgg186
 z131:=Tryz.sizeOf186
 v131:=Tryz.zeroValue186
 t182:=Tryz.underlying181
 a182:=Tryz.isAgg181
 z182:=Tryz.sizeOf181
 v182:=Tryz.zeroValue181
 t183:=Tryz.underlying182
 a183:=Tryz.isAgg182
 z183:=Tryz.sizeOf182
 v183:=Tryz.zeroValue182
 t218:=Tryz.underlying206
 a218:=Tryz.isAgg206
 z218:=Tryz.sizeOf206
 v218:=Tryz.zeroValue206
 t222:=Tryz.underlying210
 a222:=Tryz.isAgg210
 z222:=Tryz.sizeOf210
 v222:=Tryz.zeroValue210
 t228:=Tryz.underlying237
 a228:=Tryz.isAgg237
 z228:=Tryz.sizeOf237
 v228:=Tryz.zeroValue237
 t229:=Tryz.underlying238
 a229:=Tryz.isAgg238
 z229:=Tryz.sizeOf238
 v229:=Tryz.zeroValue238}
open Go.Sort Go.RowKit in
theorem Tryz.slices_Sort_string(blk off cap:Nat)(ss:List (List UInt8))(w:World)(hH:Holds encStr w blk off ss.toArray)(hblk:blk<w.heap.size)(hsz:ss.length<4611686018427387904):
    Calls Tryz.prog 73 #[.slice (some ⟨blk,off,none⟩) ss.length cap] w fun e w'=>
      e=.returned (.tuple #[])∧ ∃n os,w'=grow (putRow encStr (Sort.ahead w n) blk off (ss.mergeSort fun x y=>decide (x≤y)).toArray) os:=Any.slices_Sort_string Tryz.Ep blk off cap ss w hH hblk hsz
end Go.Proofs
namespace Go.Proofs.YtekcidbpejicdaaGreatDoor
set_option linter.unusedVariables false
set_option linter.unusedSimpArgs false
open Go Go.Av Go.RowKit
theorem jD(p:UInt8→Bool)(h:(List.range 256).all (fun n=>p (UInt8.ofNat n))=true)(x:UInt8):p x=true:=by
 have:=List.all_eq_true.1 h x.toNat (List.mem_range.2 x.toNat_lt);simpa using this
def up(x:UInt8):UInt8:=if 97≤x∧x≤122 then x - 32 else x
def dJ(s:Bytes):Bytes:=s.map up
def fg(s:Bytes):Bool:=s.all fun b=>decide (b.toNat<128)
theorem ck(s:Bytes):(dJ s).length=s.length:=by simp[dJ]
theorem G6(x:UInt8):Lib.upperB (low x)=up x:=by
 have:=jD (fun x=>Lib.upperB (low x)==up x) (by decide+kernel) x;simpa using this
theorem BA(x:UInt8):(low x).toNat<128↔x.toNat<128:=by
 have:=jD (fun x=>decide ((low x).toNat<128)==decide (x.toNat<128)) (by decide+kernel) x;simpa using this
theorem G7(s:Bytes)(hs:s.length≤1000000)(ha:fg s=true):aa Tryz.prog 172 [.str s] (.ret (.str (Lib.toUpperA s))):=by
 refine aa.xF enters Tryz.func172 rfl wj (fun w=>Tryz.strings_ToUpper_ascii ⟨s.toArray⟩ w (by show s.toArray.size≤_;simp;omega) ?_) ?_
 ·intro j b hb
  simp only[fg,List.all_eq_true,decide_eq_true_eq]at ha;exact ha b (List.mem_of_getElem? (by simpa using hb))
 ·intro F w
  exact .str _ (by simp[Lib.toUpperA,ay];omega)
theorem wF(s:Bytes)(hs:s.length≤1000000)(ha:fg s=true):aa Tryz.prog 138 [.str s] (.ret (.str (dJ s))):=by
 refine aa.of Tryz.func138 rfl (ab enters Tryz.func138 rfl) (by simp[Tryz.ntmps138]) ?_;show W Tryz.prog 6 0 none _ _ _;refine W.vc (by decide) ?_;have hl:(small s).length=s.length:=by simp[small]
 have ha2:fg (small s)=true:=by
  simp only[fg,small,List.all_map,List.all_eq_true,Function.comp,decide_eq_true_eq]at ha ⊢;exact fun x hx=>(BA x).2 (ha x hx)
 have he:Lib.toUpperA (small s)=dJ s:=by
  simp only[Lib.toUpperA,small,dJ,List.map_map];congr 1;funext x;exact G6 x
 have hu:=G7 (small s) (by omega) ha2;rw[he]at hu
 repeat'(first|(simp(disch:=first|omega|(simp only[zL];omega))only[go_sem,seval])|((with_reducible first|apply aj.pure|apply an.pure);(with_reducible first|exact mU _|exact hu);(first|rfl|simp only[go_sem])))
 exact⟨_,rfl,_,rfl,.refl _⟩
/-! ### A line's text -/
def qv(v:Bytes):Bytes:=if df v then [34]++v++[34]else v
def pq(p:Bytes×Bytes):Bytes:=[59]++dJ p.1++[61]++qv p.2
def dA(ps:List (Bytes×Bytes)):Bytes:=(ps.map pq).flatten
def fU(l:Ln):Bytes:=if l.g=[]then dJ l.n else dJ l.g++[46]++dJ l.n
def told(l:Ln):Bytes:=fU l++dA l.ps++[58]++l.v
theorem wG(ps:List (Bytes×Bytes))(p:Bytes×Bytes):dA (ps++[p])=dA ps++pq p:=by simp[dA]
theorem fV{ps:List (Bytes×Bytes)}{i:Nat}{p:Bytes×Bytes}(h:ps[i]? =some p):dA (ps.take (i+1))=dA (ps.take i)++pq p:=by
 rw[List.take_add_one,h];exact wG _ _
theorem pr:∀(ps:List (Bytes×Bytes)) (i:Nat),(dA (ps.take i)).length≤(dA ps).length
 | [],i=>by simp
 |x::l,0=>by simp[dA]
 |x::l,i+1=>by
  have:=pr l i;simp only[dA,List.take_succ_cons,List.map_cons,List.flatten_cons,List.length_append]at this ⊢;omega
def mW(l:Ln):Bool:=fg l.g&&fg l.n&&l.ps.all (fun p=>fg p.1)&&decide ((told l).length≤1000000)
theorem BB(v:Bytes):v.length≤(qv v).length:=by unfold qv;split<;>simp<;>omega
set_option maxRecDepth 8000 in
theorem Jm(l:Ln)(hp:mW l=true):aa Tryz.prog 96 [aq l] (.ret (.str (told l))):=by
 obtain⟨g,n,x,ps,v⟩:=l;simp only[mW,Bool.and_eq_true,decide_eq_true_eq]at hp;obtain⟨⟨⟨h1,h2⟩,h3⟩,h4⟩:=hp;rw[List.all_eq_true]at h3;simp only[told,List.length_append,List.length_cons,List.length_nil]at h4;have hgl:g.length+n.length≤1000000:=by
  have:(fU ⟨g,n,x,ps,v⟩).length≥g.length+n.length:=by unfold fU;simp only;split<;>simp_all[ck]
  omega
 have hps:ps.length≤ay:=by
  have:∀ps:List (Bytes×Bytes),ps.length≤(dA ps).length:=by
   intro ps;induction ps with
   |nil=>simp
   |cons a ps ih=>simp only[dA,List.map_cons,List.flatten_cons,List.length_append,List.length_cons,pq,List.length_nil]at ih ⊢;omega
  have:=this ps;simp only[ay];omega
 refine aa.of Tryz.func96 rfl (ab enters Tryz.func96 rfl) (by simp[Tryz.ntmps96]) ?_;show W Tryz.prog 48 0 none _ _ _;simp only[aq];have hg:=wF g (by omega) h1;have hn:=wF n (by omega) h2;have hia:∀(i:Nat) (u:Bytes×Bytes) (H:List OB),ps[i]? =some u→ah Tryz.prog 44 (.vsl 3 x (ps.map aH)) (.int .i64 (i:Int)) H=some (.vptr [.str u.1,.str u.2]):=by
  intro i u H hu;exact zj (v:=aH u) (by simp[hu]) rfl H
 refine .seq (.vc (by decide) ?_)
 repeat'(first|(simp(disch:=first|omega|(simp only[zL];omega))only[go_sem,seval]))
 refine .seq (.vc (by decide) ?_)
 repeat'(first|(simp(disch:=first|omega|(simp only[zL];omega))only[go_sem,seval])|((with_reducible first|apply aj.pure|apply an.pure);(with_reducible assumption);(first|rfl|simp only[go_sem])))
 refine W.oP [(1,.ptr 0 0),(3,.str (fU ⟨g,n,x,ps,v⟩))] [.cells [.str g,.str n,.vsl 3 x (ps.map aH),.str v] false] (.vc (by decide) ?_) ?_
 ·have:=ck g;have:=ck n
  by_cases h0:g=[]
  ·have e0:(g==[])=true:=by simp[h0]
   repeat'(first|(simp(disch:=first|omega|(simp only[zL];omega))only[go_sem,seval,e0]))
   refine⟨rfl,?_,trivial⟩;simp[Av.get,fU,h0]
  ·have e0:(g==[])=false:=by simp[h0]
   repeat'(first|(simp(disch:=first|omega|(simp only[zL];omega))only[go_sem,seval,e0])|((with_reducible first|apply aj.pure|apply an.pure);(with_reducible exact hg);(first|rfl|simp only[go_sem])))
   refine⟨rfl,?_,trivial⟩;simp[Av.get,fU,h0]
 refine .vc (by decide) ?_
 repeat'(first|(simp(disch:=first|omega|(simp only[zL];omega))only[go_sem,seval]))
 refine W.Gz 22 21 23 42 ps.length hps rfl rfl rfl rfl rfl rfl rfl rfl rfl (by decide) (by decide) (by decide)
  (fun i=>[(20,.vsl 3 x (ps.map aH)),(3,.str (fU ⟨g,n,x,ps,v⟩++dA (ps.take i))),(1,.ptr 0 0)]) (fun _=>rfl) (fun _=>[.cells [.str g,.str n,.vsl 3 x (ps.map aH),.str v] false]) (fun _=>Nat.zero_le _) (fun i=>True) rfl trivial ?_ ?_ (ee (by simp[OB.hlt,AV.bS,AV.hlt,kh])) ?_ ?_
 ·simp only[List.take_zero,dA,List.map_nil,List.flatten_nil,List.append_nil]
  simp only[cM,Av.get,Nat.reduceEqDiff,↓reduceIte,cz,gn,gq,and_self,List.length_map]
 ·intro i _
  simp only[eg,AV.hlt,AV.bS,cA,Bool.and_self,Bool.and_true,Bool.true_and,kh];rfl
 ·intro i hi _
  obtain⟨u,hu,hdrop⟩:=drop_at hi;have hle:=pr ps (i+1);rw[fV hu]at hle;simp only[List.length_append,pq,List.length_cons,List.length_nil,ck]at hle;have hql:=BB u.2;have hmu:u∈ps:=List.mem_of_getElem? hu;have hgu:=wF u.1 (by omega) (h3 u hmu);have hqu:=Em u.2;have hgl:=ck u.1;refine .vc (by decide) ?_;by_cases hq:df u.2=true
  ·rw[hq]at hqu
   have hqq:qv u.2=[34]++u.2++[34]:=by simp[qv,hq]
   repeat'(first|(simp(disch:=first|omega|(simp only[zL];omega))only[go_sem,seval,hia i u _ hu])|((with_reducible first|apply aj.pure|apply an.pure);(with_reducible assumption);(first|rfl|simp only[go_sem])))
   refine⟨?_,by simp[cd,OB.hlt,AV.bS,AV.hlt,kh]⟩;simp only[cM,Av.get,Nat.reduceEqDiff,↓reduceIte,cz,gn,gq,and_self,true_and,and_true,List.length_map,List.length_nil];exact sx (by rw[fV hu,pq,hqq];simp)
  ·have hq':df u.2=false:=by simpa using hq
   rw[hq']at hqu;have hqq:qv u.2=u.2:=by simp[qv,hq']
   repeat'(first|(simp(disch:=first|omega|(simp only[zL];omega))only[go_sem,seval,hia i u _ hu])|((with_reducible first|apply aj.pure|apply an.pure);(with_reducible assumption);(first|rfl|simp only[go_sem])))
   refine⟨?_,by simp[cd,OB.hlt,AV.bS,AV.hlt,kh]⟩;simp only[cM,Av.get,Nat.reduceEqDiff,↓reduceIte,cz,gn,gq,and_self,true_and,and_true,List.length_map,List.length_nil];exact sx (by rw[fV hu,pq,hqq];simp)
 ·intro _
  rw[List.take_length]
  repeat'(first|(simp(disch:=first|omega|(simp only[zL];omega))only[go_sem,seval]))
  refine⟨_,rfl,_,rfl,sx ?_⟩;simp[told]
structure Cd where
 ver:Bytes
 x:Bool
 ls:List Ln
def aS(c:Cd):AV:=.agg [.str c.ver,.vsl 5 c.x (c.ls.map aq)]
def gW:Bytes:=[66,69,71,73,78,58,86,67,65,82,68]
def zp:Bytes:=[69,78,68,58,86,67,65,82,68]
def cU:Bytes:=[86,69,82,83,73,79,78,58]
def fh(c:Cd):List Bytes:=[gW,cU++c.ver]++c.ls.map (fun l=>fold (told l))++[zp]
def laid(c:Cd):Bytes:=cH (fh c)
theorem uB(l:Ln):(aq l).hf=true:=by simp[aq,AV.hf,AV.hfs,az]
theorem aN(ls:List Ln):AV.hfs (ls.map aq)=true:=by
 rw[be,List.all_eq_true];intro v hv;obtain⟨l,_,rfl⟩:=List.mem_map.1 hv;exact uB l
theorem fW(m:Nat)(ls:List Ln):AV.bS m (ls.map aq)=true:=dm (aN ls)
set_option maxRecDepth 8000 in
theorem Jn(c:Cd)(hp:∀l∈c.ls,mW l=true)(hb:(laid c).length≤50000000)(hn:c.ls.length≤1000000):aa Tryz.prog 48 [aS c] (.ret (.str (laid c))):=by
 obtain⟨ver,x,ls⟩:=c;simp only at hp hn;refine aa.fit fun hfit=>?_;have hv1:ver.length≤100000000:=by
  have:cU++ver∈fh ⟨ver,x,ls⟩:=by simp[fh]
  have h2:(cU++ver).length≤(laid ⟨ver,x,ls⟩).length:=by
   unfold laid cH;have:=(List.sublist_flatten_of_mem (List.mem_map_of_mem (f:=fun x=>x++[13,10]) this)).length_le;simp at this ⊢;omega
  simp at h2;omega
 refine aa.of Tryz.func48 rfl (ab enters Tryz.func48 rfl) (by simp[Tryz.ntmps48]) ?_;show W Tryz.prog 28 0 none _ _ _;refine W.vc (by decide) ?_;simp only[aS];have hbs:aw Tryz.prog 25 2 [(0,.str gW),(1,.str (cU++ver))]=some (.vsl 0 true [.str gW,.str (cU++ver)]):=by
  simp[aw,Tryz.underlying25,ik,AV.cells,AV.told,List.range']
 simp only[gW,cU,List.cons_append,List.nil_append]at hbs
 repeat'(first|(simp(disch:=first|omega|(simp only[zL];omega))only[go_sem,Nat.reduceEqDiff,↓reduceIte,Nat.reduceAdd,Nat.reduceMul,Nat.reduceSub,Nat.reduceLeDiff,Nat.reduceLT,Int.reduceToNat,Int.reduceLE,hbs]))
 have hia:∀(i:Nat) (u:Ln) (H:List OB),ls[i]? =some u→ah Tryz.prog 22 (.vsl 5 x (ls.map aq)) (.int .i64 (i:Int)) H=some (.vptr [.str u.g,.str u.n,.vsl 3 u.x (u.ps.map aH),.str u.v]):=by
  intro i u H hu;exact jj (v:=aq u) (by simp[hu]) rfl H
 have hb1:∀s,aw Tryz.prog 25 1 [(0,.str s)]=some (.vsl 0 true [.str s]):=by
  intro s;simp[aw,Tryz.underlying25,ik,AV.cells,AV.told,List.range']
 obtain⟨rows,hrows⟩:∃rows:Nat→List Bytes,rows=fun i=>[gW,cU++ver]++(ls.take i).map (fun l=>fold (told l)):=⟨_,rfl⟩
 have hrl:∀i,(rows i).length≤1000002:=by intro i;subst hrows;simp;omega
 obtain⟨B,hB⟩:∃B:List OB,B=[.cells [.str ver,.vsl 5 x (ls.map aq)] false]:=⟨_,rfl⟩
 have hBl:B.length=1:=by subst hB;rfl
 have hBh:∀m,B.all (OB.hlt m)=true:=by intro m;subst hB;simp[OB.hlt,AV.bS,AV.hlt,fW]
 obtain⟨zz,hzz⟩:∃zz:Nat→Bool,zz=fun i=>decide (0<i):=⟨_,rfl⟩
 refine W.Gz 13 12 14 23 ls.length (by simp only[ay];omega) rfl rfl rfl rfl rfl rfl rfl rfl rfl (by decide) (by decide) (by decide)
  (fun i=>[(11,.vsl 5 x (ls.map aq)),(3,bJ 1 0 0 .str (2*i - 1) (zz i) (rows i)),(1,.ptr 0 0)]) (fun _=>rfl) (fun i=>mem B .str (2*i - 1) 0 (zz i) (rows i)) (fun _=>Nat.zero_le _) (fun i=>True) rfl trivial ?_ ?_ ?_ ?_ ?_
 ·subst hrows
  subst hzz;simp only[Nat.lt_irrefl,decide_false,bJ,Bool.false_eq_true,if_false,List.take_zero,List.map_nil,List.append_nil,List.map_cons,gW,cU,List.cons_append,List.nil_append];simp only[cM,Av.get,Nat.reduceEqDiff,↓reduceIte,cz,gn,gq,and_self,true_and,and_true,List.length_map,List.length_nil]
 ·intro i _
  have hmv:=A7 (w0:=0) (wd:=0) (f:=AV.str) (k:=2*i - 1) (j:=0) (z:=zz i) (L:=rows i) hBl (fun x=>rfl);have h0:0<(mem B AV.str (2*i - 1) 0 (zz i) (rows i)).length:=by rw[dc];omega
  simp only[eg,AV.hlt,fW,hmv,h0,decide_true,Bool.and_self]
 ·subst hrows
  subst hB;subst hzz;simp[mem,cd,OB.hlt,AV.bS,AV.hlt,fW]
 ·intro i hi _
  obtain⟨u,hu,hdrop⟩:=drop_at hi;have hmu:u∈ls:=List.mem_of_getElem? hu;have hpu:=hp u hmu;have htl:(told u).length≤1000000:=by simp only[mW,Bool.and_eq_true,decide_eq_true_eq]at hpu;exact hpu.2
  have ht:=Jm u hpu;have hf:=Jj (told u) htl;simp only[aq]at ht;have hrow:rows (i+1)=rows i++[fold (told u)]:=by subst hrows;simp[List.take_add_one,hu]
  obtain⟨M,hM⟩:∃M,M=mem B AV.str (2*i - 1) 0 (zz i) (rows i):=⟨_,rfl⟩
  have hMl:M.length=1+2*i:=by rw[hM,dc,hBl,hzz];by_cases h0:0<i<;>simp[h0]<;>omega
  obtain⟨M',ha1,ha2,ha3,ha4,ha5⟩:=xH (wd:=0) (bytes:=16) Tryz.underlying25 ik AV.str (fun _=>rfl) (fun _=>rfl) (by decide) B (2*i - 1) 0 (zz i) (rows i) (w0:=0) (fun _=>.inl rfl) [.cells [.str u.g,.str u.n,.vsl 3 u.x (u.ps.map aH),.str u.v] false] (fold (told u)) true (by have:=hrl i;omega) hM;rw[hBl]at ha1;rw[←hM];refine .vc (by decide) ?_
  repeat'(first|(simp(disch:=first|omega|(simp only[zL];omega))only[go_sem,Nat.reduceEqDiff,↓reduceIte,Nat.reduceAdd,Nat.reduceMul,Nat.reduceSub,Nat.reduceLeDiff,Nat.reduceLT,Int.reduceToNat,Int.reduceLE,hia i u _ hu,hb1,ha1])|((with_reducible first|apply aj.pure|apply an.pure);(with_reducible assumption);(first|rfl|simp only[go_sem,az])))
  rw[hrow];have hz1:zz (i+1)=true:=by rw[hzz];simp
  have hk:M.length+1 - 1=2*(i+1) - 1:=by omega
  simp only[List.length_cons,List.length_nil,hBl,hz1]at ha4 ⊢;have h4:=ha4 (mem B AV.str (2*(i+1) - 1) 0 true (rows i++[fold (told u)])).length (hBh _) (fun x=>rfl);rw[hk]at h4 ⊢;refine⟨?_,h4⟩;simp only[cM,Av.get,Nat.reduceEqDiff,↓reduceIte,cz,gn,gq,and_self,true_and,and_true,List.length_map,List.length_nil]
 ·intro _
  have hrowe:fh ⟨ver,x,ls⟩=rows ls.length++[zp]:=by subst hrows;simp[fh,List.take_length]
  obtain⟨M,hM⟩:∃M,M=mem B AV.str (2*ls.length - 1) 0 (zz ls.length) (rows ls.length):=⟨_,rfl⟩
  obtain⟨M',ha1,ha2,ha3,ha4,ha5⟩:=xH (wd:=0) (bytes:=16) Tryz.underlying25 ik AV.str (fun _=>rfl) (fun _=>rfl) (by decide) B (2*ls.length - 1) 0 (zz ls.length) (rows ls.length) (w0:=0) (fun _=>.inl rfl) [] zp true (by have:=hrl ls.length;omega) hM;rw[hBl,List.append_nil]at ha1;rw[←hrowe]at ha1 ha3;have hM0:M'[0]? =some (.cells [.str ver,.vsl 5 x (ls.map aq)] false):=by rw[ha5 0 (by omega),hB];rfl
  have hBM:1≤M.length:=by rw[hM,dc];omega
  obtain⟨u,hfz,hu⟩:=lR (B:=B) (f:=AV.str) (w0:=0) (k:=M.length - 1) (z:=true) (L:=fh ⟨ver,x,ls⟩) (n:=19) (M:=M') (fun _=>by rw[←ha3];congr 1;simp;omega) (aF _) (eo _);rw[hBl]at hfz;have hfz:fz M' 20 _=_:=hfz;obtain⟨y,rfl⟩:∃y,u=.vsl 0 y ((fh ⟨ver,x,ls⟩).map .str):=by rcases hu with rfl|rfl<;>exact⟨_,rfl⟩
  have hj:=Ee y (fh ⟨ver,x,ls⟩) hb
  have hln:aX M' [bJ 1 0 0 AV.str (M.length - 1) true (fh ⟨ver,x,ls⟩)] (.ret (.str (laid ⟨ver,x,ls⟩)))=some [.vsl 0 y ((fh ⟨ver,x,ls⟩).map .str)]:=
   dG rfl rfl (by simp only[List.mapM_cons,List.mapM_nil,hfz];rfl)
  simp only[zp,List.length_nil,Nat.add_zero]at ha1;rw[←hM]
  repeat'(first|(simp(disch:=first|omega|(simp only[zL];omega))only[go_sem,Nat.reduceEqDiff,↓reduceIte,Nat.reduceAdd,Nat.reduceMul,Nat.reduceSub,Nat.reduceLeDiff,Nat.reduceLT,Int.reduceToNat,Int.reduceLE,hb1,ha1])|(guard_target=~ aj _ _ _ _ _ _ _;refine aj.aX _ hj hln ?_))
  exact⟨_,rfl,_,rfl,.refl _⟩
/-! ### Check, Text -/
def bU(c:Cd):Bool:=version c.ver&&decide (c.ls.length≤100)&&c.ls.all cf
def aL(c:Cd):Nat:=if bU c then(if(laid c).length>16000 then 3 else 0)else 2
theorem zq(ls:List Ln):∀v∈ls.map aq,shp 5 v:=by
 intro v hv;obtain⟨l,_,rfl⟩:=List.mem_map.1 hv;exact⟨[.str l.g,.str l.n,.vsl 3 l.x (l.ps.map aH),.str l.v],rfl,rfl⟩
def pL:AV→Bool
 | .agg [.str g,.str n,.vsl _ x ps,.str v]=>cf ⟨g,n,x,ps.map (fun| .agg [.str t,.str v]=>(t,v)|_=>([],[])),v⟩
 |_=>false
theorem BC(l:Ln):pL (aq l)=cf l:=by
 have:(l.ps.map aH).map (fun| .agg [.str t,.str v]=>(t,v)|_=>(([],[]):Bytes×Bytes))=l.ps:=by
  rw[List.map_map];conv=>rhs;rw[←List.map_id l.ps]
  congr 1
 simp only[aq,pL,this]
theorem G8(x:Bool)(ls:List Ln):aa Tryz.prog 46 [.vsl 5 x (ls.map aq),.func (.func 47) [] []] (.ret (.bool (ls.all cf))):=by
 have:=Go.Proofs.YtekcidbpejicdaaGreatDoor.GS x (ls.map aq) 47 [] [] pL (zq ls) ⟨aN ls,rfl,rfl⟩ (by
  intro v hv;obtain⟨r,_,rfl⟩:=List.mem_map.1 hv;rw[BC];exact Ji r)
 rw[List.all_map]at this;have e:(fun x=>pL (aq x))=cf:=by funext l;exact BC l
 simp only[Function.comp_def,e]at this;exact this
/-! ### What may be told -/
theorem pt:∀(i:Nat) (s:Bytes),pd i s=true→fg s=true
 |_,[],_=>rfl
 | i,x::l,h=>by
  simp only[pd,Bool.and_eq_true]at h;simp only[fg,List.all_cons,Bool.and_eq_true];refine⟨?_,pt (i+1) l h.2⟩;have h1:=h.1;simp only[okI,decide_eq_true_eq]at h1 ⊢;rcases Nat.lt_or_ge x.toNat 128 with h2|h2
  ·exact h2
  ·have a1:¬((x.toNat:Int)≤122):=by omega
   have a2:¬((x.toNat:Int)≤90):=by omega
   have a3:¬((x.toNat:Int)≤57):=by omega
   have a4:¬((x.toNat:Int)=45):=by omega
   simp[a1,a2,a3,a4]at h1
theorem nF(s:Bytes):fg (small s)=fg s:=by
 simp only[fg,small,List.all_map];congr 1;funext x;simp only[Function.comp];exact decide_eq_decide.2 (BA x)
theorem iU{s:Bytes}(h:dz s=true):fg s=true∧s.length≤64:=by
 simp only[dz,kQ,List.all_cons,List.all_nil,Bool.and_true,Bool.and_eq_true,ph]at h;obtain⟨_,⟨⟨h1,_⟩,_⟩,_⟩:=h;simp only[ew,Bool.and_eq_true,decide_eq_true_eq]at h1;refine⟨by rw[←nF];exact pt 0 _ h1.1,?_⟩;have:=h1.2.2;simp[small]at this;omega
theorem Jo(v:Bytes):(qv v).length≤v.length+2:=by unfold qv;split<;>simp
theorem nG:∀(ps:List (Bytes×Bytes)),(∀p∈ps,p.1.length≤64∧p.2.length≤100)→(dA ps).length≤200*ps.length
 | [],_=>by simp[dA]
 |p::ps,h=>by
  have ih:=nG ps (fun q hq=>h q (List.mem_cons_of_mem _ hq));have hp:=h p (by simp);have:=Jo p.2;simp only[dA,List.map_cons,List.flatten_cons,List.length_append,pq,List.length_cons,List.length_nil,ck]at ih ⊢;omega
theorem kT{l:Ln}(h:cf l=true):mW l=true∧(told l).length≤6000:=by
 simp only[cf,Bool.and_eq_true,Bool.or_eq_true,decide_eq_true_eq,beq_iff_eq]at h;obtain⟨hg,hn,_,_,_,hps,hall,hv,_⟩:=h;have hg':fg l.g=true∧l.g.length≤64:=by
  rcases hg with hg|hg
  ·rw[hg];exact⟨rfl,by simp⟩
  ·exact iU hg
 have hn':fg l.n=true∧l.n.length≤64:=by
  have:=iU hn;rw[nF]at this;exact⟨this.1,by simpa[small]using this.2⟩
 rw[List.all_eq_true]at hall;have hp:∀p∈l.ps,fg p.1=true∧p.1.length≤64∧p.2.length≤100:=by
  intro p hp;have:=hall p hp;simp only[dC,Bool.and_eq_true,decide_eq_true_eq]at this;have h1:=iU this.1.1;exact⟨h1.1,h1.2,by have:=this.1.2;omega⟩
 have hb:=nG l.ps (fun p h=>(hp p h).2);have hh:(fU l).length≤129:=by unfold fU;split<;>simp[ck]<;>omega
 have hlen:(told l).length≤6000:=by simp only[told,List.length_append,List.length_cons,List.length_nil];omega
 refine⟨?_,hlen⟩;simp only[mW,Bool.and_eq_true,decide_eq_true_eq,List.all_eq_true];exact⟨⟨⟨hg'.1,hn'.1⟩,fun p h=>(hp p h).1⟩,by omega⟩
theorem uC:∀(k m:Nat) (s:Bytes),1≤m→(jB k m s).length≤s.length+3*s.length
 |0,m,s,_=>by simp[jB]
 | k+1,m,s,hm=>by
  rw[jB];split
  ·rename_i h
   have:=uC k 74 (s.drop m) (by omega);simp only[List.length_append,List.length_take,List.length_cons,List.length_nil,List.length_drop]at this ⊢;omega
  ·omega
theorem mb:∀(l:List Bytes) (b:Nat),(∀x∈l,x.length≤b)→(cH l).length≤(b+2)*l.length
 | [],b,_=>by simp[cH]
 |x::l,b,h=>by
  have ih:=mb l b (fun y hy=>h y (List.mem_cons_of_mem _ hy));have:=h x (by simp);simp only[cH,List.map_cons,List.flatten_cons,List.length_append,List.length_cons,List.length_nil]at ih ⊢;rw[Nat.mul_add];omega
theorem pw{c:Cd}(h:bU c=true):(laid c).length≤50000000:=by
 simp only[bU,Bool.and_eq_true,decide_eq_true_eq,List.all_eq_true]at h;obtain⟨⟨h1,h2⟩,h3⟩:=h
 have:=mb (fh c) 24000 (by
  intro x hx;simp only[fh,List.mem_append,List.mem_cons,List.mem_map,List.not_mem_nil,or_false]at hx;rcases hx with((rfl|rfl)|⟨l,hl,rfl⟩)|rfl
  ·decide
  ·simp only[version,Bool.or_eq_true,beq_iff_eq]at h1
   rcases h1 with h1|h1<;>rw[h1]<;>decide
  ·have:=(kT (h3 l hl)).2
   have:=uC (told l).length 75 (told l) (by omega);unfold fold;omega
  ·decide)
 have hl:(fh c).length≤103:=by simp[fh];omega
 unfold laid;have:(24000+2)*(fh c).length≤(24000+2)*103:=Nat.mul_le_mul_left _ hl;omega
theorem qZ(c:Cd):AV.hfs [aS c]=true:=by simp[aS,AV.hfs,AV.hf,aN]
set_option maxRecDepth 8000 in
theorem sE(c:Cd):aa Tryz.prog 24 [aS c] (.ret (.int .i64 (aL c))):=by
 have hlaid:bU c=true→aa Tryz.prog 48 [aS c] (.ret (.str (laid c))):=by
  intro h;have hb:=pw h;simp only[bU,Bool.and_eq_true,decide_eq_true_eq,List.all_eq_true]at h;exact Jn c (fun l hl=>(kT (h.2 l hl)).1) hb (by omega)
 have hhfs:=qZ c;obtain⟨ver,x,ls⟩:=c;refine aa.of Tryz.func24 rfl (ab enters Tryz.func24 rfl) (by simp[Tryz.ntmps24]) ?_;show W Tryz.prog 25 0 none _ _ _;refine W.vc (by decide) ?_;simp only[aS]at hlaid hhfs ⊢;have hv:=Bp ver;have he:=G8 x ls;by_cases h1:version ver=true
 ·rw [h1]at hv
  by_cases h2:ls.length≤100
  ·by_cases h3:ls.all cf=true
   ·rw[h3]at he
    have hr:bU ⟨ver,x,ls⟩=true:=by simp[bU,h1,h2,h3]
    have hl:=hlaid hr;by_cases h4:(laid ⟨ver,x,ls⟩).length>16000
    ·have hc:aL ⟨ver,x,ls⟩=3:=by simp only[aL,hr,if_true,if_pos h4]
     repeat'(first|(simp(disch:=first|omega|(simp only[zL];omega))only[go_sem,Nat.reduceEqDiff,↓reduceIte,Nat.reduceAdd,Nat.reduceMul,Nat.reduceSub,Nat.reduceLeDiff,Nat.reduceLT,Int.reduceToNat,Int.reduceLE])|((with_reducible first|apply aj.pure|apply an.pure);(with_reducible assumption);(first|rfl|simp only[go_sem,aN])))
     rw[hc];exact⟨_,rfl,_,rfl,.refl _⟩
    ·have hc:aL ⟨ver,x,ls⟩=0:=by simp only[aL,hr,if_true,if_neg h4]
     repeat'(first|(simp(disch:=first|omega|(simp only[zL];omega))only[go_sem,Nat.reduceEqDiff,↓reduceIte,Nat.reduceAdd,Nat.reduceMul,Nat.reduceSub,Nat.reduceLeDiff,Nat.reduceLT,Int.reduceToNat,Int.reduceLE])|((with_reducible first|apply aj.pure|apply an.pure);(with_reducible assumption);(first|rfl|simp only[go_sem,aN])))
     rw[hc];exact⟨_,rfl,_,rfl,.refl _⟩
   ·have h3:ls.all cf=false:=by simpa using h3
    rw[h3]at he;have hc:aL ⟨ver,x,ls⟩=2:=by simp[aL,bU,h1,h2,h3]
    repeat'(first|(simp(disch:=first|omega|(simp only[zL];omega))only[go_sem,Nat.reduceEqDiff,↓reduceIte,Nat.reduceAdd,Nat.reduceMul,Nat.reduceSub,Nat.reduceLeDiff,Nat.reduceLT,Int.reduceToNat,Int.reduceLE])|((with_reducible first|apply aj.pure|apply an.pure);(with_reducible assumption);(first|rfl|simp only[go_sem,aN])))
    rw[hc];exact⟨_,rfl,_,rfl,.refl _⟩
  ·have hc:aL ⟨ver,x,ls⟩=2:=by simp[aL,bU,h1,h2]
   repeat'(first|(simp(disch:=first|omega|(simp only[zL];omega))only[go_sem,Nat.reduceEqDiff,↓reduceIte,Nat.reduceAdd,Nat.reduceMul,Nat.reduceSub,Nat.reduceLeDiff,Nat.reduceLT,Int.reduceToNat,Int.reduceLE])|((with_reducible first|apply aj.pure|apply an.pure);(with_reducible assumption);(first|rfl|simp only[go_sem,aN])))
   rw[hc];exact⟨_,rfl,_,rfl,.refl _⟩
 ·have h1:version ver=false:=by simpa using h1
  rw[h1]at hv;have hc:aL ⟨ver,x,ls⟩=2:=by simp[aL,bU,h1]
  repeat'(first|(simp(disch:=first|omega|(simp only[zL];omega))only[go_sem,Nat.reduceEqDiff,↓reduceIte,Nat.reduceAdd,Nat.reduceMul,Nat.reduceSub,Nat.reduceLeDiff,Nat.reduceLT,Int.reduceToNat,Int.reduceLE])|((with_reducible first|apply aj.pure|apply an.pure);(with_reducible exact hv);(first|rfl|simp only[go_sem,aN])))
  rw[hc];exact⟨_,rfl,_,rfl,.refl _⟩
/-! ### The reader -/
/-! ### Collected -/
noncomputable def asC:Code:=match Tryz.f120.body with
 |some (.seq _ (.seq (.seq _ (.block _ (.rangeFunc _ _ a _))) _))=>a
 |_=>.skip
noncomputable def bdC:Code:=match Tryz.f120.body with
 |some (.seq _ (.seq (.seq _ (.block _ (.rangeFunc _ _ _ b))) _))=>b
 |_=>.skip
noncomputable def lkC:cN:=⟨13,#[7],asC,bdC,.ready,none⟩
noncomputable def kbC:cN:=⟨13,#[7],asC,bdC,.busy,none⟩
def tC(g:AV):List (Nat×AV):=[(6,g),(4,.vsl 0 true []),(2,.ptr 0 0),(0,.vsl 0 true []),(1,g)]
def jC(g:AV)(s:List Bytes)(K:List OB):Prop:=
 K[1]? =some .dfr∧K[2]? =some (.loop (tC g) lkC)∧∃v,K[0]? =some (.cells [v] false)∧kN 0 .str K v s∧v.isC=true∧(∀i,i<3→v≠ .sl i 0 s.length 0)∧deN v=v
theorem Jp(H:List OB)(id:Nat)(v:AV)(b:Bool)(h:H[id]? =some (.cells [v] b)):al Tryz.prog 25 (.ptr id 0) H=some v:=by
 simp[vX,ldC,h]
theorem Lq(H:List OB)(id:Nat)(u v:AV)(h:H[id]? =some (.cells [u] false))(hv:v.isC=true):aE Tryz.prog 25 (.ptr id 0) v H=some (H.set id (.cells [v] false)):=by
 have hc:v.cells=[v]:=eb (by cases v<;>first|rfl|cases hv);simp[Du,stC,h,hc,hv,cm]
theorem kU(s:Bytes):aw Tryz.prog 25 1 [(0,.str s)]=some (.vsl 0 true [.str s]):=by
 simp[aw,Tryz.underlying25,ik,AV.cells,AV.told,List.range']
set_option maxRecDepth 100000 in
theorem G9(g:AV)(s:List Bytes)(m:Bytes)(K:List OB)(hs:s.length≤1000000)(hJ:jC g s K):
    ∃K',YFn Tryz.prog 2 [.str m] K (.ret (.bool true)) K'∧jC g (s++[m]) K':=by
  obtain⟨h1,h2,v,h0,hin,hvc,hne,hde⟩:=hJ;have l2:2<K.length:=(List.getElem?_eq_some_iff.1 h2).1;obtain⟨M,hM⟩: ∃M,M=K.set 2 (.loop (tC g) kbC):=⟨_,rfl⟩
  have lM:M.length=K.length:=by rw[hM,List.length_set]
  have gM: ∀i,i≠2→M[i]? =K[i]? :=by
    intro i hi2;rw[hM,List.getElem?_set,if_neg (by omega)]
  have gM2:M[2]? =some (.loop (tC g) kbC):=by rw[hM,List.getElem?_set_self (by omega)]
  have hin':kN 0 AV.str M v s:=by
    rcases hin with h|⟨d,hv,hd⟩
    · exact .inl h
    · have hd2:d≠2:=by rintro rfl;rw[h2]at hd;cases hd
      exact .inr ⟨d,hv,by rw[gM d hd2];exact hd⟩
  obtain⟨M',hap,hl',hnew,hold⟩:=il (P:=Tryz.prog) (sT:=25) (wd:=0) (bytes:=16) Tryz.underlying25 ik AV.str (fun _=>rfl) (fun _=>rfl) (by decide) hin' m true (by omega);have o0:M'[0]? =some (.cells [v] false):=by rw[hold 0 (by omega) (hne 0 (by omega)),gM 0 (by omega)];exact h0
  have o1:M'[1]? =some .dfr:=by rw[hold 1 (by omega) (hne 1 (by omega)),gM 1 (by omega)];exact h1
  have o2:M'[2]? =some (.loop (tC g) kbC):=by rw[hold 2 (by omega) (hne 2 (by omega))];exact gM2
  have k0:al Tryz.prog 25 (.ptr 0 0) M=some v:=Jp M 0 v false (by rw[gM 0 (by omega)];exact h0);have k2:aE Tryz.prog 25 (.ptr 0 0) (.sl M.length 0 (s.length+1) 0) M'=some (M'.set 0 (.cells [.sl M.length 0 (s.length+1) 0] false)):=Lq M' 0 v _ o0 rfl;refine⟨(M'.set 0 (.cells [.sl M.length 0 (s.length+1) 0] false)).set 2 (.loop (tC g) lkC),?_,?_⟩
  · refine YFn.of h2 (by simp[lkC]) fun l=> ?_
    show W Tryz.prog 13 _ _ (.region 2 _ _) _ ⟨(7,.str m)::tC g,K,[]⟩;refine .vc (by decide) ?_
    repeat'(first|(simp(disch:=first|omega|(simp only[zL];omega))only[go_sem,seval,tC]))
    refine⟨tC g,lkC,h2,rfl,?_⟩;rw[show({lkC with st:=.busy}:cN)=kbC from rfl];show W Tryz.prog 13 _ _ (.block 1 (.region 3 _ _)) _ ⟨_,K.set 2 _,_⟩;rw[←hM];refine .vc (by decide) ?_
    repeat'(first|(simp(disch:=first|omega|(simp only[zL];omega))only[go_sem,seval,k0,kU,hde,hap,k2,tC]))
    refine⟨tC g,kbC,?_,rfl,rfl⟩;show(M'.set 0 _)[2]? =_;rw[List.getElem?_set,if_neg (by decide)];exact o2
  · have q: ∀i,i≠0→i≠2→((M'.set 0 (.cells [.sl M.length 0 (s.length+1) 0] false)).set 2 (.loop (tC g) lkC))[i]? =M'[i]? :=by
      intro i hi0 hi2;rw[List.getElem?_set,if_neg (by omega),List.getElem?_set,if_neg (by omega)]
    refine⟨by rw[q 1 (by decide) (by decide)];exact o1,?_,.sl M.length 0 (s.length+1) 0,?_,.inr ⟨M.length,by simp,?_⟩,rfl,?_,rfl⟩
    · rw[List.getElem?_set_self (by rw[List.length_set];omega)]
    · rw[List.getElem?_set,if_neg (by decide),List.getElem?_set_self (by omega)]
    · rw[q M.length (by omega) (by omega)];exact hnew
    · intro i hi h
      injection h with h3
      omega
def jE(x:UInt8):Bytes:=if x=92∨x=44∨x=59 then [92,x]else if x=10 then [92,110]else [x]
def esc(s:Bytes):Bytes:=(s.map jE).flatten
def unn(x:UInt8):UInt8:=if x=110∨x=78 then 10 else x
def cq:Bytes→Bytes
 | []=>[]
 | [x]=>[x]
 |x::y::t=>if x=92 then unn y::cq t else x::cq (y::t)
def aQ(m:UInt8):Bool→Bytes→Bytes→List Bytes
 |_,cur,[]=>[cur]
 |true,cur,x::t=>aQ m false (cur++[x]) t
 |false,cur,x::t=>if x=92 then aQ m true (cur++[x]) t else if x=m then cur::aQ m false [] t else aQ m false (cur++[x]) t
def aY(m:UInt8)(s:Bytes):List Bytes:=aQ m false [] s
theorem ir(x:UInt8)(s:Bytes):esc (x::s)=jE x++esc s:=by simp[esc]
theorem xX(a b:Bytes):esc (a++b)=esc a++esc b:=by simp[esc]
theorem uD(x:UInt8):1≤(jE x).length∧(jE x).length≤2:=by unfold jE;split<;>(try split)<;>simp
theorem gD:∀s:Bytes,(esc s).length≤2*s.length
 | []=>by simp[esc]
 |x::s=>by have:=gD s;have:=uD x;rw[ir,List.length_append,List.length_cons];omega
theorem uE{s:Bytes}{i:Nat}{x:UInt8}(h:s[i]? =some x):esc (s.take (i+1))=esc (s.take i)++jE x:=by
 rw[List.take_add_one,h,xX];simp[esc]
theorem nH(s:Bytes)(i:Nat):(esc (s.take i)).length≤(esc s).length:=by
 have:esc s=esc (s.take i)++esc (s.drop i):=by rw[←xX,List.take_append_drop]
 rw[this,List.length_append];omega
theorem mc(y:UInt8)(t:Bytes):cq (92::y::t)=unn y::cq t:=by rw[cq];simp
theorem py{x:UInt8}(h:x≠92)(t:Bytes):cq (x::t)=x::cq t:=by
 cases t with
 |nil=>rfl
 |cons y t=>rw[cq,if_neg h]
theorem ra(x:UInt8):cq [x]=[x]:=rfl
theorem eN:∀s:Bytes,cq (esc s)=s
 | []=>rfl
 | x::s=>by
  rw[ir];unfold jE;split
  ·rename_i h
   show cq (92::x::esc s)=_;rw[mc,eN s];have:unn x=x:=by
    unfold unn;rw[if_neg];rintro(e|e)<;>subst e<;>simp at h
   rw[this]
  ·split
   ·rename_i h;subst h
    show cq (92::110::esc s)=_;rw[mc,eN s];rfl
   ·rename_i h _
    show cq (x::esc s)=_;rw[py (fun e=>h (.inl e)),eN s]
theorem kV(m:UInt8)(cur:Bytes)(y:UInt8)(t:Bytes):aQ m false cur (92::y::t)=aQ m false (cur++[92,y]) t:=by
 rw[aQ,if_pos rfl,aQ];simp
theorem iu{m:UInt8}(hm:m=59∨m=44):∀(s cur r:Bytes),aQ m false cur (esc s++r)=aQ m false (cur++esc s) r
 | [],cur,r=>by simp[esc]
 | x::s,cur,r=>by
  rw[ir];unfold jE;split
  ·show aQ m false cur (92::x::(esc s++r))=_
   rw[kV,iu hm s];simp
  ·split
   ·rename_i h;subst h
    show aQ m false cur (92::110::(esc s++r))=_;rw[kV,iu hm s];simp
   ·rename_i h _
    show aQ m false cur (x::(esc s++r))=_;have h1:x≠92:=fun e=>h (.inl e);have h2:x≠m:=by
     intro e;rcases hm with e'|e'<;>subst e'<;>subst e<;>simp at h
    rw[aQ,if_neg h1,if_neg h2,iu hm s];simp
theorem dX(m:UInt8):∀(b:Bool) (cur t:Bytes),(aQ m b cur t).length≤t.length+1
 |_,cur,[]=>by simp[aQ]
 |true,cur,x::t=>by have:=dX m false (cur++[x]) t;rw[aQ];simp only[List.length_cons];omega
 |false,cur,x::t=>by
  have h1:=dX m true (cur++[x]) t;have h2:=dX m false [] t;have h3:=dX m false (cur++[x]) t;rw[aQ];split
  ·simp only[List.length_cons];omega
  ·split<;>simp only[List.length_cons]<;>omega
theorem iv(m:UInt8):∀(t:Bytes) (b:Bool) (cur s:Bytes),s∈aQ m b cur t→s.length≤cur.length+t.length
 | [],b,cur,s,h=>by
  have:s=cur:=by cases b<;>simpa[aQ]using h
  rw[this];simp
 |x::t,true,cur,s,h=>by
  rw[aQ]at h;have:=iv m t _ _ s h;simp at this ⊢;omega
 | x::t,false,cur,s,h=>by
  rw[aQ]at h;split at h
  ·have:=iv m t _ _ s h
   simp at this ⊢;omega
  ·split at h
   ·rcases List.mem_cons.1 h with e|e
    ·subst e;simp
    ·have:=iv m t _ _ s e
     simp at this ⊢;omega
   ·have:=iv m t _ _ s h
    simp at this ⊢;omega
end Go.Proofs.YtekcidbpejicdaaGreatDoor
