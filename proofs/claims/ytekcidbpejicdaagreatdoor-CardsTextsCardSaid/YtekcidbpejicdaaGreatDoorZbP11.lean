/- Contracts of functions that the statements of this seat reach: under the conditions named at each theorem. -/
import Derived.Test.YtekcidbpejicdaaGreatDoorZbP8
import Derived.Test.YtekcidbpejicdaaGreatDoorZbP10
import Derived.Test.YtekcidbpejicdaaGreatDoorZbP6
import Derived.Shelf.Strings.Builder1
import Derived.Shelf.Strings.Builder2
import Derived.Shelf.Strings.OnBuilder
import Derived.Shelf.Small.Utf8
import Derived.Shelf.Small.Strs
import Derived.Shelf.Strings.Search1
import Derived.Shelf.Strings.Search2
import Derived.Shelf.Strings.Search3
import Derived.Shelf.Strings.Cut
import Derived.Shelf.Strings.Count
import Derived.Shelf.LaysM
import Derived.Shelf.Strings.Shaped
import Derived.Shelf.Sort.Plain
import Derived.Shelf.Strings.Split
import Derived.Shelf.Unicode.Latin
import Derived.Shelf.Strings.Runes
import Derived.Shelf.Strings.IndexAny
import Derived.Shelf.Strings.AsciiSet
import Derived.Shelf.Strings.IndexAnyAll
import Derived.Shelf.Unicode.DecodeSlow
import Derived.Shelf.Unicode.CaseLookup
import Derived.Shelf.Unicode.CaseConvert
import Derived.Shelf.Unicode.CaseTo
import Derived.Shelf.Unicode.CaseLaid
import Derived.Test.YtekcidbpejicdaaGreatDoorProg
import Derived.Test.YtekcidbpejicdaaGreatDoorZbP5
namespace Go.Proofs.YtekcidbpejicdaaGreatDoor
set_option linter.unusedVariables false
set_option linter.unusedSimpArgs false
open Go Go.Av Go.RowKit
def vB(r:Int):Bool:=decide (0≤r)&&decide (r<55296)||decide (57343<r)&&decide (r≤1114111)
set_option maxRecDepth 8000 in
theorem Bo(r:Int):ad Tryz.prog 209 [.int .i32 r] (.ret (.bool (vB r))):=by
 unfold vB;generalize h1:decide (0≤r)=b1;generalize h2:decide (r<55296)=b2;generalize h3:decide (57343<r)=b3;generalize h4:decide (r≤1114111)=b4;refine ad.of Tryz.func209 rfl (ab enters Tryz.func209 rfl) (by simp[Tryz.ntmps209]) ?_;show W Tryz.prog 17 0 none _ _ _;refine .seq (.region [] (by decide) ?_);simp only[al,gdA,ae,aa,ah,an,evalOp,St.ev,St.put,aL,ofV,ai];refine .seq (.block ?_)
 cases b1<;>cases b2<;>refine .seq (.region [] (by decide) ?_)<;>simp only[al,gdA,ae,aa,ah,an,evalOp,St.ev,Av.get,St.put,ofV,ai,Nat.reduceEqDiff,↓reduceIte,Bool.and_self,List.getElem?_cons_zero,List.getElem?_cons_succ,List.getElem?_toArray,Option.bind_some,beq_true,Bool.false_eq_true,aU,cond_true,ec,cU,h1,h2]
 case true.true=>
  refine .cond (t:=true) rfl (.seq (.region [] (by decide) ?_));simp only[al,gdA,ae,aa,ah,an,evalOp,St.ev,St.put,ofV,ai];exact .ret ⟨_,rfl,_,rfl,.refl _⟩
 all_goals
  refine .cond (t:=false) rfl ?_;cases b3<;>cases b4<;>refine .seq (.region [] (by decide) ?_)<;>simp only[al,gdA,ae,aa,ah,an,evalOp,St.ev,Av.get,St.put,ofV,ai,Nat.reduceEqDiff,↓reduceIte,Bool.and_self,List.getElem?_cons_zero,List.getElem?_cons_succ,List.getElem?_toArray,Option.bind_some,beq_true,Bool.false_eq_true,aU,cond_true,ec,cU,h3,h4]
  case true.true=>
   refine .cond (t:=true) rfl (.seq (.region [] (by decide) ?_));simp only[al,gdA,ae,aa,ah,an,evalOp,St.ev,St.put,ofV,ai];exact .ret ⟨_,rfl,_,rfl,.refl _⟩
  all_goals
   refine .cond (t:=false) rfl (.skip ?_);simp only[ai,aO];refine .seq (.region [] (by decide) ?_);simp only[al,gdA,ae,aa,ah,an,evalOp,St.ev,St.put,ofV,ai];exact .ret ⟨_,rfl,_,rfl,.refl _⟩
theorem HJ(r:Nat)(h:128≤r):∃e,(Utf8.encode (r:Int)).data.toList=e∧2≤e.length∧e.length≤4∧∃z:UInt8,e[e.length - 1]? =some z∧128≤z.toNat:=by
 refine⟨_,rfl,?_⟩;have key:∀c:Nat,128≤(UInt8.ofNat (0x80+c%64)).toNat:=by
  intro c;simp[UInt8.toNat_ofNat'];omega
 unfold Utf8.encode;simp only;have hc:128≤(if Utf8.valid (r:Int)=true then((r:Int)).toNat else Utf8.runeError):=by
  split
  ·simpa using h
  ·decide
 generalize(if Utf8.valid (r:Int)=true then((r:Int)).toNat else Utf8.runeError)=c at hc;rw[if_neg (by omega)];split
 ·exact⟨by simp,by simp,_,rfl,key c⟩
 ·split
  ·exact⟨by simp,by simp,_,rfl,key c⟩
  ·exact⟨by simp,by simp,_,rfl,key c⟩
theorem Ev(cs:Bytes)(x:UInt8)(h:x.toNat<128):ad Tryz.prog 189 [.str cs,.int .i32 x.toNat] (.ret (.int .i64 (ixB cs x))):=by
 refine ad.of Tryz.func189 rfl (ab enters Tryz.func189 rfl) (by simp[Tryz.ntmps189]) ?_;show W Tryz.prog 187 0 none _ _ _;have h1:decide ((0:Int)≤(x.toNat:Int))=true:=decide_eq_true (by omega);have h2:decide ((x.toNat:Int)<128)=true:=decide_eq_true (by omega);have hcv:bx Tryz.prog 21 5 (.int .i32 (x.toNat:Int)) []=some (aS x,[]):=by
  have:=x.toNat_lt;simp[bx,Tryz.underlying21,Tryz.underlying5,IntKind.wrap,IntKind.bits,IntKind.signed,aS];omega
 refine .seq (.region [] (by decide) ?_);simp only[al,gdA,ae,aa,ah,an,evalOp,St.ev,St.put,aL,ofV,ai];refine .block (.seq (.region [] (by decide) ?_));simp only[al,gdA,ae,aa,ah,an,evalOp,St.ev,Av.get,St.put,ofV,ai,Nat.reduceEqDiff,↓reduceIte,List.getElem?_cons_zero,List.getElem?_cons_succ,List.getElem?_toArray,Option.bind_some,beq_true,aU,cond_true,ec,cU,h1,h2];refine .cond (t:=true) rfl (.seq (.region [.pure (.ret (.int .i64 (ixB cs x)))] (by decide) ?_))
 simp only[al,gdA,ae,aa,ah,an,evalOp,St.ev,Av.get,St.put,ai,Nat.reduceEqDiff,↓reduceIte,aG,AV.hfs,AV.hf,Bool.and_self,List.map_cons,List.map_nil,List.nil_append,List.append_nil,hcv,aS];refine⟨tp cs x,?_⟩;exact .ret ⟨_,rfl,_,rfl,.refl _⟩
theorem HK{s:Bytes}{c:UInt8}(h:c∉s):ixB s c= -1:=by
 rcases kS s c with⟨h1,_⟩|⟨i,_,h2,_⟩
 ·exact h1
 ·exact absurd (List.mem_of_getElem? h2) h
set_option maxRecDepth 8000 in
theorem Ew(cs:Bytes)(hcs:∀b∈cs,b.toNat<128)(hl:cs.length≤1000)(r:Nat)(h:128≤r):ad Tryz.prog 189 [.str cs,.int .i32 r] (.ret (.int .i64 (-1))):=by
 refine ad.of Tryz.func189 rfl (ab enters Tryz.func189 rfl) (by simp[Tryz.ntmps189]) ?_;show W Tryz.prog 187 0 none _ _ _;have h1:decide ((0:Int)≤(r:Int))=true:=decide_eq_true (by omega);have h2:decide ((r:Int)<128)=false:=decide_eq_false (by omega);refine .seq (.region [] (by decide) ?_);simp only[al,gdA,ae,aa,ah,an,evalOp,St.ev,St.put,aL,ofV,ai];refine .block (.seq (.region [] (by decide) ?_))
 simp only[al,gdA,ae,aa,ah,an,evalOp,St.ev,Av.get,St.put,ofV,ai,Nat.reduceEqDiff,↓reduceIte,List.getElem?_cons_zero,List.getElem?_cons_succ,List.getElem?_toArray,Option.bind_some,beq_true,aU,cond_true,ec,cU,h1,h2];refine .cond (t:=false) rfl ?_;refine .seq (.region [] (by decide) ?_);generalize h3:((r:Int)==65533)=b3;cases b3 with
 | true=>
  have hr:fw Tryz.prog 9 (.str cs) []=some (.ptr 0 0,[.siter cs 0]):=by simp[fw,Tryz.underlying9]
  simp only[al,gdA,ae,aa,ah,an,evalOp,St.ev,Av.get,St.put,ofV,ai,Nat.reduceEqDiff,↓reduceIte,dv,h3];refine .cond (t:=true) rfl (.seq (.seq (.region [] (by decide) ?_)));simp only[al,gdA,ae,aa,ah,an,evalOp,St.ev,Av.get,St.put,ai,Nat.reduceEqDiff,↓reduceIte,hr];refine .block ?_
  refine .bc (X:=Nat) (fun i=>[(175,.ptr 0 0)]) (fun i=>[.siter cs i]) (fun i=>i≤cs.length) (fun i=>cs.length - i) 0 (Nat.zero_le _)
   (by simp[aC,Av.get]) rfl ?_
  intro i hi;refine .seq (.region [] (by decide) ?_);by_cases hlt:i<cs.length
  ·obtain⟨x,hx,hdrop⟩:=drop_at hlt
   have hx8:=hcs x (List.mem_of_getElem? hx);simp only[al,fy,gdA,ae,aa,ah,an,evalOp,St.ev,Av.get,St.put,ai,↓reduceIte,List.getElem?_cons_zero,Option.map_some,oo hx hx8];refine .seq (.cond (t:=true) rfl (.skip ?_));simp only[ai];refine .block (.seq (.region [] (by decide) ?_));simp only[al,gdA,ae,aa,ah,an,evalOp,St.ev,Av.get,St.put,ai,Nat.reduceEqDiff,↓reduceIte,List.getElem?_cons_zero,List.getElem?_cons_succ,Option.map_some];refine .seq (.region [] (by decide) ?_);have hne:((x.toNat:Int)==65533)=false:=by simp;omega
   simp only[al,gdA,ae,aa,ah,an,evalOp,St.ev,Av.get,St.put,ofV,ai,↓reduceIte,dv,hne];refine .cond (t:=false) rfl (.skip ?_);simp only[ai,aO];refine⟨i+1,by omega,by omega,⟨rfl,trivial⟩,rfl,trivial⟩
  ·have hi':i=cs.length:=by omega
   subst hi';simp only[al,fy,gdA,ae,aa,ah,an,evalOp,St.ev,Av.get,St.put,ai,↓reduceIte,List.getElem?_cons_zero,Option.map_some,lV (Nat.le_refl cs.length)];refine .seq (.cond (t:=false) rfl (.exit ?_));simp only[ai,↓reduceIte,aO];refine .seq (.region [] (by decide) ?_);simp only[al,gdA,ae,aa,ah,an,evalOp,St.ev,St.put,ofV,ai];exact .ret ⟨_,rfl,_,rfl,.refl _⟩
 | false=>
  simp only[al,gdA,ae,aa,ah,an,evalOp,St.ev,Av.get,St.put,ofV,ai,Nat.reduceEqDiff,↓reduceIte,dv,h3];refine .cond (t:=false) rfl ?_;have hv:=Bo (r:Int);generalize vB (r:Int)=b4 at hv;refine .seq (.region [.pure (.ret (.bool b4))] (by decide) ?_);cases b4 with
  |false=>
   simp only[al,gdA,ae,aa,ah,an,evalOp,St.ev,Av.get,St.put,ai,Nat.reduceEqDiff,↓reduceIte,aG,AV.hfs,AV.hf,Bool.and_self,List.map_cons,List.map_nil,List.nil_append,List.append_nil,Option.map_some,Bool.not_false,cZ];refine⟨hv,?_⟩;refine .cond (t:=true) rfl (.seq (.region [] (by decide) ?_));simp only[al,gdA,ae,aa,ah,an,evalOp,St.ev,St.put,ofV,ai];exact .ret ⟨_,rfl,_,rfl,.refl _⟩
  | true=>
   simp only[al,gdA,ae,aa,ah,an,evalOp,St.ev,Av.get,St.put,ai,Nat.reduceEqDiff,↓reduceIte,aG,AV.hfs,AV.hf,Bool.and_self,List.map_cons,List.map_nil,List.nil_append,List.append_nil,Option.map_some,Bool.not_true,cZ];refine⟨hv,?_⟩;refine .cond (t:=false) rfl ?_;obtain⟨e,he,hl2,hl4,z,hz,hz8⟩:=HJ r h;have hcv:bx Tryz.prog 21 9 (.int .i32 (r:Int)) []=some (.str e,[]):=by
    simp[bx,Tryz.underlying21,Tryz.underlying9,he]
   have hze:cf Tryz.prog 9 (.str e) (.int .i64 ((e.length - 1:Nat):Int))=some (.int .u8 z.toNat):=ix9 e _ z hz;refine .ey ?_;refine .seq (.region [] (by decide) ?_);simp only[al,gdA,ae,aa,ah,an,evalOp,St.ev,Av.get,St.put,ai,Nat.reduceEqDiff,↓reduceIte,hcv];refine .seq (.region [] (by decide) ?_);have hsub:aH Tryz.prog .sub 3 (.int .i64 (e.length:Int)) (.int .i64 1)=some (.int .i64 ((e.length - 1:Nat):Int)):=Hw _ e.length 1 (by omega) (by omega);simp only[al,deN,gdA,ae,aa,ah,an,evalOp,St.ev,Av.get,St.put,ofV,ai,↓reduceIte,Option.map_some,ls9,hsub];refine .seq (.region [] (by decide) ?_)
   simp only[al,gdA,ae,aa,ah,an,evalOp,St.ev,Av.get,St.put,ai,↓reduceIte];refine .seq (.region [] (by decide) ?_);simp only[al,gdA,ae,aa,ah,an,evalOp,St.ev,St.put,ofV,ai];generalize hk:e.length - 1=k at*;refine .seq ?_;refine .block ?_;refine .bc (X:=Unit) (fun _=>[(0,.str cs),(7,.str e),(8,.int .i64 (k:Int)),(9,.int .i64 (k:Int))]) (fun _=>[]) (fun _=>True) (fun _=>0) () trivial (by simp[aC,Av.get]) rfl ?_;intro _ _;refine .seq (.seq (.region [] (by decide) ?_));simp only[al,deN,gdA,ae,aa,ah,an,evalOp,St.ev,Av.get,St.put,ai,Nat.reduceEqDiff,↓reduceIte,Option.map_some,ls9,cU]
   by_cases hlt:k<cs.length
   ·obtain⟨y,hy,hdrop⟩:=drop_at hlt
    have hy8:=hcs y (List.mem_of_getElem? hy);have hye:cf Tryz.prog 9 (.str cs) (.int .i64 (k:Int))=some (.int .u8 y.toNat):=ix9 cs _ y hy;have hyz:((y.toNat:Int) !=(z.toNat:Int))=true:=by simp;omega
    refine .cond (t:=true) (by simp[St.ev,Av.get];omega) (.skip ?_);simp only[ai];refine .block (.ey ?_);refine .seq (.seq (.wz [] mixed (by kernel_rfl) (by kernel_rfl) (by kernel_rfl) ?_));simp only[EDf,gdA,ae,aa,evalOp,St.ev,Av.get,St.put,ai,Nat.reduceEqDiff,↓reduceIte,Option.map_some,hye,hze,ir,hyz];have hno:z∉cs.drop (k+1):=fun hm=>by have:=hcs z (List.mem_of_mem_drop hm);omega
    have hb:=tp (cs.drop (k+1)) z;rw[HK hno]at hb;have hsl:aM Tryz.prog 9 (.str cs) (some (.int .i64 ((k+1:Nat):Int))) none none=some (.str (cs.drop (k+1))):=by
     rw[ss9,bn .i64 (k+1) (by omega)];simp only[Option.map_some];rw[List.take_of_length_le (by simp)]
    refine .cond (t:=true) rfl (.seq (.wz [.pure (.ret (.int .i64 (-1)))] mixed (by kernel_rfl) (by kernel_rfl) (by kernel_rfl) ?_));simp only[EDf,deN,gdA,ae,aa,evalOp,St.ev,Av.get,St.put,ofV,ai,Nat.reduceEqDiff,↓reduceIte,aG,AV.hfs,AV.hf,Bool.and_self,List.map_cons,List.map_nil,List.nil_append,List.append_nil,Option.map_some,Option.map_none,AW 3 k (by omega),hsl,hze];refine⟨hb,?_⟩;refine .seq (.seq (.region [] (by decide) ?_));have hm1:decide ((-1:Int)<0)=true:=rfl;simp only[al,gdA,ae,aa,ah,an,evalOp,St.ev,Av.get,St.put,ofV,ai,↓reduceIte,cU,hm1]
    refine .cond (t:=true) rfl (.seq (.region [] (by decide) ?_));simp only[al,gdA,ae,aa,ah,an,evalOp,St.ev,St.put,ofV,ai];exact .ret ⟨_,rfl,_,rfl,.refl _⟩
   ·refine .cond (t:=false) (by simp[St.ev,Av.get];omega) (.exit ?_)
    simp only[ai,↓reduceIte,aO];refine .seq (.seq (.region [] (by decide) ?_));simp only[al,gdA,ae,aa,ah,an,evalOp,St.ev,St.put,ofV,ai];exact .ret ⟨_,rfl,_,rfl,.refl _⟩
def aX(cs:Bytes):Bytes→Nat
 | []=>0
 |x::t=>if x∈cs then 0 else aX cs t+1
def eE(s cs:Bytes):Int:=if aX cs s<s.length then(aX cs s:Int)else -1
theorem oq(cs:Bytes):∀s:Bytes,aX cs s≤s.length
 | []=>Nat.le_refl _
 |x::t=>by unfold aX;have:=oq cs t;split<;>simp<;>omega
theorem ot{cs:Bytes}(hcs:∀b∈cs,b.toNat<128){s:Bytes}:∀(w i:Nat),i+w≤s.length→(∀j,i≤j→j<i+w→128≤(s.getD j 0).toNat)→aX cs (s.drop i)=w+aX cs (s.drop (i+w))
 |0,i,_,_=>by simp
 |w+1,i,hl,hj=>by
  obtain⟨x,hx,hdrop⟩:=drop_at (show i<s.length by omega);have hx0:s.getD i 0=x:=by simp[List.getD,hx]
  have h128:=hj i (Nat.le_refl _) (by omega);rw[hx0]at h128;have hn:x∉cs:=fun hm=>by have:=hcs x hm;omega
  rw[hdrop,aX,if_neg hn,ot hcs w (i+1) (by omega) (fun j h1 h2=>hj j (by omega) (by omega))];rw[show i+(w+1)=i+1+w from by omega];omega
theorem Ey{s:Bytes}{c:UInt8}:decide (ixB s c≥0)=decide (c∈s):=by
 rcases kS s c with⟨h1,h2⟩|⟨i,h1,h2,_⟩
 ·rw[h1,decide_eq_false h2];rfl
 ·rw[h1,decide_eq_true (List.mem_of_getElem? h2)];simp
theorem xj(n:Int):ad Tryz.prog 190 [.int .i64 n] (.ret (.bool (decide (n>8)))):=by
 refine ad.of Tryz.func190 rfl (ab enters Tryz.func190 rfl) (by simp[Tryz.ntmps190]) ?_;show W Tryz.prog 5 0 none _ _ _;refine .seq (.region [] (by decide) ?_);simp only[al,gdA,ae,aa,ah,an,evalOp,St.ev,St.put,aL,ofV,ai];refine .seq (.region [] (by decide) ?_);simp only[al,gdA,ae,aa,ah,an,evalOp,St.ev,Av.get,St.put,ofV,ai,Nat.reduceEqDiff,↓reduceIte,iq];exact .ret ⟨_,rfl,_,rfl,.refl _⟩
set_option maxRecDepth 8000 in
theorem yG (s cs:Bytes) (hcs: ∀b∈cs,b.toNat<128) (h2:2≤cs.length) (hl:cs.length≤1000) (h8:s.length≤8):ad Tryz.prog 165 [.str s,.str cs] (.ret (.int .i64 (eE s cs))):=by
  refine ad.of Tryz.func165 rfl (ab enters Tryz.func165 rfl) (by simp[Tryz.ntmps165]) ?_;show W Tryz.prog 55 0 none _ _ _;have e0:(cs==[])=false:=by cases cs with|nil=>simp at h2|cons _ _=>rfl
  have e1:((cs.length:Int)==1)=false:=by simp;omega
  have x0:({data:= #[]}:ByteArray).size≤ay:=by decide
  have hsh:=xj (s.length:Int);rw[decide_eq_false (show¬((s.length:Int)>8) by omega)]at hsh;refine .seq (.region [] (by decide) ?_);simp only[al,gdA,ae,aa,ah,an,evalOp,St.ev,St.put,aL,ofV,ai];refine .seq (.seq (.region [] (by decide) ?_));simp only[al,gdA,ae,aa,ah,an,evalOp,St.ev,Av.get,St.put,ofV,ai,Nat.reduceEqDiff,↓reduceIte,nQ,x0,e0];refine .cond (t:=false) rfl (.skip ?_);refine .seq (.seq (.region [] (by decide) ?_));simp only[al,deN,gdA,ae,aa,ah,an,evalOp,St.ev,Av.get,St.put,ofV,ai,Nat.reduceEqDiff,↓reduceIte,Option.map_some,ls9,dv,e1];refine .cond (t:=false) rfl (.skip ?_)
  refine .seq (.seq (.region [.pure (.ret (.bool false))] (by decide) ?_));simp only[al,deN,gdA,ae,aa,ah,an,evalOp,St.ev,Av.get,St.put,ai,Nat.reduceEqDiff,↓reduceIte,aG,AV.hfs,AV.hf,Bool.and_self,List.map_cons,List.map_nil,List.nil_append,List.append_nil,Option.map_some,ls9];refine⟨hsh,?_⟩;refine .cond (t:=false) rfl (.skip ?_);have hr:fw Tryz.prog 9 (.str s) []=some (.ptr 0 0,[.siter s 0]):=by simp[fw,Tryz.underlying9]
  simp only[ai];refine .seq (.seq (.region [] (by decide) ?_));simp only[al,gdA,ae,aa,ah,an,evalOp,St.ev,Av.get,St.put,ai,Nat.reduceEqDiff,↓reduceIte,hr];refine .block ?_
  refine .bc (X:=Nat) (fun i=>[(45,.ptr 0 0),(1,.str cs)]) (fun i=>[.siter s i]) (fun i=>i≤s.length∧i+aX cs (s.drop i)=aX cs s) (fun i=>s.length - i) 0 ⟨Nat.zero_le _,by simp⟩
    (by simp[aC,Av.get]) rfl ?_
  rintro i ⟨hi,hall⟩;refine .seq (.region [] (by decide) ?_);by_cases h:i<s.length
  · obtain⟨x,hx,hdrop⟩:=drop_at h
    obtain⟨r,w,o,hnx,hrn,ho,hw⟩: ∃(r:Int) (w:Nat) (o:Int),ez (.ptr 0 0) [.siter s i]=some (.tup [.bool true,.int .i64 (i:Int),.int .i32 r],[.siter s (i+w)])∧
        ad Tryz.prog 189 [.str cs,.int .i32 r] (.ret (.int .i64 o))∧decide (o≥0)=decide (x∈cs)∧(x∉cs→1≤w∧i+w≤s.length∧aX cs (s.drop i)=w+aX cs (s.drop (i+w))):=by
      rcases Nat.lt_or_ge x.toNat 128 with h1|h1
      · refine⟨_,1,_,oo hx h1,Ev cs x h1,Ey,fun hn=>⟨Nat.le_refl _,by omega,?_⟩⟩
        rw[hdrop,aX,if_neg hn];omega
      · obtain⟨d1,d2,d3,d4⟩:=Bm hx h1
        have hn:x∉cs:=fun hm=>by have:=hcs x hm;omega
        refine⟨_,_,-1,tx hx,Ew cs hcs hl _ d1,?_,fun _=>⟨d2,d3,ot hcs _ _ d3 d4⟩⟩;rw[decide_eq_false hn];rfl
    simp only[al,fy,gdA,ae,aa,ah,an,evalOp,St.ev,Av.get,St.put,ai,↓reduceIte,List.getElem?_cons_zero,Option.map_some,hnx];refine .seq (.cond (t:=true) rfl (.skip ?_));simp only[ai];refine .block (.seq (.region [] (by decide) ?_));simp only[al,gdA,ae,aa,ah,an,evalOp,St.ev,Av.get,St.put,ai,Nat.reduceEqDiff,↓reduceIte,List.getElem?_cons_zero,List.getElem?_cons_succ,Option.map_some];refine .seq (.region [.pure (.ret (.int .i64 o))] (by decide) ?_);by_cases hm:x∈cs
    · rw[decide_eq_true hm]at ho
      simp only[al,gdA,ae,aa,ah,an,evalOp,St.ev,Av.get,St.put,ofV,ai,Nat.reduceEqDiff,↓reduceIte,aG,AV.hfs,AV.hf,Bool.and_self,List.map_cons,List.map_nil,List.nil_append,List.append_nil,cB,ho];refine⟨hrn,?_⟩;refine .cond (t:=true) rfl (.seq (.region [] (by decide) ?_));simp only[al,gdA,ae,aa,ah,an,evalOp,St.ev,Av.get,St.put,ai,Nat.reduceEqDiff,↓reduceIte];refine .ret ?_;have:eE s cs=(i:Int):=by
        rw[hdrop,aX,if_pos hm]at hall;unfold eE;rw[if_pos (by omega)];omega
      rw[this];exact⟨_,rfl,_,rfl,.refl _⟩
    · rw[decide_eq_false hm]at ho
      obtain⟨w1,w2,w3⟩:=hw hm;simp only[al,gdA,ae,aa,ah,an,evalOp,St.ev,Av.get,St.put,ofV,ai,Nat.reduceEqDiff,↓reduceIte,aG,AV.hfs,AV.hf,Bool.and_self,List.map_cons,List.map_nil,List.nil_append,List.append_nil,cB,ho];refine⟨hrn,?_⟩;refine .cond (t:=false) rfl (.skip ?_);simp only[ai,aO];refine⟨i+w,⟨w2,by omega⟩,by omega,⟨rfl,rfl,trivial⟩,rfl,trivial⟩
  · have hi':i=s.length:=by omega
    subst hi';simp only[al,fy,gdA,ae,aa,ah,an,evalOp,St.ev,Av.get,St.put,ai,↓reduceIte,List.getElem?_cons_zero,Option.map_some,lV (Nat.le_refl s.length)];refine .seq (.cond (t:=false) rfl (.exit ?_));simp only[ai,↓reduceIte,aO];refine .seq (.region [] (by decide) ?_);simp only[al,gdA,ae,aa,ah,an,evalOp,St.ev,St.put,ofV,ai];refine .ret ?_;have:eE s cs= -1:=by
      rw[List.drop_length]at hall;simp only[aX]at hall;unfold eE;rw[if_neg (by omega)]
    rw[this];exact⟨_,rfl,_,rfl,.refl _⟩
def ee(f:Nat→Bool):List AV:=(List.range 256).map fun k=>.bool (f k)
theorem dn(f:Nat→Bool):(ee f).length=256:=by simp[ee]
theorem kU(f:Nat→Bool)(i:Nat)(h:i<256):(ee f)[i]? =some (.bool (f i)):=by simp[ee,List.getElem?_range h]
theorem Bp(f g:Nat→Bool)(i:Nat)(hg:g i=true)(h:∀k,k≠i→g k=f k):(ee f).set i (.bool true)=ee g:=by
 apply List.ext_getElem?;intro k;rw[List.getElem?_set];by_cases e:i=k
 ·subst e
  rw[if_pos rfl];by_cases hl:i<256
  ·rw[if_pos (by rw[dn];exact hl),kU g i hl,hg]
  ·rw[if_neg (by rw[dn];exact hl),List.getElem?_eq_none (by rw[dn];omega)]
 ·rw[if_neg e]
  by_cases hl:k<256
  ·rw[kU f k hl,kU g k hl,h k (fun x=>e x.symm)]
  ·rw[List.getElem?_eq_none (by rw[dn];omega),List.getElem?_eq_none (by rw[dn];omega)]
theorem lW(m:Nat)(f:Nat→Bool):AV.bf m (ee f)=true:=by rw[dZ,List.all_eq_true];intro v hv;obtain⟨k,_,rfl⟩:=List.mem_map.1 hv;rfl
theorem tz(f:Nat→Bool):AV.hfs (ee f)=true:=by rw[aR,List.all_eq_true];intro v hv;obtain⟨k,_,rfl⟩:=List.mem_map.1 hv;rfl
theorem Bq(f:Nat→Bool):(ee f).all AV.isC=true:=by rw[List.all_eq_true];intro v hv;obtain⟨k,_,rfl⟩:=List.mem_map.1 hv;rfl
def inC(cs:Bytes)(k:Nat):Bool:=cs.any fun b=>b.toNat==k
theorem Ke:bS Tryz.prog 216=some (.agg (ee fun _=>false)):=by kernel_rfl
theorem F7(f:Nat→Bool)(b:Bool):ao Tryz.prog 216 (.ptr 0 0) [.cells (ee f) b]=some (.agg (ee f)):=by
 simp[FK,ldG,dn,List.take_of_length_le]
theorem Br{cs:List AV}{l:List AV}(h:l.length=cs.length):cz cs 0 l=l:=by
 have:=mn [] l cs (Nat.le_of_eq h);simpa[h]using this
theorem F8(f g:Nat→Bool)(b:Bool):aA Tryz.prog 216 (.ptr 0 0) (.agg (ee g)) [.cells (ee f) b]=some [.cells (ee g) b]:=by
 simp[FJ,stC,AV.cells,dn,Bq,Br (cs:=ee f) (l:=ee g) (by rw[dn,dn])]
theorem Kf(f:Nat→Bool)(b:Bool)(x:UInt8):ak Tryz.prog 216 (.ptr 0 0) (.int .u8 x.toNat) [.cells (ee f) b]=some (.ptr 0 x.toNat):=by
 have:=x.toNat_lt;simp[ak,bt,Tryz.underlying216,tz4,this]
theorem HL(cs:Bytes)(i:Nat)(x:UInt8)(hx:cs[i]? =some x)(b:Bool):aA Tryz.prog 4 (.ptr 0 x.toNat) (.bool true) [.cells (ee (inC (cs.take i))) b]=some [.cells (ee (inC (cs.take (i+1)))) b]:=by
 have hlt:=x.toNat_lt;have h1:(ee (inC (cs.take i))).set x.toNat (.bool true)=ee (inC (cs.take (i+1))):=by
  refine Bp _ _ _ ?_ ?_
  ·simp only[inC,List.take_add_one,hx,List.any_append];simp
  ·intro k hk
   simp only[inC,List.take_add_one,hx,List.any_append,Option.toList_some,List.any_cons,List.any_nil,Bool.or_false];have:(x.toNat==k)=false:=by simp;omega
   rw[this,Bool.or_false]
 simp[st4,stC,AV.cells,AV.isC,dn,kC,h1];omega
set_option maxRecDepth 8000 in
theorem Ez(cs:Bytes)(hcs:∀b∈cs,b.toNat<128):ad Tryz.prog 191 [.str cs] (.ret (.tup [.agg (ee (inC cs)),.bool true])):=by
 refine ad.fit fun hfit=>?_;have hL:cs.length≤ay:=hfit (.str cs) (by simp);refine ad.of Tryz.func191 rfl (ab enters Tryz.func191 rfl) (by simp[Tryz.ntmps191]) ?_;show W Tryz.prog 21 0 none _ _ _;refine .seq (.region [] (by decide) ?_);simp only[al,gdA,ae,aa,ah,an,evalOp,St.ev,St.put,aL,ofV,ai,List.nil_append,Option.map_some,Ke,AV.cells];refine .seq (.seq (.region [] (by decide) ?_));simp only[al,gdA,ae,aa,ah,an,evalOp,St.ev,St.put,ofV,ai];refine .block ?_
 refine .G5 4 9 10 11 0 cs.length hL (Nat.zero_le _) rfl rfl rfl rfl rfl rfl rfl rfl rfl (by decide)
  (fun i=>[(0,.str cs),(2,.ptr 0 0)]) (fun _=>rfl) (fun i=>[.cells (ee (inC (cs.take i))) false]) (fun _=>Nat.zero_le _) (fun i=>True) rfl trivial ?_ ?_ ?_ ?_ ?_ ?_
 ·simp only[bz,Av.get,Nat.reduceEqDiff,↓reduceIte,bg,dk,dm,and_self,List.length_nil]
 ·intro i _
  simp only[cm,AV.hlt,AV.bf,bH,Bool.and_self,Bool.and_true,Bool.true_and];rfl
 ·have:inC (cs.take 0)=fun _=>false:=by funext k;simp[inC]
  rw[this];exact dr (by simp[OB.hlt,lW])
 ·intro i hi _
  refine .region [] (by decide) ?_;simp only[al,deN,gdA,ae,aa,ah,an,evalOp,St.ev,Av.get,St.put,ai,Nat.reduceEqDiff,↓reduceIte,Option.map_some,ls9,cU,dlt];refine⟨trivial,?_,dr (by simp[OB.hlt,lW]),trivial⟩;simp only[bz,Av.get,Nat.reduceEqDiff,↓reduceIte,bg,dk,dm,and_self]
 ·intro i hi _
  obtain⟨u,hu,hdrop⟩:=drop_at hi;have h8:=hcs u (List.mem_of_getElem? hu);have hge:decide ((u.toNat:Int)≥128)=false:=decide_eq_false (by omega);refine .block (.seq (.region [] (by decide) ?_));simp only[al,gdA,ae,aa,ah,an,evalOp,St.ev,Av.get,St.put,ai,Nat.reduceEqDiff,↓reduceIte,Option.map_some,ix9 _ _ _ hu];refine .seq (.seq (.region [] (by decide) ?_));simp only[al,gdA,ae,aa,ah,an,evalOp,St.ev,Av.get,St.put,ofV,ai,↓reduceIte,cB,hge];refine .cond (t:=false) rfl (.skip ?_);simp only[ai];refine .region [] (by decide) ?_
  simp only[al,gdA,ae,aa,ah,an,evalOp,St.ev,Av.get,St.put,ofV,Nat.reduceEqDiff,↓reduceIte,Option.map_some,Kf,HL cs i u hu];refine⟨trivial,?_,dr (by simp[OB.hlt,lW]),rfl⟩;simp only[bz,Av.get,Nat.reduceEqDiff,↓reduceIte,bg,dk,dm,and_self]
 ·intro _
  rw[List.take_length];simp only[ai,↓reduceIte,aO];refine .seq (.region [] (by decide) ?_);simp only[al,gdA,ae,aa,ah,an,evalOp,St.ev,Av.get,St.put,ofV,ai,Nat.reduceEqDiff,↓reduceIte,Option.map_some,F7,F8];exact .ret (td 2 216 3 rfl rfl (F7 _ _) rfl (tz _) rfl)
set_option maxRecDepth 8000 in
theorem HM(f:Nat→Bool)(x:UInt8):ad Tryz.prog 192 [.vptr (ee f),.int .u8 x.toNat] (.ret (.bool (f x.toNat))):=by
 refine ad.of Tryz.func192 rfl (ab enters Tryz.func192 rfl) (by simp[Tryz.ntmps192]) ?_;show W Tryz.prog 10 0 none _ _ _;refine .vc (by decide) ?_;have hlt:=x.toNat_lt;have h1:ak Tryz.prog 216 (.vptr (ee f)) (.int .u8 (x.toNat:Int)) []=some (.vptr ((ee f).drop x.toNat)):=by
  simp[ak,bt,Tryz.underlying216,tz4,hlt]
 have h2:(ee f).drop x.toNat=.bool (f x.toNat)::(ee f).drop (x.toNat+1):=by
  rw[List.drop_eq_getElem_cons (by rw[dn];exact hlt)];have:=kU f x.toNat hlt;rw[List.getElem?_eq_getElem (by rw[dn];exact hlt)]at this;rw[Option.some.inj this]
 repeat'(first|(simp(disch:=first|omega|(simp only[zL];omega))only[go_sem,seval,h1,h2]))
 exact⟨_,rfl,_,rfl,.refl _⟩
theorem EA(cs:Bytes)(x:UInt8):inC cs x.toNat=decide (x∈cs):=by
 simp only[inC];rw[Bool.eq_iff_iff];simp only[List.any_eq_true,beq_iff_eq,decide_eq_true_eq];constructor
 ·rintro⟨b,hb,he⟩
  have:b=x:=UInt8.toNat_inj.1 he;exact this ▸ hb
 ·exact fun h=>⟨x,h,rfl⟩
set_option maxRecDepth 8000 in
theorem Bt(s cs:Bytes)(hcs:∀b∈cs,b.toNat<128)(h2:2≤cs.length)(h8:8<s.length):ad Tryz.prog 165 [.str s,.str cs] (.ret (.int .i64 (eE s cs))):=by
 refine ad.fit fun hfit=>?_;have hL:s.length≤9223372036854775807:=hfit (.str s) (by simp);refine ad.of Tryz.func165 rfl (ab enters Tryz.func165 rfl) (by simp[Tryz.ntmps165]) ?_;show W Tryz.prog 55 0 none _ _ _;refine .vc (by decide) ?_;have e0:(cs==[])=false:=by cases cs with|nil=>simp at h2|cons _ _=>rfl
 have x0:({data:=#[]}:ByteArray).size≤ay:=by decide
 have hsh:=xj (s.length:Int);rw[decide_eq_true (show((s.length:Int)>8) by omega)]at hsh;have hzs:=Ke
 repeat'(first|(simp(disch:=first|omega|(simp only[zL];omega))only[go_sem,seval,x0,e0,hzs,F8])|((with_reducible first|apply aj.pure|apply ar.pure);(with_reducible first|exact hsh|exact Ez _ hcs);(first|rfl|simp only[go_sem])))
 refine W.bc (X:=Nat) (fun i=>[(8,.int .i64 (i:Int)),(6,.ptr 0 0),(0,.str s)]) (fun i=>[.cells (ee (inC cs)) false]) (fun i=>i≤s.length∧i+aX cs (s.drop i)=aX cs s) (fun i=>s.length - i) 0 ⟨Nat.zero_le _,by simp⟩
  (by simp[aC,Av.get]) rfl ?_
 rintro i ⟨hi,hall⟩;refine W.vc (by decide) ?_;by_cases h:i<s.length
 ·obtain⟨x,hx,hdrop⟩:=drop_at h
  have hhas:=HM (inC cs) x;rw[EA]at hhas;have hln:aG [.cells (ee (inC cs)) false] [.ptr 0 0,.int .u8 (x.toNat:Int)] (.ret (.bool (decide (x∈cs))))=some [.vptr (ee (inC cs)),.int .u8 (x.toNat:Int)]:=yu (off:=0) rfl (Nat.zero_le _) (tz _) rfl rfl;rw[hdrop,aX]at hall;by_cases hm:x∈cs
  ·rw[decide_eq_true hm]at hhas hln
   rw[if_pos hm]at hall
   repeat'(first|(simp(disch:=first|omega|(simp only[zL];omega))only[go_sem,seval,ix9 _ _ _ hx])|(guard_target=~ aj _ _ _ _ _ _ _;refine aj.aG _ hhas hln ?_))
   have:eE s cs=(i:Int):=by unfold eE;rw[if_pos (by omega)];omega
   rw[this];exact⟨_,rfl,_,rfl,.refl _⟩
  ·rw[decide_eq_false hm]at hhas hln
   rw[if_neg hm]at hall
   repeat'(first|(simp(disch:=first|omega|(simp only[zL];omega))only[go_sem,seval,ix9 _ _ _ hx])|(guard_target=~ aj _ _ _ _ _ _ _;refine aj.aG _ hhas hln ?_))
   exact⟨i+1,⟨by omega,by omega⟩,by omega,⟨rfl,rfl,rfl,trivial⟩⟩
 ·have hi':i=s.length:=by omega
  subst hi'
  repeat'(first|(simp(disch:=first|omega|(simp only[zL];omega))only[go_sem,seval]))
  have:eE s cs= -1:=by
   rw[List.drop_length]at hall;simp only[aX]at hall;unfold eE;rw[if_neg (by omega)]
  rw[this];exact⟨_,rfl,_,rfl,.refl _⟩
theorem xk(s cs:Bytes)(hcs:∀b∈cs,b.toNat<128)(h2:2≤cs.length)(hl:cs.length≤1000):ad Tryz.prog 165 [.str s,.str cs] (.ret (.int .i64 (eE s cs))):=by
 rcases Nat.lt_or_ge 8 s.length with h|h
 ·exact Bt s cs hcs h2 h
 ·exact yG s cs hcs h2 hl h
theorem containsAny(s cs:Bytes)(hcs:∀b∈cs,b.toNat<128)(h2:2≤cs.length)(hl:cs.length≤1000):ad Tryz.prog 173 [.str s,.str cs] (.ret (.bool (decide (eE s cs≥0)))):=by
 refine ad.of Tryz.func173 rfl (ab enters Tryz.func173 rfl) (by simp[Tryz.ntmps173]) ?_;show W Tryz.prog 9 0 none _ _ _;refine W.vc (by decide) ?_
 repeat'(first|(simp(disch:=first|omega|(simp only[List.length_append,List.length_cons,List.length_nil,List.length_map,List.length_set];omega))only[Aw,Ay,pZ,AB,ta,wN,VS,te,wO,ae,aa,ah,an,evalOp,AF,tf,wQ,Av.get,St.put,aL,ai,Nat.reduceEqDiff,↓reduceIte,List.map_cons,List.map_nil,List.nil_append,List.append_nil,Nat.zero_add,cB])|((with_reducible first|apply aj.pure|apply ar.pure);(with_reducible exact xk _ _ hcs h2 hl);(first|rfl|simp only[go_sem])))
 exact⟨_,rfl,_,rfl,.refl _⟩
def dx(s:Bytes):Bool:=s.any fun b=>b==58||b==59||b==44
theorem tD(cs:Bytes):∀s:Bytes,decide (aX cs s<s.length)=s.any fun b=>decide (b∈cs)
 | []=>by simp[aX]
 |x::t=>by
  rw[List.any_cons,←tD cs t,aX];by_cases h:x∈cs
  ·simp[h]
  ·simp[h]
theorem EB(s:Bytes):ad Tryz.prog 139 [.str s] (.ret (.bool (dx s))):=by
 refine ad.of Tryz.func139 rfl (ab enters Tryz.func139 rfl) (by simp[Tryz.ntmps139]) ?_;show W Tryz.prog 5 0 none _ _ _;refine W.vc (by decide) ?_;have x0:({data:=#[58,59,44]}:ByteArray).size≤ay:=by decide
 have hq:decide (eE s [58,59,44]≥0)=dx s:=by
  have:decide (eE s [58,59,44]≥0)=decide (aX [58,59,44] s<s.length):=by
   unfold eE;split
   ·rename_i h;simp[h]
   ·rename_i h;simp[h]
  rw[this,tD];unfold dx;congr 1;funext b;rw[Bool.eq_iff_iff];simp[or_assoc]
 have hc:=containsAny s [58,59,44] (by decide) (by decide) (by decide);rw[hq]at hc
 repeat'(first|(simp(disch:=first|omega|(simp only[zL];omega))only[go_sem,seval,x0])|((with_reducible first|apply aj.pure|apply ar.pure);(with_reducible exact hc);(first|rfl|simp only[go_sem])))
 exact⟨_,rfl,_,rfl,.refl _⟩
end Go.Proofs.YtekcidbpejicdaaGreatDoor
namespace Go.Proofs
set_option linter.unusedVariables false
set_option linter.unusedSimpArgs false
open Go.Shelf
open Go.Shelf
def Tryz.mD:Go.Shelf.Ren:=⟨fun|158=>172|165=>108|166=>109|167=>196|169=>110|230=>197|203=>198|240=>144|241=>145|197=>213|118=>214|168=>215|270=>216|262=>217|276=>177|277=>178|260=>226|242=>227|313=>228|278=>241|274=>242|275=>243|n=>n,fun|9=>9|4=>4|3=>3|5=>5|72=>134|0=>0|76=>138|75=>137|107=>222|70=>132|20=>20|37=>108|127=>179|21=>21|105=>243|164=>203|162=>266|203=>264|119=>230|46=>148|139=>280|138=>279|51=>165|160=>281|208=>290|206=>288|80=>140|n=>n,fun|13=>1|3=>2|4=>3|n=>n⟩
theorem Tryz.EC:Go.Proofs.Lays.n158 Tryz.prog Tryz.mD:={
 mixed:=by kernel_rfl
 f118:=Tryz.func214.trans (congrArg some (by kernel_rfl))
 f158:=Tryz.func172.trans (congrArg some (by kernel_rfl))
 f165:=Tryz.func108.trans (congrArg some (by kernel_rfl))
 f166:=Tryz.func109.trans (congrArg some (by kernel_rfl))
 f167:=Tryz.func196.trans (congrArg some (by kernel_rfl))
 f168:=Tryz.func215.trans (congrArg some (by kernel_rfl))
 f169:=Tryz.func110.trans (congrArg some (by kernel_rfl))
 f197:=Tryz.func213.trans (congrArg some (by kernel_rfl))
 f203:=Tryz.func198.trans (congrArg some (by kernel_rfl))
 f230:=Tryz.func197.trans (congrArg some (by kernel_rfl))
 f240:=Tryz.func144.trans (congrArg some (by kernel_rfl))
 f241:=Tryz.func145.trans (congrArg some (by kernel_rfl))
 f242:=Tryz.func227.trans (congrArg some (by kernel_rfl))
 f260:=Tryz.func226.trans (congrArg some (by kernel_rfl))
 f262:=Tryz.func217.trans (congrArg some (by kernel_rfl))
 f270:=Tryz.func216.trans (congrArg some (by kernel_rfl))
 f274:=Tryz.func242.trans (congrArg some (by kernel_rfl))
 f275:=Tryz.func243.trans (congrArg some (by kernel_rfl))
 f276:=Tryz.func177.trans (congrArg some (by kernel_rfl))
 f277:=Tryz.func178.trans (congrArg some (by kernel_rfl))
 f278:=Tryz.func241.trans (congrArg some (by kernel_rfl))
 f313:=Tryz.func228.trans (congrArg some (by kernel_rfl))
 t0:=Tryz.underlying0
 a0:=Tryz.isAgg0
 z0:=Tryz.sizeOf0
 v0:=Tryz.zeroValue0
 t3:=Tryz.underlying3
 a3:=Tryz.isAgg3
 z3:=Tryz.sizeOf3
 v3:=Tryz.zeroValue3
 t4:=Tryz.underlying4
 a4:=Tryz.isAgg4
 z4:=Tryz.sizeOf4
 v4:=Tryz.zeroValue4
 t5:=Tryz.underlying5
 a5:=Tryz.isAgg5
 z5:=Tryz.sizeOf5
 v5:=Tryz.zeroValue5
 t9:=Tryz.underlying9
 a9:=Tryz.isAgg9
 z9:=Tryz.sizeOf9
 v9:=Tryz.zeroValue9
 t20:=Tryz.underlying20
 a20:=Tryz.isAgg20
 z20:=Tryz.sizeOf20
 v20:=Tryz.zeroValue20
 t21:=Tryz.underlying21
 a21:=Tryz.isAgg21
 z21:=Tryz.sizeOf21
 v21:=Tryz.zeroValue21
 t37:=Tryz.underlying108
 a37:=Tryz.isAgg108
 z37:=Tryz.sizeOf108
 v37:=Tryz.zeroValue108
 t46:=Tryz.underlying148
 a46:=Tryz.isAgg148
 z46:=Tryz.sizeOf148
 v46:=Tryz.zeroValue148
 t51:=Tryz.underlying165
 a51:=Tryz.isAgg165
 z51:=Tryz.sizeOf165
 v51:=Tryz.zeroValue165
 t70:=Tryz.underlying132
 a70:=Tryz.isAgg132
 z70:=Tryz.sizeOf132
 v70:=Tryz.zeroValue132
 t72:=Tryz.underlying134
 a72:=Tryz.isAgg134
 z72:=Tryz.sizeOf134
 v72:=Tryz.zeroValue134
 t75:=Tryz.underlying137
 a75:=Tryz.isAgg137
 z75:=Tryz.sizeOf137
 v75:=Tryz.zeroValue137
 t76:=Tryz.underlying138
 a76:=Tryz.isAgg138
 z76:=Tryz.sizeOf138
 v76:=Tryz.zeroValue138
 t105:=Tryz.underlying243
 a105:=Tryz.isAgg243
 z105:=Tryz.sizeOf243
 v105:=Tryz.zeroValue243
 t107:=Tryz.underlying222
 a107:=Tryz.isAgg222
 z107:=Tryz.sizeOf222
 v107:=Tryz.zeroValue222
 t119:=Tryz.underlying230
 a119:=Tryz.isAgg230
 z119:=Tryz.sizeOf230
 t127:=Tryz.underlying179
 a127:=Tryz.isAgg179
 z127:=Tryz.sizeOf179
 v127:=Tryz.zeroValue179
 t138:=Tryz.underlying279
 a138:=Tryz.isAgg279
 z138:=Tryz.sizeOf279
 v138:=Tryz.zeroValue279
 t139:=Tryz.underlying280
 a139:=Tryz.isAgg280
 z139:=Tryz.sizeOf280
 v139:=Tryz.zeroValue280
 t160:=Tryz.underlying281
 a160:=Tryz.isAgg281
 z160:=Tryz.sizeOf281
 v160:=Tryz.zeroValue281
 t162:=Tryz.underlying266
 a162:=Tryz.isAgg266
 z162:=Tryz.sizeOf266
 v162:=Tryz.zeroValue266
 t164:=Tryz.underlying203
 a164:=Tryz.isAgg203
 z164:=Tryz.sizeOf203
 v164:=Tryz.zeroValue203
 t203:=Tryz.underlying264
 a203:=Tryz.isAgg264
 z203:=Tryz.sizeOf264
 v203:=Tryz.zeroValue264
 t206:=Tryz.underlying288
 a206:=Tryz.isAgg288
 z206:=Tryz.sizeOf288
 v206:=Tryz.zeroValue288
 t208:=Tryz.underlying290
 a208:=Tryz.isAgg290
 z208:=Tryz.sizeOf290
 v208:=Tryz.zeroValue290
 g3:=by kernel_rfl
 g4:=by kernel_rfl
 g13:=by kernel_rfl}
theorem Tryz.kV:Builder.Extra Tryz.prog Tryz.mD:={
 sizeBuilder:=by kernel_rfl
 liesBuilder:=by kernel_rfl
 t5:=Tryz.underlying5
 a5:=Tryz.isAgg5
 z5:=Tryz.sizeOf5
 v5:=Tryz.zeroValue5
 infoByte:=by kernel_rfl
 cellsByte:=by kernel_rfl
 sizeByte:=by kernel_rfl
 neB5:=by decide}
open Go.RowKit in
theorem Tryz.strings_ToUpper_ascii(s:ByteArray)(w:World)(hs:s.size≤140737488355328)(hascii: ∀(j:Nat) (b:UInt8),s.data.toList[j]? =some b→b.toNat<128):
    Calls Tryz.prog 172 #[.string s] w fun e w'=>e=.returned (.string ⟨(Lib.toUpperA s.data.toList).toArray⟩)∧Below w.heap.size w w':=Any.strings_ToUpper_ascii Tryz.EC Tryz.kV s w hs hascii
def Tryz.mE:Go.Shelf.Ren:=⟨fun|156=>62|165=>108|166=>109|169=>110|240=>144|241=>145|276=>177|277=>178|n=>n,fun|31=>25|9=>9|3=>3|4=>4|0=>0|20=>20|72=>134|76=>138|70=>132|37=>108|75=>137|127=>179|164=>203|5=>5|80=>140|n=>n,fun|n=>n⟩
theorem Tryz.xl:Go.Proofs.Lays.n156 Tryz.prog Tryz.mE:={
 mixed:=by kernel_rfl
 f156:=Tryz.func62.trans (congrArg some (by kernel_rfl))
 f165:=Tryz.func108.trans (congrArg some (by kernel_rfl))
 f166:=Tryz.func109.trans (congrArg some (by kernel_rfl))
 f169:=Tryz.func110.trans (congrArg some (by kernel_rfl))
 f240:=Tryz.func144.trans (congrArg some (by kernel_rfl))
 f241:=Tryz.func145.trans (congrArg some (by kernel_rfl))
 f276:=Tryz.func177.trans (congrArg some (by kernel_rfl))
 f277:=Tryz.func178.trans (congrArg some (by kernel_rfl))
 t0:=Tryz.underlying0
 a0:=Tryz.isAgg0
 z0:=Tryz.sizeOf0
 v0:=Tryz.zeroValue0
 t3:=Tryz.underlying3
 a3:=Tryz.isAgg3
 z3:=Tryz.sizeOf3
 v3:=Tryz.zeroValue3
 t4:=Tryz.underlying4
 a4:=Tryz.isAgg4
 z4:=Tryz.sizeOf4
 v4:=Tryz.zeroValue4
 t9:=Tryz.underlying9
 a9:=Tryz.isAgg9
 z9:=Tryz.sizeOf9
 v9:=Tryz.zeroValue9
 t20:=Tryz.underlying20
 a20:=Tryz.isAgg20
 z20:=Tryz.sizeOf20
 v20:=Tryz.zeroValue20
 t31:=Tryz.underlying25
 a31:=Tryz.isAgg25
 z31:=Tryz.sizeOf25
 v31:=Tryz.zeroValue25
 t37:=Tryz.underlying108
 a37:=Tryz.isAgg108
 z37:=Tryz.sizeOf108
 v37:=Tryz.zeroValue108
 t70:=Tryz.underlying132
 a70:=Tryz.isAgg132
 z70:=Tryz.sizeOf132
 v70:=Tryz.zeroValue132
 t72:=Tryz.underlying134
 a72:=Tryz.isAgg134
 z72:=Tryz.sizeOf134
 v72:=Tryz.zeroValue134
 t75:=Tryz.underlying137
 a75:=Tryz.isAgg137
 z75:=Tryz.sizeOf137
 v75:=Tryz.zeroValue137
 t76:=Tryz.underlying138
 a76:=Tryz.isAgg138
 z76:=Tryz.sizeOf138
 v76:=Tryz.zeroValue138
 t127:=Tryz.underlying179
 a127:=Tryz.isAgg179
 z127:=Tryz.sizeOf179
 v127:=Tryz.zeroValue179
 t164:=Tryz.underlying203
 a164:=Tryz.isAgg203
 z164:=Tryz.sizeOf203
 v164:=Tryz.zeroValue203}
theorem Tryz.gq:Builder.Extra Tryz.prog Tryz.mE:={
 sizeBuilder:=by kernel_rfl
 liesBuilder:=by kernel_rfl
 t5:=Tryz.underlying5
 a5:=Tryz.isAgg5
 z5:=Tryz.sizeOf5
 v5:=Tryz.zeroValue5
 infoByte:=by kernel_rfl
 cellsByte:=by kernel_rfl
 sizeByte:=by kernel_rfl
 neB5:=by decide}
open Go.RowKit in
theorem Tryz.strings_Join_none(a:Option Addr)(c:Nat)(sep:ByteArray)(w:World):
    Calls Tryz.prog 62 #[.slice a 0 c,.string sep] w fun e w'=>e=.returned (.string ⟨#[]⟩)∧w'=w:=Any.strings_Join_none Tryz.xl Tryz.gq a c sep w
open Go.RowKit in
theorem Tryz.strings_Join(bk o c:Nat)(xs:List ByteArray)(sep:ByteArray)(w:World)(hcells:∀(j:Nat) x,xs[j]? =some x→w.cell? ⟨bk,o+j,none⟩=some (.string x))(hbk:bk<w.heap.size)(hN:xs.length≤140737488355328)(hcap:xs.length≤c)(hlen:(Lib.join (xs.map (·.data.toList)) sep.data.toList).length≤140737488355328):
  Calls Tryz.prog 62 #[.slice (some ⟨bk,o,none⟩) xs.length c,.string sep] w fun e w'=>e=.returned (.string ⟨(Lib.join (xs.map (·.data.toList)) sep.data.toList).toArray⟩)∧Below w.heap.size w w':=Any.strings_Join Tryz.xl Tryz.gq bk o c xs sep w hcells hbk hN hcap hlen
def Tryz.tE:Go.Shelf.Ren:=⟨fun|138=>279|195=>280|218=>281|143=>282|219=>206|217=>224|225=>211|224=>210|267=>225|266=>239|314=>240|n=>n,fun|9=>9|3=>3|4=>4|5=>5|0=>0|46=>148|146=>276|51=>165|n=>n,fun|1=>0|n=>n⟩
theorem Tryz.ED:Go.Proofs.Lays.n138 Tryz.prog Tryz.tE:={
 mixed:=by kernel_rfl
 f138:=Tryz.func279.trans (congrArg some (by kernel_rfl))
 f143:=Tryz.func282.trans (congrArg some (by kernel_rfl))
 f195:=Tryz.func280.trans (congrArg some (by kernel_rfl))
 f217:=Tryz.func224.trans (congrArg some (by kernel_rfl))
 f218:=Tryz.func281.trans (congrArg some (by kernel_rfl))
 f219:=Tryz.func206.trans (congrArg some (by kernel_rfl))
 f224:=Tryz.func210.trans (congrArg some (by kernel_rfl))
 f225:=Tryz.func211.trans (congrArg some (by kernel_rfl))
 f266:=Tryz.func239.trans (congrArg some (by kernel_rfl))
 f267:=Tryz.func225.trans (congrArg some (by kernel_rfl))
 f314:=Tryz.func240.trans (congrArg some (by kernel_rfl))
 t0:=Tryz.underlying0
 a0:=Tryz.isAgg0
 z0:=Tryz.sizeOf0
 v0:=Tryz.zeroValue0
 t3:=Tryz.underlying3
 a3:=Tryz.isAgg3
 z3:=Tryz.sizeOf3
 v3:=Tryz.zeroValue3
 t4:=Tryz.underlying4
 a4:=Tryz.isAgg4
 z4:=Tryz.sizeOf4
 v4:=Tryz.zeroValue4
 t5:=Tryz.underlying5
 a5:=Tryz.isAgg5
 z5:=Tryz.sizeOf5
 v5:=Tryz.zeroValue5
 t9:=Tryz.underlying9
 a9:=Tryz.isAgg9
 z9:=Tryz.sizeOf9
 v9:=Tryz.zeroValue9
 t46:=Tryz.underlying148
 a46:=Tryz.isAgg148
 z46:=Tryz.sizeOf148
 v46:=Tryz.zeroValue148
 t51:=Tryz.underlying165
 a51:=Tryz.isAgg165
 z51:=Tryz.sizeOf165
 v51:=Tryz.zeroValue165
 t146:=Tryz.underlying276
 a146:=Tryz.isAgg276
 z146:=Tryz.sizeOf276
 v146:=Tryz.zeroValue276
 g1:=by kernel_rfl}
open Go.RowKit Go.Lib in
theorem Tryz.strings_Count_one(s:ByteArray)(c:UInt8)(w:World):
    Calls Tryz.prog 279 #[.string s,.string ⟨#[c]⟩] w fun e w'=>e=.returned (.int .i64 (Lib.countByte s.data.toList c))∧w'=w:=Any.strings_Count_one Tryz.ED s c w
def Tryz.tF:Go.Shelf.Ren:=⟨fun|190=>73|125=>122|258=>121|128=>157|129=>158|302=>148|303=>149|304=>150|305=>151|306=>152|307=>153|308=>154|309=>155|310=>156|333=>179|329=>180|330=>181|334=>182|335=>183|336=>184|344=>205|n=>n,fun|31=>25|9=>9|3=>3|46=>148|0=>0|51=>165|53=>190|4=>4|183=>182|182=>181|131=>186|5=>5|218=>206|222=>210|228=>237|229=>238|n=>n,fun|n=>n⟩
theorem Tryz.EE:Go.Proofs.Lays.n190 Tryz.prog Tryz.tF:={
 mixed:=by kernel_rfl
 f125:=Tryz.func122.trans (congrArg some (by kernel_rfl))
 f128:=Tryz.func157.trans (congrArg some (by kernel_rfl))
 f129:=Tryz.func158.trans (congrArg some (by kernel_rfl))
 f190:=Tryz.func73.trans (congrArg some (by kernel_rfl))
 f258:=Tryz.func121.trans (congrArg some (by kernel_rfl))
 f302:=Tryz.func148.trans (congrArg some (by kernel_rfl))
 f303:=Tryz.func149.trans (congrArg some (by kernel_rfl))
 f304:=Tryz.func150.trans (congrArg some (by kernel_rfl))
 f305:=Tryz.func151.trans (congrArg some (by kernel_rfl))
 f306:=Tryz.func152.trans (congrArg some (by kernel_rfl))
 f307:=Tryz.func153.trans (congrArg some (by kernel_rfl))
 f308:=Tryz.func154.trans (congrArg some (by kernel_rfl))
 f309:=Tryz.func155.trans (congrArg some (by kernel_rfl))
 f310:=Tryz.func156.trans (congrArg some (by kernel_rfl))
 f329:=Tryz.func180.trans (congrArg some (by kernel_rfl))
 f330:=Tryz.func181.trans (congrArg some (by kernel_rfl))
 f333:=Tryz.func179.trans (congrArg some (by kernel_rfl))
 f334:=Tryz.func182.trans (congrArg some (by kernel_rfl))
 f335:=Tryz.func183.trans (congrArg some (by kernel_rfl))
 f336:=Tryz.func184.trans (congrArg some (by kernel_rfl))
 f344:=Tryz.func205.trans (congrArg some (by kernel_rfl))
 t0:=Tryz.underlying0
 a0:=Tryz.isAgg0
 z0:=Tryz.sizeOf0
 v0:=Tryz.zeroValue0
 t3:=Tryz.underlying3
 a3:=Tryz.isAgg3
 z3:=Tryz.sizeOf3
 v3:=Tryz.zeroValue3
 t4:=Tryz.underlying4
 a4:=Tryz.isAgg4
 z4:=Tryz.sizeOf4
 v4:=Tryz.zeroValue4
 t5:=Tryz.underlying5
 a5:=Tryz.isAgg5
 z5:=Tryz.sizeOf5
 v5:=Tryz.zeroValue5
 t9:=Tryz.underlying9
 a9:=Tryz.isAgg9
 z9:=Tryz.sizeOf9
 v9:=Tryz.zeroValue9
 t31:=Tryz.underlying25
 a31:=Tryz.isAgg25
 z31:=Tryz.sizeOf25
 v31:=Tryz.zeroValue25
 t46:=Tryz.underlying148
 a46:=Tryz.isAgg148
 z46:=Tryz.sizeOf148
 v46:=Tryz.zeroValue148
 t51:=Tryz.underlying165
 a51:=Tryz.isAgg165
 z51:=Tryz.sizeOf165
 v51:=Tryz.zeroValue165
 t53:=Tryz.underlying190
 a53:=Tryz.isAgg190
 z53:=Tryz.sizeOf190
 v53:=Tryz.zeroValue190
 t131:=Tryz.underlying186
 a131:=Tryz.isAgg186
 z131:=Tryz.sizeOf186
 v131:=Tryz.zeroValue186
 t182:=Tryz.underlying181
 a182:=Tryz.isAgg181
 z182:=Tryz.sizeOf181
 v182:=Tryz.zeroValue181
 t183:=Tryz.underlying182
 a183:=Tryz.isAgg182
 z183:=Tryz.sizeOf182
 v183:=Tryz.zeroValue182
 t218:=Tryz.underlying206
 a218:=Tryz.isAgg206
 z218:=Tryz.sizeOf206
 v218:=Tryz.zeroValue206
 t222:=Tryz.underlying210
 a222:=Tryz.isAgg210
 z222:=Tryz.sizeOf210
 v222:=Tryz.zeroValue210
 t228:=Tryz.underlying237
 a228:=Tryz.isAgg237
 z228:=Tryz.sizeOf237
 v228:=Tryz.zeroValue237
 t229:=Tryz.underlying238
 a229:=Tryz.isAgg238
 z229:=Tryz.sizeOf238
 v229:=Tryz.zeroValue238}
open Go.Sort Go.RowKit in
theorem Tryz.slices_Sort_string(blk off cap:Nat)(ss:List (List UInt8))(w:World)(hH:Holds encStr w blk off ss.toArray)(hblk:blk<w.heap.size)(hsz:ss.length<4611686018427387904):
    Calls Tryz.prog 73 #[.slice (some ⟨blk,off,none⟩) ss.length cap] w fun e w'=>
      e=.returned (.tuple #[])∧ ∃n os,w'=grow (putRow encStr (Sort.ahead w n) blk off (ss.mergeSort fun x y=>decide (x≤y)).toArray) os:=Any.slices_Sort_string Tryz.EE blk off cap ss w hH hblk hsz
end Go.Proofs
namespace Go.Proofs.YtekcidbpejicdaaGreatDoor
set_option linter.unusedVariables false
set_option linter.unusedSimpArgs false
open Go Go.Av Go.RowKit
theorem iQ(p:UInt8→Bool)(h:(List.range 256).all (fun n=>p (UInt8.ofNat n))=true)(x:UInt8):p x=true:=by
 have:=List.all_eq_true.1 h x.toNat (List.mem_range.2 x.toNat_lt);simpa using this
def up(x:UInt8):UInt8:=if 97≤x∧x≤122 then x - 32 else x
def ef(s:Bytes):Bytes:=s.map up
def eY(s:Bytes):Bool:=s.all fun b=>decide (b.toNat<128)
theorem ch(s:Bytes):(ef s).length=s.length:=by simp[ef]
theorem HN(x:UInt8):Lib.upperB (low x)=up x:=by
 have:=iQ (fun x=>Lib.upperB (low x)==up x) (by decide+kernel) x;simpa using this
theorem Bu(x:UInt8):(low x).toNat<128↔x.toNat<128:=by
 have:=iQ (fun x=>decide ((low x).toNat<128)==decide (x.toNat<128)) (by decide+kernel) x;simpa using this
theorem HO(s:Bytes)(hs:s.length≤1000000)(ha:eY s=true):ad Tryz.prog 172 [.str s] (.ret (.str (Lib.toUpperA s))):=by
 refine ad.wP enters Tryz.func172 rfl vg (fun w=>Tryz.strings_ToUpper_ascii ⟨s.toArray⟩ w (by show s.toArray.size≤_;simp;omega) ?_) ?_
 ·intro j b hb
  simp only[eY,List.all_eq_true,decide_eq_true_eq]at ha;exact ha b (List.mem_of_getElem? (by simpa using hb))
 ·intro F w
  exact .str _ (by simp[Lib.toUpperA,ay];omega)
theorem vC(s:Bytes)(hs:s.length≤1000000)(ha:eY s=true):ad Tryz.prog 138 [.str s] (.ret (.str (ef s))):=by
 refine ad.of Tryz.func138 rfl (ab enters Tryz.func138 rfl) (by simp[Tryz.ntmps138]) ?_;show W Tryz.prog 6 0 none _ _ _;refine W.vc (by decide) ?_;have hl:(small s).length=s.length:=by simp[small]
 have ha2:eY (small s)=true:=by
  simp only[eY,small,List.all_map,List.all_eq_true,Function.comp,decide_eq_true_eq]at ha ⊢;exact fun x hx=>(Bu x).2 (ha x hx)
 have he:Lib.toUpperA (small s)=ef s:=by
  simp only[Lib.toUpperA,small,ef,List.map_map];congr 1;funext x;exact HN x
 have hu:=HO (small s) (by omega) ha2;rw[he]at hu
 repeat'(first|(simp(disch:=first|omega|(simp only[zL];omega))only[go_sem,seval])|((with_reducible first|apply aj.pure|apply ar.pure);(with_reducible first|exact ic _|exact hu);(first|rfl|simp only[go_sem])))
 exact⟨_,rfl,_,rfl,.refl _⟩
/-! ### A line's text -/
def qv(v:Bytes):Bytes:=if dx v then [34]++v++[34]else v
def ou(p:Bytes×Bytes):Bytes:=[59]++ef p.1++[61]++qv p.2
def dM(ps:List (Bytes×Bytes)):Bytes:=(ps.map ou).flatten
def fR(l:Ln):Bytes:=if l.g=[]then ef l.n else ef l.g++[46]++ef l.n
def told(l:Ln):Bytes:=fR l++dM l.ps++[58]++l.v
theorem vD(ps:List (Bytes×Bytes))(p:Bytes×Bytes):dM (ps++[p])=dM ps++ou p:=by simp[dM]
theorem fS{ps:List (Bytes×Bytes)}{i:Nat}{p:Bytes×Bytes}(h:ps[i]? =some p):dM (ps.take (i+1))=dM (ps.take i)++ou p:=by
 rw[List.take_add_one,h];exact vD _ _
theorem oz:∀(ps:List (Bytes×Bytes)) (i:Nat),(dM (ps.take i)).length≤(dM ps).length
 | [],i=>by simp
 |x::l,0=>by simp[dM]
 |x::l,i+1=>by
  have:=oz l i;simp only[dM,List.take_succ_cons,List.map_cons,List.flatten_cons,List.length_append]at this ⊢;omega
def lX(l:Ln):Bool:=eY l.g&&eY l.n&&l.ps.all (fun p=>eY p.1)&&decide ((told l).length≤1000000)
theorem Bv(v:Bytes):v.length≤(qv v).length:=by unfold qv;split<;>simp<;>omega
set_option maxRecDepth 8000 in
theorem Kg(l:Ln)(hp:lX l=true):ad Tryz.prog 96 [aw l] (.ret (.str (told l))):=by
 obtain⟨g,n,x,ps,v⟩:=l;simp only[lX,Bool.and_eq_true,decide_eq_true_eq]at hp;obtain⟨⟨⟨h1,h2⟩,h3⟩,h4⟩:=hp;rw[List.all_eq_true]at h3;simp only[told,List.length_append,List.length_cons,List.length_nil]at h4;have hgl:g.length+n.length≤1000000:=by
  have:(fR ⟨g,n,x,ps,v⟩).length≥g.length+n.length:=by unfold fR;simp only;split<;>simp_all[ch]
  omega
 have hps:ps.length≤ay:=by
  have:∀ps:List (Bytes×Bytes),ps.length≤(dM ps).length:=by
   intro ps;induction ps with
   |nil=>simp
   |cons a ps ih=>simp only[dM,List.map_cons,List.flatten_cons,List.length_append,List.length_cons,ou,List.length_nil]at ih ⊢;omega
  have:=this ps;simp only[ay];omega
 refine ad.of Tryz.func96 rfl (ab enters Tryz.func96 rfl) (by simp[Tryz.ntmps96]) ?_;show W Tryz.prog 48 0 none _ _ _;simp only[aw];have hg:=vC g (by omega) h1;have hn:=vC n (by omega) h2;have hia:∀(i:Nat) (u:Bytes×Bytes) (H:List OB),ps[i]? =some u→ak Tryz.prog 44 (.vsl 3 x (ps.map aD)) (.int .i64 (i:Int)) H=some (.vptr [.str u.1,.str u.2]):=by
  intro i u H hu;exact Ho (v:=aD u) (by simp[hu]) rfl H
 refine .seq (.vc (by decide) ?_)
 repeat'(first|(simp(disch:=first|omega|(simp only[zL];omega))only[go_sem,seval]))
 refine .seq (.vc (by decide) ?_)
 repeat'(first|(simp(disch:=first|omega|(simp only[zL];omega))only[go_sem,seval])|((with_reducible first|apply aj.pure|apply ar.pure);(with_reducible assumption);(first|rfl|simp only[go_sem])))
 refine W.gX [(1,.ptr 0 0),(3,.str (fR ⟨g,n,x,ps,v⟩))] [.cells [.str g,.str n,.vsl 3 x (ps.map aD),.str v] false] (.vc (by decide) ?_) ?_
 ·have:=ch g;have:=ch n
  by_cases h0:g=[]
  ·have e0:(g==[])=true:=by simp[h0]
   repeat'(first|(simp(disch:=first|omega|(simp only[zL];omega))only[go_sem,seval,e0]))
   refine⟨rfl,?_,trivial⟩;simp[Av.get,fR,h0]
  ·have e0:(g==[])=false:=by simp[h0]
   repeat'(first|(simp(disch:=first|omega|(simp only[zL];omega))only[go_sem,seval,e0])|((with_reducible first|apply aj.pure|apply ar.pure);(with_reducible exact hg);(first|rfl|simp only[go_sem])))
   refine⟨rfl,?_,trivial⟩;simp[Av.get,fR,h0]
 refine .vc (by decide) ?_
 repeat'(first|(simp(disch:=first|omega|(simp only[zL];omega))only[go_sem,seval]))
 refine W.G4 22 21 23 42 ps.length hps rfl rfl rfl rfl rfl rfl rfl rfl rfl (by decide) (by decide) (by decide)
  (fun i=>[(20,.vsl 3 x (ps.map aD)),(3,.str (fR ⟨g,n,x,ps,v⟩++dM (ps.take i))),(1,.ptr 0 0)]) (fun _=>rfl) (fun _=>[.cells [.str g,.str n,.vsl 3 x (ps.map aD),.str v] false]) (fun _=>Nat.zero_le _) (fun i=>True) rfl trivial ?_ ?_ (dr (by simp[OB.hlt,AV.bf,AV.hlt,eP])) ?_ ?_
 ·simp only[List.take_zero,dM,List.map_nil,List.flatten_nil,List.append_nil]
  simp only[bz,Av.get,Nat.reduceEqDiff,↓reduceIte,bg,dk,dm,and_self,List.length_map]
 ·intro i _
  simp only[cm,AV.hlt,AV.bf,bH,Bool.and_self,Bool.and_true,Bool.true_and,eP];rfl
 ·intro i hi _
  obtain⟨u,hu,hdrop⟩:=drop_at hi;have hle:=oz ps (i+1);rw[fS hu]at hle;simp only[List.length_append,ou,List.length_cons,List.length_nil,ch]at hle;have hql:=Bv u.2;have hmu:u∈ps:=List.mem_of_getElem? hu;have hgu:=vC u.1 (by omega) (h3 u hmu);have hqu:=EB u.2;have hgl:=ch u.1;refine .vc (by decide) ?_;by_cases hq:dx u.2=true
  ·rw[hq]at hqu
   have hqq:qv u.2=[34]++u.2++[34]:=by simp[qv,hq]
   repeat'(first|(simp(disch:=first|omega|(simp only[zL];omega))only[go_sem,seval,hia i u _ hu])|((with_reducible first|apply aj.pure|apply ar.pure);(with_reducible assumption);(first|rfl|simp only[go_sem])))
   refine⟨?_,by simp[bm,OB.hlt,AV.bf,AV.hlt,eP]⟩;simp only[bz,Av.get,Nat.reduceEqDiff,↓reduceIte,bg,dk,dm,and_self,true_and,and_true,List.length_map,List.length_nil];exact rq (by rw[fS hu,ou,hqq];simp)
  ·have hq':dx u.2=false:=by simpa using hq
   rw[hq']at hqu;have hqq:qv u.2=u.2:=by simp[qv,hq']
   repeat'(first|(simp(disch:=first|omega|(simp only[zL];omega))only[go_sem,seval,hia i u _ hu])|((with_reducible first|apply aj.pure|apply ar.pure);(with_reducible assumption);(first|rfl|simp only[go_sem])))
   refine⟨?_,by simp[bm,OB.hlt,AV.bf,AV.hlt,eP]⟩;simp only[bz,Av.get,Nat.reduceEqDiff,↓reduceIte,bg,dk,dm,and_self,true_and,and_true,List.length_map,List.length_nil];exact rq (by rw[fS hu,ou,hqq];simp)
 ·intro _
  rw[List.take_length]
  repeat'(first|(simp(disch:=first|omega|(simp only[zL];omega))only[go_sem,seval]))
  refine⟨_,rfl,_,rfl,rq ?_⟩;simp[told]
structure Cd where
 ver:Bytes
 x:Bool
 ls:List Ln
def bV(c:Cd):AV:=.agg [.str c.ver,.vsl 5 c.x (c.ls.map aw)]
def gx:Bytes:=[66,69,71,73,78,58,86,67,65,82,68]
def yH:Bytes:=[69,78,68,58,86,67,65,82,68]
def dp:Bytes:=[86,69,82,83,73,79,78,58]
def fk(c:Cd):List Bytes:=[gx,dp++c.ver]++c.ls.map (fun l=>fold (told l))++[yH]
def laid(c:Cd):Bytes:=cN (fk c)
theorem Bw(l:Ln):(aw l).hf=true:=by simp[aw,AV.hf,AV.hfs,aB]
theorem bq(ls:List Ln):AV.hfs (ls.map aw)=true:=by
 rw[aR,List.all_eq_true];intro v hv;obtain⟨l,_,rfl⟩:=List.mem_map.1 hv;exact Bw l
theorem jT(m:Nat)(ls:List Ln):AV.bf m (ls.map aw)=true:=dD (bq ls)
set_option maxRecDepth 8000 in
theorem Kh(c:Cd)(hp:∀l∈c.ls,lX l=true)(hb:(laid c).length≤50000000)(hn:c.ls.length≤1000000):ad Tryz.prog 48 [bV c] (.ret (.str (laid c))):=by
 obtain⟨ver,x,ls⟩:=c;simp only at hp hn;refine ad.fit fun hfit=>?_;have hv1:ver.length≤100000000:=by
  have:dp++ver∈fk ⟨ver,x,ls⟩:=by simp[fk]
  have h2:(dp++ver).length≤(laid ⟨ver,x,ls⟩).length:=by
   unfold laid cN;have:=(List.sublist_flatten_of_mem (List.mem_map_of_mem (f:=fun x=>x++[13,10]) this)).length_le;simp at this ⊢;omega
  simp at h2;omega
 refine ad.of Tryz.func48 rfl (ab enters Tryz.func48 rfl) (by simp[Tryz.ntmps48]) ?_;show W Tryz.prog 28 0 none _ _ _;refine W.vc (by decide) ?_;simp only[bV];have hbs:au Tryz.prog 25 2 [(0,.str gx),(1,.str (dp++ver))]=some (.vsl 0 true [.str gx,.str (dp++ver)]):=by
  simp[au,Tryz.underlying25,gH,AV.cells,AV.told,List.range']
 simp only[gx,dp,List.cons_append,List.nil_append]at hbs
 repeat'(first|(simp(disch:=first|omega|(simp only[zL];omega))only[go_sem,Nat.reduceEqDiff,↓reduceIte,Nat.reduceAdd,Nat.reduceMul,Nat.reduceSub,Nat.reduceLeDiff,Nat.reduceLT,Int.reduceToNat,Int.reduceLE,hbs]))
 have hia:∀(i:Nat) (u:Ln) (H:List OB),ls[i]? =some u→ak Tryz.prog 22 (.vsl 5 x (ls.map aw)) (.int .i64 (i:Int)) H=some (.vptr [.str u.g,.str u.n,.vsl 3 u.x (u.ps.map aD),.str u.v]):=by
  intro i u H hu;exact rA (v:=aw u) (by simp[hu]) rfl H
 have hb1:∀s,au Tryz.prog 25 1 [(0,.str s)]=some (.vsl 0 true [.str s]):=by
  intro s;simp[au,Tryz.underlying25,gH,AV.cells,AV.told,List.range']
 obtain⟨rows,hrows⟩:∃rows:Nat→List Bytes,rows=fun i=>[gx,dp++ver]++(ls.take i).map (fun l=>fold (told l)):=⟨_,rfl⟩
 have hrl:∀i,(rows i).length≤1000002:=by intro i;subst hrows;simp;omega
 obtain⟨B,hB⟩:∃B:List OB,B=[.cells [.str ver,.vsl 5 x (ls.map aw)] false]:=⟨_,rfl⟩
 have hBl:B.length=1:=by subst hB;rfl
 have hBh:∀m,B.all (OB.hlt m)=true:=by intro m;subst hB;simp[OB.hlt,AV.bf,AV.hlt,jT]
 obtain⟨zz,hzz⟩:∃zz:Nat→Bool,zz=fun i=>decide (0<i):=⟨_,rfl⟩
 refine W.G4 13 12 14 23 ls.length (by simp only[ay];omega) rfl rfl rfl rfl rfl rfl rfl rfl rfl (by decide) (by decide) (by decide)
  (fun i=>[(11,.vsl 5 x (ls.map aw)),(3,bp 1 0 0 .str (2*i - 1) (zz i) (rows i)),(1,.ptr 0 0)]) (fun _=>rfl) (fun i=>mem B .str (2*i - 1) 0 (zz i) (rows i)) (fun _=>Nat.zero_le _) (fun i=>True) rfl trivial ?_ ?_ ?_ ?_ ?_
 ·subst hrows
  subst hzz;simp only[Nat.lt_irrefl,decide_false,bp,Bool.false_eq_true,if_false,List.take_zero,List.map_nil,List.append_nil,List.map_cons,gx,dp,List.cons_append,List.nil_append];simp only[bz,Av.get,Nat.reduceEqDiff,↓reduceIte,bg,dk,dm,and_self,true_and,and_true,List.length_map,List.length_nil]
 ·intro i _
  have hmv:=AG (w0:=0) (wd:=0) (f:=AV.str) (k:=2*i - 1) (j:=0) (z:=zz i) (L:=rows i) hBl (fun x=>rfl);have h0:0<(mem B AV.str (2*i - 1) 0 (zz i) (rows i)).length:=by rw[aJ];omega
  simp only[cm,AV.hlt,jT,hmv,h0,decide_true,Bool.and_self]
 ·subst hrows
  subst hB;subst hzz;simp[mem,bm,OB.hlt,AV.bf,AV.hlt,jT]
 ·intro i hi _
  obtain⟨u,hu,hdrop⟩:=drop_at hi;have hmu:u∈ls:=List.mem_of_getElem? hu;have hpu:=hp u hmu;have htl:(told u).length≤1000000:=by simp only[lX,Bool.and_eq_true,decide_eq_true_eq]at hpu;exact hpu.2
  have ht:=Kg u hpu;have hf:=Kc (told u) htl;simp only[aw]at ht;have hrow:rows (i+1)=rows i++[fold (told u)]:=by subst hrows;simp[List.take_add_one,hu]
  obtain⟨M,hM⟩:∃M,M=mem B AV.str (2*i - 1) 0 (zz i) (rows i):=⟨_,rfl⟩
  have hMl:M.length=1+2*i:=by rw[hM,aJ,hBl,hzz];by_cases h0:0<i<;>simp[h0]<;>omega
  obtain⟨M',ha1,ha2,ha3,ha4,ha5⟩:=jn (wd:=0) (bytes:=16) Tryz.underlying25 gH AV.str (fun _=>rfl) (fun _=>rfl) (by decide) B (2*i - 1) 0 (zz i) (rows i) (w0:=0) (fun _=>.inl rfl) [.cells [.str u.g,.str u.n,.vsl 3 u.x (u.ps.map aD),.str u.v] false] (fold (told u)) true (by have:=hrl i;omega) hM;rw[hBl]at ha1;rw[←hM];refine .vc (by decide) ?_
  repeat'(first|(simp(disch:=first|omega|(simp only[zL];omega))only[go_sem,Nat.reduceEqDiff,↓reduceIte,Nat.reduceAdd,Nat.reduceMul,Nat.reduceSub,Nat.reduceLeDiff,Nat.reduceLT,Int.reduceToNat,Int.reduceLE,hia i u _ hu,hb1,ha1])|((with_reducible first|apply aj.pure|apply ar.pure);(with_reducible assumption);(first|rfl|simp only[go_sem,aB])))
  rw[hrow];have hz1:zz (i+1)=true:=by rw[hzz];simp
  have hk:M.length+1 - 1=2*(i+1) - 1:=by omega
  simp only[List.length_cons,List.length_nil,hBl,hz1]at ha4 ⊢;have h4:=ha4 (mem B AV.str (2*(i+1) - 1) 0 true (rows i++[fold (told u)])).length (hBh _) (fun x=>rfl);rw[hk]at h4 ⊢;refine⟨?_,h4⟩;simp only[bz,Av.get,Nat.reduceEqDiff,↓reduceIte,bg,dk,dm,and_self,true_and,and_true,List.length_map,List.length_nil]
 ·intro _
  have hrowe:fk ⟨ver,x,ls⟩=rows ls.length++[yH]:=by subst hrows;simp[fk,List.take_length]
  obtain⟨M,hM⟩:∃M,M=mem B AV.str (2*ls.length - 1) 0 (zz ls.length) (rows ls.length):=⟨_,rfl⟩
  obtain⟨M',ha1,ha2,ha3,ha4,ha5⟩:=jn (wd:=0) (bytes:=16) Tryz.underlying25 gH AV.str (fun _=>rfl) (fun _=>rfl) (by decide) B (2*ls.length - 1) 0 (zz ls.length) (rows ls.length) (w0:=0) (fun _=>.inl rfl) [] yH true (by have:=hrl ls.length;omega) hM;rw[hBl,List.append_nil]at ha1;rw[←hrowe]at ha1 ha3;have hM0:M'[0]? =some (.cells [.str ver,.vsl 5 x (ls.map aw)] false):=by rw[ha5 0 (by omega),hB];rfl
  have hBM:1≤M.length:=by rw[hM,aJ];omega
  obtain⟨u,hfz,hu⟩:=ia (B:=B) (f:=AV.str) (w0:=0) (k:=M.length - 1) (z:=true) (L:=fk ⟨ver,x,ls⟩) (n:=19) (M:=M') (fun _=>by rw[←ha3];congr 1;simp;omega) (az _) (di _);rw[hBl]at hfz;have hfz:fz M' 20 _=_:=hfz;obtain⟨y,rfl⟩:∃y,u=.vsl 0 y ((fk ⟨ver,x,ls⟩).map .str):=by rcases hu with rfl|rfl<;>exact⟨_,rfl⟩
  have hj:=Et y (fk ⟨ver,x,ls⟩) hb
  have hln:aG M' [bp 1 0 0 AV.str (M.length - 1) true (fk ⟨ver,x,ls⟩)] (.ret (.str (laid ⟨ver,x,ls⟩)))=some [.vsl 0 y ((fk ⟨ver,x,ls⟩).map .str)]:=
   ed rfl rfl (by simp only[List.mapM_cons,List.mapM_nil,hfz];rfl)
  simp only[yH,List.length_nil,Nat.add_zero]at ha1;rw[←hM]
  repeat'(first|(simp(disch:=first|omega|(simp only[zL];omega))only[go_sem,Nat.reduceEqDiff,↓reduceIte,Nat.reduceAdd,Nat.reduceMul,Nat.reduceSub,Nat.reduceLeDiff,Nat.reduceLT,Int.reduceToNat,Int.reduceLE,hb1,ha1])|(guard_target=~ aj _ _ _ _ _ _ _;refine aj.aG _ hj hln ?_))
  exact⟨_,rfl,_,rfl,.refl _⟩
/-! ### Check, Text -/
def bZ(c:Cd):Bool:=version c.ver&&decide (c.ls.length≤100)&&c.ls.all bU
def aQ(c:Cd):Nat:=if bZ c then(if(laid c).length>16000 then 3 else 0)else 2
theorem yI(ls:List Ln):∀v∈ls.map aw,shp 5 v:=by
 intro v hv;obtain⟨l,_,rfl⟩:=List.mem_map.1 hv;exact⟨[.str l.g,.str l.n,.vsl 3 l.x (l.ps.map aD),.str l.v],rfl,rfl⟩
def pL:AV→Bool
 | .agg [.str g,.str n,.vsl _ x ps,.str v]=>bU ⟨g,n,x,ps.map (fun| .agg [.str t,.str v]=>(t,v)|_=>([],[])),v⟩
 |_=>false
theorem Bx(l:Ln):pL (aw l)=bU l:=by
 have:(l.ps.map aD).map (fun| .agg [.str t,.str v]=>(t,v)|_=>(([],[]):Bytes×Bytes))=l.ps:=by
  rw[List.map_map];conv=>rhs;rw[←List.map_id l.ps]
  congr 1
 simp only[aw,pL,this]
theorem HP(x:Bool)(ls:List Ln):ad Tryz.prog 46 [.vsl 5 x (ls.map aw),.func (.func 47) [] []] (.ret (.bool (ls.all bU))):=by
 have:=Go.Proofs.YtekcidbpejicdaaGreatDoor.HA x (ls.map aw) 47 [] [] pL (yI ls) ⟨bq ls,rfl,rfl⟩ (by
  intro v hv;obtain⟨r,_,rfl⟩:=List.mem_map.1 hv;rw[Bx];exact F6 r)
 rw[List.all_map]at this;have e:(fun x=>pL (aw x))=bU:=by funext l;exact Bx l
 simp only[Function.comp_def,e]at this;exact this
/-! ### What may be told -/
theorem oA:∀(i:Nat) (s:Bytes),od i s=true→eY s=true
 |_,[],_=>rfl
 | i,x::l,h=>by
  simp only[od,Bool.and_eq_true]at h;simp only[eY,List.all_cons,Bool.and_eq_true];refine⟨?_,oA (i+1) l h.2⟩;have h1:=h.1;simp only[okI,decide_eq_true_eq]at h1 ⊢;rcases Nat.lt_or_ge x.toNat 128 with h2|h2
  ·exact h2
  ·have a1:¬((x.toNat:Int)≤122):=by omega
   have a2:¬((x.toNat:Int)≤90):=by omega
   have a3:¬((x.toNat:Int)≤57):=by omega
   have a4:¬((x.toNat:Int)=45):=by omega
   simp[a1,a2,a3,a4]at h1
theorem mF(s:Bytes):eY (small s)=eY s:=by
 simp only[eY,small,List.all_map];congr 1;funext x;simp only[Function.comp];exact decide_eq_decide.2 (Bu x)
theorem ie{s:Bytes}(h:cQ s=true):eY s=true∧s.length≤64:=by
 simp only[cQ,jQ,List.all_cons,List.all_nil,Bool.and_true,Bool.and_eq_true,oi]at h;obtain⟨_,⟨⟨h1,_⟩,_⟩,_⟩:=h;simp only[eh,Bool.and_eq_true,decide_eq_true_eq]at h1;refine⟨by rw[←mF];exact oA 0 _ h1.1,?_⟩;have:=h1.2.2;simp[small]at this;omega
theorem Ki(v:Bytes):(qv v).length≤v.length+2:=by unfold qv;split<;>simp
theorem mG:∀(ps:List (Bytes×Bytes)),(∀p∈ps,p.1.length≤64∧p.2.length≤100)→(dM ps).length≤200*ps.length
 | [],_=>by simp[dM]
 |p::ps,h=>by
  have ih:=mG ps (fun q hq=>h q (List.mem_cons_of_mem _ hq));have hp:=h p (by simp);have:=Ki p.2;simp only[dM,List.map_cons,List.flatten_cons,List.length_append,ou,List.length_cons,List.length_nil,ch]at ih ⊢;omega
theorem jU{l:Ln}(h:bU l=true):lX l=true∧(told l).length≤6000:=by
 simp only[bU,Bool.and_eq_true,Bool.or_eq_true,decide_eq_true_eq,beq_iff_eq]at h;obtain⟨hg,hn,_,_,_,hps,hall,hv,_⟩:=h;have hg':eY l.g=true∧l.g.length≤64:=by
  rcases hg with hg|hg
  ·rw[hg];exact⟨rfl,by simp⟩
  ·exact ie hg
 have hn':eY l.n=true∧l.n.length≤64:=by
  have:=ie hn;rw[mF]at this;exact⟨this.1,by simpa[small]using this.2⟩
 rw[List.all_eq_true]at hall;have hp:∀p∈l.ps,eY p.1=true∧p.1.length≤64∧p.2.length≤100:=by
  intro p hp;have:=hall p hp;simp only[dS,Bool.and_eq_true,decide_eq_true_eq]at this;have h1:=ie this.1.1;exact⟨h1.1,h1.2,by have:=this.1.2;omega⟩
 have hb:=mG l.ps (fun p h=>(hp p h).2);have hh:(fR l).length≤129:=by unfold fR;split<;>simp[ch]<;>omega
 have hlen:(told l).length≤6000:=by simp only[told,List.length_append,List.length_cons,List.length_nil];omega
 refine⟨?_,hlen⟩;simp only[lX,Bool.and_eq_true,decide_eq_true_eq,List.all_eq_true];exact⟨⟨⟨hg'.1,hn'.1⟩,fun p h=>(hp p h).1⟩,by omega⟩
theorem tG:∀(k m:Nat) (s:Bytes),1≤m→(iP k m s).length≤s.length+3*s.length
 |0,m,s,_=>by simp[iP]
 | k+1,m,s,hm=>by
  rw[iP];split
  ·rename_i h
   have:=tG k 74 (s.drop m) (by omega);simp only[List.length_append,List.length_take,List.length_cons,List.length_nil,List.length_drop]at this ⊢;omega
  ·omega
theorem kW:∀(l:List Bytes) (b:Nat),(∀x∈l,x.length≤b)→(cN l).length≤(b+2)*l.length
 | [],b,_=>by simp[cN]
 |x::l,b,h=>by
  have ih:=kW l b (fun y hy=>h y (List.mem_cons_of_mem _ hy));have:=h x (by simp);simp only[cN,List.map_cons,List.flatten_cons,List.length_append,List.length_cons,List.length_nil]at ih ⊢;rw[Nat.mul_add];omega
theorem oB{c:Cd}(h:bZ c=true):(laid c).length≤50000000:=by
 simp only[bZ,Bool.and_eq_true,decide_eq_true_eq,List.all_eq_true]at h;obtain⟨⟨h1,h2⟩,h3⟩:=h
 have:=kW (fk c) 24000 (by
  intro x hx;simp only[fk,List.mem_append,List.mem_cons,List.mem_map,List.not_mem_nil,or_false]at hx;rcases hx with((rfl|rfl)|⟨l,hl,rfl⟩)|rfl
  ·decide
  ·simp only[version,Bool.or_eq_true,beq_iff_eq]at h1
   rcases h1 with h1|h1<;>rw[h1]<;>decide
  ·have:=(jU (h3 l hl)).2
   have:=tG (told l).length 75 (told l) (by omega);unfold fold;omega
  ·decide)
 have hl:(fk c).length≤103:=by simp[fk];omega
 unfold laid;have:(24000+2)*(fk c).length≤(24000+2)*103:=Nat.mul_le_mul_left _ hl;omega
theorem qj(c:Cd):AV.hfs [bV c]=true:=by simp[bV,AV.hfs,AV.hf,bq]
set_option maxRecDepth 8000 in
theorem rG(c:Cd):ad Tryz.prog 24 [bV c] (.ret (.int .i64 (aQ c))):=by
 have hlaid:bZ c=true→ad Tryz.prog 48 [bV c] (.ret (.str (laid c))):=by
  intro h;have hb:=oB h;simp only[bZ,Bool.and_eq_true,decide_eq_true_eq,List.all_eq_true]at h;exact Kh c (fun l hl=>(jU (h.2 l hl)).1) hb (by omega)
 have hhfs:=qj c;obtain⟨ver,x,ls⟩:=c;refine ad.of Tryz.func24 rfl (ab enters Tryz.func24 rfl) (by simp[Tryz.ntmps24]) ?_;show W Tryz.prog 25 0 none _ _ _;refine W.vc (by decide) ?_;simp only[bV]at hlaid hhfs ⊢;have hv:=tv ver;have he:=HP x ls;by_cases h1:version ver=true
 ·rw [h1]at hv
  by_cases h2:ls.length≤100
  ·by_cases h3:ls.all bU=true
   ·rw[h3]at he
    have hr:bZ ⟨ver,x,ls⟩=true:=by simp[bZ,h1,h2,h3]
    have hl:=hlaid hr;by_cases h4:(laid ⟨ver,x,ls⟩).length>16000
    ·have hc:aQ ⟨ver,x,ls⟩=3:=by simp only[aQ,hr,if_true,if_pos h4]
     repeat'(first|(simp(disch:=first|omega|(simp only[zL];omega))only[go_sem,Nat.reduceEqDiff,↓reduceIte,Nat.reduceAdd,Nat.reduceMul,Nat.reduceSub,Nat.reduceLeDiff,Nat.reduceLT,Int.reduceToNat,Int.reduceLE])|((with_reducible first|apply aj.pure|apply ar.pure);(with_reducible assumption);(first|rfl|simp only[go_sem,bq])))
     rw[hc];exact⟨_,rfl,_,rfl,.refl _⟩
    ·have hc:aQ ⟨ver,x,ls⟩=0:=by simp only[aQ,hr,if_true,if_neg h4]
     repeat'(first|(simp(disch:=first|omega|(simp only[zL];omega))only[go_sem,Nat.reduceEqDiff,↓reduceIte,Nat.reduceAdd,Nat.reduceMul,Nat.reduceSub,Nat.reduceLeDiff,Nat.reduceLT,Int.reduceToNat,Int.reduceLE])|((with_reducible first|apply aj.pure|apply ar.pure);(with_reducible assumption);(first|rfl|simp only[go_sem,bq])))
     rw[hc];exact⟨_,rfl,_,rfl,.refl _⟩
   ·have h3:ls.all bU=false:=by simpa using h3
    rw[h3]at he;have hc:aQ ⟨ver,x,ls⟩=2:=by simp[aQ,bZ,h1,h2,h3]
    repeat'(first|(simp(disch:=first|omega|(simp only[zL];omega))only[go_sem,Nat.reduceEqDiff,↓reduceIte,Nat.reduceAdd,Nat.reduceMul,Nat.reduceSub,Nat.reduceLeDiff,Nat.reduceLT,Int.reduceToNat,Int.reduceLE])|((with_reducible first|apply aj.pure|apply ar.pure);(with_reducible assumption);(first|rfl|simp only[go_sem,bq])))
    rw[hc];exact⟨_,rfl,_,rfl,.refl _⟩
  ·have hc:aQ ⟨ver,x,ls⟩=2:=by simp[aQ,bZ,h1,h2]
   repeat'(first|(simp(disch:=first|omega|(simp only[zL];omega))only[go_sem,Nat.reduceEqDiff,↓reduceIte,Nat.reduceAdd,Nat.reduceMul,Nat.reduceSub,Nat.reduceLeDiff,Nat.reduceLT,Int.reduceToNat,Int.reduceLE])|((with_reducible first|apply aj.pure|apply ar.pure);(with_reducible assumption);(first|rfl|simp only[go_sem,bq])))
   rw[hc];exact⟨_,rfl,_,rfl,.refl _⟩
 ·have h1:version ver=false:=by simpa using h1
  rw[h1]at hv;have hc:aQ ⟨ver,x,ls⟩=2:=by simp[aQ,bZ,h1]
  repeat'(first|(simp(disch:=first|omega|(simp only[zL];omega))only[go_sem,Nat.reduceEqDiff,↓reduceIte,Nat.reduceAdd,Nat.reduceMul,Nat.reduceSub,Nat.reduceLeDiff,Nat.reduceLT,Int.reduceToNat,Int.reduceLE])|((with_reducible first|apply aj.pure|apply ar.pure);(with_reducible exact hv);(first|rfl|simp only[go_sem,bq])))
  rw[hc];exact⟨_,rfl,_,rfl,.refl _⟩
/-! ### The reader -/
theorem jE:ad Tryz.prog 83 [.bool true] (.ret (.tup [])):=Bf true
theorem eZ:ad Tryz.prog 83 [.bool false] (.pan 112 (.agg [])):=Bf false
def nmR(s:Bytes):Option (Bytes×Bytes):=if lead s<s.length∧0<lead s∧cQ (s.take (lead s))=true then some (small (s.take (lead s)),s.drop (lead s))else none
set_option maxRecDepth 8000 in
theorem rH{H:List OB}{r:Nat}{s:Bytes}(hr:H[r]? =some (.cells [.str s] false))(hall:okH H){n t:Bytes}(h:nmR s=some (n,t)):aY Tryz.prog 126 [.ptr r 0] H (.ret (.str n)) (H.set r (.cells [.str t] false)):=by
 unfold nmR at h;by_cases hh:lead s<s.length∧0<lead s∧cQ (s.take (lead s))=true
 case neg=>rw[if_neg hh]at h;cases h
 rw[if_pos hh]at h;obtain⟨h1,h2,h3⟩:=hh;cases h;refine aY.of Tryz.func126 rfl (ab enters Tryz.func126 rfl) (by simp[Tryz.ntmps126]) (by simp) ?_;show W Tryz.prog 44 _ none _ _ _;refine W.vc (by decide) ?_;have hi:ixN s=(lead s:Int):=by unfold ixN;rw[if_pos h1]
 have hx:=Bn s;rw[hi]at hx;have hn:=tu (s.take (lead s));rw[h3]at hn;have hs:=ic (s.take (lead s));simp only[nmF]at hx
 repeat'(first|(simp(disch:=first|omega|(simp only[zL];omega))only[go_sem,seval,hr])|((with_reducible first|apply aj.pure|apply ar.pure);(with_reducible first|exact hx|exact hn|exact jE|exact hs);(first|rfl|simp only[go_sem])))
 exact⟨_,rfl,_,rfl,.refl _,rfl,dr (by rw[List.length_set];exact eT (hall _ (Nat.le_refl _)) rfl)⟩
set_option maxRecDepth 8000 in
theorem rI{H:List OB}{r:Nat}{s:Bytes}(hr:H[r]? =some (.cells [.str s] false))(hall:okH H)(h:nmR s=none):aY Tryz.prog 126 [.ptr r 0] H qh H:=by
 unfold nmR at h;by_cases hh:lead s<s.length∧0<lead s∧cQ (s.take (lead s))=true
 case pos=>rw[if_pos hh]at h;cases h
 refine aY.of Tryz.func126 rfl (ab enters Tryz.func126 rfl) (by simp[Tryz.ntmps126]) (Nat.le_refl _) ?_;show W Tryz.prog 44 _ none _ _ _;refine W.vc (by decide) ?_;have hx:=Bn s;simp only[nmF]at hx;by_cases h1:lead s<s.length
 ·have hi:ixN s=(lead s:Int):=by unfold ixN;rw[if_pos h1]
  rw[hi]at hx;by_cases h2:0<lead s
  ·have h3:cQ (s.take (lead s))=false:=by
    cases hb:cQ (s.take (lead s))with
    |false=>rfl
    |true=>exact(hh ⟨h1,h2,hb⟩).elim
   have hn:=tu (s.take (lead s));rw[h3]at hn
   repeat'(first|(simp(disch:=first|omega|(simp only[zL];omega))only[go_sem,seval,hr])|(guard_target=~ aj _ _ _ _ _ _ _;refine aj.pan eZ rfl ?_)|((with_reducible first|apply aj.pure|apply ar.pure);(with_reducible assumption);(first|rfl|simp only[go_sem])))
   exact⟨_,rfl,rfl,.refl _,rfl,kM hall⟩
  ·repeat'(first|(simp(disch:=first|omega|(simp only[zL];omega))only[go_sem,seval,hr])|(guard_target=~ aj _ _ _ _ _ _ _;refine aj.pan eZ rfl ?_)|((with_reducible first|apply aj.pure|apply ar.pure);(with_reducible exact hx);(first|rfl|simp only[go_sem])))
   exact⟨_,rfl,rfl,.refl _,rfl,kM hall⟩
 ·have hi:ixN s= -1:=by unfold ixN;rw[if_neg h1]
  rw[hi]at hx
  repeat'(first|(simp(disch:=first|omega|(simp only[zL];omega))only[go_sem,seval,hr])|(guard_target=~ aj _ _ _ _ _ _ _;refine aj.pan eZ rfl ?_)|((with_reducible first|apply aj.pure|apply ar.pure);(with_reducible exact hx);(first|rfl|simp only[go_sem])))
  exact⟨_,rfl,rfl,.refl _,rfl,kM hall⟩
set_option maxRecDepth 8000 in
theorem isR{H:List OB}{r:Nat}{s:Bytes}(hr:H[r]? =some (.cells [.str s] false))(hall:okH H)(p:Bytes):aY Tryz.prog 127 [.ptr r 0,.str p] H (.ret (.bool (cT s p))) (H.set r (.cells [.str (bN s p)] false)):=by
 refine aY.of Tryz.func127 rfl (ab enters Tryz.func127 rfl) (by simp[Tryz.ntmps127]) (by simp) ?_;show W Tryz.prog 23 _ none _ _ _;refine W.vc (by decide) ?_
 repeat'(first|(simp(disch:=first|omega|(simp only[zL];omega))only[go_sem,seval,hr])|((with_reducible first|apply aj.pure|apply ar.pure);(with_reducible exact Ep _ _);(first|rfl|simp only[go_sem])))
 exact⟨_,rfl,_,rfl,.refl _,rfl,dr (by rw[List.length_set];exact eT (hall _ (Nat.le_refl _)) rfl)⟩
def prR (s:Bytes):Option (Bytes×Bytes)×Bytes:=
  match nmR s with
  |none=>(none,s)
  | some (n,s1)=>if cT s1 [61]then
      (if cT (bN s1 [61]) [34]then
        (if(ct (bN (bN s1 [61]) [34]) 34).2.2 then(some (n,(ct (bN (bN s1 [61]) [34]) 34).1),(ct (bN (bN s1 [61]) [34]) 34).2.1)else(none,bN (bN s1 [61]) [34]))
      else if aX [58,59,44,34] (bN (bN s1 [61]) [34])<(bN (bN s1 [61]) [34]).length then(some (n,(bN (bN s1 [61]) [34]).take (aX [58,59,44,34] (bN (bN s1 [61]) [34]))),(bN (bN s1 [61]) [34]).drop (aX [58,59,44,34] (bN (bN s1 [61]) [34])))
      else(none,bN (bN s1 [61]) [34]))
    else(none,bN s1 [61])
theorem gr{s n t:Bytes}(h:nmR s=some (n,t)):t.length≤s.length:=by
 unfold nmR at h;split at h
 ·cases h;simp
 ·cases h
theorem iR(s p:Bytes):(bN s p).length≤s.length:=by unfold bN;split<;>simp
set_option maxRecDepth 8000 in
theorem HQ {H:List OB} {r:Nat} {s:Bytes} (hr:H[r]? =some (.cells [.str s] false)) (hall:okH H) (hs:s.length≤1000000):
    aY Tryz.prog 128 [.ptr r 0] H (match(prR s).1 with|some p=>.ret (aD p)|none=>qh) (H.set r (.cells [.str (prR s).2] false)):=by
  have hrl:r<H.length:=(List.getElem?_eq_some_iff.1 hr).1;refine aY.of Tryz.func128 rfl (ab enters Tryz.func128 rfl) (by simp[Tryz.ntmps128]) (by simp) ?_;show W Tryz.prog 64 _ none _ _ _;refine W.vc (by decide) ?_;have hok1:okH (H++[.cells [.str [],.str []] false]):=ru hall (fun m _=>rfl);have hr1:(H++[.cells [.str [],.str []] false])[r]? =some (.cells [.str s] false):=aZ hr;have hok: ∀(a b c:Bytes),okH (H.set r (.cells [.str a] false)++[.cells [.str [],.str []] false,.cells [.str b,.str c] false]):=fun a b c=>DX hall (fun m _=>rfl) (fun m _=>rfl)
  have hg: ∀(a b c:Bytes),(H.set r (.cells [.str a] false)++[.cells [.str [],.str []] false,.cells [.str b,.str c] false])[r]? =some (.cells [.str a] false):=fun a b c=>DY hrl;have hbd: ∀n:Bytes,bW Tryz.prog 55 [(0,.str n)]=some (.agg [.str n,.str []]):=fun n=>by kernel_rfl
  cases hn:nmR s with
  | none=>
    have e1:(prR s).1=none:=by simp only[prR,hn]
    have e2:(prR s).2=s:=by simp only[prR,hn]
    rw[e1,e2,dJ hr];have h1:=rI hr1 hok1 hn
    repeat'(first|(simp(disch:=first|omega|(simp only[zL];omega))only[go_sem,seval,hr,zM])|(guard_target=~ aj _ _ _ _ _ _ _;refine aj.tc h1 ?_))
    exact⟨_,rfl,rfl,.refl _,rfl,eO (hall _ (Nat.le_refl _))⟩
  | some p =>
    obtain⟨n,s1⟩:=p;have h1:=rH hr1 hok1 hn;have h2:=isR (hg s1 n []) (hok s1 n []) [61];by_cases q1:cT s1 [61]=true
    · rw [q1]at h2
      obtain⟨s2,hs2⟩: ∃s2,s2=bN s1 [61]:=⟨_,rfl⟩
      rw[←hs2]at h2;have h3:=isR (hg s2 n []) (hok s2 n []) [34];obtain⟨s3,hs3⟩: ∃s3,s3=bN s2 [34]:=⟨_,rfl⟩
      rw[←hs3]at h3;have l1:s1.length≤s.length:=gr hn;have l2:s2.length≤s1.length:=by rw[hs2];exact iR _ _
      have l3:s3.length≤s2.length:=by rw[hs3];exact iR _ _
      by_cases q2:cT s2 [34]=true
      · rw[q2]at h3
        have hc:=Bd s3 34 (by omega);obtain⟨⟨v,rest,b⟩,hv⟩: ∃x,x=ct s3 34:=⟨_,rfl⟩
        rw[←hv]at hc;cases b with
        | true=>
          have e1:prR s=(some (n,v),rest):=by simp only[prR,hn,q1,←hs2,q2,←hs3,←hv,if_true]
          rw[e1]
          repeat'(first|(simp(disch:=first|omega|(simp only[zL];omega))only[go_sem,seval,hr,hbd,zM])|(guard_target=~ aj _ _ _ _ _ _ _;refine aj.sh h1 ?_)|(guard_target=~ aj _ _ _ _ _ _ _;refine aj.sh h2 ?_)|(guard_target=~ aj _ _ _ _ _ _ _;refine aj.sh h3 ?_)|((with_reducible first|apply aj.pure|apply ar.pure);(with_reducible first|exact jE|exact hc);(first|rfl|simp only[go_sem])))
          refine FP 2 55 rfl rfl ?_ (.refl _) rfl (eO (eT (hall _ (by rw[List.length_set];exact Nat.le_refl _)) rfl));simp(disch:=first|omega|(simp only[zL];omega))only[go_sem,seval,zM];rfl
        | false=>
          have e1:prR s=(none,s3):=by simp only[prR,hn,q1,←hs2,q2,←hs3,←hv,if_true];rfl
          rw[e1]
          repeat'(first|(simp(disch:=first|omega|(simp only[zL];omega))only[go_sem,seval,hr,hbd,zM])|(guard_target=~ aj _ _ _ _ _ _ _;refine aj.sh h1 ?_)|(guard_target=~ aj _ _ _ _ _ _ _;refine aj.sh h2 ?_)|(guard_target=~ aj _ _ _ _ _ _ _;refine aj.sh h3 ?_)|(guard_target=~ aj _ _ _ _ _ _ _;refine aj.pan eZ rfl ?_)|((with_reducible first|apply aj.pure|apply ar.pure);(with_reducible first|exact hc|exact jE);(first|rfl|simp only[go_sem])))
          exact⟨_,rfl,rfl,.refl _,rfl,eO (eT (hall _ (by rw[List.length_set];exact Nat.le_refl _)) rfl)⟩
      · have q2:cT s2 [34]=false:=by simpa using q2
        rw[q2]at h3;have hx:=xk s3 [58,59,44,34] (by decide) (by decide) (by decide);by_cases q3:aX [58,59,44,34] s3<s3.length
        · have hix:eE s3 [58,59,44,34]=(aX [58,59,44,34] s3:Int):=by unfold eE;rw[if_pos q3]
          rw[hix]at hx;have e1:prR s=(some (n,s3.take (aX [58,59,44,34] s3)),s3.drop (aX [58,59,44,34] s3)):=by
            simp only[prR,hn,q1,←hs2,q2,←hs3,if_pos q3,if_true,Bool.false_eq_true,if_false]
          rw[e1];obtain⟨k,hk⟩: ∃k,k=aX [58,59,44,34] s3:=⟨_,rfl⟩
          rw[←hk]at q3 hx ⊢
          repeat'(first|(simp(disch:=first|omega|(simp only[zL];omega))only[go_sem,seval,hr,hbd,zM])|(guard_target=~ aj _ _ _ _ _ _ _;refine aj.sh h1 ?_)|(guard_target=~ aj _ _ _ _ _ _ _;refine aj.sh h2 ?_)|(guard_target=~ aj _ _ _ _ _ _ _;refine aj.sh h3 ?_)|((with_reducible first|apply aj.pure|apply ar.pure);(with_reducible first|exact jE|exact hx);(first|rfl|simp only[go_sem])))
          refine W.bw [16,20] [false,false,false,false,false,false,false,false,false,false,false,false,false,false,false,false,true,false,false,false,true] [(12,17)] mixed (by kernel_rfl) (by kernel_rfl) (by kernel_rfl) ?_
          repeat'(first|(simp(disch:=first|omega|(simp only[zL];omega))only[go_sem,seval,hr,zM]))
          refine FP 2 55 rfl rfl ?_ (.refl _) rfl (eO (eT (hall _ (by rw[List.length_set];exact Nat.le_refl _)) rfl));simp(disch:=first|omega|(simp only[zL];omega))only[go_sem,seval,zM];rfl
        · have hix:eE s3 [58,59,44,34]= -1:=by unfold eE;rw[if_neg q3]
          rw[hix]at hx;have e1:prR s=(none,s3):=by
            simp only[prR,hn,q1,←hs2,q2,←hs3,if_neg q3,if_true,Bool.false_eq_true,if_false]
          rw[e1]
          repeat'(first|(simp(disch:=first|omega|(simp only[zL];omega))only[go_sem,seval,hr,hbd,zM])|(guard_target=~ aj _ _ _ _ _ _ _;refine aj.sh h1 ?_)|(guard_target=~ aj _ _ _ _ _ _ _;refine aj.sh h2 ?_)|(guard_target=~ aj _ _ _ _ _ _ _;refine aj.sh h3 ?_)|(guard_target=~ aj _ _ _ _ _ _ _;refine aj.pan eZ rfl ?_)|((with_reducible first|apply aj.pure|apply ar.pure);(with_reducible first|exact jE|exact hx);(first|rfl|simp only[go_sem])))
          exact⟨_,rfl,rfl,.refl _,rfl,eO (eT (hall _ (by rw[List.length_set];exact Nat.le_refl _)) rfl)⟩
    · have q1:cT s1 [61]=false:=by simpa using q1
      rw[q1]at h2;have e1:prR s=(none,bN s1 [61]):=by simp only[prR,hn,q1,Bool.false_eq_true,if_false]
      rw[e1]
      repeat'(first|(simp(disch:=first|omega|(simp only[zL];omega))only[go_sem,seval,hr,hbd,zM])|(guard_target=~ aj _ _ _ _ _ _ _;refine aj.sh h1 ?_)|(guard_target=~ aj _ _ _ _ _ _ _;refine aj.sh h2 ?_)|(guard_target=~ aj _ _ _ _ _ _ _;refine aj.pan eZ rfl ?_))
      exact⟨_,rfl,rfl,.refl _,rfl,eO (eT (hall _ (by rw[List.length_set];exact Nat.le_refl _)) rfl)⟩
def psF:Nat→Bytes→Option (List (Bytes×Bytes)×Bytes)
  |0,s=>some ([],s)
  | n +1,s=>if cT s [59]then(match prR (bN s [59])with
      |(some p,t)=>(psF n t).map fun q=>(p::q.1,q.2)
      |(none,_)=>none)else some ([],s)
def psR(s:Bytes):Option (List (Bytes×Bytes)×Bytes):=psF (s.length+1) s
def lY(g n s:Bytes):Option Ln:=match psR s with
 |none=>none
 |some (ps,t)=>if cT t [58]then some ⟨g,n,false,ps,bN t [58]⟩else none
def lnR(s:Bytes):Option Ln:=match nmR s with
  |none=>none
  |some (n,t)=>if cT t [46]then(match nmR (bN t [46])with
      |none=>none
      |some (m,u)=>lY n m u)else lY [] n t
def xm(o:Option Ln):Out:=match o with|some l=>.ret (aw l)|none=>qh
theorem Bz{s p:Bytes}(h:cT s p=true):(bN s p).length+p.length=s.length:=by
 have:=xe h;unfold bN;rw[if_pos h,List.length_drop];omega
theorem kX:∀(s:Bytes) (c:UInt8),(ct s c).2.1.length≤s.length
 | [],c=>by simp[ct]
 |x::t,c=>by
  have:=kX t c;unfold ct;split
  ·simp
  ·simp;omega
theorem EF(s:Bytes):(prR s).2.length≤s.length:=by
 unfold prR;cases h:nmR s with
 |none=>simp
 | some p=>
  obtain⟨n,s1⟩:=p;have h1:=gr h;have h2:=iR s1 [61];have h3:=iR (bN s1 [61]) [34];have h4:=kX (bN (bN s1 [61]) [34]) 34;simp only;split
  ·split
   ·split
    ·simp only;omega
    ·simp only;omega
   ·split
    ·simp only[List.length_drop];omega
    ·simp only;omega
  ·simp only;omega
theorem oC(p:Bytes×Bytes):(aD p).cells.length=esz 3:=rfl
noncomputable def HR:Code:=match Tryz.f86.body with
 |some (.seq _ (.seq _ (.seq _ (.seq _ c))))=>c
 |_=>.skip
def lrZ:OB:=.cells [.str [],.str [],.nilsl,.str []] false
def lrV(k:Nat)(z:Bool)(L:List (Bytes×Bytes)):AV:=if z then .sl (3+k) 0 L.length 3 else .nilsl
def lrB(s g n:Bytes)(v:AV):List OB:=[lrZ,.cells [.str s] false,.cells [.str g,.str n,v,.str []] false]
theorem xn{k:Nat}{z:Bool}{L:List (Bytes×Bytes)}(h:z=false→L=[]):deN (lrV k z L)=bp 3 0 3 aD k z L:=by
 cases z
 ·rw[h rfl];rfl
 ·rfl
theorem ng{k m:Nat}{z:Bool}{L:List (Bytes×Bytes)}(h:z=true→3+k<m):(lrV k z L).hlt m=true:=by
 cases z
 ·rfl
 ·simp[lrV,AV.hlt,h rfl]
theorem jV(m:Nat)(p:Bytes×Bytes):AV.bf m (aD p).cells=true:=rfl
theorem xo{s g n:Bytes}{v:AV}{m:Nat}(hv:v.hlt m=true):(lrB s g n v).all (OB.hlt m)=true:=by
 simp[lrB,lrZ,OB.hlt,AV.bf,AV.hlt,hv]
theorem HS{s g n:Bytes}{k j:Nat}{z:Bool}{L:List (Bytes×Bytes)}:okH (mem (lrB s g n (lrV k z L)) aD k j z L):=fun m hm=>by
 refine wR (xo (ng fun hz=>?_)) (jV m);rw[aJ,hz]at hm;simp[lrB]at hm;omega
theorem tH(s t g n:Bytes)(v:AV):(lrB s g n v).set 1 (.cells [.str t] false)=lrB t g n v:=rfl
set_option maxRecDepth 8000 in
theorem BA (g n s0:Bytes) (hs:s0.length≤1000000) (T:List (Nat×AV)) (hT:aC T [(2,.ptr 0 0),(3,.ptr 1 0),(4,.ptr 2 0)]):
    W Tryz.prog 39 0 none HR (eI Tryz.prog Tryz.f86.results.toList (xm (lY g n s0))) ⟨T,lrB s0 g n .nilsl,[]⟩:=by
  refine W.bG _ hT ?_;have hb1: ∀p:Bytes×Bytes,au Tryz.prog 44 1 [(0,.agg [.str p.1,.str p.2])]=some (.vsl 3 true [aD p]):=by
    intro p;simp[au,Tryz.underlying44,vb,AV.cells,AV.told,List.range',aD]
  refine .seq (.block ?_)
  refine W.nP (X:=Bytes×List (Bytes×Bytes)×Nat×Nat×Bool×Nat) (fun _=>[(2,.ptr 0 0),(3,.ptr 1 0),(4,.ptr 2 0)])
    (fun x=>mem (lrB x.1 g n (lrV x.2.2.1 x.2.2.2.2.1 x.2.1)) aD x.2.2.1 x.2.2.2.1 x.2.2.2.2.1 x.2.1)
    (fun x=>x.1.length≤1000000∧x.1.length+x.2.1.length≤1000000∧x.1.length<x.2.2.2.2.2∧(x.2.2.2.2.1=false→x.2.1=[])∧(psF x.2.2.2.2.2 x.1).map (fun q=>(x.2.1++q.1,q.2))=psR s0)
    (fun x=>x.1.length) (s0,[],0,0,false,s0.length+1) (fun _=>Nat.zero_le _) rfl ⟨hs,by simpa using hs,Nat.lt_succ_self _,fun _=>rfl,by simp[psR]⟩ ?_ ?_ ?_ ?_
  · simp only[bz,Av.get,Nat.reduceEqDiff,↓reduceIte,bg,dk,dm,and_self,true_and,and_true,List.length_map,List.length_nil]
  · simp only[cm,AV.hlt,AV.bf,bH,Bool.and_self,Bool.and_true,Bool.true_and,aJ,lrB,List.length_cons,List.length_nil]
    decide
  · simp[mem,lrB,lrV,lrZ,bm,OB.hlt,AV.bf,AV.hlt]
  rintro⟨s,L,k,j,z,fu⟩ ⟨l1,l2,l3,l4,l5⟩;simp only at l1 l2 l3 l4 l5 ⊢;obtain⟨v,hv⟩: ∃v,v=lrV k z L:=⟨_,rfl⟩
  obtain⟨M,hM⟩: ∃M,M=mem (lrB s g n (lrV k z L)) aD k j z L:=⟨_,rfl⟩
  have hok:okH M:=by rw[hM];exact HS
  have hM0:M[0]? =some lrZ:=by rw[hM,dw (by simp[lrB])];rfl
  have hM1:M[1]? =some (.cells [.str s] false):=by rw[hM,dw (by simp[lrB])];rfl
  have hM2:M[2]? =some (.cells [.str g,.str n,v,.str []] false):=by rw[hM,dw (by simp[lrB]),hv];rfl
  have hMl:3≤M.length:=by rw[hM,aJ];simp[lrB];omega
  rw[←hM];have hokS: ∀t:Bytes,okH (M.set 1 (.cells [.str t] false)):=fun t=>wS hok (fun m _=>rfl);have hgS: ∀t:Bytes,(M.set 1 (.cells [.str t] false))[1]? =some (.cells [.str t] false):=fun t=>DW hM1;have hi:=isR hM1 hok [59];have hvh: ∀m,M.length≤m→v.hlt m=true:=by
    intro m hm;rw[hv];refine ng fun hz=> ?_;rw[hM,aJ,hz]at hm;simp[lrB]at hm;omega
  obtain⟨fu,rfl⟩: ∃f,fu=f+1:=⟨fu - 1,by omega⟩
  rw[psF]at l5;by_cases q:cT s [59]=true
  · rw [q]at hi
    rw[if_pos q]at l5;have hlen:=Bz q;obtain⟨s1,hs1⟩: ∃s1,s1=bN s [59]:=⟨_,rfl⟩
    rw[←hs1]at hi l5 hlen;simp only[List.length_cons,List.length_nil]at hlen;have hp:=HQ (hgS s1) (hokS s1) (by omega);have hpl:=EF s1;rw[List.set_set]at hp;refine .vc (by decide) ?_;obtain⟨⟨o,t⟩,ht⟩: ∃x,x=prR s1:=⟨_,rfl⟩
    rw[←ht]at hp hpl l5;simp only at hp hpl;cases o with
    | none=>
      simp only[Option.map_none]at l5;have hend:lY g n s0=none:=by simp only[lY,←l5]
      rw[hend];simp only at hp
      repeat'(first|(simp(disch:=first|omega|(simp only[zL];omega))only[go_sem,seval,hM2,zM])|(guard_target=~ aj _ _ _ _ _ _ _;refine aj.sh hi ?_))
      refine W.FT 3 [] [] [false,false,false] [] mixed (by kernel_rfl) (by kernel_rfl) (by kernel_rfl) ?_
      repeat'(first|(simp(disch:=first|omega|(simp only[zL];omega))only[go_sem,seval,hM2,zM])|(guard_target=~ ar _ _ _ _ _ _ _;refine ar.tc hp ?_))
      exact⟨_,rfl,rfl,_,rfl,.refl _⟩
    | some p=>
      simp only at hp l5;obtain⟨M',ha1,ha2,ha3,ha4,ha5⟩:=jn (wd:=3) (bytes:=32) Tryz.underlying44 vb aD oC (fun _=>rfl) (by decide) (lrB t g n (lrV k z L)) k j z L (w0:=0) (fun hz=>.inr (l4 hz)) [] p true (by omega) (M:=M.set 1 (.cells [.str t] false)) (by rw[hM,mem_set (by simp[lrB])];rfl);have hk:(M.set 1 (.cells [.str t] false)).length+([]:List OB).length - (lrB t g n (lrV k z L)).length=M.length - 3:=by rw[List.length_set];simp[lrB]
      rw[hk]at ha1 ha4;have hBl:(lrB t g n (lrV k z L)).length=3:=rfl;rw[List.append_nil,hBl,←xn l4,←hv]at ha1;obtain⟨k',hk'⟩: ∃k',k'=M.length - 3:=⟨_,rfl⟩
      rw[←hk']at ha1 ha4;have hvN:bp 3 0 3 aD k' true (L++[p])=.sl (3+k') 0 (L++[p]).length 3:=rfl;rw[hvN]at ha1;have hM'2:M'[2]? =some (.cells [.str g,.str n,v,.str []] false):=by rw[ha5 2 (by simp[lrB]),hv];rfl
      simp only[aD]at hp;have hvd:deN v=bp 3 0 3 aD k z L:=by rw[hv];exact xn l4
      repeat'(first|(simp(disch:=first|omega|(simp only[zL];omega))only[go_sem,seval,hM2,zM])|(guard_target=~ aj _ _ _ _ _ _ _;refine aj.sh hi ?_))
      refine W.bw [3,5,7] [false,false,false,true,false,true,false,true] [(1,4)] mixed (by kernel_rfl) (by kernel_rfl) (by kernel_rfl) ?_
      repeat'(first|(simp(disch:=first|omega|(simp only[zL];omega))only[go_sem,seval,hM2,hb1 p,ha1,hM'2,zM])|(guard_target=~ ar _ _ _ _ _ _ _;refine ar.sh hp ?_))
      refine⟨(t,L++[p],k',0,true,fu),⟨by simp only;omega,by simp only[List.length_append,List.length_cons,List.length_nil];omega,by simp only;omega,(fun h=>by cases h),?_⟩,by simp only;omega,?_,?_,?_⟩
      · simp only
        rw[←l5];cases psF fu t<;>simp
      · simp only[bz,Av.get,Nat.reduceEqDiff,↓reduceIte,bg,dk,dm,and_self,true_and,and_true,List.length_map,List.length_nil]
      · have:3≤(mem (lrB t g n (lrV k' true (L++[p]))) aD k' 0 true (L++[p])).length:=by rw[aJ];simp[lrB];omega
        simp only[cm,AV.hlt,Bool.and_eq_true,decide_eq_true_eq,Bool.and_true];omega
      · have h4:=ha4 (mem (lrB t g n (lrV k' true (L++[p]))) aD k' 0 true (L++[p])).length (xo (ng fun hz=> ?_)) (jV _)
        · have h5:=gK (b:=.cells [.str g,.str n,lrV k' true (L++[p]),.str []] false) (i:=2) ?_ h4
          · rw[mem_set (by simp[lrB])]at h5
            have e:(lrB t g n (lrV k z L)).set 2 (.cells [.str g,.str n,lrV k' true (L++[p]),.str []] false)=lrB t g n (lrV k' true (L++[p])):=rfl;rw[e]at h5;simpa[lrV]using h5
          · have:(lrV k' true (L++[p])).hlt (mem (lrB t g n (lrV k' true (L++[p]))) aD k' 0 true (L++[p])).length=true:=ng fun _=>by rw[aJ];simp[lrB]
            simp[OB.hlt,AV.bf,AV.hlt,this]
        · rw[aJ,hk']
          rw[hM,aJ,hz];simp[lrB];omega
  · have q:cT s [59]=false:=by simpa using q
    rw[q]at hi;rw[if_neg (by simp[q])]at l5;have hcut:bN s [59]=s:=by unfold bN;rw[if_neg (by simp[q])]
    rw[hcut,dJ hM1]at hi;simp only[Option.map_some,List.append_nil]at l5;have hj:=isR hM1 hok [58];refine .vc (by decide) ?_;by_cases q2:cT s [58]=true
    · rw [q2]at hj
      have hend:lY g n s0=some ⟨g,n,false,L,bN s [58]⟩:=by simp only[lY,←l5,q2,if_true]
      rw[hend]
      repeat'(first|(simp(disch:=first|omega|(simp only[zL];omega))only[go_sem,seval,hM0,hM1,hM2,zM])|(guard_target=~ aj _ _ _ _ _ _ _;refine aj.sh hi ?_))
      refine .vc (by decide) ?_;have hMk:z=true→(M.set 1 (.cells [.str (bN s [58])] false))[3+k]? =some (.cells (be aD L) true):=by
        intro hz;rw[List.getElem?_set_ne (by omega),hM,hz];exact dR (B:=lrB s g n (lrV k true L))
      have hvc: ∀c c0,∃u,fz (((M.set 1 (.cells [.str (bN s [58])] false)).set 2 c).set 0 c0) 19 v=some u∧Le u (.vsl 3 false (L.map aD)):=by
        intro c c0;cases z with
        |false=>rw[hv,l4 rfl];exact⟨_,rfl,.nils _ _⟩
        | true=>
          rw[hv];refine hG (n:=2) (k:=18) (by decide) (fun x=>⟨[.str x.1,.str x.2],rfl,rfl⟩) (fun _=>rfl) (.inr ⟨3+k,rfl,?_⟩);rw[List.getElem?_set_ne (by omega),List.getElem?_set_ne (by omega)];exact hMk rfl
      have hvI:v=.nilsl∨ ∃a b,v=.sl a 0 b 3:=by rw[hv];cases z<;>simp[lrV]
      rcases hvI with hvI|⟨a,b,hvI⟩<;>rw[hvI]at hM2 hvc
      all_goals
        repeat'(first|(simp(disch:=first|omega|(simp only[zL];omega))only[go_sem,seval,hM0,hM1,hM2,lrZ,zM])|(guard_target=~ aj _ _ _ _ _ _ _;refine aj.sh hj ?_)|((with_reducible first|apply aj.pure|apply ar.pure);(with_reducible exact jE);(first|rfl|simp only[go_sem])))
        refine JG (v:=.agg [.str g,.str n,_,.str (bN s [58])]) 2 46 rfl rfl ?_ (gn (k:=18) (ts:=[.str g,.str n,.vsl 3 false (L.map aD),.str (bN s [58])]) (cM rfl (cM rfl ⟨hvc _ _,cM rfl trivial⟩)));simp(disch:=first|omega|(simp only[zL];omega))only[go_sem,seval,hM0,lrZ,zM]
    · have q2:cT s [58]=false:=by simpa using q2
      rw[q2]at hj;have hend:lY g n s0=none:=by simp only[lY,←l5,q2,Bool.false_eq_true,if_false]
      rw[hend]
      repeat'(first|(simp(disch:=first|omega|(simp only[zL];omega))only[go_sem,seval,hM2,zM])|(guard_target=~ aj _ _ _ _ _ _ _;refine aj.sh hi ?_))
      refine .vc (by decide) ?_
      repeat'(first|(simp(disch:=first|omega|(simp only[zL];omega))only[go_sem,seval,hM2,zM])|(guard_target=~ aj _ _ _ _ _ _ _;refine aj.sh hj ?_)|(guard_target=~ aj _ _ _ _ _ _ _;refine aj.pan eZ rfl ?_))
      exact⟨_,rfl,rfl,_,rfl,.refl _⟩
set_option maxRecDepth 8000 in
theorem HT(s:Bytes)(hs:s.length≤1000000):ad Tryz.prog 86 [.str s] (xm (lnR s)):=by
 refine ad.of Tryz.func86 rfl (ab enters Tryz.func86 rfl) (by simp[Tryz.ntmps86]) ?_;show W Tryz.prog 39 0 none _ _ _;have hb1:∀s:Bytes,bW Tryz.prog 152 [(0,.str s)]=some (.agg [.str s]):=fun s=>by kernel_rfl
 have hb2:∀s:Bytes,bW Tryz.prog 154 [(0,.agg [.str s])]=some (.agg [.str s]):=fun s=>by kernel_rfl
 have hb3:∀s:Bytes,bW Tryz.prog 46 [(1,.str s)]=some (.agg [.str [],.str s,.nilsl,.str []]):=fun s=>by kernel_rfl
 refine .seq (.vc (by decide) ?_)
 repeat'(first|(simp(disch:=first|omega|(simp only[zL];omega))only[go_sem,seval]))
 refine .seq (.vc (by decide) ?_)
 repeat'(first|(simp(disch:=first|omega|(simp only[zL];omega))only[go_sem,seval,hb1,hb2]))
 have hok1:okH [lrZ,.cells [.str s] false]:=fun m _=>rfl;cases h1:nmR s with
 |none=>
  have e:lnR s=none:=by simp only[lnR,h1]
  rw[e];have hn:=rI (r:=1) rfl hok1 h1;simp only[lrZ]at hn;refine .seq (.vc (by decide) ?_)
  repeat'(first|(simp(disch:=first|omega|(simp only[zL];omega))only[go_sem,seval])|(guard_target=~ aj _ _ _ _ _ _ _;refine aj.tc hn ?_))
  exact⟨_,rfl,rfl,_,rfl,.refl _⟩
 | some p=>
  obtain⟨n,t⟩:=p;have l1:=gr h1;have hn:=rH (r:=1) rfl hok1 h1;simp only[lrZ,List.set_cons_succ,List.set_cons_zero]at hn;refine .seq (.vc (by decide) ?_)
  repeat'(first|(simp(disch:=first|omega|(simp only[zL];omega))only[go_sem,seval,hb3])|(guard_target=~ aj _ _ _ _ _ _ _;refine aj.sh hn ?_))
  have hok2:∀a b c:Bytes,okH (lrB a b c .nilsl):=fun a b c m _=>rfl;have hi:=isR (r:=1) (s:=t) (H:=lrB t [] n .nilsl) rfl (hok2 _ _ _) [46];rw[tH]at hi;simp only[lrB,lrZ]at hi;by_cases q:cT t [46]=true
  ·rw[q]at hi
   have l2:=iR t [46];obtain⟨t2,ht2⟩:∃t2,t2=bN t [46]:=⟨_,rfl⟩
   rw[←ht2]at hi l2;cases h2:nmR t2 with
   |none=>
    have e:lnR s=none:=by simp only[lnR,h1,q,if_true,←ht2,h2]
    rw[e];have hm:=rI (r:=1) (s:=t2) (H:=lrB t2 [] n .nilsl) rfl (hok2 _ _ _) h2;simp only[lrB,lrZ]at hm;refine .seq (.vc (by decide) ?_)
    repeat'(first|(simp(disch:=first|omega|(simp only[zL];omega))only[go_sem,seval])|(guard_target=~ aj _ _ _ _ _ _ _;refine aj.sh hi ?_))
    refine W.FT 3 [4] [] [false,false,false] [] mixed (by kernel_rfl) (by kernel_rfl) (by kernel_rfl) ?_
    repeat'(first|(simp(disch:=first|omega|(simp only[zL];omega))only[go_sem,seval])|(guard_target=~ ar _ _ _ _ _ _ _;refine ar.tc hm ?_))
    exact⟨⟨_,rfl⟩,_,rfl,rfl,_,rfl,.refl _⟩
   |some p2=>
    obtain⟨m,u⟩:=p2;have l3:=gr h2;have e:lnR s=lY n m u:=by simp only[lnR,h1,q,if_true,←ht2,h2]
    rw[e];have hm:=rH (r:=1) (s:=t2) (H:=lrB t2 [] n .nilsl) rfl (hok2 _ _ _) h2;rw[tH]at hm;simp only[lrB,lrZ]at hm;refine W.gX [(2,.ptr 0 0),(3,.ptr 1 0),(4,.ptr 2 0)] (lrB u n m .nilsl) (.vc (by decide) ?_) (BA n m u (by omega) _ ⟨rfl,rfl,rfl,trivial⟩);simp only[lrB,lrZ]
    repeat'(first|(simp(disch:=first|omega|(simp only[zL];omega))only[go_sem,seval])|(guard_target=~ aj _ _ _ _ _ _ _;refine aj.sh hi ?_))
    refine W.bw [3,5,7] [false,false,false,true,false,true,false,true] [(1,4)] mixed (by kernel_rfl) (by kernel_rfl) (by kernel_rfl) ?_
    repeat'(first|(simp(disch:=first|omega|(simp only[zL];omega))only[go_sem,seval])|(guard_target=~ ar _ _ _ _ _ _ _;refine ar.sh hm ?_))
    exact⟨rfl,rfl,rfl,trivial⟩
  ·have q:cT t [46]=false:=by simpa using q
   rw[q]at hi;have hcut:bN t [46]=t:=by unfold bN;rw[if_neg (by simp[q])]
   rw[hcut]at hi;have e:lnR s=lY [] n t:=by simp only[lnR,h1,q,Bool.false_eq_true,if_false]
   rw[e];refine W.gX [(2,.ptr 0 0),(3,.ptr 1 0),(4,.ptr 2 0)] (lrB t [] n .nilsl) (.vc (by decide) ?_) (BA [] n t (by omega) _ ⟨rfl,rfl,rfl,trivial⟩);simp only[lrB,lrZ]
   repeat'(first|(simp(disch:=first|omega|(simp only[zL];omega))only[go_sem,seval])|(guard_target=~ aj _ _ _ _ _ _ _;refine aj.sh hi ?_))
   exact⟨rfl,rfl,rfl,trivial⟩
def dT:Nat→Bytes→List Bytes
 |0,_=>[]
 |n+1,s=>if s=[]then []else(if(ct s 10).2.2 then fQ (ct s 10).1 [13]else(ct s 10).1)::dT n (ct s 10).2.1
def fg(u:Bytes):List Bytes:=dT (u.length+1) u
def cV(s:Bytes):List Bytes:=fg (unf s)
theorem nh{s:Bytes}{c:UInt8}(h:s≠ []):(ct s c).2.1.length<s.length:=by
 cases s with
 |nil=>exact(h rfl).elim
 |cons x t=>
  have:=kX t c;unfold ct;split
  ·simp
  ·simp;omega
theorem lZ:∀(s:Bytes) (c:UInt8),(ct s c).1.length≤s.length
 | [],c=>by simp[ct]
 |x::t,c=>by
  have:=lZ t c;unfold ct;split
  ·simp
  ·simp;omega
set_option maxRecDepth 8000 in
theorem Kj (yid:Nat) (s:Bytes) (hs:s.length≤1000000) (H:List OB) (J:List Bytes→List OB→Prop) (hJ:J [] H)
    (hstep: ∀l m K,l.length≤1000000→J l K→ ∃K',YFn Tryz.prog yid [.str m] K (.ret (.bool true)) K'∧J (l++[m]) K'):
    ba Tryz.prog 159 [.yld yid,.vptr [.str s]] H (fun out K=>out=.ret (.tup [])∧J (cV s) K):=by
  refine ba.ofX Tryz.func159 rfl (ab enters Tryz.func159 rfl) (by simp[Tryz.ntmps159]) ?_;show W Tryz.prog 25 _ none _ _ _;refine W.ey ?_;have hu:=ob s hs;have hul:=ib s;refine .vc (by decide) ?_
  repeat'(first|(simp(disch:=first|omega|(simp only[zL];omega))only[go_sem,seval])|((with_reducible first|apply aj.pure|apply ar.pure);(with_reducible exact hu);(first|rfl|simp only[go_sem])))
  refine W.loop (X:=Bytes×List Bytes×Nat) (fun x a=>aC a.T [(0,.yld yid),(3,.str x.1)]∧J x.2.1 a.H∧a.D=[]∧x.2.1++dT x.2.2 x.1=cV s∧x.1.length<x.2.2∧x.2.1.length+x.1.length≤1000000) (fun x=>x.1.length) (unf s,[],(unf s).length+1) ⟨⟨rfl,rfl,trivial⟩,hJ,rfl,rfl,Nat.lt_succ_self _,by simp;omega⟩ ?_;rintro⟨left,l,n⟩ ⟨T,K,D⟩ ⟨h1,h2,rfl,h4,h5,h6⟩;simp only at h1 h2 h4 h5 h6;refine W.bG _ h1 (.vc (by decide) ?_);obtain⟨n,rfl⟩: ∃k,n=k+1:=⟨n - 1,by omega⟩
  rw[dT]at h4;by_cases q:left=[]
  · have e:(left==[])=true:=by simp[q]
    rw[if_pos q,List.append_nil]at h4
    repeat'(first|(simp(disch:=first|omega|(simp only[zL];omega))only[go_sem,seval,e]))
    exact⟨_,_,⟨rfl,h4 ▸ h2⟩,_,rfl,rfl,_,rfl,rfl⟩
  · have e:(left==[])=false:=by simp[q]
    rw[if_neg q]at h4;have hc:=Bd left 10 (by omega);have hl:=nh (c:=10) q;have hl1:=lZ left 10;obtain⟨⟨a,b,is⟩,hv⟩: ∃x,x=ct left 10:=⟨_,rfl⟩
    rw[←hv]at hc h4 hl hl1;simp only at h4 hl hl1;cases is with
    | true=>
      have ht:=En a [13] (by omega);rw[if_pos rfl]at h4;obtain⟨K',hy,hJ'⟩:=hstep l (fQ a [13]) K (by omega) h2
      repeat'(first|(simp(disch:=first|omega|(simp only[zL];omega))only[go_sem,seval,e])|(guard_target=~ aj _ _ _ _ _ _ _;refine aj.sh hy ?_)|((with_reducible first|apply aj.pure|apply ar.pure);(with_reducible assumption);(first|rfl|simp only[go_sem])))
      exact⟨(b,l++[fQ a [13]],n),⟨⟨rfl,rfl,trivial⟩,hJ',by rw[←h4];simp,by simp only;omega,by simp only[List.length_append,List.length_cons,List.length_nil];omega⟩,hl⟩
    | false=>
      rw[if_neg (by simp)]at h4;obtain⟨K',hy,hJ'⟩:=hstep l a K (by omega) h2
      repeat'(first|(simp(disch:=first|omega|(simp only[zL];omega))only[go_sem,seval,e])|(guard_target=~ aj _ _ _ _ _ _ _;refine aj.sh hy ?_)|((with_reducible first|apply aj.pure|apply ar.pure);(with_reducible exact hc);(first|rfl|simp only[go_sem])))
      exact⟨(b,l++[a],n),⟨⟨rfl,rfl,trivial⟩,hJ',by rw[←h4];simp,by simp only;omega,by simp only[List.length_append,List.length_cons,List.length_nil];omega⟩,hl⟩
/-! ### Collected -/
noncomputable def asC:Code:=match Tryz.f120.body with
 |some (.seq _ (.seq (.seq _ (.block _ (.rangeFunc _ _ a _))) _))=>a
 |_=>.skip
noncomputable def bdC:Code:=match Tryz.f120.body with
 |some (.seq _ (.seq (.seq _ (.block _ (.rangeFunc _ _ _ b))) _))=>b
 |_=>.skip
noncomputable def lkC:cW:=⟨13,#[7],asC,bdC,.ready,none⟩
noncomputable def kbC:cW:=⟨13,#[7],asC,bdC,.busy,none⟩
def tC(g:AV):List (Nat×AV):=[(6,g),(4,.vsl 0 true []),(2,.ptr 0 0),(0,.vsl 0 true []),(1,g)]
def jC(g:AV)(s:List Bytes)(K:List OB):Prop:=
 K[1]? =some .dfr∧K[2]? =some (.loop (tC g) lkC)∧∃v,K[0]? =some (.cells [v] false)∧nT 0 .str K v s∧v.isC=true∧(∀i,i<3→v≠ .sl i 0 s.length 0)∧deN v=v
theorem HU(H:List OB)(id:Nat)(v:AV)(b:Bool)(h:H[id]? =some (.cells [v] b)):ao Tryz.prog 25 (.ptr id 0) H=some v:=by
 simp[yo,ldC,h]
theorem Mv(H:List OB)(id:Nat)(u v:AV)(h:H[id]? =some (.cells [u] false))(hv:v.isC=true):aA Tryz.prog 25 (.ptr id 0) v H=some (H.set id (.cells [v] false)):=by
 have hc:v.cells=[v]:=dI (by cases v<;>first|rfl|cases hv);simp[Dc,stC,h,hc,hv,cz]
theorem ma(s:Bytes):au Tryz.prog 25 1 [(0,.str s)]=some (.vsl 0 true [.str s]):=by
 simp[au,Tryz.underlying25,gH,AV.cells,AV.told,List.range']
set_option maxRecDepth 100000 in
theorem BB(g:AV)(s:List Bytes)(m:Bytes)(K:List OB)(hs:s.length≤1000000)(hJ:jC g s K):
    ∃K',YFn Tryz.prog 2 [.str m] K (.ret (.bool true)) K'∧jC g (s++[m]) K':=by
  obtain⟨h1,h2,v,h0,hin,hvc,hne,hde⟩:=hJ;have l2:2<K.length:=(List.getElem?_eq_some_iff.1 h2).1;obtain⟨M,hM⟩: ∃M,M=K.set 2 (.loop (tC g) kbC):=⟨_,rfl⟩
  have lM:M.length=K.length:=by rw[hM,List.length_set]
  have gM: ∀i,i≠2→M[i]? =K[i]? :=by
    intro i hi2;rw[hM,List.getElem?_set,if_neg (by omega)]
  have gM2:M[2]? =some (.loop (tC g) kbC):=by rw[hM,List.getElem?_set_self (by omega)]
  have hin':nT 0 AV.str M v s:=by
    rcases hin with h|⟨d,hv,hd⟩
    · exact .inl h
    · have hd2:d≠2:=by rintro rfl;rw[h2]at hd;cases hd
      exact .inr ⟨d,hv,by rw[gM d hd2];exact hd⟩
  obtain⟨M',hap,hl',hnew,hold⟩:=kJ (P:=Tryz.prog) (sT:=25) (wd:=0) (bytes:=16) Tryz.underlying25 gH AV.str (fun _=>rfl) (fun _=>rfl) (by decide) hin' m true (by omega);have o0:M'[0]? =some (.cells [v] false):=by rw[hold 0 (by omega) (hne 0 (by omega)),gM 0 (by omega)];exact h0
  have o1:M'[1]? =some .dfr:=by rw[hold 1 (by omega) (hne 1 (by omega)),gM 1 (by omega)];exact h1
  have o2:M'[2]? =some (.loop (tC g) kbC):=by rw[hold 2 (by omega) (hne 2 (by omega))];exact gM2
  have k0:ao Tryz.prog 25 (.ptr 0 0) M=some v:=HU M 0 v false (by rw[gM 0 (by omega)];exact h0);have k2:aA Tryz.prog 25 (.ptr 0 0) (.sl M.length 0 (s.length+1) 0) M'=some (M'.set 0 (.cells [.sl M.length 0 (s.length+1) 0] false)):=Mv M' 0 v _ o0 rfl;refine⟨(M'.set 0 (.cells [.sl M.length 0 (s.length+1) 0] false)).set 2 (.loop (tC g) lkC),?_,?_⟩
  · refine YFn.of h2 (by simp[lkC]) fun l=> ?_
    show W Tryz.prog 13 _ _ (.region 2 _ _) _ ⟨(7,.str m)::tC g,K,[]⟩;refine .vc (by decide) ?_
    repeat'(first|(simp(disch:=first|omega|(simp only[zL];omega))only[go_sem,seval,tC]))
    refine⟨tC g,lkC,h2,rfl,?_⟩;rw[show({lkC with st:=.busy}:cW)=kbC from rfl];show W Tryz.prog 13 _ _ (.block 1 (.region 3 _ _)) _ ⟨_,K.set 2 _,_⟩;rw[←hM];refine .vc (by decide) ?_
    repeat'(first|(simp(disch:=first|omega|(simp only[zL];omega))only[go_sem,seval,k0,ma,hde,hap,k2,tC]))
    refine⟨tC g,kbC,?_,rfl,rfl⟩;show(M'.set 0 _)[2]? =_;rw[List.getElem?_set,if_neg (by decide)];exact o2
  · have q: ∀i,i≠0→i≠2→((M'.set 0 (.cells [.sl M.length 0 (s.length+1) 0] false)).set 2 (.loop (tC g) lkC))[i]? =M'[i]? :=by
      intro i hi0 hi2;rw[List.getElem?_set,if_neg (by omega),List.getElem?_set,if_neg (by omega)]
    refine⟨by rw[q 1 (by decide) (by decide)];exact o1,?_,.sl M.length 0 (s.length+1) 0,?_,.inr ⟨M.length,by simp,?_⟩,rfl,?_,rfl⟩
    · rw[List.getElem?_set_self (by rw[List.length_set];omega)]
    · rw[List.getElem?_set,if_neg (by decide),List.getElem?_set_self (by omega)]
    · rw[q M.length (by omega) (by omega)];exact hnew
    · intro i hi h
      injection h with h3
      omega
theorem Kk{P:Program}{rs:List ResultVar}{a:St}{v u v':AV}(t d:Nat)(hr:rs=[.tmp t])(hD:a.D=[.mark d])(hd:a.H[d]? =some .dfr)(hg:Av.get a.T t=v)(hz:fz (a.H.set d .dead) 20 v=some u)(hl:Le u v'):eI P rs (.ret v') .ret a:=by
 obtain⟨T,H,D⟩:=a;simp only at hD hd hg hz;subst hD;subst hr;subst hg;refine⟨⟨T,H.set d .dead,[]⟩,?_,u,hz,hl⟩;simp[fe,jB,hd]
theorem BC{M:List OB}{v:AV}{L:List Bytes}{k:Nat}(h:nT 0 AV.str M v L):∃u,fz M (k+1) v=some u∧Le u (.vsl 0 false (L.map .str)):=by
 rcases h with⟨rfl,w,rfl⟩|⟨d,rfl,hd⟩
 ·exact⟨_,rfl,.nil _ _ _⟩
 ·have hc:be AV.str L=L.map .str:=dE L
  rw[hc]at hd;refine⟨.vsl 0 false (L.map .str),?_,.refl _⟩;have e:(L.map AV.str).take L.length=L.map .str:=List.take_of_length_le (by simp);have:=lL (k:=k) (off:=0) (len:=L.length) hd (by simp) (by rw[List.drop_zero,e];exact az L) (by rw[List.drop_zero,e];exact di L);rwa[List.drop_zero,e]at this
set_option maxRecDepth 100000 in
theorem Mw(s:Bytes)(hs:s.length≤1000000):
    ad Tryz.prog 120 [.vsl 0 true [],.func (.func 159) [] [.vptr [.str s]]] (.ret (.vsl 0 false ((cV s).map .str))):=by
  generalize hg:AV.func (.func 159) [] [.vptr [.str s]]=g;refine ad.of Tryz.func120 rfl (ab enters Tryz.func120 rfl) (by simp[Tryz.ntmps120]) ?_;show W Tryz.prog 13 0 none _ _ _;refine W.vc (by decide) ?_
  repeat'(first|(simp(disch:=first|omega|(simp only[zL];omega))only[go_sem,seval]))
  have hstep:=Kj 2 s hs ([.cells [.vsl 0 true []] false]++[.dfr,.loop (tC g) lkC]) (jC g) ⟨rfl,rfl,_,rfl,.inl ⟨rfl,0,rfl⟩,rfl,(by intro i _ h;cases h),rfl⟩ (fun l m K hl hJ=>BB g l m K hl hJ);refine W.fN (gf:=159) (fs:=[]) (cs:=[.vptr [.str s]]) (by rw[hg];rfl) (ab enters Tryz.func159 rfl) hstep ?_;rintro out K ⟨rfl,h1,h2,v,h0,hin,hvc,hne,hde⟩;refine⟨_,_,_,rfl,h2,by simp[lkC],?_⟩;show cw _ _ _ _ _ none;have l2:2<K.length:=(List.getElem?_eq_some_iff.1 h2).1;have k0:ao Tryz.prog 25 (.ptr 0 0) (K.set 2 .dead)=some v:=HU _ 0 v false (by rw[List.getElem?_set,if_neg (by decide)];exact h0)
  simp(disch:=first|omega|(simp only[zL];omega))only[go_sem,seval,cw,k0];have hin':nT 0 AV.str ((K.set 2 .dead).set 1 .dead) v (cV s):=by
    rcases hin with h|⟨d,hv,hd⟩
    · exact .inl h
    · have hd2:d≠2:=by rintro rfl;rw[h2]at hd;cases hd
      have hd1:d≠1:=by rintro rfl;rw[h1]at hd;cases hd
      exact .inr ⟨d,hv,by rw[List.getElem?_set,if_neg (by omega),List.getElem?_set,if_neg (by omega)];exact hd⟩
  obtain⟨u,hz,hle⟩:=BC (k:=19) hin';have hd1:(K.set 2 OB.dead)[1]? =some .dfr:=by rw[List.getElem?_set,if_neg (by decide)];exact h1
  exact Kk 4 1 rfl rfl hd1 rfl hz hle
theorem BD(s:Bytes)(hs:s.length≤1000000):
    ad Tryz.prog 72 [.func (.func 159) [] [.vptr [.str s]]] (.ret (.vsl 0 false ((cV s).map .str))):=by
  refine ad.of Tryz.func72 rfl (ab enters Tryz.func72 rfl) (by simp[Tryz.ntmps72]) ?_;show W Tryz.prog 5 0 none _ _ _;refine W.vc (by decide) ?_
  repeat'(first|(simp(disch:=first|omega|(simp only[zL];omega))only[go_sem,seval])|((with_reducible first|apply aj.pure|apply ar.pure);(with_reducible exact Mw s hs);(first|rfl|simp only[go_sem])))
  exact rn 2 rfl rfl rfl (by simp[Av.get,AV.hf,az]) (.refl _)
theorem Kl(s:Bytes):ad Tryz.prog 124 [.str s] (.ret (.func (.func 159) [] [.vptr [.str s]])):=by
 refine ad.of Tryz.func124 rfl (ab enters Tryz.func124 rfl) (by simp[Tryz.ntmps124]) ?_;show W Tryz.prog 4 0 none _ _ _;refine W.vc (by decide) ?_
 repeat'(first|(simp(disch:=first|omega|(simp only[zL];omega))only[go_sem,seval]))
 exact⟨_,rfl,_,rfl,.refl _⟩
theorem EG(s:Bytes)(hs:s.length≤1000000):ad Tryz.prog 82 [.str s] (.ret (.vsl 0 false ((cV s).map .str))):=by
 refine ad.of Tryz.func82 rfl (ab enters Tryz.func82 rfl) (by simp[Tryz.ntmps82]) ?_;show W Tryz.prog 6 0 none _ _ _;refine W.vc (by decide) ?_
 repeat'(first|(simp(disch:=first|omega|(simp only[zL];omega))only[go_sem,seval])|((with_reducible first|apply aj.pure|apply ar.pure);(with_reducible first|exact Kl s|exact BD s hs);(first|rfl|simp only[go_sem])))
 exact rn 2 rfl rfl rfl (by simp[Av.get,AV.hf,az]) (.refl _)
def jW(x:UInt8):Bytes:=if x=92∨x=44∨x=59 then [92,x]else if x=10 then [92,110]else [x]
def esc(s:Bytes):Bytes:=(s.map jW).flatten
def unn(x:UInt8):UInt8:=if x=110∨x=78 then 10 else x
def cH:Bytes→Bytes
 | []=>[]
 | [x]=>[x]
 |x::y::t=>if x=92 then unn y::cH t else x::cH (y::t)
def bu(m:UInt8):Bool→Bytes→Bytes→List Bytes
 |_,cur,[]=>[cur]
 |true,cur,x::t=>bu m false (cur++[x]) t
 |false,cur,x::t=>if x=92 then bu m true (cur++[x]) t else if x=m then cur::bu m false [] t else bu m false (cur++[x]) t
def ei(m:UInt8)(s:Bytes):List Bytes:=bu m false [] s
theorem oD(x:UInt8)(s:Bytes):esc (x::s)=jW x++esc s:=by simp[esc]
theorem xp(a b:Bytes):esc (a++b)=esc a++esc b:=by simp[esc]
theorem BE(x:UInt8):1≤(jW x).length∧(jW x).length≤2:=by unfold jW;split<;>(try split)<;>simp
theorem ni:∀s:Bytes,(esc s).length≤2*s.length
 | []=>by simp[esc]
 |x::s=>by have:=ni s;have:=BE x;rw[oD,List.length_append,List.length_cons];omega
theorem tJ{s:Bytes}{i:Nat}{x:UInt8}(h:s[i]? =some x):esc (s.take (i+1))=esc (s.take i)++jW x:=by
 rw[List.take_add_one,h,xp];simp[esc]
theorem mH(s:Bytes)(i:Nat):(esc (s.take i)).length≤(esc s).length:=by
 have:esc s=esc (s.take i)++esc (s.drop i):=by rw[←xp,List.take_append_drop]
 rw[this,List.length_append];omega
theorem tM(y:UInt8)(t:Bytes):cH (92::y::t)=unn y::cH t:=by rw[cH];simp
theorem tO{x:UInt8}(h:x≠92)(t:Bytes):cH (x::t)=x::cH t:=by
 cases t with
 |nil=>rfl
 |cons y t=>rw[cH,if_neg h]
theorem qk(x:UInt8):cH [x]=[x]:=rfl
theorem vE(m:UInt8)(cur:Bytes)(y:UInt8)(t:Bytes):bu m false cur (92::y::t)=bu m false (cur++[92,y]) t:=by
 rw[bu,if_pos rfl,bu];simp
theorem eQ(m:UInt8):∀(b:Bool) (cur t:Bytes),(bu m b cur t).length≤t.length+1
 |_,cur,[]=>by simp[bu]
 |true,cur,x::t=>by have:=eQ m false (cur++[x]) t;rw[bu];simp only[List.length_cons];omega
 |false,cur,x::t=>by
  have h1:=eQ m true (cur++[x]) t;have h2:=eQ m false [] t;have h3:=eQ m false (cur++[x]) t;rw[bu];split
  ·simp only[List.length_cons];omega
  ·split<;>simp only[List.length_cons]<;>omega
theorem gQ(m:UInt8):∀(t:Bytes) (b:Bool) (cur s:Bytes),s∈bu m b cur t→s.length≤cur.length+t.length
 | [],b,cur,s,h=>by
  have:s=cur:=by cases b<;>simpa[bu]using h
  rw[this];simp
 |x::t,true,cur,s,h=>by
  rw[bu]at h;have:=gQ m t _ _ s h;simp at this ⊢;omega
 | x::t,false,cur,s,h=>by
  rw[bu]at h;split at h
  ·have:=gQ m t _ _ s h
   simp at this ⊢;omega
  ·split at h
   ·rcases List.mem_cons.1 h with e|e
    ·subst e;simp
    ·have:=gQ m t _ _ s e
     simp at this ⊢;omega
   ·have:=gQ m t _ _ s h
    simp at this ⊢;omega
end Go.Proofs.YtekcidbpejicdaaGreatDoor
