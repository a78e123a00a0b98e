/- A framework of abstract values: no program in sight; under the conditions named at each theorem. -/
import Derived.Test.YtekcidbpejicdaaGreatDoorZbP3
import Derived.Test.YtekcidbpejicdaaGreatDoorZbP5
import Derived.Shelf.Sort.Plain
import Derived.Shelf.Spec.SlicesGrow
import Derived.ProofKit
import Derived.OpenShut
namespace Go.Av
set_option linter.unusedVariables false
set_option linter.unusedSimpArgs false
theorem get_mem(T:List (Nat×AV))(t:Nat):get T t=.junk∨(t,get T t)∈T:=by
 induction T with
 |nil=>exact .inl rfl
 | cons p T ih=>
  obtain⟨s,v⟩:=p;simp only[get];by_cases h:s=t
  ·subst h;rw[if_pos rfl];exact .inr (by simp)
  ·rw[if_neg h]
   rcases ih with ih|ih
   ·exact .inl ih
   ·exact .inr (List.mem_cons_of_mem _ ih)
def Ht(S:List Nat)(H:List OB)(T:List (Nat×AV)):List (Nat×AV)→Prop
 | []=>True
 |(t,v)::r=>(get T t=v∨∃v0,fz (cg S 0 H) 20 (get T t)=some v0∧Le v0 v)∧Ht S H T r
theorem tj{S:List Nat}{H:List OB}{T:List (Nat×AV)}:∀{T':List (Nat×AV)},Ht S H T T'→∀t v,(t,v)∈T'→get T t=v∨∃v0,fz (cg S 0 H) 20 (get T t)=some v0∧Le v0 v
 | [],_,t,v,h=>by simp at h
 |(s,u)::r,h,t,v,hm=>by
  rcases List.mem_cons.1 hm with e|hm
  ·cases e;exact h.1
  ·exact tj h.2 t v hm
theorem W.JP{P:Program}{n m:Nat}{R:Option Nat}{a:St}{Q:Ex→St→Prop}{c:Code}(S:List Nat)(T':List (Nat×AV))(h:Ht S a.H a.T T')(hc:W P n m R c Q ⟨T',cY S 0 a.H,a.D⟩):W P n m R c Q a:=by
 intro B act w ⟨F,μ,s,y,t⟩;obtain⟨x,s',hz⟩:=s.freeze S;refine hc B act w ⟨fq F μ (cg S 0 a.H),μ,s',y.trans x,⟨t.defers.mono x,t.size,fun i=>?_⟩⟩;rcases get_mem T' i with hj|hm
 ·rw[hj];exact .junk _
 ·rcases tj h i _ hm with he|⟨v0,h1,h2⟩
  ·have:=VR.mono x (t.slots i)
   rw[he]at this;exact this
  ·have h3:=hz _ _ _ h1 (t.slots i)
   have hx:Ext (fq F μ (cg S 0 a.H)) w noμ (fq F μ (cg S 0 a.H)) w μ:=⟨(fun id L h=>by cases h),fun _ _ h=>h,fun _ _ _ _ h=>h,fun _ _ _ _ h=>h⟩
   exact(VR.mono hx h3).le h2
section
variable{α:Type}
end
open Go.RowKit (Below)
open Go.Sort (putRow Holds)
def cq(l:List Bytes):List Bytes:=l.mergeSort fun x y=>decide (x≤y)
theorem tk(w:World)(n B:Nat):Below B w (Go.Sort.ahead w n):=⟨rfl,rfl,rfl,Nat.le_refl _,fun _ _=>rfl⟩
theorem vp(w:World)(os:Array Obj):Below w.heap.size w (Go.Sort.grow w os):=
 ⟨rfl,rfl,rfl,by simp[Go.Sort.grow],fun k hk=>by simp[Go.Sort.grow,Array.getElem?_append_left hk]⟩
variable{P:Program}
theorem Eg {f:FuncId} {fn:Func} {c:Code} (hN:Enters P) (hf:P.funcs[f]? =some fn) (hb:fn.body=some c)
    (hS: ∀(blk off cap:Nat) (ss:List (List UInt8)) (w:World),Holds Go.Proofs.encStr w blk off ss.toArray→blk<w.heap.size→ss.length<4611686018427387904→Calls P f #[.slice (some ⟨blk,off,none⟩) ss.length cap] w fun e w'=>
      e=.returned (.tuple #[])∧ ∃n os,w'=Go.Sort.grow (putRow Go.Proofs.encStr (Go.Sort.ahead w n) blk off (ss.mergeSort fun x y=>decide (x≤y)).toArray) os)
    {H:List OB} {d:Nat} {l:List Bytes} {opn:Bool} (hd:H[d]? =some (.cells (l.map .str) opn)) (hl:l.length≤1000000):
    aY P f [.sl d 0 l.length 0] H (.ret (.tup [])) (H.set d (.cells ((cq l).map .str) opn)):=by
  intro w0 F0 F μ w Vs s hv;cases hv with
  |cons _ _ _ _ h1 h2=>
  cases h2;cases h1 with
  |sl _ _ _ _ cap L hμ hc hlc hlb=>
  have hob:=s.obs d _ hd;cases hob with
  |cells _ _ L' ca el lo hi hμ' hB hw hcap hlen hfix hun hcs hF=>
  rw[hμ]at hμ';cases hμ';have hlen':l.length≤L.cap:=by simpa using hlen
  have hblk:L.block<w.heap.size:=(Array.getElem?_eq_some_iff.1 hw).1;have each: ∀(j:Nat) (t:Bytes),l[j]? =some t→ca[L.off+j]? =some (.string ⟨t.toArray⟩)∧t.length≤ay:=by
    intro j t ht;obtain⟨V,g1,g2⟩:=hcs j (.str t) (by simp[ht]);cases g2 with
    |str _ hb=>exact⟨g1,hb⟩
  have hH:Holds Go.Proofs.encStr w L.block (L.off+0) l.toArray:=by
    intro j hj;have hjl:j<l.length:=by simpa using hj
    obtain⟨g1,_⟩:=each j l[j] (List.getElem?_eq_getElem hjl);have hget:(l.toArray)[j]! =l[j]:=by rw[getElem!_pos _ j hj];simp
    refine⟨?_,?_⟩
    · rw[hget]
      simp only[World.cell?,hw,Nat.add_zero];simpa using g1
    · simp only[World.frozen?,hw,Nat.add_zero]
      have:=hun (L.off+j) (by omega) (by omega);simp only[Bool.and_eq_false_iff,decide_eq_false_iff_not];omega
  refine .inl ⟨w,ab hN hf hb _ _,rfl,(hS L.block (L.off+0) cap l w hH hblk (by omega)).mono ?_⟩;rintro e w' ⟨rfl,n,os,rfl⟩;obtain⟨x1,s1⟩:=s.behind (tk w n w.heap.size) (fun _ _ h=>h) (fun b o h=>s.lt b o h) (fun b o _ h=>h);have hD:(l.mergeSort fun x y=>decide (x≤y))=cq l:=rfl;rw[hD];have hperm:(cq l).Perm l:=List.mergeSort_perm _ _;have hsl:(cq l).length=l.length:=hperm.length_eq
  have hput:putRow Go.Proofs.encStr (Go.Sort.ahead w n) L.block (L.off+0) (cq l).toArray={Go.Sort.ahead w n with heap:=(Go.Sort.ahead w n).heap.setIfInBounds L.block (.cells (Go.Sort.putCells Go.Proofs.encStr L.off (cq l).toArray ca) el (lo,hi))}:=by
    unfold putRow Go.Sort.mapBlock;congr 1;apply Array.ext_getElem?;intro j;rw[Array.getElem?_modify,Array.getElem?_setIfInBounds];by_cases hj:L.block=j
    · subst hj
      rw[if_pos rfl,if_pos rfl,if_pos (show L.block<(Go.Sort.ahead w n).heap.size from hblk)];have:(Go.Sort.ahead w n).heap[L.block]? =some (.cells ca el (lo,hi)):=hw;rw[this];rfl
    · rw[if_neg hj,if_neg hj]
  rw[hput];have hcget: ∀i,i<l.length→(Go.Sort.putCells Go.Proofs.encStr L.off (cq l).toArray ca)[L.off+i]? =some (Go.Proofs.encStr ((cq l).toArray[i]!)):=by
    intro i hi;unfold Go.Sort.putCells;rw[Array.getElem?_mapIdx];obtain⟨g1,_⟩:=each i l[i] (List.getElem?_eq_getElem hi);rw[g1];simp only[Option.map_some];rw[if_pos ⟨by omega,by simp[hsl];omega⟩];rw[show L.off+i - L.off=i by omega]
  obtain⟨x2,s2⟩:=s1.write d _ (.cells ((cq l).map .str) opn) L hd rfl hμ (.cells (Go.Sort.putCells Go.Proofs.encStr L.off (cq l).toArray ca) el (lo,hi)) (fun x=>by
    refine .cells _ _ L (Go.Sort.putCells Go.Proofs.encStr L.off (cq l).toArray ca) el lo hi hμ hB ?_ (by simpa[Go.Sort.putCells]using hcap) (by simp[hsl];omega) (fun h=>by have:=hfix h;simpa[hsl]using this) hun ?_ hF
    · show((Go.Sort.ahead w n).heap.setIfInBounds L.block _)[L.block]? =_
      rw[Array.getElem?_setIfInBounds,if_pos rfl,if_pos (show L.block<(Go.Sort.ahead w n).heap.size from hblk)]
    · intro i v hv
      rw[List.getElem?_map,Option.map_eq_some_iff]at hv;obtain⟨t,ht,rfl⟩:=hv;have hi:i<(cq l).length:=(List.getElem?_eq_some_iff.1 ht).1;refine⟨_,hcget i (by omega),?_⟩;have hget:(cq l).toArray[i]! =t:=by
        rw[getElem!_pos _ i (by simpa using hi)];have:(cq l)[i]=t:=(List.getElem?_eq_some_iff.1 ht).2;simpa using this
      rw[hget];have hmem:t∈l:=hperm.mem_iff.1 (List.mem_of_getElem? ht);obtain⟨j,hj⟩:=List.mem_iff_getElem?.1 hmem
      exact .str t (each j t hj).2)
  obtain⟨x3,s3⟩:=s2.behind (vp _ os) (fun _ _ h=>h) (fun b o h=>Nat.lt_of_lt_of_le (s2.lt b o h) (by simp[Go.Sort.grow])) (fun b o _ h=>h);exact⟨F,μ,x1.trans (x2.trans x3),s3,.ret _ _ (.tup [] #[] .nil)⟩
end Go.Av
namespace Go.Av
set_option linter.unusedVariables false
set_option linter.unusedSimpArgs false
section
variable{α:Type}
end
open Go.RowKit (Below)
open Go Go.ChangeShapes Go.WideShapes Go.ChangeAt Go.RowKit
def vq(w:World):Nat→Nat→Prop:=fun b _=>b<w.heap.size
section
variable{H:Type} {enc:TypeId×Value→H} {P:Program} {w:World} {base:Nat} {sp:Nat→Bool} {held:Bool} {fuel:Nat} {x:DataW H×List MemPlace} {cs:List Value} {t e:TypeId}
def JQ(enc:TypeId×Value→H)(P:Program)(w:World)(base:Nat)(sp:Nat→Bool)(held:Bool)(t:TypeId)(good:AV→Prop):Prop:=
 ∀(fuel:Nat) (cs:List Value) (x:DataW H×List MemPlace),DataW.trod enc P w base sp held fuel t cs=some x→∃v,good v∧VRs (vq w) w noμ v.cells cs
theorem yB(ht:P.underlying t=some .string):JQ enc P w base sp held t (fun v=>∃s,v=.str s):=by
 intro fuel cs x h;obtain⟨s,rfl,_,hs⟩:=DataW.trod_string ht h;refine⟨.str s.data.toList,⟨_,rfl⟩,?_⟩;have:VR (vq w) w noμ (.str s.data.toList) (.string ⟨s.data.toList.toArray⟩):=.str _ (by simpa[ay,maxLen]using hs);exact .cons _ _ _ _ this .nil
end
end Go.Av
