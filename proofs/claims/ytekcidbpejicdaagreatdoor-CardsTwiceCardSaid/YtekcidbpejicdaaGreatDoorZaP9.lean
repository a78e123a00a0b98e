/- A framework of abstract values: no program in sight; under the conditions named at each theorem. -/
import Derived.Test.YtekcidbpejicdaaGreatDoorZaP3
import Derived.Test.YtekcidbpejicdaaGreatDoorZaP5
import Derived.Shelf.Sort.Plain
import Derived.Shelf.Spec.SlicesGrow
import Derived.ProofKit
import Derived.OpenShut
namespace Go.Av
set_option linter.unusedVariables false
set_option linter.unusedSimpArgs false
theorem get_mem(T:List (Nat×AV))(t:Nat):get T t=.junk∨(t,get T t)∈T:=by
 induction T with
 |nil=>exact .inl rfl
 | cons p T ih=>
  obtain⟨s,v⟩:=p;simp only[get];by_cases h:s=t
  ·subst h;rw[if_pos rfl];exact .inr (by simp)
  ·rw[if_neg h]
   rcases ih with ih|ih
   ·exact .inl ih
   ·exact .inr (List.mem_cons_of_mem _ ih)
def GP(S:List Nat)(H:List OB)(T:List (Nat×AV)):List (Nat×AV)→Prop
 | []=>True
 |(t,v)::r=>(get T t=v∨∃v0,fz (bH S 0 H) 20 (get T t)=some v0∧Le v0 v)∧GP S H T r
theorem uk{S:List Nat}{H:List OB}{T:List (Nat×AV)}:∀{T':List (Nat×AV)},GP S H T T'→∀t v,(t,v)∈T'→get T t=v∨∃v0,fz (bH S 0 H) 20 (get T t)=some v0∧Le v0 v
 | [],_,t,v,h=>by simp at h
 |(s,u)::r,h,t,v,hm=>by
  rcases List.mem_cons.1 hm with e|hm
  ·cases e;exact h.1
  ·exact uk h.2 t v hm
theorem W.FD{P:Program}{n m:Nat}{R:Option Nat}{a:St}{Q:Ex→St→Prop}{c:Code}(S:List Nat)(T':List (Nat×AV))(h:GP S a.H a.T T')(hc:W P n m R c Q ⟨T',cy S 0 a.H,a.D⟩):W P n m R c Q a:=by
 intro B act w ⟨F,μ,s,y,t⟩;obtain⟨x,s',hz⟩:=s.freeze S;refine hc B act w ⟨gi F μ (bH S 0 a.H),μ,s',y.trans x,⟨t.defers.mono x,t.size,fun i=>?_⟩⟩;rcases get_mem T' i with hj|hm
 ·rw[hj];exact .junk _
 ·rcases uk h i _ hm with he|⟨v0,h1,h2⟩
  ·have:=VR.mono x (t.slots i)
   rw[he]at this;exact this
  ·have h3:=hz _ _ _ h1 (t.slots i)
   have hx:Ext (gi F μ (bH S 0 a.H)) w noμ (gi F μ (bH S 0 a.H)) w μ:=⟨(fun id L h=>by cases h),fun _ _ h=>h,fun _ _ _ _ h=>h,fun _ _ _ _ h=>h⟩
   exact(VR.mono hx h3).le h2
section
variable{α:Type}
def xN(lo:Nat)(v:AV):Prop:=match v with
 | .sl d _ _ _=>lo≤d
 |_=>True
theorem qU {P:Program} {sT e:TypeId} {wd bytes:Nat} (hu:P.underlying sT=some (.slice e)) (ha:apT P e=some (esz wd,wd,bytes)) (f:α→AV) (hf: ∀x,(f x).cells.length=esz wd) (hc: ∀x,(f x).cells.all AV.isC=true) (hz:0<esz wd)
    {M:List OB} {v u:AV} {L N:List α} (lo:Nat) (h:kN wd f M v L) (hb1:xN lo v) (hlo:lo≤M.length) (hnew:bW (esz wd) u M=some (N.length,aU f N)) (hb:(L.length+N.length)*bytes≤2^47):
    ∃v' M',aG P sT sT v u M=some (v',M')∧kN wd f M' v' (L++N)∧xN lo v'∧lo≤M'.length∧ ∀i,i<lo→M'[i]? =M[i]? :=by
  have hflat:aU f (L++N)=aU f L++aU f N:=by simp[aU]
  have hisC:(aU f N).all AV.isC=true:=by
    rw[aU,List.all_flatMap,List.all_eq_true];intro u hu;obtain⟨a,_,rfl⟩:=List.mem_map.1 hu;exact hc a
  by_cases hN:N.length=0
  · have hN':N=[]:=List.eq_nil_of_length_eq_zero hN
    subst hN';have hfl:aU f ([]:List α)=[]:=rfl;rcases h with⟨rfl,w,rfl⟩|⟨d,rfl,hd⟩
    · refine⟨.vsl w true [],M,?_,.inl ⟨rfl,w,rfl⟩,trivial,hlo,fun _ _=>rfl⟩
      simp only[aG,hu,apX,ha,lr hnew,List.length_nil];rw[if_pos trivial]
    · have hlen:(aU f L).length=L.length*esz wd:=eL hf L
      have hb1':lo≤d:=hb1;refine⟨.sl d 0 L.length wd,M.set d (.cells (aU f L) true),?_,.inr ⟨d,by simp,by rw[List.append_nil,List.getElem?_set_self (List.getElem?_eq_some_iff.1 hd).1]⟩,hb1,by simpa using hlo,fun i hi=> ?_⟩
      · simp only[aG,hu,apX,ha,lr hnew,hd,hfl,List.length_nil]
        rw[if_pos ⟨trivial,rfl,by simpa using hb,by simp[hlen]⟩,if_pos (by simp[hlen])];simp[cm]
      · rw[List.getElem?_set,if_neg (by omega)]
  · rcases h with⟨rfl,w,rfl⟩|⟨d,rfl,hd⟩
    · have hold:bW (esz wd) (.vsl w true []) M=some (0,[]):=by simp[bW]
      refine⟨.sl M.length 0 N.length wd,M++[.cells (aU f N) true],?_,.inr ⟨M.length,by simp,by simp⟩,hlo,by simp;omega,fun i hi=>List.getElem?_append_left (by omega)⟩;simp only[aG,hu,apX,ha,lr hnew,hold,List.nil_append,List.length_nil,Nat.zero_add];rw[if_neg hN,if_pos (by simpa using hb)]
    · have hlen:(aU f L).length=L.length*esz wd:=eL hf L
      have hb1':lo≤d:=hb1;have hnot: ¬((L.length+N.length)*esz wd≤L.length*esz wd):=by
        rw[Nat.add_mul];have:0<N.length*esz wd:=Nat.mul_pos (by omega) hz;omega
      refine⟨.sl M.length 0 (L.length+N.length) wd,M.set d .dead++[.cells (aU f L++aU f N) true],?_,.inr ⟨M.length,by simp,?_⟩,hlo,by simp;omega,fun i hi=> ?_⟩
      · simp only[aG,hu,apX,ha,lr hnew,hd]
        rw[if_pos ⟨trivial,hisC,hb,by omega⟩];simp only[Nat.zero_add,hlen,if_true,List.drop_zero];rw[if_neg hnot]
      · rw[List.getElem?_append_right (by simp),hflat];simp
      · rw[List.getElem?_append_left (by simp;omega),List.getElem?_set,if_neg (by omega)]
end
open Go.RowKit (Below)
open Go.Sort (putRow Holds)
def cp(l:List Bytes):List Bytes:=l.mergeSort fun x y=>decide (x≤y)
theorem um(w:World)(n B:Nat):Below B w (Go.Sort.ahead w n):=⟨rfl,rfl,rfl,Nat.le_refl _,fun _ _=>rfl⟩
theorem wz(w:World)(os:Array Obj):Below w.heap.size w (Go.Sort.grow w os):=
 ⟨rfl,rfl,rfl,by simp[Go.Sort.grow],fun k hk=>by simp[Go.Sort.grow,Array.getElem?_append_left hk]⟩
variable{P:Program}
theorem Eb {f:FuncId} {fn:Func} {c:Code} (hN:Enters P) (hf:P.funcs[f]? =some fn) (hb:fn.body=some c)
    (hS: ∀(blk off cap:Nat) (ss:List (List UInt8)) (w:World),Holds Go.Proofs.encStr w blk off ss.toArray→blk<w.heap.size→ss.length<4611686018427387904→Calls P f #[.slice (some ⟨blk,off,none⟩) ss.length cap] w fun e w'=>
      e=.returned (.tuple #[])∧ ∃n os,w'=Go.Sort.grow (putRow Go.Proofs.encStr (Go.Sort.ahead w n) blk off (ss.mergeSort fun x y=>decide (x≤y)).toArray) os)
    {H:List OB} {d:Nat} {l:List Bytes} {opn:Bool} (hd:H[d]? =some (.cells (l.map .str) opn)) (hl:l.length≤1000000):
    bF P f [.sl d 0 l.length 0] H (.ret (.tup [])) (H.set d (.cells ((cp l).map .str) opn)):=by
  intro w0 F0 F μ w Vs s hv;cases hv with
  |cons _ _ _ _ h1 h2=>
  cases h2;cases h1 with
  |sl _ _ _ _ cap L hμ hc hlc hlb=>
  have hob:=s.obs d _ hd;cases hob with
  |cells _ _ L' ca el lo hi hμ' hB hw hcap hlen hfix hun hcs hF=>
  rw[hμ]at hμ';cases hμ';have hlen':l.length≤L.cap:=by simpa using hlen
  have hblk:L.block<w.heap.size:=(Array.getElem?_eq_some_iff.1 hw).1;have each: ∀(j:Nat) (t:Bytes),l[j]? =some t→ca[L.off+j]? =some (.string ⟨t.toArray⟩)∧t.length≤ay:=by
    intro j t ht;obtain⟨V,g1,g2⟩:=hcs j (.str t) (by simp[ht]);cases g2 with
    |str _ hb=>exact⟨g1,hb⟩
  have hH:Holds Go.Proofs.encStr w L.block (L.off+0) l.toArray:=by
    intro j hj;have hjl:j<l.length:=by simpa using hj
    obtain⟨g1,_⟩:=each j l[j] (List.getElem?_eq_getElem hjl);have hget:(l.toArray)[j]! =l[j]:=by rw[getElem!_pos _ j hj];simp
    refine⟨?_,?_⟩
    · rw[hget]
      simp only[World.cell?,hw,Nat.add_zero];simpa using g1
    · simp only[World.frozen?,hw,Nat.add_zero]
      have:=hun (L.off+j) (by omega) (by omega);simp only[Bool.and_eq_false_iff,decide_eq_false_iff_not];omega
  refine .inl ⟨w,ab hN hf hb _ _,rfl,(hS L.block (L.off+0) cap l w hH hblk (by omega)).mono ?_⟩;rintro e w' ⟨rfl,n,os,rfl⟩;obtain⟨x1,s1⟩:=s.behind (um w n w.heap.size) (fun _ _ h=>h) (fun b o h=>s.lt b o h) (fun b o _ h=>h);have hD:(l.mergeSort fun x y=>decide (x≤y))=cp l:=rfl;rw[hD];have hperm:(cp l).Perm l:=List.mergeSort_perm _ _;have hsl:(cp l).length=l.length:=hperm.length_eq
  have hput:putRow Go.Proofs.encStr (Go.Sort.ahead w n) L.block (L.off+0) (cp l).toArray={Go.Sort.ahead w n with heap:=(Go.Sort.ahead w n).heap.setIfInBounds L.block (.cells (Go.Sort.putCells Go.Proofs.encStr L.off (cp l).toArray ca) el (lo,hi))}:=by
    unfold putRow Go.Sort.mapBlock;congr 1;apply Array.ext_getElem?;intro j;rw[Array.getElem?_modify,Array.getElem?_setIfInBounds];by_cases hj:L.block=j
    · subst hj
      rw[if_pos rfl,if_pos rfl,if_pos (show L.block<(Go.Sort.ahead w n).heap.size from hblk)];have:(Go.Sort.ahead w n).heap[L.block]? =some (.cells ca el (lo,hi)):=hw;rw[this];rfl
    · rw[if_neg hj,if_neg hj]
  rw[hput];have hcget: ∀i,i<l.length→(Go.Sort.putCells Go.Proofs.encStr L.off (cp l).toArray ca)[L.off+i]? =some (Go.Proofs.encStr ((cp l).toArray[i]!)):=by
    intro i hi;unfold Go.Sort.putCells;rw[Array.getElem?_mapIdx];obtain⟨g1,_⟩:=each i l[i] (List.getElem?_eq_getElem hi);rw[g1];simp only[Option.map_some];rw[if_pos ⟨by omega,by simp[hsl];omega⟩];rw[show L.off+i - L.off=i by omega]
  obtain⟨x2,s2⟩:=s1.write d _ (.cells ((cp l).map .str) opn) L hd rfl hμ (.cells (Go.Sort.putCells Go.Proofs.encStr L.off (cp l).toArray ca) el (lo,hi)) (fun x=>by
    refine .cells _ _ L (Go.Sort.putCells Go.Proofs.encStr L.off (cp l).toArray ca) el lo hi hμ hB ?_ (by simpa[Go.Sort.putCells]using hcap) (by simp[hsl];omega) (fun h=>by have:=hfix h;simpa[hsl]using this) hun ?_ hF
    · show((Go.Sort.ahead w n).heap.setIfInBounds L.block _)[L.block]? =_
      rw[Array.getElem?_setIfInBounds,if_pos rfl,if_pos (show L.block<(Go.Sort.ahead w n).heap.size from hblk)]
    · intro i v hv
      rw[List.getElem?_map,Option.map_eq_some_iff]at hv;obtain⟨t,ht,rfl⟩:=hv;have hi:i<(cp l).length:=(List.getElem?_eq_some_iff.1 ht).1;refine⟨_,hcget i (by omega),?_⟩;have hget:(cp l).toArray[i]! =t:=by
        rw[getElem!_pos _ i (by simpa using hi)];have:(cp l)[i]=t:=(List.getElem?_eq_some_iff.1 ht).2;simpa using this
      rw[hget];have hmem:t∈l:=hperm.mem_iff.1 (List.mem_of_getElem? ht);obtain⟨j,hj⟩:=List.mem_iff_getElem?.1 hmem
      exact .str t (each j t hj).2)
  obtain⟨x3,s3⟩:=s2.behind (wz _ os) (fun _ _ h=>h) (fun b o h=>Nat.lt_of_lt_of_le (s2.lt b o h) (by simp[Go.Sort.grow])) (fun b o _ h=>h);exact⟨F,μ,x1.trans (x2.trans x3),s3,.ret _ _ (.tup [] #[] .nil)⟩
end Go.Av
namespace Go.Av
set_option linter.unusedVariables false
set_option linter.unusedSimpArgs false
section
variable{α:Type}
end
open Go.RowKit (Below)
open Go Go.ChangeShapes Go.WideShapes Go.ChangeAt Go.RowKit
def eB(w:World):Nat→Nat→Prop:=fun b _=>b<w.heap.size
section
variable{H:Type} {enc:TypeId×Value→H} {P:Program} {w:World} {base:Nat} {sp:Nat→Bool} {held:Bool} {fuel:Nat} {x:DataW H×List MemPlace} {cs:List Value} {t e:TypeId}
theorem xP{a:Addr}{V:Value}(h:w.cell? a=some V):a.block<w.heap.size∧a.spot=none:=by
 unfold World.cell? at h;split at h
 ·rename_i hb
  refine⟨(Array.getElem?_eq_some_iff.1 hb).1,?_⟩;split at h
  ·cases h
  ·rename_i hs;simpa using hs
 ·cases h
def lX(enc:TypeId×Value→H)(P:Program)(w:World)(base:Nat)(sp:Nat→Bool)(held:Bool)(t:TypeId)(good:AV→Prop):Prop:=
 ∀(fuel:Nat) (cs:List Value) (x:DataW H×List MemPlace),DataW.trod enc P w base sp held fuel t cs=some x→∃v,good v∧VRs (eB w) w noμ v.cells cs
theorem eM(ht:P.underlying t=some .string):lX enc P w base sp held t (fun v=>∃s,v=.str s):=by
 intro fuel cs x h;obtain⟨s,rfl,_,hs⟩:=DataW.trod_string ht h;refine⟨.str s.data.toList,⟨_,rfl⟩,?_⟩;have:VR (eB w) w noμ (.str s.data.toList) (.string ⟨s.data.toList.toArray⟩):=.str _ (by simpa[ay,maxLen]using hs);exact .cons _ _ _ _ this .nil
theorem VRm.uo{F:Nat→Nat→Prop}{μ:Nat→Option Loc}:∀{vs:List AV} {Vs:List Value} {b o:Nat},VRs F w μ vs Vs→(∀i V,Vs[i]? =some V→w.cell? ⟨b,o+i,none⟩=some V∧F b (o+i))→VRm F w μ vs b o
 |_,_,b,o,.nil,_=>.nil b o
 |_,_,b,o,.cons v V vs Vs h t,hc=>by
  obtain⟨h1,h2⟩:=hc 0 V rfl;refine .cons v V vs b o h2 h1 h (VRm.uo t fun i W hi=>?_);have:=hc (i+1) W (by simpa using hi);rwa[show o+(i+1)=o+1+i by omega]at this
theorem add_eq{a:Addr}(hs:a.spot=none)(k:Nat):a.add k=⟨a.block,a.off+k,none⟩:=by
 unfold Addr.add;split
 ·rename_i h;subst h;cases a;simp at hs;subst hs;rfl
 ·rfl
theorem jy {good:AV→Prop} {wd:Nat} (ht:P.underlying t=some (.slice e)) (hwd:P.cellsOf e=esz wd) (hpos:0<esz wd) (he:lX enc P w base sp held e good):
    lX enc P w base sp held t (fun v=> ∃es:List AV,(∀u∈es,good u)∧v=.vsl wd false es):=by
  intro fuel cs x h;rcases DataW.trod_slice ht h with⟨rfl,_⟩|⟨a,len,cap,elems,rest,n,_,rfl,hx,hb,hl,hm,hlen,hel,_⟩
  · exact⟨.vsl wd false [],⟨[],by simp,rfl⟩,.cons _ _ _ _ (.vsl wd false [] none 0 (fun h=>by cases h) (Nat.le_refl _) (Nat.zero_le _) (.nil _ _)) .nil⟩
  · -- each element's cells
    have each: ∀i,i<len→ ∃u,good u∧ ∃ucs,w.cells? base (a.add (i*P.cellsOf e)) (P.cellsOf e)=some ucs∧VRs (eB w) w noμ u.cells ucs:=by
      intro i hi;have h1:=hel i hi;have h2:elems[i]? =some elems[i]:=List.getElem?_eq_getElem (by omega);rw[h2]at h1;cases hc:w.cells? base (a.add (i*P.cellsOf e)) (P.cellsOf e)with
      |none=>rw[hc]at h1;cases h1
      | some ucs=>
        rw[hc]at h1;obtain⟨u,hg,hv⟩:=he n ucs _ h1;exact⟨u,hg,ucs,rfl,hv⟩
    by_cases h0:len=0
    · subst h0
      refine⟨.vsl wd false [],⟨[],by simp,rfl⟩,.cons _ _ _ _ ?_ .nil⟩;exact .vsl wd false [] (some a) cap (fun h=>by cases h) hl (Nat.zero_le _) (.nil _ _)
    · have hspot:a.spot=none:=by
        obtain⟨u,_,ucs,hc,_⟩:=each 0 (by omega);have h3:=(World.cells?_some hc)
        have h4:=h3.2.2 0 (by rw[hwd];exact hpos);have h5:(0:Nat)<ucs.length:=by rw[h3.2.1,hwd];exact hpos
        rw[List.getElem?_eq_getElem h5]at h4;have:=(xP h4).2;rw[Nat.zero_mul]at this;simpa[Addr.add]using this
      have main: ∀k i,i+k=len→ ∃es:List AV,(∀u∈es,good u)∧es.length=k∧VRe (eB w) w noμ es (esz wd) a.block (a.off+i*esz wd):=by
        intro k;induction k with
        |zero=>intro i hi;exact⟨[],by simp,rfl,.nil _ _ _⟩
        | succ k ih=>
          intro i hi;obtain⟨es,h1,h2,h3⟩:=ih (i+1) (by omega);obtain⟨u,hg,ucs,hc,hv⟩:=each i (by omega);obtain⟨_,hul,huc⟩:=World.cells?_some hc;have hlu:u.cells.length=esz wd:=by rw[←VRs.len hv,hul,hwd]
          refine⟨u::es,fun v hv=> ?_,by simp[h2],.cons u es (esz wd) _ _ hlu (VRm.uo hv fun j V hj=> ?_) ?_⟩
          · rcases List.mem_cons.1 hv with rfl|hv
            · exact hg
            · exact h1 v hv
          · have hjl:j<ucs.length:=(List.getElem?_eq_some_iff.1 hj).1
            have h4:=huc j (by omega);rw[hj,hwd]at h4;have hadd:(a.add (i*esz wd)).add j=⟨a.block,a.off+i*esz wd+j,none⟩:=by
              rw[add_eq hspot,add_eq rfl]
            rw[hadd]at h4;exact⟨h4,(xP h4).1⟩
          · rw[show a.off+i*esz wd+esz wd=a.off+(i+1)*esz wd by rw[Nat.add_mul];omega]
            exact h3
      obtain⟨es,h1,h2,h3⟩:=main len 0 (by omega);refine⟨.vsl wd false es,⟨es,h1,rfl⟩,.cons _ _ _ _ ?_ .nil⟩;have hA:a=⟨a.block,a.off,none⟩:=by cases a;simp at hspot;subst hspot;rfl
      rw[hA];have hmax:es.length≤ay:=by rw[h2];simp only[ay,maxLen]at hm ⊢;omega
      have:=VR.vsl (F:=eB w) (w:=w) (μ:=noμ) wd false es (some ⟨a.block,a.off,none⟩) cap (fun h=>by cases h) (by omega) hmax (.at _ _ _ _ (by simpa using h3));rw[h2]at this;exact this
theorem ke{α:Type}{f:α→AV}:∀{es:List AV},(∀u∈es,∃a,u=f a)→∃l:List α,es=l.map f
 | [],_=>⟨[],rfl⟩
 |u::es,h=>by
  obtain⟨a,rfl⟩:=h u (by simp);obtain⟨l,rfl⟩:=ke (es:=es) (fun v hv=>h v (List.mem_cons_of_mem _ hv));exact⟨a::l,rfl⟩
end
end Go.Av
