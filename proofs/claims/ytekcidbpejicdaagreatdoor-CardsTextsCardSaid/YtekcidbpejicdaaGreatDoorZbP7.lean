/- A framework of abstract values: no program in sight; under the conditions named at each theorem. -/
import Derived.Test.YtekcidbpejicdaaGreatDoorZbP5
import Derived.Attr
import Derived.Test.YtekcidbpejicdaaGreatDoorZbP3
namespace Go.Av
set_option linter.unusedVariables false
set_option linter.unusedSimpArgs false
inductive Lee:List AV→List AV→Prop
 |nil:Lee [] []
 |cons (v v':AV) (l l':List AV) (h:Les v.cells v'.cells) (t:Lee l l'):Lee (v::l) (v'::l')
section
variable{F:Nat→Nat→Prop} {w:World} {μ:Nat→Option Loc}
theorem Les.len:∀{xs ys:List AV},Les xs ys→ys.length=xs.length
 | [],ys,h=>by cases h;rfl
 |x::xs,ys,h=>by cases h with|cons _ _ _ _ h t=>simp[Les.len t]
theorem Lee.len:∀{xs ys:List AV},Lee xs ys→ys.length=xs.length
 | [],ys,h=>by cases h;rfl
 |x::xs,ys,h=>by cases h with|cons _ _ _ _ h t=>simp[Lee.len t]
theorem VRm.le{b:Nat}:∀{xs ys:List AV} {o:Nat},VRm F w μ xs b o→Les xs ys→VRm F w μ ys b o
 | [],ys,o,h,hl=>by cases hl;exact .nil _ _
 | x::xs,ys,o,h,hl=>by
  cases hl with
  |cons _ y _ _ h1 h2=>cases h with
   |cons _ V _ _ _ hF hc hv t=>exact .cons y V _ _ _ hF hc (hv.le h1) (VRm.le t h2)
theorem VRe.le{n b:Nat}:∀{xs ys:List AV} {o:Nat},VRe F w μ xs n b o→Lee xs ys→VRe F w μ ys n b o
 | [],ys,o,h,hl=>by cases hl;exact .nil _ _ _
 | x::xs,ys,o,h,hl=>by
  cases hl with
  |cons _ y _ _ h1 h2=>cases h with
   |cons _ _ _ _ _ hs h t=>exact .cons y _ _ _ _ (by rw[h1.len];exact hs) (h.le h1) (VRe.le t h2)
theorem VR.lee{wd:Nat}{x:Bool}{es es':List AV}{V:Value}(h:VR F w μ (.vsl wd x es) V)(hl:Lee es es'):VR F w μ (.vsl wd x es') V:=by
 have hlen:=hl.len;cases h with
 |vsl _ _ _ A cap hx hle hb ha=>
  rw[←hlen];refine .vsl wd x es' A cap (by rw[hlen];exact hx) (by rw[hlen];exact hle) (by rw[hlen];exact hb) ?_;cases ha with
  |nil _ A=>cases hl;exact .nil _ _
  | «at» _ _ b o he=>exact .at _ _ b o (he.le hl)
end
def Sb(v v':AV):Prop:=∀(F:Nat→Nat→Prop) (w:World) (V:Value),VR F w noμ v V→VR F w noμ v' V
inductive Sbs:List AV→List AV→Prop
 |nil:Sbs [] []
 |cons {v v':AV} {l l':List AV} (h:Sb v v') (t:Sbs l l'):Sbs (v::l) (v'::l')
theorem Sb.refl(v:AV):Sb v v:=fun _ _ _ h=>h
theorem Sb.trans{a b c:AV}(h:Sb a b)(k:Sb b c):Sb a c:=fun F w V v=>k F w V (h F w V v)
theorem Sb.le{v v':AV}(h:Le v v'):Sb v v':=fun _ _ _ k=>k.le h
theorem Sb.elems{wd:Nat}{x:Bool}{es es':List AV}(h:Lee es es'):Sb (.vsl wd x es) (.vsl wd x es'):=fun _ _ _ k=>k.lee h
theorem Sbs.of{F:Nat→Nat→Prop}{w:World}:∀{l l':List AV} {Vs:List Value},Sbs l l'→VRs F w noμ l Vs→VRs F w noμ l' Vs
 | [],_,_,h,k=>by cases h;exact k
 | _::_,_,_,h,k=>by
  cases h with
  |cons h t=>cases k with
   |cons _ _ _ _ k1 k2=>exact .cons _ _ _ _ (h _ _ _ k1) (Sbs.of t k2)
theorem Sb.agg{l l':List AV}(h:Sbs l l'):Sb (.agg l) (.agg l'):=by
 intro F w V k;cases k with
 |agg _ A hA=>exact .agg _ A (h.of hA)
theorem ad.sub{P:Program}{f:FuncId}{args args':List AV}{out:Out}(h:Sbs args args')(hp:ad P f args' out):ad P f args out:=
 fun F w Vs hlt hv=>hp F w Vs hlt (h.of hv)
open Go.RowKit (Below)
def JN(A:AV→Prop)(B:Nat→Nat→Nat→List AV→Bool→Prop)(out:Out)(K:List OB):Prop:=
 (∃r,out=.ret r∧r.hf=true∧A r)∨(∃id off len wd cs opn,out=.ret (.sl id off len wd)∧K[id]? =some (.cells cs opn)∧AV.hfs cs=true∧B off len wd cs opn)
def JO(A:AV→Prop)(B:Nat→Nat→Nat→List AV→Bool→Prop)(H:List OB)(out:Out)(K:List OB):Prop:=
 (∃r,out=.ret r∧r.hf=true∧A r∧K=H)∨(∃off len wd cs opn,out=.ret (.sl H.length off len wd)∧AV.hfs cs=true∧B off len wd cs opn∧K=H++[.cells cs opn])
section
variable{P:Program} {w0:World} {F0 F:Nat→Nat→Prop} {μ μ1:Nat→Option Loc} {H:List OB} {w:World}
theorem Sim.bare(hlt:∀b o,F b o→b<w.heap.size):Sim w F F noμ [] w:=
 ⟨Below.refl _ _,fun _ _ h=>h,fun _ _ _ h=>h,hlt,fun id blk h=>by simp at h,fun i j bi bj Li Lj h=>by simp at h,fun id L h=>by cases h⟩
theorem Sim.join (s:Sim w0 F0 F μ H w) {w1:World} (hw:w1.heap.size≤w.heap.size) (hold: ∀(i:Nat) (b:OB) L,H[i]? =some b→b.live=true→μ i=some L→L.block<w1.heap.size) {id:Nat} {cs:List AV} {opn:Bool} {L:Loc} (hμ1:μ1 id=some L) (hO:OBR w1.heap.size F w μ1 id (.cells cs opn)) (hcs:AV.hfs cs=true) (hB0:w0.heap.size≤w1.heap.size):
    ∃μ',Ext F w μ F w μ'∧μ' H.length=some L∧Sim w0 F0 F μ' (H++[.cells cs opn]) w:=by
  let μ':Nat→Option Loc:=fun i=>if i=H.length then some L else μ i
  have hmu: ∀id L,μ id=some L→μ' id=some L:=by
    intro id L'' h;have:=s.dom id L'' h;show(if id=H.length then some L else μ id)=_;rw[if_neg (by omega)];exact h
  have hx:Ext F w μ F w μ':=⟨hmu,fun _ _ h=>h,fun _ _ _ _ h=>h,fun _ _ _ _ h=>h⟩
  have hnew:μ' H.length=some L:=by show(if _ then _ else _)=_;rw[if_pos rfl]
  have hLb:w1.heap.size≤L.block:=by
    cases hO with
    |cells _ _ L2 c el lo hi hμ2 hB hw hcap hlen hfix hun hcs2 hF=>rw[hμ1]at hμ2;cases hμ2;exact hB
  refine⟨μ',hx,hnew,⟨s.below,s.new,s.old,s.lt,?_,?_,?_⟩⟩
  · intro k bk hk
    rw[List.getElem?_append]at hk;split at hk
    · exact(s.obs k bk hk).mono hx (fun _ _=>rfl) (fun _ _ _ h=>h)
    · rename_i hge
      have:k=H.length:=by
        have:=(List.getElem?_eq_some_iff.1 hk).1;simp at this;omega
      subst this;simp at hk;subst hk;cases hO with
      | cells _ _ L2 c el lo hi hμ2 hB hw hcap hlen hfix hun hcs2 hF=>
        rw[hμ1]at hμ2;cases hμ2;refine .cells _ _ L c el lo hi hnew (by omega) hw hcap hlen hfix hun ?_ hF;intro i v hi;obtain⟨V,h5,h6⟩:=hcs2 i v hi;rw[aR,List.all_eq_true]at hcs;exact⟨V,h5,h6.qY (hcs v (List.mem_of_getElem? hi))⟩
  · have key: ∀(k:Nat) bk Lk,(H++[OB.cells cs opn])[k]? =some bk→bk.live=true→μ' k=some Lk→(k<H.length∧H[k]? =some bk∧μ k=some Lk)∨(k=H.length∧Lk=L):=by
      intro k bk Lk hk hl hm;rw[List.getElem?_append]at hk;split at hk
      · rename_i hlt
        refine .inl ⟨hlt,hk,?_⟩;have:μ' k=μ k:=if_neg (by omega);rw[this]at hm;exact hm
      · have:k=H.length:=by
          have:=(List.getElem?_eq_some_iff.1 hk).1;simp at this;omega
        subst this;rw[hnew]at hm;cases hm;exact .inr ⟨rfl,rfl⟩
    intro i j bi bj Li Lj hi hj li lj mi mj hij;rcases key i bi Li hi li mi with⟨a1,a2,a3⟩|⟨a1,a2⟩<;>rcases key j bj Lj hj lj mj with⟨b1,b2,b3⟩|⟨b1,b2⟩
    · exact s.apart i j bi bj Li Lj a2 b2 li lj a3 b3 hij
    · subst b2;have:=hold i bi Li a2 li a3;omega
    · subst a2;have:=hold j bj Lj b2 lj b3;omega
    · omega
  · intro k Lk h
    simp only[List.length_append,List.length_singleton];by_cases e:k=H.length
    · omega
    · have:μ' k=μ k:=if_neg e
      rw[this]at h;have:=s.dom k Lk h;omega
theorem ba.frame{f:FuncId}{args:List AV}{A:AV→Prop}{B:Nat→Nat→Nat→List AV→Bool→Prop}(hh:AV.hfs args=true)(h:ba P f args [] (JN A B)):ba P f args H (JO A B H):=by
 intro w0 F0 F μ w Vs s hv;refine(h w F F noμ w Vs (Sim.bare s.lt) (hv.cP hh)).mono ?_;rintro e w' ⟨out,K,F',μ',hS,x,s',ho⟩;obtain⟨x2,s2⟩:=s.behind s'.below s'.new s'.lt s'.old;rcases hS with⟨r,rfl,hr,hA⟩|⟨id,off,len,wd,cs,opn,rfl,hid,hcs,hB⟩
 ·cases ho with
  |ret _ R hR=>exact⟨_,H,F',μ,.inl ⟨r,rfl,hr,hA,rfl⟩,x2,s2,.ret _ _ (hR.qY hr)⟩
 ·cases ho with
  | ret _ R hR=>
   cases hR with
   | sl _ _ _ _ cap L hμ hc hl hb=>
    obtain⟨μ2,x3,h3,s3⟩:=s2.join (w1:=w) (μ1:=μ') s'.below.size (by
     intro i b L' hi hl hm;obtain⟨L2,g1,g2,g3,g4⟩:=(s.obs i b hi).loc hl
     rw[hm]at g1;cases g1;exact g3) hμ (s'.obs id _ hid) hcs s.below.size
    exact⟨_,_,F',μ2,.inr ⟨off,len,wd,cs,opn,rfl,hcs,hB,rfl⟩,x2.trans x3,s3,.ret _ _ (.sl _ _ _ _ cap L h3 hc hl hb)⟩
end
theorem ba.pure{P:Program}{f:FuncId}{args:List AV}{S:Out→List OB→Prop}{r:AV}(h:ba P f args [] S)(hS:∀out K,S out K→∃r0 u,out=.ret r0∧fz K 20 r0=some u∧Le u r):ad P f args (.ret r):=by
 intro F w Vs hlt hv;refine(h w F F noμ w Vs (Sim.bare hlt) hv).mono ?_;rintro e w' ⟨out,K,F',μ',hs,x,s,ho⟩;obtain⟨r0,u,rfl,hz,hl⟩:=hS _ _ hs;cases ho with
 |ret _ V hV=>exact⟨s.below,fq F' μ' K,fun b o h=>.inl (s.new b o h),mY s,fun b o hb h=>ky s b o hb h,.ret r V ((nF s _ _ _ _ hz hV).le hl)⟩
theorem kO:∀(vs cs:List AV) (i:Nat),i+vs.length=cs.length→cz cs i vs=cs.take i++vs
 | [],cs,i,h=>by simp[cz];exact(List.take_of_length_le (by simpa using Nat.le_of_eq h.symm)).symm
 |v::vs,cs,i,h=>by
  rw[cz,kO vs (cs.set i v) (i+1) (by simp at h ⊢;omega)];have hi:i<cs.length:=by simp at h;omega
  rw[List.take_add_one,List.getElem?_set_self hi,List.take_set_of_le (Nat.le_refl _)];simp
theorem D7(n:Nat)(v:AV):rep n [v]=List.replicate n v:=by
 induction n with
 |zero=>rfl
 |succ n ih=>simp only[rep,List.replicate_succ,List.flatten_cons]at ih ⊢;rw[ih];rfl
theorem tqn{K:St→Prop}{Q:Ex→St→Prop}{a:St}:ai K Q .normal a=K a:=Eq.trans rfl rfl
theorem tqx{K:St→Prop}{Q:Ex→St→Prop}{a:St}{i:Nat}:ai K Q (.exit i) a=Q (.exit i) a:=Eq.trans rfl rfl
theorem tqg{K:St→Prop}{Q:Ex→St→Prop}{a:St}{i:Nat}:ai K Q (.goto i) a=Q (.goto i) a:=Eq.trans rfl rfl
theorem tqr{K:St→Prop}{Q:Ex→St→Prop}{a:St}:ai K Q .ret a=Q .ret a:=Eq.trans rfl rfl
theorem tqp{K:St→Prop}{Q:Ex→St→Prop}{a:St}{t:TypeId}{v:AV}:ai K Q (.panic t v) a=Q (.panic t v) a:=Eq.trans rfl rfl
def eD(l:List Bytes)(out:Out)(K:List OB):Prop:=(l=[]∧out=.ret (.vsl 0 true [])∧K=[])∨(out=.ret (.sl 0 0 l.length 0)∧K=[.cells (l.map .str) true])
theorem kP{l:List Bytes}(hh:AV.hfs (l.map AV.str)=true)(ho:(l.map AV.str).all AV.one=true):∀out K,eD l out K→∃r0 u,out=.ret r0∧fz K 20 r0=some u∧Le u (.vsl 0 false (l.map .str)):=by
 rintro out K (⟨rfl,rfl,rfl⟩|⟨rfl,rfl⟩)
 ·exact⟨_,_,rfl,rfl,.nil _ _ _⟩
 ·have e:(l.map AV.str).take l.length=l.map .str:=List.take_of_length_le (by simp)
  have:=lL (k:=19) (off:=0) (len:=l.length) (H:=[.cells (l.map .str) true]) (id:=0) (cs:=l.map .str) (opn:=true) rfl (by simp) (by rw[List.drop_zero,e];exact hh) (by rw[List.drop_zero,e];exact ho);rw[List.drop_zero,e]at this;exact⟨_,_,rfl,this,.refl _⟩
section
variable{P:Program} {w0:World} {F0 F:Nat→Nat→Prop} {μ:Nat→Option Loc} {H:List OB} {w:World}
theorem pr(s:Sim w0 F0 F μ H w){t len wd:Nat}{ps:List (Nat×AV)}{Ps:Array (Nat×Value)}{es:List AV}(hp:VRp F w μ ps Ps.toList)(h:au P t len ps=some (.vsl wd true es)):
    bT P (Instr.buildSlice t len Ps) w0 F0 F μ w (.sl H.length 0 es.length wd) (H++[.cells (es.flatMap AV.cells) true]):=by
  unfold au at h;split at h
  case h_2=>cases h
  rename_i e hu;split at h
  case h_2=>cases h
  rename_i n wd' by_ hap;obtain⟨z,ht⟩:=je hap;split at h
  case isFalse=>cases h
  rename_i hh;obtain⟨h1,h2,h3⟩:=hh;cases h;have hlen:(ps.map (·.2)).length=len:=by
    have:=congrArg List.length h1;simpa using this
  have hall: ∀v∈ps.map (·.2),v.cells.length=n∧v.told=true:=by
    intro v hv;obtain⟨p,hp1,rfl⟩:=List.mem_map.1 hv;have:=List.all_eq_true.1 h3 p hp1;simpa using this
  have hz:ps=(List.range' 0 (ps.map (·.2)).length).zip (ps.map (·.2)):=by rw[hlen,←h1];exact(zip_unzip ps).symm
  have hfr:=mq n (ps.map (·.2)) [] 0 (by simp) hall;rw[←hz,hlen]at hfr;simp only[List.nil_append]at hfr;obtain⟨Z,hZ1,_,hZ3⟩:=dy (P:=P) (F:=F) (μ:=μ) ht.zero w;have hZs:Z.cells.size=n:=by rw[←Array.length_toList,VRs.len hZ3];exact ht.zlen
  let C0:Array Value:=(Array.range (len*n)).map fun i=>(if len*n=0 then(#[]:Array Value)else Z.cells)[i%(if len*n=0 then(#[]:Array Value)else Z.cells).size]!
  have hC0:C0.size=len*n:=by simp[C0]
  have hj:=sG (F:=F) (w:=w) (μ:=μ) C0.toList;rw[Array.length_toList,hC0]at hj;obtain⟨C',h4,h5⟩:=mX hp hj hfr;have hn1:=ht.n1;have hrun:(Instr.buildSlice t len Ps).run P w=.ok (.slice (some ⟨w.heap.size,0,none⟩) len len) {w with heap:=w.heap.push (.cells C' e)}:=by
    have hsm: ¬len*n>2^24:=by omega
    have hsm': ¬16777216<len*n:=by omega
    by_cases h0:len*n=0
    · have hC0':C0=(Array.range (len*n)).map fun i=>(#[]:Array Value)[i%(#[]:Array Value).size]! :=by simp[C0,h0]
      rw[hC0']at h4;simp only[Instr.buildSlice,Sem.run_bind,run_underlying hu,Result.andThen,aK ht.tsz];rw[if_neg hsm];simp only[Sem.run_bind,Sem.run_ite,Result.andThen];rw[if_pos h0];simp only[Sem.run_pure,Result.andThen,h4,Sem.run_bind,newRow,run_newObj]
    · have hC0':C0=(Array.range (len*n)).map fun i=>Z.cells[i%Z.cells.size]! :=by simp[C0,h0]
      rw[hC0']at h4;simp only[Instr.buildSlice,Sem.run_bind,run_underlying hu,Result.andThen,aK ht.tsz];rw[if_neg hsm];simp only[Sem.run_bind,Sem.run_ite,Result.andThen];rw[if_neg h0];simp only[Sem.run_bind,hZ1,Result.andThen,Sem.run_pure,h4,newRow,run_newObj]
  have hfl:((ps.map (·.2)).flatMap AV.cells).length=len*n:=by
    have: ∀es:List AV,(∀v∈es,v.cells.length=n)→(es.flatMap AV.cells).length=es.length*n:=by
      intro es;induction es with
      |nil=>intro _;simp
      |cons a es ih=>intro ha;rw[List.flatMap_cons,List.length_append,ha a (by simp),ih fun v hv=>ha v (by simp[hv]),List.length_cons,Nat.add_mul];omega
    rw[this _ fun v hv=>(hall v hv).1,hlen]
  have hC:C'.size=len*n:=by rw[←Array.length_toList,VRs.len h5];exact hfl
  obtain⟨μ',x1,hμ',s1⟩:=s.alloc (.cells C' e) (.cells ((ps.map (·.2)).flatMap AV.cells) true) ⟨w.heap.size,0,len*n⟩ rfl (fun μ' x hm hF=>.cells _ _ ⟨w.heap.size,0,len*n⟩ C' e 0 0 hm s.below.size (by rw[cA,if_pos rfl]) (by simp[hC]) (by simp[hfl]) (fun h=>by cases h) (fun o _ _ h=>by omega)
    (fun i v hi=>by
      obtain⟨V,g1,g2⟩:=VRs.get h5 hi
      exact⟨V,by simpa using g1,VR.mono x g2⟩) hF)
  refine⟨_,_,F,μ',hrun,x1,s1,?_⟩;have key:=VR.sl (F:=F) (w:={w with heap:=w.heap.push (.cells C' e)}) (μ:=μ') H.length 0 len wd len ⟨w.heap.size,0,len*n⟩ hμ' (by simp[ht.nwd]) (Nat.le_refl _) (by unfold ay;have:len≤len*n:=Nat.le_mul_of_pos_right _ hn1;omega);rw[hlen];simpa using key
end
section
variable{P:Program} {n m:Nat} {R:Option Nat} {Q:Ex→St→Prop} {a:St}
theorem RO.upto{ops:Array Oper}(hf:fits n ops=true){rest:List Oper}:∀{pre:List Oper} {a:St},VO P ops (ai (RO P n m R ops Q rest) Q) pre a→RO P n m R ops Q (pre++rest) a:=by
 intro pre;induction pre with
 |nil=>intro a h;exact h
 |cons o pre ih=>
  intro a h;obtain⟨rs,h⟩:=h.step;refine RO.step rs hf (h.mono fun ex a hq=>?_);cases ex<;>first|exact ih hq|exact hq
theorem RO.own {ops:Array Oper} (hf:fits n ops=true) {rest:List Oper} {dst:Option Nat} {t ty wd:TypeId} {len:Nat} {ps:Array (Nat×Operand)} {pos:String} {af:Array Edge} {es:List AV} (he:au P t len (ps.toList.map fun p=>(p.1,a.ev p.2))=some (.vsl wd true es))
    (hq:RO P n m R ops Q rest ({a with H:=a.H++[OB.cells (es.flatMap AV.cells) true]}.put dst (.sl a.H.length 0 es.length wd))):RO P n m R ops Q (⟨dst,.buildSlice t len ps,ty,pos,af,none⟩::rest) a:=by
  intro k hk B act w ⟨F,μ,s,y,tt⟩;have ho:ops[k]? =some ⟨dst,.buildSlice t len ps,ty,pos,af,none⟩:=hk 0 _ rfl;rw[List.length_cons,List.range'_succ];simp only[wpOpsIn,ho];have hd: ∀d,dst=some d→d<n:=fun d hd=>dh hf k _ d ho hd;have hgd:=nH (o:=⟨dst,.buildSlice t len ps,ty,pos,af,none⟩) tt (dh hf) rfl;simp only[hgd,if_true];refine⟨fun _ _=>trivial,?_⟩;rw[Oper.semAt_eq _ _ _ (by rintro c hc;cases hc)];have hev:=bD.of (pr (P:=P) s (Ps:=ps.map fun p=>(p.1,act.eval p.2)) (by simpa using tt.evp ps.toList) he);obtain⟨nx,V,w',F',μ',h1,h2,h3,h4,h5⟩:=hev
  have hx:(execOp act.eval ⟨dst,.buildSlice t len ps,ty,pos,af,none⟩).run P w=.ok nx w':=by
    unfold execOp;simpa using h1
  rw[hx];have hrel:Rel n B ({a with H:=a.H++[OB.cells (es.flatMap AV.cells) true]}.put dst (.sl a.H.length 0 es.length wd)) (act.put dst V) w':=⟨F',μ',by cases dst<;>exact h4,y.trans h3,tt.put h3 h5 hd⟩
  have hrest:=hq (k+1) (fun i o' hi=>by rw[show k+1+i=k+(i+1) by omega];exact hk (i+1) o' (by simpa using hi)) B _ w' hrel;rcases h2 with rfl|⟨rfl,rfl⟩
  · rw[Oper.uponIn_value];exact hrest
  · rw[Oper.uponIn_skip];exact hrest
theorem W.own {id:Nat} {ops:Array Oper} {pre rest:List Oper} {dst:Option Nat} {t ty:TypeId} {len:Nat} {ps:Array (Nat×Operand)} {pos:String} {af:Array Edge} (hf:fits n ops=true) (hs:ops.toList=pre++⟨dst,.buildSlice t len ps,ty,pos,af,none⟩::rest)
    (h:VO P ops (ai (fun b=> ∃wd es,au P t len (ps.toList.map fun p=>(p.1,b.ev p.2))=some (.vsl wd true es)∧VO P ops Q rest ({b with H:=b.H++[OB.cells (es.flatMap AV.cells) true]}.put dst (.sl b.H.length 0 es.length wd))) Q) pre a):W P n m R (.region id ops false) Q a:=by
  refine W.wL ?_;rw[hs];refine RO.upto hf ?_;have mono : ∀ {pre:List Oper} {a:St} {K K':St→Prop},(∀b,K b→K' b)→VO P ops (ai K Q) pre a→VO P ops (ai K' Q) pre a:=by
    intro pre;induction pre with
    |nil=>intro a K K' hK h;exact hK _ h
    | cons o pre ih=>
      intro a K K' hK h;have hst: ∀{dst:Option Nat} {op:Op} {a:St} {L L':St→Prop},(∀b,L b→L' b)→VS P L (ai K Q) dst op a→VS P L' (ai K' Q) dst op a:=by
        intro dst op a L L' hL h;unfold VS at h ⊢;have hvk: ∀{a:St} {out:Out} {H':List OB},VK L (ai K Q) dst a out H'→VK L' (ai K' Q) dst a out H':=by
          intro a out H' h;cases out with
          |ret r=>exact hL _ h
          |pan t v=>exact h
        split
        · rename_i c args hc
          rw[hc]at h;rcases h with⟨out,H',h1,h2⟩|⟨f,S,h1,h2,h3⟩
          · exact .inl ⟨out,H',h1,hvk h2⟩
          · exact .inr ⟨f,S,h1,h2,fun o H' hs=>hvk (h3 o H' hs)⟩
        · rename_i hc
          rw[hc]at h;simp only at h;split
          · rename_i x hx
            rw[hx]at h;simp only[VP]at h ⊢;split<;>rename_i hv<;>simp only[hv]at h;exact h
          · rename_i hx
            rw[hx]at h;simp only at h;split
            · rename_i q1 q2 q3 q4 q5 hn
              rw[hn]at h;exact fun v H' hv=>hL _ (h v H' hv)
            · rename_i hn
              rw[hn]at h;simp only at h;split
              · rename_i ht
                rw[ht]at h;exact fun b=>hL _ (h b)
              · rename_i ht
                rw[ht]at h;simp only[VV]at h ⊢;split
                · rename_i he;rw[he]at h;exact hL _ h
                · rename_i he;rw[he]at h;exact h
      simp only[VO]at h ⊢;unfold VG at h ⊢;split
      · rename_i hg;rw[hg]at h;exact h
      · rename_i hg;rw[hg]at h;exact ih hK h
      · rename_i hg;rw[hg]at h;exact hst (fun b hb=>ih hK hb) h
  refine mono ?_ h;rintro b ⟨wd,es,he,hq⟩;exact RO.own hf he (VO.ro hf hq)
end
section
variable{P:Program} {w0:World} {F0 F:Nat→Nat→Prop} {μ:Nat→Option Loc} {H:List OB} {w:World}
theorem Sim.shrink(s:Sim w0 F0 F μ H w){d:Nat}{c r:List AV}(hd:H[d]? =some (.cells (c++r) true)):Sim w0 F0 F μ (H.set d (.cells c true)) w:=by
 have hl:=(List.getElem?_eq_some_iff.1 hd).1;have key:∀{i:Nat} {b:OB},(H.set d (.cells c true))[i]? =some b→∃b',H[i]? =some b'∧b'.live=b.live:=by
  intro i b hb;rw[List.getElem?_set]at hb;split at hb
  ·rename_i e;subst e
   first|(rw[if_pos hl]at hb)|skip
   cases hb;exact⟨_,hd,rfl⟩
  ·exact⟨b,hb,rfl⟩
 refine⟨s.below,s.new,s.old,s.lt,?_,?_,?_⟩
 ·intro id blk hb
  rw[List.getElem?_set]at hb;split at hb
  ·rename_i e;subst e
   first|(rw[if_pos hl]at hb)|skip
   cases hb;have hob:=s.obs d _ hd;cases hob with
   |cells _ _ L ca el lo hi hμ hB hw hcap hlen hfix hun hcs hF=>
    refine .cells _ _ L ca el lo hi hμ hB hw hcap (by rw[List.length_append]at hlen;omega) (fun h=>by cases h) hun (fun i v hi=>?_) hF;exact hcs i v (by rw[List.getElem?_append_left (List.getElem?_eq_some_iff.1 hi).1];exact hi)
  ·exact s.obs id blk hb
 ·intro i j bi bj Li Lj hi hj li lj mi mj hij
  obtain⟨bi',h1,h2⟩:=key hi;obtain⟨bj',h3,h4⟩:=key hj;exact s.apart i j bi' bj' Li Lj h1 h3 (h2.trans li) (h4.trans lj) mi mj hij
 ·intro id L h
  rw[List.length_set];exact s.dom id L h
theorem aY.shrink{f:FuncId}{args:List AV}{out:Out}{H':List OB}{d:Nat}{c r:List AV}(h:aY P f args H out H')(hd:H'[d]? =some (.cells (c++r) true)):aY P f args H out (H'.set d (.cells c true)):=
 fun w0 F0 F μ w Vs s hv=>(h w0 F0 F μ w Vs s hv).mono fun e w' ⟨F',μ',x,s',o⟩=>⟨F',μ',x,s'.shrink hd,o⟩
end
theorem vo{P:Program}{rs:List ResultVar}{a a1:St}{v w r:AV}(he:fe a=some a1)(hv:eH P rs a1=some v)(hz:fz a1.H 20 v=some w)(hl:Le w r):eI P rs (.ret r) .ret a:=
 ⟨a1,he,w,by rw[hv];exact hz,hl⟩
theorem qe{T:List (Nat×AV)}{H:List OB}{d:Nat}(h:H[d]? =some .dfr):fe ⟨T,H,[.mark d]⟩=some ⟨T,H.set d .dead,[]⟩:=by simp[fe,jB,h]
theorem lS{P:Program}{a:St}{v u:AV}(t ty s:Nat)(hl:ao P ty (Av.get a.T t) a.H=some v)(hs:Av.get a.T s=u):eH P [.cell t ty,.tmp s] a=some (.tup [v,u]):=by
 show(List.mapM (dt P a) [.cell t ty,.tmp s]).map AV.tup=_;simp only[List.mapM_cons,List.mapM_nil,dt,hl,hs];rfl
theorem Hp{P:Program}{a:St}{v:AV}(t ty:Nat)(hl:ao P ty (Av.get a.T t) a.H=some v):eH P [.cell t ty] a=some v:=by
 simp only[eH,dt,hl]
theorem wW{H:List OB}{k:Nat}{v v' u:AV}(h:fz H (k+1) v=some v')(hu:u.hf=true):fz H (k+2) (.tup [v,u])=some (.tup [v',u]):=by
 by_cases hv:v.hf=true
 ·rw[dj hv]at h;cases h
  exact dj (by simp[AV.hf,AV.hfs,hv,hu])
 ·have hh:AV.hfs [v,u]=false:=by simp[AV.hfs,hv]
  have:∀n,fz H (n+1) (.tup [v,u])=([v,u].mapM (fz H n)).map .tup:=by
   intro n;simp only[fz,AV.hf,hh,Bool.false_eq_true,if_false]
  rw[this];simp only[List.mapM_cons,List.mapM_nil,h,dj hu];rfl
section
variable{P:Program} {n m:Nat} {R:Option Nat} {Q:Ex→St→Prop} {a:St} {ops:Array Oper}
end
open Go
set_option linter.defProp false
def zL:=And.intro @List.length_append.{0} (And.intro @List.length_cons.{0} (And.intro @List.length_nil.{0} (And.intro @List.length_map.{0,0} (@List.length_set.{0}))))
def zM:=And.intro @List.append_assoc.{0} (And.intro @List.getElem?_append_left.{0} (And.intro @List.getElem?_append_right.{0} (And.intro @List.set_append_left.{0} (And.intro @List.set_append_right.{0} (And.intro @List.length_set.{0} (And.intro @List.set_set.{0} (And.intro @List.length_append.{0} (And.intro @Nat.add_sub_cancel_left (And.intro @Nat.sub_self (And.intro @List.getElem?_set_self.{0} (@List.getElem?_set_ne.{0})))))))))))
attribute [go_sem] DF Aw DH Ax DI DJ Ay Az pZ AA DK rp wM sZ AB ta AD DL AE wN VS G6 aO Hn AN AO D4
attribute [go_sem] AP DS JK JL JM cPs D5 D6 vOf AI AJ vk vl List.length_map cF Nat.sub_zero cL G7 bl AV.told if_true List.getElem?_concat_length vi te wO DM DN
attribute [go_sem] DP DQ JF DR G8 DU DV eC fy jI gdA ae aa ah an evalOp AF tf wQ Av.get St.put aL Bool.and_self List.map_cons
attribute [go_sem] List.map_nil List.nil_append List.append_nil List.getElem?_cons_zero List.getElem?_cons_succ List.getElem?_toArray Option.map_some Option.map_none Option.bind_some decide_true decide_false beq_false beq_true Bool.not_true Bool.not_false Bool.false_eq_true aU cond_true cond_false ldC ldG stC Hb Hc Hd He
attribute [go_sem] JI JJ Hf Hg yx AK Hh Hj D0 D1 vm AL cz List.set_cons_zero
attribute [go_sem] List.set_cons_succ List.length_cons List.length_nil List.all_cons List.all_nil Bool.and_true Bool.true_and and_self true_and and_true Nat.add_zero Nat.zero_add List.drop_succ_cons List.drop_zero List.take_succ_cons List.take_zero Nat.le_refl List.cons_append Nat.zero_mul Nat.mul_one Int.toNat_natCast lK jf List.flatMap_cons List.flatMap_nil cU ec iq cB dv
attribute [go_sem] ir dc wy nQ IY JB JC JD JE JA Ha decide_eq_true decide_eq_false gl bn en Bool.or_false Bool.false_or Bool.and_false Bool.false_and Bool.or_true Bool.true_or tqn tqx tqg tqr tqp
attribute [go_sem] AV.hfs AV.hf az
end Go.Av
