/- A framework of abstract values: no program in sight; under the conditions named at each theorem. -/
import Derived.Test.YtekcidbpejicdaaGreatDoorZbP2
import Derived.RecoverIn
import Derived.Laws.LoneSync
namespace Go.Av
set_option linter.unusedVariables false
set_option linter.unusedSimpArgs false
theorem fD{P:Program}{a b:St}(hH:a.H=b.H)(o:Op)(h:∀x∈o.operands,a.ev x=b.ev x):evalOp P o a=evalOp P o b:=by
 have pairs:∀ps:Array (Nat×Operand),(∀x∈(ps.toList.map (·.2)).toArray,a.ev x=b.ev x)→(ps.toList.map fun p=>(p.1,a.ev p.2))=(ps.toList.map fun p=>(p.1,b.ev p.2)):=by
  intro ps hp;refine List.map_congr_left fun p hm=>?_;rw[hp p.2 (by simp;exact⟨p.1,Array.mem_toList_iff.1 hm⟩)]
 cases o<;>simp only[Op.operands]at h<;>simp only[evalOp,hH]
 case build t ps=>rw[pairs ps h]
 case buildSlice t n ps=>rw[pairs ps h]
 case makeFunc fn first captured=>
  rw[List.map_congr_left (l:=first.toList) fun x hx=>h x (by simp[Array.mem_toList_iff.1 hx]),List.map_congr_left (l:=captured.toList) fun x hx=>h x (by simp[Array.mem_toList_iff.1 hx])]
 case makeMap t r=>cases r<;>first|rfl|simp[hH]
 case slice t x lo hi mx=>cases lo<;>cases hi<;>cases mx<;>simp_all
 case call c=>
  obtain⟨cl,args,ts⟩:=c;cases cl with
  |value f=>rfl
  |invoke r m=>rfl
  |builtin bb=>
   have h':∀x∈args.toList,a.ev x=b.ev x:=fun x hx=>h x (by simp[Call.operands];exact Array.mem_toList_iff.1 hx);simp only;generalize args.toList=l at h';split<;>first|rfl|simp_all
 all_goals first|rfl|(simp_all;done)|skip
theorem df{a b:St}(o:Op)(h:∀x∈o.operands,a.ev x=b.ev x):ae a o=ae b o:=by
 cases o<;>try rfl
 rename_i c;obtain⟨cl,args,ts⟩:=c;cases cl with
 |invoke r m=>
  have hf:a.ev r=b.ev r:=h r (by simp[Op.operands,Call.operands]);have ha:args.toList.map a.ev=args.toList.map b.ev:=List.map_congr_left fun x hx=>h x (by simp[Op.operands,Call.operands];exact .inr (Array.mem_toList_iff.1 hx));simp only[ae,hf,ha]
 |builtin bb=>rfl
 |value f=>
  have hf:a.ev f=b.ev f:=h f (by simp[Op.operands,Call.operands]);have ha:args.toList.map a.ev=args.toList.map b.ev:=List.map_congr_left fun x hx=>h x (by simp[Op.operands,Call.operands];exact .inr (Array.mem_toList_iff.1 hx));simp only[ae,hf,ha]
theorem gi{ops:Array Oper}{o:Oper}{a:St}{H:List OB}{D:List DE}{x:Operand}(hx:x∈o.op.operands):(⟨only ops o a.T,H,D⟩:St).ev x=a.ev x:=by
 cases x with
 |tmp t=>
  show get (only ops o a.T) t=get a.T t;unfold only;rw[iI,if_pos];unfold Oper.looksAt;exact List.mem_append_left _ (List.mem_filterMap.2 ⟨.tmp t,Array.mem_toList_iff.2 hx,rfl⟩)
 |const v=>rfl
 |func f=>rfl
 |global g=>rfl
theorem gj{ops:Array Oper}{o:Oper}{a:St}{H:List OB}{D:List DE}:gdA ops ⟨only ops o a.T,H,D⟩ o.guard=gdA ops a o.guard:=by
 unfold gdA;cases hg:o.guard with
 |none=>rfl
 | some p=>
  obtain⟨j,want⟩:=p;simp only;cases hd:(ops[j]?).bind (·.dst)with
  |none=>rfl
  | some d=>
   have:get (only ops o a.T) d=get a.T d:=by
    unfold only;rw[iI,if_pos];unfold Oper.looksAt;refine List.mem_append_right _ ?_;rw[hg];simp[hd]
   simp only[this]
def EDf (P:Program) (ops:Array Oper) (Q:St→Prop):List CR→List Oper→St→Prop
 |_,[],a=>Q a
 | rs,o::rest,a=>match gdA ops a o.guard with
  |none=>False
  |some false=>EDf P ops Q rs rest (a.put o.dst (.tup []))
  | some true=>match ae a o.op with
   | some (f,args)=>match rs with
    | .pure (.ret r)::rs=>match f with
     | .fn f=>match aG a.H args (.ret r)with
      |some args'=>ad P f args' (.ret r)∧EDf P ops Q rs rest (a.put o.dst r)
      |none=>False
     |_=>False
    |_=>False
   | none=>match aa o.op with
    |some _=>False
    |none=>match evalOp P o.op a with
     |some (v,_)=>EDf P ops Q rs rest (a.put o.dst v)
     |none=>False
theorem qZ {P:Program} {ops:Array Oper} {Q:St→Prop}:∀{l:List Oper} {rs:List CR} {a:St},EDf P ops Q rs l a→EDr P ops Q rs l a:=by
 intro l;induction l with
 |nil=>intro rs a h;exact h
 | cons o l ih=>
  intro rs a h;unfold EDf at h;unfold EDr;rw[gj,df o.op (fun x hx=>gi (ops:=ops) (o:=o) (a:=a) (H:=a.H) (D:=a.D) hx),fD (a:=⟨only ops o a.T,a.H,a.D⟩) (b:=a) rfl o.op (fun x hx=>gi hx)];cases hg:gdA ops a o.guard with
  |none=>simp only[hg]at h
  | some g=>
   cases g with
   |false=>simp only[hg]at h ⊢;exact ih h
   | true=>
    simp only[hg]at h ⊢;cases hc:ae a o.op with
    | some p=>
     obtain⟨f,args⟩:=p;simp only[hc]at h ⊢;split at h
     ·cases f with
      |yld id=>exact h.elim
      |inv _ _=>exact h.elim
      | fn f=>
       simp only at h ⊢;split at h
       ·rename_i hl
        simp only[hl];exact⟨h.1,ih h.2⟩
       ·exact h.elim
     ·exact h.elim
    | none=>
     simp only[hc]at h ⊢;cases hp:aa o.op with
     |some x=>simp only[hp]at h
     |none=>
      simp only[hp]at h ⊢;cases hev:evalOp P o.op a with
      |none=>simp only[hev]at h
      |some q=>simp only[hev]at h ⊢;exact ih h
theorem W.wz {P:Program} {n m:Nat} {R:Option Nat} {a:St} {Q:Ex→St→Prop} {ops:Array Oper} {id:Nat} (rs:List CR) (hm:P.follows .mixedOrders=true) (hf:fits n ops=true) (hr:FE ops=true) (hst:eN ops (aW ops.toList [])=true)
    (h:EDf P ops (Q .normal) rs ops.toList a):W P n m R (.region id ops true) Q a:=W.draw rs hm hf hr hst (qZ h)
open Go.RowKit (Below)
theorem gY{p:Nat}{q:Nat→Bool}:∀n,cnt n (fun j=>(j==p)&&q j)=if p<n∧q p=true then 1 else 0
 |0=>by simp[cnt]
 | n+1=>by
  rw[cnt,gY n];by_cases hp:n=p
  ·subst hp
   cases hq:q n<;>simp[hq]
  ·have h1:(n==p)=false:=by simpa using hp
   have h2:p<n+1↔p<n:=by omega
   simp[h1,h2]
def pW(ops:Array Oper)(tab:List Nat)(p:Nat):Bool:=
 (List.range ops.size).all fun i=>decide (i=p)||(decide (i<p)&&(tab.getD p 0).testBit i)||(decide (p<i)&&(tab.getD i 0).testBit p)
section
variable{P:Program} {n m:Nat} {R:Option Nat} {a:St} {Q:Ex→St→Prop} {ops:Array Oper}
open Classical in
theorem W.zY {id:Nat} {pre post:List Oper} {ow:Oper} {r:AV} {H':List OB} (rs1 rs2:List CR) (hm:P.follows .mixedOrders=true) (hf:fits n ops=true)
    (hsp:ops.toList=pre++ow::post) (hr1:(pre.all fun o=>jI o.op||isVal o.op)=true) (hr2:(post.all fun o=>jI o.op||isVal o.op)=true)
    (hst:eN ops (aW ops.toList [])=true) (hone:pW ops (aW ops.toList []) pre.length=true)
    (h:EDf P ops (fun a1=>gdA ops a1 ow.guard=some true∧ ∃f args,ae a1 ow.op=some (f,args)∧jw P f args a1.H (.ret r) H'∧EDf P ops (Q .normal) rs2 post ({a1 with H:=H'}.put ow.dst r)) rs1 pre a):
    W P n m R (.region id ops true) Q a:=by
  obtain⟨v1,T1,g0,⟨hg,f,args,hc,hcl,h2⟩,ht1⟩:=lN (R:=R) (m:=m) hf hr1 (qZ h);simp only at hg hc hcl h2;obtain⟨v2,T2,k0,hq,ht2⟩:=lN (R:=R) (m:=m) hf hr2 (qZ h2);have hput:({({T:=T1 pre.length,H:=a.H,D:=a.D}:St)with H:=H'}.put ow.dst r)=⟨(match ow.dst with|none=>T1 pre.length|some d=>(d,r)::T1 pre.length),H',a.D⟩:=by cases ow.dst<;>rfl
  rw[hput]at k0 hq ht2;simp only at k0 hq ht2;have hsize:ops.size=pre.length+1+post.length:=by rw[←Array.length_toList,hsp];simp;omega
  have hget: ∀i,ops[i]? =(pre++ow::post)[i]? :=fun i=>by rw[←hsp,Array.getElem?_toList]
  have hw:eX P n m R ops ow ⟨only ops ow (T1 pre.length),a.H,a.D⟩ (.val r H'):=by
    refine eb (call:=fun c x K=>if c=f∧x=args∧K=a.H then some (.ret r,H')else none) ?_ hf ?_
    · intro c x K out K' hh
      simp only at hh;split at hh
      · rename_i hcond
        obtain⟨rfl,rfl,rfl⟩:=hcond;cases hh;exact hcl
      · cases hh
    · have e1:gdA ops ⟨only ops ow (T1 pre.length),a.H,a.D⟩ ow.guard=some true:=by
        rw[gj (a:=⟨T1 pre.length,a.H,a.D⟩)];exact hg
      have e2:ae ⟨only ops ow (T1 pre.length),a.H,a.D⟩ ow.op=some (f,args):=by
        rw[df (b:=⟨T1 pre.length,a.H,a.D⟩) ow.op (fun x hx=>gi (ops:=ops) (o:=ow) (a:=⟨T1 pre.length,a.H,a.D⟩) hx)];exact hc
      simp[dC,e1,e2]
  have hstI: ∀(i:Nat) (o:Oper),ops[i]? =some o→(o.after.toList.all (fun e=> !Region.binds .any e||decide (e.on<i))&&(aW ops.toList []).getD i 0==eg (aW ops.toList []) o&&
      (o.looksAt ops).all (fun t=>(List.range ops.size).all fun j=>match ops[j]? with|some o'=> !er o' t||((aW ops.toList []).getD i 0).testBit j|none=>true)&&
      (match o.dst with|none=>true|some d=>(List.range ops.size).all fun j=>j==i||match ops[j]? with|some o'=> !er o' d|none=>true))=true:=by
    intro i o ho;have:=aP hst i (Array.getElem?_eq_some_iff.1 ho).1;rw[ho]at this;exact this
  have hbef: ∀i,i<pre.length→((aW ops.toList []).getD pre.length 0).testBit i=true:=by
    intro i hi;have:=aP hone i (by omega);simp only[Bool.or_eq_true,Bool.and_eq_true,decide_eq_true_eq]at this;rcases this with(h|h)|h
    · omega
    · exact h.2
    · omega
  have hbeh: ∀i,pre.length<i→i<ops.size→((aW ops.toList []).getD i 0).testBit pre.length=true:=by
    intro i hi hs;have:=aP hone i hs;simp only[Bool.or_eq_true,Bool.and_eq_true,decide_eq_true_eq]at this;rcases this with(h|h)|h
    · omega
    · omega
    · exact h.2
  have hcases: ∀i o,ops[i]? =some o→(i<pre.length∧pre[i]? =some o)∨(i=pre.length∧o=ow)∨(∃j,i=pre.length+1+j∧post[j]? =some o):=by
    intro i o ho;rw[hget]at ho;rcases Nat.lt_trichotomy i pre.length with h|h|h
    · exact .inl ⟨h,by rwa[List.getElem?_append_left h]at ho⟩
    · subst h
      rw[List.getElem?_append_right (Nat.le_refl _),Nat.sub_self]at ho;simp at ho;exact .inr (.inl ⟨rfl,ho.symm⟩)
    · obtain⟨j,rfl⟩: ∃j,i=pre.length+1+j:=⟨i - pre.length - 1,by omega⟩
      rw[List.getElem?_append_right (by omega),show pre.length+1+j - pre.length=j+1 by omega]at ho;exact .inr (.inr ⟨j,rfl,by simpa using ho⟩)
  obtain⟨v,hv⟩: ∃v:Nat→AV,v=fun i=>if i<pre.length then v1 i else if i=pre.length then r else v2 (i - pre.length - 1):=⟨_,rfl⟩
  obtain⟨T,hT⟩: ∃T:Nat→List (Nat×AV),T=fun i=>if i≤pre.length then T1 i else T2 (i - pre.length - 1):=⟨_,rfl⟩
  obtain⟨Hk,hHk⟩: ∃Hk:Nat→List OB,Hk=fun k=>if k=0 then a.H else H':=⟨_,rfl⟩
  have step: ∀i o,ops[i]? =some o→T (i+1)=(match o.dst with|none=>T i|some d=>(d,v i)::T i)∧ ∀k,(i<pre.length→k=0)→(i=pre.length→k=0)→(pre.length<i→k=1)→
      eX P n m R ops o ⟨only ops o (T i),Hk k,a.D⟩ (.val (v i) (Hk (k+(if(i==pre.length)=true then 1 else 0)))):=by
    intro i o ho;rcases hcases i o ho with⟨hi,hp⟩|⟨rfl,rfl⟩|⟨j,rfl,hp⟩
    · obtain⟨q1,q2⟩:=ht1 i o hp
      have e1:T i=T1 i:=by rw[hT];simp only;rw[if_pos (by omega)]
      have e2:T (i+1)=T1 (i+1):=by rw[hT];simp only;rw[if_pos (by omega)]
      have e3:v i=v1 i:=by rw[hv];simp only;rw[if_pos hi]
      have e4:(i==pre.length)=false:=by simpa using(show i≠pre.length by omega)
      refine⟨by rw[e1,e2,e3];exact q1,fun k hk _ _=> ?_⟩;rw[hk hi,e1,e3,e4,hHk];exact q2
    · have e1:T pre.length=T1 pre.length:=by rw[hT];simp only;rw[if_pos (Nat.le_refl _)]
      have e2:T (pre.length+1)=T2 0:=by rw[hT];simp only;rw[if_neg (by omega)];congr 1;omega
      have e3:v pre.length=r:=by rw[hv];simp
      refine⟨by rw[e1,e2,e3,k0],fun k _ hk _=> ?_⟩;rw[hk rfl,e1,e3,hHk];simp only[beq_self_eq_true,if_true];exact hw
    · obtain⟨q1,q2⟩:=ht2 j o hp
      have e1:T (pre.length+1+j)=T2 j:=by rw[hT];simp only;rw[if_neg (by omega)];congr 1;omega
      have e2:T (pre.length+1+j+1)=T2 (j+1):=by rw[hT];simp only;rw[if_neg (by omega)];congr 1;omega
      have e3:v (pre.length+1+j)=v2 j:=by rw[hv];simp only;rw[if_neg (by omega),if_neg (by omega)];congr 1;omega
      have e4:(pre.length+1+j==pre.length)=false:=by simpa using(show pre.length+1+j≠pre.length by omega)
      refine⟨by rw[e1,e2,e3];exact q1,fun k _ _ hk=> ?_⟩;rw[hk (by omega),e1,e3,e4,hHk];exact q2
  have hin:pre.length<ops.size:=by omega
  refine W.sM (af:=a) v T Hk (fun i=>i==pre.length) (fun i j=>((aW ops.toList []).getD i 0).testBit j) hm hf (by rw[hT];simp only;rw[if_pos (Nat.zero_le _)];exact g0) (fun i o ho=>(step i o ho).1) (by rw[hHk];rfl) ?_ ?_ ?_ ?_ ?_ ?_
  · intro i o e ho he hb
    have:=hstI i o ho;simp only[Bool.and_eq_true]at this;have h1:=List.all_eq_true.1 this.1.1.1 e (Array.mem_toList_iff.2 he);simpa[hb]using h1
  · intro i j o ho hj
    have:=hstI i o ho;simp only[Bool.and_eq_true,beq_iff_eq]at this;have h1:=this.1.1.2;simp only[h1]at hj;unfold eg at hj;rcases gE _ _ _ _ hj with h2|⟨e,he,hb,hje⟩
    · simp at h2
    · exact⟨e,Array.mem_toList_iff.1 he,hb,hje⟩
  · intro i o t j o' ho ht ho' hd
    have:=hstI i o ho;simp only[Bool.and_eq_true]at this;have h1:=aP (List.all_eq_true.1 this.1.2 t ht) j (Array.getElem?_eq_some_iff.1 ho').1;rw[ho']at h1;simpa[er,hd]using h1
  · intro i j o o' d ho ho' hd hd'
    have:=hstI i o ho;simp only[Bool.and_eq_true,hd]at this;have h1:=aP this.2 j (Array.getElem?_eq_some_iff.1 ho').1;rw[ho']at h1;have:j=i:=by simpa[er,hd']using h1
    exact this.symm
  · intro i o k ho hlo hup
    have hi:i<ops.size:=(Array.getElem?_eq_some_iff.1 ho).1;have hup':k≤if pre.length<ops.size∧(!((aW ops.toList []).getD pre.length 0).testBit i&& !(pre.length==i))=true then 1 else 0:=by
      rw[←gY (p:=pre.length) (q:=fun j=> !((aW ops.toList []).getD j 0).testBit i&& !(j==i))];refine Nat.le_trans hup (eA fun j _ hj=> ?_);simp only[Bool.and_eq_true]at hj ⊢;exact⟨hj.1.1,hj.1.2,hj.2⟩
    have hlo':(if pre.length<ops.size∧((aW ops.toList []).getD i 0).testBit pre.length=true then 1 else 0)≤k:=by
      rw[←gY (p:=pre.length) (q:=fun j=>((aW ops.toList []).getD i 0).testBit j)];exact hlo
    refine(step i o ho).2 k ?_ ?_ ?_
    · intro h
      rw[if_neg (by rw[hbef i h];simp)]at hup';omega
    · intro h
      rw[if_neg (by simp[h])]at hup';omega
    · intro h
      rw[if_pos ⟨hin,hbeh i h hi⟩]at hlo';split at hup'<;>omega
  · have hc1:cnt ops.size (fun i=>i==pre.length)=1:=by
      have:=gY (p:=pre.length) (q:=fun _=>true) ops.size;simp only[Bool.and_true,and_true]at this;rw[this,if_pos hin]
    rw[hc1,hHk,hT];simp only;rw[if_neg (by omega),if_neg (by omega),show ops.size - pre.length - 1=post.length by omega];exact hq
end
section
variable{P:Program} {n m:Nat} {R:Option Nat} {a:St} {Q:Ex→St→Prop} {ops:Array Oper}
end
def iK(ops:Array Oper)(tab:List Nat):Bool:=
 (List.range ops.size).all fun i=>match ops[i]? with
  |none=>false
  |some o=>o.after.toList.all (fun e=>!Region.binds .any e||decide (e.on<i))&&tab.getD i 0==eg tab o&&
   (o.looksAt ops).all (fun t=>(List.range ops.size).all fun j=>match ops[j]? with|some o'=>!er o' t||((tab.getD i 0).testBit j||(decide (i<j)&&(tab.getD j 0).testBit i))|none=>true)&&
   (match o.dst with|none=>true|some d=>(List.range ops.size).all fun j=>j==i||match ops[j]? with|some o'=>!er o' d|none=>true)
section
variable{P:Program} {w0:World} {F0 F F':Nat→Nat→Prop} {μ μ':Nat→Option Loc} {H H':List OB} {w w':World} {n m:Nat} {R:Option Nat} {a:St} {act:Act} {Q:Ex→St→Prop}
 {call:Cl→List AV→List OB→Option (Out×List OB)} {ops:Array Oper}
theorem W.Gp {id : Nat} {af:St} (v:Nat→AV) (T:Nat→List (Nat×AV)) (Hk:Nat→List OB) (wr:Nat→Bool) (anc:Nat→Nat→Bool)
    (hm:P.follows .mixedOrders=true) (hf:fits n ops=true)
    (h0:T 0=a.T) (hT: ∀(i:Nat) (o:Oper),ops[i]? =some o→T (i+1)=(match o.dst with|none=>T i|some d=>(d,v i)::T i)) (hH:Hk 0=a.H)
    (hE: ∀(i:Nat) (o:Oper) (e:Edge),ops[i]? =some o→e∈o.after→Region.binds .any e=true→e.on<i)
    (hA: ∀(i j:Nat) (o:Oper),ops[i]? =some o→anc i j=true→ ∃e∈o.after,Region.binds .any e=true∧(j=e.on∨anc e.on j=true))
    (hL: ∀(i:Nat) (o:Oper) (t:Nat) (j:Nat) (o':Oper),ops[i]? =some o→t∈o.looksAt ops→ops[j]? =some o'→o'.dst=some t→anc i j=true∨(i<j∧anc j i=true))
    (hD: ∀(i j:Nat) (o o':Oper) (d:Nat),ops[i]? =some o→ops[j]? =some o'→o.dst=some d→o'.dst=some d→i=j)
    (hS: ∀(i:Nat) (o:Oper) (k:Nat),ops[i]? =some o→cnt ops.size (fun j=>wr j&&anc i j)≤k→k≤cnt ops.size (fun j=>wr j&& !anc j i&& !(j==i))→
      eX P n m R ops o ⟨only ops o (T i),Hk k,a.D⟩ (.val (v i) (Hk (k+(if wr i=true then 1 else 0)))))
    (hq:Q .normal ⟨T ops.size,Hk (cnt ops.size wr),a.D⟩):W P n m R (.region id ops true) Q a:=by
  intro B act w ⟨F,μ,s,y,t⟩;refine wpIn_region_any hm ?_;obtain⟨x1,s1⟩:=s.same (w':={w with drawn:=w.drawn+1}) rfl rfl rfl rfl;have hTx: ∀i,i≤ops.size→ ∀t,(∀(j:Nat) (o:Oper),j<i→ops[j]? =some o→o.dst=some t→get (T i) t=v j)∧((∀(j:Nat) (o:Oper),j<i→ops[j]? =some o→o.dst≠some t)→get (T i) t=get a.T t):=by
    intro i;induction i with
    |zero=>intro _ t;exact⟨fun j _ hj=>by omega,fun _=>by rw[h0]⟩
    | succ i ih=>
      intro hi t;have ho:ops[i]? =some ops[i]:=Array.getElem?_eq_getElem (by omega);obtain⟨g1,g2⟩:=ih (by omega) t;have hTi:=hT i _ ho;have hget:get (T (i+1)) t=if(ops[i]).dst=some t then v i else get (T i) t:=by
        rw[hTi];cases hd:(ops[i]).dst with
        |none=>simp
        | some d=>
          simp only[get];by_cases e:d=t
          · subst e;simp
          · rw[if_neg e,if_neg (by simpa using e)]
      rw[hget];refine⟨fun j o hj hoj hdj=> ?_,fun hno=> ?_⟩
      · by_cases e:j=i
        · subst e;rw[ho]at hoj;cases hoj;rw[if_pos hdj]
        · have hne:(ops[i]).dst≠some t:=fun h=>e (hD j i _ _ t hoj ho hdj h)
          rw[if_neg hne];exact g1 j o (by omega) hoj hdj
      · rw[if_neg (hno i _ (by omega) ho)];exact g2 fun j o hj=>hno j o (by omega)
  let Inv:Array Bool→Act→World→Prop:=fun listed act w=>listed.size=ops.size∧
    (∀(i:Nat) (o:Oper) (e:Edge),ops[i]? =some o→listed[i]? =some true→e∈o.after→Region.binds .any e=true→listed[e.on]? =some true)∧
    ∃ F μ,Sim B.w0 B.F0 F μ (Hk (cnt ops.size fun j=>wr j&&listed.getD j false)) w∧Ext B.Fs B.ws B.μs F w μ∧VD F w μ a.D act.defers∧act.tmps.size=n∧
      ∀ t,(∀(j:Nat) (o:Oper),ops[j]? =some o→o.dst=some t→listed[j]? =some true→VR F w μ (v j) (act.tmps.getD t undef))∧
        ((∀(j:Nat) (o:Oper),ops[j]? =some o→o.dst=some t→listed[j]? ≠some true)→VR F w μ (get a.T t) (act.tmps.getD t undef))
  have main : ∀ fuel listed act w,Inv listed act w→cnt ops.size (fun j=> !listed.getD j false)≤fuel→wpAnyIn (fnc R) 1 P .any ops (dX n B Q) fuel listed act w:=by
    have hdone: ∀listed act w,Inv listed act w→Region.ready .any ops listed=[]→dX n B Q .normal act w:=by
      intro listed act w ⟨hsz,hcl,F,μ,s,y,vd,hn,hsl⟩ hr;have hall : ∀i,i<ops.size→listed[i]? =some true:=by
        intro i;induction i using Nat.strongRecOn with
        | _ i ih =>
          intro hi;cases hli:listed[i]? with
          |none=>rw[Array.getElem?_eq_none_iff]at hli;omega
          | some b=>
            cases b with
            |true=>rfl
            | false=>
              have ho:ops[i]? =some ops[i]:=Array.getElem?_eq_getElem hi;have:i∈Region.ready .any ops listed:=by
                unfold Region.ready;rw[List.mem_filter];refine⟨by simp[hi],?_⟩;rw[ho];simp only[Array.getD_eq_getD_getElem?,hli,Option.getD_some,Bool.not_false,Bool.true_and,Option.map_some];rw[Array.all_eq_true'];intro e he;by_cases hb:Region.binds .any e=true
                · have:=ih e.on (hE i _ e ho he hb) (by have:=hE i _ e ho he hb;omega)
                  simp[this]
                · simp at hb;simp[hb]
              rw[hr]at this;cases this
      have hc:cnt ops.size (fun j=>wr j&&listed.getD j false)=cnt ops.size wr:=pR fun i hi=>by simp[Array.getD_eq_getD_getElem?,hall i hi]
      rw[hc]at s;refine⟨_,_,F,μ,hq,.normal,s,y,vd,hn,fun t=> ?_⟩;obtain⟨g1,g2⟩:=hTx ops.size (Nat.le_refl _) t;by_cases hex: ∃(j:Nat) (o:Oper),ops[j]? =some o∧o.dst=some t
      · obtain⟨j,o,ho,hd⟩:=hex
        have hj:j<ops.size:=(Array.getElem?_eq_some_iff.1 ho).1;rw[g1 j o hj ho hd];exact(hsl t).1 j o ho hd (hall j hj)
      · rw[g2 fun j o _ ho hd=>hex ⟨j,o,ho,hd⟩]
        exact(hsl t).2 fun j o ho hd=>(hex ⟨j,o,ho,hd⟩).elim
    intro fuel;induction fuel with
    | zero=>
      intro listed act w hI hfu;have hr:Region.ready .any ops listed=[]:=by
        rw[List.eq_nil_iff_forall_not_mem];intro i hi;unfold Region.ready at hi;rw[List.mem_filter]at hi;obtain⟨h1,h2⟩:=hi;simp only[List.mem_range]at h1;simp only[Bool.and_eq_true,Bool.not_eq_true']at h2;have hlt:i<listed.size:=by rw[hI.1];exact h1
        have h2':listed.getD i false=false:=by have:=h2.1;simp[Array.getD_eq_getD_getElem?,hlt]at this ⊢;exact this
        have:cnt ops.size (fun j=>decide (j=i))≤cnt ops.size (fun j=> !listed.getD j false):=eA fun j _ hj=>by simp at hj;subst hj;simp[h2']
        have h3:cnt ops.size (fun j=>decide (j=i))=cnt ops.size (fun _=>false)+(if decide (i=i)=true then 1 else 0):=fB h1 rfl fun j hj=>by simp[hj]
        simp at h3;omega
      exact⟨hr,hdone _ _ _ hI hr⟩
    | succ fuel ih =>
      intro listed act w hI hfu;refine⟨hdone _ _ _ hI,fun i hi=> ?_⟩;obtain⟨hsz,hcl,F,μ,s,y,vd,hn,hsl⟩:=hI;unfold Region.ready at hi;rw[List.mem_filter]at hi;obtain⟨h1,h2⟩:=hi;simp only[List.mem_range]at h1;simp only[Bool.and_eq_true,Bool.not_eq_true']at h2;have ho:ops[i]? =some ops[i]:=Array.getElem?_eq_getElem h1;have hlt:i<listed.size:=by rw[hsz];exact h1
      have hli:listed[i]? =some false:=by have:=h2.1;simp[Array.getD_eq_getD_getElem?,hlt]at this;simp[hlt,this]
      have hafter: ∀e∈(ops[i]).after,Region.binds .any e=true→listed[e.on]? =some true:=by
        have:=h2.2;rw[ho]at this;simp only[Option.map_some,Option.getD_some]at this;rw[Array.all_eq_true']at this;intro e he hb;have:=this e he;rw[hb]at this;simp[Array.getD_eq_getD_getElem?]at this;cases hx:listed[e.on]? with
        |none=>rw[hx]at this;simp at this
        |some b=>rw[hx]at this;simp at this;rw[this]
      have hancl: ∀(i:Nat) (o:Oper),ops[i]? =some o→(∀e∈o.after,Region.binds .any e=true→listed[e.on]? =some true)→ ∀j,anc i j=true→listed[j]? =some true:=by
        intro i;induction i using Nat.strongRecOn with
        | _ i ihh=>
          intro o hoi hh j hj;obtain⟨e,he,hb,hje⟩:=hA i j o hoi hj;rcases hje with rfl|hje
          · exact hh e he hb
          · have hon:=hE i o e hoi he hb
            have hois:i<ops.size:=(Array.getElem?_eq_some_iff.1 hoi).1;have hoe:ops[e.on]? =some ops[e.on]:=Array.getElem?_eq_getElem (by omega);exact ihh e.on hon _ hoe (fun e' he' hb'=>hcl _ _ e' hoe (hh e he hb) he' hb') j hje
      have hanci:=hancl i _ ho hafter;have hlo:cnt ops.size (fun j=>wr j&&anc i j)≤cnt ops.size (fun j=>wr j&&listed.getD j false):=eA fun j _ hj=>by
        simp only[Bool.and_eq_true]at hj ⊢;exact⟨hj.1,by simp[Array.getD_eq_getD_getElem?,hanci j hj.2]⟩
      have hhi:cnt ops.size (fun j=>wr j&&listed.getD j false)≤cnt ops.size (fun j=>wr j&& !anc j i&& !(j==i)):=eA fun j hjs hj=>by
        simp only[Bool.and_eq_true,Bool.not_eq_true']at hj ⊢;have hlj:listed[j]? =some true:=by
          have:=hj.2;simp[Array.getD_eq_getD_getElem?]at this;cases hx:listed[j]? with
          |none=>rw[hx]at this;simp at this
          |some b=>rw[hx]at this;simp at this;rw[this]
        refine⟨⟨hj.1,?_⟩,?_⟩
        · cases hx:anc j i with
          |false=>rfl
          | true=>
            have hoj:ops[j]? =some ops[j]:=Array.getElem?_eq_getElem hjs;have:=hancl j _ hoj (fun e he hb=>hcl j _ e hoj hlj he hb) i hx;rw[hli]at this;cases this
        · cases hx:(j==i)with
          |false=>rfl
          | true => have:j=i:=by simpa using hx
                    subst this;rw[hli]at hlj;cases hlj
      have hcl': ∀(i':Nat) (o:Oper) (e:Edge),ops[i']? =some o→(listed.setIfInBounds i true)[i']? =some true→e∈o.after→Region.binds .any e=true→(listed.setIfInBounds i true)[e.on]? =some true:=by
        intro i' o e hoi' hl' he hb;have hset: ∀(j:Nat),listed[j]? =some true→(listed.setIfInBounds i true)[j]? =some true:=by
          intro j hj;rw[Array.getElem?_setIfInBounds];split
          · first|rfl|simp[hlt]
          · exact hj
        by_cases e':i'=i
        · subst e';rw[ho]at hoi';cases hoi';exact hset _ (hafter e he hb)
        · rw[Array.getElem?_setIfInBounds,if_neg (by omega)]at hl'
          exact hset _ (hcl i' o e hoi' hl' he hb)
      have hcnt:cnt ops.size (fun j=>wr j&&(listed.setIfInBounds i true).getD j false)=cnt ops.size (fun j=>wr j&&listed.getD j false)+(if wr i=true then 1 else 0):=by
        have:=fB (k:=ops.size) (i:=i) (p:=fun j=>wr j&&listed.getD j false) (q:=fun j=>wr j&&(listed.setIfInBounds i true).getD j false) h1 (by simp[Array.getD_eq_getD_getElem?,hli]) (fun j hj=>by
          simp only[Array.getD_eq_getD_getElem?,Array.getElem?_setIfInBounds];rw[if_neg (by omega)])
        rw[this];simp[Array.getD_eq_getD_getElem?,Array.getElem?_setIfInBounds,hlt]
      have hfu':cnt ops.size (fun j=> !(listed.setIfInBounds i true).getD j false)≤fuel:=by
        have:=fB (k:=ops.size) (i:=i) (p:=fun j=> !(listed.setIfInBounds i true).getD j false) (q:=fun j=> !listed.getD j false) h1 (by simp[Array.getD_eq_getD_getElem?,Array.getElem?_setIfInBounds,hlt]) (fun j hj=>by
          simp only[Array.getD_eq_getD_getElem?,Array.getElem?_setIfInBounds];rw[if_neg (by omega)])
        have h1:(!listed.getD i false)=true:=by simp only[Array.getD_eq_getD_getElem?,hli];rfl
        simp only[h1,if_true]at this;omega
      have hrest : cd n F μ ⟨only ops ops[i] (T i),Hk (cnt ops.size fun j=>wr j&&listed.getD j false),a.D⟩ act w:=by
        refine⟨vd,hn,fun t=> ?_⟩;show VR F w μ (get (only ops ops[i] (T i)) t) _;unfold only;rw[iI];split
        · rename_i ht
          obtain⟨g1,g2⟩:=hTx i (by omega) t;by_cases hex: ∃(j:Nat) (o:Oper),ops[j]? =some o∧o.dst=some t
          · obtain ⟨j,o,hoj,hd⟩:=hex
            rcases hL i _ t j o ho ht hoj hd with haj|⟨hij,haj⟩
            · have hji:j<i:=by
                have key: ∀(i':Nat) (o':Oper),ops[i']? =some o'→ ∀j,anc i' j=true→j<i':=by
                  intro i';induction i' using Nat.strongRecOn with
                  | _ i' ihh=>
                    intro o' hoi' j hj;obtain⟨e,he,hb,hje⟩:=hA i' j o' hoi' hj;have hon:=hE i' o' e hoi' he hb;rcases hje with rfl|hje
                    · exact hon
                    · have hois:i'<ops.size:=(Array.getElem?_eq_some_iff.1 hoi').1
                      have:=ihh e.on hon _ (Array.getElem?_eq_getElem (by omega)) j hje;omega
                exact key i _ ho j haj
              rw[g1 j o hji hoj hd];exact(hsl t).1 j o hoj hd (hanci j haj)
            · rw[g2 fun k o' hk hok hdk=>by
                have:=hD k j _ _ t hok hoj hdk hd
                omega]
              refine(hsl t).2 fun k o' hok hdk hlk=> ?_;have hkj:=hD k j _ _ t hok hoj hdk hd;subst hkj;have:=hancl k _ hoj (fun e he hb=>hcl k _ e hoj hlk he hb) i haj;rw[hli]at this;cases this
          · rw[g2 fun j o _ hoj hd=>hex ⟨j,o,hoj,hd⟩]
            exact(hsl t).2 fun j o hoj hd=>(hex ⟨j,o,hoj,hd⟩).elim
        · exact .junk _
      refine hS i _ _ ho hlo hhi i B (dX n B Q) _ F μ act w ho s hrest ?_ (fun _ _ _ h=>by cases h);rintro v' H' he V w' F' μ' x s' hV;cases he;refine ih _ _ _ ⟨by simpa using hsz,hcl',F',μ',by rw[hcnt];exact s',y.trans x,?_,?_,fun t=> ?_⟩ hfu'
      · cases(ops[i]).dst<;>exact vd.mono x
      · cases(ops[i]).dst<;>simp[Act.put,hn]
      · have hslot: ∀t,(act.put (ops[i]).dst V).tmps.getD t undef=if(ops[i]).dst=some t then V else act.tmps.getD t undef:=by
          intro t;cases hd:(ops[i]).dst with
          |none=>simp[Act.put]
          | some d=>
            have hdn:d<act.tmps.size:=by rw[hn];exact dh hf i _ d ho hd
            simp only[Act.put,Array.getD_eq_getD_getElem?,Array.getElem?_setIfInBounds];by_cases e:d=t
            · subst e;simp[hdn]
            · simp[e]
        rw[hslot];refine⟨fun j o hoj hd hl=> ?_,fun hno=> ?_⟩
        · by_cases e:j=i
          · subst e;rw[ho]at hoj;cases hoj;rw[if_pos hd];exact hV
          · rw[if_neg fun h=>e (hD j i _ _ t hoj ho hd h)]
            rw[Array.getElem?_setIfInBounds,if_neg (by omega)]at hl;exact VR.mono x ((hsl t).1 j o hoj hd hl)
        · have hne:(ops[i]).dst≠some t:=fun h=>hno i _ ho h (by rw[Array.getElem?_setIfInBounds,if_pos rfl,if_pos hlt])
          rw[if_neg hne];refine VR.mono x ((hsl t).2 fun j o hoj hd hl=>hno j o hoj hd ?_);rw[Array.getElem?_setIfInBounds];split
          · first|rfl|simp[hlt]
          · exact hl
  refine main _ _ _ _ ⟨by simp,?_,F,μ,?_,y.trans x1,t.defers.mono x1,t.size,fun tt=>⟨?_,?_⟩⟩ ?_
  · intro i o e _ hl
    rw[Array.getElem?_replicate]at hl;split at hl<;>cases hl
  · have:cnt ops.size (fun j=>wr j&&(Array.replicate ops.size false).getD j false)=cnt 0 (fun _=>false):=by
      have: ∀k,cnt k (fun j=>wr j&&(Array.replicate ops.size false).getD j false)=0:=by
        intro k;induction k with
        |zero=>rfl
        | succ k ih=>
          simp only[cnt,ih];by_cases hk:k<ops.size<;>simp[Array.getD_eq_getD_getElem?,Array.getElem?_replicate,hk]
      rw[this];rfl
    rw[this];simp only[cnt];rw[hH];exact s1
  · intro j o _ _ hl
    rw[Array.getElem?_replicate]at hl;split at hl<;>cases hl
  · intro _;exact VR.mono x1 (t.slots tt)
  · refine Nat.le_trans (eA (q:=fun _=>true) fun _ _ _=>rfl) ?_
    have: ∀k,cnt k (fun _=>true)=k:=by
      intro k;induction k with
      |zero=>rfl
      |succ k ih=>simp[cnt,ih]
    rw[this];exact Nat.le_refl _
end
section
variable{P:Program} {n m:Nat} {R:Option Nat} {a:St} {Q:Ex→St→Prop} {ops:Array Oper}
end
inductive UM where
 |ret
 |pan (t:TypeId) (v:AV)
inductive UMR (F:Nat→Nat→Prop) (w:World) (μ:Nat→Option Loc):UM→FrameMode→Prop
 |ret:UMR F w μ .ret .returning
 |pan (t:TypeId) (v:AV) (V:Value) (h:VR F w μ v V):UMR F w μ (.pan t v) (.panicking [{v:=.iface t V,recovered:=false}])
def gG(P:Program)(f:FuncId)(args:List AV)(u:UM)(H:List OB)(u1:UM)(H1:List OB):Prop:=
 (∀Vs w,(callFunc f Vs).run P w=.ok (.enter f Vs) w)∧
 ∀(w0:World) (F0 F:Nat→Nat→Prop) (μ:Nat→Option Loc) (w:World) (Vs:List Value) (U:FrameMode),Sim w0 F0 F μ H w→VRs F w μ args Vs→UMR F w μ u U→
  CallsDIn Fence.wide 0 P f Vs.toArray U w fun e U' w'=>(∃v,e=.returned v)∧∃F' μ',Ext F w μ F' w' μ'∧Sim w0 F0 F' μ' H1 w'∧UMR F' w' μ' u1 (settle U')
def LvA(P:Program)(K:UM→St→Prop)(T:List (Nat×AV)):List DE→UM→List OB→Prop
 | [],u,H=>K u ⟨T,H,[]⟩
 | .mark id::D,u,H=>H[id]? =some .dfr∧LvA P K T D u (H.set id .dead)
 | .call (.func f) cs as::D,u,H=>∃u1 H1,gG P f (as++cs) u H u1 H1∧LvA P K T D u1 H1
 | .call _ _ _::_,_,_=>False
section
variable{P:Program} {w0:World} {F0 F F':Nat→Nat→Prop} {μ μ':Nat→Option Loc} {H H':List OB} {w w':World} {n m:Nat} {a:St} {act:Act}
theorem UMR.run{u:UM}{U:FrameMode}(h:UMR F w μ u U):U≠ .run:=by cases h<;>simp
theorem UMR.mono{u:UM}{U:FrameMode}(h:UMR F w μ u U)(x:Ext F w μ F' w' μ'):UMR F' w' μ' u U:=by
 cases h with
 |ret=>exact .ret
 |pan t v V h=>exact .pan t v V (VR.mono x h)
theorem zZ {fn:Func} {K:UM→St→Prop} {E:Ending→World→Prop} {T:List (Nat×AV)} {tmps:Array Value} (hsz:tmps.size=n):
    ∀{D:List DE} {ds:List Deferred} {u:UM} {U:FrameMode} {H:List OB} {F:Nat→Nat→Prop} {μ:Nat→Option Loc} {w:World},LvA P K T D u H→Sim w0 F0 F μ H w→VD F w μ D ds→(∀t,VR F w μ (get T t) (tmps.getD t undef))→UMR F w μ u U→
    (∀u' U' H' F' μ' w',K u' ⟨T,H',[]⟩→Sim w0 F0 F' μ' H' w'→Ext F w μ F' w' μ'→cd n F' μ' ⟨T,H',[]⟩ {tmps,defers:=[]} w'→UMR F' w' μ' u' U'→LeavesIn Fence.wide 1 P fn tmps E [] U' w')→
    LeavesInM Fence.wide 1 P fn tmps E ds U w:=by
  intro D;induction D with
  | nil=>
    intro ds u U H F μ w h s hd ht hu hlast;cases hd;exact hlast u U H F μ w h s (Ext.refl _ _ _) ⟨.nil,hsz,ht⟩ hu
  | cons d D ih=>
    intro ds u U H F μ w h s hd ht hu hlast;cases hd with
    | cons id L _ ds hμ hd=>
      simp only[LvA]at h;obtain⟨hid,h⟩:=h;have hob:=s.obs id _ hid;cases hob with
      | dfr L' hμ' hB hw hF=>
        rw[hμ]at hμ';cases hμ';obtain⟨x,s'⟩:=s.write id .dfr .dead L hid rfl hμ (.deferred none) (fun _=>.dead);refine⟨hu.run,.inl ⟨L.block,_,rfl,?_,ih h s' (hd.mono x) (fun t=>VR.mono x (ht t)) (hu.mono x) fun u' U' H' F' μ' w' k s'' x'=>hlast u' U' H' F' μ' w' k s'' (x.trans x')⟩⟩;simp[Instr.takeDeferred,getObj,setObj,Sem.run,Sem.run_bind,hw,Result.andThen]
    | call fv cs as Cs As _ ds hc ha hd=>
      cases fv with
      | func f=>
        simp only[LvA]at h;obtain⟨u1,H1,⟨henter,hcall⟩,h⟩:=h;have hv:VRs F w μ (as++cs) (As.toList++Cs.toList):=ha.append hc;have hA:(As.toList++Cs.toList).toArray=As++Cs:=by apply Array.ext';simp
        have hcc:=hcall w0 F0 F μ w _ U s hv hu;rw[hA]at hcc;refine⟨hu.run,.inr ⟨fun _=>Nat.le_refl _,.func f,Cs,f,As++Cs,rfl,?_,fun _ _=>trivial,hcc.mono ?_⟩⟩
        · simp only[invoke];exact henter _ _
        · rintro e U' w' ⟨⟨v,rfl⟩,F',μ',x,s',hu'⟩
          exact ih h s' (hd.mono x) (fun t=>VR.mono x (ht t)) hu' fun u' U'' H' F'' μ'' w'' k s'' x'=>hlast u' U'' H' F'' μ'' w'' k s'' (x.trans x')
      |method name=>simp only[LvA]at h
      |methodOf t name=>simp only[LvA]at h
      |via t p f q=>simp only[LvA]at h
      |yield l=>simp only[LvA]at h
def lvQ(P:Program)(K:UM→St→Prop):Ex→St→Prop
 | .normal,a| .ret,a=>LvA P K a.T a.D .ret a.H
 | .panic t v,a=>LvA P K a.T a.D (.pan t v) a.H
 |_,_=>False
def sV(P:Program)(rs:List ResultVar)(out:Out):UM→St→Prop
 | .ret,a=>C4 P rs out a
 | .pan t v,a=>match out with
  | .pan t' v'=>t=t'∧∃v0,fz a.H 20 v=some v0∧Le v0 v'
  |_=>False
theorem Aa {fn:Func} {K:UM→St→Prop} {E:Ending→World→Prop} {B:Bs m} {ex:Ex} {e:Exit} (hq:lvQ P K ex a) (hx:ExR F w μ ex e) (s:Sim B.w0 B.F0 F μ a.H w) (t:cd n F μ a act w)
    (hlast: ∀u' U' H' F' μ' w',K u' ⟨a.T,H',[]⟩→Sim B.w0 B.F0 F' μ' H' w'→Ext F w μ F' w' μ'→cd n F' μ' ⟨a.T,H',[]⟩ {act with defers:=[]} w'→UMR F' w' μ' u' U'→LeavesIn Fence.wide 1 P fn act.tmps E [] U' w'):
    bodyPostM Fence.wide 1 P fn E e act w:=by
  cases hx with
  |normal=>exact zZ t.size hq s t.defers t.slots .ret hlast
  |ret=>exact zZ t.size hq s t.defers t.slots .ret hlast
  |exit id=>exact hq.elim
  |goto l=>exact hq.elim
  |panic tt v V hV=>exact zZ t.size hq s t.defers t.slots (.pan tt v V hV) hlast
theorem ad.ofD {f:FuncId} {fn:Func} {c:Code} {args:List AV} {out:Out} (hf:P.funcs[f]? =some fn) (hb:fn.body=some c) (hc: ∀Vs w,(callFunc f Vs).run P w=.ok (.enter f Vs) w) (hn:args.length≤fn.ntmps)
    (h:W P fn.ntmps 0 none c (lvQ P (sV P fn.results.toList out)) ⟨aL 0 args,[],[]⟩):ad P f args out:=by
  intro F w Vs hlt hv;refine .inl ⟨w,hc _ _,rfl,(callsIn_wide (n:=1)).1 (callsIn_of_wp_marks hf hb trivial ?_ rfl)⟩;have s0:Sim w F F noμ [] w:=⟨Below.refl _ _,fun _ _ h=>h,fun _ _ _ h=>h,hlt,by simp,by simp,fun _ _ h=>by cases h⟩
  refine wpIn_mono (h ⟨w,F,w,F,noμ,fun _ _ h=>by cases h⟩ _ w ⟨F,noμ,s0,Ext.refl _ _ _,cd.start hv hn⟩) ?_;rintro e act' w' ⟨ex,a',F',μ',hq,hx,s,y,t⟩;refine Aa (B:=⟨w,F,w,F,noμ,fun _ _ h=>by cases h⟩) (m:=0) hq hx s t ?_;intro u' U' H1 F1 μ1 w1 k s1 x1 t1 hu
  have hpost: ∀out' e',eW (fq F1 μ1 H1) w1 noμ out' e'→CV F w out' e' w1:=fun out' e' ho=>
    ⟨s1.below,fq F1 μ1 H1,fun b o h=>.inl (s1.new b o h),mY s1,fun b o hb h=>ky s1 b o hb h,ho⟩
  cases hu with
  | ret=>
    cases out with
    |pan _ _=>exact k.elim
    | ret r=>
      obtain⟨r',h1,h2⟩:=k;rw[Option.bind_eq_some_iff]at h1;obtain⟨r0,h3,h4⟩:=h1;obtain⟨V,h5,h6⟩:=cJ (P:=P) (act:={act' with defers:=[]}) s1 t1 h3;exact⟨V,h5,hpost _ _ (.ret r V ((nF s1 _ _ _ _ h4 h6).le h2))⟩
  | pan tt v V hV=>
    cases out with
    |ret _=>exact k.elim
    | pan t' v'=>
      obtain⟨rfl,v0,h1,h2⟩:=k;exact hpost _ _ (.pan tt v' V ((nF s1 _ _ _ _ h1 hV).le h2))
def I0(P:Program)(rs:List ResultVar)(out:Out)(H':List OB):UM→St→Prop
 | .ret,a=>a.H=H'∧∃r,eH P rs a=some r∧out=.ret r
 | .pan t v,a=>a.H=H'∧out=.pan t v
theorem aY.Lu {f:FuncId} {fn:Func} {c:Code} {args:List AV} {out:Out} (hf:P.funcs[f]? =some fn) (hb:fn.body=some c) (hc: ∀Vs w,(callFunc f Vs).run P w=.ok (.enter f Vs) w) (hn:args.length≤fn.ntmps)
    (h:W P fn.ntmps H.length none c (lvQ P (I0 P fn.results.toList out H')) ⟨aL 0 args,H,[]⟩):aY P f args H out H':=by
  intro w0 F0 F μ w Vs s0 hv;refine .inl ⟨w,hc _ _,rfl,(callsIn_wide (n:=1)).1 (callsIn_of_wp_marks hf hb trivial ?_ rfl)⟩;refine wpIn_mono (h ⟨w0,F0,w,F,μ,s0.dom⟩ _ w ⟨F,μ,s0,Ext.refl _ _ _,cd.start hv hn⟩) ?_;rintro e act' w' ⟨ex,a',F',μ',hq,hx,s,y,t⟩;refine Aa (B:=⟨w0,F0,w,F,μ,s0.dom⟩) (m:=H.length) hq hx s t ?_;intro u' U' H1 F1 μ1 w1 k s1 x1 t1 hu;cases hu with
  | ret=>
    obtain⟨rfl,r,h1,rfl⟩:=k;obtain⟨V,h5,h6⟩:=cJ (P:=P) (act:={act' with defers:=[]}) s1 t1 h1;exact⟨V,h5,F1,μ1,y.trans x1,s1,.ret r V h6⟩
  | pan tt v V hV=>
    obtain⟨rfl,rfl⟩:=k;exact⟨F1,μ1,y.trans x1,s1,.pan tt v V hV⟩
def FF(P:Program)(rs:List ResultVar)(H1:List OB):Ex→St→Prop
 | .normal,a| .ret,a=>a.D=[]∧(∃r,eH P rs a=some r)∧a.H=H1
 |_,_=>False
def Ab(P:Program)(rs:List ResultVar)(H1:List OB):Ex→St→Prop
 | .normal,a| .ret,a=>a.D=[]∧(∃r,eH P rs a=some r)∧bm H1.length a.H H1
 |_,_=>False
theorem Ac{fn:Func}{ex:Ex}{e:Exit}{H1:List OB}(hq:FF P fn.results.toList H1 ex a)(hx:ExR F w μ ex e)(s:Sim w0 F0 F μ a.H w)(t:cd n F μ a act w):
    (e=.normal∨e=.ret)∧act.defers=[]∧(∃V,(results fn act.tmps).run P w=.ok V w)∧Sim w0 F0 F μ H1 w:=by
  have main:(a.D=[]∧(∃r,eH P fn.results.toList a=some r)∧a.H=H1)→act.defers=[]∧(∃V,(results fn act.tmps).run P w=.ok V w)∧Sim w0 F0 F μ H1 w:=by
    rintro⟨hD,⟨r,hr⟩,rfl⟩;have hd:=t.defers;rw[hD]at hd;have hd0:act.defers=[]:=by generalize act.defers=ds at hd;cases hd;rfl
    obtain⟨V,h1,_⟩:=cJ (P:=P) s t hr;exact⟨hd0,⟨V,h1⟩,s⟩
  cases hx with
  |normal=>exact⟨.inl rfl,main hq⟩
  |ret=>exact⟨.inr rfl,main hq⟩
  |exit id=>exact hq.elim
  |goto l=>exact hq.elim
  |panic _ _ _ _=>exact hq.elim
theorem C8{fn:Func}{ex:Ex}{e:Exit}{B:Bs m}{H1:List OB}(hm:m≤H1.length)(hq:Ab P fn.results.toList H1 ex a)(hx:ExR F w μ ex e)(s:Sim B.w0 B.F0 F μ a.H w)(y:Ext B.Fs B.ws B.μs F w μ)(t:cd n F μ a act w):
    (e=.normal∨e=.ret)∧act.defers=[]∧(∃V,(results fn act.tmps).run P w=.ok V w)∧ ∃μ',Ext B.Fs B.ws B.μs F w μ'∧Sim B.w0 B.F0 F μ' H1 w:=by
  have main:(a.D=[]∧(∃r,eH P fn.results.toList a=some r)∧bm H1.length a.H H1)→act.defers=[]∧(∃V,(results fn act.tmps).run P w=.ok V w)∧ ∃μ',Ext B.Fs B.ws B.μs F w μ'∧Sim B.w0 B.F0 F μ' H1 w:=by
    rintro⟨hD,⟨r,hr⟩,hs⟩;have hd:=t.defers;rw[hD]at hd;have hd0:act.defers=[]:=by generalize act.defers=ds at hd;cases hd;rfl
    obtain⟨V,h1,_⟩:=cJ (P:=P) s t hr;refine⟨hd0,⟨V,h1⟩,cutμ H1.length μ,⟨?_,y.fr,y.cell,y.obj⟩,s.cut rfl (nJ hs)⟩;intro id L hL;have:=B.dom id L hL;unfold cutμ;rw[if_pos (by omega)];exact y.mu _ _ hL
  cases hx with
  |normal=>exact⟨.inl rfl,main hq⟩
  |ret=>exact⟨.inr rfl,main hq⟩
  |exit id=>exact hq.elim
  |goto l=>exact hq.elim
  |panic _ _ _ _=>exact hq.elim
theorem gG.ofX {f:FuncId} {fn:Func} {c:Code} {args:List AV} {u:UM} {H1:List OB} (hf:P.funcs[f]? =some fn) (hb:fn.body=some c) (hc: ∀Vs w,(callFunc f Vs).run P w=.ok (.enter f Vs) w) (hn:args.length≤fn.ntmps)
    (h:W P fn.ntmps H.length none c (FF P fn.results.toList H1) ⟨aL 0 args,H,[]⟩):gG P f args u H u H1:=by
  refine⟨hc,fun w0 F0 F μ w Vs U s0 hv hU=> ?_⟩;refine(callsDIn_of_wp (F:=Fence.wide) (n:=0) (u:=U) (R:=fun e w'=>(∃v,e=.returned v)∧ ∃F' μ',Ext F w μ F' w' μ'∧Sim w0 F0 F' μ' H1 w'∧UMR F' w' μ' u (settle U)) hf hb trivial ?_ rfl).mono ?_
  · refine wpIn_mono (gg (h ⟨w0,F0,w,F,μ,s0.dom⟩ _ w ⟨F,μ,s0,Ext.refl _ _ _,cd.start hv hn⟩)) ?_
    rintro e act' w' ⟨ex,a',F',μ',hq,hx,s,y,t⟩;obtain⟨he,hd,⟨V,hV⟩,s'⟩:=Ac hq hx s t;have hR:(∃v,Ending.returned V=.returned v)∧ ∃F' μ',Ext F w μ F' w' μ'∧Sim w0 F0 F' μ' H1 w'∧UMR F' w' μ' u (settle U):=by
      refine⟨⟨V,rfl⟩,F',μ',y,s',?_⟩;cases hU with
      |ret=>exact .ret
      |pan t v V hv=>exact .pan t v V (VR.mono y hv)
    rcases he with rfl|rfl
    · exact⟨hd,V,hV,hR⟩
    · exact⟨hd,V,hV,hR⟩
  · rintro e U' w' ⟨rfl,hv,F',μ',h1,h2,h3⟩
    exact⟨hv,F',μ',h1,h2,h3⟩
theorem gG.rec {f:FuncId} {fn:Func} {id d:Nat} {o:Oper} {c:Call} {rest:Code} {args:List AV} {u:UM} {H1:List OB} (hf:P.funcs[f]? =some fn) (hb:fn.body=some (.seq (.region id #[o] false) rest)) (ho:o.op=.call c) (hcl:c.callee=.builtin .recover)
    (hd:o.dst=some d) (hg:o.guard=none) (hdn:d<fn.ntmps) (hc: ∀Vs w,(callFunc f Vs).run P w=.ok (.enter f Vs) w) (hn:args.length≤fn.ntmps) (hle:H.length≤H1.length)
    (h:W P fn.ntmps H.length none rest (Ab P fn.results.toList H1) ⟨(d,match u with| .ret=>.nilif| .pan t v=>.iface t v)::aL 0 args,H,[]⟩):gG P f args u H .ret H1:=by
  refine⟨hc,fun w0 F0 F μ w Vs U s0 hv hU=> ?_⟩;refine callsDIn_of_wpSIn hf hb trivial fun c₀ cs hmode=> ?_;refine wpSIn_seq (wpSIn_region ?_);have hrec: ∀ρ w,(execOp ρ o).run P w=.ok .recover w:=by
    intro ρ w;obtain⟨callee,args0,tys⟩:=c;simp only at hcl;subst hcl;unfold execOp;rw[ho];simp[resolve,invoke,builtin]
  have hw: ∀tmps,Region.wanted o (yielded #[o] tmps)=true:=by intro tmps;simp[Region.wanted,hg]
  have hrel: ∀(v:AV) (V:Value),VR F w μ v V→Rel fn.ntmps (⟨w0,F0,w,F,μ,s0.dom⟩:Bs H.length) ⟨(d,v)::aL 0 args,H,[]⟩ (({tmps:=Vs.toArray++Array.replicate (fn.ntmps - Vs.toArray.size) undef,defers:=[]}:Act).put o.dst V) w:=by
    intro v V hV;have t0:cd fn.ntmps F μ ⟨aL 0 args,H,[]⟩ {tmps:=Vs.toArray++Array.replicate (fn.ntmps - Vs.toArray.size) undef,defers:=[]} w:=cd.start hv hn;have:=t0.put (H':=H) (Ext.refl _ _ _) hV (dst:=o.dst) (fun d' hd'=>by rw[hd]at hd';cases hd';exact hdn);rw[hd]at this ⊢;exact⟨F,μ,s0,Ext.refl _ _ _,this⟩
  have fin: ∀(v:AV) (V:Value) (U':FrameMode),settle U'=.returning→VR F w μ v V→W P fn.ntmps H.length none rest (Ab P fn.results.toList H1) ⟨(d,v)::aL 0 args,H,[]⟩→
      rest.wpSIn Fence.wide 0 P (bodyPostS P fn c₀ cs fun e U' w'=>(∃v,e=.returned v)∧ ∃F' μ',Ext F w μ F' w' μ'∧Sim w0 F0 F' μ' H1 w'∧UMR F' w' μ' .ret (settle U'))
        (({tmps:=Vs.toArray++Array.replicate (fn.ntmps - Vs.toArray.size) undef,defers:=[]}:Act).put o.dst V) ({c₀ with mode:=U'}::cs) w:=by
    intro v V U' hset hV hW;refine wpSIn_of_wpIn rfl (wpIn_mono (gg (hW ⟨w0,F0,w,F,μ,s0.dom⟩ _ w (hrel v V hV))) ?_);rintro e act' w' ⟨ex,a',F',μ',hq,hx,s,y,t⟩;obtain⟨he,hd,⟨V,hV⟩,μ'',y',s'⟩:=C8 (B:=⟨w0,F0,w,F,μ,s0.dom⟩) hle hq hx s y t;have hR:(∃v,Ending.returned V=.returned v)∧ ∃F' μ',Ext F w μ F' w' μ'∧Sim w0 F0 F' μ' H1 w'∧UMR F' w' μ' .ret (settle U'):=⟨⟨V,rfl⟩,F',μ'',y',s',by rw[hset];exact .ret⟩
    rcases he with rfl|rfl
    · exact⟨hd,U',rfl,V,hV,hR⟩
    · exact⟨hd,U',rfl,V,hV,hR⟩
  show wpOpsSIn Fence.wide 0 P #[o] _ [0] _ _ _;simp only[wpOpsSIn];have h0:(#[o]:Array Oper)[0]? =some o:=rfl;rw[h0];simp only[hw,hrec,if_true];refine⟨fun _ _=>trivial,?_⟩;cases hU with
  | ret=>
    have hr:recoverD (c₀ ::cs)=none:=by simp[recoverD,hmode]
    rw[hr];simp only[Exit.thenS];have hc0:({c₀ with mode:=.returning}:Frame)=c₀ :=by rw[←hmode]
    have:=fin .nilif .nilIface .returning rfl .nilif h;rwa[hc0]at this
  | pan t v V hV=>
    have hr:recoverD (c₀ ::cs)=some (.iface t V,{c₀ with mode:=.panicking [{v:=.iface t V,recovered:=true}]}::cs):=by simp[recoverD,hmode]
    rw[hr];simp only[Exit.thenS];exact fin (.iface t v) (.iface t V) _ rfl (.iface _ _ _ hV) h
end
section
variable{P:Program} {w0:World} {F0 F:Nat→Nat→Prop} {μ:Nat→Option Loc} {H:List OB} {w:World} {f:FuncId} {fn:Func}
theorem gZ(s:Sim w0 F0 F μ H w){id off:Nat}{cs:List AV}{opn:Bool}{v:AV}(hid:H[id]? =some (.cells cs opn))(hv:cs[off]? =some v){L:Loc}(hμ:μ id=some L):
    ∃V,w.cell? ⟨L.block,L.off+off,none⟩=some V∧VR F w μ v V∧w.frozen? ⟨L.block,L.off+off,none⟩=false:=by
  have hob:=s.obs id _ hid;cases hob with
  | cells _ _ L' c el lo hi hμ' hB hw hcap hlen hfix hun hcs hF=>
    rw[hμ]at hμ';cases hμ';obtain⟨V,h1,h2⟩:=hcs off v hv;have hlt:=(List.getElem?_eq_some_iff.1 hv).1;refine⟨V,by rw[dH w _ _ c el (lo,hi) hw];exact h1,h2,?_⟩;simp only[World.frozen?,hw];have:=hun (L.off+off) (by omega) (by omega);simp only[Bool.and_eq_false_iff,decide_eq_false_iff_not];omega
theorem iL(s:Sim w0 F0 F μ H w){id off:Nat}{cs:List AV}{opn:Bool}{v:AV}{V:Value}(hid:H[id]? =some (.cells cs opn))(hoff:off<cs.length)(hv:VR F w μ v V)(hc:v.isC=true){L:Loc}(hμ:μ id=some L):
    Ext F w μ F (w.setCell ⟨L.block,L.off+off,none⟩ V) μ∧Sim w0 F0 F μ (H.set id (.cells (cs.set off v) opn)) (w.setCell ⟨L.block,L.off+off,none⟩ V):=by
  have hob:=s.obs id _ hid;cases hob with
  | cells _ _ L' c el lo hi hμ' hB hw hcap hlen hfix hun hcs hF=>
    rw[hμ]at hμ';cases hμ';rw[kj w _ _ V c el (lo,hi) hw];refine s.write id _ (.cells (cs.set off v) opn) L hid rfl hμ (.cells (c.setIfInBounds (L.off+off) V) el (lo,hi)) (fun x=> ?_);have hb:L.block<w.heap.size:=(Array.getElem?_eq_some_iff.1 hw).1
    refine .cells _ _ L (c.setIfInBounds (L.off+off) V) el lo hi hμ hB (by show(w.heap.setIfInBounds L.block _)[L.block]? =_;rw[Array.getElem?_setIfInBounds,if_pos rfl,if_pos hb]) (by simpa using hcap)
      (by simpa using hlen) (by simpa using hfix) hun ?_ hF
    intro i u hi;rw[List.getElem?_set]at hi;rw[Array.getElem?_setIfInBounds];split at hi
    · rename_i e
      subst e
      try rw[if_pos hoff]at hi
      rw[if_pos rfl,if_pos (by omega)];injection hi with hi
      subst hi;exact⟨V,rfl,VR.mono x hv⟩
    · rename_i e
      rw[if_neg (by omega)];obtain⟨U,h5,h6⟩:=hcs i u hi;exact⟨U,h5,VR.mono x h6⟩
theorem pX (hf:P.funcs[f]? =some fn) (hname:(fn.name== "runtime.NumGoroutine")=false) (hb:fn.body.isNone=true) (hn:Extern.findNext fn=none) (m:Mark)
    (he:Extern.find fn=some (fun _=>do mark m;pure Extern.Race.none_)):aY P f [] H (.ret (.tup [])) H:=by
  intro w0 F0 F μ w Vs s hv;cases hv;exact .inr ⟨_,w,run_call_mark0 hf hname hb hn m he w,F,μ,Ext.refl _ _ _,s,.ret _ _ (.tup _ _ .nil)⟩
theorem nS (hf:P.funcs[f]? =some fn) (hname:(fn.name== "runtime.NumGoroutine")=false) (hb:fn.body.isNone=true) (hn:Extern.findNext fn=none) (m:Addr→Mark)
    (he:Extern.find fn=some (Extern.Race.marked m)) (id off:Nat):aY P f [.ptr id off] H (.ret (.tup [])) H:=by
  intro w0 F0 F μ w Vs s hv;cases hv with
  |cons _ _ _ _ h1 h2=>
  cases h2;cases h1 with
  |ptr _ _ L hμ=>exact .inr ⟨_,w,run_call_marked hf hname hb hn m he _ w,F,μ,Ext.refl _ _ _,s,.ret _ _ (.tup _ _ .nil)⟩
theorem Ad (hf:P.funcs[f]? =some fn) (hname:(fn.name== "runtime.NumGoroutine")=false) (hb:fn.body.isNone=true) (hn:Extern.findNext fn=none) (k:IntKind)
    (he:Extern.find fn=some (Extern.Atomic.loadT (.int k))) {id off:Nat} {cs:List AV} {opn:Bool} {x:Int} (hid:H[id]? =some (.cells cs opn)) (hx:cs[off]? =some (.int k x)):aY P f [.ptr id off] H (.ret (.int k x)) H:=by
  intro w0 F0 F μ w Vs s hv;cases hv with
  |cons _ _ _ _ h1 h2=>
  cases h2;cases h1 with
  | ptr _ _ L hμ=>
    obtain⟨V,g1,g2,_⟩:=gZ s hid hx hμ;cases g2;exact .inr ⟨_,w,run_call_load hf hname hb hn k he g1,F,μ,Ext.refl _ _ _,s,.ret _ _ (.int _ _)⟩
theorem ym (hf:P.funcs[f]? =some fn) (hname:(fn.name== "runtime.NumGoroutine")=false) (hb:fn.body.isNone=true) (hn:Extern.findNext fn=none)
    (he:Extern.find fn=some Extern.Atomic.storeT) {id off:Nat} {cs:List AV} {opn:Bool} {v:AV} {k:IntKind} {y:Int} (hid:H[id]? =some (.cells cs opn)) (hx:cs[off]? =some v):
    aY P f [.ptr id off,.int k y] H (.ret (.tup [])) (H.set id (.cells (cs.set off (.int k y)) opn)):=by
  intro w0 F0 F μ w Vs s hv;cases hv with
  |cons _ _ _ _ h1 h2=>
  cases h2 with
  |cons _ _ _ _ h3 h4=>
  cases h4;cases h3;cases h1 with
  | ptr _ _ L hμ=>
    obtain⟨V,g1,g2,g3⟩:=gZ s hid hx hμ;obtain⟨x,s'⟩:=iL s hid (List.getElem?_eq_some_iff.1 hx).1 (.int k y) rfl hμ;exact .inr ⟨_,_,run_call_store hf hname hb hn he g1 g3,F,μ,x,s',.ret _ _ (.tup _ _ .nil)⟩
theorem C9 (hf:P.funcs[f]? =some fn) (hname:(fn.name== "runtime.NumGoroutine")=false) (hb:fn.body.isNone=true) (hn:Extern.findNext fn=none) (k:IntKind)
    (he:Extern.find fn=some (Extern.Atomic.casT (.int k))) {id off:Nat} {cs:List AV} {opn:Bool} {x y:Int} (hid:H[id]? =some (.cells cs opn)) (hx:cs[off]? =some (.int k x)):
    aY P f [.ptr id off,.int k x,.int k y] H (.ret (.bool true)) (H.set id (.cells (cs.set off (.int k y)) opn)):=by
  intro w0 F0 F μ w Vs s hv;cases hv with
  |cons _ _ _ _ h1 h2=>
  cases h2 with
  |cons _ _ _ _ h3 h4=>
  cases h4 with
  |cons _ _ _ _ h5 h6=>
  cases h6;cases h3;cases h5;cases h1 with
  | ptr _ _ L hμ=>
    obtain⟨V,g1,g2,g3⟩:=gZ s hid hx hμ;cases g2;obtain⟨x,s'⟩:=iL s hid (List.getElem?_eq_some_iff.1 hx).1 (.int k y) rfl hμ;exact .inr ⟨_,_,run_call_cas_hit hf hname hb hn k he g1 g3,F,μ,x,s',.ret _ _ (.bool _)⟩
theorem Da (hf:P.funcs[f]? =some fn) (hname:(fn.name== "runtime.NumGoroutine")=false) (hb:fn.body.isNone=true) (hn:Extern.findNext fn=none) (k:IntKind)
    (he:Extern.find fn=some (Extern.Atomic.update (Op.intArith .add) k true)) {id off:Nat} {cs:List AV} {opn:Bool} {x y:Int} (hid:H[id]? =some (.cells cs opn)) (hx:cs[off]? =some (.int k x)):
    aY P f [.ptr id off,.int k y] H (.ret (.int k (k.wrap (x+y)))) (H.set id (.cells (cs.set off (.int k (k.wrap (x+y)))) opn)):=by
  intro w0 F0 F μ w Vs s hv;cases hv with
  |cons _ _ _ _ h1 h2=>
  cases h2 with
  |cons _ _ _ _ h3 h4=>
  cases h4;cases h3;cases h1 with
  | ptr _ _ L hμ=>
    obtain⟨V,g1,g2,g3⟩:=gZ s hid hx hμ;cases g2;obtain⟨x',s'⟩:=iL s hid (List.getElem?_eq_some_iff.1 hx).1 (.int k (k.wrap (x+y))) rfl hμ;exact .inr ⟨_,_,run_call_add hf hname hb hn k he g1 g3 (by simp[Op.intArith]),F,μ,x',s',.ret _ _ (.int _ _)⟩
end
section
variable{P:Program} {t:TypeId} {H:List OB}
def ldC(H:List OB)(id off:Nat):Option AV:=
 match H[id]? with
 |some (.cells cs _)=>cs[off]?
 |_=>none
def ldG(n:Nat)(H:List OB)(id off:Nat):Option AV:=
 match H[id]? with
 |some (.cells cs _)=>if off+n≤cs.length then some (.agg ((cs.drop off).take n))else none
 |_=>none
def stC(n:Nat)(H:List OB)(id off:Nat)(v:AV):Option (List OB):=
 match H[id]? with
 |some (.cells cs opn)=>if v.cells.length=n∧off+n≤cs.length∧v.cells.all AV.isC=true then some (H.set id (.cells (cz cs off v.cells) opn))else none
 |_=>none
theorem ff{n:Nat}(hs:tsz P t=some n)(ha:tag P t=some false)(id off:Nat)(H:List OB):ao P t (.ptr id off) H=ldC H id off:=by
 simp only[ao,hs,ha,ldC,ldA];rfl
theorem jJ{n:Nat}(hs:tsz P t=some n)(ha:tag P t=some true)(id off:Nat)(H:List OB):ao P t (.ptr id off) H=ldG n H id off:=by
 simp only[ao,hs,ha,ldG,ldA];rfl
theorem jM{n:Nat}(hs:tsz P t=some n)(ha:tag P t=some false)(c:AV)(cs:List AV)(H:List OB):ao P t (.vptr (c::cs)) H=some c:=by
 simp[ao,hs,ha,ldA]
theorem Ae{n:Nat}(hs:tsz P t=some n)(ha:tag P t=some true)(cs:List AV)(H:List OB):ao P t (.vptr cs) H=if n≤cs.length then some (.agg (cs.take n))else none:=by
 simp[ao,hs,ha,ldA]
theorem cG{n:Nat}(hs:tsz P t=some n)(id off:Nat)(v:AV)(H:List OB):aA P t (.ptr id off) v H=stC n H id off v:=by
 simp only[aA,hs,stC];rfl
theorem cE{f o n:Nat}{ft:TypeId}(h:cS P t f=some (o,n,ft))(hn:n≠0)(id off:Nat):aq P t (.ptr id off) f=some (.ptr id (off+o)):=by
 simp[aq,h,hn]
theorem fO{f o n:Nat}{ft:TypeId}(h:cS P t f=some (o,n,ft))(hn:n≠0)(cs:List AV):aq P t (.vptr cs) f=some (.vptr (cs.drop o)):=by
 simp[aq,h,hn]
theorem lO{e:TypeId}{n:Nat}(hu:P.underlying t=some (.slice e))(hs:tsz P e=some n)(wd:Nat)(x:Bool)(es:List AV)(k:IntKind)(i:Int)(H:List OB){v:AV}(hi:0≤i∧es[i.toNat]? =some v)(hv:v.cells.length=n):
    ak P t (.vsl wd x es) (.int k i) H=some (.vptr v.cells):=by
  simp[ak,idx,hi.1,hu,hs,hi.2,hv]
theorem wA(hu:P.underlying t=some .string){s:Bytes}{b:UInt8}(k:IntKind)(i:Int)(hi:0≤i∧s[i.toNat]? =some b):cf P t (.str s) (.int k i)=some (aS b):=by
 simp[cf,idx,hi.1,hu,hi.2,aS]
theorem I1(hu:P.underlying t=some .string)(s:Bytes)(lo hi:Option AV):aM P t (.str s) lo hi none=(iw s.length lo hi).map fun p=>.str ((s.drop p.1).take (p.2 - p.1)):=by
 simp[aM,hu]
theorem Gq(hu:P.underlying t=some .string)(s:Bytes)(H:List OB):aI P t (.str s) H=some (.int .i64 s.length):=by
 simp[aI,hu]
theorem Gr{e:TypeId}(hu:P.underlying t=some (.slice e))(id off len wd:Nat)(H:List OB):aI P t (.sl id off len wd) H=some (.int .i64 len):=by
 simp[aI,hu]
theorem lP{e:TypeId}(hu:P.underlying t=some (.slice e))(wd:Nat)(x:Bool)(es:List AV)(H:List OB):aI P t (.vsl wd x es) H=some (.int .i64 es.length):=by
 simp[aI,hu]
theorem Lv(a b:Bytes)(h:a.length+b.length≤ay):aH P .add t (.str a) (.str b)=some (.str (a++b)):=by simp[aH,h]
theorem gl{n:Nat}(k:IntKind)(h:Nat)(hh:h≤n):iw n none (some (.int k (h:Int)))=some (0,h):=by simp[iw,bt,hh]
theorem bn{n:Nat}(k:IntKind)(l:Nat)(hl:l≤n):iw n (some (.int k (l:Int))) none=some (l,n):=by simp[iw,bt,hl]
theorem en{n:Nat}(k k':IntKind)(l h:Nat)(hl:l≤h)(hh:h≤n):iw n (some (.int k (l:Int))) (some (.int k' (h:Int)))=some (l,h):=by simp[iw,bt,hl,hh]
end
end Go.Av
