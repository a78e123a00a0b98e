/- A framework of abstract values: no program in sight; under the conditions named at each theorem. -/
import Derived.Test.YtekcidbpejicdaaGreatDoorZbP3
namespace Go.Av
set_option linter.unusedVariables false
set_option linter.unusedSimpArgs false
open Go.RowKit (Below)
def EDg (P:Program) (ops:Array Oper) (Q:St→Prop):List CR→List Oper→St→Prop
 |_,[],a=>Q a
 | rs,o::rest,a=>match gdA ops a o.guard with
  |none=>False
  |some false=>EDg P ops Q rs rest (a.put o.dst (.tup []))
  | some true=>match ae a o.op with
   | some (f,args)=>match rs with
    | .pure (.ret r)::rs=>match f with
     | .fn f=>match aG a.H args (.ret r)with
      |some args'=>ad P f args' (.ret r)∧EDg P ops Q rs rest (a.put o.dst r)
      |none=>False
     |_=>False
    |_=>False
   | none=>match aa o.op with
    |some _=>False
    |none=>match evalOp P o.op a with
     |some (v,H')=>H'=a.H∧EDg P ops Q rs rest (a.put o.dst v)
     |none=>False
open Classical in
theorem Ao {P : Program} {n m:Nat} {R:Option Nat} {a:St} {ops:Array Oper} (hf:fits n ops=true) {o:Oper} {Q':St→Prop} {rs:List CR} {rest:List Oper} (h:EDg P ops Q' rs (o::rest) a):
    ∃v rs',eX P n m R ops o ⟨only ops o a.T,a.H,a.D⟩ (.val v a.H)∧EDg P ops Q' rs' rest (a.put o.dst v):=by
  have e1:gdA ops ⟨only ops o a.T,a.H,a.D⟩ o.guard=gdA ops a o.guard:=gj;have e2:ae ⟨only ops o a.T,a.H,a.D⟩ o.op=ae a o.op:=df o.op (fun x hx=>gi (ops:=ops) (o:=o) (a:=a) (H:=a.H) (D:=a.D) hx);have e3:evalOp P o.op ⟨only ops o a.T,a.H,a.D⟩=evalOp P o.op a:=fD (a:=⟨only ops o a.T,a.H,a.D⟩) (b:=a) rfl o.op (fun x hx=>gi hx);unfold EDg at h;split at h
  · exact h.elim
  · rename_i hg
    refine⟨_,rs,gF (call:=fun _ _ _=>none) (a:=⟨only ops o a.T,a.H,a.D⟩) hf (fun _ _ _ _ _ h=>by cases h) ?_,h⟩;simp[dC,e1,hg]
  · rename_i hg
    split at h
    · rename_i f args hc
      split at h
      · rename_i r rs'
        split at h
        · rename_i f
          split at h
          · rename_i args' hl
            obtain⟨hp,hq⟩:=h;refine⟨r,rs',gF (call:=fun c x H=>if c=.fn f∧x=args∧H=a.H then some (.ret r,a.H)else none) (a:=⟨only ops o a.T,a.H,a.D⟩) hf ?_ ?_,hq⟩
            · intro c x H out H' hh
              simp only at hh;split at hh
              · rename_i hcond
                obtain⟨rfl,rfl,rfl⟩:=hcond;cases hh;exact ad.sh hl hp
              · cases hh
            · simp[dC,e1,hg,e2,hc]
          · exact h.elim
        · exact h.elim
      · exact h.elim
    · rename_i hc
      split at h
      · exact h.elim
      · rename_i hpn
        split at h
        · rename_i v H' hev
          obtain⟨rfl,h⟩:=h;refine⟨v,rs,gF (call:=fun _ _ _=>none) (a:=⟨only ops o a.T,a.H,a.D⟩) hf (fun _ _ _ _ _ h=>by cases h) ?_,h⟩;simp[dC,e1,hg,e2,hc,hpn,e3,hev]
        · exact h.elim
theorem lQ{P:Program}{n m:Nat}{R:Option Nat}{ops:Array Oper}(hf:fits n ops=true){Q':St→Prop}: ∀{l:List Oper} {rs:List CR} {a:St},EDg P ops Q' rs l a→
    ∃ (v:Nat→AV) (T:Nat→List (Nat×AV)),T 0=a.T∧Q' ⟨T l.length,a.H,a.D⟩∧ ∀(i:Nat) (o:Oper),l[i]? =some o→
      T (i+1)=(match o.dst with|none=>T i|some d=>(d,v i)::T i)∧eX P n m R ops o ⟨only ops o (T i),a.H,a.D⟩ (.val (v i) a.H):=by
  intro l;induction l with
  |nil=>intro rs a h;exact⟨fun _=>.junk,fun _=>a.T,rfl,h,by simp⟩
  | cons o l ih=>
    intro rs a h;obtain⟨v0,rs',h1,h2⟩:=Ao (R:=R) (m:=m) (n:=n) hf h;obtain⟨v,T,g1,g2,g3⟩:=ih h2;have hH:(a.put o.dst v0).H=a.H:=by cases o.dst<;>rfl
    have hD:(a.put o.dst v0).D=a.D:=by cases o.dst<;>rfl
    rw[hH,hD]at g2;refine⟨fun i=>match i with|0=>v0|i+1=>v i,fun i=>match i with|0=>a.T|i+1=>T i,rfl,g2,?_⟩;intro i o' hi;cases i with
    | zero=>
      simp at hi;subst hi;refine⟨?_,h1⟩;show T 0=_;rw[g1];cases o.dst<;>rfl
    | succ i=>
      have:=g3 i o' (by simpa using hi);rw[hH,hD]at this;exact this
section
variable{P:Program} {n m:Nat} {R:Option Nat} {a:St} {Q:Ex→St→Prop} {ops:Array Oper}
open Classical in
theorem W.Jy {id:Nat} {pre post:List Oper} {ow:Oper} {r:AV} {H':List OB} (rs1 rs2:List CR) (hm:P.follows .mixedOrders=true) (hf:fits n ops=true)
    (hsp:ops.toList=pre++ow::post)
    (hst:eN ops (aW ops.toList [])=true) (hone:pW ops (aW ops.toList []) pre.length=true)
    (h:EDg P ops (fun a1=>gdA ops a1 ow.guard=some true∧ae a1 ow.op=none∧aa ow.op=none∧evalOp P ow.op a1=some (r,H')∧EDg P ops (Q .normal) rs2 post ({a1 with H:=H'}.put ow.dst r)) rs1 pre a):
    W P n m R (.region id ops true) Q a:=by
  obtain⟨v1,T1,g0,⟨hg,hc,hpn,hev,h2⟩,ht1⟩:=lQ (R:=R) (m:=m) (n:=n) hf h;simp only at hg hc hev h2;obtain⟨v2,T2,k0,hq,ht2⟩:=lQ (R:=R) (m:=m) (n:=n) hf h2;have hput:({({T:=T1 pre.length,H:=a.H,D:=a.D}:St)with H:=H'}.put ow.dst r)=⟨(match ow.dst with|none=>T1 pre.length|some d=>(d,r)::T1 pre.length),H',a.D⟩:=by cases ow.dst<;>rfl
  rw[hput]at k0 hq ht2;simp only at k0 hq ht2;have hsize:ops.size=pre.length+1+post.length:=by rw[←Array.length_toList,hsp];simp;omega
  have hget: ∀i,ops[i]? =(pre++ow::post)[i]? :=fun i=>by rw[←hsp,Array.getElem?_toList]
  have hw:eX P n m R ops ow ⟨only ops ow (T1 pre.length),a.H,a.D⟩ (.val r H'):=by
    refine eb (call:=fun _ _ _=>none) (fun _ _ _ _ _ h=>by cases h) hf ?_;have e1:gdA ops ⟨only ops ow (T1 pre.length),a.H,a.D⟩ ow.guard=some true:=by
      rw[gj (a:=⟨T1 pre.length,a.H,a.D⟩)];exact hg
    have e2:ae ⟨only ops ow (T1 pre.length),a.H,a.D⟩ ow.op=none:=by
      exact(df (a:=⟨only ops ow (T1 pre.length),a.H,a.D⟩) (b:=⟨T1 pre.length,a.H,a.D⟩) ow.op (fun x hx=>gi (ops:=ops) (o:=ow) (a:=⟨T1 pre.length,a.H,a.D⟩) hx)).trans hc
    have e3:evalOp P ow.op ⟨only ops ow (T1 pre.length),a.H,a.D⟩=some (r,H'):=by
      exact(fD (a:=⟨only ops ow (T1 pre.length),a.H,a.D⟩) (b:=⟨T1 pre.length,a.H,a.D⟩) rfl ow.op (fun x hx=>gi (ops:=ops) (o:=ow) (a:=⟨T1 pre.length,a.H,a.D⟩) hx)).trans hev
    simp[dC,e1,e2,hpn,e3]
  have hstI: ∀(i:Nat) (o:Oper),ops[i]? =some o→(o.after.toList.all (fun e=> !Region.binds .any e||decide (e.on<i))&&(aW ops.toList []).getD i 0==eg (aW ops.toList []) o&&
      (o.looksAt ops).all (fun t=>(List.range ops.size).all fun j=>match ops[j]? with|some o'=> !er o' t||((aW ops.toList []).getD i 0).testBit j|none=>true)&&
      (match o.dst with|none=>true|some d=>(List.range ops.size).all fun j=>j==i||match ops[j]? with|some o'=> !er o' d|none=>true))=true:=by
    intro i o ho;have:=aP hst i (Array.getElem?_eq_some_iff.1 ho).1;rw[ho]at this;exact this
  have hbef: ∀i,i<pre.length→((aW ops.toList []).getD pre.length 0).testBit i=true:=by
    intro i hi;have:=aP hone i (by omega);simp only[Bool.or_eq_true,Bool.and_eq_true,decide_eq_true_eq]at this;rcases this with(h|h)|h
    · omega
    · exact h.2
    · omega
  have hbeh: ∀i,pre.length<i→i<ops.size→((aW ops.toList []).getD i 0).testBit pre.length=true:=by
    intro i hi hs;have:=aP hone i hs;simp only[Bool.or_eq_true,Bool.and_eq_true,decide_eq_true_eq]at this;rcases this with(h|h)|h
    · omega
    · omega
    · exact h.2
  have hcases: ∀i o,ops[i]? =some o→(i<pre.length∧pre[i]? =some o)∨(i=pre.length∧o=ow)∨(∃j,i=pre.length+1+j∧post[j]? =some o):=by
    intro i o ho;rw[hget]at ho;rcases Nat.lt_trichotomy i pre.length with h|h|h
    · exact .inl ⟨h,by rwa[List.getElem?_append_left h]at ho⟩
    · subst h
      rw[List.getElem?_append_right (Nat.le_refl _),Nat.sub_self]at ho;simp at ho;exact .inr (.inl ⟨rfl,ho.symm⟩)
    · obtain⟨j,rfl⟩: ∃j,i=pre.length+1+j:=⟨i - pre.length - 1,by omega⟩
      rw[List.getElem?_append_right (by omega),show pre.length+1+j - pre.length=j+1 by omega]at ho;exact .inr (.inr ⟨j,rfl,by simpa using ho⟩)
  obtain⟨v,hv⟩: ∃v:Nat→AV,v=fun i=>if i<pre.length then v1 i else if i=pre.length then r else v2 (i - pre.length - 1):=⟨_,rfl⟩
  obtain⟨T,hT⟩: ∃T:Nat→List (Nat×AV),T=fun i=>if i≤pre.length then T1 i else T2 (i - pre.length - 1):=⟨_,rfl⟩
  obtain⟨Hk,hHk⟩: ∃Hk:Nat→List OB,Hk=fun k=>if k=0 then a.H else H':=⟨_,rfl⟩
  have step: ∀i o,ops[i]? =some o→T (i+1)=(match o.dst with|none=>T i|some d=>(d,v i)::T i)∧ ∀k,(i<pre.length→k=0)→(i=pre.length→k=0)→(pre.length<i→k=1)→
      eX P n m R ops o ⟨only ops o (T i),Hk k,a.D⟩ (.val (v i) (Hk (k+(if(i==pre.length)=true then 1 else 0)))):=by
    intro i o ho;rcases hcases i o ho with⟨hi,hp⟩|⟨rfl,rfl⟩|⟨j,rfl,hp⟩
    · obtain⟨q1,q2⟩:=ht1 i o hp
      have e1:T i=T1 i:=by rw[hT];simp only;rw[if_pos (by omega)]
      have e2:T (i+1)=T1 (i+1):=by rw[hT];simp only;rw[if_pos (by omega)]
      have e3:v i=v1 i:=by rw[hv];simp only;rw[if_pos hi]
      have e4:(i==pre.length)=false:=by simpa using(show i≠pre.length by omega)
      refine⟨by rw[e1,e2,e3];exact q1,fun k hk _ _=> ?_⟩;rw[hk hi,e1,e3,e4,hHk];exact q2
    · have e1:T pre.length=T1 pre.length:=by rw[hT];simp only;rw[if_pos (Nat.le_refl _)]
      have e2:T (pre.length+1)=T2 0:=by rw[hT];simp only;rw[if_neg (by omega)];congr 1;omega
      have e3:v pre.length=r:=by rw[hv];simp
      refine⟨by rw[e1,e2,e3,k0],fun k _ hk _=> ?_⟩;rw[hk rfl,e1,e3,hHk];simp only[beq_self_eq_true,if_true];exact hw
    · obtain⟨q1,q2⟩:=ht2 j o hp
      have e1:T (pre.length+1+j)=T2 j:=by rw[hT];simp only;rw[if_neg (by omega)];congr 1;omega
      have e2:T (pre.length+1+j+1)=T2 (j+1):=by rw[hT];simp only;rw[if_neg (by omega)];congr 1;omega
      have e3:v (pre.length+1+j)=v2 j:=by rw[hv];simp only;rw[if_neg (by omega),if_neg (by omega)];congr 1;omega
      have e4:(pre.length+1+j==pre.length)=false:=by simpa using(show pre.length+1+j≠pre.length by omega)
      refine⟨by rw[e1,e2,e3];exact q1,fun k _ _ hk=> ?_⟩;rw[hk (by omega),e1,e3,e4,hHk];exact q2
  have hin:pre.length<ops.size:=by omega
  refine W.sM (af:=a) v T Hk (fun i=>i==pre.length) (fun i j=>((aW ops.toList []).getD i 0).testBit j) hm hf (by rw[hT];simp only;rw[if_pos (Nat.zero_le _)];exact g0) (fun i o ho=>(step i o ho).1) (by rw[hHk];rfl) ?_ ?_ ?_ ?_ ?_ ?_
  · intro i o e ho he hb
    have:=hstI i o ho;simp only[Bool.and_eq_true]at this;have h1:=List.all_eq_true.1 this.1.1.1 e (Array.mem_toList_iff.2 he);simpa[hb]using h1
  · intro i j o ho hj
    have:=hstI i o ho;simp only[Bool.and_eq_true,beq_iff_eq]at this;have h1:=this.1.1.2;simp only[h1]at hj;unfold eg at hj;rcases gE _ _ _ _ hj with h2|⟨e,he,hb,hje⟩
    · simp at h2
    · exact⟨e,Array.mem_toList_iff.1 he,hb,hje⟩
  · intro i o t j o' ho ht ho' hd
    have:=hstI i o ho;simp only[Bool.and_eq_true]at this;have h1:=aP (List.all_eq_true.1 this.1.2 t ht) j (Array.getElem?_eq_some_iff.1 ho').1;rw[ho']at h1;simpa[er,hd]using h1
  · intro i j o o' d ho ho' hd hd'
    have:=hstI i o ho;simp only[Bool.and_eq_true,hd]at this;have h1:=aP this.2 j (Array.getElem?_eq_some_iff.1 ho').1;rw[ho']at h1;have:j=i:=by simpa[er,hd']using h1
    exact this.symm
  · intro i o k ho hlo hup
    have hi:i<ops.size:=(Array.getElem?_eq_some_iff.1 ho).1;have hup':k≤if pre.length<ops.size∧(!((aW ops.toList []).getD pre.length 0).testBit i&& !(pre.length==i))=true then 1 else 0:=by
      rw[←gY (p:=pre.length) (q:=fun j=> !((aW ops.toList []).getD j 0).testBit i&& !(j==i))];refine Nat.le_trans hup (eA fun j _ hj=> ?_);simp only[Bool.and_eq_true]at hj ⊢;exact⟨hj.1.1,hj.1.2,hj.2⟩
    have hlo':(if pre.length<ops.size∧((aW ops.toList []).getD i 0).testBit pre.length=true then 1 else 0)≤k:=by
      rw[←gY (p:=pre.length) (q:=fun j=>((aW ops.toList []).getD i 0).testBit j)];exact hlo
    refine(step i o ho).2 k ?_ ?_ ?_
    · intro h
      rw[if_neg (by rw[hbef i h];simp)]at hup';omega
    · intro h
      rw[if_neg (by simp[h])]at hup';omega
    · intro h
      rw[if_pos ⟨hin,hbeh i h hi⟩]at hlo';split at hup'<;>omega
  · have hc1:cnt ops.size (fun i=>i==pre.length)=1:=by
      have:=gY (p:=pre.length) (q:=fun _=>true) ops.size;simp only[Bool.and_true,and_true]at this;rw[this,if_pos hin]
    rw[hc1,hHk,hT];simp only;rw[if_neg (by omega),if_neg (by omega),show ops.size - pre.length - 1=post.length by omega];exact hq
theorem W.Ap{id:Nat}(rs:List CR)(hm:P.follows .mixedOrders=true)(hf:fits n ops=true)(hst:eN ops (aW ops.toList [])=true)(h:EDg P ops (Q .normal) rs ops.toList a):W P n m R (.region id ops true) Q a:=by
  obtain⟨v,T,h0,hq,ht⟩:=lQ (R:=R) (m:=m) (n:=n) hf h
  have hstI: ∀(i:Nat) (o:Oper),ops[i]? =some o→(o.after.toList.all (fun e=> !Region.binds .any e||decide (e.on<i))&&(aW ops.toList []).getD i 0==eg (aW ops.toList []) o&&
      (o.looksAt ops).all (fun t=>(List.range ops.size).all fun j=>match ops[j]? with|some o'=> !er o' t||((aW ops.toList []).getD i 0).testBit j|none=>true)&&
      (match o.dst with|none=>true|some d=>(List.range ops.size).all fun j=>j==i||match ops[j]? with|some o'=> !er o' d|none=>true))=true:=by
    intro i o ho;have:=aP hst i (Array.getElem?_eq_some_iff.1 ho).1;rw[ho]at this;exact this
  have ht': ∀(i:Nat) (o:Oper),ops[i]? =some o→_:=fun i o ho=>ht i o (by rw[Array.getElem?_toList];exact ho);refine W.sM (af:=a) v T (fun _=>a.H) (fun _=>false) (fun i j=>((aW ops.toList []).getD i 0).testBit j) hm hf h0 (fun i o ho=>(ht' i o ho).1) rfl ?_ ?_ ?_ ?_ ?_ ?_
  · intro i o e ho he hb
    have:=hstI i o ho;simp only[Bool.and_eq_true]at this;have h1:=List.all_eq_true.1 this.1.1.1 e (Array.mem_toList_iff.2 he);simpa[hb]using h1
  · intro i j o ho hj
    have:=hstI i o ho;simp only[Bool.and_eq_true,beq_iff_eq]at this;have h1:=this.1.1.2;simp only[h1]at hj;unfold eg at hj;rcases gE _ _ _ _ hj with h2|⟨e,he,hb,hje⟩
    · simp at h2
    · exact⟨e,Array.mem_toList_iff.1 he,hb,hje⟩
  · intro i o t j o' ho ht ho' hd
    have:=hstI i o ho;simp only[Bool.and_eq_true]at this;have h1:=aP (List.all_eq_true.1 this.1.2 t ht) j (Array.getElem?_eq_some_iff.1 ho').1;rw[ho']at h1;simpa[er,hd]using h1
  · intro i j o o' d ho ho' hd hd'
    have:=hstI i o ho;simp only[Bool.and_eq_true,hd]at this;have h1:=aP this.2 j (Array.getElem?_eq_some_iff.1 ho').1;rw[ho']at h1;have:j=i:=by simpa[er,hd']using h1
    exact this.symm
  · intro i o k ho _ _
    exact(ht' i o ho).2
  · rw[←Array.length_toList];exact hq
end
def rm:OB→OB→Bool
 | .cells a x,.cells b y=>mQ a b&&x==y
 | .dead,.dead=>true
 |_,_=>false
def eqH:List OB→List OB→Bool
 | [],[]=>true
 |a::l,b::m=>rm a b&&eqH l m
 |_,_=>false
theorem DD:∀{a b:OB},rm a b=true→a=b
 | .cells a x,b,h=>by
  cases b<;>simp[rm]at h;rename_i c y;obtain⟨h1,h2⟩:=h;rw[gh h1,h2]
 | .dead,b,h=>by cases b<;>simp_all[rm]
 | .map _ _,b,h=>by simp[rm]at h
 | .loop _ _,b,h=>by simp[rm]at h
 | .dfr,b,h=>by simp[rm]at h
 | .iter _ _ _,b,h=>by simp[rm]at h
 | .siter _ _,b,h=>by simp[rm]at h
theorem Aq:∀{a b:List OB},eqH a b=true→a=b
 | [],b,h=>by cases b<;>simp_all[eqH]
 |x::l,b,h=>by
  cases b with
  |nil=>simp[eqH]at h
  |cons y m=>simp only[eqH,Bool.and_eq_true]at h;rw[DD h.1,Aq h.2]
def chk(C:List (Nat×AV))(H:List OB)(b:St):Bool:=
 (C.all fun p=>eqA (get b.T p.1) p.2)&&eqH b.H H&&b.D.isEmpty
theorem lR{T:List (Nat×AV)}:∀{C:List (Nat×AV)},(C.all fun p=>eqA (get T p.1) p.2)=true→aC T C
 | [],_=>trivial
 |(t,v)::r,h=>by
  simp only[List.all_cons,Bool.and_eq_true]at h;exact⟨qT h.1,lR h.2⟩
def Ar:yi:={pm:=fun f=>false,gm:=fun _=>false,conP:=fun _ _=>none,conS:=fun _ _ _=>none,fuel:=2000}
theorem W.runs {P:Program} {n m:Nat} {c:Code} {Q:Ex→St→Prop} {a:St} (hm:P.follows .mixedOrders=true) (hN:Enters P) (d:Nat) (C:List (Nat×AV)) (H:List OB)
    (h:(match fY P (du P Ar d) Ar.pm n false 2000 c a with|some (.normal,b)=>chk C H b|_=>false)=true)
    (hq:Q .normal ⟨C,H,[]⟩∨ ∀b:St,aC b.T C→b.H=H→b.D=[]→Q .normal b):W P n m none c Q a:=by
  have hY:jg P Ar:=⟨hm,hN,fun f args out h=>(by cases h),fun f args H out H' h=>(by cases h)⟩
  obtain⟨h1,h2,h3⟩:=nM hY d;split at h
  case h_2=>cases h
  rename_i b hb;have hw:=qV (m:=m) (R:=none) hm h1 h2 h3 (inr:=false) (fun _=>rfl) 2000 c a _ hb;simp only[chk,Bool.and_eq_true]at h;obtain⟨⟨g1,g2⟩,g3⟩:=h;have e2:=Aq g2;have e3:b.D=[]:=by simpa using g3
  rcases hq with hq|hq
  · intro B act w r
    refine wpIn_mono (hw B act w r) ?_;rintro e act' w' ⟨ex,a',F,μ,⟨h8,h9⟩,x,s,y,t⟩;simp only at h8 h9;subst h8;rw[h9]at s t;obtain⟨F',μ',s',y',t'⟩:=Rel.bG (b:=⟨C,H,[]⟩) (a:=b) (lR g1) e2.symm e3.symm ⟨F,μ,s,y,t⟩;cases x with
    |normal=>exact⟨.normal,_,F',μ',hq,.normal,s',y',t'⟩
  · refine hw.mono ?_
    rintro ex b' ⟨rfl,rfl⟩;exact hq _ (lR g1) e2 e3
mutual
theorem Au{m:Nat}:∀{v:AV},v.hf=true→v.hlt m=true
 | .ptr _ _,h| .sl _ _ _ _,h| .map _,h| .yld _,h=>by simp[AV.hf]at h
 | .vptr l,h=>by simp only[AV.hf]at h;simp only[AV.hlt];exact dD h
 | .vsl _ _ l,h=>by simp only[AV.hf]at h;simp only[AV.hlt];exact dD h
 | .vmap ks vs,h=>by
  simp only[AV.hf,Bool.and_eq_true]at h;simp only[AV.hlt,Bool.and_eq_true];exact⟨dD h.1,dD h.2⟩
 | .func _ fs cs,h=>by
  simp only[AV.hf,Bool.and_eq_true]at h;simp only[AV.hlt,Bool.and_eq_true];exact⟨dD h.1,dD h.2⟩
 | .iface _ v,h=>by simp only[AV.hf]at h;simp only[AV.hlt];exact Au h
 | .agg l,h=>by simp only[AV.hf]at h;simp only[AV.hlt];exact dD h
 | .tup l,h=>by simp only[AV.hf]at h;simp only[AV.hlt];exact dD h
 | .junk,_| .bool _,_| .int _ _,_| .str _,_| .nilptr,_| .nilmap,_| .nilsl,_| .nilfunc,_| .nilif,_=>rfl
theorem dD{m:Nat}:∀{l:List AV},AV.hfs l=true→AV.bf m l=true
 | [],_=>rfl
 |v::l,h=>by
  simp only[AV.hfs,Bool.and_eq_true]at h;simp only[AV.bf,Bool.and_eq_true];exact⟨Au h.1,dD h.2⟩
end
theorem az(l:List Bytes):AV.hfs (l.map AV.str)=true:=by
 rw[aR,List.all_eq_true];intro v hv;obtain⟨r,_,rfl⟩:=List.mem_map.1 hv;rfl
theorem bH(m:Nat)(l:List Bytes):AV.bf m (l.map AV.str)=true:=dD (az l)
theorem di(l:List Bytes):(l.map AV.str).all AV.one=true:=by
 rw[List.all_eq_true];intro v hv;obtain⟨r,_,rfl⟩:=List.mem_map.1 hv;rfl
theorem dE(l:List Bytes):(l.map AV.str).flatMap AV.cells=l.map AV.str:=by
 induction l with
 |nil=>rfl
 |cons a l ih=>simp only[List.map_cons,List.flatMap_cons,ih];rfl
theorem dj{H:List OB}{k:Nat}{v:AV}(h:v.hf=true):fz H (k+1) v=some v:=by
 unfold fz;rw[if_pos h]
theorem dk:((0:Nat):Int)=0:=rfl
theorem dm:((1:Nat):Int)=1:=rfl
theorem bg(v:AV):Le v v=True:=eq_true (.refl v)
theorem eo{T:List (Nat×AV)}{t:Nat}{v:AV}:∀{C:List (Nat×AV)},C.all (fun p=>p.1 !=t)=true→bz T C→bz ((t,v)::T) C
 | [],_,_=>trivial
 |(s,u)::C,h,hs=>by
  simp only[List.all_cons,Bool.and_eq_true,bne_iff_ne]at h;simp only[bz]at hs ⊢;refine⟨?_,eo h.2 hs.2⟩;simp only[get];rw[if_neg (fun e=>h.1 e.symm)];exact hs.1
theorem kI{P:Program}{rs:List ResultVar}{a:St}{v u v':AV}(t:Nat)(hr:rs=[.tmp t])(hD:a.D=[])(hg:Av.get a.T t=v)(hz:fz a.H 20 v=some u)(hl:Le u v'):eI P rs (.ret v') .ret a:=by
 obtain⟨T,H,D⟩:=a;simp only at hD hg hz;subst hD;subst hr;subst hg;exact⟨_,rfl,u,hz,hl⟩
theorem rn{P:Program}{rs:List ResultVar}{a:St}{v v':AV}(t:Nat)(hr:rs=[.tmp t])(hD:a.D=[])(hg:Av.get a.T t=v)(hv:v.hf=true)(hl:Le v v'):eI P rs (.ret v') .ret a:=
 kI t hr hD hg (dj hv) hl
theorem W.G4 {P:Program} {n m:Nat} {R:Option Nat} {a:St} {Q:Ex→St→Prop} {k1 k2 e ty ty1 ty2:Nat} {o1 o2 o3:Oper} {body:Code} (tI tL tC tU:Nat) (L:Nat) (hL:L≤ay)
    (d1:o1.dst=some tC) (p1:o1.op=.binOp .lss ty (.tmp tI) (.tmp tL) ty1) (g1:o1.guard=none)
    (d2:o2.dst=some tU) (p2:o2.op=.binOp .add ty (.tmp tI) (.const (.int .i64 1)) ty2) (g2:o2.guard=none)
    (d3:o3.dst=some tI) (p3:o3.op=.move (.tmp tU)) (g3:o3.guard=none)
    (hf1:fits n #[o1]=true) (hf2:fits n #[o2,o3]=true)
    (ne:(tI !=tL&&tI !=tC&&tL !=tC&&tU !=tI&&tU !=tL)=true)
    (C:Nat→List (Nat×AV)) (hC: ∀i,(C i).all (fun p=>p.1 !=tI&&p.1 !=tU&&p.1 !=tC)=true) (Hx:Nat→List OB) (hm: ∀i,m≤(Hx i).length) (ok:Nat→Prop)
    (hD:a.D=[]) (h0:ok 0) (hT:bz a.T ((tI,.int .i64 0)::(tL,.int .i64 L)::C 0)) (hh: ∀i,ok i→cm (Hx i).length (C i)=true) (hH:bm (Hx 0).length a.H (Hx 0))
    (round: ∀i,i<L→ok i→W P n m R body (ai (fun a'=>ok (i+1)∧bz a'.T ((tI,.int .i64 i)::(tL,.int .i64 L)::C (i+1))∧bm (Hx (i+1)).length a'.H (Hx (i+1))∧a'.D=[]) Q) ⟨(tC,.bool true)::(tI,.int .i64 i)::(tL,.int .i64 L)::C i,Hx i,[]⟩)
    (behind:ok L→Q (.exit e) ⟨(tC,.bool false)::(tI,.int .i64 L)::(tL,.int .i64 L)::C L,Hx L,[]⟩):
    W P n m R (.loop (.seq (.region k1 #[o1] false) (.seq (.cond (.tmp tC) .skip (.exit e)) (.seq body (.region k2 #[o2,o3] false))))) Q a:=by
  simp only[Bool.and_eq_true,bne_iff_ne]at ne;obtain⟨⟨⟨⟨n1,n2⟩,n3⟩,n4⟩,n5⟩:=ne;have hC': ∀i,(C i).all (fun p=>p.1 !=tI)=true∧(C i).all (fun p=>p.1 !=tU)=true∧(C i).all (fun p=>p.1 !=tC)=true:=by
    intro i;have h:=hC i;rw[List.all_eq_true]at h;refine⟨?_,?_,?_⟩<;>rw[List.all_eq_true]<;>intro p hp<;>have:=h p hp<;>simp only[Bool.and_eq_true]at this
    · exact this.1.1
    · exact this.1.2
    · exact this.2
  have refl: ∀(Z:List (Nat×AV)),bz Z []:=fun _=>trivial;refine .nP (X:=Nat) (fun i=>(tI,.int .i64 i)::(tL,.int .i64 L)::C i) Hx (fun i=>i≤L∧ok i) (fun i=>L - i) 0 hm hD ⟨Nat.zero_le _,h0⟩ hT (by simp only[cm,AV.hlt,Bool.true_and];exact hh 0 h0) hH ?_;rintro i ⟨hi,hok⟩;refine .seq (.region [] hf1 ?_);by_cases h:i<L
  · have hd:decide ((i:Int)<(L:Int))=true:=decide_eq_true (by omega)
    simp only[al,gdA,ae,aa,an,ah,evalOp,St.ev,Av.get,St.put,ai,g1,p1,d1,cU,hd,↓reduceIte,n1];refine .seq (.cond (t:=true) (by simp[St.ev,Av.get]) (.skip ?_));simp only[ai];refine .seq ((round i h hok).mono ?_);intro ex b hq;cases ex with
    | normal=>
      obtain⟨q1,q2,q3,q4⟩:=hq;obtain⟨T,K,D⟩:=b;simp only at q2 q3 q4;subst q4;simp only[bz]at q2;obtain⟨r1,r2,r3⟩:=q2;have e1:Av.get T tI=.int .i64 (i:Int):=by generalize Av.get T tI=v at r1;cases r1;rfl
      have hadd:aH P .add ty (.int .i64 (i:Int)) (.int .i64 1)=some (.int .i64 ((i+1:Nat):Int)):=by
        rw[dc _ _ (by simp only[ay]at hL;omega)];simp
      refine .region [] hf2 ?_;have n4': ¬tU=tI:=n4;simp only[al,gdA,ae,aa,an,ah,evalOp,St.ev,Av.get,St.put,ai,g2,p2,d2,g3,p3,d3,e1,ofV,hadd,↓reduceIte,List.cons.injEq,Option.map_some];refine⟨i+1,⟨h,q1⟩,by omega,?_,?_,q3,trivial⟩
      · refine⟨?_,?_,?_⟩
        · simp only[Av.get,↓reduceIte];exact .refl _
        · simp only[Av.get]
          rw[if_neg n1,if_neg n5];exact r2
        · exact eo (hC' (i+1)).1 (eo (hC' (i+1)).2.1 r3)
      · simp only[cm,AV.hlt,Bool.true_and];exact hh _ q1
    |exit _=>exact hq
    |goto _=>exact hq
    |ret=>exact hq
    |panic _ _=>exact hq
  · have hi':i=L:=by omega
    subst hi';simp only[al,gdA,ae,aa,an,ah,evalOp,St.ev,Av.get,St.put,ai,g1,p1,d1,cU,Int.lt_irrefl,decide_false,↓reduceIte,n1];refine .seq (.cond (t:=false) (by simp[St.ev,Av.get]) (.exit ?_));exact behind hok
theorem W.Jz {P:Program} {n m:Nat} {R:Option Nat} {a:St} {Q:Ex→St→Prop} {k1 k2 e ty ty1 ty2:Nat} {o1 o2 o3:Oper} {body:Code} (tI tC tU:Nat) (L:Nat) (hL:L≤ay)
    (d1:o1.dst=some tC) (p1:o1.op=.binOp .lss ty (.tmp tI) (.const (.int .i64 L)) ty1) (g1:o1.guard=none)
    (d2:o2.dst=some tU) (p2:o2.op=.binOp .add ty (.tmp tI) (.const (.int .i64 1)) ty2) (g2:o2.guard=none)
    (d3:o3.dst=some tI) (p3:o3.op=.move (.tmp tU)) (g3:o3.guard=none)
    (hf1:fits n #[o1]=true) (hf2:fits n #[o2,o3]=true)
    (ne:(tI !=tC&&tU !=tI)=true)
    (C:Nat→List (Nat×AV)) (hC: ∀i,(C i).all (fun p=>p.1 !=tI&&p.1 !=tU&&p.1 !=tC)=true) (Hx:Nat→List OB) (hm: ∀i,m≤(Hx i).length) (ok:Nat→Prop)
    (hD:a.D=[]) (h0:ok 0) (hT:bz a.T ((tI,.int .i64 0)::C 0)) (hh: ∀i,ok i→cm (Hx i).length (C i)=true) (hH:bm (Hx 0).length a.H (Hx 0))
    (round: ∀i,i<L→ok i→W P n m R body (ai (fun a'=>ok (i+1)∧bz a'.T ((tI,.int .i64 i)::C (i+1))∧bm (Hx (i+1)).length a'.H (Hx (i+1))∧a'.D=[]) Q) ⟨(tC,.bool true)::(tI,.int .i64 i)::C i,Hx i,[]⟩)
    (behind:ok L→Q (.exit e) ⟨(tC,.bool false)::(tI,.int .i64 L)::C L,Hx L,[]⟩):
    W P n m R (.loop (.seq (.region k1 #[o1] false) (.seq (.cond (.tmp tC) .skip (.exit e)) (.seq body (.region k2 #[o2,o3] false))))) Q a:=by
  simp only[Bool.and_eq_true,bne_iff_ne]at ne;obtain⟨n2,n4⟩:=ne;have hC': ∀i,(C i).all (fun p=>p.1 !=tI)=true∧(C i).all (fun p=>p.1 !=tU)=true∧(C i).all (fun p=>p.1 !=tC)=true:=by
    intro i;have h:=hC i;rw[List.all_eq_true]at h;refine⟨?_,?_,?_⟩<;>rw[List.all_eq_true]<;>intro p hp<;>have:=h p hp<;>simp only[Bool.and_eq_true]at this
    · exact this.1.1
    · exact this.1.2
    · exact this.2
  have refl: ∀(Z:List (Nat×AV)),bz Z []:=fun _=>trivial;refine .nP (X:=Nat) (fun i=>(tI,.int .i64 i)::C i) Hx (fun i=>i≤L∧ok i) (fun i=>L - i) 0 hm hD ⟨Nat.zero_le _,h0⟩ hT (by simp only[cm,AV.hlt,Bool.true_and];exact hh 0 h0) hH ?_;rintro i ⟨hi,hok⟩;refine .seq (.region [] hf1 ?_);by_cases h:i<L
  · have hd:decide ((i:Int)<(L:Int))=true:=decide_eq_true (by omega)
    simp only[al,gdA,ae,aa,an,ah,evalOp,St.ev,ofV,Av.get,St.put,ai,g1,p1,d1,cU,hd,↓reduceIte];refine .seq (.cond (t:=true) (by simp[St.ev,Av.get]) (.skip ?_));simp only[ai];refine .seq ((round i h hok).mono ?_);intro ex b hq;cases ex with
    | normal=>
      obtain⟨q1,q2,q3,q4⟩:=hq;obtain⟨T,K,D⟩:=b;simp only at q2 q3 q4;subst q4;simp only[bz]at q2;obtain⟨r1,r3⟩:=q2;have e1:Av.get T tI=.int .i64 (i:Int):=by generalize Av.get T tI=v at r1;cases r1;rfl
      have hadd:aH P .add ty (.int .i64 (i:Int)) (.int .i64 1)=some (.int .i64 ((i+1:Nat):Int)):=by
        rw[dc _ _ (by simp only[ay]at hL;omega)];simp
      refine .region [] hf2 ?_;have n4': ¬tU=tI:=n4;simp only[al,gdA,ae,aa,an,ah,evalOp,St.ev,Av.get,St.put,ai,g2,p2,d2,g3,p3,d3,e1,ofV,hadd,↓reduceIte,List.cons.injEq,Option.map_some];refine⟨i+1,⟨h,q1⟩,by omega,?_,?_,q3,trivial⟩
      · refine⟨?_,?_⟩
        · simp only[Av.get,↓reduceIte];exact .refl _
        · exact eo (hC' (i+1)).1 (eo (hC' (i+1)).2.1 r3)
      · simp only[cm,AV.hlt,Bool.true_and];exact hh _ q1
    |exit _=>exact hq
    |goto _=>exact hq
    |ret=>exact hq
    |panic _ _=>exact hq
  · have hi':i=L:=by omega
    subst hi';simp only[al,gdA,ae,aa,an,ah,evalOp,St.ev,Av.get,St.put,ai,g1,p1,d1,ofV,cU,Int.lt_irrefl,decide_false,↓reduceIte];refine .seq (.cond (t:=false) (by simp[St.ev,Av.get]) (.exit ?_));exact behind hok
theorem W.G5 {P:Program} {n m:Nat} {R:Option Nat} {a:St} {Q:Ex→St→Prop} {k2 e ty2 ty:Nat} {o2 o3 o4:Oper} {head body:Code} (tI tC tA tB:Nat) (s L:Nat) (hL:L≤ay) (hsL:s≤L)
    (d2:o2.dst=some tA) (p2:o2.op=.move (.tmp tI)) (g2:o2.guard=none)
    (d3:o3.dst=some tB) (p3:o3.op=.binOp .add ty (.tmp tA) (.const (.int .i64 1)) ty2) (g3:o3.guard=none)
    (d4:o4.dst=some tI) (p4:o4.op=.assign (.tmp tB)) (g4:o4.guard=none)
    (hf2:fits n #[o2,o3,o4]=true)
    (C:Nat→List (Nat×AV)) (hC: ∀i,(C i).all (fun p=>p.1 !=tI&&p.1 !=tA&&p.1 !=tB)=true) (Hx:Nat→List OB) (hm: ∀i,m≤(Hx i).length) (ok:Nat→Prop)
    (hD:a.D=[]) (h0:ok s) (hT:bz a.T ((tI,.int .i64 s)::C s)) (hh: ∀i,ok i→cm (Hx i).length (C i)=true) (hH:bm (Hx s).length a.H (Hx s))
    (hd: ∀i,i≤L→ok i→W P n m R head (ai (fun a'=>Av.get a'.T tC=.bool (decide (i<L))∧bz a'.T ((tI,.int .i64 i)::C i)∧bm (Hx i).length a'.H (Hx i)∧a'.D=[]) Q) ⟨(tI,.int .i64 i)::C i,Hx i,[]⟩)
    (round: ∀i,i<L→ok i→W P n m R body (ai (fun a'=>ok (i+1)∧bz a'.T ((tI,.int .i64 i)::C (i+1))∧bm (Hx (i+1)).length a'.H (Hx (i+1))∧a'.D=[]) Q) ⟨(tI,.int .i64 i)::C i,Hx i,[]⟩)
    (behind:ok L→Q (.exit e) ⟨(tC,.bool false)::(tI,.int .i64 L)::C L,Hx L,[]⟩):
    W P n m R (.loop (.seq (.seq head (.cond (.tmp tC) .skip (.exit e))) (.seq body (.region k2 #[o2,o3,o4] false)))) Q a:=by
  have hC': ∀i,(C i).all (fun p=>p.1 !=tI)=true∧(C i).all (fun p=>p.1 !=tA)=true∧(C i).all (fun p=>p.1 !=tB)=true:=by
    intro i;have h:=hC i;rw[List.all_eq_true]at h;refine⟨?_,?_,?_⟩<;>rw[List.all_eq_true]<;>intro p hp<;>have:=h p hp<;>simp only[Bool.and_eq_true]at this
    · exact this.1.1
    · exact this.1.2
    · exact this.2
  refine .nP (X:=Nat) (fun i=>(tI,.int .i64 i)::C i) Hx (fun i=>i≤L∧ok i) (fun i=>L - i) s hm hD ⟨hsL,h0⟩ hT (by simp only[cm,AV.hlt,Bool.true_and];exact hh s h0) hH ?_;rintro i ⟨hi,hok⟩;have hbody:i<L→W P n m R (.seq body (.region k2 #[o2,o3,o4] false)) (ai (fun a'=> ∃y,(y≤L∧ok y)∧L - y<L - i∧bz a'.T ((tI,.int .i64 y)::C y)∧cm (Hx y).length ((tI,.int .i64 y)::C y)=true∧bm (Hx y).length a'.H (Hx y)∧a'.D=[]) Q) ⟨(tI,.int .i64 i)::C i,Hx i,[]⟩:=by
    intro h;refine .seq ((round i h hok).mono ?_);intro ex b hq;cases ex with
    | normal=>
      obtain⟨q1,q2,q3,q4⟩:=hq;obtain⟨T,K,D⟩:=b;simp only at q2 q3 q4;subst q4;simp only[bz]at q2;obtain⟨r1,r3⟩:=q2;have e1:Av.get T tI=.int .i64 (i:Int):=by generalize Av.get T tI=v at r1;cases r1;rfl
      have hadd:aH P .add ty (.int .i64 (i:Int)) (.int .i64 1)=some (.int .i64 ((i+1:Nat):Int)):=by
        rw[dc _ _ (by simp only[ay]at hL;omega)];simp
      refine .region [] hf2 ?_;simp only[al,gdA,ae,aa,an,ah,evalOp,St.ev,Av.get,St.put,ai,g2,p2,d2,g3,p3,d3,g4,p4,d4,e1,ofV,hadd,↓reduceIte,List.cons.injEq,Option.map_some];refine⟨i+1,⟨h,q1⟩,by omega,?_,?_,q3,trivial⟩
      · refine⟨?_,?_⟩
        · simp only[Av.get,↓reduceIte];exact .refl _
        · exact eo (hC' (i+1)).1 (eo (hC' (i+1)).2.2 (eo (hC' (i+1)).2.1 r3))
      · simp only[cm,AV.hlt,Bool.true_and];exact hh _ q1
    |exit _=>exact hq
    |goto _=>exact hq
    |ret=>exact hq
    |panic _ _=>exact hq
  refine .seq (.seq ((hd i hi hok).mono ?_));intro ex b hq;cases ex with
  | normal=>
    obtain⟨q1,q2,q3,q4⟩:=hq;obtain⟨T,K,D⟩:=b;simp only at q1 q2 q3 q4;subst q4;by_cases h:i<L
    · refine .cond (t:=true) (by show Av.get T tC=_;rw[q1];simp[h]) (.skip ?_)
      exact W.weaken ⟨(tI,.int .i64 i)::C i,Hx i,[]⟩ ⟨rfl,rfl⟩ (hm i) q2 (by simp only[cm,AV.hlt,Bool.true_and];exact hh i hok) q3 (hbody h)
    · refine W.weaken ⟨(tC,.bool false)::(tI,.int .i64 i)::C i,Hx i,[]⟩ ⟨rfl,rfl⟩ (hm i) ⟨by rw[q1];simp only[h,decide_false,Av.get,↓reduceIte];exact .refl _,q2⟩ (by simp only[cm,AV.hlt,Bool.true_and];exact hh i hok) q3 ?_
      refine .cond (t:=false) (by simp[St.ev,Av.get]) (.exit ?_);have hi':i=L:=by omega
      subst hi';exact behind hok
  |exit _=>exact hq
  |goto _=>exact hq
  |ret=>exact hq
  |panic _ _=>exact hq
section
variable{α:Type}
def grow(B:List OB)(f:α→AV):List α→List OB
 | []=>B
 |x::t=>B++(List.replicate t.length .dead++[.cells (((x::t).map f).flatMap AV.cells) true])
theorem yq{wd:Nat}{l:List AV}(h:∀v∈l,v.cells.length=esz wd):(l.flatMap AV.cells).length=l.length*esz wd:=by
 induction l with
 |nil=>simp
 |cons v l ih=>
  rw[List.flatMap_cons,List.length_append,h v (by simp),ih (fun u hu=>h u (List.mem_cons_of_mem _ hu)),List.length_cons,Nat.add_mul,Nat.one_mul,Nat.add_comm]
theorem dr{m:Nat}:∀{H:List OB},H.all (OB.hlt m)=true→bm m H H
 | [],_=>trivial
 |b::H,h=>by
  simp only[List.all_cons,Bool.and_eq_true]at h;cases b<;>simp only[bm]<;>first|exact⟨trivial,h.1,dr h.2⟩|exact dr h.2
end
section
variable{α:Type}
def be(f:α→AV)(L:List α):List AV:=(L.map f).flatMap AV.cells
theorem fG(f:α→AV)(L:List α)(x:α):be f (L++[x])=be f L++(f x).cells:=by simp[be]
theorem yr(f:α→AV)(x:α):be f [x]=(f x).cells:=by simp[be]
theorem jk{f:α→AV}{wd:Nat}(hf:∀x,(f x).cells.length=esz wd)(L:List α):(be f L).length=L.length*esz wd:=by
 rw[be,yq (wd:=wd) (by intro v hv;obtain⟨a,_,rfl⟩:=List.mem_map.1 hv;exact hf a)];simp
def nT(wd:Nat)(f:α→AV)(M:List OB)(v:AV)(L:List α):Prop:=
 (L=[]∧∃w,v=.vsl w true [])∨(∃d,v=.sl d 0 L.length wd∧M[d]? =some (.cells (be f L) true))
theorem kJ {P:Program} {sT e:TypeId} {wd bytes:Nat} (hu:P.underlying sT=some (.slice e)) (ha:apT P e=some (esz wd,wd,bytes)) (f:α→AV) (hf: ∀x,(f x).cells.length=esz wd) (hc: ∀x,(f x).cells.all AV.isC=true) (hz:0<esz wd)
    {M:List OB} {v:AV} {L:List α} (h:nT wd f M v L) (x:α) (y:Bool) (hb:(L.length+1)*bytes≤2^47):
    ∃M',aE P sT sT v (.vsl wd y [f x]) M=some (.sl M.length 0 (L.length+1) wd,M')∧M'.length=M.length+1∧M'[M.length]? =some (.cells (be f (L++[x])) true)∧ ∀i,i<M.length→v≠ .sl i 0 L.length wd→M'[i]? =M[i]? :=by
  have hnew:cO (esz wd) (.vsl wd y [f x])=fun H=>some (1,(f x).cells):=by funext H;simp[cO]
  rcases h with⟨rfl,w,rfl⟩|⟨d,rfl,hd⟩
  · have hold:cO (esz wd) (.vsl w true [])=fun H=>some (0,[]):=by funext H;simp[cO]
    refine⟨M++[.cells (f x).cells true],?_,by simp,by simp[yr],fun i hi _=>List.getElem?_append_left hi⟩;simp only[aE,hu,apX,ha,cp,hnew,hold,List.nil_append,List.length_nil,Nat.zero_add];rw[if_neg (by omega),if_pos (by simpa using hb)]
  · have hlen:(be f L).length=L.length*esz wd:=jk hf L
    have hdl:d<M.length:=(List.getElem?_eq_some_iff.1 hd).1;have hnot: ¬((L.length+1)*esz wd≤(be f L).length):=by rw[hlen,Nat.add_mul];omega
    refine⟨M.set d .dead++[.cells (be f L++(f x).cells) true],?_,by simp,?_,?_⟩
    · simp only[aE,hu,apX,ha,cp,hnew,hd]
      rw[if_pos ⟨trivial,hc x,hb,by rw[hlen];omega⟩];rw[hlen]at hnot;simp only[Nat.zero_add,hlen,if_true,List.drop_zero];rw[if_neg hnot]
    · rw[List.getElem?_append_right (by simp),fG];simp
    · intro i hi hne
      rw[List.getElem?_append_left (by simpa using hi),List.getElem?_set,if_neg];rintro rfl;exact hne rfl
theorem nU{wd n:Nat}(hn:0<n):∀(l:List AV),(∀v∈l,∃cs,v=.agg cs∧cs.length=n)→fK n l.length (l.flatMap AV.cells)=l
 | [],_=>rfl
 |v::l,h=>by
  obtain⟨cs,rfl,hc⟩:=h v (by simp);have hcell:AV.cells (.agg cs)=cs:=rfl;rw[List.length_cons,List.flatMap_cons,hcell,fK];rw[List.take_left' hc,List.drop_left' hc,nU (wd:=wd) hn l (fun u hu=>h u (List.mem_cons_of_mem _ hu))]
theorem hG{f:α→AV}{n k:Nat}{M:List OB}{v:AV}{L:List α}(hn:0<n)(hf:∀x,∃cs,f x=.agg cs∧cs.length=n)(hh:∀x,AV.hfs (f x).cells=true)(h:nT (n+1) f M v L):∃u,fz M (k+1) v=some u∧Le u (.vsl (n+1) false (L.map f)):=by
 rcases h with⟨rfl,w,rfl⟩|⟨d,rfl,hd⟩
 ·exact⟨_,rfl,.nil _ _ _⟩
 ·refine⟨.vsl (n+1) false (L.map f),?_,.refl _⟩
  have hlen:(be f L).length=L.length*esz (n+1):=jk (wd:=n+1) (fun x=>by obtain⟨cs,h1,h2⟩:=hf x;rw[h1];exact h2) L;have hhf:AV.hfs (be f L)=true:=by
   rw[aR,be,List.all_flatMap,List.all_eq_true];intro u hu;obtain⟨a,_,rfl⟩:=List.mem_map.1 hu;rw[←aR];exact hh a
  have ht:((be f L).drop 0).take (L.length*esz (n+1))=be f L:=by rw[List.drop_zero,List.take_of_length_le (by omega)]
  have hck:fK n L.length (be f L)=L.map f:=by
   have:=nU (wd:=0) hn (L.map f) (by intro u hu;obtain⟨a,_,rfl⟩:=List.mem_map.1 hu;exact hf a);simpa[be]using this
  unfold fz;rw[if_neg (by simp[AV.hf])];simp only[hd,ht,hhf,if_true];rw[if_pos (by omega)];simp only[Option.bind_some,hck]
end
section
variable{P:Program} {n m:Nat} {R:Option Nat} {Q:Ex→St→Prop} {a:St}
def RO(P:Program)(n m:Nat)(R:Option Nat)(ops:Array Oper)(Q:Ex→St→Prop)(l:List Oper)(a:St):Prop:=
 ∀k,(∀i o,l[i]? =some o→ops[k+i]? =some o)→∀(B:Bs m) (act:Act) (w:World),Rel n B a act w→wpOpsIn (fnc R) 1 P ops (dX n B Q) (List.range' k l.length) act w
theorem RO.step{ops:Array Oper}{o:Oper}{rest:List Oper}(rs:List CR)(hf:fits n ops=true)(h:al P ops (ai (RO P n m R ops Q rest) Q) rs [o] a):RO P n m R ops Q (o::rest) a:=by
 intro k hk B act w r
 have:=kv (P:=P) (R:=R) (Q:=Q) (Q':=ai (RO P n m R ops Q rest) Q) (B:=B) (List.range' (k+1) rest.length) (dh hf) ?_ (fun _ _ _ h=>h) [o] k rs a act w (fun i o' hi=>by
  cases i with
  |zero=>exact hk 0 o' (by simpa using hi)
  |succ i=>simp at hi) h r
 ·rw[List.length_cons,List.range'_succ];exact this
 ·intro a' act' w' hq hr
  refine hq _ (fun i o' hi=>?_) B act' w' hr;rw[show k+1+i=k+(i+1)from by omega];exact hk (i+1) o' (by simpa using hi)
theorem RO.done{ops:Array Oper}(h:Q .normal a):RO P n m R ops Q [] a:=
 fun k hk B act w ⟨F,μ,s,y,t⟩=>⟨_,a,F,μ,h,.normal,s,y,t⟩
theorem W.wL{id:Nat}{ops:Array Oper}(h:RO P n m R ops Q ops.toList a):W P n m R (.region id ops false) Q a:=by
 intro B act w r;refine wpIn_region ?_;have:=h 0 (fun i o hi=>by rw[Nat.zero_add,←Array.getElem?_toList];exact hi) B act w r;rw[Array.length_toList,←List.range_eq_range']at this;exact this
def VK(K:St→Prop)(Q:Ex→St→Prop)(dst:Option Nat)(a:St):Out→List OB→Prop
 | .ret r,H'=>K ({a with H:=H'}.put dst r)
 | .pan t v,H'=>Q (.panic t v) {a with H:=H'}
def aj(P:Program)(c:Cl)(args:List AV)(dst:Option Nat)(a:St)(K:St→Prop)(Q:Ex→St→Prop):Prop:=
 (∃out H',jw P c args a.H out H'∧VK K Q dst a out H')∨
 (∃f S,c=.fn f∧ba P f args a.H S∧∀out H',S out H'→VK K Q dst a out H')
def VV(r:Option (AV×List OB))(dst:Option Nat)(a:St)(K:St→Prop):Prop:=
 match r with
 |some (v,H')=>K ({a with H:=H'}.put dst v)
 |none=>False
def VA(K:St→Prop)(dst:Option Nat)(a:St):Prop:=∀b:Bool,K (a.put dst (.bool b))
def VN(K:St→Prop)(dst:Option Nat)(id:Nat)(ks vs:List AV)(seen:List Nat)(a:St):Prop:=∀v H',pK a.H id ks vs seen v H'→K ({a with H:=H'}.put dst v)
def VP(Q:Ex→St→Prop)(v:AV)(a:St):Prop:=
 match v with
 | .iface t v=>Q (.panic t v) a
 |_=>False
def VS (P:Program) (K:St→Prop) (Q:Ex→St→Prop) (dst:Option Nat) (op:Op) (a:St):Prop:=
 match ae a op with
 |some (c,args)=>aj P c args dst a K Q
 | none=>match aa op with
  |some x=>VP Q (a.ev x) a
  | none=>match ah op a.ev a.H with
   |some (id,ks,vs,seen)=>VN K dst id ks vs seen a
   |none=>match an P op a with
    |true=>VA K dst a
    |false=>VV (evalOp P op a) dst a K
def VG(P:Program)(K:St→Prop)(Q:Ex→St→Prop)(dst:Option Nat)(op:Op)(a:St):Option Bool→Prop
 |none=>False
 |some false=>K (a.put dst (.tup []))
 |some true=>VS P K Q dst op a
def VO(P:Program)(ops:Array Oper)(Q:Ex→St→Prop):List Oper→St→Prop
 | [],a=>Q .normal a
 |o::rest,a=>VG P (VO P ops Q rest) Q o.dst o.op a (gdA ops a o.guard)
def VC(P:Program)(n m:Nat)(R:Option Nat):Code→(Ex→St→Prop)→St→Prop
 | .skip,Q,a=>Q .normal a
 | .seq x y,Q,a=>VC P n m R x (ai (VC P n m R y Q) Q) a
 | .cond c x y,Q,a=>∃t,a.ev c=.bool t∧(if t then VC P n m R x Q a else VC P n m R y Q a)
 | .block id c,Q,a=>VC P n m R c (aO id Q) a
 | .exit id,Q,a=>Q (.exit id) a
 | .goto l,Q,a=>Q (.goto l) a
 | .ret,Q,a=>Q .ret a
 | .label l,Q,a=>Q .normal a
 | .region id ops false,Q,a=>VO P ops Q ops.toList a
 |c,Q,a=>W P n m R c Q a
def VI(P:Program)(n m:Nat)(R:Option Nat)(v:AV)(x y:Code)(Q:Ex→St→Prop)(a:St):Prop:=∃t,v=.bool t∧(if t then VC P n m R x Q a else VC P n m R y Q a)
def mv(n:Nat):Code→Bool
 | .seq x y=>mv n x&&mv n y
 | .cond c x y=>mv n x&&mv n y
 | .block id c=>mv n c
 | .region id ops false=>fits n ops
 |_=>true
theorem al.mono{ops:Array Oper}{Q Q':Ex→St→Prop}(hq:∀ex a,Q ex a→Q' ex a){o:Oper}{rs:List CR}(h:al P ops Q rs [o] a):al P ops Q' rs [o] a:=by
 unfold al at h ⊢;split at h
 ·exact h
 ·exact hq _ _ h
 ·split at h
  ·split at h
   ·split at h
    ·split at h
     ·refine⟨h.1,?_⟩
      have h2:=h.2;split at h2<;>exact hq _ _ h2
     ·exact h
    ·exact h
    ·split at h
     ·split at h
      ·refine⟨h.1,?_⟩
       have h2:=h.2;split at h2<;>exact hq _ _ h2
      ·exact h
     ·exact h
   ·refine⟨h.1,?_⟩
    have h2:=h.2;split at h2<;>exact hq _ _ h2
   ·split at h
    ·refine⟨h.1,fun out H' hs=>?_⟩
     have h2:=h.2 out H' hs;split at h2<;>exact hq _ _ h2
    ·exact h
    ·split at h
     ·refine⟨h.1,fun out H' hs=>?_⟩
      have h2:=h.2 out H' hs;split at h2<;>exact hq _ _ h2
     ·exact h
   ·exact h
  ·split at h
   ·split at h
    ·exact hq _ _ h
    ·exact h
   ·split at h
    ·exact fun v H' hn=>hq _ _ (h v H' hn)
    ·split at h
     ·exact fun b=>hq _ _ (h b)
     ·split at h
      ·exact hq _ _ h
      ·exact h
theorem VO.step{ops:Array Oper}{o:Oper}{rest:List Oper}(h:VO P ops Q (o::rest) a):∃rs,al P ops (ai (VO P ops Q rest) Q) rs [o] a:=by
 simp only[VO]at h;unfold al;cases hg:gdA ops a o.guard with
 |none=>rw[hg]at h;exact h.elim
 | some b=>
  rw[hg]at h;cases b with
  |false=>exact⟨[],h⟩
  | true=>
   simp only[VG,VS]at h;cases hc:ae a o.op with
   | some c=>
    obtain⟨c,args⟩:=c;rw[hc]at h;simp only at h;rcases h with⟨out,H',h1,h2⟩|⟨f,S,rfl,h1,h2⟩
    ·refine⟨[.sh out H'],h1,?_⟩
     cases out<;>exact h2
    ·refine⟨[.any S],h1,?_⟩
     intro out H' hs;have:=h2 out H' hs;cases out<;>exact this
   | none=>
    rw[hc]at h;refine⟨[],?_⟩;simp only at h ⊢;split
    ·rename_i x hx
     rw[hx]at h;simp only[VP]at h;split<;>rename_i hv<;>simp only[hv]at h;exact h
    ·rename_i hx
     rw[hx]at h;simp only at h;split
     ·rename_i q1 q2 q3 q4 q5 hn
      rw[hn]at h;exact h
     ·rename_i hn
      rw[hn]at h;simp only at h;split
      ·rename_i ht
       rw[ht]at h;exact h
      ·rename_i ht
       rw[ht]at h;simp only[VV]at h;split
       ·rename_i he;rw[he]at h;exact h
       ·rename_i he;rw[he]at h;exact h
theorem VO.ro{ops:Array Oper}(hf:fits n ops=true):∀{l:List Oper} {a:St},VO P ops Q l a→RO P n m R ops Q l a:=by
 intro l;induction l with
 |nil=>intro a h;exact RO.done h
 |cons o rest ih=>
  intro a h;obtain⟨rs,h⟩:=h.step;refine RO.step rs hf (h.mono fun ex a hq=>?_);cases ex<;>first|exact ih hq|exact hq
theorem W.vc{c:Code}(hf:mv n c=true)(h:VC P n m R c Q a):W P n m R c Q a:=by
 induction c generalizing Q a with
 |skip=>exact .skip h
 |region id ops draw=>
  cases draw with
  |false=>exact W.wL (VO.ro hf h)
  |true=>exact h
 |seq x y ihx ihy=>
  simp only[mv,Bool.and_eq_true]at hf;refine .seq (W.mono (ihx hf.1 h) fun ex a hq=>?_);cases ex<;>first|exact ihy hf.2 hq|exact hq
 |cond c x y ihx ihy=>
  simp only[mv,Bool.and_eq_true]at hf;obtain⟨t,h1,h2⟩:=h;refine .cond (t:=t) h1 ?_;cases t
  ·exact ihy hf.2 h2
  ·exact ihx hf.1 h2
 |block id c ih=>exact .block (ih hf h)
 |exit id=>exact .exit h
 |goto l=>exact .goto h
 |ret=>exact .ret h
 |label l=>exact .label h
 |loop _ _=>exact h
 |rangeFunc _ _ _ _ _ _=>exact h
 |scope _ _=>exact h
 |refuse _=>exact h
end
section
variable{P:Program} {n m:Nat} {R:Option Nat} {Q:Ex→St→Prop} {a:St} {K:St→Prop} {dst:Option Nat}
theorem DF:VC P n m R .skip Q a=Q .normal a:=Eq.trans rfl rfl
theorem Aw{x y:Code}:VC P n m R (.seq x y) Q a=VC P n m R x (ai (VC P n m R y Q) Q) a:=Eq.trans rfl rfl
theorem DH{c:Operand}{x y:Code}:VC P n m R (.cond c x y) Q a=VI P n m R (a.ev c) x y Q a:=Eq.trans rfl rfl
theorem Ax{id:Nat}{c:Code}:VC P n m R (.block id c) Q a=VC P n m R c (aO id Q) a:=Eq.trans rfl rfl
theorem DI{id:Nat}:VC P n m R (.exit id) Q a=Q (.exit id) a:=Eq.trans rfl rfl
theorem DJ{l:Nat}:VC P n m R (.goto l) Q a=Q (.goto l) a:=Eq.trans rfl rfl
theorem Ay:VC P n m R .ret Q a=Q .ret a:=Eq.trans rfl rfl
theorem Az{l:Nat}:VC P n m R (.label l) Q a=Q .normal a:=Eq.trans rfl rfl
theorem pZ{id:Nat}{l:List Oper}:VC P n m R (.region id l.toArray false) Q a=VO P l.toArray Q l a:=Eq.trans rfl rfl
theorem AA{id:Nat}{ops:Array Oper}:VC P n m R (.region id ops true) Q a=W P n m R (.region id ops true) Q a:=Eq.trans rfl rfl
theorem DK{c:Code}:VC P n m R (.loop c) Q a=W P n m R (.loop c) Q a:=Eq.trans rfl rfl
theorem rp{f:Operand}{ps:Array Tmp}{x c:Code}:VC P n m R (.rangeFunc f ps x c) Q a=W P n m R (.rangeFunc f ps x c) Q a:=Eq.trans rfl rfl
theorem wM{x y:Code}:VI P n m R (.bool true) x y Q a=VC P n m R x Q a:=by
 refine propext ⟨?_,fun h=>⟨true,rfl,h⟩⟩;rintro⟨t,ht,h⟩;cases ht;exact h
theorem sZ{x y:Code}:VI P n m R (.bool false) x y Q a=VC P n m R y Q a:=by
 refine propext ⟨?_,fun h=>⟨false,rfl,h⟩⟩;rintro⟨t,ht,h⟩;cases ht;exact h
theorem VI.split{x y:Code}{b:Bool}(h1:b=true→VC P n m R x Q a)(h2:b=false→VC P n m R y Q a):VI P n m R (.bool b) x y Q a:=by
 cases b
 ·rw[sZ];exact h2 rfl
 ·rw[wM];exact h1 rfl
theorem AB{ops:Array Oper}:VO P ops Q [] a=Q .normal a:=Eq.trans rfl rfl
theorem ta{ops:Array Oper}{d:Option Nat}{op:Op}{ty:TypeId}{pos:String}{af:Array Edge}{rest:List Oper}:
    VO P ops Q (⟨d,op,ty,pos,af,none⟩::rest) a=VS P (VO P ops Q rest) Q d op a:=Eq.trans rfl rfl
theorem AD{ops:Array Oper}{d:Option Nat}{op:Op}{ty:TypeId}{pos:String}{af:Array Edge}{g:Nat×Bool}{rest:List Oper}:
    VO P ops Q (⟨d,op,ty,pos,af,some g⟩::rest) a=VG P (VO P ops Q rest) Q d op a (gdA ops a (some g)):=Eq.trans rfl rfl
theorem DL{op:Op}:VG P K Q dst op a (some true)=VS P K Q dst op a:=Eq.trans rfl rfl
theorem AE{op:Op}:VG P K Q dst op a (some false)=K (a.put dst (.tup [])):=Eq.trans rfl rfl
theorem wN{v:AV}{H':List OB}:VV (some (v,H')) dst a K=K ({a with H:=H'}.put dst v):=Eq.trans rfl rfl
theorem VG.split{op:Op}{b:Bool}{c:Bool}(h1:b=true→VG P K Q dst op a (some (true==c)))(h2:b=false→VG P K Q dst op a (some (false==c))):VG P K Q dst op a (some (b==c)):=by
 cases b
 ·exact h2 rfl
 ·exact h1 rfl
theorem aj.pure{f:FuncId}{args:List AV}{r:AV}(hp:ad P f args (.ret r))(hh:AV.hfs args=true)(h:K (a.put dst r)):aj P (.fn f) args dst a K Q:=
 .inl ⟨.ret r,a.H,ad.sh (by unfold aG;rw[if_pos hh]) hp,h⟩
theorem aj.pan{f:FuncId}{args:List AV}{t:TypeId}{v:AV}(hp:ad P f args (.pan t v))(hh:AV.hfs args=true)(h:Q (.panic t v) a):aj P (.fn f) args dst a K Q:=
 .inl ⟨.pan t v,a.H,ad.sh (by unfold aG;rw[if_pos hh]) hp,h⟩
theorem aj.aG{f:FuncId}{args:List AV}(args':List AV){r:AV}(hp:ad P f args' (.ret r))(hl:aG a.H args (.ret r)=some args')(h:K (a.put dst r)):aj P (.fn f) args dst a K Q:=
 .inl ⟨.ret r,a.H,ad.sh hl hp,h⟩
theorem aj.yl{f:FuncId}{args:List AV}(S:List Nat)(args':List AV){r:AV}(hp:ad P f args' (.ret r))(hl:args.mapM (fz (cg S 0 a.H) 20)=some args')(h:K ({a with H:=cY S 0 a.H}.put dst r)):aj P (.fn f) args dst a K Q:=
 .inl ⟨.ret r,cY S 0 a.H,ad.yl S hl hp,h⟩
theorem aj.sh{c:Cl}{args:List AV}{H':List OB}{r:AV}(hp:jw P c args a.H (.ret r) H')(h:K ({a with H:=H'}.put dst r)):aj P c args dst a K Q:=
 .inl ⟨.ret r,H',hp,h⟩
theorem aj.tc{c:Cl}{args:List AV}{H':List OB}{t:TypeId}{v:AV}(hp:jw P c args a.H (.pan t v) H')(h:Q (.panic t v) {a with H:=H'}):aj P c args dst a K Q:=
 .inl ⟨.pan t v,H',hp,h⟩
theorem aj.any{f:FuncId}{args:List AV}(S:Out→List OB→Prop)(hp:ba P f args a.H S)(h:∀out H',S out H'→VK K Q dst a out H'):aj P (.fn f) args dst a K Q:=
 .inr ⟨f,S,rfl,hp,h⟩
theorem G6{a:St}{r:AV}{H':List OB}:VK K Q dst a (.ret r) H'=K ({a with H:=H'}.put dst r):=Eq.trans rfl rfl
theorem JA(n:Nat):(n:Int)+1=((n+1:Nat):Int):=Eq.trans rfl rfl
theorem qa(a b:Nat):(a:Int)+(b:Int)=((a+b:Nat):Int):=Eq.trans rfl rfl
theorem JB(a b:Int)(h:a=b):(a==b)=true:=by simp[h]
theorem JC(a b:Int)(h:a≠b):(a==b)=false:=by simp[h]
theorem JD(a b:Int)(h:a≠b):(a !=b)=true:=by simp[h]
theorem JE(a b:Int)(h:a=b):(a !=b)=false:=by simp[h]
theorem G7(b:Bool):qK .not (.bool b)=some (.bool !b):=Eq.trans rfl rfl
end
theorem td{P:Program}{rs:List ResultVar}{a:St}{v u:AV}(t ty s:Nat)(hr:rs=[.cell t ty,.tmp s])(hD:a.D=[])(hl:ao P ty (Av.get a.T t) a.H=some v)(hs:Av.get a.T s=u)(hv:v.hf=true)(hu:u.hf=true):eI P rs (.ret (.tup [v,u])) .ret a:=by
 obtain⟨T,H,D⟩:=a;simp only at hD hl hs;subst hD;subst hr;refine⟨⟨T,H,[]⟩,rfl,.tup [v,u],?_,.refl _⟩;have:eH P [.cell t ty,.tmp s] ⟨T,H,[]⟩=some (.tup [v,u]):=by
  show(List.mapM (dt P ⟨T,H,[]⟩) [.cell t ty,.tmp s]).map AV.tup=_;simp only[List.mapM_cons,List.mapM_nil,dt,hl,hs];rfl
 rw[this];exact dj (by simp[AV.hf,AV.hfs,hv,hu])
theorem vf{H:List OB}{id off k:Nat}{cs:List AV}{b:Bool}(h:H[id]? =some (.cells cs b))(ho:off≤cs.length)(hh:AV.hfs (cs.drop off)=true):fz H (k+1) (.ptr id off)=some (.vptr (cs.drop off)):=by
 simp only[fz,AV.hf,Bool.false_eq_true,if_false,h,if_pos ho,hh,if_true,Option.map_some]
theorem ed{H:List OB}{args args':List AV}{out:Out}(hn:AV.hfs args=false)(ho:out.scalar=true)(h:args.mapM (fz H 20)=some args'):aG H args out=some args':=by
 simp only[aG,hn,Bool.false_eq_true,if_false,ho,if_true,h]
theorem yu{H:List OB}{id off:Nat}{cs:List AV}{b:Bool}{v:AV}{out:Out}(h:H[id]? =some (.cells cs b))(hl:off≤cs.length)(hh:AV.hfs (cs.drop off)=true)(hv:v.hf=true)(ho:out.scalar=true):aG H [.ptr id off,v] out=some [.vptr (cs.drop off),v]:=
 ed rfl ho (by simp only[List.mapM_cons,List.mapM_nil,vf h hl hh,dj hv];rfl)
theorem te(b:Bool):ofV (.bool b)=.bool b:=Eq.trans rfl rfl
theorem wO(k:IntKind)(n:Int):ofV (.int k n)=.int k n:=Eq.trans rfl rfl
theorem DM(l:Bytes)(h:l.length≤9223372036854775807):ofV (.string ⟨l.toArray⟩)=.str l:=by
 have:(⟨l.toArray⟩:ByteArray).size≤ay:=by show l.toArray.size≤_;simpa[ay]using h
 simp only[ofV,if_pos this]
theorem DN:ofV (.slice none 0 0)=.vsl 0 true []:=Eq.trans rfl rfl
theorem DP:ofV .nilFunc=.nilfunc:=Eq.trans rfl rfl
theorem DQ:ofV .nilIface=.nilif:=Eq.trans rfl rfl
theorem JF{P:Program}{t:TypeId}(a b:Bytes)(h:a.length+b.length≤9223372036854775807):aH P .add t (.str a) (.str b)=some (.str (a++b)):=Lv a b h
section
variable{P:Program} {n m:Nat} {R:Option Nat} {Q:Ex→St→Prop} {a:St} {K:St→Prop} {dst:Option Nat}
end
theorem ad.wP {P:Program} {f:FuncId} {fn:Func} {c:Code} {args:List AV} {r:AV} {A:Array Value} {V:Value} (hN:Enters P) (hf:P.funcs[f]? =some fn) (hb:fn.body=some c)
    (ha: ∀{F:Nat→Nat→Prop} {w:World} {Vs:List Value},VRs F w noμ args Vs→Vs.toArray=A) (h: ∀w,Calls P f A w fun e w'=>e=.returned V∧Go.RowKit.Below w.heap.size w w')
    (hv: ∀(F:Nat→Nat→Prop) (w:World),VR F w noμ r V):ad P f args (.ret r):=by
  intro F w Vs hF hvs;rw[ha hvs];refine .inl ⟨w,ab hN hf hb _ _,rfl,(h w).mono ?_⟩;rintro e w' ⟨rfl,hbl⟩;exact⟨hbl,F,fun _ _ h=>h,fun b o h=>Nat.lt_of_lt_of_le (hF b o h) hbl.size,fun _ _ _ h=>h,.ret _ _ (hv F w')⟩
theorem vg{F:Nat→Nat→Prop}{w:World}{s:Bytes}{Vs:List Value}(h:VRs F w noμ [.str s] Vs):Vs.toArray= #[.string ⟨s.toArray⟩]:=by
 cases h with
 |cons _ _ _ _ h1 h2=>cases h2;cases h1;rfl
theorem vh{F:Nat→Nat→Prop}{w:World}{s t:Bytes}{Vs:List Value}(h:VRs F w noμ [.str s,.str t] Vs):Vs.toArray= #[.string ⟨s.toArray⟩,.string ⟨t.toArray⟩]:=by
 cases h with
 |cons _ _ _ _ h1 h2=>cases h2 with
  |cons _ _ _ _ h3 h4=>cases h4;cases h1;cases h3;rfl
theorem rq{s t:Bytes}(h:s=t):Le (.str s) (.str t):=h ▸ .refl _
theorem AF(a:St)(t:Nat):a.ev (.tmp t)=get a.T t:=Eq.trans rfl rfl
theorem tf(a:St)(v:Value):a.ev (.const v)=ofV v:=Eq.trans rfl rfl
theorem wQ(a:St)(f:FuncId):a.ev (.func f)=.func (.func f) [] []:=Eq.trans rfl rfl
section
variable{α:Type}
def mem(B:List OB)(f:α→AV)(k j:Nat)(z:Bool)(L:List α):List OB:=
 B++(List.replicate k .dead++(if z then .cells (be f L) true::List.replicate j .dead else []))
def bp(b w0 wd:Nat)(f:α→AV)(k:Nat)(z:Bool)(L:List α):AV:=if z then .sl (b+k) 0 L.length wd else .vsl w0 true (L.map f)
theorem aJ(B:List OB)(f:α→AV)(k j:Nat)(z:Bool)(L:List α):(mem B f k j z L).length=B.length+k+(if z then j+1 else 0):=by
 cases z<;>simp[mem]<;>omega
theorem dw{B:List OB}{f:α→AV}{k j:Nat}{z:Bool}{L:List α}{i:Nat}(h:i<B.length):(mem B f k j z L)[i]? =B[i]?:=List.getElem?_append_left h
theorem dR{B:List OB}{f:α→AV}{k j:Nat}{L:List α}:(mem B f k j true L)[B.length+k]? =some (.cells (be f L) true):=by
 rw[mem,List.getElem?_append_right (by omega),Nat.add_sub_cancel_left,List.getElem?_append_right (by simp)];simp
theorem kK(m n:Nat):(List.replicate n OB.dead).all (OB.hlt m)=true:=by
 rw[List.all_eq_true];intro x hx;rw[List.eq_of_mem_replicate hx];rfl
theorem jl{f:α→AV}{m:Nat}(hf:∀x,AV.bf m (f x).cells=true)(L:List α):AV.bf m (be f L)=true:=by
 rw[dZ,be,List.all_flatMap,List.all_eq_true];intro v hv;obtain⟨a,_,rfl⟩:=List.mem_map.1 hv;rw[←dZ];exact hf a
theorem wR{B:List OB}{f:α→AV}{k j:Nat}{z:Bool}{L:List α}{m:Nat}(hB:B.all (OB.hlt m)=true)(hf:∀x,AV.bf m (f x).cells=true):(mem B f k j z L).all (OB.hlt m)=true:=by
 cases z
 ·simp[mem,List.all_append,hB,kK,OB.hlt]
 ·simp only[mem,List.all_append,hB,kK,if_true,List.all_cons,Bool.true_and,Bool.and_true]
  exact jl hf L
theorem AG{b w0 wd:Nat}{f:α→AV}{k j:Nat}{z:Bool}{L:List α}{B:List OB}(hb:B.length=b)(hf:∀x,AV.hlt (mem B f k j z L).length (f x)=true):(bp b w0 wd f k z L).hlt (mem B f k j z L).length=true:=by
 cases z
 ·simp only[bp,Bool.false_eq_true,if_false,AV.hlt]
  rw[dZ,List.all_eq_true];intro v hv;obtain⟨a,_,rfl⟩:=List.mem_map.1 hv;exact hf a
 ·simp only[bp,if_true,AV.hlt,aJ,decide_eq_true_eq];omega
theorem jm{m:Nat}:∀{H:List OB} {n:Nat},n≤H.length→bm m H (List.replicate n .dead)
 |H,0,_=>by cases H<;>simp[bm]
 | [],n+1,h=>by simp at h
 |b::H,n+1,h=>by
  simp only[List.replicate_succ,bm];exact jm (by simpa using h)
theorem gI{m:Nat}:∀{A H H':List OB},A.all (OB.hlt m)=true→bm m H H'→bm m (A++H) (A++H')
 | [],H,H',_,h=>h
 |b::A,H,H',hA,h=>by
  simp only[List.all_cons,Bool.and_eq_true]at hA;have:=gI (A:=A) hA.2 h;simp only[List.cons_append];cases b<;>simp only[bm]<;>first|exact this|exact⟨trivial,hA.1,this⟩
theorem gJ{m:Nat}:∀{A H H':List OB} {n:Nat},n=A.length→bm m H H'→bm m (A++H) (List.replicate n .dead++H')
 | [],H,H',n,hn,h=>by subst hn;exact h
 |b::A,H,H',n,hn,h=>by
  subst hn;simp only[List.length_cons,List.replicate_succ,List.cons_append,bm];exact gJ rfl h
theorem kL{m:Nat}{c:OB}{H:List OB}{j:Nat}(hc:c.hlt m=true)(hj:j≤H.length):bm m (c::H) (c::List.replicate j .dead):=by
 cases c<;>simp only[bm]<;>first|exact jm hj|exact⟨trivial,hc,jm hj⟩
theorem tg(m:Nat)(H:List OB):bm m H []:=by cases H<;>trivial
theorem nV{B:List OB}{f:α→AV}{k j:Nat}{z:Bool}{L:List α}{E:List OB}{m:Nat}(hB:B.all (OB.hlt m)=true)(hf: ∀x,AV.bf m (f x).cells=true):
    bm m (mem B f k j z L++E) (mem B f (if z then k else k+E.length) (j+E.length) z L):=by
  cases z
  · simp only[mem,Bool.false_eq_true,if_false,List.append_nil,List.append_assoc]
    refine gI hB (jm (by simp))
  · simp only[mem,if_true,List.append_assoc,List.cons_append]
    refine gI hB (gJ (by simp) ?_);exact kL (jl hf L) (by simp)
theorem jn {P:Program} {sT e:TypeId} {wd w0 bytes:Nat} (hu:P.underlying sT=some (.slice e)) (ha:apT P e=some (esz wd,wd,bytes)) (f:α→AV) (hf: ∀x,(f x).cells.length=esz wd) (hc: ∀x,(f x).cells.all AV.isC=true)
    (hz:0<esz wd) (B:List OB) (k j:Nat) (z:Bool) (L:List α) (hw:z=false→w0=wd∨L=[]) (E:List OB) (x:α) (y:Bool) (hb:(L.length+1)*bytes≤140737488355328) {M:List OB} (hM:M=mem B f k j z L):
    ∃ M',aE P sT sT (bp B.length w0 wd f k z L) (.vsl wd y [f x]) (M++E)=some (bp B.length w0 wd f (M.length+E.length - B.length) true (L++[x]),M')∧M'.length=M.length+E.length+1∧M'[M.length+E.length]? =some (.cells (be f (L++[x])) true)∧
      (∀m,B.all (OB.hlt m)=true→(∀x,AV.bf m (f x).cells=true)→bm m M' (mem B f (M.length+E.length - B.length) 0 true (L++[x])))∧(∀i,i<B.length→M'[i]? =B[i]?):=by
  subst hM;have hnew:cO (esz wd) (.vsl wd y [f x])=fun H=>some (1,(f x).cells):=by funext H;simp[cO]
  have hlen:(be f L).length=L.length*esz wd:=jk hf L;have hBM:B.length≤(mem B f k j z L).length:=by rw[aJ];omega
  have hid:B.length+((mem B f k j z L).length+E.length - B.length)=(mem B f k j z L++E).length:=by rw[List.length_append];omega
  cases z with
  | false=>
    have hold:cO (esz wd) (.vsl w0 true (L.map f))=fun H=>some (L.length,be f L):=by
      funext H;rcases hw rfl with rfl|rfl
      · simp[cO,be]
      · simp[cO,be]
    refine⟨mem B f k j false L++E++[.cells (be f (L++[x])) true],?_,by simp;omega,by rw[List.getElem?_append_right (by simp)];simp,?_,?_⟩
    · simp only[bp,Bool.false_eq_true,if_false,if_true,aE,hu,apX,ha,cp,hnew,hold,List.length_map,List.length_append,List.length_cons,List.length_nil,Nat.zero_add]
      rw[if_neg (by omega),if_pos (by omega),List.length_append]at*;rw[hid,fG]
    · intro m hB hfm
      have:mem B f ((mem B f k j false L).length+E.length - B.length) 0 true (L++[x])=B++(List.replicate (k+E.length) .dead++[.cells (be f (L++[x])) true]):=by
        simp only[aJ,Bool.false_eq_true,if_false,Nat.add_zero];rw[show B.length+k+E.length - B.length=k+E.length from by omega];simp[mem]
      rw[this];simp only[mem,Bool.false_eq_true,if_false,List.append_nil,List.append_assoc];refine gI hB ?_;rw[←List.append_assoc];exact gJ (by simp) (kL (j:=0) (jl hfm _) (Nat.zero_le _))
    · intro i hi
      rw[List.getElem?_append_left (by simp[aJ];omega),List.getElem?_append_left (by rw[aJ];omega),dw hi]
  | true=>
    have hlm:B.length+k<(mem B f k j true L).length:=by rw[aJ];simp
    have hat:(mem B f k j true L++E)[B.length+k]? =some (.cells (be f L) true):=by rw[List.getElem?_append_left hlm,dR]
    have hnot: ¬((L.length+1)*esz wd≤L.length*esz wd):=by rw[Nat.add_mul];omega
    refine⟨(mem B f k j true L++E).set (B.length+k) .dead++[.cells (be f (L++[x])) true],?_,by simp,by rw[List.getElem?_append_right (by simp)];simp,?_,?_⟩
    · simp only[bp,if_true,aE,hu,apX,ha,cp,hnew,hat]
      rw[if_pos ⟨trivial,hc x,by omega,by rw[hlen];omega⟩];simp only[Nat.zero_add,hlen,if_true,List.drop_zero];rw[if_neg hnot,hid,fG];simp
    · intro m hB hfm
      have hk:(mem B f k j true L).length+E.length - B.length=k+(1+j+E.length):=by rw[aJ];simp;omega
      rw[hk];have hset:(mem B f k j true L++E).set (B.length+k) .dead=B++(List.replicate k .dead++(.dead::(List.replicate j .dead++E))):=by
        simp only[mem,if_true,List.append_assoc,List.cons_append];rw[List.set_append_right _ _ (by omega),Nat.add_sub_cancel_left,List.set_append_right _ _ (by simp)];simp
      rw[hset];have:mem B f (k+(1+j+E.length)) 0 true (L++[x])=B++(List.replicate (k+(1+j+E.length)) .dead++[.cells (be f (L++[x])) true]):=by simp[mem]
      rw[this];simp only[List.append_assoc,List.cons_append];refine gI hB ?_;have e:List.replicate k OB.dead++(.dead::(List.replicate j .dead++(E++[.cells (be f (L++[x])) true])))=(List.replicate k OB.dead++(.dead::(List.replicate j .dead++E)))++[.cells (be f (L++[x])) true]:=by simp
      rw[e];exact gJ (by simp;omega) (kL (j:=0) (jl hfm _) (Nat.zero_le _))
    · intro i hi
      rw[List.getElem?_append_left (by simp[aJ];omega),List.getElem?_set,if_neg (by omega),List.getElem?_append_left (by rw[aJ];omega),dw hi]
theorem ia {B:List OB} {f:α→AV} {w0 k:Nat} {z:Bool} {L:List α} {n:Nat} {M:List OB} (h:z=true→M[B.length+k]? =some (.cells (be f L) true)) (h1:AV.hfs (L.map f)=true) (h2:(L.map f).all AV.one=true):
    ∃u,fz M (n+1) (bp B.length w0 0 f k z L)=some u∧(u=.vsl w0 true (L.map f)∨u=.vsl 0 false (L.map f)):=by
  cases z with
  | false=>
    refine⟨_,?_,.inl rfl⟩;exact dj (by simpa[bp,AV.hf]using h1)
  | true =>
    refine⟨.vsl 0 false (L.map f),?_,.inr rfl⟩;have hcells:be f L=L.map f:=by
      have: ∀l:List AV,l.all AV.one=true→l.flatMap AV.cells=l:=by
        intro l;induction l with
        |nil=>intro _;rfl
        | cons v l ih=>
          intro h;simp only[List.all_cons,Bool.and_eq_true]at h;rw[List.flatMap_cons,dI h.1,ih h.2];rfl
      exact this _ h2
    have h:=h rfl;rw[hcells]at h;have hm:(L.map f).mapM (fz M n)=(L.map f).mapM (fz M n):=rfl;simp only[bp,if_true,fz,AV.hf,Bool.false_eq_true,if_false,h,esz,Nat.mul_one,Nat.zero_add,List.length_map];rw[if_pos (Nat.le_refl _),List.drop_zero,List.take_of_length_le (by simp),if_pos h1];simp only[Option.bind_some,h2,if_true]
end
theorem vi{α:Type}(l:List α)(a b:α):(l++[a]).set l.length b=l++[b]:=by simp
theorem DR(wd:Nat)(x:Bool)(l:List AV):deN (.vsl wd x l)=.vsl wd x l:=Eq.trans rfl rfl
theorem G8(a b c d:Nat):deN (.sl a b c d)=.sl a b c d:=Eq.trans rfl rfl
theorem DU(s:Bytes):deN (.str s)=.str s:=Eq.trans rfl rfl
theorem DV(a b:Nat):deN (.ptr a b)=.ptr a b:=Eq.trans rfl rfl
theorem eC{α:Type}(b w0 wd:Nat)(f:α→AV)(k:Nat)(z:Bool)(L:List α):deN (bp b w0 wd f k z L)=bp b w0 wd f k z L:=by cases z<;>rfl
theorem cL{α:Type}(l:List α)(n:Nat):(l.drop n).take (l.length - n)=l.drop n:=List.take_of_length_le (by simp)
theorem eT{H:List OB}{r m:Nat}{b:OB}(h:H.all (OB.hlt m)=true)(hb:b.hlt m=true):(H.set r b).all (OB.hlt m)=true:=by
 rw[List.all_eq_true]at h ⊢;intro x hx;rcases List.mem_or_eq_of_mem_set hx with h1|h1
 ·exact h x h1
 ·rw[h1];exact hb
theorem dJ{α:Type}{H:List α}{r:Nat}{b:α}(h:H[r]? =some b):H.set r b=H:=by
 apply List.ext_getElem?;intro i;rw[List.getElem?_set];split
 ·rename_i e;subst e
  rw[h,if_pos (List.getElem?_eq_some_iff.1 h).1]
 ·rfl
theorem DW{α:Type}{H:List α}{r:Nat}{b c:α}(h:H[r]? =some b):(H.set r c)[r]? =some c:=by
 rw[List.getElem?_set,if_pos rfl,if_pos (List.getElem?_eq_some_iff.1 h).1]
theorem mem_set{α:Type}{B:List OB}{f:α→AV}{k j:Nat}{z:Bool}{L:List α}{i:Nat}{b:OB}(h:i<B.length):(mem B f k j z L).set i b=mem (B.set i b) f k j z L:=by
 simp only[mem];rw[List.set_append_left _ _ h]
theorem gK{m:Nat}{b:OB}(hb:b.hlt m=true):∀{H H':List OB} {i:Nat},bm m H H'→bm m (H.set i b) (H'.set i b)
 | [],[],_,h=>h
 | [],_::_,_,h=>by simp[bm]at h
 |_::_,[],_,_=>tg _ _
 |x::H,y::H',0,h=>by
  simp only[List.set_cons_zero];cases b<;>simp only[bm]<;>cases y<;>first|exact h|exact h.2.2|exact⟨trivial,hb,h⟩|exact⟨trivial,hb,h.2.2⟩
 |x::H,y::H',i+1,h=>by
  simp only[List.set_cons_succ];cases y<;>simp only[bm]at h ⊢<;>first|exact gK hb h|exact⟨h.1,h.2.1,gK hb h.2.2⟩
def okH(H:List OB):Prop:=∀m,H.length≤m→H.all (OB.hlt m)=true
theorem wS{H:List OB}{r:Nat}{c:OB}(h:okH H)(hc:∀m,H.length≤m→c.hlt m=true):okH (H.set r c):=fun m hm=>by
 rw[List.length_set]at hm;exact eT (h m hm) (hc m hm)
theorem ru{H E:List OB}(h:okH H)(hE:∀m,H.length+E.length≤m→E.all (OB.hlt m)=true):okH (H++E):=fun m hm=>by
 rw[List.length_append]at hm;rw[List.all_append,h m (by omega),hE m hm];rfl
theorem DX{H E:List OB}{r:Nat}{c:OB}(h:okH H)(hc:∀m,H.length≤m→c.hlt m=true)(hE:∀m,H.length+E.length≤m→E.all (OB.hlt m)=true):okH (H.set r c++E):=
 ru (wS h hc) (fun m hm=>hE m (by rw[List.length_set]at hm;exact hm))
theorem DY{H E:List OB}{r:Nat}{c:OB}(h:r<H.length):(H.set r c++E)[r]? =some c:=by
 rw[List.getElem?_append_left (by rw[List.length_set];exact h),List.getElem?_set,if_pos rfl,if_pos h]
theorem aZ{H E:List OB}{r:Nat}{c:OB}(h:H[r]? =some c):(H++E)[r]? =some c:=by
 rw[List.getElem?_append_left (List.getElem?_eq_some_iff.1 h).1];exact h
theorem eO{A E:List OB}{m:Nat}(h:A.all (OB.hlt m)=true):bm m (A++E) A:=by
 have:=gI (H:=E) (H':=[]) h (tg m E);rwa[List.append_nil]at this
theorem kM{H:List OB}(h:okH H):bm H.length H H:=dr (h _ (Nat.le_refl _))
theorem FP{P:Program}{rs:List ResultVar}{a:St}{v v':AV}{H':List OB}(t ty:Nat)(hr:rs=[.cell t ty])(hD:a.D=[])(hl:ao P ty (Av.get a.T t) a.H=some v)(he:Le v v')(hv:v'.hlt H'.length=true)(hs:bm H'.length a.H H'):IX P rs (.ret v') H' .ret a:=by
 obtain⟨T,H,D⟩:=a;simp only at hD hl hs;subst hD;subst hr;exact⟨⟨T,H,[]⟩,rfl,v,by simp only[eH,dt,hl],he,hv,hs⟩
def LzL(H:List OB)(k:Nat):List AV→List AV→Prop
 | [],[]=>True
 |v::l,t::ts=>(∃u,fz H k v=some u∧Le u t)∧LzL H k l ts
 |_,_=>False
theorem nW{H:List OB}{k:Nat}:∀{l ts:List AV},LzL H k l ts→∃l',l.mapM (fz H k)=some l'∧Les l' ts
 | [],[],_=>⟨[],rfl,.nil⟩
 |v::l,t::ts,⟨⟨u,h1,h2⟩,h⟩=>by
  obtain⟨l',h3,h4⟩:=nW h;exact⟨u::l',by simp only[List.mapM_cons,h1,h3];rfl,.cons _ _ _ _ h2 h4⟩
theorem gL{H:List OB}{k:Nat}:∀{l:List AV},AV.hfs l=true→l.mapM (fz H (k+1))=some l
 | [],_=>rfl
 |v::l,h=>by
  simp only[AV.hfs,Bool.and_eq_true]at h;simp only[List.mapM_cons,dj h.1,gL h.2];rfl
theorem AH{H:List OB}{k:Nat}{l:List AV}(hh:AV.hfs l=false):fz H (k+1) (.agg l)=(l.mapM (fz H k)).map .agg:=by
 simp only[fz,AV.hf,hh,Bool.false_eq_true,if_false]
theorem gn{H:List OB}{k:Nat}{l ts:List AV}(h:LzL H (k+1) l ts):∃u,fz H (k+2) (.agg l)=some u∧Le u (.agg ts):=by
 obtain⟨l',h1,h2⟩:=nW h;by_cases hh:AV.hfs l=true
 ·rw[gL hh]at h1
  cases h1;exact⟨_,dj (by simpa[AV.hf]using hh),.agg _ _ h2⟩
 ·refine⟨.agg l',?_,.agg _ _ h2⟩
  rw[AH (by simpa using hh),h1];rfl
theorem cM{H:List OB}{k:Nat}{v:AV}{l ts:List AV}(hv:v.hf=true)(h:LzL H (k+1) l ts):LzL H (k+1) (v::l) (v::ts):=⟨⟨v,dj hv,.refl _⟩,h⟩
theorem JG{P:Program}{rs:List ResultVar}{a:St}{v v':AV}(t ty:Nat)(hr:rs=[.cell t ty])(hD:a.D=[])(hl:ao P ty (Av.get a.T t) a.H=some v)(hz:∃u,fz a.H 20 v=some u∧Le u v'):eI P rs (.ret v') .ret a:=by
 obtain⟨T,H,D⟩:=a;simp only at hD hl hz;subst hD;subst hr;obtain⟨u,h1,h2⟩:=hz;refine⟨⟨T,H,[]⟩,rfl,u,?_,h2⟩;simp only[eH,dt,hl,Option.bind_some];exact h1
theorem G9{H:List OB}{k:Nat}{l:List AV}(hh:AV.hfs l=false):fz H (k+1) (.tup l)=(l.mapM (fz H k)).map .tup:=by
 simp only[fz,AV.hf,hh,Bool.false_eq_true,if_false]
theorem wT{H:List OB}{k:Nat}{l ts:List AV}(h:LzL H (k+1) l ts):∃u,fz H (k+2) (.tup l)=some u∧Le u (.tup ts):=by
 obtain⟨l',h1,h2⟩:=nW h;by_cases hh:AV.hfs l=true
 ·rw[gL hh]at h1
  cases h1;exact⟨_,dj (by simpa[AV.hf]using hh),.tup _ _ h2⟩
 ·refine⟨.tup l',?_,.tup _ _ h2⟩
  rw[G9 (by simpa using hh),h1];rfl
theorem vj {P:Program} {rs:List ResultVar} {a:St} {v1 v2 r1 r2:AV} (t1 y1 t2 y2:Nat) (hr:rs=[.cell t1 y1,.cell t2 y2]) (h1:ao P y1 (Av.get a.T t1) a.H=some v1) (h2:ao P y2 (Av.get a.T t2) a.H=some v2)
    (hz:LzL a.H 19 [v1,v2] [r1,r2]):C4 P rs (.ret (.tup [r1,r2])) a:=by
  subst hr;have:eH P [.cell t1 y1,.cell t2 y2] a=some (.tup [v1,v2]):=by
    show(List.mapM (dt P a) [.cell t1 y1,.cell t2 y2]).map AV.tup=_;simp only[List.mapM_cons,List.mapM_nil,dt,h1,h2];rfl
  obtain⟨u,h3,h4⟩:=wT (k:=18) hz;exact⟨u,by rw[this];exact h3,h4⟩
theorem AI{P:Program}{op:BinOp}{t d:Nat}{v:AV}:aH P op t (.iface d v) .nilif=none:=rfl
theorem AJ{P:Program}{op:BinOp}{t:Nat}:aH P op t .nilif .nilif=none:=rfl
theorem vk{P:Program}{op:BinOp}{t d:Nat}{v:AV}:bM P op t (.iface d v) .nilif=none:=rfl
theorem vl{P:Program}{op:BinOp}{t:Nat}:bM P op t .nilif .nilif=none:=rfl
theorem yv{P:Program}{t d:Nat}{v:AV}(h:bC P t=4):dB P .eql t (.iface d v) (.const .nilIface)=some (.bool false):=by simp[dB,h]
theorem yw{P:Program}{t:Nat}(h:bC P t=4):dB P .eql t .nilif (.const .nilIface)=some (.bool true):=by simp[dB,h]
theorem pk{P:Program}{d t:Nat}{v:AV}{ds:TypeDesc}(h:P.underlying d=some ds)(hn:∀w,ds≠ .interface w):fL P (.iface d v) t d true=some (.tup [v,.bool true]):=by
 cases ds<;>first|(exact(hn _ rfl).elim)|simp[fL,h]
theorem W.JH {P:Program} {n m:Nat} {R:Option Nat} {Q:Ex→St→Prop} {a:St} {c:Code} {X:Type} (D:List DE) (C:X→List (Nat×AV)) (Hx:X→List OB) (ok:X→Prop) (ms:X→Nat) (x0:X) (hm: ∀x,m≤(Hx x).length) (hDh: ∀x,D.all (DE.hlt (Hx x).length)=true) (hD:a.D=D) (hx:ok x0) (hT:bz a.T (C x0)) (hh:cm (Hx x0).length (C x0)=true) (hH:bm (Hx x0).length a.H (Hx x0))
    (round: ∀x,ok x→W P n m R c (ai (fun a'=> ∃y,ok y∧ms y<ms x∧bz a'.T (C y)∧cm (Hx y).length (C y)=true∧bm (Hx y).length a'.H (Hx y)∧a'.D=D) Q) ⟨C x,Hx x,D⟩):W P n m R (.loop c) Q a:=by
  refine W.loop (X:=X) (fun x a'=>ok x∧bz a'.T (C x)∧cm (Hx x).length (C x)=true∧bm (Hx x).length a'.H (Hx x)∧a'.D=D) ms x0 ⟨hx,hT,hh,hH,hD⟩ ?_;rintro x a' ⟨h1,h2,h3,h4,h5⟩;refine W.weaken ⟨C x,Hx x,D⟩ ⟨h5,hDh x⟩ (hm x) h2 h3 h4 ((round x h1).mono ?_);intro ex b hq;cases ex with
  |normal=>obtain⟨y,q1,q2,q3,q4,q5,q6⟩:=hq;exact⟨y,⟨q1,q3,q4,q5,q6⟩,q2⟩
  |exit _=>exact hq
  |goto _=>exact hq
  |ret=>exact hq
  |panic _ _=>exact hq
theorem ad.le{P:Program}{f:FuncId}{args args':List AV}{out:Out}(h:Les args args')(hp:ad P f args' out):ad P f args out:=
 fun F w Vs hlt hv=>hp F w Vs hlt (hv.le h)
theorem jN{H:List OB}{k:Nat}{l l':List AV}(h:l.mapM (fz H (k+1))=some l'):fz H (k+2) (.agg l)=some (.agg l'):=by
 by_cases hh:AV.hfs l=true
 ·rw[gL hh]at h;cases h
  exact dj (by simpa[AV.hf]using hh)
 ·rw[AH (by simpa using hh),h];rfl
theorem wU{H:List OB}{args args':List AV}{out:Out}(h:args.mapM (fz H 20)=some args')(ho:out.scalar=true):aG H args out=some args':=by
 by_cases hh:AV.hfs args=true
 ·rw[gL hh]at h;cases h
  simp only[aG,hh,if_true]
 ·simp only[aG,hh,Bool.false_eq_true,if_false,ho,if_true,h]
theorem VRs.DZ{F:Nat→Nat→Prop}{w:World}{μ:Nat→Option Loc}{args:List AV}{Vs:List Value}(h:VRs F w μ args Vs):∀l,AV.agg l∈args→∀v∈l,v.fit:=by
 intro l hl v hv;obtain⟨i,hi⟩:=List.mem_iff_getElem?.1 hl;obtain⟨V,_,h2⟩:=h.get hi;cases h2 with
 |agg _ _ hs=>exact hs.fit v hv
theorem ad.DZ{P:Program}{f:FuncId}{args:List AV}{out:Out}(h:(∀l,AV.agg l∈args→∀v∈l,v.fit)→ad P f args out):ad P f args out:=
 fun F w Vs hlt hv=>h hv.DZ F w Vs hlt hv
theorem Ha(n:Nat):(n:Int)+2=((n+2:Nat):Int):=Eq.trans rfl rfl
theorem iM {α:Type} {P:Program} {sT e:TypeId} {wd w0 bytes:Nat} (hu:P.underlying sT=some (.slice e)) (ha:apT P e=some (esz wd,wd,bytes)) (f:α→AV) (hf: ∀x,(f x).cells.length=esz wd) (hc: ∀x,(f x).cells.all AV.isC=true)
    (hz:0<esz wd) (B:List OB) (k:Nat) (z:Bool) (L:List α) (hw:z=false→w0=wd∨L=[]) (x:α) (y:Bool) (hb:(L.length+1)*bytes≤140737488355328):
    aE P sT sT (bp B.length w0 wd f k z L) (.vsl wd y [f x]) (mem B f k 0 z L)=some (bp B.length w0 wd f (if z then k+1 else k) true (L++[x]),mem B f (if z then k+1 else k) 0 true (L++[x])):=by
  have hnew:cO (esz wd) (.vsl wd y [f x])=fun H=>some (1,(f x).cells):=by funext H;simp[cO]
  have hlen:(be f L).length=L.length*esz wd:=jk hf L;cases z with
  | false=>
    have hold:cO (esz wd) (.vsl w0 true (L.map f))=fun H=>some (L.length,be f L):=by
      funext H;rcases hw rfl with rfl|rfl
      · simp[cO,be]
      · simp[cO,be]
    simp only[bp,Bool.false_eq_true,if_false,if_true,aE,hu,apX,ha,cp,hnew,hold,List.length_map,List.length_append,List.length_cons,List.length_nil,Nat.zero_add];rw[if_neg (by omega),if_pos (by omega)];simp[mem,fG]
  | true=>
    have hat:=dR (B:=B) (f:=f) (k:=k) (j:=0) (L:=L);have hnot: ¬((L.length+1)*esz wd≤L.length*esz wd):=by rw[Nat.add_mul];omega
    have hset:(mem B f k 0 true L).set (B.length+k) .dead=B++List.replicate (k+1) .dead:=by
      simp only[mem,if_true,List.replicate_zero];rw[List.set_append_right _ _ (by omega),Nat.add_sub_cancel_left,List.set_append_right _ _ (by simp)];simp[List.replicate_succ']
    have hl:(mem B f k 0 true L).length=B.length+(k+1):=by rw[aJ];simp;omega
    simp only[bp,if_true,aE,hu,apX,ha,cp,hnew,hat];rw[if_pos ⟨trivial,hc x,by omega,by rw[hlen];omega⟩];simp only[Nat.zero_add,hlen,if_true,List.drop_zero];rw[if_neg hnot,hset,hl,←fG];simp[mem,fG]
theorem ry{P:Program}{rs:List ResultVar}{a:St}{v u r1 r2:AV}(t ty s:Nat)(hr:rs=[.cell t ty,.tmp s])(hD:a.D=[])(hl:ao P ty (Av.get a.T t) a.H=some v)(hs:Av.get a.T s=u)(hz:LzL a.H 19 [v,u] [r1,r2]):eI P rs (.ret (.tup [r1,r2])) .ret a:=by
 obtain⟨T,H,D⟩:=a;simp only at hD hl hs hz;subst hD;subst hr;have:eH P [.cell t ty,.tmp s] ⟨T,H,[]⟩=some (.tup [v,u]):=by
  show(List.mapM (dt P ⟨T,H,[]⟩) [.cell t ty,.tmp s]).map AV.tup=_;simp only[List.mapM_cons,List.mapM_nil,dt,hl,hs];rfl
 obtain⟨w,h3,h4⟩:=wT (k:=18) hz;exact⟨⟨T,H,[]⟩,rfl,w,by rw[this];exact h3,h4⟩
theorem Hb(k:IntKind)(n:Int):AV.cells (.int k n:AV)=[.int k n]:=Eq.trans rfl rfl
theorem Hc(k:IntKind)(n:Int):AV.isC (.int k n:AV)=true:=Eq.trans rfl rfl
theorem Hd(s:Bytes):AV.cells (.str s:AV)=[.str s]:=Eq.trans rfl rfl
theorem He(s:Bytes):AV.isC (.str s:AV)=true:=Eq.trans rfl rfl
theorem JI(a b c d:Nat):AV.cells (.sl a b c d:AV)=[.sl a b c d]:=Eq.trans rfl rfl
theorem JJ(a b c d:Nat):AV.isC (.sl a b c d:AV)=true:=Eq.trans rfl rfl
theorem Hf(w:Nat)(x:Bool)(l:List AV):AV.cells (.vsl w x l:AV)=[.vsl w x l]:=Eq.trans rfl rfl
theorem Hg(w:Nat)(x:Bool)(l:List AV):AV.isC (.vsl w x l:AV)=true:=Eq.trans rfl rfl
theorem yx:AV.cells (.nilmap:AV)=[.nilmap]:=Eq.trans rfl rfl
theorem AK:AV.isC (.nilsl:AV)=true:=Eq.trans rfl rfl
theorem Hh(i:Nat):AV.cells (.map i:AV)=[.map i]:=Eq.trans rfl rfl
theorem Hj(i:Nat):AV.isC (.map i:AV)=true:=Eq.trans rfl rfl
theorem D0(f:Fn)(a b:List AV):AV.cells (.func f a b:AV)=[.func f a b]:=Eq.trans rfl rfl
theorem D1(f:Fn)(a b:List AV):AV.isC (.func f a b:AV)=true:=Eq.trans rfl rfl
theorem vm:AV.cells (.nilfunc:AV)=[.nilfunc]:=Eq.trans rfl rfl
theorem AL(l:List AV):AV.cells (.agg l)=l:=Eq.trans rfl rfl
section
variable{P:Program} {w0:World} {F0 F F':Nat→Nat→Prop} {μ μ':Nat→Option Loc} {H H':List OB} {w w':World} {n m:Nat} {R:Option Nat} {a:St} {act:Act} {Q:Ex→St→Prop}
 {call:Cl→List AV→List OB→Option (Out×List OB)} {ops:Array Oper}
theorem W.Hl {id : Nat} (p:Nat) (hps:p<ops.size) (v:Nat→AV) (T:Nat→List (Nat×AV)) (Hk:Nat→List OB) (wr:Nat→Bool) (anc:Nat→Nat→Bool)
    (hm:P.follows .mixedOrders=true) (hf:fits n ops=true)
    (h0:T 0=a.T) (hT: ∀(i:Nat) (o:Oper),ops[i]? =some o→T (i+1)=(match o.dst with|none=>T i|some d=>(d,v i)::T i)) (hH:Hk 0=a.H)
    (hE: ∀(i:Nat) (o:Oper) (e:Edge),ops[i]? =some o→e∈o.after→Region.binds .any e=true→e.on<i)
    (hA: ∀(i j:Nat) (o:Oper),ops[i]? =some o→anc i j=true→ ∃e∈o.after,Region.binds .any e=true∧(j=e.on∨anc e.on j=true))
    (hL: ∀(i:Nat) (o:Oper) (t:Nat) (j:Nat) (o':Oper),ops[i]? =some o→t∈o.looksAt ops→ops[j]? =some o'→o'.dst=some t→anc i j=true∨(i<j∧anc j i=true))
    (hD: ∀(i j:Nat) (o o':Oper) (d:Nat),ops[i]? =some o→ops[j]? =some o'→o.dst=some d→o'.dst=some d→i=j)
    (hP: ∀(o:Oper) (k:Nat),ops[p]? =some o→cnt ops.size (fun j=>wr j&&anc p j)≤k→k≤cnt ops.size (fun j=>wr j&& !anc j p&& !(j==p))→ ∃t v H',eX P n m R ops o ⟨only ops o (T p),Hk k,a.D⟩ (.pan t v H')∧Q (.panic t v) ⟨[],H',a.D⟩)
    (hS: ∀(i:Nat) (o:Oper) (k:Nat),i≠p→anc i p=false→ops[i]? =some o→cnt ops.size (fun j=>wr j&&anc i j)≤k→k≤cnt ops.size (fun j=>wr j&& !anc j i&& !(j==i))→
      eX P n m R ops o ⟨only ops o (T i),Hk k,a.D⟩ (.val (v i) (Hk (k+(if wr i=true then 1 else 0))))):W P n m R (.region id ops true) Q a:=by
  intro B act w ⟨F,μ,s,y,t⟩;refine wpIn_region_any hm ?_;obtain⟨x1,s1⟩:=s.same (w':={w with drawn:=w.drawn+1}) rfl rfl rfl rfl;have hTx: ∀i,i≤ops.size→ ∀t,(∀(j:Nat) (o:Oper),j<i→ops[j]? =some o→o.dst=some t→get (T i) t=v j)∧((∀(j:Nat) (o:Oper),j<i→ops[j]? =some o→o.dst≠some t)→get (T i) t=get a.T t):=by
    intro i;induction i with
    |zero=>intro _ t;exact⟨fun j _ hj=>by omega,fun _=>by rw[h0]⟩
    | succ i ih=>
      intro hi t;have ho:ops[i]? =some ops[i]:=Array.getElem?_eq_getElem (by omega);obtain⟨g1,g2⟩:=ih (by omega) t;have hTi:=hT i _ ho;have hget:get (T (i+1)) t=if(ops[i]).dst=some t then v i else get (T i) t:=by
        rw[hTi];cases hd:(ops[i]).dst with
        |none=>simp
        | some d=>
          simp only[get];by_cases e:d=t
          · subst e;simp
          · rw[if_neg e,if_neg (by simpa using e)]
      rw[hget];refine⟨fun j o hj hoj hdj=> ?_,fun hno=> ?_⟩
      · by_cases e:j=i
        · subst e;rw[ho]at hoj;cases hoj;rw[if_pos hdj]
        · have hne:(ops[i]).dst≠some t:=fun h=>e (hD j i _ _ t hoj ho hdj h)
          rw[if_neg hne];exact g1 j o (by omega) hoj hdj
      · rw[if_neg (hno i _ (by omega) ho)];exact g2 fun j o hj=>hno j o (by omega)
  let Inv:Array Bool→Act→World→Prop:=fun listed act w=>(listed.size=ops.size∧listed[p]? ≠some true)∧
    (∀(i:Nat) (o:Oper) (e:Edge),ops[i]? =some o→listed[i]? =some true→e∈o.after→Region.binds .any e=true→listed[e.on]? =some true)∧
    ∃ F μ,Sim B.w0 B.F0 F μ (Hk (cnt ops.size fun j=>wr j&&listed.getD j false)) w∧Ext B.Fs B.ws B.μs F w μ∧VD F w μ a.D act.defers∧act.tmps.size=n∧
      ∀ t,(∀(j:Nat) (o:Oper),ops[j]? =some o→o.dst=some t→listed[j]? =some true→VR F w μ (v j) (act.tmps.getD t undef))∧
        ((∀(j:Nat) (o:Oper),ops[j]? =some o→o.dst=some t→listed[j]? ≠some true)→VR F w μ (get a.T t) (act.tmps.getD t undef))
  have main : ∀ fuel listed act w,Inv listed act w→cnt ops.size (fun j=> !listed.getD j false)≤fuel→wpAnyIn (fnc R) 1 P .any ops (dX n B Q) fuel listed act w:=by
    have hdone: ∀listed act w,Inv listed act w→Region.ready .any ops listed=[]→dX n B Q .normal act w:=by
      intro listed act w ⟨hsz,hcl,F,μ,s,y,vd,hn,hsl⟩ hr;have hall : ∀i,i<ops.size→listed[i]? =some true:=by
        intro i;induction i using Nat.strongRecOn with
        | _ i ih =>
          intro hi;cases hli:listed[i]? with
          |none=>rw[Array.getElem?_eq_none_iff]at hli;have:=hsz.1;omega
          | some b=>
            cases b with
            |true=>rfl
            | false=>
              have ho:ops[i]? =some ops[i]:=Array.getElem?_eq_getElem hi;have:i∈Region.ready .any ops listed:=by
                unfold Region.ready;rw[List.mem_filter];refine⟨by simp[hi],?_⟩;rw[ho];simp only[Array.getD_eq_getD_getElem?,hli,Option.getD_some,Bool.not_false,Bool.true_and,Option.map_some];rw[Array.all_eq_true'];intro e he;by_cases hb:Region.binds .any e=true
                · have:=ih e.on (hE i _ e ho he hb) (by have:=hE i _ e ho he hb;omega)
                  simp[this]
                · simp at hb;simp[hb]
              rw[hr]at this;cases this
      exact(hsz.2 (hall p hps)).elim
    intro fuel;induction fuel with
    | zero=>
      intro listed act w hI hfu;have hr:Region.ready .any ops listed=[]:=by
        rw[List.eq_nil_iff_forall_not_mem];intro i hi;unfold Region.ready at hi;rw[List.mem_filter]at hi;obtain⟨h1,h2⟩:=hi;simp only[List.mem_range]at h1;simp only[Bool.and_eq_true,Bool.not_eq_true']at h2;have hlt:i<listed.size:=by rw[hI.1.1];exact h1
        have h2':listed.getD i false=false:=by have:=h2.1;simp[Array.getD_eq_getD_getElem?,hlt]at this ⊢;exact this
        have:cnt ops.size (fun j=>decide (j=i))≤cnt ops.size (fun j=> !listed.getD j false):=eA fun j _ hj=>by simp at hj;subst hj;simp[h2']
        have h3:cnt ops.size (fun j=>decide (j=i))=cnt ops.size (fun _=>false)+(if decide (i=i)=true then 1 else 0):=fB h1 rfl fun j hj=>by simp[hj]
        simp at h3;omega
      exact⟨hr,hdone _ _ _ hI hr⟩
    | succ fuel ih =>
      intro listed act w hI hfu;refine⟨hdone _ _ _ hI,fun i hi=> ?_⟩;obtain⟨hsz,hcl,F,μ,s,y,vd,hn,hsl⟩:=hI;unfold Region.ready at hi;rw[List.mem_filter]at hi;obtain⟨h1,h2⟩:=hi;simp only[List.mem_range]at h1;simp only[Bool.and_eq_true,Bool.not_eq_true']at h2;have ho:ops[i]? =some ops[i]:=Array.getElem?_eq_getElem h1;have hlt:i<listed.size:=by rw[hsz.1];exact h1
      have hli:listed[i]? =some false:=by have:=h2.1;simp[Array.getD_eq_getD_getElem?,hlt]at this;simp[hlt,this]
      have hafter: ∀e∈(ops[i]).after,Region.binds .any e=true→listed[e.on]? =some true:=by
        have:=h2.2;rw[ho]at this;simp only[Option.map_some,Option.getD_some]at this;rw[Array.all_eq_true']at this;intro e he hb;have:=this e he;rw[hb]at this;simp[Array.getD_eq_getD_getElem?]at this;cases hx:listed[e.on]? with
        |none=>rw[hx]at this;simp at this
        |some b=>rw[hx]at this;simp at this;rw[this]
      have hancl: ∀(i:Nat) (o:Oper),ops[i]? =some o→(∀e∈o.after,Region.binds .any e=true→listed[e.on]? =some true)→ ∀j,anc i j=true→listed[j]? =some true:=by
        intro i;induction i using Nat.strongRecOn with
        | _ i ihh=>
          intro o hoi hh j hj;obtain⟨e,he,hb,hje⟩:=hA i j o hoi hj;rcases hje with rfl|hje
          · exact hh e he hb
          · have hon:=hE i o e hoi he hb
            have hois:i<ops.size:=(Array.getElem?_eq_some_iff.1 hoi).1;have hoe:ops[e.on]? =some ops[e.on]:=Array.getElem?_eq_getElem (by omega);exact ihh e.on hon _ hoe (fun e' he' hb'=>hcl _ _ e' hoe (hh e he hb) he' hb') j hje
      have hanci:=hancl i _ ho hafter;have hlo:cnt ops.size (fun j=>wr j&&anc i j)≤cnt ops.size (fun j=>wr j&&listed.getD j false):=eA fun j _ hj=>by
        simp only[Bool.and_eq_true]at hj ⊢;exact⟨hj.1,by simp[Array.getD_eq_getD_getElem?,hanci j hj.2]⟩
      have hhi:cnt ops.size (fun j=>wr j&&listed.getD j false)≤cnt ops.size (fun j=>wr j&& !anc j i&& !(j==i)):=eA fun j hjs hj=>by
        simp only[Bool.and_eq_true,Bool.not_eq_true']at hj ⊢;have hlj:listed[j]? =some true:=by
          have:=hj.2;simp[Array.getD_eq_getD_getElem?]at this;cases hx:listed[j]? with
          |none=>rw[hx]at this;simp at this
          |some b=>rw[hx]at this;simp at this;rw[this]
        refine⟨⟨hj.1,?_⟩,?_⟩
        · cases hx:anc j i with
          |false=>rfl
          | true=>
            have hoj:ops[j]? =some ops[j]:=Array.getElem?_eq_getElem hjs;have:=hancl j _ hoj (fun e he hb=>hcl j _ e hoj hlj he hb) i hx;rw[hli]at this;cases this
        · cases hx:(j==i)with
          |false=>rfl
          | true => have:j=i:=by simpa using hx
                    subst this;rw[hli]at hlj;cases hlj
      have hcl': ∀(i':Nat) (o:Oper) (e:Edge),ops[i']? =some o→(listed.setIfInBounds i true)[i']? =some true→e∈o.after→Region.binds .any e=true→(listed.setIfInBounds i true)[e.on]? =some true:=by
        intro i' o e hoi' hl' he hb;have hset: ∀(j:Nat),listed[j]? =some true→(listed.setIfInBounds i true)[j]? =some true:=by
          intro j hj;rw[Array.getElem?_setIfInBounds];split
          · first|rfl|simp[hlt]
          · exact hj
        by_cases e':i'=i
        · subst e';rw[ho]at hoi';cases hoi';exact hset _ (hafter e he hb)
        · rw[Array.getElem?_setIfInBounds,if_neg (by omega)]at hl'
          exact hset _ (hcl i' o e hoi' hl' he hb)
      have hcnt:cnt ops.size (fun j=>wr j&&(listed.setIfInBounds i true).getD j false)=cnt ops.size (fun j=>wr j&&listed.getD j false)+(if wr i=true then 1 else 0):=by
        have:=fB (k:=ops.size) (i:=i) (p:=fun j=>wr j&&listed.getD j false) (q:=fun j=>wr j&&(listed.setIfInBounds i true).getD j false) h1 (by simp[Array.getD_eq_getD_getElem?,hli]) (fun j hj=>by
          simp only[Array.getD_eq_getD_getElem?,Array.getElem?_setIfInBounds];rw[if_neg (by omega)])
        rw[this];simp[Array.getD_eq_getD_getElem?,Array.getElem?_setIfInBounds,hlt]
      have hfu':cnt ops.size (fun j=> !(listed.setIfInBounds i true).getD j false)≤fuel:=by
        have:=fB (k:=ops.size) (i:=i) (p:=fun j=> !(listed.setIfInBounds i true).getD j false) (q:=fun j=> !listed.getD j false) h1 (by simp[Array.getD_eq_getD_getElem?,Array.getElem?_setIfInBounds,hlt]) (fun j hj=>by
          simp only[Array.getD_eq_getD_getElem?,Array.getElem?_setIfInBounds];rw[if_neg (by omega)])
        have h1:(!listed.getD i false)=true:=by simp only[Array.getD_eq_getD_getElem?,hli];rfl
        simp only[h1,if_true]at this;omega
      have hrest : cd n F μ ⟨only ops ops[i] (T i),Hk (cnt ops.size fun j=>wr j&&listed.getD j false),a.D⟩ act w:=by
        refine⟨vd,hn,fun t=> ?_⟩;show VR F w μ (get (only ops ops[i] (T i)) t) _;unfold only;rw[iI];split
        · rename_i ht
          obtain⟨g1,g2⟩:=hTx i (by omega) t;by_cases hex: ∃(j:Nat) (o:Oper),ops[j]? =some o∧o.dst=some t
          · obtain ⟨j,o,hoj,hd⟩:=hex
            rcases hL i _ t j o ho ht hoj hd with haj|⟨hij,haj⟩
            · have hji:j<i:=by
                have key: ∀(i':Nat) (o':Oper),ops[i']? =some o'→ ∀j,anc i' j=true→j<i':=by
                  intro i';induction i' using Nat.strongRecOn with
                  | _ i' ihh=>
                    intro o' hoi' j hj;obtain⟨e,he,hb,hje⟩:=hA i' j o' hoi' hj;have hon:=hE i' o' e hoi' he hb;rcases hje with rfl|hje
                    · exact hon
                    · have hois:i'<ops.size:=(Array.getElem?_eq_some_iff.1 hoi').1
                      have:=ihh e.on hon _ (Array.getElem?_eq_getElem (by omega)) j hje;omega
                exact key i _ ho j haj
              rw[g1 j o hji hoj hd];exact(hsl t).1 j o hoj hd (hanci j haj)
            · rw[g2 fun k o' hk hok hdk=>by
                have:=hD k j _ _ t hok hoj hdk hd
                omega]
              refine(hsl t).2 fun k o' hok hdk hlk=> ?_;have hkj:=hD k j _ _ t hok hoj hdk hd;subst hkj;have:=hancl k _ hoj (fun e he hb=>hcl k _ e hoj hlk he hb) i haj;rw[hli]at this;cases this
          · rw[g2 fun j o _ hoj hd=>hex ⟨j,o,hoj,hd⟩]
            exact(hsl t).2 fun j o hoj hd=>(hex ⟨j,o,hoj,hd⟩).elim
        · exact .junk _
      by_cases hip:i=p
      · subst hip
        obtain⟨tt,vv,H',hst,hqp⟩:=hP _ _ ho hlo hhi;refine hst i B (dX n B Q) _ F μ act w ho s hrest (fun _ _ h=>by cases h) ?_;rintro t2 v2 H2 he V w' F' μ' x s' hV;cases he;exact⟨_,_,F',μ',hqp,.panic _ _ V hV,s',y.trans x,vd.mono x,hn,fun t=>.junk _⟩
      have hap:anc i p=false:=by
        cases hx:anc i p with
        |false=>rfl
        |true=>exact(hsz.2 (hanci p hx)).elim
      refine hS i _ _ hip hap ho hlo hhi i B (dX n B Q) _ F μ act w ho s hrest ?_ (fun _ _ _ h=>by cases h);rintro v' H' he V w' F' μ' x s' hV;cases he;refine ih _ _ _ ⟨⟨by simpa using hsz.1,by rw[Array.getElem?_setIfInBounds,if_neg (by omega)];exact hsz.2⟩,hcl',F',μ',by rw[hcnt];exact s',y.trans x,?_,?_,fun t=> ?_⟩ hfu'
      · cases(ops[i]).dst<;>exact vd.mono x
      · cases(ops[i]).dst<;>simp[Act.put,hn]
      · have hslot: ∀t,(act.put (ops[i]).dst V).tmps.getD t undef=if(ops[i]).dst=some t then V else act.tmps.getD t undef:=by
          intro t;cases hd:(ops[i]).dst with
          |none=>simp[Act.put]
          | some d=>
            have hdn:d<act.tmps.size:=by rw[hn];exact dh hf i _ d ho hd
            simp only[Act.put,Array.getD_eq_getD_getElem?,Array.getElem?_setIfInBounds];by_cases e:d=t
            · subst e;simp[hdn]
            · simp[e]
        rw[hslot];refine⟨fun j o hoj hd hl=> ?_,fun hno=> ?_⟩
        · by_cases e:j=i
          · subst e;rw[ho]at hoj;cases hoj;rw[if_pos hd];exact hV
          · rw[if_neg fun h=>e (hD j i _ _ t hoj ho hd h)]
            rw[Array.getElem?_setIfInBounds,if_neg (by omega)]at hl;exact VR.mono x ((hsl t).1 j o hoj hd hl)
        · have hne:(ops[i]).dst≠some t:=fun h=>hno i _ ho h (by rw[Array.getElem?_setIfInBounds,if_pos rfl,if_pos hlt])
          rw[if_neg hne];refine VR.mono x ((hsl t).2 fun j o hoj hd hl=>hno j o hoj hd ?_);rw[Array.getElem?_setIfInBounds];split
          · first|rfl|simp[hlt]
          · exact hl
  refine main _ _ _ _ ⟨⟨by simp,by rw[Array.getElem?_replicate];split<;>simp⟩,?_,F,μ,?_,y.trans x1,t.defers.mono x1,t.size,fun tt=>⟨?_,?_⟩⟩ ?_
  · intro i o e _ hl
    rw[Array.getElem?_replicate]at hl;split at hl<;>cases hl
  · have:cnt ops.size (fun j=>wr j&&(Array.replicate ops.size false).getD j false)=cnt 0 (fun _=>false):=by
      have: ∀k,cnt k (fun j=>wr j&&(Array.replicate ops.size false).getD j false)=0:=by
        intro k;induction k with
        |zero=>rfl
        | succ k ih=>
          simp only[cnt,ih];by_cases hk:k<ops.size<;>simp[Array.getD_eq_getD_getElem?,Array.getElem?_replicate,hk]
      rw[this];rfl
    rw[this];simp only[cnt];rw[hH];exact s1
  · intro j o _ _ hl
    rw[Array.getElem?_replicate]at hl;split at hl<;>cases hl
  · intro _;exact VR.mono x1 (t.slots tt)
  · refine Nat.le_trans (eA (q:=fun _=>true) fun _ _ _=>rfl) ?_
    have: ∀k,cnt k (fun _=>true)=k:=by
      intro k;induction k with
      |zero=>rfl
      |succ k ih=>simp[cnt,ih]
    rw[this];exact Nat.le_refl _
def SOK(P:Program)(ops:Array Oper)(o:Oper)(a:St)(v:AV)(H':List OB):Prop:=
 (gdA ops a o.guard=some false∧v=.tup []∧H'=a.H)∨
 (gdA ops a o.guard=some true∧ae a o.op=none∧aa o.op=none∧evalOp P o.op a=some (v,H'))∨
 (gdA ops a o.guard=some true∧∃c args,ae a o.op=some (c,args)∧jw P c args a.H (.ret v) H')
def POK(P:Program)(ops:Array Oper)(o:Oper)(a:St)(t:TypeId)(v:AV)(H':List OB):Prop:=
 gdA ops a o.guard=some true∧∃c args,ae a o.op=some (c,args)∧jw P c args a.H (.pan t v) H'
theorem kN{o:Oper}{a:St}{K:List OB}{D:List DE}{x:Operand}(hx:x∈o.op.operands):(⟨only ops o a.T,K,D⟩:St).ev x=a.ev x:=gi hx
open Classical in
theorem SOK.step(hf:fits n ops=true){o:Oper}{v:AV}{H':List OB}(h:SOK P ops o a v H')(D:List DE):eX P n m R ops o ⟨only ops o a.T,a.H,D⟩ (.val v H'):=by
 rcases h with⟨hg,rfl,rfl⟩|⟨hg,hc,hp,he⟩|⟨hg,c,args,hc,hcl⟩
 ·refine eb (call:=fun _ _ _=>none) (fun _ _ _ _ _ h=>by cases h) hf ?_
  simp[dC,gj,hg]
 ·refine eb (call:=fun _ _ _=>none) (fun _ _ _ _ _ h=>by cases h) hf ?_
  have e2:ae ⟨only ops o a.T,a.H,D⟩ o.op=none:=(df (a:=⟨only ops o a.T,a.H,D⟩) (b:=a) o.op (fun x hx=>kN hx)).trans hc;have e3:evalOp P o.op ⟨only ops o a.T,a.H,D⟩=some (v,H'):=(fD (a:=⟨only ops o a.T,a.H,D⟩) (b:=a) rfl o.op (fun x hx=>kN hx)).trans he;simp[dC,gj,hg,e2,hp,e3]
 ·refine eb (call:=fun d x K=>if d=c∧x=args∧K=a.H then some (.ret v,H')else none) ?_ hf ?_
  ·intro d x K out K' hh
   simp only at hh;split at hh
   ·rename_i hcond
    obtain⟨rfl,rfl,rfl⟩:=hcond;cases hh;exact hcl
   ·cases hh
  ·have e2:ae ⟨only ops o a.T,a.H,D⟩ o.op=some (c,args):=(df (a:=⟨only ops o a.T,a.H,D⟩) (b:=a) o.op (fun x hx=>kN hx)).trans hc
   simp[dC,gj,hg,e2]
open Classical in
theorem POK.step(hf:fits n ops=true){o:Oper}{t:TypeId}{v:AV}{H':List OB}(h:POK P ops o a t v H')(D:List DE):eX P n m R ops o ⟨only ops o a.T,a.H,D⟩ (.pan t v H'):=by
 obtain⟨hg,c,args,hc,hcl⟩:=h;refine eb (call:=fun d x K=>if d=c∧x=args∧K=a.H then some (.pan t v,H')else none) ?_ hf ?_
 ·intro d x K out K' hh
  simp only at hh;split at hh
  ·rename_i hcond
   obtain⟨rfl,rfl,rfl⟩:=hcond;cases hh;exact hcl
  ·cases hh
 ·have e2:ae ⟨only ops o a.T,a.H,D⟩ o.op=some (c,args):=(df (a:=⟨only ops o a.T,a.H,D⟩) (b:=a) o.op (fun x hx=>kN hx)).trans hc
  simp[dC,gj,hg,e2]
def jP(o:Op):Bool:=
 match o with
 | .move _| .assign _| .pick _ _ _| .build _ _| .buildSlice _ _ _| .nilCheck _| .binOp _ _ _ _ _| .unOp _ _ _| .makeInterface _ _| .makeFunc _ _ _
 | .slice _ _ (some _) _ _| .slice _ _ _ (some _) _| .fieldAddr _ _ _| .field _ _ _| .index _ _ _| .typeAssert _ _ _ _| .extract _ _=>true
 |_=>false
theorem AM(T:List (Nat×AV))(K K':List OB)(D:List DE):(⟨T,K,D⟩:St).ev=(⟨T,K',D⟩:St).ev:=by funext x;cases x<;>rfl
theorem mw{o:Op}{T:List (Nat×AV)}{K K':List OB}{D:List DE}{v:AV}(hfr:jP o=true)(h:evalOp P o ⟨T,K,D⟩=some (v,K'))(K2:List OB):evalOp P o ⟨T,K2,D⟩=some (v,K2):=by
 have hev:=AM T K2 K D;cases o<;>simp only[jP]at hfr<;>first|(cases hfr;done)|skip
 case move x=>simp only[evalOp,hev,Option.some.injEq,Prod.mk.injEq]at h ⊢;exact⟨h.1,trivial⟩
 case assign x=>simp only[evalOp,hev,Option.some.injEq,Prod.mk.injEq]at h ⊢;exact⟨h.1,trivial⟩
 case pick c x y=>
  simp only[evalOp,hev]at h ⊢;split at h
  ·rename_i hc;simp only[Option.some.injEq,Prod.mk.injEq]at h ⊢;exact⟨h.1,trivial⟩
  ·cases h
 case nilCheck x=>
  simp only[evalOp,hev]at h ⊢;split at h
  ·simp only[Option.some.injEq,Prod.mk.injEq]at h ⊢;exact⟨h.1,trivial⟩
  ·rw[Option.map_eq_some_iff]at h ⊢
   obtain⟨u,h1,h2⟩:=h;cases h2;exact⟨_,h1,rfl⟩
 case binOp op t x y z=>
  simp only[evalOp,hev]at h ⊢;split at h
  ·simp only[Option.some.injEq,Prod.mk.injEq]at h ⊢;exact⟨h.1,trivial⟩
  ·split at h
   ·simp only[Option.some.injEq,Prod.mk.injEq]at h ⊢;exact⟨h.1,trivial⟩
   ·rw[Option.map_eq_some_iff]at h ⊢
    obtain⟨u,h1,h2⟩:=h;cases h2;exact⟨_,h1,rfl⟩
 case makeInterface t x=>
  simp only[evalOp,hev]at h ⊢;split at h<;>first|(cases h;done)|skip
  simp only[Option.some.injEq,Prod.mk.injEq]at h ⊢;exact⟨h.1,trivial⟩
 case makeFunc f fs cs=>simp only[evalOp,hev,Option.some.injEq,Prod.mk.injEq]at h ⊢;exact⟨h.1,trivial⟩
 case slice t x lo hi mx=>
  simp only[evalOp,hev]at h ⊢;split at h
  ·simp only[Option.some.injEq,Prod.mk.injEq]at h ⊢;exact⟨h.1,trivial⟩
  ·cases lo<;>cases hi<;>simp at hfr h
 case extract t i=>
  simp only[evalOp,hev]at h ⊢;split at h<;>first|(cases h;done)|skip
  rw[Option.map_eq_some_iff]at h ⊢;obtain⟨u,h1,h2⟩:=h;cases h2;exact⟨_,h1,rfl⟩
 all_goals
  simp only[evalOp,hev]at h ⊢;rw[Option.map_eq_some_iff]at h ⊢;obtain⟨u,h1,h2⟩:=h;cases h2;exact⟨_,h1,rfl⟩
def ar(P:Program)(c:Cl)(args:List AV)(dst:Option Nat)(a:St)(K:St→Prop)(KP:TypeId→AV→List OB→Prop):Prop:=
 (∃r H',jw P c args a.H (.ret r) H'∧K ({a with H:=H'}.put dst r))∨(∃t v H',jw P c args a.H (.pan t v) H'∧KP t v H')
def DS(P:Program)(K:St→Prop)(KP:TypeId→AV→List OB→Prop)(dst:Option Nat)(op:Op)(a:St):Prop:=
 match ae a op with
 |some (c,args)=>ar P c args dst a K KP
 |none=>match aa op with
  |some _=>False
  |none=>VV (evalOp P op a) dst a K
def DG(P:Program)(K:St→Prop)(KP:TypeId→AV→List OB→Prop)(dst:Option Nat)(op:Op)(a:St):Option Bool→Prop
 |none=>False
 |some false=>K (a.put dst (.tup []))
 |some true=>DS P K KP dst op a
def DT(P:Program)(ops:Array Oper)(K:List St→Prop)(KP:List St→TypeId→AV→List OB→Prop):List Oper→List St→St→Prop
 | [],tr,a=>K (tr++[a])
 |o::rest,tr,a=>DG P (DT P ops K KP rest (tr++[a])) (KP (tr++[a])) o.dst o.op a (gdA ops a o.guard)
def vn(P:Program)(ops:Array Oper)(l:List Oper)(M:Nat)(S:Nat→St)(v:Nat→AV):Prop:=
 ∀i o,i<M→l[i]? =some o→SOK P ops o (S i) (v i) (S (i+1)).H∧S (i+1)={S i with H:=(S (i+1)).H}.put o.dst (v i)
theorem ti {K :List St→Prop} {KP:List St→TypeId→AV→List OB→Prop}: ∀{l:List Oper} {tr:List St} {a:St},DT P ops K KP l tr a→
    (∃(S:Nat→St) (v:Nat→AV),S 0=a∧vn P ops l l.length S v∧K (tr++(List.range (l.length+1)).map S))∨
    (∃(p:Nat) (S:Nat→St) (v:Nat→AV) (o:Oper) (t:TypeId) (w:AV) (H':List OB),S 0=a∧l[p]? =some o∧vn P ops l p S v∧POK P ops o (S p) t w H'∧KP (tr++(List.range (p+1)).map S) t w H'):=by
  intro l;induction l with
  | nil=>
    intro tr a h;refine .inl ⟨fun _=>a,fun _=>.junk,rfl,fun i o hi _=>absurd hi (Nat.not_lt_zero _),?_⟩;simpa[DT]using h
  | cons o rest ih=>
    intro tr a h;simp only[DT]at h
    have more: ∀(w:AV) (H1:List OB),SOK P ops o a w H1→DT P ops K KP rest (tr++[a]) ({a with H:=H1}.put o.dst w)→ 
        (∃(S:Nat→St) (v:Nat→AV),S 0=a∧vn P ops (o::rest) (o::rest).length S v∧K (tr++(List.range ((o::rest).length+1)).map S))∨
        (∃(p:Nat) (S:Nat→St) (v:Nat→AV) (o':Oper) (t:TypeId) (w:AV) (H':List OB),S 0=a∧(o::rest)[p]? =some o'∧vn P ops (o::rest) p S v∧POK P ops o' (S p) t w H'∧KP (tr++(List.range (p+1)).map S) t w H'):=by
      intro w H1 hs hd;have hputH:({a with H:=H1}.put o.dst w).H=H1:=by cases o.dst<;>rfl
      have hlist: ∀(S:Nat→St) (k:Nat),(List.range (k+1+1)).map (fun i=>match i with|0=>a|i+1=>S i)=a::(List.range (k+1)).map S:=by
        intro S k;rw[List.range_succ_eq_map];simp[Function.comp_def]
      have htr: ∀(S:Nat→St) (v:Nat→AV) (M:Nat),S 0={a with H:=H1}.put o.dst w→vn P ops rest M S v→vn P ops (o::rest) (M+1) (fun i=>match i with|0=>a|i+1=>S i) (fun i=>match i with|0=>w|i+1=>v i):=by
        intro S v M h0 ht i o' hi ho';cases i with
        | zero=>
          simp at ho';subst ho';simp only;rw[h0,hputH];exact⟨hs,rfl⟩
        |succ i=>exact ht i o' (by omega) (by simpa using ho')
      rcases ih hd with⟨S,v,h0,ht,hk⟩|⟨p,S,v,o',t,w',H',h0,ho',ht,hp,hk⟩
      · refine .inl ⟨_,_,rfl,htr S v _ h0 ht,?_⟩
        rw[List.length_cons,hlist];simpa using hk
      · refine .inr ⟨p+1,_,_,o',t,w',H',rfl,by simpa using ho',htr S v _ h0 ht,hp,?_⟩
        rw[hlist];simpa using hk
    cases hg:gdA ops a o.guard with
    |none=>rw[hg]at h;exact h.elim
    | some b =>
      rw[hg]at h;cases b with
      |false=>exact more (.tup []) a.H (.inl ⟨hg,rfl,rfl⟩) h
      | true =>
        simp only[DG,DS]at h;split at h
        · rename_i c args hc
          rcases h with⟨r,H1,h1,h2⟩|⟨t,v,H1,h1,h2⟩
          · exact more r H1 (.inr (.inr ⟨hg,c,args,hc,h1⟩)) h2
          · refine .inr ⟨0,fun _=>a,fun _=>.junk,o,t,v,H1,rfl,rfl,fun i o hi _=>absurd hi (Nat.not_lt_zero _),⟨hg,c,args,hc,h1⟩,?_⟩
            simpa using h2
        · rename_i hc
          split at h
          · exact h.elim
          · rename_i hp
            simp only[VV]at h;split at h
            · rename_i v H1 he
              exact more v H1 (.inr (.inl ⟨hg,hc,hp,he⟩)) h
            · exact h.elim
/-! ### Any order -/
def jy(tab:List Nat)(i j:Nat):Bool:=(tab.getD i 0).testBit j
def ixX(ws:List Nat)(i:Nat):Nat:=cnt i (fun j=>ws.contains j)
def qX(ws:List Nat):Nat→Nat
 |0=>0
 |k+1=>ws.getD k 0+1
def nX(ops:Array Oper)(tab:List Nat)(ws:List Nat)(wm:List Bool)(ps:List (Nat×Nat))(M:Nat):Bool:=
 ws.all (fun j=>decide (j<M))&&(List.range M).all fun i=>match ops[i]? with
  |none=>true
  |some o=>(wm.getD i false==ws.contains i)&&
   let lo:=cnt ops.size (fun j=>ws.contains j&&jy tab i j);let hi:=cnt ops.size (fun j=>ws.contains j&& !jy tab j i&& !(j==i))
   if ws.contains i then lo==ixX ws i&&hi==ixX ws i&&ws.getD (ixX ws i) 0==i
   else(List.range (hi+1)).all fun k=>decide (k<lo)||k==ixX ws i||jP o.op||(o.dst.isSome&&ps.contains (i,qX ws k))
def vOf(o:Oper)(b:St):AV:=match o.dst with|some d=>get b.T d|none=>.junk
def cHs:List Bool→List St→Prop
 |true::m,_::b::r=>cHs m (b::r)
 |false::m,a::b::r=>b.H=a.H∧cHs m (b::r)
 |_,_=>True
def cPs(P:Program)(ops:Array Oper)(SL:List St):List (Nat×Nat)→Prop
 | []=>True
 |(i,q)::ps=>(match ops[i]?,SL[i]?,SL[i+1]?,SL[q]? with
  |some o,some a,some b,some m=>evalOp P o.op ⟨a.T,m.H,a.D⟩=some (vOf o b,m.H)
  |_,_,_,_=>False)∧cPs P ops SL ps
def my:List St→St
 | []=>⟨[],[],[]⟩
 | [a]=>a
 |_::b::r=>my (b::r)
theorem wV{SL:List St}:∀{ps:List (Nat×Nat)},cPs P ops SL ps→∀{i q:Nat},ps.contains (i,q)=true→∀{o:Oper} {a b m:St},ops[i]? =some o→SL[i]? =some a→SL[i+1]? =some b→SL[q]? =some m→evalOp P o.op ⟨a.T,m.H,a.D⟩=some (vOf o b,m.H):=by
 intro ps;induction ps with
 |nil=>intro _ i q hc;simp at hc
 | cons x ps ih=>
  intro h i q hc o a b m h1 h2 h3 h4;obtain⟨i',q'⟩:=x;simp only[cPs]at h;by_cases e:(i,q)=(i',q')
  ·cases e
   have:=h.1;rw[h1,h2,h3,h4]at this;exact this
  ·refine ih h.2 (by simpa[List.contains_cons,e]using hc) h1 h2 h3 h4
theorem D3:∀{wm:List Bool} {SL:List St},cHs wm SL→∀{i:Nat} {a b:St},wm[i]? =some false→SL[i]? =some a→SL[i+1]? =some b→b.H=a.H:=by
 intro wm;induction wm with
 |nil=>intro SL _ i a b h;simp at h
 | cons x m ih=>
  intro SL h i a b hw ha hb
  match SL,h,ha,hb with
  | [],_,ha,_=>simp at ha
  | [c],_,_,hb=>simp at hb
  | c::d::r,h,ha,hb=>
   cases i with
   |zero=>
    simp at hw ha hb;subst hw;subst ha;subst hb;exact h.1
   |succ i=>
    refine ih (SL:=d::r) ?_ (i:=i) (by simpa using hw) (by simpa using ha) (by simpa using hb);cases x
    ·exact h.2
    ·exact h
theorem qb(S:Nat→St):∀N,my ((List.range (N+1)).map S)=S N:=by
 have key:∀(l:List St) (a:St),my (l++[a])=a:=by
  intro l;induction l with
  |nil=>intro a;rfl
  |cons x l ih=>
   intro a;cases l with
   |nil=>rfl
   |cons y l=>exact ih a
 intro N;rw[List.range_succ,List.map_append];exact key _ _
theorem po{o:Op}{a:St}{c:Cl×List AV}(h:ae a o=some c)(b:St):evalOp P o b=none:=by
 cases o<;>simp only[ae]at h<;>first|(cases h;done)|skip
 rename_i c';obtain⟨cl,args,ts⟩:=c';cases cl with
 |value f=>rfl
 |invoke r m=>rfl
 |builtin b=>simp at h
theorem nY(T:List (Nat×AV))(K K':List OB)(D:List DE)(o:Op):ae ⟨T,K,D⟩ o=ae ⟨T,K',D⟩ o:=by
 have h:=AM T K K' D;unfold ae;rw[h]
theorem mz{o:Op}{a:St}{c:Cl×List AV}(h:ae a o=some c):jP o=false:=by
 cases o<;>simp only[ae]at h<;>first|(cases h;done)|rfl
theorem mA {N M : Nat} {ws:List Nat} {wm:List Bool} {ps:List (Nat×Nat)} {tab:List Nat} (hf:fits n ops=true) {S:Nat→St} {v:Nat→AV} (hN:N=ops.size) (hMN:M≤N) (ht:vn P ops ops.toList M S v)
    (hck:nX ops tab ws wm ps M=true) (hH:cHs wm ((List.range (M+1)).map S)) (hP:cPs P ops ((List.range (M+1)).map S) ps) (hwm:wm.length=M):
    (∀i,i≤M→(S i).D=(S 0).D)∧(∀i,i≤M→(S i).H=(S (qX ws (ixX ws i))).H)∧
    (∀(i:Nat) (o:Oper) (k:Nat),i<M→ops[i]? =some o→cnt ops.size (fun j=>ws.contains j&&jy tab i j)≤k→k≤cnt ops.size (fun j=>ws.contains j&& !jy tab j i&& !(j==i))→
      eX P n m R ops o ⟨only ops o (S i).T,(S (qX ws k)).H,(S 0).D⟩ (.val (v i) (S (qX ws (k+(if ws.contains i=true then 1 else 0)))).H)):=by
  have hsl: ∀i,i≤M→((List.range (M+1)).map S)[i]? =some (S i):=by
    intro i hi;rw[List.getElem?_map,List.getElem?_range (by omega)];rfl
  have hget: ∀(i:Nat) (o:Oper),ops[i]? =some o→ops.toList[i]? =some o:=fun i o h=>by rw[Array.getElem?_toList];exact h
  simp only[nX,Bool.and_eq_true]at hck;obtain⟨hlt,hck⟩:=hck;have hop: ∀i,i<M→ ∃o,ops[i]? =some o:=fun i hi=>⟨_,Array.getElem?_eq_getElem (by omega)⟩;have hD: ∀i,i≤M→(S i).D=(S 0).D:=by
    intro i;induction i with
    |zero=>intro _;rfl
    | succ i ih=>
      intro hi;obtain⟨o,ho⟩:=hop i (by omega);have:=(ht i o (by omega) (hget i o ho)).2;rw[this];have e:(({S i with H:=(S (i+1)).H}:St).put o.dst (v i)).D=(S i).D:=by cases o.dst<;>rfl
      rw[e,ih (by omega)]
  have hat: ∀(i:Nat) (o:Oper),i<M→ops[i]? =some o→_:=fun i o hi ho=>by
    have:=aP hck i hi;rw[ho]at this;exact this
  have hwmi: ∀i,i<M→wm[i]? =some (ws.contains i):=by
    intro i hi;obtain⟨o,ho⟩:=hop i hi;have:=hat i o hi ho;simp only[Bool.and_eq_true,beq_iff_eq]at this;have h1:=this.1;rw[List.getD_eq_getElem?_getD]at h1;rw[List.getElem?_eq_getElem (by omega)]at h1 ⊢;simpa using h1
  have hkeep: ∀i,i<M→ws.contains i=false→(S (i+1)).H=(S i).H:=fun i hi hw=>
    D3 hH (by rw[hwmi i hi,hw]) (hsl i (by omega)) (hsl (i+1) (by omega))
  have hmem: ∀i,i≤M→(S i).H=(S (qX ws (ixX ws i))).H:=by
    intro i;induction i with
    |zero=>intro _;rfl
    | succ i ih=>
      intro hi;have hih:=ih (by omega);have hix:ixX ws (i+1)=ixX ws i+(if ws.contains i=true then 1 else 0):=by simp only[ixX,cnt]
      by_cases hw:ws.contains i=true
      · obtain⟨o,ho⟩:=hop i (by omega)
        have:=hat i o (by omega) ho;simp only[Bool.and_eq_true,beq_iff_eq]at this;have this:=this.2;rw[if_pos hw]at this;simp only[Bool.and_eq_true,beq_iff_eq]at this;have h3:=this.2;rw[hix,if_pos hw];simp only[qX,h3]
      · have hw':ws.contains i=false:=by simpa using hw
        rw[hix,if_neg hw,Nat.add_zero];exact(hkeep i (by omega) hw').trans hih
  refine⟨hD,hmem,?_⟩;intro i o k hi ho hlo hhi;obtain⟨hs,hput⟩:=ht i o hi (hget i o ho);have hchk:=hat i o hi ho;simp only[Bool.and_eq_true,beq_iff_eq]at hchk;have hchk:=hchk.2;by_cases hw:ws.contains i=true
  · rw[if_pos hw]at hchk
    simp only[Bool.and_eq_true,beq_iff_eq]at hchk;have hk:k=ixX ws i:=by omega
    rw[if_pos hw,hk,←hmem i (by omega)];have h2:qX ws (ixX ws i+1)=i+1:=by simp only[qX,hchk.2]
    rw[h2];exact hs.step hf _
  · have hw':ws.contains i=false:=by simpa using hw
    rw[if_neg hw,Nat.add_zero];rw[if_neg hw]at hchk;have hchk:=List.all_eq_true.1 hchk k (List.mem_range.2 (by omega));simp only[Bool.or_eq_true,Bool.and_eq_true,decide_eq_true_eq,beq_iff_eq]at hchk;rw[hkeep i hi hw']at hs;by_cases hk:k=ixX ws i
    · rw[hk,←hmem i (by omega)]
      exact hs.step hf _
    · obtain ⟨K,hK⟩: ∃K,K=(S (qX ws k)).H:=⟨_,rfl⟩
      rw[←hK];have hcall: ∀c args,ae (S i) o.op=some (c,args)→False:=by
        intro c args hc;rcases hchk with((h1|h1)|h1)|h1
        · omega
        · exact hk h1
        · rw[mz hc]at h1;cases h1
        · have hq:qX ws k≤M:=by
            cases k with
            |zero=>exact Nat.zero_le _
            | succ k=>
              simp only[qX];rw[List.getD_eq_getElem?_getD];cases hx:ws[k]? with
              |none=>simp;omega
              | some j=>
                have:=List.all_eq_true.1 hlt j (List.mem_of_getElem? hx);simp at this ⊢;omega
          have:=wV hP h1.2 ho (hsl i (by omega)) (hsl (i+1) (by omega)) (hsl _ hq);rw[po hc]at this;cases this
      have hs':SOK P ops o ⟨(S i).T,K,(S i).D⟩ (v i) K:=by
        rcases hs with⟨hg,hv,_⟩|⟨hg,hc,hp,he⟩|⟨hg,c,args,hc,_⟩
        · exact .inl ⟨hg,hv,rfl⟩
        · refine .inr (.inl ⟨hg,(nY _ _ _ _ _).trans hc,hp,?_⟩)
          rcases hchk with((h1|h1)|h1)|h1
          · omega
          · exact absurd h1 hk
          · exact mw h1 he K
          · have hq:qX ws k≤M:=by
              cases k with
              |zero=>exact Nat.zero_le _
              | succ k=>
                simp only[qX];rw[List.getD_eq_getElem?_getD];cases hx:ws[k]? with
                |none=>simp;omega
                | some j=>
                  have:=List.all_eq_true.1 hlt j (List.mem_of_getElem? hx);simp at this ⊢;omega
            have:=wV hP h1.2 ho (hsl i (by omega)) (hsl (i+1) (by omega)) (hsl _ hq);have hvo:vOf o (S (i+1))=v i:=by
              obtain⟨d,hd⟩:=Option.isSome_iff_exists.1 h1.1;rw[hput];simp[vOf,hd,St.put,get]
            rw[hvo,←hK]at this;exact this
        · exact(hcall c args hc).elim
      exact hs'.step hf _
theorem nZ(hst:iK ops (aW ops.toList [])=true):
    (∀(i:Nat) (o:Oper) (e:Edge),ops[i]? =some o→e∈o.after→Region.binds .any e=true→e.on<i)∧
    (∀(i j:Nat) (o:Oper),ops[i]? =some o→jy (aW ops.toList []) i j=true→ ∃e∈o.after,Region.binds .any e=true∧(j=e.on∨jy (aW ops.toList []) e.on j=true))∧
    (∀(i:Nat) (o:Oper) (t:Nat) (j:Nat) (o':Oper),ops[i]? =some o→t∈o.looksAt ops→ops[j]? =some o'→o'.dst=some t→jy (aW ops.toList []) i j=true∨(i<j∧jy (aW ops.toList []) j i=true))∧
    (∀(i j:Nat) (o o':Oper) (d:Nat),ops[i]? =some o→ops[j]? =some o'→o.dst=some d→o'.dst=some d→i=j):=by
  have hstI: ∀(i:Nat) (o:Oper),ops[i]? =some o→(o.after.toList.all (fun e=> !Region.binds .any e||decide (e.on<i))&&(aW ops.toList []).getD i 0==eg (aW ops.toList []) o&&
      (o.looksAt ops).all (fun t=>(List.range ops.size).all fun j=>match ops[j]? with|some o'=> !er o' t||(((aW ops.toList []).getD i 0).testBit j||(decide (i<j)&&((aW ops.toList []).getD j 0).testBit i))|none=>true)&&
      (match o.dst with|none=>true|some d=>(List.range ops.size).all fun j=>j==i||match ops[j]? with|some o'=> !er o' d|none=>true))=true:=by
    intro i o ho;have:=aP hst i (Array.getElem?_eq_some_iff.1 ho).1;rw[ho]at this;exact this
  refine⟨?_,?_,?_,?_⟩
  · intro i o e ho he hb
    have:=hstI i o ho;simp only[Bool.and_eq_true]at this;have h1:=List.all_eq_true.1 this.1.1.1 e (Array.mem_toList_iff.2 he);simpa[hb]using h1
  · intro i j o ho hj
    have:=hstI i o ho;simp only[Bool.and_eq_true,beq_iff_eq]at this;have h1:=this.1.1.2;simp only[jy,h1]at hj;unfold eg at hj;rcases gE _ _ _ _ hj with h2|⟨e,he,hb,hje⟩
    · simp at h2
    · exact⟨e,Array.mem_toList_iff.1 he,hb,hje⟩
  · intro i o t j o' ho ht ho' hd
    have:=hstI i o ho;simp only[Bool.and_eq_true]at this;have h1:=aP (List.all_eq_true.1 this.1.2 t ht) j (Array.getElem?_eq_some_iff.1 ho').1;rw[ho']at h1;simp only[er,hd]at h1;simpa[jy,Bool.or_eq_true,Bool.and_eq_true]using h1
  · intro i j o o' d ho ho' hd hd'
    have:=hstI i o ho;simp only[Bool.and_eq_true,hd]at this;have h1:=aP this.2 j (Array.getElem?_eq_some_iff.1 ho').1;rw[ho']at h1;have:j=i:=by simpa[er,hd']using h1
    exact this.symm
theorem FQ(a:St)(K:List OB)(d:Option Nat)(v:AV):(({a with H:=K}:St).put d v).T=(match d with|none=>a.T|some d=>(d,v)::a.T):=by cases d<;>rfl
theorem W.bw {id:Nat} (ws:List Nat) (wm:List Bool) (ps:List (Nat×Nat)) (hm:P.follows .mixedOrders=true) (hf:fits n ops=true) (hst:iK ops (aW ops.toList [])=true)
    (hck:(nX ops (aW ops.toList []) ws wm ps ops.size&&wm.length==ops.size)=true)
    (h:DT P ops (fun SL=>cHs wm SL∧cPs P ops SL ps∧Q .normal (my SL)) (fun _ _ _ _=>False) ops.toList [] a):W P n m R (.region id ops true) Q a:=by
  simp only[Bool.and_eq_true,beq_iff_eq]at hck;obtain⟨hck,hwl⟩:=hck;rcases ti h with⟨S,v,h0,ht,hH,hP,hq⟩|⟨p,S,v,o,t,w,H',_,_,_,_,hx⟩
  · rw [List.nil_append,Array.length_toList]at hH hP hq
    rw[Array.length_toList]at ht;rw[qb]at hq;obtain⟨hD,hmem,hst'⟩:=mA (R:=R) (m:=m) hf (N:=ops.size) rfl (Nat.le_refl _) ht hck hH hP hwl;obtain⟨g1,g2,g3,g4⟩:=nZ hst;have hget: ∀(i:Nat) (o:Oper),ops[i]? =some o→ops.toList[i]? =some o:=fun i o h=>by rw[Array.getElem?_toList];exact h
    refine W.Gp (af:=a) v (fun i=>(S i).T) (fun k=>(S (qX ws k)).H) (fun i=>ws.contains i) (fun i j=>jy (aW ops.toList []) i j) hm hf (by rw[h0]) ?_ (by simp only[qX];rw[h0]) g1 g2 g3 g4 ?_ ?_
    · intro i o ho
      have:=(ht i o (Array.getElem?_eq_some_iff.1 ho).1 (hget i o ho)).2;show(S (i+1)).T=_;rw[this,FQ];cases o.dst<;>rfl
    · intro i o k ho hlo hhi
      have:=hst' i o k (Array.getElem?_eq_some_iff.1 ho).1 ho hlo hhi;rw[h0]at this;exact this
    · have e:S ops.size=⟨(S ops.size).T,(S (qX ws (cnt ops.size fun i=>ws.contains i))).H,a.D⟩:=by
        have:=hmem ops.size (Nat.le_refl _);have hd:=hD ops.size (Nat.le_refl _);rw[h0]at hd;rw[←hd];show S ops.size=⟨_,(S (qX ws (ixX ws ops.size))).H,_⟩
        rw[←this]
      rw[e]at hq;exact hq
  · exact hx.elim
def FR(ops:Array Oper)(p j:Nat):Bool:=match ops[j]? with
 |some o=>o.guard.isNone&&jP o.op&&(o.looksAt ops).all (fun t=>(List.range ops.size).all fun i=>match ops[i]? with|some o'=>decide (i<p)|| !er o' t|none=>true)
 |none=>false
def cF(P:Program)(ops:Array Oper):List Nat→St→Prop
 | [],_=>True
 |i::fs,a=>(match ops[i]? with|some o=>∃v,evalOp P o.op a=some (v,a.H)|none=>False)∧cF P ops fs a
theorem Hm{a:St}:∀{fs:List Nat},cF P ops fs a→∀{i:Nat} {o:Oper},fs.contains i=true→ops[i]? =some o→∃v,evalOp P o.op a=some (v,a.H):=by
 intro fs;induction fs with
 |nil=>intro _ i o h;simp at h
 |cons j fs ih=>
  intro h i o hc ho;simp only[cF]at h;by_cases e:i=j
  ·subst e;have:=h.1;rw[ho]at this;exact this
  ·exact ih h.2 (by simpa[List.contains_cons,e]using hc) ho
def slT(ops:Array Oper)(v:Nat→AV)(T0:List (Nat×AV)):Nat→List (Nat×AV)
 |0=>T0
 |j+1=>match ops[j]? with
  |some o=>(match o.dst with|none=>slT ops v T0 j|some d=>(d,v j)::slT ops v T0 j)
  |none=>slT ops v T0 j
theorem rz{o:Op}(h:jP o=true):aa o=none:=by cases o<;>first|rfl|cases h
theorem W.FT {id:Nat} (p:Nat) (fs:List Nat) (ws:List Nat) (wm:List Bool) (ps:List (Nat×Nat)) (hm:P.follows .mixedOrders=true) (hf:fits n ops=true) (hst:iK ops (aW ops.toList [])=true)
    (hck:(nX ops (aW ops.toList []) ws wm ps p&&wm.length==p&&decide (p<ops.size)&&((List.range ops.size).all fun j=>decide (j≤p)||jy (aW ops.toList []) j p||(fs.contains j&&FR ops p j))&&
      (cnt ops.size (fun j=>ws.contains j&&jy (aW ops.toList []) p j)==ixX ws p&&cnt ops.size (fun j=>ws.contains j&& !jy (aW ops.toList []) j p&& !(j==p))==ixX ws p))=true)
    (h:DT P ops (fun _=>False) (fun SL t v H'=>SL.length=p+1∧cHs wm SL∧cPs P ops SL ps∧cF P ops fs (my SL)∧Q (.panic t v) ⟨[],H',a.D⟩) ops.toList [] a):W P n m R (.region id ops true) Q a:=by
  simp only[Bool.and_eq_true,beq_iff_eq,decide_eq_true_eq]at hck;obtain⟨⟨⟨⟨hck,hwl⟩,hps⟩,hall⟩,hlo,hhi⟩:=hck;rcases ti h with⟨S,v,h0,ht,hx⟩|⟨p',S,v,o,t,w,H',h0,hop,ht,hpk,hlen,hH,hP,hF,hq⟩
  · exact hx.elim
  · have hp : p'=p:=by simpa using hlen
    subst hp;rw[List.nil_append]at hH hP hF;rw[qb]at hF;obtain⟨hD,hmem,hst'⟩:=mA (R:=R) (m:=m) hf (N:=ops.size) rfl (by omega) ht hck hH hP hwl;obtain⟨g1,g2,g3,g4⟩:=nZ hst;have hget: ∀(i:Nat) (o:Oper),ops[i]? =some o→ops.toList[i]? =some o:=fun i o h=>by rw[Array.getElem?_toList];exact h
    obtain⟨vv,hvv⟩: ∃vv:Nat→AV,vv=fun i=>if i<p' then v i else match ops[i]? with|some o=>((evalOp P o.op (S p')).map (·.1)).getD .junk|none=>.junk:=⟨_,rfl⟩
    have hvl: ∀i,i<p'→vv i=v i:=fun i hi=>by rw[hvv];exact if_pos hi
    obtain⟨T,hT⟩: ∃T:Nat→List (Nat×AV),T=slT ops vv (S 0).T:=⟨_,rfl⟩
    have hTs: ∀j,T (j+1)=(match ops[j]? with|some o=>(match o.dst with|none=>T j|some d=>(d,vv j)::T j)|none=>T j):=by intro j;rw[hT];rfl
    have hTS: ∀i,i≤p'→T i=(S i).T:=by
      intro i;induction i with
      |zero=>intro _;rw[hT];rfl
      | succ i ih=>
        intro hi;obtain⟨o',ho'⟩: ∃o,ops[i]? =some o:=⟨_,Array.getElem?_eq_getElem (by omega)⟩
        rw[hTs,ho',ih (by omega)];have:=(ht i o' (by omega) (hget i o' ho')).2;rw[this,FQ,hvl i (by omega)];cases hd:o'.dst<;>simp only[hd]
    have hlate: ∀(i:Nat) (o':Oper),p'<i→ops[i]? =some o'→jy (aW ops.toList []) i p'=false→o'.guard=none∧jP o'.op=true∧(∃x,evalOp P o'.op (S p')=some (x,(S p').H))∧only ops o' (T i)=only ops o' (S p').T:=by
      intro i o' hi ho' ha;have hii:i<ops.size:=(Array.getElem?_eq_some_iff.1 ho').1;have h1:=aP hall i hii;simp only[Bool.or_eq_true,Bool.and_eq_true,decide_eq_true_eq]at h1;rcases h1 with(h1|h1)|⟨h1,h2⟩
      · omega
      · rw[ha]at h1;cases h1
      · simp only[FR,ho',Bool.and_eq_true,Option.isNone_iff_eq_none]at h2
        obtain⟨⟨h3,h4⟩,h5⟩:=h2;refine⟨h3,h4,Hm hF h1 ho',?_⟩;unfold only;refine List.map_congr_left fun tt htt=> ?_;have h6:=List.all_eq_true.1 h5 tt htt;have key: ∀d,p'+d≤i→get (T (p'+d)) tt=get (S p').T tt:=by
          intro d;induction d with
          |zero=>intro _;rw[Nat.add_zero,hTS p' (Nat.le_refl _)]
          | succ d ih=>
            intro hd;rw[show p'+(d+1)=p'+d+1 from rfl,hTs];obtain⟨o2,ho2⟩: ∃o,ops[p'+d]? =some o:=⟨_,Array.getElem?_eq_getElem (by omega)⟩
            have h7:=aP h6 (p'+d) (by omega);rw[ho2]at h7 ⊢;simp only[Bool.or_eq_true,decide_eq_true_eq,Bool.not_eq_true']at h7;rcases h7 with h7|h7
            · omega
            · cases hd2:o2.dst with
              |none=>simp only[hd2];exact ih (by omega)
              | some dd=>
                have hne:dd≠tt:=by simpa[er,hd2]using h7
                simp only[hd2,get];rw[if_neg hne];exact ih (by omega)
        have:=key (i - p') (by omega);rw[show p'+(i - p')=i from by omega]at this;rw[this]
    have hwl: ∀i,ws.contains i=true→i<p':=by
      intro i hi;simp only[nX,Bool.and_eq_true]at hck;have:=List.all_eq_true.1 hck.1 i (by simpa using hi);simpa using this
    refine W.Hl p' hps vv T (fun k=>(S (qX ws k)).H) (fun i=>ws.contains i) (fun i j=>jy (aW ops.toList []) i j) hm hf (by rw[hT,←h0];rfl) ?_ (by simp only[qX];rw[h0]) g1 g2 g3 g4 ?_ ?_
    · intro i o' ho'
      rw[hTs,ho']
    · intro o' k ho' h1 h2
      have:o'=o:=by have:=hget _ _ ho';rw[hop]at this;exact(Option.some.inj this).symm
      subst this;refine⟨t,w,H',?_,hq⟩;have hk:k=ixX ws p':=by omega
      rw[hk,hTS p' (Nat.le_refl _)];rw[←hmem p' (Nat.le_refl _)];exact hpk.step hf _
    · intro i o' k hne ha ho' h1 h2
      rcases Nat.lt_or_ge i p' with hi|hi
      · have:=hst' i o' k hi ho' h1 h2
        rw[h0]at this;rw[hvl i hi,hTS i (by omega)];exact this
      · obtain⟨q1,q2,⟨x,q3⟩,q4⟩:=hlate i o' (by omega) ho' ha
        have hx:vv i=x:=by
          rw[hvv];simp only[if_neg (show¬i<p' by omega),ho',q3];rfl
        have hwf:ws.contains i=false:=by
          cases hc:ws.contains i with
          |false=>rfl
          |true=>have:=hwl i hc;omega
        rw[hx,q4,hwf];simp only[Bool.false_eq_true,if_false,Nat.add_zero];have hc:ae (S p') o'.op=none:=by
          cases hc:ae (S p') o'.op with
          |none=>rfl
          |some c=>rw[mz hc]at q2;cases q2
        have hs:SOK P ops o' ⟨(S p').T,(S (qX ws k)).H,(S p').D⟩ x (S (qX ws k)).H:=by
          refine .inr (.inl ⟨by rw[q1];rfl,(nY _ _ _ _ _).trans hc,rz q2,?_⟩);exact mw (T:=(S p').T) (K:=(S p').H) (D:=(S p').D) q2 q3 _
        exact hs.step hf _
end
section
variable{P:Program} {n m:Nat} {R:Option Nat} {Q:Ex→St→Prop} {a:St} {K:St→Prop} {KP:TypeId→AV→List OB→Prop} {dst:Option Nat} {KL:List St→Prop} {KQ:List St→TypeId→AV→List OB→Prop} {tr:List St}
theorem Hn{ops:Array Oper}:DT P ops KL KQ [] tr a=KL (tr++[a]):=Eq.trans rfl rfl
theorem AN{ops:Array Oper}{d:Option Nat}{op:Op}{ty:TypeId}{pos:String}{af:Array Edge}{rest:List Oper}:
    DT P ops KL KQ (⟨d,op,ty,pos,af,none⟩::rest) tr a=DS P (DT P ops KL KQ rest (tr++[a])) (KQ (tr++[a])) d op a:=Eq.trans rfl rfl
theorem AO{ops:Array Oper}{d:Option Nat}{op:Op}{ty:TypeId}{pos:String}{af:Array Edge}{g:Nat×Bool}{rest:List Oper}:
    DT P ops KL KQ (⟨d,op,ty,pos,af,some g⟩::rest) tr a=DG P (DT P ops KL KQ rest (tr++[a])) (KQ (tr++[a])) d op a (gdA ops a (some g)):=Eq.trans rfl rfl
theorem D4{op:Op}:DG P K KP dst op a (some true)=DS P K KP dst op a:=Eq.trans rfl rfl
theorem AP{op:Op}:DG P K KP dst op a (some false)=K (a.put dst (.tup [])):=Eq.trans rfl rfl
theorem ar.pure{f:FuncId}{args:List AV}{r:AV}(hp:ad P f args (.ret r))(hh:AV.hfs args=true)(h:K (a.put dst r)):ar P (.fn f) args dst a K KP:=
 .inl ⟨r,a.H,ad.sh (by unfold aG;rw[if_pos hh]) hp,h⟩
theorem ar.aG{f:FuncId}{args:List AV}(args':List AV){r:AV}(hp:ad P f args' (.ret r))(hl:Go.Av.aG a.H args (.ret r)=some args')(h:K (a.put dst r)):ar P (.fn f) args dst a K KP:=
 .inl ⟨r,a.H,ad.sh hl hp,h⟩
theorem ar.sh{c:Cl}{args:List AV}{H':List OB}{r:AV}(hp:jw P c args a.H (.ret r) H')(h:K ({a with H:=H'}.put dst r)):ar P c args dst a K KP:=.inl ⟨r,H',hp,h⟩
theorem ar.tc{c:Cl}{args:List AV}{H':List OB}{t:TypeId}{v:AV}(hp:jw P c args a.H (.pan t v) H')(h:KP t v H'):ar P c args dst a K KP:=.inr ⟨t,v,H',hp,h⟩
theorem JK{m:List Bool}{x b:St}{r:List St}:cHs (true::m) (x::b::r)=cHs m (b::r):=Eq.trans rfl rfl
theorem JL{m:List Bool}{x b:St}{r:List St}:cHs (false::m) (x::b::r)=(b.H=x.H∧cHs m (b::r)):=Eq.trans rfl rfl
theorem JM{l:List St}:cHs [] l=True:=by cases l<;>simp[cHs]
theorem D5{x:St}:my [x]=x:=Eq.trans rfl rfl
theorem D6{x b:St}{r:List St}:my (x::b::r)=my (b::r):=Eq.trans rfl rfl
end
end Go.Av
