/- A framework of abstract values: no program in sight; under the conditions named at each theorem. -/
import Derived.Test.YtekcidbpejicdaaGreatDoorZaP3
namespace Go.Av
set_option linter.unusedVariables false
set_option linter.unusedSimpArgs false
open Go.RowKit (Below)
section
variable{P:Program} {n m:Nat} {R:Option Nat} {a:St} {Q:Ex→St→Prop} {ops:Array Oper}
end
def sr:OB→OB→Bool
 | .cells a x,.cells b y=>nP a b&&x==y
 | .dead,.dead=>true
 |_,_=>false
def eqH:List OB→List OB→Bool
 | [],[]=>true
 |a::l,b::m=>sr a b&&eqH l m
 |_,_=>false
theorem DP:∀{a b:OB},sr a b=true→a=b
 | .cells a x,b,h=>by
  cases b<;>simp[sr]at h;rename_i c y;obtain⟨h1,h2⟩:=h;rw[gx h1,h2]
 | .dead,b,h=>by cases b<;>simp_all[sr]
 | .map _ _,b,h=>by simp[sr]at h
 | .loop _ _,b,h=>by simp[sr]at h
 | .dfr,b,h=>by simp[sr]at h
 | .iter _ _ _,b,h=>by simp[sr]at h
 | .siter _ _,b,h=>by simp[sr]at h
theorem A3:∀{a b:List OB},eqH a b=true→a=b
 | [],b,h=>by cases b<;>simp_all[eqH]
 |x::l,b,h=>by
  cases b with
  |nil=>simp[eqH]at h
  |cons y m=>simp only[eqH,Bool.and_eq_true]at h;rw[DP h.1,A3 h.2]
def chk(C:List (Nat×AV))(H:List OB)(b:St):Bool:=
 (C.all fun p=>eqA (get b.T p.1) p.2)&&eqH b.H H&&b.D.isEmpty
theorem mR{T:List (Nat×AV)}:∀{C:List (Nat×AV)},(C.all fun p=>eqA (get T p.1) p.2)=true→aB T C
 | [],_=>trivial
 |(t,v)::r,h=>by
  simp only[List.all_cons,Bool.and_eq_true]at h;exact⟨rU h.1,mR h.2⟩
def A4:yV:={pm:=fun f=>false,gm:=fun _=>false,conP:=fun _ _=>none,conS:=fun _ _ _=>none,fuel:=2000}
theorem W.runs {P:Program} {n m:Nat} {c:Code} {Q:Ex→St→Prop} {a:St} (hm:P.follows .mixedOrders=true) (hN:Enters P) (d:Nat) (C:List (Nat×AV)) (H:List OB)
    (h:(match gl P (cZ P A4 d) A4.pm n false 2000 c a with|some (.normal,b)=>chk C H b|_=>false)=true)
    (hq:Q .normal ⟨C,H,[]⟩∨ ∀b:St,aB b.T C→b.H=H→b.D=[]→Q .normal b):W P n m none c Q a:=by
  have hY:jW P A4:=⟨hm,hN,fun f args out h=>(by cases h),fun f args H out H' h=>(by cases h)⟩
  obtain⟨h1,h2,h3⟩:=oN hY d;split at h
  case h_2=>cases h
  rename_i b hb;have hw:=rV (m:=m) (R:=none) hm h1 h2 h3 (inr:=false) (fun _=>rfl) 2000 c a _ hb;simp only[chk,Bool.and_eq_true]at h;obtain⟨⟨g1,g2⟩,g3⟩:=h;have e2:=A3 g2;have e3:b.D=[]:=by simpa using g3
  rcases hq with hq|hq
  · intro B act w r
    refine wpIn_mono (hw B act w r) ?_;rintro e act' w' ⟨ex,a',F,μ,⟨h8,h9⟩,x,s,y,t⟩;simp only at h8 h9;subst h8;rw[h9]at s t;obtain⟨F',μ',s',y',t'⟩:=Rel.bQ (b:=⟨C,H,[]⟩) (a:=b) (mR g1) e2.symm e3.symm ⟨F,μ,s,y,t⟩;cases x with
    |normal=>exact⟨.normal,_,F',μ',hq,.normal,s',y',t'⟩
  · refine hw.mono ?_
    rintro ex b' ⟨rfl,rfl⟩;exact hq _ (mR g1) e2 e3
mutual
theorem A5{m:Nat}:∀{v:AV},v.hf=true→v.hlt m=true
 | .ptr _ _,h| .sl _ _ _ _,h| .map _,h| .yld _,h=>by simp[AV.hf]at h
 | .vptr l,h=>by simp only[AV.hf]at h;simp only[AV.hlt];exact dm h
 | .vsl _ _ l,h=>by simp only[AV.hf]at h;simp only[AV.hlt];exact dm h
 | .vmap ks vs,h=>by
  simp only[AV.hf,Bool.and_eq_true]at h;simp only[AV.hlt,Bool.and_eq_true];exact⟨dm h.1,dm h.2⟩
 | .func _ fs cs,h=>by
  simp only[AV.hf,Bool.and_eq_true]at h;simp only[AV.hlt,Bool.and_eq_true];exact⟨dm h.1,dm h.2⟩
 | .iface _ v,h=>by simp only[AV.hf]at h;simp only[AV.hlt];exact A5 h
 | .agg l,h=>by simp only[AV.hf]at h;simp only[AV.hlt];exact dm h
 | .tup l,h=>by simp only[AV.hf]at h;simp only[AV.hlt];exact dm h
 | .junk,_| .bool _,_| .int _ _,_| .str _,_| .nilptr,_| .nilmap,_| .nilsl,_| .nilfunc,_| .nilif,_=>rfl
theorem dm{m:Nat}:∀{l:List AV},AV.hfs l=true→AV.bS m l=true
 | [],_=>rfl
 |v::l,h=>by
  simp only[AV.hfs,Bool.and_eq_true]at h;simp only[AV.bS,Bool.and_eq_true];exact⟨A5 h.1,dm h.2⟩
end
theorem aF(l:List Bytes):AV.hfs (l.map AV.str)=true:=by
 rw[be,List.all_eq_true];intro v hv;obtain⟨r,_,rfl⟩:=List.mem_map.1 hv;rfl
theorem cA(m:Nat)(l:List Bytes):AV.bS m (l.map AV.str)=true:=dm (aF l)
theorem eo(l:List Bytes):(l.map AV.str).all AV.one=true:=by
 rw[List.all_eq_true];intro v hv;obtain⟨r,_,rfl⟩:=List.mem_map.1 hv;rfl
theorem dT(l:List Bytes):(l.map AV.str).flatMap AV.cells=l.map AV.str:=by
 induction l with
 |nil=>rfl
 |cons a l ih=>simp only[List.map_cons,List.flatMap_cons,ih];rfl
theorem cJ{H:List OB}{k:Nat}{v:AV}(h:v.hf=true):fz H (k+1) v=some v:=by
 unfold fz;rw[if_pos h]
theorem gn:((0:Nat):Int)=0:=rfl
theorem gq:((1:Nat):Int)=1:=rfl
theorem cz(v:AV):Le v v=True:=eq_true (.refl v)
theorem fK{T:List (Nat×AV)}{t:Nat}{v:AV}:∀{C:List (Nat×AV)},C.all (fun p=>p.1 !=t)=true→cM T C→cM ((t,v)::T) C
 | [],_,_=>trivial
 |(s,u)::C,h,hs=>by
  simp only[List.all_cons,Bool.and_eq_true,bne_iff_ne]at h;simp only[cM]at hs ⊢;refine⟨?_,fK h.2 hs.2⟩;simp only[get];rw[if_neg (fun e=>h.1 e.symm)];exact hs.1
theorem nQ{P:Program}{rs:List ResultVar}{a:St}{v u v':AV}(t:Nat)(hr:rs=[.tmp t])(hD:a.D=[])(hg:Av.get a.T t=v)(hz:fz a.H 20 v=some u)(hl:Le u v'):fp P rs (.ret v') .ret a:=by
 obtain⟨T,H,D⟩:=a;simp only at hD hg hz;subst hD;subst hr;subst hg;exact⟨_,rfl,u,hz,hl⟩
theorem wh{P:Program}{rs:List ResultVar}{a:St}{v v':AV}(t:Nat)(hr:rs=[.tmp t])(hD:a.D=[])(hg:Av.get a.T t=v)(hv:v.hf=true)(hl:Le v v'):fp P rs (.ret v') .ret a:=
 nQ t hr hD hg (cJ hv) hl
theorem W.Gz {P:Program} {n m:Nat} {R:Option Nat} {a:St} {Q:Ex→St→Prop} {k1 k2 e ty ty1 ty2:Nat} {o1 o2 o3:Oper} {body:Code} (tI tL tC tU:Nat) (L:Nat) (hL:L≤ay)
    (d1:o1.dst=some tC) (p1:o1.op=.binOp .lss ty (.tmp tI) (.tmp tL) ty1) (g1:o1.guard=none)
    (d2:o2.dst=some tU) (p2:o2.op=.binOp .add ty (.tmp tI) (.const (.int .i64 1)) ty2) (g2:o2.guard=none)
    (d3:o3.dst=some tI) (p3:o3.op=.move (.tmp tU)) (g3:o3.guard=none)
    (hf1:fits n #[o1]=true) (hf2:fits n #[o2,o3]=true)
    (ne:(tI !=tL&&tI !=tC&&tL !=tC&&tU !=tI&&tU !=tL)=true)
    (C:Nat→List (Nat×AV)) (hC: ∀i,(C i).all (fun p=>p.1 !=tI&&p.1 !=tU&&p.1 !=tC)=true) (Hx:Nat→List OB) (hm: ∀i,m≤(Hx i).length) (ok:Nat→Prop)
    (hD:a.D=[]) (h0:ok 0) (hT:cM a.T ((tI,.int .i64 0)::(tL,.int .i64 L)::C 0)) (hh: ∀i,ok i→eg (Hx i).length (C i)=true) (hH:cd (Hx 0).length a.H (Hx 0))
    (round: ∀i,i<L→ok i→W P n m R body (ak (fun a'=>ok (i+1)∧cM a'.T ((tI,.int .i64 i)::(tL,.int .i64 L)::C (i+1))∧cd (Hx (i+1)).length a'.H (Hx (i+1))∧a'.D=[]) Q) ⟨(tC,.bool true)::(tI,.int .i64 i)::(tL,.int .i64 L)::C i,Hx i,[]⟩)
    (behind:ok L→Q (.exit e) ⟨(tC,.bool false)::(tI,.int .i64 L)::(tL,.int .i64 L)::C L,Hx L,[]⟩):
    W P n m R (.loop (.seq (.region k1 #[o1] false) (.seq (.cond (.tmp tC) .skip (.exit e)) (.seq body (.region k2 #[o2,o3] false))))) Q a:=by
  simp only[Bool.and_eq_true,bne_iff_ne]at ne;obtain⟨⟨⟨⟨n1,n2⟩,n3⟩,n4⟩,n5⟩:=ne;have hC': ∀i,(C i).all (fun p=>p.1 !=tI)=true∧(C i).all (fun p=>p.1 !=tU)=true∧(C i).all (fun p=>p.1 !=tC)=true:=by
    intro i;have h:=hC i;rw[List.all_eq_true]at h;refine⟨?_,?_,?_⟩<;>rw[List.all_eq_true]<;>intro p hp<;>have:=h p hp<;>simp only[Bool.and_eq_true]at this
    · exact this.1.1
    · exact this.1.2
    · exact this.2
  have refl: ∀(Z:List (Nat×AV)),cM Z []:=fun _=>trivial;refine .xw (X:=Nat) (fun i=>(tI,.int .i64 i)::(tL,.int .i64 L)::C i) Hx (fun i=>i≤L∧ok i) (fun i=>L - i) 0 hm hD ⟨Nat.zero_le _,h0⟩ hT (by simp only[eg,AV.hlt,Bool.true_and];exact hh 0 h0) hH ?_;rintro i ⟨hi,hok⟩;refine .seq (.region [] hf1 ?_);by_cases h:i<L
  · have hd:decide ((i:Int)<(L:Int))=true:=decide_eq_true (by omega)
    simp only[ao,gdA,ae,ad,au,ai,evalOp,St.ev,Av.get,St.put,ak,g1,p1,d1,cr,hd,↓reduceIte,n1];refine .seq (.cond (t:=true) (by simp[St.ev,Av.get]) (.skip ?_));simp only[ak];refine .seq ((round i h hok).mono ?_);intro ex b hq;cases ex with
    | normal=>
      obtain⟨q1,q2,q3,q4⟩:=hq;obtain⟨T,K,D⟩:=b;simp only at q2 q3 q4;subst q4;simp only[cM]at q2;obtain⟨r1,r2,r3⟩:=q2;have e1:Av.get T tI=.int .i64 (i:Int):=by generalize Av.get T tI=v at r1;cases r1;rfl
      have hadd:aW P .add ty (.int .i64 (i:Int)) (.int .i64 1)=some (.int .i64 ((i+1:Nat):Int)):=by
        rw[du _ _ (by simp only[ay]at hL;omega)];simp
      refine .region [] hf2 ?_;have n4': ¬tU=tI:=n4;simp only[ao,gdA,ae,ad,au,ai,evalOp,St.ev,Av.get,St.put,ak,g2,p2,d2,g3,p3,d3,e1,ofV,hadd,↓reduceIte,List.cons.injEq,Option.map_some];refine⟨i+1,⟨h,q1⟩,by omega,?_,?_,q3,trivial⟩
      · refine⟨?_,?_,?_⟩
        · simp only[Av.get,↓reduceIte];exact .refl _
        · simp only[Av.get]
          rw[if_neg n1,if_neg n5];exact r2
        · exact fK (hC' (i+1)).1 (fK (hC' (i+1)).2.1 r3)
      · simp only[eg,AV.hlt,Bool.true_and];exact hh _ q1
    |exit _=>exact hq
    |goto _=>exact hq
    |ret=>exact hq
    |panic _ _=>exact hq
  · have hi':i=L:=by omega
    subst hi';simp only[ao,gdA,ae,ad,au,ai,evalOp,St.ev,Av.get,St.put,ak,g1,p1,d1,cr,Int.lt_irrefl,decide_false,↓reduceIte,n1];refine .seq (.cond (t:=false) (by simp[St.ev,Av.get]) (.exit ?_));exact behind hok
theorem W.GA {P:Program} {n m:Nat} {R:Option Nat} {a:St} {Q:Ex→St→Prop} {k2 e ty2 ty:Nat} {o2 o3 o4:Oper} {head body:Code} (tI tC tA tB:Nat) (s L:Nat) (hL:L≤ay) (hsL:s≤L)
    (d2:o2.dst=some tA) (p2:o2.op=.move (.tmp tI)) (g2:o2.guard=none)
    (d3:o3.dst=some tB) (p3:o3.op=.binOp .add ty (.tmp tA) (.const (.int .i64 1)) ty2) (g3:o3.guard=none)
    (d4:o4.dst=some tI) (p4:o4.op=.assign (.tmp tB)) (g4:o4.guard=none)
    (hf2:fits n #[o2,o3,o4]=true)
    (C:Nat→List (Nat×AV)) (hC: ∀i,(C i).all (fun p=>p.1 !=tI&&p.1 !=tA&&p.1 !=tB)=true) (Hx:Nat→List OB) (hm: ∀i,m≤(Hx i).length) (ok:Nat→Prop)
    (hD:a.D=[]) (h0:ok s) (hT:cM a.T ((tI,.int .i64 s)::C s)) (hh: ∀i,ok i→eg (Hx i).length (C i)=true) (hH:cd (Hx s).length a.H (Hx s))
    (hd: ∀i,i≤L→ok i→W P n m R head (ak (fun a'=>Av.get a'.T tC=.bool (decide (i<L))∧cM a'.T ((tI,.int .i64 i)::C i)∧cd (Hx i).length a'.H (Hx i)∧a'.D=[]) Q) ⟨(tI,.int .i64 i)::C i,Hx i,[]⟩)
    (round: ∀i,i<L→ok i→W P n m R body (ak (fun a'=>ok (i+1)∧cM a'.T ((tI,.int .i64 i)::C (i+1))∧cd (Hx (i+1)).length a'.H (Hx (i+1))∧a'.D=[]) Q) ⟨(tI,.int .i64 i)::C i,Hx i,[]⟩)
    (behind:ok L→Q (.exit e) ⟨(tC,.bool false)::(tI,.int .i64 L)::C L,Hx L,[]⟩):
    W P n m R (.loop (.seq (.seq head (.cond (.tmp tC) .skip (.exit e))) (.seq body (.region k2 #[o2,o3,o4] false)))) Q a:=by
  have hC': ∀i,(C i).all (fun p=>p.1 !=tI)=true∧(C i).all (fun p=>p.1 !=tA)=true∧(C i).all (fun p=>p.1 !=tB)=true:=by
    intro i;have h:=hC i;rw[List.all_eq_true]at h;refine⟨?_,?_,?_⟩<;>rw[List.all_eq_true]<;>intro p hp<;>have:=h p hp<;>simp only[Bool.and_eq_true]at this
    · exact this.1.1
    · exact this.1.2
    · exact this.2
  refine .xw (X:=Nat) (fun i=>(tI,.int .i64 i)::C i) Hx (fun i=>i≤L∧ok i) (fun i=>L - i) s hm hD ⟨hsL,h0⟩ hT (by simp only[eg,AV.hlt,Bool.true_and];exact hh s h0) hH ?_;rintro i ⟨hi,hok⟩;have hbody:i<L→W P n m R (.seq body (.region k2 #[o2,o3,o4] false)) (ak (fun a'=> ∃y,(y≤L∧ok y)∧L - y<L - i∧cM a'.T ((tI,.int .i64 y)::C y)∧eg (Hx y).length ((tI,.int .i64 y)::C y)=true∧cd (Hx y).length a'.H (Hx y)∧a'.D=[]) Q) ⟨(tI,.int .i64 i)::C i,Hx i,[]⟩:=by
    intro h;refine .seq ((round i h hok).mono ?_);intro ex b hq;cases ex with
    | normal=>
      obtain⟨q1,q2,q3,q4⟩:=hq;obtain⟨T,K,D⟩:=b;simp only at q2 q3 q4;subst q4;simp only[cM]at q2;obtain⟨r1,r3⟩:=q2;have e1:Av.get T tI=.int .i64 (i:Int):=by generalize Av.get T tI=v at r1;cases r1;rfl
      have hadd:aW P .add ty (.int .i64 (i:Int)) (.int .i64 1)=some (.int .i64 ((i+1:Nat):Int)):=by
        rw[du _ _ (by simp only[ay]at hL;omega)];simp
      refine .region [] hf2 ?_;simp only[ao,gdA,ae,ad,au,ai,evalOp,St.ev,Av.get,St.put,ak,g2,p2,d2,g3,p3,d3,g4,p4,d4,e1,ofV,hadd,↓reduceIte,List.cons.injEq,Option.map_some];refine⟨i+1,⟨h,q1⟩,by omega,?_,?_,q3,trivial⟩
      · refine⟨?_,?_⟩
        · simp only[Av.get,↓reduceIte];exact .refl _
        · exact fK (hC' (i+1)).1 (fK (hC' (i+1)).2.2 (fK (hC' (i+1)).2.1 r3))
      · simp only[eg,AV.hlt,Bool.true_and];exact hh _ q1
    |exit _=>exact hq
    |goto _=>exact hq
    |ret=>exact hq
    |panic _ _=>exact hq
  refine .seq (.seq ((hd i hi hok).mono ?_));intro ex b hq;cases ex with
  | normal=>
    obtain⟨q1,q2,q3,q4⟩:=hq;obtain⟨T,K,D⟩:=b;simp only at q1 q2 q3 q4;subst q4;by_cases h:i<L
    · refine .cond (t:=true) (by show Av.get T tC=_;rw[q1];simp[h]) (.skip ?_)
      exact W.weaken ⟨(tI,.int .i64 i)::C i,Hx i,[]⟩ ⟨rfl,rfl⟩ (hm i) q2 (by simp only[eg,AV.hlt,Bool.true_and];exact hh i hok) q3 (hbody h)
    · refine W.weaken ⟨(tC,.bool false)::(tI,.int .i64 i)::C i,Hx i,[]⟩ ⟨rfl,rfl⟩ (hm i) ⟨by rw[q1];simp only[h,decide_false,Av.get,↓reduceIte];exact .refl _,q2⟩ (by simp only[eg,AV.hlt,Bool.true_and];exact hh i hok) q3 ?_
      refine .cond (t:=false) (by simp[St.ev,Av.get]) (.exit ?_);have hi':i=L:=by omega
      subst hi';exact behind hok
  |exit _=>exact hq
  |goto _=>exact hq
  |ret=>exact hq
  |panic _ _=>exact hq
section
variable{α:Type}
def grow(B:List OB)(f:α→AV):List α→List OB
 | []=>B
 |x::t=>B++(List.replicate t.length .dead++[.cells (((x::t).map f).flatMap AV.cells) true])
theorem zc{wd:Nat}{l:List AV}(h:∀v∈l,v.cells.length=esz wd):(l.flatMap AV.cells).length=l.length*esz wd:=by
 induction l with
 |nil=>simp
 |cons v l ih=>
  rw[List.flatMap_cons,List.length_append,h v (by simp),ih (fun u hu=>h u (List.mem_cons_of_mem _ hu)),List.length_cons,Nat.add_mul,Nat.one_mul,Nat.add_comm]
theorem ee{m:Nat}:∀{H:List OB},H.all (OB.hlt m)=true→cd m H H
 | [],_=>trivial
 |b::H,h=>by
  simp only[List.all_cons,Bool.and_eq_true]at h;cases b<;>simp only[cd]<;>first|exact⟨trivial,h.1,ee h.2⟩|exact ee h.2
end
section
variable{α:Type}
def aU(f:α→AV)(L:List α):List AV:=(L.map f).flatMap AV.cells
theorem fL(f:α→AV)(L:List α)(x:α):aU f (L++[x])=aU f L++(f x).cells:=by simp[aU]
theorem zd(f:α→AV)(x:α):aU f [x]=(f x).cells:=by simp[aU]
theorem eL{f:α→AV}{wd:Nat}(hf:∀x,(f x).cells.length=esz wd)(L:List α):(aU f L).length=L.length*esz wd:=by
 rw[aU,zc (wd:=wd) (by intro v hv;obtain⟨a,_,rfl⟩:=List.mem_map.1 hv;exact hf a)];simp
def kN(wd:Nat)(f:α→AV)(M:List OB)(v:AV)(L:List α):Prop:=
 (L=[]∧∃w,v=.vsl w true [])∨(∃d,v=.sl d 0 L.length wd∧M[d]? =some (.cells (aU f L) true))
theorem il {P:Program} {sT e:TypeId} {wd bytes:Nat} (hu:P.underlying sT=some (.slice e)) (ha:apT P e=some (esz wd,wd,bytes)) (f:α→AV) (hf: ∀x,(f x).cells.length=esz wd) (hc: ∀x,(f x).cells.all AV.isC=true) (hz:0<esz wd)
    {M:List OB} {v:AV} {L:List α} (h:kN wd f M v L) (x:α) (y:Bool) (hb:(L.length+1)*bytes≤2^47):
    ∃M',aG P sT sT v (.vsl wd y [f x]) M=some (.sl M.length 0 (L.length+1) wd,M')∧M'.length=M.length+1∧M'[M.length]? =some (.cells (aU f (L++[x])) true)∧ ∀i,i<M.length→v≠ .sl i 0 L.length wd→M'[i]? =M[i]? :=by
  have hnew:bW (esz wd) (.vsl wd y [f x])=fun H=>some (1,(f x).cells):=by funext H;simp[bW]
  rcases h with⟨rfl,w,rfl⟩|⟨d,rfl,hd⟩
  · have hold:bW (esz wd) (.vsl w true [])=fun H=>some (0,[]):=by funext H;simp[bW]
    refine⟨M++[.cells (f x).cells true],?_,by simp,by simp[zd],fun i hi _=>List.getElem?_append_left hi⟩;simp only[aG,hu,apX,ha,ch,hnew,hold,List.nil_append,List.length_nil,Nat.zero_add];rw[if_neg (by omega),if_pos (by simpa using hb)]
  · have hlen:(aU f L).length=L.length*esz wd:=eL hf L
    have hdl:d<M.length:=(List.getElem?_eq_some_iff.1 hd).1;have hnot: ¬((L.length+1)*esz wd≤(aU f L).length):=by rw[hlen,Nat.add_mul];omega
    refine⟨M.set d .dead++[.cells (aU f L++(f x).cells) true],?_,by simp,?_,?_⟩
    · simp only[aG,hu,apX,ha,ch,hnew,hd]
      rw[if_pos ⟨trivial,hc x,hb,by rw[hlen];omega⟩];rw[hlen]at hnot;simp only[Nat.zero_add,hlen,if_true,List.drop_zero];rw[if_neg hnot]
    · rw[List.getElem?_append_right (by simp),fL];simp
    · intro i hi hne
      rw[List.getElem?_append_left (by simpa using hi),List.getElem?_set,if_neg];rintro rfl;exact hne rfl
theorem ze{wd:Nat}{f:α→AV}(hf:∀x,(f x).cells.length=esz wd){M:List OB}{v:AV}{L:List α}(h:kN wd f M v L):bW (esz wd) v M=some (L.length,aU f L):=by
 rcases h with⟨rfl,w,rfl⟩|⟨d,rfl,hd⟩
 ·simp[bW,aU]
 ·have hlen:(aU f L).length=L.length*esz wd:=eL hf L
  simp only[bW,hd];rw[if_pos ⟨trivial,by omega⟩,List.drop_zero,List.take_of_length_le (by omega)]
theorem oX{wd n:Nat}(hn:0<n):∀(l:List AV),(∀v∈l,∃cs,v=.agg cs∧cs.length=n)→fP n l.length (l.flatMap AV.cells)=l
 | [],_=>rfl
 |v::l,h=>by
  obtain⟨cs,rfl,hc⟩:=h v (by simp);have hcell:AV.cells (.agg cs)=cs:=rfl;rw[List.length_cons,List.flatMap_cons,hcell,fP];rw[List.take_left' hc,List.drop_left' hc,oX (wd:=wd) hn l (fun u hu=>h u (List.mem_cons_of_mem _ hu))]
theorem ob{f:α→AV}{n k:Nat}{M:List OB}{v:AV}{L:List α}(hn:0<n)(hf:∀x,∃cs,f x=.agg cs∧cs.length=n)(hh:∀x,AV.hfs (f x).cells=true)(h:kN (n+1) f M v L):∃u,fz M (k+1) v=some u∧Le u (.vsl (n+1) false (L.map f)):=by
 rcases h with⟨rfl,w,rfl⟩|⟨d,rfl,hd⟩
 ·exact⟨_,rfl,.nil _ _ _⟩
 ·refine⟨.vsl (n+1) false (L.map f),?_,.refl _⟩
  have hlen:(aU f L).length=L.length*esz (n+1):=eL (wd:=n+1) (fun x=>by obtain⟨cs,h1,h2⟩:=hf x;rw[h1];exact h2) L;have hhf:AV.hfs (aU f L)=true:=by
   rw[be,aU,List.all_flatMap,List.all_eq_true];intro u hu;obtain⟨a,_,rfl⟩:=List.mem_map.1 hu;rw[←be];exact hh a
  have ht:((aU f L).drop 0).take (L.length*esz (n+1))=aU f L:=by rw[List.drop_zero,List.take_of_length_le (by omega)]
  have hck:fP n L.length (aU f L)=L.map f:=by
   have:=oX (wd:=0) hn (L.map f) (by intro u hu;obtain⟨a,_,rfl⟩:=List.mem_map.1 hu;exact hf a);simpa[aU]using this
  unfold fz;rw[if_neg (by simp[AV.hf])];simp only[hd,ht,hhf,if_true];rw[if_pos (by omega)];simp only[Option.bind_some,hck]
end
section
variable{P:Program} {n m:Nat} {R:Option Nat} {Q:Ex→St→Prop} {a:St}
def RO(P:Program)(n m:Nat)(R:Option Nat)(ops:Array Oper)(Q:Ex→St→Prop)(l:List Oper)(a:St):Prop:=
 ∀k,(∀i o,l[i]? =some o→ops[k+i]? =some o)→∀(B:Bs m) (act:Act) (w:World),Rel n B a act w→wpOpsIn (fnc R) 1 P ops (dS n B Q) (List.range' k l.length) act w
theorem RO.step{ops:Array Oper}{o:Oper}{rest:List Oper}(rs:List CR)(hf:fits n ops=true)(h:ao P ops (ak (RO P n m R ops Q rest) Q) rs [o] a):RO P n m R ops Q (o::rest) a:=by
 intro k hk B act w r
 have:=oI (P:=P) (R:=R) (Q:=Q) (Q':=ak (RO P n m R ops Q rest) Q) (B:=B) (List.range' (k+1) rest.length) (dj hf) ?_ (fun _ _ _ h=>h) [o] k rs a act w (fun i o' hi=>by
  cases i with
  |zero=>exact hk 0 o' (by simpa using hi)
  |succ i=>simp at hi) h r
 ·rw[List.length_cons,List.range'_succ];exact this
 ·intro a' act' w' hq hr
  refine hq _ (fun i o' hi=>?_) B act' w' hr;rw[show k+1+i=k+(i+1)from by omega];exact hk (i+1) o' (by simpa using hi)
theorem RO.done{ops:Array Oper}(h:Q .normal a):RO P n m R ops Q [] a:=
 fun k hk B act w ⟨F,μ,s,y,t⟩=>⟨_,a,F,μ,h,.normal,s,y,t⟩
theorem W.xE{id:Nat}{ops:Array Oper}(h:RO P n m R ops Q ops.toList a):W P n m R (.region id ops false) Q a:=by
 intro B act w r;refine wpIn_region ?_;have:=h 0 (fun i o hi=>by rw[Nat.zero_add,←Array.getElem?_toList];exact hi) B act w r;rw[Array.length_toList,←List.range_eq_range']at this;exact this
def VK(K:St→Prop)(Q:Ex→St→Prop)(dst:Option Nat)(a:St):Out→List OB→Prop
 | .ret r,H'=>K ({a with H:=H'}.put dst r)
 | .pan t v,H'=>Q (.panic t v) {a with H:=H'}
def aj(P:Program)(c:Cl)(args:List AV)(dst:Option Nat)(a:St)(K:St→Prop)(Q:Ex→St→Prop):Prop:=
 (∃out H',ji P c args a.H out H'∧VK K Q dst a out H')∨
 (∃f S,c=.fn f∧bt P f args a.H S∧∀out H',S out H'→VK K Q dst a out H')
def VV(r:Option (AV×List OB))(dst:Option Nat)(a:St)(K:St→Prop):Prop:=
 match r with
 |some (v,H')=>K ({a with H:=H'}.put dst v)
 |none=>False
def VA(K:St→Prop)(dst:Option Nat)(a:St):Prop:=∀b:Bool,K (a.put dst (.bool b))
def VN(K:St→Prop)(dst:Option Nat)(id:Nat)(ks vs:List AV)(seen:List Nat)(a:St):Prop:=∀v H',qI a.H id ks vs seen v H'→K ({a with H:=H'}.put dst v)
def VP(Q:Ex→St→Prop)(v:AV)(a:St):Prop:=
 match v with
 | .iface t v=>Q (.panic t v) a
 |_=>False
def VS (P:Program) (K:St→Prop) (Q:Ex→St→Prop) (dst:Option Nat) (op:Op) (a:St):Prop:=
 match ae a op with
 |some (c,args)=>aj P c args dst a K Q
 | none=>match ad op with
  |some x=>VP Q (a.ev x) a
  | none=>match ai op a.ev a.H with
   |some (id,ks,vs,seen)=>VN K dst id ks vs seen a
   |none=>match au P op a with
    |true=>VA K dst a
    |false=>VV (evalOp P op a) dst a K
def VG(P:Program)(K:St→Prop)(Q:Ex→St→Prop)(dst:Option Nat)(op:Op)(a:St):Option Bool→Prop
 |none=>False
 |some false=>K (a.put dst (.tup []))
 |some true=>VS P K Q dst op a
def VO(P:Program)(ops:Array Oper)(Q:Ex→St→Prop):List Oper→St→Prop
 | [],a=>Q .normal a
 |o::rest,a=>VG P (VO P ops Q rest) Q o.dst o.op a (gdA ops a o.guard)
def VC(P:Program)(n m:Nat)(R:Option Nat):Code→(Ex→St→Prop)→St→Prop
 | .skip,Q,a=>Q .normal a
 | .seq x y,Q,a=>VC P n m R x (ak (VC P n m R y Q) Q) a
 | .cond c x y,Q,a=>∃t,a.ev c=.bool t∧(if t then VC P n m R x Q a else VC P n m R y Q a)
 | .block id c,Q,a=>VC P n m R c (bl id Q) a
 | .exit id,Q,a=>Q (.exit id) a
 | .goto l,Q,a=>Q (.goto l) a
 | .ret,Q,a=>Q .ret a
 | .label l,Q,a=>Q .normal a
 | .region id ops false,Q,a=>VO P ops Q ops.toList a
 |c,Q,a=>W P n m R c Q a
def VI(P:Program)(n m:Nat)(R:Option Nat)(v:AV)(x y:Code)(Q:Ex→St→Prop)(a:St):Prop:=∃t,v=.bool t∧(if t then VC P n m R x Q a else VC P n m R y Q a)
def nv(n:Nat):Code→Bool
 | .seq x y=>nv n x&&nv n y
 | .cond c x y=>nv n x&&nv n y
 | .block id c=>nv n c
 | .region id ops false=>fits n ops
 |_=>true
theorem ao.mono{ops:Array Oper}{Q Q':Ex→St→Prop}(hq:∀ex a,Q ex a→Q' ex a){o:Oper}{rs:List CR}(h:ao P ops Q rs [o] a):ao P ops Q' rs [o] a:=by
 unfold ao at h ⊢;split at h
 ·exact h
 ·exact hq _ _ h
 ·split at h
  ·split at h
   ·split at h
    ·split at h
     ·refine⟨h.1,?_⟩
      have h2:=h.2;split at h2<;>exact hq _ _ h2
     ·exact h
    ·exact h
    ·split at h
     ·split at h
      ·refine⟨h.1,?_⟩
       have h2:=h.2;split at h2<;>exact hq _ _ h2
      ·exact h
     ·exact h
   ·refine⟨h.1,?_⟩
    have h2:=h.2;split at h2<;>exact hq _ _ h2
   ·split at h
    ·refine⟨h.1,fun out H' hs=>?_⟩
     have h2:=h.2 out H' hs;split at h2<;>exact hq _ _ h2
    ·exact h
    ·split at h
     ·refine⟨h.1,fun out H' hs=>?_⟩
      have h2:=h.2 out H' hs;split at h2<;>exact hq _ _ h2
     ·exact h
   ·exact h
  ·split at h
   ·split at h
    ·exact hq _ _ h
    ·exact h
   ·split at h
    ·exact fun v H' hn=>hq _ _ (h v H' hn)
    ·split at h
     ·exact fun b=>hq _ _ (h b)
     ·split at h
      ·exact hq _ _ h
      ·exact h
theorem VO.step{ops:Array Oper}{o:Oper}{rest:List Oper}(h:VO P ops Q (o::rest) a):∃rs,ao P ops (ak (VO P ops Q rest) Q) rs [o] a:=by
 simp only[VO]at h;unfold ao;cases hg:gdA ops a o.guard with
 |none=>rw[hg]at h;exact h.elim
 | some b=>
  rw[hg]at h;cases b with
  |false=>exact⟨[],h⟩
  | true=>
   simp only[VG,VS]at h;cases hc:ae a o.op with
   | some c=>
    obtain⟨c,args⟩:=c;rw[hc]at h;simp only at h;rcases h with⟨out,H',h1,h2⟩|⟨f,S,rfl,h1,h2⟩
    ·refine⟨[.sh out H'],h1,?_⟩
     cases out<;>exact h2
    ·refine⟨[.any S],h1,?_⟩
     intro out H' hs;have:=h2 out H' hs;cases out<;>exact this
   | none=>
    rw[hc]at h;refine⟨[],?_⟩;simp only at h ⊢;split
    ·rename_i x hx
     rw[hx]at h;simp only[VP]at h;split<;>rename_i hv<;>simp only[hv]at h;exact h
    ·rename_i hx
     rw[hx]at h;simp only at h;split
     ·rename_i q1 q2 q3 q4 q5 hn
      rw[hn]at h;exact h
     ·rename_i hn
      rw[hn]at h;simp only at h;split
      ·rename_i ht
       rw[ht]at h;exact h
      ·rename_i ht
       rw[ht]at h;simp only[VV]at h;split
       ·rename_i he;rw[he]at h;exact h
       ·rename_i he;rw[he]at h;exact h
theorem VO.ro{ops:Array Oper}(hf:fits n ops=true):∀{l:List Oper} {a:St},VO P ops Q l a→RO P n m R ops Q l a:=by
 intro l;induction l with
 |nil=>intro a h;exact RO.done h
 |cons o rest ih=>
  intro a h;obtain⟨rs,h⟩:=h.step;refine RO.step rs hf (h.mono fun ex a hq=>?_);cases ex<;>first|exact ih hq|exact hq
theorem W.vc{c:Code}(hf:nv n c=true)(h:VC P n m R c Q a):W P n m R c Q a:=by
 induction c generalizing Q a with
 |skip=>exact .skip h
 |region id ops draw=>
  cases draw with
  |false=>exact W.xE (VO.ro hf h)
  |true=>exact h
 |seq x y ihx ihy=>
  simp only[nv,Bool.and_eq_true]at hf;refine .seq (W.mono (ihx hf.1 h) fun ex a hq=>?_);cases ex<;>first|exact ihy hf.2 hq|exact hq
 |cond c x y ihx ihy=>
  simp only[nv,Bool.and_eq_true]at hf;obtain⟨t,h1,h2⟩:=h;refine .cond (t:=t) h1 ?_;cases t
  ·exact ihy hf.2 h2
  ·exact ihx hf.1 h2
 |block id c ih=>exact .block (ih hf h)
 |exit id=>exact .exit h
 |goto l=>exact .goto h
 |ret=>exact .ret h
 |label l=>exact .label h
 |loop _ _=>exact h
 |rangeFunc _ _ _ _ _ _=>exact h
 |scope _ _=>exact h
 |refuse _=>exact h
end
section
variable{P:Program} {n m:Nat} {R:Option Nat} {Q:Ex→St→Prop} {a:St} {K:St→Prop} {dst:Option Nat}
theorem fJ:VC P n m R .skip Q a=Q .normal a:=Eq.trans rfl rfl
theorem ep{x y:Code}:VC P n m R (.seq x y) Q a=VC P n m R x (ak (VC P n m R y Q) Q) a:=Eq.trans rfl rfl
theorem db{c:Operand}{x y:Code}:VC P n m R (.cond c x y) Q a=VI P n m R (a.ev c) x y Q a:=Eq.trans rfl rfl
theorem fS{id:Nat}{c:Code}:VC P n m R (.block id c) Q a=VC P n m R c (bl id Q) a:=Eq.trans rfl rfl
theorem od{id:Nat}:VC P n m R (.exit id) Q a=Q (.exit id) a:=Eq.trans rfl rfl
theorem DQ{l:Nat}:VC P n m R (.goto l) Q a=Q (.goto l) a:=Eq.trans rfl rfl
theorem gT:VC P n m R .ret Q a=Q .ret a:=Eq.trans rfl rfl
theorem bT{id:Nat}{l:List Oper}:VC P n m R (.region id l.toArray false) Q a=VO P l.toArray Q l a:=Eq.trans rfl rfl
theorem uc{id:Nat}{ops:Array Oper}:VC P n m R (.region id ops true) Q a=W P n m R (.region id ops true) Q a:=Eq.trans rfl rfl
theorem su{c:Code}:VC P n m R (.loop c) Q a=W P n m R (.loop c) Q a:=Eq.trans rfl rfl
theorem sw{f:Operand}{ps:Array Tmp}{x c:Code}:VC P n m R (.rangeFunc f ps x c) Q a=W P n m R (.rangeFunc f ps x c) Q a:=Eq.trans rfl rfl
theorem er{x y:Code}:VI P n m R (.bool true) x y Q a=VC P n m R x Q a:=by
 refine propext ⟨?_,fun h=>⟨true,rfl,h⟩⟩;rintro⟨t,ht,h⟩;cases ht;exact h
theorem fe{x y:Code}:VI P n m R (.bool false) x y Q a=VC P n m R y Q a:=by
 refine propext ⟨?_,fun h=>⟨false,rfl,h⟩⟩;rintro⟨t,ht,h⟩;cases ht;exact h
theorem VI.split{x y:Code}{b:Bool}(h1:b=true→VC P n m R x Q a)(h2:b=false→VC P n m R y Q a):VI P n m R (.bool b) x y Q a:=by
 cases b
 ·rw[fe];exact h2 rfl
 ·rw[er];exact h1 rfl
theorem dU{ops:Array Oper}:VO P ops Q [] a=Q .normal a:=Eq.trans rfl rfl
theorem cw{ops:Array Oper}{d:Option Nat}{op:Op}{ty:TypeId}{pos:String}{af:Array Edge}{rest:List Oper}:
    VO P ops Q (⟨d,op,ty,pos,af,none⟩::rest) a=VS P (VO P ops Q rest) Q d op a:=Eq.trans rfl rfl
theorem ff{ops:Array Oper}{d:Option Nat}{op:Op}{ty:TypeId}{pos:String}{af:Array Edge}{g:Nat×Bool}{rest:List Oper}:
    VO P ops Q (⟨d,op,ty,pos,af,some g⟩::rest) a=VG P (VO P ops Q rest) Q d op a (gdA ops a (some g)):=Eq.trans rfl rfl
theorem jY{op:Op}:VG P K Q dst op a (some true)=VS P K Q dst op a:=Eq.trans rfl rfl
theorem lO{op:Op}:VG P K Q dst op a (some false)=K (a.put dst (.tup [])):=Eq.trans rfl rfl
theorem cQ{v:AV}{H':List OB}:VV (some (v,H')) dst a K=K ({a with H:=H'}.put dst v):=Eq.trans rfl rfl
theorem VG.split{op:Op}{b:Bool}{c:Bool}(h1:b=true→VG P K Q dst op a (some (true==c)))(h2:b=false→VG P K Q dst op a (some (false==c))):VG P K Q dst op a (some (b==c)):=by
 cases b
 ·exact h2 rfl
 ·exact h1 rfl
theorem aj.pure{f:FuncId}{args:List AV}{r:AV}(hp:aa P f args (.ret r))(hh:AV.hfs args=true)(h:K (a.put dst r)):aj P (.fn f) args dst a K Q:=
 .inl ⟨.ret r,a.H,aa.sh (by unfold aX;rw[if_pos hh]) hp,h⟩
theorem aj.pan{f:FuncId}{args:List AV}{t:TypeId}{v:AV}(hp:aa P f args (.pan t v))(hh:AV.hfs args=true)(h:Q (.panic t v) a):aj P (.fn f) args dst a K Q:=
 .inl ⟨.pan t v,a.H,aa.sh (by unfold aX;rw[if_pos hh]) hp,h⟩
theorem aj.aX{f:FuncId}{args:List AV}(args':List AV){r:AV}(hp:aa P f args' (.ret r))(hl:aX a.H args (.ret r)=some args')(h:K (a.put dst r)):aj P (.fn f) args dst a K Q:=
 .inl ⟨.ret r,a.H,aa.sh hl hp,h⟩
theorem aj.vT{f:FuncId}{args:List AV}(S:List Nat)(args':List AV){r:AV}(hp:aa P f args' (.ret r))(hl:args.mapM (fz (bH S 0 a.H) 20)=some args')(h:K ({a with H:=cy S 0 a.H}.put dst r)):aj P (.fn f) args dst a K Q:=
 .inl ⟨.ret r,cy S 0 a.H,aa.vT S hl hp,h⟩
theorem aj.sh{c:Cl}{args:List AV}{H':List OB}{r:AV}(hp:ji P c args a.H (.ret r) H')(h:K ({a with H:=H'}.put dst r)):aj P c args dst a K Q:=
 .inl ⟨.ret r,H',hp,h⟩
theorem aj.any{f:FuncId}{args:List AV}(S:Out→List OB→Prop)(hp:bt P f args a.H S)(h:∀out H',S out H'→VK K Q dst a out H'):aj P (.fn f) args dst a K Q:=
 .inr ⟨f,S,rfl,hp,h⟩
theorem GB{a:St}{r:AV}{H':List OB}:VK K Q dst a (.ret r) H'=K ({a with H:=H'}.put dst r):=Eq.trans rfl rfl
theorem A6(n:Nat):(n:Int)+1=((n+1:Nat):Int):=Eq.trans rfl rfl
theorem Fz(a b:Nat):(a:Int)+(b:Int)=((a+b:Nat):Int):=Eq.trans rfl rfl
theorem I0(a b:Int)(h:a=b):(a==b)=true:=by simp[h]
theorem I1(a b:Int)(h:a≠b):(a==b)=false:=by simp[h]
theorem I2(a b:Int)(h:a≠b):(a !=b)=true:=by simp[h]
theorem I3(a b:Int)(h:a=b):(a !=b)=false:=by simp[h]
theorem GC(b:Bool):vD .not (.bool b)=some (.bool !b):=Eq.trans rfl rfl
end
theorem ud{P:Program}{rs:List ResultVar}{a:St}{v u:AV}(t ty s:Nat)(hr:rs=[.cell t ty,.tmp s])(hD:a.D=[])(hl:al P ty (Av.get a.T t) a.H=some v)(hs:Av.get a.T s=u)(hv:v.hf=true)(hu:u.hf=true):fp P rs (.ret (.tup [v,u])) .ret a:=by
 obtain⟨T,H,D⟩:=a;simp only at hD hl hs;subst hD;subst hr;refine⟨⟨T,H,[]⟩,rfl,.tup [v,u],?_,.refl _⟩;have:gj P [.cell t ty,.tmp s] ⟨T,H,[]⟩=some (.tup [v,u]):=by
  show(List.mapM (eC P ⟨T,H,[]⟩) [.cell t ty,.tmp s]).map AV.tup=_;simp only[List.mapM_cons,List.mapM_nil,eC,hl,hs];rfl
 rw[this];exact cJ (by simp[AV.hf,AV.hfs,hv,hu])
theorem wi{H:List OB}{id off k:Nat}{cs:List AV}{b:Bool}(h:H[id]? =some (.cells cs b))(ho:off≤cs.length)(hh:AV.hfs (cs.drop off)=true):fz H (k+1) (.ptr id off)=some (.vptr (cs.drop off)):=by
 simp only[fz,AV.hf,Bool.false_eq_true,if_false,h,if_pos ho,hh,if_true,Option.map_some]
theorem dG{H:List OB}{args args':List AV}{out:Out}(hn:AV.hfs args=false)(ho:out.scalar=true)(h:args.mapM (fz H 20)=some args'):aX H args out=some args':=by
 simp only[aX,hn,Bool.false_eq_true,if_false,ho,if_true,h]
theorem zf{H:List OB}{id off:Nat}{cs:List AV}{b:Bool}{v:AV}{out:Out}(h:H[id]? =some (.cells cs b))(hl:off≤cs.length)(hh:AV.hfs (cs.drop off)=true)(hv:v.hf=true)(ho:out.scalar=true):aX H [.ptr id off,v] out=some [.vptr (cs.drop off),v]:=
 dG rfl ho (by simp only[List.mapM_cons,List.mapM_nil,wi h hl hh,cJ hv];rfl)
theorem cS(b:Bool):ofV (.bool b)=.bool b:=Eq.trans rfl rfl
theorem dv(k:IntKind)(n:Int):ofV (.int k n)=.int k n:=Eq.trans rfl rfl
theorem DR(l:Bytes)(h:l.length≤9223372036854775807):ofV (.string ⟨l.toArray⟩)=.str l:=by
 have:(⟨l.toArray⟩:ByteArray).size≤ay:=by show l.toArray.size≤_;simpa[ay]using h
 simp only[ofV,if_pos this]
theorem DU:ofV (.slice none 0 0)=.vsl 0 true []:=Eq.trans rfl rfl
theorem DV:ofV .nilFunc=.nilfunc:=Eq.trans rfl rfl
theorem FA{P:Program}{t:TypeId}(a b:Bytes)(h:a.length+b.length≤9223372036854775807):aW P .add t (.str a) (.str b)=some (.str (a++b)):=Kq a b h
section
variable{P:Program} {n m:Nat} {R:Option Nat} {Q:Ex→St→Prop} {a:St} {K:St→Prop} {dst:Option Nat}
end
theorem aa.xF {P:Program} {f:FuncId} {fn:Func} {c:Code} {args:List AV} {r:AV} {A:Array Value} {V:Value} (hN:Enters P) (hf:P.funcs[f]? =some fn) (hb:fn.body=some c)
    (ha: ∀{F:Nat→Nat→Prop} {w:World} {Vs:List Value},VRs F w noμ args Vs→Vs.toArray=A) (h: ∀w,Calls P f A w fun e w'=>e=.returned V∧Go.RowKit.Below w.heap.size w w')
    (hv: ∀(F:Nat→Nat→Prop) (w:World),VR F w noμ r V):aa P f args (.ret r):=by
  intro F w Vs hF hvs;rw[ha hvs];refine .inl ⟨w,ab hN hf hb _ _,rfl,(h w).mono ?_⟩;rintro e w' ⟨rfl,hbl⟩;exact⟨hbl,F,fun _ _ h=>h,fun b o h=>Nat.lt_of_lt_of_le (hF b o h) hbl.size,fun _ _ _ h=>h,.ret _ _ (hv F w')⟩
theorem wj{F:Nat→Nat→Prop}{w:World}{s:Bytes}{Vs:List Value}(h:VRs F w noμ [.str s] Vs):Vs.toArray= #[.string ⟨s.toArray⟩]:=by
 cases h with
 |cons _ _ _ _ h1 h2=>cases h2;cases h1;rfl
theorem wk{F:Nat→Nat→Prop}{w:World}{s t:Bytes}{Vs:List Value}(h:VRs F w noμ [.str s,.str t] Vs):Vs.toArray= #[.string ⟨s.toArray⟩,.string ⟨t.toArray⟩]:=by
 cases h with
 |cons _ _ _ _ h1 h2=>cases h2 with
  |cons _ _ _ _ h3 h4=>cases h4;cases h1;cases h3;rfl
theorem sx{s t:Bytes}(h:s=t):Le (.str s) (.str t):=h ▸ .refl _
theorem dV(a:St)(t:Nat):a.ev (.tmp t)=get a.T t:=Eq.trans rfl rfl
theorem cD(a:St)(v:Value):a.ev (.const v)=ofV v:=Eq.trans rfl rfl
theorem xG(a:St)(f:FuncId):a.ev (.func f)=.func (.func f) [] []:=Eq.trans rfl rfl
section
variable{α:Type}
def mem(B:List OB)(f:α→AV)(k j:Nat)(z:Bool)(L:List α):List OB:=
 B++(List.replicate k .dead++(if z then .cells (aU f L) true::List.replicate j .dead else []))
def bJ(b w0 wd:Nat)(f:α→AV)(k:Nat)(z:Bool)(L:List α):AV:=if z then .sl (b+k) 0 L.length wd else .vsl w0 true (L.map f)
theorem dc(B:List OB)(f:α→AV)(k j:Nat)(z:Bool)(L:List α):(mem B f k j z L).length=B.length+k+(if z then j+1 else 0):=by
 cases z<;>simp[mem]<;>omega
theorem lP{B:List OB}{f:α→AV}{k j:Nat}{z:Bool}{L:List α}{i:Nat}(h:i<B.length):(mem B f k j z L)[i]? =B[i]?:=List.getElem?_append_left h
theorem gU{B:List OB}{f:α→AV}{k j:Nat}{L:List α}:(mem B f k j true L)[B.length+k]? =some (.cells (aU f L) true):=by
 rw[mem,List.getElem?_append_right (by omega),Nat.add_sub_cancel_left,List.getElem?_append_right (by simp)];simp
theorem ue(m n:Nat):(List.replicate n OB.dead).all (OB.hlt m)=true:=by
 rw[List.all_eq_true];intro x hx;rw[List.eq_of_mem_replicate hx];rfl
theorem qR{f:α→AV}{m:Nat}(hf:∀x,AV.bS m (f x).cells=true)(L:List α):AV.bS m (aU f L)=true:=by
 rw[ic,aU,List.all_flatMap,List.all_eq_true];intro v hv;obtain⟨a,_,rfl⟩:=List.mem_map.1 hv;rw[←ic];exact hf a
theorem A7{b w0 wd:Nat}{f:α→AV}{k j:Nat}{z:Bool}{L:List α}{B:List OB}(hb:B.length=b)(hf:∀x,AV.hlt (mem B f k j z L).length (f x)=true):(bJ b w0 wd f k z L).hlt (mem B f k j z L).length=true:=by
 cases z
 ·simp only[bJ,Bool.false_eq_true,if_false,AV.hlt]
  rw[ic,List.all_eq_true];intro v hv;obtain⟨a,_,rfl⟩:=List.mem_map.1 hv;exact hf a
 ·simp only[bJ,if_true,AV.hlt,dc,decide_eq_true_eq];omega
theorem mS{m:Nat}:∀{H:List OB} {n:Nat},n≤H.length→cd m H (List.replicate n .dead)
 |H,0,_=>by cases H<;>simp[cd]
 | [],n+1,h=>by simp at h
 |b::H,n+1,h=>by
  simp only[List.replicate_succ,cd];exact mS (by simpa using h)
theorem lQ{m:Nat}:∀{A H H':List OB},A.all (OB.hlt m)=true→cd m H H'→cd m (A++H) (A++H')
 | [],H,H',_,h=>h
 |b::A,H,H',hA,h=>by
  simp only[List.all_cons,Bool.and_eq_true]at hA;have:=lQ (A:=A) hA.2 h;simp only[List.cons_append];cases b<;>simp only[cd]<;>first|exact this|exact⟨trivial,hA.1,this⟩
theorem jZ{m:Nat}:∀{A H H':List OB} {n:Nat},n=A.length→cd m H H'→cd m (A++H) (List.replicate n .dead++H')
 | [],H,H',n,hn,h=>by subst hn;exact h
 |b::A,H,H',n,hn,h=>by
  subst hn;simp only[List.length_cons,List.replicate_succ,List.cons_append,cd];exact jZ rfl h
theorem oY{m:Nat}{c:OB}{H:List OB}{j:Nat}(hc:c.hlt m=true)(hj:j≤H.length):cd m (c::H) (c::List.replicate j .dead):=by
 cases c<;>simp only[cd]<;>first|exact mS hj|exact⟨trivial,hc,mS hj⟩
theorem A8(m:Nat)(H:List OB):cd m H []:=by cases H<;>trivial
theorem xH {P:Program} {sT e:TypeId} {wd w0 bytes:Nat} (hu:P.underlying sT=some (.slice e)) (ha:apT P e=some (esz wd,wd,bytes)) (f:α→AV) (hf: ∀x,(f x).cells.length=esz wd) (hc: ∀x,(f x).cells.all AV.isC=true)
    (hz:0<esz wd) (B:List OB) (k j:Nat) (z:Bool) (L:List α) (hw:z=false→w0=wd∨L=[]) (E:List OB) (x:α) (y:Bool) (hb:(L.length+1)*bytes≤140737488355328) {M:List OB} (hM:M=mem B f k j z L):
    ∃ M',aG P sT sT (bJ B.length w0 wd f k z L) (.vsl wd y [f x]) (M++E)=some (bJ B.length w0 wd f (M.length+E.length - B.length) true (L++[x]),M')∧M'.length=M.length+E.length+1∧M'[M.length+E.length]? =some (.cells (aU f (L++[x])) true)∧
      (∀m,B.all (OB.hlt m)=true→(∀x,AV.bS m (f x).cells=true)→cd m M' (mem B f (M.length+E.length - B.length) 0 true (L++[x])))∧(∀i,i<B.length→M'[i]? =B[i]?):=by
  subst hM;have hnew:bW (esz wd) (.vsl wd y [f x])=fun H=>some (1,(f x).cells):=by funext H;simp[bW]
  have hlen:(aU f L).length=L.length*esz wd:=eL hf L;have hBM:B.length≤(mem B f k j z L).length:=by rw[dc];omega
  have hid:B.length+((mem B f k j z L).length+E.length - B.length)=(mem B f k j z L++E).length:=by rw[List.length_append];omega
  cases z with
  | false=>
    have hold:bW (esz wd) (.vsl w0 true (L.map f))=fun H=>some (L.length,aU f L):=by
      funext H;rcases hw rfl with rfl|rfl
      · simp[bW,aU]
      · simp[bW,aU]
    refine⟨mem B f k j false L++E++[.cells (aU f (L++[x])) true],?_,by simp;omega,by rw[List.getElem?_append_right (by simp)];simp,?_,?_⟩
    · simp only[bJ,Bool.false_eq_true,if_false,if_true,aG,hu,apX,ha,ch,hnew,hold,List.length_map,List.length_append,List.length_cons,List.length_nil,Nat.zero_add]
      rw[if_neg (by omega),if_pos (by omega),List.length_append]at*;rw[hid,fL]
    · intro m hB hfm
      have:mem B f ((mem B f k j false L).length+E.length - B.length) 0 true (L++[x])=B++(List.replicate (k+E.length) .dead++[.cells (aU f (L++[x])) true]):=by
        simp only[dc,Bool.false_eq_true,if_false,Nat.add_zero];rw[show B.length+k+E.length - B.length=k+E.length from by omega];simp[mem]
      rw[this];simp only[mem,Bool.false_eq_true,if_false,List.append_nil,List.append_assoc];refine lQ hB ?_;rw[←List.append_assoc];exact jZ (by simp) (oY (j:=0) (qR hfm _) (Nat.zero_le _))
    · intro i hi
      rw[List.getElem?_append_left (by simp[dc];omega),List.getElem?_append_left (by rw[dc];omega),lP hi]
  | true=>
    have hlm:B.length+k<(mem B f k j true L).length:=by rw[dc];simp
    have hat:(mem B f k j true L++E)[B.length+k]? =some (.cells (aU f L) true):=by rw[List.getElem?_append_left hlm,gU]
    have hnot: ¬((L.length+1)*esz wd≤L.length*esz wd):=by rw[Nat.add_mul];omega
    refine⟨(mem B f k j true L++E).set (B.length+k) .dead++[.cells (aU f (L++[x])) true],?_,by simp,by rw[List.getElem?_append_right (by simp)];simp,?_,?_⟩
    · simp only[bJ,if_true,aG,hu,apX,ha,ch,hnew,hat]
      rw[if_pos ⟨trivial,hc x,by omega,by rw[hlen];omega⟩];simp only[Nat.zero_add,hlen,if_true,List.drop_zero];rw[if_neg hnot,hid,fL];simp
    · intro m hB hfm
      have hk:(mem B f k j true L).length+E.length - B.length=k+(1+j+E.length):=by rw[dc];simp;omega
      rw[hk];have hset:(mem B f k j true L++E).set (B.length+k) .dead=B++(List.replicate k .dead++(.dead::(List.replicate j .dead++E))):=by
        simp only[mem,if_true,List.append_assoc,List.cons_append];rw[List.set_append_right _ _ (by omega),Nat.add_sub_cancel_left,List.set_append_right _ _ (by simp)];simp
      rw[hset];have:mem B f (k+(1+j+E.length)) 0 true (L++[x])=B++(List.replicate (k+(1+j+E.length)) .dead++[.cells (aU f (L++[x])) true]):=by simp[mem]
      rw[this];simp only[List.append_assoc,List.cons_append];refine lQ hB ?_;have e:List.replicate k OB.dead++(.dead::(List.replicate j .dead++(E++[.cells (aU f (L++[x])) true])))=(List.replicate k OB.dead++(.dead::(List.replicate j .dead++E)))++[.cells (aU f (L++[x])) true]:=by simp
      rw[e];exact jZ (by simp;omega) (oY (j:=0) (qR hfm _) (Nat.zero_le _))
    · intro i hi
      rw[List.getElem?_append_left (by simp[dc];omega),List.getElem?_set,if_neg (by omega),List.getElem?_append_left (by rw[dc];omega),lP hi]
theorem lR {B:List OB} {f:α→AV} {w0 k:Nat} {z:Bool} {L:List α} {n:Nat} {M:List OB} (h:z=true→M[B.length+k]? =some (.cells (aU f L) true)) (h1:AV.hfs (L.map f)=true) (h2:(L.map f).all AV.one=true):
    ∃u,fz M (n+1) (bJ B.length w0 0 f k z L)=some u∧(u=.vsl w0 true (L.map f)∨u=.vsl 0 false (L.map f)):=by
  cases z with
  | false=>
    refine⟨_,?_,.inl rfl⟩;exact cJ (by simpa[bJ,AV.hf]using h1)
  | true =>
    refine⟨.vsl 0 false (L.map f),?_,.inr rfl⟩;have hcells:aU f L=L.map f:=by
      have: ∀l:List AV,l.all AV.one=true→l.flatMap AV.cells=l:=by
        intro l;induction l with
        |nil=>intro _;rfl
        | cons v l ih=>
          intro h;simp only[List.all_cons,Bool.and_eq_true]at h;rw[List.flatMap_cons,eb h.1,ih h.2];rfl
      exact this _ h2
    have h:=h rfl;rw[hcells]at h;have hm:(L.map f).mapM (fz M n)=(L.map f).mapM (fz M n):=rfl;simp only[bJ,if_true,fz,AV.hf,Bool.false_eq_true,if_false,h,esz,Nat.mul_one,Nat.zero_add,List.length_map];rw[if_pos (Nat.le_refl _),List.drop_zero,List.take_of_length_le (by simp),if_pos h1];simp only[Option.bind_some,h2,if_true]
end
theorem wo{α:Type}(l:List α)(a b:α):(l++[a]).set l.length b=l++[b]:=by simp
theorem dQ(wd:Nat)(x:Bool)(l:List AV):deN (.vsl wd x l)=.vsl wd x l:=Eq.trans rfl rfl
theorem GD(a b c d:Nat):deN (.sl a b c d)=.sl a b c d:=Eq.trans rfl rfl
theorem gz(s:Bytes):deN (.str s)=.str s:=Eq.trans rfl rfl
theorem DW(a b:Nat):deN (.ptr a b)=.ptr a b:=Eq.trans rfl rfl
theorem eX{α:Type}(b w0 wd:Nat)(f:α→AV)(k:Nat)(z:Bool)(L:List α):deN (bJ b w0 wd f k z L)=bJ b w0 wd f k z L:=by cases z<;>rfl
theorem gV{α:Type}(l:List α)(n:Nat):(l.drop n).take (l.length - n)=l.drop n:=List.take_of_length_le (by simp)
theorem lS{α:Type}{H:List α}{r:Nat}{b:α}(h:H[r]? =some b):H.set r b=H:=by
 apply List.ext_getElem?;intro i;rw[List.getElem?_set];split
 ·rename_i e;subst e
  rw[h,if_pos (List.getElem?_eq_some_iff.1 h).1]
 ·rfl
theorem aV{H E:List OB}{r:Nat}{c:OB}(h:H[r]? =some c):(H++E)[r]? =some c:=by
 rw[List.getElem?_append_left (List.getElem?_eq_some_iff.1 h).1];exact h
theorem zg{A E:List OB}{m:Nat}(h:A.all (OB.hlt m)=true):cd m (A++E) A:=by
 have:=lQ (H:=E) (H':=[]) h (A8 m E);rwa[List.append_nil]at this
theorem oZ{H:List OB}{k:Nat}:∀{l:List AV},AV.hfs l=true→l.mapM (fz H (k+1))=some l
 | [],_=>rfl
 |v::l,h=>by
  simp only[AV.hfs,Bool.and_eq_true]at h;simp only[List.mapM_cons,cJ h.1,oZ h.2];rfl
theorem GF{H:List OB}{k:Nat}{l:List AV}(hh:AV.hfs l=false):fz H (k+1) (.agg l)=(l.mapM (fz H k)).map .agg:=by
 simp only[fz,AV.hf,hh,Bool.false_eq_true,if_false]
theorem aa.le{P:Program}{f:FuncId}{args args':List AV}{out:Out}(h:Les args args')(hp:aa P f args' out):aa P f args out:=
 fun F w Vs hlt hv=>hp F w Vs hlt (hv.le h)
theorem kO{H:List OB}{k:Nat}{l l':List AV}(h:l.mapM (fz H (k+1))=some l'):fz H (k+2) (.agg l)=some (.agg l'):=by
 by_cases hh:AV.hfs l=true
 ·rw[oZ hh]at h;cases h
  exact cJ (by simpa[AV.hf]using hh)
 ·rw[GF (by simpa using hh),h];rfl
theorem VRs.zh{F:Nat→Nat→Prop}{w:World}{μ:Nat→Option Loc}{args:List AV}{Vs:List Value}(h:VRs F w μ args Vs):∀l,AV.agg l∈args→∀v∈l,v.fit:=by
 intro l hl v hv;obtain⟨i,hi⟩:=List.mem_iff_getElem?.1 hl;obtain⟨V,_,h2⟩:=h.get hi;cases h2 with
 |agg _ _ hs=>exact hs.fit v hv
theorem aa.zh{P:Program}{f:FuncId}{args:List AV}{out:Out}(h:(∀l,AV.agg l∈args→∀v∈l,v.fit)→aa P f args out):aa P f args out:=
 fun F w Vs hlt hv=>h hv.zh F w Vs hlt hv
theorem GG(n:Nat):(n:Int)+2=((n+2:Nat):Int):=Eq.trans rfl rfl
theorem lT {α:Type} {P:Program} {sT e:TypeId} {wd w0 bytes:Nat} (hu:P.underlying sT=some (.slice e)) (ha:apT P e=some (esz wd,wd,bytes)) (f:α→AV) (hf: ∀x,(f x).cells.length=esz wd) (hc: ∀x,(f x).cells.all AV.isC=true)
    (hz:0<esz wd) (B:List OB) (k:Nat) (z:Bool) (L:List α) (hw:z=false→w0=wd∨L=[]) (x:α) (y:Bool) (hb:(L.length+1)*bytes≤140737488355328):
    aG P sT sT (bJ B.length w0 wd f k z L) (.vsl wd y [f x]) (mem B f k 0 z L)=some (bJ B.length w0 wd f (if z then k+1 else k) true (L++[x]),mem B f (if z then k+1 else k) 0 true (L++[x])):=by
  have hnew:bW (esz wd) (.vsl wd y [f x])=fun H=>some (1,(f x).cells):=by funext H;simp[bW]
  have hlen:(aU f L).length=L.length*esz wd:=eL hf L;cases z with
  | false=>
    have hold:bW (esz wd) (.vsl w0 true (L.map f))=fun H=>some (L.length,aU f L):=by
      funext H;rcases hw rfl with rfl|rfl
      · simp[bW,aU]
      · simp[bW,aU]
    simp only[bJ,Bool.false_eq_true,if_false,if_true,aG,hu,apX,ha,ch,hnew,hold,List.length_map,List.length_append,List.length_cons,List.length_nil,Nat.zero_add];rw[if_neg (by omega),if_pos (by omega)];simp[mem,fL]
  | true=>
    have hat:=gU (B:=B) (f:=f) (k:=k) (j:=0) (L:=L);have hnot: ¬((L.length+1)*esz wd≤L.length*esz wd):=by rw[Nat.add_mul];omega
    have hset:(mem B f k 0 true L).set (B.length+k) .dead=B++List.replicate (k+1) .dead:=by
      simp only[mem,if_true,List.replicate_zero];rw[List.set_append_right _ _ (by omega),Nat.add_sub_cancel_left,List.set_append_right _ _ (by simp)];simp[List.replicate_succ']
    have hl:(mem B f k 0 true L).length=B.length+(k+1):=by rw[dc];simp;omega
    simp only[bJ,if_true,aG,hu,apX,ha,ch,hnew,hat];rw[if_pos ⟨trivial,hc x,by omega,by rw[hlen];omega⟩];simp only[Nat.zero_add,hlen,if_true,List.drop_zero];rw[if_neg hnot,hset,hl,←fL];simp[mem,fL]
theorem GH(k:IntKind)(n:Int):AV.cells (.int k n:AV)=[.int k n]:=Eq.trans rfl rfl
theorem GI(s:Bytes):AV.cells (.str s:AV)=[.str s]:=Eq.trans rfl rfl
theorem o5(s:Bytes):AV.isC (.str s:AV)=true:=Eq.trans rfl rfl
theorem GJ(w:Nat)(x:Bool)(l:List AV):AV.cells (.vsl w x l:AV)=[.vsl w x l]:=Eq.trans rfl rfl
theorem o6(w:Nat)(x:Bool)(l:List AV):AV.isC (.vsl w x l:AV)=true:=Eq.trans rfl rfl
theorem zi:AV.cells (.nilmap:AV)=[.nilmap]:=Eq.trans rfl rfl
theorem A9:AV.isC (.nilsl:AV)=true:=Eq.trans rfl rfl
theorem GK(i:Nat):AV.cells (.map i:AV)=[.map i]:=Eq.trans rfl rfl
theorem GL(i:Nat):AV.isC (.map i:AV)=true:=Eq.trans rfl rfl
theorem DX(f:Fn)(a b:List AV):AV.cells (.func f a b:AV)=[.func f a b]:=Eq.trans rfl rfl
theorem DY(f:Fn)(a b:List AV):AV.isC (.func f a b:AV)=true:=Eq.trans rfl rfl
theorem wq:AV.cells (.nilfunc:AV)=[.nilfunc]:=Eq.trans rfl rfl
theorem iT(l:List AV):AV.cells (.agg l)=l:=Eq.trans rfl rfl
section
variable{P:Program} {w0:World} {F0 F F':Nat→Nat→Prop} {μ μ':Nat→Option Loc} {H H':List OB} {w w':World} {n m:Nat} {R:Option Nat} {a:St} {act:Act} {Q:Ex→St→Prop}
 {call:Cl→List AV→List OB→Option (Out×List OB)} {ops:Array Oper}
theorem W.KS {id : Nat} (p:Nat) (hps:p<ops.size) (v:Nat→AV) (T:Nat→List (Nat×AV)) (Hk:Nat→List OB) (wr:Nat→Bool) (anc:Nat→Nat→Bool)
    (hm:P.follows .mixedOrders=true) (hf:fits n ops=true)
    (h0:T 0=a.T) (hT: ∀(i:Nat) (o:Oper),ops[i]? =some o→T (i+1)=(match o.dst with|none=>T i|some d=>(d,v i)::T i)) (hH:Hk 0=a.H)
    (hE: ∀(i:Nat) (o:Oper) (e:Edge),ops[i]? =some o→e∈o.after→Region.binds .any e=true→e.on<i)
    (hA: ∀(i j:Nat) (o:Oper),ops[i]? =some o→anc i j=true→ ∃e∈o.after,Region.binds .any e=true∧(j=e.on∨anc e.on j=true))
    (hL: ∀(i:Nat) (o:Oper) (t:Nat) (j:Nat) (o':Oper),ops[i]? =some o→t∈o.looksAt ops→ops[j]? =some o'→o'.dst=some t→anc i j=true∨(i<j∧anc j i=true))
    (hD: ∀(i j:Nat) (o o':Oper) (d:Nat),ops[i]? =some o→ops[j]? =some o'→o.dst=some d→o'.dst=some d→i=j)
    (hP: ∀(o:Oper) (k:Nat),ops[p]? =some o→cnt ops.size (fun j=>wr j&&anc p j)≤k→k≤cnt ops.size (fun j=>wr j&& !anc j p&& !(j==p))→ ∃t v H',ie P n m R ops o ⟨only ops o (T p),Hk k,a.D⟩ (.pan t v H')∧Q (.panic t v) ⟨[],H',a.D⟩)
    (hS: ∀(i:Nat) (o:Oper) (k:Nat),i≠p→anc i p=false→ops[i]? =some o→cnt ops.size (fun j=>wr j&&anc i j)≤k→k≤cnt ops.size (fun j=>wr j&& !anc j i&& !(j==i))→
      ie P n m R ops o ⟨only ops o (T i),Hk k,a.D⟩ (.val (v i) (Hk (k+(if wr i=true then 1 else 0))))):W P n m R (.region id ops true) Q a:=by
  intro B act w ⟨F,μ,s,y,t⟩;refine wpIn_region_any hm ?_;obtain⟨x1,s1⟩:=s.same (w':={w with drawn:=w.drawn+1}) rfl rfl rfl rfl;have hTx: ∀i,i≤ops.size→ ∀t,(∀(j:Nat) (o:Oper),j<i→ops[j]? =some o→o.dst=some t→get (T i) t=v j)∧((∀(j:Nat) (o:Oper),j<i→ops[j]? =some o→o.dst≠some t)→get (T i) t=get a.T t):=by
    intro i;induction i with
    |zero=>intro _ t;exact⟨fun j _ hj=>by omega,fun _=>by rw[h0]⟩
    | succ i ih=>
      intro hi t;have ho:ops[i]? =some ops[i]:=Array.getElem?_eq_getElem (by omega);obtain⟨g1,g2⟩:=ih (by omega) t;have hTi:=hT i _ ho;have hget:get (T (i+1)) t=if(ops[i]).dst=some t then v i else get (T i) t:=by
        rw[hTi];cases hd:(ops[i]).dst with
        |none=>simp
        | some d=>
          simp only[get];by_cases e:d=t
          · subst e;simp
          · rw[if_neg e,if_neg (by simpa using e)]
      rw[hget];refine⟨fun j o hj hoj hdj=> ?_,fun hno=> ?_⟩
      · by_cases e:j=i
        · subst e;rw[ho]at hoj;cases hoj;rw[if_pos hdj]
        · have hne:(ops[i]).dst≠some t:=fun h=>e (hD j i _ _ t hoj ho hdj h)
          rw[if_neg hne];exact g1 j o (by omega) hoj hdj
      · rw[if_neg (hno i _ (by omega) ho)];exact g2 fun j o hj=>hno j o (by omega)
  let Inv:Array Bool→Act→World→Prop:=fun listed act w=>(listed.size=ops.size∧listed[p]? ≠some true)∧
    (∀(i:Nat) (o:Oper) (e:Edge),ops[i]? =some o→listed[i]? =some true→e∈o.after→Region.binds .any e=true→listed[e.on]? =some true)∧
    ∃ F μ,Sim B.w0 B.F0 F μ (Hk (cnt ops.size fun j=>wr j&&listed.getD j false)) w∧Ext B.Fs B.ws B.μs F w μ∧VD F w μ a.D act.defers∧act.tmps.size=n∧
      ∀ t,(∀(j:Nat) (o:Oper),ops[j]? =some o→o.dst=some t→listed[j]? =some true→VR F w μ (v j) (act.tmps.getD t undef))∧
        ((∀(j:Nat) (o:Oper),ops[j]? =some o→o.dst=some t→listed[j]? ≠some true)→VR F w μ (get a.T t) (act.tmps.getD t undef))
  have main : ∀ fuel listed act w,Inv listed act w→cnt ops.size (fun j=> !listed.getD j false)≤fuel→wpAnyIn (fnc R) 1 P .any ops (dS n B Q) fuel listed act w:=by
    have hdone: ∀listed act w,Inv listed act w→Region.ready .any ops listed=[]→dS n B Q .normal act w:=by
      intro listed act w ⟨hsz,hcl,F,μ,s,y,vd,hn,hsl⟩ hr;have hall : ∀i,i<ops.size→listed[i]? =some true:=by
        intro i;induction i using Nat.strongRecOn with
        | _ i ih =>
          intro hi;cases hli:listed[i]? with
          |none=>rw[Array.getElem?_eq_none_iff]at hli;have:=hsz.1;omega
          | some b=>
            cases b with
            |true=>rfl
            | false=>
              have ho:ops[i]? =some ops[i]:=Array.getElem?_eq_getElem hi;have:i∈Region.ready .any ops listed:=by
                unfold Region.ready;rw[List.mem_filter];refine⟨by simp[hi],?_⟩;rw[ho];simp only[Array.getD_eq_getD_getElem?,hli,Option.getD_some,Bool.not_false,Bool.true_and,Option.map_some];rw[Array.all_eq_true'];intro e he;by_cases hb:Region.binds .any e=true
                · have:=ih e.on (hE i _ e ho he hb) (by have:=hE i _ e ho he hb;omega)
                  simp[this]
                · simp at hb;simp[hb]
              rw[hr]at this;cases this
      exact(hsz.2 (hall p hps)).elim
    intro fuel;induction fuel with
    | zero=>
      intro listed act w hI hfu;have hr:Region.ready .any ops listed=[]:=by
        rw[List.eq_nil_iff_forall_not_mem];intro i hi;unfold Region.ready at hi;rw[List.mem_filter]at hi;obtain⟨h1,h2⟩:=hi;simp only[List.mem_range]at h1;simp only[Bool.and_eq_true,Bool.not_eq_true']at h2;have hlt:i<listed.size:=by rw[hI.1.1];exact h1
        have h2':listed.getD i false=false:=by have:=h2.1;simp[Array.getD_eq_getD_getElem?,hlt]at this ⊢;exact this
        have:cnt ops.size (fun j=>decide (j=i))≤cnt ops.size (fun j=> !listed.getD j false):=eK fun j _ hj=>by simp at hj;subst hj;simp[h2']
        have h3:cnt ops.size (fun j=>decide (j=i))=cnt ops.size (fun _=>false)+(if decide (i=i)=true then 1 else 0):=fF h1 rfl fun j hj=>by simp[hj]
        simp at h3;omega
      exact⟨hr,hdone _ _ _ hI hr⟩
    | succ fuel ih =>
      intro listed act w hI hfu;refine⟨hdone _ _ _ hI,fun i hi=> ?_⟩;obtain⟨hsz,hcl,F,μ,s,y,vd,hn,hsl⟩:=hI;unfold Region.ready at hi;rw[List.mem_filter]at hi;obtain⟨h1,h2⟩:=hi;simp only[List.mem_range]at h1;simp only[Bool.and_eq_true,Bool.not_eq_true']at h2;have ho:ops[i]? =some ops[i]:=Array.getElem?_eq_getElem h1;have hlt:i<listed.size:=by rw[hsz.1];exact h1
      have hli:listed[i]? =some false:=by have:=h2.1;simp[Array.getD_eq_getD_getElem?,hlt]at this;simp[hlt,this]
      have hafter: ∀e∈(ops[i]).after,Region.binds .any e=true→listed[e.on]? =some true:=by
        have:=h2.2;rw[ho]at this;simp only[Option.map_some,Option.getD_some]at this;rw[Array.all_eq_true']at this;intro e he hb;have:=this e he;rw[hb]at this;simp[Array.getD_eq_getD_getElem?]at this;cases hx:listed[e.on]? with
        |none=>rw[hx]at this;simp at this
        |some b=>rw[hx]at this;simp at this;rw[this]
      have hancl: ∀(i:Nat) (o:Oper),ops[i]? =some o→(∀e∈o.after,Region.binds .any e=true→listed[e.on]? =some true)→ ∀j,anc i j=true→listed[j]? =some true:=by
        intro i;induction i using Nat.strongRecOn with
        | _ i ihh=>
          intro o hoi hh j hj;obtain⟨e,he,hb,hje⟩:=hA i j o hoi hj;rcases hje with rfl|hje
          · exact hh e he hb
          · have hon:=hE i o e hoi he hb
            have hois:i<ops.size:=(Array.getElem?_eq_some_iff.1 hoi).1;have hoe:ops[e.on]? =some ops[e.on]:=Array.getElem?_eq_getElem (by omega);exact ihh e.on hon _ hoe (fun e' he' hb'=>hcl _ _ e' hoe (hh e he hb) he' hb') j hje
      have hanci:=hancl i _ ho hafter;have hlo:cnt ops.size (fun j=>wr j&&anc i j)≤cnt ops.size (fun j=>wr j&&listed.getD j false):=eK fun j _ hj=>by
        simp only[Bool.and_eq_true]at hj ⊢;exact⟨hj.1,by simp[Array.getD_eq_getD_getElem?,hanci j hj.2]⟩
      have hhi:cnt ops.size (fun j=>wr j&&listed.getD j false)≤cnt ops.size (fun j=>wr j&& !anc j i&& !(j==i)):=eK fun j hjs hj=>by
        simp only[Bool.and_eq_true,Bool.not_eq_true']at hj ⊢;have hlj:listed[j]? =some true:=by
          have:=hj.2;simp[Array.getD_eq_getD_getElem?]at this;cases hx:listed[j]? with
          |none=>rw[hx]at this;simp at this
          |some b=>rw[hx]at this;simp at this;rw[this]
        refine⟨⟨hj.1,?_⟩,?_⟩
        · cases hx:anc j i with
          |false=>rfl
          | true=>
            have hoj:ops[j]? =some ops[j]:=Array.getElem?_eq_getElem hjs;have:=hancl j _ hoj (fun e he hb=>hcl j _ e hoj hlj he hb) i hx;rw[hli]at this;cases this
        · cases hx:(j==i)with
          |false=>rfl
          | true => have:j=i:=by simpa using hx
                    subst this;rw[hli]at hlj;cases hlj
      have hcl': ∀(i':Nat) (o:Oper) (e:Edge),ops[i']? =some o→(listed.setIfInBounds i true)[i']? =some true→e∈o.after→Region.binds .any e=true→(listed.setIfInBounds i true)[e.on]? =some true:=by
        intro i' o e hoi' hl' he hb;have hset: ∀(j:Nat),listed[j]? =some true→(listed.setIfInBounds i true)[j]? =some true:=by
          intro j hj;rw[Array.getElem?_setIfInBounds];split
          · first|rfl|simp[hlt]
          · exact hj
        by_cases e':i'=i
        · subst e';rw[ho]at hoi';cases hoi';exact hset _ (hafter e he hb)
        · rw[Array.getElem?_setIfInBounds,if_neg (by omega)]at hl'
          exact hset _ (hcl i' o e hoi' hl' he hb)
      have hcnt:cnt ops.size (fun j=>wr j&&(listed.setIfInBounds i true).getD j false)=cnt ops.size (fun j=>wr j&&listed.getD j false)+(if wr i=true then 1 else 0):=by
        have:=fF (k:=ops.size) (i:=i) (p:=fun j=>wr j&&listed.getD j false) (q:=fun j=>wr j&&(listed.setIfInBounds i true).getD j false) h1 (by simp[Array.getD_eq_getD_getElem?,hli]) (fun j hj=>by
          simp only[Array.getD_eq_getD_getElem?,Array.getElem?_setIfInBounds];rw[if_neg (by omega)])
        rw[this];simp[Array.getD_eq_getD_getElem?,Array.getElem?_setIfInBounds,hlt]
      have hfu':cnt ops.size (fun j=> !(listed.setIfInBounds i true).getD j false)≤fuel:=by
        have:=fF (k:=ops.size) (i:=i) (p:=fun j=> !(listed.setIfInBounds i true).getD j false) (q:=fun j=> !listed.getD j false) h1 (by simp[Array.getD_eq_getD_getElem?,Array.getElem?_setIfInBounds,hlt]) (fun j hj=>by
          simp only[Array.getD_eq_getD_getElem?,Array.getElem?_setIfInBounds];rw[if_neg (by omega)])
        have h1:(!listed.getD i false)=true:=by simp only[Array.getD_eq_getD_getElem?,hli];rfl
        simp only[h1,if_true]at this;omega
      have hrest : cg n F μ ⟨only ops ops[i] (T i),Hk (cnt ops.size fun j=>wr j&&listed.getD j false),a.D⟩ act w:=by
        refine⟨vd,hn,fun t=> ?_⟩;show VR F w μ (get (only ops ops[i] (T i)) t) _;unfold only;rw[ju];split
        · rename_i ht
          obtain⟨g1,g2⟩:=hTx i (by omega) t;by_cases hex: ∃(j:Nat) (o:Oper),ops[j]? =some o∧o.dst=some t
          · obtain ⟨j,o,hoj,hd⟩:=hex
            rcases hL i _ t j o ho ht hoj hd with haj|⟨hij,haj⟩
            · have hji:j<i:=by
                have key: ∀(i':Nat) (o':Oper),ops[i']? =some o'→ ∀j,anc i' j=true→j<i':=by
                  intro i';induction i' using Nat.strongRecOn with
                  | _ i' ihh=>
                    intro o' hoi' j hj;obtain⟨e,he,hb,hje⟩:=hA i' j o' hoi' hj;have hon:=hE i' o' e hoi' he hb;rcases hje with rfl|hje
                    · exact hon
                    · have hois:i'<ops.size:=(Array.getElem?_eq_some_iff.1 hoi').1
                      have:=ihh e.on hon _ (Array.getElem?_eq_getElem (by omega)) j hje;omega
                exact key i _ ho j haj
              rw[g1 j o hji hoj hd];exact(hsl t).1 j o hoj hd (hanci j haj)
            · rw[g2 fun k o' hk hok hdk=>by
                have:=hD k j _ _ t hok hoj hdk hd
                omega]
              refine(hsl t).2 fun k o' hok hdk hlk=> ?_;have hkj:=hD k j _ _ t hok hoj hdk hd;subst hkj;have:=hancl k _ hoj (fun e he hb=>hcl k _ e hoj hlk he hb) i haj;rw[hli]at this;cases this
          · rw[g2 fun j o _ hoj hd=>hex ⟨j,o,hoj,hd⟩]
            exact(hsl t).2 fun j o hoj hd=>(hex ⟨j,o,hoj,hd⟩).elim
        · exact .junk _
      by_cases hip:i=p
      · subst hip
        obtain⟨tt,vv,H',hst,hqp⟩:=hP _ _ ho hlo hhi;refine hst i B (dS n B Q) _ F μ act w ho s hrest (fun _ _ h=>by cases h) ?_;rintro t2 v2 H2 he V w' F' μ' x s' hV;cases he;exact⟨_,_,F',μ',hqp,.panic _ _ V hV,s',y.trans x,vd.mono x,hn,fun t=>.junk _⟩
      have hap:anc i p=false:=by
        cases hx:anc i p with
        |false=>rfl
        |true=>exact(hsz.2 (hanci p hx)).elim
      refine hS i _ _ hip hap ho hlo hhi i B (dS n B Q) _ F μ act w ho s hrest ?_ (fun _ _ _ h=>by cases h);rintro v' H' he V w' F' μ' x s' hV;cases he;refine ih _ _ _ ⟨⟨by simpa using hsz.1,by rw[Array.getElem?_setIfInBounds,if_neg (by omega)];exact hsz.2⟩,hcl',F',μ',by rw[hcnt];exact s',y.trans x,?_,?_,fun t=> ?_⟩ hfu'
      · cases(ops[i]).dst<;>exact vd.mono x
      · cases(ops[i]).dst<;>simp[Act.put,hn]
      · have hslot: ∀t,(act.put (ops[i]).dst V).tmps.getD t undef=if(ops[i]).dst=some t then V else act.tmps.getD t undef:=by
          intro t;cases hd:(ops[i]).dst with
          |none=>simp[Act.put]
          | some d=>
            have hdn:d<act.tmps.size:=by rw[hn];exact dj hf i _ d ho hd
            simp only[Act.put,Array.getD_eq_getD_getElem?,Array.getElem?_setIfInBounds];by_cases e:d=t
            · subst e;simp[hdn]
            · simp[e]
        rw[hslot];refine⟨fun j o hoj hd hl=> ?_,fun hno=> ?_⟩
        · by_cases e:j=i
          · subst e;rw[ho]at hoj;cases hoj;rw[if_pos hd];exact hV
          · rw[if_neg fun h=>e (hD j i _ _ t hoj ho hd h)]
            rw[Array.getElem?_setIfInBounds,if_neg (by omega)]at hl;exact VR.mono x ((hsl t).1 j o hoj hd hl)
        · have hne:(ops[i]).dst≠some t:=fun h=>hno i _ ho h (by rw[Array.getElem?_setIfInBounds,if_pos rfl,if_pos hlt])
          rw[if_neg hne];refine VR.mono x ((hsl t).2 fun j o hoj hd hl=>hno j o hoj hd ?_);rw[Array.getElem?_setIfInBounds];split
          · first|rfl|simp[hlt]
          · exact hl
  refine main _ _ _ _ ⟨⟨by simp,by rw[Array.getElem?_replicate];split<;>simp⟩,?_,F,μ,?_,y.trans x1,t.defers.mono x1,t.size,fun tt=>⟨?_,?_⟩⟩ ?_
  · intro i o e _ hl
    rw[Array.getElem?_replicate]at hl;split at hl<;>cases hl
  · have:cnt ops.size (fun j=>wr j&&(Array.replicate ops.size false).getD j false)=cnt 0 (fun _=>false):=by
      have: ∀k,cnt k (fun j=>wr j&&(Array.replicate ops.size false).getD j false)=0:=by
        intro k;induction k with
        |zero=>rfl
        | succ k ih=>
          simp only[cnt,ih];by_cases hk:k<ops.size<;>simp[Array.getD_eq_getD_getElem?,Array.getElem?_replicate,hk]
      rw[this];rfl
    rw[this];simp only[cnt];rw[hH];exact s1
  · intro j o _ _ hl
    rw[Array.getElem?_replicate]at hl;split at hl<;>cases hl
  · intro _;exact VR.mono x1 (t.slots tt)
  · refine Nat.le_trans (eK (q:=fun _=>true) fun _ _ _=>rfl) ?_
    have: ∀k,cnt k (fun _=>true)=k:=by
      intro k;induction k with
      |zero=>rfl
      |succ k ih=>simp[cnt,ih]
    rw[this];exact Nat.le_refl _
def SOK(P:Program)(ops:Array Oper)(o:Oper)(a:St)(v:AV)(H':List OB):Prop:=
 (gdA ops a o.guard=some false∧v=.tup []∧H'=a.H)∨
 (gdA ops a o.guard=some true∧ae a o.op=none∧ad o.op=none∧evalOp P o.op a=some (v,H'))∨
 (gdA ops a o.guard=some true∧∃c args,ae a o.op=some (c,args)∧ji P c args a.H (.ret v) H')
def POK(P:Program)(ops:Array Oper)(o:Oper)(a:St)(t:TypeId)(v:AV)(H':List OB):Prop:=
 gdA ops a o.guard=some true∧∃c args,ae a o.op=some (c,args)∧ji P c args a.H (.pan t v) H'
theorem o7{o:Oper}{a:St}{K:List OB}{D:List DE}{x:Operand}(hx:x∈o.op.operands):(⟨only ops o a.T,K,D⟩:St).ev x=a.ev x:=nW hx
open Classical in
theorem SOK.step(hf:fits n ops=true){o:Oper}{v:AV}{H':List OB}(h:SOK P ops o a v H')(D:List DE):ie P n m R ops o ⟨only ops o a.T,a.H,D⟩ (.val v H'):=by
 rcases h with⟨hg,rfl,rfl⟩|⟨hg,hc,hp,he⟩|⟨hg,c,args,hc,hcl⟩
 ·refine fa (call:=fun _ _ _=>none) (fun _ _ _ _ _ h=>by cases h) hf ?_
  simp[eD,lL,hg]
 ·refine fa (call:=fun _ _ _=>none) (fun _ _ _ _ _ h=>by cases h) hf ?_
  have e2:ae ⟨only ops o a.T,a.H,D⟩ o.op=none:=(fH (a:=⟨only ops o a.T,a.H,D⟩) (b:=a) o.op (fun x hx=>o7 hx)).trans hc;have e3:evalOp P o.op ⟨only ops o a.T,a.H,D⟩=some (v,H'):=(lK (a:=⟨only ops o a.T,a.H,D⟩) (b:=a) rfl o.op (fun x hx=>o7 hx)).trans he;simp[eD,lL,hg,e2,hp,e3]
 ·refine fa (call:=fun d x K=>if d=c∧x=args∧K=a.H then some (.ret v,H')else none) ?_ hf ?_
  ·intro d x K out K' hh
   simp only at hh;split at hh
   ·rename_i hcond
    obtain⟨rfl,rfl,rfl⟩:=hcond;cases hh;exact hcl
   ·cases hh
  ·have e2:ae ⟨only ops o a.T,a.H,D⟩ o.op=some (c,args):=(fH (a:=⟨only ops o a.T,a.H,D⟩) (b:=a) o.op (fun x hx=>o7 hx)).trans hc
   simp[eD,lL,hg,e2]
def sA(o:Op):Bool:=
 match o with
 | .move _| .assign _| .pick _ _ _| .build _ _| .buildSlice _ _ _| .nilCheck _| .binOp _ _ _ _ _| .unOp _ _ _| .makeInterface _ _| .makeFunc _ _ _
 | .slice _ _ (some _) _ _| .slice _ _ _ (some _) _| .fieldAddr _ _ _| .field _ _ _| .index _ _ _| .typeAssert _ _ _ _| .extract _ _=>true
 |_=>false
theorem Ba(T:List (Nat×AV))(K K':List OB)(D:List DE):(⟨T,K,D⟩:St).ev=(⟨T,K',D⟩:St).ev:=by funext x;cases x<;>rfl
theorem nw{o:Op}{T:List (Nat×AV)}{K K':List OB}{D:List DE}{v:AV}(hfr:sA o=true)(h:evalOp P o ⟨T,K,D⟩=some (v,K'))(K2:List OB):evalOp P o ⟨T,K2,D⟩=some (v,K2):=by
 have hev:=Ba T K2 K D;cases o<;>simp only[sA]at hfr<;>first|(cases hfr;done)|skip
 case move x=>simp only[evalOp,hev,Option.some.injEq,Prod.mk.injEq]at h ⊢;exact⟨h.1,trivial⟩
 case assign x=>simp only[evalOp,hev,Option.some.injEq,Prod.mk.injEq]at h ⊢;exact⟨h.1,trivial⟩
 case pick c x y=>
  simp only[evalOp,hev]at h ⊢;split at h
  ·rename_i hc;simp only[Option.some.injEq,Prod.mk.injEq]at h ⊢;exact⟨h.1,trivial⟩
  ·cases h
 case nilCheck x=>
  simp only[evalOp,hev]at h ⊢;split at h
  ·simp only[Option.some.injEq,Prod.mk.injEq]at h ⊢;exact⟨h.1,trivial⟩
  ·rw[Option.map_eq_some_iff]at h ⊢
   obtain⟨u,h1,h2⟩:=h;cases h2;exact⟨_,h1,rfl⟩
 case binOp op t x y z=>
  simp only[evalOp,hev]at h ⊢;split at h
  ·simp only[Option.some.injEq,Prod.mk.injEq]at h ⊢;exact⟨h.1,trivial⟩
  ·split at h
   ·simp only[Option.some.injEq,Prod.mk.injEq]at h ⊢;exact⟨h.1,trivial⟩
   ·rw[Option.map_eq_some_iff]at h ⊢
    obtain⟨u,h1,h2⟩:=h;cases h2;exact⟨_,h1,rfl⟩
 case makeInterface t x=>
  simp only[evalOp,hev]at h ⊢;split at h<;>first|(cases h;done)|skip
  simp only[Option.some.injEq,Prod.mk.injEq]at h ⊢;exact⟨h.1,trivial⟩
 case makeFunc f fs cs=>simp only[evalOp,hev,Option.some.injEq,Prod.mk.injEq]at h ⊢;exact⟨h.1,trivial⟩
 case slice t x lo hi mx=>
  simp only[evalOp,hev]at h ⊢;split at h
  ·simp only[Option.some.injEq,Prod.mk.injEq]at h ⊢;exact⟨h.1,trivial⟩
  ·cases lo<;>cases hi<;>simp at hfr h
 case extract t i=>
  simp only[evalOp,hev]at h ⊢;split at h<;>first|(cases h;done)|skip
  rw[Option.map_eq_some_iff]at h ⊢;obtain⟨u,h1,h2⟩:=h;cases h2;exact⟨_,h1,rfl⟩
 all_goals
  simp only[evalOp,hev]at h ⊢;rw[Option.map_eq_some_iff]at h ⊢;obtain⟨u,h1,h2⟩:=h;cases h2;exact⟨_,h1,rfl⟩
def an(P:Program)(c:Cl)(args:List AV)(dst:Option Nat)(a:St)(K:St→Prop)(KP:TypeId→AV→List OB→Prop):Prop:=
 (∃r H',ji P c args a.H (.ret r) H'∧K ({a with H:=H'}.put dst r))∨(∃t v H',ji P c args a.H (.pan t v) H'∧KP t v H')
def DS(P:Program)(K:St→Prop)(KP:TypeId→AV→List OB→Prop)(dst:Option Nat)(op:Op)(a:St):Prop:=
 match ae a op with
 |some (c,args)=>an P c args dst a K KP
 |none=>match ad op with
  |some _=>False
  |none=>VV (evalOp P op a) dst a K
def DG(P:Program)(K:St→Prop)(KP:TypeId→AV→List OB→Prop)(dst:Option Nat)(op:Op)(a:St):Option Bool→Prop
 |none=>False
 |some false=>K (a.put dst (.tup []))
 |some true=>DS P K KP dst op a
def DT(P:Program)(ops:Array Oper)(K:List St→Prop)(KP:List St→TypeId→AV→List OB→Prop):List Oper→List St→St→Prop
 | [],tr,a=>K (tr++[a])
 |o::rest,tr,a=>DG P (DT P ops K KP rest (tr++[a])) (KP (tr++[a])) o.dst o.op a (gdA ops a o.guard)
def uf(P:Program)(ops:Array Oper)(l:List Oper)(M:Nat)(S:Nat→St)(v:Nat→AV):Prop:=
 ∀i o,i<M→l[i]? =some o→SOK P ops o (S i) (v i) (S (i+1)).H∧S (i+1)={S i with H:=(S (i+1)).H}.put o.dst (v i)
theorem ug {K :List St→Prop} {KP:List St→TypeId→AV→List OB→Prop}: ∀{l:List Oper} {tr:List St} {a:St},DT P ops K KP l tr a→
    (∃(S:Nat→St) (v:Nat→AV),S 0=a∧uf P ops l l.length S v∧K (tr++(List.range (l.length+1)).map S))∨
    (∃(p:Nat) (S:Nat→St) (v:Nat→AV) (o:Oper) (t:TypeId) (w:AV) (H':List OB),S 0=a∧l[p]? =some o∧uf P ops l p S v∧POK P ops o (S p) t w H'∧KP (tr++(List.range (p+1)).map S) t w H'):=by
  intro l;induction l with
  | nil=>
    intro tr a h;refine .inl ⟨fun _=>a,fun _=>.junk,rfl,fun i o hi _=>absurd hi (Nat.not_lt_zero _),?_⟩;simpa[DT]using h
  | cons o rest ih=>
    intro tr a h;simp only[DT]at h
    have more: ∀(w:AV) (H1:List OB),SOK P ops o a w H1→DT P ops K KP rest (tr++[a]) ({a with H:=H1}.put o.dst w)→ 
        (∃(S:Nat→St) (v:Nat→AV),S 0=a∧uf P ops (o::rest) (o::rest).length S v∧K (tr++(List.range ((o::rest).length+1)).map S))∨
        (∃(p:Nat) (S:Nat→St) (v:Nat→AV) (o':Oper) (t:TypeId) (w:AV) (H':List OB),S 0=a∧(o::rest)[p]? =some o'∧uf P ops (o::rest) p S v∧POK P ops o' (S p) t w H'∧KP (tr++(List.range (p+1)).map S) t w H'):=by
      intro w H1 hs hd;have hputH:({a with H:=H1}.put o.dst w).H=H1:=by cases o.dst<;>rfl
      have hlist: ∀(S:Nat→St) (k:Nat),(List.range (k+1+1)).map (fun i=>match i with|0=>a|i+1=>S i)=a::(List.range (k+1)).map S:=by
        intro S k;rw[List.range_succ_eq_map];simp[Function.comp_def]
      have htr: ∀(S:Nat→St) (v:Nat→AV) (M:Nat),S 0={a with H:=H1}.put o.dst w→uf P ops rest M S v→uf P ops (o::rest) (M+1) (fun i=>match i with|0=>a|i+1=>S i) (fun i=>match i with|0=>w|i+1=>v i):=by
        intro S v M h0 ht i o' hi ho';cases i with
        | zero=>
          simp at ho';subst ho';simp only;rw[h0,hputH];exact⟨hs,rfl⟩
        |succ i=>exact ht i o' (by omega) (by simpa using ho')
      rcases ih hd with⟨S,v,h0,ht,hk⟩|⟨p,S,v,o',t,w',H',h0,ho',ht,hp,hk⟩
      · refine .inl ⟨_,_,rfl,htr S v _ h0 ht,?_⟩
        rw[List.length_cons,hlist];simpa using hk
      · refine .inr ⟨p+1,_,_,o',t,w',H',rfl,by simpa using ho',htr S v _ h0 ht,hp,?_⟩
        rw[hlist];simpa using hk
    cases hg:gdA ops a o.guard with
    |none=>rw[hg]at h;exact h.elim
    | some b =>
      rw[hg]at h;cases b with
      |false=>exact more (.tup []) a.H (.inl ⟨hg,rfl,rfl⟩) h
      | true =>
        simp only[DG,DS]at h;split at h
        · rename_i c args hc
          rcases h with⟨r,H1,h1,h2⟩|⟨t,v,H1,h1,h2⟩
          · exact more r H1 (.inr (.inr ⟨hg,c,args,hc,h1⟩)) h2
          · refine .inr ⟨0,fun _=>a,fun _=>.junk,o,t,v,H1,rfl,rfl,fun i o hi _=>absurd hi (Nat.not_lt_zero _),⟨hg,c,args,hc,h1⟩,?_⟩
            simpa using h2
        · rename_i hc
          split at h
          · exact h.elim
          · rename_i hp
            simp only[VV]at h;split at h
            · rename_i v H1 he
              exact more v H1 (.inr (.inl ⟨hg,hc,hp,he⟩)) h
            · exact h.elim
/-! ### Any order -/
def lU(tab:List Nat)(i j:Nat):Bool:=(tab.getD i 0).testBit j
def ixX(ws:List Nat)(i:Nat):Nat:=cnt i (fun j=>ws.contains j)
def qX(ws:List Nat):Nat→Nat
 |0=>0
 |k+1=>ws.getD k 0+1
def mT(ops:Array Oper)(tab:List Nat)(ws:List Nat)(wm:List Bool)(ps:List (Nat×Nat))(M:Nat):Bool:=
 ws.all (fun j=>decide (j<M))&&(List.range M).all fun i=>match ops[i]? with
  |none=>true
  |some o=>(wm.getD i false==ws.contains i)&&
   let lo:=cnt ops.size (fun j=>ws.contains j&&lU tab i j);let hi:=cnt ops.size (fun j=>ws.contains j&& !lU tab j i&& !(j==i))
   if ws.contains i then lo==ixX ws i&&hi==ixX ws i&&ws.getD (ixX ws i) 0==i
   else(List.range (hi+1)).all fun k=>decide (k<lo)||k==ixX ws i||sA o.op||(o.dst.isSome&&ps.contains (i,qX ws k))
def vOf(o:Oper)(b:St):AV:=match o.dst with|some d=>get b.T d|none=>.junk
def cHs:List Bool→List St→Prop
 |true::m,_::b::r=>cHs m (b::r)
 |false::m,a::b::r=>b.H=a.H∧cHs m (b::r)
 |_,_=>True
def cPs(P:Program)(ops:Array Oper)(SL:List St):List (Nat×Nat)→Prop
 | []=>True
 |(i,q)::ps=>(match ops[i]?,SL[i]?,SL[i+1]?,SL[q]? with
  |some o,some a,some b,some m=>evalOp P o.op ⟨a.T,m.H,a.D⟩=some (vOf o b,m.H)
  |_,_,_,_=>False)∧cPs P ops SL ps
def ny:List St→St
 | []=>⟨[],[],[]⟩
 | [a]=>a
 |_::b::r=>ny (b::r)
theorem xI{SL:List St}:∀{ps:List (Nat×Nat)},cPs P ops SL ps→∀{i q:Nat},ps.contains (i,q)=true→∀{o:Oper} {a b m:St},ops[i]? =some o→SL[i]? =some a→SL[i+1]? =some b→SL[q]? =some m→evalOp P o.op ⟨a.T,m.H,a.D⟩=some (vOf o b,m.H):=by
 intro ps;induction ps with
 |nil=>intro _ i q hc;simp at hc
 | cons x ps ih=>
  intro h i q hc o a b m h1 h2 h3 h4;obtain⟨i',q'⟩:=x;simp only[cPs]at h;by_cases e:(i,q)=(i',q')
  ·cases e
   have:=h.1;rw[h1,h2,h3,h4]at this;exact this
  ·refine ih h.2 (by simpa[List.contains_cons,e]using hc) h1 h2 h3 h4
theorem xJ:∀{wm:List Bool} {SL:List St},cHs wm SL→∀{i:Nat} {a b:St},wm[i]? =some false→SL[i]? =some a→SL[i+1]? =some b→b.H=a.H:=by
 intro wm;induction wm with
 |nil=>intro SL _ i a b h;simp at h
 | cons x m ih=>
  intro SL h i a b hw ha hb
  match SL,h,ha,hb with
  | [],_,ha,_=>simp at ha
  | [c],_,_,hb=>simp at hb
  | c::d::r,h,ha,hb=>
   cases i with
   |zero=>
    simp at hw ha hb;subst hw;subst ha;subst hb;exact h.1
   |succ i=>
    refine ih (SL:=d::r) ?_ (i:=i) (by simpa using hw) (by simpa using ha) (by simpa using hb);cases x
    ·exact h.2
    ·exact h
theorem qS(S:Nat→St):∀N,ny ((List.range (N+1)).map S)=S N:=by
 have key:∀(l:List St) (a:St),ny (l++[a])=a:=by
  intro l;induction l with
  |nil=>intro a;rfl
  |cons x l ih=>
   intro a;cases l with
   |nil=>rfl
   |cons y l=>exact ih a
 intro N;rw[List.range_succ,List.map_append];exact key _ _
theorem kF{o:Op}{a:St}{c:Cl×List AV}(h:ae a o=some c)(b:St):evalOp P o b=none:=by
 cases o<;>simp only[ae]at h<;>first|(cases h;done)|skip
 rename_i c';obtain⟨cl,args,ts⟩:=c';cases cl with
 |value f=>rfl
 |invoke r m=>rfl
 |builtin b=>simp at h
theorem kP(T:List (Nat×AV))(K K':List OB)(D:List DE)(o:Op):ae ⟨T,K,D⟩ o=ae ⟨T,K',D⟩ o:=by
 have h:=Ba T K K' D;unfold ae;rw[h]
theorem nA{o:Op}{a:St}{c:Cl×List AV}(h:ae a o=some c):sA o=false:=by
 cases o<;>simp only[ae]at h<;>first|(cases h;done)|rfl
theorem uh {N M : Nat} {ws:List Nat} {wm:List Bool} {ps:List (Nat×Nat)} {tab:List Nat} (hf:fits n ops=true) {S:Nat→St} {v:Nat→AV} (hN:N=ops.size) (hMN:M≤N) (ht:uf P ops ops.toList M S v)
    (hck:mT ops tab ws wm ps M=true) (hH:cHs wm ((List.range (M+1)).map S)) (hP:cPs P ops ((List.range (M+1)).map S) ps) (hwm:wm.length=M):
    (∀i,i≤M→(S i).D=(S 0).D)∧(∀i,i≤M→(S i).H=(S (qX ws (ixX ws i))).H)∧
    (∀(i:Nat) (o:Oper) (k:Nat),i<M→ops[i]? =some o→cnt ops.size (fun j=>ws.contains j&&lU tab i j)≤k→k≤cnt ops.size (fun j=>ws.contains j&& !lU tab j i&& !(j==i))→
      ie P n m R ops o ⟨only ops o (S i).T,(S (qX ws k)).H,(S 0).D⟩ (.val (v i) (S (qX ws (k+(if ws.contains i=true then 1 else 0)))).H)):=by
  have hsl: ∀i,i≤M→((List.range (M+1)).map S)[i]? =some (S i):=by
    intro i hi;rw[List.getElem?_map,List.getElem?_range (by omega)];rfl
  have hget: ∀(i:Nat) (o:Oper),ops[i]? =some o→ops.toList[i]? =some o:=fun i o h=>by rw[Array.getElem?_toList];exact h
  simp only[mT,Bool.and_eq_true]at hck;obtain⟨hlt,hck⟩:=hck;have hop: ∀i,i<M→ ∃o,ops[i]? =some o:=fun i hi=>⟨_,Array.getElem?_eq_getElem (by omega)⟩;have hD: ∀i,i≤M→(S i).D=(S 0).D:=by
    intro i;induction i with
    |zero=>intro _;rfl
    | succ i ih=>
      intro hi;obtain⟨o,ho⟩:=hop i (by omega);have:=(ht i o (by omega) (hget i o ho)).2;rw[this];have e:(({S i with H:=(S (i+1)).H}:St).put o.dst (v i)).D=(S i).D:=by cases o.dst<;>rfl
      rw[e,ih (by omega)]
  have hat: ∀(i:Nat) (o:Oper),i<M→ops[i]? =some o→_:=fun i o hi ho=>by
    have:=bA hck i hi;rw[ho]at this;exact this
  have hwmi: ∀i,i<M→wm[i]? =some (ws.contains i):=by
    intro i hi;obtain⟨o,ho⟩:=hop i hi;have:=hat i o hi ho;simp only[Bool.and_eq_true,beq_iff_eq]at this;have h1:=this.1;rw[List.getD_eq_getElem?_getD]at h1;rw[List.getElem?_eq_getElem (by omega)]at h1 ⊢;simpa using h1
  have hkeep: ∀i,i<M→ws.contains i=false→(S (i+1)).H=(S i).H:=fun i hi hw=>
    xJ hH (by rw[hwmi i hi,hw]) (hsl i (by omega)) (hsl (i+1) (by omega))
  have hmem: ∀i,i≤M→(S i).H=(S (qX ws (ixX ws i))).H:=by
    intro i;induction i with
    |zero=>intro _;rfl
    | succ i ih=>
      intro hi;have hih:=ih (by omega);have hix:ixX ws (i+1)=ixX ws i+(if ws.contains i=true then 1 else 0):=by simp only[ixX,cnt]
      by_cases hw:ws.contains i=true
      · obtain⟨o,ho⟩:=hop i (by omega)
        have:=hat i o (by omega) ho;simp only[Bool.and_eq_true,beq_iff_eq]at this;have this:=this.2;rw[if_pos hw]at this;simp only[Bool.and_eq_true,beq_iff_eq]at this;have h3:=this.2;rw[hix,if_pos hw];simp only[qX,h3]
      · have hw':ws.contains i=false:=by simpa using hw
        rw[hix,if_neg hw,Nat.add_zero];exact(hkeep i (by omega) hw').trans hih
  refine⟨hD,hmem,?_⟩;intro i o k hi ho hlo hhi;obtain⟨hs,hput⟩:=ht i o hi (hget i o ho);have hchk:=hat i o hi ho;simp only[Bool.and_eq_true,beq_iff_eq]at hchk;have hchk:=hchk.2;by_cases hw:ws.contains i=true
  · rw[if_pos hw]at hchk
    simp only[Bool.and_eq_true,beq_iff_eq]at hchk;have hk:k=ixX ws i:=by omega
    rw[if_pos hw,hk,←hmem i (by omega)];have h2:qX ws (ixX ws i+1)=i+1:=by simp only[qX,hchk.2]
    rw[h2];exact hs.step hf _
  · have hw':ws.contains i=false:=by simpa using hw
    rw[if_neg hw,Nat.add_zero];rw[if_neg hw]at hchk;have hchk:=List.all_eq_true.1 hchk k (List.mem_range.2 (by omega));simp only[Bool.or_eq_true,Bool.and_eq_true,decide_eq_true_eq,beq_iff_eq]at hchk;rw[hkeep i hi hw']at hs;by_cases hk:k=ixX ws i
    · rw[hk,←hmem i (by omega)]
      exact hs.step hf _
    · obtain ⟨K,hK⟩: ∃K,K=(S (qX ws k)).H:=⟨_,rfl⟩
      rw[←hK];have hcall: ∀c args,ae (S i) o.op=some (c,args)→False:=by
        intro c args hc;rcases hchk with((h1|h1)|h1)|h1
        · omega
        · exact hk h1
        · rw[nA hc]at h1;cases h1
        · have hq:qX ws k≤M:=by
            cases k with
            |zero=>exact Nat.zero_le _
            | succ k=>
              simp only[qX];rw[List.getD_eq_getElem?_getD];cases hx:ws[k]? with
              |none=>simp;omega
              | some j=>
                have:=List.all_eq_true.1 hlt j (List.mem_of_getElem? hx);simp at this ⊢;omega
          have:=xI hP h1.2 ho (hsl i (by omega)) (hsl (i+1) (by omega)) (hsl _ hq);rw[kF hc]at this;cases this
      have hs':SOK P ops o ⟨(S i).T,K,(S i).D⟩ (v i) K:=by
        rcases hs with⟨hg,hv,_⟩|⟨hg,hc,hp,he⟩|⟨hg,c,args,hc,_⟩
        · exact .inl ⟨hg,hv,rfl⟩
        · refine .inr (.inl ⟨hg,(kP _ _ _ _ _).trans hc,hp,?_⟩)
          rcases hchk with((h1|h1)|h1)|h1
          · omega
          · exact absurd h1 hk
          · exact nw h1 he K
          · have hq:qX ws k≤M:=by
              cases k with
              |zero=>exact Nat.zero_le _
              | succ k=>
                simp only[qX];rw[List.getD_eq_getElem?_getD];cases hx:ws[k]? with
                |none=>simp;omega
                | some j=>
                  have:=List.all_eq_true.1 hlt j (List.mem_of_getElem? hx);simp at this ⊢;omega
            have:=xI hP h1.2 ho (hsl i (by omega)) (hsl (i+1) (by omega)) (hsl _ hq);have hvo:vOf o (S (i+1))=v i:=by
              obtain⟨d,hd⟩:=Option.isSome_iff_exists.1 h1.1;rw[hput];simp[vOf,hd,St.put,get]
            rw[hvo,←hK]at this;exact this
        · exact(hcall c args hc).elim
      exact hs'.step hf _
theorem o8(hst:jw ops (bP ops.toList [])=true):
    (∀(i:Nat) (o:Oper) (e:Edge),ops[i]? =some o→e∈o.after→Region.binds .any e=true→e.on<i)∧
    (∀(i j:Nat) (o:Oper),ops[i]? =some o→lU (bP ops.toList []) i j=true→ ∃e∈o.after,Region.binds .any e=true∧(j=e.on∨lU (bP ops.toList []) e.on j=true))∧
    (∀(i:Nat) (o:Oper) (t:Nat) (j:Nat) (o':Oper),ops[i]? =some o→t∈o.looksAt ops→ops[j]? =some o'→o'.dst=some t→lU (bP ops.toList []) i j=true∨(i<j∧lU (bP ops.toList []) j i=true))∧
    (∀(i j:Nat) (o o':Oper) (d:Nat),ops[i]? =some o→ops[j]? =some o'→o.dst=some d→o'.dst=some d→i=j):=by
  have hstI: ∀(i:Nat) (o:Oper),ops[i]? =some o→(o.after.toList.all (fun e=> !Region.binds .any e||decide (e.on<i))&&(bP ops.toList []).getD i 0==fR (bP ops.toList []) o&&
      (o.looksAt ops).all (fun t=>(List.range ops.size).all fun j=>match ops[j]? with|some o'=> !ig o' t||(((bP ops.toList []).getD i 0).testBit j||(decide (i<j)&&((bP ops.toList []).getD j 0).testBit i))|none=>true)&&
      (match o.dst with|none=>true|some d=>(List.range ops.size).all fun j=>j==i||match ops[j]? with|some o'=> !ig o' d|none=>true))=true:=by
    intro i o ho;have:=bA hst i (Array.getElem?_eq_some_iff.1 ho).1;rw[ho]at this;exact this
  refine⟨?_,?_,?_,?_⟩
  · intro i o e ho he hb
    have:=hstI i o ho;simp only[Bool.and_eq_true]at this;have h1:=List.all_eq_true.1 this.1.1.1 e (Array.mem_toList_iff.2 he);simpa[hb]using h1
  · intro i j o ho hj
    have:=hstI i o ho;simp only[Bool.and_eq_true,beq_iff_eq]at this;have h1:=this.1.1.2;simp only[lU,h1]at hj;unfold fR at hj;rcases lF _ _ _ _ hj with h2|⟨e,he,hb,hje⟩
    · simp at h2
    · exact⟨e,Array.mem_toList_iff.1 he,hb,hje⟩
  · intro i o t j o' ho ht ho' hd
    have:=hstI i o ho;simp only[Bool.and_eq_true]at this;have h1:=bA (List.all_eq_true.1 this.1.2 t ht) j (Array.getElem?_eq_some_iff.1 ho').1;rw[ho']at h1;simp only[ig,hd]at h1;simpa[lU,Bool.or_eq_true,Bool.and_eq_true]using h1
  · intro i j o o' d ho ho' hd hd'
    have:=hstI i o ho;simp only[Bool.and_eq_true,hd]at this;have h1:=bA this.2 j (Array.getElem?_eq_some_iff.1 ho').1;rw[ho']at h1;have:j=i:=by simpa[ig,hd']using h1
    exact this.symm
theorem FB(a:St)(K:List OB)(d:Option Nat)(v:AV):(({a with H:=K}:St).put d v).T=(match d with|none=>a.T|some d=>(d,v)::a.T):=by cases d<;>rfl
theorem W.aO {id:Nat} (ws:List Nat) (wm:List Bool) (ps:List (Nat×Nat)) (hm:P.follows .mixedOrders=true) (hf:fits n ops=true) (hst:jw ops (bP ops.toList [])=true)
    (hck:(mT ops (bP ops.toList []) ws wm ps ops.size&&wm.length==ops.size)=true)
    (h:DT P ops (fun SL=>cHs wm SL∧cPs P ops SL ps∧Q .normal (ny SL)) (fun _ _ _ _=>False) ops.toList [] a):W P n m R (.region id ops true) Q a:=by
  simp only[Bool.and_eq_true,beq_iff_eq]at hck;obtain⟨hck,hwl⟩:=hck;rcases ug h with⟨S,v,h0,ht,hH,hP,hq⟩|⟨p,S,v,o,t,w,H',_,_,_,_,hx⟩
  · rw [List.nil_append,Array.length_toList]at hH hP hq
    rw[Array.length_toList]at ht;rw[qS]at hq;obtain⟨hD,hmem,hst'⟩:=uh (R:=R) (m:=m) hf (N:=ops.size) rfl (Nat.le_refl _) ht hck hH hP hwl;obtain⟨g1,g2,g3,g4⟩:=o8 hst;have hget: ∀(i:Nat) (o:Oper),ops[i]? =some o→ops.toList[i]? =some o:=fun i o h=>by rw[Array.getElem?_toList];exact h
    refine W.AO (af:=a) v (fun i=>(S i).T) (fun k=>(S (qX ws k)).H) (fun i=>ws.contains i) (fun i j=>lU (bP ops.toList []) i j) hm hf (by rw[h0]) ?_ (by simp only[qX];rw[h0]) g1 g2 g3 g4 ?_ ?_
    · intro i o ho
      have:=(ht i o (Array.getElem?_eq_some_iff.1 ho).1 (hget i o ho)).2;show(S (i+1)).T=_;rw[this,FB];cases o.dst<;>rfl
    · intro i o k ho hlo hhi
      have:=hst' i o k (Array.getElem?_eq_some_iff.1 ho).1 ho hlo hhi;rw[h0]at this;exact this
    · have e:S ops.size=⟨(S ops.size).T,(S (qX ws (cnt ops.size fun i=>ws.contains i))).H,a.D⟩:=by
        have:=hmem ops.size (Nat.le_refl _);have hd:=hD ops.size (Nat.le_refl _);rw[h0]at hd;rw[←hd];show S ops.size=⟨_,(S (qX ws (ixX ws ops.size))).H,_⟩
        rw[←this]
      rw[e]at hq;exact hq
  · exact hx.elim
end
section
variable{P:Program} {n m:Nat} {R:Option Nat} {Q:Ex→St→Prop} {a:St} {K:St→Prop} {KP:TypeId→AV→List OB→Prop} {dst:Option Nat} {KL:List St→Prop} {KQ:List St→TypeId→AV→List OB→Prop} {tr:List St}
theorem wu{ops:Array Oper}:DT P ops KL KQ [] tr a=KL (tr++[a]):=Eq.trans rfl rfl
theorem o9{ops:Array Oper}{d:Option Nat}{op:Op}{ty:TypeId}{pos:String}{af:Array Edge}{rest:List Oper}:
    DT P ops KL KQ (⟨d,op,ty,pos,af,none⟩::rest) tr a=DS P (DT P ops KL KQ rest (tr++[a])) (KQ (tr++[a])) d op a:=Eq.trans rfl rfl
theorem Bb{ops:Array Oper}{d:Option Nat}{op:Op}{ty:TypeId}{pos:String}{af:Array Edge}{g:Nat×Bool}{rest:List Oper}:
    DT P ops KL KQ (⟨d,op,ty,pos,af,some g⟩::rest) tr a=DG P (DT P ops KL KQ rest (tr++[a])) (KQ (tr++[a])) d op a (gdA ops a (some g)):=Eq.trans rfl rfl
theorem DZ{op:Op}:DG P K KP dst op a (some true)=DS P K KP dst op a:=Eq.trans rfl rfl
theorem Bc{op:Op}:DG P K KP dst op a (some false)=K (a.put dst (.tup [])):=Eq.trans rfl rfl
theorem an.pure{f:FuncId}{args:List AV}{r:AV}(hp:aa P f args (.ret r))(hh:AV.hfs args=true)(h:K (a.put dst r)):an P (.fn f) args dst a K KP:=
 .inl ⟨r,a.H,aa.sh (by unfold aX;rw[if_pos hh]) hp,h⟩
theorem an.aX{f:FuncId}{args:List AV}(args':List AV){r:AV}(hp:aa P f args' (.ret r))(hl:Go.Av.aX a.H args (.ret r)=some args')(h:K (a.put dst r)):an P (.fn f) args dst a K KP:=
 .inl ⟨r,a.H,aa.sh hl hp,h⟩
theorem an.sh{c:Cl}{args:List AV}{H':List OB}{r:AV}(hp:ji P c args a.H (.ret r) H')(h:K ({a with H:=H'}.put dst r)):an P c args dst a K KP:=.inl ⟨r,H',hp,h⟩
theorem an.pan{f:FuncId}{args:List AV}{t:TypeId}{v:AV}(hp:aa P f args (.pan t v))(hh:AV.hfs args=true)(h:KP t v a.H):an P (.fn f) args dst a K KP:=
 .inr ⟨t,v,a.H,aa.sh (by unfold Go.Av.aX;rw[if_pos hh]) hp,h⟩
theorem I4{m:List Bool}{x b:St}{r:List St}:cHs (true::m) (x::b::r)=cHs m (b::r):=Eq.trans rfl rfl
theorem Bd{m:List Bool}{x b:St}{r:List St}:cHs (false::m) (x::b::r)=(b.H=x.H∧cHs m (b::r)):=Eq.trans rfl rfl
theorem Be{l:List St}:cHs [] l=True:=by cases l<;>simp[cHs]
theorem sB{x:St}:ny [x]=x:=Eq.trans rfl rfl
theorem sC{x b:St}{r:List St}:ny (x::b::r)=ny (b::r):=Eq.trans rfl rfl
end
end Go.Av
