/- A framework of abstract values: no program in sight; under the conditions named at each theorem. -/
import Derived.Test.YtekcidbpejicdaaGreatDoorZbP1
import Derived.Laws.LoneSync
import Derived.OrdersIn
import Derived.RangeFuncSeq
import Derived.TacticsIn
namespace Go.Av
set_option linter.unusedVariables false
set_option linter.unusedSimpArgs false
open Go.RowKit (Below)
def aU(t:Bool)(x y:AV):AV:=
 match x,y with
 | .bool p,.bool q=>.bool (cond t p q)
 |x,y=>if t=true then x else y
def wu:Fn→Bool
 | .func _=>true
 |_=>false
def bl(x:AV):Option AV:=
 match x with
 | .ptr a b=>some (.ptr a b)
 | .vptr l=>some (.vptr l)
 | .func fn fs cs=>if wu fn then some (.func fn fs cs)else none
 |_=>none
def gD(P:Program)(t:TypeId)(name:String):Option FuncId:=
 match P.info? t with
 | some i=>match i.methods.find? (fun m=>m.name==name)with
  |some m=>match m.path.toList,m.func,P.underlying t with
   | [],some (f,true),some (.pointer _)=>some f
   |_,_,_=>none
  |none=>none
 |none=>none
def nG(P:Program)(x:AV):Option AV:=
 match x with
 | .func (.method name) (.iface t v::fs) cs=>if(gD P t name).isSome=true then some (.func (.method name) (.iface t v::fs) cs)else none
 |_=>none
def fL (P:Program) (x:AV) (t u:TypeId) (ok:Bool):Option AV:=
 match x with
 | .iface d v=>match P.underlying u with
  | some (.interface want)=>match P.info? d with
   |some i=>match Instr.missingMethod want i.methods with
    |none=>some (if ok=true then .tup [.iface d v,.bool true]else .iface d v)
    |some _=>if ok=true then(bS P u).map fun z=>.tup [z,.bool false]else none
   |none=>none
  |some _=>if d=u then some (if ok=true then .tup [v,.bool true]else v)else if ok=true then(bS P u).map fun z=>.tup [z,.bool false]else none
  |none=>none
 | .nilif=>match P.underlying u with
  |some _=>if ok=true then(bS P u).map fun z=>.tup [z,.bool false]else none
  |none=>none
 |_=>none
def uS(P:Program)(src dst:TypeId)(x:AV)(H:List OB):Option AV:=
 match P.underlying src,P.underlying dst,x with
 |some (.pointer t),some .unsafePointer,.ptr id off=>match H[id]? with
  |some (.cells cs _)=>if off<cs.length∧(P.info? t).map (fun i=>decide (i.size=0))=some false then some (.ptr id off)else none
  |_=>none
 |_,_,_=>none
def bM(P:Program)(op:BinOp)(t:TypeId)(x y:AV):Option AV:=
 match(match x,y with
  | .ptr _ _,.nilptr| .nilptr,.ptr _ _| .vptr _,.nilptr| .nilptr,.vptr _=>some false
  | .nilptr,.nilptr=>some true
  |_,_=>none:Option Bool)with
 |some b=>match P.underlying t,op with
  |some (.pointer _),.eql=>some (.bool b)
  |some (.pointer _),.neq=>some (.bool !b)
  |_,_=>none
 |none=>none
def zH(P:Program)(t:TypeId):Option (Nat×TypeId):=
 match P.underlying t with
 |some (.array n e)=>some (n,e)
 |some (.pointer arr)=>match P.underlying arr with
  |some (.array n e)=>some (n,e)
  |_=>none
 |_=>none
def fM(P:Program)(t:TypeId)(x:AV)(H:List OB):Option AV:=
 match zH P t with
 | some (n,e)=>match tsz P e,esA P e,x with
  |some k,some wd,.ptr id off=>match H[id]? with
   |some (.cells cs false)=>if k=esz wd∧off+n*k=cs.length∧n≤ay∧0<n then some (.sl id off n wd)else none
   |_=>none
  |some k,some 0,.vptr cs=>if k=1∧n=cs.length∧n≤ay∧0<n∧cs.all AV.one=true then some (.vsl 0 false cs)else none
  |some k,some (wd+1),.vptr cs=>if k=wd∧n*k=cs.length∧n≤ay∧0<n then some (.vsl (wd+1) false (fK k n cs))else none
  |_,_,_=>none
 |none=>none
def deN:AV→AV
 | .nilsl=>.vsl 0 true []
 |v=>v
def bC(P:Program)(t:TypeId):Nat:=
 match P.underlying t with
 |some (.slice _)=>1
 |some (.map _ _)=>2
 |some (.func _ _ _)=>3
 |some (.interface _)=>4
 |_=>0
def dB(P:Program)(op:BinOp)(t:TypeId)(x:AV)(y:Operand):Option AV:=
 match(match y,x with
  | .const (.slice none _ _),.vsl _ _ (_::_)| .const (.slice none _ _),.sl _ _ _ _=>if bC P t=1 then some false else none
  | .const (.slice none _ _),.nilsl=>if bC P t=1 then some true else none
  | .const (.map none),.map _| .const (.map none),.vmap _ _=>if bC P t=2 then some false else none
  | .const (.map none),.nilmap=>if bC P t=2 then some true else none
  | .const .nilFunc,.func _ _ _=>if bC P t=3 then some false else none
  | .const .nilFunc,.nilfunc=>if bC P t=3 then some true else none
  | .const .nilIface,.iface _ _=>if bC P t=4 then some false else none
  | .const .nilIface,.nilif=>if bC P t=4 then some true else none
  |_,_=>none:Option Bool)with
 |some b=>match op with
  | .eql=>some (.bool b)
  | .neq=>some (.bool !b)
  |_=>none
 |none=>none
def an(P:Program)(o:Op)(a:St):Bool:=
 match o with
 | .binOp .eql t x (.const (.slice none _ _)) _=>match a.ev x with
  | .vsl _ _ []=>decide (bC P t=1)
  |_=>false
 |_=>false
def evalOp (P:Program) (o:Op) (a:St):Option (AV×List OB):=
 match o with
 | .move x| .assign x=>some (a.ev x,a.H)
 | .pick c x y=>match a.ev c with
  | .bool t=>some (aU t (a.ev x) (a.ev y),a.H)
  |_=>none
 | .alloc t=>(bS P t).map fun z=>(.ptr a.H.length 0,a.H++[.cells z.cells false])
 | .box t x=>if(a.ev x).told=true then some (.ptr a.H.length 0,a.H++[.cells (a.ev x).cells false])else none
 | .build t ps=>(bW P t (ps.toList.map fun p=>(p.1,a.ev p.2))).map fun v=>(v,a.H)
 | .buildSlice t n ps=>(au P t n (ps.toList.map fun p=>(p.1,a.ev p.2))).map fun v=>(v,a.H)
 | .load t x=>(ao P t (a.ev x) a.H).map fun v=>(v,a.H)
 | .store t x v=>(aA P t (a.ev x) (a.ev v) a.H).map fun H'=>(.junk,H')
 | .nilCheck x=>match bl (a.ev x)with
  |some v=>some (v,a.H)
  |none=>(nG P (a.ev x)).map fun v=>(v,a.H)
 | .binOp op t x y _=>match aH P op t (a.ev x) (a.ev y)with
  |some v=>some (v,a.H)
  |none=>match bM P op t (a.ev x) (a.ev y)with
   |some v=>some (v,a.H)
   |none=>(dB P op t (a.ev x) y).map fun v=>(v,a.H)
 | .unOp op _ x=>(qK op (a.ev x)).map fun v=>(v,a.H)
 | .convert s d x=>match bx P s d (a.ev x) a.H with
  |some r=>some r
  |none=>(uS P s d (a.ev x) a.H).map fun v=>(v,a.H)
 | .makeInterface t x=>match P.underlying t with
  |some (.interface _)=>none
  |some _=>some (.iface t (a.ev x),a.H)
  |none=>none
 | .makeFunc fn fs cs=>some (.func fn (fs.toList.map a.ev) (cs.toList.map a.ev),a.H)
 | .makeMap _ none=>some (lG a.H)
 | .range t x=>fw P t (a.ev x) a.H
 | .next x b=>fy b (a.ev x) a.H
 | .entry x=>(qQ (a.ev x) a.H).map fun v=>(v,a.H)
 | .makeSlice t l c=>cX P t (a.ev l) (a.ev c) a.H
 | .slice t x lo hi mx=>match aM P t (deN (a.ev x)) (lo.map a.ev) (hi.map a.ev) (mx.map a.ev)with
  |some v=>some (v,a.H)
  |none=>match lo,hi,mx with
   |none,none,none=>(fM P t (a.ev x) a.H).map fun v=>(v,a.H)
   |_,_,_=>none
 | .fieldAddr t x f=>(aq P t (a.ev x) f).map fun v=>(v,a.H)
 | .field t x f=>(mW P t (a.ev x) f).map fun v=>(v,a.H)
 | .indexAddr t x i=>(ak P t (a.ev x) (a.ev i) a.H).map fun v=>(v,a.H)
 | .index t x i=>(cf P t (a.ev x) (a.ev i)).map fun v=>(v,a.H)
 | .lookup t x k ok=>(dA P t (a.ev x) (a.ev k) ok a.H).map fun v=>(v,a.H)
 | .mapUpdate t m k x| .insert t m k x=>(eU P t (a.ev m) (a.ev k) (a.ev x) a.H).map fun H'=>(.junk,H')
 | .typeAssert x t u ok=>(fL P (a.ev x) t u ok).map fun v=>(v,a.H)
 | .extract t i=>match a.ev t with
  | .tup l=>(l[i]?).map fun v=>(v,a.H)
  |_=>none
 | .call c=>match c.callee with
  | .builtin b=>match b,c.args.toList,c.argTypes.toList with
   | .len,[x],[t]=>(aI P t (deN (a.ev x)) a.H).map fun v=>(v,a.H)
   | .cap,[x],[t]=>(zy P t (a.ev x)).map fun v=>(v,a.H)
   | .append,[x,y],[t,u]=>match aE P t u (deN (a.ev x)) (deN (a.ev y)) a.H with
    |some r=>some r
    |none=>lI P t u (deN (a.ev x)) (a.ev y) a.H
   | .copy,[x,y],[t,_]=>lH P t (deN (a.ev x)) (deN (a.ev y)) a.H
   | .clear,[x],[t]=>kr P t (deN (a.ev x)) a.H
   | .max,[x,y],_=>(zD (a.ev x) (a.ev y)).map fun v=>(v,a.H)
   | .min,[x,y],_=>(zE (a.ev x) (a.ev y)).map fun v=>(v,a.H)
   |_,_,_=>none
  |_=>none
 |_=>none
def bD(P:Program)(x:Sem Next)(w0:World)(F0 F:Nat→Nat→Prop)(μ:Nat→Option Loc)(w:World)(v:AV)(H':List OB):Prop:=
 ∃nx V w' F' μ',x.run P w=.ok nx w'∧(nx=.value V∨(nx=.skip∧V=undef))∧Ext F w μ F' w' μ'∧Sim w0 F0 F' μ' H' w'∧VR F' w' μ' v V
section
variable{P:Program} {w0:World} {F0 F:Nat→Nat→Prop} {μ:Nat→Option Loc} {H:List OB} {w:World} {n:Nat} {a:St} {act:Act}
theorem bD.of{x:Sem Value}{v:AV}{H':List OB}(h:bT P x w0 F0 F μ w v H'):bD P (do pure (.value (←x))) w0 F0 F μ w v H':=by
 obtain⟨V,w',F',μ',h1,h2,h3,h4⟩:=h;exact⟨.value V,V,w',F',μ',by simp[h1],.inl rfl,h2,h3,h4⟩
theorem bD.ofU{x:Sem Unit}{H':List OB}{w':World}(h1:x.run P w=.ok () w')(h2:Ext F w μ F w' μ)(h3:Sim w0 F0 F μ H' w'):bD P (do x;pure .skip) w0 F0 F μ w .junk H':=
 ⟨.skip,undef,w',F,μ,by simp[h1],.inr ⟨rfl,rfl⟩,h2,h3,.junk _⟩
theorem cd.evs(t:cd n F μ a act w)(l:List Operand):VRs F w μ (l.map a.ev) (l.map act.eval):=by
 induction l with
 |nil=>exact .nil
 |cons x l ih=>exact .cons _ _ _ _ (t.ev x) ih
theorem cd.evp(t:cd n F μ a act w)(l:List (Nat×Operand)):VRp F w μ (l.map fun p=>(p.1,a.ev p.2)) (l.map fun p=>(p.1,act.eval p.2)):=by
 induction l with
 |nil=>exact .nil
 |cons x l ih=>exact .cons _ _ _ _ _ (t.ev x.2) ih
theorem cd.evo(t:cd n F μ a act w)(x:Option Operand):VRo F w μ (x.map a.ev) (x.map act.eval):=by
 cases x with
 |none=>exact .none
 |some x=>exact .some _ _ (t.ev x)
theorem CY{t:Bool}{x y:AV}{X Y:Value}(hx:VR F w μ x X)(hy:VR F w μ y Y):VR F w μ (aU t x y) (if t then X else Y):=by
 unfold aU;split
 ·cases hx;cases hy;cases t<;>exact .bool _
 ·cases t<;>simp[hx,hy]
theorem uT{t:TypeId}{name:String}{f:FuncId}(h:gD P t name=some f)(V:Value)(w:World):(method (P.types.size+Made.depth) t V name).run P w=.ok (f,V) w:=by
 unfold gD at h;split at h
 case h_2=>cases h
 rename_i i hi;split at h
 case h_2=>cases h
 rename_i m hm;split at h
 case h_2=>cases h
 rename_i g e hp hg hu;cases h;have:P.types.size+Made.depth=(P.types.size+(Made.depth - 1))+1:=by have:Made.depth=(Made.depth - 1)+1:=rfl;omega
 rw[this];simp[method,run_typeInfo hi,hm,hp,follow,hg,receiverAt,run_underlying hu,Place.get]
theorem qS{t:TypeId}{name:String}{f:FuncId}(h:gD P t name=some f)(V:Value)(w:World):(nilAhead (P.types.size+Made.depth) t V name).run P w=.ok (some false) w:=by
 unfold gD at h;split at h
 case h_2=>cases h
 rename_i i hi;split at h
 case h_2=>cases h
 rename_i m hm;split at h
 case h_2=>cases h
 rename_i g e hp hg hu;cases h;have:P.types.size+Made.depth=(P.types.size+(Made.depth - 1))+1:=by have:Made.depth=(Made.depth - 1)+1:=rfl;omega
 rw[this];simp[nilAhead,run_typeInfo hi,hm,hp,followBlind,hg]
theorem ye{x v:AV}{X:Value}(hx:VR F w μ x X)(h:nG P x=some v){o:Oper}{ρ:Operand→Value}{y:Operand}(ho:o.op=.nilCheck y)(hy:ρ y=X):(execOp ρ o).run P w=.ok (.value X) w∧v=x:=by
 unfold nG at h;split at h
 case h_2=>cases h
 rename_i name t v0 fs cs;split at h
 case isFalse=>cases h
 rename_i hm;cases h;obtain⟨f,hf⟩:=Option.isSome_iff_exists.1 hm;cases hx with
 | func _ _ _ Fs Cs hfs hcs=>
  obtain⟨Fl,rfl⟩:∃l:List Value,Fs=l.toArray:=⟨Fs.toList,by simp⟩
  cases hfs with
  | cons _ V _ Vs hv ht=>
   cases hv with
   |iface _ _ V0 hV0=>
    refine⟨?_,rfl⟩;unfold execOp;rw[ho];simp[hy,qS hf]
theorem sL(s:Sim w0 F0 F μ H w){t u:TypeId}{ok:Bool}{x v:AV}{X:Value}(hx:VR F w μ x X)(h:fL P x t u ok=some v):bT P (Instr.typeAssert X t u ok) w0 F0 F μ w v H:=by
 have hz:∀z,bS P u=some z→∃V,(zeroValue u).run P w=.ok V w∧VR F w μ z V:=fun z hz=>let ⟨V,h1,h2,_⟩:=dy (P:=P) (F:=F) (μ:=μ) hz w;⟨V,h1,h2⟩
 unfold fL at h;split at h
 ·rename_i d v0
  cases hx with
  | iface _ _ V0 hV0=>
   split at h
   ·rename_i want hu
    split at h
    case h_2=>cases h
    rename_i i hi;split at h
    ·rename_i hm
     cases h;cases ok
     ·exact .aN s (V:=.iface d V0) (by simp[Instr.typeAssert,run_underlying hu,run_typeInfo hi,hm]) (.iface _ _ _ hV0)
     ·exact .aN s (V:=.tuple #[.iface d V0,.bool true]) (by simp[Instr.typeAssert,run_underlying hu,run_typeInfo hi,hm]) (.tup _ _ (.cons _ _ _ _ (.iface _ _ _ hV0) (.cons _ _ _ _ (.bool _) .nil)))
    ·rename_i mm hm
     split at h
     case isFalse=>cases h
     rename_i hok;subst hok;rw[Option.map_eq_some_iff]at h;obtain⟨z,h1,rfl⟩:=h;obtain⟨Z,h2,h3⟩:=hz z h1;exact .aN s (V:=.tuple #[Z,.bool false]) (by simp[Instr.typeAssert,run_underlying hu,run_typeInfo hi,hm,h2]) (.tup _ _ (.cons _ _ _ _ h3 (.cons _ _ _ _ (.bool _) .nil)))
   ·rename_i dd hni hu
    split at h
    ·rename_i hd
     subst hd;cases h;cases ok
     ·exact .aN s (V:=V0) (by simp only[Instr.typeAssert,Sem.run_bind,run_underlying hu,Result.andThen];cases dd<;>first|(exact(hni _ rfl).elim)|simp) hV0
     ·exact .aN s (V:=.tuple #[V0,.bool true]) (by simp only[Instr.typeAssert,Sem.run_bind,run_underlying hu,Result.andThen];cases dd<;>first|(exact(hni _ rfl).elim)|simp) (.tup _ _ (.cons _ _ _ _ hV0 (.cons _ _ _ _ (.bool _) .nil)))
    ·rename_i hd
     split at h
     case isFalse=>cases h
     rename_i hok;subst hok;rw[Option.map_eq_some_iff]at h;obtain⟨z,h1,rfl⟩:=h;obtain⟨Z,h2,h3⟩:=hz z h1;exact .aN s (V:=.tuple #[Z,.bool false]) (by simp only[Instr.typeAssert,Sem.run_bind,run_underlying hu,Result.andThen];cases dd<;>first|(exact(hni _ rfl).elim)|simp[hd,h2]) (.tup _ _ (.cons _ _ _ _ h3 (.cons _ _ _ _ (.bool _) .nil)))
   ·cases h
 ·cases hx with
  |nilif=>
   split at h
   case h_2=>cases h
   rename_i dd hu;split at h
   case isFalse=>cases h
   rename_i hok;subst hok;rw[Option.map_eq_some_iff]at h;obtain⟨z,h1,rfl⟩:=h;obtain⟨Z,h2,h3⟩:=hz z h1;exact .aN s (V:=.tuple #[Z,.bool false]) (by simp only[Instr.typeAssert,Sem.run_bind,run_underlying hu,Result.andThen];cases dd<;>simp[h2]) (.tup _ _ (.cons _ _ _ _ h3 (.cons _ _ _ _ (.bool _) .nil)))
 ·cases h
theorem VR.deN{v:AV}{V:Value}(h:VR F w μ v V):VR F w μ (deN v) V:=by
 cases v with
 |nilsl=>cases h with|nilsl=>exact .vsl 0 true [] none 0 (fun _=>rfl) (Nat.le_refl _) (Nat.zero_le _) (.nil _ _)
 |_=>exact h
theorem CZ(s:Sim w0 F0 F μ H w){src dst:TypeId}{x v:AV}{X:Value}(hx:VR F w μ x X)(h:uS P src dst x H=some v):bT P (convert src dst X) w0 F0 F μ w v H:=by
 unfold uS at h;split at h
 case h_2=>cases h
 rename_i t id off hs hd;split at h
 case h_2=>cases h
 rename_i cs opn hid;split at h
 case isFalse=>cases h
 rename_i hc;cases h;have hx':=hx;cases hx with
 | ptr _ _ L hμ=>
  have hob:=s.obs id _ hid;cases hob with
  |cells _ _ L' c el lo hi hμ' hB hw hcap hlen hfix hun hcs hF=>
   rw[hμ]at hμ';cases hμ';obtain⟨V,h1,_⟩:=hcs off cs[off] (List.getElem?_eq_getElem hc.1);have hcell:w.cell? ⟨L.block,L.off+off,none⟩=some V:=by rw[dH w _ _ c el (lo,hi) hw];exact h1
   exact .aN s (run_convert_to_unsafe hs hd hc.2 hcell) hx'
theorem uU (s:Sim w0 F0 F μ H w) {op:BinOp} {t:TypeId} {x y v:AV} {X Y:Value} {ox oy:Operand} (hx:VR F w μ x X) (hy:VR F w μ y Y) (h:bM P op t x y=some v):
    bT P (do eqGuard op t ox oy X Y;binOp op t X Y) w0 F0 F μ w v H:=by
  unfold bM at h;split at h
  case h_2=>cases h
  rename_i b hb;have key: ∃A B:Option Addr,X=.pointer A∧Y=.pointer B∧(A=none∨B=none)∧b=(A.isNone&&B.isNone):=by
    split at hb<;>first|(cases hb;done)|skip
    all_goals
      cases hb;cases hx;cases hy
      first
        |exact⟨_,_,rfl,rfl,.inr rfl,rfl⟩
        |exact⟨_,_,rfl,rfl,.inl rfl,rfl⟩
  obtain⟨A,B,rfl,rfl,h1,h2⟩:=key;have hg:(eqGuard op t ox oy (.pointer A) (.pointer B)).run P w=.ok () w:=by unfold eqGuard;cases op<;>simp
  have he: ∀(d:Nat) (e:TypeId),P.underlying t=some (.pointer e)→(Op.equalIn (d+1) t (.pointer A) (.pointer B)).run P w=.ok b w:=by
    intro d e hu;subst h2;rcases h1 with rfl|rfl
    · simp[Op.equalIn,run_underlying hu]
    · cases A<;>simp[Op.equalIn,run_underlying hu]
  have he': ∀(e:TypeId),P.underlying t=some (.pointer e)→(Op.equal t (.pointer A) (.pointer B)).run P w=.ok b w:=fun e hu=>he 9999 e hu;split at h
  · rename_i e hu
    cases h;exact .aN s (by simp only[Sem.run_bind,hg,Result.andThen,binOp,he' e hu,Sem.run_pure]) (.bool _)
  · rename_i e hu
    cases h;exact .aN s (by simp only[Sem.run_bind,hg,Result.andThen,binOp,he' e hu,Sem.run_pure]) (.bool _)
  · cases h
theorem pf(s:Sim w0 F0 F μ H w){t:TypeId}{x v:AV}{X:Value}(hx:VR F w μ x X)(h:fM P t x H=some v):bT P (Instr.sliceAt t X none none none) w0 F0 F μ w v H:=by
 unfold fM at h;split at h
 case h_2=>cases h
 rename_i n e harr;have hrun:∀(b o k:Nat),tsz P e=some k→0<n→(Instr.sliceAt t (.pointer (some ⟨b,o,none⟩)) none none none).run P w=.ok (.slice (some ⟨b,o,none⟩) n n) w:=by
  intro b o k hk hn;unfold zH at harr;split at harr
  ·rename_i hu
   cases harr;simp[Instr.sliceAt,run_underlying hu,Instr.sliceBounds,aK hk,Instr.sureAddr,asAddr,Addr.add]
  ·rename_i arr hu
   split at harr
   ·rename_i hua
    cases harr;simp[Instr.sliceAt,run_underlying hu,run_underlying hua,Instr.slice,Instr.sliceBounds,aK hk,asAddr,Addr.add]
   ·cases harr
  ·cases harr
 split at h
 ·rename_i k wd id off hk he
  split at h
  case h_2=>cases h
  rename_i cs hid;split at h
  case isFalse=>cases h
  rename_i hc;cases h;cases hx with
  | ptr _ _ L hμ=>
   have hob:=s.obs id _ hid;cases hob with
   |cells _ _ L' c el lo hi hμ' hB hw hcap hlen hfix hun hcs hF=>
    rw[hμ]at hμ';cases hμ';exact .aN s (hrun _ _ k hk hc.2.2.2) (.sl id off n wd n L hμ (by rw[←hc.1,hfix rfl];exact hc.2.1) (Nat.le_refl _) hc.2.2.1)
 ·rename_i k cs hk he
  split at h
  case isFalse=>cases h
  rename_i hc;cases h;cases hx with
  |vptr _ b o hm=>
   have:=VR.vsl (F:=F) (w:=w) (μ:=μ) 0 false cs (some ⟨b,o,none⟩) n (fun h=>by cases h) (by omega) (by omega) (.at _ _ _ _ (VRe.IW hm (fun v hv=>dI (List.all_eq_true.1 hc.2.2.2.2 v hv))));rw[←hc.2.1]at this;exact .aN s (hrun _ _ k hk hc.2.2.2.1) this
 ·rename_i k wd cs hk he
  split at h
  case isFalse=>cases h
  rename_i hc;cases h;cases hx with
  | vptr _ b o hm=>
   have:=VR.vsl (F:=F) (w:=w) (μ:=μ) (wd+1) false (fK k n cs) (some ⟨b,o,none⟩) n (fun h=>by cases h) (by rw[dq];omega) (by rw[dq];exact hc.2.2.1) (.at _ _ _ _ (by
    rw[show esz (wd+1)=k from hc.1.symm]
    exact pJ k n cs b o hc.2.1.symm hm))
   rw[dq]at this;exact .aN s (hrun _ _ k hk hc.2.2.2) this
 ·cases h
theorem ku{t:TypeId}{k:Nat}(h:bC P t=k)(hk:k≠0):(∃e,P.underlying t=some (.slice e)∧k=1)∨(∃a b,P.underlying t=some (.map a b)∧k=2)∨(∃a b c,P.underlying t=some (.func a b c)∧k=3)∨(∃m,P.underlying t=some (.interface m)∧k=4):=by
 unfold bC at h;split at h
 ·rename_i e hu;exact .inl ⟨e,hu,h.symm⟩
 ·rename_i x y hu;exact .inr (.inl ⟨x,y,hu,h.symm⟩)
 ·rename_i x y z hu;exact .inr (.inr (.inl ⟨x,y,z,hu,h.symm⟩))
 ·rename_i m hu;exact .inr (.inr (.inr ⟨m,hu,h.symm⟩))
 ·exact(hk h.symm).elim
def C1(op:BinOp)(b:Bool):Bool:=match op with
 | .eql=>b
 |_=>!b
theorem zI {op:BinOp} {t:TypeId} {ox oy:Operand} {X Y:Value} {b:Bool} (hop:op=.eql∨op=.neq) (hg:(eqGuard op t ox oy X Y).run P w=.ok () w) (he: ∀d,(Op.equalIn (d+1) t X Y).run P w=.ok b w)
    (hb:binOp op t X Y=(match op with| .eql=>do pure (.bool (←Op.equal t X Y))|_=>do pure (.bool (!(←Op.equal t X Y))):Sem Value)):
    (do eqGuard op t ox oy X Y;binOp op t X Y:Sem Value).run P w=.ok (.bool (C1 op b)) w:=by
  have he':(Op.equal t X Y).run P w=.ok b w:=he 9999;rcases hop with rfl|rfl
  · simp only[Sem.run_bind,hg,Result.andThen,hb,he',Sem.run_pure,C1]
  · simp only[Sem.run_bind,hg,Result.andThen,hb,he',Sem.run_pure,C1]
theorem yf(s:Sim w0 F0 F μ a.H w)(ht:cd n F μ a act w){op:BinOp}{t:TypeId}{x y:Operand}{v:AV}(h:dB P op t (a.ev x) y=some v):
    bT P (do eqGuard op t x y (act.eval x) (act.eval y);binOp op t (act.eval x) (act.eval y)) w0 F0 F μ w v a.H:=by
  have hx:=ht.ev x;generalize act.eval x=X at hx ⊢;unfold dB at h;split at h
  case h_2=>cases h
  rename_i b hb;have hop:(op=.eql∨op=.neq)∧v=.bool (C1 op b):=by
    split at h<;>first|(cases h;done)|(cases h;exact⟨.inl rfl,rfl⟩)|(cases h;exact⟨.inr rfl,rfl⟩)
  obtain⟨hop,rfl⟩:=hop;generalize hav:a.ev x=ax at hx hb;split at hb<;>first|(cases hb;done)|skip
  all_goals
    split at hb
    case isFalse=>cases hb
    rename_i hk;cases hb;rcases ku hk (by decide)with⟨e,hu,h1⟩|⟨e,f,hu,h1⟩|⟨e,f,g,hu,h1⟩|⟨e,hu,h1⟩<;>first|(cases h1;done)|skip
    cases hx
    try(have hva:= ‹VRa F w μ _ _ _›;cases hva)
    refine .aN s (zI hop ?_ (fun d=> ?_) ?_) (.bool _)
    · rcases hop with rfl|rfl<;>simp[Act.eval,eqGuard]
    · simp[Act.eval,Op.equalIn,run_underlying hu]
    · rcases hop with rfl|rfl<;>rfl
theorem C2(ht:cd n F μ a act w){o:Oper}(h:an P o.op a=true):∃b:Bool,(execOp act.eval o).run P w=.ok (.value (.bool b)) w:=by
 obtain⟨dst,op,ty,pos,after,guard⟩:=o;simp only at h;unfold an at h;split at h
 case h_2=>cases h
 rename_i t x l c u;split at h
 case h_2=>cases h
 rename_i wd xx hv;have hx:=ht.ev x;rw[hv]at hx;generalize hX:act.eval x=X at hx;have hk:bC P t=1:=by simpa using h
 rcases ku hk (by decide)with⟨e,hu,h1⟩|⟨e,f,hu,h1⟩|⟨e,f,g,hu,h1⟩|⟨e,hu,h1⟩<;>first|(cases h1;done)|skip
 cases hx with
 | vsl _ _ _ A cap _ _ _ _=>
  refine⟨A.isNone,?_⟩;have he0:∀d,(Op.equalIn (d+1) t (.slice A 0 cap) (.slice none l c)).run P w=.ok A.isNone w:=by
   intro d;cases A<;>simp[Op.equalIn,run_underlying hu]
  have he:(Op.equal t (.slice A 0 cap) (.slice none l c)).run P w=.ok A.isNone w:=he0 9999;have hy:act.eval (.const (.slice none l c))=.slice none l c:=rfl;simp[execOp,hX,hy,eqGuard,binOp,he]
theorem pN(s:Sim w0 F0 F μ a.H w)(t:cd n F μ a act w){o:Oper}{v:AV}{H':List OB}(h:evalOp P o.op a=some (v,H')):bD P (execOp act.eval o) w0 F0 F μ w v H':=by
 obtain⟨dst,op,ty,pos,after,guard⟩:=o;simp only at h;unfold evalOp at h;split at h
 ·cases h;exact⟨_,_,w,F,μ,by simp[execOp],.inl rfl,Ext.refl _ _ _,s,t.ev _⟩
 ·cases h;exact⟨_,_,w,F,μ,by simp[execOp],.inl rfl,Ext.refl _ _ _,s,t.ev _⟩
 ·rename_i c x y
  split at h
  ·rename_i b hb
   cases h;have hc:=t.ev c;rw[hb]at hc;generalize hC:act.eval c=C at hc;cases hc;refine⟨_,_,w,F,μ,?_,.inl rfl,Ext.refl _ _ _,s,CY (t.ev x) (t.ev y)⟩;simp[execOp,hC,asBool]
  ·cases h
 ·rename_i tt
  rw[Option.map_eq_some_iff]at h;obtain⟨z,hz,h⟩:=h;cases h;obtain⟨Z,h1,_,h3⟩:=dy (P:=P) (F:=F) (μ:=μ) hz w;have:=pG (P:=P) s (t:=tt) (V:=Z) h3;obtain⟨V,w',F',μ',h4,h5,h6,h7⟩:=this;refine⟨.value V,V,w',F',μ',?_,.inl rfl,h5,h6,h7⟩;simp only[Sem.run_bind]at h4;simp only[execOp,Instr.alloc,Sem.run_bind,h1,Result.andThen];simp only[Result.andThen]at h4;rw[h4];rfl
 ·rename_i tt x
  split at h
  case isFalse=>cases h
  rename_i hj;cases h;have:=pG (P:=P) s (t:=tt) (V:=act.eval x) (VR.cells (t.ev x) (wj hj));exact bD.of (by simpa[Instr.box]using this)
 ·rename_i tt ps
  rw[Option.map_eq_some_iff]at h;obtain⟨v',h1,h⟩:=h;cases h;exact bD.of (uM s (by simpa using t.evp ps.toList) h1)
 ·rename_i tt k ps
  rw[Option.map_eq_some_iff]at h;obtain⟨v',h1,h⟩:=h;cases h;exact bD.of (mP s (by simpa using t.evp ps.toList) h1)
 ·rw[Option.map_eq_some_iff]at h
  obtain⟨v',h1,h⟩:=h;cases h;exact bD.of (xZ s (t.ev _) h1)
 ·rw[Option.map_eq_some_iff]at h
  obtain⟨v',h1,h⟩:=h;cases h;obtain⟨w',h2,h3,h4⟩:=uE (P:=P) s (t.ev _) (t.ev _) h1;exact bD.ofU h2 h3 h4
 ·rename_i x
  split at h
  case h_2=>
   rw[Option.map_eq_some_iff]at h;obtain⟨v',h1,h⟩:=h;cases h;obtain⟨g1,rfl⟩:=ye (P:=P) (t.ev x) h1 (o:=⟨dst,.nilCheck x,ty,pos,after,guard⟩) (ρ:=act.eval) rfl rfl;exact⟨_,_,w,F,μ,g1,.inl rfl,Ext.refl _ _ _,s,t.ev x⟩
  rename_i v' h1;cases h;have hx:=t.ev x;generalize hX:act.eval x=X at hx;unfold bl at h1;split at h1
  ·rename_i i o he
   cases h1;rw[he]at hx;have hx':=hx;cases hx;exact⟨_,_,w,F,μ,by simp[execOp,hX],.inl rfl,Ext.refl _ _ _,s,hx'⟩
  ·rename_i l he
   cases h1;rw[he]at hx;have hx':=hx;cases hx;exact⟨_,_,w,F,μ,by simp[execOp,hX],.inl rfl,Ext.refl _ _ _,s,hx'⟩
  ·rename_i fn fs cs he
   split at h1
   case isFalse=>cases h1
   rename_i hp;cases h1;rw[he]at hx;have hx':=hx;cases hx;cases fn<;>first|(cases hp;done)|exact⟨_,_,w,F,μ,by simp[execOp,hX],.inl rfl,Ext.refl _ _ _,s,hx'⟩
  ·cases h1
 ·rename_i op tt x y yt
  split at h
  ·rename_i v' h1
   cases h;exact bD.of (zw s (t.ev _) (t.ev _) h1)
  ·split at h
   ·rename_i v' h1
    cases h;exact bD.of (uU s (t.ev _) (t.ev _) h1)
   ·rw[Option.map_eq_some_iff]at h
    obtain⟨v',h1,h⟩:=h;cases h;exact bD.of (yf s t h1)
 ·rw[Option.map_eq_some_iff]at h
  obtain⟨v',h1,h⟩:=h;cases h;exact bD.of (CU s (t.ev _) h1)
 ·split at h
  ·cases h
   exact bD.of (ya s (t.ev _) ‹_›)
  ·rw[Option.map_eq_some_iff]at h
   obtain⟨v',h1,h⟩:=h;cases h;exact bD.of (CZ s (t.ev _) h1)
 ·rename_i tt x
  split at h
  ·cases h
  ·rename_i d hd hu
   cases h;refine⟨_,.iface tt (act.eval x),w,F,μ,?_,.inl rfl,Ext.refl _ _ _,s,.iface _ _ _ (t.ev x)⟩;cases d<;>first|(exact(hd _ rfl).elim)|simp[execOp,Instr.makeInterface,run_underlying hu]
  ·cases h
 ·rename_i fn fs cs
  cases h;refine⟨_,.func fn (fs.map act.eval) (cs.map act.eval),w,F,μ,by simp[execOp,Instr.makeFunc],.inl rfl,Ext.refl _ _ _,s,.func _ _ _ _ _ ?_ ?_⟩
  ·rw[Array.toList_map];exact t.evs _
  ·rw[Array.toList_map];exact t.evs _
 ·rename_i tt
  cases h;exact bD.of (qP s tt)
 ·exact bD.of (uN s (t.ev _) h)
 ·exact bD.of (uP s (t.ev _) h)
 ·rw[Option.map_eq_some_iff]at h
  obtain⟨v',h1,h⟩:=h;cases h;exact bD.of (uQ s (t.ev _) h1)
 ·exact bD.of (nC s (t.ev _) (t.ev _) h)
 ·split at h
  ·rename_i v' h1
   cases h;exact bD.of (uH s (t.ev _).deN (t.evo _) (t.evo _) (t.evo _) h1)
  ·split at h
   ·rw[Option.map_eq_some_iff]at h
    obtain⟨v',h1,h⟩:=h;cases h;exact bD.of (pf s (t.ev _) h1)
   ·cases h
 ·rw[Option.map_eq_some_iff]at h
  obtain⟨v',h1,h⟩:=h;cases h;exact bD.of (nv s (t.ev _) h1)
 ·rw[Option.map_eq_some_iff]at h
  obtain⟨v',h1,h⟩:=h;cases h;exact bD.of (uF s (t.ev _) h1)
 ·rw[Option.map_eq_some_iff]at h
  obtain⟨v',h1,h⟩:=h;cases h;exact bD.of (nw s (t.ev _) (t.ev _) h1)
 ·rw[Option.map_eq_some_iff]at h
  obtain⟨v',h1,h⟩:=h;cases h;exact bD.of (uG s (t.ev _) (t.ev _) h1)
 ·rw[Option.map_eq_some_iff]at h
  obtain⟨v',h1,h⟩:=h;cases h;exact bD.of (sI s (t.ev _) (t.ev _) h1)
 ·rw[Option.map_eq_some_iff]at h
  obtain⟨v',h1,h⟩:=h;cases h;obtain⟨w',h2,h3,h4⟩:=iG (P:=P) s (t.ev _) (t.ev _) (t.ev _) h1;exact bD.ofU h2 h3 h4
 ·rw[Option.map_eq_some_iff]at h
  obtain⟨v',h1,h⟩:=h;cases h;obtain⟨w',h2,h3,h4⟩:=iG (P:=P) s (t.ev _) (t.ev _) (t.ev _) h1;exact bD.ofU h2 h3 h4
 ·rw[Option.map_eq_some_iff]at h
  obtain⟨v',h1,h⟩:=h;cases h;exact bD.of (sL s (t.ev _) h1)
 ·rename_i x i
  split at h
  ·rename_i l hl
   rw[Option.map_eq_some_iff]at h;obtain⟨v',h1,h⟩:=h;cases h;have hx:=t.ev x;rw[hl]at hx;generalize hX:act.eval x=X at hx;cases hx with
   |tup _ A hA=>
    obtain⟨V,h2,h3⟩:=hA.get h1;rw[Array.getElem?_toList]at h2;exact⟨_,V,w,F,μ,by simp[execOp,hX,Instr.extract,h2],.inl rfl,Ext.refl _ _ _,s,h3⟩
  ·cases h
 ·rename_i c
  obtain⟨callee,args,argTypes⟩:=c;simp only at h;split at h
  case h_2=>cases h
  rename_i b;have hres:∀(l:List Operand),args.toList=l→args=l.toArray:=fun l h=>by rw[←h]
  have htys:∀(l:List TypeId),argTypes.toList=l→argTypes=l.toArray:=fun l h=>by rw[←h]
  split at h
  ·rename_i x tt ha hb
   rw[Option.map_eq_some_iff]at h;obtain⟨v',h1,h⟩:=h;cases h;obtain rfl:=hres _ ha;obtain rfl:=htys _ hb;have:=bD.of (zx (P:=P) (rT:=ty) s (t.ev x).deN h1);simpa[execOp,resolve,invoke,builtin]using this
  ·rename_i x tt ha hb
   rw[Option.map_eq_some_iff]at h;obtain⟨v',h1,h⟩:=h;cases h;obtain rfl:=hres _ ha;obtain rfl:=htys _ hb;have:=bD.of (zA (P:=P) (rT:=ty) s (t.ev x) h1);simpa[execOp,resolve,invoke,builtin]using this
  ·rename_i x y tt u ha hb
   obtain rfl:=hres _ ha;obtain rfl:=htys _ hb;split at h
   ·rename_i r hr
    cases h;have:=bD.of (sF (P:=P) (rT:=ty) s (t.ev x).deN (t.ev y).deN hr);simpa[execOp,resolve,invoke,builtin]using this
   ·have:=bD.of (yd (P:=P) (rT:=ty) s (t.ev x).deN (t.ev y) h)
    simpa[execOp,resolve,invoke,builtin]using this
  ·rename_i x y tt u ha hb
   obtain rfl:=hres _ ha;obtain rfl:=htys _ hb;have:=bD.of (yb (P:=P) (rT:=ty) (ts:=#[tt,u]) (sT:=tt) s rfl (t.ev x).deN (t.ev y).deN h);simpa[execOp,resolve,invoke,builtin]using this
  ·rename_i x tt ha hb
   obtain rfl:=hres _ ha;obtain rfl:=htys _ hb;have:=bD.of (uR (P:=P) (rT:=ty) (ts:=#[tt]) (sT:=tt) s rfl (t.ev x).deN h);simpa[execOp,resolve,invoke,builtin]using this
  ·rename_i x y ha
   rw[Option.map_eq_some_iff]at h;obtain⟨v',h1,h⟩:=h;cases h;obtain rfl:=hres _ ha;have:=bD.of (zF (P:=P) (ts:=argTypes) (rT:=ty) s (t.ev x) (t.ev y) h1);simpa[execOp,resolve,invoke,builtin]using this
  ·rename_i x y ha
   rw[Option.map_eq_some_iff]at h;obtain⟨v',h1,h⟩:=h;cases h;obtain rfl:=hres _ ha;have:=bD.of (zG (P:=P) (ts:=argTypes) (rT:=ty) s (t.ev x) (t.ev y) h1);simpa[execOp,resolve,invoke,builtin]using this
  ·cases h
 ·cases h
end
inductive CR where
 |pure (out:Out)
 |sh (out:Out) (H':List OB)
 |any (S:Out→List OB→Prop)
inductive Cl where
 |fn (f:FuncId)
 |yld (id:Nat)
 |inv (t:TypeId) (name:String)
def ae(a:St)(o:Op):Option (Cl×List AV):=
 match o with
 | .call c=>match c.callee with
  | .value f=>match a.ev f with
   | .func (.func g) fs cs=>some (.fn g,fs++c.args.toList.map a.ev++cs)
   | .yld id=>some (.yld id,c.args.toList.map a.ev)
   |_=>none
  | .invoke r name=>match a.ev r with
   | .iface t v=>some (.inv t name,v::c.args.toList.map a.ev)
   |_=>none
  |_=>none
 |_=>none
def jf(a:St)(c:Call):Option DE:=
 match c.callee with
 | .value f=>match a.ev f with
  | .func fn fs cs=>some (.call fn cs (fs++c.args.toList.map a.ev))
  |_=>none
 |_=>none
def YFn(P:Program)(id:Nat)(args:List AV)(H:List OB)(out:Out)(H':List OB):Prop:=
 ∀(w0:World) (F0 F:Nat→Nat→Prop) (μ:Nat→Option Loc) (w:World) (Vs:List Value) (L:Loc),Sim w0 F0 F μ H w→VRs F w μ args Vs→μ id=some L→
  YieldAt Fence.wide 0 P L.block Vs.toArray w (fun e w'=>∃F' μ',Ext F w μ F' w' μ'∧Sim w0 F0 F' μ' H' w'∧eW F' w' μ' out e)
def ba(P:Program)(f:FuncId)(args:List AV)(H:List OB)(S:Out→List OB→Prop):Prop:=
 ∀(w0:World) (F0 F:Nat→Nat→Prop) (μ:Nat→Option Loc) (w:World) (Vs:List Value),Sim w0 F0 F μ H w→VRs F w μ args Vs→
  jF P f Vs.toArray w (fun e w'=>∃out H' F' μ',S out H'∧Ext F w μ F' w' μ'∧Sim w0 F0 F' μ' H' w'∧eW F' w' μ' out e)
theorem ba.one{P:Program}{f:FuncId}{args:List AV}{H H':List OB}{out:Out}(h:ba P f args H (fun o K=>o=out∧K=H')):aY P f args H out H':=
 fun w0 F0 F μ w Vs s hv=>(h w0 F0 F μ w Vs s hv).mono fun e w' ⟨_,_,F',μ',⟨e1,e2⟩,x,s',o⟩=>by subst e1;subst e2;exact⟨F',μ',x,s',o⟩
theorem ba.mono{P:Program}{f:FuncId}{args:List AV}{H:List OB}{S S':Out→List OB→Prop}(h:ba P f args H S)(hs:∀o K,S o K→S' o K):ba P f args H S':=
 fun w0 F0 F μ w Vs s hv=>(h w0 F0 F μ w Vs s hv).mono fun e w' ⟨o,K,F',μ',h1,x,s',h2⟩=>⟨o,K,F',μ',hs _ _ h1,x,s',h2⟩
def jw(P:Program)(c:Cl)(args:List AV)(H:List OB)(out:Out)(H':List OB):Prop:=
 match c with
 | .fn f=>aY P f args H out H'
 | .yld id=>YFn P id args H out H'
 | .inv t name=>∃f,gD P t name=some f∧aY P f args H out H'
def Gj(P:Program)(r:Result Next)(R:Ending→World→Prop):Prop:=
 (∃f Vs w1,r=.ok (.enter f Vs) w1∧Calls P f Vs w1 R)∨(∃V w1,r=.ok (.value V) w1∧R (.returned V) w1)∨
 (∃l f tmps as bd w1,r=.ok (.round l f tmps as bd) w1∧RoundIn Fence.wide 0 P l f tmps as bd w1 R)
def aa:Op→Option Operand
 | .panic x=>some x
 |_=>none
def gdA(ops:Array Oper)(a:St)(g:Option (Nat×Bool)):Option Bool:=
 match g with
 |none=>some true
 | some (j,want)=>match(ops[j]?).bind (·.dst)with
  |some d=>match get a.T d with
   | .bool b=>some (b==want)
   | .tup _=>some false
   |_=>none
  |none=>none
def Out.scalar:Out→Bool
 | .ret r=>r.scalar
 | .pan _ v=>v.scalar
def aG(H:List OB)(args:List AV)(out:Out):Option (List AV):=
 if AV.hfs args=true then some args else if out.scalar=true then args.mapM (fz H 20)else none
def al (P : Program) (ops:Array Oper) (Q:Ex→St→Prop):List CR→List Oper→St→Prop
  |_,[],a=>Q .normal a
  | rs, o ::rest,a=>match gdA ops a o.guard with
    |none=>False
    |some false=>al P ops Q rs rest (a.put o.dst (.tup []))
    | some true =>match ae a o.op with
      | some (f,args)=>match rs with
        | .pure out::rs=>match f with
          | .fn f=>match aG a.H args out with
            | some args'=>ad P f args' out∧match out with
              | .ret r=>al P ops Q rs rest (a.put o.dst r)
              | .pan t v=>Q (.panic t v) a
            |none=>False
          | .yld _=>False
          | .inv t name=>match gD P t name with
            | some f=>match aG a.H args out with
              | some args'=>ad P f args' out∧match out with
                | .ret r=>al P ops Q rs rest (a.put o.dst r)
                | .pan t v=>Q (.panic t v) a
              |none=>False
            |none=>False
        | .sh out H'::rs=>jw P f args a.H out H'∧match out with
          | .ret r=>al P ops Q rs rest ({a with H:=H'}.put o.dst r)
          | .pan t v=>Q (.panic t v) {a with H:=H'}
        | .any S::rs=>match f with
          | .fn f=>ba P f args a.H S∧ ∀out H',S out H'→match out with
            | .ret r=>al P ops Q rs rest ({a with H:=H'}.put o.dst r)
            | .pan t v=>Q (.panic t v) {a with H:=H'}
          | .yld _=>False
          | .inv t name=>match gD P t name with
            | some f=>ba P f args a.H S∧ ∀out H',S out H'→match out with
              | .ret r=>al P ops Q rs rest ({a with H:=H'}.put o.dst r)
              | .pan t v=>Q (.panic t v) {a with H:=H'}
            |none=>False
        | []=>False
      | none=>match aa o.op with
        | some x=>match a.ev x with
          | .iface t v=>Q (.panic t v) a
          |_=>False
        | none=>match ah o.op a.ev a.H with
         |some (id,ks,vs,seen)=> ∀v H',pK a.H id ks vs seen v H'→al P ops Q rs rest ({a with H:=H'}.put o.dst v)
         |none=>match an P o.op a with
          |true=> ∀b:Bool,al P ops Q rs rest (a.put o.dst (.bool b))
          | false=>match evalOp P o.op a with
            |some (v,H')=>al P ops Q rs rest ({a with H:=H'}.put o.dst v)
            |none=>False
def fits(n:Nat)(ops:Array Oper):Bool:=ops.toList.all fun o=>match o.dst with|some d=>d<n|none=>true
section
variable{P:Program} {w0:World} {F0 F F':Nat→Nat→Prop} {μ μ':Nat→Option Loc} {H H':List OB} {w w':World} {n m:Nat} {R:Option Nat} {a:St} {act:Act} {Q:Ex→St→Prop}
theorem cd.put(t:cd n F μ a act w)(x:Ext F w μ F' w' μ'){v:AV}{V:Value}(hv:VR F' w' μ' v V){dst:Option Nat}(hd: ∀d,dst=some d→d<n):
    cd n F' μ' ({a with H:=H'}.put dst v) (act.put dst V) w':=by
  cases dst with
  |none=>exact⟨t.defers.mono x,t.size,fun s=>VR.mono x (t.slots s)⟩
  | some d=>
    refine⟨t.defers.mono x,by simp[Act.put,t.size],fun s=> ?_⟩;simp only[St.put,get,Act.put];by_cases e:d=s
    · subst e
      rw[if_pos rfl];have:d<act.tmps.size:=by rw[t.size];exact hd d rfl
      simp[Array.getD_eq_getD_getElem?,Array.getElem?_setIfInBounds,this,hv]
    · rw[if_neg e]
      have:=t.slots s;simp only[Array.getD_eq_getD_getElem?,Array.getElem?_setIfInBounds,if_neg e]at this ⊢;exact VR.mono x this
theorem nH{ops:Array Oper}{o:Oper}{b:Bool}(t:cd n F μ a act w)(hf:∀(j:Nat) (o':Oper) (d:Nat),ops[j]? =some o'→o'.dst=some d→d<n)(h:gdA ops a o.guard=some b):Region.wanted o (yielded ops act.tmps)=b:=by
 unfold gdA at h;unfold Region.wanted;split at h
 ·rename_i hg;cases h;rw[hg]
 ·rename_i j want hg
  rw[hg];simp only;split at h
  ·rename_i d hd
   split at h
   ·rename_i b' hb
    cases h;have hs:=t.slots d;rw[hb]at hs;generalize hV:act.tmps.getD d undef=V at hs;cases hs;have hlt:d<act.tmps.size:=by
     rw[t.size];cases ho:ops[j]? with
     |none=>rw[ho]at hd;cases hd
     |some o'=>rw[ho]at hd;exact hf j o' d ho hd
    have hget:act.tmps[d]? =some (.bool b'):=by
     rw[Array.getD_eq_getD_getElem?]at hV;rw[Array.getElem?_eq_getElem hlt]at hV ⊢;simp at hV;rw[hV]
    unfold yielded;rw[hd];simp only[Option.bind_some,hget];cases b'<;>cases want<;>rfl
   ·rename_i l' hb
    cases h;have hs:=t.slots d;rw[hb]at hs;generalize hV:act.tmps.getD d undef=V at hs;cases hs;have hlt:d<act.tmps.size:=by
     rw[t.size];cases ho:ops[j]? with
     |none=>rw[ho]at hd;cases hd
     |some o'=>rw[ho]at hd;exact hf j o' d ho hd
    rename_i A _;have hget:act.tmps[d]? =some (.tuple A):=by
     rw[Array.getD_eq_getD_getElem?]at hV;rw[Array.getElem?_eq_getElem hlt]at hV ⊢;simp at hV;rw[hV]
    unfold yielded;rw[hd];simp only[Option.bind_some,hget];cases want<;>rfl
   ·cases h
  ·cases h
theorem Sim.behind(s:Sim w0 F0 F μ H w)(hb:Below w.heap.size w w')(hF: ∀b o,F b o→F' b o)(hlt: ∀b o,F' b o→b<w'.heap.size)(hold: ∀b o,b<w.heap.size→F' b o→F b o):
    Ext F w μ F' w' μ∧Sim w0 F0 F' μ H w':=by
  have x:Ext F w μ F' w' μ:=by
    refine⟨fun _ _ h=>h,hF,?_,?_⟩
    · intro b o V hf h
      rw[hb.cell (p:=⟨b,o,none⟩) (s.lt b o hf)];exact h
    · intro b es c hf h
      rw[hb.block b (s.lt b 0 hf)];exact h
  refine⟨x,⟨s.below.trans (hb.mono s.below.size),fun b o h=>hF b o (s.new b o h),?_,hlt,?_,s.apart,s.dom⟩⟩
  · intro b o hbl h
    exact s.old b o hbl (hold b o (by have:=s.below.size;omega) h)
  · intro id blk h
    by_cases hl:blk.live=true
    · obtain⟨L,h1,h2,h3,h4⟩:=(s.obs id blk h).loc hl
      refine(s.obs id blk h).mono x ?_ ?_
      · intro L' e;rw[h1]at e;cases e;exact hb.block _ h3
      · intro L' o e hf;rw[h1]at e;cases e;exact hold _ _ h3 hf
    · exact OBR.fZ (by simpa using hl)
theorem eW.noμ{out:Out}{e:Ending}(h:eW F w noμ out e):eW F w μ out e:=by
 have x:Ext F w Av.noμ F w μ:=⟨(fun _ _ h=>by cases h),fun _ _ h=>h,fun _ _ _ _ h=>h,fun _ _ _ _ h=>h⟩
 cases h with
 |ret r R h=>exact .ret r R (VR.mono x h)
 |pan t v V h=>exact .pan t v V (VR.mono x h)
theorem eW.scalar{F F':Nat→Nat→Prop}{w w':World}{μ μ':Nat→Option Loc}{out:Out}{e:Ending}(h:eW F w μ out e)(hs:out.scalar=true):eW F' w' μ' out e:=by
 cases h with
 |ret r R h=>exact .ret r R (h.pI hs)
 |pan t v V h=>exact .pan t v V (h.pI hs)
theorem ad.call (s:Sim w0 F0 F μ H w) {f:FuncId} {args args':List AV} {out:Out} {Vs:List Value} (hl:aG H args out=some args') (hp:ad P f args' out) (hv:VRs F w μ args Vs):
    jF P f Vs.toArray w (fun e w'=> ∃F' μ',Ext F w μ F' w' μ'∧Sim w0 F0 F' μ' H w'∧eW F' w' μ' out e):=by
  unfold aG at hl;split at hl
  · rename_i hh
    cases hl;refine(hp F w Vs s.lt (hv.cP hh)).mono ?_;rintro e w' ⟨hb,F',h1,h2,h3,h4⟩;obtain⟨x,s'⟩:=s.behind hb h1 h2 h3;exact⟨F',μ,x,s',h4.noμ⟩
  · split at hl
    case isFalse=>cases hl
    rename_i hsc;obtain⟨hlen,hget⟩:=iH hl;have hlt: ∀b o,fq F μ H b o→b<w.heap.size:=by
      rintro b o (h|⟨id,blk,L,h1,h2,h3,rfl⟩)
      · exact s.lt b o h
      · obtain⟨L',h4,_,h5,_⟩:=(s.obs id blk h1).loc h2
        rw[h3]at h4;cases h4;exact h5
    have hv':VRs (fq F μ H) w noμ args' Vs:=by
      refine .jG (by rw[hlen,VRs.len hv]) fun i v' hi=> ?_;have hil:i<args.length:=by rw[←hlen];exact(List.getElem?_eq_some_iff.1 hi).1
      obtain⟨v'',h1,h2⟩:=hget i args[i] (List.getElem?_eq_getElem hil);rw[hi]at h1;cases h1;obtain⟨V,h3,h4⟩:=hv.get (List.getElem?_eq_getElem hil);exact⟨V,h3,nF s _ _ _ _ h2 h4⟩
    refine(hp _ w Vs hlt hv').mono ?_;rintro e w' ⟨hb,F',h1,h2,h3,h4⟩;obtain⟨x,s'⟩:=s.behind (F':=F) hb (fun _ _ h=>h) (fun b o h=>by have:=s.lt b o h;have:=hb.size;omega) (fun _ _ _ h=>h);exact⟨F,μ,x,s',h4.scalar hsc⟩
theorem lJ(t:cd n F μ a act w){o:Oper}{f:FuncId}{args:List AV}(h:ae a o.op=some (.fn f,args)):
    ∃Vs:List Value,VRs F w μ args Vs∧ ∀w',(execOp act.eval o).run P w'=(callFunc f Vs.toArray).run P w':=by
  obtain⟨dst,op,ty,pos,after,guard⟩:=o;simp only at h;unfold ae at h;split at h
  case h_2=>cases h
  rename_i c;obtain⟨callee,args0,argTypes⟩:=c;simp only at h;split at h
  case h_3=>cases h
  case h_2=>split at h<;>cases h
  rename_i x;split at h
  · rename_i g fs cs hx
    cases h;have hv:=t.ev x;rw[hx]at hv;generalize hX:act.eval x=X at hv;cases hv with
    | func _ _ _ Fs Cs h1 h2=>
      refine⟨Fs.toList++args0.toList.map act.eval++Cs.toList,(h1.append (t.evs _)).append h2,fun w'=> ?_⟩;simp only[execOp,resolve,hX,Deferred.ofValue,Sem.run_bind,Sem.run_pure,Result.andThen,invoke];congr 1;congr 1;apply Array.ext';simp
  · cases h
  · cases h
theorem uV(t:cd n F μ a act w){o:Oper}{id:Nat}{args:List AV}(h:ae a o.op=some (.yld id,args)):
    ∃(Vs:List Value) (L:Loc),μ id=some L∧VRs F w μ args Vs∧ ∀w',(execOp act.eval o).run P w'=(Instr.yield L.block Vs.toArray).run P w':=by
  obtain⟨dst,op,ty,pos,after,guard⟩:=o;simp only at h;unfold ae at h;split at h
  case h_2=>cases h
  rename_i c;obtain⟨callee,args0,argTypes⟩:=c;simp only at h;split at h
  case h_3=>cases h
  case h_2=>split at h<;>cases h
  rename_i x;split at h
  · cases h
  · rename_i id' hx
    cases h;have hv:=t.ev x;rw[hx]at hv;generalize hX:act.eval x=X at hv;cases hv with
    | yld _ L hμ=>
      refine⟨args0.toList.map act.eval,L,hμ,t.evs _,fun w'=> ?_⟩;simp only[execOp,resolve,hX,Deferred.ofValue,Sem.run_bind,Sem.run_pure,Result.andThen,invoke];congr 1;congr 1;apply Array.ext';simp
  · cases h
theorem jH(t:cd n F μ a act w){o:Oper}{d:TypeId}{name:String}{f:FuncId}{args:List AV}(h:ae a o.op=some (.inv d name,args))(hm:gD P d name=some f):
    ∃Vs:List Value,VRs F w μ args Vs∧ ∀w',(execOp act.eval o).run P w'=(callFunc f Vs.toArray).run P w':=by
  obtain⟨dst,op,ty,pos,after,guard⟩:=o;simp only at h;unfold ae at h;split at h
  case h_2=>cases h
  rename_i c;obtain⟨callee,args0,argTypes⟩:=c;simp only at h;split at h
  case h_3=>cases h
  case h_1=>split at h<;>cases h
  rename_i x nm;split at h
  case h_2=>cases h
  rename_i t0 v hx;cases h;have hv:=t.ev x;rw[hx]at hv;generalize hX:act.eval x=X at hv;cases hv with
  | iface _ _ V hV=>
    refine⟨V::args0.toList.map act.eval,.cons _ _ _ _ hV (t.evs _),fun w'=> ?_⟩;have h0:(#[Value.iface d V]++args0.map act.eval)[0]? =some (.iface d V):=by rw[Array.getElem?_append_left (by simp)];rfl
    have h1:(#[Value.iface d V]++args0.map act.eval).extract 1 (#[Value.iface d V]++args0.map act.eval).size=args0.map act.eval:=by
      apply Array.ext';simp[List.take_of_length_le]
    have hA:(V::args0.toList.map act.eval).toArray= #[V]++args0.map act.eval:=by apply Array.ext';simp
    rw[hA];have h2:(args0.map act.eval).extract 0 args0.size=args0.map act.eval:=by apply Array.ext';simp[List.take_of_length_le]
    simp[execOp,resolve,hX,invoke,h0,h1,callMethod,uT hm,h2]
theorem pO{a:St}{o:Op}{c:Cl×List AV}(h:ae a o=some c):∀d,o≠ .defer d:=by
 rintro d rfl;cases h
theorem jw.goes(s:Sim w0 F0 F μ H w)(t:cd n F μ {a with H:=H} act w){o:Oper}{f:Cl}{args:List AV}(h:ae a o.op=some (f,args)){out:Out}(hp:jw P f args H out H'):
    Gj P ((execOp act.eval o).run P w) (fun e w'=> ∃F' μ',Ext F w μ F' w' μ'∧Sim w0 F0 F' μ' H' w'∧eW F' w' μ' out e):=by
  cases f with
  | fn f=>
    obtain⟨Vs,hVs,hrun⟩:=lJ (P:=P) (a:={a with H:=H}) t (o:=o) h;rw[hrun w];rcases hp w0 F0 F μ w Vs s hVs with⟨w1,h1,rfl,h2⟩|⟨V,w1,h1,h2⟩
    · exact .inl ⟨f,_,_,h1,h2⟩
    · exact .inr (.inl ⟨V,w1,h1,h2⟩)
  | yld id=>
    obtain⟨Vs,L,hμ,hVs,hrun⟩:=uV (P:=P) (a:={a with H:=H}) t (o:=o) h;rw[hrun w];obtain⟨fn,tmps,as,bd,h1,h2⟩:=hp w0 F0 F μ w Vs L s hVs hμ;exact .inr (.inr ⟨L.block,fn,tmps,as,bd,w,h1,h2⟩)
  | inv d name=>
    obtain⟨f,hm,hp⟩:=hp;obtain⟨Vs,hVs,hrun⟩:=jH (P:=P) (a:={a with H:=H}) t (o:=o) h hm;rw[hrun w];rcases hp w0 F0 F μ w Vs s hVs with⟨w1,h1,rfl,h2⟩|⟨V,w1,h1,h2⟩
    · exact .inl ⟨f,_,_,h1,h2⟩
    · exact .inr (.inl ⟨V,w1,h1,h2⟩)
theorem gb{k:Nat}{f:FuncId}{Vs:Array Value}{E:Ending→World→Prop}:CallsIn (fnc R) k P f Vs w E↔Calls P f Vs w E:=callsIn_wide (n:=k)
theorem mr{k:Nat}{l f:Nat}{tmps:Array Value}{as bd:Code}{E:Ending→World→Prop}(h:RoundIn Fence.wide 0 P l f tmps as bd w E):RoundIn (fnc R) k P l f tmps as bd w E:=
 ⟨trivial,fun c cs _=>h.2 c cs (room_wide _)⟩
theorem nI{o:Oper}{x:Operand}(h:aa o.op=some x):o.op=.panic x:=by
 unfold aa at h;split at h
 ·cases h;assumption
 ·cases h
theorem kv {B : Bs m} {ops:Array Oper} {Q':Ex→St→Prop} (tl:List Nat) (hf: ∀(j:Nat) (o':Oper) (d:Nat),ops[j]? =some o'→o'.dst=some d→d<n)
    (hn: ∀a act w,Q' .normal a→Rel n B a act w→wpOpsIn (fnc R) 1 P ops (dX n B Q) tl act w) (hQ: ∀t v a,Q' (.panic t v) a→Q (.panic t v) a): ∀(rest:List Oper) (k:Nat) (rs:List CR) (a:St) (act:Act) (w:World),
    (∀i o,rest[i]? =some o→ops[k+i]? =some o)→al P ops Q' rs rest a→Rel n B a act w→wpOpsIn (fnc R) 1 P ops (dX n B Q) (List.range' k rest.length++tl) act w:=by
  intro rest;induction rest with
  | nil=>
    intro k rs a act w hk h hr;exact hn a act w h hr
  | cons o rest ih=>
    intro k rs a act w hk h hr;obtain⟨F,μ,s,y,t⟩:=hr;have ho:ops[k]? =some o:=hk 0 o rfl;have hk': ∀i o',rest[i]? =some o'→ops[k+1+i]? =some o':=fun i o' hi=>by
      rw[show k+1+i=k+(i+1)from by omega];exact hk (i+1) o' (by simpa using hi)
    have hd: ∀d,o.dst=some d→d<n:=fun d hd=>hf k o d ho hd;rw[List.length_cons,List.range'_succ,List.cons_append];simp only[wpOpsIn,ho];have habout: ∀f,o.about P w act.eval=some f→(fnc R).fn f:=fun _ _=>trivial;unfold al at h;split at h
    · exact h.elim
    · rename_i hg
      have:=nH t hf hg;simp only[this,Bool.false_eq_true,if_false];refine⟨habout,ih (k+1) rs _ _ _ hk' h ⟨F,μ,?_,y,t.put (Ext.refl _ _ _) (.tup [] #[] .nil) hd⟩⟩;cases o.dst<;>exact s
    · rename_i hg
      have:=nH t hf hg;simp only[this,if_true];refine⟨habout,?_⟩;split at h
      · rename_i f args hc
        rw[Oper.semAt_eq _ _ _ (pO hc)]
        have keyS: ∀(S:Out→List OB→Prop) (nextOK: ∀r H',S (.ret r) H'→ ∃rs',al P ops Q' rs' rest ({a with H:=H'}.put o.dst r)) (panOK: ∀tt v H',S (.pan tt v) H'→Q' (.panic tt v) {a with H:=H'}),
            Gj P ((execOp act.eval o).run P w) (fun e w'=> ∃out H' F' μ',S out H'∧Ext F w μ F' w' μ'∧Sim B.w0 B.F0 F' μ' H' w'∧eW F' w' μ' out e)→
            o.uponIn (fnc R) 1 P act (wpOpsIn (fnc R) 1 P ops (dX n B Q) (List.range' (k+1) rest.length++tl)) (dX n B Q) ((execOp act.eval o).run P w):=by
          intro S nextOK panOK hcall
          have fin: ∀(e:Ending) (w':World),(∃out H' F' μ',S out H'∧Ext F w μ F' w' μ'∧Sim B.w0 B.F0 F' μ' H' w'∧eW F' w' μ' out e)→
              (match(generalizing:=false) e,w' with
                | .returned v,w''=>wpOpsIn (fnc R) 1 P ops (dX n B Q) (List.range' (k+1) rest.length++tl) (act.put o.dst v) w''
                | .panicked chain,w''=>dX n B Q (.panic chain) act w''
                | .outgrown,_=>LetsOut (dX n B Q)):=by
            rintro e w' ⟨out,H',F',μ',hS,x,s',ho'⟩;cases ho' with
            | ret r Rv hr=>
              obtain⟨rs',hn⟩:=nextOK r H' hS;exact ih (k+1) rs' _ _ _ hk' hn ⟨F',μ',by cases o.dst<;>exact s',y.trans x,t.put x hr hd⟩
            |pan tt v V hv=>exact⟨_,_,F',μ',hQ _ _ _ (panOK tt v H' hS),.panic tt v V hv,s',y.trans x,⟨t.defers.mono x,t.size,fun s=>VR.mono x (t.slots s)⟩⟩
          rcases hcall with⟨f,Vs,w1,h1,h2⟩|⟨V,w1,h1,h2⟩|⟨l,f,tmps,as,bd,w1,h1,h2⟩
          · rw[h1,Oper.uponIn_enter]
            exact⟨fun _=>Nat.le_refl _,gb.2 (h2.mono fin)⟩
          · rw[h1,Oper.uponIn_value]
            exact fin (.returned V) w1 h2
          · rw[h1,Oper.uponIn_round]
            exact⟨fun _=>Nat.le_refl _,mr (h2.mono fin)⟩
        have key: ∀(out:Out) (H':List OB) (nextOK: ∀r,out=.ret r→ ∃rs',al P ops Q' rs' rest ({a with H:=H'}.put o.dst r)) (panOK: ∀tt v,out=.pan tt v→Q' (.panic tt v) {a with H:=H'}),
            Gj P ((execOp act.eval o).run P w) (fun e w'=> ∃F' μ',Ext F w μ F' w' μ'∧Sim B.w0 B.F0 F' μ' H' w'∧eW F' w' μ' out e)→
            o.uponIn (fnc R) 1 P act (wpOpsIn (fnc R) 1 P ops (dX n B Q) (List.range' (k+1) rest.length++tl)) (dX n B Q) ((execOp act.eval o).run P w):=by
          intro out H' nextOK panOK hcall;refine keyS (fun o K=>o=out∧K=H') ?_ ?_ ?_
          · rintro r K ⟨e1,rfl⟩;exact nextOK r e1.symm
          · rintro tt v K ⟨e1,rfl⟩;exact panOK tt v e1.symm
          · rcases hcall with⟨f,Vs,w1,h1,h2⟩|⟨V,w1,h1,h2⟩|⟨l,f,tmps,as,bd,w1,h1,h2⟩
            · exact .inl ⟨f,Vs,w1,h1,h2.mono fun e w' ⟨F',μ',q⟩=>⟨out,H',F',μ',⟨rfl,rfl⟩,q⟩⟩
            · exact .inr (.inl ⟨V,w1,h1,let ⟨F',μ',q⟩:=h2;⟨out,H',F',μ',⟨rfl,rfl⟩,q⟩⟩)
            · exact .inr (.inr ⟨l,f,tmps,as,bd,w1,h1,h2.mono fun e w' ⟨F',μ',q⟩=>⟨out,H',F',μ',⟨rfl,rfl⟩,q⟩⟩)
        split at h
        · rename_i out rs
          split at h
          · rename_i f
            split at h
            · rename_i args' hl
              obtain⟨hp,hq⟩:=h;obtain⟨Vs,hVs,hrun⟩:=lJ (P:=P) t hc;refine key out a.H ?_ ?_ ?_
              · rintro r rfl;exact⟨rs,hq⟩
              · rintro tt v rfl;exact hq
              · rw[hrun w]
                rcases ad.call s hl hp hVs with⟨w1,h1,rfl,h2⟩|⟨V,w1,h1,h2⟩
                · exact .inl ⟨f,_,_,h1,h2⟩
                · exact .inr (.inl ⟨V,w1,h1,h2⟩)
            · exact h.elim
          · exact h.elim
          · rename_i d name
            split at h
            · rename_i f hm
              split at h
              · rename_i args' hl
                obtain⟨hp,hq⟩:=h;obtain⟨Vs,hVs,hrun⟩:=jH (P:=P) t hc hm;refine key out a.H ?_ ?_ ?_
                · rintro r rfl;exact⟨rs,hq⟩
                · rintro tt v rfl;exact hq
                · rw[hrun w]
                  rcases ad.call s hl hp hVs with⟨w1,h1,rfl,h2⟩|⟨V,w1,h1,h2⟩
                  · exact .inl ⟨f,_,_,h1,h2⟩
                  · exact .inr (.inl ⟨V,w1,h1,h2⟩)
              · exact h.elim
            · exact h.elim
        · rename_i out H' rs
          obtain⟨hp,hq⟩:=h;refine key out H' ?_ ?_ (jw.goes s (a:=a) t hc hp)
          · rintro r rfl;exact⟨rs,hq⟩
          · rintro tt v rfl;exact hq
        · rename_i S rs
          split at h
          · rename_i f
            obtain⟨hp,hq⟩:=h;obtain⟨Vs,hVs,hrun⟩:=lJ (P:=P) t hc;refine keyS S (fun r H' hS=>⟨rs,hq _ _ hS⟩) (fun tt v H' hS=>hq _ _ hS) ?_;rw[hrun w];rcases hp B.w0 B.F0 F μ w Vs s hVs with⟨w1,h1,rfl,h2⟩|⟨V,w1,h1,h2⟩
            · exact .inl ⟨f,_,_,h1,h2⟩
            · exact .inr (.inl ⟨V,w1,h1,h2⟩)
          · exact h.elim
          · rename_i d name
            split at h
            · rename_i f hm
              obtain⟨hp,hq⟩:=h;obtain⟨Vs,hVs,hrun⟩:=jH (P:=P) t hc hm;refine keyS S (fun r H' hS=>⟨rs,hq _ _ hS⟩) (fun tt v H' hS=>hq _ _ hS) ?_;rw[hrun w];rcases hp B.w0 B.F0 F μ w Vs s hVs with⟨w1,h1,rfl,h2⟩|⟨V,w1,h1,h2⟩
              · exact .inl ⟨f,_,_,h1,h2⟩
              · exact .inr (.inl ⟨V,w1,h1,h2⟩)
            · exact h.elim
        · exact h.elim
      · split at h
        · rename_i x hx
          have hop:=nI hx;rw[Oper.semAt_eq _ _ _ (by rw[hop];simp)];split at h
          · rename_i tt v hv
            have hvv:=t.ev x;rw[hv]at hvv;generalize hX:act.eval x=X at hvv;cases hvv with
            | iface _ _ V hV=>
              have hr:(execOp act.eval o).run P w=.halt (.panic (.iface tt V)) w:=by
                unfold execOp;rw[hop];simp[hX,Instr.panic,goPanic]
              rw[hr,Oper.uponIn_panic];exact⟨_,a,F,μ,hQ _ _ _ h,.panic tt v V hV,s,y,t⟩
          · exact h.elim
        · split at h
          · rename_i id ks vs seen hnx
            obtain⟨x,b,hop⟩: ∃x b,o.op=.next x b:=by
              unfold ah at hnx;split at hnx
              · rename_i x hop;exact⟨x,false,hop⟩
              · cases hnx
            rw[Oper.semAt_eq _ _ _ (by rw[hop];simp)];obtain⟨v,H',hn,hdo⟩:=CW (P:=P) (ty:=o.type) s hop (t.ev x) hnx;have:bD P (execOp act.eval o) B.w0 B.F0 F μ w v H':=by
              unfold execOp;rw[hop];exact bD.of hdo
            obtain⟨nx,V,w',F',μ',h1,h2,h3,h4,h5⟩:=this;rw[h1];have hrel:Rel n B ({a with H:=H'}.put o.dst v) (act.put o.dst V) w':=⟨F',μ',by cases o.dst<;>exact h4,y.trans h3,t.put h3 h5 hd⟩
            rcases h2 with rfl|⟨rfl,rfl⟩
            · rw[Oper.uponIn_value];exact ih (k+1) rs _ _ _ hk' (h v H' hn) hrel
            · rw[Oper.uponIn_skip];exact ih (k+1) rs _ _ _ hk' (h v H' hn) hrel
          split at h
          · rename_i halt
            obtain⟨b,hb⟩:=C2 (P:=P) t halt;rw[Oper.semAt_eq _ _ _ (by rintro c hc;rw[hc]at halt;cases halt),hb,Oper.uponIn_value];exact ih (k+1) rs _ _ _ hk' (h b) ⟨F,μ,by cases o.dst<;>exact s,y,t.put (Ext.refl _ _ _) (.bool b) hd⟩
          split at h
          · rename_i v H' hev
            rw[Oper.semAt_eq _ _ _ (by rintro c hc;rw[hc]at hev;cases hev)];obtain⟨nx,V,w',F',μ',h1,h2,h3,h4,h5⟩:=pN (P:=P) (o:=o) s t hev;rw[h1];have hrel:Rel n B ({a with H:=H'}.put o.dst v) (act.put o.dst V) w':=⟨F',μ',by cases o.dst<;>exact h4,y.trans h3,t.put h3 h5 hd⟩
            rcases h2 with rfl|⟨rfl,rfl⟩
            · rw[Oper.uponIn_value];exact ih (k+1) rs _ _ _ hk' h hrel
            · rw[Oper.uponIn_skip];exact ih (k+1) rs _ _ _ hk' h hrel
          · exact h.elim
theorem C3 {B:Bs m} {ops:Array Oper} (hf: ∀(j:Nat) (o':Oper) (d:Nat),ops[j]? =some o'→o'.dst=some d→d<n) (rest:List Oper) (k:Nat) (rs:List CR) (a:St) (act:Act) (w:World)
    (hk: ∀i o,rest[i]? =some o→ops[k+i]? =some o) (h:al P ops Q rs rest a) (hr:Rel n B a act w):wpOpsIn (fnc R) 1 P ops (dX n B Q) (List.range' k rest.length) act w:=by
  have:=kv (P:=P) (R:=R) (Q:=Q) (Q':=Q) (B:=B) [] hf (fun a act w h ⟨F,μ,s,y,t⟩=>⟨_,a,F,μ,h,.normal,s,y,t⟩) (fun _ _ _ h=>h) rest k rs a act w hk h hr;rwa[List.append_nil]at this
theorem dh{ops:Array Oper}(h:fits n ops=true)(j:Nat)(o:Oper)(d:Nat)(ho:ops[j]? =some o)(hd:o.dst=some d):d<n:=by
 unfold fits at h;have:=List.all_eq_true.1 h o (Array.mem_toList_iff.2 (Array.mem_of_getElem? ho));rw[hd]at this;simpa using this
theorem W.region{id:Nat}{ops:Array Oper}(rs:List CR)(hf:fits n ops=true)(h:al P ops Q rs ops.toList a):W P n m R (.region id ops false) Q a:=by
 intro B act w r;refine wpIn_region ?_;have:=C3 (P:=P) (R:=R) (Q:=Q) (B:=B) (dh hf) ops.toList 0 rs a act w (fun i o hi=>by rw[Nat.zero_add,←Array.getElem?_toList];exact hi) h r;rw[Array.length_toList,←List.range_eq_range']at this;exact this
def lK(Q:Ex→St→Prop)(c:Call):Ex→St→Prop
 | .normal,a=>∃de,jf a c=some de∧Q .normal {a with D:=de::a.D}
 |ex,a=>Q ex a
theorem W.uW {id:Nat} {ops:Array Oper} (pre:List Oper) (o:Oper) (c:Call) (rs:List CR) (hops:ops.toList=pre++[o]) (ho:o.op=.defer c) (hg:o.guard=none) (hd:o.dst=none) (hf:fits n ops=true)
    (h:al P ops (lK Q c) rs pre a):W P n m none (.region id ops false) Q a:=by
  intro B act w r;refine wpIn_region ?_;have hsz:ops.size=pre.length+1:=by rw[←Array.length_toList,hops];simp
  have hlast:ops[pre.length]? =some o:=by rw[←Array.getElem?_toList,hops];simp
  have:=kv (P:=P) (R:=none) (Q:=Q) (Q':=lK Q c) (B:=B) [pre.length] (dh hf) ?_ (fun _ _ _ h=>h) pre 0 rs a act w (fun i o' hi=>by
    rw[Nat.zero_add,←Array.getElem?_toList,hops,List.getElem?_append_left (List.getElem?_eq_some_iff.1 hi).1];exact hi) h r
  · rw[hsz,List.range_eq_range',List.range'_concat]
    simpa using this
  · rintro b act w ⟨de,hde,hq⟩ ⟨F,μ,s,y,t⟩
    simp only[wpOpsIn,hlast];have hw:Region.wanted o (yielded ops act.tmps)=true:=by simp[Region.wanted,hg]
    rw[if_pos hw];refine⟨fun _ _=>trivial,?_⟩;obtain⟨callee,args0,argTypes⟩:=c;unfold jf at hde;simp only at hde;split at hde
    case h_2=>cases hde
    rename_i f;split at hde
    case h_2=>cases hde
    rename_i fn fs cs hev;cases hde;have hv:=t.ev f;rw[hev]at hv;generalize hX:act.eval f=X at hv;cases hv with
    | func _ _ _ Fs Cs h1 h2=>
      have hrun:(o.semAt (fnc none).round act.eval).run P w=.ok (.defer {target:=.fn fn Cs,args:=Fs++args0.map act.eval}) w:=by
        show(execOp act.eval o).run P w=_;unfold execOp;rw[ho];simp[resolve,hX,Deferred.ofValue]
      rw[hrun,Oper.uponIn_defer];have hp:({act with defers:={target:=.fn fn Cs,args:=Fs++args0.map act.eval}::act.defers}:Act).put o.dst undef={act with defers:={target:=.fn fn Cs,args:=Fs++args0.map act.eval}::act.defers}:=by rw[hd];rfl
      rw[hp];refine⟨_,_,F,μ,hq,.normal,s,y,⟨.call fn cs _ Cs _ _ _ h2 ?_ t.defers,t.size,t.slots⟩⟩;rw[Array.toList_append];exact h1.append (by rw[Array.toList_map];exact t.evs _)
end
/-! ### A value told less exactly -/
mutual
inductive Le:AV→AV→Prop
 |refl (v:AV):Le v v
 |junk (v:AV):Le v .junk
 |exact(wd:Nat) (x:Bool) (es:List AV):Le (.vsl wd x es) (.vsl wd false es)
 |nil (wd wd':Nat) (x:Bool):Le (.vsl wd x []) (.vsl wd' false [])
 |nils (wd:Nat) (x:Bool):Le .nilsl (.vsl wd x [])
 |agg (l l':List AV) (h:Les l l'):Le (.agg l) (.agg l')
 |tup (l l':List AV) (h:Les l l'):Le (.tup l) (.tup l')
inductive Les:List AV→List AV→Prop
 |nil:Les [] []
 |cons (v v':AV) (l l':List AV) (h:Le v v') (t:Les l l'):Les (v::l) (v'::l')
end
section
variable{F:Nat→Nat→Prop} {w:World} {μ:Nat→Option Loc}
mutual
theorem VR.le{v v':AV}{V:Value}(h:VR F w μ v V):Le v v'→VR F w μ v' V
 | .refl _=>h
 | .junk _=>.junk _
 | .exact wd x es=>by
  cases h with
  |vsl _ _ _ A cap hx hl hb ha=>exact .vsl wd false es A cap (fun h=>by cases h) hl hb ha
 | .nil wd wd' x=>by
  cases h with
  |vsl _ _ _ A cap hx hl hb ha=>exact .vsl wd' false [] A cap (fun h=>by cases h) hl hb (.nil _ _)
 | .nils wd x=>by
  cases h with
  |nilsl=>exact .vsl wd x [] none 0 (fun _=>rfl) (Nat.le_refl _) (Nat.zero_le _) (.nil _ _)
 | .agg l l' hl=>by
  cases h with
  |agg _ A hA=>exact .agg l' A (VRs.le hA hl)
 | .tup l l' hl=>by
  cases h with
  |tup _ A hA=>exact .tup l' A (VRs.le hA hl)
theorem VRs.le{l l':List AV}{L:List Value}(h:VRs F w μ l L):Les l l'→VRs F w μ l' L
 | .nil=>h
 | .cons v v' l l' hv t=>by
  cases h with
  |cons _ V _ L h1 h2=>exact .cons _ _ _ _ (VR.le h1 hv) (VRs.le h2 t)
end
end
/-! ### Handles below a number -/
mutual
def AV.hlt(m:Nat):AV→Bool
 | .ptr id _| .sl id _ _ _| .map id| .yld id=>decide (id<m)
 | .vptr l=>AV.bf m l
 | .vsl _ _ l=>AV.bf m l
 | .vmap ks vs=>AV.bf m ks&&AV.bf m vs
 | .func _ fs cs=>AV.bf m fs&&AV.bf m cs
 | .iface _ v=>AV.hlt m v
 | .agg l=>AV.bf m l
 | .tup l=>AV.bf m l
 |_=>true
def AV.bf(m:Nat):List AV→Bool
 | []=>true
 |v::l=>AV.hlt m v&&AV.bf m l
end
def cm(m:Nat):List (Nat×AV)→Bool
 | []=>true
 |(_,v)::r=>v.hlt m&&cm m r
theorem zJ{m:Nat}:∀{T:List (Nat×AV)},cm m T=true→∀t,(get T t).hlt m=true:=by
 intro T;induction T with
 |nil=>intro _ t;rfl
 |cons p r ih=>
  intro h t;obtain⟨s,v⟩:=p;simp only[cm,Bool.and_eq_true]at h;simp only[get];split
  ·exact h.1
  ·exact ih h.2 t
def OB.hlt(m:Nat):OB→Bool
 | .cells cs _=>AV.bf m cs
 | .map ks vs=>AV.bf m ks&&AV.bf m vs
 | .loop T _=>cm m T
 | .dfr=>true
 | .iter ks vs _=>AV.bf m ks&&AV.bf m vs
 | .siter _ _=>true
 | .dead=>true
theorem dZ(m:Nat)(l:List AV):AV.bf m l=l.all (AV.hlt m):=by
 induction l with
 |nil=>rfl
 |cons v l ih=>simp[AV.bf,ih]
def cutμ(m:Nat)(μ:Nat→Option Loc):Nat→Option Loc:=fun i=>if i<m then μ i else none
section
variable{P:Program} {w0:World} {F0 F F':Nat→Nat→Prop} {μ μ':Nat→Option Loc} {H H':List OB} {w w':World} {n m k:Nat} {a b:St} {act:Act} {R:Option Nat} {Q:Ex→St→Prop}
mutual
theorem VR.cut{v:AV}{V:Value}:VR F w μ v V→AV.hlt m v=true→VR F w (cutμ m μ) v V
  | .junk V,_=>.junk V
  | .bool b,_=>.bool b
  | .int k n,_=>.int k n
  | .str s hb,_=>.str s hb
  | .nilptr,_=>.nilptr
  | .ptr id off L h,hh=>.ptr id off L (by simp[AV.hlt]at hh;simp[cutμ,hh,h])
  | .vptr cs b o h,hh=>.vptr cs b o (VRm.cut h (by simpa[AV.hlt]using hh))
  | .sl id off len wd cap L h hc hl hb,hh=>.sl id off len wd cap L (by simp[AV.hlt]at hh;simp[cutμ,hh,h]) hc hl hb
  | .vsl wd e es A cap hx hl hb h,hh=>.vsl wd e es A cap hx hl hb (VRa.cut h (by simpa[AV.hlt]using hh))
  | .nilmap,_=>.nilmap
  | .nilsl,_=>.nilsl
  | .map id L h,hh=>.map id L (by simp[AV.hlt]at hh;simp[cutμ,hh,h])
  | .vmap ks vs r es clock hF hr hb h,hh=>.vmap ks vs r es clock hF hr hb (VRk.cut h (by simp[AV.hlt]at hh;exact hh.1) (by simp[AV.hlt]at hh;exact hh.2))
  | .func fn fs cs Fs Cs hf hc,hh=>.func fn fs cs Fs Cs (VRs.cut hf (by simp[AV.hlt]at hh;exact hh.1)) (VRs.cut hc (by simp[AV.hlt]at hh;exact hh.2))
  | .nilfunc,_=>.nilfunc
  | .iface t v V h,hh=>.iface t v V (VR.cut h (by simpa[AV.hlt]using hh))
  | .nilif,_=>.nilif
  | .agg l A h,hh=>.agg l A (VRs.cut h (by simpa[AV.hlt]using hh))
  | .tup l A h,hh=>.tup l A (VRs.cut h (by simpa[AV.hlt]using hh))
  | .yld id L h,hh=>.yld id L (by simp[AV.hlt]at hh;simp[cutμ,hh,h])
theorem VRs.cut{vs:List AV}{Vs:List Value}:VRs F w μ vs Vs→AV.bf m vs=true→VRs F w (cutμ m μ) vs Vs
  | .nil,_=>.nil
  | .cons v V vs Vs h t,hh=>.cons v V vs Vs (VR.cut h (by simp[AV.bf]at hh;exact hh.1)) (VRs.cut t (by simp[AV.bf]at hh;exact hh.2))
theorem VRm.cut{vs:List AV}{b o:Nat}:VRm F w μ vs b o→AV.bf m vs=true→VRm F w (cutμ m μ) vs b o
  | .nil b o,_=>.nil b o
  | .cons v V vs b o hF hc h t,hh=>.cons v V vs b o hF hc (VR.cut h (by simp[AV.bf]at hh;exact hh.1)) (VRm.cut t (by simp[AV.bf]at hh;exact hh.2))
theorem VRe.cut{vs:List AV}{size b o:Nat}:VRe F w μ vs size b o→AV.bf m vs=true→VRe F w (cutμ m μ) vs size b o
  | .nil s b o,_=>.nil s b o
  | .cons v vs s b o hs h t,hh=>.cons v vs s b o hs (VRm.cut h (by
      simp[AV.bf]at hh;have h1:=hh.1
      cases v<;>simp_all[AV.cells,AV.bf,AV.hlt])) (VRe.cut t (by simp[AV.bf]at hh;exact hh.2))
theorem VRa.cut{vs:List AV}{size:Nat}{A:Option Addr}:VRa F w μ vs size A→AV.bf m vs=true→VRa F w (cutμ m μ) vs size A
  | .nil s A,_=>.nil s A
  | .at es s b o h,hh=>.at es s b o (VRe.cut h hh)
theorem VRk.cut{ks vs:List AV}{es:List MapEntry}:VRk F w μ ks vs es→AV.bf m ks=true→AV.bf m vs=true→VRk F w (cutμ m μ) ks vs es
  | .nil,_,_=>.nil
  | .cons k v ks vs e es hk hv t,h1,h2=>.cons k v ks vs e es (VR.cut hk (by simp[AV.bf]at h1;exact h1.1)) (VR.cut hv (by simp[AV.bf]at h2;exact h2.1)) (VRk.cut t (by simp[AV.bf]at h1;exact h1.2) (by simp[AV.bf]at h2;exact h2.2))
end
theorem Sim.cut (s:Sim w0 F0 F μ H w) (hm:H'.length=m) (hsub: ∀(i:Nat) (blk:OB),H'[i]? =some blk→blk=.dead∨(H[i]? =some blk∧blk.hlt m=true)):
    Sim w0 F0 F (cutμ m μ) H' w:=by
  have hl: ∀(i:Nat) (blk:OB),H'[i]? =some blk→blk.live=true→H[i]? =some blk∧blk.hlt m=true:=by
    intro i blk hi hl;rcases hsub i blk hi with rfl|h
    · cases hl
    · exact h
  have hc: ∀i L,cutμ m μ i=some L→μ i=some L∧i<m:=by
    intro i L h;unfold cutμ at h;split at h
    · exact⟨h,‹_›⟩
    · cases h
  refine⟨s.below,s.new,s.old,s.lt,?_,?_,?_⟩
  · intro i blk hi
    by_cases hlv:blk.live=true
    · obtain⟨h1,h2⟩:=hl i blk hi hlv
      have him:i<m:=by rw[←hm];exact(List.getElem?_eq_some_iff.1 hi).1
      cases s.obs i blk h1 with
      | cells cs opn L c el lo hi2 hμ hB hw hcap hlen hfix hun hcs hF=>
        refine .cells cs opn L c el lo hi2 (by simp[cutμ,him,hμ]) hB hw hcap hlen hfix hun (fun j v hj=> ?_) hF;obtain⟨V,h3,h4⟩:=hcs j v hj;simp only[OB.hlt,dZ]at h2;exact⟨V,h3,h4.cut (List.all_eq_true.1 h2 v (List.mem_of_getElem? hj))⟩
      | map ks vs L es clock hμ hB hw hes hb hF=>
        simp only[OB.hlt,Bool.and_eq_true]at h2;exact .map ks vs L es clock (by simp[cutμ,him,hμ]) hB hw (hes.cut h2.1 h2.2) hb hF
      | loop T K L rec hμ hB hw e1 e2 e3 e4 e5 e6 hT hF=>
        exact .loop T K L rec (by simp[cutμ,him,hμ]) hB hw e1 e2 e3 e4 e5 e6 (fun t=>(hT t).cut (zJ h2 t)) hF
      |dfr L hμ hB hw hF=>exact .dfr L (by simp[cutμ,him,hμ]) hB hw hF
      | iter ks vs seen L mm es clock ss hμ hB h0 hw hm hmw hb hk hss hF=>
        simp only[OB.hlt,Bool.and_eq_true]at h2;exact .iter ks vs seen L mm es clock ss (by simp[cutμ,him,hμ]) hB h0 hw hm hmw hb (hk.cut h2.1 h2.2) hss hF
      |siter s pos L hμ hB h0 hw hb hF=>exact .siter s pos L (by simp[cutμ,him,hμ]) hB h0 hw hb hF
      |dead=>cases hlv
    · exact OBR.fZ (by simpa using hlv)
  · intro i j bi bj Li Lj hi hj li lj mi mj hij
    exact s.apart i j bi bj Li Lj (hl i bi hi li).1 (hl j bj hj lj).1 li lj (hc i Li mi).1 (hc j Lj mj).1 hij
  · intro i L h
    rw[hm];exact(hc i L h).2
def bz(T:List (Nat×AV)):List (Nat×AV)→Prop
 | []=>True
 |(t,v)::r=>Le (get T t) v∧bz T r
def bm(m:Nat):List OB→List OB→Prop
 |_,[]=>True
 |blk::r,.dead::r'=>bm m r r'
 |blk::r,blk'::r'=>blk=blk'∧blk'.hlt m=true∧bm m r r'
 | [],_::_=>False
theorem nJ:∀{H H':List OB},bm m H H'→∀(i:Nat) (blk:OB),H'[i]? =some blk→blk=.dead∨(H[i]? =some blk∧blk.hlt m=true):=by
 intro H H';induction H' generalizing H with
 |nil=>intro _ i blk h;simp at h
 | cons b' r' ih=>
  intro h i blk hi;cases H with
  |nil=>cases b'<;>simp[bm]at h
  | cons b r=>
   cases i with
   |zero=>
    simp at hi;subst hi;cases b' with
    |dead=>exact .inl rfl
    |cells _ _=>simp only[bm]at h;exact .inr ⟨by simp[h.1],h.2.1⟩
    |map _ _=>simp only[bm]at h;exact .inr ⟨by simp[h.1],h.2.1⟩
    |loop _ _=>simp only[bm]at h;exact .inr ⟨by simp[h.1],h.2.1⟩
    |dfr=>simp only[bm]at h;exact .inr ⟨by simp[h.1],h.2.1⟩
    |iter _ _ _=>simp only[bm]at h;exact .inr ⟨by simp[h.1],h.2.1⟩
    |siter _ _=>simp only[bm]at h;exact .inr ⟨by simp[h.1],h.2.1⟩
   | succ i=>
    have h':bm m r r':=by
     cases b' with
     |dead=>exact h
     |cells _ _=>simp only[bm]at h;exact h.2.2
     |map _ _=>simp only[bm]at h;exact h.2.2
     |loop _ _=>simp only[bm]at h;exact h.2.2
     |dfr=>simp only[bm]at h;exact h.2.2
     |iter _ _ _=>simp only[bm]at h;exact h.2.2
     |siter _ _=>simp only[bm]at h;exact h.2.2
    simpa using ih h' i blk (by simpa using hi)
theorem zK{T:List (Nat×AV)}:∀{T':List (Nat×AV)},bz T T'→cm m T'=true→∀t,get T' t=.junk∨(Le (get T t) (get T' t)∧(get T' t).hlt m=true):=by
 intro T';induction T' with
 |nil=>intro _ _ t;exact .inl rfl
 |cons p r ih=>
  intro h hh t;obtain⟨s,v⟩:=p;simp only[bz]at h;simp only[cm,Bool.and_eq_true]at hh;simp only[get];by_cases e:s=t
  ·subst e;rw[if_pos rfl];exact .inr ⟨h.1,hh.1⟩
  ·rw[if_neg e];exact ih h.2 hh.2 t
def DE.hlt(m:Nat):DE→Bool
 | .mark id=>decide (id<m)
 | .call _ cs as=>AV.bf m cs&&AV.bf m as
theorem VD.cut{D:List DE}{ds:List Deferred}(h:VD F w μ D ds)(hh:D.all (DE.hlt m)=true):VD F w (cutμ m μ) D ds:=by
 induction h with
 |nil=>exact .nil
 |cons id L D ds h _ ih=>
  simp only[List.all_cons,Bool.and_eq_true,DE.hlt,decide_eq_true_eq]at hh;exact .cons id L D ds (by simp[cutμ,hh.1,h]) (ih hh.2)
 |call fn cs as Cs As D ds hc ha _ ih=>
  simp only[List.all_cons,Bool.and_eq_true,DE.hlt]at hh;exact .call fn cs as Cs As D ds (hc.cut hh.1.1) (ha.cut hh.1.2) (ih hh.2)
theorem Rel.weaken{B:Bs k}(hD:a.D=b.D∧b.D.all (DE.hlt b.H.length)=true)(hk:k≤b.H.length)(hT:bz a.T b.T)(hh:cm b.H.length b.T=true)(hH:bm b.H.length a.H b.H)(r:Rel n B a act w):Rel n B b act w:=by
 obtain⟨F,μ,s,y,t⟩:=r;have hc:∀id L,B.μs id=some L→cutμ b.H.length μ id=some L:=by
  intro id L h;have:=B.dom id L h;unfold cutμ;rw[if_pos (by omega)];exact y.mu _ _ h
 refine⟨F,cutμ b.H.length μ,s.cut rfl (nJ hH),⟨hc,y.fr,y.cell,y.obj⟩,⟨(hD.1 ▸ t.defers).cut hD.2,t.size,fun i=>?_⟩⟩;rcases zK hT hh i with h|⟨h1,h2⟩
 ·rw[h];exact .junk _
 ·exact((t.slots i).le h1).cut h2
theorem W.weaken{c:Code}(b:St)(hD:a.D=b.D∧b.D.all (DE.hlt b.H.length)=true)(hk:k≤b.H.length)(hT:bz a.T b.T)(hh:cm b.H.length b.T=true)(hH:bm b.H.length a.H b.H)(h:W P n k R c Q b):W P n k R c Q a:=
 fun B act w r=>h B act w (r.weaken hD hk hT hh hH)
/-! ### Functions -/
def aL:Nat→List AV→List (Nat×AV)
 |_,[]=>[]
 |i,v::vs=>(i,v)::aL (i+1) vs
def dt(P:Program)(a:St):ResultVar→Option AV
 | .tmp t=>some (get a.T t)
 | .cell t ty=>ao P ty (get a.T t) a.H
def eH(P:Program)(rs:List ResultVar)(a:St):Option AV:=
 match rs with
 | [r]=>dt P a r
 |rs=>(rs.mapM (dt P a)).map .tup
def C4(P:Program)(rs:List ResultVar)(out:Out)(a:St):Prop:=
 match out with
 | .ret r=>∃r',(eH P rs a).bind (fz a.H 20)=some r'∧Le r' r
 |_=>False
def jB(H:List OB):List DE→Option (List OB)
 | []=>some H
 | .mark id::D=>match H[id]? with
  |some .dfr=>jB (H.set id .dead) D
  |_=>none
 | .call _ _ _::_=>none
def fe(a:St):Option St:=(jB a.H a.D).map fun H'=>⟨a.T,H',[]⟩
def eI(P:Program)(rs:List ResultVar)(out:Out):Ex→St→Prop
 | .normal,a| .ret,a=>∃a',fe a=some a'∧C4 P rs out a'
 | .panic t v,a=>∃a',fe a=some a'∧match out with
  | .pan t' v'=>t=t'∧∃v0,fz a'.H 20 v=some v0∧Le v0 v'
  |_=>False
 |_,_=>False
theorem zN(vs:List AV):∀(i t:Nat),get (aL i vs) t=if i≤t then(vs[t - i]?).getD .junk else .junk:=by
 induction vs with
 |nil=>intro i t;simp[aL,get]
 | cons v vs ih=>
  intro i t;simp only[aL,get];by_cases e:i=t
  ·subst e;simp
  ·rw[if_neg e,ih]
   by_cases h:i+1≤t
   ·rw[if_pos h,if_pos (by omega),show t - i=(t - (i+1))+1 from by omega];simp
   ·rw[if_neg h,if_neg (by omega)]
theorem cd.start{args:List AV}{Vs:List Value}(hv:VRs F w μ args Vs)(hn:args.length≤n):
    cd n F μ ⟨aL 0 args,H,[]⟩ {tmps:=Vs.toArray++Array.replicate (n - Vs.toArray.size) undef,defers:=[]} w:=by
  have hl:=VRs.len hv;refine⟨.nil,by simp;omega,fun t=> ?_⟩;rw[zN,if_pos (Nat.zero_le _),Nat.sub_zero];cases hi:args[t]? with
  |none=>exact .junk _
  | some v=>
    obtain⟨V,h1,h2⟩:=hv.get hi;have:t<Vs.length:=(List.getElem?_eq_some_iff.1 h1).1;simp only[Option.getD_some];rw[Array.getD_eq_getD_getElem?,Array.getElem?_append_left (by simpa using this)];simpa[h1]using h2
theorem zO (s : Sim w0 F0 F μ a.H w) (t:cd n F μ a act w) {r:ResultVar} {v:AV} (h:dt P a r=some v):
    ∃V,(match r with| .tmp t=>pure (act.tmps.getD t undef)| .cell x ty=>do loadVar ty (←asAddr (act.tmps.getD x undef)):Sem Value).run P w=.ok V w∧VR F w μ v V:=by
  cases r with
  |tmp x=>simp only[dt,Option.some.injEq]at h;subst h;exact⟨_,rfl,t.slots x⟩
  | cell x ty =>
    simp only[dt]at h;have hx:=t.slots x;have h':=h;unfold ao at h;split at h
    · rename_i sz ag hs ha
      split at h
      · rename_i id off hg
        rw[hg]at hx;generalize hX:act.tmps.getD x undef=X at hx ⊢;split at h
        · rename_i cs opn hid
          cases hx with
          | ptr _ _ L hμ=>
            cases s.obs id _ hid with
            | cells _ _ L' c el lo hi hμ' hB hw hcap hlen hfix hun hcs hF=>
              rw[hμ]at hμ';cases hμ'
              obtain⟨V,h1,h2⟩:=ga (P:=P) (F:=F) (w:=w) (μ:=μ) hs ha (b:=L.block) (o:=L.off) h (fun i v hiv=>by
                obtain⟨V,h3,h4⟩:=hcs i v hiv
                exact⟨V,by rw[dH w _ _ c el (lo,hi) hw];exact h3,h4⟩)
              exact⟨V,by simp only[Sem.run_bind,hX,asAddr,Sem.run_pure,Result.andThen,h1],h2⟩
        · cases h
      · rename_i cs hg
        rw[hg]at hx;generalize hX:act.tmps.getD x undef=X at hx ⊢;cases hx with
        | vptr _ b o hm=>
          obtain⟨V,h1,h2⟩:=ga (P:=P) (F:=F) (w:=w) (μ:=μ) hs ha (b:=b) (o:=o) h (fun i v hi=>(hm.get hi).2);exact⟨V,by simp only[Sem.run_bind,hX,asAddr,Sem.run_pure,Result.andThen];simpa using h1,h2⟩
      · cases h
    · cases h
theorem zP (s:Sim w0 F0 F μ a.H w) (t:cd n F μ a act w): ∀{rs:List ResultVar} {vs:List AV},rs.mapM (dt P a)=some vs→
    ∃Vs:List Value,(rs.mapM (fun r=>(match r with| .tmp t=>pure (act.tmps.getD t undef)| .cell x ty=>do loadVar ty (←asAddr (act.tmps.getD x undef)):Sem Value))).run P w=.ok Vs w∧VRs F w μ vs Vs:=by
  intro rs;induction rs with
  |nil=>intro vs h;simp at h;subst h;exact⟨[],rfl,.nil⟩
  | cons r rs ih=>
    intro vs h;simp only[List.mapM_cons]at h;cases hr:dt P a r with
    |none=>rw[hr]at h;cases h
    | some v=>
      rw[hr]at h;cases hrs:rs.mapM (dt P a)with
      |none=>rw[hrs]at h;cases h
      | some vs'=>
        rw[hrs]at h;cases h;obtain⟨V,h1,h2⟩:=zO (P:=P) s t hr;obtain⟨Vs,h3,h4⟩:=ih hrs;exact⟨V::Vs,by simp only[List.mapM_cons,Sem.run_bind,h1,Result.andThen,h3,Sem.run_pure],.cons _ _ _ _ h2 h4⟩
theorem cJ{fn:Func}(s:Sim w0 F0 F μ a.H w)(t:cd n F μ a act w){v:AV}(h:eH P fn.results.toList a=some v):∃V,(results fn act.tmps).run P w=.ok V w∧VR F w μ v V:=by
 have hm:∀{vs:List AV},fn.results.toList.mapM (dt P a)=some vs→∃Vs:List Value,VRs F w μ vs Vs∧Vs.length=fn.results.toList.length∧(results fn act.tmps).run P w=.ok (if h:Vs.toArray.size=1 then Vs.toArray[0]else .tuple Vs.toArray) w:=by
  intro vs hvs;obtain⟨Vs,h1,h2⟩:=zP (P:=P) s t hvs;have hlen:Vs.length=fn.results.toList.length:=by
   rw[VRs.len h2];have key:∀(rs:List ResultVar) (vs:List AV),rs.mapM (dt P a)=some vs→vs.length=rs.length:=by
    intro rs;induction rs with
    |nil=>intro vs h;simp at h;subst h;rfl
    | cons r rs ih=>
     intro vs h;simp only[List.mapM_cons]at h;cases hr:dt P a r with
     |none=>rw[hr]at h;cases h
     |some v=>
      rw[hr]at h;cases hrs:rs.mapM (dt P a)with
      |none=>rw[hrs]at h;cases h
      |some vs'=>rw[hrs]at h;cases h;simp[ih _ hrs]
   exact key _ _ hvs
  refine⟨Vs,h2,hlen,?_⟩;unfold results;rw[Array.mapM_eq_mapM_toList];simp only[Sem.run_bind,Sem.run_map];have h1':(fn.results.toList.mapM (fun r=>(match r with| .tmp t=>pure (act.tmps.getD t undef)| .cell x ty=>do loadVar ty (←asAddr (act.tmps.getD x undef)):Sem Value))).run P w=.ok Vs w:=h1;refine(congrArg (fun r:Result (List Value)=>(r.andThen _).andThen _) h1').trans ?_;rfl
 unfold eH at h;split at h
 ·rename_i r hr
  have hvs:fn.results.toList.mapM (dt P a)=some [v]:=by rw[hr];simp[h]
  obtain⟨Vs,h1,h2,h3⟩:=hm hvs;cases h1 with
  |cons _ V _ Vs h4 h5=>
   cases h5;exact⟨V,by simpa using h3,h4⟩
 ·rename_i hne
  rw[Option.map_eq_some_iff]at h;obtain⟨vs,hvs,rfl⟩:=h;obtain⟨Vs,h1,h2,h3⟩:=hm hvs;refine⟨.tuple Vs.toArray,?_,.tup _ _ (by simpa using h1)⟩;rw[h3,dif_neg];intro h4;have:fn.results.toList.length=1:=by rw[←h2];simpa using h4
  match hq:fn.results.toList with
  | []=>rw[hq]at this;cases this
  | [r]=>exact hne r hq
  |_::_::_=>rw[hq]at this;simp at this
theorem mY(s:Sim w0 F0 F μ H w):∀b o,fq F μ H b o→b<w.heap.size:=by
 rintro b o (h|⟨id,blk,L,h1,h2,h3,rfl⟩)
 ·exact s.lt b o h
 ·obtain⟨L',h4,_,h5,_⟩:=(s.obs id blk h1).loc h2
  rw[h3]at h4;cases h4;exact h5
theorem ky(s:Sim w0 F0 F μ H w):∀b o,b<w0.heap.size→fq F μ H b o→F0 b o:=by
 rintro b o hb (h|⟨id,blk,L,h1,h2,h3,rfl⟩)
 ·exact s.old b o hb h
 ·obtain⟨L',h4,h5,_,_⟩:=(s.obs id blk h1).loc h2
  rw[h3]at h4;cases h4;omega
theorem zQ {fn:Func} {tmps:Array Value} {E:Ending→World→Prop} {u:FrameMode} (hu:u≠ .run): ∀{D:List DE} {ds:List Deferred} {H H':List OB} {w:World},Sim w0 F0 F μ H w→jB H D=some H'→VD F w μ D ds→
    (∀w',Ext F w μ F w' μ→Sim w0 F0 F μ H' w'→LeavesIn Fence.wide 1 P fn tmps E [] u w')→LeavesInM Fence.wide 1 P fn tmps E ds u w:=by
  intro D;induction D with
  | nil=>
    intro ds H H' w s h hd hlast;cases hd;simp only[jB,Option.some.injEq]at h;subst h;exact hlast w (Ext.refl _ _ _) s
  | cons id D ih=>
    intro ds H H' w s h hd hlast;cases hd with
    |call=>simp only[jB]at h;cases h
    | cons id L _ ds hμ hd=>
      simp only[jB]at h;split at h
      case h_2=>cases h
      rename_i hid;have hob:=s.obs id _ hid;cases hob with
      | dfr L' hμ' hB hw hF=>
        rw[hμ]at hμ';cases hμ';obtain⟨x,s'⟩:=s.write id .dfr .dead L hid rfl hμ (.deferred none) (fun _=>.dead);refine⟨hu,.inl ⟨L.block,_,rfl,?_,ih s' h (hd.mono x) fun w' x' s''=>hlast w' (x.trans x') s''⟩⟩;simp[Instr.takeDeferred,getObj,setObj,Sem.run,Sem.run_bind,hw,Result.andThen]
theorem fA {fn:Func} {tmps:Array Value} {E:Ending→World→Prop} {u:FrameMode} (hu:u≠ .run) {a':St} (s:Sim w0 F0 F μ a.H w) (t:cd n F μ a act w) (h:fe a=some a')
    (hlast: ∀w',Ext F w μ F w' μ→Sim w0 F0 F μ a'.H w'→cd n F μ a' {act with defers:=[]} w'→LeavesIn Fence.wide 1 P fn tmps E [] u w'):LeavesInM Fence.wide 1 P fn tmps E act.defers u w:=by
  unfold fe at h;rw[Option.map_eq_some_iff]at h;obtain⟨H',h1,rfl⟩:=h;exact zQ hu s h1 t.defers fun w' x s'=>hlast w' x s' ⟨.nil,t.size,fun i=>VR.mono x (t.slots i)⟩
theorem ad.of {f:FuncId} {fn:Func} {c:Code} {args:List AV} {out:Out} (hf:P.funcs[f]? =some fn) (hb:fn.body=some c) (hc: ∀Vs w,(callFunc f Vs).run P w=.ok (.enter f Vs) w) (hn:args.length≤fn.ntmps)
    (h:W P fn.ntmps 0 none c (eI P fn.results.toList out) ⟨aL 0 args,[],[]⟩):ad P f args out:=by
  intro F w Vs hlt hv;refine .inl ⟨w,hc _ _,rfl,(callsIn_wide (n:=1)).1 (callsIn_of_wp_marks hf hb trivial ?_ rfl)⟩;have s0:Sim w F F noμ [] w:=⟨Below.refl _ _,fun _ _ h=>h,fun _ _ _ h=>h,hlt,by simp,by simp,fun _ _ h=>by cases h⟩
  refine wpIn_mono (h ⟨w,F,w,F,noμ,fun _ _ h=>by cases h⟩ _ w ⟨F,noμ,s0,Ext.refl _ _ _,cd.start hv hn⟩) ?_;rintro e act' w' ⟨ex,a',F',μ',hq,hx,s,y,t⟩;have hpost: ∀(H':List OB) w'' out' e',Sim w F F' μ' H' w''→eW (fq F' μ' H') w'' noμ out' e'→CV F w out' e' w'':=by
    intro H' w'' out' e' s ho;exact⟨s.below,fq F' μ' H',fun b o h=>.inl (s.new b o h),mY s,fun b o hb h=>ky s b o hb h,ho⟩
  have hret:(∃a1,fe a'=some a1∧C4 P fn.results.toList out a1)→LeavesInM Fence.wide 1 P fn act'.tmps (CV F w out) act'.defers .returning w':=by
    rintro⟨a1,h1,hq⟩;refine fA (by simp) s t h1 fun w'' x s'' t''=> ?_;cases out with
    |pan _ _=>exact hq.elim
    | ret r=>
      obtain⟨r',h1,h2⟩:=hq;rw[Option.bind_eq_some_iff]at h1;obtain⟨r0,h3,h4⟩:=h1;obtain⟨V,h5,h6⟩:=cJ (P:=P) (act:={act' with defers:=[]}) s'' t'' h3;exact⟨V,h5,hpost _ _ _ _ s'' (.ret r V ((nF s'' _ _ _ _ h4 h6).le h2))⟩
  cases hx with
  |normal=>exact hret hq
  |ret=>exact hret hq
  |exit id=>exact hq.elim
  |goto l=>exact hq.elim
  | panic tt v V hV=>
    obtain⟨a1,h1,hq⟩:=hq;refine fA (by simp) s t h1 fun w'' x s'' t''=> ?_;cases out with
    |ret _=>exact hq.elim
    | pan t' v'=>
      obtain⟨rfl,v0,h1,h2⟩:=hq;exact hpost _ _ _ _ s'' (.pan tt v' V ((nF s'' _ _ _ _ h1 (VR.mono x hV)).le h2))
def FD(P:Program)(rs:List ResultVar)(out:Out)(H':List OB)(a:St):Prop:=
 match out with
 | .ret r=>∃r',eH P rs a=some r'∧Le r' r∧r.hlt H'.length=true∧bm H'.length a.H H'
 |_=>False
def IX(P:Program)(rs:List ResultVar)(out:Out)(H':List OB):Ex→St→Prop
 | .normal,a| .ret,a=>∃a',fe a=some a'∧FD P rs out H' a'
 | .panic t v,a=>∃a',fe a=some a'∧match out with
  | .pan t' v'=>t=t'∧Le v v'∧v'.hlt H'.length=true∧bm H'.length a'.H H'
  |_=>False
 |_,_=>False
theorem aY.of {f:FuncId} {fn:Func} {c:Code} {args:List AV} {out:Out} (hf:P.funcs[f]? =some fn) (hb:fn.body=some c) (hc: ∀Vs w,(callFunc f Vs).run P w=.ok (.enter f Vs) w) (hn:args.length≤fn.ntmps)
    (hle:H.length≤H'.length) (h:W P fn.ntmps H.length none c (IX P fn.results.toList out H') ⟨aL 0 args,H,[]⟩):aY P f args H out H':=by
  intro w0 F0 F μ w Vs s0 hv;refine .inl ⟨w,hc _ _,rfl,(callsIn_wide (n:=1)).1 (callsIn_of_wp_marks hf hb trivial ?_ rfl)⟩;refine wpIn_mono (h ⟨w0,F0,w,F,μ,s0.dom⟩ _ w ⟨F,μ,s0,Ext.refl _ _ _,cd.start hv hn⟩) ?_;rintro e act' w' ⟨ex,a',F',μ',hq,hx,s,y,t⟩;have hext: ∀(H1:List OB) (w'':World) (x:Ext F' w' μ' F' w'' μ') (s'':Sim w0 F0 F' μ' H1 w'') (hs:bm H'.length H1 H'),Ext F w μ F' w'' (cutμ H'.length μ')∧Sim w0 F0 F' (cutμ H'.length μ') H' w'':=by
    intro H1 w'' x s'' hs;have y':=y.trans x;refine⟨⟨?_,y'.fr,y'.cell,y'.obj⟩,s''.cut rfl (nJ hs)⟩;intro id L hL;have:=s0.dom id L hL;unfold cutμ;rw[if_pos (by omega)];exact y'.mu _ _ hL
  have hret:(∃a1,fe a'=some a1∧FD P fn.results.toList out H' a1)→LeavesInM Fence.wide 1 P fn act'.tmps (fun e w'=> ∃F' μ',Ext F w μ F' w' μ'∧Sim w0 F0 F' μ' H' w'∧eW F' w' μ' out e) act'.defers .returning w':=by
    rintro⟨a1,h1,hq⟩;refine fA (by simp) s t h1 fun w'' x s'' t''=> ?_;cases out with
    |pan _ _=>exact hq.elim
    | ret r=>
      obtain⟨r',h1,h2,h3,h4⟩:=hq;obtain⟨V,h5,h6⟩:=cJ (P:=P) (act:={act' with defers:=[]}) s'' t'' h1;obtain⟨x1,s1⟩:=hext _ _ x s'' h4;exact⟨V,h5,F',_,x1,s1,.ret r V ((h6.le h2).cut h3)⟩
  cases hx with
  |normal=>exact hret hq
  |ret=>exact hret hq
  |exit id=>exact hq.elim
  |goto l=>exact hq.elim
  | panic tt v V hV=>
    obtain⟨a1,h1,hq⟩:=hq;refine fA (by simp) s t h1 fun w'' x s'' t''=> ?_;cases out with
    |ret _=>exact hq.elim
    | pan t' v'=>
      obtain⟨rfl,h2,h3,h4⟩:=hq;obtain⟨x1,s1⟩:=hext _ _ x s'' h4;exact⟨F',_,x1,s1,.pan tt v' V (((VR.mono x hV).le h2).cut h3)⟩
end
def pQ(T:List (Nat×AV)):List Tmp→List AV→List (Nat×AV)
 |p::ps,v::vs=>pQ ((p,v)::T) ps vs
 |_,_=>T
def uX(id:Nat)(out:Out)(H':List OB):Ex→St→Prop
 | .normal,a=>∃T K,a.H[id]? =some (.loop T K)∧out=.ret (.bool true)∧H'=a.H.set id (.loop T {K with st:=.ready,pend:=none})
 | .ret,a=>∃T K,a.H[id]? =some (.loop T K)∧out=.ret (.bool false)∧H'=a.H.set id (.loop T {K with st:=.done,pend:=some .ret})
 | .exit i,a=>∃T K,a.H[id]? =some (.loop T K)∧out=.ret (.bool false)∧H'=a.H.set id (.loop T {K with st:=.done,pend:=some (.exit i)})
 | .goto i,a=>∃T K,a.H[id]? =some (.loop T K)∧out=.ret (.bool false)∧H'=a.H.set id (.loop T {K with st:=.done,pend:=some (.goto i)})
 | .panic _ _,_=>False
def Gk(P:Program)(n m l:Nat)(id:Nat)(body:Code)(out:Out)(H':List OB):Ex→St→Prop
 | .normal,a=>∃T K,a.H[id]? =some (.loop T K)∧K.st=.ready∧W P n m (some l) body (uX id out H') {a with H:=a.H.set id (.loop T {K with st:=.busy})}
 |_,_=>False
section
variable{P:Program} {w0:World} {F0 F F':Nat→Nat→Prop} {μ μ':Nat→Option Loc} {H H':List OB} {w w':World} {n m:Nat} {R:Option Nat} {a:St} {act:Act} {Q:Ex→St→Prop}
theorem gg{c:Code}{k:Nat}{E:Exit→Act→World→Prop}(h:c.wpIn (fnc R) 1 P E act w):c.wpIn (fnc R) k P E act w:=
 fun b ks cs hro hb _=>h b ks cs hro hb (fun _ hd=>by simp[fnc,Fence.wide]at hd)
theorem cd.Ls (n:Nat) (F:Nat→Nat→Prop) (μ:Nat→Option Loc) (w:World): ∀{ps:List Tmp} {args:List AV} {Vs:List Value} {T:List (Nat×AV)} {tmps:Array Value},VRs F w μ args Vs→tmps.size=n→(∀p∈ps,p<n)→ps.length=args.length→
    (∀t,VR F w μ (get T t) (tmps.getD t undef))→
    ((ps.zip Vs).foldl (fun tmps (p:Nat×Value)=>tmps.setIfInBounds p.1 p.2) tmps).size=n∧ ∀t,VR F w μ (get (pQ T ps args) t) (((ps.zip Vs).foldl (fun tmps (p:Nat×Value)=>tmps.setIfInBounds p.1 p.2) tmps).getD t undef):=by
  intro ps;induction ps with
  | nil=>
    intro args Vs T tmps hv hs _ hl hT;cases args with
    |nil=>exact⟨by simpa using hs,by simpa[pQ]using hT⟩
    |cons _ _=>simp at hl
  | cons p ps ih=>
    intro args Vs T tmps hv hs hp hl hT;cases hv with
    |nil=>simp at hl
    | cons v V vs Vs h t=>
      simp only[List.zip_cons_cons,List.foldl_cons,pQ];refine ih t (by simpa using hs) (fun q hq=>hp q (List.mem_cons_of_mem _ hq)) (by simpa using hl) fun s=> ?_;simp only[get];have hpn:p<tmps.size:=by rw[hs];exact hp p (by simp)
      by_cases e:p=s
      · subst e
        rw[if_pos rfl];simp[Array.getD_eq_getD_getElem?,Array.getElem?_setIfInBounds,hpn,h]
      · rw[if_neg e]
        have:=hT s;simp only[Array.getD_eq_getD_getElem?,Array.getElem?_setIfInBounds,if_neg e]at this ⊢;exact this
theorem Sim.kz(s:Sim w0 F0 F μ H w){id:Nat}{T:List (Nat×AV)}{K:cW}(hid:H[id]? =some (.loop T K)){L:Loc}(hμ:μ id=some L)(st:LoopState)(pe:Option Code):
    ∃ rec,w.heap[L.block]? =some (.loop rec)∧rec.state=K.st∧rec.pending=K.pend∧Ext F w μ F (w.putObj L.block (.loop {rec with state:=st,pending:=pe})) μ∧
      Sim w0 F0 F μ (H.set id (.loop T {K with st:=st,pend:=pe})) (w.putObj L.block (.loop {rec with state:=st,pending:=pe})):=by
  have hob:=s.obs id _ hid;cases hob with
  | loop _ _ L' rec hμ' hB hw e1 e2 e3 e4 e5 e6 hT hF=>
    rw[hμ]at hμ';cases hμ';refine⟨rec,hw,e4,e5,?_⟩
    exact s.write id _ (.loop T {K with st:=st,pend:=pe}) L hid rfl hμ _ (fun x=>by
      refine .loop T _ L {rec with state:=st,pending:=pe} hμ hB ?_ e1 e2 e3 rfl rfl e6 (fun t=>VR.mono x (hT t)) hF;show(w.heap.setIfInBounds L.block _)[L.block]? =_
      rw[Array.getElem?_setIfInBounds,if_pos rfl,if_pos (Array.getElem?_eq_some_iff.1 hw).1])
theorem YFn.of {id:Nat} {T:List (Nat×AV)} {K:cW} {args:List AV} {out:Out} (hid:H[id]? =some (.loop T K)) (hps:(K.ps.toList.all (fun p=>decide (p<K.n))&&decide (K.ps.size=args.length))=true)
    (h: ∀l,W P K.n H.length (some l) K.assign (Gk P K.n H.length l id K.body out H') ⟨pQ T K.ps.toList args,H,[]⟩):YFn P id args H out H':=by
  intro w0 F0 F μ w Vs L s hv hμ;simp only[Bool.and_eq_true,decide_eq_true_eq]at hps;obtain⟨hp1,hp2⟩:=hps;have hob:=s.obs id _ hid;cases hob with
  | loop _ _ L' rec hμ' hB hw e1 e2 e3 e4 e5 e6 hT hF=>
    rw[hμ]at hμ';cases hμ';have hvl:=VRs.len hv;refine⟨rec.fn,_,rec.assign,rec.body,run_yield hw (by rw[e1];simp;omega),?_⟩;obtain⟨z1,z2⟩:=cd.Ls K.n F μ w (ps:=K.ps.toList) hv e6 (fun p hp=>by simpa using List.all_eq_true.1 hp1 p hp) (by simpa using hp2) hT;have hfold:(rec.params.zip Vs.toArray).foldl (fun tmps (t,a)=>tmps.setIfInBounds t a) rec.tmps=(K.ps.toList.zip Vs).foldl (fun tmps (p:Nat×Value)=>tmps.setIfInBounds p.1 p.2) rec.tmps:=by
      rw[e1,←Array.foldl_toList,Array.toList_zip]
    rw[hfold,e2,e3];have hn0:(fnc (some L.block))=Fence.wide.inRound L.block:=rfl;refine roundIn_of_wpIn trivial ?_;rw[←hn0];refine wpIn_mono (gg (h L.block ⟨w0,F0,w,F,μ,s.dom⟩ _ w ⟨F,μ,s,Ext.refl _ _ _,⟨.nil,z1,z2⟩⟩)) ?_;rintro e act1 w1 ⟨ex,a1,F1,μ1,hq,hx,s1,y1,t1⟩;cases hx with
    |exit _=>exact hq.elim
    |goto _=>exact hq.elim
    |ret=>exact hq.elim
    |panic _ _ _ _=>exact hq.elim
    | normal=>
      obtain⟨T1,K1,hid1,hst1,hbody⟩:=hq;have hμ1:=y1.mu _ _ hμ;obtain⟨rec1,g1,g2,g3,x1,s2⟩:=s1.kz hid1 hμ1 .busy K1.pend;have hrec:({rec1 with state:=.busy,pending:=K1.pend}:Loop)={rec1 with state:=.busy}:=by rw[←g3]
      have hK:({K1 with st:=.busy,pend:=K1.pend}:cW)={K1 with st:=.busy}:=rfl;rw[hrec]at x1 s2;rw[hK]at s2;refine⟨_,run_beginRound g1 (g2.trans hst1),?_⟩;refine wpIn_mono (gg (hbody ⟨w0,F0,w,F,μ,s.dom⟩ act1 _ ⟨F1,μ1,s2,y1.trans x1,⟨t1.defers.mono x1,t1.size,fun i=>VR.mono x1 (t1.slots i)⟩⟩)) ?_;rintro e act2 w2 ⟨ex,a2,F2,μ2,hq,hx,s3,y3,t3⟩;have hμ2:=y3.mu _ _ hμ;cases hx with
      |panic _ _ _ _=>exact hq.elim
      | normal=>
        obtain⟨T2,K2,hid2,rfl,rfl⟩:=hq;obtain⟨rec2,g1,_,_,x2,s4⟩:=s3.kz hid2 hμ2 .ready none;exact⟨_,_,run_endRound none g1,F2,μ2,y3.trans x2,s4,.ret _ _ (.bool true)⟩
      | ret=>
        obtain⟨T2,K2,hid2,rfl,rfl⟩:=hq;obtain⟨rec2,g1,_,_,x2,s4⟩:=s3.kz hid2 hμ2 .done (some .ret);exact⟨_,_,run_endRound (some .ret) g1,F2,μ2,y3.trans x2,s4,.ret _ _ (.bool false)⟩
      | exit i=>
        obtain⟨T2,K2,hid2,rfl,rfl⟩:=hq;obtain⟨rec2,g1,_,_,x2,s4⟩:=s3.kz hid2 hμ2 .done (some (.exit i));exact⟨_,_,run_endRound (some (.exit i)) g1,F2,μ2,y3.trans x2,s4,.ret _ _ (.bool false)⟩
      | goto i=>
        obtain⟨T2,K2,hid2,rfl,rfl⟩:=hq;obtain⟨rec2,g1,_,_,x2,s4⟩:=s3.kz hid2 hμ2 .done (some (.goto i));exact⟨_,_,run_endRound (some (.goto i)) g1,F2,μ2,y3.trans x2,s4,.ret _ _ (.bool false)⟩
def cw(P:Program)(n m:Nat)(Q:Ex→St→Prop)(a:St):Option Code→Prop
 |none=>Q .normal a
 |some c=>W P n m none c Q a
theorem W.rangeFunc {g:Operand} {ps:Array Tmp} {assign body:Code} {gf:FuncId} {fs cs:List AV} {T':List (Nat×AV)} {K':cW} {r:AV}
    (hg:a.ev g=.func (.func gf) fs cs) (hc: ∀Vs w,(callFunc gf Vs).run P w=.ok (.enter gf Vs) w)
    (hcall:aY P gf (fs++[.yld (a.H.length+1)]++cs) (a.H++[.dfr,.loop a.T ⟨n,ps,assign,body,.ready,none⟩]) (.ret r) H')
    (hloop:H'[a.H.length+1]? =some (.loop T' K')) (hst:K'.st≠ .busy)
    (hq:cw P n m Q ⟨a.T,H'.set (a.H.length+1) .dead,.mark a.H.length::a.D⟩ K'.pend):W P n m none (.rangeFunc g ps assign body) Q a:=by
  intro B act w ⟨F,μ,s,y,t⟩;refine wpIn_rangeFunc (F:=fnc none) fun fn _=> ?_;have hgv:=t.ev g;rw[hg]at hgv;generalize hX:act.eval g=X at hgv;cases hgv with
  | func _ _ _ Fs Cs h1 h2=>
    obtain⟨μ1,x1,m1,s1⟩:=s.alloc (.deferred (some [])) .dfr ⟨w.heap.size,0,0⟩ rfl (fun μ' x hm hF=>.dfr _ hm s.below.size (by simp) hF);have hlen1:({w with heap:=w.heap.push (.deferred (some []))}:World).heap.size=w.heap.size+1:=by simp
    obtain⟨μ2,x2,m2,s2⟩:=s1.alloc (.loop {state:=.ready,pending:=none,fn,tmps:=act.tmps,params:=ps,assign,body,defers:=w.heap.size}) (.loop a.T ⟨n,ps,assign,body,.ready,none⟩)
      ⟨w.heap.size+1,0,0⟩ hlen1.symm (fun μ' x hm hF=>.loop _ _ _ {state:=.ready,pending:=none,fn,tmps:=act.tmps,params:=ps,assign,body,defers:=w.heap.size} hm (by have:=s.below.size;show _≤w.heap.size+1;omega) (by show((w.heap.push _).push _)[w.heap.size+1]? =_;rw[Array.getElem?_push,if_pos (by simp)]) rfl rfl rfl rfl rfl t.size (fun i=>VR.mono (x1.trans x) (t.slots i)) hF)
    have x12:=x1.trans x2;rw[List.length_append,List.length_singleton]at m2;have hH:a.H++[OB.dfr]++[OB.loop a.T ⟨n,ps,assign,body,.ready,none⟩]=a.H++[.dfr,.loop a.T ⟨n,ps,assign,body,.ready,none⟩]:=by simp
    rw[hH]at s2;have m1':=x2.mu _ _ m1
    refine⟨w.heap.size+1,[{target:=.collected w.heap.size,args:= #[]}],(w.alloc (.deferred (some []))).alloc (.loop {state:=.ready,pending:=none,fn,tmps:=act.tmps,params:=ps,assign,body,defers:=w.heap.size}),{target:=.fn (.func gf) Cs,args:=Fs++ #[.func (.yield (w.heap.size+1)) #[] #[]]},(w.alloc (.deferred (some []))).alloc (.loop {state:=.ready,pending:=none,fn,tmps:=act.tmps,params:=ps,assign,body,defers:=w.heap.size}),gf,
      (Fs.toList++[Value.func (.yield (w.heap.size+1)) #[] #[]]++Cs.toList).toArray,(w.alloc (.deferred (some []))).alloc (.loop {state:=.ready,pending:=none,fn,tmps:=act.tmps,params:=ps,assign,body,defers:=w.heap.size}),run_enterLoop_outer fn act.tmps ps assign body,?_,fun _ _=>trivial,?_,fun _=>Nat.le_refl _,?_⟩
    · simp only[rangeCall,resolve,hX,Deferred.ofValue,Sem.run_pure]
      simp[Act.eval]
    · simp only[invoke]
      have:(Fs++ #[Value.func (.yield (w.heap.size+1)) #[] #[]]++Cs)=(Fs.toList++[Value.func (.yield (w.heap.size+1)) #[] #[]]++Cs.toList).toArray:=by apply Array.ext';simp
      rw[this];exact hc _ _
    · refine gb.2 ?_
      have hvs:VRs F ((w.alloc (.deferred (some []))).alloc (.loop {state:=.ready,pending:=none,fn,tmps:=act.tmps,params:=ps,assign,body,defers:=w.heap.size})) μ2 (fs++[.yld (a.H.length+1)]++cs)
          (Fs.toList++[Value.func (.yield (w.heap.size+1)) #[] #[]]++Cs.toList):=
        ((VRs.mono x12 h1).append (.cons _ _ _ _ (.yld _ _ m2) .nil)).append (VRs.mono x12 h2)
      have hcc:=hcall B.w0 B.F0 F μ2 _ _ s2 hvs
      have hgo:Calls P gf (Fs.toList++[Value.func (.yield (w.heap.size+1)) #[] #[]]++Cs.toList).toArray ((w.alloc (.deferred (some []))).alloc (.loop {state:=.ready,pending:=none,fn,tmps:=act.tmps,params:=ps,assign,body,defers:=w.heap.size}))
          (fun e w'=> ∃F' μ',Ext F ((w.alloc (.deferred (some []))).alloc (.loop {state:=.ready,pending:=none,fn,tmps:=act.tmps,params:=ps,assign,body,defers:=w.heap.size})) μ2 F' w' μ'∧Sim B.w0 B.F0 F' μ' H' w'∧eW F' w' μ' (.ret r) e):=by
        rcases hcc with⟨w1,g1,rfl,g2⟩|⟨V,w1,g1,g2⟩
        · exact g2
        · rw[hc]at g1;cases g1
      refine hgo.mono ?_;rintro e w3 ⟨F3,μ3,x3,s3,ho⟩;cases ho with
      | ret _ V hV=>
        have hμ3:=x3.mu _ _ m2;have hob:=s3.obs _ _ hloop;cases hob with
        | loop _ _ L' rec hμ' hB hw e1 e2 e3 e4 e5 e6 hT hF=>
          rw[hμ3]at hμ';cases hμ';obtain⟨x4,s4⟩:=s3.write (a.H.length+1) _ .dead _ hloop rfl hμ3 (.loop {rec with state:=.exhausted}) (fun _=>.dead);have y4:=y.trans (x12.trans (x3.trans x4))
          have t4:cd n F3 μ3 ⟨a.T,H'.set (a.H.length+1) .dead,.mark a.H.length::a.D⟩ {act with defers:=[{target:=.collected w.heap.size,args:= #[]}]++act.defers} (w3.putObj (w.heap.size+1) (.loop {rec with state:=.exhausted})):=
            ⟨.cons _ ⟨w.heap.size,0,0⟩ _ _ (x3.mu _ _ m1') (t.defers.mono (x12.trans (x3.trans x4))),t.size,fun i=>VR.mono (x12.trans (x3.trans x4)) (t.slots i)⟩
          refine⟨_,_,run_endLoop hw (by rw[e4];exact hst),?_⟩
          have key: ∀(pe:Option Code) (act':Act) (W4:World),cw P n m Q ⟨a.T,H'.set (a.H.length+1) .dead,.mark a.H.length::a.D⟩ pe→Sim B.w0 B.F0 F3 μ3 (H'.set (a.H.length+1) .dead) W4→Ext B.Fs B.ws B.μs F3 W4 μ3→
              cd n F3 μ3 ⟨a.T,H'.set (a.H.length+1) .dead,.mark a.H.length::a.D⟩ act' W4→(match pe with|none=>dX n B Q .normal act' W4|some c=>c.wpIn (fnc none) 1 P (dX n B Q) act' W4):=by
            intro pe act' W4 hq s4 y4 t4;cases pe with
            |none=>exact⟨_,_,F3,μ3,hq,.normal,s4,y4,t4⟩
            |some c=>exact hq B _ _ ⟨F3,μ3,s4,y4,t4⟩
          exact key rec.pending _ _ (by rw[e5];exact hq) s4 y4 t4
end
inductive Rs where
 |val (v:AV) (H:List OB)
 |pan (t:TypeId) (v:AV) (H:List OB)
def dC (P:Program) (call:Cl→List AV→List OB→Option (Out×List OB)) (ops:Array Oper) (a:St) (o:Oper):Option Rs:=
 match gdA ops a o.guard with
 |none=>none
 |some false=>some (.val (.tup []) a.H)
 | some true=>match ae a o.op with
  |some (f,args)=>match call f args a.H with
   |some (.ret r,H')=>some (.val r H')
   |some (.pan t v,H')=>some (.pan t v H')
   |none=>none
  | none=>match aa o.op with
   |some x=>match a.ev x with
    | .iface t v=>some (.pan t v a.H)
    |_=>none
   |none=>(evalOp P o.op a).map fun p=>.val p.1 p.2
def eM(P:Program)(call:Cl→List AV→List OB→Option (Out×List OB)):Prop:=
 ∀f args H out H',call f args H=some (out,H')→jw P f args H out H'
def eX(P:Program)(n m:Nat)(R:Option Nat)(ops:Array Oper)(o:Oper)(a:St)(r:Rs):Prop:=
 ∀(i:Nat) (B:Bs m) (Qm:Exit→Act→World→Prop) (K:Act→World→Prop) F μ act w,ops[i]? =some o→Sim B.w0 B.F0 F μ a.H w→cd n F μ a act w→
  (∀v H',r=.val v H'→∀V w' F' μ',Ext F w μ F' w' μ'→Sim B.w0 B.F0 F' μ' H' w'→VR F' w' μ' v V→K (act.put o.dst V) w')→
  (∀t v H',r=.pan t v H'→∀V w' F' μ',Ext F w μ F' w' μ'→Sim B.w0 B.F0 F' μ' H' w'→VR F' w' μ' v V→Qm (.panic [{v:=.iface t V,recovered:=false}]) act w')→
  wpOpIn (fnc R) 1 P ops Qm i K act w
section
variable{P:Program} {w0:World} {F0 F F':Nat→Nat→Prop} {μ μ':Nat→Option Loc} {H H':List OB} {w w':World} {n m:Nat} {R:Option Nat} {a:St} {act:Act} {Q:Ex→St→Prop}
 {call:Cl→List AV→List OB→Option (Out×List OB)} {ops:Array Oper}
theorem eb (hcall:eM P call) (hf:fits n ops=true) {o:Oper} {r:Rs} (h:dC P call ops a o=some r):eX P n m R ops o a r:=by
  intro i B Qm K F μ act w ho s t hval hpan;unfold wpOpIn;simp only[ho];have habout: ∀f,o.about P w act.eval=some f→(fnc R).fn f:=fun _ _=>trivial;unfold dC at h;split at h
  · cases h
  · rename_i hg
    cases h;have:=nH t (dh hf) hg;simp only[this,Bool.false_eq_true,if_false];exact⟨habout,hval _ _ rfl undef w F μ (Ext.refl _ _ _) s (.tup [] #[] .nil)⟩
  · rename_i hg
    have:=nH t (dh hf) hg;simp only[this,if_true];refine⟨habout,?_⟩;split at h
    · rename_i f args hc
      rw[Oper.semAt_eq _ _ _ (pO hc)]
      have key: ∀(out:Out) (H':List OB) (e:Ending) (w':World),call f args a.H=some (out,H')→(∃F' μ',Ext F w μ F' w' μ'∧Sim B.w0 B.F0 F' μ' H' w'∧eW F' w' μ' out e)→
          (match(generalizing:=false) e,w' with
            | .returned v,w''=>K (act.put o.dst v) w''
            | .panicked chain,w''=>Qm (.panic chain) act w''
            | .outgrown,_=>LetsOut Qm):=by
        rintro out H' e w' hcl ⟨F',μ',x,s',ho'⟩;cases ho' with
        | ret r Rv hr=>
          rw[hcl]at h;cases h;exact hval _ _ rfl Rv w' F' μ' x s' hr
        | pan tt v V hv=>
          rw[hcl]at h;cases h;exact hpan _ _ _ rfl V w' F' μ' x s' hv
      have hgo: ∀(out:Out) (H':List OB),call f args a.H=some (out,H')→o.uponIn (fnc R) 1 P act K Qm ((execOp act.eval o).run P w):=by
        intro out H' hcl;rcases jw.goes s (a:=a) t hc (hcall _ _ _ _ _ hcl)with⟨f,Vs,w1,h1,h2⟩|⟨V,w1,h1,h2⟩|⟨l,f,tmps,as,bd,w1,h1,h2⟩
        · rw[h1,Oper.uponIn_enter]
          exact⟨fun _=>Nat.le_refl _,gb.2 (h2.mono fun e w' he=>key out H' e w' hcl he)⟩
        · rw[h1,Oper.uponIn_value]
          exact key out H' (.returned V) w1 hcl h2
        · rw[h1,Oper.uponIn_round]
          exact⟨fun _=>Nat.le_refl _,mr (h2.mono fun e w' he=>key out H' e w' hcl he)⟩
      split at h
      · exact hgo _ _ ‹_›
      · exact hgo _ _ ‹_›
      · cases h
    · split at h
      · rename_i x hx
        have hop:=nI hx;rw[Oper.semAt_eq _ _ _ (by rw[hop];simp)];split at h
        · rename_i tt v hv
          cases h;have hvv:=t.ev x;rw[hv]at hvv;generalize hX:act.eval x=X at hvv;cases hvv with
          | iface _ _ V hV=>
            have hr:(execOp act.eval o).run P w=.halt (.panic (.iface tt V)) w:=by
              unfold execOp;rw[hop];simp[hX,Instr.panic,goPanic]
            rw[hr,Oper.uponIn_panic];exact hpan _ _ _ rfl V w F μ (Ext.refl _ _ _) s hV
        · cases h
      · rw[Option.map_eq_some_iff]at h
        obtain⟨⟨v,H'⟩,hev,rfl⟩:=h;rw[Oper.semAt_eq _ _ _ (by rintro c hc;rw[hc]at hev;cases hev)];obtain⟨nx,V,w',F',μ',h1,h2,h3,h4,h5⟩:=pN (P:=P) (o:=o) s t hev;rw[h1];rcases h2 with rfl|⟨rfl,rfl⟩
        · rw[Oper.uponIn_value];exact hval _ _ rfl V w' F' μ' h3 h4 h5
        · rw[Oper.uponIn_skip];exact hval _ _ rfl undef w' F' μ' h3 h4 h5
/-! ### Any order -/
def only(ops:Array Oper)(o:Oper)(T:List (Nat×AV)):List (Nat×AV):=(o.looksAt ops).map fun t=>(t,get T t)
theorem iI{l:List Nat}{T:List (Nat×AV)}(t:Nat):get (l.map fun t=>(t,get T t)) t=if t∈l then get T t else .junk:=by
 induction l with
 |nil=>simp[get]
 | cons x l ih=>
  simp only[List.map_cons,get];by_cases e:x=t
  ·subst e;simp
  ·rw[if_neg e,ih]
   by_cases h:t∈l
   ·simp[h]
   ·have:¬t=x:=fun h=>e h.symm
    simp[h,this]
def cnt(k:Nat)(p:Nat→Bool):Nat:=
 match k with
 |0=>0
 |k+1=>cnt k p+(if p k=true then 1 else 0)
theorem eA{k:Nat}{p q:Nat→Bool}(h:∀i,i<k→p i=true→q i=true):cnt k p≤cnt k q:=by
 induction k with
 |zero=>exact Nat.le_refl _
 |succ k ih=>
  have h1:=ih fun i hi=>h i (by omega);have h2:=h k (by omega);simp only[cnt];cases hp:p k
  ·simp;omega
  ·rw[h2 hp];simp;exact h1
theorem fB{k i:Nat}{p q:Nat→Bool}(hi:i<k)(hp:p i=false)(h:∀j,j≠i→q j=p j):cnt k q=cnt k p+(if q i=true then 1 else 0):=by
 induction k with
 |zero=>omega
 | succ k ih=>
  simp only[cnt];by_cases e:i=k
  ·subst e
   rw[hp];have:cnt i q=cnt i p:=by
    have key:∀k',k'≤i→cnt k' q=cnt k' p:=by
     intro k';induction k' with
     |zero=>intro _;rfl
     |succ k' ih'=>intro hk;simp only[cnt];rw[ih' (by omega),h k' (by omega)]
    exact key i (Nat.le_refl _)
   rw[this];simp
  ·rw[ih (by omega),h k (by omega)];omega
theorem pR{k:Nat}{p q:Nat→Bool}(h:∀i,i<k→p i=q i):cnt k p=cnt k q:=by
 induction k with
 |zero=>rfl
 |succ k ih=>simp only[cnt];rw[ih fun i hi=>h i (by omega),h k (by omega)]
theorem W.sM {id:Nat} {af:St} (v:Nat→AV) (T:Nat→List (Nat×AV)) (Hk:Nat→List OB) (wr:Nat→Bool) (anc:Nat→Nat→Bool)
    (hm:P.follows .mixedOrders=true) (hf:fits n ops=true)
    (h0:T 0=a.T) (hT: ∀(i:Nat) (o:Oper),ops[i]? =some o→T (i+1)=(match o.dst with|none=>T i|some d=>(d,v i)::T i)) (hH:Hk 0=a.H)
    (hE: ∀(i:Nat) (o:Oper) (e:Edge),ops[i]? =some o→e∈o.after→Region.binds .any e=true→e.on<i)
    (hA: ∀(i j:Nat) (o:Oper),ops[i]? =some o→anc i j=true→ ∃e∈o.after,Region.binds .any e=true∧(j=e.on∨anc e.on j=true))
    (hL: ∀(i:Nat) (o:Oper) (t:Nat) (j:Nat) (o':Oper),ops[i]? =some o→t∈o.looksAt ops→ops[j]? =some o'→o'.dst=some t→anc i j=true)
    (hD: ∀(i j:Nat) (o o':Oper) (d:Nat),ops[i]? =some o→ops[j]? =some o'→o.dst=some d→o'.dst=some d→i=j)
    (hS: ∀(i:Nat) (o:Oper) (k:Nat),ops[i]? =some o→cnt ops.size (fun j=>wr j&&anc i j)≤k→k≤cnt ops.size (fun j=>wr j&& !anc j i&& !(j==i))→
      eX P n m R ops o ⟨only ops o (T i),Hk k,a.D⟩ (.val (v i) (Hk (k+(if wr i=true then 1 else 0)))))
    (hq:Q .normal ⟨T ops.size,Hk (cnt ops.size wr),a.D⟩):W P n m R (.region id ops true) Q a:=by
  intro B act w ⟨F,μ,s,y,t⟩;refine wpIn_region_any hm ?_;obtain⟨x1,s1⟩:=s.same (w':={w with drawn:=w.drawn+1}) rfl rfl rfl rfl;have hTx: ∀i,i≤ops.size→ ∀t,(∀(j:Nat) (o:Oper),j<i→ops[j]? =some o→o.dst=some t→get (T i) t=v j)∧((∀(j:Nat) (o:Oper),j<i→ops[j]? =some o→o.dst≠some t)→get (T i) t=get a.T t):=by
    intro i;induction i with
    |zero=>intro _ t;exact⟨fun j _ hj=>by omega,fun _=>by rw[h0]⟩
    | succ i ih=>
      intro hi t;have ho:ops[i]? =some ops[i]:=Array.getElem?_eq_getElem (by omega);obtain⟨g1,g2⟩:=ih (by omega) t;have hTi:=hT i _ ho;have hget:get (T (i+1)) t=if(ops[i]).dst=some t then v i else get (T i) t:=by
        rw[hTi];cases hd:(ops[i]).dst with
        |none=>simp
        | some d=>
          simp only[get];by_cases e:d=t
          · subst e;simp
          · rw[if_neg e,if_neg (by simpa using e)]
      rw[hget];refine⟨fun j o hj hoj hdj=> ?_,fun hno=> ?_⟩
      · by_cases e:j=i
        · subst e;rw[ho]at hoj;cases hoj;rw[if_pos hdj]
        · have hne:(ops[i]).dst≠some t:=fun h=>e (hD j i _ _ t hoj ho hdj h)
          rw[if_neg hne];exact g1 j o (by omega) hoj hdj
      · rw[if_neg (hno i _ (by omega) ho)];exact g2 fun j o hj=>hno j o (by omega)
  let Inv:Array Bool→Act→World→Prop:=fun listed act w=>listed.size=ops.size∧
    (∀(i:Nat) (o:Oper) (e:Edge),ops[i]? =some o→listed[i]? =some true→e∈o.after→Region.binds .any e=true→listed[e.on]? =some true)∧
    ∃ F μ,Sim B.w0 B.F0 F μ (Hk (cnt ops.size fun j=>wr j&&listed.getD j false)) w∧Ext B.Fs B.ws B.μs F w μ∧VD F w μ a.D act.defers∧act.tmps.size=n∧
      ∀ t,(∀(j:Nat) (o:Oper),ops[j]? =some o→o.dst=some t→listed[j]? =some true→VR F w μ (v j) (act.tmps.getD t undef))∧
        ((∀(j:Nat) (o:Oper),ops[j]? =some o→o.dst=some t→listed[j]? ≠some true)→VR F w μ (get a.T t) (act.tmps.getD t undef))
  have main : ∀ fuel listed act w,Inv listed act w→cnt ops.size (fun j=> !listed.getD j false)≤fuel→wpAnyIn (fnc R) 1 P .any ops (dX n B Q) fuel listed act w:=by
    have hdone: ∀listed act w,Inv listed act w→Region.ready .any ops listed=[]→dX n B Q .normal act w:=by
      intro listed act w ⟨hsz,hcl,F,μ,s,y,vd,hn,hsl⟩ hr;have hall : ∀i,i<ops.size→listed[i]? =some true:=by
        intro i;induction i using Nat.strongRecOn with
        | _ i ih =>
          intro hi;cases hli:listed[i]? with
          |none=>rw[Array.getElem?_eq_none_iff]at hli;omega
          | some b=>
            cases b with
            |true=>rfl
            | false=>
              have ho:ops[i]? =some ops[i]:=Array.getElem?_eq_getElem hi;have:i∈Region.ready .any ops listed:=by
                unfold Region.ready;rw[List.mem_filter];refine⟨by simp[hi],?_⟩;rw[ho];simp only[Array.getD_eq_getD_getElem?,hli,Option.getD_some,Bool.not_false,Bool.true_and,Option.map_some];rw[Array.all_eq_true'];intro e he;by_cases hb:Region.binds .any e=true
                · have:=ih e.on (hE i _ e ho he hb) (by have:=hE i _ e ho he hb;omega)
                  simp[this]
                · simp at hb;simp[hb]
              rw[hr]at this;cases this
      have hc:cnt ops.size (fun j=>wr j&&listed.getD j false)=cnt ops.size wr:=pR fun i hi=>by simp[Array.getD_eq_getD_getElem?,hall i hi]
      rw[hc]at s;refine⟨_,_,F,μ,hq,.normal,s,y,vd,hn,fun t=> ?_⟩;obtain⟨g1,g2⟩:=hTx ops.size (Nat.le_refl _) t;by_cases hex: ∃(j:Nat) (o:Oper),ops[j]? =some o∧o.dst=some t
      · obtain⟨j,o,ho,hd⟩:=hex
        have hj:j<ops.size:=(Array.getElem?_eq_some_iff.1 ho).1;rw[g1 j o hj ho hd];exact(hsl t).1 j o ho hd (hall j hj)
      · rw[g2 fun j o _ ho hd=>hex ⟨j,o,ho,hd⟩]
        exact(hsl t).2 fun j o ho hd=>(hex ⟨j,o,ho,hd⟩).elim
    intro fuel;induction fuel with
    | zero=>
      intro listed act w hI hfu;have hr:Region.ready .any ops listed=[]:=by
        rw[List.eq_nil_iff_forall_not_mem];intro i hi;unfold Region.ready at hi;rw[List.mem_filter]at hi;obtain⟨h1,h2⟩:=hi;simp only[List.mem_range]at h1;simp only[Bool.and_eq_true,Bool.not_eq_true']at h2;have hlt:i<listed.size:=by rw[hI.1];exact h1
        have h2':listed.getD i false=false:=by have:=h2.1;simp[Array.getD_eq_getD_getElem?,hlt]at this ⊢;exact this
        have:cnt ops.size (fun j=>decide (j=i))≤cnt ops.size (fun j=> !listed.getD j false):=eA fun j _ hj=>by simp at hj;subst hj;simp[h2']
        have h3:cnt ops.size (fun j=>decide (j=i))=cnt ops.size (fun _=>false)+(if decide (i=i)=true then 1 else 0):=fB h1 rfl fun j hj=>by simp[hj]
        simp at h3;omega
      exact⟨hr,hdone _ _ _ hI hr⟩
    | succ fuel ih =>
      intro listed act w hI hfu;refine⟨hdone _ _ _ hI,fun i hi=> ?_⟩;obtain⟨hsz,hcl,F,μ,s,y,vd,hn,hsl⟩:=hI;unfold Region.ready at hi;rw[List.mem_filter]at hi;obtain⟨h1,h2⟩:=hi;simp only[List.mem_range]at h1;simp only[Bool.and_eq_true,Bool.not_eq_true']at h2;have ho:ops[i]? =some ops[i]:=Array.getElem?_eq_getElem h1;have hlt:i<listed.size:=by rw[hsz];exact h1
      have hli:listed[i]? =some false:=by have:=h2.1;simp[Array.getD_eq_getD_getElem?,hlt]at this;simp[hlt,this]
      have hafter: ∀e∈(ops[i]).after,Region.binds .any e=true→listed[e.on]? =some true:=by
        have:=h2.2;rw[ho]at this;simp only[Option.map_some,Option.getD_some]at this;rw[Array.all_eq_true']at this;intro e he hb;have:=this e he;rw[hb]at this;simp[Array.getD_eq_getD_getElem?]at this;cases hx:listed[e.on]? with
        |none=>rw[hx]at this;simp at this
        |some b=>rw[hx]at this;simp at this;rw[this]
      have hancl: ∀(i:Nat) (o:Oper),ops[i]? =some o→(∀e∈o.after,Region.binds .any e=true→listed[e.on]? =some true)→ ∀j,anc i j=true→listed[j]? =some true:=by
        intro i;induction i using Nat.strongRecOn with
        | _ i ihh=>
          intro o hoi hh j hj;obtain⟨e,he,hb,hje⟩:=hA i j o hoi hj;rcases hje with rfl|hje
          · exact hh e he hb
          · have hon:=hE i o e hoi he hb
            have hois:i<ops.size:=(Array.getElem?_eq_some_iff.1 hoi).1;have hoe:ops[e.on]? =some ops[e.on]:=Array.getElem?_eq_getElem (by omega);exact ihh e.on hon _ hoe (fun e' he' hb'=>hcl _ _ e' hoe (hh e he hb) he' hb') j hje
      have hanci:=hancl i _ ho hafter;have hlo:cnt ops.size (fun j=>wr j&&anc i j)≤cnt ops.size (fun j=>wr j&&listed.getD j false):=eA fun j _ hj=>by
        simp only[Bool.and_eq_true]at hj ⊢;exact⟨hj.1,by simp[Array.getD_eq_getD_getElem?,hanci j hj.2]⟩
      have hhi:cnt ops.size (fun j=>wr j&&listed.getD j false)≤cnt ops.size (fun j=>wr j&& !anc j i&& !(j==i)):=eA fun j hjs hj=>by
        simp only[Bool.and_eq_true,Bool.not_eq_true']at hj ⊢;have hlj:listed[j]? =some true:=by
          have:=hj.2;simp[Array.getD_eq_getD_getElem?]at this;cases hx:listed[j]? with
          |none=>rw[hx]at this;simp at this
          |some b=>rw[hx]at this;simp at this;rw[this]
        refine⟨⟨hj.1,?_⟩,?_⟩
        · cases hx:anc j i with
          |false=>rfl
          | true=>
            have hoj:ops[j]? =some ops[j]:=Array.getElem?_eq_getElem hjs;have:=hancl j _ hoj (fun e he hb=>hcl j _ e hoj hlj he hb) i hx;rw[hli]at this;cases this
        · cases hx:(j==i)with
          |false=>rfl
          | true => have:j=i:=by simpa using hx
                    subst this;rw[hli]at hlj;cases hlj
      have hcl': ∀(i':Nat) (o:Oper) (e:Edge),ops[i']? =some o→(listed.setIfInBounds i true)[i']? =some true→e∈o.after→Region.binds .any e=true→(listed.setIfInBounds i true)[e.on]? =some true:=by
        intro i' o e hoi' hl' he hb;have hset: ∀(j:Nat),listed[j]? =some true→(listed.setIfInBounds i true)[j]? =some true:=by
          intro j hj;rw[Array.getElem?_setIfInBounds];split
          · first|rfl|simp[hlt]
          · exact hj
        by_cases e':i'=i
        · subst e';rw[ho]at hoi';cases hoi';exact hset _ (hafter e he hb)
        · rw[Array.getElem?_setIfInBounds,if_neg (by omega)]at hl'
          exact hset _ (hcl i' o e hoi' hl' he hb)
      have hcnt:cnt ops.size (fun j=>wr j&&(listed.setIfInBounds i true).getD j false)=cnt ops.size (fun j=>wr j&&listed.getD j false)+(if wr i=true then 1 else 0):=by
        have:=fB (k:=ops.size) (i:=i) (p:=fun j=>wr j&&listed.getD j false) (q:=fun j=>wr j&&(listed.setIfInBounds i true).getD j false) h1 (by simp[Array.getD_eq_getD_getElem?,hli]) (fun j hj=>by
          simp only[Array.getD_eq_getD_getElem?,Array.getElem?_setIfInBounds];rw[if_neg (by omega)])
        rw[this];simp[Array.getD_eq_getD_getElem?,Array.getElem?_setIfInBounds,hlt]
      have hfu':cnt ops.size (fun j=> !(listed.setIfInBounds i true).getD j false)≤fuel:=by
        have:=fB (k:=ops.size) (i:=i) (p:=fun j=> !(listed.setIfInBounds i true).getD j false) (q:=fun j=> !listed.getD j false) h1 (by simp[Array.getD_eq_getD_getElem?,Array.getElem?_setIfInBounds,hlt]) (fun j hj=>by
          simp only[Array.getD_eq_getD_getElem?,Array.getElem?_setIfInBounds];rw[if_neg (by omega)])
        have h1:(!listed.getD i false)=true:=by simp only[Array.getD_eq_getD_getElem?,hli];rfl
        simp only[h1,if_true]at this;omega
      have hrest:cd n F μ ⟨only ops ops[i] (T i),Hk (cnt ops.size fun j=>wr j&&listed.getD j false),a.D⟩ act w:=by
        refine⟨vd,hn,fun t=> ?_⟩;show VR F w μ (get (only ops ops[i] (T i)) t) _;unfold only;rw[iI];split
        · rename_i ht
          obtain⟨g1,g2⟩:=hTx i (by omega) t;by_cases hex: ∃(j:Nat) (o:Oper),ops[j]? =some o∧o.dst=some t
          · obtain ⟨j,o,hoj,hd⟩:=hex
            have haj:=hL i _ t j o ho ht hoj hd;have hji:j<i:=by
              have key: ∀(i':Nat) (o':Oper),ops[i']? =some o'→ ∀j,anc i' j=true→j<i':=by
                intro i';induction i' using Nat.strongRecOn with
                | _ i' ihh=>
                  intro o' hoi' j hj;obtain⟨e,he,hb,hje⟩:=hA i' j o' hoi' hj;have hon:=hE i' o' e hoi' he hb;rcases hje with rfl|hje
                  · exact hon
                  · have hois:i'<ops.size:=(Array.getElem?_eq_some_iff.1 hoi').1
                    have:=ihh e.on hon _ (Array.getElem?_eq_getElem (by omega)) j hje;omega
              exact key i _ ho j haj
            rw[g1 j o hji hoj hd];exact(hsl t).1 j o hoj hd (hanci j haj)
          · rw[g2 fun j o _ hoj hd=>hex ⟨j,o,hoj,hd⟩]
            exact(hsl t).2 fun j o hoj hd=>(hex ⟨j,o,hoj,hd⟩).elim
        · exact .junk _
      refine hS i _ _ ho hlo hhi i B (dX n B Q) _ F μ act w ho s hrest ?_ (fun _ _ _ h=>by cases h);rintro v' H' he V w' F' μ' x s' hV;cases he;refine ih _ _ _ ⟨by simpa using hsz,hcl',F',μ',by rw[hcnt];exact s',y.trans x,?_,?_,fun t=> ?_⟩ hfu'
      · cases(ops[i]).dst<;>exact vd.mono x
      · cases(ops[i]).dst<;>simp[Act.put,hn]
      · have hslot: ∀t,(act.put (ops[i]).dst V).tmps.getD t undef=if(ops[i]).dst=some t then V else act.tmps.getD t undef:=by
          intro t;cases hd:(ops[i]).dst with
          |none=>simp[Act.put]
          | some d=>
            have hdn:d<act.tmps.size:=by rw[hn];exact dh hf i _ d ho hd
            simp only[Act.put,Array.getD_eq_getD_getElem?,Array.getElem?_setIfInBounds];by_cases e:d=t
            · subst e;simp[hdn]
            · simp[e]
        rw[hslot];refine⟨fun j o hoj hd hl=> ?_,fun hno=> ?_⟩
        · by_cases e:j=i
          · subst e;rw[ho]at hoj;cases hoj;rw[if_pos hd];exact hV
          · rw[if_neg fun h=>e (hD j i _ _ t hoj ho hd h)]
            rw[Array.getElem?_setIfInBounds,if_neg (by omega)]at hl;exact VR.mono x ((hsl t).1 j o hoj hd hl)
        · have hne:(ops[i]).dst≠some t:=fun h=>hno i _ ho h (by rw[Array.getElem?_setIfInBounds,if_pos rfl,if_pos hlt])
          rw[if_neg hne];refine VR.mono x ((hsl t).2 fun j o hoj hd hl=>hno j o hoj hd ?_);rw[Array.getElem?_setIfInBounds];split
          · first|rfl|simp[hlt]
          · exact hl
  refine main _ _ _ _ ⟨by simp,?_,F,μ,?_,y.trans x1,t.defers.mono x1,t.size,fun tt=>⟨?_,?_⟩⟩ ?_
  · intro i o e _ hl
    rw[Array.getElem?_replicate]at hl;split at hl<;>cases hl
  · have:cnt ops.size (fun j=>wr j&&(Array.replicate ops.size false).getD j false)=cnt 0 (fun _=>false):=by
      have: ∀k,cnt k (fun j=>wr j&&(Array.replicate ops.size false).getD j false)=0:=by
        intro k;induction k with
        |zero=>rfl
        | succ k ih=>
          simp only[cnt,ih];by_cases hk:k<ops.size<;>simp[Array.getD_eq_getD_getElem?,Array.getElem?_replicate,hk]
      rw[this];rfl
    rw[this];simp only[cnt];rw[hH];exact s1
  · intro j o _ _ hl
    rw[Array.getElem?_replicate]at hl;split at hl<;>cases hl
  · intro _;exact VR.mono x1 (t.slots tt)
  · refine Nat.le_trans (eA (q:=fun _=>true) fun _ _ _=>rfl) ?_
    have: ∀k,cnt k (fun _=>true)=k:=by
      intro k;induction k with
      |zero=>rfl
      |succ k ih=>simp[cnt,ih]
    rw[this];exact Nat.le_refl _
end
/-! ### Equal values -/
mutual
def eqA:AV→AV→Bool
 | .junk,.junk=>true
 | .bool a,.bool b=>a==b
 | .int k n,.int l m=>decide (k=l)&&decide (n=m)
 | .str a,.str b=>a==b
 | .nilptr,.nilptr=>true
 | .ptr a b,.ptr c d=>a==c&&b==d
 | .vptr a,.vptr b=>mQ a b
 | .sl a b c d,.sl e f g h=>a==e&&b==f&&c==g&&d==h
 | .vsl a b c,.vsl d e f=>a==d&&b==e&&mQ c f
 | .nilmap,.nilmap=>true
 | .nilsl,.nilsl=>true
 | .map a,.map b=>a==b
 | .vmap a b,.vmap c d=>mQ a c&&mQ b d
 | .nilfunc,.nilfunc=>true
 | .iface t v,.iface u x=>decide (t=u)&&eqA v x
 | .nilif,.nilif=>true
 | .agg a,.agg b=>mQ a b
 | .tup a,.tup b=>mQ a b
 | .yld a,.yld b=>a==b
 |_,_=>false
def mQ:List AV→List AV→Bool
 | [],[]=>true
 |a::l,b::m=>eqA a b&&mQ l m
 |_,_=>false
end
mutual
theorem qT:∀{a b:AV},eqA a b=true→a=b
 | .junk,b,h=>by cases b<;>simp_all[eqA]
 | .bool _,b,h=>by cases b<;>simp_all[eqA]
 | .int _ _,b,h=>by cases b<;>simp_all[eqA]
 | .str _,b,h=>by cases b<;>simp_all[eqA]
 | .nilptr,b,h=>by cases b<;>simp_all[eqA]
 | .ptr _ _,b,h=>by cases b<;>simp_all[eqA]
 | .vptr l,b,h=>by cases b<;>simp[eqA]at h ⊢;exact gh h
 | .sl _ _ _ _,b,h=>by cases b<;>simp_all[eqA]
 | .vsl _ _ l,b,h=>by cases b<;>simp[eqA]at h ⊢;exact⟨h.1.1,h.1.2,gh h.2⟩
 | .nilmap,b,h=>by cases b<;>simp_all[eqA]
 | .nilsl,b,h=>by cases b<;>simp_all[eqA]
 | .map _,b,h=>by cases b<;>simp_all[eqA]
 | .vmap l m,b,h=>by cases b<;>simp[eqA]at h ⊢;exact⟨gh h.1,gh h.2⟩
 | .func _ _ _,b,h=>by cases b<;>simp_all[eqA]
 | .nilfunc,b,h=>by cases b<;>simp_all[eqA]
 | .iface _ v,b,h=>by cases b<;>simp[eqA]at h ⊢;exact⟨h.1,qT h.2⟩
 | .nilif,b,h=>by cases b<;>simp_all[eqA]
 | .agg l,b,h=>by cases b<;>simp[eqA]at h ⊢;exact gh h
 | .tup l,b,h=>by cases b<;>simp[eqA]at h ⊢;exact gh h
 | .yld _,b,h=>by cases b<;>simp_all[eqA]
theorem gh:∀{a b:List AV},mQ a b=true→a=b
 | [],b,h=>by cases b<;>simp_all[mQ]
 |x::l,b,h=>by
  cases b with
  |nil=>simp[mQ]at h
  |cons y m=>simp only[mQ,Bool.and_eq_true]at h;rw[qT h.1,gh h.2]
end
/-! ### Who leaves memory as it was -/
def jI(o:Op):Bool:=
 match o with
 | .move _| .assign _| .pick _ _ _| .build _ _| .buildSlice _ _ _| .load _ _| .nilCheck _| .binOp _ _ _ _ _| .unOp _ _ _| .makeInterface _ _| .makeFunc _ _ _| .slice _ _ _ _ _
 | .fieldAddr _ _ _| .field _ _ _| .indexAddr _ _ _| .index _ _ _| .lookup _ _ _ _| .typeAssert _ _ _ _| .extract _ _=>true
 | .call c=>match c.callee with
  | .builtin .len| .builtin .cap| .builtin .max| .builtin .min=>true
  |_=>false
 |_=>false
theorem pS {P:Program} {o:Op} {a:St} {v:AV} {H':List OB} (hr:jI o=true) (h:evalOp P o a=some (v,H')):H'=a.H:=by
  cases o<;>simp only[jI]at hr<;>first|(cases hr;done)|skip
  case call c=>
    obtain⟨cl,args,ts⟩:=c;cases cl with
    |value f=>cases hr
    |invoke r m=>cases hr
    | builtin b=>
      simp only[evalOp]at h;split at h<;>first|(cases h;done)|(simp at hr;done)|skip
      all_goals
        rw[Option.map_eq_some_iff]at h;obtain⟨_,_,h⟩:=h;cases h;rfl
  all_goals
    simp only[evalOp]at h
    first
      |(cases h;rfl)
      |(rw[Option.map_eq_some_iff]at h;obtain⟨_,_,h⟩:=h;cases h;rfl)
      |(split at h<;>first|(cases h;done)|(cases h;rfl)|(rw[Option.map_eq_some_iff]at h;obtain⟨_,_,h⟩:=h;cases h;rfl)|
          (split at h<;>first|(cases h;done)|(cases h;rfl)|(rw[Option.map_eq_some_iff]at h;obtain⟨_,_,h⟩:=h;cases h;rfl)))
def nK(pm:FuncId→Bool)(a:St)(o:Oper):Bool:=
 jI o.op||match ae a o.op with
  |some (.fn f,_)=>pm f
  |_=>false
theorem sN{a:St}{o:Op}(h:jI o=true):ae a o=none:=by
 cases o<;>simp only[jI]at h<;>first|rfl|(cases h;done)|skip
 rename_i c;obtain⟨cl,args,ts⟩:=c;cases cl with
 |value f=>cases h
 |invoke r m=>cases h
 |builtin b=>rfl
def kA(pm:FuncId→Bool)(call:Cl→List AV→List OB→Option (Out×List OB)):Prop:=
 ∀f args H out H',pm f=true→call (.fn f) args H=some (out,H')→H'=H
theorem sO {P:Program} {call:Cl→List AV→List OB→Option (Out×List OB)} {pm:FuncId→Bool} (hpm:kA pm call) {ops:Array Oper} {a:St} {o:Oper} {v:AV} {H':List OB} (hr:nK pm a o=true)
    (h:dC P call ops a o=some (.val v H')):H'=a.H:=by
  unfold dC at h;split at h
  · cases h
  · cases h;rfl
  · split at h
    · rename_i f args hc
      have hcall: ∀out H',call f args a.H=some (out,H')→H'=a.H:=by
        intro out H1 h1;unfold nK at hr;simp only[Bool.or_eq_true]at hr;rcases hr with hr|hr
        · rw[sN hr]at hc;cases hc
        · rw[hc]at hr
          cases f with
          |fn f=>exact hpm f args _ _ _ hr h1
          |yld id=>cases hr
          |inv _ _=>cases hr
      split at h
      · cases h;exact hcall _ _ ‹_›
      · cases h
      · cases h
    · rename_i hno
      split at h
      · split at h<;>cases h
      · rw[Option.map_eq_some_iff]at h
        obtain⟨⟨v1,H1⟩,h1,h2⟩:=h;cases h2;have hrd:jI o.op=true:=by
          unfold nK at hr;rw[hno]at hr;simpa using hr
        exact pS hrd h1
/-! ### A region that draws, in the order of the text -/
def eg(tab:List Nat)(o:Oper):Nat:=o.after.toList.foldl (fun m e=>if Region.binds .any e=true then m|||(1<<<e.on)|||tab.getD e.on 0 else m) 0
def aW:List Oper→List Nat→List Nat
 | [],tab=>tab
 |o::l,tab=>aW l (tab++[eg tab o])
def er(o:Oper)(t:Nat):Bool:=match o.dst with|some d=>d==t|none=>false
def eN(ops:Array Oper)(tab:List Nat):Bool:=
 (List.range ops.size).all fun i=>match ops[i]? with
  |none=>false
  |some o=>o.after.toList.all (fun e=>!Region.binds .any e||decide (e.on<i))&&tab.getD i 0==eg tab o&&
   (o.looksAt ops).all (fun t=>(List.range ops.size).all fun j=>match ops[j]? with|some o'=>!er o' t||(tab.getD i 0).testBit j|none=>true)&&
   (match o.dst with|none=>true|some d=>(List.range ops.size).all fun j=>j==i||match ops[j]? with|some o'=>!er o' d|none=>true)
def trA(P:Program)(call:Cl→List AV→List OB→Option (Out×List OB))(ops:Array Oper):List Oper→St→Option (List (St×AV×List OB)×St)
 | [],a=>some ([],a)
 | o::rest,a=>match dC P call ops ⟨only ops o a.T,a.H,a.D⟩ o with
  |some (.val v H')=>match trA P call ops rest ({a with H:=H'}.put o.dst v)with
   |some (l,af)=>some ((a,v,H')::l,af)
   |none=>none
  |_=>none
def jx(tr:List (St×AV×List OB))(af:St)(i:Nat):St:=match tr[i]? with|some e=>e.1|none=>af
def yg(tr:List (St×AV×List OB))(af:St)(wr:Nat→Bool)(N k:Nat):List OB:=match(List.range (N+1)).find? (fun i=>cnt i wr==k)with|some i=>(jx tr af i).H|none=>[]
def zR (P:Program) (call:Cl→List AV→List OB→Option (Out×List OB)) (pm:FuncId→Bool) (ops:Array Oper) (a:St):Option St:=
 let tab:=aW ops.toList []
 if eN ops tab=true then match trA P call ops ops.toList a with
  | some (tr,af)=>
   let wl:=tr.zipWith (fun e o=>!nK pm ⟨only ops o e.1.T,e.1.H,e.1.D⟩ o) ops.toList
   let wr:=fun i=>wl.getD i false
   let N:=ops.size
   if ((List.range N).all fun i=>match ops[i]?,tr[i]? with
    | some o,some e=>
     let lo:=cnt N (fun j=>wr j&&(tab.getD i 0).testBit j)
     let hi:=cnt N (fun j=>wr j&& !(tab.getD j 0).testBit i&& !(j==i))
     let c:=cnt i wr
     (List.range (hi+1)).all fun k=>decide (k<lo)||k==c||(!wr i&&match dC P call ops ⟨only ops o e.1.T,yg tr af wr N k,e.1.D⟩ o with
      |some (.val v _)=>eqA v e.2.1
      |_=>false)
    |_,_=>false)=true then some af else none
  |none=>none
 else none
section
variable{P:Program} {w0:World} {F0 F F':Nat→Nat→Prop} {μ μ':Nat→Option Loc} {H H':List OB} {w w':World} {n m:Nat} {R:Option Nat} {a:St} {act:Act} {Q:Ex→St→Prop}
 {call:Cl→List AV→List OB→Option (Out×List OB)} {ops:Array Oper} {pm:FuncId→Bool}
theorem gE (tab:List Nat): ∀(l:List Edge) (m j:Nat),(l.foldl (fun m e=>if Region.binds .any e=true then m|||(1<<<e.on)|||tab.getD e.on 0 else m) m).testBit j=true→
    m.testBit j=true∨ ∃e∈l,Region.binds .any e=true∧(j=e.on∨(tab.getD e.on 0).testBit j=true):=by
  intro l;induction l with
  |nil=>intro m j h;exact .inl h
  | cons e l ih=>
    intro m j h;simp only[List.foldl_cons]at h;rcases ih _ j h with h|⟨e',he,hb,hj⟩
    · split at h
      · rename_i hb
        simp only[Nat.testBit_or,Bool.or_eq_true]at h;rcases h with(h|h)|h
        · exact .inl h
        · refine .inr ⟨e,by simp,hb,.inl ?_⟩
          rw[Nat.shiftLeft_eq,Nat.one_mul,Nat.testBit_two_pow]at h;simpa using(of_decide_eq_true h).symm
        · exact .inr ⟨e,by simp,hb,.inr h⟩
      · exact .inl h
    · exact .inr ⟨e',by simp[he],hb,hj⟩
theorem zS: ∀{l:List Oper} {a af:St} {tr:List (St×AV×List OB)},trA P call ops l a=some (tr,af)→tr.length=l.length∧jx tr af 0=a∧jx tr af l.length=af∧
    ∀(i:Nat) (o:Oper),l[i]? =some o→ ∃e,tr[i]? =some e∧dC P call ops ⟨only ops o e.1.T,e.1.H,e.1.D⟩ o=some (.val e.2.1 e.2.2)∧e.1.D=a.D∧jx tr af (i+1)={e.1 with H:=e.2.2}.put o.dst e.2.1:=by
  intro l;induction l with
  |nil=>intro a af tr h;simp only[trA,Option.some.injEq,Prod.mk.injEq]at h;obtain⟨rfl,rfl⟩:=h;exact⟨rfl,rfl,rfl,by simp⟩
  | cons o l ih=>
    intro a af tr h;simp only[trA]at h;split at h
    · rename_i v H' hs
      split at h
      · rename_i tr' af' htr
        simp only[Option.some.injEq,Prod.mk.injEq]at h;obtain⟨rfl,rfl⟩:=h;obtain⟨h1,h2,h3,h4⟩:=ih htr;refine⟨by simp[h1],rfl,?_,?_⟩
        · rw[List.length_cons];exact h3
        · intro i o' hi
          cases i with
          | zero=>
            simp at hi;subst hi;exact⟨_,rfl,hs,rfl,h2⟩
          | succ i=>
            obtain⟨e,g1,g2,g3,g4⟩:=h4 i o' (by simpa using hi);refine⟨e,by simpa using g1,g2,?_,g4⟩;rw[g3];cases o.dst<;>rfl
      · cases h
    · cases h
theorem kB {p:Nat→Bool} {i j:Nat} (h:i≤j):cnt i p≤cnt j p:=by
  induction j with
  | zero => have:i=0:=by omega
            subst this;exact Nat.le_refl _
  | succ j ih=>
    by_cases e:i=j+1
    · subst e;exact Nat.le_refl _
    · have:=ih (by omega);simp only[cnt];omega
theorem zT{p:Nat→Bool}{i j k:Nat}(hij:i≤k)(hk:k<j)(h:cnt i p=cnt j p):p k=false:=by
 have h1:=kB (p:=p) hij;have h2:=kB (p:=p) (show k+1≤j from hk);simp only[cnt]at h2;cases hp:p k with
 |false=>rfl
 |true=>rw[hp]at h2;simp at h2;omega
theorem aP{k:Nat}{p:Nat→Bool}(h:(List.range k).all p=true)(i:Nat)(hi:i<k):p i=true:=List.all_eq_true.1 h i (List.mem_range.2 hi)
theorem zU {id:Nat} {af:St} (hm:P.follows .mixedOrders=true) (hcall:eM P call) (hpm:kA pm call) (hf:fits n ops=true) (h:zR P call pm ops a=some af) (hq:Q .normal af):
    W P n m R (.region id ops true) Q a:=by
  unfold zR at h;simp only at h;split at h
  case isFalse=>cases h
  rename_i hst;split at h
  case h_2=>cases h
  rename_i tr af' htr;split at h
  case isFalse=>cases h
  rename_i hdy;cases h;obtain⟨hlen,hS0,hSN,hspec⟩:=zS htr;rw[Array.length_toList]at hlen hSN
  let tab:=aW ops.toList []
  let wl:=tr.zipWith (fun e o=> !nK pm ⟨only ops o e.1.T,e.1.H,e.1.D⟩ o) ops.toList
  let wr:Nat→Bool:=fun i=>wl.getD i false
  have hspec': ∀(i:Nat) (o:Oper),ops[i]? =some o→ ∃e,tr[i]? =some e∧dC P call ops ⟨only ops o e.1.T,e.1.H,e.1.D⟩ o=some (.val e.2.1 e.2.2)∧e.1.D=a.D∧jx tr af (i+1)={e.1 with H:=e.2.2}.put o.dst e.2.1:=
    fun i o ho=>hspec i o (by rw[Array.getElem?_toList];exact ho)
  have hwr: ∀(i:Nat) (o:Oper) e,ops[i]? =some o→tr[i]? =some e→wr i= !nK pm ⟨only ops o e.1.T,e.1.H,e.1.D⟩ o:=by
    intro i o e ho he;show(List.zipWith _ tr ops.toList).getD i false=_;rw[List.getD_eq_getElem?_getD,List.getElem?_zipWith,he,Array.getElem?_toList,ho];rfl
  have hstI: ∀(i:Nat) (o:Oper),ops[i]? =some o→(o.after.toList.all (fun e=> !Region.binds .any e||decide (e.on<i))&&tab.getD i 0==eg tab o&&
      (o.looksAt ops).all (fun t=>(List.range ops.size).all fun j=>match ops[j]? with|some o'=> !er o' t||(tab.getD i 0).testBit j|none=>true)&&
      (match o.dst with|none=>true|some d=>(List.range ops.size).all fun j=>j==i||match ops[j]? with|some o'=> !er o' d|none=>true))=true:=by
    intro i o ho;have:=aP hst i (Array.getElem?_eq_some_iff.1 ho).1;rw[ho]at this;exact this
  have hstA: ∀i,i<ops.size→jx tr af i=(match tr[i]? with|some e=>e.1|none=>af):=fun i _=>rfl;have hHk : ∀ i,i≤ops.size→(jx tr af i).H=yg tr af wr ops.size (cnt i wr):=by
    have hflat: ∀i j,i≤j→j≤ops.size→cnt i wr=cnt j wr→(jx tr af i).H=(jx tr af j).H:=by
      intro i j hij;induction j with
      | zero => intro _ _;have:i=0:=by omega
                subst this;rfl
      | succ j ih=>
        intro hj hc;by_cases e:i=j+1
        · subst e;rfl
        · have hc':cnt i wr=cnt j wr:=by
            have h1:=kB (p:=wr) (show i≤j by omega);have h2:=kB (p:=wr) (show j≤j+1 by omega);omega
          rw[ih (by omega) (by omega) hc'];have ho:ops[j]? =some ops[j]:=Array.getElem?_eq_getElem (by omega);obtain⟨e',g1,g2,g3,g4⟩:=hspec' j _ ho;have hw:=zT (p:=wr) (show i≤j by omega) (show j<j+1 by omega) hc;rw[hwr j _ e' ho g1]at hw;have hrd:=sO hpm (by simpa using hw) g2;rw[g4];have:jx tr af j=e'.1:=by simp only[jx,g1]
          rw[this];cases(ops[j]).dst<;>exact hrd.symm
    intro i hi;unfold yg;cases hfd:(List.range (ops.size+1)).find? (fun i'=>cnt i' wr==cnt i wr)with
    | none=>
      rw[List.find?_eq_none]at hfd;have:=hfd i (by simp;omega);simp at this
    | some i0=>
      have h1:=List.find?_some hfd;have h2:=List.mem_of_find?_eq_some hfd;simp only[List.mem_range]at h2;simp only[beq_iff_eq]at h1;simp only;by_cases hle:i0≤i
      · exact(hflat i0 i hle hi h1).symm
      · exact hflat i i0 (by omega) (by omega) h1.symm
  have hgoal:=W.sM (P:=P) (m:=m) (R:=R) (Q:=Q) (a:=a) (ops:=ops) (id:=id) (af:=af) (fun i=>match tr[i]? with|some e=>e.2.1|none=>.junk) (fun i=>(jx tr af i).T) (yg tr af wr ops.size) wr
    (fun i j=>(tab.getD i 0).testBit j) hm hf ?_ ?_ ?_ ?_ ?_ ?_ ?_ ?_ ?_
  · exact hgoal
  · rw[hS0]
  · intro i o ho
    obtain⟨e,g1,g2,g3,g4⟩:=hspec' i o ho;rw[g4];have:jx tr af i=e.1:=by simp only[jx,g1]
    rw[this];simp only[g1];cases o.dst<;>rfl
  · have:=hHk 0 (Nat.zero_le _)
    rw[hS0]at this;exact this.symm
  · intro i o e ho he hb
    have:=hstI i o ho;simp only[Bool.and_eq_true]at this;have h1:=List.all_eq_true.1 this.1.1.1 e (Array.mem_toList_iff.2 he);simpa[hb]using h1
  · intro i j o ho hj
    have:=hstI i o ho;simp only[Bool.and_eq_true,beq_iff_eq]at this;have h1:=this.1.1.2;simp only[h1]at hj;unfold eg at hj;rcases gE tab _ _ _ hj with h2|⟨e,he,hb,hje⟩
    · simp at h2
    · exact⟨e,Array.mem_toList_iff.1 he,hb,hje⟩
  · intro i o t j o' ho ht ho' hd
    have:=hstI i o ho;simp only[Bool.and_eq_true]at this;have h1:=aP (List.all_eq_true.1 this.1.2 t ht) j (Array.getElem?_eq_some_iff.1 ho').1;rw[ho']at h1;simpa[er,hd]using h1
  · intro i j o o' d ho ho' hd hd'
    have:=hstI i o ho;simp only[Bool.and_eq_true,hd]at this;have h1:=aP this.2 j (Array.getElem?_eq_some_iff.1 ho').1;rw[ho']at h1;have:j=i:=by simpa[er,hd']using h1
    exact this.symm
  · intro i o k ho hlo hhi
    have his:=(Array.getElem?_eq_some_iff.1 ho).1;obtain⟨e,g1,g2,g3,g4⟩:=hspec' i o ho;have hsti:jx tr af i=e.1:=by simp only[jx,g1]
    have hc:wr i= !nK pm ⟨only ops o e.1.T,e.1.H,e.1.D⟩ o:=hwr i o e ho g1;have hd:=aP hdy i his;simp only[ho,g1]at hd
    have hd':=aP hd k (by
      have:cnt ops.size (fun j=>wr j&& !(tab.getD j 0).testBit i&& !(j==i))=cnt ops.size (fun j=>(List.zipWith (fun e o=> !nK pm ⟨only ops o e.1.T,e.1.H,e.1.D⟩ o) tr ops.toList).getD j false&& !((aW ops.toList []).getD j 0).testBit i&& !(j==i)):=rfl
      omega)
    simp only[Bool.or_eq_true,decide_eq_true_eq,beq_iff_eq]at hd';simp only[g1,hsti];rcases hd' with(hlt|hk)|hre
    · exfalso
      have:cnt ops.size (fun j=>wr j&&(tab.getD i 0).testBit j)=cnt ops.size (fun j=>(List.zipWith (fun e o=> !nK pm ⟨only ops o e.1.T,e.1.H,e.1.D⟩ o) tr ops.toList).getD j false&&((aW ops.toList []).getD i 0).testBit j):=rfl;omega
    · have hk':k=cnt i wr:=hk
      subst hk';have h1:=hHk i (by omega);have h2:=hHk (i+1) (by omega);rw[hsti]at h1;rw[g4]at h2;simp only[cnt]at h2;have h3:yg tr af wr ops.size (cnt i wr+if wr i=true then 1 else 0)=e.2.2:=by
        rw[←h2];cases o.dst<;>rfl
      rw[h3,←h1,←g3];exact eb hcall hf g2
    · simp only[Bool.and_eq_true,Bool.not_eq_true']at hre
      obtain⟨hw0,hre⟩:=hre;have hw0':wr i=false:=hw0;split at hre
      · rename_i v H1 hs1
        have hv:=qT hre;subst hv;have hrd:nK pm ⟨only ops o e.1.T,yg tr af wr ops.size k,e.1.D⟩ o=true:=by
          rw[hw0']at hc;have:nK pm ⟨only ops o e.1.T,e.1.H,e.1.D⟩ o=true:=by simpa using hc.symm
          exact this
        have hH1:=sO hpm hrd hs1;subst hH1;rw[hw0'];simp only[Bool.false_eq_true,if_false,Nat.add_zero];rw[←g3];exact eb hcall hf hs1
      · cases hre
  · have h1:=hHk ops.size (Nat.le_refl _)
    rw[hSN]at h1;have hDf:af.D=a.D:=by
      by_cases h0:ops.size=0
      · rw[h0]at hSN;rw[hS0]at hSN;rw[←hSN]
      · have ho:ops[ops.size - 1]? =some ops[ops.size - 1]:=Array.getElem?_eq_getElem (by omega)
        obtain⟨e,g1,g2,g3,g4⟩:=hspec' _ _ ho;rw[show ops.size - 1+1=ops.size from by omega,hSN]at g4;rw[g4,←g3];cases(ops[ops.size - 1]).dst<;>rfl
    simp only[hSN];rw[←h1,←hDf];exact hq
end
def eB(t:Nat):List (Nat×AV)→Bool
 | []=>false
 |(s,_)::r=>s==t||eB t r
def pT:List (Nat×AV)→List (Nat×AV)→List (Nat×AV)
 | [],acc=>acc.reverse
 |(t,v)::r,acc=>if eB t acc=true then pT r acc else pT r ((t,v)::acc)
theorem get_append(l r:List (Nat×AV))(t:Nat):get (l++r) t=if eB t l=true then get l t else get r t:=by
 induction l with
 |nil=>simp[eB]
 | cons p l ih=>
  obtain⟨s,v⟩:=p;simp only[List.cons_append,get,eB];by_cases e:s=t
  ·subst e;simp
  ·rw[if_neg e,ih]
   have:(s==t)=false:=by simpa using e
   simp[this,e]
theorem pg(l r:List (Nat×AV))(t:Nat):eB t (l++r)=(eB t l||eB t r):=by
 induction l with
 |nil=>simp[eB]
 |cons p l ih=>obtain⟨s,v⟩:=p;simp[eB,ih,Bool.or_assoc]
theorem nL(l:List (Nat×AV))(t:Nat):eB t l.reverse=eB t l:=by
 induction l with
 |nil=>rfl
 |cons p l ih=>obtain⟨s,v⟩:=p;simp[pg,eB,ih,Bool.or_comm]
theorem yh:∀(l acc:List (Nat×AV)) (t:Nat),get (pT l acc) t=get (acc.reverse++l) t:=by
 intro l;induction l with
 |nil=>intro acc t;simp[pT]
 | cons p l ih=>
  intro acc t;obtain⟨s,v⟩:=p;simp only[pT];split
  ·rename_i h
   rw[ih,get_append,get_append];by_cases hk:eB t acc.reverse=true
   ·rw[if_pos hk,if_pos hk]
   ·rw[if_neg hk,if_neg hk]
    have:s≠t:=by rintro rfl;rw[nL]at hk;exact hk h
    simp[get,this]
  ·rw[ih,List.reverse_cons,List.append_assoc];rfl
def norm(a:St):St:={a with T:=pT a.T []}
def zV(P:Program)(call:Cl→List AV→List OB→Option (Out×List OB))(ops:Array Oper):List Oper→St→Option (Ex×St)
 | [],a=>some (.normal,a)
 |o::rest,a=>match dC P call ops a o with
  |some (.val v H')=>zV P call ops rest ({a with H:=H'}.put o.dst v)
  |some (.pan t v H')=>some (.panic t v,{a with H:=H'})
  |none=>none
def wv(body:St→Option (Ex×St)):Nat→St→Option (Ex×St)
 |0,_=>none
 |j+1,a=>match body (norm a)with
  |some (.normal,a')=>wv body j a'
  |r=>r
def fY (P:Program) (call:Cl→List AV→List OB→Option (Out×List OB)) (pm:FuncId→Bool) (n:Nat) (inr:Bool):Nat→Code→St→Option (Ex×St)
 |0,_,_=>none
 | k +1,c,a=>match c with
  | .skip=>some (.normal,a)
  | .label _=>some (.normal,a)
  | .exit id=>some (.exit id,a)
  | .goto l=>some (.goto l,a)
  | .ret=>some (.ret,a)
  | .region _ ops draw=>if fits n ops=true then(if draw=true then(zR P call pm ops a).map fun a'=>(.normal,a')else zV P call ops ops.toList a)else none
  | .seq x y=>match fY P call pm n inr k x a with
   |some (.normal,a')=>fY P call pm n inr k y a'
   |r=>r
  | .cond c x y=>match a.ev c with
   | .bool t=>fY P call pm n inr k (if t=true then x else y) a
   |_=>none
  | .block id c=>match fY P call pm n inr k c a with
   |some (.exit i,a')=>if i=id then some (.normal,a')else some (.exit i,a')
   |r=>r
  | .loop c=>wv (fun a=>fY P call pm n inr k c a) k a
  | .refuse _=>none
  | .scope c=>if inr=true then none else match fY P call pm n inr k c a with
   | some (.goto l,a')=>match findLabel c l with
    |some rest=>match fY P call pm n inr k rest a' with
     |some (.goto _,_)=>none
     |r=>r
    |none=>none
   |r=>r
  | .rangeFunc g ps assign body=>if inr=true then none else match a.ev g with
   | .func (.func gf) fs cs=>match call (.fn gf) (fs++[.yld (a.H.length+1)]++cs) (a.H++[.dfr,.loop a.T ⟨n,ps,assign,body,.ready,none⟩])with
    | some (.ret _,H')=>match H'[a.H.length+1]? with
     |some (.loop _ K')=>if K'.st=.busy then none else
      let a':St:=⟨a.T,H'.set (a.H.length+1) .dead,.mark a.H.length::a.D⟩
      match K'.pend with
      |none=>some (.normal,a')
      |some c=>fY P call pm n inr k c a'
     |_=>none
    |_=>none
   |_=>none
def Enters(P:Program):Prop:= ∀(f:FuncId) (fn:Func),P.funcs[f]? =some fn→(fn.name== "runtime.NumGoroutine")=false
def sP(r:Ex×St):Ex→St→Prop:=fun ex a=>ex=r.1∧a=r.2
section
variable{P:Program} {w0:World} {F0 F F':Nat→Nat→Prop} {μ μ':Nat→Option Loc} {H H':List OB} {w w':World} {n m:Nat} {R:Option Nat} {a:St} {act:Act} {Q:Ex→St→Prop}
 {call:Cl→List AV→List OB→Option (Out×List OB)} {ops:Array Oper} {pm:FuncId→Bool}
theorem W.same{c:Code}(b:St)(hD:b.D=a.D)(hH:b.H=a.H)(hT:∀t,get b.T t=get a.T t)(h:W P n m R c Q b):W P n m R c Q a:=by
 intro B act w ⟨F,μ,s,y,t⟩;exact h B act w ⟨F,μ,by rw[hH];exact s,y,⟨by rw[hD];exact t.defers,t.size,fun i=>by rw[hT];exact t.slots i⟩⟩
theorem C5 (hcall:eM P call) (hf:fits n ops=true) {B:Bs m}: ∀(rest:List Oper) (k:Nat) (a:St) (act:Act) (w:World) (r:Ex×St),
    (∀(i:Nat) (o:Oper),rest[i]? =some o→ops[k+i]? =some o)→zV P call ops rest a=some r→Q r.1 r.2→Rel n B a act w→wpOpsIn (fnc R) 1 P ops (dX n B Q) (List.range' k rest.length) act w:=by
  intro rest;induction rest with
  | nil=>
    intro k a act w r hk h hq ⟨F,μ,s,y,t⟩;simp only[zV,Option.some.injEq]at h;subst h;exact⟨_,a,F,μ,hq,.normal,s,y,t⟩
  | cons o rest ih=>
    intro k a act w r hk h hq ⟨F,μ,s,y,t⟩;have ho:ops[k]? =some o:=hk 0 o rfl;have hk': ∀(i:Nat) (o':Oper),rest[i]? =some o'→ops[k+1+i]? =some o':=fun i o' hi=>by
      rw[show k+1+i=k+(i+1)from by omega];exact hk (i+1) o' (by simpa using hi)
    have hd: ∀d,o.dst=some d→d<n:=fun d hd=>dh hf k o d ho hd;rw[List.length_cons,List.range'_succ,wpOpsIn_cons];simp only[zV]at h;cases hs:dC P call ops a o with
    |none=>rw[hs]at h;cases h
    | some rs=>
      rw[hs]at h;refine eb (R:=R) (m:=m) hcall hf hs k B _ _ F μ act w ho s t ?_ ?_
      · rintro v H' rfl V w' F' μ' x s' hV
        exact ih (k+1) _ _ _ r hk' h hq ⟨F',μ',by cases o.dst<;>exact s',y.trans x,t.put x hV hd⟩
      · rintro tt v H' rfl V w' F' μ' x s' hV
        simp only[Option.some.injEq]at h;subst h;exact⟨_,_,F',μ',hq,.panic tt v V hV,s',y.trans x,⟨t.defers.mono x,t.size,fun i=>VR.mono x (t.slots i)⟩⟩
theorem ab(hN:Enters P){f:FuncId}{fn:Func}{c:Code}(hf:P.funcs[f]? =some fn)(hb:fn.body=some c): ∀Vs w,(callFunc f Vs).run P w=.ok (.enter f Vs) w:=by
  intro Vs w;have:=hN f fn hf;have h': ¬fn.name= "runtime.NumGoroutine" :=by simpa using this
  simp[callFunc,program,Sem.run_bind,Sem.run,Result.andThen,hf,h',hb]
def LW(P:Program)(n m:Nat)(R:Option Nat)(c:Code)(Q:Ex→St→Prop)(a:St):Prop:=
 ∀(B:Bs m) act w,Rel n B a act w→∀(b:Frame) (k:List Item) (cs:List Frame),b.roundOf=(fnc R).round→(fnc R).fn b.fn→(fnc R).room (cs.length+1+1)→
  ∃e a' w',dX n B Q e a' w'∧ArrivesIn (Machine.fenced P (fnc R)) P (lone (b.atR act (.code c::.inLoop c::k)) cs w) b k cs e a' w'
theorem W.qU{c:Code}(h:LW P n m R c Q a):W P n m R (.loop c) Q a:=by
 intro B act w r b k cs hro hb hr;obtain⟨e,a',w',hq,harr⟩:=h B act w r b k cs hro hb hr;exact⟨e,a',w',hq,.of_steps (.one (fenced_calm hb hr rfl) stepR_loop) harr⟩
theorem LW.step{c:Code}(h:W P n m R c (ai (LW P n m R c Q) Q) a):LW P n m R c Q a:=by
 intro B act w r b k cs hro hb hr;obtain⟨e,act₁,w₁,hq,harr⟩:=h B act w r b (.inLoop c::k) cs hro hb hr;obtain⟨ex,a',F,μ,q,hx,s,y,t⟩:=hq;cases hx with
 |normal=>
  obtain⟨e₂,a₂,w₂,hq₂,harr₂⟩:=q B act₁ w₁ ⟨F,μ,s,y,t⟩ b k cs hro hb hr;exact⟨e₂,a₂,w₂,hq₂,.of_steps (StepsIn.trans harr (.one (fenced_calm hb hr rfl) stepR_inLoop)) harr₂⟩
 |exit id=>exact⟨_,act₁,w₁,⟨_,a',F,μ,q,.exit id,s,y,t⟩,.pass (x:=.inLoop c) rfl (fun _ _=>.inl (by simp)) harr⟩
 |goto l=>exact⟨_,act₁,w₁,⟨_,a',F,μ,q,.goto l,s,y,t⟩,.pass (x:=.inLoop c) rfl (fun _ _=>.inl (by simp)) harr⟩
 |ret=>exact⟨_,act₁,w₁,⟨_,a',F,μ,q,.ret,s,y,t⟩,.pass (x:=.inLoop c) rfl (fun _ _=>.inl (by simp)) harr⟩
 |panic t v V h=>exact⟨_,act₁,w₁,⟨_,a',F,μ,q,.panic t v V h,s,y,‹_›⟩,.pass (x:=.inLoop c) rfl (fun _ _=>.inl (by simp)) harr⟩
theorem zW{c:Code}{body:St→Option (Ex×St)}(hb:∀a r,body a=some r→W P n m R c (sP r) a):∀(j:Nat) (a:St) (r:Ex×St),wv body j a=some r→LW P n m R c (sP r) a:=by
 intro j;induction j with
 |zero=>intro a r h;cases h
 | succ j ih=>
  intro a r h;simp only[wv]at h;refine LW.step (W.same (norm a) rfl rfl (fun t=>by have:=yh a.T [] t;simpa[norm]using this) ?_);split at h
  ·rename_i a' h1
   refine(hb _ _ h1).mono ?_;rintro ex b ⟨rfl,rfl⟩;exact ih _ r h
  ·rename_i hne
   refine(hb _ r h).mono ?_;rintro ex b ⟨rfl,rfl⟩;obtain⟨ex,b⟩:=r;cases ex with
   |normal=>exact(hne b h).elim
   |exit _=>exact⟨rfl,rfl⟩
   |goto _=>exact⟨rfl,rfl⟩
   |ret=>exact⟨rfl,rfl⟩
   |panic _ _=>exact⟨rfl,rfl⟩
theorem qV (hm:P.follows .mixedOrders=true) (hcall:eM P call) (hpm:kA pm call) (hgf: ∀gf args H r,call (.fn gf) args H=some r→ ∀Vs w,(callFunc gf Vs).run P w=.ok (.enter gf Vs) w) {inr:Bool} (hR:inr=false→R=none):
    ∀(k:Nat) (c:Code) (a:St) (r:Ex×St),fY P call pm n inr k c a=some r→W P n m R c (sP r) a:=by
  intro k;induction k with
  |zero=>intro c a r h;simp[fY]at h
  | succ k ih=>
    intro c a r h;unfold fY at h;cases c with
    |skip=>simp only[Option.some.injEq]at h;subst h;exact .skip ⟨rfl,rfl⟩
    |label l=>simp only[Option.some.injEq]at h;subst h;exact .label ⟨rfl,rfl⟩
    |exit id=>simp only[Option.some.injEq]at h;subst h;exact .exit ⟨rfl,rfl⟩
    |goto l=>simp only[Option.some.injEq]at h;subst h;exact .goto ⟨rfl,rfl⟩
    |ret=>simp only[Option.some.injEq]at h;subst h;exact .ret ⟨rfl,rfl⟩
    | region id ops draw=>
      simp only at h;split at h
      case isFalse=>cases h
      rename_i hf;split at h
      · rename_i hd
        subst hd;rw[Option.map_eq_some_iff]at h;obtain⟨a',h1,rfl⟩:=h;exact zU hm hcall hpm hf h1 ⟨rfl,rfl⟩
      · rename_i hd
        have:draw=false:=by simpa using hd
        subst this;intro B act w hr;refine wpIn_region ?_;have:=C5 (R:=R) (Q:=sP r) (B:=B) hcall hf ops.toList 0 a act w r (fun i o hi=>by rw[Nat.zero_add,←Array.getElem?_toList];exact hi) h ⟨rfl,rfl⟩ hr;rw[Array.length_toList,←List.range_eq_range']at this;exact this
    | seq x y=>
      simp only at h;refine .seq ?_;split at h
      · rename_i a' h1
        refine(ih x a _ h1).mono ?_;rintro ex b ⟨rfl,rfl⟩;exact ih y _ r h
      · rename_i hne
        refine(ih x a r h).mono ?_;rintro ex b ⟨rfl,rfl⟩;obtain⟨ex,b⟩:=r;cases ex with
        |normal=>exact(hne b h).elim
        |exit _=>exact⟨rfl,rfl⟩
        |goto _=>exact⟨rfl,rfl⟩
        |ret=>exact⟨rfl,rfl⟩
        |panic _ _=>exact⟨rfl,rfl⟩
    | cond c x y=>
      simp only at h;split at h
      · rename_i t ht
        exact .cond ht (ih _ a r h)
      · cases h
    | block id c=>
      simp only at h;refine .block ?_;split at h
      · rename_i i a' h1
        refine(ih c a _ h1).mono ?_;rintro ex b ⟨rfl,rfl⟩;simp only[aO];split at h
        · rename_i e;rw[if_pos e];cases h;exact⟨rfl,rfl⟩
        · rename_i e;rw[if_neg e];cases h;exact⟨rfl,rfl⟩
      · rename_i hne
        refine(ih c a r h).mono ?_;rintro ex b ⟨rfl,rfl⟩;obtain⟨ex,b⟩:=r;cases ex with
        |exit i=>exact(hne i b h).elim
        |normal=>exact⟨rfl,rfl⟩
        |goto _=>exact⟨rfl,rfl⟩
        |ret=>exact⟨rfl,rfl⟩
        |panic _ _=>exact⟨rfl,rfl⟩
    | loop c=>
      simp only at h;exact W.qU (zW (fun a r hr=>ih c a r hr) k a r h)
    |refuse _=>cases h
    | scope c=>
      simp only at h;split at h
      · cases h
      · rename_i hi
        have hR':=hR (by simpa using hi);subst hR';split at h
        · rename_i l a' h1
          split at h
          case h_2=>cases h
          rename_i rest hfl;refine W.scope l hfl ((ih c a _ h1).mono ?_);rintro ex b ⟨rfl,rfl⟩;refine⟨rfl,?_⟩;split at h
          · cases h
          · rename_i hne
            refine(ih rest _ r h).mono ?_;rintro ex b ⟨rfl,rfl⟩;obtain⟨ex,b⟩:=r;cases ex with
            |goto i=>exact(hne i b h).elim
            |normal=>exact⟨rfl,rfl⟩
            |exit _=>exact⟨rfl,rfl⟩
            |ret=>exact⟨rfl,rfl⟩
            |panic _ _=>exact⟨rfl,rfl⟩
        · rename_i hne
          refine W.ey ((ih c a r h).mono ?_);rintro ex b ⟨rfl,rfl⟩;obtain⟨ex,b⟩:=r;cases ex with
          |goto i=>exact(hne i b h).elim
          |normal=>exact⟨rfl,rfl⟩
          |exit _=>exact⟨rfl,rfl⟩
          |ret=>exact⟨rfl,rfl⟩
          |panic _ _=>exact⟨rfl,rfl⟩
    | rangeFunc g ps assign body=>
      simp only at h;split at h
      · cases h
      · rename_i hi
        have hR':=hR (by simpa using hi);subst hR';split at h
        case h_2=>cases h
        rename_i gf fs cs hg;split at h
        case h_2=>cases h
        rename_i rv H' hc;split at h
        case h_2=>cases h
        rename_i T' K' hl;split at h
        · cases h
        · rename_i hst
          refine W.rangeFunc hg (hgf _ _ _ _ hc) (hcall (.fn gf) _ _ _ _ hc) hl hst ?_;split at h
          · rename_i hp
            rw[hp];cases h;exact⟨rfl,rfl⟩
          · rename_i c hp
            rw[hp];exact ih c _ r h
end
def sQ(P:Program)(fn:Func):Option (Ex×St)→Option Out
 |some (.normal,a)|some (.ret,a)=>(fe a).bind fun a'=>((eH P fn.results.toList a').bind (fz a'.H 20)).map .ret
 |some (.panic t v,a)=>(fe a).bind fun a'=>(fz a'.H 20 v).map (.pan t)
 |_=>none
def Gl(P:Program)(fn:Func):Option (Ex×St)→Option (Out×List OB)
 |some (.normal,a)|some (.ret,a)=>(fe a).bind fun a'=>(eH P fn.results.toList a').map fun r=>(.ret r,a'.H)
 |some (.panic t v,a)=>(fe a).bind fun a'=>some (.pan t v,a'.H)
 |_=>none
def Gm(id:Nat):Option (Ex×St)→Option (Out×List OB)
 | some (ex,a)=>match a.H[id]? with
  |some (.loop T K)=>match ex with
   | .normal=>some (.ret (.bool true),a.H.set id (.loop T {K with st:=.ready,pend:=none}))
   | .ret=>some (.ret (.bool false),a.H.set id (.loop T {K with st:=.done,pend:=some .ret}))
   | .exit i=>some (.ret (.bool false),a.H.set id (.loop T {K with st:=.done,pend:=some (.exit i)}))
   | .goto i=>some (.ret (.bool false),a.H.set id (.loop T {K with st:=.done,pend:=some (.goto i)}))
   | .panic _ _=>none
  |_=>none
 |none=>none
def iJ(H:List OB):Nat→AV→List Nat→List Nat
 |0,_,S=>S
 | k+1,v,S=>
  let on (id:Nat) (S:List Nat):List Nat:=if S.contains id=true then S else match H[id]? with
   |some (.cells cs _)=>cs.foldl (fun S v=>iJ H k v S) (id::S)
   |some (.map ks vs)=>vs.foldl (fun S v=>iJ H k v S) (ks.foldl (fun S v=>iJ H k v S) (id::S))
   |_=>S
  match v with
  | .ptr id _| .sl id _ _ _| .map id=>on id S
  | .func _ fs cs=>cs.foldl (fun S v=>iJ H k v S) (fs.foldl (fun S v=>iJ H k v S) S)
  | .iface _ v=>iJ H k v S
  | .agg l| .tup l=>l.foldl (fun S v=>iJ H k v S) S
  |_=>S
def cg(S:List Nat):Nat→List OB→List OB
 |_,[]=>[]
 |i,b::r=>(if S.contains i=true then b else .dead)::cg S (i+1) r
def cY(S:List Nat):Nat→List OB→List OB
 |_,[]=>[]
 |i,b::r=>(if S.contains i=true then .dead else b)::cY S (i+1) r
structure yi where
 pm:FuncId→Bool
 gm:FuncId→Bool
 conP:FuncId→List AV→Option Out
 conS:FuncId→List AV→List OB→Option (Out×List OB)
 fuel:Nat
def du (P : Program) (Y:yi):Nat→Cl→List AV→List OB→Option (Out×List OB)
  |0,_,_,_=>none
  | d + 1,.fn f,args,H=>match P.funcs[f]? with
    |none=>none
    | some fn =>match fn.body with
      |none=>none
      | some c=>if args.length≤fn.ntmps then
          if Y.pm f=true then match(if AV.hfs args=true then some args else args.mapM (fz H 20))with
            |none=>none
            | some args'=>match(match Y.conP f args' with|some out=>some out|none=>sQ P fn (fY P (du P Y d) Y.pm fn.ntmps false Y.fuel c ⟨aL 0 args',[],[]⟩))with
              |some out=>if(AV.hfs args||out.scalar)=true then some (out,H)else none
              |none=>none
          else if Y.gm f=true then
            let S:=args.foldl (fun S v=>iJ H 20 v S) []
            match args.mapM (fz (cg S 0 H) 20)with
            |none=>none
            | some args'=>match(match Y.conP f args' with|some out=>some out|none=>sQ P fn (fY P (du P Y d) Y.pm fn.ntmps false Y.fuel c ⟨aL 0 args',[],[]⟩))with
              |some out=>some (out,cY S 0 H)
              |none=>none
          else match Y.conS f args H with
            |some r=>some r
            |none=>Gl P fn (fY P (du P Y d) Y.pm fn.ntmps false Y.fuel c ⟨aL 0 args,H,[]⟩)
        else none
  | d+1,.inv t name,args,H=>match gD P t name with
    |some f=>du P Y d (.fn f) args H
    |none=>none
  | d + 1,.yld id,args,H=>match H[id]? with
    | some (.loop T K)=>if(K.ps.toList.all (fun p=>decide (p<K.n))&&decide (K.ps.size=args.length))=true then
        match fY P (du P Y d) Y.pm K.n true Y.fuel K.assign ⟨pQ T K.ps.toList args,H,[]⟩with
        | some (.normal,a1)=>match a1.H[id]? with
          |some (.loop T1 K1)=>if K1.st=.ready then Gm id (fY P (du P Y d) Y.pm K.n true Y.fuel K.body {a1 with H:=a1.H.set id (.loop T1 {K1 with st:=.busy})})else none
          |_=>none
        |_=>none
      else none
    |_=>none
structure jg (P:Program) (Y:yi):Prop where
 mixed:P.follows .mixedOrders=true
 enters:Enters P
 conP:∀f args out,Y.conP f args=some out→ad P f args out
 conS:∀f args H out H',Y.conS f args H=some (out,H')→aY P f args H out H'
section
variable{P:Program} {w0:World} {F0 F F':Nat→Nat→Prop} {μ μ':Nat→Option Loc} {H H':List OB} {w w':World} {n m:Nat} {R:Option Nat} {a:St} {act:Act} {Q:Ex→St→Prop}
def Gn(P:Program)(rs:List ResultVar)(out:Out)(H':List OB):Ex→St→Prop
 | .normal,a| .ret,a=>∃a',fe a=some a'∧a'.H=H'∧∃r,eH P rs a'=some r∧out=.ret r
 | .panic t v,a=>∃a',fe a=some a'∧a'.H=H'∧out=.pan t v
 |_,_=>False
theorem aY.ofX {f:FuncId} {fn:Func} {c:Code} {args:List AV} {out:Out} (hf:P.funcs[f]? =some fn) (hb:fn.body=some c) (hc: ∀Vs w,(callFunc f Vs).run P w=.ok (.enter f Vs) w) (hn:args.length≤fn.ntmps)
    (h:W P fn.ntmps H.length none c (Gn P fn.results.toList out H') ⟨aL 0 args,H,[]⟩):aY P f args H out H':=by
  intro w0 F0 F μ w Vs s0 hv;refine .inl ⟨w,hc _ _,rfl,(callsIn_wide (n:=1)).1 (callsIn_of_wp_marks hf hb trivial ?_ rfl)⟩;refine wpIn_mono (h ⟨w0,F0,w,F,μ,s0.dom⟩ _ w ⟨F,μ,s0,Ext.refl _ _ _,cd.start hv hn⟩) ?_;rintro e act' w' ⟨ex,a',F',μ',hq,hx,s,y,t⟩;have hret:(∃a1,fe a'=some a1∧a1.H=H'∧ ∃r,eH P fn.results.toList a1=some r∧out=.ret r)→LeavesInM Fence.wide 1 P fn act'.tmps (fun e w'=> ∃F' μ',Ext F w μ F' w' μ'∧Sim w0 F0 F' μ' H' w'∧eW F' w' μ' out e) act'.defers .returning w':=by
    rintro⟨a1,h1,rfl,r,h2,rfl⟩;refine fA (by simp) s t h1 fun w'' x s'' t''=> ?_;obtain⟨V,h5,h6⟩:=cJ (P:=P) (act:={act' with defers:=[]}) s'' t'' h2;exact⟨V,h5,F',μ',y.trans x,s'',.ret r V h6⟩
  cases hx with
  |normal=>exact hret hq
  |ret=>exact hret hq
  |exit id=>exact hq.elim
  |goto l=>exact hq.elim
  | panic tt v V hV=>
    obtain⟨a1,h1,rfl,rfl⟩:=hq;refine fA (by simp) s t h1 fun w'' x s'' t''=> ?_;exact⟨F',μ',y.trans x,s'',.pan tt v V (VR.mono x hV)⟩
theorem C6{fn:Func}{r:Option (Ex×St)}{out:Out}(h:Gl P fn r=some (out,H')):∃e,r=some e∧Gn P fn.results.toList out H' e.1 e.2:=by
 unfold Gl at h;split at h
 ·rw[Option.bind_eq_some_iff]at h
  obtain⟨a',h1,h2⟩:=h;rw[Option.map_eq_some_iff]at h2;obtain⟨rr,h3,h4⟩:=h2;cases h4;exact⟨_,rfl,a',h1,rfl,rr,h3,rfl⟩
 ·rw[Option.bind_eq_some_iff]at h
  obtain⟨a',h1,h2⟩:=h;rw[Option.map_eq_some_iff]at h2;obtain⟨rr,h3,h4⟩:=h2;cases h4;exact⟨_,rfl,a',h1,rfl,rr,h3,rfl⟩
 ·rw[Option.bind_eq_some_iff]at h
  obtain⟨a',h1,h2⟩:=h;cases h2;exact⟨_,rfl,a',h1,rfl,rfl⟩
 ·cases h
theorem qW{fn:Func}{r:Option (Ex×St)}{out:Out}(h:sQ P fn r=some out):∃e,r=some e∧eI P fn.results.toList out e.1 e.2:=by
 unfold sQ at h;split at h
 ·rw[Option.bind_eq_some_iff]at h
  obtain⟨a',h1,h2⟩:=h;rw[Option.map_eq_some_iff]at h2;obtain⟨rr,h3,rfl⟩:=h2;exact⟨_,rfl,a',h1,rr,h3,.refl _⟩
 ·rw[Option.bind_eq_some_iff]at h
  obtain⟨a',h1,h2⟩:=h;rw[Option.map_eq_some_iff]at h2;obtain⟨rr,h3,rfl⟩:=h2;exact⟨_,rfl,a',h1,rr,h3,.refl _⟩
 ·rw[Option.bind_eq_some_iff]at h
  obtain⟨a',h1,h2⟩:=h;rw[Option.map_eq_some_iff]at h2;obtain⟨rr,h3,rfl⟩:=h2;exact⟨_,rfl,a',h1,rfl,rr,h3,.refl _⟩
 ·cases h
theorem C7{id:Nat}{r:Option (Ex×St)}{out:Out}(h:Gm id r=some (out,H')):∃e,r=some e∧uX id out H' e.1 e.2:=by
 unfold Gm at h;split at h
 ·rename_i ex a
  split at h
  ·rename_i T K hid
   split at h<;>first|(cases h;exact⟨_,rfl,T,K,hid,rfl,rfl⟩)|cases h
  ·cases h
 ·cases h
theorem ad.sh{f:FuncId}{args args':List AV}{out:Out}(hl:aG H args out=some args')(hp:ad P f args' out):aY P f args H out H:=
 fun w0 F0 F μ w Vs s hv=>ad.call s hl hp hv
theorem jh(S:List Nat):∀(H:List OB) (k i:Nat),(cg S k H)[i]? =(H[i]?).map fun b=>if S.contains (k+i)=true then b else .dead:=by
 intro H;induction H with
 |nil=>intro k i;simp[cg]
 |cons b r ih=>
  intro k i;cases i with
  |zero=>simp[cg]
  |succ i=>simp only[cg,List.getElem?_cons_succ,ih];rw[show k+1+i=k+(i+1)from by omega]
theorem pU(S:List Nat):∀(H:List OB) (k i:Nat),(cY S k H)[i]? =(H[i]?).map fun b=>if S.contains (k+i)=true then .dead else b:=by
 intro H;induction H with
 |nil=>intro k i;simp[cY]
 |cons b r ih=>
  intro k i;cases i with
  |zero=>simp[cY]
  |succ i=>simp only[cY,List.getElem?_cons_succ,ih];rw[show k+1+i=k+(i+1)from by omega]
theorem yj(S:List Nat):∀(H:List OB) (k:Nat),(cY S k H).length=H.length:=by
 intro H;induction H with
 |nil=>intro k;rfl
 |cons b r ih=>intro k;simp[cY,ih]
theorem yk(S:List Nat):∀(H:List OB) (k:Nat),(cg S k H).length=H.length:=by
 intro H;induction H with
 |nil=>intro k;rfl
 |cons b r ih=>intro k;simp[cg,ih]
theorem Sim.sub(s:Sim w0 F0 F μ H w)(hl:H'.length=H.length)(hs:∀(i:Nat) (b:OB),H'[i]? =some b→b=.dead∨H[i]? =some b):Sim w0 F0 F μ H' w:=by
 have hlv:∀(i:Nat) (b:OB),H'[i]? =some b→b.live=true→H[i]? =some b:=by
  intro i b h hb;rcases hs i b h with rfl|h
  ·cases hb
  ·exact h
 refine⟨s.below,s.new,s.old,s.lt,?_,?_,fun id L h=>by rw[hl];exact s.dom id L h⟩
 ·intro id b h
  by_cases hb:b.live=true
  ·exact s.obs id b (hlv id b h hb)
  ·exact OBR.fZ (by simpa using hb)
 ·intro i j bi bj Li Lj hi hj li lj mi mj hij
  exact s.apart i j bi bj Li Lj (hlv i bi hi li) (hlv j bj hj lj) li lj mi mj hij
theorem Sim.freeze(s:Sim w0 F0 F μ H w)(S:List Nat):Ext F w μ (fq F μ (cg S 0 H)) w μ∧Sim w0 F0 (fq F μ (cg S 0 H)) μ (cY S 0 H) w∧
    ∀v v' V,fz (cg S 0 H) 20 v=some v'→VR F w μ v V→VR (fq F μ (cg S 0 H)) w noμ v' V:=by
  have hk: ∀(i:Nat) (b:OB),(cg S 0 H)[i]? =some b→b.live=true→H[i]? =some b∧S.contains i=true:=by
    intro i b h hb;rw[jh,Option.map_eq_some_iff]at h;obtain⟨b',h1,h2⟩:=h;rw[Nat.zero_add]at h2;split at h2
    · subst h2;exact⟨h1,‹_›⟩
    · subst h2;cases hb
  have hd: ∀(i:Nat) (b:OB),(cY S 0 H)[i]? =some b→b.live=true→H[i]? =some b∧S.contains i=false:=by
    intro i b h hb;rw[pU,Option.map_eq_some_iff]at h;obtain⟨b',h1,h2⟩:=h;rw[Nat.zero_add]at h2;split at h2
    · subst h2;cases hb
    · rename_i hn;subst h2;exact⟨h1,by simpa using hn⟩
  have sk:Sim w0 F0 F μ (cg S 0 H) w:=s.sub (yk _ _ _) fun i b h=>by
    by_cases hb:b.live=true
    · exact .inr (hk i b h hb).1
    · cases b<;>first|exact .inl rfl|exact(hb rfl).elim
  have sd:Sim w0 F0 F μ (cY S 0 H) w:=s.sub (yj _ _ _) fun i b h=>by
    by_cases hb:b.live=true
    · exact .inr (hd i b h hb).1
    · cases b<;>first|exact .inl rfl|exact(hb rfl).elim
  refine⟨kq,⟨sd.below,fun b o h=>.inl (s.new b o h),fun b o hb h=>ky sk b o hb h,mY sk,?_,sd.apart,sd.dom⟩,fun v v' V h hv=>nF sk 20 v v' V h hv⟩;intro id b h;by_cases hb:b.live=true
  · refine(sd.obs id b h).mono kq (fun _ _=>rfl) ?_
    rintro L o hμ (hf|⟨id',b',L',g1,g2,g3,g4⟩)
    · exact hf
    · obtain⟨q1,q2⟩:=hk id' b' g1 g2
      obtain⟨q3,q4⟩:=hd id b h hb;have hne:id'≠id:=by rintro rfl;rw[q2]at q4;cases q4
      exact(s.apart id' id b' b L' L q1 q3 g2 hb g3 hμ hne g4).elim
  · exact OBR.fZ (by simpa using hb)
theorem ad.yl{f:FuncId}{args args':List AV}{out:Out}(S:List Nat)(hl:args.mapM (fz (cg S 0 H) 20)=some args')(hp:ad P f args' out):aY P f args H out (cY S 0 H):=by
 intro w0 F0 F μ w Vs s hv;obtain⟨x0,s0,hz⟩:=s.freeze S;obtain⟨hlen,hget⟩:=iH hl;have hv':VRs (fq F μ (cg S 0 H)) w noμ args' Vs:=by
  refine .jG (by rw[hlen,VRs.len hv]) fun i v' hi=>?_;have hil:i<args.length:=by rw[←hlen];exact(List.getElem?_eq_some_iff.1 hi).1
  obtain⟨v'',h1,h2⟩:=hget i args[i] (List.getElem?_eq_getElem hil);rw[hi]at h1;cases h1;obtain⟨V,h3,h4⟩:=hv.get (List.getElem?_eq_getElem hil);exact⟨V,h3,hz _ _ _ h2 h4⟩
 refine(hp _ w Vs s0.lt hv').mono ?_;rintro e w' ⟨hb,F',h1,h2,h3,h4⟩;obtain⟨x,s'⟩:=s0.behind hb h1 h2 h3;exact⟨F',μ,x0.trans x,s',h4.noμ⟩
theorem nM {Y:yi} (hY:jg P Y):∀d,eM P (du P Y d)∧kA Y.pm (du P Y d)∧∀gf args H r,du P Y d (.fn gf) args H=some r→∀Vs w,(callFunc gf Vs).run P w=.ok (.enter gf Vs) w:=by
 intro d;induction d with
 |zero=>
  refine⟨?_,?_,?_⟩
  ·intro f args H out H' h;simp[du]at h
  ·intro f args H out H' _ h;simp[du]at h
  ·intro gf args H r h;simp[du]at h
 | succ d ih=>
  obtain⟨ih1,ih2,ih3⟩:=ih
  have hrun:∀(inr:Bool) (R:Option Nat) (n m:Nat),(inr=false→R=none)→∀c a r,fY P (du P Y d) Y.pm n inr Y.fuel c a=some r→W P n m R c (sP r) a:=
   fun inr R n m hR c a r h=>qV (m:=m) hY.mixed ih1 ih2 ih3 hR Y.fuel c a r h
  refine⟨?_,?_,?_⟩
  ·intro cl args H out H' h
   cases cl with
   |inv t name=>
    unfold du at h;split at h
    case h_2=>cases h
    rename_i f hm;exact⟨f,hm,ih1 (.fn f) args H out H' h⟩
   | fn f=>
    unfold du at h;split at h
    ·cases h
    rename_i fn hfn;split at h
    ·cases h
    rename_i c hb;have hc:=ab hY.enters hfn hb;split at h
    case isFalse=>cases h
    rename_i hlen;split at h
    ·split at h
     ·cases h
     rename_i args' hargs;have hlen':args'.length=args.length:=by
      split at hargs
      ·cases hargs;rfl
      ·exact(iH hargs).1
     split at h
     ·rename_i out' hout
      split at h
      case isFalse=>cases h
      rename_i hsc;cases h;have hl:aG H args out=some args':=by
       unfold aG;split at hargs
       ·rename_i hh;rw[if_pos hh];exact hargs
       ·rename_i hh
        rw[if_neg hh];have:out.scalar=true:=by simpa[hh]using hsc
        rw[if_pos this];exact hargs
      refine ad.sh hl ?_;split at hout
      ·cases hout;exact hY.conP _ _ _ ‹_›
      ·obtain⟨e,he,hq⟩:=qW hout
       refine ad.of hfn hb hc (by omega) ((hrun false none _ _ (fun _=>rfl) _ _ _ he).mono ?_);rintro ex b ⟨rfl,rfl⟩;exact hq
     ·cases h
    ·split at h
     ·simp only at h
      split at h
      ·cases h
      rename_i args' hargs;split at h
      ·rename_i out' hout
       cases h;refine ad.yl _ hargs ?_;split at hout
       ·cases hout;exact hY.conP _ _ _ ‹_›
       ·obtain⟨e,he,hq⟩:=qW hout
        refine ad.of hfn hb hc (by rw[(iH hargs).1];exact hlen) ((hrun false none _ _ (fun _=>rfl) _ _ _ he).mono ?_);rintro ex b ⟨rfl,rfl⟩;exact hq
      ·cases h
     split at h
     ·cases h;exact hY.conS _ _ _ _ _ ‹_›
     ·obtain⟨e,he,hq⟩:=C6 h
      refine aY.ofX hfn hb hc hlen ((hrun false none _ _ (fun _=>rfl) _ _ _ he).mono ?_);rintro ex b ⟨rfl,rfl⟩;exact hq
   |yld id=>
    unfold du at h;split at h
    case h_2=>cases h
    rename_i T K hid;split at h
    case isFalse=>cases h
    rename_i hps;split at h
    case h_2=>cases h
    rename_i a1 hr1;split at h
    case h_2=>cases h
    rename_i T1 K1 hid1;split at h
    case isFalse=>cases h
    rename_i hst;obtain⟨e,he,hq⟩:=C7 h;refine YFn.of hid hps fun l=>((hrun true (some l) _ _ (fun h=>by cases h) _ _ _ hr1).mono ?_);rintro ex b ⟨rfl,rfl⟩;refine⟨T1,K1,hid1,hst,(hrun true (some l) _ _ (fun h=>by cases h) _ _ _ he).mono ?_⟩;rintro ex b ⟨rfl,rfl⟩;exact hq
  ·intro f args H out H' hp h
   unfold du at h;split at h
   ·cases h
   split at h
   ·cases h
   split at h
   case isFalse=>cases h
   try rw[if_pos hp]at h
   split at h
   ·cases h
   split at h
   ·split at h
    ·cases h;rfl
    ·cases h
   ·cases h
  ·intro gf args H r h
   unfold du at h;split at h
   ·cases h
   rename_i fn hfn;split at h
   ·cases h
   rename_i c hb;exact ab hY.enters hfn hb
theorem ad.run {Y:yi} (hY:jg P Y) (d:Nat) {f:FuncId} {fn:Func} {c:Code} {args:List AV} {out:Out} (hf:P.funcs[f]? =some fn) (hb:fn.body=some c) (hn:args.length≤fn.ntmps)
    (h:sQ P fn (fY P (du P Y d) Y.pm fn.ntmps false Y.fuel c ⟨aL 0 args,[],[]⟩)=some out):ad P f args out:=by
  obtain⟨e,he,hq⟩:=qW h;obtain⟨h1,h2,h3⟩:=nM hY d;refine ad.of hf hb (ab hY.enters hf hb) hn ((qV (m:=0) hY.mixed h1 h2 h3 (R:=none) (fun _=>rfl) Y.fuel c _ _ he).mono ?_);rintro ex b ⟨rfl,rfl⟩;exact hq
end
section
variable{P:Program} {w0:World} {F0 F F':Nat→Nat→Prop} {μ μ':Nat→Option Loc} {H H':List OB} {w w':World} {n m:Nat} {R:Option Nat} {a:St} {act:Act} {Q:Ex→St→Prop}
theorem W.fN {S:Out→List OB→Prop} {g:Operand} {ps:Array Tmp} {assign body:Code} {gf:FuncId} {fs cs:List AV}
    (hg:a.ev g=.func (.func gf) fs cs) (hc: ∀Vs w,(callFunc gf Vs).run P w=.ok (.enter gf Vs) w)
    (hcall:ba P gf (fs++[.yld (a.H.length+1)]++cs) (a.H++[.dfr,.loop a.T ⟨n,ps,assign,body,.ready,none⟩]) S)
    (hq: ∀out H',S out H'→ ∃r T' K',out=.ret r∧H'[a.H.length+1]? =some (.loop T' K')∧K'.st≠ .busy∧cw P n m Q ⟨a.T,H'.set (a.H.length+1) .dead,.mark a.H.length::a.D⟩ K'.pend):W P n m none (.rangeFunc g ps assign body) Q a:=by
  intro B act w ⟨F,μ,s,y,t⟩;refine wpIn_rangeFunc (F:=fnc none) fun fn _=> ?_;have hgv:=t.ev g;rw[hg]at hgv;generalize hX:act.eval g=X at hgv;cases hgv with
  | func _ _ _ Fs Cs h1 h2=>
    obtain⟨μ1,x1,m1,s1⟩:=s.alloc (.deferred (some [])) .dfr ⟨w.heap.size,0,0⟩ rfl (fun μ' x hm hF=>.dfr _ hm s.below.size (by simp) hF);have hlen1:({w with heap:=w.heap.push (.deferred (some []))}:World).heap.size=w.heap.size+1:=by simp
    obtain⟨μ2,x2,m2,s2⟩:=s1.alloc (.loop {state:=.ready,pending:=none,fn,tmps:=act.tmps,params:=ps,assign,body,defers:=w.heap.size}) (.loop a.T ⟨n,ps,assign,body,.ready,none⟩)
      ⟨w.heap.size+1,0,0⟩ hlen1.symm (fun μ' x hm hF=>.loop _ _ _ {state:=.ready,pending:=none,fn,tmps:=act.tmps,params:=ps,assign,body,defers:=w.heap.size} hm (by have:=s.below.size;show _≤w.heap.size+1;omega) (by show((w.heap.push _).push _)[w.heap.size+1]? =_;rw[Array.getElem?_push,if_pos (by simp)]) rfl rfl rfl rfl rfl t.size (fun i=>VR.mono (x1.trans x) (t.slots i)) hF)
    have x12:=x1.trans x2;rw[List.length_append,List.length_singleton]at m2;have hH:a.H++[OB.dfr]++[OB.loop a.T ⟨n,ps,assign,body,.ready,none⟩]=a.H++[.dfr,.loop a.T ⟨n,ps,assign,body,.ready,none⟩]:=by simp
    rw[hH]at s2;have m1':=x2.mu _ _ m1
    refine⟨w.heap.size+1,[{target:=.collected w.heap.size,args:= #[]}],(w.alloc (.deferred (some []))).alloc (.loop {state:=.ready,pending:=none,fn,tmps:=act.tmps,params:=ps,assign,body,defers:=w.heap.size}),{target:=.fn (.func gf) Cs,args:=Fs++ #[.func (.yield (w.heap.size+1)) #[] #[]]},(w.alloc (.deferred (some []))).alloc (.loop {state:=.ready,pending:=none,fn,tmps:=act.tmps,params:=ps,assign,body,defers:=w.heap.size}),gf,
      (Fs.toList++[Value.func (.yield (w.heap.size+1)) #[] #[]]++Cs.toList).toArray,(w.alloc (.deferred (some []))).alloc (.loop {state:=.ready,pending:=none,fn,tmps:=act.tmps,params:=ps,assign,body,defers:=w.heap.size}),run_enterLoop_outer fn act.tmps ps assign body,?_,fun _ _=>trivial,?_,fun _=>Nat.le_refl _,?_⟩
    · simp only[rangeCall,resolve,hX,Deferred.ofValue,Sem.run_pure]
      simp[Act.eval]
    · simp only[invoke]
      have:(Fs++ #[Value.func (.yield (w.heap.size+1)) #[] #[]]++Cs)=(Fs.toList++[Value.func (.yield (w.heap.size+1)) #[] #[]]++Cs.toList).toArray:=by apply Array.ext';simp
      rw[this];exact hc _ _
    · refine gb.2 ?_
      have hvs:VRs F ((w.alloc (.deferred (some []))).alloc (.loop {state:=.ready,pending:=none,fn,tmps:=act.tmps,params:=ps,assign,body,defers:=w.heap.size})) μ2 (fs++[.yld (a.H.length+1)]++cs)
          (Fs.toList++[Value.func (.yield (w.heap.size+1)) #[] #[]]++Cs.toList):=
        ((VRs.mono x12 h1).append (.cons _ _ _ _ (.yld _ _ m2) .nil)).append (VRs.mono x12 h2)
      have hcc:=hcall B.w0 B.F0 F μ2 _ _ s2 hvs
      have hgo:Calls P gf (Fs.toList++[Value.func (.yield (w.heap.size+1)) #[] #[]]++Cs.toList).toArray ((w.alloc (.deferred (some []))).alloc (.loop {state:=.ready,pending:=none,fn,tmps:=act.tmps,params:=ps,assign,body,defers:=w.heap.size}))
          (fun e w'=> ∃out H' F' μ',S out H'∧Ext F ((w.alloc (.deferred (some []))).alloc (.loop {state:=.ready,pending:=none,fn,tmps:=act.tmps,params:=ps,assign,body,defers:=w.heap.size})) μ2 F' w' μ'∧Sim B.w0 B.F0 F' μ' H' w'∧eW F' w' μ' out e):=by
        rcases hcc with⟨w1,g1,rfl,g2⟩|⟨V,w1,g1,g2⟩
        · exact g2
        · rw[hc]at g1;cases g1
      refine hgo.mono ?_;rintro e w3 ⟨out,H',F3,μ3,hS,x3,s3,ho⟩;obtain⟨r,T',K',rfl,hloop,hst,hq⟩:=hq out H' hS;cases ho with
      | ret _ V hV=>
        have hμ3:=x3.mu _ _ m2;have hob:=s3.obs _ _ hloop;cases hob with
        | loop _ _ L' rec hμ' hB hw e1 e2 e3 e4 e5 e6 hT hF=>
          rw[hμ3]at hμ';cases hμ';obtain⟨x4,s4⟩:=s3.write (a.H.length+1) _ .dead _ hloop rfl hμ3 (.loop {rec with state:=.exhausted}) (fun _=>.dead);have y4:=y.trans (x12.trans (x3.trans x4))
          have t4:cd n F3 μ3 ⟨a.T,H'.set (a.H.length+1) .dead,.mark a.H.length::a.D⟩ {act with defers:=[{target:=.collected w.heap.size,args:= #[]}]++act.defers} (w3.putObj (w.heap.size+1) (.loop {rec with state:=.exhausted})):=
            ⟨.cons _ ⟨w.heap.size,0,0⟩ _ _ (x3.mu _ _ m1') (t.defers.mono (x12.trans (x3.trans x4))),t.size,fun i=>VR.mono (x12.trans (x3.trans x4)) (t.slots i)⟩
          refine⟨_,_,run_endLoop hw (by rw[e4];exact hst),?_⟩
          have key: ∀(pe:Option Code) (act':Act) (W4:World),cw P n m Q ⟨a.T,H'.set (a.H.length+1) .dead,.mark a.H.length::a.D⟩ pe→Sim B.w0 B.F0 F3 μ3 (H'.set (a.H.length+1) .dead) W4→Ext B.Fs B.ws B.μs F3 W4 μ3→
              cd n F3 μ3 ⟨a.T,H'.set (a.H.length+1) .dead,.mark a.H.length::a.D⟩ act' W4→(match pe with|none=>dX n B Q .normal act' W4|some c=>c.wpIn (fnc none) 1 P (dX n B Q) act' W4):=by
            intro pe act' W4 hq s4 y4 t4;cases pe with
            |none=>exact⟨_,_,F3,μ3,hq,.normal,s4,y4,t4⟩
            |some c=>exact hq B _ _ ⟨F3,μ3,s4,y4,t4⟩
          exact key rec.pending _ _ (by rw[e5];exact hq) s4 y4 t4
end
def Lt(P:Program)(rs:List ResultVar)(S:Out→List OB→Prop):Ex→St→Prop
  | .normal,a| .ret,a=> ∃a',fe a=some a'∧((∃v,eH P rs a'=some v∧AV.hf v=true∧S (.ret v) [])∨
      (∃d off len wd cs opn,eH P rs a'=some (.sl d off len wd)∧a'.H[d]? =some (.cells cs opn)∧AV.hfs cs=true∧S (.ret (.sl 0 off len wd)) [.cells cs opn]))
  |_,_=>False
section
variable{P:Program} {w0:World} {F0 F F':Nat→Nat→Prop} {μ μ':Nat→Option Loc} {H H':List OB} {w w':World} {n m:Nat} {R:Option Nat} {a:St} {act:Act} {Q:Ex→St→Prop}
theorem Sim.none(s:Sim w0 F0 F μ H w):Sim w0 F0 F noμ [] w:=
 ⟨s.below,s.new,s.old,s.lt,fun id b h=>by simp at h,fun i j bi bj Li Lj h=>by simp at h,fun id L h=>by cases h⟩
theorem VR.qY{v:AV}{V:Value}(h:VR F w μ v V)(hh:AV.hf v=true):VR F w μ' v V:=
 VR.mono (F:=F) (w:=w) (μ:=noμ) ⟨(fun _ _ h=>by cases h),(fun _ _ h=>h),(fun _ _ _ _ h=>h),(fun _ _ _ _ h=>h)⟩ (h.cP hh)
theorem Sim.lone(s:Sim w0 F0 F μ H w){d:Nat}{cs:List AV}{opn:Bool}(hd:H[d]? =some (.cells cs opn))(hh:AV.hfs cs=true):Sim w0 F0 F (fun i=>if i=0 then μ d else Option.none) [.cells cs opn] w:=by
 refine⟨s.below,s.new,s.old,s.lt,?_,?_,?_⟩
 ·intro id b h
  cases id with
  |succ id=>simp at h
  | zero=>
   simp at h;subst h;have hob:=s.obs d _ hd;cases hob with
   |cells _ _ L c el lo hi hμ hB hw hcap hlen hfix hun hcs hF=>
    refine .cells cs opn L c el lo hi (by simpa using hμ) hB hw hcap hlen hfix hun (fun i v hi=>?_) hF;obtain⟨V,h1,h2⟩:=hcs i v hi;rw[aR]at hh;exact⟨V,h1,h2.qY (List.all_eq_true.1 hh v (List.mem_of_getElem? hi))⟩
 ·intro i j bi bj Li Lj hi hj _ _ _ _ hij
  cases i with
  |succ i=>simp at hi
  |zero=>
   cases j with
   |succ j=>simp at hj
   |zero=>exact(hij rfl).elim
 ·intro id L h
  by_cases e:id=0
  ·subst e;simp
  ·simp[e]at h
theorem ba.of0 {S:Out→List OB→Prop} {f:FuncId} {fn:Func} {c:Code} {args:List AV} (hf:P.funcs[f]? =some fn) (hb:fn.body=some c) (hc: ∀Vs w,(callFunc f Vs).run P w=.ok (.enter f Vs) w) (hn:args.length≤fn.ntmps)
    (h:W P fn.ntmps 0 none c (Lt P fn.results.toList S) ⟨aL 0 args,[],[]⟩):ba P f args [] S:=by
  intro w0 F0 F μ w Vs s0 hv;refine .inl ⟨w,hc _ _,rfl,(callsIn_wide (n:=1)).1 (callsIn_of_wp_marks hf hb trivial ?_ rfl)⟩;refine wpIn_mono (h ⟨w0,F0,w,F,μ,s0.dom⟩ _ w ⟨F,μ,s0,Ext.refl _ _ _,cd.start hv hn⟩) ?_;rintro e act' w' ⟨ex,a',F',μ',hq,hx,s,y,t⟩
  have hno: ∀{w''} μ'',Ext F w μ F' w'' μ'→Ext F w μ F' w'' μ'':=fun μ'' x=>
    ⟨fun id L hL=>by have:=s0.dom id L hL;simp at this,x.fr,x.cell,x.obj⟩
  have hret:(∃a1,fe a'=some a1∧((∃v,eH P fn.results.toList a1=some v∧AV.hf v=true∧S (.ret v) [])∨
      (∃d off len wd cs opn,eH P fn.results.toList a1=some (.sl d off len wd)∧a1.H[d]? =some (.cells cs opn)∧AV.hfs cs=true∧S (.ret (.sl 0 off len wd)) [.cells cs opn])))→
      LeavesInM Fence.wide 1 P fn act'.tmps (fun e w'=> ∃out H' F' μ',S out H'∧Ext F w μ F' w' μ'∧Sim w0 F0 F' μ' H' w'∧eW F' w' μ' out e) act'.defers .returning w':=by
    rintro⟨a1,h1,hq⟩;refine fA (by simp) s t h1 fun w'' x s'' t''=> ?_;rcases hq with⟨v,h2,h3,h4⟩|⟨d,off,len,wd,cs,opn,h2,h3,h4,h5⟩
    · obtain⟨V,h6,h7⟩:=cJ (P:=P) (act:={act' with defers:=[]}) s'' t'' h2
      exact⟨V,h6,_,_,F',noμ,h4,hno _ (y.trans x),s''.none,.ret v V (h7.qY h3)⟩
    · obtain⟨V,h6,h7⟩:=cJ (P:=P) (act:={act' with defers:=[]}) s'' t'' h2
      refine⟨V,h6,_,_,F',_,h5,hno _ (y.trans x),s''.lone h3 h4,.ret _ V ?_⟩;cases h7 with
      |sl _ _ _ _ cap L hμ hcc hl hbb=>exact .sl 0 off len wd cap L (by simpa using hμ) hcc hl hbb
  cases hx with
  |normal=>exact hret hq
  |ret=>exact hret hq
  |exit id=>exact hq.elim
  |goto l=>exact hq.elim
  |panic tt v V hV=>exact hq.elim
theorem ba.ofX {S:Out→List OB→Prop} {f:FuncId} {fn:Func} {c:Code} {args:List AV} (hf:P.funcs[f]? =some fn) (hb:fn.body=some c) (hc: ∀Vs w,(callFunc f Vs).run P w=.ok (.enter f Vs) w) (hn:args.length≤fn.ntmps)
    (h:W P fn.ntmps H.length none c (fun ex a=> ∃out H',S out H'∧Gn P fn.results.toList out H' ex a) ⟨aL 0 args,H,[]⟩):ba P f args H S:=by
  intro w0 F0 F μ w Vs s0 hv;refine .inl ⟨w,hc _ _,rfl,(callsIn_wide (n:=1)).1 (callsIn_of_wp_marks hf hb trivial ?_ rfl)⟩;refine wpIn_mono (h ⟨w0,F0,w,F,μ,s0.dom⟩ _ w ⟨F,μ,s0,Ext.refl _ _ _,cd.start hv hn⟩) ?_;rintro e act' w' ⟨ex,a',F',μ',⟨out,H',hS,hq⟩,hx,s,y,t⟩;have hret:(∃a1,fe a'=some a1∧a1.H=H'∧ ∃r,eH P fn.results.toList a1=some r∧out=.ret r)→LeavesInM Fence.wide 1 P fn act'.tmps (fun e w'=> ∃out H' F' μ',S out H'∧Ext F w μ F' w' μ'∧Sim w0 F0 F' μ' H' w'∧eW F' w' μ' out e) act'.defers .returning w':=by
    rintro⟨a1,h1,rfl,r,h2,rfl⟩;refine fA (by simp) s t h1 fun w'' x s'' t''=> ?_;obtain⟨V,h5,h6⟩:=cJ (P:=P) (act:={act' with defers:=[]}) s'' t'' h2;exact⟨V,h5,_,_,F',μ',hS,y.trans x,s'',.ret r V h6⟩
  cases hx with
  |normal=>exact hret hq
  |ret=>exact hret hq
  |exit id=>exact hq.elim
  |goto l=>exact hq.elim
  | panic tt v V hV=>
    obtain⟨a1,h1,rfl,rfl⟩:=hq;refine fA (by simp) s t h1 fun w'' x s'' t''=> ?_;exact⟨_,_,F',μ',hS,y.trans x,s'',.pan tt v V (VR.mono x hV)⟩
theorem lL{id off len k:Nat}{cs:List AV}{opn:Bool}(h:H[id]? =some (.cells cs opn))(hl:off+len≤cs.length)(hh:AV.hfs ((cs.drop off).take len)=true)(ho:((cs.drop off).take len).all AV.one=true):
    fz H (k+1) (.sl id off len 0)=some (.vsl 0 false ((cs.drop off).take len)):=by
  unfold fz;rw[if_neg (by simp[AV.hf])];simp only[h,esz,Nat.mul_one];rw[if_pos hl,if_pos hh];simp only[Option.bind_some];rw[if_pos ho]
end
def aC(T:List (Nat×AV)):List (Nat×AV)→Prop
 | []=>True
 |(t,v)::r=>get T t=v∧aC T r
theorem uY{T:List (Nat×AV)}:∀{C:List (Nat×AV)},aC T C→∀t,get C t=.junk∨get T t=get C t:=by
 intro C;induction C with
 |nil=>intro _ t;exact .inl rfl
 |cons p r ih=>
  intro h t;obtain⟨s,v⟩:=p;simp only[aC]at h;simp only[get];by_cases e:s=t
  ·subst e;rw[if_pos rfl];exact .inr h.1
  ·rw[if_neg e];exact ih h.2 t
section
variable{P:Program} {n m:Nat} {R:Option Nat} {a:St} {Q:Ex→St→Prop}
theorem Rel.bG{k:Nat}{B:Bs k}{b:St}{act:Act}{w:World}(hT:aC a.T b.T)(hH:b.H=a.H)(hD:b.D=a.D)(r:Rel n B a act w):Rel n B b act w:=by
 obtain⟨F,μ,s,y,t⟩:=r;refine⟨F,μ,by rw[hH];exact s,y,⟨by rw[hD];exact t.defers,t.size,fun i=>?_⟩⟩;rcases uY hT i with h|h
 ·rw[h];exact .junk _
 ·rw[←h];exact t.slots i
theorem W.bG{c:Code}(C:List (Nat×AV))(hT:aC a.T C)(h:W P n m R c Q ⟨C,a.H,a.D⟩):W P n m R c Q a:=
 fun B act w r=>h B act w (r.bG (b:=⟨C,a.H,a.D⟩) hT rfl rfl)
theorem W.bc {c:Code} {X:Type} (C:X→List (Nat×AV)) (Hx:X→List OB) (ok:X→Prop) (ms:X→Nat) (x0:X) (hx:ok x0) (hT:aC a.T (C x0)) (hH:a.H=Hx x0)
    (round: ∀x,ok x→W P n m R c (ai (fun a'=> ∃y,ok y∧ms y<ms x∧aC a'.T (C y)∧a'.H=Hx y∧a'.D=a.D) Q) ⟨C x,Hx x,a.D⟩):W P n m R (.loop c) Q a:=by
  refine W.loop (X:=X) (fun x a'=>ok x∧aC a'.T (C x)∧a'.H=Hx x∧a'.D=a.D) ms x0 ⟨hx,hT,hH,rfl⟩ ?_;rintro x ⟨T,H,D⟩ ⟨h1,h2,h3,h4⟩;simp only at h2 h3 h4;subst h3;subst h4;refine W.bG (C x) h2 ((round x h1).mono ?_);intro ex b hq;cases ex with
  |normal=>obtain⟨y,q1,q2,q3,q4,q5⟩:=hq;exact⟨y,⟨q1,q3,q4,q5⟩,q2⟩
  |exit _=>exact hq
  |goto _=>exact hq
  |ret=>exact hq
  |panic _ _=>exact hq
theorem W.gX{x y:Code}(C:List (Nat×AV))(H':List OB)(h1:W P n m R x (ai (fun a'=>aC a'.T C∧a'.H=H'∧a'.D=a.D) Q) a)(h2:W P n m R y Q ⟨C,H',a.D⟩):W P n m R (.seq x y) Q a:=by
 refine .seq (h1.mono ?_);intro ex b hq;cases ex with
 |normal=>
  obtain⟨q1,rfl,q3⟩:=hq;refine W.bG C q1 ?_;rw[q3];exact h2
 |exit _=>exact hq
 |goto _=>exact hq
 |ret=>exact hq
 |panic _ _=>exact hq
theorem W.nO{x y:Code}(p:Prop)(C:List (Nat×AV))(H':List OB)(h1:W P n m R x (ai (fun a'=>p∧aC a'.T C∧a'.H=H'∧a'.D=a.D) Q) a)(h2:p→W P n m R y Q ⟨C,H',a.D⟩):W P n m R (.seq x y) Q a:=by
 refine .seq (h1.mono ?_);intro ex b hq;cases ex with
 |normal=>
  obtain⟨hp,q1,rfl,q3⟩:=hq;refine W.bG C q1 ?_;rw[q3];exact h2 hp
 |exit _=>exact hq
 |goto _=>exact hq
 |ret=>exact hq
 |panic _ _=>exact hq
theorem W.nP {c:Code} {X:Type} (C:X→List (Nat×AV)) (Hx:X→List OB) (ok:X→Prop) (ms:X→Nat) (x0:X) (hm: ∀x,m≤(Hx x).length) (hD:a.D=[]) (hx:ok x0) (hT:bz a.T (C x0)) (hh:cm (Hx x0).length (C x0)=true) (hH:bm (Hx x0).length a.H (Hx x0))
    (round: ∀x,ok x→W P n m R c (ai (fun a'=> ∃y,ok y∧ms y<ms x∧bz a'.T (C y)∧cm (Hx y).length (C y)=true∧bm (Hx y).length a'.H (Hx y)∧a'.D=[]) Q) ⟨C x,Hx x,[]⟩):W P n m R (.loop c) Q a:=by
  refine W.loop (X:=X) (fun x a'=>ok x∧bz a'.T (C x)∧cm (Hx x).length (C x)=true∧bm (Hx x).length a'.H (Hx x)∧a'.D=[]) ms x0 ⟨hx,hT,hh,hH,hD⟩ ?_;rintro x a' ⟨h1,h2,h3,h4,h5⟩;refine W.weaken ⟨C x,Hx x,[]⟩ ⟨h5,rfl⟩ (hm x) h2 h3 h4 ((round x h1).mono ?_);intro ex b hq;cases ex with
  |normal=>obtain⟨y,q1,q2,q3,q4,q5,q6⟩:=hq;exact⟨y,⟨q1,q3,q4,q5,q6⟩,q2⟩
  |exit _=>exact hq
  |goto _=>exact hq
  |ret=>exact hq
  |panic _ _=>exact hq
end
section
variable{P:Program} {t:TypeId} {k:IntKind}
theorem cU(a b:Int):aH P .lss t (.int k a) (.int k b)=some (.bool (decide (a<b))):=by simp[aH]
theorem ec(a b:Int):aH P .leq t (.int k a) (.int k b)=some (.bool (decide (a≤b))):=by simp[aH]
theorem iq(a b:Int):aH P .gtr t (.int k a) (.int k b)=some (.bool (decide (a>b))):=by simp[aH]
theorem cB(a b:Int):aH P .geq t (.int k a) (.int k b)=some (.bool (decide (a≥b))):=by simp[aH]
theorem dv(a b:Int):aH P .eql t (.int k a) (.int k b)=some (.bool (a==b)):=by simp[aH]
theorem ir(a b:Int):aH P .neq t (.int k a) (.int k b)=some (.bool (a !=b)):=by simp[aH]
theorem wrap64(a:Int)(h:-9223372036854775808≤a∧a<9223372036854775808):IntKind.wrap .i64 a=a:=by
 unfold IntKind.wrap;simp[IntKind.bits,IntKind.signed];omega
theorem dc(a b:Int)(h:-9223372036854775808≤a+b∧a+b<9223372036854775808):aH P .add t (.int .i64 a) (.int .i64 b)=some (.int .i64 (a+b)):=by simp[aH,wrap64 _ h]
theorem wy(a b:Int)(h:-9223372036854775808≤a - b∧a - b<9223372036854775808):aH P .sub t (.int .i64 a) (.int .i64 b)=some (.int .i64 (a - b)):=by simp[aH,wrap64 _ h]
theorem bt(n:Nat):idx (.int k (n:Int))=some n:=by simp[idx]
theorem nQ(a b:Bytes):aH P .eql t (.str a) (.str b)=some (.bool (a==b)):=by simp[aH]
theorem IY(a b:Bytes):aH P .neq t (.str a) (.str b)=some (.bool !(a==b)):=by simp[aH]
end
def AV.fit:AV→Prop
 | .str s=>s.length≤ay
 | .vsl _ _ es=>es.length≤ay
 |_=>True
theorem VR.fit{F:Nat→Nat→Prop}{w:World}{μ:Nat→Option Loc}{v:AV}{V:Value}(h:VR F w μ v V):v.fit:=by
 cases h<;>first|exact trivial|assumption
theorem VRs.fit{F:Nat→Nat→Prop}{w:World}{μ:Nat→Option Loc}{l:List AV}{L:List Value}(h:VRs F w μ l L):∀v∈l,v.fit:=by
 intro v hv;obtain⟨i,hi⟩:=List.mem_iff_getElem?.1 hv;obtain⟨V,_,h2⟩:=h.get hi;exact h2.fit
theorem ad.fit{P:Program}{f:FuncId}{args:List AV}{out:Out}(h:(∀v∈args,v.fit)→ad P f args out):ad P f args out:=
 fun F w Vs hlt hv=>h hv.fit F w Vs hlt hv
theorem kC(cs:List AV)(i:Nat)(v:AV):cz cs i [v]=cs.set i v:=rfl
def fC{α:Type}(f:α→α):Nat→List α→List α
 |0,l=>l
 |_,[]=>[]
 |i+1,x::l=>f x::fC f i l
theorem kD{α:Type}(f:α→α):∀(i:Nat) (l:List α),(fC f i l)[i]? =l[i]?
 |0,l=>by simp[fC]
 |i+1,[]=>rfl
 |i+1,x::l=>by simp only[fC,List.getElem?_cons_succ];exact kD f i l
theorem kE{α:Type}(f:α→α):∀(i:Nat) (l:List α) (x:α),l[i]? =some x→(fC f i l).set i (f x)=fC f (i+1) l
 |_,[],x,h=>by simp at h
 |0,y::l,x,h=>by simp at h;subst h;rfl
 |i+1,y::l,x,h=>by simp only[fC,List.set_cons_succ];rw[kE f i l x (by simpa using h)]
theorem sR{α:Type}(f:α→α):∀(i:Nat) (l:List α),l.length≤i→fC f i l=l.map f
 |0,[],_=>rfl
 |_+1,[],_=>rfl
 |0,x::l,h=>by simp at h
 |i+1,x::l,h=>by simp only[fC,List.map_cons];rw[sR f i l (by simpa using h)]
theorem sS{α:Type}(f:α→α):∀(i:Nat) (l:List α),(fC f i l).length=l.length
 |0,l=>by simp[fC]
 |_+1,[]=>rfl
 |i+1,x::l=>by simp only[fC,List.length_cons];rw[sS f i l]
theorem sU{α:Type}{l:List α}{i:Nat}{x:α}(h:l[i]? =some x):l.set i x=l:=by
 apply List.ext_getElem?;intro j;rw[List.getElem?_set];split
 ·rename_i e;subst e
  rw[if_pos (List.getElem?_eq_some_iff.1 h).1,h]
 ·rfl
theorem uZ(s:Bytes)(i:Nat)(x:UInt8):(av s).set i (aS x)=av (s.set i x):=by simp[av,List.map_set]
theorem nR{s:Bytes}{i:Nat}{x:UInt8}(h:s[i]? =some x):(av s)[i]? =some (aS x):=by simp[av,h]
theorem cK(s:Bytes):(av s).length=s.length:=by simp[av]
def isVal(o:Op):Bool:=
 match o with
 | .call c=>match c.callee with
  | .value _=>true
  |_=>false
 |_=>false
def FE(ops:Array Oper):Bool:=ops.toList.all fun o=>jI o.op||isVal o.op
theorem IZ{P:Program}{o:Op}{a:St}{r:AV×List OB}(h:(jI o||isVal o)=true)(he:evalOp P o a=some r):jI o=true:=by
 cases hr:jI o with
 |true=>rfl
 | false=>
  rw[hr]at h;simp only[Bool.false_or]at h;unfold isVal at h;split at h
  ·rename_i c
   split at h
   ·rename_i f hf
    simp only[evalOp,hf]at he;cases he
   ·cases h
  ·cases h
def EDr (P:Program) (ops:Array Oper) (Q:St→Prop):List CR→List Oper→St→Prop
 |_,[],a=>Q a
 | rs,o::rest,a=>match gdA ops ⟨only ops o a.T,a.H,a.D⟩ o.guard with
  |none=>False
  |some false=>EDr P ops Q rs rest (a.put o.dst (.tup []))
  | some true=>match ae ⟨only ops o a.T,a.H,a.D⟩ o.op with
   | some (f,args)=>match rs with
    | .pure (.ret r)::rs=>match f with
     | .fn f=>match aG a.H args (.ret r)with
      |some args'=>ad P f args' (.ret r)∧EDr P ops Q rs rest (a.put o.dst r)
      |none=>False
     |_=>False
    |_=>False
   | none=>match aa o.op with
    |some _=>False
    |none=>match evalOp P o.op ⟨only ops o a.T,a.H,a.D⟩with
     |some (v,_)=>EDr P ops Q rs rest (a.put o.dst v)
     |none=>False
section
variable{P:Program} {n m:Nat} {R:Option Nat} {a:St} {Q:Ex→St→Prop} {ops:Array Oper}
theorem gF{call:Cl→List AV→List OB→Option (Out×List OB)}(hf:fits n ops=true)(hc:eM P call){o:Oper}{v:AV}(h:dC P call ops a o=some (.val v a.H)):eX P n m R ops o a (.val v a.H):=
 eb hc hf h
open Classical in
theorem zX (hf:fits n ops=true) {o:Oper} (hr:(jI o.op||isVal o.op)=true) {Q':St→Prop} {rs:List CR} {rest:List Oper} (h:EDr P ops Q' rs (o::rest) a):
    ∃v rs',eX P n m R ops o ⟨only ops o a.T,a.H,a.D⟩ (.val v a.H)∧EDr P ops Q' rs' rest (a.put o.dst v):=by
  unfold EDr at h;split at h
  · exact h.elim
  · rename_i hg
    refine⟨_,rs,gF (call:=fun _ _ _=>none) (a:=⟨only ops o a.T,a.H,a.D⟩) hf (fun _ _ _ _ _ h=>by cases h) ?_,h⟩;simp[dC,hg]
  · rename_i hg
    split at h
    · rename_i f args hc
      split at h
      · rename_i r rs'
        split at h
        · rename_i f
          split at h
          · rename_i args' hl
            obtain⟨hp,hq⟩:=h;refine⟨r,rs',gF (call:=fun c x H=>if c=.fn f∧x=args∧H=a.H then some (.ret r,a.H)else none) (a:=⟨only ops o a.T,a.H,a.D⟩) hf ?_ ?_,hq⟩
            · intro c x H out H' hh
              simp only at hh;split at hh
              · rename_i hcond
                obtain⟨rfl,rfl,rfl⟩:=hcond;cases hh;exact ad.sh hl hp
              · cases hh
            · simp[dC,hg,hc]
          · exact h.elim
        · exact h.elim
      · exact h.elim
    · rename_i hc
      split at h
      · exact h.elim
      · rename_i hpn
        split at h
        · rename_i v H' hev
          have hrd:=IZ hr hev;have:H'=a.H:=pS (a:=⟨only ops o a.T,a.H,a.D⟩) hrd hev;subst this;refine⟨v,rs,gF (call:=fun _ _ _=>none) (a:=⟨only ops o a.T,a.H,a.D⟩) hf (fun _ _ _ _ _ h=>by cases h) ?_,h⟩;simp[dC,hg,hc,hpn,hev]
        · exact h.elim
theorem lN(hf:fits n ops=true){Q':St→Prop}: ∀{l:List Oper} {rs:List CR} {a:St},(l.all fun o=>jI o.op||isVal o.op)=true→EDr P ops Q' rs l a→
    ∃ (v:Nat→AV) (T:Nat→List (Nat×AV)),T 0=a.T∧Q' ⟨T l.length,a.H,a.D⟩∧ ∀(i:Nat) (o:Oper),l[i]? =some o→
      T (i+1)=(match o.dst with|none=>T i|some d=>(d,v i)::T i)∧eX P n m R ops o ⟨only ops o (T i),a.H,a.D⟩ (.val (v i) a.H):=by
  intro l;induction l with
  |nil=>intro rs a _ h;exact⟨fun _=>.junk,fun _=>a.T,rfl,h,by simp⟩
  | cons o l ih=>
    intro rs a hr h;simp only[List.all_cons,Bool.and_eq_true]at hr;obtain⟨v0,rs',h1,h2⟩:=zX (R:=R) (m:=m) hf hr.1 h;obtain⟨v,T,g1,g2,g3⟩:=ih hr.2 h2;have hH:(a.put o.dst v0).H=a.H:=by cases o.dst<;>rfl
    have hD:(a.put o.dst v0).D=a.D:=by cases o.dst<;>rfl
    rw[hH,hD]at g2;refine⟨fun i=>match i with|0=>v0|i+1=>v i,fun i=>match i with|0=>a.T|i+1=>T i,rfl,g2,?_⟩;intro i o' hi;cases i with
    | zero=>
      simp at hi;subst hi;refine⟨?_,h1⟩;show T 0=_;rw[g1];cases o.dst<;>rfl
    | succ i=>
      have:=g3 i o' (by simpa using hi);rw[hH,hD]at this;exact this
theorem W.draw{id:Nat}(rs:List CR)(hm:P.follows .mixedOrders=true)(hf:fits n ops=true)(hr:FE ops=true)(hst:eN ops (aW ops.toList [])=true)(h:EDr P ops (Q .normal) rs ops.toList a):W P n m R (.region id ops true) Q a:=by
  obtain⟨v,T,h0,hq,ht⟩:=lN (R:=R) (m:=m) hf hr h
  have hstI: ∀(i:Nat) (o:Oper),ops[i]? =some o→(o.after.toList.all (fun e=> !Region.binds .any e||decide (e.on<i))&&(aW ops.toList []).getD i 0==eg (aW ops.toList []) o&&
      (o.looksAt ops).all (fun t=>(List.range ops.size).all fun j=>match ops[j]? with|some o'=> !er o' t||((aW ops.toList []).getD i 0).testBit j|none=>true)&&
      (match o.dst with|none=>true|some d=>(List.range ops.size).all fun j=>j==i||match ops[j]? with|some o'=> !er o' d|none=>true))=true:=by
    intro i o ho;have:=aP hst i (Array.getElem?_eq_some_iff.1 ho).1;rw[ho]at this;exact this
  have ht': ∀(i:Nat) (o:Oper),ops[i]? =some o→_:=fun i o ho=>ht i o (by rw[Array.getElem?_toList];exact ho);refine W.sM (af:=a) v T (fun _=>a.H) (fun _=>false) (fun i j=>((aW ops.toList []).getD i 0).testBit j) hm hf h0 (fun i o ho=>(ht' i o ho).1) rfl ?_ ?_ ?_ ?_ ?_ ?_
  · intro i o e ho he hb
    have:=hstI i o ho;simp only[Bool.and_eq_true]at this;have h1:=List.all_eq_true.1 this.1.1.1 e (Array.mem_toList_iff.2 he);simpa[hb]using h1
  · intro i j o ho hj
    have:=hstI i o ho;simp only[Bool.and_eq_true,beq_iff_eq]at this;have h1:=this.1.1.2;simp only[h1]at hj;unfold eg at hj;rcases gE _ _ _ _ hj with h2|⟨e,he,hb,hje⟩
    · simp at h2
    · exact⟨e,Array.mem_toList_iff.1 he,hb,hje⟩
  · intro i o t j o' ho ht ho' hd
    have:=hstI i o ho;simp only[Bool.and_eq_true]at this;have h1:=aP (List.all_eq_true.1 this.1.2 t ht) j (Array.getElem?_eq_some_iff.1 ho').1;rw[ho']at h1;simpa[er,hd]using h1
  · intro i j o o' d ho ho' hd hd'
    have:=hstI i o ho;simp only[Bool.and_eq_true,hd]at this;have h1:=aP this.2 j (Array.getElem?_eq_some_iff.1 ho').1;rw[ho']at h1;have:j=i:=by simpa[er,hd']using h1
    exact this.symm
  · intro i o k ho _ _
    exact(ht' i o ho).2
  · rw[←Array.length_toList];exact hq
end
end Go.Av
