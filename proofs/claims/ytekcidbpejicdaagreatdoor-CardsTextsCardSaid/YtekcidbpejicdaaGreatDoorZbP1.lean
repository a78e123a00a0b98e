/- A framework of abstract values: no program in sight; under the conditions named at each theorem. -/
import Derived.Scope
import Derived.Below
import Derived.ScopeJumps
import Derived.RangeFuncLeaves
import Derived.Laws.Cells
import Derived.Lib.IndexBytes
import Derived.Lib.ConvBytes
import Derived.Laws.BytesString
import Derived.IntWalk
namespace Go.Av
set_option linter.unusedVariables false
set_option linter.unusedSimpArgs false
abbrev Bytes:=List UInt8
inductive AV where
 |junk
 |bool (b:Bool)
 |int (k:IntKind) (n:Int)
 |str (s:Bytes)
 |nilptr
 |ptr (id off:Nat)
 |vptr (cells:List AV)
 |sl (id off len wd:Nat)
 |vsl (wd:Nat) (exact:Bool) (elems:List AV)
 |nilmap
 |nilsl
 |map (id:Nat)
 |vmap (keys vals:List AV)
 |func (fn:Fn) (first captured:List AV)
 |nilfunc
 |iface (t:TypeId) (v:AV)
 |nilif
 |agg (l:List AV)
 |tup (l:List AV)
 |yld (id:Nat)
 deriving Inhabited
def AV.cells:AV→List AV
 | .agg l=>l
 |v=>[v]
def esz:Nat→Nat
 |0=>1
 |n+1=>n
structure Loc where
 block:Nat
 off:Nat
 cap:Nat
def ay:Nat:=9223372036854775807
structure CS (es:List MapEntry) (clock:Nat):Prop where
 lt:∀e∈es,e.born<clock
 own:(es.map (·.born)).Nodup
section
variable(F:Nat→Nat→Prop) (w:World) (μ:Nat→Option Loc)
mutual
inductive VR:AV→Value→Prop
  |junk (V:Value):VR .junk V
  |bool (b:Bool):VR (.bool b) (.bool b)
  |int (k:IntKind) (n:Int):VR (.int k n) (.int k n)
  |str (s:Bytes) (hb:s.length≤ay):VR (.str s) (.string ⟨s.toArray⟩)
  |nilptr:VR .nilptr (.pointer none)
  |ptr (id off:Nat) (L:Loc) (h:μ id=some L):VR (.ptr id off) (.pointer (some ⟨L.block,L.off+off,none⟩))
  |vptr (cs:List AV) (b o:Nat) (h:VRm cs b o):VR (.vptr cs) (.pointer (some ⟨b,o,none⟩))
  |sl (id off len wd cap:Nat) (L:Loc) (h:μ id=some L) (hc:off+cap*esz wd=L.cap) (hl:len≤cap) (hb:len≤ay):
      VR (.sl id off len wd) (.slice (some ⟨L.block,L.off+off,none⟩) len cap)
  |vsl (wd:Nat) (x:Bool) (es:List AV) (A:Option Addr) (cap:Nat) (hx:x=true→cap=es.length) (hl:es.length≤cap) (hb:es.length≤ay) (h:VRa es (esz wd) A):
      VR (.vsl wd x es) (.slice A es.length cap)
  |nilmap:VR .nilmap (.map none)
  |nilsl:VR .nilsl (.slice none 0 0)
  |map (id:Nat) (L:Loc) (h:μ id=some L):VR (.map id) (.map (some L.block))
  |vmap (ks vs:List AV) (r:Nat) (es:Array MapEntry) (clock:Nat) (hF:F r 0) (hr:w.heap[r]? =some (.map es clock)) (hb:CS es.toList clock) (h:VRk ks vs es.toList):
      VR (.vmap ks vs) (.map (some r))
  |func (fn:Fn) (fs cs:List AV) (Fs Cs:Array Value) (hf:VRs fs Fs.toList) (hc:VRs cs Cs.toList):VR (.func fn fs cs) (.func fn Fs Cs)
  |nilfunc:VR .nilfunc .nilFunc
  |iface (t:TypeId) (v:AV) (V:Value) (h:VR v V):VR (.iface t v) (.iface t V)
  |nilif:VR .nilif .nilIface
  |agg (l:List AV) (A:Array Value) (h:VRs l A.toList):VR (.agg l) (.agg A)
  |tup (l:List AV) (A:Array Value) (h:VRs l A.toList):VR (.tup l) (.tuple A)
  |yld (id:Nat) (L:Loc) (h:μ id=some L):VR (.yld id) (.func (.yield L.block) #[] #[])
inductive VRs:List AV→List Value→Prop
  |nil:VRs [] []
  |cons (v:AV) (V:Value) (vs:List AV) (Vs:List Value) (h:VR v V) (t:VRs vs Vs):VRs (v::vs) (V::Vs)
inductive VRm:List AV→Nat→Nat→Prop
  |nil (b o:Nat):VRm [] b o
  |cons (v:AV) (V:Value) (vs:List AV) (b o:Nat) (hF:F b o) (hc:w.cell? ⟨b,o,none⟩=some V) (h:VR v V) (t:VRm vs b (o+1)):VRm (v::vs) b o
inductive VRe:List AV→Nat→Nat→Nat→Prop
  |nil (size b o:Nat):VRe [] size b o
  |cons (v:AV) (vs:List AV) (size b o:Nat) (hs:v.cells.length=size) (h:VRm v.cells b o) (t:VRe vs size b (o+size)):VRe (v::vs) size b o
inductive VRa:List AV→Nat→Option Addr→Prop
  |nil (size:Nat) (A:Option Addr):VRa [] size A
  |at (es:List AV) (size b o:Nat) (h:VRe es size b o):VRa es size (some ⟨b,o,none⟩)
inductive VRk:List AV→List AV→List MapEntry→Prop
  |nil:VRk [] [] []
  |cons (k v:AV) (ks vs:List AV) (e:MapEntry) (es:List MapEntry) (hk:VR k e.key) (hv:VR v e.val) (t:VRk ks vs es):VRk (k::ks) (v::vs) (e::es)
end
end
structure Ext (F:Nat→Nat→Prop) (w:World) (μ:Nat→Option Loc) (F':Nat→Nat→Prop) (w':World) (μ':Nat→Option Loc):Prop where
 mu:∀id L,μ id=some L→μ' id=some L
 fr:∀b o,F b o→F' b o
 cell:∀b o V,F b o→w.cell? ⟨b,o,none⟩=some V→w'.cell? ⟨b,o,none⟩=some V
 obj:∀b es c,F b 0→w.heap[b]? =some (.map es c)→w'.heap[b]? =some (.map es c)
theorem Ext.refl(F:Nat→Nat→Prop)(w:World)(μ:Nat→Option Loc):Ext F w μ F w μ:=⟨fun _ _ h=>h,fun _ _ h=>h,fun _ _ _ _ h=>h,fun _ _ _ _ h=>h⟩
theorem Ext.trans{F F1 F2:Nat→Nat→Prop}{w w1 w2:World}{μ μ1 μ2:Nat→Option Loc}(h:Ext F w μ F1 w1 μ1)(k:Ext F1 w1 μ1 F2 w2 μ2):Ext F w μ F2 w2 μ2:=
 ⟨fun id L e=>k.mu _ _ (h.mu _ _ e),fun b o e=>k.fr _ _ (h.fr _ _ e),fun b o V f e=>k.cell _ _ _ (h.fr _ _ f) (h.cell _ _ _ f e),fun b es c f e=>k.obj _ _ _ (h.fr _ _ f) (h.obj _ _ _ f e)⟩
section
variable{F F':Nat→Nat→Prop} {w w':World} {μ μ':Nat→Option Loc}
mutual
theorem VR.mono(x:Ext F w μ F' w' μ'){v:AV}{V:Value}:VR F w μ v V→VR F' w' μ' v V
 | .junk V=>.junk V
 | .bool b=>.bool b
 | .int k n=>.int k n
 | .str s hb=>.str s hb
 | .nilptr=>.nilptr
 | .ptr id off L h=>.ptr id off L (x.mu _ _ h)
 | .vptr cs b o h=>.vptr cs b o (VRm.mono x h)
 | .sl id off len wd cap L h hc hl hb=>.sl id off len wd cap L (x.mu _ _ h) hc hl hb
 | .vsl wd e es A cap hx hl hb h=>.vsl wd e es A cap hx hl hb (VRa.mono x h)
 | .nilmap=>.nilmap
 | .nilsl=>.nilsl
 | .map id L h=>.map id L (x.mu _ _ h)
 | .vmap ks vs r es clock hF hr hb h=>.vmap ks vs r es clock (x.fr _ _ hF) (x.obj _ _ _ hF hr) hb (VRk.mono x h)
 | .func fn fs cs Fs Cs hf hc=>.func fn fs cs Fs Cs (VRs.mono x hf) (VRs.mono x hc)
 | .nilfunc=>.nilfunc
 | .iface t v V h=>.iface t v V (VR.mono x h)
 | .nilif=>.nilif
 | .agg l A h=>.agg l A (VRs.mono x h)
 | .tup l A h=>.tup l A (VRs.mono x h)
 | .yld id L h=>.yld id L (x.mu _ _ h)
theorem VRs.mono(x:Ext F w μ F' w' μ'){vs:List AV}{Vs:List Value}:VRs F w μ vs Vs→VRs F' w' μ' vs Vs
 | .nil=>.nil
 | .cons v V vs Vs h t=>.cons v V vs Vs (VR.mono x h) (VRs.mono x t)
theorem VRm.mono(x:Ext F w μ F' w' μ'){vs:List AV}{b o:Nat}:VRm F w μ vs b o→VRm F' w' μ' vs b o
 | .nil b o=>.nil b o
 | .cons v V vs b o hF hc h t=>.cons v V vs b o (x.fr _ _ hF) (x.cell _ _ _ hF hc) (VR.mono x h) (VRm.mono x t)
theorem VRe.mono(x:Ext F w μ F' w' μ'){vs:List AV}{size b o:Nat}:VRe F w μ vs size b o→VRe F' w' μ' vs size b o
 | .nil s b o=>.nil s b o
 | .cons v vs s b o hs h t=>.cons v vs s b o hs (VRm.mono x h) (VRe.mono x t)
theorem VRa.mono(x:Ext F w μ F' w' μ'){vs:List AV}{size:Nat}{A:Option Addr}:VRa F w μ vs size A→VRa F' w' μ' vs size A
 | .nil s A=>.nil s A
 | .at es s b o h=>.at es s b o (VRe.mono x h)
theorem VRk.mono(x:Ext F w μ F' w' μ'){ks vs:List AV}{es:List MapEntry}:VRk F w μ ks vs es→VRk F' w' μ' ks vs es
 | .nil=>.nil
 | .cons k v ks vs e es hk hv t=>.cons k v ks vs e es (VR.mono x hk) (VR.mono x hv) (VRk.mono x t)
end
end
open Go.RowKit (Below)
structure cW where
 n:Nat
 ps:Array Tmp
 assign:Code
 body:Code
 st:LoopState
 pend:Option Code
inductive OB where
 |cells (cs:List AV) (opn:Bool)
 |map (ks vs:List AV)
 |loop (T:List (Nat×AV)) (K:cW)
 |dfr
 |iter (ks vs:List AV) (seen:List Nat)
 |siter (s:Bytes) (pos:Nat)
 |dead
 deriving Inhabited
inductive DE where
 |mark (id:Nat)
 |call (fn:Fn) (caps args:List AV)
 deriving Inhabited
structure St where
 T:List (Nat×AV)
 H:List OB
 D:List DE
def St.put(a:St)(d:Option Nat)(v:AV):St:=
 match d with
 |none=>a
 |some d=>{a with T:=(d,v)::a.T}
def get(T:List (Nat×AV))(t:Nat):AV:=
 match T with
 | []=>.junk
 |(i,v)::r=>if i=t then v else get r t
def ofV:Value→AV
 | .bool b=>.bool b
 | .int k n=>.int k n
 | .string s=>if s.size≤ay then .str s.data.toList else .junk
 | .pointer none=>.nilptr
 | .slice none l c=>if l=0∧c=0 then .vsl 0 true []else .junk
 | .map none=>.nilmap
 | .nilFunc=>.nilfunc
 | .nilIface=>.nilif
 | .func fn f c=>if f= #[]∧c= #[]then .func fn [] []else .junk
 |_=>.junk
def St.ev(a:St):Operand→AV
 | .tmp t=>get a.T t
 | .const v=>ofV v
 | .func f=>.func (.func f) [] []
 | .global _=>.junk
inductive OBR (B0:Nat) (F:Nat→Nat→Prop) (w:World) (μ:Nat→Option Loc) (id:Nat):OB→Prop
  |cells (cs:List AV) (opn:Bool) (L:Loc) (c:Array Value) (el:TypeId) (lo hi:Nat) (hμ:μ id=some L) (hB:B0≤L.block)
      (hw:w.heap[L.block]? =some (.cells c el (lo,hi))) (hcap:L.off+L.cap≤c.size) (hlen:cs.length≤L.cap) (hfix:opn=false→L.cap=cs.length)
      (hun: ∀o,L.off≤o→o<L.off+L.cap→ ¬(lo≤o∧o<hi))
      (hcs: ∀i v,cs[i]? =some v→ ∃V,c[L.off+i]? =some V∧VR F w μ v V) (hF: ∀o,¬F L.block o):OBR B0 F w μ id (.cells cs opn)
  |map (ks vs:List AV) (L:Loc) (es:Array MapEntry) (clock:Nat) (hμ:μ id=some L) (hB:B0≤L.block)
      (hw:w.heap[L.block]? =some (.map es clock)) (hes:VRk F w μ ks vs es.toList) (hb:CS es.toList clock) (hF: ∀o,¬F L.block o):OBR B0 F w μ id (.map ks vs)
  |loop (T:List (Nat×AV)) (K:cW) (L:Loc) (rec:Loop) (hμ:μ id=some L) (hB:B0≤L.block)
      (hw:w.heap[L.block]? =some (.loop rec)) (hps:rec.params=K.ps) (has:rec.assign=K.assign) (hbd:rec.body=K.body) (hst:rec.state=K.st) (hpe:rec.pending=K.pend)
      (hn:rec.tmps.size=K.n) (hT: ∀t,VR F w μ (get T t) (rec.tmps.getD t undef)) (hF: ∀o,¬F L.block o):OBR B0 F w μ id (.loop T K)
  |dfr (L:Loc) (hμ:μ id=some L) (hB:B0≤L.block) (hw:w.heap[L.block]? =some (.deferred (some []))) (hF: ∀o,¬F L.block o):OBR B0 F w μ id .dfr
  |iter (ks vs:List AV) (seen:List Nat) (L:Loc) (m:Nat) (es:Array MapEntry) (clock:Nat) (ss:Array Nat) (hμ:μ id=some L) (hB:B0≤L.block) (h0:L.off=0)
      (hw:w.heap[L.block]? =some (.mapIter (some m) clock ss clock)) (hm:F m 0) (hmw:w.heap[m]? =some (.map es clock)) (hb:CS es.toList clock) (hk:VRk F w μ ks vs es.toList)
      (hss:ss.toList.map some=seen.map (fun j=>(es.toList[j]?).map (·.born))) (hF: ∀o,¬F L.block o):OBR B0 F w μ id (.iter ks vs seen)
  |siter (s:Bytes) (pos:Nat) (L:Loc) (hμ:μ id=some L) (hB:B0≤L.block) (h0:L.off=0)
      (hw:w.heap[L.block]? =some (.stringIter ⟨s.toArray⟩ pos)) (hb:s.length≤ay) (hF: ∀o,¬F L.block o):OBR B0 F w μ id (.siter s pos)
  |dead:OBR B0 F w μ id .dead
def OB.live:OB→Bool
 | .dead=>false
 |_=>true
structure Sim (w0:World) (F0 F:Nat→Nat→Prop) (μ:Nat→Option Loc) (H:List OB) (w:World):Prop where
 below:Below w0.heap.size w0 w
 new:∀b o,F0 b o→F b o
 old:∀b o,b<w0.heap.size→F b o→F0 b o
 lt:∀b o,F b o→b<w.heap.size
 obs:∀id blk,H[id]? =some blk→OBR w0.heap.size F w μ id blk
 apart:∀i j bi bj Li Lj,H[i]? =some bi→H[j]? =some bj→bi.live=true→bj.live=true→μ i=some Li→μ j=some Lj→i≠j→Li.block≠Lj.block
 dom:∀id L,μ id=some L→id<H.length
inductive VD (F:Nat→Nat→Prop) (w:World) (μ:Nat→Option Loc):List DE→List Deferred→Prop
  |nil:VD F w μ [] []
  |cons (id:Nat) (L:Loc) (D:List DE) (ds:List Deferred) (h:μ id=some L) (t:VD F w μ D ds):VD F w μ (.mark id::D) ({target:=.collected L.block,args:= #[]}::ds)
  |call (fn:Fn) (cs as:List AV) (Cs As:Array Value) (D:List DE) (ds:List Deferred) (hc:VRs F w μ cs Cs.toList) (ha:VRs F w μ as As.toList) (t:VD F w μ D ds):
      VD F w μ (.call fn cs as::D) ({target:=.fn fn Cs,args:=As}::ds)
theorem VD.mono{F F':Nat→Nat→Prop}{w w':World}{μ μ':Nat→Option Loc}{D:List DE}{ds:List Deferred}(h:VD F w μ D ds)(x:Ext F w μ F' w' μ'):VD F' w' μ' D ds:=by
 induction h with
 |nil=>exact .nil
 |cons id L D ds h _ ih=>exact .cons id L D ds (x.mu _ _ h) ih
 |call fn cs as Cs As D ds hc ha _ ih=>exact .call fn cs as Cs As D ds (VRs.mono x hc) (VRs.mono x ha) ih
structure cd (n:Nat) (F:Nat→Nat→Prop) (μ:Nat→Option Loc) (a:St) (act:Act) (w:World):Prop where
 defers:VD F w μ a.D act.defers
 size:act.tmps.size=n
 slots:∀t,VR F w μ (get a.T t) (act.tmps.getD t undef)
inductive Ex where
 |normal
 |exit (id:Nat)
 |goto (l:Nat)
 |ret
 |panic (t:TypeId) (v:AV)
inductive ExR (F:Nat→Nat→Prop) (w:World) (μ:Nat→Option Loc):Ex→Exit→Prop
 |normal:ExR F w μ .normal .normal
 |exit (id:Nat):ExR F w μ (.exit id) (.exit id)
 |goto (l:Nat):ExR F w μ (.goto l) (.goto l)
 |ret:ExR F w μ .ret .ret
 |panic (t:TypeId) (v:AV) (V:Value) (h:VR F w μ v V):ExR F w μ (.panic t v) (.panic [{v:=.iface t V,recovered:=false}])
structure Bs (m:Nat)where
 w0:World
 F0:Nat→Nat→Prop
 ws:World
 Fs:Nat→Nat→Prop
 μs:Nat→Option Loc
 dom:∀id L,μs id=some L→id<m
def Rel(n:Nat){m:Nat}(B:Bs m)(a:St)(act:Act)(w:World):Prop:=
 ∃F μ,Sim B.w0 B.F0 F μ a.H w∧Ext B.Fs B.ws B.μs F w μ∧cd n F μ a act w
def dX(n:Nat){m:Nat}(B:Bs m)(Q:Ex→St→Prop)(e:Exit)(act:Act)(w:World):Prop:=
 ∃ex a F μ,Q ex a∧ExR F w μ ex e∧Sim B.w0 B.F0 F μ a.H w∧Ext B.Fs B.ws B.μs F w μ∧cd n F μ a act w
def fnc(R:Option Nat):Fence:={Fence.wide with round:=R}
def W(P:Program)(n m:Nat)(R:Option Nat)(c:Code)(Q:Ex→St→Prop)(a:St):Prop:=
 ∀(B:Bs m) act w,Rel n B a act w→c.wpIn (fnc R) 1 P (dX n B Q) act w
section
variable{P:Program} {n m:Nat} {R:Option Nat} {Q Q':Ex→St→Prop} {a b:St}
theorem W.mono{c:Code}(h:W P n m R c Q a)(hq:∀ex a,Q ex a→Q' ex a):W P n m R c Q' a:=
 fun B act w r=>wpIn_mono (h B act w r) fun _ _ _ ⟨ex,a',F,μ,q,x⟩=>⟨ex,a',F,μ,hq _ _ q,x⟩
theorem dX.of{B:Bs m}{act:Act}{w:World}{ex:Ex}{e:Exit}(hr:Rel n B a act w)(hq:Q ex a)(hx: ∀F μ,ExR F w μ ex e):
    dX n B Q e act w:=let ⟨F,μ,s,y,t⟩:=hr;⟨ex,a,F,μ,hq,hx F μ,s,y,t⟩
theorem W.skip(h:Q .normal a):W P n m R .skip Q a:=fun B act w r=>wpIn_skip (.of r h fun _ _=>.normal)
theorem W.label{l:Nat}(h:Q .normal a):W P n m R (.label l) Q a:=fun B act w r=>wpIn_label (.of r h fun _ _=>.normal)
theorem W.exit{id:Nat}(h:Q (.exit id) a):W P n m R (.exit id) Q a:=fun B act w r=>wpIn_exit (.of r h fun _ _=>.exit id)
theorem W.goto{l:Nat}(h:Q (.goto l) a):W P n m R (.goto l) Q a:=fun B act w r=>wpIn_goto (.of r h fun _ _=>.goto l)
theorem W.ret(h:Q .ret a):W P n m R .ret Q a:=fun B act w r=>wpIn_ret (.of r h fun _ _=>.ret)
def ai(next:St→Prop)(Q:Ex→St→Prop):Ex→St→Prop
 | .normal,a=>next a
 |ex,a=>Q ex a
theorem W.seq{x y:Code}(h:W P n m R x (ai (W P n m R y Q) Q) a):W P n m R (.seq x y) Q a:=by
 intro B act w r;refine wpIn_seq (wpIn_mono (h B act w r) ?_);rintro e act' w' ⟨ex,a',F,μ,q,x,s,y,t⟩;cases x with
 |normal=>exact q B act' w' ⟨F,μ,s,y,t⟩
 |exit id=>exact⟨_,a',F,μ,q,.exit id,s,y,t⟩
 |goto l=>exact⟨_,a',F,μ,q,.goto l,s,y,t⟩
 |ret=>exact⟨_,a',F,μ,q,.ret,s,y,t⟩
 |panic t v V h=>exact⟨_,a',F,μ,q,.panic t v V h,s,y,‹_›⟩
theorem cd.ev{F:Nat→Nat→Prop}{μ:Nat→Option Loc}{act:Act}{w:World}(h:cd n F μ a act w)(x:Operand):VR F w μ (a.ev x) (act.eval x):=by
 cases x with
 |tmp t=>exact h.slots t
 | const v=>
  simp only[St.ev,Act.eval];cases v with
  |bool b=>exact .bool _
  |int k n=>exact .int _ _
  | string s=>
   simp only[ofV];split
   ·rename_i hs
    have:=VR.str (F:=F) (w:=w) (μ:=μ) s.data.toList (by rw[Array.length_toList];exact hs);simpa using this
   ·exact .junk _
  |pointer p=>cases p with
   |none=>exact .nilptr
   |some p=>exact .junk _
  | slice p l c=>cases p with
   |none=>
    simp only[ofV];split
    ·rename_i h;obtain⟨rfl,rfl⟩:=h;exact .vsl 0 true [] none 0 (fun _=>rfl) (Nat.le_refl _) (Nat.zero_le _) (.nil _ _)
    ·exact .junk _
   |some p=>exact .junk _
  |map p=>cases p with
   |none=>exact .nilmap
   |some p=>exact .junk _
  |nilFunc=>exact .nilfunc
  |nilIface=>exact .nilif
  |func fn f c=>
   simp only[ofV];split
   ·rename_i h;obtain⟨rfl,rfl⟩:=h;exact .func _ [] [] #[] #[] .nil .nil
   ·exact .junk _
  |float k b=>exact .junk _
  |complex k b d=>exact .junk _
  |chan r=>exact .junk _
  |iface t v=>exact .junk _
  |agg c=>exact .junk _
  |tuple c=>exact .junk _
 |func f=>exact .func _ [] [] #[] #[] .nil .nil
 |global g=>exact .junk _
theorem W.cond{c:Operand}{x y:Code}{t:Bool}(hc:a.ev c=.bool t)(h:W P n m R (if t then x else y) Q a):W P n m R (.cond c x y) Q a:=by
 intro B act w r;obtain⟨F,μ,s,y,ht⟩:=r;have hv:=ht.ev c;rw[hc]at hv;generalize hV:act.eval c=V at hv;cases hv;exact wpIn_cond hV (h B act w ⟨F,μ,s,y,ht⟩)
def aO(id:Nat)(Q:Ex→St→Prop):Ex→St→Prop
 | .exit id',a=>if id'=id then Q .normal a else Q (.exit id') a
 |ex,a=>Q ex a
theorem W.block{id:Nat}{c:Code}(h:W P n m R c (aO id Q) a):W P n m R (.block id c) Q a:=by
 intro B act w r;refine wpIn_block (wpIn_mono (h B act w r) ?_);rintro e act' w' ⟨ex,a',F,μ,q,x,s,y,t⟩;cases x with
 |normal=>exact⟨_,a',F,μ,q,.normal,s,y,t⟩
 |exit id'=>
  simp only[Exit.inBlock];simp only[aO]at q;by_cases hid:id'=id
  ·rw[if_pos hid]at q ⊢;exact⟨_,a',F,μ,q,.normal,s,y,t⟩
  ·rw[if_neg hid]at q ⊢;exact⟨_,a',F,μ,q,.exit id',s,y,t⟩
 |goto l=>exact⟨_,a',F,μ,q,.goto l,s,y,t⟩
 |ret=>exact⟨_,a',F,μ,q,.ret,s,y,t⟩
 |panic t v V h=>exact⟨_,a',F,μ,q,.panic t v V h,s,y,‹_›⟩
theorem W.loop {c:Code} {X:Type} (I:X→St→Prop) (ms:X→Nat) (x0:X) (h0:I x0 a)
    (round: ∀x a,I x a→W P n m R c (ai (fun a'=> ∃y,I y a'∧ms y<ms x) Q) a):W P n m R (.loop c) Q a:=by
  intro B act w r;intro fb k cs hro hb hr
  have key: ∀N x a act w,ms x=N→I x a→Rel n B a act w→
      ∃e act' w',dX n B Q e act' w'∧ArrivesIn (Machine.fenced P (fnc R)) P (lone (fb.atR act (.code c::.inLoop c::k)) cs w) fb k cs e act' w':=by
    intro N;induction N using Nat.strongRecOn with
    | _ N ih=>
      intro x a act w hN hI hrel;obtain⟨e,act₁,w₁,hq,harr⟩:=round x a hI B act w hrel fb (.inLoop c::k) cs hro hb hr;obtain⟨ex,a',F,μ,q,hx,s,y,t⟩:=hq;cases hx with
      | normal=>
        obtain⟨x',hIy,hlt⟩:=q;obtain⟨e₂,a₂,w₂,hq₂,harr₂⟩:=ih (ms x') (hN ▸ hlt) x' a' act₁ w₁ rfl hIy ⟨F,μ,s,y,t⟩;exact⟨e₂,a₂,w₂,hq₂,.of_steps (StepsIn.trans harr (.one (fenced_calm hb hr rfl) stepR_inLoop)) harr₂⟩
      |exit id=>exact⟨_,act₁,w₁,⟨_,a',F,μ,q,.exit id,s,y,t⟩,.pass (x:=.inLoop c) rfl (fun _ _=>.inl (by simp)) harr⟩
      |goto l=>exact⟨_,act₁,w₁,⟨_,a',F,μ,q,.goto l,s,y,t⟩,.pass (x:=.inLoop c) rfl (fun _ _=>.inl (by simp)) harr⟩
      |ret=>exact⟨_,act₁,w₁,⟨_,a',F,μ,q,.ret,s,y,t⟩,.pass (x:=.inLoop c) rfl (fun _ _=>.inl (by simp)) harr⟩
      |panic t v V h=>exact⟨_,act₁,w₁,⟨_,a',F,μ,q,.panic t v V h,s,y,‹_›⟩,.pass (x:=.inLoop c) rfl (fun _ _=>.inl (by simp)) harr⟩
  obtain⟨e,act',w',hq,harr⟩:=key _ x0 a act w rfl h0 r;exact⟨e,act',w',hq,.of_steps (.one (fenced_calm hb hr rfl) stepR_loop) harr⟩
def lD(l:Nat)(J:St→Prop)(Q:Ex→St→Prop):Ex→St→Prop
 | .goto l',a=>l'=l∧J a
 |ex,a=>Q ex a
def ki(Q:Ex→St→Prop):Ex→St→Prop
 | .goto _,_=>False
 |ex,a=>Q ex a
theorem W.ey{c:Code}(h:W P n m none c (ki Q) a):W P n m none (.scope c) Q a:=by
 intro B act w r;refine wpIn_wide.2 (wp_scope_straight (wp_mono (wpIn_wide.1 (h B act w r)) ?_));rintro e act' w' ⟨ex,a',F,μ,q,x,s,y,t⟩;cases x with
 |normal=>exact⟨_,a',F,μ,q,.normal,s,y,t⟩
 |exit id'=>exact⟨_,a',F,μ,q,.exit id',s,y,t⟩
 |goto l=>exact q.elim
 |ret=>exact⟨_,a',F,μ,q,.ret,s,y,t⟩
 |panic t v V h=>exact⟨_,a',F,μ,q,.panic t v V h,s,y,‹_›⟩
theorem W.scope{c rest:Code}(l:Nat)(hf:findLabel c l=some rest)(h:W P n m none c (lD l (W P n m none rest (ki Q)) Q) a):W P n m none (.scope c) Q a:=by
 intro B act w r;refine wpIn_wide.2 (wp_scope_jumps l (fun act w=>∃a,Rel n B a act w∧W P n m none rest (ki Q) a) (fun _ _=>0) hf (wp_mono (wpIn_wide.1 (h B act w r)) ?_) ?_)
 ·rintro e act' w' ⟨ex,a',F,μ,q,x,s,y,t⟩
  cases x with
  |normal=>exact⟨_,a',F,μ,q,.normal,s,y,t⟩
  |exit id'=>exact⟨_,a',F,μ,q,.exit id',s,y,t⟩
  |goto l'=>exact⟨q.1,a',⟨F,μ,s,y,t⟩,q.2⟩
  |ret=>exact⟨_,a',F,μ,q,.ret,s,y,t⟩
  |panic t v V h=>exact⟨_,a',F,μ,q,.panic t v V h,s,y,‹_›⟩
 ·rintro act w ⟨a,hr,hw⟩
  refine wp_mono (wpIn_wide.1 (hw B act w hr)) ?_;rintro e act' w' ⟨ex,a',F,μ,q,x,s,y,t⟩;cases x with
  |normal=>exact⟨_,a',F,μ,q,.normal,s,y,t⟩
  |exit id'=>exact⟨_,a',F,μ,q,.exit id',s,y,t⟩
  |goto l=>exact q.elim
  |ret=>exact⟨_,a',F,μ,q,.ret,s,y,t⟩
  |panic t v V h=>exact⟨_,a',F,μ,q,.panic t v V h,s,y,‹_›⟩
end
section
variable{w0:World} {F0 F:Nat→Nat→Prop} {μ:Nat→Option Loc} {H:List OB} {w:World}
theorem dH(w:World)(b o:Nat)(c:Array Value)(el:TypeId)(fz:Nat×Nat)(h:w.heap[b]? =some (.cells c el fz)):w.cell? ⟨b,o,none⟩=c[o]?:=by
 simp[World.cell?,h]
theorem uC{w:World}{b o:Nat}{V:Value}(h:w.cell? ⟨b,o,none⟩=some V):∃c el fz,w.heap[b]? =some (.cells c el fz)∧c[o]? =some V:=by
 unfold World.cell? at h;split at h
 ·rename_i c el fz hc;exact⟨c,el,fz,hc,by simpa using h⟩
 ·cases h
theorem Sim.same{w':World}(s:Sim w0 F0 F μ H w)(hh:w'.heap=w.heap)(ho:w'.os=w.os)(ht:w'.tape=w.tape)(hu:w'.output=w.output):
    Ext F w μ F w' μ∧Sim w0 F0 F μ H w':=by
  have x:Ext F w μ F w' μ:=⟨fun _ _ h=>h,fun _ _ h=>h,fun b o V _ h=>by simpa[World.cell?,hh]using h,fun b es c _ h=>by rw[hh];exact h⟩
  refine⟨x,⟨⟨by rw[ho];exact s.below.os,by rw[ht];exact s.below.tape,by rw[hu];exact s.below.output,by rw[hh];exact s.below.size,fun k hk=>by rw[hh];exact s.below.block k hk⟩,
    s.new,s.old,fun b o h=>by rw[hh];exact s.lt b o h,?_,s.apart,s.dom⟩⟩
  intro id blk h;cases s.obs id blk h with
  | cells cs opn L c el lo hi hμ hB hw hcap hlen hfix hun hcs hF=>
    exact .cells cs opn L c el lo hi hμ hB (by rw[hh];exact hw) hcap hlen hfix hun (fun i v hi=>let ⟨V,h1,h2⟩:=hcs i v hi;⟨V,h1,VR.mono x h2⟩) hF
  |map ks vs L es clock hμ hB hw hes hb hF=>exact .map ks vs L es clock hμ hB (by rw[hh];exact hw) (VRk.mono x hes) hb hF
  |loop T K L rec hμ hB hw h1 h2 h3 h4 h5 h6 hT hF=>exact .loop T K L rec hμ hB (by rw[hh];exact hw) h1 h2 h3 h4 h5 h6 (fun t=>VR.mono x (hT t)) hF
  |dfr L hμ hB hw hF=>exact .dfr L hμ hB (by rw[hh];exact hw) hF
  |iter ks vs seen L m es clock ss hμ hB h0 hw hm hmw hb hk hss hF=>exact .iter ks vs seen L m es clock ss hμ hB h0 (by rw[hh];exact hw) hm (by rw[hh];exact hmw) hb (VRk.mono x hk) hss hF
  |siter s pos L hμ hB h0 hw hb hF=>exact .siter s pos L hμ hB h0 (by rw[hh];exact hw) hb hF
  |dead=>exact .dead
theorem OBR.mono {B0:Nat} {F F':Nat→Nat→Prop} {w w':World} {μ μ':Nat→Option Loc} {id:Nat} {blk:OB} (x:Ext F w μ F' w' μ')
    (hh: ∀L,μ id=some L→w'.heap[L.block]? =w.heap[L.block]?) (hF: ∀L o,μ id=some L→F' L.block o→F L.block o) (h:OBR B0 F w μ id blk):OBR B0 F' w' μ' id blk:=by
  cases h with
  | cells cs opn L c el lo hi hμ hB hw hcap hlen hfix hun hcs hF0=>
    exact .cells cs opn L c el lo hi (x.mu _ _ hμ) hB (by rw[hh L hμ];exact hw) hcap hlen hfix hun (fun i v hi=>let ⟨V,h1,h2⟩:=hcs i v hi;⟨V,h1,VR.mono x h2⟩) (fun o h=>hF0 o (hF L o hμ h))
  |map ks vs L es clock hμ hB hw hes hb hF0=>exact .map ks vs L es clock (x.mu _ _ hμ) hB (by rw[hh L hμ];exact hw) (VRk.mono x hes) hb (fun o h=>hF0 o (hF L o hμ h))
  |loop T K L rec hμ hB hw h1 h2 h3 h4 h5 h6 hT hF0=>exact .loop T K L rec (x.mu _ _ hμ) hB (by rw[hh L hμ];exact hw) h1 h2 h3 h4 h5 h6 (fun t=>VR.mono x (hT t)) (fun o h=>hF0 o (hF L o hμ h))
  |dfr L hμ hB hw hF0=>exact .dfr L (x.mu _ _ hμ) hB (by rw[hh L hμ];exact hw) (fun o h=>hF0 o (hF L o hμ h))
  |iter ks vs seen L m es clock ss hμ hB h0 hw hm hmw hb hk hss hF0=>exact .iter ks vs seen L m es clock ss (x.mu _ _ hμ) hB h0 (by rw[hh L hμ];exact hw) (x.fr _ _ hm) (x.obj _ _ _ hm hmw) hb (VRk.mono x hk) hss (fun o h=>hF0 o (hF L o hμ h))
  |siter s pos L hμ hB h0 hw hb hF0=>exact .siter s pos L (x.mu _ _ hμ) hB h0 (by rw[hh L hμ];exact hw) hb (fun o h=>hF0 o (hF L o hμ h))
  |dead=>exact .dead
theorem OBR.loc{B0:Nat}{id:Nat}{blk:OB}(h:OBR B0 F w μ id blk)(hl:blk.live=true):∃L,μ id=some L∧B0≤L.block∧L.block<w.heap.size∧(∀o,¬F L.block o):=by
 cases h with
 |cells cs opn L c el lo hi hμ hB hw hcap hlen hfix hun hcs hF=>exact⟨L,hμ,hB,(Array.getElem?_eq_some_iff.1 hw).1,hF⟩
 |map ks vs L es clock hμ hB hw hes hb hF=>exact⟨L,hμ,hB,(Array.getElem?_eq_some_iff.1 hw).1,hF⟩
 |loop T K L rec hμ hB hw h1 h2 h3 h4 h5 h6 hT hF=>exact⟨L,hμ,hB,(Array.getElem?_eq_some_iff.1 hw).1,hF⟩
 |dfr L hμ hB hw hF=>exact⟨L,hμ,hB,(Array.getElem?_eq_some_iff.1 hw).1,hF⟩
 |iter ks vs seen L m es clock ss hμ hB h0 hw hm hmw hb hk hss hF=>exact⟨L,hμ,hB,(Array.getElem?_eq_some_iff.1 hw).1,hF⟩
 |siter s pos L hμ hB h0 hw hb hF=>exact⟨L,hμ,hB,(Array.getElem?_eq_some_iff.1 hw).1,hF⟩
 |dead=>cases hl
theorem OBR.fZ{B0:Nat}{F:Nat→Nat→Prop}{w:World}{μ:Nat→Option Loc}{id:Nat}{blk:OB}(h:blk.live=false):OBR B0 F w μ id blk:=by
 cases blk with
 |dead=>exact .dead
 |cells _ _=>cases h
 |map _ _=>cases h
 |loop _ _=>cases h
 |dfr=>cases h
 |iter _ _ _=>cases h
 |siter _ _=>cases h
theorem cA(w:World)(o:Obj)(k:Nat):({w with heap:=w.heap.push o}:World).heap[k]? =if k=w.heap.size then some o else w.heap[k]?:=by
 show(w.heap.push o)[k]? =_;rw[Array.getElem?_push]
theorem Ext.push(s:Sim w0 F0 F μ H w)(o:Obj){F':Nat→Nat→Prop}{μ':Nat→Option Loc}(hF: ∀b o,F b o→F' b o)(hμ: ∀id L,μ id=some L→μ' id=some L):
    Ext F w μ F' {w with heap:=w.heap.push o} μ':=by
  refine⟨hμ,hF,?_,?_⟩
  · intro b i V hf h
    obtain⟨c,el,fz,hc,hi⟩:=uC h;have hb:=s.lt b i hf;have e:({w with heap:=w.heap.push o}:World).heap[b]? =some (.cells c el fz):=by rw[cA,if_neg (show b≠w.heap.size by omega)];exact hc
    rw[dH _ b i c el fz e];exact hi
  · intro b es c hf h
    have hb:=s.lt b 0 hf;rw[cA,if_neg (by omega)];exact h
theorem Sim.alloc (s:Sim w0 F0 F μ H w) (o:Obj) (blk:OB) (L:Loc) (hL:L.block=w.heap.size)
    (hb: ∀μ',Ext F w μ F {w with heap:=w.heap.push o} μ'→μ' H.length=some L→(∀o,¬F L.block o)→OBR w0.heap.size F {w with heap:=w.heap.push o} μ' H.length blk):
    ∃μ',Ext F w μ F {w with heap:=w.heap.push o} μ'∧μ' H.length=some L∧Sim w0 F0 F μ' (H++[blk]) {w with heap:=w.heap.push o}:=by
  let μ':Nat→Option Loc:=fun i=>if i=H.length then some L else μ i
  have hμ: ∀id L,μ id=some L→μ' id=some L:=by
    intro id L' h;have:=s.dom id L' h;show(if id=H.length then some L else μ id)=_;rw[if_neg (by omega)];exact h
  have hx:Ext F w μ F {w with heap:=w.heap.push o} μ':=Ext.push s o (fun _ _ h=>h) hμ;have hne: ∀o,¬F L.block o:=fun i h=>by have:=s.lt _ _ h;omega
  have hnew:μ' H.length=some L:=by show(if _ then _ else _)=_;rw[if_pos rfl]
  refine⟨μ',hx,hnew,⟨⟨s.below.os,s.below.tape,s.below.output,?_,?_⟩,s.new,s.old,?_,?_,?_,?_⟩⟩
  · show _≤(w.heap.push o).size
    rw[Array.size_push];have:=s.below.size;omega
  · intro k hk
    have:=s.below.size;rw[cA,if_neg (by omega)];exact s.below.block k hk
  · intro b i h
    show _<(w.heap.push o).size;rw[Array.size_push];have:=s.lt b i h;omega
  · intro id b h
    rw[List.getElem?_append]at h;split at h
    · rename_i hlt
      by_cases hl:b.live=true
      · obtain⟨L',h1,h2,h3,h4⟩:=(s.obs id b h).loc hl
        refine(s.obs id b h).mono hx ?_ (fun _ _ _ h=>h);intro L'' e;rw[h1]at e;cases e;rw[cA,if_neg (by omega)]
      · exact OBR.fZ (by simpa using hl)
    · have:id=H.length:=by
        rcases Nat.lt_or_ge (id - H.length) 1 with h'|h'
        · omega
        · rw[List.getElem?_eq_none (by simp;omega)]at h;cases h
      subst this;simp at h;subst h;exact hb μ' hx hnew hne
  · intro i j bi bj Li Lj hi hj li lj mi mj hij
    rw[List.getElem?_append]at hi hj;have hfresh: ∀k bk Lk,H[k]? =some bk→bk.live=true→μ' k=some Lk→Lk.block<w.heap.size:=by
      intro k bk Lk hk lk mk;obtain⟨L',h1,_,h3,_⟩:=(s.obs k bk hk).loc lk;have:=hμ _ _ h1;rw[this]at mk;cases mk;exact h3
    split at hi
    · split at hj
      · rename_i ci cj
        have e1:μ' i=μ i:=if_neg (by omega);have e2:μ' j=μ j:=if_neg (by omega);rw[e1]at mi;rw[e2]at mj;exact s.apart i j bi bj Li Lj hi hj li lj mi mj hij
      · have:j=H.length:=by
          rcases Nat.lt_or_ge (j - H.length) 1 with h'|h'
          · omega
          · rw[List.getElem?_eq_none (by simp;omega)]at hj;cases hj
        subst this;have:=hfresh i bi Li hi li mi;rw[hnew]at mj;cases mj;omega
    · have hi':i=H.length:=by
        rcases Nat.lt_or_ge (i - H.length) 1 with h'|h'
        · omega
        · rw[List.getElem?_eq_none (by simp;omega)]at hi;cases hi
      subst hi';split at hj
      · have:=hfresh j bj Lj hj lj mj
        rw[hnew]at mi;cases mi;omega
      · have:j=H.length:=by
          rcases Nat.lt_or_ge (j - H.length) 1 with h'|h'
          · omega
          · rw[List.getElem?_eq_none (by simp;omega)]at hj;cases hj
        omega
  · intro id L' h
    by_cases e:id=H.length
    · simp;omega
    · have:μ' id=μ id:=if_neg e
      rw[this]at h;have:=s.dom id L' h;simp;omega
theorem Sim.Gh (s:Sim w0 F0 F μ H w) (o:Obj):
    Ext F w μ (fun b i=>F b i∨b=w.heap.size) {w with heap:=w.heap.push o} μ∧Sim w0 F0 (fun b i=>F b i∨b=w.heap.size) μ H {w with heap:=w.heap.push o}:=by
  have hx:Ext F w μ (fun b i=>F b i∨b=w.heap.size) {w with heap:=w.heap.push o} μ:=Ext.push s o (fun _ _ h=>.inl h) (fun _ _ h=>h);refine⟨hx,⟨⟨s.below.os,s.below.tape,s.below.output,?_,?_⟩,fun b o h=>.inl (s.new b o h),?_,?_,?_,s.apart,s.dom⟩⟩
  · show _≤(w.heap.push o).size
    rw[Array.size_push];have:=s.below.size;omega
  · intro k hk
    have:=s.below.size;rw[cA,if_neg (by omega)];exact s.below.block k hk
  · intro b i hb h
    rcases h with h|h
    · exact s.old b i hb h
    · have:=s.below.size;omega
  · intro b i h
    show _<(w.heap.push o).size;rw[Array.size_push];rcases h with h|h
    · have:=s.lt b i h;omega
    · omega
  · intro id b h
    by_cases hl:b.live=true
    · obtain⟨L',h1,h2,h3,h4⟩:=(s.obs id b h).loc hl
      refine(s.obs id b h).mono hx ?_ ?_
      · intro L'' e
        rw[h1]at e;cases e;rw[cA,if_neg (by omega)]
      · intro L'' i e hf
        rw[h1]at e;cases e;rcases hf with hf|hf
        · exact hf
        · omega
    · exact OBR.fZ (by simpa using hl)
theorem Sim.write (s:Sim w0 F0 F μ H w) (id:Nat) (blk blk':OB) (L:Loc) (hid:H[id]? =some blk) (hl:blk.live=true) (hμ:μ id=some L) (o:Obj)
    (hb:Ext F w μ F {w with heap:=w.heap.setIfInBounds L.block o} μ→OBR w0.heap.size F {w with heap:=w.heap.setIfInBounds L.block o} μ id blk'):
    Ext F w μ F {w with heap:=w.heap.setIfInBounds L.block o} μ∧Sim w0 F0 F μ (H.set id blk') {w with heap:=w.heap.setIfInBounds L.block o}:=by
  obtain⟨L1,h1,h2,h3,h4⟩:=(s.obs id blk hid).loc hl;rw[hμ]at h1;cases h1;have hget: ∀k,k≠L.block→({w with heap:=w.heap.setIfInBounds L.block o}:World).heap[k]? =w.heap[k]? :=by
    intro k hk;show(w.heap.setIfInBounds L.block o)[k]? =_;rw[Array.getElem?_setIfInBounds,if_neg (by omega)]
  have hx:Ext F w μ F {w with heap:=w.heap.setIfInBounds L.block o} μ:=by
    refine⟨fun _ _ h=>h,fun _ _ h=>h,?_,?_⟩
    · intro b i V hf h
      have:b≠L.block:=fun e=>h4 i (e ▸ hf);simp only[World.cell?,hget b this]at h ⊢;exact h
    · intro b es c hf h
      have:b≠L.block:=fun e=>h4 0 (e ▸ hf);rw[hget b this];exact h
  refine⟨hx,⟨⟨s.below.os,s.below.tape,s.below.output,?_,?_⟩,s.new,s.old,?_,?_,?_,?_⟩⟩
  · show _≤(w.heap.setIfInBounds L.block o).size
    rw[Array.size_setIfInBounds];exact s.below.size
  · intro k hk
    rw[hget k (by omega)];exact s.below.block k hk
  · intro b i h
    show _<(w.heap.setIfInBounds L.block o).size;rw[Array.size_setIfInBounds];exact s.lt b i h
  · intro j b h
    rw[List.getElem?_set]at h;split at h
    · rename_i e
      split at h
      · cases h;subst e;exact hb hx
      · cases h
    · rename_i e
      by_cases hlb:b.live=true
      · refine(s.obs j b h).mono hx ?_ (fun _ _ _ h=>h)
        intro L' hL';exact hget _ (s.apart j id b blk L' L h hid hlb hl hL' hμ (by omega))
      · exact OBR.fZ (by simpa using hlb)
  · intro i j bi bj Li Lj hi hj li lj mi mj hij
    have key: ∀(k:Nat) (bk:OB),(H.set id blk')[k]? =some bk→bk.live=true→ ∃bk',H[k]? =some bk'∧bk'.live=true:=by
      intro k bk hk lk;rw[List.getElem?_set]at hk;split at hk
      · rename_i e;subst e;exact⟨blk,hid,hl⟩
      · exact⟨bk,hk,lk⟩
    obtain⟨ci,h5,h6⟩:=key i bi hi li;obtain⟨cj,h7,h8⟩:=key j bj hj lj;exact s.apart i j ci cj Li Lj h5 h7 h6 h8 mi mj hij
  · intro j L' h
    rw[List.length_set];exact s.dom j L' h
theorem Sim.kill(s:Sim w0 F0 F μ H w)(id:Nat):Sim w0 F0 F μ (H.set id .dead) w:=by
 refine⟨s.below,s.new,s.old,s.lt,?_,?_,fun j L' h=>by rw[List.length_set];exact s.dom j L' h⟩
 ·intro j b h
  rw[List.getElem?_set]at h;split at h
  ·split at h
   ·cases h;exact .dead
   ·cases h
  ·exact s.obs j b h
 ·intro i j bi bj Li Lj hi hj li lj mi mj hij
  have key:∀(k:Nat) (bk:OB),(H.set id .dead)[k]? =some bk→bk.live=true→H[k]? =some bk:=by
   intro k bk hk lk;rw[List.getElem?_set]at hk;split at hk
   ·split at hk
    ·cases hk;cases lk
    ·cases hk
   ·exact hk
  exact s.apart i j bi bj Li Lj (key i bi hi li) (key j bj hj lj) li lj mi mj hij
end
def tsz(P:Program)(t:TypeId):Option Nat:=(P.info? t).map (·.size)
def Gi:TypeDesc→Bool
 | .struct _| .array _ _=>true
 |_=>false
def tag(P:Program)(t:TypeId):Option Bool:=(P.underlying t).map Gi
section
variable{P:Program} {w0:World} {F0 F:Nat→Nat→Prop} {μ:Nat→Option Loc} {H:List OB} {w:World}
theorem run_typeInfo{t:TypeId}{i:TypeInfo}(h:P.info? t=some i)(w:World):(typeInfo t).run P w=.ok i w:=by simp[typeInfo,h]
theorem aK{t n:Nat}(h:tsz P t=some n)(w:World):(sizeOf t).run P w=.ok n w:=by
 unfold tsz at h;cases hi:P.info? t with
 |none=>rw[hi]at h;cases h
 |some i=>rw[hi]at h;cases h;simp[sizeOf,run_typeInfo hi]
theorem gV{t:TypeId}{b:Bool}(h:tag P t=some b)(w:World):(isAgg t).run P w=.ok b w:=by
 unfold tag at h;cases hi:P.underlying t with
 |none=>rw[hi]at h;cases h
 |some d=>
  rw[hi]at h;simp only[Option.map_some,Option.some.injEq]at h;simp only[isAgg,Sem.run_bind,run_underlying hi,Result.andThen];subst h;cases d<;>rfl
def AV.isC:AV→Bool
 | .junk| .agg _| .tup _=>false
 |_=>true
def xX:Value→Bool
 | .agg _| .tuple _=>false
 |_=>true
theorem VR.xX{v:AV}{V:Value}(h:VR F w μ v V)(hc:v.isC=true):xX V=true:=by
 cases h<;>first|rfl|cases hc
theorem VRs.len{vs:List AV}{Vs:List Value}(h:VRs F w μ vs Vs):Vs.length=vs.length:=by
 induction vs generalizing Vs with
 |nil=>cases h;rfl
 |cons v vs ih=>cases h with|cons _ V _ Vs h t=>simp[ih t]
theorem VRs.get{vs:List AV}{Vs:List Value}(h:VRs F w μ vs Vs){i:Nat}{v:AV}(hi:vs[i]? =some v):∃V,Vs[i]? =some V∧VR F w μ v V:=by
 induction vs generalizing Vs i with
 |nil=>simp at hi
 | cons v0 vs ih=>
  cases h with
  |cons _ V _ Vs h t=>
   cases i with
   |zero=>simp at hi;subst hi;exact⟨V,rfl,h⟩
   |succ i=>simpa using ih t (by simpa using hi)
theorem VRs.sA{vs:List AV}{Vs:List Value}(h:VRs F w μ vs Vs)(hc:vs.all AV.isC=true):∀V∈Vs,Av.xX V=true:=by
 induction vs generalizing Vs with
 |nil=>cases h;simp
 | cons v vs ih=>
  cases h with
  |cons _ V _ Vs h t=>
   simp only[List.all_cons,Bool.and_eq_true]at hc;intro V' hV';rcases List.mem_cons.1 hV' with rfl|hm
   ·exact VR.xX h hc.1
   ·exact ih t hc.2 V' hm
theorem VRs.append{xs ys:List AV}{Xs Ys:List Value}(h:VRs F w μ xs Xs)(k:VRs F w μ ys Ys):VRs F w μ (xs++ys) (Xs++Ys):=by
 induction xs generalizing Xs with
 |nil=>cases h;exact k
 |cons v vs ih=>cases h with|cons _ V _ Vs h t=>exact .cons v V _ _ h (ih t)
theorem VR.cells{v:AV}{V:Value}(h:VR F w μ v V)(hj:v≠ .junk):VRs F w μ v.cells V.cells.toList:=by
 cases h with
 |agg l A h=>exact h
 |junk V=>exact absurd rfl hj
 |bool b=>exact .cons _ _ _ _ (.bool b) .nil
 |int k n=>exact .cons _ _ _ _ (.int k n) .nil
 |str s hb=>exact .cons _ _ _ _ (.str s hb) .nil
 |nilptr=>exact .cons _ _ _ _ .nilptr .nil
 |ptr id off L h=>exact .cons _ _ _ _ (.ptr id off L h) .nil
 |vptr cs b o h=>exact .cons _ _ _ _ (.vptr cs b o h) .nil
 |sl id off len wd cap L h hc hl hb=>exact .cons _ _ _ _ (.sl id off len wd cap L h hc hl hb) .nil
 |vsl wd x es A cap hx hl hb h=>exact .cons _ _ _ _ (.vsl wd x es A cap hx hl hb h) .nil
 |nilmap=>exact .cons _ _ _ _ .nilmap .nil
 |nilsl=>exact .cons _ _ _ _ .nilsl .nil
 |map id L h=>exact .cons _ _ _ _ (.map id L h) .nil
 |vmap ks vs r es clock hF hr hb h=>exact .cons _ _ _ _ (.vmap ks vs r es clock hF hr hb h) .nil
 |func fn fs cs Fs Cs hf hc=>exact .cons _ _ _ _ (.func fn fs cs Fs Cs hf hc) .nil
 |nilfunc=>exact .cons _ _ _ _ .nilfunc .nil
 |iface t v V h=>exact .cons _ _ _ _ (.iface t v V h) .nil
 |nilif=>exact .cons _ _ _ _ .nilif .nil
 |tup l A h=>exact .cons _ _ _ _ (.tup l A h) .nil
 |yld id L h=>exact .cons _ _ _ _ (.yld id L h) .nil
theorem VRm.get {cs:List AV} {b o:Nat} (h:VRm F w μ cs b o) {i:Nat} {v:AV} (hi:cs[i]? =some v):
    F b (o+i)∧ ∃V,w.cell? ⟨b,o+i,none⟩=some V∧VR F w μ v V:=by
  induction cs generalizing o i with
  |nil=>simp at hi
  | cons v0 vs ih=>
    cases h with
    | cons _ V _ _ _ hF hc h t=>
      cases i with
      |zero=>simp at hi;subst hi;exact⟨hF,V,hc,h⟩
      | succ i=>
        have:=ih t (by simpa using hi);rw[show o+(i+1)=o+1+i from by omega];exact this
theorem VRm.of{cs:List AV}{b o:Nat}(h:∀i v,cs[i]? =some v→F b (o+i)∧∃V,w.cell? ⟨b,o+i,none⟩=some V∧VR F w μ v V):VRm F w μ cs b o:=by
 induction cs generalizing o with
 |nil=>exact .nil _ _
 | cons v vs ih=>
  obtain⟨hF,V,hc,hv⟩:=h 0 v rfl
  exact .cons v V vs b o hF hc hv (ih fun i v' hi=>by
   have:=h (i+1) v' (by simpa using hi)
   rwa[show o+(i+1)=o+1+i from by omega]at this)
theorem VRm.drop{cs:List AV}{b o:Nat}(h:VRm F w μ cs b o)(k:Nat):VRm F w μ (cs.drop k) b (o+k):=
 .of fun i v hi=>by
  rw[List.getElem?_drop]at hi;have:=h.get hi;rwa[show o+(k+i)=o+k+i from by omega]at this
theorem VRe.get {es:List AV} {size b o:Nat} (h:VRe F w μ es size b o) {i:Nat} {v:AV} (hi:es[i]? =some v):
    v.cells.length=size∧VRm F w μ v.cells b (o+i*size):=by
  induction es generalizing o i with
  |nil=>simp at hi
  | cons v0 vs ih=>
    cases h with
    | cons _ _ _ _ _ hs h t=>
      cases i with
      |zero=>simp at hi;subst hi;exact⟨hs,by simpa using h⟩
      | succ i=>
        have:=ih t (by simpa using hi);rw[show o+(i+1)*size=o+size+i*size from by rw[Nat.add_mul];omega];exact this
theorem VRe.of{es:List AV}{size b o:Nat}(h:∀i v,es[i]? =some v→v.cells.length=size∧VRm F w μ v.cells b (o+i*size)):VRe F w μ es size b o:=by
 induction es generalizing o with
 |nil=>exact .nil _ _ _
 |cons v vs ih=>
  obtain⟨hs,hm⟩:=h 0 v rfl;refine .cons v vs size b o hs (by simpa using hm) (ih fun i v' hi=>?_);have:=h (i+1) v' (by simpa using hi);rwa[show o+(i+1)*size=o+size+i*size from by rw[Nat.add_mul];omega]at this
theorem da{cs:List AV}{g:Nat→Option Value}(h: ∀i v,cs[i]? =some v→ ∃V,g i=some V∧VR F w μ v V):
    ∃Vs:List Value,VRs F w μ cs Vs∧ ∀j V,Vs[j]? =some V→g j=some V:=by
  induction cs generalizing g with
  |nil=>exact⟨[],.nil,by simp⟩
  | cons v vs ih=>
    obtain⟨V,hg,hv⟩:=h 0 v rfl;obtain⟨Vs,h1,h2⟩:=ih (g:=fun i=>g (i+1)) fun i v' hi=>h (i+1) v' (by simpa using hi);refine⟨V::Vs,.cons v V vs Vs hv h1,?_⟩;intro j V' hj;cases j with
    |zero=>simp at hj;subst hj;exact hg
    |succ j=>exact h2 j V' (by simpa using hj)
theorem add_plain(b o j:Nat):(⟨b,o,none⟩:Addr).add j=⟨b,o+j,none⟩:=by unfold Addr.add;split<;>simp_all
def ldA(sz:Nat)(ag:Bool)(cs:List AV)(off:Nat):Option AV:=
 if ag then(if off+sz≤cs.length then some (.agg ((cs.drop off).take sz))else none)else cs[off]?
theorem ga {t sz:Nat} {ag:Bool} (hs:tsz P t=some sz) (ha:tag P t=some ag) {cs:List AV} {off b o:Nat} {v:AV} (hv:ldA sz ag cs off=some v)
    (h: ∀i v,cs[i]? =some v→ ∃V,w.cell? ⟨b,o+i,none⟩=some V∧VR F w μ v V):
    ∃V,(loadVar t ⟨b,o+off,none⟩).run P w=.ok V w∧VR F w μ v V:=by
  unfold ldA at hv;cases ag with
  | false=>
    simp only[Bool.false_eq_true,if_false]at hv;obtain⟨V,h1,h2⟩:=h off v hv;exact⟨V,by simp[loadVar,gV ha,h1],h2⟩
  | true =>
    simp only[if_true]at hv;split at hv
    · rename_i hle
      cases hv
      obtain⟨Vs,h1,h2⟩:=da (F:=F) (w:=w) (μ:=μ) (cs:=(cs.drop off).take sz) (g:=fun i=>w.cell? ⟨b,o+off+i,none⟩) (fun i v hi=>by
        rw[List.getElem?_take]at hi;split at hi
        · rw[List.getElem?_drop]at hi
          obtain⟨V,h3,h4⟩:=h _ _ hi;exact⟨V,by rw[show o+off+i=o+(off+i)from by omega];exact h3,h4⟩
        · cases hi)
      have hlen:Vs.length=sz:=by rw[VRs.len h1];simp;omega
      have hl:=run_loadCells_list (P:=P) w ⟨b,o+off,none⟩ Vs (fun j V hj=>by rw[add_plain];exact h2 j V hj);rw[hlen]at hl;exact⟨.agg Vs.toArray,by simp[loadVar,gV ha,aK hs,hl],.agg _ _ (by simpa using h1)⟩
    · cases hv
def gW:Array Value→Nat→List Value→Array Value
 |c,_,[]=>c
 |c,k,V::Vs=>gW (c.setIfInBounds k V) (k+1) Vs
theorem lE(c:Array Value)(k:Nat)(Vs:List Value):(gW c k Vs).size=c.size:=by
 induction Vs generalizing c k with
 |nil=>rfl
 |cons V Vs ih=>simp[gW,ih]
theorem nt(Vs:List Value):∀(c:Array Value) (k:Nat),k+Vs.length≤c.size→∀j,(gW c k Vs)[j]? =if k≤j∧j<k+Vs.length then Vs[j - k]? else c[j]?:=by
 induction Vs with
 |nil=>intro c k h j;simp[gW];intro h1 h2;omega
 | cons V Vs ih=>
  intro c k h j;simp only[List.length_cons]at h;rw[gW,ih _ _ (by rw[Array.size_setIfInBounds];omega) j,Array.getElem?_setIfInBounds];by_cases e:j=k
  ·subst e
   rw[if_neg (by omega),if_pos rfl,if_pos (by omega),if_pos (by simp),Nat.sub_self];rfl
  ·by_cases e2:k+1≤j∧j<k+1+Vs.length
   ·rw[if_pos e2,if_pos (by simp;omega),show j - k=(j - (k+1))+1 from by omega];rfl
   ·rw[if_neg e2,if_neg (by omega),if_neg (by simp;omega)]
theorem kj(w:World)(b o:Nat)(V:Value)(c:Array Value)(el:TypeId)(fz:Nat×Nat)(h:w.heap[b]? =some (.cells c el fz)):
    w.setCell ⟨b,o,none⟩ V={w with heap:=w.heap.setIfInBounds b (.cells (c.setIfInBounds o V) el fz)}:=by
  have hb:b<w.heap.size:=(Array.getElem?_eq_some_iff.1 h).1;have hx:w.heap[b]=.cells c el fz:=(Array.getElem?_eq_some_iff.1 h).2;unfold World.setCell;congr 1;apply Array.ext_getElem?;intro j;rw[Array.getElem?_modify,Array.getElem?_setIfInBounds];split
  · rename_i e
    subst e;simp[hb,hx]
  · rfl
theorem uD (w:World) (b o:Nat) (V:Value) (c:Array Value) (el:TypeId) (fz:Nat×Nat) (h:w.heap[b]? =some (.cells c el fz)) (hV:xX V=true) (ho:o<c.size)
    (hf: ¬(fz.1≤o∧o<fz.2)):(store ⟨b,o,none⟩ V).run P w=.ok () {w with heap:=w.heap.setIfInBounds b (.cells (c.setIfInBounds o V) el fz)}:=by
  have hc:w.cell? ⟨b,o,none⟩=some c[o]:=by rw[dH w b o c el fz h];simp[ho]
  have hfr:w.frozen? ⟨b,o,none⟩=false:=by
    obtain⟨lo,hi⟩:=fz;simp only[World.frozen?,h];simp only[Bool.and_eq_false_iff,decide_eq_false_iff_not];rcases Nat.lt_or_ge o lo with h1|h1
    · exact .inl (by omega)
    · exact .inr (fun h2=>hf ⟨h1,h2⟩)
  rw[←kj w b o V c el fz h];unfold store;cases V<;>first|(cases hV;done)|(simp only[Sem.run,hc,hfr,Bool.false_eq_true,if_false])
theorem fH(b o:Nat)(el:TypeId)(fz:Nat×Nat): ∀(Vs:List Value) (i:Nat) (w:World) (c:Array Value),w.heap[b]? =some (.cells c el fz)→(∀V∈Vs,xX V=true)→
    o+i+Vs.length≤c.size→(∀k,o+i≤k→k<o+i+Vs.length→ ¬(fz.1≤k∧k<fz.2))→
    (storeCells ⟨b,o,none⟩ Vs i).run P w=.ok () {w with heap:=w.heap.setIfInBounds b (.cells (gW c (o+i) Vs) el fz)}
  | [],i,w,c,h,h1,h2,h3=>by
    simp only[storeCells,Sem.run_pure,gW];congr 1;have hb:b<w.heap.size:=(Array.getElem?_eq_some_iff.1 h).1;have hx:w.heap[b]=.cells c el fz:=(Array.getElem?_eq_some_iff.1 h).2;have:w.heap.setIfInBounds b (.cells c el fz)=w.heap:=by
      apply Array.ext_getElem?;intro j;rw[Array.getElem?_setIfInBounds];split
      · rename_i e;subst e;simp[hb,hx]
      · rfl
    rw[this]
  | V ::Vs,i,w,c,h,h1,h2,h3=>by
    simp only[List.length_cons]at h2 h3;have hb:b<w.heap.size:=(Array.getElem?_eq_some_iff.1 h).1;have e1:=uD (P:=P) w b (o+i) V c el fz h (h1 V (by simp)) (by omega) (h3 (o+i) (by omega) (by omega))
    have ih:=fH b o el fz Vs (i+1) {w with heap:=w.heap.setIfInBounds b (.cells (c.setIfInBounds (o+i) V) el fz)} (c.setIfInBounds (o+i) V)
      (by show(w.heap.setIfInBounds b _)[b]? =_;rw[Array.getElem?_setIfInBounds,if_pos rfl,if_pos hb])
      (fun V' hV'=>h1 V' (by simp[hV'])) (by rw[Array.size_setIfInBounds];omega) (fun k hk hk'=>h3 k (by omega) (by omega))
    simp only[storeCells,Sem.run_bind,add_plain,e1,Result.andThen,ih,gW];congr 1;rw[show o+i+1=o+(i+1)from by omega];congr 1;apply Array.ext_getElem?;intro j;simp only[Array.getElem?_setIfInBounds,Array.size_setIfInBounds];split<;>simp_all
def cz:List AV→Nat→List AV→List AV
 |cs,_,[]=>cs
 |cs,k,v::vs=>cz (cs.set k v) (k+1) vs
theorem iA(vs:List AV):∀(cs:List AV) (k:Nat),(cz cs k vs).length=cs.length:=by
 induction vs with
 |nil=>intro cs k;rfl
 |cons v vs ih=>intro cs k;simp[cz,ih]
theorem nu(vs:List AV):∀(cs:List AV) (k:Nat),k+vs.length≤cs.length→∀j,(cz cs k vs)[j]? =if k≤j∧j<k+vs.length then vs[j - k]? else cs[j]?:=by
 induction vs with
 |nil=>intro c k h j;simp[cz];intro h1 h2;omega
 | cons V Vs ih=>
  intro c k h j;simp only[List.length_cons]at h;rw[cz,ih _ _ (by rw[List.length_set];omega) j,List.getElem?_set];by_cases e:j=k
  ·subst e
   rw[if_neg (by omega),if_pos rfl,if_pos (by omega),if_pos (by simp),Nat.sub_self];rfl
  ·by_cases e2:k+1≤j∧j<k+1+Vs.length
   ·rw[if_pos e2,if_pos (by simp;omega),show j - k=(j - (k+1))+1 from by omega];rfl
   ·rw[if_neg e2,if_neg (by omega),if_neg (by simp;omega)]
theorem Sim.store (s:Sim w0 F0 F μ H w) {id off:Nat} {cs vs:List AV} {opn:Bool} {Vs:List Value} (hid:H[id]? =some (.cells cs opn)) (hvs:VRs F w μ vs Vs) (hc:vs.all AV.isC=true)
    (hle:off+vs.length≤cs.length) {L:Loc} (hμ:μ id=some L):
    ∃w',(storeCells ⟨L.block,L.off+off,none⟩ Vs).run P w=.ok () w'∧Ext F w μ F w' μ∧Sim w0 F0 F μ (H.set id (.cells (cz cs off vs) opn)) w':=by
  have hob:=s.obs id _ hid;cases hob with
  | cells _ _ L' c el lo hi hμ' hB hw hcap hlen hfix hun hcs hF=>
    rw[hμ]at hμ';cases hμ';have hl:=VRs.len hvs;have hsz:L.off+off+Vs.length≤c.size:=by omega
    have hr:=fH (P:=P) L.block (L.off+off) el (lo,hi) Vs 0 w c hw (VRs.sA hvs hc) (by omega) (fun k h1 h2=>hun k (by omega) (by omega));simp only[Nat.add_zero]at hr
    have hw':=s.write id _ (.cells (cz cs off vs) opn) L hid rfl hμ (.cells (gW c (L.off+off) Vs) el (lo,hi)) (fun x=>by
      have hb:L.block<w.heap.size:=(Array.getElem?_eq_some_iff.1 hw).1
      refine .cells _ _ L (gW c (L.off+off) Vs) el lo hi hμ hB (by show(w.heap.setIfInBounds L.block _)[L.block]? =_;rw[Array.getElem?_setIfInBounds,if_pos rfl,if_pos hb]) (by rw[lE];exact hcap)
        (by rw[iA];exact hlen) (by rw[iA];exact hfix) hun ?_ hF
      intro i v hi;rw[nu _ _ _ hle]at hi;rw[nt _ _ _ hsz];split at hi
      · rename_i h12
        rw[if_pos (by omega)];obtain⟨V,h5,h6⟩:=VRs.get hvs hi;exact⟨V,by rw[show L.off+i - (L.off+off)=i - off from by omega];exact h5,VR.mono x h6⟩
      · rename_i h12
        rw[if_neg (by omega)];obtain⟨V,h5,h6⟩:=hcs i v hi
        exact⟨V,h5,VR.mono x h6⟩)
    exact⟨_,hr,hw'⟩
theorem Sim.zu(s:Sim w0 F0 F μ H w){vs:List AV}{Vs:List Value}(hvs:VRs F w μ vs Vs)(el:TypeId):
    ∃ μ',Ext F w μ F {w with heap:=w.heap.push (.cells Vs.toArray el)} μ'∧μ' H.length=some ⟨w.heap.size,0,vs.length⟩∧
      Sim w0 F0 F μ' (H++[.cells vs false]) {w with heap:=w.heap.push (.cells Vs.toArray el)}:=by
  refine s.alloc (.cells Vs.toArray el) (.cells vs false) ⟨w.heap.size,0,vs.length⟩ rfl ?_;intro μ' x hμ' hF;have hl:=VRs.len hvs;refine .cells _ _ ⟨w.heap.size,0,vs.length⟩ Vs.toArray el 0 0 hμ' s.below.size (by rw[cA,if_pos rfl]) (by simp;omega) (Nat.le_refl _) (fun _=>rfl) (fun o _ _ h=>by omega) ?_ hF;intro i v hi;obtain⟨V,h1,h2⟩:=VRs.get hvs hi;exact⟨V,by simpa using h1,VR.mono x h2⟩
end
def ofZ:Value→AV
 | .slice none 0 0=>.nilsl
 |v=>ofV v
def bS(P:Program)(t:TypeId):Option AV:=
 match(P.info? t).bind (·.zero)with
 |some (.agg cs)=>some (.agg (cs.toList.map ofZ))
 |some v=>some (ofV v)
 |none=>none
def esA(P:Program)(t:TypeId):Option Nat:=
 match tag P t,tsz P t with
 |some true,some n=>some (n+1)
 |some false,some 1=>some 0
 |_,_=>none
def cS(P:Program)(t:TypeId)(f:Nat):Option (Nat×Nat×TypeId):=
 match P.underlying t with
 |some (.struct fs)=>match fs[f]? with
  |some f=>(tsz P f.type).map fun n=>(f.offset,n,f.type)
  |none=>none
 |_=>none
def bT(P:Program)(s:Sem Value)(w0:World)(F0 F:Nat→Nat→Prop)(μ:Nat→Option Loc)(w:World)(v:AV)(H':List OB):Prop:=
 ∃V w' F' μ',s.run P w=.ok V w'∧Ext F w μ F' w' μ'∧Sim w0 F0 F' μ' H' w'∧VR F' w' μ' v V
section
variable{P:Program} {w0:World} {F0 F:Nat→Nat→Prop} {μ:Nat→Option Loc} {H:List OB} {w:World}
theorem bT.aN(s:Sim w0 F0 F μ H w){x:Sem Value}{V:Value}{v:AV}(h:x.run P w=.ok V w)(hv:VR F w μ v V):bT P x w0 F0 F μ w v H:=
 ⟨V,w,F,μ,h,Ext.refl _ _ _,s,hv⟩
theorem VR.ofV(v:Value):VR F w μ (ofV v) v:=by
 have:cd 0 F μ ⟨[],[],[]⟩ ⟨#[],[]⟩ w:=⟨.nil,rfl,fun t=>.junk _⟩
 exact this.ev (.const v)
theorem VR.ofZ(v:Value):VR F w μ (ofZ v) v:=by
 unfold Av.ofZ;split
 ·exact .nilsl
 ·exact VR.ofV v
theorem VRs.ofZ(l:List Value):VRs F w μ (l.map ofZ) l:=by
 induction l with
 |nil=>exact .nil
 |cons v l ih=>exact .cons _ _ _ _ (VR.ofZ v) ih
theorem xY(v:Value):(ofV v).cells=[ofV v]:=by
 cases v with
 |string s=>simp only[ofV];split<;>rfl
 |pointer p=>cases p<;>rfl
 |slice p l c=>cases p with
  |none=>simp only[ofV];split<;>rfl
  |some p=>rfl
 |map p=>cases p<;>rfl
 |func fn f c=>simp only[ofV];split<;>rfl
 |_=>rfl
theorem dy{t:TypeId}{z:AV}(h:bS P t=some z)(w:World):∃V,(zeroValue t).run P w=.ok V w∧VR F w μ z V∧VRs F w μ z.cells V.cells.toList:=by
 unfold bS at h;cases hi:P.info? t with
 |none=>rw[hi]at h;cases h
 | some i=>
  rw[hi]at h;simp only[Option.bind_some]at h;have hr:∀V,i.zero=some V→(zeroValue t).run P w=.ok V w:=fun V hz=>by simp[zeroValue,run_typeInfo hi,hz]
  cases hz:i.zero with
  |none=>rw[hz]at h;cases h
  | some V=>
   rw[hz]at h;refine⟨V,hr V hz,?_⟩;have key:∀V:Value,V.cells= #[V]→VR F w μ (ofV V) V∧VRs F w μ (ofV V).cells V.cells.toList:=by
    intro V hV;rw[xY,hV];exact⟨VR.ofV V,.cons _ _ _ _ (VR.ofV V) .nil⟩
   cases V<;>simp only[Option.some.injEq]at h<;>subst h
   case agg cs=>exact⟨.agg _ _ (VRs.ofZ _),VRs.ofZ _⟩
   all_goals exact key _ rfl
/-! ### Loads and stores -/
def ao(P:Program)(t:TypeId)(x:AV)(H:List OB):Option AV:=
 match tsz P t,tag P t with
 | some sz,some ag=>match x with
  | .ptr id off=>match H[id]? with
   |some (.cells cs _)=>ldA sz ag cs off
   |_=>none
  | .vptr cs=>ldA sz ag cs 0
  |_=>none
 |_,_=>none
theorem xZ(s:Sim w0 F0 F μ H w){t:TypeId}{x v:AV}{X:Value}(hx:VR F w μ x X)(h:ao P t x H=some v):bT P (Instr.loadAt t X) w0 F0 F μ w v H:=by
 unfold ao at h;split at h
 ·rename_i sz ag hs ha
  split at h
  ·rename_i id off
   split at h
   ·rename_i cs opn hid
    cases hx with
    | ptr _ _ L hμ=>
     cases s.obs id _ hid with
     | cells _ _ L' c el lo hi hμ' hB hw hcap hlen hfix hun hcs hF=>
      rw[hμ]at hμ';cases hμ'
      obtain⟨V,h1,h2⟩:=ga (P:=P) (F:=F) (w:=w) (μ:=μ) hs ha (b:=L.block) (o:=L.off) h (fun i v hiv=>by
       obtain⟨V,h3,h4⟩:=hcs i v hiv
       exact⟨V,by rw[dH w _ _ c el (lo,hi) hw];exact h3,h4⟩)
      exact .aN s (by simp[Instr.loadAt,Instr.sureAddr,h1]) h2
   ·cases h
  ·rename_i cs
   cases hx with
   |vptr _ b o hm=>
    obtain⟨V,h1,h2⟩:=ga (P:=P) (F:=F) (w:=w) (μ:=μ) hs ha (b:=b) (o:=o) h (fun i v hi=>(hm.get hi).2);exact .aN s (by simp[Instr.loadAt,Instr.sureAddr];simpa using h1) h2
  ·cases h
 ·cases h
def aA(P:Program)(t:TypeId)(x v:AV)(H:List OB):Option (List OB):=
 match tsz P t,x with
 |some sz,.ptr id off=>match H[id]? with
  |some (.cells cs opn)=>if v.cells.length=sz∧off+sz≤cs.length∧v.cells.all AV.isC=true then some (H.set id (.cells (cz cs off v.cells) opn))else none
  |_=>none
 |_,_=>none
theorem CT{v:AV}(h:v.cells.all AV.isC=true):v≠ .junk:=by rintro rfl;simp[AV.cells,AV.isC]at h
theorem uE (s:Sim w0 F0 F μ H w) {t:TypeId} {x v:AV} {X V:Value} {H':List OB} (hx:VR F w μ x X) (hv:VR F w μ v V) (h:aA P t x v H=some H'):
    ∃w',(Instr.storeAt t X V).run P w=.ok () w'∧Ext F w μ F w' μ∧Sim w0 F0 F μ H' w':=by
  unfold aA at h;split at h
  · rename_i sz id off hs
    split at h
    · rename_i cs opn hid
      split at h
      · rename_i hh
        obtain⟨h1,h2,h3⟩:=hh;cases h;cases hx with
        | ptr _ _ L hμ=>
          have hc:=VR.cells hv (CT h3);obtain⟨w',h4,h5,h6⟩:=s.store (P:=P) (off:=off) hid hc h3 (by omega) hμ;have hl:=VRs.len hc;rw[Array.length_toList]at hl;refine⟨w',?_,h5,h6⟩;simp only[Instr.storeAt,Instr.sureAddr,Sem.run_bind,Sem.run_pure,Result.andThen,storeVar,aK hs];rw[if_neg (by omega)];exact h4
      · cases h
    · cases h
  · cases h
/-! ### New variables -/
theorem pG(s:Sim w0 F0 F μ H w){cs:List AV}{V:Value}{t:TypeId}(hv:VRs F w μ cs V.cells.toList):
    bT P (do pure (.pointer (some (←newVar t V)))) w0 F0 F μ w (.ptr H.length 0) (H++[.cells cs false]):=by
  obtain⟨μ',h1,h2,h3⟩:=s.zu hv t;refine⟨.pointer (some ⟨w.heap.size,0,none⟩),_,F,μ',?_,h1,h3,?_⟩
  · simp[newVar,newRow]
  · have:=VR.ptr (F:=F) (w:={w with heap:=w.heap.push (.cells V.cells.toList.toArray t)}) (μ:=μ') H.length 0 ⟨w.heap.size,0,cs.length⟩ h2
    simpa using this
/-! ### Addresses -/
def aq(P:Program)(t:TypeId)(x:AV)(f:Nat):Option AV:=
 match cS P t f with
 |some (o,n,_)=>if n=0 then none else match x with
  | .ptr id off=>some (.ptr id (off+o))
  | .vptr cs=>some (.vptr (cs.drop o))
  |_=>none
 |none=>none
theorem sB{t:TypeId}{f o n:Nat}{ft:TypeId}(h:cS P t f=some (o,n,ft)):∃fs fl,P.underlying t=some (.struct fs)∧fs[f]? =some fl∧fl.offset=o∧tsz P fl.type=some n∧fl.type=ft:=by
 unfold cS at h;split at h
 ·rename_i fs hu
  split at h
  ·rename_i fl hf
   cases hn:tsz P fl.type with
   |none=>rw[hn]at h;cases h
   |some m=>rw[hn]at h;simp at h;exact⟨fs,fl,hu,hf,h.1,by rw[hn,h.2.1],h.2.2⟩
  ·cases h
 ·cases h
theorem nv(s:Sim w0 F0 F μ H w){t:TypeId}{x v:AV}{X:Value}{f:Nat}(hx:VR F w μ x X)(h:aq P t x f=some v):bT P (Instr.fieldAt t X f) w0 F0 F μ w v H:=by
 unfold aq at h;split at h
 ·rename_i o n ft hf
  obtain⟨fs,fl,h1,h2,h3,h4,h5⟩:=sB hf;split at h
  ·cases h
  ·rename_i hn
   have hr:∀b i,(Instr.fieldAt t (.pointer (some ⟨b,i,none⟩)) f).run P w=.ok (.pointer (some ⟨b,i+o,none⟩)) w:=by
    intro b i;simp only[Instr.fieldAt,Sem.run_bind,run_underlying h1,Result.andThen,h2,Instr.sureAddr,Sem.run_pure,fieldPlace,aK h4,if_neg hn,add_plain,h3]
   split at h
   ·cases h
    cases hx with
    |ptr id off L hμ=>exact .aN s (hr _ _) (by rw[Nat.add_assoc];exact .ptr _ _ L hμ)
   ·cases h
    cases hx with
    |vptr cs b i hm=>exact .aN s (hr _ _) (.vptr _ _ _ (hm.drop _))
   ·cases h
 ·cases h
def idx:AV→Option Nat
 | .int _ i=>if 0≤i then some i.toNat else none
 |_=>none
def ak(P:Program)(t:TypeId)(x i:AV)(H:List OB):Option AV:=
 match idx i,P.underlying t with
 | some i,some (.slice e)=>match tsz P e,x with
  |some n,.sl id off len wd=>if i<len then some (.ptr id (off+i*n))else none
  |some n,.vsl _ _ es=>match es[i]? with
   |some v=>if v.cells.length=n then some (.vptr v.cells)else none
   |none=>none
  |_,_=>none
 |some i,some (.array len e)=>match tsz P e,x with
  |some n,.ptr id off=>if i<len then some (.ptr id (off+i*n))else none
  |some n,.vptr cs=>if i<len then some (.vptr (cs.drop (i*n)))else none
  |_,_=>none
 |_,_=>none
theorem fp{i:AV}{I:Value}{k:Nat}(hi:VR F w μ i I)(h:idx i=some k):∃kd,I=.int kd (k:Int):=by
 unfold idx at h;split at h
 ·rename_i kd n
  split at h
  ·rename_i hn
   cases h;cases hi;exact⟨kd,by rw[Int.toNat_of_nonneg hn]⟩
  ·cases h
 ·cases h
theorem nw (s :Sim w0 F0 F μ H w) {t:TypeId} {x i v:AV} {X I:Value} (hx:VR F w μ x X) (hi:VR F w μ i I) (h:ak P t x i H=some v):
    bT P (Instr.indexAt t X I) w0 F0 F μ w v H:=by
  unfold ak at h;split at h
  · rename_i k e hk hu
    obtain⟨kd,rfl⟩:=fp hi hk;have hr: ∀b o len cap n,tsz P e=some n→k<len→(Instr.indexAt t (.slice (some ⟨b,o,none⟩) len cap) (.int kd (k:Int))).run P w=.ok (.pointer (some ⟨b,o+k*n,none⟩)) w:=by
      intro b o len cap n hn hlt;simp[Instr.indexAt,asIntOf,run_underlying hu,aK hn,hlt,add_plain]
    split at h
    · rename_i n id off len wd hn
      split at h
      · rename_i hlt
        cases h;cases hx with
        |sl _ _ _ _ cap L hμ hc hl hb=>exact .aN s (hr _ _ _ _ n hn hlt) (by rw[Nat.add_assoc];exact .ptr _ _ L hμ)
      · cases h
    · rename_i n wd xx es hn
      split at h
      · rename_i v' hv'
        split at h
        · rename_i hlen
          cases h;have hlt:k<es.length:=(List.getElem?_eq_some_iff.1 hv').1;cases hx with
          | vsl _ _ _ A cap hxx hl hb ha=>
            generalize hz:esz wd=size at ha;cases ha with
            |nil _ A=>simp at hlt
            | «at» _ _ b o he=>
              obtain⟨h1,h2⟩:=he.get hv';rw[hlen]at h1;subst h1;exact .aN s (hr _ _ _ _ n hn hlt) (.vptr _ _ _ h2)
        · cases h
      · cases h
    · cases h
  · rename_i k len e hk hu
    obtain⟨kd,rfl⟩:=fp hi hk;have hr: ∀b o n,tsz P e=some n→k<len→(Instr.indexAt t (.pointer (some ⟨b,o,none⟩)) (.int kd (k:Int))).run P w=.ok (.pointer (some ⟨b,o+k*n,none⟩)) w:=by
      intro b o n hn hlt;simp[Instr.indexAt,asIntOf,run_underlying hu,aK hn,hlt,add_plain,Instr.sureAddr]
    split at h
    · rename_i n id off hn
      split at h
      · rename_i hlt
        cases h;cases hx with
        |ptr _ _ L hμ=>exact .aN s (hr _ _ n hn hlt) (by rw[Nat.add_assoc];exact .ptr _ _ L hμ)
      · cases h
    · rename_i n cs hn
      split at h
      · rename_i hlt
        cases h;cases hx with
        |vptr _ b o hm=>exact .aN s (hr _ _ n hn hlt) (.vptr _ _ _ (hm.drop _))
      · cases h
    · cases h
  · cases h
def ny(P:Program)(t:TypeId)(cs:List AV)(off:Nat):Option AV:=
 match tsz P t,tag P t with
 |some sz,some ag=>ldA sz ag cs off
 |_,_=>none
theorem VRs.take{vs:List AV}{Vs:List Value}(h:VRs F w μ vs Vs)(k:Nat):VRs F w μ (vs.take k) (Vs.take k):=by
 induction vs generalizing Vs k with
 |nil=>cases h;simp;exact .nil
 | cons v vs ih=>
  cases h with
  |cons _ V _ Vs h t=>cases k with
   |zero=>exact .nil
   |succ k=>exact .cons _ _ _ _ h (ih t k)
theorem VRs.drop{vs:List AV}{Vs:List Value}(h:VRs F w μ vs Vs)(k:Nat):VRs F w μ (vs.drop k) (Vs.drop k):=by
 induction vs generalizing Vs k with
 |nil=>cases h;simp;exact .nil
 | cons v vs ih=>
  cases h with
  |cons _ V _ Vs h t=>cases k with
   |zero=>exact .cons _ _ _ _ h t
   |succ k=>exact ih t k
theorem pH{t:TypeId}{cs:List AV}{A:Array Value}{off:Nat}{v:AV}(hc:VRs F w μ cs A.toList)(h:ny P t cs off=some v):∃V,(part t A off).run P w=.ok V w∧VR F w μ v V:=by
 unfold ny at h;split at h
 ·rename_i sz ag hs ha
  unfold ldA at h;cases ag with
  |false=>
   simp only[Bool.false_eq_true,if_false]at h;obtain⟨V,h1,h2⟩:=hc.get h;rw[Array.getElem?_toList]at h1;exact⟨V,by simp[part,gV ha,h1],h2⟩
  | true=>
   simp only[if_true]at h;split at h
   ·rename_i hle
    cases h;refine⟨.agg (A.extract off (off+sz)),by simp[part,gV ha,aK hs],.agg _ _ ?_⟩;have:=(hc.drop off).take sz;rw[Array.toList_extract,List.extract_eq_take_drop,show off+sz - off=sz from by omega];exact this
   ·cases h
 ·cases h
def mW(P:Program)(t:TypeId)(x:AV)(f:Nat):Option AV:=
 match cS P t f,x with
 |some (o,_,ft),.agg cs=>ny P ft cs o
 |_,_=>none
theorem uF(s:Sim w0 F0 F μ H w){t:TypeId}{x v:AV}{X:Value}{f:Nat}(hx:VR F w μ x X)(h:mW P t x f=some v):bT P (Instr.field t X f) w0 F0 F μ w v H:=by
 unfold mW at h;split at h
 ·rename_i o n ft cs hf
  obtain⟨fs,fl,h1,h2,h3,h4,h5⟩:=sB hf;cases hx with
  |agg _ A hA=>
   obtain⟨V,h6,h7⟩:=pH (P:=P) (w:=w) hA h;refine .aN s ?_ h7;simp only[Instr.field,Sem.run_bind,run_underlying h1,Result.andThen,h2,asAgg,Sem.run_pure,h3,h5];exact h6
 ·cases h
def cf(P:Program)(t:TypeId)(x i:AV):Option AV:=
 match idx i,P.underlying t with
 |some i,some (.array len e)=>match tsz P e,x with
  |some n,.agg cs=>if i<len then ny P e cs (i*n)else none
  |_,_=>none
 |some i,some .string=>match x with
  | .str s=>(s[i]?).map fun b=>.int .u8 b.toNat
  |_=>none
 |_,_=>none
theorem uG (s:Sim w0 F0 F μ H w) {t:TypeId} {x i v:AV} {X I:Value} (hx:VR F w μ x X) (hi:VR F w μ i I) (h:cf P t x i=some v):
    bT P (Instr.index t X I) w0 F0 F μ w v H:=by
  unfold cf at h;split at h
  · rename_i k len e hk hu
    obtain⟨kd,rfl⟩:=fp hi hk;split at h
    · rename_i n cs hn
      split at h
      · rename_i hlt
        cases hx with
        | agg _ A hA=>
          obtain⟨V,h6,h7⟩:=pH (P:=P) (w:=w) hA h;refine .aN s ?_ h7;simp[Instr.index,asIntOf,run_underlying hu,aK hn,hlt,h6]
      · cases h
    · cases h
  · rename_i k hk hu
    obtain⟨kd,rfl⟩:=fp hi hk;split at h
    · rename_i sb
      cases hb:sb[k]? with
      |none=>rw[hb]at h;cases h
      | some b=>
        rw[hb]at h;cases h;cases hx with
        | str _ hl=>
          have hlt:=(List.getElem?_eq_some_iff.1 hb).1;have hget:=(List.getElem?_eq_some_iff.1 hb).2;refine .aN s ?_ (.int _ _);have:(⟨sb.toArray⟩:ByteArray)[k]? =some b:=by
            have hsz:k<(⟨sb.toArray⟩:ByteArray).size:=by show k<sb.toArray.size;simpa using hlt
            rw[getElem?_pos _ k hsz];congr 1
          simp[Instr.index,asIntOf,run_underlying hu,this]
    · cases h
  · cases h
end
section
variable{P:Program} {w0:World} {F0 F:Nat→Nat→Prop} {μ:Nat→Option Loc} {H:List OB} {w:World}
/-! ### x[lo:hi], x[lo:hi:max] -/
def iw(len:Nat)(lo hi:Option AV):Option (Nat×Nat):=
 match(match lo with|none=>some 0|some l=>idx l),(match hi with|none=>some len|some h=>idx h)with
 |some l,some h=>if l≤h∧h≤len then some (l,h)else none
 |_,_=>none
inductive VRo (F:Nat→Nat→Prop) (w:World) (μ:Nat→Option Loc):Option AV→Option Value→Prop
 |none:VRo F w μ none none
 |some (v:AV) (V:Value) (h:VR F w μ v V):VRo F w μ (some v) (some V)
theorem qI {isS:Bool} {len cap:Nat} {lo hi:Option AV} {Lo Hi:Option Value} (hlo:VRo F w μ lo Lo) (hhi:VRo F w μ hi Hi) {l h:Nat} (hb:iw len lo hi=some (l,h)) (hc:len≤cap):
    l≤h∧h≤len∧(Instr.sliceBounds isS len cap Lo Hi none).run P w=.ok (l,h,cap) w:=by
  unfold iw at hb;split at hb
  · rename_i l' h' e1 e2
    split at hb
    · rename_i hle
      simp only[Option.some.injEq,Prod.mk.injEq]at hb;obtain⟨rfl,rfl⟩:=hb;refine⟨hle.1,hle.2,?_⟩;have key: ∀(kd:IntKind) (n y:Nat) (code:BoundsCode),n≤y→(Instr.sliceBound (.int kd (n:Int)) y code).run P w=.ok n w:=by
        intro kd n y code hny;simp[Instr.sliceBound,asIntOf,hny]
      have hsb:(if isS=true then BoundsCode.sliceAcap else .sliceAlen)=(if isS=true then BoundsCode.sliceAcap else .sliceAlen):=rfl;cases hhi with
      | none=>
        simp only[Option.some.injEq]at e2;subst e2;cases hlo with
        |none=>simp only[Option.some.injEq]at e1;subst e1;simp[Instr.sliceBounds]
        | some v V hv=>
          obtain⟨kd,rfl⟩:=fp hv e1;simp[Instr.sliceBounds,key _ _ _ _ hle.1]
      | some v V hv=>
        obtain⟨kd,rfl⟩:=fp hv e2;have hk:=key kd h' cap;cases hlo with
        |none=>simp only[Option.some.injEq]at e1;subst e1;simp[Instr.sliceBounds,hk _ (by omega)]
        | some v' V' hv'=>
          obtain⟨kd',rfl⟩:=fp hv' e1;simp[Instr.sliceBounds,hk _ (by omega),key _ _ _ _ hle.1]
    · cases hb
  · cases hb
def aM(P:Program)(t:TypeId)(x:AV)(lo hi mx:Option AV):Option AV:=
 match P.underlying t,x,mx with
 |some .string,.str s,none=>(iw s.length lo hi).map fun(l,h)=>.str ((s.drop l).take (h - l))
 |some (.slice e),.vsl wd ex es,none=>match tsz P e,iw es.length lo hi with
  |some n,some (l,h)=>if l=0∨n=esz wd then some (.vsl wd (ex&&h==es.length) ((es.drop l).take (h - l)))else none
  |_,_=>none
 |some (.slice e),.sl id off len wd,none=>match tsz P e,iw len lo hi with
  |some n,some (l,h)=>if n=esz wd then some (if l=0∨l<h then .sl id (off+l*n) (h - l) wd else .vsl wd false [])else none
  |_,_=>none
 |some (.slice e),.vsl wd ex es,some (.int _ 0)=>match tsz P e,lo,hi with
  |some _,none,some (.int _ 0)=>some (.vsl wd true [])
  |some _,some (.int _ 0),some (.int _ 0)=>some (.vsl wd true [])
  |_,_,_=>none
 |_,_,_=>none
theorem VRe.take_drop{es:List AV}{n b o:Nat}(h:VRe F w μ es n b o)(l k:Nat):VRe F w μ ((es.drop l).take k) n b (o+l*n):=
 .of fun i v hi=>by
  rw[List.getElem?_take]at hi;split at hi
  ·rw[List.getElem?_drop]at hi
   obtain⟨h1,h2⟩:=h.get hi;exact⟨h1,by rw[show o+l*n+i*n=o+(l+i)*n from by rw[Nat.add_mul];omega];exact h2⟩
  ·cases hi
theorem iB(s:Bytes):(⟨s.toArray⟩:ByteArray).size=s.length:=by show s.toArray.size=_;simp
theorem mk_data(b:ByteArray)(l:Bytes)(h:b.data.toList=l):b=⟨l.toArray⟩:=by
 cases b with
 |mk d=>simp at h;subst h;simp
theorem sC(s:Bytes)(l h:Nat):(⟨s.toArray⟩:ByteArray).extract l h=⟨((s.drop l).take (h - l)).toArray⟩:=
 mk_data _ _ (by rw[Lib.extract_data])
theorem zv{α:Type}(l:List α){a h:Nat}(hah:a≤h)(hl:h≤l.length):((l.drop a).take (h - a)).length=h - a:=by simp;omega
theorem uH (s : Sim w0 F0 F μ H w) {t:TypeId} {x v:AV} {X:Value} {lo hi mx:Option AV} {Lo Hi Mx:Option Value} (hx:VR F w μ x X) (hlo:VRo F w μ lo Lo) (hhi:VRo F w μ hi Hi) (hmx:VRo F w μ mx Mx)
    (h:aM P t x lo hi mx=some v):bT P (Instr.sliceAt t X Lo Hi Mx) w0 F0 F μ w v H:=by
  unfold aM at h;split at h
  · rename_i sb hu
    cases hmx;cases hb:iw sb.length lo hi with
    |none=>rw[hb]at h;cases h
    | some p=>
      obtain⟨l,hh⟩:=p;rw[hb]at h;cases h;cases hx with
      | str _ hl=>
        obtain⟨h1,h2,h3⟩:=qI (P:=P) (isS:=false) hlo hhi hb (Nat.le_refl _);refine .aN s (V:=.string ⟨((sb.drop l).take (hh - l)).toArray⟩) ?_ (.str _ (by rw[zv sb h1 h2];omega));rw[←sC];simp[Instr.sliceAt,run_underlying hu,Instr.slice,iB,h3]
  · rename_i e wd ex es hu
    cases hmx;split at h
    · rename_i n l hh hn hb
      split at h
      · rename_i hcond
        cases h;cases hx with
        | vsl _ _ _ A cap hxx hl hbd ha=>
          obtain⟨h1,h2,h3⟩:=qI (P:=P) (isS:=true) hlo hhi hb hl;have hrun:(Instr.sliceAt t (.slice A es.length cap) Lo Hi none).run P w=.ok (.slice (if cap=l then A else A.map (·.add (l*n))) (hh - l) (cap - l)) w:=by
            simp[Instr.sliceAt,run_underlying hu,Instr.slice,h3,aK hn]
          have hlen:=zv es h1 h2;refine .aN s (V:=.slice (if cap=l then A else A.map (·.add (l*n))) (hh - l) (cap - l)) hrun ?_
          have := VR.vsl (F:=F) (w:=w) (μ:=μ) wd (ex&&hh==es.length) ((es.drop l).take (hh - l)) (if cap=l then A else A.map (·.add (l*n))) (cap - l)
            (fun hb'=>by
              simp only[Bool.and_eq_true,beq_iff_eq]at hb';rw[hlen,hxx hb'.1,hb'.2]) (by rw[hlen];omega) (by rw[hlen];omega) (by
              by_cases hemp:hh - l=0
              · rw[hemp,List.take_zero];exact .nil _ _
              · have hcl:cap≠l:=by omega
                rw[if_neg hcl];cases ha with
                |nil _ A=>simp at h2;omega
                | «at» _ _ b o he=>
                  simp only[Option.map_some,add_plain];rcases hcond with h0|h0
                  · subst h0
                    have:=he.take_drop 0 (hh - 0);simp only[Nat.zero_mul,Nat.add_zero]at this ⊢;exact .at _ _ _ _ this
                  · subst h0
                    exact .at _ _ _ _ (he.take_drop l (hh - l)))
          rw[hlen]at this;exact this
      · cases h
    · cases h
  · rename_i e id off len wd hu
    cases hmx;split at h
    · rename_i n l hh hn hb
      split at h
      · rename_i hnz
        cases h;cases hx with
        | sl _ _ _ _ cap L hμ hc hl hbd=>
          obtain⟨h1,h2,h3⟩:=qI (P:=P) (isS:=true) hlo hhi hb hl
          have hrun:(Instr.sliceAt t (.slice (some ⟨L.block,L.off+off,none⟩) len cap) Lo Hi none).run P w
              =.ok (.slice (if cap=l then some ⟨L.block,L.off+off,none⟩else some ⟨L.block,L.off+off+l*n,none⟩) (hh - l) (cap - l)) w:=by
            simp[Instr.sliceAt,run_underlying hu,Instr.slice,h3,aK hn,add_plain]
          refine .aN s hrun ?_;split
          · rename_i hcond
            have hA:(if cap=l then some (⟨L.block,L.off+off,none⟩:Addr)else some ⟨L.block,L.off+off+l*n,none⟩)=some ⟨L.block,L.off+(off+l*n),none⟩:=by
              split
              · have:l=0:=by omega
                subst this;simp
              · rw[Nat.add_assoc]
            rw[hA];refine .sl _ _ _ _ _ L hμ ?_ (by omega) (by omega);have hlc:l≤cap:=by omega
            have:l*n+(cap - l)*n=cap*n:=by rw[←Nat.add_mul];congr 1;omega
            rw[←hnz,Nat.add_assoc,this,hnz];exact hc
          · have:hh - l=0:=by omega
            have k:=VR.vsl (F:=F) (w:=w) (μ:=μ) wd false [] (if cap=l then some ⟨L.block,L.off+off,none⟩else some ⟨L.block,L.off+off+l*n,none⟩) (cap - l) (fun h=>by cases h) (Nat.zero_le _) (Nat.zero_le _) (.nil _ _);rw[this];exact k
      · cases h
    · cases h
  · rename_i e wd ex es k hu
    cases hmx with
    | some _ V hV=>
      cases hV;cases hx with
      | vsl _ _ _ A cap hxx hl hbd ha=>
        have key: ∀Lo Hi,(Lo=none∨ ∃k,Lo=some (.int k 0))→(∃k,Hi=some (.int k 0))→(∃n,tsz P e=some n)→
            ∃A',(Instr.sliceAt t (.slice A es.length cap) Lo Hi (some (.int k 0))).run P w=.ok (.slice A' 0 0) w:=by
          rintro Lo Hi hLo ⟨k2,rfl⟩ ⟨n,hn⟩;refine⟨A,?_⟩;have hsb: ∀(kd:IntKind) (y:Nat) (code:BoundsCode),(Instr.sliceBound (.int kd 0) y code).run P w=.ok 0 w:=by
            intro kd y code;simp[Instr.sliceBound,asIntOf]
          rcases hLo with rfl|⟨k3,rfl⟩<;>simp[Instr.sliceAt,run_underlying hu,Instr.slice,Instr.sliceBounds,hsb,aK hn]
        have hres: ∀A',VR F w μ (.vsl wd true []) (.slice A' 0 0):=fun A'=>.vsl wd true [] A' 0 (fun _=>rfl) (Nat.le_refl _) (Nat.zero_le _) (.nil _ _);split at h
        · rename_i n k2 hn
          cases h;cases hlo;cases hhi with
          | some _ V hV2=>
            cases hV2;obtain⟨A',h1⟩:=key none (some (.int k2 0)) (.inl rfl) ⟨_,rfl⟩ ⟨_,hn⟩;exact .aN s h1 (hres A')
        · rename_i n k3 k2 hn
          cases h;cases hlo with
          | some _ V1 hV1=>
            cases hV1;cases hhi with
            | some _ V hV2=>
              cases hV2;obtain⟨A',h1⟩:=key _ (some (.int _ 0)) (.inr ⟨_,rfl⟩) ⟨_,rfl⟩ ⟨_,hn⟩;exact .aN s h1 (hres A')
        · cases h
  · cases h
/-! ### Arithmetic and tests -/
def aH(P:Program)(op:BinOp)(t:TypeId)(x y:AV):Option AV:=
 match x,y with
 | .int k a,.int k' b=>
  match op with
  | .shl=>if 0≤b then some (.int k (k.wrap (a*2^(min b.toNat k.bits))))else none
  | .shr=>if 0≤b then some (.int k (a.fdiv (2^(min b.toNat k.bits))))else none
  |op=>if k=k' then
   match op with
   | .add=>some (.int k (k.wrap (a+b)))
   | .sub=>some (.int k (k.wrap (a - b)))
   | .mul=>some (.int k (k.wrap (a*b)))
   | .quo=>if b=0 then none else some (.int k (k.wrap (a.tdiv b)))
   | .rem=>if b=0 then none else some (.int k (a.tmod b))
   | .eql=>some (.bool (a==b))
   | .neq=>some (.bool (a !=b))
   | .lss=>some (.bool (decide (a<b)))
   | .leq=>some (.bool (decide (a≤b)))
   | .gtr=>some (.bool (decide (a>b)))
   | .geq=>some (.bool (decide (a≥b)))
   | .and=>some (.int k (k.wrap (BitVec.ofInt k.bits a&&&BitVec.ofInt k.bits b).toNat))
   | .or=>some (.int k (k.wrap (BitVec.ofInt k.bits a|||BitVec.ofInt k.bits b).toNat))
   | .xor=>some (.int k (k.wrap (BitVec.ofInt k.bits a^^^BitVec.ofInt k.bits b).toNat))
   |_=>none
   else none
 | .str a,.str b=>
  match op with
  | .add=>if a.length+b.length≤ay then some (.str (a++b))else none
  | .eql=>some (.bool (a==b))
  | .neq=>some (.bool !(a==b))
  | .lss=>some (.bool (Op.bytesLess a b))
  | .leq=>some (.bool (Op.bytesLess a b||a==b))
  | .gtr=>some (.bool !(Op.bytesLess a b||a==b))
  | .geq=>some (.bool !(Op.bytesLess a b))
  |_=>none
 | .bool a,.bool b=>
  match op,P.underlying t with
  | .eql,some .bool=>some (.bool (a==b))
  | .neq,some .bool=>some (.bool !(a==b))
  |_,_=>none
 |_,_=>none
theorem qJ{t:TypeId}(hu:P.underlying t=some .bool)(d:Nat)(a b:Bool):(Op.equalIn (d+1) t (.bool a) (.bool b)).run P w=.ok (a==b) w:=by
 simp[Op.equalIn,run_underlying hu]
theorem nA{t:TypeId}(hu:P.underlying t=some .bool)(a b:Bool):(Op.equal t (.bool a) (.bool b)).run P w=.ok (a==b) w:=qJ hu 9999 a b
theorem uI(a b:Bytes):(⟨a.toArray⟩:ByteArray)++⟨b.toArray⟩=⟨(a++b).toArray⟩:=mk_data _ _ (by rw[ByteArray.data_append];simp)
theorem zw (s :Sim w0 F0 F μ H w) {op:BinOp} {t:TypeId} {x y v:AV} {X Y:Value} {ox oy:Operand} (hx:VR F w μ x X) (hy:VR F w μ y Y) (h:aH P op t x y=some v):
    bT P (do eqGuard op t ox oy X Y;binOp op t X Y) w0 F0 F μ w v H:=by
  unfold aH at h;split at h
  · rename_i k a k' b
    cases hx;cases hy;have hg:(eqGuard op t ox oy (.int k a) (.int k' b)).run P w=.ok () w:=by unfold eqGuard;cases op<;>simp
    split at h
    · split at h
      · rename_i hb
        cases h;exact .aN s (by simp[hg,binOp,Op.shift,show¬b<0 from by omega]) (.int _ _)
      · cases h
    · split at h
      · rename_i hb
        cases h;exact .aN s (by simp[hg,binOp,Op.shift,show¬b<0 from by omega]) (.int _ _)
      · cases h
    · rename_i h1 h2
      split at h
      · rename_i hk
        subst hk;split at h
        case h_4=>split at h<;>first|(cases h;done)|(rename_i hb;cases h;exact .aN s (by simp[hg,binOp,Op.intDiv,hb]) (.int _ _))
        case h_5=>split at h<;>first|(cases h;done)|(rename_i hb;cases h;exact .aN s (by simp[hg,binOp,Op.intDiv,hb]) (.int _ _))
        all_goals first
          |(cases h;done)
          |(cases h;exact .aN s (by simp[hg,binOp,Op.intArith,Op.intCmp,Op.intBits]) (.int _ _))
          |(cases h;exact .aN s (by simp[hg,binOp,Op.intArith,Op.intCmp,Op.intBits]) (.bool _))
      · cases h
  · rename_i a b
    cases hx with
    | str _ ha=>
      cases hy with
      | str _ hb=>
        have hg:(eqGuard op t ox oy (.string ⟨a.toArray⟩) (.string ⟨b.toArray⟩)).run P w=.ok () w:=by unfold eqGuard;cases op<;>simp
        split at h
        · split at h
          · rename_i hl
            cases h;refine .aN s (V:=.string ⟨(a++b).toArray⟩) ?_ (.str _ (by rw[List.length_append];exact hl));rw[←uI];have hm: ¬(((a.length+b.length:Nat):Int)>IntKind.i64.max):=by
              have:IntKind.i64.max=9223372036854775807:=by decide
              rw[this];unfold ay at hl;omega
            simp only[Sem.run_bind,hg,Result.andThen,binOp,Op.stringOp,iB];rw[if_neg hm];rfl
          · cases h
        all_goals first
          |(cases h;done)
          |(cases h;exact .aN s (by simp[hg,binOp,Op.stringOp]) (.bool _))
  · rename_i a b
    cases hx;cases hy;have hg:(eqGuard op t ox oy (.bool a) (.bool b)).run P w=.ok () w:=by unfold eqGuard;cases op<;>simp
    split at h
    · rename_i hu
      cases h;exact .aN s (by simp only[Sem.run_bind,hg,Result.andThen,binOp,nA hu,Sem.run_pure]) (.bool _)
    · rename_i hu
      cases h;exact .aN s (by simp only[Sem.run_bind,hg,Result.andThen,binOp,nA hu,Sem.run_pure]) (.bool _)
    · cases h
  · cases h
def qK(op:UnOp)(x:AV):Option AV:=
 match op,x with
 | .not,.bool b=>some (.bool !b)
 | .neg,.int k n=>some (.int k (k.wrap (0 - n)))
 |_,_=>none
theorem CU(s:Sim w0 F0 F μ H w){op:UnOp}{x v:AV}{X:Value}(hx:VR F w μ x X)(h:qK op x=some v):bT P (Op.unary op X) w0 F0 F μ w v H:=by
 unfold qK at h;split at h
 ·cases h;cases hx;exact .aN s (by simp[Op.unary]) (.bool _)
 ·cases h;cases hx;exact .aN s (by simp[Op.unary,Op.intArith]) (.int _ _)
 ·cases h
end
section
variable{P:Program} {w0:World} {F0 F:Nat→Nat→Prop} {μ:Nat→Option Loc} {H:List OB} {w:World}
def apT(P:Program)(e:TypeId):Option (Nat×Nat×Nat):=
 match P.info? e,esA P e,bS P e with
 |some i,some wd,some z=>if i.size=esz wd∧z.cells.length=i.size∧1≤i.size∧1≤i.bytes then some (i.size,wd,i.bytes)else none
 |_,_,_=>none
theorem nB(need cap:Nat)(h:cap<need):Builtin.nextslicecap need cap≤2*need:=by
 unfold Builtin.nextslicecap;split
 ·omega
 ·split
  ·omega
  ·have key:∀r c,c<need+need→Builtin.growBy need r c≤2*need:=by
    intro r;induction r with
    |zero=>intro c hc;simp[Builtin.growBy];omega
    |succ r ih=>
     intro c hc;simp only[Builtin.growBy];split
     ·omega
     ·exact ih _ (by omega)
   exact key 4 cap (by omega)
theorem qL(need cap:Nat)(e:TypeId)(t:Nat):need≤(Question.appendCap need cap e).cut t:=Nat.le_add_right _ _
theorem lF{n m cap:Nat}{A:Option Addr}{Vs:List Value}(hl:Vs.length=m*n)(h:m=0∨ ∃b o,A=some ⟨b,o,none⟩∧ ∀j V,Vs[j]? =some V→w.cell? ⟨b,o+j,none⟩=some V):
    (Builtin.firstCells n m (.slice A m cap)).run P w=.ok Vs.toArray w:=by
  cases A with
  | none=>
    rcases h with h|⟨b,o,h,_⟩
    · subst h;have:Vs=[]:=by simpa using hl
      subst this;simp[Builtin.firstCells]
    · cases h
  | some a=>
    simp only[Builtin.firstCells];rw[←hl];rcases h with h|⟨b,o,h,hc⟩
    · subst h;have:Vs=[]:=by simpa using hl
      subst this;simp[loadCells,loadCellsFrom]
    · cases h
      exact run_loadCells_list w _ Vs (fun j V hj=>by rw[add_plain];exact hc j V hj)
structure ApT (P:Program) (e n:Nat) (wd bytes:Nat) (z:AV):Prop where
 info:∃i,P.info? e=some i∧i.size=n∧i.bytes=bytes
 es:esA P e=some wd
 nwd:n=esz wd
 zero:bS P e=some z
 zlen:z.cells.length=n
 n1:1≤n
 b1:1≤bytes
theorem je{e n wd bytes:Nat}(h:apT P e=some (n,wd,bytes)):∃z,ApT P e n wd bytes z:=by
 unfold apT at h;split at h
 ·rename_i i wd' z hi he hz
  split at h
  ·rename_i hh
   simp only[Option.some.injEq,Prod.mk.injEq]at h;obtain⟨h1,h2,h3⟩:=h;subst h1 h2 h3;exact⟨z,⟨⟨i,hi,rfl,rfl⟩,he,hh.1,hz,hh.2.1,hh.2.2.1,hh.2.2.2⟩⟩
  ·cases h
 ·cases h
theorem ApT.tsz{e n wd bytes:Nat}{z:AV}(h:ApT P e n wd bytes z):tsz P e=some n:=by
 obtain⟨i,h1,h2,h3⟩:=h.info;simp[Av.tsz,h1,h2]
def apX(P:Program)(t:TypeId):Bool:=
 match P.underlying t with
 |some (.slice _)|some .string=>true
 |_=>false
theorem qM{t:TypeId}(h:apX P t=true):(∃e,P.underlying t=some (.slice e))∨P.underlying t=some .string:=by
 unfold apX at h;split at h
 ·rename_i e hu;exact .inl ⟨_,hu⟩
 ·rename_i hu;exact .inr hu
 ·cases h
theorem gw {sT xT rT e n wd bytes:Nat} {z:AV} (ht:ApT P e n wd bytes z) (hs:P.underlying sT=some (.slice e)) (hx:apX P xT=true)
    {A:Option Addr} {X:Value} {sl sc m:Nat} {Vs:List Value} (hroom:sl+m≤sc) (hlX: ∀w',(Builtin.lenOf X).run P w'=.ok m w') (hf:(Builtin.firstCells n m X).run P w=.ok Vs.toArray w)
    {w':World} (hst:match A with|some a=>(storeCells (a.add (sl*n)) Vs).run P w=.ok () w'|none=>w'=w):
    (Builtin.append_ #[sT,xT] rT #[.slice A sl sc,X]).run P w=.ok (.slice A (sl+m) sc) w':=by
  cases A with
  | none=>
    simp only at hst;subst hst;rcases qM hx with⟨e',hd⟩|hd<;>simp[Builtin.append_,run_underlying hs,run_underlying hd,aK ht.tsz,hlX,hroom,hf]
  | some a=>
    simp only at hst;rcases qM hx with⟨e',hd⟩|hd<;>simp[Builtin.append_,run_underlying hs,run_underlying hd,aK ht.tsz,hlX,hroom,hf,hst]
theorem fJ {sT xT rT e n wd bytes:Nat} {z:AV} (ht:ApT P e n wd bytes z) (hs:P.underlying sT=some (.slice e)) (hx:apX P xT=true)
    {A:Option Addr} {X:Value} {sl sc m:Nat} {Os Vs:List Value} (hroom:sc<sl+m) (hlo:Os.length=sl*n) (hl:Vs.length=m*n)
    (ho:sl=0∨ ∃b o,A=some ⟨b,o,none⟩∧ ∀j V,Os[j]? =some V→w.cell? ⟨b,o+j,none⟩=some V)
    (hlX: ∀w',(Builtin.lenOf X).run P w'=.ok m w') (hfX: ∀w':World,w'.heap=w.heap→(Builtin.firstCells n m X).run P w'=.ok Vs.toArray w')
    (hbig:(sl+m)*bytes≤2^47):
    ∃(c:Array Value) (nc:Nat),sl+m≤nc∧c.size=nc*n∧(∀(j:Nat) (V:Value),(Os++Vs)[j]? =some V→c[j]? =some V)∧
    (Builtin.append_ #[sT,xT] rT #[.slice A sl sc,X]).run P w=
      .ok (.slice (some ⟨w.heap.size,0,none⟩) (sl+m) nc) (w.drew.alloc (.cells c e)):=by
  have h1:=qL (sl+m) sc e (w.tape w.drawn (.appendCap (sl+m) sc e));generalize hnc:(Question.appendCap (sl+m) sc e).cut (w.tape w.drawn (.appendCap (sl+m) sc e))=nc at h1;obtain⟨Z,h3,_,h4⟩:=dy (P:=P) (F:=fun _ _=>False) (μ:=fun _=>none) ht.zero w.drew;obtain⟨i,hi,hi1,hi2⟩:=ht.info;have hzs:Z.cells.size=n:=by rw[←Array.length_toList,VRs.len h4];exact ht.zlen
  have hfo:=lF (P:=P) (w:=w.drew) (cap:=sc) hlo (by
    rcases ho with h|⟨b,o,h5,h6⟩
    · exact .inl h
    · exact .inr ⟨b,o,h5,fun j V hj=>h6 j V hj⟩)
  have hfv:=hfX w.drew rfl;refine⟨Os.toArray++(Vs.toArray++Builtin.zeroCells Z.cells (nc - (sl+m))),nc,h1,?_,?_,?_⟩
  · simp only[Array.size_append,List.size_toArray,hlo,hl,Builtin.zeroCells,Array.size_map,Array.size_range,hzs]
    have:nc=sl+m+(nc - (sl+m)):=by omega
    rw[←Nat.add_assoc,←Nat.add_mul,←Nat.add_mul,←this]
  · intro j V hj
    rw[←Array.append_assoc,Array.getElem?_append_left (by
      have:=(List.getElem?_eq_some_iff.1 hj).1
      simp at this ⊢;exact this)]
    rw[List.append_toArray,List.getElem?_toArray];exact hj
  · have hcap: ¬Builtin.nextslicecap (sl+m) sc*bytes>2^48:=by
      have:=nB (sl+m) sc hroom;have h9:=Nat.mul_le_mul_right bytes this;rw[Nat.mul_assoc]at h9;omega
    have hcap': ¬281474976710656<Builtin.nextslicecap (sl+m) sc*bytes:=by simpa using hcap
    have hb:=ht.b1;have hb0: ¬bytes=0:=by omega
    have hnroom: ¬sl+m≤sc:=by omega
    have hforced:(Question.appendCap (sl+m) sc e).forced=false:=rfl;rcases qM hx with⟨e',hd⟩|hd<;>simp[Builtin.append_,run_underlying hs,run_underlying hd,aK ht.tsz,hlX,hnroom,run_typeInfo hi,hi2,hb0,hcap',hforced,hnc,hfo,hfv,h3,newRow]
/-! ### append over states -/
theorem VRm.append{xs ys:List AV}{b o:Nat}(h:VRm F w μ xs b o)(k:VRm F w μ ys b (o+xs.length)):VRm F w μ (xs++ys) b o:=by
 induction xs generalizing o with
 |nil=>simpa using k
 | cons x xs ih=>
  cases h with
  |cons _ V _ _ _ hF hc hv t=>
   refine .cons x V _ b o hF hc hv (ih t ?_);rw[List.length_cons]at k;rw[show o+1+xs.length=o+(xs.length+1)from by omega];exact k
theorem VRe.flat{es:List AV}{n b o:Nat}(h:VRe F w μ es n b o):VRm F w μ (es.flatMap AV.cells) b o∧(es.flatMap AV.cells).length=es.length*n:=by
 induction es generalizing o with
 |nil=>exact⟨.nil _ _,by simp⟩
 | cons v vs ih=>
  cases h with
  | cons _ _ _ _ _ hs h t=>
   obtain⟨h1,h2⟩:=ih t;refine⟨?_,?_⟩
   ·rw[List.flatMap_cons]
    exact h.append (by rw[hs];exact h1)
   ·rw[List.flatMap_cons,List.length_append,hs,h2,List.length_cons,Nat.add_mul];omega
def cO(n:Nat)(x:AV)(H:List OB):Option (Nat×List AV):=
 match x with
 | .vsl wd _ es=>if n=esz wd then some (es.length,es.flatMap AV.cells)else if es.isEmpty then some (0,[])else none
 | .sl id off len wd=>match H[id]? with
  |some (.cells cs _)=>if n=esz wd∧off+len*n≤cs.length then some (len,(cs.drop off).take (len*n))else none
  |_=>none
 |_=>none
theorem sD (s : Sim w0 F0 F μ H w) {n m:Nat} {x:AV} {X:Value} {nc:List AV} (hx:VR F w μ x X) (h:cO n x H=some (m,nc)):
    ∃B cap Vs,X=.slice B m cap∧VRs F w μ nc Vs∧Vs.length=m*n∧(m=0∨ ∃b o,B=some ⟨b,o,none⟩∧ ∀(j:Nat) (V:Value),Vs[j]? =some V→w.cell? ⟨b,o+j,none⟩=some V):=by
  unfold cO at h;split at h
  · rename_i wd ex es
    cases hx with
    | vsl _ _ _ A cap hxx hl hb ha=>
      split at h
      · rename_i hn
        cases h;cases ha with
        |nil _ A=>exact⟨A,cap,[],rfl,.nil,by simp,.inl rfl⟩
        | «at» _ _ b o he=>
          rw[←hn]at he;obtain⟨h1,h2⟩:=he.flat;obtain⟨Vs,h3,h4⟩:=da (F:=F) (w:=w) (μ:=μ) (g:=fun i=>w.cell? ⟨b,o+i,none⟩) (fun i v hi=>(h1.get hi).2);exact⟨_,cap,Vs,rfl,h3,by rw[VRs.len h3,h2],.inr ⟨b,o,rfl,h4⟩⟩
      · split at h
        · rename_i hemp
          cases h;have:es=[]:=by simpa using hemp
          subst this;exact⟨A,cap,[],rfl,.nil,by simp,.inl rfl⟩
        · cases h
  · rename_i id off len wd
    split at h
    · rename_i cs opn hid
      split at h
      · rename_i hn
        cases h;cases hx with
        | sl _ _ _ _ cap L hμ hc hl hb=>
          cases s.obs id _ hid with
          | cells _ _ L' c el lo hi hμ' hB hw hcap hlen hfix hun hcs hF=>
            rw[hμ]at hμ';cases hμ'
            obtain⟨Vs,h3,h4⟩:=da (F:=F) (w:=w) (μ:=μ) (cs:=(cs.drop off).take (m*n)) (g:=fun i=>w.cell? ⟨L.block,L.off+off+i,none⟩) (fun i v hiv=>by
              rw[List.getElem?_take]at hiv;split at hiv
              · rw[List.getElem?_drop]at hiv
                obtain⟨V,h5,h6⟩:=hcs _ v hiv;exact⟨V,by rw[dH w _ _ c el (lo,hi) hw,show L.off+off+i=L.off+(off+i)from by omega];exact h5,h6⟩
              · cases hiv)
            exact⟨_,cap,Vs,rfl,h3,by rw[VRs.len h3];simp;omega,.inr ⟨_,_,rfl,h4⟩⟩
      · cases h
    · cases h
  · cases h
def cp(n:Nat)(x:AV)(H:List OB):Option (Nat×List AV):=
 match x with
 | .str s=>if n=1 then some (s.length,s.map fun b=>.int .u8 b.toNat)else none
 |x=>cO n x H
theorem sE (s:Sim w0 F0 F μ H w) {n m:Nat} {x:AV} {X:Value} {nc:List AV} (hx:VR F w μ x X) (h:cp n x H=some (m,nc)):
    ∃Vs,VRs F w μ nc Vs∧Vs.length=m*n∧(∀w',(Builtin.lenOf X).run P w'=.ok m w')∧(∀w':World,w'.heap=w.heap→(Builtin.firstCells n m X).run P w'=.ok Vs.toArray w'):=by
  unfold cp at h;split at h
  · rename_i t
    split at h
    case isFalse=>cases h
    rename_i hn;subst hn;cases h;cases hx with
    | str _ hb=>
      have hsz:(⟨t.toArray⟩:ByteArray).size=t.length:=by show t.toArray.size=_;simp
      refine⟨t.map fun b=>.int .u8 b.toNat,?_,by simp,fun w'=>by simp[Builtin.lenOf,hsz],fun w' _=> ?_⟩
      · clear hb hsz
        induction t with
        |nil=>exact .nil
        |cons b t ih=>exact .cons _ _ _ _ (.int _ _) ih
      · have he:(⟨t.toArray⟩:ByteArray).extract 0 t.length=⟨t.toArray⟩:=by rw[←hsz];exact ByteArray.extract_zero_size
        simp only[Builtin.firstCells,he,Sem.run_pure];congr 1;apply Array.ext';simp
  · obtain⟨B,cap,Vs,rfl,hVs,hVl,hVc⟩:=sD s hx h
    refine⟨Vs,hVs,hVl,fun w'=>by simp[Builtin.lenOf],fun w' hw=>lF hVl ?_⟩;rcases hVc with h|⟨b,o,h5,h6⟩
    · exact .inl h
    · exact .inr ⟨b,o,h5,fun j V hj=>by have:=h6 j V hj;simpa[World.cell?,hw]using this⟩
theorem Sim.extend (s:Sim w0 F0 F μ H w) {id:Nat} {cs vs:List AV} {Vs:List Value} (hid:H[id]? =some (.cells cs true)) (hvs:VRs F w μ vs Vs) (hc:vs.all AV.isC=true) {L:Loc} (hμ:μ id=some L)
    (hle:cs.length+vs.length≤L.cap):
    ∃w',(storeCells ⟨L.block,L.off+cs.length,none⟩ Vs).run P w=.ok () w'∧Ext F w μ F w' μ∧Sim w0 F0 F μ (H.set id (.cells (cs++vs) true)) w':=by
  have hob:=s.obs id _ hid;cases hob with
  | cells _ _ L' c el lo hi hμ' hB hw hcap hlen hfix hun hcs hF=>
    rw[hμ]at hμ';cases hμ';have hl:=VRs.len hvs;have hsz:L.off+cs.length+Vs.length≤c.size:=by omega
    have hr:=fH (P:=P) L.block (L.off+cs.length) el (lo,hi) Vs 0 w c hw (VRs.sA hvs hc) (by omega) (fun k h1 h2=>hun k (by omega) (by omega));simp only[Nat.add_zero]at hr
    have hw':=s.write id _ (.cells (cs++vs) true) L hid rfl hμ (.cells (gW c (L.off+cs.length) Vs) el (lo,hi)) (fun x=>by
      have hb:L.block<w.heap.size:=(Array.getElem?_eq_some_iff.1 hw).1
      refine .cells _ _ L (gW c (L.off+cs.length) Vs) el lo hi hμ hB (by show(w.heap.setIfInBounds L.block _)[L.block]? =_;rw[Array.getElem?_setIfInBounds,if_pos rfl,if_pos hb]) (by rw[lE];exact hcap)
        (by rw[List.length_append];exact hle) (fun h=>by cases h) hun ?_ hF
      intro i v hi;rw[nt _ _ _ hsz];rw[List.getElem?_append]at hi;split at hi
      · rw[if_neg (by omega)]
        obtain⟨V,h5,h6⟩:=hcs i v hi;exact⟨V,h5,VR.mono x h6⟩
      · have hlt:=(List.getElem?_eq_some_iff.1 hi).1
        rw[if_pos (by omega)];obtain⟨V,h5,h6⟩:=VRs.get hvs hi
        exact⟨V,by rw[show L.off+i - (L.off+cs.length)=i - cs.length from by omega];exact h5,VR.mono x h6⟩)
    exact⟨_,hr,hw'⟩
theorem Sim.move (s:Sim w0 F0 F μ H w) {id off:Nat} {cs:List AV} (hid:H[id]? =some (.cells cs true)) {L:Loc} (hμ:μ id=some L) (hoff:off≤cs.length):
    ∃μ',Ext F w μ F w μ'∧μ' H.length=some ⟨L.block,L.off+off,L.cap - off⟩∧Sim w0 F0 F μ' (H.set id .dead++[.cells (cs.drop off) true]) w:=by
  let L':Loc:=⟨L.block,L.off+off,L.cap - off⟩
  let μ':Nat→Option Loc:=fun i=>if i=H.length then some L' else μ i
  have hμ': ∀id L,μ id=some L→μ' id=some L:=by
    intro id L'' h;have:=s.dom id L'' h;show(if id=H.length then some L' else μ id)=_;rw[if_neg (by omega)];exact h
  have hx:Ext F w μ F w μ':=⟨hμ',fun _ _ h=>h,fun _ _ _ _ h=>h,fun _ _ _ _ h=>h⟩
  have hnew:μ' H.length=some L':=by show(if _ then _ else _)=_;rw[if_pos rfl]
  have hidlt:id<H.length:=(List.getElem?_eq_some_iff.1 hid).1;have live: ∀(k:Nat) (bk:OB),(H.set id .dead++[.cells (cs.drop off) true])[k]? =some bk→bk.live=true→(k<H.length∧k≠id∧H[k]? =some bk)∨(k=H.length∧bk=.cells (cs.drop off) true):=by
    intro k bk hk lk;rw[List.getElem?_append]at hk;split at hk
    · rename_i hlt
      rw[List.length_set]at hlt;rw[List.getElem?_set]at hk;by_cases e:id=k
      · rw[if_pos e,if_pos (by omega)]at hk
        cases hk;cases lk
      · rw[if_neg e]at hk
        exact .inl ⟨hlt,by omega,hk⟩
    · rename_i hge
      rw[List.length_set]at hge hk;rcases Nat.lt_or_ge (k - H.length) 1 with h1|h1
      · have:k=H.length:=by omega
        subst this;simp at hk;exact .inr ⟨rfl,hk.symm⟩
      · rw[List.getElem?_eq_none (by simp;omega)]at hk;cases hk
  have hob:=s.obs id _ hid;cases hob with
  | cells _ _ L2 c el lo hi hμ2 hB hw hcap hlen hfix hun hcs hF=>
    rw[hμ]at hμ2;cases hμ2;refine⟨μ',hx,hnew,⟨s.below,s.new,s.old,s.lt,?_,?_,?_⟩⟩
    · intro k bk hk
      by_cases lk:bk.live=true
      · rcases live k bk hk lk with⟨h1,h2,h3⟩|⟨h1,h2⟩
        · exact(s.obs k bk h3).mono hx (fun _ _=>rfl) (fun _ _ _ h=>h)
        · subst h1 h2
          refine .cells _ _ L' c el lo hi hnew hB hw (by show L.off+off+(L.cap - off)≤_;omega) (by rw[List.length_drop];show _≤L.cap - off;omega) (fun h=>by cases h)
            (fun o h1 h2=>hun o (by have:L'.off=L.off+off:=rfl;omega) (by have h3:L'.off=L.off+off:=rfl;have h4:L'.cap=L.cap - off:=rfl;omega)) ?_ hF
          intro i v hiv;rw[List.getElem?_drop]at hiv;obtain⟨V,h5,h6⟩:=hcs _ v hiv;exact⟨V,by show c[L.off+off+i]? =_;rw[Nat.add_assoc];exact h5,VR.mono hx h6⟩
      · exact OBR.fZ (by simpa using lk)
    · intro i j bi bj Li Lj hi hj li lj mi mj hij
      have old: ∀(k:Nat) (bk:OB) (Lk:Loc),k<H.length→μ' k=some Lk→μ k=some Lk:=by
        intro k bk Lk hk mk;have:μ' k=μ k:=if_neg (by omega);rw[this]at mk;exact mk
      rcases live i bi hi li with⟨a1,a2,a3⟩|⟨a1,a2⟩<;>rcases live j bj hj lj with⟨b1,b2,b3⟩|⟨b1,b2⟩
      · exact s.apart i j bi bj Li Lj a3 b3 li lj (old i bi Li a1 mi) (old j bj Lj b1 mj) hij
      · subst b1;rw[hnew]at mj;cases mj
        exact s.apart i id bi _ Li L a3 hid li rfl (old i bi Li a1 mi) hμ a2
      · subst a1;rw[hnew]at mi;cases mi
        exact fun e=>s.apart j id bj _ Lj L b3 hid lj rfl (old j bj Lj b1 mj) hμ b2 e.symm
      · omega
    · intro k Lk h
      simp only[List.length_append,List.length_set,List.length_singleton];by_cases e:k=H.length
      · omega
      · have:μ' k=μ k:=if_neg e
        rw[this]at h;have:=s.dom k Lk h;omega
theorem Sim.grow(s:Sim w0 F0 F μ H w){cs:List AV}{Vs:List Value}(hvs:VRs F w μ cs Vs)(c:Array Value)(e k:Nat)(hc: ∀(j:Nat) (V:Value),Vs[j]? =some V→c[j]? =some V)(hk:c.size=k)(hl:cs.length≤k):
    ∃μ',Ext F w μ F (w.drew.alloc (.cells c e)) μ'∧μ' H.length=some ⟨w.heap.size,0,k⟩∧Sim w0 F0 F μ' (H++[.cells cs true]) (w.drew.alloc (.cells c e)):=by
  obtain⟨x1,s1⟩:=s.same (w':=w.drew) rfl rfl rfl rfl
  obtain⟨μ',x2,h2,s2⟩:=s1.alloc (.cells c e) (.cells cs true) ⟨w.heap.size,0,k⟩ rfl (fun μ' x hμ' hF=>by
    refine .cells _ _ ⟨w.heap.size,0,k⟩ c e 0 0 hμ' s.below.size (by rw[cA];exact if_pos rfl) (by show 0+k≤_;omega) hl (fun h=>by cases h) (fun o _ _ h=>by omega) ?_ hF;intro i v hi;obtain⟨V,h3,h4⟩:=VRs.get hvs hi
    exact⟨V,by show c[0+i]? =_;rw[Nat.zero_add];exact hc i V h3,VR.mono x (VR.mono x1 h4)⟩)
  exact⟨μ',x1.trans x2,h2,s2⟩
def aE (P : Program) (sT xT:TypeId) (sv x:AV) (H:List OB):Option (AV×List OB):=
  match P.underlying sT,apX P xT with
  | some (.slice e),true=>match apT P e with
    | some (n,wd,bytes)=>match cp n x H with
      | some (m,nc)=>match sv with
        | .vsl wd' true es=>if m=0 then some (.vsl wd' true es,H)else
          match cO n (.vsl wd' true es) H with
          |some (_,oc)=>if(es.length+m)*bytes≤2^47 then some (.sl H.length 0 (es.length+m) wd,H++[.cells (oc++nc) true])else none
          |none=>none
        | .sl id off len wd'=>match H[id]? with
          | some (.cells cs opn)=>if n=esz wd'∧nc.all AV.isC=true∧(len+m)*bytes≤2^47∧off+len*n≤cs.length then
              if off+(len+m)*n≤cs.length then some (.sl id off (len+m) wd',H.set id (.cells (cz cs (off+len*n) nc) opn))
              else if opn=true then(if off+len*n=cs.length then some (.sl H.length 0 (len+m) wd',H.set id .dead++[.cells (cs.drop off++nc) true])else none)
              else some (.sl H.length 0 (len+m) wd',H++[.cells ((cs.drop off).take (len*n)++nc) true])
            else none
          |_=>none
        |_=>none
      |none=>none
    |none=>none
  |_,_=>none
theorem sF (s : Sim w0 F0 F μ H w) {sT xT rT:TypeId} {sv x v:AV} {S X:Value} {H':List OB} (hs:VR F w μ sv S) (hx:VR F w μ x X) (h:aE P sT xT sv x H=some (v,H')):
    bT P (Builtin.append_ #[sT,xT] rT #[S,X]) w0 F0 F μ w v H':=by
  unfold aE at h;split at h
  case h_2=>cases h
  rename_i e hus hux;split at h
  case h_2=>cases h
  rename_i n wd bytes hap;obtain⟨z,ht⟩:=je hap;split at h
  case h_2=>cases h
  rename_i m nc hnews;obtain⟨Vs,hVs,hVl,hlX,hfX⟩:=sE (P:=P) s hx hnews;have hnl:nc.length=m*n:=by rw[←VRs.len hVs];exact hVl
  have hb1:=ht.b1;have hn1:=ht.n1;split at h
  · rename_i wd' es
    cases hs with
    | vsl _ _ _ A sc hxx hl hb ha=>
      have hsc:=hxx rfl;subst hsc;split at h
      · rename_i hm
        subst hm;cases h;have:Vs=[]:=by simpa using hVl
        subst this;refine .aN s (gw (z:=z) ht hus hux (A:=A) (X:=X) (sl:=es.length) (sc:=es.length) (m:=0) (Vs:=[]) (Nat.le_refl _) hlX (hfX w rfl) (w':=w) ?_) (.vsl _ _ _ _ _ (fun _=>rfl) (Nat.le_refl _) hb ha);cases A<;>simp[storeCells]
      · rename_i hm
        split at h
        case h_2=>cases h
        rename_i mo oc hold;split at h
        case isFalse=>cases h
        rename_i hbig;cases h;obtain⟨A',cap',Os,heq,hOs,hOl,hOc⟩:=sD s (VR.vsl wd' true es A es.length (fun _=>rfl) (Nat.le_refl _) hb ha) hold;simp only[Value.slice.injEq]at heq;obtain⟨rfl,h5,rfl⟩:=heq
        obtain⟨c,nc',h6,h7,h8,h9⟩:=fJ (P:=P) (w:=w) (rT:=rT) ht hus hux (A:=A) (X:=X) (sl:=es.length) (sc:=es.length) (m:=m) (by omega) (by rw[h5];exact hOl) hVl
          (by rcases hOc with h|h
              · exact .inl (by omega)
              · exact .inr h) hlX hfX hbig
        have hall:=hOs.append hVs;have hle:es.length+m≤2^47:=Nat.le_trans (Nat.le_mul_of_pos_right _ hb1) hbig;have hlen:(oc++nc).length=(es.length+m)*n:=by rw[←VRs.len hall,List.length_append,hOl,hVl,h5,Nat.add_mul]
        obtain⟨μ',x1,h10,s1⟩:=s.grow hall c e (nc'*n) h8 h7 (by rw[hlen];exact Nat.mul_le_mul_right n h6);refine⟨_,_,F,μ',h9,x1,s1,?_⟩;have hwd:esz wd=n:=ht.nwd.symm;exact .sl H.length 0 (es.length+m) wd nc' ⟨w.heap.size,0,nc'*n⟩ h10 (by rw[hwd];exact Nat.zero_add _) h6 (by unfold ay;omega)
  · rename_i id off len wd'
    split at h
    case h_2=>cases h
    rename_i cs opn hid;split at h
    case isFalse=>cases h
    rename_i hh;obtain⟨hnw,hall,hbig,hfit⟩:=hh;have hle:len+m≤2^47:=Nat.le_trans (Nat.le_mul_of_pos_right _ hb1) hbig;cases hs with
    | sl _ _ _ _ sc L hμ hc hl hb=>
      have hob:=s.obs id _ hid;cases hob with
      | cells _ _ L2 c el lo hi hμ2 hB hw hcap hlen hfix hun hcs hF=>
        rw[hμ]at hμ2;cases hμ2;rw[←hnw]at hc;have hmul:(len+m)*n=len*n+m*n:=Nat.add_mul ..;split at h
        · -- within what is known
          rename_i hin;cases h;have hroom:len+m≤sc:=by
            have:(len+m)*n≤sc*n:=by omega
            exact Nat.le_of_mul_le_mul_right this hn1
          obtain⟨w',h1,h2,h3⟩:=s.store (P:=P) (off:=off+len*n) hid hVs hall (by omega) hμ
          have hrun:=gw (z:=z) (rT:=rT) (P:=P) (w:=w) ht hus hux (A:=some ⟨L.block,L.off+off,none⟩) (X:=X) (sl:=len) (sc:=sc) (m:=m) (Vs:=Vs) hroom hlX (hfX w rfl) (w':=w') (by
            simp only[add_plain]
            rw[show L.off+off+len*n=L.off+(off+len*n)from by omega];exact h1)
          exact⟨_,w',F,μ,hrun,h2,h3,.sl id off (len+m) wd' sc L hμ (by rw[←hnw];exact hc) hroom (by unfold ay;omega)⟩
        · rename_i hout
          split at h
          · rename_i hopn
            subst hopn;split at h
            case isFalse=>cases h
            rename_i hend;cases h;by_cases hroom:len+m≤sc
            · -- in place
              have hmn:(len+m)*n≤sc*n:=Nat.mul_le_mul_right n hroom;obtain⟨w',h1,h2,h3⟩:=s.extend (P:=P) hid hVs hall hμ (by omega)
              have hrun:=gw (z:=z) (rT:=rT) (P:=P) (w:=w) ht hus hux (A:=some ⟨L.block,L.off+off,none⟩) (X:=X) (sl:=len) (sc:=sc) (m:=m) (Vs:=Vs) hroom hlX (hfX w rfl) (w':=w') (by
                simp only[add_plain]
                rw[show L.off+off+len*n=L.off+cs.length from by omega];exact h1)
              have hid':(H.set id (.cells (cs++nc) true))[id]? =some (.cells (cs++nc) true):=by
                have:=(List.getElem?_eq_some_iff.1 hid).1;rw[List.getElem?_set,if_pos rfl,if_pos this]
              obtain⟨μ',x2,h4,s4⟩:=h3.move (off:=off) hid' hμ (by rw[List.length_append];omega);rw[List.length_set]at h4;rw[List.set_set,List.drop_append_of_le_length (by omega)]at s4;refine⟨_,w',F,μ',hrun,h2.trans x2,s4,?_⟩;have:=VR.sl (F:=F) (w:=w') (μ:=μ') H.length 0 (len+m) wd' sc ⟨L.block,L.off+off,L.cap - off⟩ h4 (by rw[←hnw];show 0+sc*n=L.cap - off;omega) hroom (by unfold ay;omega);exact this
            · -- a new array
              obtain⟨Os,hOs,hOc⟩:=da (F:=F) (w:=w) (μ:=μ) (cs:=cs.drop off) (g:=fun i=>w.cell? ⟨L.block,L.off+off+i,none⟩) (fun i v hiv=>by
                rw[List.getElem?_drop]at hiv;obtain⟨V,h5,h6⟩:=hcs _ v hiv
                exact⟨V,by rw[dH w _ _ c el (lo,hi) hw,show L.off+off+i=L.off+(off+i)from by omega];exact h5,h6⟩)
              have hOl:Os.length=len*n:=by rw[VRs.len hOs,List.length_drop];omega
              obtain⟨c',nc',h6,h7,h8,h9⟩:=fJ (P:=P) (w:=w) (rT:=rT) ht hus hux (A:=some ⟨L.block,L.off+off,none⟩) (X:=X) (sl:=len) (sc:=sc) (m:=m) (by omega) hOl hVl
                (.inr ⟨_,_,rfl,hOc⟩) hlX hfX hbig
              have hall2:=hOs.append hVs;have hlen2:(cs.drop off++nc).length=(len+m)*n:=by rw[←VRs.len hall2,List.length_append,hOl,hVl,Nat.add_mul]
              have hkill:=s.kill id;obtain⟨μ',x1,h10,s1⟩:=hkill.grow hall2 c' e (nc'*n) h8 h7 (by rw[hlen2];exact Nat.mul_le_mul_right n h6);rw[List.length_set]at h10;refine⟨_,_,F,μ',h9,x1,s1,?_⟩;exact .sl H.length 0 (len+m) wd' nc' ⟨w.heap.size,0,nc'*n⟩ h10 (by rw[←hnw];exact Nat.zero_add _) h6 (by unfold ay;omega)
          · rename_i hopn
            have hopn':opn=false:=by simpa using hopn
            subst hopn';cases h;have hfx:=hfix rfl;have hroom: ¬len+m≤sc:=by
              intro hr;have:=Nat.mul_le_mul_right n hr;omega
            obtain⟨Os,hOs,hOc⟩:=da (F:=F) (w:=w) (μ:=μ) (cs:=(cs.drop off).take (len*n)) (g:=fun i=>w.cell? ⟨L.block,L.off+off+i,none⟩) (fun i v hiv=>by
              rw[List.getElem?_take]at hiv;split at hiv
              · rw[List.getElem?_drop]at hiv
                obtain⟨V,h5,h6⟩:=hcs _ v hiv;exact⟨V,by rw[dH w _ _ c el (lo,hi) hw,show L.off+off+i=L.off+(off+i)from by omega];exact h5,h6⟩
              · cases hiv)
            have hOl:Os.length=len*n:=by rw[VRs.len hOs];simp;omega
            obtain⟨c',nc',h6,h7,h8,h9⟩:=fJ (P:=P) (w:=w) (rT:=rT) ht hus hux (A:=some ⟨L.block,L.off+off,none⟩) (X:=X) (sl:=len) (sc:=sc) (m:=m) (by omega) hOl hVl
              (.inr ⟨_,_,rfl,hOc⟩) hlX hfX hbig
            have hall2:=hOs.append hVs;have hlen2:((cs.drop off).take (len*n)++nc).length=(len+m)*n:=by rw[←VRs.len hall2,List.length_append,hOl,hVl,Nat.add_mul]
            obtain⟨μ',x1,h10,s1⟩:=s.grow hall2 c' e (nc'*n) h8 h7 (by rw[hlen2];exact Nat.mul_le_mul_right n h6);refine⟨_,_,F,μ',h9,x1,s1,?_⟩;exact .sl H.length 0 (len+m) wd' nc' ⟨w.heap.size,0,nc'*n⟩ h10 (by rw[←hnw];exact Nat.zero_add _) h6 (by unfold ay;omega)
  · cases h
end
def aS(b:UInt8):AV:=.int .u8 b.toNat
def av(s:Bytes):List AV:=s.map aS
def dz:List AV→Option Bytes
 | []=>some []
 | .int .u8 n::r=>if 0≤n∧n<256 then(dz r).map fun s=>UInt8.ofNat n.toNat::s else none
 |_::_=>none
theorem uJ(b:UInt8):0≤(b.toNat:Int)∧(b.toNat:Int)<256:=⟨by omega,by have:=b.toNat_lt;omega⟩
theorem dY(s:Bytes):dz (av s)=some s:=by
 induction s with
 |nil=>rfl
 |cons b s ih=>
  simp only[av,List.map_cons,aS,dz];rw[if_pos (uJ b)];have:dz (List.map aS s)=some s:=ih;rw[this];simp
section
variable{P:Program} {w0:World} {F0 F:Nat→Nat→Prop} {μ:Nat→Option Loc} {H:List OB} {w:World}
def bx(P:Program)(src dst:TypeId)(x:AV)(H:List OB):Option (AV×List OB):=
 match P.underlying src,P.underlying dst,x with
 |some _,some (.int k),.int _ n=>some (.int k (k.wrap n),H)
 |some _,some .string,.int _ n=>some (.str (Utf8.encode n).data.toList,H)
 |some _,some .string,.str s=>some (.str s,H)
 |some _,some (.slice e),.str s=>match P.underlying e with
  |some (.int .u8)=>some (.sl H.length 0 s.length 0,H++[.cells (av s) true])
  |_=>none
 |some (.slice e),some .string,.sl id off len 0=>match P.underlying e,H[id]? with
  |some (.int .u8),some (.cells cs _)=>if off+len≤cs.length then(dz ((cs.drop off).take len)).map fun s=>(.str s,H)else none
  |_,_=>none
 |some (.slice e),some .string,.vsl wd _ es=>match P.underlying e with
  |some (.int .u8)=>if wd=0∨es=[]then(dz es).map fun s=>(.str s,H)else none
  |_=>none
 |_,_,_=>none
theorem iC {cs:List AV} {Vs:List Value} {s:Bytes} (h:VRs F w μ cs Vs) (hs:dz cs=some s):
    ∃ns:List Int,Vs=ns.map (Value.int .u8)∧ns.map (fun n=>UInt8.ofNat n.toNat)=s∧s.length=cs.length:=by
  induction cs generalizing Vs s with
  |nil=>cases h;simp[dz]at hs;subst hs;exact⟨[],rfl,rfl,rfl⟩
  | cons c cs ih=>
    cases h with
    | cons _ V _ Vs h t=>
      unfold dz at hs;split at hs
      · cases ‹_::_=[]›
      · rename_i n r heq
        simp only[List.cons.injEq]at heq;obtain⟨rfl,rfl⟩:=heq;split at hs
        · cases hr:dz cs with
          |none=>rw[hr]at hs;cases hs
          | some s'=>
            rw[hr]at hs;cases hs;obtain⟨ns,h1,h2,h3⟩:=ih t hr;cases h;exact⟨n::ns,by simp[h1],by simp[h2],by simp[h3]⟩
        · cases hs
      · cases hs
theorem fold_push(ns:List Int)(b:ByteArray):ns.foldl (fun r n=>r.push (UInt8.ofNat n.toNat)) b=⟨(b.data.toList++ns.map (fun n=>UInt8.ofNat n.toNat)).toArray⟩:=by
 induction ns generalizing b with
 |nil=>cases b;simp
 |cons n ns ih=>
  simp only[List.foldl_cons,ih,List.map_cons];congr 1;cases b;simp[ByteArray.push]
theorem jA {src dst e:TypeId} (hs:P.underlying src=some (.slice e)) (he:P.underlying e=some (.int .u8)) (hd:P.underlying dst=some .string) {b o len cap:Nat} {cs:List AV} {Vs:List Value} {s:Bytes}
    (h:VRs F w μ cs Vs) (hl:cs.length=len) (hu:dz cs=some s) (hc: ∀(j:Nat) (V:Value),Vs[j]? =some V→w.cell? ⟨b,o+j,none⟩=some V):
    (convert src dst (.slice (some ⟨b,o,none⟩) len cap)).run P w=.ok (.string ⟨s.toArray⟩) w:=by
  obtain⟨ns,h1,h2,h3⟩:=iC h hu;rw[run_convert_bytes_string w src dst e _ _ _ hs he hd];have hlen:Vs.length=len:=by rw[VRs.len h,hl]
  have hload:=run_loadCells_list (P:=P) w ⟨b,o,none⟩ Vs (fun j V hj=>by rw[add_plain];exact hc j V hj);rw[hlen]at hload;rw[run_bytesToString w ⟨b,o,none⟩ len cap ns (by rw[hload,h1]),fold_push,h2];simp
theorem uK(n:Int):(Utf8.encode n).data.toList.length≤4:=by
 unfold Utf8.encode;simp only
 repeat' split
 all_goals simp
theorem ya (s : Sim w0 F0 F μ H w) {src dst:TypeId} {x v:AV} {X:Value} {H':List OB} (hx:VR F w μ x X) (h:bx P src dst x H=some (v,H')):
    bT P (convert src dst X) w0 F0 F μ w v H':=by
  unfold bx at h;split at h
  · rename_i d k kk n hs hd
    cases h;cases hx;exact .aN s (by simp[convert,run_underlying hs,run_underlying hd,Conv.intToInt]) (.int _ _)
  · rename_i d k n hs hd
    cases h;cases hx;refine .aN s (V:=.string ⟨(Utf8.encode n).data.toList.toArray⟩) ?_ (.str _ (by have:=uK n;simp only[ay];omega));have he:(⟨(Utf8.encode n).data.toList.toArray⟩:ByteArray)=Utf8.encode n:=by simp
    rw[he];cases d<;>simp[convert,run_underlying hs,run_underlying hd,Conv.intToString]
  · rename_i d sb hs hd
    cases h;cases hx with
    |str _ hb=>exact .aN s (V:=.string ⟨sb.toArray⟩) (by cases d<;>simp[convert,run_underlying hs,run_underlying hd]) (.str _ hb)
  · rename_i d e sb hs hd
    split at h
    · rename_i he
      cases h;cases hx with
      | str _ hb=>
        have hrun:=Lib.run_convert_string_bytes (P:=P) w src dst e ⟨sb.toArray⟩ hs hd he;rw[iB]at hrun;have hcap:sb.length≤grownCap w sb.length 0 e:=qL _ _ _ _;generalize hcells:Lib.bytesCells w e ⟨sb.toArray⟩=c at*;have hcs:c=(sb.map fun b=>Value.int .u8 b.toNat).toArray++Array.replicate (grownCap w sb.length 0 e - sb.length) (.int .u8 0):=by
          rw[←hcells];unfold Lib.bytesCells;rw[iB];simp
        have hsz:c.size=grownCap w sb.length 0 e:=by rw[hcs];simp;omega
        obtain⟨μ',x1,h2,s2⟩:=s.alloc (.cells c e (c.size,c.size+1)) (.cells (av sb) true) ⟨w.heap.size,0,grownCap w sb.length 0 e⟩ rfl (fun μ' x hμ' hF=>by
          refine .cells _ _ ⟨w.heap.size,0,_⟩ c e c.size (c.size+1) hμ' s.below.size (by rw[cA];exact if_pos rfl) (by show 0+grownCap w sb.length 0 e≤_;omega) (by show(av sb).length≤_;unfold av;simpa using hcap) (fun h=>by cases h)
            (fun o h1 h2 h3=>by have h5:o<0+grownCap w sb.length 0 e:=h2;omega) ?_ hF
          intro i v hi;unfold av at hi;rw[List.getElem?_map]at hi;cases hb':sb[i]? with
          |none=>rw[hb']at hi;cases hi
          | some b=>
            rw[hb']at hi;cases hi;refine⟨.int .u8 b.toNat,?_,.int _ _⟩;show c[0+i]? =_;have hlt:=(List.getElem?_eq_some_iff.1 hb').1;rw[hcs,Nat.zero_add,Array.getElem?_append_left (by simpa using hlt),List.getElem?_toArray,List.getElem?_map,hb']
            rfl)
        have hheap:(Lib.bytesWorld w e ⟨sb.toArray⟩).heap=w.heap.push (.cells c e (c.size,c.size+1)):=by
          apply Array.ext_getElem?;intro j;rw[Array.getElem?_push];rcases Nat.lt_trichotomy j w.heap.size with hj|hj|hj
          · rw[if_neg (by omega)];exact Lib.bytesWorld_at_old w e _ j hj
          · subst hj;rw[if_pos rfl,Lib.bytesWorld_at_new,hcells]
          · rw[if_neg (by omega),Array.getElem?_eq_none (by rw[Lib.bytesWorld_size];omega),Array.getElem?_eq_none (by omega)]
        obtain⟨x3,s3⟩:=s2.same (w':=Lib.bytesWorld w e ⟨sb.toArray⟩) hheap (by simp[Lib.bytesWorld,World.freeze,World.alloc,World.drew,-World.alloc_eq,-World.drew_eq]) (by simp[Lib.bytesWorld,World.freeze,World.alloc,World.drew,-World.alloc_eq,-World.drew_eq]) (by simp[Lib.bytesWorld,World.freeze,World.alloc,World.drew,-World.alloc_eq,-World.drew_eq]);refine⟨_,_,F,μ',hrun,x1.trans x3,s3,?_⟩;exact .sl H.length 0 sb.length 0 _ ⟨w.heap.size,0,grownCap w sb.length 0 e⟩ h2 (by show 0+grownCap w sb.length 0 e*1=grownCap w sb.length 0 e;omega) hcap hb
    · cases h
  · rename_i e id off len hs hd
    split at h
    · rename_i cs opn he hid
      split at h
      · rename_i hle
        cases hu:dz ((cs.drop off).take len)with
        |none=>rw[hu]at h;cases h
        | some sb =>
          rw[hu]at h;cases h;cases hx with
          | sl _ _ _ _ cap L hμ hc hl hb=>
            cases s.obs id _ hid with
            | cells _ _ L' c el lo hi hμ' hB hw hcap hlen hfix hun hcs hF=>
              rw[hμ]at hμ';cases hμ'
              obtain⟨Vs,h3,h4⟩:=da (F:=F) (w:=w) (μ:=μ) (cs:=(cs.drop off).take len) (g:=fun i=>w.cell? ⟨L.block,L.off+off+i,none⟩) (fun i v hiv=>by
                rw[List.getElem?_take]at hiv;split at hiv
                · rw[List.getElem?_drop]at hiv
                  obtain⟨V,h5,h6⟩:=hcs _ v hiv;exact⟨V,by rw[dH w _ _ c el (lo,hi) hw,show L.off+off+i=L.off+(off+i)from by omega];exact h5,h6⟩
                · cases hiv)
              have hlen2:((cs.drop off).take len).length=len:=by simp;omega
              obtain⟨_,_,_,h9⟩:=iC h3 hu;exact .aN s (jA hs he hd h3 hlen2 hu h4) (.str _ (by rw[h9,hlen2];exact hb))
      · cases h
    · cases h
  · rename_i e wd ex es hs hd
    split at h
    · rename_i he
      split at h
      · rename_i hwd
        cases hu:dz es with
        |none=>rw[hu]at h;cases h
        | some sb =>
          rw[hu]at h;cases h;cases hx with
          | vsl _ _ _ A cap hxx hl hb ha=>
            have nilcase:es=[]→bT P (convert src dst (.slice A es.length cap)) w0 F0 F μ w (.str sb) H:=by
              rintro rfl;simp[dz]at hu;subst hu;refine .aN s (V:=.string ⟨([]:Bytes).toArray⟩) ?_ (.str [] (Nat.zero_le _));cases A with
              |none=>simp[convert,run_underlying hs,run_underlying hd,run_underlying he,Conv.bytesToString];rfl
              | some a=>
                rw[run_convert_bytes_string w src dst e _ _ _ hs he hd];have:=run_bytesToString (P:=P) w a 0 cap [] (by simp[loadCells,loadCellsFrom]);rw[List.length_nil];exact this
            generalize hz:esz wd=size at ha;cases ha with
            |nil _ A=>exact nilcase rfl
            | «at» _ _ b o he'=>
              rcases hwd with h0|h0
              · subst h0
                have:size=1:=by rw[←hz];rfl
                subst this;have hm : VRm F w μ es b o:=.of fun i v hi=>by
                  obtain⟨h5,h6⟩:=he'.get hi;rw[Nat.mul_one]at h6;have hne:v.cells=[v]:=by
                    have hcell: ∀(l:List AV) (k:Nat) (u:AV) (sb:Bytes),dz l=some sb→l[k]? =some u→u.cells=[u]:=by
                      intro l;induction l with
                      |nil=>intro k u sb _ hk;simp at hk
                      | cons a l ih=>
                        intro k u sb hub hk;unfold dz at hub;split at hub
                        · cases ‹_::_=[]›
                        · rename_i n r heq
                          simp only[List.cons.injEq]at heq;obtain⟨rfl,rfl⟩:=heq;split at hub
                          · cases hr:dz l with
                            |none=>rw[hr]at hub;cases hub
                            | some s'=>
                              cases k with
                              |zero=>simp at hk;subst hk;rfl
                              |succ k=>exact ih k u s' hr (by simpa using hk)
                          · cases hub
                        · cases hub
                    exact hcell es i v sb hu hi
                  rw[hne]at h6;have:=h6.get (i:=0) (v:=v) rfl;simpa using this
                obtain⟨Vs,h3,h4⟩:=da (F:=F) (w:=w) (μ:=μ) (g:=fun i=>w.cell? ⟨b,o+i,none⟩) (fun i v hi=>(hm.get hi).2);obtain⟨_,_,_,h9⟩:=iC h3 hu;exact .aN s (jA hs he hd h3 rfl hu h4) (.str _ (by rw[h9];exact hb))
              · exact nilcase h0
      · cases h
    · cases h
  · cases h
/-! ### len, cap -/
def aI(P:Program)(t:TypeId)(x:AV)(H:List OB):Option AV:=
 match P.underlying t,x with
 |some .string,.str s=>some (.int .i64 s.length)
 |some (.slice _),.vsl _ _ es=>some (.int .i64 es.length)
 |some (.slice _),.sl _ _ len _=>some (.int .i64 len)
 |some (.map _ _),.nilmap=>some (.int .i64 0)
 |some (.map _ _),.map id=>match H[id]? with
  |some (.map ks _)=>some (.int .i64 ks.length)
  |_=>none
 |some (.map _ _),.vmap ks _=>some (.int .i64 ks.length)
 |some (.array n _),_=>some (.int .i64 n)
 |_,_=>none
theorem VRk.len{ks vs:List AV}{es:List MapEntry}(h:VRk F w μ ks vs es):es.length=ks.length∧vs.length=ks.length:=by
 induction ks generalizing vs es with
 |nil=>cases h;exact⟨rfl,rfl⟩
 |cons k ks ih=>cases h with|cons _ v _ vs e es hk hv t=>have:=ih t;simp[this]
theorem zx(s:Sim w0 F0 F μ H w){t rT:TypeId}{x v:AV}{X:Value}(hx:VR F w μ x X)(h:aI P t x H=some v):bT P (Builtin.len_ #[t] rT #[X]) w0 F0 F μ w v H:=by
 unfold aI at h;split at h
 ·rename_i sb hu
  cases h;cases hx with
  |str _ hb=>exact .aN s (by simp[Builtin.len_,run_underlying hu,goInt,iB]) (.int _ _)
 ·rename_i e wd ex es hu
  cases h;cases hx with
  |vsl _ _ _ A cap hxx hl hb ha=>exact .aN s (by simp[Builtin.len_,run_underlying hu,goInt]) (.int _ _)
 ·rename_i e id off len wd hu
  cases h;cases hx with
  |sl _ _ _ _ cap L hμ hc hl hb=>exact .aN s (by simp[Builtin.len_,run_underlying hu,goInt]) (.int _ _)
 ·rename_i a b hu
  cases h;cases hx;exact .aN s (by simp[Builtin.len_,run_underlying hu,goInt]) (.int _ _)
 ·rename_i a b id hu
  split at h
  ·rename_i ks vs hid
   cases h;cases hx with
   | map _ L hμ=>
    cases s.obs id _ hid with
    |map _ _ L' es clock hμ' hB hw hes hb hF=>
     rw[hμ]at hμ';cases hμ';have:=(VRk.len hes).1;rw[Array.length_toList]at this;refine .aN s (V:=.int .i64 ks.length) ?_ (.int _ _);rw[←this];simp[Builtin.len_,run_underlying hu,goInt,getObj,Sem.run,hw]
  ·cases h
 ·rename_i a b ks vs hu
  cases h;cases hx with
  |vmap _ _ r es clock hF hr hbb hes=>
   have:=(VRk.len hes).1;rw[Array.length_toList]at this;refine .aN s (V:=.int .i64 ks.length) ?_ (.int _ _);rw[←this];simp[Builtin.len_,run_underlying hu,goInt,getObj,Sem.run,hr]
 ·rename_i n e hu
  cases h;exact .aN s (V:=.int .i64 n) (by cases X<;>simp[Builtin.len_,run_underlying hu,goInt]) (.int _ _)
 ·cases h
def zy(P:Program)(t:TypeId)(x:AV):Option AV:=
 match P.underlying t,x with
 |some (.slice _),.vsl _ true es=>some (.int .i64 es.length)
 |_,_=>none
theorem zA(s:Sim w0 F0 F μ H w){t rT:TypeId}{x v:AV}{X:Value}(hx:VR F w μ x X)(h:zy P t x=some v):bT P (Builtin.cap_ #[t] rT #[X]) w0 F0 F μ w v H:=by
 unfold zy at h;split at h
 ·rename_i e wd es hu
  cases h;cases hx with
  |vsl _ _ _ A cap hxx hl hb ha=>rw[hxx rfl];exact .aN s (by simp[Builtin.cap_,run_underlying hu,goInt]) (.int _ _)
 ·cases h
end
section
variable{P:Program} {w0:World} {F0 F:Nat→Nat→Prop} {μ:Nat→Option Loc} {H:List OB} {w:World}
def AV.told:AV→Bool
 | .junk=>false
 |_=>true
theorem wj{v:AV}(h:v.told=true):v≠ .junk:=by rintro rfl;cases h
/-! ### Literals of structs and arrays -/
def iD(place:Nat→Option (Nat×Nat))(cells:List AV):List (Nat×AV)→Option (List AV)
 | []=>some cells
 |(i,v)::rest=>match place i with
  |some (off,size)=>if v.cells.length=size∧off+size≤cells.length∧v.told=true then iD place (cz cells off v.cells) rest else none
  |none=>none
inductive VRp (F:Nat→Nat→Prop) (w:World) (μ:Nat→Option Loc):List (Nat×AV)→List (Nat×Value)→Prop
 |nil:VRp F w μ [] []
 |cons (i:Nat) (v:AV) (V:Value) (ps:List (Nat×AV)) (Ps:List (Nat×Value)) (h:VR F w μ v V) (t:VRp F w μ ps Ps):VRp F w μ ((i,v)::ps) ((i,V)::Ps)
theorem uL(Vs:List Value):∀(c:Array Value) (off k:Nat),(Vs.zipIdx k).foldl (fun cs (x:Value×Nat)=>cs.setIfInBounds (off+x.2) x.1) c=gW c (off+k) Vs:=by
 induction Vs with
 |nil=>intro c off k;rfl
 |cons V Vs ih=>intro c off k;simp only[List.zipIdx_cons,List.foldl_cons,ih,gW];rw[Nat.add_assoc]
theorem VRs.upd{cs vs:List AV}{C:Array Value}{Vs:List Value}(h:VRs F w μ cs C.toList)(k:VRs F w μ vs Vs){off:Nat}(hle:off+vs.length≤cs.length):
    VRs F w μ (cz cs off vs) (gW C off Vs).toList:=by
  have hl:=VRs.len k;have hc:=VRs.len h;rw[Array.length_toList]at hc;have h1: ∀(i:Nat) (v:AV),(cz cs off vs)[i]? =some v→ ∃V,(gW C off Vs)[i]? =some V∧VR F w μ v V:=by
    intro i v hi;rw[nu _ _ _ hle]at hi;rw[nt _ _ _ (by omega)];split at hi
    · rename_i h12
      rw[if_pos (by omega)];exact k.get hi
    · rw[if_neg (by omega)]
      obtain⟨V,h3,h4⟩:=h.get hi;exact⟨V,by rw[Array.getElem?_toList]at h3;exact h3,h4⟩
  obtain⟨Ws,h5,h6⟩:=da (F:=F) (w:=w) (μ:=μ) (g:=fun i=>(gW C off Vs)[i]?) h1;have:Ws=(gW C off Vs).toList:=by
    apply List.ext_getElem?;intro i;by_cases hi:i<Ws.length
    · have e:Ws[i]? =some Ws[i]:=List.getElem?_eq_getElem hi
      rw[e,Array.getElem?_toList,h6 i _ e]
    · have hw:=VRs.len h5
      rw[iA]at hw;rw[List.getElem?_eq_none (by omega),List.getElem?_eq_none (by rw[Array.length_toList,lE];omega)]
  rw[←this];exact h5
theorem mX {place:Nat→Option (Nat×Nat)} {ps:List (Nat×AV)} {Ps:List (Nat×Value)} (hp:VRp F w μ ps Ps): ∀{cs cs':List AV} {C:Array Value},VRs F w μ cs C.toList→iD place cs ps=some cs'→
    ∃C',Instr.fill place C Ps=some C'∧VRs F w μ cs' C'.toList:=by
  induction hp with
  |nil=>intro cs cs' C h hf;simp[iD]at hf;subst hf;exact⟨C,rfl,h⟩
  | cons i v V ps Ps hv t ih=>
    intro cs cs' C h hf;unfold iD at hf;split at hf
    · rename_i off size hpl
      split at hf
      · rename_i hh
        obtain⟨h1,h2,h3⟩:=hh;have hc:=VR.cells hv (wj h3);have hl:=VRs.len hc;have hcl:=VRs.len h;rw[Array.length_toList]at hl hcl;obtain⟨C',h5,h6⟩:=ih (h.upd hc (by omega)) hf;refine⟨C',?_,h6⟩;unfold Instr.fill;simp only[hpl];rw[if_neg (by simp;omega)];have:=uL V.cells.toList C off 0;rw[Nat.add_zero]at this;rw[←Array.foldl_toList,Array.toList_zipIdx];rw[show(List.foldl (fun cs x=>match x with|(c,j)=>cs.setIfInBounds (off+j) c) C V.cells.toList.zipIdx)=List.foldl (fun cs (x:Value×Nat)=>cs.setIfInBounds (off+x.2) x.1) C V.cells.toList.zipIdx from rfl,this];exact h5
      · cases hf
    · cases hf
def FC(P:Program)(t:TypeId):Option (List (Nat×Nat)):=
 match P.underlying t with
 |some (.struct fs)=>fs.toList.mapM fun f=>(tsz P f.type).map fun n=>(f.offset,n)
 |_=>none
theorem run_places {fs:List Field}: ∀{ps:List (Nat×Nat)},fs.mapM (fun f=>(tsz P f.type).map fun n=>(f.offset,n))=some ps→
    (fs.mapM (fun f=>do pure (f.offset,←sizeOf f.type):Field→Sem (Nat×Nat))).run P w=.ok ps w:=by
  induction fs with
  |nil=>intro ps h;simp at h;subst h;rfl
  | cons f fs ih=>
    intro ps h;simp only[List.mapM_cons]at h;cases hn:tsz P f.type with
    |none=>rw[hn]at h;cases h
    | some n=>
      rw[hn]at h;cases hr:fs.mapM (fun f=>(tsz P f.type).map fun n=>(f.offset,n))with
      |none=>rw[hr]at h;cases h
      | some rs=>
        rw[hr]at h;cases h;have:=ih hr;simp only[List.mapM_cons,Sem.run_bind,aK hn,Result.andThen,Sem.run_pure,this]
def bW(P:Program)(t:TypeId)(ps:List (Nat×AV)):Option AV:=
 match bS P t,P.underlying t with
 |some z,some (.struct _)=>match FC P t with
  |some fl=>if z.told=true then(iD (fl[·]?) z.cells ps).map .agg else none
  |none=>none
 |some z,some (.array _ e)=>match tsz P e with
  |some n=>if z.told=true then(iD (fun i=>some (i*n,n)) z.cells ps).map .agg else none
  |none=>none
 |_,_=>none
theorem uM(s:Sim w0 F0 F μ H w){t:TypeId}{ps:List (Nat×AV)}{Ps:Array (Nat×Value)}{v:AV}(hp:VRp F w μ ps Ps.toList)(h:bW P t ps=some v):bT P (Instr.build t Ps) w0 F0 F μ w v H:=by
 unfold bW at h;split at h
 ·rename_i z fs hz hu
  split at h
  ·rename_i fl hfl
   split at h
   case isFalse=>cases h
   cases hf:iD (fl[·]?) z.cells ps with
   |none=>rw[hf]at h;cases h
   | some cs=>
    rw[hf]at h;cases h;obtain⟨Z,h1,_,h3⟩:=dy (P:=P) (F:=F) (μ:=μ) hz w;obtain⟨C',h4,h5⟩:=mX hp h3 hf;unfold FC at hfl;rw[hu]at hfl;have hm:=run_places (P:=P) (w:=w) hfl;refine .aN s (V:=.agg C') ?_ (.agg _ _ h5);have harr:(fs.mapM (fun f=>do pure (f.offset,←sizeOf f.type):Field→Sem (Nat×Nat))).run P w=.ok fl.toArray w:=by
     rw[Array.mapM_eq_mapM_toList,Sem.run_map,hm];rfl
    simp only[Instr.build,Sem.run_bind,h1,Result.andThen,run_underlying hu,harr];have:(fun(x:Nat)=>fl.toArray[x]?)=(fun x=>fl[x]?):=by funext x;simp
    simp only[this,h4,Sem.run_pure]
  ·cases h
 ·rename_i z n e hz hu
  split at h
  ·rename_i k hk
   split at h
   case isFalse=>cases h
   cases hf:iD (fun i=>some (i*k,k)) z.cells ps with
   |none=>rw[hf]at h;cases h
   |some cs=>
    rw[hf]at h;cases h;obtain⟨Z,h1,_,h3⟩:=dy (P:=P) (F:=F) (μ:=μ) hz w;obtain⟨C',h4,h5⟩:=mX hp h3 hf;refine .aN s (V:=.agg C') ?_ (.agg _ _ h5);simp only[Instr.build,Sem.run_bind,h1,Result.andThen,run_underlying hu,aK hk,h4,Sem.run_pure]
  ·cases h
 ·cases h
/-! ### Literals of slices -/
def ko(k:Nat):List AV:=List.replicate k .junk
theorem mn(done vs rest:List AV)(hl:vs.length≤rest.length):cz (done++rest) done.length vs=done++vs++rest.drop vs.length:=by
 induction vs generalizing done rest with
 |nil=>simp[cz]
 | cons v vs ih=>
  cases rest with
  |nil=>simp at hl
  | cons r rest=>
   rw[cz];have h1:(done++r::rest).set done.length v=(done++[v])++rest:=by
    rw[List.set_append_right _ _ (Nat.le_refl _)];simp
   rw[h1];have:=ih (done++[v]) rest (by simpa using hl);rw[List.length_append,List.length_singleton]at this;rw[this];simp
theorem mq(n:Nat): ∀(es done:List AV) (k:Nat),done.length=k*n→(∀v∈es,v.cells.length=n∧v.told=true)→
    iD (fun i=>some (i*n,n)) (done++ko (es.length*n)) ((List.range' k es.length).zip es)=some (done++es.flatMap AV.cells):=by
  intro es;induction es with
  |nil=>intro done k h1 h2;simp[iD,ko]
  | cons v es ih=>
    intro done k h1 h2;obtain⟨h3,h4⟩:=h2 v (by simp);rw[List.length_cons,List.range'_succ,List.zip_cons_cons,iD];simp only;have hjl:(ko ((es.length+1)*n)).length=(es.length+1)*n:=by simp[ko]
    rw[if_pos ⟨h3,by rw[List.length_append,hjl,h1,Nat.add_mul];omega,h4⟩,←h1,mn _ _ _ (by simp[ko,h3,Nat.add_mul])];have hj:(ko ((es.length+1)*n)).drop v.cells.length=ko (es.length*n):=by
      rw[h3];unfold ko;rw[List.drop_replicate];congr 1;rw[Nat.add_mul];omega
    rw[hj,ih (done++v.cells) (k+1) (by rw[List.length_append,h1,h3,Nat.add_mul];omega) (fun u hu=>h2 u (by simp[hu]))];simp
def au(P:Program)(t:TypeId)(len:Nat)(ps:List (Nat×AV)):Option AV:=
 match P.underlying t with
 |some (.slice e)=>match apT P e with
  |some (n,wd,_)=>if ps.map (·.1)=List.range' 0 len∧len*n≤16777216∧(ps.all fun p=>p.2.cells.length==n&&p.2.told)=true then some (.vsl wd true (ps.map (·.2)))else none
  |none=>none
 |_=>none
theorem zip_unzip(ps:List (Nat×AV)):(ps.map (·.1)).zip (ps.map (·.2))=ps:=by
 induction ps with
 |nil=>rfl
 |cons p ps ih=>simp[ih]
theorem sG(A:List Value):VRs F w μ (ko A.length) A:=by
 induction A with
 |nil=>exact .nil
 |cons V A ih=>exact .cons _ _ _ _ (.junk V) ih
theorem mP (s:Sim w0 F0 F μ H w) {t len:Nat} {ps:List (Nat×AV)} {Ps:Array (Nat×Value)} {v:AV} (hp:VRp F w μ ps Ps.toList) (h:au P t len ps=some v):
    bT P (Instr.buildSlice t len Ps) w0 F0 F μ w v H:=by
  unfold au at h;split at h
  case h_2=>cases h
  rename_i e hu;split at h
  case h_2=>cases h
  rename_i n wd by_ hap;obtain⟨z,ht⟩:=je hap;split at h
  case isFalse=>cases h
  rename_i hh;obtain⟨h1,h2,h3⟩:=hh;cases h;have hlen:(ps.map (·.2)).length=len:=by
    have:=congrArg List.length h1;simpa using this
  have hall: ∀v∈ps.map (·.2),v.cells.length=n∧v.told=true:=by
    intro v hv;obtain⟨p,hp1,rfl⟩:=List.mem_map.1 hv;have:=List.all_eq_true.1 h3 p hp1;simpa using this
  have hz:ps=(List.range' 0 (ps.map (·.2)).length).zip (ps.map (·.2)):=by rw[hlen,←h1];exact(zip_unzip ps).symm
  have hfr:=mq n (ps.map (·.2)) [] 0 (by simp) hall;rw[←hz,hlen]at hfr;simp only[List.nil_append]at hfr;obtain⟨Z,hZ1,_,hZ3⟩:=dy (P:=P) (F:=F) (μ:=μ) ht.zero w;have hZs:Z.cells.size=n:=by rw[←Array.length_toList,VRs.len hZ3];exact ht.zlen
  let C0:Array Value:=(Array.range (len*n)).map fun i=>(if len*n=0 then(#[]:Array Value)else Z.cells)[i%(if len*n=0 then(#[]:Array Value)else Z.cells).size]!
  have hC0:C0.size=len*n:=by simp[C0]
  have hj:=sG (F:=F) (w:=w) (μ:=μ) C0.toList;rw[Array.length_toList,hC0]at hj;obtain⟨C',h4,h5⟩:=mX hp hj hfr;have hn1:=ht.n1;have hrun:(Instr.buildSlice t len Ps).run P w=.ok (.slice (some ⟨w.heap.size,0,none⟩) len len) {w with heap:=w.heap.push (.cells C' e)}:=by
    have hsm: ¬len*n>2^24:=by omega
    have hsm': ¬16777216<len*n:=by omega
    by_cases h0:len*n=0
    · have hC0':C0=(Array.range (len*n)).map fun i=>(#[]:Array Value)[i%(#[]:Array Value).size]! :=by simp[C0,h0]
      rw[hC0']at h4;simp only[Instr.buildSlice,Sem.run_bind,run_underlying hu,Result.andThen,aK ht.tsz];rw[if_neg hsm];simp only[Sem.run_bind,Sem.run_ite,Result.andThen];rw[if_pos h0];simp only[Sem.run_pure,Result.andThen,h4,Sem.run_bind,newRow,run_newObj]
    · have hC0':C0=(Array.range (len*n)).map fun i=>Z.cells[i%Z.cells.size]! :=by simp[C0,h0]
      rw[hC0']at h4;simp only[Instr.buildSlice,Sem.run_bind,run_underlying hu,Result.andThen,aK ht.tsz];rw[if_neg hsm];simp only[Sem.run_bind,Sem.run_ite,Result.andThen];rw[if_neg h0];simp only[Sem.run_bind,hZ1,Result.andThen,Sem.run_pure,h4,newRow,run_newObj]
  obtain⟨x1,s1⟩:=s.Gh (.cells C' e);refine⟨_,_,_,μ,hrun,x1,s1,?_⟩
  have key:=VR.vsl (F:=fun b i=>F b i∨b=w.heap.size) (w:={w with heap:=w.heap.push (.cells C' e)}) (μ:=μ) wd true (ps.map (·.2)) (some ⟨w.heap.size,0,none⟩) len (fun _=>hlen.symm) (by omega) (by unfold ay;have:len≤len*n:=Nat.le_mul_of_pos_right _ hn1;omega) (by
    refine .at _ _ _ _ (.of fun i v hi=> ?_);rw[←ht.nwd];have hmem:v∈ps.map (·.2):=List.mem_of_getElem? hi;refine⟨(hall v hmem).1,.of fun j u hj=> ?_⟩;refine⟨.inr rfl,?_⟩;have hflat: ∀(es:List AV) (i:Nat) (v:AV),(∀v∈es,v.cells.length=n)→es[i]? =some v→ ∀j u,v.cells[j]? =some u→(es.flatMap AV.cells)[i*n+j]? =some u:=by
      intro es;induction es with
      |nil=>intro i v _ hi;simp at hi
      | cons a es ih=>
        intro i v ha hi j u hj;rw[List.flatMap_cons];cases i with
        | zero=>
          simp at hi;subst hi;have:=(List.getElem?_eq_some_iff.1 hj).1;rw[Nat.zero_mul,Nat.zero_add,List.getElem?_append_left this];exact hj
        | succ i=>
          rw[List.getElem?_append_right (by rw[ha a (by simp),Nat.add_mul];omega),ha a (by simp),show(i+1)*n+j - n=i*n+j from by rw[Nat.add_mul];omega];exact ih i v (fun v hv=>ha v (by simp[hv])) (by simpa using hi) j u hj
    have hf:=hflat _ i v (fun v hv=>(hall v hv).1) hi j u hj;obtain⟨V,h6,h7⟩:=h5.get hf;rw[Array.getElem?_toList]at h6;refine⟨V,?_,VR.mono x1 h7⟩;rw[dH _ _ _ C' e (0,0) (by rw[cA,if_pos rfl]),show 0+i*n+j=i*n+j from by omega]
    exact h6)
  rw[hlen]at key;exact key
end
section
variable{P:Program} {w0:World} {F0 F:Nat→Nat→Prop} {μ:Nat→Option Loc} {H:List OB} {w:World}
/-! ### make([]T, n, c) -/
def rep(c:Nat)(l:List AV):List AV:=(List.replicate c l).flatten
theorem db(c:Nat)(l:List AV):(rep c l).length=c*l.length:=by simp[rep]
theorem qN(l:List AV):∀(c i:Nat) (v:AV),(rep c l)[i]? =some v→l[i%l.length]? =some v:=by
 intro c;induction c with
 |zero=>intro i v h;simp[rep]at h
 | succ c ih=>
  intro i v h;have:rep (c+1) l=l++rep c l:=by simp[rep,List.replicate_succ]
  rw[this,List.getElem?_append]at h;split at h
  ·rename_i hlt;rw[Nat.mod_eq_of_lt hlt];exact h
  ·rename_i hge
   have:=ih _ _ h;rw[←Nat.mod_eq_sub_mod (by omega)]at this;exact this
def cX(P:Program)(t:TypeId)(l c:AV)(H:List OB):Option (AV×List OB):=
 match P.underlying t,idx l,idx c with
 |some (.slice e),some l,some c=>match apT P e,bS P e with
  |some (_,wd,bytes),some z=>if l≤c∧c*bytes≤2^47 then some (.sl H.length 0 l wd,H++[.cells (rep c z.cells) false])else none
  |_,_=>none
 |_,_,_=>none
theorem nC(s:Sim w0 F0 F μ H w){t:TypeId}{l c v:AV}{L C:Value}{H':List OB}(hl:VR F w μ l L)(hc:VR F w μ c C)(h:cX P t l c H=some (v,H')):
    bT P (Instr.makeSlice t L C) w0 F0 F μ w v H':=by
  unfold cX at h;split at h
  case h_2=>cases h
  rename_i e ln cn hu hln hcn;obtain⟨k1,rfl⟩:=fp hl hln;obtain⟨k2,rfl⟩:=fp hc hcn;split at h
  case h_2=>cases h
  rename_i n wd bytes z hap hz;obtain⟨z',ht⟩:=je hap;have:z'=z:=by have:=ht.zero;rw[hz]at this;cases this;rfl
  subst this;split at h
  case isFalse=>cases h
  rename_i hh;obtain⟨hlc,hbig⟩:=hh;cases h;have hb1:=ht.b1;have hn1:=ht.n1;have hc47:cn≤2^47:=Nat.le_trans (Nat.le_mul_of_pos_right _ hb1) hbig;obtain⟨i,hi,hi1,hi2⟩:=ht.info;obtain⟨Z,hZ1,_,hZ3⟩:=dy (P:=P) (F:=F) (μ:=μ) hz w;have hZs:Z.cells.size=n:=by rw[←Array.length_toList,VRs.len hZ3];exact ht.zlen
  let CC:Array Value:=(Array.range (cn*n)).map fun i=>(if cn*n=0 then(#[]:Array Value)else Z.cells)[i%(if cn*n=0 then(#[]:Array Value)else Z.cells).size]!
  have hw1:IntKind.i64.wrap (ln:Int)=ln:=IntWalk.i64_in _ (by omega);have hw2:IntKind.i64.wrap (cn:Int)=cn:=IntWalk.i64_in _ (by omega);have hbm: ∀k:Nat,k≤cn→ ¬((bytes:Int)*(k:Int)>2^48):=by
    intro k hk;have h1:k*bytes≤cn*bytes:=Nat.mul_le_mul_right _ hk;have h2:(bytes:Int)*(k:Int)=((k*bytes:Nat):Int):=by rw[Int.natCast_mul,Int.mul_comm]
    rw[h2];omega
  have hrun:(Instr.makeSlice t (.int k1 ln) (.int k2 cn)).run P w=.ok (.slice (some ⟨w.heap.size,0,none⟩) ln cn) {w with heap:=w.heap.push (.cells CC e)}:=by
    have h1:=hbm cn (Nat.le_refl _);simp only[Instr.makeSlice,Sem.run_bind,run_underlying hu,Result.andThen,asInt,asIntOf,Sem.run_pure,run_typeInfo hi,hw1,hw2,hi2];rw[if_neg (by simp;omega)];simp only[Sem.run_bind,run_askRoom,Result.andThen,aK ht.tsz,Int.toNat_natCast];by_cases h0:cn*n=0
    · simp only[Sem.run_ite,h0,if_true,Sem.run_pure,Result.andThen,newRow,Sem.run_bind,run_newObj,Int.toNat_natCast,CC]
    · simp only[Sem.run_ite,if_neg h0,Sem.run_bind,hZ1,Result.andThen,Sem.run_pure,newRow,run_newObj,Int.toNat_natCast,CC]
  have hCCs:CC.size=cn*n:=by simp[CC]
  obtain⟨μ',x1,h2,s1⟩:=s.alloc (.cells CC e) (.cells (rep cn z'.cells) false) ⟨w.heap.size,0,cn*n⟩ rfl (fun μ' x hμ' hF=>by
    refine .cells _ _ ⟨w.heap.size,0,cn*n⟩ CC e 0 0 hμ' s.below.size (by rw[cA];exact if_pos rfl) (by show 0+cn*n≤_;omega) (by rw[db,ht.zlen];exact Nat.le_refl _) (fun _=>by rw[db,ht.zlen]) (fun o _ _ h=>by omega) ?_ hF;intro i v hi;have hlt:i<cn*n:=by have:=(List.getElem?_eq_some_iff.1 hi).1;rw[db,ht.zlen]at this;exact this
    have hne:cn*n≠0:=by omega
    have hz:=qN _ _ _ _ hi;obtain⟨V,h3,h4⟩:=hZ3.get hz;refine⟨V,?_,VR.mono x h4⟩;rw[Array.getElem?_toList,ht.zlen]at h3;show CC[0+i]? =_;rw[Nat.zero_add];simp only[CC,Array.getElem?_map,Array.getElem?_range,if_pos hlt,Option.map_some,if_neg hne,hZs];congr 1
    rw[getElem!_def,h3])
  refine⟨_,_,F,μ',hrun,x1,s1,?_⟩;exact .sl H.length 0 ln wd cn ⟨w.heap.size,0,cn*n⟩ h2 (by rw[←ht.nwd];exact Nat.zero_add _) hlc (by unfold ay;omega)
/-! ### Maps -/
def nD:TypeDesc→Bool
 | .string| .bool| .int _=>true
 |_=>false
def iE:TypeDesc→AV→AV→Option Bool
 | .string,.str a,.str b=>some (a==b)
 | .bool,.bool a,.bool b=>some (a==b)
 | .int _,.int k a,.int k' b=>if k=k' then some (a==b)else none
 |_,_,_=>none
def fj(d:TypeDesc)(key:AV):List AV→Nat→Option (Option Nat)
 | [],_=>some none
 |k::ks,i=>match iE d key k with
  |some true=>some (some i)
  |some false=>fj d key ks (i+1)
  |none=>none
theorem zB(x y:Bytes):((⟨x.toArray⟩:ByteArray)==⟨y.toArray⟩)=(x==y):=by
 show(x.toArray==y.toArray)=_;simp
theorem sH{d:TypeDesc}{a b:AV}{A B:Value}{t:Bool}(ha:VR F w μ a A)(hb:VR F w μ b B)(h:iE d a b=some t):Instr.sameNow d A B=some t∧(t=true→A=B):=by
 unfold iE at h;split at h
 ·cases h
  cases ha;cases hb;refine⟨?_,?_⟩
  ·simp only[Instr.sameNow,zB]
  ·intro e;simp at e;subst e;rfl
 ·cases h
  cases ha;cases hb;exact⟨rfl,fun e=>by simp at e;subst e;rfl⟩
 ·split at h
  ·rename_i hk
   cases h;cases ha;cases hb;subst hk;exact⟨by simp[Instr.sameNow],fun e=>by simp at e;subst e;rfl⟩
  ·cases h
 ·cases h
theorem kp {d:TypeDesc} {key:AV} {K:Value} (hK:VR F w μ key K): ∀{ks vs:List AV} {es:List MapEntry} {i:Nat} {r:Option Nat},VRk F w μ ks vs es→fj d key ks i=some r→
    (r=none→Instr.findNow d K es i=some none)∧(∀j,r=some j→i≤j∧ ∃e v,es[j - i]? =some e∧vs[j - i]? =some v∧VR F w μ v e.val∧e.key=K∧ks[j - i]?.isSome=true∧Instr.findNow d K es i=some (some (j,e.val))):=by
  intro ks;induction ks with
  | nil=>
    intro vs es i r h hf;cases h;simp[fj]at hf;subst hf;exact⟨fun _=>rfl,(fun j hj=>by cases hj)⟩
  | cons k ks ih=>
    intro vs es i r h hf;cases h with
    | cons _ v _ vs e es hk hv t=>
      unfold fj at hf;split at hf
      · rename_i hq
        cases hf;obtain⟨h1,h2⟩:=sH hK hk hq;refine⟨(fun h=>by cases h),fun j hj=> ?_⟩;cases hj;refine⟨Nat.le_refl _,e,v,by simp,by simp,hv,(h2 rfl).symm,by simp,?_⟩;simp[Instr.findNow,h1]
      · rename_i hq
        obtain⟨h1,h2⟩:=sH hK hk hq;obtain⟨h3,h4⟩:=ih t hf;refine⟨fun hr=>by simp only[Instr.findNow,h1];exact h3 hr,fun j hj=> ?_⟩;obtain⟨h5,e',v',h6,h7,h8,h9,h10,h11⟩:=h4 j hj;refine⟨by omega,e',v',?_,?_,h8,h9,?_,by simp only[Instr.findNow,h1];exact h11⟩
        · rw[show j - i=(j - (i+1))+1 from by omega];simpa using h6
        · rw[show j - i=(j - (i+1))+1 from by omega];simpa using h7
        · rw[show j - i=(j - (i+1))+1 from by omega];simpa using h10
      · cases hf
theorem pd{kt:TypeId}{d:TypeDesc}(hu:P.underlying kt=some d)(hd:nD d=true)(emp:Bool)(K:Value)(n:Nat):(Instr.checkKey emp (n+1) kt K).run P w=.ok () w:=by
 cases d<;>first|(cases hd;done)|(cases K<;>simp[Instr.checkKey,run_underlying hu])
theorem run_checkKey{kt:TypeId}{d:TypeDesc}(hu:P.underlying kt=some d)(hd:nD d=true)(emp:Bool)(K:Value):(Instr.checkKey emp 10000 kt K).run P w=.ok () w:=pd hu hd emp K 9999
theorem run_findKey{kt:TypeId}{d:TypeDesc}(hu:P.underlying kt=some d){K:Value}{es:List MapEntry}{r:Option (Nat×Value)}(h:Instr.findNow d K es 0=some r):(Instr.findKey kt K es).run P w=.ok r w:=by
 simp[Instr.findKey,run_underlying hu,h]
theorem nE {t kt et:TypeId} (hu:P.underlying t=some (.map kt et)) {d:TypeDesc} (hd:P.underlying kt=some d) (hkd:nD d=true) {X K Z:Value} {es:List MapEntry} {ok:Bool}
    (hX:(X=.map none∧es=[])∨ ∃r E clock,X=.map (some r)∧w.heap[r]? =some (.map E clock)∧E.toList=es) {r:Option (Nat×Value)} (hf:Instr.findNow d K es 0=some r) (hZ:(zeroValue et).run P w=.ok Z w):
    (Instr.lookup t X K ok).run P w=.ok (if ok then .tuple #[(r.map (·.2)).getD Z,.bool r.isSome]else(r.map (·.2)).getD Z) w:=by
  rcases hX with⟨rfl,rfl⟩|⟨q,E,clock,rfl,hq,rfl⟩
  · have hfk:=run_findKey (P:=P) (w:=w) hd hf
    simp only[Instr.lookup,Sem.run_bind,run_underlying hu,Result.andThen,Sem.run_pure,run_checkKey hd hkd];rw[hfk];cases r with
    |none=>simp[hZ]
    |some p=>simp
  · have hfk:=run_findKey (P:=P) (w:=w) hd hf
    simp only[Instr.lookup,Sem.run_bind,run_underlying hu,Result.andThen,getObj,Sem.run,hq,Sem.run_pure,run_checkKey hd hkd,hfk];cases r with
    |none=>simp[hZ]
    |some p=>simp
def dA (P :Program) (t:TypeId) (x key:AV) (ok:Bool) (H:List OB):Option AV:=
  match P.underlying t with
  | some (.map kt et)=>match P.underlying kt,bS P et with
    | some d,some z=>if nD d=true then
        match(match x with| .nilmap=>some ([],[])| .vmap ks vs=>some (ks,vs)| .map id=>(match H[id]? with|some (.map ks vs)=>some (ks,vs)|_=>none)|_=>none)with
        | some (ks,vs)=>match fj d key ks 0 with
          |some (some j)=>(vs[j]?).map fun v=>if ok then .tup [v,.bool true]else v
          |some none=>some (if ok then .tup [z,.bool false]else z)
          |none=>none
        |none=>none
      else none
    |_,_=>none
  |_=>none
theorem sI (s:Sim w0 F0 F μ H w) {t:TypeId} {x key v:AV} {X K:Value} {ok:Bool} (hx:VR F w μ x X) (hk:VR F w μ key K) (h:dA P t x key ok H=some v):
    bT P (Instr.lookup t X K ok) w0 F0 F μ w v H:=by
  unfold dA at h;split at h
  case h_2=>cases h
  rename_i kt et hu;split at h
  case h_2=>cases h
  rename_i d z hd hz;split at h
  case isFalse=>cases h
  rename_i hkd;split at h
  case h_2=>cases h
  rename_i ks vs hks;have hent : ∃es:List MapEntry,VRk F w μ ks vs es∧((X=.map none∧es=[])∨ ∃r E clock,X=.map (some r)∧w.heap[r]? =some (.map E clock)∧E.toList=es):=by
    split at hks
    · cases hks
      cases hx;exact⟨[],.nil,.inl ⟨rfl,rfl⟩⟩
    · cases hks
      cases hx with
      |vmap _ _ r E clock hF hr hbb hes=>exact⟨E.toList,hes,.inr ⟨r,E,clock,rfl,hr,rfl⟩⟩
    · rename_i id
      split at hks
      · rename_i ks' vs' hid
        cases hks;cases hx with
        | map _ L hμ=>
          cases s.obs id _ hid with
          | map _ _ L' E clock hμ' hB hw hes hb hF=>
            rw[hμ]at hμ';cases hμ';exact⟨E.toList,hes,.inr ⟨_,E,clock,rfl,hw,rfl⟩⟩
      · cases hks
    · cases hks
  obtain⟨es,hes,hX⟩:=hent;obtain⟨Z,hZ1,hZ2,_⟩:=dy (P:=P) (F:=F) (μ:=μ) hz w;split at h
  · rename_i j hj
    obtain⟨_,h2⟩:=kp hk hes hj;obtain⟨_,e,v',h5,h6,h7,_,_,h11⟩:=h2 j rfl;rw[Nat.sub_zero]at h6;rw[h6]at h;cases h;refine .aN s (nE (ok:=ok) hu hd hkd hX h11 hZ1) ?_;cases ok
    · exact h7
    · exact .tup _ #[e.val,.bool true] (.cons _ _ _ _ h7 (.cons _ _ _ _ (.bool true) .nil))
  · rename_i hj
    obtain⟨h1,_⟩:=kp hk hes hj;cases h;refine .aN s (nE (ok:=ok) hu hd hkd hX (h1 rfl) hZ1) ?_;cases ok
    · exact hZ2
    · exact .tup _ #[Z,.bool false] (.cons _ _ _ _ hZ2 (.cons _ _ _ _ (.bool false) .nil))
  · cases h
theorem VRk.set {ks vs:List AV} {es:List MapEntry} (h:VRk F w μ ks vs es): ∀{j:Nat} {e:MapEntry} {v:AV} {V K:Value},es[j]? =some e→VR F w μ v V→e.key=K→
    VRk F w μ ks (vs.set j v) (es.set j {e with key:=K,val:=V}):=by
  induction ks generalizing vs es with
  |nil=>cases h;intro j e v V K hj;simp at hj
  | cons k ks ih=>
    cases h with
    | cons _ v0 _ vs e0 es hk hv t=>
      intro j e v V K hj hV hK;cases j with
      | zero=>
        simp at hj;subst hj;exact .cons k v ks vs _ es (by rw[←hK];exact hk) hV t
      |succ j=>exact .cons k v0 ks _ e0 _ hk hv (ih t (by simpa using hj) hV hK)
theorem VRk.push{ks vs:List AV}{es:List MapEntry}(h:VRk F w μ ks vs es){k v:AV}{e:MapEntry}(hk:VR F w μ k e.key)(hv:VR F w μ v e.val):VRk F w μ (ks++[k]) (vs++[v]) (es++[e]):=by
 induction ks generalizing vs es with
 |nil=>cases h;exact .cons k v [] [] e [] hk hv .nil
 |cons k0 ks ih=>cases h with|cons _ v0 _ vs e0 es hk0 hv0 t=>exact .cons k0 v0 _ _ e0 _ hk0 hv0 (ih t)
theorem qO{d:TypeDesc}{key k:AV}{K:Value}(hK:VR F w μ key K)(h:iE d key k=some true):Instr.sameBits 10000 K K=true:=by
 show Instr.sameBits (9999+1) K K=true;unfold iE at h;split at h
 ·cases hK;simp[Instr.sameBits,zB]
 ·cases hK;simp[Instr.sameBits]
 ·cases hK;simp[Instr.sameBits]
 ·cases h
theorem zC{d:TypeDesc}{key:AV}:∀{ks:List AV} {i j:Nat},fj d key ks i=some (some j)→∃k,iE d key k=some true:=by
 intro ks;induction ks with
 |nil=>intro i j h;simp[fj]at h
 |cons k ks ih=>
  intro i j h;unfold fj at h;split at h
  ·exact⟨k,‹_›⟩
  ·exact ih h
  ·cases h
def eU (P:Program) (t:TypeId) (x key v:AV) (H:List OB):Option (List OB):=
  match P.underlying t,x with
  | some (.map kt _),.map id=>match P.underlying kt,H[id]? with
    | some d,some (.map ks vs)=>if nD d=true then
        match fj d key ks 0 with
        |some (some j)=>some (H.set id (.map ks (vs.set j v)))
        |some none=>some (H.set id (.map (ks++[key]) (vs++[v])))
        |none=>none
      else none
    |_,_=>none
  |_,_=>none
theorem iG (s : Sim w0 F0 F μ H w) {t:TypeId} {x key v:AV} {X K V:Value} {H':List OB} (hx:VR F w μ x X) (hk:VR F w μ key K) (hv:VR F w μ v V) (h:eU P t x key v H=some H'):
    ∃w',(Instr.mapUpdate t X K V).run P w=.ok () w'∧Ext F w μ F w' μ∧Sim w0 F0 F μ H' w':=by
  unfold eU at h;split at h
  case h_2=>cases h
  rename_i kt et id hu;split at h
  case h_2=>cases h
  rename_i d ks vs hd hid;split at h
  case isFalse=>cases h
  rename_i hkd;cases hx with
  | map _ L hμ =>
    have hob:=s.obs id _ hid;cases hob with
    | map _ _ L' E clock hμ' hB hw hes hb hF=>
      rw[hμ]at hμ';cases hμ';have hlt:L.block<w.heap.size:=(Array.getElem?_eq_some_iff.1 hw).1;split at h
      · rename_i j hj
        cases h;obtain⟨_,h2⟩:=kp hk hes hj;obtain⟨_,e,v',h5,h6,h7,h8,h9,h11⟩:=h2 j rfl;rw[Nat.sub_zero]at h5 h6;obtain⟨k0,hk0⟩:=zC hj;have hsb:=qO hk hk0;have hEj:E[j]? =some e:=by rw[←Array.getElem?_toList];exact h5
        have hmod:E.modify j (fun e=>{e with key:=K,val:=V})=(E.toList.set j {e with key:=K,val:=V}).toArray:=by
          apply Array.ext_getElem?;intro i;rw[Array.getElem?_modify,show(E.toList.set j {e with key:=K,val:=V}).toArray[i]? =(E.toList.set j {e with key:=K,val:=V})[i]? from by simp,List.getElem?_set];split
          · rename_i e1
            subst e1;have hjl:=(List.getElem?_eq_some_iff.1 h5).1;rw[hEj,if_pos hjl];rfl
          · rw[Array.getElem?_toList]
        have hrun:(Instr.mapUpdate t (.map (some L.block)) K V).run P w=.ok () {w with heap:=w.heap.setIfInBounds L.block (.map (E.modify j (fun e=>{e with key:=K,val:=V})) clock)}:=by
          simp only[Instr.mapUpdate,Sem.run_bind,run_underlying hu,Result.andThen];simp[getObj,setObj,Sem.run,hw,run_checkKey hd hkd,run_findKey hd h11,Instr.keyThatStays,hEj,h8,hsb]
        obtain ⟨x1,s1⟩:=s.write id _ (.map ks (vs.set j v)) L hid rfl hμ (.map (E.modify j (fun e=>{e with key:=K,val:=V})) clock) (fun x=>by
          refine .map _ _ L _ clock hμ hB (by show(w.heap.setIfInBounds L.block _)[L.block]? =_;rw[Array.getElem?_setIfInBounds,if_pos rfl,if_pos hlt]) ?_ ?_ hF
          · have hml:(E.modify j (fun e=>{e with key:=K,val:=V})).toList=E.toList.set j {e with key:=K,val:=V}:=by rw[hmod]
            rw[hml];exact VRk.mono x (hes.set h5 hv h8)
          · rw [hmod]
            refine⟨fun e' he'=> ?_,?_⟩
            · rcases List.mem_or_eq_of_mem_set (by simpa using he')with h12|h12
              · exact hb.lt e' h12
              · subst h12;exact hb.lt e (List.mem_of_getElem? h5)
            · have:(E.toList.set j {e with key:=K,val:=V}).map (·.born)=E.toList.map (·.born):=by
                apply List.ext_getElem?;intro i;simp only[List.getElem?_map,List.getElem?_set];split
                · rename_i e1
                  subst e1;rw[h5];have hjl:=(List.getElem?_eq_some_iff.1 h5).1;rw[if_pos hjl];rfl
                · rfl
              show((E.toList.set j {e with key:=K,val:=V}).toArray.toList.map (·.born)).Nodup;rw[show(E.toList.set j {e with key:=K,val:=V}).toArray.toList=E.toList.set j {e with key:=K,val:=V}from rfl,this]
              exact hb.own)
        exact⟨_,hrun,x1,s1⟩
      · rename_i hj
        cases h;obtain⟨h1,_⟩:=kp hk hes hj;have hrun:(Instr.mapUpdate t (.map (some L.block)) K V).run P w=.ok () {w with heap:=w.heap.setIfInBounds L.block (.map (E.push {key:=K,val:=V,born:=clock}) (clock+1))}:=by
          simp only[Instr.mapUpdate,Sem.run_bind,run_underlying hu,Result.andThen];simp[getObj,setObj,Sem.run,hw,run_checkKey hd hkd,run_findKey hd (h1 rfl)]
        obtain⟨x1,s1⟩:=s.write id _ (.map (ks++[key]) (vs++[v])) L hid rfl hμ (.map (E.push {key:=K,val:=V,born:=clock}) (clock+1)) (fun x=>by
          refine .map _ _ L _ (clock+1) hμ hB (by show(w.heap.setIfInBounds L.block _)[L.block]? =_;rw[Array.getElem?_setIfInBounds,if_pos rfl,if_pos hlt]) ?_ ?_ hF
          · rw[Array.toList_push]
            exact VRk.mono x (hes.push (e:={key:=K,val:=V,born:=clock}) hk hv)
          · rw[Array.toList_push]
            refine⟨fun e' he'=> ?_,?_⟩
            · rcases List.mem_append.1 he' with h12|h12
              · have:=hb.lt e' h12;omega
              · simp at h12;subst h12;simp
            · rw[List.map_append,List.nodup_append]
              refine⟨hb.own,by simp,?_⟩;intro x hx y hy;simp at hy;obtain⟨e',h13,rfl⟩:=List.mem_map.1 hx;have:=hb.lt e' h13
              omega)
        exact⟨_,hrun,x1,s1⟩
      · cases h
def lG(H:List OB):AV×List OB:=(.map H.length,H++[.map [] []])
theorem qP(s:Sim w0 F0 F μ H w)(t:TypeId):bT P (Instr.makeMap t none) w0 F0 F μ w (.map H.length) (H++[.map [] []]):=by
 obtain⟨μ',x1,h2,s1⟩:=s.alloc (.map #[] 0) (.map [] []) ⟨w.heap.size,0,0⟩ rfl (fun μ' x hμ' hF=>
  .map [] [] ⟨w.heap.size,0,0⟩ #[] 0 hμ' s.below.size (by rw[cA];exact if_pos rfl) .nil ⟨by simp,by simp⟩ hF)
 refine⟨.map (some w.heap.size),_,F,μ',?_,x1,s1,.map H.length ⟨w.heap.size,0,0⟩ h2⟩;simp[Instr.makeMap]
/-! ### min, max -/
def zD(x y:AV):Option AV:=
 match x,y with
 | .int k a,.int _ b=>some (.int k (if b>a then b else a))
 |_,_=>none
def zE(x y:AV):Option AV:=
 match x,y with
 | .int k a,.int _ b=>some (.int k (if b<a then b else a))
 |_,_=>none
theorem zF(s:Sim w0 F0 F μ H w){ts:Array TypeId}{rT:TypeId}{x y v:AV}{X Y:Value}(hx:VR F w μ x X)(hy:VR F w μ y Y)(h:zD x y=some v):bT P (Builtin.max_ ts rT #[X,Y]) w0 F0 F μ w v H:=by
 unfold zD at h;split at h
 ·cases h;cases hx;cases hy
  exact .aN s (by simp[Builtin.max_,Builtin.max2]) (.int _ _)
 ·cases h
theorem zG(s:Sim w0 F0 F μ H w){ts:Array TypeId}{rT:TypeId}{x y v:AV}{X Y:Value}(hx:VR F w μ x X)(hy:VR F w μ y Y)(h:zE x y=some v):bT P (Builtin.min_ ts rT #[X,Y]) w0 F0 F μ w v H:=by
 unfold zE at h;split at h
 ·cases h;cases hx;cases hy
  exact .aN s (by simp[Builtin.min_,Builtin.min2]) (.int _ _)
 ·cases h
end
/-! ### Values without handles -/
mutual
def AV.hf:AV→Bool
 | .ptr _ _| .sl _ _ _ _| .map _| .yld _=>false
 | .vptr l=>AV.hfs l
 | .vsl _ _ l=>AV.hfs l
 | .vmap ks vs=>AV.hfs ks&&AV.hfs vs
 | .func _ fs cs=>AV.hfs fs&&AV.hfs cs
 | .iface _ v=>AV.hf v
 | .agg l=>AV.hfs l
 | .tup l=>AV.hfs l
 |_=>true
def AV.hfs:List AV→Bool
 | []=>true
 |v::l=>AV.hf v&&AV.hfs l
end
theorem aR(l:List AV):AV.hfs l=l.all AV.hf:=by
 induction l with
 |nil=>rfl
 |cons v l ih=>simp[AV.hfs,ih]
def AV.sc1:AV→Bool
 | .bool _| .int _ _| .str _| .nilptr| .nilmap| .nilsl| .nilfunc| .nilif=>true
 |_=>false
def AV.one:AV→Bool
 | .agg _=>false
 |_=>true
def AV.scalar:AV→Bool
 | .tup l=>l.all AV.sc1
 |v=>v.sc1
/-! ### What an ending says -/
inductive Out where
 |ret (r:AV)
 |pan (t:TypeId) (v:AV)
inductive eW (F:Nat→Nat→Prop) (w:World) (μ:Nat→Option Loc):Out→Ending→Prop
 |ret (r:AV) (R:Value) (h:VR F w μ r R):eW F w μ (.ret r) (.returned R)
 |pan (t:TypeId) (v:AV) (V:Value) (h:VR F w μ v V):eW F w μ (.pan t v) (.panicked [{v:=.iface t V,recovered:=false}])
def noμ:Nat→Option Loc:=fun _=>none
def CV(F:Nat→Nat→Prop)(w:World)(out:Out)(e:Ending)(w':World):Prop:=
 Below w.heap.size w w'∧∃F',(∀b o,F b o→F' b o)∧(∀b o,F' b o→b<w'.heap.size)∧(∀b o,b<w.heap.size→F' b o→F b o)∧eW F' w' noμ out e
def jF(P:Program)(f:FuncId)(Vs:Array Value)(w:World)(R:Ending→World→Prop):Prop:=
 (∃w1,(callFunc f Vs).run P w=.ok (.enter f Vs) w1∧w1=w∧Calls P f Vs w R)∨(∃V w1,(callFunc f Vs).run P w=.ok (.value V) w1∧R (.returned V) w1)
theorem jF.mono{P:Program}{f:FuncId}{Vs:Array Value}{w:World}{R R':Ending→World→Prop}(h:jF P f Vs w R)(hr:∀e w',R e w'→R' e w'):jF P f Vs w R':=by
 rcases h with⟨w1,h1,h2,h3⟩|⟨V,w1,h1,h2⟩
 ·exact .inl ⟨w1,h1,h2,h3.mono hr⟩
 ·exact .inr ⟨V,w1,h1,hr _ _ h2⟩
def ad(P:Program)(f:FuncId)(args:List AV)(out:Out):Prop:=
 ∀(F:Nat→Nat→Prop) (w:World) (Vs:List Value),(∀b o,F b o→b<w.heap.size)→VRs F w noμ args Vs→jF P f Vs.toArray w (CV F w out)
def aY(P:Program)(f:FuncId)(args:List AV)(H:List OB)(out:Out)(H':List OB):Prop:=
 ∀(w0:World) (F0 F:Nat→Nat→Prop) (μ:Nat→Option Loc) (w:World) (Vs:List Value),Sim w0 F0 F μ H w→VRs F w μ args Vs→
  jF P f Vs.toArray w (fun e w'=>∃F' μ',Ext F w μ F' w' μ'∧Sim w0 F0 F' μ' H' w'∧eW F' w' μ' out e)
section
variable{P:Program} {w0:World} {F0 F F':Nat→Nat→Prop} {μ:Nat→Option Loc} {H:List OB} {w w':World}
mutual
theorem VR.cP{v:AV}{V:Value}:VR F w μ v V→AV.hf v=true→VR F w noμ v V
  | .junk V,_=>.junk V
  | .bool b,_=>.bool b
  | .int k n,_=>.int k n
  | .str s hb,_=>.str s hb
  | .nilptr,_=>.nilptr
  | .ptr id off L h,hh=>by simp[AV.hf]at hh
  | .vptr cs b o h,hh=>.vptr cs b o (VRm.cP h (by simpa[AV.hf]using hh))
  | .sl id off len wd cap L h hc hl hb,hh=>by simp[AV.hf]at hh
  | .vsl wd e es A cap hx hl hb h,hh=>.vsl wd e es A cap hx hl hb (VRa.cP h (by simpa[AV.hf]using hh))
  | .nilmap,_=>.nilmap
  | .nilsl,_=>.nilsl
  | .map id L h,hh=>by simp[AV.hf]at hh
  | .vmap ks vs r es clock hF hr hb h,hh=>.vmap ks vs r es clock hF hr hb (VRk.cP h (by simp[AV.hf]at hh;exact hh.1) (by simp[AV.hf]at hh;exact hh.2))
  | .func fn fs cs Fs Cs hf hc,hh=>.func fn fs cs Fs Cs (VRs.cP hf (by simp[AV.hf]at hh;exact hh.1)) (VRs.cP hc (by simp[AV.hf]at hh;exact hh.2))
  | .nilfunc,_=>.nilfunc
  | .iface t v V h,hh=>.iface t v V (VR.cP h (by simpa[AV.hf]using hh))
  | .nilif,_=>.nilif
  | .agg l A h,hh=>.agg l A (VRs.cP h (by simpa[AV.hf]using hh))
  | .tup l A h,hh=>.tup l A (VRs.cP h (by simpa[AV.hf]using hh))
  | .yld id L h,hh=>by simp[AV.hf]at hh
theorem VRs.cP{vs:List AV}{Vs:List Value}:VRs F w μ vs Vs→AV.hfs vs=true→VRs F w noμ vs Vs
  | .nil,_=>.nil
  | .cons v V vs Vs h t,hh=>.cons v V vs Vs (VR.cP h (by simp[AV.hfs]at hh;exact hh.1)) (VRs.cP t (by simp[AV.hfs]at hh;exact hh.2))
theorem VRm.cP{vs:List AV}{b o:Nat}:VRm F w μ vs b o→AV.hfs vs=true→VRm F w noμ vs b o
  | .nil b o,_=>.nil b o
  | .cons v V vs b o hF hc h t,hh=>.cons v V vs b o hF hc (VR.cP h (by simp[AV.hfs]at hh;exact hh.1)) (VRm.cP t (by simp[AV.hfs]at hh;exact hh.2))
theorem VRe.cP{vs:List AV}{size b o:Nat}:VRe F w μ vs size b o→AV.hfs vs=true→VRe F w noμ vs size b o
  | .nil s b o,_=>.nil s b o
  | .cons v vs s b o hs h t,hh=>.cons v vs s b o hs (VRm.cP h (by
      simp[AV.hfs]at hh;have h1:=hh.1
      cases v<;>simp_all[AV.cells,AV.hfs,AV.hf])) (VRe.cP t (by simp[AV.hfs]at hh;exact hh.2))
theorem VRa.cP{vs:List AV}{size:Nat}{A:Option Addr}:VRa F w μ vs size A→AV.hfs vs=true→VRa F w noμ vs size A
  | .nil s A,_=>.nil s A
  | .at es s b o h,hh=>.at es s b o (VRe.cP h hh)
theorem VRk.cP{ks vs:List AV}{es:List MapEntry}:VRk F w μ ks vs es→AV.hfs ks=true→AV.hfs vs=true→VRk F w noμ ks vs es
  | .nil,_,_=>.nil
  | .cons k v ks vs e es hk hv t,h1,h2=>.cons k v ks vs e es (VR.cP hk (by simp[AV.hfs]at h1;exact h1.1)) (VR.cP hv (by simp[AV.hfs]at h2;exact h2.1)) (VRk.cP t (by simp[AV.hfs]at h1;exact h1.2) (by simp[AV.hfs]at h2;exact h2.2))
end
theorem VR.wk{F F':Nat→Nat→Prop}{w w':World}{μ μ':Nat→Option Loc}{v:AV}{V:Value}(h:VR F w μ v V)(hs:v.sc1=true):VR F' w' μ' v V:=by
 cases h<;>first
  |(simp[AV.sc1]at hs;done)
  |exact .bool _
  |exact .int _ _
  |exact .str _ ‹_›
  |exact .nilptr
  |exact .nilmap
  |exact .nilsl
  |exact .nilfunc
  |exact .nilif
theorem VRs.scalars{F F':Nat→Nat→Prop}{w w':World}{μ μ':Nat→Option Loc}{l:List AV}{L:List Value}(h:VRs F w μ l L)(hs:l.all AV.sc1=true):VRs F' w' μ' l L:=by
 induction l generalizing L with
 |nil=>cases h;exact .nil
 | cons v l ih=>
  cases h with
  |cons _ V _ L h t=>
   simp only[List.all_cons,Bool.and_eq_true]at hs;exact .cons _ _ _ _ (VR.wk h hs.1) (ih t hs.2)
theorem VR.pI{F F':Nat→Nat→Prop}{w w':World}{μ μ':Nat→Option Loc}{v:AV}{V:Value}(h:VR F w μ v V)(hs:v.scalar=true):VR F' w' μ' v V:=by
 cases v with
 |tup l=>cases h with|tup l A h=>exact .tup l A (VRs.scalars h hs)
 |_=>exact VR.wk h hs
/-! ### Memory of one's own, lent or left as it is -/
def fq(F:Nat→Nat→Prop)(μ:Nat→Option Loc)(H:List OB):Nat→Nat→Prop:=
 fun b o=>F b o∨∃id blk L,H[id]? =some blk∧blk.live=true∧μ id=some L∧L.block=b
theorem kq:Ext F w μ (fq F μ H) w μ:=⟨fun _ _ h=>h,fun _ _ h=>.inl h,fun _ _ _ _ h=>h,fun _ _ _ _ h=>h⟩
def fK(n:Nat):Nat→List AV→List AV
 |0,_=>[]
 |k+1,l=>.agg (l.take n)::fK n k (l.drop n)
def fz (H :List OB):Nat→AV→Option AV
  |0,_=>none
  | k + 1,v=>if v.hf then some v else
    let fzs (l:List AV):Option (List AV):=if AV.hfs l then some l else l.mapM (fz H k)
    match v with
    | .ptr id off=>match H[id]? with
      |some (.cells cs _)=>if off≤cs.length then(fzs (cs.drop off)).map .vptr else none
      |_=>none
    | .sl id off len wd=>match H[id]? with
      | some (.cells cs _)=>if off+len*esz wd≤cs.length then
          (fzs ((cs.drop off).take (len*esz wd))).bind fun l=>match wd with|0=>if l.all AV.one=true then some (.vsl 0 false l)else none|n+1=>some (.vsl (n+1) false (fK n len l))
        else none
      |_=>none
    | .map id=>match H[id]? with
      | some (.map ks vs)=>match fzs ks,fzs vs with
        |some ks,some vs=>some (.vmap ks vs)
        |_,_=>none
      |_=>none
    | .func fn fs cs=>match fzs fs,fzs cs with
      |some fs,some cs=>some (.func fn fs cs)
      |_,_=>none
    | .iface t v=>(fz H k v).map (.iface t)
    | .agg l=>(fzs l).map .agg
    | .tup l=>(fzs l).map .tup
    |_=>none
theorem iH{f:AV→Option AV}:∀{l l':List AV},l.mapM f=some l'→l'.length=l.length∧∀(i:Nat) (v:AV),l[i]? =some v→∃v',l'[i]? =some v'∧f v=some v':=by
 intro l;induction l with
 |nil=>intro l' h;simp at h;subst h;exact⟨rfl,by simp⟩
 | cons a l ih=>
  intro l' h;simp only[List.mapM_cons]at h;cases ha:f a with
  |none=>rw[ha]at h;cases h
  | some b=>
   rw[ha]at h;cases hl:l.mapM f with
   |none=>rw[hl]at h;cases h
   |some bs=>
    rw[hl]at h;cases h;obtain⟨h1,h2⟩:=ih hl;refine⟨by simp[h1],?_⟩;intro i v hi;cases i with
    |zero=>simp at hi;subst hi;exact⟨b,rfl,ha⟩
    |succ i=>simpa using h2 i v (by simpa using hi)
theorem VRs.jG{G:Nat→Nat→Prop}{u:World}{ν:Nat→Option Loc}{l:List AV}{L:List Value}(hl:L.length=l.length)(h: ∀(i:Nat) (v:AV),l[i]? =some v→ ∃V,L[i]? =some V∧VR G u ν v V):VRs G u ν l L:=by
  induction l generalizing L with
  | nil => have:L=[]:=by simpa using hl
           subst this;exact .nil
  | cons v l ih=>
    cases L with
    |nil=>simp at hl
    | cons V L=>
      obtain⟨V',h1,h2⟩:=h 0 v rfl;simp at h1;subst h1;exact .cons _ _ _ _ h2 (ih (by simpa using hl) fun i v hi=>by simpa using h (i+1) v (by simpa using hi))
theorem VRk.jG {G:Nat→Nat→Prop} {u:World} {ν:Nat→Option Loc}: ∀{ks vs:List AV} {es:List MapEntry},es.length=ks.length→vs.length=ks.length→
    (∀(i:Nat) (k:AV),ks[i]? =some k→ ∃e,es[i]? =some e∧VR G u ν k e.key)→(∀(i:Nat) (v:AV),vs[i]? =some v→ ∃e,es[i]? =some e∧VR G u ν v e.val)→VRk G u ν ks vs es:=by
  intro ks;induction ks with
  | nil => intro vs es h1 h2 _ _
           have:es=[]:=by simpa using h1
           have:vs=[]:=by simpa using h2
           subst_vars;exact .nil
  | cons k ks ih=>
    intro vs es h1 h2 h3 h4;cases es with
    |nil=>simp at h1
    | cons e es=>
      cases vs with
      |nil=>simp at h2
      | cons v vs=>
        obtain⟨e1,h5,h6⟩:=h3 0 k rfl;obtain⟨e2,h7,h8⟩:=h4 0 v rfl;simp at h5 h7;subst h5;subst h7;exact .cons k v ks vs e es h6 h8 (ih (by simpa using h1) (by simpa using h2) (fun i k hi=>by simpa using h3 (i+1) k (by simpa using hi)) (fun i v hi=>by simpa using h4 (i+1) v (by simpa using hi)))
theorem VRk.get {ks vs:List AV} {es:List MapEntry} (h:VRk F w μ ks vs es):
    (∀(i:Nat) (k:AV),ks[i]? =some k→ ∃e,es[i]? =some e∧VR F w μ k e.key)∧(∀(i:Nat) (v:AV),vs[i]? =some v→ ∃e,es[i]? =some e∧VR F w μ v e.val):=by
  induction ks generalizing vs es with
  |nil=>cases h;exact⟨by simp,by simp⟩
  | cons k ks ih=>
    cases h with
    | cons _ v _ vs e es hk hv t=>
      obtain⟨h1,h2⟩:=ih t;refine⟨fun i k' hi=> ?_,fun i v' hi=> ?_⟩
      · cases i with
        |zero=>simp at hi;subst hi;exact⟨e,rfl,hk⟩
        |succ i=>simpa using h1 i k' (by simpa using hi)
      · cases i with
        |zero=>simp at hi;subst hi;exact⟨e,rfl,hv⟩
        |succ i=>simpa using h2 i v' (by simpa using hi)
theorem pJ{G:Nat→Nat→Prop}{u:World}{ν:Nat→Option Loc}(n:Nat):∀(k:Nat) (l:List AV) (b o:Nat),l.length=k*n→VRm G u ν l b o→VRe G u ν (fK n k l) n b o:=by
 intro k;induction k with
 |zero=>intro l b o _ _;exact .nil _ _ _
 |succ k ih=>
  intro l b o hl h;have hle:n≤l.length:=by rw[hl,Nat.add_mul];omega
  refine .cons _ _ n b o (by simp[AV.cells];omega) ?_ (ih _ _ _ (by rw[List.length_drop,hl,Nat.add_mul];omega) (h.drop n));refine .of fun i v hi=>?_;have hi':(l.take n)[i]? =some v:=hi;rw[List.getElem?_take]at hi';split at hi'
  ·exact h.get hi'
  ·cases hi'
theorem VRe.IW{G:Nat→Nat→Prop}{u:World}{ν:Nat→Option Loc}{l:List AV}{b o:Nat}(h:VRm G u ν l b o)(hc:∀v∈l,v.cells=[v]):VRe G u ν l 1 b o:=
 .of fun i v hi=>by
  have:=hc v (List.mem_of_getElem? hi);rw[this];obtain⟨hF,V,h1,h2⟩:=h.get hi;rw[Nat.mul_one];exact⟨rfl,.cons v V [] b (o+i) hF h1 h2 (.nil _ _)⟩
theorem dq(n k:Nat)(l:List AV):(fK n k l).length=k:=by
 induction k generalizing l with
 |zero=>rfl
 |succ k ih=>simp[fK,ih]
theorem dI{v:AV}(h:v.one=true):v.cells=[v]:=by cases v<;>first|rfl|cases h
theorem nF (s : Sim w0 F0 F μ H w): ∀(k:Nat) (v v':AV) (V:Value),fz H k v=some v'→VR F w μ v V→VR (fq F μ H) w noμ v' V:=by
  intro k;induction k with
  |zero=>intro v v' V h;simp[fz]at h
  | succ k ih =>
    intro v v' V h hv;unfold fz at h;split at h
    · rename_i hh
      cases h;exact(VR.mono kq hv).cP hh
    · rename_i hh
      simp only at h;have key: ∀(l l':List AV),(if AV.hfs l=true then some l else l.mapM (fz H k))=some l'→l'.length=l.length∧ ∀(i:Nat) (v:AV),l[i]? =some v→ ∃v',l'[i]? =some v'∧ ∀V,VR F w μ v V→VR (fq F μ H) w noμ v' V:=by
        intro l l' hl;split at hl
        · rename_i hf
          cases hl;refine⟨rfl,fun i v hi=>⟨v,hi,fun V hV=>(VR.mono kq hV).cP ?_⟩⟩;rw[aR]at hf;exact List.all_eq_true.1 hf v (List.mem_of_getElem? hi)
        · obtain⟨h1,h2⟩:=iH hl
          refine⟨h1,fun i v hi=> ?_⟩;obtain⟨v',h3,h4⟩:=h2 i v hi;exact⟨v',h3,fun V hV=>ih v v' V h4 hV⟩
      have keyR: ∀(l l':List AV),(if AV.hfs l=true then some l else l.mapM (fz H k))=some l'→l'.length=l.length∧ ∀(i:Nat) (v':AV),l'[i]? =some v'→ ∃v,l[i]? =some v∧ ∀V,VR F w μ v V→VR (fq F μ H) w noμ v' V:=by
        intro l l' hl;obtain⟨h1,h2⟩:=key l l' hl;refine⟨h1,fun i v' hi=> ?_⟩;have hlt:i<l.length:=by rw[←h1];exact(List.getElem?_eq_some_iff.1 hi).1
        obtain⟨v'',h3,h4⟩:=h2 i l[i] (List.getElem?_eq_getElem hlt);rw[hi]at h3;cases h3;exact⟨l[i],List.getElem?_eq_getElem hlt,h4⟩
      have keyS: ∀(l l':List AV) (L:List Value),(if AV.hfs l=true then some l else l.mapM (fz H k))=some l'→VRs F w μ l L→VRs (fq F μ H) w noμ l' L:=by
        intro l l' L hl hL;obtain⟨h1,h2⟩:=keyR l l' hl;refine .jG (by rw[h1,VRs.len hL]) fun i v' hi=> ?_;obtain⟨v,h3,h4⟩:=h2 i v' hi;obtain⟨V,h5,h6⟩:=hL.get h3;exact⟨V,h5,h4 V h6⟩
      have keyM: ∀(id off:Nat) (cs l l':List AV) (opn:Bool) (L:Loc),H[id]? =some (.cells cs opn)→μ id=some L→(∀(i:Nat) (v:AV),l[i]? =some v→cs[off+i]? =some v)→
          (if AV.hfs l=true then some l else l.mapM (fz H k))=some l'→VRm (fq F μ H) w noμ l' L.block (L.off+off):=by
        intro id off cs l l' opn L hid hμ hsub hl;obtain⟨h1,h2⟩:=keyR l l' hl;refine .of fun i v' hi=> ?_;obtain⟨v,h3,h4⟩:=h2 i v' hi;refine⟨.inr ⟨id,_,L,hid,rfl,hμ,rfl⟩,?_⟩;cases s.obs id _ hid with
        | cells _ _ L' c el lo hi' hμ' hB hw hcap hlen hfix hun hcs hF=>
          rw[hμ]at hμ';cases hμ';obtain⟨V,h5,h6⟩:=hcs _ v (hsub i v h3);exact⟨V,by rw[dH w _ _ c el (lo,hi') hw,Nat.add_assoc];exact h5,h4 V h6⟩
      split at h
      · rename_i id off
        split at h
        · rename_i cs opn hid
          split at h
          case isFalse=>cases h
          rename_i hle;rw[Option.map_eq_some_iff]at h;obtain⟨l',hl,rfl⟩:=h;cases hv with
          |ptr _ _ L hμ=>exact .vptr _ _ _ (keyM id off cs _ l' opn L hid hμ (fun i v hi=>by rw[List.getElem?_drop]at hi;exact hi) hl)
        · cases h
      · rename_i id off len wd
        split at h
        · rename_i cs opn hid
          split at h
          case isFalse=>cases h
          rename_i hle;rw[Option.bind_eq_some_iff]at h;obtain⟨l',hl,h⟩:=h;cases hv with
          | sl _ _ _ _ cap L hμ hc hcl hb=>
            have hm:=keyM id off cs _ l' opn L hid hμ (fun i v hi=>by
              rw[List.getElem?_take]at hi;split at hi
              · rw[List.getElem?_drop]at hi;exact hi
              · cases hi) hl
            have hlen:l'.length=len*esz wd:=by
              rw[(key _ _ hl).1,List.length_take,List.length_drop];omega
            cases wd with
            | zero=>
              simp only at h;split at h
              case isFalse=>cases h
              rename_i hone;cases h;have hl1:l'.length=len:=by rw[hlen];simp[esz]
              have:=VR.vsl (F:=fq F μ H) (w:=w) (μ:=noμ) 0 false l' (some ⟨L.block,L.off+off,none⟩) cap (fun h=>by cases h) (by omega) (by omega) (.at _ _ _ _ (VRe.IW hm (fun v hv=>dI (List.all_eq_true.1 hone v hv))));rw[hl1]at this;exact this
            | succ n=>
              simp only[Option.some.injEq]at h;cases h
              have:=VR.vsl (F:=fq F μ H) (w:=w) (μ:=noμ) (n+1) false (fK n len l') (some ⟨L.block,L.off+off,none⟩) cap (fun h=>by cases h) (by rw[dq];omega) (by rw[dq];omega)
                (.at _ _ _ _ (pJ n len l' _ _ hlen hm))
              rw[dq]at this;exact this
        · cases h
      · rename_i id
        split at h
        · rename_i ks vs hid
          split at h
          · rename_i ks' vs' hks hvs
            cases h;cases hv with
            | map _ L hμ=>
              cases s.obs id _ hid with
              | map _ _ L' es clock hμ' hB hw hes hb hF=>
                rw[hμ]at hμ';cases hμ';obtain⟨h1,h2⟩:=keyR ks ks' hks;obtain⟨h3,h4⟩:=keyR vs vs' hvs;obtain⟨h5,h6⟩:=VRk.len hes;obtain⟨h7,h8⟩:=VRk.get hes;refine .vmap ks' vs' L.block es clock (.inr ⟨id,_,L,hid,rfl,hμ,rfl⟩) hw hb (.jG (by omega) (by omega) ?_ ?_)
                · intro i k' hi
                  obtain⟨k0,h9,h10⟩:=h2 i k' hi;obtain⟨e,h11,h12⟩:=h7 i k0 h9;exact⟨e,h11,h10 _ h12⟩
                · intro i v0 hi
                  obtain⟨v1,h9,h10⟩:=h4 i v0 hi;obtain⟨e,h11,h12⟩:=h8 i v1 h9;exact⟨e,h11,h10 _ h12⟩
          · cases h
        · cases h
      · rename_i fn fs cs
        split at h
        · rename_i fs' cs' hfs hcs
          cases h;cases hv with
          |func _ _ _ Fs Cs h1 h2=>exact .func fn fs' cs' Fs Cs (keyS _ _ _ hfs h1) (keyS _ _ _ hcs h2)
        · cases h
      · rename_i t v0
        rw[Option.map_eq_some_iff]at h;obtain⟨v1,h1,rfl⟩:=h;cases hv with
        |iface _ _ V0 h2=>exact .iface t v1 V0 (ih _ _ _ h1 h2)
      · rename_i l
        rw[Option.map_eq_some_iff]at h;obtain⟨l',h1,rfl⟩:=h;cases hv with
        |agg _ A h2=>exact .agg l' A (keyS _ _ _ h1 h2)
      · rename_i l
        rw[Option.map_eq_some_iff]at h;obtain⟨l',h1,rfl⟩:=h;cases hv with
        |tup _ A h2=>exact .tup l' A (keyS _ _ _ h1 h2)
      · cases h
end
def fw(P:Program)(t:TypeId)(x:AV)(H:List OB):Option (AV×List OB):=
 match P.underlying t,x with
 |some (.map _ _),.vmap ks vs=>some (.ptr H.length 0,H++[.iter ks vs []])
 |some .string,.str s=>some (.ptr H.length 0,H++[.siter s 0])
 |_,_=>none
def qQ (x:AV) (H:List OB):Option AV:=
 match x with
 | .ptr id 0=>match H[id]? with
  | some (.iter ks vs seen)=>match seen.getLast? with
   |some j=>match ks[j]?,vs[j]? with
    |some k,some v=>some (.tup [k,v])
    |_,_=>none
   |none=>none
  |_=>none
 |_=>none
inductive pK (H:List OB) (id:Nat) (ks vs:List AV) (seen:List Nat):AV→List OB→Prop
 |over (h:∀j,j<ks.length→j∈seen):pK H id ks vs seen (.tup [.bool false]) H
 |one (j:Nat) (k v:AV) (hk:ks[j]? =some k) (hv:vs[j]? =some v) (hn:j∉seen):pK H id ks vs seen (.tup [.bool true,k,v]) (H.set id (.iter ks vs (seen++[j])))
def ah(o:Op)(ev:Operand→AV)(H:List OB):Option (Nat×List AV×List AV×List Nat):=
 match o with
 | .next x false=>match ev x with
  | .ptr id 0=>match H[id]? with
   |some (.iter ks vs seen)=>some (id,ks,vs,seen)
   |_=>none
  |_=>none
 |_=>none
section
variable{P:Program} {w0:World} {F0 F F':Nat→Nat→Prop} {μ:Nat→Option Loc} {H:List OB} {w w':World}
theorem uN(s:Sim w0 F0 F μ H w){t:TypeId}{x v:AV}{X:Value}{H':List OB}(hx:VR F w μ x X)(h:fw P t x H=some (v,H')):bT P (Instr.range t X) w0 F0 F μ w v H':=by
 unfold fw at h;split at h
 case h_3=>cases h
 case h_2=>
  rename_i t hu;cases h;cases hx with
  | str _ hb=>
   obtain⟨μ',x1,h2,s1⟩:=s.alloc (.stringIter ⟨t.toArray⟩ 0) (.siter t 0) ⟨w.heap.size,0,0⟩ rfl (fun μ' x hμ' hF'=>
    .siter t 0 ⟨w.heap.size,0,0⟩ hμ' s.below.size rfl (by rw[cA];exact if_pos rfl) hb hF')
   refine⟨.pointer (some ⟨w.heap.size,0,none⟩),_,F,μ',?_,x1,s1,.ptr H.length 0 ⟨w.heap.size,0,0⟩ h2⟩;simp[Instr.range,run_underlying hu,newObj,Sem.run]
 rename_i kt et ks vs hu;cases h;cases hx with
 | vmap _ _ r es clock hF hr hb hk=>
  obtain⟨μ',x1,h2,s1⟩:=s.alloc (.mapIter (some r) clock #[] clock) (.iter ks vs []) ⟨w.heap.size,0,0⟩ rfl (fun μ' x hμ' hF'=>
   .iter ks vs [] ⟨w.heap.size,0,0⟩ r es clock #[] hμ' s.below.size rfl (by rw[cA];exact if_pos rfl) hF
    (x.obj _ _ _ hF hr) hb (VRk.mono x hk) rfl hF')
  refine⟨.pointer (some ⟨w.heap.size,0,none⟩),_,F,μ',?_,x1,s1,.ptr H.length 0 ⟨w.heap.size,0,0⟩ h2⟩;simp[Instr.range,run_underlying hu,getObj,newObj,Sem.run,hr]
def ez (x:AV) (H:List OB):Option (AV×List OB):=
  match x with
  | .ptr id 0=>match H[id]? with
    | some (.siter s pos)=>if pos<s.length then
        some (.tup [.bool true,.int .i64 (pos:Int),.int .i32 ((Utf8.decode ⟨s.toArray⟩ pos).1:Int)],H.set id (.siter s (pos+(Utf8.decode ⟨s.toArray⟩ pos).2)))
      else some (.tup [.bool false],H)
    |_=>none
  |_=>none
theorem uO(s:Sim w0 F0 F μ H w){ty:TypeId}{x v:AV}{X:Value}{H':List OB}(hx:VR F w μ x X)(h:ez x H=some (v,H')):bT P (Instr.next X true ty) w0 F0 F μ w v H':=by
 unfold ez at h;split at h
 case h_2=>cases h
 rename_i id;split at h
 case h_2=>cases h
 rename_i t pos hid;cases hx with
 | ptr _ _ L hμ=>
  have hob:=s.obs id _ hid;cases hob with
  | siter _ _ L' hμ' hB h0 hw hb hF=>
   rw[hμ]at hμ';cases hμ';have hsz:(⟨t.toArray⟩:ByteArray).size=t.length:=by show t.toArray.size=_;simp
   have hoff:L.off+0=0:=by omega
   split at h
   ·rename_i hlt
    cases h
    obtain⟨x1,s1⟩:=s.write id _ (.siter t (pos+(Utf8.decode ⟨t.toArray⟩ pos).2)) L hid rfl hμ (.stringIter ⟨t.toArray⟩ (pos+(Utf8.decode ⟨t.toArray⟩ pos).2)) (fun x=>by
     have hb':L.block<w.heap.size:=(Array.getElem?_eq_some_iff.1 hw).1
     exact .siter t _ L hμ hB h0 (by show(w.heap.setIfInBounds L.block _)[L.block]? =_;rw[Array.getElem?_setIfInBounds,if_pos rfl,if_pos hb']) hb hF)
    refine⟨.tuple #[.bool true,goInt pos,.int .i32 (Utf8.decode ⟨t.toArray⟩ pos).1],_,F,μ,?_,x1,s1,.tup _ _ (.cons _ _ _ _ (.bool _) (.cons _ _ _ _ (.int _ _) (.cons _ _ _ _ (.int _ _) .nil)))⟩;simp[Instr.next,hoff,getObj,setObj,Sem.run,hw,hsz,hlt]
   ·rename_i hlt
    cases h;refine⟨.tuple #[.bool false],w,F,μ,?_,Ext.refl _ _ _,s,.tup _ _ (.cons _ _ _ _ (.bool _) .nil)⟩;simp[Instr.next,hoff,getObj,Sem.run,hw,hsz,hlt]
def fy(b:Bool)(x:AV)(H:List OB):Option (AV×List OB):=
 match b with
 |true=>ez x H
 |false=>none
theorem uP(s:Sim w0 F0 F μ H w){ty:TypeId}{b:Bool}{x v:AV}{X:Value}{H':List OB}(hx:VR F w μ x X)(h:fy b x H=some (v,H')):bT P (Instr.next X b ty) w0 F0 F μ w v H':=by
 cases b with
 |true=>exact uO s hx h
 |false=>cases h
theorem sJ{es:List MapEntry}{clock:Nat}(hb:CS es clock){i j:Nat}{e e':MapEntry}(hi:es[i]? =some e)(hj:es[j]? =some e')(h:e.born=e'.born):i=j:=by
 have h1:(es.map (·.born))[i]? =some e.born:=by rw[List.getElem?_map,hi];rfl
 have h2:(es.map (·.born))[j]? =some e.born:=by rw[List.getElem?_map,hj,h];rfl
 have hil:=(List.getElem?_eq_some_iff.1 h1).1;have hjl:=(List.getElem?_eq_some_iff.1 h2).1;have e1:=(List.getElem?_eq_some_iff.1 h1).2;have e2:=(List.getElem?_eq_some_iff.1 h2).2;rcases Nat.lt_trichotomy i j with hlt|heq|hgt
 ·exact(List.pairwise_iff_getElem.1 hb.own i j hil hjl hlt (e1.trans e2.symm)).elim
 ·exact heq
 ·exact(List.pairwise_iff_getElem.1 hb.own j i hjl hil hgt (e2.trans e1.symm)).elim
theorem uQ(s:Sim w0 F0 F μ H w){x v:AV}{X:Value}(hx:VR F w μ x X)(h:qQ x H=some v):bT P (Instr.entry X) w0 F0 F μ w v H:=by
 unfold qQ at h;split at h
 case h_2=>cases h
 rename_i id;split at h
 case h_2=>cases h
 rename_i ks vs seen hid;split at h
 case h_2=>cases h
 rename_i j hj;split at h
 case h_2=>cases h
 rename_i k v' hk hv;cases h;cases hx with
 | ptr _ _ L hμ=>
  have hob:=s.obs id _ hid;cases hob with
  | iter _ _ _ L' m es clock ss hμ' hB h0 hw hm hmw hb hkk hss hF=>
   rw[hμ]at hμ';cases hμ';obtain⟨e,he1,he2⟩:=(VRk.get hkk).1 j k hk;obtain⟨e',he3,he4⟩:=(VRk.get hkk).2 j v' hv;rw[he1]at he3;cases he3;have hback:ss.back? =some e.born:=by
    have h1:(ss.toList.map some).getLast? =some (some e.born):=by rw[hss,List.getLast?_map,hj];simp only[Option.map_some,he1]
    rw[List.getLast?_map,Option.map_eq_some_iff]at h1;obtain⟨b,h2,h3⟩:=h1;cases h3;rw[←Array.getLast?_toList];exact h2
   have hfind:es.find? (fun x=>x.born==e.born)=some e:=by
    rw[←Array.find?_toList,List.find?_eq_some_iff_getElem];have hjl:=(List.getElem?_eq_some_iff.1 he1).1;refine⟨by simp,j,hjl,(List.getElem?_eq_some_iff.1 he1).2,fun i hi=>?_⟩;have hil:i<es.toList.length:=by omega
    have hne:¬(es.toList[i]).born=e.born:=fun hh=>by
     have:=sJ hb (List.getElem?_eq_getElem hil) he1 hh;omega
    simpa using hne
   refine .aN s (V:=.tuple #[e.key,e.val]) ?_ (.tup _ _ (.cons _ _ _ _ he2 (.cons _ _ _ _ he4 .nil)));simp[Instr.entry,h0,getObj,Sem.run,hw,hmw,hback,hfind]
theorem CW (s :Sim w0 F0 F μ H w) {o:Op} {ev:Operand→AV} {x:Operand} {b:Bool} {X:Value} {id:Nat} {ks vs:List AV} {seen:List Nat} {ty:TypeId} (ho:o=.next x b) (hx:VR F w μ (ev x) X) (h:ah o ev H=some (id,ks,vs,seen)):
    ∃v H',pK H id ks vs seen v H'∧bT P (Instr.next X b ty) w0 F0 F μ w v H':=by
  subst ho;unfold ah at h;split at h
  case h_2=>cases h
  rename_i x' hop;cases hop;split at h
  case h_2=>cases h
  rename_i id' hid0;split at h
  case h_2=>cases h
  rename_i ks' vs' seen' hid;cases h;rw[hid0]at hx;cases hx with
  | ptr _ _ L hμ=>
    have hob:=s.obs id _ hid;cases hob with
    | iter _ _ _ L' m es clock ss hμ' hB h0 hw hm hmw hb hkk hss hF=>
      rw[hμ]at hμ';cases hμ';have hlen:=VRk.len hkk;have hcon: ∀(j:Nat) (e:MapEntry),es.toList[j]? =some e→(ss.contains e.born=true↔j∈seen):=by
        intro j e he;rw[Array.contains_iff_mem,←Array.mem_toList_iff];constructor
        · intro hmem
          have:some e.born∈ss.toList.map some:=List.mem_map.2 ⟨_,hmem,rfl⟩;rw[hss]at this;obtain⟨i,hi,h1⟩:=List.mem_map.1 this;rw[Option.map_eq_some_iff]at h1;obtain⟨e',h2,h3⟩:=h1;have:=sJ hb h2 he h3;subst this;exact hi
        · intro hmem
          have:some e.born∈seen.map (fun j=>(es.toList[j]?).map (·.born)):=List.mem_map.2 ⟨j,hmem,by rw[he];rfl⟩;rw[←hss]at this;obtain⟨b,hb1,hb2⟩:=List.mem_map.1 this;cases hb2;exact hb1
      have hgone:(!ss.isEmpty&& !es.isEmpty&&es.all (fun x=>decide (x.born≥clock)))=false:=by
        cases he:es.isEmpty with
        |true=>simp
        | false=>
          have hpos:0<es.size:=by
            rcases Nat.eq_zero_or_pos es.size with h|h
            · rw[Array.isEmpty_eq_false_iff]at he;exact(he (Array.eq_empty_of_size_eq_zero h)).elim
            · exact h
          have hlt:=hb.lt es[0] (by simp);have:es.all (fun x=>decide (x.born≥clock))=false:=by
            rw[Array.all_eq_false];exact⟨0,hpos,by simp;omega⟩
          simp[this]
      have hnew:(es.filter fun e=> !ss.contains e.born).filter (fun x=>decide (x.born≥clock))= #[]:=by
        rw[Array.filter_eq_empty_iff];intro e he;have h1:=(Array.mem_filter.1 he).1;have:=hb.lt e (Array.mem_toList_iff.2 h1);simp;omega
      have hold:(es.filter fun e=> !ss.contains e.born).filter (fun x=>decide (x.born<clock))=es.filter fun e=> !ss.contains e.born:=by
        rw[Array.filter_eq_self];intro e he;have h1:=(Array.mem_filter.1 he).1;have:=hb.lt e (Array.mem_toList_iff.2 h1);simpa using this
      obtain⟨left,hleft⟩: ∃left,(es.filter fun e=> !ss.contains e.born)=left:=⟨_,rfl⟩
      rw[hleft]at hnew hold
      have hrun:(Instr.next (.pointer (some ⟨L.block,L.off+0,none⟩)) false ty).run P w=
          (do
            let candidates:=(if left.isEmpty then #[none]else #[])++left.map some
            match candidates[←choose (.mapNext candidates.size)]? with
            |some (some e)=>setObj L.block (.mapIter (some m) clock (ss.push e.born) clock);pure (.tuple #[.bool true,e.key,e.val])
            |some none=>pure (.tuple #[.bool false])
            |none=>stuck "Next: no such candidate" :Sem Value).run P w:=by
        simp only[Instr.next,h0,Nat.add_zero,Sem.run_bind];rw[show(getObj L.block).run P w=.ok (.mapIter (some m) clock ss clock) w from by simp[getObj,Sem.run,hw]];simp only[Result.andThen,Sem.run_bind];rw[show(getObj m).run P w=.ok (.map es clock) w from by simp[getObj,Sem.run,hmw]];simp only[Result.andThen,hgone,hleft,hold,hnew,Array.append_empty,Bool.false_eq_true,if_false];rw[Sem.run_bind];rfl
      have hchoose: ∀n,0<n→ ∃i w',i<n∧(choose (.mapNext n)).run P w=.ok i w'∧w'.heap=w.heap∧w'.os=w.os∧w'.tape=w.tape∧w'.output=w.output:=by
        intro n hn;rw[run_choose_drew];split
        · exact⟨0,w,hn,rfl,rfl,rfl,rfl,rfl⟩
        · exact⟨_,_,Nat.mod_lt _ hn,rfl,rfl,rfl,rfl,rfl⟩
      have hone: ∀(w':World),Ext F w μ F w' μ→Sim w0 F0 F μ H w'→ ∀e,e∈left→ ∃v H' w'',pK H id ks vs seen v H'∧
          (do setObj L.block (.mapIter (some m) clock (ss.push e.born) clock);pure (.tuple #[.bool true,e.key,e.val]):Sem Value).run P w'=.ok (.tuple #[.bool true,e.key,e.val]) w''∧Ext F w μ F w'' μ∧Sim w0 F0 F μ H' w''∧VR F w'' μ v (.tuple #[.bool true,e.key,e.val]):=by
        intro w' x1 s1 e he;rw[←hleft,Array.mem_filter]at he;obtain⟨he1,he2⟩:=he;obtain⟨j,hj⟩:=List.mem_iff_getElem?.1 (Array.mem_toList_iff.2 he1);have hjn:j∉seen:=fun h=>by rw[(hcon j e hj).2 h]at he2;cases he2
        have hjl:=(List.getElem?_eq_some_iff.1 hj).1;obtain⟨k,hk⟩: ∃k,ks[j]? =some k:=⟨ks[j]'(by omega),List.getElem?_eq_getElem _⟩
        obtain⟨v,hv⟩: ∃v,vs[j]? =some v:=⟨vs[j]'(by omega),List.getElem?_eq_getElem _⟩
        obtain⟨ek,hk1,hk2⟩:=(VRk.get hkk).1 j k hk;obtain⟨ev',hv1,hv2⟩:=(VRk.get hkk).2 j v hv;rw[hj]at hk1 hv1;cases hk1;cases hv1;have hob:=s1.obs id _ hid;cases hob with
        | iter _ _ _ L' m' es' clock' ss' hμ' hB' h0' hw' hm' hmw' hb' hkk' hss' hF'=>
          rw[hμ]at hμ';cases hμ';have hlt:L.block<w'.heap.size:=(Array.getElem?_eq_some_iff.1 hw').1;have hmm:w'.heap[m]? =some (.map es clock):=x1.obj _ _ _ hm hmw
          obtain⟨x2,s2⟩:=s1.write id _ (.iter ks vs (seen++[j])) L hid rfl hμ (.mapIter (some m) clock (ss.push e.born) clock) (fun x=>by
            refine .iter ks vs (seen++[j]) L m es clock (ss.push e.born) hμ hB h0 ?_ hm (x.obj _ _ _ hm hmm) hb (VRk.mono (x1.trans x) hkk) ?_ hF
            · show(w'.heap.setIfInBounds L.block _)[L.block]? =_
              rw[Array.getElem?_setIfInBounds,if_pos rfl,if_pos hlt]
            · rw[Array.toList_push,List.map_append,hss,List.map_append];simp only[List.map_cons,List.map_nil,hj,Option.map_some])
          refine⟨_,_,_,.one j k v hk hv hjn,?_,x1.trans x2,s2,.tup _ _ (.cons _ _ _ _ (.bool _) (.cons _ _ _ _ (VR.mono (x1.trans x2) hk2) (.cons _ _ _ _ (VR.mono (x1.trans x2) hv2) .nil)))⟩;simp[setObj,Sem.run,hw']
      by_cases hemp:left.isEmpty=true
      · have hl0:left= #[]:=by simpa using hemp
        refine⟨_,_,.over (fun j hj=> ?_),?_⟩
        · have hjl:j<es.toList.length:=by omega
          have hmem:(es.toList[j])∉left:=by rw[hl0];simp
          rw[←hleft,Array.mem_filter]at hmem;have h1:=hcon j _ (List.getElem?_eq_getElem hjl);refine h1.1 ?_;cases hc:ss.contains (es.toList[j]).born with
          |true=>rfl
          |false=>exact(hmem ⟨Array.mem_toList_iff.1 (List.getElem_mem hjl),by rw[hc];rfl⟩).elim
        · have hch: ∀n,n≤1→(choose (.mapNext n)).run P w=.ok 0 w:=by
            intro n hn;rw[run_choose_drew,if_pos (by simp[Question.forced,hn])]
          refine .aN s (V:=.tuple #[.bool false]) ?_ (.tup _ _ (.cons _ _ _ _ (.bool _) .nil));rw[hrun,hl0,Sem.run_bind,hch _ (by simp)];simp[Result.andThen]
      · have hpos:0<left.size:=by
          rcases Nat.eq_zero_or_pos left.size with h|h
          · exact(hemp (by rw[Array.eq_empty_of_size_eq_zero h];rfl)).elim
          · exact h
        obtain⟨i,w',hi,hch,q1,q2,q3,q4⟩:=hchoose left.size hpos;obtain⟨x1,s1⟩:=s.same q1 q2 q3 q4;obtain⟨v,H',w'',hn,hr,x2,s2,hv⟩:=hone w' x1 s1 left[i] (by simp);refine⟨v,H',hn,_,w'',F,μ,?_,x2,s2,hv⟩;rw[hrun];simp only[hemp,if_false,Bool.false_eq_true,Array.empty_append,Sem.run_bind,Array.size_map,hch,Result.andThen];have hget:(left.map some)[i]? =some (some left[i]):=by simp[hi]
        rw[hget];exact hr
end
def lH (P:Program) (sT:TypeId) (sv x:AV) (H:List OB):Option (AV×List OB):=
 match P.underlying sT with
 | some (.slice e)=>match tsz P e with
  | some n=>match cp n x H with
   | some (m,nc)=>match sv with
    | .sl id off len wd=>match H[id]? with
     |some (.cells cs opn)=>if n=esz wd∧nc.all AV.isC=true∧m≤len∧off+m*n≤cs.length then some (.int .i64 (m:Int),H.set id (.cells (cz cs off nc) opn))else none
     |_=>none
    |_=>none
   |none=>none
  |none=>none
 |_=>none
def kr(P:Program)(sT:TypeId)(sv:AV)(H:List OB):Option (AV×List OB):=
 match P.underlying sT with
 | some (.slice e)=>match sv with
  | .vsl _ _ []=>some (.tup [],H)
  | .sl id off len wd=>if len=0 then some (.tup [],H)else match apT P e,bS P e,H[id]? with
   |some (n,_,_),some z,some (.cells cs opn)=>if n=esz wd∧z.cells.all AV.isC=true∧off+len*n≤cs.length then some (.tup [],H.set id (.cells (cz cs off (rep len z.cells)) opn))else none
   |_,_,_=>none
  |_=>none
 |_=>none
section
variable{P:Program} {w0:World} {F0 F:Nat→Nat→Prop} {μ:Nat→Option Loc} {H:List OB} {w:World}
theorem yb(s:Sim w0 F0 F μ H w){sT rT:TypeId}{ts:Array TypeId}{sv x v:AV}{S X:Value}{H':List OB}(hts:ts[0]? =some sT)(hs:VR F w μ sv S)(hx:VR F w μ x X)(h:lH P sT sv x H=some (v,H')):
    bT P (Builtin.copy_ ts rT #[S,X]) w0 F0 F μ w v H':=by
  unfold lH at h;split at h
  case h_2=>cases h
  rename_i e hus;split at h
  case h_2=>cases h
  rename_i n hn;split at h
  case h_2=>cases h
  rename_i m nc hnews;obtain⟨Vs,hVs,hVl,hlX,hfX⟩:=sE (P:=P) s hx hnews;split at h
  case h_2=>cases h
  rename_i id off len wd;split at h
  case h_2=>cases h
  rename_i cs opn hid;split at h
  case isFalse=>cases h
  rename_i hh;obtain⟨hnw,hall,hml,hfit⟩:=hh;cases h;have hnl:nc.length=m*n:=by rw[←VRs.len hVs];exact hVl
  cases hs with
  | sl _ _ _ _ sc L hμ hc hl hb=>
    obtain⟨w',h1,h2,h3⟩:=s.store (P:=P) (off:=off) hid hVs hall (by omega) hμ;refine⟨.int .i64 (m:Int),w',F,μ,?_,h2,h3,.int _ _⟩;simp[Builtin.copy_,hts,run_underlying hus,aK hn,hlX,Nat.min_eq_left hml,hfX w rfl,h1,goInt]
theorem wo{l:List AV}(h:l.all AV.isC=true)(n:Nat):(rep n l).all AV.isC=true:=by
 simp only[rep,List.all_flatten,List.all_replicate,h];simp
theorem uR (s:Sim w0 F0 F μ H w) {sT rT:TypeId} {ts:Array TypeId} {sv v:AV} {S:Value} {H':List OB} (hts:ts[0]? =some sT) (hs:VR F w μ sv S) (h:kr P sT sv H=some (v,H')):
    bT P (Builtin.clear_ ts rT #[S]) w0 F0 F μ w v H':=by
  unfold kr at h;split at h
  case h_2=>cases h
  rename_i e hus;split at h
  case h_3=>cases h
  · cases h
    cases hs with
    | vsl _ _ _ A sc hxx hl hb ha=>
      refine .aN s (V:=.tuple #[]) ?_ (.tup _ _ .nil);cases A<;>simp[Builtin.clear_,hts,run_underlying hus]
  · rename_i id off len wd
    split at h
    · rename_i h0
      cases h;cases hs with
      | sl _ _ _ _ sc L hμ hc hl hb=>
        subst h0;refine .aN s (V:=.tuple #[]) ?_ (.tup _ _ .nil);simp[Builtin.clear_,hts,run_underlying hus]
    rename_i h0;split at h
    case h_2=>cases h
    rename_i n wd' bytes z cs opn hap hz hid;obtain⟨z',ht⟩:=je hap;have:z'=z:=by have:=ht.zero;rw[hz]at this;cases this;rfl
    subst this;split at h
    case isFalse=>cases h
    rename_i hh;obtain⟨hnw,hall,hfit⟩:=hh;cases h;obtain⟨Z,hZ1,_,hZ3⟩:=dy (P:=P) (F:=F) (μ:=μ) hz w;have hZs:Z.cells.size=n:=by rw[←Array.length_toList,VRs.len hZ3];exact ht.zlen
    have hn1:=ht.n1;have hvs:VRs F w μ (rep len z'.cells) (Builtin.zeroCells Z.cells len).toList:=by
      refine .jG (by simp[db,Builtin.zeroCells,hZs,ht.zlen]) fun i v hi=> ?_;have hlt:i<len*n:=by have:=(List.getElem?_eq_some_iff.1 hi).1;rw[db,ht.zlen]at this;exact this
      have hz2:=qN _ _ _ _ hi;obtain⟨V,h3,h4⟩:=hZ3.get hz2;refine⟨V,?_,h4⟩;rw[Array.getElem?_toList,ht.zlen]at h3;rw[Array.getElem?_toList];simp only[Builtin.zeroCells,Array.getElem?_map,hZs,Array.getElem?_range,if_pos hlt,Option.map_some];congr 1;rw[getElem!_def,h3]
    cases hs with
    | sl _ _ _ _ sc L hμ hc hl hb=>
      obtain⟨w',h1,h2,h3⟩:=s.store (P:=P) (off:=off) hid hvs (wo hall len) (by rw[db,ht.zlen];exact hfit) hμ;refine⟨.tuple #[],w',F,μ,?_,h2,h3,.tup _ _ .nil⟩;cases len with
      |zero=>exact(h0 rfl).elim
      |succ len=>simp[Builtin.clear_,hts,run_underlying hus,hZ1,h1]
end
def wq(P:Program)(t:TypeId):Bool:=match P.underlying t with
 |some (.int .i64)=>true
 |_=>false
def lI (P : Program) (sT xT:TypeId) (sv x:AV) (H:List OB):Option (AV×List OB):=
  match P.underlying sT,wq P xT,x with
  | some (.slice e),true,.int .i64 k=>match apT P e,bS P e with
    | some (n,_,bytes),some z=>match sv with
      | .sl id off len wd=>match H[id]? with
        |some (.cells cs true)=>if 0<k∧n=esz wd∧z.cells.all AV.isC=true∧(len+k.toNat)*bytes≤2^47∧off+len*n=cs.length then
            some (.sl H.length 0 (len+k.toNat) wd,H.set id .dead++[.cells (cs.drop off++rep k.toNat z.cells) true])else none
        |_=>none
      |_=>none
    |_,_=>none
  |_,_,_=>none
section
variable{P:Program} {w0:World} {F0 F:Nat→Nat→Prop} {μ:Nat→Option Loc} {H:List OB} {w:World}
theorem yc{t:TypeId}(h:wq P t=true):P.underlying t=some (.int .i64):=by
 unfold wq at h;split at h
 ·assumption
 ·cases h
theorem sK {sT xT rT e n wd bytes:Nat} {z:AV} (ht:ApT P e n wd bytes z) (hs:P.underlying sT=some (.slice e)) (hx:P.underlying xT=some (.int .i64))
    {a:Addr} {sl sc m:Nat} {Z:Value} (hZ:(zeroValue e).run P w=.ok Z w) (hm:0<m) (hb:m*bytes≤2^47) (hroom:sl+m≤sc)
    {w':World} (hst:(storeCells (a.add (sl*n)) (Builtin.zeroCells Z.cells m).toList).run P w=.ok () w'):
    (Builtin.append_ #[sT,xT] rT #[.slice (some a) sl sc,.int .i64 (m:Int)]).run P w=.ok (.slice (some a) (sl+m) sc) w':=by
  obtain⟨i,hi,hi1,hi2⟩:=ht.info;have hb1:=ht.b1;have hn1:=ht.n1;have hm47:m≤2^47:=Nat.le_trans (Nat.le_mul_of_pos_right _ hb1) hb;have hw1:IntKind.i64.wrap (m:Int)=m:=IntWalk.i64_in _ (by omega);have hbm: ¬((m:Int)*(bytes:Int)>2^48):=by
    have h2:(m:Int)*(bytes:Int)=((m*bytes:Nat):Int):=by simp
    rw[h2];omega
  have hbm': ¬(281474976710656<(m:Int)*(bytes:Int)):=by simpa using hbm
  have hmn: ¬(m*n=0):=Nat.mul_ne_zero (by omega) (by omega);have hmn': ¬(m=0∨n=0):=by omega
  have hneg: ¬((m:Int)<0):=by omega
  simp[Builtin.append_,run_underlying hs,run_underlying hx,aK ht.tsz,asInt,asIntOf,hw1,run_typeInfo hi,hi2,hbm',hroom,hmn,hmn',hZ,hst,hneg]
theorem CX{t:TypeId}{z:AV}(h:bS P t=some z):∃V,∀w,(zeroValue t).run P w=.ok V w:=by
 unfold bS at h;cases hi:P.info? t with
 |none=>rw[hi]at h;cases h
 |some i=>
  rw[hi]at h;simp only[Option.bind_some]at h;cases hz:i.zero with
  |none=>rw[hz]at h;cases h
  |some V=>exact⟨V,fun w=>by simp[zeroValue,run_typeInfo hi,hz]⟩
theorem qR {sT xT rT e n wd bytes:Nat} {z:AV} (ht:ApT P e n wd bytes z) (hs:P.underlying sT=some (.slice e)) (hx:P.underlying xT=some (.int .i64))
    {b o sl sc m:Nat} {Os:List Value} {Z:Value} (hZ: ∀w,(zeroValue e).run P w=.ok Z w) (hZs:Z.cells.size=n) (hm:0<m) (hroom:sc<sl+m) (hlo:Os.length=sl*n)
    (ho: ∀(j:Nat) V,Os[j]? =some V→w.cell? ⟨b,o+j,none⟩=some V) (hbig:(sl+m)*bytes≤2^47):
    ∃(c:Array Value) (nc:Nat),sl+m≤nc∧c.size=nc*n∧(∀(j:Nat) (V:Value),(Os++(Builtin.zeroCells Z.cells m).toList)[j]? =some V→c[j]? =some V)∧
    (Builtin.append_ #[sT,xT] rT #[.slice (some ⟨b,o,none⟩) sl sc,.int .i64 (m:Int)]).run P w=
      .ok (.slice (some ⟨w.heap.size,0,none⟩) (sl+m) nc) (w.drew.alloc (.cells c e)):=by
  have h1:=qL (sl+m) sc e (w.tape w.drawn (.appendCap (sl+m) sc e));generalize hnc:(Question.appendCap (sl+m) sc e).cut (w.tape w.drawn (.appendCap (sl+m) sc e))=nc at h1;obtain⟨i,hi,hi1,hi2⟩:=ht.info;have hb1:=ht.b1;have hn1:=ht.n1;have hfo:=lF (P:=P) (w:=w.drew) (cap:=sc) (A:=some ⟨b,o,none⟩) hlo (.inr ⟨b,o,rfl,fun j V hj=>ho j V hj⟩);have hzl:(Builtin.zeroCells Z.cells m).size=m*n:=by simp[Builtin.zeroCells,hZs]
  have hmb:m*bytes≤2^47:=Nat.le_trans (Nat.mul_le_mul_right _ (Nat.le_add_left m sl)) hbig;have hm47:m≤2^47:=Nat.le_trans (Nat.le_mul_of_pos_right _ hb1) hmb;have hsm47:sl+m≤2^47:=Nat.le_trans (Nat.le_mul_of_pos_right _ hb1) hbig;have hw1:IntKind.i64.wrap (m:Int)=m:=IntWalk.i64_in _ (by omega);have hbm': ¬(281474976710656<(m:Int)*(bytes:Int)):=by
    have h2:(m:Int)*(bytes:Int)=((m*bytes:Nat):Int):=by simp
    rw[h2];omega
  have hmn: ¬(m*n=0):=Nat.mul_ne_zero (by omega) (by omega);have hmn': ¬(m=0∨n=0):=by omega
  have hneg: ¬((m:Int)<0):=by omega
  refine⟨Os.toArray++(Builtin.zeroCells Z.cells m++Builtin.zeroCells Z.cells (nc - (sl+m))),nc,h1,?_,?_,?_⟩
  · simp only[Array.size_append,List.size_toArray,hlo,hzl,Builtin.zeroCells,Array.size_map,Array.size_range,hZs]
    have:nc=sl+m+(nc - (sl+m)):=by omega
    rw[←Nat.add_assoc,←Nat.add_mul,←Nat.add_mul,←this]
  · intro j V hj
    rw[←Array.append_assoc,Array.getElem?_append_left (by
      have:=(List.getElem?_eq_some_iff.1 hj).1
      simp at this ⊢;exact this)]
    rw[←Array.getElem?_toList,Array.toList_append];exact hj
  · have hcap: ¬Builtin.nextslicecap (sl+m) sc*bytes>2^48:=by
      have:=nB (sl+m) sc hroom;have h9:=Nat.mul_le_mul_right bytes this;rw[Nat.mul_assoc]at h9;omega
    have hcap': ¬281474976710656<Builtin.nextslicecap (sl+m) sc*bytes:=by simpa using hcap
    have hb0: ¬bytes=0:=by omega
    have hnroom: ¬sl+m≤sc:=by omega
    have hforced:(Question.appendCap (sl+m) sc e).forced=false:=rfl;have hmax: ¬(9223372036854775807<(sl:Int)+(m:Int)):=by omega
    simp[Builtin.append_,run_underlying hs,run_underlying hx,aK ht.tsz,asInt,asIntOf,hw1,run_typeInfo hi,hi2,hb0,hbm',hcap',hforced,hnc,hfo,hnroom,hmn,hmn',hZ,hneg,hmax,newRow]
theorem yd (s:Sim w0 F0 F μ H w) {sT xT rT:TypeId} {sv x v:AV} {S X:Value} {H':List OB} (hs:VR F w μ sv S) (hx:VR F w μ x X) (h:lI P sT xT sv x H=some (v,H')):
    bT P (Builtin.append_ #[sT,xT] rT #[S,X]) w0 F0 F μ w v H':=by
  unfold lI at h;split at h
  case h_2=>cases h
  rename_i e k hus hux;have hux:=yc hux;split at h
  case h_2=>cases h
  rename_i n wd' bytes z hap hz;obtain⟨z',ht⟩:=je hap;have:z'=z:=by have:=ht.zero;rw[hz]at this;cases this;rfl
  subst this;split at h
  case h_2=>cases h
  rename_i id off len wd;split at h
  case h_2=>cases h
  rename_i cs hid;split at h
  case isFalse=>cases h
  rename_i hh;obtain⟨hk,hnw,hall,hbig,hend⟩:=hh;cases h;obtain⟨m,rfl⟩: ∃m:Nat,k=(m:Int):=⟨k.toNat,by omega⟩
  simp only[Int.toNat_natCast]at hbig ⊢;have hm:0<m:=by omega
  have hb1:=ht.b1;have hn1:=ht.n1;obtain⟨Z,hZ⟩:=CX hz;obtain⟨Z',hZ1,_,hZ3⟩:=dy (P:=P) (F:=F) (μ:=μ) hz w;have:Z'=Z:=by have:=hZ w;rw[hZ1]at this;cases this;rfl
  subst this;have hZs:Z'.cells.size=n:=by rw[←Array.length_toList,VRs.len hZ3];exact ht.zlen
  have hvs:VRs F w μ (rep m z'.cells) (Builtin.zeroCells Z'.cells m).toList:=by
    refine .jG (by simp[db,Builtin.zeroCells,hZs,ht.zlen]) fun i v hi=> ?_;have hlt:i<m*n:=by have:=(List.getElem?_eq_some_iff.1 hi).1;rw[db,ht.zlen]at this;exact this
    have hz2:=qN _ _ _ _ hi;obtain⟨V,h3,h4⟩:=hZ3.get hz2;refine⟨V,?_,h4⟩;rw[Array.getElem?_toList,ht.zlen]at h3;rw[Array.getElem?_toList];simp only[Builtin.zeroCells,Array.getElem?_map,hZs,Array.getElem?_range,if_pos hlt,Option.map_some];congr 1;rw[getElem!_def,h3]
  have hrl:(rep m z'.cells).length=m*n:=by rw[db,ht.zlen]
  have hmb:m*bytes≤2^47:=Nat.le_trans (Nat.mul_le_mul_right _ (Nat.le_add_left m len)) hbig;have hle:len+m≤2^47:=Nat.le_trans (Nat.le_mul_of_pos_right _ hb1) hbig;cases hx with
  |int _ _=>
  cases hs with
  | sl _ _ _ _ sc L hμ hc hl hb=>
    have hob:=s.obs id _ hid;cases hob with
    | cells _ _ L2 c el lo hi hμ2 hB hw hcap hlen hfix hun hcs hF=>
      rw[hμ]at hμ2;cases hμ2;rw[←hnw]at hc;have hmul:(len+m)*n=len*n+m*n:=Nat.add_mul ..;by_cases hroom:len+m≤sc
      · have hmn:(len+m)*n≤sc*n:=Nat.mul_le_mul_right n hroom
        obtain⟨w',h1,h2,h3⟩:=s.extend (P:=P) hid hvs (wo hall m) hμ (by omega)
        have hrun:=sK (z:=z') (rT:=rT) (P:=P) (w:=w) ht hus hux (a:=⟨L.block,L.off+off,none⟩) (sl:=len) (sc:=sc) (m:=m) (Z:=Z') (hZ w) hm hmb hroom (w':=w') (by
          simp only[add_plain]
          rw[show L.off+off+len*n=L.off+cs.length from by omega];exact h1)
        have hid':(H.set id (.cells (cs++rep m z'.cells) true))[id]? =some (.cells (cs++rep m z'.cells) true):=by
          have:=(List.getElem?_eq_some_iff.1 hid).1;rw[List.getElem?_set,if_pos rfl,if_pos this]
        obtain⟨μ',x2,h4,s4⟩:=h3.move (off:=off) hid' hμ (by rw[List.length_append];omega);rw[List.length_set]at h4;rw[List.set_set,List.drop_append_of_le_length (by omega)]at s4;refine⟨_,w',F,μ',hrun,h2.trans x2,s4,?_⟩;have:=VR.sl (F:=F) (w:=w') (μ:=μ') H.length 0 (len+m) wd sc ⟨L.block,L.off+off,L.cap - off⟩ h4 (by rw[←hnw];show 0+sc*n=L.cap - off;omega) hroom (by unfold ay;omega);exact this
      · obtain⟨Os,hOs,hOc⟩:=da (F:=F) (w:=w) (μ:=μ) (cs:=cs.drop off) (g:=fun i=>w.cell? ⟨L.block,L.off+off+i,none⟩) (fun i v hiv=>by
          rw[List.getElem?_drop]at hiv;obtain⟨V,h5,h6⟩:=hcs _ v hiv
          exact⟨V,by rw[dH w _ _ c el (lo,hi) hw,show L.off+off+i=L.off+(off+i)from by omega];exact h5,h6⟩)
        have hOl:Os.length=len*n:=by rw[VRs.len hOs,List.length_drop];omega
        obtain⟨c',nc',h6,h7,h8,h9⟩:=qR (P:=P) (w:=w) (rT:=rT) ht hus hux (b:=L.block) (o:=L.off+off) (sl:=len) (sc:=sc) (m:=m) (Z:=Z') hZ hZs hm (by omega) hOl hOc hbig;have hall2:=hOs.append hvs;have hlen2:(cs.drop off++rep m z'.cells).length=(len+m)*n:=by rw[List.length_append,List.length_drop,hrl];omega
        have hkill:=s.kill id;obtain⟨μ',x1,h10,s1⟩:=hkill.grow hall2 c' e (nc'*n) h8 h7 (by rw[hlen2];exact Nat.mul_le_mul_right n h6);rw[List.length_set]at h10;refine⟨_,_,F,μ',h9,x1,s1,?_⟩;exact .sl H.length 0 (len+m) wd nc' ⟨w.heap.size,0,nc'*n⟩ h10 (by rw[←hnw];exact Nat.zero_add _) h6 (by unfold ay;omega)
end
end Go.Av
