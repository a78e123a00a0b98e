/- A framework of abstract values: no program in sight; under the conditions named at each theorem. -/
import Derived.Test.YtjlhemfmeboadaaGreatDoorZfP9
namespace Go.Av
set_option linter.unusedVariables false
set_option linter.unusedSimpArgs false

inductive Lee:List AV→List AV→Prop
 | nil:Lee [] []
 | cons (v v':AV) (l l':List AV) (h:Les v.cells v'.cells) (t:Lee l l'):Lee (v::l) (v'::l')
section
variable {F:Nat→Nat→Prop} {w:World} {μ:Nat→Option Loc}
theorem Les.len:∀ {xs ys:List AV},Les xs ys→ys.length = xs.length
 | [],ys,h=>by cases h; rfl
 | x::xs,ys,h=>by cases h with | cons _ _ _ _ h t=>simp [Les.len t]
theorem Lee.len:∀ {xs ys:List AV},Lee xs ys→ys.length = xs.length
 | [],ys,h=>by cases h; rfl
 | x::xs,ys,h=>by cases h with | cons _ _ _ _ h t=>simp [Lee.len t]
theorem VRm.le {b:Nat}:∀ {xs ys:List AV} {o:Nat},VRm F w μ xs b o→Les xs ys→VRm F w μ ys b o
 | [],ys,o,h,hl=>by cases hl; exact .nil _ _
 | x::xs,ys,o,h,hl=>by
  cases hl with
  | cons _ y _ _ h1 h2=>cases h with
   | cons _ V _ _ _ hF hc hv t=>exact .cons y V _ _ _ hF hc (hv.le h1) (VRm.le t h2)
theorem VRe.le {n b:Nat}:∀ {xs ys:List AV} {o:Nat},VRe F w μ xs n b o→Lee xs ys→VRe F w μ ys n b o
 | [],ys,o,h,hl=>by cases hl; exact .nil _ _ _
 | x::xs,ys,o,h,hl=>by
  cases hl with
  | cons _ y _ _ h1 h2=>cases h with
   | cons _ _ _ _ _ hs h t=>exact .cons y _ _ _ _ (by rw [h1.len]; exact hs) (h.le h1) (VRe.le t h2)
theorem VR.lee {wd:Nat} {x:Bool} {es es':List AV} {V:Value} (h:VR F w μ (.vsl wd x es) V) (hl:Lee es es'):VR F w μ (.vsl wd x es') V:=by
 have hlen:=hl.len
 cases h with
 | vsl _ _ _ A cap hx hle hb ha=>
  rw [← hlen]
  refine .vsl wd x es' A cap (by rw [hlen]; exact hx) (by rw [hlen]; exact hle) (by rw [hlen]; exact hb) ?_
  cases ha with
  | nil _ A=>cases hl; exact .nil _ _
  | «at» _ _ b o he=>exact .at _ _ b o (he.le hl)
end
def Sb (v v':AV):Prop:=∀ (F:Nat→Nat→Prop) (w:World) (V:Value),VR F w noμ v V→VR F w noμ v' V
inductive Sbs:List AV→List AV→Prop
 | nil:Sbs [] []
 | cons {v v':AV} {l l':List AV} (h:Sb v v') (t:Sbs l l'):Sbs (v::l) (v'::l')
theorem Sb.refl (v:AV):Sb v v:=fun _ _ _ h=>h
theorem Sb.trans {a b c:AV} (h:Sb a b) (k:Sb b c):Sb a c:=fun F w V v=>k F w V (h F w V v)
theorem Sb.le {v v':AV} (h:Le v v'):Sb v v':=fun _ _ _ k=>k.le h
theorem Sb.elems {wd:Nat} {x:Bool} {es es':List AV} (h:Lee es es'):Sb (.vsl wd x es) (.vsl wd x es'):=fun _ _ _ k=>k.lee h
theorem Sbs.of {F:Nat→Nat→Prop} {w:World}:∀ {l l':List AV} {Vs:List Value},Sbs l l'→VRs F w noμ l Vs→VRs F w noμ l' Vs
 | [],_,_,h,k=>by cases h; exact k
 | _::_,_,_,h,k=>by
  cases h with
  | cons h t=>cases k with
   | cons _ _ _ _ k1 k2=>exact .cons _ _ _ _ (h _ _ _ k1) (Sbs.of t k2)
theorem Sb.agg {l l':List AV} (h:Sbs l l'):Sb (.agg l) (.agg l'):=by
 intro F w V k
 cases k with
 | agg _ A hA=>exact .agg _ A (h.of hA)
theorem PureFn.sub {P:Program} {f:FuncId} {args args':List AV} {out:Out} (h:Sbs args args') (hp:PureFn P f args' out):PureFn P f args out:=
 fun F w Vs hlt hv=>hp F w Vs hlt (h.of hv)
end Go.Av
