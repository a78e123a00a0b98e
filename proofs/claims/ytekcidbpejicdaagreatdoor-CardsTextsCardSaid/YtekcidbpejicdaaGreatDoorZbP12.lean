/- A framework of abstract values: no program in sight; under the conditions named at each theorem. -/
import Derived.Test.YtekcidbpejicdaaGreatDoorZbP9
namespace Go.Av
set_option linter.unusedVariables false
set_option linter.unusedSimpArgs false
theorem rJ:∀(x y:Bytes),Op.bytesLess x y=decide (x<y)
 | [],[]=>by simp[Op.bytesLess]
 |_::_,[]=>by simp[Op.bytesLess]
 | [],_::_=>by simp[Op.bytesLess]
 |a::x,b::y=>by
  rw[Op.bytesLess,rJ x y];simp only[List.cons_lt_cons_iff];by_cases h1:a<b<;>by_cases h2:a=b<;>by_cases h3:x<y<;>simp[h1,h2,h3]
theorem jX{a b c:Bytes}(h:a<b)(k:b<c):a<c:=List.lt_trans h k
theorem mI(a:Bytes):¬a<a:=List.lt_irrefl a
theorem xq{a b:Bytes}(h:a<b):a≠b:=fun e=>by subst e;exact mI _ h
theorem BF{a b:Bytes}:a≤b↔¬b<a:=List.not_lt.symm
theorem xr{a b:Bytes}(h:a<b):a≤b:=BF.2 fun k=>mI _ (jX h k)
theorem BG(a b:Bytes):a<b∨a=b∨b<a:=by
 by_cases h:a<b
 ·exact .inl h
 ·by_cases k:b<a
  ·exact .inr (.inr k)
  ·exact .inr (.inl (List.le_antisymm (BF.2 k) (BF.2 h)))
theorem rK(l:List Bytes):List.Pairwise (fun a b:Bytes=>a≤b) (cq l):=by
 have:=List.pairwise_mergeSort (le:=fun x y:Bytes=>decide (x≤y)) (fun a b c h k=>by simp only[decide_eq_true_eq]at*;exact List.le_trans h k) (fun a b=>by simpa using List.le_total a b) l;exact this.imp (fun h=>by simpa using h)
theorem kY(l:List Bytes):(cq l).Perm l:=List.mergeSort_perm l _
theorem yJ{l m:List Bytes}(h:l.Perm m)(hl:List.Pairwise (fun a b:Bytes=>a≤b) l)(hm:List.Pairwise (fun a b:Bytes=>a≤b) m):l=m:=
 List.Perm.eq_of_pairwise (fun a b _ _ h k=>List.le_antisymm h k) hl hm h
end Go.Av
