/- Contracts of functions that the statements of this seat reach: under the conditions named at each theorem. -/
import Derived.Test.YtekcidbpejicdaaGreatDoorZbP4
import Derived.Test.YtekcidbpejicdaaGreatDoorZbP5
namespace Go.Proofs.YtekcidbpejicdaaGreatDoor
set_option linter.unusedVariables false
set_option linter.unusedSimpArgs false
open Go Go.Av
theorem xi9{s:Bytes}{b:UInt8}{k:IntKind}{n:Nat}(h:s[n]? =some b):cf Tryz.prog 9 (.str s) (.int k (n:Int))=some (.int .u8 b.toNat):=wA Tryz.underlying9 k n ⟨Int.natCast_nonneg n,by simpa using h⟩
theorem rA{wd:Nat}{x:Bool}{es:List AV}{k:IntKind}{n:Nat}{v:AV}(h:es[n]? =some v)(hv:v.cells.length=4)(H:List OB):ak Tryz.prog 22 (.vsl wd x es) (.int k (n:Int)) H=some (.vptr v.cells):=lO Tryz.underlying22 De wd x es k n H ⟨Int.natCast_nonneg n,by simpa using h⟩ hv
theorem L0:bS Tryz.prog 24=some (.agg [.str [],.nilsl]):=by kernel_rfl
theorem eJ{wd:Nat}{x:Bool}{es:List AV}{k:IntKind}{n:Nat}{v:AV}(h:es[n]? =some v)(hv:v.cells.length=1)(H:List OB):ak Tryz.prog 25 (.vsl wd x es) (.int k (n:Int)) H=some (.vptr v.cells):=lO Tryz.underlying25 tz9 wd x es k n H ⟨Int.natCast_nonneg n,by simpa using h⟩ hv
theorem L3:bS Tryz.prog 27=some (.agg [.nilsl,.nilsl,.nilsl,.nilsl,.nilsl,.nilsl,.nilsl,.nilsl]):=by kernel_rfl
theorem L4:bS Tryz.prog 31=some (.int .i64 0):=by kernel_rfl
theorem Ho{wd:Nat}{x:Bool}{es:List AV}{k:IntKind}{n:Nat}{v:AV}(h:es[n]? =some v)(hv:v.cells.length=2)(H:List OB):ak Tryz.prog 44 (.vsl wd x es) (.int k (n:Int)) H=some (.vptr v.cells):=lO Tryz.underlying44 Df wd x es k n H ⟨Int.natCast_nonneg n,by simpa using h⟩ hv
theorem L5:bS Tryz.prog 46=some (.agg [.str [],.str [],.nilsl,.str []]):=by kernel_rfl
theorem L6:bS Tryz.prog 55=some (.agg [.str [],.str []]):=by kernel_rfl
theorem L7:bS Tryz.prog 60=some (.nilmap):=by kernel_rfl
theorem yy{wd:Nat}{x:Bool}{es:List AV}{k:IntKind}{n:Nat}{v:AV}(h:es[n]? =some v)(hv:v.cells.length=1)(H:List OB):ak Tryz.prog 64 (.vsl wd x es) (.int k (n:Int)) H=some (.vptr v.cells):=lO Tryz.underlying64 tz3 wd x es k n H ⟨Int.natCast_nonneg n,by simpa using h⟩ hv
theorem L8:bS Tryz.prog 66=some (.agg [.nilsl,.bool false,.bool false]):=by kernel_rfl
theorem L9:bS Tryz.prog 68=some (.agg [.str [],.str [],.nilsl,.str [],.nilsl,.bool false,.bool false,.str []]):=by kernel_rfl
theorem Ma:bS Tryz.prog 93=some (.nilfunc):=by kernel_rfl
theorem Mb:bS Tryz.prog 97=some (.nilmap):=by kernel_rfl
end Go.Proofs.YtekcidbpejicdaaGreatDoor
