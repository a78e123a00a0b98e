/- Contracts of functions that the statements of this seat reach: under the conditions named at each theorem. -/
import Derived.Test.YtekcidbpejicdaaGreatDoorZaP4
import Derived.Test.YtekcidbpejicdaaGreatDoorZaP5
namespace Go.Proofs.YtekcidbpejicdaaGreatDoor
set_option linter.unusedVariables false
set_option linter.unusedSimpArgs false
open Go Go.Av
theorem xi9{s:Bytes}{b:UInt8}{k:IntKind}{n:Nat}(h:s[n]? =some b):dP Tryz.prog 9 (.str s) (.int k (n:Int))=some (.int .u8 b.toNat):=Iw Tryz.underlying9 k n ⟨Int.natCast_nonneg n,by simpa using h⟩
theorem jj{wd:Nat}{x:Bool}{es:List AV}{k:IntKind}{n:Nat}{v:AV}(h:es[n]? =some v)(hv:v.cells.length=4)(H:List OB):ah Tryz.prog 22 (.vsl wd x es) (.int k (n:Int)) H=some (.vptr v.cells):=oV Tryz.underlying22 Dx wd x es k n H ⟨Int.natCast_nonneg n,by simpa using h⟩ hv
theorem KT:bZ Tryz.prog 24=some (.agg [.str [],.nilsl]):=by kernel_rfl
theorem dW{wd:Nat}{x:Bool}{es:List AV}{k:IntKind}{n:Nat}{v:AV}(h:es[n]? =some v)(hv:v.cells.length=1)(H:List OB):ah Tryz.prog 25 (.vsl wd x es) (.int k (n:Int)) H=some (.vptr v.cells):=oV Tryz.underlying25 tz9 wd x es k n H ⟨Int.natCast_nonneg n,by simpa using h⟩ hv
theorem KU:bZ Tryz.prog 27=some (.agg [.nilsl,.nilsl,.nilsl,.nilsl,.nilsl,.nilsl,.nilsl,.nilsl]):=by kernel_rfl
theorem KV:bZ Tryz.prog 31=some (.int .i64 0):=by kernel_rfl
theorem zj{wd:Nat}{x:Bool}{es:List AV}{k:IntKind}{n:Nat}{v:AV}(h:es[n]? =some v)(hv:v.cells.length=2)(H:List OB):ah Tryz.prog 44 (.vsl wd x es) (.int k (n:Int)) H=some (.vptr v.cells):=oV Tryz.underlying44 Gi wd x es k n H ⟨Int.natCast_nonneg n,by simpa using h⟩ hv
theorem Bf:bZ Tryz.prog 46=some (.agg [.str [],.str [],.nilsl,.str []]):=by kernel_rfl
theorem KW:bZ Tryz.prog 55=some (.agg [.str [],.str []]):=by kernel_rfl
theorem KX:bZ Tryz.prog 60=some (.nilmap):=by kernel_rfl
theorem zk{wd:Nat}{x:Bool}{es:List AV}{k:IntKind}{n:Nat}{v:AV}(h:es[n]? =some v)(hv:v.cells.length=1)(H:List OB):ah Tryz.prog 64 (.vsl wd x es) (.int k (n:Int)) H=some (.vptr v.cells):=oV Tryz.underlying64 tz3 wd x es k n H ⟨Int.natCast_nonneg n,by simpa using h⟩ hv
theorem KY:bZ Tryz.prog 66=some (.agg [.nilsl,.bool false,.bool false]):=by kernel_rfl
theorem KZ:bZ Tryz.prog 68=some (.agg [.str [],.str [],.nilsl,.str [],.nilsl,.bool false,.bool false,.str []]):=by kernel_rfl
theorem K0:bZ Tryz.prog 93=some (.nilfunc):=by kernel_rfl
theorem K3:bZ Tryz.prog 97=some (.nilmap):=by kernel_rfl
end Go.Proofs.YtekcidbpejicdaaGreatDoor
