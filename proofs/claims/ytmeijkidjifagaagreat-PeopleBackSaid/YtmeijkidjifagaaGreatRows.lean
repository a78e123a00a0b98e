/-
  No cell of these rows narrows 'for every input' (looked for: loops, veiled, ifaces, maps, wideKeys, modest, calm, conditions, laid).
  DERIVED. THE GIVEN ROWS OF THIS SEAT. 4 by the template 'for every input the law returns true; each argument reads behind the call as it read before'; 0 by the template 'total and deterministic' (their statements: YtmeijkidjifagaaGreatTotals.lean).
  GIVEN WITH THE SEED: the statements are not yours to turn. If you find one false, say at which input.
  Laid BY PROGRAM, IN A SANDBOX (cutbox-rows.mjs): the forced cells as the released guide's own fill.sh prints them over the translation 6a72553c8be7d537… (all of the seat's roots in one cut). By AI agents, Wed Nov 11 2026. No macro, syntax, notation, axiom, sorry.
-/
import Derived.Test.YtmeijkidjifagaaGreatChecked
import GoSem.Claim
import GoSem.ClaimJoined
import GoSem.ClaimMapViews
import Derived.JoinedTies
import Derived.KernelRfl
namespace Go.Proofs.YtmeijkidjifagaaGreat
/- THE CELL 'sum', in the pinned program and in every row, IS THE sha256 OF THE DUMP (.gsa) THAT YtmeijkidjifagaaGreatProg.lean LOADS. Nothing in Lean hashes anything: it is a label: what it is worth is what the hold of that sum in a sandbox is worth. -/
noncomputable def Tryz.pinned : Pinned := { name := "ytmeijkidjifagaagreat", sum := "6a72553c8be7d5371de5e7dce06d0316ee4a4d322e088e70683e23b073f10e30", checked := Tryz.checked }
namespace Rows
def none {H : Type} : Left H := { results := [], args := [] }

/-- 'cardcaselaw18.PeopleOf': WHATEVER THE INPUT: true; the input reads as it did. -/
def peopleOfSpec : ChangeSpec := { name := "peopleOf", fn := fun _ => fun
  | [d] => { results := [.lit (.bool true)], args := [d] }
  | _ => none }
def peopleOfRow : OpenClaim := { program := "ytmeijkidjifagaagreat", sum := "6a72553c8be7d5371de5e7dce06d0316ee4a4d322e088e70683e23b073f10e30", func := "cardcase/cardcaselaw18.PeopleOf", spec := "peopleOf", unfollowed := true, recurses := true, apart := false }
def PeopleOfSaid : Prop := peopleOfRow.holds Tryz.pinned (OpenSpec.ofChange peopleOfSpec)

/-- ITS FALSE NEIGHBOUR: 'it returns false'. Refute it at one input. -/
def peopleOfWrong : ChangeSpec := { name := "peopleOf", fn := fun _ => fun
  | [d] => { results := [.lit (.bool false)], args := [d] }
  | _ => none }
def PeopleOfWrongFalsely : Prop := peopleOfRow.holds Tryz.pinned (OpenSpec.ofChange peopleOfWrong)

/-- 'cardcaselaw18.PeopleNew': WHATEVER THE INPUT: true; the input reads as it did. -/
def peopleNewSpec : ChangeSpec := { name := "peopleNew", fn := fun _ => fun
  | [d] => { results := [.lit (.bool true)], args := [d] }
  | _ => none }
def peopleNewRow : OpenClaim := { program := "ytmeijkidjifagaagreat", sum := "6a72553c8be7d5371de5e7dce06d0316ee4a4d322e088e70683e23b073f10e30", func := "cardcase/cardcaselaw18.PeopleNew", spec := "peopleNew", unfollowed := true, recurses := true, apart := false }
def PeopleNewSaid : Prop := peopleNewRow.holds Tryz.pinned (OpenSpec.ofChange peopleNewSpec)

/-- ITS FALSE NEIGHBOUR: 'it returns false'. Refute it at one input. -/
def peopleNewWrong : ChangeSpec := { name := "peopleNew", fn := fun _ => fun
  | [d] => { results := [.lit (.bool false)], args := [d] }
  | _ => none }
def PeopleNewWrongFalsely : Prop := peopleNewRow.holds Tryz.pinned (OpenSpec.ofChange peopleNewWrong)

/-- 'cardcaselaw18.PeopleInto': WHATEVER THE INPUT: true; the input reads as it did. -/
def peopleIntoSpec : ChangeSpec := { name := "peopleInto", fn := fun _ => fun
  | [d1, d2] => { results := [.lit (.bool true)], args := [d1, d2] }
  | _ => none }
def peopleIntoRow : OpenClaim := { program := "ytmeijkidjifagaagreat", sum := "6a72553c8be7d5371de5e7dce06d0316ee4a4d322e088e70683e23b073f10e30", func := "cardcase/cardcaselaw18.PeopleInto", spec := "peopleInto", unfollowed := true, recurses := true, apart := false }
def PeopleIntoSaid : Prop := peopleIntoRow.holds Tryz.pinned (OpenSpec.ofChange peopleIntoSpec)

/-- ITS FALSE NEIGHBOUR: 'it returns false'. Refute it at one input. -/
def peopleIntoWrong : ChangeSpec := { name := "peopleInto", fn := fun _ => fun
  | [d1, d2] => { results := [.lit (.bool false)], args := [d1, d2] }
  | _ => none }
def PeopleIntoWrongFalsely : Prop := peopleIntoRow.holds Tryz.pinned (OpenSpec.ofChange peopleIntoWrong)

/-- 'cardcaselaw18.PeopleBack': WHATEVER THE INPUT: true; the input reads as it did. -/
def peopleBackSpec : ChangeSpec := { name := "peopleBack", fn := fun _ => fun
  | [d1, d2] => { results := [.lit (.bool true)], args := [d1, d2] }
  | _ => none }
def peopleBackRow : OpenClaim := { program := "ytmeijkidjifagaagreat", sum := "6a72553c8be7d5371de5e7dce06d0316ee4a4d322e088e70683e23b073f10e30", func := "cardcase/cardcaselaw18.PeopleBack", spec := "peopleBack", unfollowed := true, recurses := true, apart := false }
def PeopleBackSaid : Prop := peopleBackRow.holds Tryz.pinned (OpenSpec.ofChange peopleBackSpec)

/-- ITS FALSE NEIGHBOUR: 'it returns false'. Refute it at one input. -/
def peopleBackWrong : ChangeSpec := { name := "peopleBack", fn := fun _ => fun
  | [d1, d2] => { results := [.lit (.bool false)], args := [d1, d2] }
  | _ => none }
def PeopleBackWrongFalsely : Prop := peopleBackRow.holds Tryz.pinned (OpenSpec.ofChange peopleBackWrong)

/- THE SECOND FORM. 'bulk': how many values and letters a reading holds, each counted each time it is reached (what is shared counts as often as it is met; a slice's spare places count too). A statement '..UptoSaid' is the law's where the arguments, and the package variables that the reading takes, are together of bulk at most 1048576: NARROWER than '..Said'. Prove '..Said' where nothing that the law and all that it calls make is longer than what came in: it says more and counts as full. Else prove '..UptoSaid'. A law counts once. -/
mutual
def uptoBulk {H : Type} : DataW H → Nat
  | .lit (.string bytes) => bytes.length + 1
  | .lit _ => 1
  | .nil => 1
  | .ptr d => uptoBulk d + 1
  | .slice elems spare => uptoBulkAll elems + uptoBulkAll spare + 1
  | .agg parts => uptoBulkAll parts + 1
  | .iface _ d => uptoBulk d + 1
  | .map entries => uptoBulkEntries entries + 1
  | .held _ => 1
def uptoBulkAll {H : Type} : List (DataW H) → Nat
  | [] => 0
  | d :: r => uptoBulk d + uptoBulkAll r
def uptoBulkEntries {H : Type} : List (Lit × DataW H) → Nat
  | [] => 0
  | x :: r => uptoBulkEntry x + uptoBulkEntries r
def uptoBulkEntry {H : Type} : Lit × DataW H → Nat
  | (.string bytes, d) => bytes.length + uptoBulk d + 1
  | (_, d) => uptoBulk d + 1
 end
def uptoSmall : (H : Type) → List (DataW H) → Bool := fun _ ds => decide (uptoBulkAll ds ≤ 1048576)
def OpenSpec.upto (s : _root_.Go.ChangeSpec) : _root_.Go.OpenSpec := { _root_.Go.OpenSpec.ofChange s with cond := some uptoSmall }

/-- 'cardcaselaw18.PeopleOf', WHERE WHAT IT READS IS OF BULK AT MOST 1048576: true; the input reads as it did. -/
def peopleOfUptoRow : OpenClaim := { program := "ytmeijkidjifagaagreat", sum := "6a72553c8be7d5371de5e7dce06d0316ee4a4d322e088e70683e23b073f10e30", func := "cardcase/cardcaselaw18.PeopleOf", spec := "peopleOf", unfollowed := true, recurses := true, apart := false, narrowed := true }
def PeopleOfUptoSaid : Prop := peopleOfUptoRow.holds Tryz.pinned (OpenSpec.upto peopleOfSpec)

/-- 'cardcaselaw18.PeopleNew', WHERE WHAT IT READS IS OF BULK AT MOST 1048576: true; the input reads as it did. -/
def peopleNewUptoRow : OpenClaim := { program := "ytmeijkidjifagaagreat", sum := "6a72553c8be7d5371de5e7dce06d0316ee4a4d322e088e70683e23b073f10e30", func := "cardcase/cardcaselaw18.PeopleNew", spec := "peopleNew", unfollowed := true, recurses := true, apart := false, narrowed := true }
def PeopleNewUptoSaid : Prop := peopleNewUptoRow.holds Tryz.pinned (OpenSpec.upto peopleNewSpec)

/-- 'cardcaselaw18.PeopleInto', WHERE WHAT IT READS IS OF BULK AT MOST 1048576: true; the input reads as it did. -/
def peopleIntoUptoRow : OpenClaim := { program := "ytmeijkidjifagaagreat", sum := "6a72553c8be7d5371de5e7dce06d0316ee4a4d322e088e70683e23b073f10e30", func := "cardcase/cardcaselaw18.PeopleInto", spec := "peopleInto", unfollowed := true, recurses := true, apart := false, narrowed := true }
def PeopleIntoUptoSaid : Prop := peopleIntoUptoRow.holds Tryz.pinned (OpenSpec.upto peopleIntoSpec)

/-- 'cardcaselaw18.PeopleBack', WHERE WHAT IT READS IS OF BULK AT MOST 1048576: true; the input reads as it did. -/
def peopleBackUptoRow : OpenClaim := { program := "ytmeijkidjifagaagreat", sum := "6a72553c8be7d5371de5e7dce06d0316ee4a4d322e088e70683e23b073f10e30", func := "cardcase/cardcaselaw18.PeopleBack", spec := "peopleBack", unfollowed := true, recurses := true, apart := false, narrowed := true }
def PeopleBackUptoSaid : Prop := peopleBackUptoRow.holds Tryz.pinned (OpenSpec.upto peopleBackSpec)

end Rows
end Go.Proofs.YtmeijkidjifagaaGreat
