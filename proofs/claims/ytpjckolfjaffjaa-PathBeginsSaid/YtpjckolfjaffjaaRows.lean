/-
  No cell of these rows narrows 'for every input' (looked for: loops, veiled, ifaces, maps, wideKeys, modest, calm, conditions, laid).
  DERIVED. THE GIVEN ROWS OF THIS SEAT. 7 by the template 'for every input the law returns true; each argument reads behind the call as it read before'; 0 by the template 'total and deterministic' (their statements: YtpjckolfjaffjaaTotals.lean).
  GIVEN WITH THE SEED: the statements are not yours to turn. If you find one false, say at which input.
  Laid BY PROGRAM, IN A SANDBOX (cutbox-rows.mjs): the forced cells as the released guide's own fill.sh prints them over the translation ac153751a51f8e12… (all of the seat's roots in one cut). By AI agents, Wed Nov 11 2026. No macro, syntax, notation, axiom, sorry.
-/
import Derived.Test.YtpjckolfjaffjaaChecked
import GoSem.Claim
import GoSem.ClaimJoined
import GoSem.ClaimMapViews
import Derived.JoinedTies
import Derived.KernelRfl
namespace Go.Proofs.Ytpjckolfjaffjaa
/- THE CELL 'sum', in the pinned program and in every row, IS THE sha256 OF THE DUMP (.gsa) THAT YtpjckolfjaffjaaProg.lean LOADS. Nothing in Lean hashes anything: it is a label: what it is worth is what the hold of that sum in a sandbox is worth. -/
noncomputable def Try.pinned : Pinned := { name := "ytpjckolfjaffjaa", sum := "ac153751a51f8e123ad4d4c52b6d697e48a32ff91df4e7bc0be1f39d08741b2c", checked := Try.checked }
namespace Rows
def none {H : Type} : Left H := { results := [], args := [] }

/-- 'garmentlaw41.PathTravels': WHATEVER THE INPUT: true; the input reads as it did. -/
def pathTravelsSpec : ChangeSpec := { name := "pathTravels", fn := fun _ => fun
  | [d1, d2] => { results := [.lit (.bool true)], args := [d1, d2] }
  | _ => none }
def pathTravelsRow : OpenClaim := { program := "ytpjckolfjaffjaa", sum := "ac153751a51f8e123ad4d4c52b6d697e48a32ff91df4e7bc0be1f39d08741b2c", func := "garment/garmentlaw41.PathTravels", spec := "pathTravels", unfollowed := true, recurses := true, apart := false }
def PathTravelsSaid : Prop := pathTravelsRow.holds Try.pinned (OpenSpec.ofChange pathTravelsSpec)

/-- ITS FALSE NEIGHBOUR: 'it returns false'. Refute it at one input. -/
def pathTravelsWrong : ChangeSpec := { name := "pathTravels", fn := fun _ => fun
  | [d1, d2] => { results := [.lit (.bool false)], args := [d1, d2] }
  | _ => none }
def PathTravelsWrongFalsely : Prop := pathTravelsRow.holds Try.pinned (OpenSpec.ofChange pathTravelsWrong)

/-- 'garmentlaw41.PathOrders': WHATEVER THE INPUT: true; the input reads as it did. -/
def pathOrdersSpec : ChangeSpec := { name := "pathOrders", fn := fun _ => fun
  | [d1, d2] => { results := [.lit (.bool true)], args := [d1, d2] }
  | _ => none }
def pathOrdersRow : OpenClaim := { program := "ytpjckolfjaffjaa", sum := "ac153751a51f8e123ad4d4c52b6d697e48a32ff91df4e7bc0be1f39d08741b2c", func := "garment/garmentlaw41.PathOrders", spec := "pathOrders", unfollowed := true, recurses := true, apart := false }
def PathOrdersSaid : Prop := pathOrdersRow.holds Try.pinned (OpenSpec.ofChange pathOrdersSpec)

/-- ITS FALSE NEIGHBOUR: 'it returns false'. Refute it at one input. -/
def pathOrdersWrong : ChangeSpec := { name := "pathOrders", fn := fun _ => fun
  | [d1, d2] => { results := [.lit (.bool false)], args := [d1, d2] }
  | _ => none }
def PathOrdersWrongFalsely : Prop := pathOrdersRow.holds Try.pinned (OpenSpec.ofChange pathOrdersWrong)

/-- 'garmentlaw41.PathImproves': WHATEVER THE INPUT: true; the input reads as it did. -/
def pathImprovesSpec : ChangeSpec := { name := "pathImproves", fn := fun _ => fun
  | [d1, d2] => { results := [.lit (.bool true)], args := [d1, d2] }
  | _ => none }
def pathImprovesRow : OpenClaim := { program := "ytpjckolfjaffjaa", sum := "ac153751a51f8e123ad4d4c52b6d697e48a32ff91df4e7bc0be1f39d08741b2c", func := "garment/garmentlaw41.PathImproves", spec := "pathImproves", unfollowed := true, recurses := true, apart := false }
def PathImprovesSaid : Prop := pathImprovesRow.holds Try.pinned (OpenSpec.ofChange pathImprovesSpec)

/-- ITS FALSE NEIGHBOUR: 'it returns false'. Refute it at one input. -/
def pathImprovesWrong : ChangeSpec := { name := "pathImproves", fn := fun _ => fun
  | [d1, d2] => { results := [.lit (.bool false)], args := [d1, d2] }
  | _ => none }
def PathImprovesWrongFalsely : Prop := pathImprovesRow.holds Try.pinned (OpenSpec.ofChange pathImprovesWrong)

/-- 'garmentlaw41.PathNearest': WHATEVER THE INPUT: true; the input reads as it did. -/
def pathNearestSpec : ChangeSpec := { name := "pathNearest", fn := fun _ => fun
  | [d] => { results := [.lit (.bool true)], args := [d] }
  | _ => none }
def pathNearestRow : OpenClaim := { program := "ytpjckolfjaffjaa", sum := "ac153751a51f8e123ad4d4c52b6d697e48a32ff91df4e7bc0be1f39d08741b2c", func := "garment/garmentlaw41.PathNearest", spec := "pathNearest", unfollowed := true, recurses := true, apart := false }
def PathNearestSaid : Prop := pathNearestRow.holds Try.pinned (OpenSpec.ofChange pathNearestSpec)

/-- ITS FALSE NEIGHBOUR: 'it returns false'. Refute it at one input. -/
def pathNearestWrong : ChangeSpec := { name := "pathNearest", fn := fun _ => fun
  | [d] => { results := [.lit (.bool false)], args := [d] }
  | _ => none }
def PathNearestWrongFalsely : Prop := pathNearestRow.holds Try.pinned (OpenSpec.ofChange pathNearestWrong)

/-- 'garmentlaw41.PathFarthest': WHATEVER THE INPUT: true; the input reads as it did. -/
def pathFarthestSpec : ChangeSpec := { name := "pathFarthest", fn := fun _ => fun
  | [d1, d2] => { results := [.lit (.bool true)], args := [d1, d2] }
  | _ => none }
def pathFarthestRow : OpenClaim := { program := "ytpjckolfjaffjaa", sum := "ac153751a51f8e123ad4d4c52b6d697e48a32ff91df4e7bc0be1f39d08741b2c", func := "garment/garmentlaw41.PathFarthest", spec := "pathFarthest", unfollowed := true, recurses := true, apart := false }
def PathFarthestSaid : Prop := pathFarthestRow.holds Try.pinned (OpenSpec.ofChange pathFarthestSpec)

/-- ITS FALSE NEIGHBOUR: 'it returns false'. Refute it at one input. -/
def pathFarthestWrong : ChangeSpec := { name := "pathFarthest", fn := fun _ => fun
  | [d1, d2] => { results := [.lit (.bool false)], args := [d1, d2] }
  | _ => none }
def PathFarthestWrongFalsely : Prop := pathFarthestRow.holds Try.pinned (OpenSpec.ofChange pathFarthestWrong)

/-- 'garmentlaw41.PathBegins': WHATEVER THE INPUT: true; the input reads as it did. -/
def pathBeginsSpec : ChangeSpec := { name := "pathBegins", fn := fun _ => fun
  | [d1, d2, d3] => { results := [.lit (.bool true)], args := [d1, d2, d3] }
  | _ => none }
def pathBeginsRow : OpenClaim := { program := "ytpjckolfjaffjaa", sum := "ac153751a51f8e123ad4d4c52b6d697e48a32ff91df4e7bc0be1f39d08741b2c", func := "garment/garmentlaw41.PathBegins", spec := "pathBegins", unfollowed := true, recurses := true, apart := false }
def PathBeginsSaid : Prop := pathBeginsRow.holds Try.pinned (OpenSpec.ofChange pathBeginsSpec)

/-- ITS FALSE NEIGHBOUR: 'it returns false'. Refute it at one input. -/
def pathBeginsWrong : ChangeSpec := { name := "pathBegins", fn := fun _ => fun
  | [d1, d2, d3] => { results := [.lit (.bool false)], args := [d1, d2, d3] }
  | _ => none }
def PathBeginsWrongFalsely : Prop := pathBeginsRow.holds Try.pinned (OpenSpec.ofChange pathBeginsWrong)

/-- 'garmentlaw41.PathAgain': WHATEVER THE INPUT: true; the input reads as it did. -/
def pathAgainSpec : ChangeSpec := { name := "pathAgain", fn := fun _ => fun
  | [d1, d2] => { results := [.lit (.bool true)], args := [d1, d2] }
  | _ => none }
def pathAgainRow : OpenClaim := { program := "ytpjckolfjaffjaa", sum := "ac153751a51f8e123ad4d4c52b6d697e48a32ff91df4e7bc0be1f39d08741b2c", func := "garment/garmentlaw41.PathAgain", spec := "pathAgain", unfollowed := true, recurses := true, apart := false }
def PathAgainSaid : Prop := pathAgainRow.holds Try.pinned (OpenSpec.ofChange pathAgainSpec)

/-- ITS FALSE NEIGHBOUR: 'it returns false'. Refute it at one input. -/
def pathAgainWrong : ChangeSpec := { name := "pathAgain", fn := fun _ => fun
  | [d1, d2] => { results := [.lit (.bool false)], args := [d1, d2] }
  | _ => none }
def PathAgainWrongFalsely : Prop := pathAgainRow.holds Try.pinned (OpenSpec.ofChange pathAgainWrong)

/- THE SECOND FORM. 'bulk': how many values and letters a reading holds, each counted each time it is reached (what is shared counts as often as it is met; a slice's spare places count too). A statement '..UptoSaid' is the law's where the arguments, and the package variables that the reading takes, are together of bulk at most 1048576: NARROWER than '..Said'. Prove '..Said' where nothing that the law and all that it calls make is longer than what came in: it says more and counts as full. Else prove '..UptoSaid'. A law counts once. -/
mutual
def uptoBulk {H : Type} : DataW H → Nat
  | .lit (.string bytes) => bytes.length + 1
  | .lit _ => 1
  | .nil => 1
  | .ptr d => uptoBulk d + 1
  | .slice elems spare => uptoBulkAll elems + uptoBulkAll spare + 1
  | .agg parts => uptoBulkAll parts + 1
  | .iface _ d => uptoBulk d + 1
  | .map entries => uptoBulkEntries entries + 1
  | .held _ => 1
def uptoBulkAll {H : Type} : List (DataW H) → Nat
  | [] => 0
  | d :: r => uptoBulk d + uptoBulkAll r
def uptoBulkEntries {H : Type} : List (Lit × DataW H) → Nat
  | [] => 0
  | x :: r => uptoBulkEntry x + uptoBulkEntries r
def uptoBulkEntry {H : Type} : Lit × DataW H → Nat
  | (.string bytes, d) => bytes.length + uptoBulk d + 1
  | (_, d) => uptoBulk d + 1
 end
def uptoSmall : (H : Type) → List (DataW H) → Bool := fun _ ds => decide (uptoBulkAll ds ≤ 1048576)
def OpenSpec.upto (s : _root_.Go.ChangeSpec) : _root_.Go.OpenSpec := { _root_.Go.OpenSpec.ofChange s with cond := some uptoSmall }

/-- 'garmentlaw41.PathTravels', WHERE WHAT IT READS IS OF BULK AT MOST 1048576: true; the input reads as it did. -/
def pathTravelsUptoRow : OpenClaim := { program := "ytpjckolfjaffjaa", sum := "ac153751a51f8e123ad4d4c52b6d697e48a32ff91df4e7bc0be1f39d08741b2c", func := "garment/garmentlaw41.PathTravels", spec := "pathTravels", unfollowed := true, recurses := true, apart := false, narrowed := true }
def PathTravelsUptoSaid : Prop := pathTravelsUptoRow.holds Try.pinned (OpenSpec.upto pathTravelsSpec)

/-- 'garmentlaw41.PathOrders', WHERE WHAT IT READS IS OF BULK AT MOST 1048576: true; the input reads as it did. -/
def pathOrdersUptoRow : OpenClaim := { program := "ytpjckolfjaffjaa", sum := "ac153751a51f8e123ad4d4c52b6d697e48a32ff91df4e7bc0be1f39d08741b2c", func := "garment/garmentlaw41.PathOrders", spec := "pathOrders", unfollowed := true, recurses := true, apart := false, narrowed := true }
def PathOrdersUptoSaid : Prop := pathOrdersUptoRow.holds Try.pinned (OpenSpec.upto pathOrdersSpec)

/-- 'garmentlaw41.PathImproves', WHERE WHAT IT READS IS OF BULK AT MOST 1048576: true; the input reads as it did. -/
def pathImprovesUptoRow : OpenClaim := { program := "ytpjckolfjaffjaa", sum := "ac153751a51f8e123ad4d4c52b6d697e48a32ff91df4e7bc0be1f39d08741b2c", func := "garment/garmentlaw41.PathImproves", spec := "pathImproves", unfollowed := true, recurses := true, apart := false, narrowed := true }
def PathImprovesUptoSaid : Prop := pathImprovesUptoRow.holds Try.pinned (OpenSpec.upto pathImprovesSpec)

/-- 'garmentlaw41.PathNearest', WHERE WHAT IT READS IS OF BULK AT MOST 1048576: true; the input reads as it did. -/
def pathNearestUptoRow : OpenClaim := { program := "ytpjckolfjaffjaa", sum := "ac153751a51f8e123ad4d4c52b6d697e48a32ff91df4e7bc0be1f39d08741b2c", func := "garment/garmentlaw41.PathNearest", spec := "pathNearest", unfollowed := true, recurses := true, apart := false, narrowed := true }
def PathNearestUptoSaid : Prop := pathNearestUptoRow.holds Try.pinned (OpenSpec.upto pathNearestSpec)

/-- 'garmentlaw41.PathFarthest', WHERE WHAT IT READS IS OF BULK AT MOST 1048576: true; the input reads as it did. -/
def pathFarthestUptoRow : OpenClaim := { program := "ytpjckolfjaffjaa", sum := "ac153751a51f8e123ad4d4c52b6d697e48a32ff91df4e7bc0be1f39d08741b2c", func := "garment/garmentlaw41.PathFarthest", spec := "pathFarthest", unfollowed := true, recurses := true, apart := false, narrowed := true }
def PathFarthestUptoSaid : Prop := pathFarthestUptoRow.holds Try.pinned (OpenSpec.upto pathFarthestSpec)

/-- 'garmentlaw41.PathBegins', WHERE WHAT IT READS IS OF BULK AT MOST 1048576: true; the input reads as it did. -/
def pathBeginsUptoRow : OpenClaim := { program := "ytpjckolfjaffjaa", sum := "ac153751a51f8e123ad4d4c52b6d697e48a32ff91df4e7bc0be1f39d08741b2c", func := "garment/garmentlaw41.PathBegins", spec := "pathBegins", unfollowed := true, recurses := true, apart := false, narrowed := true }
def PathBeginsUptoSaid : Prop := pathBeginsUptoRow.holds Try.pinned (OpenSpec.upto pathBeginsSpec)

/-- 'garmentlaw41.PathAgain', WHERE WHAT IT READS IS OF BULK AT MOST 1048576: true; the input reads as it did. -/
def pathAgainUptoRow : OpenClaim := { program := "ytpjckolfjaffjaa", sum := "ac153751a51f8e123ad4d4c52b6d697e48a32ff91df4e7bc0be1f39d08741b2c", func := "garment/garmentlaw41.PathAgain", spec := "pathAgain", unfollowed := true, recurses := true, apart := false, narrowed := true }
def PathAgainUptoSaid : Prop := pathAgainUptoRow.holds Try.pinned (OpenSpec.upto pathAgainSpec)

end Rows
end Go.Proofs.Ytpjckolfjaffjaa
