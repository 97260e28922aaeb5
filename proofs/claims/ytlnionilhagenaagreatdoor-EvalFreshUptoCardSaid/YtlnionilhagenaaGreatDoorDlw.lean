import Derived.Test.YtlnionilhagenaaGreatDoorLd
import Derived.Test.YtlnionilhagenaaGreatDoorLaw
import Derived.Test.YtlnionilhagenaaGreatDoorPut
namespace Go.Proofs.YtlnionilhagenaaGreatDoor
open Go.RowKit
set_option linter.all false
/-- What the laws' own reading comes back with. -/
def valO (a : Except Int (St × List Int)) (c : Nat × Value) : Value := match a with
  | .ok _ => .tuple #[.pointer (some ⟨c.1, 0, none⟩), c.2, .bool true]
  | .error _ => .tuple #[.pointer none, .slice none 0 0, .bool false]
def postO [GlobFix] (a : Except Int (St × List Int)) (c : Nat × Value) : List HP := match a with
  | .ok x => [gl, stAt c.1 x.1, slc 3 1 c.2 x.2.length (fl ic x.2)]
  | .error _ => [gl]
end Go.Proofs.YtlnionilhagenaaGreatDoor
