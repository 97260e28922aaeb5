import Derived.Test.YtlnionilhagenaaGreatDoorFr
import Derived.KernelRfl
namespace Go.Proofs.YtlnionilhagenaaGreatDoor
open Go.RowKit
set_option maxRecDepth 100000
/-- The chapter's example comes at any rate. -/
theorem live_true : s_live 16777216 = some true := by kernel_rfl
end Go.Proofs.YtlnionilhagenaaGreatDoor
