/- Printed by gen.py (my own program): Lean functions with the answers of the Go functions, and the proofs that the code comes to them. -/
import Derived.Test.YtlnionilhagenaaGreatDoorRem
namespace Go.Proofs.YtlnionilhagenaaGreatDoor
open Go.RowKit
set_option linter.all false
set_option maxRecDepth 100000
set_option maxHeartbeats 4000000
theorem Tryz.mixedCap : Tryz.prog.follows .mixedOrders = true := by kernel_rfl

/- cadence/eval.Put$1 -/
def s_Ev_Put1 (n : Nd) (Mc : List (ByteArray × Int)) : Int × Int :=
  (((mget Mc n.Name).getD 0), 0)
theorem t_Ev_Put1 {q0 : Nat} {m9 : Nat} {n : Nd} {Mc : List (ByteArray × Int)} {r : Int × Int}
    (hs : s_Ev_Put1 n Mc = r) :
    TriV Tryz.prog 29 [.agg #[.int .i64 n.Op, .int .i64 n.W, .int .i64 n.A, .int .i64 n.B, .int .i64 n.C, .int .u64 n.Num, .string n.Name], .pointer (some ⟨q0, 0, none⟩)] [pt q0 (.cells #[.map (some m9)] 69 (0, 0)), mapAt sv iv m9 Mc] (.tuple #[.int .i64 r.1, .int .i64 r.2]) [pt q0 (.cells #[.map (some m9)] 69 (0, 0)), mapAt sv iv m9 Mc] := by
  unfold s_Ev_Put1 at hs
  refine TriL.of Tryz.func29 rfl Tryz.ntmps29 Tryz.results29 rfl (fun w0 F => ?_)
  refine WP.seq ?_
  refine WP.region ?_
  refine WO.step (SO.of rfl (EO.box rfl)) rfl ?_
  rintro _ _ ⟨b1, rfl, rfl⟩
  refine WO.toL [pt q0 (.cells #[.map (some m9)] 69 (0, 0)), mapAt sv iv m9 Mc, F, pt b1 (.cells #[.int .i64 n.Op, .int .i64 n.W, .int .i64 n.A, .int .i64 n.B, .int .i64 n.C, .int .u64 n.Num, .string n.Name] 45 (0, 0))] rfl ?_
  refine WO.val (PO.assign rfl) rfl ?_
  refine WO.val (PO.assign rfl) rfl ?_
  refine WO.nil ?_
  refine WP.seq ?_
  refine WP.region ?_
  refine WO.val (PO.load 0 rfl Tryz.isAgg69 rfl rfl) rfl ?_
  refine WO.val (PO.fieldAddr rfl Tryz.runUnderlying45 rfl Tryz.sizeOf9 rfl) rfl ?_
  refine WO.val (PO.load 3 rfl Tryz.isAgg9 rfl rfl) rfl ?_
  refine WO.val (PO.lookup1 (a := n.Name) (z := 0) 1 str_key rfl rfl Tryz.runUnderlying69 Tryz.zeroValue3 rfl) rfl ?_
  refine WO.val (PO.assign rfl) rfl ?_
  refine WO.val (PO.assign rfl) rfl ?_
  refine WO.nil ?_
  refine WP.ret ?_
  cases hs
  exact ⟨_, _, _, Res.two (RV.tmp rfl) (RV.tmp rfl), ⟨rfl, rfl⟩, fun _ s => s⟩
attribute [irreducible] s_Ev_Put1

end Go.Proofs.YtlnionilhagenaaGreatDoor
