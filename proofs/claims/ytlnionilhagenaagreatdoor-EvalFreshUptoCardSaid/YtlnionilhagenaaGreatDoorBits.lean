/- Printed by gen.py (my own program): Lean functions with the answers of the Go functions, and the proofs that the code comes to them. -/
import Derived.Test.YtlnionilhagenaaGreatDoorDom
namespace Go.Proofs.YtlnionilhagenaaGreatDoor
open Go.RowKit
set_option linter.all false
set_option maxRecDepth 100000
set_option maxHeartbeats 4000000
theorem Tryz.mixedBits : Tryz.prog.follows .mixedOrders = true := by kernel_rfl

/- math/bits.OnesCount64 -/
def s_bits_OnesCount64 (x : Int) : Int :=
  (bits .and .i64 (IntKind.i64.wrap (IntKind.u64.wrap ((IntKind.u64.wrap ((IntKind.u64.wrap ((bits .and .u64 (IntKind.u64.wrap ((shrI .u64 (IntKind.u64.wrap ((bits .and .u64 (shrI .u64 (IntKind.u64.wrap ((bits .and .u64 (shrI .u64 x 1) 6148914691236517205) + (bits .and .u64 x 6148914691236517205))) 2) 3689348814741910323) + (bits .and .u64 (IntKind.u64.wrap ((bits .and .u64 (shrI .u64 x 1) 6148914691236517205) + (bits .and .u64 x 6148914691236517205))) 3689348814741910323))) 4) + (IntKind.u64.wrap ((bits .and .u64 (shrI .u64 (IntKind.u64.wrap ((bits .and .u64 (shrI .u64 x 1) 6148914691236517205) + (bits .and .u64 x 6148914691236517205))) 2) 3689348814741910323) + (bits .and .u64 (IntKind.u64.wrap ((bits .and .u64 (shrI .u64 x 1) 6148914691236517205) + (bits .and .u64 x 6148914691236517205))) 3689348814741910323))))) 1085102592571150095) + (shrI .u64 (bits .and .u64 (IntKind.u64.wrap ((shrI .u64 (IntKind.u64.wrap ((bits .and .u64 (shrI .u64 (IntKind.u64.wrap ((bits .and .u64 (shrI .u64 x 1) 6148914691236517205) + (bits .and .u64 x 6148914691236517205))) 2) 3689348814741910323) + (bits .and .u64 (IntKind.u64.wrap ((bits .and .u64 (shrI .u64 x 1) 6148914691236517205) + (bits .and .u64 x 6148914691236517205))) 3689348814741910323))) 4) + (IntKind.u64.wrap ((bits .and .u64 (shrI .u64 (IntKind.u64.wrap ((bits .and .u64 (shrI .u64 x 1) 6148914691236517205) + (bits .and .u64 x 6148914691236517205))) 2) 3689348814741910323) + (bits .and .u64 (IntKind.u64.wrap ((bits .and .u64 (shrI .u64 x 1) 6148914691236517205) + (bits .and .u64 x 6148914691236517205))) 3689348814741910323))))) 1085102592571150095) 8))) + (shrI .u64 (IntKind.u64.wrap ((bits .and .u64 (IntKind.u64.wrap ((shrI .u64 (IntKind.u64.wrap ((bits .and .u64 (shrI .u64 (IntKind.u64.wrap ((bits .and .u64 (shrI .u64 x 1) 6148914691236517205) + (bits .and .u64 x 6148914691236517205))) 2) 3689348814741910323) + (bits .and .u64 (IntKind.u64.wrap ((bits .and .u64 (shrI .u64 x 1) 6148914691236517205) + (bits .and .u64 x 6148914691236517205))) 3689348814741910323))) 4) + (IntKind.u64.wrap ((bits .and .u64 (shrI .u64 (IntKind.u64.wrap ((bits .and .u64 (shrI .u64 x 1) 6148914691236517205) + (bits .and .u64 x 6148914691236517205))) 2) 3689348814741910323) + (bits .and .u64 (IntKind.u64.wrap ((bits .and .u64 (shrI .u64 x 1) 6148914691236517205) + (bits .and .u64 x 6148914691236517205))) 3689348814741910323))))) 1085102592571150095) + (shrI .u64 (bits .and .u64 (IntKind.u64.wrap ((shrI .u64 (IntKind.u64.wrap ((bits .and .u64 (shrI .u64 (IntKind.u64.wrap ((bits .and .u64 (shrI .u64 x 1) 6148914691236517205) + (bits .and .u64 x 6148914691236517205))) 2) 3689348814741910323) + (bits .and .u64 (IntKind.u64.wrap ((bits .and .u64 (shrI .u64 x 1) 6148914691236517205) + (bits .and .u64 x 6148914691236517205))) 3689348814741910323))) 4) + (IntKind.u64.wrap ((bits .and .u64 (shrI .u64 (IntKind.u64.wrap ((bits .and .u64 (shrI .u64 x 1) 6148914691236517205) + (bits .and .u64 x 6148914691236517205))) 2) 3689348814741910323) + (bits .and .u64 (IntKind.u64.wrap ((bits .and .u64 (shrI .u64 x 1) 6148914691236517205) + (bits .and .u64 x 6148914691236517205))) 3689348814741910323))))) 1085102592571150095) 8))) 16))) + (shrI .u64 (IntKind.u64.wrap ((IntKind.u64.wrap ((bits .and .u64 (IntKind.u64.wrap ((shrI .u64 (IntKind.u64.wrap ((bits .and .u64 (shrI .u64 (IntKind.u64.wrap ((bits .and .u64 (shrI .u64 x 1) 6148914691236517205) + (bits .and .u64 x 6148914691236517205))) 2) 3689348814741910323) + (bits .and .u64 (IntKind.u64.wrap ((bits .and .u64 (shrI .u64 x 1) 6148914691236517205) + (bits .and .u64 x 6148914691236517205))) 3689348814741910323))) 4) + (IntKind.u64.wrap ((bits .and .u64 (shrI .u64 (IntKind.u64.wrap ((bits .and .u64 (shrI .u64 x 1) 6148914691236517205) + (bits .and .u64 x 6148914691236517205))) 2) 3689348814741910323) + (bits .and .u64 (IntKind.u64.wrap ((bits .and .u64 (shrI .u64 x 1) 6148914691236517205) + (bits .and .u64 x 6148914691236517205))) 3689348814741910323))))) 1085102592571150095) + (shrI .u64 (bits .and .u64 (IntKind.u64.wrap ((shrI .u64 (IntKind.u64.wrap ((bits .and .u64 (shrI .u64 (IntKind.u64.wrap ((bits .and .u64 (shrI .u64 x 1) 6148914691236517205) + (bits .and .u64 x 6148914691236517205))) 2) 3689348814741910323) + (bits .and .u64 (IntKind.u64.wrap ((bits .and .u64 (shrI .u64 x 1) 6148914691236517205) + (bits .and .u64 x 6148914691236517205))) 3689348814741910323))) 4) + (IntKind.u64.wrap ((bits .and .u64 (shrI .u64 (IntKind.u64.wrap ((bits .and .u64 (shrI .u64 x 1) 6148914691236517205) + (bits .and .u64 x 6148914691236517205))) 2) 3689348814741910323) + (bits .and .u64 (IntKind.u64.wrap ((bits .and .u64 (shrI .u64 x 1) 6148914691236517205) + (bits .and .u64 x 6148914691236517205))) 3689348814741910323))))) 1085102592571150095) 8))) + (shrI .u64 (IntKind.u64.wrap ((bits .and .u64 (IntKind.u64.wrap ((shrI .u64 (IntKind.u64.wrap ((bits .and .u64 (shrI .u64 (IntKind.u64.wrap ((bits .and .u64 (shrI .u64 x 1) 6148914691236517205) + (bits .and .u64 x 6148914691236517205))) 2) 3689348814741910323) + (bits .and .u64 (IntKind.u64.wrap ((bits .and .u64 (shrI .u64 x 1) 6148914691236517205) + (bits .and .u64 x 6148914691236517205))) 3689348814741910323))) 4) + (IntKind.u64.wrap ((bits .and .u64 (shrI .u64 (IntKind.u64.wrap ((bits .and .u64 (shrI .u64 x 1) 6148914691236517205) + (bits .and .u64 x 6148914691236517205))) 2) 3689348814741910323) + (bits .and .u64 (IntKind.u64.wrap ((bits .and .u64 (shrI .u64 x 1) 6148914691236517205) + (bits .and .u64 x 6148914691236517205))) 3689348814741910323))))) 1085102592571150095) + (shrI .u64 (bits .and .u64 (IntKind.u64.wrap ((shrI .u64 (IntKind.u64.wrap ((bits .and .u64 (shrI .u64 (IntKind.u64.wrap ((bits .and .u64 (shrI .u64 x 1) 6148914691236517205) + (bits .and .u64 x 6148914691236517205))) 2) 3689348814741910323) + (bits .and .u64 (IntKind.u64.wrap ((bits .and .u64 (shrI .u64 x 1) 6148914691236517205) + (bits .and .u64 x 6148914691236517205))) 3689348814741910323))) 4) + (IntKind.u64.wrap ((bits .and .u64 (shrI .u64 (IntKind.u64.wrap ((bits .and .u64 (shrI .u64 x 1) 6148914691236517205) + (bits .and .u64 x 6148914691236517205))) 2) 3689348814741910323) + (bits .and .u64 (IntKind.u64.wrap ((bits .and .u64 (shrI .u64 x 1) 6148914691236517205) + (bits .and .u64 x 6148914691236517205))) 3689348814741910323))))) 1085102592571150095) 8))) 16))) 32)))) 127)
theorem t_bits_OnesCount64 {x : Int} {r : Int}
    (hs : s_bits_OnesCount64 x = r) :
    TriV Tryz.prog 96 [.int .u64 x] [] (.int .i64 r) [] := by
  unfold s_bits_OnesCount64 at hs
  refine TriL.of Tryz.func96 rfl Tryz.ntmps96 Tryz.results96 rfl (fun w0 F => ?_)
  refine WP.seq ?_
  refine WP.region ?_
  refine WO.val (PO.assign rfl) rfl ?_
  refine WO.nil ?_
  refine WP.seq ?_
  refine WP.region ?_
  refine WO.val (PO.move rfl) rfl ?_
  refine WO.val (PO.shr rfl rfl (by decide)) rfl ?_
  refine WO.val (PO.and rfl rfl) rfl ?_
  refine WO.val (PO.move rfl) rfl ?_
  refine WO.val (PO.and rfl rfl) rfl ?_
  refine WO.val (PO.add rfl rfl) rfl ?_
  refine WO.val (PO.assign rfl) rfl ?_
  refine WO.nil ?_
  refine WP.seq ?_
  refine WP.region ?_
  refine WO.val (PO.move rfl) rfl ?_
  refine WO.val (PO.shr rfl rfl (by decide)) rfl ?_
  refine WO.val (PO.and rfl rfl) rfl ?_
  refine WO.val (PO.move rfl) rfl ?_
  refine WO.val (PO.and rfl rfl) rfl ?_
  refine WO.val (PO.add rfl rfl) rfl ?_
  refine WO.val (PO.assign rfl) rfl ?_
  refine WO.nil ?_
  refine WP.seq ?_
  refine WP.region ?_
  refine WO.val (PO.move rfl) rfl ?_
  refine WO.val (PO.shr rfl rfl (by decide)) rfl ?_
  refine WO.val (PO.move rfl) rfl ?_
  refine WO.val (PO.add rfl rfl) rfl ?_
  refine WO.val (PO.and rfl rfl) rfl ?_
  refine WO.val (PO.assign rfl) rfl ?_
  refine WO.nil ?_
  refine WP.seq ?_
  refine WP.region ?_
  refine WO.val (PO.move rfl) rfl ?_
  refine WO.val (PO.move rfl) rfl ?_
  refine WO.val (PO.shr rfl rfl (by decide)) rfl ?_
  refine WO.val (PO.add rfl rfl) rfl ?_
  refine WO.val (PO.assign rfl) rfl ?_
  refine WO.nil ?_
  refine WP.seq ?_
  refine WP.region ?_
  refine WO.val (PO.move rfl) rfl ?_
  refine WO.val (PO.move rfl) rfl ?_
  refine WO.val (PO.shr rfl rfl (by decide)) rfl ?_
  refine WO.val (PO.add rfl rfl) rfl ?_
  refine WO.val (PO.assign rfl) rfl ?_
  refine WO.nil ?_
  refine WP.seq ?_
  refine WP.region ?_
  refine WO.val (PO.move rfl) rfl ?_
  refine WO.val (PO.move rfl) rfl ?_
  refine WO.val (PO.shr rfl rfl (by decide)) rfl ?_
  refine WO.val (PO.add rfl rfl) rfl ?_
  refine WO.val (PO.assign rfl) rfl ?_
  refine WO.nil ?_
  refine WP.seq ?_
  refine WP.region ?_
  refine WO.val (PO.move rfl) rfl ?_
  refine WO.val (PO.conv rfl Tryz.runUnderlying33 Tryz.runUnderlying3) rfl ?_
  refine WO.val (PO.and rfl rfl) rfl ?_
  refine WO.val (PO.assign rfl) rfl ?_
  refine WO.nil ?_
  refine WP.ret ?_
  cases hs
  exact ⟨_, _, _, Res.one (RV.tmp rfl), ⟨rfl, rfl⟩, fun _ s => s⟩
attribute [irreducible] s_bits_OnesCount64

/- math/bits.OnesCount -/
def s_OnesCount (x : Int) : Int :=
  lt (s_bits_OnesCount64 x) fun x1 =>
  x1
theorem t_OnesCount {x : Int} {r : Int}
    (hs : s_OnesCount x = r) :
    TriV Tryz.prog 78 [.int .u64 x] [] (.int .i64 r) [] := by
  unfold s_OnesCount at hs
  refine TriL.of Tryz.func78 rfl Tryz.ntmps78 Tryz.results78 rfl (fun w0 F => ?_)
  refine WP.seq ?_
  refine WP.region ?_
  refine WO.val (PO.assign rfl) rfl ?_
  refine WO.nil ?_
  refine WP.seq ?_
  refine WP.condF rfl ?_
  refine WP.skip ?_
  refine WP.seq ?_
  refine WP.region ?_
  refine WO.val (PO.move rfl) rfl ?_
  obtain ⟨x1, hx1, hs⟩ := lt_elim hs
  refine WO.vo (VO.call0 Tryz.call96 rfl (t_bits_OnesCount64 hx1)) rfl ?_
  refine WO.val (PO.assign rfl) rfl ?_
  refine WO.nil ?_
  refine WP.ret ?_
  cases hs
  exact ⟨_, _, _, Res.one (RV.tmp rfl), ⟨rfl, rfl⟩, fun _ s => s⟩
attribute [irreducible] s_OnesCount

/- cadence/term.parts -/
def s_parts (op : Int) : Int :=
  cond ((op == 1) || ((op == 2) || ((op == 3) || (op == 4))))
    (0)
    (cond ((op == 5) || ((op == 15) || ((op == 16) || ((op == 31) || ((op == 32) || (op == 33))))))
      (1)
      (cond (op == 14)
        (3)
        (2)))
theorem t_parts {op : Int} {r : Int}
    (hs : s_parts op = r) :
    TriV Tryz.prog 42 [.int .i64 op] [] (.int .i64 r) [] := by
  unfold s_parts at hs
  refine TriL.of Tryz.func42 rfl Tryz.ntmps42 Tryz.results42 rfl (fun w0 F => ?_)
  refine WP.seq ?_
  refine WP.region ?_
  refine WO.val (PO.assign rfl) rfl ?_
  refine WO.nil ?_
  refine WP.seq ?_
  refine WP.seq ?_
  refine WP.region ?_
  refine WO.val (PO.move rfl) rfl ?_
  refine WO.nil ?_
  refine WP.block ?_
  refine WP.seq ?_
  refine WP.seq ?_
  refine WP.region ?_
  refine WO.val (PO.eql rfl rfl) rfl ?_
  refine WO.val (PO.assign rfl) rfl ?_
  refine WO.nil ?_
  refine WP.merge [(3, .int .i64 op), (4, .bool ((op == 1) || ((op == 2) || ((op == 3) || (op == 4)))))] [F] (WP.cond rfl (fun h1 => ?_) (fun h1 => ?_)) ?_
  · refine WP.skip ?_
    exact ⟨⟨rfl, (by rw [h1] <;> rfl), trivial⟩, rfl⟩
  · refine WP.seq ?_
    refine WP.region ?_
    refine WO.val (PO.eql rfl rfl) rfl ?_
    refine WO.val (PO.assign rfl) rfl ?_
    refine WO.nil ?_
    refine WP.merge [(3, .int .i64 op), (4, .bool ((op == 2) || ((op == 3) || (op == 4))))] [F] (WP.cond rfl (fun h2 => ?_) (fun h2 => ?_)) ?_
    · refine WP.skip ?_
      exact ⟨⟨rfl, (by rw [h2] <;> rfl), trivial⟩, rfl⟩
    · refine WP.seq ?_
      refine WP.region ?_
      refine WO.val (PO.eql rfl rfl) rfl ?_
      refine WO.val (PO.assign rfl) rfl ?_
      refine WO.nil ?_
      refine WP.merge [(3, .int .i64 op), (4, .bool ((op == 3) || (op == 4)))] [F] (WP.cond rfl (fun h3 => ?_) (fun h3 => ?_)) ?_
      · refine WP.skip ?_
        exact ⟨⟨rfl, (by rw [h3] <;> rfl), trivial⟩, rfl⟩
      · refine WP.region ?_
        refine WO.val (PO.eql rfl rfl) rfl ?_
        refine WO.val (PO.assign rfl) rfl ?_
        refine WO.nil ?_
        exact ⟨⟨rfl, (by rw [h3] <;> rfl), trivial⟩, rfl⟩
      intro f_ hf_
      exact ⟨Holds.trans hf_ ⟨rfl, (by rw [h2] <;> rfl), trivial⟩, rfl⟩
    intro f_ hf_
    exact ⟨Holds.trans hf_ ⟨rfl, (by rw [h1] <;> rfl), trivial⟩, rfl⟩
  intro f_ hf_
  refine WP.keep [(3, .int .i64 op), (4, .bool ((op == 1) || ((op == 2) || ((op == 3) || (op == 4)))))] hf_ ?_
  refine WP.cond rfl (fun h4 => ?_) (fun h4 => ?_)
  · replace hs := cond_t h4 hs
    refine WP.seq ?_
    refine WP.region ?_
    refine WO.val (PO.assign rfl) rfl ?_
    refine WO.nil ?_
    refine WP.ret ?_
    cases hs
    exact ⟨_, _, _, Res.one (RV.tmp rfl), ⟨rfl, rfl⟩, fun _ s => s⟩
  · replace hs := cond_f h4 hs
    refine WP.seq ?_
    refine WP.seq ?_
    refine WP.region ?_
    refine WO.val (PO.eql rfl rfl) rfl ?_
    refine WO.val (PO.assign rfl) rfl ?_
    refine WO.nil ?_
    refine WP.merge [(3, .int .i64 op), (9, .bool ((op == 5) || ((op == 15) || ((op == 16) || ((op == 31) || ((op == 32) || (op == 33)))))))] [F] (WP.cond rfl (fun h5 => ?_) (fun h5 => ?_)) ?_
    · refine WP.skip ?_
      exact ⟨⟨rfl, (by rw [h5] <;> rfl), trivial⟩, rfl⟩
    · refine WP.seq ?_
      refine WP.region ?_
      refine WO.val (PO.eql rfl rfl) rfl ?_
      refine WO.val (PO.assign rfl) rfl ?_
      refine WO.nil ?_
      refine WP.merge [(3, .int .i64 op), (9, .bool ((op == 15) || ((op == 16) || ((op == 31) || ((op == 32) || (op == 33))))))] [F] (WP.cond rfl (fun h6 => ?_) (fun h6 => ?_)) ?_
      · refine WP.skip ?_
        exact ⟨⟨rfl, (by rw [h6] <;> rfl), trivial⟩, rfl⟩
      · refine WP.seq ?_
        refine WP.region ?_
        refine WO.val (PO.eql rfl rfl) rfl ?_
        refine WO.val (PO.assign rfl) rfl ?_
        refine WO.nil ?_
        refine WP.merge [(3, .int .i64 op), (9, .bool ((op == 16) || ((op == 31) || ((op == 32) || (op == 33)))))] [F] (WP.cond rfl (fun h7 => ?_) (fun h7 => ?_)) ?_
        · refine WP.skip ?_
          exact ⟨⟨rfl, (by rw [h7] <;> rfl), trivial⟩, rfl⟩
        · refine WP.seq ?_
          refine WP.region ?_
          refine WO.val (PO.eql rfl rfl) rfl ?_
          refine WO.val (PO.assign rfl) rfl ?_
          refine WO.nil ?_
          refine WP.merge [(3, .int .i64 op), (9, .bool ((op == 31) || ((op == 32) || (op == 33))))] [F] (WP.cond rfl (fun h8 => ?_) (fun h8 => ?_)) ?_
          · refine WP.skip ?_
            exact ⟨⟨rfl, (by rw [h8] <;> rfl), trivial⟩, rfl⟩
          · refine WP.seq ?_
            refine WP.region ?_
            refine WO.val (PO.eql rfl rfl) rfl ?_
            refine WO.val (PO.assign rfl) rfl ?_
            refine WO.nil ?_
            refine WP.merge [(3, .int .i64 op), (9, .bool ((op == 32) || (op == 33)))] [F] (WP.cond rfl (fun h9 => ?_) (fun h9 => ?_)) ?_
            · refine WP.skip ?_
              exact ⟨⟨rfl, (by rw [h9] <;> rfl), trivial⟩, rfl⟩
            · refine WP.region ?_
              refine WO.val (PO.eql rfl rfl) rfl ?_
              refine WO.val (PO.assign rfl) rfl ?_
              refine WO.nil ?_
              exact ⟨⟨rfl, (by rw [h9] <;> rfl), trivial⟩, rfl⟩
            intro f_ hf_
            exact ⟨Holds.trans hf_ ⟨rfl, (by rw [h8] <;> rfl), trivial⟩, rfl⟩
          intro f_ hf_
          exact ⟨Holds.trans hf_ ⟨rfl, (by rw [h7] <;> rfl), trivial⟩, rfl⟩
        intro f_ hf_
        exact ⟨Holds.trans hf_ ⟨rfl, (by rw [h6] <;> rfl), trivial⟩, rfl⟩
      intro f_ hf_
      exact ⟨Holds.trans hf_ ⟨rfl, (by rw [h5] <;> rfl), trivial⟩, rfl⟩
    intro f_ hf_
    refine WP.keep [(3, .int .i64 op), (9, .bool ((op == 5) || ((op == 15) || ((op == 16) || ((op == 31) || ((op == 32) || (op == 33)))))))] hf_ ?_
    refine WP.cond rfl (fun h10 => ?_) (fun h10 => ?_)
    · replace hs := cond_t h10 hs
      refine WP.seq ?_
      refine WP.region ?_
      refine WO.val (PO.assign rfl) rfl ?_
      refine WO.nil ?_
      refine WP.ret ?_
      cases hs
      exact ⟨_, _, _, Res.one (RV.tmp rfl), ⟨rfl, rfl⟩, fun _ s => s⟩
    · replace hs := cond_f h10 hs
      refine WP.seq ?_
      refine WP.region ?_
      refine WO.val (PO.eql rfl rfl) rfl ?_
      refine WO.val (PO.assign rfl) rfl ?_
      refine WO.nil ?_
      refine WP.cond rfl (fun h11 => ?_) (fun h11 => ?_)
      · replace hs := cond_t h11 hs
        refine WP.seq ?_
        refine WP.region ?_
        refine WO.val (PO.assign rfl) rfl ?_
        refine WO.nil ?_
        refine WP.ret ?_
        cases hs
        exact ⟨_, _, _, Res.one (RV.tmp rfl), ⟨rfl, rfl⟩, fun _ s => s⟩
      · replace hs := cond_f h11 hs
        refine WP.skip ?_
        refine WP.seq ?_
        refine WP.region ?_
        refine WO.val (PO.assign rfl) rfl ?_
        refine WO.nil ?_
        refine WP.ret ?_
        cases hs
        exact ⟨_, _, _, Res.one (RV.tmp rfl), ⟨rfl, rfl⟩, fun _ s => s⟩
attribute [irreducible] s_parts

/- cadence/bits.Right -/
def s_Right (w : Int) : Bool :=
  ((decide (1 ≤ w)) && (decide (w ≤ 64)))
theorem t_Right {w : Int} {r : Bool}
    (hs : s_Right w = r) :
    TriV Tryz.prog 79 [.int .i64 w] [] (.bool r) [] := by
  unfold s_Right at hs
  refine TriL.of Tryz.func79 rfl Tryz.ntmps79 Tryz.results79 rfl (fun w0 F => ?_)
  refine WP.seq ?_
  refine WP.region ?_
  refine WO.val (PO.assign rfl) rfl ?_
  refine WO.nil ?_
  refine WP.seq ?_
  refine WP.regionG (D := [some 3, some 4, some 5, some 6, some 7, some 8, some 2]) rfl ?_
  refine WO.val (PO.move rfl) rfl ?_
  refine WO.val (PO.geq rfl rfl) rfl ?_
  refine WO.val (PO.move rfl) rfl ?_
  refine WO.guardT rfl rfl (fun hg1 => (PO.move rfl).vo) rfl ?_
  refine WO.guardT rfl rfl (fun hg2 => (PO.leq (evg hg2 rfl) rfl).vo) rfl ?_
  refine WO.val (PO.pickA rfl rfl rfl) rfl ?_
  refine WO.val (PO.assign rfl) rfl ?_
  refine WO.nil ?_
  refine WP.ret ?_
  cases hs
  exact ⟨_, _, _, Res.one (RV.tmp rfl), ⟨rfl, rfl⟩, fun _ s => s⟩
attribute [irreducible] s_Right

/- cadence/bits.Trim -/
def s_Trim (w : Int) (x : Int) : Int :=
  cond (decide (w < 1))
    (0)
    (cond (decide (64 ≤ w))
      (x)
      ((bits .and .u64 x (IntKind.u64.wrap ((shlI .u64 1 (IntKind.u64.wrap w)) - 1)))))
theorem t_Trim {w : Int} {x : Int} {r : Int}
    (hs : s_Trim w x = r) :
    TriV Tryz.prog 58 [.int .i64 w, .int .u64 x] [] (.int .u64 r) [] := by
  unfold s_Trim at hs
  refine TriL.of Tryz.func58 rfl Tryz.ntmps58 Tryz.results58 rfl (fun w0 F => ?_)
  refine WP.seq ?_
  refine WP.region ?_
  refine WO.val (PO.assign rfl) rfl ?_
  refine WO.nil ?_
  refine WP.seq ?_
  refine WP.block ?_
  refine WP.seq ?_
  refine WP.region ?_
  refine WO.val (PO.move rfl) rfl ?_
  refine WO.val (PO.lss rfl rfl) rfl ?_
  refine WO.val (PO.assign rfl) rfl ?_
  refine WO.nil ?_
  refine WP.cond rfl (fun h1 => ?_) (fun h1 => ?_)
  · replace hs := cond_t h1 hs
    refine WP.seq ?_
    refine WP.region ?_
    refine WO.val (PO.assign rfl) rfl ?_
    refine WO.nil ?_
    refine WP.ret ?_
    cases hs
    exact ⟨_, _, _, Res.one (RV.tmp rfl), ⟨rfl, rfl⟩, fun _ s => s⟩
  · replace hs := cond_f h1 hs
    refine WP.seq ?_
    refine WP.region ?_
    refine WO.val (PO.move rfl) rfl ?_
    refine WO.val (PO.geq rfl rfl) rfl ?_
    refine WO.val (PO.assign rfl) rfl ?_
    refine WO.nil ?_
    refine WP.cond rfl (fun h2 => ?_) (fun h2 => ?_)
    · replace hs := cond_t h2 hs
      refine WP.seq ?_
      refine WP.region ?_
      refine WO.val (PO.move rfl) rfl ?_
      refine WO.val (PO.assign rfl) rfl ?_
      refine WO.nil ?_
      refine WP.ret ?_
      cases hs
      exact ⟨_, _, _, Res.one (RV.tmp rfl), ⟨rfl, rfl⟩, fun _ s => s⟩
    · replace hs := cond_f h2 hs
      refine WP.skip ?_
      refine WP.seq ?_
      refine WP.region ?_
      refine WO.val (PO.move rfl) rfl ?_
      refine WO.val (PO.move rfl) rfl ?_
      refine WO.val (PO.conv rfl Tryz.runUnderlying3 Tryz.runUnderlying81) rfl ?_
      refine WO.val (PO.shl rfl rfl (wrap_nn_u64 _)) rfl ?_
      refine WO.val (PO.sub rfl rfl) rfl ?_
      refine WO.val (PO.and rfl rfl) rfl ?_
      refine WO.val (PO.assign rfl) rfl ?_
      refine WO.nil ?_
      refine WP.ret ?_
      cases hs
      exact ⟨_, _, _, Res.one (RV.tmp rfl), ⟨rfl, rfl⟩, fun _ s => s⟩
attribute [irreducible] s_Trim

/- cadence/bits.shifts -/
def s_shifts (op : Int) : Bool :=
  ((decide (25 ≤ op)) && (decide (op ≤ 29)))
theorem t_shifts {op : Int} {r : Bool}
    (hs : s_shifts op = r) :
    TriV Tryz.prog 81 [.int .i64 op] [] (.bool r) [] := by
  unfold s_shifts at hs
  refine TriL.of Tryz.func81 rfl Tryz.ntmps81 Tryz.results81 rfl (fun w0 F => ?_)
  refine WP.seq ?_
  refine WP.region ?_
  refine WO.val (PO.assign rfl) rfl ?_
  refine WO.nil ?_
  refine WP.seq ?_
  refine WP.regionG (D := [some 3, some 4, some 5, some 6, some 7, some 8, some 2]) rfl ?_
  refine WO.val (PO.move rfl) rfl ?_
  refine WO.val (PO.geq rfl rfl) rfl ?_
  refine WO.val (PO.move rfl) rfl ?_
  refine WO.guardT rfl rfl (fun hg1 => (PO.move rfl).vo) rfl ?_
  refine WO.guardT rfl rfl (fun hg2 => (PO.leq (evg hg2 rfl) rfl).vo) rfl ?_
  refine WO.val (PO.pickA rfl rfl rfl) rfl ?_
  refine WO.val (PO.assign rfl) rfl ?_
  refine WO.nil ?_
  refine WP.ret ?_
  cases hs
  exact ⟨_, _, _, Res.one (RV.tmp rfl), ⟨rfl, rfl⟩, fun _ s => s⟩
attribute [irreducible] s_shifts

/- cadence/bits.Signed -/
def s_Signed (w : Int) (x : Int) : Int :=
  lt (s_Right w) fun x1 =>
  cond (!x1)
    (0)
    ((shrI .i64 (IntKind.i64.wrap (shlI .u64 x (IntKind.u64.wrap (IntKind.i64.wrap (64 - w))))) (IntKind.u64.wrap (IntKind.i64.wrap (64 - w)))))
theorem t_Signed {w : Int} {x : Int} {r : Int}
    (hs : s_Signed w x = r) :
    TriV Tryz.prog 80 [.int .i64 w, .int .u64 x] [] (.int .i64 r) [] := by
  unfold s_Signed at hs
  refine TriL.of Tryz.func80 rfl Tryz.ntmps80 Tryz.results80 rfl (fun w0 F => ?_)
  refine WP.seq ?_
  refine WP.region ?_
  refine WO.val (PO.assign rfl) rfl ?_
  refine WO.nil ?_
  refine WP.seq ?_
  refine WP.seq ?_
  refine WP.region ?_
  refine WO.val (PO.move rfl) rfl ?_
  obtain ⟨x1, hx1, hs⟩ := lt_elim hs
  refine WO.vo (VO.call0 Tryz.call79 rfl (t_Right hx1)) rfl ?_
  refine WO.val (PO.not rfl) rfl ?_
  refine WO.nil ?_
  refine WP.cond rfl (fun h2 => ?_) (fun h2 => ?_)
  · replace hs := cond_t h2 hs
    refine WP.seq ?_
    refine WP.region ?_
    refine WO.val (PO.assign rfl) rfl ?_
    refine WO.nil ?_
    refine WP.ret ?_
    cases hs
    exact ⟨_, _, _, Res.one (RV.tmp rfl), ⟨rfl, rfl⟩, fun _ s => s⟩
  · replace hs := cond_f h2 hs
    refine WP.skip ?_
    refine WP.seq ?_
    refine WP.region ?_
    refine WO.val (PO.move rfl) rfl ?_
    refine WO.val (PO.sub rfl rfl) rfl ?_
    refine WO.val (PO.conv rfl Tryz.runUnderlying3 Tryz.runUnderlying81) rfl ?_
    refine WO.val (PO.assign rfl) rfl ?_
    refine WO.nil ?_
    refine WP.seq ?_
    refine WP.region ?_
    refine WO.val (PO.move rfl) rfl ?_
    refine WO.val (PO.move rfl) rfl ?_
    refine WO.val (PO.shl rfl rfl (wrap_nn_u64 _)) rfl ?_
    refine WO.val (PO.conv rfl Tryz.runUnderlying33 Tryz.runUnderlying2) rfl ?_
    refine WO.val (PO.move rfl) rfl ?_
    refine WO.val (PO.shr rfl rfl (wrap_nn_u64 _)) rfl ?_
    refine WO.val (PO.assign rfl) rfl ?_
    refine WO.nil ?_
    refine WP.ret ?_
    cases hs
    exact ⟨_, _, _, Res.one (RV.tmp rfl), ⟨rfl, rfl⟩, fun _ s => s⟩
attribute [irreducible] s_Signed

/- cadence/bits.Un -/
def s_Un (op : Int) (w : Int) (x : Int) : Int × Int :=
  cond ((op != 15) && (op != 16))
    ((0, 73))
    (lt (s_Right w) fun x4 =>
    cond (!x4)
      ((0, 5))
      (cond (op == 15)
        (lt (s_Trim w (comI .u64 x)) fun x7 =>
        (x7, 0))
        (lt (s_Trim w (IntKind.u64.wrap (0 - x))) fun x8 =>
        (x8, 0))))
theorem t_Un {op : Int} {w : Int} {x : Int} {r : Int × Int}
    (hs : s_Un op w x = r) :
    TriV Tryz.prog 61 [.int .i64 op, .int .i64 w, .int .u64 x] [] (.tuple #[.int .u64 r.1, .int .i64 r.2]) [] := by
  unfold s_Un at hs
  refine TriL.of Tryz.func61 rfl Tryz.ntmps61 Tryz.results61 rfl (fun w0 F => ?_)
  refine WP.seq ?_
  refine WP.region ?_
  refine WO.val (PO.assign rfl) rfl ?_
  refine WO.val (PO.assign rfl) rfl ?_
  refine WO.nil ?_
  refine WP.seq ?_
  refine WP.seq ?_
  refine WP.regionG (D := [some 8, some 9, some 10, some 11, some 12, some 13]) rfl ?_
  refine WO.val (PO.move rfl) rfl ?_
  refine WO.val (PO.neq rfl rfl) rfl ?_
  refine WO.val (PO.move rfl) rfl ?_
  refine WO.guardT rfl rfl (fun hg1 => (PO.move rfl).vo) rfl ?_
  refine WO.guardT rfl rfl (fun hg2 => (PO.neq (evg hg2 rfl) rfl).vo) rfl ?_
  refine WO.val (PO.pickA rfl rfl rfl) rfl ?_
  refine WO.nil ?_
  refine WP.cond rfl (fun h3 => ?_) (fun h3 => ?_)
  · replace hs := cond_t h3 hs
    refine WP.seq ?_
    refine WP.region ?_
    refine WO.val (PO.assign rfl) rfl ?_
    refine WO.val (PO.assign rfl) rfl ?_
    refine WO.nil ?_
    refine WP.ret ?_
    cases hs
    exact ⟨_, _, _, Res.two (RV.tmp rfl) (RV.tmp rfl), ⟨rfl, rfl⟩, fun _ s => s⟩
  · replace hs := cond_f h3 hs
    refine WP.skip ?_
    refine WP.seq ?_
    refine WP.seq ?_
    refine WP.region ?_
    refine WO.val (PO.move rfl) rfl ?_
    obtain ⟨x4, hx4, hs⟩ := lt_elim hs
    refine WO.vo (VO.call0 Tryz.call79 rfl (t_Right hx4)) rfl ?_
    refine WO.val (PO.not rfl) rfl ?_
    refine WO.nil ?_
    refine WP.cond rfl (fun h5 => ?_) (fun h5 => ?_)
    · replace hs := cond_t h5 hs
      refine WP.seq ?_
      refine WP.region ?_
      refine WO.val (PO.assign rfl) rfl ?_
      refine WO.val (PO.assign rfl) rfl ?_
      refine WO.nil ?_
      refine WP.ret ?_
      cases hs
      exact ⟨_, _, _, Res.two (RV.tmp rfl) (RV.tmp rfl), ⟨rfl, rfl⟩, fun _ s => s⟩
    · replace hs := cond_f h5 hs
      refine WP.skip ?_
      refine WP.seq ?_
      refine WP.seq ?_
      refine WP.region ?_
      refine WO.val (PO.move rfl) rfl ?_
      refine WO.val (PO.eql rfl rfl) rfl ?_
      refine WO.nil ?_
      refine WP.cond rfl (fun h6 => ?_) (fun h6 => ?_)
      · replace hs := cond_t h6 hs
        refine WP.seq ?_
        refine WP.region ?_
        refine WO.val (PO.move rfl) rfl ?_
        refine WO.val (PO.move rfl) rfl ?_
        refine WO.val (PO.com rfl) rfl ?_
        obtain ⟨x7, hx7, hs⟩ := lt_elim hs
        refine WO.vo (VO.call0 Tryz.call58 rfl (t_Trim hx7)) rfl ?_
        refine WO.val (PO.assign rfl) rfl ?_
        refine WO.val (PO.assign rfl) rfl ?_
        refine WO.nil ?_
        refine WP.ret ?_
        cases hs
        exact ⟨_, _, _, Res.two (RV.tmp rfl) (RV.tmp rfl), ⟨rfl, rfl⟩, fun _ s => s⟩
      · replace hs := cond_f h6 hs
        refine WP.skip ?_
        refine WP.seq ?_
        refine WP.region ?_
        refine WO.val (PO.move rfl) rfl ?_
        refine WO.val (PO.move rfl) rfl ?_
        refine WO.val (PO.neg rfl) rfl ?_
        obtain ⟨x8, hx8, hs⟩ := lt_elim hs
        refine WO.vo (VO.call0 Tryz.call58 rfl (t_Trim hx8)) rfl ?_
        refine WO.val (PO.assign rfl) rfl ?_
        refine WO.val (PO.assign rfl) rfl ?_
        refine WO.nil ?_
        refine WP.ret ?_
        cases hs
        exact ⟨_, _, _, Res.two (RV.tmp rfl) (RV.tmp rfl), ⟨rfl, rfl⟩, fun _ s => s⟩
attribute [irreducible] s_Un

/- cadence/bits.moved -/
def s_moved (op : Int) (w : Int) (x : Int) (n : Int) : Option (Int) :=
  cond (op == 25)
    (lt (s_Trim w (shlI .u64 x (IntKind.u64.wrap n))) fun x2 =>
    some x2)
    (cond (op == 26)
      (some (shrI .u64 x (IntKind.u64.wrap n)))
      (cond (op == 27)
        (lt (s_Signed w x) fun x5 =>
        lt (s_Trim w (IntKind.u64.wrap (shrI .i64 x5 (IntKind.u64.wrap n)))) fun x6 =>
        some x6)
        (cond (op == 29)
          (if w ≠ 0 then (lt (s_Trim w (bits .or .u64 (shlI .u64 x (IntKind.u64.wrap ((IntKind.i64.wrap (w - n)).tmod w))) (shrI .u64 x (IntKind.u64.wrap (IntKind.i64.wrap (w - ((IntKind.i64.wrap (w - n)).tmod w))))))) fun x10 =>
          some x10) else none)
          (lt (s_Trim w (bits .or .u64 (shlI .u64 x (IntKind.u64.wrap n)) (shrI .u64 x (IntKind.u64.wrap (IntKind.i64.wrap (w - n)))))) fun x11 =>
          some x11))))
theorem t_moved {op : Int} {w : Int} {x : Int} {n : Int} {r : Int}
    (hs : s_moved op w x n = some r) :
    TriV Tryz.prog 82 [.int .i64 op, .int .i64 w, .int .u64 x, .int .i64 n] [] (.int .u64 r) [] := by
  unfold s_moved at hs
  refine TriL.of Tryz.func82 rfl Tryz.ntmps82 Tryz.results82 rfl (fun w0 F => ?_)
  refine WP.seq ?_
  refine WP.region ?_
  refine WO.val (PO.assign rfl) rfl ?_
  refine WO.nil ?_
  refine WP.seq ?_
  refine WP.seq ?_
  refine WP.region ?_
  refine WO.val (PO.move rfl) rfl ?_
  refine WO.nil ?_
  refine WP.block ?_
  refine WP.seq ?_
  refine WP.region ?_
  refine WO.val (PO.eql rfl rfl) rfl ?_
  refine WO.val (PO.assign rfl) rfl ?_
  refine WO.nil ?_
  refine WP.cond rfl (fun h1 => ?_) (fun h1 => ?_)
  · replace hs := cond_t h1 hs
    refine WP.seq ?_
    refine WP.region ?_
    refine WO.val (PO.move rfl) rfl ?_
    refine WO.val (PO.move rfl) rfl ?_
    refine WO.val (PO.move rfl) rfl ?_
    refine WO.val (PO.conv rfl Tryz.runUnderlying3 Tryz.runUnderlying81) rfl ?_
    refine WO.val (PO.shl rfl rfl (wrap_nn_u64 _)) rfl ?_
    obtain ⟨x2, hx2, hs⟩ := lt_elim hs
    refine WO.vo (VO.call0 Tryz.call58 rfl (t_Trim hx2)) rfl ?_
    refine WO.val (PO.assign rfl) rfl ?_
    refine WO.nil ?_
    refine WP.ret ?_
    obtain rfl := Option.some.inj hs
    exact ⟨_, _, _, Res.one (RV.tmp rfl), ⟨rfl, rfl⟩, fun _ s => s⟩
  · replace hs := cond_f h1 hs
    refine WP.seq ?_
    refine WP.region ?_
    refine WO.val (PO.eql rfl rfl) rfl ?_
    refine WO.val (PO.assign rfl) rfl ?_
    refine WO.nil ?_
    refine WP.cond rfl (fun h3 => ?_) (fun h3 => ?_)
    · replace hs := cond_t h3 hs
      refine WP.seq ?_
      refine WP.region ?_
      refine WO.val (PO.move rfl) rfl ?_
      refine WO.val (PO.move rfl) rfl ?_
      refine WO.val (PO.conv rfl Tryz.runUnderlying3 Tryz.runUnderlying81) rfl ?_
      refine WO.val (PO.shr rfl rfl (wrap_nn_u64 _)) rfl ?_
      refine WO.val (PO.assign rfl) rfl ?_
      refine WO.nil ?_
      refine WP.ret ?_
      obtain rfl := Option.some.inj hs
      exact ⟨_, _, _, Res.one (RV.tmp rfl), ⟨rfl, rfl⟩, fun _ s => s⟩
    · replace hs := cond_f h3 hs
      refine WP.seq ?_
      refine WP.region ?_
      refine WO.val (PO.eql rfl rfl) rfl ?_
      refine WO.val (PO.assign rfl) rfl ?_
      refine WO.nil ?_
      refine WP.cond rfl (fun h4 => ?_) (fun h4 => ?_)
      · replace hs := cond_t h4 hs
        refine WP.seq ?_
        refine WP.region ?_
        refine WO.val (PO.move rfl) rfl ?_
        refine WO.val (PO.move rfl) rfl ?_
        refine WO.val (PO.move rfl) rfl ?_
        obtain ⟨x5, hx5, hs⟩ := lt_elim hs
        refine WO.vo (VO.call0 Tryz.call80 rfl (t_Signed hx5)) rfl ?_
        refine WO.val (PO.move rfl) rfl ?_
        refine WO.val (PO.conv rfl Tryz.runUnderlying3 Tryz.runUnderlying81) rfl ?_
        refine WO.val (PO.shr rfl rfl (wrap_nn_u64 _)) rfl ?_
        refine WO.val (PO.conv rfl Tryz.runUnderlying2 Tryz.runUnderlying33) rfl ?_
        obtain ⟨x6, hx6, hs⟩ := lt_elim hs
        refine WO.vo (VO.call0 Tryz.call58 rfl (t_Trim hx6)) rfl ?_
        refine WO.val (PO.assign rfl) rfl ?_
        refine WO.nil ?_
        refine WP.ret ?_
        obtain rfl := Option.some.inj hs
        exact ⟨_, _, _, Res.one (RV.tmp rfl), ⟨rfl, rfl⟩, fun _ s => s⟩
      · replace hs := cond_f h4 hs
        refine WP.seq ?_
        refine WP.region ?_
        refine WO.val (PO.eql rfl rfl) rfl ?_
        refine WO.val (PO.assign rfl) rfl ?_
        refine WO.nil ?_
        refine WP.cond rfl (fun h7 => ?_) (fun h7 => ?_)
        · replace hs := cond_t h7 hs
          refine WP.region ?_
          refine WO.val (PO.move rfl) rfl ?_
          refine WO.val (PO.move rfl) rfl ?_
          refine WO.val (PO.sub rfl rfl) rfl ?_
          refine WO.val (PO.move rfl) rfl ?_
          obtain ⟨hc9, hs⟩ := check_elim hs
          refine WO.val (PO.rem rfl rfl hc9) rfl ?_
          refine WO.val (PO.assign rfl) rfl ?_
          refine WO.nil ?_
          refine WP.seq ?_
          refine WP.region ?_
          refine WO.val (PO.move rfl) rfl ?_
          refine WO.val (PO.move rfl) rfl ?_
          refine WO.val (PO.move rfl) rfl ?_
          refine WO.val (PO.conv rfl Tryz.runUnderlying3 Tryz.runUnderlying81) rfl ?_
          refine WO.val (PO.shl rfl rfl (wrap_nn_u64 _)) rfl ?_
          refine WO.val (PO.move rfl) rfl ?_
          refine WO.val (PO.move rfl) rfl ?_
          refine WO.val (PO.move rfl) rfl ?_
          refine WO.val (PO.sub rfl rfl) rfl ?_
          refine WO.val (PO.conv rfl Tryz.runUnderlying3 Tryz.runUnderlying81) rfl ?_
          refine WO.val (PO.shr rfl rfl (wrap_nn_u64 _)) rfl ?_
          refine WO.val (PO.or rfl rfl) rfl ?_
          obtain ⟨x10, hx10, hs⟩ := lt_elim hs
          refine WO.vo (VO.call0 Tryz.call58 rfl (t_Trim hx10)) rfl ?_
          refine WO.val (PO.assign rfl) rfl ?_
          refine WO.nil ?_
          refine WP.ret ?_
          obtain rfl := Option.some.inj hs
          exact ⟨_, _, _, Res.one (RV.tmp rfl), ⟨rfl, rfl⟩, fun _ s => s⟩
        · replace hs := cond_f h7 hs
          refine WP.skip ?_
          refine WP.seq ?_
          refine WP.region ?_
          refine WO.val (PO.move rfl) rfl ?_
          refine WO.val (PO.move rfl) rfl ?_
          refine WO.val (PO.move rfl) rfl ?_
          refine WO.val (PO.conv rfl Tryz.runUnderlying3 Tryz.runUnderlying81) rfl ?_
          refine WO.val (PO.shl rfl rfl (wrap_nn_u64 _)) rfl ?_
          refine WO.val (PO.move rfl) rfl ?_
          refine WO.val (PO.move rfl) rfl ?_
          refine WO.val (PO.move rfl) rfl ?_
          refine WO.val (PO.sub rfl rfl) rfl ?_
          refine WO.val (PO.conv rfl Tryz.runUnderlying3 Tryz.runUnderlying81) rfl ?_
          refine WO.val (PO.shr rfl rfl (wrap_nn_u64 _)) rfl ?_
          refine WO.val (PO.or rfl rfl) rfl ?_
          obtain ⟨x11, hx11, hs⟩ := lt_elim hs
          refine WO.vo (VO.call0 Tryz.call58 rfl (t_Trim hx11)) rfl ?_
          refine WO.val (PO.assign rfl) rfl ?_
          refine WO.nil ?_
          refine WP.ret ?_
          obtain rfl := Option.some.inj hs
          exact ⟨_, _, _, Res.one (RV.tmp rfl), ⟨rfl, rfl⟩, fun _ s => s⟩
attribute [irreducible] s_moved

/- cadence/bits.Bin -/
def s_Bin (String : Int) (op : Int) (w : Int) (x : Int) : Option (Int × Int) :=
  cond ((decide (String < 17)) || (decide (29 < String)))
    (some (0, 73))
    (lt (s_Right op) fun x4 =>
    lt (s_shifts String) fun x7 =>
    lt (s_OnesCount (IntKind.u64.wrap op)) fun x12 =>
    cond ((!x4) || (x7 && (x12 != 1)))
      (some (0, 5))
      (lt (s_Trim op w) fun x16 =>
      lt (s_Trim op x) fun x17 =>
      lt (s_shifts String) fun x18 =>
      cond x18
        (if (IntKind.u64.wrap op) ≠ 0 then ((s_moved String op x16 (IntKind.i64.wrap (x17.tmod (IntKind.u64.wrap op)))).bind fun x21 =>
        some (x21, 0)) else none)
        (cond (String == 17)
          (lt (s_Trim op (bits .and .u64 x16 x17)) fun x502 =>
          some (x502, 0))
          (cond (String == 18)
            (lt (s_Trim op (bits .or .u64 x16 x17)) fun x743 =>
            some (x743, 0))
            (cond (String == 19)
              (lt (s_Trim op (bits .xor .u64 x16 x17)) fun x864 =>
              some (x864, 0))
              (cond (String == 20)
                (lt (s_Trim op (IntKind.u64.wrap (x16 + x17))) fun x925 =>
                some (x925, 0))
                (cond (String == 21)
                  (lt (s_Trim op (IntKind.u64.wrap (x16 - x17))) fun x956 =>
                  some (x956, 0))
                  (cond (String == 22)
                    (lt (s_Trim op (IntKind.u64.wrap (x16 * x17))) fun x972 =>
                    some (x972, 0))
                    (cond (String == 23)
                      (cond (x17 != 0)
                        (if x17 ≠ 0 then (lt (s_Trim op (IntKind.u64.wrap (x16.tdiv x17))) fun x980 =>
                        some (x980, 0)) else none)
                        (lt (s_Trim op 18446744073709551615) fun x981 =>
                        some (x981, 0)))
                      (cond (String == 24)
                        (cond (x17 != 0)
                          (if x17 ≠ 0 then (lt (s_Trim op (x16.tmod x17)) fun x989 =>
                          some (x989, 0)) else none)
                          (lt (s_Trim op x16) fun x990 =>
                          some (x990, 0)))
                        (lt (s_Trim op 0) fun x991 =>
                        some (x991, 0))))))))))))
theorem t_Bin {String : Int} {op : Int} {w : Int} {x : Int} {r : Int × Int}
    (hs : s_Bin String op w x = some r) :
    TriV Tryz.prog 62 [.int .i64 String, .int .i64 op, .int .u64 w, .int .u64 x] [] (.tuple #[.int .u64 r.1, .int .i64 r.2]) [] := by
  unfold s_Bin at hs
  refine TriL.of Tryz.func62 rfl Tryz.ntmps62 Tryz.results62 rfl (fun w0 F => ?_)
  refine WP.seq ?_
  refine WP.region ?_
  refine WO.val (PO.assign rfl) rfl ?_
  refine WO.val (PO.assign rfl) rfl ?_
  refine WO.nil ?_
  refine WP.seq ?_
  refine WP.seq ?_
  refine WP.regionG (D := [some 11, some 12, some 13, some 14, some 15, some 16]) rfl ?_
  refine WO.val (PO.move rfl) rfl ?_
  refine WO.val (PO.lss rfl rfl) rfl ?_
  refine WO.val (PO.move rfl) rfl ?_
  refine WO.guardF rfl rfl (fun hg1 => (PO.move rfl).vo) rfl ?_
  refine WO.guardF rfl rfl (fun hg2 => (PO.gtr (evg hg2 rfl) rfl).vo) rfl ?_
  refine WO.val (PO.pickO rfl rfl rfl) rfl ?_
  refine WO.nil ?_
  refine WP.cond rfl (fun h3 => ?_) (fun h3 => ?_)
  · replace hs := cond_t h3 hs
    refine WP.seq ?_
    refine WP.region ?_
    refine WO.val (PO.assign rfl) rfl ?_
    refine WO.val (PO.assign rfl) rfl ?_
    refine WO.nil ?_
    refine WP.ret ?_
    obtain rfl := Option.some.inj hs
    exact ⟨_, _, _, Res.two (RV.tmp rfl) (RV.tmp rfl), ⟨rfl, rfl⟩, fun _ s => s⟩
  · replace hs := cond_f h3 hs
    refine WP.skip ?_
    refine WP.seq ?_
    refine WP.seq ?_
    refine WP.regionG (D := [some 17, some 18, some 19, some 20, some 21, some 22, some 23, some 24, some 25, some 26, some 27, some 28, some 29]) rfl ?_
    refine WO.val (PO.move rfl) rfl ?_
    obtain ⟨x4, hx4, hs⟩ := lt_elim hs
    refine WO.vo (VO.call0 Tryz.call79 rfl (t_Right hx4)) rfl ?_
    refine WO.val (PO.not rfl) rfl ?_
    refine WO.val (PO.move rfl) rfl ?_
    refine WO.guardF rfl rfl (fun hg5 => (PO.move rfl).vo) rfl ?_
    obtain ⟨x7, hx7, hs⟩ := lt_elim hs
    refine WO.guardF rfl rfl (fun hg6 => VO.call0 Tryz.call81 (evs_cons (evg hg6 rfl) evs_nil) (t_shifts hx7)) rfl ?_
    refine WO.guardF rfl rfl (fun hg8 => (PO.move (evg hg8 rfl)).vo) rfl ?_
    refine WO.guardGT rfl rfl (fun hg9 => (PO.move rfl).vo) rfl ?_
    refine WO.guardGT rfl rfl (fun hg10 => (PO.conv (evg hg10 rfl) Tryz.runUnderlying3 Tryz.runUnderlying81).vo) rfl ?_
    obtain ⟨x12, hx12, hs⟩ := lt_elim hs
    refine WO.guardGT rfl rfl (fun hg11 => VO.call0 Tryz.call78 (evs_cons (evg hg11 rfl) evs_nil) (t_OnesCount hx12)) rfl ?_
    refine WO.guardGT rfl rfl (fun hg13 => (PO.neq (evg hg13 rfl) rfl).vo) rfl ?_
    refine WO.guardF rfl rfl (fun hg14 => (PO.pickAG hg14 (evg hg14 rfl) rfl rfl).vo) rfl ?_
    refine WO.val (PO.pickO rfl rfl rfl) rfl ?_
    refine WO.nil ?_
    refine WP.cond rfl (fun h15 => ?_) (fun h15 => ?_)
    · replace hs := cond_t h15 hs
      refine WP.seq ?_
      refine WP.region ?_
      refine WO.val (PO.assign rfl) rfl ?_
      refine WO.val (PO.assign rfl) rfl ?_
      refine WO.nil ?_
      refine WP.ret ?_
      obtain rfl := Option.some.inj hs
      exact ⟨_, _, _, Res.two (RV.tmp rfl) (RV.tmp rfl), ⟨rfl, rfl⟩, fun _ s => s⟩
    · replace hs := cond_f h15 hs
      refine WP.skip ?_
      refine WP.seq ?_
      refine WP.region ?_
      refine WO.val (PO.move rfl) rfl ?_
      refine WO.val (PO.move rfl) rfl ?_
      obtain ⟨x16, hx16, hs⟩ := lt_elim hs
      refine WO.vo (VO.call0 Tryz.call58 rfl (t_Trim hx16)) rfl ?_
      refine WO.val (PO.move rfl) rfl ?_
      refine WO.val (PO.move rfl) rfl ?_
      obtain ⟨x17, hx17, hs⟩ := lt_elim hs
      refine WO.vo (VO.call0 Tryz.call58 rfl (t_Trim hx17)) rfl ?_
      refine WO.val (PO.assign rfl) rfl ?_
      refine WO.val (PO.assign rfl) rfl ?_
      refine WO.nil ?_
      refine WP.seq ?_
      refine WP.seq ?_
      refine WP.region ?_
      refine WO.val (PO.move rfl) rfl ?_
      obtain ⟨x18, hx18, hs⟩ := lt_elim hs
      refine WO.vo (VO.call0 Tryz.call81 rfl (t_shifts hx18)) rfl ?_
      refine WO.nil ?_
      refine WP.cond rfl (fun h19 => ?_) (fun h19 => ?_)
      · replace hs := cond_t h19 hs
        refine WP.seq ?_
        refine WP.region ?_
        refine WO.val (PO.move rfl) rfl ?_
        refine WO.val (PO.move rfl) rfl ?_
        refine WO.val (PO.move rfl) rfl ?_
        refine WO.val (PO.move rfl) rfl ?_
        refine WO.val (PO.move rfl) rfl ?_
        refine WO.val (PO.conv rfl Tryz.runUnderlying3 Tryz.runUnderlying33) rfl ?_
        obtain ⟨hc20, hs⟩ := check_elim hs
        refine WO.val (PO.rem rfl rfl hc20) rfl ?_
        refine WO.val (PO.conv rfl Tryz.runUnderlying33 Tryz.runUnderlying3) rfl ?_
        obtain ⟨x21, hx21, hs⟩ := bind_elim hs
        refine WO.vo (VO.call0 Tryz.call82 rfl (t_moved hx21)) rfl ?_
        refine WO.val (PO.assign rfl) rfl ?_
        refine WO.val (PO.assign rfl) rfl ?_
        refine WO.nil ?_
        refine WP.ret ?_
        obtain rfl := Option.some.inj hs
        exact ⟨_, _, _, Res.two (RV.tmp rfl) (RV.tmp rfl), ⟨rfl, rfl⟩, fun _ s => s⟩
      · replace hs := cond_f h19 hs
        refine WP.skip ?_
        refine WP.seq ?_
        refine WP.region ?_
        refine WO.val (PO.assign rfl) rfl ?_
        refine WO.nil ?_
        refine WP.seq ?_
        refine WP.seq ?_
        refine WP.region ?_
        refine WO.val (PO.move rfl) rfl ?_
        refine WO.nil ?_
        refine WP.block ?_
        refine WP.seq ?_
        refine WP.region ?_
        refine WO.val (PO.eql rfl rfl) rfl ?_
        refine WO.val (PO.assign rfl) rfl ?_
        refine WO.nil ?_
        refine WP.cond rfl (fun h22 => ?_) (fun h22 => ?_)
        · replace hs := cond_t h22 hs
          refine WP.region ?_
          refine WO.val (PO.move rfl) rfl ?_
          refine WO.val (PO.move rfl) rfl ?_
          refine WO.val (PO.and rfl rfl) rfl ?_
          refine WO.val (PO.assign rfl) rfl ?_
          refine WO.nil ?_
          refine WP.seq ?_
          refine WP.region ?_
          refine WO.val (PO.move rfl) rfl ?_
          refine WO.val (PO.move rfl) rfl ?_
          obtain ⟨x502, hx502, hs⟩ := lt_elim hs
          refine WO.vo (VO.call0 Tryz.call58 rfl (t_Trim hx502)) rfl ?_
          refine WO.val (PO.assign rfl) rfl ?_
          refine WO.val (PO.assign rfl) rfl ?_
          refine WO.nil ?_
          refine WP.ret ?_
          obtain rfl := Option.some.inj hs
          exact ⟨_, _, _, Res.two (RV.tmp rfl) (RV.tmp rfl), ⟨rfl, rfl⟩, fun _ s => s⟩
        · replace hs := cond_f h22 hs
          refine WP.seq ?_
          refine WP.region ?_
          refine WO.val (PO.eql rfl rfl) rfl ?_
          refine WO.val (PO.assign rfl) rfl ?_
          refine WO.nil ?_
          refine WP.cond rfl (fun h503 => ?_) (fun h503 => ?_)
          · replace hs := cond_t h503 hs
            refine WP.region ?_
            refine WO.val (PO.move rfl) rfl ?_
            refine WO.val (PO.move rfl) rfl ?_
            refine WO.val (PO.or rfl rfl) rfl ?_
            refine WO.val (PO.assign rfl) rfl ?_
            refine WO.nil ?_
            refine WP.seq ?_
            refine WP.region ?_
            refine WO.val (PO.move rfl) rfl ?_
            refine WO.val (PO.move rfl) rfl ?_
            obtain ⟨x743, hx743, hs⟩ := lt_elim hs
            refine WO.vo (VO.call0 Tryz.call58 rfl (t_Trim hx743)) rfl ?_
            refine WO.val (PO.assign rfl) rfl ?_
            refine WO.val (PO.assign rfl) rfl ?_
            refine WO.nil ?_
            refine WP.ret ?_
            obtain rfl := Option.some.inj hs
            exact ⟨_, _, _, Res.two (RV.tmp rfl) (RV.tmp rfl), ⟨rfl, rfl⟩, fun _ s => s⟩
          · replace hs := cond_f h503 hs
            refine WP.seq ?_
            refine WP.region ?_
            refine WO.val (PO.eql rfl rfl) rfl ?_
            refine WO.val (PO.assign rfl) rfl ?_
            refine WO.nil ?_
            refine WP.cond rfl (fun h744 => ?_) (fun h744 => ?_)
            · replace hs := cond_t h744 hs
              refine WP.region ?_
              refine WO.val (PO.move rfl) rfl ?_
              refine WO.val (PO.move rfl) rfl ?_
              refine WO.val (PO.xor rfl rfl) rfl ?_
              refine WO.val (PO.assign rfl) rfl ?_
              refine WO.nil ?_
              refine WP.seq ?_
              refine WP.region ?_
              refine WO.val (PO.move rfl) rfl ?_
              refine WO.val (PO.move rfl) rfl ?_
              obtain ⟨x864, hx864, hs⟩ := lt_elim hs
              refine WO.vo (VO.call0 Tryz.call58 rfl (t_Trim hx864)) rfl ?_
              refine WO.val (PO.assign rfl) rfl ?_
              refine WO.val (PO.assign rfl) rfl ?_
              refine WO.nil ?_
              refine WP.ret ?_
              obtain rfl := Option.some.inj hs
              exact ⟨_, _, _, Res.two (RV.tmp rfl) (RV.tmp rfl), ⟨rfl, rfl⟩, fun _ s => s⟩
            · replace hs := cond_f h744 hs
              refine WP.seq ?_
              refine WP.region ?_
              refine WO.val (PO.eql rfl rfl) rfl ?_
              refine WO.val (PO.assign rfl) rfl ?_
              refine WO.nil ?_
              refine WP.cond rfl (fun h865 => ?_) (fun h865 => ?_)
              · replace hs := cond_t h865 hs
                refine WP.region ?_
                refine WO.val (PO.move rfl) rfl ?_
                refine WO.val (PO.move rfl) rfl ?_
                refine WO.val (PO.add rfl rfl) rfl ?_
                refine WO.val (PO.assign rfl) rfl ?_
                refine WO.nil ?_
                refine WP.seq ?_
                refine WP.region ?_
                refine WO.val (PO.move rfl) rfl ?_
                refine WO.val (PO.move rfl) rfl ?_
                obtain ⟨x925, hx925, hs⟩ := lt_elim hs
                refine WO.vo (VO.call0 Tryz.call58 rfl (t_Trim hx925)) rfl ?_
                refine WO.val (PO.assign rfl) rfl ?_
                refine WO.val (PO.assign rfl) rfl ?_
                refine WO.nil ?_
                refine WP.ret ?_
                obtain rfl := Option.some.inj hs
                exact ⟨_, _, _, Res.two (RV.tmp rfl) (RV.tmp rfl), ⟨rfl, rfl⟩, fun _ s => s⟩
              · replace hs := cond_f h865 hs
                refine WP.seq ?_
                refine WP.region ?_
                refine WO.val (PO.eql rfl rfl) rfl ?_
                refine WO.val (PO.assign rfl) rfl ?_
                refine WO.nil ?_
                refine WP.cond rfl (fun h926 => ?_) (fun h926 => ?_)
                · replace hs := cond_t h926 hs
                  refine WP.region ?_
                  refine WO.val (PO.move rfl) rfl ?_
                  refine WO.val (PO.move rfl) rfl ?_
                  refine WO.val (PO.sub rfl rfl) rfl ?_
                  refine WO.val (PO.assign rfl) rfl ?_
                  refine WO.nil ?_
                  refine WP.seq ?_
                  refine WP.region ?_
                  refine WO.val (PO.move rfl) rfl ?_
                  refine WO.val (PO.move rfl) rfl ?_
                  obtain ⟨x956, hx956, hs⟩ := lt_elim hs
                  refine WO.vo (VO.call0 Tryz.call58 rfl (t_Trim hx956)) rfl ?_
                  refine WO.val (PO.assign rfl) rfl ?_
                  refine WO.val (PO.assign rfl) rfl ?_
                  refine WO.nil ?_
                  refine WP.ret ?_
                  obtain rfl := Option.some.inj hs
                  exact ⟨_, _, _, Res.two (RV.tmp rfl) (RV.tmp rfl), ⟨rfl, rfl⟩, fun _ s => s⟩
                · replace hs := cond_f h926 hs
                  refine WP.seq ?_
                  refine WP.region ?_
                  refine WO.val (PO.eql rfl rfl) rfl ?_
                  refine WO.val (PO.assign rfl) rfl ?_
                  refine WO.nil ?_
                  refine WP.cond rfl (fun h957 => ?_) (fun h957 => ?_)
                  · replace hs := cond_t h957 hs
                    refine WP.region ?_
                    refine WO.val (PO.move rfl) rfl ?_
                    refine WO.val (PO.move rfl) rfl ?_
                    refine WO.val (PO.mul rfl rfl) rfl ?_
                    refine WO.val (PO.assign rfl) rfl ?_
                    refine WO.nil ?_
                    refine WP.seq ?_
                    refine WP.region ?_
                    refine WO.val (PO.move rfl) rfl ?_
                    refine WO.val (PO.move rfl) rfl ?_
                    obtain ⟨x972, hx972, hs⟩ := lt_elim hs
                    refine WO.vo (VO.call0 Tryz.call58 rfl (t_Trim hx972)) rfl ?_
                    refine WO.val (PO.assign rfl) rfl ?_
                    refine WO.val (PO.assign rfl) rfl ?_
                    refine WO.nil ?_
                    refine WP.ret ?_
                    obtain rfl := Option.some.inj hs
                    exact ⟨_, _, _, Res.two (RV.tmp rfl) (RV.tmp rfl), ⟨rfl, rfl⟩, fun _ s => s⟩
                  · replace hs := cond_f h957 hs
                    refine WP.seq ?_
                    refine WP.region ?_
                    refine WO.val (PO.eql rfl rfl) rfl ?_
                    refine WO.val (PO.assign rfl) rfl ?_
                    refine WO.nil ?_
                    refine WP.cond rfl (fun h973 => ?_) (fun h973 => ?_)
                    · replace hs := cond_t h973 hs
                      refine WP.seq ?_
                      refine WP.region ?_
                      refine WO.val (PO.assign rfl) rfl ?_
                      refine WO.nil ?_
                      refine WP.seq ?_
                      refine WP.region ?_
                      refine WO.val (PO.move rfl) rfl ?_
                      refine WO.val (PO.neq rfl rfl) rfl ?_
                      refine WO.nil ?_
                      refine WP.cond rfl (fun h977 => ?_) (fun h977 => ?_)
                      · replace hs := cond_t h977 hs
                        refine WP.region ?_
                        refine WO.val (PO.move rfl) rfl ?_
                        refine WO.val (PO.move rfl) rfl ?_
                        obtain ⟨hc979, hs⟩ := check_elim hs
                        refine WO.val (PO.quo rfl rfl hc979) rfl ?_
                        refine WO.val (PO.assign rfl) rfl ?_
                        refine WO.nil ?_
                        refine WP.seq ?_
                        refine WP.region ?_
                        refine WO.val (PO.move rfl) rfl ?_
                        refine WO.val (PO.move rfl) rfl ?_
                        obtain ⟨x980, hx980, hs⟩ := lt_elim hs
                        refine WO.vo (VO.call0 Tryz.call58 rfl (t_Trim hx980)) rfl ?_
                        refine WO.val (PO.assign rfl) rfl ?_
                        refine WO.val (PO.assign rfl) rfl ?_
                        refine WO.nil ?_
                        refine WP.ret ?_
                        obtain rfl := Option.some.inj hs
                        exact ⟨_, _, _, Res.two (RV.tmp rfl) (RV.tmp rfl), ⟨rfl, rfl⟩, fun _ s => s⟩
                      · replace hs := cond_f h977 hs
                        refine WP.skip ?_
                        refine WP.seq ?_
                        refine WP.region ?_
                        refine WO.val (PO.move rfl) rfl ?_
                        refine WO.val (PO.move rfl) rfl ?_
                        obtain ⟨x981, hx981, hs⟩ := lt_elim hs
                        refine WO.vo (VO.call0 Tryz.call58 rfl (t_Trim hx981)) rfl ?_
                        refine WO.val (PO.assign rfl) rfl ?_
                        refine WO.val (PO.assign rfl) rfl ?_
                        refine WO.nil ?_
                        refine WP.ret ?_
                        obtain rfl := Option.some.inj hs
                        exact ⟨_, _, _, Res.two (RV.tmp rfl) (RV.tmp rfl), ⟨rfl, rfl⟩, fun _ s => s⟩
                    · replace hs := cond_f h973 hs
                      refine WP.seq ?_
                      refine WP.region ?_
                      refine WO.val (PO.eql rfl rfl) rfl ?_
                      refine WO.val (PO.assign rfl) rfl ?_
                      refine WO.nil ?_
                      refine WP.cond rfl (fun h982 => ?_) (fun h982 => ?_)
                      · replace hs := cond_t h982 hs
                        refine WP.seq ?_
                        refine WP.region ?_
                        refine WO.val (PO.move rfl) rfl ?_
                        refine WO.val (PO.assign rfl) rfl ?_
                        refine WO.nil ?_
                        refine WP.seq ?_
                        refine WP.region ?_
                        refine WO.val (PO.move rfl) rfl ?_
                        refine WO.val (PO.neq rfl rfl) rfl ?_
                        refine WO.nil ?_
                        refine WP.cond rfl (fun h986 => ?_) (fun h986 => ?_)
                        · replace hs := cond_t h986 hs
                          refine WP.region ?_
                          refine WO.val (PO.move rfl) rfl ?_
                          refine WO.val (PO.move rfl) rfl ?_
                          obtain ⟨hc988, hs⟩ := check_elim hs
                          refine WO.val (PO.rem rfl rfl hc988) rfl ?_
                          refine WO.val (PO.assign rfl) rfl ?_
                          refine WO.nil ?_
                          refine WP.seq ?_
                          refine WP.region ?_
                          refine WO.val (PO.move rfl) rfl ?_
                          refine WO.val (PO.move rfl) rfl ?_
                          obtain ⟨x989, hx989, hs⟩ := lt_elim hs
                          refine WO.vo (VO.call0 Tryz.call58 rfl (t_Trim hx989)) rfl ?_
                          refine WO.val (PO.assign rfl) rfl ?_
                          refine WO.val (PO.assign rfl) rfl ?_
                          refine WO.nil ?_
                          refine WP.ret ?_
                          obtain rfl := Option.some.inj hs
                          exact ⟨_, _, _, Res.two (RV.tmp rfl) (RV.tmp rfl), ⟨rfl, rfl⟩, fun _ s => s⟩
                        · replace hs := cond_f h986 hs
                          refine WP.skip ?_
                          refine WP.seq ?_
                          refine WP.region ?_
                          refine WO.val (PO.move rfl) rfl ?_
                          refine WO.val (PO.move rfl) rfl ?_
                          obtain ⟨x990, hx990, hs⟩ := lt_elim hs
                          refine WO.vo (VO.call0 Tryz.call58 rfl (t_Trim hx990)) rfl ?_
                          refine WO.val (PO.assign rfl) rfl ?_
                          refine WO.val (PO.assign rfl) rfl ?_
                          refine WO.nil ?_
                          refine WP.ret ?_
                          obtain rfl := Option.some.inj hs
                          exact ⟨_, _, _, Res.two (RV.tmp rfl) (RV.tmp rfl), ⟨rfl, rfl⟩, fun _ s => s⟩
                      · replace hs := cond_f h982 hs
                        refine WP.skip ?_
                        refine WP.seq ?_
                        refine WP.region ?_
                        refine WO.val (PO.move rfl) rfl ?_
                        refine WO.val (PO.move rfl) rfl ?_
                        obtain ⟨x991, hx991, hs⟩ := lt_elim hs
                        refine WO.vo (VO.call0 Tryz.call58 rfl (t_Trim hx991)) rfl ?_
                        refine WO.val (PO.assign rfl) rfl ?_
                        refine WO.val (PO.assign rfl) rfl ?_
                        refine WO.nil ?_
                        refine WP.ret ?_
                        obtain rfl := Option.some.inj hs
                        exact ⟨_, _, _, Res.two (RV.tmp rfl) (RV.tmp rfl), ⟨rfl, rfl⟩, fun _ s => s⟩
attribute [irreducible] s_Bin

/- cadence/bits.Cmp -/
def s_Cmp (op : Int) (w : Int) (x : Int) (y : Int) : Option (Bool × Int) :=
  cond ((decide (op < 9)) || (decide (13 < op)))
    (some (false, 73))
    (lt (s_Right w) fun x4 =>
    cond (!x4)
      (some (false, 5))
      (lt (s_Trim w x) fun x6 =>
      lt (s_Trim w y) fun x7 =>
      lt (s_Signed w x6) fun x8 =>
      lt (s_Signed w x7) fun x9 =>
      cond (op == 9)
        (some ((x6 == x7), 0))
        (cond (op == 10)
          (some ((decide (x6 < x7)), 0))
          (cond (op == 11)
            (some ((decide (x6 ≤ x7)), 0))
            (cond (op == 12)
              (some ((decide (x8 < x9)), 0))
              (some ((decide (x8 ≤ x9)), 0)))))))
theorem t_Cmp {op : Int} {w : Int} {x : Int} {y : Int} {r : Bool × Int}
    (hs : s_Cmp op w x y = some r) :
    TriV Tryz.prog 60 [.int .i64 op, .int .i64 w, .int .u64 x, .int .u64 y] [] (.tuple #[.bool r.1, .int .i64 r.2]) [] := by
  unfold s_Cmp at hs
  refine TriL.of Tryz.func60 rfl Tryz.ntmps60 Tryz.results60 rfl (fun w0 F => ?_)
  refine WP.seq ?_
  refine WP.region ?_
  refine WO.val (PO.assign rfl) rfl ?_
  refine WO.val (PO.assign rfl) rfl ?_
  refine WO.nil ?_
  refine WP.seq ?_
  refine WP.seq ?_
  refine WP.regionG (D := [some 12, some 13, some 14, some 15, some 16, some 17]) rfl ?_
  refine WO.val (PO.move rfl) rfl ?_
  refine WO.val (PO.lss rfl rfl) rfl ?_
  refine WO.val (PO.move rfl) rfl ?_
  refine WO.guardF rfl rfl (fun hg1 => (PO.move rfl).vo) rfl ?_
  refine WO.guardF rfl rfl (fun hg2 => (PO.gtr (evg hg2 rfl) rfl).vo) rfl ?_
  refine WO.val (PO.pickO rfl rfl rfl) rfl ?_
  refine WO.nil ?_
  refine WP.cond rfl (fun h3 => ?_) (fun h3 => ?_)
  · replace hs := cond_t h3 hs
    refine WP.seq ?_
    refine WP.region ?_
    refine WO.val (PO.assign rfl) rfl ?_
    refine WO.val (PO.assign rfl) rfl ?_
    refine WO.nil ?_
    refine WP.ret ?_
    obtain rfl := Option.some.inj hs
    exact ⟨_, _, _, Res.two (RV.tmp rfl) (RV.tmp rfl), ⟨rfl, rfl⟩, fun _ s => s⟩
  · replace hs := cond_f h3 hs
    refine WP.skip ?_
    refine WP.seq ?_
    refine WP.seq ?_
    refine WP.region ?_
    refine WO.val (PO.move rfl) rfl ?_
    obtain ⟨x4, hx4, hs⟩ := lt_elim hs
    refine WO.vo (VO.call0 Tryz.call79 rfl (t_Right hx4)) rfl ?_
    refine WO.val (PO.not rfl) rfl ?_
    refine WO.nil ?_
    refine WP.cond rfl (fun h5 => ?_) (fun h5 => ?_)
    · replace hs := cond_t h5 hs
      refine WP.seq ?_
      refine WP.region ?_
      refine WO.val (PO.assign rfl) rfl ?_
      refine WO.val (PO.assign rfl) rfl ?_
      refine WO.nil ?_
      refine WP.ret ?_
      obtain rfl := Option.some.inj hs
      exact ⟨_, _, _, Res.two (RV.tmp rfl) (RV.tmp rfl), ⟨rfl, rfl⟩, fun _ s => s⟩
    · replace hs := cond_f h5 hs
      refine WP.skip ?_
      refine WP.seq ?_
      refine WP.region ?_
      refine WO.val (PO.move rfl) rfl ?_
      refine WO.val (PO.move rfl) rfl ?_
      obtain ⟨x6, hx6, hs⟩ := lt_elim hs
      refine WO.vo (VO.call0 Tryz.call58 rfl (t_Trim hx6)) rfl ?_
      refine WO.val (PO.move rfl) rfl ?_
      refine WO.val (PO.move rfl) rfl ?_
      obtain ⟨x7, hx7, hs⟩ := lt_elim hs
      refine WO.vo (VO.call0 Tryz.call58 rfl (t_Trim hx7)) rfl ?_
      refine WO.val (PO.assign rfl) rfl ?_
      refine WO.val (PO.assign rfl) rfl ?_
      refine WO.nil ?_
      refine WP.seq ?_
      refine WP.region ?_
      refine WO.val (PO.move rfl) rfl ?_
      refine WO.val (PO.move rfl) rfl ?_
      obtain ⟨x8, hx8, hs⟩ := lt_elim hs
      refine WO.vo (VO.call0 Tryz.call80 rfl (t_Signed hx8)) rfl ?_
      refine WO.val (PO.move rfl) rfl ?_
      refine WO.val (PO.move rfl) rfl ?_
      obtain ⟨x9, hx9, hs⟩ := lt_elim hs
      refine WO.vo (VO.call0 Tryz.call80 rfl (t_Signed hx9)) rfl ?_
      refine WO.val (PO.assign rfl) rfl ?_
      refine WO.val (PO.assign rfl) rfl ?_
      refine WO.nil ?_
      refine WP.seq ?_
      refine WP.seq ?_
      refine WP.region ?_
      refine WO.val (PO.move rfl) rfl ?_
      refine WO.nil ?_
      refine WP.block ?_
      refine WP.seq ?_
      refine WP.region ?_
      refine WO.val (PO.eql rfl rfl) rfl ?_
      refine WO.val (PO.assign rfl) rfl ?_
      refine WO.nil ?_
      refine WP.cond rfl (fun h10 => ?_) (fun h10 => ?_)
      · replace hs := cond_t h10 hs
        refine WP.seq ?_
        refine WP.region ?_
        refine WO.val (PO.move rfl) rfl ?_
        refine WO.val (PO.move rfl) rfl ?_
        refine WO.val (PO.eql rfl rfl) rfl ?_
        refine WO.val (PO.assign rfl) rfl ?_
        refine WO.val (PO.assign rfl) rfl ?_
        refine WO.nil ?_
        refine WP.ret ?_
        obtain rfl := Option.some.inj hs
        exact ⟨_, _, _, Res.two (RV.tmp rfl) (RV.tmp rfl), ⟨rfl, rfl⟩, fun _ s => s⟩
      · replace hs := cond_f h10 hs
        refine WP.seq ?_
        refine WP.region ?_
        refine WO.val (PO.eql rfl rfl) rfl ?_
        refine WO.val (PO.assign rfl) rfl ?_
        refine WO.nil ?_
        refine WP.cond rfl (fun h11 => ?_) (fun h11 => ?_)
        · replace hs := cond_t h11 hs
          refine WP.seq ?_
          refine WP.region ?_
          refine WO.val (PO.move rfl) rfl ?_
          refine WO.val (PO.move rfl) rfl ?_
          refine WO.val (PO.lss rfl rfl) rfl ?_
          refine WO.val (PO.assign rfl) rfl ?_
          refine WO.val (PO.assign rfl) rfl ?_
          refine WO.nil ?_
          refine WP.ret ?_
          obtain rfl := Option.some.inj hs
          exact ⟨_, _, _, Res.two (RV.tmp rfl) (RV.tmp rfl), ⟨rfl, rfl⟩, fun _ s => s⟩
        · replace hs := cond_f h11 hs
          refine WP.seq ?_
          refine WP.region ?_
          refine WO.val (PO.eql rfl rfl) rfl ?_
          refine WO.val (PO.assign rfl) rfl ?_
          refine WO.nil ?_
          refine WP.cond rfl (fun h12 => ?_) (fun h12 => ?_)
          · replace hs := cond_t h12 hs
            refine WP.seq ?_
            refine WP.region ?_
            refine WO.val (PO.move rfl) rfl ?_
            refine WO.val (PO.move rfl) rfl ?_
            refine WO.val (PO.leq rfl rfl) rfl ?_
            refine WO.val (PO.assign rfl) rfl ?_
            refine WO.val (PO.assign rfl) rfl ?_
            refine WO.nil ?_
            refine WP.ret ?_
            obtain rfl := Option.some.inj hs
            exact ⟨_, _, _, Res.two (RV.tmp rfl) (RV.tmp rfl), ⟨rfl, rfl⟩, fun _ s => s⟩
          · replace hs := cond_f h12 hs
            refine WP.seq ?_
            refine WP.region ?_
            refine WO.val (PO.eql rfl rfl) rfl ?_
            refine WO.val (PO.assign rfl) rfl ?_
            refine WO.nil ?_
            refine WP.cond rfl (fun h13 => ?_) (fun h13 => ?_)
            · replace hs := cond_t h13 hs
              refine WP.seq ?_
              refine WP.region ?_
              refine WO.val (PO.move rfl) rfl ?_
              refine WO.val (PO.move rfl) rfl ?_
              refine WO.val (PO.lss rfl rfl) rfl ?_
              refine WO.val (PO.assign rfl) rfl ?_
              refine WO.val (PO.assign rfl) rfl ?_
              refine WO.nil ?_
              refine WP.ret ?_
              obtain rfl := Option.some.inj hs
              exact ⟨_, _, _, Res.two (RV.tmp rfl) (RV.tmp rfl), ⟨rfl, rfl⟩, fun _ s => s⟩
            · replace hs := cond_f h13 hs
              refine WP.skip ?_
              refine WP.seq ?_
              refine WP.region ?_
              refine WO.val (PO.move rfl) rfl ?_
              refine WO.val (PO.move rfl) rfl ?_
              refine WO.val (PO.leq rfl rfl) rfl ?_
              refine WO.val (PO.assign rfl) rfl ?_
              refine WO.val (PO.assign rfl) rfl ?_
              refine WO.nil ?_
              refine WP.ret ?_
              obtain rfl := Option.some.inj hs
              exact ⟨_, _, _, Res.two (RV.tmp rfl) (RV.tmp rfl), ⟨rfl, rfl⟩, fun _ s => s⟩
attribute [irreducible] s_Cmp

/- cadence/bits.Cat -/
def s_Cat (w : Int) (x : Int) (v : Int) (y : Int) : Option (Int × Int) :=
  lt (s_Right w) fun x1 =>
  lt (s_Right v) fun x4 =>
  cond (((!x1) || (!x4)) || (decide (64 < (IntKind.i64.wrap (w + v)))))
    (some (0, 5))
    (lt (s_Trim w x) fun x11 =>
    lt (s_Trim v y) fun x12 =>
    some ((bits .or .u64 (shlI .u64 x11 (IntKind.u64.wrap v)) x12), 0))
theorem t_Cat {w : Int} {x : Int} {v : Int} {y : Int} {r : Int × Int}
    (hs : s_Cat w x v y = some r) :
    TriV Tryz.prog 63 [.int .i64 w, .int .u64 x, .int .i64 v, .int .u64 y] [] (.tuple #[.int .u64 r.1, .int .i64 r.2]) [] := by
  unfold s_Cat at hs
  refine TriL.of Tryz.func63 rfl Tryz.ntmps63 Tryz.results63 rfl (fun w0 F => ?_)
  refine WP.seq ?_
  refine WP.region ?_
  refine WO.val (PO.assign rfl) rfl ?_
  refine WO.val (PO.assign rfl) rfl ?_
  refine WO.nil ?_
  refine WP.seq ?_
  refine WP.seq ?_
  refine WP.regionG (D := [some 10, some 11, some 12, some 13, some 14, some 15, some 16, some 17, some 18, some 19, some 20, some 21, some 22, some 23]) rfl ?_
  refine WO.val (PO.move rfl) rfl ?_
  obtain ⟨x1, hx1, hs⟩ := lt_elim hs
  refine WO.vo (VO.call0 Tryz.call79 rfl (t_Right hx1)) rfl ?_
  refine WO.val (PO.not rfl) rfl ?_
  refine WO.val (PO.move rfl) rfl ?_
  refine WO.guardF rfl rfl (fun hg2 => (PO.move rfl).vo) rfl ?_
  obtain ⟨x4, hx4, hs⟩ := lt_elim hs
  refine WO.guardF rfl rfl (fun hg3 => VO.call0 Tryz.call79 (evs_cons (evg hg3 rfl) evs_nil) (t_Right hx4)) rfl ?_
  refine WO.guardF rfl rfl (fun hg5 => (PO.not (evg hg5 rfl)).vo) rfl ?_
  refine WO.val (PO.pickO rfl rfl rfl) rfl ?_
  refine WO.val (PO.move rfl) rfl ?_
  refine WO.guardF rfl rfl (fun hg6 => (PO.move rfl).vo) rfl ?_
  refine WO.guardF rfl rfl (fun hg7 => (PO.move rfl).vo) rfl ?_
  refine WO.guardF rfl rfl (fun hg8 => (PO.add (evg hg8 rfl) (evg hg8 rfl)).vo) rfl ?_
  refine WO.guardF rfl rfl (fun hg9 => (PO.gtr (evg hg9 rfl) rfl).vo) rfl ?_
  refine WO.val (PO.pickO rfl rfl rfl) rfl ?_
  refine WO.nil ?_
  refine WP.cond rfl (fun h10 => ?_) (fun h10 => ?_)
  · replace hs := cond_t h10 hs
    refine WP.seq ?_
    refine WP.region ?_
    refine WO.val (PO.assign rfl) rfl ?_
    refine WO.val (PO.assign rfl) rfl ?_
    refine WO.nil ?_
    refine WP.ret ?_
    obtain rfl := Option.some.inj hs
    exact ⟨_, _, _, Res.two (RV.tmp rfl) (RV.tmp rfl), ⟨rfl, rfl⟩, fun _ s => s⟩
  · replace hs := cond_f h10 hs
    refine WP.skip ?_
    refine WP.seq ?_
    refine WP.region ?_
    refine WO.val (PO.move rfl) rfl ?_
    refine WO.val (PO.move rfl) rfl ?_
    obtain ⟨x11, hx11, hs⟩ := lt_elim hs
    refine WO.vo (VO.call0 Tryz.call58 rfl (t_Trim hx11)) rfl ?_
    refine WO.val (PO.move rfl) rfl ?_
    refine WO.val (PO.conv rfl Tryz.runUnderlying3 Tryz.runUnderlying81) rfl ?_
    refine WO.val (PO.shl rfl rfl (wrap_nn_u64 _)) rfl ?_
    refine WO.val (PO.move rfl) rfl ?_
    refine WO.val (PO.move rfl) rfl ?_
    obtain ⟨x12, hx12, hs⟩ := lt_elim hs
    refine WO.vo (VO.call0 Tryz.call58 rfl (t_Trim hx12)) rfl ?_
    refine WO.val (PO.or rfl rfl) rfl ?_
    refine WO.val (PO.assign rfl) rfl ?_
    refine WO.val (PO.assign rfl) rfl ?_
    refine WO.nil ?_
    refine WP.ret ?_
    obtain rfl := Option.some.inj hs
    exact ⟨_, _, _, Res.two (RV.tmp rfl) (RV.tmp rfl), ⟨rfl, rfl⟩, fun _ s => s⟩
attribute [irreducible] s_Cat

/- cadence/bits.Slice -/
def s_Slice (w : Int) (x : Int) (frm : Int) (n : Int) : Option (Int × Int) :=
  lt (s_Right w) fun x1 =>
  cond (((((!x1) || (decide (n < 1))) || (decide (frm < 0))) || (decide (w < frm))) || (decide ((IntKind.i64.wrap (w - frm)) < n)))
    (some (0, 5))
    (lt (s_Trim w x) fun x15 =>
    lt (s_Trim n (shrI .u64 x15 (IntKind.u64.wrap frm))) fun x16 =>
    some (x16, 0))
theorem t_Slice {w : Int} {x : Int} {frm : Int} {n : Int} {r : Int × Int}
    (hs : s_Slice w x frm n = some r) :
    TriV Tryz.prog 64 [.int .i64 w, .int .u64 x, .int .i64 frm, .int .i64 n] [] (.tuple #[.int .u64 r.1, .int .i64 r.2]) [] := by
  unfold s_Slice at hs
  refine TriL.of Tryz.func64 rfl Tryz.ntmps64 Tryz.results64 rfl (fun w0 F => ?_)
  refine WP.seq ?_
  refine WP.region ?_
  refine WO.val (PO.assign rfl) rfl ?_
  refine WO.val (PO.assign rfl) rfl ?_
  refine WO.nil ?_
  refine WP.seq ?_
  refine WP.seq ?_
  refine WP.regionG (D := [some 10, some 11, some 12, some 13, some 14, some 15, some 16, some 17, some 18, some 19, some 20, some 21, some 22, some 23, some 24, some 25, some 26, some 27, some 28, some 29, some 30, some 31, some 32]) rfl ?_
  refine WO.val (PO.move rfl) rfl ?_
  obtain ⟨x1, hx1, hs⟩ := lt_elim hs
  refine WO.vo (VO.call0 Tryz.call79 rfl (t_Right hx1)) rfl ?_
  refine WO.val (PO.not rfl) rfl ?_
  refine WO.val (PO.move rfl) rfl ?_
  refine WO.guardF rfl rfl (fun hg2 => (PO.move rfl).vo) rfl ?_
  refine WO.guardF rfl rfl (fun hg3 => (PO.lss (evg hg3 rfl) rfl).vo) rfl ?_
  refine WO.val (PO.pickO rfl rfl rfl) rfl ?_
  refine WO.val (PO.move rfl) rfl ?_
  refine WO.guardF rfl rfl (fun hg4 => (PO.move rfl).vo) rfl ?_
  refine WO.guardF rfl rfl (fun hg5 => (PO.lss (evg hg5 rfl) rfl).vo) rfl ?_
  refine WO.val (PO.pickO rfl rfl rfl) rfl ?_
  refine WO.val (PO.move rfl) rfl ?_
  refine WO.guardF rfl rfl (fun hg6 => (PO.move rfl).vo) rfl ?_
  refine WO.guardF rfl rfl (fun hg7 => (PO.move rfl).vo) rfl ?_
  refine WO.guardF rfl rfl (fun hg8 => (PO.gtr (evg hg8 rfl) (evg hg8 rfl)).vo) rfl ?_
  refine WO.val (PO.pickO rfl rfl rfl) rfl ?_
  refine WO.val (PO.move rfl) rfl ?_
  refine WO.guardF rfl rfl (fun hg9 => (PO.move rfl).vo) rfl ?_
  refine WO.guardF rfl rfl (fun hg10 => (PO.move rfl).vo) rfl ?_
  refine WO.guardF rfl rfl (fun hg11 => (PO.move rfl).vo) rfl ?_
  refine WO.guardF rfl rfl (fun hg12 => (PO.sub (evg hg12 rfl) (evg hg12 rfl)).vo) rfl ?_
  refine WO.guardF rfl rfl (fun hg13 => (PO.gtr (evg hg13 rfl) (evg hg13 rfl)).vo) rfl ?_
  refine WO.val (PO.pickO rfl rfl rfl) rfl ?_
  refine WO.nil ?_
  refine WP.cond rfl (fun h14 => ?_) (fun h14 => ?_)
  · replace hs := cond_t h14 hs
    refine WP.seq ?_
    refine WP.region ?_
    refine WO.val (PO.assign rfl) rfl ?_
    refine WO.val (PO.assign rfl) rfl ?_
    refine WO.nil ?_
    refine WP.ret ?_
    obtain rfl := Option.some.inj hs
    exact ⟨_, _, _, Res.two (RV.tmp rfl) (RV.tmp rfl), ⟨rfl, rfl⟩, fun _ s => s⟩
  · replace hs := cond_f h14 hs
    refine WP.skip ?_
    refine WP.seq ?_
    refine WP.region ?_
    refine WO.val (PO.move rfl) rfl ?_
    refine WO.val (PO.move rfl) rfl ?_
    refine WO.val (PO.move rfl) rfl ?_
    obtain ⟨x15, hx15, hs⟩ := lt_elim hs
    refine WO.vo (VO.call0 Tryz.call58 rfl (t_Trim hx15)) rfl ?_
    refine WO.val (PO.move rfl) rfl ?_
    refine WO.val (PO.conv rfl Tryz.runUnderlying3 Tryz.runUnderlying81) rfl ?_
    refine WO.val (PO.shr rfl rfl (wrap_nn_u64 _)) rfl ?_
    obtain ⟨x16, hx16, hs⟩ := lt_elim hs
    refine WO.vo (VO.call0 Tryz.call58 rfl (t_Trim hx16)) rfl ?_
    refine WO.val (PO.assign rfl) rfl ?_
    refine WO.val (PO.assign rfl) rfl ?_
    refine WO.nil ?_
    refine WP.ret ?_
    obtain rfl := Option.some.inj hs
    exact ⟨_, _, _, Res.two (RV.tmp rfl) (RV.tmp rfl), ⟨rfl, rfl⟩, fun _ s => s⟩
attribute [irreducible] s_Slice

/- cadence/bits.Ext -/
def s_Ext (op : Int) (w : Int) (x : Int) (to_ : Int) : Option (Int × Int) :=
  cond ((op != 32) && (op != 33))
    (some (0, 73))
    (lt (s_Right w) fun x4 =>
    lt (s_Right to_) fun x7 =>
    cond (((!x4) || (!x7)) || (decide (to_ < w)))
      (some (0, 5))
      (cond (op == 32)
        (lt (s_Trim w x) fun x14 =>
        some (x14, 0))
        (lt (s_Signed w x) fun x15 =>
        lt (s_Trim to_ (IntKind.u64.wrap x15)) fun x16 =>
        some (x16, 0))))
theorem t_Ext {op : Int} {w : Int} {x : Int} {to_ : Int} {r : Int × Int}
    (hs : s_Ext op w x to_ = some r) :
    TriV Tryz.prog 65 [.int .i64 op, .int .i64 w, .int .u64 x, .int .i64 to_] [] (.tuple #[.int .u64 r.1, .int .i64 r.2]) [] := by
  unfold s_Ext at hs
  refine TriL.of Tryz.func65 rfl Tryz.ntmps65 Tryz.results65 rfl (fun w0 F => ?_)
  refine WP.seq ?_
  refine WP.region ?_
  refine WO.val (PO.assign rfl) rfl ?_
  refine WO.val (PO.assign rfl) rfl ?_
  refine WO.nil ?_
  refine WP.seq ?_
  refine WP.seq ?_
  refine WP.regionG (D := [some 10, some 11, some 12, some 13, some 14, some 15]) rfl ?_
  refine WO.val (PO.move rfl) rfl ?_
  refine WO.val (PO.neq rfl rfl) rfl ?_
  refine WO.val (PO.move rfl) rfl ?_
  refine WO.guardT rfl rfl (fun hg1 => (PO.move rfl).vo) rfl ?_
  refine WO.guardT rfl rfl (fun hg2 => (PO.neq (evg hg2 rfl) rfl).vo) rfl ?_
  refine WO.val (PO.pickA rfl rfl rfl) rfl ?_
  refine WO.nil ?_
  refine WP.cond rfl (fun h3 => ?_) (fun h3 => ?_)
  · replace hs := cond_t h3 hs
    refine WP.seq ?_
    refine WP.region ?_
    refine WO.val (PO.assign rfl) rfl ?_
    refine WO.val (PO.assign rfl) rfl ?_
    refine WO.nil ?_
    refine WP.ret ?_
    obtain rfl := Option.some.inj hs
    exact ⟨_, _, _, Res.two (RV.tmp rfl) (RV.tmp rfl), ⟨rfl, rfl⟩, fun _ s => s⟩
  · replace hs := cond_f h3 hs
    refine WP.skip ?_
    refine WP.seq ?_
    refine WP.seq ?_
    refine WP.regionG (D := [some 16, some 17, some 18, some 19, some 20, some 21, some 22, some 23, some 24, some 25, some 26, some 27, some 28]) rfl ?_
    refine WO.val (PO.move rfl) rfl ?_
    obtain ⟨x4, hx4, hs⟩ := lt_elim hs
    refine WO.vo (VO.call0 Tryz.call79 rfl (t_Right hx4)) rfl ?_
    refine WO.val (PO.not rfl) rfl ?_
    refine WO.val (PO.move rfl) rfl ?_
    refine WO.guardF rfl rfl (fun hg5 => (PO.move rfl).vo) rfl ?_
    obtain ⟨x7, hx7, hs⟩ := lt_elim hs
    refine WO.guardF rfl rfl (fun hg6 => VO.call0 Tryz.call79 (evs_cons (evg hg6 rfl) evs_nil) (t_Right hx7)) rfl ?_
    refine WO.guardF rfl rfl (fun hg8 => (PO.not (evg hg8 rfl)).vo) rfl ?_
    refine WO.val (PO.pickO rfl rfl rfl) rfl ?_
    refine WO.val (PO.move rfl) rfl ?_
    refine WO.guardF rfl rfl (fun hg9 => (PO.move rfl).vo) rfl ?_
    refine WO.guardF rfl rfl (fun hg10 => (PO.move rfl).vo) rfl ?_
    refine WO.guardF rfl rfl (fun hg11 => (PO.lss (evg hg11 rfl) (evg hg11 rfl)).vo) rfl ?_
    refine WO.val (PO.pickO rfl rfl rfl) rfl ?_
    refine WO.nil ?_
    refine WP.cond rfl (fun h12 => ?_) (fun h12 => ?_)
    · replace hs := cond_t h12 hs
      refine WP.seq ?_
      refine WP.region ?_
      refine WO.val (PO.assign rfl) rfl ?_
      refine WO.val (PO.assign rfl) rfl ?_
      refine WO.nil ?_
      refine WP.ret ?_
      obtain rfl := Option.some.inj hs
      exact ⟨_, _, _, Res.two (RV.tmp rfl) (RV.tmp rfl), ⟨rfl, rfl⟩, fun _ s => s⟩
    · replace hs := cond_f h12 hs
      refine WP.skip ?_
      refine WP.seq ?_
      refine WP.seq ?_
      refine WP.region ?_
      refine WO.val (PO.move rfl) rfl ?_
      refine WO.val (PO.eql rfl rfl) rfl ?_
      refine WO.nil ?_
      refine WP.cond rfl (fun h13 => ?_) (fun h13 => ?_)
      · replace hs := cond_t h13 hs
        refine WP.seq ?_
        refine WP.region ?_
        refine WO.val (PO.move rfl) rfl ?_
        refine WO.val (PO.move rfl) rfl ?_
        obtain ⟨x14, hx14, hs⟩ := lt_elim hs
        refine WO.vo (VO.call0 Tryz.call58 rfl (t_Trim hx14)) rfl ?_
        refine WO.val (PO.assign rfl) rfl ?_
        refine WO.val (PO.assign rfl) rfl ?_
        refine WO.nil ?_
        refine WP.ret ?_
        obtain rfl := Option.some.inj hs
        exact ⟨_, _, _, Res.two (RV.tmp rfl) (RV.tmp rfl), ⟨rfl, rfl⟩, fun _ s => s⟩
      · replace hs := cond_f h13 hs
        refine WP.skip ?_
        refine WP.seq ?_
        refine WP.region ?_
        refine WO.val (PO.move rfl) rfl ?_
        refine WO.val (PO.move rfl) rfl ?_
        refine WO.val (PO.move rfl) rfl ?_
        obtain ⟨x15, hx15, hs⟩ := lt_elim hs
        refine WO.vo (VO.call0 Tryz.call80 rfl (t_Signed hx15)) rfl ?_
        refine WO.val (PO.conv rfl Tryz.runUnderlying2 Tryz.runUnderlying33) rfl ?_
        obtain ⟨x16, hx16, hs⟩ := lt_elim hs
        refine WO.vo (VO.call0 Tryz.call58 rfl (t_Trim hx16)) rfl ?_
        refine WO.val (PO.assign rfl) rfl ?_
        refine WO.val (PO.assign rfl) rfl ?_
        refine WO.nil ?_
        refine WP.ret ?_
        obtain rfl := Option.some.inj hs
        exact ⟨_, _, _, Res.two (RV.tmp rfl) (RV.tmp rfl), ⟨rfl, rfl⟩, fun _ s => s⟩
attribute [irreducible] s_Ext

end Go.Proofs.YtlnionilhagenaaGreatDoor
