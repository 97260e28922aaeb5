/- Printed by gen.py (my own program): Lean functions with the answers of the Go functions, and the proofs that the code comes to them. -/
import Derived.Test.YtlnionilhagenaaGreatDoorDlf
namespace Go.Proofs.YtlnionilhagenaaGreatDoor
open Go.RowKit
set_option linter.all false
set_option maxRecDepth 100000
set_option maxHeartbeats 4000000
theorem Tryz.mixedRem : Tryz.prog.follows .mixedOrders = true := by kernel_rfl

/- cadence/eval.remade -/
def s_remadeS_j82 (c7_0 : Int) (rec_s_remadeS_l1 : Int → St → (List (Int × Int)) → Option (St × ((List Int) × Unit))) (j9_0 : St) (j9_1 : List (Int × Int)) : Option (St × ((List Int) × Unit)) :=
  rec_s_remadeS_l1 (IntKind.i64.wrap (c7_0 + 1)) j9_0 j9_1
def s_remadeS_j89 (k : Nat) (c7_0 : Int) (c7_1 : St) (c7_2 : List (Int × Int)) (x10 : Int) (x11 : Nd × Int) (j14_1 : Int) (j15_1 : Int) (rec_s_remadeS_l1 : Int → St → (List (Int × Int)) → Option (St × ((List Int) × Unit))) (j16_0 : Bool) (j16_1 : Int) : Option (St × ((List Int) × Unit)) :=
  cond j16_0
    ((s_St_Make k c7_1 (⟨x11.1.Op, x11.1.W, j14_1, j15_1, j16_1, x11.1.Num, x11.1.Name⟩ : Nd)).bind fun x18 =>
    cond (x18.2.2 != 0)
      (none)
      (s_remadeS_j82 c7_0 (rec_s_remadeS_l1) x18.1 (mput (mput c7_2 x10 x10) x10 x18.2.1)))
    (s_remadeS_j82 c7_0 (rec_s_remadeS_l1) c7_1 (mput c7_2 x10 x10))
def s_remadeS_j88 (k : Nat) (c7_0 : Int) (c7_1 : St) (c7_2 : List (Int × Int)) (x10 : Int) (x11 : Nd × Int) (j14_1 : Int) (rec_s_remadeS_l1 : Int → St → (List (Int × Int)) → Option (St × ((List Int) × Unit))) (j15_0 : Bool) (j15_1 : Int) : Option (St × ((List Int) × Unit)) :=
  cond (x11.1.C != 0)
    (s_remadeS_j89 k c7_0 c7_1 c7_2 x10 x11 j14_1 j15_1 (rec_s_remadeS_l1) (j15_0 || (((mget c7_2 x11.1.C).getD 0) != x11.1.C)) ((mget c7_2 x11.1.C).getD 0))
    (s_remadeS_j89 k c7_0 c7_1 c7_2 x10 x11 j14_1 j15_1 (rec_s_remadeS_l1) j15_0 x11.1.C)
def s_remadeS_j87 (k : Nat) (c7_0 : Int) (c7_1 : St) (c7_2 : List (Int × Int)) (x10 : Int) (x11 : Nd × Int) (rec_s_remadeS_l1 : Int → St → (List (Int × Int)) → Option (St × ((List Int) × Unit))) (j14_0 : Bool) (j14_1 : Int) : Option (St × ((List Int) × Unit)) :=
  cond (x11.1.B != 0)
    (s_remadeS_j88 k c7_0 c7_1 c7_2 x10 x11 j14_1 (rec_s_remadeS_l1) (j14_0 || (((mget c7_2 x11.1.B).getD 0) != x11.1.B)) ((mget c7_2 x11.1.B).getD 0))
    (s_remadeS_j88 k c7_0 c7_1 c7_2 x10 x11 j14_1 (rec_s_remadeS_l1) j14_0 x11.1.B)
def s_remadeS_j83 (into : Bool) (k : Nat) (c7_0 : Int) (c7_1 : St) (c7_2 : List (Int × Int)) (x10 : Int) (x11 : Nd × Int) (rec_s_remadeS_l1 : Int → St → (List (Int × Int)) → Option (St × ((List Int) × Unit))) : Option (St × ((List Int) × Unit)) :=
  cond (x11.1.A != 0)
    (s_remadeS_j87 k c7_0 c7_1 c7_2 x10 x11 (rec_s_remadeS_l1) (into || (((mget c7_2 x11.1.A).getD 0) != x11.1.A)) ((mget c7_2 x11.1.A).getD 0))
    (s_remadeS_j87 k c7_0 c7_1 c7_2 x10 x11 (rec_s_remadeS_l1) into x11.1.A)
def s_remadeS_l3 (s : List Int) (c7_1 : St) (c7_2 : List (Int × Int)) : Nat → Int → (List Int) → Option (St × ((List Int) × Unit))
  | 0, _, _ => none
  | c59_k + 1, c59_0, c59_2 =>
    cond (decide (c59_0 < (s.length : Int)))
      ((getI s c59_0).bind fun x61 =>
      if (c59_2.length + 1) * 8 ≤ 140737488355328 then (s_remadeS_l3 s c7_1 c7_2 c59_k (IntKind.i64.wrap (c59_0 + 1)) (c59_2 ++ [((mget c7_2 x61).getD 0)])) else none)
      (some (c7_1, c59_2, ()))
def s_remadeS_l1 (s : List Int) (into : Bool) (φ : Nd → Int) (k : Nat) (x2 : ((List Int) × Int)) : Nat → Int → St → (List (Int × Int)) → Option (St × ((List Int) × Unit))
  | 0, _, _, _ => none
  | c7_k + 1, c7_0, c7_1, c7_2 =>
    cond (decide (c7_0 < (x2.1.length : Int)))
      ((getI x2.1 c7_0).bind fun x10 =>
      (s_St_Node c7_1 x10).bind fun x11 =>
      cond (x11.1.Op == 4)
        (cond ((φ x11.1) != 0)
          (s_remadeS_j82 c7_0 (s_remadeS_l1 s into φ k x2 c7_k) c7_1 (mput c7_2 x10 (φ x11.1)))
          (s_remadeS_j83 into k c7_0 c7_1 c7_2 x10 x11 (s_remadeS_l1 s into φ k x2 c7_k)))
        (s_remadeS_j83 into k c7_0 c7_1 c7_2 x10 x11 (s_remadeS_l1 s into φ k x2 c7_k)))
      (if 0 ≤ (0 : Int) ∧ (0 : Int) ≤ (s.length : Int) ∧ (s.length : Int) * 8 ≤ 140737488355328 then (s_remadeS_l3 s c7_1 c7_2 k 0 (List.replicate (0 : Int).toNat (0 : Int))) else none)
def s_remadeS (k : Nat) (S : St) (s : List Int) (into : Bool) (φ : Nd → Int) : Option (St × ((List Int) × Unit)) :=
  (s_St_Order k S s).bind fun x2 =>
  cond (x2.2 != 0)
    (none)
    (s_remadeS_l1 s into φ k x2 k 0 S ([]))
theorem t_remadeS {k : Nat} {p0 : Nat} {v_2 : Value} {lf : Value} {kp : HP} {φ : Nd → Int} (hlf : HypLf lf kp φ) {S : St} {s : List Int} {into : Bool} {r : St × ((List Int) × Unit)}
    (hs : s_remadeS k S s into φ = some r) :
    TriX Tryz.prog 28 [.pointer (some ⟨p0, 0, none⟩), .pointer (some ⟨p0, 0, none⟩), v_2, .bool into, lf] [stAt p0 S, slc 3 1 v_2 s.length (fl ic s), kp] (.ok r) faultV (fun (a_ : St × ((List Int) × Unit)) (c : Value) => .tuple #[c, .nilIface]) (fun a_ c => [stAt p0 a_.1, slc 3 1 v_2 s.length (fl ic s), kp, slc 3 1 c a_.2.1.length (fl ic a_.2.1)]) := by
  unfold s_remadeS at hs
  refine TriX.of Tryz.func28 rfl Tryz.ntmps28 Tryz.results28 rfl (fun w0 F => ?_)
  refine WP.seq ?_
  refine WP.region ?_
  refine WO.heap [stAt p0 S, slc 3 1 v_2 s.length (fl ic s), kp, F, slc 3 1 (nils 1) ([] : List Int).length (fl ic ([] : List Int))] (fun _ s => s.addNil 3 1 1) ?_
  refine WO.val (PO.assign (v := (nils 1)) rfl) rfl ?_
  refine WO.val (PO.assign rfl) rfl ?_
  refine WO.nil ?_
  refine WP.seq ?_
  refine WP.region ?_
  refine WO.val (PO.move rfl) rfl ?_
  refine WO.val (PO.move rfl) rfl ?_
  obtain ⟨x2, hx2, hs⟩ := bind_elim hs
  refine WO.step (SO.of rfl (EO.callX [0, 1] Tryz.call26 rfl rfl (t_St_Order hx2) (fun _ => ⟨rfl, rfl, trivial⟩))) rfl ?_
  rintro _ _ ⟨v3, rfl, rfl⟩
  refine WO.toL [stAt p0 S, slc 3 1 v_2 s.length (fl ic s), kp, F, slc 3 1 (nils 1) ([] : List Int).length (fl ic ([] : List Int)), slc 3 1 v3 x2.1.length (fl ic x2.1)] rfl ?_
  refine WO.val (PO.move rfl) rfl ?_
  refine WO.val (PO.extract rfl rfl) rfl ?_
  refine WO.val (PO.extract rfl rfl) rfl ?_
  refine WO.val (PO.assign rfl) rfl ?_
  refine WO.val (PO.assign rfl) rfl ?_
  refine WO.nil ?_
  refine WP.seq ?_
  refine WP.seq ?_
  refine WP.region ?_
  refine WO.val (PO.move rfl) rfl ?_
  refine WO.val (PO.neq rfl rfl) rfl ?_
  refine WO.nil ?_
  refine WP.cond rfl (fun h4 => ?_) (fun h4 => ?_)
  · replace hs := cond_t h4 hs
    refine WP.seq ?_
    refine WP.region ?_
    refine WO.val (PO.move rfl) rfl ?_
    refine WO.val (PO.build (v := .agg #[.int .i64 x2.2]) rfl (fun w => by simp [Instr.build, Instr.fill, Value.cells, addr_add', Tryz.zeroValue119, Tryz.runUnderlying119, Tryz.sizeOf28])) rfl ?_
    refine WO.val (PO.makeIface rfl Tryz.runUnderlying119 rfl) rfl ?_
    refine WO.heap [stAt p0 S, slc 3 1 v_2 s.length (fl ic s), kp, F, slc 3 1 (nils 1) ([] : List Int).length (fl ic ([] : List Int)), slc 3 1 v3 x2.1.length (fl ic x2.1), slc 3 1 (nils 5) ([] : List Int).length (fl ic ([] : List Int))] (fun _ s => s.addNil 3 1 5) ?_
    refine WO.val (PO.assign (v := (nils 5)) rfl) rfl ?_
    refine WO.val (PO.assign rfl) rfl ?_
    refine WO.nil ?_
    refine WP.ret ?_
    cases hs
  · replace hs := cond_f h4 hs
    refine WP.skip ?_
    refine WP.seq ?_
    refine WP.region ?_
    refine WO.val (PO.move rfl) rfl ?_
    refine WO.val (PO.lenL 5 rfl Tryz.runUnderlying24 rfl) rfl ?_
    refine WO.step (SO.of rfl (EO.makeMapN (kv := iv) (vv := iv) rfl Tryz.runUnderlying86)) rfl ?_
    rintro _ _ ⟨b6, rfl, rfl⟩
    refine WO.toL [stAt p0 S, slc 3 1 v_2 s.length (fl ic s), kp, F, slc 3 1 (nils 1) ([] : List Int).length (fl ic ([] : List Int)), slc 3 1 v3 x2.1.length (fl ic x2.1), mapAt iv iv b6 ([])] rfl ?_
    refine WO.val (PO.assign rfl) rfl ?_
    refine WO.nil ?_
    refine WP.seq ?_
    refine WP.seq ?_
    refine WP.region ?_
    refine WO.val (PO.move rfl) rfl ?_
    refine WO.val (PO.lenL 5 rfl Tryz.runUnderlying24 rfl) rfl ?_
    refine WO.val (PO.move rfl) rfl ?_
    refine WO.nil ?_
    refine WP.block ?_
    refine WP.loopG (fun c7_k f_ L_ => ∃ (c7_0 : Int) (c7_1 : St) (c7_2 : List (Int × Int)), Holds f_ [(0, .pointer (some ⟨p0, 0, none⟩)), (1, .pointer (some ⟨p0, 0, none⟩)), (2, v_2), (3, .bool into), (4, lf), (10, (nils 1)), (11, .nilIface), (14, .map (some b6)), (43, v3), (44, .int .i64 (x2.1.length : Int)), (45, .int .i64 c7_0)] ∧ L_ = [stAt p0 c7_1, slc 3 1 v_2 s.length (fl ic s), kp, F, slc 3 1 (nils 1) ([] : List Int).length (fl ic ([] : List Int)), slc 3 1 v3 x2.1.length (fl ic x2.1), mapAt iv iv b6 c7_2] ∧ s_remadeS_l1 s into φ k x2 c7_k c7_0 c7_1 c7_2 = some r) k ⟨0, S, [], ⟨rfl, rfl, rfl, rfl, rfl, rfl, rfl, rfl, rfl, rfl, rfl, trivial⟩, rfl, hs⟩ ?_
    rintro c7_k f_ L_ ⟨c7_0, c7_1, c7_2, hf_, rfl, hs⟩
    refine WP.keep [(0, .pointer (some ⟨p0, 0, none⟩)), (1, .pointer (some ⟨p0, 0, none⟩)), (2, v_2), (3, .bool into), (4, lf), (10, (nils 1)), (11, .nilIface), (14, .map (some b6)), (43, v3), (44, .int .i64 (x2.1.length : Int)), (45, .int .i64 c7_0)] hf_ ?_
    cases c7_k with
    | zero => exact nomatch (show none = some r from hs)
    | succ c7_k =>
      rw [s_remadeS_l1.eq_2] at hs
      refine WP.seq ?_
      refine WP.region ?_
      refine WO.val (PO.lss rfl rfl) rfl ?_
      refine WO.nil ?_
      refine WP.seq ?_
      refine WP.cond rfl (fun h8 => ?_) (fun h8 => ?_)
      · replace hs := cond_t h8 hs
        refine WP.skip ?_
        refine WP.seq ?_
        refine WP.join (fun f_ L_ => ∃ (j9_0 : St) (j9_1 : List (Int × Int)), Holds f_ [(45, .int .i64 c7_0), (44, .int .i64 (x2.1.length : Int)), (43, v3), (14, .map (some b6)), (11, .nilIface), (10, (nils 1)), (4, lf), (3, .bool into), (2, v_2), (1, .pointer (some ⟨p0, 0, none⟩)), (0, .pointer (some ⟨p0, 0, none⟩))] ∧ L_ = [stAt p0 j9_0, slc 3 1 v_2 s.length (fl ic s), kp, F, slc 3 1 (nils 1) ([] : List Int).length (fl ic ([] : List Int)), slc 3 1 v3 x2.1.length (fl ic x2.1), mapAt iv iv b6 j9_1] ∧ s_remadeS_j82 c7_0 (s_remadeS_l1 s into φ k x2 c7_k) j9_0 j9_1 = some r) ?_ ?_
        · refine WP.block ?_
          refine WP.seq ?_
          refine WP.region ?_
          obtain ⟨x10, hx10, hs⟩ := bind_elim hs
          refine WO.val (PO.idxL 5 rfl rfl Tryz.runUnderlying24 Tryz.sizeOf3 rfl hx10) rfl ?_
          refine WO.val (PO.loadL 5 rfl Tryz.isAgg3 rfl (fl_at (c := ic) (k := 1) (j := 0) (fun _ => rfl) hx10 rfl)) rfl ?_
          refine WO.val (PO.assign rfl) rfl ?_
          refine WO.nil ?_
          refine WP.seq ?_
          refine WP.region ?_
          refine WO.val (PO.move rfl) rfl ?_
          refine WO.val (PO.move rfl) rfl ?_
          obtain ⟨x11, hx11, hs⟩ := bind_elim hs
          refine WO.vo (VO.call1 0 Tryz.call15 rfl rfl (t_St_Node hx11)) rfl ?_
          refine WO.val (PO.move rfl) rfl ?_
          refine WO.val (PO.extract rfl rfl) rfl ?_
          refine WO.val (PO.extract rfl rfl) rfl ?_
          refine WO.step (SO.of rfl (EO.alloc Tryz.zeroValue45)) rfl ?_
          rintro _ _ ⟨b12, rfl, rfl⟩
          refine WO.toL [stAt p0 c7_1, slc 3 1 v_2 s.length (fl ic s), kp, F, slc 3 1 (nils 1) ([] : List Int).length (fl ic ([] : List Int)), slc 3 1 v3 x2.1.length (fl ic x2.1), mapAt iv iv b6 c7_2, pt b12 (.cells #[.int .i64 0, .int .i64 0, .int .i64 0, .int .i64 0, .int .i64 0, .int .u64 0, .string (ByteArray.mk #[])] 45 (0, 0))] rfl ?_
          refine WO.step (SO.of rfl (EO.store 7 _ rfl rfl Tryz.sizeOf45 rfl rfl rfl rfl)) rfl ?_
          rintro _ _ rfl
          refine WO.toL [stAt p0 c7_1, slc 3 1 v_2 s.length (fl ic s), kp, F, slc 3 1 (nils 1) ([] : List Int).length (fl ic ([] : List Int)), slc 3 1 v3 x2.1.length (fl ic x2.1), mapAt iv iv b6 c7_2, pt b12 (.cells #[.int .i64 x11.1.Op, .int .i64 x11.1.W, .int .i64 x11.1.A, .int .i64 x11.1.B, .int .i64 x11.1.C, .int .u64 x11.1.Num, .string x11.1.Name] 45 (0, 0))] rfl ?_
          refine WO.val (PO.assign rfl) rfl ?_
          refine WO.nil ?_
          refine WP.seq ?_
          refine WP.join (fun f_ L_ => Holds f_ [(0, .pointer (some ⟨p0, 0, none⟩)), (1, .pointer (some ⟨p0, 0, none⟩)), (2, v_2), (3, .bool into), (4, lf), (10, (nils 1)), (11, .nilIface), (14, .map (some b6)), (43, v3), (44, .int .i64 (x2.1.length : Int)), (45, .int .i64 c7_0), (16, .int .i64 x10), (17, .pointer (some ⟨b12, 0, none⟩))] ∧ L_ = [stAt p0 c7_1, slc 3 1 v_2 s.length (fl ic s), kp, F, slc 3 1 (nils 1) ([] : List Int).length (fl ic ([] : List Int)), slc 3 1 v3 x2.1.length (fl ic x2.1), mapAt iv iv b6 c7_2, pt b12 (.cells #[.int .i64 x11.1.Op, .int .i64 x11.1.W, .int .i64 x11.1.A, .int .i64 x11.1.B, .int .i64 x11.1.C, .int .u64 x11.1.Num, .string x11.1.Name] 45 (0, 0))] ∧ s_remadeS_j83 into k c7_0 c7_1 c7_2 x10 x11 (s_remadeS_l1 s into φ k x2 c7_k) = some r) ?_ ?_
          · refine WP.seq ?_
            refine WP.region ?_
            refine WO.val (PO.fieldAddr rfl Tryz.runUnderlying45 rfl Tryz.sizeOf3 rfl) rfl ?_
            refine WO.val (PO.load 7 rfl Tryz.isAgg3 rfl rfl) rfl ?_
            refine WO.val (PO.eql rfl rfl) rfl ?_
            refine WO.nil ?_
            refine WP.cond rfl (fun h55 => ?_) (fun h55 => ?_)
            · replace hs := cond_t h55 hs
              refine WP.seq ?_
              refine WP.region ?_
              refine WO.val (PO.move rfl) rfl ?_
              refine WO.val (PO.loadAgg 7 rfl Tryz.isAgg45 Tryz.sizeOf45 rfl rfl rfl) rfl ?_
              refine WO.step (SO.of rfl (EO.callLf (m := x11.1) 2 rfl rfl hlf rfl)) rfl ?_
              rintro _ _ ⟨rfl, rfl⟩
              refine WO.toL [stAt p0 c7_1, slc 3 1 v_2 s.length (fl ic s), kp, F, slc 3 1 (nils 1) ([] : List Int).length (fl ic ([] : List Int)), slc 3 1 v3 x2.1.length (fl ic x2.1), mapAt iv iv b6 c7_2, pt b12 (.cells #[.int .i64 x11.1.Op, .int .i64 x11.1.W, .int .i64 x11.1.A, .int .i64 x11.1.B, .int .i64 x11.1.C, .int .u64 x11.1.Num, .string x11.1.Name] 45 (0, 0))] rfl ?_
              refine WO.val (PO.move rfl) rfl ?_
              refine WO.val (PO.extract rfl rfl) rfl ?_
              refine WO.val (PO.extract rfl rfl) rfl ?_
              refine WO.val (PO.assign rfl) rfl ?_
              refine WO.val (PO.assign rfl) rfl ?_
              refine WO.nil ?_
              refine WP.seq ?_
              refine WP.seq ?_
              refine WP.region ?_
              refine WO.val (PO.move rfl) rfl ?_
              refine WO.val (PO.neq rfl rfl) rfl ?_
              refine WO.nil ?_
              refine WP.condF rfl ?_
              refine WP.skip ?_
              refine WP.seq ?_
              refine WP.region ?_
              refine WO.val (PO.move rfl) rfl ?_
              refine WO.val (PO.neq rfl rfl) rfl ?_
              refine WO.nil ?_
              refine WP.cond rfl (fun h56 => ?_) (fun h56 => ?_)
              · replace hs := cond_t h56 hs
                refine WP.seq ?_
                refine WP.region ?_
                refine WO.val (PO.move rfl) rfl ?_
                refine WO.val (PO.move rfl) rfl ?_
                refine WO.val (PO.move rfl) rfl ?_
                refine WO.step (SO.of rfl (EO.mapUpdate (a := x10) (b := (φ x11.1)) 6 _ int_key rfl rfl rfl Tryz.runUnderlying86 rfl rfl)) rfl ?_
                rintro _ _ rfl
                refine WO.toL [stAt p0 c7_1, slc 3 1 v_2 s.length (fl ic s), kp, F, slc 3 1 (nils 1) ([] : List Int).length (fl ic ([] : List Int)), slc 3 1 v3 x2.1.length (fl ic x2.1), mapAt iv iv b6 (mput c7_2 x10 (φ x11.1)), pt b12 (.cells #[.int .i64 x11.1.Op, .int .i64 x11.1.W, .int .i64 x11.1.A, .int .i64 x11.1.B, .int .i64 x11.1.C, .int .u64 x11.1.Num, .string x11.1.Name] 45 (0, 0))] rfl ?_
                refine WO.nil ?_
                refine WP.exit (inX.hit ?_)
                exact ⟨_, ⟨c7_1, (mput c7_2 x10 (φ x11.1)), ⟨rfl, rfl, rfl, rfl, rfl, rfl, rfl, rfl, rfl, rfl, rfl, trivial⟩, rfl, hs⟩, fun _ s => Sat.cutTo 7 rfl s⟩
              · replace hs := cond_f h56 hs
                refine WP.skip ?_
                exact ⟨_, ⟨⟨rfl, rfl, rfl, rfl, rfl, rfl, rfl, rfl, rfl, rfl, rfl, rfl, rfl, trivial⟩, rfl, hs⟩, fun _ s => s⟩
            · replace hs := cond_f h55 hs
              refine WP.skip ?_
              exact ⟨_, ⟨⟨rfl, rfl, rfl, rfl, rfl, rfl, rfl, rfl, rfl, rfl, rfl, rfl, rfl, trivial⟩, rfl, hs⟩, fun _ s => s⟩
          · rintro f_ L_ ⟨hf_, rfl, hs⟩
            refine WP.keep [(0, .pointer (some ⟨p0, 0, none⟩)), (1, .pointer (some ⟨p0, 0, none⟩)), (2, v_2), (3, .bool into), (4, lf), (10, (nils 1)), (11, .nilIface), (14, .map (some b6)), (43, v3), (44, .int .i64 (x2.1.length : Int)), (45, .int .i64 c7_0), (16, .int .i64 x10), (17, .pointer (some ⟨b12, 0, none⟩))] hf_ ?_
            unfold s_remadeS_j83 at hs
            refine WP.seq ?_
            refine WP.region ?_
            refine WO.val (PO.move rfl) rfl ?_
            refine WO.val (PO.assign rfl) rfl ?_
            refine WO.nil ?_
            refine WP.seq ?_
            refine WP.seq ?_
            refine WP.region ?_
            refine WO.val (PO.fieldAddr rfl Tryz.runUnderlying45 rfl Tryz.sizeOf3 rfl) rfl ?_
            refine WO.val (PO.fieldAddr rfl Tryz.runUnderlying45 rfl Tryz.sizeOf3 rfl) rfl ?_
            refine WO.val (PO.fieldAddr rfl Tryz.runUnderlying45 rfl Tryz.sizeOf3 rfl) rfl ?_
            refine WO.val (PO.build (v := .agg #[.pointer (some ⟨b12, 2, none⟩), .pointer (some ⟨b12, 3, none⟩), .pointer (some ⟨b12, 4, none⟩)]) rfl (fun w => by simp [Instr.build, Instr.fill, Value.cells, addr_add', Tryz.zeroValue121, Tryz.runUnderlying121, Tryz.sizeOf120])) rfl ?_
            refine WO.val (PO.move rfl) rfl ?_
            refine WO.nil ?_
            refine WP.block ?_
            refine WP.rounds 4 ?_
            refine WPR.succ ?_
            refine WP.seq ?_
            refine WP.region ?_
            refine WO.val (PO.lss rfl rfl) rfl ?_
            refine WO.nil ?_
            refine WP.seq ?_
            refine WP.condT rfl ?_
            refine WP.skip ?_
            refine WP.seq ?_
            refine WP.join (fun f_ L_ => ∃ (j14_0 : Bool) (j14_1 : Int), Holds f_ [(79, .int .i64 0), (78, .agg #[.pointer (some ⟨b12, 2, none⟩), .pointer (some ⟨b12, 3, none⟩), .pointer (some ⟨b12, 4, none⟩)]), (17, .pointer (some ⟨b12, 0, none⟩)), (16, .int .i64 x10), (45, .int .i64 c7_0), (44, .int .i64 (x2.1.length : Int)), (43, v3), (14, .map (some b6)), (11, .nilIface), (10, (nils 1)), (4, lf), (3, .bool into), (2, v_2), (1, .pointer (some ⟨p0, 0, none⟩)), (0, .pointer (some ⟨p0, 0, none⟩)), (21, .bool j14_0)] ∧ L_ = [stAt p0 c7_1, slc 3 1 v_2 s.length (fl ic s), kp, F, slc 3 1 (nils 1) ([] : List Int).length (fl ic ([] : List Int)), slc 3 1 v3 x2.1.length (fl ic x2.1), mapAt iv iv b6 c7_2, pt b12 (.cells #[.int .i64 x11.1.Op, .int .i64 x11.1.W, .int .i64 j14_1, .int .i64 x11.1.B, .int .i64 x11.1.C, .int .u64 x11.1.Num, .string x11.1.Name] 45 (0, 0))] ∧ s_remadeS_j87 k c7_0 c7_1 c7_2 x10 x11 (s_remadeS_l1 s into φ k x2 c7_k) j14_0 j14_1 = some r) ?_ ?_
            · refine WP.block ?_
              refine WP.seq ?_
              refine WP.region ?_
              refine WO.val (PO.idxArr (i := 0) rfl rfl Tryz.runUnderlying121 Tryz.sizeOf120 Tryz.isAgg120 rfl rfl rfl) rfl ?_
              refine WO.val (PO.assign rfl) rfl ?_
              refine WO.nil ?_
              refine WP.seq ?_
              refine WP.region ?_
              refine WO.val (PO.move rfl) rfl ?_
              refine WO.val (PO.nilCheck rfl) rfl ?_
              refine WO.val (PO.load 7 rfl Tryz.isAgg3 rfl rfl) rfl ?_
              refine WO.val (PO.neq rfl rfl) rfl ?_
              refine WO.nil ?_
              refine WP.cond rfl (fun h44 => ?_) (fun h44 => ?_)
              · replace hs := cond_t h44 hs
                refine WP.seq ?_
                refine WP.drawL (γ := Unit) Tryz.mixedRem [some 86, some 87, some 88, some 89, some 90, some 91, some 92, some 93, some 94, some 95, some 96, some 97, some 21] rfl [(0, .pointer (some ⟨p0, 0, none⟩)), (1, .pointer (some ⟨p0, 0, none⟩)), (2, v_2), (3, .bool into), (4, lf), (10, (nils 1)), (11, .nilIface), (14, .map (some b6)), (43, v3), (44, .int .i64 (x2.1.length : Int)), (45, .int .i64 c7_0), (16, .int .i64 x10), (17, .pointer (some ⟨b12, 0, none⟩)), (78, .agg #[.pointer (some ⟨b12, 2, none⟩), .pointer (some ⟨b12, 3, none⟩), .pointer (some ⟨b12, 4, none⟩)]), (79, .int .i64 0), (23, .pointer (some ⟨b12, 2, none⟩)), (21, .bool into)] [(0, .pointer (some ⟨p0, 0, none⟩)), (1, .pointer (some ⟨p0, 0, none⟩)), (2, v_2), (3, .bool into), (4, lf), (10, (nils 1)), (11, .nilIface), (14, .map (some b6)), (43, v3), (44, .int .i64 (x2.1.length : Int)), (45, .int .i64 c7_0), (16, .int .i64 x10), (17, .pointer (some ⟨b12, 0, none⟩)), (78, .agg #[.pointer (some ⟨b12, 2, none⟩), .pointer (some ⟨b12, 3, none⟩), .pointer (some ⟨b12, 4, none⟩)]), (79, .int .i64 0), (23, .pointer (some ⟨b12, 2, none⟩))] 12 ⟨rfl, rfl, rfl, rfl, rfl, rfl, rfl, rfl, rfl, rfl, rfl, rfl, rfl, rfl, rfl, rfl, rfl, trivial⟩ ⟨rfl, rfl, rfl, rfl, rfl, rfl, rfl, rfl, rfl, rfl, rfl, rfl, rfl, rfl, rfl, rfl, trivial⟩ (fun g45 => [.bool into, .bool into, gd (!into) (.map (some b6)), gd (!into) (.pointer (some ⟨b12, 2, none⟩)), gd (!into) (.pointer (some ⟨b12, 2, none⟩)), gd (!into) (.int .i64 x11.1.A), gd (!into) (.int .i64 ((mget c7_2 x11.1.A).getD 0)), gd (!into) (.pointer (some ⟨b12, 2, none⟩)), gd (!into) (.pointer (some ⟨b12, 2, none⟩)), gd (!into) (.int .i64 x11.1.A), gd (!into) (.bool (((mget c7_2 x11.1.A).getD 0) != x11.1.A)), .bool (into || (((mget c7_2 x11.1.A).getD 0) != x11.1.A)), .bool (into || (((mget c7_2 x11.1.A).getD 0) != x11.1.A))]) [⟨[], 0, 0, false⟩, ⟨[0], 0, 0, false⟩, ⟨[1], 0, 0, false⟩, ⟨[1], 0, 0, false⟩, ⟨[3, 1], 0, 0, false⟩, ⟨[4, 1], 0, 0, false⟩, ⟨[2, 5, 1], 0, 0, false⟩, ⟨[1], 0, 0, false⟩, ⟨[7, 1], 0, 0, false⟩, ⟨[8, 1], 0, 0, false⟩, ⟨[6, 9, 1], 0, 0, false⟩, ⟨[1, 10], 0, 0, false⟩, ⟨[11, 11], 0, 0, false⟩] [] (fun g45 => [[stAt p0 c7_1, slc 3 1 v_2 s.length (fl ic s), kp, F, slc 3 1 (nils 1) ([] : List Int).length (fl ic ([] : List Int)), slc 3 1 v3 x2.1.length (fl ic x2.1), mapAt iv iv b6 c7_2, pt b12 (.cells #[.int .i64 x11.1.Op, .int .i64 x11.1.W, .int .i64 x11.1.A, .int .i64 x11.1.B, .int .i64 x11.1.C, .int .u64 x11.1.Num, .string x11.1.Name] 45 (0, 0))]]) rfl rfl rfl ⟨(fun g45 => SO.at (SO.val (PO.move rfl) rfl) rfl rfl), (fun g45 => SO.at (SO.val (PO.move rfl) rfl) rfl rfl), (fun g45 => SO.at (SO.guardF rfl rfl (fun hg46 => (PO.move rfl).vo)) rfl rfl), (fun g45 => SO.at (SO.guardF rfl rfl (fun hg47 => (PO.move rfl).vo)) rfl rfl), (fun g45 => SO.at (SO.guardF rfl rfl (fun hg48 => (PO.nilCheck (evg hg48 rfl)).vo)) rfl rfl), (fun g45 => SO.at (SO.guardF rfl rfl (fun hg49 => (PO.load 7 (evg hg49 rfl) Tryz.isAgg3 rfl rfl).vo)) rfl rfl), (fun g45 => SO.at (SO.guardF rfl rfl (fun hg50 => (PO.lookup1 (a := x11.1.A) (z := 0) 6 int_key (evg hg50 rfl) (evg hg50 rfl) Tryz.runUnderlying86 Tryz.zeroValue3 rfl).vo)) rfl rfl), (fun g45 => SO.at (SO.guardF rfl rfl (fun hg51 => (PO.move rfl).vo)) rfl rfl), (fun g45 => SO.at (SO.guardF rfl rfl (fun hg52 => (PO.nilCheck (evg hg52 rfl)).vo)) rfl rfl), (fun g45 => SO.at (SO.guardF rfl rfl (fun hg53 => (PO.load 7 (evg hg53 rfl) Tryz.isAgg3 rfl rfl).vo)) rfl rfl), (fun g45 => SO.at (SO.guardF rfl rfl (fun hg54 => (PO.neq (evg hg54 rfl) (evg hg54 rfl)).vo)) rfl rfl), (fun g45 => SO.at (SO.val (PO.pickO rfl rfl rfl) rfl) rfl rfl), (fun g45 => SO.at (SO.val (PO.assign rfl) rfl) rfl rfl), trivial⟩ (fun g45 => [stAt p0 c7_1, slc 3 1 v_2 s.length (fl ic s), kp, F, slc 3 1 (nils 1) ([] : List Int).length (fl ic ([] : List Int)), slc 3 1 v3 x2.1.length (fl ic x2.1), mapAt iv iv b6 c7_2, pt b12 (.cells #[.int .i64 x11.1.Op, .int .i64 x11.1.W, .int .i64 x11.1.A, .int .i64 x11.1.B, .int .i64 x11.1.C, .int .u64 x11.1.Num, .string x11.1.Name] 45 (0, 0))]) (fun _ => rfl) (fun g45 => [(86, .bool into), (87, .bool into), (88, gd (!into) (.map (some b6))), (89, gd (!into) (.pointer (some ⟨b12, 2, none⟩))), (90, gd (!into) (.pointer (some ⟨b12, 2, none⟩))), (91, gd (!into) (.int .i64 x11.1.A)), (92, gd (!into) (.int .i64 ((mget c7_2 x11.1.A).getD 0))), (93, gd (!into) (.pointer (some ⟨b12, 2, none⟩))), (94, gd (!into) (.pointer (some ⟨b12, 2, none⟩))), (95, gd (!into) (.int .i64 x11.1.A)), (96, gd (!into) (.bool (((mget c7_2 x11.1.A).getD 0) != x11.1.A))), (97, .bool (into || (((mget c7_2 x11.1.A).getD 0) != x11.1.A))), (21, .bool (into || (((mget c7_2 x11.1.A).getD 0) != x11.1.A))), (0, .pointer (some ⟨p0, 0, none⟩)), (1, .pointer (some ⟨p0, 0, none⟩)), (2, v_2), (3, .bool into), (4, lf), (10, (nils 1)), (11, .nilIface), (14, .map (some b6)), (43, v3), (44, .int .i64 (x2.1.length : Int)), (45, .int .i64 c7_0), (16, .int .i64 x10), (17, .pointer (some ⟨b12, 0, none⟩)), (78, .agg #[.pointer (some ⟨b12, 2, none⟩), .pointer (some ⟨b12, 3, none⟩), .pointer (some ⟨b12, 4, none⟩)]), (79, .int .i64 0), (23, .pointer (some ⟨b12, 2, none⟩))]) (fun _ => rfl) (fun g45 => ?_)
                refine WP.region ?_
                refine WO.val (PO.move rfl) rfl ?_
                refine WO.val (PO.move rfl) rfl ?_
                refine WO.val (PO.move rfl) rfl ?_
                refine WO.val (PO.nilCheck rfl) rfl ?_
                refine WO.val (PO.load 7 rfl Tryz.isAgg3 rfl rfl) rfl ?_
                refine WO.val (PO.lookup1 (a := x11.1.A) (z := 0) 6 int_key rfl rfl Tryz.runUnderlying86 Tryz.zeroValue3 rfl) rfl ?_
                refine WO.val (PO.nilCheck rfl) rfl ?_
                refine WO.step (SO.of rfl (EO.store 7 _ rfl rfl Tryz.sizeOf3 rfl rfl rfl rfl)) rfl ?_
                rintro _ _ rfl
                refine WO.toL [stAt p0 c7_1, slc 3 1 v_2 s.length (fl ic s), kp, F, slc 3 1 (nils 1) ([] : List Int).length (fl ic ([] : List Int)), slc 3 1 v3 x2.1.length (fl ic x2.1), mapAt iv iv b6 c7_2, pt b12 (.cells #[.int .i64 x11.1.Op, .int .i64 x11.1.W, .int .i64 ((mget c7_2 x11.1.A).getD 0), .int .i64 x11.1.B, .int .i64 x11.1.C, .int .u64 x11.1.Num, .string x11.1.Name] 45 (0, 0))] rfl ?_
                refine WO.nil ?_
                exact ⟨_, ⟨(into || (((mget c7_2 x11.1.A).getD 0) != x11.1.A)), ((mget c7_2 x11.1.A).getD 0), ⟨rfl, rfl, rfl, rfl, rfl, rfl, rfl, rfl, rfl, rfl, rfl, rfl, rfl, rfl, rfl, rfl, trivial⟩, rfl, hs⟩, fun _ s => s⟩
              · replace hs := cond_f h44 hs
                refine WP.skip ?_
                exact ⟨_, ⟨into, x11.1.A, ⟨rfl, rfl, rfl, rfl, rfl, rfl, rfl, rfl, rfl, rfl, rfl, rfl, rfl, rfl, rfl, rfl, trivial⟩, rfl, hs⟩, fun _ s => s⟩
            · rintro f_ L_ ⟨j14_0, j14_1, hf_, rfl, hs⟩
              refine WP.keep [(79, .int .i64 0), (78, .agg #[.pointer (some ⟨b12, 2, none⟩), .pointer (some ⟨b12, 3, none⟩), .pointer (some ⟨b12, 4, none⟩)]), (17, .pointer (some ⟨b12, 0, none⟩)), (16, .int .i64 x10), (45, .int .i64 c7_0), (44, .int .i64 (x2.1.length : Int)), (43, v3), (14, .map (some b6)), (11, .nilIface), (10, (nils 1)), (4, lf), (3, .bool into), (2, v_2), (1, .pointer (some ⟨p0, 0, none⟩)), (0, .pointer (some ⟨p0, 0, none⟩)), (21, .bool j14_0)] hf_ ?_
              unfold s_remadeS_j87 at hs
              refine WP.region ?_
              refine WO.val (PO.addK (c := 1) rfl rfl (by decide)) rfl ?_
              refine WO.val (PO.move rfl) rfl ?_
              refine WO.nil ?_
              refine WPR.succ ?_
              refine WP.seq ?_
              refine WP.region ?_
              refine WO.val (PO.lss rfl rfl) rfl ?_
              refine WO.nil ?_
              refine WP.seq ?_
              refine WP.condT rfl ?_
              refine WP.skip ?_
              refine WP.seq ?_
              refine WP.join (fun f_ L_ => ∃ (j15_0 : Bool) (j15_1 : Int), Holds f_ [(0, .pointer (some ⟨p0, 0, none⟩)), (1, .pointer (some ⟨p0, 0, none⟩)), (2, v_2), (3, .bool into), (4, lf), (10, (nils 1)), (11, .nilIface), (14, .map (some b6)), (43, v3), (44, .int .i64 (x2.1.length : Int)), (45, .int .i64 c7_0), (16, .int .i64 x10), (17, .pointer (some ⟨b12, 0, none⟩)), (78, .agg #[.pointer (some ⟨b12, 2, none⟩), .pointer (some ⟨b12, 3, none⟩), .pointer (some ⟨b12, 4, none⟩)]), (79, .int .i64 1), (21, .bool j15_0)] ∧ L_ = [stAt p0 c7_1, slc 3 1 v_2 s.length (fl ic s), kp, F, slc 3 1 (nils 1) ([] : List Int).length (fl ic ([] : List Int)), slc 3 1 v3 x2.1.length (fl ic x2.1), mapAt iv iv b6 c7_2, pt b12 (.cells #[.int .i64 x11.1.Op, .int .i64 x11.1.W, .int .i64 j14_1, .int .i64 j15_1, .int .i64 x11.1.C, .int .u64 x11.1.Num, .string x11.1.Name] 45 (0, 0))] ∧ s_remadeS_j88 k c7_0 c7_1 c7_2 x10 x11 j14_1 (s_remadeS_l1 s into φ k x2 c7_k) j15_0 j15_1 = some r) ?_ ?_
              · refine WP.block ?_
                refine WP.seq ?_
                refine WP.region ?_
                refine WO.val (PO.idxArr (i := 1) rfl rfl Tryz.runUnderlying121 Tryz.sizeOf120 Tryz.isAgg120 rfl rfl rfl) rfl ?_
                refine WO.val (PO.assign rfl) rfl ?_
                refine WO.nil ?_
                refine WP.seq ?_
                refine WP.region ?_
                refine WO.val (PO.move rfl) rfl ?_
                refine WO.val (PO.nilCheck rfl) rfl ?_
                refine WO.val (PO.load 7 rfl Tryz.isAgg3 rfl rfl) rfl ?_
                refine WO.val (PO.neq rfl rfl) rfl ?_
                refine WO.nil ?_
                refine WP.cond rfl (fun h33 => ?_) (fun h33 => ?_)
                · replace hs := cond_t h33 hs
                  refine WP.seq ?_
                  refine WP.drawL (γ := Unit) Tryz.mixedRem [some 86, some 87, some 88, some 89, some 90, some 91, some 92, some 93, some 94, some 95, some 96, some 97, some 21] rfl [(79, .int .i64 1), (78, .agg #[.pointer (some ⟨b12, 2, none⟩), .pointer (some ⟨b12, 3, none⟩), .pointer (some ⟨b12, 4, none⟩)]), (17, .pointer (some ⟨b12, 0, none⟩)), (16, .int .i64 x10), (45, .int .i64 c7_0), (44, .int .i64 (x2.1.length : Int)), (43, v3), (14, .map (some b6)), (11, .nilIface), (10, (nils 1)), (4, lf), (3, .bool into), (2, v_2), (1, .pointer (some ⟨p0, 0, none⟩)), (0, .pointer (some ⟨p0, 0, none⟩)), (23, .pointer (some ⟨b12, 3, none⟩)), (21, .bool j14_0)] [(79, .int .i64 1), (78, .agg #[.pointer (some ⟨b12, 2, none⟩), .pointer (some ⟨b12, 3, none⟩), .pointer (some ⟨b12, 4, none⟩)]), (17, .pointer (some ⟨b12, 0, none⟩)), (16, .int .i64 x10), (45, .int .i64 c7_0), (44, .int .i64 (x2.1.length : Int)), (43, v3), (14, .map (some b6)), (11, .nilIface), (10, (nils 1)), (4, lf), (3, .bool into), (2, v_2), (1, .pointer (some ⟨p0, 0, none⟩)), (0, .pointer (some ⟨p0, 0, none⟩)), (23, .pointer (some ⟨b12, 3, none⟩))] 12 ⟨rfl, rfl, rfl, rfl, rfl, rfl, rfl, rfl, rfl, rfl, rfl, rfl, rfl, rfl, rfl, rfl, rfl, trivial⟩ ⟨rfl, rfl, rfl, rfl, rfl, rfl, rfl, rfl, rfl, rfl, rfl, rfl, rfl, rfl, rfl, rfl, trivial⟩ (fun g34 => [.bool j14_0, .bool j14_0, gd (!j14_0) (.map (some b6)), gd (!j14_0) (.pointer (some ⟨b12, 3, none⟩)), gd (!j14_0) (.pointer (some ⟨b12, 3, none⟩)), gd (!j14_0) (.int .i64 x11.1.B), gd (!j14_0) (.int .i64 ((mget c7_2 x11.1.B).getD 0)), gd (!j14_0) (.pointer (some ⟨b12, 3, none⟩)), gd (!j14_0) (.pointer (some ⟨b12, 3, none⟩)), gd (!j14_0) (.int .i64 x11.1.B), gd (!j14_0) (.bool (((mget c7_2 x11.1.B).getD 0) != x11.1.B)), .bool (j14_0 || (((mget c7_2 x11.1.B).getD 0) != x11.1.B)), .bool (j14_0 || (((mget c7_2 x11.1.B).getD 0) != x11.1.B))]) [⟨[], 0, 0, false⟩, ⟨[0], 0, 0, false⟩, ⟨[1], 0, 0, false⟩, ⟨[1], 0, 0, false⟩, ⟨[3, 1], 0, 0, false⟩, ⟨[4, 1], 0, 0, false⟩, ⟨[2, 5, 1], 0, 0, false⟩, ⟨[1], 0, 0, false⟩, ⟨[7, 1], 0, 0, false⟩, ⟨[8, 1], 0, 0, false⟩, ⟨[6, 9, 1], 0, 0, false⟩, ⟨[1, 10], 0, 0, false⟩, ⟨[11, 11], 0, 0, false⟩] [] (fun g34 => [[stAt p0 c7_1, slc 3 1 v_2 s.length (fl ic s), kp, F, slc 3 1 (nils 1) ([] : List Int).length (fl ic ([] : List Int)), slc 3 1 v3 x2.1.length (fl ic x2.1), mapAt iv iv b6 c7_2, pt b12 (.cells #[.int .i64 x11.1.Op, .int .i64 x11.1.W, .int .i64 j14_1, .int .i64 x11.1.B, .int .i64 x11.1.C, .int .u64 x11.1.Num, .string x11.1.Name] 45 (0, 0))]]) rfl rfl rfl ⟨(fun g34 => SO.at (SO.val (PO.move rfl) rfl) rfl rfl), (fun g34 => SO.at (SO.val (PO.move rfl) rfl) rfl rfl), (fun g34 => SO.at (SO.guardF rfl rfl (fun hg35 => (PO.move rfl).vo)) rfl rfl), (fun g34 => SO.at (SO.guardF rfl rfl (fun hg36 => (PO.move rfl).vo)) rfl rfl), (fun g34 => SO.at (SO.guardF rfl rfl (fun hg37 => (PO.nilCheck (evg hg37 rfl)).vo)) rfl rfl), (fun g34 => SO.at (SO.guardF rfl rfl (fun hg38 => (PO.load 7 (evg hg38 rfl) Tryz.isAgg3 rfl rfl).vo)) rfl rfl), (fun g34 => SO.at (SO.guardF rfl rfl (fun hg39 => (PO.lookup1 (a := x11.1.B) (z := 0) 6 int_key (evg hg39 rfl) (evg hg39 rfl) Tryz.runUnderlying86 Tryz.zeroValue3 rfl).vo)) rfl rfl), (fun g34 => SO.at (SO.guardF rfl rfl (fun hg40 => (PO.move rfl).vo)) rfl rfl), (fun g34 => SO.at (SO.guardF rfl rfl (fun hg41 => (PO.nilCheck (evg hg41 rfl)).vo)) rfl rfl), (fun g34 => SO.at (SO.guardF rfl rfl (fun hg42 => (PO.load 7 (evg hg42 rfl) Tryz.isAgg3 rfl rfl).vo)) rfl rfl), (fun g34 => SO.at (SO.guardF rfl rfl (fun hg43 => (PO.neq (evg hg43 rfl) (evg hg43 rfl)).vo)) rfl rfl), (fun g34 => SO.at (SO.val (PO.pickO rfl rfl rfl) rfl) rfl rfl), (fun g34 => SO.at (SO.val (PO.assign rfl) rfl) rfl rfl), trivial⟩ (fun g34 => [stAt p0 c7_1, slc 3 1 v_2 s.length (fl ic s), kp, F, slc 3 1 (nils 1) ([] : List Int).length (fl ic ([] : List Int)), slc 3 1 v3 x2.1.length (fl ic x2.1), mapAt iv iv b6 c7_2, pt b12 (.cells #[.int .i64 x11.1.Op, .int .i64 x11.1.W, .int .i64 j14_1, .int .i64 x11.1.B, .int .i64 x11.1.C, .int .u64 x11.1.Num, .string x11.1.Name] 45 (0, 0))]) (fun _ => rfl) (fun g34 => [(86, .bool j14_0), (87, .bool j14_0), (88, gd (!j14_0) (.map (some b6))), (89, gd (!j14_0) (.pointer (some ⟨b12, 3, none⟩))), (90, gd (!j14_0) (.pointer (some ⟨b12, 3, none⟩))), (91, gd (!j14_0) (.int .i64 x11.1.B)), (92, gd (!j14_0) (.int .i64 ((mget c7_2 x11.1.B).getD 0))), (93, gd (!j14_0) (.pointer (some ⟨b12, 3, none⟩))), (94, gd (!j14_0) (.pointer (some ⟨b12, 3, none⟩))), (95, gd (!j14_0) (.int .i64 x11.1.B)), (96, gd (!j14_0) (.bool (((mget c7_2 x11.1.B).getD 0) != x11.1.B))), (97, .bool (j14_0 || (((mget c7_2 x11.1.B).getD 0) != x11.1.B))), (21, .bool (j14_0 || (((mget c7_2 x11.1.B).getD 0) != x11.1.B))), (79, .int .i64 1), (78, .agg #[.pointer (some ⟨b12, 2, none⟩), .pointer (some ⟨b12, 3, none⟩), .pointer (some ⟨b12, 4, none⟩)]), (17, .pointer (some ⟨b12, 0, none⟩)), (16, .int .i64 x10), (45, .int .i64 c7_0), (44, .int .i64 (x2.1.length : Int)), (43, v3), (14, .map (some b6)), (11, .nilIface), (10, (nils 1)), (4, lf), (3, .bool into), (2, v_2), (1, .pointer (some ⟨p0, 0, none⟩)), (0, .pointer (some ⟨p0, 0, none⟩)), (23, .pointer (some ⟨b12, 3, none⟩))]) (fun _ => rfl) (fun g34 => ?_)
                  refine WP.region ?_
                  refine WO.val (PO.move rfl) rfl ?_
                  refine WO.val (PO.move rfl) rfl ?_
                  refine WO.val (PO.move rfl) rfl ?_
                  refine WO.val (PO.nilCheck rfl) rfl ?_
                  refine WO.val (PO.load 7 rfl Tryz.isAgg3 rfl rfl) rfl ?_
                  refine WO.val (PO.lookup1 (a := x11.1.B) (z := 0) 6 int_key rfl rfl Tryz.runUnderlying86 Tryz.zeroValue3 rfl) rfl ?_
                  refine WO.val (PO.nilCheck rfl) rfl ?_
                  refine WO.step (SO.of rfl (EO.store 7 _ rfl rfl Tryz.sizeOf3 rfl rfl rfl rfl)) rfl ?_
                  rintro _ _ rfl
                  refine WO.toL [stAt p0 c7_1, slc 3 1 v_2 s.length (fl ic s), kp, F, slc 3 1 (nils 1) ([] : List Int).length (fl ic ([] : List Int)), slc 3 1 v3 x2.1.length (fl ic x2.1), mapAt iv iv b6 c7_2, pt b12 (.cells #[.int .i64 x11.1.Op, .int .i64 x11.1.W, .int .i64 j14_1, .int .i64 ((mget c7_2 x11.1.B).getD 0), .int .i64 x11.1.C, .int .u64 x11.1.Num, .string x11.1.Name] 45 (0, 0))] rfl ?_
                  refine WO.nil ?_
                  exact ⟨_, ⟨(j14_0 || (((mget c7_2 x11.1.B).getD 0) != x11.1.B)), ((mget c7_2 x11.1.B).getD 0), ⟨rfl, rfl, rfl, rfl, rfl, rfl, rfl, rfl, rfl, rfl, rfl, rfl, rfl, rfl, rfl, rfl, trivial⟩, rfl, hs⟩, fun _ s => s⟩
                · replace hs := cond_f h33 hs
                  refine WP.skip ?_
                  exact ⟨_, ⟨j14_0, x11.1.B, ⟨rfl, rfl, rfl, rfl, rfl, rfl, rfl, rfl, rfl, rfl, rfl, rfl, rfl, rfl, rfl, rfl, trivial⟩, rfl, hs⟩, fun _ s => s⟩
              · rintro f_ L_ ⟨j15_0, j15_1, hf_, rfl, hs⟩
                refine WP.keep [(0, .pointer (some ⟨p0, 0, none⟩)), (1, .pointer (some ⟨p0, 0, none⟩)), (2, v_2), (3, .bool into), (4, lf), (10, (nils 1)), (11, .nilIface), (14, .map (some b6)), (43, v3), (44, .int .i64 (x2.1.length : Int)), (45, .int .i64 c7_0), (16, .int .i64 x10), (17, .pointer (some ⟨b12, 0, none⟩)), (78, .agg #[.pointer (some ⟨b12, 2, none⟩), .pointer (some ⟨b12, 3, none⟩), .pointer (some ⟨b12, 4, none⟩)]), (79, .int .i64 1), (21, .bool j15_0)] hf_ ?_
                unfold s_remadeS_j88 at hs
                refine WP.region ?_
                refine WO.val (PO.addK (c := 2) rfl rfl (by decide)) rfl ?_
                refine WO.val (PO.move rfl) rfl ?_
                refine WO.nil ?_
                refine WPR.succ ?_
                refine WP.seq ?_
                refine WP.region ?_
                refine WO.val (PO.lss rfl rfl) rfl ?_
                refine WO.nil ?_
                refine WP.seq ?_
                refine WP.condT rfl ?_
                refine WP.skip ?_
                refine WP.seq ?_
                refine WP.join (fun f_ L_ => ∃ (j16_0 : Bool) (j16_1 : Int), Holds f_ [(79, .int .i64 2), (78, .agg #[.pointer (some ⟨b12, 2, none⟩), .pointer (some ⟨b12, 3, none⟩), .pointer (some ⟨b12, 4, none⟩)]), (17, .pointer (some ⟨b12, 0, none⟩)), (16, .int .i64 x10), (45, .int .i64 c7_0), (44, .int .i64 (x2.1.length : Int)), (43, v3), (14, .map (some b6)), (11, .nilIface), (10, (nils 1)), (4, lf), (3, .bool into), (2, v_2), (1, .pointer (some ⟨p0, 0, none⟩)), (0, .pointer (some ⟨p0, 0, none⟩)), (21, .bool j16_0)] ∧ L_ = [stAt p0 c7_1, slc 3 1 v_2 s.length (fl ic s), kp, F, slc 3 1 (nils 1) ([] : List Int).length (fl ic ([] : List Int)), slc 3 1 v3 x2.1.length (fl ic x2.1), mapAt iv iv b6 c7_2, pt b12 (.cells #[.int .i64 x11.1.Op, .int .i64 x11.1.W, .int .i64 j14_1, .int .i64 j15_1, .int .i64 j16_1, .int .u64 x11.1.Num, .string x11.1.Name] 45 (0, 0))] ∧ s_remadeS_j89 k c7_0 c7_1 c7_2 x10 x11 j14_1 j15_1 (s_remadeS_l1 s into φ k x2 c7_k) j16_0 j16_1 = some r) ?_ ?_
                · refine WP.block ?_
                  refine WP.seq ?_
                  refine WP.region ?_
                  refine WO.val (PO.idxArr (i := 2) rfl rfl Tryz.runUnderlying121 Tryz.sizeOf120 Tryz.isAgg120 rfl rfl rfl) rfl ?_
                  refine WO.val (PO.assign rfl) rfl ?_
                  refine WO.nil ?_
                  refine WP.seq ?_
                  refine WP.region ?_
                  refine WO.val (PO.move rfl) rfl ?_
                  refine WO.val (PO.nilCheck rfl) rfl ?_
                  refine WO.val (PO.load 7 rfl Tryz.isAgg3 rfl rfl) rfl ?_
                  refine WO.val (PO.neq rfl rfl) rfl ?_
                  refine WO.nil ?_
                  refine WP.cond rfl (fun h22 => ?_) (fun h22 => ?_)
                  · replace hs := cond_t h22 hs
                    refine WP.seq ?_
                    refine WP.drawL (γ := Unit) Tryz.mixedRem [some 86, some 87, some 88, some 89, some 90, some 91, some 92, some 93, some 94, some 95, some 96, some 97, some 21] rfl [(0, .pointer (some ⟨p0, 0, none⟩)), (1, .pointer (some ⟨p0, 0, none⟩)), (2, v_2), (3, .bool into), (4, lf), (10, (nils 1)), (11, .nilIface), (14, .map (some b6)), (43, v3), (44, .int .i64 (x2.1.length : Int)), (45, .int .i64 c7_0), (16, .int .i64 x10), (17, .pointer (some ⟨b12, 0, none⟩)), (78, .agg #[.pointer (some ⟨b12, 2, none⟩), .pointer (some ⟨b12, 3, none⟩), .pointer (some ⟨b12, 4, none⟩)]), (79, .int .i64 2), (23, .pointer (some ⟨b12, 4, none⟩)), (21, .bool j15_0)] [(0, .pointer (some ⟨p0, 0, none⟩)), (1, .pointer (some ⟨p0, 0, none⟩)), (2, v_2), (3, .bool into), (4, lf), (10, (nils 1)), (11, .nilIface), (14, .map (some b6)), (43, v3), (44, .int .i64 (x2.1.length : Int)), (45, .int .i64 c7_0), (16, .int .i64 x10), (17, .pointer (some ⟨b12, 0, none⟩)), (78, .agg #[.pointer (some ⟨b12, 2, none⟩), .pointer (some ⟨b12, 3, none⟩), .pointer (some ⟨b12, 4, none⟩)]), (79, .int .i64 2), (23, .pointer (some ⟨b12, 4, none⟩))] 12 ⟨rfl, rfl, rfl, rfl, rfl, rfl, rfl, rfl, rfl, rfl, rfl, rfl, rfl, rfl, rfl, rfl, rfl, trivial⟩ ⟨rfl, rfl, rfl, rfl, rfl, rfl, rfl, rfl, rfl, rfl, rfl, rfl, rfl, rfl, rfl, rfl, trivial⟩ (fun g23 => [.bool j15_0, .bool j15_0, gd (!j15_0) (.map (some b6)), gd (!j15_0) (.pointer (some ⟨b12, 4, none⟩)), gd (!j15_0) (.pointer (some ⟨b12, 4, none⟩)), gd (!j15_0) (.int .i64 x11.1.C), gd (!j15_0) (.int .i64 ((mget c7_2 x11.1.C).getD 0)), gd (!j15_0) (.pointer (some ⟨b12, 4, none⟩)), gd (!j15_0) (.pointer (some ⟨b12, 4, none⟩)), gd (!j15_0) (.int .i64 x11.1.C), gd (!j15_0) (.bool (((mget c7_2 x11.1.C).getD 0) != x11.1.C)), .bool (j15_0 || (((mget c7_2 x11.1.C).getD 0) != x11.1.C)), .bool (j15_0 || (((mget c7_2 x11.1.C).getD 0) != x11.1.C))]) [⟨[], 0, 0, false⟩, ⟨[0], 0, 0, false⟩, ⟨[1], 0, 0, false⟩, ⟨[1], 0, 0, false⟩, ⟨[3, 1], 0, 0, false⟩, ⟨[4, 1], 0, 0, false⟩, ⟨[2, 5, 1], 0, 0, false⟩, ⟨[1], 0, 0, false⟩, ⟨[7, 1], 0, 0, false⟩, ⟨[8, 1], 0, 0, false⟩, ⟨[6, 9, 1], 0, 0, false⟩, ⟨[1, 10], 0, 0, false⟩, ⟨[11, 11], 0, 0, false⟩] [] (fun g23 => [[stAt p0 c7_1, slc 3 1 v_2 s.length (fl ic s), kp, F, slc 3 1 (nils 1) ([] : List Int).length (fl ic ([] : List Int)), slc 3 1 v3 x2.1.length (fl ic x2.1), mapAt iv iv b6 c7_2, pt b12 (.cells #[.int .i64 x11.1.Op, .int .i64 x11.1.W, .int .i64 j14_1, .int .i64 j15_1, .int .i64 x11.1.C, .int .u64 x11.1.Num, .string x11.1.Name] 45 (0, 0))]]) rfl rfl rfl ⟨(fun g23 => SO.at (SO.val (PO.move rfl) rfl) rfl rfl), (fun g23 => SO.at (SO.val (PO.move rfl) rfl) rfl rfl), (fun g23 => SO.at (SO.guardF rfl rfl (fun hg24 => (PO.move rfl).vo)) rfl rfl), (fun g23 => SO.at (SO.guardF rfl rfl (fun hg25 => (PO.move rfl).vo)) rfl rfl), (fun g23 => SO.at (SO.guardF rfl rfl (fun hg26 => (PO.nilCheck (evg hg26 rfl)).vo)) rfl rfl), (fun g23 => SO.at (SO.guardF rfl rfl (fun hg27 => (PO.load 7 (evg hg27 rfl) Tryz.isAgg3 rfl rfl).vo)) rfl rfl), (fun g23 => SO.at (SO.guardF rfl rfl (fun hg28 => (PO.lookup1 (a := x11.1.C) (z := 0) 6 int_key (evg hg28 rfl) (evg hg28 rfl) Tryz.runUnderlying86 Tryz.zeroValue3 rfl).vo)) rfl rfl), (fun g23 => SO.at (SO.guardF rfl rfl (fun hg29 => (PO.move rfl).vo)) rfl rfl), (fun g23 => SO.at (SO.guardF rfl rfl (fun hg30 => (PO.nilCheck (evg hg30 rfl)).vo)) rfl rfl), (fun g23 => SO.at (SO.guardF rfl rfl (fun hg31 => (PO.load 7 (evg hg31 rfl) Tryz.isAgg3 rfl rfl).vo)) rfl rfl), (fun g23 => SO.at (SO.guardF rfl rfl (fun hg32 => (PO.neq (evg hg32 rfl) (evg hg32 rfl)).vo)) rfl rfl), (fun g23 => SO.at (SO.val (PO.pickO rfl rfl rfl) rfl) rfl rfl), (fun g23 => SO.at (SO.val (PO.assign rfl) rfl) rfl rfl), trivial⟩ (fun g23 => [stAt p0 c7_1, slc 3 1 v_2 s.length (fl ic s), kp, F, slc 3 1 (nils 1) ([] : List Int).length (fl ic ([] : List Int)), slc 3 1 v3 x2.1.length (fl ic x2.1), mapAt iv iv b6 c7_2, pt b12 (.cells #[.int .i64 x11.1.Op, .int .i64 x11.1.W, .int .i64 j14_1, .int .i64 j15_1, .int .i64 x11.1.C, .int .u64 x11.1.Num, .string x11.1.Name] 45 (0, 0))]) (fun _ => rfl) (fun g23 => [(86, .bool j15_0), (87, .bool j15_0), (88, gd (!j15_0) (.map (some b6))), (89, gd (!j15_0) (.pointer (some ⟨b12, 4, none⟩))), (90, gd (!j15_0) (.pointer (some ⟨b12, 4, none⟩))), (91, gd (!j15_0) (.int .i64 x11.1.C)), (92, gd (!j15_0) (.int .i64 ((mget c7_2 x11.1.C).getD 0))), (93, gd (!j15_0) (.pointer (some ⟨b12, 4, none⟩))), (94, gd (!j15_0) (.pointer (some ⟨b12, 4, none⟩))), (95, gd (!j15_0) (.int .i64 x11.1.C)), (96, gd (!j15_0) (.bool (((mget c7_2 x11.1.C).getD 0) != x11.1.C))), (97, .bool (j15_0 || (((mget c7_2 x11.1.C).getD 0) != x11.1.C))), (21, .bool (j15_0 || (((mget c7_2 x11.1.C).getD 0) != x11.1.C))), (0, .pointer (some ⟨p0, 0, none⟩)), (1, .pointer (some ⟨p0, 0, none⟩)), (2, v_2), (3, .bool into), (4, lf), (10, (nils 1)), (11, .nilIface), (14, .map (some b6)), (43, v3), (44, .int .i64 (x2.1.length : Int)), (45, .int .i64 c7_0), (16, .int .i64 x10), (17, .pointer (some ⟨b12, 0, none⟩)), (78, .agg #[.pointer (some ⟨b12, 2, none⟩), .pointer (some ⟨b12, 3, none⟩), .pointer (some ⟨b12, 4, none⟩)]), (79, .int .i64 2), (23, .pointer (some ⟨b12, 4, none⟩))]) (fun _ => rfl) (fun g23 => ?_)
                    refine WP.region ?_
                    refine WO.val (PO.move rfl) rfl ?_
                    refine WO.val (PO.move rfl) rfl ?_
                    refine WO.val (PO.move rfl) rfl ?_
                    refine WO.val (PO.nilCheck rfl) rfl ?_
                    refine WO.val (PO.load 7 rfl Tryz.isAgg3 rfl rfl) rfl ?_
                    refine WO.val (PO.lookup1 (a := x11.1.C) (z := 0) 6 int_key rfl rfl Tryz.runUnderlying86 Tryz.zeroValue3 rfl) rfl ?_
                    refine WO.val (PO.nilCheck rfl) rfl ?_
                    refine WO.step (SO.of rfl (EO.store 7 _ rfl rfl Tryz.sizeOf3 rfl rfl rfl rfl)) rfl ?_
                    rintro _ _ rfl
                    refine WO.toL [stAt p0 c7_1, slc 3 1 v_2 s.length (fl ic s), kp, F, slc 3 1 (nils 1) ([] : List Int).length (fl ic ([] : List Int)), slc 3 1 v3 x2.1.length (fl ic x2.1), mapAt iv iv b6 c7_2, pt b12 (.cells #[.int .i64 x11.1.Op, .int .i64 x11.1.W, .int .i64 j14_1, .int .i64 j15_1, .int .i64 ((mget c7_2 x11.1.C).getD 0), .int .u64 x11.1.Num, .string x11.1.Name] 45 (0, 0))] rfl ?_
                    refine WO.nil ?_
                    exact ⟨_, ⟨(j15_0 || (((mget c7_2 x11.1.C).getD 0) != x11.1.C)), ((mget c7_2 x11.1.C).getD 0), ⟨rfl, rfl, rfl, rfl, rfl, rfl, rfl, rfl, rfl, rfl, rfl, rfl, rfl, rfl, rfl, rfl, trivial⟩, rfl, hs⟩, fun _ s => s⟩
                  · replace hs := cond_f h22 hs
                    refine WP.skip ?_
                    exact ⟨_, ⟨j15_0, x11.1.C, ⟨rfl, rfl, rfl, rfl, rfl, rfl, rfl, rfl, rfl, rfl, rfl, rfl, rfl, rfl, rfl, rfl, trivial⟩, rfl, hs⟩, fun _ s => s⟩
                · rintro f_ L_ ⟨j16_0, j16_1, hf_, rfl, hs⟩
                  refine WP.keep [(79, .int .i64 2), (78, .agg #[.pointer (some ⟨b12, 2, none⟩), .pointer (some ⟨b12, 3, none⟩), .pointer (some ⟨b12, 4, none⟩)]), (17, .pointer (some ⟨b12, 0, none⟩)), (16, .int .i64 x10), (45, .int .i64 c7_0), (44, .int .i64 (x2.1.length : Int)), (43, v3), (14, .map (some b6)), (11, .nilIface), (10, (nils 1)), (4, lf), (3, .bool into), (2, v_2), (1, .pointer (some ⟨p0, 0, none⟩)), (0, .pointer (some ⟨p0, 0, none⟩)), (21, .bool j16_0)] hf_ ?_
                  unfold s_remadeS_j89 at hs
                  refine WP.region ?_
                  refine WO.val (PO.addK (c := 3) rfl rfl (by decide)) rfl ?_
                  refine WO.val (PO.move rfl) rfl ?_
                  refine WO.nil ?_
                  refine WPR.succ ?_
                  refine WP.seq ?_
                  refine WP.region ?_
                  refine WO.val (PO.lss rfl rfl) rfl ?_
                  refine WO.nil ?_
                  refine WP.seq ?_
                  refine WP.condF rfl ?_
                  refine WP.exit (inX.hit ?_)
                  refine WP.seq ?_
                  refine WP.region ?_
                  refine WO.val (PO.move rfl) rfl ?_
                  refine WO.val (PO.move rfl) rfl ?_
                  refine WO.val (PO.move rfl) rfl ?_
                  refine WO.step (SO.of rfl (EO.mapUpdate (a := x10) (b := x10) 6 _ int_key rfl rfl rfl Tryz.runUnderlying86 rfl rfl)) rfl ?_
                  rintro _ _ rfl
                  refine WO.toL [stAt p0 c7_1, slc 3 1 v_2 s.length (fl ic s), kp, F, slc 3 1 (nils 1) ([] : List Int).length (fl ic ([] : List Int)), slc 3 1 v3 x2.1.length (fl ic x2.1), mapAt iv iv b6 (mput c7_2 x10 x10), pt b12 (.cells #[.int .i64 x11.1.Op, .int .i64 x11.1.W, .int .i64 j14_1, .int .i64 j15_1, .int .i64 j16_1, .int .u64 x11.1.Num, .string x11.1.Name] 45 (0, 0))] rfl ?_
                  refine WO.nil ?_
                  refine WP.seq ?_
                  refine WP.region ?_
                  refine WO.val (PO.move rfl) rfl ?_
                  refine WO.nil ?_
                  refine WP.cond rfl (fun h17 => ?_) (fun h17 => ?_)
                  · replace hs := cond_t h17 hs
                    refine WP.seq ?_
                    refine WP.region ?_
                    refine WO.val (PO.move rfl) rfl ?_
                    refine WO.val (PO.loadAgg 7 rfl Tryz.isAgg45 Tryz.sizeOf45 rfl rfl rfl) rfl ?_
                    obtain ⟨x18, hx18, hs⟩ := bind_elim hs
                    have tx19 := t_St_Make (p0 := p0) hx18
                    refine WO.step (SO.of rfl (EO.call1 0 _ Tryz.call31 rfl rfl tx19 rfl)) rfl ?_
                    rintro _ _ ⟨rfl, rfl⟩
                    refine WO.toL [stAt p0 x18.1, slc 3 1 v_2 s.length (fl ic s), kp, F, slc 3 1 (nils 1) ([] : List Int).length (fl ic ([] : List Int)), slc 3 1 v3 x2.1.length (fl ic x2.1), mapAt iv iv b6 (mput c7_2 x10 x10), pt b12 (.cells #[.int .i64 x11.1.Op, .int .i64 x11.1.W, .int .i64 j14_1, .int .i64 j15_1, .int .i64 j16_1, .int .u64 x11.1.Num, .string x11.1.Name] 45 (0, 0))] rfl ?_
                    refine WO.val (PO.move rfl) rfl ?_
                    refine WO.val (PO.extract rfl rfl) rfl ?_
                    refine WO.val (PO.extract rfl rfl) rfl ?_
                    refine WO.val (PO.assign rfl) rfl ?_
                    refine WO.val (PO.assign rfl) rfl ?_
                    refine WO.nil ?_
                    refine WP.seq ?_
                    refine WP.seq ?_
                    refine WP.region ?_
                    refine WO.val (PO.move rfl) rfl ?_
                    refine WO.val (PO.neq rfl rfl) rfl ?_
                    refine WO.nil ?_
                    refine WP.cond rfl (fun h20 => ?_) (fun h20 => ?_)
                    · replace hs := cond_t h20 hs
                      refine WP.seq ?_
                      refine WP.region ?_
                      refine WO.val (PO.move rfl) rfl ?_
                      refine WO.val (PO.build (v := .agg #[.int .i64 x18.2.2]) rfl (fun w => by simp [Instr.build, Instr.fill, Value.cells, addr_add', Tryz.zeroValue119, Tryz.runUnderlying119, Tryz.sizeOf28])) rfl ?_
                      refine WO.val (PO.makeIface rfl Tryz.runUnderlying119 rfl) rfl ?_
                      refine WO.heap [stAt p0 x18.1, slc 3 1 v_2 s.length (fl ic s), kp, F, slc 3 1 (nils 1) ([] : List Int).length (fl ic ([] : List Int)), slc 3 1 v3 x2.1.length (fl ic x2.1), mapAt iv iv b6 (mput c7_2 x10 x10), pt b12 (.cells #[.int .i64 x11.1.Op, .int .i64 x11.1.W, .int .i64 j14_1, .int .i64 j15_1, .int .i64 j16_1, .int .u64 x11.1.Num, .string x11.1.Name] 45 (0, 0)), slc 3 1 (nils 21) ([] : List Int).length (fl ic ([] : List Int))] (fun _ s => s.addNil 3 1 21) ?_
                      refine WO.val (PO.assign (v := (nils 21)) rfl) rfl ?_
                      refine WO.val (PO.assign rfl) rfl ?_
                      refine WO.nil ?_
                      refine WP.ret ?_
                      cases hs
                    · replace hs := cond_f h20 hs
                      refine WP.skip ?_
                      refine WP.region ?_
                      refine WO.val (PO.move rfl) rfl ?_
                      refine WO.val (PO.move rfl) rfl ?_
                      refine WO.val (PO.move rfl) rfl ?_
                      refine WO.step (SO.of rfl (EO.mapUpdate (a := x10) (b := x18.2.1) 6 _ int_key rfl rfl rfl Tryz.runUnderlying86 rfl rfl)) rfl ?_
                      rintro _ _ rfl
                      refine WO.toL [stAt p0 x18.1, slc 3 1 v_2 s.length (fl ic s), kp, F, slc 3 1 (nils 1) ([] : List Int).length (fl ic ([] : List Int)), slc 3 1 v3 x2.1.length (fl ic x2.1), mapAt iv iv b6 (mput (mput c7_2 x10 x10) x10 x18.2.1), pt b12 (.cells #[.int .i64 x11.1.Op, .int .i64 x11.1.W, .int .i64 j14_1, .int .i64 j15_1, .int .i64 j16_1, .int .u64 x11.1.Num, .string x11.1.Name] 45 (0, 0))] rfl ?_
                      refine WO.nil ?_
                      exact ⟨_, ⟨x18.1, (mput (mput c7_2 x10 x10) x10 x18.2.1), ⟨rfl, rfl, rfl, rfl, rfl, rfl, rfl, rfl, rfl, rfl, rfl, trivial⟩, rfl, hs⟩, fun _ s => Sat.cutTo 7 rfl s⟩
                  · replace hs := cond_f h17 hs
                    refine WP.skip ?_
                    exact ⟨_, ⟨c7_1, (mput c7_2 x10 x10), ⟨rfl, rfl, rfl, rfl, rfl, rfl, rfl, rfl, rfl, rfl, rfl, trivial⟩, rfl, hs⟩, fun _ s => Sat.cutTo 7 rfl s⟩
        · rintro f_ L_ ⟨j9_0, j9_1, hf_, rfl, hs⟩
          refine WP.keep [(45, .int .i64 c7_0), (44, .int .i64 (x2.1.length : Int)), (43, v3), (14, .map (some b6)), (11, .nilIface), (10, (nils 1)), (4, lf), (3, .bool into), (2, v_2), (1, .pointer (some ⟨p0, 0, none⟩)), (0, .pointer (some ⟨p0, 0, none⟩))] hf_ ?_
          unfold s_remadeS_j82 at hs
          refine WP.region ?_
          refine WO.val (PO.add rfl rfl) rfl ?_
          refine WO.val (PO.move rfl) rfl ?_
          refine WO.nil ?_
          exact ⟨c7_k, _, Nat.lt_succ_self _, ⟨(IntKind.i64.wrap (c7_0 + 1)), j9_0, j9_1, ⟨rfl, rfl, rfl, rfl, rfl, rfl, rfl, rfl, rfl, rfl, rfl, trivial⟩, rfl, hs⟩, fun _ s => s.pre⟩
      · replace hs := cond_f h8 hs
        refine WP.exit (inX.hit ?_)
        refine WP.seq ?_
        refine WP.region ?_
        refine WO.val (PO.move rfl) rfl ?_
        refine WO.val (PO.lenL 1 rfl Tryz.runUnderlying24 rfl) rfl ?_
        obtain ⟨hc57, hs⟩ := check_elim hs
        refine WO.step (SO.of rfl (EO.makeL (c := ic) (a := 0) (fun _ => rfl) Tryz.typeInfo3 rfl rfl rfl Tryz.underlying24 rfl rfl rfl rfl rfl hc57)) rfl ?_
        rintro v58 _ rfl
        refine WO.toL [stAt p0 c7_1, slc 3 1 v_2 s.length (fl ic s), kp, F, slc 3 1 (nils 1) ([] : List Int).length (fl ic ([] : List Int)), slc 3 1 v3 x2.1.length (fl ic x2.1), mapAt iv iv b6 c7_2, slc 3 1 v58 (List.replicate (0 : Int).toNat (0 : Int)).length (fl ic (List.replicate (0 : Int).toNat (0 : Int)))] rfl ?_
        refine WO.val (PO.assign rfl) rfl ?_
        refine WO.nil ?_
        refine WP.seq ?_
        refine WP.seq ?_
        refine WP.region ?_
        refine WO.val (PO.move rfl) rfl ?_
        refine WO.val (PO.lenL 1 rfl Tryz.runUnderlying24 rfl) rfl ?_
        refine WO.val (PO.move rfl) rfl ?_
        refine WO.nil ?_
        refine WP.block ?_
        refine WP.loopG (fun c59_k f_ L_ => ∃ (c59_0 : Int) (c59_1 : Value) (c59_2 : List Int), Holds f_ [(10, (nils 1)), (11, .nilIface), (14, .map (some b6)), (26, c59_1), (128, v_2), (129, .int .i64 (s.length : Int)), (130, .int .i64 c59_0)] ∧ L_ = [stAt p0 c7_1, slc 3 1 v_2 s.length (fl ic s), kp, F, slc 3 1 (nils 1) ([] : List Int).length (fl ic ([] : List Int)), slc 3 1 v3 x2.1.length (fl ic x2.1), mapAt iv iv b6 c7_2, slc 3 1 c59_1 c59_2.length (fl ic c59_2)] ∧ s_remadeS_l3 s c7_1 c7_2 c59_k c59_0 c59_2 = some r) k ⟨0, v58, (List.replicate (0 : Int).toNat (0 : Int)), ⟨rfl, rfl, rfl, rfl, rfl, rfl, rfl, trivial⟩, rfl, hs⟩ ?_
        rintro c59_k f_ L_ ⟨c59_0, c59_1, c59_2, hf_, rfl, hs⟩
        refine WP.keep [(10, (nils 1)), (11, .nilIface), (14, .map (some b6)), (26, c59_1), (128, v_2), (129, .int .i64 (s.length : Int)), (130, .int .i64 c59_0)] hf_ ?_
        cases c59_k with
        | zero => exact nomatch (show none = some r from hs)
        | succ c59_k =>
          rw [s_remadeS_l3.eq_2] at hs
          refine WP.seq ?_
          refine WP.region ?_
          refine WO.val (PO.lss rfl rfl) rfl ?_
          refine WO.nil ?_
          refine WP.seq ?_
          refine WP.cond rfl (fun h60 => ?_) (fun h60 => ?_)
          · replace hs := cond_t h60 hs
            refine WP.skip ?_
            refine WP.seq ?_
            refine WP.block ?_
            refine WP.seq ?_
            refine WP.region ?_
            obtain ⟨x61, hx61, hs⟩ := bind_elim hs
            refine WO.val (PO.idxL 1 rfl rfl Tryz.runUnderlying24 Tryz.sizeOf3 rfl hx61) rfl ?_
            refine WO.val (PO.loadL 1 rfl Tryz.isAgg3 rfl (fl_at (c := ic) (k := 1) (j := 0) (fun _ => rfl) hx61 rfl)) rfl ?_
            refine WO.val (PO.assign rfl) rfl ?_
            refine WO.nil ?_
            refine WP.region ?_
            refine WO.val (PO.move rfl) rfl ?_
            refine WO.val (PO.move rfl) rfl ?_
            refine WO.val (PO.move rfl) rfl ?_
            refine WO.val (PO.lookup1 (a := x61) (z := 0) 6 int_key rfl rfl Tryz.runUnderlying86 Tryz.zeroValue3 rfl) rfl ?_
            refine WO.step (SO.of rfl (EO.buildSlice1 rfl Tryz.runUnderlying24 Tryz.sizeOf3 Tryz.zeroValue3 rfl rfl rfl rfl)) rfl ?_
            rintro _ _ ⟨b62, rfl, rfl⟩
            refine WO.toL [stAt p0 c7_1, slc 3 1 v_2 s.length (fl ic s), kp, F, slc 3 1 (nils 1) ([] : List Int).length (fl ic ([] : List Int)), slc 3 1 v3 x2.1.length (fl ic x2.1), mapAt iv iv b6 c7_2, slc 3 1 c59_1 c59_2.length (fl ic c59_2), pt b62 (.cells #[.int .i64 ((mget c7_2 x61).getD 0)] 3 (0, 0))] rfl ?_
            obtain ⟨hc63, hs⟩ := check_elim hs
            refine WO.step (SO.of rfl (EO.appendL (c := ic) (a := ((mget c7_2 x61).getD 0)) 7 8 (fun _ => rfl) Tryz.typeInfo3 rfl rfl rfl rfl Tryz.runUnderlying24 Tryz.underlying24 rfl rfl rfl rfl rfl rfl rfl rfl hc63)) rfl ?_
            rintro v64 _ rfl
            refine WO.toL [stAt p0 c7_1, slc 3 1 v_2 s.length (fl ic s), kp, F, slc 3 1 (nils 1) ([] : List Int).length (fl ic ([] : List Int)), slc 3 1 v3 x2.1.length (fl ic x2.1), mapAt iv iv b6 c7_2, slc 3 1 v64 (c59_2 ++ [((mget c7_2 x61).getD 0)]).length (fl ic (c59_2 ++ [((mget c7_2 x61).getD 0)])), pt b62 (.cells #[.int .i64 ((mget c7_2 x61).getD 0)] 3 (0, 0))] rfl ?_
            refine WO.val (PO.assign rfl) rfl ?_
            refine WO.nil ?_
            refine WP.region ?_
            refine WO.val (PO.add rfl rfl) rfl ?_
            refine WO.val (PO.move rfl) rfl ?_
            refine WO.nil ?_
            exact ⟨c59_k, _, Nat.lt_succ_self _, ⟨(IntKind.i64.wrap (c59_0 + 1)), v64, (c59_2 ++ [((mget c7_2 x61).getD 0)]), ⟨rfl, rfl, rfl, rfl, rfl, rfl, rfl, trivial⟩, rfl, hs⟩, fun _ s => s.pre⟩
          · replace hs := cond_f h60 hs
            refine WP.exit (inX.hit ?_)
            refine WP.seq ?_
            refine WP.region ?_
            refine WO.val (PO.move rfl) rfl ?_
            refine WO.val (PO.assign rfl) rfl ?_
            refine WO.val (PO.assign rfl) rfl ?_
            refine WO.nil ?_
            refine WP.ret ?_
            obtain rfl := Option.some.inj hs
            exact ⟨_, c59_1, _, _, rfl, Res.two (RV.tmp rfl) (RV.tmp rfl), rfl, fun _ s => Sat.out [0, 1, 2, 7, 3] rfl s⟩
attribute [irreducible] s_remadeS

/- errors.As -/
def s_errors_As : Bool :=
  false
theorem t_errors_As {x_1 : Value} {r : Bool}
    (hs : s_errors_As = r) :
    TriV Tryz.prog 54 [.nilIface, x_1] [] (.bool r) [] := by
  unfold s_errors_As at hs
  refine TriL.of Tryz.func54 rfl Tryz.ntmps54 Tryz.results54 rfl (fun w0 F => ?_)
  refine WP.seq ?_
  refine WP.region ?_
  refine WO.val (PO.assign rfl) rfl ?_
  refine WO.nil ?_
  refine WP.seq ?_
  refine WP.seq ?_
  refine WP.region ?_
  refine WO.val (PO.move rfl) rfl ?_
  refine WO.val (PO.eqlNN rfl Tryz.runUnderlying71) rfl ?_
  refine WO.nil ?_
  refine WP.condT rfl ?_
  refine WP.seq ?_
  refine WP.region ?_
  refine WO.val (PO.assign rfl) rfl ?_
  refine WO.nil ?_
  refine WP.ret ?_
  cases hs
  exact ⟨_, _, _, Res.one (RV.tmp rfl), ⟨rfl, rfl⟩, fun _ s => s⟩
attribute [irreducible] s_errors_As

/- cadence/eval.number -/
def s_Ev_number : Int :=
  lt s_errors_As fun x2 =>
  cond x2
    (0)
    (0)
theorem t_Ev_number {r : Int}
    (hs : s_Ev_number = r) :
    TriV Tryz.prog 30 [.nilIface] [] (.int .i64 r) [] := by
  unfold s_Ev_number at hs
  refine TriL.of Tryz.func30 rfl Tryz.ntmps30 Tryz.results30 rfl (fun w0 F => ?_)
  refine WP.seq ?_
  refine WP.region ?_
  refine WO.val (PO.assign rfl) rfl ?_
  refine WO.nil ?_
  refine WP.seq ?_
  refine WP.region ?_
  refine WO.step (SO.of rfl (EO.alloc Tryz.zeroValue28)) rfl ?_
  rintro _ _ ⟨b1, rfl, rfl⟩
  refine WO.toL [F, pt b1 (.cells #[.int .i64 0] 28 (0, 0))] rfl ?_
  refine WO.nil ?_
  refine WP.seq ?_
  refine WP.seq ?_
  refine WP.region ?_
  refine WO.val (PO.move rfl) rfl ?_
  refine WO.val (PO.makeIface rfl Tryz.runUnderlying123 rfl) rfl ?_
  obtain ⟨x2, hx2, hs⟩ := lt_elim hs
  refine WO.vo (VO.call0 Tryz.call54 rfl (t_errors_As hx2)) rfl ?_
  refine WO.nil ?_
  refine WP.cond rfl (fun h3 => ?_) (fun h3 => ?_)
  · replace hs := cond_t h3 hs
    refine WP.seq ?_
    refine WP.region ?_
    refine WO.val (PO.load 1 rfl Tryz.isAgg28 rfl rfl) rfl ?_
    refine WO.val (PO.assign rfl) rfl ?_
    refine WO.nil ?_
    refine WP.ret ?_
    cases hs
    exact ⟨_, _, _, Res.one (RV.tmp rfl), ⟨rfl, rfl⟩, fun _ s => s⟩
  · replace hs := cond_f h3 hs
    refine WP.skip ?_
    refine WP.seq ?_
    refine WP.region ?_
    refine WO.val (PO.assign rfl) rfl ?_
    refine WO.nil ?_
    refine WP.ret ?_
    cases hs
    exact ⟨_, _, _, Res.one (RV.tmp rfl), ⟨rfl, rfl⟩, fun _ s => s⟩
attribute [irreducible] s_Ev_number

end Go.Proofs.YtlnionilhagenaaGreatDoor
