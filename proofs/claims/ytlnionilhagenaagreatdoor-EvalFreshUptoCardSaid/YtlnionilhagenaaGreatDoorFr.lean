/- Printed by gen.py (my own program): Lean functions with the answers of the Go functions, and the proofs that the code comes to them. -/
import Derived.Test.YtlnionilhagenaaGreatDoorLo
namespace Go.Proofs.YtlnionilhagenaaGreatDoor
open Go.RowKit
set_option linter.all false
set_option maxRecDepth 100000
set_option maxHeartbeats 4000000
theorem Tryz.mixedFr : Tryz.prog.follows .mixedOrders = true := by kernel_rfl

/- cadence/cadencelaw08.live -/
def s_live (k : Nat) : Option (Bool) :=
  two (s_Load k (ByteArray.mk #[49, 32, 118, 97, 114, 32, 120, 32, 56, 10, 50, 32, 118, 97, 114, 32, 121, 32, 56, 10, 51, 32, 97, 100, 100, 32, 49, 32, 50, 10, 52, 32, 101, 113, 32, 51, 32, 49, 10, 114, 111, 111, 116, 115, 32, 51, 32, 52, 10]) 0)
    (fun q2 =>
      lt (s_L_no q2) fun x5 =>
      cond (((x5 != 0) || true) || ((([] : List Int).length : Int) != 2))
        (some false)
        (none))
    (fun x1 =>
      lt (s_L_no 0) fun x13 =>
      cond (((x13 != 0) || false) || ((x1.2.length : Int) != 2))
        (some false)
        ((s_Ev_Values k x1.1 x1.2 ([(⟨(ByteArray.mk #[120]), 8, 200⟩ : Vl), (⟨(ByteArray.mk #[121]), 8, 100⟩ : Vl)])).bind fun x21 =>
        (getI x1.2 1).bind fun x23 =>
        (s_Ev_Size k x1.1 x23).bind fun x24 =>
        (getI x1.2 0).bind fun x25 =>
        (s_Ev_Value k x1.1 x25 ([(⟨(ByteArray.mk #[120]), 4, 1⟩ : Vl)])).bind fun x27 =>
        lt (s_L_no x21.2) fun x28 =>
        lt (s_L_no x24.2.2.2) fun x29 =>
        cond ((IntKind.i64.wrap (x28 + x29)) == 0)
          ((s_L_sameWords k x21.1 ([44, 0])).bind fun x33 =>
          lt (s_L_no x27.2) fun x42 =>
          some ((((x33 && (x24.1 == 4)) && (x24.2.1 == 5)) && (x24.2.2.1 == 3)) && (x42 == 71)))
          (some false)))
theorem t_live [GlobFix] {k : Nat} {r : Bool}
    (hs : s_live k = some r) :
    TriX Tryz.prog 7 [] [gl] (.ok r) faultV (fun (a_ : Bool) (_ : Unit) => .bool a_) (fun a_ _ => [gl]) := by
  unfold s_live at hs
  refine TriX.of Tryz.func7 rfl Tryz.ntmps7 Tryz.results7 rfl (fun w0 F => ?_)
  refine WP.seq ?_
  refine WP.region ?_
  refine WO.val (PO.assign rfl) rfl ?_
  refine WO.nil ?_
  refine WP.seq ?_
  refine WP.region ?_
  rcases two_elim hs with ⟨q2, hx1, hs⟩ | ⟨x1, hx1, hs⟩
  · refine WO.step (SO.of rfl (EO.callX [0] Tryz.call23 rfl rfl (t_Load hx1) (fun _ => ⟨rfl, trivial⟩))) rfl ?_
    rintro _ _ ⟨c3, rfl, rfl⟩
    refine WO.toL [gl, F] rfl ?_
    refine WO.heap [gl, F, slc 3 1 (nils 4) ([] : List Int).length (fl ic ([] : List Int))] (fun _ s => s.addNil 3 1 4) ?_
    refine WO.val (PO.move rfl) rfl ?_
    refine WO.val (PO.extract rfl rfl) rfl ?_
    refine WO.val (PO.extract rfl rfl) rfl ?_
    refine WO.val (PO.extract rfl rfl) rfl ?_
    refine WO.val (PO.extract rfl rfl) rfl ?_
    refine WO.val (PO.assign rfl) rfl ?_
    refine WO.val (PO.assign rfl) rfl ?_
    refine WO.val (PO.assign rfl) rfl ?_
    refine WO.val (PO.assign rfl) rfl ?_
    refine WO.nil ?_
    refine WP.seq ?_
    refine WP.seq ?_
    refine WP.regionG (D := [some 19, some 20, some 21, some 22, some 23, some 24, some 25, some 26, some 27, some 28, some 29, some 30]) rfl ?_
    refine WO.val (PO.move rfl) rfl ?_
    obtain ⟨x5, hx5, hs⟩ := lt_elim hs
    refine WO.vo (VO.call0 Tryz.call11 rfl (t_L_no hx5)) rfl ?_
    refine WO.val (PO.neq rfl rfl) rfl ?_
    refine WO.val (PO.move rfl) rfl ?_
    refine WO.guardF rfl rfl (fun hg6 => (PO.move rfl).vo) rfl ?_
    refine WO.guardF rfl rfl (fun hg7 => (PO.eqlNP (evg hg7 rfl) rfl Tryz.runUnderlying23).vo) rfl ?_
    refine WO.val (PO.pickO rfl rfl rfl) rfl ?_
    refine WO.val (PO.move rfl) rfl ?_
    refine WO.guardF rfl rfl (fun hg8 => (PO.move rfl).vo) rfl ?_
    refine WO.guardF rfl rfl (fun hg9 => (PO.lenL 2 (evg hg9 rfl) Tryz.runUnderlying24 rfl).vo) rfl ?_
    refine WO.guardF rfl rfl (fun hg10 => (PO.neq (evg hg10 rfl) rfl).vo) rfl ?_
    refine WO.val (PO.pickO rfl rfl rfl) rfl ?_
    refine WO.nil ?_
    refine WP.cond rfl (fun h11 => ?_) (fun h11 => ?_)
    · replace hs := cond_t h11 hs
      refine WP.seq ?_
      refine WP.region ?_
      refine WO.val (PO.assign rfl) rfl ?_
      refine WO.nil ?_
      refine WP.ret ?_
      obtain rfl := Option.some.inj hs
      exact ⟨_, (), _, _, rfl, Res.one (RV.tmp rfl), rfl, fun _ s => Sat.out [0, 1] rfl s⟩
    · replace hs := cond_f h11 hs
      cases hs
  · refine WO.step (SO.of rfl (EO.callX [0] Tryz.call23 rfl rfl (t_Load hx1) (fun _ => ⟨rfl, trivial⟩))) rfl ?_
    rintro _ _ ⟨c3, rfl, rfl⟩
    refine WO.toL [gl, F, stAt c3.1 x1.1, slc 3 1 c3.2.1 x1.2.length (fl ic x1.2)] rfl ?_
    refine WO.val (PO.move rfl) rfl ?_
    refine WO.val (PO.extract rfl rfl) rfl ?_
    refine WO.val (PO.extract rfl rfl) rfl ?_
    refine WO.val (PO.extract rfl rfl) rfl ?_
    refine WO.val (PO.extract rfl rfl) rfl ?_
    refine WO.val (PO.assign rfl) rfl ?_
    refine WO.val (PO.assign rfl) rfl ?_
    refine WO.val (PO.assign rfl) rfl ?_
    refine WO.val (PO.assign rfl) rfl ?_
    refine WO.nil ?_
    refine WP.seq ?_
    refine WP.seq ?_
    refine WP.regionG (D := [some 19, some 20, some 21, some 22, some 23, some 24, some 25, some 26, some 27, some 28, some 29, some 30]) rfl ?_
    refine WO.val (PO.move rfl) rfl ?_
    obtain ⟨x13, hx13, hs⟩ := lt_elim hs
    refine WO.vo (VO.call0 Tryz.call11 rfl (t_L_no hx13)) rfl ?_
    refine WO.val (PO.neq rfl rfl) rfl ?_
    refine WO.val (PO.move rfl) rfl ?_
    refine WO.guardF rfl rfl (fun hg14 => (PO.move rfl).vo) rfl ?_
    refine WO.guardF rfl rfl (fun hg15 => (PO.eqlPN (evg hg15 rfl) rfl Tryz.runUnderlying23).vo) rfl ?_
    refine WO.val (PO.pickO rfl rfl rfl) rfl ?_
    refine WO.val (PO.move rfl) rfl ?_
    refine WO.guardF rfl rfl (fun hg16 => (PO.move rfl).vo) rfl ?_
    refine WO.guardF rfl rfl (fun hg17 => (PO.lenL 3 (evg hg17 rfl) Tryz.runUnderlying24 rfl).vo) rfl ?_
    refine WO.guardF rfl rfl (fun hg18 => (PO.neq (evg hg18 rfl) rfl).vo) rfl ?_
    refine WO.val (PO.pickO rfl rfl rfl) rfl ?_
    refine WO.nil ?_
    refine WP.cond rfl (fun h19 => ?_) (fun h19 => ?_)
    · replace hs := cond_t h19 hs
      refine WP.seq ?_
      refine WP.region ?_
      refine WO.val (PO.assign rfl) rfl ?_
      refine WO.nil ?_
      refine WP.ret ?_
      obtain rfl := Option.some.inj hs
      exact ⟨_, (), _, _, rfl, Res.one (RV.tmp rfl), rfl, fun _ s => Sat.out [0, 1] rfl s⟩
    · replace hs := cond_f h19 hs
      refine WP.skip ?_
      refine WP.seq ?_
      refine WP.region ?_
      refine WO.val (PO.move rfl) rfl ?_
      refine WO.val (PO.move rfl) rfl ?_
      refine WO.val (PO.build (v := .agg #[.string (ByteArray.mk #[120]), .int .i64 8, .int .u64 200]) rfl (fun w => by simp [Instr.build, Instr.fill, Value.cells, addr_add', Tryz.zeroValue35, Tryz.runUnderlying35, Tryz.sizeOf3, Tryz.sizeOf9, Tryz.sizeOf33])) rfl ?_
      refine WO.val (PO.build (v := .agg #[.string (ByteArray.mk #[121]), .int .i64 8, .int .u64 100]) rfl (fun w => by simp [Instr.build, Instr.fill, Value.cells, addr_add', Tryz.zeroValue35, Tryz.runUnderlying35, Tryz.sizeOf3, Tryz.sizeOf9, Tryz.sizeOf33])) rfl ?_
      refine WO.step (SO.of rfl (EO.buildSliceL (c := Vl.cells) (k := 3) (l := [(⟨(ByteArray.mk #[120]), 8, 200⟩ : Vl), (⟨(ByteArray.mk #[121]), 8, 100⟩ : Vl)]) (qs := [(0, .agg #[.string (ByteArray.mk #[120]), .int .i64 8, .int .u64 200]), (1, .agg #[.string (ByteArray.mk #[121]), .int .i64 8, .int .u64 100])]) Tryz.runUnderlying27 Tryz.sizeOf35 Tryz.zeroValue35 (fun a_ fr_ => by simp [fr_.ev (x := .tmp 34) (show ev _ _ = some (.agg #[.string (ByteArray.mk #[120]), .int .i64 8, .int .u64 200]) from rfl), fr_.ev (x := .tmp 35) (show ev _ _ = some (.agg #[.string (ByteArray.mk #[121]), .int .i64 8, .int .u64 100]) from rfl)]) rfl rfl (by kernel_rfl) rfl (fun _ => rfl) rfl rfl)) rfl ?_
      rintro v20 _ rfl
      refine WO.toL [gl, F, stAt c3.1 x1.1, slc 3 1 c3.2.1 x1.2.length (fl ic x1.2), slc 35 3 v20 ([(⟨(ByteArray.mk #[120]), 8, 200⟩ : Vl), (⟨(ByteArray.mk #[121]), 8, 100⟩ : Vl)]).length (fl Vl.cells ([(⟨(ByteArray.mk #[120]), 8, 200⟩ : Vl), (⟨(ByteArray.mk #[121]), 8, 100⟩ : Vl)]))] rfl ?_
      obtain ⟨x21, hx21, hs⟩ := bind_elim hs
      refine WO.step (SO.of rfl (EO.callX [2, 3, 4] Tryz.call17 rfl rfl (t_Ev_Values hx21) (fun _ => ⟨rfl, rfl, rfl, trivial⟩))) rfl ?_
      rintro _ _ ⟨v22, rfl, rfl⟩
      refine WO.toL [gl, F, stAt c3.1 x1.1, slc 3 1 c3.2.1 x1.2.length (fl ic x1.2), slc 35 3 v20 ([(⟨(ByteArray.mk #[120]), 8, 200⟩ : Vl), (⟨(ByteArray.mk #[121]), 8, 100⟩ : Vl)]).length (fl Vl.cells ([(⟨(ByteArray.mk #[120]), 8, 200⟩ : Vl), (⟨(ByteArray.mk #[121]), 8, 100⟩ : Vl)])), slc 33 1 v22 x21.1.length (fl uc x21.1)] rfl ?_
      refine WO.val (PO.move rfl) rfl ?_
      refine WO.val (PO.extract rfl rfl) rfl ?_
      refine WO.val (PO.extract rfl rfl) rfl ?_
      refine WO.val (PO.assign rfl) rfl ?_
      refine WO.val (PO.assign rfl) rfl ?_
      refine WO.nil ?_
      refine WP.seq ?_
      refine WP.region ?_
      refine WO.val (PO.move rfl) rfl ?_
      refine WO.val (PO.move rfl) rfl ?_
      obtain ⟨x23, hx23, hs⟩ := bind_elim hs
      refine WO.val (PO.idxL 3 rfl rfl Tryz.runUnderlying24 Tryz.sizeOf3 rfl hx23) rfl ?_
      refine WO.val (PO.loadL 3 rfl Tryz.isAgg3 rfl (fl_at (c := ic) (k := 1) (j := 0) (fun _ => rfl) hx23 rfl)) rfl ?_
      obtain ⟨x24, hx24, hs⟩ := bind_elim hs
      refine WO.vo (VO.call1 2 Tryz.call24 rfl rfl (t_Ev_Size hx24)) rfl ?_
      refine WO.val (PO.move rfl) rfl ?_
      refine WO.val (PO.extract rfl rfl) rfl ?_
      refine WO.val (PO.extract rfl rfl) rfl ?_
      refine WO.val (PO.extract rfl rfl) rfl ?_
      refine WO.val (PO.extract rfl rfl) rfl ?_
      refine WO.val (PO.assign rfl) rfl ?_
      refine WO.val (PO.assign rfl) rfl ?_
      refine WO.val (PO.assign rfl) rfl ?_
      refine WO.val (PO.assign rfl) rfl ?_
      refine WO.nil ?_
      refine WP.seq ?_
      refine WP.region ?_
      refine WO.val (PO.move rfl) rfl ?_
      refine WO.val (PO.move rfl) rfl ?_
      obtain ⟨x25, hx25, hs⟩ := bind_elim hs
      refine WO.val (PO.idxL 3 rfl rfl Tryz.runUnderlying24 Tryz.sizeOf3 rfl hx25) rfl ?_
      refine WO.val (PO.loadL 3 rfl Tryz.isAgg3 rfl (fl_at (c := ic) (k := 1) (j := 0) (fun _ => rfl) hx25 rfl)) rfl ?_
      refine WO.val (PO.build (v := .agg #[.string (ByteArray.mk #[120]), .int .i64 4, .int .u64 1]) rfl (fun w => by simp [Instr.build, Instr.fill, Value.cells, addr_add', Tryz.zeroValue35, Tryz.runUnderlying35, Tryz.sizeOf3, Tryz.sizeOf9, Tryz.sizeOf33])) rfl ?_
      refine WO.step (SO.of rfl (EO.buildSlice1 rfl Tryz.runUnderlying27 Tryz.sizeOf35 Tryz.zeroValue35 rfl rfl rfl rfl)) rfl ?_
      rintro _ _ ⟨b26, rfl, rfl⟩
      refine WO.toL [gl, F, stAt c3.1 x1.1, slc 3 1 c3.2.1 x1.2.length (fl ic x1.2), slc 35 3 v20 ([(⟨(ByteArray.mk #[120]), 8, 200⟩ : Vl), (⟨(ByteArray.mk #[121]), 8, 100⟩ : Vl)]).length (fl Vl.cells ([(⟨(ByteArray.mk #[120]), 8, 200⟩ : Vl), (⟨(ByteArray.mk #[121]), 8, 100⟩ : Vl)])), slc 33 1 v22 x21.1.length (fl uc x21.1), pt b26 (.cells #[.string (ByteArray.mk #[120]), .int .i64 4, .int .u64 1] 35 (0, 0))] rfl ?_
      refine WO.heap [gl, F, stAt c3.1 x1.1, slc 3 1 c3.2.1 x1.2.length (fl ic x1.2), slc 35 3 v20 ([(⟨(ByteArray.mk #[120]), 8, 200⟩ : Vl), (⟨(ByteArray.mk #[121]), 8, 100⟩ : Vl)]).length (fl Vl.cells ([(⟨(ByteArray.mk #[120]), 8, 200⟩ : Vl), (⟨(ByteArray.mk #[121]), 8, 100⟩ : Vl)])), slc 33 1 v22 x21.1.length (fl uc x21.1), slc 35 3 (.slice (some ⟨b26, 0, none⟩) 1 1) ([(⟨(ByteArray.mk #[120]), 4, 1⟩ : Vl)]).length (fl Vl.cells ([(⟨(ByteArray.mk #[120]), 4, 1⟩ : Vl)]))] (fun _ sw_ => Sat.one (c := Vl.cells) (k := 3) (a := (⟨(ByteArray.mk #[120]), 4, 1⟩ : Vl)) 6 rfl rfl rfl sw_) ?_
      obtain ⟨x27, hx27, hs⟩ := bind_elim hs
      refine WO.step (SO.of rfl (EO.callX [2, 6] Tryz.call25 rfl rfl (t_Ev_Value hx27) (fun _ => ⟨rfl, rfl, trivial⟩))) rfl ?_
      rintro _ _ ⟨_, rfl, rfl⟩
      refine WO.toL [gl, F, stAt c3.1 x1.1, slc 3 1 c3.2.1 x1.2.length (fl ic x1.2), slc 35 3 v20 ([(⟨(ByteArray.mk #[120]), 8, 200⟩ : Vl), (⟨(ByteArray.mk #[121]), 8, 100⟩ : Vl)]).length (fl Vl.cells ([(⟨(ByteArray.mk #[120]), 8, 200⟩ : Vl), (⟨(ByteArray.mk #[121]), 8, 100⟩ : Vl)])), slc 33 1 v22 x21.1.length (fl uc x21.1), slc 35 3 (.slice (some ⟨b26, 0, none⟩) 1 1) ([(⟨(ByteArray.mk #[120]), 4, 1⟩ : Vl)]).length (fl Vl.cells ([(⟨(ByteArray.mk #[120]), 4, 1⟩ : Vl)]))] rfl ?_
      refine WO.val (PO.move rfl) rfl ?_
      refine WO.val (PO.extract rfl rfl) rfl ?_
      refine WO.val (PO.extract rfl rfl) rfl ?_
      refine WO.val (PO.assign rfl) rfl ?_
      refine WO.val (PO.assign rfl) rfl ?_
      refine WO.nil ?_
      refine WP.seq ?_
      refine WP.regionG (D := [some 60, some 61, some 62, some 63, some 64, some 65, some 66, some 67, some 68, some 69, some 70, some 71, some 72, some 73, some 74, some 75, some 76, some 77, some 78, some 79, some 80, some 81, some 82, some 83, some 84, some 85, some 86, some 87, some 0]) rfl ?_
      refine WO.val (PO.move rfl) rfl ?_
      obtain ⟨x28, hx28, hs⟩ := lt_elim hs
      refine WO.vo (VO.call0 Tryz.call11 rfl (t_L_no hx28)) rfl ?_
      refine WO.val (PO.move rfl) rfl ?_
      obtain ⟨x29, hx29, hs⟩ := lt_elim hs
      refine WO.vo (VO.call0 Tryz.call11 rfl (t_L_no hx29)) rfl ?_
      refine WO.val (PO.add rfl rfl) rfl ?_
      refine WO.val (PO.eql rfl rfl) rfl ?_
      refine WO.val (PO.move rfl) rfl ?_
      refine WO.guardT rfl rfl (fun hg30 => (PO.move rfl).vo) rfl ?_
      refine WO.splitB ((IntKind.i64.wrap (x28 + x29)) == 0) (fun h31 => ?_) (fun h31 => ?_)
      · replace hs := cond_t h31 hs
        refine WO.keep [(0, .bool false), (14, .tuple #[.pointer (some ⟨c3.1, 0, none⟩), c3.2.1, c3.2.2, .int .i64 0]), (13, .tuple #[.pointer (some ⟨c3.1, 0, none⟩), c3.2.1, c3.2.2, .int .i64 0]), (15, .pointer (some ⟨c3.1, 0, none⟩)), (16, c3.2.1), (17, c3.2.2), (18, .int .i64 0), (1, .pointer (some ⟨c3.1, 0, none⟩)), (2, c3.2.1), (3, c3.2.2), (4, .int .i64 0), (19, .int .i64 0), (20, .int .i64 x13), (21, .bool (x13 != 0)), (22, .bool (x13 != 0)), (23, gd (!(x13 != 0)) (.pointer (some ⟨c3.1, 0, none⟩))), (24, gd (!(x13 != 0)) (.bool false)), (25, .bool ((x13 != 0) || false)), (26, .bool ((x13 != 0) || false)), (27, gd (!((x13 != 0) || false)) (c3.2.1)), (28, gd (!((x13 != 0) || false)) (.int .i64 (x1.2.length : Int))), (29, gd (!((x13 != 0) || false)) (.bool ((x1.2.length : Int) != 2))), (30, .bool (((x13 != 0) || false) || ((x1.2.length : Int) != 2))), (32, .pointer (some ⟨c3.1, 0, none⟩)), (33, c3.2.1), (34, .agg #[.string (ByteArray.mk #[120]), .int .i64 8, .int .u64 200]), (35, .agg #[.string (ByteArray.mk #[121]), .int .i64 8, .int .u64 100]), (36, v20), (37, .tuple #[v22, .int .i64 x21.2]), (31, .tuple #[v22, .int .i64 x21.2]), (38, v22), (39, .int .i64 x21.2), (5, v22), (6, .int .i64 x21.2), (41, .pointer (some ⟨c3.1, 0, none⟩)), (42, c3.2.1), (43, .pointer (some ⟨blk c3.2.1, (1 : Int).toNat * 1 + 0, none⟩)), (44, .int .i64 x23), (45, .tuple #[.int .i64 x24.1, .int .u64 x24.2.1, .int .i64 x24.2.2.1, .int .i64 x24.2.2.2]), (40, .tuple #[.int .i64 x24.1, .int .u64 x24.2.1, .int .i64 x24.2.2.1, .int .i64 x24.2.2.2]), (46, .int .i64 x24.1), (47, .int .u64 x24.2.1), (48, .int .i64 x24.2.2.1), (49, .int .i64 x24.2.2.2), (7, .int .i64 x24.1), (8, .int .u64 x24.2.1), (9, .int .i64 x24.2.2.1), (10, .int .i64 x24.2.2.2), (51, .pointer (some ⟨c3.1, 0, none⟩)), (52, c3.2.1), (53, .pointer (some ⟨blk c3.2.1, (0 : Int).toNat * 1 + 0, none⟩)), (54, .int .i64 x25), (55, .agg #[.string (ByteArray.mk #[120]), .int .i64 4, .int .u64 1]), (56, (.slice (some ⟨b26, 0, none⟩) 1 1)), (57, .tuple #[.int .u64 x27.1, .int .i64 x27.2]), (50, .tuple #[.int .u64 x27.1, .int .i64 x27.2]), (58, .int .u64 x27.1), (59, .int .i64 x27.2), (11, .int .u64 x27.1), (12, .int .i64 x27.2), (60, .int .i64 x21.2), (61, .int .i64 x28), (62, .int .i64 x24.2.2.2), (63, .int .i64 x29), (64, .int .i64 (IntKind.i64.wrap (x28 + x29))), (65, .bool true), (66, .bool true), (67, v22)] ⟨rfl, rfl, rfl, rfl, rfl, rfl, rfl, rfl, rfl, rfl, rfl, rfl, rfl, rfl, rfl, rfl, rfl, rfl, rfl, rfl, rfl, rfl, rfl, rfl, rfl, rfl, rfl, rfl, rfl, rfl, rfl, rfl, rfl, rfl, rfl, rfl, rfl, rfl, rfl, rfl, rfl, rfl, rfl, rfl, rfl, rfl, rfl, rfl, rfl, rfl, rfl, rfl, rfl, rfl, rfl, rfl, rfl, rfl, rfl, rfl, rfl, rfl, rfl, rfl, rfl, (by rw [h31] <;> rfl), (by rw [h31] <;> rfl), (by rw [h31] <;> rfl), trivial⟩ ?_
        refine WO.step (SO.wantT rfl rfl (EO.buildSliceL (c := uc) (k := 1) (l := [44, 0]) (qs := [(0, .int .u64 44), (1, .int .u64 0)]) Tryz.runUnderlying40 Tryz.sizeOf33 Tryz.zeroValue33 (fun a_ fr_ => by simp [fr_.ev (x := .const (.int .u64 44)) (show ev _ _ = some (.int .u64 44) from rfl), fr_.ev (x := .const (.int .u64 0)) (show ev _ _ = some (.int .u64 0) from rfl)]) rfl rfl (by kernel_rfl) rfl (fun _ => rfl) rfl rfl)) rfl ?_
        rintro v32 _ rfl
        refine WO.toL [gl, F, stAt c3.1 x1.1, slc 3 1 c3.2.1 x1.2.length (fl ic x1.2), slc 35 3 v20 ([(⟨(ByteArray.mk #[120]), 8, 200⟩ : Vl), (⟨(ByteArray.mk #[121]), 8, 100⟩ : Vl)]).length (fl Vl.cells ([(⟨(ByteArray.mk #[120]), 8, 200⟩ : Vl), (⟨(ByteArray.mk #[121]), 8, 100⟩ : Vl)])), slc 33 1 v22 x21.1.length (fl uc x21.1), slc 35 3 (.slice (some ⟨b26, 0, none⟩) 1 1) ([(⟨(ByteArray.mk #[120]), 4, 1⟩ : Vl)]).length (fl Vl.cells ([(⟨(ByteArray.mk #[120]), 4, 1⟩ : Vl)])), slc 33 1 v32 ([44, 0]).length (fl uc ([44, 0]))] rfl ?_
        obtain ⟨x33, hx33, hs⟩ := bind_elim hs
        refine WO.step (SO.wantT rfl rfl (EO.callX [5, 7] Tryz.call18 rfl rfl (t_L_sameWords hx33) (fun _ => ⟨rfl, rfl, trivial⟩))) rfl ?_
        rintro _ _ ⟨_, rfl, rfl⟩
        refine WO.toL [gl, F, stAt c3.1 x1.1, slc 3 1 c3.2.1 x1.2.length (fl ic x1.2), slc 35 3 v20 ([(⟨(ByteArray.mk #[120]), 8, 200⟩ : Vl), (⟨(ByteArray.mk #[121]), 8, 100⟩ : Vl)]).length (fl Vl.cells ([(⟨(ByteArray.mk #[120]), 8, 200⟩ : Vl), (⟨(ByteArray.mk #[121]), 8, 100⟩ : Vl)])), slc 33 1 v22 x21.1.length (fl uc x21.1), slc 35 3 (.slice (some ⟨b26, 0, none⟩) 1 1) ([(⟨(ByteArray.mk #[120]), 4, 1⟩ : Vl)]).length (fl Vl.cells ([(⟨(ByteArray.mk #[120]), 4, 1⟩ : Vl)])), slc 33 1 v32 ([44, 0]).length (fl uc ([44, 0]))] rfl ?_
        refine WO.val (PO.pickT rfl rfl) rfl ?_
        refine WO.val (PO.move rfl) rfl ?_
        refine WO.guardT rfl rfl (fun hg34 => (PO.move rfl).vo) rfl ?_
        refine WO.guardT rfl rfl (fun hg35 => (PO.eql (evg hg35 rfl) rfl).vo) rfl ?_
        refine WO.val (PO.pickA rfl rfl rfl) rfl ?_
        refine WO.val (PO.move rfl) rfl ?_
        refine WO.guardT rfl rfl (fun hg36 => (PO.move rfl).vo) rfl ?_
        refine WO.guardT rfl rfl (fun hg37 => (PO.eql (evg hg37 rfl) rfl).vo) rfl ?_
        refine WO.val (PO.pickA rfl rfl rfl) rfl ?_
        refine WO.val (PO.move rfl) rfl ?_
        refine WO.guardT rfl rfl (fun hg38 => (PO.move rfl).vo) rfl ?_
        refine WO.guardT rfl rfl (fun hg39 => (PO.eql (evg hg39 rfl) rfl).vo) rfl ?_
        refine WO.val (PO.pickA rfl rfl rfl) rfl ?_
        refine WO.val (PO.move rfl) rfl ?_
        refine WO.guardT rfl rfl (fun hg40 => (PO.move rfl).vo) rfl ?_
        obtain ⟨x42, hx42, hs⟩ := lt_elim hs
        refine WO.guardT rfl rfl (fun hg41 => VO.call0 Tryz.call11 (evs_cons (evg hg41 rfl) evs_nil) (t_L_no hx42)) rfl ?_
        refine WO.guardT rfl rfl (fun hg43 => (PO.eql (evg hg43 rfl) rfl).vo) rfl ?_
        refine WO.val (PO.pickA rfl rfl rfl) rfl ?_
        refine WO.val (PO.assign rfl) rfl ?_
        refine WO.nil ?_
        refine WP.ret ?_
        obtain rfl := Option.some.inj hs
        exact ⟨_, (), _, _, rfl, Res.one (RV.tmp rfl), rfl, fun _ s => Sat.out [0, 1] rfl s⟩
      · replace hs := cond_f h31 hs
        refine WO.keep [(0, .bool false), (14, .tuple #[.pointer (some ⟨c3.1, 0, none⟩), c3.2.1, c3.2.2, .int .i64 0]), (13, .tuple #[.pointer (some ⟨c3.1, 0, none⟩), c3.2.1, c3.2.2, .int .i64 0]), (15, .pointer (some ⟨c3.1, 0, none⟩)), (16, c3.2.1), (17, c3.2.2), (18, .int .i64 0), (1, .pointer (some ⟨c3.1, 0, none⟩)), (2, c3.2.1), (3, c3.2.2), (4, .int .i64 0), (19, .int .i64 0), (20, .int .i64 x13), (21, .bool (x13 != 0)), (22, .bool (x13 != 0)), (23, gd (!(x13 != 0)) (.pointer (some ⟨c3.1, 0, none⟩))), (24, gd (!(x13 != 0)) (.bool false)), (25, .bool ((x13 != 0) || false)), (26, .bool ((x13 != 0) || false)), (27, gd (!((x13 != 0) || false)) (c3.2.1)), (28, gd (!((x13 != 0) || false)) (.int .i64 (x1.2.length : Int))), (29, gd (!((x13 != 0) || false)) (.bool ((x1.2.length : Int) != 2))), (30, .bool (((x13 != 0) || false) || ((x1.2.length : Int) != 2))), (32, .pointer (some ⟨c3.1, 0, none⟩)), (33, c3.2.1), (34, .agg #[.string (ByteArray.mk #[120]), .int .i64 8, .int .u64 200]), (35, .agg #[.string (ByteArray.mk #[121]), .int .i64 8, .int .u64 100]), (36, v20), (37, .tuple #[v22, .int .i64 x21.2]), (31, .tuple #[v22, .int .i64 x21.2]), (38, v22), (39, .int .i64 x21.2), (5, v22), (6, .int .i64 x21.2), (41, .pointer (some ⟨c3.1, 0, none⟩)), (42, c3.2.1), (43, .pointer (some ⟨blk c3.2.1, (1 : Int).toNat * 1 + 0, none⟩)), (44, .int .i64 x23), (45, .tuple #[.int .i64 x24.1, .int .u64 x24.2.1, .int .i64 x24.2.2.1, .int .i64 x24.2.2.2]), (40, .tuple #[.int .i64 x24.1, .int .u64 x24.2.1, .int .i64 x24.2.2.1, .int .i64 x24.2.2.2]), (46, .int .i64 x24.1), (47, .int .u64 x24.2.1), (48, .int .i64 x24.2.2.1), (49, .int .i64 x24.2.2.2), (7, .int .i64 x24.1), (8, .int .u64 x24.2.1), (9, .int .i64 x24.2.2.1), (10, .int .i64 x24.2.2.2), (51, .pointer (some ⟨c3.1, 0, none⟩)), (52, c3.2.1), (53, .pointer (some ⟨blk c3.2.1, (0 : Int).toNat * 1 + 0, none⟩)), (54, .int .i64 x25), (55, .agg #[.string (ByteArray.mk #[120]), .int .i64 4, .int .u64 1]), (56, (.slice (some ⟨b26, 0, none⟩) 1 1)), (57, .tuple #[.int .u64 x27.1, .int .i64 x27.2]), (50, .tuple #[.int .u64 x27.1, .int .i64 x27.2]), (58, .int .u64 x27.1), (59, .int .i64 x27.2), (11, .int .u64 x27.1), (12, .int .i64 x27.2), (60, .int .i64 x21.2), (61, .int .i64 x28), (62, .int .i64 x24.2.2.2), (63, .int .i64 x29), (64, .int .i64 (IntKind.i64.wrap (x28 + x29))), (65, .bool false), (66, .bool false)] ⟨rfl, rfl, rfl, rfl, rfl, rfl, rfl, rfl, rfl, rfl, rfl, rfl, rfl, rfl, rfl, rfl, rfl, rfl, rfl, rfl, rfl, rfl, rfl, rfl, rfl, rfl, rfl, rfl, rfl, rfl, rfl, rfl, rfl, rfl, rfl, rfl, rfl, rfl, rfl, rfl, rfl, rfl, rfl, rfl, rfl, rfl, rfl, rfl, rfl, rfl, rfl, rfl, rfl, rfl, rfl, rfl, rfl, rfl, rfl, rfl, rfl, rfl, rfl, rfl, rfl, (by rw [h31] <;> rfl), (by rw [h31] <;> rfl), trivial⟩ ?_
        refine WO.skipF rfl rfl rfl ?_
        refine WO.skipF rfl rfl rfl ?_
        refine WO.val (PO.pickF rfl rfl) rfl ?_
        refine WO.val (PO.move rfl) rfl ?_
        refine WO.skipF rfl rfl rfl ?_
        refine WO.skipF rfl rfl rfl ?_
        refine WO.val (PO.pickF rfl rfl) rfl ?_
        refine WO.val (PO.move rfl) rfl ?_
        refine WO.skipF rfl rfl rfl ?_
        refine WO.skipF rfl rfl rfl ?_
        refine WO.val (PO.pickF rfl rfl) rfl ?_
        refine WO.val (PO.move rfl) rfl ?_
        refine WO.skipF rfl rfl rfl ?_
        refine WO.skipF rfl rfl rfl ?_
        refine WO.val (PO.pickF rfl rfl) rfl ?_
        refine WO.val (PO.move rfl) rfl ?_
        refine WO.skipF rfl rfl rfl ?_
        refine WO.skipF rfl rfl rfl ?_
        refine WO.skipF rfl rfl rfl ?_
        refine WO.val (PO.pickF rfl rfl) rfl ?_
        refine WO.val (PO.assign rfl) rfl ?_
        refine WO.nil ?_
        refine WP.ret ?_
        obtain rfl := Option.some.inj hs
        exact ⟨_, (), _, _, rfl, Res.one (RV.tmp rfl), rfl, fun _ s => Sat.out [0, 1] rfl s⟩
attribute [irreducible] s_live

/- cadence/cadencelaw08.EvalFresh -/
def s_EvalFresh_l3 (k : Nat) (x3 : St × List Int) (x12 : ((List Vl) × Int)) (x20 : St × ((List Int) × Int)) (c25_1 : List Vl) : Nat → Int → (List Int) → Option (Bool)
  | 0, _, _ => none
  | c32_k + 1, c32_0, c32_1 =>
    cond (decide (c32_0 < (c32_1.length : Int)))
      ((getI c32_1 c32_0).bind fun x34 =>
      s_EvalFresh_l3 k x3 x12 x20 c25_1 c32_k (IntKind.i64.wrap (c32_0 + 1)) (c32_1.set c32_0.toNat (-1)))
      (if (c32_1.length + 1) * 8 ≤ 140737488355328 then ((s_Ev_Vars k x20.1 x3.2).bind fun x38 =>
      lt (s_L_no x38.2) fun x40 =>
      (opt (x40 == 0) (s_L_sameVars k x12.1 x12.1) false).bind fun x44 =>
      (opt ((x40 == 0) && x44) (s_L_sameVars k x38.1 x12.1) false).bind fun x48 =>
      (opt (((x40 == 0) && x44) && x48) (s_L_sameInts k x20.2.1 x3.2) false).bind fun x52 =>
      (opt ((((x40 == 0) && x44) && x48) && x52) (s_L_sameInts k x3.2 x3.2) false).bind fun x56 =>
      (opt (((((x40 == 0) && x44) && x48) && x52) && x56) (getI (c25_1 ++ [(⟨(ByteArray.mk #[121]), 0, 0⟩ : Vl)]) (IntKind.i64.wrap (((c25_1 ++ [(⟨(ByteArray.mk #[121]), 0, 0⟩ : Vl)]).length : Int) - 1))) ⟨(ByteArray.mk #[]), 0, 0⟩).bind fun x62 =>
      (opt ((((((x40 == 0) && x44) && x48) && x52) && x56) && (x62.Name.toList == (ByteArray.mk #[121]).toList)) (getI (c32_1 ++ [5]) (IntKind.i64.wrap (((c32_1 ++ [5]).length : Int) - 1))) 0).bind fun x71 =>
      some (((((((x40 == 0) && x44) && x48) && x52) && x56) && (x62.Name.toList == (ByteArray.mk #[121]).toList)) && (x71 == 5))) else none)
def s_EvalFresh_l1 (k : Nat) (x3 : St × List Int) (x12 : ((List Vl) × Int)) (x16 : St × ((List Int) × Int)) (x20 : St × ((List Int) × Int)) : Nat → Int → (List Vl) → Option (Bool)
  | 0, _, _ => none
  | c25_k + 1, c25_0, c25_1 =>
    cond (decide (c25_0 < (c25_1.length : Int)))
      ((getI c25_1 c25_0).bind fun x27 =>
      (getI (c25_1.set c25_0.toNat (⟨(ByteArray.mk #[120]), x27.W, x27.Num⟩ : Vl)) c25_0).bind fun x28 =>
      s_EvalFresh_l1 k x3 x12 x16 x20 c25_k (IntKind.i64.wrap (c25_0 + 1)) ((c25_1.set c25_0.toNat (⟨(ByteArray.mk #[120]), x27.W, x27.Num⟩ : Vl)).set c25_0.toNat (⟨x28.Name, (-1), x28.Num⟩ : Vl)))
      (if (c25_1.length + 1) * 32 ≤ 140737488355328 then (s_EvalFresh_l3 k x3 x12 x20 c25_1 k 0 x16.2.1) else none)
def s_EvalFresh (k : Nat) (String : ByteArray) : Option (Bool) :=
  (s_live k).bind fun x1 =>
  cond (!x1)
    (some false)
    (two (s_load k String)
      (fun q4 =>
        some true)
      (fun x3 =>
        if x3.2.length * 8 ≤ 140737488355328 then ((s_Ev_Vars k x3.1 x3.2).bind fun x10 =>
        (s_Ev_Vars k x3.1 x3.2).bind fun x12 =>
        (s_Ev_Put k x3.1 x3.2 ([] : List ByteArray) ([] : List Int)).bind fun x16 =>
        (s_Ev_Put k x16.1 x3.2 ([] : List ByteArray) ([] : List Int)).bind fun x20 =>
        if x12.1.length * 32 ≤ 140737488355328 then (s_EvalFresh_l1 k x3 x12 x16 x20 k 0 x10.1) else none) else none))
theorem t_EvalFresh [GlobFix] {k : Nat} {String : ByteArray} {r : Bool}
    (hs : s_EvalFresh k String = some r) :
    TriX Tryz.prog 3 [.string String] [gl] (.ok r) faultV (fun (a_ : Bool) (_ : Unit) => .bool a_) (fun a_ _ => [gl]) := by
  unfold s_EvalFresh at hs
  refine TriX.of Tryz.func3 rfl Tryz.ntmps3 Tryz.results3 rfl (fun w0 F => ?_)
  refine WP.seq ?_
  refine WP.region ?_
  refine WO.val (PO.assign rfl) rfl ?_
  refine WO.nil ?_
  refine WP.seq ?_
  refine WP.seq ?_
  refine WP.region ?_
  obtain ⟨x1, hx1, hs⟩ := bind_elim hs
  refine WO.step (SO.of rfl (EO.callX [0] Tryz.call7 rfl rfl (t_live hx1) (fun _ => ⟨rfl, trivial⟩))) rfl ?_
  rintro _ _ ⟨_, rfl, rfl⟩
  refine WO.toL [gl, F] rfl ?_
  refine WO.val (PO.not rfl) rfl ?_
  refine WO.nil ?_
  refine WP.cond rfl (fun h2 => ?_) (fun h2 => ?_)
  · replace hs := cond_t h2 hs
    refine WP.seq ?_
    refine WP.region ?_
    refine WO.val (PO.assign rfl) rfl ?_
    refine WO.nil ?_
    refine WP.ret ?_
    obtain rfl := Option.some.inj hs
    exact ⟨_, (), _, _, rfl, Res.one (RV.tmp rfl), rfl, fun _ s => Sat.out [0, 1] rfl s⟩
  · replace hs := cond_f h2 hs
    refine WP.skip ?_
    refine WP.seq ?_
    refine WP.region ?_
    refine WO.val (PO.move rfl) rfl ?_
    rcases two_elim hs with ⟨q4, hx3, hs⟩ | ⟨x3, hx3, hs⟩
    · refine WO.step (SO.of rfl (EO.callX [0] Tryz.call8 rfl rfl (t_load hx3) (fun _ => ⟨rfl, trivial⟩))) rfl ?_
      rintro _ _ ⟨c5, rfl, rfl⟩
      refine WO.toL [gl, F] rfl ?_
      refine WO.heap [gl, F, slc 3 1 (nils 6) ([] : List Int).length (fl ic ([] : List Int))] (fun _ s => s.addNil 3 1 6) ?_
      refine WO.val (PO.move rfl) rfl ?_
      refine WO.val (PO.extract rfl rfl) rfl ?_
      refine WO.val (PO.extract rfl rfl) rfl ?_
      refine WO.val (PO.extract rfl rfl) rfl ?_
      refine WO.val (PO.assign rfl) rfl ?_
      refine WO.val (PO.assign rfl) rfl ?_
      refine WO.val (PO.assign rfl) rfl ?_
      refine WO.nil ?_
      refine WP.seq ?_
      refine WP.seq ?_
      refine WP.region ?_
      refine WO.val (PO.move rfl) rfl ?_
      refine WO.val (PO.not rfl) rfl ?_
      refine WO.nil ?_
      refine WP.condT rfl ?_
      refine WP.seq ?_
      refine WP.region ?_
      refine WO.val (PO.assign rfl) rfl ?_
      refine WO.nil ?_
      refine WP.ret ?_
      obtain rfl := Option.some.inj hs
      exact ⟨_, (), _, _, rfl, Res.one (RV.tmp rfl), rfl, fun _ s => Sat.out [0, 1] rfl s⟩
    · refine WO.step (SO.of rfl (EO.callX [0] Tryz.call8 rfl rfl (t_load hx3) (fun _ => ⟨rfl, trivial⟩))) rfl ?_
      rintro _ _ ⟨c5, rfl, rfl⟩
      refine WO.toL [gl, F, stAt c5.1 x3.1, slc 3 1 c5.2 x3.2.length (fl ic x3.2)] rfl ?_
      refine WO.val (PO.move rfl) rfl ?_
      refine WO.val (PO.extract rfl rfl) rfl ?_
      refine WO.val (PO.extract rfl rfl) rfl ?_
      refine WO.val (PO.extract rfl rfl) rfl ?_
      refine WO.val (PO.assign rfl) rfl ?_
      refine WO.val (PO.assign rfl) rfl ?_
      refine WO.val (PO.assign rfl) rfl ?_
      refine WO.nil ?_
      refine WP.seq ?_
      refine WP.seq ?_
      refine WP.region ?_
      refine WO.val (PO.move rfl) rfl ?_
      refine WO.val (PO.not rfl) rfl ?_
      refine WO.nil ?_
      refine WP.condF rfl ?_
      refine WP.skip ?_
      refine WP.seq ?_
      refine WP.region ?_
      refine WO.step (SO.of rfl (EO.buildSlice0 Tryz.runUnderlying24 Tryz.sizeOf3)) rfl ?_
      rintro _ _ ⟨b7, rfl, rfl⟩
      refine WO.toL [gl, F, stAt c5.1 x3.1, slc 3 1 c5.2 x3.2.length (fl ic x3.2), pt b7 (.cells #[] 3 (0, 0))] rfl ?_
      refine WO.val (PO.move rfl) rfl ?_
      obtain ⟨hc8, hs⟩ := check_elim hs
      refine WO.step (SO.of rfl (EO.append0 (c := ic) 4 3 (fun _ => rfl) Tryz.typeInfo3 rfl rfl rfl rfl Tryz.underlying24 rfl rfl rfl rfl rfl rfl hc8)) rfl ?_
      rintro v9 _ rfl
      refine WO.toL [gl, F, stAt c5.1 x3.1, slc 3 1 c5.2 x3.2.length (fl ic x3.2), slc 3 1 v9 x3.2.length (fl ic x3.2)] rfl ?_
      refine WO.val (PO.assign rfl) rfl ?_
      refine WO.nil ?_
      refine WP.seq ?_
      refine WP.region ?_
      refine WO.val (PO.move rfl) rfl ?_
      refine WO.val (PO.move rfl) rfl ?_
      obtain ⟨x10, hx10, hs⟩ := bind_elim hs
      refine WO.step (SO.of rfl (EO.callX [2, 4] Tryz.call9 rfl rfl (t_Ev_Vars hx10) (fun _ => ⟨rfl, rfl, trivial⟩))) rfl ?_
      rintro _ _ ⟨v11, rfl, rfl⟩
      refine WO.toL [gl, F, stAt c5.1 x3.1, slc 3 1 c5.2 x3.2.length (fl ic x3.2), slc 3 1 v9 x3.2.length (fl ic x3.2), slc 35 3 v11 x10.1.length (fl Vl.cells x10.1)] rfl ?_
      refine WO.val (PO.move rfl) rfl ?_
      refine WO.val (PO.extract rfl rfl) rfl ?_
      refine WO.val (PO.extract rfl rfl) rfl ?_
      refine WO.val (PO.assign rfl) rfl ?_
      refine WO.val (PO.assign rfl) rfl ?_
      refine WO.nil ?_
      refine WP.seq ?_
      refine WP.region ?_
      refine WO.val (PO.move rfl) rfl ?_
      refine WO.val (PO.move rfl) rfl ?_
      obtain ⟨x12, hx12, hs⟩ := bind_elim hs
      refine WO.step (SO.of rfl (EO.callX [2, 4] Tryz.call9 rfl rfl (t_Ev_Vars hx12) (fun _ => ⟨rfl, rfl, trivial⟩))) rfl ?_
      rintro _ _ ⟨v13, rfl, rfl⟩
      refine WO.toL [gl, F, stAt c5.1 x3.1, slc 3 1 c5.2 x3.2.length (fl ic x3.2), slc 3 1 v9 x3.2.length (fl ic x3.2), slc 35 3 v11 x10.1.length (fl Vl.cells x10.1), slc 35 3 v13 x12.1.length (fl Vl.cells x12.1)] rfl ?_
      refine WO.val (PO.move rfl) rfl ?_
      refine WO.val (PO.extract rfl rfl) rfl ?_
      refine WO.val (PO.extract rfl rfl) rfl ?_
      refine WO.val (PO.assign rfl) rfl ?_
      refine WO.val (PO.assign rfl) rfl ?_
      refine WO.nil ?_
      refine WP.seq ?_
      refine WP.region ?_
      refine WO.val (PO.move rfl) rfl ?_
      refine WO.val (PO.move rfl) rfl ?_
      refine WO.heap [gl, F, stAt c5.1 x3.1, slc 3 1 c5.2 x3.2.length (fl ic x3.2), slc 3 1 v9 x3.2.length (fl ic x3.2), slc 35 3 v11 x10.1.length (fl Vl.cells x10.1), slc 35 3 v13 x12.1.length (fl Vl.cells x12.1), slc 9 1 (nils 14) ([] : List ByteArray).length (fl sc ([] : List ByteArray))] (fun _ s => s.addNil 9 1 14) ?_
      refine WO.heap [gl, F, stAt c5.1 x3.1, slc 3 1 c5.2 x3.2.length (fl ic x3.2), slc 3 1 v9 x3.2.length (fl ic x3.2), slc 35 3 v11 x10.1.length (fl Vl.cells x10.1), slc 35 3 v13 x12.1.length (fl Vl.cells x12.1), slc 9 1 (nils 14) ([] : List ByteArray).length (fl sc ([] : List ByteArray)), slc 3 1 (nils 15) ([] : List Int).length (fl ic ([] : List Int))] (fun _ s => s.addNil 3 1 15) ?_
      obtain ⟨x16, hx16, hs⟩ := bind_elim hs
      refine WO.step (SO.of rfl (EO.callX [2, 4, 7, 8] Tryz.call10 rfl rfl (t_Ev_Put hx16) (fun _ => ⟨rfl, rfl, rfl, rfl, trivial⟩))) rfl ?_
      rintro _ _ ⟨v17, rfl, rfl⟩
      refine WO.toL [gl, F, stAt c5.1 x16.1, slc 3 1 c5.2 x3.2.length (fl ic x3.2), slc 3 1 v9 x3.2.length (fl ic x3.2), slc 35 3 v11 x10.1.length (fl Vl.cells x10.1), slc 35 3 v13 x12.1.length (fl Vl.cells x12.1), slc 9 1 (nils 14) ([] : List ByteArray).length (fl sc ([] : List ByteArray)), slc 3 1 (nils 15) ([] : List Int).length (fl ic ([] : List Int)), slc 3 1 v17 x16.2.1.length (fl ic x16.2.1)] rfl ?_
      refine WO.val (PO.move rfl) rfl ?_
      refine WO.val (PO.extract rfl rfl) rfl ?_
      refine WO.val (PO.extract rfl rfl) rfl ?_
      refine WO.val (PO.assign rfl) rfl ?_
      refine WO.val (PO.assign rfl) rfl ?_
      refine WO.nil ?_
      refine WP.seq ?_
      refine WP.region ?_
      refine WO.val (PO.move rfl) rfl ?_
      refine WO.val (PO.move rfl) rfl ?_
      refine WO.heap [gl, F, stAt c5.1 x16.1, slc 3 1 c5.2 x3.2.length (fl ic x3.2), slc 3 1 v9 x3.2.length (fl ic x3.2), slc 35 3 v11 x10.1.length (fl Vl.cells x10.1), slc 35 3 v13 x12.1.length (fl Vl.cells x12.1), slc 9 1 (nils 14) ([] : List ByteArray).length (fl sc ([] : List ByteArray)), slc 3 1 (nils 15) ([] : List Int).length (fl ic ([] : List Int)), slc 3 1 v17 x16.2.1.length (fl ic x16.2.1), slc 9 1 (nils 18) ([] : List ByteArray).length (fl sc ([] : List ByteArray))] (fun _ s => s.addNil 9 1 18) ?_
      refine WO.heap [gl, F, stAt c5.1 x16.1, slc 3 1 c5.2 x3.2.length (fl ic x3.2), slc 3 1 v9 x3.2.length (fl ic x3.2), slc 35 3 v11 x10.1.length (fl Vl.cells x10.1), slc 35 3 v13 x12.1.length (fl Vl.cells x12.1), slc 9 1 (nils 14) ([] : List ByteArray).length (fl sc ([] : List ByteArray)), slc 3 1 (nils 15) ([] : List Int).length (fl ic ([] : List Int)), slc 3 1 v17 x16.2.1.length (fl ic x16.2.1), slc 9 1 (nils 18) ([] : List ByteArray).length (fl sc ([] : List ByteArray)), slc 3 1 (nils 19) ([] : List Int).length (fl ic ([] : List Int))] (fun _ s => s.addNil 3 1 19) ?_
      obtain ⟨x20, hx20, hs⟩ := bind_elim hs
      refine WO.step (SO.of rfl (EO.callX [2, 4, 10, 11] Tryz.call10 rfl rfl (t_Ev_Put hx20) (fun _ => ⟨rfl, rfl, rfl, rfl, trivial⟩))) rfl ?_
      rintro _ _ ⟨v21, rfl, rfl⟩
      refine WO.toL [gl, F, stAt c5.1 x20.1, slc 3 1 c5.2 x3.2.length (fl ic x3.2), slc 3 1 v9 x3.2.length (fl ic x3.2), slc 35 3 v11 x10.1.length (fl Vl.cells x10.1), slc 35 3 v13 x12.1.length (fl Vl.cells x12.1), slc 9 1 (nils 14) ([] : List ByteArray).length (fl sc ([] : List ByteArray)), slc 3 1 (nils 15) ([] : List Int).length (fl ic ([] : List Int)), slc 3 1 v17 x16.2.1.length (fl ic x16.2.1), slc 9 1 (nils 18) ([] : List ByteArray).length (fl sc ([] : List ByteArray)), slc 3 1 (nils 19) ([] : List Int).length (fl ic ([] : List Int)), slc 3 1 v21 x20.2.1.length (fl ic x20.2.1)] rfl ?_
      refine WO.val (PO.move rfl) rfl ?_
      refine WO.val (PO.extract rfl rfl) rfl ?_
      refine WO.val (PO.extract rfl rfl) rfl ?_
      refine WO.val (PO.assign rfl) rfl ?_
      refine WO.val (PO.assign rfl) rfl ?_
      refine WO.nil ?_
      refine WP.seq ?_
      refine WP.region ?_
      refine WO.step (SO.of rfl (EO.buildSlice0 Tryz.runUnderlying27 Tryz.sizeOf35)) rfl ?_
      rintro _ _ ⟨b22, rfl, rfl⟩
      refine WO.toL [gl, F, stAt c5.1 x20.1, slc 3 1 c5.2 x3.2.length (fl ic x3.2), slc 3 1 v9 x3.2.length (fl ic x3.2), slc 35 3 v11 x10.1.length (fl Vl.cells x10.1), slc 35 3 v13 x12.1.length (fl Vl.cells x12.1), slc 9 1 (nils 14) ([] : List ByteArray).length (fl sc ([] : List ByteArray)), slc 3 1 (nils 15) ([] : List Int).length (fl ic ([] : List Int)), slc 3 1 v17 x16.2.1.length (fl ic x16.2.1), slc 9 1 (nils 18) ([] : List ByteArray).length (fl sc ([] : List ByteArray)), slc 3 1 (nils 19) ([] : List Int).length (fl ic ([] : List Int)), slc 3 1 v21 x20.2.1.length (fl ic x20.2.1), pt b22 (.cells #[] 35 (0, 0))] rfl ?_
      refine WO.val (PO.move rfl) rfl ?_
      obtain ⟨hc23, hs⟩ := check_elim hs
      refine WO.step (SO.of rfl (EO.append0 (c := Vl.cells) 13 6 (fun _ => rfl) Tryz.typeInfo35 rfl rfl rfl rfl Tryz.underlying27 rfl rfl rfl rfl rfl rfl hc23)) rfl ?_
      rintro v24 _ rfl
      refine WO.toL [gl, F, stAt c5.1 x20.1, slc 3 1 c5.2 x3.2.length (fl ic x3.2), slc 3 1 v9 x3.2.length (fl ic x3.2), slc 35 3 v11 x10.1.length (fl Vl.cells x10.1), slc 35 3 v13 x12.1.length (fl Vl.cells x12.1), slc 9 1 (nils 14) ([] : List ByteArray).length (fl sc ([] : List ByteArray)), slc 3 1 (nils 15) ([] : List Int).length (fl ic ([] : List Int)), slc 3 1 v17 x16.2.1.length (fl ic x16.2.1), slc 9 1 (nils 18) ([] : List ByteArray).length (fl sc ([] : List ByteArray)), slc 3 1 (nils 19) ([] : List Int).length (fl ic ([] : List Int)), slc 3 1 v21 x20.2.1.length (fl ic x20.2.1), slc 35 3 v24 x12.1.length (fl Vl.cells x12.1)] rfl ?_
      refine WO.val (PO.assign rfl) rfl ?_
      refine WO.nil ?_
      refine WP.seq ?_
      refine WP.seq ?_
      refine WP.region ?_
      refine WO.val (PO.assign rfl) rfl ?_
      refine WO.nil ?_
      refine WP.block ?_
      refine WP.loopG (fun c25_k f_ L_ => ∃ (c25_0 : Int) (c25_1 : List Vl), Holds f_ [(2, .bool false), (3, .pointer (some ⟨c5.1, 0, none⟩)), (4, c5.2), (6, v9), (7, v11), (9, v13), (11, v17), (13, v21), (15, v24), (16, .int .i64 c25_0)] ∧ L_ = [gl, F, stAt c5.1 x20.1, slc 3 1 c5.2 x3.2.length (fl ic x3.2), slc 3 1 v9 x3.2.length (fl ic x3.2), slc 35 3 v11 c25_1.length (fl Vl.cells c25_1), slc 35 3 v13 x12.1.length (fl Vl.cells x12.1), slc 9 1 (nils 14) ([] : List ByteArray).length (fl sc ([] : List ByteArray)), slc 3 1 (nils 15) ([] : List Int).length (fl ic ([] : List Int)), slc 3 1 v17 x16.2.1.length (fl ic x16.2.1), slc 9 1 (nils 18) ([] : List ByteArray).length (fl sc ([] : List ByteArray)), slc 3 1 (nils 19) ([] : List Int).length (fl ic ([] : List Int)), slc 3 1 v21 x20.2.1.length (fl ic x20.2.1), slc 35 3 v24 x12.1.length (fl Vl.cells x12.1)] ∧ s_EvalFresh_l1 k x3 x12 x16 x20 c25_k c25_0 c25_1 = some r) k ⟨0, x10.1, ⟨rfl, rfl, rfl, rfl, rfl, rfl, rfl, rfl, rfl, rfl, trivial⟩, rfl, hs⟩ ?_
      rintro c25_k f_ L_ ⟨c25_0, c25_1, hf_, rfl, hs⟩
      refine WP.keep [(2, .bool false), (3, .pointer (some ⟨c5.1, 0, none⟩)), (4, c5.2), (6, v9), (7, v11), (9, v13), (11, v17), (13, v21), (15, v24), (16, .int .i64 c25_0)] hf_ ?_
      cases c25_k with
      | zero => exact nomatch (show none = some r from hs)
      | succ c25_k =>
        rw [s_EvalFresh_l1.eq_2] at hs
        refine WP.seq ?_
        refine WP.seq ?_
        refine WP.region ?_
        refine WO.val (PO.move rfl) rfl ?_
        refine WO.val (PO.move rfl) rfl ?_
        refine WO.val (PO.lenL 5 rfl Tryz.runUnderlying27 rfl) rfl ?_
        refine WO.val (PO.lss rfl rfl) rfl ?_
        refine WO.nil ?_
        refine WP.cond rfl (fun h26 => ?_) (fun h26 => ?_)
        · replace hs := cond_t h26 hs
          refine WP.skip ?_
          refine WP.seq ?_
          refine WP.block ?_
          refine WP.seq ?_
          refine WP.region ?_
          refine WO.val (PO.move rfl) rfl ?_
          refine WO.val (PO.move rfl) rfl ?_
          obtain ⟨x27, hx27, hs⟩ := bind_elim hs
          refine WO.val (PO.idxL 5 rfl rfl Tryz.runUnderlying27 Tryz.sizeOf35 rfl hx27) rfl ?_
          refine WO.val (PO.fieldAddr rfl Tryz.runUnderlying35 rfl Tryz.sizeOf9 rfl) rfl ?_
          refine WO.step (SO.of rfl (EO.storeI (c := Vl.cells) (a' := (⟨(ByteArray.mk #[120]), x27.W, x27.Num⟩ : Vl)) (j := 0) 5 (fun _ => rfl) rfl rfl Tryz.sizeOf9 rfl hx27 rfl rfl rfl rfl)) rfl ?_
          rintro _ _ rfl
          refine WO.toL [gl, F, stAt c5.1 x20.1, slc 3 1 c5.2 x3.2.length (fl ic x3.2), slc 3 1 v9 x3.2.length (fl ic x3.2), slc 35 3 v11 (c25_1.set c25_0.toNat (⟨(ByteArray.mk #[120]), x27.W, x27.Num⟩ : Vl)).length (fl Vl.cells (c25_1.set c25_0.toNat (⟨(ByteArray.mk #[120]), x27.W, x27.Num⟩ : Vl))), slc 35 3 v13 x12.1.length (fl Vl.cells x12.1), slc 9 1 (nils 14) ([] : List ByteArray).length (fl sc ([] : List ByteArray)), slc 3 1 (nils 15) ([] : List Int).length (fl ic ([] : List Int)), slc 3 1 v17 x16.2.1.length (fl ic x16.2.1), slc 9 1 (nils 18) ([] : List ByteArray).length (fl sc ([] : List ByteArray)), slc 3 1 (nils 19) ([] : List Int).length (fl ic ([] : List Int)), slc 3 1 v21 x20.2.1.length (fl ic x20.2.1), slc 35 3 v24 x12.1.length (fl Vl.cells x12.1)] rfl ?_
          refine WO.nil ?_
          refine WP.region ?_
          refine WO.val (PO.move rfl) rfl ?_
          refine WO.val (PO.move rfl) rfl ?_
          obtain ⟨x28, hx28, hs⟩ := bind_elim hs
          refine WO.val (PO.idxL 5 rfl rfl Tryz.runUnderlying27 Tryz.sizeOf35 rfl hx28) rfl ?_
          refine WO.val (PO.fieldAddr rfl Tryz.runUnderlying35 rfl Tryz.sizeOf3 rfl) rfl ?_
          refine WO.step (SO.of rfl (EO.storeI (c := Vl.cells) (a' := (⟨x28.Name, (-1), x28.Num⟩ : Vl)) (j := 1) 5 (fun _ => rfl) rfl rfl Tryz.sizeOf3 rfl hx28 rfl rfl rfl rfl)) rfl ?_
          rintro _ _ rfl
          refine WO.toL [gl, F, stAt c5.1 x20.1, slc 3 1 c5.2 x3.2.length (fl ic x3.2), slc 3 1 v9 x3.2.length (fl ic x3.2), slc 35 3 v11 ((c25_1.set c25_0.toNat (⟨(ByteArray.mk #[120]), x27.W, x27.Num⟩ : Vl)).set c25_0.toNat (⟨x28.Name, (-1), x28.Num⟩ : Vl)).length (fl Vl.cells ((c25_1.set c25_0.toNat (⟨(ByteArray.mk #[120]), x27.W, x27.Num⟩ : Vl)).set c25_0.toNat (⟨x28.Name, (-1), x28.Num⟩ : Vl))), slc 35 3 v13 x12.1.length (fl Vl.cells x12.1), slc 9 1 (nils 14) ([] : List ByteArray).length (fl sc ([] : List ByteArray)), slc 3 1 (nils 15) ([] : List Int).length (fl ic ([] : List Int)), slc 3 1 v17 x16.2.1.length (fl ic x16.2.1), slc 9 1 (nils 18) ([] : List ByteArray).length (fl sc ([] : List ByteArray)), slc 3 1 (nils 19) ([] : List Int).length (fl ic ([] : List Int)), slc 3 1 v21 x20.2.1.length (fl ic x20.2.1), slc 35 3 v24 x12.1.length (fl Vl.cells x12.1)] rfl ?_
          refine WO.nil ?_
          refine WP.region ?_
          refine WO.val (PO.move rfl) rfl ?_
          refine WO.val (PO.add rfl rfl) rfl ?_
          refine WO.val (PO.assign rfl) rfl ?_
          refine WO.nil ?_
          exact ⟨c25_k, _, Nat.lt_succ_self _, ⟨(IntKind.i64.wrap (c25_0 + 1)), ((c25_1.set c25_0.toNat (⟨(ByteArray.mk #[120]), x27.W, x27.Num⟩ : Vl)).set c25_0.toNat (⟨x28.Name, (-1), x28.Num⟩ : Vl)), ⟨rfl, rfl, rfl, rfl, rfl, rfl, rfl, rfl, rfl, rfl, trivial⟩, rfl, hs⟩, fun _ s => s.pre⟩
        · replace hs := cond_f h26 hs
          refine WP.exit (inX.hit ?_)
          refine WP.seq ?_
          refine WP.region ?_
          refine WO.val (PO.move rfl) rfl ?_
          refine WO.val (PO.build (v := .agg #[.string (ByteArray.mk #[121]), .int .i64 0, .int .u64 0]) rfl (fun w => by simp [Instr.build, Instr.fill, Value.cells, addr_add', Tryz.zeroValue35, Tryz.runUnderlying35, Tryz.sizeOf3, Tryz.sizeOf9, Tryz.sizeOf33])) rfl ?_
          refine WO.step (SO.of rfl (EO.buildSlice1 rfl Tryz.runUnderlying27 Tryz.sizeOf35 Tryz.zeroValue35 rfl rfl rfl rfl)) rfl ?_
          rintro _ _ ⟨b29, rfl, rfl⟩
          refine WO.toL [gl, F, stAt c5.1 x20.1, slc 3 1 c5.2 x3.2.length (fl ic x3.2), slc 3 1 v9 x3.2.length (fl ic x3.2), slc 35 3 v11 c25_1.length (fl Vl.cells c25_1), slc 35 3 v13 x12.1.length (fl Vl.cells x12.1), slc 9 1 (nils 14) ([] : List ByteArray).length (fl sc ([] : List ByteArray)), slc 3 1 (nils 15) ([] : List Int).length (fl ic ([] : List Int)), slc 3 1 v17 x16.2.1.length (fl ic x16.2.1), slc 9 1 (nils 18) ([] : List ByteArray).length (fl sc ([] : List ByteArray)), slc 3 1 (nils 19) ([] : List Int).length (fl ic ([] : List Int)), slc 3 1 v21 x20.2.1.length (fl ic x20.2.1), slc 35 3 v24 x12.1.length (fl Vl.cells x12.1), pt b29 (.cells #[.string (ByteArray.mk #[121]), .int .i64 0, .int .u64 0] 35 (0, 0))] rfl ?_
          obtain ⟨hc30, hs⟩ := check_elim hs
          refine WO.step (SO.of rfl (EO.appendL (c := Vl.cells) (a := (⟨(ByteArray.mk #[121]), 0, 0⟩ : Vl)) 5 14 (fun _ => rfl) Tryz.typeInfo35 rfl rfl rfl rfl Tryz.runUnderlying27 Tryz.underlying27 rfl rfl rfl rfl rfl rfl rfl rfl hc30)) rfl ?_
          rintro v31 _ rfl
          refine WO.toL [gl, F, stAt c5.1 x20.1, slc 3 1 c5.2 x3.2.length (fl ic x3.2), slc 3 1 v9 x3.2.length (fl ic x3.2), slc 35 3 v31 (c25_1 ++ [(⟨(ByteArray.mk #[121]), 0, 0⟩ : Vl)]).length (fl Vl.cells (c25_1 ++ [(⟨(ByteArray.mk #[121]), 0, 0⟩ : Vl)])), slc 35 3 v13 x12.1.length (fl Vl.cells x12.1), slc 9 1 (nils 14) ([] : List ByteArray).length (fl sc ([] : List ByteArray)), slc 3 1 (nils 15) ([] : List Int).length (fl ic ([] : List Int)), slc 3 1 v17 x16.2.1.length (fl ic x16.2.1), slc 9 1 (nils 18) ([] : List ByteArray).length (fl sc ([] : List ByteArray)), slc 3 1 (nils 19) ([] : List Int).length (fl ic ([] : List Int)), slc 3 1 v21 x20.2.1.length (fl ic x20.2.1), slc 35 3 v24 x12.1.length (fl Vl.cells x12.1), pt b29 (.cells #[.string (ByteArray.mk #[121]), .int .i64 0, .int .u64 0] 35 (0, 0))] rfl ?_
          refine WO.val (PO.assign rfl) rfl ?_
          refine WO.nil ?_
          refine WP.seq ?_
          refine WP.seq ?_
          refine WP.region ?_
          refine WO.val (PO.assign rfl) rfl ?_
          refine WO.nil ?_
          refine WP.block ?_
          refine WP.loopG (fun c32_k f_ L_ => ∃ (c32_0 : Int) (c32_1 : List Int), Holds f_ [(2, .bool false), (3, .pointer (some ⟨c5.1, 0, none⟩)), (4, c5.2), (6, v9), (7, v31), (9, v13), (11, v17), (13, v21), (15, v24), (17, .int .i64 c32_0)] ∧ L_ = [gl, F, stAt c5.1 x20.1, slc 3 1 c5.2 x3.2.length (fl ic x3.2), slc 3 1 v9 x3.2.length (fl ic x3.2), slc 35 3 v31 (c25_1 ++ [(⟨(ByteArray.mk #[121]), 0, 0⟩ : Vl)]).length (fl Vl.cells (c25_1 ++ [(⟨(ByteArray.mk #[121]), 0, 0⟩ : Vl)])), slc 35 3 v13 x12.1.length (fl Vl.cells x12.1), slc 9 1 (nils 14) ([] : List ByteArray).length (fl sc ([] : List ByteArray)), slc 3 1 (nils 15) ([] : List Int).length (fl ic ([] : List Int)), slc 3 1 v17 c32_1.length (fl ic c32_1), slc 9 1 (nils 18) ([] : List ByteArray).length (fl sc ([] : List ByteArray)), slc 3 1 (nils 19) ([] : List Int).length (fl ic ([] : List Int)), slc 3 1 v21 x20.2.1.length (fl ic x20.2.1), slc 35 3 v24 x12.1.length (fl Vl.cells x12.1), pt b29 (.cells #[.string (ByteArray.mk #[121]), .int .i64 0, .int .u64 0] 35 (0, 0))] ∧ s_EvalFresh_l3 k x3 x12 x20 c25_1 c32_k c32_0 c32_1 = some r) k ⟨0, x16.2.1, ⟨rfl, rfl, rfl, rfl, rfl, rfl, rfl, rfl, rfl, rfl, trivial⟩, rfl, hs⟩ ?_
          rintro c32_k f_ L_ ⟨c32_0, c32_1, hf_, rfl, hs⟩
          refine WP.keep [(2, .bool false), (3, .pointer (some ⟨c5.1, 0, none⟩)), (4, c5.2), (6, v9), (7, v31), (9, v13), (11, v17), (13, v21), (15, v24), (17, .int .i64 c32_0)] hf_ ?_
          cases c32_k with
          | zero => exact nomatch (show none = some r from hs)
          | succ c32_k =>
            rw [s_EvalFresh_l3.eq_2] at hs
            refine WP.seq ?_
            refine WP.seq ?_
            refine WP.region ?_
            refine WO.val (PO.move rfl) rfl ?_
            refine WO.val (PO.move rfl) rfl ?_
            refine WO.val (PO.lenL 9 rfl Tryz.runUnderlying24 rfl) rfl ?_
            refine WO.val (PO.lss rfl rfl) rfl ?_
            refine WO.nil ?_
            refine WP.cond rfl (fun h33 => ?_) (fun h33 => ?_)
            · replace hs := cond_t h33 hs
              refine WP.skip ?_
              refine WP.seq ?_
              refine WP.block ?_
              refine WP.region ?_
              refine WO.val (PO.move rfl) rfl ?_
              refine WO.val (PO.move rfl) rfl ?_
              obtain ⟨x34, hx34, hs⟩ := bind_elim hs
              refine WO.val (PO.idxL 9 rfl rfl Tryz.runUnderlying24 Tryz.sizeOf3 rfl hx34) rfl ?_
              refine WO.step (SO.of rfl (EO.storeI (c := ic) (a' := (-1)) (j := 0) 9 (fun _ => rfl) rfl rfl Tryz.sizeOf3 rfl hx34 rfl rfl rfl rfl)) rfl ?_
              rintro _ _ rfl
              refine WO.toL [gl, F, stAt c5.1 x20.1, slc 3 1 c5.2 x3.2.length (fl ic x3.2), slc 3 1 v9 x3.2.length (fl ic x3.2), slc 35 3 v31 (c25_1 ++ [(⟨(ByteArray.mk #[121]), 0, 0⟩ : Vl)]).length (fl Vl.cells (c25_1 ++ [(⟨(ByteArray.mk #[121]), 0, 0⟩ : Vl)])), slc 35 3 v13 x12.1.length (fl Vl.cells x12.1), slc 9 1 (nils 14) ([] : List ByteArray).length (fl sc ([] : List ByteArray)), slc 3 1 (nils 15) ([] : List Int).length (fl ic ([] : List Int)), slc 3 1 v17 (c32_1.set c32_0.toNat (-1)).length (fl ic (c32_1.set c32_0.toNat (-1))), slc 9 1 (nils 18) ([] : List ByteArray).length (fl sc ([] : List ByteArray)), slc 3 1 (nils 19) ([] : List Int).length (fl ic ([] : List Int)), slc 3 1 v21 x20.2.1.length (fl ic x20.2.1), slc 35 3 v24 x12.1.length (fl Vl.cells x12.1), pt b29 (.cells #[.string (ByteArray.mk #[121]), .int .i64 0, .int .u64 0] 35 (0, 0))] rfl ?_
              refine WO.nil ?_
              refine WP.region ?_
              refine WO.val (PO.move rfl) rfl ?_
              refine WO.val (PO.add rfl rfl) rfl ?_
              refine WO.val (PO.assign rfl) rfl ?_
              refine WO.nil ?_
              exact ⟨c32_k, _, Nat.lt_succ_self _, ⟨(IntKind.i64.wrap (c32_0 + 1)), (c32_1.set c32_0.toNat (-1)), ⟨rfl, rfl, rfl, rfl, rfl, rfl, rfl, rfl, rfl, rfl, trivial⟩, rfl, hs⟩, fun _ s => s.pre⟩
            · replace hs := cond_f h33 hs
              refine WP.exit (inX.hit ?_)
              refine WP.seq ?_
              refine WP.region ?_
              refine WO.val (PO.move rfl) rfl ?_
              refine WO.step (SO.of rfl (EO.buildSlice1 rfl Tryz.runUnderlying24 Tryz.sizeOf3 Tryz.zeroValue3 rfl rfl rfl rfl)) rfl ?_
              rintro _ _ ⟨b35, rfl, rfl⟩
              refine WO.toL [gl, F, stAt c5.1 x20.1, slc 3 1 c5.2 x3.2.length (fl ic x3.2), slc 3 1 v9 x3.2.length (fl ic x3.2), slc 35 3 v31 (c25_1 ++ [(⟨(ByteArray.mk #[121]), 0, 0⟩ : Vl)]).length (fl Vl.cells (c25_1 ++ [(⟨(ByteArray.mk #[121]), 0, 0⟩ : Vl)])), slc 35 3 v13 x12.1.length (fl Vl.cells x12.1), slc 9 1 (nils 14) ([] : List ByteArray).length (fl sc ([] : List ByteArray)), slc 3 1 (nils 15) ([] : List Int).length (fl ic ([] : List Int)), slc 3 1 v17 c32_1.length (fl ic c32_1), slc 9 1 (nils 18) ([] : List ByteArray).length (fl sc ([] : List ByteArray)), slc 3 1 (nils 19) ([] : List Int).length (fl ic ([] : List Int)), slc 3 1 v21 x20.2.1.length (fl ic x20.2.1), slc 35 3 v24 x12.1.length (fl Vl.cells x12.1), pt b29 (.cells #[.string (ByteArray.mk #[121]), .int .i64 0, .int .u64 0] 35 (0, 0)), pt b35 (.cells #[.int .i64 5] 3 (0, 0))] rfl ?_
              obtain ⟨hc36, hs⟩ := check_elim hs
              refine WO.step (SO.of rfl (EO.appendL (c := ic) (a := 5) 9 15 (fun _ => rfl) Tryz.typeInfo3 rfl rfl rfl rfl Tryz.runUnderlying24 Tryz.underlying24 rfl rfl rfl rfl rfl rfl rfl rfl hc36)) rfl ?_
              rintro v37 _ rfl
              refine WO.toL [gl, F, stAt c5.1 x20.1, slc 3 1 c5.2 x3.2.length (fl ic x3.2), slc 3 1 v9 x3.2.length (fl ic x3.2), slc 35 3 v31 (c25_1 ++ [(⟨(ByteArray.mk #[121]), 0, 0⟩ : Vl)]).length (fl Vl.cells (c25_1 ++ [(⟨(ByteArray.mk #[121]), 0, 0⟩ : Vl)])), slc 35 3 v13 x12.1.length (fl Vl.cells x12.1), slc 9 1 (nils 14) ([] : List ByteArray).length (fl sc ([] : List ByteArray)), slc 3 1 (nils 15) ([] : List Int).length (fl ic ([] : List Int)), slc 3 1 v37 (c32_1 ++ [5]).length (fl ic (c32_1 ++ [5])), slc 9 1 (nils 18) ([] : List ByteArray).length (fl sc ([] : List ByteArray)), slc 3 1 (nils 19) ([] : List Int).length (fl ic ([] : List Int)), slc 3 1 v21 x20.2.1.length (fl ic x20.2.1), slc 35 3 v24 x12.1.length (fl Vl.cells x12.1), pt b29 (.cells #[.string (ByteArray.mk #[121]), .int .i64 0, .int .u64 0] 35 (0, 0)), pt b35 (.cells #[.int .i64 5] 3 (0, 0))] rfl ?_
              refine WO.val (PO.assign rfl) rfl ?_
              refine WO.nil ?_
              refine WP.seq ?_
              refine WP.region ?_
              refine WO.val (PO.move rfl) rfl ?_
              refine WO.val (PO.move rfl) rfl ?_
              obtain ⟨x38, hx38, hs⟩ := bind_elim hs
              refine WO.step (SO.of rfl (EO.callX [2, 4] Tryz.call9 rfl rfl (t_Ev_Vars hx38) (fun _ => ⟨rfl, rfl, trivial⟩))) rfl ?_
              rintro _ _ ⟨v39, rfl, rfl⟩
              refine WO.toL [gl, F, stAt c5.1 x20.1, slc 3 1 c5.2 x3.2.length (fl ic x3.2), slc 3 1 v9 x3.2.length (fl ic x3.2), slc 35 3 v31 (c25_1 ++ [(⟨(ByteArray.mk #[121]), 0, 0⟩ : Vl)]).length (fl Vl.cells (c25_1 ++ [(⟨(ByteArray.mk #[121]), 0, 0⟩ : Vl)])), slc 35 3 v13 x12.1.length (fl Vl.cells x12.1), slc 9 1 (nils 14) ([] : List ByteArray).length (fl sc ([] : List ByteArray)), slc 3 1 (nils 15) ([] : List Int).length (fl ic ([] : List Int)), slc 3 1 v37 (c32_1 ++ [5]).length (fl ic (c32_1 ++ [5])), slc 9 1 (nils 18) ([] : List ByteArray).length (fl sc ([] : List ByteArray)), slc 3 1 (nils 19) ([] : List Int).length (fl ic ([] : List Int)), slc 3 1 v21 x20.2.1.length (fl ic x20.2.1), slc 35 3 v24 x12.1.length (fl Vl.cells x12.1), pt b29 (.cells #[.string (ByteArray.mk #[121]), .int .i64 0, .int .u64 0] 35 (0, 0)), pt b35 (.cells #[.int .i64 5] 3 (0, 0)), slc 35 3 v39 x38.1.length (fl Vl.cells x38.1)] rfl ?_
              refine WO.val (PO.move rfl) rfl ?_
              refine WO.val (PO.extract rfl rfl) rfl ?_
              refine WO.val (PO.extract rfl rfl) rfl ?_
              refine WO.val (PO.assign rfl) rfl ?_
              refine WO.val (PO.assign rfl) rfl ?_
              refine WO.nil ?_
              refine WP.seq ?_
              refine WP.regionG (D := [some 96, some 97, some 98, some 99, some 100, some 101, some 102, some 103, some 104, some 105, some 106, some 107, some 108, some 109, some 110, some 111, some 112, some 113, some 114, some 115, some 116, some 117, some 118, some 119, some 120, some 121, some 122, some 123, some 124, some 125, some 126, some 127, some 128, some 129, some 130, some 131, some 132, some 133, some 134, some 135, some 136, some 137, some 2]) rfl ?_
              refine WO.val (PO.move rfl) rfl ?_
              obtain ⟨x40, hx40, hs⟩ := lt_elim hs
              refine WO.vo (VO.call0 Tryz.call11 rfl (t_L_no hx40)) rfl ?_
              refine WO.val (PO.eql rfl rfl) rfl ?_
              refine WO.val (PO.move rfl) rfl ?_
              refine WO.guardT rfl rfl (fun hg41 => (PO.move rfl).vo) rfl ?_
              refine WO.guardT rfl rfl (fun hg42 => (PO.move rfl).vo) rfl ?_
              obtain ⟨x44, hx44, hs⟩ := bind_elim hs
              refine WO.guardT rfl rfl (fun hg43 => VO.callX [6, 13] Tryz.call12 (evs_cons (evg hg43 rfl) (evs_cons (evg hg43 rfl) evs_nil)) rfl (t_L_sameVars (opt_t hx44 hg43)) (fun _ => ⟨rfl, rfl, trivial⟩) (fun _ => rfl) (fun _ => rfl)) rfl ?_
              refine WO.val (PO.pickA rfl rfl rfl) rfl ?_
              refine WO.val (PO.move rfl) rfl ?_
              refine WO.guardT rfl rfl (fun hg45 => (PO.move rfl).vo) rfl ?_
              refine WO.guardT rfl rfl (fun hg46 => (PO.move rfl).vo) rfl ?_
              obtain ⟨x48, hx48, hs⟩ := bind_elim hs
              refine WO.guardT rfl rfl (fun hg47 => VO.callX [16, 13] Tryz.call12 (evs_cons (evg hg47 rfl) (evs_cons (evg hg47 rfl) evs_nil)) rfl (t_L_sameVars (opt_t hx48 hg47)) (fun _ => ⟨rfl, rfl, trivial⟩) (fun _ => rfl) (fun _ => rfl)) rfl ?_
              refine WO.val (PO.pickA rfl rfl rfl) rfl ?_
              refine WO.val (PO.move rfl) rfl ?_
              refine WO.guardT rfl rfl (fun hg49 => (PO.move rfl).vo) rfl ?_
              refine WO.guardT rfl rfl (fun hg50 => (PO.move rfl).vo) rfl ?_
              obtain ⟨x52, hx52, hs⟩ := bind_elim hs
              refine WO.guardT rfl rfl (fun hg51 => VO.callX [12, 3] Tryz.call13 (evs_cons (evg hg51 rfl) (evs_cons (evg hg51 rfl) evs_nil)) rfl (t_L_sameInts (opt_t hx52 hg51)) (fun _ => ⟨rfl, rfl, trivial⟩) (fun _ => rfl) (fun _ => rfl)) rfl ?_
              refine WO.val (PO.pickA rfl rfl rfl) rfl ?_
              refine WO.val (PO.move rfl) rfl ?_
              refine WO.guardT rfl rfl (fun hg53 => (PO.move rfl).vo) rfl ?_
              refine WO.guardT rfl rfl (fun hg54 => (PO.move rfl).vo) rfl ?_
              obtain ⟨x56, hx56, hs⟩ := bind_elim hs
              refine WO.guardT rfl rfl (fun hg55 => VO.callX [4, 3] Tryz.call13 (evs_cons (evg hg55 rfl) (evs_cons (evg hg55 rfl) evs_nil)) rfl (t_L_sameInts (opt_t hx56 hg55)) (fun _ => ⟨rfl, rfl, trivial⟩) (fun _ => rfl) (fun _ => rfl)) rfl ?_
              refine WO.val (PO.pickA rfl rfl rfl) rfl ?_
              refine WO.val (PO.move rfl) rfl ?_
              refine WO.guardT rfl rfl (fun hg57 => (PO.move rfl).vo) rfl ?_
              refine WO.guardT rfl rfl (fun hg58 => (PO.move rfl).vo) rfl ?_
              refine WO.guardT rfl rfl (fun hg59 => (PO.lenL 5 (evg hg59 rfl) Tryz.runUnderlying27 rfl).vo) rfl ?_
              refine WO.guardT rfl rfl (fun hg60 => (PO.sub (evg hg60 rfl) rfl).vo) rfl ?_
              obtain ⟨x62, hx62, hs⟩ := bind_elim hs
              refine WO.guardT rfl rfl (fun hg61 => (PO.idxL 5 (evg hg61 rfl) (evg hg61 rfl) Tryz.runUnderlying27 Tryz.sizeOf35 rfl (opt_t hx62 hg61)).vo) rfl ?_
              refine WO.guardT rfl rfl (fun hg63 => (PO.fieldAddr (evg hg63 rfl) Tryz.runUnderlying35 rfl Tryz.sizeOf9 rfl).vo) rfl ?_
              refine WO.guardT rfl rfl (fun hg64 => (PO.loadL 5 (evg hg64 rfl) Tryz.isAgg9 rfl (fl_at (c := Vl.cells) (k := 3) (j := 0) (fun _ => rfl) (opt_t hx62 hg64) rfl)).vo) rfl ?_
              refine WO.guardT rfl rfl (fun hg65 => (PO.seql (evg hg65 rfl) rfl).vo) rfl ?_
              refine WO.val (PO.pickA rfl rfl rfl) rfl ?_
              refine WO.val (PO.move rfl) rfl ?_
              refine WO.guardT rfl rfl (fun hg66 => (PO.move rfl).vo) rfl ?_
              refine WO.guardT rfl rfl (fun hg67 => (PO.move rfl).vo) rfl ?_
              refine WO.guardT rfl rfl (fun hg68 => (PO.lenL 9 (evg hg68 rfl) Tryz.runUnderlying24 rfl).vo) rfl ?_
              refine WO.guardT rfl rfl (fun hg69 => (PO.sub (evg hg69 rfl) rfl).vo) rfl ?_
              obtain ⟨x71, hx71, hs⟩ := bind_elim hs
              refine WO.guardT rfl rfl (fun hg70 => (PO.idxL 9 (evg hg70 rfl) (evg hg70 rfl) Tryz.runUnderlying24 Tryz.sizeOf3 rfl (opt_t hx71 hg70)).vo) rfl ?_
              refine WO.guardT rfl rfl (fun hg72 => (PO.loadL 9 (evg hg72 rfl) Tryz.isAgg3 rfl (fl_at (c := ic) (k := 1) (j := 0) (fun _ => rfl) (opt_t hx71 hg72) rfl)).vo) rfl ?_
              refine WO.guardT rfl rfl (fun hg73 => (PO.eql (evg hg73 rfl) rfl).vo) rfl ?_
              refine WO.val (PO.pickA rfl rfl rfl) rfl ?_
              refine WO.val (PO.assign rfl) rfl ?_
              refine WO.nil ?_
              refine WP.ret ?_
              obtain rfl := Option.some.inj hs
              exact ⟨_, (), _, _, rfl, Res.one (RV.tmp rfl), rfl, fun _ s => Sat.out [0, 1] rfl s⟩
attribute [irreducible] s_EvalFresh

end Go.Proofs.YtlnionilhagenaaGreatDoor
